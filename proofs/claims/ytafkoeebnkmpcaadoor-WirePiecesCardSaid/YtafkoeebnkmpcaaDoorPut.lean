/-
  THE WALK of wire.PutVarint: onto any row of the call's own it appends the bytes 'Sp.vb n'; the old slice owns what it owned.
-/
import Derived.Test.YtafkoeebnkmpcaaDoorProg
import Derived.Test.YtafkoeebnkmpcaaDoorWords
import Derived.Test.YtafkoeebnkmpcaaDoorNum
import Derived.WalkSpells
import Derived.WalkLawsBesides
namespace Go.Proofs.YtafkoeebnkmpcaaDoor
open Go.RowKit

theorem infoB : (Tryd.prog.info? 5).map (fun i => (i.zero, i.size, i.bytes)) = some (some (.int .u8 0), 1, 1) := by kernel_rfl

/-- The bytes of an owned row, in the form that the next call takes. -/
theorem own_rd {w : World} {base : Nat} {v : Value} {n : Nat} {bs : List UInt8} (h : w.ownsRow base 5 1 v n (cb bs)) : ∃ A c, v = .slice A n c ∧ n ≤ c ∧ c ≤ maxLen ∧ Rd w w.heap.size A n bs := by
  obtain ⟨A, c, rfl, h1, h2⟩ := own_form h
  exact ⟨A, c, rfl, h1, h2, RdV.of_own h⟩

theorem own_empty {w : World} {base : Nat} (hb : base ≤ w.heap.size) : (w.alloc (.cells #[] 5)).ownsRow base 5 1 (.slice (some ⟨w.heap.size, 0, none⟩) 0 0) 0 [] :=
  World.ownsRow_made w #[] 0 hb (by simp [maxLen]) rfl

theorem own_empty_at {w : World} {base g : Nat} (hg : w.heap.size = g) (hb : base ≤ w.heap.size) : (w.alloc (.cells #[] 5)).ownsRow base 5 1 (.slice (some ⟨g, 0, none⟩) 0 0) 0 [] := by
  subst hg; exact own_empty hb
/-- What a function that appends leaves: the slice that it hands back owns the old cells and bs. -/
def AppPost (base : Nat) (w : World) (v : Value) (nv : Nat) (xs : List Value) (bs : List UInt8) (e : Ending) (w' : World) : Prop :=
  ∃ v', e = .returned v' ∧ w'.ownsRow base 5 1 v' (nv + bs.length) (xs ++ cb bs) ∧ Upd 5 base w w' v nv xs v'

theorem byte_last (m : Nat) (h : m < 128) : Value.int .u8 (m : Int) = .int .u8 ((UInt8.ofNat m).toNat : Int) := by
  rw [Sp.ofNat_toNat m (by omega)]
theorem byte_more (m : Nat) : Value.int .u8 (bits BinOp.or IntKind.u8 ((m : Int) % 256) 128) = .int .u8 ((UInt8.ofNat (m % 128 + 128)).toNat : Int) := by
  rw [Sp.ofNat_toNat _ (by omega)]
  have e1 : (m : Int) % 256 = ((m % 256 : Nat) : Int) := by omega
  have e2 := u8_or_nat (m % 256) 128 (by omega) (by omega)
  have e3 : m % 256 ||| 128 = m % 128 + 128 := by
    have hb : ∀ x : Fin 256, x.val ||| 128 = x.val % 128 + 128 := by decide +kernel
    have := hb ⟨m % 256, by omega⟩
    simp only at this
    omega
  rw [e3] at e2
  rw [e1]
  exact congrArg _ e2

theorem vb_more {d m f : Nat} (hd : d + f = 9) (hm : m < Sp.top d) (h : ¬ m < 128) : ∃ g, f = g + 1 ∧ Sp.vbF f m = UInt8.ofNat (m % 128 + 128) :: Sp.vbF g (m / 128) ∧ m / 128 < Sp.top (d + 1) ∧ (d + 1) + g = 9 := by
  rcases f with _ | g
  · obtain rfl : d = 9 := by omega
    rw [Sp.top9] at hm; omega
  · refine ⟨g, rfl, by rw [Sp.vbF, if_neg h], ?_, by omega⟩
    have := Sp.top_step d (by omega)
    omega
theorem vb_done {m f : Nat} (h : m < 128) : Sp.vbF f m = [UInt8.ofNat m] := by
  cases f with
  | zero => rfl
  | succ f => rw [Sp.vbF, if_pos h]

theorem put_step {base : Nat} {w wr w1 : World} {v s v1 : Value} {nv : Nat} {xs : List Value} {done : List UInt8} {o : Obj} {X : Value} {c : UInt8} (hown : wr.ownsRow base 5 1 s (nv + done.length) (xs ++ cb done)) (hu : Upd 5 base w wr v nv xs s)
    (h2 : w1.ownsRow base 5 1 v1 (nv + done.length + 1) (xs ++ (cb done ++ [X]))) (h3 : (wr.alloc o).grownBy w1 s.ownBlock) (h4 : v1.ownBlock = s.ownBlock ∨ v1.ownBlock = some (wr.heap.size + 1)) (h5 : w1.ownsRow base 5 1 s (nv + done.length) (xs ++ cb done)) (hX : X = .int .u8 (c.toNat : Int)) :
    w1.ownsRow base 5 1 v1 (nv + (done ++ [c]).length) (xs ++ cb (done ++ [c])) ∧ Upd 5 base w w1 v nv xs v1 := by
  subst hX
  refine ⟨?_, (hu.alloc o).step (hown.alloc o) h3 h5 (by simpa using h4)⟩
  rw [cb_append, List.length_append, ← Nat.add_assoc]
  exact h2

set_option maxRecDepth 100000 in
set_option maxHeartbeats 2000000 in
theorem put_any (base : Nat) (v : Value) (nv : Nat) (xs : List Value) (n : Nat) (w : World) (hown : w.ownsRow base 5 1 v nv xs) (hn : n < 18446744073709551616) (hnv : nv ≤ 1000000000) (hbase : base ≤ w.heap.size) :
    Calls Tryd.prog 10 #[v, .int .u64 n] w (AppPost base w v nv xs (Sp.vb n)) := by
  obtain ⟨i0, hi, hz0, hz1, hz2⟩ := info_parts infoB
  have HN := Lib.hid hn
  clear hn
  go_enter Tryd.func10, Tryd.ntmps10
  go_wp2
  go_loopw [0, 1] (fun s u wr => ∃ (done : List UInt8) (m f : Nat), u = .int .u64 m ∧ wr.ownsRow base 5 1 s (nv + done.length) (xs ++ cb done) ∧ Upd 5 base w wr v nv xs s ∧ Hid (Sp.vb n = done ++ Sp.vbF f m) ∧ done.length ≤ 9 ∧ Hid (done.length + f = 9 ∧ m < Sp.top done.length ∧ m < 18446744073709551616)) (fun _ u _ => (intOf u).toNat)
  case atStart => exact ⟨[], n, 9, rfl, by simpa [cb] using hown, Upd.refl hown, (rfl : Sp.vb n = [] ++ Sp.vbF 9 n), by simp, (⟨rfl, HN.out, HN.out⟩ : 0 + 9 = 9 ∧ n < Sp.top 0 ∧ n < 18446744073709551616)⟩
  case round =>
    obtain ⟨done, m, f, rfl, hownr, hupd, HV, hd9, HM⟩ := hrel
    have hsz := hupd.1.size
    by_cases hlt : m < 128
    · go_wp2_with (first | (at_builtin; go_must (refine wpList_app _ rfl _ _ 22 rfl base 5 i0 (.int .u8 0) 1 Tryd.underlying22 hi hz0 hz1 hz2 rfl _ _ _ rfl (hownr.alloc _) _ _ _ _ _ rfl (RdV.one _ _ _) ?_ ?_ ?_ ?_ ?_)))
      · intro u hu; simp at hu; subst hu; rfl
      · unfold maxLen; omega
      · omega
      · simp; omega
      · intro v1 w1 h2 h3 h4 h5
        have R := put_step hownr hupd h2 h3 h4 h5 (byte_last m hlt)
        have HR := Lib.hid R
        clear R h2 h3 h4 h5 hownr hupd hown
        go_wp2
        go_ret
        refine ⟨_, rfl, ?_⟩
        rw [HV.out, vb_done hlt]
        exact HR.out
    · go_wp2_with (first | (at_builtin; go_must (refine wpList_app _ rfl _ _ 22 rfl base 5 i0 (.int .u8 0) 1 Tryd.underlying22 hi hz0 hz1 hz2 rfl _ _ _ rfl (hownr.alloc _) _ _ _ _ _ rfl (RdV.one _ _ _) ?_ ?_ ?_ ?_ ?_)))
      · intro u hu; simp at hu; subst hu; rfl
      · unfold maxLen; omega
      · omega
      · simp; omega
      · intro v1 w1 h2 h3 h4 h5
        have R := put_step hownr hupd h2 h3 h4 h5 (byte_more m)
        obtain ⟨g, hg1, hg2, hg3, hg4⟩ := vb_more HM.out.1 HM.out.2.1 hlt
        have HG := Lib.hid hg1
        have HG2 := Lib.hid hg2
        have HG3 := Lib.hid hg3
        have HG4 := Lib.hid hg4
        obtain ⟨r1, r2⟩ := R
        clear hg1 hg2 hg3 hg4 h2 h3 h4 h5 hownr hupd hown
        go_wp2
        go_roundw
        case rel =>
          refine ⟨done ++ [UInt8.ofNat (m % 128 + 128)], m / 128, g, by go_num, r1, r2, ?_, by have := HG4.out; simp; omega, ?_⟩
          · have := HV.out
            rw [HG2.out] at this
            exact (this.trans (by simp) : Sp.vb n = (done ++ [UInt8.ofNat (m % 128 + 128)]) ++ Sp.vbF g (m / 128))
          · have e : (done ++ [UInt8.ofNat (m % 128 + 128)]).length = done.length + 1 := by simp
            exact (⟨by rw [e]; exact HG4.out, by rw [e]; exact HG3.out, by have := HM.out.2.2; omega⟩ : (done ++ [UInt8.ofNat (m % 128 + 128)]).length + g = 9 ∧ m / 128 < Sp.top (done ++ [UInt8.ofNat (m % 128 + 128)]).length ∧ m / 128 < 18446744073709551616)
        case measure => simp [intOf]; omega
end Go.Proofs.YtafkoeebnkmpcaaDoor
