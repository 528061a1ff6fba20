/-
  THE WALK of sealpressref.Next at forms 1 and 5.
-/
import Derived.Test.YtafkoeebnkmpcaaDoorRefNext
import Derived.ChangeAlike
namespace Go.Proofs.YtafkoeebnkmpcaaDoor
open Go.RowKit

/-- What the loop over the bytes knows: the piece's block, the result's block, what was there. -/
def RefRel (w : World) (num form : Nat) (wr : World) (v : Nat) : Prop :=
  Blk wr w.heap.size 43 #[.int .i64 0, .int .i64 0, .int .u64 0, .string ⟨#[]⟩, .string ⟨#[]⟩] ∧ Blk wr (w.heap.size + 1) 43 #[.int .i64 ((num : Nat) : Int), .int .i64 ((form : Nat) : Int), .int .u64 ((v : Nat) : Int), .string ⟨#[]⟩, .string ⟨#[]⟩] ∧ Below w.heap.size w wr ∧ v < 18446744073709551616

theorem Sp.le_snoc {l : List UInt8} {q : Nat} {x : UInt8} (hx : l[q]? = some x) : Sp.le (l.take (q + 1)) = Sp.le (l.take q) + 256 ^ q * x.toNat ∧ Sp.le (l.take q) < 256 ^ q := by
  have hl : q < l.length := by
    rcases Nat.lt_or_ge q l.length with h | h
    · exact h
    · rw [List.getElem?_eq_none h] at hx; cases hx
  have hget : l[q] = x := by
    rw [List.getElem?_eq_getElem hl] at hx
    injection hx
  have hlen : (l.take q).length = q := by rw [List.length_take]; omega
  have h1 := Sp.le_lt (l.take q)
  rw [hlen] at h1
  refine ⟨?_, h1⟩
  rw [List.take_succ_eq_append_getElem hl, Sp.le_append, hlen, hget]
  simp [Sp.le]
theorem Sp.add8 {q c v x : Nat} (hq : q < 8) (hc : c = 8 * q) (hv : v < 256 ^ q) (hx : x < 256) :
    IntKind.u64.wrap ((v : Int) + IntKind.u64.wrap ((x : Int) * 2 ^ min c 64)) = ((v + 256 ^ q * x : Nat) : Int) ∧ v + 256 ^ q * x < 18446744073709551616 := by
  have e1 : min c 64 = 8 * q := by omega
  have e2 : (2 : Int) ^ (8 * q) = ((256 ^ q : Nat) : Int) := by
    rw [Int.natCast_pow, Int.pow_mul]; rfl
  have hp : 256 ^ q ≤ 256 ^ 7 := Nat.pow_le_pow_right (by omega) (by omega)
  have e7 : (256 : Nat) ^ 7 = 72057594037927936 := by simp
  rw [e7] at hp
  have hxm : 256 ^ q * x ≤ 256 ^ q * 255 := Nat.mul_le_mul_left _ (by omega)
  have hlt : v + 256 ^ q * x < 18446744073709551616 := by omega
  refine ⟨?_, hlt⟩
  rw [e1, e2, ← Int.natCast_mul, Nat.mul_comm x, IntKind.wrap_u64, IntKind.wrap_u64, Int.emod_eq_of_lt (a := ((256 ^ q * x : Nat) : Int)) (by omega) (by omega), ← Int.natCast_add, Int.emod_eq_of_lt (by omega) (by omega)]
theorem refrel_step {w wr : World} {num form v v' : Nat} (h : RefRel w num form wr v) (hv : v' < 18446744073709551616) : RefRel w num form ((wr.setCell ⟨w.heap.size + 1, 2, none⟩ (.int .u64 (v' : Int))).drew) v' := by
  obtain ⟨h1, h2, h3, _⟩ := h
  refine ⟨Blk.drew (h1.far (by simp) _), ?_, (h3.setCell (by simp) _).drew, hv⟩
  have := h2.set_ 2 (.int .u64 (v' : Int))
  exact Blk.drew this

set_option maxRecDepth 100000 in
set_option maxHeartbeats 4000000 in
theorem refnext_eight (s : ByteArray) (w : World) (hs : s.size ≤ 1000000) (tag k : Nat) (hg : Sp.gv 0 (sb s) = some (tag, k)) (ht1 : ¬ tag / 8 < 1) (ht2 : ¬ 536870911 < tag / 8) (hf : tag % 8 = 1) :
    Calls Tryd.prog 19 #[.string s] w (RefPost w (sb s) (Sp.body (tag / 8) 1 k ((sb s).drop k))) := by
  have HG := Lib.hid hg
  have hgs := Sp.gv_some hg
  have hlen := sb_length s
  have htop : Sp.top 0 = 18446744073709551616 := rfl
  rw [htop] at hgs
  obtain ⟨_, hg1, hg2, hg3, hg4⟩ := hgs
  have hk10 : k ≤ 10 := by omega
  have hkn : k ≤ s.size := by omega
  have h1 : decide ((tag : Int) / 8 < 1) = false := by simp; omega
  have h2 : decide (536870911 < (tag : Int) / 8) = false := by simp; omega
  have hw : wrap64 ((tag : Int) / 8) = (tag : Int) / 8 := by unfold wrap64; omega
  have hm : (tag : Int) % 8 = 1 := by omega
  have hwq : IntKind.u64.wrap ((tag : Int) / 8) = (tag : Int) / 8 := by rw [IntKind.wrap_u64]; omega
  have hex := sb_extract s k
  obtain ⟨sl, hsl⟩ : ∃ sl, s.extract k s.size = sl := ⟨_, rfl⟩
  rw [hsl] at hex
  have hslz := sb_length sl
  rw [hex, List.length_drop, hlen] at hslz
  have hz1 : k + sl.size ≤ s.size := by omega
  have hz2 : s.size ≤ k + sl.size := by omega
  have HEX := Lib.hid hex
  clear hg hg1 hg3 hg4 hlen htop ht1 ht2 hf hslz hex
  by_cases hlt : sl.size < 8
  · have HB := Lib.hid (show Sp.body (tag / 8) 1 k ((sb s).drop k) = none from Sp.body_eight_none (by rw [List.length_drop, sb_length]; omega))
    go_enter Tryd.func19, Tryd.ntmps19
    go_wp2_with fail
    refine (refget_any s _ (by omega)).mono ?_
    rintro e w1 ⟨rfl, rfl⟩
    rw [HG.out]
    simp only [refRes]
    go_wp2_with fail
    exact bodyPost_ret (v := .tuple #[noRef, .int .i64 3]) (by simp [results, Tryd.results19, go_sem, noRef]) rfl (refPost_none HB.out (((Below.refl _ _).alloc (Nat.le_refl _) _).alloc (by simp) _))
  · have HB := Lib.hid (show Sp.body (tag / 8) 1 k ((sb s).drop k) = some ⟨tag / 8, 1, Sp.le (((sb s).drop k).take 8), [], k + 8⟩ from Sp.body_eight (by rw [List.length_drop, sb_length]; omega))
    have hd8 : decide ((sl.size : Int) < 8) = false := by simp; omega
    go_enter Tryd.func19, Tryd.ntmps19
    go_wp2_with fail
    refine (refget_any s _ (by omega)).mono ?_
    rintro e w1 ⟨rfl, rfl⟩
    rw [HG.out]
    simp only [refRes]
    go_wp2_with fail
    rw [hw]
    go_loopw [78] (fun i wr => ∃ q : Nat, q ≤ 8 ∧ i = .int .i64 (q : Int) ∧ Hid (RefRel w (tag / 8) 1 wr (Sp.le (((sb s).drop k).take q)))) (fun i _ => 8 - (intOf i).toNat)
    case atStart =>
      refine ⟨0, by omega, rfl, ?_⟩
      rw [List.take_zero]
      exact (⟨(Blk.new w _ _).alloc _, Blk.new_at _ _ _ (by simp), ((Below.refl _ _).alloc (Nat.le_refl _) _).alloc (by simp) _, by simp⟩ : RefRel w (tag / 8) 1 _ 0)
    case round =>
      obtain ⟨q, hq, rfl, HF⟩ := hrel
      by_cases hq8 : q < 8
      · obtain ⟨x, t, hd, hx, ht⟩ := drop_cons (bs := sb sl) (k := q) (by rw [sb_length]; omega)
        have hcell := sb_get hx (by omega)
        have hx8 := Sp.toNat_lt x
        obtain ⟨⟨p0, p1, p2, p3, p4⟩, q0, q1, q2, q3, q4⟩ := Blk.five HF.out.2.1
        rw [HEX.out] at hx
        obtain ⟨hst, hsv⟩ := Sp.le_snoc hx
        obtain ⟨v, hv⟩ : ∃ v, v = Sp.le (((sb s).drop k).take q) := ⟨_, rfl⟩
        rw [← hv] at p2 HF hst hsv
        have hqs : (q : Int) < (sl.size : Int) := by omega
        obtain ⟨c, hc, hc8⟩ : ∃ c : Nat, IntKind.i64.wrap (8 * (q : Int)) = (c : Int) ∧ c = 8 * q := ⟨8 * q, by rw [IntWalk.i64_left]; unfold wrap64; omega, rfl⟩
        have HA := Lib.hid (Sp.add8 hq8 hc8 hsv hx8)
        have HST := Lib.hid hst
        clear hv hx hd ht p0 p1 p3 p4 q0 q1 q3 q4 hc8 hst hsv
        go_wp2_with fail
        go_region
        go_wp2_with fail
        go_roundw
        case rel =>
          refine ⟨q + 1, by omega, by go_num, ?_⟩
          rw [HA.out.1, HST.out]
          exact refrel_step HF.out HA.out.2
        case measure => simp [intOf]; omega
      · obtain rfl : q = 8 := by omega
        obtain ⟨v, hv⟩ : ∃ v, v = Sp.le (((sb s).drop k).take 8) := ⟨_, rfl⟩
        rw [← hv] at HF HB
        obtain ⟨⟨p0, p1, p2, p3, p4⟩, q0, q1, q2, q3, q4⟩ := Blk.five HF.out.1
        obtain ⟨⟨r0, r1, r2, r3, r4⟩, s0, s1, s2, s3, s4⟩ := Blk.five HF.out.2.1
        clear hv
        go_wp2_with fail
        refine bodyPost_ret (v := .tuple #[.agg #[.int .i64 ((tag : Int) / 8), .int .i64 1, .int .u64 v, .string ⟨#[]⟩, .string (s.extract 0 (k + 8))], .int .i64 0]) (by simp [results, Tryd.results19, go_sem, p0, p1, p2, p3, p4]) rfl ?_
        refine refPost_some HB.out ?_ (by rw [head_eq]; rfl)
        iterate 6 refine Below.setCell ?_ (by simp) _
        exact HF.out.2.2.1
end Go.Proofs.YtafkoeebnkmpcaaDoor
