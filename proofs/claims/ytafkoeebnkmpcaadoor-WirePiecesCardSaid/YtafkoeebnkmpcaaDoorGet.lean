/-
  THE WALK of wire.GetVarint: over any bytes it returns what 'Sp.gv 0' says; the world is as it was.
-/
import Derived.Test.YtafkoeebnkmpcaaDoorProg
import Derived.Test.YtafkoeebnkmpcaaDoorWords
import Derived.Test.YtafkoeebnkmpcaaDoorNum
import Derived.WalkSpells
import Derived.WalkLawsBesides
import Derived.BigGuardPart
namespace Go.Proofs.YtafkoeebnkmpcaaDoor
open Go.RowKit

def gvRes : Option (Nat × Nat) → Value
  | none => .tuple #[.int .u64 0, .int .i64 0, .iface 24 (.int .i64 3)]
  | some (m, k) => .tuple #[.int .u64 m, .int .i64 k, .nilIface]

theorem drop_cons {bs : List UInt8} {k : Nat} (h : k < bs.length) : ∃ x t, bs.drop k = x :: t ∧ bs[k]? = some x ∧ bs.drop (k + 1) = t := by
  rcases hdd : bs.drop k with _ | ⟨x, t⟩
  · have := List.length_drop (i := k) (l := bs)
    rw [hdd] at this
    simp at this
    omega
  · refine ⟨x, t, rfl, ?_, ?_⟩
    · have := congrArg (fun l : List UInt8 => l[0]?) hdd
      simpa using this
    · have := congrArg (fun l : List UInt8 => l.drop 1) hdd
      simpa [List.drop_drop] using this

theorem get_err {x : Option (Nat × Nat)} (h : x = none) : Value.tuple #[.int .u64 0, .int .i64 0, .iface 24 (.int .i64 3)] = gvRes x := by subst h; rfl
theorem get_ok {x : Option (Nat × Nat)} {m k : Nat} {a b : Int} (h : x = some (m, k)) (ha : a = m) (hb : b = k) : Value.tuple #[.int .u64 a, .int .i64 b, .nilIface] = gvRes x := by subst h; subst ha; subst hb; rfl

set_option maxRecDepth 100000 in
set_option maxHeartbeats 2000000 in
theorem get_any (B : Nat) (A : Option Addr) (n c : Nat) (bs : List UInt8) (w : World) (h : Rd w B A n bs) (hn : n ≤ 1000000000) :
    Calls Tryd.prog 6 #[.slice A n c] w fun e w' => e = .returned (gvRes (Sp.gv 0 bs)) ∧ w = w' := by
  rcases Nat.eq_zero_or_pos n with h0 | h0
  · subst h0
    have hbs : bs = [] := List.eq_nil_of_length_eq_zero h.len
    have HB := Lib.hid hbs
    clear h hbs
    go_enter Tryd.func6, Tryd.ntmps6
    go_wp2
    refine wp_loop_rounds 1 ?_
    rw [rounds_succ]
    go_wp2
    go_ret3
    exact ⟨congrArg Ending.returned (get_err (by rw [HB.out]; rfl)), rfl⟩
  · obtain ⟨b, off, rfl, hb, hc⟩ := h.at_ h0
    have HL := Lib.hid h.len
    go_enter Tryd.func6, Tryd.ntmps6
    go_wp2
    go_loop [5, 10] (fun u i => ∃ k m : Nat, k ≤ n ∧ k ≤ 10 ∧ i = .int .i64 k ∧ u = .int .u64 m ∧ Hid (m < 128 ^ k) ∧ Hid (Sp.gv 0 bs = Sp.shift k m (Sp.gv k (bs.drop k)))) (fun _ i => n - (intOf i).toNat)
    case atStart => exact ⟨0, 0, by omega, by omega, rfl, rfl, (by simp : 0 < 128 ^ 0), (by rw [Sp.shift_zero]; rfl : Sp.gv 0 bs = Sp.shift 0 0 (Sp.gv 0 (bs.drop 0)))⟩
    case round =>
      obtain ⟨k, m, hk, hk10, rfl, rfl, HM, HG⟩ := hrel
      by_cases hlt : k < n
      · obtain ⟨x, t, hd, hx, ht⟩ := drop_cons (bs := bs) (k := k) (by rw [HL.out]; exact hlt)
        have hcell := hc k x hx
        have hx8 := Sp.toNat_lt x
        clear hc h
        have HD := Lib.hid hd
        have HT := Lib.hid ht
        clear hd hx ht
        by_cases h1 : 9 < k
        · go_wp2
          go_ret3
          exact ⟨congrArg Ending.returned (get_err (by rw [HG.out, HD.out]; exact Sp.shift_stop (.inl h1))), rfl⟩
        · have h90 : decide ((9 : Int) < (k : Int)) = false := by simp; omega
          by_cases h2 : 9 ≤ k
          · have h91 : ((k : Int) == 9) = true := by simp; omega
            by_cases h3 : 1 < x.toNat
            · have h3' : (1 : Int) < (x.toNat : Int) := by omega
              go_wp2
              go_ret3
              exact ⟨congrArg Ending.returned (get_err (by rw [HG.out, HD.out]; exact Sp.shift_stop (.inr ⟨by omega, h3⟩))), rfl⟩
            · have h4 : x.toNat < 128 := by omega
              go_wp2
              go_ret3
              exact ⟨congrArg Ending.returned (get_ok (by rw [HG.out, HD.out]; exact Sp.shift_done (by omega) h4)
                ((Sp.or_step (by omega) hx8 (by omega) HM.out).trans (by rw [Nat.mod_eq_of_lt h4])) (by omega)), rfl⟩
          · have h91 : ((k : Int) == 9) = false := by simp; omega
            by_cases h3 : x.toNat < 128
            · go_wp2
              go_ret3
              exact ⟨congrArg Ending.returned (get_ok (by rw [HG.out, HD.out]; exact Sp.shift_done (by omega) h3)
                ((Sp.or_step (by omega) hx8 (by omega) HM.out).trans (by rw [Nat.mod_eq_of_lt h3])) (by omega)), rfl⟩
            · clear h91
              go_wp2
              go_round
              case rel =>
                refine ⟨k + 1, m + 128 ^ k * (x.toNat % 128), by omega, by omega, by go_num, ?_, Sp.had_lt HM.out (by omega), ?_⟩
                · exact congrArg _ (Sp.or_step (by omega) hx8 (by omega) HM.out)
                · have e : x.toNat % 128 = x.toNat - 128 := by omega
                  have := HG.out
                  rw [HD.out] at this
                  rw [HT.out, e]
                  exact this.trans (Sp.shift_on (by omega) h3)
              case measure => simp [intOf]; omega
      · have hkn : bs.drop k = [] := List.drop_eq_nil_of_le (by rw [HL.out]; omega)
        have HD := Lib.hid hkn
        clear hkn hc h
        go_wp2
        go_ret3
        exact ⟨congrArg Ending.returned (get_err (by rw [HG.out, HD.out]; rfl)), rfl⟩
end Go.Proofs.YtafkoeebnkmpcaaDoor
