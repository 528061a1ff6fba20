/-
  THE WALK of sealpressref.GetVarint: over any string it returns what 'Sp.gv 0' says; the world is as it was.
-/
import Derived.Test.YtafkoeebnkmpcaaDoorBare
namespace Go.Proofs.YtafkoeebnkmpcaaDoor
open Go.RowKit

/-- The bytes of a string. -/
def sb (s : ByteArray) : List UInt8 := s.data.toList
theorem sb_length (s : ByteArray) : (sb s).length = s.size := by simp [sb]
theorem sb_get {s : ByteArray} {k : Nat} {x : UInt8} (h : (sb s)[k]? = some x) (hk : k < s.size) : s[k] = x := by
  have h1 : k < (sb s).length := by rw [sb_length]; exact hk
  rw [List.getElem?_eq_getElem h1] at h
  injection h
def refRes : Option (Nat × Nat) → Value
  | none => .tuple #[.int .u64 0, .int .i64 0, .int .i64 3]
  | some (m, k) => .tuple #[.int .u64 m, .int .i64 k, .int .i64 0]
theorem ref_err {x : Option (Nat × Nat)} (h : x = none) : Value.tuple #[.int .u64 0, .int .i64 0, .int .i64 3] = refRes x := by subst h; rfl
theorem ref_ok {x : Option (Nat × Nat)} {m k : Nat} {a b : Int} (h : x = some (m, k)) (ha : a = m) (hb : b = k) : Value.tuple #[.int .u64 a, .int .i64 b, .int .i64 0] = refRes x := by subst h; subst ha; subst hb; rfl

set_option maxRecDepth 100000 in
set_option maxHeartbeats 2000000 in
theorem refget_any (s : ByteArray) (w : World) (hs : s.size ≤ 1000000000) :
    Calls Tryd.prog 5 #[.string s] w fun e w' => e = .returned (refRes (Sp.gv 0 (sb s))) ∧ w = w' := by
  have HL := Lib.hid (sb_length s)
  go_enter Tryd.func5, Tryd.ntmps5
  go_wp2
  go_loop [5, 6] (fun u i => ∃ k m : Nat, k ≤ s.size ∧ k ≤ 10 ∧ i = .int .i64 k ∧ u = .int .u64 m ∧ Hid (m < 128 ^ k) ∧ Hid (Sp.gv 0 (sb s) = Sp.shift k m (Sp.gv k ((sb s).drop k)))) (fun _ i => s.size - (intOf i).toNat)
  case atStart => exact ⟨0, 0, by omega, by omega, rfl, rfl, (by simp : 0 < 128 ^ 0), (by rw [Sp.shift_zero]; rfl : Sp.gv 0 (sb s) = Sp.shift 0 0 (Sp.gv 0 ((sb s).drop 0)))⟩
  case round =>
    obtain ⟨k, m, hk, hk10, rfl, rfl, HM, HG⟩ := hrel
    by_cases hlt : k < s.size
    · obtain ⟨x, t, hd, hx, ht⟩ := drop_cons (bs := sb s) (k := k) (by rw [HL.out]; exact hlt)
      have hcell := sb_get hx hlt
      have hx8 := Sp.toNat_lt x
      have HD := Lib.hid hd
      have HT := Lib.hid ht
      clear hd hx ht
      by_cases h1 : k = 10
      · have h0 : decide ((k : Int) < 10) = false := by simp; omega
        have HK := Lib.hid h1
        clear h1
        go_wp2
        go_ret3
        exact ⟨congrArg Ending.returned (ref_err (by rw [HG.out, HD.out]; exact Sp.shift_stop (.inl (by have := HK.out; omega)))), rfl⟩
      · have h0 : decide ((k : Int) < 10) = true := by simp; omega
        by_cases h2 : 9 ≤ k
        · have h91 : ((k : Int) == 9) = true := by simp; omega
          by_cases h3 : 1 < x.toNat
          · have h3' : decide ((1 : Int) < (x.toNat : Int)) = true := by simp; omega
            go_wp2
            go_ret3
            exact ⟨congrArg Ending.returned (ref_err (by rw [HG.out, HD.out]; exact Sp.shift_stop (.inr ⟨by omega, h3⟩))), rfl⟩
          · have h3' : decide ((1 : Int) < (x.toNat : Int)) = false := by simp; omega
            have h4 : x.toNat < 128 := by omega
            go_wp2
            go_ret3
            exact ⟨congrArg Ending.returned (ref_ok (by rw [HG.out, HD.out]; exact Sp.shift_done (by omega) h4)
              ((Sp.add_step (by omega) (by omega) HM.out).trans (by rw [Nat.mod_eq_of_lt h4])) (by omega)), rfl⟩
        · have h91 : ((k : Int) == 9) = false := by simp; omega
          by_cases h3 : x.toNat < 128
          · go_wp2
            go_ret3
            exact ⟨congrArg Ending.returned (ref_ok (by rw [HG.out, HD.out]; exact Sp.shift_done (by omega) h3)
              ((Sp.add_step (by omega) (by omega) HM.out).trans (by rw [Nat.mod_eq_of_lt h3])) (by omega)), rfl⟩
          · go_wp2
            go_round
            case rel =>
              refine ⟨k + 1, m + 128 ^ k * (x.toNat % 128), by omega, by omega, by go_num, ?_, Sp.had_lt HM.out (by omega), ?_⟩
              · exact congrArg _ (Sp.add_step (by omega) (by omega) HM.out)
              · have e : x.toNat % 128 = x.toNat - 128 := by omega
                have := HG.out
                rw [HD.out] at this
                rw [HT.out, e]
                exact this.trans (Sp.shift_on (by omega) h3)
            case measure => simp [intOf]; omega
    · have hkn : (sb s).drop k = [] := List.drop_eq_nil_of_le (by rw [HL.out]; omega)
      have HD := Lib.hid hkn
      clear hkn
      by_cases h1 : k = 10
      · have h0 : decide ((k : Int) < 10) = false := by simp; omega
        clear h1
        go_wp2
        go_ret3
        exact ⟨congrArg Ending.returned (ref_err (by rw [HG.out, HD.out]; rfl)), rfl⟩
      · have h0 : decide ((k : Int) < 10) = true := by simp; omega
        have h5 : decide ((k : Int) < (s.size : Int)) = false := by simp; omega
        go_wp2
        go_ret3
        exact ⟨congrArg Ending.returned (ref_err (by rw [HG.out, HD.out]; rfl)), rfl⟩
end Go.Proofs.YtafkoeebnkmpcaaDoor
