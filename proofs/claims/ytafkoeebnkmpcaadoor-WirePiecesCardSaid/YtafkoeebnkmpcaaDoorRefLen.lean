/-
  THE WALK of sealpressref.Next at form 2.
-/
import Derived.Test.YtafkoeebnkmpcaaDoorRefNext
namespace Go.Proofs.YtafkoeebnkmpcaaDoor
open Go.RowKit

set_option maxRecDepth 100000 in
set_option maxHeartbeats 4000000 in
theorem refnext_length (s : ByteArray) (w : World) (hs : s.size ≤ 1000000) (tag k : Nat) (hg : Sp.gv 0 (sb s) = some (tag, k)) (ht1 : ¬ tag / 8 < 1) (ht2 : ¬ 536870911 < tag / 8) (hf : tag % 8 = 2) :
    Calls Tryd.prog 19 #[.string s] w (RefPost w (sb s) (Sp.body (tag / 8) 2 k ((sb s).drop k))) := by
  have HG := Lib.hid hg
  have hgs := Sp.gv_some hg
  have hlen := sb_length s
  have htop : Sp.top 0 = 18446744073709551616 := rfl
  rw [htop] at hgs
  obtain ⟨_, hg1, hg2, hg3, hg4⟩ := hgs
  have hk10 : k ≤ 10 := by omega
  have hkn : k ≤ s.size := by omega
  have h1 : decide ((tag : Int) / 8 < 1) = false := by simp; omega
  have h2 : decide (536870911 < (tag : Int) / 8) = false := by simp; omega
  have hw : wrap64 ((tag : Int) / 8) = (tag : Int) / 8 := by unfold wrap64; omega
  have hm : (tag : Int) % 8 = 2 := by omega
  have hwq : IntKind.u64.wrap ((tag : Int) / 8) = (tag : Int) / 8 := by rw [IntKind.wrap_u64]; omega
  have hex := sb_extract s k
  obtain ⟨sl, hsl⟩ : ∃ sl, s.extract k s.size = sl := ⟨_, rfl⟩
  rw [hsl] at hex
  have hslz := sb_length sl
  rw [hex, List.length_drop, hlen] at hslz
  have hz1 : k + sl.size ≤ s.size := by omega
  have hz2 : s.size ≤ k + sl.size := by omega
  have HEX := Lib.hid hex
  clear hg hg1 hg3 hg4 hlen htop ht1 ht2 hf hslz hex
  go_enter Tryd.func19, Tryd.ntmps19
  go_wp2_with fail
  refine (refget_any s _ (by omega)).mono ?_
  rintro e w1 ⟨rfl, rfl⟩
  rw [HG.out]
  simp only [refRes]
  go_wp2_with fail
  refine (refget_any sl _ (by omega)).mono ?_
  rintro e w1 ⟨rfl, rfl⟩
  rw [HEX.out]
  rcases hgl : Sp.gv 0 ((sb s).drop k) with _ | ⟨v, j⟩
  · have HB := Lib.hid (show Sp.body (tag / 8) 2 k ((sb s).drop k) = none by simp [Sp.body, hgl])
    clear hgl
    simp only [refRes]
    go_wp2_with fail
    exact bodyPost_ret (v := .tuple #[noRef, .int .i64 3]) (by simp [results, Tryd.results19, go_sem, noRef]) rfl (refPost_none HB.out (((Below.refl _ _).alloc (Nat.le_refl _) _).alloc (by simp) _))
  · have hj := Sp.gv_some hgl
    rw [List.length_drop, sb_length] at hj
    obtain ⟨_, hj1, hj2, hj3, hj4⟩ := hj
    have hj10 : j ≤ 10 := by omega
    have hjs : j ≤ sl.size := by omega
    clear hj1 hj3 hj4
    by_cases hlt : sl.size - j < v
    · have HB := Lib.hid (show Sp.body (tag / 8) 2 k ((sb s).drop k) = none from Sp.body_two_none hgl (by rw [List.length_drop, sb_length]; omega))
      clear hgl
      simp only [refRes]
      go_wp2_with fail
      exact bodyPost_ret (v := .tuple #[noRef, .int .i64 3]) (by simp [results, Tryd.results19, go_sem, noRef]) rfl (refPost_none HB.out (((Below.refl _ _).alloc (Nat.le_refl _) _).alloc (by simp) _))
    · have HB := Lib.hid (show Sp.body (tag / 8) 2 k ((sb s).drop k) = some ⟨tag / 8, 2, 0, (((sb s).drop k).drop j).take v, k + j + v⟩ from Sp.body_two hgl (by rw [List.length_drop, sb_length]; omega))
      have hvs : j + v ≤ sl.size := by omega
      clear hgl
      simp only [refRes]
      go_wp2_with fail
      exact bodyPost_ret (v := .tuple #[.agg #[.int .i64 ((tag : Int) / 8), .int .i64 2, .int .u64 0, .string (sl.extract j (j + v)), .string (s.extract 0 (k + j + v))], .int .i64 0]) (by simp [results, Tryd.results19, go_sem]) rfl
        (refPost_some HB.out (((Below.refl _ _).alloc (Nat.le_refl _) _).alloc (by simp) _) (by rw [head_eq, mid_eq, HEX.out, Nat.add_sub_cancel_left]; rfl))
end Go.Proofs.YtafkoeebnkmpcaaDoor
