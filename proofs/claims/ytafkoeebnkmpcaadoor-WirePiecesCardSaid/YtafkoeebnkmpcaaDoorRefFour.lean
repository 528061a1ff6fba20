/-
  THE WALK of sealpressref.Next at form 5, and Next at any text.
-/
import Derived.Test.YtafkoeebnkmpcaaDoorRefFix
import Derived.Test.YtafkoeebnkmpcaaDoorRefLen
namespace Go.Proofs.YtafkoeebnkmpcaaDoor
open Go.RowKit

set_option maxRecDepth 100000 in
set_option maxHeartbeats 4000000 in
theorem refnext_four (s : ByteArray) (w : World) (hs : s.size ≤ 1000000) (tag k : Nat) (hg : Sp.gv 0 (sb s) = some (tag, k)) (ht1 : ¬ tag / 8 < 1) (ht2 : ¬ 536870911 < tag / 8) (hf : tag % 8 = 5) :
    Calls Tryd.prog 19 #[.string s] w (RefPost w (sb s) (Sp.body (tag / 8) 5 k ((sb s).drop k))) := by
  have HG := Lib.hid hg
  have hgs := Sp.gv_some hg
  have hlen := sb_length s
  have htop : Sp.top 0 = 18446744073709551616 := rfl
  rw [htop] at hgs
  obtain ⟨_, hg1, hg2, hg3, hg4⟩ := hgs
  have hk10 : k ≤ 10 := by omega
  have hkn : k ≤ s.size := by omega
  have h1 : decide ((tag : Int) / 8 < 1) = false := by simp; omega
  have h2 : decide (536870911 < (tag : Int) / 8) = false := by simp; omega
  have hw : wrap64 ((tag : Int) / 8) = (tag : Int) / 8 := by unfold wrap64; omega
  have hm : (tag : Int) % 8 = 5 := by omega
  have hwq : IntKind.u64.wrap ((tag : Int) / 8) = (tag : Int) / 8 := by rw [IntKind.wrap_u64]; omega
  have hex := sb_extract s k
  obtain ⟨sl, hsl⟩ : ∃ sl, s.extract k s.size = sl := ⟨_, rfl⟩
  rw [hsl] at hex
  have hslz := sb_length sl
  rw [hex, List.length_drop, hlen] at hslz
  have hz1 : k + sl.size ≤ s.size := by omega
  have hz2 : s.size ≤ k + sl.size := by omega
  have HEX := Lib.hid hex
  clear hg hg1 hg3 hg4 hlen htop ht1 ht2 hf hslz hex
  by_cases hlt : sl.size < 4
  · have HB := Lib.hid (show Sp.body (tag / 8) 5 k ((sb s).drop k) = none from Sp.body_four_none (by rw [List.length_drop, sb_length]; omega))
    go_enter Tryd.func19, Tryd.ntmps19
    go_wp2_with fail
    refine (refget_any s _ (by omega)).mono ?_
    rintro e w1 ⟨rfl, rfl⟩
    rw [HG.out]
    simp only [refRes]
    go_wp2_with fail
    exact bodyPost_ret (v := .tuple #[noRef, .int .i64 3]) (by simp [results, Tryd.results19, go_sem, noRef]) rfl (refPost_none HB.out (((Below.refl _ _).alloc (Nat.le_refl _) _).alloc (by simp) _))
  · have HB := Lib.hid (show Sp.body (tag / 8) 5 k ((sb s).drop k) = some ⟨tag / 8, 5, Sp.le (((sb s).drop k).take 4), [], k + 4⟩ from Sp.body_four (by rw [List.length_drop, sb_length]; omega))
    have hd8 : decide ((sl.size : Int) < 4) = false := by simp; omega
    go_enter Tryd.func19, Tryd.ntmps19
    go_wp2_with fail
    refine (refget_any s _ (by omega)).mono ?_
    rintro e w1 ⟨rfl, rfl⟩
    rw [HG.out]
    simp only [refRes]
    go_wp2_with fail
    rw [hw]
    go_loopw [78] (fun i wr => ∃ q : Nat, q ≤ 4 ∧ i = .int .i64 (q : Int) ∧ Hid (RefRel w (tag / 8) 5 wr (Sp.le (((sb s).drop k).take q)))) (fun i _ => 4 - (intOf i).toNat)
    case atStart =>
      refine ⟨0, by omega, rfl, ?_⟩
      rw [List.take_zero]
      exact (⟨(Blk.new w _ _).alloc _, Blk.new_at _ _ _ (by simp), ((Below.refl _ _).alloc (Nat.le_refl _) _).alloc (by simp) _, by simp⟩ : RefRel w (tag / 8) 5 _ 0)
    case round =>
      obtain ⟨q, hq, rfl, HF⟩ := hrel
      by_cases hq8 : q < 4
      · obtain ⟨x, t, hd, hx, ht⟩ := drop_cons (bs := sb sl) (k := q) (by rw [sb_length]; omega)
        have hcell := sb_get hx (by omega)
        have hx8 := Sp.toNat_lt x
        obtain ⟨⟨p0, p1, p2, p3, p4⟩, q0, q1, q2, q3, q4⟩ := Blk.five HF.out.2.1
        rw [HEX.out] at hx
        obtain ⟨hst, hsv⟩ := Sp.le_snoc hx
        obtain ⟨v, hv⟩ : ∃ v, v = Sp.le (((sb s).drop k).take q) := ⟨_, rfl⟩
        rw [← hv] at p2 HF hst hsv
        have hqs : (q : Int) < (sl.size : Int) := by omega
        obtain ⟨c, hc, hc8⟩ : ∃ c : Nat, IntKind.i64.wrap (8 * (q : Int)) = (c : Int) ∧ c = 8 * q := ⟨8 * q, by rw [IntWalk.i64_left]; unfold wrap64; omega, rfl⟩
        have HA := Lib.hid (Sp.add8 (show q < 8 by omega) hc8 hsv hx8)
        have HST := Lib.hid hst
        clear hv hx hd ht p0 p1 p3 p4 q0 q1 q3 q4 hc8 hst hsv
        go_wp2_with fail
        go_region
        go_wp2_with fail
        go_roundw
        case rel =>
          refine ⟨q + 1, by omega, by go_num, ?_⟩
          rw [HA.out.1, HST.out]
          exact refrel_step HF.out HA.out.2
        case measure => simp [intOf]; omega
      · obtain rfl : q = 4 := by omega
        obtain ⟨v, hv⟩ : ∃ v, v = Sp.le (((sb s).drop k).take 4) := ⟨_, rfl⟩
        rw [← hv] at HF HB
        obtain ⟨⟨p0, p1, p2, p3, p4⟩, q0, q1, q2, q3, q4⟩ := Blk.five HF.out.1
        obtain ⟨⟨r0, r1, r2, r3, r4⟩, s0, s1, s2, s3, s4⟩ := Blk.five HF.out.2.1
        clear hv
        go_wp2_with fail
        refine bodyPost_ret (v := .tuple #[.agg #[.int .i64 ((tag : Int) / 8), .int .i64 5, .int .u64 v, .string ⟨#[]⟩, .string (s.extract 0 (k + 4))], .int .i64 0]) (by simp [results, Tryd.results19, go_sem, p0, p1, p2, p3, p4]) rfl ?_
        refine refPost_some HB.out ?_ (by rw [head_eq]; rfl)
        iterate 6 refine Below.setCell ?_ (by simp) _
        exact HF.out.2.2.1

theorem refnext_any (s : ByteArray) (w : World) (hs : s.size ≤ 1000000) :
    Calls Tryd.prog 19 #[.string s] w (RefPost w (sb s) (Sp.nx (sb s))) := by
  rcases hg : Sp.gv 0 (sb s) with _ | ⟨tag, k⟩
  · have e : Sp.nx (sb s) = none := by simp [Sp.nx, hg]
    rw [e]
    exact refnext_none s w hs hg
  · by_cases ht : tag / 8 < 1 ∨ 536870911 < tag / 8
    · have e : Sp.nx (sb s) = none := by simp only [Sp.nx, hg]; rw [if_pos ht]
      rw [e]
      exact refnext_number s w hs tag k hg ht
    · have e : Sp.nx (sb s) = Sp.body (tag / 8) (tag % 8) k ((sb s).drop k) := by simp only [Sp.nx, hg]; rw [if_neg ht]
      rw [e]
      have ht1 : ¬ tag / 8 < 1 := fun h => ht (.inl h)
      have ht2 : ¬ 536870911 < tag / 8 := fun h => ht (.inr h)
      by_cases h3 : tag % 8 = 3 ∨ tag % 8 = 4 ∨ tag % 8 = 6 ∨ tag % 8 = 7
      · have e2 : Sp.body (tag / 8) (tag % 8) k ((sb s).drop k) = none := by
          unfold Sp.body
          rw [if_neg (by omega), if_neg (by omega), if_neg (by omega), if_neg (by omega)]
        rw [e2]
        exact refnext_other s w hs tag k hg ht1 ht2 h3
      · have h4 : tag % 8 = 0 ∨ tag % 8 = 1 ∨ tag % 8 = 2 ∨ tag % 8 = 5 := by omega
        rcases h4 with h4 | h4 | h4 | h4
        · rw [h4]; exact refnext_varint s w hs tag k hg ht1 ht2 h4
        · rw [h4]; exact refnext_eight s w hs tag k hg ht1 ht2 h4
        · rw [h4]; exact refnext_length s w hs tag k hg ht1 ht2 h4
        · rw [h4]; exact refnext_four s w hs tag k hg ht1 ht2 h4
end Go.Proofs.YtafkoeebnkmpcaaDoor
