/-
  THE WALK of wire.Next at form 2: a number, and so many bytes.
-/
import Derived.Test.YtafkoeebnkmpcaaDoorNext
namespace Go.Proofs.YtafkoeebnkmpcaaDoor
open Go.RowKit

set_option maxRecDepth 100000 in
set_option maxHeartbeats 1000000 in
theorem next_length (B b off : Nat) (n c : Nat) (bs : List UInt8) (w : World) (HR : Rd w B (some ⟨b, off, none⟩) n bs) (hB : B ≤ w.heap.size) (hn : n ≤ 1000000000) (hnc : n ≤ c) (tag k : Nat) (hg : Sp.gv 0 bs = some (tag, k)) (ht1 : ¬ tag / 8 < 1) (ht2 : ¬ 536870911 < tag / 8) (hf : tag % 8 = 2) (hkn : k < n) :
    Calls Tryd.prog 20 #[.slice (some ⟨b, off, none⟩) n c] w (NextPost w (Sp.body (tag / 8) 2 k (bs.drop k))) := by
  have HG := Lib.hid hg
  have hgs := Sp.gv_some hg
  have hlen := HR.len
  have HL := Lib.hid hlen
  have htop : Sp.top 0 = 18446744073709551616 := rfl
  rw [htop] at hgs
  obtain ⟨_, hg1, hg2, hg3, hg4⟩ := hgs
  have hk10 : k ≤ 10 := by omega
  have H7 := and7 tag hg1
  rw [hf] at H7
  have h1 : decide ((tag : Int) / 8 < 1) = false := by simp; omega
  have h2 : decide (536870911 < (tag : Int) / 8) = false := by simp; omega
  have hw : wrap64 ((tag : Int) / 8) = ((tag / 8 : Nat) : Int) := by unfold wrap64; omega
  clear hg hg1 hg3 hg4 hlen htop ht1 ht2 hf
  go_enter Tryd.func20, Tryd.ntmps20
  go_wp2_with fail
  refine (get_any B _ n c bs _ (RdV.alloc HR hB _) hn).mono ?_
  rintro e w1 ⟨rfl, rfl⟩
  rw [HG.out]
  simp only [gvRes]
  have hrl : Rd w B (some ⟨b, off + k, none⟩) (n - k) (bs.drop k) := Rd.drop HR (by omega) (fun b' o' e hk' => by injection e with e; injection e with e1 e2; subst e1; subst e2; rfl)
  have HRL := hrl
  clear hrl HR
  go_wp2_with fail
  refine (get_any B (some ⟨b, off + k, none⟩) (n - k) (c - k) (bs.drop k) _ (RdV.alloc (RdV.alloc HRL hB _) (by simp; omega) _) (by omega)).mono ?_
  rintro e w1 ⟨rfl, rfl⟩
  rcases hgl : Sp.gv 0 (bs.drop k) with _ | ⟨v, j⟩
  · have HB := Lib.hid (show Sp.body (tag / 8) 2 k (bs.drop k) = none by simp [Sp.body, hgl])
    clear hgl
    simp only [gvRes]
    go_wp2_with fail
    exact bodyPost_ret (v := .tuple #[noPiece, errV]) (by simp [results, Tryd.results20, go_sem, noPiece, errV]) rfl (nextPost_none HB.out (((Below.refl _ _).alloc (Nat.le_refl _) _).alloc (by simp) _))
  · have hj := Sp.gv_some hgl
    rw [List.length_drop, HL.out] at hj
    obtain ⟨_, hj1, hj2, hj3, hj4⟩ := hj
    have hj10 : j ≤ 10 := by omega
    have HV := Lib.hid hj1
    clear hj1 hj4
    by_cases hlt : n - k - j < v
    · have HB := Lib.hid (show Sp.body (tag / 8) 2 k (bs.drop k) = none from Sp.body_two_none hgl (by rw [List.length_drop, HL.out]; exact hlt))
      clear hgl
      simp only [gvRes]
      go_wp2_with fail
      exact bodyPost_ret (v := .tuple #[noPiece, errV]) (by simp [results, Tryd.results20, go_sem, noPiece, errV]) rfl (nextPost_none HB.out (((Below.refl _ _).alloc (Nat.le_refl _) _).alloc (by simp) _))
    · have HB := Lib.hid (show Sp.body (tag / 8) 2 k (bs.drop k) = some ⟨tag / 8, 2, 0, (bs.drop (k + j)).take v, k + j + v⟩ from by rw [← List.drop_drop]; exact Sp.body_two hgl (by rw [List.length_drop, HL.out]; exact hlt))
      clear hgl
      simp only [gvRes]
      have hpart := Rd.part HRL (j := j) (v := v) (by omega)
      rw [List.drop_drop] at hpart
      obtain ⟨i0, hi, hz0, hz1, hz2⟩ := info_parts infoB
      go_wp2_with (first | (at_builtin; go_must (refine wpList_app _ rfl (.tmp 123) (.tmp 130) 22 rfl (w.heap.size + 2) 5 i0 (.int .u8 0) 1 Tryd.underlying22 hi hz0 hz1 hz2 rfl _ 0 [] rfl (own_empty_at (g := w.heap.size + 1 + 1) ?_ ?_) w.heap.size _ _ _ (cb (((bs.drop k).drop j).take v)) rfl ?_ (cb_one _) ?_ ?_ ?_ ?_)))
      case refine_1 => simp
      case refine_2 => simp
      case refine_3.inr => exact RdV.more (RdV.alloc (RdV.alloc (RdV.alloc hpart hB _) (by simp; omega) _) (by simp; omega) _) hB
      case refine_3.inl =>
        have hv0 : v = 0 := by omega
        subst hv0
        exact Rd.nil _ _ _
      case refine_4 => unfold maxLen; omega
      case refine_5 => omega
      case refine_6 => simp
      all_goals
        intro v1 w1 h2 h3 _ _
        have hbl0 : Five w1 w.heap.size (.int .i64 0) (.int .i64 0) (.int .u64 0) (.slice none 0 0) (.int .i64 0) := Blk.five (t := 47) (Blk.grown (((Blk.new w _ _).alloc _).alloc _) h3 (by simp [Value.ownBlock]; omega))
        have hbl1 : Five w1 (w.heap.size + 1) (.int .i64 ((tag : Int) / 8)) (.int .i64 2) (.int .u64 0) (.slice none 0 0) (.int .i64 0) := Blk.five (t := 47) (Blk.grown ((Blk.new_at (w.alloc _) _ _ (by simp)).alloc _) h3 (by simp [Value.ownBlock]))
        have hbel : Hid (Below w.heap.size w w1) := (((Below.refl _ w).alloc (Nat.le_refl _) _).alloc (by simp) _).alloc (by simp; omega) _ |>.grown h3 (by simp; omega) (fun k hk => by simp [Value.ownBlock] at hk; omega)
        obtain ⟨A1, c1, rfl, _, _⟩ := own_form h2
        have H2 := Lib.hid h2
        obtain ⟨⟨p0, p1, p2, p3, p4⟩, q0, q1, q2, q3, q4⟩ := hbl0
        obtain ⟨⟨r0, r1, r2, r3, r4⟩, s0, s1, s2, s3, s4⟩ := hbl1
        clear h2 h3
        go_wp2_with fail
        refine bodyPost_ret (v := .tuple #[pieceV ⟨tag / 8, 2, 0, (bs.drop (k + j)).take v, k + j + v⟩ (.slice A1 v c1), .nilIface]) (by simp [results, Tryd.results20, go_sem, pieceV, p0, p1, p2, p3, p4]) rfl ?_
        refine nextPost_some HB.out ?_ (show ((bs.drop (k + j)).take v).length = v by rw [List.length_take, List.length_drop, HL.out]; omega) ?_
        · iterate 7 refine Below.setCell ?_ (by simp) _
          exact hbel.out
        · refine own_mono (base := w.heap.size + 2) ?_ (by omega)
          iterate 7 refine ownsRow_setCell_below ?_ (by simp) _
          exact H2.out
end Go.Proofs.YtafkoeebnkmpcaaDoor
