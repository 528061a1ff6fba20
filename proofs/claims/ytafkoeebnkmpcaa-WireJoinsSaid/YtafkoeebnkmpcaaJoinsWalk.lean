/-
  THE WALK of sealpresskeep.WireJoins: at all arguments it returns true, and writes nothing that was there.
-/
import Derived.Test.YtafkoeebnkmpcaaJoins
namespace Go.Proofs.Ytafkoeebnkmpcaa
open Go.RowKit

set_option maxRecDepth 100000 in
set_option maxHeartbeats 4000000 in
theorem joins_walk (A0 A1 : Option Addr) (n0 c0 n1 c1 : Nat) (ab bs : List UInt8) (w : World) (h0 : Rd w w.heap.size A0 n0 ab) (h1 : Rd w w.heap.size A1 n1 bs) (hc0 : n0 ≤ c0) (hc1 : n1 ≤ c1) (hm0 : n0 ≤ 140737488351232) (hm1 : n1 ≤ 140737488351232) :
    Calls Try.prog 4 #[.slice A0 n0 c0, .slice A1 n1 c1] w (PutTrue w) := by
  by_cases hbig : 500 < n0 + n1
  · go_enter Try.func4, Try.ntmps4
    go_wp2_with fail
    go_ret
    exact ⟨rfl, Below.refl _ _⟩
  · obtain ⟨i0, hi, hz0, hz1, hz2⟩ := info_parts infoB
    go_enter Try.func4, Try.ntmps4
    go_wp2_with fail
    refine (put_true _).mono ?_
    rintro e w1 ⟨rfl, hb1⟩
    have hs1 := hb1.size
    go_wp2_with fail
    refine (split_any w.heap.size A0 n0 c0 ab w1 (RdV.below h0 hb1) hs1 (by omega) hc0).mono ?_
    rcases hx : Sp.sp ab with _ | X
    · rintro e w2 ⟨hb2, rfl⟩
      have hb2' := hb1.trans (hb2.mono hs1)
      have hs2 := hb2'.size
      simp only [errV]
      go_wp2_with fail
      refine (split_any w.heap.size A1 n1 c1 bs w2 (RdV.below h1 hb2') hs2 (by omega) hc1).mono ?_
      rcases hy : Sp.sp bs with _ | Y
      · rintro e w3 ⟨hb3, rfl⟩
        have hb3' := hb2'.trans (hb3.mono hs2)
        simp only [errV]
        go_wp2_with fail
        go_ret
        exact ⟨rfl, hb3'⟩
      · rintro e w3 ⟨hb3, v3, rfl, _⟩
        have hb3' := hb2'.trans (hb3.mono hs2)
        go_wp2_with fail
        go_ret
        exact ⟨rfl, hb3'⟩
    · rintro e w2 ⟨hb2, vx, rfl, hpx⟩
      have hb2' := hb1.trans (hb2.mono hs1)
      have hs2 := hb2'.size
      have hpx := Pcs.mono hpx hs1
      obtain ⟨Ax, cx, rfl, hcx⟩ := hpx.len
      go_wp2_with fail
      refine (split_any w.heap.size A1 n1 c1 bs w2 (RdV.below h1 hb2') hs2 (by omega) hc1).mono ?_
      rcases hy : Sp.sp bs with _ | Y
      · rintro e w3 ⟨hb3, rfl⟩
        have hb3' := hb2'.trans (hb3.mono hs2)
        clear hpx
        simp only [errV]
        go_wp2_with fail
        go_ret
        exact ⟨rfl, hb3'⟩
      · rintro e w3 ⟨hb3, vy, rfl, hpy⟩
        have hb3' := hb2'.trans (hb3.mono hs2)
        have hs3 := hb3'.size
        have hpy := Pcs.mono hpy hs2
        obtain ⟨Ay, cy, rfl, hcy⟩ := hpy.len
        have hpx3 := Pcs.below hpx hb3 (Nat.le_refl _)
        have HL : Hid (Sp.sp (ab ++ bs) = some (X ++ Y)) := Sp.sp_append bs (Nat.le_refl _) hx hy
        have hlx := Sp.sp_len (Nat.le_refl _) hx
        have hly := Sp.sp_len (Nat.le_refl _) hy
        have HX := Lib.hid hlx
        have HY := Lib.hid hly
        have hrd0 := RdV.below h0 hb3'
        have hrd1 := RdV.below h1 hb3'
        have HPX := Lib.hid hpx3
        have HPY := Lib.hid hpy
        clear hx hy hpx hpx3 hpy hlx hly hb1 hb2 hb2' hb3 hs1 hs2
        go_wp2_with (first | (at_builtin; go_must (refine wpList_app _ rfl (.tmp 40) (.tmp 41) 23 rfl w.heap.size 5 i0 (.int .u8 0) 1 Try.underlying23 hi hz0 hz1 hz2 rfl _ 0 [] rfl (own_empty hs3) w.heap.size A0 n0 c0 (cb ab) rfl (RdV.alloc hrd0 hs3 _) (cb_one _) ?_ ?_ ?_ ?_)))
        · unfold maxLen; omega
        · omega
        · simp; omega
        intro v4 w4 h41 h42 h43 _
        have hb4 : Below w.heap.size w w4 := (hb3'.alloc hs3 _).grown h42 (by simp; omega) (fun k hk => by simp [Value.ownBlock] at hk; omega)
        have hb34 : Below w3.heap.size w3 w4 := ((Below.refl _ w3).alloc (Nat.le_refl _) _).grown h42 (by simp) (fun k hk => by simp [Value.ownBlock] at hk; omega)
        have hs4 := hb4.size
        have hrd14 := RdV.below h1 hb4
        have hv4 : ∀ k, v4.ownBlock = some k → w3.heap.size ≤ k := by
          intro k hk
          rcases h43 with h | h <;> rw [h] at hk <;> simp [Value.ownBlock] at hk <;> omega
        have HV4 := Lib.hid hv4
        clear h42 h43 hv4 hrd0 hrd1
        go_wp2_with (first | (at_builtin; go_must (refine wpList_app _ rfl (.tmp 42) (.tmp 43) 23 rfl w.heap.size 5 i0 (.int .u8 0) 1 Try.underlying23 hi hz0 hz1 hz2 rfl _ n0 (cb ab) rfl h41 w.heap.size A1 n1 c1 (cb bs) rfl hrd14 (cb_one _) ?_ ?_ ?_ ?_)))
        · unfold maxLen; omega
        · omega
        · omega
        intro v5 w5 h51 h52 _ _
        have hb5 : Below w.heap.size w w5 := hb4.grown h52 hs4 (fun k hk => (h41.lt k hk).1)
        have hb35 : Below w3.heap.size w3 w5 := hb34.grown h52 hb34.size (fun k hk => HV4.out k hk)
        have hs5 := hb5.size
        rw [← cb_append] at h51
        obtain ⟨A5, c5, rfl, hl5, hm5, hrd5⟩ := own_rd h51
        have hpx5 := Pcs.below HPX.out hb35 (Nat.le_refl _)
        have hpy5 := Pcs.below HPY.out hb35 (Nat.le_refl _)
        have HPX5 := Lib.hid hpx5
        have HPY5 := Lib.hid hpy5
        clear hpx5 hpy5 h52 h51 h41 hb34 hb35 hb4 HV4 HPX HPY hrd14 hs4
        go_wp2_with fail
        refine (split_any w5.heap.size A5 (n0 + n1) c5 (ab ++ bs) w5 hrd5 (Nat.le_refl _) (by omega) hl5).mono ?_
        rw [HL.out]
        rintro e w6 ⟨hb6, vl, rfl, hpl⟩
        have hb6' := hb5.trans (hb6.mono hs5)
        have HPL := Lib.hid (Pcs.mono hpl hs5)
        have HPX6 := Lib.hid (Pcs.below HPX5.out hb6 (Nat.le_refl _))
        have HPY6 := Lib.hid (Pcs.below HPY5.out hb6 (Nat.le_refl _))
        obtain ⟨Al, cl, rfl, hcl⟩ := HPL.out.len
        have hs6 := hb6'.size
        have hxl := HX.out.2.1
        have hyl := HY.out.2.1
        have hl0 := h0.len
        have hl1 := h1.len
        clear hpl hb6 hb5 hrd5 HPX5 HPY5 hs5 h0 h1
        rw [List.length_append] at hcl
        obtain ⟨ll, hll⟩ : ∃ ll, ll = (X ++ Y).length := ⟨_, rfl⟩
        rw [← hll]
        rw [List.length_append] at hll
        have HLL := Lib.hid hll
        have htot : ((X ++ Y).map (·.long)).sum = n0 + n1 := by rw [List.map_append, List.sum_append, HX.out.1, HY.out.1, hl0, hl1]
        have HTOT := Lib.hid htot
        clear htot
        go_wp2_with fail
        go_loopw [11, 12] (fun s i wr => ∃ k m : Nat, k ≤ ll ∧ i = .int .i64 k ∧ s = .int .i64 m ∧ Hid (m = (((X ++ Y).take k).map (·.long)).sum) ∧ Below w6.heap.size w6 wr) (fun _ i _ => ll - (intOf i).toNat)
        case atStart => exact ⟨0, 0, by omega, rfl, rfl, (rfl : (0 : Nat) = (((X ++ Y).take 0).map (·.long)).sum), Below.refl _ _⟩
        case round =>
          obtain ⟨k, m, hk, rfl, rfl, HM, hbr⟩ := hrel
          have hsr := hbr.size
          by_cases hkl : k < ll
          · obtain ⟨P, hP⟩ : ∃ P, (X ++ Y)[k]? = some P := ⟨_, List.getElem?_eq_getElem (by rw [List.length_append, ← HLL.out]; exact hkl)⟩
            obtain ⟨gl, cl', Bl, d1, el, hgl, hrl, a0, a1, a2, a3, a4⟩ := Pcs.at_ (Pcs.below HPL.out hbr (Nat.le_refl _)) hP
            injection el with el _ _
            subst el
            have hstep := sum_step hP
            have hPs : m + P.long ≤ n0 + n1 := by
              have h3 := sum_le (X ++ Y) (k + 1)
              rw [HTOT.out, hstep, ← HM.out] at h3
              exact h3
            have HM2 : Hid (m + P.long = (((X ++ Y).take (k + 1)).map (·.long)).sum) := by rw [hstep, ← HM.out]; rfl
            clear hstep
            by_cases hkx : k < X.length
            · have hP2 : X[k]? = some P := by rw [List.getElem?_append_left hkx] at hP; exact hP
              obtain ⟨gx, cx', Bx, d2, ex, hgx, hrx, b0, b1, b2, b3, b4⟩ := Pcs.at_ (Pcs.below HPX6.out hbr (Nat.le_refl _)) hP2
              injection ex with ex _ _
              subst ex
              have hcl1 : (convert 23 9 (.slice Bl P.bytes.length d1)).run Try.prog ((wr.alloc (.cells #[.int .i64 (P.num : Nat), .int .i64 (P.form : Nat), .int .u64 (P.val : Nat), .slice Bl P.bytes.length d1, .int .i64 (P.long : Nat)] 39)).alloc (.cells #[.int .i64 (P.num : Nat), .int .i64 (P.form : Nat), .int .u64 (P.val : Nat), .slice Bx P.bytes.length d2, .int .i64 (P.long : Nat)] 39)) = .ok (.string ⟨P.bytes.toArray⟩) ((wr.alloc (.cells #[.int .i64 (P.num : Nat), .int .i64 (P.form : Nat), .int .u64 (P.val : Nat), .slice Bl P.bytes.length d1, .int .i64 (P.long : Nat)] 39)).alloc (.cells #[.int .i64 (P.num : Nat), .int .i64 (P.form : Nat), .int .u64 (P.val : Nat), .slice Bx P.bytes.length d2, .int .i64 (P.long : Nat)] 39)) := conv_rd (RdV.alloc (RdV.alloc hrl (Nat.le_refl _) _) (by simp) _)
              have hcx1 : (convert 23 9 (.slice Bx P.bytes.length d2)).run Try.prog ((wr.alloc (.cells #[.int .i64 (P.num : Nat), .int .i64 (P.form : Nat), .int .u64 (P.val : Nat), .slice Bl P.bytes.length d1, .int .i64 (P.long : Nat)] 39)).alloc (.cells #[.int .i64 (P.num : Nat), .int .i64 (P.form : Nat), .int .u64 (P.val : Nat), .slice Bx P.bytes.length d2, .int .i64 (P.long : Nat)] 39)) = .ok (.string ⟨P.bytes.toArray⟩) ((wr.alloc (.cells #[.int .i64 (P.num : Nat), .int .i64 (P.form : Nat), .int .u64 (P.val : Nat), .slice Bl P.bytes.length d1, .int .i64 (P.long : Nat)] 39)).alloc (.cells #[.int .i64 (P.num : Nat), .int .i64 (P.form : Nat), .int .u64 (P.val : Nat), .slice Bx P.bytes.length d2, .int .i64 (P.long : Nat)] 39)) := conv_rd (RdV.alloc (RdV.alloc hrx (Nat.le_refl _) _) (by simp) _)
              have HBR := Lib.hid hbr
              clear hP hP2 hrl hrx hbr
              go_wp2_with fail
              go_roundw
              case rel => exact ⟨k + 1, m + P.long, by omega, by go_num, by go_num, HM2, (HBR.out.alloc hsr _).alloc (by simp; omega) _⟩
              case measure => simp [intOf]; omega
            · have hP2 : Y[k - X.length]? = some P := by rw [List.getElem?_append_right (by omega)] at hP; exact hP
              obtain ⟨gx, cx', Bx, d2, ex, hgx, hrx, b0, b1, b2, b3, b4⟩ := Pcs.at_ (Pcs.below HPY6.out hbr (Nat.le_refl _)) hP2
              injection ex with ex _ _
              subst ex
              have hcl1 : (convert 23 9 (.slice Bl P.bytes.length d1)).run Try.prog ((wr.alloc (.cells #[.int .i64 (P.num : Nat), .int .i64 (P.form : Nat), .int .u64 (P.val : Nat), .slice Bl P.bytes.length d1, .int .i64 (P.long : Nat)] 39)).alloc (.cells #[.int .i64 (P.num : Nat), .int .i64 (P.form : Nat), .int .u64 (P.val : Nat), .slice Bx P.bytes.length d2, .int .i64 (P.long : Nat)] 39)) = .ok (.string ⟨P.bytes.toArray⟩) ((wr.alloc (.cells #[.int .i64 (P.num : Nat), .int .i64 (P.form : Nat), .int .u64 (P.val : Nat), .slice Bl P.bytes.length d1, .int .i64 (P.long : Nat)] 39)).alloc (.cells #[.int .i64 (P.num : Nat), .int .i64 (P.form : Nat), .int .u64 (P.val : Nat), .slice Bx P.bytes.length d2, .int .i64 (P.long : Nat)] 39)) := conv_rd (RdV.alloc (RdV.alloc hrl (Nat.le_refl _) _) (by simp) _)
              have hcx1 : (convert 23 9 (.slice Bx P.bytes.length d2)).run Try.prog ((wr.alloc (.cells #[.int .i64 (P.num : Nat), .int .i64 (P.form : Nat), .int .u64 (P.val : Nat), .slice Bl P.bytes.length d1, .int .i64 (P.long : Nat)] 39)).alloc (.cells #[.int .i64 (P.num : Nat), .int .i64 (P.form : Nat), .int .u64 (P.val : Nat), .slice Bx P.bytes.length d2, .int .i64 (P.long : Nat)] 39)) = .ok (.string ⟨P.bytes.toArray⟩) ((wr.alloc (.cells #[.int .i64 (P.num : Nat), .int .i64 (P.form : Nat), .int .u64 (P.val : Nat), .slice Bl P.bytes.length d1, .int .i64 (P.long : Nat)] 39)).alloc (.cells #[.int .i64 (P.num : Nat), .int .i64 (P.form : Nat), .int .u64 (P.val : Nat), .slice Bx P.bytes.length d2, .int .i64 (P.long : Nat)] 39)) := conv_rd (RdV.alloc (RdV.alloc hrx (Nat.le_refl _) _) (by simp) _)
              have HBR := Lib.hid hbr
              clear hP hP2 hrl hrx hbr
              go_wp2_with fail
              go_roundw
              case rel => exact ⟨k + 1, m + P.long, by omega, by go_num, by go_num, HM2, (HBR.out.alloc hsr _).alloc (by simp; omega) _⟩
              case measure => simp [intOf]; omega
          · have hkl2 : k = ll := by omega
            have hm : m = n0 + n1 := by
              rw [HM.out, hkl2, HLL.out, ← List.length_append, List.take_length]; exact HTOT.out
            have HB := Lib.hid (hb6'.trans (hbr.mono hs6))
            clear hkl2 hbr
            subst hm
            go_wp2_with fail
            go_ret
            exact ⟨rfl, HB.out⟩
end Go.Proofs.Ytafkoeebnkmpcaa
