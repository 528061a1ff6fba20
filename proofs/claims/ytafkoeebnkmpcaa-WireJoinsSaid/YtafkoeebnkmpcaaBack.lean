/-
  THE WALK of sealpresskeep.WireBack: at all arguments it returns true, and writes nothing that was there.
-/
import Derived.Test.YtafkoeebnkmpcaaPut
import Derived.Test.YtafkoeebnkmpcaaGet
import Derived.Test.YtafkoeebnkmpcaaZig
namespace Go.Proofs.Ytafkoeebnkmpcaa
open Go.RowKit

def PutTrue (w : World) (e : Ending) (w' : World) : Prop := e = .returned (.bool true) ∧ Below w.heap.size w w'

set_option maxRecDepth 100000 in
set_option maxHeartbeats 2000000 in
theorem put_true (w : World) : Calls Try.prog 5 #[] w (PutTrue w) := by
  go_enter Try.func5, Try.ntmps5
  go_wp2_with fail
  refine (put_any w.heap.size (.slice none 0 0) 0 [] 300 _ (World.ownsRow_nil _ _ _ _) (by omega) (by omega) (Nat.le_refl _)).mono ?_
  rintro e w1 ⟨v', rfl, hown, hupd⟩
  have hbel : Below w.heap.size w w1 := (Below.refl _ w).grown hupd.1 (Nat.le_refl _) (fun k hk => by simp [Value.ownBlock] at hk)
  have e300 : Sp.vb 300 = [172, 2] := by decide
  have eg : Sp.gv 0 [172, 2] = some (300, 2) := by decide
  rw [e300] at hown
  simp only [List.nil_append, List.length_cons, List.length_nil, Nat.zero_add] at hown
  obtain ⟨A, c, rfl, hc1, hc2, hrd⟩ := own_rd hown
  obtain ⟨b, off, rfl, hb, hc⟩ := Rd.at_ hrd (by omega)
  have c0 : w1.cell? ⟨b, off, none⟩ = some (.int .u8 172) := hc 0 172 rfl
  have c1 : w1.cell? ⟨b, off + 1, none⟩ = some (.int .u8 2) := hc 1 2 rfl
  have EG := Lib.hid eg
  clear eg e300 hown hupd hc
  go_wp2_with fail
  refine (get_any w1.heap.size _ _ _ [172, 2] w1 hrd (by omega)).mono ?_
  rintro e w' ⟨rfl, rfl⟩
  rw [EG.out]
  simp only [gvRes]
  clear hrd
  go_wp2_with fail
  refine (zig_any (-1) _ (by omega) (by omega)).mono ?_
  rintro e w' ⟨rfl, rfl⟩
  have ez : Sp.zg (-1) = 1 := by decide
  rw [ez]
  clear ez
  go_wp2
  go_ret
  exact ⟨rfl, hbel⟩

set_option maxRecDepth 100000 in
set_option maxHeartbeats 2000000 in
theorem pick_any (a : Int) (n : Nat) (w : World) (h0 : 0 < n) (hn : n ≤ 1000000) :
    Calls Try.prog 9 #[.int .i64 a, .int .i64 n] w fun e w' => (∃ j : Nat, j < n ∧ e = .returned (.int .i64 j)) ∧ w = w' := by
  go_enter Try.func9, Try.ntmps9
  have e : (IntKind.u64.wrap a).tmod (n : Int) = (((a % 18446744073709551616).toNat % n : Nat) : Int) := by
    rw [IntKind.wrap_u64, Int.tmod_eq_emod_of_nonneg (by omega)]
    obtain ⟨x, hx⟩ : ∃ x : Nat, a % 18446744073709551616 = (x : Int) := ⟨(a % 18446744073709551616).toNat, by omega⟩
    rw [hx, Int.toNat_natCast]
    exact (Int.natCast_emod x n).symm
  have HE := Lib.hid e
  have hj : (a % 18446744073709551616).toNat % n < n := Nat.mod_lt _ h0
  have HJ := Lib.hid hj
  clear e hj
  go_wp2
  go_ret
  refine ⟨⟨_, HJ.out, ?_⟩, rfl⟩
  refine ret_int ?_
  have := HJ.out
  rw [HE.out, IntWalk.wrap64_in _ ⟨by omega, by omega⟩]

set_option maxRecDepth 100000 in
set_option maxHeartbeats 2000000 in
theorem back_walk (n : Nat) (A : Option Addr) (L C : Nat) (bs : List UInt8) (cut : Int) (w : World) (hn : n < 18446744073709551616) (h : Rd w w.heap.size A L bs) (hc1 : -9223372036854775808 ≤ cut) (hc2 : cut ≤ 9223372036854775807) :
    Calls Try.prog 3 #[.int .u64 n, .slice A L C, .int .i64 cut] w (PutTrue w) := by
  by_cases hbig : 200 < L
  · go_enter Try.func3, Try.ntmps3
    go_wp2
    go_ret
    exact ⟨rfl, Below.refl _ _⟩
  · have HN := Lib.hid hn
    have HC1 := Lib.hid hc1
    have HC2 := Lib.hid hc2
    obtain ⟨i0, hi, hz0, hz1, hz2⟩ := info_parts infoB
    clear hn hc1 hc2
    go_enter Try.func3, Try.ntmps3
    go_wp2_with fail
    refine (put_true _).mono ?_
    rintro e w1 ⟨rfl, hb1⟩
    go_wp2_with fail
    refine (put_any w.heap.size (.slice none 0 0) 0 [] n _ (World.ownsRow_nil _ _ _ _) HN.out (by omega) hb1.size).mono ?_
    rintro e w2 ⟨v2, rfl, hown2, hupd2⟩
    have hb2 : Below w.heap.size w w2 := hb1.grown hupd2.1 hb1.size (fun k hk => by simp [Value.ownBlock] at hk)
    simp only [List.nil_append, Nat.zero_add] at hown2
    obtain ⟨bb, hbb⟩ : ∃ bb, bb = Sp.vb n := ⟨_, rfl⟩
    have hlen := Sp.vb_len n
    rw [← hbb] at hown2 hlen
    have HBB := Lib.hid hbb
    obtain ⟨len, hlen'⟩ : ∃ len, len = bb.length := ⟨_, rfl⟩
    rw [← hlen'] at hown2 hlen
    have HLEN := Lib.hid hlen'
    obtain ⟨A2, c2, rfl, hl2, hm2, hrd2⟩ := own_rd hown2
    unfold maxLen at hm2
    obtain ⟨hlen1, hlen2⟩ := hlen
    clear hbb hlen' hupd2 hb1
    have hs2 := hb2.size
    go_wp2_with (first | (at_builtin; go_must (refine wpList_app _ rfl (.tmp 23) (.tmp 24) 23 rfl w.heap.size 5 i0 (.int .u8 0) 1 Try.underlying23 hi hz0 hz1 hz2 rfl _ 0 [] rfl (own_empty hs2) w2.heap.size A2 len c2 (cb bb) rfl (RdV.alloc hrd2 (Nat.le_refl _) _) (cb_one _) ?_ ?_ ?_ ?_)))
    · unfold maxLen; omega
    · omega
    · simp; omega
    intro v3 w3 h31 h32 h33 _
    have hb3 : Below w.heap.size w w3 := (hb2.alloc hs2 _).grown h32 (by simp; omega) (fun k hk => by simp [Value.ownBlock] at hk; omega)
    have hrd3 : Rd w3 w2.heap.size A2 len bb := (RdV.alloc hrd2 (Nat.le_refl _) _).grown h32 (by simp) (fun k hk => by simp [Value.ownBlock] at hk; omega)
    have hrdm : Rd w3 w.heap.size A L bs := RdV.below h hb3
    have hs3 := hb3.size
    have hs23 := h32.size
    simp at h31 hs23
    have hv3 : ∀ k, v3.ownBlock = some k → w2.heap.size ≤ k := by
      intro k hk
      rcases h33 with h | h <;> rw [h] at hk <;> simp [Value.ownBlock] at hk <;> omega
    have HV3 := Lib.hid hv3
    clear h32 h33 hrd2 hown2 h hv3
    go_wp2_with (first | (at_builtin; go_must (refine wpList_app _ rfl (.tmp 25) (.tmp 26) 23 rfl w.heap.size 5 i0 (.int .u8 0) 1 Try.underlying23 hi hz0 hz1 hz2 rfl _ len (cb bb) rfl h31 w.heap.size A L C (cb bs) rfl hrdm (cb_one _) ?_ ?_ ?_ ?_)))
    · unfold maxLen; omega
    · omega
    · omega
    intro v4 w4 h41 h42 h43 _
    have hb4 : Below w.heap.size w w4 := hb3.grown h42 hs3 (fun k hk => (h31.lt k hk).1)
    have hrd4 : Rd w4 w2.heap.size A2 len bb := RdV.grown hrd3 h42 (by omega) (fun k hk => HV3.out k hk)
    rw [← cb_append] at h41
    obtain ⟨A4, c4, rfl, hl4, hm4, hrd5⟩ := own_rd h41
    unfold maxLen at hm4
    have HG : Hid (Sp.gv 0 (bb ++ bs) = some (n, len)) := by
      have := Sp.gv_vb n bs HN.out
      rw [HLEN.out, HBB.out]; exact this
    clear h42 h43 hrd3 hrdm h31 HV3 hb3 hb2 hs3 hs23
    go_wp2_with fail
    refine (get_any w4.heap.size A4 (len + L) c4 (bb ++ bs) w4 hrd5 (by omega)).mono ?_
    rintro e w' ⟨rfl, rfl⟩
    rw [HG.out]
    simp only [gvRes]
    have hs4 := hb4.size
    go_wp2_with fail
    refine (size_any n w4 HN.out).mono ?_
    rintro e w' ⟨rfl, rfl⟩
    rw [← HBB.out, ← HLEN.out]
    clear hrd5
    go_wp2_with fail
    refine (pick_any cut len w4 (by omega) (by omega)).mono ?_
    rintro e w' ⟨⟨j, hj, rfl⟩, rfl⟩
    have hrdj := Rd.take hrd4 (k := j) (by omega)
    have HJ : Hid (Sp.gv 0 (bb.take j) = none) := by
      have := Sp.gv_part n j (by rw [← HBB.out, ← HLEN.out]; exact hj)
      rw [← HBB.out] at this; exact this
    clear hrd4
    go_wp2_with fail
    refine (get_any w2.heap.size A2 j c2 (bb.take j) w4 hrdj (by omega)).mono ?_
    rintro e w' ⟨rfl, rfl⟩
    rw [HJ.out]
    simp only [gvRes]
    clear hrdj
    obtain ⟨z, hz, hz1', hz2'⟩ : ∃ z : Int, wrap64 (n : Int) = z ∧ -9223372036854775808 ≤ z ∧ z ≤ 9223372036854775807 := ⟨wrap64 (n : Int), rfl, by unfold wrap64; omega, by unfold wrap64; omega⟩
    have HZ1 := Lib.hid hz1'
    have HZ2 := Lib.hid hz2'
    clear hz1' hz2'
    have HZ3 := Lib.hid (Sp.zt_zg z)
    have HZ4 := Lib.hid (Sp.zg_zt n)
    have HZ5 := Lib.hid (Sp.zg_lt z HZ1.out HZ2.out)
    have HZ6 := Lib.hid (Sp.zt_in n HN.out)
    by_cases hza : z < -64
    · go_wp2_with fail
      refine (zig_any z w4 HZ1.out HZ2.out).mono ?_
      rintro e w' ⟨rfl, rfl⟩
      go_wp2_with fail
      refine (zag_any (Sp.zg z) w4 HZ5.out).mono ?_
      rintro e w' ⟨rfl, rfl⟩
      rw [HZ3.out]
      go_wp2_with fail
      refine (zag_any n w4 HN.out).mono ?_
      rintro e w' ⟨rfl, rfl⟩
      go_wp2_with fail
      refine (zig_any (Sp.zt n) w4 HZ6.out.1 HZ6.out.2).mono ?_
      rintro e w' ⟨rfl, rfl⟩
      rw [HZ4.out]
      go_wp2_with fail
      go_ret
      exact ⟨rfl, hb4⟩
    · by_cases hzb : 64 ≤ z
      · go_wp2_with fail
        refine (zig_any z w4 HZ1.out HZ2.out).mono ?_
        rintro e w' ⟨rfl, rfl⟩
        go_wp2_with fail
        refine (zag_any (Sp.zg z) w4 HZ5.out).mono ?_
        rintro e w' ⟨rfl, rfl⟩
        rw [HZ3.out]
        go_wp2_with fail
        refine (zag_any n w4 HN.out).mono ?_
        rintro e w' ⟨rfl, rfl⟩
        go_wp2_with fail
        refine (zig_any (Sp.zt n) w4 HZ6.out.1 HZ6.out.2).mono ?_
        rintro e w' ⟨rfl, rfl⟩
        rw [HZ4.out]
        go_wp2_with fail
        go_ret
        exact ⟨rfl, hb4⟩
      · have hd1 : decide (z < -64) = false := by simp; omega
        have hd2 : decide (64 ≤ z) = false := by simp; omega
        go_wp2_with fail
        refine (zig_any z w4 HZ1.out HZ2.out).mono ?_
        rintro e w' ⟨rfl, rfl⟩
        go_wp2_with fail
        refine (zag_any (Sp.zg z) w4 HZ5.out).mono ?_
        rintro e w' ⟨rfl, rfl⟩
        rw [HZ3.out]
        go_wp2_with fail
        refine (zag_any n w4 HN.out).mono ?_
        rintro e w' ⟨rfl, rfl⟩
        go_wp2_with fail
        refine (zig_any (Sp.zt n) w4 HZ6.out.1 HZ6.out.2).mono ?_
        rintro e w' ⟨rfl, rfl⟩
        rw [HZ4.out]
        go_wp2_with fail
        refine (zig_any z w4 HZ1.out HZ2.out).mono ?_
        rintro e w' ⟨rfl, rfl⟩
        have hlt : Sp.zg z < 128 := by unfold Sp.zg; split <;> omega
        go_wp2_with fail
        go_ret
        exact ⟨congrArg (fun x => Ending.returned (Value.bool x)) (decide_eq_true (by omega)), hb4⟩
end Go.Proofs.Ytafkoeebnkmpcaa
