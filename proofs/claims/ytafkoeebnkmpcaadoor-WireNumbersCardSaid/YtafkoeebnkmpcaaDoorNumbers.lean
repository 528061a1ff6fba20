/-
  THE WALK of sealpresslaw.WireNumbers: at all arguments it returns true, and writes nothing that was there.
-/
import Derived.Test.YtafkoeebnkmpcaaDoorFixd
import Derived.Test.YtafkoeebnkmpcaaDoorJoins
import Derived.Deep.RegionHeldLaw
import Derived.Deep.QuietTactic
import Derived.BigQuiet
import Derived.Deep.DeepCutAuto
namespace Go.Proofs.YtafkoeebnkmpcaaDoor
open Go.RowKit

/-- What both readers answer: the number, how many bytes; the one an error, the other its code. -/
theorem both_read (x : Option (Nat × Nat)) : ∃ (m k : Nat) (ev : Value) (cv : Int), gvRes x = .tuple #[.int .u64 m, .int .i64 k, ev] ∧ refRes x = .tuple #[.int .u64 m, .int .i64 k, .int .i64 cv] ∧
    ∀ w : World, TypeVar w → Calls Tryd.prog 7 #[ev, .int .i64 cv] w fun e w' => e = .returned (.bool true) ∧ Below w.heap.size w w' := by
  rcases x with _ | ⟨m, k⟩
  · exact ⟨0, 0, errV, 3, rfl, rfl, fun w hg => bare_err w hg⟩
  · exact ⟨m, k, .nilIface, 0, rfl, rfl, fun w _ => bare_nil w⟩

theorem below_drewN {B : Nat} {a w : World} (h : Below B a w) (n : Nat) : Below B a (w.drewN n) := ⟨h.os, h.tape, h.output, h.size, h.block⟩
theorem below_step {w b c : World} (h : Below w.heap.size w b) (k : Below b.heap.size b c) : Below w.heap.size w c := h.trans (k.mono h.size)
/-- What a call that appends leaves, as the caller uses it: string() of the slice, in whatever later world. -/
def PutOut (base : Nat) (w0 : World) (v : Value) (nv : Nat) (xs : List Value) (len : Nat) (s : ByteArray) (e : Ending) (w4 : World) : Prop :=
  ∃ (A4 : Option Addr) (c4 : Nat), e = .returned (.slice A4 len c4) ∧ Below w0.heap.size w0 w4 ∧ w4.ownsRow base 5 1 v nv xs ∧ Below w4.heap.size w4 w4 ∧
    ∀ W : World, Below w4.heap.size w4 W → (convert 22 9 (.slice A4 len c4)).run Tryd.prog W = .ok (.string s) W
theorem put_out {base : Nat} {w0 w : World} {v : Value} {nv : Nat} {bs ys : List UInt8} {e : Ending} {w4 : World} (hb : Below w0.heap.size w0 w) (hbase : base = w0.heap.size) (hown : w.ownsRow base 5 1 v nv (cb bs))
    (h : AppPost base w v nv (cb bs) ys e w4) : PutOut base w0 v nv (cb bs) (nv + ys.length) ⟨(bs ++ ys).toArray⟩ e w4 := by
  subst hbase
  obtain ⟨v', rfl, h1, h2⟩ := h
  rw [← cb_append] at h1
  obtain ⟨A4, c4, rfl, _, _, hrd⟩ := own_rd h1
  exact ⟨A4, c4, rfl, hb.grown h2.1 hb.size (fun k hk => (hown.lt k hk).1), h2.2.1, Below.refl _ _, fun W hW => conv_rd (RdV.below hrd hW)⟩

theorem wrap64_bounds (n : Int) : -9223372036854775808 ≤ wrap64 n ∧ wrap64 n ≤ 9223372036854775807 := by unfold wrap64; omega
def TrueEnd (w : World) (e : Ending) (w' : World) : Prop := e = .returned (.bool true) ∧ Below w.heap.size w w'

set_option maxRecDepth 100000 in
set_option maxHeartbeats 40000000 in
theorem numbers_walk (A : Option Addr) (L C : Nat) (bs : List UInt8) (n : Nat) (many : Int) (w : World) (h : Rd w w.heap.size A L bs) (hn : n < 18446744073709551616) (hm1 : -9223372036854775808 ≤ many) (hm2 : many ≤ 9223372036854775807) (hg : TypeVar w) :
    Calls Tryd.prog 3 #[.slice A L C, .int .u64 n, .int .i64 many] w (TrueEnd w) := by
  by_cases hbig : 100 < L
  · go_enter Tryd.func3, Tryd.ntmps3
    go_wp2_with fail
    go_ret
    exact ⟨rfl, Below.refl _ _⟩
  · obtain ⟨i0, hi, hz0, hz1, hz2⟩ := info_parts infoB
    obtain ⟨m, k, ev, cv, HG1, HG2, HB⟩ := both_read (Sp.gv 0 bs)
    have HN := Lib.hid hn
    have HM1 := Lib.hid hm1
    have HM2 := Lib.hid hm2
    have HT := Lib.hid hg
    have hcv := conv_rd (c := C) h
    have hss : sb (⟨bs.toArray⟩ : ByteArray) = bs := by simp [sb]
    obtain ⟨sB, hsB⟩ : ∃ sB : ByteArray, sB = ⟨bs.toArray⟩ := ⟨_, rfl⟩
    rw [← hsB] at hcv hss
    have HSB := Lib.hid hsB
    have HSS := Lib.hid hss
    have hlen := h.len
    have HL := Lib.hid hlen
    have hsz : Hid (sB.size ≤ 1000000000) := by
      have : sB.size = bs.length := by rw [hsB]; simp [ByteArray.size]
      exact (by omega : sB.size ≤ 1000000000)
    obtain ⟨vn, hvn⟩ : ∃ vn, vn = Sp.vb n := ⟨_, rfl⟩
    have hsize : ∀ W : World, Calls Tryd.prog 8 #[.int .u64 n] W fun e w' => e = .returned (.int .i64 (vn.length : Nat)) ∧ W = w' := by
      intro W; rw [hvn]; exact size_any n W hn
    obtain ⟨sV, hsV⟩ : ∃ sV : ByteArray, sV = ⟨vn.toArray⟩ := ⟨_, rfl⟩
    have hvar : ∀ W : World, Calls Tryd.prog 9 #[.int .u64 n] W fun e w' => e = .returned (.string sV) ∧ Below W.heap.size W w' := by
      intro W
      have hp : (128 : Nat) ^ (9 + 1) = 1180591620717411303424 := by simp
      rw [hsV, hvn]
      exact refvar_any 9 n W (by omega) (by rw [hp]; omega) hn
    have hsVl : sV.size = vn.length := by rw [hsV]; simp [ByteArray.size]
    have HSV := Lib.hid hsV
    have HVN := Lib.hid hvn
    have hvl := (Sp.vb_len n).2
    rw [← hvn] at hvl
    have HSIZE := Lib.hid hsize
    have HVAR := Lib.hid hvar
    clear hsV hvn hsize hvar
    have HG1' := Lib.hid HG1
    have HG2' := Lib.hid HG2
    have HB' := Lib.hid HB
    clear hn hm1 hm2 hg hsB hss hlen HG1 HG2 HB
    go_enter Tryd.func3, Tryd.ntmps3
    go_wp2_with fail
    refine (refget_any sB w hsz.out).mono ?_
    rintro e w1 ⟨rfl, rfl⟩
    rw [HSS.out, HG2'.out]
    go_wp2_with fail
    refine (get_any w.heap.size A L C bs w h (by omega)).mono ?_
    rintro e w1 ⟨rfl, rfl⟩
    rw [HG1'.out]
    go_wp2_with fail
    refine (HB'.out w HT.out).mono ?_
    rintro e w1 ⟨rfl, hb1⟩
    have hrd1 := RdV.below h hb1
    have hs1 := hb1.size
    clear hcv
    go_wp2_with fail
    refine (HSIZE.out w1).mono ?_
    rintro e w2 ⟨rfl, rfl⟩
    go_wp2_with fail
    refine (HVAR.out w1).mono ?_
    rintro e w2 ⟨rfl, hb2⟩
    have hb12 := hb1.trans (hb2.mono hs1)
    have hs2 := hb12.size
    have hrd2 := RdV.below h hb12
    clear hb1 hb2 hrd1 hs1
    go_wp2_with (first | (at_builtin; go_must (refine wpList_app _ rfl (.tmp 52) (.tmp 53) 22 rfl w.heap.size 5 i0 (.int .u8 0) 1 Tryd.underlying22 hi hz0 hz1 hz2 rfl _ 0 [] rfl (own_empty hs2) w.heap.size A L C (cb bs) rfl (RdV.alloc hrd2 hs2 _) (cb_one _) ?_ ?_ ?_ ?_)))
    · unfold maxLen; omega
    · omega
    · simp; omega
    intro v3 w3 h31 h32 _ _
    have hb3 : Below w.heap.size w w3 := (hb12.alloc hs2 _).grown h32 (by simp; omega) (fun k hk => by simp [Value.ownBlock] at hk; omega)
    have hs3 := hb3.size
    obtain ⟨A3, c3, rfl, _, _⟩ := own_form h31
    have hcvb : ∀ W : World, Below w.heap.size w W → (convert 22 9 (.slice A L C)).run Tryd.prog W = .ok (.string sB) W := by
      intro W hW
      rw [HSB.out]
      exact conv_rd (RdV.below h hW)
    obtain ⟨s4, hs4⟩ : ∃ s4 : ByteArray, s4 = ⟨(bs ++ vn).toArray⟩ := ⟨_, rfl⟩
    have hadd : ∀ W : World, (Op.stringOp .add sB sV).run Tryd.prog W = .ok (.string s4) W := by
      intro W
      rw [HSB.out, HSV.out, hs4]
      exact add_str bs vn (by have := HL.out; omega) W
    have HPUT : Hid (∀ W : World, Below w.heap.size w W → W.ownsRow w.heap.size 5 1 (.slice A3 L c3) L (cb bs) → Calls Tryd.prog 10 #[.slice A3 L c3, .int .u64 n] W (PutOut w.heap.size w (.slice A3 L c3) L (cb bs) (L + vn.length) s4)) := by
      intro W hW hO
      rw [hs4, HVN.out]
      exact (put_any w.heap.size (.slice A3 L c3) L (cb bs) n W hO HN.out (by omega) hW.size).mono fun _ _ hp => put_out hW rfl hO hp
    obtain ⟨M, hM⟩ : ∃ M : Nat, min (max many 0) 8 = (M : Int) := ⟨(min (max many 0) 8).toNat, by omega⟩
    have hM8 : M ≤ 8 := by omega
    obtain ⟨sF, hsF⟩ : ∃ sF : ByteArray, sF = ⟨(Sp.fx M n).toArray⟩ := ⟨_, rfl⟩
    obtain ⟨s5, hs5⟩ : ∃ s5 : ByteArray, s5 = ⟨(bs ++ Sp.fx M n).toArray⟩ := ⟨_, rfl⟩
    have hadd2 : ∀ W : World, (Op.stringOp .add sB sF).run Tryd.prog W = .ok (.string s5) W := by
      intro W
      rw [HSB.out, hsF, hs5]
      exact add_str bs _ (by have := HL.out; rw [Sp.fx_len]; omega) W
    have HPUTF : Hid (∀ W : World, Below w.heap.size w W → W.ownsRow w.heap.size 5 1 (.slice A3 L c3) L (cb bs) → Calls Tryd.prog 11 #[.slice A3 L c3, .int .u64 n, .int .i64 many] W (PutOut w.heap.size w (.slice A3 L c3) L (cb bs) (L + M) s5)) := by
      intro W hW hO
      have e := Sp.fx_len M n
      rw [hs5]
      refine (putfixed_any w.heap.size (.slice A3 L c3) L (cb bs) n many M W hO HN.out (by omega) hW.size hM).mono fun _ _ hp => ?_
      have := put_out hW rfl hO hp
      rwa [e] at this
    have HFIX : Hid (∀ W : World, Calls Tryd.prog 12 #[.int .u64 n, .int .i64 M] W fun e w' => e = .returned (.string sF) ∧ Below W.heap.size W w') := by
      intro W
      rw [hsF]
      exact reffixed_any n M W HN.out hM8
    clear h32 hb12 hrd2 hs2 hs4 hsF hs5
    have HH := Lib.hid h
    clear h
    go_upto_region 8 with fail
    go_cut [80] (fun s wx => s = Value.bool false ∧ Hid (wx.ownsRow w.heap.size 5 1 (.slice A3 L c3) L (cb bs)) ∧ Hid (Below w.heap.size w wx))
    case first =>
      have hb3d : Below w.heap.size w w3.drew := hb3.drew
      have ho3d : w3.drew.ownsRow w.heap.size 5 1 (.slice A3 L c3) L (cb bs) := h31
      clear hb3 h31
      go_region_held_law (fun w' => Below w.heap.size w w') (assumption)
        (first
          | (go_at_call 10; refine (HPUT.out _ (by assumption) (by assumption)).mono ?_; rintro e w4 ⟨A4, c4, rfl, hb4, ho4, hr4, hcv4⟩)
          | (go_at_call 9; refine (HVAR.out _).mono ?_; rintro e w5 ⟨rfl, hb5⟩; have hbw5 := below_step (by assumption) hb5; have ho5 := own_below (by assumption) hb5 (Nat.le_refl _))
          | (go_at_call 11; refine (HPUTF.out _ (by assumption) (by assumption)).mono ?_; rintro e w6 ⟨A6, c6, rfl, hb6, ho6, hr6, hcv6⟩)
          | (go_at_call 12; refine (HFIX.out _).mono ?_; rintro e w7 ⟨rfl, hb7⟩; have hbw7 := below_step (by assumption) hb7; have ho7 := own_below (by assumption) hb7 (Nat.le_refl _)))
      all_goals (go_wp2_with fail; go_meet; refine ⟨rfl, ?_, ?_⟩ <;> unfold Hid <;> assumption)
    case rest =>
      obtain ⟨rfl, HO, HBX⟩ := hcut
      clear hb3 h31 hadd hadd2 hM
      have hbx := HBX.out
      have hox := HO.out
      obtain ⟨q, hq, hq8⟩ : ∃ q : Nat, n % 8 = q ∧ q < 8 := ⟨n % 8, rfl, by omega⟩
      have hrem : (n : Int).tmod 8 = (q : Int) := by rw [Int.tmod_eq_emod_of_nonneg (by omega)]; omega
      have hrem2 : (n : Int) % 8 = (q : Int) := by omega
      have hwq : wrap64 (q : Int) = (q : Int) := by unfold wrap64; omega
      have hwq2 : IntKind.i64.wrap (q : Int) = (q : Int) := by rw [IntWalk.i64_left]; exact hwq
      clear hq
      go_upto_region 10 with fail
      go_cut [104] (fun s wy => s = Value.bool false ∧ Hid (Below w.heap.size w wy))
      case first =>
        by_cases hm1 : 1 ≤ many
        · by_cases hm2 : many ≤ 536870911
          · obtain ⟨num, rfl⟩ := Int.eq_ofNat_of_zero_le (show 0 ≤ many by omega)
            have hd1 : decide ((1 : Int) ≤ (num : Int)) = true := by simp; omega
            have hd2 : decide ((num : Int) ≤ (536870911 : Int)) = true := by simp; omega
            obtain ⟨vt, hvt⟩ : ∃ vt, vt = Sp.vb (num * 8 + q) := ⟨_, rfl⟩
            have hvtl := (Sp.vb_len (num * 8 + q)).2
            rw [← hvt] at hvtl
            obtain ⟨sT, hsT⟩ : ∃ sT : ByteArray, sT = ⟨vt.toArray⟩ := ⟨_, rfl⟩
            obtain ⟨s6, hs6⟩ : ∃ s6 : ByteArray, s6 = ⟨(bs ++ vt).toArray⟩ := ⟨_, rfl⟩
            have hadd3 : ∀ W : World, (Op.stringOp .add sB sT).run Tryd.prog W = .ok (.string s6) W := by
              intro W
              rw [HSB.out, hsT, hs6]
              exact add_str bs vt (by have := HL.out; omega) W
            have HPUTT : Hid (∀ W : World, Below w.heap.size w W → W.ownsRow w.heap.size 5 1 (.slice A3 L c3) L (cb bs) → Calls Tryd.prog 13 #[.slice A3 L c3, .int .i64 (num : Int), .int .i64 (q : Int)] W (PutOut w.heap.size w (.slice A3 L c3) L (cb bs) (L + vt.length) s6)) := by
              intro W hW hO
              rw [hs6, hvt]
              exact (puttag_any w.heap.size (.slice A3 L c3) L (cb bs) num q W hO (by omega) hq8 (by omega) hW.size).mono fun _ _ hp => put_out hW rfl hO hp
            have HTAG : Hid (∀ W : World, Calls Tryd.prog 14 #[.int .i64 (num : Int), .int .i64 (q : Int)] W fun e w' => e = .returned (.string sT) ∧ Below W.heap.size W w') := by
              intro W
              rw [hsT, hvt]
              exact reftag_any num q W (by omega) hq8
            have hb3d : Below w.heap.size w wc.drew := hbx.drew
            have ho3d : wc.drew.ownsRow w.heap.size 5 1 (.slice A3 L c3) L (cb bs) := hox
            clear hvt hsT hs6 hbx hox hm1 hm2
            go_region_held_law (fun w' => Below w.heap.size w w') (assumption)
              (first
                | (go_at_call 13; refine (HPUTT.out _ (by assumption) (by assumption)).mono ?_; rintro e w4 ⟨A4, c4, rfl, hb4, ho4, hr4, hcv4⟩)
                | (go_at_call 14; refine (HTAG.out _).mono ?_; rintro e w5 ⟨rfl, hb5⟩; have hbw5 := below_step (by assumption) hb5))
            all_goals (go_wp2_with fail; go_meet; refine ⟨rfl, ?_⟩; unfold Hid; assumption)
          · have hd1 : decide ((1 : Int) ≤ many) = true := by simp; omega
            have hd2 : decide (many ≤ (536870911 : Int)) = false := by simp; omega
            clear hm1 hm2 hcvb
            go_quiet (fail)
            go_wp2_with fail
            go_meet
            exact ⟨rfl, below_drewN HBX.out _⟩
        · have hd1 : decide ((1 : Int) ≤ many) = false := by simp; omega
          clear hm1 hcvb
          go_quiet (fail)
          go_wp2_with fail
          go_meet
          exact ⟨rfl, below_drewN HBX.out _⟩
      case rest =>
        obtain ⟨rfl, HBY⟩ := hcut
        obtain ⟨z, hz, hz1', hz2'⟩ : ∃ z : Int, wrap64 (n : Int) = z ∧ -9223372036854775808 ≤ z ∧ z ≤ 9223372036854775807 := ⟨wrap64 (n : Int), rfl, (wrap64_bounds _).1, (wrap64_bounds _).2⟩
        have HZ1 := Lib.hid hz1'
        have HZ2 := Lib.hid hz2'
        clear hz1' hz2' hcvb hrem hrem2 hwq hwq2 hbx hox
        go_wp2_with fail
        refine (zig_any z _ HZ1.out HZ2.out).mono ?_
        rintro e w' ⟨rfl, rfl⟩
        go_wp2_with fail
        refine (refzig_any z _ HZ1.out HZ2.out).mono ?_
        rintro e w' ⟨rfl, rfl⟩
        go_wp2_with fail
        refine (zag_any n _ HN.out).mono ?_
        rintro e w' ⟨rfl, rfl⟩
        go_wp2_with fail
        refine (refzag_any n _ HN.out).mono ?_
        rintro e w' ⟨rfl, rfl⟩
        go_wp2_with fail
        go_ret
        exact ⟨rfl, HBY.out⟩
end Go.Proofs.YtafkoeebnkmpcaaDoor
