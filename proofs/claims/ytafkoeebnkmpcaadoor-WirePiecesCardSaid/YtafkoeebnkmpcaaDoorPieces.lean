/-
  THE WALK of sealpresslaw.WirePieces: at all arguments it returns true, and writes nothing that was there.
-/
import Derived.Test.YtafkoeebnkmpcaaDoorSame
import Derived.Deep.RegionHeldLaw
import Derived.Deep.QuietTactic
import Derived.BigQuiet
import Derived.Deep.DeepCutAuto
namespace Go.Proofs.YtafkoeebnkmpcaaDoor
open Go.RowKit

theorem below_step2 {w b c : World} (h : Below w.heap.size w b) (k : Below b.heap.size b c) : Below w.heap.size w c := h.trans (k.mono h.size)
def TrueOut (w : World) (e : Ending) (w' : World) : Prop := e = .returned (.bool true) ∧ Below w.heap.size w w'

set_option maxRecDepth 100000 in
set_option maxHeartbeats 40000000 in
theorem pieces_walk (A : Option Addr) (L C : Nat) (bs : List UInt8) (w : World) (h : Rd w w.heap.size A L bs) (hLC : L ≤ C) (hg : TypeVar w) :
    Calls Tryd.prog 4 #[.slice A L C] w (TrueOut w) := by
  by_cases hbig : 500 < L
  · go_enter Tryd.func4, Tryd.ntmps4
    go_wp2_with fail
    go_ret
    exact ⟨rfl, Below.refl _ _⟩
  · have HT := Lib.hid hg
    obtain ⟨q, al, ev, cv, hal, hbare, href, hnext⟩ := both_next bs
    obtain ⟨qs, ev2, cv2, hbare2, hrs, hsp⟩ := both_split bs
    have hss : sb (⟨bs.toArray⟩ : ByteArray) = bs := by simp [sb]
    obtain ⟨sB, hsB⟩ : ∃ sB : ByteArray, sB = ⟨bs.toArray⟩ := ⟨_, rfl⟩
    rw [← hsB] at hss
    have HSS := Lib.hid hss
    have hlen := h.len
    have HSZ : Hid (sB.size ≤ 1000000) := by
      have : sB.size = bs.length := by rw [hsB]; simp [ByteArray.size]
      exact (by omega : sB.size ≤ 1000000)
    have HCV : Hid (∀ W : World, Below w.heap.size w W → (convert 22 9 (.slice A L C)).run Tryd.prog W = .ok (.string sB) W) := by
      intro W hW
      rw [hsB]
      exact conv_rd (RdV.below h hW)
    have HREF : Hid (∀ W : World, Calls Tryd.prog 19 #[.string sB] W fun e w' => Below W.heap.size W w' ∧ e = .returned (.tuple #[rv q al, .int .i64 cv])) := by
      intro W
      have := refnext_any sB W HSZ.out
      rw [HSS.out] at this
      exact this.mono fun e w' hp => href _ _ _ hp
    have HNEXT : Hid (∀ W : World, Below w.heap.size w W → Calls Tryd.prog 20 #[.slice A L C] W fun e w' => Below W.heap.size W w' ∧ ∃ A c, e = .returned (.tuple #[wv q A c, ev]) ∧ Rd w' w'.heap.size A q.bytes.length q.bytes) := by
      intro W hW
      exact (next_any w.heap.size A L C bs W (RdV.below h hW) hW.size (by omega) hLC).mono fun e w' hp => hnext _ _ _ hp
    have HRS : Hid (∀ W : World, Calls Tryd.prog 22 #[.string sB] W fun e w' => Below W.heap.size W w' ∧ ∃ v, e = .returned (.tuple #[v, .int .i64 cv2]) ∧ RPcs w' W.heap.size v qs) := by
      intro W
      have := refsplit_any sB W HSZ.out
      rw [HSS.out] at this
      exact this.mono fun e w' hp => hrs _ _ _ hp
    have HSP : Hid (∀ W : World, Below w.heap.size w W → Calls Tryd.prog 23 #[.slice A L C] W fun e w' => Below W.heap.size W w' ∧ ∃ v, e = .returned (.tuple #[v, ev2]) ∧ Pcs w' W.heap.size v qs) := by
      intro W hW
      exact (split_any w.heap.size A L C bs W (RdV.below h hW) hW.size (by omega) hLC).mono fun e w' hp => hsp _ _ _ hp
    have HAL := Lib.hid hal
    have HB1 := Lib.hid hbare
    have HB2 := Lib.hid hbare2
    have hcv := HCV.out w (Below.refl _ _)
    clear hal hbare hbare2 href hnext hrs hsp hsB hss hlen h hg
    go_enter Tryd.func4, Tryd.ntmps4
    go_wp2_with fail
    refine (HREF.out w).mono ?_
    rintro e w1 ⟨hb1, rfl⟩
    have hs1 := hb1.size
    clear hcv
    simp only [rv]
    go_wp2_with fail
    refine (HNEXT.out _ (hb1.alloc hs1 _)).mono ?_
    rintro e w2 ⟨hb2, A2, c2, rfl, hr2⟩
    have hbw2 : Below w.heap.size w w2 := below_step2 (hb1.alloc hs1 _) hb2
    have hs2 := hbw2.size
    have hk1 := Blk.below (Blk.new w1 43 #[.int .i64 (q.num : Nat), .int .i64 (q.form : Nat), .int .u64 (q.val : Nat), .string ⟨q.bytes.toArray⟩, .string al]) hb2 (by simp)
    have hs12 := hb2.size
    simp only [World.size_alloc] at hs12
    clear hb2
    simp only [wv]
    go_wp2_with fail
    refine (HB1.out _ ((HT.out.below hbw2 (Nat.le_refl _)).alloc _)).mono ?_
    rintro e w3 ⟨rfl, hb3⟩
    have hbw3 := below_step2 (hbw2.alloc hs2 _) hb3
    have hk1' := Blk.below (hk1.alloc (.cells #[.int .i64 (q.num : Nat), .int .i64 (q.form : Nat), .int .u64 (q.val : Nat), .slice A2 q.bytes.length c2, .int .i64 (q.long : Nat)] 47)) hb3 (by simp; omega)
    have hk2 := Blk.below (Blk.new w2 47 #[.int .i64 (q.num : Nat), .int .i64 (q.form : Nat), .int .u64 (q.val : Nat), .slice A2 q.bytes.length c2, .int .i64 (q.long : Nat)]) hb3 (by simp)
    have hr3 : Rd w3 w3.heap.size A2 q.bytes.length q.bytes := RdV.more (RdV.below (RdV.alloc hr2 (Nat.le_refl _) _) (hb3.mono (by simp))) (by have := hb3.size; simp at this; omega)
    have HR3 := Lib.hid hr3
    obtain ⟨⟨p0, p1, p2, p3, p4⟩, q0, q1, q2, q3, q4⟩ := Blk.five hk1'
    obtain ⟨⟨r0, r1, r2, r3, r4⟩, s0, s1, s2, s3, s4⟩ := Blk.five hk2
    clear hr2 hb3 hk1 hk1' hk2 hr3
    go_wp2_with fail
    refine (same_any w3 q A2 c2 al HR3.out HAL.out).mono ?_
    rintro e w4 ⟨rfl, hb4⟩
    have hbw4 := below_step2 hbw3 hb4
    have hcv4 := HCV.out w4 hbw4
    clear p0 p1 p2 p3 p4 q0 q1 q2 q3 q4 r0 r1 r2 r3 r4 s0 s1 s2 s3 s4 hb4 hbw3 hbw2 HR3 hs12 hb1
    go_wp2_with fail
    refine (HRS.out w4).mono ?_
    rintro e w5 ⟨hb5, v5, rfl, hp5⟩
    have hbw5 := below_step2 hbw4 hb5
    clear hcv4 hb5
    go_wp2_with fail
    refine (HSP.out w5 hbw5).mono ?_
    rintro e w6 ⟨hb6, v6, rfl, hp6⟩
    have hbw6 := below_step2 hbw5 hb6
    have hp56 := RPcs.below hp5 hb6 (Nat.le_refl _)
    clear hp5 hb6
    go_wp2_with fail
    refine (HB2.out w6 (HT.out.below hbw6 (Nat.le_refl _))).mono ?_
    rintro e w7 ⟨rfl, hb7⟩
    have hbw7 := below_step2 hbw6 hb7
    have hp57 := RPcs.below hp56 hb7 (Nat.le_refl _)
    have hp67 := Pcs.below hp6 hb7 (Nat.le_refl _)
    have hle := hp57.le
    unfold maxLen at hle
    have HP5 := Lib.hid hp57
    have HP6 := Lib.hid hp67
    have HBW := Lib.hid hbw7
    obtain ⟨A5, c5, rfl, hc5⟩ := RPcs.len hp57
    obtain ⟨A6, c6, rfl, hc6⟩ := Pcs.len hp67
    clear hp56 hp6 hb7 hbw4 hbw5 hbw6 hbw7 hp57 hp67
    go_wp2_with fail
    go_loopw [9] (fun i wr => ∃ k : Nat, k ≤ qs.length ∧ i = .int .i64 (k : Int) ∧ Below w7.heap.size w7 wr) (fun i _ => qs.length - (intOf i).toNat)
    case atStart => exact ⟨0, by omega, rfl, Below.refl _ _⟩
    case round =>
      obtain ⟨k, hk, rfl, hbr⟩ := hrel
      by_cases hkl : k < qs.length
      · obtain ⟨P, hP⟩ : ∃ P, qs[k]? = some P := ⟨_, List.getElem?_eq_getElem hkl⟩
        obtain ⟨g5, d5, al5, hal5, e5, hg5, a0, a1, a2, a3, a4⟩ := RPcs.at_ (RPcs.below HP5.out hbr (Nat.le_refl _)) hP
        injection e5 with e5 _ e5c
        subst e5 e5c
        obtain ⟨g6, d6, B6, c7, e6, hg6, hr6, b0, b1, b2, b3, b4⟩ := Pcs.at_ (Pcs.below HP6.out hbr (Nat.le_refl _)) hP
        injection e6 with e6 _ e6c
        subst e6 e6c
        have HSAME : Hid (∀ W : World, Below wr.heap.size wr W → Calls Tryd.prog 21 #[wv P B6 c7, rv P al5] W fun e w' => e = .returned (.bool true) ∧ Below W.heap.size W w') := by
          intro W hW
          exact same_any W P B6 c7 al5 (RdV.more (RdV.below hr6 hW) hW.size) hal5
        unfold wv rv at HSAME
        have hbd : Below wr.heap.size wr wr.drew := (Below.refl _ wr).drew
        have HK : Hid (∀ W : World, Below wr.heap.size wr W → (Below wr.heap.size wr W ∧
            W.cell? ⟨g5, k * 5, none⟩ = some (.int .i64 (P.num : Nat)) ∧ W.cell? ⟨g5, k * 5 + 1, none⟩ = some (.int .i64 (P.form : Nat)) ∧ W.cell? ⟨g5, k * 5 + 2, none⟩ = some (.int .u64 (P.val : Nat)) ∧ W.cell? ⟨g5, k * 5 + 3, none⟩ = some (.string ⟨P.bytes.toArray⟩) ∧ W.cell? ⟨g5, k * 5 + 4, none⟩ = some (.string al5) ∧
            W.cell? ⟨g6, k * 5, none⟩ = some (.int .i64 (P.num : Nat)) ∧ W.cell? ⟨g6, k * 5 + 1, none⟩ = some (.int .i64 (P.form : Nat)) ∧ W.cell? ⟨g6, k * 5 + 2, none⟩ = some (.int .u64 (P.val : Nat)) ∧ W.cell? ⟨g6, k * 5 + 3, none⟩ = some (.slice B6 P.bytes.length c7) ∧ W.cell? ⟨g6, k * 5 + 4, none⟩ = some (.int .i64 (P.long : Nat)))) := by
          intro W hW
          have h5 := fun o => hW.cell (p := ⟨g5, o, none⟩) hg5
          have h6 := fun o => hW.cell (p := ⟨g6, o, none⟩) hg6
          exact ⟨hW, (h5 _).trans a0, (h5 _).trans a1, (h5 _).trans a2, (h5 _).trans a3, (h5 _).trans a4, (h6 _).trans b0, (h6 _).trans b1, (h6 _).trans b2, (h6 _).trans b3, (h6 _).trans b4⟩
        have HBR := Lib.hid hbr
        have hbk : k < 9223372036854775807 := by omega
        clear hP hr6 hal5 hbr a0 a1 a2 a3 a4 b0 b1 b2 b3 b4 hg5 hg6
        go_wp2_with fail
        go_region_held_law (fun W => Below wr.heap.size wr W ∧
            W.cell? ⟨g5, k * 5, none⟩ = some (.int .i64 (P.num : Nat)) ∧ W.cell? ⟨g5, k * 5 + 1, none⟩ = some (.int .i64 (P.form : Nat)) ∧ W.cell? ⟨g5, k * 5 + 2, none⟩ = some (.int .u64 (P.val : Nat)) ∧ W.cell? ⟨g5, k * 5 + 3, none⟩ = some (.string ⟨P.bytes.toArray⟩) ∧ W.cell? ⟨g5, k * 5 + 4, none⟩ = some (.string al5) ∧
            W.cell? ⟨g6, k * 5, none⟩ = some (.int .i64 (P.num : Nat)) ∧ W.cell? ⟨g6, k * 5 + 1, none⟩ = some (.int .i64 (P.form : Nat)) ∧ W.cell? ⟨g6, k * 5 + 2, none⟩ = some (.int .u64 (P.val : Nat)) ∧ W.cell? ⟨g6, k * 5 + 3, none⟩ = some (.slice B6 P.bytes.length c7) ∧ W.cell? ⟨g6, k * 5 + 4, none⟩ = some (.int .i64 (P.long : Nat))) (exact HK.out _ (by assumption))
          (first
            | (go_at_call 21; refine (HSAME.out _ (by assumption)).mono ?_; rintro e w8 ⟨rfl, hb8⟩; have hbw8 := below_step2 (w := wr) (by assumption) hb8))
        all_goals
          go_wp2_with fail
          go_roundw
          case rel => exact ⟨k + 1, by omega, by go_num, below_step2 HBR.out (by assumption)⟩
          case measure => simp [intOf]; omega
      · obtain rfl : k = qs.length := by omega
        have hbe := below_step2 HBW.out hbr
        clear hbr
        go_wp2_with fail
        go_ret
        exact ⟨rfl, hbe⟩
end Go.Proofs.YtafkoeebnkmpcaaDoor
