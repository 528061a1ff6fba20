/-
  THE WALK of wire.Next at forms 1 and 5: eight and four bytes, the least one first.
-/
import Derived.Test.YtafkoeebnkmpcaaDoorNext
import Derived.ChangeAlike
namespace Go.Proofs.YtafkoeebnkmpcaaDoor
open Go.RowKit

/-- What the loop over the bytes knows: the piece's block, the result's block, what was there. -/
def FixRel (w : World) (num form : Nat) (wr : World) (v : Nat) : Prop :=
  Blk wr w.heap.size 47 #[.int .i64 0, .int .i64 0, .int .u64 0, .slice none 0 0, .int .i64 0] ∧ Blk wr (w.heap.size + 1) 47 #[.int .i64 ((num : Nat) : Int), .int .i64 ((form : Nat) : Int), .int .u64 ((v : Nat) : Int), .slice none 0 0, .int .i64 0] ∧ Below w.heap.size w wr ∧ v < 18446744073709551616

theorem fix_step {w wr : World} {num form v v' : Nat} (h : FixRel w num form wr v) (hv : v' < 18446744073709551616) : FixRel w num form ((wr.setCell ⟨w.heap.size + 1, 2, none⟩ (.int .u64 (v' : Int))).drew) v' := by
  obtain ⟨h1, h2, h3, _⟩ := h
  refine ⟨Blk.drew (h1.far (by simp) _), ?_, (h3.setCell (by simp) _).drew, hv⟩
  have := h2.set_ 2 (.int .u64 (v' : Int))
  exact Blk.drew this

set_option maxRecDepth 100000 in
set_option maxHeartbeats 1000000 in
theorem next_eight (B b off : Nat) (n c : Nat) (bs : List UInt8) (w : World) (HR : Rd w B (some ⟨b, off, none⟩) n bs) (hB : B ≤ w.heap.size) (hn : n ≤ 1000000000) (hnc : n ≤ c) (tag k : Nat) (hg : Sp.gv 0 bs = some (tag, k)) (ht1 : ¬ tag / 8 < 1) (ht2 : ¬ 536870911 < tag / 8) (hf : tag % 8 = 1) (hkn : k < n) :
    Calls Tryd.prog 20 #[.slice (some ⟨b, off, none⟩) n c] w (NextPost w (Sp.body (tag / 8) 1 k (bs.drop k))) := by
  have HG := Lib.hid hg
  have hgs := Sp.gv_some hg
  have hlen := HR.len
  have HL := Lib.hid hlen
  have htop : Sp.top 0 = 18446744073709551616 := rfl
  rw [htop] at hgs
  obtain ⟨_, hg1, hg2, hg3, hg4⟩ := hgs
  have hk10 : k ≤ 10 := by omega
  have H7 := and7 tag hg1
  rw [hf] at H7
  have h1 : decide ((tag : Int) / 8 < 1) = false := by simp; omega
  have h2 : decide (536870911 < (tag : Int) / 8) = false := by simp; omega
  have hw : wrap64 ((tag : Int) / 8) = (tag : Int) / 8 := by unfold wrap64; omega
  clear hg hg1 hg3 hg4 hlen htop ht1 ht2 hf
  have HRL : Rd w B (some ⟨b, off + k, none⟩) (n - k) (bs.drop k) := Rd.drop HR (by omega) (fun b' o' e hk' => by injection e with e; injection e with e1 e2; subst e1; subst e2; rfl)
  by_cases hlt : n - k < 8
  · have HB := Lib.hid (show Sp.body (tag / 8) 1 k (bs.drop k) = none from Sp.body_eight_none (by rw [List.length_drop, HL.out]; exact hlt))
    go_enter Tryd.func20, Tryd.ntmps20
    go_wp2_with fail
    refine (get_any B _ n c bs _ (RdV.alloc HR hB _) hn).mono ?_
    rintro e w1 ⟨rfl, rfl⟩
    rw [HG.out]
    simp only [gvRes]
    clear HR
    go_wp2_with fail
    exact bodyPost_ret (v := .tuple #[noPiece, errV]) (by simp [results, Tryd.results20, go_sem, noPiece, errV]) rfl (nextPost_none HB.out (((Below.refl _ _).alloc (Nat.le_refl _) _).alloc (by simp) _))
  · have HB := Lib.hid (show Sp.body (tag / 8) 1 k (bs.drop k) = some ⟨tag / 8, 1, Sp.le ((bs.drop k).take 8), [], k + 8⟩ from Sp.body_eight (by rw [List.length_drop, HL.out]; exact hlt))
    go_enter Tryd.func20, Tryd.ntmps20
    go_wp2_with fail
    refine (get_any B _ n c bs _ (RdV.alloc HR hB _) hn).mono ?_
    rintro e w1 ⟨rfl, rfl⟩
    rw [HG.out]
    simp only [gvRes]
    clear HR
    go_wp2_with fail
    rw [hw]
    go_loopw [11] (fun i wr => ∃ q : Nat, q ≤ 8 ∧ i = .int .i64 ((q : Int) - 1) ∧ Hid (FixRel w (tag / 8) 1 wr (Sp.le (((bs.drop k).take 8).drop q)))) (fun i _ => (intOf i + 1).toNat)
    case atStart =>
      have e0 : ((bs.drop k).take 8).drop 8 = [] := List.drop_eq_nil_of_le (by rw [List.length_take]; omega)
      refine ⟨8, by omega, rfl, ?_⟩
      rw [e0]
      exact (⟨(Blk.new w _ _).alloc _, Blk.new_at _ _ _ (by simp), ((Below.refl _ _).alloc (Nat.le_refl _) _).alloc (by simp) _, by simp⟩ : FixRel w (tag / 8) 1 _ 0)
    case round =>
      obtain ⟨q, hq, hi, HF⟩ := hrel
      rcases q with _ | q
      · obtain rfl : u11 = Value.int .i64 (-1) := hi
        obtain ⟨v, hv⟩ : ∃ v, v = Sp.le (((bs.drop k).take 8).drop 0) := ⟨_, rfl⟩
        rw [← hv] at HF
        rw [List.drop_zero] at hv
        rw [← hv] at HB
        clear hv
        obtain ⟨⟨p0, p1, p2, p3, p4⟩, q0, q1, q2, q3, q4⟩ := Blk.five HF.out.1
        obtain ⟨⟨r0, r1, r2, r3, r4⟩, s0, s1, s2, s3, s4⟩ := Blk.five HF.out.2.1
        go_wp2_with fail
        refine bodyPost_ret (v := .tuple #[pieceV ⟨tag / 8, 1, v, [], k + 8⟩ (.slice none 0 0), .nilIface]) (by simp [results, Tryd.results20, go_sem, pieceV, p0, p1, p2, p3, p4]) rfl ?_
        refine nextPost_some HB.out ?_ rfl (World.ownsRow_nil _ _ _ _)
        iterate 6 refine Below.setCell ?_ (by simp) _
        exact HF.out.2.2.1
      · obtain rfl : u11 = Value.int .i64 (q : Int) := by rw [hi]; congr 1; omega
        clear hi
        obtain ⟨x, t, hd, hx, ht⟩ := drop_cons (bs := bs.drop k) (k := q) (by rw [List.length_drop, HL.out]; omega)
        obtain ⟨b', o', e, hb', hc⟩ := Rd.at_ (RdV.below HRL (HF.out.2.2.1.mono hB)) (by omega)
        injection e with e; injection e with e1 e2
        subst e1; subst e2
        have hcell := hc q x hx
        obtain ⟨⟨p0, p1, p2, p3, p4⟩, q0, q1, q2, q3, q4⟩ := Blk.five HF.out.2.1
        have HV2 := Lib.hid (Sp.le_step (l := bs.drop k) (m := 8) (q := q) (x := x) (by omega) hx)
        have HV3 := Lib.hid (Sp.le_small (l := bs.drop k) (m := 8) (q := q + 1) (by omega) (by omega))
        obtain ⟨v, hv⟩ : ∃ v, v = Sp.le (((bs.drop k).take 8).drop (q + 1)) := ⟨_, rfl⟩
        rw [← hv] at p2 HF HV2 HV3
        have hx8 := Sp.toNat_lt x
        have HO := Lib.hid (Sp.or8 v x.toNat HV3.out hx8)
        clear hv hx hd ht hc hb' p0 p1 p3 p4 q0 q1 q3 q4
        go_wp2_with fail
        go_region
        go_wp2_with fail
        go_roundw
        case rel =>
          refine ⟨q, by omega, rfl, ?_⟩
          rw [HO.out, HV2.out]
          exact fix_step HF.out (by have := HV3.out; omega)
        case measure => simp [intOf]
end Go.Proofs.YtafkoeebnkmpcaaDoor
