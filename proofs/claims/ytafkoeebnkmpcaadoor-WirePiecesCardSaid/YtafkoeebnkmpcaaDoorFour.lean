/-
  THE WALK of wire.Next at form 5, at a tag with nothing behind it, at the forms that are none; the whole (next_any).
-/
import Derived.Test.YtafkoeebnkmpcaaDoorFix
import Derived.Test.YtafkoeebnkmpcaaDoorLen
namespace Go.Proofs.YtafkoeebnkmpcaaDoor
open Go.RowKit

set_option maxRecDepth 100000 in
set_option maxHeartbeats 1000000 in
theorem next_four (B b off : Nat) (n c : Nat) (bs : List UInt8) (w : World) (HR : Rd w B (some ⟨b, off, none⟩) n bs) (hB : B ≤ w.heap.size) (hn : n ≤ 1000000000) (hnc : n ≤ c) (tag k : Nat) (hg : Sp.gv 0 bs = some (tag, k)) (ht1 : ¬ tag / 8 < 1) (ht2 : ¬ 536870911 < tag / 8) (hf : tag % 8 = 5) (hkn : k < n) :
    Calls Tryd.prog 20 #[.slice (some ⟨b, off, none⟩) n c] w (NextPost w (Sp.body (tag / 8) 5 k (bs.drop k))) := by
  have HG := Lib.hid hg
  have hgs := Sp.gv_some hg
  have hlen := HR.len
  have HL := Lib.hid hlen
  have htop : Sp.top 0 = 18446744073709551616 := rfl
  rw [htop] at hgs
  obtain ⟨_, hg1, hg2, hg3, hg4⟩ := hgs
  have hk10 : k ≤ 10 := by omega
  have H7 := and7 tag hg1
  rw [hf] at H7
  have h1 : decide ((tag : Int) / 8 < 1) = false := by simp; omega
  have h2 : decide (536870911 < (tag : Int) / 8) = false := by simp; omega
  have hw : wrap64 ((tag : Int) / 8) = (tag : Int) / 8 := by unfold wrap64; omega
  clear hg hg1 hg3 hg4 hlen htop ht1 ht2 hf
  have HRL : Rd w B (some ⟨b, off + k, none⟩) (n - k) (bs.drop k) := Rd.drop HR (by omega) (fun b' o' e hk' => by injection e with e; injection e with e1 e2; subst e1; subst e2; rfl)
  by_cases hlt : n - k < 4
  · have HB := Lib.hid (show Sp.body (tag / 8) 5 k (bs.drop k) = none from Sp.body_four_none (by rw [List.length_drop, HL.out]; exact hlt))
    go_enter Tryd.func20, Tryd.ntmps20
    go_wp2_with fail
    refine (get_any B _ n c bs _ (RdV.alloc HR hB _) hn).mono ?_
    rintro e w1 ⟨rfl, rfl⟩
    rw [HG.out]
    simp only [gvRes]
    clear HR
    go_wp2_with fail
    exact bodyPost_ret (v := .tuple #[noPiece, errV]) (by simp [results, Tryd.results20, go_sem, noPiece, errV]) rfl (nextPost_none HB.out (((Below.refl _ _).alloc (Nat.le_refl _) _).alloc (by simp) _))
  · have HB := Lib.hid (show Sp.body (tag / 8) 5 k (bs.drop k) = some ⟨tag / 8, 5, Sp.le ((bs.drop k).take 4), [], k + 4⟩ from Sp.body_four (by rw [List.length_drop, HL.out]; exact hlt))
    go_enter Tryd.func20, Tryd.ntmps20
    go_wp2_with fail
    refine (get_any B _ n c bs _ (RdV.alloc HR hB _) hn).mono ?_
    rintro e w1 ⟨rfl, rfl⟩
    rw [HG.out]
    simp only [gvRes]
    clear HR
    go_wp2_with fail
    rw [hw]
    go_loopw [11] (fun i wr => ∃ q : Nat, q ≤ 4 ∧ i = .int .i64 ((q : Int) - 1) ∧ Hid (FixRel w (tag / 8) 5 wr (Sp.le (((bs.drop k).take 4).drop q)))) (fun i _ => (intOf i + 1).toNat)
    case atStart =>
      have e0 : ((bs.drop k).take 4).drop 4 = [] := List.drop_eq_nil_of_le (by rw [List.length_take]; omega)
      refine ⟨4, by omega, rfl, ?_⟩
      rw [e0]
      exact (⟨(Blk.new w _ _).alloc _, Blk.new_at _ _ _ (by simp), ((Below.refl _ _).alloc (Nat.le_refl _) _).alloc (by simp) _, by simp⟩ : FixRel w (tag / 8) 5 _ 0)
    case round =>
      obtain ⟨q, hq, hi, HF⟩ := hrel
      rcases q with _ | q
      · obtain rfl : u11 = Value.int .i64 (-1) := hi
        obtain ⟨v, hv⟩ : ∃ v, v = Sp.le (((bs.drop k).take 4).drop 0) := ⟨_, rfl⟩
        rw [← hv] at HF
        rw [List.drop_zero] at hv
        rw [← hv] at HB
        clear hv
        obtain ⟨⟨p0, p1, p2, p3, p4⟩, q0, q1, q2, q3, q4⟩ := Blk.five HF.out.1
        obtain ⟨⟨r0, r1, r2, r3, r4⟩, s0, s1, s2, s3, s4⟩ := Blk.five HF.out.2.1
        go_wp2_with fail
        refine bodyPost_ret (v := .tuple #[pieceV ⟨tag / 8, 5, v, [], k + 4⟩ (.slice none 0 0), .nilIface]) (by simp [results, Tryd.results20, go_sem, pieceV, p0, p1, p2, p3, p4]) rfl ?_
        refine nextPost_some HB.out ?_ rfl (World.ownsRow_nil _ _ _ _)
        iterate 6 refine Below.setCell ?_ (by simp) _
        exact HF.out.2.2.1
      · obtain rfl : u11 = Value.int .i64 (q : Int) := by rw [hi]; congr 1; omega
        clear hi
        obtain ⟨x, t, hd, hx, ht⟩ := drop_cons (bs := bs.drop k) (k := q) (by rw [List.length_drop, HL.out]; omega)
        obtain ⟨b', o', e, hb', hc⟩ := Rd.at_ (RdV.below HRL (HF.out.2.2.1.mono hB)) (by omega)
        injection e with e; injection e with e1 e2
        subst e1; subst e2
        have hcell := hc q x hx
        obtain ⟨⟨p0, p1, p2, p3, p4⟩, q0, q1, q2, q3, q4⟩ := Blk.five HF.out.2.1
        have HV2 := Lib.hid (Sp.le_step (l := bs.drop k) (m := 4) (q := q) (x := x) (by omega) hx)
        have HV3 := Lib.hid (Sp.le_small (l := bs.drop k) (m := 4) (q := q + 1) (by omega) (by omega))
        obtain ⟨v, hv⟩ : ∃ v, v = Sp.le (((bs.drop k).take 4).drop (q + 1)) := ⟨_, rfl⟩
        rw [← hv] at p2 HF HV2 HV3
        have hx8 := Sp.toNat_lt x
        have HO := Lib.hid (Sp.or8 v x.toNat HV3.out hx8)
        clear hv hx hd ht hc hb' p0 p1 p3 p4 q0 q1 q3 q4
        go_wp2_with fail
        go_region
        go_wp2_with fail
        go_roundw
        case rel =>
          refine ⟨q, by omega, rfl, ?_⟩
          rw [HO.out, HV2.out]
          exact fix_step HF.out (by have := HV3.out; omega)
        case measure => simp [intOf]

set_option maxRecDepth 100000 in
set_option maxHeartbeats 2000000 in
theorem next_other (B b off : Nat) (n c : Nat) (bs : List UInt8) (w : World) (HR : Rd w B (some ⟨b, off, none⟩) n bs) (hB : B ≤ w.heap.size) (hn : n ≤ 1000000000) (tag k : Nat) (hg : Sp.gv 0 bs = some (tag, k)) (ht1 : ¬ tag / 8 < 1) (ht2 : ¬ 536870911 < tag / 8) (hf : tag % 8 = 3 ∨ tag % 8 = 4 ∨ tag % 8 = 6 ∨ tag % 8 = 7) :
    Calls Tryd.prog 20 #[.slice (some ⟨b, off, none⟩) n c] w (NextPost w none) := by
  have HG := Lib.hid hg
  have hgs := Sp.gv_some hg
  have hlen := HR.len
  have htop : Sp.top 0 = 18446744073709551616 := rfl
  rw [htop] at hgs
  obtain ⟨_, hg1, hg2, hg3, hg4⟩ := hgs
  have hk10 : k ≤ 10 := by omega
  have hkn : k ≤ n := by omega
  have H7 := and7 tag hg1
  have h1 : decide ((tag : Int) / 8 < 1) = false := by simp; omega
  have h2 : decide (536870911 < (tag : Int) / 8) = false := by simp; omega
  have hw : wrap64 ((tag : Int) / 8) = (tag : Int) / 8 := by unfold wrap64; omega
  clear hg hg1 hg3 hg4 hlen htop ht1 ht2
  rcases hf with hf | hf | hf | hf <;> rw [hf] at H7 <;> clear hf
  all_goals
    go_enter Tryd.func20, Tryd.ntmps20
    go_wp2_with fail
    refine (get_any B _ n c bs _ (RdV.alloc HR hB _) hn).mono ?_
    rintro e w1 ⟨rfl, rfl⟩
    rw [HG.out]
    simp only [gvRes]
    clear HR
    go_wp2_with fail
    all_goals exact bodyPost_ret (v := .tuple #[noPiece, errV]) (by simp [results, Tryd.results20, go_sem, noPiece, errV]) rfl (nextPost_none rfl (((Below.refl _ _).alloc (Nat.le_refl _) _).alloc (by simp) _))

set_option maxRecDepth 100000 in
set_option maxHeartbeats 4000000 in
theorem next_short (B b off : Nat) (n c : Nat) (bs : List UInt8) (w : World) (HR : Rd w B (some ⟨b, off, none⟩) n bs) (hB : B ≤ w.heap.size) (hn : n ≤ 1000000000) (tag : Nat) (hg : Sp.gv 0 bs = some (tag, n)) (ht1 : ¬ tag / 8 < 1) (ht2 : ¬ 536870911 < tag / 8) (hf : tag % 8 = 0 ∨ tag % 8 = 1 ∨ tag % 8 = 2 ∨ tag % 8 = 5) (hc : n = c ∨ n < c) :
    Calls Tryd.prog 20 #[.slice (some ⟨b, off, none⟩) n c] w (NextPost w none) := by
  have HG := Lib.hid hg
  have hgs := Sp.gv_some hg
  have htop : Sp.top 0 = 18446744073709551616 := rfl
  rw [htop] at hgs
  obtain ⟨_, hg1, hg2, hg3, hg4⟩ := hgs
  have hk10 : n ≤ 10 := by omega
  have H7 := and7 tag hg1
  have h1 : decide ((tag : Int) / 8 < 1) = false := by simp; omega
  have h2 : decide (536870911 < (tag : Int) / 8) = false := by simp; omega
  have hw : wrap64 ((tag : Int) / 8) = (tag : Int) / 8 := by unfold wrap64; omega
  have HE : Hid (Sp.gv 0 [] = none) := rfl
  clear hg hg1 hg3 hg4 htop ht1 ht2
  rcases hc with hc | hc
  · subst hc
    rcases hf with hf | hf | hf | hf <;> rw [hf] at H7 <;> clear hf
    all_goals
      go_enter Tryd.func20, Tryd.ntmps20
      go_wp2_with fail
      refine (get_any B _ n n bs _ (RdV.alloc HR hB _) hn).mono ?_
      rintro e w1 ⟨rfl, rfl⟩
      rw [HG.out]
      simp only [gvRes]
      go_wp2_with fail
      try (refine (get_any B _ _ _ [] _ (Rd.nil _ _ _) (by omega)).mono ?_; rintro e w1 ⟨rfl, rfl⟩; rw [HE.out]; simp only [gvRes]; go_wp2_with fail)
      exact bodyPost_ret (v := .tuple #[noPiece, errV]) (by simp [results, Tryd.results20, go_sem, noPiece, errV]) rfl (nextPost_none rfl (((Below.refl _ _).alloc (Nat.le_refl _) _).alloc (by simp) _))
  · rcases hf with hf | hf | hf | hf <;> rw [hf] at H7 <;> clear hf
    all_goals
      go_enter Tryd.func20, Tryd.ntmps20
      go_wp2_with fail
      refine (get_any B _ n c bs _ (RdV.alloc HR hB _) hn).mono ?_
      rintro e w1 ⟨rfl, rfl⟩
      rw [HG.out]
      simp only [gvRes]
      go_wp2_with fail
      try (refine (get_any B _ _ _ [] _ (Rd.nil _ _ _) (by omega)).mono ?_; rintro e w1 ⟨rfl, rfl⟩; rw [HE.out]; simp only [gvRes]; go_wp2_with fail)
      exact bodyPost_ret (v := .tuple #[noPiece, errV]) (by simp [results, Tryd.results20, go_sem, noPiece, errV]) rfl (nextPost_none rfl (((Below.refl _ _).alloc (Nat.le_refl _) _).alloc (by simp) _))

theorem next_any (B : Nat) (A : Option Addr) (n c : Nat) (bs : List UInt8) (w : World) (HR : Rd w B A n bs) (hB : B ≤ w.heap.size) (hn : n ≤ 1000000000) (hnc : n ≤ c) :
    Calls Tryd.prog 20 #[.slice A n c] w (NextPost w (Sp.nx bs)) := by
  rcases hg : Sp.gv 0 bs with _ | ⟨tag, k⟩
  · have e : Sp.nx bs = none := by simp [Sp.nx, hg]
    rw [e]
    exact next_none B A n c bs w HR hB hn hg
  · by_cases ht : tag / 8 < 1 ∨ 536870911 < tag / 8
    · have e : Sp.nx bs = none := by simp only [Sp.nx, hg]; rw [if_pos ht]
      rw [e]
      exact next_number B A n c bs w HR hB hn tag k hg ht
    · have e : Sp.nx bs = Sp.body (tag / 8) (tag % 8) k (bs.drop k) := by simp only [Sp.nx, hg]; rw [if_neg ht]
      rw [e]
      have hgs := Sp.gv_some hg
      have hlen := HR.len
      obtain ⟨b, off, rfl, _, _⟩ := Rd.at_ HR (by omega)
      have ht1 : ¬ tag / 8 < 1 := fun h => ht (.inl h)
      have ht2 : ¬ 536870911 < tag / 8 := fun h => ht (.inr h)
      by_cases h3 : tag % 8 = 3 ∨ tag % 8 = 4 ∨ tag % 8 = 6 ∨ tag % 8 = 7
      · have e2 : Sp.body (tag / 8) (tag % 8) k (bs.drop k) = none := by
          unfold Sp.body
          rw [if_neg (by omega), if_neg (by omega), if_neg (by omega), if_neg (by omega)]
        rw [e2]
        exact next_other B b off n c bs w HR hB hn tag k hg ht1 ht2 h3
      · by_cases hk : k < n
        · have h4 : tag % 8 = 0 ∨ tag % 8 = 1 ∨ tag % 8 = 2 ∨ tag % 8 = 5 := by omega
          rcases h4 with h4 | h4 | h4 | h4
          · rw [h4]; exact next_varint B b off n c bs w HR hB hn hnc tag k hg ht1 ht2 h4 hk
          · rw [h4]; exact next_eight B b off n c bs w HR hB hn hnc tag k hg ht1 ht2 h4 hk
          · rw [h4]; exact next_length B b off n c bs w HR hB hn hnc tag k hg ht1 ht2 h4 hk
          · rw [h4]; exact next_four B b off n c bs w HR hB hn hnc tag k hg ht1 ht2 h4 hk
        · obtain rfl : k = n := by omega
          have e3 : bs.drop k = [] := List.drop_eq_nil_of_le (by omega)
          have e2 : Sp.body (tag / 8) (tag % 8) k (bs.drop k) = none := by
            rw [e3]
            unfold Sp.body
            by_cases a0 : tag % 8 = 0
            · rw [if_pos a0]; rfl
            · rw [if_neg a0]
              by_cases a1 : tag % 8 = 1
              · rw [if_pos a1]; rfl
              · rw [if_neg a1]
                by_cases a5 : tag % 8 = 5
                · rw [if_pos a5]; rfl
                · rw [if_neg a5]
                  by_cases a2 : tag % 8 = 2
                  · rw [if_pos a2]; rfl
                  · rw [if_neg a2]
          rw [e2]
          exact next_short B b off k c bs w HR hB hn tag hg ht1 ht2 (by omega) (by omega)
end Go.Proofs.YtafkoeebnkmpcaaDoor
