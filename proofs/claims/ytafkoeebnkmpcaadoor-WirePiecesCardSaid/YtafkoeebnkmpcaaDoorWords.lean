/-
  WORDS FOR MEMORY: a slice of bytes that reads as a list (Rd); append onto a row of the call's own, the source nil, empty or not: the old slice owns what it owned.
-/
import Derived.WalkKit
import Derived.Below
import Derived.Laws.OwnMore
import Derived.Maps.AppendAt
import Derived.Deep.AppendLies
import Derived.Deep.Draws
import Derived.RegionTactic
import Derived.OwnWalk
import Derived.Lib.Hide
import Derived.Laws.BitsAllLaws
namespace Go.Proofs.YtafkoeebnkmpcaaDoor
open Go.RowKit

/-- The cells of bytes. -/
def cb (bs : List UInt8) : List Value := bs.map fun c => Value.int .u8 (c.toNat : Int)
theorem cb_length (bs : List UInt8) : (cb bs).length = bs.length := by simp [cb]
theorem cb_append (a b : List UInt8) : cb (a ++ b) = cb a ++ cb b := by simp [cb]
theorem cb_get {bs : List UInt8} {j : Nat} {c : UInt8} (h : bs[j]? = some c) : (cb bs)[j]? = some (.int .u8 (c.toNat : Int)) := by simp [cb, h]
theorem cb_one (bs : List UInt8) : ∀ u ∈ cb bs, u.oneCell' = true := by
  intro u hu
  simp only [cb, List.mem_map] at hu
  obtain ⟨c, _, rfl⟩ := hu
  rfl

/-- The slice '.slice A n _' holds the cells xs, below block B. -/
def RdV (w : World) (B : Nat) (A : Option Addr) (n : Nat) (xs : List Value) : Prop :=
  xs.length = n ∧ (0 < n → ∃ b off, A = some ⟨b, off, none⟩ ∧ b < B ∧ ∀ j u, xs[j]? = some u → w.cell? ⟨b, off + j, none⟩ = some u)
/-- It holds the bytes bs. -/
def Rd (w : World) (B : Nat) (A : Option Addr) (n : Nat) (bs : List UInt8) : Prop := RdV w B A n (cb bs)

section
variable {w w' : World} {B B' n : Nat} {A : Option Addr} {xs : List Value} {bs : List UInt8}
theorem RdV.keep (h : RdV w B A n xs) (hk : ∀ b off, b < B → w'.cell? ⟨b, off, none⟩ = w.cell? ⟨b, off, none⟩) : RdV w' B A n xs :=
  ⟨h.1, fun hn => by
    obtain ⟨b, off, e, hb, hc⟩ := h.2 hn
    exact ⟨b, off, e, hb, fun j u hu => (hk _ _ hb).trans (hc j u hu)⟩⟩
theorem RdV.more (h : RdV w B A n xs) (hB : B ≤ B') : RdV w B' A n xs :=
  ⟨h.1, fun hn => by
    obtain ⟨b, off, e, hb, hc⟩ := h.2 hn
    exact ⟨b, off, e, by omega, hc⟩⟩
theorem RdV.below (h : RdV w B A n xs) (hb : Below B w w') : RdV w' B A n xs := h.keep fun b off hp => hb.cell (p := ⟨b, off, none⟩) hp
theorem RdV.drew (h : RdV w B A n xs) : RdV w.drew B A n xs := h
theorem RdV.drewN (h : RdV w B A n xs) (k : Nat) : RdV (w.drewN k) B A n xs := h
theorem RdV.alloc (h : RdV w B A n xs) (hB : B ≤ w.heap.size) (o : Obj) : RdV (w.alloc o) B A n xs := h.keep fun b off hp => World.cell?_alloc_lt w o ⟨b, off, none⟩ (Nat.lt_of_lt_of_le hp hB)
theorem RdV.setCell (h : RdV w B A n xs) {p : Addr} (hB : B ≤ p.block) (u : Value) : RdV (w.setCell p u) B A n xs :=
  h.keep fun b off hq => World.cell?_setCell_other w p ⟨b, off, none⟩ u (fun e => by subst e; exact absurd hq (Nat.not_lt.2 hB))
theorem RdV.grown (h : RdV w B A n xs) {row : Option Nat} (hg : w.grownBy w' row) (hB : B ≤ w.heap.size) (hr : ∀ g, row = some g → B ≤ g) : RdV w' B A n xs :=
  h.keep fun b off hp => World.cell?_of_block (hg.block b (by omega) (fun e => by have := hr _ e.symm; omega))
theorem own_form {base : Nat} {e : TypeId} {size : Nat} {v : Value} (h : w.ownsRow base e size v n xs) : ∃ A c, v = .slice A n c ∧ n ≤ c ∧ c ≤ maxLen := by
  rcases h.2 with ⟨rfl, rfl⟩ | ⟨g, cap, cur, rfl, _, _, h1, h2, _⟩
  · exact ⟨none, 0, rfl, Nat.le_refl _, by simp [maxLen]⟩
  · exact ⟨_, cap, rfl, h1, h2⟩
theorem RdV.of_own {base : Nat} {e : TypeId} {c : Nat} (h : w.ownsRow base e 1 (.slice A n c) n xs) : RdV w w.heap.size A n xs := by
  refine ⟨by simpa using h.1, fun hn => ?_⟩
  rcases h.2 with ⟨_, h0⟩ | ⟨g, cap, cur, hv, _, hh, _, _, hsz, htk⟩
  · omega
  · injection hv with hA hn' hc
    subst hA
    have hlt : g < w.heap.size := by
      rcases Nat.lt_or_ge g w.heap.size with h | h
      · exact h
      · rw [Array.getElem?_eq_none h] at hh; cases hh
    refine ⟨g, 0, rfl, hlt, fun j u hu => ?_⟩
    have hc := h.cells (g := g) rfl j u hu
    simpa [Addr.add_lit] using hc
theorem RdV.lt (h : RdV w B A n xs) : xs.length = n := h.1
theorem Rd.len (h : Rd w B A n bs) : bs.length = n := by have := h.1; rwa [cb_length] at this
/-- An address in the form that the walk takes; the cells by their bytes. -/
theorem Rd.at_ (h : Rd w B A n bs) (hn : 0 < n) : ∃ b off, A = some ⟨b, off, none⟩ ∧ b < B ∧ ∀ j c, bs[j]? = some c → w.cell? ⟨b, off + j, none⟩ = some (.int .u8 (c.toNat : Int)) := by
  obtain ⟨b, off, e, hb, hc⟩ := h.2 hn
  exact ⟨b, off, e, hb, fun j c hj => hc j _ (cb_get hj)⟩
theorem Rd.mk {b off : Nat} (hl : bs.length = n) (hb : b < B) (hc : ∀ j c, bs[j]? = some c → w.cell? ⟨b, off + j, none⟩ = some (.int .u8 (c.toNat : Int))) : Rd w B (some ⟨b, off, none⟩) n bs := by
  refine ⟨by rw [cb_length]; exact hl, fun _ => ⟨b, off, rfl, hb, fun j u hu => ?_⟩⟩
  simp only [cb, List.getElem?_map, Option.map_eq_some_iff] at hu
  obtain ⟨c, hj, rfl⟩ := hu
  exact hc j c hj
theorem Rd.nil (w : World) (B : Nat) (A : Option Addr) : Rd w B A 0 [] := ⟨rfl, fun h => absurd h (by omega)⟩
theorem Rd.drop (h : Rd w B A n bs) {k : Nat} (hk : k ≤ n) {A' : Option Addr} (hA : ∀ b off, A = some ⟨b, off, none⟩ → k < n → A' = some ⟨b, off + k, none⟩) : Rd w B A' (n - k) (bs.drop k) := by
  refine ⟨by rw [cb_length, List.length_drop, h.len], fun hn => ?_⟩
  obtain ⟨b, off, e, hb, hc⟩ := h.2 (by omega)
  refine ⟨b, off + k, hA b off e (by omega), hb, fun j u hu => ?_⟩
  have hx : (cb (bs.drop k))[j]? = (cb bs)[k + j]? := by simp [cb]
  rw [Nat.add_assoc]
  exact hc _ u (by rw [← hx]; exact hu)
theorem Rd.take (h : Rd w B A n bs) {k : Nat} (hk : k ≤ n) : Rd w B A k (bs.take k) := by
  refine ⟨by rw [cb_length, List.length_take, h.len]; omega, fun hn => ?_⟩
  obtain ⟨b, off, e, hb, hc⟩ := h.2 (by omega)
  refine ⟨b, off, e, hb, fun j u hu => hc j u ?_⟩
  have hx : (cb (bs.take k)) = (cb bs).take k := by simp [cb]
  rw [hx, List.getElem?_take] at hu
  by_cases hj : j < k
  · rwa [if_pos hj] at hu
  · rw [if_neg hj] at hu; cases hu

theorem RdV.one (w : World) (x : Value) (t : TypeId) : RdV (w.alloc (.cells #[x] t)) (w.heap.size + 1) (some ⟨w.heap.size, 0, none⟩) 1 [x] := by
  refine ⟨rfl, fun _ => ⟨w.heap.size, 0, rfl, by omega, fun j u hu => ?_⟩⟩
  have := cell_one_new w x t j u hu
  simpa [Addr.add_lit] using this

/-- WHAT AN UPDATE OF A ROW OF THE CALL's OWN LEAVES: blocks that were there, but the row's own, are as they were; the old slice owns what it owned; the new one lies in its row or in a new block. -/
def Upd (e : TypeId) (base : Nat) (w w' : World) (v : Value) (n : Nat) (xs : List Value) (v' : Value) : Prop :=
  w.grownBy w' v.ownBlock ∧ w'.ownsRow base e 1 v n xs ∧ (v'.ownBlock = v.ownBlock ∨ ∃ k, v'.ownBlock = some k ∧ w.heap.size ≤ k)

/-- Two owners of one row: what the longer one is known to own, the shorter one owns. -/
theorem own_keep {base : Nat} {e : TypeId} {v vk : Value} {nk : Nat} {p : List Value} (h0 : w.ownsRow base e 1 v n xs) (h1 : w.ownsRow base e 1 vk nk (xs ++ p)) (h2 : w'.ownsRow base e 1 vk nk (xs ++ p)) (hg : w.grownBy w' vk.ownBlock) : w'.ownsRow base e 1 v n xs := by
  rcases h0.2 with ⟨rfl, rfl⟩ | ⟨g, cap, cur, rfl, hbg, hh, hnc, hcm, hcs, htk⟩
  · exact ⟨h0.1, .inl ⟨rfl, rfl⟩⟩
  · by_cases hb : vk.ownBlock = some g
    · rcases h1.2 with ⟨rfl, _⟩ | ⟨g1, cap1, cur1, rfl, _, hh1, _, _, hcs1, htk1⟩
      · simp [Value.ownBlock] at hb
      · obtain rfl : g1 = g := by simpa [Value.ownBlock] using hb
        rcases h2.2 with ⟨hv, _⟩ | ⟨g2, cap2, cur2, hv, _, hh2, _, _, hcs2, htk2⟩
        · cases hv
        · injection hv with hA hn2 hc2
          injection hA with hA
          injection hA with hA
          subst hA; subst hc2
          rw [hh] at hh1
          injection hh1 with hh1
          injection hh1 with hh1
          subst hh1
          refine ⟨h0.1, .inr ⟨_, cap, cur2, rfl, hbg, hh2, hnc, hcm, by omega, ?_⟩⟩
          have hl := h0.1
          have hle : n ≤ nk := by
            have := h1.1
            rw [List.length_append] at this
            omega
          have e : cur2.toList.take (n * 1) = (cur2.toList.take (nk * 1)).take (n * 1) := by
            rw [List.take_take]; congr 1; omega
          rw [e, htk2, ← hl]
          exact List.take_left
    · exact h0.kept hg (.inr (fun e => hb (by rw [← e]; rfl)))
end

section
variable {w w' : World} {n : Nat} {xs : List Value} {e : TypeId} {base : Nat} {v vk v' : Value} {nk : Nat} {p : List Value}
theorem Upd.refl (h : w.ownsRow base e 1 v n xs) : Upd e base w w v n xs v := ⟨World.grownBy.refl w _, h, .inl rfl⟩
theorem Upd.alloc (h : Upd e base w w' v n xs vk) (o : Obj) : Upd e base w (w'.alloc o) v n xs vk :=
  ⟨h.1.trans (World.grownBy_alloc w' o _), h.2.1.alloc o, h.2.2⟩
theorem Upd.step {w1 : World} (h : Upd e base w w' v n xs vk) (h1 : w'.ownsRow base e 1 vk nk (xs ++ p)) (hg : w'.grownBy w1 vk.ownBlock) (h2 : w1.ownsRow base e 1 vk nk (xs ++ p))
    (hat : v'.ownBlock = vk.ownBlock ∨ v'.ownBlock = some w'.heap.size) : Upd e base w w1 v n xs v' := by
  have hs := h.1.size
  refine ⟨⟨hg.os.trans h.1.os, hg.tape.trans h.1.tape, hg.output.trans h.1.output, Nat.le_trans h.1.size hg.size, fun k hk hne => ?_⟩, own_keep h.2.1 h1 h2 hg, ?_⟩
  · refine (hg.block k (by omega) (fun e1 => ?_)).trans (h.1.block k hk hne)
    rcases h.2.2 with h3 | ⟨q, h3, hq⟩
    · exact hne (e1.trans h3)
    · rw [h3] at e1
      injection e1 with e1
      omega
  · rcases hat with h3 | h3
    · rw [h3]; exact h.2.2
    · exact .inr ⟨_, h3, hs⟩
/-- What lies below the call's own blocks is as it was. -/
theorem Upd.below {B : Nat} (h : Upd e base w w' v n xs v') (hB : B ≤ w.heap.size) (hb : B ≤ base) (hown : w.ownsRow base e 1 v n xs) : Below B w w' :=
  (Below.refl B w).grown h.1 hB fun k hk => Nat.le_trans hb (hown.lt k hk).1
end

section
variable {P : Program} (w : World)
/-- append onto a row of the call's own, bytes: the source nil, empty or not. -/
theorem run_app (base : Nat) (t ty e : TypeId) (i : TypeInfo) (z : Value) (bytes : Nat) (ht : P.underlying t = some (.slice e)) (hi : P.info? e = some i) (hz : i.zero = some z)
    (hsize : i.size = 1) (hby : i.bytes = bytes) (hzs : z.cells.size = 1)
    (v : Value) (n : Nat) (xs : List Value) (hown : w.ownsRow base e 1 v n xs)
    (B : Nat) (A : Option Addr) (m c : Nat) (news : List Value) (hr : RdV w B A m news) (h1 : ∀ u ∈ news, u.oneCell' = true)
    (h63 : n + m ≤ maxLen) (hbytes : (n + m) * bytes ≤ 140737488355328) (hbase : base ≤ w.heap.size) :
    ∃ v' w', (Builtin.append_ #[t, t] ty #[v, .slice A m c]).run P w = .ok v' w' ∧ w'.ownsRow base e 1 v' (n + m) (xs ++ news) ∧ w.grownBy w' v.ownBlock ∧
      (v'.ownBlock = v.ownBlock ∨ v'.ownBlock = some w.heap.size) ∧ w'.ownsRow base e 1 v n xs := by
  rcases A with _ | ad
  · have hm : m = 0 := by
      rcases Nat.eq_zero_or_pos m with h0 | h0
      · exact h0
      · obtain ⟨b, off, h, _⟩ := hr.2 h0
        cases h
    subst hm
    have hn : news = [] := List.eq_nil_of_length_eq_zero (by simpa using hr.1)
    subst hn
    rcases hown.2 with ⟨rfl, rfl⟩ | ⟨g, cap, cur, rfl, hb, hh, hnc, hcm, hcs, htk⟩
    · exact ⟨.slice none 0 0, w, by simp [Builtin.append_, run_underlying ht, sizeOf, typeInfo, hi, Builtin.lenOf, Builtin.firstCells], by simpa using hown, World.grownBy.refl w _, .inl rfl, hown⟩
    · exact ⟨.slice (some ⟨g, 0, none⟩) n cap, w, by simp [Builtin.append_, run_underlying ht, sizeOf, typeInfo, hi, Builtin.lenOf, Builtin.firstCells, hnc, storeCells], by simpa using hown, World.grownBy.refl w _, .inl rfl, hown⟩
  · have hl : news.length = m * 1 := by have := hr.1; omega
    have hnews : ∀ j u, news[j]? = some u → w.cell? (ad.add j) = some u := by
      intro j u hu
      rcases Nat.eq_zero_or_pos m with h0 | h0
      · have hn : news = [] := List.eq_nil_of_length_eq_zero (by have := hr.1; omega)
        subst hn
        simp at hu
      · obtain ⟨b, off, h, _, hc⟩ := hr.2 h0
        injection h with h
        subst h
        rw [Addr.add_lit]
        exact hc j u hu
    obtain ⟨v', w', hrun, h2, h3, _, h5⟩ := run_append_own_at (P := P) w base t ty e i z 1 bytes ht hi hz hsize hby hzs (by omega) v n xs hown ad m c news hl hnews h1 h63 hbytes hbase
    refine ⟨v', w', hrun, h2, h3, h5, ?_⟩
    have h63' : ((n + m : Nat) : Int) ≤ 9223372036854775807 := by simp only [maxLen] at h63; omega
    rcases hown.2 with ⟨rfl, rfl⟩ | ⟨g, cap, cur, rfl, hbg, hh, hnc, hcm, hcs, htk⟩
    · exact ⟨hown.1, .inl ⟨rfl, rfl⟩⟩
    · by_cases hroom : n + m ≤ cap
      · have hfit : n * i.size + news.length ≤ cur.size := by rw [hl, hcs, hsize]; omega
        have hr1 := run_append_room (P := P) w t ty e i ht hi g n cap cur hh ad m c news (by rw [hsize]; exact hl) hnews h1 hroom hfit
        have e1 := hrun.symm.trans hr1
        injection e1 with ev ew
        subst ev; subst ew
        rcases h2.2 with ⟨hv, _⟩ | ⟨g2, cap2, cur2, hv, _, hh2, _, _, hcs2, htk2⟩
        · cases hv
        · injection hv with hA _ hc2
          injection hA with hA
          injection hA with hA
          subst hA; subst hc2
          refine ⟨hown.1, .inr ⟨g, cap, cur2, rfl, hbg, hh2, hnc, hcm, hcs2, ?_⟩⟩
          have hle := hown.1
          have e2 : cur2.toList.take (n * 1) = (cur2.toList.take ((n + m) * 1)).take (n * 1) := by
            rw [List.take_take]; congr 1; omega
          rw [e2, htk2, ← hle]
          exact List.take_left
      · have holds : ∀ j u, xs[j]? = some u → w.cell? ((⟨g, 0, none⟩ : Addr).add j) = some u := hown.cells (g := g) rfl
        have hr1 := run_append_grow (P := P) w t ty e i z ht hi hz ⟨g, 0, none⟩ n cap xs (by rw [hsize]; exact hown.1) holds ad m c news (by rw [hsize]; exact hl) hnews (by omega) h63' (growslice_fits (by omega) (by rw [hby]; exact hbytes))
        have e1 := hrun.symm.trans hr1
        injection e1 with ev ew
        subst ev; subst ew
        exact (World.ownsRow.drew hown).alloc _

theorem wp_app {o : Oper} {a : Act} {K : Act → World → Prop} {Q : Exit → Act → World → Prop} (s x : Operand) (t : TypeId)
    (ho : o.op = .call { callee := .builtin .append, args := #[s, x], argTypes := #[t, t] })
    (base : Nat) (e : TypeId) (i : TypeInfo) (z : Value) (bytes : Nat) (ht : P.underlying t = some (.slice e)) (hi : P.info? e = some i) (hz : i.zero = some z)
    (hsize : i.size = 1) (hby : i.bytes = bytes) (hzs : z.cells.size = 1)
    (v : Value) (n : Nat) (xs : List Value) (hs : a.eval s = v) (hown : w.ownsRow base e 1 v n xs)
    (B : Nat) (A : Option Addr) (m c : Nat) (news : List Value) (hx : a.eval x = .slice A m c) (hr : RdV w B A m news) (h1 : ∀ u ∈ news, u.oneCell' = true)
    (h63 : n + m ≤ maxLen) (hbytes : (n + m) * bytes ≤ 140737488355328) (hbase : base ≤ w.heap.size)
    (h : ∀ v' w', w'.ownsRow base e 1 v' (n + m) (xs ++ news) → w.grownBy w' v.ownBlock → (v'.ownBlock = v.ownBlock ∨ v'.ownBlock = some w.heap.size) → w'.ownsRow base e 1 v n xs → K (a.put o.dst v') w') : o.wp P a w K Q := by
  obtain ⟨v', w', hrun, h2, h3, h4, h5⟩ := run_app (P := P) w base t o.type e i z bytes ht hi hz hsize hby hzs v n xs hown B A m c news hr h1 h63 hbytes hbase
  unfold Oper.wp execOp
  simp only [ho, resolve, invoke, builtin, Sem.run_bind, Sem.run_pure, Result.andThen_ok, List.map_toArray, List.map_cons, List.map_nil, hs, hx, hrun]
  exact h v' w' h2 h3 h4 h5

theorem wpList_app {ops : Array Oper} {rest : List Oper} {o : Oper} {a : Act} {Q : Exit → Act → World → Prop} (hgd : o.guard = none) (s x : Operand) (t : TypeId)
    (ho : o.op = .call { callee := .builtin .append, args := #[s, x], argTypes := #[t, t] })
    (base : Nat) (e : TypeId) (i : TypeInfo) (z : Value) (bytes : Nat) (ht : P.underlying t = some (.slice e)) (hi : P.info? e = some i) (hz : i.zero = some z)
    (hsize : i.size = 1) (hby : i.bytes = bytes) (hzs : z.cells.size = 1)
    (v : Value) (n : Nat) (xs : List Value) (hs : a.eval s = v) (hown : w.ownsRow base e 1 v n xs)
    (B : Nat) (A : Option Addr) (m c : Nat) (news : List Value) (hx : a.eval x = .slice A m c) (hr : RdV w B A m news) (h1 : ∀ u ∈ news, u.oneCell' = true)
    (h63 : n + m ≤ maxLen) (hbytes : (n + m) * bytes ≤ 140737488355328) (hbase : base ≤ w.heap.size)
    (h : ∀ v' w', w'.ownsRow base e 1 v' (n + m) (xs ++ news) → w.grownBy w' v.ownBlock → (v'.ownBlock = v.ownBlock ∨ v'.ownBlock = some w.heap.size) → w'.ownsRow base e 1 v n xs → wpList P ops Q rest (a.put o.dst v') w') : wpList P ops Q (o :: rest) a w :=
  wpList_plain hgd fun _ hK => wp_app w s x t ho base e i z bytes ht hi hz hsize hby hzs v n xs hs hown B A m c news hx hr h1 h63 hbytes hbase fun v' w' h2 h3 h4 h5 => hK _ _ (h v' w' h2 h3 h4 h5)
end

theorem Rd.part {w : World} {B n b off j v : Nat} {bs : List UInt8} (h : Rd w B (some ⟨b, off, none⟩) n bs) (hj : j + v ≤ n) : Rd w B (some ⟨b, off + j, none⟩) v ((bs.drop j).take v) :=
  Rd.take (Rd.drop h (k := j) (A' := some ⟨b, off + j, none⟩) (by omega) (fun b' o' e _ => by injection e with e; injection e with e1 e2; subst e1; subst e2; rfl)) (by omega)

/-- Block g is just these cells, none frozen. -/
def Blk (w : World) (g : Nat) (t : TypeId) (cs : Array Value) : Prop := w.heap[g]? = some (.cells cs t (0, 0))
section
variable {w w' : World} {g : Nat} {t : TypeId} {cs : Array Value}
theorem Blk.lt (h : Blk w g t cs) : g < w.heap.size := by
  rcases Nat.lt_or_ge g w.heap.size with hlt | hge
  · exact hlt
  · unfold Blk at h; rw [Array.getElem?_eq_none hge] at h; cases h
theorem Blk.cell (h : Blk w g t cs) (i : Nat) : w.cell? ⟨g, i, none⟩ = cs[i]? := cell_of_row w g i cs t (0, 0) h
theorem Blk.frozen (h : Blk w g t cs) (i : Nat) : w.frozen? ⟨g, i, none⟩ = false := by
  unfold Blk at h
  simp [World.frozen?, h]
theorem Blk.new (w : World) (t : TypeId) (cs : Array Value) : Blk (w.alloc (.cells cs t)) w.heap.size t cs := heap_alloc_new w _
theorem Blk.new_at (w : World) (t : TypeId) (cs : Array Value) {g : Nat} (hg : w.heap.size = g) : Blk (w.alloc (.cells cs t)) g t cs := by subst hg; exact Blk.new w t cs
theorem Blk.drew (h : Blk w g t cs) : Blk w.drew g t cs := h
theorem Blk.drewN (h : Blk w g t cs) (n : Nat) : Blk (w.drewN n) g t cs := h
theorem Blk.alloc (h : Blk w g t cs) (o : Obj) : Blk (w.alloc o) g t cs := (Below.heap_alloc w o g h.lt).trans h
theorem Blk.set_ (h : Blk w g t cs) (i : Nat) (u : Value) : Blk (w.setCell ⟨g, i, none⟩ u) g t (cs.setIfInBounds i u) := by
  unfold Blk at h ⊢
  simp [World.setCell, Array.getElem?_modify, h]
theorem Blk.far (h : Blk w g t cs) {p : Addr} (hp : g ≠ p.block) (u : Value) : Blk (w.setCell p u) g t cs := (Below.heap_setCell w p u g hp).trans h
theorem Blk.below {B : Nat} (h : Blk w g t cs) (hb : Below B w w') (hg : g < B) : Blk w' g t cs := (hb.block g hg).trans h
theorem Blk.grown {row : Option Nat} (h : Blk w g t cs) (hb : w.grownBy w' row) (hg : some g ≠ row) : Blk w' g t cs := (hb.block g h.lt hg).trans h
end
theorem own_mono {w : World} {base base' : Nat} {e : TypeId} {size n : Nat} {v : Value} {xs : List Value} (h : w.ownsRow base e size v n xs) (hb : base' ≤ base) : w.ownsRow base' e size v n xs := by
  rcases h.2 with ⟨h1, h2⟩ | ⟨g, cap, cur, h1, h2, h3⟩
  · exact ⟨h.1, .inl ⟨h1, h2⟩⟩
  · exact ⟨h.1, .inr ⟨g, cap, cur, h1, by omega, h3⟩⟩
theorem cells_new {w : World} (t : TypeId) (l : List Value) {g : Nat} (hg : w.heap.size = g) : ∀ j u, l[j]? = some u → (w.alloc (.cells l.toArray t)).cell? ((⟨g, 0, none⟩ : Addr).add j) = some u := by
  intro j u hj
  rw [Addr.add_lit, Nat.zero_add, Blk.cell (Blk.new_at w t l.toArray hg)]
  simpa using hj
/-- Five cells, read and writable. -/
def Five (w : World) (g : Nat) (c0 c1 c2 c3 c4 : Value) : Prop :=
  (w.cell? ⟨g, 0, none⟩ = some c0 ∧ w.cell? ⟨g, 1, none⟩ = some c1 ∧ w.cell? ⟨g, 2, none⟩ = some c2 ∧ w.cell? ⟨g, 3, none⟩ = some c3 ∧ w.cell? ⟨g, 4, none⟩ = some c4) ∧
  w.frozen? ⟨g, 0, none⟩ = false ∧ w.frozen? ⟨g, 1, none⟩ = false ∧ w.frozen? ⟨g, 2, none⟩ = false ∧ w.frozen? ⟨g, 3, none⟩ = false ∧ w.frozen? ⟨g, 4, none⟩ = false
theorem Blk.five {w : World} {g : Nat} {t : TypeId} {c0 c1 c2 c3 c4 : Value} (h : Blk w g t #[c0, c1, c2, c3, c4]) : Five w g c0 c1 c2 c3 c4 :=
  ⟨⟨h.cell 0, h.cell 1, h.cell 2, h.cell 3, h.cell 4⟩, h.frozen 0, h.frozen 1, h.frozen 2, h.frozen 3, h.frozen 4⟩

end Go.Proofs.YtafkoeebnkmpcaaDoor
