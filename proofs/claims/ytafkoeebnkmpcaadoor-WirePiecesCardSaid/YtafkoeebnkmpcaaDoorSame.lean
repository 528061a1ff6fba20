/-
  THE WALK of samePiece at a piece and the document's same piece; what both Nexts and both Splits leave, side by side.
-/
import Derived.Test.YtafkoeebnkmpcaaDoorRefSplit
import Derived.Test.YtafkoeebnkmpcaaDoorBare
namespace Go.Proofs.YtafkoeebnkmpcaaDoor
open Go.RowKit

def wv (q : Sp.Pc) (A : Option Addr) (c : Nat) : Value := .agg #[.int .i64 (q.num : Nat), .int .i64 (q.form : Nat), .int .u64 (q.val : Nat), .slice A q.bytes.length c, .int .i64 (q.long : Nat)]
def rv (q : Sp.Pc) (al : ByteArray) : Value := .agg #[.int .i64 (q.num : Nat), .int .i64 (q.form : Nat), .int .u64 (q.val : Nat), .string ⟨q.bytes.toArray⟩, .string al]

set_option maxRecDepth 100000 in
set_option maxHeartbeats 4000000 in
theorem same_any (w : World) (q : Sp.Pc) (A : Option Addr) (c : Nat) (al : ByteArray) (hr : Rd w w.heap.size A q.bytes.length q.bytes) (hal : al.size = q.long) :
    Calls Tryd.prog 21 #[wv q A c, rv q al] w fun e w' => e = .returned (.bool true) ∧ Below w.heap.size w w' := by
  unfold wv rv
  obtain ⟨num, form, val, bs, long⟩ := q
  simp only at hr hal ⊢
  subst hal
  have hcv : (convert 22 9 (.slice A bs.length c)).run Tryd.prog ((w.alloc (.cells #[.int .i64 (num : Nat), .int .i64 (form : Nat), .int .u64 (val : Nat), .slice A bs.length c, .int .i64 (al.size : Nat)] 47)).alloc (.cells #[.int .i64 (num : Nat), .int .i64 (form : Nat), .int .u64 (val : Nat), .string ⟨bs.toArray⟩, .string al] 43)) = .ok (.string ⟨bs.toArray⟩) ((w.alloc (.cells #[.int .i64 (num : Nat), .int .i64 (form : Nat), .int .u64 (val : Nat), .slice A bs.length c, .int .i64 (al.size : Nat)] 47)).alloc (.cells #[.int .i64 (num : Nat), .int .i64 (form : Nat), .int .u64 (val : Nat), .string ⟨bs.toArray⟩, .string al] 43)) := conv_rd (RdV.alloc (RdV.alloc hr (Nat.le_refl _) _) (by simp) _)
  clear hr
  go_enter Tryd.func21, Tryd.ntmps21
  go_wp2_with fail
  go_ret
  exact ⟨rfl, ((Below.refl _ w).alloc (Nat.le_refl _) _).alloc (by simp) _⟩

theorem rflat_get : ∀ (l : List (Sp.Pc × ByteArray)) (k i : Nat) (x : Sp.Pc × ByteArray), l[k]? = some x → i < 5 → (l.flatMap rc5)[k * 5 + i]? = (rc5 x)[i]?
  | [], k, i, x, h, _ => by simp at h
  | y :: l, 0, i, x, h, hi => by
    simp at h
    subst h
    rw [List.flatMap_cons, Nat.zero_mul, Nat.zero_add, List.getElem?_append_left (by simp [rc5]; omega)]
  | y :: l, k + 1, i, x, h, hi => by
    have h' : l[k]? = some x := by simpa using h
    have e : (k + 1) * 5 + i = 5 + (k * 5 + i) := by omega
    rw [List.flatMap_cons, e, List.getElem?_append_right (by simp [rc5])]
    have e2 : 5 + (k * 5 + i) - (rc5 y).length = k * 5 + i := by simp [rc5]
    rw [e2]
    exact rflat_get l k i x h' hi

theorem RPcs.at_ {w : World} {base : Nat} {v : Value} {ps : List Sp.Pc} {k : Nat} {p : Sp.Pc} (h : RPcs w base v ps) (hk : ps[k]? = some p) :
    ∃ (g c : Nat) (al : ByteArray), al.size = p.long ∧ v = .slice (some ⟨g, 0, none⟩) ps.length c ∧ g < w.heap.size ∧
      w.cell? ⟨g, k * 5, none⟩ = some (.int .i64 (p.num : Nat)) ∧ w.cell? ⟨g, k * 5 + 1, none⟩ = some (.int .i64 (p.form : Nat)) ∧ w.cell? ⟨g, k * 5 + 2, none⟩ = some (.int .u64 (p.val : Nat)) ∧ w.cell? ⟨g, k * 5 + 3, none⟩ = some (.string ⟨p.bytes.toArray⟩) ∧ w.cell? ⟨g, k * 5 + 4, none⟩ = some (.string al) := by
  obtain ⟨l, rfl, h1, h2⟩ := h
  simp only [List.getElem?_map, Option.map_eq_some_iff] at hk
  obtain ⟨⟨q, al⟩, hk, rfl⟩ := hk
  have hmem : (q, al) ∈ l := List.mem_of_getElem? hk
  have ho := h2 _ hmem
  have hl : 0 < l.length := by
    rcases l with _ | ⟨y, l⟩
    · simp at hk
    · simp
  rcases h1.2 with ⟨_, h0⟩ | ⟨g, cap, cur, hv2, _, hh, _⟩
  · omega
  · have hlt : g < w.heap.size := by
      rcases Nat.lt_or_ge g w.heap.size with h | h
      · exact h
      · rw [Array.getElem?_eq_none h] at hh; cases hh
    have hcell : ∀ i u, i < 5 → (rc5 (q, al))[i]? = some u → w.cell? ⟨g, k * 5 + i, none⟩ = some u := by
      intro i u hi hu
      have := h1.cells (g := g) (by rw [hv2]; rfl) (k * 5 + i) u (by rw [rflat_get l k i _ hk hi]; exact hu)
      rw [Addr.add_lit, Nat.zero_add] at this
      exact this
    exact ⟨g, cap, al, ho, by rw [hv2, List.length_map], hlt, hcell 0 _ (by omega) rfl, hcell 1 _ (by omega) rfl, hcell 2 _ (by omega) rfl, hcell 3 _ (by omega) rfl, hcell 4 _ (by omega) rfl⟩
theorem RPcs.le {w : World} {base : Nat} {v : Value} {ps : List Sp.Pc} (h : RPcs w base v ps) : ps.length ≤ maxLen := by
  obtain ⟨l, rfl, h1, _⟩ := h
  obtain ⟨A, c, e, h2, h3⟩ := own_form h1
  rw [List.length_map]; omega

def BareOk (ev : Value) (cv : Int) : Prop := ∀ w : World, TypeVar w → Calls Tryd.prog 7 #[ev, .int .i64 cv] w fun e w' => e = .returned (.bool true) ∧ Below w.heap.size w w'

/-- What both Nexts leave: one piece, one error. -/
theorem both_next (bs : List UInt8) : ∃ (q : Sp.Pc) (al : ByteArray) (ev : Value) (cv : Int), al.size = q.long ∧ BareOk ev cv ∧
    (∀ w e w', RefPost w bs (Sp.nx bs) e w' → Below w.heap.size w w' ∧ e = .returned (.tuple #[rv q al, .int .i64 cv])) ∧
    (∀ w e w', NextPost w (Sp.nx bs) e w' → Below w.heap.size w w' ∧ ∃ A c, e = .returned (.tuple #[wv q A c, ev]) ∧ Rd w' w'.heap.size A q.bytes.length q.bytes) := by
  rcases hn : Sp.nx bs with _ | p
  · refine ⟨⟨0, 0, 0, [], 0⟩, ⟨#[]⟩, errV, 3, rfl, fun w hg => bare_err w hg, fun w e w' h => ⟨h.1, h.2⟩, fun w e w' h => ⟨h.1, none, 0, h.2, Rd.nil _ _ _⟩⟩
  · obtain ⟨_, h2, _⟩ := Sp.nx_some hn
    refine ⟨p, ⟨(bs.take p.long).toArray⟩, .nilIface, 0, ?_, fun w _ => bare_nil w, fun w e w' h => ⟨h.1, h.2⟩, fun w e w' h => ?_⟩
    · show (bs.take p.long).length = p.long
      rw [List.length_take]; omega
    · obtain ⟨hb, sv, rfl, ho⟩ := h
      obtain ⟨A, c, rfl, _, _, hrd⟩ := own_rd ho
      exact ⟨hb, A, c, rfl, hrd⟩

theorem both_split (bs : List UInt8) : ∃ (qs : List Sp.Pc) (ev : Value) (cv : Int), BareOk ev cv ∧
    (∀ w e w', RSplitPost w (Sp.sp bs) e w' → Below w.heap.size w w' ∧ ∃ v, e = .returned (.tuple #[v, .int .i64 cv]) ∧ RPcs w' w.heap.size v qs) ∧
    (∀ w e w', SplitPost w (Sp.sp bs) e w' → Below w.heap.size w w' ∧ ∃ v, e = .returned (.tuple #[v, ev]) ∧ Pcs w' w.heap.size v qs) := by
  rcases Sp.sp bs with _ | qs
  · exact ⟨[], errV, 3, fun w hg => bare_err w hg, fun w e w' h => ⟨h.1, _, h.2, RPcs.nil _ _⟩, fun w e w' h => ⟨h.1, _, h.2, Pcs.nil _ _⟩⟩
  · exact ⟨qs, .nilIface, 0, fun w _ => bare_nil w, fun w e w' h => h, fun w e w' h => h⟩
end Go.Proofs.YtafkoeebnkmpcaaDoor
