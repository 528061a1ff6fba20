/-
  THE WALK of sealpresskeep.WireJoins: at all arguments it returns true, and writes nothing that was there.
-/
import Derived.Test.YtafkoeebnkmpcaaDoorSplit
namespace Go.Proofs.YtafkoeebnkmpcaaDoor
open Go.RowKit

theorem flat_get : ∀ (l : List (Sp.Pc × Value)) (k i : Nat) (x : Sp.Pc × Value), l[k]? = some x → i < 5 → (l.flatMap pc5)[k * 5 + i]? = (pc5 x)[i]?
  | [], k, i, x, h, _ => by simp at h
  | y :: l, 0, i, x, h, hi => by
    simp at h
    subst h
    rw [List.flatMap_cons, Nat.zero_mul, Nat.zero_add, List.getElem?_append_left (by simp [pc5]; omega)]
  | y :: l, k + 1, i, x, h, hi => by
    have h' : l[k]? = some x := by simpa using h
    have e : (k + 1) * 5 + i = 5 + (k * 5 + i) := by omega
    rw [List.flatMap_cons, e, List.getElem?_append_right (by simp [pc5])]
    have e2 : 5 + (k * 5 + i) - (pc5 y).length = k * 5 + i := by simp [pc5]
    rw [e2]
    exact flat_get l k i x h' hi

/-- The k-th piece of a slice of pieces: its five cells, and its bytes. -/
theorem Pcs.at_ {w : World} {base : Nat} {v : Value} {ps : List Sp.Pc} {k : Nat} {p : Sp.Pc} (h : Pcs w base v ps) (hk : ps[k]? = some p) :
    ∃ (g c : Nat) (A : Option Addr) (c1 : Nat), v = .slice (some ⟨g, 0, none⟩) ps.length c ∧ g < w.heap.size ∧ Rd w w.heap.size A p.bytes.length p.bytes ∧
      w.cell? ⟨g, k * 5, none⟩ = some (.int .i64 (p.num : Nat)) ∧ w.cell? ⟨g, k * 5 + 1, none⟩ = some (.int .i64 (p.form : Nat)) ∧ w.cell? ⟨g, k * 5 + 2, none⟩ = some (.int .u64 (p.val : Nat)) ∧ w.cell? ⟨g, k * 5 + 3, none⟩ = some (.slice A p.bytes.length c1) ∧ w.cell? ⟨g, k * 5 + 4, none⟩ = some (.int .i64 (p.long : Nat)) := by
  obtain ⟨l, rfl, h1, h2⟩ := h
  simp only [List.getElem?_map, Option.map_eq_some_iff] at hk
  obtain ⟨⟨q, sv⟩, hk, rfl⟩ := hk
  have hmem : (q, sv) ∈ l := List.mem_of_getElem? hk
  have ho := h2 _ hmem
  obtain ⟨A, c1, hsv, _, _, hrd⟩ := own_rd ho
  simp only at hsv
  have hl : 0 < l.length := by
    rcases l with _ | ⟨y, l⟩
    · simp at hk
    · simp
  obtain ⟨A2, c2, hv, hc2, _⟩ := own_form h1
  rcases h1.2 with ⟨_, h0⟩ | ⟨g, cap, cur, hv2, _, hh, _⟩
  · omega
  · have hlt : g < w.heap.size := by
      rcases Nat.lt_or_ge g w.heap.size with h | h
      · exact h
      · rw [Array.getElem?_eq_none h] at hh; cases hh
    have hcell : ∀ i u, i < 5 → (pc5 (q, sv))[i]? = some u → w.cell? ⟨g, k * 5 + i, none⟩ = some u := by
      intro i u hi hu
      have := h1.cells (g := g) (by rw [hv2]; rfl) (k * 5 + i) u (by rw [flat_get l k i _ hk hi]; exact hu)
      rw [Addr.add_lit, Nat.zero_add] at this
      exact this
    refine ⟨g, cap, A, c1, by rw [hv2, List.length_map], hlt, hrd, hcell 0 _ (by omega) rfl, hcell 1 _ (by omega) rfl, hcell 2 _ (by omega) rfl, ?_, hcell 4 _ (by omega) rfl⟩
    have := hcell 3 sv (by omega) rfl
    rw [this, hsv]

/-- string(b), b a slice that reads as bytes. -/
theorem conv_rd {w : World} {B : Nat} {A : Option Addr} {n c : Nat} {bs : List UInt8} (h : Rd w B A n bs) :
    (convert 22 9 (.slice A n c)).run Tryd.prog w = .ok (.string ⟨bs.toArray⟩) w := by
  have hl := h.len
  rcases A with _ | ad
  · have h0 : n = 0 := by
      rcases Nat.eq_zero_or_pos n with h0 | h0
      · exact h0
      · obtain ⟨b, off, e, _⟩ := h.2 h0
        cases e
    subst h0
    have : bs = [] := List.eq_nil_of_length_eq_zero hl
    subst this
    rw [run_convert_bytes_string w 22 9 5 none 0 c Tryd.underlying22 Tryd.underlying5 Tryd.underlying9]
    simp [Conv.bytesToString]
    rfl
  · subst hl
    refine run_convert_bytes_back w _ _ 5 ad c bs Tryd.underlying22 Tryd.underlying5 Tryd.underlying9 fun j hj => ?_
    obtain ⟨b, off, e, _, hc⟩ := Rd.at_ h (by omega)
    injection e with e
    subst e
    rw [Addr.add_lit]
    exact hc j _ (List.getElem?_eq_getElem hj)

theorem sum_step {l : List Sp.Pc} {k : Nat} {p : Sp.Pc} (h : l[k]? = some p) : ((l.take (k + 1)).map (·.long)).sum = ((l.take k).map (·.long)).sum + p.long := by
  have hk : k < l.length := by
    rcases Nat.lt_or_ge k l.length with h1 | h1
    · exact h1
    · rw [List.getElem?_eq_none h1] at h; cases h
  have e : l[k] = p := by rw [List.getElem?_eq_getElem hk] at h; injection h
  rw [List.take_succ_eq_append_getElem hk, List.map_append, List.sum_append, e]
  simp
theorem sum_le (l : List Sp.Pc) (k : Nat) : ((l.take k).map (·.long)).sum ≤ (l.map (·.long)).sum := by
  have e : (l.map (·.long)).sum = ((l.take k).map (·.long)).sum + ((l.drop k).map (·.long)).sum := by
    rw [← List.sum_append, ← List.map_append, List.take_append_drop]
  omega

end Go.Proofs.YtafkoeebnkmpcaaDoor
