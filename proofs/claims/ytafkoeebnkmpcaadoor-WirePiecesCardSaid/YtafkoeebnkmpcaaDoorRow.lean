/-
  A slice of bytes that came in: from its reading as data to the words of the walks (Rd).
-/
import Derived.Test.YtafkoeebnkmpcaaDoorWords
import Derived.OpenShut
namespace Go.Proofs.YtafkoeebnkmpcaaDoor
open Go.RowKit

/-- WHAT THE WALK IS TOLD OF A SLICE OF INTEGERS THAT CAME IN. -/
def IsRow (k : IntKind) (w : World) (a : Option Addr) (len cap : Nat) (zs : List Int) : Prop :=
  (a = none ∧ len = 0 ∧ cap = 0 ∧ zs = []) ∨
  ∃ x, a = some x ∧ len ≤ cap ∧ cap ≤ maxLen ∧ zs.length = cap ∧ (∀ i, i < zs.length → w.cell? (x.add i) = some (.int k (zs.getD i 0))) ∧ ∀ n ∈ zs, (Lit.int k n).wf = true

theorem isRow_rd {w : World} {a : Option Addr} {len cap : Nat} {zs : List Int} (h : IsRow .u8 w a len cap zs) : ∃ bs, Rd w w.heap.size a len bs := by
  rcases h with ⟨rfl, rfl, rfl, rfl⟩ | ⟨x, rfl, hl, hm, hz, hcell, hwz⟩
  · exact ⟨[], Rd.nil _ _ _⟩
  · rcases Nat.eq_zero_or_pos len with h0 | h0
    · subst h0
      exact ⟨[], Rd.nil _ _ _⟩
    · obtain ⟨b, off, rfl, hc⟩ := ints_at hcell (by omega)
      have hb : b < w.heap.size := by
        rcases Nat.lt_or_ge b w.heap.size with h | h
        · exact h
        · have := hc 0 (by omega)
          simp [World.cell?, Array.getElem?_eq_none h] at this
      refine ⟨(zs.take len).map fun z => UInt8.ofNat z.toNat, Rd.mk (by simp; omega) hb fun j c hj => ?_⟩
      simp only [List.getElem?_map, Option.map_eq_some_iff, List.getElem?_take] at hj
      obtain ⟨z, hz1, rfl⟩ := hj
      by_cases hjl : j < len
      · rw [if_pos hjl] at hz1
        have hmem : z ∈ zs := List.mem_of_getElem? hz1
        have hwf := bounds_u8 (hwz z hmem)
        have hg : zs.getD j 0 = z := by simp [List.getD, hz1]
        rw [hc j (by omega), hg]
        have e : (UInt8.ofNat z.toNat).toNat = z.toNat := by simp; omega
        rw [e]
        have : ((z.toNat : Nat) : Int) = z := by omega
        rw [this]
      · rw [if_neg hjl] at hz1; cases hz1
end Go.Proofs.YtafkoeebnkmpcaaDoor
