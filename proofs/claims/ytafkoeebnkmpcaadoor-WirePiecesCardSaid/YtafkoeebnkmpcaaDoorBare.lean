/-
  THE WALKS of api.Tell, plain.Place, is, bare at a nil error and at ErrForm.
-/
import Derived.Test.YtafkoeebnkmpcaaDoorAs
import Derived.Test.YtafkoeebnkmpcaaDoorNext
namespace Go.Proofs.YtafkoeebnkmpcaaDoor
open Go.RowKit

/-- The variable errors.errorType, as it was laid. -/
def TypeVar (w : World) : Prop := w.cell? ⟨0, 0, none⟩ = some (.iface 88 (.agg #[.pointer (some ⟨1, 28, none⟩)]))
theorem TypeVar.lt {w : World} (h : TypeVar w) : 0 < w.heap.size := by
  rcases Nat.eq_zero_or_pos w.heap.size with h0 | h1
  · unfold TypeVar at h; simp [World.cell?, h0] at h
  · exact h1
theorem TypeVar.below {w w' : World} {B : Nat} (h : TypeVar w) (hb : Below B w w') (hB : w.heap.size ≤ B) : TypeVar w' := by
  have := h.lt
  exact (hb.cell (p := ⟨0, 0, none⟩) (by show 0 < B; omega)).trans h
theorem TypeVar.alloc {w : World} (h : TypeVar w) (o : Obj) : TypeVar (w.alloc o) := by
  unfold TypeVar
  rw [World.cell?_alloc_lt _ _ ⟨0, 0, none⟩ h.lt]; exact h

/-- What lies below is as it was. -/
theorem bcell {W w1 : World} (hb : Below W.heap.size W w1) : (∀ b o, b < W.heap.size → w1.cell? ⟨b, o, none⟩ = W.cell? ⟨b, o, none⟩) ∧ (∀ b o, b < W.heap.size → w1.frozen? ⟨b, o, none⟩ = W.frozen? ⟨b, o, none⟩) :=
  ⟨fun b o h => hb.cell (p := ⟨b, o, none⟩) h, fun b o h => hb.frozen (p := ⟨b, o, none⟩) h⟩
set_option maxRecDepth 100000 in
theorem tell_nil (w : World) : Calls Tryd.prog 28 #[.nilIface] w fun e w' => e = .returned (.int .i64 0) ∧ Below w.heap.size w w' := by
  go_enter Tryd.func28, Tryd.ntmps28
  go_wp2_with fail
  go_ret
  exact ⟨rfl, Below.refl _ _⟩
set_option maxRecDepth 100000 in
set_option maxHeartbeats 1000000 in
theorem tell_err (w : World) (hg : TypeVar w) : Calls Tryd.prog 28 #[errV] w fun e w' => e = .returned (.int .i64 3) ∧ Below w.heap.size w w' := by
  unfold errV
  have HG : Hid (TypeVar (w.alloc (.cells #[.int .i64 0] 24))) := hg.alloc _
  go_enter Tryd.func28, Tryd.ntmps28
  go_wp2_with fail
  refine (as_hit 3 ⟨w.heap.size, 0, none⟩ (.int .i64 0) _ HG.out (by simp) (by simp)).mono ?_
  rintro e w' ⟨rfl, rfl⟩
  go_wp2_with fail
  go_ret
  exact ⟨rfl, (((((Below.refl _ w).alloc (Nat.le_refl _) _).alloc (by simp) _).alloc (by simp; omega) _).alloc (by simp; omega) _).alloc (by simp; omega) _⟩
theorem noAt (x : Value) (w : World) : (Instr.typeAssert (.iface 24 x) 28 66 true).run Tryd.prog w = .ok (.tuple #[.pointer none, .bool false]) w := by kernel_rfl
theorem noUnwrap (x : Value) (w : World) : (Instr.typeAssert (.iface 24 x) 28 69 true).run Tryd.prog w = .ok (.tuple #[.nilIface, .bool false]) w :=
  Go.run_typeAssert_lacksB Tryd.underlying69 (by kernel_rfl) (by kernel_rfl) _ _ _
set_option maxRecDepth 100000 in
set_option maxHeartbeats 1000000 in
theorem place_nil (w : World) : Calls Tryd.prog 27 #[.nilIface] w fun e w' => e = .returned (.tuple #[.int .i64 0, .int .i64 (-1)]) ∧ Below w.heap.size w w' := by
  go_enter Tryd.func27, Tryd.ntmps27
  go_wp2_with fail
  refine (tell_nil _).mono ?_
  rintro e w1 ⟨rfl, hb⟩
  go_wp2_with fail
  refine wp_loop_rounds 1 ?_
  rw [rounds_succ]
  go_wp2_with fail
  go_ret2
  exact ⟨rfl, hb⟩
set_option maxRecDepth 100000 in
set_option maxHeartbeats 1000000 in
theorem place_err (w : World) (hg : TypeVar w) : Calls Tryd.prog 27 #[errV] w fun e w' => e = .returned (.tuple #[.int .i64 3, .int .i64 (-1)]) ∧ Below w.heap.size w w' := by
  have he : errV = .iface 24 (.int .i64 3) := rfl
  rw [he]
  have HG := Lib.hid hg
  clear hg he
  have na := noAt (.int .i64 3)
  have nu := noUnwrap (.int .i64 3)
  go_enter Tryd.func27, Tryd.ntmps27
  go_wp2_with fail
  refine (tell_err _ HG.out).mono ?_
  rintro e w1 ⟨rfl, hb⟩
  go_wp2_with fail
  refine wp_loop_rounds 1 ?_
  rw [rounds_succ]
  go_wp2_with fail
  go_ret2
  exact ⟨rfl, hb⟩

set_option maxRecDepth 100000 in
theorem fault_any (x : Int) (w : World) : Calls Tryd.prog 25 #[.int .i64 x] w fun e w' => e = .returned (.agg #[.int .i64 x, .int .i64 (-1)]) ∧ Below w.heap.size w w' := by
  go_enter Tryd.func25, Tryd.ntmps25
  go_wp2_with fail
  exact bodyPost_ret (v := .agg #[.int .i64 x, .int .i64 (-1)]) (by simp [results, Tryd.results25, go_sem]) rfl ⟨rfl, (Below.refl _ _).alloc (Nat.le_refl _) _⟩

set_option maxRecDepth 100000 in
set_option maxHeartbeats 1000000 in
theorem bare_nil (w : World) : Calls Tryd.prog 7 #[.nilIface, .int .i64 0] w fun e w' => e = .returned (.bool true) ∧ Below w.heap.size w w' := by
  go_enter Tryd.func7, Tryd.ntmps7
  go_wp2_with fail
  refine (fault_any 0 _).mono ?_
  rintro e w1 ⟨rfl, hb1⟩
  have hs1 := hb1.size
  go_wp2_with (first | (go_at_call 27; refine (place_nil _).mono ?_; rintro e w2 ⟨rfl, hb2⟩; obtain ⟨hc, hf⟩ := bcell hb2) | (go_at_call 24; go_in))
  go_ret
  exact ⟨rfl, (hb1.alloc hs1 _).trans (hb2.mono (by simp; omega))⟩
set_option maxRecDepth 100000 in
set_option maxHeartbeats 1000000 in
theorem bare_err (w : World) (hg : TypeVar w) : Calls Tryd.prog 7 #[errV, .int .i64 3] w fun e w' => e = .returned (.bool true) ∧ Below w.heap.size w w' := by
  have he : errV = .iface 24 (.int .i64 3) := rfl
  rw [he]
  have HG := Lib.hid hg
  clear hg he
  go_enter Tryd.func7, Tryd.ntmps7
  go_wp2_with fail
  refine (fault_any 3 _).mono ?_
  rintro e w1 ⟨rfl, hb1⟩
  have hs1 := hb1.size
  have HG1 : Hid (TypeVar (w1.alloc (.cells #[.int .i64 3, .int .i64 (-1)] 60))) := (HG.out.below hb1 (Nat.le_refl _)).alloc _
  go_wp2_with (first | (go_at_call 27; refine (place_err _ HG1.out).mono ?_; rintro e w2 ⟨rfl, hb2⟩; obtain ⟨hc, hf⟩ := bcell hb2) | (go_at_call 24; go_in))
  go_ret
  exact ⟨rfl, (hb1.alloc hs1 _).trans (hb2.mono (by simp; omega))⟩
end Go.Proofs.YtafkoeebnkmpcaaDoor
