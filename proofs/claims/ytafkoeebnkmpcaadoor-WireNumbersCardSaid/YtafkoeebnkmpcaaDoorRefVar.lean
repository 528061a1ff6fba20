/-
  THE WALK of sealpressref.Varint: it returns 'Sp.vb n' as a string.
-/
import Derived.Test.YtafkoeebnkmpcaaDoorRefGet
import Derived.Deep.RegionWith
import Derived.Laws.IdiomStrings
namespace Go.Proofs.YtafkoeebnkmpcaaDoor
open Go.RowKit

/-- string(b) of one new byte. -/
theorem conv_one (w : World) (c : UInt8) (x : Int) (g : Nat) (hg : w.cell? ⟨g, 0, none⟩ = some (.int .u8 x)) (hx : x = (c.toNat : Int)) (cap : Nat) :
    (convert 22 9 (.slice (some ⟨g, 0, none⟩) 1 cap)).run Tryd.prog w = .ok (.string ⟨[c].toArray⟩) w := by
  subst hx
  refine run_convert_bytes_back w _ _ 5 _ cap [c] Tryd.underlying22 Tryd.underlying5 Tryd.underlying9 fun j hj => ?_
  obtain rfl : j = 0 := by simpa using hj
  simpa [Addr.add_lit] using hg

set_option maxRecDepth 100000 in
set_option maxHeartbeats 2000000 in
theorem refvar_last (n : Nat) (w : World) (hn : n < 128) :
    Calls Tryd.prog 9 #[.int .u64 n] w fun e w' => e = .returned (.string ⟨[UInt8.ofNat n].toArray⟩) ∧ Below w.heap.size w w' := by
  have hcv := conv_one (w.alloc (.cells #[.int .u8 (n : Int)] 5)) (UInt8.ofNat n) n w.heap.size (by simp) (by rw [Sp.ofNat_toNat n (by omega)]) 1
  go_enter Tryd.func9, Tryd.ntmps9
  go_wp2_with fail
  go_ret
  exact ⟨rfl, (Below.refl _ _).alloc (Nat.le_refl _) _⟩

/-- string + string, both short. -/
theorem add_str (a b : List UInt8) (h : a.length + b.length ≤ 1000000000) (w : World) :
    (Op.stringOp .add ⟨a.toArray⟩ ⟨b.toArray⟩).run Tryd.prog w = .ok (.string ⟨(a ++ b).toArray⟩) w := by
  have e1 : (⟨a.toArray⟩ : ByteArray).size = a.length := by simp [ByteArray.size]
  have e2 : (⟨b.toArray⟩ : ByteArray).size = b.length := by simp [ByteArray.size]
  rw [run_string_add_sum _ _ _ (by rw [e1, e2]; omega)]
  have e : (⟨a.toArray⟩ : ByteArray) ++ ⟨b.toArray⟩ = ⟨(a ++ b).toArray⟩ := ByteArray.ext (by rw [ByteArray.data_append]; simp)
  rw [e]

set_option maxRecDepth 100000 in
set_option maxHeartbeats 2000000 in
theorem refvar_more (n q : Nat) (w : World) (bs : List UInt8) (hn : ¬ n < 128) (hn64 : n < 18446744073709551616) (hl : bs.length ≤ 100) (hq : n / 128 = q)
    (ih : ∀ w : World, Calls Tryd.prog 9 #[.int .u64 (q : Int)] w fun e w' => e = .returned (.string ⟨bs.toArray⟩) ∧ Below w.heap.size w w') :
    Calls Tryd.prog 9 #[.int .u64 n] w fun e w' => e = .returned (.string ⟨(UInt8.ofNat (n % 128 + 128) :: bs).toArray⟩) ∧ Below w.heap.size w w' := by
  obtain ⟨r, hr, hr1⟩ : ∃ r : Nat, (n : Int).tmod 128 = (r : Int) ∧ r = n % 128 := ⟨n % 128, by rw [Int.tmod_eq_emod_of_nonneg (by omega)]; omega, rfl⟩
  have hr2 : IntKind.u8.wrap (r : Int) = (r : Int) := by rw [IntKind.wrap_u8']; omega
  obtain ⟨y, hy, hy1⟩ : ∃ y : Nat, IntKind.u8.wrap ((r : Int) + 128) = (y : Int) ∧ y = r + 128 := ⟨r + 128, by rw [IntKind.wrap_u8']; omega, rfl⟩
  have hq1 : IntKind.u64.wrap ((n : Int) / 128) = (q : Int) := by rw [IntKind.wrap_u64]; omega
  have hcv0 : ∀ (W : World) (g : Nat), W.cell? ⟨g, 0, none⟩ = some (.int .u8 (y : Int)) → (convert 22 9 (.slice (some ⟨g, 0, none⟩) 1 1)).run Tryd.prog W = .ok (.string ⟨[UInt8.ofNat (n % 128 + 128)].toArray⟩) W :=
    fun W g hg => conv_one W _ y g hg (by rw [Sp.ofNat_toNat _ (by omega)]; omega) 1
  have hadd0 := add_str [UInt8.ofNat (n % 128 + 128)] bs (by simp; omega)
  obtain ⟨s1, hs1⟩ : ∃ s1 : ByteArray, s1 = ⟨[UInt8.ofNat (n % 128 + 128)].toArray⟩ := ⟨_, rfl⟩
  obtain ⟨s2, hs2⟩ : ∃ s2 : ByteArray, s2 = ⟨bs.toArray⟩ := ⟨_, rfl⟩
  obtain ⟨s3, hs3⟩ : ∃ s3 : ByteArray, s3 = ⟨(UInt8.ofNat (n % 128 + 128) :: bs).toArray⟩ := ⟨_, rfl⟩
  have hs3' : s3 = ⟨([UInt8.ofNat (n % 128 + 128)] ++ bs).toArray⟩ := hs3
  rw [← hs1, ← hs2, ← hs3'] at hadd0
  rw [← hs1] at hcv0
  rw [← hs2] at ih
  rw [← hs3]
  have IH := Lib.hid ih
  have HN := Lib.hid hn64
  have hcv := hcv0
  have hadd := hadd0
  clear ih hn64 hs1 hs2 hs3 hs3' hcv0 hadd0 hr1 hy1 hq hl
  go_enter Tryd.func9, Tryd.ntmps9
  go_wp2_with fail
  go_region_with (go_at_call 9; refine (IH.out _).mono ?_; rintro e w2 ⟨rfl, hb⟩; obtain ⟨hc, hf⟩ := bcell hb)
  all_goals go_wp2_with fail
  all_goals go_ret
  all_goals first
    | exact ⟨rfl, (((Below.refl _ w).alloc (Nat.le_refl _) _).drew).trans (hb.mono (by simp))⟩
    | exact ⟨rfl, (((Below.refl _ w).drew).trans hb).alloc (by have := hb.size; simpa using this) _⟩

theorem refvar_any (f : Nat) : ∀ (n : Nat) (w : World), f ≤ 9 → n < 128 ^ (f + 1) → n < 18446744073709551616 →
    Calls Tryd.prog 9 #[.int .u64 n] w fun e w' => e = .returned (.string ⟨(Sp.vbF f n).toArray⟩) ∧ Below w.heap.size w w' := by
  induction f with
  | zero =>
    intro n w _ hn _
    exact refvar_last n w (by simpa using hn)
  | succ f ih =>
    intro n w hf9 hn hn64
    by_cases h : n < 128
    · have e : Sp.vbF (f + 1) n = [UInt8.ofNat n] := by rw [Sp.vbF, if_pos h]
      rw [e]; exact refvar_last n w h
    · have e : Sp.vbF (f + 1) n = UInt8.ofNat (n % 128 + 128) :: Sp.vbF f (n / 128) := by rw [Sp.vbF, if_neg h]
      rw [e]
      have h2 : n / 128 < 128 ^ (f + 1) := by
        rw [Nat.pow_succ] at hn
        exact Nat.div_lt_of_lt_mul (by rw [Nat.mul_comm]; exact hn)
      exact refvar_more n (n / 128) w (Sp.vbF f (n / 128)) h hn64 (by have := Sp.vbF_len f (n / 128); omega) rfl (fun w => ih (n / 128) w (by omega) h2 (by omega))
end Go.Proofs.YtafkoeebnkmpcaaDoor
