/-
  THE WALKS of wire.PutFixed and sealpressref.Fixed.
-/
import Derived.Test.YtafkoeebnkmpcaaDoorTags
namespace Go.Proofs.YtafkoeebnkmpcaaDoor
open Go.RowKit

/-- The least k bytes of n, the least one first. -/
def Sp.fx : Nat → Nat → List UInt8
  | 0, _ => []
  | k + 1, n => UInt8.ofNat (n % 256) :: Sp.fx k (n / 256)
theorem Sp.fx_len (k n : Nat) : (Sp.fx k n).length = k := by
  induction k generalizing n with
  | zero => rfl
  | succ k ih => simp [Sp.fx, ih]

set_option maxRecDepth 100000 in
set_option maxHeartbeats 2000000 in
theorem putfixed_any (base : Nat) (v : Value) (nv : Nat) (xs : List Value) (n : Nat) (many : Int) (M : Nat) (w : World) (hown : w.ownsRow base 5 1 v nv xs) (hn : n < 18446744073709551616) (hnv : nv ≤ 1000000000) (hbase : base ≤ w.heap.size) (hM : min (max many 0) 8 = (M : Int)) :
    Calls Tryd.prog 11 #[v, .int .u64 n, .int .i64 many] w (AppPost base w v nv xs (Sp.fx M n)) := by
  obtain ⟨i0, hi, hz0, hz1, hz2⟩ := info_parts infoB
  have HN := Lib.hid hn
  clear hn
  go_enter Tryd.func11, Tryd.ntmps11
  go_wp2_with fail
  have hM8 : M ≤ 8 := by omega
  clear hM
  go_loopw [0, 1, 10] (fun s u i wr => ∃ (done : List UInt8) (m k f : Nat), u = .int .u64 m ∧ i = .int .i64 k ∧ Hid (done.length = k) ∧ k ≤ M ∧ Hid (k + f = M) ∧ wr.ownsRow base 5 1 s (nv + done.length) (xs ++ cb done) ∧ Upd 5 base w wr v nv xs s ∧ Hid (Sp.fx M n = done ++ Sp.fx f m) ∧ Hid (m < 18446744073709551616)) (fun _ _ i _ => M - (intOf i).toNat)
  case atStart => exact ⟨[], n, 0, M, rfl, rfl, (rfl : ([] : List UInt8).length = 0), by omega, (by omega : 0 + M = M), by simpa [cb] using hown, Upd.refl hown, (rfl : Sp.fx M n = [] ++ Sp.fx M n), HN.out⟩
  case round =>
    obtain ⟨done, m, k, f, rfl, rfl, HD, hkM, HF, hownr, hupd, HV, HM⟩ := hrel
    have hsz := hupd.1.size
    by_cases hlt : k < M
    · have hdl : done.length ≤ 8 := by have := HD.out; omega
      go_wp2_with (first | (at_builtin; go_must (refine wpList_app _ rfl _ _ 22 rfl base 5 i0 (.int .u8 0) 1 Tryd.underlying22 hi hz0 hz1 hz2 rfl _ _ _ rfl (hownr.alloc _) _ _ _ _ _ rfl (RdV.one _ _ _) ?_ ?_ ?_ ?_ ?_)))
      · intro u hu; simp at hu; subst hu; rfl
      · unfold maxLen; omega
      · omega
      · simp; omega
      · intro v1 w1 h2 h3 h4 h5
        have R := put_step (c := UInt8.ofNat (m % 256)) hownr hupd h2 h3 h4 h5 (by rw [Sp.ofNat_toNat _ (by omega)]; congr 1)
        obtain ⟨g, hg⟩ : ∃ g, f = g + 1 := ⟨f - 1, by have := HF.out; omega⟩
        have HG := Lib.hid hg
        obtain ⟨r1, r2⟩ := R
        clear hg h2 h3 h4 h5 hownr hupd hown
        go_wp2_with fail
        go_roundw
        case rel =>
          refine ⟨done ++ [UInt8.ofNat (m % 256)], m / 256, k + 1, g, by go_num, by go_num, ?_, by omega, ?_, r1, r2, ?_, ?_⟩
          · exact (by rw [List.length_append, HD.out]; rfl : (done ++ [UInt8.ofNat (m % 256)]).length = k + 1)
          · exact (by have := HF.out; have := HG.out; omega : k + 1 + g = M)
          · have := HV.out
            rw [HG.out, Sp.fx] at this
            exact (this.trans (by simp) : Sp.fx M n = (done ++ [UInt8.ofNat (m % 256)]) ++ Sp.fx g (m / 256))
          · exact (by have := HM.out; omega : m / 256 < 18446744073709551616)
        case measure => simp [intOf]; omega
    · have hf : f = 0 := by have := HF.out; omega
      have HV2 : Hid (Sp.fx M n = done) := by
        have := HV.out
        rw [hf, Sp.fx, List.append_nil] at this
        exact this
      have HO := Lib.hid hownr
      have HU := Lib.hid hupd
      clear hf hownr hupd hown
      go_wp2_with fail
      go_ret
      refine ⟨_, rfl, ?_, HU.out⟩
      rw [HV2.out]
      exact HO.out

set_option maxRecDepth 100000 in
set_option maxHeartbeats 2000000 in
theorem reffixed_any (n M : Nat) (w : World) (hn : n < 18446744073709551616) (hM8 : M ≤ 8) :
    Calls Tryd.prog 12 #[.int .u64 n, .int .i64 M] w fun e w' => e = .returned (.string ⟨(Sp.fx M n).toArray⟩) ∧ Below w.heap.size w w' := by
  have HN := Lib.hid hn
  clear hn
  go_enter Tryd.func12, Tryd.ntmps12
  go_wp2_with fail
  go_loopw [0, 5, 6] (fun u s i wr => ∃ (done : List UInt8) (m k f : Nat) (sd : ByteArray), u = .int .u64 m ∧ i = .int .i64 k ∧ s = .string sd ∧ Hid (sd = ⟨done.toArray⟩) ∧ Hid (done.length = k) ∧ k ≤ M ∧ Hid (k + f = M) ∧ Below w.heap.size w wr ∧ Hid (Sp.fx M n = done ++ Sp.fx f m) ∧ Hid (m < 18446744073709551616)) (fun _ _ i _ => M - (intOf i).toNat)
  case atStart => exact ⟨[], n, 0, M, _, rfl, rfl, rfl, (rfl : (⟨#[]⟩ : ByteArray) = ⟨([] : List UInt8).toArray⟩), (rfl : ([] : List UInt8).length = 0), by omega, (by omega : 0 + M = M), Below.refl _ _, (rfl : Sp.fx M n = [] ++ Sp.fx M n), HN.out⟩
  case round =>
    obtain ⟨done, m, k, f, sd, rfl, rfl, rfl, HSD, HD, hkM, HF, hbel, HV, HM⟩ := hrel
    have hsz := hbel.size
    by_cases hlt : k < M
    · have h8 : decide ((k : Int) < 8) = true := by simp; omega
      obtain ⟨r, hr, hr1⟩ : ∃ r : Nat, (m : Int) % 256 = (r : Int) ∧ r = m % 256 := ⟨m % 256, by omega, rfl⟩
      have hrb : r < 256 := by omega
      have hcv : ∀ (W : World) (g : Nat), W.cell? ⟨g, 0, none⟩ = some (.int .u8 (r : Int)) → (convert 22 9 (.slice (some ⟨g, 0, none⟩) 1 1)).run Tryd.prog W = .ok (.string ⟨[UInt8.ofNat (m % 256)].toArray⟩) W :=
        fun W g hg => conv_one W _ r g hg (by rw [Sp.ofNat_toNat _ (by omega)]; omega) 1
      have hadd := add_str done [UInt8.ofNat (m % 256)] (by have := HD.out; simp; omega)
      obtain ⟨s1, hs1⟩ : ∃ s1 : ByteArray, s1 = ⟨[UInt8.ofNat (m % 256)].toArray⟩ := ⟨_, rfl⟩
      obtain ⟨s3, hs3⟩ : ∃ s3 : ByteArray, s3 = ⟨(done ++ [UInt8.ofNat (m % 256)]).toArray⟩ := ⟨_, rfl⟩
      rw [← hs1, ← hs3, ← HSD.out] at hadd
      rw [← hs1] at hcv
      have HS3 := Lib.hid hs3
      obtain ⟨g, hg⟩ : ∃ g, f = g + 1 := ⟨f - 1, by have := HF.out; omega⟩
      have HG := Lib.hid hg
      have HB : Hid (Below w.heap.size w (wr.alloc (.cells #[.int .u8 (r : Int)] 5))) := hbel.alloc hsz _
      clear hs1 hs3 hr1 hg hbel
      go_wp2_with fail
      go_roundw
      case rel =>
        refine ⟨done ++ [UInt8.ofNat (m % 256)], m / 256, k + 1, g, s3, congrArg (Value.int .u64) (by rw [IntKind.wrap_u64]; have := HM.out; omega), by go_num, rfl, HS3.out, ?_, by omega, ?_, HB.out, ?_, ?_⟩
        · exact (by rw [List.length_append, HD.out]; rfl : (done ++ [UInt8.ofNat (m % 256)]).length = k + 1)
        · exact (by have := HF.out; have := HG.out; omega : k + 1 + g = M)
        · have := HV.out
          rw [HG.out, Sp.fx] at this
          exact (this.trans (by simp) : Sp.fx M n = (done ++ [UInt8.ofNat (m % 256)]) ++ Sp.fx g (m / 256))
        · exact (by have := HM.out; omega : m / 256 < 18446744073709551616)
      case measure => simp [intOf]; omega
    · have hf : f = 0 := by have := HF.out; omega
      have HV2 : Hid (Sp.fx M n = done) := by
        have := HV.out
        rw [hf, Sp.fx, List.append_nil] at this
        exact this
      have hkf : decide ((k : Int) < (M : Int)) = false := by simp; omega
      have HB := Lib.hid hbel
      clear hf hbel
      go_wp2_with fail
      go_ret
      refine ⟨?_, HB.out⟩
      rw [HV2.out, ← HSD.out]
      rfl
end Go.Proofs.YtafkoeebnkmpcaaDoor
