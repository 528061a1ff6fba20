/-
  THE WALK's OWN ARITHMETIC, READ AS NUMBERS: '|', '&', shifts, conversions of 64-bit numbers and bytes (no program in sight).
-/
import Derived.Laws.BitsAllLaws
import Derived.WalkKit
import Derived.Lib.ItoaNum
import Derived.Test.YtafkoeebnkmpcaaDoorSp
namespace Go.Proofs.YtafkoeebnkmpcaaDoor.Sp
open Go.RowKit

theorem pow_int (k : Nat) : (2 : Int) ^ (7 * k) = ((128 ^ k : Nat) : Int) := by
  rw [Int.natCast_pow, Int.pow_mul]; rfl
theorem piece_lt {k y : Nat} (hk : k ≤ 9) (hy : y < 128) (h9 : k = 9 → y ≤ 1) : y * 128 ^ k < 18446744073709551616 := by
  by_cases h : k = 9
  · subst h
    have := h9 rfl
    have e : (128 : Nat) ^ 9 = 9223372036854775808 := by simp
    rw [e]; omega
  · have hp : 128 ^ k ≤ 128 ^ 8 := Nat.pow_le_pow_right (by omega) (by omega)
    have e : (128 : Nat) ^ 8 = 72057594037927936 := by simp
    rw [e] at hp
    have := Nat.mul_le_mul (show y ≤ 127 by omega) hp
    omega
/-- One byte more of a number, as the loop has it. -/
theorem or_step {k m x : Nat} (hk : k ≤ 9) (hx : x < 256) (h9 : k = 9 → x % 128 ≤ 1) (hm : m < 128 ^ k) :
    bits BinOp.or IntKind.u64 (m : Int) (IntKind.u64.wrap (IntKind.u64.wrap (bits BinOp.and IntKind.u8 (x : Int) 127) * 2 ^ (7 * k))) = ((m + 128 ^ k * (x % 128) : Nat) : Int) := by
  have h1 : bits BinOp.and IntKind.u8 (x : Int) 127 = ((x % 128 : Nat) : Int) := by
    have := u8_and_nat x 127 hx (by omega)
    rw [nat_mask7] at this
    exact this
  have hp := piece_lt (y := x % 128) hk (by omega) h9
  rw [h1, IntKind.wrap_u64, IntKind.wrap_u64, pow_int]
  have e1 : ((x % 128 : Nat) : Int) % 18446744073709551616 = ((x % 128 : Nat) : Int) := by omega
  rw [e1, ← Int.natCast_mul]
  have e2 : (((x % 128) * 128 ^ k : Nat) : Int) % 18446744073709551616 = (((x % 128) * 128 ^ k : Nat) : Int) := by
    rw [Int.emod_eq_of_lt (by omega) (by omega)]
  have hm2 : m < 18446744073709551616 := by
    have := pow_le k hk
    omega
  rw [e2, u64_or_nat _ _ hm2 hp, or_add hm]

theorem vbF_bounds (f n : Nat) (h : n < 128 ^ (f + 1)) : n < 128 ^ (vbF f n).length ∧ ((vbF f n).length = 1 ∨ 128 ^ ((vbF f n).length - 1) ≤ n) := by
  induction f generalizing n with
  | zero => simpa [vbF] using h
  | succ f ih =>
    rw [vbF]
    by_cases h1 : n < 128
    · rw [if_pos h1]; simpa using h1
    · rw [if_neg h1]
      have h2 : n / 128 < 128 ^ (f + 1) := by
        rw [Nat.pow_succ] at h
        exact Nat.div_lt_of_lt_mul (by rw [Nat.mul_comm]; exact h)
      obtain ⟨a, b⟩ := ih (n / 128) h2
      have hl := vbF_ne f (n / 128)
      simp only [List.length_cons, Nat.add_sub_cancel]
      obtain ⟨l, hl'⟩ : ∃ l, (vbF f (n / 128)).length = l + 1 := ⟨(vbF f (n / 128)).length - 1, by omega⟩
      rw [hl'] at a b ⊢
      refine ⟨?_, .inr ?_⟩
      · rw [Nat.pow_succ]; omega
      · rcases b with b | b
        · obtain rfl : l = 0 := by omega
          simp; omega
        · simp only [Nat.add_sub_cancel] at b
          rw [Nat.pow_succ]; omega
/-- wire.Size's reckoning is the length of the bytes. -/
theorem size_eq (n : Nat) (h : n < 18446744073709551616) : (Lib.bitLen (n ||| 1) + 6) / 7 = (vb n).length := by
  have hp : (128 : Nat) ^ (9 + 1) = 1180591620717411303424 := by simp
  obtain ⟨a, b⟩ := vbF_bounds 9 n (by rw [hp]; omega)
  have hl := vbF_ne 9 n
  have e128 : ∀ k, (128 : Nat) ^ k = 2 ^ (7 * k) := fun k => by rw [Nat.pow_mul]
  have hx1 : n ≤ n ||| 1 := Nat.left_le_or
  have hx0 : 1 ≤ n ||| 1 := Nat.right_le_or
  have hx64 : n ||| 1 < 2 ^ 64 := Nat.or_lt_two_pow (by omega) (by omega)
  have hx : n ||| 1 < 2 ^ (7 * (vb n).length) := by
    rw [e128] at a
    exact Nat.or_lt_two_pow a (Nat.one_lt_two_pow (by unfold vb; omega))
  obtain ⟨c1, c2, c3⟩ := Lib.bitLenAux_bounds 64 (n ||| 1) hx64 (by omega)
  have hup : Lib.bitLenAux 64 (n ||| 1) - 1 < 7 * (vb n).length := (Nat.pow_lt_pow_iff_right (by omega)).1 (Nat.lt_of_le_of_lt c2 hx)
  have hlo : 7 * ((vb n).length - 1) < Lib.bitLenAux 64 (n ||| 1) := by
    refine (Nat.pow_lt_pow_iff_right (a := 2) (by omega)).1 (Nat.lt_of_le_of_lt ?_ c3)
    rcases b with b | b
    · have : (vb n).length = 1 := b
      rw [this]; simpa using hx0
    · rw [e128] at b
      exact Nat.le_trans b hx1
  have : Lib.bitLen (n ||| 1) = Lib.bitLenAux 64 (n ||| 1) := rfl
  rw [this]
  have hl' : 1 ≤ (vb n).length := hl
  omega

/-- Twice n; below 0 twice what -1 - n is, and 1. -/
def zg (z : Int) : Nat := if 0 ≤ z then (2 * z).toNat else (-2 * z - 1).toNat
def zt (n : Nat) : Int := if n % 2 = 0 then ((n / 2 : Nat) : Int) else -1 - ((n / 2 : Nat) : Int)
theorem zt_zg (z : Int) : zt (zg z) = z := by
  unfold zt zg; split <;> split <;> omega
theorem zg_zt (n : Nat) : zg (zt n) = n := by
  unfold zt zg; split <;> split <;> omega
theorem zg_lt (z : Int) (h1 : -9223372036854775808 ≤ z) (h2 : z ≤ 9223372036854775807) : zg z < 18446744073709551616 := by
  unfold zg; split <;> omega
theorem zt_in (n : Nat) (h : n < 18446744073709551616) : -9223372036854775808 ≤ zt n ∧ zt n ≤ 9223372036854775807 := by
  unfold zt; split <;> omega
theorem xor_ones (a : Nat) (h : a < 18446744073709551616) : a ^^^ 18446744073709551615 = 18446744073709551615 - a := by
  have h1 : (BitVec.ofNat 64 a ^^^ BitVec.allOnes 64) = ~~~ (BitVec.ofNat 64 a) := BitVec.xor_allOnes
  have h2 := congrArg BitVec.toNat h1
  rw [BitVec.toNat_xor, BitVec.toNat_not] at h2
  simpa [Nat.mod_eq_of_lt (show a < 2 ^ 64 by omega)] using h2
theorem zig_eq (z : Int) (h1 : -9223372036854775808 ≤ z) (h2 : z ≤ 9223372036854775807) :
    bits BinOp.xor IntKind.u64 (IntKind.u64.wrap (wrap64 (z * 2))) (IntKind.u64.wrap (z / 9223372036854775808)) = (zg z : Int) := by
  rw [IntKind.wrap_u64, IntKind.wrap_u64]
  unfold wrap64 zg
  by_cases h : 0 ≤ z
  · rw [if_pos h]
    have e1 : ((z * 2 + 9223372036854775808) % 18446744073709551616 - 9223372036854775808) % 18446744073709551616 = (((2 * z).toNat : Nat) : Int) := by omega
    have e2 : z / 9223372036854775808 % 18446744073709551616 = ((0 : Nat) : Int) := by omega
    rw [e1, e2, u64_xor_nat _ _ (by omega) (by omega), Nat.xor_zero]
  · rw [if_neg h]
    have e1 : ((z * 2 + 9223372036854775808) % 18446744073709551616 - 9223372036854775808) % 18446744073709551616 = (((2 * z + 18446744073709551616).toNat : Nat) : Int) := by omega
    have e2 : z / 9223372036854775808 % 18446744073709551616 = ((18446744073709551615 : Nat) : Int) := by omega
    rw [e1, e2, u64_xor_nat _ _ (by omega) (by omega), xor_ones _ (by omega)]
    omega
theorem xor_i64 (a b : Nat) (x y : Int) (hx : (BitVec.ofInt 64 x).toNat = a) (hy : (BitVec.ofInt 64 y).toNat = b) : bits .xor .i64 x y = wrap64 ((a ^^^ b : Nat) : Int) := by
  show IntKind.i64.wrap ((BitVec.ofInt 64 x ^^^ BitVec.ofInt 64 y).toNat : Int) = _
  rw [BitVec.toNat_xor, hx, hy]
  exact IntWalk.i64_left _
theorem zag_eq (n : Nat) (h : n < 18446744073709551616) :
    bits BinOp.xor IntKind.i64 (wrap64 ((n : Int) / 2)) (wrap64 (-wrap64 (bits BinOp.and IntKind.u64 (n : Int) 1))) = zt n := by
  have h1 : bits BinOp.and IntKind.u64 (n : Int) 1 = ((n % 2 : Nat) : Int) := by
    have := u64_and_nat n 1 h (by omega)
    rw [nat_mask1] at this
    exact this
  have e1 : wrap64 ((n : Int) / 2) = ((n / 2 : Nat) : Int) := by unfold wrap64; omega
  have e3 := ofInt_u64 (n / 2) (by omega)
  rw [h1, e1]
  unfold zt
  by_cases hz : n % 2 = 0
  · rw [if_pos hz, hz]
    have e2 : wrap64 (-wrap64 ((0 : Nat) : Int)) = ((0 : Nat) : Int) := by unfold wrap64; omega
    rw [e2, xor_i64 (n / 2) 0 _ _ e3 (ofInt_u64 0 (by omega)), Nat.xor_zero]
    unfold wrap64; omega
  · rw [if_neg hz]
    have e4 : n % 2 = 1 := by omega
    rw [e4]
    have e2 : wrap64 (-wrap64 ((1 : Nat) : Int)) = -1 := by unfold wrap64; omega
    have e5 : (BitVec.ofInt 64 (-1)).toNat = 18446744073709551615 := by decide
    rw [e2, xor_i64 (n / 2) 18446744073709551615 _ _ e3 e5, xor_ones _ (by omega)]
    unfold wrap64; omega
theorem or8 (v x : Nat) (hv : v < 72057594037927936) (hx : x < 256) : bits BinOp.or IntKind.u64 (IntKind.u64.wrap ((v : Int) * 256)) (x : Int) = ((x + 256 * v : Nat) : Int) := by
  have e1 : IntKind.u64.wrap ((v : Int) * 256) = ((v * 256 : Nat) : Int) := by rw [IntKind.wrap_u64]; omega
  have e2 : v * 256 ||| x = v * 256 + x := nat_join 8 _ _ (by omega) (by omega)
  rw [e1, u64_or_nat _ _ (by omega) (by omega), e2]
  congr 1; omega
/-- One byte more of a number, as the document's loop has it. -/
theorem add_step {k m x : Nat} (hk : k ≤ 9) (h9 : k = 9 → x % 128 ≤ 1) (hm : m < 128 ^ k) :
    IntKind.u64.wrap ((m : Int) + IntKind.u64.wrap ((x : Int) % 128 * 2 ^ (7 * k))) = ((m + 128 ^ k * (x % 128) : Nat) : Int) := by
  have hp := piece_lt (y := x % 128) hk (by omega) h9
  rw [IntKind.wrap_u64, IntKind.wrap_u64, pow_int]
  have e0 : (x : Int) % 128 = ((x % 128 : Nat) : Int) := by omega
  rw [e0, ← Int.natCast_mul]
  have e2 : (((x % 128) * 128 ^ k : Nat) : Int) % 18446744073709551616 = (((x % 128) * 128 ^ k : Nat) : Int) := by
    rw [Int.emod_eq_of_lt (by omega) (by omega)]
  rw [e2, Nat.mul_comm (x % 128)]
  have hsum : m + 128 ^ k * (x % 128) < 18446744073709551616 := by
    by_cases h : k = 9
    · subst h
      have := h9 rfl
      have e : (128 : Nat) ^ 9 = 9223372036854775808 := by simp
      have h1 : 128 ^ 9 * (x % 128) ≤ 128 ^ 9 * 1 := Nat.mul_le_mul_left _ this
      rw [e] at hm h1 ⊢
      omega
    · have h1 := had_lt (c := x % 128) hm (by omega)
      have h2 := pow_le (k + 1) (by omega)
      omega
  rw [← Int.natCast_add, Int.emod_eq_of_lt (by omega) (by omega)]
end Go.Proofs.YtafkoeebnkmpcaaDoor.Sp
