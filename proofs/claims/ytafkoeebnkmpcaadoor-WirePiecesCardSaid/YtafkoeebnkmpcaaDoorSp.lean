/-
  THE PLAIN LAW OF NUMBERS AS BYTES (no program in sight): what PutVarint writes (vb), what GetVarint reads (gv), that the second turns the first back, whatever stands behind; that a part of it is none.
-/
import Derived.Lib.Hide
namespace Go.Proofs.YtafkoeebnkmpcaaDoor.Sp

def vbF : Nat → Nat → List UInt8
  | 0, n => [UInt8.ofNat n]
  | f + 1, n => if n < 128 then [UInt8.ofNat n] else UInt8.ofNat (n % 128 + 128) :: vbF f (n / 128)
/-- The bytes of a number: seven bits a byte, the least ones first, 128 added to all but the last one. -/
def vb (n : Nat) : List UInt8 := vbF 9 n

/-- What stands first, from byte i of a number on: the number, and how many bytes. -/
def gv : Nat → List UInt8 → Option (Nat × Nat)
  | _, [] => none
  | i, c :: t => if 9 < i ∨ (i = 9 ∧ 1 < c.toNat) then none else if c.toNat < 128 then some (c.toNat, 1) else
      match gv (i + 1) t with
      | none => none
      | some (m, k) => some (c.toNat - 128 + 128 * m, k + 1)

theorem toNat_lt (c : UInt8) : c.toNat < 256 := UInt8.toNat_lt c
theorem ofNat_toNat (n : Nat) (h : n < 256) : (UInt8.ofNat n).toNat = n := by
  simp; omega

/-- Two to the 64 less seven i. -/
def top : Nat → Nat
  | 0 => 18446744073709551616
  | i + 1 => top i / 128
theorem top_pos (i : Nat) (h : i ≤ 9) : 2 ≤ top i := by
  rcases i with _ | _ | _ | _ | _ | _ | _ | _ | _ | _ | i <;> first | omega | (simp [top])
theorem top_step (i : Nat) (h : i ≤ 8) : 128 * top (i + 1) = top i := by
  rcases i with _ | _ | _ | _ | _ | _ | _ | _ | _ | i <;> first | omega | (simp [top])
theorem top_big (i : Nat) (h : i ≤ 8) : 128 ≤ top i := by
  rcases i with _ | _ | _ | _ | _ | _ | _ | _ | _ | i <;> first | omega | (simp [top])
theorem top9 : top 9 = 2 := by simp [top]

theorem gv_cons (i : Nat) (c : UInt8) (t : List UInt8) : gv i (c :: t) = if 9 < i ∨ (i = 9 ∧ 1 < c.toNat) then none else if c.toNat < 128 then some (c.toNat, 1) else
      match gv (i + 1) t with
      | none => none
      | some (m, k) => some (c.toNat - 128 + 128 * m, k + 1) := rfl

theorem gv_some {i m k : Nat} {l : List UInt8} (h : gv i l = some (m, k)) : i ≤ 9 ∧ m < top i ∧ 1 ≤ k ∧ k ≤ l.length ∧ k + i ≤ 10 := by
  induction l generalizing i m k with
  | nil => simp [gv] at h
  | cons c t ih =>
    rw [gv_cons] at h
    by_cases h1 : 9 < i ∨ (i = 9 ∧ 1 < c.toNat)
    · rw [if_pos h1] at h; cases h
    · rw [if_neg h1] at h
      by_cases h2 : c.toNat < 128
      · rw [if_pos h2] at h
        injection h with h
        injection h with hm hk
        subst hm; subst hk
        refine ⟨by omega, ?_, by omega, by simp, by omega⟩
        by_cases h9 : i = 9
        · subst h9; rw [top9]; omega
        · have := top_big i (by omega); omega
      · rw [if_neg h2] at h
        rcases hg : gv (i + 1) t with _ | ⟨m', k'⟩
        · rw [hg] at h; cases h
        · rw [hg] at h
          injection h with h
          injection h with hm hk
          obtain ⟨a1, a2, a3, a4, a5⟩ := ih hg
          have ht := top_step i (by omega)
          have := toNat_lt c
          refine ⟨by omega, by omega, by omega, by simp; omega, by omega⟩

theorem gv_append {i m k : Nat} {l : List UInt8} (r : List UInt8) (h : gv i l = some (m, k)) : gv i (l ++ r) = some (m, k) := by
  induction l generalizing i m k with
  | nil => simp [gv] at h
  | cons c t ih =>
    rw [List.cons_append, gv_cons]
    rw [gv_cons] at h
    by_cases h1 : 9 < i ∨ (i = 9 ∧ 1 < c.toNat)
    · rw [if_pos h1] at h; cases h
    · rw [if_neg h1] at h ⊢
      by_cases h2 : c.toNat < 128
      · rw [if_pos h2] at h ⊢; exact h
      · rw [if_neg h2] at h ⊢
        rcases hg : gv (i + 1) t with _ | ⟨m', k'⟩
        · rw [hg] at h; cases h
        · rw [hg] at h
          rw [ih hg]; exact h

theorem vbF_ne (f n : Nat) : 1 ≤ (vbF f n).length := by
  cases f with
  | zero => simp [vbF]
  | succ f => rw [vbF]; split <;> simp
theorem vbF_len (f n : Nat) : (vbF f n).length ≤ f + 1 := by
  induction f generalizing n with
  | zero => simp [vbF]
  | succ f ih =>
    rw [vbF]
    split
    · simp
    · have := ih (n / 128); simp; omega
theorem vb_len (n : Nat) : 1 ≤ (vb n).length ∧ (vb n).length ≤ 10 := ⟨vbF_ne 9 n, vbF_len 9 n⟩

theorem gv_vbF (f i n : Nat) (r : List UInt8) (hi : i + f = 9) (hn : n < top i) : gv i (vbF f n ++ r) = some (n, (vbF f n).length) := by
  induction f generalizing i n with
  | zero =>
    obtain rfl : i = 9 := by omega
    rw [top9] at hn
    simp only [vbF, List.cons_append, List.nil_append, List.length_cons, List.length_nil]
    rw [gv_cons, ofNat_toNat n (by omega), if_neg (by omega), if_pos (by omega)]
  | succ f ih =>
    rw [vbF]
    by_cases h : n < 128
    · rw [if_pos h]
      simp only [List.cons_append, List.nil_append, List.length_cons, List.length_nil]
      rw [gv_cons, ofNat_toNat n (by omega), if_neg (by omega), if_pos h]
    · rw [if_neg h]
      have ht := top_step i (by omega)
      simp only [List.cons_append, List.length_cons]
      rw [gv_cons, ofNat_toNat _ (by omega), if_neg (by omega), if_neg (by omega), ih (i + 1) (n / 128) (by omega) (by omega)]
      simp only [Option.some.injEq, Prod.mk.injEq, and_true]
      omega
theorem gv_vb (n : Nat) (r : List UInt8) (hn : n < 18446744073709551616) : gv 0 (vb n ++ r) = some (n, (vb n).length) := gv_vbF 9 0 n r rfl hn

theorem gv_partF (f i n j : Nat) (hj : j < (vbF f n).length) : gv i ((vbF f n).take j) = none := by
  induction f generalizing i n j with
  | zero =>
    simp [vbF] at hj
    subst hj
    simp [gv]
  | succ f ih =>
    rw [vbF] at hj ⊢
    cases j with
    | zero => simp [gv]
    | succ j =>
      by_cases h : n < 128
      · rw [if_pos h] at hj; simp at hj
      · rw [if_neg h] at hj ⊢
        simp only [List.length_cons] at hj
        rw [List.take_succ_cons, gv_cons]
        by_cases h1 : 9 < i ∨ (i = 9 ∧ 1 < (UInt8.ofNat (n % 128 + 128)).toNat)
        · rw [if_pos h1]
        · rw [if_neg h1, ofNat_toNat _ (by omega), if_neg (by omega), ih (i + 1) (n / 128) j (by omega)]
/-- A part of a number's bytes is none. -/
theorem gv_part (n j : Nat) (hj : j < (vb n).length) : gv 0 ((vb n).take j) = none := gv_partF 9 0 n j hj

/-- What the loop of GetVarint knows behind k bytes: m of them is had; the rest is to come. -/
def shift (k m : Nat) : Option (Nat × Nat) → Option (Nat × Nat)
  | none => none
  | some (v, j) => some (m + 128 ^ k * v, k + j)
theorem shift_zero (x : Option (Nat × Nat)) : shift 0 0 x = x := by
  rcases x with _ | ⟨v, j⟩ <;> simp [shift]
theorem pow_le (k : Nat) (hk : k ≤ 9) : 128 ^ k ≤ 9223372036854775808 := by
  rcases k with _ | _ | _ | _ | _ | _ | _ | _ | _ | _ | k <;> first | omega | simp
theorem shift_stop {k m : Nat} {c : UInt8} {t : List UInt8} (h : 9 < k ∨ (k = 9 ∧ 1 < c.toNat)) : shift k m (gv k (c :: t)) = none := by
  rw [gv_cons, if_pos h]; rfl
theorem shift_done {k m : Nat} {c : UInt8} {t : List UInt8} (h1 : ¬ (9 < k ∨ (k = 9 ∧ 1 < c.toNat))) (h2 : c.toNat < 128) : shift k m (gv k (c :: t)) = some (m + 128 ^ k * c.toNat, k + 1) := by
  rw [gv_cons, if_neg h1, if_pos h2]; rfl
theorem shift_on {k m : Nat} {c : UInt8} {t : List UInt8} (h1 : ¬ (9 < k ∨ (k = 9 ∧ 1 < c.toNat))) (h2 : ¬ c.toNat < 128) : shift k m (gv k (c :: t)) = shift (k + 1) (m + 128 ^ k * (c.toNat - 128)) (gv (k + 1) t) := by
  rw [gv_cons, if_neg h1, if_neg h2]
  rcases gv (k + 1) t with _ | ⟨v, j⟩
  · rfl
  · simp only [shift, Option.some.injEq, Prod.mk.injEq]
    refine ⟨?_, by omega⟩
    rw [Nat.mul_add, Nat.pow_succ, Nat.mul_assoc, Nat.add_assoc]
/-- The sum of what is had and the next seven bits: what '|' gives. -/
theorem or_add {k m c : Nat} (hm : m < 128 ^ k) : m ||| (c * 128 ^ k) = m + 128 ^ k * c := by
  have e : (128 : Nat) ^ k = 2 ^ (7 * k) := by rw [Nat.pow_mul]
  rw [e] at hm ⊢
  rw [Nat.or_comm, Nat.mul_comm c, Nat.two_pow_add_eq_or_of_lt hm c |>.symm, Nat.add_comm]
theorem had_lt {k m c : Nat} (hm : m < 128 ^ k) (hc : c < 128) : m + 128 ^ k * c < 128 ^ (k + 1) := by
  rw [Nat.pow_succ]
  have h : 128 ^ k * c ≤ 128 ^ k * 127 := Nat.mul_le_mul_left _ (by omega)
  have h2 : 128 ^ k * 128 = 128 ^ k * 127 + 128 ^ k := by rw [← Nat.mul_succ]
  omega

end Go.Proofs.YtafkoeebnkmpcaaDoor.Sp
