/-
  THE PLAIN LAW OF PIECES (no program in sight): the first piece of bytes (nx), all pieces (sp); that the pieces of bytes, one behind the other, are both's.
-/
import Derived.Test.YtafkoeebnkmpcaaDoorSp
namespace Go.Proofs.YtafkoeebnkmpcaaDoor.Sp

/-- A piece: its number, its form, its number or its bytes, how long it is. -/
structure Pc where
  num : Nat
  form : Nat
  val : Nat
  bytes : List UInt8
  long : Nat

/-- The number of bytes, the least one first. -/
def le : List UInt8 → Nat
  | [] => 0
  | c :: t => c.toNat + 256 * le t

/-- What stands behind a tag, by its form. -/
def body (num form k : Nat) (left : List UInt8) : Option Pc :=
  if form = 0 then
    match gv 0 left with
    | none => none
    | some (v, j) => some ⟨num, 0, v, [], k + j⟩
  else if form = 1 then (if left.length < 8 then none else some ⟨num, 1, le (left.take 8), [], k + 8⟩)
  else if form = 5 then (if left.length < 4 then none else some ⟨num, 5, le (left.take 4), [], k + 4⟩)
  else if form = 2 then
    match gv 0 left with
    | none => none
    | some (m, j) => if left.length - j < m then none else some ⟨num, 2, 0, (left.drop j).take m, k + j + m⟩
  else none

/-- The first piece. -/
def nx (l : List UInt8) : Option Pc :=
  match gv 0 l with
  | none => none
  | some (tag, k) => if tag / 8 < 1 ∨ 536870911 < tag / 8 then none else body (tag / 8) (tag % 8) k (l.drop k)

theorem le_append (a b : List UInt8) : le (a ++ b) = le a + 256 ^ a.length * le b := by
  induction a with
  | nil => simp [le]
  | cons c t ih =>
    rw [List.cons_append, le, le, ih, List.length_cons, Nat.pow_succ, Nat.mul_add, Nat.mul_comm (256 ^ t.length) 256, Nat.mul_assoc]
    omega
theorem le_lt (a : List UInt8) : le a < 256 ^ a.length := by
  induction a with
  | nil => simp [le]
  | cons c t ih =>
    rw [le, List.length_cons, Nat.pow_succ]
    have := toNat_lt c
    omega

theorem le_step {l : List UInt8} {m q : Nat} {x : UInt8} (hq : q < m) (hx : l[q]? = some x) : le ((l.take m).drop q) = x.toNat + 256 * le ((l.take m).drop (q + 1)) := by
  have hl : q < l.length := by
    rcases Nat.lt_or_ge q l.length with h | h
    · exact h
    · rw [List.getElem?_eq_none h] at hx; cases hx
  have hlt : q < (l.take m).length := by rw [List.length_take]; omega
  have hget : (l.take m)[q] = x := by
    rw [List.getElem?_eq_getElem hl] at hx
    injection hx with hx
    rw [List.getElem_take, hx]
  rw [List.drop_eq_getElem_cons hlt, le, hget]
theorem le_small {l : List UInt8} {m q : Nat} (hq : 1 ≤ q) (hm : m ≤ 8) : le ((l.take m).drop q) < 72057594037927936 := by
  have h := le_lt ((l.take m).drop q)
  have h1 : ((l.take m).drop q).length ≤ 7 := by rw [List.length_drop, List.length_take]; omega
  have h2 : 256 ^ ((l.take m).drop q).length ≤ 256 ^ 7 := Nat.pow_le_pow_right (by omega) h1
  have e : (256 : Nat) ^ 7 = 72057594037927936 := by simp
  omega
theorem body_two_none {num k v j : Nat} {left : List UInt8} (hg : gv 0 left = some (v, j)) (h : left.length - j < v) : body num 2 k left = none := by simp [body, hg, h]
theorem body_two {num k v j : Nat} {left : List UInt8} (hg : gv 0 left = some (v, j)) (h : ¬ left.length - j < v) : body num 2 k left = some ⟨num, 2, 0, (left.drop j).take v, k + j + v⟩ := by simp [body, hg, h]
theorem body_eight_none {num k : Nat} {left : List UInt8} (h : left.length < 8) : body num 1 k left = none := by simp [body, h]
theorem body_eight {num k : Nat} {left : List UInt8} (h : ¬ left.length < 8) : body num 1 k left = some ⟨num, 1, le (left.take 8), [], k + 8⟩ := by simp [body, h]
theorem body_four_none {num k : Nat} {left : List UInt8} (h : left.length < 4) : body num 5 k left = none := by simp [body, h]
theorem body_four {num k : Nat} {left : List UInt8} (h : ¬ left.length < 4) : body num 5 k left = some ⟨num, 5, le (left.take 4), [], k + 4⟩ := by simp [body, h]
theorem body_some {num form k : Nat} {left : List UInt8} {p : Pc} (h : body num form k left = some p) :
    p.num = num ∧ p.form = form ∧ k ≤ p.long ∧ p.long ≤ k + left.length ∧ p.val < 18446744073709551616 ∧ p.bytes.length ≤ left.length := by
  unfold body at h
  by_cases h0 : form = 0
  · rw [if_pos h0] at h
    rcases hg : gv 0 left with _ | ⟨v, j⟩
    · rw [hg] at h; cases h
    · rw [hg] at h
      injection h with h
      subst h
      have := gv_some hg
      have t0 : top 0 = 18446744073709551616 := rfl
      refine ⟨rfl, by simp [h0], by simp, by simp; omega, by simp; omega, by simp⟩
  · rw [if_neg h0] at h
    by_cases h1 : form = 1
    · rw [if_pos h1] at h
      by_cases hl : left.length < 8
      · rw [if_pos hl] at h; cases h
      · rw [if_neg hl] at h
        injection h with h
        subst h
        have h8 := le_lt (left.take 8)
        have e : (left.take 8).length = 8 := by simp; omega
        rw [e] at h8
        have e2 : (256 : Nat) ^ 8 = 18446744073709551616 := by simp
        refine ⟨rfl, by simp [h1], by simp, by simp; omega, by simp; omega, by simp⟩
    · rw [if_neg h1] at h
      by_cases h5 : form = 5
      · rw [if_pos h5] at h
        by_cases hl : left.length < 4
        · rw [if_pos hl] at h; cases h
        · rw [if_neg hl] at h
          injection h with h
          subst h
          have h8 := le_lt (left.take 4)
          have e : (left.take 4).length = 4 := by simp; omega
          rw [e] at h8
          have e2 : (256 : Nat) ^ 4 = 4294967296 := by simp
          refine ⟨rfl, by simp [h5], by simp, by simp; omega, by simp; omega, by simp⟩
      · rw [if_neg h5] at h
        by_cases h2 : form = 2
        · rw [if_pos h2] at h
          rcases hg : gv 0 left with _ | ⟨m, j⟩
          · rw [hg] at h; cases h
          · rw [hg] at h
            have := gv_some hg
            simp only at h
            by_cases hl : left.length - j < m
            · rw [if_pos hl] at h; cases h
            · rw [if_neg hl] at h
              injection h with h
              subst h
              refine ⟨rfl, by simp [h2], by simp; omega, by simp; omega, by simp, by simp; omega⟩
        · rw [if_neg h2] at h; cases h

theorem nx_some {l : List UInt8} {p : Pc} (h : nx l = some p) : 1 ≤ p.long ∧ p.long ≤ l.length ∧ 1 ≤ p.num ∧ p.num ≤ 536870911 ∧ p.form < 8 ∧ p.val < 18446744073709551616 ∧ p.bytes.length ≤ l.length := by
  unfold nx at h
  rcases hg : gv 0 l with _ | ⟨tag, k⟩
  · rw [hg] at h; cases h
  · rw [hg] at h
    simp only at h
    have hgs := gv_some hg
    by_cases ht : tag / 8 < 1 ∨ 536870911 < tag / 8
    · rw [if_pos ht] at h; cases h
    · rw [if_neg ht] at h
      obtain ⟨a1, a2, a3, a4, a5, a6⟩ := body_some h
      rw [List.length_drop] at a4 a6
      refine ⟨by omega, by omega, by omega, by omega, by omega, a5, by omega⟩

theorem body_append {num form k : Nat} {left : List UInt8} {p : Pc} (r : List UInt8) (h : body num form k left = some p) : body num form k (left ++ r) = some p := by
  unfold body at h ⊢
  by_cases h0 : form = 0
  · rw [if_pos h0] at h ⊢
    rcases hg : gv 0 left with _ | ⟨v, j⟩
    · rw [hg] at h; cases h
    · rw [hg] at h
      rw [gv_append r hg]; exact h
  · rw [if_neg h0] at h ⊢
    by_cases h1 : form = 1
    · rw [if_pos h1] at h ⊢
      by_cases hl : left.length < 8
      · rw [if_pos hl] at h; cases h
      · rw [if_neg hl] at h
        rw [if_neg (by rw [List.length_append]; omega), List.take_append_of_le_length (by omega)]
        exact h
    · rw [if_neg h1] at h ⊢
      by_cases h5 : form = 5
      · rw [if_pos h5] at h ⊢
        by_cases hl : left.length < 4
        · rw [if_pos hl] at h; cases h
        · rw [if_neg hl] at h
          rw [if_neg (by rw [List.length_append]; omega), List.take_append_of_le_length (by omega)]
          exact h
      · rw [if_neg h5] at h ⊢
        by_cases h2 : form = 2
        · rw [if_pos h2] at h ⊢
          rcases hg : gv 0 left with _ | ⟨m, j⟩
          · rw [hg] at h; cases h
          · rw [hg] at h
            rw [gv_append r hg]
            have := gv_some hg
            simp only at h ⊢
            by_cases hl : left.length - j < m
            · rw [if_pos hl] at h; cases h
            · rw [if_neg hl] at h
              rw [if_neg (by rw [List.length_append]; omega), List.drop_append_of_le_length (by omega), List.take_append_of_le_length (by rw [List.length_drop]; omega)]
              exact h
        · rw [if_neg h2] at h; cases h

/-- What stands behind a piece is nothing to it. -/
theorem nx_append {l : List UInt8} {p : Pc} (r : List UInt8) (h : nx l = some p) : nx (l ++ r) = some p := by
  unfold nx at h ⊢
  rcases hg : gv 0 l with _ | ⟨tag, k⟩
  · rw [hg] at h; cases h
  · rw [hg] at h
    rw [gv_append r hg]
    simp only at h ⊢
    have hgs := gv_some hg
    by_cases ht : tag / 8 < 1 ∨ 536870911 < tag / 8
    · rw [if_pos ht] at h; cases h
    · rw [if_neg ht] at h ⊢
      rw [List.drop_append_of_le_length (by omega)]
      exact body_append r h

def spF : Nat → List UInt8 → Option (List Pc)
  | _, [] => some []
  | 0, _ :: _ => none
  | f + 1, c :: t =>
    match nx (c :: t) with
    | none => none
    | some p =>
      match spF f ((c :: t).drop p.long) with
      | none => none
      | some l => some (p :: l)
/-- All pieces. -/
def sp (l : List UInt8) : Option (List Pc) := spF l.length l

theorem spF_step (f : Nat) {l : List UInt8} (h : l ≠ []) : spF (f + 1) l = match nx l with
    | none => none
    | some p =>
      match spF f (l.drop p.long) with
      | none => none
      | some q => some (p :: q) := by
  cases l with
  | nil => exact absurd rfl h
  | cons c t => rfl
theorem spF_nil (f : Nat) : spF f [] = some [] := by cases f <;> rfl
theorem spF_fuel (f g : Nat) (l : List UInt8) (hf : l.length ≤ f) (hg : l.length ≤ g) : spF f l = spF g l := by
  induction f generalizing g l with
  | zero =>
    have : l = [] := List.eq_nil_of_length_eq_zero (by omega)
    subst this
    rw [spF_nil, spF_nil]
  | succ f ih =>
    cases l with
    | nil => rw [spF_nil, spF_nil]
    | cons c t =>
      obtain ⟨g, rfl⟩ : ∃ g', g = g' + 1 := ⟨g - 1, by simp at hg; omega⟩
      rw [spF_step f (by simp), spF_step g (by simp)]
      rcases hn : nx (c :: t) with _ | p
      · rfl
      · have := nx_some hn
        simp only
        rw [ih g _ (by rw [List.length_drop]; omega) (by rw [List.length_drop]; omega)]
theorem sp_nil : sp [] = some [] := rfl
theorem sp_none {l : List UInt8} (h : l ≠ []) (hn : nx l = none) : sp l = none := by
  obtain ⟨n, hl⟩ : ∃ n, l.length = n + 1 := ⟨l.length - 1, by have := List.length_pos_iff.2 h; omega⟩
  unfold sp
  rw [hl, spF_step n h, hn]
theorem sp_some {l : List UInt8} {p : Pc} (h : l ≠ []) (hn : nx l = some p) : sp l = match sp (l.drop p.long) with
    | none => none
    | some q => some (p :: q) := by
  obtain ⟨n, hl⟩ : ∃ n, l.length = n + 1 := ⟨l.length - 1, by have := List.length_pos_iff.2 h; omega⟩
  have h1 := nx_some hn
  unfold sp
  rw [hl, spF_step n h, hn]
  simp only
  rw [spF_fuel n (l.drop p.long).length _ (by rw [List.length_drop]; omega) (Nat.le_refl _)]

/-- What Split knows when it has had the pieces done: l is to come. -/
def more (done : List Pc) : Option (List Pc) → Option (List Pc)
  | none => none
  | some q => some (done ++ q)
theorem more_nil (x : Option (List Pc)) : more [] x = x := by cases x <;> rfl
theorem more_step {l : List UInt8} {p : Pc} (done : List Pc) (h : l ≠ []) (hn : nx l = some p) : more done (sp l) = more (done ++ [p]) (sp (l.drop p.long)) := by
  rw [sp_some h hn]
  rcases sp (l.drop p.long) with _ | q
  · rfl
  · simp [more]

theorem sp_len {n : Nat} : ∀ {l : List UInt8} {q : List Pc}, l.length ≤ n → sp l = some q → (q.map (·.long)).sum = l.length ∧ q.length ≤ l.length ∧ ∀ p ∈ q, p.num ≤ 536870911 ∧ p.form < 8 ∧ p.val < 18446744073709551616 ∧ p.bytes.length ≤ l.length ∧ p.long ≤ l.length := by
  induction n with
  | zero =>
    intro l q hl h
    have : l = [] := List.eq_nil_of_length_eq_zero (by omega)
    subst this
    rw [sp_nil] at h
    injection h with h
    subst h
    simp
  | succ n ih =>
    intro l q hl h
    by_cases hnil : l = []
    · subst hnil
      rw [sp_nil] at h
      injection h with h
      subst h
      simp
    · rcases hn : nx l with _ | p
      · rw [sp_none hnil hn] at h; cases h
      · rw [sp_some hnil hn] at h
        have h1 := nx_some hn
        rcases hs : sp (l.drop p.long) with _ | q'
        · rw [hs] at h; cases h
        · rw [hs] at h
          injection h with h
          subst h
          obtain ⟨a1, a2, a3⟩ := ih (l := l.drop p.long) (by rw [List.length_drop]; omega) hs
          rw [List.length_drop] at a1 a2 a3
          refine ⟨by simp [a1]; omega, by simp; omega, fun x hx => ?_⟩
          rcases List.mem_cons.1 hx with rfl | hx
          · exact ⟨h1.2.2.2.1, h1.2.2.2.2.1, h1.2.2.2.2.2.1, h1.2.2.2.2.2.2, h1.2.1⟩
          · obtain ⟨b1, b2, b3, b4, b5⟩ := a3 x hx
            exact ⟨b1, b2, b3, by omega, by omega⟩

/-- The pieces of bytes, one behind the other, are both's. -/
theorem sp_append {n : Nat} : ∀ {a : List UInt8} (b : List UInt8) {x y : List Pc}, a.length ≤ n → sp a = some x → sp b = some y → sp (a ++ b) = some (x ++ y) := by
  induction n with
  | zero =>
    intro a b x y hl h1 h2
    have : a = [] := List.eq_nil_of_length_eq_zero (by omega)
    subst this
    rw [sp_nil] at h1
    injection h1 with h1
    subst h1
    exact h2
  | succ n ih =>
    intro a b x y hl h1 h2
    by_cases hnil : a = []
    · subst hnil
      rw [sp_nil] at h1
      injection h1 with h1
      subst h1
      exact h2
    · rcases hn : nx a with _ | p
      · rw [sp_none hnil hn] at h1; cases h1
      · rw [sp_some hnil hn] at h1
        have h3 := nx_some hn
        rcases hs : sp (a.drop p.long) with _ | q'
        · rw [hs] at h1; cases h1
        · rw [hs] at h1
          injection h1 with h1
          subst h1
          have h4 := ih (a := a.drop p.long) b (by rw [List.length_drop]; omega) hs h2
          rw [sp_some (by simp [hnil]) (nx_append b hn), List.drop_append_of_le_length h3.2.1, h4]
          rfl
end Go.Proofs.YtafkoeebnkmpcaaDoor.Sp
