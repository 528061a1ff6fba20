/-
  THE WALK of sealpressref.Next, what it leaves (RefPost), and its ways with no number ahead, a number that may not be, form 0, and the forms that are none.
-/
import Derived.Test.YtafkoeebnkmpcaaDoorRefGet
import Derived.Test.YtafkoeebnkmpcaaDoorPc
import Derived.Deep.RegionWith
import Derived.Lib.IndexBytes
namespace Go.Proofs.YtafkoeebnkmpcaaDoor
open Go.RowKit

def noRef : Value := .agg #[.int .i64 0, .int .i64 0, .int .u64 0, .string ⟨#[]⟩, .string ⟨#[]⟩]
/-- The document's piece: its number, its form, its number or bytes, all its own bytes. -/
def refV (p : Sp.Pc) (all : List UInt8) : Value := .agg #[.int .i64 p.num, .int .i64 p.form, .int .u64 p.val, .string ⟨p.bytes.toArray⟩, .string ⟨all.toArray⟩]
def RefPost (w : World) (bs : List UInt8) (x : Option Sp.Pc) (e : Ending) (w' : World) : Prop :=
  Below w.heap.size w w' ∧
  match x with
  | none => e = .returned (.tuple #[noRef, .int .i64 3])
  | some p => e = .returned (.tuple #[refV p (bs.take p.long), .int .i64 0])
theorem refPost_none {w w' : World} {bs : List UInt8} {x : Option Sp.Pc} (h : x = none) (hb : Below w.heap.size w w') : RefPost w bs x (.returned (.tuple #[noRef, .int .i64 3])) w' := by
  subst h; exact ⟨hb, rfl⟩
theorem refPost_some {w w' : World} {bs : List UInt8} {x : Option Sp.Pc} {p : Sp.Pc} (h : x = some p) (hb : Below w.heap.size w w') {v : Value} (hv : v = refV p (bs.take p.long)) : RefPost w bs x (.returned (.tuple #[v, .int .i64 0])) w' := by
  subst h; subst hv; exact ⟨hb, rfl⟩

theorem sb_mid (s : ByteArray) (a b : Nat) : sb (s.extract a b) = ((sb s).drop a).take (b - a) := Lib.extract_data s a b
theorem sb_extract (s : ByteArray) (k : Nat) : sb (s.extract k s.size) = (sb s).drop k := Lib.extract_to_end s k
theorem of_sb (s : ByteArray) : s = ⟨(sb s).toArray⟩ := by
  obtain ⟨⟨l⟩⟩ := s
  rfl
theorem mid_eq (s : ByteArray) (a b : Nat) : s.extract a b = ⟨(((sb s).drop a).take (b - a)).toArray⟩ := by
  rw [← sb_mid]; exact of_sb _
theorem head_eq (s : ByteArray) (n : Nat) : s.extract 0 n = ⟨((sb s).take n).toArray⟩ := by
  rw [mid_eq]; simp
set_option maxRecDepth 100000 in
set_option maxHeartbeats 2000000 in
theorem refnext_none (s : ByteArray) (w : World) (hs : s.size ≤ 1000000) (hg : Sp.gv 0 (sb s) = none) :
    Calls Tryd.prog 19 #[.string s] w (RefPost w (sb s) none) := by
  have HG := Lib.hid hg
  clear hg
  go_enter Tryd.func19, Tryd.ntmps19
  go_wp2_with fail
  refine (refget_any s _ (by omega)).mono ?_
  rintro e w1 ⟨rfl, rfl⟩
  rw [HG.out]
  simp only [refRes]
  go_wp2_with fail
  exact bodyPost_ret (v := .tuple #[noRef, .int .i64 3]) (by simp [results, Tryd.results19, go_sem, noRef]) rfl (refPost_none rfl ((Below.refl _ _).alloc (Nat.le_refl _) _))

set_option maxRecDepth 100000 in
set_option maxHeartbeats 4000000 in
theorem refnext_number (s : ByteArray) (w : World) (hs : s.size ≤ 1000000) (tag k : Nat) (hg : Sp.gv 0 (sb s) = some (tag, k)) (ht : tag / 8 < 1 ∨ 536870911 < tag / 8) :
    Calls Tryd.prog 19 #[.string s] w (RefPost w (sb s) none) := by
  have HG := Lib.hid hg
  have hwq : IntKind.u64.wrap ((tag : Int) / 8) = (tag : Int) / 8 := by
    have := (Sp.gv_some hg).2.1
    have htop : Sp.top 0 = 18446744073709551616 := rfl
    rw [IntKind.wrap_u64]; omega
  clear hg
  go_enter Tryd.func19, Tryd.ntmps19
  go_wp2_with fail
  refine (refget_any s _ (by omega)).mono ?_
  rintro e w1 ⟨rfl, rfl⟩
  rw [HG.out]
  simp only [refRes]
  rcases ht with ht | ht
  · have h1 : decide ((tag : Int) / 8 < 1) = true := by simp; omega
    clear ht
    go_wp2_with fail
    exact bodyPost_ret (v := .tuple #[noRef, .int .i64 3]) (by simp [results, Tryd.results19, go_sem, noRef]) rfl (refPost_none rfl ((Below.refl _ _).alloc (Nat.le_refl _) _))
  · have h1 : decide ((tag : Int) / 8 < 1) = false := by simp; omega
    have h2 : decide (536870911 < (tag : Int) / 8) = true := by simp; omega
    clear ht
    go_wp2_with fail
    exact bodyPost_ret (v := .tuple #[noRef, .int .i64 3]) (by simp [results, Tryd.results19, go_sem, noRef]) rfl (refPost_none rfl ((Below.refl _ _).alloc (Nat.le_refl _) _))

set_option maxRecDepth 100000 in
set_option maxHeartbeats 4000000 in
theorem refnext_varint (s : ByteArray) (w : World) (hs : s.size ≤ 1000000) (tag k : Nat) (hg : Sp.gv 0 (sb s) = some (tag, k)) (ht1 : ¬ tag / 8 < 1) (ht2 : ¬ 536870911 < tag / 8) (hf : tag % 8 = 0) :
    Calls Tryd.prog 19 #[.string s] w (RefPost w (sb s) (Sp.body (tag / 8) 0 k ((sb s).drop k))) := by
  have HG := Lib.hid hg
  have hgs := Sp.gv_some hg
  have hlen := sb_length s
  have htop : Sp.top 0 = 18446744073709551616 := rfl
  rw [htop] at hgs
  obtain ⟨_, hg1, hg2, hg3, hg4⟩ := hgs
  have hk10 : k ≤ 10 := by omega
  have hkn : k ≤ s.size := by omega
  have h1 : decide ((tag : Int) / 8 < 1) = false := by simp; omega
  have h2 : decide (536870911 < (tag : Int) / 8) = false := by simp; omega
  have hw : wrap64 ((tag : Int) / 8) = (tag : Int) / 8 := by unfold wrap64; omega
  have hm : (tag : Int) % 8 = 0 := by omega
  have hwq : IntKind.u64.wrap ((tag : Int) / 8) = (tag : Int) / 8 := by rw [IntKind.wrap_u64]; omega
  clear hg hg1 hg3 hg4 hlen htop ht1 ht2 hf
  go_enter Tryd.func19, Tryd.ntmps19
  go_wp2_with fail
  refine (refget_any s _ (by omega)).mono ?_
  rintro e w1 ⟨rfl, rfl⟩
  rw [HG.out]
  simp only [refRes]
  go_wp2_with fail
  have hex := sb_extract s k
  have hes : (s.extract k s.size).size ≤ 1000000 := by
    have h1 := sb_length (s.extract k s.size)
    rw [hex, List.length_drop, sb_length] at h1
    omega
  refine (refget_any (s.extract k s.size) _ (by omega)).mono ?_
  rintro e w1 ⟨rfl, rfl⟩
  rw [hex]
  rcases hgl : Sp.gv 0 ((sb s).drop k) with _ | ⟨v, j⟩
  · have HB := Lib.hid (show Sp.body (tag / 8) 0 k ((sb s).drop k) = none by simp [Sp.body, hgl])
    clear hgl hex
    simp only [refRes]
    go_wp2_with fail
    exact bodyPost_ret (v := .tuple #[noRef, .int .i64 3]) (by simp [results, Tryd.results19, go_sem, noRef]) rfl (refPost_none HB.out (((Below.refl _ _).alloc (Nat.le_refl _) _).alloc (by simp) _))
  · have HB := Lib.hid (show Sp.body (tag / 8) 0 k ((sb s).drop k) = some ⟨tag / 8, 0, v, [], k + j⟩ by simp [Sp.body, hgl])
    have hj := Sp.gv_some hgl
    rw [List.length_drop, sb_length] at hj
    obtain ⟨_, hj1, hj2, hj3, hj4⟩ := hj
    have hj10 : j ≤ 10 := by omega
    clear hgl hex hj1 hj4
    simp only [refRes]
    go_wp2_with fail
    exact bodyPost_ret (v := .tuple #[.agg #[.int .i64 ((tag : Int) / 8), .int .i64 0, .int .u64 v, .string ⟨#[]⟩, .string (s.extract 0 (k + j))], .int .i64 0]) (by simp [results, Tryd.results19, go_sem]) rfl (refPost_some HB.out (((Below.refl _ _).alloc (Nat.le_refl _) _).alloc (by simp) _) (by rw [head_eq]; rfl))

set_option maxRecDepth 100000 in
set_option maxHeartbeats 4000000 in
theorem refnext_other (s : ByteArray) (w : World) (hs : s.size ≤ 1000000) (tag k : Nat) (hg : Sp.gv 0 (sb s) = some (tag, k)) (ht1 : ¬ tag / 8 < 1) (ht2 : ¬ 536870911 < tag / 8) (hf : tag % 8 = 3 ∨ tag % 8 = 4 ∨ tag % 8 = 6 ∨ tag % 8 = 7) :
    Calls Tryd.prog 19 #[.string s] w (RefPost w (sb s) none) := by
  have HG := Lib.hid hg
  have hgs := Sp.gv_some hg
  have hlen := sb_length s
  have htop : Sp.top 0 = 18446744073709551616 := rfl
  rw [htop] at hgs
  obtain ⟨_, hg1, hg2, hg3, hg4⟩ := hgs
  have hk10 : k ≤ 10 := by omega
  have hkn : k ≤ s.size := by omega
  have h1 : decide ((tag : Int) / 8 < 1) = false := by simp; omega
  have h2 : decide (536870911 < (tag : Int) / 8) = false := by simp; omega
  have hw : wrap64 ((tag : Int) / 8) = (tag : Int) / 8 := by unfold wrap64; omega
  have hwq : IntKind.u64.wrap ((tag : Int) / 8) = (tag : Int) / 8 := by rw [IntKind.wrap_u64]; omega
  have hm : (tag : Int) % 8 = 3 ∨ (tag : Int) % 8 = 4 ∨ (tag : Int) % 8 = 6 ∨ (tag : Int) % 8 = 7 := by omega
  clear hg hg1 hg3 hg4 hlen htop ht1 ht2 hf
  rcases hm with hm | hm | hm | hm
  all_goals
    go_enter Tryd.func19, Tryd.ntmps19
    go_wp2_with fail
    refine (refget_any s _ (by omega)).mono ?_
    rintro e w1 ⟨rfl, rfl⟩
    rw [HG.out]
    simp only [refRes]
    go_wp2_with fail
    exact bodyPost_ret (v := .tuple #[noRef, .int .i64 3]) (by simp [results, Tryd.results19, go_sem, noRef]) rfl (refPost_none rfl (((Below.refl _ _).alloc (Nat.le_refl _) _).alloc (by simp) _))
end Go.Proofs.YtafkoeebnkmpcaaDoor
