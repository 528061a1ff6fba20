/-
  THE WALK of sealpressref.Split: over any text it returns the pieces that 'Sp.sp' says, in memory of the call's own.
-/
import Derived.Test.YtafkoeebnkmpcaaDoorRefFour
import Derived.Test.YtafkoeebnkmpcaaDoorJoins
namespace Go.Proofs.YtafkoeebnkmpcaaDoor
open Go.RowKit

theorem infoRef : (Tryd.prog.info? 43).map (fun i => (i.zero, i.size, i.bytes)) = some (some noRef, 5, 56) := by kernel_rfl

/-- The cells of a piece of the document's. -/
def rc5 (x : Sp.Pc × ByteArray) : List Value := [.int .i64 (x.1.num : Nat), .int .i64 (x.1.form : Nat), .int .u64 (x.1.val : Nat), .string ⟨x.1.bytes.toArray⟩, .string x.2]
def RPcs (w : World) (base : Nat) (v : Value) (ps : List Sp.Pc) : Prop :=
  ∃ l : List (Sp.Pc × ByteArray), l.map (·.1) = ps ∧ w.ownsRow base 43 5 v l.length (l.flatMap rc5) ∧ ∀ x ∈ l, x.2.size = x.1.long
theorem RPcs.nil (w : World) (base : Nat) : RPcs w base (.slice none 0 0) [] := ⟨[], rfl, World.ownsRow_nil _ _ _ _, by simp⟩
theorem RPcs.len {w : World} {base : Nat} {v : Value} {ps : List Sp.Pc} (h : RPcs w base v ps) : ∃ A c, v = .slice A ps.length c ∧ ps.length ≤ c := by
  obtain ⟨l, rfl, h1, _⟩ := h
  obtain ⟨A, c, e, h2, _⟩ := own_form h1
  exact ⟨A, c, by rw [e, List.length_map], by rw [List.length_map]; exact h2⟩
theorem RPcs.below {w w' : World} {base B : Nat} {v : Value} {ps : List Sp.Pc} (h : RPcs w base v ps) (hb : Below B w w') (hB : w.heap.size ≤ B) : RPcs w' base v ps := by
  obtain ⟨l, h1, h2, h3⟩ := h
  exact ⟨l, h1, own_below h2 hb hB, h3⟩
theorem RPcs.push {w' : World} {base : Nat} {v' : Value} {l : List (Sp.Pc × ByteArray)} {p : Sp.Pc} {al : ByteArray} (h3 : ∀ x ∈ l, x.2.size = x.1.long) (hp : al.size = p.long)
    (h4 : w'.ownsRow base 43 5 v' (l.length + 1) (l.flatMap rc5 ++ rc5 (p, al))) : RPcs w' base v' (l.map (·.1) ++ [p]) := by
  refine ⟨l ++ [(p, al)], by simp, ?_, fun x hx => ?_⟩
  · rw [List.length_append, List.flatMap_append]
    simpa using h4
  · rcases List.mem_append.1 hx with hx | hx
    · exact h3 x hx
    · simp at hx
      subst hx
      exact hp

def RSplitPost (w : World) (x : Option (List Sp.Pc)) (e : Ending) (w' : World) : Prop :=
  Below w.heap.size w w' ∧
  match x with
  | none => e = .returned (.tuple #[.slice none 0 0, .int .i64 3])
  | some ps => ∃ v, e = .returned (.tuple #[v, .int .i64 0]) ∧ RPcs w' w.heap.size v ps
theorem rsplitPost_none {w w' : World} {x : Option (List Sp.Pc)} (h : x = none) (hb : Below w.heap.size w w') : RSplitPost w x (.returned (.tuple #[.slice none 0 0, .int .i64 3])) w' := by
  subst h; exact ⟨hb, rfl⟩
theorem rsplitPost_some {w w' : World} {x : Option (List Sp.Pc)} {ps : List Sp.Pc} {v : Value} (h : x = some ps) (hb : Below w.heap.size w w') (ho : RPcs w' w.heap.size v ps) : RSplitPost w x (.returned (.tuple #[v, .int .i64 0])) w' := by
  subst h; exact ⟨hb, v, rfl, ho⟩

def strLen : Value → Nat
  | .string s => s.size
  | _ => 0

set_option maxRecDepth 100000 in
set_option maxHeartbeats 4000000 in
theorem refsplit_any (s : ByteArray) (w : World) (hn : s.size ≤ 1000000) :
    Calls Tryd.prog 22 #[.string s] w (RSplitPost w (Sp.sp (sb s))) := by
  obtain ⟨i0, hi, hz0, hz1, hz2⟩ := info_parts infoRef
  go_enter Tryd.func22, Tryd.ntmps22
  go_wp2_with fail
  go_loopw [0, 4] (fun sv out wr => ∃ (s' : ByteArray) (done : List Sp.Pc), sv = .string s' ∧ done.length + s'.size ≤ s.size ∧ RPcs wr w.heap.size out done ∧ Below w.heap.size w wr ∧ Hid (Sp.sp (sb s) = Sp.more done (Sp.sp (sb s')))) (fun sv _ _ => strLen sv)
  case atStart => exact ⟨s, [], rfl, by simp, RPcs.nil _ _, Below.refl _ _, (Sp.more_nil _).symm⟩
  case round =>
    obtain ⟨s', done, rfl, hdn, hpcs, hbel, HS⟩ := hrel
    have hsz := hbel.size
    rcases Nat.eq_zero_or_pos s'.size with h0 | h0
    · have hrest : sb s' = [] := List.eq_nil_of_length_eq_zero (by rw [sb_length]; exact h0)
      have HS2 : Hid (Sp.sp (sb s) = some done) := by
        have := HS.out
        rw [hrest, Sp.sp_nil] at this
        exact this.trans (by simp [Sp.more])
      obtain rfl : s' = ⟨#[]⟩ := by rw [of_sb s', hrest]
      clear hrest HS
      go_wp2_with fail
      go_ret2
      exact rsplitPost_some HS2.out hbel hpcs
    · have hne : sb s' ≠ [] := by intro h; have := sb_length s'; rw [h] at this; simp at this; omega
      have HNE := Lib.hid hne
      have hnb : s'.toList.isEmpty = false := by
        rw [ByteArray.toList_eq]
        cases hl : s'.data.toList with
        | nil => exact absurd hl hne
        | cons _ _ => rfl
      clear hne
      go_wp2_with fail
      refine (refnext_any s' wr (by omega)).mono ?_
      rcases hnx : Sp.nx (sb s') with _ | p
      · have HS2 : Hid (Sp.sp (sb s) = none) := by
          have := HS.out
          rw [Sp.sp_none HNE.out hnx] at this
          exact this
        rintro e w1 ⟨hb1, rfl⟩
        have HB1 := Lib.hid (hbel.trans (hb1.mono hsz))
        clear hnx hb1 hbel hpcs HS
        simp only [noRef]
        go_wp2_with fail
        go_ret2
        exact rsplitPost_none HS2.out (HB1.out.alloc (by have := HB1.out.size; omega) _)
      · have HS2 : Hid (Sp.sp (sb s) = Sp.more (done ++ [p]) (Sp.sp ((sb s').drop p.long))) := HS.out.trans (Sp.more_step done HNE.out hnx)
        obtain ⟨hp1, hp2, hp3, hp4, hp5, hp6, hp7⟩ := Sp.nx_some hnx
        rintro e w1 ⟨hb1, rfl⟩
        obtain ⟨al, hal⟩ : ∃ al : ByteArray, (⟨((sb s').take p.long).toArray⟩ : ByteArray) = al := ⟨_, rfl⟩
        rw [sb_length] at hp2
        have hals : al.size = p.long := by
          rw [← hal]
          show ((sb s').take p.long).length = p.long
          rw [List.length_take, sb_length]; omega
        have hs1 := hb1.size
        have hpcs1 := RPcs.below hpcs hb1 (Nat.le_refl _)
        have hbel1 := hbel.trans (hb1.mono hsz)
        obtain ⟨l, hl1, hl2, hl3⟩ := hpcs1
        have HL3 := Lib.hid hl3
        have HL1 := Lib.hid hl1
        have hll : l.length = done.length := by rw [← hl1, List.length_map]
        have HLL := Lib.hid hll
        have HALS := Lib.hid hals
        clear hl3 hl1 hll hpcs hbel HS hnx hb1
        simp only [refV]
        rw [hal]
        clear hal
        go_wp2_with (first | (at_builtin; go_must (refine wpList_append_own_at _ rfl (.tmp 17) (.tmp 19) 51 rfl w.heap.size 43 i0 _ 5 56 Tryd.underlying51 hi hz0 hz1 hz2 rfl (by decide) _ l.length (l.flatMap rc5) rfl ((hl2.alloc _).alloc _) ⟨w1.heap.size + 1, 0, none⟩ 1 1 (rc5 (p, al)) rfl rfl ?_ ?_ ?_ ?_ ?_ ?_)))
        case refine_1 => exact cells_new _ (rc5 (p, al)) (by simp)
        case refine_2 => intro u hu; simp [rc5] at hu; rcases hu with rfl | rfl | rfl | rfl | rfl <;> rfl
        case refine_3 => unfold maxLen; have := HLL.out; omega
        case refine_4 => have := HLL.out; omega
        case refine_5 => simp; omega
        intro v1 w2 h2 h3 _ _
        have hlt2 := hl2.lt
        have hpl : Five w2 w1.heap.size (.int .i64 (p.num : Nat)) (.int .i64 (p.form : Nat)) (.int .u64 (p.val : Nat)) (.string ⟨p.bytes.toArray⟩) (.string al) :=
          Blk.five (t := 43) (Blk.grown ((Blk.new w1 _ _).alloc _) h3 (fun e => by have := (hlt2 _ e.symm).2; omega))
        have hbel2 : Below w.heap.size w w2 := ((hbel1.alloc (by omega) _).alloc (by simp; omega) _).grown h3 (by simp; omega) (fun k hk => (hlt2 k hk).1)
        have HP2 : Hid (RPcs w2 w.heap.size v1 (done ++ [p])) := by
          rw [← HL1.out]
          exact RPcs.push HL3.out HALS.out h2
        obtain ⟨⟨p0, p1, p2, p3, p4⟩, q0, q1, q2, q3, q4⟩ := hpl
        have HBEL2 := Lib.hid hbel2
        have hle : al.size ≤ s'.size := by omega
        clear h2 h3 hlt2 hbel2 hbel1 hl2 HL3 HL1 p0 p1 p2 p3 q0 q1 q2 q3 q4
        go_wp2_with fail
        all_goals
          go_roundw
          case rel =>
            have hex := sb_extract s' al.size
            have hxl := sb_length (s'.extract al.size s'.size)
            rw [hex, List.length_drop, sb_length] at hxl
            refine ⟨_, done ++ [p], rfl, by simp; omega, HP2.out, HBEL2.out, ?_⟩
            have := HS2.out
            rw [← hals, ← hex] at this
            exact hals ▸ this
          case measure =>
            have hex := sb_extract s' al.size
            have hxl := sb_length (s'.extract al.size s'.size)
            rw [hex, List.length_drop, sb_length] at hxl
            simp [strLen]; omega
end Go.Proofs.YtafkoeebnkmpcaaDoor
