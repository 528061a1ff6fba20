/-
  THE WALK of wire.Split: over any bytes it returns the pieces that 'Sp.sp' says, in memory of the call's own.
-/
import Derived.Test.YtafkoeebnkmpcaaDoorFour
namespace Go.Proofs.YtafkoeebnkmpcaaDoor
open Go.RowKit

theorem infoP : (Tryd.prog.info? 47).map (fun i => (i.zero, i.size, i.bytes)) = some (some (.agg #[.int .i64 0, .int .i64 0, .int .u64 0, .slice none 0 0, .int .i64 0]), 5, 56) := by kernel_rfl

/-- The cells of a piece. -/
def pc5 (x : Sp.Pc × Value) : List Value := [.int .i64 (x.1.num : Nat), .int .i64 (x.1.form : Nat), .int .u64 (x.1.val : Nat), x.2, .int .i64 (x.1.long : Nat)]
/-- A slice of the call's own holds these pieces, each one's bytes in memory of the call's own. -/
def Pcs (w : World) (base : Nat) (v : Value) (ps : List Sp.Pc) : Prop :=
  ∃ l : List (Sp.Pc × Value), l.map (·.1) = ps ∧ w.ownsRow base 47 5 v l.length (l.flatMap pc5) ∧ ∀ x ∈ l, w.ownsRow base 5 1 x.2 x.1.bytes.length (cb x.1.bytes)

theorem own_ne {w : World} {b1 b2 : Nat} {e1 e2 : TypeId} {s1 s2 : Nat} {v1 v2 : Value} {n1 n2 : Nat} {xs1 xs2 : List Value} (h1 : w.ownsRow b1 e1 s1 v1 n1 xs1) (h2 : w.ownsRow b2 e2 s2 v2 n2 xs2) (hne : e1 ≠ e2) : v1.ownBlock = none ∨ v1.ownBlock ≠ v2.ownBlock := by
  rcases h1.2 with ⟨rfl, _⟩ | ⟨g, cap, cur, rfl, _, hh, _⟩
  · exact .inl rfl
  · refine .inr fun he => ?_
    rcases h2.2 with ⟨rfl, _⟩ | ⟨g2, cap2, cur2, rfl, _, hh2, _⟩
    · simp [Value.ownBlock] at he
    · simp only [Value.ownBlock, Option.some.injEq] at he
      subst he
      rw [hh] at hh2
      injection hh2 with hh2
      injection hh2 with _ ht
      exact hne ht
theorem own_below {w w' : World} {base B : Nat} {e : TypeId} {s : Nat} {v : Value} {n : Nat} {xs : List Value} (h : w.ownsRow base e s v n xs) (hb : Below B w w') (hB : w.heap.size ≤ B) : w'.ownsRow base e s v n xs := by
  have hg : w.grownBy w' none := ⟨hb.os, hb.tape, hb.output, hb.size, fun i hi _ => hb.block i (by omega)⟩
  refine h.kept hg ?_
  rcases hv : v.ownBlock with _ | k
  · exact .inl rfl
  · exact .inr (by simp)
theorem Pcs.nil (w : World) (base : Nat) : Pcs w base (.slice none 0 0) [] := ⟨[], rfl, World.ownsRow_nil _ _ _ _, by simp⟩
theorem Pcs.len {w : World} {base : Nat} {v : Value} {ps : List Sp.Pc} (h : Pcs w base v ps) : ∃ A c, v = .slice A ps.length c ∧ ps.length ≤ c := by
  obtain ⟨l, rfl, h1, _⟩ := h
  obtain ⟨A, c, e, h2, _⟩ := own_form h1
  exact ⟨A, c, by rw [e, List.length_map], by rw [List.length_map]; exact h2⟩
theorem Pcs.below {w w' : World} {base B : Nat} {v : Value} {ps : List Sp.Pc} (h : Pcs w base v ps) (hb : Below B w w') (hB : w.heap.size ≤ B) : Pcs w' base v ps := by
  obtain ⟨l, h1, h2, h3⟩ := h
  exact ⟨l, h1, own_below h2 hb hB, fun x hx => own_below (h3 x hx) hb hB⟩
theorem Pcs.mono {w : World} {base base' : Nat} {v : Value} {ps : List Sp.Pc} (h : Pcs w base v ps) (hb : base' ≤ base) : Pcs w base' v ps := by
  obtain ⟨l, h1, h2, h3⟩ := h
  exact ⟨l, h1, own_mono h2 hb, fun x hx => own_mono (h3 x hx) hb⟩
/-- One piece more. -/
theorem Pcs.push {w w' : World} {base : Nat} {v v' : Value} {l : List (Sp.Pc × Value)} {p : Sp.Pc} {sv : Value} (h2 : w.ownsRow base 47 5 v l.length (l.flatMap pc5)) (h3 : ∀ x ∈ l, w.ownsRow base 5 1 x.2 x.1.bytes.length (cb x.1.bytes))
    (hp : w.ownsRow base 5 1 sv p.bytes.length (cb p.bytes)) (h4 : w'.ownsRow base 47 5 v' (l.length + 1) (l.flatMap pc5 ++ pc5 (p, sv))) (hg : w.grownBy w' v.ownBlock) : Pcs w' base v' (l.map (·.1) ++ [p]) := by
  refine ⟨l ++ [(p, sv)], by simp, ?_, fun x hx => ?_⟩
  · rw [List.length_append, List.flatMap_append]
    simpa using h4
  · rcases List.mem_append.1 hx with hx | hx
    · exact (h3 x hx).kept hg (own_ne (h3 x hx) h2 (by decide))
    · simp at hx
      subst hx
      exact hp.kept hg (own_ne hp h2 (by decide))

/-- What Split leaves. -/
def SplitPost (w : World) (x : Option (List Sp.Pc)) (e : Ending) (w' : World) : Prop :=
  Below w.heap.size w w' ∧
  match x with
  | none => e = .returned (.tuple #[.slice none 0 0, errV])
  | some ps => ∃ v, e = .returned (.tuple #[v, .nilIface]) ∧ Pcs w' w.heap.size v ps
theorem splitPost_none {w w' : World} {x : Option (List Sp.Pc)} (h : x = none) (hb : Below w.heap.size w w') : SplitPost w x (.returned (.tuple #[.slice none 0 0, errV])) w' := by
  subst h; exact ⟨hb, rfl⟩
theorem splitPost_some {w w' : World} {x : Option (List Sp.Pc)} {ps : List Sp.Pc} {v : Value} (h : x = some ps) (hb : Below w.heap.size w w') (ho : Pcs w' w.heap.size v ps) : SplitPost w x (.returned (.tuple #[v, .nilIface])) w' := by
  subst h; exact ⟨hb, v, rfl, ho⟩

def sliceLen : Value → Nat
  | .slice _ n _ => n
  | _ => 0

set_option maxRecDepth 100000 in
set_option maxHeartbeats 2000000 in
theorem split_any (B : Nat) (A : Option Addr) (n c : Nat) (bs : List UInt8) (w : World) (HR : Rd w B A n bs) (hB : B ≤ w.heap.size) (hn : n ≤ 1000000) (hnc : n ≤ c) :
    Calls Tryd.prog 23 #[.slice A n c] w (SplitPost w (Sp.sp bs)) := by
  obtain ⟨i0, hi, hz0, hz1, hz2⟩ := info_parts infoP
  go_enter Tryd.func23, Tryd.ntmps23
  go_wp2_with fail
  go_loopw [0, 4] (fun sb out wr => ∃ (A : Option Addr) (m c : Nat) (rest : List UInt8) (done : List Sp.Pc), sb = .slice A m c ∧ m ≤ c ∧ done.length + m ≤ n ∧ Rd wr B A m rest ∧ Pcs wr w.heap.size out done ∧ Below w.heap.size w wr ∧ Hid (Sp.sp bs = Sp.more done (Sp.sp rest))) (fun sb _ _ => sliceLen sb)
  case atStart => exact ⟨A, n, c, bs, [], rfl, hnc, by simp, HR, Pcs.nil _ _, Below.refl _ _, (Sp.more_nil _).symm⟩
  case round =>
    obtain ⟨A, m, c, rest, done, rfl, hmc, hdn, hrd, hpcs, hbel, HS⟩ := hrel
    have hsz := hbel.size
    rcases Nat.eq_zero_or_pos m with h0 | h0
    · subst h0
      have hrest : rest = [] := List.eq_nil_of_length_eq_zero hrd.len
      have HS2 : Hid (Sp.sp bs = some done) := by
        have := HS.out
        rw [hrest, Sp.sp_nil] at this
        exact this.trans (by simp [Sp.more])
      clear hrest hrd HS
      go_wp2_with fail
      go_ret2
      exact splitPost_some HS2.out hbel hpcs
    · obtain ⟨ab, ao, rfl, _, _⟩ := Rd.at_ hrd h0
      have hne : rest ≠ [] := by intro h; subst h; have := hrd.len; simp at this; omega
      have HNE := Lib.hid hne
      clear hne
      go_wp2_with fail
      refine (next_any B _ m c rest wr hrd (by omega) (by omega) hmc).mono ?_
      rcases hnx : Sp.nx rest with _ | p
      · have HS2 : Hid (Sp.sp bs = none) := by
          have := HS.out
          rw [Sp.sp_none HNE.out hnx] at this
          exact this
        rintro e w1 ⟨hb1, rfl⟩
        have HB1 := Lib.hid (hbel.trans (hb1.mono hsz))
        clear hnx hb1 hbel hpcs hrd HS
        simp only [noPiece, errV]
        go_wp2_with fail
        go_ret2
        exact splitPost_none HS2.out (HB1.out.alloc (by have := HB1.out.size; omega) _)
      · have HS2 : Hid (Sp.sp bs = Sp.more (done ++ [p]) (Sp.sp (rest.drop p.long))) := HS.out.trans (Sp.more_step done HNE.out hnx)
        obtain ⟨hp1, hp2, hp3, hp4, hp5, hp6, hp7⟩ := Sp.nx_some hnx
        rintro e w1 ⟨hb1, sv, rfl, hsv⟩
        obtain ⟨A1, c1, rfl, _, _⟩ := own_form hsv
        have hs1 := hb1.size
        have hrd1 : Rd w1 B (some ⟨ab, ao, none⟩) m rest := RdV.below hrd (hb1.mono (by omega))
        have hpcs1 := Pcs.below hpcs hb1 (Nat.le_refl _)
        have hbel1 := hbel.trans (hb1.mono hsz)
        have hsv1 := own_mono hsv hsz
        obtain ⟨l, hl1, hl2, hl3⟩ := hpcs1
        have HL3 := Lib.hid hl3
        have HL1 := Lib.hid hl1
        have hll : l.length = done.length := by rw [← hl1, List.length_map]
        have HLL := Lib.hid hll
        have HSV := Lib.hid hsv1
        have HLEN := Lib.hid hrd.len
        clear hl3 hl1 hll hsv hsv1 hpcs hbel hrd HS hnx hb1
        simp only [pieceV]
        go_wp2_with (first | (at_builtin; go_must (refine wpList_append_own_at _ rfl (.tmp 18) (.tmp 20) 54 rfl w.heap.size 47 i0 _ 5 56 Tryd.underlying54 hi hz0 hz1 hz2 rfl (by decide) _ l.length (l.flatMap pc5) rfl ((hl2.alloc _).alloc _) ⟨w1.heap.size + 1, 0, none⟩ 1 1 (pc5 (p, .slice A1 p.bytes.length c1)) rfl rfl ?_ ?_ ?_ ?_ ?_ ?_)))
        case refine_1 => exact cells_new _ (pc5 (p, .slice A1 p.bytes.length c1)) (by simp)
        case refine_2 => intro u hu; simp [pc5] at hu; rcases hu with rfl | rfl | rfl | rfl | rfl <;> rfl
        case refine_3 => unfold maxLen; have := HLL.out; omega
        case refine_4 => have := HLL.out; omega
        case refine_5 => simp; omega
        intro v1 w2 h2 h3 _ _
        have hlt2 := hl2.lt
        have hpl : Five w2 w1.heap.size (.int .i64 (p.num : Nat)) (.int .i64 (p.form : Nat)) (.int .u64 (p.val : Nat)) (.slice A1 p.bytes.length c1) (.int .i64 (p.long : Nat)) :=
          Blk.five (t := 47) (Blk.grown ((Blk.new w1 _ _).alloc _) h3 (fun e => by have := (hlt2 _ e.symm).2; omega))
        have hbel2 : Below w.heap.size w w2 := ((hbel1.alloc (by omega) _).alloc (by simp; omega) _).grown h3 (by simp; omega) (fun k hk => (hlt2 k hk).1)
        have HR2 : Hid (Rd w2 B (some ⟨ab, ao, none⟩) m rest) := RdV.grown (RdV.alloc (RdV.alloc hrd1 (by omega) _) (by simp; omega) _) h3 (by simp; omega) (fun k hk => by have := (hlt2 k hk).1; omega)
        have HP2 : Hid (Pcs w2 w.heap.size v1 (done ++ [p])) := by
          rw [← HL1.out]
          exact Pcs.push ((hl2.alloc _).alloc _) (fun x hx => ((HL3.out x hx).alloc _).alloc _) ((HSV.out.alloc _).alloc _) h2 h3
        obtain ⟨⟨p0, p1, p2, p3, p4⟩, q0, q1, q2, q3, q4⟩ := hpl
        have HBEL2 := Lib.hid hbel2
        clear h2 h3 hlt2 hbel2 hbel1 hrd1 hl2 HL3 HL1 HSV HR p0 p1 p2 p3 q0 q1 q2 q3 q4
        rw [HLEN.out] at hp2
        go_wp2_with fail
        all_goals
          go_roundw
          case rel =>
            refine ⟨_, m - p.long, c - p.long, rest.drop p.long, done ++ [p], rfl, by omega, by simp; omega, ?_, HP2.out, HBEL2.out, HS2.out⟩
            exact Rd.drop HR2.out (by omega) (fun b' o' e hk' => by injection e with e; injection e with e1 e2; subst e1; subst e2; rw [if_neg (by omega)])
          case measure => simp [sliceLen]; omega
end Go.Proofs.YtafkoeebnkmpcaaDoor
