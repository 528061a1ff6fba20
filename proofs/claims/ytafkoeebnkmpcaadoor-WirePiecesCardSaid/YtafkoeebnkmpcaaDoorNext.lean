/-
  THE WALK of wire.Next, what it leaves (NextPost), and its ways with no number ahead, a number that may not be, and form 0.
-/
import Derived.Test.YtafkoeebnkmpcaaDoorGet
import Derived.Test.YtafkoeebnkmpcaaDoorPc
import Derived.Test.YtafkoeebnkmpcaaDoorPut
namespace Go.Proofs.YtafkoeebnkmpcaaDoor
open Go.RowKit

def errV : Value := .iface 24 (.int .i64 3)
def noPiece : Value := .agg #[.int .i64 0, .int .i64 0, .int .u64 0, .slice none 0 0, .int .i64 0]
def pieceV (p : Sp.Pc) (sv : Value) : Value := .agg #[.int .i64 p.num, .int .i64 p.form, .int .u64 p.val, sv, .int .i64 p.long]

/-- What Next leaves. -/
def NextPost (w : World) (x : Option Sp.Pc) (e : Ending) (w' : World) : Prop :=
  Below w.heap.size w w' ∧
  match x with
  | none => e = .returned (.tuple #[noPiece, errV])
  | some p => ∃ sv, e = .returned (.tuple #[pieceV p sv, .nilIface]) ∧ w'.ownsRow w.heap.size 5 1 sv p.bytes.length (cb p.bytes)

theorem and7 (n : Nat) (h : n < 18446744073709551616) : bits BinOp.and IntKind.u64 (n : Int) 7 = ((n % 8 : Nat) : Int) := by
  have := u64_and_nat n 7 h (by omega)
  rw [nat_mask3] at this
  exact this

theorem nextPost_none {w w' : World} {x : Option Sp.Pc} (h : x = none) (hb : Below w.heap.size w w') : NextPost w x (.returned (.tuple #[noPiece, errV])) w' := by
  subst h; exact ⟨hb, rfl⟩
theorem nextPost_some {w w' : World} {x : Option Sp.Pc} {p : Sp.Pc} {sv : Value} (h : x = some p) (hb : Below w.heap.size w w') {m : Nat} (hm : p.bytes.length = m) (ho : w'.ownsRow w.heap.size 5 1 sv m (cb p.bytes)) : NextPost w x (.returned (.tuple #[pieceV p sv, .nilIface])) w' := by
  subst h; subst hm; exact ⟨hb, sv, rfl, ho⟩
def blank : Array Value := #[.int .i64 0, .int .i64 0, .int .u64 0, .slice none 0 0, .int .i64 0]

set_option maxRecDepth 100000 in
set_option maxHeartbeats 2000000 in
theorem next_none (B : Nat) (A : Option Addr) (n c : Nat) (bs : List UInt8) (w : World) (h : Rd w B A n bs) (hB : B ≤ w.heap.size) (hn : n ≤ 1000000000) (hg : Sp.gv 0 bs = none) :
    Calls Tryd.prog 20 #[.slice A n c] w (NextPost w none) := by
  have HG := Lib.hid hg
  clear hg
  go_enter Tryd.func20, Tryd.ntmps20
  go_wp2_with fail
  refine (get_any B A n c bs _ (RdV.alloc h hB _) hn).mono ?_
  rintro e w1 ⟨rfl, rfl⟩
  rw [HG.out]
  simp only [gvRes]
  go_wp2_with fail
  exact bodyPost_ret (v := .tuple #[noPiece, errV]) (by simp [results, Tryd.results20, go_sem, noPiece, errV]) rfl ⟨(Below.refl _ _).alloc (Nat.le_refl _) _, rfl⟩

set_option maxRecDepth 100000 in
set_option maxHeartbeats 4000000 in
theorem next_number (B : Nat) (A : Option Addr) (n c : Nat) (bs : List UInt8) (w : World) (h : Rd w B A n bs) (hB : B ≤ w.heap.size) (hn : n ≤ 1000000000) (tag k : Nat) (hg : Sp.gv 0 bs = some (tag, k)) (ht : tag / 8 < 1 ∨ 536870911 < tag / 8) :
    Calls Tryd.prog 20 #[.slice A n c] w (NextPost w none) := by
  have HG := Lib.hid hg
  clear hg
  go_enter Tryd.func20, Tryd.ntmps20
  go_wp2_with fail
  refine (get_any B A n c bs _ (RdV.alloc h hB _) hn).mono ?_
  rintro e w1 ⟨rfl, rfl⟩
  rw [HG.out]
  simp only [gvRes]
  rcases ht with ht | ht
  · have h1 : decide ((tag : Int) / 8 < 1) = true := by simp; omega
    clear ht
    go_wp2_with fail
    exact bodyPost_ret (v := .tuple #[noPiece, errV]) (by simp [results, Tryd.results20, go_sem, noPiece, errV]) rfl ⟨(Below.refl _ _).alloc (Nat.le_refl _) _, rfl⟩
  · have h1 : decide ((tag : Int) / 8 < 1) = false := by simp; omega
    have h2 : decide (536870911 < (tag : Int) / 8) = true := by simp; omega
    clear ht
    go_wp2_with fail
    exact bodyPost_ret (v := .tuple #[noPiece, errV]) (by simp [results, Tryd.results20, go_sem, noPiece, errV]) rfl ⟨(Below.refl _ _).alloc (Nat.le_refl _) _, rfl⟩

set_option maxRecDepth 100000 in
set_option maxHeartbeats 4000000 in
theorem next_varint (B b off : Nat) (n c : Nat) (bs : List UInt8) (w : World) (HR : Rd w B (some ⟨b, off, none⟩) n bs) (hB : B ≤ w.heap.size) (hn : n ≤ 1000000000) (hnc : n ≤ c) (tag k : Nat) (hg : Sp.gv 0 bs = some (tag, k)) (ht1 : ¬ tag / 8 < 1) (ht2 : ¬ 536870911 < tag / 8) (hf : tag % 8 = 0) (hkn : k < n) :
    Calls Tryd.prog 20 #[.slice (some ⟨b, off, none⟩) n c] w (NextPost w (Sp.body (tag / 8) 0 k (bs.drop k))) := by
  have HG := Lib.hid hg
  have hgs := Sp.gv_some hg
  have hlen := HR.len
  have htop : Sp.top 0 = 18446744073709551616 := rfl
  rw [htop] at hgs
  obtain ⟨_, hg1, hg2, hg3, hg4⟩ := hgs
  have hk10 : k ≤ 10 := by omega
  have H7 := and7 tag hg1
  rw [hf] at H7
  have h1 : decide ((tag : Int) / 8 < 1) = false := by simp; omega
  have h2 : decide (536870911 < (tag : Int) / 8) = false := by simp; omega
  have hw : wrap64 ((tag : Int) / 8) = ((tag / 8 : Nat) : Int) := by unfold wrap64; omega
  clear hg hg1 hg3 hg4 hlen htop ht1 ht2 hf
  go_enter Tryd.func20, Tryd.ntmps20
  go_wp2_with fail
  refine (get_any B _ n c bs _ (RdV.alloc HR hB _) hn).mono ?_
  rintro e w1 ⟨rfl, rfl⟩
  rw [HG.out]
  simp only [gvRes]
  have hrl : Rd w B (some ⟨b, off + k, none⟩) (n - k) (bs.drop k) := Rd.drop HR (by omega) (fun b' o' e hk' => by injection e with e; injection e with e1 e2; subst e1; subst e2; rfl)
  have HRL := hrl
  clear hrl HR
  go_wp2_with fail
  refine (get_any B (some ⟨b, off + k, none⟩) (n - k) (c - k) (bs.drop k) _ (RdV.alloc (RdV.alloc HRL hB _) (by simp; omega) _) (by omega)).mono ?_
  rintro e w1 ⟨rfl, rfl⟩
  rcases hgl : Sp.gv 0 (bs.drop k) with _ | ⟨v, j⟩
  · have HB := Lib.hid (show Sp.body (tag / 8) 0 k (bs.drop k) = none by simp [Sp.body, hgl])
    clear hgl
    simp only [gvRes]
    go_wp2_with fail
    exact bodyPost_ret (v := .tuple #[noPiece, errV]) (by simp [results, Tryd.results20, go_sem, noPiece, errV]) rfl (nextPost_none HB.out (((Below.refl _ _).alloc (Nat.le_refl _) _).alloc (by simp) _))
  · have HB := Lib.hid (show Sp.body (tag / 8) 0 k (bs.drop k) = some ⟨tag / 8, 0, v, [], k + j⟩ by simp [Sp.body, hgl])
    have hj := Sp.gv_some hgl
    have hj10 : j ≤ 10 := by omega
    clear hgl hj
    simp only [gvRes]
    go_wp2_with fail
    exact bodyPost_ret (v := .tuple #[pieceV ⟨tag / 8, 0, v, [], k + j⟩ (.slice none 0 0), .nilIface]) (by simp [results, Tryd.results20, go_sem, pieceV]) rfl (nextPost_some HB.out (((Below.refl _ _).alloc (Nat.le_refl _) _).alloc (by simp) _) rfl (World.ownsRow_nil _ _ _ _))
end Go.Proofs.YtafkoeebnkmpcaaDoor
