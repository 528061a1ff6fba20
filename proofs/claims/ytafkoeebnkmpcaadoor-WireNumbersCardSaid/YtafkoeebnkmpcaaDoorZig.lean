/-
  THE WALKS of wire.Size, wire.Zig, wire.Zag.
-/
import Derived.Test.YtafkoeebnkmpcaaDoorShelf
import Derived.Test.YtafkoeebnkmpcaaDoorWords
import Derived.Test.YtafkoeebnkmpcaaDoorNum
import Derived.WalkSpells
import Derived.WalkLawsBesides
namespace Go.Proofs.YtafkoeebnkmpcaaDoor
open Go.RowKit

theorem ret_int {k : IntKind} {a b : Int} (h : a = b) : Ending.returned (.int k a) = .returned (.int k b) := by rw [h]

set_option maxRecDepth 100000 in
set_option maxHeartbeats 2000000 in
theorem size_any (n : Nat) (w : World) (hn : n < 18446744073709551616) :
    Calls Tryd.prog 8 #[.int .u64 n] w fun e w' => e = .returned (.int .i64 ((Sp.vb n).length : Nat)) ∧ w = w' := by
  have HN := Lib.hid hn
  have HE := Lib.hid (Sp.size_eq n hn)
  have HO : Hid (bits BinOp.or IntKind.u64 (n : Int) 1 = ((n ||| 1 : Nat) : Int)) := u64_or_nat n 1 hn (by omega)
  have HB : Hid (n ||| 1 < 18446744073709551616) := (Nat.or_lt_two_pow (n := 64) (by omega) (by omega) : n ||| 1 < 2 ^ 64)
  obtain ⟨L, hL, hL64⟩ : ∃ L : Nat, Hid (Lib.bitLen (n ||| 1) = L) ∧ L ≤ 70 := ⟨_, rfl, by have := HE.out; have := (Sp.vb_len n).2; omega⟩
  clear hn
  go_enter Tryd.func8, Tryd.ntmps8
  go_wp2_with fail
  rw [HO.out]
  refine (Tryd.bits_Len64 _ _ (by omega) (by have := HB.out; omega)).mono ?_
  rintro e w' ⟨rfl, rfl⟩
  rw [Int.toNat_natCast, hL.out]
  go_wp2
  go_ret
  exact ⟨ret_int (by have := HE.out; rw [hL.out] at this; omega), rfl⟩

set_option maxRecDepth 100000 in
set_option maxHeartbeats 2000000 in
theorem zig_any (z : Int) (w : World) (h1 : -9223372036854775808 ≤ z) (h2 : z ≤ 9223372036854775807) :
    Calls Tryd.prog 15 #[.int .i64 z] w fun e w' => e = .returned (.int .u64 (Sp.zg z : Nat)) ∧ w = w' := by
  have H := Lib.hid (Sp.zig_eq z h1 h2)
  clear h1 h2
  go_enter Tryd.func15, Tryd.ntmps15
  go_wp2
  go_ret
  exact ⟨ret_int H.out, rfl⟩
set_option maxRecDepth 100000 in
set_option maxHeartbeats 2000000 in
theorem zag_any (n : Nat) (w : World) (h1 : n < 18446744073709551616) :
    Calls Tryd.prog 17 #[.int .u64 n] w fun e w' => e = .returned (.int .i64 (Sp.zt n)) ∧ w = w' := by
  have H := Lib.hid (Sp.zag_eq n h1)
  clear h1
  go_enter Tryd.func17, Tryd.ntmps17
  go_wp2
  go_ret
  exact ⟨ret_int H.out, rfl⟩
end Go.Proofs.YtafkoeebnkmpcaaDoor
