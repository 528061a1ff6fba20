/-
  THE WALKS of sealpressref.Zig, Zag, Tag and wire.PutTag.
-/
import Derived.Test.YtafkoeebnkmpcaaDoorRefVar
import Derived.Test.YtafkoeebnkmpcaaDoorZig
namespace Go.Proofs.YtafkoeebnkmpcaaDoor
open Go.RowKit

set_option maxRecDepth 100000 in
set_option maxHeartbeats 1000000 in
theorem refzig_any (z : Int) (w : World) (h1 : -9223372036854775808 ≤ z) (h2 : z ≤ 9223372036854775807) :
    Calls Tryd.prog 16 #[.int .i64 z] w fun e w' => e = .returned (.int .u64 (Sp.zg z : Nat)) ∧ w = w' := by
  have H1 := Lib.hid h1
  have H2 := Lib.hid h2
  clear h1 h2
  by_cases h : 0 ≤ z
  · go_enter Tryd.func16, Tryd.ntmps16
    go_wp2_with fail
    go_ret
    refine ⟨ret_int ?_, rfl⟩
    have := H1.out
    have := H2.out
    rw [IntKind.wrap_u64, IntKind.wrap_u64]
    unfold Sp.zg
    rw [if_pos h]
    omega
  · go_enter Tryd.func16, Tryd.ntmps16
    go_wp2_with fail
    go_ret
    refine ⟨ret_int ?_, rfl⟩
    have := H1.out
    have := H2.out
    rw [IntKind.wrap_u64, IntKind.wrap_u64, IntKind.wrap_u64]
    unfold Sp.zg wrap64
    rw [if_neg (by omega)]
    omega
set_option maxRecDepth 100000 in
set_option maxHeartbeats 1000000 in
theorem refzag_any (n : Nat) (w : World) (h : n < 18446744073709551616) :
    Calls Tryd.prog 18 #[.int .u64 n] w fun e w' => e = .returned (.int .i64 (Sp.zt n)) ∧ w = w' := by
  have H1 := Lib.hid h
  clear h
  by_cases h : n % 2 = 0
  · have hd : ((n : Int) % 2 == 0) = true := by simp; omega
    have HH := Lib.hid h
    clear h
    go_enter Tryd.func18, Tryd.ntmps18
    go_wp2_with fail
    go_ret
    refine ⟨ret_int ?_, rfl⟩
    have := H1.out
    rw [IntKind.wrap_u64]
    unfold Sp.zt wrap64
    rw [if_pos HH.out]
    omega
  · have hd : ((n : Int) % 2 == 0) = false := by simp; omega
    have HH := Lib.hid h
    clear h
    go_enter Tryd.func18, Tryd.ntmps18
    go_wp2_with fail
    go_ret
    refine ⟨ret_int ?_, rfl⟩
    have := H1.out
    rw [IntKind.wrap_u64]
    unfold Sp.zt wrap64
    rw [if_neg HH.out]
    omega
set_option maxRecDepth 100000 in
set_option maxHeartbeats 1000000 in
theorem reftag_any (num form : Nat) (w : World) (h1 : num ≤ 536870911) (h2 : form < 8) :
    Calls Tryd.prog 14 #[.int .i64 num, .int .i64 form] w fun e w' => e = .returned (.string ⟨(Sp.vb (num * 8 + form)).toArray⟩) ∧ Below w.heap.size w w' := by
  go_enter Tryd.func14, Tryd.ntmps14
  go_wp2_with fail
  have e : (num : Int) * 8 + (form : Int) = ((num * 8 + form : Nat) : Int) := by omega
  rw [e]
  have hp : (128 : Nat) ^ (9 + 1) = 1180591620717411303424 := by simp
  refine (refvar_any 9 (num * 8 + form) w (by omega) (by rw [hp]; omega) (by omega)).mono ?_
  rintro x w' ⟨rfl, hb⟩
  clear e hp
  go_wp2_with fail
  go_ret
  exact ⟨rfl, hb⟩
set_option maxRecDepth 100000 in
set_option maxHeartbeats 1000000 in
theorem puttag_any (base : Nat) (v : Value) (nv : Nat) (xs : List Value) (num form : Nat) (w : World) (hown : w.ownsRow base 5 1 v nv xs) (h1 : num ≤ 536870911) (h2 : form < 8) (hnv : nv ≤ 1000000000) (hbase : base ≤ w.heap.size) :
    Calls Tryd.prog 13 #[v, .int .i64 num, .int .i64 form] w (AppPost base w v nv xs (Sp.vb (num * 8 + form))) := by
  go_enter Tryd.func13, Tryd.ntmps13
  go_wp2_with fail
  have e : bits BinOp.or IntKind.u64 ((num : Int) * 8) (form : Int) = ((num * 8 + form : Nat) : Int) := by
    have e1 := u64_or_nat (num * 8) form (by omega) (by omega)
    rw [nat_join 3 (num * 8) form (by omega) (by omega)] at e1
    have e2 : ((num * 8 : Nat) : Int) = (num : Int) * 8 := by omega
    rw [e2] at e1
    exact e1
  rw [e]
  refine (put_any base v nv xs (num * 8 + form) w hown (by omega) hnv hbase).mono ?_
  rintro x w' ⟨v', rfl, ho, hu⟩
  have HO := Lib.hid ho
  have HU := Lib.hid hu
  clear e ho hu hown
  go_wp2_with fail
  go_ret
  exact ⟨v', rfl, HO.out, HU.out⟩
end Go.Proofs.YtafkoeebnkmpcaaDoor
