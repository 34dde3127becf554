/-
Plain functions that the program's functions come to, with their equations; part 2.
-/
import Derived.Test.YtiooamodldgalaaGen1
set_option maxRecDepth 100000
set_option linter.unusedVariables false
namespace Go.Proofs.Ytiooamodldgalaa.Abs
open Go Go.Proofs.Try
/-! ### loop.example/tuggers/laws.FnExactArnStack -/
@[reducible] def w_FnExactArnStack_i : Sh := ⟨[.c (.agg [.ro q0, .int .i64, .int .i64, .int .i64])], []⟩
@[reducible] def w_FnExactArnStack_o : Sh := ⟨[.c (.leaf (.bool))], []⟩
noncomputable def w_FnExactArnStack_T (k : Nat) : Env := ((w_heldIntS_E k).at 0 k [] [] []).gated (fun _ => true)
noncomputable def w_FnExactArnStack (k : Nat) (x0 : List (Int × (Int × (Int × (Int × (Bool × Int)))))) (x1 : Int) (x2 : Int) (x3 : Int) : Option (Dt w_FnExactArnStack_o) := evFn (w_FnExactArnStack_T k) Try.f3 [.c (.agg [.ro q0 x0, .int .i64 x1, .int .i64 x2, .int .i64 x3])] [] (unOut w_FnExactArnStack_o)
theorem w_FnExactArnStack_eq (k : Nat) (x0 : List (Int × (Int × (Int × (Int × (Bool × Int)))))) (x1 : Int) (x2 : Int) (x3 : Int) : w_FnExactArnStack k x0 x1 x2 x3 =
  ((w_szArnArena k x0 x1 x2 x3 (1048576:Int)).bind fun y1 =>
  (if (decide (y1.1 < (0:Int))) = true then
  (some (true, ()))
 else
  ((w_toArnArena k x0 x1 x2 x3).bind fun y2 =>
  ((s_ArnStack k y2.2.2.2.1 y2.1 y2.2.1 y2.2.2.1).bind fun y3 =>
  ((w_toArnArena k x0 x1 x2 x3).bind fun y4 =>
  ((i_ArnStack k y4.2.2.2.1 y4.1 y4.2.1 y4.2.2.1).bind fun y5 =>
  ((w_eqIntS k y5.1 y3.1).bind fun y6 =>
  (if (!y6.1) = true then
  (some (false, ()))
 else
  ((w_toArnArena k x0 x1 x2 x3).bind fun y7 =>
  ((w_eqArnArena k y4.2.2.2.1 y4.1 y4.2.1 y4.2.2.1 y7.2.2.2.1 y7.1 y7.2.1 y7.2.2.1).bind fun y8 =>
  (if (!y8.1) = true then
  (some (false, ()))
 else
  ((w_markArnArena k y4.1 y4.2.1 y4.2.2.1 (1:Int) y4.2.2.2.1).bind fun y9 =>
  (if (decide (y9.1 < (0:Int))) = true then
  (some (false, ()))
 else
  ((w_eqIntS k y5.1 y3.1).bind fun y10 =>
  (if (!y10.1) = true then
  (some (false, ()))
 else
  ((w_markIntS k (1:Int) y5.1).bind fun y11 =>
  ((w_heldIntS k y11.2.1 (1:Int)).bind fun y12 =>
  (if (decide (y12.1 < (0:Int))) = true then
  (some (false, ()))
 else
  (if (decide (¬ y12.1 = y11.1)) = true then
  (some (false, ()))
 else
  ((w_toArnArena k x0 x1 x2 x3).bind fun y13 =>
  ((i_ArnStack k y13.2.2.2.1 y13.1 y13.2.1 y13.2.2.1).bind fun y14 =>
  ((w_eqIntS k y14.1 y3.1).bind fun y15 =>
  (if (!y15.1) = true then
  (some (false, ()))
 else
  ((w_heldIntS k y11.2.1 (1:Int)).bind fun y16 =>
  (if (decide (y16.1 < (0:Int))) = true then
  (some (false, ()))
 else
  (if (decide (¬ y16.1 = y11.1)) = true then
  (some (false, ()))
 else
  (some (true, ())))))))))))))))))))))))))))) := by kernel_rfl
noncomputable def w_FnExactArnStack_G (k : Nat) : Dt w_FnExactArnStack_i → Option (Dt w_FnExactArnStack_o) := fun x => w_FnExactArnStack k x.1 x.2.1 x.2.2.1 x.2.2.2.1
theorem w_FnExactArnStack_c (k : Nat) : Comes1 (w_FnExactArnStack_T k) Try.f3 w_FnExactArnStack_i w_FnExactArnStack_o (w_FnExactArnStack_G k) := fun x => by kernel_rfl
noncomputable def w_FnExactArnStack_E (k : Nat) : Env := (w_heldIntS_E k).with 3 w_FnExactArnStack_i w_FnExactArnStack_o (w_FnExactArnStack_G k)
theorem w_FnExactArnStack_ok (k : Nat) : EnvOk Try.prog (w_FnExactArnStack_E k) := (w_heldIntS_ok k).with mixed (by decide) (by kernel_rfl) (by kernel_rfl) (w_FnExactArnStack_c k) (by kernel_rfl)
end Go.Proofs.Ytiooamodldgalaa.Abs
