/-
Plain functions that the program's functions come to, with their equations; part 4.
-/
import Derived.Test.YtiooamodldgalaaGen3
set_option maxRecDepth 100000
set_option linter.unusedVariables false
namespace Go.Proofs.Ytiooamodldgalaa.Abs
open Go Go.Proofs.Try
/-! ### loop.example/tuggers/laws.FnExactAudTouch -/
@[reducible] def w_FnExactAudTouch_i : Sh := ⟨[.c (.agg [.ro q0, .int .i64, .int .i64, .int .i64, .int .i64, .ro (.int .i64), .ro (.list 221 q1), .ro q2, .int .i64, .ro q3]), .c (.leaf (.int .i64))], []⟩
@[reducible] def w_FnExactAudTouch_o : Sh := ⟨[.c (.leaf (.bool))], []⟩
noncomputable def w_FnExactAudTouch_T (k : Nat) : Env := ((w_eqWldWorld_E k).at 0 k [] [] []).gated (fun _ => true)
noncomputable def w_FnExactAudTouch (k : Nat) (x0 : List (Int × (Int × (Int × (Int × (Bool × Int)))))) (x1 : Int) (x2 : Int) (x3 : Int) (x4 : Int) (x5 : List Int) (x6 : List (List (Int × Int))) (x7 : List (Int × ((Int × (Int × Int)) × (Int × ((Int × Int) × ((Int × Int) × (Int × (Int × ((Int × Int) × ((Int × Int) × (Int × (Int × ((Int × Int) × (Int × (Bool × (ByteArray × (ByteArray × (Int × Int)))))))))))))))))) (x8 : Int) (x9 : List (Int × ((Int × (Int × Int)) × ((Int × Int) × (Int × (Int × Int)))))) (x10 : Int) : Option (Dt w_FnExactAudTouch_o) := evFn (w_FnExactAudTouch_T k) Try.f6 [.c (.agg [.ro q0 x0, .int .i64 x1, .int .i64 x2, .int .i64 x3, .int .i64 x4, .ro (.int .i64) x5, .ro (.list 221 q1) x6, .ro q2 x7, .int .i64 x8, .ro q3 x9]), .c (.leaf (.int .i64 x10))] [] (unOut w_FnExactAudTouch_o)
theorem w_FnExactAudTouch_eq (k : Nat) (x0 : List (Int × (Int × (Int × (Int × (Bool × Int)))))) (x1 : Int) (x2 : Int) (x3 : Int) (x4 : Int) (x5 : List Int) (x6 : List (List (Int × Int))) (x7 : List (Int × ((Int × (Int × Int)) × (Int × ((Int × Int) × ((Int × Int) × (Int × (Int × ((Int × Int) × ((Int × Int) × (Int × (Int × ((Int × Int) × (Int × (Bool × (ByteArray × (ByteArray × (Int × Int)))))))))))))))))) (x8 : Int) (x9 : List (Int × ((Int × (Int × Int)) × ((Int × Int) × (Int × (Int × Int)))))) (x10 : Int) : w_FnExactAudTouch k x0 x1 x2 x3 x4 x5 x6 x7 x8 x9 x10 =
  ((w_szWldWorld k x0 x1 x2 x3 x4 x5 x6 x7 x8 x9 (1048576:Int)).bind fun y1 =>
  (if (decide (y1.1 < (0:Int))) = true then
  (some (true, ()))
 else
  ((w_toWldWorld k x0 x1 x2 x3 x4 x5 x6 x7 x8 x9).bind fun y2 =>
  ((s_AudTouch k y2.2.2.2.2.2.1 y2.1 y2.2.1 y2.2.2.1 y2.2.2.2.1 y2.2.2.2.2.2.2.1 y2.2.2.2.2.2.2.2.2.1 y2.2.2.2.2.1 y2.2.2.2.2.2.2.2.2.2.1 x10 y2.2.2.2.2.2.2.2.1).bind fun y3 =>
  ((w_toWldWorld k x0 x1 x2 x3 x4 x5 x6 x7 x8 x9).bind fun y4 =>
  ((i_AudTouch k y4.2.2.2.2.2.1 y4.1 y4.2.1 y4.2.2.1 y4.2.2.2.1 y4.2.2.2.2.2.2.1 y4.2.2.2.2.2.2.2.2.1 y4.2.2.2.2.1 y4.2.2.2.2.2.2.2.2.2.1 x10 y4.2.2.2.2.2.2.2.1).bind fun y5 =>
  (if (!(y5.1 == y3.1)) = true then
  (some (false, ()))
 else
  ((w_toWldWorld k x0 x1 x2 x3 x4 x5 x6 x7 x8 x9).bind fun y6 =>
  ((w_eqWldWorld k y4.2.2.2.2.2.1 y4.1 y4.2.1 y4.2.2.1 y4.2.2.2.1 y4.2.2.2.2.2.2.1 y4.2.2.2.2.2.2.2.2.1 y4.2.2.2.2.1 y4.2.2.2.2.2.2.2.2.2.1 y6.2.2.2.2.2.1 y6.1 y6.2.1 y6.2.2.1 y6.2.2.2.1 y6.2.2.2.2.2.2.1 y6.2.2.2.2.2.2.2.2.1 y6.2.2.2.2.1 y6.2.2.2.2.2.2.2.2.2.1 y5.2.1 y6.2.2.2.2.2.2.2.1).bind fun y7 =>
  (if (!y7.1) = true then
  (some (false, ()))
 else
  (some (true, ())))))))))))) := by kernel_rfl
noncomputable def w_FnExactAudTouch_G (k : Nat) : Dt w_FnExactAudTouch_i → Option (Dt w_FnExactAudTouch_o) := fun x => w_FnExactAudTouch k x.1 x.2.1 x.2.2.1 x.2.2.2.1 x.2.2.2.2.1 x.2.2.2.2.2.1 x.2.2.2.2.2.2.1 x.2.2.2.2.2.2.2.1 x.2.2.2.2.2.2.2.2.1 x.2.2.2.2.2.2.2.2.2.1 x.2.2.2.2.2.2.2.2.2.2.1
theorem w_FnExactAudTouch_c (k : Nat) : Comes1 (w_FnExactAudTouch_T k) Try.f6 w_FnExactAudTouch_i w_FnExactAudTouch_o (w_FnExactAudTouch_G k) := fun x => by kernel_rfl
noncomputable def w_FnExactAudTouch_E (k : Nat) : Env := (w_eqWldWorld_E k).with 6 w_FnExactAudTouch_i w_FnExactAudTouch_o (w_FnExactAudTouch_G k)
theorem w_FnExactAudTouch_ok (k : Nat) : EnvOk Try.prog (w_FnExactAudTouch_E k) := (w_eqWldWorld_ok k).with mixed (by decide) (by kernel_rfl) (by kernel_rfl) (w_FnExactAudTouch_c k) (by kernel_rfl)
end Go.Proofs.Ytiooamodldgalaa.Abs
