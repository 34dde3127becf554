/-
Plain functions that the program's functions come to, with their equations; part 3.
-/
import Derived.Test.YtiooamodldgalaaGen2
set_option maxRecDepth 100000
set_option linter.unusedVariables false
namespace Go.Proofs.Ytiooamodldgalaa.Abs
open Go Go.Proofs.Try
/-! ### loop.example/tuggers/spec.l4Ref -/
@[reducible] def s_l4Ref_i : Sh := ⟨[.c (.agg [.ro q0, .int .i64, .int .i64, .int .i64]), .c (.agg [.int .i64, .int .i64])], []⟩
@[reducible] def s_l4Ref_o : Sh := ⟨[.c (.leaf (.bool))], []⟩
noncomputable def s_l4Ref_T (k : Nat) : Env := ((s_HndTouch_E k).at 0 k [] [] []).gated (fun _ => true)
noncomputable def s_l4Ref (k : Nat) (x0 : List (Int × (Int × (Int × (Int × (Bool × Int)))))) (x1 : Int) (x2 : Int) (x3 : Int) (x4 : Int) (x5 : Int) : Option (Dt s_l4Ref_o) := evFn (s_l4Ref_T k) Try.f86 [.c (.agg [.ro q0 x0, .int .i64 x1, .int .i64 x2, .int .i64 x3]), .c (.agg [.int .i64 x4, .int .i64 x5])] [] (unOut s_l4Ref_o)
theorem s_l4Ref_eq (k : Nat) (x0 : List (Int × (Int × (Int × (Int × (Bool × Int)))))) (x1 : Int) (x2 : Int) (x3 : Int) (x4 : Int) (x5 : Int) : s_l4Ref k x0 x1 x2 x3 x4 x5 =
  ((s_l1In k x4 (0:Int) (9:Int)).bind fun y1 =>
  (if y1.1 = true then
  (if (0:Int) ≤ x4 ∧ x4 < (List.length x0 : Int) then
  (if (x0.getD (Int.toNat x4) ((0:Int), ((0:Int), ((0:Int), ((0:Int), (false, (0:Int))))))).2.2.2.2.1 = true then
  (if (0:Int) ≤ x4 ∧ x4 < (List.length x0 : Int) then
  (some ((decide ((x0.getD (Int.toNat x4) ((0:Int), ((0:Int), ((0:Int), ((0:Int), (false, (0:Int))))))).2.2.2.2.2 = x5)), ()))
 else none)
 else
  (some (false, ())))
 else none)
 else
  (some (false, ())))) := by kernel_rfl
noncomputable def s_l4Ref_G (k : Nat) : Dt s_l4Ref_i → Option (Dt s_l4Ref_o) := fun x => s_l4Ref k x.1 x.2.1 x.2.2.1 x.2.2.2.1 x.2.2.2.2.1 x.2.2.2.2.2.1
theorem s_l4Ref_c (k : Nat) : Comes1 (s_l4Ref_T k) Try.f86 s_l4Ref_i s_l4Ref_o (s_l4Ref_G k) := fun x => by kernel_rfl
noncomputable def s_l4Ref_E (k : Nat) : Env := (s_HndTouch_E k).with 86 s_l4Ref_i s_l4Ref_o (s_l4Ref_G k)
theorem s_l4Ref_ok (k : Nat) : EnvOk Try.prog (s_l4Ref_E k) := (s_HndTouch_ok k).with mixed (by decide) (by kernel_rfl) (by kernel_rfl) (s_l4Ref_c k) (by kernel_rfl)
/-! ### loop.example/tuggers/spec.AudTouch -/
@[reducible] def s_AudTouch_i : Sh := ⟨[.c (.agg [.ro q0, .int .i64, .int .i64, .int .i64, .int .i64, .ro (.int .i64), .own 0, .ro q2, .int .i64, .ro q3]), .c (.leaf (.int .i64))], [(0, .rows 205 (.list 219 q1))]⟩
@[reducible] def s_AudTouch_o : Sh := ⟨[.c (.leaf (.bool))], [(0, .rows 205 (.list 219 q1))]⟩
noncomputable def s_AudTouch_T (k : Nat) : Env := ((s_l4Ref_E k).at 1 k [] [] []).gated (fun _ => true)
noncomputable def s_AudTouch (k : Nat) (x0 : List (Int × (Int × (Int × (Int × (Bool × Int)))))) (x1 : Int) (x2 : Int) (x3 : Int) (x4 : Int) (x5 : List Int) (x6 : List (Int × ((Int × (Int × Int)) × (Int × ((Int × Int) × ((Int × Int) × (Int × (Int × ((Int × Int) × ((Int × Int) × (Int × (Int × ((Int × Int) × (Int × (Bool × (ByteArray × (ByteArray × (Int × Int)))))))))))))))))) (x7 : Int) (x8 : List (Int × ((Int × (Int × Int)) × ((Int × Int) × (Int × (Int × Int)))))) (x9 : Int) (x10 : List (List (Int × Int))) : Option (Dt s_AudTouch_o) := evFn (s_AudTouch_T k) Try.f33 [.c (.agg [.ro q0 x0, .int .i64 x1, .int .i64 x2, .int .i64 x3, .int .i64 x4, .ro (.int .i64) x5, .own 0, .ro q2 x6, .int .i64 x7, .ro q3 x8]), .c (.leaf (.int .i64 x9))] [(0, .rows 205 (.list 219 q1) x10)] (unOut s_AudTouch_o)
theorem s_AudTouch_eq (k : Nat) (x0 : List (Int × (Int × (Int × (Int × (Bool × Int)))))) (x1 : Int) (x2 : Int) (x3 : Int) (x4 : Int) (x5 : List Int) (x6 : List (Int × ((Int × (Int × Int)) × (Int × ((Int × Int) × ((Int × Int) × (Int × (Int × ((Int × Int) × ((Int × Int) × (Int × (Int × ((Int × Int) × (Int × (Bool × (ByteArray × (ByteArray × (Int × Int)))))))))))))))))) (x7 : Int) (x8 : List (Int × ((Int × (Int × Int)) × ((Int × Int) × (Int × (Int × Int)))))) (x9 : Int) (x10 : List (List (Int × Int))) : s_AudTouch k x0 x1 x2 x3 x4 x5 x6 x7 x8 x9 x10 =
  (if (decide (¬ (List.length x6 : Int) = (3:Int))) = true then
  (some (false, x10, ()))
 else
  (if (decide (¬ (List.length x0 : Int) = (10:Int))) = true then
  (some (false, x10, ()))
 else
  ((s_l1In k x9 (0:Int) (2:Int)).bind fun y1 =>
  (if (!y1.1) = true then
  (some (false, x10, ()))
 else
  (if (0:Int) ≤ x9 ∧ x9 < (List.length x6 : Int) then
  ((s_HndTouch k (x6.getD (Int.toNat x9) ((0:Int), (((0:Int), ((0:Int), (0:Int))), ((0:Int), (((0:Int), (0:Int)), (((0:Int), (0:Int)), ((0:Int), ((0:Int), (((0:Int), (0:Int)), (((0:Int), (0:Int)), ((0:Int), ((0:Int), (((0:Int), (0:Int)), ((0:Int), (false, (ByteArray.empty, (ByteArray.empty, ((0:Int), (0:Int))))))))))))))))))).1 (x6.getD (Int.toNat x9) ((0:Int), (((0:Int), ((0:Int), (0:Int))), ((0:Int), (((0:Int), (0:Int)), (((0:Int), (0:Int)), ((0:Int), ((0:Int), (((0:Int), (0:Int)), (((0:Int), (0:Int)), ((0:Int), ((0:Int), (((0:Int), (0:Int)), ((0:Int), (false, (ByteArray.empty, (ByteArray.empty, ((0:Int), (0:Int))))))))))))))))))).2.1.1 (x6.getD (Int.toNat x9) ((0:Int), (((0:Int), ((0:Int), (0:Int))), ((0:Int), (((0:Int), (0:Int)), (((0:Int), (0:Int)), ((0:Int), ((0:Int), (((0:Int), (0:Int)), (((0:Int), (0:Int)), ((0:Int), ((0:Int), (((0:Int), (0:Int)), ((0:Int), (false, (ByteArray.empty, (ByteArray.empty, ((0:Int), (0:Int))))))))))))))))))).2.1.2.1 (x6.getD (Int.toNat x9) ((0:Int), (((0:Int), ((0:Int), (0:Int))), ((0:Int), (((0:Int), (0:Int)), (((0:Int), (0:Int)), ((0:Int), ((0:Int), (((0:Int), (0:Int)), (((0:Int), (0:Int)), ((0:Int), ((0:Int), (((0:Int), (0:Int)), ((0:Int), (false, (ByteArray.empty, (ByteArray.empty, ((0:Int), (0:Int))))))))))))))))))).2.1.2.2 (x6.getD (Int.toNat x9) ((0:Int), (((0:Int), ((0:Int), (0:Int))), ((0:Int), (((0:Int), (0:Int)), (((0:Int), (0:Int)), ((0:Int), ((0:Int), (((0:Int), (0:Int)), (((0:Int), (0:Int)), ((0:Int), ((0:Int), (((0:Int), (0:Int)), ((0:Int), (false, (ByteArray.empty, (ByteArray.empty, ((0:Int), (0:Int))))))))))))))))))).2.2.1 (x6.getD (Int.toNat x9) ((0:Int), (((0:Int), ((0:Int), (0:Int))), ((0:Int), (((0:Int), (0:Int)), (((0:Int), (0:Int)), ((0:Int), ((0:Int), (((0:Int), (0:Int)), (((0:Int), (0:Int)), ((0:Int), ((0:Int), (((0:Int), (0:Int)), ((0:Int), (false, (ByteArray.empty, (ByteArray.empty, ((0:Int), (0:Int))))))))))))))))))).2.2.2.1.1 (x6.getD (Int.toNat x9) ((0:Int), (((0:Int), ((0:Int), (0:Int))), ((0:Int), (((0:Int), (0:Int)), (((0:Int), (0:Int)), ((0:Int), ((0:Int), (((0:Int), (0:Int)), (((0:Int), (0:Int)), ((0:Int), ((0:Int), (((0:Int), (0:Int)), ((0:Int), (false, (ByteArray.empty, (ByteArray.empty, ((0:Int), (0:Int))))))))))))))))))).2.2.2.1.2 (x6.getD (Int.toNat x9) ((0:Int), (((0:Int), ((0:Int), (0:Int))), ((0:Int), (((0:Int), (0:Int)), (((0:Int), (0:Int)), ((0:Int), ((0:Int), (((0:Int), (0:Int)), (((0:Int), (0:Int)), ((0:Int), ((0:Int), (((0:Int), (0:Int)), ((0:Int), (false, (ByteArray.empty, (ByteArray.empty, ((0:Int), (0:Int))))))))))))))))))).2.2.2.2.1.1 (x6.getD (Int.toNat x9) ((0:Int), (((0:Int), ((0:Int), (0:Int))), ((0:Int), (((0:Int), (0:Int)), (((0:Int), (0:Int)), ((0:Int), ((0:Int), (((0:Int), (0:Int)), (((0:Int), (0:Int)), ((0:Int), ((0:Int), (((0:Int), (0:Int)), ((0:Int), (false, (ByteArray.empty, (ByteArray.empty, ((0:Int), (0:Int))))))))))))))))))).2.2.2.2.1.2 (x6.getD (Int.toNat x9) ((0:Int), (((0:Int), ((0:Int), (0:Int))), ((0:Int), (((0:Int), (0:Int)), (((0:Int), (0:Int)), ((0:Int), ((0:Int), (((0:Int), (0:Int)), (((0:Int), (0:Int)), ((0:Int), ((0:Int), (((0:Int), (0:Int)), ((0:Int), (false, (ByteArray.empty, (ByteArray.empty, ((0:Int), (0:Int))))))))))))))))))).2.2.2.2.2.1 (x6.getD (Int.toNat x9) ((0:Int), (((0:Int), ((0:Int), (0:Int))), ((0:Int), (((0:Int), (0:Int)), (((0:Int), (0:Int)), ((0:Int), ((0:Int), (((0:Int), (0:Int)), (((0:Int), (0:Int)), ((0:Int), ((0:Int), (((0:Int), (0:Int)), ((0:Int), (false, (ByteArray.empty, (ByteArray.empty, ((0:Int), (0:Int))))))))))))))))))).2.2.2.2.2.2.1 (x6.getD (Int.toNat x9) ((0:Int), (((0:Int), ((0:Int), (0:Int))), ((0:Int), (((0:Int), (0:Int)), (((0:Int), (0:Int)), ((0:Int), ((0:Int), (((0:Int), (0:Int)), (((0:Int), (0:Int)), ((0:Int), ((0:Int), (((0:Int), (0:Int)), ((0:Int), (false, (ByteArray.empty, (ByteArray.empty, ((0:Int), (0:Int))))))))))))))))))).2.2.2.2.2.2.2.1.1 (x6.getD (Int.toNat x9) ((0:Int), (((0:Int), ((0:Int), (0:Int))), ((0:Int), (((0:Int), (0:Int)), (((0:Int), (0:Int)), ((0:Int), ((0:Int), (((0:Int), (0:Int)), (((0:Int), (0:Int)), ((0:Int), ((0:Int), (((0:Int), (0:Int)), ((0:Int), (false, (ByteArray.empty, (ByteArray.empty, ((0:Int), (0:Int))))))))))))))))))).2.2.2.2.2.2.2.1.2 (x6.getD (Int.toNat x9) ((0:Int), (((0:Int), ((0:Int), (0:Int))), ((0:Int), (((0:Int), (0:Int)), (((0:Int), (0:Int)), ((0:Int), ((0:Int), (((0:Int), (0:Int)), (((0:Int), (0:Int)), ((0:Int), ((0:Int), (((0:Int), (0:Int)), ((0:Int), (false, (ByteArray.empty, (ByteArray.empty, ((0:Int), (0:Int))))))))))))))))))).2.2.2.2.2.2.2.2.1.1 (x6.getD (Int.toNat x9) ((0:Int), (((0:Int), ((0:Int), (0:Int))), ((0:Int), (((0:Int), (0:Int)), (((0:Int), (0:Int)), ((0:Int), ((0:Int), (((0:Int), (0:Int)), (((0:Int), (0:Int)), ((0:Int), ((0:Int), (((0:Int), (0:Int)), ((0:Int), (false, (ByteArray.empty, (ByteArray.empty, ((0:Int), (0:Int))))))))))))))))))).2.2.2.2.2.2.2.2.1.2 (x6.getD (Int.toNat x9) ((0:Int), (((0:Int), ((0:Int), (0:Int))), ((0:Int), (((0:Int), (0:Int)), (((0:Int), (0:Int)), ((0:Int), ((0:Int), (((0:Int), (0:Int)), (((0:Int), (0:Int)), ((0:Int), ((0:Int), (((0:Int), (0:Int)), ((0:Int), (false, (ByteArray.empty, (ByteArray.empty, ((0:Int), (0:Int))))))))))))))))))).2.2.2.2.2.2.2.2.2.1 (x6.getD (Int.toNat x9) ((0:Int), (((0:Int), ((0:Int), (0:Int))), ((0:Int), (((0:Int), (0:Int)), (((0:Int), (0:Int)), ((0:Int), ((0:Int), (((0:Int), (0:Int)), (((0:Int), (0:Int)), ((0:Int), ((0:Int), (((0:Int), (0:Int)), ((0:Int), (false, (ByteArray.empty, (ByteArray.empty, ((0:Int), (0:Int))))))))))))))))))).2.2.2.2.2.2.2.2.2.2.1 (x6.getD (Int.toNat x9) ((0:Int), (((0:Int), ((0:Int), (0:Int))), ((0:Int), (((0:Int), (0:Int)), (((0:Int), (0:Int)), ((0:Int), ((0:Int), (((0:Int), (0:Int)), (((0:Int), (0:Int)), ((0:Int), ((0:Int), (((0:Int), (0:Int)), ((0:Int), (false, (ByteArray.empty, (ByteArray.empty, ((0:Int), (0:Int))))))))))))))))))).2.2.2.2.2.2.2.2.2.2.2.1.1 (x6.getD (Int.toNat x9) ((0:Int), (((0:Int), ((0:Int), (0:Int))), ((0:Int), (((0:Int), (0:Int)), (((0:Int), (0:Int)), ((0:Int), ((0:Int), (((0:Int), (0:Int)), (((0:Int), (0:Int)), ((0:Int), ((0:Int), (((0:Int), (0:Int)), ((0:Int), (false, (ByteArray.empty, (ByteArray.empty, ((0:Int), (0:Int))))))))))))))))))).2.2.2.2.2.2.2.2.2.2.2.1.2 (x6.getD (Int.toNat x9) ((0:Int), (((0:Int), ((0:Int), (0:Int))), ((0:Int), (((0:Int), (0:Int)), (((0:Int), (0:Int)), ((0:Int), ((0:Int), (((0:Int), (0:Int)), (((0:Int), (0:Int)), ((0:Int), ((0:Int), (((0:Int), (0:Int)), ((0:Int), (false, (ByteArray.empty, (ByteArray.empty, ((0:Int), (0:Int))))))))))))))))))).2.2.2.2.2.2.2.2.2.2.2.2.1 (x6.getD (Int.toNat x9) ((0:Int), (((0:Int), ((0:Int), (0:Int))), ((0:Int), (((0:Int), (0:Int)), (((0:Int), (0:Int)), ((0:Int), ((0:Int), (((0:Int), (0:Int)), (((0:Int), (0:Int)), ((0:Int), ((0:Int), (((0:Int), (0:Int)), ((0:Int), (false, (ByteArray.empty, (ByteArray.empty, ((0:Int), (0:Int))))))))))))))))))).2.2.2.2.2.2.2.2.2.2.2.2.2.1 (x6.getD (Int.toNat x9) ((0:Int), (((0:Int), ((0:Int), (0:Int))), ((0:Int), (((0:Int), (0:Int)), (((0:Int), (0:Int)), ((0:Int), ((0:Int), (((0:Int), (0:Int)), (((0:Int), (0:Int)), ((0:Int), ((0:Int), (((0:Int), (0:Int)), ((0:Int), (false, (ByteArray.empty, (ByteArray.empty, ((0:Int), (0:Int))))))))))))))))))).2.2.2.2.2.2.2.2.2.2.2.2.2.2.1 (x6.getD (Int.toNat x9) ((0:Int), (((0:Int), ((0:Int), (0:Int))), ((0:Int), (((0:Int), (0:Int)), (((0:Int), (0:Int)), ((0:Int), ((0:Int), (((0:Int), (0:Int)), (((0:Int), (0:Int)), ((0:Int), ((0:Int), (((0:Int), (0:Int)), ((0:Int), (false, (ByteArray.empty, (ByteArray.empty, ((0:Int), (0:Int))))))))))))))))))).2.2.2.2.2.2.2.2.2.2.2.2.2.2.2.1 (x6.getD (Int.toNat x9) ((0:Int), (((0:Int), ((0:Int), (0:Int))), ((0:Int), (((0:Int), (0:Int)), (((0:Int), (0:Int)), ((0:Int), ((0:Int), (((0:Int), (0:Int)), (((0:Int), (0:Int)), ((0:Int), ((0:Int), (((0:Int), (0:Int)), ((0:Int), (false, (ByteArray.empty, (ByteArray.empty, ((0:Int), (0:Int))))))))))))))))))).2.2.2.2.2.2.2.2.2.2.2.2.2.2.2.2.1 (x6.getD (Int.toNat x9) ((0:Int), (((0:Int), ((0:Int), (0:Int))), ((0:Int), (((0:Int), (0:Int)), (((0:Int), (0:Int)), ((0:Int), ((0:Int), (((0:Int), (0:Int)), (((0:Int), (0:Int)), ((0:Int), ((0:Int), (((0:Int), (0:Int)), ((0:Int), (false, (ByteArray.empty, (ByteArray.empty, ((0:Int), (0:Int))))))))))))))))))).2.2.2.2.2.2.2.2.2.2.2.2.2.2.2.2.2).bind fun y2 =>
  (if (!y2.2.2.1) = true then
  (some (true, x10, ()))
 else
  ((s_l4Ref k x0 x1 x2 x3 y2.1 y2.2.1).bind fun y3 =>
  (some (y3.1, x10, ())))))
 else none))))) := by kernel_rfl
noncomputable def s_AudTouch_G (k : Nat) : Dt s_AudTouch_i → Option (Dt s_AudTouch_o) := fun x => s_AudTouch k x.1 x.2.1 x.2.2.1 x.2.2.2.1 x.2.2.2.2.1 x.2.2.2.2.2.1 x.2.2.2.2.2.2.1 x.2.2.2.2.2.2.2.1 x.2.2.2.2.2.2.2.2.1 x.2.2.2.2.2.2.2.2.2.1 x.2.2.2.2.2.2.2.2.2.2.1
theorem s_AudTouch_c (k : Nat) : Comes1 (s_AudTouch_T k) Try.f33 s_AudTouch_i s_AudTouch_o (s_AudTouch_G k) := fun x => by kernel_rfl
noncomputable def s_AudTouch_E (k : Nat) : Env := (s_l4Ref_E k).with 33 s_AudTouch_i s_AudTouch_o (s_AudTouch_G k)
theorem s_AudTouch_ok (k : Nat) : EnvOk Try.prog (s_AudTouch_E k) := (s_l4Ref_ok k).with mixed (by decide) (by kernel_rfl) (by kernel_rfl) (s_AudTouch_c k) (by kernel_rfl)
/-! ### (*loop.example/tuggers/impl.WldWorld).hasHand -/
@[reducible] def i_WldWorld_hasHand_i : Sh := ⟨[.c (.leaf (.ptr 0 0)), .c (.leaf (.int .i64))], [(0, .cells 63 [.ro q0, .int .i64, .int .i64, .int .i64, .int .i64, .ro (.int .i64), .own 1, .ro q2, .int .i64, .ro q3]), (1, .rows 205 (.list 219 q1))]⟩
@[reducible] def i_WldWorld_hasHand_o : Sh := ⟨[.c (.leaf (.bool))], [(0, .cells 63 [.ro q0, .int .i64, .int .i64, .int .i64, .int .i64, .ro (.int .i64), .own 1, .ro q2, .int .i64, .ro q3]), (1, .rows 205 (.list 219 q1))]⟩
noncomputable def i_WldWorld_hasHand_T (k : Nat) : Env := ((s_AudTouch_E k).at 2 k [] [] []).gated (fun _ => true)
noncomputable def i_WldWorld_hasHand (k : Nat) (x0 : Int) (x1 : List (Int × (Int × (Int × (Int × (Bool × Int)))))) (x2 : Int) (x3 : Int) (x4 : Int) (x5 : Int) (x6 : List Int) (x7 : List (Int × ((Int × (Int × Int)) × (Int × ((Int × Int) × ((Int × Int) × (Int × (Int × ((Int × Int) × ((Int × Int) × (Int × (Int × ((Int × Int) × (Int × (Bool × (ByteArray × (ByteArray × (Int × Int)))))))))))))))))) (x8 : Int) (x9 : List (Int × ((Int × (Int × Int)) × ((Int × Int) × (Int × (Int × Int)))))) (x10 : List (List (Int × Int))) : Option (Dt i_WldWorld_hasHand_o) := evFn (i_WldWorld_hasHand_T k) Try.f90 [.c (.leaf (.ptr 0 0)), .c (.leaf (.int .i64 x0))] [(0, .cells 63 [.ro q0 x1, .int .i64 x2, .int .i64 x3, .int .i64 x4, .int .i64 x5, .ro (.int .i64) x6, .own 1, .ro q2 x7, .int .i64 x8, .ro q3 x9]), (1, .rows 205 (.list 219 q1) x10)] (unOut i_WldWorld_hasHand_o)
theorem i_WldWorld_hasHand_eq (k : Nat) (x0 : Int) (x1 : List (Int × (Int × (Int × (Int × (Bool × Int)))))) (x2 : Int) (x3 : Int) (x4 : Int) (x5 : Int) (x6 : List Int) (x7 : List (Int × ((Int × (Int × Int)) × (Int × ((Int × Int) × ((Int × Int) × (Int × (Int × ((Int × Int) × ((Int × Int) × (Int × (Int × ((Int × Int) × (Int × (Bool × (ByteArray × (ByteArray × (Int × Int)))))))))))))))))) (x8 : Int) (x9 : List (Int × ((Int × (Int × Int)) × ((Int × Int) × (Int × (Int × Int)))))) (x10 : List (List (Int × Int))) : i_WldWorld_hasHand k x0 x1 x2 x3 x4 x5 x6 x7 x8 x9 x10 =
  (if (decide ((0:Int) ≤ x0)) = true then
  (some ((decide (x0 < (List.length x7 : Int))), x1, x2, x3, x4, x5, x6, x7, x8, x9, x10, ()))
 else
  (some (false, x1, x2, x3, x4, x5, x6, x7, x8, x9, x10, ()))) := by kernel_rfl
noncomputable def i_WldWorld_hasHand_G (k : Nat) : Dt i_WldWorld_hasHand_i → Option (Dt i_WldWorld_hasHand_o) := fun x => i_WldWorld_hasHand k x.1 x.2.1 x.2.2.1 x.2.2.2.1 x.2.2.2.2.1 x.2.2.2.2.2.1 x.2.2.2.2.2.2.1 x.2.2.2.2.2.2.2.1 x.2.2.2.2.2.2.2.2.1 x.2.2.2.2.2.2.2.2.2.1 x.2.2.2.2.2.2.2.2.2.2.1
theorem i_WldWorld_hasHand_c (k : Nat) : Comes1 (i_WldWorld_hasHand_T k) Try.f90 i_WldWorld_hasHand_i i_WldWorld_hasHand_o (i_WldWorld_hasHand_G k) := fun x => by kernel_rfl
noncomputable def i_WldWorld_hasHand_E (k : Nat) : Env := (s_AudTouch_E k).with 90 i_WldWorld_hasHand_i i_WldWorld_hasHand_o (i_WldWorld_hasHand_G k)
theorem i_WldWorld_hasHand_ok (k : Nat) : EnvOk Try.prog (i_WldWorld_hasHand_E k) := (s_AudTouch_ok k).with mixed (by decide) (by kernel_rfl) (by kernel_rfl) (i_WldWorld_hasHand_c k) (by kernel_rfl)
/-! ### loop.example/tuggers/impl.HndTouch -/
@[reducible] def i_HndTouch_i : Sh := ⟨[.c (.agg [.int .i64, .int .i64, .int .i64, .int .i64, .int .i64, .int .i64, .int .i64, .int .i64, .int .i64, .int .i64, .int .i64, .int .i64, .int .i64, .int .i64, .int .i64, .int .i64, .int .i64, .int .i64, .int .i64, .int .i64, .bool, .str, .str, .int .i64, .int .i64])], []⟩
@[reducible] def i_HndTouch_o : Sh := ⟨[.tup [.agg [.int .i64, .int .i64], .leaf (.bool)]], []⟩
noncomputable def i_HndTouch_T (k : Nat) : Env := ((i_WldWorld_hasHand_E k).at 0 k [(24, ⟨[2], []⟩)] [] []).gated (fun _ => true)
noncomputable def i_HndTouch_j24 (k : Nat) (v0 : Int) (v1 : Int) : Option (Dt i_HndTouch_o) := atRegion (i_HndTouch_T k) (subF Try.f91 [.r, .r, .l]) ⟨tml 42 [(2, .c (.leaf (.ptr 0 0)))], [(0, .cells 124 [.int .i64 v0, .int .i64 v1])]⟩ (ksq (i_HndTouch_T k) (subF Try.f91 [.r, .r]) (kret (i_HndTouch_T k) Try.f91.results.toList (unOut i_HndTouch_o)))
noncomputable def i_HndTouch (k : Nat) (x0 : Int) (x1 : Int) (x2 : Int) (x3 : Int) (x4 : Int) (x5 : Int) (x6 : Int) (x7 : Int) (x8 : Int) (x9 : Int) (x10 : Int) (x11 : Int) (x12 : Int) (x13 : Int) (x14 : Int) (x15 : Int) (x16 : Int) (x17 : Int) (x18 : Int) (x19 : Int) (x20 : Bool) (x21 : ByteArray) (x22 : ByteArray) (x23 : Int) (x24 : Int) : Option (Dt i_HndTouch_o) := evFn (i_HndTouch_T k) Try.f91 [.c (.agg [.int .i64 x0, .int .i64 x1, .int .i64 x2, .int .i64 x3, .int .i64 x4, .int .i64 x5, .int .i64 x6, .int .i64 x7, .int .i64 x8, .int .i64 x9, .int .i64 x10, .int .i64 x11, .int .i64 x12, .int .i64 x13, .int .i64 x14, .int .i64 x15, .int .i64 x16, .int .i64 x17, .int .i64 x18, .int .i64 x19, .bool x20, .str x21, .str x22, .int .i64 x23, .int .i64 x24])] [] (unOut i_HndTouch_o)
theorem i_HndTouch_j24_eq (k : Nat) (v0 : Int) (v1 : Int) : i_HndTouch_j24 k v0 v1 =
  (some ((0:Int), (0:Int), false, ())) := by kernel_rfl
theorem i_HndTouch_eq (k : Nat) (x0 : Int) (x1 : Int) (x2 : Int) (x3 : Int) (x4 : Int) (x5 : Int) (x6 : Int) (x7 : Int) (x8 : Int) (x9 : Int) (x10 : Int) (x11 : Int) (x12 : Int) (x13 : Int) (x14 : Int) (x15 : Int) (x16 : Int) (x17 : Int) (x18 : Int) (x19 : Int) (x20 : Bool) (x21 : ByteArray) (x22 : ByteArray) (x23 : Int) (x24 : Int) : i_HndTouch k x0 x1 x2 x3 x4 x5 x6 x7 x8 x9 x10 x11 x12 x13 x14 x15 x16 x17 x18 x19 x20 x21 x22 x23 x24 =
  (if (decide (x0 = (4:Int))) = true then
  (if (decide (x0 = (4:Int))) = true then
  (some ((0:Int), (0:Int), true, ()))
 else
  (if (decide (x0 = (5:Int))) = true then
  (some (x7, x8, (decide ((0:Int) < x7)), ()))
 else
  (if (decide (x0 = (8:Int))) = true then
  (if (decide (x0 = (8:Int))) = true then
  (some (x7, x8, true, ()))
 else
  (if (decide (x0 = (6:Int))) = true then
  (if (decide (x0 = (6:Int))) = true then
  (some (x5, x6, true, ()))
 else
  (if (decide (x0 = (10:Int))) = true then
  (if (decide (x0 = (10:Int))) = true then
  (some (x11, x12, true, ()))
 else
  (i_HndTouch_j24 k (0:Int) (0:Int)))
 else
  (if (decide (x0 = (14:Int))) = true then
  (if (decide (x0 = (14:Int))) = true then
  (some (x11, x12, true, ()))
 else
  (i_HndTouch_j24 k (0:Int) (0:Int)))
 else
  (if (decide (x0 = (23:Int))) = true then
  (some (x11, x12, true, ()))
 else
  (i_HndTouch_j24 k (0:Int) (0:Int))))))
 else
  (if (decide (x0 = (11:Int))) = true then
  (if (decide (x0 = (11:Int))) = true then
  (some (x5, x6, true, ()))
 else
  (if (decide (x0 = (10:Int))) = true then
  (if (decide (x0 = (10:Int))) = true then
  (some (x11, x12, true, ()))
 else
  (i_HndTouch_j24 k (0:Int) (0:Int)))
 else
  (if (decide (x0 = (14:Int))) = true then
  (if (decide (x0 = (14:Int))) = true then
  (some (x11, x12, true, ()))
 else
  (i_HndTouch_j24 k (0:Int) (0:Int)))
 else
  (if (decide (x0 = (23:Int))) = true then
  (some (x11, x12, true, ()))
 else
  (i_HndTouch_j24 k (0:Int) (0:Int))))))
 else
  (if (decide (x0 = (13:Int))) = true then
  (if (decide (x0 = (13:Int))) = true then
  (some (x5, x6, true, ()))
 else
  (if (decide (x0 = (10:Int))) = true then
  (if (decide (x0 = (10:Int))) = true then
  (some (x11, x12, true, ()))
 else
  (i_HndTouch_j24 k (0:Int) (0:Int)))
 else
  (if (decide (x0 = (14:Int))) = true then
  (if (decide (x0 = (14:Int))) = true then
  (some (x11, x12, true, ()))
 else
  (i_HndTouch_j24 k (0:Int) (0:Int)))
 else
  (if (decide (x0 = (23:Int))) = true then
  (some (x11, x12, true, ()))
 else
  (i_HndTouch_j24 k (0:Int) (0:Int))))))
 else
  (if (decide (x0 = (35:Int))) = true then
  (some (x5, x6, true, ()))
 else
  (if (decide (x0 = (10:Int))) = true then
  (if (decide (x0 = (10:Int))) = true then
  (some (x11, x12, true, ()))
 else
  (i_HndTouch_j24 k (0:Int) (0:Int)))
 else
  (if (decide (x0 = (14:Int))) = true then
  (if (decide (x0 = (14:Int))) = true then
  (some (x11, x12, true, ()))
 else
  (i_HndTouch_j24 k (0:Int) (0:Int)))
 else
  (if (decide (x0 = (23:Int))) = true then
  (some (x11, x12, true, ()))
 else
  (i_HndTouch_j24 k (0:Int) (0:Int))))))))))
 else
  (if (decide (x0 = (12:Int))) = true then
  (if (decide (x0 = (12:Int))) = true then
  (some (x7, x8, true, ()))
 else
  (if (decide (x0 = (6:Int))) = true then
  (if (decide (x0 = (6:Int))) = true then
  (some (x5, x6, true, ()))
 else
  (if (decide (x0 = (10:Int))) = true then
  (if (decide (x0 = (10:Int))) = true then
  (some (x11, x12, true, ()))
 else
  (i_HndTouch_j24 k (0:Int) (0:Int)))
 else
  (if (decide (x0 = (14:Int))) = true then
  (if (decide (x0 = (14:Int))) = true then
  (some (x11, x12, true, ()))
 else
  (i_HndTouch_j24 k (0:Int) (0:Int)))
 else
  (if (decide (x0 = (23:Int))) = true then
  (some (x11, x12, true, ()))
 else
  (i_HndTouch_j24 k (0:Int) (0:Int))))))
 else
  (if (decide (x0 = (11:Int))) = true then
  (if (decide (x0 = (11:Int))) = true then
  (some (x5, x6, true, ()))
 else
  (if (decide (x0 = (10:Int))) = true then
  (if (decide (x0 = (10:Int))) = true then
  (some (x11, x12, true, ()))
 else
  (i_HndTouch_j24 k (0:Int) (0:Int)))
 else
  (if (decide (x0 = (14:Int))) = true then
  (if (decide (x0 = (14:Int))) = true then
  (some (x11, x12, true, ()))
 else
  (i_HndTouch_j24 k (0:Int) (0:Int)))
 else
  (if (decide (x0 = (23:Int))) = true then
  (some (x11, x12, true, ()))
 else
  (i_HndTouch_j24 k (0:Int) (0:Int))))))
 else
  (if (decide (x0 = (13:Int))) = true then
  (if (decide (x0 = (13:Int))) = true then
  (some (x5, x6, true, ()))
 else
  (if (decide (x0 = (10:Int))) = true then
  (if (decide (x0 = (10:Int))) = true then
  (some (x11, x12, true, ()))
 else
  (i_HndTouch_j24 k (0:Int) (0:Int)))
 else
  (if (decide (x0 = (14:Int))) = true then
  (if (decide (x0 = (14:Int))) = true then
  (some (x11, x12, true, ()))
 else
  (i_HndTouch_j24 k (0:Int) (0:Int)))
 else
  (if (decide (x0 = (23:Int))) = true then
  (some (x11, x12, true, ()))
 else
  (i_HndTouch_j24 k (0:Int) (0:Int))))))
 else
  (if (decide (x0 = (35:Int))) = true then
  (some (x5, x6, true, ()))
 else
  (if (decide (x0 = (10:Int))) = true then
  (if (decide (x0 = (10:Int))) = true then
  (some (x11, x12, true, ()))
 else
  (i_HndTouch_j24 k (0:Int) (0:Int)))
 else
  (if (decide (x0 = (14:Int))) = true then
  (if (decide (x0 = (14:Int))) = true then
  (some (x11, x12, true, ()))
 else
  (i_HndTouch_j24 k (0:Int) (0:Int)))
 else
  (if (decide (x0 = (23:Int))) = true then
  (some (x11, x12, true, ()))
 else
  (i_HndTouch_j24 k (0:Int) (0:Int))))))))))
 else
  (if (decide (x0 = (25:Int))) = true then
  (if (decide (x0 = (25:Int))) = true then
  (some (x7, x8, true, ()))
 else
  (if (decide (x0 = (6:Int))) = true then
  (if (decide (x0 = (6:Int))) = true then
  (some (x5, x6, true, ()))
 else
  (if (decide (x0 = (10:Int))) = true then
  (if (decide (x0 = (10:Int))) = true then
  (some (x11, x12, true, ()))
 else
  (i_HndTouch_j24 k (0:Int) (0:Int)))
 else
  (if (decide (x0 = (14:Int))) = true then
  (if (decide (x0 = (14:Int))) = true then
  (some (x11, x12, true, ()))
 else
  (i_HndTouch_j24 k (0:Int) (0:Int)))
 else
  (if (decide (x0 = (23:Int))) = true then
  (some (x11, x12, true, ()))
 else
  (i_HndTouch_j24 k (0:Int) (0:Int))))))
 else
  (if (decide (x0 = (11:Int))) = true then
  (if (decide (x0 = (11:Int))) = true then
  (some (x5, x6, true, ()))
 else
  (if (decide (x0 = (10:Int))) = true then
  (if (decide (x0 = (10:Int))) = true then
  (some (x11, x12, true, ()))
 else
  (i_HndTouch_j24 k (0:Int) (0:Int)))
 else
  (if (decide (x0 = (14:Int))) = true then
  (if (decide (x0 = (14:Int))) = true then
  (some (x11, x12, true, ()))
 else
  (i_HndTouch_j24 k (0:Int) (0:Int)))
 else
  (if (decide (x0 = (23:Int))) = true then
  (some (x11, x12, true, ()))
 else
  (i_HndTouch_j24 k (0:Int) (0:Int))))))
 else
  (if (decide (x0 = (13:Int))) = true then
  (if (decide (x0 = (13:Int))) = true then
  (some (x5, x6, true, ()))
 else
  (if (decide (x0 = (10:Int))) = true then
  (if (decide (x0 = (10:Int))) = true then
  (some (x11, x12, true, ()))
 else
  (i_HndTouch_j24 k (0:Int) (0:Int)))
 else
  (if (decide (x0 = (14:Int))) = true then
  (if (decide (x0 = (14:Int))) = true then
  (some (x11, x12, true, ()))
 else
  (i_HndTouch_j24 k (0:Int) (0:Int)))
 else
  (if (decide (x0 = (23:Int))) = true then
  (some (x11, x12, true, ()))
 else
  (i_HndTouch_j24 k (0:Int) (0:Int))))))
 else
  (if (decide (x0 = (35:Int))) = true then
  (some (x5, x6, true, ()))
 else
  (if (decide (x0 = (10:Int))) = true then
  (if (decide (x0 = (10:Int))) = true then
  (some (x11, x12, true, ()))
 else
  (i_HndTouch_j24 k (0:Int) (0:Int)))
 else
  (if (decide (x0 = (14:Int))) = true then
  (if (decide (x0 = (14:Int))) = true then
  (some (x11, x12, true, ()))
 else
  (i_HndTouch_j24 k (0:Int) (0:Int)))
 else
  (if (decide (x0 = (23:Int))) = true then
  (some (x11, x12, true, ()))
 else
  (i_HndTouch_j24 k (0:Int) (0:Int))))))))))
 else
  (if (decide (x0 = (28:Int))) = true then
  (if (decide (x0 = (28:Int))) = true then
  (some (x7, x8, true, ()))
 else
  (if (decide (x0 = (6:Int))) = true then
  (if (decide (x0 = (6:Int))) = true then
  (some (x5, x6, true, ()))
 else
  (if (decide (x0 = (10:Int))) = true then
  (if (decide (x0 = (10:Int))) = true then
  (some (x11, x12, true, ()))
 else
  (i_HndTouch_j24 k (0:Int) (0:Int)))
 else
  (if (decide (x0 = (14:Int))) = true then
  (if (decide (x0 = (14:Int))) = true then
  (some (x11, x12, true, ()))
 else
  (i_HndTouch_j24 k (0:Int) (0:Int)))
 else
  (if (decide (x0 = (23:Int))) = true then
  (some (x11, x12, true, ()))
 else
  (i_HndTouch_j24 k (0:Int) (0:Int))))))
 else
  (if (decide (x0 = (11:Int))) = true then
  (if (decide (x0 = (11:Int))) = true then
  (some (x5, x6, true, ()))
 else
  (if (decide (x0 = (10:Int))) = true then
  (if (decide (x0 = (10:Int))) = true then
  (some (x11, x12, true, ()))
 else
  (i_HndTouch_j24 k (0:Int) (0:Int)))
 else
  (if (decide (x0 = (14:Int))) = true then
  (if (decide (x0 = (14:Int))) = true then
  (some (x11, x12, true, ()))
 else
  (i_HndTouch_j24 k (0:Int) (0:Int)))
 else
  (if (decide (x0 = (23:Int))) = true then
  (some (x11, x12, true, ()))
 else
  (i_HndTouch_j24 k (0:Int) (0:Int))))))
 else
  (if (decide (x0 = (13:Int))) = true then
  (if (decide (x0 = (13:Int))) = true then
  (some (x5, x6, true, ()))
 else
  (if (decide (x0 = (10:Int))) = true then
  (if (decide (x0 = (10:Int))) = true then
  (some (x11, x12, true, ()))
 else
  (i_HndTouch_j24 k (0:Int) (0:Int)))
 else
  (if (decide (x0 = (14:Int))) = true then
  (if (decide (x0 = (14:Int))) = true then
  (some (x11, x12, true, ()))
 else
  (i_HndTouch_j24 k (0:Int) (0:Int)))
 else
  (if (decide (x0 = (23:Int))) = true then
  (some (x11, x12, true, ()))
 else
  (i_HndTouch_j24 k (0:Int) (0:Int))))))
 else
  (if (decide (x0 = (35:Int))) = true then
  (some (x5, x6, true, ()))
 else
  (if (decide (x0 = (10:Int))) = true then
  (if (decide (x0 = (10:Int))) = true then
  (some (x11, x12, true, ()))
 else
  (i_HndTouch_j24 k (0:Int) (0:Int)))
 else
  (if (decide (x0 = (14:Int))) = true then
  (if (decide (x0 = (14:Int))) = true then
  (some (x11, x12, true, ()))
 else
  (i_HndTouch_j24 k (0:Int) (0:Int)))
 else
  (if (decide (x0 = (23:Int))) = true then
  (some (x11, x12, true, ()))
 else
  (i_HndTouch_j24 k (0:Int) (0:Int))))))))))
 else
  (if (decide (x0 = (30:Int))) = true then
  (if (decide (x0 = (30:Int))) = true then
  (some (x7, x8, true, ()))
 else
  (if (decide (x0 = (6:Int))) = true then
  (if (decide (x0 = (6:Int))) = true then
  (some (x5, x6, true, ()))
 else
  (if (decide (x0 = (10:Int))) = true then
  (if (decide (x0 = (10:Int))) = true then
  (some (x11, x12, true, ()))
 else
  (i_HndTouch_j24 k (0:Int) (0:Int)))
 else
  (if (decide (x0 = (14:Int))) = true then
  (if (decide (x0 = (14:Int))) = true then
  (some (x11, x12, true, ()))
 else
  (i_HndTouch_j24 k (0:Int) (0:Int)))
 else
  (if (decide (x0 = (23:Int))) = true then
  (some (x11, x12, true, ()))
 else
  (i_HndTouch_j24 k (0:Int) (0:Int))))))
 else
  (if (decide (x0 = (11:Int))) = true then
  (if (decide (x0 = (11:Int))) = true then
  (some (x5, x6, true, ()))
 else
  (if (decide (x0 = (10:Int))) = true then
  (if (decide (x0 = (10:Int))) = true then
  (some (x11, x12, true, ()))
 else
  (i_HndTouch_j24 k (0:Int) (0:Int)))
 else
  (if (decide (x0 = (14:Int))) = true then
  (if (decide (x0 = (14:Int))) = true then
  (some (x11, x12, true, ()))
 else
  (i_HndTouch_j24 k (0:Int) (0:Int)))
 else
  (if (decide (x0 = (23:Int))) = true then
  (some (x11, x12, true, ()))
 else
  (i_HndTouch_j24 k (0:Int) (0:Int))))))
 else
  (if (decide (x0 = (13:Int))) = true then
  (if (decide (x0 = (13:Int))) = true then
  (some (x5, x6, true, ()))
 else
  (if (decide (x0 = (10:Int))) = true then
  (if (decide (x0 = (10:Int))) = true then
  (some (x11, x12, true, ()))
 else
  (i_HndTouch_j24 k (0:Int) (0:Int)))
 else
  (if (decide (x0 = (14:Int))) = true then
  (if (decide (x0 = (14:Int))) = true then
  (some (x11, x12, true, ()))
 else
  (i_HndTouch_j24 k (0:Int) (0:Int)))
 else
  (if (decide (x0 = (23:Int))) = true then
  (some (x11, x12, true, ()))
 else
  (i_HndTouch_j24 k (0:Int) (0:Int))))))
 else
  (if (decide (x0 = (35:Int))) = true then
  (some (x5, x6, true, ()))
 else
  (if (decide (x0 = (10:Int))) = true then
  (if (decide (x0 = (10:Int))) = true then
  (some (x11, x12, true, ()))
 else
  (i_HndTouch_j24 k (0:Int) (0:Int)))
 else
  (if (decide (x0 = (14:Int))) = true then
  (if (decide (x0 = (14:Int))) = true then
  (some (x11, x12, true, ()))
 else
  (i_HndTouch_j24 k (0:Int) (0:Int)))
 else
  (if (decide (x0 = (23:Int))) = true then
  (some (x11, x12, true, ()))
 else
  (i_HndTouch_j24 k (0:Int) (0:Int))))))))))
 else
  (if (decide (x0 = (33:Int))) = true then
  (if (decide (x0 = (33:Int))) = true then
  (some (x7, x8, true, ()))
 else
  (if (decide (x0 = (6:Int))) = true then
  (if (decide (x0 = (6:Int))) = true then
  (some (x5, x6, true, ()))
 else
  (if (decide (x0 = (10:Int))) = true then
  (if (decide (x0 = (10:Int))) = true then
  (some (x11, x12, true, ()))
 else
  (i_HndTouch_j24 k (0:Int) (0:Int)))
 else
  (if (decide (x0 = (14:Int))) = true then
  (if (decide (x0 = (14:Int))) = true then
  (some (x11, x12, true, ()))
 else
  (i_HndTouch_j24 k (0:Int) (0:Int)))
 else
  (if (decide (x0 = (23:Int))) = true then
  (some (x11, x12, true, ()))
 else
  (i_HndTouch_j24 k (0:Int) (0:Int))))))
 else
  (if (decide (x0 = (11:Int))) = true then
  (if (decide (x0 = (11:Int))) = true then
  (some (x5, x6, true, ()))
 else
  (if (decide (x0 = (10:Int))) = true then
  (if (decide (x0 = (10:Int))) = true then
  (some (x11, x12, true, ()))
 else
  (i_HndTouch_j24 k (0:Int) (0:Int)))
 else
  (if (decide (x0 = (14:Int))) = true then
  (if (decide (x0 = (14:Int))) = true then
  (some (x11, x12, true, ()))
 else
  (i_HndTouch_j24 k (0:Int) (0:Int)))
 else
  (if (decide (x0 = (23:Int))) = true then
  (some (x11, x12, true, ()))
 else
  (i_HndTouch_j24 k (0:Int) (0:Int))))))
 else
  (if (decide (x0 = (13:Int))) = true then
  (if (decide (x0 = (13:Int))) = true then
  (some (x5, x6, true, ()))
 else
  (if (decide (x0 = (10:Int))) = true then
  (if (decide (x0 = (10:Int))) = true then
  (some (x11, x12, true, ()))
 else
  (i_HndTouch_j24 k (0:Int) (0:Int)))
 else
  (if (decide (x0 = (14:Int))) = true then
  (if (decide (x0 = (14:Int))) = true then
  (some (x11, x12, true, ()))
 else
  (i_HndTouch_j24 k (0:Int) (0:Int)))
 else
  (if (decide (x0 = (23:Int))) = true then
  (some (x11, x12, true, ()))
 else
  (i_HndTouch_j24 k (0:Int) (0:Int))))))
 else
  (if (decide (x0 = (35:Int))) = true then
  (some (x5, x6, true, ()))
 else
  (if (decide (x0 = (10:Int))) = true then
  (if (decide (x0 = (10:Int))) = true then
  (some (x11, x12, true, ()))
 else
  (i_HndTouch_j24 k (0:Int) (0:Int)))
 else
  (if (decide (x0 = (14:Int))) = true then
  (if (decide (x0 = (14:Int))) = true then
  (some (x11, x12, true, ()))
 else
  (i_HndTouch_j24 k (0:Int) (0:Int)))
 else
  (if (decide (x0 = (23:Int))) = true then
  (some (x11, x12, true, ()))
 else
  (i_HndTouch_j24 k (0:Int) (0:Int))))))))))
 else
  (if (decide (x0 = (38:Int))) = true then
  (some (x7, x8, true, ()))
 else
  (if (decide (x0 = (6:Int))) = true then
  (if (decide (x0 = (6:Int))) = true then
  (some (x5, x6, true, ()))
 else
  (if (decide (x0 = (10:Int))) = true then
  (if (decide (x0 = (10:Int))) = true then
  (some (x11, x12, true, ()))
 else
  (i_HndTouch_j24 k (0:Int) (0:Int)))
 else
  (if (decide (x0 = (14:Int))) = true then
  (if (decide (x0 = (14:Int))) = true then
  (some (x11, x12, true, ()))
 else
  (i_HndTouch_j24 k (0:Int) (0:Int)))
 else
  (if (decide (x0 = (23:Int))) = true then
  (some (x11, x12, true, ()))
 else
  (i_HndTouch_j24 k (0:Int) (0:Int))))))
 else
  (if (decide (x0 = (11:Int))) = true then
  (if (decide (x0 = (11:Int))) = true then
  (some (x5, x6, true, ()))
 else
  (if (decide (x0 = (10:Int))) = true then
  (if (decide (x0 = (10:Int))) = true then
  (some (x11, x12, true, ()))
 else
  (i_HndTouch_j24 k (0:Int) (0:Int)))
 else
  (if (decide (x0 = (14:Int))) = true then
  (if (decide (x0 = (14:Int))) = true then
  (some (x11, x12, true, ()))
 else
  (i_HndTouch_j24 k (0:Int) (0:Int)))
 else
  (if (decide (x0 = (23:Int))) = true then
  (some (x11, x12, true, ()))
 else
  (i_HndTouch_j24 k (0:Int) (0:Int))))))
 else
  (if (decide (x0 = (13:Int))) = true then
  (if (decide (x0 = (13:Int))) = true then
  (some (x5, x6, true, ()))
 else
  (if (decide (x0 = (10:Int))) = true then
  (if (decide (x0 = (10:Int))) = true then
  (some (x11, x12, true, ()))
 else
  (i_HndTouch_j24 k (0:Int) (0:Int)))
 else
  (if (decide (x0 = (14:Int))) = true then
  (if (decide (x0 = (14:Int))) = true then
  (some (x11, x12, true, ()))
 else
  (i_HndTouch_j24 k (0:Int) (0:Int)))
 else
  (if (decide (x0 = (23:Int))) = true then
  (some (x11, x12, true, ()))
 else
  (i_HndTouch_j24 k (0:Int) (0:Int))))))
 else
  (if (decide (x0 = (35:Int))) = true then
  (some (x5, x6, true, ()))
 else
  (if (decide (x0 = (10:Int))) = true then
  (if (decide (x0 = (10:Int))) = true then
  (some (x11, x12, true, ()))
 else
  (i_HndTouch_j24 k (0:Int) (0:Int)))
 else
  (if (decide (x0 = (14:Int))) = true then
  (if (decide (x0 = (14:Int))) = true then
  (some (x11, x12, true, ()))
 else
  (i_HndTouch_j24 k (0:Int) (0:Int)))
 else
  (if (decide (x0 = (23:Int))) = true then
  (some (x11, x12, true, ()))
 else
  (i_HndTouch_j24 k (0:Int) (0:Int))))))))))))))))))
 else
  (if (decide (x0 = (37:Int))) = true then
  (some ((0:Int), (0:Int), true, ()))
 else
  (if (decide (x0 = (5:Int))) = true then
  (some (x7, x8, (decide ((0:Int) < x7)), ()))
 else
  (if (decide (x0 = (8:Int))) = true then
  (if (decide (x0 = (8:Int))) = true then
  (some (x7, x8, true, ()))
 else
  (if (decide (x0 = (6:Int))) = true then
  (if (decide (x0 = (6:Int))) = true then
  (some (x5, x6, true, ()))
 else
  (if (decide (x0 = (10:Int))) = true then
  (if (decide (x0 = (10:Int))) = true then
  (some (x11, x12, true, ()))
 else
  (i_HndTouch_j24 k (0:Int) (0:Int)))
 else
  (if (decide (x0 = (14:Int))) = true then
  (if (decide (x0 = (14:Int))) = true then
  (some (x11, x12, true, ()))
 else
  (i_HndTouch_j24 k (0:Int) (0:Int)))
 else
  (if (decide (x0 = (23:Int))) = true then
  (some (x11, x12, true, ()))
 else
  (i_HndTouch_j24 k (0:Int) (0:Int))))))
 else
  (if (decide (x0 = (11:Int))) = true then
  (if (decide (x0 = (11:Int))) = true then
  (some (x5, x6, true, ()))
 else
  (if (decide (x0 = (10:Int))) = true then
  (if (decide (x0 = (10:Int))) = true then
  (some (x11, x12, true, ()))
 else
  (i_HndTouch_j24 k (0:Int) (0:Int)))
 else
  (if (decide (x0 = (14:Int))) = true then
  (if (decide (x0 = (14:Int))) = true then
  (some (x11, x12, true, ()))
 else
  (i_HndTouch_j24 k (0:Int) (0:Int)))
 else
  (if (decide (x0 = (23:Int))) = true then
  (some (x11, x12, true, ()))
 else
  (i_HndTouch_j24 k (0:Int) (0:Int))))))
 else
  (if (decide (x0 = (13:Int))) = true then
  (if (decide (x0 = (13:Int))) = true then
  (some (x5, x6, true, ()))
 else
  (if (decide (x0 = (10:Int))) = true then
  (if (decide (x0 = (10:Int))) = true then
  (some (x11, x12, true, ()))
 else
  (i_HndTouch_j24 k (0:Int) (0:Int)))
 else
  (if (decide (x0 = (14:Int))) = true then
  (if (decide (x0 = (14:Int))) = true then
  (some (x11, x12, true, ()))
 else
  (i_HndTouch_j24 k (0:Int) (0:Int)))
 else
  (if (decide (x0 = (23:Int))) = true then
  (some (x11, x12, true, ()))
 else
  (i_HndTouch_j24 k (0:Int) (0:Int))))))
 else
  (if (decide (x0 = (35:Int))) = true then
  (some (x5, x6, true, ()))
 else
  (if (decide (x0 = (10:Int))) = true then
  (if (decide (x0 = (10:Int))) = true then
  (some (x11, x12, true, ()))
 else
  (i_HndTouch_j24 k (0:Int) (0:Int)))
 else
  (if (decide (x0 = (14:Int))) = true then
  (if (decide (x0 = (14:Int))) = true then
  (some (x11, x12, true, ()))
 else
  (i_HndTouch_j24 k (0:Int) (0:Int)))
 else
  (if (decide (x0 = (23:Int))) = true then
  (some (x11, x12, true, ()))
 else
  (i_HndTouch_j24 k (0:Int) (0:Int))))))))))
 else
  (if (decide (x0 = (12:Int))) = true then
  (if (decide (x0 = (12:Int))) = true then
  (some (x7, x8, true, ()))
 else
  (if (decide (x0 = (6:Int))) = true then
  (if (decide (x0 = (6:Int))) = true then
  (some (x5, x6, true, ()))
 else
  (if (decide (x0 = (10:Int))) = true then
  (if (decide (x0 = (10:Int))) = true then
  (some (x11, x12, true, ()))
 else
  (i_HndTouch_j24 k (0:Int) (0:Int)))
 else
  (if (decide (x0 = (14:Int))) = true then
  (if (decide (x0 = (14:Int))) = true then
  (some (x11, x12, true, ()))
 else
  (i_HndTouch_j24 k (0:Int) (0:Int)))
 else
  (if (decide (x0 = (23:Int))) = true then
  (some (x11, x12, true, ()))
 else
  (i_HndTouch_j24 k (0:Int) (0:Int))))))
 else
  (if (decide (x0 = (11:Int))) = true then
  (if (decide (x0 = (11:Int))) = true then
  (some (x5, x6, true, ()))
 else
  (if (decide (x0 = (10:Int))) = true then
  (if (decide (x0 = (10:Int))) = true then
  (some (x11, x12, true, ()))
 else
  (i_HndTouch_j24 k (0:Int) (0:Int)))
 else
  (if (decide (x0 = (14:Int))) = true then
  (if (decide (x0 = (14:Int))) = true then
  (some (x11, x12, true, ()))
 else
  (i_HndTouch_j24 k (0:Int) (0:Int)))
 else
  (if (decide (x0 = (23:Int))) = true then
  (some (x11, x12, true, ()))
 else
  (i_HndTouch_j24 k (0:Int) (0:Int))))))
 else
  (if (decide (x0 = (13:Int))) = true then
  (if (decide (x0 = (13:Int))) = true then
  (some (x5, x6, true, ()))
 else
  (if (decide (x0 = (10:Int))) = true then
  (if (decide (x0 = (10:Int))) = true then
  (some (x11, x12, true, ()))
 else
  (i_HndTouch_j24 k (0:Int) (0:Int)))
 else
  (if (decide (x0 = (14:Int))) = true then
  (if (decide (x0 = (14:Int))) = true then
  (some (x11, x12, true, ()))
 else
  (i_HndTouch_j24 k (0:Int) (0:Int)))
 else
  (if (decide (x0 = (23:Int))) = true then
  (some (x11, x12, true, ()))
 else
  (i_HndTouch_j24 k (0:Int) (0:Int))))))
 else
  (if (decide (x0 = (35:Int))) = true then
  (some (x5, x6, true, ()))
 else
  (if (decide (x0 = (10:Int))) = true then
  (if (decide (x0 = (10:Int))) = true then
  (some (x11, x12, true, ()))
 else
  (i_HndTouch_j24 k (0:Int) (0:Int)))
 else
  (if (decide (x0 = (14:Int))) = true then
  (if (decide (x0 = (14:Int))) = true then
  (some (x11, x12, true, ()))
 else
  (i_HndTouch_j24 k (0:Int) (0:Int)))
 else
  (if (decide (x0 = (23:Int))) = true then
  (some (x11, x12, true, ()))
 else
  (i_HndTouch_j24 k (0:Int) (0:Int))))))))))
 else
  (if (decide (x0 = (25:Int))) = true then
  (if (decide (x0 = (25:Int))) = true then
  (some (x7, x8, true, ()))
 else
  (if (decide (x0 = (6:Int))) = true then
  (if (decide (x0 = (6:Int))) = true then
  (some (x5, x6, true, ()))
 else
  (if (decide (x0 = (10:Int))) = true then
  (if (decide (x0 = (10:Int))) = true then
  (some (x11, x12, true, ()))
 else
  (i_HndTouch_j24 k (0:Int) (0:Int)))
 else
  (if (decide (x0 = (14:Int))) = true then
  (if (decide (x0 = (14:Int))) = true then
  (some (x11, x12, true, ()))
 else
  (i_HndTouch_j24 k (0:Int) (0:Int)))
 else
  (if (decide (x0 = (23:Int))) = true then
  (some (x11, x12, true, ()))
 else
  (i_HndTouch_j24 k (0:Int) (0:Int))))))
 else
  (if (decide (x0 = (11:Int))) = true then
  (if (decide (x0 = (11:Int))) = true then
  (some (x5, x6, true, ()))
 else
  (if (decide (x0 = (10:Int))) = true then
  (if (decide (x0 = (10:Int))) = true then
  (some (x11, x12, true, ()))
 else
  (i_HndTouch_j24 k (0:Int) (0:Int)))
 else
  (if (decide (x0 = (14:Int))) = true then
  (if (decide (x0 = (14:Int))) = true then
  (some (x11, x12, true, ()))
 else
  (i_HndTouch_j24 k (0:Int) (0:Int)))
 else
  (if (decide (x0 = (23:Int))) = true then
  (some (x11, x12, true, ()))
 else
  (i_HndTouch_j24 k (0:Int) (0:Int))))))
 else
  (if (decide (x0 = (13:Int))) = true then
  (if (decide (x0 = (13:Int))) = true then
  (some (x5, x6, true, ()))
 else
  (if (decide (x0 = (10:Int))) = true then
  (if (decide (x0 = (10:Int))) = true then
  (some (x11, x12, true, ()))
 else
  (i_HndTouch_j24 k (0:Int) (0:Int)))
 else
  (if (decide (x0 = (14:Int))) = true then
  (if (decide (x0 = (14:Int))) = true then
  (some (x11, x12, true, ()))
 else
  (i_HndTouch_j24 k (0:Int) (0:Int)))
 else
  (if (decide (x0 = (23:Int))) = true then
  (some (x11, x12, true, ()))
 else
  (i_HndTouch_j24 k (0:Int) (0:Int))))))
 else
  (if (decide (x0 = (35:Int))) = true then
  (some (x5, x6, true, ()))
 else
  (if (decide (x0 = (10:Int))) = true then
  (if (decide (x0 = (10:Int))) = true then
  (some (x11, x12, true, ()))
 else
  (i_HndTouch_j24 k (0:Int) (0:Int)))
 else
  (if (decide (x0 = (14:Int))) = true then
  (if (decide (x0 = (14:Int))) = true then
  (some (x11, x12, true, ()))
 else
  (i_HndTouch_j24 k (0:Int) (0:Int)))
 else
  (if (decide (x0 = (23:Int))) = true then
  (some (x11, x12, true, ()))
 else
  (i_HndTouch_j24 k (0:Int) (0:Int))))))))))
 else
  (if (decide (x0 = (28:Int))) = true then
  (if (decide (x0 = (28:Int))) = true then
  (some (x7, x8, true, ()))
 else
  (if (decide (x0 = (6:Int))) = true then
  (if (decide (x0 = (6:Int))) = true then
  (some (x5, x6, true, ()))
 else
  (if (decide (x0 = (10:Int))) = true then
  (if (decide (x0 = (10:Int))) = true then
  (some (x11, x12, true, ()))
 else
  (i_HndTouch_j24 k (0:Int) (0:Int)))
 else
  (if (decide (x0 = (14:Int))) = true then
  (if (decide (x0 = (14:Int))) = true then
  (some (x11, x12, true, ()))
 else
  (i_HndTouch_j24 k (0:Int) (0:Int)))
 else
  (if (decide (x0 = (23:Int))) = true then
  (some (x11, x12, true, ()))
 else
  (i_HndTouch_j24 k (0:Int) (0:Int))))))
 else
  (if (decide (x0 = (11:Int))) = true then
  (if (decide (x0 = (11:Int))) = true then
  (some (x5, x6, true, ()))
 else
  (if (decide (x0 = (10:Int))) = true then
  (if (decide (x0 = (10:Int))) = true then
  (some (x11, x12, true, ()))
 else
  (i_HndTouch_j24 k (0:Int) (0:Int)))
 else
  (if (decide (x0 = (14:Int))) = true then
  (if (decide (x0 = (14:Int))) = true then
  (some (x11, x12, true, ()))
 else
  (i_HndTouch_j24 k (0:Int) (0:Int)))
 else
  (if (decide (x0 = (23:Int))) = true then
  (some (x11, x12, true, ()))
 else
  (i_HndTouch_j24 k (0:Int) (0:Int))))))
 else
  (if (decide (x0 = (13:Int))) = true then
  (if (decide (x0 = (13:Int))) = true then
  (some (x5, x6, true, ()))
 else
  (if (decide (x0 = (10:Int))) = true then
  (if (decide (x0 = (10:Int))) = true then
  (some (x11, x12, true, ()))
 else
  (i_HndTouch_j24 k (0:Int) (0:Int)))
 else
  (if (decide (x0 = (14:Int))) = true then
  (if (decide (x0 = (14:Int))) = true then
  (some (x11, x12, true, ()))
 else
  (i_HndTouch_j24 k (0:Int) (0:Int)))
 else
  (if (decide (x0 = (23:Int))) = true then
  (some (x11, x12, true, ()))
 else
  (i_HndTouch_j24 k (0:Int) (0:Int))))))
 else
  (if (decide (x0 = (35:Int))) = true then
  (some (x5, x6, true, ()))
 else
  (if (decide (x0 = (10:Int))) = true then
  (if (decide (x0 = (10:Int))) = true then
  (some (x11, x12, true, ()))
 else
  (i_HndTouch_j24 k (0:Int) (0:Int)))
 else
  (if (decide (x0 = (14:Int))) = true then
  (if (decide (x0 = (14:Int))) = true then
  (some (x11, x12, true, ()))
 else
  (i_HndTouch_j24 k (0:Int) (0:Int)))
 else
  (if (decide (x0 = (23:Int))) = true then
  (some (x11, x12, true, ()))
 else
  (i_HndTouch_j24 k (0:Int) (0:Int))))))))))
 else
  (if (decide (x0 = (30:Int))) = true then
  (if (decide (x0 = (30:Int))) = true then
  (some (x7, x8, true, ()))
 else
  (if (decide (x0 = (6:Int))) = true then
  (if (decide (x0 = (6:Int))) = true then
  (some (x5, x6, true, ()))
 else
  (if (decide (x0 = (10:Int))) = true then
  (if (decide (x0 = (10:Int))) = true then
  (some (x11, x12, true, ()))
 else
  (i_HndTouch_j24 k (0:Int) (0:Int)))
 else
  (if (decide (x0 = (14:Int))) = true then
  (if (decide (x0 = (14:Int))) = true then
  (some (x11, x12, true, ()))
 else
  (i_HndTouch_j24 k (0:Int) (0:Int)))
 else
  (if (decide (x0 = (23:Int))) = true then
  (some (x11, x12, true, ()))
 else
  (i_HndTouch_j24 k (0:Int) (0:Int))))))
 else
  (if (decide (x0 = (11:Int))) = true then
  (if (decide (x0 = (11:Int))) = true then
  (some (x5, x6, true, ()))
 else
  (if (decide (x0 = (10:Int))) = true then
  (if (decide (x0 = (10:Int))) = true then
  (some (x11, x12, true, ()))
 else
  (i_HndTouch_j24 k (0:Int) (0:Int)))
 else
  (if (decide (x0 = (14:Int))) = true then
  (if (decide (x0 = (14:Int))) = true then
  (some (x11, x12, true, ()))
 else
  (i_HndTouch_j24 k (0:Int) (0:Int)))
 else
  (if (decide (x0 = (23:Int))) = true then
  (some (x11, x12, true, ()))
 else
  (i_HndTouch_j24 k (0:Int) (0:Int))))))
 else
  (if (decide (x0 = (13:Int))) = true then
  (if (decide (x0 = (13:Int))) = true then
  (some (x5, x6, true, ()))
 else
  (if (decide (x0 = (10:Int))) = true then
  (if (decide (x0 = (10:Int))) = true then
  (some (x11, x12, true, ()))
 else
  (i_HndTouch_j24 k (0:Int) (0:Int)))
 else
  (if (decide (x0 = (14:Int))) = true then
  (if (decide (x0 = (14:Int))) = true then
  (some (x11, x12, true, ()))
 else
  (i_HndTouch_j24 k (0:Int) (0:Int)))
 else
  (if (decide (x0 = (23:Int))) = true then
  (some (x11, x12, true, ()))
 else
  (i_HndTouch_j24 k (0:Int) (0:Int))))))
 else
  (if (decide (x0 = (35:Int))) = true then
  (some (x5, x6, true, ()))
 else
  (if (decide (x0 = (10:Int))) = true then
  (if (decide (x0 = (10:Int))) = true then
  (some (x11, x12, true, ()))
 else
  (i_HndTouch_j24 k (0:Int) (0:Int)))
 else
  (if (decide (x0 = (14:Int))) = true then
  (if (decide (x0 = (14:Int))) = true then
  (some (x11, x12, true, ()))
 else
  (i_HndTouch_j24 k (0:Int) (0:Int)))
 else
  (if (decide (x0 = (23:Int))) = true then
  (some (x11, x12, true, ()))
 else
  (i_HndTouch_j24 k (0:Int) (0:Int))))))))))
 else
  (if (decide (x0 = (33:Int))) = true then
  (if (decide (x0 = (33:Int))) = true then
  (some (x7, x8, true, ()))
 else
  (if (decide (x0 = (6:Int))) = true then
  (if (decide (x0 = (6:Int))) = true then
  (some (x5, x6, true, ()))
 else
  (if (decide (x0 = (10:Int))) = true then
  (if (decide (x0 = (10:Int))) = true then
  (some (x11, x12, true, ()))
 else
  (i_HndTouch_j24 k (0:Int) (0:Int)))
 else
  (if (decide (x0 = (14:Int))) = true then
  (if (decide (x0 = (14:Int))) = true then
  (some (x11, x12, true, ()))
 else
  (i_HndTouch_j24 k (0:Int) (0:Int)))
 else
  (if (decide (x0 = (23:Int))) = true then
  (some (x11, x12, true, ()))
 else
  (i_HndTouch_j24 k (0:Int) (0:Int))))))
 else
  (if (decide (x0 = (11:Int))) = true then
  (if (decide (x0 = (11:Int))) = true then
  (some (x5, x6, true, ()))
 else
  (if (decide (x0 = (10:Int))) = true then
  (if (decide (x0 = (10:Int))) = true then
  (some (x11, x12, true, ()))
 else
  (i_HndTouch_j24 k (0:Int) (0:Int)))
 else
  (if (decide (x0 = (14:Int))) = true then
  (if (decide (x0 = (14:Int))) = true then
  (some (x11, x12, true, ()))
 else
  (i_HndTouch_j24 k (0:Int) (0:Int)))
 else
  (if (decide (x0 = (23:Int))) = true then
  (some (x11, x12, true, ()))
 else
  (i_HndTouch_j24 k (0:Int) (0:Int))))))
 else
  (if (decide (x0 = (13:Int))) = true then
  (if (decide (x0 = (13:Int))) = true then
  (some (x5, x6, true, ()))
 else
  (if (decide (x0 = (10:Int))) = true then
  (if (decide (x0 = (10:Int))) = true then
  (some (x11, x12, true, ()))
 else
  (i_HndTouch_j24 k (0:Int) (0:Int)))
 else
  (if (decide (x0 = (14:Int))) = true then
  (if (decide (x0 = (14:Int))) = true then
  (some (x11, x12, true, ()))
 else
  (i_HndTouch_j24 k (0:Int) (0:Int)))
 else
  (if (decide (x0 = (23:Int))) = true then
  (some (x11, x12, true, ()))
 else
  (i_HndTouch_j24 k (0:Int) (0:Int))))))
 else
  (if (decide (x0 = (35:Int))) = true then
  (some (x5, x6, true, ()))
 else
  (if (decide (x0 = (10:Int))) = true then
  (if (decide (x0 = (10:Int))) = true then
  (some (x11, x12, true, ()))
 else
  (i_HndTouch_j24 k (0:Int) (0:Int)))
 else
  (if (decide (x0 = (14:Int))) = true then
  (if (decide (x0 = (14:Int))) = true then
  (some (x11, x12, true, ()))
 else
  (i_HndTouch_j24 k (0:Int) (0:Int)))
 else
  (if (decide (x0 = (23:Int))) = true then
  (some (x11, x12, true, ()))
 else
  (i_HndTouch_j24 k (0:Int) (0:Int))))))))))
 else
  (if (decide (x0 = (38:Int))) = true then
  (some (x7, x8, true, ()))
 else
  (if (decide (x0 = (6:Int))) = true then
  (if (decide (x0 = (6:Int))) = true then
  (some (x5, x6, true, ()))
 else
  (if (decide (x0 = (10:Int))) = true then
  (if (decide (x0 = (10:Int))) = true then
  (some (x11, x12, true, ()))
 else
  (i_HndTouch_j24 k (0:Int) (0:Int)))
 else
  (if (decide (x0 = (14:Int))) = true then
  (if (decide (x0 = (14:Int))) = true then
  (some (x11, x12, true, ()))
 else
  (i_HndTouch_j24 k (0:Int) (0:Int)))
 else
  (if (decide (x0 = (23:Int))) = true then
  (some (x11, x12, true, ()))
 else
  (i_HndTouch_j24 k (0:Int) (0:Int))))))
 else
  (if (decide (x0 = (11:Int))) = true then
  (if (decide (x0 = (11:Int))) = true then
  (some (x5, x6, true, ()))
 else
  (if (decide (x0 = (10:Int))) = true then
  (if (decide (x0 = (10:Int))) = true then
  (some (x11, x12, true, ()))
 else
  (i_HndTouch_j24 k (0:Int) (0:Int)))
 else
  (if (decide (x0 = (14:Int))) = true then
  (if (decide (x0 = (14:Int))) = true then
  (some (x11, x12, true, ()))
 else
  (i_HndTouch_j24 k (0:Int) (0:Int)))
 else
  (if (decide (x0 = (23:Int))) = true then
  (some (x11, x12, true, ()))
 else
  (i_HndTouch_j24 k (0:Int) (0:Int))))))
 else
  (if (decide (x0 = (13:Int))) = true then
  (if (decide (x0 = (13:Int))) = true then
  (some (x5, x6, true, ()))
 else
  (if (decide (x0 = (10:Int))) = true then
  (if (decide (x0 = (10:Int))) = true then
  (some (x11, x12, true, ()))
 else
  (i_HndTouch_j24 k (0:Int) (0:Int)))
 else
  (if (decide (x0 = (14:Int))) = true then
  (if (decide (x0 = (14:Int))) = true then
  (some (x11, x12, true, ()))
 else
  (i_HndTouch_j24 k (0:Int) (0:Int)))
 else
  (if (decide (x0 = (23:Int))) = true then
  (some (x11, x12, true, ()))
 else
  (i_HndTouch_j24 k (0:Int) (0:Int))))))
 else
  (if (decide (x0 = (35:Int))) = true then
  (some (x5, x6, true, ()))
 else
  (if (decide (x0 = (10:Int))) = true then
  (if (decide (x0 = (10:Int))) = true then
  (some (x11, x12, true, ()))
 else
  (i_HndTouch_j24 k (0:Int) (0:Int)))
 else
  (if (decide (x0 = (14:Int))) = true then
  (if (decide (x0 = (14:Int))) = true then
  (some (x11, x12, true, ()))
 else
  (i_HndTouch_j24 k (0:Int) (0:Int)))
 else
  (if (decide (x0 = (23:Int))) = true then
  (some (x11, x12, true, ()))
 else
  (i_HndTouch_j24 k (0:Int) (0:Int))))))))))))))))))) := by kernel_rfl
noncomputable def i_HndTouch_G (k : Nat) : Dt i_HndTouch_i → Option (Dt i_HndTouch_o) := fun x => i_HndTouch k x.1 x.2.1 x.2.2.1 x.2.2.2.1 x.2.2.2.2.1 x.2.2.2.2.2.1 x.2.2.2.2.2.2.1 x.2.2.2.2.2.2.2.1 x.2.2.2.2.2.2.2.2.1 x.2.2.2.2.2.2.2.2.2.1 x.2.2.2.2.2.2.2.2.2.2.1 x.2.2.2.2.2.2.2.2.2.2.2.1 x.2.2.2.2.2.2.2.2.2.2.2.2.1 x.2.2.2.2.2.2.2.2.2.2.2.2.2.1 x.2.2.2.2.2.2.2.2.2.2.2.2.2.2.1 x.2.2.2.2.2.2.2.2.2.2.2.2.2.2.2.1 x.2.2.2.2.2.2.2.2.2.2.2.2.2.2.2.2.1 x.2.2.2.2.2.2.2.2.2.2.2.2.2.2.2.2.2.1 x.2.2.2.2.2.2.2.2.2.2.2.2.2.2.2.2.2.2.1 x.2.2.2.2.2.2.2.2.2.2.2.2.2.2.2.2.2.2.2.1 x.2.2.2.2.2.2.2.2.2.2.2.2.2.2.2.2.2.2.2.2.1 x.2.2.2.2.2.2.2.2.2.2.2.2.2.2.2.2.2.2.2.2.2.1 x.2.2.2.2.2.2.2.2.2.2.2.2.2.2.2.2.2.2.2.2.2.2.1 x.2.2.2.2.2.2.2.2.2.2.2.2.2.2.2.2.2.2.2.2.2.2.2.1 x.2.2.2.2.2.2.2.2.2.2.2.2.2.2.2.2.2.2.2.2.2.2.2.2.1
theorem i_HndTouch_c (k : Nat) : Comes1 (i_HndTouch_T k) Try.f91 i_HndTouch_i i_HndTouch_o (i_HndTouch_G k) := fun x => by kernel_rfl
noncomputable def i_HndTouch_E (k : Nat) : Env := (i_WldWorld_hasHand_E k).with 91 i_HndTouch_i i_HndTouch_o (i_HndTouch_G k)
theorem i_HndTouch_ok (k : Nat) : EnvOk Try.prog (i_HndTouch_E k) := (i_WldWorld_hasHand_ok k).with mixed (by decide) (by kernel_rfl) (by kernel_rfl) (i_HndTouch_c k) (by kernel_rfl)
/-! ### (loop.example/tuggers/impl.WldWorld).holds -/
@[reducible] def i_WldWorld_holds_i : Sh := ⟨[.c (.agg [.ro q0, .int .i64, .int .i64, .int .i64, .int .i64, .ro (.int .i64), .own 0, .ro q2, .int .i64, .ro q3]), .c (.agg [.int .i64, .int .i64])], [(0, .rows 205 (.list 219 q1))]⟩
@[reducible] def i_WldWorld_holds_o : Sh := ⟨[.c (.leaf (.bool))], [(0, .rows 205 (.list 219 q1))]⟩
noncomputable def i_WldWorld_holds_T (k : Nat) : Env := ((i_HndTouch_E k).at 1 k [] [] []).gated (fun _ => true)
noncomputable def i_WldWorld_holds (k : Nat) (x0 : List (Int × (Int × (Int × (Int × (Bool × Int)))))) (x1 : Int) (x2 : Int) (x3 : Int) (x4 : Int) (x5 : List Int) (x6 : List (Int × ((Int × (Int × Int)) × (Int × ((Int × Int) × ((Int × Int) × (Int × (Int × ((Int × Int) × ((Int × Int) × (Int × (Int × ((Int × Int) × (Int × (Bool × (ByteArray × (ByteArray × (Int × Int)))))))))))))))))) (x7 : Int) (x8 : List (Int × ((Int × (Int × Int)) × ((Int × Int) × (Int × (Int × Int)))))) (x9 : Int) (x10 : Int) (x11 : List (List (Int × Int))) : Option (Dt i_WldWorld_holds_o) := evFn (i_WldWorld_holds_T k) Try.f92 [.c (.agg [.ro q0 x0, .int .i64 x1, .int .i64 x2, .int .i64 x3, .int .i64 x4, .ro (.int .i64) x5, .own 0, .ro q2 x6, .int .i64 x7, .ro q3 x8]), .c (.agg [.int .i64 x9, .int .i64 x10])] [(0, .rows 205 (.list 219 q1) x11)] (unOut i_WldWorld_holds_o)
theorem i_WldWorld_holds_eq (k : Nat) (x0 : List (Int × (Int × (Int × (Int × (Bool × Int)))))) (x1 : Int) (x2 : Int) (x3 : Int) (x4 : Int) (x5 : List Int) (x6 : List (Int × ((Int × (Int × Int)) × (Int × ((Int × Int) × ((Int × Int) × (Int × (Int × ((Int × Int) × ((Int × Int) × (Int × (Int × ((Int × Int) × (Int × (Bool × (ByteArray × (ByteArray × (Int × Int)))))))))))))))))) (x7 : Int) (x8 : List (Int × ((Int × (Int × Int)) × ((Int × Int) × (Int × (Int × Int)))))) (x9 : Int) (x10 : Int) (x11 : List (List (Int × Int))) : i_WldWorld_holds k x0 x1 x2 x3 x4 x5 x6 x7 x8 x9 x10 x11 =
  (if (decide ((0:Int) ≤ x9)) = true then
  (if (decide (x9 < (List.length x0 : Int))) = true then
  (if (0:Int) ≤ x9 ∧ x9 < (List.length x0 : Int) then
  (if (x0.getD (Int.toNat x9) ((0:Int), ((0:Int), ((0:Int), ((0:Int), (false, (0:Int))))))).2.2.2.2.1 = true then
  (if (0:Int) ≤ x9 ∧ x9 < (List.length x0 : Int) then
  (some ((decide ((x0.getD (Int.toNat x9) ((0:Int), ((0:Int), ((0:Int), ((0:Int), (false, (0:Int))))))).2.2.2.2.2 = x10)), x11, ()))
 else none)
 else
  (some (false, x11, ())))
 else none)
 else
  (some (false, x11, ())))
 else
  (some (false, x11, ()))) := by kernel_rfl
noncomputable def i_WldWorld_holds_G (k : Nat) : Dt i_WldWorld_holds_i → Option (Dt i_WldWorld_holds_o) := fun x => i_WldWorld_holds k x.1 x.2.1 x.2.2.1 x.2.2.2.1 x.2.2.2.2.1 x.2.2.2.2.2.1 x.2.2.2.2.2.2.1 x.2.2.2.2.2.2.2.1 x.2.2.2.2.2.2.2.2.1 x.2.2.2.2.2.2.2.2.2.1 x.2.2.2.2.2.2.2.2.2.2.1 x.2.2.2.2.2.2.2.2.2.2.2.1
theorem i_WldWorld_holds_c (k : Nat) : Comes1 (i_WldWorld_holds_T k) Try.f92 i_WldWorld_holds_i i_WldWorld_holds_o (i_WldWorld_holds_G k) := fun x => by kernel_rfl
noncomputable def i_WldWorld_holds_E (k : Nat) : Env := (i_HndTouch_E k).with 92 i_WldWorld_holds_i i_WldWorld_holds_o (i_WldWorld_holds_G k)
theorem i_WldWorld_holds_ok (k : Nat) : EnvOk Try.prog (i_WldWorld_holds_E k) := (i_HndTouch_ok k).with mixed (by decide) (by kernel_rfl) (by kernel_rfl) (i_WldWorld_holds_c k) (by kernel_rfl)
/-! ### loop.example/tuggers/impl.AudTouch -/
@[reducible] def i_AudTouch_i : Sh := ⟨[.c (.agg [.ro q0, .int .i64, .int .i64, .int .i64, .int .i64, .ro (.int .i64), .own 0, .ro q2, .int .i64, .ro q3]), .c (.leaf (.int .i64))], [(0, .rows 205 (.list 219 q1))]⟩
@[reducible] def i_AudTouch_o : Sh := ⟨[.c (.leaf (.bool))], [(0, .rows 205 (.list 219 q1))]⟩
noncomputable def i_AudTouch_T (k : Nat) : Env := ((i_WldWorld_holds_E k).at 1 k [] [] []).gated (fun _ => true)
noncomputable def i_AudTouch (k : Nat) (x0 : List (Int × (Int × (Int × (Int × (Bool × Int)))))) (x1 : Int) (x2 : Int) (x3 : Int) (x4 : Int) (x5 : List Int) (x6 : List (Int × ((Int × (Int × Int)) × (Int × ((Int × Int) × ((Int × Int) × (Int × (Int × ((Int × Int) × ((Int × Int) × (Int × (Int × ((Int × Int) × (Int × (Bool × (ByteArray × (ByteArray × (Int × Int)))))))))))))))))) (x7 : Int) (x8 : List (Int × ((Int × (Int × Int)) × ((Int × Int) × (Int × (Int × Int)))))) (x9 : Int) (x10 : List (List (Int × Int))) : Option (Dt i_AudTouch_o) := evFn (i_AudTouch_T k) Try.f35 [.c (.agg [.ro q0 x0, .int .i64 x1, .int .i64 x2, .int .i64 x3, .int .i64 x4, .ro (.int .i64) x5, .own 0, .ro q2 x6, .int .i64 x7, .ro q3 x8]), .c (.leaf (.int .i64 x9))] [(0, .rows 205 (.list 219 q1) x10)] (unOut i_AudTouch_o)
theorem i_AudTouch_eq (k : Nat) (x0 : List (Int × (Int × (Int × (Int × (Bool × Int)))))) (x1 : Int) (x2 : Int) (x3 : Int) (x4 : Int) (x5 : List Int) (x6 : List (Int × ((Int × (Int × Int)) × (Int × ((Int × Int) × ((Int × Int) × (Int × (Int × ((Int × Int) × ((Int × Int) × (Int × (Int × ((Int × Int) × (Int × (Bool × (ByteArray × (ByteArray × (Int × Int)))))))))))))))))) (x7 : Int) (x8 : List (Int × ((Int × (Int × Int)) × ((Int × Int) × (Int × (Int × Int)))))) (x9 : Int) (x10 : List (List (Int × Int))) : i_AudTouch k x0 x1 x2 x3 x4 x5 x6 x7 x8 x9 x10 =
  (if (decide (¬ (List.length x6 : Int) = (3:Int))) = true then
  (some (false, x10, ()))
 else
  (if (decide (¬ (List.length x0 : Int) = (10:Int))) = true then
  (some (false, x10, ()))
 else
  ((i_WldWorld_hasHand k x9 x0 x1 x2 x3 x4 x5 x6 x7 x8 x10).bind fun y1 =>
  (if (!y1.1) = true then
  (some (false, y1.2.2.2.2.2.2.2.2.2.2.1, ()))
 else
  (if (0:Int) ≤ x9 ∧ x9 < (List.length y1.2.2.2.2.2.2.2.1 : Int) then
  ((i_HndTouch k (y1.2.2.2.2.2.2.2.1.getD (Int.toNat x9) ((0:Int), (((0:Int), ((0:Int), (0:Int))), ((0:Int), (((0:Int), (0:Int)), (((0:Int), (0:Int)), ((0:Int), ((0:Int), (((0:Int), (0:Int)), (((0:Int), (0:Int)), ((0:Int), ((0:Int), (((0:Int), (0:Int)), ((0:Int), (false, (ByteArray.empty, (ByteArray.empty, ((0:Int), (0:Int))))))))))))))))))).1 (y1.2.2.2.2.2.2.2.1.getD (Int.toNat x9) ((0:Int), (((0:Int), ((0:Int), (0:Int))), ((0:Int), (((0:Int), (0:Int)), (((0:Int), (0:Int)), ((0:Int), ((0:Int), (((0:Int), (0:Int)), (((0:Int), (0:Int)), ((0:Int), ((0:Int), (((0:Int), (0:Int)), ((0:Int), (false, (ByteArray.empty, (ByteArray.empty, ((0:Int), (0:Int))))))))))))))))))).2.1.1 (y1.2.2.2.2.2.2.2.1.getD (Int.toNat x9) ((0:Int), (((0:Int), ((0:Int), (0:Int))), ((0:Int), (((0:Int), (0:Int)), (((0:Int), (0:Int)), ((0:Int), ((0:Int), (((0:Int), (0:Int)), (((0:Int), (0:Int)), ((0:Int), ((0:Int), (((0:Int), (0:Int)), ((0:Int), (false, (ByteArray.empty, (ByteArray.empty, ((0:Int), (0:Int))))))))))))))))))).2.1.2.1 (y1.2.2.2.2.2.2.2.1.getD (Int.toNat x9) ((0:Int), (((0:Int), ((0:Int), (0:Int))), ((0:Int), (((0:Int), (0:Int)), (((0:Int), (0:Int)), ((0:Int), ((0:Int), (((0:Int), (0:Int)), (((0:Int), (0:Int)), ((0:Int), ((0:Int), (((0:Int), (0:Int)), ((0:Int), (false, (ByteArray.empty, (ByteArray.empty, ((0:Int), (0:Int))))))))))))))))))).2.1.2.2 (y1.2.2.2.2.2.2.2.1.getD (Int.toNat x9) ((0:Int), (((0:Int), ((0:Int), (0:Int))), ((0:Int), (((0:Int), (0:Int)), (((0:Int), (0:Int)), ((0:Int), ((0:Int), (((0:Int), (0:Int)), (((0:Int), (0:Int)), ((0:Int), ((0:Int), (((0:Int), (0:Int)), ((0:Int), (false, (ByteArray.empty, (ByteArray.empty, ((0:Int), (0:Int))))))))))))))))))).2.2.1 (y1.2.2.2.2.2.2.2.1.getD (Int.toNat x9) ((0:Int), (((0:Int), ((0:Int), (0:Int))), ((0:Int), (((0:Int), (0:Int)), (((0:Int), (0:Int)), ((0:Int), ((0:Int), (((0:Int), (0:Int)), (((0:Int), (0:Int)), ((0:Int), ((0:Int), (((0:Int), (0:Int)), ((0:Int), (false, (ByteArray.empty, (ByteArray.empty, ((0:Int), (0:Int))))))))))))))))))).2.2.2.1.1 (y1.2.2.2.2.2.2.2.1.getD (Int.toNat x9) ((0:Int), (((0:Int), ((0:Int), (0:Int))), ((0:Int), (((0:Int), (0:Int)), (((0:Int), (0:Int)), ((0:Int), ((0:Int), (((0:Int), (0:Int)), (((0:Int), (0:Int)), ((0:Int), ((0:Int), (((0:Int), (0:Int)), ((0:Int), (false, (ByteArray.empty, (ByteArray.empty, ((0:Int), (0:Int))))))))))))))))))).2.2.2.1.2 (y1.2.2.2.2.2.2.2.1.getD (Int.toNat x9) ((0:Int), (((0:Int), ((0:Int), (0:Int))), ((0:Int), (((0:Int), (0:Int)), (((0:Int), (0:Int)), ((0:Int), ((0:Int), (((0:Int), (0:Int)), (((0:Int), (0:Int)), ((0:Int), ((0:Int), (((0:Int), (0:Int)), ((0:Int), (false, (ByteArray.empty, (ByteArray.empty, ((0:Int), (0:Int))))))))))))))))))).2.2.2.2.1.1 (y1.2.2.2.2.2.2.2.1.getD (Int.toNat x9) ((0:Int), (((0:Int), ((0:Int), (0:Int))), ((0:Int), (((0:Int), (0:Int)), (((0:Int), (0:Int)), ((0:Int), ((0:Int), (((0:Int), (0:Int)), (((0:Int), (0:Int)), ((0:Int), ((0:Int), (((0:Int), (0:Int)), ((0:Int), (false, (ByteArray.empty, (ByteArray.empty, ((0:Int), (0:Int))))))))))))))))))).2.2.2.2.1.2 (y1.2.2.2.2.2.2.2.1.getD (Int.toNat x9) ((0:Int), (((0:Int), ((0:Int), (0:Int))), ((0:Int), (((0:Int), (0:Int)), (((0:Int), (0:Int)), ((0:Int), ((0:Int), (((0:Int), (0:Int)), (((0:Int), (0:Int)), ((0:Int), ((0:Int), (((0:Int), (0:Int)), ((0:Int), (false, (ByteArray.empty, (ByteArray.empty, ((0:Int), (0:Int))))))))))))))))))).2.2.2.2.2.1 (y1.2.2.2.2.2.2.2.1.getD (Int.toNat x9) ((0:Int), (((0:Int), ((0:Int), (0:Int))), ((0:Int), (((0:Int), (0:Int)), (((0:Int), (0:Int)), ((0:Int), ((0:Int), (((0:Int), (0:Int)), (((0:Int), (0:Int)), ((0:Int), ((0:Int), (((0:Int), (0:Int)), ((0:Int), (false, (ByteArray.empty, (ByteArray.empty, ((0:Int), (0:Int))))))))))))))))))).2.2.2.2.2.2.1 (y1.2.2.2.2.2.2.2.1.getD (Int.toNat x9) ((0:Int), (((0:Int), ((0:Int), (0:Int))), ((0:Int), (((0:Int), (0:Int)), (((0:Int), (0:Int)), ((0:Int), ((0:Int), (((0:Int), (0:Int)), (((0:Int), (0:Int)), ((0:Int), ((0:Int), (((0:Int), (0:Int)), ((0:Int), (false, (ByteArray.empty, (ByteArray.empty, ((0:Int), (0:Int))))))))))))))))))).2.2.2.2.2.2.2.1.1 (y1.2.2.2.2.2.2.2.1.getD (Int.toNat x9) ((0:Int), (((0:Int), ((0:Int), (0:Int))), ((0:Int), (((0:Int), (0:Int)), (((0:Int), (0:Int)), ((0:Int), ((0:Int), (((0:Int), (0:Int)), (((0:Int), (0:Int)), ((0:Int), ((0:Int), (((0:Int), (0:Int)), ((0:Int), (false, (ByteArray.empty, (ByteArray.empty, ((0:Int), (0:Int))))))))))))))))))).2.2.2.2.2.2.2.1.2 (y1.2.2.2.2.2.2.2.1.getD (Int.toNat x9) ((0:Int), (((0:Int), ((0:Int), (0:Int))), ((0:Int), (((0:Int), (0:Int)), (((0:Int), (0:Int)), ((0:Int), ((0:Int), (((0:Int), (0:Int)), (((0:Int), (0:Int)), ((0:Int), ((0:Int), (((0:Int), (0:Int)), ((0:Int), (false, (ByteArray.empty, (ByteArray.empty, ((0:Int), (0:Int))))))))))))))))))).2.2.2.2.2.2.2.2.1.1 (y1.2.2.2.2.2.2.2.1.getD (Int.toNat x9) ((0:Int), (((0:Int), ((0:Int), (0:Int))), ((0:Int), (((0:Int), (0:Int)), (((0:Int), (0:Int)), ((0:Int), ((0:Int), (((0:Int), (0:Int)), (((0:Int), (0:Int)), ((0:Int), ((0:Int), (((0:Int), (0:Int)), ((0:Int), (false, (ByteArray.empty, (ByteArray.empty, ((0:Int), (0:Int))))))))))))))))))).2.2.2.2.2.2.2.2.1.2 (y1.2.2.2.2.2.2.2.1.getD (Int.toNat x9) ((0:Int), (((0:Int), ((0:Int), (0:Int))), ((0:Int), (((0:Int), (0:Int)), (((0:Int), (0:Int)), ((0:Int), ((0:Int), (((0:Int), (0:Int)), (((0:Int), (0:Int)), ((0:Int), ((0:Int), (((0:Int), (0:Int)), ((0:Int), (false, (ByteArray.empty, (ByteArray.empty, ((0:Int), (0:Int))))))))))))))))))).2.2.2.2.2.2.2.2.2.1 (y1.2.2.2.2.2.2.2.1.getD (Int.toNat x9) ((0:Int), (((0:Int), ((0:Int), (0:Int))), ((0:Int), (((0:Int), (0:Int)), (((0:Int), (0:Int)), ((0:Int), ((0:Int), (((0:Int), (0:Int)), (((0:Int), (0:Int)), ((0:Int), ((0:Int), (((0:Int), (0:Int)), ((0:Int), (false, (ByteArray.empty, (ByteArray.empty, ((0:Int), (0:Int))))))))))))))))))).2.2.2.2.2.2.2.2.2.2.1 (y1.2.2.2.2.2.2.2.1.getD (Int.toNat x9) ((0:Int), (((0:Int), ((0:Int), (0:Int))), ((0:Int), (((0:Int), (0:Int)), (((0:Int), (0:Int)), ((0:Int), ((0:Int), (((0:Int), (0:Int)), (((0:Int), (0:Int)), ((0:Int), ((0:Int), (((0:Int), (0:Int)), ((0:Int), (false, (ByteArray.empty, (ByteArray.empty, ((0:Int), (0:Int))))))))))))))))))).2.2.2.2.2.2.2.2.2.2.2.1.1 (y1.2.2.2.2.2.2.2.1.getD (Int.toNat x9) ((0:Int), (((0:Int), ((0:Int), (0:Int))), ((0:Int), (((0:Int), (0:Int)), (((0:Int), (0:Int)), ((0:Int), ((0:Int), (((0:Int), (0:Int)), (((0:Int), (0:Int)), ((0:Int), ((0:Int), (((0:Int), (0:Int)), ((0:Int), (false, (ByteArray.empty, (ByteArray.empty, ((0:Int), (0:Int))))))))))))))))))).2.2.2.2.2.2.2.2.2.2.2.1.2 (y1.2.2.2.2.2.2.2.1.getD (Int.toNat x9) ((0:Int), (((0:Int), ((0:Int), (0:Int))), ((0:Int), (((0:Int), (0:Int)), (((0:Int), (0:Int)), ((0:Int), ((0:Int), (((0:Int), (0:Int)), (((0:Int), (0:Int)), ((0:Int), ((0:Int), (((0:Int), (0:Int)), ((0:Int), (false, (ByteArray.empty, (ByteArray.empty, ((0:Int), (0:Int))))))))))))))))))).2.2.2.2.2.2.2.2.2.2.2.2.1 (y1.2.2.2.2.2.2.2.1.getD (Int.toNat x9) ((0:Int), (((0:Int), ((0:Int), (0:Int))), ((0:Int), (((0:Int), (0:Int)), (((0:Int), (0:Int)), ((0:Int), ((0:Int), (((0:Int), (0:Int)), (((0:Int), (0:Int)), ((0:Int), ((0:Int), (((0:Int), (0:Int)), ((0:Int), (false, (ByteArray.empty, (ByteArray.empty, ((0:Int), (0:Int))))))))))))))))))).2.2.2.2.2.2.2.2.2.2.2.2.2.1 (y1.2.2.2.2.2.2.2.1.getD (Int.toNat x9) ((0:Int), (((0:Int), ((0:Int), (0:Int))), ((0:Int), (((0:Int), (0:Int)), (((0:Int), (0:Int)), ((0:Int), ((0:Int), (((0:Int), (0:Int)), (((0:Int), (0:Int)), ((0:Int), ((0:Int), (((0:Int), (0:Int)), ((0:Int), (false, (ByteArray.empty, (ByteArray.empty, ((0:Int), (0:Int))))))))))))))))))).2.2.2.2.2.2.2.2.2.2.2.2.2.2.1 (y1.2.2.2.2.2.2.2.1.getD (Int.toNat x9) ((0:Int), (((0:Int), ((0:Int), (0:Int))), ((0:Int), (((0:Int), (0:Int)), (((0:Int), (0:Int)), ((0:Int), ((0:Int), (((0:Int), (0:Int)), (((0:Int), (0:Int)), ((0:Int), ((0:Int), (((0:Int), (0:Int)), ((0:Int), (false, (ByteArray.empty, (ByteArray.empty, ((0:Int), (0:Int))))))))))))))))))).2.2.2.2.2.2.2.2.2.2.2.2.2.2.2.1 (y1.2.2.2.2.2.2.2.1.getD (Int.toNat x9) ((0:Int), (((0:Int), ((0:Int), (0:Int))), ((0:Int), (((0:Int), (0:Int)), (((0:Int), (0:Int)), ((0:Int), ((0:Int), (((0:Int), (0:Int)), (((0:Int), (0:Int)), ((0:Int), ((0:Int), (((0:Int), (0:Int)), ((0:Int), (false, (ByteArray.empty, (ByteArray.empty, ((0:Int), (0:Int))))))))))))))))))).2.2.2.2.2.2.2.2.2.2.2.2.2.2.2.2.1 (y1.2.2.2.2.2.2.2.1.getD (Int.toNat x9) ((0:Int), (((0:Int), ((0:Int), (0:Int))), ((0:Int), (((0:Int), (0:Int)), (((0:Int), (0:Int)), ((0:Int), ((0:Int), (((0:Int), (0:Int)), (((0:Int), (0:Int)), ((0:Int), ((0:Int), (((0:Int), (0:Int)), ((0:Int), (false, (ByteArray.empty, (ByteArray.empty, ((0:Int), (0:Int))))))))))))))))))).2.2.2.2.2.2.2.2.2.2.2.2.2.2.2.2.2).bind fun y2 =>
  (if (!y2.2.2.1) = true then
  (some (true, y1.2.2.2.2.2.2.2.2.2.2.1, ()))
 else
  ((i_WldWorld_holds k y1.2.1 y1.2.2.1 y1.2.2.2.1 y1.2.2.2.2.1 y1.2.2.2.2.2.1 y1.2.2.2.2.2.2.1 y1.2.2.2.2.2.2.2.1 y1.2.2.2.2.2.2.2.2.1 y1.2.2.2.2.2.2.2.2.2.1 y2.1 y2.2.1 y1.2.2.2.2.2.2.2.2.2.2.1).bind fun y3 =>
  (some (y3.1, y3.2.1, ())))))
 else none))))) := by kernel_rfl
noncomputable def i_AudTouch_G (k : Nat) : Dt i_AudTouch_i → Option (Dt i_AudTouch_o) := fun x => i_AudTouch k x.1 x.2.1 x.2.2.1 x.2.2.2.1 x.2.2.2.2.1 x.2.2.2.2.2.1 x.2.2.2.2.2.2.1 x.2.2.2.2.2.2.2.1 x.2.2.2.2.2.2.2.2.1 x.2.2.2.2.2.2.2.2.2.1 x.2.2.2.2.2.2.2.2.2.2.1
theorem i_AudTouch_c (k : Nat) : Comes1 (i_AudTouch_T k) Try.f35 i_AudTouch_i i_AudTouch_o (i_AudTouch_G k) := fun x => by kernel_rfl
noncomputable def i_AudTouch_E (k : Nat) : Env := (i_WldWorld_holds_E k).with 35 i_AudTouch_i i_AudTouch_o (i_AudTouch_G k)
theorem i_AudTouch_ok (k : Nat) : EnvOk Try.prog (i_AudTouch_E k) := (i_WldWorld_holds_ok k).with mixed (by decide) (by kernel_rfl) (by kernel_rfl) (i_AudTouch_c k) (by kernel_rfl)
/-! ### loop.example/tuggers/laws.eqPolOld -/
@[reducible] def w_eqPolOld_i : Sh := ⟨[.c (.agg [.int .i64, .int .i64]), .c (.agg [.int .i64, .int .i64])], []⟩
@[reducible] def w_eqPolOld_o : Sh := ⟨[.c (.leaf (.bool))], []⟩
noncomputable def w_eqPolOld_T (k : Nat) : Env := ((i_AudTouch_E k).at 0 k [] [] []).gated (fun _ => true)
noncomputable def w_eqPolOld (k : Nat) (x0 : Int) (x1 : Int) (x2 : Int) (x3 : Int) : Option (Dt w_eqPolOld_o) := evFn (w_eqPolOld_T k) Try.f194 [.c (.agg [.int .i64 x0, .int .i64 x1]), .c (.agg [.int .i64 x2, .int .i64 x3])] [] (unOut w_eqPolOld_o)
theorem w_eqPolOld_eq (k : Nat) (x0 : Int) (x1 : Int) (x2 : Int) (x3 : Int) : w_eqPolOld k x0 x1 x2 x3 =
  (if (decide (¬ x0 = x2)) = true then
  (some (false, ()))
 else
  (if (decide (¬ x1 = x3)) = true then
  (some (false, ()))
 else
  (some (true, ())))) := by kernel_rfl
noncomputable def w_eqPolOld_G (k : Nat) : Dt w_eqPolOld_i → Option (Dt w_eqPolOld_o) := fun x => w_eqPolOld k x.1 x.2.1 x.2.2.1 x.2.2.2.1
theorem w_eqPolOld_c (k : Nat) : Comes1 (w_eqPolOld_T k) Try.f194 w_eqPolOld_i w_eqPolOld_o (w_eqPolOld_G k) := fun x => by kernel_rfl
noncomputable def w_eqPolOld_E (k : Nat) : Env := (i_AudTouch_E k).with 194 w_eqPolOld_i w_eqPolOld_o (w_eqPolOld_G k)
theorem w_eqPolOld_ok (k : Nat) : EnvOk Try.prog (w_eqPolOld_E k) := (i_AudTouch_ok k).with mixed (by decide) (by kernel_rfl) (by kernel_rfl) (w_eqPolOld_c k) (by kernel_rfl)
/-! ### loop.example/tuggers/laws.eqPolOldS -/
@[reducible] def w_eqPolOldS_i : Sh := ⟨[.c (.leaf (.ro q1)), .c (.leaf (.ro q1))], []⟩
@[reducible] def w_eqPolOldS_o : Sh := ⟨[.c (.leaf (.bool))], []⟩
noncomputable def w_eqPolOldS_T (k : Nat) : Env := ((w_eqPolOld_E k).at 0 k [] [(4, ⟨[0, 1, 5], []⟩)] []).gated (fun _ => true)
noncomputable def w_eqPolOldS_l4 (k n0 : Nat) (v0 : List (Int × Int)) (v1 : List (Int × Int)) (v2 : Int) : Option (Dt w_eqPolOldS_o) := atLoop (w_eqPolOldS_T k) (subF Try.f183 [.r, .r, .l, .r, .l]) n0 ⟨tml 27 [(0, .c (.leaf (.ro q1 v0))), (1, .c (.leaf (.ro q1 v1))), (5, .c (.leaf (.int .i64 v2)))], []⟩ (kbl (subF Try.f183 [.r, .r, .l, .r]) (ksq (w_eqPolOldS_T k) (subF Try.f183 [.r, .r]) (kret (w_eqPolOldS_T k) Try.f183.results.toList (unOut w_eqPolOldS_o))))
noncomputable def w_eqPolOldS (k : Nat) (x0 : List (Int × Int)) (x1 : List (Int × Int)) : Option (Dt w_eqPolOldS_o) := evFn (w_eqPolOldS_T k) Try.f183 [.c (.leaf (.ro q1 x0)), .c (.leaf (.ro q1 x1))] [] (unOut w_eqPolOldS_o)
theorem w_eqPolOldS_l4_0 (k : Nat) (v0 : List (Int × Int)) (v1 : List (Int × Int)) (v2 : Int) : w_eqPolOldS_l4 k 0 v0 v1 v2 = none := by kernel_rfl
theorem w_eqPolOldS_l4_s (k n0 : Nat) (v0 : List (Int × Int)) (v1 : List (Int × Int)) (v2 : Int) : w_eqPolOldS_l4 k (n0 + 1) v0 v1 v2 =
  (if (decide (v2 < (List.length v0 : Int))) = true then
  (if (0:Int) ≤ v2 ∧ v2 < (List.length v0 : Int) then
  (if (0:Int) ≤ v2 ∧ v2 < (List.length v1 : Int) then
  ((w_eqPolOld k (v0.getD (Int.toNat v2) ((0:Int), (0:Int))).1 (v0.getD (Int.toNat v2) ((0:Int), (0:Int))).2 (v1.getD (Int.toNat v2) ((0:Int), (0:Int))).1 (v1.getD (Int.toNat v2) ((0:Int), (0:Int))).2).bind fun y1 =>
  (if (!y1.1) = true then
  (some (false, ()))
 else
  (w_eqPolOldS_l4 k n0 v0 v1 (W (v2 + (1:Int))))))
 else none)
 else none)
 else
  (some (true, ()))) := by kernel_rfl
theorem w_eqPolOldS_eq (k : Nat) (x0 : List (Int × Int)) (x1 : List (Int × Int)) : w_eqPolOldS k x0 x1 =
  (if (decide (¬ (List.length x0 : Int) = (List.length x1 : Int))) = true then
  (some (false, ()))
 else
  (w_eqPolOldS_l4 k k x0 x1 (0:Int))) := by kernel_rfl
noncomputable def w_eqPolOldS_G (k : Nat) : Dt w_eqPolOldS_i → Option (Dt w_eqPolOldS_o) := fun x => w_eqPolOldS k x.1 x.2.1
theorem w_eqPolOldS_c (k : Nat) : Comes1 (w_eqPolOldS_T k) Try.f183 w_eqPolOldS_i w_eqPolOldS_o (w_eqPolOldS_G k) := fun x => by kernel_rfl
noncomputable def w_eqPolOldS_E (k : Nat) : Env := (w_eqPolOld_E k).with 183 w_eqPolOldS_i w_eqPolOldS_o (w_eqPolOldS_G k)
theorem w_eqPolOldS_ok (k : Nat) : EnvOk Try.prog (w_eqPolOldS_E k) := (w_eqPolOld_ok k).with mixed (by decide) (by kernel_rfl) (by kernel_rfl) (w_eqPolOldS_c k) (by kernel_rfl)
/-! ### loop.example/tuggers/laws.eqPolOldSS -/
@[reducible] def w_eqPolOldSS_i : Sh := ⟨[.c (.leaf (.own 0)), .c (.leaf (.own 1))], [(0, .rows 205 (.list 219 q1)), (1, .rows 205 (.list 219 q1))]⟩
@[reducible] def w_eqPolOldSS_o : Sh := ⟨[.c (.leaf (.bool))], [(0, .rows 205 (.list 219 q1)), (1, .rows 205 (.list 219 q1))]⟩
noncomputable def w_eqPolOldSS_T (k : Nat) : Env := ((w_eqPolOldS_E k).at 2 k [] [(4, ⟨[0, 1, 5], []⟩)] []).gated (fun _ => true)
noncomputable def w_eqPolOldSS_l4 (k n0 : Nat) (v0 : Int) (v1 : List (List (Int × Int))) (v2 : List (List (Int × Int))) : Option (Dt w_eqPolOldSS_o) := atLoop (w_eqPolOldSS_T k) (subF Try.f158 [.r, .r, .l, .r, .l]) n0 ⟨tml 27 [(0, .c (.leaf (.own 0))), (1, .c (.leaf (.own 1))), (5, .c (.leaf (.int .i64 v0)))], [(0, .rows 205 (.list 219 q1) v1), (1, .rows 205 (.list 219 q1) v2)]⟩ (kbl (subF Try.f158 [.r, .r, .l, .r]) (ksq (w_eqPolOldSS_T k) (subF Try.f158 [.r, .r]) (kret (w_eqPolOldSS_T k) Try.f158.results.toList (unOut w_eqPolOldSS_o))))
noncomputable def w_eqPolOldSS (k : Nat) (x0 : List (List (Int × Int))) (x1 : List (List (Int × Int))) : Option (Dt w_eqPolOldSS_o) := evFn (w_eqPolOldSS_T k) Try.f158 [.c (.leaf (.own 0)), .c (.leaf (.own 1))] [(0, .rows 205 (.list 219 q1) x0), (1, .rows 205 (.list 219 q1) x1)] (unOut w_eqPolOldSS_o)
theorem w_eqPolOldSS_l4_0 (k : Nat) (v0 : Int) (v1 : List (List (Int × Int))) (v2 : List (List (Int × Int))) : w_eqPolOldSS_l4 k 0 v0 v1 v2 = none := by kernel_rfl
theorem w_eqPolOldSS_l4_s (k n0 : Nat) (v0 : Int) (v1 : List (List (Int × Int))) (v2 : List (List (Int × Int))) : w_eqPolOldSS_l4 k (n0 + 1) v0 v1 v2 =
  (if (decide (v0 < (List.length v1 : Int))) = true then
  (if (0:Int) ≤ v0 ∧ v0 < (List.length v1 : Int) then
  (if (0:Int) ≤ v0 ∧ v0 < (List.length v2 : Int) then
  ((w_eqPolOldS k (v1.getD (Int.toNat v0) []) (v2.getD (Int.toNat v0) [])).bind fun y1 =>
  (if (!y1.1) = true then
  (some (false, v1, v2, ()))
 else
  (w_eqPolOldSS_l4 k n0 (W (v0 + (1:Int))) v1 v2)))
 else none)
 else none)
 else
  (some (true, v1, v2, ()))) := by kernel_rfl
theorem w_eqPolOldSS_eq (k : Nat) (x0 : List (List (Int × Int))) (x1 : List (List (Int × Int))) : w_eqPolOldSS k x0 x1 =
  (if (decide (¬ (List.length x0 : Int) = (List.length x1 : Int))) = true then
  (some (false, x0, x1, ()))
 else
  (w_eqPolOldSS_l4 k k (0:Int) x0 x1)) := by kernel_rfl
noncomputable def w_eqPolOldSS_G (k : Nat) : Dt w_eqPolOldSS_i → Option (Dt w_eqPolOldSS_o) := fun x => w_eqPolOldSS k x.1 x.2.1
theorem w_eqPolOldSS_c (k : Nat) : Comes1 (w_eqPolOldSS_T k) Try.f158 w_eqPolOldSS_i w_eqPolOldSS_o (w_eqPolOldSS_G k) := fun x => by kernel_rfl
noncomputable def w_eqPolOldSS_E (k : Nat) : Env := (w_eqPolOldS_E k).with 158 w_eqPolOldSS_i w_eqPolOldSS_o (w_eqPolOldSS_G k)
theorem w_eqPolOldSS_ok (k : Nat) : EnvOk Try.prog (w_eqPolOldSS_E k) := (w_eqPolOldS_ok k).with mixed (by decide) (by kernel_rfl) (by kernel_rfl) (w_eqPolOldSS_c k) (by kernel_rfl)
/-! ### loop.example/tuggers/laws.eqPolPool -/
@[reducible] def w_eqPolPool_i : Sh := ⟨[.c (.agg [.int .i64, .ro (.int .i64), .own 0]), .c (.agg [.int .i64, .ro (.int .i64), .own 1])], [(0, .rows 205 (.list 219 q1)), (1, .rows 205 (.list 219 q1))]⟩
@[reducible] def w_eqPolPool_o : Sh := ⟨[.c (.leaf (.bool))], [(0, .rows 205 (.list 219 q1)), (1, .rows 205 (.list 219 q1))]⟩
noncomputable def w_eqPolPool_T (k : Nat) : Env := ((w_eqPolOldSS_E k).at 2 k [] [] []).gated (fun _ => true)
noncomputable def w_eqPolPool (k : Nat) (x0 : Int) (x1 : List Int) (x2 : Int) (x3 : List Int) (x4 : List (List (Int × Int))) (x5 : List (List (Int × Int))) : Option (Dt w_eqPolPool_o) := evFn (w_eqPolPool_T k) Try.f93 [.c (.agg [.int .i64 x0, .ro (.int .i64) x1, .own 0]), .c (.agg [.int .i64 x2, .ro (.int .i64) x3, .own 1])] [(0, .rows 205 (.list 219 q1) x4), (1, .rows 205 (.list 219 q1) x5)] (unOut w_eqPolPool_o)
theorem w_eqPolPool_eq (k : Nat) (x0 : Int) (x1 : List Int) (x2 : Int) (x3 : List Int) (x4 : List (List (Int × Int))) (x5 : List (List (Int × Int))) : w_eqPolPool k x0 x1 x2 x3 x4 x5 =
  (if (decide (¬ x0 = x2)) = true then
  (some (false, x4, x5, ()))
 else
  ((w_eqIntS k x1 x3).bind fun y1 =>
  (if (!y1.1) = true then
  (some (false, x4, x5, ()))
 else
  ((w_eqPolOldSS k x4 x5).bind fun y2 =>
  (if (!y2.1) = true then
  (some (false, y2.2.1, y2.2.2.1, ()))
 else
  (some (true, y2.2.1, y2.2.2.1, ()))))))) := by kernel_rfl
noncomputable def w_eqPolPool_G (k : Nat) : Dt w_eqPolPool_i → Option (Dt w_eqPolPool_o) := fun x => w_eqPolPool k x.1 x.2.1 x.2.2.1 x.2.2.2.1 x.2.2.2.2.1 x.2.2.2.2.2.1
theorem w_eqPolPool_c (k : Nat) : Comes1 (w_eqPolPool_T k) Try.f93 w_eqPolPool_i w_eqPolPool_o (w_eqPolPool_G k) := fun x => by kernel_rfl
noncomputable def w_eqPolPool_E (k : Nat) : Env := (w_eqPolOldSS_E k).with 93 w_eqPolPool_i w_eqPolPool_o (w_eqPolPool_G k)
theorem w_eqPolPool_ok (k : Nat) : EnvOk Try.prog (w_eqPolPool_E k) := (w_eqPolOldSS_ok k).with mixed (by decide) (by kernel_rfl) (by kernel_rfl) (w_eqPolPool_c k) (by kernel_rfl)
/-! ### loop.example/tuggers/laws.eqOpOp -/
@[reducible] def w_eqOpOp_i : Sh := ⟨[.c (.agg [.int .i64, .int .i64, .int .i64]), .c (.agg [.int .i64, .int .i64, .int .i64])], []⟩
@[reducible] def w_eqOpOp_o : Sh := ⟨[.c (.leaf (.bool))], []⟩
noncomputable def w_eqOpOp_T (k : Nat) : Env := ((w_eqPolPool_E k).at 0 k [] [] []).gated (fun _ => true)
noncomputable def w_eqOpOp (k : Nat) (x0 : Int) (x1 : Int) (x2 : Int) (x3 : Int) (x4 : Int) (x5 : Int) : Option (Dt w_eqOpOp_o) := evFn (w_eqOpOp_T k) Try.f184 [.c (.agg [.int .i64 x0, .int .i64 x1, .int .i64 x2]), .c (.agg [.int .i64 x3, .int .i64 x4, .int .i64 x5])] [] (unOut w_eqOpOp_o)
theorem w_eqOpOp_eq (k : Nat) (x0 : Int) (x1 : Int) (x2 : Int) (x3 : Int) (x4 : Int) (x5 : Int) : w_eqOpOp k x0 x1 x2 x3 x4 x5 =
  (if (decide (¬ x0 = x3)) = true then
  (some (false, ()))
 else
  (if (decide (¬ x1 = x4)) = true then
  (some (false, ()))
 else
  (if (decide (¬ x2 = x5)) = true then
  (some (false, ()))
 else
  (some (true, ()))))) := by kernel_rfl
noncomputable def w_eqOpOp_G (k : Nat) : Dt w_eqOpOp_i → Option (Dt w_eqOpOp_o) := fun x => w_eqOpOp k x.1 x.2.1 x.2.2.1 x.2.2.2.1 x.2.2.2.2.1 x.2.2.2.2.2.1
theorem w_eqOpOp_c (k : Nat) : Comes1 (w_eqOpOp_T k) Try.f184 w_eqOpOp_i w_eqOpOp_o (w_eqOpOp_G k) := fun x => by kernel_rfl
noncomputable def w_eqOpOp_E (k : Nat) : Env := (w_eqPolPool_E k).with 184 w_eqOpOp_i w_eqOpOp_o (w_eqOpOp_G k)
theorem w_eqOpOp_ok (k : Nat) : EnvOk Try.prog (w_eqOpOp_E k) := (w_eqPolPool_ok k).with mixed (by decide) (by kernel_rfl) (by kernel_rfl) (w_eqOpOp_c k) (by kernel_rfl)
/-! ### loop.example/tuggers/laws.eqHndRef -/
@[reducible] def w_eqHndRef_i : Sh := ⟨[.c (.agg [.int .i64, .int .i64]), .c (.agg [.int .i64, .int .i64])], []⟩
@[reducible] def w_eqHndRef_o : Sh := ⟨[.c (.leaf (.bool))], []⟩
noncomputable def w_eqHndRef_T (k : Nat) : Env := ((w_eqOpOp_E k).at 0 k [] [] []).gated (fun _ => true)
noncomputable def w_eqHndRef (k : Nat) (x0 : Int) (x1 : Int) (x2 : Int) (x3 : Int) : Option (Dt w_eqHndRef_o) := evFn (w_eqHndRef_T k) Try.f185 [.c (.agg [.int .i64 x0, .int .i64 x1]), .c (.agg [.int .i64 x2, .int .i64 x3])] [] (unOut w_eqHndRef_o)
theorem w_eqHndRef_eq (k : Nat) (x0 : Int) (x1 : Int) (x2 : Int) (x3 : Int) : w_eqHndRef k x0 x1 x2 x3 =
  (if (decide (¬ x0 = x2)) = true then
  (some (false, ()))
 else
  (if (decide (¬ x1 = x3)) = true then
  (some (false, ()))
 else
  (some (true, ())))) := by kernel_rfl
noncomputable def w_eqHndRef_G (k : Nat) : Dt w_eqHndRef_i → Option (Dt w_eqHndRef_o) := fun x => w_eqHndRef k x.1 x.2.1 x.2.2.1 x.2.2.2.1
theorem w_eqHndRef_c (k : Nat) : Comes1 (w_eqHndRef_T k) Try.f185 w_eqHndRef_i w_eqHndRef_o (w_eqHndRef_G k) := fun x => by kernel_rfl
noncomputable def w_eqHndRef_E (k : Nat) : Env := (w_eqOpOp_E k).with 185 w_eqHndRef_i w_eqHndRef_o (w_eqHndRef_G k)
theorem w_eqHndRef_ok (k : Nat) : EnvOk Try.prog (w_eqHndRef_E k) := (w_eqOpOp_ok k).with mixed (by decide) (by kernel_rfl) (by kernel_rfl) (w_eqHndRef_c k) (by kernel_rfl)
/-! ### loop.example/tuggers/laws.eqResRes -/
@[reducible] def w_eqResRes_i : Sh := ⟨[.c (.agg [.int .i64, .int .i64]), .c (.agg [.int .i64, .int .i64])], []⟩
@[reducible] def w_eqResRes_o : Sh := ⟨[.c (.leaf (.bool))], []⟩
noncomputable def w_eqResRes_T (k : Nat) : Env := ((w_eqHndRef_E k).at 0 k [] [] []).gated (fun _ => true)
noncomputable def w_eqResRes (k : Nat) (x0 : Int) (x1 : Int) (x2 : Int) (x3 : Int) : Option (Dt w_eqResRes_o) := evFn (w_eqResRes_T k) Try.f45 [.c (.agg [.int .i64 x0, .int .i64 x1]), .c (.agg [.int .i64 x2, .int .i64 x3])] [] (unOut w_eqResRes_o)
theorem w_eqResRes_eq (k : Nat) (x0 : Int) (x1 : Int) (x2 : Int) (x3 : Int) : w_eqResRes k x0 x1 x2 x3 =
  (if (decide (¬ x0 = x2)) = true then
  (some (false, ()))
 else
  (if (decide (¬ x1 = x3)) = true then
  (some (false, ()))
 else
  (some (true, ())))) := by kernel_rfl
noncomputable def w_eqResRes_G (k : Nat) : Dt w_eqResRes_i → Option (Dt w_eqResRes_o) := fun x => w_eqResRes k x.1 x.2.1 x.2.2.1 x.2.2.2.1
theorem w_eqResRes_c (k : Nat) : Comes1 (w_eqResRes_T k) Try.f45 w_eqResRes_i w_eqResRes_o (w_eqResRes_G k) := fun x => by kernel_rfl
noncomputable def w_eqResRes_E (k : Nat) : Env := (w_eqHndRef_E k).with 45 w_eqResRes_i w_eqResRes_o (w_eqResRes_G k)
theorem w_eqResRes_ok (k : Nat) : EnvOk Try.prog (w_eqResRes_E k) := (w_eqHndRef_ok k).with mixed (by decide) (by kernel_rfl) (by kernel_rfl) (w_eqResRes_c k) (by kernel_rfl)
/-! ### loop.example/tuggers/laws.eqHndHand -/
@[reducible] def w_eqHndHand_i : Sh := ⟨[.c (.agg [.int .i64, .int .i64, .int .i64, .int .i64, .int .i64, .int .i64, .int .i64, .int .i64, .int .i64, .int .i64, .int .i64, .int .i64, .int .i64, .int .i64, .int .i64, .int .i64, .int .i64, .int .i64, .int .i64, .int .i64, .bool, .str, .str, .int .i64, .int .i64]), .c (.agg [.int .i64, .int .i64, .int .i64, .int .i64, .int .i64, .int .i64, .int .i64, .int .i64, .int .i64, .int .i64, .int .i64, .int .i64, .int .i64, .int .i64, .int .i64, .int .i64, .int .i64, .int .i64, .int .i64, .int .i64, .bool, .str, .str, .int .i64, .int .i64])], []⟩
@[reducible] def w_eqHndHand_o : Sh := ⟨[.c (.leaf (.bool))], []⟩
noncomputable def w_eqHndHand_T (k : Nat) : Env := ((w_eqResRes_E k).at 0 k [] [] []).gated (fun _ => true)
noncomputable def w_eqHndHand (k : Nat) (x0 : Int) (x1 : Int) (x2 : Int) (x3 : Int) (x4 : Int) (x5 : Int) (x6 : Int) (x7 : Int) (x8 : Int) (x9 : Int) (x10 : Int) (x11 : Int) (x12 : Int) (x13 : Int) (x14 : Int) (x15 : Int) (x16 : Int) (x17 : Int) (x18 : Int) (x19 : Int) (x20 : Bool) (x21 : ByteArray) (x22 : ByteArray) (x23 : Int) (x24 : Int) (x25 : Int) (x26 : Int) (x27 : Int) (x28 : Int) (x29 : Int) (x30 : Int) (x31 : Int) (x32 : Int) (x33 : Int) (x34 : Int) (x35 : Int) (x36 : Int) (x37 : Int) (x38 : Int) (x39 : Int) (x40 : Int) (x41 : Int) (x42 : Int) (x43 : Int) (x44 : Int) (x45 : Bool) (x46 : ByteArray) (x47 : ByteArray) (x48 : Int) (x49 : Int) : Option (Dt w_eqHndHand_o) := evFn (w_eqHndHand_T k) Try.f159 [.c (.agg [.int .i64 x0, .int .i64 x1, .int .i64 x2, .int .i64 x3, .int .i64 x4, .int .i64 x5, .int .i64 x6, .int .i64 x7, .int .i64 x8, .int .i64 x9, .int .i64 x10, .int .i64 x11, .int .i64 x12, .int .i64 x13, .int .i64 x14, .int .i64 x15, .int .i64 x16, .int .i64 x17, .int .i64 x18, .int .i64 x19, .bool x20, .str x21, .str x22, .int .i64 x23, .int .i64 x24]), .c (.agg [.int .i64 x25, .int .i64 x26, .int .i64 x27, .int .i64 x28, .int .i64 x29, .int .i64 x30, .int .i64 x31, .int .i64 x32, .int .i64 x33, .int .i64 x34, .int .i64 x35, .int .i64 x36, .int .i64 x37, .int .i64 x38, .int .i64 x39, .int .i64 x40, .int .i64 x41, .int .i64 x42, .int .i64 x43, .int .i64 x44, .bool x45, .str x46, .str x47, .int .i64 x48, .int .i64 x49])] [] (unOut w_eqHndHand_o)
theorem w_eqHndHand_eq (k : Nat) (x0 : Int) (x1 : Int) (x2 : Int) (x3 : Int) (x4 : Int) (x5 : Int) (x6 : Int) (x7 : Int) (x8 : Int) (x9 : Int) (x10 : Int) (x11 : Int) (x12 : Int) (x13 : Int) (x14 : Int) (x15 : Int) (x16 : Int) (x17 : Int) (x18 : Int) (x19 : Int) (x20 : Bool) (x21 : ByteArray) (x22 : ByteArray) (x23 : Int) (x24 : Int) (x25 : Int) (x26 : Int) (x27 : Int) (x28 : Int) (x29 : Int) (x30 : Int) (x31 : Int) (x32 : Int) (x33 : Int) (x34 : Int) (x35 : Int) (x36 : Int) (x37 : Int) (x38 : Int) (x39 : Int) (x40 : Int) (x41 : Int) (x42 : Int) (x43 : Int) (x44 : Int) (x45 : Bool) (x46 : ByteArray) (x47 : ByteArray) (x48 : Int) (x49 : Int) : w_eqHndHand k x0 x1 x2 x3 x4 x5 x6 x7 x8 x9 x10 x11 x12 x13 x14 x15 x16 x17 x18 x19 x20 x21 x22 x23 x24 x25 x26 x27 x28 x29 x30 x31 x32 x33 x34 x35 x36 x37 x38 x39 x40 x41 x42 x43 x44 x45 x46 x47 x48 x49 =
  (if (decide (¬ x0 = x25)) = true then
  (some (false, ()))
 else
  ((w_eqOpOp k x1 x2 x3 x26 x27 x28).bind fun y1 =>
  (if (!y1.1) = true then
  (some (false, ()))
 else
  (if (decide (¬ x4 = x29)) = true then
  (some (false, ()))
 else
  ((w_eqHndRef k x5 x6 x30 x31).bind fun y2 =>
  (if (!y2.1) = true then
  (some (false, ()))
 else
  ((w_eqHndRef k x7 x8 x32 x33).bind fun y3 =>
  (if (!y3.1) = true then
  (some (false, ()))
 else
  (if (decide (¬ x9 = x34)) = true then
  (some (false, ()))
 else
  (if (decide (¬ x10 = x35)) = true then
  (some (false, ()))
 else
  ((w_eqHndRef k x11 x12 x36 x37).bind fun y4 =>
  (if (!y4.1) = true then
  (some (false, ()))
 else
  ((w_eqHndRef k x13 x14 x38 x39).bind fun y5 =>
  (if (!y5.1) = true then
  (some (false, ()))
 else
  (if (decide (¬ x15 = x40)) = true then
  (some (false, ()))
 else
  (if (decide (¬ x16 = x41)) = true then
  (some (false, ()))
 else
  ((w_eqResRes k x17 x18 x42 x43).bind fun y6 =>
  (if (!y6.1) = true then
  (some (false, ()))
 else
  (if (decide (¬ x19 = x44)) = true then
  (some (false, ()))
 else
  (if (!(x20 == x45)) = true then
  (some (false, ()))
 else
  (if (decide (¬ x21 = x46)) = true then
  (some (false, ()))
 else
  (if (decide (¬ x22 = x47)) = true then
  (some (false, ()))
 else
  (if (decide (¬ x23 = x48)) = true then
  (some (false, ()))
 else
  (if (decide (¬ x24 = x49)) = true then
  (some (false, ()))
 else
  (some (true, ())))))))))))))))))))))))))) := by kernel_rfl
noncomputable def w_eqHndHand_G (k : Nat) : Dt w_eqHndHand_i → Option (Dt w_eqHndHand_o) := fun x => w_eqHndHand k x.1 x.2.1 x.2.2.1 x.2.2.2.1 x.2.2.2.2.1 x.2.2.2.2.2.1 x.2.2.2.2.2.2.1 x.2.2.2.2.2.2.2.1 x.2.2.2.2.2.2.2.2.1 x.2.2.2.2.2.2.2.2.2.1 x.2.2.2.2.2.2.2.2.2.2.1 x.2.2.2.2.2.2.2.2.2.2.2.1 x.2.2.2.2.2.2.2.2.2.2.2.2.1 x.2.2.2.2.2.2.2.2.2.2.2.2.2.1 x.2.2.2.2.2.2.2.2.2.2.2.2.2.2.1 x.2.2.2.2.2.2.2.2.2.2.2.2.2.2.2.1 x.2.2.2.2.2.2.2.2.2.2.2.2.2.2.2.2.1 x.2.2.2.2.2.2.2.2.2.2.2.2.2.2.2.2.2.1 x.2.2.2.2.2.2.2.2.2.2.2.2.2.2.2.2.2.2.1 x.2.2.2.2.2.2.2.2.2.2.2.2.2.2.2.2.2.2.2.1 x.2.2.2.2.2.2.2.2.2.2.2.2.2.2.2.2.2.2.2.2.1 x.2.2.2.2.2.2.2.2.2.2.2.2.2.2.2.2.2.2.2.2.2.1 x.2.2.2.2.2.2.2.2.2.2.2.2.2.2.2.2.2.2.2.2.2.2.1 x.2.2.2.2.2.2.2.2.2.2.2.2.2.2.2.2.2.2.2.2.2.2.2.1 x.2.2.2.2.2.2.2.2.2.2.2.2.2.2.2.2.2.2.2.2.2.2.2.2.1 x.2.2.2.2.2.2.2.2.2.2.2.2.2.2.2.2.2.2.2.2.2.2.2.2.2.1 x.2.2.2.2.2.2.2.2.2.2.2.2.2.2.2.2.2.2.2.2.2.2.2.2.2.2.1 x.2.2.2.2.2.2.2.2.2.2.2.2.2.2.2.2.2.2.2.2.2.2.2.2.2.2.2.1 x.2.2.2.2.2.2.2.2.2.2.2.2.2.2.2.2.2.2.2.2.2.2.2.2.2.2.2.2.1 x.2.2.2.2.2.2.2.2.2.2.2.2.2.2.2.2.2.2.2.2.2.2.2.2.2.2.2.2.2.1 x.2.2.2.2.2.2.2.2.2.2.2.2.2.2.2.2.2.2.2.2.2.2.2.2.2.2.2.2.2.2.1 x.2.2.2.2.2.2.2.2.2.2.2.2.2.2.2.2.2.2.2.2.2.2.2.2.2.2.2.2.2.2.2.1 x.2.2.2.2.2.2.2.2.2.2.2.2.2.2.2.2.2.2.2.2.2.2.2.2.2.2.2.2.2.2.2.2.1 x.2.2.2.2.2.2.2.2.2.2.2.2.2.2.2.2.2.2.2.2.2.2.2.2.2.2.2.2.2.2.2.2.2.1 x.2.2.2.2.2.2.2.2.2.2.2.2.2.2.2.2.2.2.2.2.2.2.2.2.2.2.2.2.2.2.2.2.2.2.1 x.2.2.2.2.2.2.2.2.2.2.2.2.2.2.2.2.2.2.2.2.2.2.2.2.2.2.2.2.2.2.2.2.2.2.2.1 x.2.2.2.2.2.2.2.2.2.2.2.2.2.2.2.2.2.2.2.2.2.2.2.2.2.2.2.2.2.2.2.2.2.2.2.2.1 x.2.2.2.2.2.2.2.2.2.2.2.2.2.2.2.2.2.2.2.2.2.2.2.2.2.2.2.2.2.2.2.2.2.2.2.2.2.1 x.2.2.2.2.2.2.2.2.2.2.2.2.2.2.2.2.2.2.2.2.2.2.2.2.2.2.2.2.2.2.2.2.2.2.2.2.2.2.1 x.2.2.2.2.2.2.2.2.2.2.2.2.2.2.2.2.2.2.2.2.2.2.2.2.2.2.2.2.2.2.2.2.2.2.2.2.2.2.2.1 x.2.2.2.2.2.2.2.2.2.2.2.2.2.2.2.2.2.2.2.2.2.2.2.2.2.2.2.2.2.2.2.2.2.2.2.2.2.2.2.2.1 x.2.2.2.2.2.2.2.2.2.2.2.2.2.2.2.2.2.2.2.2.2.2.2.2.2.2.2.2.2.2.2.2.2.2.2.2.2.2.2.2.2.1 x.2.2.2.2.2.2.2.2.2.2.2.2.2.2.2.2.2.2.2.2.2.2.2.2.2.2.2.2.2.2.2.2.2.2.2.2.2.2.2.2.2.2.1 x.2.2.2.2.2.2.2.2.2.2.2.2.2.2.2.2.2.2.2.2.2.2.2.2.2.2.2.2.2.2.2.2.2.2.2.2.2.2.2.2.2.2.2.1 x.2.2.2.2.2.2.2.2.2.2.2.2.2.2.2.2.2.2.2.2.2.2.2.2.2.2.2.2.2.2.2.2.2.2.2.2.2.2.2.2.2.2.2.2.1 x.2.2.2.2.2.2.2.2.2.2.2.2.2.2.2.2.2.2.2.2.2.2.2.2.2.2.2.2.2.2.2.2.2.2.2.2.2.2.2.2.2.2.2.2.2.1 x.2.2.2.2.2.2.2.2.2.2.2.2.2.2.2.2.2.2.2.2.2.2.2.2.2.2.2.2.2.2.2.2.2.2.2.2.2.2.2.2.2.2.2.2.2.2.1 x.2.2.2.2.2.2.2.2.2.2.2.2.2.2.2.2.2.2.2.2.2.2.2.2.2.2.2.2.2.2.2.2.2.2.2.2.2.2.2.2.2.2.2.2.2.2.2.1 x.2.2.2.2.2.2.2.2.2.2.2.2.2.2.2.2.2.2.2.2.2.2.2.2.2.2.2.2.2.2.2.2.2.2.2.2.2.2.2.2.2.2.2.2.2.2.2.2.1 x.2.2.2.2.2.2.2.2.2.2.2.2.2.2.2.2.2.2.2.2.2.2.2.2.2.2.2.2.2.2.2.2.2.2.2.2.2.2.2.2.2.2.2.2.2.2.2.2.2.1
theorem w_eqHndHand_c (k : Nat) : Comes1 (w_eqHndHand_T k) Try.f159 w_eqHndHand_i w_eqHndHand_o (w_eqHndHand_G k) := fun x => by kernel_rfl
noncomputable def w_eqHndHand_E (k : Nat) : Env := (w_eqResRes_E k).with 159 w_eqHndHand_i w_eqHndHand_o (w_eqHndHand_G k)
theorem w_eqHndHand_ok (k : Nat) : EnvOk Try.prog (w_eqHndHand_E k) := (w_eqResRes_ok k).with mixed (by decide) (by kernel_rfl) (by kernel_rfl) (w_eqHndHand_c k) (by kernel_rfl)
/-! ### loop.example/tuggers/laws.eqHndHandS -/
@[reducible] def w_eqHndHandS_i : Sh := ⟨[.c (.leaf (.ro q2)), .c (.leaf (.ro q2))], []⟩
@[reducible] def w_eqHndHandS_o : Sh := ⟨[.c (.leaf (.bool))], []⟩
noncomputable def w_eqHndHandS_T (k : Nat) : Env := ((w_eqHndHand_E k).at 0 k [] [(4, ⟨[0, 1, 5], []⟩)] []).gated (fun _ => true)
noncomputable def w_eqHndHandS_l4 (k n0 : Nat) (v0 : List (Int × ((Int × (Int × Int)) × (Int × ((Int × Int) × ((Int × Int) × (Int × (Int × ((Int × Int) × ((Int × Int) × (Int × (Int × ((Int × Int) × (Int × (Bool × (ByteArray × (ByteArray × (Int × Int)))))))))))))))))) (v1 : List (Int × ((Int × (Int × Int)) × (Int × ((Int × Int) × ((Int × Int) × (Int × (Int × ((Int × Int) × ((Int × Int) × (Int × (Int × ((Int × Int) × (Int × (Bool × (ByteArray × (ByteArray × (Int × Int)))))))))))))))))) (v2 : Int) : Option (Dt w_eqHndHandS_o) := atLoop (w_eqHndHandS_T k) (subF Try.f94 [.r, .r, .l, .r, .l]) n0 ⟨tml 27 [(0, .c (.leaf (.ro q2 v0))), (1, .c (.leaf (.ro q2 v1))), (5, .c (.leaf (.int .i64 v2)))], []⟩ (kbl (subF Try.f94 [.r, .r, .l, .r]) (ksq (w_eqHndHandS_T k) (subF Try.f94 [.r, .r]) (kret (w_eqHndHandS_T k) Try.f94.results.toList (unOut w_eqHndHandS_o))))
noncomputable def w_eqHndHandS (k : Nat) (x0 : List (Int × ((Int × (Int × Int)) × (Int × ((Int × Int) × ((Int × Int) × (Int × (Int × ((Int × Int) × ((Int × Int) × (Int × (Int × ((Int × Int) × (Int × (Bool × (ByteArray × (ByteArray × (Int × Int)))))))))))))))))) (x1 : List (Int × ((Int × (Int × Int)) × (Int × ((Int × Int) × ((Int × Int) × (Int × (Int × ((Int × Int) × ((Int × Int) × (Int × (Int × ((Int × Int) × (Int × (Bool × (ByteArray × (ByteArray × (Int × Int)))))))))))))))))) : Option (Dt w_eqHndHandS_o) := evFn (w_eqHndHandS_T k) Try.f94 [.c (.leaf (.ro q2 x0)), .c (.leaf (.ro q2 x1))] [] (unOut w_eqHndHandS_o)
theorem w_eqHndHandS_l4_0 (k : Nat) (v0 : List (Int × ((Int × (Int × Int)) × (Int × ((Int × Int) × ((Int × Int) × (Int × (Int × ((Int × Int) × ((Int × Int) × (Int × (Int × ((Int × Int) × (Int × (Bool × (ByteArray × (ByteArray × (Int × Int)))))))))))))))))) (v1 : List (Int × ((Int × (Int × Int)) × (Int × ((Int × Int) × ((Int × Int) × (Int × (Int × ((Int × Int) × ((Int × Int) × (Int × (Int × ((Int × Int) × (Int × (Bool × (ByteArray × (ByteArray × (Int × Int)))))))))))))))))) (v2 : Int) : w_eqHndHandS_l4 k 0 v0 v1 v2 = none := by kernel_rfl
theorem w_eqHndHandS_l4_s (k n0 : Nat) (v0 : List (Int × ((Int × (Int × Int)) × (Int × ((Int × Int) × ((Int × Int) × (Int × (Int × ((Int × Int) × ((Int × Int) × (Int × (Int × ((Int × Int) × (Int × (Bool × (ByteArray × (ByteArray × (Int × Int)))))))))))))))))) (v1 : List (Int × ((Int × (Int × Int)) × (Int × ((Int × Int) × ((Int × Int) × (Int × (Int × ((Int × Int) × ((Int × Int) × (Int × (Int × ((Int × Int) × (Int × (Bool × (ByteArray × (ByteArray × (Int × Int)))))))))))))))))) (v2 : Int) : w_eqHndHandS_l4 k (n0 + 1) v0 v1 v2 =
  (if (decide (v2 < (List.length v0 : Int))) = true then
  (if (0:Int) ≤ v2 ∧ v2 < (List.length v0 : Int) then
  (if (0:Int) ≤ v2 ∧ v2 < (List.length v1 : Int) then
  ((w_eqHndHand k (v0.getD (Int.toNat v2) ((0:Int), (((0:Int), ((0:Int), (0:Int))), ((0:Int), (((0:Int), (0:Int)), (((0:Int), (0:Int)), ((0:Int), ((0:Int), (((0:Int), (0:Int)), (((0:Int), (0:Int)), ((0:Int), ((0:Int), (((0:Int), (0:Int)), ((0:Int), (false, (ByteArray.empty, (ByteArray.empty, ((0:Int), (0:Int))))))))))))))))))).1 (v0.getD (Int.toNat v2) ((0:Int), (((0:Int), ((0:Int), (0:Int))), ((0:Int), (((0:Int), (0:Int)), (((0:Int), (0:Int)), ((0:Int), ((0:Int), (((0:Int), (0:Int)), (((0:Int), (0:Int)), ((0:Int), ((0:Int), (((0:Int), (0:Int)), ((0:Int), (false, (ByteArray.empty, (ByteArray.empty, ((0:Int), (0:Int))))))))))))))))))).2.1.1 (v0.getD (Int.toNat v2) ((0:Int), (((0:Int), ((0:Int), (0:Int))), ((0:Int), (((0:Int), (0:Int)), (((0:Int), (0:Int)), ((0:Int), ((0:Int), (((0:Int), (0:Int)), (((0:Int), (0:Int)), ((0:Int), ((0:Int), (((0:Int), (0:Int)), ((0:Int), (false, (ByteArray.empty, (ByteArray.empty, ((0:Int), (0:Int))))))))))))))))))).2.1.2.1 (v0.getD (Int.toNat v2) ((0:Int), (((0:Int), ((0:Int), (0:Int))), ((0:Int), (((0:Int), (0:Int)), (((0:Int), (0:Int)), ((0:Int), ((0:Int), (((0:Int), (0:Int)), (((0:Int), (0:Int)), ((0:Int), ((0:Int), (((0:Int), (0:Int)), ((0:Int), (false, (ByteArray.empty, (ByteArray.empty, ((0:Int), (0:Int))))))))))))))))))).2.1.2.2 (v0.getD (Int.toNat v2) ((0:Int), (((0:Int), ((0:Int), (0:Int))), ((0:Int), (((0:Int), (0:Int)), (((0:Int), (0:Int)), ((0:Int), ((0:Int), (((0:Int), (0:Int)), (((0:Int), (0:Int)), ((0:Int), ((0:Int), (((0:Int), (0:Int)), ((0:Int), (false, (ByteArray.empty, (ByteArray.empty, ((0:Int), (0:Int))))))))))))))))))).2.2.1 (v0.getD (Int.toNat v2) ((0:Int), (((0:Int), ((0:Int), (0:Int))), ((0:Int), (((0:Int), (0:Int)), (((0:Int), (0:Int)), ((0:Int), ((0:Int), (((0:Int), (0:Int)), (((0:Int), (0:Int)), ((0:Int), ((0:Int), (((0:Int), (0:Int)), ((0:Int), (false, (ByteArray.empty, (ByteArray.empty, ((0:Int), (0:Int))))))))))))))))))).2.2.2.1.1 (v0.getD (Int.toNat v2) ((0:Int), (((0:Int), ((0:Int), (0:Int))), ((0:Int), (((0:Int), (0:Int)), (((0:Int), (0:Int)), ((0:Int), ((0:Int), (((0:Int), (0:Int)), (((0:Int), (0:Int)), ((0:Int), ((0:Int), (((0:Int), (0:Int)), ((0:Int), (false, (ByteArray.empty, (ByteArray.empty, ((0:Int), (0:Int))))))))))))))))))).2.2.2.1.2 (v0.getD (Int.toNat v2) ((0:Int), (((0:Int), ((0:Int), (0:Int))), ((0:Int), (((0:Int), (0:Int)), (((0:Int), (0:Int)), ((0:Int), ((0:Int), (((0:Int), (0:Int)), (((0:Int), (0:Int)), ((0:Int), ((0:Int), (((0:Int), (0:Int)), ((0:Int), (false, (ByteArray.empty, (ByteArray.empty, ((0:Int), (0:Int))))))))))))))))))).2.2.2.2.1.1 (v0.getD (Int.toNat v2) ((0:Int), (((0:Int), ((0:Int), (0:Int))), ((0:Int), (((0:Int), (0:Int)), (((0:Int), (0:Int)), ((0:Int), ((0:Int), (((0:Int), (0:Int)), (((0:Int), (0:Int)), ((0:Int), ((0:Int), (((0:Int), (0:Int)), ((0:Int), (false, (ByteArray.empty, (ByteArray.empty, ((0:Int), (0:Int))))))))))))))))))).2.2.2.2.1.2 (v0.getD (Int.toNat v2) ((0:Int), (((0:Int), ((0:Int), (0:Int))), ((0:Int), (((0:Int), (0:Int)), (((0:Int), (0:Int)), ((0:Int), ((0:Int), (((0:Int), (0:Int)), (((0:Int), (0:Int)), ((0:Int), ((0:Int), (((0:Int), (0:Int)), ((0:Int), (false, (ByteArray.empty, (ByteArray.empty, ((0:Int), (0:Int))))))))))))))))))).2.2.2.2.2.1 (v0.getD (Int.toNat v2) ((0:Int), (((0:Int), ((0:Int), (0:Int))), ((0:Int), (((0:Int), (0:Int)), (((0:Int), (0:Int)), ((0:Int), ((0:Int), (((0:Int), (0:Int)), (((0:Int), (0:Int)), ((0:Int), ((0:Int), (((0:Int), (0:Int)), ((0:Int), (false, (ByteArray.empty, (ByteArray.empty, ((0:Int), (0:Int))))))))))))))))))).2.2.2.2.2.2.1 (v0.getD (Int.toNat v2) ((0:Int), (((0:Int), ((0:Int), (0:Int))), ((0:Int), (((0:Int), (0:Int)), (((0:Int), (0:Int)), ((0:Int), ((0:Int), (((0:Int), (0:Int)), (((0:Int), (0:Int)), ((0:Int), ((0:Int), (((0:Int), (0:Int)), ((0:Int), (false, (ByteArray.empty, (ByteArray.empty, ((0:Int), (0:Int))))))))))))))))))).2.2.2.2.2.2.2.1.1 (v0.getD (Int.toNat v2) ((0:Int), (((0:Int), ((0:Int), (0:Int))), ((0:Int), (((0:Int), (0:Int)), (((0:Int), (0:Int)), ((0:Int), ((0:Int), (((0:Int), (0:Int)), (((0:Int), (0:Int)), ((0:Int), ((0:Int), (((0:Int), (0:Int)), ((0:Int), (false, (ByteArray.empty, (ByteArray.empty, ((0:Int), (0:Int))))))))))))))))))).2.2.2.2.2.2.2.1.2 (v0.getD (Int.toNat v2) ((0:Int), (((0:Int), ((0:Int), (0:Int))), ((0:Int), (((0:Int), (0:Int)), (((0:Int), (0:Int)), ((0:Int), ((0:Int), (((0:Int), (0:Int)), (((0:Int), (0:Int)), ((0:Int), ((0:Int), (((0:Int), (0:Int)), ((0:Int), (false, (ByteArray.empty, (ByteArray.empty, ((0:Int), (0:Int))))))))))))))))))).2.2.2.2.2.2.2.2.1.1 (v0.getD (Int.toNat v2) ((0:Int), (((0:Int), ((0:Int), (0:Int))), ((0:Int), (((0:Int), (0:Int)), (((0:Int), (0:Int)), ((0:Int), ((0:Int), (((0:Int), (0:Int)), (((0:Int), (0:Int)), ((0:Int), ((0:Int), (((0:Int), (0:Int)), ((0:Int), (false, (ByteArray.empty, (ByteArray.empty, ((0:Int), (0:Int))))))))))))))))))).2.2.2.2.2.2.2.2.1.2 (v0.getD (Int.toNat v2) ((0:Int), (((0:Int), ((0:Int), (0:Int))), ((0:Int), (((0:Int), (0:Int)), (((0:Int), (0:Int)), ((0:Int), ((0:Int), (((0:Int), (0:Int)), (((0:Int), (0:Int)), ((0:Int), ((0:Int), (((0:Int), (0:Int)), ((0:Int), (false, (ByteArray.empty, (ByteArray.empty, ((0:Int), (0:Int))))))))))))))))))).2.2.2.2.2.2.2.2.2.1 (v0.getD (Int.toNat v2) ((0:Int), (((0:Int), ((0:Int), (0:Int))), ((0:Int), (((0:Int), (0:Int)), (((0:Int), (0:Int)), ((0:Int), ((0:Int), (((0:Int), (0:Int)), (((0:Int), (0:Int)), ((0:Int), ((0:Int), (((0:Int), (0:Int)), ((0:Int), (false, (ByteArray.empty, (ByteArray.empty, ((0:Int), (0:Int))))))))))))))))))).2.2.2.2.2.2.2.2.2.2.1 (v0.getD (Int.toNat v2) ((0:Int), (((0:Int), ((0:Int), (0:Int))), ((0:Int), (((0:Int), (0:Int)), (((0:Int), (0:Int)), ((0:Int), ((0:Int), (((0:Int), (0:Int)), (((0:Int), (0:Int)), ((0:Int), ((0:Int), (((0:Int), (0:Int)), ((0:Int), (false, (ByteArray.empty, (ByteArray.empty, ((0:Int), (0:Int))))))))))))))))))).2.2.2.2.2.2.2.2.2.2.2.1.1 (v0.getD (Int.toNat v2) ((0:Int), (((0:Int), ((0:Int), (0:Int))), ((0:Int), (((0:Int), (0:Int)), (((0:Int), (0:Int)), ((0:Int), ((0:Int), (((0:Int), (0:Int)), (((0:Int), (0:Int)), ((0:Int), ((0:Int), (((0:Int), (0:Int)), ((0:Int), (false, (ByteArray.empty, (ByteArray.empty, ((0:Int), (0:Int))))))))))))))))))).2.2.2.2.2.2.2.2.2.2.2.1.2 (v0.getD (Int.toNat v2) ((0:Int), (((0:Int), ((0:Int), (0:Int))), ((0:Int), (((0:Int), (0:Int)), (((0:Int), (0:Int)), ((0:Int), ((0:Int), (((0:Int), (0:Int)), (((0:Int), (0:Int)), ((0:Int), ((0:Int), (((0:Int), (0:Int)), ((0:Int), (false, (ByteArray.empty, (ByteArray.empty, ((0:Int), (0:Int))))))))))))))))))).2.2.2.2.2.2.2.2.2.2.2.2.1 (v0.getD (Int.toNat v2) ((0:Int), (((0:Int), ((0:Int), (0:Int))), ((0:Int), (((0:Int), (0:Int)), (((0:Int), (0:Int)), ((0:Int), ((0:Int), (((0:Int), (0:Int)), (((0:Int), (0:Int)), ((0:Int), ((0:Int), (((0:Int), (0:Int)), ((0:Int), (false, (ByteArray.empty, (ByteArray.empty, ((0:Int), (0:Int))))))))))))))))))).2.2.2.2.2.2.2.2.2.2.2.2.2.1 (v0.getD (Int.toNat v2) ((0:Int), (((0:Int), ((0:Int), (0:Int))), ((0:Int), (((0:Int), (0:Int)), (((0:Int), (0:Int)), ((0:Int), ((0:Int), (((0:Int), (0:Int)), (((0:Int), (0:Int)), ((0:Int), ((0:Int), (((0:Int), (0:Int)), ((0:Int), (false, (ByteArray.empty, (ByteArray.empty, ((0:Int), (0:Int))))))))))))))))))).2.2.2.2.2.2.2.2.2.2.2.2.2.2.1 (v0.getD (Int.toNat v2) ((0:Int), (((0:Int), ((0:Int), (0:Int))), ((0:Int), (((0:Int), (0:Int)), (((0:Int), (0:Int)), ((0:Int), ((0:Int), (((0:Int), (0:Int)), (((0:Int), (0:Int)), ((0:Int), ((0:Int), (((0:Int), (0:Int)), ((0:Int), (false, (ByteArray.empty, (ByteArray.empty, ((0:Int), (0:Int))))))))))))))))))).2.2.2.2.2.2.2.2.2.2.2.2.2.2.2.1 (v0.getD (Int.toNat v2) ((0:Int), (((0:Int), ((0:Int), (0:Int))), ((0:Int), (((0:Int), (0:Int)), (((0:Int), (0:Int)), ((0:Int), ((0:Int), (((0:Int), (0:Int)), (((0:Int), (0:Int)), ((0:Int), ((0:Int), (((0:Int), (0:Int)), ((0:Int), (false, (ByteArray.empty, (ByteArray.empty, ((0:Int), (0:Int))))))))))))))))))).2.2.2.2.2.2.2.2.2.2.2.2.2.2.2.2.1 (v0.getD (Int.toNat v2) ((0:Int), (((0:Int), ((0:Int), (0:Int))), ((0:Int), (((0:Int), (0:Int)), (((0:Int), (0:Int)), ((0:Int), ((0:Int), (((0:Int), (0:Int)), (((0:Int), (0:Int)), ((0:Int), ((0:Int), (((0:Int), (0:Int)), ((0:Int), (false, (ByteArray.empty, (ByteArray.empty, ((0:Int), (0:Int))))))))))))))))))).2.2.2.2.2.2.2.2.2.2.2.2.2.2.2.2.2 (v1.getD (Int.toNat v2) ((0:Int), (((0:Int), ((0:Int), (0:Int))), ((0:Int), (((0:Int), (0:Int)), (((0:Int), (0:Int)), ((0:Int), ((0:Int), (((0:Int), (0:Int)), (((0:Int), (0:Int)), ((0:Int), ((0:Int), (((0:Int), (0:Int)), ((0:Int), (false, (ByteArray.empty, (ByteArray.empty, ((0:Int), (0:Int))))))))))))))))))).1 (v1.getD (Int.toNat v2) ((0:Int), (((0:Int), ((0:Int), (0:Int))), ((0:Int), (((0:Int), (0:Int)), (((0:Int), (0:Int)), ((0:Int), ((0:Int), (((0:Int), (0:Int)), (((0:Int), (0:Int)), ((0:Int), ((0:Int), (((0:Int), (0:Int)), ((0:Int), (false, (ByteArray.empty, (ByteArray.empty, ((0:Int), (0:Int))))))))))))))))))).2.1.1 (v1.getD (Int.toNat v2) ((0:Int), (((0:Int), ((0:Int), (0:Int))), ((0:Int), (((0:Int), (0:Int)), (((0:Int), (0:Int)), ((0:Int), ((0:Int), (((0:Int), (0:Int)), (((0:Int), (0:Int)), ((0:Int), ((0:Int), (((0:Int), (0:Int)), ((0:Int), (false, (ByteArray.empty, (ByteArray.empty, ((0:Int), (0:Int))))))))))))))))))).2.1.2.1 (v1.getD (Int.toNat v2) ((0:Int), (((0:Int), ((0:Int), (0:Int))), ((0:Int), (((0:Int), (0:Int)), (((0:Int), (0:Int)), ((0:Int), ((0:Int), (((0:Int), (0:Int)), (((0:Int), (0:Int)), ((0:Int), ((0:Int), (((0:Int), (0:Int)), ((0:Int), (false, (ByteArray.empty, (ByteArray.empty, ((0:Int), (0:Int))))))))))))))))))).2.1.2.2 (v1.getD (Int.toNat v2) ((0:Int), (((0:Int), ((0:Int), (0:Int))), ((0:Int), (((0:Int), (0:Int)), (((0:Int), (0:Int)), ((0:Int), ((0:Int), (((0:Int), (0:Int)), (((0:Int), (0:Int)), ((0:Int), ((0:Int), (((0:Int), (0:Int)), ((0:Int), (false, (ByteArray.empty, (ByteArray.empty, ((0:Int), (0:Int))))))))))))))))))).2.2.1 (v1.getD (Int.toNat v2) ((0:Int), (((0:Int), ((0:Int), (0:Int))), ((0:Int), (((0:Int), (0:Int)), (((0:Int), (0:Int)), ((0:Int), ((0:Int), (((0:Int), (0:Int)), (((0:Int), (0:Int)), ((0:Int), ((0:Int), (((0:Int), (0:Int)), ((0:Int), (false, (ByteArray.empty, (ByteArray.empty, ((0:Int), (0:Int))))))))))))))))))).2.2.2.1.1 (v1.getD (Int.toNat v2) ((0:Int), (((0:Int), ((0:Int), (0:Int))), ((0:Int), (((0:Int), (0:Int)), (((0:Int), (0:Int)), ((0:Int), ((0:Int), (((0:Int), (0:Int)), (((0:Int), (0:Int)), ((0:Int), ((0:Int), (((0:Int), (0:Int)), ((0:Int), (false, (ByteArray.empty, (ByteArray.empty, ((0:Int), (0:Int))))))))))))))))))).2.2.2.1.2 (v1.getD (Int.toNat v2) ((0:Int), (((0:Int), ((0:Int), (0:Int))), ((0:Int), (((0:Int), (0:Int)), (((0:Int), (0:Int)), ((0:Int), ((0:Int), (((0:Int), (0:Int)), (((0:Int), (0:Int)), ((0:Int), ((0:Int), (((0:Int), (0:Int)), ((0:Int), (false, (ByteArray.empty, (ByteArray.empty, ((0:Int), (0:Int))))))))))))))))))).2.2.2.2.1.1 (v1.getD (Int.toNat v2) ((0:Int), (((0:Int), ((0:Int), (0:Int))), ((0:Int), (((0:Int), (0:Int)), (((0:Int), (0:Int)), ((0:Int), ((0:Int), (((0:Int), (0:Int)), (((0:Int), (0:Int)), ((0:Int), ((0:Int), (((0:Int), (0:Int)), ((0:Int), (false, (ByteArray.empty, (ByteArray.empty, ((0:Int), (0:Int))))))))))))))))))).2.2.2.2.1.2 (v1.getD (Int.toNat v2) ((0:Int), (((0:Int), ((0:Int), (0:Int))), ((0:Int), (((0:Int), (0:Int)), (((0:Int), (0:Int)), ((0:Int), ((0:Int), (((0:Int), (0:Int)), (((0:Int), (0:Int)), ((0:Int), ((0:Int), (((0:Int), (0:Int)), ((0:Int), (false, (ByteArray.empty, (ByteArray.empty, ((0:Int), (0:Int))))))))))))))))))).2.2.2.2.2.1 (v1.getD (Int.toNat v2) ((0:Int), (((0:Int), ((0:Int), (0:Int))), ((0:Int), (((0:Int), (0:Int)), (((0:Int), (0:Int)), ((0:Int), ((0:Int), (((0:Int), (0:Int)), (((0:Int), (0:Int)), ((0:Int), ((0:Int), (((0:Int), (0:Int)), ((0:Int), (false, (ByteArray.empty, (ByteArray.empty, ((0:Int), (0:Int))))))))))))))))))).2.2.2.2.2.2.1 (v1.getD (Int.toNat v2) ((0:Int), (((0:Int), ((0:Int), (0:Int))), ((0:Int), (((0:Int), (0:Int)), (((0:Int), (0:Int)), ((0:Int), ((0:Int), (((0:Int), (0:Int)), (((0:Int), (0:Int)), ((0:Int), ((0:Int), (((0:Int), (0:Int)), ((0:Int), (false, (ByteArray.empty, (ByteArray.empty, ((0:Int), (0:Int))))))))))))))))))).2.2.2.2.2.2.2.1.1 (v1.getD (Int.toNat v2) ((0:Int), (((0:Int), ((0:Int), (0:Int))), ((0:Int), (((0:Int), (0:Int)), (((0:Int), (0:Int)), ((0:Int), ((0:Int), (((0:Int), (0:Int)), (((0:Int), (0:Int)), ((0:Int), ((0:Int), (((0:Int), (0:Int)), ((0:Int), (false, (ByteArray.empty, (ByteArray.empty, ((0:Int), (0:Int))))))))))))))))))).2.2.2.2.2.2.2.1.2 (v1.getD (Int.toNat v2) ((0:Int), (((0:Int), ((0:Int), (0:Int))), ((0:Int), (((0:Int), (0:Int)), (((0:Int), (0:Int)), ((0:Int), ((0:Int), (((0:Int), (0:Int)), (((0:Int), (0:Int)), ((0:Int), ((0:Int), (((0:Int), (0:Int)), ((0:Int), (false, (ByteArray.empty, (ByteArray.empty, ((0:Int), (0:Int))))))))))))))))))).2.2.2.2.2.2.2.2.1.1 (v1.getD (Int.toNat v2) ((0:Int), (((0:Int), ((0:Int), (0:Int))), ((0:Int), (((0:Int), (0:Int)), (((0:Int), (0:Int)), ((0:Int), ((0:Int), (((0:Int), (0:Int)), (((0:Int), (0:Int)), ((0:Int), ((0:Int), (((0:Int), (0:Int)), ((0:Int), (false, (ByteArray.empty, (ByteArray.empty, ((0:Int), (0:Int))))))))))))))))))).2.2.2.2.2.2.2.2.1.2 (v1.getD (Int.toNat v2) ((0:Int), (((0:Int), ((0:Int), (0:Int))), ((0:Int), (((0:Int), (0:Int)), (((0:Int), (0:Int)), ((0:Int), ((0:Int), (((0:Int), (0:Int)), (((0:Int), (0:Int)), ((0:Int), ((0:Int), (((0:Int), (0:Int)), ((0:Int), (false, (ByteArray.empty, (ByteArray.empty, ((0:Int), (0:Int))))))))))))))))))).2.2.2.2.2.2.2.2.2.1 (v1.getD (Int.toNat v2) ((0:Int), (((0:Int), ((0:Int), (0:Int))), ((0:Int), (((0:Int), (0:Int)), (((0:Int), (0:Int)), ((0:Int), ((0:Int), (((0:Int), (0:Int)), (((0:Int), (0:Int)), ((0:Int), ((0:Int), (((0:Int), (0:Int)), ((0:Int), (false, (ByteArray.empty, (ByteArray.empty, ((0:Int), (0:Int))))))))))))))))))).2.2.2.2.2.2.2.2.2.2.1 (v1.getD (Int.toNat v2) ((0:Int), (((0:Int), ((0:Int), (0:Int))), ((0:Int), (((0:Int), (0:Int)), (((0:Int), (0:Int)), ((0:Int), ((0:Int), (((0:Int), (0:Int)), (((0:Int), (0:Int)), ((0:Int), ((0:Int), (((0:Int), (0:Int)), ((0:Int), (false, (ByteArray.empty, (ByteArray.empty, ((0:Int), (0:Int))))))))))))))))))).2.2.2.2.2.2.2.2.2.2.2.1.1 (v1.getD (Int.toNat v2) ((0:Int), (((0:Int), ((0:Int), (0:Int))), ((0:Int), (((0:Int), (0:Int)), (((0:Int), (0:Int)), ((0:Int), ((0:Int), (((0:Int), (0:Int)), (((0:Int), (0:Int)), ((0:Int), ((0:Int), (((0:Int), (0:Int)), ((0:Int), (false, (ByteArray.empty, (ByteArray.empty, ((0:Int), (0:Int))))))))))))))))))).2.2.2.2.2.2.2.2.2.2.2.1.2 (v1.getD (Int.toNat v2) ((0:Int), (((0:Int), ((0:Int), (0:Int))), ((0:Int), (((0:Int), (0:Int)), (((0:Int), (0:Int)), ((0:Int), ((0:Int), (((0:Int), (0:Int)), (((0:Int), (0:Int)), ((0:Int), ((0:Int), (((0:Int), (0:Int)), ((0:Int), (false, (ByteArray.empty, (ByteArray.empty, ((0:Int), (0:Int))))))))))))))))))).2.2.2.2.2.2.2.2.2.2.2.2.1 (v1.getD (Int.toNat v2) ((0:Int), (((0:Int), ((0:Int), (0:Int))), ((0:Int), (((0:Int), (0:Int)), (((0:Int), (0:Int)), ((0:Int), ((0:Int), (((0:Int), (0:Int)), (((0:Int), (0:Int)), ((0:Int), ((0:Int), (((0:Int), (0:Int)), ((0:Int), (false, (ByteArray.empty, (ByteArray.empty, ((0:Int), (0:Int))))))))))))))))))).2.2.2.2.2.2.2.2.2.2.2.2.2.1 (v1.getD (Int.toNat v2) ((0:Int), (((0:Int), ((0:Int), (0:Int))), ((0:Int), (((0:Int), (0:Int)), (((0:Int), (0:Int)), ((0:Int), ((0:Int), (((0:Int), (0:Int)), (((0:Int), (0:Int)), ((0:Int), ((0:Int), (((0:Int), (0:Int)), ((0:Int), (false, (ByteArray.empty, (ByteArray.empty, ((0:Int), (0:Int))))))))))))))))))).2.2.2.2.2.2.2.2.2.2.2.2.2.2.1 (v1.getD (Int.toNat v2) ((0:Int), (((0:Int), ((0:Int), (0:Int))), ((0:Int), (((0:Int), (0:Int)), (((0:Int), (0:Int)), ((0:Int), ((0:Int), (((0:Int), (0:Int)), (((0:Int), (0:Int)), ((0:Int), ((0:Int), (((0:Int), (0:Int)), ((0:Int), (false, (ByteArray.empty, (ByteArray.empty, ((0:Int), (0:Int))))))))))))))))))).2.2.2.2.2.2.2.2.2.2.2.2.2.2.2.1 (v1.getD (Int.toNat v2) ((0:Int), (((0:Int), ((0:Int), (0:Int))), ((0:Int), (((0:Int), (0:Int)), (((0:Int), (0:Int)), ((0:Int), ((0:Int), (((0:Int), (0:Int)), (((0:Int), (0:Int)), ((0:Int), ((0:Int), (((0:Int), (0:Int)), ((0:Int), (false, (ByteArray.empty, (ByteArray.empty, ((0:Int), (0:Int))))))))))))))))))).2.2.2.2.2.2.2.2.2.2.2.2.2.2.2.2.1 (v1.getD (Int.toNat v2) ((0:Int), (((0:Int), ((0:Int), (0:Int))), ((0:Int), (((0:Int), (0:Int)), (((0:Int), (0:Int)), ((0:Int), ((0:Int), (((0:Int), (0:Int)), (((0:Int), (0:Int)), ((0:Int), ((0:Int), (((0:Int), (0:Int)), ((0:Int), (false, (ByteArray.empty, (ByteArray.empty, ((0:Int), (0:Int))))))))))))))))))).2.2.2.2.2.2.2.2.2.2.2.2.2.2.2.2.2).bind fun y1 =>
  (if (!y1.1) = true then
  (some (false, ()))
 else
  (w_eqHndHandS_l4 k n0 v0 v1 (W (v2 + (1:Int))))))
 else none)
 else none)
 else
  (some (true, ()))) := by kernel_rfl
theorem w_eqHndHandS_eq (k : Nat) (x0 : List (Int × ((Int × (Int × Int)) × (Int × ((Int × Int) × ((Int × Int) × (Int × (Int × ((Int × Int) × ((Int × Int) × (Int × (Int × ((Int × Int) × (Int × (Bool × (ByteArray × (ByteArray × (Int × Int)))))))))))))))))) (x1 : List (Int × ((Int × (Int × Int)) × (Int × ((Int × Int) × ((Int × Int) × (Int × (Int × ((Int × Int) × ((Int × Int) × (Int × (Int × ((Int × Int) × (Int × (Bool × (ByteArray × (ByteArray × (Int × Int)))))))))))))))))) : w_eqHndHandS k x0 x1 =
  (if (decide (¬ (List.length x0 : Int) = (List.length x1 : Int))) = true then
  (some (false, ()))
 else
  (w_eqHndHandS_l4 k k x0 x1 (0:Int))) := by kernel_rfl
noncomputable def w_eqHndHandS_G (k : Nat) : Dt w_eqHndHandS_i → Option (Dt w_eqHndHandS_o) := fun x => w_eqHndHandS k x.1 x.2.1
theorem w_eqHndHandS_c (k : Nat) : Comes1 (w_eqHndHandS_T k) Try.f94 w_eqHndHandS_i w_eqHndHandS_o (w_eqHndHandS_G k) := fun x => by kernel_rfl
noncomputable def w_eqHndHandS_E (k : Nat) : Env := (w_eqHndHand_E k).with 94 w_eqHndHandS_i w_eqHndHandS_o (w_eqHndHandS_G k)
theorem w_eqHndHandS_ok (k : Nat) : EnvOk Try.prog (w_eqHndHandS_E k) := (w_eqHndHand_ok k).with mixed (by decide) (by kernel_rfl) (by kernel_rfl) (w_eqHndHandS_c k) (by kernel_rfl)
/-! ### loop.example/tuggers/laws.eqLogRec -/
@[reducible] def w_eqLogRec_i : Sh := ⟨[.c (.agg [.int .i64, .int .i64, .int .i64, .int .i64, .int .i64, .int .i64, .int .i64, .int .i64, .int .i64]), .c (.agg [.int .i64, .int .i64, .int .i64, .int .i64, .int .i64, .int .i64, .int .i64, .int .i64, .int .i64])], []⟩
@[reducible] def w_eqLogRec_o : Sh := ⟨[.c (.leaf (.bool))], []⟩
noncomputable def w_eqLogRec_T (k : Nat) : Env := ((w_eqHndHandS_E k).at 0 k [] [] []).gated (fun _ => true)
noncomputable def w_eqLogRec (k : Nat) (x0 : Int) (x1 : Int) (x2 : Int) (x3 : Int) (x4 : Int) (x5 : Int) (x6 : Int) (x7 : Int) (x8 : Int) (x9 : Int) (x10 : Int) (x11 : Int) (x12 : Int) (x13 : Int) (x14 : Int) (x15 : Int) (x16 : Int) (x17 : Int) : Option (Dt w_eqLogRec_o) := evFn (w_eqLogRec_T k) Try.f160 [.c (.agg [.int .i64 x0, .int .i64 x1, .int .i64 x2, .int .i64 x3, .int .i64 x4, .int .i64 x5, .int .i64 x6, .int .i64 x7, .int .i64 x8]), .c (.agg [.int .i64 x9, .int .i64 x10, .int .i64 x11, .int .i64 x12, .int .i64 x13, .int .i64 x14, .int .i64 x15, .int .i64 x16, .int .i64 x17])] [] (unOut w_eqLogRec_o)
theorem w_eqLogRec_eq (k : Nat) (x0 : Int) (x1 : Int) (x2 : Int) (x3 : Int) (x4 : Int) (x5 : Int) (x6 : Int) (x7 : Int) (x8 : Int) (x9 : Int) (x10 : Int) (x11 : Int) (x12 : Int) (x13 : Int) (x14 : Int) (x15 : Int) (x16 : Int) (x17 : Int) : w_eqLogRec k x0 x1 x2 x3 x4 x5 x6 x7 x8 x9 x10 x11 x12 x13 x14 x15 x16 x17 =
  (if (decide (¬ x0 = x9)) = true then
  (some (false, ()))
 else
  ((w_eqOpOp k x1 x2 x3 x10 x11 x12).bind fun y1 =>
  (if (!y1.1) = true then
  (some (false, ()))
 else
  ((w_eqResRes k x4 x5 x13 x14).bind fun y2 =>
  (if (!y2.1) = true then
  (some (false, ()))
 else
  (if (decide (¬ x6 = x15)) = true then
  (some (false, ()))
 else
  (if (decide (¬ x7 = x16)) = true then
  (some (false, ()))
 else
  (if (decide (¬ x8 = x17)) = true then
  (some (false, ()))
 else
  (some (true, ())))))))))) := by kernel_rfl
noncomputable def w_eqLogRec_G (k : Nat) : Dt w_eqLogRec_i → Option (Dt w_eqLogRec_o) := fun x => w_eqLogRec k x.1 x.2.1 x.2.2.1 x.2.2.2.1 x.2.2.2.2.1 x.2.2.2.2.2.1 x.2.2.2.2.2.2.1 x.2.2.2.2.2.2.2.1 x.2.2.2.2.2.2.2.2.1 x.2.2.2.2.2.2.2.2.2.1 x.2.2.2.2.2.2.2.2.2.2.1 x.2.2.2.2.2.2.2.2.2.2.2.1 x.2.2.2.2.2.2.2.2.2.2.2.2.1 x.2.2.2.2.2.2.2.2.2.2.2.2.2.1 x.2.2.2.2.2.2.2.2.2.2.2.2.2.2.1 x.2.2.2.2.2.2.2.2.2.2.2.2.2.2.2.1 x.2.2.2.2.2.2.2.2.2.2.2.2.2.2.2.2.1 x.2.2.2.2.2.2.2.2.2.2.2.2.2.2.2.2.2.1
theorem w_eqLogRec_c (k : Nat) : Comes1 (w_eqLogRec_T k) Try.f160 w_eqLogRec_i w_eqLogRec_o (w_eqLogRec_G k) := fun x => by kernel_rfl
noncomputable def w_eqLogRec_E (k : Nat) : Env := (w_eqHndHandS_E k).with 160 w_eqLogRec_i w_eqLogRec_o (w_eqLogRec_G k)
theorem w_eqLogRec_ok (k : Nat) : EnvOk Try.prog (w_eqLogRec_E k) := (w_eqHndHandS_ok k).with mixed (by decide) (by kernel_rfl) (by kernel_rfl) (w_eqLogRec_c k) (by kernel_rfl)
/-! ### loop.example/tuggers/laws.eqLogRecS -/
@[reducible] def w_eqLogRecS_i : Sh := ⟨[.c (.leaf (.ro q3)), .c (.leaf (.ro q3))], []⟩
@[reducible] def w_eqLogRecS_o : Sh := ⟨[.c (.leaf (.bool))], []⟩
noncomputable def w_eqLogRecS_T (k : Nat) : Env := ((w_eqLogRec_E k).at 0 k [] [(4, ⟨[0, 1, 5], []⟩)] []).gated (fun _ => true)
noncomputable def w_eqLogRecS_l4 (k n0 : Nat) (v0 : List (Int × ((Int × (Int × Int)) × ((Int × Int) × (Int × (Int × Int)))))) (v1 : List (Int × ((Int × (Int × Int)) × ((Int × Int) × (Int × (Int × Int)))))) (v2 : Int) : Option (Dt w_eqLogRecS_o) := atLoop (w_eqLogRecS_T k) (subF Try.f95 [.r, .r, .l, .r, .l]) n0 ⟨tml 27 [(0, .c (.leaf (.ro q3 v0))), (1, .c (.leaf (.ro q3 v1))), (5, .c (.leaf (.int .i64 v2)))], []⟩ (kbl (subF Try.f95 [.r, .r, .l, .r]) (ksq (w_eqLogRecS_T k) (subF Try.f95 [.r, .r]) (kret (w_eqLogRecS_T k) Try.f95.results.toList (unOut w_eqLogRecS_o))))
noncomputable def w_eqLogRecS (k : Nat) (x0 : List (Int × ((Int × (Int × Int)) × ((Int × Int) × (Int × (Int × Int)))))) (x1 : List (Int × ((Int × (Int × Int)) × ((Int × Int) × (Int × (Int × Int)))))) : Option (Dt w_eqLogRecS_o) := evFn (w_eqLogRecS_T k) Try.f95 [.c (.leaf (.ro q3 x0)), .c (.leaf (.ro q3 x1))] [] (unOut w_eqLogRecS_o)
theorem w_eqLogRecS_l4_0 (k : Nat) (v0 : List (Int × ((Int × (Int × Int)) × ((Int × Int) × (Int × (Int × Int)))))) (v1 : List (Int × ((Int × (Int × Int)) × ((Int × Int) × (Int × (Int × Int)))))) (v2 : Int) : w_eqLogRecS_l4 k 0 v0 v1 v2 = none := by kernel_rfl
theorem w_eqLogRecS_l4_s (k n0 : Nat) (v0 : List (Int × ((Int × (Int × Int)) × ((Int × Int) × (Int × (Int × Int)))))) (v1 : List (Int × ((Int × (Int × Int)) × ((Int × Int) × (Int × (Int × Int)))))) (v2 : Int) : w_eqLogRecS_l4 k (n0 + 1) v0 v1 v2 =
  (if (decide (v2 < (List.length v0 : Int))) = true then
  (if (0:Int) ≤ v2 ∧ v2 < (List.length v0 : Int) then
  (if (0:Int) ≤ v2 ∧ v2 < (List.length v1 : Int) then
  ((w_eqLogRec k (v0.getD (Int.toNat v2) ((0:Int), (((0:Int), ((0:Int), (0:Int))), (((0:Int), (0:Int)), ((0:Int), ((0:Int), (0:Int))))))).1 (v0.getD (Int.toNat v2) ((0:Int), (((0:Int), ((0:Int), (0:Int))), (((0:Int), (0:Int)), ((0:Int), ((0:Int), (0:Int))))))).2.1.1 (v0.getD (Int.toNat v2) ((0:Int), (((0:Int), ((0:Int), (0:Int))), (((0:Int), (0:Int)), ((0:Int), ((0:Int), (0:Int))))))).2.1.2.1 (v0.getD (Int.toNat v2) ((0:Int), (((0:Int), ((0:Int), (0:Int))), (((0:Int), (0:Int)), ((0:Int), ((0:Int), (0:Int))))))).2.1.2.2 (v0.getD (Int.toNat v2) ((0:Int), (((0:Int), ((0:Int), (0:Int))), (((0:Int), (0:Int)), ((0:Int), ((0:Int), (0:Int))))))).2.2.1.1 (v0.getD (Int.toNat v2) ((0:Int), (((0:Int), ((0:Int), (0:Int))), (((0:Int), (0:Int)), ((0:Int), ((0:Int), (0:Int))))))).2.2.1.2 (v0.getD (Int.toNat v2) ((0:Int), (((0:Int), ((0:Int), (0:Int))), (((0:Int), (0:Int)), ((0:Int), ((0:Int), (0:Int))))))).2.2.2.1 (v0.getD (Int.toNat v2) ((0:Int), (((0:Int), ((0:Int), (0:Int))), (((0:Int), (0:Int)), ((0:Int), ((0:Int), (0:Int))))))).2.2.2.2.1 (v0.getD (Int.toNat v2) ((0:Int), (((0:Int), ((0:Int), (0:Int))), (((0:Int), (0:Int)), ((0:Int), ((0:Int), (0:Int))))))).2.2.2.2.2 (v1.getD (Int.toNat v2) ((0:Int), (((0:Int), ((0:Int), (0:Int))), (((0:Int), (0:Int)), ((0:Int), ((0:Int), (0:Int))))))).1 (v1.getD (Int.toNat v2) ((0:Int), (((0:Int), ((0:Int), (0:Int))), (((0:Int), (0:Int)), ((0:Int), ((0:Int), (0:Int))))))).2.1.1 (v1.getD (Int.toNat v2) ((0:Int), (((0:Int), ((0:Int), (0:Int))), (((0:Int), (0:Int)), ((0:Int), ((0:Int), (0:Int))))))).2.1.2.1 (v1.getD (Int.toNat v2) ((0:Int), (((0:Int), ((0:Int), (0:Int))), (((0:Int), (0:Int)), ((0:Int), ((0:Int), (0:Int))))))).2.1.2.2 (v1.getD (Int.toNat v2) ((0:Int), (((0:Int), ((0:Int), (0:Int))), (((0:Int), (0:Int)), ((0:Int), ((0:Int), (0:Int))))))).2.2.1.1 (v1.getD (Int.toNat v2) ((0:Int), (((0:Int), ((0:Int), (0:Int))), (((0:Int), (0:Int)), ((0:Int), ((0:Int), (0:Int))))))).2.2.1.2 (v1.getD (Int.toNat v2) ((0:Int), (((0:Int), ((0:Int), (0:Int))), (((0:Int), (0:Int)), ((0:Int), ((0:Int), (0:Int))))))).2.2.2.1 (v1.getD (Int.toNat v2) ((0:Int), (((0:Int), ((0:Int), (0:Int))), (((0:Int), (0:Int)), ((0:Int), ((0:Int), (0:Int))))))).2.2.2.2.1 (v1.getD (Int.toNat v2) ((0:Int), (((0:Int), ((0:Int), (0:Int))), (((0:Int), (0:Int)), ((0:Int), ((0:Int), (0:Int))))))).2.2.2.2.2).bind fun y1 =>
  (if (!y1.1) = true then
  (some (false, ()))
 else
  (w_eqLogRecS_l4 k n0 v0 v1 (W (v2 + (1:Int))))))
 else none)
 else none)
 else
  (some (true, ()))) := by kernel_rfl
theorem w_eqLogRecS_eq (k : Nat) (x0 : List (Int × ((Int × (Int × Int)) × ((Int × Int) × (Int × (Int × Int)))))) (x1 : List (Int × ((Int × (Int × Int)) × ((Int × Int) × (Int × (Int × Int)))))) : w_eqLogRecS k x0 x1 =
  (if (decide (¬ (List.length x0 : Int) = (List.length x1 : Int))) = true then
  (some (false, ()))
 else
  (w_eqLogRecS_l4 k k x0 x1 (0:Int))) := by kernel_rfl
noncomputable def w_eqLogRecS_G (k : Nat) : Dt w_eqLogRecS_i → Option (Dt w_eqLogRecS_o) := fun x => w_eqLogRecS k x.1 x.2.1
theorem w_eqLogRecS_c (k : Nat) : Comes1 (w_eqLogRecS_T k) Try.f95 w_eqLogRecS_i w_eqLogRecS_o (w_eqLogRecS_G k) := fun x => by kernel_rfl
noncomputable def w_eqLogRecS_E (k : Nat) : Env := (w_eqLogRec_E k).with 95 w_eqLogRecS_i w_eqLogRecS_o (w_eqLogRecS_G k)
theorem w_eqLogRecS_ok (k : Nat) : EnvOk Try.prog (w_eqLogRecS_E k) := (w_eqLogRec_ok k).with mixed (by decide) (by kernel_rfl) (by kernel_rfl) (w_eqLogRecS_c k) (by kernel_rfl)
/-! ### loop.example/tuggers/laws.eqWldWorld -/
@[reducible] def w_eqWldWorld_i : Sh := ⟨[.c (.agg [.ro q0, .int .i64, .int .i64, .int .i64, .int .i64, .ro (.int .i64), .own 0, .ro q2, .int .i64, .ro q3]), .c (.agg [.ro q0, .int .i64, .int .i64, .int .i64, .int .i64, .ro (.int .i64), .own 1, .ro q2, .int .i64, .ro q3])], [(0, .rows 205 (.list 219 q1)), (1, .rows 205 (.list 219 q1))]⟩
@[reducible] def w_eqWldWorld_o : Sh := ⟨[.c (.leaf (.bool))], [(0, .rows 205 (.list 219 q1)), (1, .rows 205 (.list 219 q1))]⟩
noncomputable def w_eqWldWorld_T (k : Nat) : Env := ((w_eqLogRecS_E k).at 2 k [] [] []).gated (fun _ => true)
noncomputable def w_eqWldWorld (k : Nat) (x0 : List (Int × (Int × (Int × (Int × (Bool × Int)))))) (x1 : Int) (x2 : Int) (x3 : Int) (x4 : Int) (x5 : List Int) (x6 : List (Int × ((Int × (Int × Int)) × (Int × ((Int × Int) × ((Int × Int) × (Int × (Int × ((Int × Int) × ((Int × Int) × (Int × (Int × ((Int × Int) × (Int × (Bool × (ByteArray × (ByteArray × (Int × Int)))))))))))))))))) (x7 : Int) (x8 : List (Int × ((Int × (Int × Int)) × ((Int × Int) × (Int × (Int × Int)))))) (x9 : List (Int × (Int × (Int × (Int × (Bool × Int)))))) (x10 : Int) (x11 : Int) (x12 : Int) (x13 : Int) (x14 : List Int) (x15 : List (Int × ((Int × (Int × Int)) × (Int × ((Int × Int) × ((Int × Int) × (Int × (Int × ((Int × Int) × ((Int × Int) × (Int × (Int × ((Int × Int) × (Int × (Bool × (ByteArray × (ByteArray × (Int × Int)))))))))))))))))) (x16 : Int) (x17 : List (Int × ((Int × (Int × Int)) × ((Int × Int) × (Int × (Int × Int)))))) (x18 : List (List (Int × Int))) (x19 : List (List (Int × Int))) : Option (Dt w_eqWldWorld_o) := evFn (w_eqWldWorld_T k) Try.f36 [.c (.agg [.ro q0 x0, .int .i64 x1, .int .i64 x2, .int .i64 x3, .int .i64 x4, .ro (.int .i64) x5, .own 0, .ro q2 x6, .int .i64 x7, .ro q3 x8]), .c (.agg [.ro q0 x9, .int .i64 x10, .int .i64 x11, .int .i64 x12, .int .i64 x13, .ro (.int .i64) x14, .own 1, .ro q2 x15, .int .i64 x16, .ro q3 x17])] [(0, .rows 205 (.list 219 q1) x18), (1, .rows 205 (.list 219 q1) x19)] (unOut w_eqWldWorld_o)
theorem w_eqWldWorld_eq (k : Nat) (x0 : List (Int × (Int × (Int × (Int × (Bool × Int)))))) (x1 : Int) (x2 : Int) (x3 : Int) (x4 : Int) (x5 : List Int) (x6 : List (Int × ((Int × (Int × Int)) × (Int × ((Int × Int) × ((Int × Int) × (Int × (Int × ((Int × Int) × ((Int × Int) × (Int × (Int × ((Int × Int) × (Int × (Bool × (ByteArray × (ByteArray × (Int × Int)))))))))))))))))) (x7 : Int) (x8 : List (Int × ((Int × (Int × Int)) × ((Int × Int) × (Int × (Int × Int)))))) (x9 : List (Int × (Int × (Int × (Int × (Bool × Int)))))) (x10 : Int) (x11 : Int) (x12 : Int) (x13 : Int) (x14 : List Int) (x15 : List (Int × ((Int × (Int × Int)) × (Int × ((Int × Int) × ((Int × Int) × (Int × (Int × ((Int × Int) × ((Int × Int) × (Int × (Int × ((Int × Int) × (Int × (Bool × (ByteArray × (ByteArray × (Int × Int)))))))))))))))))) (x16 : Int) (x17 : List (Int × ((Int × (Int × Int)) × ((Int × Int) × (Int × (Int × Int)))))) (x18 : List (List (Int × Int))) (x19 : List (List (Int × Int))) : w_eqWldWorld k x0 x1 x2 x3 x4 x5 x6 x7 x8 x9 x10 x11 x12 x13 x14 x15 x16 x17 x18 x19 =
  ((w_eqArnArena k x0 x1 x2 x3 x9 x10 x11 x12).bind fun y1 =>
  (if (!y1.1) = true then
  (some (false, x18, x19, ()))
 else
  ((w_eqPolPool k x4 x5 x13 x14 x18 x19).bind fun y2 =>
  (if (!y2.1) = true then
  (some (false, y2.2.1, y2.2.2.1, ()))
 else
  ((w_eqHndHandS k x6 x15).bind fun y3 =>
  (if (!y3.1) = true then
  (some (false, y2.2.1, y2.2.2.1, ()))
 else
  (if (decide (¬ x7 = x16)) = true then
  (some (false, y2.2.1, y2.2.2.1, ()))
 else
  ((w_eqLogRecS k x8 x17).bind fun y4 =>
  (if (!y4.1) = true then
  (some (false, y2.2.1, y2.2.2.1, ()))
 else
  (some (true, y2.2.1, y2.2.2.1, ()))))))))))) := by kernel_rfl
noncomputable def w_eqWldWorld_G (k : Nat) : Dt w_eqWldWorld_i → Option (Dt w_eqWldWorld_o) := fun x => w_eqWldWorld k x.1 x.2.1 x.2.2.1 x.2.2.2.1 x.2.2.2.2.1 x.2.2.2.2.2.1 x.2.2.2.2.2.2.1 x.2.2.2.2.2.2.2.1 x.2.2.2.2.2.2.2.2.1 x.2.2.2.2.2.2.2.2.2.1 x.2.2.2.2.2.2.2.2.2.2.1 x.2.2.2.2.2.2.2.2.2.2.2.1 x.2.2.2.2.2.2.2.2.2.2.2.2.1 x.2.2.2.2.2.2.2.2.2.2.2.2.2.1 x.2.2.2.2.2.2.2.2.2.2.2.2.2.2.1 x.2.2.2.2.2.2.2.2.2.2.2.2.2.2.2.1 x.2.2.2.2.2.2.2.2.2.2.2.2.2.2.2.2.1 x.2.2.2.2.2.2.2.2.2.2.2.2.2.2.2.2.2.1 x.2.2.2.2.2.2.2.2.2.2.2.2.2.2.2.2.2.2.1 x.2.2.2.2.2.2.2.2.2.2.2.2.2.2.2.2.2.2.2.1
theorem w_eqWldWorld_c (k : Nat) : Comes1 (w_eqWldWorld_T k) Try.f36 w_eqWldWorld_i w_eqWldWorld_o (w_eqWldWorld_G k) := fun x => by kernel_rfl
noncomputable def w_eqWldWorld_E (k : Nat) : Env := (w_eqLogRecS_E k).with 36 w_eqWldWorld_i w_eqWldWorld_o (w_eqWldWorld_G k)
theorem w_eqWldWorld_ok (k : Nat) : EnvOk Try.prog (w_eqWldWorld_E k) := (w_eqLogRecS_ok k).with mixed (by decide) (by kernel_rfl) (by kernel_rfl) (w_eqWldWorld_c k) (by kernel_rfl)
end Go.Proofs.Ytiooamodldgalaa.Abs
