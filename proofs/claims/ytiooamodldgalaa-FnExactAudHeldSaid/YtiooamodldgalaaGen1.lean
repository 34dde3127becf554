/-
Plain functions that the program's functions come to, with their equations; part 1.
-/
import Derived.Test.YtiooamodldgalaaGen0
set_option maxRecDepth 100000
set_option linter.unusedVariables false
namespace Go.Proofs.Ytiooamodldgalaa.Abs
open Go Go.Proofs.Try
/-! ### loop.example/tuggers/laws.szArnNodeS -/
@[reducible] def w_szArnNodeS_i : Sh := ⟨[.c (.leaf (.ro q0)), .c (.leaf (.int .i64))], []⟩
@[reducible] def w_szArnNodeS_o : Sh := ⟨[.c (.leaf (.int .i64))], []⟩
noncomputable def w_szArnNodeS_T (k : Nat) : Env := ((base k).at 0 k [] [] []).gated (fun _ => true)
noncomputable def w_szArnNodeS (k : Nat) (x0 : List (Int × (Int × (Int × (Int × (Bool × Int)))))) (x1 : Int) : Option (Dt w_szArnNodeS_o) := evFn (w_szArnNodeS_T k) Try.f62 [.c (.leaf (.ro q0 x0)), .c (.leaf (.int .i64 x1))] [] (unOut w_szArnNodeS_o)
theorem w_szArnNodeS_eq (k : Nat) (x0 : List (Int × (Int × (Int × (Int × (Bool × Int)))))) (x1 : Int) : w_szArnNodeS k x0 x1 =
  (if (decide ((W (x1 - (List.length x0 : Int))) < (0:Int))) = true then
  (some ((-1:Int), ()))
 else
  (some ((W (x1 - (List.length x0 : Int))), ()))) := by kernel_rfl
noncomputable def w_szArnNodeS_G (k : Nat) : Dt w_szArnNodeS_i → Option (Dt w_szArnNodeS_o) := fun x => w_szArnNodeS k x.1 x.2.1
theorem w_szArnNodeS_c (k : Nat) : Comes1 (w_szArnNodeS_T k) Try.f62 w_szArnNodeS_i w_szArnNodeS_o (w_szArnNodeS_G k) := fun x => by kernel_rfl
noncomputable def w_szArnNodeS_E (k : Nat) : Env := (base k).with 62 w_szArnNodeS_i w_szArnNodeS_o (w_szArnNodeS_G k)
theorem w_szArnNodeS_ok (k : Nat) : EnvOk Try.prog (w_szArnNodeS_E k) := (base_ok k).with mixed (by decide) (by kernel_rfl) (by kernel_rfl) (w_szArnNodeS_c k) (by kernel_rfl)
/-! ### loop.example/tuggers/laws.szArnArena -/
@[reducible] def w_szArnArena_i : Sh := ⟨[.c (.agg [.ro q0, .int .i64, .int .i64, .int .i64]), .c (.leaf (.int .i64))], []⟩
@[reducible] def w_szArnArena_o : Sh := ⟨[.c (.leaf (.int .i64))], []⟩
noncomputable def w_szArnArena_T (k : Nat) : Env := ((w_szArnNodeS_E k).at 0 k [] [] []).gated (fun _ => true)
noncomputable def w_szArnArena (k : Nat) (x0 : List (Int × (Int × (Int × (Int × (Bool × Int)))))) (x1 : Int) (x2 : Int) (x3 : Int) (x4 : Int) : Option (Dt w_szArnArena_o) := evFn (w_szArnArena_T k) Try.f13 [.c (.agg [.ro q0 x0, .int .i64 x1, .int .i64 x2, .int .i64 x3]), .c (.leaf (.int .i64 x4))] [] (unOut w_szArnArena_o)
theorem w_szArnArena_eq (k : Nat) (x0 : List (Int × (Int × (Int × (Int × (Bool × Int)))))) (x1 : Int) (x2 : Int) (x3 : Int) (x4 : Int) : w_szArnArena k x0 x1 x2 x3 x4 =
  ((w_szArnNodeS k x0 x4).bind fun y1 =>
  (if (decide (y1.1 < (0:Int))) = true then
  (some ((-1:Int), ()))
 else
  (some (y1.1, ())))) := by kernel_rfl
noncomputable def w_szArnArena_G (k : Nat) : Dt w_szArnArena_i → Option (Dt w_szArnArena_o) := fun x => w_szArnArena k x.1 x.2.1 x.2.2.1 x.2.2.2.1 x.2.2.2.2.1
theorem w_szArnArena_c (k : Nat) : Comes1 (w_szArnArena_T k) Try.f13 w_szArnArena_i w_szArnArena_o (w_szArnArena_G k) := fun x => by kernel_rfl
noncomputable def w_szArnArena_E (k : Nat) : Env := (w_szArnNodeS_E k).with 13 w_szArnArena_i w_szArnArena_o (w_szArnArena_G k)
theorem w_szArnArena_ok (k : Nat) : EnvOk Try.prog (w_szArnArena_E k) := (w_szArnNodeS_ok k).with mixed (by decide) (by kernel_rfl) (by kernel_rfl) (w_szArnArena_c k) (by kernel_rfl)
/-! ### loop.example/tuggers/laws.toArnNode -/
@[reducible] def w_toArnNode_i : Sh := ⟨[.c (.agg [.int .i64, .int .i64, .int .i64, .int .i64, .bool, .int .i64])], []⟩
@[reducible] def w_toArnNode_o : Sh := ⟨[.c (.agg [.int .i64, .int .i64, .int .i64, .int .i64, .bool, .int .i64])], []⟩
noncomputable def w_toArnNode_T (k : Nat) : Env := ((w_szArnArena_E k).at 0 k [] [] []).gated (fun _ => true)
noncomputable def w_toArnNode (k : Nat) (x0 : Int) (x1 : Int) (x2 : Int) (x3 : Int) (x4 : Bool) (x5 : Int) : Option (Dt w_toArnNode_o) := evFn (w_toArnNode_T k) Try.f142 [.c (.agg [.int .i64 x0, .int .i64 x1, .int .i64 x2, .int .i64 x3, .bool x4, .int .i64 x5])] [] (unOut w_toArnNode_o)
theorem w_toArnNode_eq (k : Nat) (x0 : Int) (x1 : Int) (x2 : Int) (x3 : Int) (x4 : Bool) (x5 : Int) : w_toArnNode k x0 x1 x2 x3 x4 x5 =
  (some (x0, x1, x2, x3, x4, x5, ())) := by kernel_rfl
noncomputable def w_toArnNode_G (k : Nat) : Dt w_toArnNode_i → Option (Dt w_toArnNode_o) := fun x => w_toArnNode k x.1 x.2.1 x.2.2.1 x.2.2.2.1 x.2.2.2.2.1 x.2.2.2.2.2.1
theorem w_toArnNode_c (k : Nat) : Comes1 (w_toArnNode_T k) Try.f142 w_toArnNode_i w_toArnNode_o (w_toArnNode_G k) := fun x => by kernel_rfl
noncomputable def w_toArnNode_E (k : Nat) : Env := (w_szArnArena_E k).with 142 w_toArnNode_i w_toArnNode_o (w_toArnNode_G k)
theorem w_toArnNode_ok (k : Nat) : EnvOk Try.prog (w_toArnNode_E k) := (w_szArnArena_ok k).with mixed (by decide) (by kernel_rfl) (by kernel_rfl) (w_toArnNode_c k) (by kernel_rfl)
/-! ### loop.example/tuggers/laws.toArnNodeS -/
@[reducible] def w_toArnNodeS_i : Sh := ⟨[.c (.leaf (.ro q0))], []⟩
@[reducible] def w_toArnNodeS_o : Sh := ⟨[.c (.leaf (.own 0))], [(0, .rows 113 q0)]⟩
noncomputable def w_toArnNodeS_T (k : Nat) : Env := ((w_toArnNode_E k).at 0 k [] [(3, ⟨[0, 3, 4], []⟩)] [⟨2, false, 0, 113, q0⟩]).gated (fun _ => true)
noncomputable def w_toArnNodeS_l3 (k n0 : Nat) (v0 : List (Int × (Int × (Int × (Int × (Bool × Int)))))) (v1 : Int) (v2 : List (Int × (Int × (Int × (Int × (Bool × Int)))))) : Option (Dt w_toArnNodeS_o) := atLoop (w_toArnNodeS_T k) (subF Try.f66 [.r, .r, .l, .r, .l]) n0 ⟨tml 23 [(0, .c (.leaf (.ro q0 v0))), (3, .c (.leaf (.own 0))), (4, .c (.leaf (.int .i64 v1)))], [(0, .rows 113 q0 v2)]⟩ (kbl (subF Try.f66 [.r, .r, .l, .r]) (ksq (w_toArnNodeS_T k) (subF Try.f66 [.r, .r]) (kret (w_toArnNodeS_T k) Try.f66.results.toList (unOut w_toArnNodeS_o))))
noncomputable def w_toArnNodeS (k : Nat) (x0 : List (Int × (Int × (Int × (Int × (Bool × Int)))))) : Option (Dt w_toArnNodeS_o) := evFn (w_toArnNodeS_T k) Try.f66 [.c (.leaf (.ro q0 x0))] [] (unOut w_toArnNodeS_o)
theorem w_toArnNodeS_l3_0 (k : Nat) (v0 : List (Int × (Int × (Int × (Int × (Bool × Int)))))) (v1 : Int) (v2 : List (Int × (Int × (Int × (Int × (Bool × Int)))))) : w_toArnNodeS_l3 k 0 v0 v1 v2 = none := by kernel_rfl
theorem w_toArnNodeS_l3_s (k n0 : Nat) (v0 : List (Int × (Int × (Int × (Int × (Bool × Int)))))) (v1 : Int) (v2 : List (Int × (Int × (Int × (Int × (Bool × Int)))))) : w_toArnNodeS_l3 k (n0 + 1) v0 v1 v2 =
  (if (decide (v1 < (List.length v0 : Int))) = true then
  (if (0:Int) ≤ v1 ∧ v1 < (List.length v0 : Int) then
  ((w_toArnNode k (v0.getD (Int.toNat v1) ((0:Int), ((0:Int), ((0:Int), ((0:Int), (false, (0:Int))))))).1 (v0.getD (Int.toNat v1) ((0:Int), ((0:Int), ((0:Int), ((0:Int), (false, (0:Int))))))).2.1 (v0.getD (Int.toNat v1) ((0:Int), ((0:Int), ((0:Int), ((0:Int), (false, (0:Int))))))).2.2.1 (v0.getD (Int.toNat v1) ((0:Int), ((0:Int), ((0:Int), ((0:Int), (false, (0:Int))))))).2.2.2.1 (v0.getD (Int.toNat v1) ((0:Int), ((0:Int), ((0:Int), ((0:Int), (false, (0:Int))))))).2.2.2.2.1 (v0.getD (Int.toNat v1) ((0:Int), ((0:Int), ((0:Int), ((0:Int), (false, (0:Int))))))).2.2.2.2.2).bind fun y1 =>
  (if (0:Int) ≤ v1 ∧ v1 < (List.length v2 : Int) then
  (w_toArnNodeS_l3 k n0 v0 (W (v1 + (1:Int))) (v2.set (Int.toNat v1) (y1.1, (y1.2.1, (y1.2.2.1, (y1.2.2.2.1, (y1.2.2.2.2.1, y1.2.2.2.2.2.1)))))))
 else none))
 else none)
 else
  (some (v2, ()))) := by kernel_rfl
theorem w_toArnNodeS_eq (k : Nat) (x0 : List (Int × (Int × (Int × (Int × (Bool × Int)))))) : w_toArnNodeS k x0 =
  (if (0:Int) ≤ (List.length x0 : Int) ∧ (List.length x0 : Int) ≤ (LB : Int) ∧ (List.length x0 : Int) = (List.length x0 : Int) then
  (w_toArnNodeS_l3 k k x0 (0:Int) (List.replicate (Int.toNat (List.length x0 : Int)) ((0:Int), ((0:Int), ((0:Int), ((0:Int), (false, (0:Int))))))))
 else none) := by kernel_rfl
noncomputable def w_toArnNodeS_G (k : Nat) : Dt w_toArnNodeS_i → Option (Dt w_toArnNodeS_o) := fun x => w_toArnNodeS k x.1
theorem w_toArnNodeS_c (k : Nat) : Comes1 (w_toArnNodeS_T k) Try.f66 w_toArnNodeS_i w_toArnNodeS_o (w_toArnNodeS_G k) := fun x => by kernel_rfl
noncomputable def w_toArnNodeS_E (k : Nat) : Env := (w_toArnNode_E k).with 66 w_toArnNodeS_i w_toArnNodeS_o (w_toArnNodeS_G k)
theorem w_toArnNodeS_ok (k : Nat) : EnvOk Try.prog (w_toArnNodeS_E k) := (w_toArnNode_ok k).with mixed (by decide) (by kernel_rfl) (by kernel_rfl) (w_toArnNodeS_c k) (by kernel_rfl)
/-! ### loop.example/tuggers/laws.toArnArena -/
@[reducible] def w_toArnArena_i : Sh := ⟨[.c (.agg [.ro q0, .int .i64, .int .i64, .int .i64])], []⟩
@[reducible] def w_toArnArena_o : Sh := ⟨[.c (.agg [.own 0, .int .i64, .int .i64, .int .i64])], [(0, .rows 113 q0)]⟩
noncomputable def w_toArnArena_T (k : Nat) : Env := ((w_toArnNodeS_E k).at 0 k [] [] [⟨2, true, 0, 113, q0⟩]).gated (fun _ => true)
noncomputable def w_toArnArena (k : Nat) (x0 : List (Int × (Int × (Int × (Int × (Bool × Int)))))) (x1 : Int) (x2 : Int) (x3 : Int) : Option (Dt w_toArnArena_o) := evFn (w_toArnArena_T k) Try.f15 [.c (.agg [.ro q0 x0, .int .i64 x1, .int .i64 x2, .int .i64 x3])] [] (unOut w_toArnArena_o)
theorem w_toArnArena_eq (k : Nat) (x0 : List (Int × (Int × (Int × (Int × (Bool × Int)))))) (x1 : Int) (x2 : Int) (x3 : Int) : w_toArnArena k x0 x1 x2 x3 =
  ((w_toArnNodeS k x0).bind fun y1 =>
  (some (x1, x2, x3, y1.1, ()))) := by kernel_rfl
noncomputable def w_toArnArena_G (k : Nat) : Dt w_toArnArena_i → Option (Dt w_toArnArena_o) := fun x => w_toArnArena k x.1 x.2.1 x.2.2.1 x.2.2.2.1
theorem w_toArnArena_c (k : Nat) : Comes1 (w_toArnArena_T k) Try.f15 w_toArnArena_i w_toArnArena_o (w_toArnArena_G k) := fun x => by kernel_rfl
noncomputable def w_toArnArena_E (k : Nat) : Env := (w_toArnNodeS_E k).with 15 w_toArnArena_i w_toArnArena_o (w_toArnArena_G k)
theorem w_toArnArena_ok (k : Nat) : EnvOk Try.prog (w_toArnArena_E k) := (w_toArnNodeS_ok k).with mixed (by decide) (by kernel_rfl) (by kernel_rfl) (w_toArnArena_c k) (by kernel_rfl)
/-! ### loop.example/tuggers/spec.l1In -/
@[reducible] def s_l1In_i : Sh := ⟨[.c (.leaf (.int .i64)), .c (.leaf (.int .i64)), .c (.leaf (.int .i64))], []⟩
@[reducible] def s_l1In_o : Sh := ⟨[.c (.leaf (.bool))], []⟩
noncomputable def s_l1In_T (k : Nat) : Env := ((w_toArnArena_E k).at 0 k [] [] []).gated (fun _ => true)
noncomputable def s_l1In (k : Nat) (x0 : Int) (x1 : Int) (x2 : Int) : Option (Dt s_l1In_o) := evFn (s_l1In_T k) Try.f84 [.c (.leaf (.int .i64 x0)), .c (.leaf (.int .i64 x1)), .c (.leaf (.int .i64 x2))] [] (unOut s_l1In_o)
theorem s_l1In_eq (k : Nat) (x0 : Int) (x1 : Int) (x2 : Int) : s_l1In k x0 x1 x2 =
  (if (decide (x1 ≤ x0)) = true then
  (some ((decide (x0 ≤ x2)), ()))
 else
  (some (false, ()))) := by kernel_rfl
noncomputable def s_l1In_G (k : Nat) : Dt s_l1In_i → Option (Dt s_l1In_o) := fun x => s_l1In k x.1 x.2.1 x.2.2.1
theorem s_l1In_c (k : Nat) : Comes1 (s_l1In_T k) Try.f84 s_l1In_i s_l1In_o (s_l1In_G k) := fun x => by kernel_rfl
noncomputable def s_l1In_E (k : Nat) : Env := (w_toArnArena_E k).with 84 s_l1In_i s_l1In_o (s_l1In_G k)
theorem s_l1In_ok (k : Nat) : EnvOk Try.prog (s_l1In_E k) := (w_toArnArena_ok k).with mixed (by decide) (by kernel_rfl) (by kernel_rfl) (s_l1In_c k) (by kernel_rfl)
/-! ### loop.example/tuggers/spec.WrdMark -/
@[reducible] def s_WrdMark_i : Sh := ⟨[.c (.leaf (.int .i64))], []⟩
@[reducible] def s_WrdMark_o : Sh := ⟨[.c (.leaf (.bool))], []⟩
noncomputable def s_WrdMark_T (k : Nat) : Env := ((s_l1In_E k).at 0 k [] [] []).gated (fun _ => true)
noncomputable def s_WrdMark (k : Nat) (x0 : Int) : Option (Dt s_WrdMark_o) := evFn (s_WrdMark_T k) Try.f73 [.c (.leaf (.int .i64 x0))] [] (unOut s_WrdMark_o)
theorem s_WrdMark_eq (k : Nat) (x0 : Int) : s_WrdMark k x0 =
  ((s_l1In k x0 (0:Int) (19:Int)).bind fun y1 =>
  (if y1.1 = true then
  (some ((decide ((Int.tmod x0 (2:Int)) = (1:Int))), ()))
 else
  (some (false, ())))) := by kernel_rfl
noncomputable def s_WrdMark_G (k : Nat) : Dt s_WrdMark_i → Option (Dt s_WrdMark_o) := fun x => s_WrdMark k x.1
theorem s_WrdMark_c (k : Nat) : Comes1 (s_WrdMark_T k) Try.f73 s_WrdMark_i s_WrdMark_o (s_WrdMark_G k) := fun x => by kernel_rfl
noncomputable def s_WrdMark_E (k : Nat) : Env := (s_l1In_E k).with 73 s_WrdMark_i s_WrdMark_o (s_WrdMark_G k)
theorem s_WrdMark_ok (k : Nat) : EnvOk Try.prog (s_WrdMark_E k) := (s_l1In_ok k).with mixed (by decide) (by kernel_rfl) (by kernel_rfl) (s_WrdMark_c k) (by kernel_rfl)
/-! ### loop.example/tuggers/spec.l2Node -/
@[reducible] def s_l2Node_i : Sh := ⟨[.c (.agg [.int .i64, .int .i64, .int .i64, .int .i64, .bool, .int .i64])], []⟩
@[reducible] def s_l2Node_o : Sh := ⟨[.c (.leaf (.bool))], []⟩
noncomputable def s_l2Node_T (k : Nat) : Env := ((s_WrdMark_E k).at 0 k [] [] []).gated (fun _ => true)
noncomputable def s_l2Node (k : Nat) (x0 : Int) (x1 : Int) (x2 : Int) (x3 : Int) (x4 : Bool) (x5 : Int) : Option (Dt s_l2Node_o) := evFn (s_l2Node_T k) Try.f176 [.c (.agg [.int .i64 x0, .int .i64 x1, .int .i64 x2, .int .i64 x3, .bool x4, .int .i64 x5])] [] (unOut s_l2Node_o)
theorem s_l2Node_eq (k : Nat) (x0 : Int) (x1 : Int) (x2 : Int) (x3 : Int) (x4 : Bool) (x5 : Int) : s_l2Node k x0 x1 x2 x3 x4 x5 =
  ((s_l1In k x0 (0:Int) (99:Int)).bind fun y1 =>
  (if y1.1 = true then
  ((s_l1In k x1 (0:Int) (999:Int)).bind fun y2 =>
  (if y2.1 = true then
  ((s_l1In k x2 (0:Int) (19:Int)).bind fun y3 =>
  (if y3.1 = true then
  (if (decide ((0:Int) ≤ x5)) = true then
  (some ((decide ((0:Int) ≤ x3)), ()))
 else
  (some (false, ())))
 else
  (some (false, ()))))
 else
  (some (false, ()))))
 else
  (some (false, ())))) := by kernel_rfl
noncomputable def s_l2Node_G (k : Nat) : Dt s_l2Node_i → Option (Dt s_l2Node_o) := fun x => s_l2Node k x.1 x.2.1 x.2.2.1 x.2.2.2.1 x.2.2.2.2.1 x.2.2.2.2.2.1
theorem s_l2Node_c (k : Nat) : Comes1 (s_l2Node_T k) Try.f176 s_l2Node_i s_l2Node_o (s_l2Node_G k) := fun x => by kernel_rfl
noncomputable def s_l2Node_E (k : Nat) : Env := (s_WrdMark_E k).with 176 s_l2Node_i s_l2Node_o (s_l2Node_G k)
theorem s_l2Node_ok (k : Nat) : EnvOk Try.prog (s_l2Node_E k) := (s_WrdMark_ok k).with mixed (by decide) (by kernel_rfl) (by kernel_rfl) (s_l2Node_c k) (by kernel_rfl)
/-! ### loop.example/tuggers/spec.l2Shape -/
@[reducible] def s_l2Shape_i : Sh := ⟨[.c (.agg [.ro q0, .int .i64, .int .i64, .int .i64])], []⟩
@[reducible] def s_l2Shape_o : Sh := ⟨[.c (.leaf (.bool))], []⟩
noncomputable def s_l2Shape_T (k : Nat) : Env := ((s_l2Node_E k).at 0 k [] [(4, ⟨[1, 3], []⟩)] []).gated (fun _ => true)
noncomputable def s_l2Shape_l4 (k n0 : Nat) (v0 : Int) (v1 : List (Int × (Int × (Int × (Int × (Bool × Int)))))) (v2 : Int) (v3 : Int) (v4 : Int) : Option (Dt s_l2Shape_o) := atLoop (s_l2Shape_T k) (subF Try.f136 [.r, .r, .l, .r, .l]) n0 ⟨tml 72 [(1, .c (.leaf (.ptr 0 0))), (3, .c (.leaf (.int .i64 v0)))], [(0, .cells 30 [.ro q0 v1, .int .i64 v2, .int .i64 v3, .int .i64 v4])]⟩ (kbl (subF Try.f136 [.r, .r, .l, .r]) (ksq (s_l2Shape_T k) (subF Try.f136 [.r, .r]) (kret (s_l2Shape_T k) Try.f136.results.toList (unOut s_l2Shape_o))))
noncomputable def s_l2Shape (k : Nat) (x0 : List (Int × (Int × (Int × (Int × (Bool × Int)))))) (x1 : Int) (x2 : Int) (x3 : Int) : Option (Dt s_l2Shape_o) := evFn (s_l2Shape_T k) Try.f136 [.c (.agg [.ro q0 x0, .int .i64 x1, .int .i64 x2, .int .i64 x3])] [] (unOut s_l2Shape_o)
theorem s_l2Shape_l4_0 (k : Nat) (v0 : Int) (v1 : List (Int × (Int × (Int × (Int × (Bool × Int)))))) (v2 : Int) (v3 : Int) (v4 : Int) : s_l2Shape_l4 k 0 v0 v1 v2 v3 v4 = none := by kernel_rfl
theorem s_l2Shape_l4_s (k n0 : Nat) (v0 : Int) (v1 : List (Int × (Int × (Int × (Int × (Bool × Int)))))) (v2 : Int) (v3 : Int) (v4 : Int) : s_l2Shape_l4 k (n0 + 1) v0 v1 v2 v3 v4 =
  (if (decide (v0 ≤ (9:Int))) = true then
  (if (0:Int) ≤ v0 ∧ v0 < (List.length v1 : Int) then
  ((s_l2Node k (v1.getD (Int.toNat v0) ((0:Int), ((0:Int), ((0:Int), ((0:Int), (false, (0:Int))))))).1 (v1.getD (Int.toNat v0) ((0:Int), ((0:Int), ((0:Int), ((0:Int), (false, (0:Int))))))).2.1 (v1.getD (Int.toNat v0) ((0:Int), ((0:Int), ((0:Int), ((0:Int), (false, (0:Int))))))).2.2.1 (v1.getD (Int.toNat v0) ((0:Int), ((0:Int), ((0:Int), ((0:Int), (false, (0:Int))))))).2.2.2.1 (v1.getD (Int.toNat v0) ((0:Int), ((0:Int), ((0:Int), ((0:Int), (false, (0:Int))))))).2.2.2.2.1 (v1.getD (Int.toNat v0) ((0:Int), ((0:Int), ((0:Int), ((0:Int), (false, (0:Int))))))).2.2.2.2.2).bind fun y2 =>
  (if (!y2.1) = true then
  (some (false, ()))
 else
  (s_l2Shape_l4 k n0 (W (v0 + (1:Int))) v1 v2 v3 v4)))
 else none)
 else
  ((s_l1In k v2 (0:Int) (9:Int)).bind fun y3 =>
  (if y3.1 = true then
  ((s_l1In k v3 (1:Int) (9:Int)).bind fun y4 =>
  (if y4.1 = true then
  ((s_l1In k v4 (1:Int) (9:Int)).bind fun y5 =>
  (some (y5.1, ())))
 else
  (some (false, ()))))
 else
  (some (false, ()))))) := by kernel_rfl
theorem s_l2Shape_eq (k : Nat) (x0 : List (Int × (Int × (Int × (Int × (Bool × Int)))))) (x1 : Int) (x2 : Int) (x3 : Int) : s_l2Shape k x0 x1 x2 x3 =
  (if (decide (¬ (List.length x0 : Int) = (10:Int))) = true then
  (some (false, ()))
 else
  (if (0:Int) ≤ (0:Int) ∧ (0:Int) < (List.length x0 : Int) then
  (if (!(x0.getD 0 ((0:Int), ((0:Int), ((0:Int), ((0:Int), (false, (0:Int))))))).2.2.2.2.1) = true then
  (some (false, ()))
 else
  (if (0:Int) ≤ (0:Int) ∧ (0:Int) < (List.length x0 : Int) then
  (if (decide (¬ (x0.getD 0 ((0:Int), ((0:Int), ((0:Int), ((0:Int), (false, (0:Int))))))).2.2.2.2.2 = (0:Int))) = true then
  (some (false, ()))
 else
  (if (0:Int) ≤ (0:Int) ∧ (0:Int) < (List.length x0 : Int) then
  (if (decide (¬ (x0.getD 0 ((0:Int), ((0:Int), ((0:Int), ((0:Int), (false, (0:Int))))))).1 = (0:Int))) = true then
  (some (false, ()))
 else
  (if (0:Int) ≤ (0:Int) ∧ (0:Int) < (List.length x0 : Int) then
  (if (decide (¬ (x0.getD 0 ((0:Int), ((0:Int), ((0:Int), ((0:Int), (false, (0:Int))))))).2.1 = (0:Int))) = true then
  (some (false, ()))
 else
  (if (0:Int) ≤ (0:Int) ∧ (0:Int) < (List.length x0 : Int) then
  ((s_WrdMark k (x0.getD 0 ((0:Int), ((0:Int), ((0:Int), ((0:Int), (false, (0:Int))))))).2.2.1).bind fun y1 =>
  (if y1.1 = true then
  (some (false, ()))
 else
  (s_l2Shape_l4 k k (0:Int) x0 x1 x2 x3)))
 else none))
 else none))
 else none))
 else none))
 else none)) := by kernel_rfl
noncomputable def s_l2Shape_G (k : Nat) : Dt s_l2Shape_i → Option (Dt s_l2Shape_o) := fun x => s_l2Shape k x.1 x.2.1 x.2.2.1 x.2.2.2.1
theorem s_l2Shape_c (k : Nat) : Comes1 (s_l2Shape_T k) Try.f136 s_l2Shape_i s_l2Shape_o (s_l2Shape_G k) := fun x => by kernel_rfl
noncomputable def s_l2Shape_E (k : Nat) : Env := (s_l2Node_E k).with 136 s_l2Shape_i s_l2Shape_o (s_l2Shape_G k)
theorem s_l2Shape_ok (k : Nat) : EnvOk Try.prog (s_l2Shape_E k) := (s_l2Node_ok k).with mixed (by decide) (by kernel_rfl) (by kernel_rfl) (s_l2Shape_c k) (by kernel_rfl)
/-! ### loop.example/tuggers/spec.WrdTo -/
@[reducible] def s_WrdTo_i : Sh := ⟨[.c (.leaf (.int .i64))], []⟩
@[reducible] def s_WrdTo_o : Sh := ⟨[.c (.leaf (.int .i64))], []⟩
noncomputable def s_WrdTo_T (k : Nat) : Env := ((s_l2Shape_E k).at 0 k [] [] []).gated (fun _ => true)
noncomputable def s_WrdTo (k : Nat) (x0 : Int) : Option (Dt s_WrdTo_o) := evFn (s_WrdTo_T k) Try.f149 [.c (.leaf (.int .i64 x0))] [] (unOut s_WrdTo_o)
theorem s_WrdTo_eq (k : Nat) (x0 : Int) : s_WrdTo k x0 =
  ((s_l1In k x0 (0:Int) (19:Int)).bind fun y1 =>
  (if (!y1.1) = true then
  (some ((0:Int), ()))
 else
  (some ((W (Int.tdiv x0 (2:Int))), ())))) := by kernel_rfl
noncomputable def s_WrdTo_G (k : Nat) : Dt s_WrdTo_i → Option (Dt s_WrdTo_o) := fun x => s_WrdTo k x.1
theorem s_WrdTo_c (k : Nat) : Comes1 (s_WrdTo_T k) Try.f149 s_WrdTo_i s_WrdTo_o (s_WrdTo_G k) := fun x => by kernel_rfl
noncomputable def s_WrdTo_E (k : Nat) : Env := (s_l2Shape_E k).with 149 s_WrdTo_i s_WrdTo_o (s_WrdTo_G k)
theorem s_WrdTo_ok (k : Nat) : EnvOk Try.prog (s_WrdTo_E k) := (s_l2Shape_ok k).with mixed (by decide) (by kernel_rfl) (by kernel_rfl) (s_WrdTo_c k) (by kernel_rfl)
/-! ### loop.example/tuggers/spec.l2From -/
@[reducible] def s_l2From_i : Sh := ⟨[.c (.agg [.ro q0, .int .i64, .int .i64, .int .i64]), .c (.leaf (.int .i64))], []⟩
@[reducible] def s_l2From_o : Sh := ⟨[.c (.leaf (.own 0))], [(0, .rows 3 (.int .i64))]⟩
noncomputable def s_l2From_T (k : Nat) : Env := ((s_WrdTo_E k).at 0 k [] [(4, ⟨[2, 5, 6, 7], []⟩)] [⟨4, false, 0, 3, (.int .i64)⟩]).gated (fun _ => true)
noncomputable def s_l2From_l4 (k n0 : Nat) (v0 : Int) (v1 : Int) (v2 : List (Int × (Int × (Int × (Int × (Bool × Int)))))) (v3 : Int) (v4 : Int) (v5 : Int) (v6 : List Int) : Option (Dt s_l2From_o) := atLoop (s_l2From_T k) (subF Try.f141 [.r, .r, .r, .l, .r, .l]) n0 ⟨tml 30 [(2, .c (.leaf (.ptr 0 0))), (5, .c (.leaf (.own 1))), (6, .c (.leaf (.int .i64 v0))), (7, .c (.leaf (.int .i64 v1)))], [(0, .cells 30 [.ro q0 v2, .int .i64 v3, .int .i64 v4, .int .i64 v5]), (1, .rows 3 (.int .i64) v6)]⟩ (kbl (subF Try.f141 [.r, .r, .r, .l, .r]) (ksq (s_l2From_T k) (subF Try.f141 [.r, .r, .r]) (kret (s_l2From_T k) Try.f141.results.toList (unOut s_l2From_o))))
noncomputable def s_l2From (k : Nat) (x0 : List (Int × (Int × (Int × (Int × (Bool × Int)))))) (x1 : Int) (x2 : Int) (x3 : Int) (x4 : Int) : Option (Dt s_l2From_o) := evFn (s_l2From_T k) Try.f141 [.c (.agg [.ro q0 x0, .int .i64 x1, .int .i64 x2, .int .i64 x3]), .c (.leaf (.int .i64 x4))] [] (unOut s_l2From_o)
theorem s_l2From_l4_0 (k : Nat) (v0 : Int) (v1 : Int) (v2 : List (Int × (Int × (Int × (Int × (Bool × Int)))))) (v3 : Int) (v4 : Int) (v5 : Int) (v6 : List Int) : s_l2From_l4 k 0 v0 v1 v2 v3 v4 v5 v6 = none := by kernel_rfl
theorem s_l2From_l4_s (k n0 : Nat) (v0 : Int) (v1 : Int) (v2 : List (Int × (Int × (Int × (Int × (Bool × Int)))))) (v3 : Int) (v4 : Int) (v5 : Int) (v6 : List Int) : s_l2From_l4 k (n0 + 1) v0 v1 v2 v3 v4 v5 v6 =
  (if (decide (v1 < (9:Int))) = true then
  (if (decide ((0:Int) < v0)) = true then
  (if List.length v6 + List.length [v0] ≤ LB then
  (if (0:Int) ≤ v0 ∧ v0 < (List.length v2 : Int) then
  ((s_WrdTo k (v2.getD (Int.toNat v0) ((0:Int), ((0:Int), ((0:Int), ((0:Int), (false, (0:Int))))))).2.2.1).bind fun y1 =>
  (s_l2From_l4 k n0 y1.1 (W (v1 + (1:Int))) v2 v3 v4 v5 (v6 ++ [v0])))
 else none)
 else none)
 else
  (some (v6, ())))
 else
  (some (v6, ()))) := by kernel_rfl
theorem s_l2From_eq (k : Nat) (x0 : List (Int × (Int × (Int × (Int × (Bool × Int)))))) (x1 : Int) (x2 : Int) (x3 : Int) (x4 : Int) : s_l2From k x0 x1 x2 x3 x4 =
  (s_l2From_l4 k k x4 (0:Int) x0 x1 x2 x3 ([] : List Int)) := by kernel_rfl
noncomputable def s_l2From_G (k : Nat) : Dt s_l2From_i → Option (Dt s_l2From_o) := fun x => s_l2From k x.1 x.2.1 x.2.2.1 x.2.2.2.1 x.2.2.2.2.1
theorem s_l2From_c (k : Nat) : Comes1 (s_l2From_T k) Try.f141 s_l2From_i s_l2From_o (s_l2From_G k) := fun x => by kernel_rfl
noncomputable def s_l2From_E (k : Nat) : Env := (s_WrdTo_E k).with 141 s_l2From_i s_l2From_o (s_l2From_G k)
theorem s_l2From_ok (k : Nat) : EnvOk Try.prog (s_l2From_E k) := (s_WrdTo_ok k).with mixed (by decide) (by kernel_rfl) (by kernel_rfl) (s_l2From_c k) (by kernel_rfl)
/-! ### loop.example/tuggers/spec.ArnChain -/
@[reducible] def s_ArnChain_i : Sh := ⟨[.c (.agg [.ro q0, .int .i64, .int .i64, .int .i64])], []⟩
@[reducible] def s_ArnChain_o : Sh := ⟨[.c (.leaf (.own 0))], [(0, .rows 3 (.int .i64))]⟩
noncomputable def s_ArnChain_T (k : Nat) : Env := ((s_l2From_E k).at 0 k [] [] [⟨2, false, 0, 3, (.int .i64)⟩]).gated (fun _ => true)
noncomputable def s_ArnChain (k : Nat) (x0 : List (Int × (Int × (Int × (Int × (Bool × Int)))))) (x1 : Int) (x2 : Int) (x3 : Int) : Option (Dt s_ArnChain_o) := evFn (s_ArnChain_T k) Try.f72 [.c (.agg [.ro q0 x0, .int .i64 x1, .int .i64 x2, .int .i64 x3])] [] (unOut s_ArnChain_o)
theorem s_ArnChain_eq (k : Nat) (x0 : List (Int × (Int × (Int × (Int × (Bool × Int)))))) (x1 : Int) (x2 : Int) (x3 : Int) : s_ArnChain k x0 x1 x2 x3 =
  ((s_l2Shape k x0 x1 x2 x3).bind fun y1 =>
  (if (!y1.1) = true then
  (some (([] : List Int), ()))
 else
  (if (0:Int) ≤ (0:Int) ∧ (0:Int) < (List.length x0 : Int) then
  ((s_WrdTo k (x0.getD 0 ((0:Int), ((0:Int), ((0:Int), ((0:Int), (false, (0:Int))))))).2.2.1).bind fun y2 =>
  ((s_l2From k x0 x1 x2 x3 y2.1).bind fun y3 =>
  (some (y3.1, ()))))
 else none))) := by kernel_rfl
noncomputable def s_ArnChain_G (k : Nat) : Dt s_ArnChain_i → Option (Dt s_ArnChain_o) := fun x => s_ArnChain k x.1 x.2.1 x.2.2.1 x.2.2.2.1
theorem s_ArnChain_c (k : Nat) : Comes1 (s_ArnChain_T k) Try.f72 s_ArnChain_i s_ArnChain_o (s_ArnChain_G k) := fun x => by kernel_rfl
noncomputable def s_ArnChain_E (k : Nat) : Env := (s_l2From_E k).with 72 s_ArnChain_i s_ArnChain_o (s_ArnChain_G k)
theorem s_ArnChain_ok (k : Nat) : EnvOk Try.prog (s_ArnChain_E k) := (s_l2From_ok k).with mixed (by decide) (by kernel_rfl) (by kernel_rfl) (s_ArnChain_c k) (by kernel_rfl)
/-! ### loop.example/tuggers/spec.ArnStacked -/
@[reducible] def s_ArnStacked_i : Sh := ⟨[.c (.agg [.ro q0, .int .i64, .int .i64, .int .i64])], []⟩
@[reducible] def s_ArnStacked_o : Sh := ⟨[.c (.leaf (.own 0))], [(0, .rows 3 (.int .i64))]⟩
noncomputable def s_ArnStacked_T (k : Nat) : Env := ((s_ArnChain_E k).at 0 k [] [] [⟨2, false, 0, 3, (.int .i64)⟩]).gated (fun _ => true)
noncomputable def s_ArnStacked (k : Nat) (x0 : List (Int × (Int × (Int × (Int × (Bool × Int)))))) (x1 : Int) (x2 : Int) (x3 : Int) : Option (Dt s_ArnStacked_o) := evFn (s_ArnStacked_T k) Try.f65 [.c (.agg [.ro q0 x0, .int .i64 x1, .int .i64 x2, .int .i64 x3])] [] (unOut s_ArnStacked_o)
theorem s_ArnStacked_eq (k : Nat) (x0 : List (Int × (Int × (Int × (Int × (Bool × Int)))))) (x1 : Int) (x2 : Int) (x3 : Int) : s_ArnStacked k x0 x1 x2 x3 =
  ((s_l2Shape k x0 x1 x2 x3).bind fun y1 =>
  (if (!y1.1) = true then
  (some (([] : List Int), ()))
 else
  ((s_l2From k x0 x1 x2 x3 x1).bind fun y2 =>
  (some (y2.1, ()))))) := by kernel_rfl
noncomputable def s_ArnStacked_G (k : Nat) : Dt s_ArnStacked_i → Option (Dt s_ArnStacked_o) := fun x => s_ArnStacked k x.1 x.2.1 x.2.2.1 x.2.2.2.1
theorem s_ArnStacked_c (k : Nat) : Comes1 (s_ArnStacked_T k) Try.f65 s_ArnStacked_i s_ArnStacked_o (s_ArnStacked_G k) := fun x => by kernel_rfl
noncomputable def s_ArnStacked_E (k : Nat) : Env := (s_ArnChain_E k).with 65 s_ArnStacked_i s_ArnStacked_o (s_ArnStacked_G k)
theorem s_ArnStacked_ok (k : Nat) : EnvOk Try.prog (s_ArnStacked_E k) := (s_ArnChain_ok k).with mixed (by decide) (by kernel_rfl) (by kernel_rfl) (s_ArnStacked_c k) (by kernel_rfl)
/-! ### loop.example/tuggers/spec.ArnQueued -/
@[reducible] def s_ArnQueued_i : Sh := ⟨[.c (.agg [.ro q0, .int .i64, .int .i64, .int .i64])], []⟩
@[reducible] def s_ArnQueued_o : Sh := ⟨[.c (.leaf (.own 0))], [(0, .rows 3 (.int .i64))]⟩
noncomputable def s_ArnQueued_T (k : Nat) : Env := ((s_ArnStacked_E k).at 0 k [] [] [⟨2, false, 0, 3, (.int .i64)⟩]).gated (fun _ => true)
noncomputable def s_ArnQueued (k : Nat) (x0 : List (Int × (Int × (Int × (Int × (Bool × Int)))))) (x1 : Int) (x2 : Int) (x3 : Int) : Option (Dt s_ArnQueued_o) := evFn (s_ArnQueued_T k) Try.f137 [.c (.agg [.ro q0 x0, .int .i64 x1, .int .i64 x2, .int .i64 x3])] [] (unOut s_ArnQueued_o)
theorem s_ArnQueued_eq (k : Nat) (x0 : List (Int × (Int × (Int × (Int × (Bool × Int)))))) (x1 : Int) (x2 : Int) (x3 : Int) : s_ArnQueued k x0 x1 x2 x3 =
  ((s_l2Shape k x0 x1 x2 x3).bind fun y1 =>
  (if (!y1.1) = true then
  (some (([] : List Int), ()))
 else
  ((s_l2From k x0 x1 x2 x3 x2).bind fun y2 =>
  (some (y2.1, ()))))) := by kernel_rfl
noncomputable def s_ArnQueued_G (k : Nat) : Dt s_ArnQueued_i → Option (Dt s_ArnQueued_o) := fun x => s_ArnQueued k x.1 x.2.1 x.2.2.1 x.2.2.2.1
theorem s_ArnQueued_c (k : Nat) : Comes1 (s_ArnQueued_T k) Try.f137 s_ArnQueued_i s_ArnQueued_o (s_ArnQueued_G k) := fun x => by kernel_rfl
noncomputable def s_ArnQueued_E (k : Nat) : Env := (s_ArnStacked_E k).with 137 s_ArnQueued_i s_ArnQueued_o (s_ArnQueued_G k)
theorem s_ArnQueued_ok (k : Nat) : EnvOk Try.prog (s_ArnQueued_E k) := (s_ArnStacked_ok k).with mixed (by decide) (by kernel_rfl) (by kernel_rfl) (s_ArnQueued_c k) (by kernel_rfl)
/-! ### loop.example/tuggers/spec.l2Has -/
@[reducible] def s_l2Has_i : Sh := ⟨[.c (.leaf (.ro (.int .i64))), .c (.leaf (.int .i64))], []⟩
@[reducible] def s_l2Has_o : Sh := ⟨[.c (.leaf (.bool))], []⟩
noncomputable def s_l2Has_T (k : Nat) : Env := ((s_ArnQueued_E k).at 0 k [] [(2, ⟨[0, 1, 5], []⟩)] []).gated (fun _ => true)
noncomputable def s_l2Has_l2 (k n0 : Nat) (v0 : List Int) (v1 : Int) (v2 : Int) : Option (Dt s_l2Has_o) := atLoop (s_l2Has_T k) (subF Try.f177 [.r, .l, .r, .l]) n0 ⟨tml 18 [(0, .c (.leaf (.ro (.int .i64) v0))), (1, .c (.leaf (.int .i64 v1))), (5, .c (.leaf (.int .i64 v2)))], []⟩ (kbl (subF Try.f177 [.r, .l, .r]) (ksq (s_l2Has_T k) (subF Try.f177 [.r]) (kret (s_l2Has_T k) Try.f177.results.toList (unOut s_l2Has_o))))
noncomputable def s_l2Has (k : Nat) (x0 : List Int) (x1 : Int) : Option (Dt s_l2Has_o) := evFn (s_l2Has_T k) Try.f177 [.c (.leaf (.ro (.int .i64) x0)), .c (.leaf (.int .i64 x1))] [] (unOut s_l2Has_o)
theorem s_l2Has_l2_0 (k : Nat) (v0 : List Int) (v1 : Int) (v2 : Int) : s_l2Has_l2 k 0 v0 v1 v2 = none := by kernel_rfl
theorem s_l2Has_l2_s (k n0 : Nat) (v0 : List Int) (v1 : Int) (v2 : Int) : s_l2Has_l2 k (n0 + 1) v0 v1 v2 =
  (if (decide (v2 < (List.length v0 : Int))) = true then
  (if (0:Int) ≤ v2 ∧ v2 < (List.length v0 : Int) then
  (if (decide ((v0.getD (Int.toNat v2) (0:Int)) = v1)) = true then
  (some (true, ()))
 else
  (s_l2Has_l2 k n0 v0 v1 (W (v2 + (1:Int)))))
 else none)
 else
  (some (false, ()))) := by kernel_rfl
theorem s_l2Has_eq (k : Nat) (x0 : List Int) (x1 : Int) : s_l2Has k x0 x1 =
  (s_l2Has_l2 k k x0 x1 (0:Int)) := by kernel_rfl
noncomputable def s_l2Has_G (k : Nat) : Dt s_l2Has_i → Option (Dt s_l2Has_o) := fun x => s_l2Has k x.1 x.2.1
theorem s_l2Has_c (k : Nat) : Comes1 (s_l2Has_T k) Try.f177 s_l2Has_i s_l2Has_o (s_l2Has_G k) := fun x => by kernel_rfl
noncomputable def s_l2Has_E (k : Nat) : Env := (s_ArnQueued_E k).with 177 s_l2Has_i s_l2Has_o (s_l2Has_G k)
theorem s_l2Has_ok (k : Nat) : EnvOk Try.prog (s_l2Has_E k) := (s_ArnQueued_ok k).with mixed (by decide) (by kernel_rfl) (by kernel_rfl) (s_l2Has_c k) (by kernel_rfl)
/-! ### loop.example/tuggers/spec.l2Ends -/
@[reducible] def s_l2Ends_i : Sh := ⟨[.c (.agg [.ro q0, .int .i64, .int .i64, .int .i64]), .c (.leaf (.ro (.int .i64))), .c (.leaf (.ro (.int .i64)))], []⟩
@[reducible] def s_l2Ends_o : Sh := ⟨[.c (.leaf (.bool))], []⟩
noncomputable def s_l2Ends_T (k : Nat) : Env := ((s_l2Has_E k).at 0 k [] [(2, ⟨[1, 2, 3, 7], []⟩)] []).gated (fun _ => true)
noncomputable def s_l2Ends_l2 (k n0 : Nat) (v0 : List Int) (v1 : List Int) (v2 : Int) (v3 : List (Int × (Int × (Int × (Int × (Bool × Int)))))) (v4 : Int) (v5 : Int) (v6 : Int) : Option (Dt s_l2Ends_o) := atLoop (s_l2Ends_T k) (subF Try.f138 [.r, .l, .r, .l]) n0 ⟨tml 50 [(1, .c (.leaf (.ro (.int .i64) v0))), (2, .c (.leaf (.ro (.int .i64) v1))), (3, .c (.leaf (.ptr 0 0))), (7, .c (.leaf (.int .i64 v2)))], [(0, .cells 30 [.ro q0 v3, .int .i64 v4, .int .i64 v5, .int .i64 v6])]⟩ (kbl (subF Try.f138 [.r, .l, .r]) (ksq (s_l2Ends_T k) (subF Try.f138 [.r]) (kret (s_l2Ends_T k) Try.f138.results.toList (unOut s_l2Ends_o))))
noncomputable def s_l2Ends (k : Nat) (x0 : List (Int × (Int × (Int × (Int × (Bool × Int)))))) (x1 : Int) (x2 : Int) (x3 : Int) (x4 : List Int) (x5 : List Int) : Option (Dt s_l2Ends_o) := evFn (s_l2Ends_T k) Try.f138 [.c (.agg [.ro q0 x0, .int .i64 x1, .int .i64 x2, .int .i64 x3]), .c (.leaf (.ro (.int .i64) x4)), .c (.leaf (.ro (.int .i64) x5))] [] (unOut s_l2Ends_o)
theorem s_l2Ends_l2_0 (k : Nat) (v0 : List Int) (v1 : List Int) (v2 : Int) (v3 : List (Int × (Int × (Int × (Int × (Bool × Int)))))) (v4 : Int) (v5 : Int) (v6 : Int) : s_l2Ends_l2 k 0 v0 v1 v2 v3 v4 v5 v6 = none := by kernel_rfl
theorem s_l2Ends_l2_s (k n0 : Nat) (v0 : List Int) (v1 : List Int) (v2 : Int) (v3 : List (Int × (Int × (Int × (Int × (Bool × Int)))))) (v4 : Int) (v5 : Int) (v6 : Int) : s_l2Ends_l2 k (n0 + 1) v0 v1 v2 v3 v4 v5 v6 =
  (if (decide (v2 < (List.length v0 : Int))) = true then
  (if (0:Int) ≤ v2 ∧ v2 < (List.length v0 : Int) then
  (if (0:Int) ≤ (v0.getD (Int.toNat v2) (0:Int)) ∧ (v0.getD (Int.toNat v2) (0:Int)) < (List.length v3 : Int) then
  (if (!(v3.getD (Int.toNat (v0.getD (Int.toNat v2) (0:Int))) ((0:Int), ((0:Int), ((0:Int), ((0:Int), (false, (0:Int))))))).2.2.2.2.1) = true then
  (some (false, ()))
 else
  (if (0:Int) ≤ v2 ∧ v2 < (List.length v0 : Int) then
  ((s_l2Has k v1 (v0.getD (Int.toNat v2) (0:Int))).bind fun y1 =>
  (if y1.1 = true then
  (some (false, ()))
 else
  (s_l2Ends_l2 k n0 v0 v1 (W (v2 + (1:Int))) v3 v4 v5 v6)))
 else none))
 else none)
 else none)
 else
  (if (decide ((List.length v0 : Int) = (0:Int))) = true then
  (some (true, ()))
 else
  (if (0:Int) ≤ (W ((List.length v0 : Int) - (1:Int))) ∧ (W ((List.length v0 : Int) - (1:Int))) < (List.length v0 : Int) then
  (if (0:Int) ≤ (v0.getD (Int.toNat (W ((List.length v0 : Int) - (1:Int)))) (0:Int)) ∧ (v0.getD (Int.toNat (W ((List.length v0 : Int) - (1:Int)))) (0:Int)) < (List.length v3 : Int) then
  ((s_WrdTo k (v3.getD (Int.toNat (v0.getD (Int.toNat (W ((List.length v0 : Int) - (1:Int)))) (0:Int))) ((0:Int), ((0:Int), ((0:Int), ((0:Int), (false, (0:Int))))))).2.2.1).bind fun y2 =>
  (some ((decide (y2.1 = (0:Int))), ())))
 else none)
 else none))) := by kernel_rfl
theorem s_l2Ends_eq (k : Nat) (x0 : List (Int × (Int × (Int × (Int × (Bool × Int)))))) (x1 : Int) (x2 : Int) (x3 : Int) (x4 : List Int) (x5 : List Int) : s_l2Ends k x0 x1 x2 x3 x4 x5 =
  (s_l2Ends_l2 k k x4 x5 (0:Int) x0 x1 x2 x3) := by kernel_rfl
noncomputable def s_l2Ends_G (k : Nat) : Dt s_l2Ends_i → Option (Dt s_l2Ends_o) := fun x => s_l2Ends k x.1 x.2.1 x.2.2.1 x.2.2.2.1 x.2.2.2.2.1 x.2.2.2.2.2.1
theorem s_l2Ends_c (k : Nat) : Comes1 (s_l2Ends_T k) Try.f138 s_l2Ends_i s_l2Ends_o (s_l2Ends_G k) := fun x => by kernel_rfl
noncomputable def s_l2Ends_E (k : Nat) : Env := (s_l2Has_E k).with 138 s_l2Ends_i s_l2Ends_o (s_l2Ends_G k)
theorem s_l2Ends_ok (k : Nat) : EnvOk Try.prog (s_l2Ends_E k) := (s_l2Has_ok k).with mixed (by decide) (by kernel_rfl) (by kernel_rfl) (s_l2Ends_c k) (by kernel_rfl)
/-! ### loop.example/tuggers/spec.l2Bare -/
@[reducible] def s_l2Bare_i : Sh := ⟨[.c (.agg [.ro q0, .int .i64, .int .i64, .int .i64]), .c (.leaf (.ro (.int .i64)))], []⟩
@[reducible] def s_l2Bare_o : Sh := ⟨[.c (.leaf (.bool))], []⟩
noncomputable def s_l2Bare_T (k : Nat) : Env := ((s_l2Ends_E k).at 0 k [] [(2, ⟨[1, 2, 5], []⟩)] []).gated (fun _ => true)
noncomputable def s_l2Bare_l2 (k n0 : Nat) (v0 : List Int) (v1 : Int) (v2 : List (Int × (Int × (Int × (Int × (Bool × Int)))))) (v3 : Int) (v4 : Int) (v5 : Int) : Option (Dt s_l2Bare_o) := atLoop (s_l2Bare_T k) (subF Try.f139 [.r, .l, .r, .l]) n0 ⟨tml 22 [(1, .c (.leaf (.ro (.int .i64) v0))), (2, .c (.leaf (.ptr 0 0))), (5, .c (.leaf (.int .i64 v1)))], [(0, .cells 30 [.ro q0 v2, .int .i64 v3, .int .i64 v4, .int .i64 v5])]⟩ (kbl (subF Try.f139 [.r, .l, .r]) (ksq (s_l2Bare_T k) (subF Try.f139 [.r]) (kret (s_l2Bare_T k) Try.f139.results.toList (unOut s_l2Bare_o))))
noncomputable def s_l2Bare (k : Nat) (x0 : List (Int × (Int × (Int × (Int × (Bool × Int)))))) (x1 : Int) (x2 : Int) (x3 : Int) (x4 : List Int) : Option (Dt s_l2Bare_o) := evFn (s_l2Bare_T k) Try.f139 [.c (.agg [.ro q0 x0, .int .i64 x1, .int .i64 x2, .int .i64 x3]), .c (.leaf (.ro (.int .i64) x4))] [] (unOut s_l2Bare_o)
theorem s_l2Bare_l2_0 (k : Nat) (v0 : List Int) (v1 : Int) (v2 : List (Int × (Int × (Int × (Int × (Bool × Int)))))) (v3 : Int) (v4 : Int) (v5 : Int) : s_l2Bare_l2 k 0 v0 v1 v2 v3 v4 v5 = none := by kernel_rfl
theorem s_l2Bare_l2_s (k n0 : Nat) (v0 : List Int) (v1 : Int) (v2 : List (Int × (Int × (Int × (Int × (Bool × Int)))))) (v3 : Int) (v4 : Int) (v5 : Int) : s_l2Bare_l2 k (n0 + 1) v0 v1 v2 v3 v4 v5 =
  (if (decide (v1 < (List.length v0 : Int))) = true then
  (if (0:Int) ≤ v1 ∧ v1 < (List.length v0 : Int) then
  (if (0:Int) ≤ (v0.getD (Int.toNat v1) (0:Int)) ∧ (v0.getD (Int.toNat v1) (0:Int)) < (List.length v2 : Int) then
  ((s_WrdMark k (v2.getD (Int.toNat (v0.getD (Int.toNat v1) (0:Int))) ((0:Int), ((0:Int), ((0:Int), ((0:Int), (false, (0:Int))))))).2.2.1).bind fun y1 =>
  (if y1.1 = true then
  (some (false, ()))
 else
  (s_l2Bare_l2 k n0 v0 (W (v1 + (1:Int))) v2 v3 v4 v5)))
 else none)
 else none)
 else
  (some (true, ()))) := by kernel_rfl
theorem s_l2Bare_eq (k : Nat) (x0 : List (Int × (Int × (Int × (Int × (Bool × Int)))))) (x1 : Int) (x2 : Int) (x3 : Int) (x4 : List Int) : s_l2Bare k x0 x1 x2 x3 x4 =
  (s_l2Bare_l2 k k x4 (0:Int) x0 x1 x2 x3) := by kernel_rfl
noncomputable def s_l2Bare_G (k : Nat) : Dt s_l2Bare_i → Option (Dt s_l2Bare_o) := fun x => s_l2Bare k x.1 x.2.1 x.2.2.1 x.2.2.2.1 x.2.2.2.2.1
theorem s_l2Bare_c (k : Nat) : Comes1 (s_l2Bare_T k) Try.f139 s_l2Bare_i s_l2Bare_o (s_l2Bare_G k) := fun x => by kernel_rfl
noncomputable def s_l2Bare_E (k : Nat) : Env := (s_l2Ends_E k).with 139 s_l2Bare_i s_l2Bare_o (s_l2Bare_G k)
theorem s_l2Bare_ok (k : Nat) : EnvOk Try.prog (s_l2Bare_E k) := (s_l2Ends_ok k).with mixed (by decide) (by kernel_rfl) (by kernel_rfl) (s_l2Bare_c k) (by kernel_rfl)
/-! ### loop.example/tuggers/spec.l2Last -/
@[reducible] def s_l2Last_i : Sh := ⟨[.c (.agg [.ro q0, .int .i64, .int .i64, .int .i64]), .c (.leaf (.ro (.int .i64)))], []⟩
@[reducible] def s_l2Last_o : Sh := ⟨[.c (.leaf (.bool))], []⟩
noncomputable def s_l2Last_T (k : Nat) : Env := ((s_l2Bare_E k).at 0 k [] [] []).gated (fun _ => true)
noncomputable def s_l2Last (k : Nat) (x0 : List (Int × (Int × (Int × (Int × (Bool × Int)))))) (x1 : Int) (x2 : Int) (x3 : Int) (x4 : List Int) : Option (Dt s_l2Last_o) := evFn (s_l2Last_T k) Try.f140 [.c (.agg [.ro q0 x0, .int .i64 x1, .int .i64 x2, .int .i64 x3]), .c (.leaf (.ro (.int .i64) x4))] [] (unOut s_l2Last_o)
theorem s_l2Last_eq (k : Nat) (x0 : List (Int × (Int × (Int × (Int × (Bool × Int)))))) (x1 : Int) (x2 : Int) (x3 : Int) (x4 : List Int) : s_l2Last k x0 x1 x2 x3 x4 =
  (if (decide ((0:Int) < (List.length x4 : Int))) = true then
  (if (0:Int) ≤ (W ((List.length x4 : Int) - (1:Int))) ∧ (W ((List.length x4 : Int) - (1:Int))) < (List.length x4 : Int) then
  (if (decide (x3 = (x4.getD (Int.toNat (W ((List.length x4 : Int) - (1:Int)))) (0:Int)))) = true then
  (some (true, ()))
 else
  (if (decide ((1:Int) < (List.length x4 : Int))) = true then
  (if (0:Int) ≤ (W ((List.length x4 : Int) - (2:Int))) ∧ (W ((List.length x4 : Int) - (2:Int))) < (List.length x4 : Int) then
  (some ((decide (x3 = (x4.getD (Int.toNat (W ((List.length x4 : Int) - (2:Int)))) (0:Int)))), ()))
 else none)
 else
  (some (false, ()))))
 else none)
 else
  (some (false, ()))) := by kernel_rfl
noncomputable def s_l2Last_G (k : Nat) : Dt s_l2Last_i → Option (Dt s_l2Last_o) := fun x => s_l2Last k x.1 x.2.1 x.2.2.1 x.2.2.2.1 x.2.2.2.2.1
theorem s_l2Last_c (k : Nat) : Comes1 (s_l2Last_T k) Try.f140 s_l2Last_i s_l2Last_o (s_l2Last_G k) := fun x => by kernel_rfl
noncomputable def s_l2Last_E (k : Nat) : Env := (s_l2Bare_E k).with 140 s_l2Last_i s_l2Last_o (s_l2Last_G k)
theorem s_l2Last_ok (k : Nat) : EnvOk Try.prog (s_l2Last_E k) := (s_l2Bare_ok k).with mixed (by decide) (by kernel_rfl) (by kernel_rfl) (s_l2Last_c k) (by kernel_rfl)
/-! ### loop.example/tuggers/spec.ArnOk -/
@[reducible] def s_ArnOk_i : Sh := ⟨[.c (.agg [.ro q0, .int .i64, .int .i64, .int .i64])], []⟩
@[reducible] def s_ArnOk_o : Sh := ⟨[.c (.leaf (.bool))], []⟩
noncomputable def s_ArnOk_T (k : Nat) : Env := ((s_l2Last_E k).at 0 k [] [(9, ⟨[1, 3, 6], []⟩)] []).gated (fun _ => true)
noncomputable def s_ArnOk_l9 (k n0 : Nat) (v0 : Int) (v1 : List (Int × (Int × (Int × (Int × (Bool × Int)))))) (v2 : Int) (v3 : Int) (v4 : Int) (v5 : List Int) : Option (Dt s_ArnOk_o) := atLoop (s_ArnOk_T k) (subF Try.f63 [.r, .r, .r, .r, .r, .r, .l, .r, .l]) n0 ⟨tml 83 [(1, .c (.leaf (.ptr 0 0))), (3, .c (.leaf (.own 1))), (6, .c (.leaf (.int .i64 v0)))], [(0, .cells 30 [.ro q0 v1, .int .i64 v2, .int .i64 v3, .int .i64 v4]), (1, .rows 3 (.int .i64) v5)]⟩ (kbl (subF Try.f63 [.r, .r, .r, .r, .r, .r, .l, .r]) (ksq (s_ArnOk_T k) (subF Try.f63 [.r, .r, .r, .r, .r, .r]) (kret (s_ArnOk_T k) Try.f63.results.toList (unOut s_ArnOk_o))))
noncomputable def s_ArnOk (k : Nat) (x0 : List (Int × (Int × (Int × (Int × (Bool × Int)))))) (x1 : Int) (x2 : Int) (x3 : Int) : Option (Dt s_ArnOk_o) := evFn (s_ArnOk_T k) Try.f63 [.c (.agg [.ro q0 x0, .int .i64 x1, .int .i64 x2, .int .i64 x3])] [] (unOut s_ArnOk_o)
theorem s_ArnOk_l9_0 (k : Nat) (v0 : Int) (v1 : List (Int × (Int × (Int × (Int × (Bool × Int)))))) (v2 : Int) (v3 : Int) (v4 : Int) (v5 : List Int) : s_ArnOk_l9 k 0 v0 v1 v2 v3 v4 v5 = none := by kernel_rfl
theorem s_ArnOk_l9_s (k n0 : Nat) (v0 : Int) (v1 : List (Int × (Int × (Int × (Int × (Bool × Int)))))) (v2 : Int) (v3 : Int) (v4 : Int) (v5 : List Int) : s_ArnOk_l9 k (n0 + 1) v0 v1 v2 v3 v4 v5 =
  (if (decide (v0 < (List.length v5 : Int))) = true then
  (if (0:Int) ≤ (W (v0 - (1:Int))) ∧ (W (v0 - (1:Int))) < (List.length v5 : Int) then
  (if (0:Int) ≤ (v5.getD (Int.toNat (W (v0 - (1:Int)))) (0:Int)) ∧ (v5.getD (Int.toNat (W (v0 - (1:Int)))) (0:Int)) < (List.length v1 : Int) then
  (if (0:Int) ≤ v0 ∧ v0 < (List.length v5 : Int) then
  (if (0:Int) ≤ (v5.getD (Int.toNat v0) (0:Int)) ∧ (v5.getD (Int.toNat v0) (0:Int)) < (List.length v1 : Int) then
  (if (decide ((v1.getD (Int.toNat (v5.getD (Int.toNat v0) (0:Int))) ((0:Int), ((0:Int), ((0:Int), ((0:Int), (false, (0:Int))))))).1 ≤ (v1.getD (Int.toNat (v5.getD (Int.toNat (W (v0 - (1:Int)))) (0:Int))) ((0:Int), ((0:Int), ((0:Int), ((0:Int), (false, (0:Int))))))).1)) = true then
  (some (false, ()))
 else
  (s_ArnOk_l9 k n0 (W (v0 + (1:Int))) v1 v2 v3 v4 v5))
 else none)
 else none)
 else none)
 else none)
 else
  (some (true, ()))) := by kernel_rfl
theorem s_ArnOk_eq (k : Nat) (x0 : List (Int × (Int × (Int × (Int × (Bool × Int)))))) (x1 : Int) (x2 : Int) (x3 : Int) : s_ArnOk k x0 x1 x2 x3 =
  ((s_l2Shape k x0 x1 x2 x3).bind fun y1 =>
  (if (!y1.1) = true then
  (some (false, ()))
 else
  ((s_ArnChain k x0 x1 x2 x3).bind fun y2 =>
  ((s_ArnStacked k x0 x1 x2 x3).bind fun y3 =>
  ((s_ArnQueued k x0 x1 x2 x3).bind fun y4 =>
  ((s_l2Ends k x0 x1 x2 x3 y2.1 ([] : List Int)).bind fun y5 =>
  (if (!y5.1) = true then
  (some (false, ()))
 else
  ((s_l2Ends k x0 x1 x2 x3 y3.1 y2.1).bind fun y6 =>
  (if (!y6.1) = true then
  (some (false, ()))
 else
  (if List.length ([] : List Int) + List.length y2.1 ≤ LB then
  (if List.length (([] : List Int) ++ y2.1) + List.length y3.1 ≤ LB then
  ((s_l2Ends k x0 x1 x2 x3 y4.1 ((([] : List Int) ++ y2.1) ++ y3.1)).bind fun y7 =>
  (if (!y7.1) = true then
  (some (false, ()))
 else
  ((s_l2Bare k x0 x1 x2 x3 y3.1).bind fun y8 =>
  (if (!y8.1) = true then
  (some (false, ()))
 else
  ((s_l2Bare k x0 x1 x2 x3 y4.1).bind fun y9 =>
  (if (!y9.1) = true then
  (some (false, ()))
 else
  ((s_l2Last k x0 x1 x2 x3 y4.1).bind fun y10 =>
  (if (!y10.1) = true then
  (some (false, ()))
 else
  (s_ArnOk_l9 k k (1:Int) x0 x1 x2 x3 y2.1)))))))))
 else none)
 else none)))))))))) := by kernel_rfl
noncomputable def s_ArnOk_G (k : Nat) : Dt s_ArnOk_i → Option (Dt s_ArnOk_o) := fun x => s_ArnOk k x.1 x.2.1 x.2.2.1 x.2.2.2.1
theorem s_ArnOk_c (k : Nat) : Comes1 (s_ArnOk_T k) Try.f63 s_ArnOk_i s_ArnOk_o (s_ArnOk_G k) := fun x => by kernel_rfl
noncomputable def s_ArnOk_E (k : Nat) : Env := (s_l2Last_E k).with 63 s_ArnOk_i s_ArnOk_o (s_ArnOk_G k)
theorem s_ArnOk_ok (k : Nat) : EnvOk Try.prog (s_ArnOk_E k) := (s_l2Last_ok k).with mixed (by decide) (by kernel_rfl) (by kernel_rfl) (s_ArnOk_c k) (by kernel_rfl)
/-! ### loop.example/tuggers/spec.l2Vals -/
@[reducible] def s_l2Vals_i : Sh := ⟨[.c (.agg [.ro q0, .int .i64, .int .i64, .int .i64]), .c (.leaf (.ro (.int .i64)))], []⟩
@[reducible] def s_l2Vals_o : Sh := ⟨[.c (.leaf (.own 0))], [(0, .rows 3 (.int .i64))]⟩
noncomputable def s_l2Vals_T (k : Nat) : Env := ((s_ArnOk_E k).at 0 k [] [(3, ⟨[1, 2, 5, 6], []⟩)] [⟨4, false, 0, 3, (.int .i64)⟩]).gated (fun _ => true)
noncomputable def s_l2Vals_l3 (k n0 : Nat) (v0 : List Int) (v1 : Int) (v2 : List (Int × (Int × (Int × (Int × (Bool × Int)))))) (v3 : Int) (v4 : Int) (v5 : Int) (v6 : List Int) : Option (Dt s_l2Vals_o) := atLoop (s_l2Vals_T k) (subF Try.f64 [.r, .r, .l, .r, .l]) n0 ⟨tml 27 [(1, .c (.leaf (.ro (.int .i64) v0))), (2, .c (.leaf (.ptr 0 0))), (5, .c (.leaf (.own 1))), (6, .c (.leaf (.int .i64 v1)))], [(0, .cells 30 [.ro q0 v2, .int .i64 v3, .int .i64 v4, .int .i64 v5]), (1, .rows 3 (.int .i64) v6)]⟩ (kbl (subF Try.f64 [.r, .r, .l, .r]) (ksq (s_l2Vals_T k) (subF Try.f64 [.r, .r]) (kret (s_l2Vals_T k) Try.f64.results.toList (unOut s_l2Vals_o))))
noncomputable def s_l2Vals (k : Nat) (x0 : List (Int × (Int × (Int × (Int × (Bool × Int)))))) (x1 : Int) (x2 : Int) (x3 : Int) (x4 : List Int) : Option (Dt s_l2Vals_o) := evFn (s_l2Vals_T k) Try.f64 [.c (.agg [.ro q0 x0, .int .i64 x1, .int .i64 x2, .int .i64 x3]), .c (.leaf (.ro (.int .i64) x4))] [] (unOut s_l2Vals_o)
theorem s_l2Vals_l3_0 (k : Nat) (v0 : List Int) (v1 : Int) (v2 : List (Int × (Int × (Int × (Int × (Bool × Int)))))) (v3 : Int) (v4 : Int) (v5 : Int) (v6 : List Int) : s_l2Vals_l3 k 0 v0 v1 v2 v3 v4 v5 v6 = none := by kernel_rfl
theorem s_l2Vals_l3_s (k n0 : Nat) (v0 : List Int) (v1 : Int) (v2 : List (Int × (Int × (Int × (Int × (Bool × Int)))))) (v3 : Int) (v4 : Int) (v5 : Int) (v6 : List Int) : s_l2Vals_l3 k (n0 + 1) v0 v1 v2 v3 v4 v5 v6 =
  (if (decide (v1 < (List.length v0 : Int))) = true then
  (if (0:Int) ≤ v1 ∧ v1 < (List.length v0 : Int) then
  (if (0:Int) ≤ (v0.getD (Int.toNat v1) (0:Int)) ∧ (v0.getD (Int.toNat v1) (0:Int)) < (List.length v2 : Int) then
  (if List.length v6 + List.length [(v2.getD (Int.toNat (v0.getD (Int.toNat v1) (0:Int))) ((0:Int), ((0:Int), ((0:Int), ((0:Int), (false, (0:Int))))))).2.1] ≤ LB then
  (s_l2Vals_l3 k n0 v0 (W (v1 + (1:Int))) v2 v3 v4 v5 (v6 ++ [(v2.getD (Int.toNat (v0.getD (Int.toNat v1) (0:Int))) ((0:Int), ((0:Int), ((0:Int), ((0:Int), (false, (0:Int))))))).2.1]))
 else none)
 else none)
 else none)
 else
  (some (v6, ()))) := by kernel_rfl
theorem s_l2Vals_eq (k : Nat) (x0 : List (Int × (Int × (Int × (Int × (Bool × Int)))))) (x1 : Int) (x2 : Int) (x3 : Int) (x4 : List Int) : s_l2Vals k x0 x1 x2 x3 x4 =
  (s_l2Vals_l3 k k x4 (0:Int) x0 x1 x2 x3 ([] : List Int)) := by kernel_rfl
noncomputable def s_l2Vals_G (k : Nat) : Dt s_l2Vals_i → Option (Dt s_l2Vals_o) := fun x => s_l2Vals k x.1 x.2.1 x.2.2.1 x.2.2.2.1 x.2.2.2.2.1
theorem s_l2Vals_c (k : Nat) : Comes1 (s_l2Vals_T k) Try.f64 s_l2Vals_i s_l2Vals_o (s_l2Vals_G k) := fun x => by kernel_rfl
noncomputable def s_l2Vals_E (k : Nat) : Env := (s_ArnOk_E k).with 64 s_l2Vals_i s_l2Vals_o (s_l2Vals_G k)
theorem s_l2Vals_ok (k : Nat) : EnvOk Try.prog (s_l2Vals_E k) := (s_ArnOk_ok k).with mixed (by decide) (by kernel_rfl) (by kernel_rfl) (s_l2Vals_c k) (by kernel_rfl)
/-! ### loop.example/tuggers/spec.ArnStack -/
@[reducible] def s_ArnStack_i : Sh := ⟨[.c (.agg [.ro q0, .int .i64, .int .i64, .int .i64])], []⟩
@[reducible] def s_ArnStack_o : Sh := ⟨[.c (.leaf (.own 0))], [(0, .rows 3 (.int .i64))]⟩
noncomputable def s_ArnStack_T (k : Nat) : Env := ((s_l2Vals_E k).at 0 k [] [] [⟨2, false, 0, 3, (.int .i64)⟩]).gated (fun _ => true)
noncomputable def s_ArnStack (k : Nat) (x0 : List (Int × (Int × (Int × (Int × (Bool × Int)))))) (x1 : Int) (x2 : Int) (x3 : Int) : Option (Dt s_ArnStack_o) := evFn (s_ArnStack_T k) Try.f14 [.c (.agg [.ro q0 x0, .int .i64 x1, .int .i64 x2, .int .i64 x3])] [] (unOut s_ArnStack_o)
theorem s_ArnStack_eq (k : Nat) (x0 : List (Int × (Int × (Int × (Int × (Bool × Int)))))) (x1 : Int) (x2 : Int) (x3 : Int) : s_ArnStack k x0 x1 x2 x3 =
  ((s_ArnOk k x0 x1 x2 x3).bind fun y1 =>
  (if (!y1.1) = true then
  (some (([] : List Int), ()))
 else
  ((s_ArnStacked k x0 x1 x2 x3).bind fun y2 =>
  ((s_l2Vals k x0 x1 x2 x3 y2.1).bind fun y3 =>
  (some (y3.1, ())))))) := by kernel_rfl
noncomputable def s_ArnStack_G (k : Nat) : Dt s_ArnStack_i → Option (Dt s_ArnStack_o) := fun x => s_ArnStack k x.1 x.2.1 x.2.2.1 x.2.2.2.1
theorem s_ArnStack_c (k : Nat) : Comes1 (s_ArnStack_T k) Try.f14 s_ArnStack_i s_ArnStack_o (s_ArnStack_G k) := fun x => by kernel_rfl
noncomputable def s_ArnStack_E (k : Nat) : Env := (s_l2Vals_E k).with 14 s_ArnStack_i s_ArnStack_o (s_ArnStack_G k)
theorem s_ArnStack_ok (k : Nat) : EnvOk Try.prog (s_ArnStack_E k) := (s_l2Vals_ok k).with mixed (by decide) (by kernel_rfl) (by kernel_rfl) (s_ArnStack_c k) (by kernel_rfl)
/-! ### loop.example/tuggers/impl.isKey -/
@[reducible] def i_isKey_i : Sh := ⟨[.c (.leaf (.int .i64))], []⟩
@[reducible] def i_isKey_o : Sh := ⟨[.c (.leaf (.bool))], []⟩
noncomputable def i_isKey_T (k : Nat) : Env := ((s_ArnStack_E k).at 0 k [] [] []).gated (fun _ => true)
noncomputable def i_isKey (k : Nat) (x0 : Int) : Option (Dt i_isKey_o) := evFn (i_isKey_T k) Try.f126 [.c (.leaf (.int .i64 x0))] [] (unOut i_isKey_o)
theorem i_isKey_eq (k : Nat) (x0 : Int) : i_isKey k x0 =
  (if (decide ((0:Int) ≤ x0)) = true then
  (some ((decide (x0 ≤ (99:Int))), ()))
 else
  (some (false, ()))) := by kernel_rfl
noncomputable def i_isKey_G (k : Nat) : Dt i_isKey_i → Option (Dt i_isKey_o) := fun x => i_isKey k x.1
theorem i_isKey_c (k : Nat) : Comes1 (i_isKey_T k) Try.f126 i_isKey_i i_isKey_o (i_isKey_G k) := fun x => by kernel_rfl
noncomputable def i_isKey_E (k : Nat) : Env := (s_ArnStack_E k).with 126 i_isKey_i i_isKey_o (i_isKey_G k)
theorem i_isKey_ok (k : Nat) : EnvOk Try.prog (i_isKey_E k) := (s_ArnStack_ok k).with mixed (by decide) (by kernel_rfl) (by kernel_rfl) (i_isKey_c k) (by kernel_rfl)
/-! ### loop.example/tuggers/impl.isVal -/
@[reducible] def i_isVal_i : Sh := ⟨[.c (.leaf (.int .i64))], []⟩
@[reducible] def i_isVal_o : Sh := ⟨[.c (.leaf (.bool))], []⟩
noncomputable def i_isVal_T (k : Nat) : Env := ((i_isKey_E k).at 0 k [] [] []).gated (fun _ => true)
noncomputable def i_isVal (k : Nat) (x0 : Int) : Option (Dt i_isVal_o) := evFn (i_isVal_T k) Try.f127 [.c (.leaf (.int .i64 x0))] [] (unOut i_isVal_o)
theorem i_isVal_eq (k : Nat) (x0 : Int) : i_isVal k x0 =
  (if (decide ((0:Int) ≤ x0)) = true then
  (some ((decide (x0 ≤ (999:Int))), ()))
 else
  (some (false, ()))) := by kernel_rfl
noncomputable def i_isVal_G (k : Nat) : Dt i_isVal_i → Option (Dt i_isVal_o) := fun x => i_isVal k x.1
theorem i_isVal_c (k : Nat) : Comes1 (i_isVal_T k) Try.f127 i_isVal_i i_isVal_o (i_isVal_G k) := fun x => by kernel_rfl
noncomputable def i_isVal_E (k : Nat) : Env := (i_isKey_E k).with 127 i_isVal_i i_isVal_o (i_isVal_G k)
theorem i_isVal_ok (k : Nat) : EnvOk Try.prog (i_isVal_E k) := (i_isKey_ok k).with mixed (by decide) (by kernel_rfl) (by kernel_rfl) (i_isVal_c k) (by kernel_rfl)
/-! ### loop.example/tuggers/impl.isWord -/
@[reducible] def i_isWord_i : Sh := ⟨[.c (.leaf (.int .i64))], []⟩
@[reducible] def i_isWord_o : Sh := ⟨[.c (.leaf (.bool))], []⟩
noncomputable def i_isWord_T (k : Nat) : Env := ((i_isVal_E k).at 0 k [] [] []).gated (fun _ => true)
noncomputable def i_isWord (k : Nat) (x0 : Int) : Option (Dt i_isWord_o) := evFn (i_isWord_T k) Try.f151 [.c (.leaf (.int .i64 x0))] [] (unOut i_isWord_o)
theorem i_isWord_eq (k : Nat) (x0 : Int) : i_isWord k x0 =
  (if (decide ((0:Int) ≤ x0)) = true then
  (some ((decide (x0 ≤ (19:Int))), ()))
 else
  (some (false, ()))) := by kernel_rfl
noncomputable def i_isWord_G (k : Nat) : Dt i_isWord_i → Option (Dt i_isWord_o) := fun x => i_isWord k x.1
theorem i_isWord_c (k : Nat) : Comes1 (i_isWord_T k) Try.f151 i_isWord_i i_isWord_o (i_isWord_G k) := fun x => by kernel_rfl
noncomputable def i_isWord_E (k : Nat) : Env := (i_isVal_E k).with 151 i_isWord_i i_isWord_o (i_isWord_G k)
theorem i_isWord_ok (k : Nat) : EnvOk Try.prog (i_isWord_E k) := (i_isVal_ok k).with mixed (by decide) (by kernel_rfl) (by kernel_rfl) (i_isWord_c k) (by kernel_rfl)
/-! ### loop.example/tuggers/impl.WrdMark -/
@[reducible] def i_WrdMark_i : Sh := ⟨[.c (.leaf (.int .i64))], []⟩
@[reducible] def i_WrdMark_o : Sh := ⟨[.c (.leaf (.bool))], []⟩
noncomputable def i_WrdMark_T (k : Nat) : Env := ((i_isWord_E k).at 0 k [] [] []).gated (fun _ => true)
noncomputable def i_WrdMark (k : Nat) (x0 : Int) : Option (Dt i_WrdMark_o) := evFn (i_WrdMark_T k) Try.f75 [.c (.leaf (.int .i64 x0))] [] (unOut i_WrdMark_o)
theorem i_WrdMark_eq (k : Nat) (x0 : Int) : i_WrdMark k x0 =
  ((i_isWord k x0).bind fun y1 =>
  (if y1.1 = true then
  (some ((decide ((Int.tmod x0 (2:Int)) = (1:Int))), ()))
 else
  (some (false, ())))) := by kernel_rfl
noncomputable def i_WrdMark_G (k : Nat) : Dt i_WrdMark_i → Option (Dt i_WrdMark_o) := fun x => i_WrdMark k x.1
theorem i_WrdMark_c (k : Nat) : Comes1 (i_WrdMark_T k) Try.f75 i_WrdMark_i i_WrdMark_o (i_WrdMark_G k) := fun x => by kernel_rfl
noncomputable def i_WrdMark_E (k : Nat) : Env := (i_isWord_E k).with 75 i_WrdMark_i i_WrdMark_o (i_WrdMark_G k)
theorem i_WrdMark_ok (k : Nat) : EnvOk Try.prog (i_WrdMark_E k) := (i_isWord_ok k).with mixed (by decide) (by kernel_rfl) (by kernel_rfl) (i_WrdMark_c k) (by kernel_rfl)
/-! ### (loop.example/tuggers/impl.ArnArena).shaped -/
@[reducible] def i_ArnArena_shaped_i : Sh := ⟨[.c (.agg [.ro q0, .int .i64, .int .i64, .int .i64])], []⟩
@[reducible] def i_ArnArena_shaped_o : Sh := ⟨[.c (.leaf (.bool))], []⟩
noncomputable def i_ArnArena_shaped_T (k : Nat) : Env := ((i_WrdMark_E k).at 0 k [] [(4, ⟨[1, 41, 42, 43], []⟩)] []).gated (fun _ => true)
noncomputable def i_ArnArena_shaped_l4 (k n0 : Nat) (v0 : List (Int × (Int × (Int × (Int × (Bool × Int)))))) (v1 : Int) (v2 : Int) (v3 : List (Int × (Int × (Int × (Int × (Bool × Int)))))) (v4 : Int) (v5 : Int) (v6 : Int) : Option (Dt i_ArnArena_shaped_o) := atLoop (i_ArnArena_shaped_T k) (subF Try.f143 [.r, .r, .l, .r, .l]) n0 ⟨tml 91 [(1, .c (.leaf (.ptr 0 0))), (41, .c (.leaf (.ro q0 v0))), (42, .c (.leaf (.int .i64 v1))), (43, .c (.leaf (.int .i64 v2)))], [(0, .cells 30 [.ro q0 v3, .int .i64 v4, .int .i64 v5, .int .i64 v6])]⟩ (kbl (subF Try.f143 [.r, .r, .l, .r]) (ksq (i_ArnArena_shaped_T k) (subF Try.f143 [.r, .r]) (kret (i_ArnArena_shaped_T k) Try.f143.results.toList (unOut i_ArnArena_shaped_o))))
noncomputable def i_ArnArena_shaped (k : Nat) (x0 : List (Int × (Int × (Int × (Int × (Bool × Int)))))) (x1 : Int) (x2 : Int) (x3 : Int) : Option (Dt i_ArnArena_shaped_o) := evFn (i_ArnArena_shaped_T k) Try.f143 [.c (.agg [.ro q0 x0, .int .i64 x1, .int .i64 x2, .int .i64 x3])] [] (unOut i_ArnArena_shaped_o)
theorem i_ArnArena_shaped_l4_0 (k : Nat) (v0 : List (Int × (Int × (Int × (Int × (Bool × Int)))))) (v1 : Int) (v2 : Int) (v3 : List (Int × (Int × (Int × (Int × (Bool × Int)))))) (v4 : Int) (v5 : Int) (v6 : Int) : i_ArnArena_shaped_l4 k 0 v0 v1 v2 v3 v4 v5 v6 = none := by kernel_rfl
theorem i_ArnArena_shaped_l4_s (k n0 : Nat) (v0 : List (Int × (Int × (Int × (Int × (Bool × Int)))))) (v1 : Int) (v2 : Int) (v3 : List (Int × (Int × (Int × (Int × (Bool × Int)))))) (v4 : Int) (v5 : Int) (v6 : Int) : i_ArnArena_shaped_l4 k (n0 + 1) v0 v1 v2 v3 v4 v5 v6 =
  (if (decide (v2 < v1)) = true then
  (if (0:Int) ≤ v2 ∧ v2 < (List.length v0 : Int) then
  ((i_isKey k (v0.getD (Int.toNat v2) ((0:Int), ((0:Int), ((0:Int), ((0:Int), (false, (0:Int))))))).1).bind fun y1 =>
  (if (!y1.1) = true then
  (some (false, ()))
 else
  ((i_isVal k (v0.getD (Int.toNat v2) ((0:Int), ((0:Int), ((0:Int), ((0:Int), (false, (0:Int))))))).2.1).bind fun y2 =>
  (if (!y2.1) = true then
  (some (false, ()))
 else
  ((i_isWord k (v0.getD (Int.toNat v2) ((0:Int), ((0:Int), ((0:Int), ((0:Int), (false, (0:Int))))))).2.2.1).bind fun y3 =>
  (if (!y3.1) = true then
  (some (false, ()))
 else
  (if (decide ((v0.getD (Int.toNat v2) ((0:Int), ((0:Int), ((0:Int), ((0:Int), (false, (0:Int))))))).2.2.2.1 < (0:Int))) = true then
  (some (false, ()))
 else
  (if (decide ((v0.getD (Int.toNat v2) ((0:Int), ((0:Int), ((0:Int), ((0:Int), (false, (0:Int))))))).2.2.2.2.2 < (0:Int))) = true then
  (some (false, ()))
 else
  (i_ArnArena_shaped_l4 k n0 v0 v1 (W (v2 + (1:Int))) v3 v4 v5 v6)))))))))
 else none)
 else
  (if (0:Int) ≤ (0:Int) ∧ (0:Int) < (List.length v3 : Int) then
  (if (decide ((v3.getD 0 ((0:Int), ((0:Int), ((0:Int), ((0:Int), (false, (0:Int))))))).1 = (0:Int)) && (decide ((v3.getD 0 ((0:Int), ((0:Int), ((0:Int), ((0:Int), (false, (0:Int))))))).2.1 = (0:Int)) && (decide ((v3.getD 0 ((0:Int), ((0:Int), ((0:Int), ((0:Int), (false, (0:Int))))))).2.2.1 = (v3.getD 0 ((0:Int), ((0:Int), ((0:Int), ((0:Int), (false, (0:Int))))))).2.2.1) && (decide ((v3.getD 0 ((0:Int), ((0:Int), ((0:Int), ((0:Int), (false, (0:Int))))))).2.2.2.1 = (v3.getD 0 ((0:Int), ((0:Int), ((0:Int), ((0:Int), (false, (0:Int))))))).2.2.2.1) && (((v3.getD 0 ((0:Int), ((0:Int), ((0:Int), ((0:Int), (false, (0:Int))))))).2.2.2.2.1 == true) && decide ((v3.getD 0 ((0:Int), ((0:Int), ((0:Int), ((0:Int), (false, (0:Int))))))).2.2.2.2.2 = (0:Int))))))) = true then
  ((i_WrdMark k (v3.getD 0 ((0:Int), ((0:Int), ((0:Int), ((0:Int), (false, (0:Int))))))).2.2.1).bind fun y4 =>
  (some ((!y4.1), ())))
 else
  (some (false, ())))
 else none)) := by kernel_rfl
theorem i_ArnArena_shaped_eq (k : Nat) (x0 : List (Int × (Int × (Int × (Int × (Bool × Int)))))) (x1 : Int) (x2 : Int) (x3 : Int) : i_ArnArena_shaped k x0 x1 x2 x3 =
  (if (decide (¬ (List.length x0 : Int) = (10:Int))) = true then
  (some (false, ()))
 else
  (if (decide (x1 < (0:Int))) = true then
  (some (false, ()))
 else
  (if (decide ((9:Int) < x1)) = true then
  (some (false, ()))
 else
  (if (decide (x2 < (1:Int))) = true then
  (some (false, ()))
 else
  (if (decide ((9:Int) < x2)) = true then
  (some (false, ()))
 else
  (if (decide (x3 < (1:Int))) = true then
  (some (false, ()))
 else
  (if (decide ((9:Int) < x3)) = true then
  (some (false, ()))
 else
  (i_ArnArena_shaped_l4 k k x0 (List.length x0 : Int) (0:Int) x0 x1 x2 x3)))))))) := by kernel_rfl
noncomputable def i_ArnArena_shaped_G (k : Nat) : Dt i_ArnArena_shaped_i → Option (Dt i_ArnArena_shaped_o) := fun x => i_ArnArena_shaped k x.1 x.2.1 x.2.2.1 x.2.2.2.1
theorem i_ArnArena_shaped_c (k : Nat) : Comes1 (i_ArnArena_shaped_T k) Try.f143 i_ArnArena_shaped_i i_ArnArena_shaped_o (i_ArnArena_shaped_G k) := fun x => by kernel_rfl
noncomputable def i_ArnArena_shaped_E (k : Nat) : Env := (i_WrdMark_E k).with 143 i_ArnArena_shaped_i i_ArnArena_shaped_o (i_ArnArena_shaped_G k)
theorem i_ArnArena_shaped_ok (k : Nat) : EnvOk Try.prog (i_ArnArena_shaped_E k) := (i_WrdMark_ok k).with mixed (by decide) (by kernel_rfl) (by kernel_rfl) (i_ArnArena_shaped_c k) (by kernel_rfl)
/-! ### loop.example/tuggers/impl.WrdTo -/
@[reducible] def i_WrdTo_i : Sh := ⟨[.c (.leaf (.int .i64))], []⟩
@[reducible] def i_WrdTo_o : Sh := ⟨[.c (.leaf (.int .i64))], []⟩
noncomputable def i_WrdTo_T (k : Nat) : Env := ((i_ArnArena_shaped_E k).at 0 k [] [] []).gated (fun _ => true)
noncomputable def i_WrdTo (k : Nat) (x0 : Int) : Option (Dt i_WrdTo_o) := evFn (i_WrdTo_T k) Try.f150 [.c (.leaf (.int .i64 x0))] [] (unOut i_WrdTo_o)
theorem i_WrdTo_eq (k : Nat) (x0 : Int) : i_WrdTo k x0 =
  ((i_isWord k x0).bind fun y1 =>
  (if (!y1.1) = true then
  (some ((0:Int), ()))
 else
  (some ((W (Int.tdiv x0 (2:Int))), ())))) := by kernel_rfl
noncomputable def i_WrdTo_G (k : Nat) : Dt i_WrdTo_i → Option (Dt i_WrdTo_o) := fun x => i_WrdTo k x.1
theorem i_WrdTo_c (k : Nat) : Comes1 (i_WrdTo_T k) Try.f150 i_WrdTo_i i_WrdTo_o (i_WrdTo_G k) := fun x => by kernel_rfl
noncomputable def i_WrdTo_E (k : Nat) : Env := (i_ArnArena_shaped_E k).with 150 i_WrdTo_i i_WrdTo_o (i_WrdTo_G k)
theorem i_WrdTo_ok (k : Nat) : EnvOk Try.prog (i_WrdTo_E k) := (i_ArnArena_shaped_ok k).with mixed (by decide) (by kernel_rfl) (by kernel_rfl) (i_WrdTo_c k) (by kernel_rfl)
/-! ### (loop.example/tuggers/impl.ArnArena).from -/
@[reducible] def i_ArnArena_from_i : Sh := ⟨[.c (.agg [.ro q0, .int .i64, .int .i64, .int .i64]), .c (.leaf (.int .i64))], []⟩
@[reducible] def i_ArnArena_from_o : Sh := ⟨[.c (.leaf (.own 0))], [(0, .rows 3 (.int .i64))]⟩
noncomputable def i_ArnArena_from_T (k : Nat) : Env := ((i_WrdTo_E k).at 0 k [] [(2, ⟨[1, 2, 5], [⟨2, true, 0, 113, q0⟩, ⟨5, false, 0, 3, (.int .i64)⟩]⟩)] [⟨4, false, 0, 3, (.int .i64)⟩]).gated (fun _ => true)
noncomputable def i_ArnArena_from_l2 (k n0 : Nat) (v0 : Int) (v1 : List (Int × (Int × (Int × (Int × (Bool × Int)))))) (v2 : Int) (v3 : Int) (v4 : Int) (v5 : List Int) : Option (Dt i_ArnArena_from_o) := atLoop (i_ArnArena_from_T k) (subF Try.f147 [.r, .r, .l, .l]) n0 ⟨tml 25 [(1, .c (.leaf (.int .i64 v0))), (2, .c (.leaf (.ptr 0 0))), (5, .c (.leaf (.own 1)))], [(0, .cells 30 [.ro q0 v1, .int .i64 v2, .int .i64 v3, .int .i64 v4]), (1, .rows 3 (.int .i64) v5)]⟩ (kbl (subF Try.f147 [.r, .r, .l]) (ksq (i_ArnArena_from_T k) (subF Try.f147 [.r, .r]) (kret (i_ArnArena_from_T k) Try.f147.results.toList (unOut i_ArnArena_from_o))))
noncomputable def i_ArnArena_from (k : Nat) (x0 : List (Int × (Int × (Int × (Int × (Bool × Int)))))) (x1 : Int) (x2 : Int) (x3 : Int) (x4 : Int) : Option (Dt i_ArnArena_from_o) := evFn (i_ArnArena_from_T k) Try.f147 [.c (.agg [.ro q0 x0, .int .i64 x1, .int .i64 x2, .int .i64 x3]), .c (.leaf (.int .i64 x4))] [] (unOut i_ArnArena_from_o)
theorem i_ArnArena_from_l2_0 (k : Nat) (v0 : Int) (v1 : List (Int × (Int × (Int × (Int × (Bool × Int)))))) (v2 : Int) (v3 : Int) (v4 : Int) (v5 : List Int) : i_ArnArena_from_l2 k 0 v0 v1 v2 v3 v4 v5 = none := by kernel_rfl
theorem i_ArnArena_from_l2_s (k n0 : Nat) (v0 : Int) (v1 : List (Int × (Int × (Int × (Int × (Bool × Int)))))) (v2 : Int) (v3 : Int) (v4 : Int) (v5 : List Int) : i_ArnArena_from_l2 k (n0 + 1) v0 v1 v2 v3 v4 v5 =
  (if (decide (¬ v0 = (0:Int))) = true then
  (if (decide ((List.length v5 : Int) < (9:Int))) = true then
  (if List.length v5 + List.length [v0] ≤ LB then
  (if (0:Int) ≤ v0 ∧ v0 < (List.length v1 : Int) then
  ((i_WrdTo k (v1.getD (Int.toNat v0) ((0:Int), ((0:Int), ((0:Int), ((0:Int), (false, (0:Int))))))).2.2.1).bind fun y1 =>
  (i_ArnArena_from_l2 k n0 y1.1 v1 v2 v3 v4 (v5 ++ [v0])))
 else none)
 else none)
 else
  (some (v5, ())))
 else
  (some (v5, ()))) := by kernel_rfl
theorem i_ArnArena_from_eq (k : Nat) (x0 : List (Int × (Int × (Int × (Int × (Bool × Int)))))) (x1 : Int) (x2 : Int) (x3 : Int) (x4 : Int) : i_ArnArena_from k x0 x1 x2 x3 x4 =
  (i_ArnArena_from_l2 k k x4 x0 x1 x2 x3 ([] : List Int)) := by kernel_rfl
noncomputable def i_ArnArena_from_G (k : Nat) : Dt i_ArnArena_from_i → Option (Dt i_ArnArena_from_o) := fun x => i_ArnArena_from k x.1 x.2.1 x.2.2.1 x.2.2.2.1 x.2.2.2.2.1
theorem i_ArnArena_from_c (k : Nat) : Comes1 (i_ArnArena_from_T k) Try.f147 i_ArnArena_from_i i_ArnArena_from_o (i_ArnArena_from_G k) := fun x => by kernel_rfl
noncomputable def i_ArnArena_from_E (k : Nat) : Env := (i_WrdTo_E k).with 147 i_ArnArena_from_i i_ArnArena_from_o (i_ArnArena_from_G k)
theorem i_ArnArena_from_ok (k : Nat) : EnvOk Try.prog (i_ArnArena_from_E k) := (i_WrdTo_ok k).with mixed (by decide) (by kernel_rfl) (by kernel_rfl) (i_ArnArena_from_c k) (by kernel_rfl)
/-! ### loop.example/tuggers/impl.ArnChain -/
@[reducible] def i_ArnChain_i : Sh := ⟨[.c (.agg [.ro q0, .int .i64, .int .i64, .int .i64])], []⟩
@[reducible] def i_ArnChain_o : Sh := ⟨[.c (.leaf (.own 0))], [(0, .rows 3 (.int .i64))]⟩
noncomputable def i_ArnChain_T (k : Nat) : Env := ((i_ArnArena_from_E k).at 0 k [] [] [⟨2, false, 0, 3, (.int .i64)⟩]).gated (fun _ => true)
noncomputable def i_ArnChain (k : Nat) (x0 : List (Int × (Int × (Int × (Int × (Bool × Int)))))) (x1 : Int) (x2 : Int) (x3 : Int) : Option (Dt i_ArnChain_o) := evFn (i_ArnChain_T k) Try.f74 [.c (.agg [.ro q0 x0, .int .i64 x1, .int .i64 x2, .int .i64 x3])] [] (unOut i_ArnChain_o)
theorem i_ArnChain_eq (k : Nat) (x0 : List (Int × (Int × (Int × (Int × (Bool × Int)))))) (x1 : Int) (x2 : Int) (x3 : Int) : i_ArnChain k x0 x1 x2 x3 =
  ((i_ArnArena_shaped k x0 x1 x2 x3).bind fun y1 =>
  (if (!y1.1) = true then
  (some (([] : List Int), ()))
 else
  (if (0:Int) ≤ (0:Int) ∧ (0:Int) < (List.length x0 : Int) then
  ((i_WrdTo k (x0.getD 0 ((0:Int), ((0:Int), ((0:Int), ((0:Int), (false, (0:Int))))))).2.2.1).bind fun y2 =>
  ((i_ArnArena_from k x0 x1 x2 x3 y2.1).bind fun y3 =>
  (some (y3.1, ()))))
 else none))) := by kernel_rfl
noncomputable def i_ArnChain_G (k : Nat) : Dt i_ArnChain_i → Option (Dt i_ArnChain_o) := fun x => i_ArnChain k x.1 x.2.1 x.2.2.1 x.2.2.2.1
theorem i_ArnChain_c (k : Nat) : Comes1 (i_ArnChain_T k) Try.f74 i_ArnChain_i i_ArnChain_o (i_ArnChain_G k) := fun x => by kernel_rfl
noncomputable def i_ArnChain_E (k : Nat) : Env := (i_ArnArena_from_E k).with 74 i_ArnChain_i i_ArnChain_o (i_ArnChain_G k)
theorem i_ArnChain_ok (k : Nat) : EnvOk Try.prog (i_ArnChain_E k) := (i_ArnArena_from_ok k).with mixed (by decide) (by kernel_rfl) (by kernel_rfl) (i_ArnChain_c k) (by kernel_rfl)
/-! ### loop.example/tuggers/impl.ArnStacked -/
@[reducible] def i_ArnStacked_i : Sh := ⟨[.c (.agg [.ro q0, .int .i64, .int .i64, .int .i64])], []⟩
@[reducible] def i_ArnStacked_o : Sh := ⟨[.c (.leaf (.own 0))], [(0, .rows 3 (.int .i64))]⟩
noncomputable def i_ArnStacked_T (k : Nat) : Env := ((i_ArnChain_E k).at 0 k [] [] [⟨2, false, 0, 3, (.int .i64)⟩]).gated (fun _ => true)
noncomputable def i_ArnStacked (k : Nat) (x0 : List (Int × (Int × (Int × (Int × (Bool × Int)))))) (x1 : Int) (x2 : Int) (x3 : Int) : Option (Dt i_ArnStacked_o) := evFn (i_ArnStacked_T k) Try.f69 [.c (.agg [.ro q0 x0, .int .i64 x1, .int .i64 x2, .int .i64 x3])] [] (unOut i_ArnStacked_o)
theorem i_ArnStacked_eq (k : Nat) (x0 : List (Int × (Int × (Int × (Int × (Bool × Int)))))) (x1 : Int) (x2 : Int) (x3 : Int) : i_ArnStacked k x0 x1 x2 x3 =
  ((i_ArnArena_shaped k x0 x1 x2 x3).bind fun y1 =>
  (if (!y1.1) = true then
  (some (([] : List Int), ()))
 else
  ((i_ArnArena_from k x0 x1 x2 x3 x1).bind fun y2 =>
  (some (y2.1, ()))))) := by kernel_rfl
noncomputable def i_ArnStacked_G (k : Nat) : Dt i_ArnStacked_i → Option (Dt i_ArnStacked_o) := fun x => i_ArnStacked k x.1 x.2.1 x.2.2.1 x.2.2.2.1
theorem i_ArnStacked_c (k : Nat) : Comes1 (i_ArnStacked_T k) Try.f69 i_ArnStacked_i i_ArnStacked_o (i_ArnStacked_G k) := fun x => by kernel_rfl
noncomputable def i_ArnStacked_E (k : Nat) : Env := (i_ArnChain_E k).with 69 i_ArnStacked_i i_ArnStacked_o (i_ArnStacked_G k)
theorem i_ArnStacked_ok (k : Nat) : EnvOk Try.prog (i_ArnStacked_E k) := (i_ArnChain_ok k).with mixed (by decide) (by kernel_rfl) (by kernel_rfl) (i_ArnStacked_c k) (by kernel_rfl)
/-! ### loop.example/tuggers/impl.ArnQueued -/
@[reducible] def i_ArnQueued_i : Sh := ⟨[.c (.agg [.ro q0, .int .i64, .int .i64, .int .i64])], []⟩
@[reducible] def i_ArnQueued_o : Sh := ⟨[.c (.leaf (.own 0))], [(0, .rows 3 (.int .i64))]⟩
noncomputable def i_ArnQueued_T (k : Nat) : Env := ((i_ArnStacked_E k).at 0 k [] [] [⟨2, false, 0, 3, (.int .i64)⟩]).gated (fun _ => true)
noncomputable def i_ArnQueued (k : Nat) (x0 : List (Int × (Int × (Int × (Int × (Bool × Int)))))) (x1 : Int) (x2 : Int) (x3 : Int) : Option (Dt i_ArnQueued_o) := evFn (i_ArnQueued_T k) Try.f144 [.c (.agg [.ro q0 x0, .int .i64 x1, .int .i64 x2, .int .i64 x3])] [] (unOut i_ArnQueued_o)
theorem i_ArnQueued_eq (k : Nat) (x0 : List (Int × (Int × (Int × (Int × (Bool × Int)))))) (x1 : Int) (x2 : Int) (x3 : Int) : i_ArnQueued k x0 x1 x2 x3 =
  ((i_ArnArena_shaped k x0 x1 x2 x3).bind fun y1 =>
  (if (!y1.1) = true then
  (some (([] : List Int), ()))
 else
  ((i_ArnArena_from k x0 x1 x2 x3 x2).bind fun y2 =>
  (some (y2.1, ()))))) := by kernel_rfl
noncomputable def i_ArnQueued_G (k : Nat) : Dt i_ArnQueued_i → Option (Dt i_ArnQueued_o) := fun x => i_ArnQueued k x.1 x.2.1 x.2.2.1 x.2.2.2.1
theorem i_ArnQueued_c (k : Nat) : Comes1 (i_ArnQueued_T k) Try.f144 i_ArnQueued_i i_ArnQueued_o (i_ArnQueued_G k) := fun x => by kernel_rfl
noncomputable def i_ArnQueued_E (k : Nat) : Env := (i_ArnStacked_E k).with 144 i_ArnQueued_i i_ArnQueued_o (i_ArnQueued_G k)
theorem i_ArnQueued_ok (k : Nat) : EnvOk Try.prog (i_ArnQueued_E k) := (i_ArnStacked_ok k).with mixed (by decide) (by kernel_rfl) (by kernel_rfl) (i_ArnQueued_c k) (by kernel_rfl)
/-! ### (loop.example/tuggers/impl.ArnArena).ends -/
@[reducible] def i_ArnArena_ends_i : Sh := ⟨[.c (.agg [.ro q0, .int .i64, .int .i64, .int .i64]), .c (.leaf (.ro (.int .i64)))], []⟩
@[reducible] def i_ArnArena_ends_o : Sh := ⟨[.c (.leaf (.bool))], []⟩
noncomputable def i_ArnArena_ends_T (k : Nat) : Env := ((i_ArnQueued_E k).at 0 k [] [] []).gated (fun _ => true)
noncomputable def i_ArnArena_ends (k : Nat) (x0 : List (Int × (Int × (Int × (Int × (Bool × Int)))))) (x1 : Int) (x2 : Int) (x3 : Int) (x4 : List Int) : Option (Dt i_ArnArena_ends_o) := evFn (i_ArnArena_ends_T k) Try.f145 [.c (.agg [.ro q0 x0, .int .i64 x1, .int .i64 x2, .int .i64 x3]), .c (.leaf (.ro (.int .i64) x4))] [] (unOut i_ArnArena_ends_o)
theorem i_ArnArena_ends_eq (k : Nat) (x0 : List (Int × (Int × (Int × (Int × (Bool × Int)))))) (x1 : Int) (x2 : Int) (x3 : Int) (x4 : List Int) : i_ArnArena_ends k x0 x1 x2 x3 x4 =
  (if (decide ((List.length x4 : Int) = (0:Int))) = true then
  (some (true, ()))
 else
  (if (0:Int) ≤ (W ((List.length x4 : Int) - (1:Int))) ∧ (W ((List.length x4 : Int) - (1:Int))) < (List.length x4 : Int) then
  (if (0:Int) ≤ (x4.getD (Int.toNat (W ((List.length x4 : Int) - (1:Int)))) (0:Int)) ∧ (x4.getD (Int.toNat (W ((List.length x4 : Int) - (1:Int)))) (0:Int)) < (List.length x0 : Int) then
  ((i_WrdTo k (x0.getD (Int.toNat (x4.getD (Int.toNat (W ((List.length x4 : Int) - (1:Int)))) (0:Int))) ((0:Int), ((0:Int), ((0:Int), ((0:Int), (false, (0:Int))))))).2.2.1).bind fun y1 =>
  (some ((decide (y1.1 = (0:Int))), ())))
 else none)
 else none)) := by kernel_rfl
noncomputable def i_ArnArena_ends_G (k : Nat) : Dt i_ArnArena_ends_i → Option (Dt i_ArnArena_ends_o) := fun x => i_ArnArena_ends k x.1 x.2.1 x.2.2.1 x.2.2.2.1 x.2.2.2.2.1
theorem i_ArnArena_ends_c (k : Nat) : Comes1 (i_ArnArena_ends_T k) Try.f145 i_ArnArena_ends_i i_ArnArena_ends_o (i_ArnArena_ends_G k) := fun x => by kernel_rfl
noncomputable def i_ArnArena_ends_E (k : Nat) : Env := (i_ArnQueued_E k).with 145 i_ArnArena_ends_i i_ArnArena_ends_o (i_ArnArena_ends_G k)
theorem i_ArnArena_ends_ok (k : Nat) : EnvOk Try.prog (i_ArnArena_ends_E k) := (i_ArnQueued_ok k).with mixed (by decide) (by kernel_rfl) (by kernel_rfl) (i_ArnArena_ends_c k) (by kernel_rfl)
/-! ### slices.Grow[[]int,int] -/
@[reducible] def slices_Grow_int_i : Sh := ⟨[.c (.leaf (.nils)), .c (.leaf (.int .i64))], []⟩
@[reducible] def slices_Grow_int_o : Sh := ⟨[.c (.leaf (.own 0))], [(0, .rows 3 (.int .i64))]⟩
noncomputable def slices_Grow_int_T (k : Nat) : Env := ((i_ArnArena_ends_E k).at 0 k [(3, ⟨[0, 1], []⟩), (6, ⟨[0], [⟨0, false, 0, 3, (.int .i64)⟩]⟩)] [(1000025, ⟨[], []⟩)] [⟨4, false, 0, 3, (.int .i64)⟩]).gated (fun _ => true)
noncomputable def slices_Grow_int_j6 (k : Nat) (v0 : List Int) : Option (Dt slices_Grow_int_o) := atRegion (slices_Grow_int_T k) (subF Try.f178 [.r, .r, .r, .l]) ⟨tml 27 [(0, .c (.leaf (.own 0)))], [(0, .rows 3 (.int .i64) v0)]⟩ (ksq (slices_Grow_int_T k) (subF Try.f178 [.r, .r, .r]) (kret (slices_Grow_int_T k) Try.f178.results.toList (unOut slices_Grow_int_o)))
noncomputable def slices_Grow_int_j3 (k : Nat) (v0 : Int) : Option (Dt slices_Grow_int_o) := atRegion (slices_Grow_int_T k) (subF Try.f178 [.r, .r, .l, .l]) ⟨tml 27 [(0, .c (.leaf (.nils))), (1, .c (.leaf (.int .i64 v0)))], []⟩ (ksq (slices_Grow_int_T k) (subF Try.f178 [.r, .r, .l]) (ksq (slices_Grow_int_T k) (subF Try.f178 [.r, .r]) (kret (slices_Grow_int_T k) Try.f178.results.toList (unOut slices_Grow_int_o))))
noncomputable def slices_Grow_int (k : Nat) (x0 : Int) : Option (Dt slices_Grow_int_o) := evFn (slices_Grow_int_T k) Try.f178 [.c (.leaf (.nils)), .c (.leaf (.int .i64 x0))] [] (unOut slices_Grow_int_o)
theorem slices_Grow_int_j6_eq (k : Nat) (v0 : List Int) : slices_Grow_int_j6 k v0 =
  (some (v0, ())) := by kernel_rfl
theorem slices_Grow_int_j3_eq (k : Nat) (v0 : Int) : slices_Grow_int_j3 k v0 =
  (if (decide ((0:Int) < (W (v0 - (0:Int))))) = true then
  (if (0:Int) ≤ (0:Int) ∧ (0:Int) ≤ (0:Int) ∧ (0:Int) ≤ (0:Int) then
  (if (0:Int) ≤ (W (v0 - (0:Int))) ∧ (W (v0 - (0:Int))) ≤ LB then
  (if (0:Int) ≤ (0:Int) ∧ (0:Int) ≤ (List.length (List.replicate (Int.toNat (W (v0 - (0:Int)))) (0:Int)) : Int) then
  (slices_Grow_int_j6 k (List.take 0 (List.replicate (Int.toNat (W (v0 - (0:Int)))) (0:Int))))
 else none)
 else none)
 else none)
 else
  (slices_Grow_int_j6 k ([] : List Int))) := by kernel_rfl
theorem slices_Grow_int_eq (k : Nat) (x0 : Int) : slices_Grow_int k x0 =
  (if (decide (x0 < (0:Int))) = true then
  none
 else
  (slices_Grow_int_j3 k x0)) := by kernel_rfl
noncomputable def slices_Grow_int_G (k : Nat) : Dt slices_Grow_int_i → Option (Dt slices_Grow_int_o) := fun x => slices_Grow_int k x.1
theorem slices_Grow_int_c (k : Nat) : Comes1 (slices_Grow_int_T k) Try.f178 slices_Grow_int_i slices_Grow_int_o (slices_Grow_int_G k) := fun x => by kernel_rfl
noncomputable def slices_Grow_int_E (k : Nat) : Env := (i_ArnArena_ends_E k).with 178 slices_Grow_int_i slices_Grow_int_o (slices_Grow_int_G k)
theorem slices_Grow_int_ok (k : Nat) : EnvOk Try.prog (slices_Grow_int_E k) := (i_ArnArena_ends_ok k).with mixed (by decide) (by kernel_rfl) (by kernel_rfl) (slices_Grow_int_c k) (by kernel_rfl)
/-! ### slices.Concat[[]int,int] -/
@[reducible] def slices_Concat_int_i : Sh := ⟨[.c (.leaf (.ro (.list 3 (.int .i64))))], []⟩
@[reducible] def slices_Concat_int_o : Sh := ⟨[.c (.leaf (.own 0))], [(0, .rows 3 (.int .i64))]⟩
noncomputable def slices_Concat_int_T (k : Nat) : Env := ((slices_Grow_int_E k).at 0 k [(8, ⟨[0, 3, 9, 10, 11], []⟩)] [(3, ⟨[0, 3, 9, 10, 11], []⟩), (11, ⟨[6, 25, 26, 27], []⟩)] [⟨2, false, 0, 3, (.int .i64)⟩]).gated (fun _ => true)
noncomputable def slices_Concat_int_j8 (k n0 : Nat) (v0 : List (List Int)) (v1 : Int) (v2 : List (List Int)) (v3 : Int) (v4 : Int) : Option (Dt slices_Concat_int_o) := atRegion (slices_Concat_int_T k) (subF Try.f146 [.r, .r, .l, .r, .l, .l, .r, .r, .r]) ⟨tml 36 [(0, .c (.leaf (.ro (.list 3 (.int .i64)) v0))), (3, .c (.leaf (.int .i64 v1))), (9, .c (.leaf (.ro (.list 3 (.int .i64)) v2))), (10, .c (.leaf (.int .i64 v3))), (11, .c (.leaf (.int .i64 v4)))], []⟩ (klp (slices_Concat_int_T k) (subF Try.f146 [.r, .r, .l, .r, .l]) n0 (kbl (subF Try.f146 [.r, .r, .l, .r]) (ksq (slices_Concat_int_T k) (subF Try.f146 [.r, .r]) (kret (slices_Concat_int_T k) Try.f146.results.toList (unOut slices_Concat_int_o)))))
noncomputable def slices_Concat_int_l11 (k n0 : Nat) (v0 : List (List Int)) (v1 : Int) (v2 : Int) (v3 : List Int) : Option (Dt slices_Concat_int_o) := atLoop (slices_Concat_int_T k) (subF Try.f146 [.r, .r, .r, .r, .l, .r, .l]) n0 ⟨tml 36 [(6, .c (.leaf (.own 0))), (25, .c (.leaf (.ro (.list 3 (.int .i64)) v0))), (26, .c (.leaf (.int .i64 v1))), (27, .c (.leaf (.int .i64 v2)))], [(0, .rows 3 (.int .i64) v3)]⟩ (kbl (subF Try.f146 [.r, .r, .r, .r, .l, .r]) (ksq (slices_Concat_int_T k) (subF Try.f146 [.r, .r, .r, .r]) (kret (slices_Concat_int_T k) Try.f146.results.toList (unOut slices_Concat_int_o))))
noncomputable def slices_Concat_int_l3 (k n0 : Nat) (v0 : List (List Int)) (v1 : Int) (v2 : List (List Int)) (v3 : Int) (v4 : Int) : Option (Dt slices_Concat_int_o) := atLoop (slices_Concat_int_T k) (subF Try.f146 [.r, .r, .l, .r, .l]) n0 ⟨tml 36 [(0, .c (.leaf (.ro (.list 3 (.int .i64)) v0))), (3, .c (.leaf (.int .i64 v1))), (9, .c (.leaf (.ro (.list 3 (.int .i64)) v2))), (10, .c (.leaf (.int .i64 v3))), (11, .c (.leaf (.int .i64 v4)))], []⟩ (kbl (subF Try.f146 [.r, .r, .l, .r]) (ksq (slices_Concat_int_T k) (subF Try.f146 [.r, .r]) (kret (slices_Concat_int_T k) Try.f146.results.toList (unOut slices_Concat_int_o))))
noncomputable def slices_Concat_int (k : Nat) (x0 : List (List Int)) : Option (Dt slices_Concat_int_o) := evFn (slices_Concat_int_T k) Try.f146 [.c (.leaf (.ro (.list 3 (.int .i64)) x0))] [] (unOut slices_Concat_int_o)
theorem slices_Concat_int_j8_eq (k n0 : Nat) (v0 : List (List Int)) (v1 : Int) (v2 : List (List Int)) (v3 : Int) (v4 : Int) : slices_Concat_int_j8 k n0 v0 v1 v2 v3 v4 =
  (slices_Concat_int_l3 k n0 v0 v1 v2 v3 (W (v4 + (1:Int)))) := by kernel_rfl
theorem slices_Concat_int_l11_0 (k : Nat) (v0 : List (List Int)) (v1 : Int) (v2 : Int) (v3 : List Int) : slices_Concat_int_l11 k 0 v0 v1 v2 v3 = none := by kernel_rfl
theorem slices_Concat_int_l11_s (k n0 : Nat) (v0 : List (List Int)) (v1 : Int) (v2 : Int) (v3 : List Int) : slices_Concat_int_l11 k (n0 + 1) v0 v1 v2 v3 =
  (if (decide (v2 < v1)) = true then
  (if (0:Int) ≤ v2 ∧ v2 < (List.length v0 : Int) then
  (if List.length v3 + List.length (v0.getD (Int.toNat v2) []) ≤ LB then
  (slices_Concat_int_l11 k n0 v0 v1 (W (v2 + (1:Int))) (v3 ++ (v0.getD (Int.toNat v2) [])))
 else none)
 else none)
 else
  (some (v3, ()))) := by kernel_rfl
theorem slices_Concat_int_l3_0 (k : Nat) (v0 : List (List Int)) (v1 : Int) (v2 : List (List Int)) (v3 : Int) (v4 : Int) : slices_Concat_int_l3 k 0 v0 v1 v2 v3 v4 = none := by kernel_rfl
theorem slices_Concat_int_l3_s (k n0 : Nat) (v0 : List (List Int)) (v1 : Int) (v2 : List (List Int)) (v3 : Int) (v4 : Int) : slices_Concat_int_l3 k (n0 + 1) v0 v1 v2 v3 v4 =
  (if (decide (v4 < v3)) = true then
  (if (0:Int) ≤ v4 ∧ v4 < (List.length v2 : Int) then
  (if (decide ((W (v1 + (List.length (v2.getD (Int.toNat v4) []) : Int))) < (0:Int))) = true then
  none
 else
  (slices_Concat_int_j8 k n0 v0 (W (v1 + (List.length (v2.getD (Int.toNat v4) []) : Int))) v2 v3 v4))
 else none)
 else
  ((slices_Grow_int k v1).bind fun y1 =>
  (slices_Concat_int_l11 k k v0 (List.length v0 : Int) (0:Int) y1.1))) := by kernel_rfl
theorem slices_Concat_int_eq (k : Nat) (x0 : List (List Int)) : slices_Concat_int k x0 =
  (slices_Concat_int_l3 k k x0 (0:Int) x0 (List.length x0 : Int) (0:Int)) := by kernel_rfl
noncomputable def slices_Concat_int_G (k : Nat) : Dt slices_Concat_int_i → Option (Dt slices_Concat_int_o) := fun x => slices_Concat_int k x.1
theorem slices_Concat_int_c (k : Nat) : Comes1 (slices_Concat_int_T k) Try.f146 slices_Concat_int_i slices_Concat_int_o (slices_Concat_int_G k) := fun x => by kernel_rfl
noncomputable def slices_Concat_int_E (k : Nat) : Env := (slices_Grow_int_E k).with 146 slices_Concat_int_i slices_Concat_int_o (slices_Concat_int_G k)
theorem slices_Concat_int_ok (k : Nat) : EnvOk Try.prog (slices_Concat_int_E k) := (slices_Grow_int_ok k).with mixed (by decide) (by kernel_rfl) (by kernel_rfl) (slices_Concat_int_c k) (by kernel_rfl)
/-! ### loop.example/tuggers/impl.ArnOk -/
@[reducible] def i_ArnOk_i : Sh := ⟨[.c (.agg [.ro q0, .int .i64, .int .i64, .int .i64])], []⟩
@[reducible] def i_ArnOk_o : Sh := ⟨[.c (.leaf (.bool))], []⟩
noncomputable def i_ArnOk_T (k : Nat) : Env := ((slices_Concat_int_E k).at 0 k [] [(8, ⟨[1, 3, 4, 5, 6, 43, 44, 45], []⟩), (15, ⟨[1, 3, 4, 5, 9], []⟩), (20, ⟨[1, 5, 93, 94, 95], []⟩)] []).gated (fun _ => true)
noncomputable def i_ArnOk_l20 (k n0 : Nat) (v0 : Int) (v1 : Int) (v2 : List (Int × (Int × (Int × (Int × (Bool × Int)))))) (v3 : Int) (v4 : Int) (v5 : Int) (v6 : List Int) (v7 : List Int) : Option (Dt i_ArnOk_o) := atLoop (i_ArnOk_T k) (subF Try.f67 [.r, .r, .r, .r, .r, .r, .r, .l, .r, .l]) n0 ⟨tml 131 [(1, .c (.leaf (.ptr 0 0))), (5, .c (.leaf (.own 1))), (93, .c (.leaf (.own 2))), (94, .c (.leaf (.int .i64 v0))), (95, .c (.leaf (.int .i64 v1)))], [(0, .cells 30 [.ro q0 v2, .int .i64 v3, .int .i64 v4, .int .i64 v5]), (1, .rows 3 (.int .i64) v6), (2, .rows 3 (.int .i64) v7)]⟩ (kbl (subF Try.f67 [.r, .r, .r, .r, .r, .r, .r, .l, .r]) (ksq (i_ArnOk_T k) (subF Try.f67 [.r, .r, .r, .r, .r, .r, .r]) (kret (i_ArnOk_T k) Try.f67.results.toList (unOut i_ArnOk_o))))
noncomputable def i_ArnOk_l15 (k n0 : Nat) (v0 : Int) (v1 : List (Int × (Int × (Int × (Int × (Bool × Int)))))) (v2 : Int) (v3 : Int) (v4 : Int) (v5 : List Int) (v6 : List Int) (v7 : List Int) : Option (Dt i_ArnOk_o) := atLoop (i_ArnOk_T k) (subF Try.f67 [.r, .r, .r, .r, .r, .r, .l, .r, .l]) n0 ⟨tml 131 [(1, .c (.leaf (.ptr 0 0))), (3, .c (.leaf (.own 1))), (4, .c (.leaf (.own 2))), (5, .c (.leaf (.own 3))), (9, .c (.leaf (.int .i64 v0)))], [(0, .cells 30 [.ro q0 v1, .int .i64 v2, .int .i64 v3, .int .i64 v4]), (1, .rows 3 (.int .i64) v5), (2, .rows 3 (.int .i64) v6), (3, .rows 3 (.int .i64) v7)]⟩ (kbl (subF Try.f67 [.r, .r, .r, .r, .r, .r, .l, .r]) (ksq (i_ArnOk_T k) (subF Try.f67 [.r, .r, .r, .r, .r, .r]) (kret (i_ArnOk_T k) Try.f67.results.toList (unOut i_ArnOk_o))))
noncomputable def i_ArnOk_l8 (k n0 : Nat) (v0 : Int) (v1 : Int) (v2 : List (Int × (Int × (Int × (Int × (Bool × Int)))))) (v3 : Int) (v4 : Int) (v5 : Int) (v6 : List Int) (v7 : List Int) (v8 : List Int) (v9 : List Int) (v10 : List Int) : Option (Dt i_ArnOk_o) := atLoop (i_ArnOk_T k) (subF Try.f67 [.r, .r, .r, .r, .r, .l, .r, .l]) n0 ⟨tml 131 [(1, .c (.leaf (.ptr 0 0))), (3, .c (.leaf (.own 1))), (4, .c (.leaf (.own 2))), (5, .c (.leaf (.own 3))), (6, .c (.leaf (.mp 4))), (43, .c (.leaf (.own 5))), (44, .c (.leaf (.int .i64 v0))), (45, .c (.leaf (.int .i64 v1)))], [(0, .cells 30 [.ro q0 v2, .int .i64 v3, .int .i64 v4, .int .i64 v5]), (1, .rows 3 (.int .i64) v6), (2, .rows 3 (.int .i64) v7), (3, .rows 3 (.int .i64) v8), (4, .mset v9), (5, .rows 3 (.int .i64) v10)]⟩ (kbl (subF Try.f67 [.r, .r, .r, .r, .r, .l, .r]) (ksq (i_ArnOk_T k) (subF Try.f67 [.r, .r, .r, .r, .r]) (kret (i_ArnOk_T k) Try.f67.results.toList (unOut i_ArnOk_o))))
noncomputable def i_ArnOk (k : Nat) (x0 : List (Int × (Int × (Int × (Int × (Bool × Int)))))) (x1 : Int) (x2 : Int) (x3 : Int) : Option (Dt i_ArnOk_o) := evFn (i_ArnOk_T k) Try.f67 [.c (.agg [.ro q0 x0, .int .i64 x1, .int .i64 x2, .int .i64 x3])] [] (unOut i_ArnOk_o)
theorem i_ArnOk_l20_0 (k : Nat) (v0 : Int) (v1 : Int) (v2 : List (Int × (Int × (Int × (Int × (Bool × Int)))))) (v3 : Int) (v4 : Int) (v5 : Int) (v6 : List Int) (v7 : List Int) : i_ArnOk_l20 k 0 v0 v1 v2 v3 v4 v5 v6 v7 = none := by kernel_rfl
theorem i_ArnOk_l20_s (k n0 : Nat) (v0 : Int) (v1 : Int) (v2 : List (Int × (Int × (Int × (Int × (Bool × Int)))))) (v3 : Int) (v4 : Int) (v5 : Int) (v6 : List Int) (v7 : List Int) : i_ArnOk_l20 k (n0 + 1) v0 v1 v2 v3 v4 v5 v6 v7 =
  (if (decide (v1 < v0)) = true then
  (if (0:Int) ≤ v1 ∧ v1 < (List.length v7 : Int) then
  (if (0:Int) ≤ (v7.getD (Int.toNat v1) (0:Int)) ∧ (v7.getD (Int.toNat v1) (0:Int)) < (List.length v2 : Int) then
  ((i_WrdMark k (v2.getD (Int.toNat (v7.getD (Int.toNat v1) (0:Int))) ((0:Int), ((0:Int), ((0:Int), ((0:Int), (false, (0:Int))))))).2.2.1).bind fun y10 =>
  (if y10.1 = true then
  (some (false, ()))
 else
  (i_ArnOk_l20 k n0 v0 (W (v1 + (1:Int))) v2 v3 v4 v5 v6 v7)))
 else none)
 else none)
 else
  (if (0:Int) ≤ (W ((List.length v6 : Int) - (1:Int))) ∧ (W ((List.length v6 : Int) - (1:Int))) < (List.length v6 : Int) then
  (if (decide ((v6.getD (Int.toNat (W ((List.length v6 : Int) - (1:Int)))) (0:Int)) = v5)) = true then
  (some (true, ()))
 else
  (if (decide ((1:Int) < (List.length v6 : Int))) = true then
  (if (0:Int) ≤ (W ((List.length v6 : Int) - (2:Int))) ∧ (W ((List.length v6 : Int) - (2:Int))) < (List.length v6 : Int) then
  (some ((decide ((v6.getD (Int.toNat (W ((List.length v6 : Int) - (2:Int)))) (0:Int)) = v5)), ()))
 else none)
 else
  (some (false, ()))))
 else none)) := by kernel_rfl
theorem i_ArnOk_l15_0 (k : Nat) (v0 : Int) (v1 : List (Int × (Int × (Int × (Int × (Bool × Int)))))) (v2 : Int) (v3 : Int) (v4 : Int) (v5 : List Int) (v6 : List Int) (v7 : List Int) : i_ArnOk_l15 k 0 v0 v1 v2 v3 v4 v5 v6 v7 = none := by kernel_rfl
theorem i_ArnOk_l15_s (k n0 : Nat) (v0 : Int) (v1 : List (Int × (Int × (Int × (Int × (Bool × Int)))))) (v2 : Int) (v3 : Int) (v4 : Int) (v5 : List Int) (v6 : List Int) (v7 : List Int) : i_ArnOk_l15 k (n0 + 1) v0 v1 v2 v3 v4 v5 v6 v7 =
  (if (decide (v0 < (List.length v5 : Int))) = true then
  (if (0:Int) ≤ (W (v0 - (1:Int))) ∧ (W (v0 - (1:Int))) < (List.length v5 : Int) then
  (if (0:Int) ≤ (v5.getD (Int.toNat (W (v0 - (1:Int)))) (0:Int)) ∧ (v5.getD (Int.toNat (W (v0 - (1:Int)))) (0:Int)) < (List.length v1 : Int) then
  (if (0:Int) ≤ v0 ∧ v0 < (List.length v5 : Int) then
  (if (0:Int) ≤ (v5.getD (Int.toNat v0) (0:Int)) ∧ (v5.getD (Int.toNat v0) (0:Int)) < (List.length v1 : Int) then
  (if (decide ((v1.getD (Int.toNat (v5.getD (Int.toNat v0) (0:Int))) ((0:Int), ((0:Int), ((0:Int), ((0:Int), (false, (0:Int))))))).1 ≤ (v1.getD (Int.toNat (v5.getD (Int.toNat (W (v0 - (1:Int)))) (0:Int))) ((0:Int), ((0:Int), ((0:Int), ((0:Int), (false, (0:Int))))))).1)) = true then
  (some (false, ()))
 else
  (i_ArnOk_l15 k n0 (W (v0 + (1:Int))) v1 v2 v3 v4 v5 v6 v7))
 else none)
 else none)
 else none)
 else none)
 else
  ((slices_Concat_int k [v6, v7]).bind fun y9 =>
  (i_ArnOk_l20 k k (List.length y9.1 : Int) (0:Int) v1 v2 v3 v4 v7 y9.1))) := by kernel_rfl
theorem i_ArnOk_l8_0 (k : Nat) (v0 : Int) (v1 : Int) (v2 : List (Int × (Int × (Int × (Int × (Bool × Int)))))) (v3 : Int) (v4 : Int) (v5 : Int) (v6 : List Int) (v7 : List Int) (v8 : List Int) (v9 : List Int) (v10 : List Int) : i_ArnOk_l8 k 0 v0 v1 v2 v3 v4 v5 v6 v7 v8 v9 v10 = none := by kernel_rfl
theorem i_ArnOk_l8_s (k n0 : Nat) (v0 : Int) (v1 : Int) (v2 : List (Int × (Int × (Int × (Int × (Bool × Int)))))) (v3 : Int) (v4 : Int) (v5 : Int) (v6 : List Int) (v7 : List Int) (v8 : List Int) (v9 : List Int) (v10 : List Int) : i_ArnOk_l8 k (n0 + 1) v0 v1 v2 v3 v4 v5 v6 v7 v8 v9 v10 =
  (if (decide (v1 < v0)) = true then
  (if (0:Int) ≤ v1 ∧ v1 < (List.length v10 : Int) then
  (if (List.contains v9 (v10.getD (Int.toNat v1) (0:Int))) = true then
  (some (false, ()))
 else
  (if (0:Int) ≤ (v10.getD (Int.toNat v1) (0:Int)) ∧ (v10.getD (Int.toNat v1) (0:Int)) < (List.length v2 : Int) then
  (if (!(v2.getD (Int.toNat (v10.getD (Int.toNat v1) (0:Int))) ((0:Int), ((0:Int), ((0:Int), ((0:Int), (false, (0:Int))))))).2.2.2.2.1) = true then
  (some (false, ()))
 else
  (i_ArnOk_l8 k n0 v0 (W (v1 + (1:Int))) v2 v3 v4 v5 v6 v7 v8 (if List.contains v9 (v10.getD (Int.toNat v1) (0:Int)) then v9 else v9 ++ [(v10.getD (Int.toNat v1) (0:Int))]) v10))
 else none))
 else none)
 else
  (i_ArnOk_l15 k k (1:Int) v2 v3 v4 v5 v6 v7 v8)) := by kernel_rfl
theorem i_ArnOk_eq (k : Nat) (x0 : List (Int × (Int × (Int × (Int × (Bool × Int)))))) (x1 : Int) (x2 : Int) (x3 : Int) : i_ArnOk k x0 x1 x2 x3 =
  ((i_ArnArena_shaped k x0 x1 x2 x3).bind fun y1 =>
  (if (!y1.1) = true then
  (some (false, ()))
 else
  ((i_ArnChain k x0 x1 x2 x3).bind fun y2 =>
  ((i_ArnStacked k x0 x1 x2 x3).bind fun y3 =>
  ((i_ArnQueued k x0 x1 x2 x3).bind fun y4 =>
  ((i_ArnArena_ends k x0 x1 x2 x3 y2.1).bind fun y5 =>
  (if (!y5.1) = true then
  (some (false, ()))
 else
  ((i_ArnArena_ends k x0 x1 x2 x3 y3.1).bind fun y6 =>
  (if (!y6.1) = true then
  (some (false, ()))
 else
  ((i_ArnArena_ends k x0 x1 x2 x3 y4.1).bind fun y7 =>
  (if (!y7.1) = true then
  (some (false, ()))
 else
  ((slices_Concat_int k [y2.1, y3.1, y4.1]).bind fun y8 =>
  (i_ArnOk_l8 k k (List.length y8.1 : Int) (0:Int) x0 x1 x2 x3 y2.1 y3.1 y4.1 ([] : List Int) y8.1))))))))))))) := by kernel_rfl
noncomputable def i_ArnOk_G (k : Nat) : Dt i_ArnOk_i → Option (Dt i_ArnOk_o) := fun x => i_ArnOk k x.1 x.2.1 x.2.2.1 x.2.2.2.1
theorem i_ArnOk_c (k : Nat) : Comes1 (i_ArnOk_T k) Try.f67 i_ArnOk_i i_ArnOk_o (i_ArnOk_G k) := fun x => by kernel_rfl
noncomputable def i_ArnOk_E (k : Nat) : Env := (slices_Concat_int_E k).with 67 i_ArnOk_i i_ArnOk_o (i_ArnOk_G k)
theorem i_ArnOk_ok (k : Nat) : EnvOk Try.prog (i_ArnOk_E k) := (slices_Concat_int_ok k).with mixed (by decide) (by kernel_rfl) (by kernel_rfl) (i_ArnOk_c k) (by kernel_rfl)
/-! ### (loop.example/tuggers/impl.ArnArena).values -/
@[reducible] def i_ArnArena_values_i : Sh := ⟨[.c (.agg [.ro q0, .int .i64, .int .i64, .int .i64]), .c (.leaf (.ro (.int .i64)))], []⟩
@[reducible] def i_ArnArena_values_o : Sh := ⟨[.c (.leaf (.own 0))], [(0, .rows 3 (.int .i64))]⟩
noncomputable def i_ArnArena_values_T (k : Nat) : Env := ((i_ArnOk_E k).at 0 k [] [(3, ⟨[2, 5, 8, 9, 10], [⟨2, true, 0, 113, q0⟩, ⟨5, false, 0, 3, (.int .i64)⟩, ⟨8, false, 0, 3, (.int .i64)⟩]⟩)] [⟨4, false, 0, 3, (.int .i64)⟩]).gated (fun _ => true)
noncomputable def i_ArnArena_values_l3 (k n0 : Nat) (v0 : List Int) (v1 : Int) (v2 : Int) (v3 : List (Int × (Int × (Int × (Int × (Bool × Int)))))) (v4 : Int) (v5 : Int) (v6 : Int) (v7 : List Int) : Option (Dt i_ArnArena_values_o) := atLoop (i_ArnArena_values_T k) (subF Try.f68 [.r, .r, .l, .r, .l]) n0 ⟨tml 25 [(2, .c (.leaf (.ptr 0 0))), (5, .c (.leaf (.own 1))), (8, .c (.leaf (.ro (.int .i64) v0))), (9, .c (.leaf (.int .i64 v1))), (10, .c (.leaf (.int .i64 v2)))], [(0, .cells 30 [.ro q0 v3, .int .i64 v4, .int .i64 v5, .int .i64 v6]), (1, .rows 3 (.int .i64) v7)]⟩ (kbl (subF Try.f68 [.r, .r, .l, .r]) (ksq (i_ArnArena_values_T k) (subF Try.f68 [.r, .r]) (kret (i_ArnArena_values_T k) Try.f68.results.toList (unOut i_ArnArena_values_o))))
noncomputable def i_ArnArena_values (k : Nat) (x0 : List (Int × (Int × (Int × (Int × (Bool × Int)))))) (x1 : Int) (x2 : Int) (x3 : Int) (x4 : List Int) : Option (Dt i_ArnArena_values_o) := evFn (i_ArnArena_values_T k) Try.f68 [.c (.agg [.ro q0 x0, .int .i64 x1, .int .i64 x2, .int .i64 x3]), .c (.leaf (.ro (.int .i64) x4))] [] (unOut i_ArnArena_values_o)
theorem i_ArnArena_values_l3_0 (k : Nat) (v0 : List Int) (v1 : Int) (v2 : Int) (v3 : List (Int × (Int × (Int × (Int × (Bool × Int)))))) (v4 : Int) (v5 : Int) (v6 : Int) (v7 : List Int) : i_ArnArena_values_l3 k 0 v0 v1 v2 v3 v4 v5 v6 v7 = none := by kernel_rfl
theorem i_ArnArena_values_l3_s (k n0 : Nat) (v0 : List Int) (v1 : Int) (v2 : Int) (v3 : List (Int × (Int × (Int × (Int × (Bool × Int)))))) (v4 : Int) (v5 : Int) (v6 : Int) (v7 : List Int) : i_ArnArena_values_l3 k (n0 + 1) v0 v1 v2 v3 v4 v5 v6 v7 =
  (if (decide (v2 < v1)) = true then
  (if (0:Int) ≤ v2 ∧ v2 < (List.length v0 : Int) then
  (if (0:Int) ≤ (v0.getD (Int.toNat v2) (0:Int)) ∧ (v0.getD (Int.toNat v2) (0:Int)) < (List.length v3 : Int) then
  (if List.length v7 + List.length [(v3.getD (Int.toNat (v0.getD (Int.toNat v2) (0:Int))) ((0:Int), ((0:Int), ((0:Int), ((0:Int), (false, (0:Int))))))).2.1] ≤ LB then
  (i_ArnArena_values_l3 k n0 v0 v1 (W (v2 + (1:Int))) v3 v4 v5 v6 (v7 ++ [(v3.getD (Int.toNat (v0.getD (Int.toNat v2) (0:Int))) ((0:Int), ((0:Int), ((0:Int), ((0:Int), (false, (0:Int))))))).2.1]))
 else none)
 else none)
 else none)
 else
  (some (v7, ()))) := by kernel_rfl
theorem i_ArnArena_values_eq (k : Nat) (x0 : List (Int × (Int × (Int × (Int × (Bool × Int)))))) (x1 : Int) (x2 : Int) (x3 : Int) (x4 : List Int) : i_ArnArena_values k x0 x1 x2 x3 x4 =
  (i_ArnArena_values_l3 k k x4 (List.length x4 : Int) (0:Int) x0 x1 x2 x3 ([] : List Int)) := by kernel_rfl
noncomputable def i_ArnArena_values_G (k : Nat) : Dt i_ArnArena_values_i → Option (Dt i_ArnArena_values_o) := fun x => i_ArnArena_values k x.1 x.2.1 x.2.2.1 x.2.2.2.1 x.2.2.2.2.1
theorem i_ArnArena_values_c (k : Nat) : Comes1 (i_ArnArena_values_T k) Try.f68 i_ArnArena_values_i i_ArnArena_values_o (i_ArnArena_values_G k) := fun x => by kernel_rfl
noncomputable def i_ArnArena_values_E (k : Nat) : Env := (i_ArnOk_E k).with 68 i_ArnArena_values_i i_ArnArena_values_o (i_ArnArena_values_G k)
theorem i_ArnArena_values_ok (k : Nat) : EnvOk Try.prog (i_ArnArena_values_E k) := (i_ArnOk_ok k).with mixed (by decide) (by kernel_rfl) (by kernel_rfl) (i_ArnArena_values_c k) (by kernel_rfl)
/-! ### loop.example/tuggers/impl.ArnStack -/
@[reducible] def i_ArnStack_i : Sh := ⟨[.c (.agg [.ro q0, .int .i64, .int .i64, .int .i64])], []⟩
@[reducible] def i_ArnStack_o : Sh := ⟨[.c (.leaf (.own 0))], [(0, .rows 3 (.int .i64))]⟩
noncomputable def i_ArnStack_T (k : Nat) : Env := ((i_ArnArena_values_E k).at 0 k [] [] [⟨2, false, 0, 3, (.int .i64)⟩]).gated (fun _ => true)
noncomputable def i_ArnStack (k : Nat) (x0 : List (Int × (Int × (Int × (Int × (Bool × Int)))))) (x1 : Int) (x2 : Int) (x3 : Int) : Option (Dt i_ArnStack_o) := evFn (i_ArnStack_T k) Try.f16 [.c (.agg [.ro q0 x0, .int .i64 x1, .int .i64 x2, .int .i64 x3])] [] (unOut i_ArnStack_o)
theorem i_ArnStack_eq (k : Nat) (x0 : List (Int × (Int × (Int × (Int × (Bool × Int)))))) (x1 : Int) (x2 : Int) (x3 : Int) : i_ArnStack k x0 x1 x2 x3 =
  ((i_ArnOk k x0 x1 x2 x3).bind fun y1 =>
  (if (!y1.1) = true then
  (some (([] : List Int), ()))
 else
  ((i_ArnStacked k x0 x1 x2 x3).bind fun y2 =>
  ((i_ArnArena_values k x0 x1 x2 x3 y2.1).bind fun y3 =>
  (some (y3.1, ())))))) := by kernel_rfl
noncomputable def i_ArnStack_G (k : Nat) : Dt i_ArnStack_i → Option (Dt i_ArnStack_o) := fun x => i_ArnStack k x.1 x.2.1 x.2.2.1 x.2.2.2.1
theorem i_ArnStack_c (k : Nat) : Comes1 (i_ArnStack_T k) Try.f16 i_ArnStack_i i_ArnStack_o (i_ArnStack_G k) := fun x => by kernel_rfl
noncomputable def i_ArnStack_E (k : Nat) : Env := (i_ArnArena_values_E k).with 16 i_ArnStack_i i_ArnStack_o (i_ArnStack_G k)
theorem i_ArnStack_ok (k : Nat) : EnvOk Try.prog (i_ArnStack_E k) := (i_ArnArena_values_ok k).with mixed (by decide) (by kernel_rfl) (by kernel_rfl) (i_ArnStack_c k) (by kernel_rfl)
/-! ### loop.example/tuggers/laws.eqIntS -/
@[reducible] def w_eqIntS_i : Sh := ⟨[.c (.leaf (.ro (.int .i64))), .c (.leaf (.ro (.int .i64)))], []⟩
@[reducible] def w_eqIntS_o : Sh := ⟨[.c (.leaf (.bool))], []⟩
noncomputable def w_eqIntS_T (k : Nat) : Env := ((i_ArnStack_E k).at 0 k [] [(4, ⟨[0, 1, 5], []⟩)] []).gated (fun _ => true)
noncomputable def w_eqIntS_l4 (k n0 : Nat) (v0 : List Int) (v1 : List Int) (v2 : Int) : Option (Dt w_eqIntS_o) := atLoop (w_eqIntS_T k) (subF Try.f17 [.r, .r, .l, .r, .l]) n0 ⟨tml 26 [(0, .c (.leaf (.ro (.int .i64) v0))), (1, .c (.leaf (.ro (.int .i64) v1))), (5, .c (.leaf (.int .i64 v2)))], []⟩ (kbl (subF Try.f17 [.r, .r, .l, .r]) (ksq (w_eqIntS_T k) (subF Try.f17 [.r, .r]) (kret (w_eqIntS_T k) Try.f17.results.toList (unOut w_eqIntS_o))))
noncomputable def w_eqIntS (k : Nat) (x0 : List Int) (x1 : List Int) : Option (Dt w_eqIntS_o) := evFn (w_eqIntS_T k) Try.f17 [.c (.leaf (.ro (.int .i64) x0)), .c (.leaf (.ro (.int .i64) x1))] [] (unOut w_eqIntS_o)
theorem w_eqIntS_l4_0 (k : Nat) (v0 : List Int) (v1 : List Int) (v2 : Int) : w_eqIntS_l4 k 0 v0 v1 v2 = none := by kernel_rfl
theorem w_eqIntS_l4_s (k n0 : Nat) (v0 : List Int) (v1 : List Int) (v2 : Int) : w_eqIntS_l4 k (n0 + 1) v0 v1 v2 =
  (if (decide (v2 < (List.length v0 : Int))) = true then
  (if (0:Int) ≤ v2 ∧ v2 < (List.length v0 : Int) then
  (if (0:Int) ≤ v2 ∧ v2 < (List.length v1 : Int) then
  (if (decide (¬ (v0.getD (Int.toNat v2) (0:Int)) = (v1.getD (Int.toNat v2) (0:Int)))) = true then
  (some (false, ()))
 else
  (w_eqIntS_l4 k n0 v0 v1 (W (v2 + (1:Int)))))
 else none)
 else none)
 else
  (some (true, ()))) := by kernel_rfl
theorem w_eqIntS_eq (k : Nat) (x0 : List Int) (x1 : List Int) : w_eqIntS k x0 x1 =
  (if (decide (¬ (List.length x0 : Int) = (List.length x1 : Int))) = true then
  (some (false, ()))
 else
  (w_eqIntS_l4 k k x0 x1 (0:Int))) := by kernel_rfl
noncomputable def w_eqIntS_G (k : Nat) : Dt w_eqIntS_i → Option (Dt w_eqIntS_o) := fun x => w_eqIntS k x.1 x.2.1
theorem w_eqIntS_c (k : Nat) : Comes1 (w_eqIntS_T k) Try.f17 w_eqIntS_i w_eqIntS_o (w_eqIntS_G k) := fun x => by kernel_rfl
noncomputable def w_eqIntS_E (k : Nat) : Env := (i_ArnStack_E k).with 17 w_eqIntS_i w_eqIntS_o (w_eqIntS_G k)
theorem w_eqIntS_ok (k : Nat) : EnvOk Try.prog (w_eqIntS_E k) := (i_ArnStack_ok k).with mixed (by decide) (by kernel_rfl) (by kernel_rfl) (w_eqIntS_c k) (by kernel_rfl)
/-! ### loop.example/tuggers/laws.eqArnNode -/
@[reducible] def w_eqArnNode_i : Sh := ⟨[.c (.agg [.int .i64, .int .i64, .int .i64, .int .i64, .bool, .int .i64]), .c (.agg [.int .i64, .int .i64, .int .i64, .int .i64, .bool, .int .i64])], []⟩
@[reducible] def w_eqArnNode_o : Sh := ⟨[.c (.leaf (.bool))], []⟩
noncomputable def w_eqArnNode_T (k : Nat) : Env := ((w_eqIntS_E k).at 0 k [] [] []).gated (fun _ => true)
noncomputable def w_eqArnNode (k : Nat) (x0 : Int) (x1 : Int) (x2 : Int) (x3 : Int) (x4 : Bool) (x5 : Int) (x6 : Int) (x7 : Int) (x8 : Int) (x9 : Int) (x10 : Bool) (x11 : Int) : Option (Dt w_eqArnNode_o) := evFn (w_eqArnNode_T k) Try.f148 [.c (.agg [.int .i64 x0, .int .i64 x1, .int .i64 x2, .int .i64 x3, .bool x4, .int .i64 x5]), .c (.agg [.int .i64 x6, .int .i64 x7, .int .i64 x8, .int .i64 x9, .bool x10, .int .i64 x11])] [] (unOut w_eqArnNode_o)
theorem w_eqArnNode_eq (k : Nat) (x0 : Int) (x1 : Int) (x2 : Int) (x3 : Int) (x4 : Bool) (x5 : Int) (x6 : Int) (x7 : Int) (x8 : Int) (x9 : Int) (x10 : Bool) (x11 : Int) : w_eqArnNode k x0 x1 x2 x3 x4 x5 x6 x7 x8 x9 x10 x11 =
  (if (decide (¬ x0 = x6)) = true then
  (some (false, ()))
 else
  (if (decide (¬ x1 = x7)) = true then
  (some (false, ()))
 else
  (if (decide (¬ x2 = x8)) = true then
  (some (false, ()))
 else
  (if (decide (¬ x3 = x9)) = true then
  (some (false, ()))
 else
  (if (!(x4 == x10)) = true then
  (some (false, ()))
 else
  (if (decide (¬ x5 = x11)) = true then
  (some (false, ()))
 else
  (some (true, ())))))))) := by kernel_rfl
noncomputable def w_eqArnNode_G (k : Nat) : Dt w_eqArnNode_i → Option (Dt w_eqArnNode_o) := fun x => w_eqArnNode k x.1 x.2.1 x.2.2.1 x.2.2.2.1 x.2.2.2.2.1 x.2.2.2.2.2.1 x.2.2.2.2.2.2.1 x.2.2.2.2.2.2.2.1 x.2.2.2.2.2.2.2.2.1 x.2.2.2.2.2.2.2.2.2.1 x.2.2.2.2.2.2.2.2.2.2.1 x.2.2.2.2.2.2.2.2.2.2.2.1
theorem w_eqArnNode_c (k : Nat) : Comes1 (w_eqArnNode_T k) Try.f148 w_eqArnNode_i w_eqArnNode_o (w_eqArnNode_G k) := fun x => by kernel_rfl
noncomputable def w_eqArnNode_E (k : Nat) : Env := (w_eqIntS_E k).with 148 w_eqArnNode_i w_eqArnNode_o (w_eqArnNode_G k)
theorem w_eqArnNode_ok (k : Nat) : EnvOk Try.prog (w_eqArnNode_E k) := (w_eqIntS_ok k).with mixed (by decide) (by kernel_rfl) (by kernel_rfl) (w_eqArnNode_c k) (by kernel_rfl)
/-! ### loop.example/tuggers/laws.eqArnNodeS -/
@[reducible] def w_eqArnNodeS_i : Sh := ⟨[.c (.leaf (.ro q0)), .c (.leaf (.ro q0))], []⟩
@[reducible] def w_eqArnNodeS_o : Sh := ⟨[.c (.leaf (.bool))], []⟩
noncomputable def w_eqArnNodeS_T (k : Nat) : Env := ((w_eqArnNode_E k).at 0 k [] [(4, ⟨[0, 1, 5], []⟩)] []).gated (fun _ => true)
noncomputable def w_eqArnNodeS_l4 (k n0 : Nat) (v0 : List (Int × (Int × (Int × (Int × (Bool × Int)))))) (v1 : List (Int × (Int × (Int × (Int × (Bool × Int)))))) (v2 : Int) : Option (Dt w_eqArnNodeS_o) := atLoop (w_eqArnNodeS_T k) (subF Try.f70 [.r, .r, .l, .r, .l]) n0 ⟨tml 27 [(0, .c (.leaf (.ro q0 v0))), (1, .c (.leaf (.ro q0 v1))), (5, .c (.leaf (.int .i64 v2)))], []⟩ (kbl (subF Try.f70 [.r, .r, .l, .r]) (ksq (w_eqArnNodeS_T k) (subF Try.f70 [.r, .r]) (kret (w_eqArnNodeS_T k) Try.f70.results.toList (unOut w_eqArnNodeS_o))))
noncomputable def w_eqArnNodeS (k : Nat) (x0 : List (Int × (Int × (Int × (Int × (Bool × Int)))))) (x1 : List (Int × (Int × (Int × (Int × (Bool × Int)))))) : Option (Dt w_eqArnNodeS_o) := evFn (w_eqArnNodeS_T k) Try.f70 [.c (.leaf (.ro q0 x0)), .c (.leaf (.ro q0 x1))] [] (unOut w_eqArnNodeS_o)
theorem w_eqArnNodeS_l4_0 (k : Nat) (v0 : List (Int × (Int × (Int × (Int × (Bool × Int)))))) (v1 : List (Int × (Int × (Int × (Int × (Bool × Int)))))) (v2 : Int) : w_eqArnNodeS_l4 k 0 v0 v1 v2 = none := by kernel_rfl
theorem w_eqArnNodeS_l4_s (k n0 : Nat) (v0 : List (Int × (Int × (Int × (Int × (Bool × Int)))))) (v1 : List (Int × (Int × (Int × (Int × (Bool × Int)))))) (v2 : Int) : w_eqArnNodeS_l4 k (n0 + 1) v0 v1 v2 =
  (if (decide (v2 < (List.length v0 : Int))) = true then
  (if (0:Int) ≤ v2 ∧ v2 < (List.length v0 : Int) then
  (if (0:Int) ≤ v2 ∧ v2 < (List.length v1 : Int) then
  ((w_eqArnNode k (v0.getD (Int.toNat v2) ((0:Int), ((0:Int), ((0:Int), ((0:Int), (false, (0:Int))))))).1 (v0.getD (Int.toNat v2) ((0:Int), ((0:Int), ((0:Int), ((0:Int), (false, (0:Int))))))).2.1 (v0.getD (Int.toNat v2) ((0:Int), ((0:Int), ((0:Int), ((0:Int), (false, (0:Int))))))).2.2.1 (v0.getD (Int.toNat v2) ((0:Int), ((0:Int), ((0:Int), ((0:Int), (false, (0:Int))))))).2.2.2.1 (v0.getD (Int.toNat v2) ((0:Int), ((0:Int), ((0:Int), ((0:Int), (false, (0:Int))))))).2.2.2.2.1 (v0.getD (Int.toNat v2) ((0:Int), ((0:Int), ((0:Int), ((0:Int), (false, (0:Int))))))).2.2.2.2.2 (v1.getD (Int.toNat v2) ((0:Int), ((0:Int), ((0:Int), ((0:Int), (false, (0:Int))))))).1 (v1.getD (Int.toNat v2) ((0:Int), ((0:Int), ((0:Int), ((0:Int), (false, (0:Int))))))).2.1 (v1.getD (Int.toNat v2) ((0:Int), ((0:Int), ((0:Int), ((0:Int), (false, (0:Int))))))).2.2.1 (v1.getD (Int.toNat v2) ((0:Int), ((0:Int), ((0:Int), ((0:Int), (false, (0:Int))))))).2.2.2.1 (v1.getD (Int.toNat v2) ((0:Int), ((0:Int), ((0:Int), ((0:Int), (false, (0:Int))))))).2.2.2.2.1 (v1.getD (Int.toNat v2) ((0:Int), ((0:Int), ((0:Int), ((0:Int), (false, (0:Int))))))).2.2.2.2.2).bind fun y1 =>
  (if (!y1.1) = true then
  (some (false, ()))
 else
  (w_eqArnNodeS_l4 k n0 v0 v1 (W (v2 + (1:Int))))))
 else none)
 else none)
 else
  (some (true, ()))) := by kernel_rfl
theorem w_eqArnNodeS_eq (k : Nat) (x0 : List (Int × (Int × (Int × (Int × (Bool × Int)))))) (x1 : List (Int × (Int × (Int × (Int × (Bool × Int)))))) : w_eqArnNodeS k x0 x1 =
  (if (decide (¬ (List.length x0 : Int) = (List.length x1 : Int))) = true then
  (some (false, ()))
 else
  (w_eqArnNodeS_l4 k k x0 x1 (0:Int))) := by kernel_rfl
noncomputable def w_eqArnNodeS_G (k : Nat) : Dt w_eqArnNodeS_i → Option (Dt w_eqArnNodeS_o) := fun x => w_eqArnNodeS k x.1 x.2.1
theorem w_eqArnNodeS_c (k : Nat) : Comes1 (w_eqArnNodeS_T k) Try.f70 w_eqArnNodeS_i w_eqArnNodeS_o (w_eqArnNodeS_G k) := fun x => by kernel_rfl
noncomputable def w_eqArnNodeS_E (k : Nat) : Env := (w_eqArnNode_E k).with 70 w_eqArnNodeS_i w_eqArnNodeS_o (w_eqArnNodeS_G k)
theorem w_eqArnNodeS_ok (k : Nat) : EnvOk Try.prog (w_eqArnNodeS_E k) := (w_eqArnNode_ok k).with mixed (by decide) (by kernel_rfl) (by kernel_rfl) (w_eqArnNodeS_c k) (by kernel_rfl)
/-! ### loop.example/tuggers/laws.eqArnArena -/
@[reducible] def w_eqArnArena_i : Sh := ⟨[.c (.agg [.ro q0, .int .i64, .int .i64, .int .i64]), .c (.agg [.ro q0, .int .i64, .int .i64, .int .i64])], []⟩
@[reducible] def w_eqArnArena_o : Sh := ⟨[.c (.leaf (.bool))], []⟩
noncomputable def w_eqArnArena_T (k : Nat) : Env := ((w_eqArnNodeS_E k).at 0 k [] [] []).gated (fun _ => true)
noncomputable def w_eqArnArena (k : Nat) (x0 : List (Int × (Int × (Int × (Int × (Bool × Int)))))) (x1 : Int) (x2 : Int) (x3 : Int) (x4 : List (Int × (Int × (Int × (Int × (Bool × Int)))))) (x5 : Int) (x6 : Int) (x7 : Int) : Option (Dt w_eqArnArena_o) := evFn (w_eqArnArena_T k) Try.f18 [.c (.agg [.ro q0 x0, .int .i64 x1, .int .i64 x2, .int .i64 x3]), .c (.agg [.ro q0 x4, .int .i64 x5, .int .i64 x6, .int .i64 x7])] [] (unOut w_eqArnArena_o)
theorem w_eqArnArena_eq (k : Nat) (x0 : List (Int × (Int × (Int × (Int × (Bool × Int)))))) (x1 : Int) (x2 : Int) (x3 : Int) (x4 : List (Int × (Int × (Int × (Int × (Bool × Int)))))) (x5 : Int) (x6 : Int) (x7 : Int) : w_eqArnArena k x0 x1 x2 x3 x4 x5 x6 x7 =
  ((w_eqArnNodeS k x0 x4).bind fun y1 =>
  (if (!y1.1) = true then
  (some (false, ()))
 else
  (if (decide (¬ x1 = x5)) = true then
  (some (false, ()))
 else
  (if (decide (¬ x2 = x6)) = true then
  (some (false, ()))
 else
  (if (decide (¬ x3 = x7)) = true then
  (some (false, ()))
 else
  (some (true, ()))))))) := by kernel_rfl
noncomputable def w_eqArnArena_G (k : Nat) : Dt w_eqArnArena_i → Option (Dt w_eqArnArena_o) := fun x => w_eqArnArena k x.1 x.2.1 x.2.2.1 x.2.2.2.1 x.2.2.2.2.1 x.2.2.2.2.2.1 x.2.2.2.2.2.2.1 x.2.2.2.2.2.2.2.1
theorem w_eqArnArena_c (k : Nat) : Comes1 (w_eqArnArena_T k) Try.f18 w_eqArnArena_i w_eqArnArena_o (w_eqArnArena_G k) := fun x => by kernel_rfl
noncomputable def w_eqArnArena_E (k : Nat) : Env := (w_eqArnNodeS_E k).with 18 w_eqArnArena_i w_eqArnArena_o (w_eqArnArena_G k)
theorem w_eqArnArena_ok (k : Nat) : EnvOk Try.prog (w_eqArnArena_E k) := (w_eqArnNodeS_ok k).with mixed (by decide) (by kernel_rfl) (by kernel_rfl) (w_eqArnArena_c k) (by kernel_rfl)
/-! ### loop.example/tuggers/laws.markArnNodeS -/
@[reducible] def w_markArnNodeS_i : Sh := ⟨[.c (.leaf (.own 0)), .c (.leaf (.int .i64))], [(0, .rows 113 q0)]⟩
@[reducible] def w_markArnNodeS_o : Sh := ⟨[.c (.leaf (.int .i64))], [(0, .rows 113 q0)]⟩
noncomputable def w_markArnNodeS_T (γ : Nat → Bool) (k : Nat) : Env := ((w_eqArnArena_E k).at 1 k [(5, ⟨[0, 1, 5], []⟩), (7, ⟨[0, 1, 5], []⟩), (9, ⟨[0, 1, 5], []⟩), (11, ⟨[0, 1, 5], []⟩), (13, ⟨[0, 1, 5], []⟩), (15, ⟨[0, 1, 5], []⟩)] [(2, ⟨[0, 1, 5], []⟩)] []).gated γ
noncomputable def w_markArnNodeS_j15 (γ : Nat → Bool) (k n0 : Nat) (v0 : Int) (v1 : Int) (v2 : List (Int × (Int × (Int × (Int × (Bool × Int)))))) : Option (Dt w_markArnNodeS_o) := atRegion (w_markArnNodeS_T γ k) (subF Try.f71 [.r, .l, .r, .l, .l, .r, .l, .l, .r, .r, .r, .r, .r, .r, .r, .r, .r, .r, .r]) ⟨tml 57 [(0, .c (.leaf (.own 0))), (1, .c (.leaf (.int .i64 v0))), (5, .c (.leaf (.int .i64 v1)))], [(0, .rows 113 q0 v2)]⟩ (kbl (subF Try.f71 [.r, .l, .r, .l, .l, .r, .l]) (ksq (w_markArnNodeS_T γ k) (subF Try.f71 [.r, .l, .r, .l, .l, .r]) (klp (w_markArnNodeS_T γ k) (subF Try.f71 [.r, .l, .r, .l]) n0 (kbl (subF Try.f71 [.r, .l, .r]) (ksq (w_markArnNodeS_T γ k) (subF Try.f71 [.r]) (kret (w_markArnNodeS_T γ k) Try.f71.results.toList (unOut w_markArnNodeS_o)))))))
noncomputable def w_markArnNodeS_j13 (γ : Nat → Bool) (k n0 : Nat) (v0 : Int) (v1 : Int) (v2 : List (Int × (Int × (Int × (Int × (Bool × Int)))))) : Option (Dt w_markArnNodeS_o) := atRegion (w_markArnNodeS_T γ k) (subF Try.f71 [.r, .l, .r, .l, .l, .r, .l, .l, .r, .r, .r, .r, .r, .r, .r, .r, .r, .l]) ⟨tml 57 [(0, .c (.leaf (.own 0))), (1, .c (.leaf (.int .i64 v0))), (5, .c (.leaf (.int .i64 v1)))], [(0, .rows 113 q0 v2)]⟩ (ksq (w_markArnNodeS_T γ k) (subF Try.f71 [.r, .l, .r, .l, .l, .r, .l, .l, .r, .r, .r, .r, .r, .r, .r, .r, .r]) (kbl (subF Try.f71 [.r, .l, .r, .l, .l, .r, .l]) (ksq (w_markArnNodeS_T γ k) (subF Try.f71 [.r, .l, .r, .l, .l, .r]) (klp (w_markArnNodeS_T γ k) (subF Try.f71 [.r, .l, .r, .l]) n0 (kbl (subF Try.f71 [.r, .l, .r]) (ksq (w_markArnNodeS_T γ k) (subF Try.f71 [.r]) (kret (w_markArnNodeS_T γ k) Try.f71.results.toList (unOut w_markArnNodeS_o))))))))
noncomputable def w_markArnNodeS_j11 (γ : Nat → Bool) (k n0 : Nat) (v0 : Int) (v1 : Int) (v2 : List (Int × (Int × (Int × (Int × (Bool × Int)))))) : Option (Dt w_markArnNodeS_o) := atRegion (w_markArnNodeS_T γ k) (subF Try.f71 [.r, .l, .r, .l, .l, .r, .l, .l, .r, .r, .r, .r, .r, .r, .r, .l]) ⟨tml 57 [(0, .c (.leaf (.own 0))), (1, .c (.leaf (.int .i64 v0))), (5, .c (.leaf (.int .i64 v1)))], [(0, .rows 113 q0 v2)]⟩ (ksq (w_markArnNodeS_T γ k) (subF Try.f71 [.r, .l, .r, .l, .l, .r, .l, .l, .r, .r, .r, .r, .r, .r, .r]) (kbl (subF Try.f71 [.r, .l, .r, .l, .l, .r, .l]) (ksq (w_markArnNodeS_T γ k) (subF Try.f71 [.r, .l, .r, .l, .l, .r]) (klp (w_markArnNodeS_T γ k) (subF Try.f71 [.r, .l, .r, .l]) n0 (kbl (subF Try.f71 [.r, .l, .r]) (ksq (w_markArnNodeS_T γ k) (subF Try.f71 [.r]) (kret (w_markArnNodeS_T γ k) Try.f71.results.toList (unOut w_markArnNodeS_o))))))))
noncomputable def w_markArnNodeS_j9 (γ : Nat → Bool) (k n0 : Nat) (v0 : Int) (v1 : Int) (v2 : List (Int × (Int × (Int × (Int × (Bool × Int)))))) : Option (Dt w_markArnNodeS_o) := atRegion (w_markArnNodeS_T γ k) (subF Try.f71 [.r, .l, .r, .l, .l, .r, .l, .l, .r, .r, .r, .r, .r, .l]) ⟨tml 57 [(0, .c (.leaf (.own 0))), (1, .c (.leaf (.int .i64 v0))), (5, .c (.leaf (.int .i64 v1)))], [(0, .rows 113 q0 v2)]⟩ (ksq (w_markArnNodeS_T γ k) (subF Try.f71 [.r, .l, .r, .l, .l, .r, .l, .l, .r, .r, .r, .r, .r]) (kbl (subF Try.f71 [.r, .l, .r, .l, .l, .r, .l]) (ksq (w_markArnNodeS_T γ k) (subF Try.f71 [.r, .l, .r, .l, .l, .r]) (klp (w_markArnNodeS_T γ k) (subF Try.f71 [.r, .l, .r, .l]) n0 (kbl (subF Try.f71 [.r, .l, .r]) (ksq (w_markArnNodeS_T γ k) (subF Try.f71 [.r]) (kret (w_markArnNodeS_T γ k) Try.f71.results.toList (unOut w_markArnNodeS_o))))))))
noncomputable def w_markArnNodeS_j7 (γ : Nat → Bool) (k n0 : Nat) (v0 : Int) (v1 : Int) (v2 : List (Int × (Int × (Int × (Int × (Bool × Int)))))) : Option (Dt w_markArnNodeS_o) := atRegion (w_markArnNodeS_T γ k) (subF Try.f71 [.r, .l, .r, .l, .l, .r, .l, .l, .r, .r, .r, .l]) ⟨tml 57 [(0, .c (.leaf (.own 0))), (1, .c (.leaf (.int .i64 v0))), (5, .c (.leaf (.int .i64 v1)))], [(0, .rows 113 q0 v2)]⟩ (ksq (w_markArnNodeS_T γ k) (subF Try.f71 [.r, .l, .r, .l, .l, .r, .l, .l, .r, .r, .r]) (kbl (subF Try.f71 [.r, .l, .r, .l, .l, .r, .l]) (ksq (w_markArnNodeS_T γ k) (subF Try.f71 [.r, .l, .r, .l, .l, .r]) (klp (w_markArnNodeS_T γ k) (subF Try.f71 [.r, .l, .r, .l]) n0 (kbl (subF Try.f71 [.r, .l, .r]) (ksq (w_markArnNodeS_T γ k) (subF Try.f71 [.r]) (kret (w_markArnNodeS_T γ k) Try.f71.results.toList (unOut w_markArnNodeS_o))))))))
noncomputable def w_markArnNodeS_j5 (γ : Nat → Bool) (k n0 : Nat) (v0 : Int) (v1 : Int) (v2 : List (Int × (Int × (Int × (Int × (Bool × Int)))))) : Option (Dt w_markArnNodeS_o) := atRegion (w_markArnNodeS_T γ k) (subF Try.f71 [.r, .l, .r, .l, .l, .r, .l, .l, .r, .l]) ⟨tml 57 [(0, .c (.leaf (.own 0))), (1, .c (.leaf (.int .i64 v0))), (5, .c (.leaf (.int .i64 v1)))], [(0, .rows 113 q0 v2)]⟩ (ksq (w_markArnNodeS_T γ k) (subF Try.f71 [.r, .l, .r, .l, .l, .r, .l, .l, .r]) (kbl (subF Try.f71 [.r, .l, .r, .l, .l, .r, .l]) (ksq (w_markArnNodeS_T γ k) (subF Try.f71 [.r, .l, .r, .l, .l, .r]) (klp (w_markArnNodeS_T γ k) (subF Try.f71 [.r, .l, .r, .l]) n0 (kbl (subF Try.f71 [.r, .l, .r]) (ksq (w_markArnNodeS_T γ k) (subF Try.f71 [.r]) (kret (w_markArnNodeS_T γ k) Try.f71.results.toList (unOut w_markArnNodeS_o))))))))
noncomputable def w_markArnNodeS_l2 (γ : Nat → Bool) (k n0 : Nat) (v0 : Int) (v1 : Int) (v2 : List (Int × (Int × (Int × (Int × (Bool × Int)))))) : Option (Dt w_markArnNodeS_o) := atLoop (w_markArnNodeS_T γ k) (subF Try.f71 [.r, .l, .r, .l]) n0 ⟨tml 57 [(0, .c (.leaf (.own 0))), (1, .c (.leaf (.int .i64 v0))), (5, .c (.leaf (.int .i64 v1)))], [(0, .rows 113 q0 v2)]⟩ (kbl (subF Try.f71 [.r, .l, .r]) (ksq (w_markArnNodeS_T γ k) (subF Try.f71 [.r]) (kret (w_markArnNodeS_T γ k) Try.f71.results.toList (unOut w_markArnNodeS_o))))
noncomputable def w_markArnNodeSg (γ : Nat → Bool) (k : Nat) (x0 : Int) (x1 : List (Int × (Int × (Int × (Int × (Bool × Int)))))) : Option (Dt w_markArnNodeS_o) := evFn (w_markArnNodeS_T γ k) Try.f71 [.c (.leaf (.own 0)), .c (.leaf (.int .i64 x0))] [(0, .rows 113 q0 x1)] (unOut w_markArnNodeS_o)
noncomputable def w_markArnNodeS (k : Nat) (x0 : Int) (x1 : List (Int × (Int × (Int × (Int × (Bool × Int)))))) : Option (Dt w_markArnNodeS_o) := w_markArnNodeSg (fun _ => true) k x0 x1
theorem w_markArnNodeS_j15_eq (γ : Nat → Bool) (k n0 : Nat) (v0 : Int) (v1 : Int) (v2 : List (Int × (Int × (Int × (Int × (Bool × Int)))))) : w_markArnNodeS_j15 γ k n0 v0 v1 v2 =
  (w_markArnNodeS_l2 γ k n0 (W (v0 + (1:Int))) (W (v1 + (1:Int))) v2) := by kernel_rfl
theorem w_markArnNodeS_j13_eq (γ : Nat → Bool) (k n0 : Nat) (v0 : Int) (v1 : Int) (v2 : List (Int × (Int × (Int × (Int × (Bool × Int)))))) : w_markArnNodeS_j13 γ k n0 v0 v1 v2 =
  (if (0:Int) ≤ v1 ∧ v1 < (List.length v2 : Int) then
  (gate (γ 15) (w_markArnNodeS_j15 γ k n0 (W (v0 + (1:Int))) v1 (v2.set (Int.toNat v1) ((v2.getD (Int.toNat v1) ((0:Int), ((0:Int), ((0:Int), ((0:Int), (false, (0:Int))))))).1, ((v2.getD (Int.toNat v1) ((0:Int), ((0:Int), ((0:Int), ((0:Int), (false, (0:Int))))))).2.1, ((v2.getD (Int.toNat v1) ((0:Int), ((0:Int), ((0:Int), ((0:Int), (false, (0:Int))))))).2.2.1, ((v2.getD (Int.toNat v1) ((0:Int), ((0:Int), ((0:Int), ((0:Int), (false, (0:Int))))))).2.2.2.1, ((v2.getD (Int.toNat v1) ((0:Int), ((0:Int), ((0:Int), ((0:Int), (false, (0:Int))))))).2.2.2.2.1, (W (v0 + (1:Int)))))))))))
 else none) := by kernel_rfl
theorem w_markArnNodeS_j11_eq (γ : Nat → Bool) (k n0 : Nat) (v0 : Int) (v1 : Int) (v2 : List (Int × (Int × (Int × (Int × (Bool × Int)))))) : w_markArnNodeS_j11 γ k n0 v0 v1 v2 =
  (if (0:Int) ≤ v1 ∧ v1 < (List.length v2 : Int) then
  (gate (γ 13) (w_markArnNodeS_j13 γ k n0 (W (v0 + (1:Int))) v1 (v2.set (Int.toNat v1) ((v2.getD (Int.toNat v1) ((0:Int), ((0:Int), ((0:Int), ((0:Int), (false, (0:Int))))))).1, ((v2.getD (Int.toNat v1) ((0:Int), ((0:Int), ((0:Int), ((0:Int), (false, (0:Int))))))).2.1, ((v2.getD (Int.toNat v1) ((0:Int), ((0:Int), ((0:Int), ((0:Int), (false, (0:Int))))))).2.2.1, ((v2.getD (Int.toNat v1) ((0:Int), ((0:Int), ((0:Int), ((0:Int), (false, (0:Int))))))).2.2.2.1, ((decide ((Int.tmod (W (v0 + (1:Int))) (3:Int)) = (0:Int))), (v2.getD (Int.toNat v1) ((0:Int), ((0:Int), ((0:Int), ((0:Int), (false, (0:Int))))))).2.2.2.2.2))))))))
 else none) := by kernel_rfl
theorem w_markArnNodeS_j9_eq (γ : Nat → Bool) (k n0 : Nat) (v0 : Int) (v1 : Int) (v2 : List (Int × (Int × (Int × (Int × (Bool × Int)))))) : w_markArnNodeS_j9 γ k n0 v0 v1 v2 =
  (if (0:Int) ≤ v1 ∧ v1 < (List.length v2 : Int) then
  (gate (γ 11) (w_markArnNodeS_j11 γ k n0 (W (v0 + (1:Int))) v1 (v2.set (Int.toNat v1) ((v2.getD (Int.toNat v1) ((0:Int), ((0:Int), ((0:Int), ((0:Int), (false, (0:Int))))))).1, ((v2.getD (Int.toNat v1) ((0:Int), ((0:Int), ((0:Int), ((0:Int), (false, (0:Int))))))).2.1, ((v2.getD (Int.toNat v1) ((0:Int), ((0:Int), ((0:Int), ((0:Int), (false, (0:Int))))))).2.2.1, ((W (v0 + (1:Int))), ((v2.getD (Int.toNat v1) ((0:Int), ((0:Int), ((0:Int), ((0:Int), (false, (0:Int))))))).2.2.2.2.1, (v2.getD (Int.toNat v1) ((0:Int), ((0:Int), ((0:Int), ((0:Int), (false, (0:Int))))))).2.2.2.2.2))))))))
 else none) := by kernel_rfl
theorem w_markArnNodeS_j7_eq (γ : Nat → Bool) (k n0 : Nat) (v0 : Int) (v1 : Int) (v2 : List (Int × (Int × (Int × (Int × (Bool × Int)))))) : w_markArnNodeS_j7 γ k n0 v0 v1 v2 =
  (if (0:Int) ≤ v1 ∧ v1 < (List.length v2 : Int) then
  (gate (γ 9) (w_markArnNodeS_j9 γ k n0 (W (v0 + (1:Int))) v1 (v2.set (Int.toNat v1) ((v2.getD (Int.toNat v1) ((0:Int), ((0:Int), ((0:Int), ((0:Int), (false, (0:Int))))))).1, ((v2.getD (Int.toNat v1) ((0:Int), ((0:Int), ((0:Int), ((0:Int), (false, (0:Int))))))).2.1, ((W (v0 + (1:Int))), ((v2.getD (Int.toNat v1) ((0:Int), ((0:Int), ((0:Int), ((0:Int), (false, (0:Int))))))).2.2.2.1, ((v2.getD (Int.toNat v1) ((0:Int), ((0:Int), ((0:Int), ((0:Int), (false, (0:Int))))))).2.2.2.2.1, (v2.getD (Int.toNat v1) ((0:Int), ((0:Int), ((0:Int), ((0:Int), (false, (0:Int))))))).2.2.2.2.2))))))))
 else none) := by kernel_rfl
theorem w_markArnNodeS_j5_eq (γ : Nat → Bool) (k n0 : Nat) (v0 : Int) (v1 : Int) (v2 : List (Int × (Int × (Int × (Int × (Bool × Int)))))) : w_markArnNodeS_j5 γ k n0 v0 v1 v2 =
  (if (0:Int) ≤ v1 ∧ v1 < (List.length v2 : Int) then
  (gate (γ 7) (w_markArnNodeS_j7 γ k n0 (W (v0 + (1:Int))) v1 (v2.set (Int.toNat v1) ((v2.getD (Int.toNat v1) ((0:Int), ((0:Int), ((0:Int), ((0:Int), (false, (0:Int))))))).1, ((W (v0 + (1:Int))), ((v2.getD (Int.toNat v1) ((0:Int), ((0:Int), ((0:Int), ((0:Int), (false, (0:Int))))))).2.2.1, ((v2.getD (Int.toNat v1) ((0:Int), ((0:Int), ((0:Int), ((0:Int), (false, (0:Int))))))).2.2.2.1, ((v2.getD (Int.toNat v1) ((0:Int), ((0:Int), ((0:Int), ((0:Int), (false, (0:Int))))))).2.2.2.2.1, (v2.getD (Int.toNat v1) ((0:Int), ((0:Int), ((0:Int), ((0:Int), (false, (0:Int))))))).2.2.2.2.2))))))))
 else none) := by kernel_rfl
theorem w_markArnNodeS_l2_0 (γ : Nat → Bool) (k : Nat) (v0 : Int) (v1 : Int) (v2 : List (Int × (Int × (Int × (Int × (Bool × Int)))))) : w_markArnNodeS_l2 γ k 0 v0 v1 v2 = none := by kernel_rfl
theorem w_markArnNodeS_l2_s (γ : Nat → Bool) (k n0 : Nat) (v0 : Int) (v1 : Int) (v2 : List (Int × (Int × (Int × (Int × (Bool × Int)))))) : w_markArnNodeS_l2 γ k (n0 + 1) v0 v1 v2 =
  (if (decide (v1 < (List.length v2 : Int))) = true then
  (if (0:Int) ≤ v1 ∧ v1 < (List.length v2 : Int) then
  (gate (γ 5) (w_markArnNodeS_j5 γ k n0 v0 v1 (v2.set (Int.toNat v1) (v0, ((v2.getD (Int.toNat v1) ((0:Int), ((0:Int), ((0:Int), ((0:Int), (false, (0:Int))))))).2.1, ((v2.getD (Int.toNat v1) ((0:Int), ((0:Int), ((0:Int), ((0:Int), (false, (0:Int))))))).2.2.1, ((v2.getD (Int.toNat v1) ((0:Int), ((0:Int), ((0:Int), ((0:Int), (false, (0:Int))))))).2.2.2.1, ((v2.getD (Int.toNat v1) ((0:Int), ((0:Int), ((0:Int), ((0:Int), (false, (0:Int))))))).2.2.2.2.1, (v2.getD (Int.toNat v1) ((0:Int), ((0:Int), ((0:Int), ((0:Int), (false, (0:Int))))))).2.2.2.2.2))))))))
 else none)
 else
  (some (v0, v2, ()))) := by kernel_rfl
theorem w_markArnNodeSg_eq (γ : Nat → Bool) (k : Nat) (x0 : Int) (x1 : List (Int × (Int × (Int × (Int × (Bool × Int)))))) : w_markArnNodeSg γ k x0 x1 =
  (w_markArnNodeS_l2 γ k k x0 (0:Int) x1) := by kernel_rfl
theorem w_markArnNodeS_eq (k : Nat) (x0 : Int) (x1 : List (Int × (Int × (Int × (Int × (Bool × Int)))))) : w_markArnNodeS k x0 x1 = w_markArnNodeSg (fun _ => true) k x0 x1 := rfl
noncomputable def w_markArnNodeS_G (k : Nat) : Dt w_markArnNodeS_i → Option (Dt w_markArnNodeS_o) := fun x => w_markArnNodeS k x.1 x.2.1
theorem w_markArnNodeS_c (k : Nat) : Comes1 (w_markArnNodeS_T (fun _ => true) k) Try.f71 w_markArnNodeS_i w_markArnNodeS_o (w_markArnNodeS_G k) := fun x => by kernel_rfl
noncomputable def w_markArnNodeS_E (k : Nat) : Env := (w_eqArnArena_E k).with 71 w_markArnNodeS_i w_markArnNodeS_o (w_markArnNodeS_G k)
theorem w_markArnNodeS_ok (k : Nat) : EnvOk Try.prog (w_markArnNodeS_E k) := (w_eqArnArena_ok k).with mixed (by decide) (by kernel_rfl) (by kernel_rfl) (w_markArnNodeS_c k) (by kernel_rfl)
/-! ### loop.example/tuggers/laws.markArnArena -/
@[reducible] def w_markArnArena_i : Sh := ⟨[.c (.agg [.own 0, .int .i64, .int .i64, .int .i64]), .c (.leaf (.int .i64))], [(0, .rows 113 q0)]⟩
@[reducible] def w_markArnArena_o : Sh := ⟨[.c (.leaf (.int .i64))], [(0, .rows 113 q0)]⟩
noncomputable def w_markArnArena_T (k : Nat) : Env := ((w_markArnNodeS_E k).at 1 k [] [] []).gated (fun _ => true)
noncomputable def w_markArnArena (k : Nat) (x0 : Int) (x1 : Int) (x2 : Int) (x3 : Int) (x4 : List (Int × (Int × (Int × (Int × (Bool × Int)))))) : Option (Dt w_markArnArena_o) := evFn (w_markArnArena_T k) Try.f19 [.c (.agg [.own 0, .int .i64 x0, .int .i64 x1, .int .i64 x2]), .c (.leaf (.int .i64 x3))] [(0, .rows 113 q0 x4)] (unOut w_markArnArena_o)
theorem w_markArnArena_eq (k : Nat) (x0 : Int) (x1 : Int) (x2 : Int) (x3 : Int) (x4 : List (Int × (Int × (Int × (Int × (Bool × Int)))))) : w_markArnArena k x0 x1 x2 x3 x4 =
  ((w_markArnNodeS k x3 x4).bind fun y1 =>
  (some (y1.1, y1.2.1, ()))) := by kernel_rfl
noncomputable def w_markArnArena_G (k : Nat) : Dt w_markArnArena_i → Option (Dt w_markArnArena_o) := fun x => w_markArnArena k x.1 x.2.1 x.2.2.1 x.2.2.2.1 x.2.2.2.2.1
theorem w_markArnArena_c (k : Nat) : Comes1 (w_markArnArena_T k) Try.f19 w_markArnArena_i w_markArnArena_o (w_markArnArena_G k) := fun x => by kernel_rfl
noncomputable def w_markArnArena_E (k : Nat) : Env := (w_markArnNodeS_E k).with 19 w_markArnArena_i w_markArnArena_o (w_markArnArena_G k)
theorem w_markArnArena_ok (k : Nat) : EnvOk Try.prog (w_markArnArena_E k) := (w_markArnNodeS_ok k).with mixed (by decide) (by kernel_rfl) (by kernel_rfl) (w_markArnArena_c k) (by kernel_rfl)
/-! ### loop.example/tuggers/laws.markIntS -/
@[reducible] def w_markIntS_i : Sh := ⟨[.c (.leaf (.own 0)), .c (.leaf (.int .i64))], [(0, .rows 3 (.int .i64))]⟩
@[reducible] def w_markIntS_o : Sh := ⟨[.c (.leaf (.int .i64))], [(0, .rows 3 (.int .i64))]⟩
noncomputable def w_markIntS_T (k : Nat) : Env := ((w_markArnArena_E k).at 1 k [] [(2, ⟨[0, 1, 5], []⟩)] []).gated (fun _ => true)
noncomputable def w_markIntS_l2 (k n0 : Nat) (v0 : Int) (v1 : Int) (v2 : List Int) : Option (Dt w_markIntS_o) := atLoop (w_markIntS_T k) (subF Try.f20 [.r, .l, .r, .l]) n0 ⟨tml 19 [(0, .c (.leaf (.own 0))), (1, .c (.leaf (.int .i64 v0))), (5, .c (.leaf (.int .i64 v1)))], [(0, .rows 3 (.int .i64) v2)]⟩ (kbl (subF Try.f20 [.r, .l, .r]) (ksq (w_markIntS_T k) (subF Try.f20 [.r]) (kret (w_markIntS_T k) Try.f20.results.toList (unOut w_markIntS_o))))
noncomputable def w_markIntS (k : Nat) (x0 : Int) (x1 : List Int) : Option (Dt w_markIntS_o) := evFn (w_markIntS_T k) Try.f20 [.c (.leaf (.own 0)), .c (.leaf (.int .i64 x0))] [(0, .rows 3 (.int .i64) x1)] (unOut w_markIntS_o)
theorem w_markIntS_l2_0 (k : Nat) (v0 : Int) (v1 : Int) (v2 : List Int) : w_markIntS_l2 k 0 v0 v1 v2 = none := by kernel_rfl
theorem w_markIntS_l2_s (k n0 : Nat) (v0 : Int) (v1 : Int) (v2 : List Int) : w_markIntS_l2 k (n0 + 1) v0 v1 v2 =
  (if (decide (v1 < (List.length v2 : Int))) = true then
  (if (0:Int) ≤ v1 ∧ v1 < (List.length v2 : Int) then
  (w_markIntS_l2 k n0 (W (v0 + (1:Int))) (W (v1 + (1:Int))) (v2.set (Int.toNat v1) v0))
 else none)
 else
  (some (v0, v2, ()))) := by kernel_rfl
theorem w_markIntS_eq (k : Nat) (x0 : Int) (x1 : List Int) : w_markIntS k x0 x1 =
  (w_markIntS_l2 k k x0 (0:Int) x1) := by kernel_rfl
noncomputable def w_markIntS_G (k : Nat) : Dt w_markIntS_i → Option (Dt w_markIntS_o) := fun x => w_markIntS k x.1 x.2.1
theorem w_markIntS_c (k : Nat) : Comes1 (w_markIntS_T k) Try.f20 w_markIntS_i w_markIntS_o (w_markIntS_G k) := fun x => by kernel_rfl
noncomputable def w_markIntS_E (k : Nat) : Env := (w_markArnArena_E k).with 20 w_markIntS_i w_markIntS_o (w_markIntS_G k)
theorem w_markIntS_ok (k : Nat) : EnvOk Try.prog (w_markIntS_E k) := (w_markArnArena_ok k).with mixed (by decide) (by kernel_rfl) (by kernel_rfl) (w_markIntS_c k) (by kernel_rfl)
/-! ### loop.example/tuggers/laws.heldIntS -/
@[reducible] def w_heldIntS_i : Sh := ⟨[.c (.leaf (.ro (.int .i64))), .c (.leaf (.int .i64))], []⟩
@[reducible] def w_heldIntS_o : Sh := ⟨[.c (.leaf (.int .i64))], []⟩
noncomputable def w_heldIntS_T (k : Nat) : Env := ((w_markIntS_E k).at 0 k [] [(2, ⟨[0, 1, 5], []⟩)] []).gated (fun _ => true)
noncomputable def w_heldIntS_l2 (k n0 : Nat) (v0 : List Int) (v1 : Int) (v2 : Int) : Option (Dt w_heldIntS_o) := atLoop (w_heldIntS_T k) (subF Try.f21 [.r, .l, .r, .l]) n0 ⟨tml 21 [(0, .c (.leaf (.ro (.int .i64) v0))), (1, .c (.leaf (.int .i64 v1))), (5, .c (.leaf (.int .i64 v2)))], []⟩ (kbl (subF Try.f21 [.r, .l, .r]) (ksq (w_heldIntS_T k) (subF Try.f21 [.r]) (kret (w_heldIntS_T k) Try.f21.results.toList (unOut w_heldIntS_o))))
noncomputable def w_heldIntS (k : Nat) (x0 : List Int) (x1 : Int) : Option (Dt w_heldIntS_o) := evFn (w_heldIntS_T k) Try.f21 [.c (.leaf (.ro (.int .i64) x0)), .c (.leaf (.int .i64 x1))] [] (unOut w_heldIntS_o)
theorem w_heldIntS_l2_0 (k : Nat) (v0 : List Int) (v1 : Int) (v2 : Int) : w_heldIntS_l2 k 0 v0 v1 v2 = none := by kernel_rfl
theorem w_heldIntS_l2_s (k n0 : Nat) (v0 : List Int) (v1 : Int) (v2 : Int) : w_heldIntS_l2 k (n0 + 1) v0 v1 v2 =
  (if (decide (v2 < (List.length v0 : Int))) = true then
  (if (0:Int) ≤ v2 ∧ v2 < (List.length v0 : Int) then
  (if (decide (¬ (v0.getD (Int.toNat v2) (0:Int)) = v1)) = true then
  (some ((-1:Int), ()))
 else
  (w_heldIntS_l2 k n0 v0 (W (v1 + (1:Int))) (W (v2 + (1:Int)))))
 else none)
 else
  (some (v1, ()))) := by kernel_rfl
theorem w_heldIntS_eq (k : Nat) (x0 : List Int) (x1 : Int) : w_heldIntS k x0 x1 =
  (w_heldIntS_l2 k k x0 x1 (0:Int)) := by kernel_rfl
noncomputable def w_heldIntS_G (k : Nat) : Dt w_heldIntS_i → Option (Dt w_heldIntS_o) := fun x => w_heldIntS k x.1 x.2.1
theorem w_heldIntS_c (k : Nat) : Comes1 (w_heldIntS_T k) Try.f21 w_heldIntS_i w_heldIntS_o (w_heldIntS_G k) := fun x => by kernel_rfl
noncomputable def w_heldIntS_E (k : Nat) : Env := (w_markIntS_E k).with 21 w_heldIntS_i w_heldIntS_o (w_heldIntS_G k)
theorem w_heldIntS_ok (k : Nat) : EnvOk Try.prog (w_heldIntS_E k) := (w_markIntS_ok k).with mixed (by decide) (by kernel_rfl) (by kernel_rfl) (w_heldIntS_c k) (by kernel_rfl)
end Go.Proofs.Ytiooamodldgalaa.Abs
