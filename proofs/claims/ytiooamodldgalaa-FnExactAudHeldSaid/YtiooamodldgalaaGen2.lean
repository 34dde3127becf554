/-
Plain functions that the program's functions come to, with their equations; part 2.
-/
import Derived.Test.YtiooamodldgalaaGen1
set_option maxRecDepth 100000
set_option linter.unusedVariables false
namespace Go.Proofs.Ytiooamodldgalaa.Abs
open Go Go.Proofs.Try
/-! ### loop.example/tuggers/laws.FnExactArnStack -/
@[reducible] def w_FnExactArnStack_i : Sh := ⟨[.c (.agg [.ro q0, .int .i64, .int .i64, .int .i64])], []⟩
@[reducible] def w_FnExactArnStack_o : Sh := ⟨[.c (.leaf (.bool))], []⟩
noncomputable def w_FnExactArnStack_T (k : Nat) : Env := ((w_heldIntS_E k).at 0 k [] [] []).gated (fun _ => true)
noncomputable def w_FnExactArnStack (k : Nat) (x0 : List (Int × (Int × (Int × (Int × (Bool × Int)))))) (x1 : Int) (x2 : Int) (x3 : Int) : Option (Dt w_FnExactArnStack_o) := evFn (w_FnExactArnStack_T k) Try.f3 [.c (.agg [.ro q0 x0, .int .i64 x1, .int .i64 x2, .int .i64 x3])] [] (unOut w_FnExactArnStack_o)
theorem w_FnExactArnStack_eq (k : Nat) (x0 : List (Int × (Int × (Int × (Int × (Bool × Int)))))) (x1 : Int) (x2 : Int) (x3 : Int) : w_FnExactArnStack k x0 x1 x2 x3 =
  ((w_szArnArena k x0 x1 x2 x3 (1048576:Int)).bind fun y1 =>
  (if (decide (y1.1 < (0:Int))) = true then
  (some (true, ()))
 else
  ((w_toArnArena k x0 x1 x2 x3).bind fun y2 =>
  ((s_ArnStack k y2.2.2.2.1 y2.1 y2.2.1 y2.2.2.1).bind fun y3 =>
  ((w_toArnArena k x0 x1 x2 x3).bind fun y4 =>
  ((i_ArnStack k y4.2.2.2.1 y4.1 y4.2.1 y4.2.2.1).bind fun y5 =>
  ((w_eqIntS k y5.1 y3.1).bind fun y6 =>
  (if (!y6.1) = true then
  (some (false, ()))
 else
  ((w_toArnArena k x0 x1 x2 x3).bind fun y7 =>
  ((w_eqArnArena k y4.2.2.2.1 y4.1 y4.2.1 y4.2.2.1 y7.2.2.2.1 y7.1 y7.2.1 y7.2.2.1).bind fun y8 =>
  (if (!y8.1) = true then
  (some (false, ()))
 else
  ((w_markArnArena k y4.1 y4.2.1 y4.2.2.1 (1:Int) y4.2.2.2.1).bind fun y9 =>
  (if (decide (y9.1 < (0:Int))) = true then
  (some (false, ()))
 else
  ((w_eqIntS k y5.1 y3.1).bind fun y10 =>
  (if (!y10.1) = true then
  (some (false, ()))
 else
  ((w_markIntS k (1:Int) y5.1).bind fun y11 =>
  ((w_heldIntS k y11.2.1 (1:Int)).bind fun y12 =>
  (if (decide (y12.1 < (0:Int))) = true then
  (some (false, ()))
 else
  (if (decide (¬ y12.1 = y11.1)) = true then
  (some (false, ()))
 else
  ((w_toArnArena k x0 x1 x2 x3).bind fun y13 =>
  ((i_ArnStack k y13.2.2.2.1 y13.1 y13.2.1 y13.2.2.1).bind fun y14 =>
  ((w_eqIntS k y14.1 y3.1).bind fun y15 =>
  (if (!y15.1) = true then
  (some (false, ()))
 else
  ((w_heldIntS k y11.2.1 (1:Int)).bind fun y16 =>
  (if (decide (y16.1 < (0:Int))) = true then
  (some (false, ()))
 else
  (if (decide (¬ y16.1 = y11.1)) = true then
  (some (false, ()))
 else
  (some (true, ())))))))))))))))))))))))))))) := by kernel_rfl
noncomputable def w_FnExactArnStack_G (k : Nat) : Dt w_FnExactArnStack_i → Option (Dt w_FnExactArnStack_o) := fun x => w_FnExactArnStack k x.1 x.2.1 x.2.2.1 x.2.2.2.1
theorem w_FnExactArnStack_c (k : Nat) : Comes1 (w_FnExactArnStack_T k) Try.f3 w_FnExactArnStack_i w_FnExactArnStack_o (w_FnExactArnStack_G k) := fun x => by kernel_rfl
noncomputable def w_FnExactArnStack_E (k : Nat) : Env := (w_heldIntS_E k).with 3 w_FnExactArnStack_i w_FnExactArnStack_o (w_FnExactArnStack_G k)
theorem w_FnExactArnStack_ok (k : Nat) : EnvOk Try.prog (w_FnExactArnStack_E k) := (w_heldIntS_ok k).with mixed (by decide) (by kernel_rfl) (by kernel_rfl) (w_FnExactArnStack_c k) (by kernel_rfl)
/-! ### loop.example/tuggers/spec.ArnMap -/
@[reducible] def s_ArnMap_i : Sh := ⟨[.c (.agg [.ro q0, .int .i64, .int .i64, .int .i64])], []⟩
@[reducible] def s_ArnMap_o : Sh := ⟨[.c (.agg [.own 0])], [(0, .rows 116 q1)]⟩
noncomputable def s_ArnMap_T (k : Nat) : Env := ((w_FnExactArnStack_E k).at 0 k [(7, ⟨[1, 2, 3, 4, 5], []⟩)] [(6, ⟨[1, 2, 3, 4, 5], [⟨1, true, 0, 113, q0⟩, ⟨2, true, 0, 116, q1⟩, ⟨3, true, 0, 116, q1⟩, ⟨4, false, 0, 3, (.int .i64)⟩]⟩)] [⟨2, true, 0, 116, q1⟩]).gated (fun _ => true)
noncomputable def s_ArnMap_j7 (k n0 : Nat) (v0 : Int) (v1 : List (Int × (Int × (Int × (Int × (Bool × Int)))))) (v2 : Int) (v3 : Int) (v4 : Int) (v5 : List Int) (v6 : List (Int × Int)) (v7 : List (Int × Int)) : Option (Dt s_ArnMap_o) := atRegion (s_ArnMap_T k) (subF Try.f22 [.r, .r, .r, .r, .l, .r, .l, .l, .r, .r]) ⟨tml 43 [(1, .c (.leaf (.ptr 0 0))), (2, .c (.leaf (.ptr 1 0))), (3, .c (.leaf (.ptr 2 0))), (4, .c (.leaf (.own 3))), (5, .c (.leaf (.int .i64 v0)))], [(0, .cells 30 [.ro q0 v1, .int .i64 v2, .int .i64 v3, .int .i64 v4]), (1, .cells 39 [.own 4]), (2, .cells 39 [.own 5]), (3, .rows 3 (.int .i64) v5), (4, .rows 116 q1 v6), (5, .rows 116 q1 v7)]⟩ (klp (s_ArnMap_T k) (subF Try.f22 [.r, .r, .r, .r, .l, .r, .l]) n0 (kbl (subF Try.f22 [.r, .r, .r, .r, .l, .r]) (ksq (s_ArnMap_T k) (subF Try.f22 [.r, .r, .r, .r]) (kret (s_ArnMap_T k) Try.f22.results.toList (unOut s_ArnMap_o)))))
noncomputable def s_ArnMap_l6 (k n0 : Nat) (v0 : Int) (v1 : List (Int × (Int × (Int × (Int × (Bool × Int)))))) (v2 : Int) (v3 : Int) (v4 : Int) (v5 : List Int) (v6 : List (Int × Int)) (v7 : List (Int × Int)) : Option (Dt s_ArnMap_o) := atLoop (s_ArnMap_T k) (subF Try.f22 [.r, .r, .r, .r, .l, .r, .l]) n0 ⟨tml 43 [(1, .c (.leaf (.ptr 0 0))), (2, .c (.leaf (.ptr 1 0))), (3, .c (.leaf (.ptr 2 0))), (4, .c (.leaf (.own 3))), (5, .c (.leaf (.int .i64 v0)))], [(0, .cells 30 [.ro q0 v1, .int .i64 v2, .int .i64 v3, .int .i64 v4]), (1, .cells 39 [.own 4]), (2, .cells 39 [.own 5]), (3, .rows 3 (.int .i64) v5), (4, .rows 116 q1 v6), (5, .rows 116 q1 v7)]⟩ (kbl (subF Try.f22 [.r, .r, .r, .r, .l, .r]) (ksq (s_ArnMap_T k) (subF Try.f22 [.r, .r, .r, .r]) (kret (s_ArnMap_T k) Try.f22.results.toList (unOut s_ArnMap_o))))
noncomputable def s_ArnMap (k : Nat) (x0 : List (Int × (Int × (Int × (Int × (Bool × Int)))))) (x1 : Int) (x2 : Int) (x3 : Int) : Option (Dt s_ArnMap_o) := evFn (s_ArnMap_T k) Try.f22 [.c (.agg [.ro q0 x0, .int .i64 x1, .int .i64 x2, .int .i64 x3])] [] (unOut s_ArnMap_o)
theorem s_ArnMap_j7_eq (k n0 : Nat) (v0 : Int) (v1 : List (Int × (Int × (Int × (Int × (Bool × Int)))))) (v2 : Int) (v3 : Int) (v4 : Int) (v5 : List Int) (v6 : List (Int × Int)) (v7 : List (Int × Int)) : s_ArnMap_j7 k n0 v0 v1 v2 v3 v4 v5 v6 v7 =
  (s_ArnMap_l6 k n0 (W (v0 + (1:Int))) v1 v2 v3 v4 v5 v6 v7) := by kernel_rfl
theorem s_ArnMap_l6_0 (k : Nat) (v0 : Int) (v1 : List (Int × (Int × (Int × (Int × (Bool × Int)))))) (v2 : Int) (v3 : Int) (v4 : Int) (v5 : List Int) (v6 : List (Int × Int)) (v7 : List (Int × Int)) : s_ArnMap_l6 k 0 v0 v1 v2 v3 v4 v5 v6 v7 = none := by kernel_rfl
theorem s_ArnMap_l6_s (k n0 : Nat) (v0 : Int) (v1 : List (Int × (Int × (Int × (Int × (Bool × Int)))))) (v2 : Int) (v3 : Int) (v4 : Int) (v5 : List Int) (v6 : List (Int × Int)) (v7 : List (Int × Int)) : s_ArnMap_l6 k (n0 + 1) v0 v1 v2 v3 v4 v5 v6 v7 =
  (if (decide (v0 < (List.length v5 : Int))) = true then
  (if (0:Int) ≤ v0 ∧ v0 < (List.length v5 : Int) then
  (if (0:Int) ≤ (v5.getD (Int.toNat v0) (0:Int)) ∧ (v5.getD (Int.toNat v0) (0:Int)) < (List.length v1 : Int) then
  ((s_WrdMark k (v1.getD (Int.toNat (v5.getD (Int.toNat v0) (0:Int))) ((0:Int), ((0:Int), ((0:Int), ((0:Int), (false, (0:Int))))))).2.2.1).bind fun y3 =>
  (if (!y3.1) = true then
  (if List.length v7 + List.length [((v1.getD (Int.toNat (v5.getD (Int.toNat v0) (0:Int))) ((0:Int), ((0:Int), ((0:Int), ((0:Int), (false, (0:Int))))))).1, (v1.getD (Int.toNat (v5.getD (Int.toNat v0) (0:Int))) ((0:Int), ((0:Int), ((0:Int), ((0:Int), (false, (0:Int))))))).2.1)] ≤ LB then
  (s_ArnMap_j7 k n0 v0 v1 v2 v3 v4 v5 v6 (v7 ++ [((v1.getD (Int.toNat (v5.getD (Int.toNat v0) (0:Int))) ((0:Int), ((0:Int), ((0:Int), ((0:Int), (false, (0:Int))))))).1, (v1.getD (Int.toNat (v5.getD (Int.toNat v0) (0:Int))) ((0:Int), ((0:Int), ((0:Int), ((0:Int), (false, (0:Int))))))).2.1)]))
 else none)
 else
  (s_ArnMap_j7 k n0 v0 v1 v2 v3 v4 v5 v6 v7)))
 else none)
 else none)
 else
  (some (v7, ()))) := by kernel_rfl
theorem s_ArnMap_eq (k : Nat) (x0 : List (Int × (Int × (Int × (Int × (Bool × Int)))))) (x1 : Int) (x2 : Int) (x3 : Int) : s_ArnMap k x0 x1 x2 x3 =
  ((s_ArnOk k x0 x1 x2 x3).bind fun y1 =>
  (if (!y1.1) = true then
  (some (([] : List (Int × Int)), ()))
 else
  ((s_ArnChain k x0 x1 x2 x3).bind fun y2 =>
  (s_ArnMap_l6 k k (0:Int) x0 x1 x2 x3 y2.1 ([] : List (Int × Int)) ([] : List (Int × Int)))))) := by kernel_rfl
noncomputable def s_ArnMap_G (k : Nat) : Dt s_ArnMap_i → Option (Dt s_ArnMap_o) := fun x => s_ArnMap k x.1 x.2.1 x.2.2.1 x.2.2.2.1
theorem s_ArnMap_c (k : Nat) : Comes1 (s_ArnMap_T k) Try.f22 s_ArnMap_i s_ArnMap_o (s_ArnMap_G k) := fun x => by kernel_rfl
noncomputable def s_ArnMap_E (k : Nat) : Env := (w_FnExactArnStack_E k).with 22 s_ArnMap_i s_ArnMap_o (s_ArnMap_G k)
theorem s_ArnMap_ok (k : Nat) : EnvOk Try.prog (s_ArnMap_E k) := (w_FnExactArnStack_ok k).with mixed (by decide) (by kernel_rfl) (by kernel_rfl) (s_ArnMap_c k) (by kernel_rfl)
/-! ### loop.example/tuggers/impl.ArnMap -/
@[reducible] def i_ArnMap_i : Sh := ⟨[.c (.agg [.ro q0, .int .i64, .int .i64, .int .i64])], []⟩
@[reducible] def i_ArnMap_o : Sh := ⟨[.c (.agg [.own 0])], [(0, .rows 116 q1)]⟩
noncomputable def i_ArnMap_T (k : Nat) : Env := ((s_ArnMap_E k).at 0 k [(10, ⟨[1, 2, 3, 12, 13, 14], []⟩)] [(5, ⟨[1, 2, 3, 12, 13, 14], [⟨1, true, 0, 113, q0⟩, ⟨2, true, 0, 116, q1⟩, ⟨3, true, 0, 116, q1⟩, ⟨12, false, 0, 3, (.int .i64)⟩]⟩)] [⟨2, true, 0, 116, q1⟩]).gated (fun _ => true)
noncomputable def i_ArnMap_j10 (k n0 : Nat) (v0 : Int) (v1 : Int) (v2 : List (Int × (Int × (Int × (Int × (Bool × Int)))))) (v3 : Int) (v4 : Int) (v5 : Int) (v6 : List Int) (v7 : List (Int × Int)) (v8 : List (Int × Int)) : Option (Dt i_ArnMap_o) := atRegion (i_ArnMap_T k) (subF Try.f23 [.r, .r, .r, .l, .r, .l, .l, .r, .r, .r]) ⟨tml 39 [(1, .c (.leaf (.ptr 0 0))), (2, .c (.leaf (.ptr 1 0))), (3, .c (.leaf (.ptr 2 0))), (12, .c (.leaf (.own 3))), (13, .c (.leaf (.int .i64 v0))), (14, .c (.leaf (.int .i64 v1)))], [(0, .cells 30 [.ro q0 v2, .int .i64 v3, .int .i64 v4, .int .i64 v5]), (1, .cells 39 [.own 4]), (2, .cells 39 [.own 5]), (3, .rows 3 (.int .i64) v6), (4, .rows 116 q1 v7), (5, .rows 116 q1 v8)]⟩ (klp (i_ArnMap_T k) (subF Try.f23 [.r, .r, .r, .l, .r, .l]) n0 (kbl (subF Try.f23 [.r, .r, .r, .l, .r]) (ksq (i_ArnMap_T k) (subF Try.f23 [.r, .r, .r]) (kret (i_ArnMap_T k) Try.f23.results.toList (unOut i_ArnMap_o)))))
noncomputable def i_ArnMap_l5 (k n0 : Nat) (v0 : Int) (v1 : Int) (v2 : List (Int × (Int × (Int × (Int × (Bool × Int)))))) (v3 : Int) (v4 : Int) (v5 : Int) (v6 : List Int) (v7 : List (Int × Int)) (v8 : List (Int × Int)) : Option (Dt i_ArnMap_o) := atLoop (i_ArnMap_T k) (subF Try.f23 [.r, .r, .r, .l, .r, .l]) n0 ⟨tml 39 [(1, .c (.leaf (.ptr 0 0))), (2, .c (.leaf (.ptr 1 0))), (3, .c (.leaf (.ptr 2 0))), (12, .c (.leaf (.own 3))), (13, .c (.leaf (.int .i64 v0))), (14, .c (.leaf (.int .i64 v1)))], [(0, .cells 30 [.ro q0 v2, .int .i64 v3, .int .i64 v4, .int .i64 v5]), (1, .cells 39 [.own 4]), (2, .cells 39 [.own 5]), (3, .rows 3 (.int .i64) v6), (4, .rows 116 q1 v7), (5, .rows 116 q1 v8)]⟩ (kbl (subF Try.f23 [.r, .r, .r, .l, .r]) (ksq (i_ArnMap_T k) (subF Try.f23 [.r, .r, .r]) (kret (i_ArnMap_T k) Try.f23.results.toList (unOut i_ArnMap_o))))
noncomputable def i_ArnMap (k : Nat) (x0 : List (Int × (Int × (Int × (Int × (Bool × Int)))))) (x1 : Int) (x2 : Int) (x3 : Int) : Option (Dt i_ArnMap_o) := evFn (i_ArnMap_T k) Try.f23 [.c (.agg [.ro q0 x0, .int .i64 x1, .int .i64 x2, .int .i64 x3])] [] (unOut i_ArnMap_o)
theorem i_ArnMap_j10_eq (k n0 : Nat) (v0 : Int) (v1 : Int) (v2 : List (Int × (Int × (Int × (Int × (Bool × Int)))))) (v3 : Int) (v4 : Int) (v5 : Int) (v6 : List Int) (v7 : List (Int × Int)) (v8 : List (Int × Int)) : i_ArnMap_j10 k n0 v0 v1 v2 v3 v4 v5 v6 v7 v8 =
  (i_ArnMap_l5 k n0 v0 (W (v1 + (1:Int))) v2 v3 v4 v5 v6 v7 v8) := by kernel_rfl
theorem i_ArnMap_l5_0 (k : Nat) (v0 : Int) (v1 : Int) (v2 : List (Int × (Int × (Int × (Int × (Bool × Int)))))) (v3 : Int) (v4 : Int) (v5 : Int) (v6 : List Int) (v7 : List (Int × Int)) (v8 : List (Int × Int)) : i_ArnMap_l5 k 0 v0 v1 v2 v3 v4 v5 v6 v7 v8 = none := by kernel_rfl
theorem i_ArnMap_l5_s (k n0 : Nat) (v0 : Int) (v1 : Int) (v2 : List (Int × (Int × (Int × (Int × (Bool × Int)))))) (v3 : Int) (v4 : Int) (v5 : Int) (v6 : List Int) (v7 : List (Int × Int)) (v8 : List (Int × Int)) : i_ArnMap_l5 k (n0 + 1) v0 v1 v2 v3 v4 v5 v6 v7 v8 =
  (if (decide (v1 < v0)) = true then
  (if (0:Int) ≤ v1 ∧ v1 < (List.length v6 : Int) then
  (if (0:Int) ≤ (v6.getD (Int.toNat v1) (0:Int)) ∧ (v6.getD (Int.toNat v1) (0:Int)) < (List.length v2 : Int) then
  ((i_WrdMark k (v2.getD (Int.toNat (v6.getD (Int.toNat v1) (0:Int))) ((0:Int), ((0:Int), ((0:Int), ((0:Int), (false, (0:Int))))))).2.2.1).bind fun y3 =>
  (if (!y3.1) = true then
  (if List.length v8 + List.length [((v2.getD (Int.toNat (v6.getD (Int.toNat v1) (0:Int))) ((0:Int), ((0:Int), ((0:Int), ((0:Int), (false, (0:Int))))))).1, (v2.getD (Int.toNat (v6.getD (Int.toNat v1) (0:Int))) ((0:Int), ((0:Int), ((0:Int), ((0:Int), (false, (0:Int))))))).2.1)] ≤ LB then
  (i_ArnMap_j10 k n0 v0 v1 v2 v3 v4 v5 v6 v7 (v8 ++ [((v2.getD (Int.toNat (v6.getD (Int.toNat v1) (0:Int))) ((0:Int), ((0:Int), ((0:Int), ((0:Int), (false, (0:Int))))))).1, (v2.getD (Int.toNat (v6.getD (Int.toNat v1) (0:Int))) ((0:Int), ((0:Int), ((0:Int), ((0:Int), (false, (0:Int))))))).2.1)]))
 else none)
 else
  (i_ArnMap_j10 k n0 v0 v1 v2 v3 v4 v5 v6 v7 v8)))
 else none)
 else none)
 else
  (some (v8, ()))) := by kernel_rfl
theorem i_ArnMap_eq (k : Nat) (x0 : List (Int × (Int × (Int × (Int × (Bool × Int)))))) (x1 : Int) (x2 : Int) (x3 : Int) : i_ArnMap k x0 x1 x2 x3 =
  ((i_ArnOk k x0 x1 x2 x3).bind fun y1 =>
  (if (!y1.1) = true then
  (some (([] : List (Int × Int)), ()))
 else
  ((i_ArnChain k x0 x1 x2 x3).bind fun y2 =>
  (i_ArnMap_l5 k k (List.length y2.1 : Int) (0:Int) x0 x1 x2 x3 y2.1 ([] : List (Int × Int)) ([] : List (Int × Int)))))) := by kernel_rfl
noncomputable def i_ArnMap_G (k : Nat) : Dt i_ArnMap_i → Option (Dt i_ArnMap_o) := fun x => i_ArnMap k x.1 x.2.1 x.2.2.1 x.2.2.2.1
theorem i_ArnMap_c (k : Nat) : Comes1 (i_ArnMap_T k) Try.f23 i_ArnMap_i i_ArnMap_o (i_ArnMap_G k) := fun x => by kernel_rfl
noncomputable def i_ArnMap_E (k : Nat) : Env := (s_ArnMap_E k).with 23 i_ArnMap_i i_ArnMap_o (i_ArnMap_G k)
theorem i_ArnMap_ok (k : Nat) : EnvOk Try.prog (i_ArnMap_E k) := (s_ArnMap_ok k).with mixed (by decide) (by kernel_rfl) (by kernel_rfl) (i_ArnMap_c k) (by kernel_rfl)
/-! ### loop.example/tuggers/laws.eqMapEntry -/
@[reducible] def w_eqMapEntry_i : Sh := ⟨[.c (.agg [.int .i64, .int .i64]), .c (.agg [.int .i64, .int .i64])], []⟩
@[reducible] def w_eqMapEntry_o : Sh := ⟨[.c (.leaf (.bool))], []⟩
noncomputable def w_eqMapEntry_T (k : Nat) : Env := ((i_ArnMap_E k).at 0 k [] [] []).gated (fun _ => true)
noncomputable def w_eqMapEntry (k : Nat) (x0 : Int) (x1 : Int) (x2 : Int) (x3 : Int) : Option (Dt w_eqMapEntry_o) := evFn (w_eqMapEntry_T k) Try.f152 [.c (.agg [.int .i64 x0, .int .i64 x1]), .c (.agg [.int .i64 x2, .int .i64 x3])] [] (unOut w_eqMapEntry_o)
theorem w_eqMapEntry_eq (k : Nat) (x0 : Int) (x1 : Int) (x2 : Int) (x3 : Int) : w_eqMapEntry k x0 x1 x2 x3 =
  (if (decide (¬ x0 = x2)) = true then
  (some (false, ()))
 else
  (if (decide (¬ x1 = x3)) = true then
  (some (false, ()))
 else
  (some (true, ())))) := by kernel_rfl
noncomputable def w_eqMapEntry_G (k : Nat) : Dt w_eqMapEntry_i → Option (Dt w_eqMapEntry_o) := fun x => w_eqMapEntry k x.1 x.2.1 x.2.2.1 x.2.2.2.1
theorem w_eqMapEntry_c (k : Nat) : Comes1 (w_eqMapEntry_T k) Try.f152 w_eqMapEntry_i w_eqMapEntry_o (w_eqMapEntry_G k) := fun x => by kernel_rfl
noncomputable def w_eqMapEntry_E (k : Nat) : Env := (i_ArnMap_E k).with 152 w_eqMapEntry_i w_eqMapEntry_o (w_eqMapEntry_G k)
theorem w_eqMapEntry_ok (k : Nat) : EnvOk Try.prog (w_eqMapEntry_E k) := (i_ArnMap_ok k).with mixed (by decide) (by kernel_rfl) (by kernel_rfl) (w_eqMapEntry_c k) (by kernel_rfl)
/-! ### loop.example/tuggers/laws.eqMapEntryS -/
@[reducible] def w_eqMapEntryS_i : Sh := ⟨[.c (.leaf (.ro q1)), .c (.leaf (.ro q1))], []⟩
@[reducible] def w_eqMapEntryS_o : Sh := ⟨[.c (.leaf (.bool))], []⟩
noncomputable def w_eqMapEntryS_T (k : Nat) : Env := ((w_eqMapEntry_E k).at 0 k [] [(4, ⟨[0, 1, 5], []⟩)] []).gated (fun _ => true)
noncomputable def w_eqMapEntryS_l4 (k n0 : Nat) (v0 : List (Int × Int)) (v1 : List (Int × Int)) (v2 : Int) : Option (Dt w_eqMapEntryS_o) := atLoop (w_eqMapEntryS_T k) (subF Try.f76 [.r, .r, .l, .r, .l]) n0 ⟨tml 27 [(0, .c (.leaf (.ro q1 v0))), (1, .c (.leaf (.ro q1 v1))), (5, .c (.leaf (.int .i64 v2)))], []⟩ (kbl (subF Try.f76 [.r, .r, .l, .r]) (ksq (w_eqMapEntryS_T k) (subF Try.f76 [.r, .r]) (kret (w_eqMapEntryS_T k) Try.f76.results.toList (unOut w_eqMapEntryS_o))))
noncomputable def w_eqMapEntryS (k : Nat) (x0 : List (Int × Int)) (x1 : List (Int × Int)) : Option (Dt w_eqMapEntryS_o) := evFn (w_eqMapEntryS_T k) Try.f76 [.c (.leaf (.ro q1 x0)), .c (.leaf (.ro q1 x1))] [] (unOut w_eqMapEntryS_o)
theorem w_eqMapEntryS_l4_0 (k : Nat) (v0 : List (Int × Int)) (v1 : List (Int × Int)) (v2 : Int) : w_eqMapEntryS_l4 k 0 v0 v1 v2 = none := by kernel_rfl
theorem w_eqMapEntryS_l4_s (k n0 : Nat) (v0 : List (Int × Int)) (v1 : List (Int × Int)) (v2 : Int) : w_eqMapEntryS_l4 k (n0 + 1) v0 v1 v2 =
  (if (decide (v2 < (List.length v0 : Int))) = true then
  (if (0:Int) ≤ v2 ∧ v2 < (List.length v0 : Int) then
  (if (0:Int) ≤ v2 ∧ v2 < (List.length v1 : Int) then
  ((w_eqMapEntry k (v0.getD (Int.toNat v2) ((0:Int), (0:Int))).1 (v0.getD (Int.toNat v2) ((0:Int), (0:Int))).2 (v1.getD (Int.toNat v2) ((0:Int), (0:Int))).1 (v1.getD (Int.toNat v2) ((0:Int), (0:Int))).2).bind fun y1 =>
  (if (!y1.1) = true then
  (some (false, ()))
 else
  (w_eqMapEntryS_l4 k n0 v0 v1 (W (v2 + (1:Int))))))
 else none)
 else none)
 else
  (some (true, ()))) := by kernel_rfl
theorem w_eqMapEntryS_eq (k : Nat) (x0 : List (Int × Int)) (x1 : List (Int × Int)) : w_eqMapEntryS k x0 x1 =
  (if (decide (¬ (List.length x0 : Int) = (List.length x1 : Int))) = true then
  (some (false, ()))
 else
  (w_eqMapEntryS_l4 k k x0 x1 (0:Int))) := by kernel_rfl
noncomputable def w_eqMapEntryS_G (k : Nat) : Dt w_eqMapEntryS_i → Option (Dt w_eqMapEntryS_o) := fun x => w_eqMapEntryS k x.1 x.2.1
theorem w_eqMapEntryS_c (k : Nat) : Comes1 (w_eqMapEntryS_T k) Try.f76 w_eqMapEntryS_i w_eqMapEntryS_o (w_eqMapEntryS_G k) := fun x => by kernel_rfl
noncomputable def w_eqMapEntryS_E (k : Nat) : Env := (w_eqMapEntry_E k).with 76 w_eqMapEntryS_i w_eqMapEntryS_o (w_eqMapEntryS_G k)
theorem w_eqMapEntryS_ok (k : Nat) : EnvOk Try.prog (w_eqMapEntryS_E k) := (w_eqMapEntry_ok k).with mixed (by decide) (by kernel_rfl) (by kernel_rfl) (w_eqMapEntryS_c k) (by kernel_rfl)
/-! ### loop.example/tuggers/laws.eqMapMap -/
@[reducible] def w_eqMapMap_i : Sh := ⟨[.c (.agg [.ro q1]), .c (.agg [.ro q1])], []⟩
@[reducible] def w_eqMapMap_o : Sh := ⟨[.c (.leaf (.bool))], []⟩
noncomputable def w_eqMapMap_T (k : Nat) : Env := ((w_eqMapEntryS_E k).at 0 k [] [] []).gated (fun _ => true)
noncomputable def w_eqMapMap (k : Nat) (x0 : List (Int × Int)) (x1 : List (Int × Int)) : Option (Dt w_eqMapMap_o) := evFn (w_eqMapMap_T k) Try.f24 [.c (.agg [.ro q1 x0]), .c (.agg [.ro q1 x1])] [] (unOut w_eqMapMap_o)
theorem w_eqMapMap_eq (k : Nat) (x0 : List (Int × Int)) (x1 : List (Int × Int)) : w_eqMapMap k x0 x1 =
  ((w_eqMapEntryS k x0 x1).bind fun y1 =>
  (if (!y1.1) = true then
  (some (false, ()))
 else
  (some (true, ())))) := by kernel_rfl
noncomputable def w_eqMapMap_G (k : Nat) : Dt w_eqMapMap_i → Option (Dt w_eqMapMap_o) := fun x => w_eqMapMap k x.1 x.2.1
theorem w_eqMapMap_c (k : Nat) : Comes1 (w_eqMapMap_T k) Try.f24 w_eqMapMap_i w_eqMapMap_o (w_eqMapMap_G k) := fun x => by kernel_rfl
noncomputable def w_eqMapMap_E (k : Nat) : Env := (w_eqMapEntryS_E k).with 24 w_eqMapMap_i w_eqMapMap_o (w_eqMapMap_G k)
theorem w_eqMapMap_ok (k : Nat) : EnvOk Try.prog (w_eqMapMap_E k) := (w_eqMapEntryS_ok k).with mixed (by decide) (by kernel_rfl) (by kernel_rfl) (w_eqMapMap_c k) (by kernel_rfl)
/-! ### loop.example/tuggers/laws.markMapEntryS -/
@[reducible] def w_markMapEntryS_i : Sh := ⟨[.c (.leaf (.own 0)), .c (.leaf (.int .i64))], [(0, .rows 116 q1)]⟩
@[reducible] def w_markMapEntryS_o : Sh := ⟨[.c (.leaf (.int .i64))], [(0, .rows 116 q1)]⟩
noncomputable def w_markMapEntryS_T (k : Nat) : Env := ((w_eqMapMap_E k).at 1 k [] [(2, ⟨[0, 1, 5], []⟩)] []).gated (fun _ => true)
noncomputable def w_markMapEntryS_l2 (k n0 : Nat) (v0 : Int) (v1 : Int) (v2 : List (Int × Int)) : Option (Dt w_markMapEntryS_o) := atLoop (w_markMapEntryS_T k) (subF Try.f77 [.r, .l, .r, .l]) n0 ⟨tml 27 [(0, .c (.leaf (.own 0))), (1, .c (.leaf (.int .i64 v0))), (5, .c (.leaf (.int .i64 v1)))], [(0, .rows 116 q1 v2)]⟩ (kbl (subF Try.f77 [.r, .l, .r]) (ksq (w_markMapEntryS_T k) (subF Try.f77 [.r]) (kret (w_markMapEntryS_T k) Try.f77.results.toList (unOut w_markMapEntryS_o))))
noncomputable def w_markMapEntryS (k : Nat) (x0 : Int) (x1 : List (Int × Int)) : Option (Dt w_markMapEntryS_o) := evFn (w_markMapEntryS_T k) Try.f77 [.c (.leaf (.own 0)), .c (.leaf (.int .i64 x0))] [(0, .rows 116 q1 x1)] (unOut w_markMapEntryS_o)
theorem w_markMapEntryS_l2_0 (k : Nat) (v0 : Int) (v1 : Int) (v2 : List (Int × Int)) : w_markMapEntryS_l2 k 0 v0 v1 v2 = none := by kernel_rfl
theorem w_markMapEntryS_l2_s (k n0 : Nat) (v0 : Int) (v1 : Int) (v2 : List (Int × Int)) : w_markMapEntryS_l2 k (n0 + 1) v0 v1 v2 =
  (if (decide (v1 < (List.length v2 : Int))) = true then
  (if (0:Int) ≤ v1 ∧ v1 < (List.length v2 : Int) then
  (if (0:Int) ≤ v1 ∧ v1 < (List.length (v2.set (Int.toNat v1) (v0, (v2.getD (Int.toNat v1) ((0:Int), (0:Int))).2)) : Int) then
  (w_markMapEntryS_l2 k n0 (W ((W (v0 + (1:Int))) + (1:Int))) (W (v1 + (1:Int))) ((v2.set (Int.toNat v1) (v0, (v2.getD (Int.toNat v1) ((0:Int), (0:Int))).2)).set (Int.toNat v1) (((v2.set (Int.toNat v1) (v0, (v2.getD (Int.toNat v1) ((0:Int), (0:Int))).2)).getD (Int.toNat v1) ((0:Int), (0:Int))).1, (W (v0 + (1:Int))))))
 else none)
 else none)
 else
  (some (v0, v2, ()))) := by kernel_rfl
theorem w_markMapEntryS_eq (k : Nat) (x0 : Int) (x1 : List (Int × Int)) : w_markMapEntryS k x0 x1 =
  (w_markMapEntryS_l2 k k x0 (0:Int) x1) := by kernel_rfl
noncomputable def w_markMapEntryS_G (k : Nat) : Dt w_markMapEntryS_i → Option (Dt w_markMapEntryS_o) := fun x => w_markMapEntryS k x.1 x.2.1
theorem w_markMapEntryS_c (k : Nat) : Comes1 (w_markMapEntryS_T k) Try.f77 w_markMapEntryS_i w_markMapEntryS_o (w_markMapEntryS_G k) := fun x => by kernel_rfl
noncomputable def w_markMapEntryS_E (k : Nat) : Env := (w_eqMapMap_E k).with 77 w_markMapEntryS_i w_markMapEntryS_o (w_markMapEntryS_G k)
theorem w_markMapEntryS_ok (k : Nat) : EnvOk Try.prog (w_markMapEntryS_E k) := (w_eqMapMap_ok k).with mixed (by decide) (by kernel_rfl) (by kernel_rfl) (w_markMapEntryS_c k) (by kernel_rfl)
/-! ### loop.example/tuggers/laws.markMapMap -/
@[reducible] def w_markMapMap_i : Sh := ⟨[.c (.agg [.own 0]), .c (.leaf (.int .i64))], [(0, .rows 116 q1)]⟩
@[reducible] def w_markMapMap_o : Sh := ⟨[.c (.leaf (.int .i64))], [(0, .rows 116 q1)]⟩
noncomputable def w_markMapMap_T (k : Nat) : Env := ((w_markMapEntryS_E k).at 1 k [] [] []).gated (fun _ => true)
noncomputable def w_markMapMap (k : Nat) (x0 : Int) (x1 : List (Int × Int)) : Option (Dt w_markMapMap_o) := evFn (w_markMapMap_T k) Try.f25 [.c (.agg [.own 0]), .c (.leaf (.int .i64 x0))] [(0, .rows 116 q1 x1)] (unOut w_markMapMap_o)
theorem w_markMapMap_eq (k : Nat) (x0 : Int) (x1 : List (Int × Int)) : w_markMapMap k x0 x1 =
  ((w_markMapEntryS k x0 x1).bind fun y1 =>
  (some (y1.1, y1.2.1, ()))) := by kernel_rfl
noncomputable def w_markMapMap_G (k : Nat) : Dt w_markMapMap_i → Option (Dt w_markMapMap_o) := fun x => w_markMapMap k x.1 x.2.1
theorem w_markMapMap_c (k : Nat) : Comes1 (w_markMapMap_T k) Try.f25 w_markMapMap_i w_markMapMap_o (w_markMapMap_G k) := fun x => by kernel_rfl
noncomputable def w_markMapMap_E (k : Nat) : Env := (w_markMapEntryS_E k).with 25 w_markMapMap_i w_markMapMap_o (w_markMapMap_G k)
theorem w_markMapMap_ok (k : Nat) : EnvOk Try.prog (w_markMapMap_E k) := (w_markMapEntryS_ok k).with mixed (by decide) (by kernel_rfl) (by kernel_rfl) (w_markMapMap_c k) (by kernel_rfl)
/-! ### loop.example/tuggers/laws.heldMapEntryS -/
@[reducible] def w_heldMapEntryS_i : Sh := ⟨[.c (.leaf (.ro q1)), .c (.leaf (.int .i64))], []⟩
@[reducible] def w_heldMapEntryS_o : Sh := ⟨[.c (.leaf (.int .i64))], []⟩
noncomputable def w_heldMapEntryS_T (k : Nat) : Env := ((w_markMapMap_E k).at 0 k [] [(2, ⟨[0, 1, 5], []⟩)] []).gated (fun _ => true)
noncomputable def w_heldMapEntryS_l2 (k n0 : Nat) (v0 : List (Int × Int)) (v1 : Int) (v2 : Int) : Option (Dt w_heldMapEntryS_o) := atLoop (w_heldMapEntryS_T k) (subF Try.f78 [.r, .l, .r, .l]) n0 ⟨tml 31 [(0, .c (.leaf (.ro q1 v0))), (1, .c (.leaf (.int .i64 v1))), (5, .c (.leaf (.int .i64 v2)))], []⟩ (kbl (subF Try.f78 [.r, .l, .r]) (ksq (w_heldMapEntryS_T k) (subF Try.f78 [.r]) (kret (w_heldMapEntryS_T k) Try.f78.results.toList (unOut w_heldMapEntryS_o))))
noncomputable def w_heldMapEntryS (k : Nat) (x0 : List (Int × Int)) (x1 : Int) : Option (Dt w_heldMapEntryS_o) := evFn (w_heldMapEntryS_T k) Try.f78 [.c (.leaf (.ro q1 x0)), .c (.leaf (.int .i64 x1))] [] (unOut w_heldMapEntryS_o)
theorem w_heldMapEntryS_l2_0 (k : Nat) (v0 : List (Int × Int)) (v1 : Int) (v2 : Int) : w_heldMapEntryS_l2 k 0 v0 v1 v2 = none := by kernel_rfl
theorem w_heldMapEntryS_l2_s (k n0 : Nat) (v0 : List (Int × Int)) (v1 : Int) (v2 : Int) : w_heldMapEntryS_l2 k (n0 + 1) v0 v1 v2 =
  (if (decide (v2 < (List.length v0 : Int))) = true then
  (if (0:Int) ≤ v2 ∧ v2 < (List.length v0 : Int) then
  (if (decide (¬ (v0.getD (Int.toNat v2) ((0:Int), (0:Int))).1 = v1)) = true then
  (some ((-1:Int), ()))
 else
  (if (0:Int) ≤ v2 ∧ v2 < (List.length v0 : Int) then
  (if (decide (¬ (v0.getD (Int.toNat v2) ((0:Int), (0:Int))).2 = (W (v1 + (1:Int))))) = true then
  (some ((-1:Int), ()))
 else
  (w_heldMapEntryS_l2 k n0 v0 (W ((W (v1 + (1:Int))) + (1:Int))) (W (v2 + (1:Int)))))
 else none))
 else none)
 else
  (some (v1, ()))) := by kernel_rfl
theorem w_heldMapEntryS_eq (k : Nat) (x0 : List (Int × Int)) (x1 : Int) : w_heldMapEntryS k x0 x1 =
  (w_heldMapEntryS_l2 k k x0 x1 (0:Int)) := by kernel_rfl
noncomputable def w_heldMapEntryS_G (k : Nat) : Dt w_heldMapEntryS_i → Option (Dt w_heldMapEntryS_o) := fun x => w_heldMapEntryS k x.1 x.2.1
theorem w_heldMapEntryS_c (k : Nat) : Comes1 (w_heldMapEntryS_T k) Try.f78 w_heldMapEntryS_i w_heldMapEntryS_o (w_heldMapEntryS_G k) := fun x => by kernel_rfl
noncomputable def w_heldMapEntryS_E (k : Nat) : Env := (w_markMapMap_E k).with 78 w_heldMapEntryS_i w_heldMapEntryS_o (w_heldMapEntryS_G k)
theorem w_heldMapEntryS_ok (k : Nat) : EnvOk Try.prog (w_heldMapEntryS_E k) := (w_markMapMap_ok k).with mixed (by decide) (by kernel_rfl) (by kernel_rfl) (w_heldMapEntryS_c k) (by kernel_rfl)
/-! ### loop.example/tuggers/laws.heldMapMap -/
@[reducible] def w_heldMapMap_i : Sh := ⟨[.c (.agg [.ro q1]), .c (.leaf (.int .i64))], []⟩
@[reducible] def w_heldMapMap_o : Sh := ⟨[.c (.leaf (.int .i64))], []⟩
noncomputable def w_heldMapMap_T (k : Nat) : Env := ((w_heldMapEntryS_E k).at 0 k [] [] []).gated (fun _ => true)
noncomputable def w_heldMapMap (k : Nat) (x0 : List (Int × Int)) (x1 : Int) : Option (Dt w_heldMapMap_o) := evFn (w_heldMapMap_T k) Try.f26 [.c (.agg [.ro q1 x0]), .c (.leaf (.int .i64 x1))] [] (unOut w_heldMapMap_o)
theorem w_heldMapMap_eq (k : Nat) (x0 : List (Int × Int)) (x1 : Int) : w_heldMapMap k x0 x1 =
  ((w_heldMapEntryS k x0 x1).bind fun y1 =>
  (if (decide (y1.1 < (0:Int))) = true then
  (some ((-1:Int), ()))
 else
  (some (y1.1, ())))) := by kernel_rfl
noncomputable def w_heldMapMap_G (k : Nat) : Dt w_heldMapMap_i → Option (Dt w_heldMapMap_o) := fun x => w_heldMapMap k x.1 x.2.1
theorem w_heldMapMap_c (k : Nat) : Comes1 (w_heldMapMap_T k) Try.f26 w_heldMapMap_i w_heldMapMap_o (w_heldMapMap_G k) := fun x => by kernel_rfl
noncomputable def w_heldMapMap_E (k : Nat) : Env := (w_heldMapEntryS_E k).with 26 w_heldMapMap_i w_heldMapMap_o (w_heldMapMap_G k)
theorem w_heldMapMap_ok (k : Nat) : EnvOk Try.prog (w_heldMapMap_E k) := (w_heldMapEntryS_ok k).with mixed (by decide) (by kernel_rfl) (by kernel_rfl) (w_heldMapMap_c k) (by kernel_rfl)
/-! ### loop.example/tuggers/laws.FnExactArnMap -/
@[reducible] def w_FnExactArnMap_i : Sh := ⟨[.c (.agg [.ro q0, .int .i64, .int .i64, .int .i64])], []⟩
@[reducible] def w_FnExactArnMap_o : Sh := ⟨[.c (.leaf (.bool))], []⟩
noncomputable def w_FnExactArnMap_T (k : Nat) : Env := ((w_heldMapMap_E k).at 0 k [] [] []).gated (fun _ => true)
noncomputable def w_FnExactArnMap (k : Nat) (x0 : List (Int × (Int × (Int × (Int × (Bool × Int)))))) (x1 : Int) (x2 : Int) (x3 : Int) : Option (Dt w_FnExactArnMap_o) := evFn (w_FnExactArnMap_T k) Try.f4 [.c (.agg [.ro q0 x0, .int .i64 x1, .int .i64 x2, .int .i64 x3])] [] (unOut w_FnExactArnMap_o)
theorem w_FnExactArnMap_eq (k : Nat) (x0 : List (Int × (Int × (Int × (Int × (Bool × Int)))))) (x1 : Int) (x2 : Int) (x3 : Int) : w_FnExactArnMap k x0 x1 x2 x3 =
  ((w_szArnArena k x0 x1 x2 x3 (1048576:Int)).bind fun y1 =>
  (if (decide (y1.1 < (0:Int))) = true then
  (some (true, ()))
 else
  ((w_toArnArena k x0 x1 x2 x3).bind fun y2 =>
  ((s_ArnMap k y2.2.2.2.1 y2.1 y2.2.1 y2.2.2.1).bind fun y3 =>
  ((w_toArnArena k x0 x1 x2 x3).bind fun y4 =>
  ((i_ArnMap k y4.2.2.2.1 y4.1 y4.2.1 y4.2.2.1).bind fun y5 =>
  ((w_eqMapMap k y5.1 y3.1).bind fun y6 =>
  (if (!y6.1) = true then
  (some (false, ()))
 else
  ((w_toArnArena k x0 x1 x2 x3).bind fun y7 =>
  ((w_eqArnArena k y4.2.2.2.1 y4.1 y4.2.1 y4.2.2.1 y7.2.2.2.1 y7.1 y7.2.1 y7.2.2.1).bind fun y8 =>
  (if (!y8.1) = true then
  (some (false, ()))
 else
  ((w_markArnArena k y4.1 y4.2.1 y4.2.2.1 (1:Int) y4.2.2.2.1).bind fun y9 =>
  (if (decide (y9.1 < (0:Int))) = true then
  (some (false, ()))
 else
  ((w_eqMapMap k y5.1 y3.1).bind fun y10 =>
  (if (!y10.1) = true then
  (some (false, ()))
 else
  ((w_markMapMap k (1:Int) y5.1).bind fun y11 =>
  ((w_heldMapMap k y11.2.1 (1:Int)).bind fun y12 =>
  (if (decide (y12.1 < (0:Int))) = true then
  (some (false, ()))
 else
  (if (decide (¬ y12.1 = y11.1)) = true then
  (some (false, ()))
 else
  ((w_toArnArena k x0 x1 x2 x3).bind fun y13 =>
  ((i_ArnMap k y13.2.2.2.1 y13.1 y13.2.1 y13.2.2.1).bind fun y14 =>
  ((w_eqMapMap k y14.1 y3.1).bind fun y15 =>
  (if (!y15.1) = true then
  (some (false, ()))
 else
  ((w_heldMapMap k y11.2.1 (1:Int)).bind fun y16 =>
  (if (decide (y16.1 < (0:Int))) = true then
  (some (false, ()))
 else
  (if (decide (¬ y16.1 = y11.1)) = true then
  (some (false, ()))
 else
  (some (true, ())))))))))))))))))))))))))))) := by kernel_rfl
noncomputable def w_FnExactArnMap_G (k : Nat) : Dt w_FnExactArnMap_i → Option (Dt w_FnExactArnMap_o) := fun x => w_FnExactArnMap k x.1 x.2.1 x.2.2.1 x.2.2.2.1
theorem w_FnExactArnMap_c (k : Nat) : Comes1 (w_FnExactArnMap_T k) Try.f4 w_FnExactArnMap_i w_FnExactArnMap_o (w_FnExactArnMap_G k) := fun x => by kernel_rfl
noncomputable def w_FnExactArnMap_E (k : Nat) : Env := (w_heldMapMap_E k).with 4 w_FnExactArnMap_i w_FnExactArnMap_o (w_FnExactArnMap_G k)
theorem w_FnExactArnMap_ok (k : Nat) : EnvOk Try.prog (w_FnExactArnMap_E k) := (w_heldMapMap_ok k).with mixed (by decide) (by kernel_rfl) (by kernel_rfl) (w_FnExactArnMap_c k) (by kernel_rfl)
/-! ### loop.example/tuggers/spec.ArnQueue -/
@[reducible] def s_ArnQueue_i : Sh := ⟨[.c (.agg [.ro q0, .int .i64, .int .i64, .int .i64])], []⟩
@[reducible] def s_ArnQueue_o : Sh := ⟨[.c (.leaf (.own 0))], [(0, .rows 3 (.int .i64))]⟩
noncomputable def s_ArnQueue_T (k : Nat) : Env := ((w_FnExactArnMap_E k).at 0 k [] [] [⟨2, false, 0, 3, (.int .i64)⟩]).gated (fun _ => true)
noncomputable def s_ArnQueue (k : Nat) (x0 : List (Int × (Int × (Int × (Int × (Bool × Int)))))) (x1 : Int) (x2 : Int) (x3 : Int) : Option (Dt s_ArnQueue_o) := evFn (s_ArnQueue_T k) Try.f79 [.c (.agg [.ro q0 x0, .int .i64 x1, .int .i64 x2, .int .i64 x3])] [] (unOut s_ArnQueue_o)
theorem s_ArnQueue_eq (k : Nat) (x0 : List (Int × (Int × (Int × (Int × (Bool × Int)))))) (x1 : Int) (x2 : Int) (x3 : Int) : s_ArnQueue k x0 x1 x2 x3 =
  ((s_ArnOk k x0 x1 x2 x3).bind fun y1 =>
  (if (!y1.1) = true then
  (some (([] : List Int), ()))
 else
  ((s_ArnQueued k x0 x1 x2 x3).bind fun y2 =>
  (if (0:Int) ≤ (1:Int) ∧ (1:Int) ≤ (List.length y2.1 : Int) ∧ (List.length y2.1 : Int) ≤ (List.length y2.1 : Int) then
  ((s_l2Vals k x0 x1 x2 x3 ((y2.1.take (List.length y2.1)).drop 1)).bind fun y3 =>
  (some (y3.1, ())))
 else none)))) := by kernel_rfl
noncomputable def s_ArnQueue_G (k : Nat) : Dt s_ArnQueue_i → Option (Dt s_ArnQueue_o) := fun x => s_ArnQueue k x.1 x.2.1 x.2.2.1 x.2.2.2.1
theorem s_ArnQueue_c (k : Nat) : Comes1 (s_ArnQueue_T k) Try.f79 s_ArnQueue_i s_ArnQueue_o (s_ArnQueue_G k) := fun x => by kernel_rfl
noncomputable def s_ArnQueue_E (k : Nat) : Env := (w_FnExactArnMap_E k).with 79 s_ArnQueue_i s_ArnQueue_o (s_ArnQueue_G k)
theorem s_ArnQueue_ok (k : Nat) : EnvOk Try.prog (s_ArnQueue_E k) := (w_FnExactArnMap_ok k).with mixed (by decide) (by kernel_rfl) (by kernel_rfl) (s_ArnQueue_c k) (by kernel_rfl)
/-! ### loop.example/tuggers/spec.LinOf -/
@[reducible] def s_LinOf_i : Sh := ⟨[.c (.agg [.ro q0, .int .i64, .int .i64, .int .i64])], []⟩
@[reducible] def s_LinOf_o : Sh := ⟨[.c (.agg [.own 0, .own 1, .own 2])], [(0, .rows 116 q1), (1, .rows 3 (.int .i64)), (2, .rows 3 (.int .i64))]⟩
noncomputable def s_LinOf_T (k : Nat) : Env := ((s_ArnQueue_E k).at 0 k [] [] [⟨2, true, 0, 116, q1⟩, ⟨2, true, 1, 3, (.int .i64)⟩, ⟨2, true, 2, 3, (.int .i64)⟩]).gated (fun _ => true)
noncomputable def s_LinOf (k : Nat) (x0 : List (Int × (Int × (Int × (Int × (Bool × Int)))))) (x1 : Int) (x2 : Int) (x3 : Int) : Option (Dt s_LinOf_o) := evFn (s_LinOf_T k) Try.f27 [.c (.agg [.ro q0 x0, .int .i64 x1, .int .i64 x2, .int .i64 x3])] [] (unOut s_LinOf_o)
theorem s_LinOf_eq (k : Nat) (x0 : List (Int × (Int × (Int × (Int × (Bool × Int)))))) (x1 : Int) (x2 : Int) (x3 : Int) : s_LinOf k x0 x1 x2 x3 =
  ((s_ArnMap k x0 x1 x2 x3).bind fun y1 =>
  ((s_ArnStack k x0 x1 x2 x3).bind fun y2 =>
  ((s_ArnQueue k x0 x1 x2 x3).bind fun y3 =>
  (some (y1.1, y2.1, y3.1, ()))))) := by kernel_rfl
noncomputable def s_LinOf_G (k : Nat) : Dt s_LinOf_i → Option (Dt s_LinOf_o) := fun x => s_LinOf k x.1 x.2.1 x.2.2.1 x.2.2.2.1
theorem s_LinOf_c (k : Nat) : Comes1 (s_LinOf_T k) Try.f27 s_LinOf_i s_LinOf_o (s_LinOf_G k) := fun x => by kernel_rfl
noncomputable def s_LinOf_E (k : Nat) : Env := (s_ArnQueue_E k).with 27 s_LinOf_i s_LinOf_o (s_LinOf_G k)
theorem s_LinOf_ok (k : Nat) : EnvOk Try.prog (s_LinOf_E k) := (s_ArnQueue_ok k).with mixed (by decide) (by kernel_rfl) (by kernel_rfl) (s_LinOf_c k) (by kernel_rfl)
/-! ### loop.example/tuggers/impl.ArnQueue -/
@[reducible] def i_ArnQueue_i : Sh := ⟨[.c (.agg [.ro q0, .int .i64, .int .i64, .int .i64])], []⟩
@[reducible] def i_ArnQueue_o : Sh := ⟨[.c (.leaf (.own 0))], [(0, .rows 3 (.int .i64))]⟩
noncomputable def i_ArnQueue_T (k : Nat) : Env := ((s_LinOf_E k).at 0 k [] [] [⟨2, false, 0, 3, (.int .i64)⟩]).gated (fun _ => true)
noncomputable def i_ArnQueue (k : Nat) (x0 : List (Int × (Int × (Int × (Int × (Bool × Int)))))) (x1 : Int) (x2 : Int) (x3 : Int) : Option (Dt i_ArnQueue_o) := evFn (i_ArnQueue_T k) Try.f80 [.c (.agg [.ro q0 x0, .int .i64 x1, .int .i64 x2, .int .i64 x3])] [] (unOut i_ArnQueue_o)
theorem i_ArnQueue_eq (k : Nat) (x0 : List (Int × (Int × (Int × (Int × (Bool × Int)))))) (x1 : Int) (x2 : Int) (x3 : Int) : i_ArnQueue k x0 x1 x2 x3 =
  ((i_ArnOk k x0 x1 x2 x3).bind fun y1 =>
  (if (!y1.1) = true then
  (some (([] : List Int), ()))
 else
  ((i_ArnQueued k x0 x1 x2 x3).bind fun y2 =>
  (if (0:Int) ≤ (1:Int) ∧ (1:Int) ≤ (List.length y2.1 : Int) ∧ (List.length y2.1 : Int) ≤ (List.length y2.1 : Int) then
  ((i_ArnArena_values k x0 x1 x2 x3 ((y2.1.take (List.length y2.1)).drop 1)).bind fun y3 =>
  (some (y3.1, ())))
 else none)))) := by kernel_rfl
noncomputable def i_ArnQueue_G (k : Nat) : Dt i_ArnQueue_i → Option (Dt i_ArnQueue_o) := fun x => i_ArnQueue k x.1 x.2.1 x.2.2.1 x.2.2.2.1
theorem i_ArnQueue_c (k : Nat) : Comes1 (i_ArnQueue_T k) Try.f80 i_ArnQueue_i i_ArnQueue_o (i_ArnQueue_G k) := fun x => by kernel_rfl
noncomputable def i_ArnQueue_E (k : Nat) : Env := (s_LinOf_E k).with 80 i_ArnQueue_i i_ArnQueue_o (i_ArnQueue_G k)
theorem i_ArnQueue_ok (k : Nat) : EnvOk Try.prog (i_ArnQueue_E k) := (s_LinOf_ok k).with mixed (by decide) (by kernel_rfl) (by kernel_rfl) (i_ArnQueue_c k) (by kernel_rfl)
/-! ### loop.example/tuggers/impl.LinOf -/
@[reducible] def i_LinOf_i : Sh := ⟨[.c (.agg [.ro q0, .int .i64, .int .i64, .int .i64])], []⟩
@[reducible] def i_LinOf_o : Sh := ⟨[.c (.agg [.own 0, .own 1, .own 2])], [(0, .rows 116 q1), (1, .rows 3 (.int .i64)), (2, .rows 3 (.int .i64))]⟩
noncomputable def i_LinOf_T (k : Nat) : Env := ((i_ArnQueue_E k).at 0 k [] [] [⟨2, true, 0, 116, q1⟩, ⟨2, true, 1, 3, (.int .i64)⟩, ⟨2, true, 2, 3, (.int .i64)⟩]).gated (fun _ => true)
noncomputable def i_LinOf (k : Nat) (x0 : List (Int × (Int × (Int × (Int × (Bool × Int)))))) (x1 : Int) (x2 : Int) (x3 : Int) : Option (Dt i_LinOf_o) := evFn (i_LinOf_T k) Try.f28 [.c (.agg [.ro q0 x0, .int .i64 x1, .int .i64 x2, .int .i64 x3])] [] (unOut i_LinOf_o)
theorem i_LinOf_eq (k : Nat) (x0 : List (Int × (Int × (Int × (Int × (Bool × Int)))))) (x1 : Int) (x2 : Int) (x3 : Int) : i_LinOf k x0 x1 x2 x3 =
  ((i_ArnMap k x0 x1 x2 x3).bind fun y1 =>
  ((i_ArnStack k x0 x1 x2 x3).bind fun y2 =>
  ((i_ArnQueue k x0 x1 x2 x3).bind fun y3 =>
  (some (y1.1, y2.1, y3.1, ()))))) := by kernel_rfl
noncomputable def i_LinOf_G (k : Nat) : Dt i_LinOf_i → Option (Dt i_LinOf_o) := fun x => i_LinOf k x.1 x.2.1 x.2.2.1 x.2.2.2.1
theorem i_LinOf_c (k : Nat) : Comes1 (i_LinOf_T k) Try.f28 i_LinOf_i i_LinOf_o (i_LinOf_G k) := fun x => by kernel_rfl
noncomputable def i_LinOf_E (k : Nat) : Env := (i_ArnQueue_E k).with 28 i_LinOf_i i_LinOf_o (i_LinOf_G k)
theorem i_LinOf_ok (k : Nat) : EnvOk Try.prog (i_LinOf_E k) := (i_ArnQueue_ok k).with mixed (by decide) (by kernel_rfl) (by kernel_rfl) (i_LinOf_c k) (by kernel_rfl)
/-! ### loop.example/tuggers/laws.eqLinState -/
@[reducible] def w_eqLinState_i : Sh := ⟨[.c (.agg [.ro q1, .ro (.int .i64), .ro (.int .i64)]), .c (.agg [.ro q1, .ro (.int .i64), .ro (.int .i64)])], []⟩
@[reducible] def w_eqLinState_o : Sh := ⟨[.c (.leaf (.bool))], []⟩
noncomputable def w_eqLinState_T (k : Nat) : Env := ((i_LinOf_E k).at 0 k [] [] []).gated (fun _ => true)
noncomputable def w_eqLinState (k : Nat) (x0 : List (Int × Int)) (x1 : List Int) (x2 : List Int) (x3 : List (Int × Int)) (x4 : List Int) (x5 : List Int) : Option (Dt w_eqLinState_o) := evFn (w_eqLinState_T k) Try.f29 [.c (.agg [.ro q1 x0, .ro (.int .i64) x1, .ro (.int .i64) x2]), .c (.agg [.ro q1 x3, .ro (.int .i64) x4, .ro (.int .i64) x5])] [] (unOut w_eqLinState_o)
theorem w_eqLinState_eq (k : Nat) (x0 : List (Int × Int)) (x1 : List Int) (x2 : List Int) (x3 : List (Int × Int)) (x4 : List Int) (x5 : List Int) : w_eqLinState k x0 x1 x2 x3 x4 x5 =
  ((w_eqMapMap k x0 x3).bind fun y1 =>
  (if (!y1.1) = true then
  (some (false, ()))
 else
  ((w_eqIntS k x1 x4).bind fun y2 =>
  (if (!y2.1) = true then
  (some (false, ()))
 else
  ((w_eqIntS k x2 x5).bind fun y3 =>
  (if (!y3.1) = true then
  (some (false, ()))
 else
  (some (true, ())))))))) := by kernel_rfl
noncomputable def w_eqLinState_G (k : Nat) : Dt w_eqLinState_i → Option (Dt w_eqLinState_o) := fun x => w_eqLinState k x.1 x.2.1 x.2.2.1 x.2.2.2.1 x.2.2.2.2.1 x.2.2.2.2.2.1
theorem w_eqLinState_c (k : Nat) : Comes1 (w_eqLinState_T k) Try.f29 w_eqLinState_i w_eqLinState_o (w_eqLinState_G k) := fun x => by kernel_rfl
noncomputable def w_eqLinState_E (k : Nat) : Env := (i_LinOf_E k).with 29 w_eqLinState_i w_eqLinState_o (w_eqLinState_G k)
theorem w_eqLinState_ok (k : Nat) : EnvOk Try.prog (w_eqLinState_E k) := (i_LinOf_ok k).with mixed (by decide) (by kernel_rfl) (by kernel_rfl) (w_eqLinState_c k) (by kernel_rfl)
/-! ### loop.example/tuggers/laws.markLinState -/
@[reducible] def w_markLinState_i : Sh := ⟨[.c (.agg [.own 0, .own 1, .own 2]), .c (.leaf (.int .i64))], [(0, .rows 116 q1), (1, .rows 3 (.int .i64)), (2, .rows 3 (.int .i64))]⟩
@[reducible] def w_markLinState_o : Sh := ⟨[.c (.leaf (.int .i64))], [(0, .rows 116 q1), (1, .rows 3 (.int .i64)), (2, .rows 3 (.int .i64))]⟩
noncomputable def w_markLinState_T (k : Nat) : Env := ((w_eqLinState_E k).at 3 k [] [] []).gated (fun _ => true)
noncomputable def w_markLinState (k : Nat) (x0 : Int) (x1 : List (Int × Int)) (x2 : List Int) (x3 : List Int) : Option (Dt w_markLinState_o) := evFn (w_markLinState_T k) Try.f30 [.c (.agg [.own 0, .own 1, .own 2]), .c (.leaf (.int .i64 x0))] [(0, .rows 116 q1 x1), (1, .rows 3 (.int .i64) x2), (2, .rows 3 (.int .i64) x3)] (unOut w_markLinState_o)
theorem w_markLinState_eq (k : Nat) (x0 : Int) (x1 : List (Int × Int)) (x2 : List Int) (x3 : List Int) : w_markLinState k x0 x1 x2 x3 =
  ((w_markMapMap k x0 x1).bind fun y1 =>
  ((w_markIntS k y1.1 x2).bind fun y2 =>
  ((w_markIntS k y2.1 x3).bind fun y3 =>
  (some (y3.1, y1.2.1, y2.2.1, y3.2.1, ()))))) := by kernel_rfl
noncomputable def w_markLinState_G (k : Nat) : Dt w_markLinState_i → Option (Dt w_markLinState_o) := fun x => w_markLinState k x.1 x.2.1 x.2.2.1 x.2.2.2.1
theorem w_markLinState_c (k : Nat) : Comes1 (w_markLinState_T k) Try.f30 w_markLinState_i w_markLinState_o (w_markLinState_G k) := fun x => by kernel_rfl
noncomputable def w_markLinState_E (k : Nat) : Env := (w_eqLinState_E k).with 30 w_markLinState_i w_markLinState_o (w_markLinState_G k)
theorem w_markLinState_ok (k : Nat) : EnvOk Try.prog (w_markLinState_E k) := (w_eqLinState_ok k).with mixed (by decide) (by kernel_rfl) (by kernel_rfl) (w_markLinState_c k) (by kernel_rfl)
/-! ### loop.example/tuggers/laws.heldLinState -/
@[reducible] def w_heldLinState_i : Sh := ⟨[.c (.agg [.ro q1, .ro (.int .i64), .ro (.int .i64)]), .c (.leaf (.int .i64))], []⟩
@[reducible] def w_heldLinState_o : Sh := ⟨[.c (.leaf (.int .i64))], []⟩
noncomputable def w_heldLinState_T (k : Nat) : Env := ((w_markLinState_E k).at 0 k [] [] []).gated (fun _ => true)
noncomputable def w_heldLinState (k : Nat) (x0 : List (Int × Int)) (x1 : List Int) (x2 : List Int) (x3 : Int) : Option (Dt w_heldLinState_o) := evFn (w_heldLinState_T k) Try.f31 [.c (.agg [.ro q1 x0, .ro (.int .i64) x1, .ro (.int .i64) x2]), .c (.leaf (.int .i64 x3))] [] (unOut w_heldLinState_o)
theorem w_heldLinState_eq (k : Nat) (x0 : List (Int × Int)) (x1 : List Int) (x2 : List Int) (x3 : Int) : w_heldLinState k x0 x1 x2 x3 =
  ((w_heldMapMap k x0 x3).bind fun y1 =>
  (if (decide (y1.1 < (0:Int))) = true then
  (some ((-1:Int), ()))
 else
  ((w_heldIntS k x1 y1.1).bind fun y2 =>
  (if (decide (y2.1 < (0:Int))) = true then
  (some ((-1:Int), ()))
 else
  ((w_heldIntS k x2 y2.1).bind fun y3 =>
  (if (decide (y3.1 < (0:Int))) = true then
  (some ((-1:Int), ()))
 else
  (some (y3.1, ())))))))) := by kernel_rfl
noncomputable def w_heldLinState_G (k : Nat) : Dt w_heldLinState_i → Option (Dt w_heldLinState_o) := fun x => w_heldLinState k x.1 x.2.1 x.2.2.1 x.2.2.2.1
theorem w_heldLinState_c (k : Nat) : Comes1 (w_heldLinState_T k) Try.f31 w_heldLinState_i w_heldLinState_o (w_heldLinState_G k) := fun x => by kernel_rfl
noncomputable def w_heldLinState_E (k : Nat) : Env := (w_markLinState_E k).with 31 w_heldLinState_i w_heldLinState_o (w_heldLinState_G k)
theorem w_heldLinState_ok (k : Nat) : EnvOk Try.prog (w_heldLinState_E k) := (w_markLinState_ok k).with mixed (by decide) (by kernel_rfl) (by kernel_rfl) (w_heldLinState_c k) (by kernel_rfl)
/-! ### loop.example/tuggers/laws.FnExactLinOf -/
@[reducible] def w_FnExactLinOf_i : Sh := ⟨[.c (.agg [.ro q0, .int .i64, .int .i64, .int .i64])], []⟩
@[reducible] def w_FnExactLinOf_o : Sh := ⟨[.c (.leaf (.bool))], []⟩
noncomputable def w_FnExactLinOf_T (k : Nat) : Env := ((w_heldLinState_E k).at 0 k [] [] []).gated (fun _ => true)
noncomputable def w_FnExactLinOf (k : Nat) (x0 : List (Int × (Int × (Int × (Int × (Bool × Int)))))) (x1 : Int) (x2 : Int) (x3 : Int) : Option (Dt w_FnExactLinOf_o) := evFn (w_FnExactLinOf_T k) Try.f5 [.c (.agg [.ro q0 x0, .int .i64 x1, .int .i64 x2, .int .i64 x3])] [] (unOut w_FnExactLinOf_o)
theorem w_FnExactLinOf_eq (k : Nat) (x0 : List (Int × (Int × (Int × (Int × (Bool × Int)))))) (x1 : Int) (x2 : Int) (x3 : Int) : w_FnExactLinOf k x0 x1 x2 x3 =
  ((w_szArnArena k x0 x1 x2 x3 (1048576:Int)).bind fun y1 =>
  (if (decide (y1.1 < (0:Int))) = true then
  (some (true, ()))
 else
  ((w_toArnArena k x0 x1 x2 x3).bind fun y2 =>
  ((s_LinOf k y2.2.2.2.1 y2.1 y2.2.1 y2.2.2.1).bind fun y3 =>
  ((w_toArnArena k x0 x1 x2 x3).bind fun y4 =>
  ((i_LinOf k y4.2.2.2.1 y4.1 y4.2.1 y4.2.2.1).bind fun y5 =>
  ((w_eqLinState k y5.1 y5.2.1 y5.2.2.1 y3.1 y3.2.1 y3.2.2.1).bind fun y6 =>
  (if (!y6.1) = true then
  (some (false, ()))
 else
  ((w_toArnArena k x0 x1 x2 x3).bind fun y7 =>
  ((w_eqArnArena k y4.2.2.2.1 y4.1 y4.2.1 y4.2.2.1 y7.2.2.2.1 y7.1 y7.2.1 y7.2.2.1).bind fun y8 =>
  (if (!y8.1) = true then
  (some (false, ()))
 else
  ((w_markArnArena k y4.1 y4.2.1 y4.2.2.1 (1:Int) y4.2.2.2.1).bind fun y9 =>
  (if (decide (y9.1 < (0:Int))) = true then
  (some (false, ()))
 else
  ((w_eqLinState k y5.1 y5.2.1 y5.2.2.1 y3.1 y3.2.1 y3.2.2.1).bind fun y10 =>
  (if (!y10.1) = true then
  (some (false, ()))
 else
  ((w_markLinState k (1:Int) y5.1 y5.2.1 y5.2.2.1).bind fun y11 =>
  ((w_heldLinState k y11.2.1 y11.2.2.1 y11.2.2.2.1 (1:Int)).bind fun y12 =>
  (if (decide (y12.1 < (0:Int))) = true then
  (some (false, ()))
 else
  (if (decide (¬ y12.1 = y11.1)) = true then
  (some (false, ()))
 else
  ((w_toArnArena k x0 x1 x2 x3).bind fun y13 =>
  ((i_LinOf k y13.2.2.2.1 y13.1 y13.2.1 y13.2.2.1).bind fun y14 =>
  ((w_eqLinState k y14.1 y14.2.1 y14.2.2.1 y3.1 y3.2.1 y3.2.2.1).bind fun y15 =>
  (if (!y15.1) = true then
  (some (false, ()))
 else
  ((w_heldLinState k y11.2.1 y11.2.2.1 y11.2.2.2.1 (1:Int)).bind fun y16 =>
  (if (decide (y16.1 < (0:Int))) = true then
  (some (false, ()))
 else
  (if (decide (¬ y16.1 = y11.1)) = true then
  (some (false, ()))
 else
  (some (true, ())))))))))))))))))))))))))))) := by kernel_rfl
noncomputable def w_FnExactLinOf_G (k : Nat) : Dt w_FnExactLinOf_i → Option (Dt w_FnExactLinOf_o) := fun x => w_FnExactLinOf k x.1 x.2.1 x.2.2.1 x.2.2.2.1
theorem w_FnExactLinOf_c (k : Nat) : Comes1 (w_FnExactLinOf_T k) Try.f5 w_FnExactLinOf_i w_FnExactLinOf_o (w_FnExactLinOf_G k) := fun x => by kernel_rfl
noncomputable def w_FnExactLinOf_E (k : Nat) : Env := (w_heldLinState_E k).with 5 w_FnExactLinOf_i w_FnExactLinOf_o (w_FnExactLinOf_G k)
theorem w_FnExactLinOf_ok (k : Nat) : EnvOk Try.prog (w_FnExactLinOf_E k) := (w_heldLinState_ok k).with mixed (by decide) (by kernel_rfl) (by kernel_rfl) (w_FnExactLinOf_c k) (by kernel_rfl)
/-! ### loop.example/tuggers/laws.szIntS -/
@[reducible] def w_szIntS_i : Sh := ⟨[.c (.leaf (.ro (.int .i64))), .c (.leaf (.int .i64))], []⟩
@[reducible] def w_szIntS_o : Sh := ⟨[.c (.leaf (.int .i64))], []⟩
noncomputable def w_szIntS_T (k : Nat) : Env := ((w_FnExactLinOf_E k).at 0 k [] [] []).gated (fun _ => true)
noncomputable def w_szIntS (k : Nat) (x0 : List Int) (x1 : Int) : Option (Dt w_szIntS_o) := evFn (w_szIntS_T k) Try.f101 [.c (.leaf (.ro (.int .i64) x0)), .c (.leaf (.int .i64 x1))] [] (unOut w_szIntS_o)
theorem w_szIntS_eq (k : Nat) (x0 : List Int) (x1 : Int) : w_szIntS k x0 x1 =
  (if (decide ((W (x1 - (List.length x0 : Int))) < (0:Int))) = true then
  (some ((-1:Int), ()))
 else
  (some ((W (x1 - (List.length x0 : Int))), ()))) := by kernel_rfl
noncomputable def w_szIntS_G (k : Nat) : Dt w_szIntS_i → Option (Dt w_szIntS_o) := fun x => w_szIntS k x.1 x.2.1
theorem w_szIntS_c (k : Nat) : Comes1 (w_szIntS_T k) Try.f101 w_szIntS_i w_szIntS_o (w_szIntS_G k) := fun x => by kernel_rfl
noncomputable def w_szIntS_E (k : Nat) : Env := (w_FnExactLinOf_E k).with 101 w_szIntS_i w_szIntS_o (w_szIntS_G k)
theorem w_szIntS_ok (k : Nat) : EnvOk Try.prog (w_szIntS_E k) := (w_FnExactLinOf_ok k).with mixed (by decide) (by kernel_rfl) (by kernel_rfl) (w_szIntS_c k) (by kernel_rfl)
/-! ### loop.example/tuggers/laws.szPolOldS -/
@[reducible] def w_szPolOldS_i : Sh := ⟨[.c (.leaf (.ro q1)), .c (.leaf (.int .i64))], []⟩
@[reducible] def w_szPolOldS_o : Sh := ⟨[.c (.leaf (.int .i64))], []⟩
noncomputable def w_szPolOldS_T (k : Nat) : Env := ((w_szIntS_E k).at 0 k [] [] []).gated (fun _ => true)
noncomputable def w_szPolOldS (k : Nat) (x0 : List (Int × Int)) (x1 : Int) : Option (Dt w_szPolOldS_o) := evFn (w_szPolOldS_T k) Try.f179 [.c (.leaf (.ro q1 x0)), .c (.leaf (.int .i64 x1))] [] (unOut w_szPolOldS_o)
theorem w_szPolOldS_eq (k : Nat) (x0 : List (Int × Int)) (x1 : Int) : w_szPolOldS k x0 x1 =
  (if (decide ((W (x1 - (List.length x0 : Int))) < (0:Int))) = true then
  (some ((-1:Int), ()))
 else
  (some ((W (x1 - (List.length x0 : Int))), ()))) := by kernel_rfl
noncomputable def w_szPolOldS_G (k : Nat) : Dt w_szPolOldS_i → Option (Dt w_szPolOldS_o) := fun x => w_szPolOldS k x.1 x.2.1
theorem w_szPolOldS_c (k : Nat) : Comes1 (w_szPolOldS_T k) Try.f179 w_szPolOldS_i w_szPolOldS_o (w_szPolOldS_G k) := fun x => by kernel_rfl
noncomputable def w_szPolOldS_E (k : Nat) : Env := (w_szIntS_E k).with 179 w_szPolOldS_i w_szPolOldS_o (w_szPolOldS_G k)
theorem w_szPolOldS_ok (k : Nat) : EnvOk Try.prog (w_szPolOldS_E k) := (w_szIntS_ok k).with mixed (by decide) (by kernel_rfl) (by kernel_rfl) (w_szPolOldS_c k) (by kernel_rfl)
/-! ### loop.example/tuggers/laws.szPolOldSS -/
@[reducible] def w_szPolOldSS_i : Sh := ⟨[.c (.leaf (.ro (.list 221 q1))), .c (.leaf (.int .i64))], []⟩
@[reducible] def w_szPolOldSS_o : Sh := ⟨[.c (.leaf (.int .i64))], []⟩
noncomputable def w_szPolOldSS_T (k : Nat) : Env := ((w_szPolOldS_E k).at 0 k [] [(5, ⟨[0, 1, 5], []⟩)] []).gated (fun _ => true)
noncomputable def w_szPolOldSS_l5 (k n0 : Nat) (v0 : List (List (Int × Int))) (v1 : Int) (v2 : Int) : Option (Dt w_szPolOldSS_o) := atLoop (w_szPolOldSS_T k) (subF Try.f153 [.r, .r, .r, .l, .r, .l]) n0 ⟨tml 27 [(0, .c (.leaf (.ro (.list 221 q1) v0))), (1, .c (.leaf (.int .i64 v1))), (5, .c (.leaf (.int .i64 v2)))], []⟩ (kbl (subF Try.f153 [.r, .r, .r, .l, .r]) (ksq (w_szPolOldSS_T k) (subF Try.f153 [.r, .r, .r]) (kret (w_szPolOldSS_T k) Try.f153.results.toList (unOut w_szPolOldSS_o))))
noncomputable def w_szPolOldSS (k : Nat) (x0 : List (List (Int × Int))) (x1 : Int) : Option (Dt w_szPolOldSS_o) := evFn (w_szPolOldSS_T k) Try.f153 [.c (.leaf (.ro (.list 221 q1) x0)), .c (.leaf (.int .i64 x1))] [] (unOut w_szPolOldSS_o)
theorem w_szPolOldSS_l5_0 (k : Nat) (v0 : List (List (Int × Int))) (v1 : Int) (v2 : Int) : w_szPolOldSS_l5 k 0 v0 v1 v2 = none := by kernel_rfl
theorem w_szPolOldSS_l5_s (k n0 : Nat) (v0 : List (List (Int × Int))) (v1 : Int) (v2 : Int) : w_szPolOldSS_l5 k (n0 + 1) v0 v1 v2 =
  (if (decide (v2 < (List.length v0 : Int))) = true then
  (if (0:Int) ≤ v2 ∧ v2 < (List.length v0 : Int) then
  ((w_szPolOldS k (v0.getD (Int.toNat v2) []) v1).bind fun y1 =>
  (if (decide (y1.1 < (0:Int))) = true then
  (some ((-1:Int), ()))
 else
  (w_szPolOldSS_l5 k n0 v0 y1.1 (W (v2 + (1:Int))))))
 else none)
 else
  (some (v1, ()))) := by kernel_rfl
theorem w_szPolOldSS_eq (k : Nat) (x0 : List (List (Int × Int))) (x1 : Int) : w_szPolOldSS k x0 x1 =
  (if (decide ((W (x1 - (List.length x0 : Int))) < (0:Int))) = true then
  (some ((-1:Int), ()))
 else
  (w_szPolOldSS_l5 k k x0 (W (x1 - (List.length x0 : Int))) (0:Int))) := by kernel_rfl
noncomputable def w_szPolOldSS_G (k : Nat) : Dt w_szPolOldSS_i → Option (Dt w_szPolOldSS_o) := fun x => w_szPolOldSS k x.1 x.2.1
theorem w_szPolOldSS_c (k : Nat) : Comes1 (w_szPolOldSS_T k) Try.f153 w_szPolOldSS_i w_szPolOldSS_o (w_szPolOldSS_G k) := fun x => by kernel_rfl
noncomputable def w_szPolOldSS_E (k : Nat) : Env := (w_szPolOldS_E k).with 153 w_szPolOldSS_i w_szPolOldSS_o (w_szPolOldSS_G k)
theorem w_szPolOldSS_ok (k : Nat) : EnvOk Try.prog (w_szPolOldSS_E k) := (w_szPolOldS_ok k).with mixed (by decide) (by kernel_rfl) (by kernel_rfl) (w_szPolOldSS_c k) (by kernel_rfl)
/-! ### loop.example/tuggers/laws.szPolPool -/
@[reducible] def w_szPolPool_i : Sh := ⟨[.c (.agg [.int .i64, .ro (.int .i64), .ro (.list 221 q1)]), .c (.leaf (.int .i64))], []⟩
@[reducible] def w_szPolPool_o : Sh := ⟨[.c (.leaf (.int .i64))], []⟩
noncomputable def w_szPolPool_T (k : Nat) : Env := ((w_szPolOldSS_E k).at 0 k [] [] []).gated (fun _ => true)
noncomputable def w_szPolPool (k : Nat) (x0 : Int) (x1 : List Int) (x2 : List (List (Int × Int))) (x3 : Int) : Option (Dt w_szPolPool_o) := evFn (w_szPolPool_T k) Try.f81 [.c (.agg [.int .i64 x0, .ro (.int .i64) x1, .ro (.list 221 q1) x2]), .c (.leaf (.int .i64 x3))] [] (unOut w_szPolPool_o)
theorem w_szPolPool_eq (k : Nat) (x0 : Int) (x1 : List Int) (x2 : List (List (Int × Int))) (x3 : Int) : w_szPolPool k x0 x1 x2 x3 =
  ((w_szIntS k x1 x3).bind fun y1 =>
  (if (decide (y1.1 < (0:Int))) = true then
  (some ((-1:Int), ()))
 else
  ((w_szPolOldSS k x2 y1.1).bind fun y2 =>
  (if (decide (y2.1 < (0:Int))) = true then
  (some ((-1:Int), ()))
 else
  (some (y2.1, ())))))) := by kernel_rfl
noncomputable def w_szPolPool_G (k : Nat) : Dt w_szPolPool_i → Option (Dt w_szPolPool_o) := fun x => w_szPolPool k x.1 x.2.1 x.2.2.1 x.2.2.2.1
theorem w_szPolPool_c (k : Nat) : Comes1 (w_szPolPool_T k) Try.f81 w_szPolPool_i w_szPolPool_o (w_szPolPool_G k) := fun x => by kernel_rfl
noncomputable def w_szPolPool_E (k : Nat) : Env := (w_szPolOldSS_E k).with 81 w_szPolPool_i w_szPolPool_o (w_szPolPool_G k)
theorem w_szPolPool_ok (k : Nat) : EnvOk Try.prog (w_szPolPool_E k) := (w_szPolOldSS_ok k).with mixed (by decide) (by kernel_rfl) (by kernel_rfl) (w_szPolPool_c k) (by kernel_rfl)
/-! ### loop.example/tuggers/laws.szHndHand -/
@[reducible] def w_szHndHand_i : Sh := ⟨[.c (.agg [.int .i64, .int .i64, .int .i64, .int .i64, .int .i64, .int .i64, .int .i64, .int .i64, .int .i64, .int .i64, .int .i64, .int .i64, .int .i64, .int .i64, .int .i64, .int .i64, .int .i64, .int .i64, .int .i64, .int .i64, .bool, .str, .str, .int .i64, .int .i64]), .c (.leaf (.int .i64))], []⟩
@[reducible] def w_szHndHand_o : Sh := ⟨[.c (.leaf (.int .i64))], []⟩
noncomputable def w_szHndHand_T (k : Nat) : Env := ((w_szPolPool_E k).at 0 k [] [] []).gated (fun _ => true)
noncomputable def w_szHndHand (k : Nat) (x0 : Int) (x1 : Int) (x2 : Int) (x3 : Int) (x4 : Int) (x5 : Int) (x6 : Int) (x7 : Int) (x8 : Int) (x9 : Int) (x10 : Int) (x11 : Int) (x12 : Int) (x13 : Int) (x14 : Int) (x15 : Int) (x16 : Int) (x17 : Int) (x18 : Int) (x19 : Int) (x20 : Bool) (x21 : ByteArray) (x22 : ByteArray) (x23 : Int) (x24 : Int) (x25 : Int) : Option (Dt w_szHndHand_o) := evFn (w_szHndHand_T k) Try.f154 [.c (.agg [.int .i64 x0, .int .i64 x1, .int .i64 x2, .int .i64 x3, .int .i64 x4, .int .i64 x5, .int .i64 x6, .int .i64 x7, .int .i64 x8, .int .i64 x9, .int .i64 x10, .int .i64 x11, .int .i64 x12, .int .i64 x13, .int .i64 x14, .int .i64 x15, .int .i64 x16, .int .i64 x17, .int .i64 x18, .int .i64 x19, .bool x20, .str x21, .str x22, .int .i64 x23, .int .i64 x24]), .c (.leaf (.int .i64 x25))] [] (unOut w_szHndHand_o)
theorem w_szHndHand_eq (k : Nat) (x0 : Int) (x1 : Int) (x2 : Int) (x3 : Int) (x4 : Int) (x5 : Int) (x6 : Int) (x7 : Int) (x8 : Int) (x9 : Int) (x10 : Int) (x11 : Int) (x12 : Int) (x13 : Int) (x14 : Int) (x15 : Int) (x16 : Int) (x17 : Int) (x18 : Int) (x19 : Int) (x20 : Bool) (x21 : ByteArray) (x22 : ByteArray) (x23 : Int) (x24 : Int) (x25 : Int) : w_szHndHand k x0 x1 x2 x3 x4 x5 x6 x7 x8 x9 x10 x11 x12 x13 x14 x15 x16 x17 x18 x19 x20 x21 x22 x23 x24 x25 =
  (if (decide ((W (x25 - (ByteArray.size x21 : Int))) < (0:Int))) = true then
  (some ((-1:Int), ()))
 else
  (if (decide ((W ((W (x25 - (ByteArray.size x21 : Int))) - (ByteArray.size x22 : Int))) < (0:Int))) = true then
  (some ((-1:Int), ()))
 else
  (some ((W ((W (x25 - (ByteArray.size x21 : Int))) - (ByteArray.size x22 : Int))), ())))) := by kernel_rfl
noncomputable def w_szHndHand_G (k : Nat) : Dt w_szHndHand_i → Option (Dt w_szHndHand_o) := fun x => w_szHndHand k x.1 x.2.1 x.2.2.1 x.2.2.2.1 x.2.2.2.2.1 x.2.2.2.2.2.1 x.2.2.2.2.2.2.1 x.2.2.2.2.2.2.2.1 x.2.2.2.2.2.2.2.2.1 x.2.2.2.2.2.2.2.2.2.1 x.2.2.2.2.2.2.2.2.2.2.1 x.2.2.2.2.2.2.2.2.2.2.2.1 x.2.2.2.2.2.2.2.2.2.2.2.2.1 x.2.2.2.2.2.2.2.2.2.2.2.2.2.1 x.2.2.2.2.2.2.2.2.2.2.2.2.2.2.1 x.2.2.2.2.2.2.2.2.2.2.2.2.2.2.2.1 x.2.2.2.2.2.2.2.2.2.2.2.2.2.2.2.2.1 x.2.2.2.2.2.2.2.2.2.2.2.2.2.2.2.2.2.1 x.2.2.2.2.2.2.2.2.2.2.2.2.2.2.2.2.2.2.1 x.2.2.2.2.2.2.2.2.2.2.2.2.2.2.2.2.2.2.2.1 x.2.2.2.2.2.2.2.2.2.2.2.2.2.2.2.2.2.2.2.2.1 x.2.2.2.2.2.2.2.2.2.2.2.2.2.2.2.2.2.2.2.2.2.1 x.2.2.2.2.2.2.2.2.2.2.2.2.2.2.2.2.2.2.2.2.2.2.1 x.2.2.2.2.2.2.2.2.2.2.2.2.2.2.2.2.2.2.2.2.2.2.2.1 x.2.2.2.2.2.2.2.2.2.2.2.2.2.2.2.2.2.2.2.2.2.2.2.2.1 x.2.2.2.2.2.2.2.2.2.2.2.2.2.2.2.2.2.2.2.2.2.2.2.2.2.1
theorem w_szHndHand_c (k : Nat) : Comes1 (w_szHndHand_T k) Try.f154 w_szHndHand_i w_szHndHand_o (w_szHndHand_G k) := fun x => by kernel_rfl
noncomputable def w_szHndHand_E (k : Nat) : Env := (w_szPolPool_E k).with 154 w_szHndHand_i w_szHndHand_o (w_szHndHand_G k)
theorem w_szHndHand_ok (k : Nat) : EnvOk Try.prog (w_szHndHand_E k) := (w_szPolPool_ok k).with mixed (by decide) (by kernel_rfl) (by kernel_rfl) (w_szHndHand_c k) (by kernel_rfl)
/-! ### loop.example/tuggers/laws.szHndHandS -/
@[reducible] def w_szHndHandS_i : Sh := ⟨[.c (.leaf (.ro q2)), .c (.leaf (.int .i64))], []⟩
@[reducible] def w_szHndHandS_o : Sh := ⟨[.c (.leaf (.int .i64))], []⟩
noncomputable def w_szHndHandS_T (k : Nat) : Env := ((w_szHndHand_E k).at 0 k [] [(5, ⟨[0, 1, 5], []⟩)] []).gated (fun _ => true)
noncomputable def w_szHndHandS_l5 (k n0 : Nat) (v0 : List (Int × ((Int × (Int × Int)) × (Int × ((Int × Int) × ((Int × Int) × (Int × (Int × ((Int × Int) × ((Int × Int) × (Int × (Int × ((Int × Int) × (Int × (Bool × (ByteArray × (ByteArray × (Int × Int)))))))))))))))))) (v1 : Int) (v2 : Int) : Option (Dt w_szHndHandS_o) := atLoop (w_szHndHandS_T k) (subF Try.f82 [.r, .r, .r, .l, .r, .l]) n0 ⟨tml 27 [(0, .c (.leaf (.ro q2 v0))), (1, .c (.leaf (.int .i64 v1))), (5, .c (.leaf (.int .i64 v2)))], []⟩ (kbl (subF Try.f82 [.r, .r, .r, .l, .r]) (ksq (w_szHndHandS_T k) (subF Try.f82 [.r, .r, .r]) (kret (w_szHndHandS_T k) Try.f82.results.toList (unOut w_szHndHandS_o))))
noncomputable def w_szHndHandS (k : Nat) (x0 : List (Int × ((Int × (Int × Int)) × (Int × ((Int × Int) × ((Int × Int) × (Int × (Int × ((Int × Int) × ((Int × Int) × (Int × (Int × ((Int × Int) × (Int × (Bool × (ByteArray × (ByteArray × (Int × Int)))))))))))))))))) (x1 : Int) : Option (Dt w_szHndHandS_o) := evFn (w_szHndHandS_T k) Try.f82 [.c (.leaf (.ro q2 x0)), .c (.leaf (.int .i64 x1))] [] (unOut w_szHndHandS_o)
theorem w_szHndHandS_l5_0 (k : Nat) (v0 : List (Int × ((Int × (Int × Int)) × (Int × ((Int × Int) × ((Int × Int) × (Int × (Int × ((Int × Int) × ((Int × Int) × (Int × (Int × ((Int × Int) × (Int × (Bool × (ByteArray × (ByteArray × (Int × Int)))))))))))))))))) (v1 : Int) (v2 : Int) : w_szHndHandS_l5 k 0 v0 v1 v2 = none := by kernel_rfl
theorem w_szHndHandS_l5_s (k n0 : Nat) (v0 : List (Int × ((Int × (Int × Int)) × (Int × ((Int × Int) × ((Int × Int) × (Int × (Int × ((Int × Int) × ((Int × Int) × (Int × (Int × ((Int × Int) × (Int × (Bool × (ByteArray × (ByteArray × (Int × Int)))))))))))))))))) (v1 : Int) (v2 : Int) : w_szHndHandS_l5 k (n0 + 1) v0 v1 v2 =
  (if (decide (v2 < (List.length v0 : Int))) = true then
  (if (0:Int) ≤ v2 ∧ v2 < (List.length v0 : Int) then
  ((w_szHndHand k (v0.getD (Int.toNat v2) ((0:Int), (((0:Int), ((0:Int), (0:Int))), ((0:Int), (((0:Int), (0:Int)), (((0:Int), (0:Int)), ((0:Int), ((0:Int), (((0:Int), (0:Int)), (((0:Int), (0:Int)), ((0:Int), ((0:Int), (((0:Int), (0:Int)), ((0:Int), (false, (ByteArray.empty, (ByteArray.empty, ((0:Int), (0:Int))))))))))))))))))).1 (v0.getD (Int.toNat v2) ((0:Int), (((0:Int), ((0:Int), (0:Int))), ((0:Int), (((0:Int), (0:Int)), (((0:Int), (0:Int)), ((0:Int), ((0:Int), (((0:Int), (0:Int)), (((0:Int), (0:Int)), ((0:Int), ((0:Int), (((0:Int), (0:Int)), ((0:Int), (false, (ByteArray.empty, (ByteArray.empty, ((0:Int), (0:Int))))))))))))))))))).2.1.1 (v0.getD (Int.toNat v2) ((0:Int), (((0:Int), ((0:Int), (0:Int))), ((0:Int), (((0:Int), (0:Int)), (((0:Int), (0:Int)), ((0:Int), ((0:Int), (((0:Int), (0:Int)), (((0:Int), (0:Int)), ((0:Int), ((0:Int), (((0:Int), (0:Int)), ((0:Int), (false, (ByteArray.empty, (ByteArray.empty, ((0:Int), (0:Int))))))))))))))))))).2.1.2.1 (v0.getD (Int.toNat v2) ((0:Int), (((0:Int), ((0:Int), (0:Int))), ((0:Int), (((0:Int), (0:Int)), (((0:Int), (0:Int)), ((0:Int), ((0:Int), (((0:Int), (0:Int)), (((0:Int), (0:Int)), ((0:Int), ((0:Int), (((0:Int), (0:Int)), ((0:Int), (false, (ByteArray.empty, (ByteArray.empty, ((0:Int), (0:Int))))))))))))))))))).2.1.2.2 (v0.getD (Int.toNat v2) ((0:Int), (((0:Int), ((0:Int), (0:Int))), ((0:Int), (((0:Int), (0:Int)), (((0:Int), (0:Int)), ((0:Int), ((0:Int), (((0:Int), (0:Int)), (((0:Int), (0:Int)), ((0:Int), ((0:Int), (((0:Int), (0:Int)), ((0:Int), (false, (ByteArray.empty, (ByteArray.empty, ((0:Int), (0:Int))))))))))))))))))).2.2.1 (v0.getD (Int.toNat v2) ((0:Int), (((0:Int), ((0:Int), (0:Int))), ((0:Int), (((0:Int), (0:Int)), (((0:Int), (0:Int)), ((0:Int), ((0:Int), (((0:Int), (0:Int)), (((0:Int), (0:Int)), ((0:Int), ((0:Int), (((0:Int), (0:Int)), ((0:Int), (false, (ByteArray.empty, (ByteArray.empty, ((0:Int), (0:Int))))))))))))))))))).2.2.2.1.1 (v0.getD (Int.toNat v2) ((0:Int), (((0:Int), ((0:Int), (0:Int))), ((0:Int), (((0:Int), (0:Int)), (((0:Int), (0:Int)), ((0:Int), ((0:Int), (((0:Int), (0:Int)), (((0:Int), (0:Int)), ((0:Int), ((0:Int), (((0:Int), (0:Int)), ((0:Int), (false, (ByteArray.empty, (ByteArray.empty, ((0:Int), (0:Int))))))))))))))))))).2.2.2.1.2 (v0.getD (Int.toNat v2) ((0:Int), (((0:Int), ((0:Int), (0:Int))), ((0:Int), (((0:Int), (0:Int)), (((0:Int), (0:Int)), ((0:Int), ((0:Int), (((0:Int), (0:Int)), (((0:Int), (0:Int)), ((0:Int), ((0:Int), (((0:Int), (0:Int)), ((0:Int), (false, (ByteArray.empty, (ByteArray.empty, ((0:Int), (0:Int))))))))))))))))))).2.2.2.2.1.1 (v0.getD (Int.toNat v2) ((0:Int), (((0:Int), ((0:Int), (0:Int))), ((0:Int), (((0:Int), (0:Int)), (((0:Int), (0:Int)), ((0:Int), ((0:Int), (((0:Int), (0:Int)), (((0:Int), (0:Int)), ((0:Int), ((0:Int), (((0:Int), (0:Int)), ((0:Int), (false, (ByteArray.empty, (ByteArray.empty, ((0:Int), (0:Int))))))))))))))))))).2.2.2.2.1.2 (v0.getD (Int.toNat v2) ((0:Int), (((0:Int), ((0:Int), (0:Int))), ((0:Int), (((0:Int), (0:Int)), (((0:Int), (0:Int)), ((0:Int), ((0:Int), (((0:Int), (0:Int)), (((0:Int), (0:Int)), ((0:Int), ((0:Int), (((0:Int), (0:Int)), ((0:Int), (false, (ByteArray.empty, (ByteArray.empty, ((0:Int), (0:Int))))))))))))))))))).2.2.2.2.2.1 (v0.getD (Int.toNat v2) ((0:Int), (((0:Int), ((0:Int), (0:Int))), ((0:Int), (((0:Int), (0:Int)), (((0:Int), (0:Int)), ((0:Int), ((0:Int), (((0:Int), (0:Int)), (((0:Int), (0:Int)), ((0:Int), ((0:Int), (((0:Int), (0:Int)), ((0:Int), (false, (ByteArray.empty, (ByteArray.empty, ((0:Int), (0:Int))))))))))))))))))).2.2.2.2.2.2.1 (v0.getD (Int.toNat v2) ((0:Int), (((0:Int), ((0:Int), (0:Int))), ((0:Int), (((0:Int), (0:Int)), (((0:Int), (0:Int)), ((0:Int), ((0:Int), (((0:Int), (0:Int)), (((0:Int), (0:Int)), ((0:Int), ((0:Int), (((0:Int), (0:Int)), ((0:Int), (false, (ByteArray.empty, (ByteArray.empty, ((0:Int), (0:Int))))))))))))))))))).2.2.2.2.2.2.2.1.1 (v0.getD (Int.toNat v2) ((0:Int), (((0:Int), ((0:Int), (0:Int))), ((0:Int), (((0:Int), (0:Int)), (((0:Int), (0:Int)), ((0:Int), ((0:Int), (((0:Int), (0:Int)), (((0:Int), (0:Int)), ((0:Int), ((0:Int), (((0:Int), (0:Int)), ((0:Int), (false, (ByteArray.empty, (ByteArray.empty, ((0:Int), (0:Int))))))))))))))))))).2.2.2.2.2.2.2.1.2 (v0.getD (Int.toNat v2) ((0:Int), (((0:Int), ((0:Int), (0:Int))), ((0:Int), (((0:Int), (0:Int)), (((0:Int), (0:Int)), ((0:Int), ((0:Int), (((0:Int), (0:Int)), (((0:Int), (0:Int)), ((0:Int), ((0:Int), (((0:Int), (0:Int)), ((0:Int), (false, (ByteArray.empty, (ByteArray.empty, ((0:Int), (0:Int))))))))))))))))))).2.2.2.2.2.2.2.2.1.1 (v0.getD (Int.toNat v2) ((0:Int), (((0:Int), ((0:Int), (0:Int))), ((0:Int), (((0:Int), (0:Int)), (((0:Int), (0:Int)), ((0:Int), ((0:Int), (((0:Int), (0:Int)), (((0:Int), (0:Int)), ((0:Int), ((0:Int), (((0:Int), (0:Int)), ((0:Int), (false, (ByteArray.empty, (ByteArray.empty, ((0:Int), (0:Int))))))))))))))))))).2.2.2.2.2.2.2.2.1.2 (v0.getD (Int.toNat v2) ((0:Int), (((0:Int), ((0:Int), (0:Int))), ((0:Int), (((0:Int), (0:Int)), (((0:Int), (0:Int)), ((0:Int), ((0:Int), (((0:Int), (0:Int)), (((0:Int), (0:Int)), ((0:Int), ((0:Int), (((0:Int), (0:Int)), ((0:Int), (false, (ByteArray.empty, (ByteArray.empty, ((0:Int), (0:Int))))))))))))))))))).2.2.2.2.2.2.2.2.2.1 (v0.getD (Int.toNat v2) ((0:Int), (((0:Int), ((0:Int), (0:Int))), ((0:Int), (((0:Int), (0:Int)), (((0:Int), (0:Int)), ((0:Int), ((0:Int), (((0:Int), (0:Int)), (((0:Int), (0:Int)), ((0:Int), ((0:Int), (((0:Int), (0:Int)), ((0:Int), (false, (ByteArray.empty, (ByteArray.empty, ((0:Int), (0:Int))))))))))))))))))).2.2.2.2.2.2.2.2.2.2.1 (v0.getD (Int.toNat v2) ((0:Int), (((0:Int), ((0:Int), (0:Int))), ((0:Int), (((0:Int), (0:Int)), (((0:Int), (0:Int)), ((0:Int), ((0:Int), (((0:Int), (0:Int)), (((0:Int), (0:Int)), ((0:Int), ((0:Int), (((0:Int), (0:Int)), ((0:Int), (false, (ByteArray.empty, (ByteArray.empty, ((0:Int), (0:Int))))))))))))))))))).2.2.2.2.2.2.2.2.2.2.2.1.1 (v0.getD (Int.toNat v2) ((0:Int), (((0:Int), ((0:Int), (0:Int))), ((0:Int), (((0:Int), (0:Int)), (((0:Int), (0:Int)), ((0:Int), ((0:Int), (((0:Int), (0:Int)), (((0:Int), (0:Int)), ((0:Int), ((0:Int), (((0:Int), (0:Int)), ((0:Int), (false, (ByteArray.empty, (ByteArray.empty, ((0:Int), (0:Int))))))))))))))))))).2.2.2.2.2.2.2.2.2.2.2.1.2 (v0.getD (Int.toNat v2) ((0:Int), (((0:Int), ((0:Int), (0:Int))), ((0:Int), (((0:Int), (0:Int)), (((0:Int), (0:Int)), ((0:Int), ((0:Int), (((0:Int), (0:Int)), (((0:Int), (0:Int)), ((0:Int), ((0:Int), (((0:Int), (0:Int)), ((0:Int), (false, (ByteArray.empty, (ByteArray.empty, ((0:Int), (0:Int))))))))))))))))))).2.2.2.2.2.2.2.2.2.2.2.2.1 (v0.getD (Int.toNat v2) ((0:Int), (((0:Int), ((0:Int), (0:Int))), ((0:Int), (((0:Int), (0:Int)), (((0:Int), (0:Int)), ((0:Int), ((0:Int), (((0:Int), (0:Int)), (((0:Int), (0:Int)), ((0:Int), ((0:Int), (((0:Int), (0:Int)), ((0:Int), (false, (ByteArray.empty, (ByteArray.empty, ((0:Int), (0:Int))))))))))))))))))).2.2.2.2.2.2.2.2.2.2.2.2.2.1 (v0.getD (Int.toNat v2) ((0:Int), (((0:Int), ((0:Int), (0:Int))), ((0:Int), (((0:Int), (0:Int)), (((0:Int), (0:Int)), ((0:Int), ((0:Int), (((0:Int), (0:Int)), (((0:Int), (0:Int)), ((0:Int), ((0:Int), (((0:Int), (0:Int)), ((0:Int), (false, (ByteArray.empty, (ByteArray.empty, ((0:Int), (0:Int))))))))))))))))))).2.2.2.2.2.2.2.2.2.2.2.2.2.2.1 (v0.getD (Int.toNat v2) ((0:Int), (((0:Int), ((0:Int), (0:Int))), ((0:Int), (((0:Int), (0:Int)), (((0:Int), (0:Int)), ((0:Int), ((0:Int), (((0:Int), (0:Int)), (((0:Int), (0:Int)), ((0:Int), ((0:Int), (((0:Int), (0:Int)), ((0:Int), (false, (ByteArray.empty, (ByteArray.empty, ((0:Int), (0:Int))))))))))))))))))).2.2.2.2.2.2.2.2.2.2.2.2.2.2.2.1 (v0.getD (Int.toNat v2) ((0:Int), (((0:Int), ((0:Int), (0:Int))), ((0:Int), (((0:Int), (0:Int)), (((0:Int), (0:Int)), ((0:Int), ((0:Int), (((0:Int), (0:Int)), (((0:Int), (0:Int)), ((0:Int), ((0:Int), (((0:Int), (0:Int)), ((0:Int), (false, (ByteArray.empty, (ByteArray.empty, ((0:Int), (0:Int))))))))))))))))))).2.2.2.2.2.2.2.2.2.2.2.2.2.2.2.2.1 (v0.getD (Int.toNat v2) ((0:Int), (((0:Int), ((0:Int), (0:Int))), ((0:Int), (((0:Int), (0:Int)), (((0:Int), (0:Int)), ((0:Int), ((0:Int), (((0:Int), (0:Int)), (((0:Int), (0:Int)), ((0:Int), ((0:Int), (((0:Int), (0:Int)), ((0:Int), (false, (ByteArray.empty, (ByteArray.empty, ((0:Int), (0:Int))))))))))))))))))).2.2.2.2.2.2.2.2.2.2.2.2.2.2.2.2.2 v1).bind fun y1 =>
  (if (decide (y1.1 < (0:Int))) = true then
  (some ((-1:Int), ()))
 else
  (w_szHndHandS_l5 k n0 v0 y1.1 (W (v2 + (1:Int))))))
 else none)
 else
  (some (v1, ()))) := by kernel_rfl
theorem w_szHndHandS_eq (k : Nat) (x0 : List (Int × ((Int × (Int × Int)) × (Int × ((Int × Int) × ((Int × Int) × (Int × (Int × ((Int × Int) × ((Int × Int) × (Int × (Int × ((Int × Int) × (Int × (Bool × (ByteArray × (ByteArray × (Int × Int)))))))))))))))))) (x1 : Int) : w_szHndHandS k x0 x1 =
  (if (decide ((W (x1 - (List.length x0 : Int))) < (0:Int))) = true then
  (some ((-1:Int), ()))
 else
  (w_szHndHandS_l5 k k x0 (W (x1 - (List.length x0 : Int))) (0:Int))) := by kernel_rfl
noncomputable def w_szHndHandS_G (k : Nat) : Dt w_szHndHandS_i → Option (Dt w_szHndHandS_o) := fun x => w_szHndHandS k x.1 x.2.1
theorem w_szHndHandS_c (k : Nat) : Comes1 (w_szHndHandS_T k) Try.f82 w_szHndHandS_i w_szHndHandS_o (w_szHndHandS_G k) := fun x => by kernel_rfl
noncomputable def w_szHndHandS_E (k : Nat) : Env := (w_szHndHand_E k).with 82 w_szHndHandS_i w_szHndHandS_o (w_szHndHandS_G k)
theorem w_szHndHandS_ok (k : Nat) : EnvOk Try.prog (w_szHndHandS_E k) := (w_szHndHand_ok k).with mixed (by decide) (by kernel_rfl) (by kernel_rfl) (w_szHndHandS_c k) (by kernel_rfl)
/-! ### loop.example/tuggers/laws.szLogRecS -/
@[reducible] def w_szLogRecS_i : Sh := ⟨[.c (.leaf (.ro q3)), .c (.leaf (.int .i64))], []⟩
@[reducible] def w_szLogRecS_o : Sh := ⟨[.c (.leaf (.int .i64))], []⟩
noncomputable def w_szLogRecS_T (k : Nat) : Env := ((w_szHndHandS_E k).at 0 k [] [] []).gated (fun _ => true)
noncomputable def w_szLogRecS (k : Nat) (x0 : List (Int × ((Int × (Int × Int)) × ((Int × Int) × (Int × (Int × Int)))))) (x1 : Int) : Option (Dt w_szLogRecS_o) := evFn (w_szLogRecS_T k) Try.f83 [.c (.leaf (.ro q3 x0)), .c (.leaf (.int .i64 x1))] [] (unOut w_szLogRecS_o)
theorem w_szLogRecS_eq (k : Nat) (x0 : List (Int × ((Int × (Int × Int)) × ((Int × Int) × (Int × (Int × Int)))))) (x1 : Int) : w_szLogRecS k x0 x1 =
  (if (decide ((W (x1 - (List.length x0 : Int))) < (0:Int))) = true then
  (some ((-1:Int), ()))
 else
  (some ((W (x1 - (List.length x0 : Int))), ()))) := by kernel_rfl
noncomputable def w_szLogRecS_G (k : Nat) : Dt w_szLogRecS_i → Option (Dt w_szLogRecS_o) := fun x => w_szLogRecS k x.1 x.2.1
theorem w_szLogRecS_c (k : Nat) : Comes1 (w_szLogRecS_T k) Try.f83 w_szLogRecS_i w_szLogRecS_o (w_szLogRecS_G k) := fun x => by kernel_rfl
noncomputable def w_szLogRecS_E (k : Nat) : Env := (w_szHndHandS_E k).with 83 w_szLogRecS_i w_szLogRecS_o (w_szLogRecS_G k)
theorem w_szLogRecS_ok (k : Nat) : EnvOk Try.prog (w_szLogRecS_E k) := (w_szHndHandS_ok k).with mixed (by decide) (by kernel_rfl) (by kernel_rfl) (w_szLogRecS_c k) (by kernel_rfl)
/-! ### loop.example/tuggers/laws.szWldWorld -/
@[reducible] def w_szWldWorld_i : Sh := ⟨[.c (.agg [.ro q0, .int .i64, .int .i64, .int .i64, .int .i64, .ro (.int .i64), .ro (.list 221 q1), .ro q2, .int .i64, .ro q3]), .c (.leaf (.int .i64))], []⟩
@[reducible] def w_szWldWorld_o : Sh := ⟨[.c (.leaf (.int .i64))], []⟩
noncomputable def w_szWldWorld_T (k : Nat) : Env := ((w_szLogRecS_E k).at 0 k [] [] []).gated (fun _ => true)
noncomputable def w_szWldWorld (k : Nat) (x0 : List (Int × (Int × (Int × (Int × (Bool × Int)))))) (x1 : Int) (x2 : Int) (x3 : Int) (x4 : Int) (x5 : List Int) (x6 : List (List (Int × Int))) (x7 : List (Int × ((Int × (Int × Int)) × (Int × ((Int × Int) × ((Int × Int) × (Int × (Int × ((Int × Int) × ((Int × Int) × (Int × (Int × ((Int × Int) × (Int × (Bool × (ByteArray × (ByteArray × (Int × Int)))))))))))))))))) (x8 : Int) (x9 : List (Int × ((Int × (Int × Int)) × ((Int × Int) × (Int × (Int × Int)))))) (x10 : Int) : Option (Dt w_szWldWorld_o) := evFn (w_szWldWorld_T k) Try.f32 [.c (.agg [.ro q0 x0, .int .i64 x1, .int .i64 x2, .int .i64 x3, .int .i64 x4, .ro (.int .i64) x5, .ro (.list 221 q1) x6, .ro q2 x7, .int .i64 x8, .ro q3 x9]), .c (.leaf (.int .i64 x10))] [] (unOut w_szWldWorld_o)
theorem w_szWldWorld_eq (k : Nat) (x0 : List (Int × (Int × (Int × (Int × (Bool × Int)))))) (x1 : Int) (x2 : Int) (x3 : Int) (x4 : Int) (x5 : List Int) (x6 : List (List (Int × Int))) (x7 : List (Int × ((Int × (Int × Int)) × (Int × ((Int × Int) × ((Int × Int) × (Int × (Int × ((Int × Int) × ((Int × Int) × (Int × (Int × ((Int × Int) × (Int × (Bool × (ByteArray × (ByteArray × (Int × Int)))))))))))))))))) (x8 : Int) (x9 : List (Int × ((Int × (Int × Int)) × ((Int × Int) × (Int × (Int × Int)))))) (x10 : Int) : w_szWldWorld k x0 x1 x2 x3 x4 x5 x6 x7 x8 x9 x10 =
  ((w_szArnArena k x0 x1 x2 x3 x10).bind fun y1 =>
  (if (decide (y1.1 < (0:Int))) = true then
  (some ((-1:Int), ()))
 else
  ((w_szPolPool k x4 x5 x6 y1.1).bind fun y2 =>
  (if (decide (y2.1 < (0:Int))) = true then
  (some ((-1:Int), ()))
 else
  ((w_szHndHandS k x7 y2.1).bind fun y3 =>
  (if (decide (y3.1 < (0:Int))) = true then
  (some ((-1:Int), ()))
 else
  ((w_szLogRecS k x9 y3.1).bind fun y4 =>
  (if (decide (y4.1 < (0:Int))) = true then
  (some ((-1:Int), ()))
 else
  (some (y4.1, ())))))))))) := by kernel_rfl
noncomputable def w_szWldWorld_G (k : Nat) : Dt w_szWldWorld_i → Option (Dt w_szWldWorld_o) := fun x => w_szWldWorld k x.1 x.2.1 x.2.2.1 x.2.2.2.1 x.2.2.2.2.1 x.2.2.2.2.2.1 x.2.2.2.2.2.2.1 x.2.2.2.2.2.2.2.1 x.2.2.2.2.2.2.2.2.1 x.2.2.2.2.2.2.2.2.2.1 x.2.2.2.2.2.2.2.2.2.2.1
theorem w_szWldWorld_c (k : Nat) : Comes1 (w_szWldWorld_T k) Try.f32 w_szWldWorld_i w_szWldWorld_o (w_szWldWorld_G k) := fun x => by kernel_rfl
noncomputable def w_szWldWorld_E (k : Nat) : Env := (w_szLogRecS_E k).with 32 w_szWldWorld_i w_szWldWorld_o (w_szWldWorld_G k)
theorem w_szWldWorld_ok (k : Nat) : EnvOk Try.prog (w_szWldWorld_E k) := (w_szLogRecS_ok k).with mixed (by decide) (by kernel_rfl) (by kernel_rfl) (w_szWldWorld_c k) (by kernel_rfl)
/-! ### loop.example/tuggers/laws.toIntS -/
@[reducible] def w_toIntS_i : Sh := ⟨[.c (.leaf (.ro (.int .i64)))], []⟩
@[reducible] def w_toIntS_o : Sh := ⟨[.c (.leaf (.own 0))], [(0, .rows 3 (.int .i64))]⟩
noncomputable def w_toIntS_T (k : Nat) : Env := ((w_szWldWorld_E k).at 0 k [] [(3, ⟨[0, 3, 4], []⟩)] [⟨2, false, 0, 3, (.int .i64)⟩]).gated (fun _ => true)
noncomputable def w_toIntS_l3 (k n0 : Nat) (v0 : List Int) (v1 : Int) (v2 : List Int) : Option (Dt w_toIntS_o) := atLoop (w_toIntS_T k) (subF Try.f113 [.r, .r, .l, .r, .l]) n0 ⟨tml 22 [(0, .c (.leaf (.ro (.int .i64) v0))), (3, .c (.leaf (.own 0))), (4, .c (.leaf (.int .i64 v1)))], [(0, .rows 3 (.int .i64) v2)]⟩ (kbl (subF Try.f113 [.r, .r, .l, .r]) (ksq (w_toIntS_T k) (subF Try.f113 [.r, .r]) (kret (w_toIntS_T k) Try.f113.results.toList (unOut w_toIntS_o))))
noncomputable def w_toIntS (k : Nat) (x0 : List Int) : Option (Dt w_toIntS_o) := evFn (w_toIntS_T k) Try.f113 [.c (.leaf (.ro (.int .i64) x0))] [] (unOut w_toIntS_o)
theorem w_toIntS_l3_0 (k : Nat) (v0 : List Int) (v1 : Int) (v2 : List Int) : w_toIntS_l3 k 0 v0 v1 v2 = none := by kernel_rfl
theorem w_toIntS_l3_s (k n0 : Nat) (v0 : List Int) (v1 : Int) (v2 : List Int) : w_toIntS_l3 k (n0 + 1) v0 v1 v2 =
  (if (decide (v1 < (List.length v0 : Int))) = true then
  (if (0:Int) ≤ v1 ∧ v1 < (List.length v0 : Int) then
  (if (0:Int) ≤ v1 ∧ v1 < (List.length v2 : Int) then
  (w_toIntS_l3 k n0 v0 (W (v1 + (1:Int))) (v2.set (Int.toNat v1) (v0.getD (Int.toNat v1) (0:Int))))
 else none)
 else none)
 else
  (some (v2, ()))) := by kernel_rfl
theorem w_toIntS_eq (k : Nat) (x0 : List Int) : w_toIntS k x0 =
  (if (0:Int) ≤ (List.length x0 : Int) ∧ (List.length x0 : Int) ≤ (LB : Int) ∧ (List.length x0 : Int) = (List.length x0 : Int) then
  (w_toIntS_l3 k k x0 (0:Int) (List.replicate (Int.toNat (List.length x0 : Int)) (0:Int)))
 else none) := by kernel_rfl
noncomputable def w_toIntS_G (k : Nat) : Dt w_toIntS_i → Option (Dt w_toIntS_o) := fun x => w_toIntS k x.1
theorem w_toIntS_c (k : Nat) : Comes1 (w_toIntS_T k) Try.f113 w_toIntS_i w_toIntS_o (w_toIntS_G k) := fun x => by kernel_rfl
noncomputable def w_toIntS_E (k : Nat) : Env := (w_szWldWorld_E k).with 113 w_toIntS_i w_toIntS_o (w_toIntS_G k)
theorem w_toIntS_ok (k : Nat) : EnvOk Try.prog (w_toIntS_E k) := (w_szWldWorld_ok k).with mixed (by decide) (by kernel_rfl) (by kernel_rfl) (w_toIntS_c k) (by kernel_rfl)
/-! ### loop.example/tuggers/laws.toPolOld -/
@[reducible] def w_toPolOld_i : Sh := ⟨[.c (.agg [.int .i64, .int .i64])], []⟩
@[reducible] def w_toPolOld_o : Sh := ⟨[.c (.agg [.int .i64, .int .i64])], []⟩
noncomputable def w_toPolOld_T (k : Nat) : Env := ((w_toIntS_E k).at 0 k [] [] []).gated (fun _ => true)
noncomputable def w_toPolOld (k : Nat) (x0 : Int) (x1 : Int) : Option (Dt w_toPolOld_o) := evFn (w_toPolOld_T k) Try.f193 [.c (.agg [.int .i64 x0, .int .i64 x1])] [] (unOut w_toPolOld_o)
theorem w_toPolOld_eq (k : Nat) (x0 : Int) (x1 : Int) : w_toPolOld k x0 x1 =
  (some (x0, x1, ())) := by kernel_rfl
noncomputable def w_toPolOld_G (k : Nat) : Dt w_toPolOld_i → Option (Dt w_toPolOld_o) := fun x => w_toPolOld k x.1 x.2.1
theorem w_toPolOld_c (k : Nat) : Comes1 (w_toPolOld_T k) Try.f193 w_toPolOld_i w_toPolOld_o (w_toPolOld_G k) := fun x => by kernel_rfl
noncomputable def w_toPolOld_E (k : Nat) : Env := (w_toIntS_E k).with 193 w_toPolOld_i w_toPolOld_o (w_toPolOld_G k)
theorem w_toPolOld_ok (k : Nat) : EnvOk Try.prog (w_toPolOld_E k) := (w_toIntS_ok k).with mixed (by decide) (by kernel_rfl) (by kernel_rfl) (w_toPolOld_c k) (by kernel_rfl)
/-! ### loop.example/tuggers/laws.toPolOldS -/
@[reducible] def w_toPolOldS_i : Sh := ⟨[.c (.leaf (.ro q1))], []⟩
@[reducible] def w_toPolOldS_o : Sh := ⟨[.c (.leaf (.own 0))], [(0, .rows 219 q1)]⟩
noncomputable def w_toPolOldS_T (k : Nat) : Env := ((w_toPolOld_E k).at 0 k [] [(3, ⟨[0, 3, 4], []⟩)] [⟨2, false, 0, 219, q1⟩]).gated (fun _ => true)
noncomputable def w_toPolOldS_l3 (k n0 : Nat) (v0 : List (Int × Int)) (v1 : Int) (v2 : List (Int × Int)) : Option (Dt w_toPolOldS_o) := atLoop (w_toPolOldS_T k) (subF Try.f180 [.r, .r, .l, .r, .l]) n0 ⟨tml 23 [(0, .c (.leaf (.ro q1 v0))), (3, .c (.leaf (.own 0))), (4, .c (.leaf (.int .i64 v1)))], [(0, .rows 219 q1 v2)]⟩ (kbl (subF Try.f180 [.r, .r, .l, .r]) (ksq (w_toPolOldS_T k) (subF Try.f180 [.r, .r]) (kret (w_toPolOldS_T k) Try.f180.results.toList (unOut w_toPolOldS_o))))
noncomputable def w_toPolOldS (k : Nat) (x0 : List (Int × Int)) : Option (Dt w_toPolOldS_o) := evFn (w_toPolOldS_T k) Try.f180 [.c (.leaf (.ro q1 x0))] [] (unOut w_toPolOldS_o)
theorem w_toPolOldS_l3_0 (k : Nat) (v0 : List (Int × Int)) (v1 : Int) (v2 : List (Int × Int)) : w_toPolOldS_l3 k 0 v0 v1 v2 = none := by kernel_rfl
theorem w_toPolOldS_l3_s (k n0 : Nat) (v0 : List (Int × Int)) (v1 : Int) (v2 : List (Int × Int)) : w_toPolOldS_l3 k (n0 + 1) v0 v1 v2 =
  (if (decide (v1 < (List.length v0 : Int))) = true then
  (if (0:Int) ≤ v1 ∧ v1 < (List.length v0 : Int) then
  ((w_toPolOld k (v0.getD (Int.toNat v1) ((0:Int), (0:Int))).1 (v0.getD (Int.toNat v1) ((0:Int), (0:Int))).2).bind fun y1 =>
  (if (0:Int) ≤ v1 ∧ v1 < (List.length v2 : Int) then
  (w_toPolOldS_l3 k n0 v0 (W (v1 + (1:Int))) (v2.set (Int.toNat v1) (y1.1, y1.2.1)))
 else none))
 else none)
 else
  (some (v2, ()))) := by kernel_rfl
theorem w_toPolOldS_eq (k : Nat) (x0 : List (Int × Int)) : w_toPolOldS k x0 =
  (if (0:Int) ≤ (List.length x0 : Int) ∧ (List.length x0 : Int) ≤ (LB : Int) ∧ (List.length x0 : Int) = (List.length x0 : Int) then
  (w_toPolOldS_l3 k k x0 (0:Int) (List.replicate (Int.toNat (List.length x0 : Int)) ((0:Int), (0:Int))))
 else none) := by kernel_rfl
noncomputable def w_toPolOldS_G (k : Nat) : Dt w_toPolOldS_i → Option (Dt w_toPolOldS_o) := fun x => w_toPolOldS k x.1
theorem w_toPolOldS_c (k : Nat) : Comes1 (w_toPolOldS_T k) Try.f180 w_toPolOldS_i w_toPolOldS_o (w_toPolOldS_G k) := fun x => by kernel_rfl
noncomputable def w_toPolOldS_E (k : Nat) : Env := (w_toPolOld_E k).with 180 w_toPolOldS_i w_toPolOldS_o (w_toPolOldS_G k)
theorem w_toPolOldS_ok (k : Nat) : EnvOk Try.prog (w_toPolOldS_E k) := (w_toPolOld_ok k).with mixed (by decide) (by kernel_rfl) (by kernel_rfl) (w_toPolOldS_c k) (by kernel_rfl)
/-! ### loop.example/tuggers/laws.toPolOldSS -/
@[reducible] def w_toPolOldSS_i : Sh := ⟨[.c (.leaf (.ro (.list 221 q1)))], []⟩
@[reducible] def w_toPolOldSS_o : Sh := ⟨[.c (.leaf (.own 0))], [(0, .rows 205 (.list 219 q1))]⟩
noncomputable def w_toPolOldSS_T (k : Nat) : Env := ((w_toPolOldS_E k).at 0 k [] [(3, ⟨[0, 3, 4], []⟩)] [⟨2, false, 0, 205, (.list 219 q1)⟩]).gated (fun _ => true)
noncomputable def w_toPolOldSS_l3 (k n0 : Nat) (v0 : List (List (Int × Int))) (v1 : Int) (v2 : List (List (Int × Int))) : Option (Dt w_toPolOldSS_o) := atLoop (w_toPolOldSS_T k) (subF Try.f155 [.r, .r, .l, .r, .l]) n0 ⟨tml 23 [(0, .c (.leaf (.ro (.list 221 q1) v0))), (3, .c (.leaf (.own 0))), (4, .c (.leaf (.int .i64 v1)))], [(0, .rows 205 (.list 219 q1) v2)]⟩ (kbl (subF Try.f155 [.r, .r, .l, .r]) (ksq (w_toPolOldSS_T k) (subF Try.f155 [.r, .r]) (kret (w_toPolOldSS_T k) Try.f155.results.toList (unOut w_toPolOldSS_o))))
noncomputable def w_toPolOldSS (k : Nat) (x0 : List (List (Int × Int))) : Option (Dt w_toPolOldSS_o) := evFn (w_toPolOldSS_T k) Try.f155 [.c (.leaf (.ro (.list 221 q1) x0))] [] (unOut w_toPolOldSS_o)
theorem w_toPolOldSS_l3_0 (k : Nat) (v0 : List (List (Int × Int))) (v1 : Int) (v2 : List (List (Int × Int))) : w_toPolOldSS_l3 k 0 v0 v1 v2 = none := by kernel_rfl
theorem w_toPolOldSS_l3_s (k n0 : Nat) (v0 : List (List (Int × Int))) (v1 : Int) (v2 : List (List (Int × Int))) : w_toPolOldSS_l3 k (n0 + 1) v0 v1 v2 =
  (if (decide (v1 < (List.length v0 : Int))) = true then
  (if (0:Int) ≤ v1 ∧ v1 < (List.length v0 : Int) then
  ((w_toPolOldS k (v0.getD (Int.toNat v1) [])).bind fun y1 =>
  (if (0:Int) ≤ v1 ∧ v1 < (List.length v2 : Int) then
  (w_toPolOldSS_l3 k n0 v0 (W (v1 + (1:Int))) (v2.set (Int.toNat v1) y1.1))
 else none))
 else none)
 else
  (some (v2, ()))) := by kernel_rfl
theorem w_toPolOldSS_eq (k : Nat) (x0 : List (List (Int × Int))) : w_toPolOldSS k x0 =
  (if (0:Int) ≤ (List.length x0 : Int) ∧ (List.length x0 : Int) ≤ (LB : Int) ∧ (List.length x0 : Int) = (List.length x0 : Int) then
  (w_toPolOldSS_l3 k k x0 (0:Int) (List.replicate (Int.toNat (List.length x0 : Int)) []))
 else none) := by kernel_rfl
noncomputable def w_toPolOldSS_G (k : Nat) : Dt w_toPolOldSS_i → Option (Dt w_toPolOldSS_o) := fun x => w_toPolOldSS k x.1
theorem w_toPolOldSS_c (k : Nat) : Comes1 (w_toPolOldSS_T k) Try.f155 w_toPolOldSS_i w_toPolOldSS_o (w_toPolOldSS_G k) := fun x => by kernel_rfl
noncomputable def w_toPolOldSS_E (k : Nat) : Env := (w_toPolOldS_E k).with 155 w_toPolOldSS_i w_toPolOldSS_o (w_toPolOldSS_G k)
theorem w_toPolOldSS_ok (k : Nat) : EnvOk Try.prog (w_toPolOldSS_E k) := (w_toPolOldS_ok k).with mixed (by decide) (by kernel_rfl) (by kernel_rfl) (w_toPolOldSS_c k) (by kernel_rfl)
/-! ### loop.example/tuggers/laws.toPolPool -/
@[reducible] def w_toPolPool_i : Sh := ⟨[.c (.agg [.int .i64, .ro (.int .i64), .ro (.list 221 q1)])], []⟩
@[reducible] def w_toPolPool_o : Sh := ⟨[.c (.agg [.int .i64, .own 0, .own 1])], [(0, .rows 3 (.int .i64)), (1, .rows 205 (.list 219 q1))]⟩
noncomputable def w_toPolPool_T (k : Nat) : Env := ((w_toPolOldSS_E k).at 0 k [] [] [⟨2, true, 1, 3, (.int .i64)⟩, ⟨2, true, 2, 205, (.list 219 q1)⟩]).gated (fun _ => true)
noncomputable def w_toPolPool (k : Nat) (x0 : Int) (x1 : List Int) (x2 : List (List (Int × Int))) : Option (Dt w_toPolPool_o) := evFn (w_toPolPool_T k) Try.f87 [.c (.agg [.int .i64 x0, .ro (.int .i64) x1, .ro (.list 221 q1) x2])] [] (unOut w_toPolPool_o)
theorem w_toPolPool_eq (k : Nat) (x0 : Int) (x1 : List Int) (x2 : List (List (Int × Int))) : w_toPolPool k x0 x1 x2 =
  ((w_toIntS k x1).bind fun y1 =>
  ((w_toPolOldSS k x2).bind fun y2 =>
  (some (x0, y1.1, y2.1, ())))) := by kernel_rfl
noncomputable def w_toPolPool_G (k : Nat) : Dt w_toPolPool_i → Option (Dt w_toPolPool_o) := fun x => w_toPolPool k x.1 x.2.1 x.2.2.1
theorem w_toPolPool_c (k : Nat) : Comes1 (w_toPolPool_T k) Try.f87 w_toPolPool_i w_toPolPool_o (w_toPolPool_G k) := fun x => by kernel_rfl
noncomputable def w_toPolPool_E (k : Nat) : Env := (w_toPolOldSS_E k).with 87 w_toPolPool_i w_toPolPool_o (w_toPolPool_G k)
theorem w_toPolPool_ok (k : Nat) : EnvOk Try.prog (w_toPolPool_E k) := (w_toPolOldSS_ok k).with mixed (by decide) (by kernel_rfl) (by kernel_rfl) (w_toPolPool_c k) (by kernel_rfl)
/-! ### loop.example/tuggers/laws.toOpOp -/
@[reducible] def w_toOpOp_i : Sh := ⟨[.c (.agg [.int .i64, .int .i64, .int .i64])], []⟩
@[reducible] def w_toOpOp_o : Sh := ⟨[.c (.agg [.int .i64, .int .i64, .int .i64])], []⟩
noncomputable def w_toOpOp_T (k : Nat) : Env := ((w_toPolPool_E k).at 0 k [] [] []).gated (fun _ => true)
noncomputable def w_toOpOp (k : Nat) (x0 : Int) (x1 : Int) (x2 : Int) : Option (Dt w_toOpOp_o) := evFn (w_toOpOp_T k) Try.f43 [.c (.agg [.int .i64 x0, .int .i64 x1, .int .i64 x2])] [] (unOut w_toOpOp_o)
theorem w_toOpOp_eq (k : Nat) (x0 : Int) (x1 : Int) (x2 : Int) : w_toOpOp k x0 x1 x2 =
  (some (x0, x1, x2, ())) := by kernel_rfl
noncomputable def w_toOpOp_G (k : Nat) : Dt w_toOpOp_i → Option (Dt w_toOpOp_o) := fun x => w_toOpOp k x.1 x.2.1 x.2.2.1
theorem w_toOpOp_c (k : Nat) : Comes1 (w_toOpOp_T k) Try.f43 w_toOpOp_i w_toOpOp_o (w_toOpOp_G k) := fun x => by kernel_rfl
noncomputable def w_toOpOp_E (k : Nat) : Env := (w_toPolPool_E k).with 43 w_toOpOp_i w_toOpOp_o (w_toOpOp_G k)
theorem w_toOpOp_ok (k : Nat) : EnvOk Try.prog (w_toOpOp_E k) := (w_toPolPool_ok k).with mixed (by decide) (by kernel_rfl) (by kernel_rfl) (w_toOpOp_c k) (by kernel_rfl)
/-! ### loop.example/tuggers/laws.toHndRef -/
@[reducible] def w_toHndRef_i : Sh := ⟨[.c (.agg [.int .i64, .int .i64])], []⟩
@[reducible] def w_toHndRef_o : Sh := ⟨[.c (.agg [.int .i64, .int .i64])], []⟩
noncomputable def w_toHndRef_T (k : Nat) : Env := ((w_toOpOp_E k).at 0 k [] [] []).gated (fun _ => true)
noncomputable def w_toHndRef (k : Nat) (x0 : Int) (x1 : Int) : Option (Dt w_toHndRef_o) := evFn (w_toHndRef_T k) Try.f181 [.c (.agg [.int .i64 x0, .int .i64 x1])] [] (unOut w_toHndRef_o)
theorem w_toHndRef_eq (k : Nat) (x0 : Int) (x1 : Int) : w_toHndRef k x0 x1 =
  (some (x0, x1, ())) := by kernel_rfl
noncomputable def w_toHndRef_G (k : Nat) : Dt w_toHndRef_i → Option (Dt w_toHndRef_o) := fun x => w_toHndRef k x.1 x.2.1
theorem w_toHndRef_c (k : Nat) : Comes1 (w_toHndRef_T k) Try.f181 w_toHndRef_i w_toHndRef_o (w_toHndRef_G k) := fun x => by kernel_rfl
noncomputable def w_toHndRef_E (k : Nat) : Env := (w_toOpOp_E k).with 181 w_toHndRef_i w_toHndRef_o (w_toHndRef_G k)
theorem w_toHndRef_ok (k : Nat) : EnvOk Try.prog (w_toHndRef_E k) := (w_toOpOp_ok k).with mixed (by decide) (by kernel_rfl) (by kernel_rfl) (w_toHndRef_c k) (by kernel_rfl)
/-! ### loop.example/tuggers/laws.toResRes -/
@[reducible] def w_toResRes_i : Sh := ⟨[.c (.agg [.int .i64, .int .i64])], []⟩
@[reducible] def w_toResRes_o : Sh := ⟨[.c (.agg [.int .i64, .int .i64])], []⟩
noncomputable def w_toResRes_T (k : Nat) : Env := ((w_toHndRef_E k).at 0 k [] [] []).gated (fun _ => true)
noncomputable def w_toResRes (k : Nat) (x0 : Int) (x1 : Int) : Option (Dt w_toResRes_o) := evFn (w_toResRes_T k) Try.f182 [.c (.agg [.int .i64 x0, .int .i64 x1])] [] (unOut w_toResRes_o)
theorem w_toResRes_eq (k : Nat) (x0 : Int) (x1 : Int) : w_toResRes k x0 x1 =
  (some (x0, x1, ())) := by kernel_rfl
noncomputable def w_toResRes_G (k : Nat) : Dt w_toResRes_i → Option (Dt w_toResRes_o) := fun x => w_toResRes k x.1 x.2.1
theorem w_toResRes_c (k : Nat) : Comes1 (w_toResRes_T k) Try.f182 w_toResRes_i w_toResRes_o (w_toResRes_G k) := fun x => by kernel_rfl
noncomputable def w_toResRes_E (k : Nat) : Env := (w_toHndRef_E k).with 182 w_toResRes_i w_toResRes_o (w_toResRes_G k)
theorem w_toResRes_ok (k : Nat) : EnvOk Try.prog (w_toResRes_E k) := (w_toHndRef_ok k).with mixed (by decide) (by kernel_rfl) (by kernel_rfl) (w_toResRes_c k) (by kernel_rfl)
/-! ### loop.example/tuggers/laws.toHndHand -/
@[reducible] def w_toHndHand_i : Sh := ⟨[.c (.agg [.int .i64, .int .i64, .int .i64, .int .i64, .int .i64, .int .i64, .int .i64, .int .i64, .int .i64, .int .i64, .int .i64, .int .i64, .int .i64, .int .i64, .int .i64, .int .i64, .int .i64, .int .i64, .int .i64, .int .i64, .bool, .str, .str, .int .i64, .int .i64])], []⟩
@[reducible] def w_toHndHand_o : Sh := ⟨[.c (.agg [.int .i64, .int .i64, .int .i64, .int .i64, .int .i64, .int .i64, .int .i64, .int .i64, .int .i64, .int .i64, .int .i64, .int .i64, .int .i64, .int .i64, .int .i64, .int .i64, .int .i64, .int .i64, .int .i64, .int .i64, .bool, .str, .str, .int .i64, .int .i64])], []⟩
noncomputable def w_toHndHand_T (k : Nat) : Env := ((w_toResRes_E k).at 0 k [] [] []).gated (fun _ => true)
noncomputable def w_toHndHand (k : Nat) (x0 : Int) (x1 : Int) (x2 : Int) (x3 : Int) (x4 : Int) (x5 : Int) (x6 : Int) (x7 : Int) (x8 : Int) (x9 : Int) (x10 : Int) (x11 : Int) (x12 : Int) (x13 : Int) (x14 : Int) (x15 : Int) (x16 : Int) (x17 : Int) (x18 : Int) (x19 : Int) (x20 : Bool) (x21 : ByteArray) (x22 : ByteArray) (x23 : Int) (x24 : Int) : Option (Dt w_toHndHand_o) := evFn (w_toHndHand_T k) Try.f156 [.c (.agg [.int .i64 x0, .int .i64 x1, .int .i64 x2, .int .i64 x3, .int .i64 x4, .int .i64 x5, .int .i64 x6, .int .i64 x7, .int .i64 x8, .int .i64 x9, .int .i64 x10, .int .i64 x11, .int .i64 x12, .int .i64 x13, .int .i64 x14, .int .i64 x15, .int .i64 x16, .int .i64 x17, .int .i64 x18, .int .i64 x19, .bool x20, .str x21, .str x22, .int .i64 x23, .int .i64 x24])] [] (unOut w_toHndHand_o)
theorem w_toHndHand_eq (k : Nat) (x0 : Int) (x1 : Int) (x2 : Int) (x3 : Int) (x4 : Int) (x5 : Int) (x6 : Int) (x7 : Int) (x8 : Int) (x9 : Int) (x10 : Int) (x11 : Int) (x12 : Int) (x13 : Int) (x14 : Int) (x15 : Int) (x16 : Int) (x17 : Int) (x18 : Int) (x19 : Int) (x20 : Bool) (x21 : ByteArray) (x22 : ByteArray) (x23 : Int) (x24 : Int) : w_toHndHand k x0 x1 x2 x3 x4 x5 x6 x7 x8 x9 x10 x11 x12 x13 x14 x15 x16 x17 x18 x19 x20 x21 x22 x23 x24 =
  ((w_toOpOp k x1 x2 x3).bind fun y1 =>
  ((w_toHndRef k x5 x6).bind fun y2 =>
  ((w_toHndRef k x7 x8).bind fun y3 =>
  ((w_toHndRef k x11 x12).bind fun y4 =>
  ((w_toHndRef k x13 x14).bind fun y5 =>
  ((w_toResRes k x17 x18).bind fun y6 =>
  (some (x0, y1.1, y1.2.1, y1.2.2.1, x4, y2.1, y2.2.1, y3.1, y3.2.1, x9, x10, y4.1, y4.2.1, y5.1, y5.2.1, x15, x16, y6.1, y6.2.1, x19, x20, x21, x22, x23, x24, ())))))))) := by kernel_rfl
noncomputable def w_toHndHand_G (k : Nat) : Dt w_toHndHand_i → Option (Dt w_toHndHand_o) := fun x => w_toHndHand k x.1 x.2.1 x.2.2.1 x.2.2.2.1 x.2.2.2.2.1 x.2.2.2.2.2.1 x.2.2.2.2.2.2.1 x.2.2.2.2.2.2.2.1 x.2.2.2.2.2.2.2.2.1 x.2.2.2.2.2.2.2.2.2.1 x.2.2.2.2.2.2.2.2.2.2.1 x.2.2.2.2.2.2.2.2.2.2.2.1 x.2.2.2.2.2.2.2.2.2.2.2.2.1 x.2.2.2.2.2.2.2.2.2.2.2.2.2.1 x.2.2.2.2.2.2.2.2.2.2.2.2.2.2.1 x.2.2.2.2.2.2.2.2.2.2.2.2.2.2.2.1 x.2.2.2.2.2.2.2.2.2.2.2.2.2.2.2.2.1 x.2.2.2.2.2.2.2.2.2.2.2.2.2.2.2.2.2.1 x.2.2.2.2.2.2.2.2.2.2.2.2.2.2.2.2.2.2.1 x.2.2.2.2.2.2.2.2.2.2.2.2.2.2.2.2.2.2.2.1 x.2.2.2.2.2.2.2.2.2.2.2.2.2.2.2.2.2.2.2.2.1 x.2.2.2.2.2.2.2.2.2.2.2.2.2.2.2.2.2.2.2.2.2.1 x.2.2.2.2.2.2.2.2.2.2.2.2.2.2.2.2.2.2.2.2.2.2.1 x.2.2.2.2.2.2.2.2.2.2.2.2.2.2.2.2.2.2.2.2.2.2.2.1 x.2.2.2.2.2.2.2.2.2.2.2.2.2.2.2.2.2.2.2.2.2.2.2.2.1
theorem w_toHndHand_c (k : Nat) : Comes1 (w_toHndHand_T k) Try.f156 w_toHndHand_i w_toHndHand_o (w_toHndHand_G k) := fun x => by kernel_rfl
noncomputable def w_toHndHand_E (k : Nat) : Env := (w_toResRes_E k).with 156 w_toHndHand_i w_toHndHand_o (w_toHndHand_G k)
theorem w_toHndHand_ok (k : Nat) : EnvOk Try.prog (w_toHndHand_E k) := (w_toResRes_ok k).with mixed (by decide) (by kernel_rfl) (by kernel_rfl) (w_toHndHand_c k) (by kernel_rfl)
/-! ### loop.example/tuggers/laws.toHndHandS -/
@[reducible] def w_toHndHandS_i : Sh := ⟨[.c (.leaf (.ro q2))], []⟩
@[reducible] def w_toHndHandS_o : Sh := ⟨[.c (.leaf (.own 0))], [(0, .rows 128 q2)]⟩
noncomputable def w_toHndHandS_T (k : Nat) : Env := ((w_toHndHand_E k).at 0 k [] [(3, ⟨[0, 3, 4], []⟩)] [⟨2, false, 0, 128, q2⟩]).gated (fun _ => true)
noncomputable def w_toHndHandS_l3 (k n0 : Nat) (v0 : List (Int × ((Int × (Int × Int)) × (Int × ((Int × Int) × ((Int × Int) × (Int × (Int × ((Int × Int) × ((Int × Int) × (Int × (Int × ((Int × Int) × (Int × (Bool × (ByteArray × (ByteArray × (Int × Int)))))))))))))))))) (v1 : Int) (v2 : List (Int × ((Int × (Int × Int)) × (Int × ((Int × Int) × ((Int × Int) × (Int × (Int × ((Int × Int) × ((Int × Int) × (Int × (Int × ((Int × Int) × (Int × (Bool × (ByteArray × (ByteArray × (Int × Int)))))))))))))))))) : Option (Dt w_toHndHandS_o) := atLoop (w_toHndHandS_T k) (subF Try.f88 [.r, .r, .l, .r, .l]) n0 ⟨tml 23 [(0, .c (.leaf (.ro q2 v0))), (3, .c (.leaf (.own 0))), (4, .c (.leaf (.int .i64 v1)))], [(0, .rows 128 q2 v2)]⟩ (kbl (subF Try.f88 [.r, .r, .l, .r]) (ksq (w_toHndHandS_T k) (subF Try.f88 [.r, .r]) (kret (w_toHndHandS_T k) Try.f88.results.toList (unOut w_toHndHandS_o))))
noncomputable def w_toHndHandS (k : Nat) (x0 : List (Int × ((Int × (Int × Int)) × (Int × ((Int × Int) × ((Int × Int) × (Int × (Int × ((Int × Int) × ((Int × Int) × (Int × (Int × ((Int × Int) × (Int × (Bool × (ByteArray × (ByteArray × (Int × Int)))))))))))))))))) : Option (Dt w_toHndHandS_o) := evFn (w_toHndHandS_T k) Try.f88 [.c (.leaf (.ro q2 x0))] [] (unOut w_toHndHandS_o)
theorem w_toHndHandS_l3_0 (k : Nat) (v0 : List (Int × ((Int × (Int × Int)) × (Int × ((Int × Int) × ((Int × Int) × (Int × (Int × ((Int × Int) × ((Int × Int) × (Int × (Int × ((Int × Int) × (Int × (Bool × (ByteArray × (ByteArray × (Int × Int)))))))))))))))))) (v1 : Int) (v2 : List (Int × ((Int × (Int × Int)) × (Int × ((Int × Int) × ((Int × Int) × (Int × (Int × ((Int × Int) × ((Int × Int) × (Int × (Int × ((Int × Int) × (Int × (Bool × (ByteArray × (ByteArray × (Int × Int)))))))))))))))))) : w_toHndHandS_l3 k 0 v0 v1 v2 = none := by kernel_rfl
theorem w_toHndHandS_l3_s (k n0 : Nat) (v0 : List (Int × ((Int × (Int × Int)) × (Int × ((Int × Int) × ((Int × Int) × (Int × (Int × ((Int × Int) × ((Int × Int) × (Int × (Int × ((Int × Int) × (Int × (Bool × (ByteArray × (ByteArray × (Int × Int)))))))))))))))))) (v1 : Int) (v2 : List (Int × ((Int × (Int × Int)) × (Int × ((Int × Int) × ((Int × Int) × (Int × (Int × ((Int × Int) × ((Int × Int) × (Int × (Int × ((Int × Int) × (Int × (Bool × (ByteArray × (ByteArray × (Int × Int)))))))))))))))))) : w_toHndHandS_l3 k (n0 + 1) v0 v1 v2 =
  (if (decide (v1 < (List.length v0 : Int))) = true then
  (if (0:Int) ≤ v1 ∧ v1 < (List.length v0 : Int) then
  ((w_toHndHand k (v0.getD (Int.toNat v1) ((0:Int), (((0:Int), ((0:Int), (0:Int))), ((0:Int), (((0:Int), (0:Int)), (((0:Int), (0:Int)), ((0:Int), ((0:Int), (((0:Int), (0:Int)), (((0:Int), (0:Int)), ((0:Int), ((0:Int), (((0:Int), (0:Int)), ((0:Int), (false, (ByteArray.empty, (ByteArray.empty, ((0:Int), (0:Int))))))))))))))))))).1 (v0.getD (Int.toNat v1) ((0:Int), (((0:Int), ((0:Int), (0:Int))), ((0:Int), (((0:Int), (0:Int)), (((0:Int), (0:Int)), ((0:Int), ((0:Int), (((0:Int), (0:Int)), (((0:Int), (0:Int)), ((0:Int), ((0:Int), (((0:Int), (0:Int)), ((0:Int), (false, (ByteArray.empty, (ByteArray.empty, ((0:Int), (0:Int))))))))))))))))))).2.1.1 (v0.getD (Int.toNat v1) ((0:Int), (((0:Int), ((0:Int), (0:Int))), ((0:Int), (((0:Int), (0:Int)), (((0:Int), (0:Int)), ((0:Int), ((0:Int), (((0:Int), (0:Int)), (((0:Int), (0:Int)), ((0:Int), ((0:Int), (((0:Int), (0:Int)), ((0:Int), (false, (ByteArray.empty, (ByteArray.empty, ((0:Int), (0:Int))))))))))))))))))).2.1.2.1 (v0.getD (Int.toNat v1) ((0:Int), (((0:Int), ((0:Int), (0:Int))), ((0:Int), (((0:Int), (0:Int)), (((0:Int), (0:Int)), ((0:Int), ((0:Int), (((0:Int), (0:Int)), (((0:Int), (0:Int)), ((0:Int), ((0:Int), (((0:Int), (0:Int)), ((0:Int), (false, (ByteArray.empty, (ByteArray.empty, ((0:Int), (0:Int))))))))))))))))))).2.1.2.2 (v0.getD (Int.toNat v1) ((0:Int), (((0:Int), ((0:Int), (0:Int))), ((0:Int), (((0:Int), (0:Int)), (((0:Int), (0:Int)), ((0:Int), ((0:Int), (((0:Int), (0:Int)), (((0:Int), (0:Int)), ((0:Int), ((0:Int), (((0:Int), (0:Int)), ((0:Int), (false, (ByteArray.empty, (ByteArray.empty, ((0:Int), (0:Int))))))))))))))))))).2.2.1 (v0.getD (Int.toNat v1) ((0:Int), (((0:Int), ((0:Int), (0:Int))), ((0:Int), (((0:Int), (0:Int)), (((0:Int), (0:Int)), ((0:Int), ((0:Int), (((0:Int), (0:Int)), (((0:Int), (0:Int)), ((0:Int), ((0:Int), (((0:Int), (0:Int)), ((0:Int), (false, (ByteArray.empty, (ByteArray.empty, ((0:Int), (0:Int))))))))))))))))))).2.2.2.1.1 (v0.getD (Int.toNat v1) ((0:Int), (((0:Int), ((0:Int), (0:Int))), ((0:Int), (((0:Int), (0:Int)), (((0:Int), (0:Int)), ((0:Int), ((0:Int), (((0:Int), (0:Int)), (((0:Int), (0:Int)), ((0:Int), ((0:Int), (((0:Int), (0:Int)), ((0:Int), (false, (ByteArray.empty, (ByteArray.empty, ((0:Int), (0:Int))))))))))))))))))).2.2.2.1.2 (v0.getD (Int.toNat v1) ((0:Int), (((0:Int), ((0:Int), (0:Int))), ((0:Int), (((0:Int), (0:Int)), (((0:Int), (0:Int)), ((0:Int), ((0:Int), (((0:Int), (0:Int)), (((0:Int), (0:Int)), ((0:Int), ((0:Int), (((0:Int), (0:Int)), ((0:Int), (false, (ByteArray.empty, (ByteArray.empty, ((0:Int), (0:Int))))))))))))))))))).2.2.2.2.1.1 (v0.getD (Int.toNat v1) ((0:Int), (((0:Int), ((0:Int), (0:Int))), ((0:Int), (((0:Int), (0:Int)), (((0:Int), (0:Int)), ((0:Int), ((0:Int), (((0:Int), (0:Int)), (((0:Int), (0:Int)), ((0:Int), ((0:Int), (((0:Int), (0:Int)), ((0:Int), (false, (ByteArray.empty, (ByteArray.empty, ((0:Int), (0:Int))))))))))))))))))).2.2.2.2.1.2 (v0.getD (Int.toNat v1) ((0:Int), (((0:Int), ((0:Int), (0:Int))), ((0:Int), (((0:Int), (0:Int)), (((0:Int), (0:Int)), ((0:Int), ((0:Int), (((0:Int), (0:Int)), (((0:Int), (0:Int)), ((0:Int), ((0:Int), (((0:Int), (0:Int)), ((0:Int), (false, (ByteArray.empty, (ByteArray.empty, ((0:Int), (0:Int))))))))))))))))))).2.2.2.2.2.1 (v0.getD (Int.toNat v1) ((0:Int), (((0:Int), ((0:Int), (0:Int))), ((0:Int), (((0:Int), (0:Int)), (((0:Int), (0:Int)), ((0:Int), ((0:Int), (((0:Int), (0:Int)), (((0:Int), (0:Int)), ((0:Int), ((0:Int), (((0:Int), (0:Int)), ((0:Int), (false, (ByteArray.empty, (ByteArray.empty, ((0:Int), (0:Int))))))))))))))))))).2.2.2.2.2.2.1 (v0.getD (Int.toNat v1) ((0:Int), (((0:Int), ((0:Int), (0:Int))), ((0:Int), (((0:Int), (0:Int)), (((0:Int), (0:Int)), ((0:Int), ((0:Int), (((0:Int), (0:Int)), (((0:Int), (0:Int)), ((0:Int), ((0:Int), (((0:Int), (0:Int)), ((0:Int), (false, (ByteArray.empty, (ByteArray.empty, ((0:Int), (0:Int))))))))))))))))))).2.2.2.2.2.2.2.1.1 (v0.getD (Int.toNat v1) ((0:Int), (((0:Int), ((0:Int), (0:Int))), ((0:Int), (((0:Int), (0:Int)), (((0:Int), (0:Int)), ((0:Int), ((0:Int), (((0:Int), (0:Int)), (((0:Int), (0:Int)), ((0:Int), ((0:Int), (((0:Int), (0:Int)), ((0:Int), (false, (ByteArray.empty, (ByteArray.empty, ((0:Int), (0:Int))))))))))))))))))).2.2.2.2.2.2.2.1.2 (v0.getD (Int.toNat v1) ((0:Int), (((0:Int), ((0:Int), (0:Int))), ((0:Int), (((0:Int), (0:Int)), (((0:Int), (0:Int)), ((0:Int), ((0:Int), (((0:Int), (0:Int)), (((0:Int), (0:Int)), ((0:Int), ((0:Int), (((0:Int), (0:Int)), ((0:Int), (false, (ByteArray.empty, (ByteArray.empty, ((0:Int), (0:Int))))))))))))))))))).2.2.2.2.2.2.2.2.1.1 (v0.getD (Int.toNat v1) ((0:Int), (((0:Int), ((0:Int), (0:Int))), ((0:Int), (((0:Int), (0:Int)), (((0:Int), (0:Int)), ((0:Int), ((0:Int), (((0:Int), (0:Int)), (((0:Int), (0:Int)), ((0:Int), ((0:Int), (((0:Int), (0:Int)), ((0:Int), (false, (ByteArray.empty, (ByteArray.empty, ((0:Int), (0:Int))))))))))))))))))).2.2.2.2.2.2.2.2.1.2 (v0.getD (Int.toNat v1) ((0:Int), (((0:Int), ((0:Int), (0:Int))), ((0:Int), (((0:Int), (0:Int)), (((0:Int), (0:Int)), ((0:Int), ((0:Int), (((0:Int), (0:Int)), (((0:Int), (0:Int)), ((0:Int), ((0:Int), (((0:Int), (0:Int)), ((0:Int), (false, (ByteArray.empty, (ByteArray.empty, ((0:Int), (0:Int))))))))))))))))))).2.2.2.2.2.2.2.2.2.1 (v0.getD (Int.toNat v1) ((0:Int), (((0:Int), ((0:Int), (0:Int))), ((0:Int), (((0:Int), (0:Int)), (((0:Int), (0:Int)), ((0:Int), ((0:Int), (((0:Int), (0:Int)), (((0:Int), (0:Int)), ((0:Int), ((0:Int), (((0:Int), (0:Int)), ((0:Int), (false, (ByteArray.empty, (ByteArray.empty, ((0:Int), (0:Int))))))))))))))))))).2.2.2.2.2.2.2.2.2.2.1 (v0.getD (Int.toNat v1) ((0:Int), (((0:Int), ((0:Int), (0:Int))), ((0:Int), (((0:Int), (0:Int)), (((0:Int), (0:Int)), ((0:Int), ((0:Int), (((0:Int), (0:Int)), (((0:Int), (0:Int)), ((0:Int), ((0:Int), (((0:Int), (0:Int)), ((0:Int), (false, (ByteArray.empty, (ByteArray.empty, ((0:Int), (0:Int))))))))))))))))))).2.2.2.2.2.2.2.2.2.2.2.1.1 (v0.getD (Int.toNat v1) ((0:Int), (((0:Int), ((0:Int), (0:Int))), ((0:Int), (((0:Int), (0:Int)), (((0:Int), (0:Int)), ((0:Int), ((0:Int), (((0:Int), (0:Int)), (((0:Int), (0:Int)), ((0:Int), ((0:Int), (((0:Int), (0:Int)), ((0:Int), (false, (ByteArray.empty, (ByteArray.empty, ((0:Int), (0:Int))))))))))))))))))).2.2.2.2.2.2.2.2.2.2.2.1.2 (v0.getD (Int.toNat v1) ((0:Int), (((0:Int), ((0:Int), (0:Int))), ((0:Int), (((0:Int), (0:Int)), (((0:Int), (0:Int)), ((0:Int), ((0:Int), (((0:Int), (0:Int)), (((0:Int), (0:Int)), ((0:Int), ((0:Int), (((0:Int), (0:Int)), ((0:Int), (false, (ByteArray.empty, (ByteArray.empty, ((0:Int), (0:Int))))))))))))))))))).2.2.2.2.2.2.2.2.2.2.2.2.1 (v0.getD (Int.toNat v1) ((0:Int), (((0:Int), ((0:Int), (0:Int))), ((0:Int), (((0:Int), (0:Int)), (((0:Int), (0:Int)), ((0:Int), ((0:Int), (((0:Int), (0:Int)), (((0:Int), (0:Int)), ((0:Int), ((0:Int), (((0:Int), (0:Int)), ((0:Int), (false, (ByteArray.empty, (ByteArray.empty, ((0:Int), (0:Int))))))))))))))))))).2.2.2.2.2.2.2.2.2.2.2.2.2.1 (v0.getD (Int.toNat v1) ((0:Int), (((0:Int), ((0:Int), (0:Int))), ((0:Int), (((0:Int), (0:Int)), (((0:Int), (0:Int)), ((0:Int), ((0:Int), (((0:Int), (0:Int)), (((0:Int), (0:Int)), ((0:Int), ((0:Int), (((0:Int), (0:Int)), ((0:Int), (false, (ByteArray.empty, (ByteArray.empty, ((0:Int), (0:Int))))))))))))))))))).2.2.2.2.2.2.2.2.2.2.2.2.2.2.1 (v0.getD (Int.toNat v1) ((0:Int), (((0:Int), ((0:Int), (0:Int))), ((0:Int), (((0:Int), (0:Int)), (((0:Int), (0:Int)), ((0:Int), ((0:Int), (((0:Int), (0:Int)), (((0:Int), (0:Int)), ((0:Int), ((0:Int), (((0:Int), (0:Int)), ((0:Int), (false, (ByteArray.empty, (ByteArray.empty, ((0:Int), (0:Int))))))))))))))))))).2.2.2.2.2.2.2.2.2.2.2.2.2.2.2.1 (v0.getD (Int.toNat v1) ((0:Int), (((0:Int), ((0:Int), (0:Int))), ((0:Int), (((0:Int), (0:Int)), (((0:Int), (0:Int)), ((0:Int), ((0:Int), (((0:Int), (0:Int)), (((0:Int), (0:Int)), ((0:Int), ((0:Int), (((0:Int), (0:Int)), ((0:Int), (false, (ByteArray.empty, (ByteArray.empty, ((0:Int), (0:Int))))))))))))))))))).2.2.2.2.2.2.2.2.2.2.2.2.2.2.2.2.1 (v0.getD (Int.toNat v1) ((0:Int), (((0:Int), ((0:Int), (0:Int))), ((0:Int), (((0:Int), (0:Int)), (((0:Int), (0:Int)), ((0:Int), ((0:Int), (((0:Int), (0:Int)), (((0:Int), (0:Int)), ((0:Int), ((0:Int), (((0:Int), (0:Int)), ((0:Int), (false, (ByteArray.empty, (ByteArray.empty, ((0:Int), (0:Int))))))))))))))))))).2.2.2.2.2.2.2.2.2.2.2.2.2.2.2.2.2).bind fun y1 =>
  (if (0:Int) ≤ v1 ∧ v1 < (List.length v2 : Int) then
  (w_toHndHandS_l3 k n0 v0 (W (v1 + (1:Int))) (v2.set (Int.toNat v1) (y1.1, ((y1.2.1, (y1.2.2.1, y1.2.2.2.1)), (y1.2.2.2.2.1, ((y1.2.2.2.2.2.1, y1.2.2.2.2.2.2.1), ((y1.2.2.2.2.2.2.2.1, y1.2.2.2.2.2.2.2.2.1), (y1.2.2.2.2.2.2.2.2.2.1, (y1.2.2.2.2.2.2.2.2.2.2.1, ((y1.2.2.2.2.2.2.2.2.2.2.2.1, y1.2.2.2.2.2.2.2.2.2.2.2.2.1), ((y1.2.2.2.2.2.2.2.2.2.2.2.2.2.1, y1.2.2.2.2.2.2.2.2.2.2.2.2.2.2.1), (y1.2.2.2.2.2.2.2.2.2.2.2.2.2.2.2.1, (y1.2.2.2.2.2.2.2.2.2.2.2.2.2.2.2.2.1, ((y1.2.2.2.2.2.2.2.2.2.2.2.2.2.2.2.2.2.1, y1.2.2.2.2.2.2.2.2.2.2.2.2.2.2.2.2.2.2.1), (y1.2.2.2.2.2.2.2.2.2.2.2.2.2.2.2.2.2.2.2.1, (y1.2.2.2.2.2.2.2.2.2.2.2.2.2.2.2.2.2.2.2.2.1, (y1.2.2.2.2.2.2.2.2.2.2.2.2.2.2.2.2.2.2.2.2.2.1, (y1.2.2.2.2.2.2.2.2.2.2.2.2.2.2.2.2.2.2.2.2.2.2.1, (y1.2.2.2.2.2.2.2.2.2.2.2.2.2.2.2.2.2.2.2.2.2.2.2.1, y1.2.2.2.2.2.2.2.2.2.2.2.2.2.2.2.2.2.2.2.2.2.2.2.2.1)))))))))))))))))))
 else none))
 else none)
 else
  (some (v2, ()))) := by kernel_rfl
theorem w_toHndHandS_eq (k : Nat) (x0 : List (Int × ((Int × (Int × Int)) × (Int × ((Int × Int) × ((Int × Int) × (Int × (Int × ((Int × Int) × ((Int × Int) × (Int × (Int × ((Int × Int) × (Int × (Bool × (ByteArray × (ByteArray × (Int × Int)))))))))))))))))) : w_toHndHandS k x0 =
  (if (0:Int) ≤ (List.length x0 : Int) ∧ (List.length x0 : Int) ≤ (LB : Int) ∧ (List.length x0 : Int) = (List.length x0 : Int) then
  (w_toHndHandS_l3 k k x0 (0:Int) (List.replicate (Int.toNat (List.length x0 : Int)) ((0:Int), (((0:Int), ((0:Int), (0:Int))), ((0:Int), (((0:Int), (0:Int)), (((0:Int), (0:Int)), ((0:Int), ((0:Int), (((0:Int), (0:Int)), (((0:Int), (0:Int)), ((0:Int), ((0:Int), (((0:Int), (0:Int)), ((0:Int), (false, (ByteArray.empty, (ByteArray.empty, ((0:Int), (0:Int))))))))))))))))))))
 else none) := by kernel_rfl
noncomputable def w_toHndHandS_G (k : Nat) : Dt w_toHndHandS_i → Option (Dt w_toHndHandS_o) := fun x => w_toHndHandS k x.1
theorem w_toHndHandS_c (k : Nat) : Comes1 (w_toHndHandS_T k) Try.f88 w_toHndHandS_i w_toHndHandS_o (w_toHndHandS_G k) := fun x => by kernel_rfl
noncomputable def w_toHndHandS_E (k : Nat) : Env := (w_toHndHand_E k).with 88 w_toHndHandS_i w_toHndHandS_o (w_toHndHandS_G k)
theorem w_toHndHandS_ok (k : Nat) : EnvOk Try.prog (w_toHndHandS_E k) := (w_toHndHand_ok k).with mixed (by decide) (by kernel_rfl) (by kernel_rfl) (w_toHndHandS_c k) (by kernel_rfl)
/-! ### loop.example/tuggers/laws.toLogRec -/
@[reducible] def w_toLogRec_i : Sh := ⟨[.c (.agg [.int .i64, .int .i64, .int .i64, .int .i64, .int .i64, .int .i64, .int .i64, .int .i64, .int .i64])], []⟩
@[reducible] def w_toLogRec_o : Sh := ⟨[.c (.agg [.int .i64, .int .i64, .int .i64, .int .i64, .int .i64, .int .i64, .int .i64, .int .i64, .int .i64])], []⟩
noncomputable def w_toLogRec_T (k : Nat) : Env := ((w_toHndHandS_E k).at 0 k [] [] []).gated (fun _ => true)
noncomputable def w_toLogRec (k : Nat) (x0 : Int) (x1 : Int) (x2 : Int) (x3 : Int) (x4 : Int) (x5 : Int) (x6 : Int) (x7 : Int) (x8 : Int) : Option (Dt w_toLogRec_o) := evFn (w_toLogRec_T k) Try.f157 [.c (.agg [.int .i64 x0, .int .i64 x1, .int .i64 x2, .int .i64 x3, .int .i64 x4, .int .i64 x5, .int .i64 x6, .int .i64 x7, .int .i64 x8])] [] (unOut w_toLogRec_o)
theorem w_toLogRec_eq (k : Nat) (x0 : Int) (x1 : Int) (x2 : Int) (x3 : Int) (x4 : Int) (x5 : Int) (x6 : Int) (x7 : Int) (x8 : Int) : w_toLogRec k x0 x1 x2 x3 x4 x5 x6 x7 x8 =
  ((w_toOpOp k x1 x2 x3).bind fun y1 =>
  ((w_toResRes k x4 x5).bind fun y2 =>
  (some (x0, y1.1, y1.2.1, y1.2.2.1, y2.1, y2.2.1, x6, x7, x8, ())))) := by kernel_rfl
noncomputable def w_toLogRec_G (k : Nat) : Dt w_toLogRec_i → Option (Dt w_toLogRec_o) := fun x => w_toLogRec k x.1 x.2.1 x.2.2.1 x.2.2.2.1 x.2.2.2.2.1 x.2.2.2.2.2.1 x.2.2.2.2.2.2.1 x.2.2.2.2.2.2.2.1 x.2.2.2.2.2.2.2.2.1
theorem w_toLogRec_c (k : Nat) : Comes1 (w_toLogRec_T k) Try.f157 w_toLogRec_i w_toLogRec_o (w_toLogRec_G k) := fun x => by kernel_rfl
noncomputable def w_toLogRec_E (k : Nat) : Env := (w_toHndHandS_E k).with 157 w_toLogRec_i w_toLogRec_o (w_toLogRec_G k)
theorem w_toLogRec_ok (k : Nat) : EnvOk Try.prog (w_toLogRec_E k) := (w_toHndHandS_ok k).with mixed (by decide) (by kernel_rfl) (by kernel_rfl) (w_toLogRec_c k) (by kernel_rfl)
/-! ### loop.example/tuggers/laws.toLogRecS -/
@[reducible] def w_toLogRecS_i : Sh := ⟨[.c (.leaf (.ro q3))], []⟩
@[reducible] def w_toLogRecS_o : Sh := ⟨[.c (.leaf (.own 0))], [(0, .rows 179 q3)]⟩
noncomputable def w_toLogRecS_T (k : Nat) : Env := ((w_toLogRec_E k).at 0 k [] [(3, ⟨[0, 3, 4], []⟩)] [⟨2, false, 0, 179, q3⟩]).gated (fun _ => true)
noncomputable def w_toLogRecS_l3 (k n0 : Nat) (v0 : List (Int × ((Int × (Int × Int)) × ((Int × Int) × (Int × (Int × Int)))))) (v1 : Int) (v2 : List (Int × ((Int × (Int × Int)) × ((Int × Int) × (Int × (Int × Int)))))) : Option (Dt w_toLogRecS_o) := atLoop (w_toLogRecS_T k) (subF Try.f89 [.r, .r, .l, .r, .l]) n0 ⟨tml 23 [(0, .c (.leaf (.ro q3 v0))), (3, .c (.leaf (.own 0))), (4, .c (.leaf (.int .i64 v1)))], [(0, .rows 179 q3 v2)]⟩ (kbl (subF Try.f89 [.r, .r, .l, .r]) (ksq (w_toLogRecS_T k) (subF Try.f89 [.r, .r]) (kret (w_toLogRecS_T k) Try.f89.results.toList (unOut w_toLogRecS_o))))
noncomputable def w_toLogRecS (k : Nat) (x0 : List (Int × ((Int × (Int × Int)) × ((Int × Int) × (Int × (Int × Int)))))) : Option (Dt w_toLogRecS_o) := evFn (w_toLogRecS_T k) Try.f89 [.c (.leaf (.ro q3 x0))] [] (unOut w_toLogRecS_o)
theorem w_toLogRecS_l3_0 (k : Nat) (v0 : List (Int × ((Int × (Int × Int)) × ((Int × Int) × (Int × (Int × Int)))))) (v1 : Int) (v2 : List (Int × ((Int × (Int × Int)) × ((Int × Int) × (Int × (Int × Int)))))) : w_toLogRecS_l3 k 0 v0 v1 v2 = none := by kernel_rfl
theorem w_toLogRecS_l3_s (k n0 : Nat) (v0 : List (Int × ((Int × (Int × Int)) × ((Int × Int) × (Int × (Int × Int)))))) (v1 : Int) (v2 : List (Int × ((Int × (Int × Int)) × ((Int × Int) × (Int × (Int × Int)))))) : w_toLogRecS_l3 k (n0 + 1) v0 v1 v2 =
  (if (decide (v1 < (List.length v0 : Int))) = true then
  (if (0:Int) ≤ v1 ∧ v1 < (List.length v0 : Int) then
  ((w_toLogRec k (v0.getD (Int.toNat v1) ((0:Int), (((0:Int), ((0:Int), (0:Int))), (((0:Int), (0:Int)), ((0:Int), ((0:Int), (0:Int))))))).1 (v0.getD (Int.toNat v1) ((0:Int), (((0:Int), ((0:Int), (0:Int))), (((0:Int), (0:Int)), ((0:Int), ((0:Int), (0:Int))))))).2.1.1 (v0.getD (Int.toNat v1) ((0:Int), (((0:Int), ((0:Int), (0:Int))), (((0:Int), (0:Int)), ((0:Int), ((0:Int), (0:Int))))))).2.1.2.1 (v0.getD (Int.toNat v1) ((0:Int), (((0:Int), ((0:Int), (0:Int))), (((0:Int), (0:Int)), ((0:Int), ((0:Int), (0:Int))))))).2.1.2.2 (v0.getD (Int.toNat v1) ((0:Int), (((0:Int), ((0:Int), (0:Int))), (((0:Int), (0:Int)), ((0:Int), ((0:Int), (0:Int))))))).2.2.1.1 (v0.getD (Int.toNat v1) ((0:Int), (((0:Int), ((0:Int), (0:Int))), (((0:Int), (0:Int)), ((0:Int), ((0:Int), (0:Int))))))).2.2.1.2 (v0.getD (Int.toNat v1) ((0:Int), (((0:Int), ((0:Int), (0:Int))), (((0:Int), (0:Int)), ((0:Int), ((0:Int), (0:Int))))))).2.2.2.1 (v0.getD (Int.toNat v1) ((0:Int), (((0:Int), ((0:Int), (0:Int))), (((0:Int), (0:Int)), ((0:Int), ((0:Int), (0:Int))))))).2.2.2.2.1 (v0.getD (Int.toNat v1) ((0:Int), (((0:Int), ((0:Int), (0:Int))), (((0:Int), (0:Int)), ((0:Int), ((0:Int), (0:Int))))))).2.2.2.2.2).bind fun y1 =>
  (if (0:Int) ≤ v1 ∧ v1 < (List.length v2 : Int) then
  (w_toLogRecS_l3 k n0 v0 (W (v1 + (1:Int))) (v2.set (Int.toNat v1) (y1.1, ((y1.2.1, (y1.2.2.1, y1.2.2.2.1)), ((y1.2.2.2.2.1, y1.2.2.2.2.2.1), (y1.2.2.2.2.2.2.1, (y1.2.2.2.2.2.2.2.1, y1.2.2.2.2.2.2.2.2.1)))))))
 else none))
 else none)
 else
  (some (v2, ()))) := by kernel_rfl
theorem w_toLogRecS_eq (k : Nat) (x0 : List (Int × ((Int × (Int × Int)) × ((Int × Int) × (Int × (Int × Int)))))) : w_toLogRecS k x0 =
  (if (0:Int) ≤ (List.length x0 : Int) ∧ (List.length x0 : Int) ≤ (LB : Int) ∧ (List.length x0 : Int) = (List.length x0 : Int) then
  (w_toLogRecS_l3 k k x0 (0:Int) (List.replicate (Int.toNat (List.length x0 : Int)) ((0:Int), (((0:Int), ((0:Int), (0:Int))), (((0:Int), (0:Int)), ((0:Int), ((0:Int), (0:Int))))))))
 else none) := by kernel_rfl
noncomputable def w_toLogRecS_G (k : Nat) : Dt w_toLogRecS_i → Option (Dt w_toLogRecS_o) := fun x => w_toLogRecS k x.1
theorem w_toLogRecS_c (k : Nat) : Comes1 (w_toLogRecS_T k) Try.f89 w_toLogRecS_i w_toLogRecS_o (w_toLogRecS_G k) := fun x => by kernel_rfl
noncomputable def w_toLogRecS_E (k : Nat) : Env := (w_toLogRec_E k).with 89 w_toLogRecS_i w_toLogRecS_o (w_toLogRecS_G k)
theorem w_toLogRecS_ok (k : Nat) : EnvOk Try.prog (w_toLogRecS_E k) := (w_toLogRec_ok k).with mixed (by decide) (by kernel_rfl) (by kernel_rfl) (w_toLogRecS_c k) (by kernel_rfl)
/-! ### loop.example/tuggers/laws.toWldWorld -/
@[reducible] def w_toWldWorld_i : Sh := ⟨[.c (.agg [.ro q0, .int .i64, .int .i64, .int .i64, .int .i64, .ro (.int .i64), .ro (.list 221 q1), .ro q2, .int .i64, .ro q3])], []⟩
@[reducible] def w_toWldWorld_o : Sh := ⟨[.c (.agg [.own 0, .int .i64, .int .i64, .int .i64, .int .i64, .own 1, .own 2, .own 3, .int .i64, .own 4])], [(0, .rows 113 q0), (1, .rows 3 (.int .i64)), (2, .rows 205 (.list 219 q1)), (3, .rows 128 q2), (4, .rows 179 q3)]⟩
noncomputable def w_toWldWorld_T (k : Nat) : Env := ((w_toLogRecS_E k).at 0 k [] [] [⟨2, true, 0, 113, q0⟩, ⟨2, true, 5, 3, (.int .i64)⟩, ⟨2, true, 6, 205, (.list 219 q1)⟩, ⟨2, true, 7, 128, q2⟩, ⟨2, true, 9, 179, q3⟩]).gated (fun _ => true)
noncomputable def w_toWldWorld (k : Nat) (x0 : List (Int × (Int × (Int × (Int × (Bool × Int)))))) (x1 : Int) (x2 : Int) (x3 : Int) (x4 : Int) (x5 : List Int) (x6 : List (List (Int × Int))) (x7 : List (Int × ((Int × (Int × Int)) × (Int × ((Int × Int) × ((Int × Int) × (Int × (Int × ((Int × Int) × ((Int × Int) × (Int × (Int × ((Int × Int) × (Int × (Bool × (ByteArray × (ByteArray × (Int × Int)))))))))))))))))) (x8 : Int) (x9 : List (Int × ((Int × (Int × Int)) × ((Int × Int) × (Int × (Int × Int)))))) : Option (Dt w_toWldWorld_o) := evFn (w_toWldWorld_T k) Try.f34 [.c (.agg [.ro q0 x0, .int .i64 x1, .int .i64 x2, .int .i64 x3, .int .i64 x4, .ro (.int .i64) x5, .ro (.list 221 q1) x6, .ro q2 x7, .int .i64 x8, .ro q3 x9])] [] (unOut w_toWldWorld_o)
theorem w_toWldWorld_eq (k : Nat) (x0 : List (Int × (Int × (Int × (Int × (Bool × Int)))))) (x1 : Int) (x2 : Int) (x3 : Int) (x4 : Int) (x5 : List Int) (x6 : List (List (Int × Int))) (x7 : List (Int × ((Int × (Int × Int)) × (Int × ((Int × Int) × ((Int × Int) × (Int × (Int × ((Int × Int) × ((Int × Int) × (Int × (Int × ((Int × Int) × (Int × (Bool × (ByteArray × (ByteArray × (Int × Int)))))))))))))))))) (x8 : Int) (x9 : List (Int × ((Int × (Int × Int)) × ((Int × Int) × (Int × (Int × Int)))))) : w_toWldWorld k x0 x1 x2 x3 x4 x5 x6 x7 x8 x9 =
  ((w_toArnArena k x0 x1 x2 x3).bind fun y1 =>
  ((w_toPolPool k x4 x5 x6).bind fun y2 =>
  ((w_toHndHandS k x7).bind fun y3 =>
  ((w_toLogRecS k x9).bind fun y4 =>
  (some (y1.1, y1.2.1, y1.2.2.1, y2.1, x8, y1.2.2.2.1, y2.2.1, y2.2.2.1, y3.1, y4.1, ())))))) := by kernel_rfl
noncomputable def w_toWldWorld_G (k : Nat) : Dt w_toWldWorld_i → Option (Dt w_toWldWorld_o) := fun x => w_toWldWorld k x.1 x.2.1 x.2.2.1 x.2.2.2.1 x.2.2.2.2.1 x.2.2.2.2.2.1 x.2.2.2.2.2.2.1 x.2.2.2.2.2.2.2.1 x.2.2.2.2.2.2.2.2.1 x.2.2.2.2.2.2.2.2.2.1
theorem w_toWldWorld_c (k : Nat) : Comes1 (w_toWldWorld_T k) Try.f34 w_toWldWorld_i w_toWldWorld_o (w_toWldWorld_G k) := fun x => by kernel_rfl
noncomputable def w_toWldWorld_E (k : Nat) : Env := (w_toLogRecS_E k).with 34 w_toWldWorld_i w_toWldWorld_o (w_toWldWorld_G k)
theorem w_toWldWorld_ok (k : Nat) : EnvOk Try.prog (w_toWldWorld_E k) := (w_toLogRecS_ok k).with mixed (by decide) (by kernel_rfl) (by kernel_rfl) (w_toWldWorld_c k) (by kernel_rfl)
/-! ### loop.example/tuggers/spec.HndTouch -/
@[reducible] def s_HndTouch_i : Sh := ⟨[.c (.agg [.int .i64, .int .i64, .int .i64, .int .i64, .int .i64, .int .i64, .int .i64, .int .i64, .int .i64, .int .i64, .int .i64, .int .i64, .int .i64, .int .i64, .int .i64, .int .i64, .int .i64, .int .i64, .int .i64, .int .i64, .bool, .str, .str, .int .i64, .int .i64])], []⟩
@[reducible] def s_HndTouch_o : Sh := ⟨[.tup [.agg [.int .i64, .int .i64], .leaf (.bool)]], []⟩
noncomputable def s_HndTouch_T (k : Nat) : Env := ((w_toWldWorld_E k).at 0 k [(24, ⟨[2], []⟩)] [] []).gated (fun _ => true)
noncomputable def s_HndTouch_j24 (k : Nat) (v0 : Int) (v1 : Int) : Option (Dt s_HndTouch_o) := atRegion (s_HndTouch_T k) (subF Try.f85 [.r, .r, .l]) ⟨tml 42 [(2, .c (.leaf (.ptr 0 0)))], [(0, .cells 124 [.int .i64 v0, .int .i64 v1])]⟩ (ksq (s_HndTouch_T k) (subF Try.f85 [.r, .r]) (kret (s_HndTouch_T k) Try.f85.results.toList (unOut s_HndTouch_o)))
noncomputable def s_HndTouch (k : Nat) (x0 : Int) (x1 : Int) (x2 : Int) (x3 : Int) (x4 : Int) (x5 : Int) (x6 : Int) (x7 : Int) (x8 : Int) (x9 : Int) (x10 : Int) (x11 : Int) (x12 : Int) (x13 : Int) (x14 : Int) (x15 : Int) (x16 : Int) (x17 : Int) (x18 : Int) (x19 : Int) (x20 : Bool) (x21 : ByteArray) (x22 : ByteArray) (x23 : Int) (x24 : Int) : Option (Dt s_HndTouch_o) := evFn (s_HndTouch_T k) Try.f85 [.c (.agg [.int .i64 x0, .int .i64 x1, .int .i64 x2, .int .i64 x3, .int .i64 x4, .int .i64 x5, .int .i64 x6, .int .i64 x7, .int .i64 x8, .int .i64 x9, .int .i64 x10, .int .i64 x11, .int .i64 x12, .int .i64 x13, .int .i64 x14, .int .i64 x15, .int .i64 x16, .int .i64 x17, .int .i64 x18, .int .i64 x19, .bool x20, .str x21, .str x22, .int .i64 x23, .int .i64 x24])] [] (unOut s_HndTouch_o)
theorem s_HndTouch_j24_eq (k : Nat) (v0 : Int) (v1 : Int) : s_HndTouch_j24 k v0 v1 =
  (some ((0:Int), (0:Int), false, ())) := by kernel_rfl
theorem s_HndTouch_eq (k : Nat) (x0 : Int) (x1 : Int) (x2 : Int) (x3 : Int) (x4 : Int) (x5 : Int) (x6 : Int) (x7 : Int) (x8 : Int) (x9 : Int) (x10 : Int) (x11 : Int) (x12 : Int) (x13 : Int) (x14 : Int) (x15 : Int) (x16 : Int) (x17 : Int) (x18 : Int) (x19 : Int) (x20 : Bool) (x21 : ByteArray) (x22 : ByteArray) (x23 : Int) (x24 : Int) : s_HndTouch k x0 x1 x2 x3 x4 x5 x6 x7 x8 x9 x10 x11 x12 x13 x14 x15 x16 x17 x18 x19 x20 x21 x22 x23 x24 =
  (if (decide (x0 = (4:Int))) = true then
  (if (decide (x0 = (4:Int))) = true then
  (some ((0:Int), (0:Int), true, ()))
 else
  (if (decide (x0 = (5:Int))) = true then
  (some (x7, x8, (decide ((0:Int) < x7)), ()))
 else
  (if (decide (x0 = (8:Int))) = true then
  (if (decide (x0 = (8:Int))) = true then
  (some (x7, x8, true, ()))
 else
  (if (decide (x0 = (6:Int))) = true then
  (if (decide (x0 = (6:Int))) = true then
  (some (x5, x6, true, ()))
 else
  (if (decide (x0 = (10:Int))) = true then
  (if (decide (x0 = (10:Int))) = true then
  (some (x11, x12, true, ()))
 else
  (s_HndTouch_j24 k (0:Int) (0:Int)))
 else
  (if (decide (x0 = (14:Int))) = true then
  (if (decide (x0 = (14:Int))) = true then
  (some (x11, x12, true, ()))
 else
  (s_HndTouch_j24 k (0:Int) (0:Int)))
 else
  (if (decide (x0 = (23:Int))) = true then
  (some (x11, x12, true, ()))
 else
  (s_HndTouch_j24 k (0:Int) (0:Int))))))
 else
  (if (decide (x0 = (11:Int))) = true then
  (if (decide (x0 = (11:Int))) = true then
  (some (x5, x6, true, ()))
 else
  (if (decide (x0 = (10:Int))) = true then
  (if (decide (x0 = (10:Int))) = true then
  (some (x11, x12, true, ()))
 else
  (s_HndTouch_j24 k (0:Int) (0:Int)))
 else
  (if (decide (x0 = (14:Int))) = true then
  (if (decide (x0 = (14:Int))) = true then
  (some (x11, x12, true, ()))
 else
  (s_HndTouch_j24 k (0:Int) (0:Int)))
 else
  (if (decide (x0 = (23:Int))) = true then
  (some (x11, x12, true, ()))
 else
  (s_HndTouch_j24 k (0:Int) (0:Int))))))
 else
  (if (decide (x0 = (13:Int))) = true then
  (if (decide (x0 = (13:Int))) = true then
  (some (x5, x6, true, ()))
 else
  (if (decide (x0 = (10:Int))) = true then
  (if (decide (x0 = (10:Int))) = true then
  (some (x11, x12, true, ()))
 else
  (s_HndTouch_j24 k (0:Int) (0:Int)))
 else
  (if (decide (x0 = (14:Int))) = true then
  (if (decide (x0 = (14:Int))) = true then
  (some (x11, x12, true, ()))
 else
  (s_HndTouch_j24 k (0:Int) (0:Int)))
 else
  (if (decide (x0 = (23:Int))) = true then
  (some (x11, x12, true, ()))
 else
  (s_HndTouch_j24 k (0:Int) (0:Int))))))
 else
  (if (decide (x0 = (35:Int))) = true then
  (some (x5, x6, true, ()))
 else
  (if (decide (x0 = (10:Int))) = true then
  (if (decide (x0 = (10:Int))) = true then
  (some (x11, x12, true, ()))
 else
  (s_HndTouch_j24 k (0:Int) (0:Int)))
 else
  (if (decide (x0 = (14:Int))) = true then
  (if (decide (x0 = (14:Int))) = true then
  (some (x11, x12, true, ()))
 else
  (s_HndTouch_j24 k (0:Int) (0:Int)))
 else
  (if (decide (x0 = (23:Int))) = true then
  (some (x11, x12, true, ()))
 else
  (s_HndTouch_j24 k (0:Int) (0:Int))))))))))
 else
  (if (decide (x0 = (12:Int))) = true then
  (if (decide (x0 = (12:Int))) = true then
  (some (x7, x8, true, ()))
 else
  (if (decide (x0 = (6:Int))) = true then
  (if (decide (x0 = (6:Int))) = true then
  (some (x5, x6, true, ()))
 else
  (if (decide (x0 = (10:Int))) = true then
  (if (decide (x0 = (10:Int))) = true then
  (some (x11, x12, true, ()))
 else
  (s_HndTouch_j24 k (0:Int) (0:Int)))
 else
  (if (decide (x0 = (14:Int))) = true then
  (if (decide (x0 = (14:Int))) = true then
  (some (x11, x12, true, ()))
 else
  (s_HndTouch_j24 k (0:Int) (0:Int)))
 else
  (if (decide (x0 = (23:Int))) = true then
  (some (x11, x12, true, ()))
 else
  (s_HndTouch_j24 k (0:Int) (0:Int))))))
 else
  (if (decide (x0 = (11:Int))) = true then
  (if (decide (x0 = (11:Int))) = true then
  (some (x5, x6, true, ()))
 else
  (if (decide (x0 = (10:Int))) = true then
  (if (decide (x0 = (10:Int))) = true then
  (some (x11, x12, true, ()))
 else
  (s_HndTouch_j24 k (0:Int) (0:Int)))
 else
  (if (decide (x0 = (14:Int))) = true then
  (if (decide (x0 = (14:Int))) = true then
  (some (x11, x12, true, ()))
 else
  (s_HndTouch_j24 k (0:Int) (0:Int)))
 else
  (if (decide (x0 = (23:Int))) = true then
  (some (x11, x12, true, ()))
 else
  (s_HndTouch_j24 k (0:Int) (0:Int))))))
 else
  (if (decide (x0 = (13:Int))) = true then
  (if (decide (x0 = (13:Int))) = true then
  (some (x5, x6, true, ()))
 else
  (if (decide (x0 = (10:Int))) = true then
  (if (decide (x0 = (10:Int))) = true then
  (some (x11, x12, true, ()))
 else
  (s_HndTouch_j24 k (0:Int) (0:Int)))
 else
  (if (decide (x0 = (14:Int))) = true then
  (if (decide (x0 = (14:Int))) = true then
  (some (x11, x12, true, ()))
 else
  (s_HndTouch_j24 k (0:Int) (0:Int)))
 else
  (if (decide (x0 = (23:Int))) = true then
  (some (x11, x12, true, ()))
 else
  (s_HndTouch_j24 k (0:Int) (0:Int))))))
 else
  (if (decide (x0 = (35:Int))) = true then
  (some (x5, x6, true, ()))
 else
  (if (decide (x0 = (10:Int))) = true then
  (if (decide (x0 = (10:Int))) = true then
  (some (x11, x12, true, ()))
 else
  (s_HndTouch_j24 k (0:Int) (0:Int)))
 else
  (if (decide (x0 = (14:Int))) = true then
  (if (decide (x0 = (14:Int))) = true then
  (some (x11, x12, true, ()))
 else
  (s_HndTouch_j24 k (0:Int) (0:Int)))
 else
  (if (decide (x0 = (23:Int))) = true then
  (some (x11, x12, true, ()))
 else
  (s_HndTouch_j24 k (0:Int) (0:Int))))))))))
 else
  (if (decide (x0 = (25:Int))) = true then
  (if (decide (x0 = (25:Int))) = true then
  (some (x7, x8, true, ()))
 else
  (if (decide (x0 = (6:Int))) = true then
  (if (decide (x0 = (6:Int))) = true then
  (some (x5, x6, true, ()))
 else
  (if (decide (x0 = (10:Int))) = true then
  (if (decide (x0 = (10:Int))) = true then
  (some (x11, x12, true, ()))
 else
  (s_HndTouch_j24 k (0:Int) (0:Int)))
 else
  (if (decide (x0 = (14:Int))) = true then
  (if (decide (x0 = (14:Int))) = true then
  (some (x11, x12, true, ()))
 else
  (s_HndTouch_j24 k (0:Int) (0:Int)))
 else
  (if (decide (x0 = (23:Int))) = true then
  (some (x11, x12, true, ()))
 else
  (s_HndTouch_j24 k (0:Int) (0:Int))))))
 else
  (if (decide (x0 = (11:Int))) = true then
  (if (decide (x0 = (11:Int))) = true then
  (some (x5, x6, true, ()))
 else
  (if (decide (x0 = (10:Int))) = true then
  (if (decide (x0 = (10:Int))) = true then
  (some (x11, x12, true, ()))
 else
  (s_HndTouch_j24 k (0:Int) (0:Int)))
 else
  (if (decide (x0 = (14:Int))) = true then
  (if (decide (x0 = (14:Int))) = true then
  (some (x11, x12, true, ()))
 else
  (s_HndTouch_j24 k (0:Int) (0:Int)))
 else
  (if (decide (x0 = (23:Int))) = true then
  (some (x11, x12, true, ()))
 else
  (s_HndTouch_j24 k (0:Int) (0:Int))))))
 else
  (if (decide (x0 = (13:Int))) = true then
  (if (decide (x0 = (13:Int))) = true then
  (some (x5, x6, true, ()))
 else
  (if (decide (x0 = (10:Int))) = true then
  (if (decide (x0 = (10:Int))) = true then
  (some (x11, x12, true, ()))
 else
  (s_HndTouch_j24 k (0:Int) (0:Int)))
 else
  (if (decide (x0 = (14:Int))) = true then
  (if (decide (x0 = (14:Int))) = true then
  (some (x11, x12, true, ()))
 else
  (s_HndTouch_j24 k (0:Int) (0:Int)))
 else
  (if (decide (x0 = (23:Int))) = true then
  (some (x11, x12, true, ()))
 else
  (s_HndTouch_j24 k (0:Int) (0:Int))))))
 else
  (if (decide (x0 = (35:Int))) = true then
  (some (x5, x6, true, ()))
 else
  (if (decide (x0 = (10:Int))) = true then
  (if (decide (x0 = (10:Int))) = true then
  (some (x11, x12, true, ()))
 else
  (s_HndTouch_j24 k (0:Int) (0:Int)))
 else
  (if (decide (x0 = (14:Int))) = true then
  (if (decide (x0 = (14:Int))) = true then
  (some (x11, x12, true, ()))
 else
  (s_HndTouch_j24 k (0:Int) (0:Int)))
 else
  (if (decide (x0 = (23:Int))) = true then
  (some (x11, x12, true, ()))
 else
  (s_HndTouch_j24 k (0:Int) (0:Int))))))))))
 else
  (if (decide (x0 = (28:Int))) = true then
  (if (decide (x0 = (28:Int))) = true then
  (some (x7, x8, true, ()))
 else
  (if (decide (x0 = (6:Int))) = true then
  (if (decide (x0 = (6:Int))) = true then
  (some (x5, x6, true, ()))
 else
  (if (decide (x0 = (10:Int))) = true then
  (if (decide (x0 = (10:Int))) = true then
  (some (x11, x12, true, ()))
 else
  (s_HndTouch_j24 k (0:Int) (0:Int)))
 else
  (if (decide (x0 = (14:Int))) = true then
  (if (decide (x0 = (14:Int))) = true then
  (some (x11, x12, true, ()))
 else
  (s_HndTouch_j24 k (0:Int) (0:Int)))
 else
  (if (decide (x0 = (23:Int))) = true then
  (some (x11, x12, true, ()))
 else
  (s_HndTouch_j24 k (0:Int) (0:Int))))))
 else
  (if (decide (x0 = (11:Int))) = true then
  (if (decide (x0 = (11:Int))) = true then
  (some (x5, x6, true, ()))
 else
  (if (decide (x0 = (10:Int))) = true then
  (if (decide (x0 = (10:Int))) = true then
  (some (x11, x12, true, ()))
 else
  (s_HndTouch_j24 k (0:Int) (0:Int)))
 else
  (if (decide (x0 = (14:Int))) = true then
  (if (decide (x0 = (14:Int))) = true then
  (some (x11, x12, true, ()))
 else
  (s_HndTouch_j24 k (0:Int) (0:Int)))
 else
  (if (decide (x0 = (23:Int))) = true then
  (some (x11, x12, true, ()))
 else
  (s_HndTouch_j24 k (0:Int) (0:Int))))))
 else
  (if (decide (x0 = (13:Int))) = true then
  (if (decide (x0 = (13:Int))) = true then
  (some (x5, x6, true, ()))
 else
  (if (decide (x0 = (10:Int))) = true then
  (if (decide (x0 = (10:Int))) = true then
  (some (x11, x12, true, ()))
 else
  (s_HndTouch_j24 k (0:Int) (0:Int)))
 else
  (if (decide (x0 = (14:Int))) = true then
  (if (decide (x0 = (14:Int))) = true then
  (some (x11, x12, true, ()))
 else
  (s_HndTouch_j24 k (0:Int) (0:Int)))
 else
  (if (decide (x0 = (23:Int))) = true then
  (some (x11, x12, true, ()))
 else
  (s_HndTouch_j24 k (0:Int) (0:Int))))))
 else
  (if (decide (x0 = (35:Int))) = true then
  (some (x5, x6, true, ()))
 else
  (if (decide (x0 = (10:Int))) = true then
  (if (decide (x0 = (10:Int))) = true then
  (some (x11, x12, true, ()))
 else
  (s_HndTouch_j24 k (0:Int) (0:Int)))
 else
  (if (decide (x0 = (14:Int))) = true then
  (if (decide (x0 = (14:Int))) = true then
  (some (x11, x12, true, ()))
 else
  (s_HndTouch_j24 k (0:Int) (0:Int)))
 else
  (if (decide (x0 = (23:Int))) = true then
  (some (x11, x12, true, ()))
 else
  (s_HndTouch_j24 k (0:Int) (0:Int))))))))))
 else
  (if (decide (x0 = (30:Int))) = true then
  (if (decide (x0 = (30:Int))) = true then
  (some (x7, x8, true, ()))
 else
  (if (decide (x0 = (6:Int))) = true then
  (if (decide (x0 = (6:Int))) = true then
  (some (x5, x6, true, ()))
 else
  (if (decide (x0 = (10:Int))) = true then
  (if (decide (x0 = (10:Int))) = true then
  (some (x11, x12, true, ()))
 else
  (s_HndTouch_j24 k (0:Int) (0:Int)))
 else
  (if (decide (x0 = (14:Int))) = true then
  (if (decide (x0 = (14:Int))) = true then
  (some (x11, x12, true, ()))
 else
  (s_HndTouch_j24 k (0:Int) (0:Int)))
 else
  (if (decide (x0 = (23:Int))) = true then
  (some (x11, x12, true, ()))
 else
  (s_HndTouch_j24 k (0:Int) (0:Int))))))
 else
  (if (decide (x0 = (11:Int))) = true then
  (if (decide (x0 = (11:Int))) = true then
  (some (x5, x6, true, ()))
 else
  (if (decide (x0 = (10:Int))) = true then
  (if (decide (x0 = (10:Int))) = true then
  (some (x11, x12, true, ()))
 else
  (s_HndTouch_j24 k (0:Int) (0:Int)))
 else
  (if (decide (x0 = (14:Int))) = true then
  (if (decide (x0 = (14:Int))) = true then
  (some (x11, x12, true, ()))
 else
  (s_HndTouch_j24 k (0:Int) (0:Int)))
 else
  (if (decide (x0 = (23:Int))) = true then
  (some (x11, x12, true, ()))
 else
  (s_HndTouch_j24 k (0:Int) (0:Int))))))
 else
  (if (decide (x0 = (13:Int))) = true then
  (if (decide (x0 = (13:Int))) = true then
  (some (x5, x6, true, ()))
 else
  (if (decide (x0 = (10:Int))) = true then
  (if (decide (x0 = (10:Int))) = true then
  (some (x11, x12, true, ()))
 else
  (s_HndTouch_j24 k (0:Int) (0:Int)))
 else
  (if (decide (x0 = (14:Int))) = true then
  (if (decide (x0 = (14:Int))) = true then
  (some (x11, x12, true, ()))
 else
  (s_HndTouch_j24 k (0:Int) (0:Int)))
 else
  (if (decide (x0 = (23:Int))) = true then
  (some (x11, x12, true, ()))
 else
  (s_HndTouch_j24 k (0:Int) (0:Int))))))
 else
  (if (decide (x0 = (35:Int))) = true then
  (some (x5, x6, true, ()))
 else
  (if (decide (x0 = (10:Int))) = true then
  (if (decide (x0 = (10:Int))) = true then
  (some (x11, x12, true, ()))
 else
  (s_HndTouch_j24 k (0:Int) (0:Int)))
 else
  (if (decide (x0 = (14:Int))) = true then
  (if (decide (x0 = (14:Int))) = true then
  (some (x11, x12, true, ()))
 else
  (s_HndTouch_j24 k (0:Int) (0:Int)))
 else
  (if (decide (x0 = (23:Int))) = true then
  (some (x11, x12, true, ()))
 else
  (s_HndTouch_j24 k (0:Int) (0:Int))))))))))
 else
  (if (decide (x0 = (33:Int))) = true then
  (if (decide (x0 = (33:Int))) = true then
  (some (x7, x8, true, ()))
 else
  (if (decide (x0 = (6:Int))) = true then
  (if (decide (x0 = (6:Int))) = true then
  (some (x5, x6, true, ()))
 else
  (if (decide (x0 = (10:Int))) = true then
  (if (decide (x0 = (10:Int))) = true then
  (some (x11, x12, true, ()))
 else
  (s_HndTouch_j24 k (0:Int) (0:Int)))
 else
  (if (decide (x0 = (14:Int))) = true then
  (if (decide (x0 = (14:Int))) = true then
  (some (x11, x12, true, ()))
 else
  (s_HndTouch_j24 k (0:Int) (0:Int)))
 else
  (if (decide (x0 = (23:Int))) = true then
  (some (x11, x12, true, ()))
 else
  (s_HndTouch_j24 k (0:Int) (0:Int))))))
 else
  (if (decide (x0 = (11:Int))) = true then
  (if (decide (x0 = (11:Int))) = true then
  (some (x5, x6, true, ()))
 else
  (if (decide (x0 = (10:Int))) = true then
  (if (decide (x0 = (10:Int))) = true then
  (some (x11, x12, true, ()))
 else
  (s_HndTouch_j24 k (0:Int) (0:Int)))
 else
  (if (decide (x0 = (14:Int))) = true then
  (if (decide (x0 = (14:Int))) = true then
  (some (x11, x12, true, ()))
 else
  (s_HndTouch_j24 k (0:Int) (0:Int)))
 else
  (if (decide (x0 = (23:Int))) = true then
  (some (x11, x12, true, ()))
 else
  (s_HndTouch_j24 k (0:Int) (0:Int))))))
 else
  (if (decide (x0 = (13:Int))) = true then
  (if (decide (x0 = (13:Int))) = true then
  (some (x5, x6, true, ()))
 else
  (if (decide (x0 = (10:Int))) = true then
  (if (decide (x0 = (10:Int))) = true then
  (some (x11, x12, true, ()))
 else
  (s_HndTouch_j24 k (0:Int) (0:Int)))
 else
  (if (decide (x0 = (14:Int))) = true then
  (if (decide (x0 = (14:Int))) = true then
  (some (x11, x12, true, ()))
 else
  (s_HndTouch_j24 k (0:Int) (0:Int)))
 else
  (if (decide (x0 = (23:Int))) = true then
  (some (x11, x12, true, ()))
 else
  (s_HndTouch_j24 k (0:Int) (0:Int))))))
 else
  (if (decide (x0 = (35:Int))) = true then
  (some (x5, x6, true, ()))
 else
  (if (decide (x0 = (10:Int))) = true then
  (if (decide (x0 = (10:Int))) = true then
  (some (x11, x12, true, ()))
 else
  (s_HndTouch_j24 k (0:Int) (0:Int)))
 else
  (if (decide (x0 = (14:Int))) = true then
  (if (decide (x0 = (14:Int))) = true then
  (some (x11, x12, true, ()))
 else
  (s_HndTouch_j24 k (0:Int) (0:Int)))
 else
  (if (decide (x0 = (23:Int))) = true then
  (some (x11, x12, true, ()))
 else
  (s_HndTouch_j24 k (0:Int) (0:Int))))))))))
 else
  (if (decide (x0 = (38:Int))) = true then
  (some (x7, x8, true, ()))
 else
  (if (decide (x0 = (6:Int))) = true then
  (if (decide (x0 = (6:Int))) = true then
  (some (x5, x6, true, ()))
 else
  (if (decide (x0 = (10:Int))) = true then
  (if (decide (x0 = (10:Int))) = true then
  (some (x11, x12, true, ()))
 else
  (s_HndTouch_j24 k (0:Int) (0:Int)))
 else
  (if (decide (x0 = (14:Int))) = true then
  (if (decide (x0 = (14:Int))) = true then
  (some (x11, x12, true, ()))
 else
  (s_HndTouch_j24 k (0:Int) (0:Int)))
 else
  (if (decide (x0 = (23:Int))) = true then
  (some (x11, x12, true, ()))
 else
  (s_HndTouch_j24 k (0:Int) (0:Int))))))
 else
  (if (decide (x0 = (11:Int))) = true then
  (if (decide (x0 = (11:Int))) = true then
  (some (x5, x6, true, ()))
 else
  (if (decide (x0 = (10:Int))) = true then
  (if (decide (x0 = (10:Int))) = true then
  (some (x11, x12, true, ()))
 else
  (s_HndTouch_j24 k (0:Int) (0:Int)))
 else
  (if (decide (x0 = (14:Int))) = true then
  (if (decide (x0 = (14:Int))) = true then
  (some (x11, x12, true, ()))
 else
  (s_HndTouch_j24 k (0:Int) (0:Int)))
 else
  (if (decide (x0 = (23:Int))) = true then
  (some (x11, x12, true, ()))
 else
  (s_HndTouch_j24 k (0:Int) (0:Int))))))
 else
  (if (decide (x0 = (13:Int))) = true then
  (if (decide (x0 = (13:Int))) = true then
  (some (x5, x6, true, ()))
 else
  (if (decide (x0 = (10:Int))) = true then
  (if (decide (x0 = (10:Int))) = true then
  (some (x11, x12, true, ()))
 else
  (s_HndTouch_j24 k (0:Int) (0:Int)))
 else
  (if (decide (x0 = (14:Int))) = true then
  (if (decide (x0 = (14:Int))) = true then
  (some (x11, x12, true, ()))
 else
  (s_HndTouch_j24 k (0:Int) (0:Int)))
 else
  (if (decide (x0 = (23:Int))) = true then
  (some (x11, x12, true, ()))
 else
  (s_HndTouch_j24 k (0:Int) (0:Int))))))
 else
  (if (decide (x0 = (35:Int))) = true then
  (some (x5, x6, true, ()))
 else
  (if (decide (x0 = (10:Int))) = true then
  (if (decide (x0 = (10:Int))) = true then
  (some (x11, x12, true, ()))
 else
  (s_HndTouch_j24 k (0:Int) (0:Int)))
 else
  (if (decide (x0 = (14:Int))) = true then
  (if (decide (x0 = (14:Int))) = true then
  (some (x11, x12, true, ()))
 else
  (s_HndTouch_j24 k (0:Int) (0:Int)))
 else
  (if (decide (x0 = (23:Int))) = true then
  (some (x11, x12, true, ()))
 else
  (s_HndTouch_j24 k (0:Int) (0:Int))))))))))))))))))
 else
  (if (decide (x0 = (37:Int))) = true then
  (some ((0:Int), (0:Int), true, ()))
 else
  (if (decide (x0 = (5:Int))) = true then
  (some (x7, x8, (decide ((0:Int) < x7)), ()))
 else
  (if (decide (x0 = (8:Int))) = true then
  (if (decide (x0 = (8:Int))) = true then
  (some (x7, x8, true, ()))
 else
  (if (decide (x0 = (6:Int))) = true then
  (if (decide (x0 = (6:Int))) = true then
  (some (x5, x6, true, ()))
 else
  (if (decide (x0 = (10:Int))) = true then
  (if (decide (x0 = (10:Int))) = true then
  (some (x11, x12, true, ()))
 else
  (s_HndTouch_j24 k (0:Int) (0:Int)))
 else
  (if (decide (x0 = (14:Int))) = true then
  (if (decide (x0 = (14:Int))) = true then
  (some (x11, x12, true, ()))
 else
  (s_HndTouch_j24 k (0:Int) (0:Int)))
 else
  (if (decide (x0 = (23:Int))) = true then
  (some (x11, x12, true, ()))
 else
  (s_HndTouch_j24 k (0:Int) (0:Int))))))
 else
  (if (decide (x0 = (11:Int))) = true then
  (if (decide (x0 = (11:Int))) = true then
  (some (x5, x6, true, ()))
 else
  (if (decide (x0 = (10:Int))) = true then
  (if (decide (x0 = (10:Int))) = true then
  (some (x11, x12, true, ()))
 else
  (s_HndTouch_j24 k (0:Int) (0:Int)))
 else
  (if (decide (x0 = (14:Int))) = true then
  (if (decide (x0 = (14:Int))) = true then
  (some (x11, x12, true, ()))
 else
  (s_HndTouch_j24 k (0:Int) (0:Int)))
 else
  (if (decide (x0 = (23:Int))) = true then
  (some (x11, x12, true, ()))
 else
  (s_HndTouch_j24 k (0:Int) (0:Int))))))
 else
  (if (decide (x0 = (13:Int))) = true then
  (if (decide (x0 = (13:Int))) = true then
  (some (x5, x6, true, ()))
 else
  (if (decide (x0 = (10:Int))) = true then
  (if (decide (x0 = (10:Int))) = true then
  (some (x11, x12, true, ()))
 else
  (s_HndTouch_j24 k (0:Int) (0:Int)))
 else
  (if (decide (x0 = (14:Int))) = true then
  (if (decide (x0 = (14:Int))) = true then
  (some (x11, x12, true, ()))
 else
  (s_HndTouch_j24 k (0:Int) (0:Int)))
 else
  (if (decide (x0 = (23:Int))) = true then
  (some (x11, x12, true, ()))
 else
  (s_HndTouch_j24 k (0:Int) (0:Int))))))
 else
  (if (decide (x0 = (35:Int))) = true then
  (some (x5, x6, true, ()))
 else
  (if (decide (x0 = (10:Int))) = true then
  (if (decide (x0 = (10:Int))) = true then
  (some (x11, x12, true, ()))
 else
  (s_HndTouch_j24 k (0:Int) (0:Int)))
 else
  (if (decide (x0 = (14:Int))) = true then
  (if (decide (x0 = (14:Int))) = true then
  (some (x11, x12, true, ()))
 else
  (s_HndTouch_j24 k (0:Int) (0:Int)))
 else
  (if (decide (x0 = (23:Int))) = true then
  (some (x11, x12, true, ()))
 else
  (s_HndTouch_j24 k (0:Int) (0:Int))))))))))
 else
  (if (decide (x0 = (12:Int))) = true then
  (if (decide (x0 = (12:Int))) = true then
  (some (x7, x8, true, ()))
 else
  (if (decide (x0 = (6:Int))) = true then
  (if (decide (x0 = (6:Int))) = true then
  (some (x5, x6, true, ()))
 else
  (if (decide (x0 = (10:Int))) = true then
  (if (decide (x0 = (10:Int))) = true then
  (some (x11, x12, true, ()))
 else
  (s_HndTouch_j24 k (0:Int) (0:Int)))
 else
  (if (decide (x0 = (14:Int))) = true then
  (if (decide (x0 = (14:Int))) = true then
  (some (x11, x12, true, ()))
 else
  (s_HndTouch_j24 k (0:Int) (0:Int)))
 else
  (if (decide (x0 = (23:Int))) = true then
  (some (x11, x12, true, ()))
 else
  (s_HndTouch_j24 k (0:Int) (0:Int))))))
 else
  (if (decide (x0 = (11:Int))) = true then
  (if (decide (x0 = (11:Int))) = true then
  (some (x5, x6, true, ()))
 else
  (if (decide (x0 = (10:Int))) = true then
  (if (decide (x0 = (10:Int))) = true then
  (some (x11, x12, true, ()))
 else
  (s_HndTouch_j24 k (0:Int) (0:Int)))
 else
  (if (decide (x0 = (14:Int))) = true then
  (if (decide (x0 = (14:Int))) = true then
  (some (x11, x12, true, ()))
 else
  (s_HndTouch_j24 k (0:Int) (0:Int)))
 else
  (if (decide (x0 = (23:Int))) = true then
  (some (x11, x12, true, ()))
 else
  (s_HndTouch_j24 k (0:Int) (0:Int))))))
 else
  (if (decide (x0 = (13:Int))) = true then
  (if (decide (x0 = (13:Int))) = true then
  (some (x5, x6, true, ()))
 else
  (if (decide (x0 = (10:Int))) = true then
  (if (decide (x0 = (10:Int))) = true then
  (some (x11, x12, true, ()))
 else
  (s_HndTouch_j24 k (0:Int) (0:Int)))
 else
  (if (decide (x0 = (14:Int))) = true then
  (if (decide (x0 = (14:Int))) = true then
  (some (x11, x12, true, ()))
 else
  (s_HndTouch_j24 k (0:Int) (0:Int)))
 else
  (if (decide (x0 = (23:Int))) = true then
  (some (x11, x12, true, ()))
 else
  (s_HndTouch_j24 k (0:Int) (0:Int))))))
 else
  (if (decide (x0 = (35:Int))) = true then
  (some (x5, x6, true, ()))
 else
  (if (decide (x0 = (10:Int))) = true then
  (if (decide (x0 = (10:Int))) = true then
  (some (x11, x12, true, ()))
 else
  (s_HndTouch_j24 k (0:Int) (0:Int)))
 else
  (if (decide (x0 = (14:Int))) = true then
  (if (decide (x0 = (14:Int))) = true then
  (some (x11, x12, true, ()))
 else
  (s_HndTouch_j24 k (0:Int) (0:Int)))
 else
  (if (decide (x0 = (23:Int))) = true then
  (some (x11, x12, true, ()))
 else
  (s_HndTouch_j24 k (0:Int) (0:Int))))))))))
 else
  (if (decide (x0 = (25:Int))) = true then
  (if (decide (x0 = (25:Int))) = true then
  (some (x7, x8, true, ()))
 else
  (if (decide (x0 = (6:Int))) = true then
  (if (decide (x0 = (6:Int))) = true then
  (some (x5, x6, true, ()))
 else
  (if (decide (x0 = (10:Int))) = true then
  (if (decide (x0 = (10:Int))) = true then
  (some (x11, x12, true, ()))
 else
  (s_HndTouch_j24 k (0:Int) (0:Int)))
 else
  (if (decide (x0 = (14:Int))) = true then
  (if (decide (x0 = (14:Int))) = true then
  (some (x11, x12, true, ()))
 else
  (s_HndTouch_j24 k (0:Int) (0:Int)))
 else
  (if (decide (x0 = (23:Int))) = true then
  (some (x11, x12, true, ()))
 else
  (s_HndTouch_j24 k (0:Int) (0:Int))))))
 else
  (if (decide (x0 = (11:Int))) = true then
  (if (decide (x0 = (11:Int))) = true then
  (some (x5, x6, true, ()))
 else
  (if (decide (x0 = (10:Int))) = true then
  (if (decide (x0 = (10:Int))) = true then
  (some (x11, x12, true, ()))
 else
  (s_HndTouch_j24 k (0:Int) (0:Int)))
 else
  (if (decide (x0 = (14:Int))) = true then
  (if (decide (x0 = (14:Int))) = true then
  (some (x11, x12, true, ()))
 else
  (s_HndTouch_j24 k (0:Int) (0:Int)))
 else
  (if (decide (x0 = (23:Int))) = true then
  (some (x11, x12, true, ()))
 else
  (s_HndTouch_j24 k (0:Int) (0:Int))))))
 else
  (if (decide (x0 = (13:Int))) = true then
  (if (decide (x0 = (13:Int))) = true then
  (some (x5, x6, true, ()))
 else
  (if (decide (x0 = (10:Int))) = true then
  (if (decide (x0 = (10:Int))) = true then
  (some (x11, x12, true, ()))
 else
  (s_HndTouch_j24 k (0:Int) (0:Int)))
 else
  (if (decide (x0 = (14:Int))) = true then
  (if (decide (x0 = (14:Int))) = true then
  (some (x11, x12, true, ()))
 else
  (s_HndTouch_j24 k (0:Int) (0:Int)))
 else
  (if (decide (x0 = (23:Int))) = true then
  (some (x11, x12, true, ()))
 else
  (s_HndTouch_j24 k (0:Int) (0:Int))))))
 else
  (if (decide (x0 = (35:Int))) = true then
  (some (x5, x6, true, ()))
 else
  (if (decide (x0 = (10:Int))) = true then
  (if (decide (x0 = (10:Int))) = true then
  (some (x11, x12, true, ()))
 else
  (s_HndTouch_j24 k (0:Int) (0:Int)))
 else
  (if (decide (x0 = (14:Int))) = true then
  (if (decide (x0 = (14:Int))) = true then
  (some (x11, x12, true, ()))
 else
  (s_HndTouch_j24 k (0:Int) (0:Int)))
 else
  (if (decide (x0 = (23:Int))) = true then
  (some (x11, x12, true, ()))
 else
  (s_HndTouch_j24 k (0:Int) (0:Int))))))))))
 else
  (if (decide (x0 = (28:Int))) = true then
  (if (decide (x0 = (28:Int))) = true then
  (some (x7, x8, true, ()))
 else
  (if (decide (x0 = (6:Int))) = true then
  (if (decide (x0 = (6:Int))) = true then
  (some (x5, x6, true, ()))
 else
  (if (decide (x0 = (10:Int))) = true then
  (if (decide (x0 = (10:Int))) = true then
  (some (x11, x12, true, ()))
 else
  (s_HndTouch_j24 k (0:Int) (0:Int)))
 else
  (if (decide (x0 = (14:Int))) = true then
  (if (decide (x0 = (14:Int))) = true then
  (some (x11, x12, true, ()))
 else
  (s_HndTouch_j24 k (0:Int) (0:Int)))
 else
  (if (decide (x0 = (23:Int))) = true then
  (some (x11, x12, true, ()))
 else
  (s_HndTouch_j24 k (0:Int) (0:Int))))))
 else
  (if (decide (x0 = (11:Int))) = true then
  (if (decide (x0 = (11:Int))) = true then
  (some (x5, x6, true, ()))
 else
  (if (decide (x0 = (10:Int))) = true then
  (if (decide (x0 = (10:Int))) = true then
  (some (x11, x12, true, ()))
 else
  (s_HndTouch_j24 k (0:Int) (0:Int)))
 else
  (if (decide (x0 = (14:Int))) = true then
  (if (decide (x0 = (14:Int))) = true then
  (some (x11, x12, true, ()))
 else
  (s_HndTouch_j24 k (0:Int) (0:Int)))
 else
  (if (decide (x0 = (23:Int))) = true then
  (some (x11, x12, true, ()))
 else
  (s_HndTouch_j24 k (0:Int) (0:Int))))))
 else
  (if (decide (x0 = (13:Int))) = true then
  (if (decide (x0 = (13:Int))) = true then
  (some (x5, x6, true, ()))
 else
  (if (decide (x0 = (10:Int))) = true then
  (if (decide (x0 = (10:Int))) = true then
  (some (x11, x12, true, ()))
 else
  (s_HndTouch_j24 k (0:Int) (0:Int)))
 else
  (if (decide (x0 = (14:Int))) = true then
  (if (decide (x0 = (14:Int))) = true then
  (some (x11, x12, true, ()))
 else
  (s_HndTouch_j24 k (0:Int) (0:Int)))
 else
  (if (decide (x0 = (23:Int))) = true then
  (some (x11, x12, true, ()))
 else
  (s_HndTouch_j24 k (0:Int) (0:Int))))))
 else
  (if (decide (x0 = (35:Int))) = true then
  (some (x5, x6, true, ()))
 else
  (if (decide (x0 = (10:Int))) = true then
  (if (decide (x0 = (10:Int))) = true then
  (some (x11, x12, true, ()))
 else
  (s_HndTouch_j24 k (0:Int) (0:Int)))
 else
  (if (decide (x0 = (14:Int))) = true then
  (if (decide (x0 = (14:Int))) = true then
  (some (x11, x12, true, ()))
 else
  (s_HndTouch_j24 k (0:Int) (0:Int)))
 else
  (if (decide (x0 = (23:Int))) = true then
  (some (x11, x12, true, ()))
 else
  (s_HndTouch_j24 k (0:Int) (0:Int))))))))))
 else
  (if (decide (x0 = (30:Int))) = true then
  (if (decide (x0 = (30:Int))) = true then
  (some (x7, x8, true, ()))
 else
  (if (decide (x0 = (6:Int))) = true then
  (if (decide (x0 = (6:Int))) = true then
  (some (x5, x6, true, ()))
 else
  (if (decide (x0 = (10:Int))) = true then
  (if (decide (x0 = (10:Int))) = true then
  (some (x11, x12, true, ()))
 else
  (s_HndTouch_j24 k (0:Int) (0:Int)))
 else
  (if (decide (x0 = (14:Int))) = true then
  (if (decide (x0 = (14:Int))) = true then
  (some (x11, x12, true, ()))
 else
  (s_HndTouch_j24 k (0:Int) (0:Int)))
 else
  (if (decide (x0 = (23:Int))) = true then
  (some (x11, x12, true, ()))
 else
  (s_HndTouch_j24 k (0:Int) (0:Int))))))
 else
  (if (decide (x0 = (11:Int))) = true then
  (if (decide (x0 = (11:Int))) = true then
  (some (x5, x6, true, ()))
 else
  (if (decide (x0 = (10:Int))) = true then
  (if (decide (x0 = (10:Int))) = true then
  (some (x11, x12, true, ()))
 else
  (s_HndTouch_j24 k (0:Int) (0:Int)))
 else
  (if (decide (x0 = (14:Int))) = true then
  (if (decide (x0 = (14:Int))) = true then
  (some (x11, x12, true, ()))
 else
  (s_HndTouch_j24 k (0:Int) (0:Int)))
 else
  (if (decide (x0 = (23:Int))) = true then
  (some (x11, x12, true, ()))
 else
  (s_HndTouch_j24 k (0:Int) (0:Int))))))
 else
  (if (decide (x0 = (13:Int))) = true then
  (if (decide (x0 = (13:Int))) = true then
  (some (x5, x6, true, ()))
 else
  (if (decide (x0 = (10:Int))) = true then
  (if (decide (x0 = (10:Int))) = true then
  (some (x11, x12, true, ()))
 else
  (s_HndTouch_j24 k (0:Int) (0:Int)))
 else
  (if (decide (x0 = (14:Int))) = true then
  (if (decide (x0 = (14:Int))) = true then
  (some (x11, x12, true, ()))
 else
  (s_HndTouch_j24 k (0:Int) (0:Int)))
 else
  (if (decide (x0 = (23:Int))) = true then
  (some (x11, x12, true, ()))
 else
  (s_HndTouch_j24 k (0:Int) (0:Int))))))
 else
  (if (decide (x0 = (35:Int))) = true then
  (some (x5, x6, true, ()))
 else
  (if (decide (x0 = (10:Int))) = true then
  (if (decide (x0 = (10:Int))) = true then
  (some (x11, x12, true, ()))
 else
  (s_HndTouch_j24 k (0:Int) (0:Int)))
 else
  (if (decide (x0 = (14:Int))) = true then
  (if (decide (x0 = (14:Int))) = true then
  (some (x11, x12, true, ()))
 else
  (s_HndTouch_j24 k (0:Int) (0:Int)))
 else
  (if (decide (x0 = (23:Int))) = true then
  (some (x11, x12, true, ()))
 else
  (s_HndTouch_j24 k (0:Int) (0:Int))))))))))
 else
  (if (decide (x0 = (33:Int))) = true then
  (if (decide (x0 = (33:Int))) = true then
  (some (x7, x8, true, ()))
 else
  (if (decide (x0 = (6:Int))) = true then
  (if (decide (x0 = (6:Int))) = true then
  (some (x5, x6, true, ()))
 else
  (if (decide (x0 = (10:Int))) = true then
  (if (decide (x0 = (10:Int))) = true then
  (some (x11, x12, true, ()))
 else
  (s_HndTouch_j24 k (0:Int) (0:Int)))
 else
  (if (decide (x0 = (14:Int))) = true then
  (if (decide (x0 = (14:Int))) = true then
  (some (x11, x12, true, ()))
 else
  (s_HndTouch_j24 k (0:Int) (0:Int)))
 else
  (if (decide (x0 = (23:Int))) = true then
  (some (x11, x12, true, ()))
 else
  (s_HndTouch_j24 k (0:Int) (0:Int))))))
 else
  (if (decide (x0 = (11:Int))) = true then
  (if (decide (x0 = (11:Int))) = true then
  (some (x5, x6, true, ()))
 else
  (if (decide (x0 = (10:Int))) = true then
  (if (decide (x0 = (10:Int))) = true then
  (some (x11, x12, true, ()))
 else
  (s_HndTouch_j24 k (0:Int) (0:Int)))
 else
  (if (decide (x0 = (14:Int))) = true then
  (if (decide (x0 = (14:Int))) = true then
  (some (x11, x12, true, ()))
 else
  (s_HndTouch_j24 k (0:Int) (0:Int)))
 else
  (if (decide (x0 = (23:Int))) = true then
  (some (x11, x12, true, ()))
 else
  (s_HndTouch_j24 k (0:Int) (0:Int))))))
 else
  (if (decide (x0 = (13:Int))) = true then
  (if (decide (x0 = (13:Int))) = true then
  (some (x5, x6, true, ()))
 else
  (if (decide (x0 = (10:Int))) = true then
  (if (decide (x0 = (10:Int))) = true then
  (some (x11, x12, true, ()))
 else
  (s_HndTouch_j24 k (0:Int) (0:Int)))
 else
  (if (decide (x0 = (14:Int))) = true then
  (if (decide (x0 = (14:Int))) = true then
  (some (x11, x12, true, ()))
 else
  (s_HndTouch_j24 k (0:Int) (0:Int)))
 else
  (if (decide (x0 = (23:Int))) = true then
  (some (x11, x12, true, ()))
 else
  (s_HndTouch_j24 k (0:Int) (0:Int))))))
 else
  (if (decide (x0 = (35:Int))) = true then
  (some (x5, x6, true, ()))
 else
  (if (decide (x0 = (10:Int))) = true then
  (if (decide (x0 = (10:Int))) = true then
  (some (x11, x12, true, ()))
 else
  (s_HndTouch_j24 k (0:Int) (0:Int)))
 else
  (if (decide (x0 = (14:Int))) = true then
  (if (decide (x0 = (14:Int))) = true then
  (some (x11, x12, true, ()))
 else
  (s_HndTouch_j24 k (0:Int) (0:Int)))
 else
  (if (decide (x0 = (23:Int))) = true then
  (some (x11, x12, true, ()))
 else
  (s_HndTouch_j24 k (0:Int) (0:Int))))))))))
 else
  (if (decide (x0 = (38:Int))) = true then
  (some (x7, x8, true, ()))
 else
  (if (decide (x0 = (6:Int))) = true then
  (if (decide (x0 = (6:Int))) = true then
  (some (x5, x6, true, ()))
 else
  (if (decide (x0 = (10:Int))) = true then
  (if (decide (x0 = (10:Int))) = true then
  (some (x11, x12, true, ()))
 else
  (s_HndTouch_j24 k (0:Int) (0:Int)))
 else
  (if (decide (x0 = (14:Int))) = true then
  (if (decide (x0 = (14:Int))) = true then
  (some (x11, x12, true, ()))
 else
  (s_HndTouch_j24 k (0:Int) (0:Int)))
 else
  (if (decide (x0 = (23:Int))) = true then
  (some (x11, x12, true, ()))
 else
  (s_HndTouch_j24 k (0:Int) (0:Int))))))
 else
  (if (decide (x0 = (11:Int))) = true then
  (if (decide (x0 = (11:Int))) = true then
  (some (x5, x6, true, ()))
 else
  (if (decide (x0 = (10:Int))) = true then
  (if (decide (x0 = (10:Int))) = true then
  (some (x11, x12, true, ()))
 else
  (s_HndTouch_j24 k (0:Int) (0:Int)))
 else
  (if (decide (x0 = (14:Int))) = true then
  (if (decide (x0 = (14:Int))) = true then
  (some (x11, x12, true, ()))
 else
  (s_HndTouch_j24 k (0:Int) (0:Int)))
 else
  (if (decide (x0 = (23:Int))) = true then
  (some (x11, x12, true, ()))
 else
  (s_HndTouch_j24 k (0:Int) (0:Int))))))
 else
  (if (decide (x0 = (13:Int))) = true then
  (if (decide (x0 = (13:Int))) = true then
  (some (x5, x6, true, ()))
 else
  (if (decide (x0 = (10:Int))) = true then
  (if (decide (x0 = (10:Int))) = true then
  (some (x11, x12, true, ()))
 else
  (s_HndTouch_j24 k (0:Int) (0:Int)))
 else
  (if (decide (x0 = (14:Int))) = true then
  (if (decide (x0 = (14:Int))) = true then
  (some (x11, x12, true, ()))
 else
  (s_HndTouch_j24 k (0:Int) (0:Int)))
 else
  (if (decide (x0 = (23:Int))) = true then
  (some (x11, x12, true, ()))
 else
  (s_HndTouch_j24 k (0:Int) (0:Int))))))
 else
  (if (decide (x0 = (35:Int))) = true then
  (some (x5, x6, true, ()))
 else
  (if (decide (x0 = (10:Int))) = true then
  (if (decide (x0 = (10:Int))) = true then
  (some (x11, x12, true, ()))
 else
  (s_HndTouch_j24 k (0:Int) (0:Int)))
 else
  (if (decide (x0 = (14:Int))) = true then
  (if (decide (x0 = (14:Int))) = true then
  (some (x11, x12, true, ()))
 else
  (s_HndTouch_j24 k (0:Int) (0:Int)))
 else
  (if (decide (x0 = (23:Int))) = true then
  (some (x11, x12, true, ()))
 else
  (s_HndTouch_j24 k (0:Int) (0:Int))))))))))))))))))) := by kernel_rfl
noncomputable def s_HndTouch_G (k : Nat) : Dt s_HndTouch_i → Option (Dt s_HndTouch_o) := fun x => s_HndTouch k x.1 x.2.1 x.2.2.1 x.2.2.2.1 x.2.2.2.2.1 x.2.2.2.2.2.1 x.2.2.2.2.2.2.1 x.2.2.2.2.2.2.2.1 x.2.2.2.2.2.2.2.2.1 x.2.2.2.2.2.2.2.2.2.1 x.2.2.2.2.2.2.2.2.2.2.1 x.2.2.2.2.2.2.2.2.2.2.2.1 x.2.2.2.2.2.2.2.2.2.2.2.2.1 x.2.2.2.2.2.2.2.2.2.2.2.2.2.1 x.2.2.2.2.2.2.2.2.2.2.2.2.2.2.1 x.2.2.2.2.2.2.2.2.2.2.2.2.2.2.2.1 x.2.2.2.2.2.2.2.2.2.2.2.2.2.2.2.2.1 x.2.2.2.2.2.2.2.2.2.2.2.2.2.2.2.2.2.1 x.2.2.2.2.2.2.2.2.2.2.2.2.2.2.2.2.2.2.1 x.2.2.2.2.2.2.2.2.2.2.2.2.2.2.2.2.2.2.2.1 x.2.2.2.2.2.2.2.2.2.2.2.2.2.2.2.2.2.2.2.2.1 x.2.2.2.2.2.2.2.2.2.2.2.2.2.2.2.2.2.2.2.2.2.1 x.2.2.2.2.2.2.2.2.2.2.2.2.2.2.2.2.2.2.2.2.2.2.1 x.2.2.2.2.2.2.2.2.2.2.2.2.2.2.2.2.2.2.2.2.2.2.2.1 x.2.2.2.2.2.2.2.2.2.2.2.2.2.2.2.2.2.2.2.2.2.2.2.2.1
theorem s_HndTouch_c (k : Nat) : Comes1 (s_HndTouch_T k) Try.f85 s_HndTouch_i s_HndTouch_o (s_HndTouch_G k) := fun x => by kernel_rfl
noncomputable def s_HndTouch_E (k : Nat) : Env := (w_toWldWorld_E k).with 85 s_HndTouch_i s_HndTouch_o (s_HndTouch_G k)
theorem s_HndTouch_ok (k : Nat) : EnvOk Try.prog (s_HndTouch_E k) := (w_toWldWorld_ok k).with mixed (by decide) (by kernel_rfl) (by kernel_rfl) (s_HndTouch_c k) (by kernel_rfl)
end Go.Proofs.Ytiooamodldgalaa.Abs
