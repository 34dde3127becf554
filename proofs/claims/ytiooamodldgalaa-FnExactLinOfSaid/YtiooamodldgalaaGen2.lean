/-
Plain functions that the program's functions come to, with their equations; part 2.
-/
import Derived.Test.YtiooamodldgalaaGen1
set_option maxRecDepth 100000
set_option linter.unusedVariables false
namespace Go.Proofs.Ytiooamodldgalaa.Abs
open Go Go.Proofs.Try
/-! ### loop.example/tuggers/laws.FnExactArnStack -/
@[reducible] def w_FnExactArnStack_i : Sh := ⟨[.c (.agg [.ro q0, .int .i64, .int .i64, .int .i64])], []⟩
@[reducible] def w_FnExactArnStack_o : Sh := ⟨[.c (.leaf (.bool))], []⟩
noncomputable def w_FnExactArnStack_T (k : Nat) : Env := ((w_heldIntS_E k).at 0 k [] [] []).gated (fun _ => true)
noncomputable def w_FnExactArnStack (k : Nat) (x0 : List (Int × (Int × (Int × (Int × (Bool × Int)))))) (x1 : Int) (x2 : Int) (x3 : Int) : Option (Dt w_FnExactArnStack_o) := evFn (w_FnExactArnStack_T k) Try.f3 [.c (.agg [.ro q0 x0, .int .i64 x1, .int .i64 x2, .int .i64 x3])] [] (unOut w_FnExactArnStack_o)
theorem w_FnExactArnStack_eq (k : Nat) (x0 : List (Int × (Int × (Int × (Int × (Bool × Int)))))) (x1 : Int) (x2 : Int) (x3 : Int) : w_FnExactArnStack k x0 x1 x2 x3 =
  ((w_szArnArena k x0 x1 x2 x3 (1048576:Int)).bind fun y1 =>
  (if (decide (y1.1 < (0:Int))) = true then
  (some (true, ()))
 else
  ((w_toArnArena k x0 x1 x2 x3).bind fun y2 =>
  ((s_ArnStack k y2.2.2.2.1 y2.1 y2.2.1 y2.2.2.1).bind fun y3 =>
  ((w_toArnArena k x0 x1 x2 x3).bind fun y4 =>
  ((i_ArnStack k y4.2.2.2.1 y4.1 y4.2.1 y4.2.2.1).bind fun y5 =>
  ((w_eqIntS k y5.1 y3.1).bind fun y6 =>
  (if (!y6.1) = true then
  (some (false, ()))
 else
  ((w_toArnArena k x0 x1 x2 x3).bind fun y7 =>
  ((w_eqArnArena k y4.2.2.2.1 y4.1 y4.2.1 y4.2.2.1 y7.2.2.2.1 y7.1 y7.2.1 y7.2.2.1).bind fun y8 =>
  (if (!y8.1) = true then
  (some (false, ()))
 else
  ((w_markArnArena k y4.1 y4.2.1 y4.2.2.1 (1:Int) y4.2.2.2.1).bind fun y9 =>
  (if (decide (y9.1 < (0:Int))) = true then
  (some (false, ()))
 else
  ((w_eqIntS k y5.1 y3.1).bind fun y10 =>
  (if (!y10.1) = true then
  (some (false, ()))
 else
  ((w_markIntS k (1:Int) y5.1).bind fun y11 =>
  ((w_heldIntS k y11.2.1 (1:Int)).bind fun y12 =>
  (if (decide (y12.1 < (0:Int))) = true then
  (some (false, ()))
 else
  (if (decide (¬ y12.1 = y11.1)) = true then
  (some (false, ()))
 else
  ((w_toArnArena k x0 x1 x2 x3).bind fun y13 =>
  ((i_ArnStack k y13.2.2.2.1 y13.1 y13.2.1 y13.2.2.1).bind fun y14 =>
  ((w_eqIntS k y14.1 y3.1).bind fun y15 =>
  (if (!y15.1) = true then
  (some (false, ()))
 else
  ((w_heldIntS k y11.2.1 (1:Int)).bind fun y16 =>
  (if (decide (y16.1 < (0:Int))) = true then
  (some (false, ()))
 else
  (if (decide (¬ y16.1 = y11.1)) = true then
  (some (false, ()))
 else
  (some (true, ())))))))))))))))))))))))))))) := by kernel_rfl
noncomputable def w_FnExactArnStack_G (k : Nat) : Dt w_FnExactArnStack_i → Option (Dt w_FnExactArnStack_o) := fun x => w_FnExactArnStack k x.1 x.2.1 x.2.2.1 x.2.2.2.1
theorem w_FnExactArnStack_c (k : Nat) : Comes1 (w_FnExactArnStack_T k) Try.f3 w_FnExactArnStack_i w_FnExactArnStack_o (w_FnExactArnStack_G k) := fun x => by kernel_rfl
noncomputable def w_FnExactArnStack_E (k : Nat) : Env := (w_heldIntS_E k).with 3 w_FnExactArnStack_i w_FnExactArnStack_o (w_FnExactArnStack_G k)
theorem w_FnExactArnStack_ok (k : Nat) : EnvOk Try.prog (w_FnExactArnStack_E k) := (w_heldIntS_ok k).with mixed (by decide) (by kernel_rfl) (by kernel_rfl) (w_FnExactArnStack_c k) (by kernel_rfl)
/-! ### loop.example/tuggers/spec.ArnMap -/
@[reducible] def s_ArnMap_i : Sh := ⟨[.c (.agg [.ro q0, .int .i64, .int .i64, .int .i64])], []⟩
@[reducible] def s_ArnMap_o : Sh := ⟨[.c (.agg [.own 0])], [(0, .rows 116 q1)]⟩
noncomputable def s_ArnMap_T (k : Nat) : Env := ((w_FnExactArnStack_E k).at 0 k [(7, ⟨[1, 2, 3, 4, 5], []⟩)] [(6, ⟨[1, 2, 3, 4, 5], [⟨1, true, 0, 113, q0⟩, ⟨2, true, 0, 116, q1⟩, ⟨3, true, 0, 116, q1⟩, ⟨4, false, 0, 3, (.int .i64)⟩]⟩)] [⟨2, true, 0, 116, q1⟩]).gated (fun _ => true)
noncomputable def s_ArnMap_j7 (k n0 : Nat) (v0 : Int) (v1 : List (Int × (Int × (Int × (Int × (Bool × Int)))))) (v2 : Int) (v3 : Int) (v4 : Int) (v5 : List Int) (v6 : List (Int × Int)) (v7 : List (Int × Int)) : Option (Dt s_ArnMap_o) := atRegion (s_ArnMap_T k) (subF Try.f22 [.r, .r, .r, .r, .l, .r, .l, .l, .r, .r]) ⟨tml 43 [(1, .c (.leaf (.ptr 0 0))), (2, .c (.leaf (.ptr 1 0))), (3, .c (.leaf (.ptr 2 0))), (4, .c (.leaf (.own 3))), (5, .c (.leaf (.int .i64 v0)))], [(0, .cells 30 [.ro q0 v1, .int .i64 v2, .int .i64 v3, .int .i64 v4]), (1, .cells 39 [.own 4]), (2, .cells 39 [.own 5]), (3, .rows 3 (.int .i64) v5), (4, .rows 116 q1 v6), (5, .rows 116 q1 v7)]⟩ (klp (s_ArnMap_T k) (subF Try.f22 [.r, .r, .r, .r, .l, .r, .l]) n0 (kbl (subF Try.f22 [.r, .r, .r, .r, .l, .r]) (ksq (s_ArnMap_T k) (subF Try.f22 [.r, .r, .r, .r]) (kret (s_ArnMap_T k) Try.f22.results.toList (unOut s_ArnMap_o)))))
noncomputable def s_ArnMap_l6 (k n0 : Nat) (v0 : Int) (v1 : List (Int × (Int × (Int × (Int × (Bool × Int)))))) (v2 : Int) (v3 : Int) (v4 : Int) (v5 : List Int) (v6 : List (Int × Int)) (v7 : List (Int × Int)) : Option (Dt s_ArnMap_o) := atLoop (s_ArnMap_T k) (subF Try.f22 [.r, .r, .r, .r, .l, .r, .l]) n0 ⟨tml 43 [(1, .c (.leaf (.ptr 0 0))), (2, .c (.leaf (.ptr 1 0))), (3, .c (.leaf (.ptr 2 0))), (4, .c (.leaf (.own 3))), (5, .c (.leaf (.int .i64 v0)))], [(0, .cells 30 [.ro q0 v1, .int .i64 v2, .int .i64 v3, .int .i64 v4]), (1, .cells 39 [.own 4]), (2, .cells 39 [.own 5]), (3, .rows 3 (.int .i64) v5), (4, .rows 116 q1 v6), (5, .rows 116 q1 v7)]⟩ (kbl (subF Try.f22 [.r, .r, .r, .r, .l, .r]) (ksq (s_ArnMap_T k) (subF Try.f22 [.r, .r, .r, .r]) (kret (s_ArnMap_T k) Try.f22.results.toList (unOut s_ArnMap_o))))
noncomputable def s_ArnMap (k : Nat) (x0 : List (Int × (Int × (Int × (Int × (Bool × Int)))))) (x1 : Int) (x2 : Int) (x3 : Int) : Option (Dt s_ArnMap_o) := evFn (s_ArnMap_T k) Try.f22 [.c (.agg [.ro q0 x0, .int .i64 x1, .int .i64 x2, .int .i64 x3])] [] (unOut s_ArnMap_o)
theorem s_ArnMap_j7_eq (k n0 : Nat) (v0 : Int) (v1 : List (Int × (Int × (Int × (Int × (Bool × Int)))))) (v2 : Int) (v3 : Int) (v4 : Int) (v5 : List Int) (v6 : List (Int × Int)) (v7 : List (Int × Int)) : s_ArnMap_j7 k n0 v0 v1 v2 v3 v4 v5 v6 v7 =
  (s_ArnMap_l6 k n0 (W (v0 + (1:Int))) v1 v2 v3 v4 v5 v6 v7) := by kernel_rfl
theorem s_ArnMap_l6_0 (k : Nat) (v0 : Int) (v1 : List (Int × (Int × (Int × (Int × (Bool × Int)))))) (v2 : Int) (v3 : Int) (v4 : Int) (v5 : List Int) (v6 : List (Int × Int)) (v7 : List (Int × Int)) : s_ArnMap_l6 k 0 v0 v1 v2 v3 v4 v5 v6 v7 = none := by kernel_rfl
theorem s_ArnMap_l6_s (k n0 : Nat) (v0 : Int) (v1 : List (Int × (Int × (Int × (Int × (Bool × Int)))))) (v2 : Int) (v3 : Int) (v4 : Int) (v5 : List Int) (v6 : List (Int × Int)) (v7 : List (Int × Int)) : s_ArnMap_l6 k (n0 + 1) v0 v1 v2 v3 v4 v5 v6 v7 =
  (if (decide (v0 < (List.length v5 : Int))) = true then
  (if (0:Int) ≤ v0 ∧ v0 < (List.length v5 : Int) then
  (if (0:Int) ≤ (v5.getD (Int.toNat v0) (0:Int)) ∧ (v5.getD (Int.toNat v0) (0:Int)) < (List.length v1 : Int) then
  ((s_WrdMark k (v1.getD (Int.toNat (v5.getD (Int.toNat v0) (0:Int))) ((0:Int), ((0:Int), ((0:Int), ((0:Int), (false, (0:Int))))))).2.2.1).bind fun y3 =>
  (if (!y3.1) = true then
  (if List.length v7 + List.length [((v1.getD (Int.toNat (v5.getD (Int.toNat v0) (0:Int))) ((0:Int), ((0:Int), ((0:Int), ((0:Int), (false, (0:Int))))))).1, (v1.getD (Int.toNat (v5.getD (Int.toNat v0) (0:Int))) ((0:Int), ((0:Int), ((0:Int), ((0:Int), (false, (0:Int))))))).2.1)] ≤ LB then
  (s_ArnMap_j7 k n0 v0 v1 v2 v3 v4 v5 v6 (v7 ++ [((v1.getD (Int.toNat (v5.getD (Int.toNat v0) (0:Int))) ((0:Int), ((0:Int), ((0:Int), ((0:Int), (false, (0:Int))))))).1, (v1.getD (Int.toNat (v5.getD (Int.toNat v0) (0:Int))) ((0:Int), ((0:Int), ((0:Int), ((0:Int), (false, (0:Int))))))).2.1)]))
 else none)
 else
  (s_ArnMap_j7 k n0 v0 v1 v2 v3 v4 v5 v6 v7)))
 else none)
 else none)
 else
  (some (v7, ()))) := by kernel_rfl
theorem s_ArnMap_eq (k : Nat) (x0 : List (Int × (Int × (Int × (Int × (Bool × Int)))))) (x1 : Int) (x2 : Int) (x3 : Int) : s_ArnMap k x0 x1 x2 x3 =
  ((s_ArnOk k x0 x1 x2 x3).bind fun y1 =>
  (if (!y1.1) = true then
  (some (([] : List (Int × Int)), ()))
 else
  ((s_ArnChain k x0 x1 x2 x3).bind fun y2 =>
  (s_ArnMap_l6 k k (0:Int) x0 x1 x2 x3 y2.1 ([] : List (Int × Int)) ([] : List (Int × Int)))))) := by kernel_rfl
noncomputable def s_ArnMap_G (k : Nat) : Dt s_ArnMap_i → Option (Dt s_ArnMap_o) := fun x => s_ArnMap k x.1 x.2.1 x.2.2.1 x.2.2.2.1
theorem s_ArnMap_c (k : Nat) : Comes1 (s_ArnMap_T k) Try.f22 s_ArnMap_i s_ArnMap_o (s_ArnMap_G k) := fun x => by kernel_rfl
noncomputable def s_ArnMap_E (k : Nat) : Env := (w_FnExactArnStack_E k).with 22 s_ArnMap_i s_ArnMap_o (s_ArnMap_G k)
theorem s_ArnMap_ok (k : Nat) : EnvOk Try.prog (s_ArnMap_E k) := (w_FnExactArnStack_ok k).with mixed (by decide) (by kernel_rfl) (by kernel_rfl) (s_ArnMap_c k) (by kernel_rfl)
/-! ### loop.example/tuggers/impl.ArnMap -/
@[reducible] def i_ArnMap_i : Sh := ⟨[.c (.agg [.ro q0, .int .i64, .int .i64, .int .i64])], []⟩
@[reducible] def i_ArnMap_o : Sh := ⟨[.c (.agg [.own 0])], [(0, .rows 116 q1)]⟩
noncomputable def i_ArnMap_T (k : Nat) : Env := ((s_ArnMap_E k).at 0 k [(10, ⟨[1, 2, 3, 12, 13, 14], []⟩)] [(5, ⟨[1, 2, 3, 12, 13, 14], [⟨1, true, 0, 113, q0⟩, ⟨2, true, 0, 116, q1⟩, ⟨3, true, 0, 116, q1⟩, ⟨12, false, 0, 3, (.int .i64)⟩]⟩)] [⟨2, true, 0, 116, q1⟩]).gated (fun _ => true)
noncomputable def i_ArnMap_j10 (k n0 : Nat) (v0 : Int) (v1 : Int) (v2 : List (Int × (Int × (Int × (Int × (Bool × Int)))))) (v3 : Int) (v4 : Int) (v5 : Int) (v6 : List Int) (v7 : List (Int × Int)) (v8 : List (Int × Int)) : Option (Dt i_ArnMap_o) := atRegion (i_ArnMap_T k) (subF Try.f23 [.r, .r, .r, .l, .r, .l, .l, .r, .r, .r]) ⟨tml 39 [(1, .c (.leaf (.ptr 0 0))), (2, .c (.leaf (.ptr 1 0))), (3, .c (.leaf (.ptr 2 0))), (12, .c (.leaf (.own 3))), (13, .c (.leaf (.int .i64 v0))), (14, .c (.leaf (.int .i64 v1)))], [(0, .cells 30 [.ro q0 v2, .int .i64 v3, .int .i64 v4, .int .i64 v5]), (1, .cells 39 [.own 4]), (2, .cells 39 [.own 5]), (3, .rows 3 (.int .i64) v6), (4, .rows 116 q1 v7), (5, .rows 116 q1 v8)]⟩ (klp (i_ArnMap_T k) (subF Try.f23 [.r, .r, .r, .l, .r, .l]) n0 (kbl (subF Try.f23 [.r, .r, .r, .l, .r]) (ksq (i_ArnMap_T k) (subF Try.f23 [.r, .r, .r]) (kret (i_ArnMap_T k) Try.f23.results.toList (unOut i_ArnMap_o)))))
noncomputable def i_ArnMap_l5 (k n0 : Nat) (v0 : Int) (v1 : Int) (v2 : List (Int × (Int × (Int × (Int × (Bool × Int)))))) (v3 : Int) (v4 : Int) (v5 : Int) (v6 : List Int) (v7 : List (Int × Int)) (v8 : List (Int × Int)) : Option (Dt i_ArnMap_o) := atLoop (i_ArnMap_T k) (subF Try.f23 [.r, .r, .r, .l, .r, .l]) n0 ⟨tml 39 [(1, .c (.leaf (.ptr 0 0))), (2, .c (.leaf (.ptr 1 0))), (3, .c (.leaf (.ptr 2 0))), (12, .c (.leaf (.own 3))), (13, .c (.leaf (.int .i64 v0))), (14, .c (.leaf (.int .i64 v1)))], [(0, .cells 30 [.ro q0 v2, .int .i64 v3, .int .i64 v4, .int .i64 v5]), (1, .cells 39 [.own 4]), (2, .cells 39 [.own 5]), (3, .rows 3 (.int .i64) v6), (4, .rows 116 q1 v7), (5, .rows 116 q1 v8)]⟩ (kbl (subF Try.f23 [.r, .r, .r, .l, .r]) (ksq (i_ArnMap_T k) (subF Try.f23 [.r, .r, .r]) (kret (i_ArnMap_T k) Try.f23.results.toList (unOut i_ArnMap_o))))
noncomputable def i_ArnMap (k : Nat) (x0 : List (Int × (Int × (Int × (Int × (Bool × Int)))))) (x1 : Int) (x2 : Int) (x3 : Int) : Option (Dt i_ArnMap_o) := evFn (i_ArnMap_T k) Try.f23 [.c (.agg [.ro q0 x0, .int .i64 x1, .int .i64 x2, .int .i64 x3])] [] (unOut i_ArnMap_o)
theorem i_ArnMap_j10_eq (k n0 : Nat) (v0 : Int) (v1 : Int) (v2 : List (Int × (Int × (Int × (Int × (Bool × Int)))))) (v3 : Int) (v4 : Int) (v5 : Int) (v6 : List Int) (v7 : List (Int × Int)) (v8 : List (Int × Int)) : i_ArnMap_j10 k n0 v0 v1 v2 v3 v4 v5 v6 v7 v8 =
  (i_ArnMap_l5 k n0 v0 (W (v1 + (1:Int))) v2 v3 v4 v5 v6 v7 v8) := by kernel_rfl
theorem i_ArnMap_l5_0 (k : Nat) (v0 : Int) (v1 : Int) (v2 : List (Int × (Int × (Int × (Int × (Bool × Int)))))) (v3 : Int) (v4 : Int) (v5 : Int) (v6 : List Int) (v7 : List (Int × Int)) (v8 : List (Int × Int)) : i_ArnMap_l5 k 0 v0 v1 v2 v3 v4 v5 v6 v7 v8 = none := by kernel_rfl
theorem i_ArnMap_l5_s (k n0 : Nat) (v0 : Int) (v1 : Int) (v2 : List (Int × (Int × (Int × (Int × (Bool × Int)))))) (v3 : Int) (v4 : Int) (v5 : Int) (v6 : List Int) (v7 : List (Int × Int)) (v8 : List (Int × Int)) : i_ArnMap_l5 k (n0 + 1) v0 v1 v2 v3 v4 v5 v6 v7 v8 =
  (if (decide (v1 < v0)) = true then
  (if (0:Int) ≤ v1 ∧ v1 < (List.length v6 : Int) then
  (if (0:Int) ≤ (v6.getD (Int.toNat v1) (0:Int)) ∧ (v6.getD (Int.toNat v1) (0:Int)) < (List.length v2 : Int) then
  ((i_WrdMark k (v2.getD (Int.toNat (v6.getD (Int.toNat v1) (0:Int))) ((0:Int), ((0:Int), ((0:Int), ((0:Int), (false, (0:Int))))))).2.2.1).bind fun y3 =>
  (if (!y3.1) = true then
  (if List.length v8 + List.length [((v2.getD (Int.toNat (v6.getD (Int.toNat v1) (0:Int))) ((0:Int), ((0:Int), ((0:Int), ((0:Int), (false, (0:Int))))))).1, (v2.getD (Int.toNat (v6.getD (Int.toNat v1) (0:Int))) ((0:Int), ((0:Int), ((0:Int), ((0:Int), (false, (0:Int))))))).2.1)] ≤ LB then
  (i_ArnMap_j10 k n0 v0 v1 v2 v3 v4 v5 v6 v7 (v8 ++ [((v2.getD (Int.toNat (v6.getD (Int.toNat v1) (0:Int))) ((0:Int), ((0:Int), ((0:Int), ((0:Int), (false, (0:Int))))))).1, (v2.getD (Int.toNat (v6.getD (Int.toNat v1) (0:Int))) ((0:Int), ((0:Int), ((0:Int), ((0:Int), (false, (0:Int))))))).2.1)]))
 else none)
 else
  (i_ArnMap_j10 k n0 v0 v1 v2 v3 v4 v5 v6 v7 v8)))
 else none)
 else none)
 else
  (some (v8, ()))) := by kernel_rfl
theorem i_ArnMap_eq (k : Nat) (x0 : List (Int × (Int × (Int × (Int × (Bool × Int)))))) (x1 : Int) (x2 : Int) (x3 : Int) : i_ArnMap k x0 x1 x2 x3 =
  ((i_ArnOk k x0 x1 x2 x3).bind fun y1 =>
  (if (!y1.1) = true then
  (some (([] : List (Int × Int)), ()))
 else
  ((i_ArnChain k x0 x1 x2 x3).bind fun y2 =>
  (i_ArnMap_l5 k k (List.length y2.1 : Int) (0:Int) x0 x1 x2 x3 y2.1 ([] : List (Int × Int)) ([] : List (Int × Int)))))) := by kernel_rfl
noncomputable def i_ArnMap_G (k : Nat) : Dt i_ArnMap_i → Option (Dt i_ArnMap_o) := fun x => i_ArnMap k x.1 x.2.1 x.2.2.1 x.2.2.2.1
theorem i_ArnMap_c (k : Nat) : Comes1 (i_ArnMap_T k) Try.f23 i_ArnMap_i i_ArnMap_o (i_ArnMap_G k) := fun x => by kernel_rfl
noncomputable def i_ArnMap_E (k : Nat) : Env := (s_ArnMap_E k).with 23 i_ArnMap_i i_ArnMap_o (i_ArnMap_G k)
theorem i_ArnMap_ok (k : Nat) : EnvOk Try.prog (i_ArnMap_E k) := (s_ArnMap_ok k).with mixed (by decide) (by kernel_rfl) (by kernel_rfl) (i_ArnMap_c k) (by kernel_rfl)
/-! ### loop.example/tuggers/laws.eqMapEntry -/
@[reducible] def w_eqMapEntry_i : Sh := ⟨[.c (.agg [.int .i64, .int .i64]), .c (.agg [.int .i64, .int .i64])], []⟩
@[reducible] def w_eqMapEntry_o : Sh := ⟨[.c (.leaf (.bool))], []⟩
noncomputable def w_eqMapEntry_T (k : Nat) : Env := ((i_ArnMap_E k).at 0 k [] [] []).gated (fun _ => true)
noncomputable def w_eqMapEntry (k : Nat) (x0 : Int) (x1 : Int) (x2 : Int) (x3 : Int) : Option (Dt w_eqMapEntry_o) := evFn (w_eqMapEntry_T k) Try.f152 [.c (.agg [.int .i64 x0, .int .i64 x1]), .c (.agg [.int .i64 x2, .int .i64 x3])] [] (unOut w_eqMapEntry_o)
theorem w_eqMapEntry_eq (k : Nat) (x0 : Int) (x1 : Int) (x2 : Int) (x3 : Int) : w_eqMapEntry k x0 x1 x2 x3 =
  (if (decide (¬ x0 = x2)) = true then
  (some (false, ()))
 else
  (if (decide (¬ x1 = x3)) = true then
  (some (false, ()))
 else
  (some (true, ())))) := by kernel_rfl
noncomputable def w_eqMapEntry_G (k : Nat) : Dt w_eqMapEntry_i → Option (Dt w_eqMapEntry_o) := fun x => w_eqMapEntry k x.1 x.2.1 x.2.2.1 x.2.2.2.1
theorem w_eqMapEntry_c (k : Nat) : Comes1 (w_eqMapEntry_T k) Try.f152 w_eqMapEntry_i w_eqMapEntry_o (w_eqMapEntry_G k) := fun x => by kernel_rfl
noncomputable def w_eqMapEntry_E (k : Nat) : Env := (i_ArnMap_E k).with 152 w_eqMapEntry_i w_eqMapEntry_o (w_eqMapEntry_G k)
theorem w_eqMapEntry_ok (k : Nat) : EnvOk Try.prog (w_eqMapEntry_E k) := (i_ArnMap_ok k).with mixed (by decide) (by kernel_rfl) (by kernel_rfl) (w_eqMapEntry_c k) (by kernel_rfl)
/-! ### loop.example/tuggers/laws.eqMapEntryS -/
@[reducible] def w_eqMapEntryS_i : Sh := ⟨[.c (.leaf (.ro q1)), .c (.leaf (.ro q1))], []⟩
@[reducible] def w_eqMapEntryS_o : Sh := ⟨[.c (.leaf (.bool))], []⟩
noncomputable def w_eqMapEntryS_T (k : Nat) : Env := ((w_eqMapEntry_E k).at 0 k [] [(4, ⟨[0, 1, 5], []⟩)] []).gated (fun _ => true)
noncomputable def w_eqMapEntryS_l4 (k n0 : Nat) (v0 : List (Int × Int)) (v1 : List (Int × Int)) (v2 : Int) : Option (Dt w_eqMapEntryS_o) := atLoop (w_eqMapEntryS_T k) (subF Try.f76 [.r, .r, .l, .r, .l]) n0 ⟨tml 27 [(0, .c (.leaf (.ro q1 v0))), (1, .c (.leaf (.ro q1 v1))), (5, .c (.leaf (.int .i64 v2)))], []⟩ (kbl (subF Try.f76 [.r, .r, .l, .r]) (ksq (w_eqMapEntryS_T k) (subF Try.f76 [.r, .r]) (kret (w_eqMapEntryS_T k) Try.f76.results.toList (unOut w_eqMapEntryS_o))))
noncomputable def w_eqMapEntryS (k : Nat) (x0 : List (Int × Int)) (x1 : List (Int × Int)) : Option (Dt w_eqMapEntryS_o) := evFn (w_eqMapEntryS_T k) Try.f76 [.c (.leaf (.ro q1 x0)), .c (.leaf (.ro q1 x1))] [] (unOut w_eqMapEntryS_o)
theorem w_eqMapEntryS_l4_0 (k : Nat) (v0 : List (Int × Int)) (v1 : List (Int × Int)) (v2 : Int) : w_eqMapEntryS_l4 k 0 v0 v1 v2 = none := by kernel_rfl
theorem w_eqMapEntryS_l4_s (k n0 : Nat) (v0 : List (Int × Int)) (v1 : List (Int × Int)) (v2 : Int) : w_eqMapEntryS_l4 k (n0 + 1) v0 v1 v2 =
  (if (decide (v2 < (List.length v0 : Int))) = true then
  (if (0:Int) ≤ v2 ∧ v2 < (List.length v0 : Int) then
  (if (0:Int) ≤ v2 ∧ v2 < (List.length v1 : Int) then
  ((w_eqMapEntry k (v0.getD (Int.toNat v2) ((0:Int), (0:Int))).1 (v0.getD (Int.toNat v2) ((0:Int), (0:Int))).2 (v1.getD (Int.toNat v2) ((0:Int), (0:Int))).1 (v1.getD (Int.toNat v2) ((0:Int), (0:Int))).2).bind fun y1 =>
  (if (!y1.1) = true then
  (some (false, ()))
 else
  (w_eqMapEntryS_l4 k n0 v0 v1 (W (v2 + (1:Int))))))
 else none)
 else none)
 else
  (some (true, ()))) := by kernel_rfl
theorem w_eqMapEntryS_eq (k : Nat) (x0 : List (Int × Int)) (x1 : List (Int × Int)) : w_eqMapEntryS k x0 x1 =
  (if (decide (¬ (List.length x0 : Int) = (List.length x1 : Int))) = true then
  (some (false, ()))
 else
  (w_eqMapEntryS_l4 k k x0 x1 (0:Int))) := by kernel_rfl
noncomputable def w_eqMapEntryS_G (k : Nat) : Dt w_eqMapEntryS_i → Option (Dt w_eqMapEntryS_o) := fun x => w_eqMapEntryS k x.1 x.2.1
theorem w_eqMapEntryS_c (k : Nat) : Comes1 (w_eqMapEntryS_T k) Try.f76 w_eqMapEntryS_i w_eqMapEntryS_o (w_eqMapEntryS_G k) := fun x => by kernel_rfl
noncomputable def w_eqMapEntryS_E (k : Nat) : Env := (w_eqMapEntry_E k).with 76 w_eqMapEntryS_i w_eqMapEntryS_o (w_eqMapEntryS_G k)
theorem w_eqMapEntryS_ok (k : Nat) : EnvOk Try.prog (w_eqMapEntryS_E k) := (w_eqMapEntry_ok k).with mixed (by decide) (by kernel_rfl) (by kernel_rfl) (w_eqMapEntryS_c k) (by kernel_rfl)
/-! ### loop.example/tuggers/laws.eqMapMap -/
@[reducible] def w_eqMapMap_i : Sh := ⟨[.c (.agg [.ro q1]), .c (.agg [.ro q1])], []⟩
@[reducible] def w_eqMapMap_o : Sh := ⟨[.c (.leaf (.bool))], []⟩
noncomputable def w_eqMapMap_T (k : Nat) : Env := ((w_eqMapEntryS_E k).at 0 k [] [] []).gated (fun _ => true)
noncomputable def w_eqMapMap (k : Nat) (x0 : List (Int × Int)) (x1 : List (Int × Int)) : Option (Dt w_eqMapMap_o) := evFn (w_eqMapMap_T k) Try.f24 [.c (.agg [.ro q1 x0]), .c (.agg [.ro q1 x1])] [] (unOut w_eqMapMap_o)
theorem w_eqMapMap_eq (k : Nat) (x0 : List (Int × Int)) (x1 : List (Int × Int)) : w_eqMapMap k x0 x1 =
  ((w_eqMapEntryS k x0 x1).bind fun y1 =>
  (if (!y1.1) = true then
  (some (false, ()))
 else
  (some (true, ())))) := by kernel_rfl
noncomputable def w_eqMapMap_G (k : Nat) : Dt w_eqMapMap_i → Option (Dt w_eqMapMap_o) := fun x => w_eqMapMap k x.1 x.2.1
theorem w_eqMapMap_c (k : Nat) : Comes1 (w_eqMapMap_T k) Try.f24 w_eqMapMap_i w_eqMapMap_o (w_eqMapMap_G k) := fun x => by kernel_rfl
noncomputable def w_eqMapMap_E (k : Nat) : Env := (w_eqMapEntryS_E k).with 24 w_eqMapMap_i w_eqMapMap_o (w_eqMapMap_G k)
theorem w_eqMapMap_ok (k : Nat) : EnvOk Try.prog (w_eqMapMap_E k) := (w_eqMapEntryS_ok k).with mixed (by decide) (by kernel_rfl) (by kernel_rfl) (w_eqMapMap_c k) (by kernel_rfl)
/-! ### loop.example/tuggers/laws.markMapEntryS -/
@[reducible] def w_markMapEntryS_i : Sh := ⟨[.c (.leaf (.own 0)), .c (.leaf (.int .i64))], [(0, .rows 116 q1)]⟩
@[reducible] def w_markMapEntryS_o : Sh := ⟨[.c (.leaf (.int .i64))], [(0, .rows 116 q1)]⟩
noncomputable def w_markMapEntryS_T (k : Nat) : Env := ((w_eqMapMap_E k).at 1 k [] [(2, ⟨[0, 1, 5], []⟩)] []).gated (fun _ => true)
noncomputable def w_markMapEntryS_l2 (k n0 : Nat) (v0 : Int) (v1 : Int) (v2 : List (Int × Int)) : Option (Dt w_markMapEntryS_o) := atLoop (w_markMapEntryS_T k) (subF Try.f77 [.r, .l, .r, .l]) n0 ⟨tml 27 [(0, .c (.leaf (.own 0))), (1, .c (.leaf (.int .i64 v0))), (5, .c (.leaf (.int .i64 v1)))], [(0, .rows 116 q1 v2)]⟩ (kbl (subF Try.f77 [.r, .l, .r]) (ksq (w_markMapEntryS_T k) (subF Try.f77 [.r]) (kret (w_markMapEntryS_T k) Try.f77.results.toList (unOut w_markMapEntryS_o))))
noncomputable def w_markMapEntryS (k : Nat) (x0 : Int) (x1 : List (Int × Int)) : Option (Dt w_markMapEntryS_o) := evFn (w_markMapEntryS_T k) Try.f77 [.c (.leaf (.own 0)), .c (.leaf (.int .i64 x0))] [(0, .rows 116 q1 x1)] (unOut w_markMapEntryS_o)
theorem w_markMapEntryS_l2_0 (k : Nat) (v0 : Int) (v1 : Int) (v2 : List (Int × Int)) : w_markMapEntryS_l2 k 0 v0 v1 v2 = none := by kernel_rfl
theorem w_markMapEntryS_l2_s (k n0 : Nat) (v0 : Int) (v1 : Int) (v2 : List (Int × Int)) : w_markMapEntryS_l2 k (n0 + 1) v0 v1 v2 =
  (if (decide (v1 < (List.length v2 : Int))) = true then
  (if (0:Int) ≤ v1 ∧ v1 < (List.length v2 : Int) then
  (if (0:Int) ≤ v1 ∧ v1 < (List.length (v2.set (Int.toNat v1) (v0, (v2.getD (Int.toNat v1) ((0:Int), (0:Int))).2)) : Int) then
  (w_markMapEntryS_l2 k n0 (W ((W (v0 + (1:Int))) + (1:Int))) (W (v1 + (1:Int))) ((v2.set (Int.toNat v1) (v0, (v2.getD (Int.toNat v1) ((0:Int), (0:Int))).2)).set (Int.toNat v1) (((v2.set (Int.toNat v1) (v0, (v2.getD (Int.toNat v1) ((0:Int), (0:Int))).2)).getD (Int.toNat v1) ((0:Int), (0:Int))).1, (W (v0 + (1:Int))))))
 else none)
 else none)
 else
  (some (v0, v2, ()))) := by kernel_rfl
theorem w_markMapEntryS_eq (k : Nat) (x0 : Int) (x1 : List (Int × Int)) : w_markMapEntryS k x0 x1 =
  (w_markMapEntryS_l2 k k x0 (0:Int) x1) := by kernel_rfl
noncomputable def w_markMapEntryS_G (k : Nat) : Dt w_markMapEntryS_i → Option (Dt w_markMapEntryS_o) := fun x => w_markMapEntryS k x.1 x.2.1
theorem w_markMapEntryS_c (k : Nat) : Comes1 (w_markMapEntryS_T k) Try.f77 w_markMapEntryS_i w_markMapEntryS_o (w_markMapEntryS_G k) := fun x => by kernel_rfl
noncomputable def w_markMapEntryS_E (k : Nat) : Env := (w_eqMapMap_E k).with 77 w_markMapEntryS_i w_markMapEntryS_o (w_markMapEntryS_G k)
theorem w_markMapEntryS_ok (k : Nat) : EnvOk Try.prog (w_markMapEntryS_E k) := (w_eqMapMap_ok k).with mixed (by decide) (by kernel_rfl) (by kernel_rfl) (w_markMapEntryS_c k) (by kernel_rfl)
/-! ### loop.example/tuggers/laws.markMapMap -/
@[reducible] def w_markMapMap_i : Sh := ⟨[.c (.agg [.own 0]), .c (.leaf (.int .i64))], [(0, .rows 116 q1)]⟩
@[reducible] def w_markMapMap_o : Sh := ⟨[.c (.leaf (.int .i64))], [(0, .rows 116 q1)]⟩
noncomputable def w_markMapMap_T (k : Nat) : Env := ((w_markMapEntryS_E k).at 1 k [] [] []).gated (fun _ => true)
noncomputable def w_markMapMap (k : Nat) (x0 : Int) (x1 : List (Int × Int)) : Option (Dt w_markMapMap_o) := evFn (w_markMapMap_T k) Try.f25 [.c (.agg [.own 0]), .c (.leaf (.int .i64 x0))] [(0, .rows 116 q1 x1)] (unOut w_markMapMap_o)
theorem w_markMapMap_eq (k : Nat) (x0 : Int) (x1 : List (Int × Int)) : w_markMapMap k x0 x1 =
  ((w_markMapEntryS k x0 x1).bind fun y1 =>
  (some (y1.1, y1.2.1, ()))) := by kernel_rfl
noncomputable def w_markMapMap_G (k : Nat) : Dt w_markMapMap_i → Option (Dt w_markMapMap_o) := fun x => w_markMapMap k x.1 x.2.1
theorem w_markMapMap_c (k : Nat) : Comes1 (w_markMapMap_T k) Try.f25 w_markMapMap_i w_markMapMap_o (w_markMapMap_G k) := fun x => by kernel_rfl
noncomputable def w_markMapMap_E (k : Nat) : Env := (w_markMapEntryS_E k).with 25 w_markMapMap_i w_markMapMap_o (w_markMapMap_G k)
theorem w_markMapMap_ok (k : Nat) : EnvOk Try.prog (w_markMapMap_E k) := (w_markMapEntryS_ok k).with mixed (by decide) (by kernel_rfl) (by kernel_rfl) (w_markMapMap_c k) (by kernel_rfl)
/-! ### loop.example/tuggers/laws.heldMapEntryS -/
@[reducible] def w_heldMapEntryS_i : Sh := ⟨[.c (.leaf (.ro q1)), .c (.leaf (.int .i64))], []⟩
@[reducible] def w_heldMapEntryS_o : Sh := ⟨[.c (.leaf (.int .i64))], []⟩
noncomputable def w_heldMapEntryS_T (k : Nat) : Env := ((w_markMapMap_E k).at 0 k [] [(2, ⟨[0, 1, 5], []⟩)] []).gated (fun _ => true)
noncomputable def w_heldMapEntryS_l2 (k n0 : Nat) (v0 : List (Int × Int)) (v1 : Int) (v2 : Int) : Option (Dt w_heldMapEntryS_o) := atLoop (w_heldMapEntryS_T k) (subF Try.f78 [.r, .l, .r, .l]) n0 ⟨tml 31 [(0, .c (.leaf (.ro q1 v0))), (1, .c (.leaf (.int .i64 v1))), (5, .c (.leaf (.int .i64 v2)))], []⟩ (kbl (subF Try.f78 [.r, .l, .r]) (ksq (w_heldMapEntryS_T k) (subF Try.f78 [.r]) (kret (w_heldMapEntryS_T k) Try.f78.results.toList (unOut w_heldMapEntryS_o))))
noncomputable def w_heldMapEntryS (k : Nat) (x0 : List (Int × Int)) (x1 : Int) : Option (Dt w_heldMapEntryS_o) := evFn (w_heldMapEntryS_T k) Try.f78 [.c (.leaf (.ro q1 x0)), .c (.leaf (.int .i64 x1))] [] (unOut w_heldMapEntryS_o)
theorem w_heldMapEntryS_l2_0 (k : Nat) (v0 : List (Int × Int)) (v1 : Int) (v2 : Int) : w_heldMapEntryS_l2 k 0 v0 v1 v2 = none := by kernel_rfl
theorem w_heldMapEntryS_l2_s (k n0 : Nat) (v0 : List (Int × Int)) (v1 : Int) (v2 : Int) : w_heldMapEntryS_l2 k (n0 + 1) v0 v1 v2 =
  (if (decide (v2 < (List.length v0 : Int))) = true then
  (if (0:Int) ≤ v2 ∧ v2 < (List.length v0 : Int) then
  (if (decide (¬ (v0.getD (Int.toNat v2) ((0:Int), (0:Int))).1 = v1)) = true then
  (some ((-1:Int), ()))
 else
  (if (0:Int) ≤ v2 ∧ v2 < (List.length v0 : Int) then
  (if (decide (¬ (v0.getD (Int.toNat v2) ((0:Int), (0:Int))).2 = (W (v1 + (1:Int))))) = true then
  (some ((-1:Int), ()))
 else
  (w_heldMapEntryS_l2 k n0 v0 (W ((W (v1 + (1:Int))) + (1:Int))) (W (v2 + (1:Int)))))
 else none))
 else none)
 else
  (some (v1, ()))) := by kernel_rfl
theorem w_heldMapEntryS_eq (k : Nat) (x0 : List (Int × Int)) (x1 : Int) : w_heldMapEntryS k x0 x1 =
  (w_heldMapEntryS_l2 k k x0 x1 (0:Int)) := by kernel_rfl
noncomputable def w_heldMapEntryS_G (k : Nat) : Dt w_heldMapEntryS_i → Option (Dt w_heldMapEntryS_o) := fun x => w_heldMapEntryS k x.1 x.2.1
theorem w_heldMapEntryS_c (k : Nat) : Comes1 (w_heldMapEntryS_T k) Try.f78 w_heldMapEntryS_i w_heldMapEntryS_o (w_heldMapEntryS_G k) := fun x => by kernel_rfl
noncomputable def w_heldMapEntryS_E (k : Nat) : Env := (w_markMapMap_E k).with 78 w_heldMapEntryS_i w_heldMapEntryS_o (w_heldMapEntryS_G k)
theorem w_heldMapEntryS_ok (k : Nat) : EnvOk Try.prog (w_heldMapEntryS_E k) := (w_markMapMap_ok k).with mixed (by decide) (by kernel_rfl) (by kernel_rfl) (w_heldMapEntryS_c k) (by kernel_rfl)
/-! ### loop.example/tuggers/laws.heldMapMap -/
@[reducible] def w_heldMapMap_i : Sh := ⟨[.c (.agg [.ro q1]), .c (.leaf (.int .i64))], []⟩
@[reducible] def w_heldMapMap_o : Sh := ⟨[.c (.leaf (.int .i64))], []⟩
noncomputable def w_heldMapMap_T (k : Nat) : Env := ((w_heldMapEntryS_E k).at 0 k [] [] []).gated (fun _ => true)
noncomputable def w_heldMapMap (k : Nat) (x0 : List (Int × Int)) (x1 : Int) : Option (Dt w_heldMapMap_o) := evFn (w_heldMapMap_T k) Try.f26 [.c (.agg [.ro q1 x0]), .c (.leaf (.int .i64 x1))] [] (unOut w_heldMapMap_o)
theorem w_heldMapMap_eq (k : Nat) (x0 : List (Int × Int)) (x1 : Int) : w_heldMapMap k x0 x1 =
  ((w_heldMapEntryS k x0 x1).bind fun y1 =>
  (if (decide (y1.1 < (0:Int))) = true then
  (some ((-1:Int), ()))
 else
  (some (y1.1, ())))) := by kernel_rfl
noncomputable def w_heldMapMap_G (k : Nat) : Dt w_heldMapMap_i → Option (Dt w_heldMapMap_o) := fun x => w_heldMapMap k x.1 x.2.1
theorem w_heldMapMap_c (k : Nat) : Comes1 (w_heldMapMap_T k) Try.f26 w_heldMapMap_i w_heldMapMap_o (w_heldMapMap_G k) := fun x => by kernel_rfl
noncomputable def w_heldMapMap_E (k : Nat) : Env := (w_heldMapEntryS_E k).with 26 w_heldMapMap_i w_heldMapMap_o (w_heldMapMap_G k)
theorem w_heldMapMap_ok (k : Nat) : EnvOk Try.prog (w_heldMapMap_E k) := (w_heldMapEntryS_ok k).with mixed (by decide) (by kernel_rfl) (by kernel_rfl) (w_heldMapMap_c k) (by kernel_rfl)
/-! ### loop.example/tuggers/laws.FnExactArnMap -/
@[reducible] def w_FnExactArnMap_i : Sh := ⟨[.c (.agg [.ro q0, .int .i64, .int .i64, .int .i64])], []⟩
@[reducible] def w_FnExactArnMap_o : Sh := ⟨[.c (.leaf (.bool))], []⟩
noncomputable def w_FnExactArnMap_T (k : Nat) : Env := ((w_heldMapMap_E k).at 0 k [] [] []).gated (fun _ => true)
noncomputable def w_FnExactArnMap (k : Nat) (x0 : List (Int × (Int × (Int × (Int × (Bool × Int)))))) (x1 : Int) (x2 : Int) (x3 : Int) : Option (Dt w_FnExactArnMap_o) := evFn (w_FnExactArnMap_T k) Try.f4 [.c (.agg [.ro q0 x0, .int .i64 x1, .int .i64 x2, .int .i64 x3])] [] (unOut w_FnExactArnMap_o)
theorem w_FnExactArnMap_eq (k : Nat) (x0 : List (Int × (Int × (Int × (Int × (Bool × Int)))))) (x1 : Int) (x2 : Int) (x3 : Int) : w_FnExactArnMap k x0 x1 x2 x3 =
  ((w_szArnArena k x0 x1 x2 x3 (1048576:Int)).bind fun y1 =>
  (if (decide (y1.1 < (0:Int))) = true then
  (some (true, ()))
 else
  ((w_toArnArena k x0 x1 x2 x3).bind fun y2 =>
  ((s_ArnMap k y2.2.2.2.1 y2.1 y2.2.1 y2.2.2.1).bind fun y3 =>
  ((w_toArnArena k x0 x1 x2 x3).bind fun y4 =>
  ((i_ArnMap k y4.2.2.2.1 y4.1 y4.2.1 y4.2.2.1).bind fun y5 =>
  ((w_eqMapMap k y5.1 y3.1).bind fun y6 =>
  (if (!y6.1) = true then
  (some (false, ()))
 else
  ((w_toArnArena k x0 x1 x2 x3).bind fun y7 =>
  ((w_eqArnArena k y4.2.2.2.1 y4.1 y4.2.1 y4.2.2.1 y7.2.2.2.1 y7.1 y7.2.1 y7.2.2.1).bind fun y8 =>
  (if (!y8.1) = true then
  (some (false, ()))
 else
  ((w_markArnArena k y4.1 y4.2.1 y4.2.2.1 (1:Int) y4.2.2.2.1).bind fun y9 =>
  (if (decide (y9.1 < (0:Int))) = true then
  (some (false, ()))
 else
  ((w_eqMapMap k y5.1 y3.1).bind fun y10 =>
  (if (!y10.1) = true then
  (some (false, ()))
 else
  ((w_markMapMap k (1:Int) y5.1).bind fun y11 =>
  ((w_heldMapMap k y11.2.1 (1:Int)).bind fun y12 =>
  (if (decide (y12.1 < (0:Int))) = true then
  (some (false, ()))
 else
  (if (decide (¬ y12.1 = y11.1)) = true then
  (some (false, ()))
 else
  ((w_toArnArena k x0 x1 x2 x3).bind fun y13 =>
  ((i_ArnMap k y13.2.2.2.1 y13.1 y13.2.1 y13.2.2.1).bind fun y14 =>
  ((w_eqMapMap k y14.1 y3.1).bind fun y15 =>
  (if (!y15.1) = true then
  (some (false, ()))
 else
  ((w_heldMapMap k y11.2.1 (1:Int)).bind fun y16 =>
  (if (decide (y16.1 < (0:Int))) = true then
  (some (false, ()))
 else
  (if (decide (¬ y16.1 = y11.1)) = true then
  (some (false, ()))
 else
  (some (true, ())))))))))))))))))))))))))))) := by kernel_rfl
noncomputable def w_FnExactArnMap_G (k : Nat) : Dt w_FnExactArnMap_i → Option (Dt w_FnExactArnMap_o) := fun x => w_FnExactArnMap k x.1 x.2.1 x.2.2.1 x.2.2.2.1
theorem w_FnExactArnMap_c (k : Nat) : Comes1 (w_FnExactArnMap_T k) Try.f4 w_FnExactArnMap_i w_FnExactArnMap_o (w_FnExactArnMap_G k) := fun x => by kernel_rfl
noncomputable def w_FnExactArnMap_E (k : Nat) : Env := (w_heldMapMap_E k).with 4 w_FnExactArnMap_i w_FnExactArnMap_o (w_FnExactArnMap_G k)
theorem w_FnExactArnMap_ok (k : Nat) : EnvOk Try.prog (w_FnExactArnMap_E k) := (w_heldMapMap_ok k).with mixed (by decide) (by kernel_rfl) (by kernel_rfl) (w_FnExactArnMap_c k) (by kernel_rfl)
/-! ### loop.example/tuggers/spec.ArnQueue -/
@[reducible] def s_ArnQueue_i : Sh := ⟨[.c (.agg [.ro q0, .int .i64, .int .i64, .int .i64])], []⟩
@[reducible] def s_ArnQueue_o : Sh := ⟨[.c (.leaf (.own 0))], [(0, .rows 3 (.int .i64))]⟩
noncomputable def s_ArnQueue_T (k : Nat) : Env := ((w_FnExactArnMap_E k).at 0 k [] [] [⟨2, false, 0, 3, (.int .i64)⟩]).gated (fun _ => true)
noncomputable def s_ArnQueue (k : Nat) (x0 : List (Int × (Int × (Int × (Int × (Bool × Int)))))) (x1 : Int) (x2 : Int) (x3 : Int) : Option (Dt s_ArnQueue_o) := evFn (s_ArnQueue_T k) Try.f79 [.c (.agg [.ro q0 x0, .int .i64 x1, .int .i64 x2, .int .i64 x3])] [] (unOut s_ArnQueue_o)
theorem s_ArnQueue_eq (k : Nat) (x0 : List (Int × (Int × (Int × (Int × (Bool × Int)))))) (x1 : Int) (x2 : Int) (x3 : Int) : s_ArnQueue k x0 x1 x2 x3 =
  ((s_ArnOk k x0 x1 x2 x3).bind fun y1 =>
  (if (!y1.1) = true then
  (some (([] : List Int), ()))
 else
  ((s_ArnQueued k x0 x1 x2 x3).bind fun y2 =>
  (if (0:Int) ≤ (1:Int) ∧ (1:Int) ≤ (List.length y2.1 : Int) ∧ (List.length y2.1 : Int) ≤ (List.length y2.1 : Int) then
  ((s_l2Vals k x0 x1 x2 x3 ((y2.1.take (List.length y2.1)).drop 1)).bind fun y3 =>
  (some (y3.1, ())))
 else none)))) := by kernel_rfl
noncomputable def s_ArnQueue_G (k : Nat) : Dt s_ArnQueue_i → Option (Dt s_ArnQueue_o) := fun x => s_ArnQueue k x.1 x.2.1 x.2.2.1 x.2.2.2.1
theorem s_ArnQueue_c (k : Nat) : Comes1 (s_ArnQueue_T k) Try.f79 s_ArnQueue_i s_ArnQueue_o (s_ArnQueue_G k) := fun x => by kernel_rfl
noncomputable def s_ArnQueue_E (k : Nat) : Env := (w_FnExactArnMap_E k).with 79 s_ArnQueue_i s_ArnQueue_o (s_ArnQueue_G k)
theorem s_ArnQueue_ok (k : Nat) : EnvOk Try.prog (s_ArnQueue_E k) := (w_FnExactArnMap_ok k).with mixed (by decide) (by kernel_rfl) (by kernel_rfl) (s_ArnQueue_c k) (by kernel_rfl)
/-! ### loop.example/tuggers/spec.LinOf -/
@[reducible] def s_LinOf_i : Sh := ⟨[.c (.agg [.ro q0, .int .i64, .int .i64, .int .i64])], []⟩
@[reducible] def s_LinOf_o : Sh := ⟨[.c (.agg [.own 0, .own 1, .own 2])], [(0, .rows 116 q1), (1, .rows 3 (.int .i64)), (2, .rows 3 (.int .i64))]⟩
noncomputable def s_LinOf_T (k : Nat) : Env := ((s_ArnQueue_E k).at 0 k [] [] [⟨2, true, 0, 116, q1⟩, ⟨2, true, 1, 3, (.int .i64)⟩, ⟨2, true, 2, 3, (.int .i64)⟩]).gated (fun _ => true)
noncomputable def s_LinOf (k : Nat) (x0 : List (Int × (Int × (Int × (Int × (Bool × Int)))))) (x1 : Int) (x2 : Int) (x3 : Int) : Option (Dt s_LinOf_o) := evFn (s_LinOf_T k) Try.f27 [.c (.agg [.ro q0 x0, .int .i64 x1, .int .i64 x2, .int .i64 x3])] [] (unOut s_LinOf_o)
theorem s_LinOf_eq (k : Nat) (x0 : List (Int × (Int × (Int × (Int × (Bool × Int)))))) (x1 : Int) (x2 : Int) (x3 : Int) : s_LinOf k x0 x1 x2 x3 =
  ((s_ArnMap k x0 x1 x2 x3).bind fun y1 =>
  ((s_ArnStack k x0 x1 x2 x3).bind fun y2 =>
  ((s_ArnQueue k x0 x1 x2 x3).bind fun y3 =>
  (some (y1.1, y2.1, y3.1, ()))))) := by kernel_rfl
noncomputable def s_LinOf_G (k : Nat) : Dt s_LinOf_i → Option (Dt s_LinOf_o) := fun x => s_LinOf k x.1 x.2.1 x.2.2.1 x.2.2.2.1
theorem s_LinOf_c (k : Nat) : Comes1 (s_LinOf_T k) Try.f27 s_LinOf_i s_LinOf_o (s_LinOf_G k) := fun x => by kernel_rfl
noncomputable def s_LinOf_E (k : Nat) : Env := (s_ArnQueue_E k).with 27 s_LinOf_i s_LinOf_o (s_LinOf_G k)
theorem s_LinOf_ok (k : Nat) : EnvOk Try.prog (s_LinOf_E k) := (s_ArnQueue_ok k).with mixed (by decide) (by kernel_rfl) (by kernel_rfl) (s_LinOf_c k) (by kernel_rfl)
/-! ### loop.example/tuggers/impl.ArnQueue -/
@[reducible] def i_ArnQueue_i : Sh := ⟨[.c (.agg [.ro q0, .int .i64, .int .i64, .int .i64])], []⟩
@[reducible] def i_ArnQueue_o : Sh := ⟨[.c (.leaf (.own 0))], [(0, .rows 3 (.int .i64))]⟩
noncomputable def i_ArnQueue_T (k : Nat) : Env := ((s_LinOf_E k).at 0 k [] [] [⟨2, false, 0, 3, (.int .i64)⟩]).gated (fun _ => true)
noncomputable def i_ArnQueue (k : Nat) (x0 : List (Int × (Int × (Int × (Int × (Bool × Int)))))) (x1 : Int) (x2 : Int) (x3 : Int) : Option (Dt i_ArnQueue_o) := evFn (i_ArnQueue_T k) Try.f80 [.c (.agg [.ro q0 x0, .int .i64 x1, .int .i64 x2, .int .i64 x3])] [] (unOut i_ArnQueue_o)
theorem i_ArnQueue_eq (k : Nat) (x0 : List (Int × (Int × (Int × (Int × (Bool × Int)))))) (x1 : Int) (x2 : Int) (x3 : Int) : i_ArnQueue k x0 x1 x2 x3 =
  ((i_ArnOk k x0 x1 x2 x3).bind fun y1 =>
  (if (!y1.1) = true then
  (some (([] : List Int), ()))
 else
  ((i_ArnQueued k x0 x1 x2 x3).bind fun y2 =>
  (if (0:Int) ≤ (1:Int) ∧ (1:Int) ≤ (List.length y2.1 : Int) ∧ (List.length y2.1 : Int) ≤ (List.length y2.1 : Int) then
  ((i_ArnArena_values k x0 x1 x2 x3 ((y2.1.take (List.length y2.1)).drop 1)).bind fun y3 =>
  (some (y3.1, ())))
 else none)))) := by kernel_rfl
noncomputable def i_ArnQueue_G (k : Nat) : Dt i_ArnQueue_i → Option (Dt i_ArnQueue_o) := fun x => i_ArnQueue k x.1 x.2.1 x.2.2.1 x.2.2.2.1
theorem i_ArnQueue_c (k : Nat) : Comes1 (i_ArnQueue_T k) Try.f80 i_ArnQueue_i i_ArnQueue_o (i_ArnQueue_G k) := fun x => by kernel_rfl
noncomputable def i_ArnQueue_E (k : Nat) : Env := (s_LinOf_E k).with 80 i_ArnQueue_i i_ArnQueue_o (i_ArnQueue_G k)
theorem i_ArnQueue_ok (k : Nat) : EnvOk Try.prog (i_ArnQueue_E k) := (s_LinOf_ok k).with mixed (by decide) (by kernel_rfl) (by kernel_rfl) (i_ArnQueue_c k) (by kernel_rfl)
/-! ### loop.example/tuggers/impl.LinOf -/
@[reducible] def i_LinOf_i : Sh := ⟨[.c (.agg [.ro q0, .int .i64, .int .i64, .int .i64])], []⟩
@[reducible] def i_LinOf_o : Sh := ⟨[.c (.agg [.own 0, .own 1, .own 2])], [(0, .rows 116 q1), (1, .rows 3 (.int .i64)), (2, .rows 3 (.int .i64))]⟩
noncomputable def i_LinOf_T (k : Nat) : Env := ((i_ArnQueue_E k).at 0 k [] [] [⟨2, true, 0, 116, q1⟩, ⟨2, true, 1, 3, (.int .i64)⟩, ⟨2, true, 2, 3, (.int .i64)⟩]).gated (fun _ => true)
noncomputable def i_LinOf (k : Nat) (x0 : List (Int × (Int × (Int × (Int × (Bool × Int)))))) (x1 : Int) (x2 : Int) (x3 : Int) : Option (Dt i_LinOf_o) := evFn (i_LinOf_T k) Try.f28 [.c (.agg [.ro q0 x0, .int .i64 x1, .int .i64 x2, .int .i64 x3])] [] (unOut i_LinOf_o)
theorem i_LinOf_eq (k : Nat) (x0 : List (Int × (Int × (Int × (Int × (Bool × Int)))))) (x1 : Int) (x2 : Int) (x3 : Int) : i_LinOf k x0 x1 x2 x3 =
  ((i_ArnMap k x0 x1 x2 x3).bind fun y1 =>
  ((i_ArnStack k x0 x1 x2 x3).bind fun y2 =>
  ((i_ArnQueue k x0 x1 x2 x3).bind fun y3 =>
  (some (y1.1, y2.1, y3.1, ()))))) := by kernel_rfl
noncomputable def i_LinOf_G (k : Nat) : Dt i_LinOf_i → Option (Dt i_LinOf_o) := fun x => i_LinOf k x.1 x.2.1 x.2.2.1 x.2.2.2.1
theorem i_LinOf_c (k : Nat) : Comes1 (i_LinOf_T k) Try.f28 i_LinOf_i i_LinOf_o (i_LinOf_G k) := fun x => by kernel_rfl
noncomputable def i_LinOf_E (k : Nat) : Env := (i_ArnQueue_E k).with 28 i_LinOf_i i_LinOf_o (i_LinOf_G k)
theorem i_LinOf_ok (k : Nat) : EnvOk Try.prog (i_LinOf_E k) := (i_ArnQueue_ok k).with mixed (by decide) (by kernel_rfl) (by kernel_rfl) (i_LinOf_c k) (by kernel_rfl)
/-! ### loop.example/tuggers/laws.eqLinState -/
@[reducible] def w_eqLinState_i : Sh := ⟨[.c (.agg [.ro q1, .ro (.int .i64), .ro (.int .i64)]), .c (.agg [.ro q1, .ro (.int .i64), .ro (.int .i64)])], []⟩
@[reducible] def w_eqLinState_o : Sh := ⟨[.c (.leaf (.bool))], []⟩
noncomputable def w_eqLinState_T (k : Nat) : Env := ((i_LinOf_E k).at 0 k [] [] []).gated (fun _ => true)
noncomputable def w_eqLinState (k : Nat) (x0 : List (Int × Int)) (x1 : List Int) (x2 : List Int) (x3 : List (Int × Int)) (x4 : List Int) (x5 : List Int) : Option (Dt w_eqLinState_o) := evFn (w_eqLinState_T k) Try.f29 [.c (.agg [.ro q1 x0, .ro (.int .i64) x1, .ro (.int .i64) x2]), .c (.agg [.ro q1 x3, .ro (.int .i64) x4, .ro (.int .i64) x5])] [] (unOut w_eqLinState_o)
theorem w_eqLinState_eq (k : Nat) (x0 : List (Int × Int)) (x1 : List Int) (x2 : List Int) (x3 : List (Int × Int)) (x4 : List Int) (x5 : List Int) : w_eqLinState k x0 x1 x2 x3 x4 x5 =
  ((w_eqMapMap k x0 x3).bind fun y1 =>
  (if (!y1.1) = true then
  (some (false, ()))
 else
  ((w_eqIntS k x1 x4).bind fun y2 =>
  (if (!y2.1) = true then
  (some (false, ()))
 else
  ((w_eqIntS k x2 x5).bind fun y3 =>
  (if (!y3.1) = true then
  (some (false, ()))
 else
  (some (true, ())))))))) := by kernel_rfl
noncomputable def w_eqLinState_G (k : Nat) : Dt w_eqLinState_i → Option (Dt w_eqLinState_o) := fun x => w_eqLinState k x.1 x.2.1 x.2.2.1 x.2.2.2.1 x.2.2.2.2.1 x.2.2.2.2.2.1
theorem w_eqLinState_c (k : Nat) : Comes1 (w_eqLinState_T k) Try.f29 w_eqLinState_i w_eqLinState_o (w_eqLinState_G k) := fun x => by kernel_rfl
noncomputable def w_eqLinState_E (k : Nat) : Env := (i_LinOf_E k).with 29 w_eqLinState_i w_eqLinState_o (w_eqLinState_G k)
theorem w_eqLinState_ok (k : Nat) : EnvOk Try.prog (w_eqLinState_E k) := (i_LinOf_ok k).with mixed (by decide) (by kernel_rfl) (by kernel_rfl) (w_eqLinState_c k) (by kernel_rfl)
/-! ### loop.example/tuggers/laws.markLinState -/
@[reducible] def w_markLinState_i : Sh := ⟨[.c (.agg [.own 0, .own 1, .own 2]), .c (.leaf (.int .i64))], [(0, .rows 116 q1), (1, .rows 3 (.int .i64)), (2, .rows 3 (.int .i64))]⟩
@[reducible] def w_markLinState_o : Sh := ⟨[.c (.leaf (.int .i64))], [(0, .rows 116 q1), (1, .rows 3 (.int .i64)), (2, .rows 3 (.int .i64))]⟩
noncomputable def w_markLinState_T (k : Nat) : Env := ((w_eqLinState_E k).at 3 k [] [] []).gated (fun _ => true)
noncomputable def w_markLinState (k : Nat) (x0 : Int) (x1 : List (Int × Int)) (x2 : List Int) (x3 : List Int) : Option (Dt w_markLinState_o) := evFn (w_markLinState_T k) Try.f30 [.c (.agg [.own 0, .own 1, .own 2]), .c (.leaf (.int .i64 x0))] [(0, .rows 116 q1 x1), (1, .rows 3 (.int .i64) x2), (2, .rows 3 (.int .i64) x3)] (unOut w_markLinState_o)
theorem w_markLinState_eq (k : Nat) (x0 : Int) (x1 : List (Int × Int)) (x2 : List Int) (x3 : List Int) : w_markLinState k x0 x1 x2 x3 =
  ((w_markMapMap k x0 x1).bind fun y1 =>
  ((w_markIntS k y1.1 x2).bind fun y2 =>
  ((w_markIntS k y2.1 x3).bind fun y3 =>
  (some (y3.1, y1.2.1, y2.2.1, y3.2.1, ()))))) := by kernel_rfl
noncomputable def w_markLinState_G (k : Nat) : Dt w_markLinState_i → Option (Dt w_markLinState_o) := fun x => w_markLinState k x.1 x.2.1 x.2.2.1 x.2.2.2.1
theorem w_markLinState_c (k : Nat) : Comes1 (w_markLinState_T k) Try.f30 w_markLinState_i w_markLinState_o (w_markLinState_G k) := fun x => by kernel_rfl
noncomputable def w_markLinState_E (k : Nat) : Env := (w_eqLinState_E k).with 30 w_markLinState_i w_markLinState_o (w_markLinState_G k)
theorem w_markLinState_ok (k : Nat) : EnvOk Try.prog (w_markLinState_E k) := (w_eqLinState_ok k).with mixed (by decide) (by kernel_rfl) (by kernel_rfl) (w_markLinState_c k) (by kernel_rfl)
/-! ### loop.example/tuggers/laws.heldLinState -/
@[reducible] def w_heldLinState_i : Sh := ⟨[.c (.agg [.ro q1, .ro (.int .i64), .ro (.int .i64)]), .c (.leaf (.int .i64))], []⟩
@[reducible] def w_heldLinState_o : Sh := ⟨[.c (.leaf (.int .i64))], []⟩
noncomputable def w_heldLinState_T (k : Nat) : Env := ((w_markLinState_E k).at 0 k [] [] []).gated (fun _ => true)
noncomputable def w_heldLinState (k : Nat) (x0 : List (Int × Int)) (x1 : List Int) (x2 : List Int) (x3 : Int) : Option (Dt w_heldLinState_o) := evFn (w_heldLinState_T k) Try.f31 [.c (.agg [.ro q1 x0, .ro (.int .i64) x1, .ro (.int .i64) x2]), .c (.leaf (.int .i64 x3))] [] (unOut w_heldLinState_o)
theorem w_heldLinState_eq (k : Nat) (x0 : List (Int × Int)) (x1 : List Int) (x2 : List Int) (x3 : Int) : w_heldLinState k x0 x1 x2 x3 =
  ((w_heldMapMap k x0 x3).bind fun y1 =>
  (if (decide (y1.1 < (0:Int))) = true then
  (some ((-1:Int), ()))
 else
  ((w_heldIntS k x1 y1.1).bind fun y2 =>
  (if (decide (y2.1 < (0:Int))) = true then
  (some ((-1:Int), ()))
 else
  ((w_heldIntS k x2 y2.1).bind fun y3 =>
  (if (decide (y3.1 < (0:Int))) = true then
  (some ((-1:Int), ()))
 else
  (some (y3.1, ())))))))) := by kernel_rfl
noncomputable def w_heldLinState_G (k : Nat) : Dt w_heldLinState_i → Option (Dt w_heldLinState_o) := fun x => w_heldLinState k x.1 x.2.1 x.2.2.1 x.2.2.2.1
theorem w_heldLinState_c (k : Nat) : Comes1 (w_heldLinState_T k) Try.f31 w_heldLinState_i w_heldLinState_o (w_heldLinState_G k) := fun x => by kernel_rfl
noncomputable def w_heldLinState_E (k : Nat) : Env := (w_markLinState_E k).with 31 w_heldLinState_i w_heldLinState_o (w_heldLinState_G k)
theorem w_heldLinState_ok (k : Nat) : EnvOk Try.prog (w_heldLinState_E k) := (w_markLinState_ok k).with mixed (by decide) (by kernel_rfl) (by kernel_rfl) (w_heldLinState_c k) (by kernel_rfl)
/-! ### loop.example/tuggers/laws.FnExactLinOf -/
@[reducible] def w_FnExactLinOf_i : Sh := ⟨[.c (.agg [.ro q0, .int .i64, .int .i64, .int .i64])], []⟩
@[reducible] def w_FnExactLinOf_o : Sh := ⟨[.c (.leaf (.bool))], []⟩
noncomputable def w_FnExactLinOf_T (k : Nat) : Env := ((w_heldLinState_E k).at 0 k [] [] []).gated (fun _ => true)
noncomputable def w_FnExactLinOf (k : Nat) (x0 : List (Int × (Int × (Int × (Int × (Bool × Int)))))) (x1 : Int) (x2 : Int) (x3 : Int) : Option (Dt w_FnExactLinOf_o) := evFn (w_FnExactLinOf_T k) Try.f5 [.c (.agg [.ro q0 x0, .int .i64 x1, .int .i64 x2, .int .i64 x3])] [] (unOut w_FnExactLinOf_o)
theorem w_FnExactLinOf_eq (k : Nat) (x0 : List (Int × (Int × (Int × (Int × (Bool × Int)))))) (x1 : Int) (x2 : Int) (x3 : Int) : w_FnExactLinOf k x0 x1 x2 x3 =
  ((w_szArnArena k x0 x1 x2 x3 (1048576:Int)).bind fun y1 =>
  (if (decide (y1.1 < (0:Int))) = true then
  (some (true, ()))
 else
  ((w_toArnArena k x0 x1 x2 x3).bind fun y2 =>
  ((s_LinOf k y2.2.2.2.1 y2.1 y2.2.1 y2.2.2.1).bind fun y3 =>
  ((w_toArnArena k x0 x1 x2 x3).bind fun y4 =>
  ((i_LinOf k y4.2.2.2.1 y4.1 y4.2.1 y4.2.2.1).bind fun y5 =>
  ((w_eqLinState k y5.1 y5.2.1 y5.2.2.1 y3.1 y3.2.1 y3.2.2.1).bind fun y6 =>
  (if (!y6.1) = true then
  (some (false, ()))
 else
  ((w_toArnArena k x0 x1 x2 x3).bind fun y7 =>
  ((w_eqArnArena k y4.2.2.2.1 y4.1 y4.2.1 y4.2.2.1 y7.2.2.2.1 y7.1 y7.2.1 y7.2.2.1).bind fun y8 =>
  (if (!y8.1) = true then
  (some (false, ()))
 else
  ((w_markArnArena k y4.1 y4.2.1 y4.2.2.1 (1:Int) y4.2.2.2.1).bind fun y9 =>
  (if (decide (y9.1 < (0:Int))) = true then
  (some (false, ()))
 else
  ((w_eqLinState k y5.1 y5.2.1 y5.2.2.1 y3.1 y3.2.1 y3.2.2.1).bind fun y10 =>
  (if (!y10.1) = true then
  (some (false, ()))
 else
  ((w_markLinState k (1:Int) y5.1 y5.2.1 y5.2.2.1).bind fun y11 =>
  ((w_heldLinState k y11.2.1 y11.2.2.1 y11.2.2.2.1 (1:Int)).bind fun y12 =>
  (if (decide (y12.1 < (0:Int))) = true then
  (some (false, ()))
 else
  (if (decide (¬ y12.1 = y11.1)) = true then
  (some (false, ()))
 else
  ((w_toArnArena k x0 x1 x2 x3).bind fun y13 =>
  ((i_LinOf k y13.2.2.2.1 y13.1 y13.2.1 y13.2.2.1).bind fun y14 =>
  ((w_eqLinState k y14.1 y14.2.1 y14.2.2.1 y3.1 y3.2.1 y3.2.2.1).bind fun y15 =>
  (if (!y15.1) = true then
  (some (false, ()))
 else
  ((w_heldLinState k y11.2.1 y11.2.2.1 y11.2.2.2.1 (1:Int)).bind fun y16 =>
  (if (decide (y16.1 < (0:Int))) = true then
  (some (false, ()))
 else
  (if (decide (¬ y16.1 = y11.1)) = true then
  (some (false, ()))
 else
  (some (true, ())))))))))))))))))))))))))))) := by kernel_rfl
noncomputable def w_FnExactLinOf_G (k : Nat) : Dt w_FnExactLinOf_i → Option (Dt w_FnExactLinOf_o) := fun x => w_FnExactLinOf k x.1 x.2.1 x.2.2.1 x.2.2.2.1
theorem w_FnExactLinOf_c (k : Nat) : Comes1 (w_FnExactLinOf_T k) Try.f5 w_FnExactLinOf_i w_FnExactLinOf_o (w_FnExactLinOf_G k) := fun x => by kernel_rfl
noncomputable def w_FnExactLinOf_E (k : Nat) : Env := (w_heldLinState_E k).with 5 w_FnExactLinOf_i w_FnExactLinOf_o (w_FnExactLinOf_G k)
theorem w_FnExactLinOf_ok (k : Nat) : EnvOk Try.prog (w_FnExactLinOf_E k) := (w_heldLinState_ok k).with mixed (by decide) (by kernel_rfl) (by kernel_rfl) (w_FnExactLinOf_c k) (by kernel_rfl)
end Go.Proofs.Ytiooamodldgalaa.Abs
