/-
Small facts of numbers and lists that the proofs about plain functions use.
-/
import Derived.Test.YtiooamodldgalaaAbs23
set_option linter.unusedVariables false
set_option linter.unusedSimpArgs false
namespace Go.Proofs.Ytiooamodldgalaa.Abs
open Go

theorem W_id {n : Int} (h1 : -4611686018427387904 ≤ n) (h2 : n ≤ 4611686018427387904) : W n = n := by
  unfold W
  rw [IntKind.wrap_i64]
  omega
theorem W_succ {i : Nat} (h : i ≤ 4000000000) : W ((i : Int) + 1) = ((i + 1 : Nat) : Int) := by
  rw [W_id] <;> omega
theorem getD_lt {α : Type} {l : List α} {i : Nat} {d : α} (h : i < l.length) : l.getD i d = l[i] := by
  rw [List.getD_eq_getElem?_getD, List.getElem?_eq_getElem h]
  rfl
theorem LB_eq : LB = 4294967296 := rfl
theorem drop_cons {α : Type} {l : List α} {i : Nat} (d : α) (h : i < l.length) : l.drop i = l.getD i d :: l.drop (i + 1) := by
  rw [getD_lt h]
  exact List.drop_eq_getElem_cons h
end Go.Proofs.Ytiooamodldgalaa.Abs
