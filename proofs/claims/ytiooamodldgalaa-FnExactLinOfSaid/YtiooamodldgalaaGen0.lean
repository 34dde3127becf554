/-
The types of the program that the functions below use.
-/
import Derived.Test.YtiooamodldgalaaAbs23
import Derived.Test.YtiooamodldgalaaProg
import Derived.KernelRfl
set_option maxRecDepth 100000
set_option linter.unusedVariables false
namespace Go.Proofs.Ytiooamodldgalaa.Abs
open Go Go.Proofs.Try
@[reducible] def q0 : RT := (.pair (.int .i64) (.pair (.int .i64) (.pair (.int .i64) (.pair (.int .i64) (.pair .bool (.int .i64))))))
@[reducible] def q1 : RT := (.pair (.int .i64) (.int .i64))
noncomputable def TT : List (TypeId × TI) := [(3, ⟨.int .i64, false, 1, 8, [.int .i64 0], some (.int .i64)⟩),
  (4, ⟨.bool, false, 1, 1, [.bool false], some .bool⟩),
  (22, ⟨.slice 163, false, 1, 24, [.nils], some (.list 163 (.pair (.int .i64) (.pair (.int .i64) (.pair (.int .i64) (.pair (.int .i64) (.pair .bool (.int .i64)))))))⟩),
  (24, ⟨.struct [(0, 1, false), (1, 1, false), (2, 1, false), (3, 1, false)], true, 4, 48, [.nils, .int .i64 0, .int .i64 0, .int .i64 0], none⟩),
  (26, ⟨.slice 3, false, 1, 24, [.nils], some (.list 3 (.int .i64))⟩),
  (28, ⟨.slice 113, false, 1, 24, [.nils], some (.list 113 (.pair (.int .i64) (.pair (.int .i64) (.pair (.int .i64) (.pair (.int .i64) (.pair .bool (.int .i64)))))))⟩),
  (30, ⟨.struct [(0, 1, false), (1, 1, false), (2, 1, false), (3, 1, false)], true, 4, 48, [.nils, .int .i64 0, .int .i64 0, .int .i64 0], none⟩),
  (37, ⟨.slice 116, false, 1, 24, [.nils], some (.list 116 (.pair (.int .i64) (.int .i64)))⟩),
  (39, ⟨.struct [(0, 1, false)], true, 1, 24, [.nils], none⟩),
  (44, ⟨.struct [(0, 1, true), (1, 1, false), (2, 1, false)], true, 3, 72, [.nils, .nils, .nils], none⟩),
  (113, ⟨.struct [(0, 1, false), (1, 1, false), (2, 1, false), (3, 1, false), (4, 1, false), (5, 1, false)], true, 6, 48, [.int .i64 0, .int .i64 0, .int .i64 0, .int .i64 0, .bool false, .int .i64 0], some (.pair (.int .i64) (.pair (.int .i64) (.pair (.int .i64) (.pair (.int .i64) (.pair .bool (.int .i64))))))⟩),
  (116, ⟨.struct [(0, 1, false), (1, 1, false)], true, 2, 16, [.int .i64 0, .int .i64 0], some (.pair (.int .i64) (.int .i64))⟩),
  (163, ⟨.struct [(0, 1, false), (1, 1, false), (2, 1, false), (3, 1, false), (4, 1, false), (5, 1, false)], true, 6, 48, [.int .i64 0, .int .i64 0, .int .i64 0, .int .i64 0, .bool false, .int .i64 0], some (.pair (.int .i64) (.pair (.int .i64) (.pair (.int .i64) (.pair (.int .i64) (.pair .bool (.int .i64))))))⟩),
  (164, ⟨.map, false, 1, 8, [.undef], none⟩),
  (201, ⟨.slice 26, false, 1, 24, [.nils], none⟩)]
noncomputable def EQS : List (TypeId × List LV) := [(113, [.int .i64 0, .int .i64 0, .int .i64 0, .int .i64 0, .bool false, .int .i64 0])]
noncomputable def MASK : List (FuncId × List (List (Option RT))) := [(13, [[some q0, none, none, none], [none]]),
  (14, [[some q0, none, none, none]]),
  (15, [[some q0, none, none, none]]),
  (16, [[some q0, none, none, none]]),
  (17, [[some (.int .i64)], [some (.int .i64)]]),
  (18, [[some q0, none, none, none], [some q0, none, none, none]]),
  (21, [[some (.int .i64)], [none]]),
  (22, [[some q0, none, none, none]]),
  (23, [[some q0, none, none, none]]),
  (24, [[some q1], [some q1]]),
  (26, [[some q1], [none]]),
  (27, [[some q0, none, none, none]]),
  (28, [[some q0, none, none, none]]),
  (29, [[some q1, some (.int .i64), some (.int .i64)], [some q1, some (.int .i64), some (.int .i64)]]),
  (31, [[some q1, some (.int .i64), some (.int .i64)], [none]]),
  (62, [[some q0], [none]]),
  (63, [[some q0, none, none, none]]),
  (64, [[some q0, none, none, none], [some (.int .i64)]]),
  (65, [[some q0, none, none, none]]),
  (66, [[some q0]]),
  (67, [[some q0, none, none, none]]),
  (68, [[some q0, none, none, none], [some (.int .i64)]]),
  (69, [[some q0, none, none, none]]),
  (70, [[some q0], [some q0]]),
  (72, [[some q0, none, none, none]]),
  (74, [[some q0, none, none, none]]),
  (76, [[some q1], [some q1]]),
  (78, [[some q1], [none]]),
  (79, [[some q0, none, none, none]]),
  (80, [[some q0, none, none, none]]),
  (136, [[some q0, none, none, none]]),
  (137, [[some q0, none, none, none]]),
  (138, [[some q0, none, none, none], [some (.int .i64)], [some (.int .i64)]]),
  (139, [[some q0, none, none, none], [some (.int .i64)]]),
  (140, [[some q0, none, none, none], [some (.int .i64)]]),
  (141, [[some q0, none, none, none], [none]]),
  (143, [[some q0, none, none, none]]),
  (144, [[some q0, none, none, none]]),
  (145, [[some q0, none, none, none], [some (.int .i64)]]),
  (146, [[some (.list 3 (.int .i64))]]),
  (147, [[some q0, none, none, none], [none]]),
  (177, [[some (.int .i64)], [none]])]
noncomputable def base (_ : Nat) : Env := ⟨TT, fun _ _ _ => .stuck, MASK, 0, 0, [], [], [], EQS, fun _ => true⟩
theorem mixed : Try.prog.follows .mixedOrders = true := by kernel_rfl
theorem base_ok (k : Nat) : EnvOk Try.prog (base k) := ⟨TyOk.of_all (by kernel_rfl), EqOk.of_all (by kernel_rfl), fun _ _ _ _ _ h => h.elim⟩
end Go.Proofs.Ytiooamodldgalaa.Abs
