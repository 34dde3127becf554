/-
FnExactAudTouch: for every input the law returns true, and the input reads behind the call as it read before. No condition.
-/
import Derived.Test.YtiooamodldgalaaGenE
import Derived.Test.YtiooamodldgalaaAbs23
import Derived.Test.YtiooamodldgalaaAud1
import Derived.Test.YtiooamodldgalaaRows
import Derived.WalkKit
import Derived.ProofKit
import Derived.OpenShut
import Derived.Carry
set_option linter.unusedVariables false
set_option maxRecDepth 100000
namespace Go.Proofs.Ytiooamodldgalaa.Abs
open Go Go.Proofs Go.ChangeShapes Go.WideShapes Go.ChangeAt Go.RowKit
def FnExactAudTouchPs : List (Bool × List RT) := [(true, [(.list 163 (.pair (.int .i64) (.pair (.int .i64) (.pair (.int .i64) (.pair (.int .i64) (.pair .bool (.int .i64))))))), (.int .i64), (.int .i64), (.int .i64), (.int .i64), (.list 3 (.int .i64)), (.list 204 (.list 221 (.pair (.int .i64) (.int .i64)))), (.list 175 (.pair (.int .i64) (.pair (.pair (.int .i64) (.pair (.int .i64) (.int .i64))) (.pair (.int .i64) (.pair (.pair (.int .i64) (.int .i64)) (.pair (.pair (.int .i64) (.int .i64)) (.pair (.int .i64) (.pair (.int .i64) (.pair (.pair (.int .i64) (.int .i64)) (.pair (.pair (.int .i64) (.int .i64)) (.pair (.int .i64) (.pair (.int .i64) (.pair (.pair (.int .i64) (.int .i64)) (.pair (.int .i64) (.pair .bool (.pair .str (.pair .str (.pair (.int .i64) (.int .i64))))))))))))))))))), (.int .i64), (.list 182 (.pair (.int .i64) (.pair (.pair (.int .i64) (.pair (.int .i64) (.int .i64))) (.pair (.pair (.int .i64) (.int .i64)) (.pair (.int .i64) (.pair (.int .i64) (.int .i64)))))))]), (false, [(.int .i64)])]
noncomputable def rtOf (t : TypeId) : Option RT := match assoc TT t with | some i => i.rt | none => none
theorem kinds0 : kinds Try.prog rtOf 9 54 = some [(.list 163 (.pair (.int .i64) (.pair (.int .i64) (.pair (.int .i64) (.pair (.int .i64) (.pair .bool (.int .i64))))))), (.int .i64), (.int .i64), (.int .i64), (.int .i64), (.list 3 (.int .i64)), (.list 204 (.list 221 (.pair (.int .i64) (.int .i64)))), (.list 175 (.pair (.int .i64) (.pair (.pair (.int .i64) (.pair (.int .i64) (.int .i64))) (.pair (.int .i64) (.pair (.pair (.int .i64) (.int .i64)) (.pair (.pair (.int .i64) (.int .i64)) (.pair (.int .i64) (.pair (.int .i64) (.pair (.pair (.int .i64) (.int .i64)) (.pair (.pair (.int .i64) (.int .i64)) (.pair (.int .i64) (.pair (.int .i64) (.pair (.pair (.int .i64) (.int .i64)) (.pair (.int .i64) (.pair .bool (.pair .str (.pair .str (.pair (.int .i64) (.int .i64))))))))))))))))))), (.int .i64), (.list 182 (.pair (.int .i64) (.pair (.pair (.int .i64) (.pair (.int .i64) (.int .i64))) (.pair (.pair (.int .i64) (.int .i64)) (.pair (.int .i64) (.pair (.int .i64) (.int .i64)))))))] := by kernel_rfl
theorem kinds1 : kinds Try.prog rtOf 9 3 = some [(.int .i64)] := by kernel_rfl
theorem own : ownKnob Try.prog.godebug = none := by kernel_rfl
theorem laidOut : laidOutB Try.prog = true := by kernel_rfl
theorem readable0 : Try.prog.readableRec 54 = true := by kernel_rfl
theorem inRange0 : (54 : TypeId) < Try.prog.types.size := of_decide_eq_true (by kernel_rfl)
theorem readable1 : Try.prog.readableRec 3 = true := by kernel_rfl
theorem inRange1 : (3 : TypeId) < Try.prog.types.size := of_decide_eq_true (by kernel_rfl)
theorem w_FnExactAudTouch_all (x : Dt (rootSh FnExactAudTouchPs)) (hb : bdAs (FnExactAudTouchPs.map fun p => haOf p.1 p.2) x) : ∃ k, w_FnExactAudTouch_G k x = some (true, ()) := by
  refine ⟨2000000, ?_⟩
  have hk : 2000000 ≤ 2000000 := Nat.le_refl _
  obtain ⟨a, t, f, z, e, p, l, hs, c, lg, j, u⟩ := x
  have hBnd : ∀ h ∈ hs, h.2.2.2.2.2.2.2.2.2.2.2.2.2.2.1.size ≤ 9223372036854775807 ∧ h.2.2.2.2.2.2.2.2.2.2.2.2.2.2.2.1.size ≤ 9223372036854775807 := by
    intro h hh
    have := hb.1.2.2.2.2.2.2.2.1.2 h hh
    exact ⟨this.2.2.2.2.2.2.2.2.2.2.2.2.2.2.1, this.2.2.2.2.2.2.2.2.2.2.2.2.2.2.2.1⟩
  have H : Long a p l hs lg := ⟨hb.1.1.1, hb.1.2.2.2.2.2.1.1, hb.1.2.2.2.2.2.2.1.1, fun y hy => (hb.1.2.2.2.2.2.2.1.2 y hy).1, hb.1.2.2.2.2.2.2.2.1.1, fun y hy => hBnd y hy, hb.1.2.2.2.2.2.2.2.2.2.1.1⟩
  show w_FnExactAudTouch 2000000 a t f z e p l hs c lg j = some (true, ())
  rw [w_FnExactAudTouch_eq]
  obtain ⟨r, e1, e2, e3, e4⟩ := w_szWldWorld_v hk t f z e c H
  rw [e1]
  simp only [Option.bind_some]
  by_cases hr : r < 0
  · rw [if_pos (by simpa using hr)]
  · have S := e4 (by omega)
    obtain ⟨b, g1, g2⟩ := audTouch_v (k := 2000000) a t f z e p hs c lg j l
    rw [if_neg (by simpa using hr), w_toWldWorld_v hk t f z e c S]
    simp only [Option.bind_some]
    rw [g1]
    simp only [Option.bind_some]
    rw [g2]
    simp only [Option.bind_some]
    rw [if_neg (by simp), w_eqWldWorld_v hk t f z e c S]
    simp only [Option.bind_some]
    rw [if_neg (by simp)]
theorem w_FnExactAudTouch_env (k : Nat) : EnvOk Try.prog (w_FnExactAudTouch_T k) := ((w_eqWldWorld_ok k).at _ _ _ _ _).gated _
theorem walk {w : World} {vs : List Value} (hv : F2 (ArgIs ⟨w, fun _ => False, fun k => k < w.heap.size⟩) FnExactAudTouchPs vs) : Calls Try.prog 6 vs.toArray w fun e w' => e = .returned (.bool true) ∧ Below w.heap.size w w' :=
  law_run (ps := FnExactAudTouchPs) (T := fun k => w_FnExactAudTouch_T k) (G := fun k => (w_FnExactAudTouch_G k : Dt (rootSh FnExactAudTouchPs) → Option (Dt boolSh))) mixed Try.func6 (by kernel_rfl) w_FnExactAudTouch_env (fun _ => Nat.le_of_ble_eq_true (by kernel_rfl)) (fun k => w_FnExactAudTouch_c k) w_FnExactAudTouch_all hv
theorem law_lifted (os : Os) (started : os.Started) (H : Type) (enc : TypeId × Value → H) :
    ReturnsInHanded {} Try.checked os 6 .any (Rows.fnExactAudTouchSpec.pre6 enc Try.prog Try.f6 Rows.fnExactAudTouchRow.domain false) (Rows.fnExactAudTouchSpec.post enc Try.prog Try.f6 false true false false) := by
  refine returnsInHanded_of_change (C := Try.checked) own started (by kernel_rfl) Try.func6
    (ChangeSpec.witness6 (enc := enc) (C := Try.checked) false ⟨#[], #[.agg #[.slice none 0 0, .int .i64 0, .int .i64 0, .int .i64 0, .int .i64 0, .slice none 0 0, .slice none 0 0, .slice none 0 0, .int .i64 0, .slice none 0 0], .int .i64 0], []⟩ 9 (by kernel_rfl) (by kernel_rfl) (by kernel_rfl) (by kernel_rfl)) ?_
  intro W base args ds gs before hval0 hW hcnd _
  have hval : ∀ (j : Nat) t v, Try.f6.params[j]? = some t → args[j]? = some v → Value.okWide Try.prog W .any base t v := hval0
  have hW' := hW
  obtain ⟨p, q, hA0, hV, rfl, hfz, hnd⟩ := hW
  have hA : DataW.TrodAll enc Try.prog W 0 (fun _ => true) true Try.f6.params.toList args.toList ds p := hA0
  rw [Try.params6] at hA hval
  obtain ⟨v0, vs0, d0, ds0, p0, q0, hargs, rfl, rfl, h0, r0⟩ := trodAll_cons hA
  obtain ⟨v1, vs1, d1, ds1, p1, q1, rfl, rfl, rfl, h1, r1⟩ := trodAll_cons r0
  obtain ⟨rfl, rfl, rfl⟩ := trodAll_nil r1
  obtain rfl : args = #[v0, v1] := by cases args; simp_all
  obtain ⟨rfl, rfl⟩ := trodVars_none hV
  simp only [List.append_nil] at hW'
  have b0 := arg_agg (n := 9) (by kernel_rfl) kinds0 (by kernel_rfl) (hval 0 54 v0 rfl rfl) h0
  have b1 := arg_leaf (n := 9) (by kernel_rfl) kinds1 (by kernel_rfl) (hval 1 3 v1 rfl rfl) h1
  have hb : F2 (ArgIs ⟨W, fun _ => False, fun k => k < W.heap.size⟩) FnExactAudTouchPs [v0, v1] := (F2.cons b0 (F2.cons b1 .nil))
  refine (walk hb).mono fun e W' ⟨he, hn⟩ => ?_
  subst he
  have hlt0 : ∀ x ∈ p0, x.block < W.heap.size := fun x hx => hW'.lt x (by simp [hx])
  have t0 := Below.trod laidOut readable0 inRange0 h0 hn hlt0
  have hlt1 : ∀ x ∈ p1, x.block < W.heap.size := fun x hx => hW'.lt x (by simp [hx])
  have t1 := Below.trod laidOut readable1 inRange1 h1 hn hlt1
  refine ⟨_, rfl, _, _, _, [], _, [], hW', ?_, (trodAll_cons_mk t0 (trodAll_cons_mk t1 trodAll_mk0)), rfl, hn.frame _, fun h => by cases h⟩
  exact trodAll_mk1 (shut_bool Try.underlying4 true)
/-- The statement. -/
theorem fnExactAudTouch_holds : Rows.FnExactAudTouchSaid :=
  OpenClaim.holds_of_wide 6 Try.f6 rfl rfl rfl rfl rfl rfl rfl ⟨rfl, rfl, rfl, rfl, rfl⟩ rfl rfl rfl rfl rfl (by kernel_rfl) Try.func6 (by kernel_rfl)
    (of_decide_eq_true (by kernel_rfl)) (by unfold Func.isWrapper; first | (rw [if_pos (by decide +kernel)]; kernel_rfl) | (rw [if_neg (by decide +kernel)]; exact ⟨rfl, rfl⟩))
    (fun os started H enc _ => law_lifted os started H enc)
#print axioms fnExactAudTouch_holds
end Go.Proofs.Ytiooamodldgalaa.Abs
