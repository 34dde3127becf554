/-
FnExactAudHeld: for every input the law returns true, and the input reads behind the call as it read before. No condition.
-/
import Derived.Test.YtiooamodldgalaaGenE
import Derived.Test.YtiooamodldgalaaAbs23
import Derived.Test.YtiooamodldgalaaAud2
import Derived.Test.YtiooamodldgalaaRows
import Derived.WalkKit
import Derived.ProofKit
import Derived.OpenShut
import Derived.Carry
set_option linter.unusedVariables false
set_option maxRecDepth 100000
namespace Go.Proofs.Ytiooamodldgalaa.Abs
open Go Go.Proofs Go.ChangeShapes Go.WideShapes Go.ChangeAt Go.RowKit
def FnExactAudHeldPs : List (Bool × List RT) := [(true, [(.list 163 (.pair (.int .i64) (.pair (.int .i64) (.pair (.int .i64) (.pair (.int .i64) (.pair .bool (.int .i64))))))), (.int .i64), (.int .i64), (.int .i64), (.int .i64), (.list 3 (.int .i64)), (.list 204 (.list 221 (.pair (.int .i64) (.int .i64)))), (.list 175 (.pair (.int .i64) (.pair (.pair (.int .i64) (.pair (.int .i64) (.int .i64))) (.pair (.int .i64) (.pair (.pair (.int .i64) (.int .i64)) (.pair (.pair (.int .i64) (.int .i64)) (.pair (.int .i64) (.pair (.int .i64) (.pair (.pair (.int .i64) (.int .i64)) (.pair (.pair (.int .i64) (.int .i64)) (.pair (.int .i64) (.pair (.int .i64) (.pair (.pair (.int .i64) (.int .i64)) (.pair (.int .i64) (.pair .bool (.pair .str (.pair .str (.pair (.int .i64) (.int .i64))))))))))))))))))), (.int .i64), (.list 182 (.pair (.int .i64) (.pair (.pair (.int .i64) (.pair (.int .i64) (.int .i64))) (.pair (.pair (.int .i64) (.int .i64)) (.pair (.int .i64) (.pair (.int .i64) (.int .i64)))))))])]
noncomputable def rtOf (t : TypeId) : Option RT := match assoc TT t with | some i => i.rt | none => none
theorem kinds0 : kinds Try.prog rtOf 9 54 = some [(.list 163 (.pair (.int .i64) (.pair (.int .i64) (.pair (.int .i64) (.pair (.int .i64) (.pair .bool (.int .i64))))))), (.int .i64), (.int .i64), (.int .i64), (.int .i64), (.list 3 (.int .i64)), (.list 204 (.list 221 (.pair (.int .i64) (.int .i64)))), (.list 175 (.pair (.int .i64) (.pair (.pair (.int .i64) (.pair (.int .i64) (.int .i64))) (.pair (.int .i64) (.pair (.pair (.int .i64) (.int .i64)) (.pair (.pair (.int .i64) (.int .i64)) (.pair (.int .i64) (.pair (.int .i64) (.pair (.pair (.int .i64) (.int .i64)) (.pair (.pair (.int .i64) (.int .i64)) (.pair (.int .i64) (.pair (.int .i64) (.pair (.pair (.int .i64) (.int .i64)) (.pair (.int .i64) (.pair .bool (.pair .str (.pair .str (.pair (.int .i64) (.int .i64))))))))))))))))))), (.int .i64), (.list 182 (.pair (.int .i64) (.pair (.pair (.int .i64) (.pair (.int .i64) (.int .i64))) (.pair (.pair (.int .i64) (.int .i64)) (.pair (.int .i64) (.pair (.int .i64) (.int .i64)))))))] := by kernel_rfl
theorem own : ownKnob Try.prog.godebug = none := by kernel_rfl
theorem laidOut : laidOutB Try.prog = true := by kernel_rfl
theorem readable0 : Try.prog.readableRec 54 = true := by kernel_rfl
theorem inRange0 : (54 : TypeId) < Try.prog.types.size := of_decide_eq_true (by kernel_rfl)
theorem w_FnExactAudHeld_all (x : Dt (rootSh FnExactAudHeldPs)) (hb : bdAs (FnExactAudHeldPs.map fun p => haOf p.1 p.2) x) : ∃ k, w_FnExactAudHeld_G k x = some (true, ()) := by
  refine ⟨5000000, ?_⟩
  have hk5 : 5000000 ≤ 5000000 := Nat.le_refl _
  have hk : 2000000 ≤ 5000000 := by omega
  obtain ⟨a, t, f, z, e, p, l, hs, c, lg, u⟩ := x
  have hBnd : ∀ h ∈ hs, h.2.2.2.2.2.2.2.2.2.2.2.2.2.2.1.size ≤ 9223372036854775807 ∧ h.2.2.2.2.2.2.2.2.2.2.2.2.2.2.2.1.size ≤ 9223372036854775807 := by
    intro h hh
    have := hb.1.2.2.2.2.2.2.2.1.2 h hh
    exact ⟨this.2.2.2.2.2.2.2.2.2.2.2.2.2.2.1, this.2.2.2.2.2.2.2.2.2.2.2.2.2.2.2.1⟩
  have H : Long a p l hs lg := ⟨hb.1.1.1, hb.1.2.2.2.2.2.1.1, hb.1.2.2.2.2.2.2.1.1, fun y hy => (hb.1.2.2.2.2.2.2.1.2 y hy).1, hb.1.2.2.2.2.2.2.2.1.1, fun y hy => hBnd y hy, hb.1.2.2.2.2.2.2.2.2.2.1.1⟩
  show w_FnExactAudHeld 5000000 a t f z e p l hs c lg = some (true, ())
  rw [w_FnExactAudHeld_eq]
  obtain ⟨r, e1, e2, e3, e4⟩ := w_szWldWorld_v hk t f z e c H
  rw [e1]
  simp only [Option.bind_some]
  by_cases hr : r < 0
  · rw [if_pos (by simpa using hr)]
  · have S := e4 (by omega)
    have hlen := heldOf_len hs
    have hh := S.h1
    obtain ⟨m, _, _, _, _, _, hm⟩ := w_markWldWorld_v hk t f z e c S
    rw [if_neg (by simpa using hr), w_toWldWorld_v hk t f z e c S]
    simp only [Option.bind_some]
    rw [s_AudHeld_v hk a t f z e p c lg l hh]
    simp only [Option.bind_some]
    rw [i_AudHeld_v hk a t f z e p c lg l hh]
    simp only [Option.bind_some]
    rw [w_eqIntS_w hk5 (by omega)]
    simp only [Option.bind_some]
    rw [if_neg (by simp), w_eqWldWorld_v hk t f z e c S]
    simp only [Option.bind_some]
    rw [if_neg (by simp), hm]
    simp only [Option.bind_some]
    rw [if_neg (by simp), if_neg (by simp), w_markIntS_w hk5 (by omega)]
    simp only [Option.bind_some]
    rw [w_heldIntS_w hk5 (by omega)]
    simp only [Option.bind_some]
    rw [if_neg (by simp; omega), if_neg (by simp), if_neg (by simp), if_neg (by simp; omega), if_neg (by simp)]
theorem w_FnExactAudHeld_env (k : Nat) : EnvOk Try.prog (w_FnExactAudHeld_T k) := ((w_markWldWorld_ok k).at _ _ _ _ _).gated _
theorem walk {w : World} {vs : List Value} (hv : F2 (ArgIs ⟨w, fun _ => False, fun k => k < w.heap.size⟩) FnExactAudHeldPs vs) : Calls Try.prog 7 vs.toArray w fun e w' => e = .returned (.bool true) ∧ Below w.heap.size w w' :=
  law_run (ps := FnExactAudHeldPs) (T := fun k => w_FnExactAudHeld_T k) (G := fun k => (w_FnExactAudHeld_G k : Dt (rootSh FnExactAudHeldPs) → Option (Dt boolSh))) mixed Try.func7 (by kernel_rfl) w_FnExactAudHeld_env (fun _ => Nat.le_of_ble_eq_true (by kernel_rfl)) (fun k => w_FnExactAudHeld_c k) w_FnExactAudHeld_all hv
theorem law_lifted (os : Os) (started : os.Started) (H : Type) (enc : TypeId × Value → H) :
    ReturnsInHanded {} Try.checked os 7 .any (Rows.fnExactAudHeldSpec.pre6 enc Try.prog Try.f7 Rows.fnExactAudHeldRow.domain false) (Rows.fnExactAudHeldSpec.post enc Try.prog Try.f7 false true false false) := by
  refine returnsInHanded_of_change (C := Try.checked) own started (by kernel_rfl) Try.func7
    (ChangeSpec.witness6 (enc := enc) (C := Try.checked) false ⟨#[], #[.agg #[.slice none 0 0, .int .i64 0, .int .i64 0, .int .i64 0, .int .i64 0, .slice none 0 0, .slice none 0 0, .slice none 0 0, .int .i64 0, .slice none 0 0]], []⟩ 9 (by kernel_rfl) (by kernel_rfl) (by kernel_rfl) (by kernel_rfl)) ?_
  intro W base args ds gs before hval0 hW hcnd _
  have hval : ∀ (j : Nat) t v, Try.f7.params[j]? = some t → args[j]? = some v → Value.okWide Try.prog W .any base t v := hval0
  have hW' := hW
  obtain ⟨p, q, hA0, hV, rfl, hfz, hnd⟩ := hW
  have hA : DataW.TrodAll enc Try.prog W 0 (fun _ => true) true Try.f7.params.toList args.toList ds p := hA0
  rw [Try.params7] at hA hval
  obtain ⟨v0, vs0, d0, ds0, p0, q0, hargs, rfl, rfl, h0, r0⟩ := trodAll_cons hA
  obtain ⟨rfl, rfl, rfl⟩ := trodAll_nil r0
  obtain rfl : args = #[v0] := by cases args; simp_all
  obtain ⟨rfl, rfl⟩ := trodVars_none hV
  simp only [List.append_nil] at hW'
  have b0 := arg_agg (n := 9) (by kernel_rfl) kinds0 (by kernel_rfl) (hval 0 54 v0 rfl rfl) h0
  have hb : F2 (ArgIs ⟨W, fun _ => False, fun k => k < W.heap.size⟩) FnExactAudHeldPs [v0] := (F2.cons b0 .nil)
  refine (walk hb).mono fun e W' ⟨he, hn⟩ => ?_
  subst he
  have hlt0 : ∀ x ∈ p0, x.block < W.heap.size := fun x hx => hW'.lt x (by simp [hx])
  have t0 := Below.trod laidOut readable0 inRange0 h0 hn hlt0
  refine ⟨_, rfl, _, _, _, [], _, [], hW', ?_, (trodAll_cons_mk t0 trodAll_mk0), rfl, hn.frame _, fun h => by cases h⟩
  exact trodAll_mk1 (shut_bool Try.underlying4 true)
/-- The statement. -/
theorem fnExactAudHeld_holds : Rows.FnExactAudHeldSaid :=
  OpenClaim.holds_of_wide 7 Try.f7 rfl rfl rfl rfl rfl rfl rfl ⟨rfl, rfl, rfl, rfl, rfl⟩ rfl rfl rfl rfl rfl (by kernel_rfl) Try.func7 (by kernel_rfl)
    (of_decide_eq_true (by kernel_rfl)) (by unfold Func.isWrapper; first | (rw [if_pos (by decide +kernel)]; kernel_rfl) | (rw [if_neg (by decide +kernel)]; exact ⟨rfl, rfl⟩))
    (fun os started H enc _ => law_lifted os started H enc)
#print axioms fnExactAudHeld_holds
end Go.Proofs.Ytiooamodldgalaa.Abs
