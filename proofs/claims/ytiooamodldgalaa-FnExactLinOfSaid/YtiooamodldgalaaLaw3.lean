/-
FnExactLinOf: for every input the law returns true, and the input reads behind the call as it read before. No condition.
-/
import Derived.Test.YtiooamodldgalaaGen2
import Derived.Test.YtiooamodldgalaaAbs23
import Derived.Test.YtiooamodldgalaaArnM
import Derived.Test.YtiooamodldgalaaRows
import Derived.WalkKit
import Derived.ProofKit
import Derived.OpenShut
import Derived.Carry
set_option linter.unusedVariables false
set_option maxRecDepth 100000
namespace Go.Proofs.Ytiooamodldgalaa.Abs
open Go Go.Proofs Go.ChangeShapes Go.WideShapes Go.ChangeAt Go.RowKit
def FnExactLinOfPs : List (Bool × List RT) := [(true, [(.list 163 (.pair (.int .i64) (.pair (.int .i64) (.pair (.int .i64) (.pair (.int .i64) (.pair .bool (.int .i64))))))), (.int .i64), (.int .i64), (.int .i64)])]
noncomputable def rtOf (t : TypeId) : Option RT := match assoc TT t with | some i => i.rt | none => none
theorem kinds0 : kinds Try.prog rtOf 9 24 = some [(.list 163 (.pair (.int .i64) (.pair (.int .i64) (.pair (.int .i64) (.pair (.int .i64) (.pair .bool (.int .i64))))))), (.int .i64), (.int .i64), (.int .i64)] := by kernel_rfl
theorem own : ownKnob Try.prog.godebug = none := by kernel_rfl
theorem laidOut : laidOutB Try.prog = true := by kernel_rfl
theorem readable0 : Try.prog.readableRec 24 = true := by kernel_rfl
theorem inRange0 : (24 : TypeId) < Try.prog.types.size := of_decide_eq_true (by kernel_rfl)
theorem w_FnExactLinOf_all (x : Dt (rootSh FnExactLinOfPs)) (hb : bdAs (FnExactLinOfPs.map fun p => haOf p.1 p.2) x) : ∃ k, w_FnExactLinOf_G k x = some (true, ()) := by
  refine ⟨2000000, ?_⟩
  have hk : 2000000 ≤ 2000000 := Nat.le_refl _
  obtain ⟨a, t, f, l, u⟩ := x
  have hlen : a.length ≤ 9223372036854775807 := hb.1.1.1
  show w_FnExactLinOf 2000000 a t f l = some (true, ())
  rw [w_FnExactLinOf_eq, w_szArnArena_v hlen]
  simp only [Option.bind_some]
  by_cases hs : a.length ≤ 1048576
  · have h1 := mapVals_len (a := a) t f l
    have h2 := stackVals_len (a := a) t f l
    have h3 := queueVals_len (a := a) t f l
    obtain ⟨a', hm⟩ := w_markArnArena_v hk hs t f l
    rw [if_pos hs, if_neg (by simp; omega), w_toArnArena_v hk hs]
    simp only [Option.bind_some]
    rw [s_LinOf_v hk]
    simp only [Option.bind_some]
    rw [i_LinOf_v hk]
    simp only [Option.bind_some]
    rw [w_eqLinState_v hk (by omega) (by omega) (by omega)]
    simp only [Option.bind_some]
    rw [if_neg (by simp), w_eqArnArena_v hk hs]
    simp only [Option.bind_some]
    rw [if_neg (by simp), hm]
    simp only [Option.bind_some]
    rw [if_neg (by simp; omega), if_neg (by simp), w_markLinState_v hk (by omega) (by omega) (by omega)]
    simp only [Option.bind_some]
    rw [w_heldLinState_v hk (by omega) (by omega) (by omega)]
    simp only [Option.bind_some]
    rw [if_neg (by simp; omega), if_neg (by simp), if_neg (by simp), if_neg (by simp; omega), if_neg (by simp)]
  · rw [if_neg hs, if_pos (by simp)]
theorem w_FnExactLinOf_env (k : Nat) : EnvOk Try.prog (w_FnExactLinOf_T k) := ((w_heldLinState_ok k).at _ _ _ _ _).gated _
theorem walk {w : World} {vs : List Value} (hv : F2 (ArgIs ⟨w, fun _ => False, fun k => k < w.heap.size⟩) FnExactLinOfPs vs) : Calls Try.prog 5 vs.toArray w fun e w' => e = .returned (.bool true) ∧ Below w.heap.size w w' :=
  law_run (ps := FnExactLinOfPs) (T := fun k => w_FnExactLinOf_T k) (G := fun k => (w_FnExactLinOf_G k : Dt (rootSh FnExactLinOfPs) → Option (Dt boolSh))) mixed Try.func5 (by kernel_rfl) w_FnExactLinOf_env (fun _ => Nat.le_of_ble_eq_true (by kernel_rfl)) (fun k => w_FnExactLinOf_c k) w_FnExactLinOf_all hv
theorem law_lifted (os : Os) (started : os.Started) (H : Type) (enc : TypeId × Value → H) :
    ReturnsInHanded {} Try.checked os 5 .any (Rows.fnExactLinOfSpec.pre6 enc Try.prog Try.f5 Rows.fnExactLinOfRow.domain false) (Rows.fnExactLinOfSpec.post enc Try.prog Try.f5 false true false false) := by
  refine returnsInHanded_of_change (C := Try.checked) own started (by kernel_rfl) Try.func5
    (ChangeSpec.witness6 (enc := enc) (C := Try.checked) false ⟨#[], #[.agg #[.slice none 0 0, .int .i64 0, .int .i64 0, .int .i64 0]], []⟩ 9 (by kernel_rfl) (by kernel_rfl) (by kernel_rfl) (by kernel_rfl)) ?_
  intro W base args ds gs before hval0 hW hcnd _
  have hval : ∀ (j : Nat) t v, Try.f5.params[j]? = some t → args[j]? = some v → Value.okWide Try.prog W .any base t v := hval0
  have hW' := hW
  obtain ⟨p, q, hA0, hV, rfl, hfz, hnd⟩ := hW
  have hA : DataW.TrodAll enc Try.prog W 0 (fun _ => true) true Try.f5.params.toList args.toList ds p := hA0
  rw [Try.params5] at hA hval
  obtain ⟨v0, vs0, d0, ds0, p0, q0, hargs, rfl, rfl, h0, r0⟩ := trodAll_cons hA
  obtain ⟨rfl, rfl, rfl⟩ := trodAll_nil r0
  obtain rfl : args = #[v0] := by cases args; simp_all
  obtain ⟨rfl, rfl⟩ := trodVars_none hV
  simp only [List.append_nil] at hW'
  have b0 := arg_agg (n := 9) (by kernel_rfl) kinds0 (by kernel_rfl) (hval 0 24 v0 rfl rfl) h0
  have hb : F2 (ArgIs ⟨W, fun _ => False, fun k => k < W.heap.size⟩) FnExactLinOfPs [v0] := (F2.cons b0 .nil)
  refine (walk hb).mono fun e W' ⟨he, hn⟩ => ?_
  subst he
  have hlt0 : ∀ x ∈ p0, x.block < W.heap.size := fun x hx => hW'.lt x (by simp [hx])
  have t0 := Below.trod laidOut readable0 inRange0 h0 hn hlt0
  refine ⟨_, rfl, _, _, _, [], _, [], hW', ?_, (trodAll_cons_mk t0 trodAll_mk0), rfl, hn.frame _, fun h => by cases h⟩
  exact trodAll_mk1 (shut_bool Try.underlying4 true)
/-- The statement. -/
theorem fnExactLinOf_holds : Rows.FnExactLinOfSaid :=
  OpenClaim.holds_of_wide 5 Try.f5 rfl rfl rfl rfl rfl rfl rfl ⟨rfl, rfl, rfl, rfl, rfl⟩ rfl rfl rfl rfl rfl (by kernel_rfl) Try.func5 (by kernel_rfl)
    (of_decide_eq_true (by kernel_rfl)) (by unfold Func.isWrapper; first | (rw [if_pos (by decide +kernel)]; kernel_rfl) | (rw [if_neg (by decide +kernel)]; exact ⟨rfl, rfl⟩))
    (fun os started H enc _ => law_lifted os started H enc)
#print axioms fnExactLinOf_holds
end Go.Proofs.Ytiooamodldgalaa.Abs
