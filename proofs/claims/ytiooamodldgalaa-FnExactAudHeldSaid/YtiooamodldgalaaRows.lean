/-
  No cell of these rows narrows 'for every input' (looked for: loops, veiled, ifaces, maps, wideKeys, modest, calm, conditions, laid).
  DERIVED. THE GIVEN ROWS OF THIS SEAT. 10 by the template 'for every input the law returns true; each argument reads behind the call as it read before'; 0 by the template 'total and deterministic' (their statements: YtiooamodldgalaaTotals.lean).
  GIVEN WITH THE SEED: the statements are not yours to turn. If you find one false, say at which input.
  Laid BY PROGRAM, IN A SANDBOX (cutbox-rows.mjs): the forced cells as the released guide's own fill.sh prints them over the translation 640fe1db732aea1e… (all of the seat's roots in one cut). By AI agents, Wed Nov 11 2026. No macro, syntax, notation, axiom, sorry.
-/
import Derived.Test.YtiooamodldgalaaChecked
import GoSem.Claim
import GoSem.ClaimJoined
import GoSem.ClaimMapViews
import Derived.JoinedTies
import Derived.KernelRfl
namespace Go.Proofs.Ytiooamodldgalaa
/- THE CELL 'sum', in the pinned program and in every row, IS THE sha256 OF THE DUMP (.gsa) THAT YtiooamodldgalaaProg.lean LOADS. Nothing in Lean hashes anything: it is a label: what it is worth is what the hold of that sum in a sandbox is worth. -/
noncomputable def Try.pinned : Pinned := { name := "ytiooamodldgalaa", sum := "640fe1db732aea1e2521771c20520832707c4d9dfa0029ed6a70ed110d05a71d", checked := Try.checked }
namespace Rows
def none {H : Type} : Left H := { results := [], args := [] }

/-- 'laws.FnExactArnStack': WHATEVER THE INPUT: true; the input reads as it did. -/
def fnExactArnStackSpec : ChangeSpec := { name := "fnExactArnStack", fn := fun _ => fun
  | [d] => { results := [.lit (.bool true)], args := [d] }
  | _ => none }
def fnExactArnStackRow : OpenClaim := { program := "ytiooamodldgalaa", sum := "640fe1db732aea1e2521771c20520832707c4d9dfa0029ed6a70ed110d05a71d", func := "loop.example/tuggers/laws.FnExactArnStack", spec := "fnExactArnStack", apart := false }
def FnExactArnStackSaid : Prop := fnExactArnStackRow.holds Try.pinned (OpenSpec.ofChange fnExactArnStackSpec)

/-- ITS FALSE NEIGHBOUR: 'it returns false'. Refute it at one input. -/
def fnExactArnStackWrong : ChangeSpec := { name := "fnExactArnStack", fn := fun _ => fun
  | [d] => { results := [.lit (.bool false)], args := [d] }
  | _ => none }
def FnExactArnStackWrongFalsely : Prop := fnExactArnStackRow.holds Try.pinned (OpenSpec.ofChange fnExactArnStackWrong)

/-- 'laws.FnExactArnMap': WHATEVER THE INPUT: true; the input reads as it did. -/
def fnExactArnMapSpec : ChangeSpec := { name := "fnExactArnMap", fn := fun _ => fun
  | [d] => { results := [.lit (.bool true)], args := [d] }
  | _ => none }
def fnExactArnMapRow : OpenClaim := { program := "ytiooamodldgalaa", sum := "640fe1db732aea1e2521771c20520832707c4d9dfa0029ed6a70ed110d05a71d", func := "loop.example/tuggers/laws.FnExactArnMap", spec := "fnExactArnMap", apart := false }
def FnExactArnMapSaid : Prop := fnExactArnMapRow.holds Try.pinned (OpenSpec.ofChange fnExactArnMapSpec)

/-- ITS FALSE NEIGHBOUR: 'it returns false'. Refute it at one input. -/
def fnExactArnMapWrong : ChangeSpec := { name := "fnExactArnMap", fn := fun _ => fun
  | [d] => { results := [.lit (.bool false)], args := [d] }
  | _ => none }
def FnExactArnMapWrongFalsely : Prop := fnExactArnMapRow.holds Try.pinned (OpenSpec.ofChange fnExactArnMapWrong)

/-- 'laws.FnExactLinOf': WHATEVER THE INPUT: true; the input reads as it did. -/
def fnExactLinOfSpec : ChangeSpec := { name := "fnExactLinOf", fn := fun _ => fun
  | [d] => { results := [.lit (.bool true)], args := [d] }
  | _ => none }
def fnExactLinOfRow : OpenClaim := { program := "ytiooamodldgalaa", sum := "640fe1db732aea1e2521771c20520832707c4d9dfa0029ed6a70ed110d05a71d", func := "loop.example/tuggers/laws.FnExactLinOf", spec := "fnExactLinOf", apart := false }
def FnExactLinOfSaid : Prop := fnExactLinOfRow.holds Try.pinned (OpenSpec.ofChange fnExactLinOfSpec)

/-- ITS FALSE NEIGHBOUR: 'it returns false'. Refute it at one input. -/
def fnExactLinOfWrong : ChangeSpec := { name := "fnExactLinOf", fn := fun _ => fun
  | [d] => { results := [.lit (.bool false)], args := [d] }
  | _ => none }
def FnExactLinOfWrongFalsely : Prop := fnExactLinOfRow.holds Try.pinned (OpenSpec.ofChange fnExactLinOfWrong)

/-- 'laws.FnExactAudTouch': WHATEVER THE INPUT: true; the input reads as it did. -/
def fnExactAudTouchSpec : ChangeSpec := { name := "fnExactAudTouch", fn := fun _ => fun
  | [d1, d2] => { results := [.lit (.bool true)], args := [d1, d2] }
  | _ => none }
def fnExactAudTouchRow : OpenClaim := { program := "ytiooamodldgalaa", sum := "640fe1db732aea1e2521771c20520832707c4d9dfa0029ed6a70ed110d05a71d", func := "loop.example/tuggers/laws.FnExactAudTouch", spec := "fnExactAudTouch", apart := false }
def FnExactAudTouchSaid : Prop := fnExactAudTouchRow.holds Try.pinned (OpenSpec.ofChange fnExactAudTouchSpec)

/-- ITS FALSE NEIGHBOUR: 'it returns false'. Refute it at one input. -/
def fnExactAudTouchWrong : ChangeSpec := { name := "fnExactAudTouch", fn := fun _ => fun
  | [d1, d2] => { results := [.lit (.bool false)], args := [d1, d2] }
  | _ => none }
def FnExactAudTouchWrongFalsely : Prop := fnExactAudTouchRow.holds Try.pinned (OpenSpec.ofChange fnExactAudTouchWrong)

/-- 'laws.FnExactAudHeld': WHATEVER THE INPUT: true; the input reads as it did. -/
def fnExactAudHeldSpec : ChangeSpec := { name := "fnExactAudHeld", fn := fun _ => fun
  | [d] => { results := [.lit (.bool true)], args := [d] }
  | _ => none }
def fnExactAudHeldRow : OpenClaim := { program := "ytiooamodldgalaa", sum := "640fe1db732aea1e2521771c20520832707c4d9dfa0029ed6a70ed110d05a71d", func := "loop.example/tuggers/laws.FnExactAudHeld", spec := "fnExactAudHeld", apart := false }
def FnExactAudHeldSaid : Prop := fnExactAudHeldRow.holds Try.pinned (OpenSpec.ofChange fnExactAudHeldSpec)

/-- ITS FALSE NEIGHBOUR: 'it returns false'. Refute it at one input. -/
def fnExactAudHeldWrong : ChangeSpec := { name := "fnExactAudHeld", fn := fun _ => fun
  | [d] => { results := [.lit (.bool false)], args := [d] }
  | _ => none }
def FnExactAudHeldWrongFalsely : Prop := fnExactAudHeldRow.holds Try.pinned (OpenSpec.ofChange fnExactAudHeldWrong)

/-- 'laws.FnExactLinApply': WHATEVER THE INPUT: true; the input reads as it did. -/
def fnExactLinApplySpec : ChangeSpec := { name := "fnExactLinApply", fn := fun _ => fun
  | [d1, d2] => { results := [.lit (.bool true)], args := [d1, d2] }
  | _ => none }
def fnExactLinApplyRow : OpenClaim := { program := "ytiooamodldgalaa", sum := "640fe1db732aea1e2521771c20520832707c4d9dfa0029ed6a70ed110d05a71d", func := "loop.example/tuggers/laws.FnExactLinApply", spec := "fnExactLinApply", inPlace := ["slices.overlaps[loop.example/tuggers/impl.MapEntry]", "slices.overlaps[int]"], unfollowed := true, recurses := true, apart := false }
def FnExactLinApplySaid : Prop := fnExactLinApplyRow.holds Try.pinned (OpenSpec.ofChange fnExactLinApplySpec)

/-- ITS FALSE NEIGHBOUR: 'it returns false'. Refute it at one input. -/
def fnExactLinApplyWrong : ChangeSpec := { name := "fnExactLinApply", fn := fun _ => fun
  | [d1, d2] => { results := [.lit (.bool false)], args := [d1, d2] }
  | _ => none }
def FnExactLinApplyWrongFalsely : Prop := fnExactLinApplyRow.holds Try.pinned (OpenSpec.ofChange fnExactLinApplyWrong)

/-- 'laws.FnLinApply': WHATEVER THE INPUT: true; the input reads as it did. -/
def fnLinApplySpec : ChangeSpec := { name := "fnLinApply", fn := fun _ => fun
  | [d] => { results := [.lit (.bool true)], args := [d] }
  | _ => none }
def fnLinApplyRow : OpenClaim := { program := "ytiooamodldgalaa", sum := "640fe1db732aea1e2521771c20520832707c4d9dfa0029ed6a70ed110d05a71d", func := "loop.example/tuggers/laws.FnLinApply", spec := "fnLinApply", inPlace := ["slices.overlaps[loop.example/tuggers/impl.MapEntry]", "slices.overlaps[int]"], unfollowed := true, recurses := true, apart := false }
def FnLinApplySaid : Prop := fnLinApplyRow.holds Try.pinned (OpenSpec.ofChange fnLinApplySpec)

/-- ITS FALSE NEIGHBOUR: 'it returns false'. Refute it at one input. -/
def fnLinApplyWrong : ChangeSpec := { name := "fnLinApply", fn := fun _ => fun
  | [d] => { results := [.lit (.bool false)], args := [d] }
  | _ => none }
def FnLinApplyWrongFalsely : Prop := fnLinApplyRow.holds Try.pinned (OpenSpec.ofChange fnLinApplyWrong)

/-- 'laws.FnLinBack': WHATEVER THE INPUT: true; the input reads as it did. -/
def fnLinBackSpec : ChangeSpec := { name := "fnLinBack", fn := fun _ => fun
  | [d] => { results := [.lit (.bool true)], args := [d] }
  | _ => none }
def fnLinBackRow : OpenClaim := { program := "ytiooamodldgalaa", sum := "640fe1db732aea1e2521771c20520832707c4d9dfa0029ed6a70ed110d05a71d", func := "loop.example/tuggers/laws.FnLinBack", spec := "fnLinBack", inPlace := ["slices.overlaps[loop.example/tuggers/impl.MapEntry]", "slices.overlaps[int]"], unfollowed := true, recurses := true, apart := false }
def FnLinBackSaid : Prop := fnLinBackRow.holds Try.pinned (OpenSpec.ofChange fnLinBackSpec)

/-- ITS FALSE NEIGHBOUR: 'it returns false'. Refute it at one input. -/
def fnLinBackWrong : ChangeSpec := { name := "fnLinBack", fn := fun _ => fun
  | [d] => { results := [.lit (.bool false)], args := [d] }
  | _ => none }
def FnLinBackWrongFalsely : Prop := fnLinBackRow.holds Try.pinned (OpenSpec.ofChange fnLinBackWrong)

/-- 'laws.FnLinLooks': WHATEVER THE INPUT: true; the input reads as it did. -/
def fnLinLooksSpec : ChangeSpec := { name := "fnLinLooks", fn := fun _ => fun
  | [d] => { results := [.lit (.bool true)], args := [d] }
  | _ => none }
def fnLinLooksRow : OpenClaim := { program := "ytiooamodldgalaa", sum := "640fe1db732aea1e2521771c20520832707c4d9dfa0029ed6a70ed110d05a71d", func := "loop.example/tuggers/laws.FnLinLooks", spec := "fnLinLooks", inPlace := ["slices.overlaps[loop.example/tuggers/impl.MapEntry]", "slices.overlaps[int]"], unfollowed := true, recurses := true, apart := false }
def FnLinLooksSaid : Prop := fnLinLooksRow.holds Try.pinned (OpenSpec.ofChange fnLinLooksSpec)

/-- ITS FALSE NEIGHBOUR: 'it returns false'. Refute it at one input. -/
def fnLinLooksWrong : ChangeSpec := { name := "fnLinLooks", fn := fun _ => fun
  | [d] => { results := [.lit (.bool false)], args := [d] }
  | _ => none }
def FnLinLooksWrongFalsely : Prop := fnLinLooksRow.holds Try.pinned (OpenSpec.ofChange fnLinLooksWrong)

/-- 'laws.FnLinSwap': WHATEVER THE INPUT: true; the input reads as it did. -/
def fnLinSwapSpec : ChangeSpec := { name := "fnLinSwap", fn := fun _ => fun
  | [d1, d2] => { results := [.lit (.bool true)], args := [d1, d2] }
  | _ => none }
def fnLinSwapRow : OpenClaim := { program := "ytiooamodldgalaa", sum := "640fe1db732aea1e2521771c20520832707c4d9dfa0029ed6a70ed110d05a71d", func := "loop.example/tuggers/laws.FnLinSwap", spec := "fnLinSwap", inPlace := ["slices.overlaps[loop.example/tuggers/impl.MapEntry]", "slices.overlaps[int]"], unfollowed := true, recurses := true, apart := false }
def FnLinSwapSaid : Prop := fnLinSwapRow.holds Try.pinned (OpenSpec.ofChange fnLinSwapSpec)

/-- ITS FALSE NEIGHBOUR: 'it returns false'. Refute it at one input. -/
def fnLinSwapWrong : ChangeSpec := { name := "fnLinSwap", fn := fun _ => fun
  | [d1, d2] => { results := [.lit (.bool false)], args := [d1, d2] }
  | _ => none }
def FnLinSwapWrongFalsely : Prop := fnLinSwapRow.holds Try.pinned (OpenSpec.ofChange fnLinSwapWrong)

/- THE SECOND FORM. 'bulk': how many values and letters a reading holds, each counted each time it is reached (what is shared counts as often as it is met; a slice's spare places count too). A statement '..UptoSaid' is the law's where the arguments, and the package variables that the reading takes, are together of bulk at most 1048576: NARROWER than '..Said'. Prove '..Said' where nothing that the law and all that it calls make is longer than what came in: it says more and counts as full. Else prove '..UptoSaid'. A law counts once. -/
mutual
def uptoBulk {H : Type} : DataW H → Nat
  | .lit (.string bytes) => bytes.length + 1
  | .lit _ => 1
  | .nil => 1
  | .ptr d => uptoBulk d + 1
  | .slice elems spare => uptoBulkAll elems + uptoBulkAll spare + 1
  | .agg parts => uptoBulkAll parts + 1
  | .iface _ d => uptoBulk d + 1
  | .map entries => uptoBulkEntries entries + 1
  | .held _ => 1
def uptoBulkAll {H : Type} : List (DataW H) → Nat
  | [] => 0
  | d :: r => uptoBulk d + uptoBulkAll r
def uptoBulkEntries {H : Type} : List (Lit × DataW H) → Nat
  | [] => 0
  | x :: r => uptoBulkEntry x + uptoBulkEntries r
def uptoBulkEntry {H : Type} : Lit × DataW H → Nat
  | (.string bytes, d) => bytes.length + uptoBulk d + 1
  | (_, d) => uptoBulk d + 1
 end
def uptoSmall : (H : Type) → List (DataW H) → Bool := fun _ ds => decide (uptoBulkAll ds ≤ 1048576)
def OpenSpec.upto (s : _root_.Go.ChangeSpec) : _root_.Go.OpenSpec := { _root_.Go.OpenSpec.ofChange s with cond := some uptoSmall }

/-- 'laws.FnExactArnStack', WHERE WHAT IT READS IS OF BULK AT MOST 1048576: true; the input reads as it did. -/
def fnExactArnStackUptoRow : OpenClaim := { program := "ytiooamodldgalaa", sum := "640fe1db732aea1e2521771c20520832707c4d9dfa0029ed6a70ed110d05a71d", func := "loop.example/tuggers/laws.FnExactArnStack", spec := "fnExactArnStack", apart := false, narrowed := true }
def FnExactArnStackUptoSaid : Prop := fnExactArnStackUptoRow.holds Try.pinned (OpenSpec.upto fnExactArnStackSpec)

/-- 'laws.FnExactArnMap', WHERE WHAT IT READS IS OF BULK AT MOST 1048576: true; the input reads as it did. -/
def fnExactArnMapUptoRow : OpenClaim := { program := "ytiooamodldgalaa", sum := "640fe1db732aea1e2521771c20520832707c4d9dfa0029ed6a70ed110d05a71d", func := "loop.example/tuggers/laws.FnExactArnMap", spec := "fnExactArnMap", apart := false, narrowed := true }
def FnExactArnMapUptoSaid : Prop := fnExactArnMapUptoRow.holds Try.pinned (OpenSpec.upto fnExactArnMapSpec)

/-- 'laws.FnExactLinOf', WHERE WHAT IT READS IS OF BULK AT MOST 1048576: true; the input reads as it did. -/
def fnExactLinOfUptoRow : OpenClaim := { program := "ytiooamodldgalaa", sum := "640fe1db732aea1e2521771c20520832707c4d9dfa0029ed6a70ed110d05a71d", func := "loop.example/tuggers/laws.FnExactLinOf", spec := "fnExactLinOf", apart := false, narrowed := true }
def FnExactLinOfUptoSaid : Prop := fnExactLinOfUptoRow.holds Try.pinned (OpenSpec.upto fnExactLinOfSpec)

/-- 'laws.FnExactAudTouch', WHERE WHAT IT READS IS OF BULK AT MOST 1048576: true; the input reads as it did. -/
def fnExactAudTouchUptoRow : OpenClaim := { program := "ytiooamodldgalaa", sum := "640fe1db732aea1e2521771c20520832707c4d9dfa0029ed6a70ed110d05a71d", func := "loop.example/tuggers/laws.FnExactAudTouch", spec := "fnExactAudTouch", apart := false, narrowed := true }
def FnExactAudTouchUptoSaid : Prop := fnExactAudTouchUptoRow.holds Try.pinned (OpenSpec.upto fnExactAudTouchSpec)

/-- 'laws.FnExactAudHeld', WHERE WHAT IT READS IS OF BULK AT MOST 1048576: true; the input reads as it did. -/
def fnExactAudHeldUptoRow : OpenClaim := { program := "ytiooamodldgalaa", sum := "640fe1db732aea1e2521771c20520832707c4d9dfa0029ed6a70ed110d05a71d", func := "loop.example/tuggers/laws.FnExactAudHeld", spec := "fnExactAudHeld", apart := false, narrowed := true }
def FnExactAudHeldUptoSaid : Prop := fnExactAudHeldUptoRow.holds Try.pinned (OpenSpec.upto fnExactAudHeldSpec)

/-- 'laws.FnExactLinApply', WHERE WHAT IT READS IS OF BULK AT MOST 1048576: true; the input reads as it did. -/
def fnExactLinApplyUptoRow : OpenClaim := { program := "ytiooamodldgalaa", sum := "640fe1db732aea1e2521771c20520832707c4d9dfa0029ed6a70ed110d05a71d", func := "loop.example/tuggers/laws.FnExactLinApply", spec := "fnExactLinApply", inPlace := ["slices.overlaps[loop.example/tuggers/impl.MapEntry]", "slices.overlaps[int]"], unfollowed := true, recurses := true, apart := false, narrowed := true }
def FnExactLinApplyUptoSaid : Prop := fnExactLinApplyUptoRow.holds Try.pinned (OpenSpec.upto fnExactLinApplySpec)

/-- 'laws.FnLinApply', WHERE WHAT IT READS IS OF BULK AT MOST 1048576: true; the input reads as it did. -/
def fnLinApplyUptoRow : OpenClaim := { program := "ytiooamodldgalaa", sum := "640fe1db732aea1e2521771c20520832707c4d9dfa0029ed6a70ed110d05a71d", func := "loop.example/tuggers/laws.FnLinApply", spec := "fnLinApply", inPlace := ["slices.overlaps[loop.example/tuggers/impl.MapEntry]", "slices.overlaps[int]"], unfollowed := true, recurses := true, apart := false, narrowed := true }
def FnLinApplyUptoSaid : Prop := fnLinApplyUptoRow.holds Try.pinned (OpenSpec.upto fnLinApplySpec)

/-- 'laws.FnLinBack', WHERE WHAT IT READS IS OF BULK AT MOST 1048576: true; the input reads as it did. -/
def fnLinBackUptoRow : OpenClaim := { program := "ytiooamodldgalaa", sum := "640fe1db732aea1e2521771c20520832707c4d9dfa0029ed6a70ed110d05a71d", func := "loop.example/tuggers/laws.FnLinBack", spec := "fnLinBack", inPlace := ["slices.overlaps[loop.example/tuggers/impl.MapEntry]", "slices.overlaps[int]"], unfollowed := true, recurses := true, apart := false, narrowed := true }
def FnLinBackUptoSaid : Prop := fnLinBackUptoRow.holds Try.pinned (OpenSpec.upto fnLinBackSpec)

/-- 'laws.FnLinLooks', WHERE WHAT IT READS IS OF BULK AT MOST 1048576: true; the input reads as it did. -/
def fnLinLooksUptoRow : OpenClaim := { program := "ytiooamodldgalaa", sum := "640fe1db732aea1e2521771c20520832707c4d9dfa0029ed6a70ed110d05a71d", func := "loop.example/tuggers/laws.FnLinLooks", spec := "fnLinLooks", inPlace := ["slices.overlaps[loop.example/tuggers/impl.MapEntry]", "slices.overlaps[int]"], unfollowed := true, recurses := true, apart := false, narrowed := true }
def FnLinLooksUptoSaid : Prop := fnLinLooksUptoRow.holds Try.pinned (OpenSpec.upto fnLinLooksSpec)

/-- 'laws.FnLinSwap', WHERE WHAT IT READS IS OF BULK AT MOST 1048576: true; the input reads as it did. -/
def fnLinSwapUptoRow : OpenClaim := { program := "ytiooamodldgalaa", sum := "640fe1db732aea1e2521771c20520832707c4d9dfa0029ed6a70ed110d05a71d", func := "loop.example/tuggers/laws.FnLinSwap", spec := "fnLinSwap", inPlace := ["slices.overlaps[loop.example/tuggers/impl.MapEntry]", "slices.overlaps[int]"], unfollowed := true, recurses := true, apart := false, narrowed := true }
def FnLinSwapUptoSaid : Prop := fnLinSwapUptoRow.holds Try.pinned (OpenSpec.upto fnLinSwapSpec)

end Rows
end Go.Proofs.Ytiooamodldgalaa
