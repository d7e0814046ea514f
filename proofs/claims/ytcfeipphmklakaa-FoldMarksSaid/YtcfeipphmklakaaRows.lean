/-
  No cell of these rows narrows 'for every input' (looked for: loops, veiled, ifaces, maps, wideKeys, modest, calm, conditions, laid).
  DERIVED. THE GIVEN ROWS OF THIS SEAT. 12 by the template 'for every input the law returns true; each argument reads behind the call as it read before'; 0 by the template 'total and deterministic' (their statements: YtcfeipphmklakaaTotals.lean).
  GIVEN WITH THE SEED: the statements are not yours to turn. If you find one false, say at which input.
  Laid BY PROGRAM, IN A SANDBOX (cutbox-rows.mjs): the forced cells as the released guide's own fill.sh prints them over the translation 7b4df2f6457d6acc… (all of the seat's roots in one cut). By AI agents, Wed Nov 11 2026. No macro, syntax, notation, axiom, sorry.
-/
import Derived.Test.YtcfeipphmklakaaChecked
import GoSem.Claim
import GoSem.ClaimJoined
import GoSem.ClaimMapViews
import Derived.JoinedTies
import Derived.KernelRfl
namespace Go.Proofs.Ytcfeipphmklakaa
/- THE CELL 'sum', in the pinned program and in every row, IS THE sha256 OF THE DUMP (.gsa) THAT YtcfeipphmklakaaProg.lean LOADS. Nothing in Lean hashes anything: it is a label: what it is worth is what the hold of that sum in a sandbox is worth. -/
noncomputable def Try.pinned : Pinned := { name := "ytcfeipphmklakaa", sum := "7b4df2f6457d6acc601909a6e2f915cb1420f8a2db467cddb95d2a592e94855d", checked := Try.checked }
namespace Rows
def none {H : Type} : Left H := { results := [], args := [] }

/-- 'duodecimolaw02.FoldChecks': WHATEVER THE INPUT: true; the input reads as it did. -/
def foldChecksSpec : ChangeSpec := { name := "foldChecks", fn := fun _ => fun
  | [d1, d2] => { results := [.lit (.bool true)], args := [d1, d2] }
  | _ => none }
def foldChecksRow : OpenClaim := { program := "ytcfeipphmklakaa", sum := "7b4df2f6457d6acc601909a6e2f915cb1420f8a2db467cddb95d2a592e94855d", func := "duodecimo/duodecimolaw02.FoldChecks", spec := "foldChecks", unfollowed := true, recurses := true, plainKeys := false, apart := false }
def FoldChecksSaid : Prop := foldChecksRow.holds Try.pinned (OpenSpec.ofChange foldChecksSpec)

/-- ITS FALSE NEIGHBOUR: 'it returns false'. Refute it at one input. -/
def foldChecksWrong : ChangeSpec := { name := "foldChecks", fn := fun _ => fun
  | [d1, d2] => { results := [.lit (.bool false)], args := [d1, d2] }
  | _ => none }
def FoldChecksWrongFalsely : Prop := foldChecksRow.holds Try.pinned (OpenSpec.ofChange foldChecksWrong)

/-- 'duodecimolaw02.FoldLeaves': WHATEVER THE INPUT: true; the input reads as it did. -/
def foldLeavesSpec : ChangeSpec := { name := "foldLeaves", fn := fun _ => fun
  | [d1, d2, d3] => { results := [.lit (.bool true)], args := [d1, d2, d3] }
  | _ => none }
def foldLeavesRow : OpenClaim := { program := "ytcfeipphmklakaa", sum := "7b4df2f6457d6acc601909a6e2f915cb1420f8a2db467cddb95d2a592e94855d", func := "duodecimo/duodecimolaw02.FoldLeaves", spec := "foldLeaves", unfollowed := true, recurses := true, plainKeys := false, apart := false }
def FoldLeavesSaid : Prop := foldLeavesRow.holds Try.pinned (OpenSpec.ofChange foldLeavesSpec)

/-- ITS FALSE NEIGHBOUR: 'it returns false'. Refute it at one input. -/
def foldLeavesWrong : ChangeSpec := { name := "foldLeaves", fn := fun _ => fun
  | [d1, d2, d3] => { results := [.lit (.bool false)], args := [d1, d2, d3] }
  | _ => none }
def FoldLeavesWrongFalsely : Prop := foldLeavesRow.holds Try.pinned (OpenSpec.ofChange foldLeavesWrong)

/-- 'duodecimolaw02.FoldAgrees': WHATEVER THE INPUT: true; the input reads as it did. -/
def foldAgreesSpec : ChangeSpec := { name := "foldAgrees", fn := fun _ => fun
  | [d1, d2, d3] => { results := [.lit (.bool true)], args := [d1, d2, d3] }
  | _ => none }
def foldAgreesRow : OpenClaim := { program := "ytcfeipphmklakaa", sum := "7b4df2f6457d6acc601909a6e2f915cb1420f8a2db467cddb95d2a592e94855d", func := "duodecimo/duodecimolaw02.FoldAgrees", spec := "foldAgrees", unfollowed := true, recurses := true, plainKeys := false, apart := false }
def FoldAgreesSaid : Prop := foldAgreesRow.holds Try.pinned (OpenSpec.ofChange foldAgreesSpec)

/-- ITS FALSE NEIGHBOUR: 'it returns false'. Refute it at one input. -/
def foldAgreesWrong : ChangeSpec := { name := "foldAgrees", fn := fun _ => fun
  | [d1, d2, d3] => { results := [.lit (.bool false)], args := [d1, d2, d3] }
  | _ => none }
def FoldAgreesWrongFalsely : Prop := foldAgreesRow.holds Try.pinned (OpenSpec.ofChange foldAgreesWrong)

/-- 'duodecimolaw02.FoldKnown': WHATEVER THE INPUT: true; the input reads as it did. -/
def foldKnownSpec : ChangeSpec := { name := "foldKnown", fn := fun _ => fun
  | [] => { results := [.lit (.bool true)], args := [] }
  | _ => none }
def foldKnownRow : OpenClaim := { program := "ytcfeipphmklakaa", sum := "7b4df2f6457d6acc601909a6e2f915cb1420f8a2db467cddb95d2a592e94855d", func := "duodecimo/duodecimolaw02.FoldKnown", spec := "foldKnown", unfollowed := true, recurses := true, plainKeys := false, apart := false }
def FoldKnownSaid : Prop := foldKnownRow.holds Try.pinned (OpenSpec.ofChange foldKnownSpec)

/-- ITS FALSE NEIGHBOUR: 'it returns false'. Refute it at one input. -/
def foldKnownWrong : ChangeSpec := { name := "foldKnown", fn := fun _ => fun
  | [] => { results := [.lit (.bool false)], args := [] }
  | _ => none }
def FoldKnownWrongFalsely : Prop := foldKnownRow.holds Try.pinned (OpenSpec.ofChange foldKnownWrong)

/-- 'duodecimolaw02.FoldTrue': WHATEVER THE INPUT: true; the input reads as it did. -/
def foldTrueSpec : ChangeSpec := { name := "foldTrue", fn := fun _ => fun
  | [d1, d2, d3] => { results := [.lit (.bool true)], args := [d1, d2, d3] }
  | _ => none }
def foldTrueRow : OpenClaim := { program := "ytcfeipphmklakaa", sum := "7b4df2f6457d6acc601909a6e2f915cb1420f8a2db467cddb95d2a592e94855d", func := "duodecimo/duodecimolaw02.FoldTrue", spec := "foldTrue", unfollowed := true, recurses := true, plainKeys := false, apart := false }
def FoldTrueSaid : Prop := foldTrueRow.holds Try.pinned (OpenSpec.ofChange foldTrueSpec)

/-- ITS FALSE NEIGHBOUR: 'it returns false'. Refute it at one input. -/
def foldTrueWrong : ChangeSpec := { name := "foldTrue", fn := fun _ => fun
  | [d1, d2, d3] => { results := [.lit (.bool false)], args := [d1, d2, d3] }
  | _ => none }
def FoldTrueWrongFalsely : Prop := foldTrueRow.holds Try.pinned (OpenSpec.ofChange foldTrueWrong)

/-- 'duodecimolaw02.FoldImposed': WHATEVER THE INPUT: true; the input reads as it did. -/
def foldImposedSpec : ChangeSpec := { name := "foldImposed", fn := fun _ => fun
  | [d1, d2] => { results := [.lit (.bool true)], args := [d1, d2] }
  | _ => none }
def foldImposedRow : OpenClaim := { program := "ytcfeipphmklakaa", sum := "7b4df2f6457d6acc601909a6e2f915cb1420f8a2db467cddb95d2a592e94855d", func := "duodecimo/duodecimolaw02.FoldImposed", spec := "foldImposed", unfollowed := true, recurses := true, plainKeys := false, apart := false }
def FoldImposedSaid : Prop := foldImposedRow.holds Try.pinned (OpenSpec.ofChange foldImposedSpec)

/-- ITS FALSE NEIGHBOUR: 'it returns false'. Refute it at one input. -/
def foldImposedWrong : ChangeSpec := { name := "foldImposed", fn := fun _ => fun
  | [d1, d2] => { results := [.lit (.bool false)], args := [d1, d2] }
  | _ => none }
def FoldImposedWrongFalsely : Prop := foldImposedRow.holds Try.pinned (OpenSpec.ofChange foldImposedWrong)

/-- 'duodecimolaw02.FoldConjugate': WHATEVER THE INPUT: true; the input reads as it did. -/
def foldConjugateSpec : ChangeSpec := { name := "foldConjugate", fn := fun _ => fun
  | [d1, d2] => { results := [.lit (.bool true)], args := [d1, d2] }
  | _ => none }
def foldConjugateRow : OpenClaim := { program := "ytcfeipphmklakaa", sum := "7b4df2f6457d6acc601909a6e2f915cb1420f8a2db467cddb95d2a592e94855d", func := "duodecimo/duodecimolaw02.FoldConjugate", spec := "foldConjugate", unfollowed := true, recurses := true, plainKeys := false, apart := false }
def FoldConjugateSaid : Prop := foldConjugateRow.holds Try.pinned (OpenSpec.ofChange foldConjugateSpec)

/-- ITS FALSE NEIGHBOUR: 'it returns false'. Refute it at one input. -/
def foldConjugateWrong : ChangeSpec := { name := "foldConjugate", fn := fun _ => fun
  | [d1, d2] => { results := [.lit (.bool false)], args := [d1, d2] }
  | _ => none }
def FoldConjugateWrongFalsely : Prop := foldConjugateRow.holds Try.pinned (OpenSpec.ofChange foldConjugateWrong)

/-- 'duodecimolaw02.FoldWhole': WHATEVER THE INPUT: true; the input reads as it did. -/
def foldWholeSpec : ChangeSpec := { name := "foldWhole", fn := fun _ => fun
  | [d1, d2] => { results := [.lit (.bool true)], args := [d1, d2] }
  | _ => none }
def foldWholeRow : OpenClaim := { program := "ytcfeipphmklakaa", sum := "7b4df2f6457d6acc601909a6e2f915cb1420f8a2db467cddb95d2a592e94855d", func := "duodecimo/duodecimolaw02.FoldWhole", spec := "foldWhole", unfollowed := true, recurses := true, plainKeys := false, apart := false }
def FoldWholeSaid : Prop := foldWholeRow.holds Try.pinned (OpenSpec.ofChange foldWholeSpec)

/-- ITS FALSE NEIGHBOUR: 'it returns false'. Refute it at one input. -/
def foldWholeWrong : ChangeSpec := { name := "foldWhole", fn := fun _ => fun
  | [d1, d2] => { results := [.lit (.bool false)], args := [d1, d2] }
  | _ => none }
def FoldWholeWrongFalsely : Prop := foldWholeRow.holds Try.pinned (OpenSpec.ofChange foldWholeWrong)

/-- 'duodecimolaw02.FoldMarks': WHATEVER THE INPUT: true; the input reads as it did. -/
def foldMarksSpec : ChangeSpec := { name := "foldMarks", fn := fun _ => fun
  | [d1, d2, d3] => { results := [.lit (.bool true)], args := [d1, d2, d3] }
  | _ => none }
def foldMarksRow : OpenClaim := { program := "ytcfeipphmklakaa", sum := "7b4df2f6457d6acc601909a6e2f915cb1420f8a2db467cddb95d2a592e94855d", func := "duodecimo/duodecimolaw02.FoldMarks", spec := "foldMarks", unfollowed := true, recurses := true, plainKeys := false, apart := false }
def FoldMarksSaid : Prop := foldMarksRow.holds Try.pinned (OpenSpec.ofChange foldMarksSpec)

/-- ITS FALSE NEIGHBOUR: 'it returns false'. Refute it at one input. -/
def foldMarksWrong : ChangeSpec := { name := "foldMarks", fn := fun _ => fun
  | [d1, d2, d3] => { results := [.lit (.bool false)], args := [d1, d2, d3] }
  | _ => none }
def FoldMarksWrongFalsely : Prop := foldMarksRow.holds Try.pinned (OpenSpec.ofChange foldMarksWrong)

/-- 'duodecimolaw02.FoldMore': WHATEVER THE INPUT: true; the input reads as it did. -/
def foldMoreSpec : ChangeSpec := { name := "foldMore", fn := fun _ => fun
  | [d1, d2, d3] => { results := [.lit (.bool true)], args := [d1, d2, d3] }
  | _ => none }
def foldMoreRow : OpenClaim := { program := "ytcfeipphmklakaa", sum := "7b4df2f6457d6acc601909a6e2f915cb1420f8a2db467cddb95d2a592e94855d", func := "duodecimo/duodecimolaw02.FoldMore", spec := "foldMore", unfollowed := true, recurses := true, plainKeys := false, apart := false }
def FoldMoreSaid : Prop := foldMoreRow.holds Try.pinned (OpenSpec.ofChange foldMoreSpec)

/-- ITS FALSE NEIGHBOUR: 'it returns false'. Refute it at one input. -/
def foldMoreWrong : ChangeSpec := { name := "foldMore", fn := fun _ => fun
  | [d1, d2, d3] => { results := [.lit (.bool false)], args := [d1, d2, d3] }
  | _ => none }
def FoldMoreWrongFalsely : Prop := foldMoreRow.holds Try.pinned (OpenSpec.ofChange foldMoreWrong)

/-- 'duodecimolaw02.FoldWrong': WHATEVER THE INPUT: true; the input reads as it did. -/
def foldWrongSpec : ChangeSpec := { name := "foldWrong", fn := fun _ => fun
  | [d1, d2, d3] => { results := [.lit (.bool true)], args := [d1, d2, d3] }
  | _ => none }
def foldWrongRow : OpenClaim := { program := "ytcfeipphmklakaa", sum := "7b4df2f6457d6acc601909a6e2f915cb1420f8a2db467cddb95d2a592e94855d", func := "duodecimo/duodecimolaw02.FoldWrong", spec := "foldWrong", unfollowed := true, recurses := true, plainKeys := false, apart := false }
def FoldWrongSaid : Prop := foldWrongRow.holds Try.pinned (OpenSpec.ofChange foldWrongSpec)

/-- ITS FALSE NEIGHBOUR: 'it returns false'. Refute it at one input. -/
def foldWrongWrong : ChangeSpec := { name := "foldWrong", fn := fun _ => fun
  | [d1, d2, d3] => { results := [.lit (.bool false)], args := [d1, d2, d3] }
  | _ => none }
def FoldWrongWrongFalsely : Prop := foldWrongRow.holds Try.pinned (OpenSpec.ofChange foldWrongWrong)

/-- 'duodecimolaw02.FoldWider': WHATEVER THE INPUT: true; the input reads as it did. -/
def foldWiderSpec : ChangeSpec := { name := "foldWider", fn := fun _ => fun
  | [d1, d2, d3] => { results := [.lit (.bool true)], args := [d1, d2, d3] }
  | _ => none }
def foldWiderRow : OpenClaim := { program := "ytcfeipphmklakaa", sum := "7b4df2f6457d6acc601909a6e2f915cb1420f8a2db467cddb95d2a592e94855d", func := "duodecimo/duodecimolaw02.FoldWider", spec := "foldWider", unfollowed := true, recurses := true, plainKeys := false, apart := false }
def FoldWiderSaid : Prop := foldWiderRow.holds Try.pinned (OpenSpec.ofChange foldWiderSpec)

/-- ITS FALSE NEIGHBOUR: 'it returns false'. Refute it at one input. -/
def foldWiderWrong : ChangeSpec := { name := "foldWider", fn := fun _ => fun
  | [d1, d2, d3] => { results := [.lit (.bool false)], args := [d1, d2, d3] }
  | _ => none }
def FoldWiderWrongFalsely : Prop := foldWiderRow.holds Try.pinned (OpenSpec.ofChange foldWiderWrong)

/- THE SECOND FORM. 'bulk': how many values and letters a reading holds, each counted each time it is reached (what is shared counts as often as it is met; a slice's spare places count too). A statement '..UptoSaid' is the law's where the arguments, and the package variables that the reading takes, are together of bulk at most 1048576: NARROWER than '..Said'. Prove '..Said' where nothing that the law and all that it calls make is longer than what came in: it says more and counts as full. Else prove '..UptoSaid'. A law counts once. -/
mutual
def uptoBulk {H : Type} : DataW H → Nat
  | .lit (.string bytes) => bytes.length + 1
  | .lit _ => 1
  | .nil => 1
  | .ptr d => uptoBulk d + 1
  | .slice elems spare => uptoBulkAll elems + uptoBulkAll spare + 1
  | .agg parts => uptoBulkAll parts + 1
  | .iface _ d => uptoBulk d + 1
  | .map entries => uptoBulkEntries entries + 1
  | .held _ => 1
def uptoBulkAll {H : Type} : List (DataW H) → Nat
  | [] => 0
  | d :: r => uptoBulk d + uptoBulkAll r
def uptoBulkEntries {H : Type} : List (Lit × DataW H) → Nat
  | [] => 0
  | x :: r => uptoBulkEntry x + uptoBulkEntries r
def uptoBulkEntry {H : Type} : Lit × DataW H → Nat
  | (.string bytes, d) => bytes.length + uptoBulk d + 1
  | (_, d) => uptoBulk d + 1
 end
def uptoSmall : (H : Type) → List (DataW H) → Bool := fun _ ds => decide (uptoBulkAll ds ≤ 1048576)
def OpenSpec.upto (s : _root_.Go.ChangeSpec) : _root_.Go.OpenSpec := { _root_.Go.OpenSpec.ofChange s with cond := some uptoSmall }

/-- 'duodecimolaw02.FoldChecks', WHERE WHAT IT READS IS OF BULK AT MOST 1048576: true; the input reads as it did. -/
def foldChecksUptoRow : OpenClaim := { program := "ytcfeipphmklakaa", sum := "7b4df2f6457d6acc601909a6e2f915cb1420f8a2db467cddb95d2a592e94855d", func := "duodecimo/duodecimolaw02.FoldChecks", spec := "foldChecks", unfollowed := true, recurses := true, plainKeys := false, apart := false, narrowed := true }
def FoldChecksUptoSaid : Prop := foldChecksUptoRow.holds Try.pinned (OpenSpec.upto foldChecksSpec)

/-- 'duodecimolaw02.FoldLeaves', WHERE WHAT IT READS IS OF BULK AT MOST 1048576: true; the input reads as it did. -/
def foldLeavesUptoRow : OpenClaim := { program := "ytcfeipphmklakaa", sum := "7b4df2f6457d6acc601909a6e2f915cb1420f8a2db467cddb95d2a592e94855d", func := "duodecimo/duodecimolaw02.FoldLeaves", spec := "foldLeaves", unfollowed := true, recurses := true, plainKeys := false, apart := false, narrowed := true }
def FoldLeavesUptoSaid : Prop := foldLeavesUptoRow.holds Try.pinned (OpenSpec.upto foldLeavesSpec)

/-- 'duodecimolaw02.FoldAgrees', WHERE WHAT IT READS IS OF BULK AT MOST 1048576: true; the input reads as it did. -/
def foldAgreesUptoRow : OpenClaim := { program := "ytcfeipphmklakaa", sum := "7b4df2f6457d6acc601909a6e2f915cb1420f8a2db467cddb95d2a592e94855d", func := "duodecimo/duodecimolaw02.FoldAgrees", spec := "foldAgrees", unfollowed := true, recurses := true, plainKeys := false, apart := false, narrowed := true }
def FoldAgreesUptoSaid : Prop := foldAgreesUptoRow.holds Try.pinned (OpenSpec.upto foldAgreesSpec)

/-- 'duodecimolaw02.FoldKnown', WHERE WHAT IT READS IS OF BULK AT MOST 1048576: true; the input reads as it did. -/
def foldKnownUptoRow : OpenClaim := { program := "ytcfeipphmklakaa", sum := "7b4df2f6457d6acc601909a6e2f915cb1420f8a2db467cddb95d2a592e94855d", func := "duodecimo/duodecimolaw02.FoldKnown", spec := "foldKnown", unfollowed := true, recurses := true, plainKeys := false, apart := false, narrowed := true }
def FoldKnownUptoSaid : Prop := foldKnownUptoRow.holds Try.pinned (OpenSpec.upto foldKnownSpec)

/-- 'duodecimolaw02.FoldTrue', WHERE WHAT IT READS IS OF BULK AT MOST 1048576: true; the input reads as it did. -/
def foldTrueUptoRow : OpenClaim := { program := "ytcfeipphmklakaa", sum := "7b4df2f6457d6acc601909a6e2f915cb1420f8a2db467cddb95d2a592e94855d", func := "duodecimo/duodecimolaw02.FoldTrue", spec := "foldTrue", unfollowed := true, recurses := true, plainKeys := false, apart := false, narrowed := true }
def FoldTrueUptoSaid : Prop := foldTrueUptoRow.holds Try.pinned (OpenSpec.upto foldTrueSpec)

/-- 'duodecimolaw02.FoldImposed', WHERE WHAT IT READS IS OF BULK AT MOST 1048576: true; the input reads as it did. -/
def foldImposedUptoRow : OpenClaim := { program := "ytcfeipphmklakaa", sum := "7b4df2f6457d6acc601909a6e2f915cb1420f8a2db467cddb95d2a592e94855d", func := "duodecimo/duodecimolaw02.FoldImposed", spec := "foldImposed", unfollowed := true, recurses := true, plainKeys := false, apart := false, narrowed := true }
def FoldImposedUptoSaid : Prop := foldImposedUptoRow.holds Try.pinned (OpenSpec.upto foldImposedSpec)

/-- 'duodecimolaw02.FoldConjugate', WHERE WHAT IT READS IS OF BULK AT MOST 1048576: true; the input reads as it did. -/
def foldConjugateUptoRow : OpenClaim := { program := "ytcfeipphmklakaa", sum := "7b4df2f6457d6acc601909a6e2f915cb1420f8a2db467cddb95d2a592e94855d", func := "duodecimo/duodecimolaw02.FoldConjugate", spec := "foldConjugate", unfollowed := true, recurses := true, plainKeys := false, apart := false, narrowed := true }
def FoldConjugateUptoSaid : Prop := foldConjugateUptoRow.holds Try.pinned (OpenSpec.upto foldConjugateSpec)

/-- 'duodecimolaw02.FoldWhole', WHERE WHAT IT READS IS OF BULK AT MOST 1048576: true; the input reads as it did. -/
def foldWholeUptoRow : OpenClaim := { program := "ytcfeipphmklakaa", sum := "7b4df2f6457d6acc601909a6e2f915cb1420f8a2db467cddb95d2a592e94855d", func := "duodecimo/duodecimolaw02.FoldWhole", spec := "foldWhole", unfollowed := true, recurses := true, plainKeys := false, apart := false, narrowed := true }
def FoldWholeUptoSaid : Prop := foldWholeUptoRow.holds Try.pinned (OpenSpec.upto foldWholeSpec)

/-- 'duodecimolaw02.FoldMarks', WHERE WHAT IT READS IS OF BULK AT MOST 1048576: true; the input reads as it did. -/
def foldMarksUptoRow : OpenClaim := { program := "ytcfeipphmklakaa", sum := "7b4df2f6457d6acc601909a6e2f915cb1420f8a2db467cddb95d2a592e94855d", func := "duodecimo/duodecimolaw02.FoldMarks", spec := "foldMarks", unfollowed := true, recurses := true, plainKeys := false, apart := false, narrowed := true }
def FoldMarksUptoSaid : Prop := foldMarksUptoRow.holds Try.pinned (OpenSpec.upto foldMarksSpec)

/-- 'duodecimolaw02.FoldMore', WHERE WHAT IT READS IS OF BULK AT MOST 1048576: true; the input reads as it did. -/
def foldMoreUptoRow : OpenClaim := { program := "ytcfeipphmklakaa", sum := "7b4df2f6457d6acc601909a6e2f915cb1420f8a2db467cddb95d2a592e94855d", func := "duodecimo/duodecimolaw02.FoldMore", spec := "foldMore", unfollowed := true, recurses := true, plainKeys := false, apart := false, narrowed := true }
def FoldMoreUptoSaid : Prop := foldMoreUptoRow.holds Try.pinned (OpenSpec.upto foldMoreSpec)

/-- 'duodecimolaw02.FoldWrong', WHERE WHAT IT READS IS OF BULK AT MOST 1048576: true; the input reads as it did. -/
def foldWrongUptoRow : OpenClaim := { program := "ytcfeipphmklakaa", sum := "7b4df2f6457d6acc601909a6e2f915cb1420f8a2db467cddb95d2a592e94855d", func := "duodecimo/duodecimolaw02.FoldWrong", spec := "foldWrong", unfollowed := true, recurses := true, plainKeys := false, apart := false, narrowed := true }
def FoldWrongUptoSaid : Prop := foldWrongUptoRow.holds Try.pinned (OpenSpec.upto foldWrongSpec)

/-- 'duodecimolaw02.FoldWider', WHERE WHAT IT READS IS OF BULK AT MOST 1048576: true; the input reads as it did. -/
def foldWiderUptoRow : OpenClaim := { program := "ytcfeipphmklakaa", sum := "7b4df2f6457d6acc601909a6e2f915cb1420f8a2db467cddb95d2a592e94855d", func := "duodecimo/duodecimolaw02.FoldWider", spec := "foldWider", unfollowed := true, recurses := true, plainKeys := false, apart := false, narrowed := true }
def FoldWiderUptoSaid : Prop := foldWiderUptoRow.holds Try.pinned (OpenSpec.upto foldWiderSpec)

end Rows
end Go.Proofs.Ytcfeipphmklakaa
