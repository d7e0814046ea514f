/-
  No cell of these rows narrows 'for every input' (looked for: loops, veiled, ifaces, maps, wideKeys, modest, calm, conditions, laid).
  DERIVED. THE GIVEN ROWS OF THIS SEAT. 13 by the template 'for every input the law returns true; each argument reads behind the call as it read before'; 0 by the template 'total and deterministic' (their statements: YtiampdiobdianaaTotals.lean).
  GIVEN WITH THE SEED: the statements are not yours to turn. If you find one false, say at which input.
  Laid BY PROGRAM, IN A SANDBOX (cutbox-rows.mjs): the forced cells as the released guide's own fill.sh prints them over the translation bad9521bab08daa2… (all of the seat's roots in one cut). By AI agents, Wed Nov 11 2026. No macro, syntax, notation, axiom, sorry.
-/
import Derived.Test.YtiampdiobdianaaChecked
import GoSem.Claim
import GoSem.ClaimJoined
import GoSem.ClaimMapViews
import Derived.JoinedTies
import Derived.KernelRfl
namespace Go.Proofs.Ytiampdiobdianaa
/- THE CELL 'sum', in the pinned program and in every row, IS THE sha256 OF THE DUMP (.gsa) THAT YtiampdiobdianaaProg.lean LOADS. Nothing in Lean hashes anything: it is a label: what it is worth is what the hold of that sum in a sandbox is worth. -/
noncomputable def Try.pinned : Pinned := { name := "ytiampdiobdianaa", sum := "bad9521bab08daa27c676a56301b13030ab2e188c36e96550e91db998a00905a", checked := Try.checked }
namespace Rows
def none {H : Type} : Left H := { results := [], args := [] }

/-- 'duodecimolaw08.OwnerChains': WHATEVER THE INPUT: true; the input reads as it did. -/
def ownerChainsSpec : ChangeSpec := { name := "ownerChains", fn := fun _ => fun
  | [d1, d2] => { results := [.lit (.bool true)], args := [d1, d2] }
  | _ => none }
def ownerChainsRow : OpenClaim := { program := "ytiampdiobdianaa", sum := "bad9521bab08daa27c676a56301b13030ab2e188c36e96550e91db998a00905a", func := "duodecimo/duodecimolaw08.OwnerChains", spec := "ownerChains", unfollowed := true, recurses := true, apart := false }
def OwnerChainsSaid : Prop := ownerChainsRow.holds Try.pinned (OpenSpec.ofChange ownerChainsSpec)

/-- ITS FALSE NEIGHBOUR: 'it returns false'. Refute it at one input. -/
def ownerChainsWrong : ChangeSpec := { name := "ownerChains", fn := fun _ => fun
  | [d1, d2] => { results := [.lit (.bool false)], args := [d1, d2] }
  | _ => none }
def OwnerChainsWrongFalsely : Prop := ownerChainsRow.holds Try.pinned (OpenSpec.ofChange ownerChainsWrong)

/-- 'duodecimolaw08.OwnerYears': WHATEVER THE INPUT: true; the input reads as it did. -/
def ownerYearsSpec : ChangeSpec := { name := "ownerYears", fn := fun _ => fun
  | [d1, d2] => { results := [.lit (.bool true)], args := [d1, d2] }
  | _ => none }
def ownerYearsRow : OpenClaim := { program := "ytiampdiobdianaa", sum := "bad9521bab08daa27c676a56301b13030ab2e188c36e96550e91db998a00905a", func := "duodecimo/duodecimolaw08.OwnerYears", spec := "ownerYears", unfollowed := true, recurses := true, apart := false }
def OwnerYearsSaid : Prop := ownerYearsRow.holds Try.pinned (OpenSpec.ofChange ownerYearsSpec)

/-- ITS FALSE NEIGHBOUR: 'it returns false'. Refute it at one input. -/
def ownerYearsWrong : ChangeSpec := { name := "ownerYears", fn := fun _ => fun
  | [d1, d2] => { results := [.lit (.bool false)], args := [d1, d2] }
  | _ => none }
def OwnerYearsWrongFalsely : Prop := ownerYearsRow.holds Try.pinned (OpenSpec.ofChange ownerYearsWrong)

/-- 'duodecimolaw08.OwnerTwo': WHATEVER THE INPUT: true; the input reads as it did. -/
def ownerTwoSpec : ChangeSpec := { name := "ownerTwo", fn := fun _ => fun
  | [d1, d2, d3] => { results := [.lit (.bool true)], args := [d1, d2, d3] }
  | _ => none }
def ownerTwoRow : OpenClaim := { program := "ytiampdiobdianaa", sum := "bad9521bab08daa27c676a56301b13030ab2e188c36e96550e91db998a00905a", func := "duodecimo/duodecimolaw08.OwnerTwo", spec := "ownerTwo", unfollowed := true, recurses := true, apart := false }
def OwnerTwoSaid : Prop := ownerTwoRow.holds Try.pinned (OpenSpec.ofChange ownerTwoSpec)

/-- ITS FALSE NEIGHBOUR: 'it returns false'. Refute it at one input. -/
def ownerTwoWrong : ChangeSpec := { name := "ownerTwo", fn := fun _ => fun
  | [d1, d2, d3] => { results := [.lit (.bool false)], args := [d1, d2, d3] }
  | _ => none }
def OwnerTwoWrongFalsely : Prop := ownerTwoRow.holds Try.pinned (OpenSpec.ofChange ownerTwoWrong)

/-- 'duodecimolaw08.OwnerKnown': WHATEVER THE INPUT: true; the input reads as it did. -/
def ownerKnownSpec : ChangeSpec := { name := "ownerKnown", fn := fun _ => fun
  | [] => { results := [.lit (.bool true)], args := [] }
  | _ => none }
def ownerKnownRow : OpenClaim := { program := "ytiampdiobdianaa", sum := "bad9521bab08daa27c676a56301b13030ab2e188c36e96550e91db998a00905a", func := "duodecimo/duodecimolaw08.OwnerKnown", spec := "ownerKnown", unfollowed := true, recurses := true, apart := false }
def OwnerKnownSaid : Prop := ownerKnownRow.holds Try.pinned (OpenSpec.ofChange ownerKnownSpec)

/-- ITS FALSE NEIGHBOUR: 'it returns false'. Refute it at one input. -/
def ownerKnownWrong : ChangeSpec := { name := "ownerKnown", fn := fun _ => fun
  | [] => { results := [.lit (.bool false)], args := [] }
  | _ => none }
def OwnerKnownWrongFalsely : Prop := ownerKnownRow.holds Try.pinned (OpenSpec.ofChange ownerKnownWrong)

/-- 'duodecimolaw08.OwnerAlone': WHATEVER THE INPUT: true; the input reads as it did. -/
def ownerAloneSpec : ChangeSpec := { name := "ownerAlone", fn := fun _ => fun
  | [d] => { results := [.lit (.bool true)], args := [d] }
  | _ => none }
def ownerAloneRow : OpenClaim := { program := "ytiampdiobdianaa", sum := "bad9521bab08daa27c676a56301b13030ab2e188c36e96550e91db998a00905a", func := "duodecimo/duodecimolaw08.OwnerAlone", spec := "ownerAlone", unfollowed := true, recurses := true, apart := false }
def OwnerAloneSaid : Prop := ownerAloneRow.holds Try.pinned (OpenSpec.ofChange ownerAloneSpec)

/-- ITS FALSE NEIGHBOUR: 'it returns false'. Refute it at one input. -/
def ownerAloneWrong : ChangeSpec := { name := "ownerAlone", fn := fun _ => fun
  | [d] => { results := [.lit (.bool false)], args := [d] }
  | _ => none }
def OwnerAloneWrongFalsely : Prop := ownerAloneRow.holds Try.pinned (OpenSpec.ofChange ownerAloneWrong)

/-- 'duodecimolaw08.OwnerFewest': WHATEVER THE INPUT: true; the input reads as it did. -/
def ownerFewestSpec : ChangeSpec := { name := "ownerFewest", fn := fun _ => fun
  | [d1, d2] => { results := [.lit (.bool true)], args := [d1, d2] }
  | _ => none }
def ownerFewestRow : OpenClaim := { program := "ytiampdiobdianaa", sum := "bad9521bab08daa27c676a56301b13030ab2e188c36e96550e91db998a00905a", func := "duodecimo/duodecimolaw08.OwnerFewest", spec := "ownerFewest", unfollowed := true, recurses := true, apart := false }
def OwnerFewestSaid : Prop := ownerFewestRow.holds Try.pinned (OpenSpec.ofChange ownerFewestSpec)

/-- ITS FALSE NEIGHBOUR: 'it returns false'. Refute it at one input. -/
def ownerFewestWrong : ChangeSpec := { name := "ownerFewest", fn := fun _ => fun
  | [d1, d2] => { results := [.lit (.bool false)], args := [d1, d2] }
  | _ => none }
def OwnerFewestWrongFalsely : Prop := ownerFewestRow.holds Try.pinned (OpenSpec.ofChange ownerFewestWrong)

/-- 'duodecimolaw08.OwnerTrue': WHATEVER THE INPUT: true; the input reads as it did. -/
def ownerTrueSpec : ChangeSpec := { name := "ownerTrue", fn := fun _ => fun
  | [d1, d2, d3] => { results := [.lit (.bool true)], args := [d1, d2, d3] }
  | _ => none }
def ownerTrueRow : OpenClaim := { program := "ytiampdiobdianaa", sum := "bad9521bab08daa27c676a56301b13030ab2e188c36e96550e91db998a00905a", func := "duodecimo/duodecimolaw08.OwnerTrue", spec := "ownerTrue", unfollowed := true, recurses := true, apart := false }
def OwnerTrueSaid : Prop := ownerTrueRow.holds Try.pinned (OpenSpec.ofChange ownerTrueSpec)

/-- ITS FALSE NEIGHBOUR: 'it returns false'. Refute it at one input. -/
def ownerTrueWrong : ChangeSpec := { name := "ownerTrue", fn := fun _ => fun
  | [d1, d2, d3] => { results := [.lit (.bool false)], args := [d1, d2, d3] }
  | _ => none }
def OwnerTrueWrongFalsely : Prop := ownerTrueRow.holds Try.pinned (OpenSpec.ofChange ownerTrueWrong)

/-- 'duodecimolaw08.OwnerReached': WHATEVER THE INPUT: true; the input reads as it did. -/
def ownerReachedSpec : ChangeSpec := { name := "ownerReached", fn := fun _ => fun
  | [d1, d2] => { results := [.lit (.bool true)], args := [d1, d2] }
  | _ => none }
def ownerReachedRow : OpenClaim := { program := "ytiampdiobdianaa", sum := "bad9521bab08daa27c676a56301b13030ab2e188c36e96550e91db998a00905a", func := "duodecimo/duodecimolaw08.OwnerReached", spec := "ownerReached", unfollowed := true, recurses := true, apart := false }
def OwnerReachedSaid : Prop := ownerReachedRow.holds Try.pinned (OpenSpec.ofChange ownerReachedSpec)

/-- ITS FALSE NEIGHBOUR: 'it returns false'. Refute it at one input. -/
def ownerReachedWrong : ChangeSpec := { name := "ownerReached", fn := fun _ => fun
  | [d1, d2] => { results := [.lit (.bool false)], args := [d1, d2] }
  | _ => none }
def OwnerReachedWrongFalsely : Prop := ownerReachedRow.holds Try.pinned (OpenSpec.ofChange ownerReachedWrong)

/-- 'duodecimolaw08.OwnerForged': WHATEVER THE INPUT: true; the input reads as it did. -/
def ownerForgedSpec : ChangeSpec := { name := "ownerForged", fn := fun _ => fun
  | [d1, d2, d3] => { results := [.lit (.bool true)], args := [d1, d2, d3] }
  | _ => none }
def ownerForgedRow : OpenClaim := { program := "ytiampdiobdianaa", sum := "bad9521bab08daa27c676a56301b13030ab2e188c36e96550e91db998a00905a", func := "duodecimo/duodecimolaw08.OwnerForged", spec := "ownerForged", unfollowed := true, recurses := true, apart := false }
def OwnerForgedSaid : Prop := ownerForgedRow.holds Try.pinned (OpenSpec.ofChange ownerForgedSpec)

/-- ITS FALSE NEIGHBOUR: 'it returns false'. Refute it at one input. -/
def ownerForgedWrong : ChangeSpec := { name := "ownerForged", fn := fun _ => fun
  | [d1, d2, d3] => { results := [.lit (.bool false)], args := [d1, d2, d3] }
  | _ => none }
def OwnerForgedWrongFalsely : Prop := ownerForgedRow.holds Try.pinned (OpenSpec.ofChange ownerForgedWrong)

/-- 'duodecimolaw08.OwnerBefore': WHATEVER THE INPUT: true; the input reads as it did. -/
def ownerBeforeSpec : ChangeSpec := { name := "ownerBefore", fn := fun _ => fun
  | [d1, d2] => { results := [.lit (.bool true)], args := [d1, d2] }
  | _ => none }
def ownerBeforeRow : OpenClaim := { program := "ytiampdiobdianaa", sum := "bad9521bab08daa27c676a56301b13030ab2e188c36e96550e91db998a00905a", func := "duodecimo/duodecimolaw08.OwnerBefore", spec := "ownerBefore", unfollowed := true, recurses := true, apart := false }
def OwnerBeforeSaid : Prop := ownerBeforeRow.holds Try.pinned (OpenSpec.ofChange ownerBeforeSpec)

/-- ITS FALSE NEIGHBOUR: 'it returns false'. Refute it at one input. -/
def ownerBeforeWrong : ChangeSpec := { name := "ownerBefore", fn := fun _ => fun
  | [d1, d2] => { results := [.lit (.bool false)], args := [d1, d2] }
  | _ => none }
def OwnerBeforeWrongFalsely : Prop := ownerBeforeRow.holds Try.pinned (OpenSpec.ofChange ownerBeforeWrong)

/-- 'duodecimolaw08.OwnerMore': WHATEVER THE INPUT: true; the input reads as it did. -/
def ownerMoreSpec : ChangeSpec := { name := "ownerMore", fn := fun _ => fun
  | [d1, d2, d3] => { results := [.lit (.bool true)], args := [d1, d2, d3] }
  | _ => none }
def ownerMoreRow : OpenClaim := { program := "ytiampdiobdianaa", sum := "bad9521bab08daa27c676a56301b13030ab2e188c36e96550e91db998a00905a", func := "duodecimo/duodecimolaw08.OwnerMore", spec := "ownerMore", unfollowed := true, recurses := true, apart := false }
def OwnerMoreSaid : Prop := ownerMoreRow.holds Try.pinned (OpenSpec.ofChange ownerMoreSpec)

/-- ITS FALSE NEIGHBOUR: 'it returns false'. Refute it at one input. -/
def ownerMoreWrong : ChangeSpec := { name := "ownerMore", fn := fun _ => fun
  | [d1, d2, d3] => { results := [.lit (.bool false)], args := [d1, d2, d3] }
  | _ => none }
def OwnerMoreWrongFalsely : Prop := ownerMoreRow.holds Try.pinned (OpenSpec.ofChange ownerMoreWrong)

/-- 'duodecimolaw08.OwnerLonger': WHATEVER THE INPUT: true; the input reads as it did. -/
def ownerLongerSpec : ChangeSpec := { name := "ownerLonger", fn := fun _ => fun
  | [d1, d2] => { results := [.lit (.bool true)], args := [d1, d2] }
  | _ => none }
def ownerLongerRow : OpenClaim := { program := "ytiampdiobdianaa", sum := "bad9521bab08daa27c676a56301b13030ab2e188c36e96550e91db998a00905a", func := "duodecimo/duodecimolaw08.OwnerLonger", spec := "ownerLonger", unfollowed := true, recurses := true, apart := false }
def OwnerLongerSaid : Prop := ownerLongerRow.holds Try.pinned (OpenSpec.ofChange ownerLongerSpec)

/-- ITS FALSE NEIGHBOUR: 'it returns false'. Refute it at one input. -/
def ownerLongerWrong : ChangeSpec := { name := "ownerLonger", fn := fun _ => fun
  | [d1, d2] => { results := [.lit (.bool false)], args := [d1, d2] }
  | _ => none }
def OwnerLongerWrongFalsely : Prop := ownerLongerRow.holds Try.pinned (OpenSpec.ofChange ownerLongerWrong)

/-- 'duodecimolaw08.OwnerTurned': WHATEVER THE INPUT: true; the input reads as it did. -/
def ownerTurnedSpec : ChangeSpec := { name := "ownerTurned", fn := fun _ => fun
  | [d1, d2] => { results := [.lit (.bool true)], args := [d1, d2] }
  | _ => none }
def ownerTurnedRow : OpenClaim := { program := "ytiampdiobdianaa", sum := "bad9521bab08daa27c676a56301b13030ab2e188c36e96550e91db998a00905a", func := "duodecimo/duodecimolaw08.OwnerTurned", spec := "ownerTurned", unfollowed := true, recurses := true, apart := false }
def OwnerTurnedSaid : Prop := ownerTurnedRow.holds Try.pinned (OpenSpec.ofChange ownerTurnedSpec)

/-- ITS FALSE NEIGHBOUR: 'it returns false'. Refute it at one input. -/
def ownerTurnedWrong : ChangeSpec := { name := "ownerTurned", fn := fun _ => fun
  | [d1, d2] => { results := [.lit (.bool false)], args := [d1, d2] }
  | _ => none }
def OwnerTurnedWrongFalsely : Prop := ownerTurnedRow.holds Try.pinned (OpenSpec.ofChange ownerTurnedWrong)

/- THE SECOND FORM. 'bulk': how many values and letters a reading holds, each counted each time it is reached (what is shared counts as often as it is met; a slice's spare places count too). A statement '..UptoSaid' is the law's where the arguments, and the package variables that the reading takes, are together of bulk at most 1048576: NARROWER than '..Said'. Prove '..Said' where nothing that the law and all that it calls make is longer than what came in: it says more and counts as full. Else prove '..UptoSaid'. A law counts once. -/
mutual
def uptoBulk {H : Type} : DataW H → Nat
  | .lit (.string bytes) => bytes.length + 1
  | .lit _ => 1
  | .nil => 1
  | .ptr d => uptoBulk d + 1
  | .slice elems spare => uptoBulkAll elems + uptoBulkAll spare + 1
  | .agg parts => uptoBulkAll parts + 1
  | .iface _ d => uptoBulk d + 1
  | .map entries => uptoBulkEntries entries + 1
  | .held _ => 1
def uptoBulkAll {H : Type} : List (DataW H) → Nat
  | [] => 0
  | d :: r => uptoBulk d + uptoBulkAll r
def uptoBulkEntries {H : Type} : List (Lit × DataW H) → Nat
  | [] => 0
  | x :: r => uptoBulkEntry x + uptoBulkEntries r
def uptoBulkEntry {H : Type} : Lit × DataW H → Nat
  | (.string bytes, d) => bytes.length + uptoBulk d + 1
  | (_, d) => uptoBulk d + 1
 end
def uptoSmall : (H : Type) → List (DataW H) → Bool := fun _ ds => decide (uptoBulkAll ds ≤ 1048576)
def OpenSpec.upto (s : _root_.Go.ChangeSpec) : _root_.Go.OpenSpec := { _root_.Go.OpenSpec.ofChange s with cond := some uptoSmall }

/-- 'duodecimolaw08.OwnerChains', WHERE WHAT IT READS IS OF BULK AT MOST 1048576: true; the input reads as it did. -/
def ownerChainsUptoRow : OpenClaim := { program := "ytiampdiobdianaa", sum := "bad9521bab08daa27c676a56301b13030ab2e188c36e96550e91db998a00905a", func := "duodecimo/duodecimolaw08.OwnerChains", spec := "ownerChains", unfollowed := true, recurses := true, apart := false, narrowed := true }
def OwnerChainsUptoSaid : Prop := ownerChainsUptoRow.holds Try.pinned (OpenSpec.upto ownerChainsSpec)

/-- 'duodecimolaw08.OwnerYears', WHERE WHAT IT READS IS OF BULK AT MOST 1048576: true; the input reads as it did. -/
def ownerYearsUptoRow : OpenClaim := { program := "ytiampdiobdianaa", sum := "bad9521bab08daa27c676a56301b13030ab2e188c36e96550e91db998a00905a", func := "duodecimo/duodecimolaw08.OwnerYears", spec := "ownerYears", unfollowed := true, recurses := true, apart := false, narrowed := true }
def OwnerYearsUptoSaid : Prop := ownerYearsUptoRow.holds Try.pinned (OpenSpec.upto ownerYearsSpec)

/-- 'duodecimolaw08.OwnerTwo', WHERE WHAT IT READS IS OF BULK AT MOST 1048576: true; the input reads as it did. -/
def ownerTwoUptoRow : OpenClaim := { program := "ytiampdiobdianaa", sum := "bad9521bab08daa27c676a56301b13030ab2e188c36e96550e91db998a00905a", func := "duodecimo/duodecimolaw08.OwnerTwo", spec := "ownerTwo", unfollowed := true, recurses := true, apart := false, narrowed := true }
def OwnerTwoUptoSaid : Prop := ownerTwoUptoRow.holds Try.pinned (OpenSpec.upto ownerTwoSpec)

/-- 'duodecimolaw08.OwnerKnown', WHERE WHAT IT READS IS OF BULK AT MOST 1048576: true; the input reads as it did. -/
def ownerKnownUptoRow : OpenClaim := { program := "ytiampdiobdianaa", sum := "bad9521bab08daa27c676a56301b13030ab2e188c36e96550e91db998a00905a", func := "duodecimo/duodecimolaw08.OwnerKnown", spec := "ownerKnown", unfollowed := true, recurses := true, apart := false, narrowed := true }
def OwnerKnownUptoSaid : Prop := ownerKnownUptoRow.holds Try.pinned (OpenSpec.upto ownerKnownSpec)

/-- 'duodecimolaw08.OwnerAlone', WHERE WHAT IT READS IS OF BULK AT MOST 1048576: true; the input reads as it did. -/
def ownerAloneUptoRow : OpenClaim := { program := "ytiampdiobdianaa", sum := "bad9521bab08daa27c676a56301b13030ab2e188c36e96550e91db998a00905a", func := "duodecimo/duodecimolaw08.OwnerAlone", spec := "ownerAlone", unfollowed := true, recurses := true, apart := false, narrowed := true }
def OwnerAloneUptoSaid : Prop := ownerAloneUptoRow.holds Try.pinned (OpenSpec.upto ownerAloneSpec)

/-- 'duodecimolaw08.OwnerFewest', WHERE WHAT IT READS IS OF BULK AT MOST 1048576: true; the input reads as it did. -/
def ownerFewestUptoRow : OpenClaim := { program := "ytiampdiobdianaa", sum := "bad9521bab08daa27c676a56301b13030ab2e188c36e96550e91db998a00905a", func := "duodecimo/duodecimolaw08.OwnerFewest", spec := "ownerFewest", unfollowed := true, recurses := true, apart := false, narrowed := true }
def OwnerFewestUptoSaid : Prop := ownerFewestUptoRow.holds Try.pinned (OpenSpec.upto ownerFewestSpec)

/-- 'duodecimolaw08.OwnerTrue', WHERE WHAT IT READS IS OF BULK AT MOST 1048576: true; the input reads as it did. -/
def ownerTrueUptoRow : OpenClaim := { program := "ytiampdiobdianaa", sum := "bad9521bab08daa27c676a56301b13030ab2e188c36e96550e91db998a00905a", func := "duodecimo/duodecimolaw08.OwnerTrue", spec := "ownerTrue", unfollowed := true, recurses := true, apart := false, narrowed := true }
def OwnerTrueUptoSaid : Prop := ownerTrueUptoRow.holds Try.pinned (OpenSpec.upto ownerTrueSpec)

/-- 'duodecimolaw08.OwnerReached', WHERE WHAT IT READS IS OF BULK AT MOST 1048576: true; the input reads as it did. -/
def ownerReachedUptoRow : OpenClaim := { program := "ytiampdiobdianaa", sum := "bad9521bab08daa27c676a56301b13030ab2e188c36e96550e91db998a00905a", func := "duodecimo/duodecimolaw08.OwnerReached", spec := "ownerReached", unfollowed := true, recurses := true, apart := false, narrowed := true }
def OwnerReachedUptoSaid : Prop := ownerReachedUptoRow.holds Try.pinned (OpenSpec.upto ownerReachedSpec)

/-- 'duodecimolaw08.OwnerForged', WHERE WHAT IT READS IS OF BULK AT MOST 1048576: true; the input reads as it did. -/
def ownerForgedUptoRow : OpenClaim := { program := "ytiampdiobdianaa", sum := "bad9521bab08daa27c676a56301b13030ab2e188c36e96550e91db998a00905a", func := "duodecimo/duodecimolaw08.OwnerForged", spec := "ownerForged", unfollowed := true, recurses := true, apart := false, narrowed := true }
def OwnerForgedUptoSaid : Prop := ownerForgedUptoRow.holds Try.pinned (OpenSpec.upto ownerForgedSpec)

/-- 'duodecimolaw08.OwnerBefore', WHERE WHAT IT READS IS OF BULK AT MOST 1048576: true; the input reads as it did. -/
def ownerBeforeUptoRow : OpenClaim := { program := "ytiampdiobdianaa", sum := "bad9521bab08daa27c676a56301b13030ab2e188c36e96550e91db998a00905a", func := "duodecimo/duodecimolaw08.OwnerBefore", spec := "ownerBefore", unfollowed := true, recurses := true, apart := false, narrowed := true }
def OwnerBeforeUptoSaid : Prop := ownerBeforeUptoRow.holds Try.pinned (OpenSpec.upto ownerBeforeSpec)

/-- 'duodecimolaw08.OwnerMore', WHERE WHAT IT READS IS OF BULK AT MOST 1048576: true; the input reads as it did. -/
def ownerMoreUptoRow : OpenClaim := { program := "ytiampdiobdianaa", sum := "bad9521bab08daa27c676a56301b13030ab2e188c36e96550e91db998a00905a", func := "duodecimo/duodecimolaw08.OwnerMore", spec := "ownerMore", unfollowed := true, recurses := true, apart := false, narrowed := true }
def OwnerMoreUptoSaid : Prop := ownerMoreUptoRow.holds Try.pinned (OpenSpec.upto ownerMoreSpec)

/-- 'duodecimolaw08.OwnerLonger', WHERE WHAT IT READS IS OF BULK AT MOST 1048576: true; the input reads as it did. -/
def ownerLongerUptoRow : OpenClaim := { program := "ytiampdiobdianaa", sum := "bad9521bab08daa27c676a56301b13030ab2e188c36e96550e91db998a00905a", func := "duodecimo/duodecimolaw08.OwnerLonger", spec := "ownerLonger", unfollowed := true, recurses := true, apart := false, narrowed := true }
def OwnerLongerUptoSaid : Prop := ownerLongerUptoRow.holds Try.pinned (OpenSpec.upto ownerLongerSpec)

/-- 'duodecimolaw08.OwnerTurned', WHERE WHAT IT READS IS OF BULK AT MOST 1048576: true; the input reads as it did. -/
def ownerTurnedUptoRow : OpenClaim := { program := "ytiampdiobdianaa", sum := "bad9521bab08daa27c676a56301b13030ab2e188c36e96550e91db998a00905a", func := "duodecimo/duodecimolaw08.OwnerTurned", spec := "ownerTurned", unfollowed := true, recurses := true, apart := false, narrowed := true }
def OwnerTurnedUptoSaid : Prop := ownerTurnedUptoRow.holds Try.pinned (OpenSpec.upto ownerTurnedSpec)

end Rows
end Go.Proofs.Ytiampdiobdianaa
