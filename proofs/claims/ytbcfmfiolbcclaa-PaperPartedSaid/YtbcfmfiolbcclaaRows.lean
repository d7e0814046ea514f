/-
  No cell of these rows narrows 'for every input' (looked for: loops, veiled, ifaces, maps, wideKeys, modest, calm, conditions, laid).
  DERIVED. THE GIVEN ROWS OF THIS SEAT. 12 by the template 'for every input the law returns true; each argument reads behind the call as it read before'; 0 by the template 'total and deterministic' (their statements: YtbcfmfiolbcclaaTotals.lean).
  GIVEN WITH THE SEED: the statements are not yours to turn. If you find one false, say at which input.
  Laid BY PROGRAM, IN A SANDBOX (cutbox-rows.mjs): the forced cells as the released guide's own fill.sh prints them over the translation 9e05313fd257b660… (all of the seat's roots in one cut). By AI agents, Wed Nov 11 2026. No macro, syntax, notation, axiom, sorry.
-/
import Derived.Test.YtbcfmfiolbcclaaChecked
import GoSem.Claim
import GoSem.ClaimJoined
import GoSem.ClaimMapViews
import Derived.JoinedTies
import Derived.KernelRfl
namespace Go.Proofs.Ytbcfmfiolbcclaa
/- THE CELL 'sum', in the pinned program and in every row, IS THE sha256 OF THE DUMP (.gsa) THAT YtbcfmfiolbcclaaProg.lean LOADS. Nothing in Lean hashes anything: it is a label: what it is worth is what the hold of that sum in a sandbox is worth. -/
noncomputable def Try.pinned : Pinned := { name := "ytbcfmfiolbcclaa", sum := "9e05313fd257b6608e43a7e25f1f6c6f7dba9a4dfdb032d65827aff411091168", checked := Try.checked }
namespace Rows
def none {H : Type} : Left H := { results := [], args := [] }

/-- 'duodecimolaw06.PaperOrders': WHATEVER THE INPUT: true; the input reads as it did. -/
def paperOrdersSpec : ChangeSpec := { name := "paperOrders", fn := fun _ => fun
  | [d1, d2] => { results := [.lit (.bool true)], args := [d1, d2] }
  | _ => none }
def paperOrdersRow : OpenClaim := { program := "ytbcfmfiolbcclaa", sum := "9e05313fd257b6608e43a7e25f1f6c6f7dba9a4dfdb032d65827aff411091168", func := "duodecimo/duodecimolaw06.PaperOrders", spec := "paperOrders", unfollowed := true, recurses := true, plainKeys := false, apart := false }
def PaperOrdersSaid : Prop := paperOrdersRow.holds Try.pinned (OpenSpec.ofChange paperOrdersSpec)

/-- ITS FALSE NEIGHBOUR: 'it returns false'. Refute it at one input. -/
def paperOrdersWrong : ChangeSpec := { name := "paperOrders", fn := fun _ => fun
  | [d1, d2] => { results := [.lit (.bool false)], args := [d1, d2] }
  | _ => none }
def PaperOrdersWrongFalsely : Prop := paperOrdersRow.holds Try.pinned (OpenSpec.ofChange paperOrdersWrong)

/-- 'duodecimolaw06.PaperStocks': WHATEVER THE INPUT: true; the input reads as it did. -/
def paperStocksSpec : ChangeSpec := { name := "paperStocks", fn := fun _ => fun
  | [d1, d2] => { results := [.lit (.bool true)], args := [d1, d2] }
  | _ => none }
def paperStocksRow : OpenClaim := { program := "ytbcfmfiolbcclaa", sum := "9e05313fd257b6608e43a7e25f1f6c6f7dba9a4dfdb032d65827aff411091168", func := "duodecimo/duodecimolaw06.PaperStocks", spec := "paperStocks", unfollowed := true, recurses := true, plainKeys := false, apart := false }
def PaperStocksSaid : Prop := paperStocksRow.holds Try.pinned (OpenSpec.ofChange paperStocksSpec)

/-- ITS FALSE NEIGHBOUR: 'it returns false'. Refute it at one input. -/
def paperStocksWrong : ChangeSpec := { name := "paperStocks", fn := fun _ => fun
  | [d1, d2] => { results := [.lit (.bool false)], args := [d1, d2] }
  | _ => none }
def PaperStocksWrongFalsely : Prop := paperStocksRow.holds Try.pinned (OpenSpec.ofChange paperStocksWrong)

/-- 'duodecimolaw06.PaperWrongs': WHATEVER THE INPUT: true; the input reads as it did. -/
def paperWrongsSpec : ChangeSpec := { name := "paperWrongs", fn := fun _ => fun
  | [d] => { results := [.lit (.bool true)], args := [d] }
  | _ => none }
def paperWrongsRow : OpenClaim := { program := "ytbcfmfiolbcclaa", sum := "9e05313fd257b6608e43a7e25f1f6c6f7dba9a4dfdb032d65827aff411091168", func := "duodecimo/duodecimolaw06.PaperWrongs", spec := "paperWrongs", unfollowed := true, recurses := true, plainKeys := false, apart := false }
def PaperWrongsSaid : Prop := paperWrongsRow.holds Try.pinned (OpenSpec.ofChange paperWrongsSpec)

/-- ITS FALSE NEIGHBOUR: 'it returns false'. Refute it at one input. -/
def paperWrongsWrong : ChangeSpec := { name := "paperWrongs", fn := fun _ => fun
  | [d] => { results := [.lit (.bool false)], args := [d] }
  | _ => none }
def PaperWrongsWrongFalsely : Prop := paperWrongsRow.holds Try.pinned (OpenSpec.ofChange paperWrongsWrong)

/-- 'duodecimolaw06.PaperKnown': WHATEVER THE INPUT: true; the input reads as it did. -/
def paperKnownSpec : ChangeSpec := { name := "paperKnown", fn := fun _ => fun
  | [] => { results := [.lit (.bool true)], args := [] }
  | _ => none }
def paperKnownRow : OpenClaim := { program := "ytbcfmfiolbcclaa", sum := "9e05313fd257b6608e43a7e25f1f6c6f7dba9a4dfdb032d65827aff411091168", func := "duodecimo/duodecimolaw06.PaperKnown", spec := "paperKnown", unfollowed := true, recurses := true, plainKeys := false, apart := false }
def PaperKnownSaid : Prop := paperKnownRow.holds Try.pinned (OpenSpec.ofChange paperKnownSpec)

/-- ITS FALSE NEIGHBOUR: 'it returns false'. Refute it at one input. -/
def paperKnownWrong : ChangeSpec := { name := "paperKnown", fn := fun _ => fun
  | [] => { results := [.lit (.bool false)], args := [] }
  | _ => none }
def PaperKnownWrongFalsely : Prop := paperKnownRow.holds Try.pinned (OpenSpec.ofChange paperKnownWrong)

/-- 'duodecimolaw06.PaperTrue': WHATEVER THE INPUT: true; the input reads as it did. -/
def paperTrueSpec : ChangeSpec := { name := "paperTrue", fn := fun _ => fun
  | [d1, d2] => { results := [.lit (.bool true)], args := [d1, d2] }
  | _ => none }
def paperTrueRow : OpenClaim := { program := "ytbcfmfiolbcclaa", sum := "9e05313fd257b6608e43a7e25f1f6c6f7dba9a4dfdb032d65827aff411091168", func := "duodecimo/duodecimolaw06.PaperTrue", spec := "paperTrue", unfollowed := true, recurses := true, plainKeys := false, apart := false }
def PaperTrueSaid : Prop := paperTrueRow.holds Try.pinned (OpenSpec.ofChange paperTrueSpec)

/-- ITS FALSE NEIGHBOUR: 'it returns false'. Refute it at one input. -/
def paperTrueWrong : ChangeSpec := { name := "paperTrue", fn := fun _ => fun
  | [d1, d2] => { results := [.lit (.bool false)], args := [d1, d2] }
  | _ => none }
def PaperTrueWrongFalsely : Prop := paperTrueRow.holds Try.pinned (OpenSpec.ofChange paperTrueWrong)

/-- 'duodecimolaw06.PaperFewest': WHATEVER THE INPUT: true; the input reads as it did. -/
def paperFewestSpec : ChangeSpec := { name := "paperFewest", fn := fun _ => fun
  | [d1, d2, d3] => { results := [.lit (.bool true)], args := [d1, d2, d3] }
  | _ => none }
def paperFewestRow : OpenClaim := { program := "ytbcfmfiolbcclaa", sum := "9e05313fd257b6608e43a7e25f1f6c6f7dba9a4dfdb032d65827aff411091168", func := "duodecimo/duodecimolaw06.PaperFewest", spec := "paperFewest", unfollowed := true, recurses := true, plainKeys := false, apart := false }
def PaperFewestSaid : Prop := paperFewestRow.holds Try.pinned (OpenSpec.ofChange paperFewestSpec)

/-- ITS FALSE NEIGHBOUR: 'it returns false'. Refute it at one input. -/
def paperFewestWrong : ChangeSpec := { name := "paperFewest", fn := fun _ => fun
  | [d1, d2, d3] => { results := [.lit (.bool false)], args := [d1, d2, d3] }
  | _ => none }
def PaperFewestWrongFalsely : Prop := paperFewestRow.holds Try.pinned (OpenSpec.ofChange paperFewestWrong)

/-- 'duodecimolaw06.PaperMore': WHATEVER THE INPUT: true; the input reads as it did. -/
def paperMoreSpec : ChangeSpec := { name := "paperMore", fn := fun _ => fun
  | [d1, d2, d3] => { results := [.lit (.bool true)], args := [d1, d2, d3] }
  | _ => none }
def paperMoreRow : OpenClaim := { program := "ytbcfmfiolbcclaa", sum := "9e05313fd257b6608e43a7e25f1f6c6f7dba9a4dfdb032d65827aff411091168", func := "duodecimo/duodecimolaw06.PaperMore", spec := "paperMore", unfollowed := true, recurses := true, plainKeys := false, apart := false }
def PaperMoreSaid : Prop := paperMoreRow.holds Try.pinned (OpenSpec.ofChange paperMoreSpec)

/-- ITS FALSE NEIGHBOUR: 'it returns false'. Refute it at one input. -/
def paperMoreWrong : ChangeSpec := { name := "paperMore", fn := fun _ => fun
  | [d1, d2, d3] => { results := [.lit (.bool false)], args := [d1, d2, d3] }
  | _ => none }
def PaperMoreWrongFalsely : Prop := paperMoreRow.holds Try.pinned (OpenSpec.ofChange paperMoreWrong)

/-- 'duodecimolaw06.PaperBefore': WHATEVER THE INPUT: true; the input reads as it did. -/
def paperBeforeSpec : ChangeSpec := { name := "paperBefore", fn := fun _ => fun
  | [d1, d2] => { results := [.lit (.bool true)], args := [d1, d2] }
  | _ => none }
def paperBeforeRow : OpenClaim := { program := "ytbcfmfiolbcclaa", sum := "9e05313fd257b6608e43a7e25f1f6c6f7dba9a4dfdb032d65827aff411091168", func := "duodecimo/duodecimolaw06.PaperBefore", spec := "paperBefore", unfollowed := true, recurses := true, plainKeys := false, apart := false }
def PaperBeforeSaid : Prop := paperBeforeRow.holds Try.pinned (OpenSpec.ofChange paperBeforeSpec)

/-- ITS FALSE NEIGHBOUR: 'it returns false'. Refute it at one input. -/
def paperBeforeWrong : ChangeSpec := { name := "paperBefore", fn := fun _ => fun
  | [d1, d2] => { results := [.lit (.bool false)], args := [d1, d2] }
  | _ => none }
def PaperBeforeWrongFalsely : Prop := paperBeforeRow.holds Try.pinned (OpenSpec.ofChange paperBeforeWrong)

/-- 'duodecimolaw06.PaperAsked': WHATEVER THE INPUT: true; the input reads as it did. -/
def paperAskedSpec : ChangeSpec := { name := "paperAsked", fn := fun _ => fun
  | [d1, d2] => { results := [.lit (.bool true)], args := [d1, d2] }
  | _ => none }
def paperAskedRow : OpenClaim := { program := "ytbcfmfiolbcclaa", sum := "9e05313fd257b6608e43a7e25f1f6c6f7dba9a4dfdb032d65827aff411091168", func := "duodecimo/duodecimolaw06.PaperAsked", spec := "paperAsked", unfollowed := true, recurses := true, plainKeys := false, apart := false }
def PaperAskedSaid : Prop := paperAskedRow.holds Try.pinned (OpenSpec.ofChange paperAskedSpec)

/-- ITS FALSE NEIGHBOUR: 'it returns false'. Refute it at one input. -/
def paperAskedWrong : ChangeSpec := { name := "paperAsked", fn := fun _ => fun
  | [d1, d2] => { results := [.lit (.bool false)], args := [d1, d2] }
  | _ => none }
def PaperAskedWrongFalsely : Prop := paperAskedRow.holds Try.pinned (OpenSpec.ofChange paperAskedWrong)

/-- 'duodecimolaw06.PaperRenamed': WHATEVER THE INPUT: true; the input reads as it did. -/
def paperRenamedSpec : ChangeSpec := { name := "paperRenamed", fn := fun _ => fun
  | [d] => { results := [.lit (.bool true)], args := [d] }
  | _ => none }
def paperRenamedRow : OpenClaim := { program := "ytbcfmfiolbcclaa", sum := "9e05313fd257b6608e43a7e25f1f6c6f7dba9a4dfdb032d65827aff411091168", func := "duodecimo/duodecimolaw06.PaperRenamed", spec := "paperRenamed", unfollowed := true, recurses := true, plainKeys := false, apart := false }
def PaperRenamedSaid : Prop := paperRenamedRow.holds Try.pinned (OpenSpec.ofChange paperRenamedSpec)

/-- ITS FALSE NEIGHBOUR: 'it returns false'. Refute it at one input. -/
def paperRenamedWrong : ChangeSpec := { name := "paperRenamed", fn := fun _ => fun
  | [d] => { results := [.lit (.bool false)], args := [d] }
  | _ => none }
def PaperRenamedWrongFalsely : Prop := paperRenamedRow.holds Try.pinned (OpenSpec.ofChange paperRenamedWrong)

/-- 'duodecimolaw06.PaperTurned': WHATEVER THE INPUT: true; the input reads as it did. -/
def paperTurnedSpec : ChangeSpec := { name := "paperTurned", fn := fun _ => fun
  | [d] => { results := [.lit (.bool true)], args := [d] }
  | _ => none }
def paperTurnedRow : OpenClaim := { program := "ytbcfmfiolbcclaa", sum := "9e05313fd257b6608e43a7e25f1f6c6f7dba9a4dfdb032d65827aff411091168", func := "duodecimo/duodecimolaw06.PaperTurned", spec := "paperTurned", unfollowed := true, recurses := true, plainKeys := false, apart := false }
def PaperTurnedSaid : Prop := paperTurnedRow.holds Try.pinned (OpenSpec.ofChange paperTurnedSpec)

/-- ITS FALSE NEIGHBOUR: 'it returns false'. Refute it at one input. -/
def paperTurnedWrong : ChangeSpec := { name := "paperTurned", fn := fun _ => fun
  | [d] => { results := [.lit (.bool false)], args := [d] }
  | _ => none }
def PaperTurnedWrongFalsely : Prop := paperTurnedRow.holds Try.pinned (OpenSpec.ofChange paperTurnedWrong)

/-- 'duodecimolaw06.PaperParted': WHATEVER THE INPUT: true; the input reads as it did. -/
def paperPartedSpec : ChangeSpec := { name := "paperParted", fn := fun _ => fun
  | [d1, d2] => { results := [.lit (.bool true)], args := [d1, d2] }
  | _ => none }
def paperPartedRow : OpenClaim := { program := "ytbcfmfiolbcclaa", sum := "9e05313fd257b6608e43a7e25f1f6c6f7dba9a4dfdb032d65827aff411091168", func := "duodecimo/duodecimolaw06.PaperParted", spec := "paperParted", unfollowed := true, recurses := true, plainKeys := false, apart := false }
def PaperPartedSaid : Prop := paperPartedRow.holds Try.pinned (OpenSpec.ofChange paperPartedSpec)

/-- ITS FALSE NEIGHBOUR: 'it returns false'. Refute it at one input. -/
def paperPartedWrong : ChangeSpec := { name := "paperParted", fn := fun _ => fun
  | [d1, d2] => { results := [.lit (.bool false)], args := [d1, d2] }
  | _ => none }
def PaperPartedWrongFalsely : Prop := paperPartedRow.holds Try.pinned (OpenSpec.ofChange paperPartedWrong)

/- THE SECOND FORM. 'bulk': how many values and letters a reading holds, each counted each time it is reached (what is shared counts as often as it is met; a slice's spare places count too). A statement '..UptoSaid' is the law's where the arguments, and the package variables that the reading takes, are together of bulk at most 1048576: NARROWER than '..Said'. Prove '..Said' where nothing that the law and all that it calls make is longer than what came in: it says more and counts as full. Else prove '..UptoSaid'. A law counts once. -/
mutual
def uptoBulk {H : Type} : DataW H → Nat
  | .lit (.string bytes) => bytes.length + 1
  | .lit _ => 1
  | .nil => 1
  | .ptr d => uptoBulk d + 1
  | .slice elems spare => uptoBulkAll elems + uptoBulkAll spare + 1
  | .agg parts => uptoBulkAll parts + 1
  | .iface _ d => uptoBulk d + 1
  | .map entries => uptoBulkEntries entries + 1
  | .held _ => 1
def uptoBulkAll {H : Type} : List (DataW H) → Nat
  | [] => 0
  | d :: r => uptoBulk d + uptoBulkAll r
def uptoBulkEntries {H : Type} : List (Lit × DataW H) → Nat
  | [] => 0
  | x :: r => uptoBulkEntry x + uptoBulkEntries r
def uptoBulkEntry {H : Type} : Lit × DataW H → Nat
  | (.string bytes, d) => bytes.length + uptoBulk d + 1
  | (_, d) => uptoBulk d + 1
 end
def uptoSmall : (H : Type) → List (DataW H) → Bool := fun _ ds => decide (uptoBulkAll ds ≤ 1048576)
def OpenSpec.upto (s : _root_.Go.ChangeSpec) : _root_.Go.OpenSpec := { _root_.Go.OpenSpec.ofChange s with cond := some uptoSmall }

/-- 'duodecimolaw06.PaperOrders', WHERE WHAT IT READS IS OF BULK AT MOST 1048576: true; the input reads as it did. -/
def paperOrdersUptoRow : OpenClaim := { program := "ytbcfmfiolbcclaa", sum := "9e05313fd257b6608e43a7e25f1f6c6f7dba9a4dfdb032d65827aff411091168", func := "duodecimo/duodecimolaw06.PaperOrders", spec := "paperOrders", unfollowed := true, recurses := true, plainKeys := false, apart := false, narrowed := true }
def PaperOrdersUptoSaid : Prop := paperOrdersUptoRow.holds Try.pinned (OpenSpec.upto paperOrdersSpec)

/-- 'duodecimolaw06.PaperStocks', WHERE WHAT IT READS IS OF BULK AT MOST 1048576: true; the input reads as it did. -/
def paperStocksUptoRow : OpenClaim := { program := "ytbcfmfiolbcclaa", sum := "9e05313fd257b6608e43a7e25f1f6c6f7dba9a4dfdb032d65827aff411091168", func := "duodecimo/duodecimolaw06.PaperStocks", spec := "paperStocks", unfollowed := true, recurses := true, plainKeys := false, apart := false, narrowed := true }
def PaperStocksUptoSaid : Prop := paperStocksUptoRow.holds Try.pinned (OpenSpec.upto paperStocksSpec)

/-- 'duodecimolaw06.PaperWrongs', WHERE WHAT IT READS IS OF BULK AT MOST 1048576: true; the input reads as it did. -/
def paperWrongsUptoRow : OpenClaim := { program := "ytbcfmfiolbcclaa", sum := "9e05313fd257b6608e43a7e25f1f6c6f7dba9a4dfdb032d65827aff411091168", func := "duodecimo/duodecimolaw06.PaperWrongs", spec := "paperWrongs", unfollowed := true, recurses := true, plainKeys := false, apart := false, narrowed := true }
def PaperWrongsUptoSaid : Prop := paperWrongsUptoRow.holds Try.pinned (OpenSpec.upto paperWrongsSpec)

/-- 'duodecimolaw06.PaperKnown', WHERE WHAT IT READS IS OF BULK AT MOST 1048576: true; the input reads as it did. -/
def paperKnownUptoRow : OpenClaim := { program := "ytbcfmfiolbcclaa", sum := "9e05313fd257b6608e43a7e25f1f6c6f7dba9a4dfdb032d65827aff411091168", func := "duodecimo/duodecimolaw06.PaperKnown", spec := "paperKnown", unfollowed := true, recurses := true, plainKeys := false, apart := false, narrowed := true }
def PaperKnownUptoSaid : Prop := paperKnownUptoRow.holds Try.pinned (OpenSpec.upto paperKnownSpec)

/-- 'duodecimolaw06.PaperTrue', WHERE WHAT IT READS IS OF BULK AT MOST 1048576: true; the input reads as it did. -/
def paperTrueUptoRow : OpenClaim := { program := "ytbcfmfiolbcclaa", sum := "9e05313fd257b6608e43a7e25f1f6c6f7dba9a4dfdb032d65827aff411091168", func := "duodecimo/duodecimolaw06.PaperTrue", spec := "paperTrue", unfollowed := true, recurses := true, plainKeys := false, apart := false, narrowed := true }
def PaperTrueUptoSaid : Prop := paperTrueUptoRow.holds Try.pinned (OpenSpec.upto paperTrueSpec)

/-- 'duodecimolaw06.PaperFewest', WHERE WHAT IT READS IS OF BULK AT MOST 1048576: true; the input reads as it did. -/
def paperFewestUptoRow : OpenClaim := { program := "ytbcfmfiolbcclaa", sum := "9e05313fd257b6608e43a7e25f1f6c6f7dba9a4dfdb032d65827aff411091168", func := "duodecimo/duodecimolaw06.PaperFewest", spec := "paperFewest", unfollowed := true, recurses := true, plainKeys := false, apart := false, narrowed := true }
def PaperFewestUptoSaid : Prop := paperFewestUptoRow.holds Try.pinned (OpenSpec.upto paperFewestSpec)

/-- 'duodecimolaw06.PaperMore', WHERE WHAT IT READS IS OF BULK AT MOST 1048576: true; the input reads as it did. -/
def paperMoreUptoRow : OpenClaim := { program := "ytbcfmfiolbcclaa", sum := "9e05313fd257b6608e43a7e25f1f6c6f7dba9a4dfdb032d65827aff411091168", func := "duodecimo/duodecimolaw06.PaperMore", spec := "paperMore", unfollowed := true, recurses := true, plainKeys := false, apart := false, narrowed := true }
def PaperMoreUptoSaid : Prop := paperMoreUptoRow.holds Try.pinned (OpenSpec.upto paperMoreSpec)

/-- 'duodecimolaw06.PaperBefore', WHERE WHAT IT READS IS OF BULK AT MOST 1048576: true; the input reads as it did. -/
def paperBeforeUptoRow : OpenClaim := { program := "ytbcfmfiolbcclaa", sum := "9e05313fd257b6608e43a7e25f1f6c6f7dba9a4dfdb032d65827aff411091168", func := "duodecimo/duodecimolaw06.PaperBefore", spec := "paperBefore", unfollowed := true, recurses := true, plainKeys := false, apart := false, narrowed := true }
def PaperBeforeUptoSaid : Prop := paperBeforeUptoRow.holds Try.pinned (OpenSpec.upto paperBeforeSpec)

/-- 'duodecimolaw06.PaperAsked', WHERE WHAT IT READS IS OF BULK AT MOST 1048576: true; the input reads as it did. -/
def paperAskedUptoRow : OpenClaim := { program := "ytbcfmfiolbcclaa", sum := "9e05313fd257b6608e43a7e25f1f6c6f7dba9a4dfdb032d65827aff411091168", func := "duodecimo/duodecimolaw06.PaperAsked", spec := "paperAsked", unfollowed := true, recurses := true, plainKeys := false, apart := false, narrowed := true }
def PaperAskedUptoSaid : Prop := paperAskedUptoRow.holds Try.pinned (OpenSpec.upto paperAskedSpec)

/-- 'duodecimolaw06.PaperRenamed', WHERE WHAT IT READS IS OF BULK AT MOST 1048576: true; the input reads as it did. -/
def paperRenamedUptoRow : OpenClaim := { program := "ytbcfmfiolbcclaa", sum := "9e05313fd257b6608e43a7e25f1f6c6f7dba9a4dfdb032d65827aff411091168", func := "duodecimo/duodecimolaw06.PaperRenamed", spec := "paperRenamed", unfollowed := true, recurses := true, plainKeys := false, apart := false, narrowed := true }
def PaperRenamedUptoSaid : Prop := paperRenamedUptoRow.holds Try.pinned (OpenSpec.upto paperRenamedSpec)

/-- 'duodecimolaw06.PaperTurned', WHERE WHAT IT READS IS OF BULK AT MOST 1048576: true; the input reads as it did. -/
def paperTurnedUptoRow : OpenClaim := { program := "ytbcfmfiolbcclaa", sum := "9e05313fd257b6608e43a7e25f1f6c6f7dba9a4dfdb032d65827aff411091168", func := "duodecimo/duodecimolaw06.PaperTurned", spec := "paperTurned", unfollowed := true, recurses := true, plainKeys := false, apart := false, narrowed := true }
def PaperTurnedUptoSaid : Prop := paperTurnedUptoRow.holds Try.pinned (OpenSpec.upto paperTurnedSpec)

/-- 'duodecimolaw06.PaperParted', WHERE WHAT IT READS IS OF BULK AT MOST 1048576: true; the input reads as it did. -/
def paperPartedUptoRow : OpenClaim := { program := "ytbcfmfiolbcclaa", sum := "9e05313fd257b6608e43a7e25f1f6c6f7dba9a4dfdb032d65827aff411091168", func := "duodecimo/duodecimolaw06.PaperParted", spec := "paperParted", unfollowed := true, recurses := true, plainKeys := false, apart := false, narrowed := true }
def PaperPartedUptoSaid : Prop := paperPartedUptoRow.holds Try.pinned (OpenSpec.upto paperPartedSpec)

end Rows
end Go.Proofs.Ytbcfmfiolbcclaa
