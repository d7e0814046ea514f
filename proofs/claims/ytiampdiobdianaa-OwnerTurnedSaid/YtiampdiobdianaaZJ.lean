/- Contracts of the reference: Both. Contracts of the reference: Without. Contracts of the reference: Lists, Forged; Same. -/
import Derived.Test.YtiampdiobdianaaZI
namespace Go.Proofs.Ytiampdiobdianaa
open Go.Avm

end Go.Proofs.Ytiampdiobdianaa

namespace Go.Proofs.Ytiampdiobdianaa
open Go.Avm

def ixR (p : Nat → Bool) (k : Nat) (j : Nat) : Int := if j < k ∧ p j = false then keptN p j else 0
structure WR (c : Case) (out : List Int) (p : Nat → Bool) (b2 b4 b5 k : Nat) (s : St) : Prop where
  e : s.env 1 = IL out ∧ s.env 2 = .mref b2 0 ∧ s.env 4 = .mref b4 0 ∧ s.env 5 = .mslice b5 0 c.marks.length c.marks.length 1 ∧ s.env 6 = .slice 4 ((wUp c.marks p k).map encMark) 7 ∧ s.env 7 = I k
  l2 : s.loc b2 = some (caseCells c)
  l4 : s.loc b4 = some [I 0, I 0, .slice 3 [] 5002, .slice 4 [] 5003, .slice 3 [] 5004]
  l5 : s.loc b5 = some (cl c.marks.length (ixR p k))

end Go.Proofs.Ytiampdiobdianaa

namespace Go.Proofs.Ytiampdiobdianaa
open Go.Avm

end Go.Proofs.Ytiampdiobdianaa

