/- Contracts: the laws' helpers that look at holds; any order. Plain: what holds of the chain with the fewest unknown owners. Contracts: which list comes first; what Why says of an order of the laws. Plain: cases that are changed are still cases: a mark of a known year, a year of having. -/
import Derived.Test.YtiampdiobdianaaZJ
import Derived.Test.YtiampdiobdianaaZK
namespace Go.Proofs.Ytiampdiobdianaa
open Go.Avm

theorem valid37_ok (c : Case) : PCall Try.prog 37 [encCase c] (B (decide (errE c = 0))) := by
  refine pcall Try.func37 tr37 rs37 fn37 (by simp [Try.ntmps37]) fun _ => ?_
  have hc := checkR_ok c
  obtain ⟨E, hE⟩ : ∃ E, E = errE c := ⟨_, rfl⟩
  have hc : PCall Try.prog 17 [encCase c] (.tuple [I (checkS c).1, I (checkS c).2.1, I E]) := by rw [hE]; exact hc
  rw [← hE]
  simp -implicitDefEqProofs [m37]
  refine vCall_of hc ?_
  simp -implicitDefEqProofs [r37]
  by_cases h : E = 0 <;> simp [h]

/-- The place of an owner among holds; below 0: none. -/
def placeH (l : List Hold) (o : Int) : Int := at' (l.map Hold.who) o
/-! ## Any order, turns -/
theorem tmod_nat (a b : Nat) : ((a : Int).tmod (b : Int)) = ((a % b : Nat) : Int) := by
  rw [Int.tmod_eq_emod_of_nonneg (by omega)]; rfl
theorem wrap_u {n : Int} (h : 0 ≤ n ∧ n ≤ 65535) : IntKind.wrap .i64 n = n := by
  simp [IntKind.wrap, IntKind.bits, IntKind.signed]
  omega
end Go.Proofs.Ytiampdiobdianaa

namespace Go.Proofs.Ytiampdiobdianaa
open Go.Avm

/-! ## The first of the best ones -/
/-! ## The holds that are told -/
/-- What holds of the holds that are told of an order. -/
structure HoldsOK (c : Case) (o : List Int) (L : List Hold) : Prop where
  who : L.map Hold.who = o
  rng : ∀ i (h : i < L.length), 0 ≤ L[i].who ∧ L[i].who < (c.owners.length : Int) ∧ placeH L L[i].who = i
  first : ∀ h : 0 < L.length, c.printed ≤ L[0].src
  next : ∀ i (h : i + 1 < L.length), (L[i]'(by omega)).til ≤ L[i + 1].src
  life : ∀ i (h : i < L.length), (owerAt c L[i].who.toNat).born ≤ L[i].src ∧ L[i].src ≤ L[i].til ∧ L[i].til ≤ (owerAt c L[i].who.toNat).died ∧ L[i].til ≤ c.now
  marks : ∀ m ∈ c.marks, ∃ k : Nat, placeH L m.owner = k ∧ ∃ h : k < L.length, L[k].src ≤ m.hi ∧ m.lo ≤ L[k].til
  dst : ∀ s ∈ c.sales, s.dst ≠ -1 → ∃ k : Nat, placeH L s.dst = k ∧ ∃ h : k < L.length, L[k].src = s.year
  src : ∀ s ∈ c.sales, s.src ≠ -1 → ∃ k : Nat, placeH L s.src = k ∧ ∃ h : k < L.length, L[k].til = s.year
end Go.Proofs.Ytiampdiobdianaa

namespace Go.Proofs.Ytiampdiobdianaa
open Go.Avm

end Go.Proofs.Ytiampdiobdianaa

namespace Go.Proofs.Ytiampdiobdianaa
open Go.Avm

theorem mark_facts {c : Case} (h : errE c = 0) {i : Nat} (hi : i < c.marks.length) : (0 ≤ c.marks[i].owner ∧ c.marks[i].owner < c.owners.length) ∧ (-1 ≤ c.marks[i].upon ∧ c.marks[i].upon < i) ∧ c.printed ≤ c.marks[i].lo ∧ c.marks[i].lo ≤ c.marks[i].hi ∧ c.marks[i].hi ≤ c.now ∧ c.marks[i].hi ≤ c.marks[i].lo + 40 :=
  (markE_zero hi).1 ((checkS_part h).1.h6 i hi)
theorem wrap_v {n : Int} (h : 0 ≤ n ∧ n ≤ 255) : IntKind.wrap .i64 n = n := wrap_u ⟨h.1, by omega⟩
end Go.Proofs.Ytiampdiobdianaa

