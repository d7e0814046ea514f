/- Contracts: the laws' helpers that look at holds; any order. Plain: what holds of the chain with the fewest unknown owners. Contracts: which list comes first; what Why says of an order of the laws. Plain: cases that are changed are still cases: a mark of a known year, a year of having. -/
import Derived.Test.YtiampdiobdianaaZJ
import Derived.Test.YtiampdiobdianaaZK
namespace Go.Proofs.Ytiampdiobdianaa
open Go.Avm

theorem valid37_ok (c : Case) : PCall Try.prog 37 [encCase c] (B (decide (errE c = 0))) := by
  refine pcall Try.func37 tr37 rs37 fn37 (by simp [Try.ntmps37]) fun _ => ?_
  have hc := checkR_ok c
  obtain ⟨E, hE⟩ : ∃ E, E = errE c := ⟨_, rfl⟩
  have hc : PCall Try.prog 17 [encCase c] (.tuple [I (checkS c).1, I (checkS c).2.1, I E]) := by rw [hE]; exact hc
  rw [← hE]
  simp -implicitDefEqProofs [m37]
  refine vCall_of hc ?_
  simp -implicitDefEqProofs [r37]
  by_cases h : E = 0 <;> simp [h]

/-- The place of an owner among holds; below 0: none. -/
def placeH (l : List Hold) (o : Int) : Int := at' (l.map Hold.who) o
/-! ## Any order, turns -/
theorem tmod_nat (a b : Nat) : ((a : Int).tmod (b : Int)) = ((a % b : Nat) : Int) := by
  rw [Int.tmod_eq_emod_of_nonneg (by omega)]; rfl
theorem wrap_u {n : Int} (h : 0 ≤ n ∧ n ≤ 65535) : IntKind.wrap .i64 n = n := by
  simp [IntKind.wrap, IntKind.bits, IntKind.signed]
  omega
end Go.Proofs.Ytiampdiobdianaa

namespace Go.Proofs.Ytiampdiobdianaa
open Go.Avm

/-! ## The first of the best ones -/
theorem best_spec (c : Case) {ps : List (List Int × List Hold)} : ∀ {n : Nat}, 0 < n → n ≤ ps.length → ∃ k, ∃ hk : k < ps.length, k < n ∧ bestS c (ps.take n) = some ps[k].2 ∧
    ∀ j (hj : j < ps.length), j < n → unknownS c ps[k].2 ≤ unknownS c ps[j].2 ∧ (j < k → unknownS c ps[k].2 < unknownS c ps[j].2)
  | 0, h, _ => by omega
  | n + 1, _, hn => by
    have hlt : n < ps.length := hn
    have hsn : bestS c (ps.take (n + 1)) = bestOf c (bestS c (ps.take n)) ps[n].2 := by
      unfold bestS; rw [take_snoc hlt, List.foldl_append]; rfl
    by_cases h0 : n = 0
    · subst h0
      refine ⟨0, hlt, by omega, by rw [hsn]; rfl, fun j hj hj1 => ?_⟩
      obtain rfl : j = 0 := by omega
      exact ⟨Int.le_refl _, by omega⟩
    · obtain ⟨k, hk, hkn, hb, hmin⟩ := best_spec c (ps := ps) (n := n) (by omega) (by omega)
      rw [hb] at hsn
      unfold bestOf at hsn
      simp only at hsn
      by_cases hu : unknownS c ps[n].2 < unknownS c ps[k].2
      · rw [if_pos hu] at hsn
        refine ⟨n, hlt, by omega, hsn, fun j hj hjn => ?_⟩
        by_cases e : j = n
        · subst e; exact ⟨Int.le_refl _, by omega⟩
        · have := hmin j hj (by omega)
          exact ⟨by omega, fun _ => by omega⟩
      · rw [if_neg hu] at hsn
        refine ⟨k, hk, by omega, hsn, fun j hj hjn => ?_⟩
        by_cases e : j = n
        · subst e; exact ⟨by omega, by omega⟩
        · exact hmin j hj (by omega)
theorem bestS_none {c : Case} (h : bestS c (chainsL c) = none) : chainsL c = [] := by
  cases hc : chainsL c with
  | nil => rfl
  | cons p ps =>
    obtain ⟨k, hk, -, hb, -⟩ := best_spec c (ps := p :: ps) (n := (p :: ps).length) (by simp) (Nat.le_refl _)
    rw [List.take_length] at hb
    rw [hc, hb] at h
    cases h
/-! ## The holds that are told -/
/-- What holds of the holds that are told of an order. -/
structure HoldsOK (c : Case) (o : List Int) (L : List Hold) : Prop where
  who : L.map Hold.who = o
  rng : ∀ i (h : i < L.length), 0 ≤ L[i].who ∧ L[i].who < (c.owners.length : Int) ∧ placeH L L[i].who = i
  first : ∀ h : 0 < L.length, c.printed ≤ L[0].src
  next : ∀ i (h : i + 1 < L.length), (L[i]'(by omega)).til ≤ L[i + 1].src
  life : ∀ i (h : i < L.length), (owerAt c L[i].who.toNat).born ≤ L[i].src ∧ L[i].src ≤ L[i].til ∧ L[i].til ≤ (owerAt c L[i].who.toNat).died ∧ L[i].til ≤ c.now
  marks : ∀ m ∈ c.marks, ∃ k : Nat, placeH L m.owner = k ∧ ∃ h : k < L.length, L[k].src ≤ m.hi ∧ m.lo ≤ L[k].til
  dst : ∀ s ∈ c.sales, s.dst ≠ -1 → ∃ k : Nat, placeH L s.dst = k ∧ ∃ h : k < L.length, L[k].src = s.year
  src : ∀ s ∈ c.sales, s.src ≠ -1 → ∃ k : Nat, placeH L s.src = k ∧ ∃ h : k < L.length, L[k].til = s.year
end Go.Proofs.Ytiampdiobdianaa

namespace Go.Proofs.Ytiampdiobdianaa
open Go.Avm

theorem chain_none {c : Case} (he : errE c = 0) (hb : bestS c (chainsL c) = none) : chainS c = ⟨[], 0, 8⟩ := by
  unfold chainS; rw [if_neg (not_not_intro he), hb]
theorem chain_some {c : Case} (he : errE c = 0) {l : List Hold} (hb : bestS c (chainsL c) = some l) : chainS c = ⟨cutL l, unknownS c l, 0⟩ := by
  unfold chainS; rw [if_neg (not_not_intro he), hb]
theorem best_some_iff {c : Case} : (bestS c (chainsL c)).isSome = someB c := by
  unfold someB
  cases h : bestS c (chainsL c) with
  | none => rw [bestS_none h]; rfl
  | some l =>
    cases hc : chainsL c with
    | nil => rw [hc] at h; cases h
    | cons p ps => rfl
theorem chain_e {c : Case} (he : errE c = 0) : (chainS c).e = if someB c then 0 else 8 := by
  rw [← best_some_iff]
  cases h : bestS c (chainsL c) with
  | none => rw [chain_none he h]; rfl
  | some l => rw [chain_some he h]; rfl
end Go.Proofs.Ytiampdiobdianaa

namespace Go.Proofs.Ytiampdiobdianaa
open Go.Avm

/-- A case of the same owners and years, with other marks and sales, is without an error if these are. -/
theorem err_same {c d : Case} (h : errE c = 0) (hp : d.printed = c.printed) (hn : d.now = c.now) (ho : d.owners = c.owners) (hm8 : d.marks.length ≤ 8)
    (hm : ∀ i (hi : i < d.marks.length), (0 ≤ d.marks[i].owner ∧ d.marks[i].owner < d.owners.length) ∧ (-1 ≤ d.marks[i].upon ∧ d.marks[i].upon < i) ∧ d.printed ≤ d.marks[i].lo ∧ d.marks[i].lo ≤ d.marks[i].hi ∧ d.marks[i].hi ≤ d.now ∧ d.marks[i].hi ≤ d.marks[i].lo + 40)
    (hs4 : d.sales.length ≤ 4) (hs : ∀ s ∈ d.sales, d.printed ≤ s.year ∧ s.year ≤ d.now ∧ -1 ≤ s.src ∧ s.src < d.owners.length ∧ -1 ≤ s.dst ∧ s.dst < d.owners.length ∧ s.src ≠ s.dst) : errE d = 0 := by
  obtain ⟨p, -⟩ := checkS_part h
  have e : checkS d = (0, 0, 0) := by
    refine checkS_9 ⟨⟨⟨?_, ?_, ?_⟩, ?_, by omega⟩, fun j hj => (markE_zero hj).2 (hm j hj), by omega⟩ (fun j hj => (saleE_zero hj).2 (hs _ (List.getElem_mem hj)))
    · rw [hp, hn]; exact p.h1
    · rw [hp, hn]; exact p.h2
    · rw [ho]; exact p.h3
    · intro j hj
      have := p.h4 j (by rw [← ho]; exact hj)
      unfold ownE at this ⊢
      rw [ho]; exact this
  rw [errE, e]
theorem mark_facts {c : Case} (h : errE c = 0) {i : Nat} (hi : i < c.marks.length) : (0 ≤ c.marks[i].owner ∧ c.marks[i].owner < c.owners.length) ∧ (-1 ≤ c.marks[i].upon ∧ c.marks[i].upon < i) ∧ c.printed ≤ c.marks[i].lo ∧ c.marks[i].lo ≤ c.marks[i].hi ∧ c.marks[i].hi ≤ c.now ∧ c.marks[i].hi ≤ c.marks[i].lo + 40 :=
  (markE_zero hi).1 ((checkS_part h).1.h6 i hi)
theorem sale_facts {c : Case} (h : errE c = 0) : ∀ s ∈ c.sales, c.printed ≤ s.year ∧ s.year ≤ c.now ∧ -1 ≤ s.src ∧ s.src < c.owners.length ∧ -1 ≤ s.dst ∧ s.dst < c.owners.length ∧ s.src ≠ s.dst := by
  intro s hs
  obtain ⟨i, hi, rfl⟩ := List.getElem_of_mem hs
  exact (saleE_zero hi).1 ((checkS_part h).2 i hi)
theorem err_sales {c : Case} (h : errE c = 0) : c.sales.length ≤ 4 := by
  have := (checkS_part h).1.h7
  omega
theorem wrap_v {n : Int} (h : 0 ≤ n ∧ n ≤ 255) : IntKind.wrap .i64 n = n := wrap_u ⟨h.1, by omega⟩
theorem inC_at {c : Case} {i : Nat} {y : Int} {j : Nat} (hj : j < c.marks.length) : (inC c i y).marks[j]'(by simpa [inC] using hj) = if i = j then setYear c.marks[j] y else c.marks[j] := by
  show (c.marks.set i (setYear (c.marks.getD i mkD) y))[j]'(by simpa using hj) = _
  rw [List.getElem_set]
  by_cases e : i = j
  · subst e; rw [if_pos rfl, if_pos rfl, mk_at hj]
  · rw [if_neg e, if_neg e]
theorem errE_in {c : Case} (h : errE c = 0) {i : Nat} {y : Int} (hy : c.printed ≤ y ∧ y ≤ c.now) : errE (inC c i y) = 0 := by
  have hm8 := err_marks h
  refine err_same h rfl rfl rfl (by simp [inC]; exact hm8) (fun j hj => ?_) (show c.sales.length ≤ 4 from err_sales h) (show ∀ s ∈ c.sales, c.printed ≤ s.year ∧ _ from sale_facts h)
  have hj' : j < c.marks.length := by simpa [inC] using hj
  have hf := mark_facts h hj'
  rw [inC_at hj']
  by_cases e : i = j
  · rw [if_pos e]
    exact ⟨hf.1, hf.2.1, hy.1, Int.le_refl _, hy.2, by show y ≤ y + 40; omega⟩
  · rw [if_neg e]; exact hf
end Go.Proofs.Ytiampdiobdianaa

