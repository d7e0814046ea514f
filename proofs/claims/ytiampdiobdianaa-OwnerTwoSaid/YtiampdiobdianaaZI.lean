/- Contracts of the reference: Order, Why, Before. Contracts of the reference: Before. Plain: an order has a chain if there are years for it. Plain: years for an order are found by its chain; unknown owners by the order alone. Contracts of the reference: a mark of a known year; who has the copy in a year. Contracts of the reference: Year, Owned. -/
import Derived.Test.YtiampdiobdianaaZH
namespace Go.Proofs.Ytiampdiobdianaa
open Go.Avm

theorem out_none {lo hi : Int} {l : List Int} (h : ∀ x ∈ l, lo ≤ x ∧ x ≤ hi) : out lo hi l = false := by
  unfold out
  rw [List.any_eq_false]
  intro x hx
  have := h x hx
  simp
  omega

end Go.Proofs.Ytiampdiobdianaa

namespace Go.Proofs.Ytiampdiobdianaa
open Go.Avm

end Go.Proofs.Ytiampdiobdianaa

namespace Go.Proofs.Ytiampdiobdianaa
open Go.Avm

def own (o : List Int) (i : Nat) : Nat := (o.getD i 0).toNat
/-- An order of some owners. -/
structure OrdOK (c : Case) (o : List Int) : Prop where
  rng : ∀ x ∈ o, 0 ≤ x ∧ x < (c.owners.length : Int)
  nd : o.Nodup
/-- Years for the owners of an order below n, and for their marks. -/
structure FeasTo (c : Case) (o : List Int) (n : Nat) (S T Y : Nat → Int) : Prop where
  le : ∀ i < n, S i ≤ T i
  next : ∀ i, i + 1 < n → T i ≤ S (i + 1)
  own : ∀ i < n, bLo c c.sales (own o i) ≤ S i ∧ S i ≤ bHi c c.sales (own o i) ∧ gLo c c.sales (own o i) ≤ T i ∧ T i ≤ gHi c c.sales (own o i)
  marks : ∀ q (hq : q < c.marks.length) (i : Nat), i < n → at' o c.marks[q].owner = i → S i ≤ Y q ∧ Y q ≤ T i ∧ c.marks[q].lo ≤ Y q ∧ Y q ≤ c.marks[q].hi
  upon : ∀ q (hq : q < c.marks.length) (i : Nat), i < n → at' o c.marks[q].owner = i → c.marks[q].upon ≠ -1 → Y c.marks[q].upon.toNat ≤ Y q
abbrev Feas (c : Case) (o : List Int) (S T Y : Nat → Int) : Prop := FeasTo c o o.length S T Y

/-! ## What a run finds are years -/
/-- The holds of a run: who, and up to when at the latest. -/
def HoldsOf (c : Case) (o : List Int) (n : Nat) (l : List Hold) : Prop := l.length = n ∧ ∀ i (h : i < l.length), l[i].who = own o i ∧ l[i].til = gHi c c.sales (own o i)
end Go.Proofs.Ytiampdiobdianaa

namespace Go.Proofs.Ytiampdiobdianaa
open Go.Avm

/-- Years of a chain: the owners' first years are its own. -/
structure ChainOf (c : Case) (o : List Int) (l : List Hold) (T Y : Nat → Int) : Prop where
  rules : rulesB c o = true
  holds : HoldsOf c o o.length l
  feas : Feas c o (fun i => (l.getD i ⟨0, 0, 0⟩).src) T Y
  tight : ∀ i, i + 1 < o.length → (l.getD (i + 1) ⟨0, 0, 0⟩).src = max (T i) (bLo c c.sales (own o (i + 1)))
  first : 0 < o.length → (l.getD 0 ⟨0, 0, 0⟩).src = bLo c c.sales (own o 0)
/-! ## Unknown owners -/
end Go.Proofs.Ytiampdiobdianaa

namespace Go.Proofs.Ytiampdiobdianaa
open Go.Avm

theorem had74_ok {c : Case} (h : c.OK) (h8 : c.marks.length ≤ 8) {o : Nat} (ho : o < c.owners.length) {y : Int} (hy : c.printed ≤ y ∧ y ≤ c.now) : PCall Try.prog 74 [encCase c, I o, I y] (B (someB (hadC c o y))) := by
  refine pcall Try.func74 tr74 rs74 fn74 (by simp [Try.ntmps74]) fun _ => ?_
  have hall := all72_ok (hadC_ok h h8 ho hy)
  have hcells : caseCells (hadC c o y) = [I c.printed, I c.now, .slice 3 (c.owners.map encOwner) 0, .slice 4 (c.marks.map encMark ++ [.agg [I o, I y, I y, I (-1)]]) 0, .slice 3 (c.sales.map encSale) 0] := by simp [hadC]
  have hS : someB (hadC c o y) = decide (0 < (allR (hadC c o y)).length) := by
    unfold someB
    rw [allR_map, List.length_map]
    cases chainsL (hadC c o y) <;> simp
  rw [hS]
  have hb := allR_len (hadC_ok h h8 ho hy)
  rw [encCase, hcells] at hall
  generalize allR (hadC c o y) = L at *
  simp -implicitDefEqProofs only [m74]
  refine cutS (fun st => st.env 1 = I o ∧ st.env 2 = I y ∧ ∃ b3, st.env 3 = .mref b3 0 ∧ st.loc b3 = some (caseCells c)) ?_ ?_
  · intro k hk
    simp -implicitDefEqProofs
    intro b3
    exact hk _ ⟨by simp, by simp, b3, by simp, by simp⟩
  rintro s ⟨e1, e2, b3, e3, l3⟩
  refine cutS (fun st => st.env 3 = .mref b3 0 ∧ st.loc b3 = some [I c.printed, I c.now, .slice 3 (c.owners.map encOwner) 0, .slice 4 (c.marks.map encMark ++ [.agg [I o, I y, I y, I (-1)]]) 4003, .slice 3 (c.sales.map encSale) 0]) ?_ ?_
  · intro k hk
    simp -implicitDefEqProofs [e1, e2, e3, l3]
    refine ⟨by omega, by omega, by omega, by omega, hk _ ⟨by simp [e3], by simp⟩⟩
  rintro s ⟨e3, l3⟩
  simp -implicitDefEqProofs [e3, l3]
  refine vCall_of hall ?_
  simp -implicitDefEqProofs [r74]

/-! ## The years of a mark -/
end Go.Proofs.Ytiampdiobdianaa

namespace Go.Proofs.Ytiampdiobdianaa
open Go.Avm

theorem someB_all (c : Case) : (((allR c).length : Int) == 0) = !someB c := by
  unfold someB
  rw [allR_map, List.length_map]
  cases chainsL c with
  | nil => rfl
  | cons p l => simp; omega
theorem someS_err {c : Case} {e : Int} (h : e ≠ 0) : someS c e = ([], e) := by unfold someS; rw [if_pos h]
theorem someS_no {c : Case} (h : someB c = false) : someS c 0 = ([], 8) := by
  unfold someS
  rw [if_neg (by simp), if_pos]
  unfold someB at h
  rw [allR_map]
  cases hc : chainsL c with
  | nil => rfl
  | cons p l => rw [hc] at h; cases h
theorem someS_yes {c : Case} (h : someB c = true) : someS c 0 = (allR c, 0) := by
  unfold someS
  rw [if_neg (by simp), if_neg]
  unfold someB at h
  rw [allR_map]
  cases hc : chainsL c with
  | nil => rw [hc] at h; cases h
  | cons p l => simp

theorem owned29_ok (c : Case) (y : Int) : PCall Try.prog 29 [encCase c, I y] (encLR (ownedR c y)) := by
  refine pcall Try.func29 tr29 rs29 fn29 (by simp [Try.ntmps29]) fun _ => ?_
  have c0 := checkR_ok c
  obtain ⟨R, hR⟩ : ∃ R, R = ownedR c y := ⟨_, rfl⟩
  rw [← hR]
  unfold ownedR at hR
  simp -implicitDefEqProofs only [m29]
  refine cutS (fun st => st.env 1 = I y ∧ st.env 2 = caseRef c) ?_ ?_
  · intro k hk
    simp -implicitDefEqProofs
    exact hk _ (by simp)
  rintro s ⟨e1, e2⟩
  refine cutS (fun st => st.env 1 = I y ∧ st.env 2 = caseRef c ∧ st.env 8 = I (errE c)) ?_ ?_
  · intro k hk
    simp -implicitDefEqProofs [e2]
    refine vCall_of c0 ?_
    simp -implicitDefEqProofs [T3]
    exact hk _ (by simp [e1, e2])
  rintro s ⟨e1, e2, e8⟩
  obtain ⟨E, hE⟩ : ∃ E, E = if errE c ≠ 0 then errE c else if out c.printed c.now [y] then 7 else 0 := ⟨_, rfl⟩
  refine cutS (fun st => st.env 1 = I y ∧ st.env 2 = caseRef c ∧ st.env 8 = I E) ?_ ?_
  · intro k hk
    have hk : ∀ s' : St, s'.env 1 = I y ∧ s'.env 2 = caseRef c ∧ s'.env 8 = I E → k s' := hk
    by_cases he : errE c = 0
    case neg =>
      rw [if_pos he] at hE
      have he' : (errE c == 0) = false := by simp [he]
      simp -implicitDefEqProofs [e8, he']
      exact hk _ ⟨by simp [e1], by simp [e2], by simp [e8, hE]⟩
    rw [he] at e8
    rw [if_neg (not_not_intro he), out1] at hE
    simp -implicitDefEqProofs [e1, e2, e8]
    refine vCall_of (in_ok y c.printed c.now) ?_
    by_cases hi : c.printed ≤ y ∧ y ≤ c.now
    · rw [decide_eq_true hi] at hE ⊢
      simp -implicitDefEqProofs
      exact hk _ ⟨by simp [e1], by simp [e2], by simp [e8, hE]⟩
    · rw [decide_eq_false hi] at hE ⊢
      simp -implicitDefEqProofs
      exact hk _ ⟨by simp [e1], by simp [e2], by simp [hE]⟩
  rintro s ⟨e1, e2, e8⟩
  have hE0 : E = 0 → errE c = 0 ∧ out c.printed c.now [y] = false := by
    intro h0
    by_cases he : errE c = 0
    case neg => rw [if_pos he] at hE; omega
    rw [if_neg (not_not_intro he)] at hE
    cases ho : out c.printed c.now [y] with
    | true => rw [ho, if_pos rfl] at hE; omega
    | false => exact ⟨he, rfl⟩
  have hRE : R = if E ≠ 0 then ⟨[], E⟩ else if someB c = false then ⟨[], 8⟩ else ⟨ownedS c y, 0⟩ := by
    rw [hR]
    by_cases he : errE c = 0
    case neg => rw [if_pos he] at hE ⊢; rw [hE, if_pos he]
    rw [if_neg (not_not_intro he)] at hE ⊢
    cases ho : out c.printed c.now [y] with
    | true => rw [ho, if_pos rfl] at hE; rw [if_pos rfl, hE, if_pos (by omega)]
    | false =>
      rw [ho, if_neg (by simp)] at hE
      rw [if_neg (by simp), hE, if_neg (not_not_intro rfl)]
  have c1 := some61_ok c E (fun h0 => Case.ok (hE0 h0).1)
  refine cutS (fun st => st.env 1 = I y ∧ st.env 2 = caseRef c ∧ st.env 8 = I (someS c E).2) ?_ ?_
  · intro k hk
    simp -implicitDefEqProofs [e2, e8]
    refine vCall_of c1 ?_
    simp -implicitDefEqProofs
    exact hk _ (by simp [e1, e2])
  rintro s ⟨e1, e2, e8⟩
  by_cases h0 : E = 0
  case neg =>
    rw [if_pos h0] at hRE
    rw [someS_err h0] at e8
    have he' : (E != 0) = true := by simp [h0]
    simp -implicitDefEqProofs [e8, he', r29, hRE]
  obtain ⟨he, ho⟩ := hE0 h0
  rw [h0, if_neg (not_not_intro rfl)] at hRE
  rw [h0] at e8
  have hok := Case.ok he
  have hm8 := err_marks he
  cases hs : someB c with
  | false =>
    rw [hs, if_pos rfl] at hRE
    rw [someS_no hs] at e8
    simp -implicitDefEqProofs [e8, r29, hRE]
  | true =>
  rw [hs, if_neg (by simp)] at hRE
  rw [someS_yes hs] at e8
  have hi := out_no ho y (by simp)
  have hn6 := hok.ownersLen
  have hcall : ∀ k, k < c.owners.length → PCall Try.prog 74 [encCase c, I k, I y] (B (someB (hadC c k y))) := fun k hk => had74_ok hok hm8 hk hi
  unfold ownedS at hRE
  have hp : ∀ k, someB (hadC c k y) = (fun o => someB (hadC c o y)) k := fun _ => rfl
  refine cutS (fun st => st.env 1 = I y ∧ st.env 2 = caseRef c) ?_ ?_
  · intro k hk
    simp -implicitDefEqProofs [e8]
    exact hk _ (by simp [e1, e2])
  rintro s ⟨e1, e2⟩
  refine cutS (fun st => st.env 1 = I y ∧ st.env 2 = caseRef c ∧ st.env 9 = .slice 1 [] 10) ?_ ?_
  · intro k hk
    simp -implicitDefEqProofs
    exact hk _ (by simp [e1, e2])
  rintro s ⟨e1, e2, e9⟩
  generalize (fun o => someB (hadC c o y)) = p at *
  refine cutS (fun st => st.env 9 = .slice 1 ((selT p c.owners.length).map I) 10) ?_ ?_
  · intro k0 hk0
    simp -implicitDefEqProofs
    refine loop_up c.owners.length (fun k st => st.env 1 = I y ∧ st.env 2 = caseRef c ∧ st.env 9 = .slice 1 ((selT p k).map I) 10 ∧ st.env 10 = I k) ?_ ?_
    · simp [e1, e2, e9, selT_zero]
    rintro k s hk ⟨e1, e2, e9, e10⟩
    simp -implicitDefEqProofs [e2, e10]
    refine cond_dec (fun hlt => ?_) (fun hge => ?_)
    · have hlt : k < c.owners.length := by omega
      have hsl := selT_len p k
      have hck := hcall k hlt
      rw [hp k] at hck
      simp -implicitDefEqProofs [e1, e2, e10]
      refine vCall_of hck ?_
      simp -implicitDefEqProofs
      refine cond_bool (fun hb => ?_) (fun hb => ?_)
      · simp -implicitDefEqProofs [e9, e10]
        refine ⟨by omega, by omega, i64 (by omega) (by omega), round_ok hlt ⟨by simp [e1], by simp [e2], by simp [selT_t hb], by simp⟩⟩
      · simp -implicitDefEqProofs [e10]
        refine ⟨i64 (by omega) (by omega), round_ok hlt ⟨by simp [e1], by simp [e2], by simp [e9, selT_f hb], by simp⟩⟩
    · obtain rfl : k = c.owners.length := by omega
      simp -implicitDefEqProofs
      exact hk0 _ (by simp [e9])
  intro s e9
  simp -implicitDefEqProofs [e9, r29, hRE]
end Go.Proofs.Ytiampdiobdianaa

