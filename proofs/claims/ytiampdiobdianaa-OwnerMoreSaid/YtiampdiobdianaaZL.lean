/- Contracts: the laws' helpers that look at holds; any order. Plain: what holds of the chain with the fewest unknown owners. Contracts: which list comes first; what Why says of an order of the laws. Plain: cases that are changed are still cases: a mark of a known year, a year of having. Plain: a case of which less is told. -/
import Derived.Test.YtiampdiobdianaaZJ
import Derived.Test.YtiampdiobdianaaZK
namespace Go.Proofs.Ytiampdiobdianaa
open Go.Avm

theorem valid37_ok (c : Case) : PCall Try.prog 37 [encCase c] (B (decide (errE c = 0))) := by
  refine pcall Try.func37 tr37 rs37 fn37 (by simp [Try.ntmps37]) fun _ => ?_
  have hc := checkR_ok c
  obtain ⟨E, hE⟩ : ∃ E, E = errE c := ⟨_, rfl⟩
  have hc : PCall Try.prog 17 [encCase c] (.tuple [I (checkS c).1, I (checkS c).2.1, I E]) := by rw [hE]; exact hc
  rw [← hE]
  simp -implicitDefEqProofs [m37]
  refine vCall_of hc ?_
  simp -implicitDefEqProofs [r37]
  by_cases h : E = 0 <;> simp [h]

/-- The place of an owner among holds; below 0: none. -/
def placeH (l : List Hold) (o : Int) : Int := at' (l.map Hold.who) o
/-! ## Any order, turns -/
theorem tmod_nat (a b : Nat) : ((a : Int).tmod (b : Int)) = ((a % b : Nat) : Int) := by
  rw [Int.tmod_eq_emod_of_nonneg (by omega)]; rfl
theorem wrap_u {n : Int} (h : 0 ≤ n ∧ n ≤ 65535) : IntKind.wrap .i64 n = n := by
  simp [IntKind.wrap, IntKind.bits, IntKind.signed]
  omega
theorem ordersL_pos (n : Nat) : 0 < (ordersL n).length := by
  have : [] ∈ ordersL n := by
    unfold ordersL ordersUp
    rw [List.mem_flatMap]
    exact ⟨0, by simp, by simp [allO]⟩
  exact List.length_pos_of_mem this
/-- ANY order of some owners, by a number. -/
def anyO (c : Case) (n : Nat) : List Int := (ordersL c.owners.length).getD (n % (ordersL c.owners.length).length) []
theorem anyO_mem (c : Case) (n : Nat) : anyO c n ∈ ordersL c.owners.length := by
  unfold anyO
  have hi := Nat.mod_lt n (ordersL_pos c.owners.length)
  rw [List.getD_eq_getElem?_getD, List.getElem?_eq_getElem hi, Option.getD_some]
  exact List.getElem_mem hi
theorem anyO_ok (c : Case) (n : Nat) : OrdOK c (anyO c n) := orders_ok (anyO_mem c n)
theorem any41_ok {c : Case} (hn6 : c.owners.length ≤ 6) (n : Nat) : PCall Try.prog 41 [encCase c, I n] (IL (anyO c n)) := by
  refine pcall Try.func41 tr41 rs41 fn41 (by simp [Try.ntmps41]) fun _ => ?_
  have hall := orders80_ok hn6
  have hbig := ordersL_len hn6
  have hpos := ordersL_pos c.owners.length
  unfold anyO
  generalize ordersL c.owners.length = L at *
  have hi := Nat.mod_lt n hpos
  have hm := tmod_nat n L.length
  have hl0 : ¬ L.length = 0 := by omega
  have v1 : (n : Int) % (L.length : Int) = ((n % L.length : Nat) : Int) := rfl
  have hne : ¬ L = [] := by intro e; rw [e] at hpos; simp at hpos
  simp -implicitDefEqProofs [m41]
  refine vCall_of hall ?_
  generalize hk : n % L.length = k at *
  simp -implicitDefEqProofs [hl0, hm, hi, r41]
end Go.Proofs.Ytiampdiobdianaa

namespace Go.Proofs.Ytiampdiobdianaa
open Go.Avm

/-! ## The first of the best ones -/
theorem best_spec (c : Case) {ps : List (List Int × List Hold)} : ∀ {n : Nat}, 0 < n → n ≤ ps.length → ∃ k, ∃ hk : k < ps.length, k < n ∧ bestS c (ps.take n) = some ps[k].2 ∧
    ∀ j (hj : j < ps.length), j < n → unknownS c ps[k].2 ≤ unknownS c ps[j].2 ∧ (j < k → unknownS c ps[k].2 < unknownS c ps[j].2)
  | 0, h, _ => by omega
  | n + 1, _, hn => by
    have hlt : n < ps.length := hn
    have hsn : bestS c (ps.take (n + 1)) = bestOf c (bestS c (ps.take n)) ps[n].2 := by
      unfold bestS; rw [take_snoc hlt, List.foldl_append]; rfl
    by_cases h0 : n = 0
    · subst h0
      refine ⟨0, hlt, by omega, by rw [hsn]; rfl, fun j hj hj1 => ?_⟩
      obtain rfl : j = 0 := by omega
      exact ⟨Int.le_refl _, by omega⟩
    · obtain ⟨k, hk, hkn, hb, hmin⟩ := best_spec c (ps := ps) (n := n) (by omega) (by omega)
      rw [hb] at hsn
      unfold bestOf at hsn
      simp only at hsn
      by_cases hu : unknownS c ps[n].2 < unknownS c ps[k].2
      · rw [if_pos hu] at hsn
        refine ⟨n, hlt, by omega, hsn, fun j hj hjn => ?_⟩
        by_cases e : j = n
        · subst e; exact ⟨Int.le_refl _, by omega⟩
        · have := hmin j hj (by omega)
          exact ⟨by omega, fun _ => by omega⟩
      · rw [if_neg hu] at hsn
        refine ⟨k, hk, by omega, hsn, fun j hj hjn => ?_⟩
        by_cases e : j = n
        · subst e; exact ⟨by omega, by omega⟩
        · exact hmin j hj (by omega)
theorem bestS_none {c : Case} (h : bestS c (chainsL c) = none) : chainsL c = [] := by
  cases hc : chainsL c with
  | nil => rfl
  | cons p ps =>
    obtain ⟨k, hk, -, hb, -⟩ := best_spec c (ps := p :: ps) (n := (p :: ps).length) (by simp) (Nat.le_refl _)
    rw [List.take_length] at hb
    rw [hc, hb] at h
    cases h
/-! ## The holds that are told -/
/-- What holds of the holds that are told of an order. -/
structure HoldsOK (c : Case) (o : List Int) (L : List Hold) : Prop where
  who : L.map Hold.who = o
  rng : ∀ i (h : i < L.length), 0 ≤ L[i].who ∧ L[i].who < (c.owners.length : Int) ∧ placeH L L[i].who = i
  first : ∀ h : 0 < L.length, c.printed ≤ L[0].src
  next : ∀ i (h : i + 1 < L.length), (L[i]'(by omega)).til ≤ L[i + 1].src
  life : ∀ i (h : i < L.length), (owerAt c L[i].who.toNat).born ≤ L[i].src ∧ L[i].src ≤ L[i].til ∧ L[i].til ≤ (owerAt c L[i].who.toNat).died ∧ L[i].til ≤ c.now
  marks : ∀ m ∈ c.marks, ∃ k : Nat, placeH L m.owner = k ∧ ∃ h : k < L.length, L[k].src ≤ m.hi ∧ m.lo ≤ L[k].til
  dst : ∀ s ∈ c.sales, s.dst ≠ -1 → ∃ k : Nat, placeH L s.dst = k ∧ ∃ h : k < L.length, L[k].src = s.year
  src : ∀ s ∈ c.sales, s.src ≠ -1 → ∃ k : Nat, placeH L s.src = k ∧ ∃ h : k < L.length, L[k].til = s.year
theorem sale_in {c : Case} {o : List Int} (h : completeB c o = true) {s : Sale} (hs : s ∈ c.sales) : (s.src ≠ -1 → s.src ∈ o) ∧ (s.dst ≠ -1 → s.dst ∈ o) := by
  unfold completeB at h
  rw [Bool.and_eq_true] at h
  have := List.all_eq_true.1 h.2 s hs
  unfold saleIn hasO at this
  simp only [Bool.and_eq_true, Bool.or_eq_true, decide_eq_true_eq] at this
  exact ⟨fun hn => this.1.resolve_left hn, fun hn => this.2.resolve_left hn⟩
theorem holds_ok {c : Case} {o : List Int} (ho : OrdOK c o) {l : List Hold} {T Y : Nat → Int} (h : ChainOf c o l T Y) : HoldsOK c o (cutL l) := by
  obtain ⟨r1, r2, r3⟩ := rules_parts h.rules
  have hlen : (cutL l).length = o.length := by rw [cutL_len]; exact h.holds.1
  have hll := h.holds.1
  have hsrc : ∀ i (hi : i < l.length), (l.getD i ⟨0, 0, 0⟩).src = l[i].src := fun i hi => by
    rw [List.getD_eq_getElem?_getD, List.getElem?_eq_getElem hi, Option.getD_some]
  have hget : ∀ i (hi : i < (cutL l).length), (cutL l)[i].who = own o i ∧ (cutL l)[i].src = (l.getD i ⟨0, 0, 0⟩).src ∧ T i ≤ (cutL l)[i].til ∧ (cutL l)[i].til ≤ gHi c c.sales (own o i) ∧
      (∀ h2 : i + 1 < (cutL l).length, (cutL l)[i].til ≤ (l.getD (i + 1) ⟨0, 0, 0⟩).src) := by
    intro i hi
    have hil : i < l.length := by omega
    have hw := h.holds.2 i hil
    have hF := h.feas.own i (by omega)
    have hgi : l.getD i ⟨0, 0, 0⟩ = l[i] := by rw [List.getD_eq_getElem?_getD, List.getElem?_eq_getElem hil, Option.getD_some]
    rw [cutL_get]
    by_cases e : i + 1 < l.length
    · have hn := h.feas.next i (by omega)
      rw [if_pos e, hgi]
      refine ⟨hw.1, rfl, ?_, ?_, fun _ => ?_⟩
      · show T i ≤ min l[i].til _
        rw [hw.2]; omega
      · show min l[i].til _ ≤ _
        rw [hw.2]; omega
      · show min l[i].til _ ≤ _
        omega
    · rw [if_neg e, hgi]
      exact ⟨hw.1, rfl, by rw [hw.2]; exact hF.2.2.2, by rw [hw.2]; exact Int.le_refl _, fun h2 => by omega⟩
  have hwho : (cutL l).map Hold.who = o := by
    apply List.ext_getElem (by rw [List.length_map, hlen])
    intro i h1 h2
    rw [List.getElem_map, (hget i (by omega)).1, (own_at ho h2).1]
  have hplace : ∀ x, placeH (cutL l) x = at' o x := fun x => by unfold placeH; rw [hwho]
  have hgH : ∀ x : Nat, gHi c c.sales x ≤ (owerAt c x).died ∧ gHi c c.sales x ≤ c.now := fun x => by
    have := (fMin_le (fun s => s.src = (x : Int)) c.sales (min (owerAt c x).died c.now)).1
    have e : gHi c c.sales x = fMin (fun s => s.src = (x : Int)) c.sales (min (owerAt c x).died c.now) := rfl
    omega
  have hbL : ∀ x : Nat, c.printed ≤ bLo c c.sales x ∧ (owerAt c x).born ≤ bLo c c.sales x := fun x => by
    have := (fMax_ge (fun s => s.dst = (x : Int)) c.sales (max c.printed (owerAt c x).born)).1
    have e : bLo c c.sales x = fMax (fun s => s.dst = (x : Int)) c.sales (max c.printed (owerAt c x).born) := rfl
    omega
  refine ⟨hwho, fun i hi => ?_, fun hi => ?_, fun i hi => ?_, fun i hi => ?_, fun m hm => ?_, fun s hs hn => ?_, fun s hs hn => ?_⟩
  · obtain ⟨a1, a2, a3⟩ := own_at ho (i := i) (by omega)
    rw [hplace, (hget i hi).1]
    exact ⟨by omega, by omega, a3⟩
  · rw [(hget 0 hi).2.1]
    have := (h.feas.own 0 (by omega)).1
    have := (hbL (own o 0)).1
    omega
  · rw [(hget (i + 1) hi).2.1]
    exact (hget i (by omega)).2.2.2.2 hi
  · obtain ⟨g1, g2, g3, g4, -⟩ := hget i hi
    have hF := h.feas.own i (by omega)
    have hle := h.feas.le i (by omega)
    have b1 := hbL (own o i)
    have b2 := hgH (own o i)
    rw [g1, Int.toNat_natCast, g2]
    have hle : (l.getD i ⟨0, 0, 0⟩).src ≤ T i := hle
    have hF : bLo c c.sales (own o i) ≤ (l.getD i ⟨0, 0, 0⟩).src ∧ _ := hF
    omega
  · obtain ⟨k, hk, hk1, -⟩ := at_mem (complete_marks r1 m hm)
    obtain ⟨q, hq, rfl⟩ := List.getElem_of_mem hm
    obtain ⟨g1, g2, g3, g4, -⟩ := hget k (by omega)
    have hM := h.feas.marks q hq k hk hk1
    refine ⟨k, by rw [hplace]; exact hk1, by omega, ?_, ?_⟩
    · rw [g2]; have h1 : (l.getD k ⟨0, 0, 0⟩).src ≤ Y q := hM.1; omega
    · omega
  · obtain ⟨k, hk, hk1, -⟩ := at_mem ((sale_in r1 hs).2 hn)
    have hown := own_pos ho hk hk1
    obtain ⟨g1, g2, -⟩ := hget k (by omega)
    have hF := h.feas.own k hk
    have b1 := (fMax_ge (fun s => s.dst = (own o k : Int)) c.sales (max c.printed (owerAt c (own o k)).born)).2 s hs hown
    have b2 := (fMin_le (fun s => s.dst = (own o k : Int)) c.sales c.now).2 s hs hown
    have e1 : bLo c c.sales (own o k) = fMax (fun s => s.dst = (own o k : Int)) c.sales (max c.printed (owerAt c (own o k)).born) := rfl
    have e2 : bHi c c.sales (own o k) = fMin (fun s => s.dst = (own o k : Int)) c.sales c.now := rfl
    refine ⟨k, by rw [hplace]; exact hk1, by omega, ?_⟩
    rw [g2]
    have hF : bLo c c.sales (own o k) ≤ (l.getD k ⟨0, 0, 0⟩).src ∧ (l.getD k ⟨0, 0, 0⟩).src ≤ bHi c c.sales (own o k) ∧ _ := hF
    omega
  · obtain ⟨k, hk, hk1, -⟩ := at_mem ((sale_in r1 hs).1 hn)
    have hown := own_pos ho hk hk1
    obtain ⟨g1, g2, g3, g4, -⟩ := hget k (by omega)
    have hF := h.feas.own k hk
    have b1 := (fMax_ge (fun s => s.src = (own o k : Int)) c.sales (owerAt c (own o k)).born).2 s hs hown
    have b2 := (fMin_le (fun s => s.src = (own o k : Int)) c.sales (min (owerAt c (own o k)).died c.now)).2 s hs hown
    have e1 : gLo c c.sales (own o k) = fMax (fun s => s.src = (own o k : Int)) c.sales (owerAt c (own o k)).born := rfl
    have e2 : gHi c c.sales (own o k) = fMin (fun s => s.src = (own o k : Int)) c.sales (min (owerAt c (own o k)).died c.now) := rfl
    refine ⟨k, by rw [hplace]; exact hk1, by omega, ?_⟩
    omega

/-- The chain that Chain tells. -/
theorem best_chain {c : Case} (hc : c.OK) {l : List Hold} (h : bestS c (chainsL c) = some l) : ∃ k, ∃ hk : k < (chainsL c).length, (chainsL c)[k].2 = l ∧ OrdOK c (chainsL c)[k].1 ∧ solveS c (chainsL c)[k].1 = some l ∧ HoldsOK c (chainsL c)[k].1 (cutL l) ∧
    (∀ j (hj : j < (chainsL c).length), unknownS c l ≤ unknownS c (chainsL c)[j].2 ∧ (j < k → unknownS c l < unknownS c (chainsL c)[j].2)) := by
  have hne : 0 < (chainsL c).length := by
    apply List.length_pos_iff.2
    intro e
    rw [e] at h; cases h
  obtain ⟨k, hk, -, hb, hmin⟩ := best_spec c (ps := chainsL c) hne (Nat.le_refl _)
  rw [List.take_length, h] at hb
  injection hb with hb
  obtain ⟨h1, h2, h3, h4⟩ := chains_at hk
  rw [← hb] at h3
  have ho := orders_ok h4
  obtain ⟨T, Y, hC⟩ := solve_chain hc ho h3
  exact ⟨k, hk, hb.symm, ho, h3, holds_ok ho hC, fun j hj => by rw [hb]; exact hmin j hj hj⟩
end Go.Proofs.Ytiampdiobdianaa

namespace Go.Proofs.Ytiampdiobdianaa
open Go.Avm

theorem ordOK_err {c : Case} {o : List Int} (ho : OrdOK c o) : orderE c o = 0 := by
  unfold orderE
  rw [out_none (fun x hx => by have := ho.rng x hx; omega), if_neg (by simp), if_pos ho.nd]
theorem why_some {c : Case} (he : errE c = 0) {o : List Int} (ho : OrdOK c o) {l : List Hold} (h : solveS c o = some l) : whyS c o = ⟨unkO c o, 0⟩ := by
  unfold whyS
  rw [if_neg (not_not_intro he), ordOK_err ho, if_neg (by simp), h, ← solve_unknown (Case.ok he) ho h]
theorem why_none {c : Case} (he : errE c = 0) {o : List Int} (ho : OrdOK c o) (h : solveS c o = none) : whyS c o = ⟨0, 9⟩ := by
  unfold whyS
  rw [if_neg (not_not_intro he), ordOK_err ho, if_neg (by simp), h]
theorem chain_none {c : Case} (he : errE c = 0) (hb : bestS c (chainsL c) = none) : chainS c = ⟨[], 0, 8⟩ := by
  unfold chainS; rw [if_neg (not_not_intro he), hb]
theorem chain_some {c : Case} (he : errE c = 0) {l : List Hold} (hb : bestS c (chainsL c) = some l) : chainS c = ⟨cutL l, unknownS c l, 0⟩ := by
  unfold chainS; rw [if_neg (not_not_intro he), hb]
theorem chains_pos {c : Case} {o : List Int} (ho : OrdOK c o) {l : List Hold} (h : solveS c o = some l) : ∃ j, ∃ hj : j < (chainsL c).length, (chainsL c)[j] = (o, l) := by
  have hm : (o, l) ∈ chainsL c := by
    unfold chainsL chainsOf
    rw [List.mem_filterMap]
    exact ⟨o, mem_orders ho, by unfold solved; rw [h]; rfl⟩
  obtain ⟨j, hj, e⟩ := List.getElem_of_mem hm
  exact ⟨j, hj, e⟩
theorem no_chain {c : Case} (hb : bestS c (chainsL c) = none) {o : List Int} (ho : OrdOK c o) : solveS c o = none := by
  cases h : solveS c o with
  | none => rfl
  | some l =>
    obtain ⟨j, hj, -⟩ := chains_pos ho h
    rw [bestS_none hb] at hj
    simp at hj
theorem best_some_iff {c : Case} : (bestS c (chainsL c)).isSome = someB c := by
  unfold someB
  cases h : bestS c (chainsL c) with
  | none => rw [bestS_none h]; rfl
  | some l =>
    cases hc : chainsL c with
    | nil => rw [hc] at h; cases h
    | cons p ps => rfl
end Go.Proofs.Ytiampdiobdianaa

namespace Go.Proofs.Ytiampdiobdianaa
open Go.Avm

theorem inC_at {c : Case} {i : Nat} {y : Int} {j : Nat} (hj : j < c.marks.length) : (inC c i y).marks[j]'(by simpa [inC] using hj) = if i = j then setYear c.marks[j] y else c.marks[j] := by
  show (c.marks.set i (setYear (c.marks.getD i mkD) y))[j]'(by simpa using hj) = _
  rw [List.getElem_set]
  by_cases e : i = j
  · subst e; rw [if_pos rfl, if_pos rfl, mk_at hj]
  · rw [if_neg e, if_neg e]
end Go.Proofs.Ytiampdiobdianaa

namespace Go.Proofs.Ytiampdiobdianaa
open Go.Avm

/-- Of the first case less is told: each of its marks is one of the other's, by number, of as wide a span at least; years are as wide at least. -/
structure Weak (c d : Case) (f : Nat → Nat) : Prop where
  printed : c.printed = d.printed
  now : c.now = d.now
  owners : c.owners.length = d.owners.length
  marks : ∀ q (hq : q < c.marks.length), ∃ hd : f q < d.marks.length, d.marks[f q].owner = c.marks[q].owner ∧ c.marks[q].lo ≤ d.marks[f q].lo ∧ d.marks[f q].hi ≤ c.marks[q].hi ∧ (c.marks[q].upon ≠ -1 → d.marks[f q].upon = (f c.marks[q].upon.toNat : Nat))
  sales : ∀ s ∈ c.sales, ∃ t ∈ d.sales, t.src = s.src ∧ t.dst = s.dst
  bnd : ∀ x, x < c.owners.length → bLo c c.sales x ≤ bLo d d.sales x ∧ bHi d d.sales x ≤ bHi c c.sales x ∧ gLo c c.sales x ≤ gLo d d.sales x ∧ gHi d d.sales x ≤ gHi c c.sales x
theorem Weak.ord {c d : Case} {f : Nat → Nat} (h : Weak c d f) {o : List Int} : OrdOK c o ↔ OrdOK d o :=
  ⟨fun g => ⟨fun x hx => by have := g.rng x hx; rw [h.owners] at this; exact this, g.nd⟩, fun g => ⟨fun x hx => by have := g.rng x hx; rw [← h.owners] at this; exact this, g.nd⟩⟩
theorem Weak.rules {c d : Case} {f : Nat → Nat} (h : Weak c d f) (hc : c.OK) {o : List Int} (hr : rulesB d o = true) : rulesB c o = true := by
  obtain ⟨r1, r2, r3⟩ := rules_parts hr
  have hm := complete_marks r1
  have g1 : completeB c o = true := by
    unfold completeB
    rw [Bool.and_eq_true]
    constructor
    · rw [List.all_eq_true]
      intro m hmm
      obtain ⟨q, hq, rfl⟩ := List.getElem_of_mem hmm
      obtain ⟨hd, ho, -⟩ := h.marks q hq
      have := hm _ (List.getElem_mem hd)
      unfold markIn
      rw [← ho]; simpa using this
    · rw [List.all_eq_true]
      intro s hs
      obtain ⟨t, ht, h1, h2⟩ := h.sales s hs
      have := sale_in r1 ht
      unfold saleIn hasO
      rw [← h1, ← h2]
      simp only [Bool.and_eq_true, Bool.or_eq_true, decide_eq_true_eq]
      constructor
      · by_cases e : t.src = -1
        · exact .inl e
        · exact .inr (this.1 e)
      · by_cases e : t.dst = -1
        · exact .inl e
        · exact .inr (this.2 e)
  have g2 : besideB c o = true := by
    unfold besideB at r2 ⊢
    rw [List.all_eq_true] at r2 ⊢
    intro s hs
    obtain ⟨t, ht, h1, h2⟩ := h.sales s hs
    have := r2 t ht
    unfold nextTo at this ⊢
    rw [← h1, ← h2]; exact this
  have g3 : layeredB c o = true := by
    unfold layeredB
    rw [List.all_eq_true]
    intro m hmm
    obtain ⟨q, hq, rfl⟩ := List.getElem_of_mem hmm
    have hup := hc.upon q hq
    obtain ⟨hd, ho, -, -, hu⟩ := h.marks q hq
    unfold under
    by_cases hn : c.marks[q].upon = -1
    · rw [decide_eq_true hn]; rfl
    · have hu := hu hn
      have hul : c.marks[q].upon.toNat < c.marks.length := by omega
      obtain ⟨hd2, ho2, -⟩ := h.marks _ hul
      have := layered_pos r3 hd (by rw [hu]; omega)
      rw [hu, Int.toNat_natCast, mk_at hd2, ho, ho2] at this
      rw [mk_at hul, decide_eq_false this]
      simp
  unfold rulesB
  rw [g1, g2, g3]; rfl
theorem Weak.feas {c d : Case} {f : Nat → Nat} (h : Weak c d f) {o : List Int} (ho : OrdOK c o) {S T Y : Nat → Int} (hF : Feas d o S T Y) : Feas c o S T fun q => Y (f q) := by
  refine ⟨hF.le, hF.next, fun i hi => ?_, fun q hq i hi he => ?_, fun q hq i hi he hn => ?_⟩
  · have g := hF.own i hi
    have b := h.bnd (own o i) (own_at ho hi).2.1
    omega
  · obtain ⟨hd, h1, h2, h3, -⟩ := h.marks q hq
    have := hF.marks (f q) hd i hi (by rw [h1]; exact he)
    show S i ≤ Y (f q) ∧ Y (f q) ≤ T i ∧ c.marks[q].lo ≤ Y (f q) ∧ Y (f q) ≤ c.marks[q].hi
    omega
  · obtain ⟨hd, h1, -, -, h4⟩ := h.marks q hq
    have h4 := h4 hn
    have := hF.upon (f q) hd i hi (by rw [h1]; exact he) (by rw [h4]; omega)
    rw [h4, Int.toNat_natCast] at this
    exact this
theorem gapO_mono {c d : Case} : ∀ {o : List Int} {p p' : Int}, (∀ x ∈ o, bLo c c.sales x.toNat ≤ bLo d d.sales x.toNat ∧ gHi d d.sales x.toNat ≤ gHi c c.sales x.toNat) → p' ≤ p → gapO c p o ≤ gapO d p' o ∧ lastO d p' o ≤ lastO c p o
  | [], p, p', _, hp => ⟨Int.le_refl _, hp⟩
  | x :: o, p, p', h, hp => by
    have hx := h x (by simp)
    obtain ⟨i1, i2⟩ := gapO_mono (o := o) (p := gHi c c.sales x.toNat) (p' := gHi d d.sales x.toNat) (fun y hy => h y (by simp [hy])) hx.2
    refine ⟨?_, i2⟩
    show (if p < bLo c c.sales x.toNat then 1 else 0) + gapO c (gHi c c.sales x.toNat) o ≤ (if p' < bLo d d.sales x.toNat then 1 else 0) + gapO d (gHi d d.sales x.toNat) o
    by_cases hc : p < bLo c c.sales x.toNat
    · rw [if_pos hc, if_pos (by omega)]; omega
    · rw [if_neg hc]; split <;> omega
theorem unkO_mono {c d : Case} (hp : c.printed = d.printed) (hn : c.now = d.now) {o : List Int} (h : ∀ x ∈ o, bLo c c.sales x.toNat ≤ bLo d d.sales x.toNat ∧ gHi d d.sales x.toNat ≤ gHi c c.sales x.toNat) : unkO c o ≤ unkO d o := by
  obtain ⟨i1, i2⟩ := gapO_mono (p := c.printed) (p' := d.printed) h (by omega)
  unfold unkO
  by_cases e : o = []
  · rw [if_pos e, if_pos e]; exact Int.le_refl _
  · rw [if_neg e, if_neg e]
    by_cases hc : lastO c c.printed o < c.now
    · rw [if_pos hc, if_pos (by omega)]; omega
    · rw [if_neg hc]; split <;> omega
theorem Weak.unk {c d : Case} {f : Nat → Nat} (h : Weak c d f) {o : List Int} (ho : OrdOK c o) : unkO c o ≤ unkO d o := by
  refine unkO_mono h.printed h.now fun x hx => ?_
  have hr := ho.rng x hx
  have := h.bnd x.toNat (by omega)
  exact ⟨this.1, this.2.2.2⟩
theorem Weak.solve {c d : Case} {f : Nat → Nat} (h : Weak c d f) (hc : c.OK) (hd : d.OK) {o : List Int} (ho : OrdOK c o) {l : List Hold} (hs : solveS d o = some l) : ∃ l', solveS c o = some l' ∧ unkO c o ≤ unkO d o := by
  obtain ⟨T, Y, hC⟩ := solve_chain hd (h.ord.1 ho) hs
  obtain ⟨l', hl'⟩ := feas_solve hc ho (h.rules hc hC.rules) (h.feas ho hC.feas)
  exact ⟨l', hl', h.unk ho⟩
theorem Weak.chain {c d : Case} {f : Nat → Nat} (h : Weak c d f) (hc : c.OK) (hd : d.OK) (hs : someB d = true) : someB c = true := by
  obtain ⟨o, ho, l, hl⟩ := someB_iff.1 hs
  obtain ⟨l', hl', -⟩ := h.solve hc hd (h.ord.2 ho) hl
  exact someB_iff.2 ⟨o, h.ord.2 ho, l', hl'⟩
theorem Weak.best {c d : Case} {f : Nat → Nat} (h : Weak c d f) (hc : c.OK) (hd : d.OK) {l : List Hold} (hs : bestS d (chainsL d) = some l) : ∃ l', bestS c (chainsL c) = some l' ∧ unknownS c l' ≤ unknownS d l := by
  obtain ⟨k, hk, h2, ho, hs2, -, -⟩ := best_chain hd hs
  obtain ⟨l1, hl1, hu⟩ := h.solve hc hd (h.ord.2 ho) hs2
  cases hb : bestS c (chainsL c) with
  | none => rw [no_chain hb (h.ord.2 ho)] at hl1; cases hl1
  | some l' =>
    obtain ⟨j, hj, e⟩ := chains_pos (h.ord.2 ho) hl1
    obtain ⟨k2, hk2, _, _, _, _, hmin⟩ := best_chain hc hb
    have := (hmin j hj).1
    rw [e] at this
    rw [solve_unknown hd ho hs2]
    have e2 := solve_unknown hc (h.ord.2 ho) hl1
    refine ⟨l', rfl, ?_⟩
    simp only at this
    omega
/-- A mark of a year of having, told of both. -/
theorem Weak.had {c d : Case} {f : Nat → Nat} (h : Weak c d f) (hc : c.OK) (o : Nat) (y : Int) : Weak (hadC c o y) (hadC d o y) fun q => if q < c.marks.length then f q else d.marks.length := by
  refine ⟨h.printed, h.now, h.owners, fun q hq => ?_, h.sales, h.bnd⟩
  have hq' : q < c.marks.length + 1 := by simpa [hadC] using hq
  by_cases e : q < c.marks.length
  · obtain ⟨hd, h1, h2, h3, h4⟩ := h.marks q e
    have hup := hc.upon q e
    simp only [if_pos e]
    have e1 : (hadC c o y).marks[q] = c.marks[q] := by simp only [hadC]; rw [List.getElem_append_left e]
    refine ⟨by simp [hadC]; omega, ?_⟩
    have e2 : (hadC d o y).marks[f q]'(by simp [hadC]; omega) = d.marks[f q] := by simp only [hadC]; rw [List.getElem_append_left hd]
    rw [e1, e2]
    exact ⟨h1, h2, h3, fun hn => by rw [if_pos (by omega)]; exact h4 hn⟩
  · have e0 : q = c.marks.length := by omega
    subst e0
    simp only [if_neg e]
    refine ⟨by simp [hadC], ?_⟩
    simp [hadC]
/-- A mark of a known year, told of both. -/
theorem Weak.inY {c d : Case} (h : Weak c d id) (i : Nat) (y : Int) : Weak (inC c i y) (inC d i y) id := by
  refine ⟨h.printed, h.now, h.owners, fun q hq => ?_, h.sales, h.bnd⟩
  have hq' : q < c.marks.length := by simpa [inC] using hq
  obtain ⟨hd, h1, h2, h3, h4⟩ := h.marks q hq'
  simp only [id] at hd h1 h2 h3 h4 ⊢
  refine ⟨by simpa [inC] using hd, ?_⟩
  rw [inC_at hq', inC_at hd]
  by_cases e : i = q
  · rw [if_pos e, if_pos e]
    exact ⟨h1, Int.le_refl _, Int.le_refl _, h4⟩
  · rw [if_neg e, if_neg e]
    exact ⟨h1, h2, h3, h4⟩
/-- Years and owners are no wider. -/
theorem Weak.owned {c d : Case} {f : Nat → Nat} (h : Weak c d f) (hc : c.OK) (hd : d.OK) (hc8 : c.marks.length ≤ 8) (hd8 : d.marks.length ≤ 8) {y : Int} (hy : c.printed ≤ y ∧ y ≤ c.now) : ∀ x ∈ ownedS d y, x ∈ ownedS c y := by
  intro x hx
  obtain ⟨j, rfl, hj, hs⟩ := selT_mem hx
  unfold ownedS
  rw [mem_selT]
  have hj' : j < c.owners.length := by rw [h.owners]; exact hj
  refine ⟨hj', ?_⟩
  exact (h.had hc j y).chain (hadC_ok hc hc8 hj' hy) (hadC_ok hd hd8 hj (by rw [← h.printed, ← h.now]; exact hy)) hs
theorem Weak.years {c d : Case} (h : Weak c d id) (hc : c.OK) (hd : d.OK) (hs : someB d = true) {i : Nat} (hi : i < c.marks.length) (hid : i < d.marks.length) (hm : d.marks[i].lo = c.marks[i].lo ∧ d.marks[i].hi = c.marks[i].hi) : yearLoP c i ≤ yearLoP d i ∧ yearHiP d i ≤ yearHiP c i := by
  have hsc := h.chain hc hd hs
  obtain ⟨y, h1, h2, h3⟩ := year_some hd hs hid
  have hmk := hc.marks _ (List.getElem_mem hi)
  have hp : ∀ z, c.marks[i].lo ≤ z ∧ z ≤ c.marks[i].hi → madeP d i z = true → madeP c i z = true := fun z hz e =>
    (h.inY i z).chain (inC_ok hc (by omega)) (inC_ok hd (by rw [← h.printed, ← h.now]; omega)) e
  rw [yearHi_eq hc hsc hi, yearHi_eq hd hs hid]
  unfold yearLoP
  rw [mk_at hi, mk_at hid, hm.1, hm.2] at *
  obtain ⟨a1, a2, a3⟩ := upTo_spec (madeP d i) (c.marks[i].hi - c.marks[i].lo).toNat c.marks[i].lo y h1 (by omega) h3
  obtain ⟨b1, b2, b3⟩ := dnTo_spec (madeP d i) (c.marks[i].hi - c.marks[i].lo).toNat c.marks[i].hi y h2 (by omega) h3
  have a4 := upTo_in (madeP d i) (c.marks[i].hi - c.marks[i].lo).toNat c.marks[i].lo
  have b4 := dnTo_in (madeP d i) (c.marks[i].hi - c.marks[i].lo).toNat c.marks[i].hi
  obtain ⟨-, a5, -⟩ := upTo_spec (madeP c i) (c.marks[i].hi - c.marks[i].lo).toNat c.marks[i].lo _ (by omega) (by omega) (hp _ (by omega) a1)
  obtain ⟨-, b5, -⟩ := dnTo_spec (madeP c i) (c.marks[i].hi - c.marks[i].lo).toNat c.marks[i].hi _ (by omega) (by omega) (hp _ (by omega) b1)
  exact ⟨a5, b5⟩
end Go.Proofs.Ytiampdiobdianaa

