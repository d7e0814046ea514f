/- Contracts: the laws' helpers that look at holds; any order. Plain: what holds of the chain with the fewest unknown owners. Contracts: which list comes first; what Why says of an order of the laws. Plain: cases that are changed are still cases: a mark of a known year, a year of having. Plain: a case of which less is told. Plain: a case of which time is turned round. -/
import Derived.Test.YtiampdiobdianaaZJ
import Derived.Test.YtiampdiobdianaaZK
namespace Go.Proofs.Ytiampdiobdianaa
open Go.Avm

theorem valid37_ok (c : Case) : PCall Try.prog 37 [encCase c] (B (decide (errE c = 0))) := by
  refine pcall Try.func37 tr37 rs37 fn37 (by simp [Try.ntmps37]) fun _ => ?_
  have hc := checkR_ok c
  obtain ⟨E, hE⟩ : ∃ E, E = errE c := ⟨_, rfl⟩
  have hc : PCall Try.prog 17 [encCase c] (.tuple [I (checkS c).1, I (checkS c).2.1, I E]) := by rw [hE]; exact hc
  rw [← hE]
  simp -implicitDefEqProofs [m37]
  refine vCall_of hc ?_
  simp -implicitDefEqProofs [r37]
  by_cases h : E = 0 <;> simp [h]

/-- The place of an owner among holds; below 0: none. -/
def placeH (l : List Hold) (o : Int) : Int := at' (l.map Hold.who) o
/-! ## Any order, turns -/
theorem tmod_nat (a b : Nat) : ((a : Int).tmod (b : Int)) = ((a % b : Nat) : Int) := by
  rw [Int.tmod_eq_emod_of_nonneg (by omega)]; rfl
theorem wrap_u {n : Int} (h : 0 ≤ n ∧ n ≤ 65535) : IntKind.wrap .i64 n = n := by
  simp [IntKind.wrap, IntKind.bits, IntKind.signed]
  omega
theorem ordersL_pos (n : Nat) : 0 < (ordersL n).length := by
  have : [] ∈ ordersL n := by
    unfold ordersL ordersUp
    rw [List.mem_flatMap]
    exact ⟨0, by simp, by simp [allO]⟩
  exact List.length_pos_of_mem this
/-- ANY order of some owners, by a number. -/
def anyO (c : Case) (n : Nat) : List Int := (ordersL c.owners.length).getD (n % (ordersL c.owners.length).length) []
theorem anyO_mem (c : Case) (n : Nat) : anyO c n ∈ ordersL c.owners.length := by
  unfold anyO
  have hi := Nat.mod_lt n (ordersL_pos c.owners.length)
  rw [List.getD_eq_getElem?_getD, List.getElem?_eq_getElem hi, Option.getD_some]
  exact List.getElem_mem hi
theorem anyO_ok (c : Case) (n : Nat) : OrdOK c (anyO c n) := orders_ok (anyO_mem c n)
theorem any41_ok {c : Case} (hn6 : c.owners.length ≤ 6) (n : Nat) : PCall Try.prog 41 [encCase c, I n] (IL (anyO c n)) := by
  refine pcall Try.func41 tr41 rs41 fn41 (by simp [Try.ntmps41]) fun _ => ?_
  have hall := orders80_ok hn6
  have hbig := ordersL_len hn6
  have hpos := ordersL_pos c.owners.length
  unfold anyO
  generalize ordersL c.owners.length = L at *
  have hi := Nat.mod_lt n hpos
  have hm := tmod_nat n L.length
  have hl0 : ¬ L.length = 0 := by omega
  have v1 : (n : Int) % (L.length : Int) = ((n % L.length : Nat) : Int) := rfl
  have hne : ¬ L = [] := by intro e; rw [e] at hpos; simp at hpos
  simp -implicitDefEqProofs [m41]
  refine vCall_of hall ?_
  generalize hk : n % L.length = k at *
  simp -implicitDefEqProofs [hl0, hm, hi, r41]
end Go.Proofs.Ytiampdiobdianaa

namespace Go.Proofs.Ytiampdiobdianaa
open Go.Avm

/-! ## The first of the best ones -/
theorem best_spec (c : Case) {ps : List (List Int × List Hold)} : ∀ {n : Nat}, 0 < n → n ≤ ps.length → ∃ k, ∃ hk : k < ps.length, k < n ∧ bestS c (ps.take n) = some ps[k].2 ∧
    ∀ j (hj : j < ps.length), j < n → unknownS c ps[k].2 ≤ unknownS c ps[j].2 ∧ (j < k → unknownS c ps[k].2 < unknownS c ps[j].2)
  | 0, h, _ => by omega
  | n + 1, _, hn => by
    have hlt : n < ps.length := hn
    have hsn : bestS c (ps.take (n + 1)) = bestOf c (bestS c (ps.take n)) ps[n].2 := by
      unfold bestS; rw [take_snoc hlt, List.foldl_append]; rfl
    by_cases h0 : n = 0
    · subst h0
      refine ⟨0, hlt, by omega, by rw [hsn]; rfl, fun j hj hj1 => ?_⟩
      obtain rfl : j = 0 := by omega
      exact ⟨Int.le_refl _, by omega⟩
    · obtain ⟨k, hk, hkn, hb, hmin⟩ := best_spec c (ps := ps) (n := n) (by omega) (by omega)
      rw [hb] at hsn
      unfold bestOf at hsn
      simp only at hsn
      by_cases hu : unknownS c ps[n].2 < unknownS c ps[k].2
      · rw [if_pos hu] at hsn
        refine ⟨n, hlt, by omega, hsn, fun j hj hjn => ?_⟩
        by_cases e : j = n
        · subst e; exact ⟨Int.le_refl _, by omega⟩
        · have := hmin j hj (by omega)
          exact ⟨by omega, fun _ => by omega⟩
      · rw [if_neg hu] at hsn
        refine ⟨k, hk, by omega, hsn, fun j hj hjn => ?_⟩
        by_cases e : j = n
        · subst e; exact ⟨by omega, by omega⟩
        · exact hmin j hj (by omega)
theorem bestS_none {c : Case} (h : bestS c (chainsL c) = none) : chainsL c = [] := by
  cases hc : chainsL c with
  | nil => rfl
  | cons p ps =>
    obtain ⟨k, hk, -, hb, -⟩ := best_spec c (ps := p :: ps) (n := (p :: ps).length) (by simp) (Nat.le_refl _)
    rw [List.take_length] at hb
    rw [hc, hb] at h
    cases h
/-! ## The holds that are told -/
/-- What holds of the holds that are told of an order. -/
structure HoldsOK (c : Case) (o : List Int) (L : List Hold) : Prop where
  who : L.map Hold.who = o
  rng : ∀ i (h : i < L.length), 0 ≤ L[i].who ∧ L[i].who < (c.owners.length : Int) ∧ placeH L L[i].who = i
  first : ∀ h : 0 < L.length, c.printed ≤ L[0].src
  next : ∀ i (h : i + 1 < L.length), (L[i]'(by omega)).til ≤ L[i + 1].src
  life : ∀ i (h : i < L.length), (owerAt c L[i].who.toNat).born ≤ L[i].src ∧ L[i].src ≤ L[i].til ∧ L[i].til ≤ (owerAt c L[i].who.toNat).died ∧ L[i].til ≤ c.now
  marks : ∀ m ∈ c.marks, ∃ k : Nat, placeH L m.owner = k ∧ ∃ h : k < L.length, L[k].src ≤ m.hi ∧ m.lo ≤ L[k].til
  dst : ∀ s ∈ c.sales, s.dst ≠ -1 → ∃ k : Nat, placeH L s.dst = k ∧ ∃ h : k < L.length, L[k].src = s.year
  src : ∀ s ∈ c.sales, s.src ≠ -1 → ∃ k : Nat, placeH L s.src = k ∧ ∃ h : k < L.length, L[k].til = s.year
theorem sale_in {c : Case} {o : List Int} (h : completeB c o = true) {s : Sale} (hs : s ∈ c.sales) : (s.src ≠ -1 → s.src ∈ o) ∧ (s.dst ≠ -1 → s.dst ∈ o) := by
  unfold completeB at h
  rw [Bool.and_eq_true] at h
  have := List.all_eq_true.1 h.2 s hs
  unfold saleIn hasO at this
  simp only [Bool.and_eq_true, Bool.or_eq_true, decide_eq_true_eq] at this
  exact ⟨fun hn => this.1.resolve_left hn, fun hn => this.2.resolve_left hn⟩
theorem holds_ok {c : Case} {o : List Int} (ho : OrdOK c o) {l : List Hold} {T Y : Nat → Int} (h : ChainOf c o l T Y) : HoldsOK c o (cutL l) := by
  obtain ⟨r1, r2, r3⟩ := rules_parts h.rules
  have hlen : (cutL l).length = o.length := by rw [cutL_len]; exact h.holds.1
  have hll := h.holds.1
  have hsrc : ∀ i (hi : i < l.length), (l.getD i ⟨0, 0, 0⟩).src = l[i].src := fun i hi => by
    rw [List.getD_eq_getElem?_getD, List.getElem?_eq_getElem hi, Option.getD_some]
  have hget : ∀ i (hi : i < (cutL l).length), (cutL l)[i].who = own o i ∧ (cutL l)[i].src = (l.getD i ⟨0, 0, 0⟩).src ∧ T i ≤ (cutL l)[i].til ∧ (cutL l)[i].til ≤ gHi c c.sales (own o i) ∧
      (∀ h2 : i + 1 < (cutL l).length, (cutL l)[i].til ≤ (l.getD (i + 1) ⟨0, 0, 0⟩).src) := by
    intro i hi
    have hil : i < l.length := by omega
    have hw := h.holds.2 i hil
    have hF := h.feas.own i (by omega)
    have hgi : l.getD i ⟨0, 0, 0⟩ = l[i] := by rw [List.getD_eq_getElem?_getD, List.getElem?_eq_getElem hil, Option.getD_some]
    rw [cutL_get]
    by_cases e : i + 1 < l.length
    · have hn := h.feas.next i (by omega)
      rw [if_pos e, hgi]
      refine ⟨hw.1, rfl, ?_, ?_, fun _ => ?_⟩
      · show T i ≤ min l[i].til _
        rw [hw.2]; omega
      · show min l[i].til _ ≤ _
        rw [hw.2]; omega
      · show min l[i].til _ ≤ _
        omega
    · rw [if_neg e, hgi]
      exact ⟨hw.1, rfl, by rw [hw.2]; exact hF.2.2.2, by rw [hw.2]; exact Int.le_refl _, fun h2 => by omega⟩
  have hwho : (cutL l).map Hold.who = o := by
    apply List.ext_getElem (by rw [List.length_map, hlen])
    intro i h1 h2
    rw [List.getElem_map, (hget i (by omega)).1, (own_at ho h2).1]
  have hplace : ∀ x, placeH (cutL l) x = at' o x := fun x => by unfold placeH; rw [hwho]
  have hgH : ∀ x : Nat, gHi c c.sales x ≤ (owerAt c x).died ∧ gHi c c.sales x ≤ c.now := fun x => by
    have := (fMin_le (fun s => s.src = (x : Int)) c.sales (min (owerAt c x).died c.now)).1
    have e : gHi c c.sales x = fMin (fun s => s.src = (x : Int)) c.sales (min (owerAt c x).died c.now) := rfl
    omega
  have hbL : ∀ x : Nat, c.printed ≤ bLo c c.sales x ∧ (owerAt c x).born ≤ bLo c c.sales x := fun x => by
    have := (fMax_ge (fun s => s.dst = (x : Int)) c.sales (max c.printed (owerAt c x).born)).1
    have e : bLo c c.sales x = fMax (fun s => s.dst = (x : Int)) c.sales (max c.printed (owerAt c x).born) := rfl
    omega
  refine ⟨hwho, fun i hi => ?_, fun hi => ?_, fun i hi => ?_, fun i hi => ?_, fun m hm => ?_, fun s hs hn => ?_, fun s hs hn => ?_⟩
  · obtain ⟨a1, a2, a3⟩ := own_at ho (i := i) (by omega)
    rw [hplace, (hget i hi).1]
    exact ⟨by omega, by omega, a3⟩
  · rw [(hget 0 hi).2.1]
    have := (h.feas.own 0 (by omega)).1
    have := (hbL (own o 0)).1
    omega
  · rw [(hget (i + 1) hi).2.1]
    exact (hget i (by omega)).2.2.2.2 hi
  · obtain ⟨g1, g2, g3, g4, -⟩ := hget i hi
    have hF := h.feas.own i (by omega)
    have hle := h.feas.le i (by omega)
    have b1 := hbL (own o i)
    have b2 := hgH (own o i)
    rw [g1, Int.toNat_natCast, g2]
    have hle : (l.getD i ⟨0, 0, 0⟩).src ≤ T i := hle
    have hF : bLo c c.sales (own o i) ≤ (l.getD i ⟨0, 0, 0⟩).src ∧ _ := hF
    omega
  · obtain ⟨k, hk, hk1, -⟩ := at_mem (complete_marks r1 m hm)
    obtain ⟨q, hq, rfl⟩ := List.getElem_of_mem hm
    obtain ⟨g1, g2, g3, g4, -⟩ := hget k (by omega)
    have hM := h.feas.marks q hq k hk hk1
    refine ⟨k, by rw [hplace]; exact hk1, by omega, ?_, ?_⟩
    · rw [g2]; have h1 : (l.getD k ⟨0, 0, 0⟩).src ≤ Y q := hM.1; omega
    · omega
  · obtain ⟨k, hk, hk1, -⟩ := at_mem ((sale_in r1 hs).2 hn)
    have hown := own_pos ho hk hk1
    obtain ⟨g1, g2, -⟩ := hget k (by omega)
    have hF := h.feas.own k hk
    have b1 := (fMax_ge (fun s => s.dst = (own o k : Int)) c.sales (max c.printed (owerAt c (own o k)).born)).2 s hs hown
    have b2 := (fMin_le (fun s => s.dst = (own o k : Int)) c.sales c.now).2 s hs hown
    have e1 : bLo c c.sales (own o k) = fMax (fun s => s.dst = (own o k : Int)) c.sales (max c.printed (owerAt c (own o k)).born) := rfl
    have e2 : bHi c c.sales (own o k) = fMin (fun s => s.dst = (own o k : Int)) c.sales c.now := rfl
    refine ⟨k, by rw [hplace]; exact hk1, by omega, ?_⟩
    rw [g2]
    have hF : bLo c c.sales (own o k) ≤ (l.getD k ⟨0, 0, 0⟩).src ∧ (l.getD k ⟨0, 0, 0⟩).src ≤ bHi c c.sales (own o k) ∧ _ := hF
    omega
  · obtain ⟨k, hk, hk1, -⟩ := at_mem ((sale_in r1 hs).1 hn)
    have hown := own_pos ho hk hk1
    obtain ⟨g1, g2, g3, g4, -⟩ := hget k (by omega)
    have hF := h.feas.own k hk
    have b1 := (fMax_ge (fun s => s.src = (own o k : Int)) c.sales (owerAt c (own o k)).born).2 s hs hown
    have b2 := (fMin_le (fun s => s.src = (own o k : Int)) c.sales (min (owerAt c (own o k)).died c.now)).2 s hs hown
    have e1 : gLo c c.sales (own o k) = fMax (fun s => s.src = (own o k : Int)) c.sales (owerAt c (own o k)).born := rfl
    have e2 : gHi c c.sales (own o k) = fMin (fun s => s.src = (own o k : Int)) c.sales (min (owerAt c (own o k)).died c.now) := rfl
    refine ⟨k, by rw [hplace]; exact hk1, by omega, ?_⟩
    omega

/-- The chain that Chain tells. -/
theorem best_chain {c : Case} (hc : c.OK) {l : List Hold} (h : bestS c (chainsL c) = some l) : ∃ k, ∃ hk : k < (chainsL c).length, (chainsL c)[k].2 = l ∧ OrdOK c (chainsL c)[k].1 ∧ solveS c (chainsL c)[k].1 = some l ∧ HoldsOK c (chainsL c)[k].1 (cutL l) ∧
    (∀ j (hj : j < (chainsL c).length), unknownS c l ≤ unknownS c (chainsL c)[j].2 ∧ (j < k → unknownS c l < unknownS c (chainsL c)[j].2)) := by
  have hne : 0 < (chainsL c).length := by
    apply List.length_pos_iff.2
    intro e
    rw [e] at h; cases h
  obtain ⟨k, hk, -, hb, hmin⟩ := best_spec c (ps := chainsL c) hne (Nat.le_refl _)
  rw [List.take_length, h] at hb
  injection hb with hb
  obtain ⟨h1, h2, h3, h4⟩ := chains_at hk
  rw [← hb] at h3
  have ho := orders_ok h4
  obtain ⟨T, Y, hC⟩ := solve_chain hc ho h3
  exact ⟨k, hk, hb.symm, ho, h3, holds_ok ho hC, fun j hj => by rw [hb]; exact hmin j hj hj⟩
end Go.Proofs.Ytiampdiobdianaa

namespace Go.Proofs.Ytiampdiobdianaa
open Go.Avm

theorem ordOK_err {c : Case} {o : List Int} (ho : OrdOK c o) : orderE c o = 0 := by
  unfold orderE
  rw [out_none (fun x hx => by have := ho.rng x hx; omega), if_neg (by simp), if_pos ho.nd]
theorem why_some {c : Case} (he : errE c = 0) {o : List Int} (ho : OrdOK c o) {l : List Hold} (h : solveS c o = some l) : whyS c o = ⟨unkO c o, 0⟩ := by
  unfold whyS
  rw [if_neg (not_not_intro he), ordOK_err ho, if_neg (by simp), h, ← solve_unknown (Case.ok he) ho h]
theorem why_none {c : Case} (he : errE c = 0) {o : List Int} (ho : OrdOK c o) (h : solveS c o = none) : whyS c o = ⟨0, 9⟩ := by
  unfold whyS
  rw [if_neg (not_not_intro he), ordOK_err ho, if_neg (by simp), h]
theorem chain_none {c : Case} (he : errE c = 0) (hb : bestS c (chainsL c) = none) : chainS c = ⟨[], 0, 8⟩ := by
  unfold chainS; rw [if_neg (not_not_intro he), hb]
theorem chain_some {c : Case} (he : errE c = 0) {l : List Hold} (hb : bestS c (chainsL c) = some l) : chainS c = ⟨cutL l, unknownS c l, 0⟩ := by
  unfold chainS; rw [if_neg (not_not_intro he), hb]
theorem chains_pos {c : Case} {o : List Int} (ho : OrdOK c o) {l : List Hold} (h : solveS c o = some l) : ∃ j, ∃ hj : j < (chainsL c).length, (chainsL c)[j] = (o, l) := by
  have hm : (o, l) ∈ chainsL c := by
    unfold chainsL chainsOf
    rw [List.mem_filterMap]
    exact ⟨o, mem_orders ho, by unfold solved; rw [h]; rfl⟩
  obtain ⟨j, hj, e⟩ := List.getElem_of_mem hm
  exact ⟨j, hj, e⟩
theorem no_chain {c : Case} (hb : bestS c (chainsL c) = none) {o : List Int} (ho : OrdOK c o) : solveS c o = none := by
  cases h : solveS c o with
  | none => rfl
  | some l =>
    obtain ⟨j, hj, -⟩ := chains_pos ho h
    rw [bestS_none hb] at hj
    simp at hj
end Go.Proofs.Ytiampdiobdianaa

namespace Go.Proofs.Ytiampdiobdianaa
open Go.Avm

/-- A case of the same owners and years, with other marks and sales, is without an error if these are. -/
theorem err_same {c d : Case} (h : errE c = 0) (hp : d.printed = c.printed) (hn : d.now = c.now) (ho : d.owners = c.owners) (hm8 : d.marks.length ≤ 8)
    (hm : ∀ i (hi : i < d.marks.length), (0 ≤ d.marks[i].owner ∧ d.marks[i].owner < d.owners.length) ∧ (-1 ≤ d.marks[i].upon ∧ d.marks[i].upon < i) ∧ d.printed ≤ d.marks[i].lo ∧ d.marks[i].lo ≤ d.marks[i].hi ∧ d.marks[i].hi ≤ d.now ∧ d.marks[i].hi ≤ d.marks[i].lo + 40)
    (hs4 : d.sales.length ≤ 4) (hs : ∀ s ∈ d.sales, d.printed ≤ s.year ∧ s.year ≤ d.now ∧ -1 ≤ s.src ∧ s.src < d.owners.length ∧ -1 ≤ s.dst ∧ s.dst < d.owners.length ∧ s.src ≠ s.dst) : errE d = 0 := by
  obtain ⟨p, -⟩ := checkS_part h
  have e : checkS d = (0, 0, 0) := by
    refine checkS_9 ⟨⟨⟨?_, ?_, ?_⟩, ?_, by omega⟩, fun j hj => (markE_zero hj).2 (hm j hj), by omega⟩ (fun j hj => (saleE_zero hj).2 (hs _ (List.getElem_mem hj)))
    · rw [hp, hn]; exact p.h1
    · rw [hp, hn]; exact p.h2
    · rw [ho]; exact p.h3
    · intro j hj
      have := p.h4 j (by rw [← ho]; exact hj)
      unfold ownE at this ⊢
      rw [ho]; exact this
  rw [errE, e]
theorem mark_facts {c : Case} (h : errE c = 0) {i : Nat} (hi : i < c.marks.length) : (0 ≤ c.marks[i].owner ∧ c.marks[i].owner < c.owners.length) ∧ (-1 ≤ c.marks[i].upon ∧ c.marks[i].upon < i) ∧ c.printed ≤ c.marks[i].lo ∧ c.marks[i].lo ≤ c.marks[i].hi ∧ c.marks[i].hi ≤ c.now ∧ c.marks[i].hi ≤ c.marks[i].lo + 40 :=
  (markE_zero hi).1 ((checkS_part h).1.h6 i hi)
theorem sale_facts {c : Case} (h : errE c = 0) : ∀ s ∈ c.sales, c.printed ≤ s.year ∧ s.year ≤ c.now ∧ -1 ≤ s.src ∧ s.src < c.owners.length ∧ -1 ≤ s.dst ∧ s.dst < c.owners.length ∧ s.src ≠ s.dst := by
  intro s hs
  obtain ⟨i, hi, rfl⟩ := List.getElem_of_mem hs
  exact (saleE_zero hi).1 ((checkS_part h).2 i hi)
theorem err_sales {c : Case} (h : errE c = 0) : c.sales.length ≤ 4 := by
  have := (checkS_part h).1.h7
  omega
theorem inC_at {c : Case} {i : Nat} {y : Int} {j : Nat} (hj : j < c.marks.length) : (inC c i y).marks[j]'(by simpa [inC] using hj) = if i = j then setYear c.marks[j] y else c.marks[j] := by
  show (c.marks.set i (setYear (c.marks.getD i mkD) y))[j]'(by simpa using hj) = _
  rw [List.getElem_set]
  by_cases e : i = j
  · subst e; rw [if_pos rfl, if_pos rfl, mk_at hj]
  · rw [if_neg e, if_neg e]
end Go.Proofs.Ytiampdiobdianaa

namespace Go.Proofs.Ytiampdiobdianaa
open Go.Avm

/-- Of the first case less is told: each of its marks is one of the other's, by number, of as wide a span at least; years are as wide at least. -/
structure Weak (c d : Case) (f : Nat → Nat) : Prop where
  printed : c.printed = d.printed
  now : c.now = d.now
  owners : c.owners.length = d.owners.length
  marks : ∀ q (hq : q < c.marks.length), ∃ hd : f q < d.marks.length, d.marks[f q].owner = c.marks[q].owner ∧ c.marks[q].lo ≤ d.marks[f q].lo ∧ d.marks[f q].hi ≤ c.marks[q].hi ∧ (c.marks[q].upon ≠ -1 → d.marks[f q].upon = (f c.marks[q].upon.toNat : Nat))
  sales : ∀ s ∈ c.sales, ∃ t ∈ d.sales, t.src = s.src ∧ t.dst = s.dst
  bnd : ∀ x, x < c.owners.length → bLo c c.sales x ≤ bLo d d.sales x ∧ bHi d d.sales x ≤ bHi c c.sales x ∧ gLo c c.sales x ≤ gLo d d.sales x ∧ gHi d d.sales x ≤ gHi c c.sales x
theorem Weak.ord {c d : Case} {f : Nat → Nat} (h : Weak c d f) {o : List Int} : OrdOK c o ↔ OrdOK d o :=
  ⟨fun g => ⟨fun x hx => by have := g.rng x hx; rw [h.owners] at this; exact this, g.nd⟩, fun g => ⟨fun x hx => by have := g.rng x hx; rw [← h.owners] at this; exact this, g.nd⟩⟩
theorem Weak.rules {c d : Case} {f : Nat → Nat} (h : Weak c d f) (hc : c.OK) {o : List Int} (hr : rulesB d o = true) : rulesB c o = true := by
  obtain ⟨r1, r2, r3⟩ := rules_parts hr
  have hm := complete_marks r1
  have g1 : completeB c o = true := by
    unfold completeB
    rw [Bool.and_eq_true]
    constructor
    · rw [List.all_eq_true]
      intro m hmm
      obtain ⟨q, hq, rfl⟩ := List.getElem_of_mem hmm
      obtain ⟨hd, ho, -⟩ := h.marks q hq
      have := hm _ (List.getElem_mem hd)
      unfold markIn
      rw [← ho]; simpa using this
    · rw [List.all_eq_true]
      intro s hs
      obtain ⟨t, ht, h1, h2⟩ := h.sales s hs
      have := sale_in r1 ht
      unfold saleIn hasO
      rw [← h1, ← h2]
      simp only [Bool.and_eq_true, Bool.or_eq_true, decide_eq_true_eq]
      constructor
      · by_cases e : t.src = -1
        · exact .inl e
        · exact .inr (this.1 e)
      · by_cases e : t.dst = -1
        · exact .inl e
        · exact .inr (this.2 e)
  have g2 : besideB c o = true := by
    unfold besideB at r2 ⊢
    rw [List.all_eq_true] at r2 ⊢
    intro s hs
    obtain ⟨t, ht, h1, h2⟩ := h.sales s hs
    have := r2 t ht
    unfold nextTo at this ⊢
    rw [← h1, ← h2]; exact this
  have g3 : layeredB c o = true := by
    unfold layeredB
    rw [List.all_eq_true]
    intro m hmm
    obtain ⟨q, hq, rfl⟩ := List.getElem_of_mem hmm
    have hup := hc.upon q hq
    obtain ⟨hd, ho, -, -, hu⟩ := h.marks q hq
    unfold under
    by_cases hn : c.marks[q].upon = -1
    · rw [decide_eq_true hn]; rfl
    · have hu := hu hn
      have hul : c.marks[q].upon.toNat < c.marks.length := by omega
      obtain ⟨hd2, ho2, -⟩ := h.marks _ hul
      have := layered_pos r3 hd (by rw [hu]; omega)
      rw [hu, Int.toNat_natCast, mk_at hd2, ho, ho2] at this
      rw [mk_at hul, decide_eq_false this]
      simp
  unfold rulesB
  rw [g1, g2, g3]; rfl
theorem Weak.feas {c d : Case} {f : Nat → Nat} (h : Weak c d f) {o : List Int} (ho : OrdOK c o) {S T Y : Nat → Int} (hF : Feas d o S T Y) : Feas c o S T fun q => Y (f q) := by
  refine ⟨hF.le, hF.next, fun i hi => ?_, fun q hq i hi he => ?_, fun q hq i hi he hn => ?_⟩
  · have g := hF.own i hi
    have b := h.bnd (own o i) (own_at ho hi).2.1
    omega
  · obtain ⟨hd, h1, h2, h3, -⟩ := h.marks q hq
    have := hF.marks (f q) hd i hi (by rw [h1]; exact he)
    show S i ≤ Y (f q) ∧ Y (f q) ≤ T i ∧ c.marks[q].lo ≤ Y (f q) ∧ Y (f q) ≤ c.marks[q].hi
    omega
  · obtain ⟨hd, h1, -, -, h4⟩ := h.marks q hq
    have h4 := h4 hn
    have := hF.upon (f q) hd i hi (by rw [h1]; exact he) (by rw [h4]; omega)
    rw [h4, Int.toNat_natCast] at this
    exact this
theorem gapO_mono {c d : Case} : ∀ {o : List Int} {p p' : Int}, (∀ x ∈ o, bLo c c.sales x.toNat ≤ bLo d d.sales x.toNat ∧ gHi d d.sales x.toNat ≤ gHi c c.sales x.toNat) → p' ≤ p → gapO c p o ≤ gapO d p' o ∧ lastO d p' o ≤ lastO c p o
  | [], p, p', _, hp => ⟨Int.le_refl _, hp⟩
  | x :: o, p, p', h, hp => by
    have hx := h x (by simp)
    obtain ⟨i1, i2⟩ := gapO_mono (o := o) (p := gHi c c.sales x.toNat) (p' := gHi d d.sales x.toNat) (fun y hy => h y (by simp [hy])) hx.2
    refine ⟨?_, i2⟩
    show (if p < bLo c c.sales x.toNat then 1 else 0) + gapO c (gHi c c.sales x.toNat) o ≤ (if p' < bLo d d.sales x.toNat then 1 else 0) + gapO d (gHi d d.sales x.toNat) o
    by_cases hc : p < bLo c c.sales x.toNat
    · rw [if_pos hc, if_pos (by omega)]; omega
    · rw [if_neg hc]; split <;> omega
theorem unkO_mono {c d : Case} (hp : c.printed = d.printed) (hn : c.now = d.now) {o : List Int} (h : ∀ x ∈ o, bLo c c.sales x.toNat ≤ bLo d d.sales x.toNat ∧ gHi d d.sales x.toNat ≤ gHi c c.sales x.toNat) : unkO c o ≤ unkO d o := by
  obtain ⟨i1, i2⟩ := gapO_mono (p := c.printed) (p' := d.printed) h (by omega)
  unfold unkO
  by_cases e : o = []
  · rw [if_pos e, if_pos e]; exact Int.le_refl _
  · rw [if_neg e, if_neg e]
    by_cases hc : lastO c c.printed o < c.now
    · rw [if_pos hc, if_pos (by omega)]; omega
    · rw [if_neg hc]; split <;> omega
theorem Weak.unk {c d : Case} {f : Nat → Nat} (h : Weak c d f) {o : List Int} (ho : OrdOK c o) : unkO c o ≤ unkO d o := by
  refine unkO_mono h.printed h.now fun x hx => ?_
  have hr := ho.rng x hx
  have := h.bnd x.toNat (by omega)
  exact ⟨this.1, this.2.2.2⟩
theorem Weak.solve {c d : Case} {f : Nat → Nat} (h : Weak c d f) (hc : c.OK) (hd : d.OK) {o : List Int} (ho : OrdOK c o) {l : List Hold} (hs : solveS d o = some l) : ∃ l', solveS c o = some l' ∧ unkO c o ≤ unkO d o := by
  obtain ⟨T, Y, hC⟩ := solve_chain hd (h.ord.1 ho) hs
  obtain ⟨l', hl'⟩ := feas_solve hc ho (h.rules hc hC.rules) (h.feas ho hC.feas)
  exact ⟨l', hl', h.unk ho⟩
theorem Weak.chain {c d : Case} {f : Nat → Nat} (h : Weak c d f) (hc : c.OK) (hd : d.OK) (hs : someB d = true) : someB c = true := by
  obtain ⟨o, ho, l, hl⟩ := someB_iff.1 hs
  obtain ⟨l', hl', -⟩ := h.solve hc hd (h.ord.2 ho) hl
  exact someB_iff.2 ⟨o, h.ord.2 ho, l', hl'⟩
theorem Weak.best {c d : Case} {f : Nat → Nat} (h : Weak c d f) (hc : c.OK) (hd : d.OK) {l : List Hold} (hs : bestS d (chainsL d) = some l) : ∃ l', bestS c (chainsL c) = some l' ∧ unknownS c l' ≤ unknownS d l := by
  obtain ⟨k, hk, h2, ho, hs2, -, -⟩ := best_chain hd hs
  obtain ⟨l1, hl1, hu⟩ := h.solve hc hd (h.ord.2 ho) hs2
  cases hb : bestS c (chainsL c) with
  | none => rw [no_chain hb (h.ord.2 ho)] at hl1; cases hl1
  | some l' =>
    obtain ⟨j, hj, e⟩ := chains_pos (h.ord.2 ho) hl1
    obtain ⟨k2, hk2, _, _, _, _, hmin⟩ := best_chain hc hb
    have := (hmin j hj).1
    rw [e] at this
    rw [solve_unknown hd ho hs2]
    have e2 := solve_unknown hc (h.ord.2 ho) hl1
    refine ⟨l', rfl, ?_⟩
    simp only at this
    omega
/-- A mark of a known year, told of both. -/
theorem Weak.inY {c d : Case} (h : Weak c d id) (i : Nat) (y : Int) : Weak (inC c i y) (inC d i y) id := by
  refine ⟨h.printed, h.now, h.owners, fun q hq => ?_, h.sales, h.bnd⟩
  have hq' : q < c.marks.length := by simpa [inC] using hq
  obtain ⟨hd, h1, h2, h3, h4⟩ := h.marks q hq'
  simp only [id] at hd h1 h2 h3 h4 ⊢
  refine ⟨by simpa [inC] using hd, ?_⟩
  rw [inC_at hq', inC_at hd]
  by_cases e : i = q
  · rw [if_pos e, if_pos e]
    exact ⟨h1, Int.le_refl _, Int.le_refl _, h4⟩
  · rw [if_neg e, if_neg e]
    exact ⟨h1, h2, h3, h4⟩
theorem Weak.years {c d : Case} (h : Weak c d id) (hc : c.OK) (hd : d.OK) (hs : someB d = true) {i : Nat} (hi : i < c.marks.length) (hid : i < d.marks.length) (hm : d.marks[i].lo = c.marks[i].lo ∧ d.marks[i].hi = c.marks[i].hi) : yearLoP c i ≤ yearLoP d i ∧ yearHiP d i ≤ yearHiP c i := by
  have hsc := h.chain hc hd hs
  obtain ⟨y, h1, h2, h3⟩ := year_some hd hs hid
  have hmk := hc.marks _ (List.getElem_mem hi)
  have hp : ∀ z, c.marks[i].lo ≤ z ∧ z ≤ c.marks[i].hi → madeP d i z = true → madeP c i z = true := fun z hz e =>
    (h.inY i z).chain (inC_ok hc (by omega)) (inC_ok hd (by rw [← h.printed, ← h.now]; omega)) e
  rw [yearHi_eq hc hsc hi, yearHi_eq hd hs hid]
  unfold yearLoP
  rw [mk_at hi, mk_at hid, hm.1, hm.2] at *
  obtain ⟨a1, a2, a3⟩ := upTo_spec (madeP d i) (c.marks[i].hi - c.marks[i].lo).toNat c.marks[i].lo y h1 (by omega) h3
  obtain ⟨b1, b2, b3⟩ := dnTo_spec (madeP d i) (c.marks[i].hi - c.marks[i].lo).toNat c.marks[i].hi y h2 (by omega) h3
  have a4 := upTo_in (madeP d i) (c.marks[i].hi - c.marks[i].lo).toNat c.marks[i].lo
  have b4 := dnTo_in (madeP d i) (c.marks[i].hi - c.marks[i].lo).toNat c.marks[i].hi
  obtain ⟨-, a5, -⟩ := upTo_spec (madeP c i) (c.marks[i].hi - c.marks[i].lo).toNat c.marks[i].lo _ (by omega) (by omega) (hp _ (by omega) a1)
  obtain ⟨-, b5, -⟩ := dnTo_spec (madeP c i) (c.marks[i].hi - c.marks[i].lo).toNat c.marks[i].hi _ (by omega) (by omega) (hp _ (by omega) b1)
  exact ⟨a5, b5⟩
end Go.Proofs.Ytiampdiobdianaa

namespace Go.Proofs.Ytiampdiobdianaa
open Go.Avm

def sumC (a : Case) : Int := a.printed + a.now
def tSale (m : Int) (s : Sale) : Sale := ⟨m - s.year, s.dst, s.src⟩
theorem tSale_two (m : Int) (s : Sale) : tSale m (tSale m s) = s := by
  have : m - (m - s.year) = s.year := by omega
  unfold tSale
  simp only [this]
structure Turn (a b : Case) : Prop where
  printed : b.printed = a.printed
  now : b.now = a.now
  len : b.owners.length = a.owners.length
  owners : ∀ x, x < a.owners.length → (owerAt b x).born = sumC a - (owerAt a x).died ∧ (owerAt b x).died = sumC a - (owerAt a x).born
  mlen : b.marks.length = a.marks.length
  marks : ∀ q (h : q < a.marks.length) (h2 : q < b.marks.length), b.marks[q].owner = a.marks[q].owner ∧ b.marks[q].lo = sumC a - a.marks[q].hi ∧ b.marks[q].hi = sumC a - a.marks[q].lo
  upon : (∀ m ∈ a.marks, m.upon = -1) ∧ ∀ m ∈ b.marks, m.upon = -1
  sales : b.sales = a.sales.map (tSale (sumC a))
theorem Turn.sum {a b : Case} (h : Turn a b) : sumC b = sumC a := by unfold sumC; rw [h.printed, h.now]
theorem Turn.back {a b : Case} (h : Turn a b) : Turn b a := by
  have hs := h.sum
  refine ⟨h.printed.symm, h.now.symm, h.len.symm, fun x hx => ?_, h.mlen.symm, fun q h1 h2 => ?_, ⟨h.upon.2, h.upon.1⟩, ?_⟩
  · have := h.owners x (by rw [← h.len]; exact hx)
    rw [hs]; omega
  · have := h.marks q h2 h1
    rw [hs]; omega
  · rw [hs, h.sales, List.map_map]
    have : (tSale (sumC a) ∘ tSale (sumC a)) = id := by funext s; exact tSale_two _ _
    rw [this, List.map_id]
theorem rev_nodup {o : List Int} (h : o.Nodup) : o.reverse.Nodup := List.pairwise_reverse.2 (h.imp fun e => e.symm)
theorem Turn.ord {a b : Case} (h : Turn a b) {o : List Int} (ho : OrdOK a o) : OrdOK b o.reverse :=
  ⟨fun x hx => by rw [h.len]; exact ho.rng x (List.mem_reverse.1 hx), rev_nodup ho.nd⟩

theorem fold_turn (m o : Int) : ∀ (l : List Sale) (v : Int), (l.map (tSale m)).foldl (fun a s => if s.dst = o then max a s.year else a) (m - v) = m - l.foldl (fun a s => if s.src = o then min a s.year else a) v
  | [], _ => rfl
  | s :: l, v => by
    rw [List.map_cons, List.foldl_cons, List.foldl_cons]
    show (l.map (tSale m)).foldl _ (if s.src = o then max (m - v) (m - s.year) else m - v) = _
    have e : (if s.src = o then max (m - v) (m - s.year) else m - v) = m - (if s.src = o then min v s.year else v) := by split <;> omega
    rw [e]
    exact fold_turn m o l _
theorem fold_turn2 (m o : Int) : ∀ (l : List Sale) (v : Int), (l.map (tSale m)).foldl (fun a s => if s.src = o then min a s.year else a) (m - v) = m - l.foldl (fun a s => if s.dst = o then max a s.year else a) v
  | [], _ => rfl
  | s :: l, v => by
    rw [List.map_cons, List.foldl_cons, List.foldl_cons]
    show (l.map (tSale m)).foldl _ (if s.dst = o then min (m - v) (m - s.year) else m - v) = _
    have e : (if s.dst = o then min (m - v) (m - s.year) else m - v) = m - (if s.dst = o then max v s.year else v) := by split <;> omega
    rw [e]
    exact fold_turn2 m o l _
theorem Turn.lo {a b : Case} (h : Turn a b) {x : Nat} (hx : x < a.owners.length) : bLo b b.sales x = sumC a - gHi a a.sales x := by
  have := h.owners x hx
  have e : max b.printed (owerAt b x).born = sumC a - min (owerAt a x).died a.now := by
    rw [h.printed]; unfold sumC at *; omega
  unfold bLo gHi
  rw [h.sales, e]
  exact fold_turn _ _ _ _
theorem Turn.hi {a b : Case} (h : Turn a b) {x : Nat} (hx : x < a.owners.length) : gHi b b.sales x = sumC a - bLo a a.sales x := by
  have := h.owners x hx
  have e : min (owerAt b x).died b.now = sumC a - max a.printed (owerAt a x).born := by
    rw [h.now]; unfold sumC at *; omega
  unfold bLo gHi
  rw [h.sales, e]
  exact fold_turn2 _ _ _ _
theorem foldMax_le (p : Sale → Prop) [DecidablePred p] : ∀ (l : List Sale) (a v : Int), a ≤ v → (∀ s ∈ l, p s → s.year ≤ v) → l.foldl (fun a s => if p s then max a s.year else a) a ≤ v
  | [], _, _, h, _ => h
  | s :: l, a, v, h, hs => by
    have h1 := hs s (by simp)
    refine foldMax_le p l _ v ?_ fun t ht => hs t (by simp [ht])
    show (if p s then max a s.year else a) ≤ v
    split
    · have := h1 (by assumption); omega
    · exact h
theorem le_foldMin (p : Sale → Prop) [DecidablePred p] : ∀ (l : List Sale) (a v : Int), v ≤ a → (∀ s ∈ l, p s → v ≤ s.year) → v ≤ l.foldl (fun a s => if p s then min a s.year else a) a
  | [], _, _, h, _ => h
  | s :: l, a, v, h, hs => by
    have h1 := hs s (by simp)
    refine le_foldMin p l _ v ?_ fun t ht => hs t (by simp [ht])
    show v ≤ (if p s then min a s.year else a)
    split
    · have := h1 (by assumption); omega
    · exact h
theorem foldMin_le (p : Sale → Prop) [DecidablePred p] : ∀ (l : List Sale) (a : Int), l.foldl (fun a s => if p s then min a s.year else a) a ≤ a ∧ ∀ s ∈ l, p s → l.foldl (fun a s => if p s then min a s.year else a) a ≤ s.year
  | [], _ => ⟨Int.le_refl _, fun s hs => by simp at hs⟩
  | t :: l, a => by
    obtain ⟨h1, h2⟩ := foldMin_le p l (if p t then min a t.year else a)
    refine ⟨?_, fun s hs hp => ?_⟩
    · refine Int.le_trans h1 ?_
      split <;> omega
    · rcases List.mem_cons.1 hs with rfl | hs
      · refine Int.le_trans h1 ?_
        rw [if_pos hp]; omega
      · exact h2 s hs hp
theorem le_foldMax (p : Sale → Prop) [DecidablePred p] : ∀ (l : List Sale) (a : Int), a ≤ l.foldl (fun a s => if p s then max a s.year else a) a ∧ ∀ s ∈ l, p s → s.year ≤ l.foldl (fun a s => if p s then max a s.year else a) a
  | [], _ => ⟨Int.le_refl _, fun s hs => by simp at hs⟩
  | t :: l, a => by
    obtain ⟨h1, h2⟩ := le_foldMax p l (if p t then max a t.year else a)
    refine ⟨?_, fun s hs hp => ?_⟩
    · refine Int.le_trans ?_ h1
      split <;> omega
    · rcases List.mem_cons.1 hs with rfl | hs
      · refine Int.le_trans ?_ h1
        rw [if_pos hp]; omega
      · exact h2 s hs hp
theorem at_rev {o : List Int} (hn : o.Nodup) {x : Int} (hx : x ∈ o) : at' o.reverse x = (o.length : Int) - 1 - at' o x ∧ 0 ≤ at' o x ∧ at' o x < o.length := by
  obtain ⟨k, hk, h1, h2⟩ := at_mem hx
  have hr : o.reverse.Nodup := rev_nodup hn
  have hk2 : o.length - 1 - k < o.reverse.length := by rw [List.length_reverse]; omega
  have e : o.reverse[o.length - 1 - k] = x := by
    rw [List.getElem_reverse]
    have : o.length - 1 - (o.length - 1 - k) = k := by omega
    simp only [this]
    exact h2
  have := at_nodup hr hk2
  rw [e] at this
  rw [this, h1]
  omega
theorem rules_turn {a b : Case} (h : Turn a b) {o : List Int} (ho : OrdOK a o) (hr : rulesB a o = true) : rulesB b o.reverse = true := by
  obtain ⟨r1, r2, -⟩ := rules_parts hr
  have hm := complete_marks r1
  have g1 : completeB b o.reverse = true := by
    unfold completeB
    rw [Bool.and_eq_true, List.all_eq_true, List.all_eq_true]
    constructor
    · intro m hmm
      obtain ⟨q, hq, rfl⟩ := List.getElem_of_mem hmm
      have hq2 : q < a.marks.length := by rw [← h.mlen]; exact hq
      unfold markIn
      rw [(h.marks q hq2 hq).1]
      simpa using hm _ (List.getElem_mem hq2)
    · intro s hs
      rw [h.sales] at hs
      obtain ⟨t, ht, rfl⟩ := List.mem_map.1 hs
      have := sale_in r1 ht
      unfold saleIn hasO tSale
      simp only [Bool.and_eq_true, Bool.or_eq_true, decide_eq_true_eq, List.mem_reverse]
      constructor
      · by_cases e : t.dst = -1
        · exact .inl e
        · exact .inr (this.2 e)
      · by_cases e : t.src = -1
        · exact .inl e
        · exact .inr (this.1 e)
  have g2 : besideB b o.reverse = true := by
    unfold besideB at r2 ⊢
    rw [List.all_eq_true] at r2 ⊢
    intro s hs
    rw [h.sales] at hs
    obtain ⟨t, ht, rfl⟩ := List.mem_map.1 hs
    have hin := sale_in r1 ht
    have := r2 t ht
    unfold nextTo tSale at *
    simp only [Bool.or_eq_true, decide_eq_true_eq] at this ⊢
    by_cases e : t.dst = -1
    · exact .inl e
    by_cases e2 : t.src = -1
    · exact .inr (.inl e2)
    have h3 : at' o t.dst = at' o t.src + 1 := by
      rcases this with h | h | h
      · exact absurd h e2
      · exact absurd h e
      · exact h
    have k1 := at_rev ho.nd (hin.1 e2)
    have k2 := at_rev ho.nd (hin.2 e)
    exact .inr (.inr (by omega))
  have g3 : layeredB b o.reverse = true := by
    unfold layeredB
    rw [List.all_eq_true]
    intro m hmm
    unfold under
    rw [h.upon.2 m hmm]; rfl
  unfold rulesB
  rw [g1, g2, g3]; rfl
theorem own_rev {o : List Int} {i : Nat} (hi : i < o.length) : own o.reverse i = own o (o.length - 1 - i) := by
  unfold own
  rw [List.getD_eq_getElem?_getD, List.getD_eq_getElem?_getD, List.getElem?_eq_getElem (by rw [List.length_reverse]; exact hi), List.getElem?_eq_getElem (by omega), List.getElem_reverse]
theorem feas_turn {a b : Case} (h : Turn a b) {o : List Int} (ho : OrdOK a o) (hr : rulesB a o = true) {S T Y : Nat → Int} (hF : Feas a o S T Y) : Feas b o.reverse (fun i => sumC a - T (o.length - 1 - i)) (fun i => sumC a - S (o.length - 1 - i)) (fun q => sumC a - Y q) := by
  have hlen : o.reverse.length = o.length := List.length_reverse
  have hm := complete_marks (rules_parts hr).1
  refine ⟨fun i hi => ?_, fun i hi => ?_, fun i hi => ?_, fun q hq i hi he => ?_, fun q hq i hi he hne => absurd (h.upon.2 _ (List.getElem_mem hq)) hne⟩
  · have := hF.le (o.length - 1 - i) (by omega)
    show sumC a - T _ ≤ sumC a - S _
    omega
  · have := hF.next (o.length - 1 - (i + 1)) (by omega)
    have e : o.length - 1 - (i + 1) + 1 = o.length - 1 - i := by omega
    rw [e] at this
    show sumC a - S _ ≤ sumC a - T _
    omega
  · have hj : o.length - 1 - i < o.length := by omega
    have g := hF.own (o.length - 1 - i) hj
    have gl := hF.le (o.length - 1 - i) hj
    have hx := (own_at ho hj).2.1
    rw [own_rev (by omega)]
    generalize own o (o.length - 1 - i) = x at *
    generalize T (o.length - 1 - i) = t at *
    generalize S (o.length - 1 - i) = s at *
    have hw := h.owners x hx
    have k1 := h.lo hx
    have k2 := h.hi hx
    obtain ⟨b1, b2⟩ := foldMin_le (fun s => s.dst = (x : Int)) a.sales a.now
    obtain ⟨c1, c2⟩ := le_foldMax (fun s => s.src = (x : Int)) a.sales (owerAt a x).born
    obtain ⟨d1, d2⟩ := foldMin_le (fun s => s.src = (x : Int)) a.sales (min (owerAt a x).died a.now)
    obtain ⟨f1, f2⟩ := le_foldMax (fun s => s.dst = (x : Int)) a.sales (max a.printed (owerAt a x).born)
    have b3 : bHi a a.sales x ≤ a.now := b1
    have f3 : max a.printed (owerAt a x).born ≤ bLo a a.sales x := f1
    have d3 : gHi a a.sales x ≤ min (owerAt a x).died a.now := d1
    refine ⟨by rw [k1]; omega, ?_, ?_, by rw [k2]; omega⟩
    · refine le_foldMin _ _ _ _ ?_ fun z hz hp => ?_
      · rw [h.now]; unfold sumC; omega
      · rw [h.sales] at hz
        obtain ⟨z, hz2, rfl⟩ := List.mem_map.1 hz
        have c3 : z.year ≤ gLo a a.sales x := c2 z hz2 hp
        show _ ≤ sumC a - z.year
        omega
    · refine foldMax_le _ _ _ _ ?_ fun z hz hp => ?_
      · omega
      · rw [h.sales] at hz
        obtain ⟨z, hz2, rfl⟩ := List.mem_map.1 hz
        have b4 : bHi a a.sales x ≤ z.year := b2 z hz2 hp
        show sumC a - z.year ≤ _
        omega
  · have hq2 : q < a.marks.length := by rw [← h.mlen]; exact hq
    obtain ⟨m1, m2, m3⟩ := h.marks q hq2 hq
    rw [m1] at he
    obtain ⟨k1, k2, k3⟩ := at_rev ho.nd (hm _ (List.getElem_mem hq2))
    have g := hF.marks q hq2 (o.length - 1 - i) (by omega) (by omega)
    show sumC a - T _ ≤ sumC a - Y q ∧ sumC a - Y q ≤ sumC a - S _ ∧ b.marks[q].lo ≤ sumC a - Y q ∧ sumC a - Y q ≤ b.marks[q].hi
    omega
theorem unk_full {a b : Case} (h : Turn a b) : ∀ {o : List Int} {p q : Int}, (∀ x ∈ o, 0 ≤ x ∧ x < (a.owners.length : Int)) →
    gapO b (sumC a - q) o.reverse + (if lastO b (sumC a - q) o.reverse < sumC a - p then 1 else 0) = gapO a p o + if lastO a p o < q then 1 else 0
  | [], p, q, _ => by
    show (0 : Int) + (if sumC a - q < sumC a - p then 1 else 0) = 0 + if p < q then 1 else 0
    by_cases e : p < q
    · rw [if_pos (by omega), if_pos e]
    · rw [if_neg (by omega), if_neg e]
  | x :: o, p, q, hx => by
    have h0 := hx x (by simp)
    have ih := unk_full h (o := o) (p := gHi a a.sales x.toNat) (q := q) (fun y hy => hx y (by simp [hy]))
    have k1 := h.lo (x := x.toNat) (by omega)
    have k2 := h.hi (x := x.toNat) (by omega)
    rw [List.reverse_cons, gapO_snoc, lastO_snoc, k1, k2]
    show _ = (if p < bLo a a.sales x.toNat then 1 else 0) + gapO a (gHi a a.sales x.toNat) o + if lastO a (gHi a a.sales x.toNat) o < q then 1 else 0
    by_cases e : p < bLo a a.sales x.toNat
    · rw [if_pos (show sumC a - bLo a a.sales x.toNat < sumC a - p by omega), if_pos e]; omega
    · rw [if_neg (show ¬ sumC a - bLo a a.sales x.toNat < sumC a - p by omega), if_neg e]; omega
theorem unk_turn {a b : Case} (h : Turn a b) {o : List Int} (ho : OrdOK a o) : unkO b o.reverse = unkO a o := by
  have := unk_full h (o := o) (p := a.printed) (q := a.now) ho.rng
  have e1 : sumC a - a.now = b.printed := by rw [h.printed]; unfold sumC; omega
  have e2 : sumC a - a.printed = b.now := by rw [h.now]; unfold sumC; omega
  rw [e1, e2] at this
  unfold unkO
  by_cases e : o = []
  · subst e; rfl
  · rw [if_neg e, if_neg (by simpa using e)]; exact this
theorem solve_turn {a b : Case} (h : Turn a b) (ha : a.OK) (hb : b.OK) {o : List Int} (ho : OrdOK a o) {l : List Hold} (hs : solveS a o = some l) : ∃ l', solveS b o.reverse = some l' := by
  obtain ⟨T, Y, hC⟩ := solve_chain ha ho hs
  exact feas_solve hb (h.ord ho) (rules_turn h ho hC.rules) (feas_turn h ho hC.rules hC.feas)
/-- Why says the same of an order and of the order turned round. -/
theorem why_turn {a b : Case} (h : Turn a b) (ha : errE a = 0) (hb : errE b = 0) {o : List Int} (ho : OrdOK a o) : whyS a o = whyS b o.reverse := by
  have ka := Case.ok ha
  have kb := Case.ok hb
  cases hs : solveS a o with
  | some l =>
    obtain ⟨l', hl'⟩ := solve_turn h ka kb ho hs
    rw [why_some ha ho hs, why_some hb (h.ord ho) hl', unk_turn h ho]
  | none =>
    cases hs2 : solveS b o.reverse with
    | none => rw [why_none ha ho hs, why_none hb (h.ord ho) hs2]
    | some l =>
      obtain ⟨l', hl'⟩ := solve_turn h.back kb ka (h.ord ho) hs2
      rw [List.reverse_reverse, hs] at hl'
      cases hl'
theorem best_turn {a b : Case} (h : Turn a b) (ha : a.OK) (hb : b.OK) {l : List Hold} (hs : bestS a (chainsL a) = some l) : ∃ l', bestS b (chainsL b) = some l' ∧ unknownS b l' ≤ unknownS a l := by
  obtain ⟨k, hk, -, ho, hs2, -, -⟩ := best_chain ha hs
  obtain ⟨l1, hl1⟩ := solve_turn h ha hb ho hs2
  have ho2 := h.ord ho
  cases hbb : bestS b (chainsL b) with
  | none => rw [no_chain hbb ho2] at hl1; cases hl1
  | some l' =>
    obtain ⟨j, hj, e⟩ := chains_pos ho2 hl1
    obtain ⟨k2, hk2, _, _, _, _, hmin⟩ := best_chain hb hbb
    have := (hmin j hj).1
    rw [e] at this
    have e1 := solve_unknown ha ho hs2
    have e2 := solve_unknown hb ho2 hl1
    rw [unk_turn h ho] at e2
    simp only at this
    exact ⟨l', rfl, by omega⟩
theorem chain_turn {a b : Case} (h : Turn a b) (ha : errE a = 0) (hb : errE b = 0) : (chainS a).u = (chainS b).u ∧ (chainS a).e = (chainS b).e := by
  have ka := Case.ok ha
  have kb := Case.ok hb
  cases hs : bestS a (chainsL a) with
  | some l =>
    obtain ⟨l', h1, h2⟩ := best_turn h ka kb hs
    obtain ⟨l2, h3, h4⟩ := best_turn h.back kb ka h1
    rw [hs] at h3
    injection h3 with h3
    subst h3
    rw [chain_some ha hs, chain_some hb h1]
    exact ⟨by show unknownS a l = unknownS b l'; omega, rfl⟩
  | none =>
    cases hs2 : bestS b (chainsL b) with
    | none => rw [chain_none ha hs, chain_none hb hs2]; exact ⟨rfl, rfl⟩
    | some l =>
      obtain ⟨l', h1, -⟩ := best_turn h.back kb ka hs2
      rw [hs] at h1; cases h1
end Go.Proofs.Ytiampdiobdianaa

