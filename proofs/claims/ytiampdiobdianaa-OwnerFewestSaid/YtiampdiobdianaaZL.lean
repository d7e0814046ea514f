/- Contracts: the laws' helpers that look at holds; any order. Plain: what holds of the chain with the fewest unknown owners. Contracts: which list comes first; what Why says of an order of the laws. -/
import Derived.Test.YtiampdiobdianaaZJ
import Derived.Test.YtiampdiobdianaaZK
namespace Go.Proofs.Ytiampdiobdianaa
open Go.Avm

theorem valid37_ok (c : Case) : PCall Try.prog 37 [encCase c] (B (decide (errE c = 0))) := by
  refine pcall Try.func37 tr37 rs37 fn37 (by simp [Try.ntmps37]) fun _ => ?_
  have hc := checkR_ok c
  obtain ⟨E, hE⟩ : ∃ E, E = errE c := ⟨_, rfl⟩
  have hc : PCall Try.prog 17 [encCase c] (.tuple [I (checkS c).1, I (checkS c).2.1, I E]) := by rw [hE]; exact hc
  rw [← hE]
  simp -implicitDefEqProofs [m37]
  refine vCall_of hc ?_
  simp -implicitDefEqProofs [r37]
  by_cases h : E = 0 <;> simp [h]

/-- The place of an owner among holds; below 0: none. -/
def placeH (l : List Hold) (o : Int) : Int := at' (l.map Hold.who) o
def whoUp (l : List Hold) (k : Nat) : List Int := (l.take k).map Hold.who
theorem order39_ok (l : List Hold) (hl : l.length ≤ 1000) : PCall Try.prog 39 [HL l] (IL (l.map Hold.who)) := by
  refine pcall Try.func39 tr39 rs39 fn39 (by simp [Try.ntmps39]) fun _ => ?_
  have hw : l.map Hold.who = whoUp l l.length := by unfold whoUp; rw [List.take_length]
  rw [hw]
  simp -implicitDefEqProofs [m39]
  refine loop_up l.length (fun k s => s.env 0 = HL l ∧ s.env 3 = .slice 1 ((whoUp l k).map I) 4 ∧ s.env 4 = I k) ?_ ?_
  · simp [whoUp]
  rintro k s hk ⟨e0, e3, e4⟩
  simp -implicitDefEqProofs [e0, e4]
  refine cond_dec (fun hlt => ?_) (fun hge => ?_)
  · have hlt : k < l.length := by omega
    have hts : whoUp l (k + 1) = whoUp l k ++ [l[k].who] := by
      unfold whoUp; rw [take_snoc hlt, List.map_append]; rfl
    have hlk : (whoUp l k).length ≤ k := by unfold whoUp; rw [List.length_map]; exact List.length_take_le _ _
    generalize whoUp l k = W at *
    simp -implicitDefEqProofs [e0, e3, e4, hlt]
    refine ⟨by omega, by omega, i64 (by omega) (by omega), round_ok hlt ?_⟩
    simp [e0, hts]
  · obtain rfl : k = l.length := by omega
    simp -implicitDefEqProofs [e3, r39]
/-! ## Any order, turns -/
theorem tmod_nat (a b : Nat) : ((a : Int).tmod (b : Int)) = ((a % b : Nat) : Int) := by
  rw [Int.tmod_eq_emod_of_nonneg (by omega)]; rfl
theorem wrap_u {n : Int} (h : 0 ≤ n ∧ n ≤ 65535) : IntKind.wrap .i64 n = n := by
  simp [IntKind.wrap, IntKind.bits, IntKind.signed]
  omega
theorem ordersL_pos (n : Nat) : 0 < (ordersL n).length := by
  have : [] ∈ ordersL n := by
    unfold ordersL ordersUp
    rw [List.mem_flatMap]
    exact ⟨0, by simp, by simp [allO]⟩
  exact List.length_pos_of_mem this
/-- ANY order of some owners, by a number. -/
def anyO (c : Case) (n : Nat) : List Int := (ordersL c.owners.length).getD (n % (ordersL c.owners.length).length) []
theorem anyO_mem (c : Case) (n : Nat) : anyO c n ∈ ordersL c.owners.length := by
  unfold anyO
  have hi := Nat.mod_lt n (ordersL_pos c.owners.length)
  rw [List.getD_eq_getElem?_getD, List.getElem?_eq_getElem hi, Option.getD_some]
  exact List.getElem_mem hi
theorem anyO_ok (c : Case) (n : Nat) : OrdOK c (anyO c n) := orders_ok (anyO_mem c n)
theorem any41_ok {c : Case} (hn6 : c.owners.length ≤ 6) (n : Nat) : PCall Try.prog 41 [encCase c, I n] (IL (anyO c n)) := by
  refine pcall Try.func41 tr41 rs41 fn41 (by simp [Try.ntmps41]) fun _ => ?_
  have hall := orders80_ok hn6
  have hbig := ordersL_len hn6
  have hpos := ordersL_pos c.owners.length
  unfold anyO
  generalize ordersL c.owners.length = L at *
  have hi := Nat.mod_lt n hpos
  have hm := tmod_nat n L.length
  have hl0 : ¬ L.length = 0 := by omega
  have v1 : (n : Int) % (L.length : Int) = ((n % L.length : Nat) : Int) := rfl
  have hne : ¬ L = [] := by intro e; rw [e] at hpos; simp at hpos
  simp -implicitDefEqProofs [m41]
  refine vCall_of hall ?_
  generalize hk : n % L.length = k at *
  simp -implicitDefEqProofs [hl0, hm, hi, r41]
end Go.Proofs.Ytiampdiobdianaa

namespace Go.Proofs.Ytiampdiobdianaa
open Go.Avm

/-! ## The first of the best ones -/
theorem best_spec (c : Case) {ps : List (List Int × List Hold)} : ∀ {n : Nat}, 0 < n → n ≤ ps.length → ∃ k, ∃ hk : k < ps.length, k < n ∧ bestS c (ps.take n) = some ps[k].2 ∧
    ∀ j (hj : j < ps.length), j < n → unknownS c ps[k].2 ≤ unknownS c ps[j].2 ∧ (j < k → unknownS c ps[k].2 < unknownS c ps[j].2)
  | 0, h, _ => by omega
  | n + 1, _, hn => by
    have hlt : n < ps.length := hn
    have hsn : bestS c (ps.take (n + 1)) = bestOf c (bestS c (ps.take n)) ps[n].2 := by
      unfold bestS; rw [take_snoc hlt, List.foldl_append]; rfl
    by_cases h0 : n = 0
    · subst h0
      refine ⟨0, hlt, by omega, by rw [hsn]; rfl, fun j hj hj1 => ?_⟩
      obtain rfl : j = 0 := by omega
      exact ⟨Int.le_refl _, by omega⟩
    · obtain ⟨k, hk, hkn, hb, hmin⟩ := best_spec c (ps := ps) (n := n) (by omega) (by omega)
      rw [hb] at hsn
      unfold bestOf at hsn
      simp only at hsn
      by_cases hu : unknownS c ps[n].2 < unknownS c ps[k].2
      · rw [if_pos hu] at hsn
        refine ⟨n, hlt, by omega, hsn, fun j hj hjn => ?_⟩
        by_cases e : j = n
        · subst e; exact ⟨Int.le_refl _, by omega⟩
        · have := hmin j hj (by omega)
          exact ⟨by omega, fun _ => by omega⟩
      · rw [if_neg hu] at hsn
        refine ⟨k, hk, by omega, hsn, fun j hj hjn => ?_⟩
        by_cases e : j = n
        · subst e; exact ⟨by omega, by omega⟩
        · exact hmin j hj (by omega)
theorem bestS_none {c : Case} (h : bestS c (chainsL c) = none) : chainsL c = [] := by
  cases hc : chainsL c with
  | nil => rfl
  | cons p ps =>
    obtain ⟨k, hk, -, hb, -⟩ := best_spec c (ps := p :: ps) (n := (p :: ps).length) (by simp) (Nat.le_refl _)
    rw [List.take_length] at hb
    rw [hc, hb] at h
    cases h
theorem orders_chain : ((List.range 7).all fun n => chain (ordersL n)) = true := by decide +kernel
theorem chain_pair : ∀ {l : List (List Int)}, chain l = true → l.Pairwise fun a b => lessL a b = true
  | [], _ => .nil
  | a :: l, h => by
    have hl : chain l = true := by
      cases l with
      | nil => rfl
      | cons b l => simp only [chain, Bool.and_eq_true] at h; exact h.2
    exact .cons (chain_less h) (chain_pair hl)
theorem allR_filter (c : Case) : allR c = (ordersL c.owners.length).filter fun o => (solveS c o).isSome := by
  unfold allR firsts chainsOf
  induction ordersL c.owners.length with
  | nil => rfl
  | cons o l ih =>
    cases h : solveS c o with
    | none =>
      have e : solved c o = none := by unfold solved; rw [h]; rfl
      rw [List.filter_cons, List.filterMap_cons, e, h]
      exact ih
    | some x =>
      have e : solved c o = some (o, x) := by unfold solved; rw [h]; rfl
      rw [List.filter_cons, List.filterMap_cons, e, h]
      exact congrArg (o :: ·) ih
theorem chains_pair {c : Case} (hc : c.OK) : ∀ j k (hj : j < (chainsL c).length) (hk : k < (chainsL c).length), lessL (chainsL c)[j].1 (chainsL c)[k].1 = true → j < k := by
  have h1 := chain_pair (List.all_eq_true.1 orders_chain c.owners.length (by have := hc.ownersLen; simp; omega))
  have h2 : (allR c).Pairwise fun a b => lessL a b = true := by rw [allR_filter]; exact h1.filter _
  intro j k hj hk hl
  obtain ⟨gj, ej, -⟩ := chains_at hj
  obtain ⟨gk, ek, -⟩ := chains_at hk
  rw [← ej, ← ek] at hl
  by_cases e : j < k
  · exact e
  · exfalso
    by_cases e2 : j = k
    · subst e2; rw [lessL_irr] at hl; cases hl
    · have := List.pairwise_iff_getElem.1 h2 k j gk gj (by omega)
      have := lessL_trans hl this
      rw [lessL_irr] at this; cases this

/-! ## The holds that are told -/
/-- What holds of the holds that are told of an order. -/
structure HoldsOK (c : Case) (o : List Int) (L : List Hold) : Prop where
  who : L.map Hold.who = o
  rng : ∀ i (h : i < L.length), 0 ≤ L[i].who ∧ L[i].who < (c.owners.length : Int) ∧ placeH L L[i].who = i
  first : ∀ h : 0 < L.length, c.printed ≤ L[0].src
  next : ∀ i (h : i + 1 < L.length), (L[i]'(by omega)).til ≤ L[i + 1].src
  life : ∀ i (h : i < L.length), (owerAt c L[i].who.toNat).born ≤ L[i].src ∧ L[i].src ≤ L[i].til ∧ L[i].til ≤ (owerAt c L[i].who.toNat).died ∧ L[i].til ≤ c.now
  marks : ∀ m ∈ c.marks, ∃ k : Nat, placeH L m.owner = k ∧ ∃ h : k < L.length, L[k].src ≤ m.hi ∧ m.lo ≤ L[k].til
  dst : ∀ s ∈ c.sales, s.dst ≠ -1 → ∃ k : Nat, placeH L s.dst = k ∧ ∃ h : k < L.length, L[k].src = s.year
  src : ∀ s ∈ c.sales, s.src ≠ -1 → ∃ k : Nat, placeH L s.src = k ∧ ∃ h : k < L.length, L[k].til = s.year
theorem sale_in {c : Case} {o : List Int} (h : completeB c o = true) {s : Sale} (hs : s ∈ c.sales) : (s.src ≠ -1 → s.src ∈ o) ∧ (s.dst ≠ -1 → s.dst ∈ o) := by
  unfold completeB at h
  rw [Bool.and_eq_true] at h
  have := List.all_eq_true.1 h.2 s hs
  unfold saleIn hasO at this
  simp only [Bool.and_eq_true, Bool.or_eq_true, decide_eq_true_eq] at this
  exact ⟨fun hn => this.1.resolve_left hn, fun hn => this.2.resolve_left hn⟩
theorem holds_ok {c : Case} {o : List Int} (ho : OrdOK c o) {l : List Hold} {T Y : Nat → Int} (h : ChainOf c o l T Y) : HoldsOK c o (cutL l) := by
  obtain ⟨r1, r2, r3⟩ := rules_parts h.rules
  have hlen : (cutL l).length = o.length := by rw [cutL_len]; exact h.holds.1
  have hll := h.holds.1
  have hsrc : ∀ i (hi : i < l.length), (l.getD i ⟨0, 0, 0⟩).src = l[i].src := fun i hi => by
    rw [List.getD_eq_getElem?_getD, List.getElem?_eq_getElem hi, Option.getD_some]
  have hget : ∀ i (hi : i < (cutL l).length), (cutL l)[i].who = own o i ∧ (cutL l)[i].src = (l.getD i ⟨0, 0, 0⟩).src ∧ T i ≤ (cutL l)[i].til ∧ (cutL l)[i].til ≤ gHi c c.sales (own o i) ∧
      (∀ h2 : i + 1 < (cutL l).length, (cutL l)[i].til ≤ (l.getD (i + 1) ⟨0, 0, 0⟩).src) := by
    intro i hi
    have hil : i < l.length := by omega
    have hw := h.holds.2 i hil
    have hF := h.feas.own i (by omega)
    have hgi : l.getD i ⟨0, 0, 0⟩ = l[i] := by rw [List.getD_eq_getElem?_getD, List.getElem?_eq_getElem hil, Option.getD_some]
    rw [cutL_get]
    by_cases e : i + 1 < l.length
    · have hn := h.feas.next i (by omega)
      rw [if_pos e, hgi]
      refine ⟨hw.1, rfl, ?_, ?_, fun _ => ?_⟩
      · show T i ≤ min l[i].til _
        rw [hw.2]; omega
      · show min l[i].til _ ≤ _
        rw [hw.2]; omega
      · show min l[i].til _ ≤ _
        omega
    · rw [if_neg e, hgi]
      exact ⟨hw.1, rfl, by rw [hw.2]; exact hF.2.2.2, by rw [hw.2]; exact Int.le_refl _, fun h2 => by omega⟩
  have hwho : (cutL l).map Hold.who = o := by
    apply List.ext_getElem (by rw [List.length_map, hlen])
    intro i h1 h2
    rw [List.getElem_map, (hget i (by omega)).1, (own_at ho h2).1]
  have hplace : ∀ x, placeH (cutL l) x = at' o x := fun x => by unfold placeH; rw [hwho]
  have hgH : ∀ x : Nat, gHi c c.sales x ≤ (owerAt c x).died ∧ gHi c c.sales x ≤ c.now := fun x => by
    have := (fMin_le (fun s => s.src = (x : Int)) c.sales (min (owerAt c x).died c.now)).1
    have e : gHi c c.sales x = fMin (fun s => s.src = (x : Int)) c.sales (min (owerAt c x).died c.now) := rfl
    omega
  have hbL : ∀ x : Nat, c.printed ≤ bLo c c.sales x ∧ (owerAt c x).born ≤ bLo c c.sales x := fun x => by
    have := (fMax_ge (fun s => s.dst = (x : Int)) c.sales (max c.printed (owerAt c x).born)).1
    have e : bLo c c.sales x = fMax (fun s => s.dst = (x : Int)) c.sales (max c.printed (owerAt c x).born) := rfl
    omega
  refine ⟨hwho, fun i hi => ?_, fun hi => ?_, fun i hi => ?_, fun i hi => ?_, fun m hm => ?_, fun s hs hn => ?_, fun s hs hn => ?_⟩
  · obtain ⟨a1, a2, a3⟩ := own_at ho (i := i) (by omega)
    rw [hplace, (hget i hi).1]
    exact ⟨by omega, by omega, a3⟩
  · rw [(hget 0 hi).2.1]
    have := (h.feas.own 0 (by omega)).1
    have := (hbL (own o 0)).1
    omega
  · rw [(hget (i + 1) hi).2.1]
    exact (hget i (by omega)).2.2.2.2 hi
  · obtain ⟨g1, g2, g3, g4, -⟩ := hget i hi
    have hF := h.feas.own i (by omega)
    have hle := h.feas.le i (by omega)
    have b1 := hbL (own o i)
    have b2 := hgH (own o i)
    rw [g1, Int.toNat_natCast, g2]
    have hle : (l.getD i ⟨0, 0, 0⟩).src ≤ T i := hle
    have hF : bLo c c.sales (own o i) ≤ (l.getD i ⟨0, 0, 0⟩).src ∧ _ := hF
    omega
  · obtain ⟨k, hk, hk1, -⟩ := at_mem (complete_marks r1 m hm)
    obtain ⟨q, hq, rfl⟩ := List.getElem_of_mem hm
    obtain ⟨g1, g2, g3, g4, -⟩ := hget k (by omega)
    have hM := h.feas.marks q hq k hk hk1
    refine ⟨k, by rw [hplace]; exact hk1, by omega, ?_, ?_⟩
    · rw [g2]; have h1 : (l.getD k ⟨0, 0, 0⟩).src ≤ Y q := hM.1; omega
    · omega
  · obtain ⟨k, hk, hk1, -⟩ := at_mem ((sale_in r1 hs).2 hn)
    have hown := own_pos ho hk hk1
    obtain ⟨g1, g2, -⟩ := hget k (by omega)
    have hF := h.feas.own k hk
    have b1 := (fMax_ge (fun s => s.dst = (own o k : Int)) c.sales (max c.printed (owerAt c (own o k)).born)).2 s hs hown
    have b2 := (fMin_le (fun s => s.dst = (own o k : Int)) c.sales c.now).2 s hs hown
    have e1 : bLo c c.sales (own o k) = fMax (fun s => s.dst = (own o k : Int)) c.sales (max c.printed (owerAt c (own o k)).born) := rfl
    have e2 : bHi c c.sales (own o k) = fMin (fun s => s.dst = (own o k : Int)) c.sales c.now := rfl
    refine ⟨k, by rw [hplace]; exact hk1, by omega, ?_⟩
    rw [g2]
    have hF : bLo c c.sales (own o k) ≤ (l.getD k ⟨0, 0, 0⟩).src ∧ (l.getD k ⟨0, 0, 0⟩).src ≤ bHi c c.sales (own o k) ∧ _ := hF
    omega
  · obtain ⟨k, hk, hk1, -⟩ := at_mem ((sale_in r1 hs).1 hn)
    have hown := own_pos ho hk hk1
    obtain ⟨g1, g2, g3, g4, -⟩ := hget k (by omega)
    have hF := h.feas.own k hk
    have b1 := (fMax_ge (fun s => s.src = (own o k : Int)) c.sales (owerAt c (own o k)).born).2 s hs hown
    have b2 := (fMin_le (fun s => s.src = (own o k : Int)) c.sales (min (owerAt c (own o k)).died c.now)).2 s hs hown
    have e1 : gLo c c.sales (own o k) = fMax (fun s => s.src = (own o k : Int)) c.sales (owerAt c (own o k)).born := rfl
    have e2 : gHi c c.sales (own o k) = fMin (fun s => s.src = (own o k : Int)) c.sales (min (owerAt c (own o k)).died c.now) := rfl
    refine ⟨k, by rw [hplace]; exact hk1, by omega, ?_⟩
    omega

/-- The chain that Chain tells. -/
theorem best_chain {c : Case} (hc : c.OK) {l : List Hold} (h : bestS c (chainsL c) = some l) : ∃ k, ∃ hk : k < (chainsL c).length, (chainsL c)[k].2 = l ∧ OrdOK c (chainsL c)[k].1 ∧ solveS c (chainsL c)[k].1 = some l ∧ HoldsOK c (chainsL c)[k].1 (cutL l) ∧
    (∀ j (hj : j < (chainsL c).length), unknownS c l ≤ unknownS c (chainsL c)[j].2 ∧ (j < k → unknownS c l < unknownS c (chainsL c)[j].2)) := by
  have hne : 0 < (chainsL c).length := by
    apply List.length_pos_iff.2
    intro e
    rw [e] at h; cases h
  obtain ⟨k, hk, -, hb, hmin⟩ := best_spec c (ps := chainsL c) hne (Nat.le_refl _)
  rw [List.take_length, h] at hb
  injection hb with hb
  obtain ⟨h1, h2, h3, h4⟩ := chains_at hk
  rw [← hb] at h3
  have ho := orders_ok h4
  obtain ⟨T, Y, hC⟩ := solve_chain hc ho h3
  exact ⟨k, hk, hb.symm, ho, h3, holds_ok ho hC, fun j hj => by rw [hb]; exact hmin j hj hj⟩
end Go.Proofs.Ytiampdiobdianaa

namespace Go.Proofs.Ytiampdiobdianaa
open Go.Avm

theorem before42_ok (a b : List Int) (hab : a.length = b.length) : PCall Try.prog 42 [IL a, IL b] (B (lexL a b)) := by
  refine pcall Try.func42 tr42 rs42 fn42 (by simp [Try.ntmps42]) fun hfit => ?_
  have hl : a.length ≤ 140737488355328 := by simpa using fits_len (hfit 0)
  obtain ⟨R, hR⟩ : ∃ R, R = lexL a b := ⟨_, rfl⟩
  rw [← hR]
  simp -implicitDefEqProofs only [m42]
  refine cutS (fun st => st.env 0 = IL a ∧ st.env 1 = IL b) ?_ ?_
  · intro k hk
    simp -implicitDefEqProofs
    exact hk _ (by simp)
  rintro s ⟨e0, e1⟩
  refine cutS (fun st => st.env 0 = IL a ∧ st.env 1 = IL b ∧ R = false) ?_ ?_
  · intro k0 hk0
    simp -implicitDefEqProofs
    refine loop_up a.length (fun k st => st.env 0 = IL a ∧ st.env 1 = IL b ∧ st.env 5 = I k ∧ R = lexL (a.drop k) (b.drop k)) ?_ ?_
    · simp [e0, e1, hR]
    rintro k s hk ⟨e0, e1, e5, hR⟩
    by_cases hlt : k < a.length
    · have hlt2 : k < b.length := by omega
      rw [drop_cons hlt, drop_cons hlt2] at hR
      unfold lexL at hR
      generalize hp : a[k] = p at *
      generalize hq : b[k] = q at *
      have g1 : (k : Int) < a.length := by omega
      have g2 : (k : Int) < b.length := by omega
      by_cases hpq : p = q
      · rw [if_pos hpq] at hR
        have hpq' : (p != q) = false := by simp [hpq]
        simp -implicitDefEqProofs [e0, e1, e5, hlt, hlt2, hp, hq, hpq']
        exact ⟨i64 (by omega) (by omega), round_ok hlt ⟨by simp [e0], by simp [e1], by simp, hR⟩⟩
      · rw [if_neg hpq] at hR
        have hpq' : (p != q) = true := by simp [hpq]
        simp -implicitDefEqProofs [e0, e1, e5, hlt, hlt2, hp, hq, hpq', r42, hR]
    · obtain rfl : k = a.length := by omega
      have h1 : a.drop a.length = [] := by simp
      rw [h1] at hR
      have hR : R = false := hR
      simp -implicitDefEqProofs [e0, e5]
      exact hk0 _ ⟨by simp [e0], by simp [e1], hR⟩
  rintro s ⟨e0, e1, hR⟩
  have hnl : ¬ a.length < b.length := by omega
  simp -implicitDefEqProofs [e0, e1, hnl, r42, hR]

theorem ordOK_err {c : Case} {o : List Int} (ho : OrdOK c o) : orderE c o = 0 := by
  unfold orderE
  rw [out_none (fun x hx => by have := ho.rng x hx; omega), if_neg (by simp), if_pos ho.nd]
theorem why_some {c : Case} (he : errE c = 0) {o : List Int} (ho : OrdOK c o) {l : List Hold} (h : solveS c o = some l) : whyS c o = ⟨unkO c o, 0⟩ := by
  unfold whyS
  rw [if_neg (not_not_intro he), ordOK_err ho, if_neg (by simp), h, ← solve_unknown (Case.ok he) ho h]
theorem why_none {c : Case} (he : errE c = 0) {o : List Int} (ho : OrdOK c o) (h : solveS c o = none) : whyS c o = ⟨0, 9⟩ := by
  unfold whyS
  rw [if_neg (not_not_intro he), ordOK_err ho, if_neg (by simp), h]
theorem why_err {c : Case} (he : errE c ≠ 0) (o : List Int) : whyS c o = ⟨0, errE c⟩ := by
  unfold whyS; rw [if_pos he]
theorem chain_none {c : Case} (he : errE c = 0) (hb : bestS c (chainsL c) = none) : chainS c = ⟨[], 0, 8⟩ := by
  unfold chainS; rw [if_neg (not_not_intro he), hb]
theorem chain_some {c : Case} (he : errE c = 0) {l : List Hold} (hb : bestS c (chainsL c) = some l) : chainS c = ⟨cutL l, unknownS c l, 0⟩ := by
  unfold chainS; rw [if_neg (not_not_intro he), hb]
theorem chains_pos {c : Case} {o : List Int} (ho : OrdOK c o) {l : List Hold} (h : solveS c o = some l) : ∃ j, ∃ hj : j < (chainsL c).length, (chainsL c)[j] = (o, l) := by
  have hm : (o, l) ∈ chainsL c := by
    unfold chainsL chainsOf
    rw [List.mem_filterMap]
    exact ⟨o, mem_orders ho, by unfold solved; rw [h]; rfl⟩
  obtain ⟨j, hj, e⟩ := List.getElem_of_mem hm
  exact ⟨j, hj, e⟩
theorem no_chain {c : Case} (hb : bestS c (chainsL c) = none) {o : List Int} (ho : OrdOK c o) : solveS c o = none := by
  cases h : solveS c o with
  | none => rfl
  | some l =>
    obtain ⟨j, hj, -⟩ := chains_pos ho h
    rw [bestS_none hb] at hj
    simp at hj
end Go.Proofs.Ytiampdiobdianaa

