/- Contracts: the laws' helpers that look at holds; any order. Plain: what holds of the chain with the fewest unknown owners. -/
import Derived.Test.YtiampdiobdianaaZJ
import Derived.Test.YtiampdiobdianaaZK
namespace Go.Proofs.Ytiampdiobdianaa
open Go.Avm

theorem valid37_ok (c : Case) : PCall Try.prog 37 [encCase c] (B (decide (errE c = 0))) := by
  refine pcall Try.func37 tr37 rs37 fn37 (by simp [Try.ntmps37]) fun _ => ?_
  have hc := checkR_ok c
  obtain ⟨E, hE⟩ : ∃ E, E = errE c := ⟨_, rfl⟩
  have hc : PCall Try.prog 17 [encCase c] (.tuple [I (checkS c).1, I (checkS c).2.1, I E]) := by rw [hE]; exact hc
  rw [← hE]
  simp -implicitDefEqProofs [m37]
  refine vCall_of hc ?_
  simp -implicitDefEqProofs [r37]
  by_cases h : E = 0 <;> simp [h]

/-- The place of an owner among holds; below 0: none. -/
def placeH (l : List Hold) (o : Int) : Int := at' (l.map Hold.who) o
theorem place38_ok (l : List Hold) (o : Int) : PCall Try.prog 38 [HL l, I o] (I (placeH l o)) := by
  refine pcall Try.func38 tr38 rs38 fn38 (by simp [Try.ntmps38]) fun hfit => ?_
  have hl := fits_len (hfit 0)
  simp only [List.length_map] at hl
  simp -implicitDefEqProofs [m38]
  refine loop_up l.length (fun k s => s.env 0 = HL l ∧ s.env 1 = I o ∧ s.env 5 = I k ∧ o ∉ (l.take k).map Hold.who) ?_ ?_
  · simp
  rintro k s hk ⟨e0, e1, e5, hno⟩
  simp -implicitDefEqProofs [e0, e5]
  refine cond_dec (fun hlt => ?_) (fun hge => ?_)
  · have hlt : k < l.length := by omega
    have hts := take_snoc hlt
    have hat : l[k].who = o → placeH l o = k := fun e => by
      have : (l.map Hold.who).idxOf? o = some k := by
        rw [List.idxOf?_eq_some_iff]
        refine ⟨by simpa using hlt, by simpa using e, fun j hj => ?_⟩
        intro e2
        exact hno (by rw [List.map_take]; exact List.mem_take_iff_getElem.2 ⟨j, by simp; omega, e2⟩)
      unfold placeH at'
      rw [this]
    generalize hp : l[k] = p at *
    simp -implicitDefEqProofs [e0, e1, e5, hlt, hp]
    refine cond_bool (fun he => ?_) (fun he => ?_)
    · have he : p.who = o := by simpa using he
      simp -implicitDefEqProofs [e5, r38, hat he]
    · have he : p.who ≠ o := by simpa using he
      simp -implicitDefEqProofs [e5]
      refine ⟨i64 (by omega) (by omega), round_ok hlt ⟨by simp [e0], by simp [e1], by simp, ?_⟩⟩
      rw [← List.map_take, hts, List.map_append, List.mem_append]
      intro h
      rcases h with h | h
      · exact hno h
      · simp at h; exact he h.symm
  · obtain rfl : k = l.length := by omega
    rw [List.take_length] at hno
    have hc : placeH l o = -1 := by
      unfold placeH at'
      rw [List.idxOf?_eq_none_iff.2 hno]
    simp -implicitDefEqProofs [r38, hc]
def whoUp (l : List Hold) (k : Nat) : List Int := (l.take k).map Hold.who
theorem order39_ok (l : List Hold) (hl : l.length ≤ 1000) : PCall Try.prog 39 [HL l] (IL (l.map Hold.who)) := by
  refine pcall Try.func39 tr39 rs39 fn39 (by simp [Try.ntmps39]) fun _ => ?_
  have hw : l.map Hold.who = whoUp l l.length := by unfold whoUp; rw [List.take_length]
  rw [hw]
  simp -implicitDefEqProofs [m39]
  refine loop_up l.length (fun k s => s.env 0 = HL l ∧ s.env 3 = .slice 1 ((whoUp l k).map I) 4 ∧ s.env 4 = I k) ?_ ?_
  · simp [whoUp]
  rintro k s hk ⟨e0, e3, e4⟩
  simp -implicitDefEqProofs [e0, e4]
  refine cond_dec (fun hlt => ?_) (fun hge => ?_)
  · have hlt : k < l.length := by omega
    have hts : whoUp l (k + 1) = whoUp l k ++ [l[k].who] := by
      unfold whoUp; rw [take_snoc hlt, List.map_append]; rfl
    have hlk : (whoUp l k).length ≤ k := by unfold whoUp; rw [List.length_map]; exact List.length_take_le _ _
    generalize whoUp l k = W at *
    simp -implicitDefEqProofs [e0, e3, e4, hlt]
    refine ⟨by omega, by omega, i64 (by omega) (by omega), round_ok hlt ?_⟩
    simp [e0, hts]
  · obtain rfl : k = l.length := by omega
    simp -implicitDefEqProofs [e3, r39]
theorem unknown40_ok (c : Case) (l : List Hold) (hl : l.length ≤ 1000) : PCall Try.prog 40 [encCase c, HL l] (I (unknownS c l)) := by
  refine pcall Try.func40 tr40 rs40 fn40 (by simp [Try.ntmps40]) fun _ => ?_
  have hg1 := gaps_range c.printed l
  simp -implicitDefEqProofs only [m40]
  refine cutS (fun st => st.env 1 = HL l ∧ st.env 2 = caseRef c) ?_ ?_
  · intro k hk
    simp -implicitDefEqProofs
    exact hk _ (by simp)
  rintro s ⟨e1, e2⟩
  by_cases hne : l = []
  · subst hne
    have hu : unknownS c [] = 1 := rfl
    simp -implicitDefEqProofs [e1, r40, hu]
  have hl0 : 0 < l.length := List.length_pos_iff.2 hne
  have hlast : unknownS c l = gaps c.printed l + if (l[l.length - 1]).til < c.now then 1 else 0 := by
    unfold unknownS
    rw [if_neg hne]
    congr 1
    have : lastTil c.printed l = (l[l.length - 1]).til := by
      have e : l = l.take (l.length - 1) ++ [l[l.length - 1]] := by
        rw [← take_snoc (show l.length - 1 < l.length by omega), show l.length - 1 + 1 = l.length by omega, List.take_length]
      conv => lhs; rw [e]
      rw [lastTil_snoc]
    rw [this]
  refine cutS (fun st => st.env 1 = HL l ∧ st.env 2 = caseRef c) ?_ ?_
  · intro k hk
    have hz : ((l.length : Int) == 0) = false := by simp; omega
    simp -implicitDefEqProofs [e1, hz]
    exact hk _ (by simp [e1, e2])
  rintro s ⟨e1, e2⟩
  refine cutS (fun st => st.env 1 = HL l ∧ st.env 2 = caseRef c ∧ st.env 5 = I 0) ?_ ?_
  · intro k hk
    simp -implicitDefEqProofs
    exact hk _ (by simp [e1, e2])
  rintro s ⟨e1, e2, e5⟩
  refine cutS (fun st => st.env 1 = HL l ∧ st.env 2 = caseRef c ∧ st.env 5 = I (gaps c.printed (l.take 1))) ?_ ?_
  · intro k hk
    have hg0 : gaps c.printed (l.take 1) = if c.printed < l[0].src then 1 else 0 := by
      rw [show (1 : Nat) = 0 + 1 from rfl, take_snoc hl0]
      simp [gaps]
    simp -implicitDefEqProofs [e1, e2, hl0]
    refine cond_dec (fun hc => ?_) (fun hc => ?_)
    · rw [if_pos hc] at hg0
      simp -implicitDefEqProofs [e5]
      exact ⟨i64 (by omega) (by omega), hk _ (by simp [e1, e2, hg0])⟩
    · rw [if_neg hc] at hg0
      simp -implicitDefEqProofs
      exact hk _ (by simp [e1, e2, e5, hg0])
  rintro s ⟨e1, e2, e5⟩
  refine cutS (fun st => st.env 1 = HL l ∧ st.env 2 = caseRef c ∧ st.env 5 = I (gaps c.printed l)) ?_ ?_
  · intro k0 hk0
    simp -implicitDefEqProofs
    refine loop_up (l.length - 1) (fun i st => st.env 1 = HL l ∧ st.env 2 = caseRef c ∧ st.env 5 = I (gaps c.printed (l.take (i + 1))) ∧ st.env 6 = I ((i : Int) + 1)) ?_ ?_
    · simp [e1, e2, e5]
    rintro i s hi ⟨e1, e2, e5, e6⟩
    simp -implicitDefEqProofs [e1, e6]
    refine cond_dec (fun hlt => ?_) (fun hge => ?_)
    · have hlt : i + 1 < l.length := by omega
      have hgt := gaps_take (p := c.printed) hlt
      have hil : i < l.length := by omega
      have hg2 := gaps_range c.printed (l.take (i + 1))
      rw [List.length_take] at hg2
      generalize hp : l[i] = a at *
      generalize hq : l[i + 1] = b at *
      have hii : ((i : Int) + 1).toNat = i + 1 := by omega
      have hi2 : (i : Int) + 1 - 1 = i := by omega
      have hle3 : (i : Int) + 1 < l.length := by omega
      have hle4 : (0 : Int) ≤ (i : Int) + 1 := by omega
      simp -implicitDefEqProofs [e1, e6, hii, hi2, hle3, hle4, hlt, hil, hp, hq]
      refine ⟨i64 (by omega) (by omega), cond_dec (fun hc => ?_) (fun hc => ?_)⟩
      · rw [if_pos hc] at hgt
        simp -implicitDefEqProofs [e5, e6]
        refine ⟨i64 (by omega) (by omega), i64 (by omega) (by omega), round_ok (by omega) ?_⟩
        simp [e1, e2, hgt]
      · rw [if_neg hc, Int.add_zero] at hgt
        simp -implicitDefEqProofs [e6]
        refine ⟨i64 (by omega) (by omega), round_ok (by omega) ?_⟩
        simp [e1, e2, e5, hgt]
    · obtain rfl : i = l.length - 1 := by omega
      rw [show l.length - 1 + 1 = l.length by omega, List.take_length] at e5
      simp -implicitDefEqProofs
      exact hk0 _ (by simp [e1, e2, e5])
  rintro s ⟨e1, e2, e5⟩
  have hii : ((l.length : Int) - 1).toNat = l.length - 1 := by omega
  have hlt : l.length - 1 < l.length := by omega
  obtain ⟨R, hR⟩ : ∃ R, R = unknownS c l := ⟨_, rfl⟩
  rw [← hR]
  rw [← hR] at hlast
  generalize hp : l[l.length - 1] = a at *
  simp -implicitDefEqProofs [e1, e2, hii, hlt, hp]
  refine ⟨i64 (by omega) (by omega), ?_⟩
  refine ⟨by omega, by omega, cond_dec (fun hc => ?_) (fun hc => ?_)⟩
  · rw [if_pos hc] at hlast
    simp -implicitDefEqProofs [e5, r40, hlast]
    exact i64 (by omega) (by omega)
  · rw [if_neg hc, Int.add_zero] at hlast
    simp -implicitDefEqProofs [e5, r40, hlast]

/-! ## Any order, turns -/
end Go.Proofs.Ytiampdiobdianaa

namespace Go.Proofs.Ytiampdiobdianaa
open Go.Avm

/-! ## The first of the best ones -/
theorem best_spec (c : Case) {ps : List (List Int × List Hold)} : ∀ {n : Nat}, 0 < n → n ≤ ps.length → ∃ k, ∃ hk : k < ps.length, k < n ∧ bestS c (ps.take n) = some ps[k].2 ∧
    ∀ j (hj : j < ps.length), j < n → unknownS c ps[k].2 ≤ unknownS c ps[j].2 ∧ (j < k → unknownS c ps[k].2 < unknownS c ps[j].2)
  | 0, h, _ => by omega
  | n + 1, _, hn => by
    have hlt : n < ps.length := hn
    have hsn : bestS c (ps.take (n + 1)) = bestOf c (bestS c (ps.take n)) ps[n].2 := by
      unfold bestS; rw [take_snoc hlt, List.foldl_append]; rfl
    by_cases h0 : n = 0
    · subst h0
      refine ⟨0, hlt, by omega, by rw [hsn]; rfl, fun j hj hj1 => ?_⟩
      obtain rfl : j = 0 := by omega
      exact ⟨Int.le_refl _, by omega⟩
    · obtain ⟨k, hk, hkn, hb, hmin⟩ := best_spec c (ps := ps) (n := n) (by omega) (by omega)
      rw [hb] at hsn
      unfold bestOf at hsn
      simp only at hsn
      by_cases hu : unknownS c ps[n].2 < unknownS c ps[k].2
      · rw [if_pos hu] at hsn
        refine ⟨n, hlt, by omega, hsn, fun j hj hjn => ?_⟩
        by_cases e : j = n
        · subst e; exact ⟨Int.le_refl _, by omega⟩
        · have := hmin j hj (by omega)
          exact ⟨by omega, fun _ => by omega⟩
      · rw [if_neg hu] at hsn
        refine ⟨k, hk, by omega, hsn, fun j hj hjn => ?_⟩
        by_cases e : j = n
        · subst e; exact ⟨by omega, by omega⟩
        · exact hmin j hj (by omega)
/-! ## The holds that are told -/
theorem gaps_cut : ∀ (p : Int) (l : List Hold), gaps p (cutL l) = gaps p l
  | p, [] => rfl
  | p, [a] => rfl
  | p, a :: b :: l => by
    have ih := gaps_cut (min a.til b.src) (b :: l)
    show (if p < a.src then 1 else 0) + gaps (min a.til b.src) (cutL (b :: l)) = (if p < a.src then 1 else 0) + ((if a.til < b.src then 1 else 0) + gaps b.til l)
    rw [ih]
    show _ + ((if min a.til b.src < b.src then 1 else 0) + gaps b.til l) = _
    congr 2
    by_cases h : a.til < b.src
    · rw [if_pos h, if_pos (by omega)]
    · rw [if_neg h, if_neg (by omega)]
theorem lastTil_cut : ∀ (p : Int) (l : List Hold), lastTil p (cutL l) = lastTil p l
  | p, [] => rfl
  | p, [a] => rfl
  | p, a :: b :: l => by
    have ih := lastTil_cut (min a.til b.src) (b :: l)
    show lastTil (min a.til b.src) (cutL (b :: l)) = lastTil b.til l
    rw [ih]; rfl
theorem unknown_cut (c : Case) (l : List Hold) : unknownS c (cutL l) = unknownS c l := by
  unfold unknownS
  rw [gaps_cut, lastTil_cut]
  by_cases h : l = []
  · subst h; rfl
  · have : cutL l ≠ [] := by
      intro e
      have := cutL_len l
      rw [e] at this
      exact h (List.length_eq_zero_iff.1 this.symm)
    rw [if_neg h, if_neg this]

/-- What holds of the holds that are told of an order. -/
structure HoldsOK (c : Case) (o : List Int) (L : List Hold) : Prop where
  who : L.map Hold.who = o
  rng : ∀ i (h : i < L.length), 0 ≤ L[i].who ∧ L[i].who < (c.owners.length : Int) ∧ placeH L L[i].who = i
  first : ∀ h : 0 < L.length, c.printed ≤ L[0].src
  next : ∀ i (h : i + 1 < L.length), (L[i]'(by omega)).til ≤ L[i + 1].src
  life : ∀ i (h : i < L.length), (owerAt c L[i].who.toNat).born ≤ L[i].src ∧ L[i].src ≤ L[i].til ∧ L[i].til ≤ (owerAt c L[i].who.toNat).died ∧ L[i].til ≤ c.now
  marks : ∀ m ∈ c.marks, ∃ k : Nat, placeH L m.owner = k ∧ ∃ h : k < L.length, L[k].src ≤ m.hi ∧ m.lo ≤ L[k].til
  dst : ∀ s ∈ c.sales, s.dst ≠ -1 → ∃ k : Nat, placeH L s.dst = k ∧ ∃ h : k < L.length, L[k].src = s.year
  src : ∀ s ∈ c.sales, s.src ≠ -1 → ∃ k : Nat, placeH L s.src = k ∧ ∃ h : k < L.length, L[k].til = s.year
theorem sale_in {c : Case} {o : List Int} (h : completeB c o = true) {s : Sale} (hs : s ∈ c.sales) : (s.src ≠ -1 → s.src ∈ o) ∧ (s.dst ≠ -1 → s.dst ∈ o) := by
  unfold completeB at h
  rw [Bool.and_eq_true] at h
  have := List.all_eq_true.1 h.2 s hs
  unfold saleIn hasO at this
  simp only [Bool.and_eq_true, Bool.or_eq_true, decide_eq_true_eq] at this
  exact ⟨fun hn => this.1.resolve_left hn, fun hn => this.2.resolve_left hn⟩
theorem holds_ok {c : Case} {o : List Int} (ho : OrdOK c o) {l : List Hold} {T Y : Nat → Int} (h : ChainOf c o l T Y) : HoldsOK c o (cutL l) := by
  obtain ⟨r1, r2, r3⟩ := rules_parts h.rules
  have hlen : (cutL l).length = o.length := by rw [cutL_len]; exact h.holds.1
  have hll := h.holds.1
  have hsrc : ∀ i (hi : i < l.length), (l.getD i ⟨0, 0, 0⟩).src = l[i].src := fun i hi => by
    rw [List.getD_eq_getElem?_getD, List.getElem?_eq_getElem hi, Option.getD_some]
  have hget : ∀ i (hi : i < (cutL l).length), (cutL l)[i].who = own o i ∧ (cutL l)[i].src = (l.getD i ⟨0, 0, 0⟩).src ∧ T i ≤ (cutL l)[i].til ∧ (cutL l)[i].til ≤ gHi c c.sales (own o i) ∧
      (∀ h2 : i + 1 < (cutL l).length, (cutL l)[i].til ≤ (l.getD (i + 1) ⟨0, 0, 0⟩).src) := by
    intro i hi
    have hil : i < l.length := by omega
    have hw := h.holds.2 i hil
    have hF := h.feas.own i (by omega)
    have hgi : l.getD i ⟨0, 0, 0⟩ = l[i] := by rw [List.getD_eq_getElem?_getD, List.getElem?_eq_getElem hil, Option.getD_some]
    rw [cutL_get]
    by_cases e : i + 1 < l.length
    · have hn := h.feas.next i (by omega)
      rw [if_pos e, hgi]
      refine ⟨hw.1, rfl, ?_, ?_, fun _ => ?_⟩
      · show T i ≤ min l[i].til _
        rw [hw.2]; omega
      · show min l[i].til _ ≤ _
        rw [hw.2]; omega
      · show min l[i].til _ ≤ _
        omega
    · rw [if_neg e, hgi]
      exact ⟨hw.1, rfl, by rw [hw.2]; exact hF.2.2.2, by rw [hw.2]; exact Int.le_refl _, fun h2 => by omega⟩
  have hwho : (cutL l).map Hold.who = o := by
    apply List.ext_getElem (by rw [List.length_map, hlen])
    intro i h1 h2
    rw [List.getElem_map, (hget i (by omega)).1, (own_at ho h2).1]
  have hplace : ∀ x, placeH (cutL l) x = at' o x := fun x => by unfold placeH; rw [hwho]
  have hgH : ∀ x : Nat, gHi c c.sales x ≤ (owerAt c x).died ∧ gHi c c.sales x ≤ c.now := fun x => by
    have := (fMin_le (fun s => s.src = (x : Int)) c.sales (min (owerAt c x).died c.now)).1
    have e : gHi c c.sales x = fMin (fun s => s.src = (x : Int)) c.sales (min (owerAt c x).died c.now) := rfl
    omega
  have hbL : ∀ x : Nat, c.printed ≤ bLo c c.sales x ∧ (owerAt c x).born ≤ bLo c c.sales x := fun x => by
    have := (fMax_ge (fun s => s.dst = (x : Int)) c.sales (max c.printed (owerAt c x).born)).1
    have e : bLo c c.sales x = fMax (fun s => s.dst = (x : Int)) c.sales (max c.printed (owerAt c x).born) := rfl
    omega
  refine ⟨hwho, fun i hi => ?_, fun hi => ?_, fun i hi => ?_, fun i hi => ?_, fun m hm => ?_, fun s hs hn => ?_, fun s hs hn => ?_⟩
  · obtain ⟨a1, a2, a3⟩ := own_at ho (i := i) (by omega)
    rw [hplace, (hget i hi).1]
    exact ⟨by omega, by omega, a3⟩
  · rw [(hget 0 hi).2.1]
    have := (h.feas.own 0 (by omega)).1
    have := (hbL (own o 0)).1
    omega
  · rw [(hget (i + 1) hi).2.1]
    exact (hget i (by omega)).2.2.2.2 hi
  · obtain ⟨g1, g2, g3, g4, -⟩ := hget i hi
    have hF := h.feas.own i (by omega)
    have hle := h.feas.le i (by omega)
    have b1 := hbL (own o i)
    have b2 := hgH (own o i)
    rw [g1, Int.toNat_natCast, g2]
    have hle : (l.getD i ⟨0, 0, 0⟩).src ≤ T i := hle
    have hF : bLo c c.sales (own o i) ≤ (l.getD i ⟨0, 0, 0⟩).src ∧ _ := hF
    omega
  · obtain ⟨k, hk, hk1, -⟩ := at_mem (complete_marks r1 m hm)
    obtain ⟨q, hq, rfl⟩ := List.getElem_of_mem hm
    obtain ⟨g1, g2, g3, g4, -⟩ := hget k (by omega)
    have hM := h.feas.marks q hq k hk hk1
    refine ⟨k, by rw [hplace]; exact hk1, by omega, ?_, ?_⟩
    · rw [g2]; have h1 : (l.getD k ⟨0, 0, 0⟩).src ≤ Y q := hM.1; omega
    · omega
  · obtain ⟨k, hk, hk1, -⟩ := at_mem ((sale_in r1 hs).2 hn)
    have hown := own_pos ho hk hk1
    obtain ⟨g1, g2, -⟩ := hget k (by omega)
    have hF := h.feas.own k hk
    have b1 := (fMax_ge (fun s => s.dst = (own o k : Int)) c.sales (max c.printed (owerAt c (own o k)).born)).2 s hs hown
    have b2 := (fMin_le (fun s => s.dst = (own o k : Int)) c.sales c.now).2 s hs hown
    have e1 : bLo c c.sales (own o k) = fMax (fun s => s.dst = (own o k : Int)) c.sales (max c.printed (owerAt c (own o k)).born) := rfl
    have e2 : bHi c c.sales (own o k) = fMin (fun s => s.dst = (own o k : Int)) c.sales c.now := rfl
    refine ⟨k, by rw [hplace]; exact hk1, by omega, ?_⟩
    rw [g2]
    have hF : bLo c c.sales (own o k) ≤ (l.getD k ⟨0, 0, 0⟩).src ∧ (l.getD k ⟨0, 0, 0⟩).src ≤ bHi c c.sales (own o k) ∧ _ := hF
    omega
  · obtain ⟨k, hk, hk1, -⟩ := at_mem ((sale_in r1 hs).1 hn)
    have hown := own_pos ho hk hk1
    obtain ⟨g1, g2, g3, g4, -⟩ := hget k (by omega)
    have hF := h.feas.own k hk
    have b1 := (fMax_ge (fun s => s.src = (own o k : Int)) c.sales (owerAt c (own o k)).born).2 s hs hown
    have b2 := (fMin_le (fun s => s.src = (own o k : Int)) c.sales (min (owerAt c (own o k)).died c.now)).2 s hs hown
    have e1 : gLo c c.sales (own o k) = fMax (fun s => s.src = (own o k : Int)) c.sales (owerAt c (own o k)).born := rfl
    have e2 : gHi c c.sales (own o k) = fMin (fun s => s.src = (own o k : Int)) c.sales (min (owerAt c (own o k)).died c.now) := rfl
    refine ⟨k, by rw [hplace]; exact hk1, by omega, ?_⟩
    omega

/-- The chain that Chain tells. -/
theorem best_chain {c : Case} (hc : c.OK) {l : List Hold} (h : bestS c (chainsL c) = some l) : ∃ k, ∃ hk : k < (chainsL c).length, (chainsL c)[k].2 = l ∧ OrdOK c (chainsL c)[k].1 ∧ solveS c (chainsL c)[k].1 = some l ∧ HoldsOK c (chainsL c)[k].1 (cutL l) ∧
    (∀ j (hj : j < (chainsL c).length), unknownS c l ≤ unknownS c (chainsL c)[j].2 ∧ (j < k → unknownS c l < unknownS c (chainsL c)[j].2)) := by
  have hne : 0 < (chainsL c).length := by
    apply List.length_pos_iff.2
    intro e
    rw [e] at h; cases h
  obtain ⟨k, hk, -, hb, hmin⟩ := best_spec c (ps := chainsL c) hne (Nat.le_refl _)
  rw [List.take_length, h] at hb
  injection hb with hb
  obtain ⟨h1, h2, h3, h4⟩ := chains_at hk
  rw [← hb] at h3
  have ho := orders_ok h4
  obtain ⟨T, Y, hC⟩ := solve_chain hc ho h3
  exact ⟨k, hk, hb.symm, ho, h3, holds_ok ho hC, fun j hj => by rw [hb]; exact hmin j hj hj⟩
end Go.Proofs.Ytiampdiobdianaa

