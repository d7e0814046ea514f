/- Contracts: the laws' helpers that look at holds; any order. Plain: what holds of the chain with the fewest unknown owners. Contracts: which list comes first; what Why says of an order of the laws. Plain: cases that are changed are still cases: a mark of a known year, a year of having. Plain: a case of which less is told. Contracts: whom any log tells, and from when to when. Contracts: what any log tells of holds: marks, their years, and sales. The resolved code of Told, whose result keeps its owner. Contracts: what any log tells of holds; what it hands back keeps its owner. Plain: a tale: holds of a case, and a case that tells marks and sales of them. Plain: what any log tells of a chain is a tale; what holds of a tale. Plain: Forged names no mark of a case with a chain, and few of one with marks added. Plain: what Forged returns; cases without some marks; a tale with marks added. -/
import Derived.Test.YtiampdiobdianaaZJ
import Derived.Test.YtiampdiobdianaaZK
import Derived.Test.YtiampdiobdianaaZD
import Derived.KernelRfl
namespace Go.Proofs.Ytiampdiobdianaa
open Go.Avm

theorem valid37_ok (c : Case) : PCall Try.prog 37 [encCase c] (B (decide (errE c = 0))) := by
  refine pcall Try.func37 tr37 rs37 fn37 (by simp [Try.ntmps37]) fun _ => ?_
  have hc := checkR_ok c
  obtain ⟨E, hE⟩ : ∃ E, E = errE c := ⟨_, rfl⟩
  have hc : PCall Try.prog 17 [encCase c] (.tuple [I (checkS c).1, I (checkS c).2.1, I E]) := by rw [hE]; exact hc
  rw [← hE]
  simp -implicitDefEqProofs [m37]
  refine vCall_of hc ?_
  simp -implicitDefEqProofs [r37]
  by_cases h : E = 0 <;> simp [h]

def placeH (l : List Hold) (o : Int) : Int := at' (l.map Hold.who) o
theorem place38_ok (l : List Hold) (o : Int) : PCall Try.prog 38 [HL l, I o] (I (placeH l o)) := by
  refine pcall Try.func38 tr38 rs38 fn38 (by simp [Try.ntmps38]) fun hfit => ?_
  have hl := fits_len (hfit 0)
  simp only [List.length_map] at hl
  simp -implicitDefEqProofs [m38]
  refine loop_up l.length (fun k s => s.env 0 = HL l ∧ s.env 1 = I o ∧ s.env 5 = I k ∧ o ∉ (l.take k).map Hold.who) ?_ ?_
  · simp
  rintro k s hk ⟨e0, e1, e5, hno⟩
  simp -implicitDefEqProofs [e0, e5]
  refine cond_dec (fun hlt => ?_) (fun hge => ?_)
  · have hlt : k < l.length := by omega
    have hts := take_snoc hlt
    have hat : l[k].who = o → placeH l o = k := fun e => by
      have : (l.map Hold.who).idxOf? o = some k := by
        rw [List.idxOf?_eq_some_iff]
        refine ⟨by simpa using hlt, by simpa using e, fun j hj => ?_⟩
        intro e2
        exact hno (by rw [List.map_take]; exact List.mem_take_iff_getElem.2 ⟨j, by simp; omega, e2⟩)
      unfold placeH at'
      rw [this]
    generalize hp : l[k] = p at *
    simp -implicitDefEqProofs [e0, e1, e5, hlt, hp]
    refine cond_bool (fun he => ?_) (fun he => ?_)
    · have he : p.who = o := by simpa using he
      simp -implicitDefEqProofs [e5, r38, hat he]
    · have he : p.who ≠ o := by simpa using he
      simp -implicitDefEqProofs [e5]
      refine ⟨i64 (by omega) (by omega), round_ok hlt ⟨by simp [e0], by simp [e1], by simp, ?_⟩⟩
      rw [← List.map_take, hts, List.map_append, List.mem_append]
      intro h
      rcases h with h | h
      · exact hno h
      · simp at h; exact he h.symm
  · obtain rfl : k = l.length := by omega
    rw [List.take_length] at hno
    have hc : placeH l o = -1 := by
      unfold placeH at'
      rw [List.idxOf?_eq_none_iff.2 hno]
    simp -implicitDefEqProofs [r38, hc]
theorem tmod_nat (a b : Nat) : ((a : Int).tmod (b : Int)) = ((a % b : Nat) : Int) := by
  rw [Int.tmod_eq_emod_of_nonneg (by omega)]; rfl
def turnS (l : List Int) (n : Nat) : Int := if l = [] then 0 else l.getD (n % l.length) 0
theorem turnS_range {l : List Int} (h : okU l) (n : Nat) : 0 ≤ turnS l n ∧ turnS l n ≤ 65535 := by
  unfold turnS
  split
  · simp
  · rename_i hn
    have hl := List.length_pos_iff.2 hn
    have hi := Nat.mod_lt n hl
    rw [show l.getD (n % l.length) 0 = l[n % l.length] by simp [hi]]
    exact h _ (List.getElem_mem hi)
theorem wrap_u {n : Int} (h : 0 ≤ n ∧ n ≤ 65535) : IntKind.wrap .i64 n = n := by
  simp [IntKind.wrap, IntKind.bits, IntKind.signed]
  omega
theorem turn81_ok {l : List Int} (h : okU l) (hl : l.length ≤ 140737488355328) (n : Nat) (_ : n < 1000000) : PCall Try.prog 81 [US l, I n] (I (turnS l n)) := by
  refine pcall Try.func81 tr81 rs81 fn81 (by simp [Try.ntmps81]) fun _ => ?_
  have hR : turnS l n = if l = [] then 0 else l.getD (n % l.length) 0 := rfl
  have hrg := turnS_range h n
  generalize turnS l n = R at *
  simp -implicitDefEqProofs [m81]
  by_cases hz : l = []
  · rw [if_pos hz] at hR
    simp -implicitDefEqProofs [hz, r81, hR]
  · rw [if_neg hz] at hR
    have hlp := List.length_pos_iff.2 hz
    have hi := Nat.mod_lt n hlp
    have hz' : ((l.length : Int) == 0) = false := by simp; exact hz
    have hm := tmod_nat n l.length
    have hl0 : ¬ l.length = 0 := by omega
    have v1 : (n : Int) % (l.length : Int) = ((n % l.length : Nat) : Int) := rfl
    have hg : l.getD (n % l.length) 0 = l[n % l.length] := by simp [hi]
    rw [hg] at hR
    rw [hR] at hrg
    have hw := wrap_u hrg
    generalize n % l.length = k at *
    simp -implicitDefEqProofs [hz', hl0, hm, hi, hw, r81, hR]
theorem ordersL_pos (n : Nat) : 0 < (ordersL n).length := by
  have : [] ∈ ordersL n := by
    unfold ordersL ordersUp
    rw [List.mem_flatMap]
    exact ⟨0, by simp, by simp [allO]⟩
  exact List.length_pos_of_mem this
def anyO (c : Case) (n : Nat) : List Int := (ordersL c.owners.length).getD (n % (ordersL c.owners.length).length) []
theorem anyO_mem (c : Case) (n : Nat) : anyO c n ∈ ordersL c.owners.length := by
  unfold anyO
  have hi := Nat.mod_lt n (ordersL_pos c.owners.length)
  rw [List.getD_eq_getElem?_getD, List.getElem?_eq_getElem hi, Option.getD_some]
  exact List.getElem_mem hi
theorem anyO_ok (c : Case) (n : Nat) : OrdOK c (anyO c n) := orders_ok (anyO_mem c n)
theorem any41_ok {c : Case} (hn6 : c.owners.length ≤ 6) (n : Nat) : PCall Try.prog 41 [encCase c, I n] (IL (anyO c n)) := by
  refine pcall Try.func41 tr41 rs41 fn41 (by simp [Try.ntmps41]) fun _ => ?_
  have hall := orders80_ok hn6
  have hbig := ordersL_len hn6
  have hpos := ordersL_pos c.owners.length
  unfold anyO
  generalize ordersL c.owners.length = L at *
  have hi := Nat.mod_lt n hpos
  have hm := tmod_nat n L.length
  have hl0 : ¬ L.length = 0 := by omega
  have v1 : (n : Int) % (L.length : Int) = ((n % L.length : Nat) : Int) := rfl
  have hne : ¬ L = [] := by intro e; rw [e] at hpos; simp at hpos
  simp -implicitDefEqProofs [m41]
  refine vCall_of hall ?_
  generalize hk : n % L.length = k at *
  simp -implicitDefEqProofs [hl0, hm, hi, r41]
end Go.Proofs.Ytiampdiobdianaa

namespace Go.Proofs.Ytiampdiobdianaa
open Go.Avm

theorem best_spec (c : Case) {ps : List (List Int × List Hold)} : ∀ {n : Nat}, 0 < n → n ≤ ps.length → ∃ k, ∃ hk : k < ps.length, k < n ∧ bestS c (ps.take n) = some ps[k].2 ∧
    ∀ j (hj : j < ps.length), j < n → unknownS c ps[k].2 ≤ unknownS c ps[j].2 ∧ (j < k → unknownS c ps[k].2 < unknownS c ps[j].2)
  | 0, h, _ => by omega
  | n + 1, _, hn => by
    have hlt : n < ps.length := hn
    have hsn : bestS c (ps.take (n + 1)) = bestOf c (bestS c (ps.take n)) ps[n].2 := by
      unfold bestS; rw [take_snoc hlt, List.foldl_append]; rfl
    by_cases h0 : n = 0
    · subst h0
      refine ⟨0, hlt, by omega, by rw [hsn]; rfl, fun j hj hj1 => ?_⟩
      obtain rfl : j = 0 := by omega
      exact ⟨Int.le_refl _, by omega⟩
    · obtain ⟨k, hk, hkn, hb, hmin⟩ := best_spec c (ps := ps) (n := n) (by omega) (by omega)
      rw [hb] at hsn
      unfold bestOf at hsn
      simp only at hsn
      by_cases hu : unknownS c ps[n].2 < unknownS c ps[k].2
      · rw [if_pos hu] at hsn
        refine ⟨n, hlt, by omega, hsn, fun j hj hjn => ?_⟩
        by_cases e : j = n
        · subst e; exact ⟨Int.le_refl _, by omega⟩
        · have := hmin j hj (by omega)
          exact ⟨by omega, fun _ => by omega⟩
      · rw [if_neg hu] at hsn
        refine ⟨k, hk, by omega, hsn, fun j hj hjn => ?_⟩
        by_cases e : j = n
        · subst e; exact ⟨by omega, by omega⟩
        · exact hmin j hj (by omega)
theorem bestS_none {c : Case} (h : bestS c (chainsL c) = none) : chainsL c = [] := by
  cases hc : chainsL c with
  | nil => rfl
  | cons p ps =>
    obtain ⟨k, hk, -, hb, -⟩ := best_spec c (ps := p :: ps) (n := (p :: ps).length) (by simp) (Nat.le_refl _)
    rw [List.take_length] at hb
    rw [hc, hb] at h
    cases h
structure HoldsOK (c : Case) (o : List Int) (L : List Hold) : Prop where
  who : L.map Hold.who = o
  rng : ∀ i (h : i < L.length), 0 ≤ L[i].who ∧ L[i].who < (c.owners.length : Int) ∧ placeH L L[i].who = i
  first : ∀ h : 0 < L.length, c.printed ≤ L[0].src
  next : ∀ i (h : i + 1 < L.length), (L[i]'(by omega)).til ≤ L[i + 1].src
  life : ∀ i (h : i < L.length), (owerAt c L[i].who.toNat).born ≤ L[i].src ∧ L[i].src ≤ L[i].til ∧ L[i].til ≤ (owerAt c L[i].who.toNat).died ∧ L[i].til ≤ c.now
  marks : ∀ m ∈ c.marks, ∃ k : Nat, placeH L m.owner = k ∧ ∃ h : k < L.length, L[k].src ≤ m.hi ∧ m.lo ≤ L[k].til
  dst : ∀ s ∈ c.sales, s.dst ≠ -1 → ∃ k : Nat, placeH L s.dst = k ∧ ∃ h : k < L.length, L[k].src = s.year
  src : ∀ s ∈ c.sales, s.src ≠ -1 → ∃ k : Nat, placeH L s.src = k ∧ ∃ h : k < L.length, L[k].til = s.year
theorem sale_in {c : Case} {o : List Int} (h : completeB c o = true) {s : Sale} (hs : s ∈ c.sales) : (s.src ≠ -1 → s.src ∈ o) ∧ (s.dst ≠ -1 → s.dst ∈ o) := by
  unfold completeB at h
  rw [Bool.and_eq_true] at h
  have := List.all_eq_true.1 h.2 s hs
  unfold saleIn hasO at this
  simp only [Bool.and_eq_true, Bool.or_eq_true, decide_eq_true_eq] at this
  exact ⟨fun hn => this.1.resolve_left hn, fun hn => this.2.resolve_left hn⟩
theorem holds_ok {c : Case} {o : List Int} (ho : OrdOK c o) {l : List Hold} {T Y : Nat → Int} (h : ChainOf c o l T Y) : HoldsOK c o (cutL l) := by
  obtain ⟨r1, r2, r3⟩ := rules_parts h.rules
  have hlen : (cutL l).length = o.length := by rw [cutL_len]; exact h.holds.1
  have hll := h.holds.1
  have hsrc : ∀ i (hi : i < l.length), (l.getD i ⟨0, 0, 0⟩).src = l[i].src := fun i hi => by
    rw [List.getD_eq_getElem?_getD, List.getElem?_eq_getElem hi, Option.getD_some]
  have hget : ∀ i (hi : i < (cutL l).length), (cutL l)[i].who = own o i ∧ (cutL l)[i].src = (l.getD i ⟨0, 0, 0⟩).src ∧ T i ≤ (cutL l)[i].til ∧ (cutL l)[i].til ≤ gHi c c.sales (own o i) ∧
      (∀ h2 : i + 1 < (cutL l).length, (cutL l)[i].til ≤ (l.getD (i + 1) ⟨0, 0, 0⟩).src) := by
    intro i hi
    have hil : i < l.length := by omega
    have hw := h.holds.2 i hil
    have hF := h.feas.own i (by omega)
    have hgi : l.getD i ⟨0, 0, 0⟩ = l[i] := by rw [List.getD_eq_getElem?_getD, List.getElem?_eq_getElem hil, Option.getD_some]
    rw [cutL_get]
    by_cases e : i + 1 < l.length
    · have hn := h.feas.next i (by omega)
      rw [if_pos e, hgi]
      refine ⟨hw.1, rfl, ?_, ?_, fun _ => ?_⟩
      · show T i ≤ min l[i].til _
        rw [hw.2]; omega
      · show min l[i].til _ ≤ _
        rw [hw.2]; omega
      · show min l[i].til _ ≤ _
        omega
    · rw [if_neg e, hgi]
      exact ⟨hw.1, rfl, by rw [hw.2]; exact hF.2.2.2, by rw [hw.2]; exact Int.le_refl _, fun h2 => by omega⟩
  have hwho : (cutL l).map Hold.who = o := by
    apply List.ext_getElem (by rw [List.length_map, hlen])
    intro i h1 h2
    rw [List.getElem_map, (hget i (by omega)).1, (own_at ho h2).1]
  have hplace : ∀ x, placeH (cutL l) x = at' o x := fun x => by unfold placeH; rw [hwho]
  have hgH : ∀ x : Nat, gHi c c.sales x ≤ (owerAt c x).died ∧ gHi c c.sales x ≤ c.now := fun x => by
    have := (fMin_le (fun s => s.src = (x : Int)) c.sales (min (owerAt c x).died c.now)).1
    have e : gHi c c.sales x = fMin (fun s => s.src = (x : Int)) c.sales (min (owerAt c x).died c.now) := rfl
    omega
  have hbL : ∀ x : Nat, c.printed ≤ bLo c c.sales x ∧ (owerAt c x).born ≤ bLo c c.sales x := fun x => by
    have := (fMax_ge (fun s => s.dst = (x : Int)) c.sales (max c.printed (owerAt c x).born)).1
    have e : bLo c c.sales x = fMax (fun s => s.dst = (x : Int)) c.sales (max c.printed (owerAt c x).born) := rfl
    omega
  refine ⟨hwho, fun i hi => ?_, fun hi => ?_, fun i hi => ?_, fun i hi => ?_, fun m hm => ?_, fun s hs hn => ?_, fun s hs hn => ?_⟩
  · obtain ⟨a1, a2, a3⟩ := own_at ho (i := i) (by omega)
    rw [hplace, (hget i hi).1]
    exact ⟨by omega, by omega, a3⟩
  · rw [(hget 0 hi).2.1]
    have := (h.feas.own 0 (by omega)).1
    have := (hbL (own o 0)).1
    omega
  · rw [(hget (i + 1) hi).2.1]
    exact (hget i (by omega)).2.2.2.2 hi
  · obtain ⟨g1, g2, g3, g4, -⟩ := hget i hi
    have hF := h.feas.own i (by omega)
    have hle := h.feas.le i (by omega)
    have b1 := hbL (own o i)
    have b2 := hgH (own o i)
    rw [g1, Int.toNat_natCast, g2]
    have hle : (l.getD i ⟨0, 0, 0⟩).src ≤ T i := hle
    have hF : bLo c c.sales (own o i) ≤ (l.getD i ⟨0, 0, 0⟩).src ∧ _ := hF
    omega
  · obtain ⟨k, hk, hk1, -⟩ := at_mem (complete_marks r1 m hm)
    obtain ⟨q, hq, rfl⟩ := List.getElem_of_mem hm
    obtain ⟨g1, g2, g3, g4, -⟩ := hget k (by omega)
    have hM := h.feas.marks q hq k hk hk1
    refine ⟨k, by rw [hplace]; exact hk1, by omega, ?_, ?_⟩
    · rw [g2]; have h1 : (l.getD k ⟨0, 0, 0⟩).src ≤ Y q := hM.1; omega
    · omega
  · obtain ⟨k, hk, hk1, -⟩ := at_mem ((sale_in r1 hs).2 hn)
    have hown := own_pos ho hk hk1
    obtain ⟨g1, g2, -⟩ := hget k (by omega)
    have hF := h.feas.own k hk
    have b1 := (fMax_ge (fun s => s.dst = (own o k : Int)) c.sales (max c.printed (owerAt c (own o k)).born)).2 s hs hown
    have b2 := (fMin_le (fun s => s.dst = (own o k : Int)) c.sales c.now).2 s hs hown
    have e1 : bLo c c.sales (own o k) = fMax (fun s => s.dst = (own o k : Int)) c.sales (max c.printed (owerAt c (own o k)).born) := rfl
    have e2 : bHi c c.sales (own o k) = fMin (fun s => s.dst = (own o k : Int)) c.sales c.now := rfl
    refine ⟨k, by rw [hplace]; exact hk1, by omega, ?_⟩
    rw [g2]
    have hF : bLo c c.sales (own o k) ≤ (l.getD k ⟨0, 0, 0⟩).src ∧ (l.getD k ⟨0, 0, 0⟩).src ≤ bHi c c.sales (own o k) ∧ _ := hF
    omega
  · obtain ⟨k, hk, hk1, -⟩ := at_mem ((sale_in r1 hs).1 hn)
    have hown := own_pos ho hk hk1
    obtain ⟨g1, g2, g3, g4, -⟩ := hget k (by omega)
    have hF := h.feas.own k hk
    have b1 := (fMax_ge (fun s => s.src = (own o k : Int)) c.sales (owerAt c (own o k)).born).2 s hs hown
    have b2 := (fMin_le (fun s => s.src = (own o k : Int)) c.sales (min (owerAt c (own o k)).died c.now)).2 s hs hown
    have e1 : gLo c c.sales (own o k) = fMax (fun s => s.src = (own o k : Int)) c.sales (owerAt c (own o k)).born := rfl
    have e2 : gHi c c.sales (own o k) = fMin (fun s => s.src = (own o k : Int)) c.sales (min (owerAt c (own o k)).died c.now) := rfl
    refine ⟨k, by rw [hplace]; exact hk1, by omega, ?_⟩
    omega

theorem best_chain {c : Case} (hc : c.OK) {l : List Hold} (h : bestS c (chainsL c) = some l) : ∃ k, ∃ hk : k < (chainsL c).length, (chainsL c)[k].2 = l ∧ OrdOK c (chainsL c)[k].1 ∧ solveS c (chainsL c)[k].1 = some l ∧ HoldsOK c (chainsL c)[k].1 (cutL l) ∧
    (∀ j (hj : j < (chainsL c).length), unknownS c l ≤ unknownS c (chainsL c)[j].2 ∧ (j < k → unknownS c l < unknownS c (chainsL c)[j].2)) := by
  have hne : 0 < (chainsL c).length := by
    apply List.length_pos_iff.2
    intro e
    rw [e] at h; cases h
  obtain ⟨k, hk, -, hb, hmin⟩ := best_spec c (ps := chainsL c) hne (Nat.le_refl _)
  rw [List.take_length, h] at hb
  injection hb with hb
  obtain ⟨h1, h2, h3, h4⟩ := chains_at hk
  rw [← hb] at h3
  have ho := orders_ok h4
  obtain ⟨T, Y, hC⟩ := solve_chain hc ho h3
  exact ⟨k, hk, hb.symm, ho, h3, holds_ok ho hC, fun j hj => by rw [hb]; exact hmin j hj hj⟩
end Go.Proofs.Ytiampdiobdianaa

namespace Go.Proofs.Ytiampdiobdianaa
open Go.Avm

theorem ordOK_err {c : Case} {o : List Int} (ho : OrdOK c o) : orderE c o = 0 := by
  unfold orderE
  rw [out_none (fun x hx => by have := ho.rng x hx; omega), if_neg (by simp), if_pos ho.nd]
theorem why_some {c : Case} (he : errE c = 0) {o : List Int} (ho : OrdOK c o) {l : List Hold} (h : solveS c o = some l) : whyS c o = ⟨unkO c o, 0⟩ := by
  unfold whyS
  rw [if_neg (not_not_intro he), ordOK_err ho, if_neg (by simp), h, ← solve_unknown (Case.ok he) ho h]
theorem chain_none {c : Case} (he : errE c = 0) (hb : bestS c (chainsL c) = none) : chainS c = ⟨[], 0, 8⟩ := by
  unfold chainS; rw [if_neg (not_not_intro he), hb]
theorem chain_some {c : Case} (he : errE c = 0) {l : List Hold} (hb : bestS c (chainsL c) = some l) : chainS c = ⟨cutL l, unknownS c l, 0⟩ := by
  unfold chainS; rw [if_neg (not_not_intro he), hb]
theorem chains_pos {c : Case} {o : List Int} (ho : OrdOK c o) {l : List Hold} (h : solveS c o = some l) : ∃ j, ∃ hj : j < (chainsL c).length, (chainsL c)[j] = (o, l) := by
  have hm : (o, l) ∈ chainsL c := by
    unfold chainsL chainsOf
    rw [List.mem_filterMap]
    exact ⟨o, mem_orders ho, by unfold solved; rw [h]; rfl⟩
  obtain ⟨j, hj, e⟩ := List.getElem_of_mem hm
  exact ⟨j, hj, e⟩
theorem no_chain {c : Case} (hb : bestS c (chainsL c) = none) {o : List Int} (ho : OrdOK c o) : solveS c o = none := by
  cases h : solveS c o with
  | none => rfl
  | some l =>
    obtain ⟨j, hj, -⟩ := chains_pos ho h
    rw [bestS_none hb] at hj
    simp at hj
theorem best_some_iff {c : Case} : (bestS c (chainsL c)).isSome = someB c := by
  unfold someB
  cases h : bestS c (chainsL c) with
  | none => rw [bestS_none h]; rfl
  | some l =>
    cases hc : chainsL c with
    | nil => rw [hc] at h; cases h
    | cons p ps => rfl
theorem chain_e {c : Case} (he : errE c = 0) : (chainS c).e = if someB c then 0 else 8 := by
  rw [← best_some_iff]
  cases h : bestS c (chainsL c) with
  | none => rw [chain_none he h]; rfl
  | some l => rw [chain_some he h]; rfl
end Go.Proofs.Ytiampdiobdianaa

namespace Go.Proofs.Ytiampdiobdianaa
open Go.Avm

theorem err_same {c d : Case} (h : errE c = 0) (hp : d.printed = c.printed) (hn : d.now = c.now) (ho : d.owners = c.owners) (hm8 : d.marks.length ≤ 8)
    (hm : ∀ i (hi : i < d.marks.length), (0 ≤ d.marks[i].owner ∧ d.marks[i].owner < d.owners.length) ∧ (-1 ≤ d.marks[i].upon ∧ d.marks[i].upon < i) ∧ d.printed ≤ d.marks[i].lo ∧ d.marks[i].lo ≤ d.marks[i].hi ∧ d.marks[i].hi ≤ d.now ∧ d.marks[i].hi ≤ d.marks[i].lo + 40)
    (hs4 : d.sales.length ≤ 4) (hs : ∀ s ∈ d.sales, d.printed ≤ s.year ∧ s.year ≤ d.now ∧ -1 ≤ s.src ∧ s.src < d.owners.length ∧ -1 ≤ s.dst ∧ s.dst < d.owners.length ∧ s.src ≠ s.dst) : errE d = 0 := by
  obtain ⟨p, -⟩ := checkS_part h
  have e : checkS d = (0, 0, 0) := by
    refine checkS_9 ⟨⟨⟨?_, ?_, ?_⟩, ?_, by omega⟩, fun j hj => (markE_zero hj).2 (hm j hj), by omega⟩ (fun j hj => (saleE_zero hj).2 (hs _ (List.getElem_mem hj)))
    · rw [hp, hn]; exact p.h1
    · rw [hp, hn]; exact p.h2
    · rw [ho]; exact p.h3
    · intro j hj
      have := p.h4 j (by rw [← ho]; exact hj)
      unfold ownE at this ⊢
      rw [ho]; exact this
  rw [errE, e]
theorem mark_facts {c : Case} (h : errE c = 0) {i : Nat} (hi : i < c.marks.length) : (0 ≤ c.marks[i].owner ∧ c.marks[i].owner < c.owners.length) ∧ (-1 ≤ c.marks[i].upon ∧ c.marks[i].upon < i) ∧ c.printed ≤ c.marks[i].lo ∧ c.marks[i].lo ≤ c.marks[i].hi ∧ c.marks[i].hi ≤ c.now ∧ c.marks[i].hi ≤ c.marks[i].lo + 40 :=
  (markE_zero hi).1 ((checkS_part h).1.h6 i hi)
theorem sale_facts {c : Case} (h : errE c = 0) : ∀ s ∈ c.sales, c.printed ≤ s.year ∧ s.year ≤ c.now ∧ -1 ≤ s.src ∧ s.src < c.owners.length ∧ -1 ≤ s.dst ∧ s.dst < c.owners.length ∧ s.src ≠ s.dst := by
  intro s hs
  obtain ⟨i, hi, rfl⟩ := List.getElem_of_mem hs
  exact (saleE_zero hi).1 ((checkS_part h).2 i hi)
theorem err_sales {c : Case} (h : errE c = 0) : c.sales.length ≤ 4 := by
  have := (checkS_part h).1.h7
  omega
theorem inC_at {c : Case} {i : Nat} {y : Int} {j : Nat} (hj : j < c.marks.length) : (inC c i y).marks[j]'(by simpa [inC] using hj) = if i = j then setYear c.marks[j] y else c.marks[j] := by
  show (c.marks.set i (setYear (c.marks.getD i mkD) y))[j]'(by simpa using hj) = _
  rw [List.getElem_set]
  by_cases e : i = j
  · subst e; rw [if_pos rfl, if_pos rfl, mk_at hj]
  · rw [if_neg e, if_neg e]
end Go.Proofs.Ytiampdiobdianaa

namespace Go.Proofs.Ytiampdiobdianaa
open Go.Avm

structure Weak (c d : Case) (f : Nat → Nat) : Prop where
  printed : c.printed = d.printed
  now : c.now = d.now
  owners : c.owners.length = d.owners.length
  marks : ∀ q (hq : q < c.marks.length), ∃ hd : f q < d.marks.length, d.marks[f q].owner = c.marks[q].owner ∧ c.marks[q].lo ≤ d.marks[f q].lo ∧ d.marks[f q].hi ≤ c.marks[q].hi ∧ (c.marks[q].upon ≠ -1 → d.marks[f q].upon = (f c.marks[q].upon.toNat : Nat))
  sales : ∀ s ∈ c.sales, ∃ t ∈ d.sales, t.src = s.src ∧ t.dst = s.dst
  bnd : ∀ x, x < c.owners.length → bLo c c.sales x ≤ bLo d d.sales x ∧ bHi d d.sales x ≤ bHi c c.sales x ∧ gLo c c.sales x ≤ gLo d d.sales x ∧ gHi d d.sales x ≤ gHi c c.sales x
theorem Weak.ord {c d : Case} {f : Nat → Nat} (h : Weak c d f) {o : List Int} : OrdOK c o ↔ OrdOK d o :=
  ⟨fun g => ⟨fun x hx => by have := g.rng x hx; rw [h.owners] at this; exact this, g.nd⟩, fun g => ⟨fun x hx => by have := g.rng x hx; rw [← h.owners] at this; exact this, g.nd⟩⟩
theorem Weak.rules {c d : Case} {f : Nat → Nat} (h : Weak c d f) (hc : c.OK) {o : List Int} (hr : rulesB d o = true) : rulesB c o = true := by
  obtain ⟨r1, r2, r3⟩ := rules_parts hr
  have hm := complete_marks r1
  have g1 : completeB c o = true := by
    unfold completeB
    rw [Bool.and_eq_true]
    constructor
    · rw [List.all_eq_true]
      intro m hmm
      obtain ⟨q, hq, rfl⟩ := List.getElem_of_mem hmm
      obtain ⟨hd, ho, -⟩ := h.marks q hq
      have := hm _ (List.getElem_mem hd)
      unfold markIn
      rw [← ho]; simpa using this
    · rw [List.all_eq_true]
      intro s hs
      obtain ⟨t, ht, h1, h2⟩ := h.sales s hs
      have := sale_in r1 ht
      unfold saleIn hasO
      rw [← h1, ← h2]
      simp only [Bool.and_eq_true, Bool.or_eq_true, decide_eq_true_eq]
      constructor
      · by_cases e : t.src = -1
        · exact .inl e
        · exact .inr (this.1 e)
      · by_cases e : t.dst = -1
        · exact .inl e
        · exact .inr (this.2 e)
  have g2 : besideB c o = true := by
    unfold besideB at r2 ⊢
    rw [List.all_eq_true] at r2 ⊢
    intro s hs
    obtain ⟨t, ht, h1, h2⟩ := h.sales s hs
    have := r2 t ht
    unfold nextTo at this ⊢
    rw [← h1, ← h2]; exact this
  have g3 : layeredB c o = true := by
    unfold layeredB
    rw [List.all_eq_true]
    intro m hmm
    obtain ⟨q, hq, rfl⟩ := List.getElem_of_mem hmm
    have hup := hc.upon q hq
    obtain ⟨hd, ho, -, -, hu⟩ := h.marks q hq
    unfold under
    by_cases hn : c.marks[q].upon = -1
    · rw [decide_eq_true hn]; rfl
    · have hu := hu hn
      have hul : c.marks[q].upon.toNat < c.marks.length := by omega
      obtain ⟨hd2, ho2, -⟩ := h.marks _ hul
      have := layered_pos r3 hd (by rw [hu]; omega)
      rw [hu, Int.toNat_natCast, mk_at hd2, ho, ho2] at this
      rw [mk_at hul, decide_eq_false this]
      simp
  unfold rulesB
  rw [g1, g2, g3]; rfl
theorem Weak.feas {c d : Case} {f : Nat → Nat} (h : Weak c d f) {o : List Int} (ho : OrdOK c o) {S T Y : Nat → Int} (hF : Feas d o S T Y) : Feas c o S T fun q => Y (f q) := by
  refine ⟨hF.le, hF.next, fun i hi => ?_, fun q hq i hi he => ?_, fun q hq i hi he hn => ?_⟩
  · have g := hF.own i hi
    have b := h.bnd (own o i) (own_at ho hi).2.1
    omega
  · obtain ⟨hd, h1, h2, h3, -⟩ := h.marks q hq
    have := hF.marks (f q) hd i hi (by rw [h1]; exact he)
    show S i ≤ Y (f q) ∧ Y (f q) ≤ T i ∧ c.marks[q].lo ≤ Y (f q) ∧ Y (f q) ≤ c.marks[q].hi
    omega
  · obtain ⟨hd, h1, -, -, h4⟩ := h.marks q hq
    have h4 := h4 hn
    have := hF.upon (f q) hd i hi (by rw [h1]; exact he) (by rw [h4]; omega)
    rw [h4, Int.toNat_natCast] at this
    exact this
theorem gapO_mono {c d : Case} : ∀ {o : List Int} {p p' : Int}, (∀ x ∈ o, bLo c c.sales x.toNat ≤ bLo d d.sales x.toNat ∧ gHi d d.sales x.toNat ≤ gHi c c.sales x.toNat) → p' ≤ p → gapO c p o ≤ gapO d p' o ∧ lastO d p' o ≤ lastO c p o
  | [], p, p', _, hp => ⟨Int.le_refl _, hp⟩
  | x :: o, p, p', h, hp => by
    have hx := h x (by simp)
    obtain ⟨i1, i2⟩ := gapO_mono (o := o) (p := gHi c c.sales x.toNat) (p' := gHi d d.sales x.toNat) (fun y hy => h y (by simp [hy])) hx.2
    refine ⟨?_, i2⟩
    show (if p < bLo c c.sales x.toNat then 1 else 0) + gapO c (gHi c c.sales x.toNat) o ≤ (if p' < bLo d d.sales x.toNat then 1 else 0) + gapO d (gHi d d.sales x.toNat) o
    by_cases hc : p < bLo c c.sales x.toNat
    · rw [if_pos hc, if_pos (by omega)]; omega
    · rw [if_neg hc]; split <;> omega
theorem unkO_mono {c d : Case} (hp : c.printed = d.printed) (hn : c.now = d.now) {o : List Int} (h : ∀ x ∈ o, bLo c c.sales x.toNat ≤ bLo d d.sales x.toNat ∧ gHi d d.sales x.toNat ≤ gHi c c.sales x.toNat) : unkO c o ≤ unkO d o := by
  obtain ⟨i1, i2⟩ := gapO_mono (p := c.printed) (p' := d.printed) h (by omega)
  unfold unkO
  by_cases e : o = []
  · rw [if_pos e, if_pos e]; exact Int.le_refl _
  · rw [if_neg e, if_neg e]
    by_cases hc : lastO c c.printed o < c.now
    · rw [if_pos hc, if_pos (by omega)]; omega
    · rw [if_neg hc]; split <;> omega
theorem Weak.unk {c d : Case} {f : Nat → Nat} (h : Weak c d f) {o : List Int} (ho : OrdOK c o) : unkO c o ≤ unkO d o := by
  refine unkO_mono h.printed h.now fun x hx => ?_
  have hr := ho.rng x hx
  have := h.bnd x.toNat (by omega)
  exact ⟨this.1, this.2.2.2⟩
theorem Weak.solve {c d : Case} {f : Nat → Nat} (h : Weak c d f) (hc : c.OK) (hd : d.OK) {o : List Int} (ho : OrdOK c o) {l : List Hold} (hs : solveS d o = some l) : ∃ l', solveS c o = some l' ∧ unkO c o ≤ unkO d o := by
  obtain ⟨T, Y, hC⟩ := solve_chain hd (h.ord.1 ho) hs
  obtain ⟨l', hl'⟩ := feas_solve hc ho (h.rules hc hC.rules) (h.feas ho hC.feas)
  exact ⟨l', hl', h.unk ho⟩
theorem Weak.chain {c d : Case} {f : Nat → Nat} (h : Weak c d f) (hc : c.OK) (hd : d.OK) (hs : someB d = true) : someB c = true := by
  obtain ⟨o, ho, l, hl⟩ := someB_iff.1 hs
  obtain ⟨l', hl', -⟩ := h.solve hc hd (h.ord.2 ho) hl
  exact someB_iff.2 ⟨o, h.ord.2 ho, l', hl'⟩
theorem Weak.best {c d : Case} {f : Nat → Nat} (h : Weak c d f) (hc : c.OK) (hd : d.OK) {l : List Hold} (hs : bestS d (chainsL d) = some l) : ∃ l', bestS c (chainsL c) = some l' ∧ unknownS c l' ≤ unknownS d l := by
  obtain ⟨k, hk, h2, ho, hs2, -, -⟩ := best_chain hd hs
  obtain ⟨l1, hl1, hu⟩ := h.solve hc hd (h.ord.2 ho) hs2
  cases hb : bestS c (chainsL c) with
  | none => rw [no_chain hb (h.ord.2 ho)] at hl1; cases hl1
  | some l' =>
    obtain ⟨j, hj, e⟩ := chains_pos (h.ord.2 ho) hl1
    obtain ⟨k2, hk2, _, _, _, _, hmin⟩ := best_chain hc hb
    have := (hmin j hj).1
    rw [e] at this
    rw [solve_unknown hd ho hs2]
    have e2 := solve_unknown hc (h.ord.2 ho) hl1
    refine ⟨l', rfl, ?_⟩
    simp only at this
    omega
theorem Weak.had {c d : Case} {f : Nat → Nat} (h : Weak c d f) (hc : c.OK) (o : Nat) (y : Int) : Weak (hadC c o y) (hadC d o y) fun q => if q < c.marks.length then f q else d.marks.length := by
  refine ⟨h.printed, h.now, h.owners, fun q hq => ?_, h.sales, h.bnd⟩
  have hq' : q < c.marks.length + 1 := by simpa [hadC] using hq
  by_cases e : q < c.marks.length
  · obtain ⟨hd, h1, h2, h3, h4⟩ := h.marks q e
    have hup := hc.upon q e
    simp only [if_pos e]
    have e1 : (hadC c o y).marks[q] = c.marks[q] := by simp only [hadC]; rw [List.getElem_append_left e]
    refine ⟨by simp [hadC]; omega, ?_⟩
    have e2 : (hadC d o y).marks[f q]'(by simp [hadC]; omega) = d.marks[f q] := by simp only [hadC]; rw [List.getElem_append_left hd]
    rw [e1, e2]
    exact ⟨h1, h2, h3, fun hn => by rw [if_pos (by omega)]; exact h4 hn⟩
  · have e0 : q = c.marks.length := by omega
    subst e0
    simp only [if_neg e]
    refine ⟨by simp [hadC], ?_⟩
    simp [hadC]
theorem Weak.inY {c d : Case} (h : Weak c d id) (i : Nat) (y : Int) : Weak (inC c i y) (inC d i y) id := by
  refine ⟨h.printed, h.now, h.owners, fun q hq => ?_, h.sales, h.bnd⟩
  have hq' : q < c.marks.length := by simpa [inC] using hq
  obtain ⟨hd, h1, h2, h3, h4⟩ := h.marks q hq'
  simp only [id] at hd h1 h2 h3 h4 ⊢
  refine ⟨by simpa [inC] using hd, ?_⟩
  rw [inC_at hq', inC_at hd]
  by_cases e : i = q
  · rw [if_pos e, if_pos e]
    exact ⟨h1, Int.le_refl _, Int.le_refl _, h4⟩
  · rw [if_neg e, if_neg e]
    exact ⟨h1, h2, h3, h4⟩
theorem Weak.owned {c d : Case} {f : Nat → Nat} (h : Weak c d f) (hc : c.OK) (hd : d.OK) (hc8 : c.marks.length ≤ 8) (hd8 : d.marks.length ≤ 8) {y : Int} (hy : c.printed ≤ y ∧ y ≤ c.now) : ∀ x ∈ ownedS d y, x ∈ ownedS c y := by
  intro x hx
  obtain ⟨j, rfl, hj, hs⟩ := selT_mem hx
  unfold ownedS
  rw [mem_selT]
  have hj' : j < c.owners.length := by rw [h.owners]; exact hj
  refine ⟨hj', ?_⟩
  exact (h.had hc j y).chain (hadC_ok hc hc8 hj' hy) (hadC_ok hd hd8 hj (by rw [← h.printed, ← h.now]; exact hy)) hs
theorem Weak.years {c d : Case} (h : Weak c d id) (hc : c.OK) (hd : d.OK) (hs : someB d = true) {i : Nat} (hi : i < c.marks.length) (hid : i < d.marks.length) (hm : d.marks[i].lo = c.marks[i].lo ∧ d.marks[i].hi = c.marks[i].hi) : yearLoP c i ≤ yearLoP d i ∧ yearHiP d i ≤ yearHiP c i := by
  have hsc := h.chain hc hd hs
  obtain ⟨y, h1, h2, h3⟩ := year_some hd hs hid
  have hmk := hc.marks _ (List.getElem_mem hi)
  have hp : ∀ z, c.marks[i].lo ≤ z ∧ z ≤ c.marks[i].hi → madeP d i z = true → madeP c i z = true := fun z hz e =>
    (h.inY i z).chain (inC_ok hc (by omega)) (inC_ok hd (by rw [← h.printed, ← h.now]; omega)) e
  rw [yearHi_eq hc hsc hi, yearHi_eq hd hs hid]
  unfold yearLoP
  rw [mk_at hi, mk_at hid, hm.1, hm.2] at *
  obtain ⟨a1, a2, a3⟩ := upTo_spec (madeP d i) (c.marks[i].hi - c.marks[i].lo).toNat c.marks[i].lo y h1 (by omega) h3
  obtain ⟨b1, b2, b3⟩ := dnTo_spec (madeP d i) (c.marks[i].hi - c.marks[i].lo).toNat c.marks[i].hi y h2 (by omega) h3
  have a4 := upTo_in (madeP d i) (c.marks[i].hi - c.marks[i].lo).toNat c.marks[i].lo
  have b4 := dnTo_in (madeP d i) (c.marks[i].hi - c.marks[i].lo).toNat c.marks[i].hi
  obtain ⟨-, a5, -⟩ := upTo_spec (madeP c i) (c.marks[i].hi - c.marks[i].lo).toNat c.marks[i].lo _ (by omega) (by omega) (hp _ (by omega) a1)
  obtain ⟨-, b5, -⟩ := dnTo_spec (madeP c i) (c.marks[i].hi - c.marks[i].lo).toNat c.marks[i].hi _ (by omega) (by omega) (hp _ (by omega) b1)
  exact ⟨a5, b5⟩
end Go.Proofs.Ytiampdiobdianaa

namespace Go.Proofs.Ytiampdiobdianaa
open Go.Avm

def hFrom (c : Case) (ys : List Int) (w since : Int) (k : Nat) : Int := max since (owerAt c w.toNat).born + turnS ys (2 * k)
def hCap (c : Case) (w : Int) : Int := min (owerAt c w.toNat).died c.now
def hTil (c : Case) (ys : List Int) (w f : Int) (k : Nat) : Int := min (f + turnS ys (2 * k + 1)) (hCap c w)
def hadStep (c : Case) (ys : List Int) (w : Int) (k : Nat) (x : List Hold × Int) : Option (List Hold × Int) :=
  if hCap c w < hFrom c ys w x.2 k then none else some (x.1 ++ [⟨w, hFrom c ys w x.2 k, hTil c ys w (hFrom c ys w x.2 k) k⟩], hTil c ys w (hFrom c ys w x.2 k) k)
def hadUp (c : Case) (ys o : List Int) : Nat → Option (List Hold × Int)
  | 0 => some ([], c.printed)
  | k + 1 => (hadUp c ys o k).bind (hadStep c ys (o.getD k 0) k)
def hadO (c : Case) (p : Past) : List Int := anyO c (turnS p.chain 0).toNat
def hadT (c : Case) (p : Past) : Option (List Hold) := (hadUp c p.years (hadO c p) (hadO c p).length).map (·.1)
theorem hadUp_none {c : Case} {ys o : List Int} : ∀ {n k : Nat}, k ≤ n → hadUp c ys o k = none → hadUp c ys o n = none
  | 0, k, h, e => by obtain rfl : k = 0 := by omega
                     exact e
  | n + 1, k, h, e => by
    by_cases hk : k = n + 1
    · subst hk; exact e
    · unfold hadUp
      rw [hadUp_none (show k ≤ n by omega) e]; rfl
theorem hadUp_len {c : Case} {ys o : List Int} : ∀ {n : Nat} {x : List Hold × Int}, hadUp c ys o n = some x → x.1.length = n
  | 0, x, h => by injection h with h; subst h; rfl
  | n + 1, x, h => by
    have h : (hadUp c ys o n).bind (hadStep c ys (o.getD n 0) n) = some x := h
    rw [Option.bind_eq_some_iff] at h
    obtain ⟨y, hy, h⟩ := h
    unfold hadStep at h
    split at h
    · cases h
    injection h with h
    subst h
    simp [hadUp_len hy]
theorem hadUp_til {c : Case} (hc : c.OK) {ys o : List Int} : ∀ {n : Nat} {x : List Hold × Int}, hadUp c ys o n = some x → x.2 ≤ c.now
  | 0, x, h => by injection h with h; subst h; exact hc.years.2.1
  | n + 1, x, h => by
    have h : (hadUp c ys o n).bind (hadStep c ys (o.getD n 0) n) = some x := h
    rw [Option.bind_eq_some_iff] at h
    obtain ⟨y, hy, h⟩ := h
    unfold hadStep at h
    split at h
    · cases h
    injection h with h
    subst h
    show hTil _ _ _ _ _ ≤ _
    unfold hTil hCap
    omega
def hadAV : Option (List Hold) → AV
  | none => .tuple [HL [], B false]
  | some l => .tuple [HL l, B true]
theorem had43_ok {c : Case} (hc : c.OK) {p : Past} (hp : p.OK) : PCall Try.prog 43 [encCase c, encPast p] (hadAV (hadT c p)) := by
  refine pcall Try.func43 tr43 rs43 fn43 (by simp [Try.ntmps43]) fun _ => ?_
  obtain ⟨R, hR⟩ : ∃ R, R = hadT c p := ⟨_, rfl⟩
  rw [← hR]
  have hyy := hc.years
  have t0 := turn81_ok hp.chain.1 hp.chain.2 0 (by omega)
  have tr := turnS_range hp.chain.1 0
  have ho : OrdOK c (hadO c p) := anyO_ok c _
  have ao := any41_ok hc.ownersLen (turnS p.chain 0).toNat
  have hcast : (((turnS p.chain 0).toNat : Nat) : Int) = turnS p.chain 0 := by omega
  rw [hcast] at ao
  have ao : PCall Try.prog 41 [encCase c, I (turnS p.chain 0)] (IL (hadO c p)) := ao
  have ty := fun k (hk : k < 1000000) => turn81_ok hp.years.1 hp.years.2 k hk
  have yr := fun k => turnS_range hp.years.1 k
  unfold hadT at hR
  generalize hadO c p = o at *
  have hol : o.length ≤ 6 := by have := nodup_len _ _ ho.nd ho.rng; have := hc.ownersLen; omega
  simp -implicitDefEqProofs only [m43]
  refine cutS (fun st => st.env 2 = caseRef c ∧ st.env 3 = .ref [US p.chain, US p.years, US p.marks, US p.sales]) ?_ ?_
  · intro k hk
    simp -implicitDefEqProofs
    exact hk _ (by simp)
  rintro s ⟨e2, e3⟩
  refine cutS (fun st => st.env 2 = caseRef c ∧ st.env 3 = .ref [US p.chain, US p.years, US p.marks, US p.sales] ∧ st.env 6 = IL o) ?_ ?_
  · intro k hk
    simp -implicitDefEqProofs [e2, e3]
    refine vCall_of t0 ?_
    simp -implicitDefEqProofs
    refine vCall_of ao ?_
    simp -implicitDefEqProofs
    exact hk _ (by simp [e2, e3])
  rintro s ⟨e2, e3, e6⟩
  refine cutS (fun st => st.env 2 = caseRef c ∧ st.env 3 = .ref [US p.chain, US p.years, US p.marks, US p.sales] ∧ st.env 6 = IL o ∧ st.env 7 = .slice 3 [] 8) ?_ ?_
  · intro k hk
    simp -implicitDefEqProofs
    exact hk _ (by simp [e2, e3, e6])
  rintro s ⟨e2, e3, e6, e7⟩
  refine cutS (fun st => st.env 2 = caseRef c ∧ st.env 3 = .ref [US p.chain, US p.years, US p.marks, US p.sales] ∧ st.env 6 = IL o ∧ st.env 7 = .slice 3 [] 8 ∧ st.env 8 = I c.printed) ?_ ?_
  · intro k hk
    simp -implicitDefEqProofs [e2]
    exact hk _ (by simp [e2, e3, e6, e7])
  rintro s ⟨e2, e3, e6, e7, e8⟩
  refine cutS (fun st => ∃ x : List Hold × Int, st.env 7 = .slice 3 (x.1.map encHold) 8 ∧ R = some x.1) ?_ ?_
  · intro k0 hk0
    simp -implicitDefEqProofs
    refine loop_up o.length (fun k st => st.env 2 = caseRef c ∧ st.env 3 = .ref [US p.chain, US p.years, US p.marks, US p.sales] ∧ st.env 6 = IL o ∧ st.env 9 = I k ∧ ∃ x : List Hold × Int, st.env 7 = .slice 3 (x.1.map encHold) 8 ∧ st.env 8 = I x.2 ∧ hadUp c p.years o k = some x) ?_ ?_
    · refine ⟨by simp [e2], by simp [e3], by simp [e6], by simp, ([], c.printed), by simp [e7], by simp [e8], rfl⟩
    rintro k s hk ⟨e2, e3, e6, e9, x, e7, e8, hx⟩
    simp -implicitDefEqProofs [e6, e9]
    refine cond_dec (fun hlt => ?_) (fun hge => ?_)
    · have hlt : k < o.length := by omega
      obtain ⟨w0, w1⟩ := ho.rng _ (List.getElem_mem hlt)
      have hwn : o[k].toNat < c.owners.length := by omega
      have hww := hc.owners _ (List.getElem_mem hwn)
      have hsi := hadUp_til hc hx
      have hln := hadUp_len hx
      have hst : hadUp c p.years o (k + 1) = hadStep c p.years o[k] k x := by
        show (hadUp c p.years o k).bind (hadStep c p.years (o.getD k 0) k) = _
        rw [hx, List.getD_eq_getElem?_getD, List.getElem?_eq_getElem hlt]; rfl
      have hno := fun h => hadUp_none (c := c) (ys := p.years) (o := o) (n := o.length) (k := k + 1) hlt h
      have r1 := yr (2 * k)
      have r2 := yr (2 * k + 1)
      have c1 := ty (2 * k) (by omega)
      have c2 := ty (2 * k + 1) (by omega)
      have k1 : ((2 * k : Nat) : Int) = 2 * (k : Int) := by omega
      have k2 : ((2 * k + 1 : Nat) : Int) = 2 * (k : Int) + 1 := by omega
      rw [k1] at c1
      rw [k2] at c2
      have hF : hFrom c p.years o[k] x.2 k = max x.2 c.owners[o[k].toNat].born + turnS p.years (2 * k) := by unfold hFrom owerAt; rw [ower_at hwn]
      have hC : hCap c o[k] = min c.owners[o[k].toNat].died c.now := by unfold hCap owerAt; rw [ower_at hwn]
      have hT : hTil c p.years o[k] (hFrom c p.years o[k] x.2 k) k = min (hFrom c p.years o[k] x.2 k + turnS p.years (2 * k + 1)) (hCap c o[k]) := rfl
      unfold hadStep at hst
      generalize hTil c p.years o[k] (hFrom c p.years o[k] x.2 k) k = TT at *
      generalize hFrom c p.years o[k] x.2 k = FF at *
      generalize hCap c o[k] = CC at *
      generalize turnS p.years (2 * k) = U1 at *
      generalize turnS p.years (2 * k + 1) = U2 at *
      obtain ⟨W, hW⟩ : ∃ W, W = c.owners[o[k].toNat] := ⟨_, rfl⟩
      rw [← hW] at hF hC hww
      generalize hok : o[k] = w at *
      refine stepB (cutS (fun st => st.env 2 = caseRef c ∧ st.env 3 = .ref [US p.chain, US p.years, US p.marks, US p.sales] ∧ st.env 6 = IL o ∧ st.env 9 = I k ∧ st.env 7 = .slice 3 (x.1.map encHold) 8 ∧ st.env 8 = I x.2 ∧ st.env 10 = .ref [S W.name, I W.born, I W.died]) ?_ ?_)
      · intro k1 hk1
        simp -implicitDefEqProofs [e2, e6, e9, hlt, hok, hwn, w0, w1, ← hW]
        intro b _
        exact hk1 _ (by simp [e2, e3, e6, e7, e8, e9])
      have mx : (if x.2 < W.born then W.born else x.2) = max x.2 W.born := by omega
      have mc : (if c.now < W.died then c.now else W.died) = CC := by omega
      have mt : (if CC < FF + U2 then CC else FF + U2) = TT := by omega
      rintro s ⟨e2, e3, e6, e9, e7, e8, e10⟩
      refine cutS (fun st => st.env 2 = caseRef c ∧ st.env 3 = .ref [US p.chain, US p.years, US p.marks, US p.sales] ∧ st.env 6 = IL o ∧ st.env 9 = I k ∧ st.env 7 = .slice 3 (x.1.map encHold) 8 ∧ st.env 10 = .ref [S W.name, I W.born, I W.died] ∧ st.env 11 = I FF) ?_ ?_
      · intro k1 hk1
        simp -implicitDefEqProofs [e3, e8, e9, e10]
        refine ⟨i64 (by omega) (by omega), vCall_of c1 ?_⟩
        simp -implicitDefEqProofs
        refine ⟨i64 (by omega) (by omega), hk1 _ (by simp [e2, e3, e6, e7, e9, e10, hF, mx])⟩
      rintro s ⟨e2, e3, e6, e9, e7, e10, e11⟩
      refine cutS (fun st => st.env 2 = caseRef c ∧ st.env 3 = .ref [US p.chain, US p.years, US p.marks, US p.sales] ∧ st.env 6 = IL o ∧ st.env 9 = I k ∧ st.env 7 = .slice 3 (x.1.map encHold) 8 ∧ st.env 10 = .ref [S W.name, I W.born, I W.died] ∧ st.env 11 = I FF ∧ st.env 12 = I (FF + U2)) ?_ ?_
      · intro k1 hk1
        simp -implicitDefEqProofs [e3, e9, e11]
        refine ⟨i64 (by omega) (by omega), i64 (by omega) (by omega), vCall_of c2 ?_⟩
        simp -implicitDefEqProofs
        refine ⟨i64 (by omega) (by omega), hk1 _ (by simp [e2, e3, e6, e7, e9, e10, e11])⟩
      rintro s ⟨e2, e3, e6, e9, e7, e10, e11, e12⟩
      by_cases hbig : CC < FF
      · rw [if_pos hbig] at hst
        rw [hno hst] at hR
        simp -implicitDefEqProofs [e2, e10, e11, mc, hbig, r43, hR, hadAV]
      rw [if_neg hbig] at hst
      refine cutS (fun st => st.env 2 = caseRef c ∧ st.env 3 = .ref [US p.chain, US p.years, US p.marks, US p.sales] ∧ st.env 6 = IL o ∧ st.env 9 = I k ∧ st.env 7 = .slice 3 (x.1.map encHold) 8 ∧ st.env 10 = .ref [S W.name, I W.born, I W.died] ∧ st.env 11 = I FF ∧ st.env 12 = I (FF + U2)) ?_ ?_
      · intro k1 hk1
        simp -implicitDefEqProofs [e2, e10, e11, mc, hbig]
        exact hk1 _ (by simp [e2, e3, e6, e7, e9, e10, e11, e12])
      rintro s ⟨e2, e3, e6, e9, e7, e10, e11, e12⟩
      refine cutS (fun st => st.env 2 = caseRef c ∧ st.env 3 = .ref [US p.chain, US p.years, US p.marks, US p.sales] ∧ st.env 6 = IL o ∧ st.env 9 = I k ∧ st.env 7 = .slice 3 (x.1.map encHold) 8 ∧ st.env 11 = I FF ∧ st.env 12 = I TT) ?_ ?_
      · intro k1 hk1
        simp -implicitDefEqProofs [e2, e10, e12]
        exact hk1 _ (by simp [e2, e3, e6, e7, e9, e11, mc, mt])
      rintro s ⟨e2, e3, e6, e9, e7, e11, e12⟩
      have hts : (x.1 ++ [(⟨w, FF, TT⟩ : Hold)]).map encHold = x.1.map encHold ++ [.agg [I w, I FF, I TT]] := by simp
      have hxl : (x.1.map encHold).length = k := by rw [List.length_map, hln]
      generalize x.1.map encHold = XL at *
      generalize hX : x.1 ++ [(⟨w, FF, TT⟩ : Hold)] = X at *
      refine cutS (fun st => st.env 2 = caseRef c ∧ st.env 3 = .ref [US p.chain, US p.years, US p.marks, US p.sales] ∧ st.env 6 = IL o ∧ st.env 9 = I k ∧ st.env 7 = .slice 3 (X.map encHold) 8 ∧ st.env 12 = I TT) ?_ ?_
      · intro k1 hk1
        simp -implicitDefEqProofs [e6, e7, e9, e11, e12, hlt, hok]
        refine ⟨by omega, by omega, hk1 _ (by simp [e2, e3, e6, e9, e12, hts])⟩
      rintro s ⟨e2, e3, e6, e9, e7, e12⟩
      simp -implicitDefEqProofs [e9, e12]
      refine ⟨i64 (by omega) (by omega), round_ok hlt ⟨by simp [e2], by simp [e3], by simp [e6], by simp, X, by simp [e7], TT, by simp, hst⟩⟩
    · obtain rfl : k = o.length := by omega
      simp -implicitDefEqProofs
      rw [hx] at hR
      exact hk0 _ ⟨x, e7, hR⟩
  rintro s ⟨x, e7, hR⟩
  simp -implicitDefEqProofs [e7, r43, hR, hadAV]
end Go.Proofs.Ytiampdiobdianaa

namespace Go.Proofs.Ytiampdiobdianaa
open Go.Avm

def holdD : Hold := ⟨0, 0, 0⟩
def hAt (l : List Hold) (n : Int) : Hold := l.getD (n.toNat % l.length) holdD
def tYear (h : Hold) (n : Int) : Int := h.src + n % (h.til - h.src + 1)
def uponS (p : Nat → Bool) : Nat → Int
  | 0 => -1
  | j + 1 => if p j then j else uponS p j
def tCond (l : List Hold) (ds : List Mk) (ys : List Int) (w y n : Int) (j : Nat) : Bool := decide (ys.getD j 0 ≤ y) && (decide (placeH l (ds.getD j mkD).owner ≤ placeH l w) && decide (n % 2 = 1))
def tMark (c : Case) (l : List Hold) (n2 n3 : Int) (h : Hold) (y : Int) (x : List Mk × List Int) : Mk :=
  ⟨h.who, max c.printed (y - n2 % 20), min c.now (y + n3 % 20), uponS (tCond l x.1 x.2 h.who y n3) x.1.length⟩
def tStep (c : Case) (l : List Hold) (n0 n1 n2 n3 : Int) (x : List Mk × List Int) : List Mk × List Int :=
  (x.1 ++ [tMark c l n2 n3 (hAt l n0) (tYear (hAt l n0) n1) x], x.2 ++ [tYear (hAt l n0) n1])
def tUp (c : Case) (l : List Hold) (ms : List Int) : Nat → List Mk × List Int
  | 0 => ([], [])
  | k + 1 => tStep c l (ms.getD (4 * k) 0) (ms.getD (4 * k + 1) 0) (ms.getD (4 * k + 2) 0) (ms.getD (4 * k + 3) 0) (tUp c l ms k)
def tN (l : List Hold) (ms : List Int) : Nat := if l = [] then 0 else min 8 (ms.length / 4)
def sTold (l : List Hold) (n : Int) : Sale :=
  let j := n.toNat % l.length
  let h := l.getD j holdD
  if n % 3 = 0 ∧ 0 < j ∧ h.src = (l.getD (j - 1) holdD).til then ⟨h.src, (l.getD (j - 1) holdD).who, h.who⟩ else
  if n % 2 = 1 then ⟨h.til, h.who, -1⟩ else ⟨h.src, -1, h.who⟩
def sUp (l : List Hold) (ss : List Int) (k : Nat) : List Sale := (ss.take k).map (sTold l)
def sN (l : List Hold) (ss : List Int) : Nat := if l = [] then 0 else min 4 ss.length
def toldC (c : Case) (l : List Hold) (p : Past) : Case := { c with marks := (tUp c l p.marks (tN l p.marks)).1, sales := sUp l p.sales (sN l p.sales) }
def toldY (c : Case) (l : List Hold) (p : Past) : List Int := (tUp c l p.marks (tN l p.marks)).2
theorem tUp_len (c : Case) (l : List Hold) (ms : List Int) : ∀ k, (tUp c l ms k).1.length = k ∧ (tUp c l ms k).2.length = k
  | 0 => ⟨rfl, rfl⟩
  | k + 1 => by
    have := tUp_len c l ms k
    unfold tUp tStep
    simp [this]
abbrev pastRef (p : Past) : AV := .ref [US p.chain, US p.years, US p.marks, US p.sales]
abbrev tCells (c : Case) (ms : List Mk) (ss : List Sale) : List AV := [I c.printed, I c.now, .slice 3 (c.owners.map encOwner) 0, .slice 4 (ms.map encMark) 4003, .slice 3 (ss.map encSale) 4004]
theorem stepC {P : Program} {kn : St → Prop} {ke : Nat → St → Prop} {kr : St → Prop} {s : St} {x y : MCode} {i : Nat} (h : mwp P x (mwp P y kn ke kr) (blockE (mwp P y kn ke kr) ke i) kr s) : mwp P (.seq (.block i x) y) kn ke kr s := h
theorem mk_at' {l : List Mk} {i : Nat} (hi : i < l.length) : l.getD i mkD = l[i] := by simp [hi]
theorem wu {l : List Int} (h : okU l) {i : Nat} (hi : i < l.length) : ∃ n : Nat, l[i] = n ∧ n ≤ 65535 := by
  have := h _ (List.getElem_mem hi)
  exact ⟨l[i].toNat, by omega, by omega⟩
abbrev g6 : List AV := [I 0, I 0, .slice 3 [] 7002, .slice 4 [] 7003, .slice 3 [] 7004]
structure TJ (c : Case) (l : List Hold) (p : Past) (b b6 : Nat) (x : List Mk × List Int) (ss : List Sale) (s : St) : Prop where
  e : s.env 1 = HL l ∧ s.env 3 = .mref b 0 ∧ s.env 5 = pastRef p ∧ s.env 8 = .slice 1 (x.2.map I) 9 ∧ s.env 6 = .mref b6 0
  l : s.loc b = some (tCells c x.1 ss)
  l6 : s.loc b6 = some g6
theorem TJ.ext {c : Case} {l : List Hold} {p : Past} {b b6 : Nat} {x : List Mk × List Int} {ss : List Sale} {s t : St} (h : TJ c l p b b6 x ss s) (he : t.env 1 = s.env 1 ∧ t.env 3 = s.env 3 ∧ t.env 5 = s.env 5 ∧ t.env 8 = s.env 8 ∧ t.env 6 = s.env 6) (hl : t.loc b = s.loc b ∧ t.loc b6 = s.loc b6) : TJ c l p b b6 x ss t :=
  ⟨⟨he.1.trans h.e.1, he.2.1.trans h.e.2.1, he.2.2.1.trans h.e.2.2.1, he.2.2.2.1.trans h.e.2.2.2.1, he.2.2.2.2.trans h.e.2.2.2.2⟩, hl.1.trans h.l, hl.2.trans h.l6⟩
def HIn (c : Case) (l : List Hold) : Prop := ∀ h ∈ l, c.printed ≤ h.src ∧ h.src ≤ h.til ∧ h.til ≤ c.now
end Go.Proofs.Ytiampdiobdianaa

namespace Go.Proofs.Ytiampdiobdianaa
open Go.Avm

/- duodecimo/duodecimolaw08.Told -/
def ann44w : Ann := { muts := [3], nilsz := [(7, 1), (8, 1), (1000017, 4), (1000018, 3)], oid := [(17, 4003), (18, 4004), (145, 4003), (249, 4004)], frz := [10], zero := [(6, [(.lit (.int .i64 0)), (.lit (.int .i64 0)), (.slice 3 [] 7002), (.slice 4 [] 7003), (.slice 3 [] 7004)]), (10, [(.lit (.int .i64 0)), (.lit (.int .i64 0)), (.lit (.int .i64 0))]), (12, [(.lit (.int .i64 0)), (.lit (.int .i64 0)), (.lit (.int .i64 0)), (.lit (.int .i64 0))]), (16, [(.lit (.int .i64 0)), (.lit (.int .i64 0)), (.lit (.int .i64 0))]), (139, [(.lit (.int .i64 0)), (.lit (.int .i64 0)), (.lit (.int .i64 0)), (.lit (.int .i64 0))]), (143, [(.lit (.int .i64 0))]), (183, [(.lit (.int .i64 0)), (.lit (.int .i64 0)), (.lit (.int .i64 0))]), (201, [(.lit (.int .i64 0)), (.lit (.int .i64 0)), (.lit (.int .i64 0))]), (243, [(.lit (.int .i64 0)), (.lit (.int .i64 0)), (.lit (.int .i64 0))]), (247, [(.lit (.int .i64 0)), (.lit (.int .i64 0)), (.lit (.int .i64 0))])], ord := [(7, [0, 1, 2, 3, 4, 5, 6, 7, 8, 9, 10, 11, 12, 13, 14, 15, 16, 17]), (8, [0, 1, 2, 3, 4, 5, 6, 7, 8, 9, 10, 11, 12, 13, 14, 15, 16, 17, 18, 19, 20, 21, 22, 23, 24, 25, 26, 27, 28, 29, 30]), (12, [0, 1, 2, 3, 4, 5, 6, 7, 8, 9, 10, 11, 12, 13, 14, 15, 16, 17, 18, 19, 20, 21, 22, 23, 24, 25, 26, 27, 28, 29, 30]), (19, [0, 1, 2, 3, 4, 5, 6, 7, 8, 9, 10, 11, 12]), (21, [0, 1, 2, 3, 4, 5, 6, 7, 8, 9, 10, 11]), (22, [0, 1, 2, 3, 4, 5, 6, 7, 8, 9, 10, 11, 12, 13, 14, 15, 16, 17, 18, 19, 20, 21, 22, 23, 24]), (23, [0, 1, 2, 3, 4, 5, 6, 7, 8, 9, 10, 11, 12, 13, 14, 15, 16, 17])], ap := [(12, []), (16, [])], own := [11], yl := [], fz := [], imm := [], ic := [], cl := [], ylL := [], rl := [], dp := [6, 250] }
def m44w : MCode := (.seq (.reg [.boxM 3 (.t 0) 5, .boxI 5 (.t 2) 4, .alloc 6 [(.lit (.int .i64 0)), (.lit (.int .i64 0)), (.slice 3 [] 7002), (.slice 4 [] 7003), (.slice 3 [] 7004)], .asgNil 7 1])
 (.seq (.reg [.addr 17 (.t 3) 3, .storeNil (.t 17) 4 4003, .addr 18 (.t 3) 4, .storeNil (.t 18) 3 4004])
 (.seq (.reg [.asgNil 8 1])
 (.seq (.seq (.reg [.asg 9 (.c (.lit (.int .i64 0)))])
 (.block 0 (.loop (.seq (.seq (.reg [.cpy 19 (.t 9), .bin 20 .add (.t 19) (.c (.lit (.int .i64 3))), .addr 21 (.t 5) 2, .load 22 (.t 21) none, .len 23 (.t 22), .bin 24 .lss (.t 20) (.t 23), .cpy 25 (.t 24), .guard 25 true (some 26) (.cpy 26 (.t 1)), .guard 25 true (some 27) (.len 27 (.t 26)), .guard 25 true (some 28) (.bin 28 .gtr (.t 27) (.c (.lit (.int .i64 0)))), .pick 29 (.t 25) (.t 28) (.c (.lit (.bool false))), .cpy 30 (.t 29), .guard 30 true (some 31) (.addr 31 (.t 3) 3), .guard 30 true (some 32) (.load 32 (.t 31) none), .guard 30 true (some 33) (.len 33 (.t 32)), .guard 30 true (some 34) (.bin 34 .lss (.t 33) (.c (.lit (.int .i64 8)))), .pick 35 (.t 30) (.t 34) (.c (.lit (.bool false)))])
 (.cond (.t 35) .skip (.exit 0)))
 (.seq (.block 1 (.seq (.reg [.cpy 38 (.t 1), .addr 39 (.t 5) 2, .load 40 (.t 39) none, .cpy 41 (.t 9), .idxS 42 (.t 40) (.t 41) 1, .load 43 (.t 42) none, .conv 44 .i64 (.t 43), .cpy 45 (.t 1), .len 46 (.t 45), .bin 47 .rem (.t 44) (.t 46), .idxS 48 (.t 38) (.t 47) 3, .load 49 (.t 48) (some 3), .alloc 10 [(.lit (.int .i64 0)), (.lit (.int .i64 0)), (.lit (.int .i64 0))], .storeF 10 (.t 49) 3])
 (.seq (.reg [.addr 50 (.t 10) 1, .load 51 (.t 50) none, .addr 52 (.t 5) 2, .load 53 (.t 52) none, .cpy 54 (.t 9), .bin 55 .add (.t 54) (.c (.lit (.int .i64 1))), .idxS 56 (.t 53) (.t 55) 1, .load 57 (.t 56) none, .conv 58 .i64 (.t 57), .addr 59 (.t 10) 2, .load 60 (.t 59) none, .addr 61 (.t 10) 1, .load 62 (.t 61) none, .bin 63 .sub (.t 60) (.t 62), .bin 64 .add (.t 63) (.c (.lit (.int .i64 1))), .bin 65 .rem (.t 58) (.t 64), .bin 66 .add (.t 51) (.t 65), .asg 11 (.t 66)])
 (.seq (.reg [.addr 67 (.t 10) 0, .load 68 (.t 67) none, .addr 69 (.t 3) 0, .load 70 (.t 69) none, .cpy 71 (.t 11), .addr 72 (.t 5) 2, .load 73 (.t 72) none, .cpy 74 (.t 9), .bin 75 .add (.t 74) (.c (.lit (.int .i64 2))), .idxS 76 (.t 73) (.t 75) 1, .load 77 (.t 76) none, .conv 78 .i64 (.t 77), .bin 79 .rem (.t 78) (.c (.lit (.int .i64 20))), .bin 80 .sub (.t 71) (.t 79), .maxI 81 (.t 70) (.t 80), .addr 82 (.t 3) 1, .load 83 (.t 82) none, .cpy 84 (.t 11), .addr 85 (.t 5) 2, .load 86 (.t 85) none, .cpy 87 (.t 9), .bin 88 .add (.t 87) (.c (.lit (.int .i64 3))), .idxS 89 (.t 86) (.t 88) 1, .load 90 (.t 89) none, .conv 91 .i64 (.t 90), .bin 92 .rem (.t 91) (.c (.lit (.int .i64 20))), .bin 93 .add (.t 84) (.t 92), .minI 94 (.t 83) (.t 93), .call 95 49 [(.t 68), (.t 81), (.t 94), (.c (.lit (.int .i64 (-1))))], .alloc 12 [(.lit (.int .i64 0)), (.lit (.int .i64 0)), (.lit (.int .i64 0)), (.lit (.int .i64 0))], .apart [] (.t 12) (.store (.t 12) (.t 95) 4 0)])
 (.seq (.seq (.reg [.asg 13 (.c (.lit (.int .i64 0)))])
 (.block 2 (.loop (.seq (.seq (.reg [.cpy 96 (.t 13), .addr 97 (.t 3) 3, .load 98 (.t 97) none, .len 99 (.t 98), .bin 100 .lss (.t 96) (.t 99)])
 (.cond (.t 100) .skip (.exit 2)))
 (.seq (.block 3 (.seq (.reg [.cpy 103 (.t 8), .cpy 104 (.t 13), .idxS 105 (.t 103) (.t 104) 1, .load 106 (.t 105) none, .cpy 107 (.t 11), .bin 108 .leq (.t 106) (.t 107), .cpy 109 (.t 108), .guard 109 true (some 110) (.cpy 110 (.t 1)), .guard 109 true (some 111) (.addr 111 (.t 3) 3), .guard 109 true (some 112) (.load 112 (.t 111) none), .guard 109 true (some 113) (.cpy 113 (.t 13)), .guard 109 true (some 114) (.idxS 114 (.t 112) (.t 113) 4), .guard 109 true (some 115) (.addr 115 (.t 114) 0), .guard 109 true (some 116) (.load 116 (.t 115) none), .guard 109 true (some 117) (.call 117 38 [(.t 110), (.t 116)]), .guard 109 true (some 118) (.cpy 118 (.t 1)), .guard 109 true (some 119) (.addr 119 (.t 10) 0), .guard 109 true (some 120) (.load 120 (.t 119) none), .guard 109 true (some 121) (.call 121 38 [(.t 118), (.t 120)]), .guard 109 true (some 122) (.bin 122 .leq (.t 117) (.t 121)), .pick 123 (.t 109) (.t 122) (.c (.lit (.bool false))), .cpy 124 (.t 123), .guard 124 true (some 125) (.addr 125 (.t 5) 2), .guard 124 true (some 126) (.load 126 (.t 125) none), .guard 124 true (some 127) (.cpy 127 (.t 9)), .guard 124 true (some 128) (.bin 128 .add (.t 127) (.c (.lit (.int .i64 3)))), .guard 124 true (some 129) (.idxS 129 (.t 126) (.t 128) 1), .guard 124 true (some 130) (.load 130 (.t 129) none), .guard 124 true (some 131) (.bin 131 .rem (.t 130) (.c (.lit (.int .u16 2)))), .guard 124 true (some 132) (.bin 132 .eql (.t 131) (.c (.lit (.int .u16 1)))), .pick 133 (.t 124) (.t 132) (.c (.lit (.bool false)))])
 (.cond (.t 133) (.reg [.cpy 134 (.t 13), .addr 135 (.t 12) 3, .store (.t 135) (.t 134) 1 0]) .skip)))
 (.reg [.cpy 101 (.t 13), .bin 102 .add (.t 101) (.c (.lit (.int .i64 1))), .asg 13 (.t 102)]))))))
 (.reg [.addr 136 (.t 3) 3, .load 137 (.t 136) none, .load 138 (.t 12) (some 4), .mkS 139 1 4 [(.lit (.int .i64 0)), (.lit (.int .i64 0)), (.lit (.int .i64 0)), (.lit (.int .i64 0))] [(0, (.t 138))], .app 140 (.t 137) (.t 139) 4 32, .cpy 141 (.t 8), .cpy 142 (.t 11), .mkS 143 1 1 [(.lit (.int .i64 0))] [(0, (.t 142))], .app 144 (.t 141) (.t 143) 1 8, .addr 145 (.t 3) 3, .store (.t 145) (.t 140) 1 4003, .asg 8 (.t 144)]))))))
 (.reg [.cpy 36 (.t 9), .bin 37 .add (.t 36) (.c (.lit (.int .i64 4))), .asg 9 (.t 37)]))))))
 (.seq (.seq (.reg [.asg 14 (.c (.lit (.int .i64 0)))])
 (.block 4 (.loop (.seq (.seq (.reg [.cpy 146 (.t 14), .addr 147 (.t 5) 3, .load 148 (.t 147) none, .len 149 (.t 148), .bin 150 .lss (.t 146) (.t 149), .cpy 151 (.t 150), .guard 151 true (some 152) (.cpy 152 (.t 1)), .guard 151 true (some 153) (.len 153 (.t 152)), .guard 151 true (some 154) (.bin 154 .gtr (.t 153) (.c (.lit (.int .i64 0)))), .pick 155 (.t 151) (.t 154) (.c (.lit (.bool false))), .cpy 156 (.t 155), .guard 156 true (some 157) (.addr 157 (.t 3) 4), .guard 156 true (some 158) (.load 158 (.t 157) none), .guard 156 true (some 159) (.len 159 (.t 158)), .guard 156 true (some 160) (.bin 160 .lss (.t 159) (.c (.lit (.int .i64 4)))), .pick 161 (.t 156) (.t 160) (.c (.lit (.bool false)))])
 (.cond (.t 161) .skip (.exit 4)))
 (.seq (.block 5 (.seq (.reg [.addr 164 (.t 5) 3, .load 165 (.t 164) none, .cpy 166 (.t 14), .idxS 167 (.t 165) (.t 166) 1, .load 168 (.t 167) none, .conv 169 .i64 (.t 168), .cpy 170 (.t 1), .len 171 (.t 170), .bin 172 .rem (.t 169) (.t 171), .asg 15 (.t 172)])
 (.seq (.reg [.cpy 173 (.t 1), .cpy 174 (.t 15), .idxS 175 (.t 173) (.t 174) 3, .addr 176 (.t 175) 1, .load 177 (.t 176) none, .cpy 178 (.t 1), .cpy 179 (.t 15), .idxS 180 (.t 178) (.t 179) 3, .addr 181 (.t 180) 0, .load 182 (.t 181) none, .build 183 [(.lit (.int .i64 0)), (.lit (.int .i64 0)), (.lit (.int .i64 0))] [(0, 1, (.t 177)), (1, 1, (.c (.lit (.int .i64 (-1))))), (2, 1, (.t 182))], .alloc 16 [(.lit (.int .i64 0)), (.lit (.int .i64 0)), (.lit (.int .i64 0))], .apart [] (.t 16) (.store (.t 16) (.t 183) 3 0)])
 (.seq (.seq (.reg [.addr 184 (.t 5) 3, .load 185 (.t 184) none, .cpy 186 (.t 14), .idxS 187 (.t 185) (.t 186) 1, .load 188 (.t 187) none, .bin 189 .rem (.t 188) (.c (.lit (.int .u16 2))), .bin 190 .eql (.t 189) (.c (.lit (.int .u16 1)))])
 (.cond (.t 190) (.reg [.cpy 191 (.t 1), .cpy 192 (.t 15), .idxS 193 (.t 191) (.t 192) 3, .addr 194 (.t 193) 2, .load 195 (.t 194) none, .cpy 196 (.t 1), .cpy 197 (.t 15), .idxS 198 (.t 196) (.t 197) 3, .addr 199 (.t 198) 0, .load 200 (.t 199) none, .build 201 [(.lit (.int .i64 0)), (.lit (.int .i64 0)), (.lit (.int .i64 0))] [(0, 1, (.t 195)), (1, 1, (.t 200)), (2, 1, (.c (.lit (.int .i64 (-1)))))], .apart [] (.t 16) (.store (.t 16) (.t 201) 3 0)]) .skip))
 (.seq (.seq (.reg [.addr 202 (.t 5) 3, .load 203 (.t 202) none, .cpy 204 (.t 14), .idxS 205 (.t 203) (.t 204) 1, .load 206 (.t 205) none, .bin 207 .rem (.t 206) (.c (.lit (.int .u16 3))), .bin 208 .eql (.t 207) (.c (.lit (.int .u16 0))), .cpy 209 (.t 208), .guard 209 true (some 210) (.cpy 210 (.t 15)), .guard 209 true (some 211) (.bin 211 .gtr (.t 210) (.c (.lit (.int .i64 0)))), .pick 212 (.t 209) (.t 211) (.c (.lit (.bool false))), .cpy 213 (.t 212), .guard 213 true (some 214) (.cpy 214 (.t 1)), .guard 213 true (some 215) (.cpy 215 (.t 15)), .guard 213 true (some 216) (.idxS 216 (.t 214) (.t 215) 3), .guard 213 true (some 217) (.addr 217 (.t 216) 1), .guard 213 true (some 218) (.load 218 (.t 217) none), .guard 213 true (some 219) (.cpy 219 (.t 1)), .guard 213 true (some 220) (.cpy 220 (.t 15)), .guard 213 true (some 221) (.bin 221 .sub (.t 220) (.c (.lit (.int .i64 1)))), .guard 213 true (some 222) (.idxS 222 (.t 219) (.t 221) 3), .guard 213 true (some 223) (.addr 223 (.t 222) 2), .guard 213 true (some 224) (.load 224 (.t 223) none), .guard 213 true (some 225) (.bin 225 .eql (.t 218) (.t 224)), .pick 226 (.t 213) (.t 225) (.c (.lit (.bool false)))])
 (.cond (.t 226) (.reg [.cpy 227 (.t 1), .cpy 228 (.t 15), .idxS 229 (.t 227) (.t 228) 3, .addr 230 (.t 229) 1, .load 231 (.t 230) none, .cpy 232 (.t 1), .cpy 233 (.t 15), .bin 234 .sub (.t 233) (.c (.lit (.int .i64 1))), .idxS 235 (.t 232) (.t 234) 3, .addr 236 (.t 235) 0, .load 237 (.t 236) none, .cpy 238 (.t 1), .cpy 239 (.t 15), .idxS 240 (.t 238) (.t 239) 3, .addr 241 (.t 240) 0, .load 242 (.t 241) none, .build 243 [(.lit (.int .i64 0)), (.lit (.int .i64 0)), (.lit (.int .i64 0))] [(0, 1, (.t 231)), (1, 1, (.t 237)), (2, 1, (.t 242))], .apart [] (.t 16) (.store (.t 16) (.t 243) 3 0)]) .skip))
 (.reg [.addr 244 (.t 3) 4, .load 245 (.t 244) none, .load 246 (.t 16) (some 3), .mkS 247 1 3 [(.lit (.int .i64 0)), (.lit (.int .i64 0)), (.lit (.int .i64 0))] [(0, (.t 246))], .app 248 (.t 245) (.t 247) 3 24, .addr 249 (.t 3) 4, .store (.t 249) (.t 248) 1 4004]))))))
 (.reg [.cpy 162 (.t 14), .bin 163 .add (.t 162) (.c (.lit (.int .i64 1))), .asg 14 (.t 163)]))))))
 (.seq (.reg [.loadD 250 (.t 3) 5, .cpy 251 (.t 8), .storeD (.t 6) (.t 250) 5, .asg 7 (.t 251)])
 .ret))))))
def r44w : List MRes := [.cell 6 (some 5), .tmp 7]
theorem tr44w : Try.f44.body.bind (trC Try.prog ann44w Try.f44.ntmps) = some m44w := by kernel_rfl
theorem rs44w : trRes Try.prog Try.f44.results.toList = some r44w := by kernel_rfl
theorem fn44w : isFunc Try.prog 44 = true := by kernel_rfl
end Go.Proofs.Ytiampdiobdianaa

namespace Go.Proofs.Ytiampdiobdianaa
open Go.Avm

theorem told44w_ok {c : Case} (hc : c.OK) {l : List Hold} (hl : HIn c l) (hl6 : l.length ≤ 6) {p : Past} (hp : p.OK) (s0 : St) (K : AV → St → Prop)
    (hk : ∀ s2, K (.deep (.tuple [.agg (tCells c (tUp c l p.marks (tN l p.marks)).1 (sUp l p.sales (sN l p.sales))), IL (tUp c l p.marks (tN l p.marks)).2])) (back s0 s2)) : ICall Try.prog 44 [encCase c, HL l, encPast p] s0 K := by
  refine icallD Try.func44 tr44w rs44w fn44w (by simp [Try.ntmps44]) fun _ => ?_
  have hyy := hc.years
  obtain ⟨N, hN⟩ : ∃ N, N = tN l p.marks := ⟨_, rfl⟩
  obtain ⟨M, hM⟩ : ∃ M, M = sN l p.sales := ⟨_, rfl⟩
  rw [← hN, ← hM] at hk
  have hpm := hp.marks
  have hps := hp.sales
  simp -implicitDefEqProofs only [m44w]
  refine cutS (fun st => st.env 1 = HL l ∧ st.env 5 = pastRef p ∧ ∃ b, st.env 3 = .mref b 0 ∧ st.loc b = some (caseCells c) ∧ ∃ b6, st.env 6 = .mref b6 0 ∧ st.loc b6 = some g6 ∧ ¬ b = b6) ?_ ?_
  · intro k hk
    simp -implicitDefEqProofs
    intro b hb b6 hb6
    have hne' : ¬ b = b6 := by rintro rfl; simp at hb6
    refine hk _ ⟨by simp, by simp, b, by simp, by simp [hne'], b6, by simp, by simp, hne'⟩
  rintro s ⟨e1, e5, b, e3, l3, b6, e6, l6, hne⟩
  have hne' : ¬ b6 = b := fun e => hne e.symm
  refine cutS (fun st => st.env 1 = HL l ∧ st.env 5 = pastRef p ∧ st.env 3 = .mref b 0 ∧ st.loc b = some (tCells c [] []) ∧ st.env 6 = .mref b6 0 ∧ st.loc b6 = some g6) ?_ ?_
  · intro k hk
    simp -implicitDefEqProofs [e3, l3]
    exact hk _ (by simp [e1, e5, e3, e6, l6, hne'])
  rintro s ⟨e1, e5, e3, l3, e6, l6⟩
  refine cutS (fun st => TJ c l p b b6 ([], []) [] st) ?_ ?_
  · intro k hk
    simp -implicitDefEqProofs
    exact hk _ ⟨by simp [e1, e3, e5, e6], by simp [l3], by simp [l6]⟩
  intro s hJ
  refine cutS (fun st => TJ c l p b b6 (tUp c l p.marks N) [] st) ?_ ?_
  · intro k0 hk0
    simp -implicitDefEqProofs
    refine loop_up N (fun k st => TJ c l p b b6 (tUp c l p.marks k) [] st ∧ st.env 9 = I (4 * k)) ?_ ?_
    · exact ⟨hJ.ext (by simp) (by simp), by simp⟩
    clear hJ
    rintro k s hk ⟨hJ, e9⟩
    have hlen := tUp_len c l p.marks k
    have hN8 : N ≤ 8 := by rw [hN]; unfold tN; split <;> omega
    by_cases hlt : k < N
    · have hl0 : ¬ l = [] := by rintro rfl; rw [hN] at hlt; unfold tN at hlt; simp at hlt
      have hlp := List.length_pos_iff.2 hl0
      have h4 : 4 * k + 3 < p.marks.length := by rw [hN] at hlt; unfold tN at hlt; rw [if_neg hl0] at hlt; omega
      have hst : tUp c l p.marks (k + 1) = tStep c l p.marks[4 * k] p.marks[4 * k + 1] p.marks[4 * k + 2] p.marks[4 * k + 3] (tUp c l p.marks k) := by
        show tStep c l (p.marks.getD _ 0) (p.marks.getD _ 0) (p.marks.getD _ 0) (p.marks.getD _ 0) _ = _
        simp only [List.getD_eq_getElem?_getD]
        rw [List.getElem?_eq_getElem (by omega), List.getElem?_eq_getElem (by omega), List.getElem?_eq_getElem (by omega), List.getElem?_eq_getElem (by omega)]
        rfl
      obtain ⟨X, hX⟩ : ∃ X, X = tUp c l p.marks k := ⟨_, rfl⟩
      rw [← hX] at hJ hst hlen
      obtain ⟨e1, e3, e5, e8, e6⟩ := hJ.e
      have l3 := hJ.l
      have c1 : 4 * (k : Int) + 3 < p.marks.length := by omega
      have c2 : ¬ l.length = 0 := by omega
      have c3 : (X.1.length : Int) < 8 := by omega
      refine cutS (fun st => TJ c l p b b6 X [] st ∧ st.env 9 = I (4 * k)) ?_ ?_
      · intro k1 hk1
        simp -implicitDefEqProofs [e1, e3, e5, e9, l3, c1, hlp, c3]
        exact ⟨i64 (by omega) (by omega), hk1 _ ⟨hJ.ext (by simp) (by simp), by simp [e9]⟩⟩
      clear hJ e1 e3 e5 e8 e6 l3 e9
      rintro s ⟨hJ, e9⟩
      refine stepC ?_
      obtain ⟨n0, hn0, b0⟩ := wu hpm.1 (i := 4 * k) (by omega)
      obtain ⟨n1, hn1, b1⟩ := wu hpm.1 (i := 4 * k + 1) (by omega)
      obtain ⟨n2, hn2, b2⟩ := wu hpm.1 (i := 4 * k + 2) (by omega)
      obtain ⟨n3, hn3, b3⟩ := wu hpm.1 (i := 4 * k + 3) h4
      rw [hn0, hn1, hn2, hn3] at hst
      have w0 := wrap_u (n := n0) (by omega)
      have w1 := wrap_u (n := n1) (by omega)
      have w2 := wrap_u (n := n2) (by omega)
      have w3 := wrap_u (n := n3) (by omega)
      have t0 : (4 * (k : Int)).toNat = 4 * k := by omega
      have t1 : (4 * (k : Int) + 1).toNat = 4 * k + 1 := by omega
      have t2 : (4 * (k : Int) + 2).toNat = 4 * k + 2 := by omega
      have t3 : (4 * (k : Int) + 3).toNat = 4 * k + 3 := by omega
      have i0 : 4 * k < p.marks.length := by omega
      have i1 : 4 * k + 1 < p.marks.length := by omega
      have i2 : 4 * k + 2 < p.marks.length := by omega
      have z0 : (0 : Int) ≤ 4 * k := by omega
      have z1 : (0 : Int) ≤ 4 * k + 1 := by omega
      have z2 : (0 : Int) ≤ 4 * k + 2 := by omega
      have z3 : (0 : Int) ≤ 4 * k + 3 := by omega
      have f0 : 4 * (k : Int) < p.marks.length := by omega
      have f1 : 4 * (k : Int) + 1 < p.marks.length := by omega
      have f2 : 4 * (k : Int) + 2 < p.marks.length := by omega
      have hm := tmod_nat n0 l.length
      have hj := Nat.mod_lt n0 hlp
      have hH : hAt l n0 = l[n0 % l.length] := by
        unfold hAt
        rw [Int.toNat_natCast, List.getD_eq_getElem?_getD, List.getElem?_eq_getElem hj]; rfl
      have hin := hl _ (List.getElem_mem hj)
      rw [← hH] at hin
      generalize hHn : hAt l n0 = H at *
      generalize n0 % l.length = j at *
      have hH := hH.symm
      refine cutS (fun st => TJ c l p b b6 X [] st ∧ st.env 9 = I (4 * k) ∧ st.env 10 = .ref [I H.who, I H.src, I H.til]) ?_ ?_
      · intro k1 hk1
        obtain ⟨e1, e3, e5, e8, e6⟩ := hJ.e
        simp -implicitDefEqProofs [e1, e5, e9, t0, z0, f0, i0, hn0, w0, hm, hj, hH, hl0]
        intro q hq
        have g1 : ¬ b = q := by rintro rfl; rw [hJ.l] at hq; cases hq
        have g2 : ¬ b6 = q := by rintro rfl; rw [hJ.l6] at hq; cases hq
        exact hk1 _ ⟨hJ.ext (by simp) (by simp [g1, g2]), by simp [e9], by simp⟩
      clear hJ e9
      rintro s ⟨hJ, e9, e10⟩
      obtain ⟨y, hy⟩ : ∃ y, y = tYear H n1 := ⟨_, rfl⟩
      obtain ⟨d, hd⟩ : ∃ d : Nat, H.til - H.src + 1 = d ∧ 0 < d := ⟨(H.til - H.src + 1).toNat, by omega, by omega⟩
      have hy2 : y = H.src + (n1 : Int) % (d : Int) := by rw [hy]; unfold tYear; rw [hd.1]
      have hyd : 0 ≤ (n1 : Int) % (d : Int) ∧ (n1 : Int) % (d : Int) < d := ⟨Int.emod_nonneg _ (by omega), Int.emod_lt_of_pos _ (by omega)⟩
      have hm1 := tmod_nat n1 d
      have hd0 : ¬ d = 0 := by omega
      have hdd := hd.1
      have hdi : ¬ H.til - H.src + 1 = 0 := by omega
      refine cutS (fun st => TJ c l p b b6 X [] st ∧ st.env 9 = I (4 * k) ∧ st.env 10 = .ref [I H.who, I H.src, I H.til] ∧ st.env 11 = I y) ?_ ?_
      · intro k1 hk1
        obtain ⟨e1, e3, e5, e8, e6⟩ := hJ.e
        simp -implicitDefEqProofs [e5, e9, e10, t1, z1, f1, i1, hn1, w1, hdd, hm1, hd0]
        rw [← hy2]
        exact ⟨i64 (by omega) (by omega), i64 (by omega) (by omega), i64 (by omega) (by omega), i64 (by omega) (by omega), hk1 _ ⟨hJ.ext (by simp) (by simp), by simp [e9], by simp [e10], by simp⟩⟩
      clear hJ e9 e10
      rintro s ⟨hJ, e9, e10, e11⟩
      have hyr : c.printed ≤ y ∧ y ≤ c.now := by omega
      have q2 : (n2 : Int).tmod 20 = (n2 : Int) % 20 := tmod_nat n2 20
      have q3 : (n3 : Int).tmod 20 = (n3 : Int) % 20 := tmod_nat n3 20
      obtain ⟨L, hL⟩ : ∃ L, L = max c.printed (y - (n2 : Int) % 20) := ⟨_, rfl⟩
      obtain ⟨R, hR⟩ : ∃ R, R = min c.now (y + (n3 : Int) % 20) := ⟨_, rfl⟩
      have mL : (if c.printed < y - (n2 : Int) % 20 then y - (n2 : Int) % 20 else c.printed) = L := by omega
      have mR : (if y + (n3 : Int) % 20 < c.now then y + (n3 : Int) % 20 else c.now) = R := by omega
      have c49 := mark49_ok H.who L R (-1)
      refine cutS (fun st => TJ c l p b b6 X [] st ∧ st.env 9 = I (4 * k) ∧ st.env 10 = .ref [I H.who, I H.src, I H.til] ∧ st.env 11 = I y ∧ ∃ q, st.env 12 = .mref q 0 ∧ st.loc q = some [I H.who, I L, I R, I (-1)] ∧ ¬ b = q ∧ ¬ b6 = q) ?_ ?_
      · intro k1 hk1
        obtain ⟨e1, e3, e5, e8, e6⟩ := hJ.e
        have l3 := hJ.l
        simp -implicitDefEqProofs [e3, e5, e9, e10, e11, l3, t2, z2, f2, i2, hn2, w2, t3, z3, c1, h4, hn3, w3, q2, q3, mL, mR]
        refine ⟨i64 (by omega) (by omega), i64 (by omega) (by omega), i64 (by omega) (by omega), i64 (by omega) (by omega), vCall_of c49 ?_⟩
        simp -implicitDefEqProofs [apartAV]
        intro q hq
        have g1 : ¬ b = q := by rintro rfl; rw [l3] at hq; cases hq
        have g2 : ¬ b6 = q := by rintro rfl; rw [hJ.l6] at hq; cases hq
        exact hk1 _ ⟨hJ.ext (by simp) (by simp [g1, g2]), by simp [e9], by simp [e10], by simp [e11], q, by simp, by simp, g1, g2⟩
      clear hJ e9 e10 e11
      rintro s ⟨hJ, e9, e10, e11, q, e12, l12, hbq, hbq6⟩
      have hqb : ¬ q = b := fun e => hbq e.symm
      obtain ⟨cnd, hcnd⟩ : ∃ cnd, cnd = tCond l X.1 X.2 H.who y n3 := ⟨_, rfl⟩
      refine cutS (fun st => TJ c l p b b6 X [] st ∧ st.env 9 = I (4 * k) ∧ st.env 11 = I y ∧ st.env 12 = .mref q 0 ∧ st.loc q = some [I H.who, I L, I R, I (uponS cnd X.1.length)]) ?_ ?_
      · intro k1 hk1
        simp -implicitDefEqProofs
        refine loop_up X.1.length (fun j st => TJ c l p b b6 X [] st ∧ st.env 9 = I (4 * k) ∧ st.env 10 = .ref [I H.who, I H.src, I H.til] ∧ st.env 11 = I y ∧ st.env 12 = .mref q 0 ∧ st.loc q = some [I H.who, I L, I R, I (uponS cnd j)] ∧ st.env 13 = I j) ?_ ?_
        · exact ⟨hJ.ext (by simp) (by simp), by simp [e9], by simp [e10], by simp [e11], by simp [e12], by simp [l12, uponS], by simp⟩
        clear hJ e9 e10 e11 e12 l12
        rintro j s hj ⟨hJ, e9, e10, e11, e12, l12, e13⟩
        obtain ⟨e1, e3, e5, e8, e6⟩ := hJ.e
        have l3 := hJ.l
        simp -implicitDefEqProofs [e3, e13, l3]
        refine cond_dec (fun hlj => ?_) (fun hge => ?_)
        · have hlj : j < X.1.length := by omega
          have hlj2 : j < X.2.length := by omega
          refine stepB ?_
          have ca := place38_ok l X.1[j].owner
          have cb := place38_ok l H.who
          have hcj : cnd j = (decide (X.2[j] ≤ y) && (decide (placeH l X.1[j].owner ≤ placeH l H.who) && decide ((n3 : Int) % 2 = 1))) := by
            rw [hcnd]; unfold tCond
            rw [mk_at' hlj, List.getD_eq_getElem?_getD, List.getElem?_eq_getElem hlj2]; rfl
          generalize placeH l X.1[j].owner = pa at *
          generalize placeH l H.who = pb at *
          obtain ⟨m, hm⟩ : ∃ m, m = X.1[j] := ⟨_, rfl⟩
          obtain ⟨yj, hyj⟩ : ∃ yj, yj = X.2[j] := ⟨_, rfl⟩
          rw [← hm] at ca
          rw [← hyj] at hcj
          have hm := hm.symm
          have hyj := hyj.symm
          have q4 : (n3 : Int).tmod 2 = (n3 : Int) % 2 := tmod_nat n3 2
          have fin : ∀ t : St, TJ c l p b b6 X [] t → t.env 9 = I (4 * k) → t.env 10 = .ref [I H.who, I H.src, I H.til] → t.env 11 = I y → t.env 12 = .mref q 0 → t.loc q = some [I H.who, I L, I R, I (uponS cnd (j + 1))] → t.env 13 = I ((j : Int) + 1) → RoundOK X.1.length (fun j st => TJ c l p b b6 X [] st ∧ st.env 9 = I (4 * k) ∧ st.env 10 = .ref [I H.who, I H.src, I H.til] ∧ st.env 11 = I y ∧ st.env 12 = .mref q 0 ∧ st.loc q = some [I H.who, I L, I R, I (uponS cnd j)] ∧ st.env 13 = I j) j t := fun t h1 h2 h3 h4 h5 h6 h7 => round_ok hlj ⟨h1, h2, h3, h4, h5, h6, by rw [h7]; simp⟩
          by_cases y1 : yj ≤ y
          · by_cases y2 : pa ≤ pb
            · by_cases y3 : (n3 : Int) % 2 = 1
              · have hc1 : uponS cnd (j + 1) = j := by unfold uponS; rw [hcj]; simp [y1, y2, y3]
                simp -implicitDefEqProofs [e1, e3, e8, e11, e13, l3, hlj, hlj2, hm, hyj, y1]
                refine vCall_of ca ?_
                simp -implicitDefEqProofs [e1, e10]
                refine vCall_of cb ?_
                simp -implicitDefEqProofs [e5, e9, e12, e13, l12, y2, t3, z3, c1, h4, hn3, q4, y3]
                exact ⟨i64 (by omega) (by omega), i64 (by omega) (by omega), fin _ (hJ.ext (by simp) (by simp [hbq, hbq6])) (by simp [e9]) (by simp [e10]) (by simp [e11]) (by simp [e12]) (by simp [hc1]) (by simp)⟩
              · have hc1 : uponS cnd (j + 1) = uponS cnd j := by conv => lhs; unfold uponS
                                                                 rw [hcj]; simp [y1, y2, y3]
                have y3 : (n3 : Int) % 2 = 0 := by omega
                simp -implicitDefEqProofs [e1, e3, e8, e11, e13, l3, hlj, hlj2, hm, hyj, y1]
                refine vCall_of ca ?_
                simp -implicitDefEqProofs [e1, e10]
                refine vCall_of cb ?_
                simp -implicitDefEqProofs [e5, e9, e13, y2, t3, z3, c1, h4, hn3, q4, y3]
                exact ⟨i64 (by omega) (by omega), i64 (by omega) (by omega), fin _ (hJ.ext (by simp) (by simp)) (by simp [e9]) (by simp [e10]) (by simp [e11]) (by simp [e12]) (by simp [l12, hc1]) (by simp)⟩
            · have hc1 : uponS cnd (j + 1) = uponS cnd j := by conv => lhs; unfold uponS
                                                               rw [hcj]; simp [y1, y2]
              simp -implicitDefEqProofs [e1, e3, e8, e11, e13, l3, hlj, hlj2, hm, hyj, y1]
              refine vCall_of ca ?_
              simp -implicitDefEqProofs [e1, e10]
              refine vCall_of cb ?_
              simp -implicitDefEqProofs [e13, y2]
              exact ⟨i64 (by omega) (by omega), fin _ (hJ.ext (by simp) (by simp)) (by simp [e9]) (by simp [e10]) (by simp [e11]) (by simp [e12]) (by simp [l12, hc1]) (by simp)⟩
          · have hc1 : uponS cnd (j + 1) = uponS cnd j := by conv => lhs; unfold uponS
                                                             rw [hcj]; simp [y1]
            simp -implicitDefEqProofs [e8, e11, e13, hlj, hlj2, hyj, y1]
            exact ⟨i64 (by omega) (by omega), fin _ (hJ.ext (by simp) (by simp)) (by simp [e9]) (by simp [e10]) (by simp [e11]) (by simp [e12]) (by simp [l12, hc1]) (by simp)⟩
        · obtain rfl : j = X.1.length := by omega
          simp -implicitDefEqProofs
          exact hk1 _ ⟨hJ.ext (by simp) (by simp), by simp [e9], by simp [e11], by simp [e12], by simp [l12]⟩
      clear hJ e9 e10 e11 e12 l12
      rintro s ⟨hJ, e9, e11, e12, l12⟩
      obtain ⟨u, hu⟩ : ∃ u, u = uponS cnd X.1.length := ⟨_, rfl⟩
      rw [← hu] at l12
      have hX2 : tUp c l p.marks (k + 1) = (X.1 ++ [⟨H.who, L, R, u⟩], X.2 ++ [y]) := by
        rw [hst]
        unfold tStep tMark
        rw [hu, hcnd, hL, hR, hy]
        simp only [hHn]
      have hen : encMark ⟨H.who, L, R, u⟩ = .agg [I H.who, I L, I R, I u] := rfl
      obtain ⟨e1, e3, e5, e8, e6⟩ := hJ.e
      have l3 := hJ.l
      simp -implicitDefEqProofs [e3, e8, e9, e11, e12, l3, l12, hlen]
      refine ⟨by omega, by omega, by omega, by omega, i64 (by omega) (by omega), round_ok hlt ⟨?_, by simp; omega⟩⟩
      rw [hX2]
      exact ⟨by simp [e1, e3, e5, e6], by simp [hen], by simp [hJ.l6, hne']⟩
    · obtain rfl : k = N := by omega
      obtain ⟨e1, e3, e5, e8, e6⟩ := hJ.e
      have l3 := hJ.l
      by_cases c1 : 4 * (k : Int) + 3 < p.marks.length
      · by_cases hl0 : l = []
        · simp -implicitDefEqProofs [e1, e5, e9, c1, hl0]
          exact ⟨i64 (by omega) (by omega), hk0 _ (hJ.ext (by simp) (by simp))⟩
        · have hlp := List.length_pos_iff.2 hl0
          have c3 : ¬ ((tUp c l p.marks k).1.length : Int) < 8 := by
            unfold tN at hN
            rw [if_neg hl0] at hN
            omega
          simp -implicitDefEqProofs [e1, e3, e5, e9, l3, c1, hlp, c3]
          exact ⟨i64 (by omega) (by omega), hk0 _ (hJ.ext (by simp) (by simp))⟩
      · simp -implicitDefEqProofs [e5, e9, c1]
        exact ⟨i64 (by omega) (by omega), hk0 _ (hJ.ext (by simp) (by simp))⟩
  clear hJ
  intro s hJ
  have hlen := tUp_len c l p.marks N
  generalize tUp c l p.marks N = X at *
  refine cutS (fun st => TJ c l p b b6 X (sUp l p.sales M) st) ?_ ?_
  · intro k0 hk0
    simp -implicitDefEqProofs
    refine loop_up M (fun k st => TJ c l p b b6 X (sUp l p.sales k) st ∧ st.env 14 = I k) ?_ ?_
    · exact ⟨hJ.ext (by simp) (by simp), by simp⟩
    clear hJ
    rintro k s hk ⟨hJ, e9⟩
    have hM4 : M ≤ 4 ∧ M ≤ p.sales.length := by rw [hM]; unfold sN; split <;> omega
    have hln : (sUp l p.sales k).length = k := by unfold sUp; rw [List.length_map, List.length_take]; omega
    by_cases hlt : k < M
    · have hl0 : ¬ l = [] := by rintro rfl; rw [hM] at hlt; unfold sN at hlt; simp at hlt
      have hlp := List.length_pos_iff.2 hl0
      have h4 : k < p.sales.length := by omega
      have hst : sUp l p.sales (k + 1) = sUp l p.sales k ++ [sTold l p.sales[k]] := by
        unfold sUp; rw [take_snoc h4, List.map_append]; rfl
      obtain ⟨Z, hZ⟩ : ∃ Z, Z = sUp l p.sales k := ⟨_, rfl⟩
      rw [← hZ] at hJ hst hln
      refine cutS (fun st => TJ c l p b b6 X Z st ∧ st.env 14 = I k) ?_ ?_
      · intro k1 hk1
        obtain ⟨e1, e3, e5, e8, e6⟩ := hJ.e
        have l3 := hJ.l
        have c1 : (k : Int) < p.sales.length := by omega
        have c2 : ¬ l.length = 0 := by omega
        have c3 : (Z.length : Int) < 4 := by omega
        simp -implicitDefEqProofs [e1, e3, e5, e9, l3, c1, hlp, c3]
        exact hk1 _ ⟨hJ.ext (by simp) (by simp), by simp [e9]⟩
      clear hJ e9
      rintro s ⟨hJ, e9⟩
      refine stepC ?_
      obtain ⟨n, hn, bn⟩ := wu hps.1 h4
      rw [hn] at hst
      have w0 := wrap_u (n := n) (by omega)
      have hm := tmod_nat n l.length
      have hj := Nat.mod_lt n hlp
      have q2 : (n : Int).tmod 2 = (n : Int) % 2 := tmod_nat n 2
      have q3 : (n : Int).tmod 3 = (n : Int) % 3 := tmod_nat n 3
      obtain ⟨j, hjj⟩ : ∃ j, j = n % l.length := ⟨_, rfl⟩
      obtain ⟨H, hH⟩ : ∃ H, H = l[n % l.length] := ⟨_, rfl⟩
      have hgd : l.getD (n % l.length) holdD = H := by rw [List.getD_eq_getElem?_getD, List.getElem?_eq_getElem hj, hH]; rfl
      have hT : sTold l n = if (n : Int) % 3 = 0 ∧ 0 < j ∧ H.src = (l.getD (j - 1) holdD).til then ⟨H.src, (l.getD (j - 1) holdD).who, H.who⟩ else if (n : Int) % 2 = 1 then ⟨H.til, H.who, -1⟩ else ⟨H.src, -1, H.who⟩ := by
        unfold sTold
        simp only [Int.toNat_natCast]
        rw [hgd, ← hjj]
      rw [← hjj] at hm hj
      have hH : l[j] = H := by rw [hH]; congr 1
      refine cutS (fun st => TJ c l p b b6 X Z st ∧ st.env 14 = I k ∧ st.env 15 = I j) ?_ ?_
      · intro k1 hk1
        obtain ⟨e1, e3, e5, e8, e6⟩ := hJ.e
        simp -implicitDefEqProofs [e1, e5, e9, h4, hn, w0, hm, hl0]
        exact hk1 _ ⟨hJ.ext (by simp) (by simp), by simp [e9], by simp⟩
      clear hJ e9
      rintro s ⟨hJ, e9, e15⟩
      refine cutS (fun st => TJ c l p b b6 X Z st ∧ st.env 14 = I k ∧ st.env 15 = I j ∧ ∃ q, st.env 16 = .mref q 0 ∧ st.loc q = some [I H.src, I (-1), I H.who] ∧ ¬ b = q ∧ ¬ b6 = q) ?_ ?_
      · intro k1 hk1
        obtain ⟨e1, e3, e5, e8, e6⟩ := hJ.e
        simp -implicitDefEqProofs [e1, e15, hj, hH, apartAV]
        intro q hq
        have g1 : ¬ b = q := by rintro rfl; rw [hJ.l] at hq; cases hq
        have g2 : ¬ b6 = q := by rintro rfl; rw [hJ.l6] at hq; cases hq
        exact hk1 _ ⟨hJ.ext (by simp) (by simp [g1, g2]), by simp [e9], by simp [e15], q, by simp, by simp, g1, g2⟩
      clear hJ e9 e15
      rintro s ⟨hJ, e9, e15, q, e16, l16, hbq, hbq6⟩
      have hqb : ¬ q = b := fun e => hbq e.symm
      obtain ⟨s1, hs1⟩ : ∃ s1 : Sale, s1 = if (n : Int) % 2 = 1 then ⟨H.til, H.who, -1⟩ else ⟨H.src, -1, H.who⟩ := ⟨_, rfl⟩
      rw [← hs1] at hT
      refine cutS (fun st => TJ c l p b b6 X Z st ∧ st.env 14 = I k ∧ st.env 15 = I j ∧ st.env 16 = .mref q 0 ∧ st.loc q = some [I s1.year, I s1.src, I s1.dst]) ?_ ?_
      · intro k1 hk1
        obtain ⟨e1, e3, e5, e8, e6⟩ := hJ.e
        by_cases hc : (n : Int) % 2 = 1
        · rw [if_pos hc] at hs1
          subst hs1
          simp -implicitDefEqProofs [e1, e5, e9, e15, e16, l16, h4, hn, q2, hc, hj, hH, apartAV]
          exact hk1 _ ⟨hJ.ext (by simp) (by simp [hbq, hbq6]), by simp [e9], by simp [e15], by simp [e16], by simp⟩
        · rw [if_neg hc] at hs1
          have hc : (n : Int) % 2 = 0 := by omega
          subst hs1
          simp -implicitDefEqProofs [e5, e9, h4, hn, q2, hc]
          exact hk1 _ ⟨hJ.ext (by simp) (by simp), by simp [e9], by simp [e15], by simp [e16], by simp [l16]⟩
      clear hJ e9 e15 e16 l16
      rintro s ⟨hJ, e9, e15, e16, l16⟩
      generalize hS2 : sTold l n = s2 at *
      refine cutS (fun st => TJ c l p b b6 X Z st ∧ st.env 14 = I k ∧ st.env 16 = .mref q 0 ∧ st.loc q = some [I s2.year, I s2.src, I s2.dst]) ?_ ?_
      · intro k1 hk1
        obtain ⟨e1, e3, e5, e8, e6⟩ := hJ.e
        by_cases hc : (n : Int) % 3 = 0
        · by_cases hj0 : 0 < j
          · have hj1 : j - 1 < l.length := by omega
            obtain ⟨G, hG⟩ : ∃ G, G = l[j - 1] := ⟨_, rfl⟩
            have hgG : l.getD (j - 1) holdD = G := by rw [List.getD_eq_getElem?_getD, List.getElem?_eq_getElem hj1, hG]; rfl
            rw [hgG] at hT
            have hG := hG.symm
            have v1 : ((j : Int) - 1).toNat = j - 1 := by omega
            have v2 : (0 : Int) ≤ (j : Int) - 1 := by omega
            have v3 : (j : Int) - 1 < l.length := by omega
            by_cases hcc : H.src = G.til
            · rw [if_pos ⟨hc, hj0, hcc⟩] at hT
              subst hT
              simp -implicitDefEqProofs [e1, e5, e9, e15, e16, l16, h4, hn, q3, hc, hj, hj0, hH, v1, v3, hj1, hG, hcc, apartAV]
              exact ⟨i64 (by omega) (by omega), by omega, i64 (by omega) (by omega), by omega, hk1 _ ⟨hJ.ext (by simp) (by simp [hbq, hbq6]), by simp [e9], by simp [e16], by simp [hcc]⟩⟩
            · rw [if_neg (fun h => hcc h.2.2)] at hT
              have hcc : (H.src == G.til) = false := by simp [hcc]
              subst hT
              simp -implicitDefEqProofs [e1, e5, e9, e15, h4, hn, q3, hc, hj, hj0, hH, v1, v3, hj1, hG, hcc]
              exact ⟨i64 (by omega) (by omega), by omega, hk1 _ ⟨hJ.ext (by simp) (by simp), by simp [e9], by simp [e16], by simp [l16]⟩⟩
          · rw [if_neg (fun h => hj0 h.2.1)] at hT
            have hj0 : j = 0 := by omega
            subst hT
            simp -implicitDefEqProofs [e5, e9, e15, h4, hn, q3, hc, hj0]
            exact hk1 _ ⟨hJ.ext (by simp) (by simp), by simp [e9], by simp [e16], by simp [l16]⟩
        · rw [if_neg (fun h => hc h.1)] at hT
          have hc : ((n : Int) % 3 == 0) = false := by simp [hc]
          subst hT
          simp -implicitDefEqProofs [e5, e9, h4, hn, q3, hc]
          exact hk1 _ ⟨hJ.ext (by simp) (by simp), by simp [e9], by simp [e16], by simp [l16]⟩
      clear hJ e9 e15 e16 l16
      rintro s ⟨hJ, e9, e16, l16⟩
      have hen : encSale s2 = .agg [I s2.year, I s2.src, I s2.dst] := rfl
      obtain ⟨e1, e3, e5, e8, e6⟩ := hJ.e
      have l3 := hJ.l
      simp -implicitDefEqProofs [e3, e9, e16, l3, l16, hln]
      refine ⟨by omega, by omega, i64 (by omega) (by omega), round_ok hlt ⟨?_, by simp⟩⟩
      rw [hst]
      exact ⟨by simp [e1, e3, e5, e6, e8], by simp [hen], by simp [hJ.l6, hne']⟩
    · obtain rfl : k = M := by omega
      obtain ⟨e1, e3, e5, e8, e6⟩ := hJ.e
      have l3 := hJ.l
      by_cases c1 : (k : Int) < p.sales.length
      · have c1' : k < p.sales.length := by omega
        by_cases hl0 : l = []
        · simp -implicitDefEqProofs [e1, e5, e9, c1, hl0]
          exact hk0 _ (hJ.ext (by simp) (by simp))
        · have hlp := List.length_pos_iff.2 hl0
          have c3 : ¬ ((sUp l p.sales k).length : Int) < 4 := by
            unfold sN at hM
            rw [if_neg hl0] at hM
            omega
          simp -implicitDefEqProofs [e1, e3, e5, e9, l3, c1, hlp, c3]
          exact hk0 _ (hJ.ext (by simp) (by simp))
      · have c1' : ¬ k < p.sales.length := by omega
        simp -implicitDefEqProofs [e5, e9, c1]
        exact hk0 _ (hJ.ext (by simp) (by simp))
  clear hJ
  intro s hJ
  generalize sUp l p.sales M = Z at *
  obtain ⟨e1, e3, e5, e8, e6⟩ := hJ.e
  have l3 := hJ.l
  have l6 := hJ.l6
  simp -implicitDefEqProofs [e3, l3, e8, e6, l6, r44w, resD]
  exact hk _
end Go.Proofs.Ytiampdiobdianaa

namespace Go.Proofs.Ytiampdiobdianaa
open Go.Avm

structure HadOK (c : Case) (o : List Int) (l : List Hold) : Prop where
  at_ : ∀ i (h : i < l.length), l[i].who = o.getD i 0 ∧ max c.printed (owerAt c l[i].who.toNat).born ≤ l[i].src ∧ l[i].src ≤ l[i].til ∧ l[i].til ≤ min (owerAt c l[i].who.toNat).died c.now
  nxt : ∀ i (h : i + 1 < l.length), (l[i]'(by omega)).til ≤ l[i + 1].src
theorem had_ok {c : Case} {ys o : List Int} (hy : okU ys) : ∀ {n : Nat} {x : List Hold × Int}, hadUp c ys o n = some x → HadOK c o x.1 ∧ c.printed ≤ x.2 ∧ ∀ i (h : i < x.1.length), x.1[i].til ≤ x.2
  | 0, x, h => by
    injection h with h
    subst h
    exact ⟨⟨fun i h => by simp at h, fun i h => by simp at h⟩, Int.le_refl _, fun i h => by simp at h⟩
  | n + 1, x, h => by
    have h : (hadUp c ys o n).bind (hadStep c ys (o.getD n 0) n) = some x := h
    rw [Option.bind_eq_some_iff] at h
    obtain ⟨y, hy0, h⟩ := h
    obtain ⟨ih, ip, it⟩ := had_ok hy hy0
    have hln := hadUp_len hy0
    unfold hadStep at h
    have r1 := turnS_range hy (2 * n)
    have r2 := turnS_range hy (2 * n + 1)
    have hF : hFrom c ys (o.getD n 0) y.2 n = max y.2 (owerAt c (o.getD n 0).toNat).born + turnS ys (2 * n) := rfl
    have hT : hTil c ys (o.getD n 0) (hFrom c ys (o.getD n 0) y.2 n) n = min (hFrom c ys (o.getD n 0) y.2 n + turnS ys (2 * n + 1)) (hCap c (o.getD n 0)) := rfl
    have hC : hCap c (o.getD n 0) = min (owerAt c (o.getD n 0).toNat).died c.now := rfl
    generalize hTil c ys (o.getD n 0) (hFrom c ys (o.getD n 0) y.2 n) n = TT at *
    generalize hFrom c ys (o.getD n 0) y.2 n = FF at *
    generalize hCap c (o.getD n 0) = CC at *
    split at h
    · cases h
    rename_i hgood
    injection h with h
    subst h
    have hlen : (y.1 ++ [(⟨o.getD n 0, FF, TT⟩ : Hold)]).length = n + 1 := by simp [hln]
    have gl : ∀ i (h : i < n), (y.1 ++ [(⟨o.getD n 0, FF, TT⟩ : Hold)])[i]'(by omega) = y.1[i]'(by omega) := fun i h => List.getElem_append_left (by omega)
    have gr : ∀ i (h : i = n), (y.1 ++ [(⟨o.getD n 0, FF, TT⟩ : Hold)])[i]'(by omega) = ⟨o.getD n 0, FF, TT⟩ := fun i h => by
      rw [List.getElem_append_right (by omega)]; simp
    refine ⟨⟨fun i hi => ?_, fun i hi => ?_⟩, ?_, fun i hi => ?_⟩
    · have hi : i < (y.1 ++ [(⟨o.getD n 0, FF, TT⟩ : Hold)]).length := hi
      show (y.1 ++ [(⟨o.getD n 0, FF, TT⟩ : Hold)])[i].who = _ ∧ max c.printed (owerAt c ((y.1 ++ [(⟨o.getD n 0, FF, TT⟩ : Hold)])[i].who.toNat)).born ≤ (y.1 ++ [(⟨o.getD n 0, FF, TT⟩ : Hold)])[i].src ∧ (y.1 ++ [(⟨o.getD n 0, FF, TT⟩ : Hold)])[i].src ≤ (y.1 ++ [(⟨o.getD n 0, FF, TT⟩ : Hold)])[i].til ∧ (y.1 ++ [(⟨o.getD n 0, FF, TT⟩ : Hold)])[i].til ≤ min (owerAt c ((y.1 ++ [(⟨o.getD n 0, FF, TT⟩ : Hold)])[i].who.toNat)).died c.now
      by_cases e : i < n
      · rw [gl i e]; exact ih.at_ i (by omega)
      · rw [gr i (by omega), show i = n by omega]
        refine ⟨rfl, ?_, ?_, ?_⟩
        · show max c.printed (owerAt c (o.getD n 0).toNat).born ≤ FF
          omega
        · show FF ≤ TT
          omega
        · show TT ≤ min (owerAt c (o.getD n 0).toNat).died c.now
          omega
    · have hi : i + 1 < (y.1 ++ [(⟨o.getD n 0, FF, TT⟩ : Hold)]).length := hi
      show ((y.1 ++ [(⟨o.getD n 0, FF, TT⟩ : Hold)])[i]'(by omega)).til ≤ (y.1 ++ [(⟨o.getD n 0, FF, TT⟩ : Hold)])[i + 1].src
      rw [gl i (by omega)]
      by_cases e : i + 1 < n
      · rw [gl (i + 1) e]; exact ih.nxt i (by omega)
      · rw [gr (i + 1) (by omega)]
        have := it i (by omega)
        show _ ≤ FF
        omega
    · show c.printed ≤ TT
      omega
    · show ((y.1 ++ [(⟨o.getD n 0, FF, TT⟩ : Hold)])[i]'hi).til ≤ TT
      by_cases e : i < n
      · rw [gl i e]
        have := it i (by omega)
        omega
      · rw [gr i (by have hi : i < (y.1 ++ [(⟨o.getD n 0, FF, TT⟩ : Hold)]).length := hi
                     omega)]
        exact Int.le_refl _

theorem fold_le (p : Sale → Prop) [DecidablePred p] : ∀ (l : List Sale) (a v : Int), a ≤ v → (∀ s ∈ l, p s → s.year ≤ v) → l.foldl (fun a s => if p s then max a s.year else a) a ≤ v
  | [], _, _, h, _ => h
  | s :: l, a, v, h, hs => by
    have h1 := hs s (by simp)
    refine fold_le p l _ v ?_ fun t ht => hs t (by simp [ht])
    show (if p s then max a s.year else a) ≤ v
    split
    · have := h1 (by assumption); omega
    · exact h
theorem le_fold (p : Sale → Prop) [DecidablePred p] : ∀ (l : List Sale) (a v : Int), v ≤ a → (∀ s ∈ l, p s → v ≤ s.year) → v ≤ l.foldl (fun a s => if p s then min a s.year else a) a
  | [], _, _, h, _ => h
  | s :: l, a, v, h, hs => by
    have h1 := hs s (by simp)
    refine le_fold p l _ v ?_ fun t ht => hs t (by simp [ht])
    show v ≤ (if p s then min a s.year else a)
    split
    · have := h1 (by assumption); omega
    · exact h

structure Tale (d : Case) (l : List Hold) (ys : List Int) : Prop where
  had : HadOK d (l.map Hold.who) l
  ord : OrdOK d (l.map Hold.who)
  len : d.marks.length = ys.length
  marks : ∀ q (hq : q < d.marks.length), ∃ j, ∃ hj : j < l.length, d.marks[q].owner = l[j].who ∧ l[j].src ≤ ys.getD q 0 ∧ ys.getD q 0 ≤ l[j].til ∧ d.marks[q].lo ≤ ys.getD q 0 ∧ ys.getD q 0 ≤ d.marks[q].hi
  upon : ∀ q (hq : q < d.marks.length), d.marks[q].upon ≠ -1 → ys.getD d.marks[q].upon.toNat 0 ≤ ys.getD q 0 ∧ placeH l (d.marks.getD d.marks[q].upon.toNat mkD).owner ≤ placeH l d.marks[q].owner
  sales : ∀ s ∈ d.sales, ∃ j, ∃ hj : j < l.length, s = ⟨l[j].src, -1, l[j].who⟩ ∨ s = ⟨l[j].til, l[j].who, -1⟩ ∨ (0 < j ∧ l[j].src = (l[j - 1]'(by omega)).til ∧ s = ⟨l[j].src, (l[j - 1]'(by omega)).who, l[j].who⟩)
def tS (l : List Hold) (i : Nat) : Int := (l.getD i holdD).src
def tT (l : List Hold) (i : Nat) : Int := (l.getD i holdD).til
theorem tS_at {l : List Hold} {i : Nat} (h : i < l.length) : tS l i = l[i].src ∧ tT l i = l[i].til := by
  unfold tS tT
  rw [List.getD_eq_getElem?_getD, List.getElem?_eq_getElem h]
  exact ⟨rfl, rfl⟩
theorem Tale.at {d : Case} {l : List Hold} {ys : List Int} (h : Tale d l ys) {j : Nat} (hj : j < l.length) : at' (l.map Hold.who) l[j].who = j := by
  have := at_nodup h.ord.nd (i := j) (by simpa using hj)
  simpa using this
theorem Tale.inj {d : Case} {l : List Hold} {ys : List Int} (h : Tale d l ys) {j k : Nat} (hj : j < l.length) (hk : k < l.length) (e : l[j].who = l[k].who) : j = k := by
  have h1 := h.at hj
  have h2 := h.at hk
  rw [e] at h1
  omega
theorem Tale.rules {d : Case} {l : List Hold} {ys : List Int} (h : Tale d l ys) : rulesB d (l.map Hold.who) = true := by
  have hmem : ∀ j (hj : j < l.length), l[j].who ∈ l.map Hold.who := fun j hj => List.mem_map.2 ⟨_, List.getElem_mem hj, rfl⟩
  have g1 : completeB d (l.map Hold.who) = true := by
    unfold completeB
    rw [Bool.and_eq_true, List.all_eq_true, List.all_eq_true]
    constructor
    · intro m hm
      obtain ⟨q, hq, rfl⟩ := List.getElem_of_mem hm
      obtain ⟨j, hj, e, -⟩ := h.marks q hq
      unfold markIn
      rw [e]; simpa using hmem j hj
    · intro s hs
      obtain ⟨j, hj, e⟩ := h.sales s hs
      unfold saleIn hasO
      have hm := hmem j hj
      rcases e with rfl | rfl | ⟨hj0, -, rfl⟩
      · simp only [Bool.and_eq_true, Bool.or_eq_true, decide_eq_true_eq]
        exact ⟨.inl trivial, .inr hm⟩
      · simp only [Bool.and_eq_true, Bool.or_eq_true, decide_eq_true_eq]
        exact ⟨.inr hm, .inl trivial⟩
      · simp only [Bool.and_eq_true, Bool.or_eq_true, decide_eq_true_eq]
        exact ⟨.inr (hmem (j - 1) (by omega)), .inr hm⟩
  have g2 : besideB d (l.map Hold.who) = true := by
    unfold besideB
    rw [List.all_eq_true]
    intro s hs
    obtain ⟨j, hj, e⟩ := h.sales s hs
    unfold nextTo
    rcases e with rfl | rfl | ⟨hj0, -, rfl⟩
    · simp
    · simp
    · have e1 := h.at hj
      have e2 := h.at (show j - 1 < l.length by omega)
      simp only [Bool.or_eq_true, decide_eq_true_eq]
      refine .inr (.inr ?_)
      rw [e1, e2]; omega
  have g3 : layeredB d (l.map Hold.who) = true := by
    unfold layeredB
    rw [List.all_eq_true]
    intro m hm
    obtain ⟨q, hq, rfl⟩ := List.getElem_of_mem hm
    unfold under
    by_cases hn : d.marks[q].upon = -1
    · rw [decide_eq_true hn]; rfl
    · have := (h.upon q hq hn).2
      unfold placeH at this
      rw [decide_eq_false (by omega : ¬ at' (l.map Hold.who) d.marks[q].owner < _)]
      simp
  unfold rulesB
  rw [g1, g2, g3]; rfl
theorem Tale.feas {d : Case} {l : List Hold} {ys : List Int} (h : Tale d l ys) : Feas d (l.map Hold.who) (tS l) (tT l) (fun q => ys.getD q 0) := by
  have hol : (l.map Hold.who).length = l.length := by simp
  have hown : ∀ i (hi : i < l.length), ((own (l.map Hold.who) i : Nat) : Int) = l[i].who := fun i hi => by
    have := (own_at h.ord (i := i) (by omega)).1
    simpa using this
  refine ⟨fun i hi => ?_, fun i hi => ?_, fun i hi => ?_, fun q hq i hi he => ?_, fun q hq i hi he hne => (h.upon q hq hne).1⟩
  · have hi : i < l.length := by omega
    rw [(tS_at hi).1, (tS_at hi).2]
    exact (h.had.at_ i hi).2.2.1
  · have hi : i + 1 < l.length := by omega
    rw [(tS_at hi).1, (tS_at (show i < l.length by omega)).2]
    exact h.had.nxt i hi
  · have hi : i < l.length := by omega
    rw [(tS_at hi).1, (tS_at hi).2]
    have ha := h.had.at_ i hi
    have ho := hown i hi
    have hoo : own (l.map Hold.who) i = l[i].who.toNat := by omega
    rw [← hoo] at ha
    generalize own (l.map Hold.who) i = w at *
    have hb : ∀ s ∈ d.sales, s.dst = (w : Int) → s.year = l[i].src := fun s hs e => by
      obtain ⟨j, hj, e2⟩ := h.sales s hs
      have hj2 : l[j].who = l[i].who → s.year = l[i].src := fun e3 => by
        obtain rfl := h.inj hj hi e3
        rcases e2 with rfl | rfl | ⟨hj0, -, rfl⟩
        · rfl
        · have e : (-1 : Int) = w := e
          omega
        · rfl
      rcases e2 with rfl | rfl | ⟨hj0, -, rfl⟩
      · exact hj2 (by rw [← ho]; exact e)
      · have e : (-1 : Int) = w := e
        omega
      · exact hj2 (by rw [← ho]; exact e)
    have hg : ∀ s ∈ d.sales, s.src = (w : Int) → s.year = l[i].til := fun s hs e => by
      obtain ⟨j, hj, e2⟩ := h.sales s hs
      rcases e2 with rfl | rfl | ⟨hj0, hjj, rfl⟩
      · have e : (-1 : Int) = w := e
        omega
      · have e : l[j].who = w := e
        obtain rfl := h.inj hj hi (by rw [← ho]; exact e)
        rfl
      · have e : (l[j - 1]'(by omega)).who = w := e
        have := h.inj (show j - 1 < l.length by omega) hi (by rw [← ho]; exact e)
        subst this
        exact hjj
    obtain ⟨a0, a1, a2, a3⟩ := ha
    refine ⟨fold_le _ _ _ _ a1 fun s hs e => Int.le_of_eq (hb s hs e), le_fold _ _ _ _ (by omega) fun s hs e => Int.le_of_eq (hb s hs e).symm,
      fold_le _ _ _ _ (by omega) fun s hs e => Int.le_of_eq (hg s hs e), le_fold _ _ _ _ a3 fun s hs e => Int.le_of_eq (hg s hs e).symm⟩
  · obtain ⟨j, hj, e, g⟩ := h.marks q hq
    rw [e, h.at hj] at he
    obtain rfl : j = i := by omega
    rw [(tS_at hj).1, (tS_at hj).2]
    exact g
end Go.Proofs.Ytiampdiobdianaa

namespace Go.Proofs.Ytiampdiobdianaa
open Go.Avm

theorem hAt_in {l : List Hold} (h : l ≠ []) (n : Int) : ∃ j, ∃ hj : j < l.length, hAt l n = l[j] := by
  have hlp := List.length_pos_iff.2 h
  have hj := Nat.mod_lt n.toNat hlp
  refine ⟨_, hj, ?_⟩
  unfold hAt
  rw [List.getD_eq_getElem?_getD, List.getElem?_eq_getElem hj]; rfl
theorem tYear_in {h : Hold} (hs : h.src ≤ h.til) (n : Int) : h.src ≤ tYear h n ∧ tYear h n ≤ h.til := by
  have h1 := Int.emod_nonneg n (show h.til - h.src + 1 ≠ 0 by omega)
  have h2 := Int.emod_lt_of_pos n (show 0 < h.til - h.src + 1 by omega)
  unfold tYear
  omega
theorem uponS_ok (p : Nat → Bool) : ∀ {n : Nat}, uponS p n ≠ -1 → ∃ u : Nat, uponS p n = u ∧ u < n ∧ p u = true
  | 0, h => absurd rfl h
  | n + 1, h => by
    unfold uponS at h ⊢
    cases hp : p n with
    | true => exact ⟨n, by simp, by omega, hp⟩
    | false =>
      rw [hp] at h
      obtain ⟨u, h1, h2, h3⟩ := uponS_ok p (n := n) h
      exact ⟨u, by simpa using h1, by omega, h3⟩
structure TM (l : List Hold) (x : List Mk × List Int) : Prop where
  len : x.1.length = x.2.length
  marks : ∀ q (hq : q < x.1.length), ∃ j, ∃ hj : j < l.length, x.1[q].owner = l[j].who ∧ l[j].src ≤ x.2.getD q 0 ∧ x.2.getD q 0 ≤ l[j].til ∧ x.1[q].lo ≤ x.2.getD q 0 ∧ x.2.getD q 0 ≤ x.1[q].hi
  upon : ∀ q (hq : q < x.1.length), x.1[q].upon ≠ -1 → x.1[q].upon.toNat < q ∧ x.2.getD x.1[q].upon.toNat 0 ≤ x.2.getD q 0 ∧ placeH l (x.1.getD x.1[q].upon.toNat mkD).owner ≤ placeH l x.1[q].owner
theorem getD_left {α : Type} {a b : List α} {i : Nat} {d : α} (h : i < a.length) : (a ++ b).getD i d = a.getD i d := by
  rw [List.getD_eq_getElem?_getD, List.getD_eq_getElem?_getD, List.getElem?_append_left h]
theorem getD_last {α : Type} {a : List α} {x d : α} {i : Nat} (h : i = a.length) : (a ++ [x]).getD i d = x := by
  subst h
  rw [List.getD_eq_getElem?_getD, List.getElem?_append_right (Nat.le_refl _)]; simp
theorem TM.snoc {l : List Hold} {x : List Mk × List Int} (h : TM l x) {m : Mk} {y : Int} (h1 : ∃ j, ∃ hj : j < l.length, m.owner = l[j].who ∧ l[j].src ≤ y ∧ y ≤ l[j].til ∧ m.lo ≤ y ∧ y ≤ m.hi)
    (h2 : m.upon ≠ -1 → m.upon.toNat < x.1.length ∧ x.2.getD m.upon.toNat 0 ≤ y ∧ placeH l (x.1.getD m.upon.toNat mkD).owner ≤ placeH l m.owner) : TM l (x.1 ++ [m], x.2 ++ [y]) := by
  have hlen := h.len
  have gl : ∀ q (hq : q < (x.1 ++ [m]).length) (h : q < x.1.length), (x.1 ++ [m])[q] = x.1[q] := fun q _ hq => List.getElem_append_left hq
  have gr : ∀ q (hq : q < (x.1 ++ [m]).length), ¬ q < x.1.length → q = x.1.length ∧ (x.1 ++ [m])[q] = m := fun q hq hn => by
    rw [List.length_append, List.length_singleton] at hq
    have e : q = x.1.length := by omega
    subst e
    simp
  refine ⟨by simp [hlen], fun q hq => ?_, fun q hq => ?_⟩
  · have hq : q < (x.1 ++ [m]).length := hq
    show ∃ j, ∃ hj : j < l.length, (x.1 ++ [m])[q].owner = l[j].who ∧ l[j].src ≤ (x.2 ++ [y]).getD q 0 ∧ (x.2 ++ [y]).getD q 0 ≤ l[j].til ∧ (x.1 ++ [m])[q].lo ≤ (x.2 ++ [y]).getD q 0 ∧ (x.2 ++ [y]).getD q 0 ≤ (x.1 ++ [m])[q].hi
    by_cases e : q < x.1.length
    · rw [gl q hq e, getD_left (by omega)]; exact h.marks q e
    · obtain ⟨e2, e3⟩ := gr q hq e
      rw [e3, getD_last (by omega)]; exact h1
  · have hq : q < (x.1 ++ [m]).length := hq
    show (x.1 ++ [m])[q].upon ≠ -1 → (x.1 ++ [m])[q].upon.toNat < q ∧ (x.2 ++ [y]).getD (x.1 ++ [m])[q].upon.toNat 0 ≤ (x.2 ++ [y]).getD q 0 ∧ placeH l ((x.1 ++ [m]).getD (x.1 ++ [m])[q].upon.toNat mkD).owner ≤ placeH l (x.1 ++ [m])[q].owner
    by_cases e : q < x.1.length
    · rw [gl q hq e]
      intro hn
      have := h.upon q e hn
      have a1 : (x.2 ++ [y]).getD x.1[q].upon.toNat 0 = x.2.getD x.1[q].upon.toNat 0 := getD_left (by omega)
      have a2 : (x.2 ++ [y]).getD q 0 = x.2.getD q 0 := getD_left (by omega)
      have a3 : (x.1 ++ [m]).getD x.1[q].upon.toNat mkD = x.1.getD x.1[q].upon.toNat mkD := getD_left (by omega)
      rw [a1, a2, a3]
      exact this
    · obtain ⟨e2, e3⟩ := gr q hq e
      rw [e3]
      intro hn
      have := h2 hn
      have a1 : (x.2 ++ [y]).getD m.upon.toNat 0 = x.2.getD m.upon.toNat 0 := getD_left (by omega)
      have a2 : (x.2 ++ [y]).getD q 0 = y := getD_last (by omega)
      have a3 : (x.1 ++ [m]).getD m.upon.toNat mkD = x.1.getD m.upon.toNat mkD := getD_left (by omega)
      rw [a1, a2, a3]
      exact ⟨by omega, this.2⟩
theorem told_marks {c : Case} {l : List Hold} (hl : HIn c l) (h : l ≠ []) (ms : List Int) : ∀ k, TM l (tUp c l ms k)
  | 0 => ⟨rfl, fun q hq => by simp [tUp] at hq, fun q hq => by simp [tUp] at hq⟩
  | k + 1 => by
    have ih := told_marks hl h ms k
    unfold tUp tStep
    obtain ⟨j, hj, e⟩ := hAt_in h (ms.getD (4 * k) 0)
    have hb := hl _ (List.getElem_mem hj)
    have hy := tYear_in hb.2.1 (ms.getD (4 * k + 1) 0)
    rw [e]
    generalize tYear l[j] (ms.getD (4 * k + 1) 0) = y at *
    have m2 := Int.emod_nonneg (ms.getD (4 * k + 2) 0) (show (20 : Int) ≠ 0 by omega)
    have m3 := Int.emod_nonneg (ms.getD (4 * k + 3) 0) (show (20 : Int) ≠ 0 by omega)
    refine ih.snoc ⟨j, hj, rfl, hy.1, hy.2, ?_, ?_⟩ fun hn => ?_
    · show max c.printed (y - ms.getD (4 * k + 2) 0 % 20) ≤ y
      omega
    · show y ≤ min c.now (y + ms.getD (4 * k + 3) 0 % 20)
      omega
    · obtain ⟨u, e1, e2, e3⟩ := uponS_ok _ hn
      have eu : (tMark c l (ms.getD (4 * k + 2) 0) (ms.getD (4 * k + 3) 0) l[j] y (tUp c l ms k)).upon.toNat = u := by
        show (uponS _ _).toNat = u
        rw [e1]; rfl
      rw [eu]
      unfold tCond at e3
      simp only [Bool.and_eq_true, decide_eq_true_eq] at e3
      exact ⟨e2, e3.1, e3.2.1⟩
theorem told_sales (l : List Hold) (ss : List Int) (h : l ≠ []) (k : Nat) : ∀ s ∈ sUp l ss k, ∃ j, ∃ hj : j < l.length, s = ⟨l[j].src, -1, l[j].who⟩ ∨ s = ⟨l[j].til, l[j].who, -1⟩ ∨ (0 < j ∧ l[j].src = (l[j - 1]'(by omega)).til ∧ s = ⟨l[j].src, (l[j - 1]'(by omega)).who, l[j].who⟩) := by
  intro s hs
  unfold sUp at hs
  obtain ⟨n, -, rfl⟩ := List.mem_map.1 hs
  have hlp := List.length_pos_iff.2 h
  have hj := Nat.mod_lt n.toNat hlp
  have gd : ∀ i (hi : i < l.length), l.getD i holdD = l[i] := fun i hi => by rw [List.getD_eq_getElem?_getD, List.getElem?_eq_getElem hi]; rfl
  refine ⟨_, hj, ?_⟩
  unfold sTold
  simp only
  rw [gd _ hj, gd _ (show n.toNat % l.length - 1 < l.length by omega)]
  split
  · rename_i hc
    exact .inr (.inr ⟨hc.2.1, hc.2.2, rfl⟩)
  · split
    · exact .inr (.inl rfl)
    · exact .inl rfl
theorem had_who {c : Case} {p : Past} {l : List Hold} (hp : p.OK) (h : hadT c p = some l) : HadOK c (hadO c p) l ∧ l.map Hold.who = hadO c p ∧ HIn c l := by
  unfold hadT at h
  rw [Option.map_eq_some_iff] at h
  obtain ⟨x, hx, rfl⟩ := h
  have hh := (had_ok hp.years.1 hx).1
  have hln := hadUp_len hx
  refine ⟨hh, ?_, fun b hb => ?_⟩
  · apply List.ext_getElem (by simpa using hln)
    intro i h1 h2
    have hi : i < x.1.length := by simpa using h1
    rw [List.getElem_map, (hh.at_ i hi).1, List.getD_eq_getElem?_getD, List.getElem?_eq_getElem h2]; rfl
  · obtain ⟨i, hi, rfl⟩ := List.getElem_of_mem hb
    have := (hh.at_ i hi).2
    omega
theorem told_tale {c : Case} {p : Past} {l : List Hold} (hp : p.OK) (h : hadT c p = some l) : Tale (toldC c l p) l (toldY c l p) := by
  obtain ⟨hh, hw, hin⟩ := had_who hp h
  have ho : OrdOK c (hadO c p) := anyO_ok c _
  have hlen := tUp_len c l p.marks (tN l p.marks)
  by_cases h0 : l = []
  · subst h0
    refine ⟨⟨fun i hi => by simp at hi, fun i hi => by simp at hi⟩, ⟨fun x hx => by simp at hx, by simp⟩, rfl, fun q hq => ?_, fun q hq => ?_, fun s hs => ?_⟩
    · have : q < 0 := hq
      omega
    · have : q < 0 := hq
      omega
    · have : s ∈ ([] : List Sale) := hs
      simp at this
  · have hm := told_marks hin h0 p.marks (tN l p.marks)
    have hs := told_sales l p.sales h0 (sN l p.sales)
    rw [← hw] at hh ho
    exact ⟨⟨hh.at_, hh.nxt⟩, ⟨ho.rng, ho.nd⟩, hm.len, hm.marks, fun q hq hn => (hm.upon q hq hn).2, hs⟩

theorem Tale.solve {d : Case} {l : List Hold} {ys : List Int} (h : Tale d l ys) (hd : d.OK) : ∃ l', solveS d (l.map Hold.who) = some l' := feas_solve hd h.ord h.rules h.feas
theorem Tale.some {d : Case} {l : List Hold} {ys : List Int} (h : Tale d l ys) (hd : d.OK) : someB d = true := someB_iff.2 ⟨_, h.ord, h.solve hd⟩
theorem Tale.bnd {d : Case} {l : List Hold} {ys : List Int} (h : Tale d l ys) {a : Hold} (ha : a ∈ l) : bLo d d.sales a.who.toNat ≤ a.src ∧ a.til ≤ gHi d d.sales a.who.toNat := by
  obtain ⟨i, hi, rfl⟩ := List.getElem_of_mem ha
  have g := h.feas.own i (by simpa using hi)
  have ho := (own_at h.ord (i := i) (by simpa using hi)).1
  rw [List.getElem_map] at ho
  have e : own (l.map Hold.who) i = l[i].who.toNat := by omega
  rw [e, (tS_at hi).1, (tS_at hi).2] at g
  exact ⟨g.1, g.2.2.2⟩
theorem gap_tale {d : Case} : ∀ {l : List Hold} {p q : Int}, (∀ a ∈ l, bLo d d.sales a.who.toNat ≤ a.src ∧ a.til ≤ gHi d d.sales a.who.toNat) → q ≤ p → gapO d p (l.map Hold.who) ≤ gaps q l ∧ lastTil q l ≤ lastO d p (l.map Hold.who)
  | [], p, q, _, hp => ⟨Int.le_refl _, hp⟩
  | a :: l, p, q, h, hp => by
    have ha := h a (by simp)
    obtain ⟨i1, i2⟩ := gap_tale (l := l) (p := gHi d d.sales a.who.toNat) (q := a.til) (fun b hb => h b (by simp [hb])) ha.2
    refine ⟨?_, i2⟩
    show (if p < bLo d d.sales a.who.toNat then 1 else 0) + gapO d (gHi d d.sales a.who.toNat) (l.map Hold.who) ≤ (if q < a.src then 1 else 0) + gaps a.til l
    by_cases hc : p < bLo d d.sales a.who.toNat
    · rw [if_pos hc, if_pos (by omega)]; omega
    · rw [if_neg hc]; split <;> omega
theorem Tale.unk {d : Case} {l : List Hold} {ys : List Int} (h : Tale d l ys) : unkO d (l.map Hold.who) ≤ unknownS d l := by
  obtain ⟨i1, i2⟩ := gap_tale (d := d) (l := l) (p := d.printed) (q := d.printed) (fun a ha => h.bnd ha) (Int.le_refl _)
  unfold unkO unknownS
  by_cases e : l = []
  · subst e; simp
  · rw [if_neg (by simpa using e), if_neg e]
    by_cases hc : lastO d d.printed (l.map Hold.who) < d.now
    · rw [if_pos hc, if_pos (by omega)]; omega
    · rw [if_neg hc]; split <;> omega
theorem Tale.chain {d : Case} {l : List Hold} {ys : List Int} (h : Tale d l ys) (he : errE d = 0) : whyS d (l.map Hold.who) = ⟨unkO d (l.map Hold.who), 0⟩ ∧ ∃ b u, chainS d = ⟨b, u, 0⟩ ∧ u ≤ unkO d (l.map Hold.who) := by
  have hd := Case.ok he
  obtain ⟨l1, hl1⟩ := h.solve hd
  refine ⟨why_some he h.ord hl1, ?_⟩
  cases hb : bestS d (chainsL d) with
  | none => rw [no_chain hb h.ord] at hl1; cases hl1
  | some l' =>
    obtain ⟨j, hj, e⟩ := chains_pos h.ord hl1
    obtain ⟨k2, hk2, _, _, _, _, hmin⟩ := best_chain hd hb
    have := (hmin j hj).1
    rw [e] at this
    have e2 := solve_unknown hd h.ord hl1
    simp only at this
    exact ⟨_, _, chain_some he hb, by omega⟩
theorem Tale.year {d : Case} {l : List Hold} {ys : List Int} (h : Tale d l ys) (he : errE d = 0) {i : Nat} (hi : i < d.marks.length) : ∃ a b, yearS d i = ⟨a, b, 0⟩ ∧ a ≤ ys.getD i 0 ∧ ys.getD i 0 ≤ b := by
  have hd := Case.ok he
  have hs := h.some hd
  obtain ⟨j, hj, e, -, -, g1, g2⟩ := h.marks i hi
  obtain ⟨f1, f2⟩ := in_feas hi h.rules h.feas (y := ys.getD i 0) rfl
  have hmm := hd.marks _ (List.getElem_mem hi)
  have hmd : madeP d i (ys.getD i 0) = true := by
    unfold madeP
    exact (someB_feas (inC_ok hd (by omega))).2 ⟨_, ⟨h.ord.rng, h.ord.nd⟩, f1, _, _, _, f2⟩
  have hY : yearS d i = ⟨yearLoP d i, yearHiP d i, 0⟩ := by
    unfold yearS
    rw [if_neg (not_not_intro he), out_none (by simp; omega), if_neg (by simp), hs, if_neg (by simp), Int.toNat_natCast]
  refine ⟨_, _, hY, ?_, ?_⟩
  · have := (upTo_spec (madeP d i) (d.marks[i].hi - d.marks[i].lo).toNat d.marks[i].lo _ g1 (by omega) hmd).2.1
    unfold yearLoP
    rw [mk_at hi]; exact this
  · have := (dnTo_spec (madeP d i) (d.marks[i].hi - d.marks[i].lo).toNat d.marks[i].hi _ g2 (by omega) hmd).2.1
    rw [yearHi_eq hd hs hi]; exact this
end Go.Proofs.Ytiampdiobdianaa

namespace Go.Proofs.Ytiampdiobdianaa
open Go.Avm

theorem keptN_none {p : Nat → Bool} : ∀ {k : Nat}, (∀ i < k, p i = false) → keptN p k = k
  | 0, _ => rfl
  | k + 1, h => by
    unfold keptN
    rw [keptN_none (k := k) (fun i hi => h i (by omega)), h k (by omega)]; rfl
theorem wUp_first {l : List Mk} (hu : ∀ i (h : i < l.length), -1 ≤ l[i].upon ∧ l[i].upon < i) {p : Nat → Bool} {n : Nat} (hp : ∀ i < n, p i = false) : ∀ {k : Nat}, k ≤ n → k ≤ l.length → wUp l p k = l.take k
  | 0, _, _ => rfl
  | k + 1, h1, h2 => by
    have hk : k < l.length := h2
    have hk0 := hp k (by omega)
    have hup := hu k hk
    rw [take_snoc hk]
    unfold wUp
    rw [wUp_first hu hp (by omega) (by omega), hk0, mk_at' hk]
    have e : fixM p l[k] = l[k] := by
      unfold fixM
      by_cases hn : l[k].upon = -1
      · rw [if_pos hn, ← hn]
      · rw [if_neg hn]
        unfold newIx
        rw [hp _ (by omega), keptN_none (fun i hi => hp i (by omega))]
        have : ((l[k].upon.toNat : Nat) : Int) = l[k].upon := by omega
        simp only [Bool.false_eq_true, if_false, this]
    rw [e]; rfl
theorem wUp_cut {l : List Mk} (hu : ∀ i (h : i < l.length), -1 ≤ l[i].upon ∧ l[i].upon < i) {p : Nat → Bool} {n : Nat} (hp : ∀ i < n, p i = false) : ∀ {k : Nat}, n ≤ k → k ≤ l.length → (∀ i, n ≤ i → i < k → p i = true) → wUp l p k = l.take n
  | 0, h1, h2, _ => by
    obtain rfl : n = 0 := by omega
    rfl
  | k + 1, h1, h2, h3 => by
    by_cases e : n = k + 1
    · subst e; exact wUp_first hu hp (Nat.le_refl _) h2
    · unfold wUp
      rw [wUp_cut hu hp (k := k) (by omega) (by omega) (fun i a b => h3 i a (by omega)), h3 k (by omega) (by omega)]
      simp
theorem withoutC_cut {d : Case} (hd : d.OK) {n : Nat} (hn : n ≤ d.marks.length) {p : Nat → Bool} (h1 : ∀ i < n, p i = false) (h2 : ∀ i, n ≤ i → i < d.marks.length → p i = true) : withoutC d p = { d with marks := d.marks.take n } := by
  unfold withoutC
  rw [wUp_cut hd.upon h1 hn (Nat.le_refl _) h2]
theorem lessL_len {a b : List Int} (h : lessL a b = true) : a.length ≤ b.length := by
  unfold lessL at h
  split at h
  · have := of_decide_eq_true h; omega
  · rename_i hn; omega
def restN (n m : Nat) : Nat := 2 ^ m - 2 ^ n
theorem rest_all : ((List.range 9).all fun m => (List.range (m + 1)).all fun n => decide (restN n m < 2 ^ m) && (decide ((bitsL (restN n m)).length = m - n) && (List.range m).all fun i => (restN n m).testBit i == decide (n ≤ i))) = true := by decide +kernel
theorem rest_ok {n m : Nat} (hm : m ≤ 8) (hn : n ≤ m) : restN n m < 2 ^ m ∧ (bitsL (restN n m)).length = m - n ∧ ∀ i < m, (restN n m).testBit i = decide (n ≤ i) := by
  have h := List.all_eq_true.1 rest_all m (by simp; omega)
  have h := List.all_eq_true.1 h n (by simp; omega)
  rw [Bool.and_eq_true, Bool.and_eq_true, decide_eq_true_eq, decide_eq_true_eq] at h
  refine ⟨h.1, h.2.1, fun i hi => ?_⟩
  have := List.all_eq_true.1 h.2.2 i (by simpa using hi)
  simpa using this
theorem forged_few {d : Case} (he : errE d = 0) {n : Nat} (hn : n ≤ d.marks.length) (hs : someB { d with marks := d.marks.take n } = true) : ∃ f, forgedR d = ⟨f, 0⟩ ∧ f.length ≤ d.marks.length - n := by
  have hd := Case.ok he
  have h8 := err_marks he
  obtain ⟨r1, r2, r3⟩ := rest_ok h8 hn
  have hq : forgeB d (restN n d.marks.length) = true := by
    unfold forgeB
    rw [withoutC_cut hd hn (fun i hi => by rw [r3 i (by omega)]; simp; omega) (fun i hi hi2 => by rw [r3 i hi2]; simpa using hi)]
    exact hs
  have hp : 2 ^ d.marks.length ≤ 256 := Nat.le_trans (Nat.pow_le_pow_right (by omega) h8) (by decide)
  have hsp := bestUp_spec (forgeB d) (2 ^ d.marks.length) hp
  unfold forgedR
  rw [if_neg (not_not_intro he)]
  generalize bestUp (forgeB d) (2 ^ d.marks.length) = o at *
  cases o with
  | none =>
    have := hsp _ r1
    rw [hq] at this; cases this
  | some b =>
    refine ⟨_, rfl, ?_⟩
    rcases hsp.2.2 _ r1 hq with e | e
    · show (bitsL b).length ≤ _
      rw [← e, r2]; exact Nat.le_refl _
    · have := lessL_len e
      show (bitsL b).length ≤ _
      omega
end Go.Proofs.Ytiampdiobdianaa

namespace Go.Proofs.Ytiampdiobdianaa
open Go.Avm

theorem errE_without {c : Case} (h : errE c = 0) (p : Nat → Bool) : errE (withoutC c p) = 0 := by
  have hok := Case.ok h
  have hwk := withoutC_ok hok p
  have hm8 := err_marks h
  refine err_same h rfl rfl rfl ?_ (fun i hi => ?_) (show c.sales.length ≤ 4 from err_sales h) (show ∀ s ∈ c.sales, c.printed ≤ s.year ∧ _ from sale_facts h)
  · show (wUp _ _ _).length ≤ 8
    rw [wUp_len]
    exact Nat.le_trans (keptN_le _ _) hm8
  · have hu := hwk.upon i hi
    obtain ⟨j, hj, -, e⟩ := mem_wUp (List.getElem_mem hi)
    have hf := mark_facts h hj
    rw [mk_at' hj] at e
    have e : (withoutC c p).marks[i] = fixM p c.marks[j] := e
    refine ⟨?_, hu, ?_⟩
    · rw [e]; exact hf.1
    · rw [e]; exact hf.2.2
theorem forged_said {c : Case} (he : errE c = 0) {l : List Int} (hl : l ∈ enumL c.marks.length) : match bestUp (forgeB c) (2 ^ c.marks.length) with
    | none => forgedR c = ⟨[], 9⟩ ∧ someB (withoutC c (inL l)) = false
    | some b => forgedR c = ⟨bitsL b, 0⟩ ∧ someB (withoutC c (inL (bitsL b))) = true ∧ (someB (withoutC c (inL l)) = true → (bitsL b).length ≤ l.length) ∧ (∀ x ∈ bitsL b, 0 ≤ x ∧ x < c.marks.length) ∧ ∀ i j (hij : i < j) (hj : j < (bitsL b).length), (bitsL b)[i]'(by omega) < (bitsL b)[j] := by
  have h8 := err_marks he
  have hp : 2 ^ c.marks.length ≤ 256 := Nat.le_trans (Nat.pow_le_pow_right (by omega) h8) (by decide)
  have h2 := List.all_eq_true.1 (List.all_eq_true.1 enum_mask c.marks.length (by simp; omega)) l hl
  simp only [Bool.and_eq_true, decide_eq_true_eq] at h2
  have hin : ∀ k < 2 ^ c.marks.length, bitsL k ∈ enumL c.marks.length := fun k hk => by
    have := List.all_eq_true.1 (List.all_eq_true.1 enum_full c.marks.length (by simp; omega)) k (by simpa using hk)
    simpa using this
  have hmask : someB (withoutC c (inL l)) = forgeB c (maskOf l) := by rw [inL_mask h8 hl]; rfl
  have hbs := bestUp_spec (forgeB c) (2 ^ c.marks.length) hp
  have hR : forgedR c = match bestUp (forgeB c) (2 ^ c.marks.length) with | none => ⟨[], 9⟩ | some b => ⟨bitsL b, 0⟩ := by
    unfold forgedR; rw [if_neg (not_not_intro he)]; cases bestUp (forgeB c) (2 ^ c.marks.length) <;> rfl
  generalize bestUp (forgeB c) (2 ^ c.marks.length) = o at *
  cases o with
  | none => exact ⟨hR, by rw [hmask]; exact hbs _ h2.1⟩
  | some b =>
    obtain ⟨b1, b2, b3⟩ := hbs
    have hmb : inL (bitsL b) = fun i => b.testBit i := by
      rw [inL_mask h8 (hin b b1), maskOf_bits b (by omega)]
    refine ⟨hR, by rw [hmb]; exact b2, fun hs => ?_, fun x hx => ?_, fun i j hij hj => selT_get_lt hij hj⟩
    · rw [hmask] at hs
      rcases b3 _ h2.1 hs with e | e
      · rw [← e, h2.2]; exact Nat.le_refl _
      · rw [h2.2] at e; exact lessL_len e
    · obtain ⟨j, rfl, hj, hb⟩ := selT_mem hx
      refine ⟨by omega, ?_⟩
      have : j < c.marks.length := by
        apply Decidable.byContradiction
        intro hi
        rw [Nat.testBit_lt_two_pow (Nat.lt_of_lt_of_le b1 (Nat.pow_le_pow_right (by omega) (by omega)))] at hb
        cases hb
      omega
theorem other_all : ((List.range 9).all fun k => (List.range 256).all fun n => (enumL k).contains (selT (fun i => n.testBit i) k)) = true := by decide +kernel
theorem other_in {n k : Nat} (hn : n < 256) (hk : k ≤ 8) : selT (fun i => n.testBit i) k ∈ enumL k := by
  have := List.all_eq_true.1 (List.all_eq_true.1 other_all k (by simp; omega)) n (by simpa using hn)
  simpa using this

def unMk (m : Mk) : Mk := ⟨m.owner, m.lo, m.hi, -1⟩
def addC (c d : Case) (k : Nat) : Case := { d with marks := d.marks ++ (c.marks.take k).map unMk }
def addN (c d : Case) : Nat := min c.marks.length (8 - d.marks.length)
theorem addC_take {c d : Case} (k : Nat) : { addC c d k with marks := (addC c d k).marks.take d.marks.length } = d := by
  unfold addC
  simp
theorem addC_ok {c d : Case} {k : Nat} (h : (addC c d k).OK) : d.OK := by
  have hl : (addC c d k).marks.length = d.marks.length + min k c.marks.length := by simp [addC]
  refine ⟨h.years, h.ownersLen, h.owners, by have := h.marksLen; omega, fun m hm => h.marks m (List.mem_append.2 (.inl hm)), fun i hi => ?_, h.salesLen, h.sales⟩
  have := h.upon i (by omega)
  have e : (addC c d k).marks[i]'(by omega) = d.marks[i] := List.getElem_append_left hi
  rw [e] at this
  exact this
theorem forged_added {c d : Case} {l : List Hold} {ys : List Int} {k : Nat} (tale : Tale d l ys) (he : errE (addC c d k) = 0) : ∃ f, forgedR (addC c d k) = ⟨f, 0⟩ ∧ f.length ≤ (addC c d k).marks.length - d.marks.length := by
  have hl : (addC c d k).marks.length = d.marks.length + min k c.marks.length := by simp [addC]
  refine forged_few he (n := d.marks.length) (by omega) ?_
  rw [addC_take]
  exact tale.some (addC_ok (Case.ok he))
end Go.Proofs.Ytiampdiobdianaa
