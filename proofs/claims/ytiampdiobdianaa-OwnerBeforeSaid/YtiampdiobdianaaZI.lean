/- Contracts of the reference: Order, Why, Before. Contracts of the reference: Before. Plain: an order has a chain if there are years for it. Plain: years for an order are found by its chain; unknown owners by the order alone. Contracts of the reference: a mark of a known year; who has the copy in a year. Contracts of the reference: Year, Owned. -/
import Derived.Test.YtiampdiobdianaaZH
namespace Go.Proofs.Ytiampdiobdianaa
open Go.Avm

theorem out_none {lo hi : Int} {l : List Int} (h : ∀ x ∈ l, lo ≤ x ∧ x ≤ hi) : out lo hi l = false := by
  unfold out
  rw [List.any_eq_false]
  intro x hx
  have := h x hx
  simp
  omega

end Go.Proofs.Ytiampdiobdianaa

namespace Go.Proofs.Ytiampdiobdianaa
open Go.Avm

theorem at_ne {o : List Int} {a b : Int} (hab : a ≠ b) (ha : 0 ≤ at' o a) : at' o a ≠ at' o b := by
  intro e
  have h1 : a ∈ o := Decidable.not_not.1 fun h => by have := at_neg.2 h; omega
  have h2 : b ∈ o := Decidable.not_not.1 fun h => by have := at_neg.2 h; omega
  obtain ⟨p, hp, hp1, hp2⟩ := at_mem h1
  obtain ⟨q, hq, hq1, hq2⟩ := at_mem h2
  have : p = q := by omega
  subst this
  exact hab (hp2.symm.trans hq2)
end Go.Proofs.Ytiampdiobdianaa

namespace Go.Proofs.Ytiampdiobdianaa
open Go.Avm

def own (o : List Int) (i : Nat) : Nat := (o.getD i 0).toNat
/-- An order of some owners. -/
structure OrdOK (c : Case) (o : List Int) : Prop where
  rng : ∀ x ∈ o, 0 ≤ x ∧ x < (c.owners.length : Int)
  nd : o.Nodup
theorem own_at {c : Case} {o : List Int} (h : OrdOK c o) {i : Nat} (hi : i < o.length) : ((own o i : Nat) : Int) = o[i] ∧ own o i < c.owners.length ∧ at' o (own o i) = i := by
  have h1 := h.rng _ (List.getElem_mem hi)
  have e : ((own o i : Nat) : Int) = o[i] := by
    unfold own
    rw [List.getD_eq_getElem?_getD, List.getElem?_eq_getElem hi, Option.getD_some]
    omega
  refine ⟨e, by omega, ?_⟩
  rw [e]; exact at_nodup h.nd hi
theorem own_pos {c : Case} {o : List Int} (h : OrdOK c o) {x : Int} {i : Nat} (hi : i < o.length) (hx : at' o x = i) : x = own o i := by
  have hm : x ∈ o := Decidable.not_not.1 fun hn => by have := at_neg.2 hn; omega
  obtain ⟨k, hk, h1, h2⟩ := at_mem hm
  obtain rfl : k = i := by omega
  rw [(own_at h hk).1, h2]
theorem orders_ok {c : Case} {o : List Int} (h : o ∈ ordersL c.owners.length) : OrdOK c o := by
  have := ordersL_each h
  exact ⟨this.2.2, this.2.1⟩
/-- Years for the owners of an order below n, and for their marks. -/
structure FeasTo (c : Case) (o : List Int) (n : Nat) (S T Y : Nat → Int) : Prop where
  le : ∀ i < n, S i ≤ T i
  next : ∀ i, i + 1 < n → T i ≤ S (i + 1)
  own : ∀ i < n, bLo c c.sales (own o i) ≤ S i ∧ S i ≤ bHi c c.sales (own o i) ∧ gLo c c.sales (own o i) ≤ T i ∧ T i ≤ gHi c c.sales (own o i)
  marks : ∀ q (hq : q < c.marks.length) (i : Nat), i < n → at' o c.marks[q].owner = i → S i ≤ Y q ∧ Y q ≤ T i ∧ c.marks[q].lo ≤ Y q ∧ Y q ≤ c.marks[q].hi
  upon : ∀ q (hq : q < c.marks.length) (i : Nat), i < n → at' o c.marks[q].owner = i → c.marks[q].upon ≠ -1 → Y c.marks[q].upon.toNat ≤ Y q
abbrev Feas (c : Case) (o : List Int) (S T Y : Nat → Int) : Prop := FeasTo c o o.length S T Y

/-! ## What a run finds are years -/
theorem marks_run {c : Case} {o : Nat} {f : Int} {Y0 : Nat → Int} {t0 : Int} (hu : ∀ i (h : i < c.marks.length), -1 ≤ c.marks[i].upon ∧ c.marks[i].upon < i) : ∀ {k : Nat} {x : (Nat → Int) × Int}, k ≤ c.marks.length → marksUp c o f Y0 t0 k = some x →
    t0 ≤ x.2 ∧ (∀ q, (∀ hq : q < c.marks.length, c.marks[q].owner ≠ (o : Int)) → x.1 q = Y0 q) ∧
    ∀ q (hq : q < c.marks.length), q < k → c.marks[q].owner = (o : Int) → f ≤ x.1 q ∧ x.1 q ≤ x.2 ∧ c.marks[q].lo ≤ x.1 q ∧ x.1 q ≤ c.marks[q].hi ∧ (c.marks[q].upon ≠ -1 → x.1 c.marks[q].upon.toNat ≤ x.1 q)
  | 0, x, _, h => by
    injection h with h
    subst h
    exact ⟨Int.le_refl _, fun _ _ => rfl, fun q _ hq => by omega⟩
  | k + 1, x, hk, h => by
    have h : (marksUp c o f Y0 t0 k).bind (markStep c o f k) = some x := h
    rw [Option.bind_eq_some_iff] at h
    obtain ⟨y, hy, h⟩ := h
    obtain ⟨i1, i2, i3⟩ := marks_run hu (by omega) hy
    unfold markStep markY at h
    have hk' : k < c.marks.length := hk
    rw [mk_at hk'] at h
    have hup := hu k hk'
    split at h
    · rename_i hne
      injection h with h
      subst h
      refine ⟨i1, i2, fun q hq hqk ho => ?_⟩
      by_cases e : q = k
      · subst e; exact absurd ho hne
      · exact i3 q hq (by omega) ho
    · rename_i hne
      have ho : c.marks[k].owner = (o : Int) := Decidable.not_not.1 hne
      obtain ⟨z, hz⟩ : ∃ z, z = (if c.marks[k].upon = -1 then max c.marks[k].lo f else max (max c.marks[k].lo f) (y.1 c.marks[k].upon.toNat)) := ⟨_, rfl⟩
      rw [← hz] at h
      by_cases hhi : c.marks[k].hi < z
      · rw [if_pos hhi] at h; cases h
      rw [if_neg hhi] at h
      injection h with h
      subst h
      have hzlo : c.marks[k].lo ≤ z ∧ f ≤ z := by rw [hz]; split <;> omega
      have hzu : c.marks[k].upon ≠ -1 → y.1 c.marks[k].upon.toNat ≤ z := fun hn => by rw [hz, if_neg hn]; omega
      have pk : ∀ j, j ≠ k → putY y.1 k z j = y.1 j := fun j hj => by unfold putY; rw [if_neg hj]
      have pkk : putY y.1 k z k = z := by unfold putY; rw [if_pos rfl]
      refine ⟨by show t0 ≤ max y.2 z; omega, fun q hq => ?_, fun q hq hqk hqo => ?_⟩
      · have e : q ≠ k := by rintro rfl; exact hq hk' ho
        show putY y.1 k z q = _
        rw [pk q e]; exact i2 q hq
      · show f ≤ putY y.1 k z q ∧ putY y.1 k z q ≤ max y.2 z ∧ _ ≤ putY y.1 k z q ∧ putY y.1 k z q ≤ _ ∧ (_ → putY y.1 k z _ ≤ putY y.1 k z q)
        by_cases e : q = k
        · subst e
          rw [pkk]
          refine ⟨hzlo.2, by omega, hzlo.1, by omega, fun hn => ?_⟩
          rw [pk _ (by omega)]
          exact hzu hn
        · obtain ⟨j1, j2, j3, j4, j5⟩ := i3 q hq (by omega) hqo
          have hq2 := hu q hq
          rw [pk q e]
          refine ⟨j1, by omega, j3, j4, fun hn => ?_⟩
          rw [pk _ (by omega)]
          exact j5 hn
/-- The holds of a run: who, and up to when at the latest. -/
def HoldsOf (c : Case) (o : List Int) (n : Nat) (l : List Hold) : Prop := l.length = n ∧ ∀ i (h : i < l.length), l[i].who = own o i ∧ l[i].til = gHi c c.sales (own o i)
theorem layered_pos {c : Case} {o : List Int} (hl : layeredB c o = true) {q : Nat} (hq : q < c.marks.length) (hn : c.marks[q].upon ≠ -1) : ¬ at' o c.marks[q].owner < at' o (c.marks.getD c.marks[q].upon.toNat mkD).owner := by
  unfold layeredB at hl
  have := List.all_eq_true.1 hl _ (List.getElem_mem hq)
  unfold under at this
  rw [decide_eq_false hn, Bool.false_or] at this
  simpa using this
theorem run_feas {c : Case} (hc : c.OK) {o : List Int} (ho : OrdOK c o) (hl : layeredB c o = true) (hm : ∀ m ∈ c.marks, m.owner ∈ o) : ∀ {n : Nat} {x : Run}, n ≤ o.length → runUp c o n = some x →
    HoldsOf c o n x.raw ∧ ∃ T, FeasTo c o n (fun i => (x.raw.getD i ⟨0, 0, 0⟩).src) T x.years ∧ (∀ i, i + 1 = n → T i = x.since) ∧ (n = 0 → x.since = c.printed) ∧
      (∀ i, i + 1 < n → (x.raw.getD (i + 1) ⟨0, 0, 0⟩).src = max (T i) (bLo c c.sales (own o (i + 1)))) ∧ (0 < n → (x.raw.getD 0 ⟨0, 0, 0⟩).src = bLo c c.sales (own o 0))
  | 0, x, _, h => by
    injection h with h
    subst h
    refine ⟨⟨rfl, fun i h => by cases h⟩, fun _ => 0, ⟨by omega, by omega, by omega, fun q _ i hi => by omega, fun q _ i hi => by omega⟩, by omega, fun _ => rfl, by omega, by omega⟩
  | n + 1, x, hn, h => by
    have h : (runUp c o n).bind (stepO c (own o n)) = some x := h
    rw [Option.bind_eq_some_iff] at h
    obtain ⟨y, hy, h⟩ := h
    obtain ⟨⟨l1, l2⟩, T, hF, hT, h0, hS, hS0⟩ := run_feas hc ho hl hm (by omega) hy
    unfold stepO at h
    rw [Option.bind_eq_some_iff] at h
    obtain ⟨z, hz, h⟩ := h
    have hn' : n < o.length := hn
    have hsp := runUp_since hy
    obtain ⟨m1, m2, m3⟩ := marks_run hc.upon (Nat.le_refl _) hz
    obtain ⟨oe, olt, oat⟩ := own_at ho hn'
    generalize hon : own o n = on at *
    obtain ⟨f, hf⟩ : ∃ f, f = max y.since (bLo c c.sales on) := ⟨_, rfl⟩
    rw [← hf] at h m1 m3
    split at h
    · cases h
    rename_i hgood
    injection h with h
    subst h
    have hgood : ¬ (bHi c c.sales on < f) ∧ ¬ (gHi c c.sales on < z.2) := by
      constructor
      · exact fun e => hgood (.inl e)
      · exact fun e => hgood (.inr e)
    have hlen : (y.raw ++ [(⟨on, f, gHi c c.sales on⟩ : Hold)]).length = n + 1 := by simp [l1]
    have hgl : ∀ i, i < n → ((y.raw ++ [(⟨on, f, gHi c c.sales on⟩ : Hold)]).getD i ⟨0, 0, 0⟩).src = (y.raw.getD i ⟨0, 0, 0⟩).src := fun i hi => by
      rw [List.getD_eq_getElem?_getD, List.getElem?_append_left (by omega), List.getD_eq_getElem?_getD]
    have hgn : ((y.raw ++ [(⟨on, f, gHi c c.sales on⟩ : Hold)]).getD n ⟨0, 0, 0⟩).src = f := by
      rw [List.getD_eq_getElem?_getD, List.getElem?_append_right (by omega), l1, Nat.sub_self]; rfl
    refine ⟨⟨hlen, fun i hi => ?_⟩, fun i => if i = n then z.2 else T i, ?_, ?_, by omega, ?_, ?_⟩
    · show (y.raw ++ [(⟨on, f, gHi c c.sales on⟩ : Hold)])[i].who = _ ∧ (y.raw ++ [(⟨on, f, gHi c c.sales on⟩ : Hold)])[i].til = _
      by_cases e : i < y.raw.length
      · rw [List.getElem_append_left e]; exact l2 i e
      · have : i = n := by
          have hi : i < (y.raw ++ [(⟨on, f, gHi c c.sales on⟩ : Hold)]).length := hi
          rw [hlen] at hi; omega
        subst this
        rw [List.getElem_append_right (by omega)]
        simp [hon]
    · have hpos : ∀ q (hq : q < c.marks.length) (i : Nat), i < n → at' o c.marks[q].owner = i → z.1 q = y.years q := fun q hq i hi he => m2 q fun _ e => by rw [e, oat] at he; omega
      have hfT : f ≤ z.2 := by omega
      refine ⟨fun i hi => ?_, fun i hi => ?_, fun i hi => ?_, fun q hq i hi he => ?_, fun q hq i hi he hne => ?_⟩
      · by_cases e : i = n
        · subst e; simp only [hgn, if_true]; exact hfT
        · simp only [hgl i (by omega), if_neg e]; exact hF.le i (by omega)
      · by_cases e : i + 1 = n
        · subst e
          simp only [hgn, if_neg (show ¬ i = i + 1 by omega)]
          rw [hT i rfl]; omega
        · simp only [hgl (i + 1) (by omega), if_neg (show ¬ i = n by omega)]; exact hF.next i (by omega)
      · by_cases e : i = n
        · subst e
          simp only [hgn, if_true, hon]
          omega
        · simp only [hgl i (by omega), if_neg e]; exact hF.own i (by omega)
      · by_cases e : i = n
        · subst e
          have hq1 := m3 q hq hq (by rw [← hon]; exact own_pos ho hn' he)
          simp only [hgn, if_true]
          exact ⟨hq1.1, hq1.2.1, hq1.2.2.1, hq1.2.2.2.1⟩
        · simp only [hgl i (by omega), if_neg e, hpos q hq i (by omega) he]
          exact hF.marks q hq i (by omega) he
      · have hup := hc.upon q hq
        obtain ⟨u, hu⟩ : ∃ u : Nat, c.marks[q].upon = u := ⟨c.marks[q].upon.toNat, by omega⟩
        have hul : u < c.marks.length := by omega
        by_cases e : i = n
        · subst e
          exact (m3 q hq hq (by rw [← hon]; exact own_pos ho hn' he)).2.2.2.2 hne
        · have h1 := hF.upon q hq i (by omega) he hne
          have h2 := layered_pos hl hq hne
          rw [hu, Int.toNat_natCast] at h1 h2 ⊢
          rw [mk_at hul, he] at h2
          obtain ⟨p, hp, hp1, -⟩ := at_mem (hm _ (List.getElem_mem hul))
          show z.1 u ≤ z.1 q
          rw [hpos q hq i (by omega) he, hpos u hul p (by omega) hp1]
          exact h1
    · intro i hi
      show (if i = n then z.2 else T i) = z.2
      rw [if_pos (by omega)]
    · intro i hi
      by_cases e : i + 1 = n
      · subst e
        simp only [hgn, if_neg (show ¬ i = i + 1 by omega)]
        rw [hT i rfl, hf, hon]
      · simp only [hgl (i + 1) (by omega), if_neg (show ¬ i = n by omega)]; exact hS i (by omega)
    · intro _
      by_cases e : 0 = n
      · subst e
        simp only [hgn]
        rw [hf, hon, h0 rfl]
        have := (fMax_ge (fun s => s.dst = (on : Int)) c.sales (max c.printed (owerAt c on).born)).1
        have h2 : bLo c c.sales on = fMax (fun s => s.dst = (on : Int)) c.sales (max c.printed (owerAt c on).born) := rfl
        omega
      · simp only [hgl 0 (by omega)]; exact hS0 (by omega)
end Go.Proofs.Ytiampdiobdianaa

namespace Go.Proofs.Ytiampdiobdianaa
open Go.Avm

theorem rules_parts {c : Case} {o : List Int} (h : rulesB c o = true) : completeB c o = true ∧ besideB c o = true ∧ layeredB c o = true := by
  unfold rulesB at h
  simpa using h
theorem complete_marks {c : Case} {o : List Int} (h : completeB c o = true) : ∀ m ∈ c.marks, m.owner ∈ o := by
  intro m hm
  unfold completeB at h
  rw [Bool.and_eq_true] at h
  have := List.all_eq_true.1 h.1 m hm
  simpa [markIn] using this
/-- Years of a chain: the owners' first years are its own. -/
structure ChainOf (c : Case) (o : List Int) (l : List Hold) (T Y : Nat → Int) : Prop where
  rules : rulesB c o = true
  holds : HoldsOf c o o.length l
  feas : Feas c o (fun i => (l.getD i ⟨0, 0, 0⟩).src) T Y
  tight : ∀ i, i + 1 < o.length → (l.getD (i + 1) ⟨0, 0, 0⟩).src = max (T i) (bLo c c.sales (own o (i + 1)))
  first : 0 < o.length → (l.getD 0 ⟨0, 0, 0⟩).src = bLo c c.sales (own o 0)
theorem solve_chain {c : Case} (hc : c.OK) {o : List Int} (ho : OrdOK c o) {l : List Hold} (h : solveS c o = some l) : ∃ T Y, ChainOf c o l T Y := by
  unfold solveS at h
  by_cases hr : rulesB c o = true
  case neg => rw [if_neg hr] at h; cases h
  rw [if_pos hr, Option.map_eq_some_iff] at h
  obtain ⟨x, hx, rfl⟩ := h
  obtain ⟨h1, h2, h3⟩ := rules_parts hr
  obtain ⟨g1, T, g2, -, -, g3, g4⟩ := run_feas hc ho h3 (complete_marks h1) (Nat.le_refl _) hx
  exact ⟨T, x.years, hr, g1, g2, g3, g4⟩

/-! ## Unknown owners -/
end Go.Proofs.Ytiampdiobdianaa

namespace Go.Proofs.Ytiampdiobdianaa
open Go.Avm

/-! ## The years of a mark -/
end Go.Proofs.Ytiampdiobdianaa

namespace Go.Proofs.Ytiampdiobdianaa
open Go.Avm

end Go.Proofs.Ytiampdiobdianaa

