/- Contracts of the reference: Order, Why, Before. Contracts of the reference: Before. Plain: an order has a chain if there are years for it. Plain: years for an order are found by its chain; unknown owners by the order alone. Contracts of the reference: a mark of a known year; who has the copy in a year. Contracts of the reference: Year, Owned. -/
import Derived.Test.YtiampdiobdianaaZH
namespace Go.Proofs.Ytiampdiobdianaa
open Go.Avm

theorem out_none {lo hi : Int} {l : List Int} (h : ∀ x ∈ l, lo ≤ x ∧ x ≤ hi) : out lo hi l = false := by
  unfold out
  rw [List.any_eq_false]
  intro x hx
  have := h x hx
  simp
  omega

end Go.Proofs.Ytiampdiobdianaa

namespace Go.Proofs.Ytiampdiobdianaa
open Go.Avm

end Go.Proofs.Ytiampdiobdianaa

namespace Go.Proofs.Ytiampdiobdianaa
open Go.Avm

def own (o : List Int) (i : Nat) : Nat := (o.getD i 0).toNat
structure OrdOK (c : Case) (o : List Int) : Prop where
  rng : ∀ x ∈ o, 0 ≤ x ∧ x < (c.owners.length : Int)
  nd : o.Nodup
theorem own_at {c : Case} {o : List Int} (h : OrdOK c o) {i : Nat} (hi : i < o.length) : ((own o i : Nat) : Int) = o[i] ∧ own o i < c.owners.length ∧ at' o (own o i) = i := by
  have h1 := h.rng _ (List.getElem_mem hi)
  have e : ((own o i : Nat) : Int) = o[i] := by
    unfold own
    rw [List.getD_eq_getElem?_getD, List.getElem?_eq_getElem hi, Option.getD_some]
    omega
  refine ⟨e, by omega, ?_⟩
  rw [e]; exact at_nodup h.nd hi
theorem own_pos {c : Case} {o : List Int} (h : OrdOK c o) {x : Int} {i : Nat} (hi : i < o.length) (hx : at' o x = i) : x = own o i := by
  have hm : x ∈ o := Decidable.not_not.1 fun hn => by have := at_neg.2 hn; omega
  obtain ⟨k, hk, h1, h2⟩ := at_mem hm
  obtain rfl : k = i := by omega
  rw [(own_at h hk).1, h2]
theorem orders_ok {c : Case} {o : List Int} (h : o ∈ ordersL c.owners.length) : OrdOK c o := by
  have := ordersL_each h
  exact ⟨this.2.2, this.2.1⟩
theorem mem_orders {c : Case} {o : List Int} (h : OrdOK c o) : o ∈ ordersL c.owners.length := by
  unfold ordersL ordersUp
  rw [List.mem_flatMap]
  refine ⟨o.length, ?_, mem_allO _ _ o rfl h.nd h.rng⟩
  rw [List.mem_range]
  have := nodup_len _ _ h.nd h.rng
  omega

structure FeasTo (c : Case) (o : List Int) (n : Nat) (S T Y : Nat → Int) : Prop where
  le : ∀ i < n, S i ≤ T i
  next : ∀ i, i + 1 < n → T i ≤ S (i + 1)
  own : ∀ i < n, bLo c c.sales (own o i) ≤ S i ∧ S i ≤ bHi c c.sales (own o i) ∧ gLo c c.sales (own o i) ≤ T i ∧ T i ≤ gHi c c.sales (own o i)
  marks : ∀ q (hq : q < c.marks.length) (i : Nat), i < n → at' o c.marks[q].owner = i → S i ≤ Y q ∧ Y q ≤ T i ∧ c.marks[q].lo ≤ Y q ∧ Y q ≤ c.marks[q].hi
  upon : ∀ q (hq : q < c.marks.length) (i : Nat), i < n → at' o c.marks[q].owner = i → c.marks[q].upon ≠ -1 → Y c.marks[q].upon.toNat ≤ Y q
abbrev Feas (c : Case) (o : List Int) (S T Y : Nat → Int) : Prop := FeasTo c o o.length S T Y

theorem marks_run {c : Case} {o : Nat} {f : Int} {Y0 : Nat → Int} {t0 : Int} (hu : ∀ i (h : i < c.marks.length), -1 ≤ c.marks[i].upon ∧ c.marks[i].upon < i) : ∀ {k : Nat} {x : (Nat → Int) × Int}, k ≤ c.marks.length → marksUp c o f Y0 t0 k = some x →
    t0 ≤ x.2 ∧ (∀ q, (∀ hq : q < c.marks.length, c.marks[q].owner ≠ (o : Int)) → x.1 q = Y0 q) ∧
    ∀ q (hq : q < c.marks.length), q < k → c.marks[q].owner = (o : Int) → f ≤ x.1 q ∧ x.1 q ≤ x.2 ∧ c.marks[q].lo ≤ x.1 q ∧ x.1 q ≤ c.marks[q].hi ∧ (c.marks[q].upon ≠ -1 → x.1 c.marks[q].upon.toNat ≤ x.1 q)
  | 0, x, _, h => by
    injection h with h
    subst h
    exact ⟨Int.le_refl _, fun _ _ => rfl, fun q _ hq => by omega⟩
  | k + 1, x, hk, h => by
    have h : (marksUp c o f Y0 t0 k).bind (markStep c o f k) = some x := h
    rw [Option.bind_eq_some_iff] at h
    obtain ⟨y, hy, h⟩ := h
    obtain ⟨i1, i2, i3⟩ := marks_run hu (by omega) hy
    unfold markStep markY at h
    have hk' : k < c.marks.length := hk
    rw [mk_at hk'] at h
    have hup := hu k hk'
    split at h
    · rename_i hne
      injection h with h
      subst h
      refine ⟨i1, i2, fun q hq hqk ho => ?_⟩
      by_cases e : q = k
      · subst e; exact absurd ho hne
      · exact i3 q hq (by omega) ho
    · rename_i hne
      have ho : c.marks[k].owner = (o : Int) := Decidable.not_not.1 hne
      obtain ⟨z, hz⟩ : ∃ z, z = (if c.marks[k].upon = -1 then max c.marks[k].lo f else max (max c.marks[k].lo f) (y.1 c.marks[k].upon.toNat)) := ⟨_, rfl⟩
      rw [← hz] at h
      by_cases hhi : c.marks[k].hi < z
      · rw [if_pos hhi] at h; cases h
      rw [if_neg hhi] at h
      injection h with h
      subst h
      have hzlo : c.marks[k].lo ≤ z ∧ f ≤ z := by rw [hz]; split <;> omega
      have hzu : c.marks[k].upon ≠ -1 → y.1 c.marks[k].upon.toNat ≤ z := fun hn => by rw [hz, if_neg hn]; omega
      have pk : ∀ j, j ≠ k → putY y.1 k z j = y.1 j := fun j hj => by unfold putY; rw [if_neg hj]
      have pkk : putY y.1 k z k = z := by unfold putY; rw [if_pos rfl]
      refine ⟨by show t0 ≤ max y.2 z; omega, fun q hq => ?_, fun q hq hqk hqo => ?_⟩
      · have e : q ≠ k := by rintro rfl; exact hq hk' ho
        show putY y.1 k z q = _
        rw [pk q e]; exact i2 q hq
      · show f ≤ putY y.1 k z q ∧ putY y.1 k z q ≤ max y.2 z ∧ _ ≤ putY y.1 k z q ∧ putY y.1 k z q ≤ _ ∧ (_ → putY y.1 k z _ ≤ putY y.1 k z q)
        by_cases e : q = k
        · subst e
          rw [pkk]
          refine ⟨hzlo.2, by omega, hzlo.1, by omega, fun hn => ?_⟩
          rw [pk _ (by omega)]
          exact hzu hn
        · obtain ⟨j1, j2, j3, j4, j5⟩ := i3 q hq (by omega) hqo
          have hq2 := hu q hq
          rw [pk q e]
          refine ⟨j1, by omega, j3, j4, fun hn => ?_⟩
          rw [pk _ (by omega)]
          exact j5 hn
def HoldsOf (c : Case) (o : List Int) (n : Nat) (l : List Hold) : Prop := l.length = n ∧ ∀ i (h : i < l.length), l[i].who = own o i ∧ l[i].til = gHi c c.sales (own o i)
theorem layered_pos {c : Case} {o : List Int} (hl : layeredB c o = true) {q : Nat} (hq : q < c.marks.length) (hn : c.marks[q].upon ≠ -1) : ¬ at' o c.marks[q].owner < at' o (c.marks.getD c.marks[q].upon.toNat mkD).owner := by
  unfold layeredB at hl
  have := List.all_eq_true.1 hl _ (List.getElem_mem hq)
  unfold under at this
  rw [decide_eq_false hn, Bool.false_or] at this
  simpa using this
theorem run_feas {c : Case} (hc : c.OK) {o : List Int} (ho : OrdOK c o) (hl : layeredB c o = true) (hm : ∀ m ∈ c.marks, m.owner ∈ o) : ∀ {n : Nat} {x : Run}, n ≤ o.length → runUp c o n = some x →
    HoldsOf c o n x.raw ∧ ∃ T, FeasTo c o n (fun i => (x.raw.getD i ⟨0, 0, 0⟩).src) T x.years ∧ (∀ i, i + 1 = n → T i = x.since) ∧ (n = 0 → x.since = c.printed) ∧
      (∀ i, i + 1 < n → (x.raw.getD (i + 1) ⟨0, 0, 0⟩).src = max (T i) (bLo c c.sales (own o (i + 1)))) ∧ (0 < n → (x.raw.getD 0 ⟨0, 0, 0⟩).src = bLo c c.sales (own o 0))
  | 0, x, _, h => by
    injection h with h
    subst h
    refine ⟨⟨rfl, fun i h => by cases h⟩, fun _ => 0, ⟨by omega, by omega, by omega, fun q _ i hi => by omega, fun q _ i hi => by omega⟩, by omega, fun _ => rfl, by omega, by omega⟩
  | n + 1, x, hn, h => by
    have h : (runUp c o n).bind (stepO c (own o n)) = some x := h
    rw [Option.bind_eq_some_iff] at h
    obtain ⟨y, hy, h⟩ := h
    obtain ⟨⟨l1, l2⟩, T, hF, hT, h0, hS, hS0⟩ := run_feas hc ho hl hm (by omega) hy
    unfold stepO at h
    rw [Option.bind_eq_some_iff] at h
    obtain ⟨z, hz, h⟩ := h
    have hn' : n < o.length := hn
    have hsp := runUp_since hy
    obtain ⟨m1, m2, m3⟩ := marks_run hc.upon (Nat.le_refl _) hz
    obtain ⟨oe, olt, oat⟩ := own_at ho hn'
    generalize hon : own o n = on at *
    obtain ⟨f, hf⟩ : ∃ f, f = max y.since (bLo c c.sales on) := ⟨_, rfl⟩
    rw [← hf] at h m1 m3
    split at h
    · cases h
    rename_i hgood
    injection h with h
    subst h
    have hgood : ¬ (bHi c c.sales on < f) ∧ ¬ (gHi c c.sales on < z.2) := by
      constructor
      · exact fun e => hgood (.inl e)
      · exact fun e => hgood (.inr e)
    have hlen : (y.raw ++ [(⟨on, f, gHi c c.sales on⟩ : Hold)]).length = n + 1 := by simp [l1]
    have hgl : ∀ i, i < n → ((y.raw ++ [(⟨on, f, gHi c c.sales on⟩ : Hold)]).getD i ⟨0, 0, 0⟩).src = (y.raw.getD i ⟨0, 0, 0⟩).src := fun i hi => by
      rw [List.getD_eq_getElem?_getD, List.getElem?_append_left (by omega), List.getD_eq_getElem?_getD]
    have hgn : ((y.raw ++ [(⟨on, f, gHi c c.sales on⟩ : Hold)]).getD n ⟨0, 0, 0⟩).src = f := by
      rw [List.getD_eq_getElem?_getD, List.getElem?_append_right (by omega), l1, Nat.sub_self]; rfl
    refine ⟨⟨hlen, fun i hi => ?_⟩, fun i => if i = n then z.2 else T i, ?_, ?_, by omega, ?_, ?_⟩
    · show (y.raw ++ [(⟨on, f, gHi c c.sales on⟩ : Hold)])[i].who = _ ∧ (y.raw ++ [(⟨on, f, gHi c c.sales on⟩ : Hold)])[i].til = _
      by_cases e : i < y.raw.length
      · rw [List.getElem_append_left e]; exact l2 i e
      · have : i = n := by
          have hi : i < (y.raw ++ [(⟨on, f, gHi c c.sales on⟩ : Hold)]).length := hi
          rw [hlen] at hi; omega
        subst this
        rw [List.getElem_append_right (by omega)]
        simp [hon]
    · have hpos : ∀ q (hq : q < c.marks.length) (i : Nat), i < n → at' o c.marks[q].owner = i → z.1 q = y.years q := fun q hq i hi he => m2 q fun _ e => by rw [e, oat] at he; omega
      have hfT : f ≤ z.2 := by omega
      refine ⟨fun i hi => ?_, fun i hi => ?_, fun i hi => ?_, fun q hq i hi he => ?_, fun q hq i hi he hne => ?_⟩
      · by_cases e : i = n
        · subst e; simp only [hgn, if_true]; exact hfT
        · simp only [hgl i (by omega), if_neg e]; exact hF.le i (by omega)
      · by_cases e : i + 1 = n
        · subst e
          simp only [hgn, if_neg (show ¬ i = i + 1 by omega)]
          rw [hT i rfl]; omega
        · simp only [hgl (i + 1) (by omega), if_neg (show ¬ i = n by omega)]; exact hF.next i (by omega)
      · by_cases e : i = n
        · subst e
          simp only [hgn, if_true, hon]
          omega
        · simp only [hgl i (by omega), if_neg e]; exact hF.own i (by omega)
      · by_cases e : i = n
        · subst e
          have hq1 := m3 q hq hq (by rw [← hon]; exact own_pos ho hn' he)
          simp only [hgn, if_true]
          exact ⟨hq1.1, hq1.2.1, hq1.2.2.1, hq1.2.2.2.1⟩
        · simp only [hgl i (by omega), if_neg e, hpos q hq i (by omega) he]
          exact hF.marks q hq i (by omega) he
      · have hup := hc.upon q hq
        obtain ⟨u, hu⟩ : ∃ u : Nat, c.marks[q].upon = u := ⟨c.marks[q].upon.toNat, by omega⟩
        have hul : u < c.marks.length := by omega
        by_cases e : i = n
        · subst e
          exact (m3 q hq hq (by rw [← hon]; exact own_pos ho hn' he)).2.2.2.2 hne
        · have h1 := hF.upon q hq i (by omega) he hne
          have h2 := layered_pos hl hq hne
          rw [hu, Int.toNat_natCast] at h1 h2 ⊢
          rw [mk_at hul, he] at h2
          obtain ⟨p, hp, hp1, -⟩ := at_mem (hm _ (List.getElem_mem hul))
          show z.1 u ≤ z.1 q
          rw [hpos q hq i (by omega) he, hpos u hul p (by omega) hp1]
          exact h1
    · intro i hi
      show (if i = n then z.2 else T i) = z.2
      rw [if_pos (by omega)]
    · intro i hi
      by_cases e : i + 1 = n
      · subst e
        simp only [hgn, if_neg (show ¬ i = i + 1 by omega)]
        rw [hT i rfl, hf, hon]
      · simp only [hgl (i + 1) (by omega), if_neg (show ¬ i = n by omega)]; exact hS i (by omega)
    · intro _
      by_cases e : 0 = n
      · subst e
        simp only [hgn]
        rw [hf, hon, h0 rfl]
        have := (fMax_ge (fun s => s.dst = (on : Int)) c.sales (max c.printed (owerAt c on).born)).1
        have h2 : bLo c c.sales on = fMax (fun s => s.dst = (on : Int)) c.sales (max c.printed (owerAt c on).born) := rfl
        omega
      · simp only [hgl 0 (by omega)]; exact hS0 (by omega)
end Go.Proofs.Ytiampdiobdianaa

namespace Go.Proofs.Ytiampdiobdianaa
open Go.Avm

theorem feas_marks {c : Case} (hc : c.OK) {o : List Int} (ho : OrdOK c o) (hl : layeredB c o = true) (hm : ∀ m ∈ c.marks, m.owner ∈ o) {S T Y : Nat → Int} (hF : Feas c o S T Y) {n : Nat} (hn : n < o.length) {f : Int} (hf : f ≤ S n) {Y0 : Nat → Int}
    (hY : ∀ q (hq : q < c.marks.length), at' o c.marks[q].owner < n → Y0 q ≤ Y q) : ∀ {k : Nat}, k ≤ c.marks.length →
    ∃ y, marksUp c (own o n) f Y0 (max f (gLo c c.sales (own o n))) k = some y ∧ y.2 ≤ T n ∧ ∀ q (hq : q < c.marks.length), (at' o c.marks[q].owner < n ∨ (at' o c.marks[q].owner = n ∧ q < k)) → y.1 q ≤ Y q
  | 0, _ => by
    have h1 := hF.le n hn
    have h2 := hF.own n hn
    exact ⟨_, rfl, by show max f _ ≤ T n; omega, fun q hq h => hY q hq (by omega)⟩
  | k + 1, hk => by
    have hk' : k < c.marks.length := hk
    obtain ⟨y, hy, h1, h2⟩ := feas_marks hc ho hl hm hF hn hf hY (k := k) (by omega)
    have hs : marksUp c (own o n) f Y0 (max f (gLo c c.sales (own o n))) (k + 1) = markStep c (own o n) f k y := by
      show (marksUp c (own o n) f Y0 (max f (gLo c c.sales (own o n))) k).bind _ = _
      rw [hy, Option.bind_some]
    rw [hs]
    unfold markStep markY
    rw [mk_at hk']
    obtain ⟨oe, olt, oat⟩ := own_at ho hn
    have hup := hc.upon k hk'
    by_cases hne : c.marks[k].owner ≠ (own o n : Int)
    · rw [if_pos hne]
      refine ⟨y, rfl, h1, fun q hq h => h2 q hq ?_⟩
      rcases h with h | ⟨h, hqk⟩
      · exact .inl h
      · by_cases e : q = k
        · subst e; exact absurd (own_pos ho hn h) hne
        · exact .inr ⟨h, by omega⟩
    rw [if_neg hne]
    have hoe : c.marks[k].owner = (own o n : Int) := Decidable.not_not.1 hne
    have hpos : at' o c.marks[k].owner = n := by rw [hoe]; exact oat
    obtain ⟨g1, g2, g3, g4⟩ := hF.marks k hk' n hn hpos
    obtain ⟨z, hz⟩ : ∃ z, z = (if c.marks[k].upon = -1 then max c.marks[k].lo f else max (max c.marks[k].lo f) (y.1 c.marks[k].upon.toNat)) := ⟨_, rfl⟩
    rw [← hz]
    have hzY : z ≤ Y k := by
      rw [hz]
      by_cases hn1 : c.marks[k].upon = -1
      · rw [if_pos hn1]; omega
      · rw [if_neg hn1]
        have g5 := hF.upon k hk' n hn hpos hn1
        obtain ⟨u, hu⟩ : ∃ u : Nat, c.marks[k].upon = u := ⟨c.marks[k].upon.toNat, by omega⟩
        have hul : u < c.marks.length := by omega
        have h3 := layered_pos hl hk' hn1
        rw [hu, Int.toNat_natCast] at g5 h3 ⊢
        rw [mk_at hul, hpos] at h3
        have := h2 u hul (by omega)
        omega
    rw [if_neg (by omega)]
    refine ⟨_, rfl, by show max y.2 z ≤ T n; omega, fun q hq h => ?_⟩
    show putY y.1 k z q ≤ Y q
    unfold putY
    by_cases e : q = k
    · rw [if_pos e, e]; exact hzY
    · rw [if_neg e]
      exact h2 q hq (by omega)
theorem feas_run {c : Case} (hc : c.OK) {o : List Int} (ho : OrdOK c o) (hl : layeredB c o = true) (hm : ∀ m ∈ c.marks, m.owner ∈ o) {S T Y : Nat → Int} (hF : Feas c o S T Y) : ∀ {n : Nat}, n ≤ o.length →
    ∃ x, runUp c o n = some x ∧ (n < o.length → x.since ≤ S n) ∧ ∀ q (hq : q < c.marks.length), at' o c.marks[q].owner < n → x.years q ≤ Y q
  | 0, _ => by
    refine ⟨_, rfl, fun h => ?_, fun q hq h => ?_⟩
    · have h1 := (hF.own 0 h).1
      have := (fMax_ge (fun s => s.dst = (own o 0 : Int)) c.sales (max c.printed (owerAt c (own o 0)).born)).1
      have h2 : bLo c c.sales (own o 0) = fMax (fun s => s.dst = (own o 0 : Int)) c.sales (max c.printed (owerAt c (own o 0)).born) := rfl
      show c.printed ≤ S 0
      omega
    · obtain ⟨p, hp, hp1, -⟩ := at_mem (hm _ (List.getElem_mem hq))
      omega
  | n + 1, hn => by
    obtain ⟨x, hx, h1, h2⟩ := feas_run hc ho hl hm hF (n := n) (by omega)
    have hn' : n < o.length := hn
    have hs : runUp c o (n + 1) = stepO c (own o n) x := by
      show (runUp c o n).bind _ = _
      rw [hx, Option.bind_some]; rfl
    have g := hF.own n hn'
    have hfS : max x.since (bLo c c.sales (own o n)) ≤ S n := by have := h1 hn'; omega
    obtain ⟨y, hy, h3, h4⟩ := feas_marks hc ho hl hm hF hn' hfS h2 (Nat.le_refl _)
    rw [hs]
    unfold stepO
    rw [hy, Option.bind_some, if_neg (by omega)]
    refine ⟨_, rfl, fun hlt => ?_, fun q hq h => h4 q hq (by omega)⟩
    have := hF.next n hlt
    show y.2 ≤ S (n + 1)
    omega
theorem rules_parts {c : Case} {o : List Int} (h : rulesB c o = true) : completeB c o = true ∧ besideB c o = true ∧ layeredB c o = true := by
  unfold rulesB at h
  simpa using h
theorem complete_marks {c : Case} {o : List Int} (h : completeB c o = true) : ∀ m ∈ c.marks, m.owner ∈ o := by
  intro m hm
  unfold completeB at h
  rw [Bool.and_eq_true] at h
  have := List.all_eq_true.1 h.1 m hm
  simpa [markIn] using this
theorem feas_solve {c : Case} (hc : c.OK) {o : List Int} (ho : OrdOK c o) (hr : rulesB c o = true) {S T Y : Nat → Int} (hF : Feas c o S T Y) : ∃ l, solveS c o = some l := by
  obtain ⟨h1, h2, h3⟩ := rules_parts hr
  obtain ⟨x, hx, -⟩ := feas_run hc ho h3 (complete_marks h1) hF (Nat.le_refl _)
  unfold solveS
  rw [if_pos hr, hx]
  exact ⟨_, rfl⟩
structure ChainOf (c : Case) (o : List Int) (l : List Hold) (T Y : Nat → Int) : Prop where
  rules : rulesB c o = true
  holds : HoldsOf c o o.length l
  feas : Feas c o (fun i => (l.getD i ⟨0, 0, 0⟩).src) T Y
  tight : ∀ i, i + 1 < o.length → (l.getD (i + 1) ⟨0, 0, 0⟩).src = max (T i) (bLo c c.sales (own o (i + 1)))
  first : 0 < o.length → (l.getD 0 ⟨0, 0, 0⟩).src = bLo c c.sales (own o 0)
theorem solve_chain {c : Case} (hc : c.OK) {o : List Int} (ho : OrdOK c o) {l : List Hold} (h : solveS c o = some l) : ∃ T Y, ChainOf c o l T Y := by
  unfold solveS at h
  by_cases hr : rulesB c o = true
  case neg => rw [if_neg hr] at h; cases h
  rw [if_pos hr, Option.map_eq_some_iff] at h
  obtain ⟨x, hx, rfl⟩ := h
  obtain ⟨h1, h2, h3⟩ := rules_parts hr
  obtain ⟨g1, T, g2, -, -, g3, g4⟩ := run_feas hc ho h3 (complete_marks h1) (Nat.le_refl _) hx
  exact ⟨T, x.years, hr, g1, g2, g3, g4⟩

def gapO (c : Case) (p : Int) : List Int → Int
  | [] => 0
  | x :: o => (if p < bLo c c.sales x.toNat then 1 else 0) + gapO c (gHi c c.sales x.toNat) o
def lastO (c : Case) (p : Int) : List Int → Int
  | [] => p
  | x :: o => lastO c (gHi c c.sales x.toNat) o
def unkO (c : Case) (o : List Int) : Int := if o = [] then 1 else gapO c c.printed o + if lastO c c.printed o < c.now then 1 else 0
theorem gapO_snoc (c : Case) (x : Int) : ∀ (p : Int) (o : List Int), gapO c p (o ++ [x]) = gapO c p o + if lastO c p o < bLo c c.sales x.toNat then 1 else 0
  | p, [] => by simp only [List.nil_append, gapO, lastO]; omega
  | p, y :: o => by
    have := gapO_snoc c x (gHi c c.sales y.toNat) o
    simp only [List.cons_append, gapO, lastO, this]
    omega
theorem lastO_snoc (c : Case) (x : Int) : ∀ (p : Int) (o : List Int), lastO c p (o ++ [x]) = gHi c c.sales x.toNat
  | _, [] => rfl
  | _, y :: o => lastO_snoc c x (gHi c c.sales y.toNat) o
theorem unknown_eq {c : Case} {o : List Int} {l : List Hold} {T Y : Nat → Int} (h : ChainOf c o l T Y) : unknownS c l = unkO c o := by
  have hll := h.holds.1
  have key : ∀ n, n ≤ o.length → gaps c.printed (l.take n) = gapO c c.printed (o.take n) ∧ lastTil c.printed (l.take n) = lastO c c.printed (o.take n) ∧ (∀ k, k + 1 = n → lastO c c.printed (o.take n) = gHi c c.sales (own o k)) := by
    intro n
    induction n with
    | zero => intro _; exact ⟨rfl, rfl, by omega⟩
    | succ n ih =>
      intro hn
      obtain ⟨i1, i2, i3⟩ := ih (by omega)
      have hno : n < o.length := hn
      have hnl : n < l.length := by omega
      have hw := h.holds.2 n hnl
      have hown : own o n = o[n].toNat := by
        unfold own; rw [List.getD_eq_getElem?_getD, List.getElem?_eq_getElem hno, Option.getD_some]
      have hsrc : (l.getD n ⟨0, 0, 0⟩).src = l[n].src := by
        rw [List.getD_eq_getElem?_getD, List.getElem?_eq_getElem hnl, Option.getD_some]
      have hiff : (lastO c c.printed (o.take n) < l[n].src) ↔ (lastO c c.printed (o.take n) < bLo c c.sales (own o n)) := by
        cases n with
        | zero =>
          have := h.first (by omega)
          rw [← hsrc, this]
        | succ k =>
          have h1 := h.tight k (by omega)
          rw [hsrc] at h1
          have h2 := h.feas.own k (by omega)
          rw [i3 k rfl, h1]
          omega
      rw [take_snoc hno, take_snoc hnl, gaps_snoc, gapO_snoc, lastTil_snoc, lastO_snoc, i1, i2, ← hown, hw.2]
      refine ⟨?_, rfl, fun k hk => ?_⟩
      · by_cases hc : lastO c c.printed (o.take n) < l[n].src
        · rw [if_pos hc, if_pos (hiff.1 hc)]
        · rw [if_neg hc, if_neg (fun e => hc (hiff.2 e))]
      · obtain rfl : k = n := by omega
        rfl
  have hk := key o.length (Nat.le_refl _)
  rw [List.take_length, ← hll, List.take_length] at hk
  unfold unknownS unkO
  by_cases e : o = []
  · have : l = [] := by
      rw [e] at hll
      exact List.length_eq_zero_iff.1 hll
    rw [if_pos e, if_pos this]
  · have : l ≠ [] := by
      intro e2
      rw [e2] at hll
      exact e (List.length_eq_zero_iff.1 hll.symm)
    rw [if_neg e, if_neg this, hk.1, hk.2.1]
theorem solve_unknown {c : Case} (hc : c.OK) {o : List Int} (ho : OrdOK c o) {l : List Hold} (h : solveS c o = some l) : unknownS c l = unkO c o := by
  obtain ⟨T, Y, hT⟩ := solve_chain hc ho h
  exact unknown_eq hT
theorem someB_iff {c : Case} : someB c = true ↔ ∃ o, OrdOK c o ∧ ∃ l, solveS c o = some l := by
  unfold someB
  constructor
  · intro h
    cases hc : chainsL c with
    | nil => rw [hc] at h; cases h
    | cons p ps =>
      have := mem_chains (c := c) (p := p) (by rw [hc]; simp)
      exact ⟨p.1, orders_ok this.1, p.2, this.2⟩
  · rintro ⟨o, ho, l, hl⟩
    have hm : (o, l) ∈ chainsL c := by
      unfold chainsL chainsOf
      rw [List.mem_filterMap]
      exact ⟨o, mem_orders ho, by unfold solved; rw [hl]; rfl⟩
    cases hc : chainsL c with
    | nil => rw [hc] at hm; cases hm
    | cons p ps => rfl
theorem someB_feas {c : Case} (hc : c.OK) : someB c = true ↔ ∃ o, OrdOK c o ∧ rulesB c o = true ∧ ∃ S T Y, Feas c o S T Y := by
  rw [someB_iff]
  constructor
  · rintro ⟨o, ho, l, hl⟩
    obtain ⟨T, Y, h⟩ := solve_chain hc ho hl
    exact ⟨o, ho, h.rules, _, T, Y, h.feas⟩
  · rintro ⟨o, ho, hr, S, T, Y, h⟩
    exact ⟨o, ho, feas_solve hc ho hr h⟩
end Go.Proofs.Ytiampdiobdianaa

namespace Go.Proofs.Ytiampdiobdianaa
open Go.Avm

theorem in_feas {c : Case} {i : Nat} (hi : i < c.marks.length) {o : List Int} (hr : rulesB c o = true) {S T Y : Nat → Int} (hF : Feas c o S T Y) {y : Int} (hy : y = Y i) : rulesB (inC c i y) o = true ∧ Feas (inC c i y) o S T Y := by
  have hlen : (inC c i y).marks.length = c.marks.length := by simp [inC]
  have hown : ∀ q (hq : q < c.marks.length), ((inC c i y).marks[q]'(by omega)).owner = c.marks[q].owner ∧ ((inC c i y).marks[q]'(by omega)).upon = c.marks[q].upon := by
    intro q hq
    show ((c.marks.set i (setYear (c.marks.getD i mkD) y))[q]'(by simpa using hq)).owner = _ ∧ ((c.marks.set i (setYear (c.marks.getD i mkD) y))[q]'(by simpa using hq)).upon = _
    rw [List.getElem_set]
    by_cases e : i = q
    · subst e; rw [if_pos rfl, mk_at hi]; exact ⟨rfl, rfl⟩
    · rw [if_neg e]; exact ⟨rfl, rfl⟩
  obtain ⟨h1, h2, h3⟩ := rules_parts hr
  have hm := complete_marks h1
  refine ⟨?_, ?_⟩
  · have g1 : completeB (inC c i y) o = true := by
      unfold completeB at h1 ⊢
      rw [Bool.and_eq_true] at h1 ⊢
      refine ⟨?_, h1.2⟩
      rw [List.all_eq_true]
      intro m hmm
      obtain ⟨q, hq, rfl⟩ := List.getElem_of_mem hmm
      have := hm _ (List.getElem_mem (show q < c.marks.length by omega))
      unfold markIn
      rw [(hown q (by omega)).1]
      simpa using this
    have g3 : layeredB (inC c i y) o = true := by
      unfold layeredB
      rw [List.all_eq_true]
      intro m hmm
      obtain ⟨q, hq, rfl⟩ := List.getElem_of_mem hmm
      have hq' : q < c.marks.length := by omega
      unfold under
      rw [(hown q hq').1, (hown q hq').2]
      by_cases hn : c.marks[q].upon = -1
      · rw [decide_eq_true hn]; rfl
      · have := layered_pos h3 hq' hn
        by_cases hu : c.marks[q].upon.toNat < c.marks.length
        · rw [mk_at hu] at this
          rw [mk_at (by omega), (hown _ hu).1, decide_eq_false this]
          simp
        · rw [List.getD_eq_getElem?_getD, List.getElem?_eq_none (by omega)] at this ⊢
          rw [decide_eq_false this]; simp
    unfold rulesB
    rw [g1, g3]
    have : besideB (inC c i y) o = besideB c o := rfl
    rw [this, h2]; rfl
  · refine ⟨hF.le, hF.next, hF.own, fun q hq p hp he => ?_, fun q hq p hp he hne => ?_⟩
    · have hq' : q < c.marks.length := by omega
      rw [(hown q hq').1] at he
      have g := hF.marks q hq' p hp he
      refine ⟨g.1, g.2.1, ?_⟩
      show ((c.marks.set i (setYear (c.marks.getD i mkD) y))[q]'(by simpa using hq')).lo ≤ _ ∧ _ ≤ ((c.marks.set i (setYear (c.marks.getD i mkD) y))[q]'(by simpa using hq')).hi
      rw [List.getElem_set]
      by_cases e : i = q
      · subst e
        rw [if_pos rfl]
        show y ≤ Y i ∧ Y i ≤ y
        omega
      · rw [if_neg e]; exact g.2.2
    · have hq' : q < c.marks.length := by omega
      rw [(hown q hq').1] at he
      rw [(hown q hq').2] at hne ⊢
      exact hF.upon q hq' p hp he hne
theorem year_some {c : Case} (hc : c.OK) (hs : someB c = true) {i : Nat} (hi : i < c.marks.length) : ∃ y, c.marks[i].lo ≤ y ∧ y ≤ c.marks[i].hi ∧ madeP c i y = true := by
  obtain ⟨o, ho, hr, S, T, Y, hF⟩ := (someB_feas hc).1 hs
  obtain ⟨h1, -, -⟩ := rules_parts hr
  obtain ⟨p, hp, hp1, -⟩ := at_mem (complete_marks h1 _ (List.getElem_mem hi))
  have g := hF.marks i hi p hp hp1
  have hm := hc.marks _ (List.getElem_mem hi)
  refine ⟨Y i, g.2.2.1, g.2.2.2, ?_⟩
  obtain ⟨f1, f2⟩ := in_feas hi hr hF (y := Y i) rfl
  exact (someB_feas (inC_ok hc (by omega))).2 ⟨o, ⟨ho.rng, ho.nd⟩, f1, S, T, Y, f2⟩
theorem upTo_spec (p : Int → Bool) : ∀ (n : Nat) (lo y : Int), lo ≤ y → y ≤ lo + n → p y = true → p (upTo p lo n) = true ∧ upTo p lo n ≤ y ∧ ∀ z, lo ≤ z → z < upTo p lo n → p z = false
  | 0, lo, y, h1, h2, hp => by
    obtain rfl : y = lo := by omega
    exact ⟨hp, Int.le_refl _, fun z h1 h2 => by simp only [upTo] at h2; omega⟩
  | n + 1, lo, y, h1, h2, hp => by
    unfold upTo
    by_cases hl : p lo = true
    · rw [if_pos hl]; exact ⟨hl, h1, fun z h1 h2 => by omega⟩
    · rw [if_neg hl]
      have hne : y ≠ lo := by rintro rfl; exact hl hp
      obtain ⟨g1, g2, g3⟩ := upTo_spec p n (lo + 1) y (by omega) (by omega) hp
      refine ⟨g1, g2, fun z h1 h2 => ?_⟩
      by_cases e : z = lo
      · rw [e]; simpa using hl
      · exact g3 z (by omega) h2
theorem dnTo_spec (p : Int → Bool) : ∀ (n : Nat) (hi y : Int), y ≤ hi → hi - n ≤ y → p y = true → p (dnTo p hi n) = true ∧ y ≤ dnTo p hi n ∧ ∀ z, z ≤ hi → dnTo p hi n < z → p z = false
  | 0, hi, y, h1, h2, hp => by
    obtain rfl : y = hi := by omega
    exact ⟨hp, Int.le_refl _, fun z h1 h2 => by simp only [dnTo] at h2; omega⟩
  | n + 1, hi, y, h1, h2, hp => by
    unfold dnTo
    by_cases hl : p hi = true
    · rw [if_pos hl]; exact ⟨hl, h1, fun z h1 h2 => by omega⟩
    · rw [if_neg hl]
      have hne : y ≠ hi := by rintro rfl; exact hl hp
      obtain ⟨g1, g2, g3⟩ := dnTo_spec p n (hi - 1) y (by omega) (by omega) hp
      refine ⟨g1, g2, fun z h1 h2 => ?_⟩
      by_cases e : z = hi
      · rw [e]; simpa using hl
      · exact g3 z (by omega) h2
theorem dnTo_stop (p : Int → Bool) (d : Nat) : ∀ (n : Nat) (hi : Int), p (hi - n) = true → dnTo p hi (n + d) = dnTo p hi n
  | 0, hi, h => by
    have h : p hi = true := by simpa using h
    cases d with
    | zero => rfl
    | succ d => show (if p hi = true then hi else _) = hi; rw [if_pos h]
  | n + 1, hi, h => by
    rw [show n + 1 + d = (n + d) + 1 by omega]
    unfold dnTo
    rw [dnTo_stop p d n (hi - 1) (by rw [show hi - 1 - (n : Int) = hi - ((n + 1 : Nat) : Int) by omega]; exact h)]
theorem yearHi_eq {c : Case} (hc : c.OK) (hs : someB c = true) {i : Nat} (hi : i < c.marks.length) : yearHiP c i = dnTo (madeP c i) c.marks[i].hi (c.marks[i].hi - c.marks[i].lo).toNat := by
  obtain ⟨y, h1, h2, h3⟩ := year_some hc hs hi
  unfold yearHiP
  rw [mk_at hi]
  have hL : yearLoP c i = upTo (madeP c i) c.marks[i].lo (c.marks[i].hi - c.marks[i].lo).toNat := by unfold yearLoP; rw [mk_at hi]
  obtain ⟨g1, g2, g3⟩ := upTo_spec (madeP c i) (c.marks[i].hi - c.marks[i].lo).toNat c.marks[i].lo y h1 (by omega) h3
  rw [← hL] at g1 g2
  have hin := upTo_in (madeP c i) (c.marks[i].hi - c.marks[i].lo).toNat c.marks[i].lo
  rw [← hL] at hin
  have := dnTo_stop (madeP c i) ((yearLoP c i - c.marks[i].lo).toNat) ((c.marks[i].hi - yearLoP c i).toNat) c.marks[i].hi (by rw [show c.marks[i].hi - (((c.marks[i].hi - yearLoP c i).toNat : Nat) : Int) = yearLoP c i by omega]; exact g1)
  rw [← this]
  congr 1
  omega
end Go.Proofs.Ytiampdiobdianaa

namespace Go.Proofs.Ytiampdiobdianaa
open Go.Avm

end Go.Proofs.Ytiampdiobdianaa
