/- Contracts: whether an order has all owners that it has to have: the reference's. Plain: the reference's way to the chain of an order goes beside the program's. Contracts: the chain of an order: the reference's. -/
import Derived.Test.YtiampdiobdianaaZG
import Derived.Test.YtiampdiobdianaaZD
namespace Go.Proofs.Ytiampdiobdianaa
open Go.Avm

theorem at_mem {o : List Int} {x : Int} (h : x ∈ o) : ∃ k : Nat, ∃ hk : k < o.length, at' o x = k ∧ o[k] = x := by
  unfold at'
  cases hq : o.idxOf? x with
  | some i =>
    rw [List.idxOf?_eq_some_iff] at hq
    obtain ⟨h1, h2, h3⟩ := hq
    exact ⟨i, h1, rfl, by simpa using h2⟩
  | none =>
    rw [List.idxOf?_eq_none_iff] at hq
    exact absurd h hq
theorem at_neg {o : List Int} {x : Int} : at' o x < 0 ↔ x ∉ o := by
  constructor
  · intro h hx
    obtain ⟨k, -, h2, -⟩ := at_mem hx
    omega
  · intro hx
    unfold at'
    rw [List.idxOf?_eq_none_iff.2 hx]
    decide
/-- What a sale asks of an order, but for the owners of marks. -/
def saleOK (order : List Int) (s : Sale) : Bool := saleIn order s && nextTo order s
def needB (c : Case) (order : List Int) : Bool := c.marks.all (markIn order) && c.sales.all (saleOK order)
theorem needB_eq (c : Case) (order : List Int) : needB c order = (completeB c order && besideB c order) := by
  unfold needB completeB besideB saleOK
  have : ∀ l : List Sale, l.all (fun s => saleIn order s && nextTo order s) = (l.all (saleIn order) && l.all (nextTo order)) := by
    intro l
    induction l with
    | nil => rfl
    | cons a l ih =>
      rw [List.all_cons, List.all_cons, List.all_cons, ih]
      cases saleIn order a <;> cases nextTo order a <;> cases l.all (saleIn order) <;> rfl
  rw [this, Bool.and_assoc]

theorem needed91_ok (c : Case) (order : List Int) (h : c.OK) (ho : order.length ≤ 100) : PCall Try.prog 91 [encCase c, IL order] (B (needB c order)) := by
  refine pcall Try.func91 tr91 rs91 fn91 (by simp [Try.ntmps91]) fun hfit => ?_
  have hm9 := h.marksLen
  have hs4 := h.salesLen
  obtain ⟨R, hR⟩ : ∃ R, R = needB c order := ⟨_, rfl⟩
  rw [← hR]
  unfold needB at hR
  simp -implicitDefEqProofs only [m91]
  refine cutS (fun st => st.env 1 = IL order ∧ st.env 2 = caseRef c) ?_ ?_
  · intro k hk
    simp -implicitDefEqProofs
    exact hk _ (by simp)
  rintro s ⟨e1, e2⟩
  refine cutS (fun st => st.env 1 = IL order ∧ st.env 2 = caseRef c ∧ c.marks.all (markIn order) = true) ?_ ?_
  · intro k0 hk0
    simp -implicitDefEqProofs
    refine loop_up c.marks.length (fun k s => s.env 1 = IL order ∧ s.env 2 = caseRef c ∧ s.env 5 = I k ∧ ∀ m ∈ c.marks.take k, markIn order m = true) ?_ ?_
    · simp [e1, e2]
    rintro k s hk ⟨e1, e2, e5, hall⟩
    simp -implicitDefEqProofs [e2, e5]
    refine cond_dec (fun hlt => ?_) (fun hge => ?_)
    · have hlt : k < c.marks.length := by omega
      have hta := take_all hlt hall
      have hno := all_no (p := markIn order) hlt
      have hq : markIn order c.marks[k] = decide (c.marks[k].owner ∈ order) := rfl
      generalize hm : c.marks[k] = m at *
      simp -implicitDefEqProofs [e1, e2, e5, hlt, hm]
      refine vCall_of (at_ok order m.owner) ?_
      simp -implicitDefEqProofs
      refine cond_dec (fun hn => ?_) (fun hn => ?_)
      · rw [hno (by rw [hq, decide_eq_false (at_neg.1 hn)]), Bool.false_and] at hR
        simp -implicitDefEqProofs [r91, hR]
      · have hin : m.owner ∈ order := Decidable.not_not.1 fun h => hn (at_neg.2 h)
        simp -implicitDefEqProofs [e5]
        exact ⟨i64 (by omega) (by omega), round_ok hlt ⟨by simp [e1], by simp [e2], by simp, hta (by rw [hq, decide_eq_true hin])⟩⟩
    · obtain rfl : k = c.marks.length := by omega
      simp -implicitDefEqProofs
      exact hk0 _ ⟨by simp [e1], by simp [e2], all_yes hall⟩
  rintro s ⟨e1, e2, hM⟩
  rw [hM, Bool.true_and] at hR
  refine cutS (fun st => c.sales.all (saleOK order) = true) ?_ ?_
  · intro k0 hk0
    simp -implicitDefEqProofs
    refine loop_up c.sales.length (fun k s => s.env 1 = IL order ∧ s.env 2 = caseRef c ∧ s.env 6 = I k ∧ ∀ x ∈ c.sales.take k, saleOK order x = true) ?_ ?_
    · simp [e1, e2]
    rintro k s hk ⟨e1, e2, e6, hall⟩
    simp -implicitDefEqProofs [e2, e6]
    refine cond_dec (fun hlt => ?_) (fun hge => ?_)
    · have hlt : k < c.sales.length := by omega
      have hta := take_all hlt hall
      have hno := all_no (p := saleOK order) hlt
      generalize hx : c.sales[k] = x at *
      have hq : saleOK order x = (((decide (x.src = -1) || decide (x.src ∈ order)) && (decide (x.dst = -1) || decide (x.dst ∈ order))) && (decide (x.src = -1) || (decide (x.dst = -1) || decide (at' order x.dst = at' order x.src + 1)))) := rfl
      have hbad : saleOK order x = false → R = false := fun e => by rw [hR, hno e]
      refine stepB ?_
      refine cutS (fun st => st.env 1 = IL order ∧ st.env 2 = caseRef c ∧ st.env 6 = I k ∧ st.env 7 = .ref [I x.year, I x.src, I x.dst]) ?_ ?_
      · intro k1 hk1
        simp -implicitDefEqProofs [e2, e6, hlt, hx]
        intro b hb
        exact hk1 _ (by simp [e1, e2, e6])
      rintro s ⟨e1, e2, e6, e7⟩
      have l1 := at_len order x.src
      have l2 := at_len order x.dst
      have hinS : ¬ at' order x.src < 0 → x.src ∈ order := fun hn => Decidable.not_not.1 fun h => hn (at_neg.2 h)
      have hinD : ¬ at' order x.dst < 0 → x.dst ∈ order := fun hn => Decidable.not_not.1 fun h => hn (at_neg.2 h)
      refine cutS (fun st => st.env 1 = IL order ∧ st.env 2 = caseRef c ∧ st.env 6 = I k ∧ st.env 7 = .ref [I x.year, I x.src, I x.dst] ∧ (x.src = -1 ∨ x.src ∈ order) ∧ (x.dst = -1 ∨ x.dst ∈ order)) ?_ ?_
      · intro k1 hk1
        by_cases h0 : x.src = -1
        · have h0' : (x.src != -1) = false := by simp [h0]
          by_cases h1 : x.dst = -1
          · have h1' : (x.dst != -1) = false := by simp [h1]
            simp -implicitDefEqProofs [e7, h0', h1']
            exact hk1 _ (by simp [e1, e2, e6, e7, h0, h1])
          · have h1' : (x.dst != -1) = true := by simp [h1]
            simp -implicitDefEqProofs [e1, e7, h0', h1']
            refine vCall_of (at_ok order x.dst) ?_
            by_cases hn : at' order x.dst < 0
            · have hR0 := hbad (by rw [hq, decide_eq_false h1, decide_eq_false (at_neg.1 hn)]; simp)
              simp -implicitDefEqProofs [hn, r91, hR0]
            · simp -implicitDefEqProofs [hn]
              exact hk1 _ (by simp [e1, e2, e6, e7, h0, hinD hn])
        · have h0' : (x.src != -1) = true := by simp [h0]
          simp -implicitDefEqProofs [e1, e7, h0']
          refine vCall_of (at_ok order x.src) ?_
          by_cases hn : at' order x.src < 0
          · have hR0 := hbad (by rw [hq, decide_eq_false h0, decide_eq_false (at_neg.1 hn)]; simp)
            simp -implicitDefEqProofs [hn, r91, hR0]
          · by_cases h1 : x.dst = -1
            · have h1' : (x.dst != -1) = false := by simp [h1]
              simp -implicitDefEqProofs [e7, hn, h1']
              exact hk1 _ (by simp [e1, e2, e6, e7, h1, hinS hn])
            · have h1' : (x.dst != -1) = true := by simp [h1]
              simp -implicitDefEqProofs [e1, e7, hn, h1']
              refine vCall_of (at_ok order x.dst) ?_
              by_cases hn2 : at' order x.dst < 0
              · have hR0 := hbad (by rw [hq, decide_eq_false h1, decide_eq_false (at_neg.1 hn2)]; simp)
                simp -implicitDefEqProofs [hn2, r91, hR0]
              · simp -implicitDefEqProofs [hn2]
                exact hk1 _ (by simp [e1, e2, e6, e7, hinS hn, hinD hn2])
      rintro s ⟨e1, e2, e6, e7, hsrc, hdst⟩
      have hq2 : saleOK order x = (decide (x.src = -1) || (decide (x.dst = -1) || decide (at' order x.dst = at' order x.src + 1))) := by
        rw [hq]
        have a1 : (decide (x.src = -1) || decide (x.src ∈ order)) = true := by simpa using hsrc
        have a2 : (decide (x.dst = -1) || decide (x.dst ∈ order)) = true := by simpa using hdst
        rw [a1, a2]; rfl
      by_cases h0 : x.src = -1
      · have h0' : (x.src != -1) = false := by simp [h0]
        simp -implicitDefEqProofs [e7, h0', e6]
        exact ⟨i64 (by omega) (by omega), round_ok hlt ⟨by simp [e1], by simp [e2], by simp, hta (by simp [hq2, h0])⟩⟩
      have h0' : (x.src != -1) = true := by simp [h0]
      by_cases h1 : x.dst = -1
      · have h1' : (x.dst != -1) = false := by simp [h1]
        simp -implicitDefEqProofs [e7, h0', h1', e6]
        exact ⟨i64 (by omega) (by omega), round_ok hlt ⟨by simp [e1], by simp [e2], by simp, hta (by simp [hq2, h1])⟩⟩
      have h1' : (x.dst != -1) = true := by simp [h1]
      simp -implicitDefEqProofs [e1, e7, h0', h1']
      refine vCall_of (at_ok order x.dst) ?_
      simp -implicitDefEqProofs [e1, e7]
      refine vCall_of (at_ok order x.src) ?_
      simp -implicitDefEqProofs
      refine ⟨i64 (by omega) (by omega), cond_bool (fun he => ?_) (fun he => ?_)⟩
      · have he : at' order x.dst ≠ at' order x.src + 1 := by simpa using he
        have hR0 := hbad (by rw [hq2]; simp [h0, h1, he])
        simp -implicitDefEqProofs [r91, hR0]
      · have he : at' order x.dst = at' order x.src + 1 := by simpa using he
        simp -implicitDefEqProofs [e6]
        exact ⟨i64 (by omega) (by omega), round_ok hlt ⟨by simp [e1], by simp [e2], by simp, hta (by simp [hq2, he])⟩⟩
    · obtain rfl : k = c.sales.length := by omega
      simp -implicitDefEqProofs
      exact hk0 _ (all_yes hall)
  intro s hS
  rw [hS] at hR
  simp -implicitDefEqProofs [r91, hR]
end Go.Proofs.Ytiampdiobdianaa

namespace Go.Proofs.Ytiampdiobdianaa
open Go.Avm

theorem at_nodup {o : List Int} (h : o.Nodup) {i : Nat} (hi : i < o.length) : at' o o[i] = i := by
  obtain ⟨k, hk, h1, h2⟩ := at_mem (List.getElem_mem hi)
  rw [h1]
  have := (List.getElem_inj h (h₀ := hk) (h₁ := hi)).1 h2
  omega
abbrev fMax (q : Sale → Prop) [DecidablePred q] (l : List Sale) (a : Int) : Int := l.foldl (fun a s => if q s then max a s.year else a) a
abbrev fMin (q : Sale → Prop) [DecidablePred q] (l : List Sale) (a : Int) : Int := l.foldl (fun a s => if q s then min a s.year else a) a
theorem fMax_max (q : Sale → Prop) [DecidablePred q] : ∀ (l : List Sale) (a b : Int), fMax q l (max a b) = max a (fMax q l b)
  | [], a, b => rfl
  | s :: l, a, b => by
    show fMax q l (if q s then max (max a b) s.year else max a b) = max a (fMax q l (if q s then max b s.year else b))
    by_cases h : q s
    · rw [if_pos h, if_pos h, Int.max_assoc, fMax_max q l]
    · rw [if_neg h, if_neg h, fMax_max q l]
theorem fMax_ge (q : Sale → Prop) [DecidablePred q] : ∀ (l : List Sale) (a : Int), a ≤ fMax q l a ∧ ∀ s ∈ l, q s → s.year ≤ fMax q l a
  | [], a => ⟨Int.le_refl _, by simp⟩
  | s :: l, a => by
    have ih := fMax_ge q l (if q s then max a s.year else a)
    show a ≤ fMax q l (if q s then max a s.year else a) ∧ _
    refine ⟨Int.le_trans ?_ ih.1, fun x hx hq => ?_⟩
    · split <;> omega
    · rcases List.mem_cons.1 hx with rfl | hx
      · rw [if_pos hq] at ih
        have h1 := ih.1
        show x.year ≤ fMax q l (if q x then max a x.year else a)
        rw [if_pos hq]; omega
      · exact ih.2 x hx hq
theorem fMin_le (q : Sale → Prop) [DecidablePred q] : ∀ (l : List Sale) (a : Int), fMin q l a ≤ a ∧ ∀ s ∈ l, q s → fMin q l a ≤ s.year
  | [], a => ⟨Int.le_refl _, by simp⟩
  | s :: l, a => by
    have ih := fMin_le q l (if q s then min a s.year else a)
    show fMin q l (if q s then min a s.year else a) ≤ a ∧ _
    refine ⟨Int.le_trans ih.1 ?_, fun x hx hq => ?_⟩
    · split <;> omega
    · rcases List.mem_cons.1 hx with rfl | hx
      · rw [if_pos hq] at ih
        have h1 := ih.1
        show fMin q l (if q x then min a x.year else a) ≤ x.year
        rw [if_pos hq]; omega
      · exact ih.2 x hx hq
theorem fMin_ge (q : Sale → Prop) [DecidablePred q] {f : Int} : ∀ (l : List Sale) (a : Int), f ≤ a → (∀ s ∈ l, q s → f ≤ s.year) → f ≤ fMin q l a
  | [], a, h, _ => h
  | s :: l, a, h, hs => by
    refine fMin_ge q l _ ?_ (fun x hx => hs x (by simp [hx]))
    show f ≤ if q s then min a s.year else a
    split
    · rename_i hq; have := hs s (by simp) hq; omega
    · exact h

/-! ## Runs -/
theorem marksUp_shift (c : Case) (o : Nat) (f : Int) (Y : Nat → Int) (t g : Int) : ∀ k, marksUp c o f Y (max t g) k = (marksUp c o f Y t k).map fun x => (x.1, max x.2 g)
  | 0 => rfl
  | k + 1 => by
    show (marksUp c o f Y (max t g) k).bind _ = ((marksUp c o f Y t k).bind _).map _
    rw [marksUp_shift c o f Y t g k]
    cases marksUp c o f Y t k with
    | none => rfl
    | some x =>
      simp only [Option.map_some, Option.bind_some]
      unfold markStep
      split
      · rfl
      · simp only
        split
        · rfl
        · simp only [Option.map_some, Option.some.injEq, Prod.mk.injEq, true_and]
          omega
theorem marksUp_ge {c : Case} {o : Nat} {f : Int} {Y : Nat → Int} {t : Int} : ∀ {k : Nat} {x : (Nat → Int) × Int}, marksUp c o f Y t k = some x → t ≤ x.2
  | 0, x, h => by injection h with h; rw [← h]; exact Int.le_refl _
  | k + 1, x, h => by
    have h : (marksUp c o f Y t k).bind (markStep c o f k) = some x := h
    rw [Option.bind_eq_some_iff] at h
    obtain ⟨y, hy, h⟩ := h
    have ih := marksUp_ge hy
    unfold markStep at h
    split at h
    · injection h with h; rw [← h]; exact ih
    · split at h
      · cases h
      · injection h with h; rw [← h]; show t ≤ max _ _; omega
theorem runUp_since {c : Case} {order : List Int} : ∀ {i : Nat} {x : Run}, runUp c order i = some x → c.printed ≤ x.since
  | 0, x, h => by injection h with h; rw [← h]; exact Int.le_refl _
  | i + 1, x, h => by
    have h : (runUp c order i).bind (stepO c (order.getD i 0).toNat) = some x := h
    rw [Option.bind_eq_some_iff] at h
    obtain ⟨y, hy, h⟩ := h
    have ih := runUp_since hy
    unfold stepO at h
    rw [Option.bind_eq_some_iff] at h
    obtain ⟨z, hz, h⟩ := h
    have := marksUp_ge hz
    split at h
    · cases h
    · injection h with h; rw [← h]; show c.printed ≤ z.2; omega

/-- Whether all marks of the owners of an order below i, and of that at i below k, lie upon none of a later owner. -/
def UnderTo (c : Case) (order : List Int) (i k : Nat) : Prop := ∀ q (hq : q < c.marks.length), (at' order c.marks[q].owner < i ∨ (at' order c.marks[q].owner = i ∧ q < k)) → under c order c.marks[q] = true
theorem under_zero {c : Case} {order : List Int} (h : ∀ m ∈ c.marks, m.owner ∈ order) : UnderTo c order 0 0 := by
  intro q hq hlt
  have := at_neg (o := order) (x := c.marks[q].owner)
  rcases hlt with hlt | ⟨_, hlt⟩
  · exact absurd (h _ (List.getElem_mem hq)) (this.1 hlt)
  · omega
theorem under_skip {c : Case} {order : List Int} {i k : Nat} (h : UnderTo c order i k) (hk : ∀ hk : k < c.marks.length, at' order c.marks[k].owner ≠ i) : UnderTo c order i (k + 1) := by
  intro q hq hlt
  rcases hlt with hlt | ⟨h1, hlt⟩
  · exact h q hq (.inl hlt)
  · by_cases e : q = k
    · subst e; exact absurd h1 (hk hq)
    · exact h q hq (.inr ⟨h1, by omega⟩)
theorem under_next {c : Case} {order : List Int} {i k : Nat} (h : UnderTo c order i k) (hk : ∀ hk : k < c.marks.length, under c order c.marks[k] = true) : UnderTo c order i (k + 1) := by
  intro q hq hlt
  rcases hlt with hlt | ⟨h1, hlt⟩
  · exact h q hq (.inl hlt)
  · by_cases e : q = k
    · subst e; exact hk hq
    · exact h q hq (.inr ⟨h1, by omega⟩)
theorem under_round {c : Case} {order : List Int} {i : Nat} (h : UnderTo c order i c.marks.length) : UnderTo c order (i + 1) 0 := by
  intro q hq hlt
  rcases hlt with hlt | ⟨_, hlt⟩
  · by_cases e : at' order c.marks[q].owner = i
    · exact h q hq (.inr ⟨e, hq⟩)
    · exact h q hq (.inl (by omega))
  · omega
theorem under_all {c : Case} {order : List Int} (h : UnderTo c order order.length 0) : layeredB c order = true := by
  unfold layeredB
  rw [List.all_eq_true]
  intro m hm
  obtain ⟨q, hq, rfl⟩ := List.getElem_of_mem hm
  exact h q hq (.inl (at_len _ _).2)
theorem under_bad {c : Case} {order : List Int} {m : Mk} (hm : m ∈ c.marks) (h : under c order m = false) : solveS c order = none := by
  have : layeredB c order = false := by
    unfold layeredB
    rw [List.all_eq_false]
    exact ⟨m, hm, by simp [h]⟩
  unfold solveS rulesB
  rw [this]; simp
theorem solve_need {c : Case} {order : List Int} (h : needB c order = false) : solveS c order = none := by
  have e : rulesB c order = false := by
    unfold rulesB
    rw [← Bool.and_assoc, ← needB_eq, h]; rfl
  unfold solveS
  rw [e]; rfl
theorem solve_run {c : Case} {order : List Int} (h : needB c order = true) (hl : layeredB c order = true) : solveS c order = (runUp c order order.length).map Run.raw := by
  have e : rulesB c order = true := by
    unfold rulesB
    rw [← Bool.and_assoc, ← needB_eq, h, hl]; rfl
  unfold solveS
  rw [e]; rfl
theorem need_marks {c : Case} {order : List Int} (h : needB c order = true) : ∀ m ∈ c.marks, m.owner ∈ order := by
  intro m hm
  unfold needB at h
  rw [Bool.and_eq_true] at h
  have := List.all_eq_true.1 h.1 m hm
  simpa [markIn] using this

/-- The first year of an owner. -/
theorem from_eq {c : Case} {o : Nat} {since : Int} (h : c.printed ≤ since) : fMax (fun s => s.dst = (o : Int)) c.sales (max since (owerAt c o).born) = max since (bLo c c.sales o) := by
  rw [show max since (owerAt c o).born = max since (max c.printed (owerAt c o).born) by omega, fMax_max]
  rfl
theorem born_from {c : Case} {o : Nat} {since : Int} : (owerAt c o).born ≤ max since (bLo c c.sales o) := by
  have := (fMax_ge (fun s => s.dst = (o : Int)) c.sales (max c.printed (owerAt c o).born)).1
  have h : bLo c c.sales o = fMax (fun s => s.dst = (o : Int)) c.sales (max c.printed (owerAt c o).born) := rfl
  omega
theorem to_eq {c : Case} {o : Nat} {t : Int} (h : (owerAt c o).born ≤ t) : fMax (fun s => s.src = (o : Int)) c.sales t = max t (gLo c c.sales o) := by
  rw [show t = max t (owerAt c o).born by omega, fMax_max, show max t (owerAt c o).born = t by omega]
  rfl
/-- The reference's tests of an owner's years are the program's. -/
theorem step_test {c : Case} {o : Nat} {f t : Int} (hf : f ≤ t) (hs : ∀ s ∈ c.sales, s.dst = (o : Int) → s.year = f) :
    (bHi c c.sales o < f ∨ gHi c c.sales o < t) ↔ gHi c c.sales o < t := by
  constructor
  · rintro (h | h)
    · have h1 := (fMin_le (fun s => s.src = (o : Int)) c.sales (min (owerAt c o).died c.now)).1
      have e1 : gHi c c.sales o = fMin (fun s => s.src = (o : Int)) c.sales (min (owerAt c o).died c.now) := rfl
      by_cases hn : f ≤ c.now
      · have := fMin_ge (fun s => s.dst = (o : Int)) c.sales c.now hn (fun s h1 h2 => by rw [hs s h1 h2]; exact Int.le_refl _)
        have e2 : bHi c c.sales o = fMin (fun s => s.dst = (o : Int)) c.sales c.now := rfl
        omega
      · omega
    · exact h
  · exact .inr
theorem step_bad {c : Case} {o : Nat} {since : Int} (hp : c.printed ≤ since) {s : Sale} (hm : s ∈ c.sales) (hd : s.dst = (o : Int)) (hne : max since (bLo c c.sales o) ≠ s.year) : bHi c c.sales o < max since (bLo c c.sales o) := by
  have h1 := (fMax_ge (fun s => s.dst = (o : Int)) c.sales (max since (owerAt c o).born)).2 s hm hd
  rw [from_eq hp] at h1
  have h2 := (fMin_le (fun s => s.dst = (o : Int)) c.sales c.now).2 s hm hd
  have e2 : bHi c c.sales o = fMin (fun s => s.dst = (o : Int)) c.sales c.now := rfl
  omega
end Go.Proofs.Ytiampdiobdianaa

namespace Go.Proofs.Ytiampdiobdianaa
open Go.Avm

/-- The holds so far, in the reference's block. -/
def HR (b4 b5 : Nat) (l : List Hold) (v : AV) (loc : Nat → Option (List AV)) : Prop :=
  (l = [] ∧ v = .lit (.slice none 0 0)) ∨ ∃ hb cap cs, l ≠ [] ∧ v = .mslice hb 0 l.length cap 3 ∧ loc hb = some cs ∧ HBlk cs l cap ∧ hb ≠ b4 ∧ hb ≠ b5
theorem HR.ext {b4 b5 : Nat} {l : List Hold} {v v' : AV} {loc loc' : Nat → Option (List AV)} (h : HR b4 b5 l v loc) (hv : v' = v) (hl : ∀ c, c ≠ b4 → c ≠ b5 → loc c ≠ none → loc' c = loc c) : HR b4 b5 l v' loc' := by
  subst hv
  rcases h with ⟨h1, h2⟩ | ⟨hb, cap, cs, h1, h2, h3, h4, h5, h6⟩
  · exact .inl ⟨h1, h2⟩
  · exact .inr ⟨hb, cap, cs, h1, h2, by rw [hl hb h5 h6 (by rw [h3]; simp)]; exact h3, h4, h5, h6⟩
structure ZJ (c : Case) (order : List Int) (b4 b5 i : Nat) (Y : Nat → Int) (l : List Hold) (s : St) : Prop where
  e : s.env 1 = IL order ∧ s.env 2 = caseRef c ∧ s.env 4 = .mref b4 0 ∧ s.env 5 = .mslice b5 0 c.marks.length c.marks.length 1 ∧ s.env 8 = I i
  l4 : s.loc b4 = some [B false, .slice 3 [] 5001, I 0]
  l5 : s.loc b5 = some (cl c.marks.length Y)
  hs : HR b4 b5 l (s.env 6) s.loc
theorem ZJ.ext {c : Case} {order : List Int} {b4 b5 i : Nat} {Y : Nat → Int} {l : List Hold} {s s' : St} (h : ZJ c order b4 b5 i Y l s)
    (he : ∀ k ∈ [1, 2, 4, 5, 6, 8], s'.env k = s.env k) (hl : ∀ c, s.loc c ≠ none → s'.loc c = s.loc c) : ZJ c order b4 b5 i Y l s' := by
  simp only [List.mem_cons, List.not_mem_nil, or_false, forall_eq_or_imp, forall_eq] at he
  obtain ⟨a1, a2, a4, a5, a6, a8⟩ := he
  obtain ⟨e1, e2, e4, e5, e8⟩ := h.e
  exact ⟨⟨a1.trans e1, a2.trans e2, a4.trans e4, a5.trans e5, a8.trans e8⟩, by rw [hl b4 (by rw [h.l4]; simp)]; exact h.l4, by rw [hl b5 (by rw [h.l5]; simp)]; exact h.l5, h.hs.ext a6 (fun c _ _ hc => hl c hc)⟩
theorem ZJ.years {c : Case} {order : List Int} {b4 b5 i : Nat} {Y Y' : Nat → Int} {l : List Hold} {s s' : St} (h : ZJ c order b4 b5 i Y l s) (h54 : b5 ≠ b4)
    (he : ∀ k ∈ [1, 2, 4, 5, 6, 8], s'.env k = s.env k) (hl : ∀ c, c ≠ b5 → s'.loc c = s.loc c) (h5 : s'.loc b5 = some (cl c.marks.length Y')) : ZJ c order b4 b5 i Y' l s' := by
  simp only [List.mem_cons, List.not_mem_nil, or_false, forall_eq_or_imp, forall_eq] at he
  obtain ⟨a1, a2, a4, a5, a6, a8⟩ := he
  obtain ⟨e1, e2, e4, e5, e8⟩ := h.e
  exact ⟨⟨a1.trans e1, a2.trans e2, a4.trans e4, a5.trans e5, a8.trans e8⟩, by rw [hl b4 (fun e => h54 e.symm)]; exact h.l4, h5, h.hs.ext a6 (fun c _ hc _ => hl c hc)⟩
/-- What Solve returns. -/
def solvedAV (c : Case) : Option (List Hold) → AV
  | none => .agg [B false, HL [], I 0]
  | some l => .agg [B true, HL (cutL l), I (unknownS c l)]
theorem rep_cl (n : Nat) : (List.replicate n [I 0]).flatten = cl n fun _ => 0 := by
  apply List.ext_getElem (by simp [cl])
  intro i h1 h2
  simp [cl]

theorem hcells_get : ∀ (l : List Hold) (i : Nat) (hi : i < l.length), (hcells l)[i * 3]? = some (I l[i].who) ∧ (hcells l)[i * 3 + 1]? = some (I l[i].src) ∧ (hcells l)[i * 3 + 2]? = some (I l[i].til)
  | [], i, h => by simp at h
  | a :: l, 0, _ => ⟨rfl, rfl, rfl⟩
  | a :: l, i + 1, h => by
    have ih := hcells_get l i (by simpa using h)
    have e : hcells (a :: l) = [I a.who, I a.src, I a.til] ++ hcells l := rfl
    rw [e]
    refine ⟨?_, ?_, ?_⟩
    · rw [List.getElem?_append_right (by simp; omega), show (i + 1) * 3 - [I a.who, I a.src, I a.til].length = i * 3 by simp; omega]; exact ih.1
    · rw [List.getElem?_append_right (by simp; omega), show (i + 1) * 3 + 1 - [I a.who, I a.src, I a.til].length = i * 3 + 1 by simp; omega]; exact ih.2.1
    · rw [List.getElem?_append_right (by simp; omega), show (i + 1) * 3 + 2 - [I a.who, I a.src, I a.til].length = i * 3 + 2 by simp; omega]; exact ih.2.2
theorem hblk_get {cs : List AV} {l : List Hold} {cap : Nat} (hb : HBlk cs l cap) {i : Nat} (hi : i < l.length) : ∃ h : i * 3 + 2 < cs.length, cs[i * 3 + 1]'(by omega) = I l[i].src ∧ cs[i * 3 + 2]'h = I l[i].til := by
  have hle := hb.le
  have hlen := hb.len
  have h3 := hcells_get l i hi
  rw [← hb.cells] at h3
  rw [List.getElem?_take_of_lt (by omega), List.getElem?_take_of_lt (by omega), List.getElem?_take_of_lt (by omega)] at h3
  refine ⟨by omega, ?_, ?_⟩
  · have := h3.2.1
    rw [List.getElem?_eq_getElem (by omega)] at this
    exact Option.some.inj this
  · have := h3.2.2
    rw [List.getElem?_eq_getElem (by omega)] at this
    exact Option.some.inj this
theorem hcells_set : ∀ (l : List Hold) (i : Nat) (hi : i < l.length) (v : Int), (hcells l).set (i * 3 + 2) (I v) = hcells (l.set i ⟨l[i].who, l[i].src, v⟩)
  | [], i, h, _ => by simp at h
  | a :: l, 0, _, _ => rfl
  | a :: l, i + 1, h, v => by
    have ih := hcells_set l i (by simpa using h) v
    have e : hcells (a :: l) = [I a.who, I a.src, I a.til] ++ hcells l := rfl
    rw [e, List.set_append_right _ _ (by simp; omega), show (i + 1) * 3 + 2 - [I a.who, I a.src, I a.til].length = i * 3 + 2 by simp; omega, ih]
    rfl
theorem hblk_set {cs : List AV} {l : List Hold} {cap : Nat} (hb : HBlk cs l cap) {i : Nat} (hi : i < l.length) (v : Int) : HBlk (cs.set (i * 3 + 2) (I v)) (l.set i ⟨l[i].who, l[i].src, v⟩) cap := by
  refine ⟨by simpa using hb.le, by rw [List.length_set]; exact hb.len, ?_, fun x hx => ?_⟩
  · rw [List.length_set, List.take_set, hb.cells, hcells_set l i hi v]
  · rcases List.mem_or_eq_of_mem_set hx with hx | rfl
    · exact hb.num x hx
    · exact ⟨_, rfl⟩
/-- The holds of which the first i are cut. -/
def cutN (l : List Hold) : Nat → List Hold
  | 0 => l
  | i + 1 => (cutN l i).set i (cut (l.getD i ⟨0, 0, 0⟩) (l.getD (i + 1) ⟨0, 0, 0⟩).src)
theorem cutN_len (l : List Hold) : ∀ i, (cutN l i).length = l.length
  | 0 => rfl
  | i + 1 => by unfold cutN; rw [List.length_set, cutN_len l i]
theorem cutN_get (l : List Hold) : ∀ (i j : Nat) (h : j < (cutN l i).length), (cutN l i)[j] = if j < i then cut (l.getD j ⟨0, 0, 0⟩) (l.getD (j + 1) ⟨0, 0, 0⟩).src else l.getD j ⟨0, 0, 0⟩
  | 0, j, h => by
    have h' : j < l.length := h
    simp [cutN, h']
  | i + 1, j, h => by
    have ih := cutN_get l i j (by rw [cutN_len] at h ⊢; exact h)
    simp only [cutN, List.getElem_set]
    by_cases e : i = j
    · subst e; simp
    · rw [if_neg e, ih]
      by_cases h2 : j < i
      · rw [if_pos h2, if_pos (by omega)]
      · rw [if_neg h2, if_neg (by omega)]
theorem cutL_get : ∀ (l : List Hold) (j : Nat) (h : j < (cutL l).length), (cutL l)[j] = if j + 1 < l.length then cut (l.getD j ⟨0, 0, 0⟩) (l.getD (j + 1) ⟨0, 0, 0⟩).src else l.getD j ⟨0, 0, 0⟩
  | [], j, h => by simp [cutL] at h
  | [a], 0, h => by simp [cutL]
  | [a], j + 1, h => by simp [cutL] at h
  | a :: b :: l, 0, h => by simp [cutL]
  | a :: b :: l, j + 1, h => by
    have ih := cutL_get (b :: l) j (by rw [cutL_len] at h ⊢; simpa using h)
    simp only [cutL, List.getElem_cons_succ, ih, List.length_cons, List.getD_cons_succ, Nat.add_lt_add_iff_right]
theorem cutN_all (l : List Hold) : cutN l (l.length - 1) = cutL l := by
  apply List.ext_getElem (by rw [cutN_len, cutL_len])
  intro j h1 h2
  rw [cutN_get, cutL_get]
  by_cases h : j + 1 < l.length
  · rw [if_pos h, if_pos (by omega)]
  · rw [if_neg h, if_neg (by omega)]
theorem gaps_take {l : List Hold} {p : Int} {i : Nat} (hi : i + 1 < l.length) : gaps p (l.take (i + 2)) = gaps p (l.take (i + 1)) + if l[i].til < l[i + 1].src then 1 else 0 := by
  rw [take_snoc hi, gaps_snoc, take_snoc (show i < l.length by omega), lastTil_snoc]

theorem solve62_ok {c : Case} (h : c.OK) {order : List Int} (ho : ∀ x ∈ order, 0 ≤ x ∧ x < c.owners.length) (hnd : order.Nodup) (hol : order.length ≤ 100) :
    PCall Try.prog 62 [encCase c, IL order] (solvedAV c (solveS c order)) := by
  refine pcall Try.func62 tr62 rs62 fn62 (by simp [Try.ntmps62]) fun _ => ?_
  have hm9 := h.marksLen
  have hs4 := h.salesLen
  have cN := needed91_ok c order h hol
  obtain ⟨R, hR⟩ : ∃ R, R = solvedAV c (solveS c order) := ⟨_, rfl⟩
  rw [← hR]
  simp -implicitDefEqProofs only [m62]
  refine cutS (fun st => st.env 1 = IL order ∧ st.env 2 = caseRef c ∧ ∃ b4, st.env 4 = .mref b4 0 ∧ st.loc b4 = some [B false, .slice 3 [] 5001, I 0]) ?_ ?_
  · intro k hk
    simp -implicitDefEqProofs
    intro b
    exact hk _ ⟨by simp, by simp, b, by simp, by simp⟩
  rintro s ⟨e1, e2, b4, e4, l4⟩
  have hfail : solveS c order = none → R = .agg [B false, HL [], I 0] := fun e => by rw [hR, e]; rfl
  refine cutS (fun st => st.env 1 = IL order ∧ st.env 2 = caseRef c ∧ st.env 4 = .mref b4 0 ∧ st.loc b4 = some [B false, .slice 3 [] 5001, I 0] ∧ needB c order = true) ?_ ?_
  · intro k hk
    simp -implicitDefEqProofs [e1, e2]
    refine vCall_of cN ?_
    cases hN : needB c order with
    | false =>
      have hR0 := hfail (solve_need hN)
      simp -implicitDefEqProofs [e4, l4, r62, hR0]
    | true =>
      simp -implicitDefEqProofs
      exact hk _ ⟨by simp [e1], by simp [e2], by simp [e4], by simp [l4], hN⟩
  rintro s ⟨e1, e2, e4, l4, hN⟩
  have hNM := need_marks hN
  refine cutS (fun st => st.env 1 = IL order ∧ st.env 2 = caseRef c ∧ st.env 4 = .mref b4 0 ∧ st.loc b4 = some [B false, .slice 3 [] 5001, I 0] ∧ ∃ b5, st.env 5 = .mslice b5 0 c.marks.length c.marks.length 1 ∧ st.loc b5 = some (cl c.marks.length fun _ => 0) ∧ b5 ≠ b4) ?_ ?_
  · intro k hk
    simp -implicitDefEqProofs [e2]
    refine ⟨by omega, by omega, fun b hb => ?_⟩
    have h4b : ¬ b4 = b := by rintro rfl; rw [l4] at hb; cases hb
    have hb4 : ¬ b = b4 := fun e => h4b e.symm
    refine hk _ ⟨by simp [e1], by simp [e2], by simp [e4], by simp [l4, h4b], b, by simp, ?_, hb4⟩
    rw [← rep_cl]
    simp
  rintro s ⟨e1, e2, e4, l4, b5, e5, l5, h54⟩
  refine cutS (fun st => st.env 1 = IL order ∧ st.env 2 = caseRef c ∧ st.env 4 = .mref b4 0 ∧ st.loc b4 = some [B false, .slice 3 [] 5001, I 0] ∧ st.env 5 = .mslice b5 0 c.marks.length c.marks.length 1 ∧ st.loc b5 = some (cl c.marks.length fun _ => 0) ∧ st.env 6 = .lit (.slice none 0 0)) ?_ ?_
  · intro k hk
    simp -implicitDefEqProofs
    exact hk _ (by simp [e1, e2, e4, l4, e5, l5])
  rintro s ⟨e1, e2, e4, l4, e5, l5, e6⟩
  refine cutS (fun st => st.env 1 = IL order ∧ st.env 2 = caseRef c ∧ st.env 4 = .mref b4 0 ∧ st.loc b4 = some [B false, .slice 3 [] 5001, I 0] ∧ st.env 5 = .mslice b5 0 c.marks.length c.marks.length 1 ∧ st.loc b5 = some (cl c.marks.length fun _ => 0) ∧ st.env 6 = .lit (.slice none 0 0) ∧ st.env 7 = I c.printed) ?_ ?_
  · intro k hk
    simp -implicitDefEqProofs [e2]
    exact hk _ (by simp [e1, e2, e4, l4, e5, l5, e6])
  rintro s ⟨e1, e2, e4, l4, e5, l5, e6, e7⟩
  refine cutS (fun st => ∃ x, runUp c order order.length = some x ∧ UnderTo c order order.length 0 ∧ ZJ c order b4 b5 order.length x.years x.raw st) ?_ ?_
  · intro k0 hk0
    simp -implicitDefEqProofs
    refine loop_up order.length (fun i st => ∃ x, runUp c order i = some x ∧ UnderTo c order i 0 ∧ ZJ c order b4 b5 i x.years x.raw st ∧ st.env 7 = I x.since) ?_ ?_
    · exact ⟨_, rfl, under_zero hNM, ⟨by simp [e1, e2, e4, e5], by simp [l4], by simp [l5], .inl ⟨rfl, by simp [e6]⟩⟩, by simp [e7]⟩
    rintro i s hi ⟨x, hx, hU, hJ, e7⟩
    obtain ⟨e1, e2, e4, e5, e8⟩ := hJ.e
    simp -implicitDefEqProofs [e1, e8]
    refine cond_dec (fun hlt => ?_) (fun hge => ?_)
    · have hlt : i < order.length := by omega
      have hoi := ho _ (List.getElem_mem hlt)
      obtain ⟨o, hoo⟩ : ∃ o : Nat, order[i] = o := ⟨order[i].toNat, by omega⟩
      have hon : o < c.owners.length := by omega
      have hat : at' order o = i := by rw [← hoo]; exact at_nodup hnd hlt
      have hstep : runUp c order (i + 1) = stepO c o x := by
        show (runUp c order i).bind _ = _
        rw [hx, Option.bind_some]
        congr 1
        rw [List.getD_eq_getElem?_getD, List.getElem?_eq_getElem hlt, Option.getD_some, hoo, Int.toNat_natCast]
      have hrl : x.raw.length = i := runUp_len _ _ hx
      have hsin := runUp_since hx
      have hbadStep : stepO c o x = none → R = .agg [B false, HL [], I 0] := fun e => hfail (solve_none (i := i + 1) (by omega) (hstep.trans e))
      have hin := sold_in h o
      have how := ower_in h o
      have hown := ower_at hon
      obtain ⟨w, hw⟩ : ∃ w, w = owerAt c o := ⟨_, rfl⟩
      have hw2 : c.owners[o] = w := by rw [hw]; unfold owerAt; exact hown.symm
      obtain ⟨f, hf⟩ : ∃ f, f = max x.since (bLo c c.sales o) := ⟨_, rfl⟩
      have hfe := from_eq (o := o) hsin
      have hbf := born_from (c := c) (o := o) (since := x.since)
      rw [← hw, ← hf] at hfe hbf
      rw [← hw] at how
      refine stepB ?_
      refine cutS (fun st => ZJ c order b4 b5 i x.years x.raw st ∧ st.env 7 = I x.since ∧ st.env 9 = I o) ?_ ?_
      · intro k1 hk1
        simp -implicitDefEqProofs [e1, e8, hlt, hoo]
        exact hk1 _ ⟨hJ.ext (by simp) (by simp), by simp [e7], by simp⟩
      rintro s ⟨hJ, e7, e9⟩
      refine cutS (fun st => ZJ c order b4 b5 i x.years x.raw st ∧ st.env 9 = I o ∧ st.env 10 = I (max x.since w.born)) ?_ ?_
      · intro k1 hk1
        obtain ⟨-, e2, -⟩ := hJ.e
        have m1 : (if x.since < w.born then w.born else x.since) = max x.since w.born := by split <;> omega
        simp -implicitDefEqProofs [e2, e7, e9, hon, hw2, m1]
        exact hk1 _ ⟨hJ.ext (by simp) (by simp), by simp [e9], by simp⟩
      rintro s ⟨hJ, e9, e10⟩
      refine cutS (fun st => ZJ c order b4 b5 i x.years x.raw st ∧ st.env 9 = I o ∧ st.env 10 = I (max x.since w.born) ∧ st.env 11 = I (min w.died c.now)) ?_ ?_
      · intro k1 hk1
        obtain ⟨-, e2, -⟩ := hJ.e
        have m1 : (if c.now < w.died then c.now else w.died) = min w.died c.now := by split <;> omega
        simp -implicitDefEqProofs [e2, e9, hon, hw2, m1]
        exact hk1 _ ⟨hJ.ext (by simp) (by simp), by simp [e9], by simp [e10], by simp⟩
      rintro s ⟨hJ, e9, e10, e11⟩
      refine cutS (fun st => ZJ c order b4 b5 i x.years x.raw st ∧ st.env 9 = I o ∧ st.env 10 = I f ∧ st.env 11 = I (min w.died c.now)) ?_ ?_
      · intro k1 hk1
        simp -implicitDefEqProofs
        refine loop_up c.sales.length (fun k st => ZJ c order b4 b5 i x.years x.raw st ∧ st.env 9 = I o ∧ st.env 10 = I (fMax (fun s => s.dst = (o : Int)) (c.sales.take k) (max x.since w.born)) ∧ st.env 11 = I (min w.died c.now) ∧ st.env 12 = I k) ?_ ?_
        · exact ⟨hJ.ext (by simp) (by simp), by simp [e9], by simp [e10], by simp [e11], by simp⟩
        rintro k s hk ⟨hJ, e9, e10, e11, e12⟩
        obtain ⟨-, e2, -⟩ := hJ.e
        simp -implicitDefEqProofs [e2, e12]
        refine cond_dec (fun hlt2 => ?_) (fun hge2 => ?_)
        · have hlt2 : k < c.sales.length := by omega
          have hsn : fMax (fun s => s.dst = (o : Int)) (c.sales.take (k + 1)) (max x.since w.born) = if c.sales[k].dst = (o : Int) then max (fMax (fun s => s.dst = (o : Int)) (c.sales.take k) (max x.since w.born)) c.sales[k].year else fMax (fun s => s.dst = (o : Int)) (c.sales.take k) (max x.since w.born) := by
            rw [take_snoc hlt2]; unfold fMax; rw [List.foldl_append]; rfl
          generalize fMax (fun s => s.dst = (o : Int)) (c.sales.take k) (max x.since w.born) = F at *
          generalize hsl : c.sales[k] = sl at *
          by_cases hd : sl.dst = (o : Int)
          · rw [if_pos hd] at hsn
            have m1 : (if F < sl.year then sl.year else F) = max F sl.year := by split <;> omega
            simp -implicitDefEqProofs [e2, e9, e10, e12, hlt2, hsl, hd, m1]
            refine ⟨i64 (by omega) (by omega), round_ok hlt2 ?_⟩
            rw [hsn]
            exact ⟨hJ.ext (by simp) (by simp), by simp [e9], by simp, by simp [e11], by simp⟩
          · rw [if_neg hd] at hsn
            have hd' : (sl.dst == (o : Int)) = false := by simp [hd]
            simp -implicitDefEqProofs [e2, e9, e12, hlt2, hsl, hd']
            refine ⟨i64 (by omega) (by omega), round_ok hlt2 ?_⟩
            rw [hsn]
            exact ⟨hJ.ext (by simp) (by simp), by simp [e9], by simp [e10], by simp [e11], by simp⟩
        · obtain rfl : k = c.sales.length := by omega
          rw [List.take_length, hfe] at e10
          simp -implicitDefEqProofs
          exact hk1 _ ⟨hJ.ext (by simp) (by simp), by simp [e9], by simp [e10], by simp [e11]⟩
      rintro s ⟨hJ, e9, e10, e11⟩
      refine cutS (fun st => ZJ c order b4 b5 i x.years x.raw st ∧ st.env 9 = I o ∧ st.env 10 = I f ∧ st.env 11 = I (min w.died c.now) ∧ st.env 13 = I f) ?_ ?_
      · intro k1 hk1
        simp -implicitDefEqProofs [e10]
        exact hk1 _ ⟨hJ.ext (by simp) (by simp), by simp [e9], by simp [e10], by simp [e11], by simp⟩
      rintro s ⟨hJ, e9, e10, e11, e13⟩
      have hstepE : stepO c o x = (marksUp c o f x.years (max f (gLo c c.sales o)) c.marks.length).bind fun y => if bHi c c.sales o < f ∨ gHi c c.sales o < y.2 then none else some ⟨y.1, y.2, x.raw ++ [⟨o, f, gHi c c.sales o⟩]⟩ := by
        rw [hf]; rfl
      have hshift := fun k => marksUp_shift c o f x.years f (gLo c c.sales o) k
      refine cutS (fun st => ∃ Yk tk, marksUp c o f x.years f c.marks.length = some (Yk, tk) ∧ UnderTo c order (i + 1) 0 ∧ ZJ c order b4 b5 i Yk x.raw st ∧ st.env 9 = I o ∧ st.env 10 = I f ∧ st.env 11 = I (min w.died c.now) ∧ st.env 13 = I tk) ?_ ?_
      · intro k1 hk1
        simp -implicitDefEqProofs
        refine loop_up c.marks.length (fun k st => ∃ Yk tk, marksUp c o f x.years f k = some (Yk, tk) ∧ UnderTo c order i k ∧ ZJ c order b4 b5 i Yk x.raw st ∧ st.env 9 = I o ∧ st.env 10 = I f ∧ st.env 11 = I (min w.died c.now) ∧ st.env 13 = I tk ∧ st.env 14 = I k) ?_ ?_
        · exact ⟨_, _, rfl, hU, hJ.ext (by simp) (by simp), by simp [e9], by simp [e10], by simp [e11], by simp [e13], by simp⟩
        rintro k s hk ⟨Yk, tk, hy, hU, hJ, e9, e10, e11, e13, e14⟩
        obtain ⟨e1, e2, e4, e5, e8⟩ := hJ.e
        simp -implicitDefEqProofs [e2, e14]
        refine cond_dec (fun hlt2 => ?_) (fun hge2 => ?_)
        · have hlt2 : k < c.marks.length := by omega
          have hgd := mk_at hlt2
          have hup := h.upon k hlt2
          have hsuc : marksUp c o f x.years f (k + 1) = markStep c o f k (Yk, tk) := by
            show (marksUp c o f x.years f k).bind _ = _
            rw [hy, Option.bind_some]
          have hno : markStep c o f k (Yk, tk) = none → R = .agg [B false, HL [], I 0] := fun e => hbadStep (by
            have h1 := marksUp_none (hsuc.trans e) (c.marks.length - (k + 1))
            rw [show k + 1 + (c.marks.length - (k + 1)) = c.marks.length by omega] at h1
            rw [hstepE, hshift, h1]; rfl)
          have hmem : c.marks[k] ∈ c.marks := List.getElem_mem hlt2
          have hUs := fun (hne : at' order c.marks[k].owner ≠ i) => under_skip hU (k := k) (fun _ => hne)
          have hUn := fun (hu : under c order c.marks[k] = true) => under_next hU (k := k) (fun _ => hu)
          have hunder : under c order c.marks[k] = (decide (c.marks[k].upon = -1) || !decide (at' order c.marks[k].owner < at' order (c.marks.getD c.marks[k].upon.toNat mkD).owner)) := rfl
          have hubad := fun (e : under c order c.marks[k] = false) => hfail (under_bad hmem e)
          unfold markStep markY at hsuc hno
          rw [hgd] at hsuc hno
          generalize hm : c.marks[k] = m at *
          refine stepB ?_
          refine cutS (fun st => ZJ c order b4 b5 i Yk x.raw st ∧ st.env 9 = I o ∧ st.env 10 = I f ∧ st.env 11 = I (min w.died c.now) ∧ st.env 13 = I tk ∧ st.env 14 = I k ∧ st.env 15 = .ref [I m.owner, I m.lo, I m.hi, I m.upon]) ?_ ?_
          · intro k2 hk2
            simp -implicitDefEqProofs [e2, e14, hlt2]
            rw [hm]
            intro b hb
            refine hk2 _ ⟨hJ.ext (by simp) (fun c hc => ?_), by simp [e9], by simp [e10], by simp [e11], by simp [e13], by simp [e14], by simp⟩
            have : ¬ c = b := by rintro rfl; exact hc hb
            simp [this]
          rintro s ⟨hJ, e9, e10, e11, e13, e14, e15⟩
          by_cases hmo : m.owner ≠ (o : Int)
          · rw [if_pos hmo] at hsuc
            have hmo' : (m.owner != (o : Int)) = true := by simp [hmo]
            have hU2 := hUs (fun e => hmo (by
              obtain ⟨q, hq1, hq2, hq3⟩ := at_mem (hNM m hmem)
              have : q = i := by omega
              subst this
              rw [← hq3, hoo]))
            simp -implicitDefEqProofs [e9, e15, hmo', e14]
            exact ⟨i64 (by omega) (by omega), round_ok hlt2 ⟨Yk, tk, hsuc, hU2, hJ.ext (by simp) (by simp), by simp [e9], by simp [e10], by simp [e11], by simp [e13], by simp⟩⟩
          rw [if_neg hmo] at hsuc hno
          have hmo2 : m.owner = (o : Int) := Decidable.not_not.1 hmo
          have hmo' : (m.owner != (o : Int)) = false := by simpa using hmo
          refine cutS (fun st => ZJ c order b4 b5 i Yk x.raw st ∧ st.env 9 = I o ∧ st.env 10 = I f ∧ st.env 11 = I (min w.died c.now) ∧ st.env 13 = I tk ∧ st.env 14 = I k ∧ st.env 15 = .ref [I m.owner, I m.lo, I m.hi, I m.upon]) ?_ ?_
          · intro k2 hk2
            simp -implicitDefEqProofs [e9, e15, hmo']
            exact hk2 _ ⟨hJ.ext (by simp) (by simp), by simp [e9], by simp [e10], by simp [e11], by simp [e13], by simp [e14], by simp [e15]⟩
          rintro s ⟨hJ, e9, e10, e11, e13, e14, e15⟩
          refine cutS (fun st => ZJ c order b4 b5 i (putY Yk k (max m.lo f)) x.raw st ∧ st.env 9 = I o ∧ st.env 10 = I f ∧ st.env 11 = I (min w.died c.now) ∧ st.env 13 = I tk ∧ st.env 14 = I k ∧ st.env 15 = .ref [I m.owner, I m.lo, I m.hi, I m.upon]) ?_ ?_
          · intro k2 hk2
            obtain ⟨-, -, -, e5, -⟩ := hJ.e
            have l5 := hJ.l5
            have m1 : (if m.lo < f then f else m.lo) = max m.lo f := by split <;> omega
            simp -implicitDefEqProofs [e5, e10, e14, e15, l5, hlt2, cl_len, m1, cl_set]
            repeat refine ⟨by omega, ?_⟩
            exact hk2 _ ⟨hJ.years h54 (by simp) (fun c hc => by simp [hc]) (by simp; rfl), by simp [e9], by simp [e10], by simp [e11], by simp [e13], by simp [e14], by simp [e15]⟩
          rintro s ⟨hJ, e9, e10, e11, e13, e14, e15⟩
          obtain ⟨z, hz⟩ : ∃ z, z = if m.upon = -1 then max m.lo f else max (max m.lo f) (Yk m.upon.toNat) := ⟨_, rfl⟩
          rw [← hz] at hsuc hno
          refine cutS (fun st => UnderTo c order i (k + 1) ∧ ZJ c order b4 b5 i (putY Yk k z) x.raw st ∧ st.env 9 = I o ∧ st.env 10 = I f ∧ st.env 11 = I (min w.died c.now) ∧ st.env 13 = I tk ∧ st.env 14 = I k ∧ st.env 15 = .ref [I m.owner, I m.lo, I m.hi, I m.upon]) ?_ ?_
          · intro k2 hk2
            obtain ⟨e1, e2, e4, e5, e8⟩ := hJ.e
            have l4 := hJ.l4
            have l5 := hJ.l5
            by_cases h0 : m.upon = -1
            · rw [if_pos h0] at hz
              rw [← hz] at hJ
              have h0' : (m.upon != -1) = false := by simp [h0]
              have hU2 := hUn (by rw [hunder, decide_eq_true h0]; rfl)
              simp -implicitDefEqProofs [e15, h0']
              exact hk2 _ ⟨hU2, hJ.ext (by simp) (by simp), by simp [e9], by simp [e10], by simp [e11], by simp [e13], by simp [e14], by simp [e15]⟩
            · rw [if_neg h0] at hz
              have h0' : (m.upon != -1) = true := by simp [h0]
              obtain ⟨n, hn⟩ : ∃ n : Nat, m.upon = n := ⟨m.upon.toNat, by omega⟩
              have hnk : n < k := by omega
              have hnl : n < c.marks.length := by omega
              have hnk' : ¬ n = k := by omega
              rw [hn, Int.toNat_natCast] at hz hunder
              rw [hn] at h0'
              rw [mk_at hnl, hmo2, hat] at hunder
              have hn1 : decide ((n : Int) = -1) = false := decide_eq_false (by omega)
              rw [hn1, Bool.false_or] at hunder
              have m1 : (if max m.lo f < Yk n then Yk n else max m.lo f) = z := by rw [hz]; split <;> omega
              have m2 : putY Yk k (max m.lo f) k = max m.lo f := by simp [putY]
              have m3 : putY Yk k (max m.lo f) n = Yk n := by simp [putY, hnk']
              have m4 : (fun j => if j = k then z else putY Yk k (max m.lo f) j) = putY Yk k z := by
                funext j
                by_cases e : j = k <;> simp [putY, e]
              generalize hmn : c.marks[n] = mn at *
              simp -implicitDefEqProofs [e1, e2, e15, hn, h0', hnl, hmn]
              refine vCall_of (at_ok order mn.owner) ?_
              simp -implicitDefEqProofs [e8]
              refine cond_dec (fun hgt => ?_) (fun hgt => ?_)
              · have hR0 := hubad (by rw [hunder, decide_eq_true hgt]; rfl)
                simp -implicitDefEqProofs [e4, l4, r62, hR0]
              · have hU2 := hUn (by rw [hunder, decide_eq_false hgt]; rfl)
                simp -implicitDefEqProofs [e5, e14, e15, hn, l5, hlt2, hnl, cl_len, cl_at, m1, m2, m3, cl_set, apartAV, m4]
                repeat refine ⟨by omega, ?_⟩
                exact hk2 _ ⟨hU2, hJ.years h54 (by simp) (fun c hc => by simp [hc]) (by simp), by simp [e9], by simp [e10], by simp [e11], by simp [e13], by simp [e14], by simp [e15, hn]⟩
          rintro s ⟨hU2, hJ, e9, e10, e11, e13, e14, e15⟩
          have mz : putY Yk k z k = z := by simp [putY]
          refine cutS (fun st => ZJ c order b4 b5 i (putY Yk k z) x.raw st ∧ st.env 9 = I o ∧ st.env 10 = I f ∧ st.env 11 = I (min w.died c.now) ∧ st.env 13 = I tk ∧ st.env 14 = I k ∧ ¬ m.hi < z) ?_ ?_
          · intro k2 hk2
            obtain ⟨-, -, e4, e5, -⟩ := hJ.e
            have l4 := hJ.l4
            have l5 := hJ.l5
            simp -implicitDefEqProofs [e5, e14, e15, l5, hlt2, cl_len, cl_at, mz]
            refine cond_dec (fun hb => ?_) (fun hb => ?_)
            · have hR0 := hno (by rw [if_pos hb])
              simp -implicitDefEqProofs [e4, l4, r62, hR0]
            · simp -implicitDefEqProofs
              exact hk2 _ ⟨hJ.ext (by simp) (by simp), by simp [e9], by simp [e10], by simp [e11], by simp [e13], by simp [e14], hb⟩
          rintro s ⟨hJ, e9, e10, e11, e13, e14, hz2⟩
          rw [if_neg hz2] at hsuc
          obtain ⟨-, -, e4, e5, -⟩ := hJ.e
          have l5 := hJ.l5
          have m1 : (if tk < z then z else tk) = max tk z := by split <;> omega
          simp -implicitDefEqProofs [e5, e13, e14, l5, hlt2, cl_len, cl_at, mz, m1]
          exact ⟨i64 (by omega) (by omega), round_ok hlt2 ⟨_, _, hsuc, hU2, hJ.ext (by simp) (by simp), by simp [e9], by simp [e10], by simp [e11], by simp, by simp⟩⟩
        · obtain rfl : k = c.marks.length := by omega
          simp -implicitDefEqProofs
          exact hk1 _ ⟨Yk, tk, hy, under_round hU, hJ.ext (by simp) (by simp), by simp [e9], by simp [e10], by simp [e11], by simp [e13]⟩
      rintro s ⟨Yk, tk, hy, hU, hJ, e9, e10, e11, e13⟩
      have hft := marksUp_ge hy
      have hte := to_eq (c := c) (o := o) (t := tk) (by rw [← hw]; have : f ≤ tk := hft; omega)
      have hstepF : stepO c o x = if bHi c c.sales o < f ∨ gHi c c.sales o < max tk (gLo c c.sales o) then none else some ⟨Yk, max tk (gLo c c.sales o), x.raw ++ [⟨o, f, gHi c c.sales o⟩]⟩ := by
        rw [hstepE, hshift, hy]; rfl
      obtain ⟨T, hT⟩ : ∃ T, T = max tk (gLo c c.sales o) := ⟨_, rfl⟩
      obtain ⟨gh, hgh⟩ : ∃ gh, gh = gHi c c.sales o := ⟨_, rfl⟩
      have hghe : fMin (fun s => s.src = (o : Int)) c.sales (min w.died c.now) = gh := by rw [hgh, hw]; rfl
      rw [← hT] at hte
      rw [← hT, ← hgh] at hstepF
      refine cutS (fun st => (∀ s ∈ c.sales, s.dst = (o : Int) → s.year = f) ∧ ZJ c order b4 b5 i Yk x.raw st ∧ st.env 9 = I o ∧ st.env 10 = I f ∧ st.env 11 = I gh ∧ st.env 13 = I T) ?_ ?_
      · intro k1 hk1
        simp -implicitDefEqProofs
        refine loop_up c.sales.length (fun k st => (∀ s ∈ c.sales.take k, s.dst = (o : Int) → s.year = f) ∧ ZJ c order b4 b5 i Yk x.raw st ∧ st.env 9 = I o ∧ st.env 10 = I f ∧ st.env 11 = I (fMin (fun s => s.src = (o : Int)) (c.sales.take k) (min w.died c.now)) ∧ st.env 13 = I (fMax (fun s => s.src = (o : Int)) (c.sales.take k) tk) ∧ st.env 16 = I k) ?_ ?_
        · refine ⟨by simp, hJ.ext (by simp) (by simp), by simp [e9], by simp [e10], by simp [e11], by simp [e13], by simp⟩
        rintro k s hk ⟨hS, hJ, e9, e10, e11, e13, e16⟩
        obtain ⟨-, e2, e4, -⟩ := hJ.e
        have l4 := hJ.l4
        simp -implicitDefEqProofs [e2, e16]
        refine cond_dec (fun hlt2 => ?_) (fun hge2 => ?_)
        · have hlt2 : k < c.sales.length := by omega
          have hsn : fMax (fun s => s.src = (o : Int)) (c.sales.take (k + 1)) tk = if c.sales[k].src = (o : Int) then max (fMax (fun s => s.src = (o : Int)) (c.sales.take k) tk) c.sales[k].year else fMax (fun s => s.src = (o : Int)) (c.sales.take k) tk := by
            rw [take_snoc hlt2]; unfold fMax; rw [List.foldl_append]; rfl
          have hsm : fMin (fun s => s.src = (o : Int)) (c.sales.take (k + 1)) (min w.died c.now) = if c.sales[k].src = (o : Int) then min (fMin (fun s => s.src = (o : Int)) (c.sales.take k) (min w.died c.now)) c.sales[k].year else fMin (fun s => s.src = (o : Int)) (c.sales.take k) (min w.died c.now) := by
            rw [take_snoc hlt2]; unfold fMin; rw [List.foldl_append]; rfl
          have hSn : (c.sales[k].dst = (o : Int) → c.sales[k].year = f) → ∀ s ∈ c.sales.take (k + 1), s.dst = (o : Int) → s.year = f := fun h1 s hs => by
            rw [take_snoc hlt2, List.mem_append, List.mem_singleton] at hs
            rcases hs with hs | rfl
            · exact hS s hs
            · exact h1
          have hbadS : c.sales[k].dst = (o : Int) → f ≠ c.sales[k].year → R = .agg [B false, HL [], I 0] := fun h1 h2 => hbadStep (by
            rw [hf] at h2
            have h3 := step_bad hsin (List.getElem_mem hlt2) h1 h2
            rw [← hf] at h3
            rw [hstepF, if_pos (.inl h3)])
          generalize fMax (fun s => s.src = (o : Int)) (c.sales.take k) tk = F at *
          generalize fMin (fun s => s.src = (o : Int)) (c.sales.take k) (min w.died c.now) = G at *
          generalize hsl : c.sales[k] = sl at *
          refine stepB ?_
          refine cutS (fun st => ZJ c order b4 b5 i Yk x.raw st ∧ st.env 9 = I o ∧ st.env 10 = I f ∧ st.env 11 = I G ∧ st.env 13 = I F ∧ st.env 16 = I k ∧ st.env 17 = .ref [I sl.year, I sl.src, I sl.dst]) ?_ ?_
          · intro k2 hk2
            simp -implicitDefEqProofs [e2, e16, hlt2, hsl]
            intro b hb
            refine hk2 _ ⟨hJ.ext (by simp) (fun c hc => ?_), by simp [e9], by simp [e10], by simp [e11], by simp [e13], by simp [e16], by simp⟩
            have : ¬ c = b := by rintro rfl; exact hc hb
            simp [this]
          rintro s ⟨hJ, e9, e10, e11, e13, e16, e17⟩
          refine cutS (fun st => ZJ c order b4 b5 i Yk x.raw st ∧ st.env 9 = I o ∧ st.env 10 = I f ∧ st.env 11 = I G ∧ st.env 13 = I F ∧ st.env 16 = I k ∧ st.env 17 = .ref [I sl.year, I sl.src, I sl.dst] ∧ (sl.dst = (o : Int) → sl.year = f)) ?_ ?_
          · intro k2 hk2
            obtain ⟨-, e2, e4, -⟩ := hJ.e
            have l4 := hJ.l4
            by_cases hd : sl.dst = (o : Int)
            · by_cases hy : f = sl.year
              · have hy' : (f != sl.year) = false := by simp [hy]
                simp -implicitDefEqProofs [e9, e10, e17, hd, hy']
                exact hk2 _ ⟨hJ.ext (by simp) (by simp), by simp [e9], by simp [e10], by simp [e11], by simp [e13], by simp [e16], by simp [e17, hd], fun _ => hy.symm⟩
              · have hy' : (f != sl.year) = true := by simp [hy]
                have hR0 := hbadS hd hy
                simp -implicitDefEqProofs [e9, e10, e17, hd, hy', e4, l4, r62, hR0]
            · have hd' : (sl.dst == (o : Int)) = false := by simp [hd]
              simp -implicitDefEqProofs [e9, e17, hd']
              exact hk2 _ ⟨hJ.ext (by simp) (by simp), by simp [e9], by simp [e10], by simp [e11], by simp [e13], by simp [e16], by simp [e17], fun e => absurd e hd⟩
          rintro s ⟨hJ, e9, e10, e11, e13, e16, e17, hyf⟩
          by_cases hd : sl.src = (o : Int)
          · rw [if_pos hd] at hsn hsm
            have m1 : (if F < sl.year then sl.year else F) = max F sl.year := by split <;> omega
            have m2 : (if sl.year < G then sl.year else G) = min G sl.year := by split <;> omega
            simp -implicitDefEqProofs [e9, e11, e13, e16, e17, hd, m1, m2]
            refine ⟨i64 (by omega) (by omega), round_ok hlt2 ?_⟩
            rw [hsn, hsm]
            exact ⟨hSn hyf, hJ.ext (by simp) (by simp), by simp [e9], by simp [e10], by simp, by simp, by simp⟩
          · rw [if_neg hd] at hsn hsm
            have hd' : (sl.src == (o : Int)) = false := by simp [hd]
            simp -implicitDefEqProofs [e9, e16, e17, hd']
            refine ⟨i64 (by omega) (by omega), round_ok hlt2 ?_⟩
            rw [hsn, hsm]
            exact ⟨hSn hyf, hJ.ext (by simp) (by simp), by simp [e9], by simp [e10], by simp [e11], by simp [e13], by simp⟩
        · obtain rfl : k = c.sales.length := by omega
          rw [List.take_length] at hS e11 e13
          rw [hghe] at e11
          rw [hte] at e13
          simp -implicitDefEqProofs
          exact hk1 _ ⟨hS, hJ.ext (by simp) (by simp), by simp [e9], by simp [e10], by simp [e11], by simp [e13]⟩
      rintro s ⟨hS, hJ, e9, e10, e11, e13⟩
      have hfT : f ≤ T := by have : f ≤ tk := hft; omega
      have htest := step_test (c := c) (o := o) hfT hS
      rw [← hgh] at htest
      refine cutS (fun st => ZJ c order b4 b5 i Yk x.raw st ∧ st.env 9 = I o ∧ st.env 10 = I f ∧ st.env 11 = I gh ∧ st.env 13 = I T ∧ ¬ gh < T) ?_ ?_
      · intro k1 hk1
        obtain ⟨-, -, e4, -⟩ := hJ.e
        have l4 := hJ.l4
        simp -implicitDefEqProofs [e11, e13]
        refine cond_dec (fun hb => ?_) (fun hb => ?_)
        · have hR0 := hbadStep (by rw [hstepF, if_pos (htest.2 hb)])
          simp -implicitDefEqProofs [e4, l4, r62, hR0]
        · simp -implicitDefEqProofs
          exact hk1 _ ⟨hJ.ext (by simp) (by simp), by simp [e9], by simp [e10], by simp [e11], by simp [e13], hb⟩
      rintro s ⟨hJ, e9, e10, e11, e13, hgood⟩
      rw [if_neg (fun e => hgood (htest.1 e))] at hstepF
      obtain ⟨new, hnew⟩ : ∃ n : Hold, n = ⟨o, f, gh⟩ := ⟨_, rfl⟩
      rw [← hnew] at hstepF
      refine cutS (fun st => ZJ c order b4 b5 i Yk (x.raw ++ [new]) st ∧ st.env 13 = I T) ?_ ?_
      · intro k1 hk1
        obtain ⟨e1, e2, e4, e5, e8⟩ := hJ.e
        have l4 := hJ.l4
        have l5 := hJ.l5
        have hd5 : ∀ Y : Nat → Int, (cl c.marks.length Y).map (demote 194) = cl c.marks.length Y := fun Y => cl_dem _ _ _
        have hcell3 : ∀ r : Nat, (AV.lit (Value.int IntKind.i64 ↑o) :: AV.lit (Value.int IntKind.i64 f) :: AV.lit (Value.int IntKind.i64 gh) :: (List.replicate r [AV.lit (Value.int IntKind.i64 0), AV.lit (Value.int IntKind.i64 0), AV.lit (Value.int IntKind.i64 0)]).flatten) =
          [I new.who, I new.src, I new.til] ++ (List.replicate r [I 0, I 0, I 0]).flatten := fun r => by rw [hnew]; rfl
        rcases hJ.hs with ⟨hnil, e6⟩ | ⟨hb, cap, cs, hne, e6, lh, hbk, h4, h5⟩
        · simp -implicitDefEqProofs [e6, e9, e10, e11]
          intro b r hb
          have hne : ¬ b4 = b := by rintro rfl; rw [l4] at hb; cases hb
          have hne' : ¬ b = b4 := fun e => hne e.symm
          have h5b : ¬ b5 = b := by rintro rfl; rw [l5] at hb; cases hb
          have h5b' : ¬ b = b5 := fun e => h5b e.symm
          refine hk1 _ ⟨⟨by simp [e1, e2, e4, e5, e8], by simp [hne, l4], by simp [h5b, l5, hd5], .inr ⟨b, 1 + r, [I new.who, I new.src, I new.til] ++ (List.replicate r [I 0, I 0, I 0]).flatten, by simp, ?_, ?_, ?_, hne', h5b'⟩⟩, by simp [e13]⟩
          · rw [hnil]; simp
          · rw [hcell3]; simp
          · rw [hnil]; exact hblk_new new r
        · have h4' : ¬ b4 = hb := fun e => h4 e.symm
          have h5' : ¬ b5 = hb := fun e => h5 e.symm
          have hle := hbk.le
          have hlen := hbk.len
          have hdc : cs.map (demote 194) = cs := dem_row (num_erase hbk.num) 194
          have hcap : ¬ cap = 0 := by
            intro e
            have : x.raw.length = 0 := by omega
            exact hne (List.length_eq_zero_iff.1 this)
          simp -implicitDefEqProofs [e6, e9, e10, e11, lh, hcap, hdc]
          refine ⟨by omega, by omega, by omega, fun hroom => ?_, fun hgrow b r hbn => ?_⟩
          · refine hk1 _ ⟨⟨by simp [e1, e2, e4, e5, e8], by simp [h4', l4], by simp [h5', l5, hd5], .inr ⟨hb, cap, splice cs (x.raw.length * 3) [I new.who, I new.src, I new.til], by simp, ?_, ?_, hblk_room hbk new hroom, h4, h5⟩⟩, by simp [e13]⟩
            · simp
            · simp [hnew]
          · have hne2 : ¬ b4 = b := by rintro rfl; rw [l4] at hbn; cases hbn
            have hne' : ¬ b = b4 := fun e => hne2 e.symm
            have h5b : ¬ b5 = b := by rintro rfl; rw [l5] at hbn; cases hbn
            have h5b' : ¬ b = b5 := fun e => h5b e.symm
            refine hk1 _ ⟨⟨by simp [e1, e2, e4, e5, e8], by simp [hne2, l4], by simp [h5b, l5, hd5], .inr ⟨b, x.raw.length + 1 + r, (cs.take (x.raw.length * 3)).map AV.erase0 ++ ([I new.who, I new.src, I new.til] ++ (List.replicate r [I 0, I 0, I 0]).flatten), by simp, ?_, ?_, hblk_grow hbk new r, hne', h5b'⟩⟩, by simp [e13]⟩
            · simp
            · rw [← hcell3]; simp
      rintro s ⟨hJ, e13⟩
      obtain ⟨e1, e2, e4, e5, e8⟩ := hJ.e
      simp -implicitDefEqProofs [e13, e8]
      exact ⟨i64 (by omega) (by omega), round_ok hlt ⟨_, hstep.trans hstepF, hU, ⟨by simp [e1, e2, e4, e5], by simp [hJ.l4], by simp [hJ.l5], hJ.hs.ext (by simp) (by simp)⟩, by simp⟩⟩
    · obtain rfl : i = order.length := by omega
      simp -implicitDefEqProofs
      exact hk0 _ ⟨x, hx, hU, hJ.ext (by simp) (by simp)⟩
  rintro s ⟨x, hx, hU, hJ⟩
  have hrl : x.raw.length = order.length := runUp_len _ _ hx
  have hsol : solveS c order = some x.raw := by rw [solve_run hN (under_all hU), hx]; rfl
  rw [hsol] at hR
  have hg1 := gaps_range c.printed x.raw
  obtain ⟨l, hl⟩ : ∃ l, l = x.raw := ⟨_, rfl⟩
  rw [← hl] at hR hJ hg1 hrl
  obtain ⟨e1, e2, e4, e5, e8⟩ := hJ.e
  have l4 := hJ.l4
  rcases hJ.hs with ⟨hnil, e6⟩ | ⟨hb, cap, cs, hne, e6, lh, hbk, h4, h5⟩
  · rw [hnil] at hR
    have hR0 : R = .agg [B true, HL [], I 1] := hR
    simp -implicitDefEqProofs [e6, e4, l4, r62, hR0]
  have hl0 : 0 < l.length := List.length_pos_iff.2 hne
  have h4' : ¬ b4 = hb := fun e => h4 e.symm
  have hlast : unknownS c l = gaps c.printed l + if (l[l.length - 1]).til < c.now then 1 else 0 := by
    unfold unknownS
    rw [if_neg hne]
    congr 1
    have : lastTil c.printed l = (l[l.length - 1]).til := by
      have e : l = l.take (l.length - 1) ++ [l[l.length - 1]] := by
        rw [← take_snoc (show l.length - 1 < l.length by omega), show l.length - 1 + 1 = l.length by omega, List.take_length]
      conv => lhs; rw [e]
      rw [lastTil_snoc]
    rw [this]
  refine cutS (fun st => st.env 2 = caseRef c ∧ st.env 4 = .mref b4 0 ∧ st.loc b4 = some [B false, .slice 3 [] 5001, I 0] ∧ st.env 6 = .mslice hb 0 l.length cap 3 ∧ st.loc hb = some cs) ?_ ?_
  · intro k hk
    have hz : ((l.length : Int) == 0) = false := by simp; omega
    simp -implicitDefEqProofs [e6, hz]
    exact hk _ (by simp [e2, e4, l4, e6, lh])
  rintro s ⟨e2, e4, l4, e6, lh⟩
  refine cutS (fun st => st.env 2 = caseRef c ∧ st.env 4 = .mref b4 0 ∧ st.loc b4 = some [B false, .slice 3 [] 5001, I 0] ∧ st.env 6 = .mslice hb 0 l.length cap 3 ∧ st.loc hb = some cs ∧ st.env 18 = I 0) ?_ ?_
  · intro k hk
    simp -implicitDefEqProofs
    exact hk _ (by simp [e2, e4, l4, e6, lh])
  rintro s ⟨e2, e4, l4, e6, lh, e18⟩
  refine cutS (fun st => st.env 2 = caseRef c ∧ st.env 4 = .mref b4 0 ∧ st.loc b4 = some [B false, .slice 3 [] 5001, I 0] ∧ st.env 6 = .mslice hb 0 l.length cap 3 ∧ st.loc hb = some cs ∧ st.env 18 = I (gaps c.printed (l.take 1))) ?_ ?_
  · intro k hk
    obtain ⟨hlt, g1, g2⟩ := hblk_get hbk hl0
    simp only [Nat.zero_mul, Nat.zero_add] at g1 hlt
    have hg0 : gaps c.printed (l.take 1) = if c.printed < l[0].src then 1 else 0 := by
      rw [show (1 : Nat) = 0 + 1 from rfl, take_snoc hl0]
      simp [gaps]
    have hlt1 : 1 < cs.length := by omega
    simp -implicitDefEqProofs [e2, e6, hl0, lh, hlt1, g1]
    refine cond_dec (fun hc => ?_) (fun hc => ?_)
    · rw [if_pos hc] at hg0
      simp -implicitDefEqProofs [e18]
      exact ⟨i64 (by omega) (by omega), hk _ (by simp [e2, e4, l4, e6, lh, hg0])⟩
    · rw [if_neg hc] at hg0
      simp -implicitDefEqProofs
      exact hk _ (by simp [e2, e4, l4, e6, lh, hg0, e18])
  rintro s ⟨e2, e4, l4, e6, lh, e18⟩
  refine cutS (fun st => st.env 2 = caseRef c ∧ st.env 4 = .mref b4 0 ∧ st.loc b4 = some [B false, .slice 3 [] 5001, I 0] ∧ st.env 6 = .mslice hb 0 l.length cap 3 ∧ (∃ cs, st.loc hb = some cs ∧ HBlk cs (cutL l) cap) ∧ st.env 18 = I (gaps c.printed l)) ?_ ?_
  · intro k0 hk0
    simp -implicitDefEqProofs
    refine loop_up (l.length - 1) (fun i st => st.env 2 = caseRef c ∧ st.env 4 = .mref b4 0 ∧ st.loc b4 = some [B false, .slice 3 [] 5001, I 0] ∧ st.env 6 = .mslice hb 0 l.length cap 3 ∧ (∃ cs, st.loc hb = some cs ∧ HBlk cs (cutN l i) cap) ∧ st.env 18 = I (gaps c.printed (l.take (i + 1))) ∧ st.env 19 = I i) ?_ ?_
    · exact ⟨by simp [e2], by simp [e4], by simp [l4], by simp [e6], ⟨cs, by simp [lh], hbk⟩, by simp [e18], by simp⟩
    rintro i s hi ⟨e2, e4, l4, e6, ⟨cs, lh, hbk⟩, e18, e19⟩
    have hlen := cutN_len l i
    simp -implicitDefEqProofs [e6, e19]
    refine ⟨i64 (by omega) (by omega), cond_dec (fun hlt => ?_) (fun hge => ?_)⟩
    · have hlt : i + 1 < l.length := by omega
      obtain ⟨p1, g1, g2⟩ := hblk_get hbk (i := i) (by omega)
      obtain ⟨p2, g3, g4⟩ := hblk_get hbk (i := i + 1) (by omega)
      have q1 : (cutN l i)[i]'(by omega) = l[i] := by rw [cutN_get, if_neg (by omega), List.getD_eq_getElem?_getD, List.getElem?_eq_getElem (show i < l.length by omega), Option.getD_some]
      have q2 : (cutN l i)[i + 1]'(by omega) = l[i + 1] := by rw [cutN_get, if_neg (by omega), List.getD_eq_getElem?_getD, List.getElem?_eq_getElem hlt, Option.getD_some]
      rw [q1] at g1 g2
      rw [q2] at g3 g4
      have hgt := gaps_take (p := c.printed) hlt
      have hset := hblk_set hbk (i := i) (by omega) (min l[i].til l[i + 1].src)
      have hce : (cutN l i).set i ⟨((cutN l i)[i]'(by omega)).who, ((cutN l i)[i]'(by omega)).src, min l[i].til l[i + 1].src⟩ = cutN l (i + 1) := by
        rw [q1]
        show _ = (cutN l i).set i _
        rw [List.getD_eq_getElem?_getD, List.getElem?_eq_getElem (show i < l.length by omega), Option.getD_some, List.getD_eq_getElem?_getD, List.getElem?_eq_getElem hlt, Option.getD_some]
        rfl
      rw [hce] at hset
      have hg2 := gaps_range c.printed (l.take (i + 1))
      rw [List.length_take] at hg2
      generalize l[i] = a at *
      generalize l[i + 1] = b at *
      have p3 : (i + 1) * 3 + 1 < cs.length := by omega
      have hii : ((i : Int) + 1).toNat = i + 1 := by omega
      have m1 : (if b.src < a.til then b.src else a.til) = min a.til b.src := by split <;> omega
      have hil : i < l.length := by omega
      have hle2 : (i : Int) < l.length := by omega
      have hle3 : (i : Int) + 1 < l.length := by omega
      refine stepB ?_
      refine cutS (fun st => st.env 2 = caseRef c ∧ st.env 4 = .mref b4 0 ∧ st.loc b4 = some [B false, .slice 3 [] 5001, I 0] ∧ st.env 6 = .mslice hb 0 l.length cap 3 ∧ st.loc hb = some cs ∧ st.env 18 = I (gaps c.printed (l.take (i + 2))) ∧ st.env 19 = I i) ?_ ?_
      · intro k1 hk1
        simp -implicitDefEqProofs [e6, e19, hle3, hii, hil, lh, p1, p3, g2, g3]
        refine ⟨i64 (by omega) (by omega), by omega, cond_dec (fun hc => ?_) (fun hc => ?_)⟩
        · rw [if_pos hc] at hgt
          simp -implicitDefEqProofs [e18]
          exact ⟨i64 (by omega) (by omega), hk1 _ (by simp [e2, e4, l4, e6, lh, e19, hgt])⟩
        · rw [if_neg hc, Int.add_zero] at hgt
          simp -implicitDefEqProofs
          exact hk1 _ (by simp [e2, e4, l4, e6, lh, e19, hgt, e18])
      rintro s ⟨e2, e4, l4, e6, lh, e18, e19⟩
      simp -implicitDefEqProofs [e6, e19, hle3, hii, hil, lh, p1, p3, g2, g3, m1, apartAV]
      refine ⟨i64 (by omega) (by omega), by omega, by omega, i64 (by omega) (by omega), round_ok (by omega) ?_⟩
      exact ⟨by simp [e2], by simp [e4], by simp [l4, h4'], by simp [e6], ⟨_, by simp, hset⟩, by simp [e18], by simp⟩
    · obtain rfl : i = l.length - 1 := by omega
      rw [cutN_all] at hbk
      rw [show l.length - 1 + 1 = l.length by omega, List.take_length] at e18
      simp -implicitDefEqProofs
      exact hk0 _ ⟨by simp [e2], by simp [e4], by simp [l4], by simp [e6], ⟨cs, by simp [lh], hbk⟩, by simp [e18]⟩
  rintro s ⟨e2, e4, l4, e6, ⟨cs, lh, hbk⟩, e18⟩
  have hle := hbk.le
  have hlen := hbk.len
  rw [cutL_len] at hle
  have hR0 : R = .agg [B true, HL (cutL l), I (unknownS c l)] := hR
  refine cutS (fun st => st.env 4 = .mref b4 0 ∧ st.loc b4 = some [B false, .slice 3 [] 5001, I 0] ∧ st.env 6 = HL (cutL l) ∧ st.env 18 = I (unknownS c l)) ?_ ?_
  · intro k hk
    obtain ⟨p1, g1, g2⟩ := hblk_get hbk (i := l.length - 1) (by rw [cutL_len]; omega)
    have q1 : (cutL l)[l.length - 1]'(by rw [cutL_len]; omega) = l[l.length - 1] := by
      rw [cutL_get, if_neg (by omega), List.getD_eq_getElem?_getD, List.getElem?_eq_getElem (show l.length - 1 < l.length by omega), Option.getD_some]
    rw [q1] at g2
    generalize l[l.length - 1] = a at *
    have hii : ((l.length : Int) - 1).toNat = l.length - 1 := by omega
    have hch := chunk_hcells (cutL l) cs hbk.cells
    rw [cutL_len] at hch
    simp -implicitDefEqProofs [e2, e6, hii, lh, p1, g2, hl0]
    have hg2 := gaps_range c.printed l
    refine ⟨i64 (by omega) (by omega), by omega, by omega, by omega, fun x hx => by obtain ⟨m, rfl⟩ := hbk.num x hx; rfl, by omega, cond_dec (fun hc => ?_) (fun hc => ?_)⟩
    · rw [if_pos hc] at hlast
      simp -implicitDefEqProofs [upd, e18]
      exact ⟨i64 (by omega) (by omega), hk _ (by simp [upd, e4, l4, h4', hch, hlast])⟩
    · rw [if_neg hc, Int.add_zero] at hlast
      simp -implicitDefEqProofs
      exact hk _ (by simp [upd, e4, l4, h4', hch, hlast, e18])
  rintro s ⟨e4, l4, e6, e18⟩
  simp -implicitDefEqProofs [e4, l4, e6, e18, r62, hR0]
end Go.Proofs.Ytiampdiobdianaa

