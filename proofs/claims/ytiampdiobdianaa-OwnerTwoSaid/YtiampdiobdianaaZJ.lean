/- Contracts of the reference: Both. Contracts of the reference: Without. Contracts of the reference: Lists, Forged; Same. -/
import Derived.Test.YtiampdiobdianaaZI
namespace Go.Proofs.Ytiampdiobdianaa
open Go.Avm

theorem names_ne {d : Case} (h : errE d = 0) {i j : Nat} (hij : i < j) (hj : j < d.owners.length) : sEq (d.owners[i]'(by omega)).name d.owners[j].name = false := by
  have h4 := (checkS_part h).1.h4 j hj
  unfold ownE at h4
  rw [ower_at hj] at h4
  simp only at h4
  split at h4
  · rename_i h1; exact absurd h4 h1
  rename_i h1
  have h1 := Decidable.not_not.1 h1
  unfold namedE at h1
  split at h1
  · split at h1
    · cases h1
    · rename_i h2
      have h2 : ((d.owners.take j).map Ower.name).any (fun s => sEq s d.owners[j].name) = false := by simpa using h2
      rw [List.any_eq_false] at h2
      have h3 := h2 (d.owners[i]'(by omega)).name (by
        rw [List.mem_map]
        exact ⟨_, List.mem_take_iff_getElem.2 ⟨i, by omega, rfl⟩, rfl⟩)
      simpa using h3
  · cases h1
theorem selT_lt (q : Nat → Bool) (n : Nat) : (selT q n).Pairwise (· < ·) := by
  unfold selT
  rw [List.pairwise_map]
  exact (List.pairwise_lt_range.filter q).imp fun h => by omega
theorem selT_get_lt {q : Nat → Bool} {n i j : Nat} (hij : i < j) (hj : j < (selT q n).length) : (selT q n)[i]'(by omega) < (selT q n)[j] := List.pairwise_iff_getElem.1 (selT_lt q n) i j (by omega) hj hij
theorem owned_name {d : Case} {y : Int} {k : Nat} (h : k < (ownedS d y).length) : ∃ j : Nat, ∃ hj : j < d.owners.length, (ownedS d y)[k] = j ∧ nameAt d (ownedS d y)[k] = d.owners[j].name := by
  obtain ⟨j, h1, h2⟩ := owned_in h
  refine ⟨j, h2, h1, ?_⟩
  rw [h1]; unfold nameAt owerAt
  rw [Int.toNat_natCast, ower_at h2]
theorem owned_uniq {d : Case} (h : errE d = 0) {y : Int} {i j : Nat} (hij : i < j) (hj : j < (ownedS d y).length) (nm : ByteArray) (h1 : sEq nm (nameAt d ((ownedS d y)[i]'(by omega))) = true) : sEq nm (nameAt d (ownedS d y)[j]) = false := by
  obtain ⟨a, ha, ha1, ha2⟩ := owned_name (k := i) (d := d) (y := y) (by omega)
  obtain ⟨b, hb, hb1, hb2⟩ := owned_name (k := j) (d := d) (y := y) hj
  have hlt : (ownedS d y)[i]'(by omega) < (ownedS d y)[j] := selT_get_lt hij hj
  have hab : a < b := by omega
  have hne := names_ne h hab hb
  rw [ha2] at h1
  rw [hb2]
  have e1 : sEq d.owners[a].name nm = true := by rw [sEq_comm]; exact h1
  have := sEq_trans (c := d.owners[b].name) e1
  rw [sEq_comm d.owners[b].name d.owners[a].name, hne, sEq_comm] at this
  exact this.symm
theorem any_snoc {α : Type} (p : α → Bool) {l : List α} {k : Nat} (hk : k < l.length) : (l.take (k + 1)).any p = ((l.take k).any p || p l[k]) := by
  rw [take_snoc hk, List.any_append]; simp

def hitL (d : Case) (nm : ByteArray) (l : List Int) : Bool := l.any fun p => sEq nm (nameAt d p)
theorem both32_ok (c d : Case) (y : Int) : PCall Try.prog 32 [encCase c, encCase d, I y] (encLR (bothR c d y)) := by
  refine pcall Try.func32 tr32 rs32 fn32 (by simp [Try.ntmps32]) fun _ => ?_
  have c0 := checkR_ok c
  have d0 := checkR_ok d
  obtain ⟨R, hR⟩ : ∃ R, R = bothR c d y := ⟨_, rfl⟩
  rw [← hR]
  unfold bothR at hR
  simp -implicitDefEqProofs only [m32]
  refine cutS (fun st => st.env 2 = I y ∧ st.env 3 = caseRef c ∧ st.env 4 = caseRef d) ?_ ?_
  · intro k hk
    simp -implicitDefEqProofs
    exact hk _ (by simp)
  rintro s ⟨e2, e3, e4⟩
  refine cutS (fun st => st.env 2 = I y ∧ st.env 3 = caseRef c ∧ st.env 4 = caseRef d ∧ st.env 10 = I (errE c)) ?_ ?_
  · intro k hk
    simp -implicitDefEqProofs [e3]
    refine vCall_of c0 ?_
    simp -implicitDefEqProofs [T3]
    exact hk _ (by simp [e2, e3, e4])
  rintro s ⟨e2, e3, e4, e10⟩
  obtain ⟨E1, hE1⟩ : ∃ E, E = if errE c ≠ 0 then errE c else errE d := ⟨_, rfl⟩
  refine cutS (fun st => st.env 2 = I y ∧ st.env 3 = caseRef c ∧ st.env 4 = caseRef d ∧ st.env 10 = I E1) ?_ ?_
  · intro k hk
    have hk : ∀ s' : St, s'.env 2 = I y ∧ s'.env 3 = caseRef c ∧ s'.env 4 = caseRef d ∧ s'.env 10 = I E1 → k s' := hk
    by_cases he : errE c = 0
    · rw [if_neg (not_not_intro he)] at hE1
      rw [he] at e10
      simp -implicitDefEqProofs [e4, e10]
      refine vCall_of d0 ?_
      simp -implicitDefEqProofs [T3]
      exact hk _ (by simp [e2, e3, e4, hE1])
    · rw [if_pos he] at hE1
      have he' : (errE c == 0) = false := by simp [he]
      simp -implicitDefEqProofs [e10, he']
      exact hk _ ⟨by simp [e2], by simp [e3], by simp [e4], by simp [e10, hE1]⟩
  rintro s ⟨e2, e3, e4, e10⟩
  have h1 : E1 = 0 → errE c = 0 ∧ errE d = 0 := by
    intro h
    by_cases he : errE c = 0
    · rw [if_neg (not_not_intro he)] at hE1; exact ⟨he, by omega⟩
    · rw [if_pos he] at hE1; omega
  have hO : out (max c.printed d.printed) (min c.now d.now) [y] = !(decide (c.printed ≤ y ∧ y ≤ c.now) && decide (d.printed ≤ y ∧ y ≤ d.now)) := by
    rw [out1, Bool.eq_iff_iff]
    simp
    omega
  obtain ⟨E2, hE2⟩ : ∃ E, E = if E1 ≠ 0 then E1 else if out (max c.printed d.printed) (min c.now d.now) [y] then 7 else 0 := ⟨_, rfl⟩
  refine cutS (fun st => st.env 2 = I y ∧ st.env 3 = caseRef c ∧ st.env 4 = caseRef d ∧ st.env 10 = I E2) ?_ ?_
  · intro k hk
    have hk : ∀ s' : St, s'.env 2 = I y ∧ s'.env 3 = caseRef c ∧ s'.env 4 = caseRef d ∧ s'.env 10 = I E2 → k s' := hk
    by_cases he : E1 = 0
    case neg =>
      rw [if_pos he] at hE2
      have he' : (E1 == 0) = false := by simp [he]
      simp -implicitDefEqProofs [e10, he']
      exact hk _ ⟨by simp [e2], by simp [e3], by simp [e4], by simp [e10, hE2]⟩
    rw [if_neg (not_not_intro he), hO] at hE2
    rw [he] at e10
    simp -implicitDefEqProofs [e2, e3, e10]
    refine vCall_of (in_ok y c.printed c.now) ?_
    by_cases hi : c.printed ≤ y ∧ y ≤ c.now
    · rw [decide_eq_true hi] at hE2 ⊢
      simp -implicitDefEqProofs [e2, e4]
      refine vCall_of (in_ok y d.printed d.now) ?_
      by_cases hj : d.printed ≤ y ∧ y ≤ d.now
      · rw [decide_eq_true hj] at hE2 ⊢
        simp -implicitDefEqProofs
        exact hk _ ⟨by simp [e2], by simp [e3], by simp [e4], by simp [e10, hE2]⟩
      · rw [decide_eq_false hj] at hE2 ⊢
        simp -implicitDefEqProofs
        exact hk _ ⟨by simp [e2], by simp [e3], by simp [e4], by simp [hE2]⟩
    · rw [decide_eq_false hi] at hE2 ⊢
      simp -implicitDefEqProofs
      exact hk _ ⟨by simp [e2], by simp [e3], by simp [e4], by simp [hE2]⟩
  rintro s ⟨e2, e3, e4, e10⟩
  have h2 : E2 = 0 → E1 = 0 ∧ out (max c.printed d.printed) (min c.now d.now) [y] = false := by
    intro h
    by_cases he : E1 = 0
    · rw [if_neg (not_not_intro he)] at hE2
      refine ⟨he, ?_⟩
      cases ho : out (max c.printed d.printed) (min c.now d.now) [y] with
      | false => rfl
      | true => rw [ho, if_pos rfl] at hE2; omega
    · rw [if_pos he] at hE2; omega
  obtain ⟨E3, hE3⟩ : ∃ E, E = if E2 ≠ 0 then E2 else if someB c = false ∨ someB d = false then 8 else 0 := ⟨_, rfl⟩
  refine cutS (fun st => st.env 2 = I y ∧ st.env 3 = caseRef c ∧ st.env 4 = caseRef d ∧ st.env 10 = I E3) ?_ ?_
  · intro k hk
    have hk : ∀ s' : St, s'.env 2 = I y ∧ s'.env 3 = caseRef c ∧ s'.env 4 = caseRef d ∧ s'.env 10 = I E3 → k s' := hk
    by_cases he : E2 = 0
    case neg =>
      rw [if_pos he] at hE3
      have he' : (E2 == 0) = false := by simp [he]
      simp -implicitDefEqProofs [e10, he']
      exact hk _ ⟨by simp [e2], by simp [e3], by simp [e4], by simp [e10, hE3]⟩
    rw [if_neg (not_not_intro he)] at hE3
    rw [he] at e10
    obtain ⟨hc0, hd0⟩ := h1 (h2 he).1
    have hA := someB_all c
    have hB := someB_all d
    simp -implicitDefEqProofs [e3, e10]
    refine vCall_of (all72_ok (Case.ok hc0)) ?_
    cases hsc : someB c with
    | false =>
      rw [hsc] at hA
      rw [if_pos (.inl hsc)] at hE3
      simp -implicitDefEqProofs [hA]
      exact hk _ ⟨by simp [e2], by simp [e3], by simp [e4], by simp [hE3]⟩
    | true =>
      rw [hsc] at hA
      simp -implicitDefEqProofs [hA, e4]
      refine vCall_of (all72_ok (Case.ok hd0)) ?_
      cases hsd : someB d with
      | false =>
        rw [hsd] at hB
        rw [if_pos (.inr hsd)] at hE3
        simp -implicitDefEqProofs [hB]
        exact hk _ ⟨by simp [e2], by simp [e3], by simp [e4], by simp [hE3]⟩
      | true =>
        rw [hsd] at hB
        rw [hsc, hsd, if_neg (by simp)] at hE3
        simp -implicitDefEqProofs [hB]
        exact hk _ ⟨by simp [e2], by simp [e3], by simp [e4], by simp [e10, hE3]⟩
  rintro s ⟨e2, e3, e4, e10⟩
  have h3 : E3 = 0 → E2 = 0 ∧ someB c = true ∧ someB d = true := by
    intro h
    by_cases he : E2 = 0
    · rw [if_neg (not_not_intro he)] at hE3
      refine ⟨he, ?_⟩
      cases hsc : someB c <;> cases hsd : someB d <;> rw [hsc, hsd] at hE3 <;> simp at hE3 <;> first | exact ⟨rfl, rfl⟩ | omega
    · rw [if_pos he] at hE3; omega
  have hRE : R = if E3 ≠ 0 then ⟨[], E3⟩ else ⟨bothL c d y, 0⟩ := by
    rw [hR]
    by_cases he : errE c = 0
    case neg =>
      rw [if_pos he] at hE1
      have : E2 = errE c := by rw [hE2, if_pos (by omega), hE1]
      have h3 : E3 = errE c := by rw [hE3, if_pos (by omega), this]
      rw [if_pos he, h3, if_pos he]
    rw [if_neg (not_not_intro he)] at hE1 ⊢
    by_cases hd : errE d = 0
    case neg =>
      have : E2 = errE d := by rw [hE2, if_pos (by omega), hE1]
      have h3 : E3 = errE d := by rw [hE3, if_pos (by omega), this]
      rw [if_pos hd, h3, if_pos hd]
    rw [if_neg (not_not_intro hd)]
    rw [if_neg (by omega)] at hE2
    cases ho : out (max c.printed d.printed) (min c.now d.now) [y] with
    | true =>
      rw [ho, if_pos rfl] at hE2
      have h3 : E3 = 7 := by rw [hE3, if_pos (by omega), hE2]
      rw [if_pos rfl, h3, if_pos (by omega)]
    | false =>
      rw [ho, if_neg (by simp)] at hE2
      rw [if_neg (by omega)] at hE3
      rw [if_neg (by simp)]
      by_cases hb : someB c = false ∨ someB d = false
      · rw [if_pos hb] at hE3 ⊢
        rw [hE3, if_pos (by omega)]
      · rw [if_neg hb] at hE3 ⊢
        rw [hE3, if_neg (not_not_intro rfl)]
  by_cases h0 : E3 = 0
  case neg =>
    rw [if_pos h0] at hRE
    have he' : (E3 != 0) = true := by simp [h0]
    simp -implicitDefEqProofs [e10, he', r32, hRE]
  obtain ⟨hz2, hsc, hsd⟩ := h3 h0
  obtain ⟨hz1, ho⟩ := h2 hz2
  obtain ⟨hc0, hd0⟩ := h1 hz1
  rw [h0, if_neg (not_not_intro rfl)] at hRE
  rw [h0] at e10
  have hi := out_no ho y (by simp)
  have hoc : out c.printed c.now [y] = false := out_none (by simp; omega)
  have hod : out d.printed d.now [y] = false := out_none (by simp; omega)
  have hcl : PCall Try.prog 29 [encCase c, I y] (.tuple [IL (ownedS c y), I 0]) := by
    have := owned29_ok c y
    unfold ownedR at this
    rwa [if_neg (not_not_intro hc0), hoc, if_neg (by simp), hsc, if_neg (by simp)] at this
  have hdl : PCall Try.prog 29 [encCase d, I y] (.tuple [IL (ownedS d y), I 0]) := by
    have := owned29_ok d y
    unfold ownedR at this
    rwa [if_neg (not_not_intro hd0), hod, if_neg (by simp), hsd, if_neg (by simp)] at this
  unfold bothL at hRE
  have inC := fun k h => owned_name (d := c) (y := y) (k := k) h
  have inD := fun k h => owned_name (d := d) (y := y) (k := k) h
  have uD : ∀ i j (hi : i < (ownedS d y).length) (hj : j < (ownedS d y).length), i < j → ∀ nm, sEq nm (nameAt d (ownedS d y)[i]) = true → sEq nm (nameAt d (ownedS d y)[j]) = false := fun i j _ hj hij nm => owned_uniq hd0 hij hj nm
  have lC : (ownedS c y).length ≤ 6 := Nat.le_trans (selT_len _ _) (Case.ok hc0).ownersLen
  have lD : (ownedS d y).length ≤ 6 := Nat.le_trans (selT_len _ _) (Case.ok hd0).ownersLen
  generalize ownedS c y = L at *
  generalize ownedS d y = M at *
  refine cutS (fun st => st.env 2 = I y ∧ st.env 3 = caseRef c ∧ st.env 4 = caseRef d) ?_ ?_
  · intro k hk
    simp -implicitDefEqProofs [e10]
    exact hk _ (by simp [e2, e3, e4])
  rintro s ⟨e2, e3, e4⟩
  refine cutS (fun st => st.env 2 = I y ∧ st.env 3 = caseRef c ∧ st.env 4 = caseRef d ∧ st.env 11 = IL L) ?_ ?_
  · intro k hk
    simp -implicitDefEqProofs [e2, e3]
    refine vCall_of hcl ?_
    simp -implicitDefEqProofs
    exact hk _ (by simp [e2, e3, e4])
  rintro s ⟨e2, e3, e4, e11⟩
  refine cutS (fun st => st.env 3 = caseRef c ∧ st.env 4 = caseRef d ∧ st.env 11 = IL L ∧ st.env 13 = IL M) ?_ ?_
  · intro k hk
    simp -implicitDefEqProofs [e2, e4]
    refine vCall_of hdl ?_
    simp -implicitDefEqProofs
    exact hk _ (by simp [e3, e4, e11])
  rintro s ⟨e3, e4, e11, e13⟩
  refine cutS (fun st => st.env 3 = caseRef c ∧ st.env 4 = caseRef d ∧ st.env 11 = IL L ∧ st.env 13 = IL M ∧ st.env 15 = .slice 1 [] 16) ?_ ?_
  · intro k hk
    simp -implicitDefEqProofs
    exact hk _ (by simp [e3, e4, e11, e13])
  rintro s ⟨e3, e4, e11, e13, e15⟩
  refine cutS (fun st => st.env 15 = .slice 1 (R.l.map I) 16) ?_ ?_
  · intro k0 hk0
    simp -implicitDefEqProofs
    refine loop_up L.length (fun k st => st.env 3 = caseRef c ∧ st.env 4 = caseRef d ∧ st.env 11 = IL L ∧ st.env 13 = IL M ∧ st.env 15 = .slice 1 (((L.take k).filter fun o => M.any fun p => sEq (nameAt c o) (nameAt d p)).map I) 16 ∧ st.env 16 = I k) ?_ ?_
    · simp [e3, e4, e11, e13, e15]
    rintro k s hk ⟨e3, e4, e11, e13, e15, e16⟩
    simp -implicitDefEqProofs [e11, e16]
    refine cond_dec (fun hlt => ?_) (fun hge => ?_)
    · have hlt : k < L.length := by omega
      obtain ⟨j, hjl, hj, hnm⟩ := inC k hlt
      have hsn : (L.take (k + 1)).filter (fun o => M.any fun p => sEq (nameAt c o) (nameAt d p)) = (L.take k).filter (fun o => M.any fun p => sEq (nameAt c o) (nameAt d p)) ++ if hitL d c.owners[j].name M then [(j : Int)] else [] := by
        rw [take_snoc hlt, List.filter_append]
        congr 1
        rw [← hj, List.filter_cons, hnm]
        rfl
      have hfl : ((L.take k).filter (fun o => M.any fun p => sEq (nameAt c o) (nameAt d p))).length ≤ 6 := by
        refine Nat.le_trans (List.length_filter_le _ _) ?_
        rw [List.length_take]; omega
      generalize (L.take k).filter (fun o => M.any fun p => sEq (nameAt c o) (nameAt d p)) = F at *
      generalize hnmj : c.owners[j].name = nm at *
      simp -implicitDefEqProofs
      refine loop_up M.length (fun q st => st.env 3 = caseRef c ∧ st.env 4 = caseRef d ∧ st.env 11 = IL L ∧ st.env 13 = IL M ∧ st.env 15 = .slice 1 ((F ++ if hitL d nm (M.take q) then [(j : Int)] else []).map I) 16 ∧ st.env 16 = I k ∧ st.env 17 = I q) ?_ ?_
      · simp [e3, e4, e11, e13, e15, e16, hitL]
      rintro q s hq ⟨e3, e4, e11, e13, e15, e16, e17⟩
      simp -implicitDefEqProofs [e13, e17]
      refine cond_dec (fun hlt2 => ?_) (fun hge2 => ?_)
      · have hlt2 : q < M.length := by omega
        obtain ⟨i, hil, hi', hnmd⟩ := inD q hlt2
        have has : hitL d nm (M.take (q + 1)) = (hitL d nm (M.take q) || sEq nm (nameAt d M[q])) := any_snoc _ hlt2
        have hprev : sEq nm (nameAt d M[q]) = true → hitL d nm (M.take q) = false := by
          intro hm
          unfold hitL
          rw [List.any_eq_false]
          intro p hp
          obtain ⟨r, hr, rfl⟩ := List.mem_take_iff_getElem.1 hp
          intro hq2
          have := uD r q (by omega) hlt2 (by omega) nm hq2
          rw [this] at hm; cases hm
        rw [hnmd] at has hprev
        have hE : sEq nm d.owners[i].name = (nm.toList == d.owners[i].name.toList) := rfl
        generalize hnmi : d.owners[i].name = ni at *
        generalize hA2 : hitL d nm (M.take (q + 1)) = A2 at *
        cases hm : sEq nm ni with
        | true =>
          have hA := hprev hm
          rw [hA] at has e15
          rw [hm] at has hE
          have has : A2 = true := has
          simp -implicitDefEqProofs [e3, e4, e11, e13, e16, e17, hlt, hlt2, hj, hi', hjl, hil, hnmj, hnmi, ← hE]
          simp only [Bool.false_eq_true, if_false, List.append_nil] at e15
          simp -implicitDefEqProofs [e15]
          refine ⟨by omega, by omega, i64 (by omega) (by omega), round_ok hlt2 ?_⟩
          rw [hA2, has]
          exact ⟨by simp [e3], by simp [e4], by simp [e11], by simp [e13], by simp, by simp [e16], by simp⟩
        | false =>
          rw [hm] at has hE
          rw [Bool.or_false] at has
          simp -implicitDefEqProofs [e3, e4, e11, e13, e16, e17, hlt, hlt2, hj, hi', hjl, hil, hnmj, hnmi, ← hE]
          refine ⟨i64 (by omega) (by omega), round_ok hlt2 ?_⟩
          rw [hA2, has]
          exact ⟨by simp [e3], by simp [e4], by simp [e11], by simp [e13], by simp [e15], by simp [e16], by simp⟩
      · obtain rfl : q = M.length := by omega
        rw [List.take_length] at e15
        simp -implicitDefEqProofs [e16]
        refine ⟨i64 (by omega) (by omega), round_ok hlt ?_⟩
        rw [hsn]
        exact ⟨by simp [e3], by simp [e4], by simp [e11], by simp [e13], by simp [e15], by simp⟩
    · obtain rfl : k = L.length := by omega
      rw [List.take_length] at e15
      simp -implicitDefEqProofs
      exact hk0 _ (by simp [e15, hRE])
  intro s e15
  simp -implicitDefEqProofs [e15, r32, hRE]
end Go.Proofs.Ytiampdiobdianaa

namespace Go.Proofs.Ytiampdiobdianaa
open Go.Avm

def inL (l : List Int) (i : Nat) : Bool := decide ((i : Int) ∈ l)
def ixR (p : Nat → Bool) (k : Nat) (j : Nat) : Int := if j < k ∧ p j = false then keptN p j else 0
structure WR (c : Case) (out : List Int) (p : Nat → Bool) (b2 b4 b5 k : Nat) (s : St) : Prop where
  e : s.env 1 = IL out ∧ s.env 2 = .mref b2 0 ∧ s.env 4 = .mref b4 0 ∧ s.env 5 = .mslice b5 0 c.marks.length c.marks.length 1 ∧ s.env 6 = .slice 4 ((wUp c.marks p k).map encMark) 7 ∧ s.env 7 = I k
  l2 : s.loc b2 = some (caseCells c)
  l4 : s.loc b4 = some [I 0, I 0, .slice 3 [] 5002, .slice 4 [] 5003, .slice 3 [] 5004]
  l5 : s.loc b5 = some (cl c.marks.length (ixR p k))

theorem without48_ok {c : Case} (h : c.OK) (out : List Int) : PCall Try.prog 48 [encCase c, IL out] (encCase (withoutC c (inL out))) := by
  refine pcall Try.func48 tr48 rs48 fn48 (by simp [Try.ntmps48]) fun _ => ?_
  have hm9 := h.marksLen
  obtain ⟨p, hpp⟩ : ∃ p, p = inL out := ⟨_, rfl⟩
  rw [← hpp]
  have hres : encCase (withoutC c p) = .agg [I c.printed, I c.now, .slice 3 (c.owners.map encOwner) 0, .slice 4 ((wUp c.marks p c.marks.length).map encMark) 0, .slice 3 (c.sales.map encSale) 0] := rfl
  rw [hres]
  have hp : ∀ k : Nat, decide ((k : Int) ∈ out) = p k := fun _ => by rw [hpp]; rfl
  simp -implicitDefEqProofs only [m48]
  refine cutS (fun st => st.env 1 = IL out ∧ ∃ b2 b4, st.env 2 = .mref b2 0 ∧ st.loc b2 = some (caseCells c) ∧ st.env 4 = .mref b4 0 ∧ st.loc b4 = some [I 0, I 0, .slice 3 [] 5002, .slice 4 [] 5003, .slice 3 [] 5004] ∧ b2 ≠ b4) ?_ ?_
  · intro k hk
    simp -implicitDefEqProofs
    intro b2 b4 h4
    have h24 : ¬ b2 = b4 := by rintro rfl; simp at h4
    exact hk _ ⟨by simp, b2, b4, by simp, by simp [h24], by simp, by simp, h24⟩
  rintro s ⟨e1, b2, b4, e2, l2, e4, l4, h24⟩
  have h42 : ¬ b4 = b2 := fun e => h24 e.symm
  refine cutS (fun st => st.env 1 = IL out ∧ st.env 2 = .mref b2 0 ∧ st.loc b2 = some (caseCells c) ∧ st.env 4 = .mref b4 0 ∧ st.loc b4 = some [I 0, I 0, .slice 3 [] 5002, .slice 4 [] 5003, .slice 3 [] 5004] ∧ ∃ b5, st.env 5 = .mslice b5 0 c.marks.length c.marks.length 1 ∧ st.loc b5 = some (cl c.marks.length fun _ => 0) ∧ b5 ≠ b2 ∧ b5 ≠ b4) ?_ ?_
  · intro k hk
    simp -implicitDefEqProofs [e2, l2]
    refine ⟨by omega, by omega, fun b hb => ?_⟩
    have h2b : ¬ b2 = b := by rintro rfl; rw [l2] at hb; cases hb
    have h4b : ¬ b4 = b := by rintro rfl; rw [l4] at hb; cases hb
    refine hk _ ⟨by simp [e1], by simp [e2], by simp [l2, h2b], by simp [e4], by simp [l4, h4b], b, by simp, ?_, fun e => h2b e.symm, fun e => h4b e.symm⟩
    rw [← rep_cl]
    simp
  rintro s ⟨e1, e2, l2, e4, l4, b5, e5, l5, h52, h54⟩
  have h25 : ¬ b2 = b5 := fun e => h52 e.symm
  have h45 : ¬ b4 = b5 := fun e => h54 e.symm
  refine cutS (fun st => st.env 1 = IL out ∧ st.env 2 = .mref b2 0 ∧ st.loc b2 = some (caseCells c) ∧ st.env 4 = .mref b4 0 ∧ st.loc b4 = some [I 0, I 0, .slice 3 [] 5002, .slice 4 [] 5003, .slice 3 [] 5004] ∧ st.env 5 = .mslice b5 0 c.marks.length c.marks.length 1 ∧ st.loc b5 = some (cl c.marks.length fun _ => 0) ∧ st.env 6 = .slice 4 [] 7) ?_ ?_
  · intro k hk
    simp -implicitDefEqProofs
    exact hk _ (by simp [e1, e2, l2, e4, l4, e5, l5, cl_dem])
  rintro s ⟨e1, e2, l2, e4, l4, e5, l5, e6⟩
  refine cutS (fun st => WR c out p b2 b4 b5 c.marks.length st) ?_ ?_
  · intro k0 hk0
    simp -implicitDefEqProofs
    refine loop_up c.marks.length (fun k st => WR c out p b2 b4 b5 k st) ?_ ?_
    · have h0 : ixR p 0 = fun _ => 0 := by funext j; simp [ixR]
      exact ⟨by simp [e1, e2, e4, e5, e6, wUp], by simp [l2], by simp [l4], by rw [h0]; simp [l5]⟩
    rintro k s hk hJ
    obtain ⟨e1, e2, e4, e5, e6, e7⟩ := hJ.e
    have l2 := hJ.l2
    have l4 := hJ.l4
    have l5 := hJ.l5
    simp -implicitDefEqProofs [e2, e7, l2]
    refine cond_dec (fun hlt => ?_) (fun hge => ?_)
    · have hlt : k < c.marks.length := by omega
      have hup := h.upon k hlt
      have hsuc : wUp c.marks p (k + 1) = wUp c.marks p k ++ if p k then [] else [fixM p c.marks[k]] := by
        show _ ++ _ = _
        rw [mk_at hlt]
      have hlen := wUp_len c.marks p k
      have hkn := keptN_le p k
      have hpk := hp k
      have hpu : ∀ v : Nat, decide ((v : Int) ∈ out) = p v := hp
      generalize hm : c.marks[k] = m at *
      refine stepB ?_
      cases hpc : p k with
      | true =>
        rw [hpc] at hpk
        rw [hpc, if_pos rfl, List.append_nil] at hsuc
        have hix : ixR p k = ixR p (k + 1) := by
          funext j
          unfold ixR
          by_cases e : j = k
          · subst e; rw [if_neg (by omega), if_neg (by rw [hpc]; simp)]
          · by_cases e2 : j < k ∧ p j = false
            · rw [if_pos e2, if_pos ⟨by omega, e2.2⟩]
            · rw [if_neg e2, if_neg (by intro e3; exact e2 ⟨by omega, e3.2⟩)]
        simp -implicitDefEqProofs [e1, e7]
        refine vCall_of (has_ok out k) ?_
        rw [hpk]
        simp -implicitDefEqProofs [e7]
        refine ⟨i64 (by omega) (by omega), round_ok hlt ⟨?_, by simp [l2], by simp [l4], by rw [← hix]; simp [l5]⟩⟩
        rw [hsuc]
        simp [e1, e2, e4, e5, e6]
      | false =>
        rw [hpc] at hpk
        rw [hpc] at hsuc
        simp only [Bool.false_eq_true, if_false] at hsuc
        have hix : cl c.marks.length (fun j => if j = k then (keptN p k : Int) else ixR p k j) = cl c.marks.length (ixR p (k + 1)) := cl_congr fun g _ => by
          unfold ixR
          by_cases e : g = k
          · subst e; rw [if_pos rfl, if_pos ⟨by omega, hpc⟩]
          · rw [if_neg e]
            by_cases e2 : g < k ∧ p g = false
            · rw [if_pos e2, if_pos ⟨by omega, e2.2⟩]
            · rw [if_neg e2, if_neg (by intro e3; exact e2 ⟨by omega, e3.2⟩)]
        refine cutS (fun st => st.env 1 = IL out ∧ st.env 2 = .mref b2 0 ∧ st.env 4 = .mref b4 0 ∧ st.env 5 = .mslice b5 0 c.marks.length c.marks.length 1 ∧ st.env 6 = .slice 4 ((wUp c.marks p k).map encMark) 7 ∧ st.env 7 = I k ∧ st.loc b2 = some (caseCells c) ∧ st.loc b4 = some [I 0, I 0, .slice 3 [] 5002, .slice 4 [] 5003, .slice 3 [] 5004] ∧ st.loc b5 = some (cl c.marks.length (ixR p k))) ?_ ?_
        · intro k1 hk1
          simp -implicitDefEqProofs [e1, e7]
          refine vCall_of (has_ok out k) ?_
          rw [hpk]
          simp -implicitDefEqProofs
          exact hk1 _ (by simp [e1, e2, e4, e5, e6, e7, l2, l4, l5])
        rintro s ⟨e1, e2, e4, e5, e6, e7, l2, l4, l5⟩
        refine cutS (fun st => st.env 1 = IL out ∧ st.env 2 = .mref b2 0 ∧ st.env 4 = .mref b4 0 ∧ st.env 5 = .mslice b5 0 c.marks.length c.marks.length 1 ∧ st.env 6 = .slice 4 ((wUp c.marks p k).map encMark) 7 ∧ st.env 7 = I k ∧ st.loc b2 = some (caseCells c) ∧ st.loc b4 = some [I 0, I 0, .slice 3 [] 5002, .slice 4 [] 5003, .slice 3 [] 5004] ∧ st.loc b5 = some (cl c.marks.length (ixR p (k + 1)))) ?_ ?_
        · intro k1 hk1
          simp -implicitDefEqProofs [e5, e6, e7, hlt, l5, cl_len, cl_set, hlen, hix]
          repeat refine ⟨by omega, ?_⟩
          exact hk1 _ (by simp [e1, e2, e4, e5, e6, e7, l2, l4, h25, h45])
        rintro s ⟨e1, e2, e4, e5, e6, e7, l2, l4, l5⟩
        refine cutS (fun st => st.env 1 = IL out ∧ st.env 2 = .mref b2 0 ∧ st.env 4 = .mref b4 0 ∧ st.env 5 = .mslice b5 0 c.marks.length c.marks.length 1 ∧ st.env 6 = .slice 4 ((wUp c.marks p k).map encMark) 7 ∧ st.env 7 = I k ∧ st.loc b2 = some (caseCells c) ∧ st.loc b4 = some [I 0, I 0, .slice 3 [] 5002, .slice 4 [] 5003, .slice 3 [] 5004] ∧ st.loc b5 = some (cl c.marks.length (ixR p (k + 1))) ∧
            ∃ b8, st.env 8 = .mref b8 0 ∧ st.loc b8 = some [I m.owner, I m.lo, I m.hi, I m.upon] ∧ b8 ≠ b2 ∧ b8 ≠ b4 ∧ b8 ≠ b5) ?_ ?_
        · intro k1 hk1
          simp -implicitDefEqProofs [e2, e7, hlt, l2, hm]
          intro b hb
          have h2b : ¬ b2 = b := by rintro rfl; rw [l2] at hb; cases hb
          have h4b : ¬ b4 = b := by rintro rfl; rw [l4] at hb; cases hb
          have h5b : ¬ b5 = b := by rintro rfl; rw [l5] at hb; cases hb
          exact hk1 _ ⟨by simp [e1], by simp [e2], by simp [e4], by simp [e5], by simp [e6], by simp [e7], by simp [l2, h2b], by simp [l4, h4b], by simp [l5, h5b], b, by simp, by simp, fun e => h2b e.symm, fun e => h4b e.symm, fun e => h5b e.symm⟩
        rintro s ⟨e1, e2, e4, e5, e6, e7, l2, l4, l5, b8, e8, l8, h82, h84, h85⟩
        have h28 : ¬ b2 = b8 := fun e => h82 e.symm
        have h48 : ¬ b4 = b8 := fun e => h84 e.symm
        have h58 : ¬ b5 = b8 := fun e => h85 e.symm
        obtain ⟨u, hu⟩ : ∃ u, u = (fixM p m).upon := ⟨_, rfl⟩
        refine cutS (fun st => st.env 1 = IL out ∧ st.env 2 = .mref b2 0 ∧ st.env 4 = .mref b4 0 ∧ st.env 5 = .mslice b5 0 c.marks.length c.marks.length 1 ∧ st.env 6 = .slice 4 ((wUp c.marks p k).map encMark) 7 ∧ st.env 7 = I k ∧ st.loc b2 = some (caseCells c) ∧ st.loc b4 = some [I 0, I 0, .slice 3 [] 5002, .slice 4 [] 5003, .slice 3 [] 5004] ∧ st.loc b5 = some (cl c.marks.length (ixR p (k + 1))) ∧ st.env 8 = .mref b8 0 ∧ st.loc b8 = some [I m.owner, I m.lo, I m.hi, I u]) ?_ ?_
        · intro k1 hk1
          by_cases hm1 : m.upon = -1
          · have hm2 : (m.upon != -1) = false := by simp [hm1]
            have huu : u = m.upon := by rw [hu]; unfold fixM; simp [hm1]
            simp -implicitDefEqProofs [e8, l8, hm2]
            exact hk1 _ (by simp [e1, e2, e4, e5, e6, e7, e8, l2, l4, l5, l8, huu])
          · have hm2 : (m.upon != -1) = true := by simp [hm1]
            obtain ⟨v, hv⟩ : ∃ v : Nat, m.upon = v := ⟨m.upon.toNat, by omega⟩
            have huu : u = newIx p v := by rw [hu]; unfold fixM; rw [if_neg hm1, hv, Int.toNat_natCast]
            rw [hv] at hm2
            have hpv := hpu v
            have hvl : v < c.marks.length := by omega
            simp -implicitDefEqProofs [e1, e8, l8, hv, hm2]
            refine vCall_of (has_ok out v) ?_
            rw [hpv]
            cases hpvc : p v with
            | true =>
              have hu1 : u = -1 := by rw [huu]; unfold newIx; rw [hpvc]; rfl
              simp -implicitDefEqProofs [e8, l8]
              exact hk1 _ (by simp [e1, e2, e4, e5, e6, e7, e8, l2, l4, l5, hu1, h28, h48, h58])
            | false =>
              have hu1 : u = keptN p v := by rw [huu]; unfold newIx; rw [hpvc]; rfl
              have hat := cl_at (n := c.marks.length) (ixR p (k + 1)) (g := v) (by rw [cl_len]; exact hvl)
              have hix2 : ixR p (k + 1) v = u := by unfold ixR; rw [if_pos ⟨by omega, hpvc⟩, hu1]
              rw [hix2] at hat
              simp -implicitDefEqProofs [e5, e8, l8, hm2, hv, l5, cl_len, hvl, hat]
              exact hk1 _ (by simp [e1, e2, e4, e5, e6, e7, e8, l2, l4, l5, h28, h48, h58])
        rintro s ⟨e1, e2, e4, e5, e6, e7, l2, l4, l5, e8, l8⟩
        have hfix : encMark (fixM p m) = .agg [I m.owner, I m.lo, I m.hi, I u] := by rw [hu]; rfl
        generalize wUp c.marks p k = W at *
        simp -implicitDefEqProofs [e6, e8, l8]
        refine ⟨by omega, by omega, ?_⟩
        simp -implicitDefEqProofs [e7]
        refine ⟨i64 (by omega) (by omega), round_ok hlt ⟨?_, by simp [l2], by simp [l4], by simp [l5, cl_dem]⟩⟩
        rw [hsuc]
        simp [e1, e2, e4, e5, hfix]
    · obtain rfl : k = c.marks.length := by omega
      simp -implicitDefEqProofs
      exact hk0 _ ⟨by simp [e1, e2, e4, e5, e6, e7], by simp [l2], by simp [l4], by simp [l5]⟩
  rintro s hJ
  obtain ⟨e1, e2, e4, e5, e6, e7⟩ := hJ.e
  have l2 := hJ.l2
  have l4 := hJ.l4
  generalize wUp c.marks p c.marks.length = W at *
  simp -implicitDefEqProofs [e2, e4, e6, l2, l4, h42, r48]
end Go.Proofs.Ytiampdiobdianaa

namespace Go.Proofs.Ytiampdiobdianaa
open Go.Avm

/-- The lists that begin with one number. -/
def listsAt (m f b j : Nat) : List (List Int) := (listsN m (f + j + 1) b).map fun l => ((f + j : Nat) : Int) :: l
def listsUp (m f b k : Nat) : List (List Int) := (List.range k).flatMap (listsAt m f b)
theorem listsN_up (m f b : Nat) : listsN (m + 1) f b = listsUp m f b (b - m - f) := rfl
theorem listsUp_succ (m f b k : Nat) : listsUp m f b (k + 1) = listsUp m f b k ++ listsAt m f b k := by simp [listsUp, List.range_succ]
theorem listsN_each : ∀ (m f b : Nat), ∀ l ∈ listsN m f b, l.length = m
  | 0, f, b, l, h => by simp [listsN] at h; simp [h]
  | m + 1, f, b, l, h => by
    simp only [listsN, List.mem_flatMap, List.mem_map] at h
    obtain ⟨j, -, l', h', rfl⟩ := h
    simp [listsN_each m _ _ l' h']
theorem listsN_len : ∀ (m f b : Nat), b ≤ 8 → (listsN m f b).length ≤ 8 ^ m
  | 0, f, b, _ => by simp [listsN]
  | m + 1, f, b, hb => by
    have h1 := flat_len (fun j => (listsN m (f + j + 1) b).map fun l => ((f + j : Nat) : Int) :: l) (8 ^ m) (List.range (b - m - f)) fun j _ => by
      rw [List.length_map]; exact listsN_len m _ b hb
    rw [List.length_range] at h1
    refine Nat.le_trans h1 ?_
    rw [Nat.pow_succ, Nat.mul_comm]
    exact Nat.mul_le_mul_left _ (by omega)
theorem pow8 {m : Nat} (h : m ≤ 9) : 8 ^ m ≤ 134217728 := Nat.le_trans (Nat.pow_le_pow_right (by omega) h) (by decide)

def consUp (h : Int) (L : List (List Int)) (j : Nat) : List (List Int) := (L.take j).map fun l => h :: l
theorem consUp_zero (h : Int) (L : List (List Int)) : consUp h L 0 = [] := rfl
theorem consUp_succ {h : Int} {L : List (List Int)} {j : Nat} (hj : j < L.length) : consUp h L (j + 1) = consUp h L j ++ [h :: L[j]] := by
  unfold consUp; rw [take_snoc hj, List.map_append]; rfl
theorem consUp_len (h : Int) (L : List (List Int)) (j : Nat) : (consUp h L j).length ≤ L.length := by
  unfold consUp; rw [List.length_map, List.length_take]; omega

theorem lists79_ok : ∀ (m f b : Nat), b ≤ 8 → m ≤ 9 → f ≤ 9 → PCall Try.prog 79 [I f, I b, I m] (ILL (listsN m f b))
  | 0, f, b, _, _, _ => by
    refine pcall Try.func79 tr79 rs79 fn79 (by simp [Try.ntmps79]) fun _ => ?_
    simp -implicitDefEqProofs [m79, r79, listsN]
  | m + 1, f, b, hb, hm, hf => by
    refine pcall Try.func79 tr79 rs79 fn79 (by simp [Try.ntmps79]) fun _ => ?_
    have hm0 : ¬ ((m : Int) + 1 ≤ 0) := by omega
    rw [listsN_up]
    simp -implicitDefEqProofs [m79, hm0]
    refine loop_up (b - m - f) (fun k s => s.env 0 = I f ∧ s.env 1 = I b ∧ s.env 2 = I (m + 1) ∧ s.env 7 = .slice 1 ((listsUp m f b k).map IL) 8 ∧ s.env 8 = I (f + k)) ?_ ?_
    · simp [listsUp]
    rintro k s hk ⟨e0, e1, e2, e7, e8⟩
    by_cases hlt : k < b - m - f
    · have hle : (f : Int) + k + (m + 1) ≤ b := by omega
      have hsu := listsUp_succ m f b k
      have hat : listsAt m f b k = (listsN m (f + k + 1) b).map fun l => ((f + k : Nat) : Int) :: l := rfl
      have ih := lists79_ok m (f + k + 1) b hb (by omega) (by omega)
      have hlen := listsN_len m (f + k + 1) b hb
      have h8 := pow8 (m := m) (by omega)
      have hlu : (listsUp m f b k).length ≤ k * 8 ^ m := by
        have h1 := flat_len (listsAt m f b) (8 ^ m) (List.range k) fun j _ => by
          unfold listsAt; rw [List.length_map]; exact listsN_len m _ b hb
        rwa [List.length_range] at h1
      have hk8 : k * 8 ^ m ≤ 8 * 134217728 := Nat.mul_le_mul (by omega) h8
      have heach := listsN_each m (f + k + 1) b
      generalize listsN m (f + k + 1) b = L at *
      have ih : PCall Try.prog 79 [I ((f : Int) + k + 1), I b, I m] (ILL L) := by simpa using ih
      simp -implicitDefEqProofs [e1, e2, e8, hle]
      refine ⟨i64 (by omega) (by omega), i64 (by omega) (by omega), i64 (by omega) (by omega), vCall_of ih ?_⟩
      simp -implicitDefEqProofs
      refine loop_up L.length (fun j s => s.env 0 = I f ∧ s.env 1 = I b ∧ s.env 2 = I (m + 1) ∧ s.env 7 = .slice 1 ((listsUp m f b k ++ consUp ((f : Int) + k) L j).map IL) 8 ∧ s.env 8 = I (f + k) ∧ s.env 9 = ILL L ∧ s.env 10 = I j) ?_ ?_
      · simp [e0, e1, e2, e7, e8, consUp_zero]
      rintro j s hj ⟨e0, e1, e2, e7, e8, e9, e10⟩
      simp -implicitDefEqProofs [e9, e10]
      refine cond_dec (fun hlt2 => ?_) (fun hge2 => ?_)
      · have hlt2 : j < L.length := by omega
        have he := heach _ (List.getElem_mem hlt2)
        have htj := consUp_succ (h := (f : Int) + k) hlt2
        have htl := consUp_len ((f : Int) + k) L j
        generalize hlj : L[j] = l at *
        simp -implicitDefEqProofs [e7, e8, e9, e10, hlt2, hlj]
        refine ⟨by omega, by omega, by omega, by omega, i64 (by omega) (by omega), round_ok hlt2 ?_⟩
        simp [e0, e1, e2, e8, e9, htj]
      · obtain rfl : j = L.length := by omega
        have hca : consUp ((f : Int) + k) L L.length = listsAt m f b k := by rw [hat]; unfold consUp; rw [List.take_length]; simp
        rw [hca, ← hsu] at e7
        simp -implicitDefEqProofs [e8]
        refine ⟨i64 (by omega) (by omega), round_ok hlt ?_⟩
        simp [e0, e1, e2, e7, Int.add_assoc]
    · obtain rfl : k = b - m - f := by omega
      have hle : ¬ (f : Int) + ((b - m - f : Nat) : Int) + (m + 1) ≤ b := by omega
      simp -implicitDefEqProofs [e1, e2, e8, hle, e7, r79]
      exact i64 (by omega) (by omega)

def firstUp (q : List Int → Bool) (n : Nat) : Nat → Option (List Int)
  | 0 => none
  | m + 1 => (firstUp q n m).or ((listsN m 0 n).find? q)
theorem firstUp_some {q : List Int → Bool} {n m : Nat} {l : List Int} (h : firstUp q n m = some l) : ∀ d, firstUp q n (m + d) = some l
  | 0 => h
  | d + 1 => by rw [show m + (d + 1) = (m + d) + 1 by omega, firstUp, firstUp_some h d]; rfl

theorem find_up (q : List Int → Bool) (n : Nat) : ∀ k, ((List.range k).flatMap fun m => listsN m 0 n).find? q = firstUp q n k
  | 0 => rfl
  | k + 1 => by
    have e : firstUp q n (k + 1) = (firstUp q n k).or ((listsN k 0 n).find? q) := rfl
    rw [List.range_succ, List.flatMap_append, List.find?_append, find_up q n k, e]
    simp
theorem enum_up (q : List Int → Bool) (n : Nat) : (enumL n).find? q = firstUp q n (n + 1) := find_up q n (n + 1)
theorem inL_mask {n : Nat} (hn : n ≤ 8) {l : List Int} (hl : l ∈ enumL n) : inL l = fun i => (maskOf l).testBit i := by
  have h2 := List.all_eq_true.1 (List.all_eq_true.1 enum_mask n (by simp; omega)) l hl
  simp only [Bool.and_eq_true, decide_eq_true_eq] at h2
  obtain ⟨h1, h2⟩ := h2
  have hp : 2 ^ n ≤ 256 := Nat.le_trans (Nat.pow_le_pow_right (by omega) hn) (by decide)
  funext i
  unfold inL
  conv => lhs; rw [← h2]
  unfold bitsL
  rw [Bool.eq_iff_iff, decide_eq_true_eq, mem_selT]
  constructor
  · exact fun h => h.2
  · intro h
    refine ⟨?_, h⟩
    apply Decidable.byContradiction
    intro hi
    rw [Nat.testBit_lt_two_pow (Nat.lt_of_lt_of_le (m := 2 ^ 8) (by omega) (Nat.pow_le_pow_right (by omega) (by omega)))] at h
    cases h
/-- Whether there is a chain without the marks of a list. -/
def forgeL (c : Case) (l : List Int) : Bool := someB (withoutC c (inL l))
theorem find_congr {α : Type} {p q : α → Bool} : ∀ {l : List α}, (∀ x ∈ l, p x = q x) → l.find? p = l.find? q
  | [], _ => rfl
  | a :: l, h => by
    rw [List.find?_cons, List.find?_cons, h a (by simp), find_congr (fun x hx => h x (by simp [hx]))]
theorem forged_first {c : Case} (h8 : c.marks.length ≤ 8) : firstUp (forgeL c) c.marks.length (c.marks.length + 1) = (bestUp (forgeB c) (2 ^ c.marks.length)).map bitsL := by
  rw [← enum_up, ← best_first h8]
  apply find_congr
  intro l hl
  unfold forgeL forgeB
  rw [inL_mask h8 hl]

theorem forged34_ok (c : Case) : PCall Try.prog 34 [encCase c] (encLR (forgedR c)) := by
  refine pcall Try.func34 tr34 rs34 fn34 (by simp [Try.ntmps34]) fun _ => ?_
  have c0 := checkR_ok c
  obtain ⟨R, hR⟩ : ∃ R, R = forgedR c := ⟨_, rfl⟩
  rw [← hR]
  unfold forgedR at hR
  simp -implicitDefEqProofs only [m34]
  refine cutS (fun st => st.env 1 = caseRef c) ?_ ?_
  · intro k hk
    simp -implicitDefEqProofs
    exact hk _ (by simp)
  rintro s e1
  refine cutS (fun st => st.env 1 = caseRef c ∧ st.env 6 = I (errE c)) ?_ ?_
  · intro k hk
    simp -implicitDefEqProofs [e1]
    refine vCall_of c0 ?_
    simp -implicitDefEqProofs [T3]
    exact hk _ (by simp [e1])
  rintro s ⟨e1, e6⟩
  by_cases he : errE c = 0
  case neg =>
    rw [if_pos he] at hR
    generalize errE c = E at *
    have he' : (E != 0) = true := by simp [he]
    simp -implicitDefEqProofs [e6, he', r34, hR]
  rw [if_neg (not_not_intro he)] at hR
  rw [he] at e6
  have hok := Case.ok he
  have h8 := err_marks he
  have hfm : R = match firstUp (forgeL c) c.marks.length (c.marks.length + 1) with | none => ⟨[], 9⟩ | some l => ⟨l, 0⟩ := by
    rw [hR, forged_first h8]
    cases bestUp (forgeB c) (2 ^ c.marks.length) <;> rfl
  have hw := fun l => without48_ok hok l
  have hall := fun l => all72_ok (withoutC_ok hok (inL l))
  have hsm := fun l => someB_all (withoutC c (inL l))
  have hbg := fun l => allR_len (withoutC_ok hok (inL l))
  have hq : ∀ l, someB (withoutC c (inL l)) = forgeL c l := fun _ => rfl
  obtain ⟨n, hn⟩ : ∃ n, n = c.marks.length := ⟨_, rfl⟩
  rw [← hn] at h8 hfm
  generalize forgeL c = q at *
  refine cutS (fun st => st.env 1 = caseRef c) ?_ ?_
  · intro k hk
    simp -implicitDefEqProofs [e6]
    exact hk _ (by simp [e1])
  rintro s e1
  refine cutS (fun st => firstUp q n (n + 1) = none) ?_ ?_
  · intro k0 hk0
    simp -implicitDefEqProofs
    refine loop_up (n + 1) (fun m s => s.env 1 = caseRef c ∧ s.env 7 = I m ∧ firstUp q n m = none) ?_ ?_
    · simp [e1, firstUp]
    rintro m s hm ⟨e1, e7, hno⟩
    simp -implicitDefEqProofs [e1, e7, ← hn]
    refine cond_dec (fun hlt => ?_) (fun hge => ?_)
    · have hlt : m < n + 1 := by omega
      have hl := lists79_ok m 0 n h8 (by omega) (by omega)
      have hll := listsN_len m 0 n h8
      have hp8 := pow8 (m := m) (by omega)
      have hfu : firstUp q n (m + 1) = (firstUp q n m).or ((listsN m 0 n).find? q) := rfl
      rw [hno, Option.none_or] at hfu
      generalize listsN m 0 n = L at *
      have hl : PCall Try.prog 79 [I 0, I n, I m] (ILL L) := hl
      simp -implicitDefEqProofs [e1, e7, ← hn]
      refine vCall_of hl ?_
      simp -implicitDefEqProofs
      refine loop_up L.length (fun j s => s.env 1 = caseRef c ∧ s.env 7 = I m ∧ s.env 8 = ILL L ∧ s.env 9 = I j ∧ (∀ l ∈ L.take j, q l = false)) ?_ ?_
      · simp [e1, e7]
      rintro j s hj ⟨e1, e7, e8, e9, hnj⟩
      simp -implicitDefEqProofs [e8, e9]
      refine cond_dec (fun hlt2 => ?_) (fun hge2 => ?_)
      · have hlt2 : j < L.length := by omega
        have h1 := hw L[j]
        have h2 := hall L[j]
        have h3 := hsm L[j]
        have h4 := hbg L[j]
        rw [hq] at h3
        have htj := take_snoc hlt2
        simp -implicitDefEqProofs [e1, e8, e9, hlt2]
        refine vCall_of h1 ?_
        simp -implicitDefEqProofs
        refine vCall_of h2 ?_
        simp -implicitDefEqProofs
        refine cond_dec (fun hb => ?_) (fun hb => ?_)
        · have hb : q L[j] = true := by
            have : (((allR (withoutC c (inL L[j]))).length : Int) == 0) = false := by simp; intro e; rw [e] at hb; simp at hb
            rw [this] at h3
            simpa using h3.symm
          have hfi : L.find? q = some L[j] := by
            rw [List.find?_eq_some_iff_getElem]
            exact ⟨hb, j, hlt2, rfl, fun i hi => by
              rw [hnj _ (List.mem_take_iff_getElem.2 ⟨i, by omega, rfl⟩)]; rfl⟩
          rw [hfi] at hfu
          have hfn := firstUp_some hfu (n + 1 - (m + 1))
          rw [show m + 1 + (n + 1 - (m + 1)) = n + 1 by omega] at hfn
          rw [hfn] at hfm
          simp -implicitDefEqProofs [e8, e9, hlt2, r34, hfm]
        · have hb : q L[j] = false := by
            have : (((allR (withoutC c (inL L[j]))).length : Int) == 0) = true := by simp; simpa using hb
            rw [this] at h3
            simpa using h3.symm
          simp -implicitDefEqProofs [e9]
          refine ⟨i64 (by omega) (by omega), round_ok hlt2 ?_⟩
          simp [e1, e7, e8]
          intro a ha
          rw [htj, List.mem_append, List.mem_singleton] at ha
          rcases ha with ha | rfl
          · exact hnj a ha
          · exact hb
      · obtain rfl : j = L.length := by omega
        rw [List.take_length] at hnj
        have hfi : L.find? q = none := by
          rw [List.find?_eq_none]
          intro l hl
          rw [hnj l hl]; simp
        rw [hfi] at hfu
        simp -implicitDefEqProofs [e7]
        refine ⟨i64 (by omega) (by omega), round_ok hlt ?_⟩
        simp [e1, hfu]
    · obtain rfl : m = n + 1 := by omega
      simp -implicitDefEqProofs
      exact hk0 _ hno
  intro s hno
  rw [hno] at hfm
  simp -implicitDefEqProofs [r34, hfm]
end Go.Proofs.Ytiampdiobdianaa

