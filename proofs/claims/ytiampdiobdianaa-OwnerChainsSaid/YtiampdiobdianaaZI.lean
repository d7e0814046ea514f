/- Contracts of the reference: all orders, all chains, Order, Why. Contracts of the reference: Order, Why, Before. Contracts of the reference: Before. Plain: an order has a chain if there are years for it. Plain: years for an order are found by its chain; unknown owners by the order alone. Contracts of the reference: a mark of a known year; who has the copy in a year. Contracts of the reference: Year, Owned. -/
import Derived.Test.YtiampdiobdianaaZH
namespace Go.Proofs.Ytiampdiobdianaa
open Go.Avm

theorem ordersUp_succ (n k : Nat) : ordersUp n (k + 1) = ordersUp n k ++ allO n k := by
  unfold ordersUp
  rw [List.range_succ, List.flatMap_append]
  simp
theorem allO_big {n : Nat} (hn : n ≤ 6) {i : Nat} (hi : i ≤ 6) : (allO n i).length ≤ 46656 := by
  refine Nat.le_trans (allO_len n i) ?_
  refine Nat.le_trans (Nat.pow_le_pow_left hn i) ?_
  exact Nat.le_trans (Nat.pow_le_pow_right (by omega) hi) (by decide)
theorem ordersUp_big {n : Nat} (hn : n ≤ 6) : ∀ {k : Nat}, k ≤ 7 → (ordersUp n k).length ≤ k * 46656
  | 0, _ => by simp [ordersUp]
  | k + 1, hk => by
    have h1 := ordersUp_big hn (k := k) (by omega)
    have h2 := allO_big hn (i := k) (by omega)
    rw [ordersUp_succ, List.length_append]
    omega

theorem orders80_ok {n : Nat} (hn : n ≤ 6) : PCall Try.prog 80 [I n] (ILL (ordersL n)) := by
  refine pcall Try.func80 tr80 rs80 fn80 (by simp [Try.ntmps80]) fun _ => ?_
  simp -implicitDefEqProofs only [m80]
  refine cutS (fun st => st.env 0 = I n) ?_ ?_
  · intro k hk
    simp -implicitDefEqProofs
    exact hk _ (by simp)
  intro s e0
  refine cutS (fun st => st.env 0 = I n ∧ st.env 3 = .slice 1 [IL []] 4) ?_ ?_
  · intro k hk
    simp -implicitDefEqProofs
    exact hk _ (by simp [e0])
  rintro s ⟨e0, e3⟩
  refine cutS (fun st => st.env 0 = I n ∧ st.env 3 = .slice 1 [IL []] 4 ∧ st.env 4 = .slice 1 [IL []] 5) ?_ ?_
  · intro k hk
    simp -implicitDefEqProofs
    exact hk _ (by simp [e0, e3])
  rintro s ⟨e0, e3, e4⟩
  refine cutS (fun st => st.env 3 = .slice 1 ((ordersL n).map IL) 4) ?_ ?_
  · intro k0 hk0
    simp -implicitDefEqProofs
    refine loop_up n (fun k st => st.env 0 = I n ∧ st.env 3 = .slice 1 ((ordersUp n (k + 1)).map IL) 4 ∧ st.env 4 = .slice 1 ((allO n k).map IL) 5 ∧ st.env 5 = I ((k : Int) + 1)) ?_ ?_
    · simp [e0, e3, e4, ordersUp, allO, List.range_succ]
    rintro k s hk ⟨e0, e3, e4, e5⟩
    simp -implicitDefEqProofs [e0, e5]
    refine cond_dec (fun hlt => ?_) (fun hge => ?_)
    · have hlt : k < n := by omega
      have hsu := ordersUp_succ n (k + 1)
      have hub := ordersUp_big hn (k := k + 1) (by omega)
      have hout := allO_big hn (i := k) (by omega)
      have hnext : (allO n k).flatMap (grow n) = allO n (k + 1) := rfl
      have hnb := allO_big hn (i := k + 1) (by omega)
      have hleach := allO_each n k
      generalize hNX : allO n (k + 1) = nx at *
      generalize hO : allO n k = out at *
      generalize ordersUp n (k + 1) = ou at *
      refine stepB ?_
      refine cutS (fun st => st.env 0 = I n ∧ st.env 3 = .slice 1 (ou.map IL) 4 ∧ st.env 4 = .slice 1 (out.map IL) 5 ∧ st.env 5 = I ((k : Int) + 1) ∧ st.env 6 = .slice 1 [] 7) ?_ ?_
      · intro k1 hk1
        simp -implicitDefEqProofs
        exact hk1 _ (by simp [e0, e3, e4, e5])
      rintro s ⟨e0, e3, e4, e5, e6⟩
      refine cutS (fun st => st.env 0 = I n ∧ st.env 3 = .slice 1 (ou.map IL) 4 ∧ st.env 5 = I ((k : Int) + 1) ∧ st.env 6 = .slice 1 (nx.map IL) 7) ?_ ?_
      · intro k1 hk1
        simp -implicitDefEqProofs
        refine loop_up out.length (fun q st => st.env 0 = I n ∧ st.env 3 = .slice 1 (ou.map IL) 4 ∧ st.env 4 = .slice 1 (out.map IL) 5 ∧ st.env 5 = I ((k : Int) + 1) ∧ st.env 6 = .slice 1 (((out.take q).flatMap (grow n)).map IL) 7 ∧ st.env 7 = I q) ?_ ?_
        · simp [e0, e3, e4, e5, e6]
        rintro q s hq ⟨e0, e3, e4, e5, e6, e7⟩
        simp -implicitDefEqProofs [e4, e7]
        refine cond_dec (fun hlt2 => ?_) (fun hge2 => ?_)
        · have hlt2 : q < out.length := by omega
          simp -implicitDefEqProofs
          have hacc := flat_grow_len n (out.take q)
          have hacc2 : (out.take q).length ≤ q := List.length_take_le _ _
          have hacc3 : ((out.take q).flatMap (grow n)).length ≤ 46656 * 6 := Nat.le_trans hacc (Nat.mul_le_mul (by omega) hn)
          have hsn : (out.take (q + 1)).flatMap (grow n) = (out.take q).flatMap (grow n) ++ grow n out[q] := by
            rw [take_snoc hlt2, List.flatMap_append]; simp
          have hol : out[q].length = k := (hleach _ (List.getElem_mem hlt2)).1
          generalize hA : (out.take q).flatMap (grow n) = acc at *
          generalize hoq : out[q] = o at *
          refine loop_up n (fun j st => st.env 0 = I n ∧ st.env 3 = .slice 1 (ou.map IL) 4 ∧ st.env 4 = .slice 1 (out.map IL) 5 ∧ st.env 5 = I ((k : Int) + 1) ∧ st.env 6 = .slice 1 ((acc ++ grow j o).map IL) 7 ∧ st.env 7 = I q ∧ st.env 8 = I j) ?_ ?_
          · simp [e0, e3, e4, e5, e6, e7, grow]
          rintro j s hj ⟨e0, e3, e4, e5, e6, e7, e8⟩
          simp -implicitDefEqProofs [e0, e8]
          refine cond_dec (fun hlt3 => ?_) (fun hge3 => ?_)
          · have hlt3 : j < n := by omega
            have hgl := grow_len j o
            have hgs := grow_succ j o
            simp -implicitDefEqProofs [e4, e7, e8, hlt2, hoq]
            refine vCall_of (has_ok _ _) ?_
            by_cases hin : ((j : Nat) : Int) ∈ o
            · rw [if_pos hin, List.append_nil] at hgs
              simp -implicitDefEqProofs [hin, e8]
              refine ⟨i64 (by omega) (by omega), round_ok hlt3 ?_⟩
              simp [e0, e3, e4, e5, e6, e7, hgs]
            · rw [if_neg hin] at hgs
              simp -implicitDefEqProofs [hin, e4, e6, e7, e8, hlt2, hoq]
              refine ⟨by omega, by omega, by omega, by omega, by omega, by omega, i64 (by omega) (by omega), round_ok hlt3 ?_⟩
              simp [e0, e3, e4, e5, e7, hgs]
          · obtain rfl : j = n := by omega
            simp -implicitDefEqProofs [e7]
            refine ⟨i64 (by omega) (by omega), round_ok hlt2 ?_⟩
            simp [e0, e3, e4, e5, e6, hsn]
        · obtain rfl : q = out.length := by omega
          rw [List.take_length, hnext] at e6
          simp -implicitDefEqProofs
          exact hk1 _ (by simp [e0, e3, e5, e6])
      rintro s ⟨e0, e3, e5, e6⟩
      simp -implicitDefEqProofs [e3, e5, e6]
      refine ⟨by omega, by omega, i64 (by omega) (by omega), round_ok hlt ?_⟩
      rw [hsu]
      simp [e0, hNX]
    · obtain rfl : k = n := by omega
      simp -implicitDefEqProofs
      exact hk0 _ (by simp [e3, ordersL])
  intro s e3
  simp -implicitDefEqProofs [e3, r80]

/-! ## All chains -/
def firsts (c : Case) (os : List (List Int)) : List (List Int) := (chainsOf c os).map fun p => p.1
/-- All orders that have a chain. -/
def allR (c : Case) : List (List Int) := firsts c (ordersL c.owners.length)
theorem allR_map (c : Case) : allR c = (chainsL c).map fun p => p.1 := rfl
theorem firsts_snoc (c : Case) (os : List (List Int)) (o : List Int) : firsts c (os ++ [o]) = firsts c os ++ if (solveS c o).isSome then [o] else [] := by
  unfold firsts chainsOf
  rw [List.filterMap_append, List.map_append]
  congr 1
  unfold solved
  cases h : solveS c o <;> simp [h]
theorem mem_chains {c : Case} {p : List Int × List Hold} (h : p ∈ chainsL c) : p.1 ∈ ordersL c.owners.length ∧ solveS c p.1 = some p.2 := by
  unfold chainsL chainsOf at h
  rw [List.mem_filterMap] at h
  obtain ⟨o, ho, hs⟩ := h
  unfold solved at hs
  rw [Option.map_eq_some_iff] at hs
  obtain ⟨l, hl, rfl⟩ := hs
  exact ⟨ho, hl⟩
theorem solved_fld (c : Case) (o : Option (List Hold)) : ∃ x y, solvedAV c o = .agg [B o.isSome, x, y] ∧ x.cell1 = true ∧ y.cell1 = true := by
  cases o with
  | none => exact ⟨_, _, rfl, rfl, rfl⟩
  | some l => exact ⟨_, _, rfl, rfl, rfl⟩

theorem all72_ok {c : Case} (h : c.OK) : PCall Try.prog 72 [encCase c] (ILL (allR c)) := by
  refine pcall Try.func72 tr72 rs72 fn72 (by simp [Try.ntmps72]) fun _ => ?_
  have hn6 := h.ownersLen
  have hO := orders80_ok hn6
  have hlen := ordersL_len hn6
  have hsol : ∀ o ∈ ordersL c.owners.length, PCall Try.prog 62 [encCase c, IL o] (solvedAV c (solveS c o)) := fun o ho => by
    have := ordersL_each ho
    exact solve62_ok h this.2.2 this.2.1 (by omega)
  have hR : allR c = firsts c (ordersL c.owners.length) := rfl
  have h24 : ∀ o ∈ ordersL c.owners.length, o.length ≤ 6 := fun o ho => by have := ordersL_each ho; omega
  rw [hR]
  generalize ordersL c.owners.length = L at *
  simp -implicitDefEqProofs [m72]
  refine vCall_of hO ?_
  simp -implicitDefEqProofs
  refine loop_up L.length (fun k s => s.env 1 = caseRef c ∧ s.env 3 = ILL L ∧ s.env 4 = .slice 1 ((firsts c (L.take k)).map IL) 5 ∧ s.env 5 = I k) ?_ ?_
  · simp [firsts, chainsOf]
  rintro k s hk ⟨e1, e3, e4, e5⟩
  simp -implicitDefEqProofs [e3, e5]
  refine cond_dec (fun hlt => ?_) (fun hge => ?_)
  · have hlt : k < L.length := by omega
    have hcall := hsol _ (List.getElem_mem hlt)
    have hsn := firsts_snoc c (L.take k) L[k]
    rw [← take_snoc hlt] at hsn
    have hl2 : (firsts c (L.take k)).length ≤ 326592 := by
      unfold firsts
      rw [List.length_map]
      refine Nat.le_trans (List.length_filterMap_le _ _) ?_
      rw [List.length_take]; omega
    generalize hok : L[k] = o at *
    obtain ⟨x, y, hxy, hx1, hx2⟩ := solved_fld c (solveS c o)
    rw [hxy] at hcall
    generalize hC : firsts c (L.take k) = C at *
    simp -implicitDefEqProofs [e1, e3, e5, hlt, hok]
    refine vCall_of hcall ?_
    simp -implicitDefEqProofs
    refine cond_bool (fun hb => ?_) (fun hb => ?_)
    · rw [if_pos hb] at hsn
      simp -implicitDefEqProofs [e3, e4, e5, hlt, hok]
      refine ⟨by omega, by omega, i64 (by omega) (by omega), round_ok hlt ?_⟩
      simp [e1, e3, hsn]
    · rw [if_neg (by simp [hb]), List.append_nil] at hsn
      simp -implicitDefEqProofs [e5]
      refine ⟨i64 (by omega) (by omega), round_ok hlt ?_⟩
      simp [e1, e3, e4, hsn]
  · obtain rfl : k = L.length := by omega
    rw [List.take_length] at e4
    simp -implicitDefEqProofs [e4, r72]

/-- The error behind others, if there is no chain. -/
def someS (c : Case) (e : Int) : List (List Int) × Int := if e ≠ 0 then ([], e) else if allR c = [] then ([], 8) else (allR c, 0)
theorem some61_ok (c : Case) (e : Int) (h : e = 0 → c.OK) : PCall Try.prog 61 [encCase c, I e] (.tuple [ILL (someS c e).1, I (someS c e).2]) := by
  refine pcall Try.func61 tr61 rs61 fn61 (by simp [Try.ntmps61]) fun _ => ?_
  obtain ⟨R, hR⟩ : ∃ R, R = someS c e := ⟨_, rfl⟩
  rw [← hR]
  unfold someS at hR
  by_cases he : e = 0
  · have ha := all72_ok (h he)
    subst he
    rw [if_neg (by simp)] at hR
    generalize allR c = L at *
    by_cases hz : L = []
    · rw [if_pos hz] at hR
      subst hz
      simp -implicitDefEqProofs [m61]
      refine vCall_of ha ?_
      simp -implicitDefEqProofs [r61, hR]
    · rw [if_neg hz] at hR
      have hz' : ((L.length : Int) == 0) = false := by simp; exact hz
      simp -implicitDefEqProofs [m61]
      refine vCall_of ha ?_
      simp -implicitDefEqProofs [r61, hR, hz']
  · rw [if_pos he] at hR
    have he' : (e != 0) = true := by simpa using he
    simp -implicitDefEqProofs [m61, r61, hR, he']

/-! ## Chain, Order, Why -/
theorem chains_at {c : Case} {k : Nat} (h : k < (chainsL c).length) : ∃ h2 : k < (allR c).length, (allR c)[k] = (chainsL c)[k].1 ∧ solveS c (chainsL c)[k].1 = some (chainsL c)[k].2 ∧ (chainsL c)[k].1 ∈ ordersL c.owners.length := by
  have hm := mem_chains (List.getElem_mem h)
  refine ⟨by rw [allR_map]; simpa using h, ?_, hm.2, hm.1⟩
  simp only [allR_map, List.getElem_map]
theorem chain19_ok (c : Case) : PCall Try.prog 19 [encCase c] (encChain (chainS c)) := by
  refine pcall Try.func19 tr19 rs19 fn19 (by simp [Try.ntmps19]) fun _ => ?_
  have c0 := checkR_ok c
  have c1 := some61_ok c (errE c) Case.ok
  obtain ⟨R, hR⟩ : ∃ R, R = chainS c := ⟨_, rfl⟩
  rw [← hR]
  unfold chainS at hR
  simp -implicitDefEqProofs only [m19]
  refine cutS (fun st => st.env 1 = caseRef c) ?_ ?_
  · intro k hk
    simp -implicitDefEqProofs
    exact hk _ (by simp)
  rintro s e1
  refine cutS (fun st => st.env 1 = caseRef c ∧ st.env 7 = I (errE c)) ?_ ?_
  · intro k hk
    simp -implicitDefEqProofs [e1]
    refine vCall_of c0 ?_
    simp -implicitDefEqProofs [T3]
    exact hk _ (by simp [e1])
  rintro s ⟨e1, e7⟩
  refine cutS (fun st => st.env 1 = caseRef c ∧ st.env 8 = ILL (someS c (errE c)).1 ∧ st.env 7 = I (someS c (errE c)).2) ?_ ?_
  · intro k hk
    simp -implicitDefEqProofs [e1, e7]
    refine vCall_of c1 ?_
    simp -implicitDefEqProofs
    exact hk _ (by simp [e1])
  rintro s ⟨e1, e8, e7⟩
  unfold someS at e8 e7
  by_cases he : errE c = 0
  case neg =>
    rw [if_pos he] at hR e7
    generalize errE c = E at *
    have he' : (E != 0) = true := by simp [he]
    simp -implicitDefEqProofs [e7, he', r19, hR]
  rw [if_neg (not_not_intro he)] at hR e7 e8
  have hok := Case.ok he
  by_cases hz : allR c = []
  · rw [if_pos hz] at e7
    have hz2 : chainsL c = [] := by
      rw [allR_map] at hz
      simpa using hz
    rw [hz2] at hR
    have hR : R = ⟨[], 0, 8⟩ := hR
    simp -implicitDefEqProofs [e7, r19, hR]
  rw [if_neg hz] at e7 e8
  have hl0 : 0 < (chainsL c).length := by
    apply List.length_pos_iff.2
    intro e
    rw [allR_map, e] at hz
    exact hz rfl
  have hall := fun k (h : k < (chainsL c).length) => chains_at h
  have hn6 := hok.ownersLen
  have hsol : ∀ o ∈ ordersL c.owners.length, PCall Try.prog 62 [encCase c, IL o] (solvedAV c (solveS c o)) := fun o ho => by
    have := ordersL_each ho
    exact solve62_ok hok this.2.2 this.2.1 (by omega)
  have hlen : (allR c).length = (chainsL c).length := by rw [allR_map, List.length_map]
  have hbig := chainsL_len hok
  generalize allR c = L at *
  generalize chainsL c = C at *
  refine cutS (fun st => st.env 1 = caseRef c ∧ st.env 8 = ILL L) ?_ ?_
  · intro k hk
    simp -implicitDefEqProofs [e7]
    exact hk _ (by simp [e1, e8])
  rintro s ⟨e1, e8⟩
  refine cutS (fun st => st.env 1 = caseRef c ∧ st.env 8 = ILL L ∧ ∃ q, st.env 9 = .mref q 0 ∧ st.loc q = some [B true, HL (cutL C[0].2), I (unknownS c C[0].2)]) ?_ ?_
  · intro k hk
    obtain ⟨h1, h2, h3, h4⟩ := hall 0 hl0
    have hcall := hsol _ h4
    rw [h3] at hcall
    generalize C[0] = p at *
    simp -implicitDefEqProofs [e1, e8, h1, h2]
    refine vCall_of hcall ?_
    simp -implicitDefEqProofs [solvedAV]
    intro q hq
    exact hk _ ⟨by simp [e1], by simp [e8], q, by simp, by simp⟩
  rintro s ⟨e1, e8, q, e9, lq⟩
  refine cutS (fun st => ∃ b, bestS c C = some b ∧ st.env 9 = .mref q 0 ∧ st.loc q = some [B true, HL (cutL b), I (unknownS c b)]) ?_ ?_
  · intro k0 hk0
    simp -implicitDefEqProofs
    refine loop_up (C.length - 1) (fun k st => st.env 1 = caseRef c ∧ st.env 8 = ILL L ∧ st.env 9 = .mref q 0 ∧ st.env 10 = I ((k : Int) + 1) ∧ ∃ b, bestS c (C.take (k + 1)) = some b ∧ st.loc q = some [B true, HL (cutL b), I (unknownS c b)]) ?_ ?_
    · refine ⟨by simp [e1], by simp [e8], by simp [e9], by simp, C[0].2, ?_, by simp [lq]⟩
      rw [show 0 + 1 = 1 from rfl, take_snoc (l := C) (k := 0) hl0]
      rfl
    rintro k s hk ⟨e1, e8, e9, e10, b, hb, lq⟩
    simp -implicitDefEqProofs [e8, e10]
    refine cond_dec (fun hlt => ?_) (fun hge => ?_)
    · have hlt : k + 1 < C.length := by omega
      obtain ⟨h1, h2, h3, h4⟩ := hall (k + 1) hlt
      have hcall := hsol _ h4
      rw [h3] at hcall
      have hsn : bestS c (C.take (k + 2)) = bestOf c (some b) C[k + 1].2 := by
        rw [← hb]
        unfold bestS; rw [take_snoc hlt, List.foldl_append]; rfl
      generalize C[k + 1] = p at *
      have hii : ((k : Int) + 1).toNat = k + 1 := by omega
      have hlt2 : (k : Int) + 1 < L.length := by omega
      refine stepB ?_
      refine cutS (fun st => st.env 1 = caseRef c ∧ st.env 8 = ILL L ∧ st.env 9 = .mref q 0 ∧ st.env 10 = I ((k : Int) + 1) ∧ st.loc q = some [B true, HL (cutL b), I (unknownS c b)] ∧ st.env 11 = .ref [B true, HL (cutL p.2), I (unknownS c p.2)]) ?_ ?_
      · intro k1 hk1
        simp -implicitDefEqProofs [e1, e8, e10, hii, hlt2, h1, h2]
        refine ⟨by omega, vCall_of hcall ?_⟩
        simp -implicitDefEqProofs [solvedAV]
        intro b11 hb11
        have hne : ¬ q = b11 := by rintro rfl; rw [lq] at hb11; cases hb11
        exact hk1 _ (by simp [e1, e8, e9, e10, lq, hne])
      rintro s ⟨e1, e8, e9, e10, lq, e11⟩
      simp -implicitDefEqProofs [e9, lq, e11]
      refine cond_dec (fun hlt3 => ?_) (fun hge3 => ?_)
      · have hB : bestOf c (some b) p.2 = some p.2 := by simp [bestOf, hlt3]
        rw [hB] at hsn
        simp -implicitDefEqProofs [e9, lq, e10, e11]
        refine ⟨i64 (by omega) (by omega), round_ok (by omega) ⟨by simp [e1], by simp [e8], by simp [e9], by simp, p.2, hsn, by simp⟩⟩
      · have hB : bestOf c (some b) p.2 = some b := by simp [bestOf, hge3]
        rw [hB] at hsn
        simp -implicitDefEqProofs [e10]
        refine ⟨i64 (by omega) (by omega), round_ok (by omega) ⟨by simp [e1], by simp [e8], by simp [e9], by simp, b, hsn, by simp [lq]⟩⟩
    · obtain rfl : k = C.length - 1 := by omega
      rw [show C.length - 1 + 1 = C.length by omega, List.take_length] at hb
      simp -implicitDefEqProofs
      exact hk0 _ ⟨b, hb, by simp [e9], by simp [lq]⟩
  rintro s ⟨b, hb, e9, lq⟩
  rw [hb] at hR
  simp -implicitDefEqProofs [e9, lq, r19, hR]
end Go.Proofs.Ytiampdiobdianaa

namespace Go.Proofs.Ytiampdiobdianaa
open Go.Avm

theorem out_some {lo hi : Int} {l : List Int} {k : Nat} (hk : k < l.length) (h : ¬ (lo ≤ l[k] ∧ l[k] ≤ hi)) : out lo hi l = true := by
  unfold out
  rw [List.any_eq_true]
  refine ⟨l[k], List.getElem_mem hk, ?_⟩
  simp
  omega
theorem out_none {lo hi : Int} {l : List Int} (h : ∀ x ∈ l, lo ≤ x ∧ x ≤ hi) : out lo hi l = false := by
  unfold out
  rw [List.any_eq_false]
  intro x hx
  have := h x hx
  simp
  omega

theorem order65_ok {c : Case} (h : c.OK) (order : List Int) : PCall Try.prog 65 [encCase c, IL order] (I (orderE c order)) := by
  refine pcall Try.func65 tr65 rs65 fn65 (by simp [Try.ntmps65]) fun hfit => ?_
  have hn6 := h.ownersLen
  have hl : order.length ≤ 140737488355328 := by simpa using fits_len (hfit 1)
  obtain ⟨R, hR⟩ : ∃ R, R = orderE c order := ⟨_, rfl⟩
  rw [← hR]
  unfold orderE at hR
  simp -implicitDefEqProofs only [m65]
  refine cutS (fun st => st.env 1 = IL order ∧ st.env 2 = caseRef c) ?_ ?_
  · intro k hk
    simp -implicitDefEqProofs
    exact hk _ (by simp)
  rintro s ⟨e1, e2⟩
  refine cutS (fun st => st.env 1 = IL order ∧ out 0 ((c.owners.length : Int) - 1) order = false) ?_ ?_
  · intro k0 hk0
    simp -implicitDefEqProofs
    refine loop_up order.length (fun k st => st.env 1 = IL order ∧ st.env 2 = caseRef c ∧ st.env 5 = I k ∧ ∀ x ∈ order.take k, 0 ≤ x ∧ x ≤ (c.owners.length : Int) - 1) ?_ ?_
    · simp [e1, e2]
    rintro k s hk ⟨e1, e2, e5, hall⟩
    simp -implicitDefEqProofs [e1, e5]
    refine cond_dec (fun hlt => ?_) (fun hge => ?_)
    · have hlt : k < order.length := by omega
      have hts := take_snoc hlt
      have hos := fun h => out_some (lo := 0) (hi := (c.owners.length : Int) - 1) hlt h
      generalize hx : order[k] = x at *
      simp -implicitDefEqProofs [e1, e2, e5, hlt, hx]
      refine ⟨i64 (by omega) (by omega), vCall_of (in_ok x 0 ((c.owners.length : Int) - 1)) ?_⟩
      by_cases hin : 0 ≤ x ∧ x ≤ (c.owners.length : Int) - 1
      · rw [decide_eq_true hin]
        simp -implicitDefEqProofs [e5]
        refine ⟨i64 (by omega) (by omega), round_ok hlt ⟨by simp [e1], by simp [e2], by simp, ?_⟩⟩
        rw [hts]
        intro y hy
        rcases List.mem_append.1 hy with hy | hy
        · exact hall y hy
        · rw [List.mem_singleton] at hy; rw [hy]; exact hin
      · rw [hos hin] at hR
        rw [decide_eq_false hin]
        have hR : R = 4 := hR
        simp -implicitDefEqProofs [r65, hR]
    · obtain rfl : k = order.length := by omega
      rw [List.take_length] at hall
      simp -implicitDefEqProofs
      exact hk0 _ ⟨by simp [e1], out_none hall⟩
  rintro s ⟨e1, ho⟩
  rw [ho, if_neg (by simp)] at hR
  refine cutS (fun st => order.Nodup) ?_ ?_
  · intro k0 hk0
    simp -implicitDefEqProofs
    refine loop_up order.length (fun k st => st.env 1 = IL order ∧ st.env 6 = I k ∧ (order.take k).Nodup) ?_ ?_
    · simp [e1]
    rintro k s hk ⟨e1, e6, hnd⟩
    simp -implicitDefEqProofs [e1, e6]
    refine cond_dec (fun hlt => ?_) (fun hge => ?_)
    · have hlt : k < order.length := by omega
      have hc : PCall Try.prog 46 [.slice 1 ((order.map I).take k) 0, I order[k]] (B (decide (order[k] ∈ order.take k))) := by
        rw [← List.map_take]; exact has_ok _ _
      have hts := take_snoc hlt
      have hsn := nodup_snoc (x := order[k]) hnd
      rw [← hts] at hsn
      have hbad : order[k] ∈ order.take k → ¬ order.Nodup := fun hin hn => by
        have : (order.take (k + 1)).Nodup := hn.sublist (List.take_sublist _ _)
        rw [hts, List.nodup_append] at this
        exact this.2.2 _ hin _ (by simp) rfl
      simp -implicitDefEqProofs [e1, e6, hlt]
      refine ⟨by omega, vCall_of hc ?_⟩
      simp -implicitDefEqProofs
      refine cond_dec (fun hin => ?_) (fun hin => ?_)
      · rw [if_neg (hbad hin)] at hR
        simp -implicitDefEqProofs [r65, hR]
      · simp -implicitDefEqProofs [e6]
        exact ⟨i64 (by omega) (by omega), round_ok hlt ⟨by simp [e1], by simp, hsn hin⟩⟩
    · obtain rfl : k = order.length := by omega
      rw [List.take_length] at hnd
      simp -implicitDefEqProofs
      exact hk0 _ hnd
  intro s hnd
  rw [if_pos hnd] at hR
  simp -implicitDefEqProofs [r65, hR]

theorem why22_ok (c : Case) (order : List Int) : PCall Try.prog 22 [encCase c, IL order] (encR2 (whyS c order)) := by
  refine pcall Try.func22 tr22 rs22 fn22 (by simp [Try.ntmps22]) fun _ => ?_
  have c0 := checkR_ok c
  obtain ⟨R, hR⟩ : ∃ R, R = whyS c order := ⟨_, rfl⟩
  rw [← hR]
  unfold whyS at hR
  simp -implicitDefEqProofs only [m22]
  refine cutS (fun st => st.env 1 = IL order ∧ st.env 2 = caseRef c) ?_ ?_
  · intro k hk
    simp -implicitDefEqProofs
    exact hk _ (by simp)
  rintro s ⟨e1, e2⟩
  refine cutS (fun st => st.env 1 = IL order ∧ st.env 2 = caseRef c ∧ st.env 8 = I (errE c)) ?_ ?_
  · intro k hk
    simp -implicitDefEqProofs [e2]
    refine vCall_of c0 ?_
    simp -implicitDefEqProofs [T3]
    exact hk _ (by simp [e1, e2])
  rintro s ⟨e1, e2, e8⟩
  by_cases he : errE c = 0
  case neg =>
    rw [if_pos he] at hR
    generalize errE c = E at *
    have he' : (E == 0) = false := by simp [he]
    have he2 : (E != 0) = true := by simp [he]
    simp -implicitDefEqProofs [e8, he', he2, r22, hR]
  rw [if_neg (not_not_intro he)] at hR
  rw [he] at e8
  have hok := Case.ok he
  have hn6 := hok.ownersLen
  refine cutS (fun st => st.env 1 = IL order ∧ st.env 2 = caseRef c ∧ st.env 8 = I (orderE c order)) ?_ ?_
  · intro k hk
    simp -implicitDefEqProofs [e1, e2, e8]
    refine vCall_of (order65_ok hok order) ?_
    simp -implicitDefEqProofs
    exact hk _ (by simp [e1, e2])
  rintro s ⟨e1, e2, e8⟩
  by_cases ho : orderE c order = 0
  case neg =>
    rw [if_pos ho] at hR
    generalize orderE c order = E at *
    have he2 : (E != 0) = true := by simp [ho]
    simp -implicitDefEqProofs [e8, he2, r22, hR]
  rw [if_neg (not_not_intro ho)] at hR
  rw [ho] at e8
  obtain ⟨h1, h2, h3⟩ := orderE_zero ho
  have hcall := solve62_ok hok h1 h2 (by omega)
  refine cutS (fun st => st.env 1 = IL order ∧ st.env 2 = caseRef c) ?_ ?_
  · intro k hk
    simp -implicitDefEqProofs [e8]
    exact hk _ (by simp [e1, e2])
  rintro s ⟨e1, e2⟩
  cases hs : solveS c order with
  | none =>
    rw [hs] at hR hcall
    simp -implicitDefEqProofs [e1, e2]
    refine vCall_of hcall ?_
    simp -implicitDefEqProofs [solvedAV]
    intro b
    simp -implicitDefEqProofs [r22, hR]
  | some l =>
    rw [hs] at hR hcall
    simp -implicitDefEqProofs [e1, e2]
    refine vCall_of hcall ?_
    simp -implicitDefEqProofs [solvedAV]
    intro b
    simp -implicitDefEqProofs [r22, hR]
end Go.Proofs.Ytiampdiobdianaa

namespace Go.Proofs.Ytiampdiobdianaa
open Go.Avm

end Go.Proofs.Ytiampdiobdianaa

namespace Go.Proofs.Ytiampdiobdianaa
open Go.Avm

def own (o : List Int) (i : Nat) : Nat := (o.getD i 0).toNat
/-- An order of some owners. -/
structure OrdOK (c : Case) (o : List Int) : Prop where
  rng : ∀ x ∈ o, 0 ≤ x ∧ x < (c.owners.length : Int)
  nd : o.Nodup
/-- Years for the owners of an order below n, and for their marks. -/
structure FeasTo (c : Case) (o : List Int) (n : Nat) (S T Y : Nat → Int) : Prop where
  le : ∀ i < n, S i ≤ T i
  next : ∀ i, i + 1 < n → T i ≤ S (i + 1)
  own : ∀ i < n, bLo c c.sales (own o i) ≤ S i ∧ S i ≤ bHi c c.sales (own o i) ∧ gLo c c.sales (own o i) ≤ T i ∧ T i ≤ gHi c c.sales (own o i)
  marks : ∀ q (hq : q < c.marks.length) (i : Nat), i < n → at' o c.marks[q].owner = i → S i ≤ Y q ∧ Y q ≤ T i ∧ c.marks[q].lo ≤ Y q ∧ Y q ≤ c.marks[q].hi
  upon : ∀ q (hq : q < c.marks.length) (i : Nat), i < n → at' o c.marks[q].owner = i → c.marks[q].upon ≠ -1 → Y c.marks[q].upon.toNat ≤ Y q
abbrev Feas (c : Case) (o : List Int) (S T Y : Nat → Int) : Prop := FeasTo c o o.length S T Y

/-! ## What a run finds are years -/
/-- The holds of a run: who, and up to when at the latest. -/
def HoldsOf (c : Case) (o : List Int) (n : Nat) (l : List Hold) : Prop := l.length = n ∧ ∀ i (h : i < l.length), l[i].who = own o i ∧ l[i].til = gHi c c.sales (own o i)
end Go.Proofs.Ytiampdiobdianaa

namespace Go.Proofs.Ytiampdiobdianaa
open Go.Avm

/-- Years of a chain: the owners' first years are its own. -/
structure ChainOf (c : Case) (o : List Int) (l : List Hold) (T Y : Nat → Int) : Prop where
  rules : rulesB c o = true
  holds : HoldsOf c o o.length l
  feas : Feas c o (fun i => (l.getD i ⟨0, 0, 0⟩).src) T Y
  tight : ∀ i, i + 1 < o.length → (l.getD (i + 1) ⟨0, 0, 0⟩).src = max (T i) (bLo c c.sales (own o (i + 1)))
  first : 0 < o.length → (l.getD 0 ⟨0, 0, 0⟩).src = bLo c c.sales (own o 0)
/-! ## Unknown owners -/
end Go.Proofs.Ytiampdiobdianaa

namespace Go.Proofs.Ytiampdiobdianaa
open Go.Avm

/-! ## The years of a mark -/
end Go.Proofs.Ytiampdiobdianaa

namespace Go.Proofs.Ytiampdiobdianaa
open Go.Avm

end Go.Proofs.Ytiampdiobdianaa

