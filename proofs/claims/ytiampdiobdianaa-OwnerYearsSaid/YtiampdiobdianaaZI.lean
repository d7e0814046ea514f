/- Contracts of the reference: all orders, all chains, Order, Why. Contracts of the reference: Order, Why, Before. Contracts of the reference: Before. Plain: an order has a chain if there are years for it. Plain: years for an order are found by its chain; unknown owners by the order alone. Contracts of the reference: a mark of a known year; who has the copy in a year. Contracts of the reference: Year, Owned. -/
import Derived.Test.YtiampdiobdianaaZH
namespace Go.Proofs.Ytiampdiobdianaa
open Go.Avm

theorem ordersUp_succ (n k : Nat) : ordersUp n (k + 1) = ordersUp n k ++ allO n k := by
  unfold ordersUp
  rw [List.range_succ, List.flatMap_append]
  simp
theorem allO_big {n : Nat} (hn : n ≤ 6) {i : Nat} (hi : i ≤ 6) : (allO n i).length ≤ 46656 := by
  refine Nat.le_trans (allO_len n i) ?_
  refine Nat.le_trans (Nat.pow_le_pow_left hn i) ?_
  exact Nat.le_trans (Nat.pow_le_pow_right (by omega) hi) (by decide)
theorem ordersUp_big {n : Nat} (hn : n ≤ 6) : ∀ {k : Nat}, k ≤ 7 → (ordersUp n k).length ≤ k * 46656
  | 0, _ => by simp [ordersUp]
  | k + 1, hk => by
    have h1 := ordersUp_big hn (k := k) (by omega)
    have h2 := allO_big hn (i := k) (by omega)
    rw [ordersUp_succ, List.length_append]
    omega

theorem orders80_ok {n : Nat} (hn : n ≤ 6) : PCall Try.prog 80 [I n] (ILL (ordersL n)) := by
  refine pcall Try.func80 tr80 rs80 fn80 (by simp [Try.ntmps80]) fun _ => ?_
  simp -implicitDefEqProofs only [m80]
  refine cutS (fun st => st.env 0 = I n) ?_ ?_
  · intro k hk
    simp -implicitDefEqProofs
    exact hk _ (by simp)
  intro s e0
  refine cutS (fun st => st.env 0 = I n ∧ st.env 3 = .slice 1 [IL []] 4) ?_ ?_
  · intro k hk
    simp -implicitDefEqProofs
    exact hk _ (by simp [e0])
  rintro s ⟨e0, e3⟩
  refine cutS (fun st => st.env 0 = I n ∧ st.env 3 = .slice 1 [IL []] 4 ∧ st.env 4 = .slice 1 [IL []] 5) ?_ ?_
  · intro k hk
    simp -implicitDefEqProofs
    exact hk _ (by simp [e0, e3])
  rintro s ⟨e0, e3, e4⟩
  refine cutS (fun st => st.env 3 = .slice 1 ((ordersL n).map IL) 4) ?_ ?_
  · intro k0 hk0
    simp -implicitDefEqProofs
    refine loop_up n (fun k st => st.env 0 = I n ∧ st.env 3 = .slice 1 ((ordersUp n (k + 1)).map IL) 4 ∧ st.env 4 = .slice 1 ((allO n k).map IL) 5 ∧ st.env 5 = I ((k : Int) + 1)) ?_ ?_
    · simp [e0, e3, e4, ordersUp, allO, List.range_succ]
    rintro k s hk ⟨e0, e3, e4, e5⟩
    simp -implicitDefEqProofs [e0, e5]
    refine cond_dec (fun hlt => ?_) (fun hge => ?_)
    · have hlt : k < n := by omega
      have hsu := ordersUp_succ n (k + 1)
      have hub := ordersUp_big hn (k := k + 1) (by omega)
      have hout := allO_big hn (i := k) (by omega)
      have hnext : (allO n k).flatMap (grow n) = allO n (k + 1) := rfl
      have hnb := allO_big hn (i := k + 1) (by omega)
      have hleach := allO_each n k
      generalize hNX : allO n (k + 1) = nx at *
      generalize hO : allO n k = out at *
      generalize ordersUp n (k + 1) = ou at *
      refine stepB ?_
      refine cutS (fun st => st.env 0 = I n ∧ st.env 3 = .slice 1 (ou.map IL) 4 ∧ st.env 4 = .slice 1 (out.map IL) 5 ∧ st.env 5 = I ((k : Int) + 1) ∧ st.env 6 = .slice 1 [] 7) ?_ ?_
      · intro k1 hk1
        simp -implicitDefEqProofs
        exact hk1 _ (by simp [e0, e3, e4, e5])
      rintro s ⟨e0, e3, e4, e5, e6⟩
      refine cutS (fun st => st.env 0 = I n ∧ st.env 3 = .slice 1 (ou.map IL) 4 ∧ st.env 5 = I ((k : Int) + 1) ∧ st.env 6 = .slice 1 (nx.map IL) 7) ?_ ?_
      · intro k1 hk1
        simp -implicitDefEqProofs
        refine loop_up out.length (fun q st => st.env 0 = I n ∧ st.env 3 = .slice 1 (ou.map IL) 4 ∧ st.env 4 = .slice 1 (out.map IL) 5 ∧ st.env 5 = I ((k : Int) + 1) ∧ st.env 6 = .slice 1 (((out.take q).flatMap (grow n)).map IL) 7 ∧ st.env 7 = I q) ?_ ?_
        · simp [e0, e3, e4, e5, e6]
        rintro q s hq ⟨e0, e3, e4, e5, e6, e7⟩
        simp -implicitDefEqProofs [e4, e7]
        refine cond_dec (fun hlt2 => ?_) (fun hge2 => ?_)
        · have hlt2 : q < out.length := by omega
          simp -implicitDefEqProofs
          have hacc := flat_grow_len n (out.take q)
          have hacc2 : (out.take q).length ≤ q := List.length_take_le _ _
          have hacc3 : ((out.take q).flatMap (grow n)).length ≤ 46656 * 6 := Nat.le_trans hacc (Nat.mul_le_mul (by omega) hn)
          have hsn : (out.take (q + 1)).flatMap (grow n) = (out.take q).flatMap (grow n) ++ grow n out[q] := by
            rw [take_snoc hlt2, List.flatMap_append]; simp
          have hol : out[q].length = k := (hleach _ (List.getElem_mem hlt2)).1
          generalize hA : (out.take q).flatMap (grow n) = acc at *
          generalize hoq : out[q] = o at *
          refine loop_up n (fun j st => st.env 0 = I n ∧ st.env 3 = .slice 1 (ou.map IL) 4 ∧ st.env 4 = .slice 1 (out.map IL) 5 ∧ st.env 5 = I ((k : Int) + 1) ∧ st.env 6 = .slice 1 ((acc ++ grow j o).map IL) 7 ∧ st.env 7 = I q ∧ st.env 8 = I j) ?_ ?_
          · simp [e0, e3, e4, e5, e6, e7, grow]
          rintro j s hj ⟨e0, e3, e4, e5, e6, e7, e8⟩
          simp -implicitDefEqProofs [e0, e8]
          refine cond_dec (fun hlt3 => ?_) (fun hge3 => ?_)
          · have hlt3 : j < n := by omega
            have hgl := grow_len j o
            have hgs := grow_succ j o
            simp -implicitDefEqProofs [e4, e7, e8, hlt2, hoq]
            refine vCall_of (has_ok _ _) ?_
            by_cases hin : ((j : Nat) : Int) ∈ o
            · rw [if_pos hin, List.append_nil] at hgs
              simp -implicitDefEqProofs [hin, e8]
              refine ⟨i64 (by omega) (by omega), round_ok hlt3 ?_⟩
              simp [e0, e3, e4, e5, e6, e7, hgs]
            · rw [if_neg hin] at hgs
              simp -implicitDefEqProofs [hin, e4, e6, e7, e8, hlt2, hoq]
              refine ⟨by omega, by omega, by omega, by omega, by omega, by omega, i64 (by omega) (by omega), round_ok hlt3 ?_⟩
              simp [e0, e3, e4, e5, e7, hgs]
          · obtain rfl : j = n := by omega
            simp -implicitDefEqProofs [e7]
            refine ⟨i64 (by omega) (by omega), round_ok hlt2 ?_⟩
            simp [e0, e3, e4, e5, e6, hsn]
        · obtain rfl : q = out.length := by omega
          rw [List.take_length, hnext] at e6
          simp -implicitDefEqProofs
          exact hk1 _ (by simp [e0, e3, e5, e6])
      rintro s ⟨e0, e3, e5, e6⟩
      simp -implicitDefEqProofs [e3, e5, e6]
      refine ⟨by omega, by omega, i64 (by omega) (by omega), round_ok hlt ?_⟩
      rw [hsu]
      simp [e0, hNX]
    · obtain rfl : k = n := by omega
      simp -implicitDefEqProofs
      exact hk0 _ (by simp [e3, ordersL])
  intro s e3
  simp -implicitDefEqProofs [e3, r80]

/-! ## All chains -/
def firsts (c : Case) (os : List (List Int)) : List (List Int) := (chainsOf c os).map fun p => p.1
/-- All orders that have a chain. -/
def allR (c : Case) : List (List Int) := firsts c (ordersL c.owners.length)
theorem allR_map (c : Case) : allR c = (chainsL c).map fun p => p.1 := rfl
theorem firsts_snoc (c : Case) (os : List (List Int)) (o : List Int) : firsts c (os ++ [o]) = firsts c os ++ if (solveS c o).isSome then [o] else [] := by
  unfold firsts chainsOf
  rw [List.filterMap_append, List.map_append]
  congr 1
  unfold solved
  cases h : solveS c o <;> simp [h]
theorem allR_len {c : Case} (h : c.OK) : (allR c).length ≤ 326592 := by
  rw [allR_map, List.length_map]; exact chainsL_len h
theorem mem_chains {c : Case} {p : List Int × List Hold} (h : p ∈ chainsL c) : p.1 ∈ ordersL c.owners.length ∧ solveS c p.1 = some p.2 := by
  unfold chainsL chainsOf at h
  rw [List.mem_filterMap] at h
  obtain ⟨o, ho, hs⟩ := h
  unfold solved at hs
  rw [Option.map_eq_some_iff] at hs
  obtain ⟨l, hl, rfl⟩ := hs
  exact ⟨ho, hl⟩
theorem solved_fld (c : Case) (o : Option (List Hold)) : ∃ x y, solvedAV c o = .agg [B o.isSome, x, y] ∧ x.cell1 = true ∧ y.cell1 = true := by
  cases o with
  | none => exact ⟨_, _, rfl, rfl, rfl⟩
  | some l => exact ⟨_, _, rfl, rfl, rfl⟩

theorem all72_ok {c : Case} (h : c.OK) : PCall Try.prog 72 [encCase c] (ILL (allR c)) := by
  refine pcall Try.func72 tr72 rs72 fn72 (by simp [Try.ntmps72]) fun _ => ?_
  have hn6 := h.ownersLen
  have hO := orders80_ok hn6
  have hlen := ordersL_len hn6
  have hsol : ∀ o ∈ ordersL c.owners.length, PCall Try.prog 62 [encCase c, IL o] (solvedAV c (solveS c o)) := fun o ho => by
    have := ordersL_each ho
    exact solve62_ok h this.2.2 this.2.1 (by omega)
  have hR : allR c = firsts c (ordersL c.owners.length) := rfl
  have h24 : ∀ o ∈ ordersL c.owners.length, o.length ≤ 6 := fun o ho => by have := ordersL_each ho; omega
  rw [hR]
  generalize ordersL c.owners.length = L at *
  simp -implicitDefEqProofs [m72]
  refine vCall_of hO ?_
  simp -implicitDefEqProofs
  refine loop_up L.length (fun k s => s.env 1 = caseRef c ∧ s.env 3 = ILL L ∧ s.env 4 = .slice 1 ((firsts c (L.take k)).map IL) 5 ∧ s.env 5 = I k) ?_ ?_
  · simp [firsts, chainsOf]
  rintro k s hk ⟨e1, e3, e4, e5⟩
  simp -implicitDefEqProofs [e3, e5]
  refine cond_dec (fun hlt => ?_) (fun hge => ?_)
  · have hlt : k < L.length := by omega
    have hcall := hsol _ (List.getElem_mem hlt)
    have hsn := firsts_snoc c (L.take k) L[k]
    rw [← take_snoc hlt] at hsn
    have hl2 : (firsts c (L.take k)).length ≤ 326592 := by
      unfold firsts
      rw [List.length_map]
      refine Nat.le_trans (List.length_filterMap_le _ _) ?_
      rw [List.length_take]; omega
    generalize hok : L[k] = o at *
    obtain ⟨x, y, hxy, hx1, hx2⟩ := solved_fld c (solveS c o)
    rw [hxy] at hcall
    generalize hC : firsts c (L.take k) = C at *
    simp -implicitDefEqProofs [e1, e3, e5, hlt, hok]
    refine vCall_of hcall ?_
    simp -implicitDefEqProofs
    refine cond_bool (fun hb => ?_) (fun hb => ?_)
    · rw [if_pos hb] at hsn
      simp -implicitDefEqProofs [e3, e4, e5, hlt, hok]
      refine ⟨by omega, by omega, i64 (by omega) (by omega), round_ok hlt ?_⟩
      simp [e1, e3, hsn]
    · rw [if_neg (by simp [hb]), List.append_nil] at hsn
      simp -implicitDefEqProofs [e5]
      refine ⟨i64 (by omega) (by omega), round_ok hlt ?_⟩
      simp [e1, e3, e4, hsn]
  · obtain rfl : k = L.length := by omega
    rw [List.take_length] at e4
    simp -implicitDefEqProofs [e4, r72]

/-- The error behind others, if there is no chain. -/
def someS (c : Case) (e : Int) : List (List Int) × Int := if e ≠ 0 then ([], e) else if allR c = [] then ([], 8) else (allR c, 0)
theorem some61_ok (c : Case) (e : Int) (h : e = 0 → c.OK) : PCall Try.prog 61 [encCase c, I e] (.tuple [ILL (someS c e).1, I (someS c e).2]) := by
  refine pcall Try.func61 tr61 rs61 fn61 (by simp [Try.ntmps61]) fun _ => ?_
  obtain ⟨R, hR⟩ : ∃ R, R = someS c e := ⟨_, rfl⟩
  rw [← hR]
  unfold someS at hR
  by_cases he : e = 0
  · have ha := all72_ok (h he)
    subst he
    rw [if_neg (by simp)] at hR
    generalize allR c = L at *
    by_cases hz : L = []
    · rw [if_pos hz] at hR
      subst hz
      simp -implicitDefEqProofs [m61]
      refine vCall_of ha ?_
      simp -implicitDefEqProofs [r61, hR]
    · rw [if_neg hz] at hR
      have hz' : ((L.length : Int) == 0) = false := by simp; exact hz
      simp -implicitDefEqProofs [m61]
      refine vCall_of ha ?_
      simp -implicitDefEqProofs [r61, hR, hz']
  · rw [if_pos he] at hR
    have he' : (e != 0) = true := by simpa using he
    simp -implicitDefEqProofs [m61, r61, hR, he']

/-! ## Chain, Order, Why -/
end Go.Proofs.Ytiampdiobdianaa

namespace Go.Proofs.Ytiampdiobdianaa
open Go.Avm

end Go.Proofs.Ytiampdiobdianaa

namespace Go.Proofs.Ytiampdiobdianaa
open Go.Avm

theorem at_ne {o : List Int} {a b : Int} (hab : a ≠ b) (ha : 0 ≤ at' o a) : at' o a ≠ at' o b := by
  intro e
  have h1 : a ∈ o := Decidable.not_not.1 fun h => by have := at_neg.2 h; omega
  have h2 : b ∈ o := Decidable.not_not.1 fun h => by have := at_neg.2 h; omega
  obtain ⟨p, hp, hp1, hp2⟩ := at_mem h1
  obtain ⟨q, hq, hq1, hq2⟩ := at_mem h2
  have : p = q := by omega
  subst this
  exact hab (hp2.symm.trans hq2)
def beforeC (a b : Int) (l : List (List Int)) : Nat := l.countP fun o => decide (catO a b o = 1)
def afterC (a b : Int) (l : List (List Int)) : Nat := l.countP fun o => decide (catO a b o = 2)
theorem beforeC_snoc (a b : Int) (l : List (List Int)) (o : List Int) : beforeC a b (l ++ [o]) = beforeC a b l + if catO a b o = 1 then 1 else 0 := by
  simp [beforeC, List.countP_append, List.countP_cons]
theorem afterC_snoc (a b : Int) (l : List (List Int)) (o : List Int) : afterC a b (l ++ [o]) = afterC a b l + if catO a b o = 2 then 1 else 0 := by
  simp [afterC, List.countP_append, List.countP_cons]
theorem cnt_before (a b : Int) (c : Case) : cntO a b 1 (chainsL c) = beforeC a b (allR c) := by
  unfold cntO beforeC; rw [allR_map, List.countP_map]; rfl
theorem cnt_after (a b : Int) (c : Case) : cntO a b 2 (chainsL c) = afterC a b (allR c) := by
  unfold cntO afterC; rw [allR_map, List.countP_map]; rfl
theorem out2' (lo hi a b : Int) : out lo hi [a, b] = !(decide (lo ≤ a ∧ a ≤ hi) && decide (lo ≤ b ∧ b ≤ hi)) := out2 lo hi a b

theorem before25_ok (c : Case) (a b : Int) : PCall Try.prog 25 [encCase c, I a, I b] (encR2 (beforeS c a b)) := by
  refine pcall Try.func25 tr25 rs25 fn25 (by simp [Try.ntmps25]) fun hfit => ?_
  have lS := fits_len (fits_agg (hfit 0) 2)
  simp only [List.length_map] at lS
  have c0 := checkR_ok c
  obtain ⟨R, hR⟩ : ∃ R, R = beforeS c a b := ⟨_, rfl⟩
  rw [← hR]
  unfold beforeS at hR
  rw [cnt_before, cnt_after] at hR
  simp -implicitDefEqProofs only [m25]
  refine cutS (fun st => st.env 1 = I a ∧ st.env 2 = I b ∧ st.env 3 = caseRef c) ?_ ?_
  · intro k hk
    simp -implicitDefEqProofs
    exact hk _ (by simp)
  rintro s ⟨e1, e2, e3⟩
  refine cutS (fun st => st.env 1 = I a ∧ st.env 2 = I b ∧ st.env 3 = caseRef c ∧ st.env 10 = I (errE c)) ?_ ?_
  · intro k hk
    simp -implicitDefEqProofs [e3]
    refine vCall_of c0 ?_
    simp -implicitDefEqProofs [T3]
    exact hk _ (by simp [e1, e2, e3])
  rintro s ⟨e1, e2, e3, e10⟩
  obtain ⟨E, hE⟩ : ∃ E, E = if errE c ≠ 0 then errE c else if out 0 ((c.owners.length : Int) - 1) [a, b] then 4 else if a = b then 2 else 0 := ⟨_, rfl⟩
  refine cutS (fun st => st.env 1 = I a ∧ st.env 2 = I b ∧ st.env 3 = caseRef c ∧ st.env 10 = I (if errE c ≠ 0 then errE c else if out 0 ((c.owners.length : Int) - 1) [a, b] then 4 else 0)) ?_ ?_
  · intro k hk
    by_cases he : errE c = 0
    case neg =>
      have he' : (errE c == 0) = false := by simp [he]
      simp -implicitDefEqProofs [e10, he']
      exact hk _ ⟨by simp [e1], by simp [e2], by simp [e3], by rw [if_pos he]; simp [e10]⟩
    rw [he] at e10
    rw [if_neg (not_not_intro he)] at hk
    have ho := out2' 0 ((c.owners.length : Int) - 1) a b
    rw [ho] at hk
    simp -implicitDefEqProofs [e1, e3, e10]
    refine ⟨i64 (by omega) (by omega), vCall_of (in_ok a 0 ((c.owners.length : Int) - 1)) ?_⟩
    by_cases ha : 0 ≤ a ∧ a ≤ (c.owners.length : Int) - 1
    · rw [decide_eq_true ha] at hk ⊢
      simp -implicitDefEqProofs [e2, e3]
      refine ⟨i64 (by omega) (by omega), vCall_of (in_ok b 0 ((c.owners.length : Int) - 1)) ?_⟩
      by_cases hb : 0 ≤ b ∧ b ≤ (c.owners.length : Int) - 1
      · rw [decide_eq_true hb] at hk ⊢
        simp -implicitDefEqProofs
        exact hk _ (by simp [e1, e2, e3, e10])
      · rw [decide_eq_false hb] at hk ⊢
        simp -implicitDefEqProofs
        exact hk _ (by simp [e1, e2, e3])
    · rw [decide_eq_false ha] at hk ⊢
      simp -implicitDefEqProofs
      exact hk _ (by simp [e1, e2, e3])
  rintro s ⟨e1, e2, e3, e10⟩
  refine cutS (fun st => st.env 1 = I a ∧ st.env 2 = I b ∧ st.env 3 = caseRef c ∧ st.env 10 = I E) ?_ ?_
  · intro k hk
    have hk : ∀ s' : St, s'.env 1 = I a ∧ s'.env 2 = I b ∧ s'.env 3 = caseRef c ∧ s'.env 10 = I E → k s' := hk
    by_cases he : errE c = 0
    case neg =>
      rw [if_pos he] at e10 hE
      have he' : (errE c == 0) = false := by simp [he]
      simp -implicitDefEqProofs [e10, he']
      exact hk _ ⟨by simp [e1], by simp [e2], by simp [e3], by simp [e10, hE]⟩
    rw [if_neg (not_not_intro he)] at e10 hE
    by_cases ho : out 0 ((c.owners.length : Int) - 1) [a, b] = true
    · rw [if_pos ho] at e10 hE
      simp -implicitDefEqProofs [e10]
      exact hk _ ⟨by simp [e1], by simp [e2], by simp [e3], by simp [e10, hE]⟩
    rw [if_neg ho] at e10 hE
    by_cases hab : a = b
    · rw [if_pos hab] at hE
      have hab' : (a == b) = true := by simp [hab]
      simp -implicitDefEqProofs [e1, e2, e10, hab']
      exact hk _ ⟨by simp [e1], by simp [e2], by simp [e3], by simp [hE]⟩
    · rw [if_neg hab] at hE
      have hab' : (a == b) = false := by simp [hab]
      simp -implicitDefEqProofs [e1, e2, e10, hab']
      exact hk _ ⟨by simp [e1], by simp [e2], by simp [e3], by simp [e10, hE]⟩
  rintro s ⟨e1, e2, e3, e10⟩
  have hE0 : E = 0 → errE c = 0 ∧ out 0 ((c.owners.length : Int) - 1) [a, b] = false ∧ a ≠ b := by
    intro h0
    by_cases he : errE c = 0
    case neg => rw [if_pos he] at hE; omega
    rw [if_neg (not_not_intro he)] at hE
    cases ho : out 0 ((c.owners.length : Int) - 1) [a, b] with
    | true => rw [ho, if_pos rfl] at hE; omega
    | false =>
      rw [ho, if_neg (by simp)] at hE
      by_cases hab : a = b
      · rw [if_pos hab] at hE; omega
      · exact ⟨he, rfl, hab⟩
  have hRE : R = if E ≠ 0 then ⟨0, E⟩ else if chainsL c = [] then ⟨0, 8⟩ else ⟨beforeN (beforeC a b (allR c)) (afterC a b (allR c)), 0⟩ := by
    rw [hR]
    by_cases he : errE c = 0
    case neg => rw [if_pos he] at hE ⊢; rw [hE, if_pos he]
    rw [if_neg (not_not_intro he)] at hE ⊢
    cases ho : out 0 ((c.owners.length : Int) - 1) [a, b] with
    | true => rw [ho, if_pos rfl] at hE; rw [if_pos rfl, hE, if_pos (by omega)]
    | false =>
      rw [ho, if_neg (by simp)] at hE
      rw [if_neg (by simp)]
      by_cases hab : a = b
      · rw [if_pos hab] at hE ⊢; rw [hE, if_pos (by omega)]
      · rw [if_neg hab] at hE ⊢; rw [hE, if_neg (not_not_intro rfl)]
  have c1 := some61_ok c E (fun h0 => Case.ok (hE0 h0).1)
  refine cutS (fun st => st.env 1 = I a ∧ st.env 2 = I b ∧ st.env 11 = ILL (someS c E).1 ∧ st.env 10 = I (someS c E).2) ?_ ?_
  · intro k hk
    simp -implicitDefEqProofs [e3, e10]
    refine vCall_of c1 ?_
    simp -implicitDefEqProofs
    exact hk _ (by simp [e1, e2])
  rintro s ⟨e1, e2, e11, e10⟩
  unfold someS at e11 e10
  by_cases h0 : E = 0
  case neg =>
    rw [if_pos h0] at hRE e10
    have he' : (E != 0) = true := by simp [h0]
    simp -implicitDefEqProofs [e10, he', r25, hRE]
  obtain ⟨he, ho, hab⟩ := hE0 h0
  rw [if_neg (not_not_intro h0)] at hRE e10 e11
  have hok := Case.ok he
  by_cases hz : allR c = []
  · rw [if_pos hz] at e10
    have hz2 : chainsL c = [] := by
      rw [allR_map] at hz
      simpa using hz
    rw [if_pos hz2] at hRE
    simp -implicitDefEqProofs [e10, r25, hRE]
  rw [if_neg hz] at e10 e11
  have hz2 : ¬ chainsL c = [] := fun e => hz (by rw [allR_map, e]; rfl)
  rw [if_neg hz2] at hRE
  have hbig := allR_len hok
  have hsm : ∀ o ∈ allR c, o.length ≤ 6 := fun o ho => by
    rw [allR_map, List.mem_map] at ho
    obtain ⟨p, hp, rfl⟩ := ho
    have := ordersL_each (mem_chains hp).1
    have := hok.ownersLen
    omega
  generalize allR c = L at *
  refine cutS (fun st => st.env 1 = I a ∧ st.env 2 = I b ∧ st.env 11 = ILL L) ?_ ?_
  · intro k hk
    simp -implicitDefEqProofs [e10]
    exact hk _ (by simp [e1, e2, e11])
  rintro s ⟨e1, e2, e11⟩
  refine cutS (fun st => st.env 1 = I a ∧ st.env 2 = I b ∧ st.env 11 = ILL L ∧ st.env 12 = I 0 ∧ st.env 13 = I 0) ?_ ?_
  · intro k hk
    simp -implicitDefEqProofs
    exact hk _ (by simp [e1, e2, e11])
  rintro s ⟨e1, e2, e11, e12, e13⟩
  refine cutS (fun st => st.env 12 = I (beforeC a b L) ∧ st.env 13 = I (afterC a b L)) ?_ ?_
  · intro k0 hk0
    simp -implicitDefEqProofs
    refine loop_up L.length (fun k st => st.env 1 = I a ∧ st.env 2 = I b ∧ st.env 11 = ILL L ∧ st.env 12 = I (beforeC a b (L.take k)) ∧ st.env 13 = I (afterC a b (L.take k)) ∧ st.env 14 = I k) ?_ ?_
    · simp [e1, e2, e11, e12, e13, beforeC, afterC]
    rintro k s hk ⟨e1, e2, e11, e12, e13, e14⟩
    simp -implicitDefEqProofs [e11, e14]
    refine cond_dec (fun hlt => ?_) (fun hge => ?_)
    · have hlt : k < L.length := by omega
      have hbs := beforeC_snoc a b (L.take k) L[k]
      have has := afterC_snoc a b (L.take k) L[k]
      rw [← take_snoc hlt] at hbs has
      have hb1 : beforeC a b (L.take k) ≤ 326592 := Nat.le_trans List.countP_le_length (by rw [List.length_take]; omega)
      have ha1 : afterC a b (L.take k) ≤ 326592 := Nat.le_trans List.countP_le_length (by rw [List.length_take]; omega)
      generalize hok' : L[k] = o at *
      refine stepB ?_
      refine cutS (fun st => st.env 1 = I a ∧ st.env 2 = I b ∧ st.env 11 = ILL L ∧ st.env 12 = I (beforeC a b (L.take k)) ∧ st.env 13 = I (afterC a b (L.take k)) ∧ st.env 14 = I k ∧ st.env 15 = I (at' o a) ∧ st.env 16 = I (at' o b)) ?_ ?_
      · intro k1 hk1
        simp -implicitDefEqProofs [e1, e11, e14, hlt, hok']
        refine vCall_of (at_ok o a) ?_
        simp -implicitDefEqProofs [e2, e11, e14, hlt, hok']
        refine vCall_of (at_ok o b) ?_
        simp -implicitDefEqProofs
        exact hk1 _ (by simp [e1, e2, e11, e12, e13, e14])
      rintro s ⟨e1, e2, e11, e12, e13, e14, e15, e16⟩
      have hne := at_ne (o := o) hab
      have i1 : catO a b o = 1 ↔ 0 ≤ at' o a ∧ 0 ≤ at' o b ∧ at' o a < at' o b := by
        unfold catO
        by_cases h1 : at' o a < 0 ∨ at' o b < 0
        · rw [if_pos h1]; omega
        · rw [if_neg h1]
          by_cases h2 : at' o a < at' o b
          · rw [if_pos h2]; omega
          · rw [if_neg h2]; omega
      have i2 : catO a b o = 2 ↔ 0 ≤ at' o a ∧ 0 ≤ at' o b ∧ at' o b < at' o a := by
        unfold catO
        by_cases h1 : at' o a < 0 ∨ at' o b < 0
        · rw [if_pos h1]; omega
        · rw [if_neg h1]
          have := hne (by omega)
          by_cases h2 : at' o a < at' o b
          · rw [if_pos h2]; omega
          · rw [if_neg h2]; omega
      generalize catO a b o = cat at *
      generalize at' o a = x at *
      generalize at' o b = y at *
      refine cutS (fun st => st.env 1 = I a ∧ st.env 2 = I b ∧ st.env 11 = ILL L ∧ st.env 12 = I (beforeC a b (L.take (k + 1))) ∧ st.env 13 = I (afterC a b (L.take k)) ∧ st.env 14 = I k ∧ st.env 15 = I x ∧ st.env 16 = I y) ?_ ?_
      · intro k1 hk1
        by_cases hx : 0 ≤ x
        · by_cases hy : 0 ≤ y
          · by_cases hxy : x < y
            · rw [if_pos (i1.2 ⟨hx, hy, hxy⟩)] at hbs
              simp -implicitDefEqProofs [e12, e15, e16, hx, hy, hxy]
              refine ⟨i64 (by omega) (by omega), hk1 _ ?_⟩
              rw [hbs]
              simp [e1, e2, e11, e13, e14, e15, e16]
            · rw [if_neg (fun e => hxy (i1.1 e).2.2)] at hbs
              simp -implicitDefEqProofs [e12, e15, e16, hx, hy, hxy]
              refine hk1 _ ?_
              rw [hbs]
              simp [e1, e2, e11, e12, e13, e14, e15, e16]
          · rw [if_neg (fun e => hy (i1.1 e).2.1)] at hbs
            simp -implicitDefEqProofs [e15, e16, hx, hy]
            refine hk1 _ ?_
            rw [hbs]
            simp [e1, e2, e11, e12, e13, e14, e15, e16]
        · rw [if_neg (fun e => hx (i1.1 e).1)] at hbs
          simp -implicitDefEqProofs [e15, hx]
          refine hk1 _ ?_
          rw [hbs]
          simp [e1, e2, e11, e12, e13, e14, e15, e16]
      rintro s ⟨e1, e2, e11, e12, e13, e14, e15, e16⟩
      by_cases hx : 0 ≤ x
      · by_cases hy : 0 ≤ y
        · by_cases hxy : y < x
          · rw [if_pos (i2.2 ⟨hx, hy, hxy⟩)] at has
            simp -implicitDefEqProofs [e13, e14, e15, e16, hx, hy, hxy]
            refine ⟨i64 (by omega) (by omega), i64 (by omega) (by omega), round_ok hlt ?_⟩
            rw [has]
            simp [e1, e2, e11, e12]
          · rw [if_neg (fun e => hxy (i2.1 e).2.2)] at has
            simp -implicitDefEqProofs [e13, e14, e15, e16, hx, hy, hxy]
            refine ⟨i64 (by omega) (by omega), round_ok hlt ?_⟩
            rw [has]
            simp [e1, e2, e11, e12, e13]
        · rw [if_neg (fun e => hy (i2.1 e).2.1)] at has
          simp -implicitDefEqProofs [e14, e15, e16, hx, hy]
          refine ⟨i64 (by omega) (by omega), round_ok hlt ?_⟩
          rw [has]
          simp [e1, e2, e11, e12, e13]
      · rw [if_neg (fun e => hx (i2.1 e).1)] at has
        simp -implicitDefEqProofs [e14, e15, hx]
        refine ⟨i64 (by omega) (by omega), round_ok hlt ?_⟩
        rw [has]
        simp [e1, e2, e11, e12, e13]
    · obtain rfl : k = L.length := by omega
      rw [List.take_length] at e12 e13
      simp -implicitDefEqProofs
      exact hk0 _ (by simp [e12, e13])
  rintro s ⟨e12, e13⟩
  generalize beforeC a b L = n1 at *
  generalize afterC a b L = n2 at *
  unfold beforeN at hRE
  by_cases h1 : 0 < n1
  · by_cases h2 : n2 = 0
    · rw [if_pos ⟨h1, h2⟩] at hRE
      simp -implicitDefEqProofs [e12, e13, h1, h2, r25, hRE]
    · rw [if_neg (by omega), if_neg (by omega)] at hRE
      have h3 : ((n2 : Int) == 0) = false := by simp [h2]
      have h4 : ((n1 : Int) == 0) = false := by simp; omega
      have h5 : 0 < n2 := by omega
      simp -implicitDefEqProofs [e12, e13, h1, h3, h4, h5, r25, hRE]
  · have h1' : n1 = 0 := by omega
    by_cases h2 : 0 < n2
    · rw [if_neg (by omega), if_pos ⟨h2, h1'⟩] at hRE
      simp -implicitDefEqProofs [e12, e13, h1', h2, r25, hRE]
    · rw [if_neg (by omega), if_neg (by omega)] at hRE
      have h2' : n2 = 0 := by omega
      simp -implicitDefEqProofs [e12, e13, h1', h2', r25, hRE]
end Go.Proofs.Ytiampdiobdianaa

namespace Go.Proofs.Ytiampdiobdianaa
open Go.Avm

def own (o : List Int) (i : Nat) : Nat := (o.getD i 0).toNat
/-- An order of some owners. -/
structure OrdOK (c : Case) (o : List Int) : Prop where
  rng : ∀ x ∈ o, 0 ≤ x ∧ x < (c.owners.length : Int)
  nd : o.Nodup
theorem own_at {c : Case} {o : List Int} (h : OrdOK c o) {i : Nat} (hi : i < o.length) : ((own o i : Nat) : Int) = o[i] ∧ own o i < c.owners.length ∧ at' o (own o i) = i := by
  have h1 := h.rng _ (List.getElem_mem hi)
  have e : ((own o i : Nat) : Int) = o[i] := by
    unfold own
    rw [List.getD_eq_getElem?_getD, List.getElem?_eq_getElem hi, Option.getD_some]
    omega
  refine ⟨e, by omega, ?_⟩
  rw [e]; exact at_nodup h.nd hi
theorem own_pos {c : Case} {o : List Int} (h : OrdOK c o) {x : Int} {i : Nat} (hi : i < o.length) (hx : at' o x = i) : x = own o i := by
  have hm : x ∈ o := Decidable.not_not.1 fun hn => by have := at_neg.2 hn; omega
  obtain ⟨k, hk, h1, h2⟩ := at_mem hm
  obtain rfl : k = i := by omega
  rw [(own_at h hk).1, h2]
theorem orders_ok {c : Case} {o : List Int} (h : o ∈ ordersL c.owners.length) : OrdOK c o := by
  have := ordersL_each h
  exact ⟨this.2.2, this.2.1⟩
theorem mem_orders {c : Case} {o : List Int} (h : OrdOK c o) : o ∈ ordersL c.owners.length := by
  unfold ordersL ordersUp
  rw [List.mem_flatMap]
  refine ⟨o.length, ?_, mem_allO _ _ o rfl h.nd h.rng⟩
  rw [List.mem_range]
  have := nodup_len _ _ h.nd h.rng
  omega

/-- Years for the owners of an order below n, and for their marks. -/
structure FeasTo (c : Case) (o : List Int) (n : Nat) (S T Y : Nat → Int) : Prop where
  le : ∀ i < n, S i ≤ T i
  next : ∀ i, i + 1 < n → T i ≤ S (i + 1)
  own : ∀ i < n, bLo c c.sales (own o i) ≤ S i ∧ S i ≤ bHi c c.sales (own o i) ∧ gLo c c.sales (own o i) ≤ T i ∧ T i ≤ gHi c c.sales (own o i)
  marks : ∀ q (hq : q < c.marks.length) (i : Nat), i < n → at' o c.marks[q].owner = i → S i ≤ Y q ∧ Y q ≤ T i ∧ c.marks[q].lo ≤ Y q ∧ Y q ≤ c.marks[q].hi
  upon : ∀ q (hq : q < c.marks.length) (i : Nat), i < n → at' o c.marks[q].owner = i → c.marks[q].upon ≠ -1 → Y c.marks[q].upon.toNat ≤ Y q
abbrev Feas (c : Case) (o : List Int) (S T Y : Nat → Int) : Prop := FeasTo c o o.length S T Y

/-! ## What a run finds are years -/
theorem marks_run {c : Case} {o : Nat} {f : Int} {Y0 : Nat → Int} {t0 : Int} (hu : ∀ i (h : i < c.marks.length), -1 ≤ c.marks[i].upon ∧ c.marks[i].upon < i) : ∀ {k : Nat} {x : (Nat → Int) × Int}, k ≤ c.marks.length → marksUp c o f Y0 t0 k = some x →
    t0 ≤ x.2 ∧ (∀ q, (∀ hq : q < c.marks.length, c.marks[q].owner ≠ (o : Int)) → x.1 q = Y0 q) ∧
    ∀ q (hq : q < c.marks.length), q < k → c.marks[q].owner = (o : Int) → f ≤ x.1 q ∧ x.1 q ≤ x.2 ∧ c.marks[q].lo ≤ x.1 q ∧ x.1 q ≤ c.marks[q].hi ∧ (c.marks[q].upon ≠ -1 → x.1 c.marks[q].upon.toNat ≤ x.1 q)
  | 0, x, _, h => by
    injection h with h
    subst h
    exact ⟨Int.le_refl _, fun _ _ => rfl, fun q _ hq => by omega⟩
  | k + 1, x, hk, h => by
    have h : (marksUp c o f Y0 t0 k).bind (markStep c o f k) = some x := h
    rw [Option.bind_eq_some_iff] at h
    obtain ⟨y, hy, h⟩ := h
    obtain ⟨i1, i2, i3⟩ := marks_run hu (by omega) hy
    unfold markStep markY at h
    have hk' : k < c.marks.length := hk
    rw [mk_at hk'] at h
    have hup := hu k hk'
    split at h
    · rename_i hne
      injection h with h
      subst h
      refine ⟨i1, i2, fun q hq hqk ho => ?_⟩
      by_cases e : q = k
      · subst e; exact absurd ho hne
      · exact i3 q hq (by omega) ho
    · rename_i hne
      have ho : c.marks[k].owner = (o : Int) := Decidable.not_not.1 hne
      obtain ⟨z, hz⟩ : ∃ z, z = (if c.marks[k].upon = -1 then max c.marks[k].lo f else max (max c.marks[k].lo f) (y.1 c.marks[k].upon.toNat)) := ⟨_, rfl⟩
      rw [← hz] at h
      by_cases hhi : c.marks[k].hi < z
      · rw [if_pos hhi] at h; cases h
      rw [if_neg hhi] at h
      injection h with h
      subst h
      have hzlo : c.marks[k].lo ≤ z ∧ f ≤ z := by rw [hz]; split <;> omega
      have hzu : c.marks[k].upon ≠ -1 → y.1 c.marks[k].upon.toNat ≤ z := fun hn => by rw [hz, if_neg hn]; omega
      have pk : ∀ j, j ≠ k → putY y.1 k z j = y.1 j := fun j hj => by unfold putY; rw [if_neg hj]
      have pkk : putY y.1 k z k = z := by unfold putY; rw [if_pos rfl]
      refine ⟨by show t0 ≤ max y.2 z; omega, fun q hq => ?_, fun q hq hqk hqo => ?_⟩
      · have e : q ≠ k := by rintro rfl; exact hq hk' ho
        show putY y.1 k z q = _
        rw [pk q e]; exact i2 q hq
      · show f ≤ putY y.1 k z q ∧ putY y.1 k z q ≤ max y.2 z ∧ _ ≤ putY y.1 k z q ∧ putY y.1 k z q ≤ _ ∧ (_ → putY y.1 k z _ ≤ putY y.1 k z q)
        by_cases e : q = k
        · subst e
          rw [pkk]
          refine ⟨hzlo.2, by omega, hzlo.1, by omega, fun hn => ?_⟩
          rw [pk _ (by omega)]
          exact hzu hn
        · obtain ⟨j1, j2, j3, j4, j5⟩ := i3 q hq (by omega) hqo
          have hq2 := hu q hq
          rw [pk q e]
          refine ⟨j1, by omega, j3, j4, fun hn => ?_⟩
          rw [pk _ (by omega)]
          exact j5 hn
/-- The holds of a run: who, and up to when at the latest. -/
def HoldsOf (c : Case) (o : List Int) (n : Nat) (l : List Hold) : Prop := l.length = n ∧ ∀ i (h : i < l.length), l[i].who = own o i ∧ l[i].til = gHi c c.sales (own o i)
theorem layered_pos {c : Case} {o : List Int} (hl : layeredB c o = true) {q : Nat} (hq : q < c.marks.length) (hn : c.marks[q].upon ≠ -1) : ¬ at' o c.marks[q].owner < at' o (c.marks.getD c.marks[q].upon.toNat mkD).owner := by
  unfold layeredB at hl
  have := List.all_eq_true.1 hl _ (List.getElem_mem hq)
  unfold under at this
  rw [decide_eq_false hn, Bool.false_or] at this
  simpa using this
theorem run_feas {c : Case} (hc : c.OK) {o : List Int} (ho : OrdOK c o) (hl : layeredB c o = true) (hm : ∀ m ∈ c.marks, m.owner ∈ o) : ∀ {n : Nat} {x : Run}, n ≤ o.length → runUp c o n = some x →
    HoldsOf c o n x.raw ∧ ∃ T, FeasTo c o n (fun i => (x.raw.getD i ⟨0, 0, 0⟩).src) T x.years ∧ (∀ i, i + 1 = n → T i = x.since) ∧ (n = 0 → x.since = c.printed) ∧
      (∀ i, i + 1 < n → (x.raw.getD (i + 1) ⟨0, 0, 0⟩).src = max (T i) (bLo c c.sales (own o (i + 1)))) ∧ (0 < n → (x.raw.getD 0 ⟨0, 0, 0⟩).src = bLo c c.sales (own o 0))
  | 0, x, _, h => by
    injection h with h
    subst h
    refine ⟨⟨rfl, fun i h => by cases h⟩, fun _ => 0, ⟨by omega, by omega, by omega, fun q _ i hi => by omega, fun q _ i hi => by omega⟩, by omega, fun _ => rfl, by omega, by omega⟩
  | n + 1, x, hn, h => by
    have h : (runUp c o n).bind (stepO c (own o n)) = some x := h
    rw [Option.bind_eq_some_iff] at h
    obtain ⟨y, hy, h⟩ := h
    obtain ⟨⟨l1, l2⟩, T, hF, hT, h0, hS, hS0⟩ := run_feas hc ho hl hm (by omega) hy
    unfold stepO at h
    rw [Option.bind_eq_some_iff] at h
    obtain ⟨z, hz, h⟩ := h
    have hn' : n < o.length := hn
    have hsp := runUp_since hy
    obtain ⟨m1, m2, m3⟩ := marks_run hc.upon (Nat.le_refl _) hz
    obtain ⟨oe, olt, oat⟩ := own_at ho hn'
    generalize hon : own o n = on at *
    obtain ⟨f, hf⟩ : ∃ f, f = max y.since (bLo c c.sales on) := ⟨_, rfl⟩
    rw [← hf] at h m1 m3
    split at h
    · cases h
    rename_i hgood
    injection h with h
    subst h
    have hgood : ¬ (bHi c c.sales on < f) ∧ ¬ (gHi c c.sales on < z.2) := by
      constructor
      · exact fun e => hgood (.inl e)
      · exact fun e => hgood (.inr e)
    have hlen : (y.raw ++ [(⟨on, f, gHi c c.sales on⟩ : Hold)]).length = n + 1 := by simp [l1]
    have hgl : ∀ i, i < n → ((y.raw ++ [(⟨on, f, gHi c c.sales on⟩ : Hold)]).getD i ⟨0, 0, 0⟩).src = (y.raw.getD i ⟨0, 0, 0⟩).src := fun i hi => by
      rw [List.getD_eq_getElem?_getD, List.getElem?_append_left (by omega), List.getD_eq_getElem?_getD]
    have hgn : ((y.raw ++ [(⟨on, f, gHi c c.sales on⟩ : Hold)]).getD n ⟨0, 0, 0⟩).src = f := by
      rw [List.getD_eq_getElem?_getD, List.getElem?_append_right (by omega), l1, Nat.sub_self]; rfl
    refine ⟨⟨hlen, fun i hi => ?_⟩, fun i => if i = n then z.2 else T i, ?_, ?_, by omega, ?_, ?_⟩
    · show (y.raw ++ [(⟨on, f, gHi c c.sales on⟩ : Hold)])[i].who = _ ∧ (y.raw ++ [(⟨on, f, gHi c c.sales on⟩ : Hold)])[i].til = _
      by_cases e : i < y.raw.length
      · rw [List.getElem_append_left e]; exact l2 i e
      · have : i = n := by
          have hi : i < (y.raw ++ [(⟨on, f, gHi c c.sales on⟩ : Hold)]).length := hi
          rw [hlen] at hi; omega
        subst this
        rw [List.getElem_append_right (by omega)]
        simp [hon]
    · have hpos : ∀ q (hq : q < c.marks.length) (i : Nat), i < n → at' o c.marks[q].owner = i → z.1 q = y.years q := fun q hq i hi he => m2 q fun _ e => by rw [e, oat] at he; omega
      have hfT : f ≤ z.2 := by omega
      refine ⟨fun i hi => ?_, fun i hi => ?_, fun i hi => ?_, fun q hq i hi he => ?_, fun q hq i hi he hne => ?_⟩
      · by_cases e : i = n
        · subst e; simp only [hgn, if_true]; exact hfT
        · simp only [hgl i (by omega), if_neg e]; exact hF.le i (by omega)
      · by_cases e : i + 1 = n
        · subst e
          simp only [hgn, if_neg (show ¬ i = i + 1 by omega)]
          rw [hT i rfl]; omega
        · simp only [hgl (i + 1) (by omega), if_neg (show ¬ i = n by omega)]; exact hF.next i (by omega)
      · by_cases e : i = n
        · subst e
          simp only [hgn, if_true, hon]
          omega
        · simp only [hgl i (by omega), if_neg e]; exact hF.own i (by omega)
      · by_cases e : i = n
        · subst e
          have hq1 := m3 q hq hq (by rw [← hon]; exact own_pos ho hn' he)
          simp only [hgn, if_true]
          exact ⟨hq1.1, hq1.2.1, hq1.2.2.1, hq1.2.2.2.1⟩
        · simp only [hgl i (by omega), if_neg e, hpos q hq i (by omega) he]
          exact hF.marks q hq i (by omega) he
      · have hup := hc.upon q hq
        obtain ⟨u, hu⟩ : ∃ u : Nat, c.marks[q].upon = u := ⟨c.marks[q].upon.toNat, by omega⟩
        have hul : u < c.marks.length := by omega
        by_cases e : i = n
        · subst e
          exact (m3 q hq hq (by rw [← hon]; exact own_pos ho hn' he)).2.2.2.2 hne
        · have h1 := hF.upon q hq i (by omega) he hne
          have h2 := layered_pos hl hq hne
          rw [hu, Int.toNat_natCast] at h1 h2 ⊢
          rw [mk_at hul, he] at h2
          obtain ⟨p, hp, hp1, -⟩ := at_mem (hm _ (List.getElem_mem hul))
          show z.1 u ≤ z.1 q
          rw [hpos q hq i (by omega) he, hpos u hul p (by omega) hp1]
          exact h1
    · intro i hi
      show (if i = n then z.2 else T i) = z.2
      rw [if_pos (by omega)]
    · intro i hi
      by_cases e : i + 1 = n
      · subst e
        simp only [hgn, if_neg (show ¬ i = i + 1 by omega)]
        rw [hT i rfl, hf, hon]
      · simp only [hgl (i + 1) (by omega), if_neg (show ¬ i = n by omega)]; exact hS i (by omega)
    · intro _
      by_cases e : 0 = n
      · subst e
        simp only [hgn]
        rw [hf, hon, h0 rfl]
        have := (fMax_ge (fun s => s.dst = (on : Int)) c.sales (max c.printed (owerAt c on).born)).1
        have h2 : bLo c c.sales on = fMax (fun s => s.dst = (on : Int)) c.sales (max c.printed (owerAt c on).born) := rfl
        omega
      · simp only [hgl 0 (by omega)]; exact hS0 (by omega)
end Go.Proofs.Ytiampdiobdianaa

namespace Go.Proofs.Ytiampdiobdianaa
open Go.Avm

theorem feas_marks {c : Case} (hc : c.OK) {o : List Int} (ho : OrdOK c o) (hl : layeredB c o = true) (hm : ∀ m ∈ c.marks, m.owner ∈ o) {S T Y : Nat → Int} (hF : Feas c o S T Y) {n : Nat} (hn : n < o.length) {f : Int} (hf : f ≤ S n) {Y0 : Nat → Int}
    (hY : ∀ q (hq : q < c.marks.length), at' o c.marks[q].owner < n → Y0 q ≤ Y q) : ∀ {k : Nat}, k ≤ c.marks.length →
    ∃ y, marksUp c (own o n) f Y0 (max f (gLo c c.sales (own o n))) k = some y ∧ y.2 ≤ T n ∧ ∀ q (hq : q < c.marks.length), (at' o c.marks[q].owner < n ∨ (at' o c.marks[q].owner = n ∧ q < k)) → y.1 q ≤ Y q
  | 0, _ => by
    have h1 := hF.le n hn
    have h2 := hF.own n hn
    exact ⟨_, rfl, by show max f _ ≤ T n; omega, fun q hq h => hY q hq (by omega)⟩
  | k + 1, hk => by
    have hk' : k < c.marks.length := hk
    obtain ⟨y, hy, h1, h2⟩ := feas_marks hc ho hl hm hF hn hf hY (k := k) (by omega)
    have hs : marksUp c (own o n) f Y0 (max f (gLo c c.sales (own o n))) (k + 1) = markStep c (own o n) f k y := by
      show (marksUp c (own o n) f Y0 (max f (gLo c c.sales (own o n))) k).bind _ = _
      rw [hy, Option.bind_some]
    rw [hs]
    unfold markStep markY
    rw [mk_at hk']
    obtain ⟨oe, olt, oat⟩ := own_at ho hn
    have hup := hc.upon k hk'
    by_cases hne : c.marks[k].owner ≠ (own o n : Int)
    · rw [if_pos hne]
      refine ⟨y, rfl, h1, fun q hq h => h2 q hq ?_⟩
      rcases h with h | ⟨h, hqk⟩
      · exact .inl h
      · by_cases e : q = k
        · subst e; exact absurd (own_pos ho hn h) hne
        · exact .inr ⟨h, by omega⟩
    rw [if_neg hne]
    have hoe : c.marks[k].owner = (own o n : Int) := Decidable.not_not.1 hne
    have hpos : at' o c.marks[k].owner = n := by rw [hoe]; exact oat
    obtain ⟨g1, g2, g3, g4⟩ := hF.marks k hk' n hn hpos
    obtain ⟨z, hz⟩ : ∃ z, z = (if c.marks[k].upon = -1 then max c.marks[k].lo f else max (max c.marks[k].lo f) (y.1 c.marks[k].upon.toNat)) := ⟨_, rfl⟩
    rw [← hz]
    have hzY : z ≤ Y k := by
      rw [hz]
      by_cases hn1 : c.marks[k].upon = -1
      · rw [if_pos hn1]; omega
      · rw [if_neg hn1]
        have g5 := hF.upon k hk' n hn hpos hn1
        obtain ⟨u, hu⟩ : ∃ u : Nat, c.marks[k].upon = u := ⟨c.marks[k].upon.toNat, by omega⟩
        have hul : u < c.marks.length := by omega
        have h3 := layered_pos hl hk' hn1
        rw [hu, Int.toNat_natCast] at g5 h3 ⊢
        rw [mk_at hul, hpos] at h3
        have := h2 u hul (by omega)
        omega
    rw [if_neg (by omega)]
    refine ⟨_, rfl, by show max y.2 z ≤ T n; omega, fun q hq h => ?_⟩
    show putY y.1 k z q ≤ Y q
    unfold putY
    by_cases e : q = k
    · rw [if_pos e, e]; exact hzY
    · rw [if_neg e]
      exact h2 q hq (by omega)
theorem feas_run {c : Case} (hc : c.OK) {o : List Int} (ho : OrdOK c o) (hl : layeredB c o = true) (hm : ∀ m ∈ c.marks, m.owner ∈ o) {S T Y : Nat → Int} (hF : Feas c o S T Y) : ∀ {n : Nat}, n ≤ o.length →
    ∃ x, runUp c o n = some x ∧ (n < o.length → x.since ≤ S n) ∧ ∀ q (hq : q < c.marks.length), at' o c.marks[q].owner < n → x.years q ≤ Y q
  | 0, _ => by
    refine ⟨_, rfl, fun h => ?_, fun q hq h => ?_⟩
    · have h1 := (hF.own 0 h).1
      have := (fMax_ge (fun s => s.dst = (own o 0 : Int)) c.sales (max c.printed (owerAt c (own o 0)).born)).1
      have h2 : bLo c c.sales (own o 0) = fMax (fun s => s.dst = (own o 0 : Int)) c.sales (max c.printed (owerAt c (own o 0)).born) := rfl
      show c.printed ≤ S 0
      omega
    · obtain ⟨p, hp, hp1, -⟩ := at_mem (hm _ (List.getElem_mem hq))
      omega
  | n + 1, hn => by
    obtain ⟨x, hx, h1, h2⟩ := feas_run hc ho hl hm hF (n := n) (by omega)
    have hn' : n < o.length := hn
    have hs : runUp c o (n + 1) = stepO c (own o n) x := by
      show (runUp c o n).bind _ = _
      rw [hx, Option.bind_some]; rfl
    have g := hF.own n hn'
    have hfS : max x.since (bLo c c.sales (own o n)) ≤ S n := by have := h1 hn'; omega
    obtain ⟨y, hy, h3, h4⟩ := feas_marks hc ho hl hm hF hn' hfS h2 (Nat.le_refl _)
    rw [hs]
    unfold stepO
    rw [hy, Option.bind_some, if_neg (by omega)]
    refine ⟨_, rfl, fun hlt => ?_, fun q hq h => h4 q hq (by omega)⟩
    have := hF.next n hlt
    show y.2 ≤ S (n + 1)
    omega
theorem rules_parts {c : Case} {o : List Int} (h : rulesB c o = true) : completeB c o = true ∧ besideB c o = true ∧ layeredB c o = true := by
  unfold rulesB at h
  simpa using h
theorem complete_marks {c : Case} {o : List Int} (h : completeB c o = true) : ∀ m ∈ c.marks, m.owner ∈ o := by
  intro m hm
  unfold completeB at h
  rw [Bool.and_eq_true] at h
  have := List.all_eq_true.1 h.1 m hm
  simpa [markIn] using this
theorem feas_solve {c : Case} (hc : c.OK) {o : List Int} (ho : OrdOK c o) (hr : rulesB c o = true) {S T Y : Nat → Int} (hF : Feas c o S T Y) : ∃ l, solveS c o = some l := by
  obtain ⟨h1, h2, h3⟩ := rules_parts hr
  obtain ⟨x, hx, -⟩ := feas_run hc ho h3 (complete_marks h1) hF (Nat.le_refl _)
  unfold solveS
  rw [if_pos hr, hx]
  exact ⟨_, rfl⟩
/-- Years of a chain: the owners' first years are its own. -/
structure ChainOf (c : Case) (o : List Int) (l : List Hold) (T Y : Nat → Int) : Prop where
  rules : rulesB c o = true
  holds : HoldsOf c o o.length l
  feas : Feas c o (fun i => (l.getD i ⟨0, 0, 0⟩).src) T Y
  tight : ∀ i, i + 1 < o.length → (l.getD (i + 1) ⟨0, 0, 0⟩).src = max (T i) (bLo c c.sales (own o (i + 1)))
  first : 0 < o.length → (l.getD 0 ⟨0, 0, 0⟩).src = bLo c c.sales (own o 0)
theorem solve_chain {c : Case} (hc : c.OK) {o : List Int} (ho : OrdOK c o) {l : List Hold} (h : solveS c o = some l) : ∃ T Y, ChainOf c o l T Y := by
  unfold solveS at h
  by_cases hr : rulesB c o = true
  case neg => rw [if_neg hr] at h; cases h
  rw [if_pos hr, Option.map_eq_some_iff] at h
  obtain ⟨x, hx, rfl⟩ := h
  obtain ⟨h1, h2, h3⟩ := rules_parts hr
  obtain ⟨g1, T, g2, -, -, g3, g4⟩ := run_feas hc ho h3 (complete_marks h1) (Nat.le_refl _) hx
  exact ⟨T, x.years, hr, g1, g2, g3, g4⟩

/-! ## Unknown owners -/
theorem someB_iff {c : Case} : someB c = true ↔ ∃ o, OrdOK c o ∧ ∃ l, solveS c o = some l := by
  unfold someB
  constructor
  · intro h
    cases hc : chainsL c with
    | nil => rw [hc] at h; cases h
    | cons p ps =>
      have := mem_chains (c := c) (p := p) (by rw [hc]; simp)
      exact ⟨p.1, orders_ok this.1, p.2, this.2⟩
  · rintro ⟨o, ho, l, hl⟩
    have hm : (o, l) ∈ chainsL c := by
      unfold chainsL chainsOf
      rw [List.mem_filterMap]
      exact ⟨o, mem_orders ho, by unfold solved; rw [hl]; rfl⟩
    cases hc : chainsL c with
    | nil => rw [hc] at hm; cases hm
    | cons p ps => rfl
theorem someB_feas {c : Case} (hc : c.OK) : someB c = true ↔ ∃ o, OrdOK c o ∧ rulesB c o = true ∧ ∃ S T Y, Feas c o S T Y := by
  rw [someB_iff]
  constructor
  · rintro ⟨o, ho, l, hl⟩
    obtain ⟨T, Y, h⟩ := solve_chain hc ho hl
    exact ⟨o, ho, h.rules, _, T, Y, h.feas⟩
  · rintro ⟨o, ho, hr, S, T, Y, h⟩
    exact ⟨o, ho, feas_solve hc ho hr h⟩
end Go.Proofs.Ytiampdiobdianaa

namespace Go.Proofs.Ytiampdiobdianaa
open Go.Avm

theorem in47_ok {c : Case} (hm9 : c.marks.length ≤ 9) {i : Nat} (hi : i < c.marks.length) (y : Int) : PCall Try.prog 47 [encCase c, I i, I y] (encCase (inC c i y)) := by
  refine pcall Try.func47 tr47 rs47 fn47 (by simp [Try.ntmps47]) fun _ => ?_
  have hne : c.marks ≠ [] := by intro e; rw [e] at hi; simp at hi
  have hin : inC c i y = { c with marks := c.marks.set i (setYear c.marks[i] y) } := by unfold inC; rw [mk_at hi]
  rw [hin]
  have hset := mcells_set c.marks
  simp -implicitDefEqProofs only [m47]
  refine cutS (fun st => st.env 1 = I i ∧ st.env 2 = I y ∧ ∃ b3 b6, st.env 3 = .mref b3 0 ∧ st.loc b3 = some (caseCells c) ∧ st.env 6 = .mref b6 0 ∧ st.loc b6 = some [I 0, I 0, .slice 3 [] 7002, .slice 4 [] 7003, .slice 3 [] 7004] ∧ b3 ≠ b6) ?_ ?_
  · intro k hk
    simp -implicitDefEqProofs
    intro b3 b6 h6
    have h36 : ¬ b3 = b6 := by rintro rfl; simp at h6
    exact hk _ ⟨by simp, by simp, b3, b6, by simp, by simp [h36], by simp, by simp, h36⟩
  rintro s ⟨e1, e2, b3, b6, e3, l3, e6, l6, h36⟩
  have h63 : ¬ b6 = b3 := fun e => h36 e.symm
  refine cutS (fun st => st.env 1 = I i ∧ st.env 2 = I y ∧ st.env 3 = .mref b3 0 ∧ st.env 6 = .mref b6 0 ∧ st.loc b6 = some [I 0, I 0, .slice 3 [] 7002, .slice 4 [] 7003, .slice 3 [] 7004] ∧ ∃ b r, b ≠ b3 ∧ b ≠ b6 ∧ st.loc b = some (mcells c.marks ++ (List.replicate r [I 0, I 0, I 0, I 0]).flatten) ∧
      st.loc b3 = some [I c.printed, I c.now, .slice 3 (c.owners.map encOwner) 0, .mslice b 0 c.marks.length (c.marks.length + r) 4, .slice 3 (c.sales.map encSale) 0]) ?_ ?_
  · intro k hk
    have hmc : List.map AV.erase0 (List.flatMap AV.cells (List.map encMark c.marks)) = mcells c.marks := by
      rw [List.flatMap_map, ← num_erase (mcells_num c.marks)]; rfl
    simp -implicitDefEqProofs
    intro b7 h7
    have h37 : ¬ b3 = b7 := by rintro rfl; rw [l3] at h7; cases h7
    have h67 : ¬ b6 = b7 := by rintro rfl; rw [l6] at h7; cases h7
    simp -implicitDefEqProofs [e3, l3, h37, hne]
    refine ⟨by omega, by omega, fun b r hb => ?_⟩
    have hb7 : ¬ b = b7 := by rintro rfl; simp at hb
    have hb' : s.loc b = none := by simpa [hb7] using hb
    have h3b : ¬ b3 = b := by rintro rfl; rw [l3] at hb'; cases hb'
    have h6b : ¬ b6 = b := by rintro rfl; rw [l6] at hb'; cases hb'
    have hb3 : ¬ b = b3 := fun e => h3b e.symm
    have hb6 : ¬ b = b6 := fun e => h6b e.symm
    simp -implicitDefEqProofs [e3, l3, h3b, h37, hmc]
    exact hk _ ⟨by simp [e1], by simp [e2], by simp [e3], by simp [e6], by simp [h63, h6b, h67, l6], b, r, hb3, hb6, by simp [hb3], by simp⟩
  rintro s ⟨e1, e2, e3, e6, l6, b, r, hb3, hb6, lb, l3⟩
  have h3b : ¬ b3 = b := fun e => hb3 e.symm
  have h6b : ¬ b6 = b := fun e => hb6 e.symm
  obtain ⟨rest, hrest⟩ : ∃ rest, rest = (List.replicate r [I 0, I 0, I 0, I 0]).flatten := ⟨_, rfl⟩
  have hrn : ∀ x ∈ rest, ∃ m, x = I m := by
    rw [hrest]
    intro x hx
    simp only [List.mem_flatten, List.mem_replicate] at hx
    obtain ⟨l, ⟨_, rfl⟩, hx⟩ := hx
    simp at hx
    exact ⟨0, hx⟩
  rw [← hrest] at lb
  have hset := mcells_set c.marks rest i hi y
  have hlen2 : (mcells (c.marks.set i (setYear c.marks[i] y)) ++ rest).length = 4 * c.marks.length + rest.length := by rw [List.length_append, mcells_len, List.length_set]
  have hch := chunk_mcells (c.marks.set i (setYear c.marks[i] y)) rest
  rw [List.length_set] at hch
  have hnum : ∀ x ∈ mcells (c.marks.set i (setYear c.marks[i] y)) ++ rest, ∃ m, x = I m := fun x hx => (List.mem_append.1 hx).elim (mcells_num _ x) (hrn x)
  have hl4 : (mcells c.marks).length = 4 * c.marks.length := mcells_len _
  refine cutS (fun st => st.env 3 = .mref b3 0 ∧ st.env 6 = .mref b6 0 ∧ st.loc b6 = some [I 0, I 0, .slice 3 [] 7002, .slice 4 [] 7003, .slice 3 [] 7004] ∧
      st.loc b3 = some (caseCells { c with marks := c.marks.set i (setYear c.marks[i] y) })) ?_ ?_
  · intro k hk
    simp -implicitDefEqProofs [e1, e2, e3, l3, lb, h3b, hi, hset]
    refine ⟨by omega, ?_⟩
    generalize c.marks.set i (setYear c.marks[i] y) = ms at *
    refine frz_box 3 b c.marks.length (c.marks.length + r) 4 rfl hb3 (by simp [hb3]) (by rw [hlen2]; omega) (num_cell1 hnum) (by omega) ?_
    rw [hch]
    exact hk _ ⟨by simp [e3], by simp [e6], by simp [upd, h6b, h63, l6], by simp [upd, h3b]⟩
  rintro s ⟨e3, e6, l6, l3⟩
  generalize c.marks.set i (setYear c.marks[i] y) = ms at *
  simp -implicitDefEqProofs [e3, e6, l3, l6, r47]

theorem had74_ok {c : Case} (h : c.OK) (h8 : c.marks.length ≤ 8) {o : Nat} (ho : o < c.owners.length) {y : Int} (hy : c.printed ≤ y ∧ y ≤ c.now) : PCall Try.prog 74 [encCase c, I o, I y] (B (someB (hadC c o y))) := by
  refine pcall Try.func74 tr74 rs74 fn74 (by simp [Try.ntmps74]) fun _ => ?_
  have hall := all72_ok (hadC_ok h h8 ho hy)
  have hcells : caseCells (hadC c o y) = [I c.printed, I c.now, .slice 3 (c.owners.map encOwner) 0, .slice 4 (c.marks.map encMark ++ [.agg [I o, I y, I y, I (-1)]]) 0, .slice 3 (c.sales.map encSale) 0] := by simp [hadC]
  have hS : someB (hadC c o y) = decide (0 < (allR (hadC c o y)).length) := by
    unfold someB
    rw [allR_map, List.length_map]
    cases chainsL (hadC c o y) <;> simp
  rw [hS]
  have hb := allR_len (hadC_ok h h8 ho hy)
  rw [encCase, hcells] at hall
  generalize allR (hadC c o y) = L at *
  simp -implicitDefEqProofs only [m74]
  refine cutS (fun st => st.env 1 = I o ∧ st.env 2 = I y ∧ ∃ b3, st.env 3 = .mref b3 0 ∧ st.loc b3 = some (caseCells c)) ?_ ?_
  · intro k hk
    simp -implicitDefEqProofs
    intro b3
    exact hk _ ⟨by simp, by simp, b3, by simp, by simp⟩
  rintro s ⟨e1, e2, b3, e3, l3⟩
  refine cutS (fun st => st.env 3 = .mref b3 0 ∧ st.loc b3 = some [I c.printed, I c.now, .slice 3 (c.owners.map encOwner) 0, .slice 4 (c.marks.map encMark ++ [.agg [I o, I y, I y, I (-1)]]) 4003, .slice 3 (c.sales.map encSale) 0]) ?_ ?_
  · intro k hk
    simp -implicitDefEqProofs [e1, e2, e3, l3]
    refine ⟨by omega, by omega, by omega, by omega, hk _ ⟨by simp [e3], by simp⟩⟩
  rintro s ⟨e3, l3⟩
  simp -implicitDefEqProofs [e3, l3]
  refine vCall_of hall ?_
  simp -implicitDefEqProofs [r74]

/-! ## The years of a mark -/
theorem in_feas {c : Case} {i : Nat} (hi : i < c.marks.length) {o : List Int} (hr : rulesB c o = true) {S T Y : Nat → Int} (hF : Feas c o S T Y) {y : Int} (hy : y = Y i) : rulesB (inC c i y) o = true ∧ Feas (inC c i y) o S T Y := by
  have hlen : (inC c i y).marks.length = c.marks.length := by simp [inC]
  have hown : ∀ q (hq : q < c.marks.length), ((inC c i y).marks[q]'(by omega)).owner = c.marks[q].owner ∧ ((inC c i y).marks[q]'(by omega)).upon = c.marks[q].upon := by
    intro q hq
    show ((c.marks.set i (setYear (c.marks.getD i mkD) y))[q]'(by simpa using hq)).owner = _ ∧ ((c.marks.set i (setYear (c.marks.getD i mkD) y))[q]'(by simpa using hq)).upon = _
    rw [List.getElem_set]
    by_cases e : i = q
    · subst e; rw [if_pos rfl, mk_at hi]; exact ⟨rfl, rfl⟩
    · rw [if_neg e]; exact ⟨rfl, rfl⟩
  obtain ⟨h1, h2, h3⟩ := rules_parts hr
  have hm := complete_marks h1
  refine ⟨?_, ?_⟩
  · have g1 : completeB (inC c i y) o = true := by
      unfold completeB at h1 ⊢
      rw [Bool.and_eq_true] at h1 ⊢
      refine ⟨?_, h1.2⟩
      rw [List.all_eq_true]
      intro m hmm
      obtain ⟨q, hq, rfl⟩ := List.getElem_of_mem hmm
      have := hm _ (List.getElem_mem (show q < c.marks.length by omega))
      unfold markIn
      rw [(hown q (by omega)).1]
      simpa using this
    have g3 : layeredB (inC c i y) o = true := by
      unfold layeredB
      rw [List.all_eq_true]
      intro m hmm
      obtain ⟨q, hq, rfl⟩ := List.getElem_of_mem hmm
      have hq' : q < c.marks.length := by omega
      unfold under
      rw [(hown q hq').1, (hown q hq').2]
      by_cases hn : c.marks[q].upon = -1
      · rw [decide_eq_true hn]; rfl
      · have := layered_pos h3 hq' hn
        by_cases hu : c.marks[q].upon.toNat < c.marks.length
        · rw [mk_at hu] at this
          rw [mk_at (by omega), (hown _ hu).1, decide_eq_false this]
          simp
        · rw [List.getD_eq_getElem?_getD, List.getElem?_eq_none (by omega)] at this ⊢
          rw [decide_eq_false this]; simp
    unfold rulesB
    rw [g1, g3]
    have : besideB (inC c i y) o = besideB c o := rfl
    rw [this, h2]; rfl
  · refine ⟨hF.le, hF.next, hF.own, fun q hq p hp he => ?_, fun q hq p hp he hne => ?_⟩
    · have hq' : q < c.marks.length := by omega
      rw [(hown q hq').1] at he
      have g := hF.marks q hq' p hp he
      refine ⟨g.1, g.2.1, ?_⟩
      show ((c.marks.set i (setYear (c.marks.getD i mkD) y))[q]'(by simpa using hq')).lo ≤ _ ∧ _ ≤ ((c.marks.set i (setYear (c.marks.getD i mkD) y))[q]'(by simpa using hq')).hi
      rw [List.getElem_set]
      by_cases e : i = q
      · subst e
        rw [if_pos rfl]
        show y ≤ Y i ∧ Y i ≤ y
        omega
      · rw [if_neg e]; exact g.2.2
    · have hq' : q < c.marks.length := by omega
      rw [(hown q hq').1] at he
      rw [(hown q hq').2] at hne ⊢
      exact hF.upon q hq' p hp he hne
theorem year_some {c : Case} (hc : c.OK) (hs : someB c = true) {i : Nat} (hi : i < c.marks.length) : ∃ y, c.marks[i].lo ≤ y ∧ y ≤ c.marks[i].hi ∧ madeP c i y = true := by
  obtain ⟨o, ho, hr, S, T, Y, hF⟩ := (someB_feas hc).1 hs
  obtain ⟨h1, -, -⟩ := rules_parts hr
  obtain ⟨p, hp, hp1, -⟩ := at_mem (complete_marks h1 _ (List.getElem_mem hi))
  have g := hF.marks i hi p hp hp1
  have hm := hc.marks _ (List.getElem_mem hi)
  refine ⟨Y i, g.2.2.1, g.2.2.2, ?_⟩
  obtain ⟨f1, f2⟩ := in_feas hi hr hF (y := Y i) rfl
  exact (someB_feas (inC_ok hc (by omega))).2 ⟨o, ⟨ho.rng, ho.nd⟩, f1, S, T, Y, f2⟩
theorem upTo_spec (p : Int → Bool) : ∀ (n : Nat) (lo y : Int), lo ≤ y → y ≤ lo + n → p y = true → p (upTo p lo n) = true ∧ upTo p lo n ≤ y ∧ ∀ z, lo ≤ z → z < upTo p lo n → p z = false
  | 0, lo, y, h1, h2, hp => by
    obtain rfl : y = lo := by omega
    exact ⟨hp, Int.le_refl _, fun z h1 h2 => by simp only [upTo] at h2; omega⟩
  | n + 1, lo, y, h1, h2, hp => by
    unfold upTo
    by_cases hl : p lo = true
    · rw [if_pos hl]; exact ⟨hl, h1, fun z h1 h2 => by omega⟩
    · rw [if_neg hl]
      have hne : y ≠ lo := by rintro rfl; exact hl hp
      obtain ⟨g1, g2, g3⟩ := upTo_spec p n (lo + 1) y (by omega) (by omega) hp
      refine ⟨g1, g2, fun z h1 h2 => ?_⟩
      by_cases e : z = lo
      · rw [e]; simpa using hl
      · exact g3 z (by omega) h2
theorem dnTo_stop (p : Int → Bool) (d : Nat) : ∀ (n : Nat) (hi : Int), p (hi - n) = true → dnTo p hi (n + d) = dnTo p hi n
  | 0, hi, h => by
    have h : p hi = true := by simpa using h
    cases d with
    | zero => rfl
    | succ d => show (if p hi = true then hi else _) = hi; rw [if_pos h]
  | n + 1, hi, h => by
    rw [show n + 1 + d = (n + d) + 1 by omega]
    unfold dnTo
    rw [dnTo_stop p d n (hi - 1) (by rw [show hi - 1 - (n : Int) = hi - ((n + 1 : Nat) : Int) by omega]; exact h)]
theorem yearHi_eq {c : Case} (hc : c.OK) (hs : someB c = true) {i : Nat} (hi : i < c.marks.length) : yearHiP c i = dnTo (madeP c i) c.marks[i].hi (c.marks[i].hi - c.marks[i].lo).toNat := by
  obtain ⟨y, h1, h2, h3⟩ := year_some hc hs hi
  unfold yearHiP
  rw [mk_at hi]
  have hL : yearLoP c i = upTo (madeP c i) c.marks[i].lo (c.marks[i].hi - c.marks[i].lo).toNat := by unfold yearLoP; rw [mk_at hi]
  obtain ⟨g1, g2, g3⟩ := upTo_spec (madeP c i) (c.marks[i].hi - c.marks[i].lo).toNat c.marks[i].lo y h1 (by omega) h3
  rw [← hL] at g1 g2
  have hin := upTo_in (madeP c i) (c.marks[i].hi - c.marks[i].lo).toNat c.marks[i].lo
  rw [← hL] at hin
  have := dnTo_stop (madeP c i) ((yearLoP c i - c.marks[i].lo).toNat) ((c.marks[i].hi - yearLoP c i).toNat) c.marks[i].hi (by rw [show c.marks[i].hi - (((c.marks[i].hi - yearLoP c i).toNat : Nat) : Int) = yearLoP c i by omega]; exact g1)
  rw [← this]
  congr 1
  omega
end Go.Proofs.Ytiampdiobdianaa

namespace Go.Proofs.Ytiampdiobdianaa
open Go.Avm

theorem someB_all (c : Case) : (((allR c).length : Int) == 0) = !someB c := by
  unfold someB
  rw [allR_map, List.length_map]
  cases chainsL c with
  | nil => rfl
  | cons p l => simp; omega
theorem someS_err {c : Case} {e : Int} (h : e ≠ 0) : someS c e = ([], e) := by unfold someS; rw [if_pos h]
theorem someS_no {c : Case} (h : someB c = false) : someS c 0 = ([], 8) := by
  unfold someS
  rw [if_neg (by simp), if_pos]
  unfold someB at h
  rw [allR_map]
  cases hc : chainsL c with
  | nil => rfl
  | cons p l => rw [hc] at h; cases h
theorem someS_yes {c : Case} (h : someB c = true) : someS c 0 = (allR c, 0) := by
  unfold someS
  rw [if_neg (by simp), if_neg]
  unfold someB at h
  rw [allR_map]
  cases hc : chainsL c with
  | nil => rw [hc] at h; cases h
  | cons p l => simp

theorem year27_ok (c : Case) (i : Int) : PCall Try.prog 27 [encCase c, I i] (encR3 (yearS c i)) := by
  refine pcall Try.func27 tr27 rs27 fn27 (by simp [Try.ntmps27]) fun hfit => ?_
  have lM := fits_len (fits_agg (hfit 0) 3)
  simp only [List.length_map] at lM
  have c0 := checkR_ok c
  obtain ⟨R, hR⟩ : ∃ R, R = yearS c i := ⟨_, rfl⟩
  rw [← hR]
  unfold yearS at hR
  simp -implicitDefEqProofs only [m27]
  refine cutS (fun st => st.env 1 = I i ∧ st.env 2 = caseRef c ∧ ∃ q, st.env 4 = .mref q 0 ∧ st.loc q = some [I 0, I 0]) ?_ ?_
  · intro k hk
    simp -implicitDefEqProofs
    intro q
    exact hk _ ⟨by simp, by simp, q, by simp, by simp⟩
  rintro s ⟨e1, e2, q, e4, lq⟩
  refine cutS (fun st => st.env 1 = I i ∧ st.env 2 = caseRef c ∧ st.env 4 = .mref q 0 ∧ st.loc q = some [I 0, I 0] ∧ st.env 8 = I (errE c)) ?_ ?_
  · intro k hk
    simp -implicitDefEqProofs [e2]
    refine vCall_of c0 ?_
    simp -implicitDefEqProofs [T3]
    exact hk _ (by simp [e1, e2, e4, lq])
  rintro s ⟨e1, e2, e4, lq, e8⟩
  obtain ⟨E, hE⟩ : ∃ E, E = if errE c ≠ 0 then errE c else if out 0 ((c.marks.length : Int) - 1) [i] then 4 else 0 := ⟨_, rfl⟩
  refine cutS (fun st => st.env 1 = I i ∧ st.env 2 = caseRef c ∧ st.env 4 = .mref q 0 ∧ st.loc q = some [I 0, I 0] ∧ st.env 8 = I E) ?_ ?_
  · intro k hk
    have hk : ∀ s' : St, s'.env 1 = I i ∧ s'.env 2 = caseRef c ∧ s'.env 4 = .mref q 0 ∧ s'.loc q = some [I 0, I 0] ∧ s'.env 8 = I E → k s' := hk
    by_cases he : errE c = 0
    case neg =>
      rw [if_pos he] at hE
      have he' : (errE c == 0) = false := by simp [he]
      simp -implicitDefEqProofs [e8, he']
      exact hk _ ⟨by simp [e1], by simp [e2], by simp [e4], by simp [lq], by simp [e8, hE]⟩
    rw [he] at e8
    rw [if_neg (not_not_intro he), out1] at hE
    simp -implicitDefEqProofs [e1, e2, e8]
    refine ⟨i64 (by omega) (by omega), vCall_of (in_ok i 0 ((c.marks.length : Int) - 1)) ?_⟩
    by_cases hi : 0 ≤ i ∧ i ≤ (c.marks.length : Int) - 1
    · rw [decide_eq_true hi] at hE ⊢
      simp -implicitDefEqProofs
      exact hk _ ⟨by simp [e1], by simp [e2], by simp [e4], by simp [lq], by simp [e8, hE]⟩
    · rw [decide_eq_false hi] at hE ⊢
      simp -implicitDefEqProofs
      exact hk _ ⟨by simp [e1], by simp [e2], by simp [e4], by simp [lq], by simp [hE]⟩
  rintro s ⟨e1, e2, e4, lq, e8⟩
  have hE0 : E = 0 → errE c = 0 ∧ out 0 ((c.marks.length : Int) - 1) [i] = false := by
    intro h0
    by_cases he : errE c = 0
    case neg => rw [if_pos he] at hE; omega
    rw [if_neg (not_not_intro he)] at hE
    cases ho : out 0 ((c.marks.length : Int) - 1) [i] with
    | true => rw [ho, if_pos rfl] at hE; omega
    | false => exact ⟨he, rfl⟩
  have hRE : R = if E ≠ 0 then ⟨0, 0, E⟩ else if someB c = false then ⟨0, 0, 8⟩ else ⟨yearLoP c i.toNat, yearHiP c i.toNat, 0⟩ := by
    rw [hR]
    by_cases he : errE c = 0
    case neg => rw [if_pos he] at hE ⊢; rw [hE, if_pos he]
    rw [if_neg (not_not_intro he)] at hE ⊢
    cases ho : out 0 ((c.marks.length : Int) - 1) [i] with
    | true => rw [ho, if_pos rfl] at hE; rw [if_pos rfl, hE, if_pos (by omega)]
    | false =>
      rw [ho, if_neg (by simp)] at hE
      rw [if_neg (by simp), hE, if_neg (not_not_intro rfl)]
  have c1 := some61_ok c E (fun h0 => Case.ok (hE0 h0).1)
  refine cutS (fun st => st.env 1 = I i ∧ st.env 2 = caseRef c ∧ st.env 4 = .mref q 0 ∧ st.loc q = some [I 0, I 0] ∧ st.env 8 = I (someS c E).2) ?_ ?_
  · intro k hk
    simp -implicitDefEqProofs [e2, e8]
    refine vCall_of c1 ?_
    simp -implicitDefEqProofs
    exact hk _ (by simp [e1, e2, e4, lq])
  rintro s ⟨e1, e2, e4, lq, e8⟩
  by_cases h0 : E = 0
  case neg =>
    rw [if_pos h0] at hRE
    rw [someS_err h0] at e8
    have he' : (E != 0) = true := by simp [h0]
    simp -implicitDefEqProofs [e8, he', e4, lq, r27, hRE]
  obtain ⟨he, ho⟩ := hE0 h0
  rw [h0, if_neg (not_not_intro rfl)] at hRE
  rw [h0] at e8
  have hok := Case.ok he
  cases hs : someB c with
  | false =>
    rw [hs, if_pos rfl] at hRE
    rw [someS_no hs] at e8
    simp -implicitDefEqProofs [e8, e4, lq, r27, hRE]
  | true =>
  rw [hs, if_neg (by simp)] at hRE
  rw [someS_yes hs] at e8
  have hi := out_no ho i (by simp)
  obtain ⟨n, rfl⟩ : ∃ n : Nat, i = n := ⟨i.toNat, by omega⟩
  have hn : n < c.marks.length := by omega
  rw [Int.toNat_natCast, yearHi_eq hok hs hn] at hRE
  have hmk := hok.marks _ (List.getElem_mem hn)
  have hy := hok.years
  obtain ⟨L, hL⟩ : ∃ L, L = yearLoP c n := ⟨_, rfl⟩
  rw [← hL] at hRE
  unfold yearLoP at hL
  rw [mk_at hn] at hL
  have hin := fun y => in47_ok hok.marksLen hn y
  have hall : ∀ y, c.printed ≤ y ∧ y ≤ c.now → PCall Try.prog 72 [encCase (inC c n y)] (ILL (allR (inC c n y))) := fun y hy => all72_ok (inC_ok hok hy)
  have hmade : ∀ y, (((allR (inC c n y)).length : Int) == 0) = !madeP c n y := fun y => someB_all (inC c n y)
  generalize madeP c n = p at *
  generalize hm : c.marks[n] = m at *
  refine cutS (fun st => st.env 1 = I n ∧ st.env 2 = caseRef c ∧ st.env 4 = .mref q 0 ∧ st.loc q = some [I 0, I 0]) ?_ ?_
  · intro k hk
    simp -implicitDefEqProofs [e8]
    exact hk _ (by simp [e1, e2, e4, lq])
  rintro s ⟨e1, e2, e4, lq⟩
  refine cutS (fun st => st.env 1 = I n ∧ st.env 2 = caseRef c ∧ st.env 4 = .mref q 0 ∧ st.loc q = some [I 0, I 0] ∧ st.env 9 = .ref [I m.lo, I m.hi]) ?_ ?_
  · intro k hk
    simp -implicitDefEqProofs [e1, e2, hn, hm]
    intro b hb
    have hqb : ¬ q = b := by rintro rfl; rw [lq] at hb; cases hb
    exact hk _ (by simp [e1, e2, e4, lq, hqb])
  rintro s ⟨e1, e2, e4, lq, e9⟩
  refine cutS (fun st => st.env 1 = I n ∧ st.env 2 = caseRef c ∧ st.env 4 = .mref q 0 ∧ st.loc q = some [I 0, I 0] ∧ st.env 9 = .ref [I m.lo, I m.hi] ∧ st.env 10 = I m.lo ∧ st.env 11 = I m.hi) ?_ ?_
  · intro k hk
    simp -implicitDefEqProofs [e9]
    exact hk _ (by simp [e1, e2, e4, lq, e9])
  rintro s ⟨e1, e2, e4, lq, e9, e10, e11⟩
  refine cutS (fun st => st.env 1 = I n ∧ st.env 2 = caseRef c ∧ st.env 4 = .mref q 0 ∧ st.loc q = some [I 0, I 0] ∧ st.env 9 = .ref [I m.lo, I m.hi] ∧ st.env 10 = I L ∧ st.env 11 = I m.hi) ?_ ?_
  · intro k0 hk0
    simp -implicitDefEqProofs
    refine loop_up (m.hi - m.lo).toNat (fun k st => st.env 1 = I n ∧ st.env 2 = caseRef c ∧ st.env 4 = .mref q 0 ∧ st.loc q = some [I 0, I 0] ∧ st.env 9 = .ref [I m.lo, I m.hi] ∧ st.env 11 = I m.hi ∧ st.env 10 = I (m.lo + k) ∧ L = upTo p (m.lo + k) ((m.hi - m.lo).toNat - k)) ?_ ?_
    · refine ⟨by simp [e1], by simp [e2], by simp [e4], by simp [lq], by simp [e9], by simp [e11], by simp [e10], by simpa using hL⟩
    rintro k s hk ⟨e1, e2, e4, lq, e9, e11, e10, hL⟩
    by_cases hlt : m.lo + (k : Int) < m.hi
    · have hkk : (m.hi - m.lo).toNat - k = ((m.hi - m.lo).toNat - (k + 1)) + 1 := by omega
      rw [hkk] at hL
      unfold upTo at hL
      have hmd := hmade (m.lo + k)
      simp -implicitDefEqProofs [e1, e2, e9, e10, hlt]
      refine vCall_of (hin (m.lo + k)) ?_
      simp -implicitDefEqProofs
      refine vCall_of (hall (m.lo + k) (by omega)) ?_
      simp -implicitDefEqProofs [hmd]
      cases hp : p (m.lo + k) with
      | true =>
        rw [hp, if_pos rfl] at hL
        simp -implicitDefEqProofs
        exact hk0 _ ⟨by simp [e1], by simp [e2], by simp [e4], by simp [lq], by simp [e9], by simp [e10, hL], by simp [e11]⟩
      | false =>
        rw [hp, if_neg (by simp)] at hL
        simp -implicitDefEqProofs [e10]
        refine ⟨i64 (by omega) (by omega), round_ok (by omega) ⟨by simp [e1], by simp [e2], by simp [e4], by simp [lq], by simp [e9], by simp [e11], by simp; omega, ?_⟩⟩
        rw [hL]; congr 1; omega
    · have hz : (m.hi - m.lo).toNat - k = 0 := by omega
      rw [hz] at hL
      have hL : L = m.lo + k := hL
      simp -implicitDefEqProofs [e9, e10, hlt]
      exact hk0 _ ⟨by simp [e1], by simp [e2], by simp [e4], by simp [lq], by simp [e9], by simp [e10, hL], by simp [e11]⟩
  rintro s ⟨e1, e2, e4, lq, e9, e10, e11⟩
  obtain ⟨H, hH⟩ : ∃ H, H = dnTo p m.hi (m.hi - m.lo).toNat := ⟨_, rfl⟩
  rw [← hH] at hRE
  refine cutS (fun st => st.env 4 = .mref q 0 ∧ st.loc q = some [I 0, I 0] ∧ st.env 10 = I L ∧ st.env 11 = I H) ?_ ?_
  · intro k0 hk0
    simp -implicitDefEqProofs
    refine loop_up (m.hi - m.lo).toNat (fun k st => st.env 1 = I n ∧ st.env 2 = caseRef c ∧ st.env 4 = .mref q 0 ∧ st.loc q = some [I 0, I 0] ∧ st.env 9 = .ref [I m.lo, I m.hi] ∧ st.env 10 = I L ∧ st.env 11 = I (m.hi - k) ∧ H = dnTo p (m.hi - k) ((m.hi - m.lo).toNat - k)) ?_ ?_
    · refine ⟨by simp [e1], by simp [e2], by simp [e4], by simp [lq], by simp [e9], by simp [e10], by simp [e11], by simpa using hH⟩
    rintro k s hk ⟨e1, e2, e4, lq, e9, e10, e11, hH⟩
    by_cases hlt : m.lo < m.hi - (k : Int)
    · have hkk : (m.hi - m.lo).toNat - k = ((m.hi - m.lo).toNat - (k + 1)) + 1 := by omega
      rw [hkk] at hH
      unfold dnTo at hH
      have hmd := hmade (m.hi - k)
      simp -implicitDefEqProofs [e1, e2, e9, e11, hlt]
      refine vCall_of (hin (m.hi - k)) ?_
      simp -implicitDefEqProofs
      refine vCall_of (hall (m.hi - k) (by omega)) ?_
      simp -implicitDefEqProofs [hmd]
      cases hp : p (m.hi - k) with
      | true =>
        rw [hp, if_pos rfl] at hH
        simp -implicitDefEqProofs
        exact hk0 _ ⟨by simp [e4], by simp [lq], by simp [e10], by simp [e11, hH]⟩
      | false =>
        rw [hp, if_neg (by simp)] at hH
        simp -implicitDefEqProofs [e11]
        refine ⟨i64 (by omega) (by omega), round_ok (by omega) ⟨by simp [e1], by simp [e2], by simp [e4], by simp [lq], by simp [e9], by simp [e10], by simp; omega, ?_⟩⟩
        rw [hH]; congr 1; omega
    · have hz : (m.hi - m.lo).toNat - k = 0 := by omega
      rw [hz] at hH
      have hH : H = m.hi - k := hH
      simp -implicitDefEqProofs [e9, e11, hlt]
      exact hk0 _ ⟨by simp [e4], by simp [lq], by simp [e10], by simp [e11, hH]⟩
  rintro s ⟨e4, lq, e10, e11⟩
  simp -implicitDefEqProofs [e4, lq, e10, e11, r27, hRE]

theorem owned29_ok (c : Case) (y : Int) : PCall Try.prog 29 [encCase c, I y] (encLR (ownedR c y)) := by
  refine pcall Try.func29 tr29 rs29 fn29 (by simp [Try.ntmps29]) fun _ => ?_
  have c0 := checkR_ok c
  obtain ⟨R, hR⟩ : ∃ R, R = ownedR c y := ⟨_, rfl⟩
  rw [← hR]
  unfold ownedR at hR
  simp -implicitDefEqProofs only [m29]
  refine cutS (fun st => st.env 1 = I y ∧ st.env 2 = caseRef c) ?_ ?_
  · intro k hk
    simp -implicitDefEqProofs
    exact hk _ (by simp)
  rintro s ⟨e1, e2⟩
  refine cutS (fun st => st.env 1 = I y ∧ st.env 2 = caseRef c ∧ st.env 8 = I (errE c)) ?_ ?_
  · intro k hk
    simp -implicitDefEqProofs [e2]
    refine vCall_of c0 ?_
    simp -implicitDefEqProofs [T3]
    exact hk _ (by simp [e1, e2])
  rintro s ⟨e1, e2, e8⟩
  obtain ⟨E, hE⟩ : ∃ E, E = if errE c ≠ 0 then errE c else if out c.printed c.now [y] then 7 else 0 := ⟨_, rfl⟩
  refine cutS (fun st => st.env 1 = I y ∧ st.env 2 = caseRef c ∧ st.env 8 = I E) ?_ ?_
  · intro k hk
    have hk : ∀ s' : St, s'.env 1 = I y ∧ s'.env 2 = caseRef c ∧ s'.env 8 = I E → k s' := hk
    by_cases he : errE c = 0
    case neg =>
      rw [if_pos he] at hE
      have he' : (errE c == 0) = false := by simp [he]
      simp -implicitDefEqProofs [e8, he']
      exact hk _ ⟨by simp [e1], by simp [e2], by simp [e8, hE]⟩
    rw [he] at e8
    rw [if_neg (not_not_intro he), out1] at hE
    simp -implicitDefEqProofs [e1, e2, e8]
    refine vCall_of (in_ok y c.printed c.now) ?_
    by_cases hi : c.printed ≤ y ∧ y ≤ c.now
    · rw [decide_eq_true hi] at hE ⊢
      simp -implicitDefEqProofs
      exact hk _ ⟨by simp [e1], by simp [e2], by simp [e8, hE]⟩
    · rw [decide_eq_false hi] at hE ⊢
      simp -implicitDefEqProofs
      exact hk _ ⟨by simp [e1], by simp [e2], by simp [hE]⟩
  rintro s ⟨e1, e2, e8⟩
  have hE0 : E = 0 → errE c = 0 ∧ out c.printed c.now [y] = false := by
    intro h0
    by_cases he : errE c = 0
    case neg => rw [if_pos he] at hE; omega
    rw [if_neg (not_not_intro he)] at hE
    cases ho : out c.printed c.now [y] with
    | true => rw [ho, if_pos rfl] at hE; omega
    | false => exact ⟨he, rfl⟩
  have hRE : R = if E ≠ 0 then ⟨[], E⟩ else if someB c = false then ⟨[], 8⟩ else ⟨ownedS c y, 0⟩ := by
    rw [hR]
    by_cases he : errE c = 0
    case neg => rw [if_pos he] at hE ⊢; rw [hE, if_pos he]
    rw [if_neg (not_not_intro he)] at hE ⊢
    cases ho : out c.printed c.now [y] with
    | true => rw [ho, if_pos rfl] at hE; rw [if_pos rfl, hE, if_pos (by omega)]
    | false =>
      rw [ho, if_neg (by simp)] at hE
      rw [if_neg (by simp), hE, if_neg (not_not_intro rfl)]
  have c1 := some61_ok c E (fun h0 => Case.ok (hE0 h0).1)
  refine cutS (fun st => st.env 1 = I y ∧ st.env 2 = caseRef c ∧ st.env 8 = I (someS c E).2) ?_ ?_
  · intro k hk
    simp -implicitDefEqProofs [e2, e8]
    refine vCall_of c1 ?_
    simp -implicitDefEqProofs
    exact hk _ (by simp [e1, e2])
  rintro s ⟨e1, e2, e8⟩
  by_cases h0 : E = 0
  case neg =>
    rw [if_pos h0] at hRE
    rw [someS_err h0] at e8
    have he' : (E != 0) = true := by simp [h0]
    simp -implicitDefEqProofs [e8, he', r29, hRE]
  obtain ⟨he, ho⟩ := hE0 h0
  rw [h0, if_neg (not_not_intro rfl)] at hRE
  rw [h0] at e8
  have hok := Case.ok he
  have hm8 := err_marks he
  cases hs : someB c with
  | false =>
    rw [hs, if_pos rfl] at hRE
    rw [someS_no hs] at e8
    simp -implicitDefEqProofs [e8, r29, hRE]
  | true =>
  rw [hs, if_neg (by simp)] at hRE
  rw [someS_yes hs] at e8
  have hi := out_no ho y (by simp)
  have hn6 := hok.ownersLen
  have hcall : ∀ k, k < c.owners.length → PCall Try.prog 74 [encCase c, I k, I y] (B (someB (hadC c k y))) := fun k hk => had74_ok hok hm8 hk hi
  unfold ownedS at hRE
  have hp : ∀ k, someB (hadC c k y) = (fun o => someB (hadC c o y)) k := fun _ => rfl
  refine cutS (fun st => st.env 1 = I y ∧ st.env 2 = caseRef c) ?_ ?_
  · intro k hk
    simp -implicitDefEqProofs [e8]
    exact hk _ (by simp [e1, e2])
  rintro s ⟨e1, e2⟩
  refine cutS (fun st => st.env 1 = I y ∧ st.env 2 = caseRef c ∧ st.env 9 = .slice 1 [] 10) ?_ ?_
  · intro k hk
    simp -implicitDefEqProofs
    exact hk _ (by simp [e1, e2])
  rintro s ⟨e1, e2, e9⟩
  generalize (fun o => someB (hadC c o y)) = p at *
  refine cutS (fun st => st.env 9 = .slice 1 ((selT p c.owners.length).map I) 10) ?_ ?_
  · intro k0 hk0
    simp -implicitDefEqProofs
    refine loop_up c.owners.length (fun k st => st.env 1 = I y ∧ st.env 2 = caseRef c ∧ st.env 9 = .slice 1 ((selT p k).map I) 10 ∧ st.env 10 = I k) ?_ ?_
    · simp [e1, e2, e9, selT_zero]
    rintro k s hk ⟨e1, e2, e9, e10⟩
    simp -implicitDefEqProofs [e2, e10]
    refine cond_dec (fun hlt => ?_) (fun hge => ?_)
    · have hlt : k < c.owners.length := by omega
      have hsl := selT_len p k
      have hck := hcall k hlt
      rw [hp k] at hck
      simp -implicitDefEqProofs [e1, e2, e10]
      refine vCall_of hck ?_
      simp -implicitDefEqProofs
      refine cond_bool (fun hb => ?_) (fun hb => ?_)
      · simp -implicitDefEqProofs [e9, e10]
        refine ⟨by omega, by omega, i64 (by omega) (by omega), round_ok hlt ⟨by simp [e1], by simp [e2], by simp [selT_t hb], by simp⟩⟩
      · simp -implicitDefEqProofs [e10]
        refine ⟨i64 (by omega) (by omega), round_ok hlt ⟨by simp [e1], by simp [e2], by simp [e9, selT_f hb], by simp⟩⟩
    · obtain rfl : k = c.owners.length := by omega
      simp -implicitDefEqProofs
      exact hk0 _ (by simp [e9])
  intro s e9
  simp -implicitDefEqProofs [e9, r29, hRE]
end Go.Proofs.Ytiampdiobdianaa

