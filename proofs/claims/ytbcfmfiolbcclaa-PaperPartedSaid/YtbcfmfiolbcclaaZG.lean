/- Contracts: what gatherings are seen with, and the stocks of places, as bits in arrays. Contracts: all piles, handed over one by one: the program's iterator. Contracts: all orders, handed over one by one, each of them lent: the program's iterator. Contracts: all truths that agree, handed over one by one: the program's iterator. Contracts: the orders of all truths, by a map of the places. Contracts: the orders of all truths, by a map of the places: the walk. Contracts: the stocks of a gathering. Contracts: ends of numbers, and a clone of what is seen. Contracts: what the program's Orders, Before and Stocks return. Contracts: what the program's Left and Year return. Contracts: what the program's Year returns. Contracts: what the program's Wrong and Ask return. Contracts: what the program's Ask returns. -/
import Derived.Test.YtbcfmfiolbcclaaZF
import Derived.Test.YtbcfmfiolbcclaaZE
import Derived.Test.YtbcfmfiolbcclaaZC
namespace Go.Proofs.Ytbcfmfiolbcclaa
open Go.Avm

/-- The cells of an array of numbers. -/
def cl (n : Nat) (F : Nat → Int) : List AV := (List.range n).map fun g => I (F g)
theorem cl_len (n : Nat) (F : Nat → Int) : (cl n F).length = n := by simp [cl]
theorem cl_at {n g : Nat} (F : Nat → Int) (h : g < (cl n F).length) : (cl n F)[g] = I (F g) := by simp [cl]
theorem cl_set (n g : Nat) (F : Nat → Int) (v : Int) : (cl n F).set g (I v) = cl n fun j => if j = g then v else F j := by
  apply List.ext_getElem?
  intro j
  simp only [List.getElem?_set, cl, List.getElem?_map, List.length_map, List.length_range]
  by_cases hj : g = j
  · subst hj
    by_cases hg : g < n <;> simp [hg]
  · have : ¬ j = g := fun e => hj e.symm
    by_cases hg : j < n <;> simp [hg, hj, this]
theorem cl_congr {n : Nat} {F G : Nat → Int} (h : ∀ g < n, F g = G g) : cl n F = cl n G := by
  unfold cl
  exact List.map_congr_left fun g hg => by rw [h g (by simpa using hg)]
theorem cl_erase (n : Nat) (F : Nat → Int) : (cl n F).map AV.erase0 = cl n F := by simp [cl]
theorem cl_cell1 (n : Nat) (F : Nat → Int) : (cl n F).all AV.cell1 = true := by
  rw [List.all_eq_true]
  intro x hx
  unfold cl at hx
  rw [List.mem_map] at hx
  obtain ⟨g, _, rfl⟩ := hx
  rfl
theorem splice_all : ∀ (xs ys : List AV) (o : Nat), o + ys.length = xs.length → splice xs o ys = xs.take o ++ ys
  | xs, [], o, h => by simp at h; simp [splice, h]
  | xs, y :: ys, o, h => by
    simp only [List.length_cons] at h
    rw [splice_cons, splice_all _ ys (o + 1) (by simp; omega)]
    have ho : o < xs.length := by omega
    rw [List.take_set, List.take_succ_eq_append_getElem ho, List.set_append_right _ _ (by simp; omega)]
    simp [Nat.min_eq_left (Nat.le_of_lt ho)]
theorem cl_splice (n : Nat) (F : Nat → Int) : splice (cl n F) 0 (cl n F) = cl n F := by
  rw [splice_all _ _ _ (by simp)]; rfl
theorem cl_take (n : Nat) (F : Nat → Int) : (cl n F).take n = cl n F := List.take_of_length_le (by rw [cl_len]; exact Nat.le_refl _)

abbrev maskAV (F : Nat → Nat) : AV := .agg (cl 5 fun g => (F g : Nat))

theorem shl_pow {k : Nat} (h : k < 9) : IntKind.wrap .i64 (2 ^ (min k (IntKind.bits .i64))) = ((2 ^ k : Nat) : Int) := by
  have := shl_small k h
  rwa [Int.one_mul] at this

theorem bit0_at {n i : Nat} (hn : n < 256) (hi : i ≤ 64) : (bitI .and .i64 (Int.fdiv (n : Int) (2 ^ (min i (IntKind.bits .i64)))) 1 == 0) = !n.testBit i := by
  have e : Int.fdiv (n : Int) (2 ^ (min i 64)) = ((n / 2 ^ i : Nat) : Int) := by
    rw [Nat.min_eq_left hi, Int.fdiv_eq_ediv_of_nonneg _ (by exact Int.pow_nonneg (by omega))]
    simp
  show (bitI .and .i64 (Int.fdiv (n : Int) (2 ^ (min i 64))) 1 == 0) = _
  rw [e, bitAnd1 (Nat.lt_of_le_of_lt (Nat.div_le_self _ _) (by omega)), Nat.testBit_eq_decide_div_mod_eq]
  rcases Nat.mod_two_eq_zero_or_one (n / 2 ^ i) with h | h <;> rw [h] <;> rfl

theorem wants_ok {c : Case} (h : c.OK) {but : Nat} (hb : but < 256) : PCall Try.prog 87 [encCase c, I but] (maskAV (wantP c but)) := by
  refine pcall Try.func87 tr87 rs87 fn87 (by simp [Try.ntmps87]) fun _ => ?_
  have hg := h.gath
  have hs4 := h.stocks
  have hl8 := h.seenLen
  simp -implicitDefEqProofs [m87]
  intro b
  have z : [I 0, I 0, I 0, I 0, I 0] = cl 5 fun g => ((wantUp c but g 0 : Nat) : Int) := rfl
  refine loop_up c.seen.length (fun k s => s.env 2 = caseRef c ∧ s.env 1 = I but ∧ s.env 4 = .mref b 0 ∧ s.loc b = some (cl 5 fun g => ((wantUp c but g k : Nat) : Int)) ∧ s.env 9 = .slice 2 (c.seen.map encSeen) 0 ∧ s.env 10 = I c.seen.length ∧ s.env 11 = I k) ?_ ?_
  · simp [← z]
  rintro k s hk ⟨e2, e1, e4, lb, e9, e10, e11⟩
  simp -implicitDefEqProofs [e10, e11]
  refine cond_dec (fun hlt => ?_) (fun hge => ?_)
  · have hlt : k < c.seen.length := by omega
    have hx := h.seen _ (List.getElem_mem hlt)
    simp -implicitDefEqProofs [e9, e11, hlt]
    intro b2 hb2
    have hne : b ≠ b2 := by rintro rfl; rw [lb] at hb2; cases hb2
    have e0 : c.seen.getD k (-1, 0) = c.seen[k] := by simp [hlt]
    have w1 : ∀ g, wantUp c but g (k + 1) = if but.testBit k = false ∧ c.seen[k].1 = g then wantUp c but g k ||| 2 ^ c.seen[k].2.toNat else wantUp c but g k := fun g => by rw [wantUp, e0]
    have w16 := fun g => wantUp_16 h but g (k := k) (by omega)
    have hb0 := bit0_at (i := k) hb (by omega)
    generalize c.seen[k] = x at *
    obtain ⟨x1, x2⟩ := x
    obtain ⟨g, rfl⟩ : ∃ g : Nat, x1 = g := ⟨x1.toNat, by omega⟩
    obtain ⟨t, rfl⟩ : ∃ t : Nat, x2 = t := ⟨x2.toNat, by omega⟩
    simp only at *
    have hg5 : g < 5 := by omega
    have hsh := shl_pow (k := t) (by omega)
    have t16 : 2 ^ t < 16 := Nat.pow_lt_pow_right (n := 4) (by omega) (by omega)
    have hor := or_small _ (w16 g) _ t16
    rw [show ((2 ^ t : Nat) : Int) = (2 : Int) ^ t by simp] at hor hsh
    have hcl := cl_len 5 (fun g => ((wantUp c but g k : Nat) : Int))
    simp -implicitDefEqProofs [e1, hb0]
    refine cond_bool (fun hbit => ?_) (fun hbit => ?_)
    · have hbit : but.testBit k = false := by simpa using hbit
      simp -implicitDefEqProofs [e4, lb, hne, hcl, hg5, hsh, hor, cl_at, cl_set, e11]
      refine ⟨by omega, by omega, i64 (by omega) (by omega), round_ok hlt ?_⟩
      simp [e2, e1, e4, e9, e10, w1, hbit]
      refine cl_congr fun j _ => ?_
      by_cases hj : j = g
      · subst hj; simp
      · have hj' : ¬ (g : Int) = (j : Int) := by omega
        simp [hj, hj']
    · have hbit : but.testBit k = true := by simpa using hbit
      simp -implicitDefEqProofs [e11]
      refine ⟨i64 (by omega) (by omega), round_ok hlt ?_⟩
      simp [e2, e1, e4, e9, e10, lb, hne, w1, hbit]
  · obtain rfl : k = c.seen.length := by omega
    simp -implicitDefEqProofs [e4, lb, cl_len, cl_take, cl_erase, cl_cell1, cl_splice, r87]
    rfl
def padF (pile : List Int) (i : Nat) : Int := pile.getD i 0
abbrev pad4 (pile : List Int) : List AV := cl 4 (padF pile)
/-- The stocks of a place, as bits; of a place behind the last gathering none. -/
def maskQ (c : Case) (pile : List Int) (p : Nat) : Nat := if p < c.gath.toNat then maskP c pile p else 0
/-- What the array holds, i reams on, of the i-th one k places on. -/
def maskM (c : Case) (pile : List Int) (g i k p : Nat) : Nat := if p < g then (if p < k then maskUp c pile p (i + 1) else maskUp c pile p i) else 0

theorem places89_ok {c : Case} (h : c.OK) {pile : List Int} (hp : PileOK c pile) : PCall Try.prog 89 [encCase c, .agg (pad4 pile)] (maskAV (maskQ c pile)) := by
  refine pcall Try.func89 tr89 rs89 fn89 (by simp [Try.ntmps89]) fun _ => ?_
  have hgath := h.gath
  have hs4 := h.stocks
  have hr4 := h.reams
  have hrun := h.run
  have hlen := hp.len
  obtain ⟨g, hg⟩ : ∃ g : Nat, c.gath = g := ⟨c.gath.toNat, by omega⟩
  have hg5 : g ≤ 5 := by omega
  have hmul : ∀ p : Nat, p ≤ 5 → 0 ≤ (p : Int) * c.run ∧ (p : Int) * c.run ≤ 2500 := fun p hp5 =>
    ⟨Int.mul_nonneg (by omega) (by omega), Int.le_trans (Int.mul_le_mul (show (p : Int) ≤ 5 by omega) hrun.2 (by omega) (by omega)) (by omega)⟩
  have hq : maskQ c pile = maskM c pile g pile.length 0 := by funext p; simp [maskQ, maskM, hg, maskP]
  rw [hq]
  simp -implicitDefEqProofs [m89, cl_len, cl_erase]
  intro b
  have z : [I 0, I 0, I 0, I 0, I 0] = cl 5 fun p => ((maskM c pile g 0 0 p : Nat) : Int) := by
    have : ∀ p, maskM c pile g 0 0 p = 0 := fun p => by simp [maskM, maskUp]
    simp only [this]; rfl
  refine loop_up c.reams.length (fun i s => s.env 2 = caseRef c ∧ s.env 3 = .ref (pad4 pile) ∧ s.env 4 = .mref b 0 ∧ s.loc b = some (cl 5 fun p => ((maskM c pile g i 0 p : Nat) : Int)) ∧ s.env 5 = I (pile.take i).sum ∧ s.env 11 = .slice 3 (c.reams.map encReam) 0 ∧ s.env 12 = I c.reams.length ∧ s.env 13 = I i) ?_ ?_
  · simp [← z]
  rintro i s hi ⟨e2, e3, e4, lb, e5, e11, e12, e13⟩
  simp -implicitDefEqProofs [e12, e13]
  refine cond_dec (fun hlt => ?_) (fun hge => ?_)
  · have hir : i < c.reams.length := by omega
    have hlt : i < pile.length := by omega
    have hsum := hp.sum h i
    have hsum1 := hp.sum h (i + 1)
    have hs : (pile.take i).sum + pile[i] = (pile.take (i + 1)).sum := by rw [take_snoc hlt, List.sum_append]; simp
    have hpi : padF pile i = pile[i] := by simp [padF, hlt]
    have hx := h.ream hir
    have e0 : (c.reams.map Ream.stock).getD i 0 = c.reams[i].stock := by simp [hir]
    have w1 : ∀ p, maskUp c pile p (i + 1) = if covers c pile p i then maskUp c pile p i ||| 2 ^ c.reams[i].stock.toNat else maskUp c pile p i := fun p => by rw [maskUp, e0]
    have hcv : ∀ p : Nat, covers c pile p i = (decide ((pile.take i).sum < ((p : Int) + 1) * c.run) && decide ((p : Int) * c.run < (pile.take (i + 1)).sum)) := fun p => by
      unfold covers; rw [show pile.getD i 0 = pile[i] from hpi, hs]
    have w16 := fun p => maskUp_16 h pile p (k := i) (by omega)
    simp -implicitDefEqProofs [e11, e13, hir]
    intro b2 hb2
    have hne : b ≠ b2 := by rintro rfl; rw [lb] at hb2; cases hb2
    generalize c.reams[i] = x at *
    obtain ⟨x1, x2, x3⟩ := x
    simp only at *
    obtain ⟨t, rfl⟩ : ∃ t : Nat, x1 = t := ⟨x1.toNat, by omega⟩
    have hsh := shl_pow (k := t) (by omega)
    have t16 : 2 ^ t < 16 := Nat.pow_lt_pow_right (n := 4) (by omega) (by omega)
    have hor := fun p => or_small _ (w16 p) _ t16
    rw [show ((2 ^ t : Nat) : Int) = (2 : Int) ^ t by simp] at hor hsh
    simp -implicitDefEqProofs [e2, hg]
    refine loop_up g (fun k s => s.env 2 = caseRef c ∧ s.env 3 = .ref (pad4 pile) ∧ s.env 4 = .mref b 0 ∧ s.loc b = some (cl 5 fun p => ((maskM c pile g i k p : Nat) : Int)) ∧ s.env 5 = I (pile.take i).sum ∧ s.env 6 = I i ∧ s.env 7 = .ref [I t, I x2, I x3] ∧ s.env 11 = .slice 3 (c.reams.map encReam) 0 ∧ s.env 12 = I c.reams.length ∧ s.env 13 = I i ∧ s.env 20 = I g ∧ s.env 21 = I k) ?_ ?_
    · simp [e2, e3, e4, e5, e11, e12, e13, lb, hne]
    rintro k s hk ⟨e2, e3, e4, lb, e5, e6, e7, e11, e12, e13, e20, e21⟩
    simp -implicitDefEqProofs [e20, e21]
    refine cond_dec (fun hlt2 => ?_) (fun hge2 => ?_)
    · have hlt2 : k < g := by omega
      have hp5 := hmul k (by omega)
      have hp6 := hmul (k + 1) (by omega)
      have hcast : ((k + 1 : Nat) : Int) * c.run = ((k : Int) + 1) * c.run := by simp
      rw [hcast] at hp6
      have hk5 : k < 5 := by omega
      have hi4 : i < 4 := by omega
      have hmk : maskM c pile g i k k = maskUp c pile k i := by simp [maskM, hlt2]
      have hstep : ∀ v : Nat, maskUp c pile k (i + 1) = v → (cl 5 fun p => ((maskM c pile g i (k + 1) p : Nat) : Int)) = cl 5 fun p => if p = k then (v : Int) else ((maskM c pile g i k p : Nat) : Int) := fun v hv => cl_congr fun p _ => by
        by_cases hpk : p = k
        · subst hpk; simp [maskM, hlt2, hv]
        · have : (p < k + 1) = (p < k) := by simp; omega
          simp [maskM, hpk, this]
      have hsame : maskUp c pile k (i + 1) = maskUp c pile k i → (cl 5 fun p => ((maskM c pile g i (k + 1) p : Nat) : Int)) = cl 5 fun p => ((maskM c pile g i k p : Nat) : Int) := fun hv => by
        rw [hstep _ hv]
        exact cl_congr fun p _ => by
          by_cases hpk : p = k
          · subst hpk; simp [hmk]
          · simp [hpk]
      have hcv := hcv k
      have w1 := w1 k
      rw [hcv] at w1
      by_cases hab : (pile.take i).sum < ((k : Int) + 1) * c.run
      · by_cases hab2 : (k : Int) * c.run < (pile.take (i + 1)).sum
        · have w1 : maskUp c pile k (i + 1) = maskUp c pile k i ||| 2 ^ t := by rw [w1, if_pos (by simp [hab, hab2])]; rfl
          simp -implicitDefEqProofs [e21]
          simp -implicitDefEqProofs [e2, e3, e4, e5, e6, e7, e21, lb, hab, hab2, hi4, hk5, cl_at, cl_len, hpi, hs, cl_set, hmk, hsh, hor]
          refine ⟨i64 (by omega) (by omega), i64 (by omega) (by omega), by omega, by omega, i64 (by omega) (by omega), i64 (by omega) (by omega), by omega, by omega, i64 (by omega) (by omega), round_ok hlt2 ?_⟩
          simp [e2, e3, e4, e5, e6, e7, e11, e12, e13, e20, hstep _ w1]
        · have w1 : maskUp c pile k (i + 1) = maskUp c pile k i := by rw [w1, if_neg (by simp [hab, hab2])]
          simp -implicitDefEqProofs [e21]
          simp -implicitDefEqProofs [e2, e3, e5, e6, e21, hab, hab2, hi4, cl_at, cl_len, hpi, hs]
          refine ⟨i64 (by omega) (by omega), i64 (by omega) (by omega), by omega, by omega, i64 (by omega) (by omega), i64 (by omega) (by omega), i64 (by omega) (by omega), round_ok hlt2 ?_⟩
          simp [e2, e3, e4, e5, e6, e7, e11, e12, e13, e20, lb, hsame w1]
      · have w1 : maskUp c pile k (i + 1) = maskUp c pile k i := by rw [w1, if_neg (by simp [hab])]
        simp -implicitDefEqProofs [e21]
        simp -implicitDefEqProofs [e2, e5, e21, hab]
        refine ⟨i64 (by omega) (by omega), i64 (by omega) (by omega), i64 (by omega) (by omega), round_ok hlt2 ?_⟩
        simp [e2, e3, e4, e5, e6, e7, e11, e12, e13, e20, lb, hsame w1]
    · obtain rfl : k = g := by omega
      have hi4 : i < 4 := by omega
      simp -implicitDefEqProofs [e3, e5, e6, e13, hi4, cl_at, cl_len, hpi, hs]
      refine ⟨by omega, by omega, i64 (by omega) (by omega), i64 (by omega) (by omega), round_ok hir ?_⟩
      simp [e2, e3, e4, e11, e12, lb]
      refine cl_congr fun p _ => ?_
      by_cases hpk : p < k <;> simp [maskM, hpk]
  · obtain rfl : i = c.reams.length := by omega
    simp -implicitDefEqProofs [e4, lb, cl_len, cl_take, cl_erase, cl_cell1, cl_splice, r89, hlen]
end Go.Proofs.Ytbcfmfiolbcclaa

namespace Go.Proofs.Ytbcfmfiolbcclaa
open Go.Avm

theorem tdiv_nat (a b : Nat) : ((a : Int).tdiv (b : Int)) = ((a / b : Nat) : Int) := by
  rw [Int.tdiv_eq_ediv_of_nonneg (by omega)]; rfl
theorem tmod_nat (a b : Nat) : ((a : Int).tmod (b : Int)) = ((a % b : Nat) : Int) := by
  rw [Int.tmod_eq_emod_of_nonneg (by omega)]; rfl

/-- What is left of a pile's number behind the first i reams. -/
def qAt : List Ream → Nat → Nat → Nat
  | _, n, 0 => n
  | [], n, _ + 1 => n
  | r :: rs, n, i + 1 => qAt rs (n / r.wide) i
theorem qAt_zero (rs : List Ream) (n : Nat) : qAt rs n 0 = n := by cases rs <;> rfl
theorem qAt_succ : ∀ {rs : List Ream} {n i : Nat} (h : i < rs.length), qAt rs n (i + 1) = qAt rs n i / rs[i].wide
  | [], _, _, h => by simp at h
  | r :: rs, n, 0, _ => by
    show qAt rs (n / r.wide) 0 = _
    rw [qAt_zero]; rfl
  | r :: rs, n, i + 1, h => by
    rw [qAt, qAt_succ (rs := rs) (by simpa using h)]; rfl
theorem qAt_le : ∀ (rs : List Ream) (n i : Nat), qAt rs n i ≤ n
  | [], n, i => by cases i <;> exact Nat.le_refl _
  | r :: rs, n, 0 => Nat.le_refl _
  | r :: rs, n, i + 1 => by
    rw [qAt]
    exact Nat.le_trans (qAt_le rs _ i) (Nat.div_le_self _ _)
theorem pileN_len : ∀ (rs : List Ream) (n : Nat), (pileN rs n).length = rs.length
  | [], _ => rfl
  | r :: rs, n => by simp [pileN, pileN_len rs]
theorem pileN_get : ∀ {rs : List Ream} {n i : Nat} (h : i < rs.length) (h2 : i < (pileN rs n).length), (pileN rs n)[i] = rs[i].lo + ((qAt rs n i % rs[i].wide : Nat) : Int)
  | [], _, _, h, _ => by simp at h
  | r :: rs, n, 0, _, _ => by rw [qAt_zero]; rfl
  | r :: rs, n, i + 1, h, h2 => by
    have := pileN_get (rs := rs) (n := n / r.wide) (i := i) (by simpa using h) (by rw [pileN_len]; simpa using h)
    rw [qAt]
    simpa [pileN] using this

theorem wides_snoc (r : Ream) : ∀ rs : List Ream, wides (rs ++ [r]) = wides rs * r.wide
  | [] => by simp [wides]
  | x :: rs => by simp [wides, wides_snoc r rs, Nat.mul_assoc]
theorem wides_le {c : Case} (h : c.OK) : ∀ i, i ≤ c.reams.length → wides (c.reams.take i) ≤ 3 ^ i
  | 0, _ => by simp [wides]
  | i + 1, hi => by
    have h1 := wides_le h i (by omega)
    have h2 := wide_le h (show i < c.reams.length by omega)
    rw [take_snoc (by omega), wides_snoc, Nat.pow_succ]
    exact Nat.mul_le_mul h1 h2.2.1
theorem wides_81 {c : Case} (h : c.OK) {i : Nat} (hi : i ≤ c.reams.length) : wides (c.reams.take i) ≤ 81 :=
  Nat.le_trans (wides_le h i hi) (Nat.le_trans (Nat.pow_le_pow_right (by omega) (show i ≤ 4 by have := h.reams; omega)) (by decide))

theorem padF_succ {l : List Int} {i : Nat} (h : i < l.length) : pad4 (l.take (i + 1)) = cl 4 fun j => if j = i then l[i] else padF (l.take i) j := by
  refine cl_congr fun j _ => ?_
  unfold padF
  by_cases hj : j = i
  · subst hj; simp [h]
  · by_cases hlt : j < i
    · have hl : j < l.length := by omega
      have h1 : j < i + 1 := by omega
      simp [hlt, hj, hl, h1]
    · have h1 : ¬ j < i + 1 := by omega
      simp [hlt, hj, h1, List.getElem?_take]

abbrev pileAV (p : List Int) : List AV := [.agg (pad4 p), I p.sum]
def restP (c : Case) (N n : Nat) : List (List AV) := ((((List.range N).drop n).map (pileN c.reams)).filter fun p => decide (c.run * c.gath ≤ p.sum)).map pileAV
theorem restP_t {c : Case} {N n : Nat} (hn : n < N) (h : c.run * c.gath ≤ (pileN c.reams n).sum) : restP c N n = pileAV (pileN c.reams n) :: restP c N (n + 1) := by
  unfold restP
  rw [drop_cons (l := List.range N) (k := n) (by simpa using hn)]
  simp [h]
theorem restP_f {c : Case} {N n : Nat} (hn : n < N) (h : ¬ c.run * c.gath ≤ (pileN c.reams n).sum) : restP c N n = restP c N (n + 1) := by
  unfold restP
  rw [drop_cons (l := List.range N) (k := n) (by simpa using hn)]
  simp [h]
theorem restP_end (c : Case) (N : Nat) : restP c N N = [] := by
  unfold restP; rw [List.drop_of_length_le (by simp)]; rfl

theorem pileN_ok {c : Case} (h : c.OK) {n : Nat} (hn : n < wides c.reams) : PileOK c (pileN c.reams n) :=
  ((mem_pileN (fun r hr => by have := h.sheets r hr; omega)).1 ⟨n, hn, rfl⟩).ok h

theorem run_gath {c : Case} (h : c.OK) : 0 ≤ c.run * c.gath ∧ c.run * c.gath ≤ 2500 := by
  have h1 := h.run
  have h2 := h.gath
  exact ⟨Int.mul_nonneg (by omega) (by omega), Int.le_trans (Int.mul_le_mul h1.2 h2.2 (by omega) (by omega)) (by omega)⟩

theorem piles100_ok {c : Case} (h : c.OK) : PSeq Try.prog 100 [] [caseRef c] ((pilesP c).map pileAV) := by
  have hr4 := h.reams
  have hrg := run_gath h
  obtain ⟨N, hN⟩ : ∃ N, N = wides c.reams := ⟨_, rfl⟩
  have hN81 : N ≤ 81 := by have := wides_81 h (Nat.le_refl c.reams.length); rwa [List.take_length, ← hN] at this
  have hm : (pilesP c).map pileAV = restP c N 0 := by rw [hN]; rfl
  rw [hm]
  refine pseq Try.func100 tr100 rs100 fn100 (by simp [Try.ntmps100]) fun l hfit => ?_
  simp -implicitDefEqProofs [m100]
  refine loop_up c.reams.length (fun i s => s.env 0 = .func (.yield l) [] [] ∧ s.env 1 = caseRef c ∧ s.env 3 = I (wides (c.reams.take i)) ∧ s.env 14 = .slice 3 (c.reams.map encReam) 0 ∧ s.env 15 = I c.reams.length ∧ s.env 16 = I i ∧ s.env gS = .ghost l (restP c N 0) false) ?_ ?_
  · simp [wides]
  rintro i s hi ⟨e0, e1, e3, e14, e15, e16, eg⟩
  simp only [gS] at eg
  simp -implicitDefEqProofs [e15, e16]
  refine cond_dec (fun hlt => ?_) (fun hge => ?_)
  · have hlt : i < c.reams.length := by omega
    have hw := wide_le h hlt
    have hx := h.ream hlt
    have hs := wides_snoc c.reams[i] (c.reams.take i)
    rw [← take_snoc hlt] at hs
    have h81 := wides_81 h (show i + 1 ≤ c.reams.length by omega)
    have hwi : c.reams[i].hi - c.reams[i].lo + 1 = (c.reams[i].wide : Int) := by omega
    have hms : (wides (c.reams.take i) : Int) * (c.reams[i].wide : Int) = (wides (c.reams.take (i + 1)) : Int) := by rw [hs]; simp
    simp -implicitDefEqProofs [e14, e16, e3, hlt]
    intro b hb
    rw [hwi, hms]
    refine ⟨i64 (by omega) (by omega), i64 (by omega) (by omega), i64 (by omega) (by omega), i64 (by omega) (by omega), round_ok hlt ?_⟩
    simp [e0, e1, e14, e15, eg]
  · obtain rfl : i = c.reams.length := by omega
    rw [List.take_length, ← hN] at e3
    simp -implicitDefEqProofs [e3]
    refine loop_up N (fun n s => s.env 0 = .func (.yield l) [] [] ∧ s.env 1 = caseRef c ∧ s.env 31 = I N ∧ s.env 32 = I n ∧ s.env gS = .ghost l (restP c N n) false) ?_ ?_
    · simp [e0, e1, eg]
    rintro n s hn ⟨e0, e1, e31, e32, eg⟩
    simp only [gS] at eg
    simp -implicitDefEqProofs [e31, e32]
    refine cond_dec (fun hlt => ?_) (fun hge => ?_)
    · have hlt : n < N := by omega
      have hok := pileN_ok h (n := n) (by omega)
      have ht := restP_t (c := c) hlt
      have hf := restP_f (c := c) hlt
      obtain ⟨pl, hpl⟩ : ∃ pl, pl = pileN c.reams n := ⟨_, rfl⟩
      rw [← hpl] at hok ht hf
      have hlen := hok.len
      simp -implicitDefEqProofs [e32, e1]
      intro b hb
      refine loop_up c.reams.length (fun i s => s.env 0 = .func (.yield l) [] [] ∧ s.env 1 = caseRef c ∧ s.env 31 = I N ∧ s.env 32 = I n ∧ s.env gS = .ghost l (restP c N n) false ∧
        s.env 6 = I (qAt c.reams n i) ∧ s.env 7 = .mref b 0 ∧ s.loc b = some (pad4 (pl.take i)) ∧ s.env 8 = I (pl.take i).sum ∧ s.env 37 = .slice 3 (c.reams.map encReam) 0 ∧ s.env 38 = I c.reams.length ∧ s.env 39 = I i) ?_ ?_
      · have : [I 0, I 0, I 0, I 0] = pad4 [] := rfl
        simp [e0, e1, e31, e32, eg, qAt_zero, ← this]
      rintro i s hi ⟨e0, e1, e31, e32, eg, e6, e7, lb, e8, e37, e38, e39⟩
      simp only [gS] at eg
      simp -implicitDefEqProofs [e38, e39]
      refine cond_dec (fun hlt2 => ?_) (fun hge2 => ?_)
      · have hir : i < c.reams.length := by omega
        have hil : i < pl.length := by omega
        have hx := h.ream hir
        have hw := wide_le h hir
        have hq := qAt_succ (n := n) hir
        have hg := pileN_get (n := n) hir (by rw [pileN_len]; exact hir)
        have hg : pl[i] = c.reams[i].lo + ((qAt c.reams n i % c.reams[i].wide : Nat) : Int) := by rw [← hg]; simp [hpl]
        have hql := qAt_le c.reams n i
        have hst := padF_succ hil
        have hsum := hok.sum h i
        have hsum1 := hok.sum h (i + 1)
        have hs : (pl.take i).sum + pl[i] = (pl.take (i + 1)).sum := by rw [take_snoc hil, List.sum_append]; simp
        have hb4 : i < 4 := by omega
        have hpx := hok.each _ (List.getElem_mem hil)
        simp -implicitDefEqProofs [e37, e39, hir]
        intro b2 hb2
        have hne : b ≠ b2 := by rintro rfl; rw [lb] at hb2; cases hb2
        have hpf : padF (pl.take (i + 1)) i = pl[i] := by simp [padF, hil]
        generalize c.reams[i].wide = W at *
        generalize pl[i] = y at *
        generalize c.reams[i] = r at *
        obtain ⟨r1, r2, r3⟩ := r
        simp only at *
        have hW : r3 - r2 + 1 = (W : Int) := by omega
        have u1 := tmod_nat (qAt c.reams n i) W
        have u2 := tdiv_nat (qAt c.reams n i) W
        have v1 : ((qAt c.reams n i : Nat) : Int) % (W : Int) = ((qAt c.reams n i % W : Nat) : Int) := rfl
        have v2 : ((qAt c.reams n i : Nat) : Int) / (W : Int) = ((qAt c.reams n i / W : Nat) : Int) := rfl
        have hW0 : ¬ W = 0 := by omega
        rw [← hq] at u2 v2
        have hq1 := qAt_le c.reams n (i + 1)
        clear hq
        generalize hq' : qAt c.reams n (i + 1) = q' at *
        generalize qAt c.reams n i = q at *
        generalize q % W = m at *
        simp -implicitDefEqProofs [hW, e6, e7, e8, e39, lb, hne, hW0, u1, u2, cl_len, cl_at, ← hg, cl_set, ← hst, hs, hb4, hpf]
        refine ⟨i64 (by omega) (by omega), i64 (by omega) (by omega), i64 (by omega) (by omega), by omega, by omega, i64 (by omega) (by omega), by omega, i64 (by omega) (by omega), i64 (by omega) (by omega), round_ok hir ?_⟩
        simp [e0, e1, e7, e31, e32, eg, e37, e38, hq']
      · obtain rfl : i = c.reams.length := by omega
        rw [← hlen, List.take_length] at e8 lb
        by_cases hsum : c.run * c.gath ≤ pl.sum
        · have ht := ht hsum
          rw [ht] at eg
          simp -implicitDefEqProofs [e0, e1, e7, e8, lb, e32, hsum, eg, cl_len, cl_take, cl_erase]
          refine ⟨i64 (by omega) (by omega), i64 (by omega) (by omega), round_ok hlt ?_⟩
          simp [e0, e1, e31]
        · have hf := hf hsum
          rw [hf] at eg
          simp -implicitDefEqProofs [e1, e8, e32, hsum]
          refine ⟨i64 (by omega) (by omega), i64 (by omega) (by omega), round_ok hlt ?_⟩
          simp [e0, e1, e31, eg]
    · obtain rfl : n = N := by omega
      rw [restP_end] at eg
      simp -implicitDefEqProofs [eg]
/-- The piles' iterator. -/
theorem piles88_ok (c : Case) : PCall Try.prog 88 [encCase c] (.func (.func 100) [] [caseRef c]) := by
  refine pcall Try.func88 tr88 rs88 fn88 (by simp [Try.ntmps88]) fun _ => ?_
  simp -implicitDefEqProofs [m88, r88]
end Go.Proofs.Ytbcfmfiolbcclaa

namespace Go.Proofs.Ytbcfmfiolbcclaa
open Go.Avm

@[simp] theorem dem_mslice (r b off len cap sz : Nat) : demote r (.mslice b off len cap sz) = .mslice b off len cap sz := rfl
@[simp] theorem cells_mslice (b off len cap sz : Nat) : (AV.mslice b off len cap sz).cells = [.mslice b off len cap sz] := rfl
@[simp] theorem erase_mslice (b off len cap sz : Nat) : (AV.mslice b off len cap sz).erase = .mslice b off len cap sz := rfl
@[simp] theorem erase0_mslice (b off len cap sz : Nat) : (AV.mslice b off len cap sz).erase0 = .mslice b off len cap sz := rfl
theorem cl_dem (r n : Nat) (F : Nat → Int) : (cl n F).map (demote r) = cl n F := by simp [cl]

theorem or_32 : ∀ a : Nat, a < 32 → ∀ b : Nat, b < 32 → bitI .or .i64 (a : Int) (b : Int) = ((a ||| b : Nat) : Int) := by decide +kernel

/-- What is left to be handed over behind the first j gatherings at a place. -/
def dfsR (m k : Nat) (o : List Int) (j : Nat) : List (List Int) :=
  ((((List.range m).drop j).filter fun n : Nat => !decide ((n : Int) ∈ o)).map fun n : Nat => o ++ [(n : Int)]).flatMap (dfs m k)
theorem dfsR_zero (m k : Nat) (o : List Int) : dfsR m k o 0 = dfs m (k + 1) o := rfl
theorem dfsR_end (m k : Nat) (o : List Int) : dfsR m k o m = [] := by
  unfold dfsR; rw [List.drop_of_length_le (by simp)]; rfl
theorem dfsR_in {m k : Nat} {o : List Int} {j : Nat} (hj : j < m) (h : (j : Int) ∈ o) : dfsR m k o j = dfsR m k o (j + 1) := by
  unfold dfsR
  rw [drop_cons (l := List.range m) (k := j) (by simpa using hj)]
  simp [h]
theorem dfsR_out {m k : Nat} {o : List Int} {j : Nat} (hj : j < m) (h : ¬ (j : Int) ∈ o) : dfsR m k o j = dfs m k (o ++ [(j : Int)]) ++ dfsR m k o (j + 1) := by
  unfold dfsR
  rw [drop_cons (l := List.range m) (k := j) (by simpa using hj)]
  simp [h]

def OrdAt (F : Nat → Int) (o : List Int) : Prop := ∀ i (h : i < o.length), F i = o[i]
theorem ordAt_snoc {F : Nat → Int} {o : List Int} {x : Int} (h : OrdAt F o) : OrdAt (fun i => if i = o.length then x else F i) (o ++ [x]) := fun i hi => by
  by_cases he : i = o.length
  · subst he; simp
  · have hi' : i < o.length := by simp at hi; omega
    simp [he, h i hi', List.getElem_append_left hi']
theorem ordAt_left {F : Nat → Int} {o : List Int} {x : Int} (h : OrdAt F (o ++ [x])) : OrdAt F o := fun i hi => by
  have := h i (by simp; omega)
  rwa [List.getElem_append_left hi] at this
theorem ordAt_cl {F : Nat → Int} {o : List Int} (h : OrdAt F o) : cl o.length F = o.map I := by
  apply List.ext_getElem (by simp [cl])
  intro i h1 h2
  have hi : i < o.length := by simpa using h2
  rw [cl_at]
  simp [h i hi]

theorem chunk_cl : ∀ (n : Nat) (l : List AV), n ≤ l.length → (∀ x ∈ l, ∃ m, x = I m) → chunk 1 l n = l.take n
  | 0, l, _, _ => by simp [chunk]
  | n + 1, [], h, _ => by simp at h
  | n + 1, x :: l, h, hx => by
    obtain ⟨m, rfl⟩ := hx x (by simp)
    have := chunk_cl n l (by simpa using h) (fun y hy => hx y (by simp [hy]))
    unfold chunk
    simp [this]

abbrev lentEl (o : List Int) : List AV := [IL o, Go.Avm.mark 0]
/-- The function that goes on with an order. -/
abbrev nextF (l B1 B2 : Nat) (c : Case) : AV := .func (.func 102) [] [.mref B1 0, caseRef c, .ref [.func (.yield l) [] []], .mref B2 0]

theorem lent_ok {g : Nat} {F : Nat → Int} {o : List Int} (h : OrdAt F o) (hl : o.length = g) (hg : g ≤ 5) : LentOK (IL o) 0 1 g g (cl g F) := by
  subst hl
  refine ⟨?_, by rw [cl_len]; omega, Nat.le_refl _, by omega, cl_cell1 _ _, cl_erase _ _⟩
  rw [chunk_cl _ _ (by rw [cl_len]; exact Nat.le_refl _) (fun x hx => by unfold cl at hx; rw [List.mem_map] at hx; obtain ⟨i, _, rfl⟩ := hx; exact ⟨_, rfl⟩), cl_take, ordAt_cl h]
  rfl

/-- Whether the numbers of an order are told by bits. -/
def UsedBy (used : Nat) (o : List Int) : Prop := ∀ j : Nat, j < 5 → used.testBit j = decide ((j : Int) ∈ o)

theorem usedBy_snoc {used : Nat} {o : List Int} {j : Nat} (h : UsedBy used o) : UsedBy (used ||| 2 ^ j) (o ++ [(j : Int)]) := fun i hi => by
  rw [Nat.testBit_or, h i hi, Nat.testBit_two_pow]
  by_cases e : j = i
  · subst e; simp
  · have : ¬ (i : Int) = (j : Int) := by omega
    simp [e, this]

theorem next_ok {c : Case} (h : c.OK) {g : Nat} (hg : c.gath = g) {l B1 B2 D : Nat} (h12 : B1 ≠ B2) (h1D : B1 ≠ D) (h2D : B2 ≠ D) :
    ∀ (k : Nat) (o : List Int) (used : Nat) (rest : List (List Int)) (F : Nat → Int) (s : St) (K : AV → St → Prop), o.length + k = g → used < 32 → UsedBy used o → OrdAt F o →
      s.loc B1 = some [.mslice D 0 o.length g 1] → s.loc B2 = some [nextF l B1 B2 c] → s.loc D = some (cl g F) → s.env 1000000 = .ghost l ((dfs g k o ++ rest).map lentEl) false →
      (∀ s2 F2, OrdAt F2 o → s2.loc B1 = some [.mslice D 0 o.length g 1] → s2.loc B2 = some [nextF l B1 B2 c] → s2.loc D = some (cl g F2) → s2.env 1000000 = .ghost l (rest.map lentEl) false → K (B true) (back s s2)) →
      (∀ s2 r, s2.env 1000000 = .ghost l r true → K (B false) (back s s2)) →
      ICall Try.prog 102 [I used, .mref B1 0, caseRef c, .ref [.func (.yield l) [] []], .mref B2 0] s K
  | 0 => by
    intro o used rest F s K hlen hu hub hF l1 l2 lD eg hK1 hK2
    have hgath := h.gath
    refine icall Try.func102 tr102 rs102 fn102 (by simp [Try.ntmps102]) fun _ => ?_
    have hol : o.length = g := by omega
    have hLO := lent_ok hF hol (by omega)
    simp only [dfs, List.singleton_append, List.map_cons] at eg
    simp -implicitDefEqProofs [m102, l1, hg, hol, eg]
    refine ⟨D, 1, g, g, rfl, cl g F, lD, hLO, ?_, ?_⟩
    · simp -implicitDefEqProofs [resI, r102]
      exact hK1 _ F hF (by simp [l1, hol]) (by simp [l2]) (by simp [lD]) (by simp)
    · simp -implicitDefEqProofs [resI, r102]
      exact hK2 _ (rest.map lentEl) (by simp)
  | k + 1 => by
    intro o used rest F s K hlen hu hub hF l1 l2 lD eg hK1 hK2
    have hgath := h.gath
    refine icall Try.func102 tr102 rs102 fn102 (by simp [Try.ntmps102]) fun _ => ?_
    have hol : ((o.length : Int) == (g : Int)) = false := by simp; omega
    rw [← dfsR_zero] at eg
    simp -implicitDefEqProofs [m102, l1, hg, hol]
    refine loop_up g (fun j s => s.env 0 = I used ∧ s.env 1 = .mref B1 0 ∧ s.env 2 = caseRef c ∧ s.env 3 = .ref [.func (.yield l) [] []] ∧ s.env 4 = .mref B2 0 ∧ s.env 19 = I g ∧ s.env 20 = I j ∧
      s.loc B1 = some [.mslice D 0 o.length g 1] ∧ s.loc B2 = some [nextF l B1 B2 c] ∧ (∃ F, OrdAt F o ∧ s.loc D = some (cl g F)) ∧ s.env 1000000 = .ghost l ((dfsR g k o j ++ rest).map lentEl) false) ?_ ?_
    · have : ∃ F, OrdAt F o ∧ s.loc D = some (cl g F) := ⟨F, hF, lD⟩
      simp [l1, l2, eg, this]
    rintro j s hj ⟨e0, e1, e2, e3, e4, e19, e20, l1, l2, ⟨F, hF, lD⟩, eg⟩
    simp -implicitDefEqProofs [e19, e20]
    refine cond_dec (fun hlt => ?_) (fun hge => ?_)
    · have hlt : j < g := by omega
      have hb := bit_at (n := used) (i := j) (by omega)
      have hb : (bitI .and .i64 (Int.fdiv (used : Int) (2 ^ (min j (IntKind.bits .i64)))) 1 == 1) = used.testBit j := hb.resolve_right (by omega)
      simp -implicitDefEqProofs [e0, e20]
      rw [hb, hub j (by omega)]
      refine cond_bool (fun hin => ?_) (fun hin => ?_)
      · have hin : (j : Int) ∈ o := by simpa using hin
        rw [dfsR_in hlt hin] at eg
        simp -implicitDefEqProofs [e20]
        refine ⟨i64 (by omega) (by omega), round_ok hlt ?_⟩
        have : ∃ F, OrdAt F o ∧ s.loc D = some (cl g F) := ⟨F, hF, lD⟩
        simp [e0, e1, e2, e3, e4, e19, l1, l2, eg, this]
      · have hin : ¬ (j : Int) ∈ o := by simpa using hin
        rw [dfsR_out hlt hin] at eg
        have hog : o.length + 1 ≤ g := by omega
        have hsh := shl_pow (k := j) (by omega)
        have hj32 : 2 ^ j < 32 := Nat.pow_lt_pow_right (n := 5) (by omega) (by omega)
        have hor := or_32 used hu (2 ^ j) hj32
        rw [show ((2 ^ j : Nat) : Int) = (2 : Int) ^ j by simp] at hor hsh
        simp -implicitDefEqProofs [e0, e1, e4, l1, l2, lD, h1D, h12.symm, h2D, hog, cl_dem, cl_len, cl_set, hsh, hor]
        rw [List.append_assoc] at eg
        refine next_ok h hg h12 h1D h2D k (o ++ [(j : Int)]) (used ||| 2 ^ j) (dfsR g k o (j + 1) ++ rest) _ _ _ (by simp; omega) (Nat.or_lt_two_pow (n := 5) hu hj32) (usedBy_snoc hub) (ordAt_snoc hF) (by simp) (by simp [l2, h12.symm, h2D]) (by simp [h1D.symm]) (by simp [eg]) ?_ ?_
        · intro s2 F2 hF2 k1 k2 kD kg
          simp -implicitDefEqProofs [e1, e20, k1]
          refine ⟨i64 (by omega) (by omega), by omega, i64 (by omega) (by omega), round_ok hlt ?_⟩
          have : ∃ F, OrdAt F o ∧ cl g F2 = cl g F := ⟨F2, ordAt_left hF2, rfl⟩
          simp [e0, e1, e2, e3, e4, e19, k2, kD, kg, h12.symm, h1D.symm, this]
        · intro s2 r kg
          simp -implicitDefEqProofs [resI, r102]
          exact hK2 _ r (by simp [kg])
    · obtain rfl : j = g := by omega
      rw [dfsR_end] at eg
      simp -implicitDefEqProofs [resI, r102]
      exact hK1 _ F hF (by simp [l1]) (by simp [l2]) (by simp [lD]) (by simpa using eg)

theorem zeros_cl (n : Nat) : List.replicate n (I 0) = cl n fun _ => 0 := by
  apply List.ext_getElem (by simp [cl])
  intro i h1 h2
  rw [cl_at]; simp

abbrev ordersL (c : Case) : List (List Int) := allO c.gath.toNat c.gath.toNat

theorem orders101_ok {c : Case} (h : c.OK) : PSeq Try.prog 101 [] [caseRef c] ((ordersL c).map lentEl) := by
  have hgath := h.gath
  obtain ⟨g, hg⟩ : ∃ g : Nat, c.gath = g := ⟨c.gath.toNat, by omega⟩
  have hord : ordersL c = dfs g g [] ++ [] := by unfold ordersL; rw [hg, List.append_nil, dfs_whole]; rfl
  rw [hord]
  refine pseq Try.func101 tr101 rs101 fn101 (by simp [Try.ntmps101]) fun l hfit => ?_
  simp -implicitDefEqProofs [m101, hg]
  refine ⟨by omega, by omega, ?_⟩
  intro D B1 h1D B2 h2
  have h21 : ¬ B2 = B1 := by rintro rfl; simp at h2
  have h2D : ¬ B2 = D := by rintro rfl; simp [h21] at h2
  refine next_ok h hg (B1 := B1) (B2 := B2) (D := D) (fun e => h21 e.symm) h1D h2D g [] 0 [] (fun _ => 0) _ _ (by simp) (by omega) (fun j _ => by simp) (fun i hi => by simp at hi) ?_ ?_ ?_ ?_ ?_ ?_
  · have : ¬ B1 = B2 := fun e => h21 e.symm
    simp [this]
  · simp
  · have h3 : ¬ D = B1 := fun e => h1D e.symm
    have h4 : ¬ D = B2 := fun e => h2D e.symm
    simp [h3, h4, zeros_cl]
  · simp
  · intro s2 F2 _ _ _ _ kg
    simp [kg]
  · intro s2 r kg
    simp [kg]

/-- The orders' iterator. -/
theorem orders90_ok (c : Case) : PCall Try.prog 90 [encCase c] (.func (.func 101) [] [caseRef c]) := by
  refine pcall Try.func90 tr90 rs90 fn90 (by simp [Try.ntmps90]) fun _ => ?_
  simp -implicitDefEqProofs [m90, r90]
end Go.Proofs.Ytbcfmfiolbcclaa

namespace Go.Proofs.Ytbcfmfiolbcclaa
open Go.Avm

@[simp] theorem asg_mslice (s : St) (d b o l c z : Nat) : asgSt s d (.mslice b o l c z) = s.set d (.mslice b o l c z) := rfl
theorem chunk_len (sz : Nat) : ∀ (n : Nat) (cs : List AV), (chunk sz cs n).length = n
  | 0, _ => rfl
  | n + 1, cs => by unfold chunk; simp [chunk_len sz n]
theorem chunk1_get : ∀ (n : Nat) (cs : List AV) (i : Nat) (h : i < (chunk 1 cs n).length), (chunk 1 cs n)[i] = (cs.getD i .any).erase0
  | 0, _, _, h => by simp [chunk] at h
  | n + 1, cs, 0, h => by simp [chunk]
  | n + 1, cs, i + 1, h => by
    have := chunk1_get n (cs.drop 1) i (by simpa [chunk] using h)
    simp only [chunk, if_pos, List.getElem_cons_succ, this]
    congr 1
    simp

/-- What a lent row of numbers is. -/
theorem lent_row {x : AV} {o : List Int} {pos sz len cap : Nat} {cs : List AV} (hx : getAt x pos = IL o) (h : LentOK x pos sz len cap cs) :
    sz = 1 ∧ len = o.length ∧ o.length ≤ cs.length ∧ len ≤ cap ∧ ∀ i (hi : i < o.length), cs.getD i .any = I o[i] := by
  obtain ⟨h1, h2, h3, h4, h5, h6⟩ := h
  rw [hx] at h1
  injection h1 with e1 e2 e3
  subst e1
  have hl : o.length = len := by have := congrArg List.length e2; simpa [chunk_len] using this
  subst hl
  have h2 : o.length ≤ cs.length := by omega
  refine ⟨rfl, rfl, h2, h3, fun i hi => ?_⟩
  have hc := chunk1_get o.length cs i (by rw [chunk_len]; exact hi)
  have hic : i < cs.length := by omega
  have e6 : (cs.getD i .any).erase0 = cs.getD i .any := by
    have := congrArg (fun l => l.getD i .any) h6
    simpa [hic] using this
  rw [← e6, ← hc]
  have : (chunk 1 cs o.length)[i]'(by rw [chunk_len]; exact hi) = (o.map I)[i]'(by simpa using hi) := by simp only [← e2]
  rw [this]; simp

/-- A truth, as the program hands it over. -/
abbrev truthAV (c : Case) (p o : List Int) : AV := .agg (I p.sum :: I (used p 0 (c.run * c.gath)) :: I (maskQ c p 0) :: I (maskQ c p 1) :: I (maskQ c p 2) :: I (maskQ c p 3) :: I (maskQ c p 4) :: [IL o])
/-- The truths of a pile. -/
def truthsO (c : Case) (but : Nat) (p : List Int) (l : List (List Int)) : List AV := (l.filter (fitsB c but p)).map (truthAV c p)
def truthsP (c : Case) (but : Nat) (l : List (List Int)) : List AV := l.flatMap fun p => truthsO c but p (ordersL c)
abbrev truthEl (x : AV) : List AV := [x, Go.Avm.mark 8]

theorem truthsP_cons (c : Case) (but : Nat) (p : List Int) (l : List (List Int)) : truthsP c but (p :: l) = truthsO c but p (ordersL c) ++ truthsP c but l := rfl
theorem truthsO_t {c : Case} {but : Nat} {p o : List Int} {l : List (List Int)} (h : fitsB c but p o = true) : truthsO c but p (o :: l) = truthAV c p o :: truthsO c but p l := by simp [truthsO, h]
theorem truthsO_f {c : Case} {but : Nat} {p o : List Int} {l : List (List Int)} (h : fitsB c but p o = false) : truthsO c but p (o :: l) = truthsO c but p l := by simp [truthsO, h]

theorem maskQ_16 {c : Case} (h : c.OK) {p : List Int} (hp : PileOK c p) (k : Nat) : maskQ c p k < 16 := by
  unfold maskQ
  split
  · exact maskP_16 h hp k
  · omega

theorem truths93_ok {c : Case} (h : c.OK) {but : Nat} (hb : but < 256) : PSeq Try.prog 93 [] [caseRef c, .ref [I but]] ((truthsP c but (pilesP c)).map truthEl) := by
  have hgath := h.gath
  have hr4 := h.reams
  have hrg := run_gath h
  obtain ⟨g, hg⟩ : ∃ g : Nat, c.gath = g := ⟨c.gath.toNat, by omega⟩
  have hw := wants_ok h hb
  refine pseq Try.func93 tr93 rs93 fn93 (by simp [Try.ntmps93]) fun l hfit => ?_
  simp -implicitDefEqProofs [m93]
  refine vCall_of hw ?_
  simp -implicitDefEqProofs [cl_len, cl_cell1, cl_erase]
  intro b4
  refine vCall_of (piles88_ok c) ?_
  simp -implicitDefEqProofs
  refine range_of _ (fun k s => s.env 1 = caseRef c ∧ s.env 2 = .ref [I but] ∧ s.env 3 = .ref [.func (.yield l) [] []] ∧ s.env 4 = .ref (cl 5 fun g => (wantP c but g : Nat)) ∧
    s.env 1000000 = .ghost l ((truthsP c but ((pilesP c).drop k)).map truthEl) false) (piles100_ok h) ?_ ?_ ?_ ?_
  · intro y hy
    rw [List.mem_map] at hy
    obtain ⟨p, _, rfl⟩ := hy
    exact ⟨rfl, rfl⟩
  · simp
  · rintro k st hk - ⟨e1, e2, e3, e4, eg⟩
    have hk : k < (pilesP c).length := by simpa using hk
    have hp := pilesL_ok h ((mem_pilesP h).1 (List.getElem_mem hk))
    rw [drop_cons hk, truthsP_cons] at eg
    rw [show ((pilesP c).map pileAV).getD k [] = pileAV (pilesP c)[k] by simp [hk]]
    generalize (pilesP c)[k] = p at *
    generalize hrest : truthsP c but ((pilesP c).drop (k + 1)) = rest at *
    have c89 := places89_ok h hp
    simp -implicitDefEqProofs [cl_len, cl_cell1, cl_erase]
    intro b5 h5 b6 h6
    simp -implicitDefEqProofs [e1]
    refine vCall_of c89 ?_
    simp -implicitDefEqProofs [cl_len, cl_cell1, cl_erase]
    intro b7 h7 b8 h8
    simp -implicitDefEqProofs [e1]
    have hlen := hp.len
    refine loop_up c.reams.length (fun i s => s.env 1 = caseRef c ∧ s.env 2 = .ref [I but] ∧ s.env 3 = .ref [.func (.yield l) [] []] ∧ s.env 4 = .ref (cl 5 fun g => (wantP c but g : Nat)) ∧
      s.env 5 = .ref (pad4 p) ∧ s.env 6 = .ref [I p.sum] ∧ s.env 7 = .ref (cl 5 fun g => (maskQ c p g : Nat)) ∧ s.env 8 = .mref b8 0 ∧ s.loc b8 = some [I (used (p.take i) 0 (c.run * c.gath))] ∧ s.env 9 = I (p.take i).sum ∧
      s.env 26 = .slice 3 (c.reams.map encReam) 0 ∧ s.env 27 = I c.reams.length ∧ s.env 28 = I i ∧ s.env 1000000 = .ghost l ((truthsO c but p (ordersL c) ++ rest).map truthEl) false) ?_ ?_
    · simp [e1, e2, e3, e4, eg, used]
    rintro i s hi ⟨e1, e2, e3, e4, e5, e6, e7, e8, l8, e9, e26, e27, e28, eg⟩
    simp -implicitDefEqProofs [e27, e28]
    refine cond_dec (fun hlt => ?_) (fun hge => ?_)
    · have hir : i < c.reams.length := by omega
      have hip : i < p.length := by omega
      have hsum := hp.sum h i
      have hsum1 := hp.sum h (i + 1)
      have hs : (p.take i).sum + p[i] = (p.take (i + 1)).sum := by rw [take_snoc hip, List.sum_append]; simp
      have hpf : padF p i = p[i] := by simp [padF, hip]
      have hu := used_snoc p[i] (p.take i) 0 (c.run * c.gath)
      rw [← take_snoc hip, Int.zero_add] at hu
      have hul := used_le (p.take i) 0 (c.run * c.gath)
      have hl4 : (p.take i).length ≤ 4 := by simp; omega
      have hi4 : i < 4 := by omega
      have hrr := h.run
      by_cases hab : (p.take i).sum < c.run * c.gath
      · rw [if_pos hab] at hu
        simp -implicitDefEqProofs [e1, e5, e8, e9, e28, l8, hab, hi4, cl_len, cl_at, hpf, hs]
        refine ⟨i64 (by omega) (by omega), i64 (by omega) (by omega), by omega, by omega, i64 (by omega) (by omega), i64 (by omega) (by omega), round_ok hir ?_⟩
        simp [e1, e2, e3, e4, e5, e6, e7, e8, e26, e27, eg, hu]
      · rw [if_neg hab, Int.add_zero] at hu
        simp -implicitDefEqProofs [e1, e5, e9, e28, hab, hi4, cl_len, cl_at, hpf, hs]
        refine ⟨i64 (by omega) (by omega), by omega, by omega, i64 (by omega) (by omega), i64 (by omega) (by omega), round_ok hir ?_⟩
        simp [e1, e2, e3, e4, e5, e6, e7, e8, e26, e27, eg, hu, l8]
    · obtain rfl : i = c.reams.length := by omega
      rw [← hlen, List.take_length] at l8
      have q1 := e1; have q2 := e2; have q3 := e3; have q4 := e4; have q6 := e6; have q7 := e7; have q8 := e8
      simp -implicitDefEqProofs [e1]
      refine vCall_of (orders90_ok c) ?_
      simp -implicitDefEqProofs
      refine rangeL_of ((ordersL c).map IL) (fun j s => s.env 1 = caseRef c ∧ s.env 2 = .ref [I but] ∧ s.env 3 = .ref [.func (.yield l) [] []] ∧ s.env 4 = .ref (cl 5 fun g => (wantP c but g : Nat)) ∧
        s.env 6 = .ref [I p.sum] ∧ s.env 7 = .ref (cl 5 fun g => (maskQ c p g : Nat)) ∧ s.env 8 = .mref b8 0 ∧ s.loc b8 = some [I (used p 0 (c.run * c.gath))] ∧
        s.env 1000000 = .ghost l ((truthsO c but p ((ordersL c).drop j) ++ rest).map truthEl) false) ?_ ?_ ?_ ?_
      · have := orders101_ok h
        rw [List.map_map]
        exact this
      · simp [e1, e2, e3, e4, e6, e7, e8, l8, eg]
      · rintro j st2 hj - ⟨e1, e2, e3, e4, e6, e7, e8, l8, eg⟩ d sz len cap cs hd hLO
        have hj : j < (ordersL c).length := by simpa using hj
        have hoe := allO_each _ _ _ (List.getElem_mem hj)
        rw [drop_cons hj] at eg
        rw [show ((ordersL c).map IL).getD j .any = IL (ordersL c)[j] by simp [hj]] at hLO ⊢
        generalize (ordersL c)[j] = o at *
        obtain ⟨rfl, rfl, hcs, hcap, hat⟩ := lent_row rfl hLO
        have hbd : ¬ b8 = d := by rintro rfl; rw [l8] at hd; cases hd
        have hgn : c.gath.toNat = g := by omega
        rw [hgn] at hoe
        have hol := hoe.1
        obtain ⟨L, hL⟩ : ∃ L, L = truthsO c but p ((ordersL c).drop (j + 1)) := ⟨_, rfl⟩
        have ht := truthsO_t (c := c) (but := but) (p := p) (o := o) (l := (ordersL c).drop (j + 1))
        have hf := truthsO_f (c := c) (but := but) (p := p) (o := o) (l := (ordersL c).drop (j + 1))
        rw [← hL] at ht hf
        simp -implicitDefEqProofs [putAt]
        refine loop_up o.length (fun i s => s.env 1 = caseRef c ∧ s.env 2 = .ref [I but] ∧ s.env 3 = .ref [.func (.yield l) [] []] ∧ s.env 4 = .ref (cl 5 fun g => (wantP c but g : Nat)) ∧
          s.env 6 = .ref [I p.sum] ∧ s.env 7 = .ref (cl 5 fun g => (maskQ c p g : Nat)) ∧ s.env 8 = .mref b8 0 ∧ s.loc b8 = some [I (used p 0 (c.run * c.gath))] ∧ s.loc d = some cs ∧
          s.env 11 = .mslice d 0 o.length cap 1 ∧ s.env 51 = .mslice d 0 o.length cap 1 ∧ s.env 52 = I o.length ∧ s.env 53 = I i ∧ fitsUp c but p o i = true ∧
          s.env 1000000 = .ghost l ((truthsO c but p (o :: (ordersL c).drop (j + 1)) ++ rest).map truthEl) false) ?_ ?_
        · simp [e1, e2, e3, e4, e6, e7, e8, l8, hbd, eg, fitsUp]
        rintro i s hi ⟨e1, e2, e3, e4, e6, e7, e8, l8, ld, e11, e51, e52, e53, hfu, eg⟩
        simp -implicitDefEqProofs [e52, e53]
        refine cond_dec (fun hlt => ?_) (fun hge => ?_)
        · have hlt : i < o.length := by omega
          have hx := hoe.2.2 _ (List.getElem_mem hlt)
          have hai := hat i hlt
          have hic : i < cs.length := by omega
          have hai : cs[i] = I o[i] := by rw [← hai]; simp [hic]
          have hfs := fitsUp_succ c but p o i
          have hft := fitsUp_stop (c := c) (but := but) (pile := p) (order := o) hlt
          have h0 : o.getD i 0 = o[i] := by simp [hlt]
          rw [h0] at hfs hft
          have hmq : maskP c p i = maskQ c p i := by unfold maskQ; rw [if_pos (by omega)]
          rw [hmq] at hfs hft
          generalize o[i] = x at *
          obtain ⟨gx, rfl⟩ : ∃ gx : Nat, x = gx := ⟨x.toNat, by omega⟩
          rw [Int.toNat_natCast] at hfs hft
          have hgx5 : gx < 5 := by omega
          have hi5 : i < 5 := by omega
          have han := andNot_small _ (wantP_16 h but gx) _ (maskQ_16 h hp i)
          have hne : (bitI .andNot .i64 (wantP c but gx : Nat) (maskQ c p i : Nat) != 0) = !subB (wantP c but gx) (maskQ c p i) := by
            rw [← han]; rfl
          simp -implicitDefEqProofs [e4, e7, e51, e53, ld, hlt, hic, hai, hgx5, hi5, cl_len, cl_at, hne]
          refine ⟨by omega, by omega, by omega, by omega, ?_⟩
          refine cond_bool (fun hsb => ?_) (fun hsb => ?_)
          · have hsb : subB (wantP c but gx) (maskQ c p i) = false := by simpa using hsb
            rw [hf (hft hsb)] at eg
            simp -implicitDefEqProofs [q1, q2, q3, q4, q6, q7, q8, l8, ld, hbd, eg, hL]
          · have hsb : subB (wantP c but gx) (maskQ c p i) = true := by simpa using hsb
            rw [hfu, hsb] at hfs
            simp -implicitDefEqProofs [e53]
            refine ⟨i64 (by omega) (by omega), round_ok hlt ?_⟩
            simp [e1, e2, e3, e4, e6, e7, e8, l8, ld, e11, e51, e52, hfs, eg]
        · obtain rfl : i = o.length := by omega
          have ht := ht hfu
          rw [ht] at eg
          have e7' : s.env 7 = .ref [I (maskQ c p 0), I (maskQ c p 1), I (maskQ c p 2), I (maskQ c p 3), I (maskQ c p 4)] := e7
          simp -implicitDefEqProofs [e3, e6, e7', e8, e11, l8, eg, ld, q1, q2, q3, q4, q6, q7, q8, hbd, hL]
          refine ⟨d, 1, o.length, cap, rfl, cs, ld, hLO.1, hLO.2⟩
      · rintro st2 - ⟨e1, e2, e3, e4, e6, e7, e8, l8, eg⟩
        have : (ordersL c).drop ((ordersL c).map IL).length = [] := by simp
        rw [this] at eg
        simpa [truthsO] using eg
  · rintro st - ⟨e1, e2, e3, e4, eg⟩
    have : (pilesP c).drop ((pilesP c).map pileAV).length = [] := by simp
    rw [this] at eg
    exact ⟨[], .inl ⟨eg, rfl⟩⟩

/-- The truths' iterator. -/
theorem truths64_ok (c : Case) (but : Int) : PCall Try.prog 64 [encCase c, I but] (.func (.func 93) [] [caseRef c, .ref [I but]]) := by
  refine pcall Try.func64 tr64 rs64 fn64 (by simp [Try.ntmps64]) fun _ => ?_
  simp -implicitDefEqProofs [m64, r64]

/-- Where a number first stands in a list. -/
theorem index_ok (l : List Int) (x : Int) : PCall Try.prog 59 [IL l, I x] (I (at' l x)) := by
  refine pcall Try.func59 tr59 rs59 fn59 (by simp [Try.ntmps59]) fun hfit => ?_
  have hl : l.length ≤ 140737488355328 := by simpa using fits_len (hfit 0)
  simp -implicitDefEqProofs [m59]
  refine loop_up l.length (fun k s => s.env 0 = IL l ∧ s.env 1 = I x ∧ s.env 7 = I l.length ∧ s.env 8 = I k ∧ x ∉ l.take k) ?_ ?_
  · simp
  · rintro k s hk ⟨e0, e1, e7, e8, hno⟩
    simp -implicitDefEqProofs [e7, e8]
    refine cond_dec (fun hlt => ?_) (fun hge => ?_)
    · simp -implicitDefEqProofs [e0, e1, e8, hlt]
      refine cond_bool (fun he => ?_) (fun he => ?_)
      · have hc : at' l x = k := by
          have hx : l[k] = x := by have : x = l[k] := by simpa using he
                                   exact this.symm
          have : l.idxOf? x = some k := by
            rw [List.idxOf?_eq_some_iff]
            refine ⟨hlt, hx, fun j hj => ?_⟩
            intro e
            exact hno (List.mem_take_iff_getElem.2 ⟨j, by omega, e⟩)
          simp [at', this]
        simp -implicitDefEqProofs [r59, hc]
      · simp -implicitDefEqProofs [e8]
        refine ⟨i64 (by omega) (by omega), round_ok hlt ⟨by simp [e0], by simp [e1], by simp [e7], by simp, ?_⟩⟩
        have hne : ¬ x = l[k] := by simpa using he
        rw [take_snoc hlt, List.mem_append, List.mem_singleton]
        exact fun h => h.elim hno fun h => hne h
    · obtain rfl : k = l.length := by omega
      rw [List.take_length] at hno
      have hc : at' l x = -1 := by
        have : l.idxOf? x = none := by rw [List.idxOf?_eq_none_iff]; exact hno
        simp [at', this]
      simp -implicitDefEqProofs [r59, hc]
end Go.Proofs.Ytbcfmfiolbcclaa

namespace Go.Proofs.Ytbcfmfiolbcclaa
open Go.Avm

def vLookup (P : Program) (ms : List MOp) (K : St → Prop) (s : St) (d : Nat) (k : AV) (n : Option Nat) (ok : Bool) (zero : AV) : AV → Prop
  | .mapr b => ∃ es, s.env (oS + b) = mapAV es ∧ keyOK n k ∧ match keyAt k es 0 with
      | some (some i) => vcs P ms K (s.set d (if ok then .tuple [((es.getD i []).getD 1 .any), .lit (.bool true)] else ((es.getD i []).getD 1 .any).erase))
      | some none => vcs P ms K (s.set d (if ok then .tuple [zero, .lit (.bool false)] else zero.erase))
      | none => False
  | _ => False
theorem v_lookup (P : Program) (ms : List MOp) (K : St → Prop) (s : St) (d : Nat) (x k : MArg) (n : Option Nat) (ok : Bool) (zero : AV) : vcs P (.lookup d x k n ok zero :: ms) K s = vLookup P ms K s d (k.ev s.env).erase n ok zero (x.ev s.env) := by
  unfold vLookup; rfl
def vMapEnt (P : Program) (ms : List MOp) (K : St → Prop) (s : St) (d : Nat) (k : AV) (n : Option Nat) (zero : AV) : AV → Prop
  | .mapr b => ∃ es, s.env (oS + b) = mapAV es ∧ keyOK n k ∧ keyEq k k = some true ∧ match keyAt k es 0 with
      | some (some i) => vcs P ms K ((s.set (oS + b) (mapAV (es.set i [k, (es.getD i []).getD 1 .any]))).set d (.tuple [(es.getD i []).getD 1 .any, .lit (.int .i64 i)]))
      | some none => vcs P ms K ((s.set (oS + b) (mapAV (es ++ [[k, zero]]))).set d (.tuple [zero, .lit (.int .i64 es.length)]))
      | none => False
  | _ => False
theorem v_mapEnt (P : Program) (ms : List MOp) (K : St → Prop) (s : St) (d : Nat) (x k : MArg) (n : Option Nat) (zero : AV) : vcs P (.mapEnt d x k n zero :: ms) K s = vMapEnt P ms K s d (k.ev s.env).erase n zero (x.ev s.env) := by
  unfold vMapEnt; rfl
def vEntSt (P : Program) (ms : List MOp) (K : St → Prop) (s : St) (v : AV) : AV → AV → Prop
  | .mapr b, .lit (.int _ i) => ∃ es, s.env (oS + b) = mapAV es ∧ 0 ≤ i ∧ i < es.length ∧ vcs P ms K (s.set (oS + b) (mapAV (es.set i.toNat [(es.getD i.toNat []).getD 0 .any, v])))
  | _, _ => False
theorem v_entSt (P : Program) (ms : List MOp) (K : St → Prop) (s : St) (x st v : MArg) : vcs P (.entSt x st v :: ms) K s = vEntSt P ms K s (v.ev s.env).erase (x.ev s.env) (st.ev s.env) := by
  unfold vEntSt; rfl
def vEntM (P : Program) (ms : List MOp) (K : St → Prop) (s : St) (d : Nat) : AV → Prop
  | .mref r 0 => ∃ b seen i es, s.env (oS + r) = mitAV b es.length (seen ++ [i]) ∧ s.env (oS + b) = mapAV es ∧ i < es.length ∧ vcs P ms K (s.set d (.tuple [((es.getD i []).getD 0 .any).erase, ((es.getD i []).getD 1 .any).erase]))
  | _ => False
theorem v_entM (P : Program) (ms : List MOp) (K : St → Prop) (s : St) (d : Nat) (x : MArg) : vcs P (.entM d x :: ms) K s = vEntM P ms K s d (x.ev s.env) := by
  unfold vEntM; rfl
@[simp] theorem asg_mapr (s : St) (d b : Nat) : asgSt s d (.mapr b) = s.set d (.mapr b) := rfl
@[simp] theorem dem_mapr (r b : Nat) : demote r (.mapr b) = .mapr b := rfl
@[simp] theorem erase_mapr (b : Nat) : (AV.mapr b).erase = .mapr b := rfl
@[simp] theorem erase0_mapr (b : Nat) : (AV.mapr b).erase0 = .mapr b := rfl
@[simp] theorem cells_mapr (b : Nat) : (AV.mapr b).cells = [.mapr b] := rfl
attribute [simp] v_lookup v_mapEnt v_entSt v_entM

/-! ## The entries of the map -/
def eq5 (F G : Nat → Nat) : Bool := decide (F 0 = G 0 ∧ F 1 = G 1 ∧ F 2 = G 2 ∧ F 3 = G 3 ∧ F 4 = G 4)
theorem eq5_iff {F G : Nat → Nat} : eq5 F G = true ↔ ∀ i, i < 5 → F i = G i := by
  unfold eq5
  rw [decide_eq_true_eq]
  constructor
  · rintro ⟨h0, h1, h2, h3, h4⟩ i hi
    match i, hi with
    | 0, _ => exact h0
    | 1, _ => exact h1
    | 2, _ => exact h2
    | 3, _ => exact h3
    | 4, _ => exact h4
  · intro h
    exact ⟨h 0 (by omega), h 1 (by omega), h 2 (by omega), h 3 (by omega), h 4 (by omega)⟩
theorem eq5_refl (F : Nat → Nat) : eq5 F F = true := eq5_iff.2 fun _ _ => rfl
theorem eq5_symm {F G : Nat → Nat} (h : eq5 F G = true) : eq5 G F = true := eq5_iff.2 fun i hi => (eq5_iff.1 h i hi).symm
theorem eq5_trans {F G H : Nat → Nat} (h : eq5 F G = true) (h2 : eq5 G H = true) : eq5 F H = true := eq5_iff.2 fun i hi => (eq5_iff.1 h i hi).trans (eq5_iff.1 h2 i hi)

abbrev ent5 (q : (Nat → Nat) × Int) : List AV := [maskAV q.1, I q.2]
theorem keyEq5 (F G : Nat → Nat) : keyEq (maskAV F) (maskAV G) = some (eq5 F G) := by
  show eqCells (List.replicate 5 false) [I (F 0), I (F 1), I (F 2), I (F 3), I (F 4)] [I (G 0), I (G 1), I (G 2), I (G 3), I (G 4)] = _
  simp only [List.replicate, eqCells, if_true, Option.map_some]
  congr 1
  unfold eq5
  rw [Bool.eq_iff_iff]
  simp
  omega
theorem keyAt5 (F : Nat → Nat) : ∀ (ps : List ((Nat → Nat) × Int)) (i : Nat), keyAt (maskAV F) (ps.map ent5) i = some ((ps.findIdx? fun q => eq5 F q.1).map (· + i))
  | [], i => rfl
  | q :: ps, i => by
    rw [List.map_cons, keyAt, show (ent5 q).getD 0 AV.any = maskAV q.1 from rfl, keyEq5, List.findIdx?_cons]
    cases h : eq5 F q.1 with
    | true => simp
    | false =>
      simp only [Bool.false_eq_true, if_false]
      rw [keyAt5 F ps (i + 1), Option.map_map]
      congr 2
      funext j
      simp; omega

/-- What the map holds of some piles. -/
structure MapOK (c : Case) (l : List (List Int)) (ps : List ((Nat → Nat) × Int)) : Prop where
  key : ∀ q ∈ ps, (∃ p ∈ l, eq5 q.1 (maskQ c p) = true) ∧ 0 ≤ q.2 ∧ q.2 ≤ l.length
  all : ∀ p ∈ l, ∃ q ∈ ps, eq5 q.1 (maskQ c p) = true
  len : ps.length ≤ l.length

theorem mapOK_new {c : Case} {l : List (List Int)} {ps : List ((Nat → Nat) × Int)} (h : MapOK c l ps) (p : List Int) : MapOK c (l ++ [p]) (ps ++ [(maskQ c p, 1)]) := by
  refine ⟨fun q hq => ?_, fun p' hp' => ?_, by have := h.len; simp; omega⟩
  · rcases List.mem_append.1 hq with hq | hq
    · obtain ⟨⟨p', h1, h2⟩, h3, h4⟩ := h.key q hq
      exact ⟨⟨p', by simp [h1], h2⟩, h3, by simp; omega⟩
    · rw [List.mem_singleton] at hq
      subst hq
      exact ⟨⟨p, by simp, eq5_refl _⟩, by simp, by simp; omega⟩
  · rcases List.mem_append.1 hp' with hp' | hp'
    · obtain ⟨q, h1, h2⟩ := h.all p' hp'
      exact ⟨q, by simp [h1], h2⟩
    · rw [List.mem_singleton] at hp'
      subst hp'
      exact ⟨(maskQ c p', 1), by simp, eq5_refl _⟩

theorem mapOK_set {c : Case} {l : List (List Int)} {ps : List ((Nat → Nat) × Int)} (h : MapOK c l ps) {p : List Int} {i : Nat} (hi : i < ps.length) (he : eq5 (maskQ c p) ps[i].1 = true) :
    MapOK c (l ++ [p]) (ps.set i (maskQ c p, ps[i].2 + 1)) := by
  have hk := h.key _ (List.getElem_mem hi)
  refine ⟨fun q hq => ?_, fun p' hp' => ?_, by have := h.len; simp; omega⟩
  · rcases List.mem_or_eq_of_mem_set hq with hq | rfl
    · obtain ⟨⟨p', h1, h2⟩, h3, h4⟩ := h.key q hq
      exact ⟨⟨p', by simp [h1], h2⟩, h3, by simp; omega⟩
    · exact ⟨⟨p, by simp, eq5_refl _⟩, by simp; omega, by simp; omega⟩
  · have key : ∀ q ∈ ps, eq5 q.1 (maskQ c p') = true → ∃ q ∈ ps.set i (maskQ c p, ps[i].2 + 1), eq5 q.1 (maskQ c p') = true := by
      intro q h1 h2
      obtain ⟨j, hj, rfl⟩ := List.getElem_of_mem h1
      by_cases e : j = i
      · subst e
        exact ⟨_, List.mem_set hi _, eq5_trans he h2⟩
      · refine ⟨ps[j], ?_, h2⟩
        rw [List.mem_iff_getElem]
        exact ⟨j, by simpa using hj, by rw [List.getElem_set, if_neg (fun e' => e e'.symm)]⟩
    rcases List.mem_append.1 hp' with hp' | hp'
    · obtain ⟨q, h1, h2⟩ := h.all p' hp'
      exact key q h1 h2
    · rw [List.mem_singleton] at hp'
      subst hp'
      exact key _ (List.getElem_mem hi) (eq5_symm he)

/-- Whether an order fits what an entry says of the places. -/
def fitsE (c : Case) (F : Nat → Nat) (o : List Int) (k : Nat) : Bool := (List.range k).all fun p => subB (wantP c 0 (o.getD p 0).toNat) (F p)
theorem fitsE_succ (c : Case) (F : Nat → Nat) (o : List Int) (k : Nat) : fitsE c F o (k + 1) = (fitsE c F o k && subB (wantP c 0 (o.getD k 0).toNat) (F k)) := by
  simp [fitsE, List.range_succ]
theorem fitsE_pile {c : Case} (h : c.OK) {F : Nat → Nat} {p o : List Int} (he : eq5 F (maskQ c p) = true) (ho : o.length = c.gath.toNat) : fitsE c F o o.length = fitsB c 0 p o := by
  have hg := h.gath
  unfold fitsE fitsB fitsUp
  rw [Bool.eq_iff_iff]
  simp only [List.all_eq_true, List.mem_range]
  have e : ∀ k, k < o.length → F k = maskP c p k := fun k hk => by
    rw [eq5_iff.1 he k (by omega), maskQ, if_pos (by omega)]
  constructor
  · intro hf k hk; rw [← e k hk]; exact hf k hk
  · intro hf k hk; rw [e k hk]; exact hf k hk

/-- The orders that some pile fits. -/
def okO (c : Case) (o : List Int) : Bool := (pilesP c).any fun p => fitsB c 0 p o
def waysP (c : Case) : List (List Int) := (ordersL c).filter (okO c)

theorem okO_map {c : Case} (h : c.OK) {ps : List ((Nat → Nat) × Int)} (hm : MapOK c (pilesP c) ps) {o : List Int} (ho : o.length = c.gath.toNat) :
    okO c o = ps.any fun q => fitsE c q.1 o o.length := by
  unfold okO
  rw [Bool.eq_iff_iff]
  simp only [List.any_eq_true]
  constructor
  · rintro ⟨p, h1, h2⟩
    obtain ⟨q, h3, h4⟩ := hm.all p h1
    exact ⟨q, h3, by rw [fitsE_pile h h4 ho]; exact h2⟩
  · rintro ⟨q, h1, h2⟩
    obtain ⟨⟨p, h3, h4⟩, -⟩ := hm.key q h1
    exact ⟨p, h3, by rw [← fitsE_pile h h4 ho]; exact h2⟩

/-! ## What a range over a map has handed out -/
def left (n : Nat) (seen : List Nat) : Nat := ((List.range n).filter fun i => !seen.contains i).length
theorem left_lt {n i : Nat} {seen : List Nat} (hi : i < n) (hs : i ∉ seen) : left n (seen ++ [i]) < left n seen := by
  unfold left
  have e : (List.range n).filter (fun j => !(seen ++ [i]).contains j) = ((List.range n).filter fun j => !seen.contains j).filter fun j => !decide (j = i) := by
    rw [List.filter_filter]
    congr 1
    funext j
    rw [Bool.eq_iff_iff]
    simp [and_comm]
  rw [e, List.length_filter_lt_length_iff_exists]
  exact ⟨i, by simp [hi, hs], by simp⟩
theorem left_nil (n : Nat) : left n [] = n := by
  unfold left
  rw [List.filter_eq_self.2 (by simp)]
  simp
theorem left_le (n : Nat) (seen : List Nat) : left n seen ≤ n := by
  unfold left
  exact Nat.le_trans (List.length_filter_le _ _) (by simp)

theorem round_to {n : Nat} {I : Nat → St → Prop} {k k' : Nat} {s : St} (h : k < k') (hn : k' ≤ n) (hI : I k' s) : RoundOK n I k s := ⟨n - k', s, by omega, .refl s, k', hn, rfl, hI⟩

theorem oS_eq : oS = 1000001 := by simp [oS]

theorem vLookup_at {P : Program} {ms : List MOp} {K : St → Prop} {s : St} {d b : Nat} {F : Nat → Nat} {ps : List ((Nat → Nat) × Int)} (em : s.env (1000001 + b) = mapAV (ps.map ent5))
    (h1 : ∀ i (hi : i < ps.length), (ps.findIdx? fun q => eq5 F q.1) = some i → vcs P ms K (s.set d (I ps[i].2))) (h2 : (ps.findIdx? fun q => eq5 F q.1) = none → vcs P ms K (s.set d (I 0))) :
    vLookup P ms K s d (maskAV F) (some 5) false (I 0) (.mapr b) := by
  refine ⟨_, by rw [oS_eq]; exact em, cl_len _ _, ?_⟩
  rw [keyAt5]
  cases hf : ps.findIdx? fun q => eq5 F q.1 with
  | none => exact h2 hf
  | some i =>
    have hi : i < ps.length := (List.findIdx?_eq_some_iff_getElem.1 hf).1
    have := h1 i hi hf
    simpa [hi] using this
theorem vMapEnt_some {P : Program} {ms : List MOp} {K : St → Prop} {s : St} {d b i : Nat} {F : Nat → Nat} {ps : List ((Nat → Nat) × Int)} (em : s.env (1000001 + b) = mapAV (ps.map ent5))
    (hi : i < ps.length) (hf : (ps.findIdx? fun q => eq5 F q.1) = some i) (h : vcs P ms K ((s.set (1000001 + b) (mapAV ((ps.set i (F, ps[i].2)).map ent5))).set d (.tuple [I ps[i].2, I i]))) :
    vMapEnt P ms K s d (maskAV F) (some 5) (I 0) (.mapr b) := by
  refine ⟨_, by rw [oS_eq]; exact em, cl_len _ _, by rw [keyEq5, eq5_refl], ?_⟩
  rw [keyAt5, hf, oS_eq]
  simpa [hi, List.map_set] using h
theorem vMapEnt_none {P : Program} {ms : List MOp} {K : St → Prop} {s : St} {d b : Nat} {F : Nat → Nat} {ps : List ((Nat → Nat) × Int)} (em : s.env (1000001 + b) = mapAV (ps.map ent5))
    (hf : (ps.findIdx? fun q => eq5 F q.1) = none) (h : vcs P ms K ((s.set (1000001 + b) (mapAV ((ps ++ [(F, 0)]).map ent5))).set d (.tuple [I 0, I ps.length]))) :
    vMapEnt P ms K s d (maskAV F) (some 5) (I 0) (.mapr b) := by
  refine ⟨_, by rw [oS_eq]; exact em, cl_len _ _, by rw [keyEq5, eq5_refl], ?_⟩
  rw [keyAt5, hf, oS_eq]
  simpa using h
theorem vEntSt_at {P : Program} {ms : List MOp} {K : St → Prop} {s : St} {b i : Nat} {v : Int} {ps : List ((Nat → Nat) × Int)} (em : s.env (1000001 + b) = mapAV (ps.map ent5))
    (hi : i < ps.length) (h : vcs P ms K (s.set (1000001 + b) (mapAV ((ps.set i (ps[i].1, v)).map ent5)))) :
    vEntSt P ms K s (I v) (.mapr b) (I i) := by
  refine ⟨_, by rw [oS_eq]; exact em, by omega, by simp; omega, ?_⟩
  rw [oS_eq]
  simpa [hi, List.map_set] using h
end Go.Proofs.Ytbcfmfiolbcclaa

namespace Go.Proofs.Ytbcfmfiolbcclaa
open Go.Avm

theorem pilesP_len {c : Case} (h : c.OK) : (pilesP c).length ≤ 81 := by
  have := wides_81 h (Nat.le_refl c.reams.length)
  rw [List.take_length] at this
  unfold pilesP
  exact Nat.le_trans (List.length_filter_le _ _) (by simpa using this)

theorem dem_fixed {x : AV} (h : x.erase0 = x) (r : Nat) : demote r x = x := by
  cases x <;> first | rfl | skip
  rename_i sz xs q
  simp at h
  subst h
  simp
theorem dem_row {cs : List AV} (h : cs.map AV.erase0 = cs) (r : Nat) : cs.map (demote r) = cs := by
  have e : ∀ x ∈ cs, demote r x = x := fun x hx => by
    obtain ⟨i, hi, rfl⟩ := List.getElem_of_mem hx
    apply dem_fixed
    have := congrArg (fun l => l[i]?) h
    simpa [hi] using this
  calc cs.map (demote r) = cs.map id := List.map_congr_left e
    _ = cs := by simp
theorem dem_mapAV (r : Nat) (es : List (List AV)) : demote r (mapAV es) = mapAV es := rfl

theorem ways56_ok {c : Case} (h : c.OK) : PCall Try.prog 56 [encCase c] (ILL (waysP c)) := by
  refine pcall Try.func56 tr56 rs56 fn56 (by simp [Try.ntmps56]) fun _ => ?_
  have hgath := h.gath
  have hw : PCall Try.prog 87 [encCase c, I 0] (maskAV (wantP c 0)) := wants_ok h (but := 0) (by omega)
  simp -implicitDefEqProofs [m56]
  intro b2
  refine vCall_of hw ?_
  simp -implicitDefEqProofs [cl_len, cl_cell1, cl_erase]
  intro b3 h3 mb hm1 b4 h4
  refine vCall_of (piles88_ok c) ?_
  simp -implicitDefEqProofs
  refine range_of _ (fun k s => s.env 1 = caseRef c ∧ s.env 3 = .ref (cl 5 fun g => (wantP c 0 g : Nat)) ∧ s.env 4 = .ref [.mapr mb] ∧ s.env 2 = .mref b2 0 ∧ s.loc b2 = some [.slice 1 [] 3000] ∧
    ∃ ps, MapOK c ((pilesP c).take k) ps ∧ s.env (1000001 + mb) = mapAV (ps.map ent5)) (piles100_ok h) ?_ ?_ ?_ ?_
  · intro y hy
    rw [List.mem_map] at hy
    obtain ⟨p, _, rfl⟩ := hy
    exact ⟨rfl, rfl⟩
  · have : ∃ ps, MapOK c [] ps ∧ mapAV [] = mapAV (ps.map ent5) := ⟨[], ⟨by simp, by simp, by simp⟩, rfl⟩
    have h32 : ¬ b2 = b3 := fun e => h3 e.symm
    have h24 : ¬ b2 = b4 := by rintro rfl; simp [h32] at h4
    simp [this, h24, h32]
  · rintro k st hk - ⟨e1, e3, e4, e2, l2, ps, hps, em⟩
    have hk : k < (pilesP c).length := by simpa using hk
    have hp := pilesL_ok h ((mem_pilesP h).1 (List.getElem_mem hk))
    have htk := take_snoc hk
    rw [show ((pilesP c).map pileAV).getD k [] = pileAV (pilesP c)[k] by simp [hk]]
    generalize (pilesP c)[k] = p at *
    have c89 := places89_ok h hp
    simp -implicitDefEqProofs [cl_len, cl_cell1, cl_erase]
    intro b5 h5
    simp -implicitDefEqProofs [e1, e4]
    refine vCall_of c89 ?_
    have hlen := pilesP_len h
    have htl : ((pilesP c).take k).length ≤ 81 := by simp; omega
    simp -implicitDefEqProofs [cl_erase]
    refine vLookup_at (ps := ps) (by simp [em]) (fun i hi hf => ?_) (fun hf => ?_)
    · have hq := hps.key _ (List.getElem_mem hi)
      have he : eq5 (maskQ c p) ps[i].1 = true := (List.findIdx?_eq_some_iff_getElem.1 hf).2.1
      simp -implicitDefEqProofs
      refine ⟨i64 (by omega) (by omega), ?_⟩
      refine vMapEnt_some (ps := ps) (by simp [em]) hi hf ?_
      simp -implicitDefEqProofs
      refine vEntSt_at (ps := ps.set i (maskQ c p, ps[i].2)) (by simp) (by simpa using hi) ?_
      have e5 : (ps.set i (maskQ c p, ps[i].2)).set i ((ps.set i (maskQ c p, ps[i].2))[i]'(by simpa using hi) |>.1, ps[i].2 + 1) = ps.set i (maskQ c p, ps[i].2 + 1) := by simp
      rw [e5]
      have hn : ¬ b2 = b5 := by rintro rfl; rw [l2] at h5; cases h5
      have hps' := mapOK_set hps hi he
      rw [← htk] at hps'
      have : ∃ ps', MapOK c ((pilesP c).take (k + 1)) ps' ∧ mapAV ((ps.set i (maskQ c p, ps[i].2 + 1)).map ent5) = mapAV (ps'.map ent5) := ⟨_, hps', rfl⟩
      simp only [v_nil]
      refine ⟨?_, _, hps', ?_⟩
      · simp [l2, hn]
      · simp
    · simp -implicitDefEqProofs
      refine ⟨i64 (by omega) (by omega), ?_⟩
      refine vMapEnt_none (ps := ps) (by simp [em]) hf ?_
      simp -implicitDefEqProofs
      refine vEntSt_at (ps := ps ++ [(maskQ c p, 0)]) (by simp) (by simp) ?_
      have e5 : (ps ++ [(maskQ c p, 0)]).set ps.length (((ps ++ [(maskQ c p, 0)])[ps.length]'(by simp)).1, 1) = ps ++ [(maskQ c p, 1)] := by simp
      rw [e5]
      have hn : ¬ b2 = b5 := by rintro rfl; rw [l2] at h5; cases h5
      have hps' := mapOK_new hps p
      rw [← htk] at hps'
      simp only [v_nil]
      refine ⟨?_, _, hps', ?_⟩
      · simp [l2, hn]
      · simp
  · rintro st - ⟨e1, e3, e4, e2, l2, ps, hps, em⟩
    have hl : ((pilesP c).map pileAV).length = (pilesP c).length := by simp
    rw [hl, List.take_length] at hps
    simp -implicitDefEqProofs [e1]
    refine vCall_of (orders90_ok c) ?_
    simp -implicitDefEqProofs
    have q2 := e2; have q3 := e3; have q4 := e4
    refine rangeL_of ((ordersL c).map IL) (fun j s => s.env 3 = .ref (cl 5 fun g => (wantP c 0 g : Nat)) ∧ s.env 4 = .ref [.mapr mb] ∧ s.env 2 = .mref b2 0 ∧
      s.loc b2 = some [.slice 1 ((((ordersL c).take j).filter (okO c)).map IL) 3000] ∧ s.env (1000001 + mb) = mapAV (ps.map ent5)) ?_ ?_ ?_ ?_
    · have := orders101_ok h
      rw [List.map_map]
      exact this
    · simp [e2, e3, e4, l2, em]
    · rintro j st2 hj - ⟨e3, e4, e2, l2, em⟩ d sz len cap cs hd hLO
      have hj : j < (ordersL c).length := by simpa using hj
      have hoe := allO_each _ _ _ (List.getElem_mem hj)
      have htj := take_snoc hj
      rw [show ((ordersL c).map IL).getD j .any = IL (ordersL c)[j] by simp [hj]] at hLO ⊢
      generalize (ordersL c)[j] = o at *
      obtain ⟨rfl, rfl, hcs, hcap, hat⟩ := lent_row rfl hLO
      have hbd : ¬ b2 = d := by rintro rfl; rw [l2] at hd; cases hd
      have hol := hoe.1
      have hmap := okO_map h hps hol
      simp -implicitDefEqProofs [putAt, e4]
      refine ⟨_, em, fun r hr1 hr2 => ?_⟩
      have hrm : ¬ mb = r := by rintro rfl; simp [em, mapAV] at hr2
      obtain ⟨W, hW⟩ : ∃ W, W = ((ordersL c).take j).filter (okO c) := ⟨_, rfl⟩
      rw [← hW] at l2
      have hWl : W.length ≤ 3125 := by
        rw [hW]
        have hg := h.gath
        have h1 : (ordersL c).length ≤ _ := allO_len c.gath.toNat c.gath.toNat
        have h2 : c.gath.toNat ^ c.gath.toNat ≤ 5 ^ 5 := Nat.le_trans (Nat.pow_le_pow_left (show c.gath.toNat ≤ 5 by omega) _) (Nat.pow_le_pow_right (by omega) (by omega))
        refine Nat.le_trans (List.length_filter_le _ _) ?_
        simp only [List.length_take]
        omega
      have z3 := e3; have z2 := e2; have z4 := e4
      refine loop_up ps.length (fun k s => ∃ seen, k = ps.length - left ps.length seen ∧ (∀ i (hi : i < ps.length), i ∈ seen → fitsE c ps[i].1 o o.length = false) ∧ s.env (1000001 + r) = mitAV mb (ps.map ent5).length seen ∧
        s.env (1000001 + mb) = mapAV (ps.map ent5) ∧ s.env 31 = .mref r 0 ∧ s.env 6 = .mslice d 0 o.length cap 1 ∧ s.loc d = some cs ∧ s.loc b2 = some [.slice 1 (W.map IL) 3000] ∧ s.env 3 = .ref (cl 5 fun g => (wantP c 0 g : Nat)) ∧ s.env 2 = .mref b2 0) ?_ ?_
      · refine ⟨[], by rw [left_nil]; omega, fun i hi hs => (by cases hs), ?_⟩
        simp [hrm, em, e3, e2, l2, hbd]
      rintro k s hk ⟨seen, hkk, hseen, er, em, e31, e6, ld, l2, e3, e2⟩
      simp -implicitDefEqProofs [e31]
      refine ⟨mb, seen, ps.map ent5, er, em, fun i hi hs => ?_, fun hall => ?_⟩
      · have hi : i < ps.length := by simpa using hi
        have hfe := fitsE_succ c ps[i].1 o
        have hkey := hps.key _ (List.getElem_mem hi)
        have hlt := left_lt hi hs
        have hle := left_le ps.length seen
        have hany : ∀ b, fitsE c ps[i].1 o o.length = b → b = true → okO c o = true := fun b h1 h2 => by
          rw [hmap, List.any_eq_true]; exact ⟨_, List.getElem_mem hi, by rw [h1, h2]⟩
        refine ⟨mb, seen, i, ps.map ent5, by simp, by simp [hrm, em], by simpa using hi, ?_⟩
        rw [show ((ps.map ent5).getD i []).getD 0 .any = maskAV ps[i].1 by simp [hi]]
        rw [show ((ps.map ent5).getD i []).getD 1 .any = I ps[i].2 by simp [hi]]
        simp -implicitDefEqProofs [cl_len, cl_cell1, cl_erase]
        intro b7 h7
        have h7d : ¬ d = b7 := by rintro rfl; rw [ld] at h7; cases h7
        have h72 : ¬ b2 = b7 := by rintro rfl; rw [l2] at h7; cases h7
        simp -implicitDefEqProofs [e6]
        have hF16 : ∀ k, k < 5 → ps[i].1 k < 16 := fun k hk5 => by
          obtain ⟨⟨p, hp1, hp2⟩, -⟩ := hkey
          rw [eq5_iff.1 hp2 k hk5]
          exact maskQ_16 h (pilesL_ok h ((mem_pilesP h).1 hp1)) k
        generalize hFF : ps[i].1 = F at *
        generalize ps[i].2 = val at *
        obtain ⟨seen', hs'⟩ : ∃ x, x = seen ++ [i] := ⟨_, rfl⟩
        rw [← hs'] at hlt ⊢
        refine loop_up o.length (fun t s => s.env 6 = .mslice d 0 o.length cap 1 ∧ s.env 7 = .ref (cl 5 fun g => (F g : Nat)) ∧ s.env 8 = B (fitsE c F o t) ∧ s.env 36 = .mslice d 0 o.length cap 1 ∧ s.env 37 = I o.length ∧ s.env 38 = I t ∧
          s.env 31 = .mref r 0 ∧ s.env (1000001 + r) = mitAV mb (ps.map ent5).length seen' ∧ s.env (1000001 + mb) = mapAV (ps.map ent5) ∧ s.loc d = some cs ∧ s.loc b2 = some [.slice 1 (W.map IL) 3000] ∧ s.env 3 = .ref (cl 5 fun g => (wantP c 0 g : Nat)) ∧ s.env 2 = .mref b2 0) ?_ ?_
        · simp [e6, e31, em, ld, l2, e3, e2, h7d, h72, hrm, fitsE]
        rintro t s ht ⟨e6, e7, e8, e36, e37, e38, e31, er, em, ld, l2, e3, e2⟩
        simp -implicitDefEqProofs [e37, e38]
        refine cond_dec (fun hlt2 => ?_) (fun hge2 => ?_)
        · have hlt2 : t < o.length := by omega
          have hx := hoe.2.2 _ (List.getElem_mem hlt2)
          have hai := hat t hlt2
          have hic : t < cs.length := by omega
          have hai : cs[t] = I o[t] := by rw [← hai]; simp [hic]
          have hfs := hfe t
          have h0 : o.getD t 0 = o[t] := by simp [hlt2]
          rw [h0] at hfs
          generalize o[t] = x at *
          obtain ⟨gx, rfl⟩ : ∃ gx : Nat, x = gx := ⟨x.toNat, by omega⟩
          rw [Int.toNat_natCast] at hfs
          have hgx5 : gx < 5 := by omega
          have ht5 : t < 5 := by omega
          have han := andNot_small _ (wantP_16 h 0 gx) _ (hF16 t ht5)
          by_cases hft : fitsE c F o t = true
          · rw [hft] at e8
            rw [hft, Bool.true_and, ← han] at hfs
            simp -implicitDefEqProofs [e3, e7, e8, e36, e38, ld, hlt2, hic, hai, hgx5, ht5, cl_len, cl_at]
            refine ⟨by omega, by omega, by omega, by omega, i64 (by omega) (by omega), round_ok hlt2 ?_⟩
            simp [e2, e3, e6, e7, e36, e37, e31, er, em, ld, l2, hfs]
          · have hft : fitsE c F o t = false := by simpa using hft
            rw [hft] at e8
            rw [hft, Bool.false_and] at hfs
            simp -implicitDefEqProofs [e8, e36, e38, ld, hlt2, hic, hai]
            refine ⟨i64 (by omega) (by omega), round_ok hlt2 ?_⟩
            simp [e2, e3, e6, e7, e36, e37, e31, er, em, ld, l2, hfs]
        · obtain rfl : t = o.length := by omega
          simp -implicitDefEqProofs [e8]
          refine cond_bool (fun hfit => ?_) (fun hfit => ?_)
          · have hok : okO c o = true := hany _ rfl hfit
            rw [htj, List.filter_append, ← hW]
            have hcp : cs.take o.length = o.map I := by
              apply List.ext_getElem (by simp; omega)
              intro i h1 h2
              have hi2 : i < o.length := by simpa using h2
              have := hat i hi2
              have hic : i < cs.length := by omega
              rw [List.getElem_take, List.getElem_map, ← this]
              simp [hic]
            have hc1 : cs.all AV.cell1 = true := hLO.2.2.2.2.1
            simp -implicitDefEqProofs [e6, ld]
            refine ⟨by omega, by omega, fun D hD => ?_⟩
            have hdD : ¬ d = D := by rintro rfl; rw [ld] at hD; cases hD
            have hbD : ¬ b2 = D := by rintro rfl; rw [l2] at hD; cases hD
            have hsp : splice (List.replicate o.length (I 0)) 0 (List.take o.length (List.map AV.erase0 cs)) = o.map I := by
              rw [← List.map_take, hcp, splice_all _ _ _ (by simp)]
              simp
            have hch : chunk 1 (o.map I) o.length = o.map I := by
              rw [chunk_cl _ _ (by simp) (fun x hx => by rw [List.mem_map] at hx; obtain ⟨n, _, rfl⟩ := hx; exact ⟨n, rfl⟩)]
              exact List.take_of_length_le (by simp)
            have hc2 := hc1
            simp -implicitDefEqProofs only [List.all_eq_true, AV.cell1] at hc2
            have ho5 : o.length ≤ 5 := by omega
            have hdr := dem_row hLO.2.2.2.2.2
            have hbd' : ¬ d = b2 := fun e => hbd e.symm
            simp -implicitDefEqProofs [hdD, hbD, hbd, hbd', hsp, hch, upd, e2, l2, ld, em, dem_mapAV, hdr, q2, q3, q4, hok]
            exact ⟨hcs, fun x hx => hc2 x hx, by omega, by omega, by omega⟩
          · simp -implicitDefEqProofs
            refine round_to (k' := ps.length - left ps.length seen') (by omega) (by omega) ⟨seen', rfl, fun i' hi' hs => ?_, ?_⟩
            · rw [hs', List.mem_append, List.mem_singleton] at hs
              rcases hs with hs | rfl
              · exact hseen i' hi' hs
              · rw [hFF]; exact hfit
            · simp [er, em, e31, e6, ld, l2, e3, e2]
      · have hno : okO c o = false := by
          rw [hmap, List.any_eq_false]
          intro q hq
          obtain ⟨i, hi, rfl⟩ := List.getElem_of_mem hq
          rw [hseen i hi (hall i (by simpa using hi))]
          simp
        rw [htj, List.filter_append, ← hW]
        simp [ld, q2, q3, q4, hbd, l2, em, hno]
    · rintro st2 - ⟨e3, e4, e2, l2, em⟩
      have : ((ordersL c).map IL).length = (ordersL c).length := by simp
      rw [this, List.take_length] at l2
      simp -implicitDefEqProofs [e2, l2, r56]
      rfl
end Go.Proofs.Ytbcfmfiolbcclaa

namespace Go.Proofs.Ytbcfmfiolbcclaa
open Go.Avm

/-- The truths that agree: piles and orders. -/
def truO (c : Case) (but : Nat) (p : List Int) : List (List Int × List Int) := ((ordersL c).filter (fitsB c but p)).map fun o => (p, o)
def truL (c : Case) (but : Nat) : List (List Int × List Int) := (pilesP c).flatMap (truO c but)
theorem truthsP_map (c : Case) (but : Nat) : truthsP c but (pilesP c) = (truL c but).map fun x => truthAV c x.1 x.2 := by
  unfold truthsP truL truthsO
  rw [List.map_flatMap]
  congr 1
  funext p
  simp [truO]
theorem mem_truL {c : Case} {but : Nat} {x : List Int × List Int} : x ∈ truL c but ↔ x.1 ∈ pilesP c ∧ x.2 ∈ ordersL c ∧ fitsB c but x.1 x.2 = true := by
  obtain ⟨p, o⟩ := x
  simp only [truL, truO, List.mem_flatMap, List.mem_map, List.mem_filter, Prod.mk.injEq]
  constructor
  · rintro ⟨p', h1, o', ⟨h2, h3⟩, rfl, rfl⟩; exact ⟨h1, h2, h3⟩
  · rintro ⟨h1, h2, h3⟩; exact ⟨p, h1, o, ⟨h2, h3⟩, rfl, rfl⟩

theorem orders_all : ((List.range 6).all fun g => (allO g g).all fun o => (List.range g).all fun x => decide ((x : Int) ∈ o)) = true := by decide +kernel
theorem order_mem {c : Case} (h : c.OK) {o : List Int} (ho : o ∈ ordersL c) {x : Int} (hx : 0 ≤ x ∧ x < c.gath) : x ∈ o := by
  have hg := h.gath
  have h1 := List.all_eq_true.1 (List.all_eq_true.1 (List.all_eq_true.1 orders_all c.gath.toNat (by simp; omega)) o ho) x.toNat (by simp; omega)
  have h2 := of_decide_eq_true h1
  rwa [Int.toNat_of_nonneg hx.1] at h2
theorem at_mem {o : List Int} {x : Int} (h : x ∈ o) : ∃ k : Nat, ∃ hk : k < o.length, at' o x = k ∧ o[k] = x := by
  unfold at'
  cases hi : o.idxOf? x with
  | none => rw [List.idxOf?_eq_none_iff] at hi; exact absurd h hi
  | some k =>
    obtain ⟨h1, h2, -⟩ := List.idxOf?_eq_some_iff.1 hi
    exact ⟨k, h1, rfl, h2⟩

/-- The stocks of a gathering in a truth, as bits. -/
def ownM (c : Case) (g : Int) (x : List Int × List Int) : Nat := maskQ c x.1 (at' x.2 g).toNat
def mayM (c : Case) (g : Int) (l : List (List Int × List Int)) : Nat := l.foldl (fun a x => a ||| ownM c g x) 0
def sureM (c : Case) (g : Int) (l : List (List Int × List Int)) : Nat := l.foldl (fun a x => a &&& ownM c g x) 15
theorem mayM_snoc (c : Case) (g : Int) (l : List (List Int × List Int)) (x : List Int × List Int) : mayM c g (l ++ [x]) = mayM c g l ||| ownM c g x := by simp [mayM]
theorem sureM_snoc (c : Case) (g : Int) (l : List (List Int × List Int)) (x : List Int × List Int) : sureM c g (l ++ [x]) = sureM c g l &&& ownM c g x := by simp [sureM]

theorem fold_or_lt {f : List Int × List Int → Nat} : ∀ (l : List (List Int × List Int)) (a : Nat), a < 16 → (∀ x ∈ l, f x < 16) → l.foldl (fun a x => a ||| f x) a < 16
  | [], a, ha, _ => ha
  | x :: l, a, ha, hf => fold_or_lt l _ (Nat.or_lt_two_pow (n := 4) ha (hf x (by simp))) (fun y hy => hf y (by simp [hy]))
theorem fold_and_lt {f : List Int × List Int → Nat} : ∀ (l : List (List Int × List Int)) (a : Nat), a < 16 → l.foldl (fun a x => a &&& f x) a < 16
  | [], _, ha => ha
  | _ :: l, _, ha => fold_and_lt l _ (Nat.lt_of_le_of_lt Nat.and_le_left ha)
theorem sureM_16 (c : Case) (g : Int) (l : List (List Int × List Int)) : sureM c g l < 16 := fold_and_lt l 15 (by omega)

theorem truL_pile {c : Case} (h : c.OK) {but : Nat} {x : List Int × List Int} (hx : x ∈ truL c but) : PileOK c x.1 := pilesL_ok h ((mem_pilesP h).1 (mem_truL.1 hx).1)
theorem ownM_16 {c : Case} (h : c.OK) {but : Nat} (g : Int) {x : List Int × List Int} (hx : x ∈ truL c but) : ownM c g x < 16 := maskQ_16 h (truL_pile h hx) _
theorem mayM_16 {c : Case} (h : c.OK) {but : Nat} (g : Int) {l : List (List Int × List Int)} (hl : ∀ x ∈ l, x ∈ truL c but) : mayM c g l < 16 := fold_or_lt l 0 (by omega) fun x hx => ownM_16 h g (hl x hx)

theorem and15 : ∀ b : Nat, b < 16 → 15 &&& b = b := by decide +kernel

theorem lent_view {x : AV} {o : List Int} {pos sz len cap d : Nat} {cs : List AV} {loc : Nat → Option (List AV)} (hx : getAt x pos = IL o) (h : LentOK x pos sz len cap cs) (hl : loc d = some cs) : viewAV loc (.mslice d 0 len cap sz) = some (IL o) := by
  obtain ⟨h1, h2, h3, h4, h5, h6⟩ := h
  rw [hx] at h1
  simp only [viewAV, hl, List.drop_zero, Nat.zero_add, h2, h4, h5, decide_true, Bool.and_self, if_true, h1]

theorem views2 {x : AV} {o : List Int} {g : Int} {pos sz len cap d : Nat} {cs : List AV} {loc : Nat → Option (List AV)} (hx : getAt x pos = IL o) (h : LentOK x pos sz len cap cs) (hl : loc d = some cs) :
    viewsAV loc [.mslice d 0 len cap sz, I g] = some [IL o, I g] := by
  rw [viewsAV, lent_view hx h hl]
  rfl

theorem five_at (F : Nat → Int) (z : AV) : ∀ q : Nat, q < 5 → [I (F 0), I (F 1), I (F 2), I (F 3), I (F 4), z][q]? = some (I (F q))
  | 0, _ => rfl
  | 1, _ => rfl
  | 2, _ => rfl
  | 3, _ => rfl
  | 4, _ => rfl

def sureI (c : Case) (g : Int) (l : List (List Int × List Int)) : Int := if l = [] then -1 else (sureM c g l : Nat)
theorem sureI_snoc {c : Case} (g : Int) (l : List (List Int × List Int)) (x : List Int × List Int) (hx : ownM c g x < 16) :
    bitI .and .i64 (sureI c g l) (ownM c g x : Nat) = sureI c g (l ++ [x]) := by
  have e : sureI c g (l ++ [x]) = (sureM c g (l ++ [x]) : Nat) := if_neg (by simp)
  rw [e]
  unfold sureI
  by_cases hl : l = []
  · subst hl
    rw [if_pos rfl, and_all _ hx, List.nil_append]
    have : sureM c g [x] = 15 &&& ownM c g x := rfl
    rw [this, and15 _ hx]
  · rw [if_neg hl, and_small _ (sureM_16 c g l) _ hx, sureM_snoc]

/-- The stocks that a gathering has in all truths, those that it has in some, and whether one agrees. -/
abbrev stocksAV (c : Case) (g : Int) (l : List (List Int × List Int)) : AV := .tuple [I (sureI c g l), I (mayM c g l : Nat), B (decide (l ≠ []))]

theorem stocks60_ok {c : Case} (h : c.OK) {g : Int} (hg : 0 ≤ g ∧ g < c.gath) : PCall Try.prog 60 [encCase c, I g] (stocksAV c g (truL c 0)) := by
  refine pcall Try.func60 tr60 rs60 fn60 (by simp [Try.ntmps60]) fun _ => ?_
  have ht : PCall Try.prog 64 [encCase c, I 0] (.func (.func 93) [] [caseRef c, .ref [I 0]]) := truths64_ok c 0
  simp -implicitDefEqProofs [m60]
  intro b4 b5 h54 b6 h6
  have h65 : ¬ b6 = b5 := by rintro rfl; simp at h6
  have h64 : ¬ b6 = b4 := by rintro rfl; simp [h65] at h6
  have h46 : ¬ b4 = b6 := fun e => h64 e.symm
  have h45 : ¬ b4 = b5 := fun e => h54 e.symm
  have h56 : ¬ b5 = b6 := fun e => h65 e.symm
  simp -implicitDefEqProofs [h46]
  refine vCall_of ht ?_
  simp -implicitDefEqProofs
  refine rangeL_of ((truL c 0).map fun x => truthAV c x.1 x.2) (fun k s => s.env 2 = caseRef c ∧ s.env 3 = .ref [I g] ∧ s.env 4 = .mref b4 0 ∧ s.env 5 = .mref b5 0 ∧ s.env 6 = .mref b6 0 ∧
    s.loc b4 = some [I (sureI c g ((truL c 0).take k))] ∧ s.loc b5 = some [I (mayM c g ((truL c 0).take k) : Nat)] ∧ s.loc b6 = some [B (decide ((truL c 0).take k ≠ []))]) ?_ ?_ ?_ ?_
  · have := truths93_ok h (but := 0) (by omega)
    rw [truthsP_map] at this
    exact this
  · simp [h54, h56, h64, sureI, mayM]
  · rintro k st hk - ⟨e2, e3, e4, e5, e6, l4, l5, l6⟩ d sz len cap cs hd hLO
    have hk : k < (truL c 0).length := by simpa using hk
    have hm := List.getElem_mem hk
    have htk := take_snoc hk
    have hs := sureI_snoc (c := c) g ((truL c 0).take k) (truL c 0)[k] (ownM_16 h g hm)
    have hmy := mayM_snoc c g ((truL c 0).take k) (truL c 0)[k]
    have hor := or_small _ (mayM_16 h g (l := (truL c 0).take k) fun x hx => List.mem_of_mem_take hx) _ (ownM_16 h g hm)
    rw [← hmy] at hor
    rw [← htk] at hs hor
    rw [show ((truL c 0).map fun x => truthAV c x.1 x.2).getD k .any = truthAV c (truL c 0)[k].1 (truL c 0)[k].2 by simp [hk]] at hLO ⊢
    obtain ⟨z, hz⟩ : ∃ z, z = (truL c 0)[k] := ⟨_, rfl⟩
    rw [← hz] at hs hor hLO hm htk ⊢
    obtain ⟨p, o⟩ := z
    have hmm := mem_truL.1 hm
    obtain ⟨q, hq1, hq2, hq3⟩ := at_mem (order_mem h hmm.2.1 hg)
    have hoe := (allO_each _ _ _ hmm.2.1).1
    have hgg := h.gath
    simp only at hq1 hq2 hq3 hoe
    have h4d : ¬ b4 = d := by rintro rfl; rw [l4] at hd; cases hd
    have h5d : ¬ b5 = d := by rintro rfl; rw [l5] at hd; cases hd
    have h6d : ¬ b6 = d := by rintro rfl; rw [l6] at hd; cases hd
    simp -implicitDefEqProofs [putAt]
    intro b7 h7
    have h7d : ¬ b7 = d := by rintro rfl; simp at h7
    have hd7 : ¬ d = b7 := fun e => h7d e.symm
    have h47 : ¬ b4 = b7 := by rintro rfl; simp [h4d, l4] at h7
    have h57 : ¬ b5 = b7 := by rintro rfl; simp [h5d, l5] at h7
    have h67 : ¬ b6 = b7 := by rintro rfl; simp [h6d, l6] at h7
    have hc5 := index_ok o g
    rw [hq2] at hc5
    have hq5 : q < 5 := by omega
    simp -implicitDefEqProofs [e3]
    refine callL_of (ys := [IL o, I g]) (u := .int .i64 q) ?_ rfl hc5 ?_
    · simp -implicitDefEqProofs
      exact views2 rfl hLO (by simp [hd7])
    have hown : [I (maskQ c p 0 : Nat), I (maskQ c p 1 : Nat), I (maskQ c p 2 : Nat), I (maskQ c p 3 : Nat), I (maskQ c p 4 : Nat), AV.mslice d 0 len cap sz][q]? = some (I (ownM c g (p, o) : Nat)) := by
      unfold ownM
      rw [hq2, Int.toNat_natCast]
      exact five_at (fun i => (maskQ c p i : Nat)) _ q hq5
    simp -implicitDefEqProofs [e4, e5, e6, l4, l5, l6, h4d, h5d, h6d, h47, h57, h67, h46, h45, h54, h56, h64, h65, hown, hor, hs]
    have hne : ¬ truL c 0 = [] := List.ne_nil_of_mem hm
    have hdb : ¬ d = b6 ∧ ¬ d = b5 ∧ ¬ d = b4 := ⟨fun e => h6d e.symm, fun e => h5d e.symm, fun e => h4d e.symm⟩
    simp [hdb, hd7, hne]
    omega
  · rintro st - ⟨e2, e3, e4, e5, e6, l4, l5, l6⟩
    have hl : ((truL c 0).map fun x => truthAV c x.1 x.2).length = (truL c 0).length := by simp
    rw [hl, List.take_length] at l4 l5 l6
    simp -implicitDefEqProofs [e4, e5, e6, l4, l5, l6, h46, h45, h54, h56, h64, h65, r60]
end Go.Proofs.Ytbcfmfiolbcclaa

namespace Go.Proofs.Ytbcfmfiolbcclaa
open Go.Avm

/-- The least and the greatest of some numbers, and how many these are. -/
structure Ends where
  lo : Int
  hi : Int
  met : Nat
def Ends.add (e : Ends) (n : Int) : Ends := if e.met = 0 then ⟨n, n, 1⟩ else ⟨min e.lo n, max e.hi n, e.met + 1⟩
abbrev Ends.cs (e : Ends) : List AV := [I e.lo, I e.hi, I e.met]

theorem add63_ok {s : St} {K : AV → St → Prop} {b : Nat} {e : Ends} {n : Int} (hl : s.loc b = some e.cs) (hm : e.met < 1000000)
    (hK : ∀ s2, s2.loc b = some (e.add n).cs → (∀ c, c ≠ b → s2.loc c = s.loc c) → (∀ k, 1000000 ≤ k → s2.env k = s.env k) → K (.tuple []) (back s s2)) :
    ICall Try.prog 63 [.mref b 0, I n] s K := by
  refine icall Try.func63 tr63 rs63 fn63 (by simp [Try.ntmps63]) fun _ => ?_
  obtain ⟨lo, hi, met⟩ := e
  simp only at hl hm hK
  have key : ∀ k, 1000000 ≤ k → ∀ j, j < 100 → ¬ k = j := fun k hk j hj => by omega
  by_cases h0 : met = 0
  · subst h0
    simp -implicitDefEqProofs [m63, hl]
    refine ⟨i64 (by omega) (by omega), ?_⟩
    simp -implicitDefEqProofs [resI, r63]
    refine hK _ ?_ ?_ ?_
    · simp [Ends.add]
    · intro c hc; simp [hc]
    · intro k hk
      simp [hk, key k hk]
  · have h1 : ((met : Int) + 1 == 1) = false := by simp; omega
    simp -implicitDefEqProofs [m63, hl, h1]
    refine ⟨i64 (by omega) (by omega), ?_⟩
    simp -implicitDefEqProofs [resI, r63]
    refine hK _ ?_ ?_ ?_
    · simp [Ends.add, h0]
      omega
    · intro c hc; simp [hc]
    · intro k hk
      simp [hk, key k hk]
theorem add68_ok {s : St} {K : AV → St → Prop} {b : Nat} {e : Ends} {n : Int} (hl : s.loc b = some e.cs) (hm : e.met < 1000000)
    (hK : ∀ s2, s2.loc b = some (e.add n).cs → (∀ c, c ≠ b → s2.loc c = s.loc c) → (∀ k, 1000000 ≤ k → s2.env k = s.env k) → K (.tuple []) (back s s2)) :
    ICall Try.prog 68 [.mref b 0, I n] s K := by
  refine icall Try.func68 tr68 rs68 fn68 (by simp [Try.ntmps68]) fun _ => ?_
  obtain ⟨lo, hi, met⟩ := e
  simp only at hl hm hK
  have key : ∀ k, 1000000 ≤ k → ∀ j, j < 100 → ¬ k = j := fun k hk j hj => by omega
  by_cases h0 : met = 0
  · subst h0
    simp -implicitDefEqProofs [m68, hl]
    refine ⟨i64 (by omega) (by omega), ?_⟩
    simp -implicitDefEqProofs [resI, r68]
    refine hK _ ?_ ?_ ?_
    · simp [Ends.add]
    · intro c hc; simp [hc]
    · intro k hk
      simp [hk, key k hk]
  · have h1 : ((met : Int) + 1 == 1) = false := by simp; omega
    simp -implicitDefEqProofs [m68, hl, h1]
    refine ⟨i64 (by omega) (by omega), ?_⟩
    simp -implicitDefEqProofs [resI, r68]
    refine hK _ ?_ ?_ ?_
    · simp [Ends.add, h0]
      omega
    · intro c hc; simp [hc]
    · intro k hk
      simp [hk, key k hk]
theorem span65_ok {s : St} {K : AV → St → Prop} {b : Nat} {e : Ends} (hl : s.loc b = some e.cs)
    (hK : ∀ s2, (∀ c, s.loc c ≠ none → s2.loc c = s.loc c) → (∀ k, 1000000 ≤ k → s2.env k = s.env k) → K (Span2 e.lo e.hi) (back s s2)) :
    ICall Try.prog 65 [.mref b 0] s K := by
  refine icall Try.func65 tr65 rs65 fn65 (by simp [Try.ntmps65]) fun _ => ?_
  have key : ∀ k, 1000000 ≤ k → ∀ j, j < 100 → ¬ k = j := fun k hk j hj => by omega
  obtain ⟨lo, hi, met⟩ := e
  simp only at hl hK
  simp -implicitDefEqProofs [m65]
  intro b2 hb2
  have hne : ¬ b = b2 := by rintro rfl; rw [hl] at hb2; cases hb2
  simp -implicitDefEqProofs [hne, hl, resI, r65]
  refine hK _ ?_ ?_
  · intro c hc
    have : ¬ c = b2 := by rintro rfl; exact hc hb2
    simp [this]
  · intro k hk
    simp [hk, key k hk]
theorem span69_ok {s : St} {K : AV → St → Prop} {b : Nat} {e : Ends} (hl : s.loc b = some e.cs)
    (hK : ∀ s2, (∀ c, s.loc c ≠ none → s2.loc c = s.loc c) → (∀ k, 1000000 ≤ k → s2.env k = s.env k) → K (Span2 e.lo e.hi) (back s s2)) :
    ICall Try.prog 69 [.mref b 0] s K := by
  refine icall Try.func69 tr69 rs69 fn69 (by simp [Try.ntmps69]) fun _ => ?_
  have key : ∀ k, 1000000 ≤ k → ∀ j, j < 100 → ¬ k = j := fun k hk j hj => by omega
  obtain ⟨lo, hi, met⟩ := e
  simp only at hl hK
  simp -implicitDefEqProofs [m69]
  intro b2 hb2
  have hne : ¬ b = b2 := by rintro rfl; rw [hl] at hb2; cases hb2
  simp -implicitDefEqProofs [hne, hl, resI, r69]
  refine hK _ ?_ ?_
  · intro c hc
    have : ¬ c = b2 := by rintro rfl; exact hc hb2
    simp [this]
  · intro k hk
    simp [hk, key k hk]

def vIsNil (P : Program) (ms : List MOp) (K : St → Prop) (s : St) (d : Nat) (neg : Bool) : AV → Prop
  | .slice _ xs _ => (xs = [] → vcs P ms K (s.set d (.lit (.bool (!neg))))) ∧ vcs P ms K (s.set d (.lit (.bool neg)))
  | .mslice _ _ _ _ _ => vcs P ms K (s.set d (.lit (.bool neg)))
  | _ => False
theorem v_isNil (P : Program) (ms : List MOp) (K : St → Prop) (s : St) (d : Nat) (neg : Bool) (x : MArg) : vcs P (.isNil d neg x :: ms) K s = vIsNil P ms K s d neg (x.ev s.env) := by
  unfold vIsNil; rfl
attribute [simp] v_isNil vIsNil

theorem clone75_ok {s : St} {K : AV → St → Prop} {l : List (Int × Int)} (hl : l.length ≤ 9)
    (hK : ∀ s2, (∀ c cs, s.loc c = some cs → cs.map AV.erase0 = cs → s2.loc c = some cs) → K (.slice 2 (l.map encSeen) 3) (back s s2)) :
    ICall Try.prog 75 [.slice 2 (l.map encSeen) 0] s K := by
  refine icall Try.func75 tr75 rs75 fn75 (by simp [Try.ntmps75]) fun _ => ?_
  simp -implicitDefEqProofs [m75]
  refine ⟨fun hn => ?_, by omega, by omega, ?_⟩
  · subst hn
    simp -implicitDefEqProofs [resI, r75]
    refine hK _ fun c cs hc he => ?_
    simp [hc, dem_row he]
  · simp -implicitDefEqProofs [resI, r75]
    refine hK _ fun c cs hc he => ?_
    simp [hc, dem_row he]
end Go.Proofs.Ytbcfmfiolbcclaa

namespace Go.Proofs.Ytbcfmfiolbcclaa
open Go.Avm

abbrev errE (c : Case) : Int := (checkS c).2.2
theorem err_ok {c : Case} (h : errE c = 0) : c.OK := (checkS_zero h).1

def ordersS (c : Case) : List (List Int) × Int := if errE c ≠ 0 then ([], errE c) else if waysP c = [] then ([], 8) else (waysP c, 0)

theorem orders17_ok (c : Case) : PCall Try.prog 17 [encCase c] (.tuple [ILL (ordersS c).1, I (ordersS c).2]) := by
  refine pcall Try.func17 tr17 rs17 fn17 (by simp [Try.ntmps17]) fun _ => ?_
  have he := enter_ok c
  have hw : errE c = 0 → PCall Try.prog 56 [encCase c] (ILL (waysP c)) := fun e => ways56_ok (err_ok e)
  have hR : ordersS c = if errE c ≠ 0 then ([], errE c) else if waysP c = [] then ([], 8) else (waysP c, 0) := rfl
  obtain ⟨E, hE⟩ : ∃ E, E = errE c := ⟨_, rfl⟩
  rw [← hE] at hw hR
  rw [show (checkS c).2.2 = E from hE.symm] at he
  simp -implicitDefEqProofs [m17]
  refine vCall_of he ?_
  simp -implicitDefEqProofs
  intro b
  refine cond_bool (fun h => ?_) (fun h => ?_)
  · have h : ¬ E = 0 := by simpa using h
    rw [if_pos h] at hR
    simp -implicitDefEqProofs [r17, hR]
  · have h : E = 0 := by simpa using h
    subst h
    rw [if_neg (by simp)] at hR
    have hw := hw rfl
    simp -implicitDefEqProofs
    refine vCall_of hw ?_
    by_cases hz : waysP c = []
    · rw [if_pos hz] at hR
      simp -implicitDefEqProofs [r17, hR, hz]
    · rw [if_neg hz] at hR
      have hz' : (((waysP c).length : Int) == 0) = false := by
        have := List.length_pos_iff.2 hz
        simp; exact hz
      simp -implicitDefEqProofs [r17, hR, hz']

/-- In how many orders a comes before b. -/
def befN (a b : Int) (l : List (List Int)) : Nat := (l.filter fun o => decide (at' o a < at' o b)).length
theorem befN_snoc (a b : Int) (l : List (List Int)) (o : List Int) : befN a b (l ++ [o]) = befN a b l + if at' o a < at' o b then 1 else 0 := by
  unfold befN
  rw [List.filter_append, List.length_append]
  by_cases h : at' o a < at' o b <;> simp [h]
theorem befN_le (a b : Int) (l : List (List Int)) : befN a b l ≤ l.length := List.length_filter_le _ _

def beforeL (a b : Int) (l : List (List Int)) : Int × Int := if l = [] then (0, 8) else if befN a b l = l.length then (1, 0) else if befN a b l = 0 then (2, 0) else (0, 0)
def beforeS (c : Case) (a b : Int) : Int × Int := if errE c ≠ 0 then (0, errE c) else if out 0 (c.gath - 1) [a, b] = true then (0, 4) else if a = b then (0, 2) else beforeL a b (waysP c)

theorem waysP_len {c : Case} (h : c.OK) : (waysP c).length ≤ 3125 := by
  have hg := h.gath
  have h1 : (ordersL c).length ≤ _ := allO_len c.gath.toNat c.gath.toNat
  have h2 : c.gath.toNat ^ c.gath.toNat ≤ 5 ^ 5 := Nat.le_trans (Nat.pow_le_pow_left (show c.gath.toNat ≤ 5 by omega) _) (Nat.pow_le_pow_right (by omega) (by omega))
  have h3 : (waysP c).length ≤ (ordersL c).length := List.length_filter_le _ _
  omega

theorem before20_ok (c : Case) (x y : Int) : PCall Try.prog 20 [encCase c, I x, I y] (.tuple [I (beforeS c x y).1, I (beforeS c x y).2]) := by
  refine pcall Try.func20 tr20 rs20 fn20 (by simp [Try.ntmps20]) fun _ => ?_
  have he := enter_ok c
  have hw : errE c = 0 → PCall Try.prog 56 [encCase c] (ILL (waysP c)) := fun e => ways56_ok (err_ok e)
  have hwl : errE c = 0 → (waysP c).length ≤ 3125 := fun e => waysP_len (err_ok e)
  have hgg : errE c = 0 → 1 ≤ c.gath ∧ c.gath ≤ 5 := fun e => (err_ok e).gath
  have ho := outside_ok 0 (c.gath - 1) [x, y]
  have hR : beforeS c x y = if errE c ≠ 0 then (0, errE c) else if out 0 (c.gath - 1) [x, y] = true then (0, 4) else if x = y then (0, 2) else beforeL x y (waysP c) := rfl
  obtain ⟨E, hE⟩ : ∃ E, E = errE c := ⟨_, rfl⟩
  rw [← hE] at hw hR hwl hgg
  rw [show (checkS c).2.2 = E from hE.symm] at he
  generalize out 0 (c.gath - 1) [x, y] = o at *
  simp -implicitDefEqProofs [m20]
  refine vCall_of he ?_
  simp -implicitDefEqProofs
  intro b
  refine cond_bool (fun h => ?_) (fun h => ?_)
  · have h : ¬ E = 0 := by simpa using h
    rw [if_pos h] at hR
    simp -implicitDefEqProofs [r20, hR]
  have h : E = 0 := by simpa using h
  subst h
  rw [if_neg (by simp)] at hR
  have hw := hw rfl
  have hwl := hwl rfl
  have hgg := hgg rfl
  simp -implicitDefEqProofs
  refine ⟨i64 (by omega) (by omega), ?_⟩
  refine vCall_of ho ?_
  cases o with
  | true =>
    rw [if_pos rfl] at hR
    simp -implicitDefEqProofs [r20, hR]
  | false =>
  rw [if_neg (by simp)] at hR
  simp -implicitDefEqProofs
  by_cases hxy : x = y
  · rw [if_pos hxy] at hR
    subst hxy
    simp -implicitDefEqProofs [r20, hR]
  rw [if_neg hxy] at hR
  have hxy' : (x == y) = false := by simpa using hxy
  simp -implicitDefEqProofs [hxy']
  refine vCall_of hw ?_
  simp -implicitDefEqProofs
  refine loop_up (waysP c).length (fun k s => s.env 1 = I x ∧ s.env 2 = I y ∧ s.env 10 = ILL (waysP c) ∧ s.env 11 = I (befN x y ((waysP c).take k)) ∧ s.env 37 = ILL (waysP c) ∧ s.env 38 = I (waysP c).length ∧ s.env 39 = I k) ?_ ?_
  · simp [befN]
  rintro k s hk ⟨e1, e2, e10, e11, e37, e38, e39⟩
  simp -implicitDefEqProofs [e38, e39]
  refine cond_dec (fun hlt => ?_) (fun hge => ?_)
  · have hlt : k < (waysP c).length := by omega
    have hb := befN_snoc x y ((waysP c).take k) (waysP c)[k]
    rw [← take_snoc hlt] at hb
    have hbl := befN_le x y ((waysP c).take k)
    have hbt : ((waysP c).take k).length ≤ 3125 := by simp; omega
    generalize hoo : (waysP c)[k] = o at *
    have i1 := index_ok o x
    have i2 := index_ok o y
    simp -implicitDefEqProofs [e1, e37, e39, hlt, hoo]
    refine vCall_of i1 ?_
    simp -implicitDefEqProofs [e2]
    refine vCall_of i2 ?_
    by_cases hlt2 : at' o x < at' o y
    · rw [if_pos hlt2] at hb
      simp -implicitDefEqProofs [e11, e39, hlt2]
      refine ⟨i64 (by omega) (by omega), i64 (by omega) (by omega), round_ok hlt ?_⟩
      simp [e1, e2, e10, e37, e38, hb]
    · rw [if_neg hlt2] at hb
      simp -implicitDefEqProofs [e39, hlt2]
      refine ⟨i64 (by omega) (by omega), round_ok hlt ?_⟩
      simp [e1, e2, e10, e11, e37, e38, hb]
  · obtain rfl : k = (waysP c).length := by omega
    rw [List.take_length] at e11
    have hbl := befN_le x y (waysP c)
    unfold beforeL at hR
    by_cases hz : waysP c = []
    · rw [if_pos hz] at hR
      simp -implicitDefEqProofs [e10, hz, r20, hR]
    rw [if_neg hz] at hR
    have hz2 : ¬ (waysP c).length = 0 := by simpa using hz
    have hz' : (((waysP c).length : Int) == 0) = false := by simp; exact hz
    by_cases h1 : befN x y (waysP c) = (waysP c).length
    · rw [if_pos h1] at hR
      simp -implicitDefEqProofs [e10, e11, hz', h1, r20, hR]
    rw [if_neg h1] at hR
    have h1' : ((befN x y (waysP c) : Int) == ((waysP c).length : Int)) = false := by simp; omega
    by_cases h2 : befN x y (waysP c) = 0
    · rw [if_pos h2] at hR
      rw [h2] at e11 h1'
      have h1'' : ((0 : Int) == ((waysP c).length : Int)) = false := h1'
      simp -implicitDefEqProofs [e10, e11, hz', h1'', r20, hR]
    · rw [if_neg h2] at hR
      have h2' : ((befN x y (waysP c) : Int) == 0) = false := by simp; omega
      simp -implicitDefEqProofs [e10, e11, hz', h1', h2', r20, hR]

def stocksS (c : Case) (g : Int) : List Int × List Int × Int :=
  if errE c ≠ 0 then ([], [], errE c) else if out 0 (c.gath - 1) [g] = true then ([], [], 4) else if truL c 0 = [] then ([], [], 8) else (bitsL (sureM c g (truL c 0)), bitsL (mayM c g (truL c 0)), 0)

theorem stocks23_ok (c : Case) (g : Int) : PCall Try.prog 23 [encCase c, I g] (.tuple [IL (stocksS c g).1, IL (stocksS c g).2.1, I (stocksS c g).2.2]) := by
  refine pcall Try.func23 tr23 rs23 fn23 (by simp [Try.ntmps23]) fun _ => ?_
  have he := enter_ok c
  have hs : errE c = 0 → 0 ≤ g ∧ g < c.gath → PCall Try.prog 60 [encCase c, I g] (stocksAV c g (truL c 0)) := fun e => stocks60_ok (err_ok e)
  have hgg : errE c = 0 → 1 ≤ c.gath ∧ c.gath ≤ 5 := fun e => (err_ok e).gath
  have h16 : errE c = 0 → mayM c g (truL c 0) < 16 := fun e => mayM_16 (err_ok e) g (but := 0) fun x hx => hx
  have ho := outside_ok 0 (c.gath - 1) [g]
  have ho1 := out1 0 (c.gath - 1) g
  have hR : stocksS c g = if errE c ≠ 0 then ([], [], errE c) else if out 0 (c.gath - 1) [g] = true then ([], [], 4) else if truL c 0 = [] then ([], [], 8) else (bitsL (sureM c g (truL c 0)), bitsL (mayM c g (truL c 0)), 0) := rfl
  obtain ⟨E, hE⟩ : ∃ E, E = errE c := ⟨_, rfl⟩
  rw [← hE] at hs hR hgg h16
  rw [show (checkS c).2.2 = E from hE.symm] at he
  generalize out 0 (c.gath - 1) [g] = o at *
  simp -implicitDefEqProofs [m23]
  refine vCall_of he ?_
  simp -implicitDefEqProofs
  intro b
  refine cond_bool (fun h => ?_) (fun h => ?_)
  · have h : ¬ E = 0 := by simpa using h
    rw [if_pos h] at hR
    simp -implicitDefEqProofs [r23, hR]
  have h : E = 0 := by simpa using h
  subst h
  rw [if_neg (by simp)] at hR
  have hgg := hgg rfl
  have h16 := h16 rfl
  have hs := hs rfl
  simp -implicitDefEqProofs
  refine ⟨i64 (by omega) (by omega), ?_⟩
  refine vCall_of ho ?_
  cases o with
  | true =>
    rw [if_pos rfl] at hR
    simp -implicitDefEqProofs [r23, hR]
  | false =>
  rw [if_neg (by simp)] at hR
  have hg : 0 ≤ g ∧ g < c.gath := by
    have : decide (0 ≤ g ∧ g ≤ c.gath - 1) = true := by simpa using ho1.symm
    have := of_decide_eq_true this
    omega
  have hs := hs hg
  have l1 := list_ok (n := sureM c g (truL c 0)) (by have := sureM_16 c g (truL c 0); omega)
  have l2 := list_ok (n := mayM c g (truL c 0)) (by omega)
  simp -implicitDefEqProofs
  refine vCall_of hs ?_
  by_cases hz : truL c 0 = []
  · rw [if_pos hz] at hR
    simp -implicitDefEqProofs [r23, hR, hz]
  · rw [if_neg hz] at hR
    have hsu : sureI c g (truL c 0) = (sureM c g (truL c 0) : Nat) := if_neg hz
    simp -implicitDefEqProofs [hz, hsu]
    refine vCall_of l1 ?_
    simp -implicitDefEqProofs
    refine vCall_of l2 ?_
    simp -implicitDefEqProofs [r23, hR]
end Go.Proofs.Ytbcfmfiolbcclaa

namespace Go.Proofs.Ytbcfmfiolbcclaa
open Go.Avm

theorem flat_len {α β : Type} (f : α → List β) (m : Nat) : ∀ l : List α, (∀ x ∈ l, (f x).length ≤ m) → (l.flatMap f).length ≤ l.length * m
  | [], _ => by simp
  | x :: l, h => by
    have h1 := h x (by simp)
    have h2 := flat_len f m l (fun y hy => h y (by simp [hy]))
    simp only [List.flatMap_cons, List.length_append, List.length_cons, Nat.add_mul]
    omega
theorem truL_len {c : Case} (h : c.OK) (but : Nat) : (truL c but).length ≤ 253125 := by
  have hg := h.gath
  have h1 : (ordersL c).length ≤ _ := allO_len c.gath.toNat c.gath.toNat
  have h2 : c.gath.toNat ^ c.gath.toNat ≤ 5 ^ 5 := Nat.le_trans (Nat.pow_le_pow_left (show c.gath.toNat ≤ 5 by omega) _) (Nat.pow_le_pow_right (by omega) (by omega))
  have h3 := pilesP_len h
  have h4 := flat_len (truO c but) 3125 (pilesP c) fun p _ => by
    unfold truO
    rw [List.length_map]
    have := List.length_filter_le (fitsB c but p) (ordersL c)
    omega
  have h5 : (truL c but).length ≤ (pilesP c).length * 3125 := h4
  omega

/-- The ends of what is taken of each truth. -/
def endsL {α : Type} (f : α → Int) (l : List α) : Ends := l.foldl (fun e x => e.add (f x)) ⟨0, 0, 0⟩
theorem endsL_snoc {α : Type} (f : α → Int) (l : List α) (x : α) : endsL f (l ++ [x]) = (endsL f l).add (f x) := by simp [endsL]
theorem add_met (e : Ends) (n : Int) : (e.add n).met = e.met + 1 := by
  unfold Ends.add
  split
  · rename_i h; simp [h]
  · rfl
theorem endsL_met {α : Type} (f : α → Int) (l : List α) : (endsL f l).met = l.length := by
  have : ∀ (l : List α) (e : Ends), (l.foldl (fun e x => e.add (f x)) e).met = e.met + l.length := by
    intro l
    induction l with
    | nil => intro e; rfl
    | cons x l ih => intro e; simp only [List.foldl_cons, ih, add_met, List.length_cons]; omega
  rw [endsL, this]; simp

def leftOf (c : Case) (x : List Int × List Int) : Int := x.1.sum - c.run * c.gath
def begunOf (c : Case) (x : List Int × List Int) : Int := used x.1 0 (c.run * c.gath)

structure LeftR where
  a : Int
  b : Int
  x : Int
  y : Int
  e : Int
def leftS (c : Case) : LeftR :=
  if errE c ≠ 0 then ⟨0, 0, 0, 0, errE c⟩ else if truL c 0 = [] then ⟨0, 0, 0, 0, 8⟩ else
    ⟨(endsL (leftOf c) (truL c 0)).lo, (endsL (leftOf c) (truL c 0)).hi, (endsL (begunOf c) (truL c 0)).lo, (endsL (begunOf c) (truL c 0)).hi, 0⟩
abbrev LeftR.av (r : LeftR) : AV := .tuple [Span2 r.a r.b, Span2 r.x r.y, I r.e]

theorem left26_ok (c : Case) : PCall Try.prog 26 [encCase c] (leftS c).av := by
  refine pcall Try.func26 tr26 rs26 fn26 (by simp [Try.ntmps26]) fun _ => ?_
  have he := enter_ok c
  have hok : errE c = 0 → c.OK := err_ok
  have hR : leftS c = if errE c ≠ 0 then ⟨0, 0, 0, 0, errE c⟩ else if truL c 0 = [] then ⟨0, 0, 0, 0, 8⟩ else
    ⟨(endsL (leftOf c) (truL c 0)).lo, (endsL (leftOf c) (truL c 0)).hi, (endsL (begunOf c) (truL c 0)).lo, (endsL (begunOf c) (truL c 0)).hi, 0⟩ := rfl
  obtain ⟨E, hE⟩ : ∃ E, E = errE c := ⟨_, rfl⟩
  rw [← hE] at hok hR
  rw [show (checkS c).2.2 = E from hE.symm] at he
  generalize leftS c = R at *
  have ht : PCall Try.prog 64 [encCase c, I 0] (.func (.func 93) [] [caseRef c, .ref [I 0]]) := truths64_ok c 0
  simp -implicitDefEqProofs [m26]
  intro b2 b3 h23
  refine vCall_of he ?_
  simp -implicitDefEqProofs
  intro b5 h5
  have n32 : ¬ b2 = b3 := fun e => h23 e.symm
  have n53 : ¬ b5 = b3 := by rintro rfl; simp at h5
  have n52 : ¬ b5 = b2 := by rintro rfl; simp [n53] at h5
  have n35 : ¬ b3 = b5 := fun e => n53 e.symm
  have n25 : ¬ b2 = b5 := fun e => n52 e.symm
  refine cond_bool (fun h => ?_) (fun h => ?_)
  · have h : ¬ E = 0 := by simpa using h
    rw [if_pos h] at hR
    simp -implicitDefEqProofs [n25, n35, n32, h23, r26, hR]
  have h : E = 0 := by simpa using h
  subst h
  rw [if_neg (by simp)] at hR
  have hok := hok rfl
  simp -implicitDefEqProofs
  intro b6 h6 b7 h7 b8 h8
  have n63 : ¬ b6 = b3 := by rintro rfl; simp [n35] at h6
  have n62 : ¬ b6 = b2 := by rintro rfl; simp [n25, n32] at h6
  have n76 : ¬ b7 = b6 := by rintro rfl; simp at h7
  have n73 : ¬ b7 = b3 := by rintro rfl; simp [n76, n35] at h7
  have n72 : ¬ b7 = b2 := by rintro rfl; simp [n76, n25, n32] at h7
  have n87 : ¬ b8 = b7 := by rintro rfl; simp at h8
  have n86 : ¬ b8 = b6 := by rintro rfl; simp [n87] at h8
  have n83 : ¬ b8 = b3 := by rintro rfl; simp [n87, n86, n35] at h8
  have n82 : ¬ b8 = b2 := by rintro rfl; simp [n87, n86, n25, n32] at h8
  refine vCall_of ht ?_
  simp -implicitDefEqProofs
  clear h5 h6 h7 h8
  have m36 : ¬ b3 = b6 := fun e => n63 e.symm
  have m26 : ¬ b2 = b6 := fun e => n62 e.symm
  have m67 : ¬ b6 = b7 := fun e => n76 e.symm
  have m37 : ¬ b3 = b7 := fun e => n73 e.symm
  have m27 : ¬ b2 = b7 := fun e => n72 e.symm
  have m78 : ¬ b7 = b8 := fun e => n87 e.symm
  have m68 : ¬ b6 = b8 := fun e => n86 e.symm
  have m38 : ¬ b3 = b8 := fun e => n83 e.symm
  have m28 : ¬ b2 = b8 := fun e => n82 e.symm
  have hz : (⟨0, 0, 0⟩ : Ends).cs = [I 0, I 0, I 0] := rfl
  refine rangeL_of ((truL c 0).map fun x => truthAV c x.1 x.2) (fun k s => s.env 1 = caseRef c ∧ s.env 2 = .mref b2 0 ∧ s.env 3 = .mref b3 0 ∧ s.env 6 = .mref b6 0 ∧ s.env 7 = .mref b7 0 ∧ s.env 8 = .ref [.func (.func 63) [.mref b6 0] []] ∧
    s.loc b2 = some [I 0, I 0] ∧ s.loc b3 = some [I 0, I 0] ∧ s.loc b6 = some (endsL (leftOf c) ((truL c 0).take k)).cs ∧ s.loc b7 = some (endsL (begunOf c) ((truL c 0).take k)).cs) ?_ ?_ ?_ ?_
  · have := truths93_ok hok (but := 0) (by omega)
    rw [truthsP_map] at this
    exact this
  · simp [n32, n35, n25, m36, m26, m67, m37, m27, m78, m68, m38, m28, endsL]
  · rintro k st hk - ⟨e1, e2, e3, e6, e7, e8, l2, l3, l6, l7⟩ d sz len cap cs hd hLO
    have hk : k < (truL c 0).length := by simpa using hk
    have hm := List.getElem_mem hk
    have htk := take_snoc hk
    have s1 := endsL_snoc (leftOf c) ((truL c 0).take k) (truL c 0)[k]
    have s2 := endsL_snoc (begunOf c) ((truL c 0).take k) (truL c 0)[k]
    rw [← htk] at s1 s2
    have hp := truL_pile hok hm
    have hrg := run_gath hok
    have hsum := hp.sum hok (truL c 0)[k].1.length
    rw [List.take_length] at hsum
    rw [show ((truL c 0).map fun x => truthAV c x.1 x.2).getD k .any = truthAV c (truL c 0)[k].1 (truL c 0)[k].2 by simp [hk]] at hLO ⊢
    have t1 := endsL_met (leftOf c) ((truL c 0).take k)
    have t2 := endsL_met (begunOf c) ((truL c 0).take k)
    have t3 := truL_len hok 0
    have t4 : ((truL c 0).take k).length ≤ k := by rw [List.length_take]; omega
    generalize (truL c 0)[k] = z at *
    obtain ⟨p, o⟩ := z
    simp only at hsum
    have q2 : ¬ b2 = d := by rintro rfl; rw [l2] at hd; cases hd
    have q3 : ¬ b3 = d := by rintro rfl; rw [l3] at hd; cases hd
    have q6 : ¬ b6 = d := by rintro rfl; rw [l6] at hd; cases hd
    have q7 : ¬ b7 = d := by rintro rfl; rw [l7] at hd; cases hd
    simp -implicitDefEqProofs [putAt]
    intro b9 h9
    have q9 : ¬ d = b9 := by rintro rfl; simp at h9
    have p2 : ¬ b2 = b9 := by rintro rfl; simp [q2, l2] at h9
    have p3 : ¬ b3 = b9 := by rintro rfl; simp [q3, l3] at h9
    have p6 : ¬ b6 = b9 := by rintro rfl; simp [q6, l6] at h9
    have p7 : ¬ b7 = b9 := by rintro rfl; simp [q7, l7] at h9
    simp -implicitDefEqProofs [e1, e8]
    refine ⟨i64 (by omega) (by omega), i64 (by omega) (by omega), ?_⟩
    refine add63_ok (e := endsL (leftOf c) ((truL c 0).take k)) (by simp [p6, q6, l6]) (by omega) fun w w1 w2 w3 => ?_
    have u7 : w.loc b7 = some (endsL (begunOf c) ((truL c 0).take k)).cs := by rw [w2 b7 n76]; simp [p7, q7, l7]
    have u2 : w.loc b2 = some [I 0, I 0] := by rw [w2 b2 m26]; simp [p2, q2, l2]
    have u3 : w.loc b3 = some [I 0, I 0] := by rw [w2 b3 m36]; simp [p3, q3, l3]
    have ud : w.loc d = some cs := by rw [w2 d fun e => q6 e.symm]; simp [q9]
    simp -implicitDefEqProofs [e7]
    refine add63_ok (e := endsL (begunOf c) ((truL c 0).take k)) (by simp [u7]) (by omega) fun v v1 v2 v3 => ?_
    have x6 : v.loc b6 = some (endsL (leftOf c) ((truL c 0).take (k + 1))).cs := by
      rw [v2 b6 m67, s1]; simp -implicitDefEqProofs; exact w1
    have x7 : v.loc b7 = some (endsL (begunOf c) ((truL c 0).take (k + 1))).cs := by
      rw [s2]; exact v1
    have x2 : v.loc b2 = some [I 0, I 0] := by rw [v2 b2 m27]; simp [u2]
    have x3 : v.loc b3 = some [I 0, I 0] := by rw [v2 b3 m37]; simp [u3]
    have xd : v.loc d = some cs := by rw [v2 d fun e => q7 e.symm]; simp [ud]
    simp -implicitDefEqProofs [x6, x7, x2, x3, xd, q2, q3, q6, q7]
  · rintro st - ⟨e1, e2, e3, e6, e7, e8, l2, l3, l6, l7⟩
    have hl : ((truL c 0).map fun x => truthAV c x.1 x.2).length = (truL c 0).length := by simp
    rw [hl, List.take_length] at l6 l7
    have t1 := endsL_met (leftOf c) (truL c 0)
    have t3 := truL_len hok 0
    by_cases hz : truL c 0 = []
    · rw [if_pos hz] at hR
      have l6 : st.loc b6 = some [I 0, I 0, I 0] := by rw [l6, hz]; rfl
      simp -implicitDefEqProofs [e2, e3, e6, l2, l3, l6, n32, h23, r26, hR]
    · rw [if_neg hz] at hR
      have hm : (((endsL (leftOf c) (truL c 0)).met : Int) == 0) = false := by
        have := List.length_pos_iff.2 hz
        simp; omega
      simp -implicitDefEqProofs [e6, l6, hm]
      refine span65_ok (e := endsL (leftOf c) (truL c 0)) (by simp [l6]) fun w w1 w2 => ?_
      have u7 : w.loc b7 = some (endsL (begunOf c) (truL c 0)).cs := by rw [w1 b7 (by simp [l7])]; simp [l7]
      have u2 : w.loc b2 = some [I 0, I 0] := by rw [w1 b2 (by simp [l2])]; simp [l2]
      have u3 : w.loc b3 = some [I 0, I 0] := by rw [w1 b3 (by simp [l3])]; simp [l3]
      simp -implicitDefEqProofs [e7]
      refine span65_ok (e := endsL (begunOf c) (truL c 0)) (by simp [u7]) fun v v1 v2 => ?_
      have x2 : v.loc b2 = some [I 0, I 0] := by rw [v1 b2 (by simp [u2])]; simp [u2]
      have x3 : v.loc b3 = some [I 0, I 0] := by rw [v1 b3 (by simp [u3])]; simp [u3]
      simp -implicitDefEqProofs [e2, e3, x2, x3, n32, h23, r26, hR]
end Go.Proofs.Ytbcfmfiolbcclaa

namespace Go.Proofs.Ytbcfmfiolbcclaa
open Go.Avm

/-- The stocks of all places of a pile, as bits. -/
def setUp (c : Case) (p : List Int) : Nat → Nat
  | 0 => 0
  | k + 1 => setUp c p k ||| maskQ c p k
def setM (c : Case) (p : List Int) : Nat := setUp c p 5
theorem maskQ_lt {c : Case} (h : c.OK) {p : List Int} (hp : PileOK c p) (k : Nat) : maskQ c p k < 2 ^ c.stocks.length := by
  unfold maskQ
  split
  · exact maskUp_lt h p k _ (by rw [hp.len]; exact Nat.le_refl _)
  · exact Nat.pow_pos (by omega)
theorem setUp_lt {c : Case} (h : c.OK) {p : List Int} (hp : PileOK c p) : ∀ k, setUp c p k < 2 ^ c.stocks.length
  | 0 => Nat.pow_pos (by omega)
  | k + 1 => Nat.or_lt_two_pow (setUp_lt h hp k) (maskQ_lt h hp k)
theorem setUp_16 {c : Case} (h : c.OK) {p : List Int} (hp : PileOK c p) (k : Nat) : setUp c p k < 16 := Nat.lt_of_lt_of_le (setUp_lt h hp k) (pow16 h)
theorem setM_bits {c : Case} (h : c.OK) {p : List Int} (hp : PileOK c p) {x : Int} (hx : x ∈ bitsL (setM c p)) : 0 ≤ x ∧ x < c.stocks.length := by
  obtain ⟨j, rfl, h1, h2⟩ := selT_mem hx
  refine ⟨by omega, ?_⟩
  by_cases hj : j < c.stocks.length
  · omega
  · have : (setM c p).testBit j = false := Nat.testBit_lt_two_pow (Nat.lt_of_lt_of_le (setUp_lt h hp 5) (Nat.pow_le_pow_right (by omega) (by omega)))
    rw [this] at h2; cases h2

/-- The latest of some years of stocks. -/
def latL (f : Stock → Int) (c : Case) (l : List Int) : Int := l.foldl (fun a i => max a ((c.stocks.map f).getD i.toNat 0)) 0
theorem latL_snoc (f : Stock → Int) (c : Case) (l : List Int) (i : Int) : latL f c (l ++ [i]) = max (latL f c l) ((c.stocks.map f).getD i.toNat 0) := by simp [latL]
def yearLo (c : Case) (p : List Int) : Int := latL Stock.lo c (bitsL (setM c p))
def yearHi (c : Case) (p : List Int) : Int := latL Stock.hi c (bitsL (setM c p))
def yearE (c : Case) (l : List (List Int × List Int)) : Ends := l.foldl (fun e x => (e.add (yearLo c x.1)).add (yearHi c x.1)) ⟨0, 0, 0⟩
theorem yearE_snoc (c : Case) (l : List (List Int × List Int)) (x : List Int × List Int) : yearE c (l ++ [x]) = ((yearE c l).add (yearLo c x.1)).add (yearHi c x.1) := by simp [yearE]
theorem yearE_met (c : Case) (l : List (List Int × List Int)) : (yearE c l).met = 2 * l.length := by
  have : ∀ (l : List (List Int × List Int)) (e : Ends), (l.foldl (fun e x => (e.add (yearLo c x.1)).add (yearHi c x.1)) e).met = e.met + 2 * l.length := by
    intro l
    induction l with
    | nil => intro e; rfl
    | cons x l ih => intro e; simp only [List.foldl_cons, ih, add_met, List.length_cons]; omega
  rw [yearE, this]; simp

structure YearR where
  a : Int
  b : Int
  e : Int
def yearS (c : Case) : YearR := if errE c ≠ 0 then ⟨0, 0, errE c⟩ else if truL c 0 = [] then ⟨0, 0, 8⟩ else ⟨(yearE c (truL c 0)).lo, (yearE c (truL c 0)).hi, 0⟩
abbrev YearR.av (r : YearR) : AV := .tuple [Span2 r.a r.b, I r.e]

theorem year28_ok (c : Case) : PCall Try.prog 28 [encCase c] (yearS c).av := by
  refine pcall Try.func28 tr28 rs28 fn28 (by simp [Try.ntmps28]) fun _ => ?_
  have he := enter_ok c
  have hok : errE c = 0 → c.OK := err_ok
  have hR : yearS c = if errE c ≠ 0 then ⟨0, 0, errE c⟩ else if truL c 0 = [] then ⟨0, 0, 8⟩ else ⟨(yearE c (truL c 0)).lo, (yearE c (truL c 0)).hi, 0⟩ := rfl
  obtain ⟨E, hE⟩ : ∃ E, E = errE c := ⟨_, rfl⟩
  rw [← hE] at hok hR
  rw [show (checkS c).2.2 = E from hE.symm] at he
  generalize yearS c = R at *
  have ht : PCall Try.prog 64 [encCase c, I 0] (.func (.func 93) [] [caseRef c, .ref [I 0]]) := truths64_ok c 0
  simp -implicitDefEqProofs [m28]
  intro b2
  refine vCall_of he ?_
  simp -implicitDefEqProofs
  intro b4 h4
  have n24 : ¬ b2 = b4 := fun e => h4 e.symm
  refine cond_bool (fun h => ?_) (fun h => ?_)
  · have h : ¬ E = 0 := by simpa using h
    rw [if_pos h] at hR
    simp -implicitDefEqProofs [n24, r28, hR]
  have h : E = 0 := by simpa using h
  subst h
  rw [if_neg (by simp)] at hR
  have hok := hok rfl
  simp -implicitDefEqProofs
  intro b6 h6
  have n62 : ¬ b6 = b2 := by rintro rfl; simp [n24] at h6
  have n26 : ¬ b2 = b6 := fun e => n62 e.symm
  refine vCall_of ht ?_
  simp -implicitDefEqProofs
  refine rangeL_of ((truL c 0).map fun x => truthAV c x.1 x.2) (fun k s => s.env 1 = caseRef c ∧ s.env 2 = .mref b2 0 ∧ s.env 6 = .mref b6 0 ∧
    s.loc b2 = some [I 0, I 0] ∧ s.loc b6 = some (yearE c ((truL c 0).take k)).cs) ?_ ?_ ?_ ?_
  · have := truths93_ok hok (but := 0) (by omega)
    rw [truthsP_map] at this
    exact this
  · simp [n24, n26, yearE]
  · rintro k st hk - ⟨e1, e2, e6, l2, l6⟩ d sz len cap cs hd hLO
    have g1 := e1; have g2 := e2; have g6 := e6
    have hk : k < (truL c 0).length := by simpa using hk
    have hm := List.getElem_mem hk
    have htk := take_snoc hk
    have s1 := yearE_snoc c ((truL c 0).take k) (truL c 0)[k]
    rw [← htk] at s1
    have hp := truL_pile hok hm
    rw [show ((truL c 0).map fun x => truthAV c x.1 x.2).getD k .any = truthAV c (truL c 0)[k].1 (truL c 0)[k].2 by simp [hk]] at hLO ⊢
    have t1 := yearE_met c ((truL c 0).take k)
    have t3 := truL_len hok 0
    have t4 : ((truL c 0).take k).length ≤ k := by rw [List.length_take]; omega
    generalize (truL c 0)[k] = z at *
    obtain ⟨p, o⟩ := z
    simp only at s1 hp
    have q2 : ¬ b2 = d := by rintro rfl; rw [l2] at hd; cases hd
    have q6 : ¬ b6 = d := by rintro rfl; rw [l6] at hd; cases hd
    simp -implicitDefEqProofs [putAt]
    intro b9 h9
    have q9 : ¬ d = b9 := by rintro rfl; simp at h9
    have p2 : ¬ b2 = b9 := by rintro rfl; simp [q2, l2] at h9
    have p6 : ¬ b6 = b9 := by rintro rfl; simp [q6, l6] at h9
    refine loop_up 5 (fun i s => s.env 1 = caseRef c ∧ s.env 6 = .mref b6 0 ∧ s.loc b2 = some [I 0, I 0] ∧ s.loc b6 = some (yearE c ((truL c 0).take k)).cs ∧ s.loc d = some cs ∧
      s.env 8 = I (setUp c p i) ∧ s.env 28 = maskAV (maskQ c p) ∧ s.env 29 = I i) ?_ ?_
    · have : maskAV (maskQ c p) = .agg [I (maskQ c p 0 : Nat), I (maskQ c p 1 : Nat), I (maskQ c p 2 : Nat), I (maskQ c p 3 : Nat), I (maskQ c p 4 : Nat)] := rfl
      simp [e1, e6, l2, l6, q9, p2, p6, q2, q6, this, setUp]
    rintro i s hi ⟨e1, e6, l2, l6, ld, e8, e28, e29⟩
    simp -implicitDefEqProofs [e29]
    refine cond_dec (fun hlt => ?_) (fun hge => ?_)
    · have hlt : i < 5 := by omega
      have hor := or_small _ (setUp_16 hok hp i) _ (maskQ_16 hok hp i)
      have hs : setUp c p (i + 1) = setUp c p i ||| maskQ c p i := rfl
      rw [← hs] at hor
      simp -implicitDefEqProofs [e8, e28, e29, cl_len, cl_at, hlt, hor]
      refine ⟨by omega, i64 (by omega) (by omega), round_ok hlt ?_⟩
      simp [e1, e6, l2, l6, ld, e28]
    obtain rfl : i = 5 := by omega
    have l61 := list_ok (n := setM c p) (by have := setUp_16 hok hp 5; show setUp c p 5 < 256; omega)
    have hbits := fun x hx => setM_bits hok hp (x := x) hx
    have hb8 : (bitsL (setM c p)).length ≤ 8 := selT_len _ _
    have hyl : yearLo c p = latL Stock.lo c (bitsL (setM c p)) := rfl
    have hyh : yearHi c p = latL Stock.hi c (bitsL (setM c p)) := rfl
    have e8 : s.env 8 = I (setM c p) := e8
    generalize bitsL (setM c p) = B at *
    simp -implicitDefEqProofs [e8]
    refine vCall_of l61 ?_
    simp -implicitDefEqProofs
    refine loop_up B.length (fun j s => s.env 1 = caseRef c ∧ s.env 6 = .mref b6 0 ∧ s.loc b2 = some [I 0, I 0] ∧ s.loc b6 = some (yearE c ((truL c 0).take k)).cs ∧ s.loc d = some cs ∧
      s.env 11 = I (latL Stock.lo c (B.take j)) ∧ s.env 12 = I (latL Stock.hi c (B.take j)) ∧ s.env 37 = IL B ∧ s.env 38 = I B.length ∧ s.env 39 = I j) ?_ ?_
    · simp [e1, e6, l2, l6, ld, latL]
    rintro j s hj ⟨e1, e6, l2, l6, ld, e11, e12, e37, e38, e39⟩
    simp -implicitDefEqProofs [e38, e39]
    refine cond_dec (fun hlt => ?_) (fun hge => ?_)
    · have hlt : j < B.length := by omega
      have hx := hbits _ (List.getElem_mem hlt)
      have w1 := latL_snoc Stock.lo c (B.take j) B[j]
      have w2 := latL_snoc Stock.hi c (B.take j) B[j]
      rw [← take_snoc hlt] at w1 w2
      generalize hBj : B[j] = x at *
      obtain ⟨y, rfl⟩ : ∃ y : Nat, x = y := ⟨x.toNat, by omega⟩
      have hy : y < c.stocks.length := by omega
      simp [hy] at w1 w2
      simp -implicitDefEqProofs [e1, e11, e12, e37, e39, hlt, hBj, hy]
      refine ⟨i64 (by omega) (by omega), round_ok hlt ?_⟩
      simp [e1, e6, l2, l6, ld, e37, e38, w1, w2]
      omega
    obtain rfl : j = B.length := by omega
    rw [List.take_length] at e11 e12
    rw [← hyl] at e11
    rw [← hyh] at e12
    simp -implicitDefEqProofs [e6, e11]
    refine add68_ok (e := yearE c ((truL c 0).take k)) (by simp [l6]) (by omega) fun w w1 w2 w3 => ?_
    have u2 : w.loc b2 = some [I 0, I 0] := by rw [w2 b2 n26]; simp [l2]
    have ud : w.loc d = some cs := by rw [w2 d fun e => q6 e.symm]; simp [ld]
    simp -implicitDefEqProofs [e6, e12]
    refine add68_ok (e := (yearE c ((truL c 0).take k)).add (yearLo c p)) (by simp [w1]) (by rw [add_met]; omega) fun v v1 v2 v3 => ?_
    have x2 : v.loc b2 = some [I 0, I 0] := by rw [v2 b2 n26]; simp [u2]
    have xd : v.loc d = some cs := by rw [v2 d fun e => q6 e.symm]; simp [ud]
    rw [← s1] at v1
    simp -implicitDefEqProofs [v1, x2, xd, q2, q6]
  · rintro st - ⟨e1, e2, e6, l2, l6⟩
    have hl : ((truL c 0).map fun x => truthAV c x.1 x.2).length = (truL c 0).length := by simp
    rw [hl, List.take_length] at l6
    have t1 := yearE_met c (truL c 0)
    have t3 := truL_len hok 0
    by_cases hz : truL c 0 = []
    · rw [if_pos hz] at hR
      have l6 : st.loc b6 = some [I 0, I 0, I 0] := by rw [l6, hz]; rfl
      simp -implicitDefEqProofs [e2, e6, l2, l6, r28, hR]
    · rw [if_neg hz] at hR
      have hm : (((yearE c (truL c 0)).met : Int) == 0) = false := by
        have := List.length_pos_iff.2 hz
        simp; omega
      simp -implicitDefEqProofs [e6, l6, hm]
      refine span69_ok (e := yearE c (truL c 0)) (by simp [l6]) fun w w1 w2 => ?_
      have u2 : w.loc b2 = some [I 0, I 0] := by rw [w1 b2 (by simp [l2])]; simp [l2]
      simp -implicitDefEqProofs [e2, u2, r28, hR]
end Go.Proofs.Ytbcfmfiolbcclaa

namespace Go.Proofs.Ytbcfmfiolbcclaa
open Go.Avm

/-- Whether some truth agrees, without some things that are seen. -/
def anyT (c : Case) (but : Nat) : Bool := decide (truL c but ≠ [])
def bestI : Option Nat → Int
  | none => -1
  | some b => b
def wrongS (c : Case) : List Int × Int := if errE c ≠ 0 then ([], errE c) else match bestUp (anyT c) (2 ^ c.seen.length) with
  | none => ([], 9)
  | some b => (bitsL b, 0)

/-- A loop over truths that is left in its first round. -/
theorem first_range {c : Case} (hok : c.OK) {k : Nat} (hk : k < 256) {b6 : Nat} {old N : Int} {kn : St → Prop} {ke : Nat → St → Prop} {kr : St → Prop} {s : St}
    (e4 : s.env 4 = caseRef c) (e6 : s.env 6 = .mref b6 0) (e7 : s.env 7 = .ref [I k]) (e19 : s.env 19 = I N) (e20 : s.env 20 = I k) (l6 : s.loc b6 = some [I old])
    (hn : truL c k = [] → ∀ st, st.env 4 = caseRef c → st.env 6 = .mref b6 0 → st.env 19 = I N → st.env 20 = I k → st.loc b6 = some [I old] → kn st)
    (hx : truL c k ≠ [] → ∀ st, st.env 4 = caseRef c → st.env 6 = .mref b6 0 → st.env 19 = I N → st.env 20 = I k → st.loc b6 = some [I k] → ke 2 st) :
    vRangeL Try.prog 8 [34] .skip (.block 3 (.seq (.reg [.load 35 (.t 7) none, .store (.t 6) (.t 35) 1 0]) (.exit 2))) kn ke kr s (.func (.func 93) [] [caseRef c, .ref [I k]]) := by
  have g4 := e4; have g6 := e6; have g19 := e19; have g20 := e20
  refine rangeL_of ((truL c k).map fun x => truthAV c x.1 x.2) (fun j s => j = 0 ∧ s.env 4 = caseRef c ∧ s.env 6 = .mref b6 0 ∧ s.env 7 = .ref [I k] ∧ s.env 19 = I N ∧ s.env 20 = I k ∧ s.loc b6 = some [I old]) ?_ ?_ ?_ ?_
  · have := truths93_ok hok hk
    rw [truthsP_map] at this
    exact this
  · simp [e4, e6, e7, e19, e20, l6]
  · rintro j st hj - ⟨rfl, e4, e6, e7, e19, e20, l6⟩ d sz len cap cs hd hLO
    have hne : truL c k ≠ [] := by
      intro e; rw [e] at hj; simp at hj
    have hbd : ¬ b6 = d := by rintro rfl; rw [l6] at hd; cases hd
    have hdb : ¬ d = b6 := fun e => hbd e.symm
    simp -implicitDefEqProofs [e6, e7, l6, hbd, hdb]
    exact hx hne _ (by simp [g4]) (by simp [g6]) (by simp [g19]) (by simp [g20]) (by simp [hbd])
  · rintro st - ⟨h0, e4, e6, e7, e19, e20, l6⟩
    have he : truL c k = [] := by simpa using h0
    exact hn he st e4 e6 e19 e20 l6

theorem wrong30_ok (c : Case) : PCall Try.prog 30 [encCase c] (.tuple [IL (wrongS c).1, I (wrongS c).2]) := by
  refine pcall Try.func30 tr30 rs30 fn30 (by simp [Try.ntmps30]) fun _ => ?_
  have he := enter_ok c
  have hok : errE c = 0 → c.OK := err_ok
  have h8 : errE c = 0 → c.seen.length ≤ 8 := fun h => (checkS_zero h).2.1
  have hR : wrongS c = if errE c ≠ 0 then ([], errE c) else match bestUp (anyT c) (2 ^ c.seen.length) with
    | none => ([], 9)
    | some b => (bitsL b, 0) := rfl
  obtain ⟨E, hE⟩ : ∃ E, E = errE c := ⟨_, rfl⟩
  rw [← hE] at hok hR h8
  rw [show (checkS c).2.2 = E from hE.symm] at he
  generalize wrongS c = R at *
  simp -implicitDefEqProofs [m30]
  refine vCall_of he ?_
  simp -implicitDefEqProofs
  intro b4
  refine cond_bool (fun h => ?_) (fun h => ?_)
  · have h : ¬ E = 0 := by simpa using h
    rw [if_pos h] at hR
    simp -implicitDefEqProofs [r30, hR]
  have h : E = 0 := by simpa using h
  subst h
  rw [if_neg (by simp)] at hR
  have hok := hok rfl
  have h8 := h8 rfl
  obtain ⟨N, hN⟩ : ∃ N, N = 2 ^ c.seen.length := ⟨_, rfl⟩
  have hN256 : N ≤ 256 := by rw [hN]; exact Nat.le_trans (Nat.pow_le_pow_right (by omega) h8) (by decide)
  have hsh := shl_pow (k := c.seen.length) (by omega)
  rw [← hN] at hsh hR
  have hspec := bestUp_spec (anyT c)
  simp -implicitDefEqProofs [hsh]
  intro b6
  refine loop_up N (fun k s => s.env 4 = caseRef c ∧ s.env 6 = .mref b6 0 ∧ s.loc b6 = some [I (bestI (bestUp (anyT c) k))] ∧ s.env 19 = I N ∧ s.env 20 = I k) ?_ ?_
  · have : ((2 : Int) ^ c.seen.length) = (N : Int) := by rw [hN]; simp
    simp [bestUp, bestI]
  rintro k s hk ⟨e4, e6, l6, e19, e20⟩
  simp -implicitDefEqProofs [e19, e20]
  refine cond_dec (fun hlt => ?_) (fun hge => ?_)
  · have hlt : k < N := by omega
    have hsp := hspec k (by omega)
    have hq : anyT c k = decide (truL c k ≠ []) := rfl
    simp -implicitDefEqProofs [e20]
    intro b7 h7
    have n67 : ¬ b6 = b7 := by rintro rfl; rw [l6] at h7; cases h7
    have ht := truths64_ok c k
    cases hb : bestUp (anyT c) k with
    | none =>
      rw [hb] at l6
      have l6 : s.loc b6 = some [I (-1)] := l6
      have hnx : bestUp (anyT c) (k + 1) = if anyT c k then some k else none := by unfold bestUp; rw [hb]
      simp -implicitDefEqProofs [e4, e6, l6, n67]
      refine vCall_of ht ?_
      simp -implicitDefEqProofs
      refine first_range hok (k := k) (by omega) (b6 := b6) (old := -1) (N := N) (by simp [e4]) (by simp [e6]) (by simp) (by simp [e19]) (by simp [e20]) (by simp [n67, l6]) ?_ ?_
      · intro he st f4 f6 f19 f20 g6
        rw [hq, he] at hnx
        have hnx : bestUp (anyT c) (k + 1) = none := by simpa using hnx
        simp -implicitDefEqProofs [f20]
        refine ⟨i64 (by omega) (by omega), round_ok hlt ?_⟩
        simp [f4, f6, f19, g6, hnx, bestI]
      · intro he st f4 f6 f19 f20 g6
        rw [hq, decide_eq_true he] at hnx
        have hnx : bestUp (anyT c) (k + 1) = some k := by simpa using hnx
        simp -implicitDefEqProofs [f20]
        refine ⟨i64 (by omega) (by omega), round_ok hlt ?_⟩
        simp [f4, f6, f19, g6, hnx, bestI]
    | some b =>
      rw [hb] at l6 hsp
      have l6 : s.loc b6 = some [I b] := l6
      have hb256 : b < 256 := by have := hsp.1; omega
      have hfw := fewer_ok (a := k) (b := b) (by omega) hb256
      have hnx : bestUp (anyT c) (k + 1) = if lessL (bitsL k) (bitsL b) && anyT c k then some k else some b := by rw [bestUp, hb]
      simp -implicitDefEqProofs [e6, l6, n67]
      refine vCall_of hfw ?_
      cases hle : lessL (bitsL k) (bitsL b) with
      | false =>
        rw [hle, Bool.false_and] at hnx
        have hnx : bestUp (anyT c) (k + 1) = some b := by simpa using hnx
        simp -implicitDefEqProofs [e20]
        refine ⟨i64 (by omega) (by omega), round_ok hlt ?_⟩
        simp [e4, e6, l6, e19, n67, hnx, bestI]
      | true =>
        rw [hle, Bool.true_and] at hnx
        simp -implicitDefEqProofs [e4]
        refine vCall_of ht ?_
        simp -implicitDefEqProofs
        refine first_range hok (k := k) (by omega) (b6 := b6) (old := b) (N := N) (by simp [e4]) (by simp [e6]) (by simp) (by simp [e19]) (by simp [e20]) (by simp [n67, l6]) ?_ ?_
        · intro he st f4 f6 f19 f20 g6
          rw [hq, he] at hnx
          have hnx : bestUp (anyT c) (k + 1) = some b := by simpa using hnx
          simp -implicitDefEqProofs [f20]
          refine ⟨i64 (by omega) (by omega), round_ok hlt ?_⟩
          simp [f4, f6, f19, g6, hnx, bestI]
        · intro he st f4 f6 f19 f20 g6
          rw [hq, decide_eq_true he] at hnx
          have hnx : bestUp (anyT c) (k + 1) = some k := by simpa using hnx
          simp -implicitDefEqProofs [f20]
          refine ⟨i64 (by omega) (by omega), round_ok hlt ?_⟩
          simp [f4, f6, f19, g6, hnx, bestI]
  · obtain rfl : k = N := by omega
    have hsp := hspec k (by omega)
    cases hb : bestUp (anyT c) k with
    | none =>
      rw [hb] at l6 hR
      have l6 : s.loc b6 = some [I (-1)] := l6
      simp -implicitDefEqProofs [e6, l6, r30, hR]
    | some b =>
      rw [hb] at l6 hR hsp
      have l6 : s.loc b6 = some [I b] := l6
      have l61 := list_ok (n := b) (by have := hsp.1; omega)
      have hb0 : ¬ (b : Int) < 0 := by omega
      simp -implicitDefEqProofs [e6, l6, hb0]
      refine vCall_of l61 ?_
      simp -implicitDefEqProofs [r30, hR]
end Go.Proofs.Ytbcfmfiolbcclaa

namespace Go.Proofs.Ytbcfmfiolbcclaa
open Go.Avm

/-- A case with one thing more that is seen. -/
def moreC (c : Case) (g s : Int) : Case := { c with seen := c.seen ++ [(g, s)] }
theorem moreC_ok {c : Case} (h : c.OK) (h8 : c.seen.length ≤ 8) {g s : Int} (hg : 0 ≤ g ∧ g < c.gath) (hs : 0 ≤ s ∧ s < c.stocks.length) : (moreC c g s).OK := by
  refine ⟨h.run, h.stocks, h.made, h.reams, h.sheets, h.gath, by simp [moreC]; omega, fun x hx => ?_⟩
  rcases List.mem_append.1 hx with hx | hx
  · exact h.seen x hx
  · rw [List.mem_singleton] at hx
    subst hx
    exact ⟨hg.1, hg.2, hs.1, hs.2⟩

/-- How many orders are left at worst, with one more sheet of a gathering of one of some stocks. -/
def worstL (c : Case) (g : Int) (l : List Int) : Int := l.foldl (fun a s => max a (waysP (moreC c g s)).length) 0
theorem worstL_snoc (c : Case) (g : Int) (l : List Int) (s : Int) : worstL c g (l ++ [s]) = max (worstL c g l) (waysP (moreC c g s)).length := by simp [worstL]
def worstP (c : Case) (g : Nat) : Int := worstL c g (bitsL (mayM c g (truL c 0)))
def askUp (c : Case) : Nat → Int × Int
  | 0 => (0, 0)
  | g + 1 => if g = 0 ∨ worstP c g < (askUp c g).2 then ((g : Int), worstP c g) else askUp c g
structure AskR where
  g : Int
  n : Int
  e : Int
def askS (c : Case) : AskR := if errE c ≠ 0 then ⟨0, 0, errE c⟩ else if truL c 0 = [] then ⟨0, 0, 8⟩ else ⟨(askUp c c.gath.toNat).1, (askUp c c.gath.toNat).2, 0⟩

theorem may_bits {c : Case} (h : c.OK) (g : Int) {x : Int} (hx : x ∈ bitsL (mayM c g (truL c 0))) : 0 ≤ x ∧ x < c.stocks.length := by
  obtain ⟨j, rfl, h1, h2⟩ := selT_mem hx
  refine ⟨by omega, ?_⟩
  have key : ∀ (l : List (List Int × List Int)) (a : Nat), a < 2 ^ c.stocks.length → (∀ x ∈ l, x ∈ truL c 0) → l.foldl (fun a x => a ||| ownM c g x) a < 2 ^ c.stocks.length := by
    intro l
    induction l with
    | nil => intro a ha _; exact ha
    | cons x l ih =>
      intro a ha hl
      exact ih _ (Nat.or_lt_two_pow ha (maskQ_lt h (truL_pile h (hl x (by simp))) _)) fun y hy => hl y (by simp [hy])
  have hm : mayM c g (truL c 0) < 2 ^ c.stocks.length := key _ 0 (Nat.pow_pos (by omega)) fun x hx => hx
  by_cases hj : j < c.stocks.length
  · omega
  · have : (mayM c g (truL c 0)).testBit j = false := Nat.testBit_lt_two_pow (Nat.lt_of_lt_of_le hm (Nat.pow_le_pow_right (by omega) (by omega)))
    rw [this] at h2; cases h2

theorem ask32_ok (c : Case) : PCall Try.prog 32 [encCase c] (.tuple [I (askS c).g, I (askS c).n, I (askS c).e]) := by
  refine pcall Try.func32 tr32 rs32 fn32 (by simp [Try.ntmps32]) fun _ => ?_
  have he := enter_ok c
  have hok : errE c = 0 → c.OK := err_ok
  have h8 : errE c = 0 → c.seen.length ≤ 8 := fun h => (checkS_zero h).2.1
  have hR : askS c = if errE c ≠ 0 then ⟨0, 0, errE c⟩ else if truL c 0 = [] then ⟨0, 0, 8⟩ else ⟨(askUp c c.gath.toNat).1, (askUp c c.gath.toNat).2, 0⟩ := rfl
  obtain ⟨E, hE⟩ : ∃ E, E = errE c := ⟨_, rfl⟩
  rw [← hE] at hok hR h8
  rw [show (checkS c).2.2 = E from hE.symm] at he
  generalize askS c = R at *
  simp -implicitDefEqProofs [m32]
  refine vCall_of he ?_
  simp -implicitDefEqProofs
  intro b5
  refine cond_bool (fun h => ?_) (fun h => ?_)
  · have h : ¬ E = 0 := by simpa using h
    rw [if_pos h] at hR
    simp -implicitDefEqProofs [r32, hR]
  have h : E = 0 := by simpa using h
  subst h
  rw [if_neg (by simp)] at hR
  have hok := hok rfl
  have h8 := h8 rfl
  have hgath := hok.gath
  obtain ⟨G, hG⟩ : ∃ G : Nat, c.gath = G := ⟨c.gath.toNat, by omega⟩
  rw [hG, Int.toNat_natCast] at hR
  simp -implicitDefEqProofs [hG]
  refine loop_up G (fun g s => s.env 1 = caseRef c ∧ s.env 5 = caseRef c ∧ s.env 2 = I (askUp c g).1 ∧ s.env 3 = I (askUp c g).2 ∧ s.env 23 = I G ∧ s.env 24 = I g ∧ (0 < g → truL c 0 ≠ [])) ?_ ?_
  · simp [hG, askUp]
  rintro g s hg ⟨e1, e5, e2, e3, e23, e24, hne⟩
  simp -implicitDefEqProofs [e23, e24]
  refine cond_dec (fun hlt => ?_) (fun hge => ?_)
  · have hlt : g < G := by omega
    have hs := stocks60_ok hok (g := g) (by omega)
    simp -implicitDefEqProofs [e5, e24]
    refine vCall_of hs ?_
    by_cases hz : truL c 0 = []
    · rw [if_pos hz] at hR
      simp -implicitDefEqProofs [hz, r32, hR]
    rw [if_neg hz] at hR
    have h16 := mayM_16 hok (g : Int) (but := 0) (l := truL c 0) fun x hx => hx
    have l61 := list_ok (n := mayM c g (truL c 0)) (by omega)
    have hbits := fun x hx => may_bits hok (g : Int) (x := x) hx
    have hb8 : (bitsL (mayM c g (truL c 0))).length ≤ 8 := selT_len _ _
    have hw : worstP c g = worstL c g (bitsL (mayM c g (truL c 0))) := rfl
    generalize bitsL (mayM c g (truL c 0)) = B at *
    simp -implicitDefEqProofs [hz]
    refine vCall_of l61 ?_
    simp -implicitDefEqProofs
    refine loop_up B.length (fun j s => s.env 1 = caseRef c ∧ s.env 5 = caseRef c ∧ s.env 2 = I (askUp c g).1 ∧ s.env 3 = I (askUp c g).2 ∧ s.env 23 = I G ∧ s.env 24 = I g ∧
      s.env 6 = I g ∧ s.env 10 = I (worstL c g (B.take j)) ∧ s.env 37 = IL B ∧ s.env 38 = I B.length ∧ s.env 39 = I j) ?_ ?_
    · simp [e1, e5, e2, e3, e23, e24, worstL]
    rintro j s hj ⟨e1, e5, e2, e3, e23, e24, e6, e10, e37, e38, e39⟩
    simp -implicitDefEqProofs [e38, e39]
    refine cond_dec (fun hlt2 => ?_) (fun hge2 => ?_)
    · have hlt2 : j < B.length := by omega
      have hx := hbits _ (List.getElem_mem hlt2)
      have hsn := worstL_snoc c g (B.take j) B[j]
      rw [← take_snoc hlt2] at hsn
      generalize hBj : B[j] = x at *
      have hmo := moreC_ok hok h8 (g := g) (s := x) (by omega) hx
      have hwm := ways56_ok hmo
      simp -implicitDefEqProofs [e5, e37, e39, hlt2, hBj]
      intro b13 h13
      simp -implicitDefEqProofs [e1]
      refine clone75_ok (by omega) fun w wl => ?_
      have l13 : w.loc b13 = some (caseCells c) := wl b13 _ (by simp) (by simp)
      have em : encCase (moreC c g x) = .agg [I c.run, .slice 3 (c.stocks.map encStock) 0, .slice 3 (c.reams.map encReam) 0, I c.gath, .slice 2 (c.seen.map encSeen ++ [.agg [I g, I x]]) 0] := by simp [moreC]
      rw [em] at hwm
      simp -implicitDefEqProofs [e6, e10, l13]
      have hwl := waysP_len hmo
      refine ⟨by omega, by omega, vCall_of hwm ?_⟩
      simp -implicitDefEqProofs [e39]
      refine ⟨i64 (by omega) (by omega), round_ok hlt2 ?_⟩
      simp [e1, e5, e2, e3, e23, e24, e6, e37, e38, hsn]
      omega
    obtain rfl : j = B.length := by omega
    rw [List.take_length, ← hw] at e10
    have hau : askUp c (g + 1) = if g = 0 ∨ worstP c g < (askUp c g).2 then ((g : Int), worstP c g) else askUp c g := rfl
    by_cases hg0 : g = 0
    · rw [if_pos (.inl hg0)] at hau
      have hg0' : ((g : Int) == 0) = true := by simp [hg0]
      simp -implicitDefEqProofs [e6, e10, e24, hg0']
      refine ⟨i64 (by omega) (by omega), round_ok hlt ?_⟩
      simp [e1, e5, e23, hau]
    · have hg0' : ((g : Int) == 0) = false := by simp [hg0]
      by_cases hlw : worstP c g < (askUp c g).2
      · rw [if_pos (.inr hlw)] at hau
        simp -implicitDefEqProofs [e3, e6, e10, e24, hg0', hlw]
        refine ⟨i64 (by omega) (by omega), round_ok hlt ?_⟩
        simp [e1, e5, e23, hau]
      · rw [if_neg (by simp [hg0, hlw])] at hau
        simp -implicitDefEqProofs [e3, e6, e10, e24, hg0', hlw]
        refine ⟨i64 (by omega) (by omega), round_ok hlt ?_⟩
        simp [e1, e5, e2, e3, e23, hau]
  · obtain rfl : g = G := by omega
    have hne := hne (by omega)
    rw [if_neg hne] at hR
    simp -implicitDefEqProofs [e2, e3, r32, hR]
end Go.Proofs.Ytbcfmfiolbcclaa

