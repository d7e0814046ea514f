/- The case of the layer paper, as plain data: piles, places, orders, what agrees. Places of a pile, what is seen, as lists and as bits; what agrees. Sets as lists and as bits, their order, and the first of some sets in it. Contracts of small functions: outside, names. Contracts of the reference: lists, orders. Contracts of the reference: piles, places. Sets as bits: what the program's functions on bits return, by a table. Contracts on sets as bits. Contracts: Check, of the program and of the reference. Contracts: the program's Check, and what enters. Contracts: the reference's Check; a case without an error. -/
import Derived.Test.YtbcfmfiolbcclaaZC
import Derived.Test.YtbcfmfiolbcclaaZE
import Derived.Test.YtbcfmfiolbcclaaZD
namespace Go.Proofs.Ytbcfmfiolbcclaa
open Go.Avm

abbrev I (n : Int) : AV := .lit (.int .i64 n)
abbrev B (b : Bool) : AV := .lit (.bool b)
abbrev S (s : ByteArray) : AV := .lit (.string s)
abbrev IL (l : List Int) : AV := .slice 1 (l.map I) 0
abbrev ILL (l : List (List Int)) : AV := .slice 1 (l.map IL) 0
abbrev SL (l : List ByteArray) : AV := .slice 1 (l.map S) 0
abbrev Span2 (lo hi : Int) : AV := .agg [I lo, I hi]

structure Stock where
  name : ByteArray
  lo : Int
  hi : Int
structure Ream where
  stock : Int
  lo : Int
  hi : Int
structure Case where
  run : Int
  stocks : List Stock
  reams : List Ream
  gath : Int
  seen : List (Int × Int)

abbrev encStock (s : Stock) : AV := .agg [S s.name, I s.lo, I s.hi]
abbrev encReam (r : Ream) : AV := .agg [I r.stock, I r.lo, I r.hi]
abbrev encSeen (x : Int × Int) : AV := .agg [I x.1, I x.2]
abbrev caseCells (c : Case) : List AV := [I c.run, .slice 3 (c.stocks.map encStock) 0, .slice 3 (c.reams.map encReam) 0, I c.gath, .slice 2 (c.seen.map encSeen) 0]
abbrev encCase (c : Case) : AV := .agg (caseCells c)
abbrev caseRef (c : Case) : AV := .ref (caseCells c)

/-- What Check says of a case without an error, but for the names. -/
structure Case.OK (c : Case) : Prop where
  run : 1 ≤ c.run ∧ c.run ≤ 500
  stocks : 1 ≤ c.stocks.length ∧ c.stocks.length ≤ 4
  made : ∀ s ∈ c.stocks, 1450 ≤ s.lo ∧ s.lo ≤ s.hi ∧ s.hi ≤ 1850
  reams : 1 ≤ c.reams.length ∧ c.reams.length ≤ 4
  sheets : ∀ r ∈ c.reams, 0 ≤ r.stock ∧ r.stock < c.stocks.length ∧ 1 ≤ r.lo ∧ r.lo ≤ r.hi ∧ r.hi ≤ 2000 ∧ r.hi ≤ r.lo + 2
  gath : 1 ≤ c.gath ∧ c.gath ≤ 5
  seenLen : c.seen.length ≤ 9
  seen : ∀ x ∈ c.seen, 0 ≤ x.1 ∧ x.1 < c.gath ∧ 0 ≤ x.2 ∧ x.2 < c.stocks.length

theorem take_snoc {α : Type} {l : List α} {k : Nat} (h : k < l.length) : l.take (k + 1) = l.take k ++ [l[k]] := List.take_succ_eq_append_getElem h

/-! ## Piles -/
def spanL (lo : Int) (k : Nat) : List Int := (List.range k).map fun j : Nat => lo + j
def Ream.wide (r : Ream) : Nat := (r.hi - r.lo + 1).toNat
def ext (r : Ream) (k : Nat) (o : List Int) : List (List Int) := (spanL r.lo k).map fun n => o ++ [n]
def pilesAll : List Ream → List (List Int)
  | [] => [[]]
  | r :: rs => (pilesAll rs).flatMap (ext r r.wide)
/-- All numbers of sheets that the reams can have. -/
def pilesUp (c : Case) (i : Nat) : List (List Int) := pilesAll (c.reams.take i).reverse
def pilesL (c : Case) : List (List Int) := (pilesUp c c.reams.length).filter fun p => decide (c.run * c.gath ≤ p.sum)

theorem Case.OK.ream {c : Case} (h : c.OK) {i : Nat} (hi : i < c.reams.length) : 0 ≤ c.reams[i].stock ∧ c.reams[i].stock < c.stocks.length ∧ 1 ≤ c.reams[i].lo ∧ c.reams[i].lo ≤ c.reams[i].hi ∧ c.reams[i].hi ≤ 2000 ∧ c.reams[i].hi ≤ c.reams[i].lo + 2 :=
  h.sheets _ (List.getElem_mem _)

theorem wide_le {c : Case} (h : c.OK) {i : Nat} (hi : i < c.reams.length) : 1 ≤ c.reams[i].wide ∧ c.reams[i].wide ≤ 3 ∧ c.reams[i].lo + c.reams[i].wide = c.reams[i].hi + 1 := by
  have := h.ream hi
  unfold Ream.wide
  omega

/-- A list of numbers that the reams can have. -/
def PileIn : List Ream → List Int → Prop
  | [], [] => True
  | r :: rs, x :: xs => r.lo ≤ x ∧ x ≤ r.hi ∧ PileIn rs xs
  | _, _ => False

theorem pileIn_snoc {r : Ream} {x : Int} : ∀ {rs : List Ream} {xs : List Int}, PileIn (rs ++ [r]) (xs ++ [x]) ↔ PileIn rs xs ∧ r.lo ≤ x ∧ x ≤ r.hi
  | [], [] => by simp [PileIn]
  | [], y :: ys => by cases ys <;> simp [PileIn]
  | r' :: rs, [] => by cases rs <;> simp [PileIn]
  | r' :: rs, y :: ys => by simp only [List.cons_append, PileIn, pileIn_snoc, and_assoc]

theorem pileIn_len : ∀ {rs : List Ream} {xs : List Int}, PileIn rs xs → xs.length = rs.length
  | [], [], _ => rfl
  | [], _ :: _, h => h.elim
  | _ :: _, [], h => h.elim
  | _ :: rs, _ :: xs, h => by simp [pileIn_len h.2.2]

theorem mem_ext {r : Ream} {o y : List Int} (hr : r.lo ≤ r.hi) : y ∈ ext r r.wide o ↔ ∃ x, r.lo ≤ x ∧ x ≤ r.hi ∧ y = o ++ [x] := by
  simp only [ext, spanL, List.mem_map, List.mem_range, Ream.wide]
  constructor
  · rintro ⟨n, ⟨j, hj, rfl⟩, rfl⟩
    exact ⟨_, by omega, by omega, rfl⟩
  · rintro ⟨x, h1, h2, rfl⟩
    exact ⟨x, ⟨(x - r.lo).toNat, by omega, by omega⟩, rfl⟩

theorem mem_pilesAll : ∀ {rs : List Ream} {y : List Int}, (∀ r ∈ rs, r.lo ≤ r.hi) → (y ∈ pilesAll rs ↔ PileIn rs.reverse y)
  | [], y, _ => by cases y <;> simp [pilesAll, PileIn]
  | r :: rs, y, h => by
    have hr := h r (by simp)
    have ih := fun y => mem_pilesAll (rs := rs) (y := y) (fun r' hr' => h r' (by simp [hr']))
    simp only [pilesAll, List.mem_flatMap, mem_ext hr, List.reverse_cons]
    constructor
    · rintro ⟨o, ho, x, h1, h2, rfl⟩
      exact pileIn_snoc.2 ⟨(ih o).1 ho, h1, h2⟩
    · intro hy
      have hl := pileIn_len hy
      have hne : y ≠ [] := by rintro rfl; simp at hl
      have e : y = y.dropLast ++ [y.getLast hne] := (List.dropLast_concat_getLast hne).symm
      rw [e] at hy
      obtain ⟨h1, h2, h3⟩ := pileIn_snoc.1 hy
      exact ⟨_, (ih _).2 h1, _, h2, h3, e⟩

theorem mem_pilesL {c : Case} (h : c.OK) {y : List Int} : y ∈ pilesL c ↔ PileIn c.reams y ∧ c.run * c.gath ≤ y.sum := by
  unfold pilesL pilesUp
  rw [List.mem_filter, List.take_length, mem_pilesAll (fun r hr => by have := h.sheets r (by simpa using hr); omega), List.reverse_reverse]
  simp

theorem sum_bounds : ∀ (l : List Int), (∀ x ∈ l, 1 ≤ x ∧ x ≤ 2000) → 0 ≤ l.sum ∧ l.sum ≤ 2000 * l.length
  | [], _ => by simp
  | x :: l, h => by
    have h1 := h x (by simp)
    have h2 := sum_bounds l (fun y hy => h y (by simp [hy]))
    simp only [List.sum_cons, List.length_cons]
    omega

/-- The pile of number n, as the program counts them: the first ream's number changes with each. -/
def pileN : List Ream → Nat → List Int
  | [], _ => []
  | r :: rs, n => (r.lo + (n % r.wide : Nat)) :: pileN rs (n / r.wide)
def wides : List Ream → Nat
  | [] => 1
  | r :: rs => r.wide * wides rs
/-- The piles in the program's order. -/
def pilesP (c : Case) : List (List Int) := ((List.range (wides c.reams)).map (pileN c.reams)).filter fun p => decide (c.run * c.gath ≤ p.sum)

theorem mem_pileN : ∀ {rs : List Ream} {y : List Int}, (∀ r ∈ rs, r.lo ≤ r.hi) → ((∃ n, n < wides rs ∧ pileN rs n = y) ↔ PileIn rs y)
  | [], y, _ => by
    cases y with
    | nil => simp [pileN, wides, PileIn]
    | cons a b => simp [pileN, PileIn]
  | r :: rs, [], h => by simp [pileN, PileIn]
  | r :: rs, x :: y, h => by
    have hr := h r (by simp)
    have ih := mem_pileN (rs := rs) (y := y) (fun r' hr' => h r' (by simp [hr']))
    have hw : 0 < r.wide := by unfold Ream.wide; omega
    have hw2 : r.lo + r.wide = r.hi + 1 := by unfold Ream.wide; omega
    simp only [PileIn, pileN, wides, List.cons.injEq, ← ih]
    constructor
    · rintro ⟨n, hn, rfl, he⟩
      have := Nat.mod_lt n hw
      refine ⟨by omega, by omega, n / r.wide, ?_, he⟩
      exact Nat.div_lt_of_lt_mul hn
    · rintro ⟨h1, h2, m, hm, rfl⟩
      refine ⟨(x - r.lo).toNat + r.wide * m, ?_, ?_, ?_⟩
      · have : r.wide * m + r.wide ≤ r.wide * wides rs := by
          rw [← Nat.mul_succ]; exact Nat.mul_le_mul_left _ hm
        omega
      · rw [Nat.add_mul_mod_self_left, Nat.mod_eq_of_lt (by omega)]; omega
      · rw [Nat.add_mul_div_left _ _ hw, Nat.div_eq_of_lt (by omega), Nat.zero_add]

theorem mem_pilesP {c : Case} (h : c.OK) {y : List Int} : y ∈ pilesP c ↔ y ∈ pilesL c := by
  rw [mem_pilesL h, ← mem_pileN (fun r hr => by have := h.sheets r hr; omega)]
  simp [pilesP]

/-! ## Orders -/
/-- What one order becomes, with one more gathering of the first m. -/
def grow (m : Nat) (o : List Int) : List (List Int) := ((List.range m).filter fun n : Nat => !decide ((n : Int) ∈ o)).map fun n : Nat => o ++ [(n : Int)]
def allO (m : Nat) : Nat → List (List Int)
  | 0 => [[]]
  | i + 1 => (allO m i).flatMap (grow m)

/-- All orders that begin with o, with k more gatherings. -/
def dfs (m : Nat) : Nat → List Int → List (List Int)
  | 0, o => [o]
  | k + 1, o => (grow m o).flatMap (dfs m k)

theorem dfs_all (m : Nat) : ∀ (k i : Nat), (allO m i).flatMap (dfs m k) = allO m (i + k)
  | 0, i => by
    have : ∀ l : List (List Int), l.flatMap (dfs m 0) = l := fun l => by
      induction l with
      | nil => rfl
      | cons a l ih => rw [List.flatMap_cons, ih]; rfl
    exact this _
  | k + 1, i => by
    rw [show i + (k + 1) = (i + 1) + k by omega, ← dfs_all m k (i + 1), allO, List.flatMap_assoc]
    rfl

theorem dfs_whole (m : Nat) : dfs m m [] = allO m m := by
  have := dfs_all m m 0
  simpa [allO] using this

theorem grow_len (m : Nat) (o : List Int) : (grow m o).length ≤ m := by
  unfold grow
  rw [List.length_map]
  exact Nat.le_trans (List.length_filter_le _ _) (by simp)

theorem flat_grow_len (m : Nat) : ∀ (l : List (List Int)), (l.flatMap (grow m)).length ≤ l.length * m
  | [] => by simp
  | o :: l => by
    have h1 := grow_len m o
    have h2 := flat_grow_len m l
    simp only [List.flatMap_cons, List.length_append, List.length_cons, Nat.add_mul]
    omega

theorem allO_len (m : Nat) : ∀ i, (allO m i).length ≤ m ^ i
  | 0 => by simp [allO]
  | i + 1 => by
    have h := allO_len m i
    rw [allO, Nat.pow_succ]
    exact Nat.le_trans (flat_grow_len m _) (Nat.mul_le_mul_right _ h)

theorem allO_each (m : Nat) : ∀ i, ∀ o ∈ allO m i, o.length = i ∧ o.Nodup ∧ ∀ x ∈ o, 0 ≤ x ∧ x < m
  | 0 => by simp [allO]
  | i + 1 => by
    intro o ho
    rw [allO, List.mem_flatMap] at ho
    obtain ⟨p, hp, ho⟩ := ho
    obtain ⟨h1, h2, h3⟩ := allO_each m i p hp
    unfold grow at ho
    rw [List.mem_map] at ho
    obtain ⟨n, hn, rfl⟩ := ho
    simp only [List.mem_filter, List.mem_range, Bool.not_eq_true', decide_eq_false_iff_not] at hn
    refine ⟨by simp [h1], ?_, fun x hx => ?_⟩
    · rw [List.nodup_append]
      refine ⟨h2, by simp, fun a ha b hb e => ?_⟩
      rw [List.mem_singleton] at hb
      subst hb; subst e
      exact hn.2 ha
    · rcases List.mem_append.1 hx with hx | hx
      · exact h3 x hx
      · rw [List.mem_singleton] at hx; omega

end Go.Proofs.Ytbcfmfiolbcclaa

namespace Go.Proofs.Ytbcfmfiolbcclaa
open Go.Avm

/-- Whether the i-th ream of a pile has a sheet of place p. -/
def covers (c : Case) (pile : List Int) (p i : Nat) : Bool :=
  decide ((pile.take i).sum < ((p : Int) + 1) * c.run) && decide ((p : Int) * c.run < (pile.take i).sum + pile.getD i 0)
def cov (c : Case) (pile : List Int) (p s i : Nat) : Bool := decide ((c.reams.map Ream.stock).getD i (-1) = s) && covers c pile p i
def covUp (c : Case) (pile : List Int) (p s k : Nat) : Bool := (List.range k).any (cov c pile p s)
def stocksAt (c : Case) (pile : List Int) (p k : Nat) : List Int := ((List.range k).filter fun s => covUp c pile p s pile.length).map fun s : Nat => (s : Int)
def placesUp (c : Case) (pile : List Int) (k : Nat) : List (List Int) := (List.range k).map fun p => stocksAt c pile p c.stocks.length
/-- The stocks of each place. -/
def placesL (c : Case) (pile : List Int) : List (List Int) := placesUp c pile c.gath.toNat

theorem covUp_succ (c : Case) (pile : List Int) (p s k : Nat) : covUp c pile p s (k + 1) = (covUp c pile p s k || cov c pile p s k) := by
  simp [covUp, List.range_succ]
theorem stocksAt_len (c : Case) (pile : List Int) (p k : Nat) : (stocksAt c pile p k).length ≤ k := by
  unfold stocksAt
  rw [List.length_map]
  exact Nat.le_trans (List.length_filter_le _ _) (by simp)
/-- A pile of a case. -/
structure PileOK (c : Case) (pile : List Int) : Prop where
  len : pile.length = c.reams.length
  each : ∀ x ∈ pile, 1 ≤ x ∧ x ≤ 2000

theorem PileOK.sum {c : Case} (h : c.OK) {pile : List Int} (hp : PileOK c pile) (k : Nat) : 0 ≤ (pile.take k).sum ∧ (pile.take k).sum ≤ 8000 := by
  have h1 := sum_bounds (pile.take k) (fun x hx => hp.each x (List.mem_of_mem_take hx))
  have h2 : (pile.take k).length ≤ pile.length := List.length_take_le' _ _
  have h3 := hp.len
  have h4 := h.reams
  omega

theorem pileIn_bounds : ∀ {rs : List Ream} {xs : List Int}, (∀ r ∈ rs, 1 ≤ r.lo ∧ r.hi ≤ 2000) → PileIn rs xs → ∀ x ∈ xs, 1 ≤ x ∧ x ≤ 2000
  | [], [], _, _ => by simp
  | [], _ :: _, _, h => h.elim
  | _ :: _, [], _, h => h.elim
  | r :: rs, y :: ys, hr, h => by
    intro x hx
    rcases List.mem_cons.1 hx with rfl | hx
    · have := hr r (by simp); have := h.1; have := h.2.1; omega
    · exact pileIn_bounds (fun r' h' => hr r' (by simp [h'])) h.2.2 x hx

theorem PileIn.ok {c : Case} (h : c.OK) {y : List Int} (hy : PileIn c.reams y) : PileOK c y :=
  ⟨pileIn_len hy, pileIn_bounds (fun r hr => by have := h.sheets r hr; omega) hy⟩
theorem pilesL_ok {c : Case} (h : c.OK) {y : List Int} (hy : y ∈ pilesL c) : PileOK c y := (((mem_pilesL h).1 hy).1).ok h

/-! ## Bits -/
/-- The stocks of a place, as bits, of the first i reams. -/
def maskUp (c : Case) (pile : List Int) (p : Nat) : Nat → Nat
  | 0 => 0
  | i + 1 => if covers c pile p i then maskUp c pile p i ||| 2 ^ ((c.reams.map Ream.stock).getD i 0).toNat else maskUp c pile p i
def maskP (c : Case) (pile : List Int) (p : Nat) : Nat := maskUp c pile p pile.length

theorem maskUp_bit {c : Case} (h : c.OK) (pile : List Int) (p s : Nat) : ∀ k, k ≤ c.reams.length → (maskUp c pile p k).testBit s = covUp c pile p s k
  | 0, _ => by simp [maskUp, covUp]
  | k + 1, hk => by
    have ih := maskUp_bit h pile p s k (by omega)
    have hr := h.ream (show k < c.reams.length by omega)
    have e0 : (c.reams.map Ream.stock).getD k 0 = c.reams[k].stock := by simp [show k < c.reams.length by omega]
    have e1 : (c.reams.map Ream.stock).getD k (-1) = c.reams[k].stock := by simp [show k < c.reams.length by omega]
    rw [covUp_succ, ← ih, maskUp, cov, e0, e1]
    by_cases hc : covers c pile p k = true
    · rw [if_pos hc, hc, Nat.testBit_or, Bool.and_true, Nat.testBit_two_pow]
      congr 1
      rw [decide_eq_decide]
      omega
    · rw [if_neg hc, show covers c pile p k = false by simpa using hc]
      simp

theorem maskUp_lt {c : Case} (h : c.OK) (pile : List Int) (p : Nat) : ∀ k, k ≤ c.reams.length → maskUp c pile p k < 2 ^ c.stocks.length
  | 0, _ => by simp [maskUp]; exact Nat.pow_pos (by omega)
  | k + 1, hk => by
    have ih := maskUp_lt h pile p k (by omega)
    have hr := h.ream (show k < c.reams.length by omega)
    have e0 : (c.reams.map Ream.stock).getD k 0 = c.reams[k].stock := by simp [show k < c.reams.length by omega]
    rw [maskUp, e0]
    split
    · exact Nat.or_lt_two_pow ih (Nat.pow_lt_pow_right (by omega) (by omega))
    · exact ih

theorem pow16 {c : Case} (h : c.OK) : 2 ^ c.stocks.length ≤ 16 := Nat.le_trans (Nat.pow_le_pow_right (by omega) h.stocks.2) (by decide)
theorem maskUp_16 {c : Case} (h : c.OK) (pile : List Int) (p : Nat) {k : Nat} (hk : k ≤ c.reams.length) : maskUp c pile p k < 16 := Nat.lt_of_lt_of_le (maskUp_lt h pile p k hk) (pow16 h)
theorem maskP_16 {c : Case} (h : c.OK) {pile : List Int} (hp : PileOK c pile) (p : Nat) : maskP c pile p < 16 := maskUp_16 h pile p (by rw [hp.len]; exact Nat.le_refl _)
theorem maskP_bit {c : Case} (h : c.OK) {pile : List Int} (hp : PileOK c pile) (p s : Nat) : (maskP c pile p).testBit s = covUp c pile p s pile.length := maskUp_bit h pile p s _ (by rw [hp.len]; exact Nat.le_refl _)

/-- The stocks that a gathering is seen with, as bits, by the first i that are seen, without some. -/
def wantUp (c : Case) (but g : Nat) : Nat → Nat
  | 0 => 0
  | i + 1 => if but.testBit i = false ∧ (c.seen.getD i (-1, 0)).1 = g then wantUp c but g i ||| 2 ^ (c.seen.getD i (-1, 0)).2.toNat else wantUp c but g i
def wantP (c : Case) (but g : Nat) : Nat := wantUp c but g c.seen.length

theorem wantUp_bit (c : Case) (but g s : Nat) : ∀ k, (wantUp c but g k).testBit s = true ↔ ∃ i, i < k ∧ but.testBit i = false ∧ (c.seen.getD i (-1, 0)).1 = g ∧ (c.seen.getD i (-1, 0)).2.toNat = s
  | 0 => by simp [wantUp]
  | k + 1 => by
    have ih := wantUp_bit c but g s k
    rw [wantUp]
    split
    · rename_i hb
      rw [Nat.testBit_or, Bool.or_eq_true, ih, Nat.testBit_two_pow, decide_eq_true_eq]
      constructor
      · rintro (⟨i, h1, h2⟩ | h1)
        · exact ⟨i, by omega, h2⟩
        · exact ⟨k, by omega, hb.1, hb.2, h1⟩
      · rintro ⟨i, h1, h2, h3, h4⟩
        by_cases e : i = k
        · subst e; exact .inr h4
        · exact .inl ⟨i, by omega, h2, h3, h4⟩
    · rename_i hb
      rw [ih]
      constructor
      · rintro ⟨i, h1, h2⟩
        exact ⟨i, by omega, h2⟩
      · rintro ⟨i, h1, h2, h3, h4⟩
        by_cases e : i = k
        · subst e; exact absurd ⟨h2, h3⟩ hb
        · exact ⟨i, by omega, h2, h3, h4⟩

theorem wantUp_16 {c : Case} (h : c.OK) (but g : Nat) : ∀ {k : Nat}, k ≤ c.seen.length → wantUp c but g k < 16
  | 0, _ => by simp [wantUp]
  | k + 1, hk => by
    have ih := wantUp_16 h but g (k := k) (by omega)
    have hr := h.seen _ (List.getElem_mem (show k < c.seen.length by omega))
    have e0 : c.seen.getD k (-1, 0) = c.seen[k] := by simp [show k < c.seen.length by omega]
    have hs := h.stocks
    rw [wantUp, e0]
    split
    · exact Nat.or_lt_two_pow (n := 4) ih (Nat.pow_lt_pow_right (by omega) (by omega))
    · exact ih
theorem wantP_16 {c : Case} (h : c.OK) (but g : Nat) : wantP c but g < 16 := wantUp_16 h but g (Nat.le_refl _)

/-- Whether each bit of a is one of b. -/
def subB (a b : Nat) : Bool := (List.range 4).all fun s => !a.testBit s || b.testBit s
theorem andNot_small : ∀ a : Nat, a < 16 → ∀ b : Nat, b < 16 → (bitI .andNot .i64 (a : Int) (b : Int) == 0) = subB a b := by decide +kernel
theorem or_small : ∀ a : Nat, a < 16 → ∀ b : Nat, b < 16 → bitI .or .i64 (a : Int) (b : Int) = ((a ||| b : Nat) : Int) := by decide +kernel
theorem and_small : ∀ a : Nat, a < 16 → ∀ b : Nat, b < 16 → bitI .and .i64 (a : Int) (b : Int) = ((a &&& b : Nat) : Int) := by decide +kernel
theorem and_all : ∀ b : Nat, b < 16 → bitI .and .i64 (-1) ((b : Nat) : Int) = b := by decide +kernel
theorem shl_small : ∀ k : Nat, k < 9 → IntKind.wrap .i64 (1 * 2 ^ (min k (IntKind.bits .i64))) = ((2 ^ k : Nat) : Int) := by decide +kernel

theorem subB_iff {a b : Nat} (ha : a < 16) : subB a b = true ↔ ∀ s, a.testBit s = true → b.testBit s = true := by
  unfold subB
  simp only [List.all_eq_true, List.mem_range, Bool.or_eq_true, Bool.not_eq_true']
  constructor
  · intro h s hs
    by_cases h4 : s < 4
    · rcases h s h4 with h | h
      · rw [hs] at h; cases h
      · exact h
    · rw [Nat.testBit_lt_two_pow (Nat.lt_of_lt_of_le (m := 2 ^ 4) ha (Nat.pow_le_pow_right (by omega) (by omega)))] at hs
      cases hs
  · intro h s _
    by_cases hs : a.testBit s = true
    · exact .inr (h s hs)
    · exact .inl (by simpa using hs)

/-- What the program asks of an order: at each place all that its gathering is seen with. -/
def fitsUp (c : Case) (but : Nat) (pile order : List Int) (k : Nat) : Bool := (List.range k).all fun p => subB (wantP c but (order.getD p 0).toNat) (maskP c pile p)
def fitsB (c : Case) (but : Nat) (pile order : List Int) : Bool := fitsUp c but pile order order.length
theorem fitsUp_succ (c : Case) (but : Nat) (pile order : List Int) (k : Nat) : fitsUp c but pile order (k + 1) = (fitsUp c but pile order k && subB (wantP c but (order.getD k 0).toNat) (maskP c pile k)) := by
  simp [fitsUp, List.range_succ]
theorem fitsUp_stop {c : Case} {but : Nat} {pile order : List Int} {k : Nat} (hk : k < order.length) (h : subB (wantP c but (order.getD k 0).toNat) (maskP c pile k) = false) : fitsB c but pile order = false := by
  unfold fitsB fitsUp
  rw [List.all_eq_false]
  exact ⟨k, by simpa using hk, by rw [h]; simp⟩

/-- Whether a pile and an order agree with what is seen, but for some of it. -/
def Agr (c : Case) (but : Nat → Bool) (pile order : List Int) : Prop :=
  ∀ i (hi : i < c.seen.length), but i = false → ∀ p (hp : p < order.length), order[p] = c.seen[i].1 → covUp c pile p c.seen[i].2.toNat pile.length = true

theorem fits_iff {c : Case} (h : c.OK) {but : Nat} {pile order : List Int} (hp : PileOK c pile) (ho : ∀ x ∈ order, 0 ≤ x) :
    fitsB c but pile order = true ↔ Agr c but.testBit pile order := by
  unfold fitsB fitsUp Agr
  simp only [List.all_eq_true, List.mem_range]
  constructor
  · intro hf i hi hb p hp' he
    have := (subB_iff (wantP_16 h but _)).1 (hf p hp') c.seen[i].2.toNat ((wantUp_bit c but _ _ _).2 ⟨i, hi, hb, ?_, ?_⟩)
    · rwa [maskP_bit h hp] at this
    · have := ho _ (List.getElem_mem hp')
      simp [hi, hp']; omega
    · simp [hi]
  · intro hf p hp'
    refine (subB_iff (wantP_16 h but _)).2 fun s hs => ?_
    obtain ⟨i, hi, hb, h1, h2⟩ := (wantUp_bit c but _ _ _).1 hs
    have e0 : c.seen.getD i (-1, 0) = c.seen[i] := by simp [hi]
    have e1 : order.getD p 0 = order[p] := by simp [hp']
    have := ho _ (List.getElem_mem hp')
    rw [e0] at h1 h2
    rw [e1] at h1
    rw [maskP_bit h hp, ← h2]
    exact hf i hi hb p hp' (by omega)

end Go.Proofs.Ytbcfmfiolbcclaa

namespace Go.Proofs.Ytbcfmfiolbcclaa
open Go.Avm

def selT (q : Nat → Bool) (n : Nat) : List Int := ((List.range n).filter q).map fun s : Nat => (s : Int)
theorem selT_zero (q : Nat → Bool) : selT q 0 = [] := rfl
theorem selT_succ (q : Nat → Bool) (n : Nat) : selT q (n + 1) = selT q n ++ if q n then [(n : Int)] else [] := by
  unfold selT
  rw [List.range_succ, List.filter_append, List.map_append]
  congr 1
  cases h : q n <;> simp [h]
theorem selT_t {q : Nat → Bool} {n : Nat} (h : q n = true) : selT q (n + 1) = selT q n ++ [(n : Int)] := by rw [selT_succ, h]; rfl
theorem selT_f {q : Nat → Bool} {n : Nat} (h : q n = false) : selT q (n + 1) = selT q n := by rw [selT_succ, h]; simp
theorem selT_len (q : Nat → Bool) (n : Nat) : (selT q n).length ≤ n := by
  unfold selT
  rw [List.length_map]
  exact Nat.le_trans (List.length_filter_le _ _) (by simp)
theorem selT_congr {q r : Nat → Bool} {n : Nat} (h : ∀ j < n, q j = r j) : selT q n = selT r n := by
  unfold selT
  rw [List.filter_congr (fun x hx => h x (List.mem_range.1 hx))]
theorem selT_more {q : Nat → Bool} {n : Nat} (h : ∀ j, n ≤ j → q j = false) : ∀ d, selT q (n + d) = selT q n
  | 0 => rfl
  | d + 1 => by rw [show n + (d + 1) = (n + d) + 1 from rfl, selT_f (h _ (by omega)), selT_more h d]
theorem mem_selT {q : Nat → Bool} {n j : Nat} : ((j : Int) ∈ selT q n) ↔ j < n ∧ q j = true := by
  unfold selT
  simp only [List.mem_map, List.mem_filter, List.mem_range]
  constructor
  · rintro ⟨i, hi, e⟩
    obtain rfl : i = j := by omega
    exact hi
  · intro h
    exact ⟨j, h, rfl⟩
theorem selT_mem {q : Nat → Bool} {n : Nat} {x : Int} (h : x ∈ selT q n) : ∃ j : Nat, x = j ∧ j < n ∧ q j = true := by
  unfold selT at h
  rw [List.mem_map] at h
  obtain ⟨j, hj, rfl⟩ := h
  exact ⟨j, rfl, by simpa using hj⟩

/-- The numbers of a set, by bits. -/
def bitsL (n : Nat) : List Int := selT (fun i => n.testBit i) 8
/-- How many bits a number takes. -/
def lenM (n : Nat) : Nat := ((List.range 9).find? fun i => n < 2 ^ i).getD 9

theorem bitsL_inj {a b : Nat} (ha : a < 256) (hb : b < 256) (h : bitsL a = bitsL b) : a = b := by
  apply Nat.eq_of_testBit_eq
  intro i
  by_cases hi : i < 8
  · have e : ((i : Int) ∈ bitsL a) ↔ ((i : Int) ∈ bitsL b) := by rw [h]
    unfold bitsL at e
    rw [mem_selT, mem_selT] at e
    simp only [hi, true_and] at e
    exact Bool.eq_iff_iff.2 e
  · rw [Nat.testBit_lt_two_pow (Nat.lt_of_lt_of_le (m := 2 ^ 8) ha (Nat.pow_le_pow_right (by omega) (by omega))), Nat.testBit_lt_two_pow (Nat.lt_of_lt_of_le (m := 2 ^ 8) hb (Nat.pow_le_pow_right (by omega) (by omega)))]

def lexL : List Int → List Int → Bool
  | x :: xs, y :: ys => if x = y then lexL xs ys else decide (x < y)
  | _, _ => false
def cmpL : List Int → List Int → Int
  | x :: xs, y :: ys => if x < y then -1 else if y < x then 1 else cmpL xs ys
  | _, _ => 0
/-- Whether a list is shorter, or as long and ahead. -/
def lessL (a b : List Int) : Bool := if a.length ≠ b.length then decide (a.length < b.length) else lexL a b

theorem cmp_lex : ∀ (a b : List Int), decide (cmpL a b < 0) = lexL a b
  | [], [] => rfl
  | [], _ :: _ => rfl
  | _ :: _, [] => rfl
  | x :: xs, y :: ys => by
    unfold cmpL lexL
    by_cases h1 : x < y
    · have h2 : ¬ x = y := by omega
      simp [h1, h2]
    · by_cases h3 : y < x
      · have h2 : ¬ x = y := by omega
        simp [h1, h2, h3]
      · have h2 : x = y := by omega
        simp [h2, cmp_lex xs ys]

theorem lexL_total : ∀ {a b : List Int}, a.length = b.length → a ≠ b → lexL a b = false → lexL b a = true
  | [], [], _, h, _ => absurd rfl h
  | x :: xs, y :: ys, hl, h, hf => by
    unfold lexL at hf ⊢
    by_cases e : x = y
    · subst e
      rw [if_pos rfl] at hf ⊢
      exact lexL_total (by simpa using hl) (fun e => h (by rw [e])) hf
    · rw [if_neg e] at hf
      rw [if_neg (fun h => e h.symm)]
      simp at hf ⊢
      omega
theorem lexL_trans : ∀ {a b c : List Int}, lexL a b = true → lexL b c = true → lexL a c = true
  | [], _, _, h, _ => by simp [lexL] at h
  | _ :: _, [], _, h, _ => by simp [lexL] at h
  | _ :: _, _ :: _, [], _, h => by simp [lexL] at h
  | x :: xs, y :: ys, z :: zs, h1, h2 => by
    unfold lexL at h1 h2 ⊢
    by_cases e1 : x = y
    · subst e1
      rw [if_pos rfl] at h1
      by_cases e2 : x = z
      · subst e2
        rw [if_pos rfl] at h2 ⊢
        exact lexL_trans h1 h2
      · rw [if_neg e2] at h2 ⊢
        exact h2
    · rw [if_neg e1] at h1
      simp only [decide_eq_true_eq] at h1
      by_cases e2 : y = z
      · subst e2
        rw [if_neg e1]
        simpa using h1
      · rw [if_neg e2] at h2
        simp only [decide_eq_true_eq] at h2
        rw [if_neg (by omega)]
        simp; omega
theorem lessL_total {a b : List Int} (h : a ≠ b) (hf : lessL a b = false) : lessL b a = true := by
  unfold lessL at hf ⊢
  by_cases e : a.length = b.length
  · rw [if_neg (not_not_intro e)] at hf
    rw [if_neg (not_not_intro e.symm)]
    exact lexL_total e h hf
  · rw [if_pos e] at hf
    rw [if_pos (fun h => e h.symm)]
    simp at hf ⊢
    omega
theorem lessL_trans {a b c : List Int} (h1 : lessL a b = true) (h2 : lessL b c = true) : lessL a c = true := by
  unfold lessL at h1 h2 ⊢
  split at h1 <;> split at h2
  · rw [decide_eq_true_eq] at h1 h2; rw [if_pos (by omega)]; simp; omega
  · rw [decide_eq_true_eq] at h1; rw [if_pos (by omega)]; simp; omega
  · rw [decide_eq_true_eq] at h2; rw [if_pos (by omega)]; simp; omega
  · rw [if_neg (by omega)]; exact lexL_trans h1 h2
/-- The first of the sets below k that pass, in the order of their lists. -/
def bestUp (q : Nat → Bool) : Nat → Option Nat
  | 0 => none
  | k + 1 => match bestUp q k with
    | none => if q k then some k else none
    | some b => if lessL (bitsL k) (bitsL b) && q k then some k else some b

theorem bestUp_spec (q : Nat → Bool) : ∀ k, k ≤ 256 → match bestUp q k with
    | none => ∀ j < k, q j = false
    | some b => b < k ∧ q b = true ∧ ∀ j < k, q j = true → j = b ∨ lessL (bitsL b) (bitsL j) = true
  | 0, _ => by simp [bestUp]
  | k + 1, hk => by
    have ih := bestUp_spec q k (by omega)
    unfold bestUp
    generalize bestUp q k = o at ih
    cases o with
    | none =>
      simp only at ih ⊢
      cases hq : q k with
      | true =>
        refine ⟨by omega, hq, fun j hj hqj => ?_⟩
        by_cases e : j = k
        · exact .inl e
        · rw [ih j (by omega)] at hqj; cases hqj
      | false =>
        intro j hj
        by_cases e : j = k
        · rw [e, hq]
        · exact ih j (by omega)
    | some b =>
      obtain ⟨h1, h2, h3⟩ := ih
      show (match (if lessL (bitsL k) (bitsL b) && q k then some k else some b : Option Nat) with | none => _ | some b => _)
      cases hl : lessL (bitsL k) (bitsL b) && q k with
      | true =>
        rw [Bool.and_eq_true] at hl
        show k < k + 1 ∧ _
        refine ⟨by omega, hl.2, fun j hj hqj => ?_⟩
        by_cases e : j = k
        · exact .inl e
        · rcases h3 j (by omega) hqj with rfl | h
          · exact .inr hl.1
          · exact .inr (lessL_trans hl.1 h)
      | false =>
        show b < k + 1 ∧ _
        refine ⟨by omega, h2, fun j hj hqj => ?_⟩
        by_cases e : j = k
        · subst e
          rw [hqj, Bool.and_true] at hl
          exact .inr (lessL_total (fun e => by have := bitsL_inj (by omega) (by omega) e; omega) hl)
        · exact h3 j (by omega) hqj

end Go.Proofs.Ytbcfmfiolbcclaa

namespace Go.Proofs.Ytbcfmfiolbcclaa
open Go.Avm

theorem fits_len {sz : Nat} {xs : List AV} {r : Nat} (h : Fits (.slice sz xs r)) : xs.length ≤ 140737488355328 := by
  obtain ⟨w, A, v, h⟩ := h
  cases h with
  | nils => simp
  | slice _ _ _ b off cap vs hsz h1c hcap hlen hc hr => exact hlen


@[simp] theorem big_ne (b k : Nat) (h : k < 1000001) : (1000001 + b = k) = False := by simp; omega
@[simp] theorem big_ne' (b k : Nat) (h : k < 1000001) : (k = 1000001 + b) = False := by simp; omega
@[simp] theorem big_le (b : Nat) : (1000000 ≤ 1000001 + b) = True := by simp; omega

theorem loadK_ref (loc : Nat → Option (List AV)) (cs : List AV) (K : AV → Prop) : loadK loc (.ref cs) none K = (0 < cs.length ∧ K (cs.getD 0 .any).erase) := rfl
theorem loadK_refn (loc : Nat → Option (List AV)) (cs : List AV) (n : Nat) (K : AV → Prop) : loadK loc (.ref cs) (some n) K = (0 + n ≤ cs.length ∧ K (AV.agg ((cs.drop 0).take n)).erase.erase) := rfl
theorem loadK_mref (loc : Nat → Option (List AV)) (b o : Nat) (n : Option Nat) (K : AV → Prop) : loadK loc (.mref b o) n K = (match loc b with | some cs => partK cs o n K | none => False) := rfl
theorem partK_none (cs : List AV) (o : Nat) (K : AV → Prop) : partK cs o none K = (o < cs.length ∧ K (cs.getD o .any)) := rfl
theorem partK_some (cs : List AV) (o n : Nat) (K : AV → Prop) : partK cs o (some n) K = (o + n ≤ cs.length ∧ K (AV.agg ((cs.drop o).take n)).erase) := rfl
attribute [simp] loadK_ref loadK_refn loadK_mref partK_none partK_some

/-- The place of the first with a property, -1 where there is none. -/
def firstAt {α : Type} (p : α → Bool) (l : List α) : Int := match l.findIdx? p with
  | some i => i
  | none => -1

theorem firstAt_some {α : Type} {p : α → Bool} {l : List α} {k : Nat} (hk : k < l.length) (h : p l[k] = true) (hno : ∀ x ∈ l.take k, p x = false) : firstAt p l = k := by
  have : l.findIdx? p = some k := by
    rw [List.findIdx?_eq_some_iff_getElem]
    refine ⟨hk, h, fun j hj => ?_⟩
    have := hno l[j] (List.mem_take_iff_getElem.2 ⟨j, by omega, rfl⟩)
    simp [this]
  simp [firstAt, this]

theorem firstAt_none {α : Type} {p : α → Bool} {l : List α} (hno : ∀ x ∈ l, p x = false) : firstAt p l = -1 := by
  have : l.findIdx? p = none := by rw [List.findIdx?_eq_none_iff]; simpa using hno
  simp [firstAt, this]

theorem indexFunc_ok (l : List Int) (f : FuncId) (caps : List AV) (p : Int → Bool) (hp : ∀ x ∈ l, PCall Try.prog f (I x :: caps) (B (p x))) :
    PCall Try.prog 97 [IL l, .func (.func f) [] caps] (I (firstAt p l)) := by
  refine pcall Try.func97 tr97 rs97 fn97 (by simp [Try.ntmps97]) fun hfit => ?_
  have hl := fits_len (hfit 0)
  simp only [List.length_map] at hl
  simp -implicitDefEqProofs [m97]
  refine loop_up l.length (fun k s => s.env 0 = IL l ∧ s.env 1 = .func (.func f) [] caps ∧ s.env 7 = I l.length ∧ s.env 8 = I k ∧ ∀ x ∈ l.take k, p x = false) ?_ ?_
  · simp
  · rintro k s hk ⟨e0, e1, e7, e8, hno⟩
    simp -implicitDefEqProofs [e7, e8]
    refine cond_dec (fun hlt => ?_) (fun hge => ?_)
    · simp -implicitDefEqProofs [e0, e1, e8, hlt, vCallv]
      refine vCall_of (hp l[k] (List.getElem_mem _)) ?_
      simp -implicitDefEqProofs
      refine cond_bool (fun he => ?_) (fun he => ?_)
      · have hc := firstAt_some hlt he hno
        simp -implicitDefEqProofs [r97, hc]
      · simp -implicitDefEqProofs [e8]
        refine ⟨i64 (by omega) (by omega), round_ok hlt ⟨by simp [e0], by simp [e1], by simp [e7], by simp, ?_⟩⟩
        intro x hx
        rw [take_snoc hlt, List.mem_append, List.mem_singleton] at hx
        rcases hx with hx | rfl
        · exact hno x hx
        · exact he
    · obtain rfl : k = l.length := by omega
      rw [List.take_length] at hno
      have hc := firstAt_none hno
      simp -implicitDefEqProofs [r97, hc]

theorem firstAt_any {α : Type} (p : α → Bool) (l : List α) : decide (0 ≤ firstAt p l) = l.any p := by
  unfold firstAt
  cases h : l.findIdx? p with
  | none =>
    rw [List.findIdx?_eq_none_iff] at h
    simpa using h
  | some i =>
    obtain ⟨hi, hp, _⟩ := List.findIdx?_eq_some_iff_getElem.1 h
    simp
    exact ⟨_, List.getElem_mem hi, hp⟩

theorem outside1_ok (n lo hi : Int) : PCall Try.prog 83 [I n, .ref [I lo], .ref [I hi]] (B (decide (n < lo) || decide (hi < n))) := by
  refine pcall Try.func83 tr83 rs83 fn83 (by simp [Try.ntmps83]) fun _ => ?_
  by_cases h : n < lo <;> simp -implicitDefEqProofs [m83, r83, h, vLoad, vPart]

theorem containsFunc_ok (l : List Int) (f : FuncId) (caps : List AV) (p : Int → Bool) (hp : ∀ x ∈ l, PCall Try.prog f (I x :: caps) (B (p x))) :
    PCall Try.prog 82 [IL l, .func (.func f) [] caps] (B (l.any p)) := by
  refine pcall Try.func82 tr82 rs82 fn82 (by simp [Try.ntmps82]) fun _ => ?_
  simp -implicitDefEqProofs [m82]
  refine vCall_of (indexFunc_ok l f caps p hp) ?_
  simp -implicitDefEqProofs [r82, firstAt_any]

/-- Whether one of some numbers is not from lo to hi. -/
def out (lo hi : Int) (l : List Int) : Bool := l.any fun n => decide (n < lo) || decide (hi < n)

theorem outside_ok (lo hi : Int) (l : List Int) : PCall Try.prog 48 [I lo, I hi, IL l] (B (out lo hi l)) := by
  refine pcall Try.func48 tr48 rs48 fn48 (by simp [Try.ntmps48]) fun _ => ?_
  simp -implicitDefEqProofs [m48]
  refine vCall_of (containsFunc_ok l 83 [.ref [I lo], .ref [I hi]] _ fun x _ => outside1_ok x lo hi) ?_
  simp -implicitDefEqProofs [r48, out]

theorem in_ok (n lo hi : Int) : PCall Try.prog 52 [I n, I lo, I hi] (B (decide (lo ≤ n ∧ n ≤ hi))) := by
  refine pcall Try.func52 tr52 rs52 fn52 (by simp [Try.ntmps52]) fun _ => ?_
  by_cases h : lo ≤ n <;> simp -implicitDefEqProofs [m52, r52, h]

/-- A byte of a string. -/
def bt (s : ByteArray) (k : Nat) : Nat := (s.data.toList.getD k 0).toNat

theorem data_bt (s : ByteArray) (k : Nat) (h : k < s.data.size) : (s.data[k]'h).toNat = bt s k := by
  have : s.data[k]? = some (s.data[k]'h) := Array.getElem?_eq_getElem h
  simp [bt, List.getD_eq_getElem?_getD, this]

theorem get_bt (s : ByteArray) {k : Nat} (h : k < s.size) : (s.get! k).toNat = bt s k := by
  cases s with
  | mk a =>
    have h' : k < a.size := h
    simp [ByteArray.get!, bt, List.getD_eq_getElem?_getD, h']

theorem decode_small {s : ByteArray} {k : Nat} (h : k < s.size) (hb : bt s k < 128) : Utf8.decode s k = (bt s k, 1) := by
  have e := get_bt s h
  unfold Utf8.decode
  simp only [Nat.add_zero, e, hb, if_true]

theorem decode_big {s : ByteArray} {k : Nat} (h : k < s.size) (hb : ¬ bt s k < 128) : 128 ≤ (Utf8.decode s k).1 := by
  have e := get_bt s h
  unfold Utf8.decode
  simp only [Nat.add_zero, e, hb, if_false]
  repeat' split
  all_goals simp_all [Utf8.runeError]
  all_goals omega

def isLetter (c : Nat) : Bool := decide (97 ≤ c ∧ c ≤ 122)
def isDigit (c : Nat) : Bool := decide (48 ≤ c ∧ c ≤ 57)
/-- Whether a letter of a name may be at a place. -/
def okAt (k c : Nat) : Bool := isLetter c || (decide (0 < k) && (isDigit c || decide (c = 46)))

def nameOK (s : ByteArray) : Bool := decide (0 < s.size ∧ s.size ≤ 16 ∧ ∀ k < s.size, okAt k (bt s k) = true)

theorem letter_ok (c : Nat) : PCall Try.prog 98 [.lit (.int .u8 c)] (B (isLetter c)) := by
  refine pcall Try.func98 tr98 rs98 fn98 (by simp [Try.ntmps98]) fun _ => ?_
  by_cases h : 97 ≤ c
  · have h' : (97 : Int) ≤ (c : Int) := by omega
    have e : isLetter c = decide ((c : Int) ≤ 122) := by unfold isLetter; rw [decide_eq_decide]; omega
    simp -implicitDefEqProofs [m98, r98, h', e]
  · have h' : ¬ (97 : Int) ≤ (c : Int) := by omega
    have e : isLetter c = false := by unfold isLetter; simp; omega
    simp -implicitDefEqProofs [m98, r98, h', e]

theorem digit_ok (c : Nat) : PCall Try.prog 99 [.lit (.int .u8 c)] (B (isDigit c)) := by
  refine pcall Try.func99 tr99 rs99 fn99 (by simp [Try.ntmps99]) fun _ => ?_
  by_cases h : 48 ≤ c
  · have h' : (48 : Int) ≤ (c : Int) := by omega
    have e : isDigit c = decide ((c : Int) ≤ 57) := by unfold isDigit; rw [decide_eq_decide]; omega
    simp -implicitDefEqProofs [m99, r99, h', e]
  · have h' : ¬ (48 : Int) ≤ (c : Int) := by omega
    have e : isDigit c = false := by unfold isDigit; simp; omega
    simp -implicitDefEqProofs [m99, r99, h', e]

theorem name_ref_ok (s : ByteArray) : PCall Try.prog 86 [S s] (B (nameOK s)) := by
  refine pcall Try.func86 tr86 rs86 fn86 (by simp [Try.ntmps86]) fun _ => ?_
  by_cases h0 : s.size = 0
  · have e : nameOK s = false := decide_eq_false fun h => by obtain ⟨_, _, _⟩ := h; omega
    simp -implicitDefEqProofs [m86, r86, h0, e]
  by_cases h1 : (16 : Int) < s.size
  · have e : nameOK s = false := decide_eq_false fun h => by obtain ⟨_, _, _⟩ := h; omega
    have h0' : ((s.size : Int) == 0) = false := beq_eq_false_iff_ne.2 (by omega)
    simp -implicitDefEqProofs [m86, r86, h0', h1, e]
  have h0' : ((s.size : Int) == 0) = false := beq_eq_false_iff_ne.2 (by omega)
  simp -implicitDefEqProofs [m86, h0', h1]
  refine loop_up s.size (fun k st => st.env 0 = S s ∧ st.env 3 = I k ∧ ∀ j < k, okAt j (bt s j) = true) ?_ ?_
  · simp
  · rintro k st hk ⟨e0, e3, hno⟩
    simp -implicitDefEqProofs [e0, e3]
    refine cond_dec (fun hlt => ?_) (fun hge => ?_)
    · have hlt' : k < s.size := by omega
      simp -implicitDefEqProofs [e0, e3, hlt', data_bt]
      refine vCall_of (letter_ok (bt s k)) ?_
      have next : okAt k (bt s k) = true → ∀ j < k + 1, okAt j (bt s j) = true := fun h j hj => by
        rcases Nat.lt_succ_iff_lt_or_eq.1 hj with hj | rfl
        · exact hno j hj
        · exact h
      have bad : okAt k (bt s k) = false → nameOK s = false := fun h => by
        unfold nameOK
        simp only [decide_eq_false_iff_not]
        rintro ⟨_, _, h'⟩
        rw [h' k hlt'] at h
        cases h
      cases hL : isLetter (bt s k) with
      | true =>
        simp -implicitDefEqProofs [e3]
        exact ⟨i64 (by omega) (by omega), round_ok hlt' ⟨by simp [e0], by simp, next (by simp [okAt, hL])⟩⟩
      | false =>
        by_cases hk0 : k = 0
        · subst hk0
          simp -implicitDefEqProofs [e3]
          simp -implicitDefEqProofs [r86, bad (by simp [okAt, hL])]
        · have hk0' : ((k : Int) == 0) = false := beq_eq_false_iff_ne.2 (by omega)
          simp -implicitDefEqProofs [e0, e3, hk0', hlt', data_bt]
          refine vCall_of (digit_ok (bt s k)) ?_
          cases hD : isDigit (bt s k) with
          | true =>
            simp -implicitDefEqProofs [e3]
            exact ⟨i64 (by omega) (by omega), round_ok hlt' ⟨by simp [e0], by simp, next (by simp [okAt, hL, hD]; omega)⟩⟩
          | false =>
            simp -implicitDefEqProofs [e0, e3, hlt', data_bt]
            refine cond_bool (fun he => ?_) (fun he => ?_)
            · simp -implicitDefEqProofs [r86]
              refine bad ?_
              have : bt s k ≠ 46 := by simp at he; omega
              simp [okAt, hL, hD, this]
            · simp -implicitDefEqProofs [e3]
              refine ⟨i64 (by omega) (by omega), round_ok hlt' ⟨by simp [e0], by simp, next ?_⟩⟩
              have : bt s k = 46 := by simp at he; omega
              simp [okAt, this]; omega
    · obtain rfl : k = s.size := by omega
      have e : nameOK s = true := by unfold nameOK; simp; exact ⟨by omega, by omega, hno⟩
      simp -implicitDefEqProofs [r86, e]

theorem okAt_lt {k c : Nat} (h : okAt k c = true) : c < 128 := by
  simp [okAt, isLetter, isDigit] at h
  omega

theorem okAt_decode {s : ByteArray} {k : Nat} (h : k < s.size) : okAt k (Utf8.decode s k).1 = okAt k (bt s k) ∧ (okAt k (Utf8.decode s k).1 = true → (Utf8.decode s k).2 = 1) := by
  by_cases hb : bt s k < 128
  · rw [decode_small h hb]; exact ⟨rfl, fun _ => rfl⟩
  · have h1 := decode_big h hb
    have e1 : okAt k (Utf8.decode s k).1 = false := by
      cases e : okAt k (Utf8.decode s k).1 with
      | false => rfl
      | true => have := okAt_lt e; omega
    have e2 : okAt k (bt s k) = false := by
      cases e : okAt k (bt s k) with
      | false => rfl
      | true => have := okAt_lt e; omega
    rw [e1, e2]; exact ⟨rfl, fun h => by cases h⟩

theorem loop_eq (s : ByteArray) : ∀ (n i : Nat) (r : List UInt8), s.size - i = n → ByteArray.toList.loop s i r = r.reverse ++ s.data.toList.drop i
  | 0, i, r, h => by
    unfold ByteArray.toList.loop
    have : ¬ i < s.size := by omega
    rw [if_neg this, List.drop_of_length_le (by simpa using (by omega : s.size ≤ i)), List.append_nil]
  | n + 1, i, r, h => by
    unfold ByteArray.toList.loop
    have hi : i < s.size := by omega
    rw [if_pos hi, loop_eq s n (i + 1) _ (by omega)]
    have e : s.data.toList.drop i = s.get! i :: s.data.toList.drop (i + 1) := by
      rw [List.drop_eq_getElem_cons (by simpa using hi)]
      congr 1
      cases s with
      | mk a =>
        have hi' : i < a.size := hi
        simp [ByteArray.get!, hi']
    rw [e]
    simp
theorem toList_data (s : ByteArray) : s.toList = s.data.toList := by
  unfold ByteArray.toList
  rw [loop_eq s _ 0 [] rfl]; simp

theorem isEmpty_str (s : ByteArray) : s.toList.isEmpty = decide (s.size = 0) := by
  rw [toList_data]
  have : s.size = s.data.toList.length := by simp
  rw [this]
  cases s.data.toList <;> simp

theorem name_ok (s : ByteArray) : PCall Try.prog 49 [S s] (B (nameOK s)) := by
  refine pcall Try.func49 tr49 rs49 fn49 (by simp [Try.ntmps49]) fun _ => ?_
  simp -implicitDefEqProofs [m49]
  intro b
  refine loop_up s.size (fun k st => st.env 0 = S s ∧ st.env 6 = .mref b 0 ∧ st.env (oS + b) = itAV s k ∧ ∀ j < k, okAt j (bt s j) = true) ?_ ?_
  · simp
  · rintro k st hk ⟨e0, e6, eo, hno⟩
    simp -implicitDefEqProofs [e6]
    refine ⟨s, k, by simpa using eo, fun hlt => ?_, fun hge => ?_⟩
    · obtain ⟨d1, d2⟩ := okAt_decode hlt
      generalize hr : (Utf8.decode s k).1 = r at d1 d2
      have good : okAt k r = true → (Utf8.decode s k).2 = 1 ∧ ∀ j < k + 1, okAt j (bt s j) = true := fun h => ⟨d2 h, fun j hj => by
        rcases Nat.lt_succ_iff_lt_or_eq.1 hj with hj | rfl
        · exact hno j hj
        · rw [← d1]; exact h⟩
      have bad : okAt k r = false → nameOK s = false := fun h => decide_eq_false fun h' => by
        have := h'.2.2 k hlt
        rw [← d1, h] at this
        cases this
      by_cases c1 : (97 : Int) ≤ (r : Int)
      · by_cases c2 : (r : Int) ≤ 122
        · simp -implicitDefEqProofs [c1, c2]
          have hg := good (by simp [okAt, isLetter]; omega)
          rw [hg.1]
          exact round_ok hlt ⟨by simp [e0], by simp [e6], by simp, hg.2⟩
        · simp -implicitDefEqProofs [c1, c2]
          by_cases c3 : 0 < k
          · have c4 : (48 : Int) ≤ (r : Int) := by omega
            have c5 : ¬ (r : Int) ≤ 57 := by omega
            have c6 : ((r : Int) == 46) = false := beq_eq_false_iff_ne.2 (by omega)
            simp -implicitDefEqProofs [c3, c4, c5, c6]
            simp -implicitDefEqProofs [r49, bad (by simp [okAt, isLetter, isDigit]; omega)]
          · simp -implicitDefEqProofs [c3]
            simp -implicitDefEqProofs [r49, bad (by simp [okAt, isLetter, c3]; omega)]
      · simp -implicitDefEqProofs [c1]
        by_cases c3 : 0 < k
        · by_cases c4 : (48 : Int) ≤ (r : Int)
          · by_cases c5 : (r : Int) ≤ 57
            · simp -implicitDefEqProofs [c3, c4, c5]
              have hg := good (by simp [okAt, isDigit, c3]; omega)
              rw [hg.1]
              exact round_ok hlt ⟨by simp [e0], by simp [e6], by simp, hg.2⟩
            · have c6 : ((r : Int) == 46) = false := beq_eq_false_iff_ne.2 (by omega)
              simp -implicitDefEqProofs [c3, c4, c5, c6]
              simp -implicitDefEqProofs [r49, bad (by simp [okAt, isLetter, isDigit]; omega)]
          · simp -implicitDefEqProofs [c3, c4]
            refine cond_bool (fun he => ?_) (fun he => ?_)
            · have hr : (r : Int) = 46 := by simpa using he
              have hg := good (by simp [okAt, c3]; omega)
              simp -implicitDefEqProofs
              rw [hg.1]
              exact round_ok hlt ⟨by simp [e0], by simp [e6], by simp, hg.2⟩
            · have hr : (r : Int) ≠ 46 := by simpa using he
              simp -implicitDefEqProofs [r49, bad (by simp [okAt, isLetter, isDigit]; omega)]
        · simp -implicitDefEqProofs [c3]
          simp -implicitDefEqProofs [r49, bad (by simp [okAt, isLetter, c3]; omega)]
    · obtain rfl : k = s.size := by omega
      simp -implicitDefEqProofs [e0]
      rw [isEmpty_str]
      by_cases h0 : s.size = 0
      · have e : nameOK s = false := decide_eq_false fun h => by obtain ⟨_, _, _⟩ := h; omega
        simp -implicitDefEqProofs [h0, r49, e]
      · simp -implicitDefEqProofs [h0, r49, e0]
        by_cases h1 : s.size ≤ 16
        · have e : nameOK s = true := decide_eq_true ⟨by omega, h1, hno⟩
          rw [e]; simp; omega
        · have e : nameOK s = false := decide_eq_false fun h => by obtain ⟨_, _, _⟩ := h; omega
          rw [e]; simp; omega
def sEq (p q : ByteArray) : Bool := p.toList == q.toList

theorem place_ok (l : List ByteArray) (x : ByteArray) : PCall Try.prog 85 [SL l, S x] (I (firstAt (fun y => sEq y x) l)) := by
  refine pcall Try.func85 tr85 rs85 fn85 (by simp [Try.ntmps85]) fun hfit => ?_
  have hl := fits_len (hfit 0)
  simp only [List.length_map] at hl
  simp -implicitDefEqProofs [m85]
  refine ⟨i64 (by omega) (by omega), ?_⟩
  refine loop_up l.length (fun k s => s.env 0 = SL l ∧ s.env 1 = S x ∧ (∃ i : Int, i = l.length - 1 - k ∧ s.env 5 = I i) ∧ ∀ j (hj : j < l.length), l.length < j + 1 + k → sEq l[j] x = false) ?_ ?_
  · simp
    intro j hj h; omega
  · rintro k s hk ⟨e0, e1, ⟨i, hi, e5⟩, hno⟩
    simp -implicitDefEqProofs [e5]
    by_cases hlt : k < l.length
    · have h0 : 0 ≤ i := by omega
      obtain ⟨n, rfl⟩ : ∃ n : Nat, i = n := ⟨i.toNat, by omega⟩
      have hn : n < l.length := by omega
      simp -implicitDefEqProofs [e0, e1, e5, hn]
      refine cond_bool (fun he => ?_) (fun he => ?_)
      · simp -implicitDefEqProofs [e5]
        refine ⟨i64 (by omega) (by omega), round_ok hlt ⟨by simp [e0], by simp [e1], by simp; omega, ?_⟩⟩
        intro j hj hjk
        by_cases hjj : n < j
        · exact hno j hj (by omega)
        · obtain rfl : j = n := by omega
          simpa [sEq] using he
      · have hx : sEq l[n] x = true := by simpa [sEq] using he
        simp -implicitDefEqProofs
        refine loop_up n (fun j s => s.env 0 = SL l ∧ s.env 1 = S x ∧ s.env 5 = I n ∧ s.env 6 = I j ∧ ∀ y ∈ l.take j, sEq y x = false) ?_ ?_
        · simp [e0, e1, e5]
        · rintro j s hj ⟨e0, e1, e5, e6, hno'⟩
          simp -implicitDefEqProofs [e5, e6]
          refine cond_dec (fun hlt => ?_) (fun hge => ?_)
          · have hjl : j < l.length := by omega
            simp -implicitDefEqProofs [e0, e1, e6, hjl]
            refine cond_bool (fun he => ?_) (fun he => ?_)
            · have hc := firstAt_some (p := fun y => sEq y x) hjl (by simpa [sEq] using he) hno'
              simp -implicitDefEqProofs [r85, e6, hc]
            · simp -implicitDefEqProofs [e6]
              refine ⟨i64 (by omega) (by omega), round_ok (by omega) ⟨by simp [e0], by simp [e1], by simp [e5], by simp, ?_⟩⟩
              intro y hy
              rw [take_snoc hjl, List.mem_append, List.mem_singleton] at hy
              rcases hy with hy | rfl
              · exact hno' y hy
              · simpa [sEq] using he
          · obtain rfl : j = n := by omega
            have hc := firstAt_some (p := fun y => sEq y x) hn hx hno'
            simp -implicitDefEqProofs [r85, e5, hc]
    · obtain rfl : k = l.length := by omega
      have h0 : ¬ 0 ≤ i := by omega
      have h1 : i = -1 := by omega
      subst h1
      simp -implicitDefEqProofs
      have hc := firstAt_none (p := fun y => sEq y x) (l := l) (fun y hy => by
        obtain ⟨j, hj, rfl⟩ := List.mem_iff_getElem.1 hy
        exact hno j hj (by omega))
      refine loop_up 0 (fun j s => s.env 5 = I (-1) ∧ s.env 6 = I 0) ?_ ?_
      · simp [e5]
      · rintro j s hj ⟨e5, e6⟩
        simp -implicitDefEqProofs [e5, e6, r85, hc]

/-- The error of a name, behind others. -/
def namedE (name : ByteArray) (before : List ByteArray) : Int := if nameOK name then (if before.any fun s => sEq s name then 5 else 0) else 6

theorem fresh_ok (name : ByteArray) (l : List ByteArray) : PCall Try.prog 53 [S name, SL l] (I (namedE name l)) := by
  refine pcall Try.func53 tr53 rs53 fn53 (by simp [Try.ntmps53]) fun hfit => ?_
  simp -implicitDefEqProofs [m53]
  refine vCall_of (place_ok l name) ?_
  have e := firstAt_any (fun y => sEq y name) l
  cases h : l.any fun y => sEq y name with
  | true =>
    rw [h] at e
    have e' : 0 ≤ firstAt (fun y => sEq y name) l := of_decide_eq_true e
    simp -implicitDefEqProofs [e']
    refine vCall_of (name_ref_ok name) ?_
    cases hn : nameOK name <;> simp -implicitDefEqProofs [r53, namedE, hn, h]
  | false =>
    rw [h] at e
    have e' : ¬ 0 ≤ firstAt (fun y => sEq y name) l := of_decide_eq_false e
    simp -implicitDefEqProofs [e']
    refine vCall_of (name_ref_ok name) ?_
    cases hn : nameOK name <;> simp -implicitDefEqProofs [r53, namedE, hn, h]

theorem fits_agg {cs : List AV} (h : Fits (.agg cs)) (i : Nat) : Fits (cs.getD i .any) := by
  obtain ⟨w, A, v, h⟩ := h
  cases h with
  | agg _ vs hs hr => exact ⟨w, A, _, hr i⟩

theorem drop_cons {α : Type} {l : List α} {k : Nat} (h : k < l.length) : l.drop k = l[k] :: l.drop (k + 1) := List.drop_eq_getElem_cons h
end Go.Proofs.Ytbcfmfiolbcclaa

namespace Go.Proofs.Ytbcfmfiolbcclaa
open Go.Avm
/-- The place of a number in a list, -1 where it is none. -/
def at' (l : List Int) (x : Int) : Int := match l.idxOf? x with
  | some i => i
  | none => -1

theorem ints_ok (a b : List Int) : PCall Try.prog 25 [IL a, IL b] (B (decide (a = b))) := by
  refine pcall Try.func25 tr25 rs25 fn25 (by simp [Try.ntmps25]) fun hfit => ?_
  have ha := fits_len (hfit 0)
  have hb := fits_len (hfit 1)
  simp only [List.length_map] at ha hb
  simp -implicitDefEqProofs [m25]
  refine loop_up a.length (fun k s => s.env 0 = IL a ∧ s.env 1 = IL b ∧ s.env 6 = I k ∧ s.env 5 = B (decide (a.length = b.length ∧ a.take k = b.take k))) ?_ ?_
  · by_cases h : a.length = b.length
    · simp [h]
    · simp [h]; omega
  · rintro k s hk ⟨e0, e1, e6, e5⟩
    by_cases hsame : a.length = b.length ∧ a.take k = b.take k
    · have e5' : s.env 5 = B true := by rw [e5]; simp only [hsame, and_self, decide_true]
      by_cases hlt : k < a.length
      · have hlt2 : k < b.length := by omega
        simp -implicitDefEqProofs [e0, e1, e5', e6, hlt, hlt2]
        refine ⟨i64 (by omega) (by omega), round_ok hlt ⟨by simp [e0], by simp [e1], by simp, ?_⟩⟩
        simp
        rw [take_snoc hlt, hsame.2, Bool.eq_iff_iff]
        simp [hsame.1, take_snoc hlt2, -List.take_append_getElem]
      · obtain rfl : k = a.length := by omega
        have hab : a = b := by
          have := hsame.2
          rw [List.take_length, hsame.1, List.take_length] at this
          exact this
        simp -implicitDefEqProofs [e0, e5', e6, r25, hab]
    · have hne : a ≠ b := fun h => hsame (by rw [h]; exact ⟨rfl, rfl⟩)
      have e5' : s.env 5 = B false := by rw [e5, decide_eq_false hsame]
      simp -implicitDefEqProofs [e5', r25, hne]

theorem same_ok (a b : List (List Int)) : PCall Try.prog 19 [ILL a, ILL b] (B (decide (a = b))) := by
  refine pcall Try.func19 tr19 rs19 fn19 (by simp [Try.ntmps19]) fun hfit => ?_
  have ha := fits_len (hfit 0)
  have hb := fits_len (hfit 1)
  simp only [List.length_map] at ha hb
  simp -implicitDefEqProofs [m19]
  refine cond_bool (fun h => ?_) (fun h => ?_)
  · have hne : a ≠ b := fun e => by rw [e] at h; simp at h
    simp -implicitDefEqProofs [r19, hne]
  · have hl : a.length = b.length := by
      have : (a.length : Int) = b.length := by simpa using h
      omega
    simp -implicitDefEqProofs
    refine loop_up a.length (fun k s => s.env 0 = ILL a ∧ s.env 1 = ILL b ∧ s.env 5 = I k ∧ a.take k = b.take k) ?_ ?_
    · simp
    · rintro k s hk ⟨e0, e1, e5, hsame⟩
      simp -implicitDefEqProofs [e0, e5]
      refine cond_dec (fun hlt => ?_) (fun hge => ?_)
      · have hlt2 : k < b.length := by omega
        simp -implicitDefEqProofs [e0, e1, e5, hlt, hlt2]
        refine vCall_of (ints_ok _ _) ?_
        simp -implicitDefEqProofs
        refine cond_bool (fun h => ?_) (fun h => ?_)
        · have hne : a ≠ b := fun e => by subst e; simp at h
          simp -implicitDefEqProofs [r19, hne]
        · simp -implicitDefEqProofs [e5]
          refine ⟨i64 (by omega) (by omega), round_ok hlt ⟨by simp [e0], by simp [e1], by simp, ?_⟩⟩
          have he : a[k] = b[k] := by simpa using h
          rw [take_snoc hlt, take_snoc hlt2, hsame, he]
      · obtain rfl : k = a.length := by omega
        have hab : a = b := by rw [List.take_length, hl, List.take_length] at hsame; exact hsame
        simp -implicitDefEqProofs [r19, hab]

/-- How many reams have a sheet above so many. -/
def used : List Int → Int → Int → Int
  | [], _, _ => 0
  | x :: l, above, n => (if above < n then 1 else 0) + used l (above + x) n

theorem used_snoc (x : Int) : ∀ (l : List Int) (a n : Int), used (l ++ [x]) a n = used l a n + if a + l.sum < n then 1 else 0
  | [], a, n => by simp [used]
  | y :: l, a, n => by
    have := used_snoc x l (a + y) n
    simp only [List.cons_append, used, this, List.sum_cons]
    have e : a + y + l.sum = a + (y + l.sum) := by omega
    rw [e]; omega

theorem used_le : ∀ (l : List Int) (a n : Int), 0 ≤ used l a n ∧ used l a n ≤ l.length
  | [], _, _ => by simp [used]
  | x :: l, a, n => by
    have := used_le l (a + x) n
    simp only [used, List.length_cons]
    split <;> omega

end Go.Proofs.Ytbcfmfiolbcclaa

namespace Go.Proofs.Ytbcfmfiolbcclaa
open Go.Avm
end Go.Proofs.Ytbcfmfiolbcclaa

namespace Go.Proofs.Ytbcfmfiolbcclaa
open Go.Avm

theorem row92 : RowOK Try.prog (92, 8, m92, r92) := .mk Try.func92 tr92 rs92 fn92 Try.ntmps92 (by kernel_rfl)
theorem row94 : RowOK Try.prog (94, 8, m94, r94) := .mk Try.func94 tr94 rs94 fn94 Try.ntmps94 (by kernel_rfl)
theorem row103 : RowOK Try.prog (103, 19, m103, r103) := .mk Try.func103 tr103 rs103 fn103 Try.ntmps103 (by kernel_rfl)
theorem row104 : RowOK Try.prog (104, 25, m104, r104) := .mk Try.func104 tr104 rs104 fn104 Try.ntmps104 (by kernel_rfl)
theorem row105 : RowOK Try.prog (105, 21, m105, r105) := .mk Try.func105 tr105 rs105 fn105 Try.ntmps105 (by kernel_rfl)
theorem row106 : RowOK Try.prog (106, 35, m106, r106) := .mk Try.func106 tr106 rs106 fn106 Try.ntmps106 (by kernel_rfl)
def tab : List Row := [(92, 8, m92, r92), (94, 8, m94, r94), (103, 19, m103, r103), (104, 25, m104, r104), (105, 21, m105, r105), (106, 35, m106, r106)]
theorem tabOK : Tab Try.prog tab := .cons row92 (.cons row94 (.cons row103 (.cons row104 (.cons row105 (.cons row106 (.nil))))))

def unI : AV → Option Int
  | .lit (.int .i64 n) => some n
  | _ => none
theorem unI_ok {r : AV} {n : Int} (h : unI r = some n) : r = I n := by
  unfold unI at h
  split at h <;> simp_all
def chk92 (n : Nat) : Bool := match (evAll tab 60).1 0 92 [.lit (.int .u64 n)] with
  | some r => (match unI r with | some l => decide (l = lenM n) | none => false) && below 0 r
  | none => false
def chk94 (n : Nat) : Bool := match (evAll tab 60).1 0 94 [.lit (.int .u64 n)] with
  | some r => (match unI r with | some l => decide (l = (bitsL n).length) | none => false) && below 0 r
  | none => false

theorem chk92_ok {n : Nat} (h : chk92 n = true) : PCall Try.prog 92 [.lit (.int .u64 n)] (I (lenM n : Nat)) := by
  unfold chk92 at h
  split at h
  · rename_i r hr
    rw [Bool.and_eq_true] at h
    obtain ⟨h1, h2⟩ := h
    split at h1
    · rename_i l hl
      have := unI_ok hl
      have hl' := of_decide_eq_true h1
      subst hl'
      rw [← this]
      exact run_call tabOK 60 hr rfl h2
    · cases h1
  · cases h
theorem chk94_ok {n : Nat} (h : chk94 n = true) : PCall Try.prog 94 [.lit (.int .u64 n)] (I (bitsL n).length) := by
  unfold chk94 at h
  split at h
  · rename_i r hr
    rw [Bool.and_eq_true] at h
    obtain ⟨h1, h2⟩ := h
    split at h1
    · rename_i l hl
      have := unI_ok hl
      have hl' := of_decide_eq_true h1
      subst hl'
      rw [← this]
      exact run_call tabOK 60 hr rfl h2
    · cases h1
  · cases h
theorem all92 : ((List.range 256).all chk92) = true := by kernel_rfl
theorem all94 : ((List.range 256).all chk94) = true := by kernel_rfl
theorem len92_ok (n : Nat) (h : n < 256) : PCall Try.prog 92 [.lit (.int .u64 n)] (I (lenM n : Nat)) := chk92_ok (List.all_eq_true.1 all92 n (by simpa using h))
theorem ones94_ok (n : Nat) (h : n < 256) : PCall Try.prog 94 [.lit (.int .u64 n)] (I (bitsL n).length) := chk94_ok (List.all_eq_true.1 all94 n (by simpa using h))
end Go.Proofs.Ytbcfmfiolbcclaa

namespace Go.Proofs.Ytbcfmfiolbcclaa
open Go.Avm

theorem wrap_nat {a : Nat} (h : a < 1099511627776) : IntKind.wrap .i64 (a : Int) = a := by
  simp [IntKind.wrap, IntKind.bits, IntKind.signed]
  omega
theorem wrapu_nat {a : Nat} (h : a < 1099511627776) : IntKind.wrap .u64 (a : Int) = a := by
  simp [IntKind.wrap, IntKind.bits, IntKind.signed]
  omega

theorem ofInt_nat (a : Nat) : BitVec.ofInt 64 (a : Int) = BitVec.ofNat 64 a := by simp

theorem bitAnd1 {a : Nat} (ha : a < 1099511627776) : bitI .and .i64 (a : Int) 1 = ((a % 2 : Nat) : Int) := by
  have e : ((BitVec.ofInt (IntKind.bits .i64) (a : Int)) &&& (BitVec.ofInt (IntKind.bits .i64) 1)).toNat = a % 2 := by
    show (BitVec.ofInt 64 (a : Int) &&& BitVec.ofInt 64 ((1 : Nat) : Int)).toNat = _
    rw [ofInt_nat, ofInt_nat, BitVec.toNat_and, BitVec.toNat_ofNat, BitVec.toNat_ofNat, Nat.mod_eq_of_lt (by omega), Nat.mod_eq_of_lt (by omega)]
    exact Nat.and_one_is_mod a
  unfold bitI
  show IntKind.wrap .i64 _ = _
  rw [e]
  exact wrap_nat (by omega)

theorem bit_at {n i : Nat} (hn : n < 256) : (bitI .and .i64 (Int.fdiv (n : Int) (2 ^ (min i 64))) 1 == 1) = n.testBit i ∨ 64 < i := by
  by_cases hi : 64 < i
  · exact .inr hi
  left
  rw [Nat.min_eq_left (by omega)]
  have e : Int.fdiv (n : Int) (2 ^ i) = ((n / 2 ^ i : Nat) : Int) := by
    rw [Int.fdiv_eq_ediv_of_nonneg _ (by exact Int.pow_nonneg (by omega))]
    simp
  rw [e, bitAnd1 (Nat.lt_of_le_of_lt (Nat.div_le_self _ _) (by omega)), Nat.testBit_eq_decide_div_mod_eq]
  rcases Nat.mod_two_eq_zero_or_one (n / 2 ^ i) with h | h <;> rw [h] <;> rfl

theorem lenM_ok {n : Nat} (h : n < 256) : lenM n ≤ 8 ∧ n < 2 ^ lenM n := by
  unfold lenM
  cases hf : (List.range 9).find? fun i => n < 2 ^ i with
  | none =>
    rw [List.find?_eq_none] at hf
    have := hf 8 (by simp)
    simp at this; omega
  | some i =>
    have h1 := List.find?_some hf
    have h2 := List.mem_of_find?_eq_some hf
    simp at h1 h2
    simp
    omega

theorem selT_stop {n L : Nat} (h : n < 2 ^ L) : ∀ d, selT (fun i => n.testBit i) (L + d) = selT (fun i => n.testBit i) L
  | 0 => rfl
  | d + 1 => by
    have hf : (fun i => n.testBit i) (L + d) = false := Nat.testBit_lt_two_pow (Nat.lt_of_lt_of_le h (Nat.pow_le_pow_right (by omega) (by omega)))
    rw [show L + (d + 1) = (L + d) + 1 from rfl, selT_f hf, selT_stop h d]

theorem list_ok {n : Nat} (hn : n < 256) : PCall Try.prog 61 [I n] (IL (bitsL n)) := by
  refine pcall Try.func61 tr61 rs61 fn61 (by simp [Try.ntmps61]) fun hfit => ?_
  have c := len92_ok n hn
  have hl := lenM_ok hn
  have hw := wrapu_nat (a := n) (by omega)
  have hres : bitsL n = selT (fun i => n.testBit i) (lenM n) := by
    unfold bitsL
    have := selT_stop hl.2 (8 - lenM n)
    rwa [show lenM n + (8 - lenM n) = 8 by omega] at this
  rw [hres]
  generalize lenM n = L at *
  simp -implicitDefEqProofs [m61, hw]
  refine vCall_of c ?_
  simp -implicitDefEqProofs
  refine loop_up L (fun k s => s.env 0 = I n ∧ s.env 2 = .slice 1 ((selT (fun i => n.testBit i) k).map I) 3 ∧ s.env 6 = I L ∧ s.env 7 = I k) ?_ ?_
  · simp [selT_zero]
  rintro k s hk ⟨e0, e2, e6, e7⟩
  simp -implicitDefEqProofs [e6, e7]
  refine cond_dec (fun hlt => ?_) (fun hge => ?_)
  · have hlt : k < L := by omega
    have hsl := selT_len (fun i => n.testBit i) k
    have hb : (bitI .and .i64 (Int.fdiv (n : Int) (2 ^ (min k 64))) 1 == 1) = n.testBit k := by
      rcases bit_at (i := k) hn with h | h
      · exact h
      · omega
    simp -implicitDefEqProofs [e0, e7]
    have hb' : (bitI .and .i64 (Int.fdiv (n : Int) (2 ^ (min k (IntKind.bits .i64)))) 1 == 1) = n.testBit k := hb
    rw [hb']
    refine cond_bool (fun he => ?_) (fun he => ?_)
    · simp -implicitDefEqProofs [e2, e7]
      refine ⟨by omega, by omega, i64 (by omega) (by omega), round_ok hlt ⟨by simp [e0], by simp [selT_t (q := fun i => n.testBit i) he], by simp [e6], by simp⟩⟩
    · simp -implicitDefEqProofs [e7]
      refine ⟨i64 (by omega) (by omega), round_ok hlt ⟨by simp [e0], by simp [e2, selT_f (q := fun i => n.testBit i) he], by simp [e6], by simp⟩⟩
  · obtain rfl : k = L := by omega
    simp -implicitDefEqProofs [e2, r61]

theorem nan_ok (x : Int) : PCall Try.prog 108 [I x] (B false) := by
  refine pcall Try.func108 tr108 rs108 fn108 (by simp [Try.ntmps108]) fun hfit => ?_
  simp -implicitDefEqProofs [m108, r108]

theorem cmp_ok (x y : Int) : PCall Try.prog 107 [I x, I y] (I (if x < y then -1 else if y < x then 1 else 0)) := by
  refine pcall Try.func107 tr107 rs107 fn107 (by simp [Try.ntmps107]) fun hfit => ?_
  simp -implicitDefEqProofs [m107]
  refine vCall_of (nan_ok x) ?_
  simp -implicitDefEqProofs
  refine vCall_of (nan_ok y) ?_
  by_cases h1 : x < y
  · simp -implicitDefEqProofs [h1, r107]
  · by_cases h2 : y < x <;> simp -implicitDefEqProofs [h1, h2, r107]

theorem compare_ok (a b : List Int) (h : a.length = b.length) : PCall Try.prog 95 [IL a, IL b] (I (cmpL a b)) := by
  refine pcall Try.func95 tr95 rs95 fn95 (by simp [Try.ntmps95]) fun hfit => ?_
  have hl := fits_len (hfit 0)
  simp only [List.length_map] at hl
  obtain ⟨R, hR⟩ : ∃ R, R = cmpL a b := ⟨_, rfl⟩
  rw [← hR]
  simp -implicitDefEqProofs [m95]
  refine loop_up a.length (fun k s => s.env 0 = IL a ∧ s.env 1 = IL b ∧ s.env 9 = IL a ∧ s.env 10 = I a.length ∧ s.env 11 = I k ∧ R = cmpL (a.drop k) (b.drop k)) ?_ ?_
  · simp [hR]
  rintro k s hk ⟨e0, e1, e9, e10, e11, hc⟩
  simp -implicitDefEqProofs [e10, e11]
  refine cond_dec (fun hlt => ?_) (fun hge => ?_)
  · have hlt : k < a.length := by omega
    have hlt2 : k < b.length := by omega
    have hge : ¬ (b.length : Int) ≤ (k : Int) := by omega
    rw [drop_cons hlt, drop_cons hlt2] at hc
    unfold cmpL at hc
    have c := cmp_ok a[k] b[k]
    simp -implicitDefEqProofs [e1, e9, e11, hlt, hlt2, hge]
    refine vCall_of c ?_
    by_cases h1 : a[k] < b[k]
    · rw [if_pos h1] at hc
      simp -implicitDefEqProofs [h1, r95, hc]
    · rw [if_neg h1] at hc
      by_cases h2 : b[k] < a[k]
      · rw [if_pos h2] at hc
        simp -implicitDefEqProofs [h1, h2, r95, hc]
      · rw [if_neg h2] at hc
        simp -implicitDefEqProofs [h1, h2, e11]
        exact ⟨i64 (by omega) (by omega), round_ok hlt ⟨by simp [e0], by simp [e1], by simp [e9], by simp [e10], by simp, hc⟩⟩
  · obtain rfl : k = a.length := by omega
    rw [List.drop_length, h, List.drop_length] at hc
    have hc : R = 0 := hc
    simp -implicitDefEqProofs [e0, e1, h, r95, hc]

theorem fewer_ok {a b : Nat} (ha : a < 256) (hb : b < 256) :
    PCall Try.prog 71 [I a, I b] (B (lessL (bitsL a) (bitsL b))) := by
  refine pcall Try.func71 tr71 rs71 fn71 (by simp [Try.ntmps71]) fun hfit => ?_
  have c1 := list_ok ha
  have c2 := list_ok hb
  have c3 := ones94_ok a ha
  have c4 := ones94_ok b hb
  have hwa := wrapu_nat (a := a) (by omega)
  have hwb := wrapu_nat (a := b) (by omega)
  have l1 : (bitsL a).length ≤ 8 := selT_len _ _
  have l2 : (bitsL b).length ≤ 8 := selT_len _ _
  generalize bitsL a = x at *
  generalize bitsL b = y at *
  obtain ⟨R, hR⟩ : ∃ R, R = lessL x y := ⟨_, rfl⟩
  rw [← hR]
  unfold lessL at hR
  simp -implicitDefEqProofs [m71, hwa]
  refine vCall_of c3 ?_
  simp -implicitDefEqProofs [hwb]
  refine vCall_of c4 ?_
  simp -implicitDefEqProofs
  refine ⟨i64 (by omega) (by omega), ?_⟩
  by_cases h : x.length = y.length
  case neg =>
    have h' : ((x.length : Int) - (y.length : Int) != 0) = true := by simp; omega
    rw [if_pos h] at hR
    simp -implicitDefEqProofs [h', r71, hR]
    omega
  have h' : ((x.length : Int) - (y.length : Int) != 0) = false := by simp; omega
  rw [if_neg (not_not_intro h)] at hR
  simp -implicitDefEqProofs [h']
  refine vCall_of c1 ?_
  simp -implicitDefEqProofs
  refine vCall_of c2 ?_
  simp -implicitDefEqProofs
  refine vCall_of (compare_ok x y h) ?_
  rw [← cmp_lex] at hR
  simp -implicitDefEqProofs [r71, hR]
end Go.Proofs.Ytbcfmfiolbcclaa

namespace Go.Proofs.Ytbcfmfiolbcclaa
open Go.Avm

theorem cutS {P : Program} {kn : St → Prop} {ke : Nat → St → Prop} {kr : St → Prop} {s : St} {x y : MCode} (J : St → Prop) (hx : ∀ k : St → Prop, (∀ s', J s' → k s') → mwp P x k ke kr s) (h : ∀ s', J s' → mwp P y kn ke kr s') : mwp P (.seq x y) kn ke kr s := hx _ h

theorem out1 (lo hi n : Int) : out lo hi [n] = !decide (lo ≤ n ∧ n ≤ hi) := by
  simp only [out, List.any_cons, List.any_nil, Bool.or_false]
  by_cases h : n < lo
  · have : ¬ (lo ≤ n ∧ n ≤ hi) := by omega
    simp [h, this]
  · by_cases h2 : hi < n
    · have : ¬ (lo ≤ n ∧ n ≤ hi) := by omega
      simp [h, h2, this]
    · have : lo ≤ n ∧ n ≤ hi := by omega
      simp [h, h2, this]
theorem out2 (lo hi n m : Int) : out lo hi [n, m] = !(decide (lo ≤ n ∧ n ≤ hi) && decide (lo ≤ m ∧ m ≤ hi)) := by
  have h1 := out1 lo hi n
  have h2 := out1 lo hi m
  simp only [out, List.any_cons, List.any_nil, Bool.or_false] at h1 h2 ⊢
  rw [h1, h2, Bool.not_and]

/-- The error of a span. -/
def rangeE (a b lo hi : Int) : Int := if a < lo ∨ b < lo ∨ hi < a ∨ hi < b then 7 else if b < a then 2 else 0

theorem range_ok (a b lo hi : Int) : PCall Try.prog 54 [Span2 a b, I lo, I hi] (I (rangeE a b lo hi)) := by
  refine pcall Try.func54 tr54 rs54 fn54 (by simp [Try.ntmps54]) fun _ => ?_
  unfold rangeE
  by_cases h : b < a
  · have h' : ¬ a < b := by omega
    by_cases h1 : b < lo
    · simp -implicitDefEqProofs [m54, r54, h, h1]
    · by_cases h2 : hi < a
      · simp -implicitDefEqProofs [m54, r54, h, h', h1, h2]
      · have h3 : ¬ a < lo := by omega
        have h4 : ¬ hi < b := by omega
        simp -implicitDefEqProofs [m54, r54, h, h', h1, h2, h3, h4]
  · by_cases h1 : a < lo
    · simp -implicitDefEqProofs [m54, r54, h, h1]
    · by_cases he : a < b
      · by_cases h2 : hi < b
        · simp -implicitDefEqProofs [m54, r54, h, he, h1, h2]
        · have h3 : ¬ b < lo := by omega
          have h4 : ¬ hi < a := by omega
          simp -implicitDefEqProofs [m54, r54, h, he, h1, h2, h3, h4]
      · have e : b = a := by omega
        by_cases h2 : hi < a
        · simp -implicitDefEqProofs [m54, r54, h1, h2, e]
        · simp -implicitDefEqProofs [m54, r54, h1, h2, e]

theorem rangeE_out (a b lo hi : Int) : (out lo hi [a, b] = true → rangeE a b lo hi = 7) ∧ (out lo hi [a, b] = false → rangeE a b lo hi = if b < a then 2 else 0) := by
  rw [out2]
  unfold rangeE
  constructor
  · intro h
    rw [if_pos]
    simp only [Bool.not_eq_true', Bool.and_eq_false_iff, decide_eq_false_iff_not] at h
    omega
  · intro h
    rw [if_neg]
    simp only [Bool.not_eq_false', Bool.and_eq_true, decide_eq_true_eq] at h
    omega

/-! ## The first error of a list -/
def errs (f : Nat → Int) (n : Nat) : Option (Nat × Int) := (List.range n).findSome? fun i => if f i = 0 then none else some (i, f i)
theorem errs_none {f : Nat → Int} {n : Nat} (h : ∀ j < n, f j = 0) : errs f n = none := by
  unfold errs
  rw [List.findSome?_eq_none_iff]
  intro x hx
  rw [if_pos (h x (by simpa using hx))]
theorem errs_some {f : Nat → Int} {n k : Nat} (hk : k < n) (h : ∀ j < k, f j = 0) (hf : f k ≠ 0) : errs f n = some (k, f k) := by
  unfold errs
  rw [List.findSome?_eq_some_iff]
  refine ⟨List.range k, k, (List.range (n - (k + 1))).map (k + 1 + ·), ?_, by rw [if_neg hf], fun x hx => by rw [if_pos (h x (by simpa using hx))]⟩
  conv => lhs; rw [show n = (k + 1) + (n - (k + 1)) by omega, List.range_add, List.range_succ]
  simp
theorem errs_zero {f : Nat → Int} {n : Nat} (h : errs f n = none) : ∀ j < n, f j = 0 := by
  unfold errs at h
  rw [List.findSome?_eq_none_iff] at h
  intro j hj
  have := h j (by simpa using hj)
  by_cases hf : f j = 0
  · exact hf
  · rw [if_neg hf] at this; cases this
theorem errs_nz {f : Nat → Int} {n i : Nat} {e : Int} (h : errs f n = some (i, e)) : e ≠ 0 := by
  unfold errs at h
  obtain ⟨x, hx⟩ := List.exists_of_findSome?_eq_some h
  obtain ⟨_, hx⟩ := hx
  split at hx
  · cases hx
  · rename_i hf; injection hx with hx; injection hx with h1 h2; rw [← h2]; exact hf

def stockD : Stock := ⟨.empty, 0, 0⟩
def reamD : Ream := ⟨0, 0, 0⟩
def stockE (c : Case) (i : Nat) : Int :=
  let s := c.stocks.getD i stockD
  let e := namedE s.name ((c.stocks.take i).map Stock.name)
  if e ≠ 0 then e else rangeE s.lo s.hi 1450 1850
def reamE (c : Case) (i : Nat) : Int :=
  let r := c.reams.getD i reamD
  if ¬ (0 ≤ r.stock ∧ r.stock ≤ (c.stocks.length : Int) - 1) then 4 else
    let e := rangeE r.lo r.hi 1 2000
    if e ≠ 0 then e else if r.lo + 2 < r.hi then 2 else 0
def seenE (c : Case) (i : Nat) : Int :=
  let x := c.seen.getD i (0, 0)
  if (0 ≤ x.1 ∧ x.1 ≤ c.gath - 1) ∧ (0 ≤ x.2 ∧ x.2 ≤ (c.stocks.length : Int) - 1) then 0 else 4

/-- What Check returns. -/
def checkS (c : Case) : Int × Int × Int :=
  if ¬ (1 ≤ c.run ∧ c.run ≤ 500) then (1, 0, 7) else
  if ¬ (1 ≤ (c.stocks.length : Int) ∧ (c.stocks.length : Int) ≤ 4) then (2, 0, 3) else
  match errs (stockE c) c.stocks.length with
  | some (i, e) => (2, i, e)
  | none =>
  if ¬ (1 ≤ (c.reams.length : Int) ∧ (c.reams.length : Int) ≤ 4) then (3, 0, 3) else
  match errs (reamE c) c.reams.length with
  | some (i, e) => (3, i, e)
  | none =>
  if ¬ (1 ≤ c.gath ∧ c.gath ≤ 5) then (4, 0, 7) else
  if (8 : Int) < c.seen.length then (5, 0, 3) else
  match errs (seenE c) c.seen.length with
  | some (i, e) => (5, i, e)
  | none => (0, 0, 0)
abbrev T3 (x : Int × Int × Int) : AV := .tuple [I x.1, I x.2.1, I x.2.2]

theorem stock_at {c : Case} {i : Nat} (hi : i < c.stocks.length) : c.stocks.getD i stockD = c.stocks[i] := by simp [hi]
theorem ream_at {c : Case} {i : Nat} (hi : i < c.reams.length) : c.reams.getD i reamD = c.reams[i] := by simp [hi]
theorem seen_at {c : Case} {i : Nat} (hi : i < c.seen.length) : c.seen.getD i (0, 0) = c.seen[i] := by simp [hi]

/-! ## The program's -/
theorem indexStock_ok (l : List Stock) (f : FuncId) (caps : List AV) (p : Stock → Bool) (hp : ∀ x ∈ l, PCall Try.prog f (encStock x :: caps) (B (p x))) :
    PCall Try.prog 84 [.slice 3 (l.map encStock) 0, .func (.func f) [] caps] (I (firstAt p l)) := by
  refine pcall Try.func84 tr84 rs84 fn84 (by simp [Try.ntmps84]) fun hfit => ?_
  have hl := fits_len (hfit 0)
  simp only [List.length_map] at hl
  simp -implicitDefEqProofs [m84]
  refine loop_up l.length (fun k s => s.env 0 = .slice 3 (l.map encStock) 0 ∧ s.env 1 = .func (.func f) [] caps ∧ s.env 7 = I l.length ∧ s.env 8 = I k ∧ ∀ x ∈ l.take k, p x = false) ?_ ?_
  · simp
  · rintro k s hk ⟨e0, e1, e7, e8, hno⟩
    simp -implicitDefEqProofs [e7, e8]
    refine cond_dec (fun hlt => ?_) (fun hge => ?_)
    · simp -implicitDefEqProofs [e0, e1, e8, hlt, vCallv]
      refine vCall_of (hp l[k] (List.getElem_mem _)) ?_
      simp -implicitDefEqProofs
      refine cond_bool (fun he => ?_) (fun he => ?_)
      · have hc := firstAt_some hlt he hno
        simp -implicitDefEqProofs [r84, hc]
      · simp -implicitDefEqProofs [e8]
        refine ⟨i64 (by omega) (by omega), round_ok hlt ⟨by simp [e0], by simp [e1], by simp [e7], by simp, ?_⟩⟩
        intro x hx
        rw [take_snoc hlt, List.mem_append, List.mem_singleton] at hx
        rcases hx with hx | rfl
        · exact hno x hx
        · exact he
    · obtain rfl : k = l.length := by omega
      rw [List.take_length] at hno
      have hc := firstAt_none hno
      simp -implicitDefEqProofs [r84, hc]

theorem containsStock_ok (l : List Stock) (f : FuncId) (caps : List AV) (p : Stock → Bool) (hp : ∀ x ∈ l, PCall Try.prog f (encStock x :: caps) (B (p x))) :
    PCall Try.prog 50 [.slice 3 (l.map encStock) 0, .func (.func f) [] caps] (B (l.any p)) := by
  refine pcall Try.func50 tr50 rs50 fn50 (by simp [Try.ntmps50]) fun _ => ?_
  simp -implicitDefEqProofs [m50]
  refine vCall_of (indexStock_ok l f caps p hp) ?_
  simp -implicitDefEqProofs [r50, firstAt_any]

theorem same51_ok (x s : Stock) : PCall Try.prog 51 [encStock x, .ref [S s.name, I s.lo, I s.hi]] (B (sEq x.name s.name)) := by
  refine pcall Try.func51 tr51 rs51 fn51 (by simp [Try.ntmps51]) fun _ => ?_
  simp -implicitDefEqProofs [m51, r51, sEq]

end Go.Proofs.Ytbcfmfiolbcclaa

namespace Go.Proofs.Ytbcfmfiolbcclaa
open Go.Avm

theorem checkS_1 {c : Case} (h : ¬ (1 ≤ c.run ∧ c.run ≤ 500)) : checkS c = (1, 0, 7) := by unfold checkS; rw [if_pos h]
theorem checkS_2 {c : Case} (h1 : 1 ≤ c.run ∧ c.run ≤ 500) (h : ¬ (1 ≤ (c.stocks.length : Int) ∧ (c.stocks.length : Int) ≤ 4)) : checkS c = (2, 0, 3) := by
  unfold checkS; rw [if_neg (not_not_intro h1), if_pos h]
theorem checkS_3 {c : Case} (h1 : 1 ≤ c.run ∧ c.run ≤ 500) (h2 : 1 ≤ (c.stocks.length : Int) ∧ (c.stocks.length : Int) ≤ 4) {i : Nat} (hi : i < c.stocks.length) (hb : ∀ j < i, stockE c j = 0) (hn : stockE c i ≠ 0) : checkS c = (2, (i : Int), stockE c i) := by
  unfold checkS; rw [if_neg (not_not_intro h1), if_neg (not_not_intro h2), errs_some hi hb hn]
theorem checkS_4 {c : Case} (h1 : 1 ≤ c.run ∧ c.run ≤ 500) (h2 : 1 ≤ (c.stocks.length : Int) ∧ (c.stocks.length : Int) ≤ 4) (h3 : ∀ j < c.stocks.length, stockE c j = 0)
    (h : ¬ (1 ≤ (c.reams.length : Int) ∧ (c.reams.length : Int) ≤ 4)) : checkS c = (3, 0, 3) := by
  unfold checkS; rw [if_neg (not_not_intro h1), if_neg (not_not_intro h2), errs_none h3]; simp only; rw [if_pos h]
theorem checkS_5 {c : Case} (h1 : 1 ≤ c.run ∧ c.run ≤ 500) (h2 : 1 ≤ (c.stocks.length : Int) ∧ (c.stocks.length : Int) ≤ 4) (h3 : ∀ j < c.stocks.length, stockE c j = 0)
    (h4 : 1 ≤ (c.reams.length : Int) ∧ (c.reams.length : Int) ≤ 4) {i : Nat} (hi : i < c.reams.length) (hb : ∀ j < i, reamE c j = 0) (hn : reamE c i ≠ 0) : checkS c = (3, (i : Int), reamE c i) := by
  unfold checkS; rw [if_neg (not_not_intro h1), if_neg (not_not_intro h2), errs_none h3]; simp only; rw [if_neg (not_not_intro h4), errs_some hi hb hn]
structure Half (c : Case) : Prop where
  h1 : 1 ≤ c.run ∧ c.run ≤ 500
  h2 : 1 ≤ (c.stocks.length : Int) ∧ (c.stocks.length : Int) ≤ 4
  h3 : ∀ j < c.stocks.length, stockE c j = 0
  h4 : 1 ≤ (c.reams.length : Int) ∧ (c.reams.length : Int) ≤ 4
  h5 : ∀ j < c.reams.length, reamE c j = 0
theorem checkS_6 {c : Case} (h : Half c) (hg : ¬ (1 ≤ c.gath ∧ c.gath ≤ 5)) : checkS c = (4, 0, 7) := by
  unfold checkS; rw [if_neg (not_not_intro h.h1), if_neg (not_not_intro h.h2), errs_none h.h3]; simp only; rw [if_neg (not_not_intro h.h4), errs_none h.h5]; simp only; rw [if_pos hg]
theorem checkS_7 {c : Case} (h : Half c) (hg : 1 ≤ c.gath ∧ c.gath ≤ 5) (hs : (8 : Int) < c.seen.length) : checkS c = (5, 0, 3) := by
  unfold checkS; rw [if_neg (not_not_intro h.h1), if_neg (not_not_intro h.h2), errs_none h.h3]; simp only; rw [if_neg (not_not_intro h.h4), errs_none h.h5]; simp only; rw [if_neg (not_not_intro hg), if_pos hs]
theorem checkS_8 {c : Case} (h : Half c) (hg : 1 ≤ c.gath ∧ c.gath ≤ 5) (hs : ¬ (8 : Int) < c.seen.length) {i : Nat} (hi : i < c.seen.length) (hb : ∀ j < i, seenE c j = 0) (hn : seenE c i ≠ 0) : checkS c = (5, (i : Int), seenE c i) := by
  unfold checkS; rw [if_neg (not_not_intro h.h1), if_neg (not_not_intro h.h2), errs_none h.h3]; simp only; rw [if_neg (not_not_intro h.h4), errs_none h.h5]; simp only; rw [if_neg (not_not_intro hg), if_neg hs, errs_some hi hb hn]
theorem checkS_9 {c : Case} (h : Half c) (hg : 1 ≤ c.gath ∧ c.gath ≤ 5) (hs : ¬ (8 : Int) < c.seen.length) (hb : ∀ j < c.seen.length, seenE c j = 0) : checkS c = (0, 0, 0) := by
  unfold checkS; rw [if_neg (not_not_intro h.h1), if_neg (not_not_intro h.h2), errs_none h.h3]; simp only; rw [if_neg (not_not_intro h.h4), errs_none h.h5]; simp only; rw [if_neg (not_not_intro hg), if_neg hs, errs_none hb]

theorem lt_snoc {f : Nat → Int} {k : Nat} (h : ∀ j < k, f j = 0) (hf : f k = 0) : ∀ j < k + 1, f j = 0 := fun j hj => by
  by_cases e : j = k
  · rw [e]; exact hf
  · exact h j (by omega)

theorem check_ok (c : Case) : PCall Try.prog 15 [encCase c] (T3 (checkS c)) := by
  refine pcall Try.func15 tr15 rs15 fn15 (by simp [Try.ntmps15]) fun hfit => ?_
  have lS := fits_len (fits_agg (hfit 0) 1)
  have lR := fits_len (fits_agg (hfit 0) 2)
  have lX := fits_len (fits_agg (hfit 0) 4)
  simp only [List.length_map] at lS lR lX
  obtain ⟨R, hR⟩ : ∃ R, R = checkS c := ⟨_, rfl⟩
  rw [← hR]
  simp -implicitDefEqProofs only [m15]
  refine cutS (fun st => st.env 1 = caseRef c) ?_ ?_
  · intro k hk
    simp -implicitDefEqProofs
    exact hk _ rfl
  intro s e1; clear hfit
  by_cases h1 : 1 ≤ c.run ∧ c.run ≤ 500
  case neg =>
    have o1 : out 1 500 [c.run] = true := by rw [out1, decide_eq_false h1]; rfl
    simp -implicitDefEqProofs [e1]
    refine vCall_of (outside_ok 1 500 [c.run]) ?_
    rw [o1]
    simp -implicitDefEqProofs [r15, hR, checkS_1 h1]
  have o1 : out 1 500 [c.run] = false := by rw [out1, decide_eq_true h1]; rfl
  by_cases h2 : 1 ≤ (c.stocks.length : Int) ∧ (c.stocks.length : Int) ≤ 4
  case neg =>
    have o2 : out 1 4 [(c.stocks.length : Int)] = true := by rw [out1, decide_eq_false h2]; rfl
    simp -implicitDefEqProofs [e1]
    refine vCall_of (outside_ok 1 500 [c.run]) ?_
    rw [o1]
    simp -implicitDefEqProofs [e1]
    refine vCall_of (outside_ok 1 4 [(c.stocks.length : Int)]) ?_
    rw [o2]
    simp -implicitDefEqProofs [r15, hR, checkS_2 h1 h2]
  have o2 : out 1 4 [(c.stocks.length : Int)] = false := by rw [out1, decide_eq_true h2]; rfl
  refine cutS (fun st => st.env 1 = caseRef c) ?_ ?_
  · intro k hk
    simp -implicitDefEqProofs [e1]
    refine vCall_of (outside_ok 1 500 [c.run]) ?_
    rw [o1]
    simp -implicitDefEqProofs [e1]
    refine vCall_of (outside_ok 1 4 [(c.stocks.length : Int)]) ?_
    rw [o2]
    simp -implicitDefEqProofs
    exact hk _ (by simp [e1])
  intro s e1
  refine cutS (fun st => st.env 1 = caseRef c ∧ ∀ j < c.stocks.length, stockE c j = 0) ?_ ?_
  · intro k0 hk0
    simp -implicitDefEqProofs [e1]
    refine loop_up c.stocks.length (fun k s => s.env 1 = caseRef c ∧ s.env 23 = .slice 3 (c.stocks.map encStock) 0 ∧ s.env 24 = I c.stocks.length ∧ s.env 25 = I k ∧ ∀ j < k, stockE c j = 0) ?_ ?_
    · simp [e1]
    · rintro k s hk ⟨e1, e23, e24, e25, hno⟩
      simp -implicitDefEqProofs [e24, e25]
      refine cond_dec (fun hlt => ?_) (fun hge => ?_)
      · have hst := stock_at hlt
        simp -implicitDefEqProofs [e23, e25, hlt]
        intro b hb
        refine vCall_of (name_ok c.stocks[k].name) ?_
        have hE : stockE c k = if namedE c.stocks[k].name ((c.stocks.take k).map Stock.name) ≠ 0 then namedE c.stocks[k].name ((c.stocks.take k).map Stock.name) else rangeE c.stocks[k].lo c.stocks[k].hi 1450 1850 := by
          unfold stockE; rw [hst]
        unfold namedE at hE
        cases hn : nameOK c.stocks[k].name with
        | false =>
          rw [hn] at hE
          have hE' : stockE c k = 6 := by rw [hE]; simp
          have hr := checkS_3 h1 h2 hlt hno (by rw [hE']; decide)
          rw [hE'] at hr
          simp -implicitDefEqProofs [r15, hR, hr]
        | true =>
          rw [hn] at hE
          have hcon := containsStock_ok (c.stocks.take k) 51 [.ref [S c.stocks[k].name, I c.stocks[k].lo, I c.stocks[k].hi]] (fun x => sEq x.name c.stocks[k].name) (fun x _ => same51_ok x _)
          have hany : ((c.stocks.take k).map Stock.name).any (fun s => sEq s c.stocks[k].name) = (c.stocks.take k).any fun x => sEq x.name c.stocks[k].name := by
            rw [List.any_map]; rfl
          rw [hany] at hE
          rw [List.map_take] at hcon
          generalize (c.stocks.take k).any (fun x => sEq x.name c.stocks[k].name) = bb at *
          simp -implicitDefEqProofs [e1]
          refine ⟨by omega, vCall_of hcon ?_⟩
          cases bb with
          | true =>
            have hE' : stockE c k = 5 := by rw [hE]; simp
            have hr := checkS_3 h1 h2 hlt hno (by rw [hE']; decide)
            rw [hE'] at hr
            simp -implicitDefEqProofs [r15, hR, hr]
          | false =>
            have hE2 : stockE c k = rangeE c.stocks[k].lo c.stocks[k].hi 1450 1850 := by rw [hE]; simp
            obtain ⟨g1, g2⟩ := rangeE_out c.stocks[k].lo c.stocks[k].hi 1450 1850
            have hout := outside_ok 1450 1850 [c.stocks[k].lo, c.stocks[k].hi]
            generalize out 1450 1850 [c.stocks[k].lo, c.stocks[k].hi] = oo at *
            simp -implicitDefEqProofs
            refine vCall_of hout ?_
            cases oo with
            | true =>
              have hE' : stockE c k = 7 := by rw [hE2, g1 rfl]
              have hr := checkS_3 h1 h2 hlt hno (by rw [hE']; decide)
              rw [hE'] at hr
              simp -implicitDefEqProofs [r15, hR, hr]
            | false =>
              have hE3 := hE2.trans (g2 rfl)
              simp -implicitDefEqProofs
              refine cond_dec (fun hc => ?_) (fun hc => ?_)
              · have hE' : stockE c k = 2 := by rw [hE3, if_pos hc]
                have hr := checkS_3 h1 h2 hlt hno (by rw [hE']; decide)
                rw [hE'] at hr
                simp -implicitDefEqProofs [r15, hR, hr]
              · have hE' : stockE c k = 0 := by rw [hE3, if_neg hc]
                simp -implicitDefEqProofs [e25]
                exact ⟨i64 (by omega) (by omega), round_ok hlt ⟨by simp [e1], by simp [e23], by simp [e24], by simp, lt_snoc hno hE'⟩⟩
      · obtain rfl : k = c.stocks.length := by omega
        simp -implicitDefEqProofs
        exact hk0 _ ⟨e1, hno⟩
  rintro s ⟨e1, h3⟩
  by_cases h4 : 1 ≤ (c.reams.length : Int) ∧ (c.reams.length : Int) ≤ 4
  case neg =>
    have o4 : out 1 4 [(c.reams.length : Int)] = true := by rw [out1, decide_eq_false h4]; rfl
    simp -implicitDefEqProofs [e1]
    refine vCall_of (outside_ok 1 4 [(c.reams.length : Int)]) ?_
    rw [o4]
    simp -implicitDefEqProofs [r15, hR, checkS_4 h1 h2 h3 h4]
  have o4 : out 1 4 [(c.reams.length : Int)] = false := by rw [out1, decide_eq_true h4]; rfl
  refine cutS (fun st => st.env 1 = caseRef c) ?_ ?_
  · intro k hk
    simp -implicitDefEqProofs [e1]
    refine vCall_of (outside_ok 1 4 [(c.reams.length : Int)]) ?_
    rw [o4]
    simp -implicitDefEqProofs
    exact hk _ (by simp [e1])
  intro s e1
  refine cutS (fun st => st.env 1 = caseRef c ∧ ∀ j < c.reams.length, reamE c j = 0) ?_ ?_
  · intro k0 hk0
    simp -implicitDefEqProofs [e1]
    refine loop_up c.reams.length (fun k s => s.env 1 = caseRef c ∧ s.env 70 = .slice 3 (c.reams.map encReam) 0 ∧ s.env 71 = I c.reams.length ∧ s.env 72 = I k ∧ ∀ j < k, reamE c j = 0) ?_ ?_
    · simp [e1]
    · rintro k s hk ⟨e1, e70, e71, e72, hno⟩
      simp -implicitDefEqProofs [e71, e72]
      refine cond_dec (fun hlt => ?_) (fun hge => ?_)
      · have hst := ream_at hlt
        simp -implicitDefEqProofs [e1, e70, e72, hlt]
        intro b hb
        refine ⟨i64 (by omega) (by omega), ?_⟩
        refine vCall_of (outside_ok 0 ((c.stocks.length : Int) - 1) [c.reams[k].stock]) ?_
        have hE : reamE c k = if ¬ (0 ≤ c.reams[k].stock ∧ c.reams[k].stock ≤ (c.stocks.length : Int) - 1) then 4 else if rangeE c.reams[k].lo c.reams[k].hi 1 2000 ≠ 0 then rangeE c.reams[k].lo c.reams[k].hi 1 2000 else if c.reams[k].lo + 2 < c.reams[k].hi then 2 else 0 := by
          unfold reamE; rw [hst]
        by_cases hs : 0 ≤ c.reams[k].stock ∧ c.reams[k].stock ≤ (c.stocks.length : Int) - 1
        case neg =>
          have hE' : reamE c k = 4 := by rw [hE, if_pos hs]
          have hr := checkS_5 h1 h2 h3 h4 hlt hno (by rw [hE']; decide)
          rw [hE'] at hr
          rw [out1, decide_eq_false hs]
          simp -implicitDefEqProofs [r15, hR, hr]
        rw [if_neg (not_not_intro hs)] at hE
        rw [out1, decide_eq_true hs]
        obtain ⟨g1, g2⟩ := rangeE_out c.reams[k].lo c.reams[k].hi 1 2000
        have hout := outside_ok 1 2000 [c.reams[k].lo, c.reams[k].hi]
        cases ho : out 1 2000 [c.reams[k].lo, c.reams[k].hi] with
        | true =>
          rw [ho] at hout
          have hE' : reamE c k = 7 := by rw [hE, g1 ho]; simp
          have hr := checkS_5 h1 h2 h3 h4 hlt hno (by rw [hE']; decide)
          rw [hE'] at hr
          simp -implicitDefEqProofs
          refine vCall_of hout ?_
          simp -implicitDefEqProofs [r15, hR, hr]
        | false =>
          have hb := ho
          rw [out2] at hb
          simp only [Bool.not_eq_false', Bool.and_eq_true, decide_eq_true_eq] at hb
          rw [g2 ho] at hE
          rw [ho] at hout
          simp -implicitDefEqProofs
          refine vCall_of hout ?_
          simp -implicitDefEqProofs
          refine ⟨i64 (by omega) (by omega), ?_⟩
          refine vCall_of (outside_ok c.reams[k].lo (c.reams[k].lo + 2) [c.reams[k].hi]) ?_
          by_cases hc : c.reams[k].lo ≤ c.reams[k].hi ∧ c.reams[k].hi ≤ c.reams[k].lo + 2
          · have hE' : reamE c k = 0 := by rw [hE, if_neg (by omega : ¬ c.reams[k].hi < c.reams[k].lo), if_neg (by simp), if_neg (by omega)]
            rw [out1, decide_eq_true hc]
            simp -implicitDefEqProofs [e72]
            exact ⟨i64 (by omega) (by omega), round_ok hlt ⟨by simp [e1], by simp [e70], by simp [e71], by simp, lt_snoc hno hE'⟩⟩
          · have hE' : reamE c k = 2 := by
              rw [hE]
              by_cases hq : c.reams[k].hi < c.reams[k].lo
              · rw [if_pos hq, if_pos (by decide)]
              · rw [if_neg hq, if_neg (by simp), if_pos (by omega)]
            have hr := checkS_5 h1 h2 h3 h4 hlt hno (by rw [hE']; decide)
            rw [hE'] at hr
            rw [out1, decide_eq_false hc]
            simp -implicitDefEqProofs [r15, hR, hr]
      · obtain rfl : k = c.reams.length := by omega
        simp -implicitDefEqProofs
        exact hk0 _ ⟨e1, hno⟩
  rintro s ⟨e1, h5⟩
  have hh : Half c := ⟨h1, h2, h3, h4, h5⟩
  by_cases h6 : 1 ≤ c.gath ∧ c.gath ≤ 5
  case neg =>
    have o6 : out 1 5 [c.gath] = true := by rw [out1, decide_eq_false h6]; rfl
    simp -implicitDefEqProofs [e1]
    refine vCall_of (outside_ok 1 5 [c.gath]) ?_
    rw [o6]
    simp -implicitDefEqProofs [r15, hR, checkS_6 hh h6]
  have o6 : out 1 5 [c.gath] = false := by rw [out1, decide_eq_true h6]; rfl
  by_cases h7 : (8 : Int) < c.seen.length
  case pos =>
    simp -implicitDefEqProofs [e1]
    refine vCall_of (outside_ok 1 5 [c.gath]) ?_
    rw [o6]
    simp -implicitDefEqProofs [e1, h7, r15, hR, checkS_7 hh h6 h7]
  refine cutS (fun st => st.env 1 = caseRef c) ?_ ?_
  · intro k hk
    simp -implicitDefEqProofs [e1]
    refine vCall_of (outside_ok 1 5 [c.gath]) ?_
    rw [o6]
    simp -implicitDefEqProofs [e1, h7]
    exact hk _ (by simp [e1])
  intro s e1
  refine cutS (fun st => st.env 1 = caseRef c ∧ ∀ j < c.seen.length, seenE c j = 0) ?_ ?_
  · intro k0 hk0
    simp -implicitDefEqProofs [e1]
    refine loop_up c.seen.length (fun k s => s.env 1 = caseRef c ∧ s.env 123 = .slice 2 (c.seen.map encSeen) 0 ∧ s.env 124 = I c.seen.length ∧ s.env 125 = I k ∧ ∀ j < k, seenE c j = 0) ?_ ?_
    · simp [e1]
    · rintro k s hk ⟨e1, e123, e124, e125, hno⟩
      simp -implicitDefEqProofs [e124, e125]
      refine cond_dec (fun hlt => ?_) (fun hge => ?_)
      · have hst := seen_at hlt
        have hE : seenE c k = if (0 ≤ c.seen[k].1 ∧ c.seen[k].1 ≤ c.gath - 1) ∧ (0 ≤ c.seen[k].2 ∧ c.seen[k].2 ≤ (c.stocks.length : Int) - 1) then 0 else 4 := by
          unfold seenE; rw [hst]
        simp -implicitDefEqProofs [e1, e123, e125, hlt]
        intro b hb
        refine ⟨i64 (by omega) (by omega), ?_⟩
        refine vCall_of (outside_ok 0 (c.gath - 1) [c.seen[k].1]) ?_
        by_cases ha : 0 ≤ c.seen[k].1 ∧ c.seen[k].1 ≤ c.gath - 1
        case neg =>
          have hE' : seenE c k = 4 := by rw [hE, if_neg (fun h => ha h.1)]
          have hr := checkS_8 hh h6 h7 hlt hno (by rw [hE']; decide)
          rw [hE'] at hr
          rw [out1, decide_eq_false ha]
          simp -implicitDefEqProofs [r15, hR, hr]
        rw [out1, decide_eq_true ha]
        simp -implicitDefEqProofs [e1]
        refine ⟨i64 (by omega) (by omega), ?_⟩
        refine vCall_of (outside_ok 0 ((c.stocks.length : Int) - 1) [c.seen[k].2]) ?_
        by_cases hb : 0 ≤ c.seen[k].2 ∧ c.seen[k].2 ≤ (c.stocks.length : Int) - 1
        case neg =>
          have hE' : seenE c k = 4 := by rw [hE, if_neg (fun h => hb h.2)]
          have hr := checkS_8 hh h6 h7 hlt hno (by rw [hE']; decide)
          rw [hE'] at hr
          rw [out1, decide_eq_false hb]
          simp -implicitDefEqProofs [r15, hR, hr]
        have hE' : seenE c k = 0 := by rw [hE, if_pos ⟨ha, hb⟩]
        rw [out1, decide_eq_true hb]
        simp -implicitDefEqProofs [e125]
        exact ⟨i64 (by omega) (by omega), round_ok hlt ⟨by simp [e1], by simp [e123], by simp [e124], by simp, lt_snoc hno hE'⟩⟩
      · obtain rfl : k = c.seen.length := by omega
        simp -implicitDefEqProofs
        exact hk0 _ ⟨e1, hno⟩
  rintro s ⟨e1, h8⟩
  simp -implicitDefEqProofs [r15, hR, checkS_9 hh h6 h7 h8]

end Go.Proofs.Ytbcfmfiolbcclaa

namespace Go.Proofs.Ytbcfmfiolbcclaa
open Go.Avm

theorem in_ok' (n lo hi : Int) (b : Bool) (h : decide (lo ≤ n ∧ n ≤ hi) = b) : PCall Try.prog 52 [I n, I lo, I hi] (B b) := h ▸ in_ok n lo hi

def namesUp (c : Case) (k : Nat) : List ByteArray := (c.stocks.take k).map Stock.name

theorem checkR_ok (c : Case) : PCall Try.prog 16 [encCase c] (T3 (checkS c)) := by
  refine pcall Try.func16 tr16 rs16 fn16 (by simp [Try.ntmps16]) fun hfit => ?_
  have lS := fits_len (fits_agg (hfit 0) 1)
  have lR := fits_len (fits_agg (hfit 0) 2)
  have lX := fits_len (fits_agg (hfit 0) 4)
  simp only [List.length_map] at lS lR lX
  obtain ⟨R, hR⟩ : ∃ R, R = checkS c := ⟨_, rfl⟩
  rw [← hR]
  simp -implicitDefEqProofs only [m16]
  refine cutS (fun st => st.env 1 = caseRef c) ?_ ?_
  · intro k hk
    simp -implicitDefEqProofs
    exact hk _ rfl
  intro s e1; clear hfit
  by_cases h1 : 1 ≤ c.run ∧ c.run ≤ 500
  case neg =>
    simp -implicitDefEqProofs [e1]
    refine vCall_of (in_ok' _ _ _ false (decide_eq_false h1)) ?_
    simp -implicitDefEqProofs [r16, hR, checkS_1 h1]
  refine cutS (fun st => st.env 1 = caseRef c) ?_ ?_
  · intro k hk
    simp -implicitDefEqProofs [e1]
    refine vCall_of (in_ok' _ _ _ true (decide_eq_true h1)) ?_
    simp -implicitDefEqProofs
    exact hk _ (by simp [e1])
  intro s e1
  by_cases h2 : 1 ≤ (c.stocks.length : Int) ∧ (c.stocks.length : Int) ≤ 4
  case neg =>
    simp -implicitDefEqProofs [e1]
    refine vCall_of (in_ok' _ _ _ false (decide_eq_false h2)) ?_
    simp -implicitDefEqProofs [r16, hR, checkS_2 h1 h2]
  refine cutS (fun st => st.env 1 = caseRef c) ?_ ?_
  · intro k hk
    simp -implicitDefEqProofs [e1]
    refine vCall_of (in_ok' _ _ _ true (decide_eq_true h2)) ?_
    simp -implicitDefEqProofs
    exact hk _ (by simp [e1])
  intro s e1
  refine cutS (fun st => st.env 1 = caseRef c ∧ st.env 5 = .slice 1 [] 6) ?_ ?_
  · intro k hk
    simp -implicitDefEqProofs
    exact hk _ (by simp [e1])
  rintro s ⟨e1, e5⟩
  refine cutS (fun st => st.env 1 = caseRef c ∧ ∀ j < c.stocks.length, stockE c j = 0) ?_ ?_
  · intro k0 hk0
    simp -implicitDefEqProofs
    refine loop_up c.stocks.length (fun k s => s.env 1 = caseRef c ∧ s.env 5 = .slice 1 ((namesUp c k).map S) 6 ∧ s.env 6 = I k ∧ ∀ j < k, stockE c j = 0) ?_ ?_
    · simp [e1, e5, namesUp]
    · rintro k s hk ⟨e1, e5, e6, hno⟩
      simp -implicitDefEqProofs [e1, e6]
      refine cond_dec (fun hlt => ?_) (fun hge => ?_)
      · have hlt : k < c.stocks.length := by omega
        have hst := stock_at hlt
        have hE : stockE c k = if namedE c.stocks[k].name (namesUp c k) ≠ 0 then namedE c.stocks[k].name (namesUp c k) else rangeE c.stocks[k].lo c.stocks[k].hi 1450 1850 := by
          unfold stockE; rw [hst]; rfl
        have hf := fresh_ok c.stocks[k].name (namesUp c k)
        have hl : (namesUp c k).length = k := by simp [namesUp]; omega
        have hsn : namesUp c (k + 1) = namesUp c k ++ [c.stocks[k].name] := by unfold namesUp; rw [take_snoc hlt, List.map_append]; rfl
        generalize namesUp c k = nm at *
        generalize namedE c.stocks[k].name nm = e at *
        simp -implicitDefEqProofs [e1, e5, e6, hlt]
        refine vCall_of hf ?_
        simp -implicitDefEqProofs [e1, e5, e6, hlt]
        refine ⟨by omega, by omega, ?_⟩
        by_cases he : e = 0
        · have he' : (e == 0) = true := by simp [he]
          rw [if_neg (not_not_intro he)] at hE
          have hr0 := range_ok c.stocks[k].lo c.stocks[k].hi 1450 1850
          generalize rangeE c.stocks[k].lo c.stocks[k].hi 1450 1850 = q at *
          simp -implicitDefEqProofs [e1, e6, he', hlt]
          refine vCall_of hr0 ?_
          by_cases hq : q = 0
          · have hq' : (q != 0) = false := by simp [hq]
            simp -implicitDefEqProofs [e6, hq']
            exact ⟨i64 (by omega) (by omega), round_ok hlt ⟨by simp [e1], by simp [hsn], by simp, lt_snoc hno (by rw [hE, hq])⟩⟩
          · have hq' : (q != 0) = true := by simp [hq]
            have hr := checkS_3 h1 h2 hlt hno (by rw [hE]; exact hq)
            rw [hE] at hr
            simp -implicitDefEqProofs [e6, hq', r16, hR, hr]
        · have he' : (e == 0) = false := by simp [he]
          have he2 : (e != 0) = true := by simp [he]
          rw [if_pos he] at hE
          have hr := checkS_3 h1 h2 hlt hno (by rw [hE]; exact he)
          rw [hE] at hr
          simp -implicitDefEqProofs [e6, he', he2, r16, hR, hr]
      · obtain rfl : k = c.stocks.length := by omega
        simp -implicitDefEqProofs
        exact hk0 _ ⟨by simp [e1], hno⟩
  rintro s ⟨e1, h3⟩
  by_cases h4 : 1 ≤ (c.reams.length : Int) ∧ (c.reams.length : Int) ≤ 4
  case neg =>
    simp -implicitDefEqProofs [e1]
    refine vCall_of (in_ok' _ _ _ false (decide_eq_false h4)) ?_
    simp -implicitDefEqProofs [r16, hR, checkS_4 h1 h2 h3 h4]
  refine cutS (fun st => st.env 1 = caseRef c) ?_ ?_
  · intro k hk
    simp -implicitDefEqProofs [e1]
    refine vCall_of (in_ok' _ _ _ true (decide_eq_true h4)) ?_
    simp -implicitDefEqProofs
    exact hk _ (by simp [e1])
  intro s e1
  refine cutS (fun st => st.env 1 = caseRef c ∧ ∀ j < c.reams.length, reamE c j = 0) ?_ ?_
  · intro k0 hk0
    simp -implicitDefEqProofs
    refine loop_up c.reams.length (fun k s => s.env 1 = caseRef c ∧ s.env 8 = I k ∧ ∀ j < k, reamE c j = 0) ?_ ?_
    · simp [e1]
    · rintro k s hk ⟨e1, e8, hno⟩
      simp -implicitDefEqProofs [e1, e8]
      refine cond_dec (fun hlt => ?_) (fun hge => ?_)
      · have hlt : k < c.reams.length := by omega
        have hst := ream_at hlt
        have hE : reamE c k = if ¬ (0 ≤ c.reams[k].stock ∧ c.reams[k].stock ≤ (c.stocks.length : Int) - 1) then 4 else if rangeE c.reams[k].lo c.reams[k].hi 1 2000 ≠ 0 then rangeE c.reams[k].lo c.reams[k].hi 1 2000 else if c.reams[k].lo + 2 < c.reams[k].hi then 2 else 0 := by
          unfold reamE; rw [hst]
        simp -implicitDefEqProofs [e1, e8, hlt]
        intro b hb
        refine ⟨i64 (by omega) (by omega), ?_⟩
        by_cases hs : 0 ≤ c.reams[k].stock ∧ c.reams[k].stock ≤ (c.stocks.length : Int) - 1
        case neg =>
          have hE' : reamE c k = 4 := by rw [hE, if_pos hs]
          have hr := checkS_5 h1 h2 h3 h4 hlt hno (by rw [hE']; decide)
          rw [hE'] at hr
          refine vCall_of (in_ok' _ _ _ false (decide_eq_false hs)) ?_
          simp -implicitDefEqProofs [e8, r16, hR, hr]
        refine vCall_of (in_ok' _ _ _ true (decide_eq_true hs)) ?_
        rw [if_neg (not_not_intro hs)] at hE
        have hr0 := range_ok c.reams[k].lo c.reams[k].hi 1 2000
        have hin : rangeE c.reams[k].lo c.reams[k].hi 1 2000 = 0 → 1 ≤ c.reams[k].lo ∧ c.reams[k].lo ≤ 2000 := fun h => by
          unfold rangeE at h
          split at h
          · cases h
          · split at h
            · cases h
            · omega
        generalize rangeE c.reams[k].lo c.reams[k].hi 1 2000 = q at *
        simp -implicitDefEqProofs
        refine vCall_of hr0 ?_
        by_cases hq : q = 0
        · have hq' : (q == 0) = true := by simp [hq]
          have hq2 : (q != 0) = false := by simp [hq]
          rw [if_neg (not_not_intro hq)] at hE
          have hin := hin hq
          simp -implicitDefEqProofs [hq']
          refine ⟨i64 (by omega) (by omega), ?_⟩
          by_cases hc : c.reams[k].lo + 2 < c.reams[k].hi
          · rw [if_pos hc] at hE
            have hr := checkS_5 h1 h2 h3 h4 hlt hno (by rw [hE]; decide)
            rw [hE] at hr
            simp -implicitDefEqProofs [hc, e8, r16, hR, hr]
          · rw [if_neg hc] at hE
            simp -implicitDefEqProofs [hc, e8, hq2]
            exact ⟨i64 (by omega) (by omega), round_ok hlt ⟨by simp [e1], by simp, lt_snoc hno hE⟩⟩
        · have hq' : (q == 0) = false := by simp [hq]
          have hq2 : (q != 0) = true := by simp [hq]
          rw [if_pos hq] at hE
          have hr := checkS_5 h1 h2 h3 h4 hlt hno (by rw [hE]; exact hq)
          rw [hE] at hr
          simp -implicitDefEqProofs [e8, hq', hq2, r16, hR, hr]
      · obtain rfl : k = c.reams.length := by omega
        simp -implicitDefEqProofs
        exact hk0 _ ⟨by simp [e1], hno⟩
  rintro s ⟨e1, h5⟩
  have hh : Half c := ⟨h1, h2, h3, h4, h5⟩
  by_cases h6 : 1 ≤ c.gath ∧ c.gath ≤ 5
  case neg =>
    simp -implicitDefEqProofs [e1]
    refine vCall_of (in_ok' _ _ _ false (decide_eq_false h6)) ?_
    simp -implicitDefEqProofs [r16, hR, checkS_6 hh h6]
  refine cutS (fun st => st.env 1 = caseRef c) ?_ ?_
  · intro k hk
    simp -implicitDefEqProofs [e1]
    refine vCall_of (in_ok' _ _ _ true (decide_eq_true h6)) ?_
    simp -implicitDefEqProofs
    exact hk _ (by simp [e1])
  intro s e1
  by_cases h7 : (8 : Int) < c.seen.length
  case pos =>
    simp -implicitDefEqProofs [e1, h7, r16, hR, checkS_7 hh h6 h7]
  refine cutS (fun st => st.env 1 = caseRef c) ?_ ?_
  · intro k hk
    simp -implicitDefEqProofs [e1, h7]
    exact hk _ (by simp [e1])
  intro s e1
  refine cutS (fun st => st.env 1 = caseRef c ∧ ∀ j < c.seen.length, seenE c j = 0) ?_ ?_
  · intro k0 hk0
    simp -implicitDefEqProofs
    refine loop_up c.seen.length (fun k s => s.env 1 = caseRef c ∧ s.env 11 = I k ∧ ∀ j < k, seenE c j = 0) ?_ ?_
    · simp [e1]
    · rintro k s hk ⟨e1, e11, hno⟩
      simp -implicitDefEqProofs [e1, e11]
      refine cond_dec (fun hlt => ?_) (fun hge => ?_)
      · have hlt : k < c.seen.length := by omega
        have hst := seen_at hlt
        have hE : seenE c k = if (0 ≤ c.seen[k].1 ∧ c.seen[k].1 ≤ c.gath - 1) ∧ (0 ≤ c.seen[k].2 ∧ c.seen[k].2 ≤ (c.stocks.length : Int) - 1) then 0 else 4 := by
          unfold seenE; rw [hst]
        simp -implicitDefEqProofs [e1, e11, hlt]
        refine ⟨i64 (by omega) (by omega), ?_⟩
        by_cases ha : 0 ≤ c.seen[k].1 ∧ c.seen[k].1 ≤ c.gath - 1
        case neg =>
          have hE' : seenE c k = 4 := by rw [hE, if_neg (fun h => ha h.1)]
          have hr := checkS_8 hh h6 h7 hlt hno (by rw [hE']; decide)
          rw [hE'] at hr
          refine vCall_of (in_ok' _ _ _ false (decide_eq_false ha)) ?_
          simp -implicitDefEqProofs [e11, r16, hR, hr]
        refine vCall_of (in_ok' _ _ _ true (decide_eq_true ha)) ?_
        simp -implicitDefEqProofs [e1, e11, hlt]
        refine ⟨i64 (by omega) (by omega), ?_⟩
        by_cases hb : 0 ≤ c.seen[k].2 ∧ c.seen[k].2 ≤ (c.stocks.length : Int) - 1
        case neg =>
          have hE' : seenE c k = 4 := by rw [hE, if_neg (fun h => hb h.2)]
          have hr := checkS_8 hh h6 h7 hlt hno (by rw [hE']; decide)
          rw [hE'] at hr
          refine vCall_of (in_ok' _ _ _ false (decide_eq_false hb)) ?_
          simp -implicitDefEqProofs [e11, r16, hR, hr]
        have hE' : seenE c k = 0 := by rw [hE, if_pos ⟨ha, hb⟩]
        refine vCall_of (in_ok' _ _ _ true (decide_eq_true hb)) ?_
        simp -implicitDefEqProofs [e11]
        exact ⟨i64 (by omega) (by omega), round_ok hlt ⟨by simp [e1], by simp, lt_snoc hno hE'⟩⟩
      · obtain rfl : k = c.seen.length := by omega
        simp -implicitDefEqProofs
        exact hk0 _ ⟨by simp [e1], hno⟩
  rintro s ⟨e1, h8⟩
  simp -implicitDefEqProofs [r16, hR, checkS_9 hh h6 h7 h8]

theorem rangeE_zero {a b lo hi : Int} (h : rangeE a b lo hi = 0) : lo ≤ a ∧ a ≤ b ∧ b ≤ hi := by
  unfold rangeE at h
  split at h
  · cases h
  · split at h
    · cases h
    · omega

/-- What holds of a case without an error. -/
theorem checkS_zero {c : Case} (h : (checkS c).2.2 = 0) : c.OK ∧ c.seen.length ≤ 8 ∧ checkS c = (0, 0, 0) := by
  by_cases h1 : 1 ≤ c.run ∧ c.run ≤ 500
  case neg => rw [checkS_1 h1] at h; cases h
  by_cases h2 : 1 ≤ (c.stocks.length : Int) ∧ (c.stocks.length : Int) ≤ 4
  case neg => rw [checkS_2 h1 h2] at h; cases h
  have hz := h
  unfold checkS at h
  rw [if_neg (not_not_intro h1), if_neg (not_not_intro h2)] at h
  cases h3 : errs (stockE c) c.stocks.length with
  | some p => rw [h3] at h; exact absurd h (errs_nz (i := p.1) (e := p.2) h3)
  | none =>
  rw [h3] at h
  have h3 := errs_zero h3
  simp only at h
  by_cases h4 : 1 ≤ (c.reams.length : Int) ∧ (c.reams.length : Int) ≤ 4
  case neg => rw [if_pos h4] at h; cases h
  rw [if_neg (not_not_intro h4)] at h
  cases h5 : errs (reamE c) c.reams.length with
  | some p => rw [h5] at h; exact absurd h (errs_nz (i := p.1) (e := p.2) h5)
  | none =>
  rw [h5] at h
  have h5 := errs_zero h5
  simp only at h
  by_cases h6 : 1 ≤ c.gath ∧ c.gath ≤ 5
  case neg => rw [if_pos h6] at h; cases h
  rw [if_neg (not_not_intro h6)] at h
  by_cases h7 : (8 : Int) < c.seen.length
  case pos => rw [if_pos h7] at h; cases h
  rw [if_neg h7] at h
  cases h8 : errs (seenE c) c.seen.length with
  | some p => rw [h8] at h; exact absurd h (errs_nz (i := p.1) (e := p.2) h8)
  | none =>
  have h8 := errs_zero h8
  refine ⟨⟨h1, by omega, fun s hs => ?_, by omega, fun r hr => ?_, h6, by omega, fun x hx => ?_⟩, by omega, checkS_9 ⟨h1, h2, h3, h4, h5⟩ h6 h7 h8⟩
  · obtain ⟨i, hi, rfl⟩ := List.getElem_of_mem hs
    have := h3 i hi
    unfold stockE at this
    rw [stock_at hi] at this
    simp only at this
    split at this
    · rename_i hn; exact absurd this hn
    · have := rangeE_zero this; omega
  · obtain ⟨i, hi, rfl⟩ := List.getElem_of_mem hr
    have := h5 i hi
    unfold reamE at this
    rw [ream_at hi] at this
    simp only at this
    split at this
    · cases this
    · rename_i hs
      have hs := Decidable.not_not.1 hs
      split at this
      · rename_i hn; exact absurd this hn
      · rename_i hn
        have hz := rangeE_zero (Decidable.not_not.1 hn)
        split at this
        · cases this
        · omega
  · obtain ⟨i, hi, rfl⟩ := List.getElem_of_mem hx
    have := h8 i hi
    unfold seenE at this
    rw [seen_at hi] at this
    simp only at this
    split at this
    · omega
    · cases this

/-- What enters. -/
theorem enter_ok (c : Case) : PCall Try.prog 55 [encCase c] (.tuple [encCase c, I (checkS c).2.2]) := by
  refine pcall Try.func55 tr55 rs55 fn55 (by simp [Try.ntmps55]) fun _ => ?_
  have hc := check_ok c
  generalize checkS c = R at *
  simp -implicitDefEqProofs [m55]
  intro b
  refine vCall_of hc ?_
  simp -implicitDefEqProofs [r55]

end Go.Proofs.Ytbcfmfiolbcclaa

