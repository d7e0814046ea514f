/- The case of the layer owner as plain data; lists of orders, sets. Contracts of small functions: outside, names. Sets as bits. Contracts of small functions of the reference. The checks of a case, as plain data; the program's Check. What sales say of each owner: the program's map; look and enter. The rules of an order: complete, beside, layered. The chain of an order as plain data; cells of arrays and of holds. -/
import Derived.Test.YtiampdiobdianaaZC
import Derived.Test.YtiampdiobdianaaZD
namespace Go.Proofs.Ytiampdiobdianaa
open Go.Avm

abbrev I (n : Int) : AV := .lit (.int .i64 n)
abbrev B (b : Bool) : AV := .lit (.bool b)
abbrev S (s : ByteArray) : AV := .lit (.string s)
abbrev IL (l : List Int) : AV := .slice 1 (l.map I) 0
abbrev ILL (l : List (List Int)) : AV := .slice 1 (l.map IL) 0
abbrev SL (l : List ByteArray) : AV := .slice 1 (l.map S) 0
abbrev Span2 (lo hi : Int) : AV := .agg [I lo, I hi]

structure Ower where
  name : ByteArray
  born : Int
  died : Int
structure Mk where
  owner : Int
  lo : Int
  hi : Int
  upon : Int
structure Sale where
  year : Int
  src : Int
  dst : Int
structure Case where
  printed : Int
  now : Int
  owners : List Ower
  marks : List Mk
  sales : List Sale

abbrev encOwner (o : Ower) : AV := .agg [S o.name, I o.born, I o.died]
abbrev encMark (m : Mk) : AV := .agg [I m.owner, I m.lo, I m.hi, I m.upon]
abbrev encSale (s : Sale) : AV := .agg [I s.year, I s.src, I s.dst]
abbrev caseCells (c : Case) : List AV := [I c.printed, I c.now, .slice 3 (c.owners.map encOwner) 0, .slice 4 (c.marks.map encMark) 0, .slice 3 (c.sales.map encSale) 0]
abbrev encCase (c : Case) : AV := .agg (caseCells c)
abbrev caseRef (c : Case) : AV := .ref (caseCells c)

structure Case.OK (c : Case) : Prop where
  years : 1450 ≤ c.printed ∧ c.printed ≤ c.now ∧ c.now ≤ 1850
  ownersLen : c.owners.length ≤ 6
  owners : ∀ o ∈ c.owners, 0 ≤ o.born ∧ o.born ≤ o.died ∧ o.died ≤ 9999
  marksLen : c.marks.length ≤ 9
  marks : ∀ m ∈ c.marks, 0 ≤ m.owner ∧ m.owner < c.owners.length ∧ c.printed ≤ m.lo ∧ m.lo ≤ m.hi ∧ m.hi ≤ c.now
  upon : ∀ i (h : i < c.marks.length), -1 ≤ c.marks[i].upon ∧ c.marks[i].upon < i
  salesLen : c.sales.length ≤ 4
  sales : ∀ s ∈ c.sales, c.printed ≤ s.year ∧ s.year ≤ c.now ∧ -1 ≤ s.src ∧ s.src < c.owners.length ∧ -1 ≤ s.dst ∧ s.dst < c.owners.length ∧ s.src ≠ s.dst
theorem take_snoc {α : Type} {l : List α} {k : Nat} (h : k < l.length) : l.take (k + 1) = l.take k ++ [l[k]] := List.take_succ_eq_append_getElem h

def grow (m : Nat) (o : List Int) : List (List Int) := ((List.range m).filter fun n : Nat => !decide ((n : Int) ∈ o)).map fun n : Nat => o ++ [(n : Int)]
def allO (m : Nat) : Nat → List (List Int)
  | 0 => [[]]
  | i + 1 => (allO m i).flatMap (grow m)

def dfs (m : Nat) : Nat → List Int → List (List Int)
  | 0, o => [o]
  | k + 1, o => (grow m o).flatMap (dfs m k)

theorem dfs_all (m : Nat) : ∀ (k i : Nat), (allO m i).flatMap (dfs m k) = allO m (i + k)
  | 0, i => by
    have : ∀ l : List (List Int), l.flatMap (dfs m 0) = l := fun l => by
      induction l with
      | nil => rfl
      | cons a l ih => rw [List.flatMap_cons, ih]; rfl
    exact this _
  | k + 1, i => by
    rw [show i + (k + 1) = (i + 1) + k by omega, ← dfs_all m k (i + 1), allO, List.flatMap_assoc]
    rfl

theorem grow_len (m : Nat) (o : List Int) : (grow m o).length ≤ m := by
  unfold grow
  rw [List.length_map]
  exact Nat.le_trans (List.length_filter_le _ _) (by simp)

theorem flat_grow_len (m : Nat) : ∀ (l : List (List Int)), (l.flatMap (grow m)).length ≤ l.length * m
  | [] => by simp
  | o :: l => by
    have h1 := grow_len m o
    have h2 := flat_grow_len m l
    simp only [List.flatMap_cons, List.length_append, List.length_cons, Nat.add_mul]
    omega

theorem allO_len (m : Nat) : ∀ i, (allO m i).length ≤ m ^ i
  | 0 => by simp [allO]
  | i + 1 => by
    have h := allO_len m i
    rw [allO, Nat.pow_succ]
    exact Nat.le_trans (flat_grow_len m _) (Nat.mul_le_mul_right _ h)

theorem allO_each (m : Nat) : ∀ i, ∀ o ∈ allO m i, o.length = i ∧ o.Nodup ∧ ∀ x ∈ o, 0 ≤ x ∧ x < m
  | 0 => by simp [allO]
  | i + 1 => by
    intro o ho
    rw [allO, List.mem_flatMap] at ho
    obtain ⟨p, hp, ho⟩ := ho
    obtain ⟨h1, h2, h3⟩ := allO_each m i p hp
    unfold grow at ho
    rw [List.mem_map] at ho
    obtain ⟨n, hn, rfl⟩ := ho
    simp only [List.mem_filter, List.mem_range, Bool.not_eq_true', decide_eq_false_iff_not] at hn
    refine ⟨by simp [h1], ?_, fun x hx => ?_⟩
    · rw [List.nodup_append]
      refine ⟨h2, by simp, fun a ha b hb e => ?_⟩
      rw [List.mem_singleton] at hb
      subst hb; subst e
      exact hn.2 ha
    · rcases List.mem_append.1 hx with hx | hx
      · exact h3 x hx
      · rw [List.mem_singleton] at hx; omega

theorem mem_allO (m : Nat) : ∀ i o, o.length = i → o.Nodup → (∀ x ∈ o, 0 ≤ x ∧ x < (m : Int)) → o ∈ allO m i
  | 0, o, h, _, _ => by rw [List.length_eq_zero_iff] at h; simp [h, allO]
  | i + 1, o, h, h2, h3 => by
    have hne : o ≠ [] := by rintro rfl; simp at h
    have e : o = o.dropLast ++ [o.getLast hne] := (List.dropLast_concat_getLast hne).symm
    have hm := h3 (o.getLast hne) (List.getLast_mem hne)
    rw [e, List.nodup_append] at h2
    rw [allO, List.mem_flatMap]
    refine ⟨o.dropLast, mem_allO m i _ (by simp [h]) h2.1 (fun x hx => h3 x (List.dropLast_subset _ hx)), ?_⟩
    unfold grow
    rw [List.mem_map]
    refine ⟨(o.getLast hne).toNat, ?_, ?_⟩
    · simp only [List.mem_filter, List.mem_range, Bool.not_eq_true', decide_eq_false_iff_not]
      refine ⟨by omega, fun hin => ?_⟩
      rw [Int.toNat_of_nonneg hm.1] at hin
      exact h2.2.2 _ hin _ (by simp) rfl
    · rw [Int.toNat_of_nonneg hm.1]; exact e.symm

theorem grow_succ (j : Nat) (o : List Int) : grow (j + 1) o = grow j o ++ if (j : Int) ∈ o then [] else [o ++ [(j : Int)]] := by
  unfold grow
  rw [List.range_succ, List.filter_append, List.map_append]
  congr 1
  by_cases h : (j : Int) ∈ o <;> simp [h]

def selT (q : Nat → Bool) (n : Nat) : List Int := ((List.range n).filter q).map fun s : Nat => (s : Int)
theorem selT_zero (q : Nat → Bool) : selT q 0 = [] := rfl
theorem selT_succ (q : Nat → Bool) (n : Nat) : selT q (n + 1) = selT q n ++ if q n then [(n : Int)] else [] := by
  unfold selT
  rw [List.range_succ, List.filter_append, List.map_append]
  congr 1
  cases h : q n <;> simp [h]
theorem selT_t {q : Nat → Bool} {n : Nat} (h : q n = true) : selT q (n + 1) = selT q n ++ [(n : Int)] := by rw [selT_succ, h]; rfl
theorem selT_f {q : Nat → Bool} {n : Nat} (h : q n = false) : selT q (n + 1) = selT q n := by rw [selT_succ, h]; simp
theorem selT_len (q : Nat → Bool) (n : Nat) : (selT q n).length ≤ n := by
  unfold selT
  rw [List.length_map]
  exact Nat.le_trans (List.length_filter_le _ _) (by simp)
theorem mem_selT {q : Nat → Bool} {n j : Nat} : ((j : Int) ∈ selT q n) ↔ j < n ∧ q j = true := by
  unfold selT
  simp only [List.mem_map, List.mem_filter, List.mem_range]
  constructor
  · rintro ⟨i, hi, e⟩
    obtain rfl : i = j := by omega
    exact hi
  · intro h
    exact ⟨j, h, rfl⟩
theorem selT_mem {q : Nat → Bool} {n : Nat} {x : Int} (h : x ∈ selT q n) : ∃ j : Nat, x = j ∧ j < n ∧ q j = true := by
  unfold selT at h
  rw [List.mem_map] at h
  obtain ⟨j, hj, rfl⟩ := h
  exact ⟨j, rfl, by simpa using hj⟩

def bitsL (n : Nat) : List Int := selT (fun i => n.testBit i) 8
def lenM (n : Nat) : Nat := ((List.range 9).find? fun i => n < 2 ^ i).getD 9

theorem bitsL_inj {a b : Nat} (ha : a < 256) (hb : b < 256) (h : bitsL a = bitsL b) : a = b := by
  apply Nat.eq_of_testBit_eq
  intro i
  by_cases hi : i < 8
  · have e : ((i : Int) ∈ bitsL a) ↔ ((i : Int) ∈ bitsL b) := by rw [h]
    unfold bitsL at e
    rw [mem_selT, mem_selT] at e
    simp only [hi, true_and] at e
    exact Bool.eq_iff_iff.2 e
  · rw [Nat.testBit_lt_two_pow (Nat.lt_of_lt_of_le (m := 2 ^ 8) ha (Nat.pow_le_pow_right (by omega) (by omega))), Nat.testBit_lt_two_pow (Nat.lt_of_lt_of_le (m := 2 ^ 8) hb (Nat.pow_le_pow_right (by omega) (by omega)))]

def lexL : List Int → List Int → Bool
  | x :: xs, y :: ys => if x = y then lexL xs ys else decide (x < y)
  | _, _ => false
def cmpL : List Int → List Int → Int
  | x :: xs, y :: ys => if x < y then -1 else if y < x then 1 else cmpL xs ys
  | _, _ => 0
def lessL (a b : List Int) : Bool := if a.length ≠ b.length then decide (a.length < b.length) else lexL a b

theorem cmp_lex : ∀ (a b : List Int), decide (cmpL a b < 0) = lexL a b
  | [], [] => rfl
  | [], _ :: _ => rfl
  | _ :: _, [] => rfl
  | x :: xs, y :: ys => by
    unfold cmpL lexL
    by_cases h1 : x < y
    · have h2 : ¬ x = y := by omega
      simp [h1, h2]
    · by_cases h3 : y < x
      · have h2 : ¬ x = y := by omega
        simp [h1, h2, h3]
      · have h2 : x = y := by omega
        simp [h2, cmp_lex xs ys]

theorem lexL_total : ∀ {a b : List Int}, a.length = b.length → a ≠ b → lexL a b = false → lexL b a = true
  | [], [], _, h, _ => absurd rfl h
  | x :: xs, y :: ys, hl, h, hf => by
    unfold lexL at hf ⊢
    by_cases e : x = y
    · subst e
      rw [if_pos rfl] at hf ⊢
      exact lexL_total (by simpa using hl) (fun e => h (by rw [e])) hf
    · rw [if_neg e] at hf
      rw [if_neg (fun h => e h.symm)]
      simp at hf ⊢
      omega
theorem lexL_trans : ∀ {a b c : List Int}, lexL a b = true → lexL b c = true → lexL a c = true
  | [], _, _, h, _ => by simp [lexL] at h
  | _ :: _, [], _, h, _ => by simp [lexL] at h
  | _ :: _, _ :: _, [], _, h => by simp [lexL] at h
  | x :: xs, y :: ys, z :: zs, h1, h2 => by
    unfold lexL at h1 h2 ⊢
    by_cases e1 : x = y
    · subst e1
      rw [if_pos rfl] at h1
      by_cases e2 : x = z
      · subst e2
        rw [if_pos rfl] at h2 ⊢
        exact lexL_trans h1 h2
      · rw [if_neg e2] at h2 ⊢
        exact h2
    · rw [if_neg e1] at h1
      simp only [decide_eq_true_eq] at h1
      by_cases e2 : y = z
      · subst e2
        rw [if_neg e1]
        simpa using h1
      · rw [if_neg e2] at h2
        simp only [decide_eq_true_eq] at h2
        rw [if_neg (by omega)]
        simp; omega
theorem lessL_total {a b : List Int} (h : a ≠ b) (hf : lessL a b = false) : lessL b a = true := by
  unfold lessL at hf ⊢
  by_cases e : a.length = b.length
  · rw [if_neg (not_not_intro e)] at hf
    rw [if_neg (not_not_intro e.symm)]
    exact lexL_total e h hf
  · rw [if_pos e] at hf
    rw [if_pos (fun h => e h.symm)]
    simp at hf ⊢
    omega
theorem lessL_trans {a b c : List Int} (h1 : lessL a b = true) (h2 : lessL b c = true) : lessL a c = true := by
  unfold lessL at h1 h2 ⊢
  split at h1 <;> split at h2
  · rw [decide_eq_true_eq] at h1 h2; rw [if_pos (by omega)]; simp; omega
  · rw [decide_eq_true_eq] at h1; rw [if_pos (by omega)]; simp; omega
  · rw [decide_eq_true_eq] at h2; rw [if_pos (by omega)]; simp; omega
  · rw [if_neg (by omega)]; exact lexL_trans h1 h2
def bestUp (q : Nat → Bool) : Nat → Option Nat
  | 0 => none
  | k + 1 => match bestUp q k with
    | none => if q k then some k else none
    | some b => if lessL (bitsL k) (bitsL b) && q k then some k else some b

theorem bestUp_spec (q : Nat → Bool) : ∀ k, k ≤ 256 → match bestUp q k with
    | none => ∀ j < k, q j = false
    | some b => b < k ∧ q b = true ∧ ∀ j < k, q j = true → j = b ∨ lessL (bitsL b) (bitsL j) = true
  | 0, _ => by simp [bestUp]
  | k + 1, hk => by
    have ih := bestUp_spec q k (by omega)
    unfold bestUp
    generalize bestUp q k = o at ih
    cases o with
    | none =>
      simp only at ih ⊢
      cases hq : q k with
      | true =>
        refine ⟨by omega, hq, fun j hj hqj => ?_⟩
        by_cases e : j = k
        · exact .inl e
        · rw [ih j (by omega)] at hqj; cases hqj
      | false =>
        intro j hj
        by_cases e : j = k
        · rw [e, hq]
        · exact ih j (by omega)
    | some b =>
      obtain ⟨h1, h2, h3⟩ := ih
      show (match (if lessL (bitsL k) (bitsL b) && q k then some k else some b : Option Nat) with | none => _ | some b => _)
      cases hl : lessL (bitsL k) (bitsL b) && q k with
      | true =>
        rw [Bool.and_eq_true] at hl
        show k < k + 1 ∧ _
        refine ⟨by omega, hl.2, fun j hj hqj => ?_⟩
        by_cases e : j = k
        · exact .inl e
        · rcases h3 j (by omega) hqj with rfl | h
          · exact .inr hl.1
          · exact .inr (lessL_trans hl.1 h)
      | false =>
        show b < k + 1 ∧ _
        refine ⟨by omega, h2, fun j hj hqj => ?_⟩
        by_cases e : j = k
        · subst e
          rw [hqj, Bool.and_true] at hl
          exact .inr (lessL_total (fun e => by have := bitsL_inj (by omega) (by omega) e; omega) hl)
        · exact h3 j (by omega) hqj

def listsN : Nat → Nat → Nat → List (List Int)
  | 0, _, _ => [[]]
  | m + 1, f, b => (List.range (b - m - f)).flatMap fun j => (listsN m (f + j + 1) b).map fun l => ((f + j : Nat) : Int) :: l
def enumL (n : Nat) : List (List Int) := (List.range (n + 1)).flatMap fun m => listsN m 0 n
def maskOf (l : List Int) : Nat := l.foldl (fun a x => a + 2 ^ x.toNat) 0

def chain : List (List Int) → Bool
  | a :: b :: l => lessL a b && chain (b :: l)
  | _ => true
theorem enum_mask : ((List.range 9).all fun n => (enumL n).all fun l => decide (maskOf l < 2 ^ n) && decide (bitsL (maskOf l) = l)) = true := by decide +kernel
theorem enum_full : ((List.range 9).all fun n => (List.range (2 ^ n)).all fun k => (enumL n).contains (bitsL k)) = true := by decide +kernel
theorem maskOf_bits : ∀ k : Nat, k < 256 → maskOf (bitsL k) = k := by decide +kernel

end Go.Proofs.Ytiampdiobdianaa

namespace Go.Proofs.Ytiampdiobdianaa
open Go.Avm

theorem fits_len {sz : Nat} {xs : List AV} {r : Nat} (h : Fits (.slice sz xs r)) : xs.length ≤ 140737488355328 := by
  obtain ⟨w, A, v, h⟩ := h
  cases h with
  | nils => simp
  | slice _ _ _ b off cap vs hsz h1c hcap hlen hc hr => exact hlen

@[simp] theorem big_ne (b k : Nat) (h : k < 1000001) : (1000001 + b = k) = False := by simp; omega
@[simp] theorem big_ne' (b k : Nat) (h : k < 1000001) : (k = 1000001 + b) = False := by simp; omega
@[simp] theorem big_le (b : Nat) : (1000000 ≤ 1000001 + b) = True := by simp; omega

theorem loadK_ref (loc : Nat → Option (List AV)) (cs : List AV) (K : AV → Prop) : loadK loc (.ref cs) none K = (0 < cs.length ∧ K (cs.getD 0 .any).erase) := rfl
theorem loadK_refn (loc : Nat → Option (List AV)) (cs : List AV) (n : Nat) (K : AV → Prop) : loadK loc (.ref cs) (some n) K = (0 + n ≤ cs.length ∧ K (AV.agg ((cs.drop 0).take n)).erase.erase) := rfl
theorem loadK_mref (loc : Nat → Option (List AV)) (b o : Nat) (n : Option Nat) (K : AV → Prop) : loadK loc (.mref b o) n K = (match loc b with | some cs => partK cs o n K | none => False) := rfl
theorem partK_none (cs : List AV) (o : Nat) (K : AV → Prop) : partK cs o none K = (o < cs.length ∧ K (cs.getD o .any)) := rfl
theorem partK_some (cs : List AV) (o n : Nat) (K : AV → Prop) : partK cs o (some n) K = (o + n ≤ cs.length ∧ K (AV.agg ((cs.drop o).take n)).erase) := rfl
attribute [simp] loadK_ref loadK_refn loadK_mref partK_none partK_some

def firstAt {α : Type} (p : α → Bool) (l : List α) : Int := match l.findIdx? p with
  | some i => i
  | none => -1

theorem firstAt_some {α : Type} {p : α → Bool} {l : List α} {k : Nat} (hk : k < l.length) (h : p l[k] = true) (hno : ∀ x ∈ l.take k, p x = false) : firstAt p l = k := by
  have : l.findIdx? p = some k := by
    rw [List.findIdx?_eq_some_iff_getElem]
    refine ⟨hk, h, fun j hj => ?_⟩
    have := hno l[j] (List.mem_take_iff_getElem.2 ⟨j, by omega, rfl⟩)
    simp [this]
  simp [firstAt, this]

theorem firstAt_none {α : Type} {p : α → Bool} {l : List α} (hno : ∀ x ∈ l, p x = false) : firstAt p l = -1 := by
  have : l.findIdx? p = none := by rw [List.findIdx?_eq_none_iff]; simpa using hno
  simp [firstAt, this]

theorem indexFunc_ok (l : List Int) (f : FuncId) (caps : List AV) (p : Int → Bool) (hp : ∀ x ∈ l, PCall Try.prog f (I x :: caps) (B (p x))) :
    PCall Try.prog 100 [IL l, .func (.func f) [] caps] (I (firstAt p l)) := by
  refine pcall Try.func100 tr100 rs100 fn100 (by simp [Try.ntmps100]) fun hfit => ?_
  have hl := fits_len (hfit 0)
  simp only [List.length_map] at hl
  simp -implicitDefEqProofs [m100]
  refine loop_up l.length (fun k s => s.env 0 = IL l ∧ s.env 1 = .func (.func f) [] caps ∧ s.env 7 = I l.length ∧ s.env 8 = I k ∧ ∀ x ∈ l.take k, p x = false) ?_ ?_
  · simp
  · rintro k s hk ⟨e0, e1, e7, e8, hno⟩
    simp -implicitDefEqProofs [e7, e8]
    refine cond_dec (fun hlt => ?_) (fun hge => ?_)
    · simp -implicitDefEqProofs [e0, e1, e8, hlt, vCallv]
      refine vCall_of (hp l[k] (List.getElem_mem _)) ?_
      simp -implicitDefEqProofs
      refine cond_bool (fun he => ?_) (fun he => ?_)
      · have hc := firstAt_some hlt he hno
        simp -implicitDefEqProofs [r100, hc]
      · simp -implicitDefEqProofs [e8]
        refine ⟨i64 (by omega) (by omega), round_ok hlt ⟨by simp [e0], by simp [e1], by simp [e7], by simp, ?_⟩⟩
        intro x hx
        rw [take_snoc hlt, List.mem_append, List.mem_singleton] at hx
        rcases hx with hx | rfl
        · exact hno x hx
        · exact he
    · obtain rfl : k = l.length := by omega
      rw [List.take_length] at hno
      have hc := firstAt_none hno
      simp -implicitDefEqProofs [r100, hc]

theorem firstAt_any {α : Type} (p : α → Bool) (l : List α) : decide (0 ≤ firstAt p l) = l.any p := by
  unfold firstAt
  cases h : l.findIdx? p with
  | none =>
    rw [List.findIdx?_eq_none_iff] at h
    simpa using h
  | some i =>
    obtain ⟨hi, hp, _⟩ := List.findIdx?_eq_some_iff_getElem.1 h
    simp
    exact ⟨_, List.getElem_mem hi, hp⟩

theorem outside1_ok (n lo hi : Int) : PCall Try.prog 84 [I n, .ref [I lo], .ref [I hi]] (B (decide (n < lo) || decide (hi < n))) := by
  refine pcall Try.func84 tr84 rs84 fn84 (by simp [Try.ntmps84]) fun _ => ?_
  by_cases h : n < lo <;> simp -implicitDefEqProofs [m84, r84, h, vLoad, vPart]

theorem containsFunc_ok (l : List Int) (f : FuncId) (caps : List AV) (p : Int → Bool) (hp : ∀ x ∈ l, PCall Try.prog f (I x :: caps) (B (p x))) :
    PCall Try.prog 83 [IL l, .func (.func f) [] caps] (B (l.any p)) := by
  refine pcall Try.func83 tr83 rs83 fn83 (by simp [Try.ntmps83]) fun _ => ?_
  simp -implicitDefEqProofs [m83]
  refine vCall_of (indexFunc_ok l f caps p hp) ?_
  simp -implicitDefEqProofs [r83, firstAt_any]

def out (lo hi : Int) (l : List Int) : Bool := l.any fun n => decide (n < lo) || decide (hi < n)

theorem outside_ok (lo hi : Int) (l : List Int) : PCall Try.prog 50 [I lo, I hi, IL l] (B (out lo hi l)) := by
  refine pcall Try.func50 tr50 rs50 fn50 (by simp [Try.ntmps50]) fun _ => ?_
  simp -implicitDefEqProofs [m50]
  refine vCall_of (containsFunc_ok l 84 [.ref [I lo], .ref [I hi]] _ fun x _ => outside1_ok x lo hi) ?_
  simp -implicitDefEqProofs [r50, out]

theorem in_ok (n lo hi : Int) : PCall Try.prog 54 [I n, I lo, I hi] (B (decide (lo ≤ n ∧ n ≤ hi))) := by
  refine pcall Try.func54 tr54 rs54 fn54 (by simp [Try.ntmps54]) fun _ => ?_
  by_cases h : lo ≤ n <;> simp -implicitDefEqProofs [m54, r54, h]

def bt (s : ByteArray) (k : Nat) : Nat := (s.data.toList.getD k 0).toNat

theorem data_bt (s : ByteArray) (k : Nat) (h : k < s.data.size) : (s.data[k]'h).toNat = bt s k := by
  have : s.data[k]? = some (s.data[k]'h) := Array.getElem?_eq_getElem h
  simp [bt, List.getD_eq_getElem?_getD, this]

theorem get_bt (s : ByteArray) {k : Nat} (h : k < s.size) : (s.get! k).toNat = bt s k := by
  cases s with
  | mk a =>
    have h' : k < a.size := h
    simp [ByteArray.get!, bt, List.getD_eq_getElem?_getD, h']

theorem decode_small {s : ByteArray} {k : Nat} (h : k < s.size) (hb : bt s k < 128) : Utf8.decode s k = (bt s k, 1) := by
  have e := get_bt s h
  unfold Utf8.decode
  simp only [Nat.add_zero, e, hb, if_true]

theorem decode_big {s : ByteArray} {k : Nat} (h : k < s.size) (hb : ¬ bt s k < 128) : 128 ≤ (Utf8.decode s k).1 := by
  have e := get_bt s h
  unfold Utf8.decode
  simp only [Nat.add_zero, e, hb, if_false]
  repeat' split
  all_goals simp_all [Utf8.runeError]
  all_goals omega

def isLetter (c : Nat) : Bool := decide (97 ≤ c ∧ c ≤ 122)
def isDigit (c : Nat) : Bool := decide (48 ≤ c ∧ c ≤ 57)
def okAt (k c : Nat) : Bool := isLetter c || (decide (0 < k) && (isDigit c || decide (c = 46)))

def nameOK (s : ByteArray) : Bool := decide (0 < s.size ∧ s.size ≤ 16 ∧ ∀ k < s.size, okAt k (bt s k) = true)

theorem letter_ok (c : Nat) : PCall Try.prog 101 [.lit (.int .u8 c)] (B (isLetter c)) := by
  refine pcall Try.func101 tr101 rs101 fn101 (by simp [Try.ntmps101]) fun _ => ?_
  by_cases h : 97 ≤ c
  · have h' : (97 : Int) ≤ (c : Int) := by omega
    have e : isLetter c = decide ((c : Int) ≤ 122) := by unfold isLetter; rw [decide_eq_decide]; omega
    simp -implicitDefEqProofs [m101, r101, h', e]
  · have h' : ¬ (97 : Int) ≤ (c : Int) := by omega
    have e : isLetter c = false := by unfold isLetter; simp; omega
    simp -implicitDefEqProofs [m101, r101, h', e]

theorem digit_ok (c : Nat) : PCall Try.prog 102 [.lit (.int .u8 c)] (B (isDigit c)) := by
  refine pcall Try.func102 tr102 rs102 fn102 (by simp [Try.ntmps102]) fun _ => ?_
  by_cases h : 48 ≤ c
  · have h' : (48 : Int) ≤ (c : Int) := by omega
    have e : isDigit c = decide ((c : Int) ≤ 57) := by unfold isDigit; rw [decide_eq_decide]; omega
    simp -implicitDefEqProofs [m102, r102, h', e]
  · have h' : ¬ (48 : Int) ≤ (c : Int) := by omega
    have e : isDigit c = false := by unfold isDigit; simp; omega
    simp -implicitDefEqProofs [m102, r102, h', e]

theorem name_ref_ok (s : ByteArray) : PCall Try.prog 87 [S s] (B (nameOK s)) := by
  refine pcall Try.func87 tr87 rs87 fn87 (by simp [Try.ntmps87]) fun _ => ?_
  by_cases h0 : s.size = 0
  · have e : nameOK s = false := decide_eq_false fun h => by obtain ⟨_, _, _⟩ := h; omega
    simp -implicitDefEqProofs [m87, r87, h0, e]
  by_cases h1 : (16 : Int) < s.size
  · have e : nameOK s = false := decide_eq_false fun h => by obtain ⟨_, _, _⟩ := h; omega
    have h0' : ((s.size : Int) == 0) = false := beq_eq_false_iff_ne.2 (by omega)
    simp -implicitDefEqProofs [m87, r87, h0', h1, e]
  have h0' : ((s.size : Int) == 0) = false := beq_eq_false_iff_ne.2 (by omega)
  simp -implicitDefEqProofs [m87, h0', h1]
  refine loop_up s.size (fun k st => st.env 0 = S s ∧ st.env 3 = I k ∧ ∀ j < k, okAt j (bt s j) = true) ?_ ?_
  · simp
  · rintro k st hk ⟨e0, e3, hno⟩
    simp -implicitDefEqProofs [e0, e3]
    refine cond_dec (fun hlt => ?_) (fun hge => ?_)
    · have hlt' : k < s.size := by omega
      simp -implicitDefEqProofs [e0, e3, hlt', data_bt]
      refine vCall_of (letter_ok (bt s k)) ?_
      have next : okAt k (bt s k) = true → ∀ j < k + 1, okAt j (bt s j) = true := fun h j hj => by
        rcases Nat.lt_succ_iff_lt_or_eq.1 hj with hj | rfl
        · exact hno j hj
        · exact h
      have bad : okAt k (bt s k) = false → nameOK s = false := fun h => by
        unfold nameOK
        simp only [decide_eq_false_iff_not]
        rintro ⟨_, _, h'⟩
        rw [h' k hlt'] at h
        cases h
      cases hL : isLetter (bt s k) with
      | true =>
        simp -implicitDefEqProofs [e3]
        exact ⟨i64 (by omega) (by omega), round_ok hlt' ⟨by simp [e0], by simp, next (by simp [okAt, hL])⟩⟩
      | false =>
        by_cases hk0 : k = 0
        · subst hk0
          simp -implicitDefEqProofs [e3]
          simp -implicitDefEqProofs [r87, bad (by simp [okAt, hL])]
        · have hk0' : ((k : Int) == 0) = false := beq_eq_false_iff_ne.2 (by omega)
          simp -implicitDefEqProofs [e0, e3, hk0', hlt', data_bt]
          refine vCall_of (digit_ok (bt s k)) ?_
          cases hD : isDigit (bt s k) with
          | true =>
            simp -implicitDefEqProofs [e3]
            exact ⟨i64 (by omega) (by omega), round_ok hlt' ⟨by simp [e0], by simp, next (by simp [okAt, hL, hD]; omega)⟩⟩
          | false =>
            simp -implicitDefEqProofs [e0, e3, hlt', data_bt]
            refine cond_bool (fun he => ?_) (fun he => ?_)
            · simp -implicitDefEqProofs [r87]
              refine bad ?_
              have : bt s k ≠ 46 := by simp at he; omega
              simp [okAt, hL, hD, this]
            · simp -implicitDefEqProofs [e3]
              refine ⟨i64 (by omega) (by omega), round_ok hlt' ⟨by simp [e0], by simp, next ?_⟩⟩
              have : bt s k = 46 := by simp at he; omega
              simp [okAt, this]; omega
    · obtain rfl : k = s.size := by omega
      have e : nameOK s = true := by unfold nameOK; simp; exact ⟨by omega, by omega, hno⟩
      simp -implicitDefEqProofs [r87, e]

theorem okAt_lt {k c : Nat} (h : okAt k c = true) : c < 128 := by
  simp [okAt, isLetter, isDigit] at h
  omega

theorem okAt_decode {s : ByteArray} {k : Nat} (h : k < s.size) : okAt k (Utf8.decode s k).1 = okAt k (bt s k) ∧ (okAt k (Utf8.decode s k).1 = true → (Utf8.decode s k).2 = 1) := by
  by_cases hb : bt s k < 128
  · rw [decode_small h hb]; exact ⟨rfl, fun _ => rfl⟩
  · have h1 := decode_big h hb
    have e1 : okAt k (Utf8.decode s k).1 = false := by
      cases e : okAt k (Utf8.decode s k).1 with
      | false => rfl
      | true => have := okAt_lt e; omega
    have e2 : okAt k (bt s k) = false := by
      cases e : okAt k (bt s k) with
      | false => rfl
      | true => have := okAt_lt e; omega
    rw [e1, e2]; exact ⟨rfl, fun h => by cases h⟩

theorem loop_eq (s : ByteArray) : ∀ (n i : Nat) (r : List UInt8), s.size - i = n → ByteArray.toList.loop s i r = r.reverse ++ s.data.toList.drop i
  | 0, i, r, h => by
    unfold ByteArray.toList.loop
    have : ¬ i < s.size := by omega
    rw [if_neg this, List.drop_of_length_le (by simpa using (by omega : s.size ≤ i)), List.append_nil]
  | n + 1, i, r, h => by
    unfold ByteArray.toList.loop
    have hi : i < s.size := by omega
    rw [if_pos hi, loop_eq s n (i + 1) _ (by omega)]
    have e : s.data.toList.drop i = s.get! i :: s.data.toList.drop (i + 1) := by
      rw [List.drop_eq_getElem_cons (by simpa using hi)]
      congr 1
      cases s with
      | mk a =>
        have hi' : i < a.size := hi
        simp [ByteArray.get!, hi']
    rw [e]
    simp
theorem toList_data (s : ByteArray) : s.toList = s.data.toList := by
  unfold ByteArray.toList
  rw [loop_eq s _ 0 [] rfl]; simp

theorem isEmpty_str (s : ByteArray) : s.toList.isEmpty = decide (s.size = 0) := by
  rw [toList_data]
  have : s.size = s.data.toList.length := by simp
  rw [this]
  cases s.data.toList <;> simp

theorem name_ok (s : ByteArray) : PCall Try.prog 51 [S s] (B (nameOK s)) := by
  refine pcall Try.func51 tr51 rs51 fn51 (by simp [Try.ntmps51]) fun _ => ?_
  simp -implicitDefEqProofs [m51]
  intro b
  refine loop_up s.size (fun k st => st.env 0 = S s ∧ st.env 6 = .mref b 0 ∧ st.env (oS + b) = itAV s k ∧ ∀ j < k, okAt j (bt s j) = true) ?_ ?_
  · simp
  · rintro k st hk ⟨e0, e6, eo, hno⟩
    simp -implicitDefEqProofs [e6]
    refine ⟨s, k, by simpa using eo, fun hlt => ?_, fun hge => ?_⟩
    · obtain ⟨d1, d2⟩ := okAt_decode hlt
      generalize hr : (Utf8.decode s k).1 = r at d1 d2
      have good : okAt k r = true → (Utf8.decode s k).2 = 1 ∧ ∀ j < k + 1, okAt j (bt s j) = true := fun h => ⟨d2 h, fun j hj => by
        rcases Nat.lt_succ_iff_lt_or_eq.1 hj with hj | rfl
        · exact hno j hj
        · rw [← d1]; exact h⟩
      have bad : okAt k r = false → nameOK s = false := fun h => decide_eq_false fun h' => by
        have := h'.2.2 k hlt
        rw [← d1, h] at this
        cases this
      by_cases c1 : (97 : Int) ≤ (r : Int)
      · by_cases c2 : (r : Int) ≤ 122
        · simp -implicitDefEqProofs [c1, c2]
          have hg := good (by simp [okAt, isLetter]; omega)
          rw [hg.1]
          exact round_ok hlt ⟨by simp [e0], by simp [e6], by simp, hg.2⟩
        · simp -implicitDefEqProofs [c1, c2]
          by_cases c3 : 0 < k
          · have c4 : (48 : Int) ≤ (r : Int) := by omega
            have c5 : ¬ (r : Int) ≤ 57 := by omega
            have c6 : ((r : Int) == 46) = false := beq_eq_false_iff_ne.2 (by omega)
            simp -implicitDefEqProofs [c3, c4, c5, c6]
            simp -implicitDefEqProofs [r51, bad (by simp [okAt, isLetter, isDigit]; omega)]
          · simp -implicitDefEqProofs [c3]
            simp -implicitDefEqProofs [r51, bad (by simp [okAt, isLetter, c3]; omega)]
      · simp -implicitDefEqProofs [c1]
        by_cases c3 : 0 < k
        · by_cases c4 : (48 : Int) ≤ (r : Int)
          · by_cases c5 : (r : Int) ≤ 57
            · simp -implicitDefEqProofs [c3, c4, c5]
              have hg := good (by simp [okAt, isDigit, c3]; omega)
              rw [hg.1]
              exact round_ok hlt ⟨by simp [e0], by simp [e6], by simp, hg.2⟩
            · have c6 : ((r : Int) == 46) = false := beq_eq_false_iff_ne.2 (by omega)
              simp -implicitDefEqProofs [c3, c4, c5, c6]
              simp -implicitDefEqProofs [r51, bad (by simp [okAt, isLetter, isDigit]; omega)]
          · simp -implicitDefEqProofs [c3, c4]
            refine cond_bool (fun he => ?_) (fun he => ?_)
            · have hr : (r : Int) = 46 := by simpa using he
              have hg := good (by simp [okAt, c3]; omega)
              simp -implicitDefEqProofs
              rw [hg.1]
              exact round_ok hlt ⟨by simp [e0], by simp [e6], by simp, hg.2⟩
            · have hr : (r : Int) ≠ 46 := by simpa using he
              simp -implicitDefEqProofs [r51, bad (by simp [okAt, isLetter, isDigit]; omega)]
        · simp -implicitDefEqProofs [c3]
          simp -implicitDefEqProofs [r51, bad (by simp [okAt, isLetter, c3]; omega)]
    · obtain rfl : k = s.size := by omega
      simp -implicitDefEqProofs [e0]
      rw [isEmpty_str]
      by_cases h0 : s.size = 0
      · have e : nameOK s = false := decide_eq_false fun h => by obtain ⟨_, _, _⟩ := h; omega
        simp -implicitDefEqProofs [h0, r51, e]
      · simp -implicitDefEqProofs [h0, r51, e0]
        by_cases h1 : s.size ≤ 16
        · have e : nameOK s = true := decide_eq_true ⟨by omega, h1, hno⟩
          rw [e]; simp; omega
        · have e : nameOK s = false := decide_eq_false fun h => by obtain ⟨_, _, _⟩ := h; omega
          rw [e]; simp; omega
def sEq (p q : ByteArray) : Bool := p.toList == q.toList

theorem sEq_comm (p q : ByteArray) : sEq p q = sEq q p := by unfold sEq; rw [Bool.beq_comm]

theorem place_ok (l : List ByteArray) (x : ByteArray) : PCall Try.prog 86 [SL l, S x] (I (firstAt (fun y => sEq y x) l)) := by
  refine pcall Try.func86 tr86 rs86 fn86 (by simp [Try.ntmps86]) fun hfit => ?_
  have hl := fits_len (hfit 0)
  simp only [List.length_map] at hl
  simp -implicitDefEqProofs [m86]
  refine ⟨i64 (by omega) (by omega), ?_⟩
  refine loop_up l.length (fun k s => s.env 0 = SL l ∧ s.env 1 = S x ∧ (∃ i : Int, i = l.length - 1 - k ∧ s.env 5 = I i) ∧ ∀ j (hj : j < l.length), l.length < j + 1 + k → sEq l[j] x = false) ?_ ?_
  · simp
    intro j hj h; omega
  · rintro k s hk ⟨e0, e1, ⟨i, hi, e5⟩, hno⟩
    simp -implicitDefEqProofs [e5]
    by_cases hlt : k < l.length
    · have h0 : 0 ≤ i := by omega
      obtain ⟨n, rfl⟩ : ∃ n : Nat, i = n := ⟨i.toNat, by omega⟩
      have hn : n < l.length := by omega
      simp -implicitDefEqProofs [e0, e1, e5, hn]
      refine cond_bool (fun he => ?_) (fun he => ?_)
      · simp -implicitDefEqProofs [e5]
        refine ⟨i64 (by omega) (by omega), round_ok hlt ⟨by simp [e0], by simp [e1], by simp; omega, ?_⟩⟩
        intro j hj hjk
        by_cases hjj : n < j
        · exact hno j hj (by omega)
        · obtain rfl : j = n := by omega
          simpa [sEq] using he
      · have hx : sEq l[n] x = true := by simpa [sEq] using he
        simp -implicitDefEqProofs
        refine loop_up n (fun j s => s.env 0 = SL l ∧ s.env 1 = S x ∧ s.env 5 = I n ∧ s.env 6 = I j ∧ ∀ y ∈ l.take j, sEq y x = false) ?_ ?_
        · simp [e0, e1, e5]
        · rintro j s hj ⟨e0, e1, e5, e6, hno'⟩
          simp -implicitDefEqProofs [e5, e6]
          refine cond_dec (fun hlt => ?_) (fun hge => ?_)
          · have hjl : j < l.length := by omega
            simp -implicitDefEqProofs [e0, e1, e6, hjl]
            refine cond_bool (fun he => ?_) (fun he => ?_)
            · have hc := firstAt_some (p := fun y => sEq y x) hjl (by simpa [sEq] using he) hno'
              simp -implicitDefEqProofs [r86, e6, hc]
            · simp -implicitDefEqProofs [e6]
              refine ⟨i64 (by omega) (by omega), round_ok (by omega) ⟨by simp [e0], by simp [e1], by simp [e5], by simp, ?_⟩⟩
              intro y hy
              rw [take_snoc hjl, List.mem_append, List.mem_singleton] at hy
              rcases hy with hy | rfl
              · exact hno' y hy
              · simpa [sEq] using he
          · obtain rfl : j = n := by omega
            have hc := firstAt_some (p := fun y => sEq y x) hn hx hno'
            simp -implicitDefEqProofs [r86, e5, hc]
    · obtain rfl : k = l.length := by omega
      have h0 : ¬ 0 ≤ i := by omega
      have h1 : i = -1 := by omega
      subst h1
      simp -implicitDefEqProofs
      have hc := firstAt_none (p := fun y => sEq y x) (l := l) (fun y hy => by
        obtain ⟨j, hj, rfl⟩ := List.mem_iff_getElem.1 hy
        exact hno j hj (by omega))
      refine loop_up 0 (fun j s => s.env 5 = I (-1) ∧ s.env 6 = I 0) ?_ ?_
      · simp [e5]
      · rintro j s hj ⟨e5, e6⟩
        simp -implicitDefEqProofs [e5, e6, r86, hc]

def namedE (name : ByteArray) (before : List ByteArray) : Int := if nameOK name then (if before.any fun s => sEq s name then 5 else 0) else 6

theorem fresh_ok (name : ByteArray) (l : List ByteArray) : PCall Try.prog 55 [S name, SL l] (I (namedE name l)) := by
  refine pcall Try.func55 tr55 rs55 fn55 (by simp [Try.ntmps55]) fun hfit => ?_
  simp -implicitDefEqProofs [m55]
  refine vCall_of (place_ok l name) ?_
  have e := firstAt_any (fun y => sEq y name) l
  cases h : l.any fun y => sEq y name with
  | true =>
    rw [h] at e
    have e' : 0 ≤ firstAt (fun y => sEq y name) l := of_decide_eq_true e
    simp -implicitDefEqProofs [e']
    refine vCall_of (name_ref_ok name) ?_
    cases hn : nameOK name <;> simp -implicitDefEqProofs [r55, namedE, hn, h]
  | false =>
    rw [h] at e
    have e' : ¬ 0 ≤ firstAt (fun y => sEq y name) l := of_decide_eq_false e
    simp -implicitDefEqProofs [e']
    refine vCall_of (name_ref_ok name) ?_
    cases hn : nameOK name <;> simp -implicitDefEqProofs [r55, namedE, hn, h]

theorem fits_agg {cs : List AV} (h : Fits (.agg cs)) (i : Nat) : Fits (cs.getD i .any) := by
  obtain ⟨w, A, v, h⟩ := h
  cases h with
  | agg _ vs hs hr => exact ⟨w, A, _, hr i⟩

theorem drop_cons {α : Type} {l : List α} {k : Nat} (h : k < l.length) : l.drop k = l[k] :: l.drop (k + 1) := List.drop_eq_getElem_cons h

end Go.Proofs.Ytiampdiobdianaa

namespace Go.Proofs.Ytiampdiobdianaa
open Go.Avm

theorem wrap_nat {a : Nat} (h : a < 1099511627776) : IntKind.wrap .i64 (a : Int) = a := by
  simp [IntKind.wrap, IntKind.bits, IntKind.signed]
  omega
theorem wrapu_nat {a : Nat} (h : a < 1099511627776) : IntKind.wrap .u64 (a : Int) = a := by
  simp [IntKind.wrap, IntKind.bits, IntKind.signed]
  omega

theorem ofInt_nat (a : Nat) : BitVec.ofInt 64 (a : Int) = BitVec.ofNat 64 a := by simp

theorem bitAnd1 {a : Nat} (ha : a < 1099511627776) : bitI .and .i64 (a : Int) 1 = ((a % 2 : Nat) : Int) := by
  have e : ((BitVec.ofInt (IntKind.bits .i64) (a : Int)) &&& (BitVec.ofInt (IntKind.bits .i64) 1)).toNat = a % 2 := by
    show (BitVec.ofInt 64 (a : Int) &&& BitVec.ofInt 64 ((1 : Nat) : Int)).toNat = _
    rw [ofInt_nat, ofInt_nat, BitVec.toNat_and, BitVec.toNat_ofNat, BitVec.toNat_ofNat, Nat.mod_eq_of_lt (by omega), Nat.mod_eq_of_lt (by omega)]
    exact Nat.and_one_is_mod a
  unfold bitI
  show IntKind.wrap .i64 _ = _
  rw [e]
  exact wrap_nat (by omega)

theorem bit_at {n i : Nat} (hn : n < 256) : (bitI .and .i64 (Int.fdiv (n : Int) (2 ^ (min i 64))) 1 == 1) = n.testBit i ∨ 64 < i := by
  by_cases hi : 64 < i
  · exact .inr hi
  left
  rw [Nat.min_eq_left (by omega)]
  have e : Int.fdiv (n : Int) (2 ^ i) = ((n / 2 ^ i : Nat) : Int) := by
    rw [Int.fdiv_eq_ediv_of_nonneg _ (by exact Int.pow_nonneg (by omega))]
    simp
  rw [e, bitAnd1 (Nat.lt_of_le_of_lt (Nat.div_le_self _ _) (by omega)), Nat.testBit_eq_decide_div_mod_eq]
  rcases Nat.mod_two_eq_zero_or_one (n / 2 ^ i) with h | h <;> rw [h] <;> rfl

theorem lenM_ok {n : Nat} (h : n < 256) : lenM n ≤ 8 ∧ n < 2 ^ lenM n := by
  unfold lenM
  cases hf : (List.range 9).find? fun i => n < 2 ^ i with
  | none =>
    rw [List.find?_eq_none] at hf
    have := hf 8 (by simp)
    simp at this; omega
  | some i =>
    have h1 := List.find?_some hf
    have h2 := List.mem_of_find?_eq_some hf
    simp at h1 h2
    simp
    omega

theorem selT_stop {n L : Nat} (h : n < 2 ^ L) : ∀ d, selT (fun i => n.testBit i) (L + d) = selT (fun i => n.testBit i) L
  | 0 => rfl
  | d + 1 => by
    have hf : (fun i => n.testBit i) (L + d) = false := Nat.testBit_lt_two_pow (Nat.lt_of_lt_of_le h (Nat.pow_le_pow_right (by omega) (by omega)))
    rw [show L + (d + 1) = (L + d) + 1 from rfl, selT_f hf, selT_stop h d]

set_option maxRecDepth 8000 in
theorem ones97_ok (n : Nat) (h : n < 256) : PCall Try.prog 97 [.lit (.int .u64 n)] (I (bitsL n).length) := by
  refine pcall Try.func97 tr97 rs97 fn97 (by simp [Try.ntmps97]) fun hx => ?_
  simp -implicitDefEqProofs [m97, r97]
  clear hx
  revert n
  simp only [inK]
  decide +kernel
set_option maxRecDepth 8000 in
theorem len107_ok (n : Nat) (h : n < 256) : PCall Try.prog 107 [.lit (.int .u64 n)] (I (lenM n : Nat)) := by
  refine pcall Try.func107 tr107 rs107 fn107 (by simp [Try.ntmps107]) fun hx => ?_
  have h1 : ¬ (4294967296 : Int) ≤ n := by omega
  have h2 : ¬ (65536 : Int) ≤ n := by omega
  have h3 : ¬ (256 : Int) ≤ n := by omega
  simp -implicitDefEqProofs [m107, r107, h1, h2, h3]
  clear hx h1 h2 h3
  revert n
  simp only [inK]
  decide +kernel
theorem len92_ok (n : Nat) (h : n < 256) : PCall Try.prog 98 [.lit (.int .u64 n)] (I (lenM n : Nat)) := by
  refine pcall Try.func98 tr98 rs98 fn98 (by simp [Try.ntmps98]) fun _ => ?_
  simp -implicitDefEqProofs [m98]
  refine vCall_of (len107_ok n h) ?_
  simp -implicitDefEqProofs [r98]
theorem ones75_ok (n : Nat) (h : n < 256) : PCall Try.prog 75 [.lit (.int .u64 n)] (I (bitsL n).length) := by
  refine pcall Try.func75 tr75 rs75 fn75 (by simp [Try.ntmps75]) fun _ => ?_
  simp -implicitDefEqProofs [m75]
  refine vCall_of (ones97_ok n h) ?_
  simp -implicitDefEqProofs [r75]
theorem list_ok {n : Nat} (hn : n < 256) : PCall Try.prog 76 [I n] (IL (bitsL n)) := by
  refine pcall Try.func76 tr76 rs76 fn76 (by simp [Try.ntmps76]) fun hfit => ?_
  have c := len92_ok n hn
  have hl := lenM_ok hn
  have hw := wrapu_nat (a := n) (by omega)
  have hres : bitsL n = selT (fun i => n.testBit i) (lenM n) := by
    unfold bitsL
    have := selT_stop hl.2 (8 - lenM n)
    rwa [show lenM n + (8 - lenM n) = 8 by omega] at this
  rw [hres]
  generalize lenM n = L at *
  simp -implicitDefEqProofs [m76, hw]
  refine vCall_of c ?_
  simp -implicitDefEqProofs
  refine loop_up L (fun k s => s.env 0 = I n ∧ s.env 2 = .slice 1 ((selT (fun i => n.testBit i) k).map I) 3 ∧ s.env 6 = I L ∧ s.env 7 = I k) ?_ ?_
  · simp [selT_zero]
  rintro k s hk ⟨e0, e2, e6, e7⟩
  simp -implicitDefEqProofs [e6, e7]
  refine cond_dec (fun hlt => ?_) (fun hge => ?_)
  · have hlt : k < L := by omega
    have hsl := selT_len (fun i => n.testBit i) k
    have hb : (bitI .and .i64 (Int.fdiv (n : Int) (2 ^ (min k 64))) 1 == 1) = n.testBit k := by
      rcases bit_at (i := k) hn with h | h
      · exact h
      · omega
    simp -implicitDefEqProofs [e0, e7]
    have hb' : (bitI .and .i64 (Int.fdiv (n : Int) (2 ^ (min k (IntKind.bits .i64)))) 1 == 1) = n.testBit k := hb
    rw [hb']
    refine cond_bool (fun he => ?_) (fun he => ?_)
    · simp -implicitDefEqProofs [e2, e7]
      refine ⟨by omega, by omega, i64 (by omega) (by omega), round_ok hlt ⟨by simp [e0], by simp [selT_t (q := fun i => n.testBit i) he], by simp [e6], by simp⟩⟩
    · simp -implicitDefEqProofs [e7]
      refine ⟨i64 (by omega) (by omega), round_ok hlt ⟨by simp [e0], by simp [e2, selT_f (q := fun i => n.testBit i) he], by simp [e6], by simp⟩⟩
  · obtain rfl : k = L := by omega
    simp -implicitDefEqProofs [e2, r76]

theorem nan_ok (x : Int) : PCall Try.prog 108 [I x] (B false) := by
  refine pcall Try.func108 tr108 rs108 fn108 (by simp [Try.ntmps108]) fun hfit => ?_
  simp -implicitDefEqProofs [m108, r108]

theorem cmp_ok (x y : Int) : PCall Try.prog 99 [I x, I y] (I (if x < y then -1 else if y < x then 1 else 0)) := by
  refine pcall Try.func99 tr99 rs99 fn99 (by simp [Try.ntmps99]) fun hfit => ?_
  simp -implicitDefEqProofs [m99]
  refine vCall_of (nan_ok x) ?_
  simp -implicitDefEqProofs
  refine vCall_of (nan_ok y) ?_
  by_cases h1 : x < y
  · simp -implicitDefEqProofs [h1, r99]
  · by_cases h2 : y < x <;> simp -implicitDefEqProofs [h1, h2, r99]

theorem compare_ok (a b : List Int) (h : a.length = b.length) : PCall Try.prog 77 [IL a, IL b] (I (cmpL a b)) := by
  refine pcall Try.func77 tr77 rs77 fn77 (by simp [Try.ntmps77]) fun hfit => ?_
  have hl := fits_len (hfit 0)
  simp only [List.length_map] at hl
  obtain ⟨R, hR⟩ : ∃ R, R = cmpL a b := ⟨_, rfl⟩
  rw [← hR]
  simp -implicitDefEqProofs [m77]
  refine loop_up a.length (fun k s => s.env 0 = IL a ∧ s.env 1 = IL b ∧ s.env 9 = IL a ∧ s.env 10 = I a.length ∧ s.env 11 = I k ∧ R = cmpL (a.drop k) (b.drop k)) ?_ ?_
  · simp [hR]
  rintro k s hk ⟨e0, e1, e9, e10, e11, hc⟩
  simp -implicitDefEqProofs [e10, e11]
  refine cond_dec (fun hlt => ?_) (fun hge => ?_)
  · have hlt : k < a.length := by omega
    have hlt2 : k < b.length := by omega
    have hge : ¬ (b.length : Int) ≤ (k : Int) := by omega
    rw [drop_cons hlt, drop_cons hlt2] at hc
    unfold cmpL at hc
    have c := cmp_ok a[k] b[k]
    simp -implicitDefEqProofs [e1, e9, e11, hlt, hlt2, hge]
    refine vCall_of c ?_
    by_cases h1 : a[k] < b[k]
    · rw [if_pos h1] at hc
      simp -implicitDefEqProofs [h1, r77, hc]
    · rw [if_neg h1] at hc
      by_cases h2 : b[k] < a[k]
      · rw [if_pos h2] at hc
        simp -implicitDefEqProofs [h1, h2, r77, hc]
      · rw [if_neg h2] at hc
        simp -implicitDefEqProofs [h1, h2, e11]
        exact ⟨i64 (by omega) (by omega), round_ok hlt ⟨by simp [e0], by simp [e1], by simp [e9], by simp [e10], by simp, hc⟩⟩
  · obtain rfl : k = a.length := by omega
    rw [List.drop_length, h, List.drop_length] at hc
    have hc : R = 0 := hc
    simp -implicitDefEqProofs [e0, e1, h, r77, hc]

end Go.Proofs.Ytiampdiobdianaa

namespace Go.Proofs.Ytiampdiobdianaa
open Go.Avm

theorem has_ok (l : List Int) (x : Int) : PCall Try.prog 46 [IL l, I x] (B (decide (x ∈ l))) := by
  refine pcall Try.func46 tr46 rs46 fn46 (by simp [Try.ntmps46]) fun hfit => ?_
  have hl := fits_len (hfit 0)
  simp only [List.length_map] at hl
  simp -implicitDefEqProofs [m46]
  refine loop_up l.length (fun k s => s.env 0 = IL l ∧ s.env 1 = I x ∧ s.env 5 = I k ∧ x ∉ l.take k) ?_ ?_
  · simp
  · rintro k s hk ⟨e0, e1, e5, hno⟩
    simp -implicitDefEqProofs [e0, e5]
    refine cond_dec (fun hlt => ?_) (fun hge => ?_)
    · simp -implicitDefEqProofs [e0, e1, e5, hlt]
      refine cond_bool (fun he => ?_) (fun he => ?_)
      · have hc : x ∈ l := by
          have : l[k] = x := by simpa using he
          rw [← this]; exact List.getElem_mem _
        simp -implicitDefEqProofs [r46, hc]
      · simp -implicitDefEqProofs [e5]
        refine ⟨i64 (by omega) (by omega), round_ok hlt ⟨by simp [e0], by simp [e1], by simp, ?_⟩⟩
        have hne : ¬ l[k] = x := by simpa using he
        rw [take_snoc hlt, List.mem_append, List.mem_singleton]
        exact fun h => h.elim hno fun h => hne h.symm
    · obtain rfl : k = l.length := by omega
      rw [List.take_length] at hno
      simp -implicitDefEqProofs [r46, hno]

def at' (l : List Int) (x : Int) : Int := match l.idxOf? x with
  | some i => i
  | none => -1

theorem ints_ok (a b : List Int) : PCall Try.prog 30 [IL a, IL b] (B (decide (a = b))) := by
  refine pcall Try.func30 tr30 rs30 fn30 (by simp [Try.ntmps30]) fun hfit => ?_
  have ha := fits_len (hfit 0)
  have hb := fits_len (hfit 1)
  simp only [List.length_map] at ha hb
  simp -implicitDefEqProofs [m30]
  refine loop_up a.length (fun k s => s.env 0 = IL a ∧ s.env 1 = IL b ∧ s.env 6 = I k ∧ s.env 5 = B (decide (a.length = b.length ∧ a.take k = b.take k))) ?_ ?_
  · by_cases h : a.length = b.length
    · simp [h]
    · simp [h]; omega
  · rintro k s hk ⟨e0, e1, e6, e5⟩
    by_cases hsame : a.length = b.length ∧ a.take k = b.take k
    · have e5' : s.env 5 = B true := by rw [e5]; simp only [hsame, and_self, decide_true]
      by_cases hlt : k < a.length
      · have hlt2 : k < b.length := by omega
        simp -implicitDefEqProofs [e0, e1, e5', e6, hlt, hlt2]
        refine ⟨i64 (by omega) (by omega), round_ok hlt ⟨by simp [e0], by simp [e1], by simp, ?_⟩⟩
        simp
        rw [take_snoc hlt, hsame.2, Bool.eq_iff_iff]
        simp [hsame.1, take_snoc hlt2, -List.take_append_getElem]
      · obtain rfl : k = a.length := by omega
        have hab : a = b := by
          have := hsame.2
          rw [List.take_length, hsame.1, List.take_length] at this
          exact this
        simp -implicitDefEqProofs [e0, e5', e6, r30, hab]
    · have hne : a ≠ b := fun h => hsame (by rw [h]; exact ⟨rfl, rfl⟩)
      have e5' : s.env 5 = B false := by rw [e5, decide_eq_false hsame]
      simp -implicitDefEqProofs [e5', r30, hne]

theorem cutS {P : Program} {kn : St → Prop} {ke : Nat → St → Prop} {kr : St → Prop} {s : St} {x y : MCode} (J : St → Prop) (hx : ∀ k : St → Prop, (∀ s', J s' → k s') → mwp P x k ke kr s) (h : ∀ s', J s' → mwp P y kn ke kr s') : mwp P (.seq x y) kn ke kr s := hx _ h

theorem out1 (lo hi n : Int) : out lo hi [n] = !decide (lo ≤ n ∧ n ≤ hi) := by
  simp only [out, List.any_cons, List.any_nil, Bool.or_false]
  by_cases h : n < lo
  · have : ¬ (lo ≤ n ∧ n ≤ hi) := by omega
    simp [h, this]
  · by_cases h2 : hi < n
    · have : ¬ (lo ≤ n ∧ n ≤ hi) := by omega
      simp [h, h2, this]
    · have : lo ≤ n ∧ n ≤ hi := by omega
      simp [h, h2, this]
theorem out2 (lo hi n m : Int) : out lo hi [n, m] = !(decide (lo ≤ n ∧ n ≤ hi) && decide (lo ≤ m ∧ m ≤ hi)) := by
  have h1 := out1 lo hi n
  have h2 := out1 lo hi m
  simp only [out, List.any_cons, List.any_nil, Bool.or_false] at h1 h2 ⊢
  rw [h1, h2, Bool.not_and]

def rangeE (a b lo hi : Int) : Int := if a < lo ∨ b < lo ∨ hi < a ∨ hi < b then 7 else if b < a then 2 else 0

theorem range_ok (a b lo hi : Int) : PCall Try.prog 56 [Span2 a b, I lo, I hi] (I (rangeE a b lo hi)) := by
  refine pcall Try.func56 tr56 rs56 fn56 (by simp [Try.ntmps56]) fun _ => ?_
  unfold rangeE
  by_cases h : b < a
  · have h' : ¬ a < b := by omega
    by_cases h1 : b < lo
    · simp -implicitDefEqProofs [m56, r56, h, h1]
    · by_cases h2 : hi < a
      · simp -implicitDefEqProofs [m56, r56, h, h', h1, h2]
      · have h3 : ¬ a < lo := by omega
        have h4 : ¬ hi < b := by omega
        simp -implicitDefEqProofs [m56, r56, h, h', h1, h2, h3, h4]
  · by_cases h1 : a < lo
    · simp -implicitDefEqProofs [m56, r56, h, h1]
    · by_cases he : a < b
      · by_cases h2 : hi < b
        · simp -implicitDefEqProofs [m56, r56, h, he, h1, h2]
        · have h3 : ¬ b < lo := by omega
          have h4 : ¬ hi < a := by omega
          simp -implicitDefEqProofs [m56, r56, h, he, h1, h2, h3, h4]
      · have e : b = a := by omega
        by_cases h2 : hi < a
        · simp -implicitDefEqProofs [m56, r56, h1, h2, e]
        · simp -implicitDefEqProofs [m56, r56, h1, h2, e]

theorem rangeE_out (a b lo hi : Int) : (out lo hi [a, b] = true → rangeE a b lo hi = 7) ∧ (out lo hi [a, b] = false → rangeE a b lo hi = if b < a then 2 else 0) := by
  rw [out2]
  unfold rangeE
  constructor
  · intro h
    rw [if_pos]
    simp only [Bool.not_eq_true', Bool.and_eq_false_iff, decide_eq_false_iff_not] at h
    omega
  · intro h
    rw [if_neg]
    simp only [Bool.not_eq_false', Bool.and_eq_true, decide_eq_true_eq] at h
    omega

def errs (f : Nat → Int) (n : Nat) : Option (Nat × Int) := (List.range n).findSome? fun i => if f i = 0 then none else some (i, f i)
theorem errs_none {f : Nat → Int} {n : Nat} (h : ∀ j < n, f j = 0) : errs f n = none := by
  unfold errs
  rw [List.findSome?_eq_none_iff]
  intro x hx
  rw [if_pos (h x (by simpa using hx))]
theorem errs_some {f : Nat → Int} {n k : Nat} (hk : k < n) (h : ∀ j < k, f j = 0) (hf : f k ≠ 0) : errs f n = some (k, f k) := by
  unfold errs
  rw [List.findSome?_eq_some_iff]
  refine ⟨List.range k, k, (List.range (n - (k + 1))).map (k + 1 + ·), ?_, by rw [if_neg hf], fun x hx => by rw [if_pos (h x (by simpa using hx))]⟩
  conv => lhs; rw [show n = (k + 1) + (n - (k + 1)) by omega, List.range_add, List.range_succ]
  simp
abbrev T3 (x : Int × Int × Int) : AV := .tuple [I x.1, I x.2.1, I x.2.2]

@[simp] theorem asg_mslice (s : St) (d b o l c z : Nat) : asgSt s d (.mslice b o l c z) = s.set d (.mslice b o l c z) := rfl
theorem chunk_len (sz : Nat) : ∀ (n : Nat) (cs : List AV), (chunk sz cs n).length = n
  | 0, _ => rfl
  | n + 1, cs => by unfold chunk; simp [chunk_len sz n]
theorem chunk1_get : ∀ (n : Nat) (cs : List AV) (i : Nat) (h : i < (chunk 1 cs n).length), (chunk 1 cs n)[i] = (cs.getD i .any).erase0
  | 0, _, _, h => by simp [chunk] at h
  | n + 1, cs, 0, h => by simp [chunk]
  | n + 1, cs, i + 1, h => by
    have := chunk1_get n (cs.drop 1) i (by simpa [chunk] using h)
    simp only [chunk, if_pos, List.getElem_cons_succ, this]
    congr 1
    simp

theorem lent_row {x : AV} {o : List Int} {pos sz len cap : Nat} {cs : List AV} (hx : getAt x pos = IL o) (h : LentOK x pos sz len cap cs) :
    sz = 1 ∧ len = o.length ∧ o.length ≤ cs.length ∧ len ≤ cap ∧ ∀ i (hi : i < o.length), cs.getD i .any = I o[i] := by
  obtain ⟨h1, h2, h3, h4, h5, h6⟩ := h
  rw [hx] at h1
  injection h1 with e1 e2 e3
  subst e1
  have hl : o.length = len := by have := congrArg List.length e2; simpa [chunk_len] using this
  subst hl
  have h2 : o.length ≤ cs.length := by omega
  refine ⟨rfl, rfl, h2, h3, fun i hi => ?_⟩
  have hc := chunk1_get o.length cs i (by rw [chunk_len]; exact hi)
  have hic : i < cs.length := by omega
  have e6 : (cs.getD i .any).erase0 = cs.getD i .any := by
    have := congrArg (fun l => l.getD i .any) h6
    simpa [hic] using this
  rw [← e6, ← hc]
  have : (chunk 1 cs o.length)[i]'(by rw [chunk_len]; exact hi) = (o.map I)[i]'(by simpa using hi) := by simp only [← e2]
  rw [this]; simp

theorem index_ok (l : List Int) (x : Int) : PCall Try.prog 68 [IL l, I x] (I (at' l x)) := by
  refine pcall Try.func68 tr68 rs68 fn68 (by simp [Try.ntmps68]) fun hfit => ?_
  have hl : l.length ≤ 140737488355328 := by simpa using fits_len (hfit 0)
  simp -implicitDefEqProofs [m68]
  refine loop_up l.length (fun k s => s.env 0 = IL l ∧ s.env 1 = I x ∧ s.env 7 = I l.length ∧ s.env 8 = I k ∧ x ∉ l.take k) ?_ ?_
  · simp
  · rintro k s hk ⟨e0, e1, e7, e8, hno⟩
    simp -implicitDefEqProofs [e7, e8]
    refine cond_dec (fun hlt => ?_) (fun hge => ?_)
    · simp -implicitDefEqProofs [e0, e1, e8, hlt]
      refine cond_bool (fun he => ?_) (fun he => ?_)
      · have hc : at' l x = k := by
          have hx : l[k] = x := by have : x = l[k] := by simpa using he
                                   exact this.symm
          have : l.idxOf? x = some k := by
            rw [List.idxOf?_eq_some_iff]
            refine ⟨hlt, hx, fun j hj => ?_⟩
            intro e
            exact hno (List.mem_take_iff_getElem.2 ⟨j, by omega, e⟩)
          simp [at', this]
        simp -implicitDefEqProofs [r68, hc]
      · simp -implicitDefEqProofs [e8]
        refine ⟨i64 (by omega) (by omega), round_ok hlt ⟨by simp [e0], by simp [e1], by simp [e7], by simp, ?_⟩⟩
        have hne : ¬ x = l[k] := by simpa using he
        rw [take_snoc hlt, List.mem_append, List.mem_singleton]
        exact fun h => h.elim hno fun h => hne h
    · obtain rfl : k = l.length := by omega
      rw [List.take_length] at hno
      have hc : at' l x = -1 := by
        have : l.idxOf? x = none := by rw [List.idxOf?_eq_none_iff]; exact hno
        simp [at', this]
      simp -implicitDefEqProofs [r68, hc]

def vIsNil (P : Program) (ms : List MOp) (K : St → Prop) (s : St) (d : Nat) (neg : Bool) : AV → Prop
  | .slice _ xs _ => (xs = [] → vcs P ms K (s.set d (.lit (.bool (!neg))))) ∧ vcs P ms K (s.set d (.lit (.bool neg)))
  | .mslice _ _ _ _ _ => vcs P ms K (s.set d (.lit (.bool neg)))
  | _ => False
theorem v_isNil (P : Program) (ms : List MOp) (K : St → Prop) (s : St) (d : Nat) (neg : Bool) (x : MArg) : vcs P (.isNil d neg x :: ms) K s = vIsNil P ms K s d neg (x.ev s.env) := by
  unfold vIsNil; rfl
attribute [simp] v_isNil vIsNil
theorem dem_fixed {x : AV} (h : x.erase0 = x) (r : Nat) : demote r x = x := by
  cases x <;> first | rfl | skip
  · rename_i sz xs q
    simp at h
    subst h
    simp
  · cases h
theorem dem_row {cs : List AV} (h : cs.map AV.erase0 = cs) (r : Nat) : cs.map (demote r) = cs := by
  have e : ∀ x ∈ cs, demote r x = x := fun x hx => by
    obtain ⟨i, hi, rfl⟩ := List.getElem_of_mem hx
    apply dem_fixed
    have := congrArg (fun l => l[i]?) h
    simpa [hi] using this
  calc cs.map (demote r) = cs.map id := List.map_congr_left e
    _ = cs := by simp
theorem span36_ok (a b : Int) : PCall Try.prog 36 [I a, I b] (Span2 a b) := by
  refine pcall Try.func36 tr36 rs36 fn36 (by simp [Try.ntmps36]) fun _ => ?_
  simp -implicitDefEqProofs [m36, r36]
theorem hold67_ok (a b c : Int) : PCall Try.prog 67 [I a, I b, I c] (.agg [I a, I b, I c]) := by
  refine pcall Try.func67 tr67 rs67 fn67 (by simp [Try.ntmps67]) fun _ => ?_
  simp -implicitDefEqProofs [m67, r67]
theorem contains_ok (l : List Int) (x : Int) : PCall Try.prog 63 [IL l, I x] (B (decide (x ∈ l))) := by
  refine pcall Try.func63 tr63 rs63 fn63 (by simp [Try.ntmps63]) fun _ => ?_
  have hd : decide (0 ≤ at' l x) = decide (x ∈ l) := by
    unfold at'
    cases h : l.idxOf? x with
    | none => rw [List.idxOf?_eq_none_iff] at h; simp [h]
    | some i =>
      have : x ∈ l := by
        rcases Classical.em (x ∈ l) with h2 | h2
        · exact h2
        · rw [← List.idxOf?_eq_none_iff] at h2; rw [h2] at h; cases h
      simp [this]
  simp -implicitDefEqProofs [m63]
  refine vCall_of (index_ok l x) ?_
  simp -implicitDefEqProofs [r63, hd]
theorem mark49_ok (o lo hi u : Int) : PCall Try.prog 49 [I o, I lo, I hi, I u] (encMark ⟨o, lo, hi, u⟩) := by
  refine pcall Try.func49 tr49 rs49 fn49 (by simp [Try.ntmps49]) fun _ => ?_
  simp -implicitDefEqProofs [m49]
  intro b
  refine vCall_of (span36_ok lo hi) ?_
  simp -implicitDefEqProofs [r49]
theorem both103_ok (a b c d : Int) : PCall Try.prog 103 [Span2 a b, Span2 c d] (Span2 (max a c) (min b d)) := by
  refine pcall Try.func103 tr103 rs103 fn103 (by simp [Try.ntmps103]) fun _ => ?_
  simp -implicitDefEqProofs [m103, r103]
  constructor <;> split <;> omega

end Go.Proofs.Ytiampdiobdianaa

namespace Go.Proofs.Ytiampdiobdianaa
open Go.Avm

def owerD : Ower := ⟨.empty, 0, 0⟩
def mkD : Mk := ⟨0, 0, 0, 0⟩
def saleD : Sale := ⟨0, 0, 0⟩
def ownE (c : Case) (i : Nat) : Int :=
  let o := c.owners.getD i owerD
  let e := namedE o.name ((c.owners.take i).map Ower.name)
  if e ≠ 0 then e else rangeE o.born o.died 0 9999
def markE (c : Case) (i : Nat) : Int :=
  let m := c.marks.getD i mkD
  if ¬ ((0 ≤ m.owner ∧ m.owner ≤ (c.owners.length : Int) - 1) ∧ (-1 ≤ m.upon ∧ m.upon ≤ (i : Int) - 1)) then 4 else
    let e := rangeE m.lo m.hi c.printed c.now
    if e ≠ 0 then e else if m.lo + 40 < m.hi then 2 else 0
def saleE (c : Case) (i : Nat) : Int :=
  let s := c.sales.getD i saleD
  if ¬ (c.printed ≤ s.year ∧ s.year ≤ c.now) then 7 else
  if ¬ ((-1 ≤ s.src ∧ s.src ≤ (c.owners.length : Int) - 1) ∧ (-1 ≤ s.dst ∧ s.dst ≤ (c.owners.length : Int) - 1)) then 4 else
  if s.src = s.dst then 2 else 0

def checkS (c : Case) : Int × Int × Int :=
  if ¬ ((1450 ≤ c.printed ∧ c.printed ≤ 1850) ∧ (1450 ≤ c.now ∧ c.now ≤ 1850)) then (1, 0, 7) else
  if c.now < c.printed then (1, 0, 2) else
  if (6 : Int) < c.owners.length then (2, 0, 3) else
  match errs (ownE c) c.owners.length with
  | some (i, e) => (2, i, e)
  | none =>
  if (8 : Int) < c.marks.length then (3, 0, 3) else
  match errs (markE c) c.marks.length with
  | some (i, e) => (3, i, e)
  | none =>
  if (4 : Int) < c.sales.length then (4, 0, 3) else
  match errs (saleE c) c.sales.length with
  | some (i, e) => (4, i, e)
  | none => (0, 0, 0)

theorem ower_at {c : Case} {i : Nat} (hi : i < c.owners.length) : c.owners.getD i owerD = c.owners[i] := by simp [hi]
theorem mk_at {c : Case} {i : Nat} (hi : i < c.marks.length) : c.marks.getD i mkD = c.marks[i] := by simp [hi]
theorem sale_at {c : Case} {i : Nat} (hi : i < c.sales.length) : c.sales.getD i saleD = c.sales[i] := by simp [hi]

structure Part1 (c : Case) : Prop where
  h1 : (1450 ≤ c.printed ∧ c.printed ≤ 1850) ∧ (1450 ≤ c.now ∧ c.now ≤ 1850)
  h2 : ¬ c.now < c.printed
  h3 : ¬ (6 : Int) < c.owners.length
structure Part2 (c : Case) : Prop extends Part1 c where
  h4 : ∀ j < c.owners.length, ownE c j = 0
  h5 : ¬ (8 : Int) < c.marks.length
structure Part3 (c : Case) : Prop extends Part2 c where
  h6 : ∀ j < c.marks.length, markE c j = 0
  h7 : ¬ (4 : Int) < c.sales.length

theorem checkS_1 {c : Case} (h : ¬ ((1450 ≤ c.printed ∧ c.printed ≤ 1850) ∧ (1450 ≤ c.now ∧ c.now ≤ 1850))) : checkS c = (1, 0, 7) := by unfold checkS; rw [if_pos h]
theorem checkS_2 {c : Case} (h1 : (1450 ≤ c.printed ∧ c.printed ≤ 1850) ∧ (1450 ≤ c.now ∧ c.now ≤ 1850)) (h : c.now < c.printed) : checkS c = (1, 0, 2) := by
  unfold checkS; rw [if_neg (not_not_intro h1), if_pos h]
theorem checkS_3 {c : Case} (h1 : (1450 ≤ c.printed ∧ c.printed ≤ 1850) ∧ (1450 ≤ c.now ∧ c.now ≤ 1850)) (h2 : ¬ c.now < c.printed) (h : (6 : Int) < c.owners.length) : checkS c = (2, 0, 3) := by
  unfold checkS; rw [if_neg (not_not_intro h1), if_neg h2, if_pos h]
theorem checkS_4 {c : Case} (h : Part1 c) {i : Nat} (hi : i < c.owners.length) (hb : ∀ j < i, ownE c j = 0) (hn : ownE c i ≠ 0) : checkS c = (2, (i : Int), ownE c i) := by
  unfold checkS; rw [if_neg (not_not_intro h.h1), if_neg h.h2, if_neg h.h3, errs_some hi hb hn]
theorem checkS_5 {c : Case} (h : Part1 c) (h4 : ∀ j < c.owners.length, ownE c j = 0) (h5 : (8 : Int) < c.marks.length) : checkS c = (3, 0, 3) := by
  unfold checkS; rw [if_neg (not_not_intro h.h1), if_neg h.h2, if_neg h.h3, errs_none h4]; simp only; rw [if_pos h5]
theorem checkS_6 {c : Case} (h : Part2 c) {i : Nat} (hi : i < c.marks.length) (hb : ∀ j < i, markE c j = 0) (hn : markE c i ≠ 0) : checkS c = (3, (i : Int), markE c i) := by
  unfold checkS; rw [if_neg (not_not_intro h.h1), if_neg h.h2, if_neg h.h3, errs_none h.h4]; simp only; rw [if_neg h.h5, errs_some hi hb hn]
theorem checkS_7 {c : Case} (h : Part2 c) (h6 : ∀ j < c.marks.length, markE c j = 0) (h7 : (4 : Int) < c.sales.length) : checkS c = (4, 0, 3) := by
  unfold checkS; rw [if_neg (not_not_intro h.h1), if_neg h.h2, if_neg h.h3, errs_none h.h4]; simp only; rw [if_neg h.h5, errs_none h6]; simp only; rw [if_pos h7]
theorem checkS_8 {c : Case} (h : Part3 c) {i : Nat} (hi : i < c.sales.length) (hb : ∀ j < i, saleE c j = 0) (hn : saleE c i ≠ 0) : checkS c = (4, (i : Int), saleE c i) := by
  unfold checkS; rw [if_neg (not_not_intro h.h1), if_neg h.h2, if_neg h.h3, errs_none h.h4]; simp only; rw [if_neg h.h5, errs_none h.h6]; simp only; rw [if_neg h.h7, errs_some hi hb hn]
theorem checkS_9 {c : Case} (h : Part3 c) (hb : ∀ j < c.sales.length, saleE c j = 0) : checkS c = (0, 0, 0) := by
  unfold checkS; rw [if_neg (not_not_intro h.h1), if_neg h.h2, if_neg h.h3, errs_none h.h4]; simp only; rw [if_neg h.h5, errs_none h.h6]; simp only; rw [if_neg h.h7, errs_none hb]

theorem lt_snoc {f : Nat → Int} {k : Nat} (h : ∀ j < k, f j = 0) (hf : f k = 0) : ∀ j < k + 1, f j = 0 := fun j hj => by
  by_cases e : j = k
  · rw [e]; exact hf
  · exact h j (by omega)
theorem outside_ok' (lo hi : Int) (l : List Int) (b : Bool) (h : out lo hi l = b) : PCall Try.prog 50 [I lo, I hi, IL l] (B b) := h ▸ outside_ok lo hi l
theorem in_ok' (n lo hi : Int) (b : Bool) (h : decide (lo ≤ n ∧ n ≤ hi) = b) : PCall Try.prog 54 [I n, I lo, I hi] (B b) := h ▸ in_ok n lo hi

theorem indexOwner_ok (l : List Ower) (f : FuncId) (caps : List AV) (p : Ower → Bool) (hp : ∀ x ∈ l, PCall Try.prog f (encOwner x :: caps) (B (p x))) :
    PCall Try.prog 85 [.slice 3 (l.map encOwner) 0, .func (.func f) [] caps] (I (firstAt p l)) := by
  refine pcall Try.func85 tr85 rs85 fn85 (by simp [Try.ntmps85]) fun hfit => ?_
  have hl := fits_len (hfit 0)
  simp only [List.length_map] at hl
  simp -implicitDefEqProofs [m85]
  refine loop_up l.length (fun k s => s.env 0 = .slice 3 (l.map encOwner) 0 ∧ s.env 1 = .func (.func f) [] caps ∧ s.env 7 = I l.length ∧ s.env 8 = I k ∧ ∀ x ∈ l.take k, p x = false) ?_ ?_
  · simp
  · rintro k s hk ⟨e0, e1, e7, e8, hno⟩
    simp -implicitDefEqProofs [e7, e8]
    refine cond_dec (fun hlt => ?_) (fun hge => ?_)
    · simp -implicitDefEqProofs [e0, e1, e8, hlt, vCallv]
      refine vCall_of (hp l[k] (List.getElem_mem _)) ?_
      simp -implicitDefEqProofs
      refine cond_bool (fun he => ?_) (fun he => ?_)
      · have hc := firstAt_some hlt he hno
        simp -implicitDefEqProofs [r85, hc]
      · simp -implicitDefEqProofs [e8]
        refine ⟨i64 (by omega) (by omega), round_ok hlt ⟨by simp [e0], by simp [e1], by simp [e7], by simp, ?_⟩⟩
        intro x hx
        rw [take_snoc hlt, List.mem_append, List.mem_singleton] at hx
        rcases hx with hx | rfl
        · exact hno x hx
        · exact he
    · obtain rfl : k = l.length := by omega
      rw [List.take_length] at hno
      have hc := firstAt_none hno
      simp -implicitDefEqProofs [r85, hc]

theorem containsOwner_ok (l : List Ower) (f : FuncId) (caps : List AV) (p : Ower → Bool) (hp : ∀ x ∈ l, PCall Try.prog f (encOwner x :: caps) (B (p x))) :
    PCall Try.prog 52 [.slice 3 (l.map encOwner) 0, .func (.func f) [] caps] (B (l.any p)) := by
  refine pcall Try.func52 tr52 rs52 fn52 (by simp [Try.ntmps52]) fun _ => ?_
  simp -implicitDefEqProofs [m52]
  refine vCall_of (indexOwner_ok l f caps p hp) ?_
  simp -implicitDefEqProofs [r52, firstAt_any]

theorem same53_ok (x s : Ower) : PCall Try.prog 53 [encOwner x, .ref [S s.name, I s.born, I s.died]] (B (sEq x.name s.name)) := by
  refine pcall Try.func53 tr53 rs53 fn53 (by simp [Try.ntmps53]) fun _ => ?_
  simp -implicitDefEqProofs [m53, r53, sEq]

theorem check_ok (c : Case) : PCall Try.prog 16 [encCase c] (T3 (checkS c)) := by
  refine pcall Try.func16 tr16 rs16 fn16 (by simp [Try.ntmps16]) fun hfit => ?_
  have lS := fits_len (fits_agg (hfit 0) 2)
  have lR := fits_len (fits_agg (hfit 0) 3)
  have lX := fits_len (fits_agg (hfit 0) 4)
  simp only [List.length_map] at lS lR lX
  obtain ⟨R, hR⟩ : ∃ R, R = checkS c := ⟨_, rfl⟩
  rw [← hR]
  simp -implicitDefEqProofs only [m16]
  refine cutS (fun st => st.env 1 = caseRef c) ?_ ?_
  · intro k hk
    simp -implicitDefEqProofs
    exact hk _ rfl
  intro s e1; clear hfit
  by_cases h1 : (1450 ≤ c.printed ∧ c.printed ≤ 1850) ∧ (1450 ≤ c.now ∧ c.now ≤ 1850)
  case neg =>
    have o1 : out 1450 1850 [c.printed, c.now] = true := by rw [out2, ← Bool.decide_and, decide_eq_false h1]; rfl
    simp -implicitDefEqProofs [e1]
    refine vCall_of (outside_ok' 1450 1850 [c.printed, c.now] _ o1) ?_
    simp -implicitDefEqProofs [r16, hR, checkS_1 h1]
  have o1 : out 1450 1850 [c.printed, c.now] = false := by rw [out2, ← Bool.decide_and, decide_eq_true h1]; rfl
  by_cases h2 : c.now < c.printed
  case pos =>
    simp -implicitDefEqProofs [e1]
    refine vCall_of (outside_ok' 1450 1850 [c.printed, c.now] _ o1) ?_
    simp -implicitDefEqProofs [e1, h2, r16, hR, checkS_2 h1 h2]
  by_cases h3 : (6 : Int) < c.owners.length
  case pos =>
    simp -implicitDefEqProofs [e1]
    refine vCall_of (outside_ok' 1450 1850 [c.printed, c.now] _ o1) ?_
    simp -implicitDefEqProofs [e1, h2, h3, r16, hR, checkS_3 h1 h2 h3]
  refine cutS (fun st => st.env 1 = caseRef c) ?_ ?_
  · intro k hk
    simp -implicitDefEqProofs [e1]
    refine vCall_of (outside_ok' 1450 1850 [c.printed, c.now] _ o1) ?_
    simp -implicitDefEqProofs [e1, h2, h3]
    exact hk _ (by simp [e1])
  intro s e1
  have p1 : Part1 c := ⟨h1, h2, h3⟩
  refine cutS (fun st => st.env 1 = caseRef c ∧ ∀ j < c.owners.length, ownE c j = 0) ?_ ?_
  · intro k0 hk0
    simp -implicitDefEqProofs [e1]
    refine loop_up c.owners.length (fun k s => s.env 1 = caseRef c ∧ s.env 30 = .slice 3 (c.owners.map encOwner) 0 ∧ s.env 31 = I c.owners.length ∧ s.env 32 = I k ∧ ∀ j < k, ownE c j = 0) ?_ ?_
    · simp [e1]
    · rintro k s hk ⟨e1, e23, e24, e25, hno⟩
      simp -implicitDefEqProofs [e24, e25]
      refine cond_dec (fun hlt => ?_) (fun hge => ?_)
      · have hst := ower_at hlt
        simp -implicitDefEqProofs [e23, e25, hlt]
        intro b hb
        refine vCall_of (name_ok c.owners[k].name) ?_
        have hE : ownE c k = if namedE c.owners[k].name ((c.owners.take k).map Ower.name) ≠ 0 then namedE c.owners[k].name ((c.owners.take k).map Ower.name) else rangeE c.owners[k].born c.owners[k].died 0 9999 := by
          unfold ownE; rw [hst]
        unfold namedE at hE
        cases hn : nameOK c.owners[k].name with
        | false =>
          rw [hn] at hE
          have hE' : ownE c k = 6 := by rw [hE]; simp
          have hr := checkS_4 p1 hlt hno (by rw [hE']; decide)
          rw [hE'] at hr
          simp -implicitDefEqProofs [r16, hR, hr]
        | true =>
          rw [hn] at hE
          have hcon := containsOwner_ok (c.owners.take k) 53 [.ref [S c.owners[k].name, I c.owners[k].born, I c.owners[k].died]] (fun x => sEq x.name c.owners[k].name) (fun x _ => same53_ok x _)
          have hany : ((c.owners.take k).map Ower.name).any (fun s => sEq s c.owners[k].name) = (c.owners.take k).any fun x => sEq x.name c.owners[k].name := by
            rw [List.any_map]; rfl
          rw [hany] at hE
          rw [List.map_take] at hcon
          generalize (c.owners.take k).any (fun x => sEq x.name c.owners[k].name) = bb at *
          simp -implicitDefEqProofs [e1]
          refine ⟨by omega, vCall_of hcon ?_⟩
          cases bb with
          | true =>
            have hE' : ownE c k = 5 := by rw [hE]; simp
            have hr := checkS_4 p1 hlt hno (by rw [hE']; decide)
            rw [hE'] at hr
            simp -implicitDefEqProofs [r16, hR, hr]
          | false =>
            have hE2 : ownE c k = rangeE c.owners[k].born c.owners[k].died 0 9999 := by rw [hE]; simp
            obtain ⟨g1, g2⟩ := rangeE_out c.owners[k].born c.owners[k].died 0 9999
            have hout := outside_ok 0 9999 [c.owners[k].born, c.owners[k].died]
            generalize out 0 9999 [c.owners[k].born, c.owners[k].died] = oo at *
            simp -implicitDefEqProofs
            refine vCall_of hout ?_
            cases oo with
            | true =>
              have hE' : ownE c k = 7 := by rw [hE2, g1 rfl]
              have hr := checkS_4 p1 hlt hno (by rw [hE']; decide)
              rw [hE'] at hr
              simp -implicitDefEqProofs [r16, hR, hr]
            | false =>
              have hE3 := hE2.trans (g2 rfl)
              simp -implicitDefEqProofs
              refine cond_dec (fun hc => ?_) (fun hc => ?_)
              · have hE' : ownE c k = 2 := by rw [hE3, if_pos hc]
                have hr := checkS_4 p1 hlt hno (by rw [hE']; decide)
                rw [hE'] at hr
                simp -implicitDefEqProofs [r16, hR, hr]
              · have hE' : ownE c k = 0 := by rw [hE3, if_neg hc]
                simp -implicitDefEqProofs [e25]
                exact ⟨i64 (by omega) (by omega), round_ok hlt ⟨by simp [e1], by simp [e23], by simp [e24], by simp, lt_snoc hno hE'⟩⟩
      · obtain rfl : k = c.owners.length := by omega
        simp -implicitDefEqProofs
        exact hk0 _ ⟨e1, hno⟩
  rintro s ⟨e1, h4⟩
  by_cases h5 : (8 : Int) < c.marks.length
  case pos =>
    simp -implicitDefEqProofs [e1, h5, r16, hR, checkS_5 p1 h4 h5]
  have p2 : Part2 c := ⟨p1, h4, h5⟩
  refine cutS (fun st => st.env 1 = caseRef c) ?_ ?_
  · intro k hk
    simp -implicitDefEqProofs [e1, h5]
    exact hk _ (by simp [e1])
  intro s e1
  refine cutS (fun st => st.env 1 = caseRef c ∧ ∀ j < c.marks.length, markE c j = 0) ?_ ?_
  · intro k0 hk0
    simp -implicitDefEqProofs [e1]
    refine loop_up c.marks.length (fun k s => s.env 1 = caseRef c ∧ s.env 72 = .slice 4 (c.marks.map encMark) 0 ∧ s.env 73 = I c.marks.length ∧ s.env 74 = I k ∧ ∀ j < k, markE c j = 0) ?_ ?_
    · simp [e1]
    · rintro k s hk ⟨e1, e72, e73, e74, hno⟩
      simp -implicitDefEqProofs [e73, e74]
      refine cond_dec (fun hlt => ?_) (fun hge => ?_)
      · have hst := mk_at hlt
        have hE : markE c k = if ¬ ((0 ≤ c.marks[k].owner ∧ c.marks[k].owner ≤ (c.owners.length : Int) - 1) ∧ (-1 ≤ c.marks[k].upon ∧ c.marks[k].upon ≤ (k : Int) - 1)) then 4 else
            if rangeE c.marks[k].lo c.marks[k].hi c.printed c.now ≠ 0 then rangeE c.marks[k].lo c.marks[k].hi c.printed c.now else if c.marks[k].lo + 40 < c.marks[k].hi then 2 else 0 := by
          unfold markE; rw [hst]
        generalize hm : c.marks[k] = m at *
        have hme : encMark m = .agg [I m.owner, I m.lo, I m.hi, I m.upon] := rfl
        simp -implicitDefEqProofs [e1, e72, e74, hlt, hm]
        intro b hb
        refine ⟨i64 (by omega) (by omega), ?_⟩
        by_cases ha : 0 ≤ m.owner ∧ m.owner ≤ (c.owners.length : Int) - 1
        case neg =>
          refine vCall_of (outside_ok' 0 ((c.owners.length : Int) - 1) [m.owner] true (by rw [out1, decide_eq_false ha]; rfl)) ?_
          have hE' : markE c k = 4 := by rw [hE, if_pos (fun h => ha h.1)]
          have hr := checkS_6 p2 hlt hno (by rw [hE']; decide)
          rw [hE'] at hr
          simp -implicitDefEqProofs [r16, hR, hr]
        refine vCall_of (outside_ok' 0 ((c.owners.length : Int) - 1) [m.owner] false (by rw [out1, decide_eq_true ha]; rfl)) ?_
        simp -implicitDefEqProofs
        refine ⟨i64 (by omega) (by omega), ?_⟩
        by_cases hb : -1 ≤ m.upon ∧ m.upon ≤ (k : Int) - 1
        case neg =>
          refine vCall_of (outside_ok' (-1) ((k : Int) - 1) [m.upon] true (by rw [out1, decide_eq_false hb]; rfl)) ?_
          have hE' : markE c k = 4 := by rw [hE, if_pos (fun h => hb h.2)]
          have hr := checkS_6 p2 hlt hno (by rw [hE']; decide)
          rw [hE'] at hr
          simp -implicitDefEqProofs [r16, hR, hr]
        refine vCall_of (outside_ok' (-1) ((k : Int) - 1) [m.upon] false (by rw [out1, decide_eq_true hb]; rfl)) ?_
        rw [if_neg (not_not_intro ⟨ha, hb⟩)] at hE
        obtain ⟨g1, g2⟩ := rangeE_out m.lo m.hi c.printed c.now
        simp -implicitDefEqProofs [e1]
        cases ho : out c.printed c.now [m.lo, m.hi] with
        | true =>
          refine vCall_of (outside_ok' c.printed c.now [m.lo, m.hi] true ho) ?_
          have hE' : markE c k = 7 := by rw [hE, g1 ho]; simp
          have hr := checkS_6 p2 hlt hno (by rw [hE']; decide)
          rw [hE'] at hr
          simp -implicitDefEqProofs [r16, hR, hr]
        | false =>
          have hb2 := ho
          rw [out2] at hb2
          simp only [Bool.not_eq_false', Bool.and_eq_true, decide_eq_true_eq] at hb2
          rw [g2 ho] at hE
          refine vCall_of (outside_ok' c.printed c.now [m.lo, m.hi] false ho) ?_
          simp -implicitDefEqProofs
          refine ⟨i64 (by omega) (by omega), ?_⟩
          by_cases hc : m.lo ≤ m.hi ∧ m.hi ≤ m.lo + 40
          · have hE' : markE c k = 0 := by rw [hE, if_neg (by omega : ¬ m.hi < m.lo), if_neg (by simp), if_neg (by omega)]
            refine vCall_of (outside_ok' m.lo (m.lo + 40) [m.hi] false (by rw [out1, decide_eq_true hc]; rfl)) ?_
            simp -implicitDefEqProofs [e74]
            exact ⟨i64 (by omega) (by omega), round_ok hlt ⟨by simp [e1], by simp [e72], by simp [e73], by simp, lt_snoc hno hE'⟩⟩
          · have hE' : markE c k = 2 := by
              rw [hE]
              by_cases hq : m.hi < m.lo
              · rw [if_pos hq, if_pos (by decide)]
              · rw [if_neg hq, if_neg (by simp), if_pos (by omega)]
            have hr := checkS_6 p2 hlt hno (by rw [hE']; decide)
            rw [hE'] at hr
            refine vCall_of (outside_ok' m.lo (m.lo + 40) [m.hi] true (by rw [out1, decide_eq_false hc]; rfl)) ?_
            simp -implicitDefEqProofs [r16, hR, hr]
      · obtain rfl : k = c.marks.length := by omega
        simp -implicitDefEqProofs
        exact hk0 _ ⟨e1, hno⟩
  rintro s ⟨e1, h6⟩
  by_cases h7 : (4 : Int) < c.sales.length
  case pos =>
    simp -implicitDefEqProofs [e1, h7, r16, hR, checkS_7 p2 h6 h7]
  have p3 : Part3 c := ⟨p2, h6, h7⟩
  refine cutS (fun st => st.env 1 = caseRef c) ?_ ?_
  · intro k hk
    simp -implicitDefEqProofs [e1, h7]
    exact hk _ (by simp [e1])
  intro s e1
  refine cutS (fun st => ∀ j < c.sales.length, saleE c j = 0) ?_ ?_
  · intro k0 hk0
    simp -implicitDefEqProofs [e1]
    refine loop_up c.sales.length (fun k s => s.env 1 = caseRef c ∧ s.env 131 = .slice 3 (c.sales.map encSale) 0 ∧ s.env 132 = I c.sales.length ∧ s.env 133 = I k ∧ ∀ j < k, saleE c j = 0) ?_ ?_
    · simp [e1]
    · rintro k s hk ⟨e1, e131, e132, e133, hno⟩
      simp -implicitDefEqProofs [e132, e133]
      refine cond_dec (fun hlt => ?_) (fun hge => ?_)
      · have hst := sale_at hlt
        have hE : saleE c k = if ¬ (c.printed ≤ c.sales[k].year ∧ c.sales[k].year ≤ c.now) then 7 else
            if ¬ ((-1 ≤ c.sales[k].src ∧ c.sales[k].src ≤ (c.owners.length : Int) - 1) ∧ (-1 ≤ c.sales[k].dst ∧ c.sales[k].dst ≤ (c.owners.length : Int) - 1)) then 4 else
            if c.sales[k].src = c.sales[k].dst then 2 else 0 := by
          unfold saleE; rw [hst]
        generalize hm : c.sales[k] = m at *
        simp -implicitDefEqProofs [e1, e131, e133, hlt, hm]
        intro b hb
        by_cases ha : c.printed ≤ m.year ∧ m.year ≤ c.now
        case neg =>
          refine vCall_of (outside_ok' c.printed c.now [m.year] true (by rw [out1, decide_eq_false ha]; rfl)) ?_
          have hE' : saleE c k = 7 := by rw [hE, if_pos ha]
          have hr := checkS_8 p3 hlt hno (by rw [hE']; decide)
          rw [hE'] at hr
          simp -implicitDefEqProofs [r16, hR, hr]
        refine vCall_of (outside_ok' c.printed c.now [m.year] false (by rw [out1, decide_eq_true ha]; rfl)) ?_
        rw [if_neg (not_not_intro ha)] at hE
        simp -implicitDefEqProofs [e1]
        refine ⟨i64 (by omega) (by omega), ?_⟩
        by_cases hb : (-1 ≤ m.src ∧ m.src ≤ (c.owners.length : Int) - 1) ∧ (-1 ≤ m.dst ∧ m.dst ≤ (c.owners.length : Int) - 1)
        case neg =>
          refine vCall_of (outside_ok' (-1) ((c.owners.length : Int) - 1) [m.src, m.dst] true (by rw [out2, ← Bool.decide_and, decide_eq_false hb]; rfl)) ?_
          have hE' : saleE c k = 4 := by rw [hE, if_pos hb]
          have hr := checkS_8 p3 hlt hno (by rw [hE']; decide)
          rw [hE'] at hr
          simp -implicitDefEqProofs [r16, hR, hr]
        refine vCall_of (outside_ok' (-1) ((c.owners.length : Int) - 1) [m.src, m.dst] false (by rw [out2, ← Bool.decide_and, decide_eq_true hb]; rfl)) ?_
        rw [if_neg (not_not_intro hb)] at hE
        by_cases hc : m.src = m.dst
        · have hE' : saleE c k = 2 := by rw [hE, if_pos hc]
          have hr := checkS_8 p3 hlt hno (by rw [hE']; decide)
          rw [hE'] at hr
          have hc' : (m.src == m.dst) = true := by simp [hc]
          simp -implicitDefEqProofs [hc', r16, hR, hr]
        · have hE' : saleE c k = 0 := by rw [hE, if_neg hc]
          have hc' : (m.src == m.dst) = false := by simp [hc]
          simp -implicitDefEqProofs [hc', e133]
          exact ⟨i64 (by omega) (by omega), round_ok hlt ⟨by simp [e1], by simp [e131], by simp [e132], by simp, lt_snoc hno hE'⟩⟩
      · obtain rfl : k = c.sales.length := by omega
        simp -implicitDefEqProofs
        exact hk0 _ hno
  rintro s h8
  simp -implicitDefEqProofs [r16, hR, checkS_9 p3 h8]
end Go.Proofs.Ytiampdiobdianaa

namespace Go.Proofs.Ytiampdiobdianaa
open Go.Avm

abbrev errE (c : Case) : Int := (checkS c).2.2

theorem rangeE_zero {a b lo hi : Int} (h : rangeE a b lo hi = 0) : lo ≤ a ∧ a ≤ b ∧ b ≤ hi := by
  unfold rangeE at h
  split at h
  · cases h
  · split at h
    · cases h
    · omega

theorem checkS_part {c : Case} (h : errE c = 0) : Part3 c ∧ ∀ j < c.sales.length, saleE c j = 0 := by
  unfold errE at h
  by_cases h1 : (1450 ≤ c.printed ∧ c.printed ≤ 1850) ∧ (1450 ≤ c.now ∧ c.now ≤ 1850)
  case neg => rw [checkS_1 h1] at h; cases h
  by_cases h2 : c.now < c.printed
  case pos => rw [checkS_2 h1 h2] at h; cases h
  by_cases h3 : (6 : Int) < c.owners.length
  case pos => rw [checkS_3 h1 h2 h3] at h; cases h
  have p1 : Part1 c := ⟨h1, h2, h3⟩
  have first : ∀ (f : Nat → Int) (n : Nat), (∀ j < n, f j = 0) ∨ ∃ i, i < n ∧ (∀ j < i, f j = 0) ∧ f i ≠ 0 := fun f n => by
    induction n with
    | zero => exact .inl (by simp)
    | succ n ih =>
      rcases ih with ih | ⟨i, hi, hb, hn⟩
      · by_cases e : f n = 0
        · exact .inl (lt_snoc ih e)
        · exact .inr ⟨n, by omega, ih, e⟩
      · exact .inr ⟨i, by omega, hb, hn⟩
  rcases first (ownE c) c.owners.length with h4 | ⟨i, hi, hb, hn⟩
  case inr => rw [checkS_4 p1 hi hb hn] at h; exact absurd h hn
  by_cases h5 : (8 : Int) < c.marks.length
  case pos => rw [checkS_5 p1 h4 h5] at h; cases h
  have p2 : Part2 c := ⟨p1, h4, h5⟩
  rcases first (markE c) c.marks.length with h6 | ⟨i, hi, hb, hn⟩
  case inr => rw [checkS_6 p2 hi hb hn] at h; exact absurd h hn
  by_cases h7 : (4 : Int) < c.sales.length
  case pos => rw [checkS_7 p2 h6 h7] at h; cases h
  have p3 : Part3 c := ⟨p2, h6, h7⟩
  rcases first (saleE c) c.sales.length with h8 | ⟨i, hi, hb, hn⟩
  case inr => rw [checkS_8 p3 hi hb hn] at h; exact absurd h hn
  exact ⟨p3, h8⟩

theorem markE_zero {c : Case} {i : Nat} (hi : i < c.marks.length) : markE c i = 0 ↔
    (0 ≤ c.marks[i].owner ∧ c.marks[i].owner < c.owners.length) ∧ (-1 ≤ c.marks[i].upon ∧ c.marks[i].upon < i) ∧ c.printed ≤ c.marks[i].lo ∧ c.marks[i].lo ≤ c.marks[i].hi ∧ c.marks[i].hi ≤ c.now ∧ c.marks[i].hi ≤ c.marks[i].lo + 40 := by
  unfold markE
  rw [mk_at hi]
  generalize c.marks[i] = m
  simp only
  constructor
  · intro h
    split at h
    · cases h
    rename_i h1
    split at h
    · rename_i h2; exact absurd h h2
    rename_i h2
    have := rangeE_zero (Decidable.not_not.1 h2)
    split at h
    · cases h
    omega
  · rintro ⟨h1, h2, h3, h4, h5, h6⟩
    rw [if_neg (by omega), if_neg (by unfold rangeE; rw [if_neg (by omega), if_neg (by omega)]; simp), if_neg (by omega)]
theorem saleE_zero {c : Case} {i : Nat} (hi : i < c.sales.length) : saleE c i = 0 ↔
    c.printed ≤ c.sales[i].year ∧ c.sales[i].year ≤ c.now ∧ -1 ≤ c.sales[i].src ∧ c.sales[i].src < c.owners.length ∧ -1 ≤ c.sales[i].dst ∧ c.sales[i].dst < c.owners.length ∧ c.sales[i].src ≠ c.sales[i].dst := by
  unfold saleE
  rw [sale_at hi]
  generalize c.sales[i] = m
  simp only
  constructor
  · intro h
    split at h
    · cases h
    split at h
    · cases h
    split at h
    · cases h
    omega
  · rintro ⟨h1, h2, h3, h4, h5, h6, h7⟩
    rw [if_neg (by omega), if_neg (by omega), if_neg h7]
theorem ownE_zero {c : Case} {i : Nat} (hi : i < c.owners.length) (h : ownE c i = 0) : 0 ≤ c.owners[i].born ∧ c.owners[i].born ≤ c.owners[i].died ∧ c.owners[i].died ≤ 9999 := by
  unfold ownE at h
  rw [ower_at hi] at h
  simp only at h
  split at h
  · rename_i h1; exact absurd h h1
  · exact rangeE_zero h

theorem Case.ok {c : Case} (he : errE c = 0) : c.OK := by
  obtain ⟨p, h8⟩ := checkS_part he
  have h1 := p.h1
  have h2 := p.h2
  have h3 := p.h3
  have h5 := p.h5
  have h7 := p.h7
  refine ⟨by omega, by omega, fun o ho => ?_, by omega, fun m hm => ?_, fun i hi => ?_, by omega, fun s hs => ?_⟩
  · obtain ⟨i, hi, rfl⟩ := List.getElem_of_mem ho
    exact ownE_zero hi (p.h4 i hi)
  · obtain ⟨i, hi, rfl⟩ := List.getElem_of_mem hm
    have := (markE_zero hi).1 (p.h6 i hi)
    omega
  · have := (markE_zero hi).1 (p.h6 i hi)
    omega
  · obtain ⟨i, hi, rfl⟩ := List.getElem_of_mem hs
    have := (saleE_zero hi).1 (h8 i hi)
    omega

def owerAt (c : Case) (o : Nat) : Ower := c.owners.getD o owerD
def bLo (c : Case) (l : List Sale) (o : Nat) : Int := l.foldl (fun a s => if s.dst = (o : Int) then max a s.year else a) (max c.printed (owerAt c o).born)
def bHi (c : Case) (l : List Sale) (o : Nat) : Int := l.foldl (fun a s => if s.dst = (o : Int) then min a s.year else a) c.now
def gLo (c : Case) (l : List Sale) (o : Nat) : Int := l.foldl (fun a s => if s.src = (o : Int) then max a s.year else a) (owerAt c o).born
def gHi (c : Case) (l : List Sale) (o : Nat) : Int := l.foldl (fun a s => if s.src = (o : Int) then min a s.year else a) (min (owerAt c o).died c.now)
abbrev soldAV (c : Case) (l : List Sale) (o : Nat) : AV := .agg [I (bLo c l o), I (bHi c l o), I (gLo c l o), I (gHi c l o)]
def rows (V : Nat → AV) (n : Nat) : List (List AV) := (List.range n).map fun o : Nat => [I o, V o]
abbrev soldRows (c : Case) : List (List AV) := rows (soldAV c c.sales) c.owners.length
abbrev titleCells (c : Case) : List AV := caseCells c ++ [.fmap (soldRows c)]
abbrev titleRef (c : Case) : AV := .ref (titleCells c)

theorem rows_succ (V : Nat → AV) (n : Nat) : rows V (n + 1) = rows V n ++ [[I n, V n]] := by simp [rows, List.range_succ]
theorem rows_at (V : Nat → AV) {n o : Nat} (h : o < n) : (rows V n).getD o [] = [I o, V o] := by simp [rows, h]
theorem rows_congr {V W : Nat → AV} {n : Nat} (h : ∀ o < n, V o = W o) : rows V n = rows W n := by
  unfold rows
  apply List.map_congr_left
  intro o ho
  rw [h o (by simpa using ho)]
theorem rows_set (V : Nat → AV) (n o : Nat) (v : AV) : (rows V n).set o [I o, v] = rows (fun j => if j = o then v else V j) n := by
  apply List.ext_getElem (by simp [rows])
  intro i h1 h2
  rw [List.getElem_set]
  simp only [rows, List.getElem_map, List.getElem_range]
  by_cases e : o = i
  · subst e; simp
  · have e' : ¬ i = o := fun h => e h.symm
    rw [if_neg e, if_neg e']
theorem keyAt_go (V : Nat → AV) (o : Nat) : ∀ (n f i : Nat), keyAt (I o) (((List.range' f n).map fun j : Nat => [I j, V j])) i = some (if f ≤ o ∧ o < f + n then some (i + (o - f)) else none)
  | 0, f, i => by
    have : ¬ (f ≤ o ∧ o < f + 0) := by omega
    rw [if_neg this]; rfl
  | n + 1, f, i => by
    rw [List.range'_succ, List.map_cons, keyAt]
    have hk : keyEq (I o) ([I f, V f].getD 0 .any) = some ((o : Int) == (f : Int)) := by
      simp [keyEq]
    rw [hk]
    by_cases e : o = f
    · subst e
      have h1 : ((o : Int) == (o : Int)) = true := by simp
      rw [h1]
      simp
    · have h1 : ((o : Int) == (f : Int)) = false := by simp; omega
      rw [h1]
      simp only
      rw [keyAt_go V o n (f + 1) (i + 1)]
      congr 1
      by_cases h : f + 1 ≤ o ∧ o < f + 1 + n
      · rw [if_pos h, if_pos (by omega)]
        congr 1; omega
      · rw [if_neg h, if_neg (by omega)]
theorem keyAt_rows (V : Nat → AV) (n o : Nat) : keyAt (I o) (rows V n) 0 = some (if o < n then some o else none) := by
  have := keyAt_go V o n 0 0
  rw [← List.range_eq_range'] at this
  unfold rows
  rw [this]
  simp

def vLookup (P : Program) (ms : List MOp) (K : St → Prop) (s : St) (d : Nat) (k : AV) (n : Option Nat) (ok : Bool) (zero : AV) : AV → Prop
  | .mapr b => ∃ es, s.env (oS + b) = mapAV es ∧ keyOK n k ∧ match keyAt k es 0 with
      | some (some i) => vcs P ms K (s.set d (if ok then .tuple [((es.getD i []).getD 1 .any), .lit (.bool true)] else ((es.getD i []).getD 1 .any).erase))
      | some none => vcs P ms K (s.set d (if ok then .tuple [zero, .lit (.bool false)] else zero.erase))
      | none => False
  | .fmap es => keyOK n k ∧ match keyAt k es 0 with
      | some (some i) => vcs P ms K (s.set d (if ok then .tuple [((es.getD i []).getD 1 .any), .lit (.bool true)] else ((es.getD i []).getD 1 .any).erase))
      | some none => vcs P ms K (s.set d (if ok then .tuple [zero, .lit (.bool false)] else zero.erase))
      | none => False
  | _ => False
theorem v_lookup (P : Program) (ms : List MOp) (K : St → Prop) (s : St) (d : Nat) (x k : MArg) (n : Option Nat) (ok : Bool) (zero : AV) : vcs P (.lookup d x k n ok zero :: ms) K s = vLookup P ms K s d (k.ev s.env).erase n ok zero (x.ev s.env) := by
  unfold vLookup; rfl
def vMapUpd (P : Program) (ms : List MOp) (K : St → Prop) (s : St) (k v : AV) (n : Option Nat) : AV → Prop
  | .mapr b => ∃ es, s.env (oS + b) = mapAV es ∧ keyOK n k ∧ match keyAt k es 0 with
      | some (some i) => vcs P ms K (s.set (oS + b) (mapAV (es.set i [k, v])))
      | some none => vcs P ms K (s.set (oS + b) (mapAV (es ++ [[k, v]])))
      | none => False
  | _ => False
theorem v_mapUpd (P : Program) (ms : List MOp) (K : St → Prop) (s : St) (x k v : MArg) (n : Option Nat) : vcs P (.mapUpd x k v n :: ms) K s = vMapUpd P ms K s (k.ev s.env).erase (v.ev s.env).erase n (x.ev s.env) := by
  unfold vMapUpd; rfl
@[simp] theorem asg_mref (s : St) (d b o : Nat) : asgSt s d (.mref b o) = s.set d (.mref b o) := rfl
@[simp] theorem asg_mapr (s : St) (d b : Nat) : asgSt s d (.mapr b) = s.set d (.mapr b) := rfl
@[simp] theorem dem_mapr (r b : Nat) : demote r (.mapr b) = .mapr b := rfl
@[simp] theorem erase_mapr (b : Nat) : (AV.mapr b).erase = .mapr b := rfl
@[simp] theorem erase0_mapr (b : Nat) : (AV.mapr b).erase0 = .mapr b := rfl
@[simp] theorem cells_mapr (b : Nat) : (AV.mapr b).cells = [.mapr b] := rfl
@[simp] theorem asg_fmap (s : St) (d : Nat) (es : List (List AV)) : asgSt s d (.fmap es) = s.set d (.fmap es) := rfl
@[simp] theorem dem_fmap (r : Nat) (es : List (List AV)) : demote r (.fmap es) = .fmap es := rfl
@[simp] theorem erase_fmap (es : List (List AV)) : (AV.fmap es).erase = .fmap es := rfl
@[simp] theorem erase0_fmap (es : List (List AV)) : (AV.fmap es).erase0 = .fmap es := rfl
@[simp] theorem cells_fmap (es : List (List AV)) : (AV.fmap es).cells = [.fmap es] := rfl
attribute [simp] v_lookup v_mapUpd
theorem oS_eq : oS = 1000001 := by simp [oS]

theorem vLookup_fmap {P : Program} {ms : List MOp} {K : St → Prop} {s : St} {d o n : Nat} {V : Nat → AV} {z : AV} (ho : o < n) (h : vcs P ms K (s.set d (V o).erase)) :
    vLookup P ms K s d (I o) none false z (.fmap (rows V n)) := by
  refine ⟨trivial, ?_⟩
  rw [keyAt_rows, if_pos ho]
  simp only [rows_at V ho]
  exact h
theorem vLookup_rows {P : Program} {ms : List MOp} {K : St → Prop} {s : St} {d o n b : Nat} {V : Nat → AV} {z : AV} (em : s.env (1000001 + b) = mapAV (rows V n)) (ho : o < n) (h : vcs P ms K (s.set d (V o).erase)) :
    vLookup P ms K s d (I o) none false z (.mapr b) := by
  refine ⟨_, by rw [oS_eq]; exact em, trivial, ?_⟩
  rw [keyAt_rows, if_pos ho]
  simp only [rows_at V ho]
  exact h
theorem vMapUpd_set {P : Program} {ms : List MOp} {K : St → Prop} {s : St} {o n b : Nat} {V : Nat → AV} {v : AV} (em : s.env (1000001 + b) = mapAV (rows V n)) (ho : o < n)
    (h : vcs P ms K (s.set (1000001 + b) (mapAV (rows (fun j => if j = o then v else V j) n)))) : vMapUpd P ms K s (I o) v none (.mapr b) := by
  refine ⟨_, by rw [oS_eq]; exact em, trivial, ?_⟩
  rw [keyAt_rows, if_pos ho]
  simp only [rows_set]
  rw [oS_eq]; exact h
theorem vMapUpd_new {P : Program} {ms : List MOp} {K : St → Prop} {s : St} {n b : Nat} {V : Nat → AV} (em : s.env (1000001 + b) = mapAV (rows V n))
    (h : vcs P ms K (s.set (1000001 + b) (mapAV (rows V (n + 1))))) : vMapUpd P ms K s (I n) (V n) none (.mapr b) := by
  refine ⟨_, by rw [oS_eq]; exact em, trivial, ?_⟩
  rw [keyAt_rows, if_neg (by omega)]
  simp only
  rw [← rows_succ, oS_eq]; exact h

theorem bLo_snoc (c : Case) (l : List Sale) (s : Sale) (o : Nat) : bLo c (l ++ [s]) o = if s.dst = (o : Int) then max (bLo c l o) s.year else bLo c l o := by simp [bLo]
theorem bHi_snoc (c : Case) (l : List Sale) (s : Sale) (o : Nat) : bHi c (l ++ [s]) o = if s.dst = (o : Int) then min (bHi c l o) s.year else bHi c l o := by simp [bHi]
theorem gLo_snoc (c : Case) (l : List Sale) (s : Sale) (o : Nat) : gLo c (l ++ [s]) o = if s.src = (o : Int) then max (gLo c l o) s.year else gLo c l o := by simp [gLo]
theorem gHi_snoc (c : Case) (l : List Sale) (s : Sale) (o : Nat) : gHi c (l ++ [s]) o = if s.src = (o : Int) then min (gHi c l o) s.year else gHi c l o := by simp [gHi]
theorem sold_twice (c : Case) (l : List Sale) (s : Sale) (o : Nat) : soldAV c (l ++ [s] ++ [s]) o = soldAV c (l ++ [s]) o := by
  have e1 : bLo c (l ++ [s] ++ [s]) o = bLo c (l ++ [s]) o := by
    rw [bLo_snoc, bLo_snoc]; split <;> omega
  have e2 : bHi c (l ++ [s] ++ [s]) o = bHi c (l ++ [s]) o := by
    rw [bHi_snoc, bHi_snoc]; split <;> omega
  have e3 : gLo c (l ++ [s] ++ [s]) o = gLo c (l ++ [s]) o := by
    rw [gLo_snoc, gLo_snoc]; split <;> omega
  have e4 : gHi c (l ++ [s] ++ [s]) o = gHi c (l ++ [s]) o := by
    rw [gHi_snoc, gHi_snoc]; split <;> omega
  rw [soldAV, e1, e2, e3, e4]
abbrev soldH (c : Case) (l : List Sale) (s : Sale) (o : Nat) : AV := .agg [I (bLo c (l ++ [s]) o), I (bHi c (l ++ [s]) o), I (gLo c l o), I (gHi c l o)]

theorem stepB {P : Program} {kn : St → Prop} {ke ke' : Nat → St → Prop} {kr kr' : St → Prop} {s : St} {x y : MCode} {i : Nat} (h : mwp P x (mwp P y kn ke kr) (blockE (mwp P y kn ke kr) ke i) kr s) :
    mwp P .skip (mwp P (.seq (.block i x) y) kn ke kr) ke' kr' s := h

theorem look_ok {c : Case} (h : c.OK) : PCall Try.prog 88 [encCase c] (titleRef c) := by
  refine pcall Try.func88 tr88 rs88 fn88 (by simp [Try.ntmps88]) fun hfit => ?_
  simp -implicitDefEqProofs only [m88]
  refine cutS (fun st => st.env 1 = caseRef c) ?_ ?_
  · intro k hk
    simp -implicitDefEqProofs
    exact hk _ rfl
  intro s e1
  refine cutS (fun st => st.env 1 = caseRef c ∧ ∃ b mb, st.env 3 = .mref b 0 ∧ st.loc b = some (caseCells c ++ [.mapr mb]) ∧ st.env (1000001 + mb) = mapAV (rows (soldAV c []) 0)) ?_ ?_
  · intro k hk
    simp -implicitDefEqProofs [e1]
    intro mb hm1 hm2 b hb
    refine hk _ ⟨by simp [e1], b, mb, by simp, by simp, ?_⟩
    simp [rows]
  rintro s ⟨e1, b, mb, e3, lb, em⟩
  refine cutS (fun st => st.env 1 = caseRef c ∧ st.env 3 = .mref b 0 ∧ st.loc b = some (caseCells c ++ [.mapr mb]) ∧ st.env (1000001 + mb) = mapAV (rows (soldAV c []) c.owners.length)) ?_ ?_
  · intro k0 hk0
    simp -implicitDefEqProofs [e1]
    refine loop_up c.owners.length (fun k s => s.env 1 = caseRef c ∧ s.env 3 = .mref b 0 ∧ s.loc b = some (caseCells c ++ [.mapr mb]) ∧ s.env (1000001 + mb) = mapAV (rows (soldAV c []) k) ∧ s.env 16 = .slice 3 (c.owners.map encOwner) 0 ∧ s.env 17 = I c.owners.length ∧ s.env 18 = I k) ?_ ?_
    · simp [e1, e3, lb, em]
    rintro k s hk ⟨e1, e3, lb, em, e16, e17, e18⟩
    simp -implicitDefEqProofs [e17, e18]
    refine cond_dec (fun hlt => ?_) (fun hge => ?_)
    · have hlt : k < c.owners.length := by omega
      have hol := h.ownersLen
      have hat : owerAt c k = c.owners[k] := by simp [owerAt, hlt]
      have hV : soldAV c [] k = .agg [I (max c.printed c.owners[k].born), I c.now, I c.owners[k].born, I (min c.owners[k].died c.now)] := by
        simp only [soldAV, bLo, bHi, gLo, gHi, List.foldl_nil, hat]
      simp -implicitDefEqProofs [e1, e3, e16, e18, lb, hlt]
      generalize c.owners[k] = o at *
      intro b5 h5
      have hne : ¬ b = b5 := by rintro rfl; rw [lb] at h5; cases h5
      simp -implicitDefEqProofs [hne]
      have m1 : (if c.printed < o.born then o.born else c.printed) = max c.printed o.born := by split <;> omega
      have m2 : (if c.now < o.died then c.now else o.died) = min o.died c.now := by split <;> omega
      rw [m1, m2, ← hV]
      refine vMapUpd_new (by simp [em]) ?_
      simp -implicitDefEqProofs [e18]
      refine ⟨i64 (by omega) (by omega), round_ok hlt ?_⟩
      simp [e1, e3, e16, e17, lb, hne]
    · obtain rfl : k = c.owners.length := by omega
      simp -implicitDefEqProofs
      exact hk0 _ ⟨by simp [e1], by simp [e3], by simp [lb], by simp [em]⟩
  rintro s ⟨e1, e3, lb, em⟩
  refine cutS (fun st => st.env 3 = .mref b 0 ∧ st.loc b = some (caseCells c ++ [.mapr mb]) ∧ st.env (1000001 + mb) = mapAV (soldRows c)) ?_ ?_
  · intro k0 hk0
    simp -implicitDefEqProofs [e1]
    refine loop_up c.sales.length (fun k s => s.env 1 = caseRef c ∧ s.env 3 = .mref b 0 ∧ s.loc b = some (caseCells c ++ [.mapr mb]) ∧ s.env (1000001 + mb) = mapAV (rows (soldAV c (c.sales.take k)) c.owners.length) ∧ s.env 47 = .slice 3 (c.sales.map encSale) 0 ∧ s.env 48 = I c.sales.length ∧ s.env 49 = I k) ?_ ?_
    · simp [e1, e3, lb, em]
    rintro k s hk ⟨e1, e3, lb, em, e47, e48, e49⟩
    simp -implicitDefEqProofs [e48, e49]
    refine cond_dec (fun hlt => ?_) (fun hge => ?_)
    · have hlt : k < c.sales.length := by omega
      have hol := h.salesLen
      have htk := take_snoc hlt
      have hsl := h.sales _ (List.getElem_mem hlt)
      have hdup : ∀ (hk : k - 1 < c.sales.length), 0 < k → c.sales[k] = c.sales[k - 1] → ∀ o, soldAV c (c.sales.take (k + 1)) o = soldAV c (c.sales.take k) o := by
        intro hk h0 e o
        have h1 : c.sales.take k = c.sales.take (k - 1) ++ [c.sales[k]] := by
          rw [e, ← take_snoc hk, show k - 1 + 1 = k by omega]
        rw [htk, h1]
        exact sold_twice c _ _ o
      refine stepB ?_
      refine cutS (fun st => st.env 1 = caseRef c ∧ st.env 3 = .mref b 0 ∧ st.loc b = some (caseCells c ++ [.mapr mb]) ∧ st.env (1000001 + mb) = mapAV (rows (soldAV c (c.sales.take k)) c.owners.length) ∧ st.env 47 = .slice 3 (c.sales.map encSale) 0 ∧ st.env 48 = I c.sales.length ∧ st.env 49 = I k ∧
        st.env 6 = I k ∧ st.env 7 = .ref [I c.sales[k].year, I c.sales[k].src, I c.sales[k].dst]) ?_ ?_
      · intro k1 hk1
        simp -implicitDefEqProofs [e47, e49, hlt]
        intro b7 h7
        have hne : ¬ b = b7 := by rintro rfl; rw [lb] at h7; cases h7
        exact hk1 _ (by simp [e1, e3, lb, em, e47, e48, e49, hne])
      rintro s ⟨e1, e3, lb, em, e47, e48, e49, e6, e7⟩
      refine cutS (fun st => st.env 1 = caseRef c ∧ st.env 3 = .mref b 0 ∧ st.loc b = some (caseCells c ++ [.mapr mb]) ∧ st.env (1000001 + mb) = mapAV (rows (soldAV c (c.sales.take k)) c.owners.length) ∧ st.env 47 = .slice 3 (c.sales.map encSale) 0 ∧ st.env 48 = I c.sales.length ∧ st.env 49 = I k ∧
        st.env 6 = I k ∧ st.env 7 = .ref [I c.sales[k].year, I c.sales[k].src, I c.sales[k].dst]) ?_ ?_
      · intro k1 hk1
        by_cases h0 : 0 < k
        · obtain ⟨p, rfl⟩ : ∃ p, k = p + 1 := ⟨k - 1, by omega⟩
          have hp : p < c.sales.length := by omega
          have hd := hdup hp h0
          simp only [Nat.add_sub_cancel] at hd
          simp -implicitDefEqProofs [e1, e6, e7, hp]
          refine ⟨i64 (by omega) (by omega), cond_bool (fun he => ?_) (fun he => ?_)⟩
          · simp only [Bool.and_eq_true, beq_iff_eq] at he
            have he : c.sales[p + 1] = c.sales[p] := by
              cases h1 : c.sales[p + 1]; cases h2 : c.sales[p]
              rw [h1, h2] at he
              simp at he
              simp [he]
            have hrc : rows (soldAV c (c.sales.take (p + 1))) c.owners.length = rows (soldAV c (c.sales.take (p + 1 + 1))) c.owners.length := rows_congr fun o _ => (hd he o).symm
            simp -implicitDefEqProofs [e49]
            refine ⟨i64 (by omega) (by omega), round_ok hlt ?_⟩
            rw [hrc] at em
            simp [e1, e3, lb, em, e47, e48]
          · simp -implicitDefEqProofs
            exact hk1 _ (by simp [e1, e3, lb, em, e47, e48, e49, e6, e7])
        · have h00 : k = 0 := by omega
          simp -implicitDefEqProofs [e6, h00]
          exact hk1 _ (by simp [e1, e3, lb, em, e47, e48, e49, e6, e7, h00])
      rintro s ⟨e1, e3, lb, em, e47, e48, e49, e6, e7⟩
      generalize hs : c.sales[k] = x at *
      obtain ⟨l, hl⟩ : ∃ l, l = c.sales.take k := ⟨_, rfl⟩
      rw [← hl] at em htk
      refine cutS (fun st => st.env 1 = caseRef c ∧ st.env 3 = .mref b 0 ∧ st.loc b = some (caseCells c ++ [.mapr mb]) ∧ st.env (1000001 + mb) = mapAV (rows (soldAV c l) c.owners.length) ∧ st.env 47 = .slice 3 (c.sales.map encSale) 0 ∧ st.env 48 = I c.sales.length ∧ st.env 49 = I k ∧
        st.env 7 = .ref [I x.year, I x.src, I x.dst] ∧ st.env 8 = .ref [I x.year, I x.year]) ?_ ?_
      · intro k1 hk1
        simp -implicitDefEqProofs [e7]
        intro b8 h8
        have hne : ¬ b = b8 := by rintro rfl; rw [lb] at h8; cases h8
        exact hk1 _ (by simp [e1, e3, lb, em, e47, e48, e49, e7, hne])
      rintro s ⟨e1, e3, lb, em, e47, e48, e49, e7, e8⟩
      refine cutS (fun st => st.env 1 = caseRef c ∧ st.env 3 = .mref b 0 ∧ st.loc b = some (caseCells c ++ [.mapr mb]) ∧ st.env (1000001 + mb) = mapAV (rows (soldH c l x) c.owners.length) ∧ st.env 47 = .slice 3 (c.sales.map encSale) 0 ∧ st.env 48 = I c.sales.length ∧ st.env 49 = I k ∧
        st.env 7 = .ref [I x.year, I x.src, I x.dst] ∧ st.env 8 = .ref [I x.year, I x.year]) ?_ ?_
      · intro k1 hk1
        simp -implicitDefEqProofs [e7]
        refine cond_bool (fun he => ?_) (fun he => ?_)
        · have he : x.dst ≠ -1 := by simpa using he
          obtain ⟨o, ho⟩ : ∃ o : Nat, x.dst = o := ⟨x.dst.toNat, by omega⟩
          have hon : o < c.owners.length := by omega
          have hR : rows (fun j => if j = o then soldH c l x o else soldAV c l j) c.owners.length = rows (soldH c l x) c.owners.length := rows_congr fun j _ => by
            by_cases e : j = o
            · rw [if_pos e, e]
            · rw [if_neg e, soldH, bLo_snoc, bHi_snoc, if_neg (by omega), if_neg (by omega)]
          have hV : soldH c l x o = .agg [I (max (bLo c l o) x.year), I (min (bHi c l o) x.year), I (gLo c l o), I (gHi c l o)] := by
            rw [soldH, bLo_snoc, bHi_snoc, if_pos ho, if_pos ho]
          have cb := both103_ok (bLo c l o) (bHi c l o) x.year x.year
          simp -implicitDefEqProofs [e3, e7, lb, ho]
          refine vLookup_rows (V := soldAV c l) (by simp [em]) hon ?_
          simp -implicitDefEqProofs
          intro b9 h9
          have hne : ¬ b = b9 := by rintro rfl; rw [lb] at h9; cases h9
          simp -implicitDefEqProofs [e8]
          refine vCall_of cb ?_
          simp -implicitDefEqProofs [e3, e7, lb, hne, ho]
          rw [← hV]
          refine vMapUpd_set (V := soldAV c l) (by simp [em]) hon ?_
          rw [hR]
          simp -implicitDefEqProofs
          exact hk1 _ (by simp [e1, e3, lb, e47, e48, e49, e7, e8, hne, ho])
        · have he : x.dst = -1 := by simpa using he
          have hR : rows (soldAV c l) c.owners.length = rows (soldH c l x) c.owners.length := rows_congr fun j _ => by
            rw [soldH, bLo_snoc, bHi_snoc, if_neg (by omega), if_neg (by omega)]
          rw [hR] at em
          simp -implicitDefEqProofs
          exact hk1 _ (by simp [e1, e3, lb, em, e47, e48, e49, e7, e8])
      rintro s ⟨e1, e3, lb, em, e47, e48, e49, e7, e8⟩
      simp -implicitDefEqProofs [e7]
      refine cond_bool (fun he => ?_) (fun he => ?_)
      · have he : x.src ≠ -1 := by simpa using he
        obtain ⟨o, ho⟩ : ∃ o : Nat, x.src = o := ⟨x.src.toNat, by omega⟩
        have hon : o < c.owners.length := by omega
        have hR : rows (fun j => if j = o then soldAV c (l ++ [x]) o else soldH c l x j) c.owners.length = rows (soldAV c (l ++ [x])) c.owners.length := rows_congr fun j _ => by
          by_cases e : j = o
          · rw [if_pos e, e]
          · rw [if_neg e, soldH, soldAV, gLo_snoc, gHi_snoc, if_neg (by omega), if_neg (by omega)]
        have hV : soldAV c (l ++ [x]) o = .agg [I (bLo c (l ++ [x]) o), I (bHi c (l ++ [x]) o), I (max (gLo c l o) x.year), I (min (gHi c l o) x.year)] := by
          rw [soldAV, gLo_snoc, gHi_snoc, if_pos ho, if_pos ho]
        have cb := both103_ok (gLo c l o) (gHi c l o) x.year x.year
        simp -implicitDefEqProofs [e3, e7, lb, ho]
        refine vLookup_rows (V := soldH c l x) (by simp [em]) hon ?_
        simp -implicitDefEqProofs
        intro b9 h9
        have hne : ¬ b = b9 := by rintro rfl; rw [lb] at h9; cases h9
        simp -implicitDefEqProofs [e8]
        refine vCall_of cb ?_
        simp -implicitDefEqProofs [e3, e7, lb, hne, ho]
        rw [← hV]
        refine vMapUpd_set (V := soldH c l x) (by simp [em]) hon ?_
        rw [hR]
        simp -implicitDefEqProofs [e49]
        refine ⟨i64 (by omega) (by omega), round_ok hlt ?_⟩
        rw [htk]
        simp [e1, e3, lb, e47, e48, hne]
      · have he : x.src = -1 := by simpa using he
        have hR : rows (soldH c l x) c.owners.length = rows (soldAV c (l ++ [x])) c.owners.length := rows_congr fun j _ => by
          rw [soldH, soldAV, gLo_snoc, gHi_snoc, if_neg (by omega), if_neg (by omega)]
        rw [hR] at em
        simp -implicitDefEqProofs [e49]
        refine ⟨i64 (by omega) (by omega), round_ok hlt ?_⟩
        rw [htk]
        simp [e1, e3, lb, em, e47, e48]
    · obtain rfl : k = c.sales.length := by omega
      rw [List.take_length] at em
      simp -implicitDefEqProofs
      exact hk0 _ ⟨by simp [e3], by simp [lb], by simp [em]⟩
  rintro s ⟨e3, lb, em⟩
  simp -implicitDefEqProofs [e3, lb, r88]
  refine frz_map 5 mb (soldRows c) rfl (by simp [em]) ?_
  simp -implicitDefEqProofs [upd]
  refine frz_all ?_
  simp -implicitDefEqProofs [upd]

theorem enter_yes {c : Case} (he : errE c = 0) : PCall Try.prog 57 [encCase c] (.tuple [titleRef c, I 0]) := by
  refine pcall Try.func57 tr57 rs57 fn57 (by simp [Try.ntmps57]) fun _ => ?_
  have hc := check_ok c
  have hl := look_ok (Case.ok he)
  unfold errE at *
  generalize checkS c = R at *
  have he' : (R.2.2 != 0) = false := by simp [he]
  simp -implicitDefEqProofs [m57]
  refine vCall_of hc ?_
  simp -implicitDefEqProofs [he']
  refine vCall_of hl ?_
  simp -implicitDefEqProofs [r57]
theorem enter_no {c : Case} (he : errE c ≠ 0) : PCall Try.prog 57 [encCase c] (.tuple [.lit (.pointer none), I (errE c)]) := by
  refine pcall Try.func57 tr57 rs57 fn57 (by simp [Try.ntmps57]) fun _ => ?_
  have hc := check_ok c
  unfold errE at *
  generalize checkS c = R at *
  have he' : (R.2.2 != 0) = true := by simp [he]
  simp -implicitDefEqProofs [m57]
  refine vCall_of hc ?_
  simp -implicitDefEqProofs [he', r57]
end Go.Proofs.Ytiampdiobdianaa

namespace Go.Proofs.Ytiampdiobdianaa
open Go.Avm

def hasO (order : List Int) (o : Int) : Bool := decide (o = -1) || decide (o ∈ order)
def markIn (order : List Int) (m : Mk) : Bool := decide (m.owner ∈ order)
def saleIn (order : List Int) (s : Sale) : Bool := hasO order s.src && hasO order s.dst
def completeB (c : Case) (order : List Int) : Bool := c.marks.all (markIn order) && c.sales.all (saleIn order)
def nextTo (order : List Int) (s : Sale) : Bool := decide (s.src = -1) || (decide (s.dst = -1) || decide (at' order s.dst = at' order s.src + 1))
def besideB (c : Case) (order : List Int) : Bool := c.sales.all (nextTo order)
def under (c : Case) (order : List Int) (m : Mk) : Bool := decide (m.upon = -1) || !decide (at' order m.owner < at' order (c.marks.getD m.upon.toNat mkD).owner)
def layeredB (c : Case) (order : List Int) : Bool := c.marks.all (under c order)

theorem all_no {α : Type} {l : List α} {p : α → Bool} {k : Nat} (hk : k < l.length) (h : p l[k] = false) : l.all p = false := by
  rw [List.all_eq_false]
  exact ⟨_, List.getElem_mem hk, by simp [h]⟩
theorem all_yes {α : Type} {l : List α} {p : α → Bool} (h : ∀ x ∈ l.take l.length, p x = true) : l.all p = true := by
  rw [List.take_length] at h
  exact List.all_eq_true.2 h
theorem take_all {α : Type} {l : List α} {p : α → Bool} {k : Nat} (hk : k < l.length) (h : ∀ x ∈ l.take k, p x = true) (h1 : p l[k] = true) : ∀ x ∈ l.take (k + 1), p x = true := by
  intro x hx
  rw [take_snoc hk, List.mem_append, List.mem_singleton] at hx
  rcases hx with hx | rfl
  · exact h x hx
  · exact h1
theorem at_len (l : List Int) (x : Int) : -1 ≤ at' l x ∧ at' l x < l.length := by
  unfold at'
  cases h : l.idxOf? x with
  | none => simp; omega
  | some i =>
    rw [List.idxOf?_eq_some_iff] at h
    obtain ⟨h1, _⟩ := h
    simp; omega

theorem complete92_ok (c : Case) (order : List Int) (h : c.OK) : PCall Try.prog 92 [titleRef c, IL order] (B (completeB c order)) := by
  refine pcall Try.func92 tr92 rs92 fn92 (by simp [Try.ntmps92]) fun hfit => ?_
  have hm9 := h.marksLen
  have hs4 := h.salesLen
  obtain ⟨R, hR⟩ : ∃ R, R = completeB c order := ⟨_, rfl⟩
  rw [← hR]
  unfold completeB at hR
  simp -implicitDefEqProofs only [m92]
  refine cutS (fun st => st.env 0 = titleRef c ∧ st.env 1 = IL order) ?_ ?_
  · intro k hk
    simp -implicitDefEqProofs
    exact hk _ (by simp)
  rintro s ⟨e0, e1⟩
  refine cutS (fun st => st.env 0 = titleRef c ∧ st.env 1 = IL order ∧ c.marks.all (markIn order) = true) ?_ ?_
  · intro k0 hk0
    simp -implicitDefEqProofs [e0]
    refine loop_up c.marks.length (fun k s => s.env 0 = titleRef c ∧ s.env 1 = IL order ∧ s.env 15 = .slice 4 (c.marks.map encMark) 0 ∧ s.env 16 = I c.marks.length ∧ s.env 17 = I k ∧ ∀ m ∈ c.marks.take k, markIn order m = true) ?_ ?_
    · simp [e0, e1]
    rintro k s hk ⟨e0, e1, e15, e16, e17, hall⟩
    simp -implicitDefEqProofs [e16, e17]
    refine cond_dec (fun hlt => ?_) (fun hge => ?_)
    · have hlt : k < c.marks.length := by omega
      have hta := take_all hlt hall
      have hno := all_no (p := markIn order) hlt
      have hq : markIn order c.marks[k] = decide (c.marks[k].owner ∈ order) := rfl
      simp -implicitDefEqProofs [e1, e15, e17, hlt]
      intro b hb
      refine vCall_of (contains_ok order c.marks[k].owner) ?_
      generalize decide (c.marks[k].owner ∈ order) = q at *
      simp -implicitDefEqProofs
      refine cond_bool (fun he => ?_) (fun he => ?_)
      · have he : q = false := by simpa using he
        rw [hno (hq.trans he), Bool.false_and] at hR
        simp -implicitDefEqProofs [r92, hR]
      · have he : q = true := by simpa using he
        simp -implicitDefEqProofs [e17]
        exact ⟨i64 (by omega) (by omega), round_ok hlt ⟨by simp [e0], by simp [e1], by simp [e15], by simp [e16], by simp, hta (hq.trans he)⟩⟩
    · obtain rfl : k = c.marks.length := by omega
      simp -implicitDefEqProofs
      exact hk0 _ ⟨by simp [e0], by simp [e1], all_yes hall⟩
  rintro s ⟨e0, e1, hma⟩
  rw [hma, Bool.true_and] at hR
  refine cutS (fun st => c.sales.all (saleIn order) = true) ?_ ?_
  · intro k0 hk0
    simp -implicitDefEqProofs [e0]
    refine loop_up c.sales.length (fun k s => s.env 0 = titleRef c ∧ s.env 1 = IL order ∧ s.env 31 = .slice 3 (c.sales.map encSale) 0 ∧ s.env 32 = I c.sales.length ∧ s.env 33 = I k ∧ ∀ s ∈ c.sales.take k, saleIn order s = true) ?_ ?_
    · simp [e0, e1]
    rintro k s hk ⟨e0, e1, e31, e32, e33, hall⟩
    simp -implicitDefEqProofs [e32, e33]
    refine cond_dec (fun hlt => ?_) (fun hge => ?_)
    · have hlt : k < c.sales.length := by omega
      have hta := take_all hlt hall
      have hno := all_no (p := saleIn order) hlt
      obtain ⟨x, hx⟩ : ∃ x, x = c.sales[k] := ⟨_, rfl⟩
      rw [← hx] at hta hno
      obtain ⟨l, hl⟩ : ∃ l, l = [x.src, x.dst] := ⟨_, rfl⟩
      have hll : l.length = 2 := by simp [hl]
      have hany : ∀ j (hj : j < l.length), hasO order l[j] = false → saleIn order x = false := by
        intro j hj hf
        subst hl
        unfold saleIn
        rcases j with _ | _ | j
        · have : hasO order x.src = false := hf
          simp [this]
        · have : hasO order x.dst = false := hf
          simp [this]
        · simp at hj; omega
      have hboth : (∀ y ∈ l.take 2, hasO order y = true) → saleIn order x = true := by
        intro h; subst hl; simp at h; simp [saleIn, h]
      refine stepB ?_
      refine cutS (fun st => st.env 0 = titleRef c ∧ st.env 1 = IL order ∧ st.env 31 = .slice 3 (c.sales.map encSale) 0 ∧ st.env 32 = I c.sales.length ∧ st.env 33 = I k ∧ st.env 8 = .ref [I x.year, I x.src, I x.dst]) ?_ ?_
      · intro k1 hk1
        simp -implicitDefEqProofs [e31, e33, hlt]
        rw [← hx]
        intro b hb
        exact hk1 _ (by simp [e0, e1, e31, e32, e33])
      rintro s ⟨e0, e1, e31, e32, e33, e8⟩
      refine cutS (fun st => st.env 0 = titleRef c ∧ st.env 1 = IL order ∧ st.env 31 = .slice 3 (c.sales.map encSale) 0 ∧ st.env 32 = I c.sales.length ∧ st.env 33 = I k ∧ st.env 41 = .slice 1 (l.map I) 42 ∧ st.env 42 = I 2 ∧ st.env 43 = I 0) ?_ ?_
      · intro k1 hk1
        simp -implicitDefEqProofs [e8]
        exact hk1 _ (by simp [e0, e1, e31, e32, e33, hl])
      rintro s ⟨e0, e1, e31, e32, e33, e41, e42, e43⟩
      simp -implicitDefEqProofs
      refine loop_up 2 (fun j st => st.env 0 = titleRef c ∧ st.env 1 = IL order ∧ st.env 31 = .slice 3 (c.sales.map encSale) 0 ∧ st.env 32 = I c.sales.length ∧ st.env 33 = I k ∧ st.env 41 = .slice 1 (l.map I) 42 ∧ st.env 42 = I 2 ∧ st.env 43 = I j ∧ ∀ y ∈ l.take j, hasO order y = true) ?_ ?_
      · simp [e0, e1, e31, e32, e33, e41, e42, e43]
      rintro j s hj ⟨e0, e1, e31, e32, e33, e41, e42, e43, hal⟩
      simp -implicitDefEqProofs [e42, e43]
      refine cond_dec (fun hlt2 => ?_) (fun hge2 => ?_)
      · have hlt2 : j < l.length := by omega
        have hta2 := take_all hlt2 hal
        have hbad := hany j hlt2
        generalize hy : l[j] = y at *
        simp -implicitDefEqProofs [e41, e43, hlt2, hy]
        by_cases h0 : y = -1
        · have h0' : (y != -1) = false := by simp [h0]
          simp -implicitDefEqProofs [h0', e43]
          exact ⟨i64 (by omega) (by omega), round_ok (by omega) ⟨by simp [e0], by simp [e1], by simp [e31], by simp [e32], by simp [e33], by simp [e41], by simp [e42], by simp, hta2 (by simp [hasO, h0])⟩⟩
        · have h0' : (y != -1) = true := by simp [h0]
          simp -implicitDefEqProofs [h0', e1]
          refine vCall_of (contains_ok order y) ?_
          have hq : hasO order y = decide (y ∈ order) := by simp [hasO, h0]
          generalize decide (y ∈ order) = q at *
          simp -implicitDefEqProofs
          refine cond_bool (fun he => ?_) (fun he => ?_)
          · have he : q = false := by simpa using he
            have hF := hno (hbad (hq.trans he))
            rw [hF] at hR
            simp -implicitDefEqProofs [r92, hR]
          · have he : q = true := by simpa using he
            simp -implicitDefEqProofs [e43]
            exact ⟨i64 (by omega) (by omega), round_ok (by omega) ⟨by simp [e0], by simp [e1], by simp [e31], by simp [e32], by simp [e33], by simp [e41], by simp [e42], by simp, hta2 (hq.trans he)⟩⟩
      · obtain rfl : j = 2 := by omega
        simp -implicitDefEqProofs [e33]
        exact ⟨i64 (by omega) (by omega), round_ok hlt ⟨by simp [e0], by simp [e1], by simp [e31], by simp [e32], by simp, hta (hboth hal)⟩⟩
    · obtain rfl : k = c.sales.length := by omega
      simp -implicitDefEqProofs
      exact hk0 _ (all_yes hall)
  rintro s hsa
  simp -implicitDefEqProofs [r92, hR, hsa]

theorem beside93_ok (c : Case) (order : List Int) (h : c.OK) (ho : order.length ≤ 100) : PCall Try.prog 93 [titleRef c, IL order] (B (besideB c order)) := by
  refine pcall Try.func93 tr93 rs93 fn93 (by simp [Try.ntmps93]) fun hfit => ?_
  have hs4 := h.salesLen
  obtain ⟨R, hR⟩ : ∃ R, R = besideB c order := ⟨_, rfl⟩
  rw [← hR]
  unfold besideB at hR
  simp -implicitDefEqProofs [m93]
  refine loop_up c.sales.length (fun k s => s.env 1 = IL order ∧ s.env 11 = .slice 3 (c.sales.map encSale) 0 ∧ s.env 12 = I c.sales.length ∧ s.env 13 = I k ∧ ∀ s ∈ c.sales.take k, nextTo order s = true) ?_ ?_
  · simp
  rintro k s hk ⟨e1, e11, e12, e13, hall⟩
  simp -implicitDefEqProofs [e12, e13]
  refine cond_dec (fun hlt => ?_) (fun hge => ?_)
  · have hlt : k < c.sales.length := by omega
    have hta := take_all hlt hall
    have hno := all_no (p := nextTo order) hlt
    generalize hx : c.sales[k] = x at *
    have hN : nextTo order x = (decide (x.src = -1) || (decide (x.dst = -1) || decide (at' order x.dst = at' order x.src + 1))) := rfl
    refine stepB ?_
    refine cutS (fun st => st.env 1 = IL order ∧ st.env 11 = .slice 3 (c.sales.map encSale) 0 ∧ st.env 12 = I c.sales.length ∧ st.env 13 = I k ∧ st.env 6 = .ref [I x.year, I x.src, I x.dst]) ?_ ?_
    · intro k1 hk1
      simp -implicitDefEqProofs [e11, e13, hlt]
      rw [hx]
      intro b hb
      exact hk1 _ (by simp [e1, e11, e12, e13])
    rintro s ⟨e1, e11, e12, e13, e6⟩
    by_cases h0 : x.src = -1
    · have h0' : (x.src != -1) = false := by simp [h0]
      simp -implicitDefEqProofs [e6, h0', e13]
      exact ⟨i64 (by omega) (by omega), round_ok hlt ⟨by simp [e1], by simp [e11], by simp [e12], by simp, hta (by simp [hN, h0])⟩⟩
    have h0' : (x.src != -1) = true := by simp [h0]
    by_cases h1 : x.dst = -1
    · have h1' : (x.dst != -1) = false := by simp [h1]
      simp -implicitDefEqProofs [e6, h0', h1', e13]
      exact ⟨i64 (by omega) (by omega), round_ok hlt ⟨by simp [e1], by simp [e11], by simp [e12], by simp, hta (by simp [hN, h1])⟩⟩
    have h1' : (x.dst != -1) = true := by simp [h1]
    have l1 := at_len order x.src
    simp -implicitDefEqProofs [e1, e6, h0', h1']
    refine vCall_of (index_ok order x.dst) ?_
    simp -implicitDefEqProofs [e1, e6]
    refine vCall_of (index_ok order x.src) ?_
    simp -implicitDefEqProofs
    refine ⟨i64 (by omega) (by omega), cond_bool (fun he => ?_) (fun he => ?_)⟩
    · have he : at' order x.dst ≠ at' order x.src + 1 := by simpa using he
      have hF := hno (by rw [hN]; simp [h0, h1, he])
      rw [hF] at hR
      simp -implicitDefEqProofs [r93, hR]
    · have he : at' order x.dst = at' order x.src + 1 := by simpa using he
      simp -implicitDefEqProofs [e13]
      exact ⟨i64 (by omega) (by omega), round_ok hlt ⟨by simp [e1], by simp [e11], by simp [e12], by simp, hta (by simp [hN, he])⟩⟩
  · obtain rfl : k = c.sales.length := by omega
    rw [all_yes hall] at hR
    simp -implicitDefEqProofs [r93, hR]

theorem layered94_ok (c : Case) (order : List Int) (h : c.OK) : PCall Try.prog 94 [titleRef c, IL order] (B (layeredB c order)) := by
  refine pcall Try.func94 tr94 rs94 fn94 (by simp [Try.ntmps94]) fun hfit => ?_
  have hm9 := h.marksLen
  obtain ⟨R, hR⟩ : ∃ R, R = layeredB c order := ⟨_, rfl⟩
  rw [← hR]
  unfold layeredB at hR
  simp -implicitDefEqProofs [m94]
  refine loop_up c.marks.length (fun k s => s.env 0 = titleRef c ∧ s.env 1 = IL order ∧ s.env 11 = .slice 4 (c.marks.map encMark) 0 ∧ s.env 12 = I c.marks.length ∧ s.env 13 = I k ∧ ∀ m ∈ c.marks.take k, under c order m = true) ?_ ?_
  · simp
  rintro k s hk ⟨e0, e1, e11, e12, e13, hall⟩
  simp -implicitDefEqProofs [e12, e13]
  refine cond_dec (fun hlt => ?_) (fun hge => ?_)
  · have hlt : k < c.marks.length := by omega
    have hta := take_all hlt hall
    have hno := all_no (p := under c order) hlt
    have hu := h.upon k hlt
    generalize hx : c.marks[k] = x at *
    have hN : under c order x = (decide (x.upon = -1) || !decide (at' order x.owner < at' order (c.marks.getD x.upon.toNat mkD).owner)) := rfl
    refine stepB ?_
    refine cutS (fun st => st.env 0 = titleRef c ∧ st.env 1 = IL order ∧ st.env 11 = .slice 4 (c.marks.map encMark) 0 ∧ st.env 12 = I c.marks.length ∧ st.env 13 = I k ∧ st.env 6 = .ref [I x.owner, I x.lo, I x.hi, I x.upon]) ?_ ?_
    · intro k1 hk1
      simp -implicitDefEqProofs [e11, e13, hlt]
      rw [hx]
      intro b hb
      exact hk1 _ (by simp [e0, e1, e11, e12, e13])
    rintro s ⟨e0, e1, e11, e12, e13, e6⟩
    by_cases h0 : x.upon = -1
    · have h0' : (x.upon != -1) = false := by simp [h0]
      simp -implicitDefEqProofs [e6, h0', e13]
      exact ⟨i64 (by omega) (by omega), round_ok hlt ⟨by simp [e0], by simp [e1], by simp [e11], by simp [e12], by simp, hta (by simp [hN, h0])⟩⟩
    have h0' : (x.upon != -1) = true := by simp [h0]
    obtain ⟨u, hu'⟩ : ∃ u : Nat, x.upon = u := ⟨x.upon.toNat, by omega⟩
    have hul : u < c.marks.length := by omega
    have hat : c.marks.getD x.upon.toNat mkD = c.marks[u] := by rw [hu', Int.toNat_natCast]; exact mk_at hul
    rw [hat] at hN
    have hge0 : ¬ ((u : Int) < 0) := by omega
    simp -implicitDefEqProofs [e1, e6, h0']
    refine vCall_of (index_ok order x.owner) ?_
    simp -implicitDefEqProofs [e0, e1, e6, hu', hul]
    refine vCall_of (index_ok order c.marks[u].owner) ?_
    simp -implicitDefEqProofs
    refine cond_dec (fun he => ?_) (fun he => ?_)
    · have hF := hno (by rw [hN]; simp [h0, he])
      rw [hF] at hR
      simp -implicitDefEqProofs [r94, hR]
    · simp -implicitDefEqProofs [e13]
      exact ⟨i64 (by omega) (by omega), round_ok hlt ⟨by simp [e0], by simp [e1], by simp [e11], by simp [e12], by simp, hta (by simp [hN]; exact .inr (by omega))⟩⟩
  · obtain rfl : k = c.marks.length := by omega
    rw [all_yes hall] at hR
    simp -implicitDefEqProofs [r94, hR]
end Go.Proofs.Ytiampdiobdianaa

namespace Go.Proofs.Ytiampdiobdianaa
open Go.Avm
def cl (n : Nat) (F : Nat → Int) : List AV := (List.range n).map fun g => I (F g)
theorem cl_len (n : Nat) (F : Nat → Int) : (cl n F).length = n := by simp [cl]
theorem cl_at {n g : Nat} (F : Nat → Int) (h : g < (cl n F).length) : (cl n F)[g] = I (F g) := by simp [cl]
theorem cl_set (n g : Nat) (F : Nat → Int) (v : Int) : (cl n F).set g (I v) = cl n fun j => if j = g then v else F j := by
  apply List.ext_getElem?
  intro j
  simp only [List.getElem?_set, cl, List.getElem?_map, List.length_map, List.length_range]
  by_cases hj : g = j
  · subst hj
    by_cases hg : g < n <;> simp [hg]
  · have : ¬ j = g := fun e => hj e.symm
    by_cases hg : j < n <;> simp [hg, hj, this]
theorem cl_congr {n : Nat} {F G : Nat → Int} (h : ∀ g < n, F g = G g) : cl n F = cl n G := by
  unfold cl
  exact List.map_congr_left fun g hg => by rw [h g (by simpa using hg)]
theorem cl_erase (n : Nat) (F : Nat → Int) : (cl n F).map AV.erase0 = cl n F := by simp [cl]
theorem cl_cell1 (n : Nat) (F : Nat → Int) : (cl n F).all AV.cell1 = true := by
  rw [List.all_eq_true]
  intro x hx
  unfold cl at hx
  rw [List.mem_map] at hx
  obtain ⟨g, _, rfl⟩ := hx
  rfl
theorem splice_all : ∀ (xs ys : List AV) (o : Nat), o + ys.length = xs.length → splice xs o ys = xs.take o ++ ys
  | xs, [], o, h => by simp at h; simp [splice, h]
  | xs, y :: ys, o, h => by
    simp only [List.length_cons] at h
    rw [splice_cons, splice_all _ ys (o + 1) (by simp; omega)]
    have ho : o < xs.length := by omega
    rw [List.take_set, List.take_succ_eq_append_getElem ho, List.set_append_right _ _ (by simp; omega)]
    simp [Nat.min_eq_left (Nat.le_of_lt ho)]
theorem cl_take (n : Nat) (F : Nat → Int) : (cl n F).take n = cl n F := List.take_of_length_le (by rw [cl_len]; exact Nat.le_refl _)

@[simp] theorem cells_mslice (b off len cap sz : Nat) : (AV.mslice b off len cap sz).cells = [.mslice b off len cap sz] := rfl
@[simp] theorem erase_mslice (b off len cap sz : Nat) : (AV.mslice b off len cap sz).erase = .mslice b off len cap sz := rfl
@[simp] theorem erase0_mslice (b off len cap sz : Nat) : (AV.mslice b off len cap sz).erase0 = .mslice b off len cap sz := rfl
theorem cl_dem (r n : Nat) (F : Nat → Int) : (cl n F).map (demote r) = cl n F := by simp [cl]

theorem chunk_cl : ∀ (n : Nat) (l : List AV), n ≤ l.length → (∀ x ∈ l, ∃ m, x = I m) → chunk 1 l n = l.take n
  | 0, l, _, _ => by simp [chunk]
  | n + 1, [], h, _ => by simp at h
  | n + 1, x :: l, h, hx => by
    obtain ⟨m, rfl⟩ := hx x (by simp)
    have := chunk_cl n l (by simpa using h) (fun y hy => hx y (by simp [hy]))
    unfold chunk
    simp [this]

structure Hold where
  who : Int
  src : Int
  til : Int
abbrev encHold (h : Hold) : AV := .agg [I h.who, I h.src, I h.til]
abbrev HL (l : List Hold) : AV := .slice 3 (l.map encHold) 0

def markY (c : Case) (Y : Nat → Int) (f : Int) (k : Nat) : Int :=
  if (c.marks.getD k mkD).upon = -1 then max (c.marks.getD k mkD).lo f else max (max (c.marks.getD k mkD).lo f) (Y (c.marks.getD k mkD).upon.toNat)
def putY (Y : Nat → Int) (k : Nat) (y : Int) : Nat → Int := fun j => if j = k then y else Y j
def markStep (c : Case) (o : Nat) (f : Int) (k : Nat) (x : (Nat → Int) × Int) : Option ((Nat → Int) × Int) :=
  if (c.marks.getD k mkD).owner ≠ (o : Int) then some x else
  if (c.marks.getD k mkD).hi < markY c x.1 f k then none else some (putY x.1 k (markY c x.1 f k), max x.2 (markY c x.1 f k))
def marksUp (c : Case) (o : Nat) (f : Int) (Y0 : Nat → Int) (t0 : Int) : Nat → Option ((Nat → Int) × Int)
  | 0 => some (Y0, t0)
  | k + 1 => (marksUp c o f Y0 t0 k).bind (markStep c o f k)
structure Run where
  years : Nat → Int
  since : Int
  raw : List Hold
def stepO (c : Case) (o : Nat) (x : Run) : Option Run :=
  (marksUp c o (max x.since (bLo c c.sales o)) x.years (max (max x.since (bLo c c.sales o)) (gLo c c.sales o)) c.marks.length).bind fun y =>
    if bHi c c.sales o < max x.since (bLo c c.sales o) ∨ gHi c c.sales o < y.2 then none else some ⟨y.1, y.2, x.raw ++ [⟨o, max x.since (bLo c c.sales o), gHi c c.sales o⟩]⟩
def runUp (c : Case) (order : List Int) : Nat → Option Run
  | 0 => some ⟨fun _ => 0, c.printed, []⟩
  | i + 1 => (runUp c order i).bind (stepO c (order.getD i 0).toNat)
def rulesB (c : Case) (order : List Int) : Bool := completeB c order && (besideB c order && layeredB c order)
def solveS (c : Case) (order : List Int) : Option (List Hold) := if rulesB c order then (runUp c order order.length).map Run.raw else none

def cut (h : Hold) (f : Int) : Hold := ⟨h.who, h.src, min h.til f⟩
def cutTo : List Hold → Int → List Hold
  | [], _ => []
  | [a], f => [cut a f]
  | a :: b :: l, f => cut a b.src :: cutTo (b :: l) f
def cutL : List Hold → List Hold
  | [] => []
  | [a] => [a]
  | a :: b :: l => cut a b.src :: cutL (b :: l)
def lastTil (p : Int) : List Hold → Int
  | [] => p
  | a :: l => lastTil a.til l
def gaps (p : Int) : List Hold → Int
  | [] => 0
  | a :: l => (if p < a.src then 1 else 0) + gaps a.til l
def unknownS (c : Case) (l : List Hold) : Int := if l = [] then 1 else gaps c.printed l + if lastTil c.printed l < c.now then 1 else 0

theorem cutTo_snoc (a : Hold) (f : Int) : ∀ l : List Hold, cutTo (l ++ [a]) f = cutTo l a.src ++ [cut a f]
  | [] => rfl
  | [b] => rfl
  | b :: d :: l => by
    have := cutTo_snoc a f (d :: l)
    show cut b d.src :: cutTo (d :: l ++ [a]) f = cut b d.src :: (cutTo (d :: l) a.src ++ [cut a f])
    rw [this]
theorem cutL_snoc (a : Hold) : ∀ l : List Hold, cutL (l ++ [a]) = cutTo l a.src ++ [a]
  | [] => rfl
  | [b] => rfl
  | b :: d :: l => by
    have := cutL_snoc a (d :: l)
    show cut b d.src :: cutL (d :: l ++ [a]) = cut b d.src :: (cutTo (d :: l) a.src ++ [a])
    rw [this]
theorem cutTo_len : ∀ (l : List Hold) (f : Int), (cutTo l f).length = l.length
  | [], _ => rfl
  | [a], _ => rfl
  | a :: b :: l, f => by
    have := cutTo_len (b :: l) f
    show (cutTo (b :: l) f).length + 1 = _
    rw [this]; rfl
theorem cutL_len (l : List Hold) : (cutL l).length = l.length := by
  rcases List.eq_nil_or_concat l with rfl | ⟨l, a, rfl⟩
  · rfl
  · rw [List.concat_eq_append, cutL_snoc]; simp [cutTo_len]
theorem gaps_snoc (a : Hold) : ∀ (p : Int) (l : List Hold), gaps p (l ++ [a]) = gaps p l + if lastTil p l < a.src then 1 else 0
  | p, [] => by simp only [List.nil_append, gaps, lastTil]; omega
  | p, b :: l => by
    have := gaps_snoc a b.til l
    simp only [List.cons_append, gaps, lastTil, this]
    omega
theorem lastTil_snoc (a : Hold) : ∀ (p : Int) (l : List Hold), lastTil p (l ++ [a]) = a.til
  | _, [] => rfl
  | _, b :: l => lastTil_snoc a b.til l
theorem gaps_range : ∀ (p : Int) (l : List Hold), 0 ≤ gaps p l ∧ gaps p l ≤ l.length
  | p, [] => by simp [gaps]
  | p, b :: l => by
    have := gaps_range b.til l
    simp only [gaps, List.length_cons]
    split <;> omega

theorem marksUp_none {c : Case} {o : Nat} {f : Int} {Y : Nat → Int} {t : Int} {k : Nat} (h : marksUp c o f Y t k = none) : ∀ d, marksUp c o f Y t (k + d) = none
  | 0 => h
  | d + 1 => by rw [← Nat.add_assoc, marksUp, marksUp_none h d]; rfl
theorem runUp_none {c : Case} {order : List Int} {i : Nat} (h : runUp c order i = none) : ∀ d, runUp c order (i + d) = none
  | 0 => h
  | d + 1 => by rw [← Nat.add_assoc, runUp, runUp_none h d]; rfl
theorem solve_none {c : Case} {order : List Int} {i : Nat} (hi : i ≤ order.length) (h : runUp c order i = none) : solveS c order = none := by
  have := runUp_none h (order.length - i)
  rw [show i + (order.length - i) = order.length by omega] at this
  unfold solveS
  rw [this]
  split <;> rfl
theorem foldMax_in (q : Sale → Bool) (lo hi : Int) : ∀ (l : List Sale) (a : Int), lo ≤ a → a ≤ hi → (∀ s ∈ l, lo ≤ s.year ∧ s.year ≤ hi) → lo ≤ l.foldl (fun a s => if q s then max a s.year else a) a ∧ l.foldl (fun a s => if q s then max a s.year else a) a ≤ hi
  | [], a, h1, h2, _ => ⟨h1, h2⟩
  | s :: l, a, h1, h2, h => by
    rw [List.foldl_cons]
    have hs := h s (by simp)
    refine foldMax_in q lo hi l _ ?_ ?_ (fun x hx => h x (by simp [hx])) <;> split <;> omega
theorem foldMin_in (q : Sale → Bool) (lo hi : Int) : ∀ (l : List Sale) (a : Int), lo ≤ a → a ≤ hi → (∀ s ∈ l, lo ≤ s.year ∧ s.year ≤ hi) → lo ≤ l.foldl (fun a s => if q s then min a s.year else a) a ∧ l.foldl (fun a s => if q s then min a s.year else a) a ≤ hi
  | [], a, h1, h2, _ => ⟨h1, h2⟩
  | s :: l, a, h1, h2, h => by
    rw [List.foldl_cons]
    have hs := h s (by simp)
    refine foldMin_in q lo hi l _ ?_ ?_ (fun x hx => h x (by simp [hx])) <;> split <;> omega
theorem ower_in {c : Case} (h : c.OK) (o : Nat) : 0 ≤ (owerAt c o).born ∧ (owerAt c o).born ≤ 9999 ∧ 0 ≤ (owerAt c o).died ∧ (owerAt c o).died ≤ 9999 := by
  unfold owerAt
  by_cases ho : o < c.owners.length
  · rw [ower_at ho]
    have := h.owners _ (List.getElem_mem ho)
    omega
  · rw [List.getD_eq_getElem?_getD, List.getElem?_eq_none (by omega)]
    simp [owerD]
theorem sold_in {c : Case} (h : c.OK) (o : Nat) : (0 ≤ bLo c c.sales o ∧ bLo c c.sales o ≤ 9999) ∧ (0 ≤ bHi c c.sales o ∧ bHi c c.sales o ≤ 9999) ∧ (0 ≤ gLo c c.sales o ∧ gLo c c.sales o ≤ 9999) ∧ (0 ≤ gHi c c.sales o ∧ gHi c c.sales o ≤ 9999) := by
  have ho := ower_in h o
  have hy := h.years
  have hs : ∀ s ∈ c.sales, 0 ≤ s.year ∧ s.year ≤ 9999 := fun s hs => by have := h.sales s hs; omega
  have a1 := foldMax_in (fun s => decide (s.dst = (o : Int))) 0 9999 c.sales (max c.printed (owerAt c o).born) (by omega) (by omega) hs
  have a2 := foldMin_in (fun s => decide (s.dst = (o : Int))) 0 9999 c.sales c.now (by omega) (by omega) hs
  have a3 := foldMax_in (fun s => decide (s.src = (o : Int))) 0 9999 c.sales (owerAt c o).born (by omega) (by omega) hs
  have a4 := foldMin_in (fun s => decide (s.src = (o : Int))) 0 9999 c.sales (min (owerAt c o).died c.now) (by omega) (by omega) hs
  simp only [decide_eq_true_eq] at a1 a2 a3 a4
  exact ⟨a1, a2, a3, a4⟩

def hcells (l : List Hold) : List AV := l.flatMap fun h => [I h.who, I h.src, I h.til]
theorem hcells_len (l : List Hold) : (hcells l).length = 3 * l.length := by
  induction l with
  | nil => rfl
  | cons a l ih => simp only [hcells, List.flatMap_cons, List.length_append, List.length_cons, List.length_nil] at ih ⊢; omega
theorem hcells_append (l m : List Hold) : hcells (l ++ m) = hcells l ++ hcells m := by simp [hcells]
structure HBlk (cs : List AV) (l : List Hold) (cap : Nat) : Prop where
  le : l.length ≤ cap
  len : cs.length = 3 * cap
  cells : cs.take (3 * l.length) = hcells l
  num : ∀ x ∈ cs, ∃ m, x = I m
theorem num_erase {cs : List AV} (h : ∀ x ∈ cs, ∃ m, x = I m) : cs.map AV.erase0 = cs := by
  calc cs.map AV.erase0 = cs.map id := List.map_congr_left fun x hx => by obtain ⟨m, rfl⟩ := h x hx; rfl
    _ = cs := by simp
theorem num_cell1 {cs : List AV} (h : ∀ x ∈ cs, ∃ m, x = I m) : cs.all AV.cell1 = true := by
  rw [List.all_eq_true]
  intro x hx
  obtain ⟨m, rfl⟩ := h x hx
  rfl
theorem hcells_num (l : List Hold) : ∀ x ∈ hcells l, ∃ m, x = I m := by
  intro x hx
  simp only [hcells, List.mem_flatMap] at hx
  obtain ⟨h, _, hx⟩ := hx
  simp at hx
  rcases hx with rfl | rfl | rfl <;> exact ⟨_, rfl⟩
theorem chunk_hcells : ∀ (l : List Hold) (cs : List AV), cs.take (3 * l.length) = hcells l → chunk 3 cs l.length = l.map encHold
  | [], _, _ => rfl
  | a :: l, cs, h => by
    have hl : (hcells (a :: l)).length = 3 * l.length + 3 := by rw [hcells_len]; simp; omega
    have e : cs.take 3 = [I a.who, I a.src, I a.til] := by
      have := congrArg (List.take 3) h
      rw [List.take_take, Nat.min_eq_left (by simp; omega)] at this
      rw [this]; rfl
    have e2 : (cs.drop 3).take (3 * l.length) = hcells l := by
      have := congrArg (List.drop 3) h
      rw [List.drop_take] at this
      rw [show 3 * (a :: l).length - 3 = 3 * l.length by simp; omega] at this
      rw [this]; rfl
    have ih := chunk_hcells l (cs.drop 3) e2
    simp only [List.length_cons, chunk, e, ih, List.map_cons]
    rfl
theorem hblk_new (h : Hold) (r : Nat) : HBlk ([I h.who, I h.src, I h.til] ++ (List.replicate r [I 0, I 0, I 0]).flatten) [h] (1 + r) := by
  refine ⟨by simp, by simp; omega, by simp [hcells], fun x hx => ?_⟩
  simp only [List.mem_append, List.mem_flatten, List.mem_replicate] at hx
  rcases hx with hx | ⟨l, ⟨_, rfl⟩, hx⟩
  · simp at hx
    rcases hx with rfl | rfl | rfl <;> exact ⟨_, rfl⟩
  · simp at hx
    subst hx
    exact ⟨_, rfl⟩
theorem hblk_grow {cs : List AV} {l : List Hold} {cap : Nat} (hb : HBlk cs l cap) (h : Hold) (r : Nat) : HBlk ((cs.take (l.length * 3)).map AV.erase0 ++ ([I h.who, I h.src, I h.til] ++ (List.replicate r [I 0, I 0, I 0]).flatten)) (l ++ [h]) (l.length + 1 + r) := by
  have hn := hblk_new h r
  have e : cs.take (l.length * 3) = hcells l := by rw [Nat.mul_comm]; exact hb.cells
  rw [e, num_erase (hcells_num l)]
  refine ⟨by simp, ?_, ?_, fun x hx => ?_⟩
  · rw [List.length_append, hn.len, hcells_len]; omega
  · have e3 : 3 * (l ++ [h]).length = 3 * l.length + 3 := by simp; omega
    rw [e3, hcells_append, List.take_append, hcells_len, List.take_of_length_le (by rw [hcells_len]; omega)]
    rw [show 3 * l.length + 3 - 3 * l.length = 3 by omega]
    rfl
  · rcases List.mem_append.1 hx with hx | hx
    · exact hcells_num l x hx
    · exact hn.num x hx
theorem splice_mid : ∀ (ys xs : List AV) (o : Nat), o + ys.length ≤ xs.length → splice xs o ys = xs.take o ++ (ys ++ xs.drop (o + ys.length))
  | [], xs, o, _ => by simp [splice]
  | y :: ys, xs, o, h => by
    simp only [List.length_cons] at h
    have ho : o < xs.length := by omega
    rw [splice, splice_mid ys _ (o + 1) (by simp; omega), List.take_set, List.take_succ_eq_append_getElem ho, List.set_append_right _ _ (by simp; omega), List.drop_set_of_lt (by omega)]
    simp [Nat.min_eq_left (Nat.le_of_lt ho)]
    congr 1
    omega
theorem hblk_room {cs : List AV} {l : List Hold} {cap : Nat} (hb : HBlk cs l cap) (h : Hold) (hr : l.length + 1 ≤ cap) : HBlk (splice cs (l.length * 3) [I h.who, I h.src, I h.til]) (l ++ [h]) cap := by
  have hlen := hb.len
  have e : cs.take (l.length * 3) = hcells l := by rw [Nat.mul_comm]; exact hb.cells
  rw [splice_mid _ _ _ (by simp; omega), e]
  refine ⟨by simp; omega, ?_, ?_, fun x hx => ?_⟩
  · simp only [List.length_append, hcells_len, List.length_drop, List.length_cons, List.length_nil]; omega
  · have e3 : 3 * (l ++ [h]).length = 3 * l.length + 3 := by simp; omega
    rw [e3, hcells_append, List.take_append, hcells_len, List.take_of_length_le (by rw [hcells_len]; omega)]
    rw [show 3 * l.length + 3 - 3 * l.length = 3 by omega]
    rfl
  · rcases List.mem_append.1 hx with hx | hx
    · exact hcells_num l x hx
    rcases List.mem_append.1 hx with hx | hx
    · simp at hx
      rcases hx with rfl | rfl | rfl <;> exact ⟨_, rfl⟩
    · exact hb.num x (List.mem_of_mem_drop hx)
theorem hblk_cut {cs : List AV} {l : List Hold} {a : Hold} {cap : Nat} (hb : HBlk cs (l ++ [a]) cap) (v : Int) : HBlk (cs.set (l.length * 3 + 2) (I v)) (l ++ [⟨a.who, a.src, v⟩]) cap := by
  have hle := hb.le
  refine ⟨by simpa using hle, by rw [List.length_set]; exact hb.len, ?_, fun x hx => ?_⟩
  · have e3 : 3 * (l ++ [(⟨a.who, a.src, v⟩ : Hold)]).length = 3 * (l ++ [a]).length := by simp
    rw [e3, List.take_set, hb.cells, hcells_append, hcells_append, List.set_append_right _ _ (by rw [hcells_len]; omega), hcells_len]
    rw [show l.length * 3 + 2 - 3 * l.length = 2 by omega]
    rfl
  · rcases List.mem_or_eq_of_mem_set hx with hx | rfl
    · exact hb.num x hx
    · exact ⟨_, rfl⟩
theorem hblk_at {cs : List AV} {l : List Hold} {a : Hold} {cap : Nat} (hb : HBlk cs (l ++ [a]) cap) : l.length * 3 + 2 < cs.length ∧ cs[l.length * 3 + 2]? = some (I a.til) := by
  have hle := hb.le
  have hlen := hb.len
  simp only [List.length_append, List.length_cons, List.length_nil] at hle
  refine ⟨by omega, ?_⟩
  have := congrArg (fun x => x[l.length * 3 + 2]?) hb.cells
  simp only [List.length_append, List.length_cons, List.length_nil] at this
  rw [List.getElem?_take_of_lt (by omega), hcells_append, List.getElem?_append_right (by rw [hcells_len]; omega), hcells_len, show l.length * 3 + 2 - 3 * l.length = 2 by omega] at this
  exact this
end Go.Proofs.Ytiampdiobdianaa
