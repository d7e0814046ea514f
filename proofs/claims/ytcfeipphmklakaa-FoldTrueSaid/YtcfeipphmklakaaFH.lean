/- Agree and Wrong, of the program and of the reference. Wrong, of the program and of the reference. Together, of the program and of the reference. What holds of all ways of making when there is one more mark. What holds of a press and a gathering that are wider. What the laws on leaves need: arguments, and what holds of the mates in all cases. What is seen of a gathering that was made so: what Told's own functions return. What is seen of a gathering that was made so agrees with this way, but for the marks that are told wrong. What the laws' own small functions return. -/
import Derived.Test.YtcfeipphmklakaaFG
import Derived.Test.YtcfeipphmklakaaKT104
import Derived.Test.YtcfeipphmklakaaKT102
import Derived.Test.YtcfeipphmklakaaFC
namespace Go.Proofs.Ytcfeipphmklakaa
open Go.Avm

def vStoreNilL (P : Program) (ms : List MOp) (K : St → Prop) (s : St) (b off sz oid : Nat) : Option (List AV) → Prop
  | some cs => off < cs.length ∧ vcs P ms K ((s.dem oid).new b ((cs.map (demote oid)).set off (.slice sz [] oid)))
  | none => False
def vStoreNil (P : Program) (ms : List MOp) (K : St → Prop) (s : St) (sz oid : Nat) : AV → Prop
  | .mref b off => vStoreNilL P ms K s b off sz oid (s.loc b)
  | _ => False
theorem v_storeNil (P : Program) (ms : List MOp) (K : St → Prop) (s : St) (x : MArg) (sz oid : Nat) : vcs P (.storeNil x sz oid :: ms) K s = vStoreNil P ms K s sz oid (x.ev s.env) := by
  unfold vStoreNil vStoreNilL; rfl
attribute [simp] v_storeNil vStoreNil vStoreNilL

theorem h104 (n : Nat) (h : n < 2048) : PCall Try.prog 104 [.lit (.int .u64 n)] (I (lenM n : Nat)) := chk104_ok (chk104_all h)
theorem h102 (n : Nat) (h : n < 2048) : PCall Try.prog 102 [.lit (.int .u64 n)] (I (bitsL n).length) := chk102_ok (chk102_all h)

theorem makes77_ok (p : Prs) : PCall Try.prog 77 [p.av] (.func (.func 98) [] [PRef p]) := by
  refine pcall Try.func77 tr77 rs77 fn77 (by simp [Try.ntmps77]) fun hfit => ?_
  simp -implicitDefEqProofs [m77, r77]

def bookE (p : Prs) (b : Bok) : Int := (checkBookE p b).2.2

theorem look76_ok (p : Prs) (b : Bok) : PCall Try.prog 76 [p.av, b.av] (.tuple [p.av, I (bookE p b)]) := by
  refine pcall Try.func76 tr76 rs76 fn76 (by simp [Try.ntmps76]) fun hfit => ?_
  have c := checkBook_ok p b
  unfold bookE
  generalize checkBookE p b = e at *
  simp -implicitDefEqProofs [m76]
  intro b4
  refine vCall_of c ?_
  simp -implicitDefEqProofs [r76]

theorem setOf_zero {q : Nat → Bool} {n : Nat} : setOf q n = 0 ↔ ∀ j < n, q j = false := by
  constructor
  · intro h j hj
    have := setOf_bit q n j
    rw [h] at this
    simpa [hj] using this.symm
  · exact setOf_nil
theorem selT_zero_iff {q : Nat → Bool} {n : Nat} : (selT q n).length = 0 ↔ ∀ j < n, q j = false := by
  constructor
  · intro h j hj
    cases hq : q j with
    | false => rfl
    | true =>
      have := mem_selT.2 ⟨hj, hq⟩
      rw [List.length_eq_zero_iff.1 h] at this
      cases this
  · intro h; rw [selT_nil h]; rfl

/-- Whether a set is empty. -/
def emptyP (q : Nat → Bool) : Bool := (List.range 11).all fun j => !q j
theorem emptyP_iff {q : Nat → Bool} : emptyP q = true ↔ ∀ j < 11, q j = false := by
  unfold emptyP
  rw [List.all_eq_true]
  constructor
  · intro h j hj; simpa using h j (by simpa using hj)
  · intro h j hj; simp [h j (by simpa using hj)]

/-- Whether a way of making agrees. -/
def fits (p : Prs) (b : Bok) (m : Mk) : Bool := offB p m b && emptyP (offP p m b)

/-- All ways of making that agree. -/
def fitL (p : Prs) (b : Bok) : List Mk := (makesL p).filter (fits p b)
def fitT (p : Prs) (b : Bok) (k : Nat) : List Mk := ((makesL p).take k).filter (fits p b)
theorem fitT_t {p : Prs} {b : Bok} {k : Nat} (hk : k < (makesL p).length) (h : fits p b (makesL p)[k] = true) : fitT p b (k + 1) = fitT p b k ++ [(makesL p)[k]] := by
  unfold fitT; rw [take_snoc hk, List.filter_append]; simp [h]
theorem fitT_f {p : Prs} {b : Bok} {k : Nat} (hk : k < (makesL p).length) (h : fits p b (makesL p)[k] = false) : fitT p b (k + 1) = fitT p b k := by
  unfold fitT; rw [take_snoc hk, List.filter_append]; simp [h]
theorem fitT_len (p : Prs) (b : Bok) (k : Nat) : (fitT p b k).length ≤ k := by
  unfold fitT
  exact Nat.le_trans (List.length_filter_le _ _) (by simp; omega)
theorem fitT_all (p : Prs) (b : Bok) : fitT p b (makesL p).length = fitL p b := by unfold fitT fitL; rw [List.take_length]

/-- What Agree returns. -/
def agreeR (p : Prs) (b : Bok) : List Mk × Int := if bookE p b ≠ 0 then ([], bookE p b) else (fitL p b, 0)

theorem mk_right {p : Prs} (he : errE p = 0) {m : Mk} (hm : m ∈ makesL p) : RightM p m := rightM_of (enterE_zero (makes_ok hm)).2

theorem agree30_ok (p : Prs) (b : Bok) : PCall Try.prog 30 [p.av, b.av] (.tuple [ML (agreeR p b).1, I (agreeR p b).2]) := by
  refine pcall Try.func30 tr30 rs30 fn30 (by simp [Try.ntmps30]) fun hfit => ?_
  have c1 := look76_ok p b
  have c0 := makes77_ok p
  have hgood : bookE p b = 0 → errE p = 0 ∧ RightB b := rightB_of
  obtain ⟨R, hR⟩ : ∃ R, R = agreeR p b := ⟨_, rfl⟩
  rw [← hR]
  unfold agreeR at hR
  generalize bookE p b = e at *
  simp -implicitDefEqProofs [m30]
  intro b4
  refine vCall_of c1 ?_
  simp -implicitDefEqProofs
  intro b6 hb6
  refine cond_bool (fun he => ?_) (fun he => ?_)
  · have h0 : e ≠ 0 := by simpa using he
    rw [if_pos h0] at hR
    have h46 : ¬ b4 = b6 := fun h => hb6 h.symm
    simp -implicitDefEqProofs [r30, hR, hb6, h46]
  have h0 : e = 0 := by simpa using he
  rw [if_neg (not_not_intro h0)] at hR
  obtain ⟨hp0, hb⟩ := hgood h0
  have hp := right_of hp0
  have hl := makes_len hp
  have hr : ∀ m ∈ makesL p, RightM p m := fun m hm => mk_right hp0 hm
  have c2 : ∀ m ∈ makesL p, _ := fun m hm => off78_ok h104 h102 hp (hr m hm) b hb
  have hfl := fitT_len p b
  have hft := @fitT_t p b
  have hff := @fitT_f p b
  have hse := makes98_ok p hp0
  rw [← fitT_all] at hR
  have h0 : fitT p b 0 = [] := rfl
  generalize fitT p b = ft at *
  generalize makesL p = l at *
  have h46 : ¬ b4 = b6 := fun h => hb6 h.symm
  simp -implicitDefEqProofs
  refine vCall_of c0 ?_
  simp -implicitDefEqProofs
  refine range_of _ (fun k st => st.env 3 = BRef b ∧ st.env 4 = .mref b4 0 ∧ st.env 6 = PRef p ∧ st.loc b4 = some [.slice 4 ((ft k).map Mk.av) 5000]) hse (by simp) ?_ ?_ ?_
  · simp [h0, h46]
  · rintro k st hk hb ⟨e3, e4, e6, el⟩
    have hk' : k < l.length := by simpa using hk
    have c3 := c2 l[k] (List.getElem_mem hk')
    have hkl := hfl k
    have ht := hft hk'
    have hf := hff hk'
    unfold fits at ht hf
    simp -implicitDefEqProofs [hk', e3, e6]
    intro b7 hb7
    have h74 : ¬ b4 = b7 := fun h => by subst h; rw [el] at hb7; cases hb7
    have h47 : ¬ b7 = b4 := fun h => h74 h.symm
    generalize hq : offP p l[k] b = q at *
    generalize offB p l[k] b = ob at *
    refine vCall_of c3 ?_
    cases ob with
    | false =>
      have := hf (by simp)
      simp -implicitDefEqProofs [el, this, h74]
    | true =>
      simp -implicitDefEqProofs
      refine cond_bool (fun he => ?_) (fun he => ?_)
      · have hz : emptyP q = true := emptyP_iff.2 (setOf_zero.1 (by simpa using he))
        have := ht (by simpa using hz)
        simp -implicitDefEqProofs [e4, el, this, h74, h47]
        omega
      · have hz : emptyP q = false := by
          cases h : emptyP q with
          | false => rfl
          | true =>
            have := setOf_zero.2 (emptyP_iff.1 h)
            simp [this] at he
        have := hf (by simpa using hz)
        simp -implicitDefEqProofs [el, this, h74]
  · rintro st hb ⟨e3, e4, e6, el⟩
    simp at el
    simp -implicitDefEqProofs [e4, el, r30, hR]
end Go.Proofs.Ytcfeipphmklakaa

namespace Go.Proofs.Ytcfeipphmklakaa
open Go.Avm

/-- The better one of the best set so far and of that of a way of making. -/
def stepW (p : Prs) (b : Bok) (best : Option Nat) (m : Mk) : Option Nat :=
  if offB p m b then (match best with
    | none => some (setOf (offP p m b) 11)
    | some s => if lessL (bitsL (setOf (offP p m b) 11)) (bitsL s) then some (setOf (offP p m b) 11) else some s)
  else best
def bestT (p : Prs) (b : Bok) (k : Nat) : Option Nat := ((makesL p).take k).foldl (stepW p b) none
def bestW (p : Prs) (b : Bok) : Option Nat := (makesL p).foldl (stepW p b) none
theorem bestT_succ {p : Prs} {b : Bok} {k : Nat} (hk : k < (makesL p).length) : bestT p b (k + 1) = stepW p b (bestT p b k) (makesL p)[k] := by
  unfold bestT; rw [take_snoc hk, List.foldl_append]; rfl
theorem bestT_all (p : Prs) (b : Bok) : bestT p b (makesL p).length = bestW p b := by unfold bestT bestW; rw [List.take_length]
def okBest (o : Option Nat) : Prop := ∀ s, o = some s → s < 2048
theorem stepW_ok {p : Prs} {b : Bok} {o : Option Nat} (h : okBest o) (m : Mk) : okBest (stepW p b o m) := by
  intro s hs
  unfold stepW at hs
  split at hs
  · split at hs
    · cases hs; exact setOf_small _
    · split at hs
      · cases hs; exact setOf_small _
      · cases hs; exact h _ rfl
  · exact h _ hs

def bestI : Option Nat → Int
  | none => -1
  | some s => s
def bestS : Option Nat → List Int
  | none => []
  | some s => bitsL s

/-- What Wrong returns. -/
def wrongR (p : Prs) (b : Bok) : List Int × Int := if bookE p b ≠ 0 then ([], bookE p b) else match bestW p b with
  | none => ([], 9)
  | some s => (bitsL s, 0)

theorem wrong35_ok (p : Prs) (b : Bok) : PCall Try.prog 35 [p.av, b.av] (.tuple [IL (wrongR p b).1, I (wrongR p b).2]) := by
  refine pcall Try.func35 tr35 rs35 fn35 (by simp [Try.ntmps35]) fun hfit => ?_
  have c1 := look76_ok p b
  have c0 := makes77_ok p
  have hgood : bookE p b = 0 → errE p = 0 ∧ RightB b := rightB_of
  obtain ⟨R, hR⟩ : ∃ R, R = wrongR p b := ⟨_, rfl⟩
  rw [← hR]
  unfold wrongR at hR
  generalize bookE p b = e at *
  simp -implicitDefEqProofs [m35]
  refine vCall_of c1 ?_
  simp -implicitDefEqProofs
  intro b6
  refine cond_bool (fun he => ?_) (fun he => ?_)
  · have h0 : e ≠ 0 := by simpa using he
    rw [if_pos h0] at hR
    simp -implicitDefEqProofs [r35, hR]
  have h0 : e = 0 := by simpa using he
  rw [if_neg (not_not_intro h0)] at hR
  obtain ⟨hp0, hb⟩ := hgood h0
  have hp := right_of hp0
  have hr : ∀ m ∈ makesL p, RightM p m := fun m hm => mk_right hp0 hm
  have c2 : ∀ m ∈ makesL p, _ := fun m hm => off78_ok h104 h102 hp (hr m hm) b hb
  have hbs := @bestT_succ p b
  have hse := makes98_ok p hp0
  rw [← bestT_all] at hR
  have hz : bestT p b 0 = none := rfl
  generalize bestT p b = bt at *
  generalize makesL p = l at *
  simp -implicitDefEqProofs
  intro b8
  refine vCall_of c0 ?_
  simp -implicitDefEqProofs
  refine range_of _ (fun k st => st.env 3 = BRef b ∧ st.env 6 = PRef p ∧ st.env 8 = .mref b8 0 ∧ st.loc b8 = some [I (bestI (bt k))] ∧ okBest (bt k)) hse (by simp) ?_ ?_ ?_
  · simp [hz, bestI]
    intro s hs; cases hs
  · rintro k st hk hbk ⟨e3, e6, e8, el, hob⟩
    have hk' : k < l.length := by simpa using hk
    have c3 := c2 l[k] (List.getElem_mem hk')
    have hs := hbs hk'
    have hok2 : okBest (bt (k + 1)) := by rw [hs]; exact stepW_ok hob _
    unfold stepW at hs
    have hsm := setOf_small (offP p l[k] b)
    simp -implicitDefEqProofs [hk', e3, e6]
    intro b7 hb7
    have h74 : ¬ b8 = b7 := fun h => by subst h; rw [el] at hb7; cases hb7
    have h47 : ¬ b7 = b8 := fun h => h74 h.symm
    generalize setOf (offP p l[k] b) 11 = q at *
    generalize offB p l[k] b = ob at *
    refine vCall_of c3 ?_
    cases ob with
    | false =>
      rw [if_neg (by simp)] at hs
      simp -implicitDefEqProofs [e8, el, h74, hs, hob]
    | true =>
      rw [if_pos rfl] at hs
      have hq0 : ¬ (q : Int) < 0 := by omega
      simp -implicitDefEqProofs [e8, el, h74, hq0]
      cases hbt : bt k with
      | none =>
        rw [hbt] at hs el hob
        simp only at hs
        simp -implicitDefEqProofs [bestI, e8, el, h74, hs]
        intro s hs'; cases hs'; exact hsm
      | some s0 =>
        rw [hbt] at hs el hob
        have hs0 := hob s0 rfl
        have hge : (0 : Int) ≤ (s0 : Int) := by omega
        have cf := fewer80_ok h104 h102 hsm hs0
        simp -implicitDefEqProofs [bestI, hge, e8, el, h74]
        refine vCall_of cf ?_
        cases hlx : lessL (bitsL q) (bitsL s0) with
        | true =>
          simp only [hlx, if_true] at hs
          simp -implicitDefEqProofs [e8, el, h74, hs, bestI]
          intro s hs'; cases hs'; exact hsm
        | false =>
          simp only [hlx, Bool.false_eq_true, if_false] at hs
          simp -implicitDefEqProofs [el, h74, hs, bestI]
          intro s hs'; cases hs'; exact hs0
  · rintro st hbk ⟨e3, e6, e8, el, hob⟩
    simp at el hob
    simp -implicitDefEqProofs [e8, el]
    cases hbt : bt l.length with
    | none =>
      rw [hbt] at hR
      simp -implicitDefEqProofs [bestI, r35, hR]
    | some s0 =>
      rw [hbt] at hR hob el
      have hs0 := hob s0 rfl
      have hge : ¬ (s0 : Int) < 0 := by omega
      have cl := list81_ok h104 hs0
      simp -implicitDefEqProofs [bestI, hge, e8, el]
      refine vCall_of cl ?_
      simp -implicitDefEqProofs [r35, hR]

def BestI (o : Option Nat) (s : St) : Prop := match o with
  | none => s.env 10 = .slice 1 [] 11 ∧ s.env 11 = B false
  | some q => s.env 10 = .slice 1 ((bitsL q).map I) 0 ∧ s.env 11 = B true

end Go.Proofs.Ytcfeipphmklakaa

namespace Go.Proofs.Ytcfeipphmklakaa
open Go.Avm

/-- How many of the first ways of making lay two leaves on one sheet. -/
def cntT (p : Prs) (l : List Mk) (t k i : Nat) : Nat := ((l.take k).filter fun m => mateQ (lvOf p m) t i).length
theorem cntT_succ {p : Prs} {l : List Mk} {t k i : Nat} (hk : k < l.length) : cntT p l t (k + 1) i = cntT p l t k i + if mateQ (lvOf p l[k]) t i then 1 else 0 := by
  unfold cntT
  rw [take_snoc hk, List.filter_append, List.length_append]
  cases h : mateQ (lvOf p l[k]) t i <;> simp [h]
theorem cntT_le (p : Prs) (l : List Mk) (t k i : Nat) : cntT p l t k i ≤ k := by
  unfold cntT
  exact Nat.le_trans (List.length_filter_le _ _) (by simp; omega)

theorem count_selT (q : Nat → Bool) (i : Nat) : ∀ n, (selT q n).count (i : Int) = if i < n ∧ q i = true then 1 else 0
  | 0 => by simp [selT]
  | n + 1 => by
    rw [selT_succ, List.count_append, count_selT q i n]
    cases hq : q n with
    | true =>
      by_cases hi : i = n
      · subst hi; simp [hq]
      · have h1 : ¬ ((n : Int) = (i : Int)) := by omega
        have h2 : (i < n + 1 ∧ q i = true) ↔ (i < n ∧ q i = true) := by constructor <;> (rintro ⟨a, b⟩; exact ⟨by omega, b⟩)
        simp only [if_true, h2]
        simp [List.count_singleton, h1]
    | false =>
      by_cases hi : i = n
      · subst hi; simp [hq]
      · have h2 : (i < n + 1 ∧ q i = true) ↔ (i < n ∧ q i = true) := by constructor <;> (rintro ⟨a, b⟩; exact ⟨by omega, b⟩)
        simp only [h2]
        simp

def mustQ (p : Prs) (l : List Mk) (t i : Nat) : Bool := decide (cntT p l t l.length i = l.length)
def mayQ (p : Prs) (l : List Mk) (t i : Nat) : Bool := decide (0 < cntT p l t l.length i)

/-- What Together returns. -/
def togetherR (p : Prs) (b : Bok) (leaf : Int) : List Int × List Int × Int :=
  if (agreeR p b).2 ≠ 0 then ([], [], (agreeR p b).2)
  else if ¬ (0 ≤ leaf ∧ leaf ≤ b.leaves - 1) then ([], [], 4)
  else if (agreeR p b).1.length = 0 then ([], [], 8)
  else (selT (mustQ p (agreeR p b).1 leaf.toNat) b.leaves.toNat, selT (mayQ p (agreeR p b).1 leaf.toNat) b.leaves.toNat, 0)

theorem agreeR_zero {p : Prs} {b : Bok} (h : (agreeR p b).2 = 0) : bookE p b = 0 ∧ (agreeR p b).1 = fitL p b := by
  unfold agreeR at *
  split at h
  · rename_i h0; exact (h0 h).elim
  · rename_i h0; rw [if_neg h0]; exact ⟨Decidable.of_not_not h0, rfl⟩

theorem fit_mates {p : Prs} {b : Bok} {m : Mk} (hm : m ∈ fitL p b) {t n : Nat} (hn : b.leaves = n) (ht : t < n) : ∃ c, matesR p m t = (selT (mateQ (lvOf p m) t) n, c, 0) := by
  obtain ⟨h1, h2⟩ := List.mem_filter.1 hm
  have he := makes_ok h1
  have hl : ((lvOf p m).length : Int) = b.leaves := by
    unfold fits offB at h2
    rw [Bool.and_eq_true] at h2
    exact of_decide_eq_true h2.1
  have hl' : (lvOf p m).length = n := by omega
  refine ⟨(n : Int) - 1 - t, ?_⟩
  have h3 : ¬ ¬ ((0 : Int) ≤ t ∧ (t : Int) ≤ ((lvOf p m).length : Int) - 1) := not_not_intro (by omega)
  unfold matesR
  rw [if_neg (not_not_intro he), if_neg h3, hl', Int.toNat_natCast]

theorem fitL_len {p : Prs} (hp : Right p) (b : Bok) : (fitL p b).length ≤ 1000 := Nat.le_trans (List.length_filter_le _ _) (makes_len hp)

theorem range_set (f : Nat → AV) (n i : Nat) (v : AV) : ((List.range n).map f).set i v = (List.range n).map fun j => if j = i then v else f j := by
  apply List.ext_getElem
  · simp
  · intro j h1 h2
    simp only [List.getElem_set, List.getElem_map, List.getElem_range]
    by_cases h : j = i
    · subst h; simp
    · have : ¬ i = j := fun e => h e.symm
      simp [h, this]

def manyL (n : Nat) (f : Nat → Nat) : List AV := (List.range n).map fun i => I (f i : Nat)
theorem manyL_len (n : Nat) (f : Nat → Nat) : (manyL n f).length = n := by simp [manyL]
theorem manyL_get {n i : Nat} (f : Nat → Nat) (h : i < n) : (manyL n f)[i]? = some (I (f i : Nat)) := by simp [manyL, h]
theorem manyL_map (n : Nat) (g : Nat → Nat) (f : AV → AV) (h : ∀ v : Int, f (I v) = I v) : (manyL n g).map f = manyL n g := by
  unfold manyL
  rw [List.map_map]
  exact List.map_congr_left fun i _ => h _
theorem manyL_set (n i : Nat) (f : Nat → Nat) (v : Nat) : (manyL n f).set i (I v) = manyL n fun j => if j = i then v else f j := by
  unfold manyL
  rw [range_set]
  apply List.map_congr_left
  intro j _
  by_cases h : j = i <;> simp [h]

theorem count_take {l : List Int} {j : Nat} (hj : j < l.length) (x : Int) : (l.take (j + 1)).count x = (l.take j).count x + if l[j] = x then 1 else 0 := by
  rw [take_snoc hj, List.count_append]
  congr 1
  by_cases h : l[j] = x <;> simp [List.count_singleton, h]

theorem selT_mem {q : Nat → Bool} {n : Nat} {x : Int} (h : x ∈ selT q n) : ∃ j : Nat, x = j ∧ j < n ∧ q j = true := by
  unfold selT at h
  obtain ⟨j, hj, rfl⟩ := List.mem_map.1 h
  obtain ⟨h1, h2⟩ := List.mem_filter.1 hj
  exact ⟨j, rfl, by simpa using h1, h2⟩

theorem together33_ok (p : Prs) (b : Bok) (leaf : Int) : PCall Try.prog 33 [p.av, b.av, I leaf] (.tuple [IL (togetherR p b leaf).1, IL (togetherR p b leaf).2.1, I (togetherR p b leaf).2.2]) := by
  refine pcall Try.func33 tr33 rs33 fn33 (by simp [Try.ntmps33]) fun hfit => ?_
  have c1 := agree30_ok p b
  have hgood : (agreeR p b).2 = 0 → errE p = 0 ∧ RightB b := fun h => rightB_of (agreeR_zero h).1
  have hmem : (agreeR p b).2 = 0 → ∀ m ∈ (agreeR p b).1, m ∈ fitL p b := fun h m hm => by rw [← (agreeR_zero h).2]; exact hm
  have hlen : (agreeR p b).2 = 0 → (agreeR p b).1.length ≤ 1000 := fun h => by rw [(agreeR_zero h).2]; exact fitL_len (right_of (hgood h).1) b
  have c2 := fun m => mates26_ok p m leaf
  obtain ⟨R, hR⟩ : ∃ R, R = togetherR p b leaf := ⟨_, rfl⟩
  rw [← hR]
  unfold togetherR at hR
  generalize agreeR p b = a at *
  simp -implicitDefEqProofs [m33]
  refine vCall_of c1 ?_
  simp -implicitDefEqProofs
  refine cond_bool (fun he => ?_) (fun he => ?_)
  · have h0 : a.2 ≠ 0 := by simpa using he
    rw [if_pos h0] at hR
    simp -implicitDefEqProofs [r33, hR]
  have h0 : a.2 = 0 := by simpa using he
  rw [if_neg (not_not_intro h0)] at hR
  obtain ⟨hp0, hb⟩ := hgood h0
  replace hmem := hmem h0
  replace hlen := hlen h0
  have hlv := hb.leaves
  have c3 := outside_ok 0 (b.leaves - 1) [leaf]
  rw [out1] at c3
  simp -implicitDefEqProofs
  refine ⟨i64 (by omega) (by omega), ?_⟩
  refine vCall_of c3 ?_
  by_cases h1 : 0 ≤ leaf ∧ leaf ≤ b.leaves - 1
  case neg =>
    rw [if_pos h1] at hR
    rw [decide_eq_false h1]
    simp -implicitDefEqProofs [r33, hR]
  rw [if_neg (not_not_intro h1)] at hR
  rw [decide_eq_true h1]
  simp -implicitDefEqProofs
  refine cond_bool (fun he => ?_) (fun he => ?_)
  · have h2 : a.1.length = 0 := by have := eq_of_beq he; omega
    rw [if_pos h2] at hR
    simp -implicitDefEqProofs [r33, hR]
  have h2 : ¬ a.1.length = 0 := by intro h; rw [h] at he; simp at he
  rw [if_neg h2] at hR
  obtain ⟨t, ht⟩ : ∃ t : Nat, leaf = t := ⟨leaf.toNat, by omega⟩
  obtain ⟨n, hn⟩ : ∃ n : Nat, b.leaves = n := ⟨b.leaves.toNat, by omega⟩
  have htn : t < n := by omega
  have c4 : ∀ m ∈ a.1, ∃ c, PCall Try.prog 26 [p.av, m.av, I leaf] (.tuple [IL (selT (mateQ (lvOf p m) t) n), I c, I 0]) := fun m hm => by
    obtain ⟨c, hc⟩ := fit_mates (hmem m hm) hn htn
    refine ⟨c, ?_⟩
    have := c2 m
    rw [ht, hc] at this
    rw [ht]
    exact this
  rw [hn, ht] at hR
  simp only [Int.toNat_natCast] at hR
  generalize a.1 = l at *
  have hmu := selT_len (mustQ p l t)
  have hma := selT_len (mayQ p l t)
  simp -implicitDefEqProofs [hn]
  refine ⟨by omega, by omega, ?_⟩
  intro bm
  have hm0 : (List.replicate n [I 0]).flatten = manyL n fun i => cntT p l t 0 i := by
    have : ∀ m, (List.replicate m [I 0]).flatten = List.replicate m (I 0) := fun m => by
      induction m with
      | zero => rfl
      | succ m ih => rw [List.replicate_succ, List.flatten_cons, ih]; rfl
    rw [this]
    unfold manyL
    rw [List.map_congr_left (g := fun _ => I 0) (fun i _ => by simp [cntT]), List.map_const', List.length_range]
  refine loop_up l.length (fun k s => s.env 2 = I leaf ∧ s.env 3 = PRef p ∧ s.env 4 = BRef b ∧ s.env 6 = .slice 1 [] 7 ∧ s.env 7 = .slice 1 [] 8 ∧ s.env 9 = ML l ∧ s.env 10 = .mslice bm 0 n n 1 ∧
    s.loc bm = some (manyL n fun i => cntT p l t k i) ∧ s.env 44 = ML l ∧ s.env 45 = I l.length ∧ s.env 46 = I k) ?_ ?_
  · simp [← hm0]
    exact hn.symm
  rintro k s hk ⟨e2, e3, e4, e6, e7, e9, e10, el, e44, e45, e46⟩
  simp -implicitDefEqProofs [e45, e46]
  refine cond_dec (fun hlt => ?_) (fun hge => ?_)
  · have hlt : k < l.length := by omega
    obtain ⟨c, c5⟩ := c4 l[k] (List.getElem_mem hlt)
    have hcs := fun i => cntT_succ (p := p) (t := t) (i := i) hlt
    have hcl := fun i => cntT_le p l t k i
    have hMl := selT_len (mateQ (lvOf p l[k]) t) n
    have hcnt := fun i => count_selT (mateQ (lvOf p l[k]) t) i n
    have hMm := @selT_mem (mateQ (lvOf p l[k]) t) n
    simp -implicitDefEqProofs [e2, e3, e44, e46, hlt]
    intro b12 hb12
    have hne : ¬ bm = b12 := fun h => by subst h; rw [el] at hb12; cases hb12
    refine vCall_of c5 ?_
    generalize selT (mateQ (lvOf p l[k]) t) n = M at *
    simp -implicitDefEqProofs
    refine loop_up M.length (fun j s => s.env 2 = I leaf ∧ s.env 3 = PRef p ∧ s.env 4 = BRef b ∧ s.env 6 = .slice 1 [] 7 ∧ s.env 7 = .slice 1 [] 8 ∧ s.env 9 = ML l ∧ s.env 10 = .mslice bm 0 n n 1 ∧
      s.loc bm = some (manyL n fun i => cntT p l t k i + (M.take j).count (i : Int)) ∧ s.env 44 = ML l ∧ s.env 45 = I l.length ∧ s.env 46 = I k ∧ s.env 58 = IL M ∧ s.env 59 = I M.length ∧ s.env 60 = I j) ?_ ?_
    · simp [e2, e3, e4, e6, e7, e9, e10, el, e44, e45, e46, hne]
    clear e2 e3 e4 e6 e7 e9 e10 el e44 e45 e46
    rintro j s hj ⟨e2, e3, e4, e6, e7, e9, e10, el, e44, e45, e46, e58, e59, e60⟩
    simp -implicitDefEqProofs [e59, e60]
    refine cond_dec (fun hlt2 => ?_) (fun hge2 => ?_)
    · have hlt2 : j < M.length := by omega
      obtain ⟨x, hx, hxn, _⟩ := hMm (List.getElem_mem hlt2)
      have hct := fun i : Nat => count_take hlt2 (i : Int)
      have hcx : (M.take j).count (x : Int) ≤ j := by
        refine Nat.le_trans List.count_le_length ?_
        simp; omega
      have hkx := hcl x
      have hget := manyL_get (fun i => cntT p l t k i + (M.take j).count (i : Int)) hxn
      have hset := manyL_set n x (fun i => cntT p l t k i + (M.take j).count (i : Int)) (cntT p l t k x + (M.take j).count (x : Int) + 1)
      have hfin : (fun i : Nat => if i = x then cntT p l t k x + (M.take j).count (x : Int) + 1 else cntT p l t k i + (M.take j).count (i : Int)) = fun i : Nat => cntT p l t k i + (M.take (j + 1)).count (i : Int) := by
        funext i
        rw [hct i, hx]
        by_cases hi : i = x
        · subst hi; simp; omega
        · have : ¬ ((x : Int) = (i : Int)) := by omega
          simp [hi, this]
      rw [hfin] at hset
      have hlenL := manyL_len n fun i => cntT p l t k i + (M.take j).count (i : Int)
      obtain ⟨v, hv⟩ : ∃ v : Nat, v = cntT p l t k x + (M.take j).count (x : Int) := ⟨_, rfl⟩
      have hget : (manyL n fun i => cntT p l t k i + (M.take j).count (i : Int))[x]? = some (I v) := by rw [hget, hv]
      rw [← hv] at hset
      have hset : (manyL n fun i => cntT p l t k i + (M.take j).count (i : Int)).set x (I ((v : Int) + 1)) = manyL n fun i => cntT p l t k i + (M.take (j + 1)).count (i : Int) := hset
      obtain ⟨L1, hL1⟩ : ∃ L1, L1 = manyL n fun i : Nat => cntT p l t k i + (M.take (j + 1)).count (i : Int) := ⟨_, rfl⟩
      rw [← hL1] at hset
      generalize (manyL n fun i => cntT p l t k i + (M.take j).count (i : Int)) = L0 at *
      have hxL : x < L0.length := by omega
      have hgetE : L0[x]'hxL = I v := by
        have := List.getElem?_eq_getElem hxL
        rw [hget] at this
        exact (Option.some.inj this).symm
      simp -implicitDefEqProofs [e58, e60, hlt2, e10, el, hx, hxn, hxL, hgetE]
      refine ⟨i64 (by omega) (by omega), by omega, i64 (by omega) (by omega), round_ok hlt2 ⟨by simp [e2], by simp [e3], by simp [e4], by simp [e6], by simp [e7], by simp [e9], by simp [e10], ?_, by simp [e44], by simp [e45], by simp [e46], by simp [e58], by simp [e59], by simp⟩⟩
      rw [← hL1]
      simp [hset]
    · obtain rfl : j = M.length := by omega
      have hfin : (fun i : Nat => cntT p l t k i + (M.take M.length).count (i : Int)) = fun i : Nat => cntT p l t k i + M.count (i : Int) := by funext i; rw [List.take_length]
      rw [hfin] at el
      have hnext : (manyL n fun i => cntT p l t k i + M.count (i : Int)) = manyL n fun i => cntT p l t (k + 1) i := by
        unfold manyL
        apply List.map_congr_left
        intro i hi
        have hi' : i < n := by simpa using hi
        show I ((cntT p l t k i + M.count (i : Int) : Nat) : Int) = I ((cntT p l t (k + 1) i : Nat) : Int)
        rw [hcs i, hcnt i]
        simp [hi']
      rw [hnext] at el
      simp -implicitDefEqProofs [e46]
      exact ⟨i64 (by omega) (by omega), round_ok hlt ⟨by simp [e2], by simp [e3], by simp [e4], by simp [e6], by simp [e7], by simp [e9], by simp [e10], by simp [el], by simp [e44], by simp [e45], by simp⟩⟩
  obtain rfl : k = l.length := by omega
  simp -implicitDefEqProofs [e10]
  have hg2 := fun i (hi : i < n) => manyL_get (fun i => cntT p l t l.length i) hi
  have hlenL := manyL_len n fun i => cntT p l t l.length i
  have hmap := manyL_map n fun i => cntT p l t l.length i
  generalize (manyL n fun i => cntT p l t l.length i) = L0 at *
  refine loop_up n (fun i s => s.env 6 = .slice 1 ((selT (mustQ p l t) i).map I) 7 ∧ s.env 7 = .slice 1 ((selT (mayQ p l t) i).map I) 8 ∧ s.env 9 = ML l ∧ s.env 72 = .mslice bm 0 n n 1 ∧ s.loc bm = some L0 ∧ s.env 73 = I n ∧ s.env 74 = I i) ?_ ?_
  · simp [selT_zero, e6, e7, e9, el]
  clear e2 e3 e4 e6 e7 e9 e10 el e44 e45 e46 hge hk
  rintro i s hi ⟨e6, e7, e9, e72, el, e73, e74⟩
  simp -implicitDefEqProofs [e73, e74]
  refine cond_dec (fun hlt => ?_) (fun hge => ?_)
  · have hlt : i < n := by omega
    have hiL : i < L0.length := by omega
    have hget := hg2 i hlt
    have q1 : mustQ p l t i = decide (cntT p l t l.length i = l.length) := rfl
    have q2 : mayQ p l t i = decide (0 < cntT p l t l.length i) := rfl
    have m1 := hmu i
    have m2 := hma i
    have s1 := @selT_t (mustQ p l t) i
    have s2 := @selT_f (mustQ p l t) i
    have s3 := @selT_t (mayQ p l t) i
    have s4 := @selT_f (mayQ p l t) i
    have hgetE : L0[i]'hiL = I (cntT p l t l.length i : Nat) := by
      have := List.getElem?_eq_getElem hiL
      rw [hget] at this
      exact (Option.some.inj this).symm
    clear hget
    generalize cntT p l t l.length i = cn at *
    simp -implicitDefEqProofs [e9, e72, e74, hlt, el, hiL, hgetE]
    refine cond_cut (fun s => s.env 6 = .slice 1 ((selT (mustQ p l t) (i + 1)).map I) 7 ∧ s.env 7 = .slice 1 ((selT (mayQ p l t) i).map I) 8 ∧ s.env 9 = ML l ∧ s.env 72 = .mslice bm 0 n n 1 ∧ s.loc bm = some L0 ∧ s.env 73 = I n ∧ s.env 74 = I i ∧ s.env 18 = I i ∧ s.env 19 = I cn) ?_ ?_ ?_
    case refine_2 =>
      intro kk hkk he
      have hc : cn = l.length := by simp at he; omega
      have := s1 (by rw [q1]; simp [hc])
      simp -implicitDefEqProofs [e6]
      refine ⟨by omega, by omega, hkk _ ⟨by simp [this], by simp [e7], by simp [e9], by simp [e72], ?_, by simp [e73], by simp [e74], by simp, by simp⟩⟩
      simp [el]
      exact hmap _ fun v => rfl
    case refine_3 =>
      intro kk hkk he
      have hc : ¬ cn = l.length := by simp at he; omega
      have := s2 (by rw [q1]; simp [hc])
      exact hkk _ ⟨by simp [e6, this], by simp [e7], by simp [e9], by simp [e72], by simp [el], by simp [e73], by simp [e74], by simp, by simp⟩
    clear e6 e7 e9 e72 el e73 e74
    rintro s ⟨e6, e7, e9, e72, el, e73, e74, e18, e19⟩
    simp -implicitDefEqProofs [e19]
    by_cases hc : 0 < cn
    · have := s3 (by rw [q2]; simp [hc])
      simp -implicitDefEqProofs [hc, e7, e18, e74]
      refine ⟨by omega, by omega, i64 (by omega) (by omega), round_ok hlt ⟨by simp [e6], by simp [this], by simp [e9], by simp [e72], ?_, by simp [e73], by simp⟩⟩
      simp [el]
      exact hmap _ fun v => rfl
    · have := s4 (by rw [q2]; simp [hc])
      simp -implicitDefEqProofs [hc, e74]
      exact ⟨i64 (by omega) (by omega), round_ok hlt ⟨by simp [e6], by simp [e7, this], by simp [e9], by simp [e72], by simp [el], by simp [e73], by simp⟩⟩
  · obtain rfl : i = n := by omega
    simp -implicitDefEqProofs [e6, e7, r33, hR]
end Go.Proofs.Ytcfeipphmklakaa

namespace Go.Proofs.Ytcfeipphmklakaa
open Go.Avm

theorem bookE_of {p : Prs} {b : Bok} (he : errE p = 0) (h : RightB b) : bookE p b = 0 := by
  have hm : ∀ j < b.marks.length, mE b j = 0 := fun j hj => by
    unfold mE
    rw [dif_pos hj]
    unfold mrkE
    rw [if_pos (h.at_ j hj)]
  have h8 : ¬ 8 < b.marks.length := by have := h.marks; omega
  unfold bookE checkBookE
  have he2 : ¬ (checkE p).2.2 ≠ 0 := not_not_intro he
  rw [if_neg he2, if_neg (not_not_intro h.leaves), if_neg (not_not_intro h.chain), if_neg (not_not_intro h.spans), if_neg h8, firstE_none hm, if_neg (not_not_intro rfl)]

theorem lessL_nil (a : List Int) : lessL a [] = false := by
  unfold lessL
  cases a with
  | nil => rfl
  | cons x a => simp
theorem lessL_of_nil {b : List Int} (h : b ≠ []) : lessL [] b = true := by
  unfold lessL
  cases b with
  | nil => exact (h rfl).elim
  | cons x b => simp

theorem halfM_in (w : List Nat) (l : List Lf) (ms : List Mrk) (s : Int) : halfM w l ms s = 0 ∨ halfM w l ms s = 1 := by
  unfold halfM; split
  · exact .inr rfl
  · exact .inl rfl

/-- If with some half no mark of a sheet is untrue, none is with the chosen one. -/
theorem halfM_nil {w : List Nat} {l : List Lf} {ms : List Mrk} {s h : Int} (hh : h = 0 ∨ h = 1) (hn : selT (untP w l ms s h) 11 = []) : selT (untP w l ms s (halfM w l ms s)) 11 = [] := by
  unfold halfM
  rcases hh with rfl | rfl
  · rw [hn, lessL_nil, if_neg (by simp)]
    exact hn
  · rw [hn]
    by_cases h0 : selT (untP w l ms s 0) 11 = []
    · rw [h0, lessL_nil, if_neg (by simp)]
      exact h0
    · rw [lessL_of_nil h0, if_pos rfl]
      exact hn

def addM (b : Bok) (x : Mrk) : Bok := ⟨b.leaves, b.chain, b.wide, b.high, b.marks ++ [x]⟩

theorem mustQ_iff {p : Prs} {l : List Mk} {t i : Nat} : mustQ p l t i = true ↔ ∀ m ∈ l, mateQ (lvOf p m) t i = true := by
  unfold mustQ cntT
  rw [List.take_length, decide_eq_true_eq]
  exact List.length_filter_eq_length_iff
theorem selT_sub {q r : Nat → Bool} {n : Nat} (h : ∀ i, q i = true → r i = true) {x : Int} (hx : x ∈ selT q n) : x ∈ selT r n := by
  obtain ⟨j, rfl, h1, h2⟩ := selT_mem hx
  exact mem_selT.2 ⟨h1, h j h2⟩
end Go.Proofs.Ytcfeipphmklakaa

namespace Go.Proofs.Ytcfeipphmklakaa
open Go.Avm

def mx (a b : Int) : Int := if b > a then b else a
def mn (a b : Int) : Int := if b < a then b else a

theorem spansE_mk {lo hi : Int} {a b : Spn} (h : (lo ≤ a.lo ∧ a.hi ≤ hi ∧ a.lo ≤ a.hi) ∧ lo ≤ b.lo ∧ b.hi ≤ hi ∧ b.lo ≤ b.hi) : spansE lo hi a b = 0 := by
  have ho : out lo hi [a.lo, a.hi, b.lo, b.hi] = false := by simp [out]; omega
  unfold spansE
  rw [ho, if_neg (by simp), if_neg (by omega)]

/-- A paper that is wider. -/
def pprW (b1 b2 : Int) (q : Ppr) : Ppr := ⟨q.name, ⟨mx 1 (q.wide.lo - b1), mn 2000 (q.wide.hi + b2)⟩, ⟨mx 1 (q.high.lo - b2), mn 2000 (q.high.hi + b1)⟩⟩
def prsW (b0 b1 b2 : Int) (p : Prs) : Prs := ⟨p.fmts, p.pprs.map (pprW b1 b2), mn 60 (p.trim + b0), p.sheets⟩
def bokW (b3 : Int) (b : Bok) : Bok := ⟨b.leaves, b.chain, ⟨mx 0 (b.wide.lo - b3), mn 2000 (b.wide.hi + b3)⟩, ⟨mx 0 (b.high.lo - b3), mn 2000 (b.high.hi + b3)⟩, b.marks⟩

theorem mx_facts (a b : Int) : a ≤ mx a b ∧ b ≤ mx a b ∧ (mx a b = a ∨ mx a b = b) := by unfold mx; split <;> omega
theorem mn_facts (a b : Int) : mn a b ≤ a ∧ mn a b ≤ b ∧ (mn a b = a ∨ mn a b = b) := by unfold mn; split <;> omega

section
variable {b0 b1 b2 b3 : Int} (h0 : 0 ≤ b0) (h1 : 0 ≤ b1) (h2 : 0 ≤ b2) (h3 : 0 ≤ b3)
include h0 h1 h2

include h3
omit h3

omit h0 h1 h2 in
theorem tdiv_mono {a b : Int} {n : Nat} (hn : 1 ≤ n) (ha : 0 ≤ a) (hab : a ≤ b) : a.tdiv n ≤ b.tdiv n := by
  rw [Int.tdiv_eq_ediv_of_nonneg ha, Int.tdiv_eq_ediv_of_nonneg (by omega)]
  exact Int.ediv_le_ediv (by omega) hab
end

theorem size_mono {p : Prs} {m : Mk} (hp : Right p) (hm : RightM p m) {a b a' b' : Int} (ha : 0 ≤ a) (hb : 0 ≤ b) (haa : a ≤ a') (hbb : b ≤ b') :
    (sizeM (codes (foldsOf p m)) a b).1 ≤ (sizeM (codes (foldsOf p m)) a' b').1 ∧ (sizeM (codes (foldsOf p m)) a b).2 ≤ (sizeM (codes (foldsOf p m)) a' b').2 := by
  have ht := times_le _ (foldsOf_mem hp hm)
  have d1 := tdiv_mono ht.1 ha haa
  have d2 := tdiv_mono ht.2.2.1 hb hbb
  unfold sizeM
  split
  · exact ⟨d1, d2⟩
  · exact ⟨d2, d1⟩

theorem selT_len_mono {q r : Nat → Bool} (h : ∀ j, q j = true → r j = true) : ∀ n, (selT q n).length ≤ (selT r n).length
  | 0 => by simp [selT]
  | n + 1 => by
    have ih := selT_len_mono h n
    rw [selT_succ, selT_succ, List.length_append, List.length_append]
    cases hq : q n with
    | true => rw [h n hq]; simp; exact ih
    | false => simp; omega

theorem lessL_len {a b : List Int} : (lessL a b = true → a.length ≤ b.length) ∧ (lessL a b = false → b.length ≤ a.length) := by
  unfold lessL
  split
  · constructor <;> (intro h; simp at h; omega)
  · constructor <;> (intro _; omega)

/-- The best set of some ways of making. -/
def BestOf (p : Prs) (b : Bok) (l : List Mk) : Option Nat → Prop
  | none => ∀ m ∈ l, offB p m b = false
  | some s => (∃ m ∈ l, offB p m b = true ∧ bitsL s = selT (offP p m b) 11) ∧ ∀ m ∈ l, offB p m b = true → (bitsL s).length ≤ (selT (offP p m b) 11).length

theorem bestT_of (p : Prs) (b : Bok) : ∀ k, k ≤ (makesL p).length → BestOf p b ((makesL p).take k) (bestT p b k)
  | 0, _ => by intro m hm; simp at hm
  | k + 1, hk => by
    have ih := bestT_of p b k (by omega)
    have hlt : k < (makesL p).length := by omega
    rw [bestT_succ hlt, take_snoc hlt]
    generalize (makesL p)[k] = m at *
    generalize (makesL p).take k = l at *
    have hbl := bitsL_setOf (offP p m b)
    unfold stepW
    cases ho : offB p m b with
    | false =>
      rw [if_neg (by simp)]
      cases hbt : bestT p b k with
      | none =>
        rw [hbt] at ih
        intro x hx
        rcases List.mem_append.1 hx with hx | hx
        · exact ih x hx
        · rw [List.mem_singleton.1 hx]; exact ho
      | some s =>
        rw [hbt] at ih
        obtain ⟨⟨m', h1, h2, h3⟩, h4⟩ := ih
        refine ⟨⟨m', List.mem_append_left _ h1, h2, h3⟩, fun x hx hx2 => ?_⟩
        rcases List.mem_append.1 hx with hx | hx
        · exact h4 x hx hx2
        · rw [List.mem_singleton.1 hx, ho] at hx2; cases hx2
    | true =>
      rw [if_pos rfl]
      cases hbt : bestT p b k with
      | none =>
        rw [hbt] at ih
        refine ⟨⟨m, by simp, ho, hbl⟩, fun x hx hx2 => ?_⟩
        rcases List.mem_append.1 hx with hx | hx
        · rw [ih x hx] at hx2; cases hx2
        · rw [List.mem_singleton.1 hx, hbl]; exact Nat.le_refl _
      | some s =>
        rw [hbt] at ih
        obtain ⟨⟨m', h1, h2, h3⟩, h4⟩ := ih
        have hll := @lessL_len (bitsL (setOf (offP p m b) 11)) (bitsL s)
        simp only
        cases hle : lessL (bitsL (setOf (offP p m b) 11)) (bitsL s) with
        | true =>
          rw [if_pos rfl]
          have := hll.1 hle
          refine ⟨⟨m, by simp, ho, hbl⟩, fun x hx hx2 => ?_⟩
          rcases List.mem_append.1 hx with hx | hx
          · exact Nat.le_trans this (h4 x hx hx2)
          · rw [List.mem_singleton.1 hx, hbl]; exact Nat.le_refl _
        | false =>
          rw [if_neg (by simp)]
          have := hll.2 hle
          rw [hbl] at this
          refine ⟨⟨m', List.mem_append_left _ h1, h2, h3⟩, fun x hx hx2 => ?_⟩
          rcases List.mem_append.1 hx with hx | hx
          · exact h4 x hx hx2
          · rw [List.mem_singleton.1 hx]; exact this

theorem bestW_of (p : Prs) (b : Bok) : BestOf p b (makesL p) (bestW p b) := by
  have := bestT_of p b (makesL p).length (Nat.le_refl _)
  rwa [List.take_length, bestT_all] at this
end Go.Proofs.Ytcfeipphmklakaa

namespace Go.Proofs.Ytcfeipphmklakaa
open Go.Avm

theorem rdU {pl : Bool} : Rd Try.prog pl 69 U (fun n => 0 ≤ n ∧ n ≤ 65535) := by
  have h : Rd Try.prog true 69 U (fun n => 0 ≤ n ∧ n ≤ 65535) := (Rd.int Try.underlying69).map id (fun _ => rfl) (fun _ h => h)
  cases pl
  · exact h.loose
  · exact h
theorem rdUs : Rd Try.prog false 66 US okU :=
  (Rd.slice Try.underlying66 (of_decide_eq_true (by kernel_rfl)) (by kernel_rfl) rdU).map id (fun _ => rfl) (fun _ h => h.2)

theorem cutC {P : Program} {kn : St → Prop} {ke : Nat → St → Prop} {kr : St → Prop} {s : St} {x y : MCode} {b : Bool} (J : St → Prop) (h : ∀ s', J s' → kn s')
    (hx : ∀ k : St → Prop, (∀ s', J s' → k s') → b = true → mwp P x k ke kr s) (hy : ∀ k : St → Prop, (∀ s', J s' → k s') → b = false → mwp P y k ke kr s) : vCond P kn ke kr s x y (.lit (.bool b)) := ⟨hx kn h, hy kn h⟩
theorem cutS {P : Program} {kn : St → Prop} {ke : Nat → St → Prop} {kr : St → Prop} {s : St} {x y : MCode} (J : St → Prop) (hx : ∀ k : St → Prop, (∀ s', J s' → k s') → mwp P x k ke kr s) (h : ∀ s', J s' → mwp P y kn ke kr s') : mwp P (.seq x y) kn ke kr s := hx _ h

def pw (k : Nat) : Nat := 2 ^ k
def sizeS (w : List Nat) (half : Bool) : Nat := if half then pw w.length / 2 else pw w.length

theorem selT_lt {q : Nat → Bool} {n i j : Nat} (hij : i < j) (hj : j < (selT q n).length) : (selT q n)[i]'(by omega) < (selT q n)[j] := by
  have h : (selT q n).Pairwise (· < ·) := by
    unfold selT
    refine List.Pairwise.map _ (fun a b h => ?_) (List.Pairwise.filter _ List.pairwise_lt_range)
    exact Int.ofNat_lt.2 h
  exact List.pairwise_iff_getElem.1 h i j (by omega) hj hij

theorem selT_mem' {q : Nat → Bool} {n : Nat} {x : Int} (h : x ∈ selT q n) : ∃ j : Nat, x = j ∧ j < n ∧ q j = true := by
  unfold selT at h
  obtain ⟨j, hj, rfl⟩ := List.mem_map.1 h
  obtain ⟨h1, h2⟩ := List.mem_filter.1 hj
  exact ⟨j, rfl, by simpa using h1, h2⟩
theorem mem_selT' {q : Nat → Bool} {n j : Nat} : ((j : Int) ∈ selT q n) ↔ j < n ∧ q j = true := by
  unfold selT
  simp only [List.mem_map, List.mem_filter, List.mem_range]
  constructor
  · rintro ⟨i, ⟨h1, h2⟩, h3⟩
    have : i = j := Int.ofNat_inj.1 h3
    subst this; exact ⟨h1, h2⟩
  · rintro ⟨h1, h2⟩
    exact ⟨j, ⟨h1, h2⟩, rfl⟩

end Go.Proofs.Ytcfeipphmklakaa

namespace Go.Proofs.Ytcfeipphmklakaa
open Go.Avm

theorem tmod_in {a b : Int} (ha : 0 ≤ a) (hb : 0 < b) : 0 ≤ a.tmod b ∧ a.tmod b < b := by
  rw [Int.tmod_eq_emod_of_nonneg ha]
  exact ⟨Int.emod_nonneg _ (by omega), Int.emod_lt_of_pos _ hb⟩

def amongM (s : Spn) (n : Int) : Int := s.lo + n.tmod (s.hi - s.lo + 1)

theorem amongM_in {s : Spn} {n : Int} (hs : s.lo ≤ s.hi) (hn : 0 ≤ n) : s.lo ≤ amongM s n ∧ amongM s n ≤ s.hi := by
  have := tmod_in hn (show 0 < s.hi - s.lo + 1 by omega)
  unfold amongM
  omega

theorem among87_ok (s : Spn) (n : Int) (hs : 0 ≤ s.lo ∧ s.lo ≤ s.hi ∧ s.hi ≤ 2000) (hn : 0 ≤ n ∧ n ≤ 65535) : PCall Try.prog 87 [s.av, I n] (I (amongM s n)) := by
  refine pcall Try.func87 tr87 rs87 fn87 (by simp [Try.ntmps87]) fun hfit => ?_
  have h := amongM_in hs.2.1 hn.1
  obtain ⟨R, hR⟩ : ∃ R, R = amongM s n := ⟨_, rfl⟩
  rw [← hR] at h ⊢
  unfold amongM at hR
  have h0 : ¬ s.hi - s.lo + 1 = 0 := by omega
  simp -implicitDefEqProofs [m87, h0, r87, ← hR]
  exact ⟨i64 (by omega) (by omega), i64 (by omega) (by omega), i64 (by omega) (by omega)⟩

theorem has88_ok {p : Prs} {m : Mk} (hp : Right p) (hm : RightM p m) (i : Nat) (hi : i < (lvOf p m).length) {x : List Int} (hx : okU x) : PCall Try.prog 88 [p.av, m.av, I i, US x] (B (markQ (codes (foldsOf p m)) (lvOf p m) (halvesT x m.sheets.toNat) i)) := by
  refine pcall Try.func88 tr88 rs88 fn88 (by simp [Try.ntmps88]) fun hfit => ?_
  have c1 := all_ok hp hm
  have hsn := sheets_nat hp hm
  have c2 := halves48_ok m hx (by omega)
  have hok := lv_okLf hp hm (List.getElem_mem hi)
  have hhl := halvesT_len x m.sheets.toNat
  obtain ⟨t, ht⟩ : ∃ t : Nat, (lvOf p m)[i].sheet = t := ⟨(lvOf p m)[i].sheet.toNat, by omega⟩
  have htS : t < m.sheets.toNat := by omega
  have hh := halvesT_in hx (k := t) (n := m.sheets.toNat) (by omega)
  have c3 := has_ok hp hm (lvOf p m)[i] ⟨hok.2.2.1, hok.2.2.2.1, hok.2.2.2.2.1, hok.2.2.2.2.2⟩ _ hh
  have hR : markQ (codes (foldsOf p m)) (lvOf p m) (halvesT x m.sheets.toNat) i = markM (codes (foldsOf p m)) (lvOf p m)[i] ((halvesT x m.sheets.toNat)[t]'(by omega)) := by
    unfold markQ
    simp only [List.getD_eq_getElem?_getD, List.getElem?_eq_getElem hi, Option.getD_some, ht, Int.toNat_natCast]
    rw [List.getElem?_eq_getElem (by omega), Option.getD_some]
  have e : (lvOf p m)[i].av = .agg [I t, I (lvOf p m)[i].col, I (lvOf p m)[i].row, B (lvOf p m)[i].inner, B (lvOf p m)[i].turned] := by rw [← ht]
  rw [e] at c3
  rw [hR]
  have htH : t < (halvesT x m.sheets.toNat).length := by omega
  simp -implicitDefEqProofs [m88]
  refine vCall_of c1 ?_
  simp -implicitDefEqProofs [hi]
  intro b
  refine vCall_of c2 ?_
  simp -implicitDefEqProofs [ht, htH]
  refine vCall_of c3 ?_
  simp -implicitDefEqProofs [r88]

/-- ANY way in which a gathering was made, by numbers. -/
structure Past where
  make : List Int
  sizes : List Int
  halves : List Int
  looked : List Int
abbrev Past.cs (x : Past) : List AV := [US x.make, US x.sizes, US x.halves, US x.looked]
abbrev Past.av (x : Past) : AV := .agg x.cs
structure okPast (x : Past) : Prop where
  make : okU x.make
  sizes : okU x.sizes
  halves : okU x.halves
  looked : okU x.looked

def szT (p : Prs) (m : Mk) (x : Past) : Int × Int := sizeM (codes (foldsOf p m)) (amongM (p.pprs.getD m.paper.toNat zPpr).wide (turnM x.sizes 0)) (amongM (p.pprs.getD m.paper.toNat zPpr).high (turnM x.sizes 1))
def wideT (p : Prs) (m : Mk) (x : Past) : Int := mx 0 ((szT p m x).1 - (turnM x.sizes 2).tmod (p.trim + 1))
def highT (p : Prs) (m : Mk) (x : Past) : Int := mx 0 ((szT p m x).2 - (turnM x.sizes 3).tmod (2 * p.trim + 1))
def spanT (v a b : Int) : Spn := ⟨mx 0 (v - a.tmod 9), mn 2000 (v + b.tmod 9)⟩
def chainT (w : List Nat) (a : Int) : Int := if 0 < a.tmod 3 then (if w.getLastD 0 = 120 then 1 else 2) else 0
def leafT (p : Prs) (m : Mk) (x : Past) (i : Nat) : Nat := (turnM x.looked (6 + i)).toNat % (lvOf p m).length
def mrkT (p : Prs) (m : Mk) (x : Past) (nb i : Nat) : Mrk := ⟨leafT p m x i, markQ (codes (foldsOf p m)) (lvOf p m) (halvesT x.halves m.sheets.toNat) (leafT p m x i) != nb.testBit i⟩
def mrksT (p : Prs) (m : Mk) (x : Past) (nb k : Nat) : List Mrk := (List.range k).map (mrkT p m x nb)
theorem mrksT_succ (p : Prs) (m : Mk) (x : Past) (nb k : Nat) : mrksT p m x nb (k + 1) = mrksT p m x nb k ++ [mrkT p m x nb k] := by unfold mrksT; rw [List.range_succ]; simp
theorem mrksT_len (p : Prs) (m : Mk) (x : Past) (nb k : Nat) : (mrksT p m x nb k).length = k := by simp [mrksT]
def toldM (p : Prs) (x : Past) : Mk := madeM p (turnM x.make 0).toNat
def manyT (x : Past) : Nat := ((turnM x.looked 5).tmod 9).toNat
/-- What is seen of a gathering that was made so; marks that are said by bits are told wrong. -/
def toldB (p : Prs) (x : Past) (nb : Nat) : Bok := ⟨(lvOf p (toldM p x)).length, chainT (codes (foldsOf p (toldM p x))) (turnM x.looked 4), spanT (wideT p (toldM p x) x) (turnM x.looked 0) (turnM x.looked 1),
  spanT (highT p (toldM p x) x) (turnM x.looked 2) (turnM x.looked 3), mrksT p (toldM p x) x nb (manyT x)⟩

theorem shr_bit {nb k : Nat} (hk : k ≤ 8) : (((nb : Int).fdiv (2 ^ (min k 8))).tmod 2 == 1) = nb.testBit k := by
  have e : min k 8 = k := by omega
  rw [e]
  obtain ⟨q, hq⟩ : ∃ q, q = nb / 2 ^ k := ⟨_, rfl⟩
  have h1 : (nb : Int).fdiv (2 ^ k) = (q : Int) := by
    rw [hq]
    rw [Int.fdiv_eq_ediv_of_nonneg _ (by exact Int.pow_nonneg (by omega))]
    simp
  rw [h1, Int.tmod_eq_emod_of_nonneg (by omega)]
  have h2 : nb.testBit k = decide (nb / 2 ^ k % 2 = 1) := Nat.testBit_eq_decide_div_mod_eq ..
  rw [h2, ← hq, Bool.eq_iff_iff, decide_eq_true_eq, beq_iff_eq]
  omega

theorem sizeM_in {p : Prs} {m : Mk} (hp : Right p) (hm : RightM p m) {a b A B : Int} (ha : 0 ≤ a ∧ a ≤ A) (hb : 0 ≤ b ∧ b ≤ B) :
    0 ≤ (sizeM (codes (foldsOf p m)) a b).1 ∧ 0 ≤ (sizeM (codes (foldsOf p m)) a b).2 ∧ (sizeM (codes (foldsOf p m)) a b).1 ≤ max A B ∧ (sizeM (codes (foldsOf p m)) a b).2 ≤ max A B := by
  have ht := times_le _ (foldsOf_mem hp hm)
  have h1 : ∀ {a : Int} {n : Nat}, 0 ≤ a → 1 ≤ n → 0 ≤ a.tdiv n ∧ a.tdiv n ≤ a := fun h hn => by
    rw [Int.tdiv_eq_ediv_of_nonneg h]
    exact ⟨Int.ediv_nonneg h (by omega), Int.ediv_le_self _ h⟩
  have h2 := h1 ha.1 ht.1
  have h3 := h1 hb.1 ht.2.2.1
  unfold sizeM
  split <;> (simp only; omega)
end Go.Proofs.Ytcfeipphmklakaa

namespace Go.Proofs.Ytcfeipphmklakaa
open Go.Avm

theorem sel_or_len {q r : Nat → Bool} (h : ∀ j, q j = true → r j = false) : ∀ n, (selT (fun j => q j || r j) n).length = (selT q n).length + (selT r n).length
  | 0 => rfl
  | n + 1 => by
    have ih := sel_or_len h n
    have := h n
    rw [selT_succ, selT_succ, selT_succ, List.length_append, List.length_append, List.length_append, ih]
    cases hq : q n <;> cases hr : r n <;> simp [hq, hr] at this ⊢ <;> omega

def anyS (P : Nat → Nat → Bool) (k j : Nat) : Bool := (List.range k).any fun s => P s j
theorem anyS_succ (P : Nat → Nat → Bool) (k j : Nat) : anyS P (k + 1) j = (anyS P k j || P k j) := by unfold anyS; rw [List.range_succ, List.any_append]; simp
theorem anyS_iff {P : Nat → Nat → Bool} {k j : Nat} : anyS P k j = true ↔ ∃ s, s < k ∧ P s j = true := by
  unfold anyS; rw [List.any_eq_true]
  exact ⟨fun ⟨s, h1, h2⟩ => ⟨s, by simpa using h1, h2⟩, fun ⟨s, h1, h2⟩ => ⟨s, by simpa using h1, h2⟩⟩

/-- Sets that are apart from each other: with each of them no larger, the whole is no larger. -/
theorem anyS_len {P Q : Nat → Nat → Bool} (hP : ∀ s s' j, P s j = true → P s' j = true → s = s') (hQ : ∀ s s' j, Q s j = true → Q s' j = true → s = s') {n : Nat} (h : ∀ s, (selT (P s) n).length ≤ (selT (Q s) n).length) : ∀ k, (selT (anyS P k) n).length ≤ (selT (anyS Q k) n).length
  | 0 => by rw [selT_nil (q := anyS P 0) (fun j _ => rfl)]; simp
  | k + 1 => by
    have ih := anyS_len hP hQ h k
    have e : ∀ {R : Nat → Nat → Bool}, (∀ s s' j, R s j = true → R s' j = true → s = s') → (selT (anyS R (k + 1)) n).length = (selT (anyS R k) n).length + (selT (R k) n).length := fun {R} hR => by
      rw [← sel_or_len (q := anyS R k) (r := R k) (fun j hj => by
        obtain ⟨s, h1, h2⟩ := anyS_iff.1 hj
        cases h3 : R k j with
        | false => rfl
        | true => have := hR s k j h2 h3; omega) n]
      congr 1
      refine selT_congr fun j _ => ?_
      rw [anyS_succ]
    rw [e hP, e hQ]
    have := h k
    omega

theorem untP_one {w : List Nat} {l : List Lf} {ms : List Mrk} {s s' h h' : Int} {j : Nat} (a : untP w l ms s h j = true) (b : untP w l ms s' h' j = true) : s = s' := by
  unfold untP at a b
  rw [Bool.and_eq_true] at a b
  cases hg : ms[j - 3]? with
  | none => rw [hg] at a; cases a.2
  | some q =>
    rw [hg] at a b
    have a2 := a.2
    have b2 := b.2
    simp only [Bool.and_eq_true, beq_iff_eq] at a2 b2
    rw [← a2.1, ← b2.1]

theorem halfM_len (w : List Nat) (l : List Lf) (ms : List Mrk) (s : Int) {h : Int} (hh : h = 0 ∨ h = 1) : (selT (untP w l ms s (halfM w l ms s)) 11).length ≤ (selT (untP w l ms s h) 11).length := by
  have hll := @lessL_len (selT (untP w l ms s 1) 11) (selT (untP w l ms s 0) 11)
  unfold halfM
  cases hl : lessL (selT (untP w l ms s 1) 11) (selT (untP w l ms s 0) 11) with
  | true =>
    have := hll.1 hl
    rw [if_pos rfl]
    rcases hh with rfl | rfl
    · exact this
    · exact Nat.le_refl _
  | false =>
    have := hll.2 hl
    rw [if_neg (by simp)]
    rcases hh with rfl | rfl
    · exact Nat.le_refl _
    · exact this

/-- With ANY halves no fewer marks are untrue. -/
theorem shP_len (w : List Nat) (l : List Lf) (ms : List Mrk) (S : Nat) {hs : Nat → Int} (hh : ∀ s, hs s = 0 ∨ hs s = 1) : (selT (shP w l ms S) 11).length ≤ (selT (anyS (fun s j => untP w l ms s (hs s) j) S) 11).length :=
  anyS_len (P := fun s j => untP w l ms s (halfM w l ms s) j) (Q := fun s j => untP w l ms s (hs s) j) (fun s s' j a b => Int.ofNat_inj.1 (untP_one a b)) (fun s s' j a b => Int.ofNat_inj.1 (untP_one a b)) (fun s => halfM_len w l ms s (hh s)) S

/-- How many marks are said by bits. -/
def cntB (nb k : Nat) : Nat := ((List.range k).filter fun i => nb.testBit i).length
theorem cntB_succ (nb k : Nat) : cntB nb (k + 1) = cntB nb k + if nb.testBit k then 1 else 0 := by
  unfold cntB; rw [List.range_succ, List.filter_append, List.length_append]
  cases h : nb.testBit k <;> simp [h]

theorem bit_len (nb K : Nat) : ∀ n, (selT (fun j => decide (3 ≤ j) && (decide (j < 3 + K) && nb.testBit (j - 3))) (3 + n)).length ≤ cntB nb (min n K)
  | 0 => by
    rw [selT_nil (n := 3 + 0) fun j hj => by
      have : ¬ 3 ≤ j := by omega
      simp [this]]
    simp
  | n + 1 => by
    have ih := bit_len nb K n
    rw [show 3 + (n + 1) = (3 + n) + 1 from rfl, selT_succ, List.length_append]
    by_cases hn : n < K
    · rw [show min (n + 1) K = min n K + 1 by omega, cntB_succ, show min n K = n by omega] at *
      have e : 3 + n - 3 = n := by omega
      have e2 : 3 + n < 3 + K := by omega
      simp only [e, e2, decide_true, Bool.true_and, show 3 ≤ 3 + n by omega]
      cases nb.testBit n <;> simp <;> omega
    · have e2 : ¬ 3 + n < 3 + K := by omega
      rw [show min (n + 1) K = min n K by omega]
      simp only [e2, decide_false, Bool.false_and, Bool.and_false]
      simpa using ih

section
variable {p : Prs} (he : errE p = 0) {x : Past} (hx : okPast x) (nb : Nat)
include he

theorem toldM_mem : toldM p x ∈ makesL p := by
  have hl := makes_ne he
  unfold toldM madeM
  have hlt : (turnM x.make 0).toNat % (makesL p).length < (makesL p).length := Nat.mod_lt _ (by omega)
  rw [List.getD_eq_getElem?_getD, List.getElem?_eq_getElem hlt, Option.getD_some]
  exact List.getElem_mem _

include hx
theorem told_facts {m : Mk} (hm : RightM p m) : (1 ≤ (lvOf p m).length ∧ (lvOf p m).length ≤ 64) ∧ 0 ≤ wideT p m x ∧ wideT p m x ≤ 2000 ∧ 0 ≤ highT p m x ∧ highT p m x ≤ 2000 ∧
    wideP (codes (foldsOf p m)) (p.pprs.getD m.paper.toNat zPpr) p.trim ⟨0, 0, spanT (wideT p m x) (turnM x.looked 0) (turnM x.looked 1), ⟨0, 0⟩, []⟩ = false ∧
    highP (codes (foldsOf p m)) (p.pprs.getD m.paper.toNat zPpr) p.trim ⟨0, 0, ⟨0, 0⟩, spanT (highT p m x) (turnM x.looked 2) (turnM x.looked 3), []⟩ = false := by
  have hp := right_of he
  have hlen := lv_len hp hm
  have hpp := hm.ppr
  obtain ⟨g, hg⟩ : ∃ g : Nat, m.paper = g := ⟨m.paper.toNat, by omega⟩
  have hgl : g < p.pprs.length := by omega
  have hw := spansE_zero (hp.wide g hgl)
  have hq : p.pprs.getD m.paper.toNat zPpr = p.pprs[g] := by rw [hg, Int.toNat_natCast, List.getD_eq_getElem?_getD, List.getElem?_eq_getElem hgl, Option.getD_some]
  unfold wideT highT szT wideP highP metM
  rw [hq]
  generalize p.pprs[g] = q at *
  have a1 := amongM_in hw.1.2.2 (turnM_ok hx.sizes 0).1
  have a2 := amongM_in hw.2.2.2 (turnM_ok hx.sizes 1).1
  have tr := hp.trim
  have t2 := tmod_in (turnM_ok hx.sizes 2).1 (show 0 < p.trim + 1 by omega)
  have t3 := tmod_in (turnM_ok hx.sizes 3).1 (show 0 < 2 * p.trim + 1 by omega)
  have l0 := tmod_in (turnM_ok hx.looked 0).1 (show (0 : Int) < 9 by omega)
  have l1 := tmod_in (turnM_ok hx.looked 1).1 (show (0 : Int) < 9 by omega)
  have l2 := tmod_in (turnM_ok hx.looked 2).1 (show (0 : Int) < 9 by omega)
  have l3 := tmod_in (turnM_ok hx.looked 3).1 (show (0 : Int) < 9 by omega)
  have s1 := size_mono hp hm (a := q.wide.lo) (b := q.high.lo) (a' := amongM q.wide (turnM x.sizes 0)) (b' := amongM q.high (turnM x.sizes 1)) (by omega) (by omega) a1.1 a2.1
  have s2 := size_mono hp hm (a := amongM q.wide (turnM x.sizes 0)) (b := amongM q.high (turnM x.sizes 1)) (a' := q.wide.hi) (b' := q.high.hi) (by omega) (by omega) a1.2 a2.2
  have s3 := sizeM_in hp hm (a := q.wide.lo) (b := q.high.lo) (A := 2000) (B := 2000) (by omega) (by omega)
  have s4 := sizeM_in hp hm (a := q.wide.hi) (b := q.high.hi) (A := 2000) (B := 2000) (by omega) (by omega)
  generalize amongM q.wide (turnM x.sizes 0) = aw at *
  generalize amongM q.high (turnM x.sizes 1) = ah at *
  generalize sizeM (codes (foldsOf p m)) aw ah = z at *
  generalize sizeM (codes (foldsOf p m)) q.wide.lo q.high.lo = zl at *
  generalize sizeM (codes (foldsOf p m)) q.wide.hi q.high.hi = zh at *
  generalize (turnM x.sizes 2).tmod (p.trim + 1) = u2 at *
  generalize (turnM x.sizes 3).tmod (2 * p.trim + 1) = u3 at *
  unfold spanT
  generalize (turnM x.looked 0).tmod 9 = v0 at *
  generalize (turnM x.looked 1).tmod 9 = v1 at *
  generalize (turnM x.looked 2).tmod 9 = v2 at *
  generalize (turnM x.looked 3).tmod 9 = v3 at *
  have hmax : max (2000 : Int) 2000 = 2000 := by omega
  rw [hmax] at s3 s4
  have m1 := mx_facts 0 (z.1 - u2)
  have m2 := mx_facts 0 (z.2 - u3)
  generalize mx 0 (z.1 - u2) = W at *
  generalize mx 0 (z.2 - u3) = H at *
  have m3 := mx_facts 0 (W - v0)
  have m4 := mn_facts 2000 (W + v1)
  have m5 := mx_facts 0 (H - v2)
  have m6 := mn_facts 2000 (H + v3)
  refine ⟨by omega, by omega, by omega, by omega, by omega, ?_, ?_⟩
  · have h1 : zl.1 - p.trim ≤ mn 2000 (W + v1) := by omega
    have h2 : mx 0 (W - v0) ≤ zh.1 := by omega
    simp [h1, h2]
  · have h1 : zl.2 - 2 * p.trim ≤ mn 2000 (H + v3) := by omega
    have h2 : mx 0 (H - v2) ≤ zh.2 := by omega
    simp [h1, h2]

def hsT (p : Prs) (x : Past) (s : Nat) : Int := (halvesT x.halves (toldM p x).sheets.toNat).getD s 0
omit he in
theorem hsT_in (s : Nat) : hsT p x s = 0 ∨ hsT p x s = 1 := by
  unfold hsT
  rw [List.getD_eq_getElem?_getD]
  by_cases h : s < (halvesT x.halves (toldM p x).sheets.toNat).length
  · rw [List.getElem?_eq_getElem h, Option.getD_some]
    have := halvesT_in hx.halves h
    omega
  · rw [List.getElem?_eq_none (by omega)]; exact .inl rfl

omit he hx in
theorem untP_told {s : Nat} {j : Nat} (h : untP (codes (foldsOf p (toldM p x))) (lvOf p (toldM p x)) (mrksT p (toldM p x) x nb (manyT x)) s (hsT p x s) j = true) : (decide (3 ≤ j) && (decide (j < 3 + manyT x) && nb.testBit (j - 3))) = true := by
  unfold untP at h
  rw [Bool.and_eq_true] at h
  obtain ⟨h3, h⟩ := h
  have h3' := of_decide_eq_true h3
  have hget : (mrksT p (toldM p x) x nb (manyT x))[j - 3]? = if j - 3 < manyT x then some (mrkT p (toldM p x) x nb (j - 3)) else none := by
    unfold mrksT
    rw [List.getElem?_map]
    by_cases hj : j - 3 < manyT x
    · rw [List.getElem?_range hj, if_pos hj]; rfl
    · rw [List.getElem?_eq_none (by simpa using hj), if_neg hj]; rfl
  rw [hget] at h
  by_cases hj : j - 3 < manyT x
  · rw [if_pos hj] at h
    simp only [mrkT, markQ, Int.toNat_natCast, Bool.and_eq_true, beq_iff_eq] at h
    obtain ⟨h1, h2⟩ := h
    rw [h1, Int.toNat_natCast] at h2
    have h4 : j < 3 + manyT x := by omega
    rw [h3, decide_eq_true h4, Bool.true_and, Bool.true_and]
    unfold hsT at h2
    revert h2
    generalize markM (codes (foldsOf p (toldM p x))) ((lvOf p (toldM p x)).getD (leafT p (toldM p x) x (j - 3)) zLf) ((halvesT x.halves (toldM p x).sheets.toNat).getD s 0) = u
    cases u <;> cases nb.testBit (j - 3) <;> simp
  · rw [if_neg hj] at h; cases h

omit hx in
theorem toldM_right : RightM p (toldM p x) := mk_right he (toldM_mem he (x := x))

omit he in
theorem many_le : manyT x ≤ 8 := by
  have := tmod_in (turnM_ok hx.looked 5).1 (show (0 : Int) < 9 by omega)
  unfold manyT
  omega

theorem rightB_told : RightB (toldB p x nb) := by
  have hm := toldM_right he (x := x)
  obtain ⟨f1, f2, f3, f4, f5, _, _⟩ := told_facts he hx hm
  have hK := many_le hx
  refine ⟨?_, ?_, ?_, ?_, fun i hi => ?_⟩
  · show 1 ≤ ((lvOf p (toldM p x)).length : Int) ∧ ((lvOf p (toldM p x)).length : Int) ≤ 64
    omega
  · show 0 ≤ chainT _ _ ∧ chainT _ _ ≤ 2
    unfold chainT
    split
    · split <;> omega
    · omega
  · show spansE 0 2000 (spanT _ _ _) (spanT _ _ _) = 0
    have l0 := tmod_in (turnM_ok hx.looked 0).1 (show (0 : Int) < 9 by omega)
    have l1 := tmod_in (turnM_ok hx.looked 1).1 (show (0 : Int) < 9 by omega)
    have l2 := tmod_in (turnM_ok hx.looked 2).1 (show (0 : Int) < 9 by omega)
    have l3 := tmod_in (turnM_ok hx.looked 3).1 (show (0 : Int) < 9 by omega)
    refine spansE_mk ?_
    unfold spanT
    have m3 := mx_facts 0 (wideT p (toldM p x) x - (turnM x.looked 0).tmod 9)
    have m4 := mn_facts 2000 (wideT p (toldM p x) x + (turnM x.looked 1).tmod 9)
    have m5 := mx_facts 0 (highT p (toldM p x) x - (turnM x.looked 2).tmod 9)
    have m6 := mn_facts 2000 (highT p (toldM p x) x + (turnM x.looked 3).tmod 9)
    simp only
    omega
  · show (mrksT _ _ _ _ _).length ≤ 8
    rw [mrksT_len]; exact hK
  · have hi' : i < manyT x := by
      have : (toldB p x nb).marks.length = manyT x := mrksT_len ..
      omega
    have e : (toldB p x nb).marks[i].leaf = (leafT p (toldM p x) x i : Int) := by
      have h0 : ((mrksT p (toldM p x) x nb (manyT x))[i]'(by rw [mrksT_len]; exact hi')).leaf = (leafT p (toldM p x) x i : Int) := by simp [mrksT, mrkT]
      exact h0
    rw [e]
    have : leafT p (toldM p x) x i < (lvOf p (toldM p x)).length := Nat.mod_lt _ (by omega)
    show _ ∧ _ ≤ ((lvOf p (toldM p x)).length : Int) - 1
    omega

omit he hx in
theorem offB_told : offB p (toldM p x) (toldB p x nb) = true := by unfold offB toldB; simp

/-- No more pieces are wrong than are told so. -/
theorem off_told : (selT (offP p (toldM p x) (toldB p x nb)) 11).length ≤ cntB nb (manyT x) := by
  have hm := toldM_right he (x := x)
  obtain ⟨_, _, _, _, _, f6, f7⟩ := told_facts he hx hm
  have hK := many_le hx
  have hoff : ∀ j, offP p (toldM p x) (toldB p x nb) j = shP (codes (foldsOf p (toldM p x))) (lvOf p (toldM p x)) (mrksT p (toldM p x) x nb (manyT x)) (toldM p x).sheets.toNat j := fun j => by
    have hb : baseP (codes (foldsOf p (toldM p x))) (p.pprs.getD (toldM p x).paper.toNat zPpr) p.trim (toldB p x nb) j = false := by
      match j with
      | 0 =>
        show chainP _ _ = false
        unfold chainP
        have : (toldB p x nb).chain = chainT (codes (foldsOf p (toldM p x))) (turnM x.looked 4) := rfl
        rw [this]
        unfold chainT
        split <;> simp
      | 1 => exact f6
      | 2 => exact f7
      | j + 3 => rfl
    unfold offP offW
    rw [hb, Bool.false_or]
    rfl
  have e : selT (offP p (toldM p x) (toldB p x nb)) 11 = selT (shP (codes (foldsOf p (toldM p x))) (lvOf p (toldM p x)) (mrksT p (toldM p x) x nb (manyT x)) (toldM p x).sheets.toNat) 11 := selT_congr fun j _ => hoff j
  rw [e]
  refine Nat.le_trans (shP_len _ _ _ _ (hsT_in (p := p) hx)) ?_
  refine Nat.le_trans (selT_len_mono (r := fun j => decide (3 ≤ j) && (decide (j < 3 + manyT x) && nb.testBit (j - 3))) (fun j hj => ?_) 11) ?_
  · obtain ⟨s, _, h2⟩ := anyS_iff.1 hj
    exact untP_told nb h2
  · have := bit_len nb (manyT x) 8
    rwa [show min 8 (manyT x) = manyT x by omega] at this
end
end Go.Proofs.Ytcfeipphmklakaa

namespace Go.Proofs.Ytcfeipphmklakaa
open Go.Avm

theorem good49_ok (p : Prs) (b : Bok) : PCall Try.prog 49 [p.av, b.av] (B (bookE p b == 0)) := by
  refine pcall Try.func49 tr49 rs49 fn49 (by simp [Try.ntmps49]) fun hfit => ?_
  have c := checkBookR_ok p b
  unfold bookE
  generalize checkBookE p b = e at *
  simp -implicitDefEqProofs [m49]
  refine vCall_of c ?_
  simp -implicitDefEqProofs [r49]

theorem eqCells_mk (x y : Mk) : eqCells [false, false, false, true] [I x.format, I x.paper, I x.sheets, B x.half] [I y.format, I y.paper, I y.sheets, B y.half] = some (decide (x = y)) := by
  obtain ⟨a, b, c, d⟩ := x
  obtain ⟨a', b', c', d'⟩ := y
  simp only [eqCells, if_true, Option.map_some, Mk.mk.injEq, Option.some.injEq]
  by_cases h1 : a = a' <;> by_cases h2 : b = b' <;> by_cases h3 : c = c' <;> by_cases h4 : d = d' <;> simp [h1, h2, h3, h4]

theorem one44_ok (l : List Mk) (m : Mk) : PCall Try.prog 44 [ML l, m.av] (B (decide (m ∈ l))) := by
  refine pcall Try.func44 tr44 rs44 fn44 (by simp [Try.ntmps44]) fun hfit => ?_
  have hl := fits_len (hfit 0)
  simp only [List.length_map] at hl
  simp -implicitDefEqProofs [m44]
  refine loop_up l.length (fun k s => s.env 0 = ML l ∧ s.env 3 = .ref m.cs ∧ s.env 5 = I k ∧ ∀ x ∈ l.take k, x ≠ m) ?_ ?_
  · simp
  · rintro k s hk ⟨e0, e3, e5, hno⟩
    simp -implicitDefEqProofs [e0, e5]
    refine cond_dec (fun hlt => ?_) (fun hge => ?_)
    · have hlt : k < l.length := by omega
      simp -implicitDefEqProofs [e0, e3, e5, hlt, -eqCells, eqCells_mk]
      refine cond_dec (fun hx => ?_) (fun hx => ?_)
      · have hm : m ∈ l := by rw [← hx]; exact List.getElem_mem _
        simp -implicitDefEqProofs [r44, hm]
      · simp -implicitDefEqProofs [e5]
        refine ⟨i64 (by omega) (by omega), round_ok hlt ⟨by simp [e0], by simp [e3], by simp, fun x hx' => ?_⟩⟩
        rw [take_snoc hlt, List.mem_append, List.mem_singleton] at hx'
        rcases hx' with hx' | rfl
        · exact hno x hx'
        · exact hx
    · obtain rfl : k = l.length := by omega
      rw [List.take_length] at hno
      have hm : m ∉ l := fun h => hno m h rfl
      simp -implicitDefEqProofs [r44, hm]

theorem part45_ok (a b : List Int) (h : ∀ x ∈ a, x ∈ b) : PCall Try.prog 45 [IL a, IL b] (B true) := by
  refine pcall Try.func45 tr45 rs45 fn45 (by simp [Try.ntmps45]) fun hfit => ?_
  have hl := fits_len (hfit 0)
  simp only [List.length_map] at hl
  simp -implicitDefEqProofs [m45]
  refine loop_up a.length (fun k s => s.env 0 = IL a ∧ s.env 1 = IL b ∧ s.env 5 = I k) ?_ ?_
  · simp
  · rintro k s hk ⟨e0, e1, e5⟩
    simp -implicitDefEqProofs [e0, e5]
    refine cond_dec (fun hlt => ?_) (fun hge => ?_)
    · have hlt : k < a.length := by omega
      have c := has47_ok b a[k]
      rw [decide_eq_true (h _ (List.getElem_mem hlt))] at c
      simp -implicitDefEqProofs [e0, e1, e5, hlt]
      refine vCall_of c ?_
      simp -implicitDefEqProofs [e5]
      exact ⟨i64 (by omega) (by omega), round_ok hlt ⟨by simp [e0], by simp [e1], by simp⟩⟩
    · simp -implicitDefEqProofs [r45]
end Go.Proofs.Ytcfeipphmklakaa

