/- Agree and Wrong, of the program and of the reference. Wrong, of the program and of the reference. Together, of the program and of the reference. -/
import Derived.Test.YtcfeipphmklakaaFG
import Derived.Test.YtcfeipphmklakaaKT104
import Derived.Test.YtcfeipphmklakaaKT102
namespace Go.Proofs.Ytcfeipphmklakaa
open Go.Avm

def vStoreNilL (P : Program) (ms : List MOp) (K : St → Prop) (s : St) (b off sz oid : Nat) : Option (List AV) → Prop
  | some cs => off < cs.length ∧ vcs P ms K ((s.dem oid).new b ((cs.map (demote oid)).set off (.slice sz [] oid)))
  | none => False
def vStoreNil (P : Program) (ms : List MOp) (K : St → Prop) (s : St) (sz oid : Nat) : AV → Prop
  | .mref b off => vStoreNilL P ms K s b off sz oid (s.loc b)
  | _ => False
theorem v_storeNil (P : Program) (ms : List MOp) (K : St → Prop) (s : St) (x : MArg) (sz oid : Nat) : vcs P (.storeNil x sz oid :: ms) K s = vStoreNil P ms K s sz oid (x.ev s.env) := by
  unfold vStoreNil vStoreNilL; rfl
attribute [simp] v_storeNil vStoreNil vStoreNilL

theorem h104 (n : Nat) (h : n < 2048) : PCall Try.prog 104 [.lit (.int .u64 n)] (I (lenM n : Nat)) := chk104_ok (chk104_all h)
theorem h102 (n : Nat) (h : n < 2048) : PCall Try.prog 102 [.lit (.int .u64 n)] (I (bitsL n).length) := chk102_ok (chk102_all h)

theorem makes77_ok (p : Prs) : PCall Try.prog 77 [p.av] (.func (.func 98) [] [PRef p]) := by
  refine pcall Try.func77 tr77 rs77 fn77 (by simp [Try.ntmps77]) fun hfit => ?_
  simp -implicitDefEqProofs [m77, r77]

def bookE (p : Prs) (b : Bok) : Int := (checkBookE p b).2.2

theorem look76_ok (p : Prs) (b : Bok) : PCall Try.prog 76 [p.av, b.av] (.tuple [p.av, I (bookE p b)]) := by
  refine pcall Try.func76 tr76 rs76 fn76 (by simp [Try.ntmps76]) fun hfit => ?_
  have c := checkBook_ok p b
  unfold bookE
  generalize checkBookE p b = e at *
  simp -implicitDefEqProofs [m76]
  intro b4
  refine vCall_of c ?_
  simp -implicitDefEqProofs [r76]

theorem alike_ok (a : List Mk) : PCall Try.prog 32 [ML a, ML a] (B true) := by
  refine pcall Try.func32 tr32 rs32 fn32 (by simp [Try.ntmps32]) fun hfit => ?_
  have hl := fits_len (hfit 0)
  simp only [List.length_map] at hl
  simp -implicitDefEqProofs [m32]
  refine loop_up a.length (fun k s => s.env 0 = ML a ∧ s.env 1 = ML a ∧ s.env 5 = I k) ?_ ?_
  · simp
  · rintro k s hk ⟨e0, e1, e5⟩
    simp -implicitDefEqProofs [e0, e5]
    refine cond_dec (fun hlt => ?_) (fun hge => ?_)
    · have hlt : k < a.length := by omega
      simp -implicitDefEqProofs [e0, e1, e5, hlt]
      exact ⟨i64 (by omega) (by omega), round_ok hlt ⟨by simp [e0], by simp [e1], by simp⟩⟩
    · simp -implicitDefEqProofs [r32]

theorem setOf_zero {q : Nat → Bool} {n : Nat} : setOf q n = 0 ↔ ∀ j < n, q j = false := by
  constructor
  · intro h j hj
    have := setOf_bit q n j
    rw [h] at this
    simpa [hj] using this.symm
  · exact setOf_nil
theorem selT_zero_iff {q : Nat → Bool} {n : Nat} : (selT q n).length = 0 ↔ ∀ j < n, q j = false := by
  constructor
  · intro h j hj
    cases hq : q j with
    | false => rfl
    | true =>
      have := mem_selT.2 ⟨hj, hq⟩
      rw [List.length_eq_zero_iff.1 h] at this
      cases this
  · intro h; rw [selT_nil h]; rfl

/-- Whether a set is empty. -/
def emptyP (q : Nat → Bool) : Bool := (List.range 11).all fun j => !q j
theorem emptyP_iff {q : Nat → Bool} : emptyP q = true ↔ ∀ j < 11, q j = false := by
  unfold emptyP
  rw [List.all_eq_true]
  constructor
  · intro h j hj; simpa using h j (by simpa using hj)
  · intro h j hj; simp [h j (by simpa using hj)]

/-- Whether a way of making agrees. -/
def fits (p : Prs) (b : Bok) (m : Mk) : Bool := offB p m b && emptyP (offP p m b)

/-- All ways of making that agree. -/
def fitL (p : Prs) (b : Bok) : List Mk := (makesL p).filter (fits p b)
def fitT (p : Prs) (b : Bok) (k : Nat) : List Mk := ((makesL p).take k).filter (fits p b)
theorem fitT_t {p : Prs} {b : Bok} {k : Nat} (hk : k < (makesL p).length) (h : fits p b (makesL p)[k] = true) : fitT p b (k + 1) = fitT p b k ++ [(makesL p)[k]] := by
  unfold fitT; rw [take_snoc hk, List.filter_append]; simp [h]
theorem fitT_f {p : Prs} {b : Bok} {k : Nat} (hk : k < (makesL p).length) (h : fits p b (makesL p)[k] = false) : fitT p b (k + 1) = fitT p b k := by
  unfold fitT; rw [take_snoc hk, List.filter_append]; simp [h]
theorem fitT_len (p : Prs) (b : Bok) (k : Nat) : (fitT p b k).length ≤ k := by
  unfold fitT
  exact Nat.le_trans (List.length_filter_le _ _) (by simp; omega)
theorem fitT_all (p : Prs) (b : Bok) : fitT p b (makesL p).length = fitL p b := by unfold fitT fitL; rw [List.take_length]

/-- What Agree returns. -/
def agreeR (p : Prs) (b : Bok) : List Mk × Int := if bookE p b ≠ 0 then ([], bookE p b) else (fitL p b, 0)

theorem mk_right {p : Prs} (he : errE p = 0) {m : Mk} (hm : m ∈ makesL p) : RightM p m := rightM_of (enterE_zero (makes_ok hm)).2

theorem fit79_ok (p : Prs) (b : Bok) (he : errE p = 0) (hb : RightB b) : PCall Try.prog 79 [p.av, b.av] (ML (fitL p b)) := by
  refine pcall Try.func79 tr79 rs79 fn79 (by simp [Try.ntmps79]) fun hfit => ?_
  have hp := right_of he
  have c1 := makes82_ok p hp
  have hl := makes_len hp
  have hr : ∀ m ∈ makesL p, RightM p m := fun m hm => mk_right he hm
  have c2 : ∀ m ∈ makesL p, _ := fun m hm => off83_ok hp (hr m hm) b hb
  have hfl := fitT_len p b
  have hft := @fitT_t p b
  have hff := @fitT_f p b
  rw [← fitT_all]
  have h0 : fitT p b 0 = [] := rfl
  generalize fitT p b = ft at *
  generalize makesL p = l at *
  simp -implicitDefEqProofs [m79]
  refine vCall_of c1 ?_
  simp -implicitDefEqProofs
  refine loop_up l.length (fun k s => s.env 2 = PRef p ∧ s.env 3 = BRef b ∧ s.env 5 = ML l ∧ s.env 6 = .slice 4 ((ft k).map Mk.av) 7 ∧ s.env 7 = I k) ?_ ?_
  · simp [h0]
  rintro k s hk ⟨e2, e3, e5, e6, e7⟩
  simp -implicitDefEqProofs [e5, e7]
  refine cond_dec (fun hlt => ?_) (fun hge => ?_)
  · have hlt : k < l.length := by omega
    have c3 := c2 l[k] (List.getElem_mem hlt)
    have hkl := hfl k
    have ht := hft hlt
    have hf := hff hlt
    unfold fits at ht hf
    simp -implicitDefEqProofs [e2, e3, e5, e7, hlt]
    generalize hq : offP p l[k] b = q at *
    generalize offB p l[k] b = ob at *
    refine vCall_of c3 ?_
    cases ob with
    | false =>
      have := hf (by simp)
      simp -implicitDefEqProofs [e7]
      exact ⟨i64 (by omega) (by omega), round_ok hlt ⟨by simp [e2], by simp [e3], by simp [e5], by simp [e6, this], by simp⟩⟩
    | true =>
      simp -implicitDefEqProofs
      refine cond_bool (fun he => ?_) (fun he => ?_)
      · have hz : emptyP q = true := emptyP_iff.2 (selT_zero_iff.1 (by simpa using he))
        have := ht (by simpa using hz)
        simp -implicitDefEqProofs [e5, e6, e7, hlt]
        exact ⟨by omega, by omega, i64 (by omega) (by omega), round_ok hlt ⟨by simp [e2], by simp [e3], by simp [e5], by simp [this], by simp⟩⟩
      · have hz : emptyP q = false := by
          cases h : emptyP q with
          | false => rfl
          | true =>
            have := selT_zero_iff.2 (emptyP_iff.1 h)
            simp [this] at he
        have := hf (by simpa using hz)
        simp -implicitDefEqProofs [e7]
        exact ⟨i64 (by omega) (by omega), round_ok hlt ⟨by simp [e2], by simp [e3], by simp [e5], by simp [e6, this], by simp⟩⟩
  · obtain rfl : k = l.length := by omega
    simp -implicitDefEqProofs [e6, r79]

theorem agree31_ok (p : Prs) (b : Bok) : PCall Try.prog 31 [p.av, b.av] (.tuple [ML (agreeR p b).1, I (agreeR p b).2]) := by
  refine pcall Try.func31 tr31 rs31 fn31 (by simp [Try.ntmps31]) fun hfit => ?_
  have c1 := checkBookR_ok p b
  have c2 : bookE p b = 0 → PCall Try.prog 79 [p.av, b.av] (ML (fitL p b)) := fun h => fit79_ok p b (rightB_of h).1 (rightB_of h).2
  obtain ⟨R, hR⟩ : ∃ R, R = agreeR p b := ⟨_, rfl⟩
  rw [← hR]
  unfold agreeR at hR
  unfold bookE at *
  generalize checkBookE p b = e at *
  generalize fitL p b = l at *
  simp -implicitDefEqProofs [m31]
  refine vCall_of c1 ?_
  simp -implicitDefEqProofs
  refine cond_bool (fun he => ?_) (fun he => ?_)
  · have h0 : e.2.2 ≠ 0 := by simpa using he
    rw [if_pos h0] at hR
    simp -implicitDefEqProofs [r31, hR]
  · have h0 : e.2.2 = 0 := by simpa using he
    rw [if_neg (not_not_intro h0)] at hR
    simp -implicitDefEqProofs
    refine vCall_of (c2 h0) ?_
    simp -implicitDefEqProofs [r31, hR]

theorem agree30_ok (p : Prs) (b : Bok) : PCall Try.prog 30 [p.av, b.av] (.tuple [ML (agreeR p b).1, I (agreeR p b).2]) := by
  refine pcall Try.func30 tr30 rs30 fn30 (by simp [Try.ntmps30]) fun hfit => ?_
  have c1 := look76_ok p b
  have c0 := makes77_ok p
  have hgood : bookE p b = 0 → errE p = 0 ∧ RightB b := rightB_of
  obtain ⟨R, hR⟩ : ∃ R, R = agreeR p b := ⟨_, rfl⟩
  rw [← hR]
  unfold agreeR at hR
  generalize bookE p b = e at *
  simp -implicitDefEqProofs [m30]
  intro b4
  refine vCall_of c1 ?_
  simp -implicitDefEqProofs
  intro b6 hb6
  refine cond_bool (fun he => ?_) (fun he => ?_)
  · have h0 : e ≠ 0 := by simpa using he
    rw [if_pos h0] at hR
    have h46 : ¬ b4 = b6 := fun h => hb6 h.symm
    simp -implicitDefEqProofs [r30, hR, hb6, h46]
  have h0 : e = 0 := by simpa using he
  rw [if_neg (not_not_intro h0)] at hR
  obtain ⟨hp0, hb⟩ := hgood h0
  have hp := right_of hp0
  have hl := makes_len hp
  have hr : ∀ m ∈ makesL p, RightM p m := fun m hm => mk_right hp0 hm
  have c2 : ∀ m ∈ makesL p, _ := fun m hm => off78_ok h104 h102 hp (hr m hm) b hb
  have hfl := fitT_len p b
  have hft := @fitT_t p b
  have hff := @fitT_f p b
  have hse := makes98_ok p hp0
  rw [← fitT_all] at hR
  have h0 : fitT p b 0 = [] := rfl
  generalize fitT p b = ft at *
  generalize makesL p = l at *
  have h46 : ¬ b4 = b6 := fun h => hb6 h.symm
  simp -implicitDefEqProofs
  refine vCall_of c0 ?_
  simp -implicitDefEqProofs
  refine range_of _ (fun k st => st.env 3 = BRef b ∧ st.env 4 = .mref b4 0 ∧ st.env 6 = PRef p ∧ st.loc b4 = some [.slice 4 ((ft k).map Mk.av) 5000]) hse (by simp) ?_ ?_ ?_
  · simp [h0, h46]
  · rintro k st hk hb ⟨e3, e4, e6, el⟩
    have hk' : k < l.length := by simpa using hk
    have c3 := c2 l[k] (List.getElem_mem hk')
    have hkl := hfl k
    have ht := hft hk'
    have hf := hff hk'
    unfold fits at ht hf
    simp -implicitDefEqProofs [hk', e3, e6]
    intro b7 hb7
    have h74 : ¬ b4 = b7 := fun h => by subst h; rw [el] at hb7; cases hb7
    have h47 : ¬ b7 = b4 := fun h => h74 h.symm
    generalize hq : offP p l[k] b = q at *
    generalize offB p l[k] b = ob at *
    refine vCall_of c3 ?_
    cases ob with
    | false =>
      have := hf (by simp)
      simp -implicitDefEqProofs [el, this, h74]
    | true =>
      simp -implicitDefEqProofs
      refine cond_bool (fun he => ?_) (fun he => ?_)
      · have hz : emptyP q = true := emptyP_iff.2 (setOf_zero.1 (by simpa using he))
        have := ht (by simpa using hz)
        simp -implicitDefEqProofs [e4, el, this, h74, h47]
        omega
      · have hz : emptyP q = false := by
          cases h : emptyP q with
          | false => rfl
          | true =>
            have := setOf_zero.2 (emptyP_iff.1 h)
            simp [this] at he
        have := hf (by simpa using hz)
        simp -implicitDefEqProofs [el, this, h74]
  · rintro st hb ⟨e3, e4, e6, el⟩
    simp at el
    simp -implicitDefEqProofs [e4, el, r30, hR]
end Go.Proofs.Ytcfeipphmklakaa

namespace Go.Proofs.Ytcfeipphmklakaa
open Go.Avm

/-- The better one of the best set so far and of that of a way of making. -/
def stepW (p : Prs) (b : Bok) (best : Option Nat) (m : Mk) : Option Nat :=
  if offB p m b then (match best with
    | none => some (setOf (offP p m b) 11)
    | some s => if lessL (bitsL (setOf (offP p m b) 11)) (bitsL s) then some (setOf (offP p m b) 11) else some s)
  else best
def bestT (p : Prs) (b : Bok) (k : Nat) : Option Nat := ((makesL p).take k).foldl (stepW p b) none
def bestW (p : Prs) (b : Bok) : Option Nat := (makesL p).foldl (stepW p b) none
theorem bestT_succ {p : Prs} {b : Bok} {k : Nat} (hk : k < (makesL p).length) : bestT p b (k + 1) = stepW p b (bestT p b k) (makesL p)[k] := by
  unfold bestT; rw [take_snoc hk, List.foldl_append]; rfl
theorem bestT_all (p : Prs) (b : Bok) : bestT p b (makesL p).length = bestW p b := by unfold bestT bestW; rw [List.take_length]
def okBest (o : Option Nat) : Prop := ∀ s, o = some s → s < 2048
theorem stepW_ok {p : Prs} {b : Bok} {o : Option Nat} (h : okBest o) (m : Mk) : okBest (stepW p b o m) := by
  intro s hs
  unfold stepW at hs
  split at hs
  · split at hs
    · cases hs; exact setOf_small _
    · split at hs
      · cases hs; exact setOf_small _
      · cases hs; exact h _ rfl
  · exact h _ hs

def bestI : Option Nat → Int
  | none => -1
  | some s => s
def bestS : Option Nat → List Int
  | none => []
  | some s => bitsL s

/-- What Wrong returns. -/
def wrongR (p : Prs) (b : Bok) : List Int × Int := if bookE p b ≠ 0 then ([], bookE p b) else match bestW p b with
  | none => ([], 9)
  | some s => (bitsL s, 0)

theorem wrong35_ok (p : Prs) (b : Bok) : PCall Try.prog 35 [p.av, b.av] (.tuple [IL (wrongR p b).1, I (wrongR p b).2]) := by
  refine pcall Try.func35 tr35 rs35 fn35 (by simp [Try.ntmps35]) fun hfit => ?_
  have c1 := look76_ok p b
  have c0 := makes77_ok p
  have hgood : bookE p b = 0 → errE p = 0 ∧ RightB b := rightB_of
  obtain ⟨R, hR⟩ : ∃ R, R = wrongR p b := ⟨_, rfl⟩
  rw [← hR]
  unfold wrongR at hR
  generalize bookE p b = e at *
  simp -implicitDefEqProofs [m35]
  refine vCall_of c1 ?_
  simp -implicitDefEqProofs
  intro b6
  refine cond_bool (fun he => ?_) (fun he => ?_)
  · have h0 : e ≠ 0 := by simpa using he
    rw [if_pos h0] at hR
    simp -implicitDefEqProofs [r35, hR]
  have h0 : e = 0 := by simpa using he
  rw [if_neg (not_not_intro h0)] at hR
  obtain ⟨hp0, hb⟩ := hgood h0
  have hp := right_of hp0
  have hr : ∀ m ∈ makesL p, RightM p m := fun m hm => mk_right hp0 hm
  have c2 : ∀ m ∈ makesL p, _ := fun m hm => off78_ok h104 h102 hp (hr m hm) b hb
  have hbs := @bestT_succ p b
  have hse := makes98_ok p hp0
  rw [← bestT_all] at hR
  have hz : bestT p b 0 = none := rfl
  generalize bestT p b = bt at *
  generalize makesL p = l at *
  simp -implicitDefEqProofs
  intro b8
  refine vCall_of c0 ?_
  simp -implicitDefEqProofs
  refine range_of _ (fun k st => st.env 3 = BRef b ∧ st.env 6 = PRef p ∧ st.env 8 = .mref b8 0 ∧ st.loc b8 = some [I (bestI (bt k))] ∧ okBest (bt k)) hse (by simp) ?_ ?_ ?_
  · simp [hz, bestI]
    intro s hs; cases hs
  · rintro k st hk hbk ⟨e3, e6, e8, el, hob⟩
    have hk' : k < l.length := by simpa using hk
    have c3 := c2 l[k] (List.getElem_mem hk')
    have hs := hbs hk'
    have hok2 : okBest (bt (k + 1)) := by rw [hs]; exact stepW_ok hob _
    unfold stepW at hs
    have hsm := setOf_small (offP p l[k] b)
    simp -implicitDefEqProofs [hk', e3, e6]
    intro b7 hb7
    have h74 : ¬ b8 = b7 := fun h => by subst h; rw [el] at hb7; cases hb7
    have h47 : ¬ b7 = b8 := fun h => h74 h.symm
    generalize setOf (offP p l[k] b) 11 = q at *
    generalize offB p l[k] b = ob at *
    refine vCall_of c3 ?_
    cases ob with
    | false =>
      rw [if_neg (by simp)] at hs
      simp -implicitDefEqProofs [e8, el, h74, hs, hob]
    | true =>
      rw [if_pos rfl] at hs
      have hq0 : ¬ (q : Int) < 0 := by omega
      simp -implicitDefEqProofs [e8, el, h74, hq0]
      cases hbt : bt k with
      | none =>
        rw [hbt] at hs el hob
        simp only at hs
        simp -implicitDefEqProofs [bestI, e8, el, h74, hs]
        intro s hs'; cases hs'; exact hsm
      | some s0 =>
        rw [hbt] at hs el hob
        have hs0 := hob s0 rfl
        have hge : (0 : Int) ≤ (s0 : Int) := by omega
        have cf := fewer80_ok h104 h102 hsm hs0
        simp -implicitDefEqProofs [bestI, hge, e8, el, h74]
        refine vCall_of cf ?_
        cases hlx : lessL (bitsL q) (bitsL s0) with
        | true =>
          simp only [hlx, if_true] at hs
          simp -implicitDefEqProofs [e8, el, h74, hs, bestI]
          intro s hs'; cases hs'; exact hsm
        | false =>
          simp only [hlx, Bool.false_eq_true, if_false] at hs
          simp -implicitDefEqProofs [el, h74, hs, bestI]
          intro s hs'; cases hs'; exact hs0
  · rintro st hbk ⟨e3, e6, e8, el, hob⟩
    simp at el hob
    simp -implicitDefEqProofs [e8, el]
    cases hbt : bt l.length with
    | none =>
      rw [hbt] at hR
      simp -implicitDefEqProofs [bestI, r35, hR]
    | some s0 =>
      rw [hbt] at hR hob el
      have hs0 := hob s0 rfl
      have hge : ¬ (s0 : Int) < 0 := by omega
      have cl := list81_ok h104 hs0
      simp -implicitDefEqProofs [bestI, hge, e8, el]
      refine vCall_of cl ?_
      simp -implicitDefEqProofs [r35, hR]

def BestI (o : Option Nat) (s : St) : Prop := match o with
  | none => s.env 10 = .slice 1 [] 11 ∧ s.env 11 = B false
  | some q => s.env 10 = .slice 1 ((bitsL q).map I) 0 ∧ s.env 11 = B true

theorem wrong36_ok (p : Prs) (b : Bok) : PCall Try.prog 36 [p.av, b.av] (.tuple [IL (wrongR p b).1, I (wrongR p b).2]) := by
  refine pcall Try.func36 tr36 rs36 fn36 (by simp [Try.ntmps36]) fun hfit => ?_
  have c1 := checkBookR_ok p b
  have hgood : bookE p b = 0 → errE p = 0 ∧ RightB b := rightB_of
  obtain ⟨R, hR⟩ : ∃ R, R = wrongR p b := ⟨_, rfl⟩
  rw [← hR]
  unfold wrongR at hR
  unfold bookE at *
  generalize checkBookE p b = e at *
  simp -implicitDefEqProofs [m36]
  refine vCall_of c1 ?_
  simp -implicitDefEqProofs
  refine cond_bool (fun he => ?_) (fun he => ?_)
  · have h0 : e.2.2 ≠ 0 := by simpa using he
    rw [if_pos h0] at hR
    simp -implicitDefEqProofs [r36, hR]
  have h0 : e.2.2 = 0 := by simpa using he
  rw [if_neg (not_not_intro h0)] at hR
  obtain ⟨hp0, hb⟩ := hgood h0
  have hp := right_of hp0
  have c0 := makes82_ok p hp
  have hl := makes_len hp
  have hr : ∀ m ∈ makesL p, RightM p m := fun m hm => mk_right hp0 hm
  have c2 : ∀ m ∈ makesL p, _ := fun m hm => off83_ok hp (hr m hm) b hb
  have hbs := @bestT_succ p b
  rw [← bestT_all] at hR
  have hz : bestT p b 0 = none := rfl
  generalize bestT p b = bt at *
  generalize makesL p = l at *
  simp -implicitDefEqProofs
  refine vCall_of c0 ?_
  simp -implicitDefEqProofs
  refine loop_up l.length (fun k s => s.env 2 = PRef p ∧ s.env 3 = BRef b ∧ s.env 9 = ML l ∧ s.env 12 = I k ∧ BestI (bt k) s) ?_ ?_
  · simp [hz, BestI]
  rintro k s hk ⟨e2, e3, e9, e12, hbi⟩
  simp -implicitDefEqProofs [e9, e12]
  refine cond_dec (fun hlt => ?_) (fun hge => ?_)
  · have hlt : k < l.length := by omega
    have c3 := c2 l[k] (List.getElem_mem hlt)
    have hs := hbs hlt
    unfold stepW at hs
    have hbl := bitsL_setOf (offP p l[k] b)
    simp -implicitDefEqProofs [e2, e3, e9, e12, hlt]
    rw [← hbl] at c3
    generalize setOf (offP p l[k] b) 11 = q at *
    generalize offB p l[k] b = ob at *
    refine vCall_of c3 ?_
    cases ob with
    | false =>
      rw [if_neg (by simp)] at hs
      simp -implicitDefEqProofs [e12]
      refine ⟨i64 (by omega) (by omega), round_ok hlt ⟨by simp [e2], by simp [e3], by simp [e9], by simp, ?_⟩⟩
      rw [hs]
      cases hbt : bt k with
      | none => rw [hbt] at hbi; simpa [BestI] using hbi
      | some s0 => rw [hbt] at hbi; simpa [BestI] using hbi
    | true =>
      rw [if_pos rfl] at hs
      cases hbt : bt k with
      | none =>
        rw [hbt] at hs hbi
        obtain ⟨e10, e11⟩ := hbi
        simp only at hs
        simp -implicitDefEqProofs [e11, e12]
        refine ⟨i64 (by omega) (by omega), round_ok hlt ⟨by simp [e2], by simp [e3], by simp [e9], by simp, ?_⟩⟩
        rw [hs]
        simp [BestI]
      | some s0 =>
        rw [hbt] at hs hbi
        obtain ⟨e10, e11⟩ := hbi
        have cf := less84_ok (bitsL q) (bitsL s0)
        simp -implicitDefEqProofs [e10, e11]
        refine vCall_of cf ?_
        cases hlx : lessL (bitsL q) (bitsL s0) with
        | true =>
          simp only [hlx, if_true] at hs
          simp -implicitDefEqProofs [e12]
          refine ⟨i64 (by omega) (by omega), round_ok hlt ⟨by simp [e2], by simp [e3], by simp [e9], by simp, ?_⟩⟩
          rw [hs]
          simp [BestI]
        | false =>
          simp only [hlx, Bool.false_eq_true, if_false] at hs
          simp -implicitDefEqProofs [e12]
          refine ⟨i64 (by omega) (by omega), round_ok hlt ⟨by simp [e2], by simp [e3], by simp [e9], by simp, ?_⟩⟩
          rw [hs]
          simp [BestI, e10, e11]
  · obtain rfl : k = l.length := by omega
    cases hbt : bt l.length with
    | none =>
      rw [hbt] at hR hbi
      obtain ⟨e10, e11⟩ := hbi
      simp -implicitDefEqProofs [e11, r36, hR]
    | some s0 =>
      rw [hbt] at hR hbi
      obtain ⟨e10, e11⟩ := hbi
      simp -implicitDefEqProofs [e10, e11, r36, hR]
end Go.Proofs.Ytcfeipphmklakaa

namespace Go.Proofs.Ytcfeipphmklakaa
open Go.Avm

/-- How many of the first ways of making lay two leaves on one sheet. -/
def cntT (p : Prs) (l : List Mk) (t k i : Nat) : Nat := ((l.take k).filter fun m => mateQ (lvOf p m) t i).length
theorem cntT_succ {p : Prs} {l : List Mk} {t k i : Nat} (hk : k < l.length) : cntT p l t (k + 1) i = cntT p l t k i + if mateQ (lvOf p l[k]) t i then 1 else 0 := by
  unfold cntT
  rw [take_snoc hk, List.filter_append, List.length_append]
  cases h : mateQ (lvOf p l[k]) t i <;> simp [h]
theorem cntT_le (p : Prs) (l : List Mk) (t k i : Nat) : cntT p l t k i ≤ k := by
  unfold cntT
  exact Nat.le_trans (List.length_filter_le _ _) (by simp; omega)

theorem count_selT (q : Nat → Bool) (i : Nat) : ∀ n, (selT q n).count (i : Int) = if i < n ∧ q i = true then 1 else 0
  | 0 => by simp [selT]
  | n + 1 => by
    rw [selT_succ, List.count_append, count_selT q i n]
    cases hq : q n with
    | true =>
      by_cases hi : i = n
      · subst hi; simp [hq]
      · have h1 : ¬ ((n : Int) = (i : Int)) := by omega
        have h2 : (i < n + 1 ∧ q i = true) ↔ (i < n ∧ q i = true) := by constructor <;> (rintro ⟨a, b⟩; exact ⟨by omega, b⟩)
        simp only [if_true, h2]
        simp [List.count_singleton, h1]
    | false =>
      by_cases hi : i = n
      · subst hi; simp [hq]
      · have h2 : (i < n + 1 ∧ q i = true) ↔ (i < n ∧ q i = true) := by constructor <;> (rintro ⟨a, b⟩; exact ⟨by omega, b⟩)
        simp only [h2]
        simp

def mustQ (p : Prs) (l : List Mk) (t i : Nat) : Bool := decide (cntT p l t l.length i = l.length)
def mayQ (p : Prs) (l : List Mk) (t i : Nat) : Bool := decide (0 < cntT p l t l.length i)

/-- What Together returns. -/
def togetherR (p : Prs) (b : Bok) (leaf : Int) : List Int × List Int × Int :=
  if (agreeR p b).2 ≠ 0 then ([], [], (agreeR p b).2)
  else if ¬ (0 ≤ leaf ∧ leaf ≤ b.leaves - 1) then ([], [], 4)
  else if (agreeR p b).1.length = 0 then ([], [], 8)
  else (selT (mustQ p (agreeR p b).1 leaf.toNat) b.leaves.toNat, selT (mayQ p (agreeR p b).1 leaf.toNat) b.leaves.toNat, 0)

theorem agreeR_zero {p : Prs} {b : Bok} (h : (agreeR p b).2 = 0) : bookE p b = 0 ∧ (agreeR p b).1 = fitL p b := by
  unfold agreeR at *
  split at h
  · rename_i h0; exact (h0 h).elim
  · rename_i h0; rw [if_neg h0]; exact ⟨Decidable.of_not_not h0, rfl⟩

theorem fit_mates {p : Prs} {b : Bok} {m : Mk} (hm : m ∈ fitL p b) {t n : Nat} (hn : b.leaves = n) (ht : t < n) : ∃ c, matesR p m t = (selT (mateQ (lvOf p m) t) n, c, 0) := by
  obtain ⟨h1, h2⟩ := List.mem_filter.1 hm
  have he := makes_ok h1
  have hl : ((lvOf p m).length : Int) = b.leaves := by
    unfold fits offB at h2
    rw [Bool.and_eq_true] at h2
    exact of_decide_eq_true h2.1
  have hl' : (lvOf p m).length = n := by omega
  refine ⟨(n : Int) - 1 - t, ?_⟩
  have h3 : ¬ ¬ ((0 : Int) ≤ t ∧ (t : Int) ≤ ((lvOf p m).length : Int) - 1) := not_not_intro (by omega)
  unfold matesR
  rw [if_neg (not_not_intro he), if_neg h3, hl', Int.toNat_natCast]

theorem fitL_len {p : Prs} (hp : Right p) (b : Bok) : (fitL p b).length ≤ 1000 := Nat.le_trans (List.length_filter_le _ _) (makes_len hp)

theorem together34_ok (p : Prs) (b : Bok) (leaf : Int) : PCall Try.prog 34 [p.av, b.av, I leaf] (.tuple [IL (togetherR p b leaf).1, IL (togetherR p b leaf).2.1, I (togetherR p b leaf).2.2]) := by
  refine pcall Try.func34 tr34 rs34 fn34 (by simp [Try.ntmps34]) fun hfit => ?_
  have c1 := agree31_ok p b
  have hgood : (agreeR p b).2 = 0 → errE p = 0 ∧ RightB b := fun h => rightB_of (agreeR_zero h).1
  have hmem : (agreeR p b).2 = 0 → ∀ m ∈ (agreeR p b).1, m ∈ fitL p b := fun h m hm => by rw [← (agreeR_zero h).2]; exact hm
  have hlen : (agreeR p b).2 = 0 → (agreeR p b).1.length ≤ 1000 := fun h => by rw [(agreeR_zero h).2]; exact fitL_len (right_of (hgood h).1) b
  have c2 := fun m => mates27_ok p m leaf
  obtain ⟨R, hR⟩ : ∃ R, R = togetherR p b leaf := ⟨_, rfl⟩
  rw [← hR]
  unfold togetherR at hR
  generalize agreeR p b = a at *
  simp -implicitDefEqProofs [m34]
  refine vCall_of c1 ?_
  by_cases h0 : a.2 = 0
  case neg =>
    have h0' : (a.2 == 0) = false := beq_eq_false_iff_ne.2 h0
    have h0'' : (a.2 != 0) = true := by simp [h0]
    rw [if_pos h0] at hR
    simp -implicitDefEqProofs [h0', h0'', r34, hR]
  have h0' : (a.2 == 0) = true := by simp [h0]
  have h0'' : (a.2 != 0) = false := by simp [h0]
  rw [if_neg (not_not_intro h0)] at hR
  obtain ⟨hp0, hb⟩ := hgood h0
  replace hmem := hmem h0
  replace hlen := hlen h0
  have hlv := hb.leaves
  have c3 := in_ok leaf 0 (b.leaves - 1)
  simp -implicitDefEqProofs [h0']
  refine ⟨i64 (by omega) (by omega), ?_⟩
  refine vCall_of c3 ?_
  by_cases h1 : 0 ≤ leaf ∧ leaf ≤ b.leaves - 1
  case neg =>
    rw [if_pos h1] at hR
    rw [decide_eq_false h1]
    simp -implicitDefEqProofs [r34, hR]
  rw [if_neg (not_not_intro h1)] at hR
  rw [decide_eq_true h1]
  simp -implicitDefEqProofs [h0']
  by_cases h2 : a.1.length = 0
  case pos =>
    have h2' : ((a.1.length : Int) == 0) = true := by simp [h2]
    rw [if_pos h2] at hR
    simp -implicitDefEqProofs [h2', r34, hR]
  have h2' : ((a.1.length : Int) == 0) = false := beq_eq_false_iff_ne.2 (by omega)
  rw [if_neg h2] at hR
  simp -implicitDefEqProofs [h2', h0'']
  obtain ⟨t, ht⟩ : ∃ t : Nat, leaf = t := ⟨leaf.toNat, by omega⟩
  obtain ⟨n, hn⟩ : ∃ n : Nat, b.leaves = n := ⟨b.leaves.toNat, by omega⟩
  have htn : t < n := by omega
  have c4 : ∀ m ∈ a.1, ∃ c, PCall Try.prog 27 [p.av, m.av, I leaf] (.tuple [IL (selT (mateQ (lvOf p m) t) n), I c, I 0]) := fun m hm => by
    obtain ⟨c, hc⟩ := fit_mates (hmem m hm) hn htn
    refine ⟨c, ?_⟩
    have := c2 m
    rw [ht, hc] at this
    rw [ht]
    exact this
  rw [hn, ht] at hR
  simp only [Int.toNat_natCast] at hR
  generalize a.1 = l at *
  have hmu := selT_len (mustQ p l t)
  have hma := selT_len (mayQ p l t)
  refine loop_up n (fun i s => s.env 2 = I leaf ∧ s.env 3 = PRef p ∧ s.env 4 = BRef b ∧ s.env 9 = ML l ∧ s.env 11 = .slice 1 ((selT (mustQ p l t) i).map I) 12 ∧ s.env 12 = .slice 1 ((selT (mayQ p l t) i).map I) 13 ∧ s.env 13 = I i) ?_ ?_
  · simp [selT_zero]
  rintro i s hi ⟨e2, e3, e4, e9, e11, e12, e13⟩
  simp -implicitDefEqProofs [e4, e13, hn]
  refine cond_dec (fun hlt => ?_) (fun hge => ?_)
  · have hlt : i < n := by omega
    simp -implicitDefEqProofs
    refine loop_up l.length (fun k s => s.env 2 = I leaf ∧ s.env 3 = PRef p ∧ s.env 4 = BRef b ∧ s.env 9 = ML l ∧ s.env 11 = .slice 1 ((selT (mustQ p l t) i).map I) 12 ∧ s.env 12 = .slice 1 ((selT (mayQ p l t) i).map I) 13 ∧ s.env 13 = I i ∧
      s.env 14 = I (cntT p l t k i : Nat) ∧ s.env 15 = I k) ?_ ?_
    · simp [e2, e3, e4, e9, e11, e12, e13, cntT]
    clear e2 e3 e4 e9 e11 e12 e13
    rintro k s hk ⟨e2, e3, e4, e9, e11, e12, e13, e14, e15⟩
    simp -implicitDefEqProofs [e9, e15]
    refine cond_dec (fun hlt2 => ?_) (fun hge2 => ?_)
    · have hlt2 : k < l.length := by omega
      obtain ⟨c, c5⟩ := c4 l[k] (List.getElem_mem hlt2)
      have c6 := has47_ok (selT (mateQ (lvOf p l[k]) t) n) i
      have hcs := cntT_succ (p := p) (t := t) (i := i) hlt2
      have hcl := cntT_le p l t k i
      have hdm : decide ((i : Int) ∈ selT (mateQ (lvOf p l[k]) t) n) = mateQ (lvOf p l[k]) t i := by
        rw [Bool.eq_iff_iff, decide_eq_true_eq, mem_selT]; simp [hlt]
      rw [hdm] at c6
      simp -implicitDefEqProofs [e2, e3, e9, e15, hlt2]
      refine vCall_of c5 ?_
      simp -implicitDefEqProofs [e13]
      refine vCall_of c6 ?_
      simp -implicitDefEqProofs
      refine cond_bool (fun he => ?_) (fun he => ?_)
      · rw [he, if_pos rfl] at hcs
        simp -implicitDefEqProofs [e14, e15]
        exact ⟨i64 (by omega) (by omega), i64 (by omega) (by omega), round_ok hlt2 ⟨by simp [e2], by simp [e3], by simp [e4], by simp [e9], by simp [e11], by simp [e12], by simp [e13], by simp [hcs], by simp⟩⟩
      · rw [he, if_neg (by simp)] at hcs
        simp -implicitDefEqProofs [e15]
        exact ⟨i64 (by omega) (by omega), round_ok hlt2 ⟨by simp [e2], by simp [e3], by simp [e4], by simp [e9], by simp [e11], by simp [e12], by simp [e13], by simp [e14, hcs], by simp⟩⟩
    · obtain rfl : k = l.length := by omega
      have q1 : mustQ p l t i = decide (cntT p l t l.length i = l.length) := rfl
      have q2 : mayQ p l t i = decide (0 < cntT p l t l.length i) := rfl
      have m1 := hmu i
      have m2 := hma i
      have s1 := @selT_t (mustQ p l t) i
      have s2 := @selT_f (mustQ p l t) i
      have s3 := @selT_t (mayQ p l t) i
      have s4 := @selT_f (mayQ p l t) i
      generalize cntT p l t l.length i = cn at *
      simp -implicitDefEqProofs [e9, e14]
      refine cond_cut (fun s => s.env 2 = I leaf ∧ s.env 3 = PRef p ∧ s.env 4 = BRef b ∧ s.env 9 = ML l ∧ s.env 11 = .slice 1 ((selT (mustQ p l t) (i + 1)).map I) 12 ∧ s.env 12 = .slice 1 ((selT (mayQ p l t) i).map I) 13 ∧ s.env 13 = I i ∧ s.env 14 = I cn) ?_ ?_ ?_
      case refine_2 =>
        intro kk hkk he
        have hc : cn = l.length := by simp at he; omega
        have := s1 (by rw [q1]; simp [hc])
        simp -implicitDefEqProofs [e11, e13]
        exact ⟨by omega, by omega, hkk _ ⟨by simp [e2], by simp [e3], by simp [e4], by simp [e9], by simp [this], by simp [e12], by simp [e13], by simp [e14]⟩⟩
      case refine_3 =>
        intro kk hkk he
        have hc : ¬ cn = l.length := by simp at he; omega
        have := s2 (by rw [q1]; simp [hc])
        exact hkk _ ⟨by simp [e2], by simp [e3], by simp [e4], by simp [e9], by simp [e11, this], by simp [e12], by simp [e13], by simp [e14]⟩
      clear e2 e3 e4 e9 e11 e12 e13 e14 e15
      rintro s ⟨e2, e3, e4, e9, e11, e12, e13, e14⟩
      simp -implicitDefEqProofs [e14]
      by_cases hc : 0 < cn
      · have := s3 (by rw [q2]; simp [hc])
        simp -implicitDefEqProofs [hc, e12, e13]
        exact ⟨by omega, by omega, i64 (by omega) (by omega), round_ok hlt ⟨by simp [e2], by simp [e3], by simp [e4], by simp [e9], by simp [e11], by simp [this], by simp⟩⟩
      · have := s4 (by rw [q2]; simp [hc])
        simp -implicitDefEqProofs [hc, e13]
        exact ⟨i64 (by omega) (by omega), round_ok hlt ⟨by simp [e2], by simp [e3], by simp [e4], by simp [e9], by simp [e11], by simp [e12, this], by simp⟩⟩
  · obtain rfl : i = n := by omega
    simp -implicitDefEqProofs [e11, e12, r34, hR]

theorem range_set (f : Nat → AV) (n i : Nat) (v : AV) : ((List.range n).map f).set i v = (List.range n).map fun j => if j = i then v else f j := by
  apply List.ext_getElem
  · simp
  · intro j h1 h2
    simp only [List.getElem_set, List.getElem_map, List.getElem_range]
    by_cases h : j = i
    · subst h; simp
    · have : ¬ i = j := fun e => h e.symm
      simp [h, this]

def manyL (n : Nat) (f : Nat → Nat) : List AV := (List.range n).map fun i => I (f i : Nat)
theorem manyL_len (n : Nat) (f : Nat → Nat) : (manyL n f).length = n := by simp [manyL]
theorem manyL_get {n i : Nat} (f : Nat → Nat) (h : i < n) : (manyL n f)[i]? = some (I (f i : Nat)) := by simp [manyL, h]
theorem manyL_map (n : Nat) (g : Nat → Nat) (f : AV → AV) (h : ∀ v : Int, f (I v) = I v) : (manyL n g).map f = manyL n g := by
  unfold manyL
  rw [List.map_map]
  exact List.map_congr_left fun i _ => h _
theorem manyL_set (n i : Nat) (f : Nat → Nat) (v : Nat) : (manyL n f).set i (I v) = manyL n fun j => if j = i then v else f j := by
  unfold manyL
  rw [range_set]
  apply List.map_congr_left
  intro j _
  by_cases h : j = i <;> simp [h]

theorem count_take {l : List Int} {j : Nat} (hj : j < l.length) (x : Int) : (l.take (j + 1)).count x = (l.take j).count x + if l[j] = x then 1 else 0 := by
  rw [take_snoc hj, List.count_append]
  congr 1
  by_cases h : l[j] = x <;> simp [List.count_singleton, h]

theorem selT_mem {q : Nat → Bool} {n : Nat} {x : Int} (h : x ∈ selT q n) : ∃ j : Nat, x = j ∧ j < n ∧ q j = true := by
  unfold selT at h
  obtain ⟨j, hj, rfl⟩ := List.mem_map.1 h
  obtain ⟨h1, h2⟩ := List.mem_filter.1 hj
  exact ⟨j, rfl, by simpa using h1, h2⟩

theorem together33_ok (p : Prs) (b : Bok) (leaf : Int) : PCall Try.prog 33 [p.av, b.av, I leaf] (.tuple [IL (togetherR p b leaf).1, IL (togetherR p b leaf).2.1, I (togetherR p b leaf).2.2]) := by
  refine pcall Try.func33 tr33 rs33 fn33 (by simp [Try.ntmps33]) fun hfit => ?_
  have c1 := agree30_ok p b
  have hgood : (agreeR p b).2 = 0 → errE p = 0 ∧ RightB b := fun h => rightB_of (agreeR_zero h).1
  have hmem : (agreeR p b).2 = 0 → ∀ m ∈ (agreeR p b).1, m ∈ fitL p b := fun h m hm => by rw [← (agreeR_zero h).2]; exact hm
  have hlen : (agreeR p b).2 = 0 → (agreeR p b).1.length ≤ 1000 := fun h => by rw [(agreeR_zero h).2]; exact fitL_len (right_of (hgood h).1) b
  have c2 := fun m => mates26_ok p m leaf
  obtain ⟨R, hR⟩ : ∃ R, R = togetherR p b leaf := ⟨_, rfl⟩
  rw [← hR]
  unfold togetherR at hR
  generalize agreeR p b = a at *
  simp -implicitDefEqProofs [m33]
  refine vCall_of c1 ?_
  simp -implicitDefEqProofs
  refine cond_bool (fun he => ?_) (fun he => ?_)
  · have h0 : a.2 ≠ 0 := by simpa using he
    rw [if_pos h0] at hR
    simp -implicitDefEqProofs [r33, hR]
  have h0 : a.2 = 0 := by simpa using he
  rw [if_neg (not_not_intro h0)] at hR
  obtain ⟨hp0, hb⟩ := hgood h0
  replace hmem := hmem h0
  replace hlen := hlen h0
  have hlv := hb.leaves
  have c3 := outside_ok 0 (b.leaves - 1) [leaf]
  rw [out1] at c3
  simp -implicitDefEqProofs
  refine ⟨i64 (by omega) (by omega), ?_⟩
  refine vCall_of c3 ?_
  by_cases h1 : 0 ≤ leaf ∧ leaf ≤ b.leaves - 1
  case neg =>
    rw [if_pos h1] at hR
    rw [decide_eq_false h1]
    simp -implicitDefEqProofs [r33, hR]
  rw [if_neg (not_not_intro h1)] at hR
  rw [decide_eq_true h1]
  simp -implicitDefEqProofs
  refine cond_bool (fun he => ?_) (fun he => ?_)
  · have h2 : a.1.length = 0 := by have := eq_of_beq he; omega
    rw [if_pos h2] at hR
    simp -implicitDefEqProofs [r33, hR]
  have h2 : ¬ a.1.length = 0 := by intro h; rw [h] at he; simp at he
  rw [if_neg h2] at hR
  obtain ⟨t, ht⟩ : ∃ t : Nat, leaf = t := ⟨leaf.toNat, by omega⟩
  obtain ⟨n, hn⟩ : ∃ n : Nat, b.leaves = n := ⟨b.leaves.toNat, by omega⟩
  have htn : t < n := by omega
  have c4 : ∀ m ∈ a.1, ∃ c, PCall Try.prog 26 [p.av, m.av, I leaf] (.tuple [IL (selT (mateQ (lvOf p m) t) n), I c, I 0]) := fun m hm => by
    obtain ⟨c, hc⟩ := fit_mates (hmem m hm) hn htn
    refine ⟨c, ?_⟩
    have := c2 m
    rw [ht, hc] at this
    rw [ht]
    exact this
  rw [hn, ht] at hR
  simp only [Int.toNat_natCast] at hR
  generalize a.1 = l at *
  have hmu := selT_len (mustQ p l t)
  have hma := selT_len (mayQ p l t)
  simp -implicitDefEqProofs [hn]
  refine ⟨by omega, by omega, ?_⟩
  intro bm
  have hm0 : (List.replicate n [I 0]).flatten = manyL n fun i => cntT p l t 0 i := by
    have : ∀ m, (List.replicate m [I 0]).flatten = List.replicate m (I 0) := fun m => by
      induction m with
      | zero => rfl
      | succ m ih => rw [List.replicate_succ, List.flatten_cons, ih]; rfl
    rw [this]
    unfold manyL
    rw [List.map_congr_left (g := fun _ => I 0) (fun i _ => by simp [cntT]), List.map_const', List.length_range]
  refine loop_up l.length (fun k s => s.env 2 = I leaf ∧ s.env 3 = PRef p ∧ s.env 4 = BRef b ∧ s.env 6 = .slice 1 [] 7 ∧ s.env 7 = .slice 1 [] 8 ∧ s.env 9 = ML l ∧ s.env 10 = .mslice bm 0 n n 1 ∧
    s.loc bm = some (manyL n fun i => cntT p l t k i) ∧ s.env 44 = ML l ∧ s.env 45 = I l.length ∧ s.env 46 = I k) ?_ ?_
  · simp [← hm0]
    exact hn.symm
  rintro k s hk ⟨e2, e3, e4, e6, e7, e9, e10, el, e44, e45, e46⟩
  simp -implicitDefEqProofs [e45, e46]
  refine cond_dec (fun hlt => ?_) (fun hge => ?_)
  · have hlt : k < l.length := by omega
    obtain ⟨c, c5⟩ := c4 l[k] (List.getElem_mem hlt)
    have hcs := fun i => cntT_succ (p := p) (t := t) (i := i) hlt
    have hcl := fun i => cntT_le p l t k i
    have hMl := selT_len (mateQ (lvOf p l[k]) t) n
    have hcnt := fun i => count_selT (mateQ (lvOf p l[k]) t) i n
    have hMm := @selT_mem (mateQ (lvOf p l[k]) t) n
    simp -implicitDefEqProofs [e2, e3, e44, e46, hlt]
    intro b12 hb12
    have hne : ¬ bm = b12 := fun h => by subst h; rw [el] at hb12; cases hb12
    refine vCall_of c5 ?_
    generalize selT (mateQ (lvOf p l[k]) t) n = M at *
    simp -implicitDefEqProofs
    refine loop_up M.length (fun j s => s.env 2 = I leaf ∧ s.env 3 = PRef p ∧ s.env 4 = BRef b ∧ s.env 6 = .slice 1 [] 7 ∧ s.env 7 = .slice 1 [] 8 ∧ s.env 9 = ML l ∧ s.env 10 = .mslice bm 0 n n 1 ∧
      s.loc bm = some (manyL n fun i => cntT p l t k i + (M.take j).count (i : Int)) ∧ s.env 44 = ML l ∧ s.env 45 = I l.length ∧ s.env 46 = I k ∧ s.env 58 = IL M ∧ s.env 59 = I M.length ∧ s.env 60 = I j) ?_ ?_
    · simp [e2, e3, e4, e6, e7, e9, e10, el, e44, e45, e46, hne]
    clear e2 e3 e4 e6 e7 e9 e10 el e44 e45 e46
    rintro j s hj ⟨e2, e3, e4, e6, e7, e9, e10, el, e44, e45, e46, e58, e59, e60⟩
    simp -implicitDefEqProofs [e59, e60]
    refine cond_dec (fun hlt2 => ?_) (fun hge2 => ?_)
    · have hlt2 : j < M.length := by omega
      obtain ⟨x, hx, hxn, _⟩ := hMm (List.getElem_mem hlt2)
      have hct := fun i : Nat => count_take hlt2 (i : Int)
      have hcx : (M.take j).count (x : Int) ≤ j := by
        refine Nat.le_trans List.count_le_length ?_
        simp; omega
      have hkx := hcl x
      have hget := manyL_get (fun i => cntT p l t k i + (M.take j).count (i : Int)) hxn
      have hset := manyL_set n x (fun i => cntT p l t k i + (M.take j).count (i : Int)) (cntT p l t k x + (M.take j).count (x : Int) + 1)
      have hfin : (fun i : Nat => if i = x then cntT p l t k x + (M.take j).count (x : Int) + 1 else cntT p l t k i + (M.take j).count (i : Int)) = fun i : Nat => cntT p l t k i + (M.take (j + 1)).count (i : Int) := by
        funext i
        rw [hct i, hx]
        by_cases hi : i = x
        · subst hi; simp; omega
        · have : ¬ ((x : Int) = (i : Int)) := by omega
          simp [hi, this]
      rw [hfin] at hset
      have hlenL := manyL_len n fun i => cntT p l t k i + (M.take j).count (i : Int)
      obtain ⟨v, hv⟩ : ∃ v : Nat, v = cntT p l t k x + (M.take j).count (x : Int) := ⟨_, rfl⟩
      have hget : (manyL n fun i => cntT p l t k i + (M.take j).count (i : Int))[x]? = some (I v) := by rw [hget, hv]
      rw [← hv] at hset
      have hset : (manyL n fun i => cntT p l t k i + (M.take j).count (i : Int)).set x (I ((v : Int) + 1)) = manyL n fun i => cntT p l t k i + (M.take (j + 1)).count (i : Int) := hset
      obtain ⟨L1, hL1⟩ : ∃ L1, L1 = manyL n fun i : Nat => cntT p l t k i + (M.take (j + 1)).count (i : Int) := ⟨_, rfl⟩
      rw [← hL1] at hset
      generalize (manyL n fun i => cntT p l t k i + (M.take j).count (i : Int)) = L0 at *
      have hxL : x < L0.length := by omega
      have hgetE : L0[x]'hxL = I v := by
        have := List.getElem?_eq_getElem hxL
        rw [hget] at this
        exact (Option.some.inj this).symm
      simp -implicitDefEqProofs [e58, e60, hlt2, e10, el, hx, hxn, hxL, hgetE]
      refine ⟨i64 (by omega) (by omega), by omega, i64 (by omega) (by omega), round_ok hlt2 ⟨by simp [e2], by simp [e3], by simp [e4], by simp [e6], by simp [e7], by simp [e9], by simp [e10], ?_, by simp [e44], by simp [e45], by simp [e46], by simp [e58], by simp [e59], by simp⟩⟩
      rw [← hL1]
      simp [hset]
    · obtain rfl : j = M.length := by omega
      have hfin : (fun i : Nat => cntT p l t k i + (M.take M.length).count (i : Int)) = fun i : Nat => cntT p l t k i + M.count (i : Int) := by funext i; rw [List.take_length]
      rw [hfin] at el
      have hnext : (manyL n fun i => cntT p l t k i + M.count (i : Int)) = manyL n fun i => cntT p l t (k + 1) i := by
        unfold manyL
        apply List.map_congr_left
        intro i hi
        have hi' : i < n := by simpa using hi
        show I ((cntT p l t k i + M.count (i : Int) : Nat) : Int) = I ((cntT p l t (k + 1) i : Nat) : Int)
        rw [hcs i, hcnt i]
        simp [hi']
      rw [hnext] at el
      simp -implicitDefEqProofs [e46]
      exact ⟨i64 (by omega) (by omega), round_ok hlt ⟨by simp [e2], by simp [e3], by simp [e4], by simp [e6], by simp [e7], by simp [e9], by simp [e10], by simp [el], by simp [e44], by simp [e45], by simp⟩⟩
  obtain rfl : k = l.length := by omega
  simp -implicitDefEqProofs [e10]
  have hg2 := fun i (hi : i < n) => manyL_get (fun i => cntT p l t l.length i) hi
  have hlenL := manyL_len n fun i => cntT p l t l.length i
  have hmap := manyL_map n fun i => cntT p l t l.length i
  generalize (manyL n fun i => cntT p l t l.length i) = L0 at *
  refine loop_up n (fun i s => s.env 6 = .slice 1 ((selT (mustQ p l t) i).map I) 7 ∧ s.env 7 = .slice 1 ((selT (mayQ p l t) i).map I) 8 ∧ s.env 9 = ML l ∧ s.env 72 = .mslice bm 0 n n 1 ∧ s.loc bm = some L0 ∧ s.env 73 = I n ∧ s.env 74 = I i) ?_ ?_
  · simp [selT_zero, e6, e7, e9, el]
  clear e2 e3 e4 e6 e7 e9 e10 el e44 e45 e46 hge hk
  rintro i s hi ⟨e6, e7, e9, e72, el, e73, e74⟩
  simp -implicitDefEqProofs [e73, e74]
  refine cond_dec (fun hlt => ?_) (fun hge => ?_)
  · have hlt : i < n := by omega
    have hiL : i < L0.length := by omega
    have hget := hg2 i hlt
    have q1 : mustQ p l t i = decide (cntT p l t l.length i = l.length) := rfl
    have q2 : mayQ p l t i = decide (0 < cntT p l t l.length i) := rfl
    have m1 := hmu i
    have m2 := hma i
    have s1 := @selT_t (mustQ p l t) i
    have s2 := @selT_f (mustQ p l t) i
    have s3 := @selT_t (mayQ p l t) i
    have s4 := @selT_f (mayQ p l t) i
    have hgetE : L0[i]'hiL = I (cntT p l t l.length i : Nat) := by
      have := List.getElem?_eq_getElem hiL
      rw [hget] at this
      exact (Option.some.inj this).symm
    clear hget
    generalize cntT p l t l.length i = cn at *
    simp -implicitDefEqProofs [e9, e72, e74, hlt, el, hiL, hgetE]
    refine cond_cut (fun s => s.env 6 = .slice 1 ((selT (mustQ p l t) (i + 1)).map I) 7 ∧ s.env 7 = .slice 1 ((selT (mayQ p l t) i).map I) 8 ∧ s.env 9 = ML l ∧ s.env 72 = .mslice bm 0 n n 1 ∧ s.loc bm = some L0 ∧ s.env 73 = I n ∧ s.env 74 = I i ∧ s.env 18 = I i ∧ s.env 19 = I cn) ?_ ?_ ?_
    case refine_2 =>
      intro kk hkk he
      have hc : cn = l.length := by simp at he; omega
      have := s1 (by rw [q1]; simp [hc])
      simp -implicitDefEqProofs [e6]
      refine ⟨by omega, by omega, hkk _ ⟨by simp [this], by simp [e7], by simp [e9], by simp [e72], ?_, by simp [e73], by simp [e74], by simp, by simp⟩⟩
      simp [el]
      exact hmap _ fun v => rfl
    case refine_3 =>
      intro kk hkk he
      have hc : ¬ cn = l.length := by simp at he; omega
      have := s2 (by rw [q1]; simp [hc])
      exact hkk _ ⟨by simp [e6, this], by simp [e7], by simp [e9], by simp [e72], by simp [el], by simp [e73], by simp [e74], by simp, by simp⟩
    clear e6 e7 e9 e72 el e73 e74
    rintro s ⟨e6, e7, e9, e72, el, e73, e74, e18, e19⟩
    simp -implicitDefEqProofs [e19]
    by_cases hc : 0 < cn
    · have := s3 (by rw [q2]; simp [hc])
      simp -implicitDefEqProofs [hc, e7, e18, e74]
      refine ⟨by omega, by omega, i64 (by omega) (by omega), round_ok hlt ⟨by simp [e6], by simp [this], by simp [e9], by simp [e72], ?_, by simp [e73], by simp⟩⟩
      simp [el]
      exact hmap _ fun v => rfl
    · have := s4 (by rw [q2]; simp [hc])
      simp -implicitDefEqProofs [hc, e74]
      exact ⟨i64 (by omega) (by omega), round_ok hlt ⟨by simp [e6], by simp [e7, this], by simp [e9], by simp [e72], by simp [el], by simp [e73], by simp⟩⟩
  · obtain rfl : i = n := by omega
    simp -implicitDefEqProofs [e6, e7, r33, hR]
end Go.Proofs.Ytcfeipphmklakaa

