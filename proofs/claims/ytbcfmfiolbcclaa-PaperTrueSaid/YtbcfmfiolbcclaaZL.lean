/- Contracts of the laws' helpers: valid cases, turns, lists in lists. Contracts of the laws' helpers: any truth, what is told of it. Contracts of the laws' helpers: the latest year of a truth, a case without some of what is seen. Plain: what the program says, of each truth that agrees. -/
import Derived.Test.YtbcfmfiolbcclaaZI
namespace Go.Proofs.Ytbcfmfiolbcclaa
open Go.Avm

theorem valid36_ok (c : Case) : PCall Try.prog 36 [encCase c] (B (decide (errE c = 0))) := by
  refine pcall Try.func36 tr36 rs36 fn36 (by simp [Try.ntmps36]) fun _ => ?_
  have hc := checkR_ok c
  obtain ⟨E, hE⟩ : ∃ E, E = errE c := ⟨_, rfl⟩
  have hc : PCall Try.prog 16 [encCase c] (.tuple [I (checkS c).1, I (checkS c).2.1, I E]) := by rw [hE]; exact hc
  rw [← hE]
  simp -implicitDefEqProofs [m36]
  refine vCall_of hc ?_
  simp -implicitDefEqProofs [r36]
  by_cases h : E = 0 <;> simp [h]

/-- The n-th number of a list, by turns. -/
def turnS (l : List Int) (n : Nat) : Int := if l = [] then 0 else l.getD (n % l.length) 0
theorem turnS_range {l : List Int} (h : okU l) (n : Nat) : 0 ≤ turnS l n ∧ turnS l n ≤ 65535 := by
  unfold turnS
  split
  · simp
  · rename_i hn
    have hl := List.length_pos_iff.2 hn
    have hi := Nat.mod_lt n hl
    rw [show l.getD (n % l.length) 0 = l[n % l.length] by simp [hi]]
    exact h _ (List.getElem_mem hi)
theorem wrap_u {n : Int} (h : 0 ≤ n ∧ n ≤ 65535) : IntKind.wrap .i64 n = n := by
  simp [IntKind.wrap, IntKind.bits, IntKind.signed]
  omega

theorem turn78_ok {l : List Int} (h : okU l) (hl : l.length ≤ 140737488355328) (n : Nat) (hn : n < 1000000) : PCall Try.prog 78 [US l, I n] (I (turnS l n)) := by
  refine pcall Try.func78 tr78 rs78 fn78 (by simp [Try.ntmps78]) fun _ => ?_
  have hR : turnS l n = if l = [] then 0 else l.getD (n % l.length) 0 := rfl
  have hrg := turnS_range h n
  generalize turnS l n = R at *
  simp -implicitDefEqProofs [m78]
  by_cases hz : l = []
  · rw [if_pos hz] at hR
    simp -implicitDefEqProofs [hz, r78, hR]
  · rw [if_neg hz] at hR
    have hlp := List.length_pos_iff.2 hz
    have hi := Nat.mod_lt n hlp
    have hz' : ((l.length : Int) == 0) = false := by simp; exact hz
    have hm := tmod_nat n l.length
    have hl0 : ¬ l.length = 0 := by omega
    have v1 : (n : Int) % (l.length : Int) = ((n % l.length : Nat) : Int) := rfl
    have hg : l.getD (n % l.length) 0 = l[n % l.length] := by simp [hi]
    rw [hg] at hR
    rw [hR] at hrg
    have hw := wrap_u hrg
    generalize n % l.length = k at *
    simp -implicitDefEqProofs [hz', hz, hl0, hm, v1, hi, hw, r78, hR]

/-- Is a list among others? -/
theorem one39_ok (l : List (List Int)) (o : List Int) : PCall Try.prog 39 [ILL l, IL o] (B (decide (o ∈ l))) := by
  refine pcall Try.func39 tr39 rs39 fn39 (by simp [Try.ntmps39]) fun hfit => ?_
  have hl : l.length ≤ 140737488355328 := by simpa using fits_len (hfit 0)
  simp -implicitDefEqProofs [m39]
  refine loop_up l.length (fun k s => s.env 0 = ILL l ∧ s.env 1 = IL o ∧ s.env 5 = I k ∧ o ∉ l.take k) ?_ ?_
  · simp
  rintro k s hk ⟨e0, e1, e5, hno⟩
  simp -implicitDefEqProofs [e0, e5]
  refine cond_dec (fun hlt => ?_) (fun hge => ?_)
  · have hlt : k < l.length := by omega
    have hi := ints_ok l[k] o
    have htk := take_snoc hlt
    simp -implicitDefEqProofs [e0, e1, e5, hlt]
    refine vCall_of hi ?_
    by_cases he : l[k] = o
    · have hm : o ∈ l := by rw [← he]; exact List.getElem_mem hlt
      simp -implicitDefEqProofs [he, r39, hm]
    · simp -implicitDefEqProofs [he, e5]
      refine ⟨i64 (by omega) (by omega), round_ok hlt ?_⟩
      simp [e0, e1]
      rw [htk, List.mem_append, List.mem_singleton]
      exact fun h => h.elim hno fun h => he h.symm
  · obtain rfl : k = l.length := by omega
    rw [List.take_length] at hno
    simp -implicitDefEqProofs [r39, hno]

/-- Are all numbers of a list in another one? -/
theorem part40_ok (a b : List Int) : PCall Try.prog 40 [IL a, IL b] (B (decide (∀ x ∈ a, x ∈ b))) := by
  refine pcall Try.func40 tr40 rs40 fn40 (by simp [Try.ntmps40]) fun hfit => ?_
  have hl : a.length ≤ 140737488355328 := by simpa using fits_len (hfit 0)
  obtain ⟨R, hR⟩ : ∃ R, R = decide (∀ x ∈ a, x ∈ b) := ⟨_, rfl⟩
  rw [← hR]
  simp -implicitDefEqProofs [m40]
  refine loop_up a.length (fun k s => s.env 0 = IL a ∧ s.env 1 = IL b ∧ s.env 5 = I k ∧ ∀ x ∈ a.take k, x ∈ b) ?_ ?_
  · simp
  rintro k s hk ⟨e0, e1, e5, hno⟩
  simp -implicitDefEqProofs [e0, e5]
  refine cond_dec (fun hlt => ?_) (fun hge => ?_)
  · have hlt : k < a.length := by omega
    have hi := has_ok b a[k]
    have htk := take_snoc hlt
    simp -implicitDefEqProofs [e0, e1, e5, hlt]
    refine vCall_of hi ?_
    by_cases he : a[k] ∈ b
    · simp -implicitDefEqProofs [he, e5]
      refine ⟨i64 (by omega) (by omega), round_ok hlt ?_⟩
      simp [e0, e1]
      intro x hx
      rw [htk, List.mem_append, List.mem_singleton] at hx
      rcases hx with hx | rfl
      · exact hno x hx
      · exact he
    · have hRf : R = false := by
        rw [hR, decide_eq_false_iff_not]
        exact fun h => he (h _ (List.getElem_mem hlt))
      simp -implicitDefEqProofs [he, r40, hRf]
  · obtain rfl : k = a.length := by omega
    rw [List.take_length] at hno
    have hRt : R = true := by rw [hR, decide_eq_true_eq]; exact hno
    simp -implicitDefEqProofs [r40, hRt]

/-! ## Cases that differ in what is seen alone -/
theorem half_of {c : Case} (h : errE c = 0) : Half c ∧ (1 ≤ c.gath ∧ c.gath ≤ 5) ∧ ¬ (8 : Int) < c.seen.length ∧ ∀ j < c.seen.length, seenE c j = 0 := by
  have h : (checkS c).2.2 = 0 := h
  by_cases h1 : 1 ≤ c.run ∧ c.run ≤ 500
  case neg => rw [checkS_1 h1] at h; cases h
  by_cases h2 : 1 ≤ (c.stocks.length : Int) ∧ (c.stocks.length : Int) ≤ 4
  case neg => rw [checkS_2 h1 h2] at h; cases h
  unfold checkS at h
  rw [if_neg (not_not_intro h1), if_neg (not_not_intro h2)] at h
  cases h3 : errs (stockE c) c.stocks.length with
  | some p => rw [h3] at h; exact absurd h (errs_nz (i := p.1) (e := p.2) h3)
  | none =>
  rw [h3] at h
  have h3 := errs_zero h3
  simp only at h
  by_cases h4 : 1 ≤ (c.reams.length : Int) ∧ (c.reams.length : Int) ≤ 4
  case neg => rw [if_pos h4] at h; cases h
  rw [if_neg (not_not_intro h4)] at h
  cases h5 : errs (reamE c) c.reams.length with
  | some p => rw [h5] at h; exact absurd h (errs_nz (i := p.1) (e := p.2) h5)
  | none =>
  rw [h5] at h
  have h5 := errs_zero h5
  simp only at h
  by_cases h6 : 1 ≤ c.gath ∧ c.gath ≤ 5
  case neg => rw [if_pos h6] at h; cases h
  rw [if_neg (not_not_intro h6)] at h
  by_cases h7 : (8 : Int) < c.seen.length
  case pos => rw [if_pos h7] at h; cases h
  rw [if_neg h7] at h
  cases h8 : errs (seenE c) c.seen.length with
  | some p => rw [h8] at h; exact absurd h (errs_nz (i := p.1) (e := p.2) h8)
  | none => exact ⟨⟨h1, h2, h3, h4, h5⟩, h6, h7, errs_zero h8⟩

/-- A case of which other things are seen. -/
def withSeen (c : Case) (l : List (Int × Int)) : Case := { c with seen := l }
theorem withSeen_half {c : Case} (l : List (Int × Int)) (h : Half c) : Half (withSeen c l) := ⟨h.h1, h.h2, h.h3, h.h4, h.h5⟩
theorem withSeen_err {c : Case} (h : errE c = 0) {l : List (Int × Int)} (h8 : l.length ≤ 8) (hl : ∀ x ∈ l, (0 ≤ x.1 ∧ x.1 < c.gath) ∧ 0 ≤ x.2 ∧ x.2 < c.stocks.length) : errE (withSeen c l) = 0 := by
  obtain ⟨h1, h2, -, -⟩ := half_of h
  have h3 : checkS (withSeen c l) = (0, 0, 0) := checkS_9 (withSeen_half l h1) h2 (by show ¬ (8 : Int) < l.length; omega) fun j hj => by
    have hj : j < l.length := hj
    have hx := hl _ (List.getElem_mem hj)
    unfold seenE
    have e : (withSeen c l).seen.getD j (0, 0) = l[j] := by simp [withSeen, hj]
    rw [e, if_pos]
    exact ⟨⟨hx.1.1, by show l[j].1 ≤ c.gath - 1; omega⟩, hx.2.1, by show l[j].2 ≤ (c.stocks.length : Int) - 1; omega⟩
  rw [errE, h3]
end Go.Proofs.Ytbcfmfiolbcclaa

namespace Go.Proofs.Ytbcfmfiolbcclaa
open Go.Avm

def anyTru (c : Case) (x : Past) : List Int × List Int := ((pilesL c).getD ((turnS x.truth 0).toNat % (pilesL c).length) [], (ordersL c).getD ((turnS x.truth 1).toNat % (ordersL c).length) [])
theorem anyTru_mem {c : Case} (h : c.OK) (x : Past) (hp : pilesL c ≠ []) : (anyTru c x).1 ∈ pilesL c ∧ (anyTru c x).2 ∈ ordersL c := by
  have h1 := List.length_pos_iff.2 hp
  have h2 := List.length_pos_iff.2 (ordersL_ne h)
  have i1 := Nat.mod_lt (turnS x.truth 0).toNat h1
  have i2 := Nat.mod_lt (turnS x.truth 1).toNat h2
  unfold anyTru
  constructor
  · show (pilesL c).getD _ [] ∈ pilesL c
    rw [show (pilesL c).getD ((turnS x.truth 0).toNat % (pilesL c).length) [] = (pilesL c)[(turnS x.truth 0).toNat % (pilesL c).length] by simp [i1]]
    exact List.getElem_mem i1
  · show (ordersL c).getD _ [] ∈ ordersL c
    rw [show (ordersL c).getD ((turnS x.truth 1).toNat % (ordersL c).length) [] = (ordersL c)[(turnS x.truth 1).toNat % (ordersL c).length] by simp [i2]]
    exact List.getElem_mem i2
abbrev nilT : AV := .agg [.slice 1 [] 0, .slice 1 [] 0, .slice 1 [] 0]
abbrev anyAV (c : Case) (x : Past) : AV := if pilesL c = [] then .tuple [nilT, B false] else .tuple [encT c (anyTru c x), B true]

theorem any37_ok {c : Case} (h : c.OK) {x : Past} (hx : x.OK) : PCall Try.prog 37 [encCase c, encPast x] (anyAV c x) := by
  refine pcall Try.func37 tr37 rs37 fn37 (by simp [Try.ntmps37]) fun _ => ?_
  have hp := piles_ok c h
  have hg := h.gath
  obtain ⟨g, hgn⟩ : ∃ g : Nat, c.gath = g := ⟨c.gath.toNat, by omega⟩
  have hgt : c.gath.toNat = g := by omega
  have hall := all_ok g (by omega)
  have hall : PCall Try.prog 77 [I c.gath] (ILL (ordersL c)) := by
    have e : ordersL c = allO g g := by unfold ordersL; rw [hgt]
    rw [e, hgn]; exact hall
  have t0 := turn78_ok hx.truth.1 hx.truth.2 0 (by omega)
  have t1 := turn78_ok hx.truth.1 hx.truth.2 1 (by omega)
  have z0 := turnS_range hx.truth.1 0
  have z1 := turnS_range hx.truth.1 1
  have hpp : pilesL c ≠ [] → PCall Try.prog 79 [encCase c, IL (anyTru c x).1] (ILL (placesL c (anyTru c x).1)) := fun hn => places_ok c h _ (pilesL_ok h (anyTru_mem h x hn).1)
  have hon := ordersL_ne h
  obtain ⟨R, hRR⟩ : ∃ R, R = anyAV c x := ⟨_, rfl⟩
  rw [← hRR]
  simp -implicitDefEqProofs [m37]
  intro b4
  refine vCall_of hp ?_
  simp -implicitDefEqProofs
  refine vCall_of hall ?_
  by_cases hz : pilesL c = []
  · have hRR : R = .tuple [nilT, B false] := hRR.trans (if_pos hz)
    simp -implicitDefEqProofs [hz, r37, hRR]
  · have hpp := hpp hz
    have l1 := List.length_pos_iff.2 hz
    have l2 := List.length_pos_iff.2 hon
    have i1 := Nat.mod_lt (turnS x.truth 0).toNat l1
    have i2 := Nat.mod_lt (turnS x.truth 1).toNat l2
    have a1 : (anyTru c x).1 = (pilesL c)[(turnS x.truth 0).toNat % (pilesL c).length] := by simp [anyTru, i1]
    have a2 : (anyTru c x).2 = (ordersL c)[(turnS x.truth 1).toNat % (ordersL c).length] := by simp [anyTru, i2]
    have hRR : R = .tuple [encT c (anyTru c x), B true] := hRR.trans (if_neg hz)
    generalize anyTru c x = t at *
    obtain ⟨p, o⟩ := t
    simp only at a1 a2 hpp
    obtain ⟨u0, hu0⟩ : ∃ u : Nat, turnS x.truth 0 = u := ⟨(turnS x.truth 0).toNat, by omega⟩
    obtain ⟨u1, hu1⟩ : ∃ u : Nat, turnS x.truth 1 = u := ⟨(turnS x.truth 1).toNat, by omega⟩
    have t0 : PCall Try.prog 78 [US x.truth, I 0] (I u0) := by rw [← hu0]; exact t0
    have t1 : PCall Try.prog 78 [US x.truth, I 1] (I u1) := by rw [← hu1]; exact t1
    have e0 : (turnS x.truth 0).toNat = u0 := by omega
    have e1 : (turnS x.truth 1).toNat = u1 := by omega
    simp only [e0] at i1 a1
    simp only [e1] at i2 a2
    have q0 := tmod_nat u0 (pilesL c).length
    have q1 := tmod_nat u1 (ordersL c).length
    have v0 : (u0 : Int) % ((pilesL c).length : Int) = ((u0 % (pilesL c).length : Nat) : Int) := rfl
    have v1 : (u1 : Int) % ((ordersL c).length : Int) = ((u1 % (ordersL c).length : Nat) : Int) := rfl
    have hz' : (((pilesL c).length : Int) == 0) = false := by simp; exact hz
    obtain ⟨k0, hk0, j1, b1⟩ : ∃ k0, u0 % (pilesL c).length = k0 ∧ ∃ h : k0 < (pilesL c).length, p = (pilesL c)[k0]'h := ⟨_, rfl, i1, a1⟩
    obtain ⟨k1, hk1, j2, b2⟩ : ∃ k1, u1 % (ordersL c).length = k1 ∧ ∃ h : k1 < (ordersL c).length, o = (ordersL c)[k1]'h := ⟨_, rfl, i2, a2⟩
    clear a1 a2 i1 i2
    rw [hk0] at q0 v0
    rw [hk1] at q1 v1
    simp -implicitDefEqProofs [hz']
    refine vCall_of t0 ?_
    simp -implicitDefEqProofs [hz, q0, v0, j1, ← b1]
    refine vCall_of t1 ?_
    simp -implicitDefEqProofs [hon, q1, v1, j2, ← b2]
    refine vCall_of hpp ?_
    simp -implicitDefEqProofs [r37, hRR]

def vStoreNil (P : Program) (ms : List MOp) (K : St → Prop) (s : St) (oid sz off b : Nat) : Option (List AV) → Prop
  | some cs => off < cs.length ∧ vcs P ms K ((s.dem oid).new b ((cs.map (demote oid)).set off (.slice sz [] oid)))
  | none => False
def vStoreN (P : Program) (ms : List MOp) (K : St → Prop) (s : St) (oid sz : Nat) : AV → Prop
  | .mref b off => vStoreNil P ms K s oid sz off b (s.loc b)
  | _ => False
theorem v_storeNil (P : Program) (ms : List MOp) (K : St → Prop) (s : St) (x : MArg) (sz oid : Nat) : vcs P (.storeNil x sz oid :: ms) K s = vStoreN P ms K s oid sz (x.ev s.env) := by
  unfold vStoreN vStoreNil; rfl
attribute [simp] v_storeNil vStoreN vStoreNil

/-- The stock that is told of a place. -/
def toldS (c : Case) (t : List Int × List Int) (bits n a b : Nat) : Int :=
  let q := a % t.2.length
  let l := (placesL c t.1).getD q []
  let s := l.getD (b % l.length) 0
  if bits.testBit n then ((s.toNat + 1) % c.stocks.length : Nat) else s
def toldAt (c : Case) (t : List Int × List Int) (bits : Nat) (l : List Int) (j : Nat) : Int × Int :=
  (t.2.getD ((l.getD (2 * j) 0).toNat % t.2.length) 0, toldS c t bits j (l.getD (2 * j) 0).toNat (l.getD (2 * j + 1) 0).toNat)
def toldUp (c : Case) (t : List Int × List Int) (bits : Nat) (l : List Int) (k : Nat) : List (Int × Int) := (List.range k).map (toldAt c t bits l)
theorem toldUp_succ (c : Case) (t : List Int × List Int) (bits : Nat) (l : List Int) (k : Nat) : toldUp c t bits l (k + 1) = toldUp c t bits l k ++ [toldAt c t bits l k] := by simp [toldUp, List.range_succ]
theorem toldUp_len (c : Case) (t : List Int × List Int) (bits : Nat) (l : List Int) (k : Nat) : (toldUp c t bits l k).length = k := by simp [toldUp]
def toldN (l : List Int) : Nat := min 8 (l.length / 2)
def toldC (c : Case) (t : List Int × List Int) (x : Past) (bits : Nat) : Case := withSeen c (toldUp c t bits x.looked (toldN x.looked))

/-- Each place of a pile that is high enough has a stock. -/
theorem place_some {c : Case} (h : c.OK) {p : List Int} (hp : p ∈ pilesL c) {q : Nat} (hq : q < c.gath.toNat) : stocksAt c p q c.stocks.length ≠ [] := by
  have hpo := pilesL_ok h hp
  have hsum := ((mem_pilesL h).1 hp).2
  have hrun := h.run
  have hg := h.gath
  have hq1 : ((q : Int) + 1) * c.run ≤ p.sum := by
    refine Int.le_trans ?_ hsum
    rw [Int.mul_comm]
    exact Int.mul_le_mul_of_nonneg_left (by omega) (by omega)
  have hq0 : 0 ≤ (q : Int) * c.run := Int.mul_nonneg (by omega) (by omega)
  have hq2 : ((q : Int) + 1) * c.run = (q : Int) * c.run + c.run := by rw [Int.add_mul]; omega
  -- the first ream that reaches beyond q * run
  have key : ∀ k, k ≤ p.length → (q : Int) * c.run < (p.take k).sum → ∃ i, i < k ∧ (p.take i).sum ≤ (q : Int) * c.run ∧ (q : Int) * c.run < (p.take (i + 1)).sum := by
    intro k
    induction k with
    | zero => intro _ h; simp at h; omega
    | succ k ih =>
      intro hk hs
      by_cases hh : (q : Int) * c.run < (p.take k).sum
      · obtain ⟨i, h1, h2⟩ := ih (by omega) hh
        exact ⟨i, by omega, h2⟩
      · exact ⟨k, by omega, by omega, hs⟩
  obtain ⟨i, h1, h2, h3⟩ := key p.length (Nat.le_refl _) (by rw [List.take_length]; omega)
  have hil : i < c.reams.length := by rw [← hpo.len]; exact h1
  have hr := h.ream hil
  have hs : (p.take i).sum + p[i] = (p.take (i + 1)).sum := by rw [take_snoc h1, List.sum_append]; simp
  have hc : covers c p q i = true := by
    unfold covers
    rw [show p.getD i 0 = p[i] by simp [h1], Bool.and_eq_true, decide_eq_true_eq, decide_eq_true_eq]
    constructor <;> omega
  refine List.ne_nil_of_mem (a := c.reams[i].stock) (mem_stocksAt.2 ⟨hr.1, hr.2.1, ?_⟩)
  unfold covUp
  rw [List.any_eq_true]
  refine ⟨i, by simpa using h1, ?_⟩
  unfold cov
  rw [hc, Bool.and_true, decide_eq_true_eq]
  simp [hil]
  omega

theorem bit_u8 : ∀ b : Nat, b < 256 → ∀ k : Nat, k < 8 → ((Int.fdiv (b : Int) (2 ^ (min k (IntKind.bits .u8)))).tmod 2 == 1) = b.testBit k := by decide +kernel

/-- A truth that a law is told of. -/
structure TruIn (c : Case) (t : List Int × List Int) : Prop where
  pile : t.1 ∈ pilesL c
  order : t.2 ∈ ordersL c
theorem TruIn.len {c : Case} {t : List Int × List Int} (ht : TruIn c t) : t.2.length = c.gath.toNat := (allO_each _ _ _ ht.order).1

theorem told38_ok {c : Case} (h : c.OK) {t : List Int × List Int} (ht : TruIn c t) {x : Past} (hx : x.OK) {bits : Nat} (hb : bits < 256) :
    PCall Try.prog 38 [encCase c, encT c t, encPast x, V bits] (encCase (toldC c t x bits)) := by
  refine pcall Try.func38 tr38 rs38 fn38 (by simp [Try.ntmps38]) fun _ => ?_
  have hg := h.gath
  have hs4 := h.stocks
  have hol := ht.len
  have hlk := hx.looked
  have hpl := placesL_len c t.1
  have hps := fun (q : Nat) (hq : q < c.gath.toNat) => place_some h ht.pile hq
  have hse := fun (q : Nat) => stocksAt_len c t.1 q c.stocks.length
  have hC : encCase (toldC c t x bits) = .agg [I c.run, .slice 3 (c.stocks.map encStock) 0, .slice 3 (c.reams.map encReam) 0, I c.gath, .slice 2 ((toldUp c t bits x.looked (toldN x.looked)).map encSeen) 0] := rfl
  rw [hC]
  have hupS := toldUp_succ c t bits x.looked
  have hlenU := toldUp_len c t bits x.looked
  obtain ⟨L, hL⟩ : ∃ L, L = x.looked := ⟨_, rfl⟩
  rw [← hL] at hlk hupS hlenU ⊢
  have hNe : toldN L = min 8 (L.length / 2) := rfl
  obtain ⟨N, hN⟩ : ∃ N, N = toldN L := ⟨_, rfl⟩
  rw [← hN] at hNe ⊢
  simp -implicitDefEqProofs [m38, ← hL]
  intro b4 b8 h84
  have n48 : ¬ b4 = b8 := fun e => h84 e.symm
  simp -implicitDefEqProofs [n48]
  refine loop_up N (fun k s => s.env 3 = V bits ∧ s.env 4 = .mref b4 0 ∧ s.env 5 = .ref [IL t.1, IL t.2, ILL (placesL c t.1)] ∧ s.env 6 = .ref [US x.truth, US x.years, US L] ∧ s.env 8 = .mref b8 0 ∧ s.env 9 = I (2 * k) ∧
    s.loc b4 = some [I c.run, .slice 3 (c.stocks.map encStock) 0, .slice 3 (c.reams.map encReam) 0, I c.gath, .slice 2 ((toldUp c t bits L k).map encSeen) 5004] ∧
    s.loc b8 = some [I 0, .slice 3 [] 9001, .slice 3 [] 9002, I 0, .slice 2 [] 9004]) ?_ ?_
  · simp [n48, h84, toldUp]
  rintro k s hk ⟨e3, e4, e5, e6, e8, e9, l4, l8⟩
  have hlk2 := hlenU k
  obtain ⟨i, hi⟩ : ∃ i, i = 2 * k := ⟨_, rfl⟩
  have e9 : s.env 9 = I (i : Nat) := by rw [e9, hi]; simp
  by_cases hlt : k < N
  · have h1 : i < L.length := by omega
    have h2 : i + 1 < L.length := by omega
    have h2' : (i : Int) + 1 < (L.length : Int) := by omega
    have h3 : (k : Int) < 8 := by omega
    have hto := hupS k
    have hA : toldAt c t bits L k = (t.2.getD (L[i].toNat % t.2.length) 0, toldS c t bits k L[i].toNat L[i + 1].toNat) := by
      unfold toldAt
      rw [← hi, show L.getD i 0 = L[i] by simp [h1], show L.getD (i + 1) 0 = L[i + 1] by simp [h2]]
    rw [hA] at hto
    have ra := hlk.1 _ (List.getElem_mem h1)
    have rb := hlk.1 _ (List.getElem_mem h2)
    have wa := wrap_u ra
    have wb := wrap_u rb
    generalize hLa : L[i] = a at *
    generalize hLb : L[i + 1] = b at *
    obtain ⟨a, rfl⟩ : ∃ a' : Nat, a = a' := ⟨a.toNat, by omega⟩
    obtain ⟨b, rfl⟩ : ∃ b' : Nat, b = b' := ⟨b.toNat, by omega⟩
    rw [Int.toNat_natCast, Int.toNat_natCast] at hto
    have hG : 0 < t.2.length := by omega
    have hq := Nat.mod_lt a hG
    have tq := tmod_nat a t.2.length
    have vq : (a : Int) % (t.2.length : Int) = ((a % t.2.length : Nat) : Int) := rfl
    have hG0 : ¬ t.2.length = 0 := by omega
    have hts : toldS c t bits k a b = if bits.testBit k then ((((((placesL c t.1).getD (a % t.2.length) []).getD (b % ((placesL c t.1).getD (a % t.2.length) []).length) 0).toNat + 1) % c.stocks.length : Nat) : Int) else ((placesL c t.1).getD (a % t.2.length) []).getD (b % ((placesL c t.1).getD (a % t.2.length) []).length) 0 := by
      rfl
    generalize hqq : a % t.2.length = q at *
    have hqg : q < c.gath.toNat := by omega
    have hqp : q < (placesL c t.1).length := by omega
    have hgp := placesL_at (c := c) t.1 hqg
    rw [hgp] at hts
    have hpq : (placesL c t.1)[q] = stocksAt c t.1 q c.stocks.length := by rw [← hgp]; simp [hqp]
    have hne := hps q hqg
    have hmem := fun x => @mem_stocksAt c t.1 q c.stocks.length x
    have hlen := hse q
    generalize stocksAt c t.1 q c.stocks.length = ps at *
    have hP := List.length_pos_iff.2 hne
    have hr := Nat.mod_lt b hP
    have tr := tmod_nat b ps.length
    have vr : (b : Int) % (ps.length : Int) = ((b % ps.length : Nat) : Int) := rfl
    have hP0 : ¬ ps.length = 0 := by omega
    generalize hrr : b % ps.length = r at *
    rw [show ps.getD r 0 = ps[r] by simp [hr]] at hts
    have hs := (hmem ps[r]).1 (List.getElem_mem hr)
    generalize hpr : ps[r] = v at *
    obtain ⟨v, rfl⟩ : ∃ v' : Nat, v = v' := ⟨v.toNat, by omega⟩
    rw [Int.toNat_natCast] at hts
    have hb8 := bit_u8 bits hb k (by omega)
    have ho1 : t.2.getD q 0 = t.2[q] := by simp [hq]
    rw [ho1] at hto
    simp -implicitDefEqProofs [e3, e4, e5, e6, e9, l4, hlk2, h1, h2, h2', h3, hLa, hLb, wa, wb, tq, vq, hG0, hq, hqp, hpq, hne, tr, vr, hP0, hr, hpr, hb8]
    refine ⟨i64 (by omega) (by omega), by omega, ?_⟩
    refine cond_bool (fun hbt => ?_) (fun hbt => ?_)
    · rw [if_pos hbt] at hts
      have hsn : ¬ c.stocks = [] := by intro e; rw [e] at hs4; simp at hs4
      have tv : ((v : Int) + 1).tmod (c.stocks.length : Int) = (((v + 1) % c.stocks.length : Nat) : Int) := by
        have := tmod_nat (v + 1) c.stocks.length
        rw [← this]; simp
      have vv : ((v : Int) + 1) % (c.stocks.length : Int) = (((v + 1) % c.stocks.length : Nat) : Int) := by simp
      generalize hww : (v + 1) % c.stocks.length = w at *
      have hse := seen35_ok t.2[q] w
      simp -implicitDefEqProofs [e4, e5, l4, hq, hsn, tv, vv]
      refine ⟨i64 (by omega) (by omega), vCall_of hse ?_⟩
      simp -implicitDefEqProofs [e4, e9, l4]
      refine ⟨by omega, by omega, i64 (by omega) (by omega), round_ok hlt ?_⟩
      have hi2 : (i : Int) + 2 = 2 * ((k : Int) + 1) := by omega
      simp [e3, e4, e5, e6, e8, l8, n48, h84, hto, hts, hi2]
    · rw [if_neg (by rw [hbt]; simp)] at hts
      have hse := seen35_ok t.2[q] v
      simp -implicitDefEqProofs [e4, e5, l4, hq]
      refine vCall_of hse ?_
      simp -implicitDefEqProofs [e4, e9, l4]
      refine ⟨by omega, by omega, i64 (by omega) (by omega), round_ok hlt ?_⟩
      have hi2 : (i : Int) + 2 = 2 * ((k : Int) + 1) := by omega
      simp [e3, e4, e5, e6, e8, l8, n48, h84, hto, hts, hi2]
  · obtain rfl : k = N := by omega
    by_cases hlen : (i : Int) + 1 < (L.length : Int)
    · have h3 : ¬ (k : Int) < 8 := by omega
      simp -implicitDefEqProofs [e4, e6, e9, l4, hlk2, hlen, h3, e8, l8, n48, h84, r38]
      exact i64 (by omega) (by omega)
    · simp -implicitDefEqProofs [e6, e9, hlen, e4, l4, e8, l8, n48, h84, r38]
      exact i64 (by omega) (by omega)
end Go.Proofs.Ytbcfmfiolbcclaa

namespace Go.Proofs.Ytbcfmfiolbcclaa
open Go.Avm

/-- The year in which a stock was made, by turns. -/
def yrOf (c : Case) (x : List Int) (s : Int) : Int := (c.stocks.map Stock.lo).getD s.toNat 0 + turnS x s.toNat % ((c.stocks.map Stock.hi).getD s.toNat 0 - (c.stocks.map Stock.lo).getD s.toNat 0 + 1)
def yrG (c : Case) (x : List Int) (l : List Int) (a : Int) : Int := l.foldl (fun a i => max a (yrOf c x i)) a
theorem yrG_snoc (c : Case) (x : List Int) (l : List Int) (a i : Int) : yrG c x (l ++ [i]) a = max (yrG c x l a) (yrOf c x i) := by simp [yrG]
def yrF (c : Case) (x : List Int) (pl : List (List Int)) : Int := pl.foldl (fun a l => yrG c x l a) 0
theorem yrF_snoc (c : Case) (x : List Int) (pl : List (List Int)) (l : List Int) : yrF c x (pl ++ [l]) = yrG c x l (yrF c x pl) := by simp [yrF]

theorem latest43_ok {c : Case} (h : c.OK) (t : List Int × List Int) {x : List Int} (hx : okU x) (hxl : x.length ≤ 140737488355328) :
    PCall Try.prog 43 [encCase c, encT c t, US x] (I (yrF c x (placesL c t.1))) := by
  show PCall Try.prog 43 [encCase c, .agg [IL t.1, IL t.2, ILL (placesL c t.1)], US x] (I (yrF c x (placesL c t.1)))
  have hpe := placesL_each h t.1
  have hmade := h.made
  have hs4 := h.stocks
  have htn := fun n (hn : n < 1000000) => turn78_ok hx hxl n hn
  have htr := fun n => turnS_range hx n
  generalize placesL c t.1 = pl at *
  obtain ⟨hl, hpl⟩ := hpe
  refine pcall Try.func43 tr43 rs43 fn43 (by simp [Try.ntmps43]) fun _ => ?_
  simp -implicitDefEqProofs [m43]
  refine loop_up pl.length (fun k s => s.env 3 = caseRef c ∧ s.env 4 = .ref [IL t.1, IL t.2, ILL pl] ∧ s.env 2 = US x ∧ s.env 7 = I (yrF c x (pl.take k)) ∧ s.env 8 = I k) ?_ ?_
  · simp [yrF]
  rintro k s hk ⟨e3, e4, e2, e7, e8⟩
  simp -implicitDefEqProofs [e4, e8]
  refine cond_dec (fun hlt => ?_) (fun hge => ?_)
  · have hlt : k < pl.length := by omega
    have hp := hpl _ (List.getElem_mem hlt)
    have s1 := yrF_snoc c x (pl.take k) pl[k]
    rw [← take_snoc hlt] at s1
    generalize hpk : pl[k] = l at *
    generalize yrF c x (pl.take k) = A at *
    simp -implicitDefEqProofs
    refine loop_up l.length (fun j s => s.env 3 = caseRef c ∧ s.env 4 = .ref [IL t.1, IL t.2, ILL pl] ∧ s.env 2 = US x ∧ s.env 7 = I (yrG c x (l.take j) A) ∧ s.env 8 = I k ∧ s.env 9 = I j) ?_ ?_
    · simp [e3, e4, e2, e7, e8, yrG]
    rintro j s hj ⟨e3, e4, e2, e7, e8, e9⟩
    simp -implicitDefEqProofs [e4, e8, e9, hlt, hpk]
    refine cond_dec (fun hlt2 => ?_) (fun hge2 => ?_)
    · have hlt2 : j < l.length := by omega
      have hy := hp.2 _ (List.getElem_mem hlt2)
      have w1 := yrG_snoc c x (l.take j) A l[j]
      rw [← take_snoc hlt2] at w1
      generalize hlj : l[j] = z at *
      obtain ⟨y, rfl⟩ : ∃ y : Nat, z = y := ⟨z.toNat, by omega⟩
      have hy : y < c.stocks.length := by omega
      have hm := hmade _ (List.getElem_mem hy)
      have ht := htn y (by omega)
      have hr := htr y
      have hY : yrOf c x y = c.stocks[y].lo + turnS x y % (c.stocks[y].hi - c.stocks[y].lo + 1) := by simp [yrOf, hy]
      rw [hY] at w1
      have hem := Int.tmod_eq_emod_of_nonneg (a := turnS x y) (b := c.stocks[y].hi - c.stocks[y].lo + 1) hr.1
      have h0 := Int.emod_nonneg (turnS x y) (b := c.stocks[y].hi - c.stocks[y].lo + 1) (by omega)
      have h1 := Int.emod_lt_of_pos (turnS x y) (b := c.stocks[y].hi - c.stocks[y].lo + 1) (by omega)
      generalize turnS x y = T at *
      generalize hst : c.stocks[y] = st at *
      simp -implicitDefEqProofs [e3, e4, e8, e9, hlt, hpk, hlt2, hlj, hy, hst]
      intro b11 h11
      simp -implicitDefEqProofs [e2, e7]
      refine vCall_of ht ?_
      simp -implicitDefEqProofs [hem]
      refine ⟨i64 (by omega) (by omega), i64 (by omega) (by omega), by omega, i64 (by omega) (by omega), ?_⟩
      simp -implicitDefEqProofs [e7, e9]
      refine ⟨i64 (by omega) (by omega), round_ok hlt2 ?_⟩
      simp [e3, e4, e2, e8, w1]
      omega
    · obtain rfl : j = l.length := by omega
      rw [List.take_length, ← s1] at e7
      simp -implicitDefEqProofs [e8]
      refine ⟨i64 (by omega) (by omega), round_ok hlt ?_⟩
      simp [e3, e4, e2, e7]
  · obtain rfl : k = pl.length := by omega
    rw [List.take_length] at e7
    simp -implicitDefEqProofs [e7, r43]

end Go.Proofs.Ytbcfmfiolbcclaa

namespace Go.Proofs.Ytbcfmfiolbcclaa
open Go.Avm

theorem mem_truA {c : Case} (h : c.OK) {but : Nat} {x : List Int × List Int} : x ∈ truL c but ↔ x.1 ∈ pilesL c ∧ x.2 ∈ ordersL c ∧ Agr c but.testBit x.1 x.2 := by
  rw [mem_truL, mem_pilesP h]
  constructor
  · rintro ⟨h1, h2, h3⟩
    exact ⟨h1, h2, (fits_iff h (pilesL_ok h h1) fun y hy => ((allO_each _ _ _ h2).2.2 y hy).1).1 h3⟩
  · rintro ⟨h1, h2, h3⟩
    exact ⟨h1, h2, (fits_iff h (pilesL_ok h h1) fun y hy => ((allO_each _ _ _ h2).2.2 y hy).1).2 h3⟩

/-- The place of the gathering at a place. -/
theorem at_self {o : List Int} (hn : o.Nodup) {q : Nat} (hq : q < o.length) : at' o o[q] = q := by
  obtain ⟨k, hk, h1, h2⟩ := at_mem (List.getElem_mem hq)
  rw [h1, (List.getElem_inj hn).1 h2]

theorem orders_say {c : Case} (he : errE c = 0) (hn : truL c 0 ≠ []) : ordersS c = (waysP c, 0) := by
  unfold ordersS
  rw [if_neg (by simpa using he), if_neg fun e => hn (ways_nil.1 e)]
theorem orders_no {c : Case} (he : errE c = 0) (hn : truL c 0 = []) : ordersS c = ([], 8) := by
  unfold ordersS
  rw [if_neg (by simpa using he), if_pos (ways_nil.2 hn)]
theorem orders_err {c : Case} (he : errE c ≠ 0) : ordersS c = ([], errE c) := by
  unfold ordersS
  rw [if_pos he]
theorem ways_mem {c : Case} {t : List Int × List Int} (ht : t ∈ truL c 0) : t.2 ∈ waysP c := mem_waysP.2 ⟨t.1, ht⟩

theorem left_say {c : Case} (he : errE c = 0) (hn : truL c 0 ≠ []) : (leftS c).e = 0 ∧ Span (fun m => ∃ x ∈ truL c 0, m = leftOf c x) (leftS c).a (leftS c).b ∧ Span (fun m => ∃ x ∈ truL c 0, m = begunOf c x) (leftS c).x (leftS c).y := by
  have h1 := ends_span (leftOf c) hn
  have h2 := ends_span (begunOf c) hn
  have e : leftS c = ⟨(endsL (leftOf c) (truL c 0)).lo, (endsL (leftOf c) (truL c 0)).hi, (endsL (begunOf c) (truL c 0)).lo, (endsL (begunOf c) (truL c 0)).hi, 0⟩ := by
    unfold leftS
    rw [if_neg (by simpa using he), if_neg hn]
  rw [e]
  exact ⟨rfl, h1, h2⟩
theorem year_say {c : Case} (he : errE c = 0) (hn : truL c 0 ≠ []) : (yearS c).e = 0 ∧ Span (fun m => ∃ n ∈ (truL c 0).flatMap (yearsOf c), m = n) (yearS c).a (yearS c).b := by
  have h1 := yearE_span (c := c) hn
  have e : yearS c = ⟨(yearE c (truL c 0)).lo, (yearE c (truL c 0)).hi, 0⟩ := by
    unfold yearS
    rw [if_neg (by simpa using he), if_neg hn]
  rw [e]
  exact ⟨rfl, h1⟩
theorem stocks_say {c : Case} (he : errE c = 0) (hn : truL c 0 ≠ []) {g : Int} (hg : 0 ≤ g ∧ g < c.gath) : stocksS c g = (sureR c (truR c) g, mayR c (truR c) g, 0) := by
  have hok := err_ok he
  unfold stocksS
  rw [if_neg (by simpa using he), out1, if_neg (by simp; omega), if_neg hn, sure_eq hok hg hn, may_eq hok hg]
/-- The stocks of a gathering in a truth. -/
def stocksOf (c : Case) (g : Int) (t : List Int × List Int) : List Int := (placesL c t.1).getD (at' t.2 g).toNat []
theorem stocksOf_range {c : Case} (h : c.OK) {g : Int} {t : List Int × List Int} {s : Int} (hs : s ∈ stocksOf c g t) : 0 ≤ s ∧ s < c.stocks.length := by
  unfold stocksOf at hs
  by_cases hq : (at' t.2 g).toNat < (placesL c t.1).length
  · rw [show (placesL c t.1).getD (at' t.2 g).toNat [] = (placesL c t.1)[(at' t.2 g).toNat] by simp [hq]] at hs
    exact ((placesL_each h t.1).2 _ (List.getElem_mem hq)).2 _ hs
  · rw [show (placesL c t.1).getD (at' t.2 g).toNat [] = [] by simp [Nat.le_of_not_lt hq]] at hs
    cases hs

theorem mem_sure {c : Case} (h : c.OK) {g s : Int} (hn : truL c 0 ≠ []) : s ∈ sureR c (truR c) g ↔ ∀ t ∈ truL c 0, s ∈ stocksOf c g t := by
  have key : ∀ j : Nat, sureQ c (truR c) g j = true ↔ ∀ t ∈ truL c 0, (j : Int) ∈ stocksOf c g t := by
    intro j
    unfold sureQ manyN
    rw [decide_eq_true_eq, List.length_filter_eq_length_iff]
    constructor
    · intro hh t ht; exact of_decide_eq_true (hh t ((mem_tru h).2 ht))
    · intro hh t ht; exact decide_eq_true (hh t ((mem_tru h).1 ht))
  constructor
  · intro hs
    obtain ⟨j, rfl, h1, h2⟩ := selT_mem hs
    exact (key j).1 h2
  · intro hs
    obtain ⟨t, ht⟩ := List.exists_mem_of_ne_nil _ hn
    have hr := stocksOf_range h (hs t ht)
    obtain ⟨j, rfl⟩ : ∃ j : Nat, s = j := ⟨s.toNat, by omega⟩
    exact mem_selT.2 ⟨by omega, (key j).2 hs⟩
theorem mem_may {c : Case} (h : c.OK) {g s : Int} : s ∈ mayR c (truR c) g ↔ ∃ t ∈ truL c 0, s ∈ stocksOf c g t := by
  have key : ∀ j : Nat, mayQ c (truR c) g j = true ↔ ∃ t ∈ truL c 0, (j : Int) ∈ stocksOf c g t := by
    intro j
    unfold mayQ manyN
    rw [decide_eq_true_eq, List.length_filter_pos_iff]
    constructor
    · rintro ⟨t, ht, hh⟩; exact ⟨t, (mem_tru h).1 ht, of_decide_eq_true hh⟩
    · rintro ⟨t, ht, hh⟩; exact ⟨t, (mem_tru h).2 ht, decide_eq_true hh⟩
  constructor
  · intro hs
    obtain ⟨j, rfl, h1, h2⟩ := selT_mem hs
    exact (key j).1 h2
  · rintro ⟨t, ht, hs⟩
    have hr := stocksOf_range h hs
    obtain ⟨j, rfl⟩ : ∃ j : Nat, s = j := ⟨s.toNat, by omega⟩
    exact mem_selT.2 ⟨by omega, (key j).2 ⟨t, ht, hs⟩⟩

/-! ## The years -/
theorem max_fold_le {g g' : Int → Int} : ∀ (l : List Int) (a a' : Int), a ≤ a' → (∀ i ∈ l, g i ≤ g' i) → l.foldl (fun a i => max a (g i)) a ≤ l.foldl (fun a i => max a (g' i)) a'
  | [], a, a', h, _ => h
  | x :: l, a, a', h, hg => by
    have hx := hg x (by simp)
    rw [List.foldl_cons, List.foldl_cons]
    exact max_fold_le l _ _ (by omega) fun i hi => hg i (by simp [hi])
theorem yrF_flat (c : Case) (x : List Int) : ∀ (pl : List (List Int)) (a : Int), pl.foldl (fun a l => yrG c x l a) a = pl.flatten.foldl (fun a i => max a (yrOf c x i)) a
  | [], a => rfl
  | l :: pl, a => by
    rw [List.foldl_cons, yrF_flat c x pl, List.flatten_cons, List.foldl_append]
    rfl
theorem yr_in {c : Case} (h : c.OK) {x : List Int} (hx : okU x) {p : List Int} (hp : PileOK c p) : yearLo c p ≤ yrF c x (placesL c p) ∧ yrF c x (placesL c p) ≤ yearHi c p := by
  have hm := h.made
  have key : ∀ i ∈ (placesL c p).flatten, (c.stocks.map Stock.lo).getD i.toNat 0 ≤ yrOf c x i ∧ yrOf c x i ≤ (c.stocks.map Stock.hi).getD i.toNat 0 := by
    intro i hi
    obtain ⟨l, hl, hil⟩ := List.mem_flatten.1 hi
    have hr := ((placesL_each h p).2 l hl).2 i hil
    obtain ⟨y, rfl⟩ : ∃ y : Nat, i = y := ⟨i.toNat, by omega⟩
    have hy : y < c.stocks.length := by omega
    have hm := hm _ (List.getElem_mem hy)
    have ht := turnS_range hx y
    have hY : yrOf c x y = c.stocks[y].lo + turnS x y % (c.stocks[y].hi - c.stocks[y].lo + 1) := by simp [yrOf, hy]
    have h0 := Int.emod_nonneg (turnS x y) (b := c.stocks[y].hi - c.stocks[y].lo + 1) (by omega)
    have h1 := Int.emod_lt_of_pos (turnS x y) (b := c.stocks[y].hi - c.stocks[y].lo + 1) (by omega)
    rw [hY, show (c.stocks.map Stock.lo).getD (y : Int).toNat 0 = c.stocks[y].lo by simp [hy], show (c.stocks.map Stock.hi).getD (y : Int).toNat 0 = c.stocks[y].hi by simp [hy]]
    omega
  have e : ∀ f, latL f c (bitsL (setM c p)) = (placesL c p).flatten.foldl (fun a i => max a ((c.stocks.map f).getD i.toNat 0)) 0 := fun f => by
    rw [← lat_eq h hp, latF, latF_flat]
  unfold yearLo yearHi yrF
  rw [e, e, yrF_flat]
  exact ⟨max_fold_le _ 0 0 (by omega) fun i hi => (key i hi).1, max_fold_le _ 0 0 (by omega) fun i hi => (key i hi).2⟩
theorem year_each {c : Case} (he : errE c = 0) {t : List Int × List Int} (ht : t ∈ truL c 0) : (yearS c).a ≤ yearLo c t.1 ∧ yearHi c t.1 ≤ (yearS c).b := by
  have h := (year_say he (List.ne_nil_of_mem ht)).2.all
  exact ⟨(h (yearLo c t.1) ⟨_, List.mem_flatMap.2 ⟨t, ht, by simp [yearsOf]⟩, rfl⟩).1, (h (yearHi c t.1) ⟨_, List.mem_flatMap.2 ⟨t, ht, by simp [yearsOf]⟩, rfl⟩).2⟩

/-! ## What is told of a truth -/
theorem toldN_le (l : List Int) : toldN l ≤ 8 := Nat.min_le_left _ _
theorem told_at {c : Case} {t : List Int × List Int} {x : Past} {bits : Nat} {i : Nat} (hi : i < (toldC c t x bits).seen.length) : (toldC c t x bits).seen[i] = toldAt c t bits x.looked i := by
  simp [toldC, withSeen, toldUp]

theorem told_seen {c : Case} (h : c.OK) {t : List Int × List Int} (ht : TruIn c t) (bits : Nat) (l : List Int) (j : Nat) :
    ∃ q, ∃ hq : q < t.2.length, (toldAt c t bits l j).1 = t.2[q] ∧ (0 ≤ (toldAt c t bits l j).2 ∧ (toldAt c t bits l j).2 < c.stocks.length) ∧ (bits.testBit j = false → (toldAt c t bits l j).2 ∈ stocksAt c t.1 q c.stocks.length) := by
  have hg := h.gath
  have hs4 := h.stocks
  have hl := ht.len
  have hq := Nat.mod_lt (l.getD (2 * j) 0).toNat (show 0 < t.2.length by omega)
  have hpl := placesL_at (c := c) t.1 (show (l.getD (2 * j) 0).toNat % t.2.length < c.gath.toNat by omega)
  have hne := place_some h ht.pile (show (l.getD (2 * j) 0).toNat % t.2.length < c.gath.toNat by omega)
  have e : toldAt c t bits l j = (t.2.getD ((l.getD (2 * j) 0).toNat % t.2.length) 0, toldS c t bits j (l.getD (2 * j) 0).toNat (l.getD (2 * j + 1) 0).toNat) := rfl
  rw [e]
  unfold toldS
  simp only
  generalize (l.getD (2 * j) 0).toNat % t.2.length = q at *
  rw [hpl]
  have hmem := fun x => @mem_stocksAt c t.1 q c.stocks.length x
  generalize hps : stocksAt c t.1 q c.stocks.length = ps at *
  have hr := Nat.mod_lt (l.getD (2 * j + 1) 0).toNat (List.length_pos_iff.2 hne)
  generalize (l.getD (2 * j + 1) 0).toNat % ps.length = r at *
  rw [show ps.getD r 0 = ps[r] by simp [hr]]
  have hs := (hmem ps[r]).1 (List.getElem_mem hr)
  refine ⟨q, hq, by simp [hq], ?_, fun hb => ?_⟩
  · have hm := Nat.mod_lt (ps[r].toNat + 1) (show 0 < c.stocks.length by omega)
    split
    · omega
    · omega
  · rw [hb]
    simp only [Bool.false_eq_true, ↓reduceIte]
    rw [hps]
    exact List.getElem_mem hr

theorem told_err {c : Case} (he : errE c = 0) {t : List Int × List Int} (ht : TruIn c t) (x : Past) (bits : Nat) : errE (toldC c t x bits) = 0 := by
  have h := err_ok he
  refine withSeen_err he (by rw [toldUp_len]; exact toldN_le _) fun y hy => ?_
  unfold toldUp at hy
  rw [List.mem_map] at hy
  obtain ⟨j, -, rfl⟩ := hy
  obtain ⟨q, hq, h1, h2, -⟩ := told_seen h ht bits x.looked j
  refine ⟨?_, h2⟩
  rw [h1]
  have := (allO_each _ _ _ ht.order).2.2 _ (List.getElem_mem hq)
  have hg := h.gath
  omega

/-- What is told of a truth agrees with it, but for what is told wrong. -/
theorem told_in {c : Case} (he : errE c = 0) {t : List Int × List Int} (ht : TruIn c t) (x : Past) (bits : Nat) : t ∈ truL (toldC c t x bits) bits := by
  have h := err_ok he
  have hd := err_ok (told_err he ht x bits)
  refine (mem_truA hd).2 ⟨ht.pile, ht.order, fun i hi hb p hp hq => ?_⟩
  rw [told_at hi] at hq ⊢
  obtain ⟨q, hq', h1, h2, h3⟩ := told_seen h ht bits x.looked i
  have hno := (allO_each _ _ _ ht.order).2.1
  rw [h1] at hq
  have e : p = q := (List.getElem_inj hno).1 hq
  subst e
  exact (mem_stocksAt.1 (h3 hb)).2.2
end Go.Proofs.Ytbcfmfiolbcclaa

