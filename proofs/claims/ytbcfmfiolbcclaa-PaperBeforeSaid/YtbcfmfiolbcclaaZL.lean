/- Contracts of the laws' helpers: valid cases, turns, lists in lists. Contracts of the laws' helpers: any truth, what is told of it. Contracts of the laws' helpers: the latest year of a truth, a case without some of what is seen. Plain: what the program says, of each truth that agrees. Plain: what Wrong says; a case without some of what is seen. Plain: with one more thing seen. -/
import Derived.Test.YtbcfmfiolbcclaaZI
namespace Go.Proofs.Ytbcfmfiolbcclaa
open Go.Avm

theorem valid36_ok (c : Case) : PCall Try.prog 36 [encCase c] (B (decide (errE c = 0))) := by
  refine pcall Try.func36 tr36 rs36 fn36 (by simp [Try.ntmps36]) fun _ => ?_
  have hc := checkR_ok c
  obtain ⟨E, hE⟩ : ∃ E, E = errE c := ⟨_, rfl⟩
  have hc : PCall Try.prog 16 [encCase c] (.tuple [I (checkS c).1, I (checkS c).2.1, I E]) := by rw [hE]; exact hc
  rw [← hE]
  simp -implicitDefEqProofs [m36]
  refine vCall_of hc ?_
  simp -implicitDefEqProofs [r36]
  by_cases h : E = 0 <;> simp [h]

/-- The n-th number of a list, by turns. -/
def turnS (l : List Int) (n : Nat) : Int := if l = [] then 0 else l.getD (n % l.length) 0
theorem turnS_range {l : List Int} (h : okU l) (n : Nat) : 0 ≤ turnS l n ∧ turnS l n ≤ 65535 := by
  unfold turnS
  split
  · simp
  · rename_i hn
    have hl := List.length_pos_iff.2 hn
    have hi := Nat.mod_lt n hl
    rw [show l.getD (n % l.length) 0 = l[n % l.length] by simp [hi]]
    exact h _ (List.getElem_mem hi)
theorem wrap_u {n : Int} (h : 0 ≤ n ∧ n ≤ 65535) : IntKind.wrap .i64 n = n := by
  simp [IntKind.wrap, IntKind.bits, IntKind.signed]
  omega

theorem turn78_ok {l : List Int} (h : okU l) (hl : l.length ≤ 140737488355328) (n : Nat) (hn : n < 1000000) : PCall Try.prog 78 [US l, I n] (I (turnS l n)) := by
  refine pcall Try.func78 tr78 rs78 fn78 (by simp [Try.ntmps78]) fun _ => ?_
  have hR : turnS l n = if l = [] then 0 else l.getD (n % l.length) 0 := rfl
  have hrg := turnS_range h n
  generalize turnS l n = R at *
  simp -implicitDefEqProofs [m78]
  by_cases hz : l = []
  · rw [if_pos hz] at hR
    simp -implicitDefEqProofs [hz, r78, hR]
  · rw [if_neg hz] at hR
    have hlp := List.length_pos_iff.2 hz
    have hi := Nat.mod_lt n hlp
    have hz' : ((l.length : Int) == 0) = false := by simp; exact hz
    have hm := tmod_nat n l.length
    have hl0 : ¬ l.length = 0 := by omega
    have v1 : (n : Int) % (l.length : Int) = ((n % l.length : Nat) : Int) := rfl
    have hg : l.getD (n % l.length) 0 = l[n % l.length] := by simp [hi]
    rw [hg] at hR
    rw [hR] at hrg
    have hw := wrap_u hrg
    generalize n % l.length = k at *
    simp -implicitDefEqProofs [hz', hz, hl0, hm, v1, hi, hw, r78, hR]

/-- Is a list among others? -/
theorem one39_ok (l : List (List Int)) (o : List Int) : PCall Try.prog 39 [ILL l, IL o] (B (decide (o ∈ l))) := by
  refine pcall Try.func39 tr39 rs39 fn39 (by simp [Try.ntmps39]) fun hfit => ?_
  have hl : l.length ≤ 140737488355328 := by simpa using fits_len (hfit 0)
  simp -implicitDefEqProofs [m39]
  refine loop_up l.length (fun k s => s.env 0 = ILL l ∧ s.env 1 = IL o ∧ s.env 5 = I k ∧ o ∉ l.take k) ?_ ?_
  · simp
  rintro k s hk ⟨e0, e1, e5, hno⟩
  simp -implicitDefEqProofs [e0, e5]
  refine cond_dec (fun hlt => ?_) (fun hge => ?_)
  · have hlt : k < l.length := by omega
    have hi := ints_ok l[k] o
    have htk := take_snoc hlt
    simp -implicitDefEqProofs [e0, e1, e5, hlt]
    refine vCall_of hi ?_
    by_cases he : l[k] = o
    · have hm : o ∈ l := by rw [← he]; exact List.getElem_mem hlt
      simp -implicitDefEqProofs [he, r39, hm]
    · simp -implicitDefEqProofs [he, e5]
      refine ⟨i64 (by omega) (by omega), round_ok hlt ?_⟩
      simp [e0, e1]
      rw [htk, List.mem_append, List.mem_singleton]
      exact fun h => h.elim hno fun h => he h.symm
  · obtain rfl : k = l.length := by omega
    rw [List.take_length] at hno
    simp -implicitDefEqProofs [r39, hno]

/-- Are all numbers of a list in another one? -/
theorem part40_ok (a b : List Int) : PCall Try.prog 40 [IL a, IL b] (B (decide (∀ x ∈ a, x ∈ b))) := by
  refine pcall Try.func40 tr40 rs40 fn40 (by simp [Try.ntmps40]) fun hfit => ?_
  have hl : a.length ≤ 140737488355328 := by simpa using fits_len (hfit 0)
  obtain ⟨R, hR⟩ : ∃ R, R = decide (∀ x ∈ a, x ∈ b) := ⟨_, rfl⟩
  rw [← hR]
  simp -implicitDefEqProofs [m40]
  refine loop_up a.length (fun k s => s.env 0 = IL a ∧ s.env 1 = IL b ∧ s.env 5 = I k ∧ ∀ x ∈ a.take k, x ∈ b) ?_ ?_
  · simp
  rintro k s hk ⟨e0, e1, e5, hno⟩
  simp -implicitDefEqProofs [e0, e5]
  refine cond_dec (fun hlt => ?_) (fun hge => ?_)
  · have hlt : k < a.length := by omega
    have hi := has_ok b a[k]
    have htk := take_snoc hlt
    simp -implicitDefEqProofs [e0, e1, e5, hlt]
    refine vCall_of hi ?_
    by_cases he : a[k] ∈ b
    · simp -implicitDefEqProofs [he, e5]
      refine ⟨i64 (by omega) (by omega), round_ok hlt ?_⟩
      simp [e0, e1]
      intro x hx
      rw [htk, List.mem_append, List.mem_singleton] at hx
      rcases hx with hx | rfl
      · exact hno x hx
      · exact he
    · have hRf : R = false := by
        rw [hR, decide_eq_false_iff_not]
        exact fun h => he (h _ (List.getElem_mem hlt))
      simp -implicitDefEqProofs [he, r40, hRf]
  · obtain rfl : k = a.length := by omega
    rw [List.take_length] at hno
    have hRt : R = true := by rw [hR, decide_eq_true_eq]; exact hno
    simp -implicitDefEqProofs [r40, hRt]

/-! ## Cases that differ in what is seen alone -/
theorem half_of {c : Case} (h : errE c = 0) : Half c ∧ (1 ≤ c.gath ∧ c.gath ≤ 5) ∧ ¬ (8 : Int) < c.seen.length ∧ ∀ j < c.seen.length, seenE c j = 0 := by
  have h : (checkS c).2.2 = 0 := h
  by_cases h1 : 1 ≤ c.run ∧ c.run ≤ 500
  case neg => rw [checkS_1 h1] at h; cases h
  by_cases h2 : 1 ≤ (c.stocks.length : Int) ∧ (c.stocks.length : Int) ≤ 4
  case neg => rw [checkS_2 h1 h2] at h; cases h
  unfold checkS at h
  rw [if_neg (not_not_intro h1), if_neg (not_not_intro h2)] at h
  cases h3 : errs (stockE c) c.stocks.length with
  | some p => rw [h3] at h; exact absurd h (errs_nz (i := p.1) (e := p.2) h3)
  | none =>
  rw [h3] at h
  have h3 := errs_zero h3
  simp only at h
  by_cases h4 : 1 ≤ (c.reams.length : Int) ∧ (c.reams.length : Int) ≤ 4
  case neg => rw [if_pos h4] at h; cases h
  rw [if_neg (not_not_intro h4)] at h
  cases h5 : errs (reamE c) c.reams.length with
  | some p => rw [h5] at h; exact absurd h (errs_nz (i := p.1) (e := p.2) h5)
  | none =>
  rw [h5] at h
  have h5 := errs_zero h5
  simp only at h
  by_cases h6 : 1 ≤ c.gath ∧ c.gath ≤ 5
  case neg => rw [if_pos h6] at h; cases h
  rw [if_neg (not_not_intro h6)] at h
  by_cases h7 : (8 : Int) < c.seen.length
  case pos => rw [if_pos h7] at h; cases h
  rw [if_neg h7] at h
  cases h8 : errs (seenE c) c.seen.length with
  | some p => rw [h8] at h; exact absurd h (errs_nz (i := p.1) (e := p.2) h8)
  | none => exact ⟨⟨h1, h2, h3, h4, h5⟩, h6, h7, errs_zero h8⟩

/-- A case of which other things are seen. -/
def withSeen (c : Case) (l : List (Int × Int)) : Case := { c with seen := l }
theorem withSeen_half {c : Case} (l : List (Int × Int)) (h : Half c) : Half (withSeen c l) := ⟨h.h1, h.h2, h.h3, h.h4, h.h5⟩
theorem withSeen_err {c : Case} (h : errE c = 0) {l : List (Int × Int)} (h8 : l.length ≤ 8) (hl : ∀ x ∈ l, (0 ≤ x.1 ∧ x.1 < c.gath) ∧ 0 ≤ x.2 ∧ x.2 < c.stocks.length) : errE (withSeen c l) = 0 := by
  obtain ⟨h1, h2, -, -⟩ := half_of h
  have h3 : checkS (withSeen c l) = (0, 0, 0) := checkS_9 (withSeen_half l h1) h2 (by show ¬ (8 : Int) < l.length; omega) fun j hj => by
    have hj : j < l.length := hj
    have hx := hl _ (List.getElem_mem hj)
    unfold seenE
    have e : (withSeen c l).seen.getD j (0, 0) = l[j] := by simp [withSeen, hj]
    rw [e, if_pos]
    exact ⟨⟨hx.1.1, by show l[j].1 ≤ c.gath - 1; omega⟩, hx.2.1, by show l[j].2 ≤ (c.stocks.length : Int) - 1; omega⟩
  rw [errE, h3]
end Go.Proofs.Ytbcfmfiolbcclaa

namespace Go.Proofs.Ytbcfmfiolbcclaa
open Go.Avm

def anyTru (c : Case) (x : Past) : List Int × List Int := ((pilesL c).getD ((turnS x.truth 0).toNat % (pilesL c).length) [], (ordersL c).getD ((turnS x.truth 1).toNat % (ordersL c).length) [])
theorem anyTru_mem {c : Case} (h : c.OK) (x : Past) (hp : pilesL c ≠ []) : (anyTru c x).1 ∈ pilesL c ∧ (anyTru c x).2 ∈ ordersL c := by
  have h1 := List.length_pos_iff.2 hp
  have h2 := List.length_pos_iff.2 (ordersL_ne h)
  have i1 := Nat.mod_lt (turnS x.truth 0).toNat h1
  have i2 := Nat.mod_lt (turnS x.truth 1).toNat h2
  unfold anyTru
  constructor
  · show (pilesL c).getD _ [] ∈ pilesL c
    rw [show (pilesL c).getD ((turnS x.truth 0).toNat % (pilesL c).length) [] = (pilesL c)[(turnS x.truth 0).toNat % (pilesL c).length] by simp [i1]]
    exact List.getElem_mem i1
  · show (ordersL c).getD _ [] ∈ ordersL c
    rw [show (ordersL c).getD ((turnS x.truth 1).toNat % (ordersL c).length) [] = (ordersL c)[(turnS x.truth 1).toNat % (ordersL c).length] by simp [i2]]
    exact List.getElem_mem i2
abbrev nilT : AV := .agg [.slice 1 [] 0, .slice 1 [] 0, .slice 1 [] 0]
abbrev anyAV (c : Case) (x : Past) : AV := if pilesL c = [] then .tuple [nilT, B false] else .tuple [encT c (anyTru c x), B true]

theorem any37_ok {c : Case} (h : c.OK) {x : Past} (hx : x.OK) : PCall Try.prog 37 [encCase c, encPast x] (anyAV c x) := by
  refine pcall Try.func37 tr37 rs37 fn37 (by simp [Try.ntmps37]) fun _ => ?_
  have hp := piles_ok c h
  have hg := h.gath
  obtain ⟨g, hgn⟩ : ∃ g : Nat, c.gath = g := ⟨c.gath.toNat, by omega⟩
  have hgt : c.gath.toNat = g := by omega
  have hall := all_ok g (by omega)
  have hall : PCall Try.prog 77 [I c.gath] (ILL (ordersL c)) := by
    have e : ordersL c = allO g g := by unfold ordersL; rw [hgt]
    rw [e, hgn]; exact hall
  have t0 := turn78_ok hx.truth.1 hx.truth.2 0 (by omega)
  have t1 := turn78_ok hx.truth.1 hx.truth.2 1 (by omega)
  have z0 := turnS_range hx.truth.1 0
  have z1 := turnS_range hx.truth.1 1
  have hpp : pilesL c ≠ [] → PCall Try.prog 79 [encCase c, IL (anyTru c x).1] (ILL (placesL c (anyTru c x).1)) := fun hn => places_ok c h _ (pilesL_ok h (anyTru_mem h x hn).1)
  have hon := ordersL_ne h
  obtain ⟨R, hRR⟩ : ∃ R, R = anyAV c x := ⟨_, rfl⟩
  rw [← hRR]
  simp -implicitDefEqProofs [m37]
  intro b4
  refine vCall_of hp ?_
  simp -implicitDefEqProofs
  refine vCall_of hall ?_
  by_cases hz : pilesL c = []
  · have hRR : R = .tuple [nilT, B false] := hRR.trans (if_pos hz)
    simp -implicitDefEqProofs [hz, r37, hRR]
  · have hpp := hpp hz
    have l1 := List.length_pos_iff.2 hz
    have l2 := List.length_pos_iff.2 hon
    have i1 := Nat.mod_lt (turnS x.truth 0).toNat l1
    have i2 := Nat.mod_lt (turnS x.truth 1).toNat l2
    have a1 : (anyTru c x).1 = (pilesL c)[(turnS x.truth 0).toNat % (pilesL c).length] := by simp [anyTru, i1]
    have a2 : (anyTru c x).2 = (ordersL c)[(turnS x.truth 1).toNat % (ordersL c).length] := by simp [anyTru, i2]
    have hRR : R = .tuple [encT c (anyTru c x), B true] := hRR.trans (if_neg hz)
    generalize anyTru c x = t at *
    obtain ⟨p, o⟩ := t
    simp only at a1 a2 hpp
    obtain ⟨u0, hu0⟩ : ∃ u : Nat, turnS x.truth 0 = u := ⟨(turnS x.truth 0).toNat, by omega⟩
    obtain ⟨u1, hu1⟩ : ∃ u : Nat, turnS x.truth 1 = u := ⟨(turnS x.truth 1).toNat, by omega⟩
    have t0 : PCall Try.prog 78 [US x.truth, I 0] (I u0) := by rw [← hu0]; exact t0
    have t1 : PCall Try.prog 78 [US x.truth, I 1] (I u1) := by rw [← hu1]; exact t1
    have e0 : (turnS x.truth 0).toNat = u0 := by omega
    have e1 : (turnS x.truth 1).toNat = u1 := by omega
    simp only [e0] at i1 a1
    simp only [e1] at i2 a2
    have q0 := tmod_nat u0 (pilesL c).length
    have q1 := tmod_nat u1 (ordersL c).length
    have v0 : (u0 : Int) % ((pilesL c).length : Int) = ((u0 % (pilesL c).length : Nat) : Int) := rfl
    have v1 : (u1 : Int) % ((ordersL c).length : Int) = ((u1 % (ordersL c).length : Nat) : Int) := rfl
    have hz' : (((pilesL c).length : Int) == 0) = false := by simp; exact hz
    obtain ⟨k0, hk0, j1, b1⟩ : ∃ k0, u0 % (pilesL c).length = k0 ∧ ∃ h : k0 < (pilesL c).length, p = (pilesL c)[k0]'h := ⟨_, rfl, i1, a1⟩
    obtain ⟨k1, hk1, j2, b2⟩ : ∃ k1, u1 % (ordersL c).length = k1 ∧ ∃ h : k1 < (ordersL c).length, o = (ordersL c)[k1]'h := ⟨_, rfl, i2, a2⟩
    clear a1 a2 i1 i2
    rw [hk0] at q0 v0
    rw [hk1] at q1 v1
    simp -implicitDefEqProofs [hz']
    refine vCall_of t0 ?_
    simp -implicitDefEqProofs [hz, q0, v0, j1, ← b1]
    refine vCall_of t1 ?_
    simp -implicitDefEqProofs [hon, q1, v1, j2, ← b2]
    refine vCall_of hpp ?_
    simp -implicitDefEqProofs [r37, hRR]

def vStoreNil (P : Program) (ms : List MOp) (K : St → Prop) (s : St) (oid sz off b : Nat) : Option (List AV) → Prop
  | some cs => off < cs.length ∧ vcs P ms K ((s.dem oid).new b ((cs.map (demote oid)).set off (.slice sz [] oid)))
  | none => False
def vStoreN (P : Program) (ms : List MOp) (K : St → Prop) (s : St) (oid sz : Nat) : AV → Prop
  | .mref b off => vStoreNil P ms K s oid sz off b (s.loc b)
  | _ => False
theorem v_storeNil (P : Program) (ms : List MOp) (K : St → Prop) (s : St) (x : MArg) (sz oid : Nat) : vcs P (.storeNil x sz oid :: ms) K s = vStoreN P ms K s oid sz (x.ev s.env) := by
  unfold vStoreN vStoreNil; rfl
attribute [simp] v_storeNil vStoreN vStoreNil

/-- The stock that is told of a place. -/
def toldS (c : Case) (t : List Int × List Int) (bits n a b : Nat) : Int :=
  let q := a % t.2.length
  let l := (placesL c t.1).getD q []
  let s := l.getD (b % l.length) 0
  if bits.testBit n then ((s.toNat + 1) % c.stocks.length : Nat) else s
def toldAt (c : Case) (t : List Int × List Int) (bits : Nat) (l : List Int) (j : Nat) : Int × Int :=
  (t.2.getD ((l.getD (2 * j) 0).toNat % t.2.length) 0, toldS c t bits j (l.getD (2 * j) 0).toNat (l.getD (2 * j + 1) 0).toNat)
def toldUp (c : Case) (t : List Int × List Int) (bits : Nat) (l : List Int) (k : Nat) : List (Int × Int) := (List.range k).map (toldAt c t bits l)
theorem toldUp_succ (c : Case) (t : List Int × List Int) (bits : Nat) (l : List Int) (k : Nat) : toldUp c t bits l (k + 1) = toldUp c t bits l k ++ [toldAt c t bits l k] := by simp [toldUp, List.range_succ]
theorem toldUp_len (c : Case) (t : List Int × List Int) (bits : Nat) (l : List Int) (k : Nat) : (toldUp c t bits l k).length = k := by simp [toldUp]
def toldN (l : List Int) : Nat := min 8 (l.length / 2)
def toldC (c : Case) (t : List Int × List Int) (x : Past) (bits : Nat) : Case := withSeen c (toldUp c t bits x.looked (toldN x.looked))

/-- Each place of a pile that is high enough has a stock. -/
theorem place_some {c : Case} (h : c.OK) {p : List Int} (hp : p ∈ pilesL c) {q : Nat} (hq : q < c.gath.toNat) : stocksAt c p q c.stocks.length ≠ [] := by
  have hpo := pilesL_ok h hp
  have hsum := ((mem_pilesL h).1 hp).2
  have hrun := h.run
  have hg := h.gath
  have hq1 : ((q : Int) + 1) * c.run ≤ p.sum := by
    refine Int.le_trans ?_ hsum
    rw [Int.mul_comm]
    exact Int.mul_le_mul_of_nonneg_left (by omega) (by omega)
  have hq0 : 0 ≤ (q : Int) * c.run := Int.mul_nonneg (by omega) (by omega)
  have hq2 : ((q : Int) + 1) * c.run = (q : Int) * c.run + c.run := by rw [Int.add_mul]; omega
  -- the first ream that reaches beyond q * run
  have key : ∀ k, k ≤ p.length → (q : Int) * c.run < (p.take k).sum → ∃ i, i < k ∧ (p.take i).sum ≤ (q : Int) * c.run ∧ (q : Int) * c.run < (p.take (i + 1)).sum := by
    intro k
    induction k with
    | zero => intro _ h; simp at h; omega
    | succ k ih =>
      intro hk hs
      by_cases hh : (q : Int) * c.run < (p.take k).sum
      · obtain ⟨i, h1, h2⟩ := ih (by omega) hh
        exact ⟨i, by omega, h2⟩
      · exact ⟨k, by omega, by omega, hs⟩
  obtain ⟨i, h1, h2, h3⟩ := key p.length (Nat.le_refl _) (by rw [List.take_length]; omega)
  have hil : i < c.reams.length := by rw [← hpo.len]; exact h1
  have hr := h.ream hil
  have hs : (p.take i).sum + p[i] = (p.take (i + 1)).sum := by rw [take_snoc h1, List.sum_append]; simp
  have hc : covers c p q i = true := by
    unfold covers
    rw [show p.getD i 0 = p[i] by simp [h1], Bool.and_eq_true, decide_eq_true_eq, decide_eq_true_eq]
    constructor <;> omega
  refine List.ne_nil_of_mem (a := c.reams[i].stock) (mem_stocksAt.2 ⟨hr.1, hr.2.1, ?_⟩)
  unfold covUp
  rw [List.any_eq_true]
  refine ⟨i, by simpa using h1, ?_⟩
  unfold cov
  rw [hc, Bool.and_true, decide_eq_true_eq]
  simp [hil]
  omega

theorem bit_u8 : ∀ b : Nat, b < 256 → ∀ k : Nat, k < 8 → ((Int.fdiv (b : Int) (2 ^ (min k (IntKind.bits .u8)))).tmod 2 == 1) = b.testBit k := by decide +kernel

/-- A truth that a law is told of. -/
structure TruIn (c : Case) (t : List Int × List Int) : Prop where
  pile : t.1 ∈ pilesL c
  order : t.2 ∈ ordersL c
theorem TruIn.len {c : Case} {t : List Int × List Int} (ht : TruIn c t) : t.2.length = c.gath.toNat := (allO_each _ _ _ ht.order).1

theorem told38_ok {c : Case} (h : c.OK) {t : List Int × List Int} (ht : TruIn c t) {x : Past} (hx : x.OK) {bits : Nat} (hb : bits < 256) :
    PCall Try.prog 38 [encCase c, encT c t, encPast x, V bits] (encCase (toldC c t x bits)) := by
  refine pcall Try.func38 tr38 rs38 fn38 (by simp [Try.ntmps38]) fun _ => ?_
  have hg := h.gath
  have hs4 := h.stocks
  have hol := ht.len
  have hlk := hx.looked
  have hpl := placesL_len c t.1
  have hps := fun (q : Nat) (hq : q < c.gath.toNat) => place_some h ht.pile hq
  have hse := fun (q : Nat) => stocksAt_len c t.1 q c.stocks.length
  have hC : encCase (toldC c t x bits) = .agg [I c.run, .slice 3 (c.stocks.map encStock) 0, .slice 3 (c.reams.map encReam) 0, I c.gath, .slice 2 ((toldUp c t bits x.looked (toldN x.looked)).map encSeen) 0] := rfl
  rw [hC]
  have hupS := toldUp_succ c t bits x.looked
  have hlenU := toldUp_len c t bits x.looked
  obtain ⟨L, hL⟩ : ∃ L, L = x.looked := ⟨_, rfl⟩
  rw [← hL] at hlk hupS hlenU ⊢
  have hNe : toldN L = min 8 (L.length / 2) := rfl
  obtain ⟨N, hN⟩ : ∃ N, N = toldN L := ⟨_, rfl⟩
  rw [← hN] at hNe ⊢
  simp -implicitDefEqProofs [m38, ← hL]
  intro b4 b8 h84
  have n48 : ¬ b4 = b8 := fun e => h84 e.symm
  simp -implicitDefEqProofs [n48]
  refine loop_up N (fun k s => s.env 3 = V bits ∧ s.env 4 = .mref b4 0 ∧ s.env 5 = .ref [IL t.1, IL t.2, ILL (placesL c t.1)] ∧ s.env 6 = .ref [US x.truth, US x.years, US L] ∧ s.env 8 = .mref b8 0 ∧ s.env 9 = I (2 * k) ∧
    s.loc b4 = some [I c.run, .slice 3 (c.stocks.map encStock) 0, .slice 3 (c.reams.map encReam) 0, I c.gath, .slice 2 ((toldUp c t bits L k).map encSeen) 5004] ∧
    s.loc b8 = some [I 0, .slice 3 [] 9001, .slice 3 [] 9002, I 0, .slice 2 [] 9004]) ?_ ?_
  · simp [n48, h84, toldUp]
  rintro k s hk ⟨e3, e4, e5, e6, e8, e9, l4, l8⟩
  have hlk2 := hlenU k
  obtain ⟨i, hi⟩ : ∃ i, i = 2 * k := ⟨_, rfl⟩
  have e9 : s.env 9 = I (i : Nat) := by rw [e9, hi]; simp
  by_cases hlt : k < N
  · have h1 : i < L.length := by omega
    have h2 : i + 1 < L.length := by omega
    have h2' : (i : Int) + 1 < (L.length : Int) := by omega
    have h3 : (k : Int) < 8 := by omega
    have hto := hupS k
    have hA : toldAt c t bits L k = (t.2.getD (L[i].toNat % t.2.length) 0, toldS c t bits k L[i].toNat L[i + 1].toNat) := by
      unfold toldAt
      rw [← hi, show L.getD i 0 = L[i] by simp [h1], show L.getD (i + 1) 0 = L[i + 1] by simp [h2]]
    rw [hA] at hto
    have ra := hlk.1 _ (List.getElem_mem h1)
    have rb := hlk.1 _ (List.getElem_mem h2)
    have wa := wrap_u ra
    have wb := wrap_u rb
    generalize hLa : L[i] = a at *
    generalize hLb : L[i + 1] = b at *
    obtain ⟨a, rfl⟩ : ∃ a' : Nat, a = a' := ⟨a.toNat, by omega⟩
    obtain ⟨b, rfl⟩ : ∃ b' : Nat, b = b' := ⟨b.toNat, by omega⟩
    rw [Int.toNat_natCast, Int.toNat_natCast] at hto
    have hG : 0 < t.2.length := by omega
    have hq := Nat.mod_lt a hG
    have tq := tmod_nat a t.2.length
    have vq : (a : Int) % (t.2.length : Int) = ((a % t.2.length : Nat) : Int) := rfl
    have hG0 : ¬ t.2.length = 0 := by omega
    have hts : toldS c t bits k a b = if bits.testBit k then ((((((placesL c t.1).getD (a % t.2.length) []).getD (b % ((placesL c t.1).getD (a % t.2.length) []).length) 0).toNat + 1) % c.stocks.length : Nat) : Int) else ((placesL c t.1).getD (a % t.2.length) []).getD (b % ((placesL c t.1).getD (a % t.2.length) []).length) 0 := by
      rfl
    generalize hqq : a % t.2.length = q at *
    have hqg : q < c.gath.toNat := by omega
    have hqp : q < (placesL c t.1).length := by omega
    have hgp := placesL_at (c := c) t.1 hqg
    rw [hgp] at hts
    have hpq : (placesL c t.1)[q] = stocksAt c t.1 q c.stocks.length := by rw [← hgp]; simp [hqp]
    have hne := hps q hqg
    have hmem := fun x => @mem_stocksAt c t.1 q c.stocks.length x
    have hlen := hse q
    generalize stocksAt c t.1 q c.stocks.length = ps at *
    have hP := List.length_pos_iff.2 hne
    have hr := Nat.mod_lt b hP
    have tr := tmod_nat b ps.length
    have vr : (b : Int) % (ps.length : Int) = ((b % ps.length : Nat) : Int) := rfl
    have hP0 : ¬ ps.length = 0 := by omega
    generalize hrr : b % ps.length = r at *
    rw [show ps.getD r 0 = ps[r] by simp [hr]] at hts
    have hs := (hmem ps[r]).1 (List.getElem_mem hr)
    generalize hpr : ps[r] = v at *
    obtain ⟨v, rfl⟩ : ∃ v' : Nat, v = v' := ⟨v.toNat, by omega⟩
    rw [Int.toNat_natCast] at hts
    have hb8 := bit_u8 bits hb k (by omega)
    have ho1 : t.2.getD q 0 = t.2[q] := by simp [hq]
    rw [ho1] at hto
    simp -implicitDefEqProofs [e3, e4, e5, e6, e9, l4, hlk2, h1, h2, h2', h3, hLa, hLb, wa, wb, tq, vq, hG0, hq, hqp, hpq, hne, tr, vr, hP0, hr, hpr, hb8]
    refine ⟨i64 (by omega) (by omega), by omega, ?_⟩
    refine cond_bool (fun hbt => ?_) (fun hbt => ?_)
    · rw [if_pos hbt] at hts
      have hsn : ¬ c.stocks = [] := by intro e; rw [e] at hs4; simp at hs4
      have tv : ((v : Int) + 1).tmod (c.stocks.length : Int) = (((v + 1) % c.stocks.length : Nat) : Int) := by
        have := tmod_nat (v + 1) c.stocks.length
        rw [← this]; simp
      have vv : ((v : Int) + 1) % (c.stocks.length : Int) = (((v + 1) % c.stocks.length : Nat) : Int) := by simp
      generalize hww : (v + 1) % c.stocks.length = w at *
      have hse := seen35_ok t.2[q] w
      simp -implicitDefEqProofs [e4, e5, l4, hq, hsn, tv, vv]
      refine ⟨i64 (by omega) (by omega), vCall_of hse ?_⟩
      simp -implicitDefEqProofs [e4, e9, l4]
      refine ⟨by omega, by omega, i64 (by omega) (by omega), round_ok hlt ?_⟩
      have hi2 : (i : Int) + 2 = 2 * ((k : Int) + 1) := by omega
      simp [e3, e4, e5, e6, e8, l8, n48, h84, hto, hts, hi2]
    · rw [if_neg (by rw [hbt]; simp)] at hts
      have hse := seen35_ok t.2[q] v
      simp -implicitDefEqProofs [e4, e5, l4, hq]
      refine vCall_of hse ?_
      simp -implicitDefEqProofs [e4, e9, l4]
      refine ⟨by omega, by omega, i64 (by omega) (by omega), round_ok hlt ?_⟩
      have hi2 : (i : Int) + 2 = 2 * ((k : Int) + 1) := by omega
      simp [e3, e4, e5, e6, e8, l8, n48, h84, hto, hts, hi2]
  · obtain rfl : k = N := by omega
    by_cases hlen : (i : Int) + 1 < (L.length : Int)
    · have h3 : ¬ (k : Int) < 8 := by omega
      simp -implicitDefEqProofs [e4, e6, e9, l4, hlk2, hlen, h3, e8, l8, n48, h84, r38]
      exact i64 (by omega) (by omega)
    · simp -implicitDefEqProofs [e6, e9, hlen, e4, l4, e8, l8, n48, h84, r38]
      exact i64 (by omega) (by omega)
end Go.Proofs.Ytbcfmfiolbcclaa

namespace Go.Proofs.Ytbcfmfiolbcclaa
open Go.Avm

/-- What is seen, without some of it. -/
def seenBut (out : List Int) (l : List (Int × Int)) (k : Nat) : List (Int × Int) := ((List.range k).filter fun i : Nat => !decide ((i : Int) ∈ out)).map fun i => l.getD i (0, 0)
theorem seenBut_succ (out : List Int) (l : List (Int × Int)) (k : Nat) : seenBut out l (k + 1) = seenBut out l k ++ if (k : Int) ∈ out then [] else [l.getD k (0, 0)] := by
  unfold seenBut
  rw [List.range_succ, List.filter_append, List.map_append]
  by_cases h : (k : Int) ∈ out <;> simp [h]
theorem seenBut_len (out : List Int) (l : List (Int × Int)) (k : Nat) : (seenBut out l k).length ≤ k := by
  unfold seenBut
  rw [List.length_map]
  exact Nat.le_trans (List.length_filter_le _ _) (by simp)
def caseBut (c : Case) (out : List Int) : Case := withSeen c (seenBut out c.seen c.seen.length)

theorem without44_ok (c : Case) (out : List Int) (hs : c.seen.length ≤ 8) : PCall Try.prog 44 [encCase c, IL out] (encCase (caseBut c out)) := by
  refine pcall Try.func44 tr44 rs44 fn44 (by simp [Try.ntmps44]) fun _ => ?_
  have hC : encCase (caseBut c out) = .agg [I c.run, .slice 3 (c.stocks.map encStock) 0, .slice 3 (c.reams.map encReam) 0, I c.gath, .slice 2 ((seenBut out c.seen c.seen.length).map encSeen) 0] := rfl
  rw [hC]
  simp -implicitDefEqProofs [m44]
  intro b2 b4 h42
  have n24 : ¬ b2 = b4 := fun e => h42 e.symm
  refine loop_up c.seen.length (fun k s => s.env 1 = IL out ∧ s.env 2 = .mref b2 0 ∧ s.env 4 = .mref b4 0 ∧ s.env 5 = .slice 2 ((seenBut out c.seen k).map encSeen) 6 ∧ s.env 6 = I k ∧ s.loc b2 = some (caseCells c) ∧
    s.loc b4 = some [I 0, .slice 3 [] 5001, .slice 3 [] 5002, I 0, .slice 2 [] 5004]) ?_ ?_
  · simp [n24, seenBut]
  rintro k s hk ⟨e1, e2, e4, e5, e6, l2, l4⟩
  simp -implicitDefEqProofs [e2, e6, l2]
  refine cond_dec (fun hlt => ?_) (fun hge => ?_)
  · have hlt : k < c.seen.length := by omega
    have hsu := seenBut_succ out c.seen k
    have hsl := seenBut_len out c.seen k
    rw [show c.seen.getD k (0, 0) = c.seen[k] by simp [hlt]] at hsu
    have hh := has_ok out k
    simp -implicitDefEqProofs [e1, e6]
    refine vCall_of hh ?_
    simp -implicitDefEqProofs
    by_cases hin : (k : Int) ∈ out
    · rw [if_pos hin, List.append_nil] at hsu
      simp -implicitDefEqProofs [hin, e6]
      refine ⟨i64 (by omega) (by omega), round_ok hlt ?_⟩
      simp [e1, e2, e4, e5, l2, l4, hsu]
    · rw [if_neg hin] at hsu
      simp -implicitDefEqProofs [hin, e2, e5, e6, l2, hlt]
      refine ⟨by omega, by omega, i64 (by omega) (by omega), round_ok hlt ?_⟩
      simp [e1, e2, e4, l2, l4, hsu]
  · obtain rfl : k = c.seen.length := by omega
    simp -implicitDefEqProofs [e2, e4, e5, l2, l4, n24, h42, r44]
end Go.Proofs.Ytbcfmfiolbcclaa

namespace Go.Proofs.Ytbcfmfiolbcclaa
open Go.Avm

theorem mem_truA {c : Case} (h : c.OK) {but : Nat} {x : List Int × List Int} : x ∈ truL c but ↔ x.1 ∈ pilesL c ∧ x.2 ∈ ordersL c ∧ Agr c but.testBit x.1 x.2 := by
  rw [mem_truL, mem_pilesP h]
  constructor
  · rintro ⟨h1, h2, h3⟩
    exact ⟨h1, h2, (fits_iff h (pilesL_ok h h1) fun y hy => ((allO_each _ _ _ h2).2.2 y hy).1).1 h3⟩
  · rintro ⟨h1, h2, h3⟩
    exact ⟨h1, h2, (fits_iff h (pilesL_ok h h1) fun y hy => ((allO_each _ _ _ h2).2.2 y hy).1).2 h3⟩

theorem orders_say {c : Case} (he : errE c = 0) (hn : truL c 0 ≠ []) : ordersS c = (waysP c, 0) := by
  unfold ordersS
  rw [if_neg (by simpa using he), if_neg fun e => hn (ways_nil.1 e)]
theorem orders_no {c : Case} (he : errE c = 0) (hn : truL c 0 = []) : ordersS c = ([], 8) := by
  unfold ordersS
  rw [if_neg (by simpa using he), if_pos (ways_nil.2 hn)]
theorem left_say {c : Case} (he : errE c = 0) (hn : truL c 0 ≠ []) : (leftS c).e = 0 ∧ Span (fun m => ∃ x ∈ truL c 0, m = leftOf c x) (leftS c).a (leftS c).b ∧ Span (fun m => ∃ x ∈ truL c 0, m = begunOf c x) (leftS c).x (leftS c).y := by
  have h1 := ends_span (leftOf c) hn
  have h2 := ends_span (begunOf c) hn
  have e : leftS c = ⟨(endsL (leftOf c) (truL c 0)).lo, (endsL (leftOf c) (truL c 0)).hi, (endsL (begunOf c) (truL c 0)).lo, (endsL (begunOf c) (truL c 0)).hi, 0⟩ := by
    unfold leftS
    rw [if_neg (by simpa using he), if_neg hn]
  rw [e]
  exact ⟨rfl, h1, h2⟩
theorem year_say {c : Case} (he : errE c = 0) (hn : truL c 0 ≠ []) : (yearS c).e = 0 ∧ Span (fun m => ∃ n ∈ (truL c 0).flatMap (yearsOf c), m = n) (yearS c).a (yearS c).b := by
  have h1 := yearE_span (c := c) hn
  have e : yearS c = ⟨(yearE c (truL c 0)).lo, (yearE c (truL c 0)).hi, 0⟩ := by
    unfold yearS
    rw [if_neg (by simpa using he), if_neg hn]
  rw [e]
  exact ⟨rfl, h1⟩
theorem stocks_say {c : Case} (he : errE c = 0) (hn : truL c 0 ≠ []) {g : Int} (hg : 0 ≤ g ∧ g < c.gath) : stocksS c g = (sureR c (truR c) g, mayR c (truR c) g, 0) := by
  have hok := err_ok he
  unfold stocksS
  rw [if_neg (by simpa using he), out1, if_neg (by simp; omega), if_neg hn, sure_eq hok hg hn, may_eq hok hg]
/-- The stocks of a gathering in a truth. -/
def stocksOf (c : Case) (g : Int) (t : List Int × List Int) : List Int := (placesL c t.1).getD (at' t.2 g).toNat []
theorem stocksOf_range {c : Case} (h : c.OK) {g : Int} {t : List Int × List Int} {s : Int} (hs : s ∈ stocksOf c g t) : 0 ≤ s ∧ s < c.stocks.length := by
  unfold stocksOf at hs
  by_cases hq : (at' t.2 g).toNat < (placesL c t.1).length
  · rw [show (placesL c t.1).getD (at' t.2 g).toNat [] = (placesL c t.1)[(at' t.2 g).toNat] by simp [hq]] at hs
    exact ((placesL_each h t.1).2 _ (List.getElem_mem hq)).2 _ hs
  · rw [show (placesL c t.1).getD (at' t.2 g).toNat [] = [] by simp [Nat.le_of_not_lt hq]] at hs
    cases hs

theorem mem_sure {c : Case} (h : c.OK) {g s : Int} (hn : truL c 0 ≠ []) : s ∈ sureR c (truR c) g ↔ ∀ t ∈ truL c 0, s ∈ stocksOf c g t := by
  have key : ∀ j : Nat, sureQ c (truR c) g j = true ↔ ∀ t ∈ truL c 0, (j : Int) ∈ stocksOf c g t := by
    intro j
    unfold sureQ manyN
    rw [decide_eq_true_eq, List.length_filter_eq_length_iff]
    constructor
    · intro hh t ht; exact of_decide_eq_true (hh t ((mem_tru h).2 ht))
    · intro hh t ht; exact decide_eq_true (hh t ((mem_tru h).1 ht))
  constructor
  · intro hs
    obtain ⟨j, rfl, h1, h2⟩ := selT_mem hs
    exact (key j).1 h2
  · intro hs
    obtain ⟨t, ht⟩ := List.exists_mem_of_ne_nil _ hn
    have hr := stocksOf_range h (hs t ht)
    obtain ⟨j, rfl⟩ : ∃ j : Nat, s = j := ⟨s.toNat, by omega⟩
    exact mem_selT.2 ⟨by omega, (key j).2 hs⟩
theorem mem_may {c : Case} (h : c.OK) {g s : Int} : s ∈ mayR c (truR c) g ↔ ∃ t ∈ truL c 0, s ∈ stocksOf c g t := by
  have key : ∀ j : Nat, mayQ c (truR c) g j = true ↔ ∃ t ∈ truL c 0, (j : Int) ∈ stocksOf c g t := by
    intro j
    unfold mayQ manyN
    rw [decide_eq_true_eq, List.length_filter_pos_iff]
    constructor
    · rintro ⟨t, ht, hh⟩; exact ⟨t, (mem_tru h).1 ht, of_decide_eq_true hh⟩
    · rintro ⟨t, ht, hh⟩; exact ⟨t, (mem_tru h).2 ht, decide_eq_true hh⟩
  constructor
  · intro hs
    obtain ⟨j, rfl, h1, h2⟩ := selT_mem hs
    exact (key j).1 h2
  · rintro ⟨t, ht, hs⟩
    have hr := stocksOf_range h hs
    obtain ⟨j, rfl⟩ : ∃ j : Nat, s = j := ⟨s.toNat, by omega⟩
    exact mem_selT.2 ⟨by omega, (key j).2 ⟨t, ht, hs⟩⟩

/-! ## The years -/
/-! ## What is told of a truth -/
theorem toldN_le (l : List Int) : toldN l ≤ 8 := Nat.min_le_left _ _
theorem told_at {c : Case} {t : List Int × List Int} {x : Past} {bits : Nat} {i : Nat} (hi : i < (toldC c t x bits).seen.length) : (toldC c t x bits).seen[i] = toldAt c t bits x.looked i := by
  simp [toldC, withSeen, toldUp]

theorem told_seen {c : Case} (h : c.OK) {t : List Int × List Int} (ht : TruIn c t) (bits : Nat) (l : List Int) (j : Nat) :
    ∃ q, ∃ hq : q < t.2.length, (toldAt c t bits l j).1 = t.2[q] ∧ (0 ≤ (toldAt c t bits l j).2 ∧ (toldAt c t bits l j).2 < c.stocks.length) ∧ (bits.testBit j = false → (toldAt c t bits l j).2 ∈ stocksAt c t.1 q c.stocks.length) := by
  have hg := h.gath
  have hs4 := h.stocks
  have hl := ht.len
  have hq := Nat.mod_lt (l.getD (2 * j) 0).toNat (show 0 < t.2.length by omega)
  have hpl := placesL_at (c := c) t.1 (show (l.getD (2 * j) 0).toNat % t.2.length < c.gath.toNat by omega)
  have hne := place_some h ht.pile (show (l.getD (2 * j) 0).toNat % t.2.length < c.gath.toNat by omega)
  have e : toldAt c t bits l j = (t.2.getD ((l.getD (2 * j) 0).toNat % t.2.length) 0, toldS c t bits j (l.getD (2 * j) 0).toNat (l.getD (2 * j + 1) 0).toNat) := rfl
  rw [e]
  unfold toldS
  simp only
  generalize (l.getD (2 * j) 0).toNat % t.2.length = q at *
  rw [hpl]
  have hmem := fun x => @mem_stocksAt c t.1 q c.stocks.length x
  generalize hps : stocksAt c t.1 q c.stocks.length = ps at *
  have hr := Nat.mod_lt (l.getD (2 * j + 1) 0).toNat (List.length_pos_iff.2 hne)
  generalize (l.getD (2 * j + 1) 0).toNat % ps.length = r at *
  rw [show ps.getD r 0 = ps[r] by simp [hr]]
  have hs := (hmem ps[r]).1 (List.getElem_mem hr)
  refine ⟨q, hq, by simp [hq], ?_, fun hb => ?_⟩
  · have hm := Nat.mod_lt (ps[r].toNat + 1) (show 0 < c.stocks.length by omega)
    split
    · omega
    · omega
  · rw [hb]
    simp only [Bool.false_eq_true, ↓reduceIte]
    rw [hps]
    exact List.getElem_mem hr

theorem told_err {c : Case} (he : errE c = 0) {t : List Int × List Int} (ht : TruIn c t) (x : Past) (bits : Nat) : errE (toldC c t x bits) = 0 := by
  have h := err_ok he
  refine withSeen_err he (by rw [toldUp_len]; exact toldN_le _) fun y hy => ?_
  unfold toldUp at hy
  rw [List.mem_map] at hy
  obtain ⟨j, -, rfl⟩ := hy
  obtain ⟨q, hq, h1, h2, -⟩ := told_seen h ht bits x.looked j
  refine ⟨?_, h2⟩
  rw [h1]
  have := (allO_each _ _ _ ht.order).2.2 _ (List.getElem_mem hq)
  have hg := h.gath
  omega

/-- What is told of a truth agrees with it, but for what is told wrong. -/
theorem told_in {c : Case} (he : errE c = 0) {t : List Int × List Int} (ht : TruIn c t) (x : Past) (bits : Nat) : t ∈ truL (toldC c t x bits) bits := by
  have h := err_ok he
  have hd := err_ok (told_err he ht x bits)
  refine (mem_truA hd).2 ⟨ht.pile, ht.order, fun i hi hb p hp hq => ?_⟩
  rw [told_at hi] at hq ⊢
  obtain ⟨q, hq', h1, h2, h3⟩ := told_seen h ht bits x.looked i
  have hno := (allO_each _ _ _ ht.order).2.1
  rw [h1] at hq
  have e : p = q := (List.getElem_inj hno).1 hq
  subst e
  exact (mem_stocksAt.1 (h3 hb)).2.2
end Go.Proofs.Ytbcfmfiolbcclaa

namespace Go.Proofs.Ytbcfmfiolbcclaa
open Go.Avm

theorem loc_dem_nil (s : St) (r : Nat) : ((s.dem r).loc = fun _ => none) ↔ s.loc = fun _ => none := by
  constructor
  · intro h
    funext b
    have := congrFun h b
    rw [loc_dem, Option.map_eq_none_iff] at this
    exact this
  · intro h
    funext b
    rw [loc_dem, h]; rfl
attribute [simp] loc_dem_nil

theorem wrong_no {c : Case} (he : errE c = 0) (hp : pilesL c = []) : wrongS c = ([], 9) := by
  rw [wrong_eq]
  unfold wrongR wrE
  rw [if_pos (c := errE c = 0 ∧ _) ⟨he, hp⟩]
  rfl
theorem wrong_err {c : Case} (he : errE c ≠ 0) : wrongS c = ([], errE c) := by
  unfold wrongS
  rw [if_pos he]
theorem tru_mod {c : Case} (h : c.OK) (but : Nat) : truL c (but % 2 ^ c.seen.length) ≠ [] ↔ truL c but ≠ [] := by
  have key : ∀ x, x ∈ truL c (but % 2 ^ c.seen.length) ↔ x ∈ truL c but := fun x => by
    rw [mem_truA h, mem_truA h, agr_congr (b2 := but.testBit) fun i hi => by rw [Nat.testBit_mod_two_pow, decide_eq_true hi, Bool.true_and]]
  constructor
  · intro hn
    obtain ⟨x, hx⟩ := List.exists_mem_of_ne_nil _ hn
    exact List.ne_nil_of_mem ((key x).1 hx)
  · intro hn
    obtain ⟨x, hx⟩ := List.exists_mem_of_ne_nil _ hn
    exact List.ne_nil_of_mem ((key x).2 hx)
theorem tru_full {c : Case} (h : c.OK) (hp : pilesL c ≠ []) : truL c (2 ^ c.seen.length - 1) ≠ [] := by
  obtain ⟨p, hpp⟩ := List.exists_mem_of_ne_nil _ hp
  obtain ⟨o, ho⟩ := List.exists_mem_of_ne_nil _ (ordersL_ne h)
  refine List.ne_nil_of_mem (a := (p, o)) ((mem_truA h).2 ⟨hpp, ho, fun i hi hb => ?_⟩)
  rw [Nat.testBit_two_pow_sub_one, decide_eq_true hi] at hb
  cases hb

theorem bits_mod {n : Nat} (hn : n ≤ 8) (b : Nat) : bitsL (b % 2 ^ n) = selT (fun i => b.testBit i) n := by
  unfold bitsL
  have := selT_more (q := fun i => (b % 2 ^ n).testBit i) (n := n) (fun j hj => by rw [Nat.testBit_mod_two_pow, decide_eq_false (by omega)]; rfl) (8 - n)
  rw [show n + (8 - n) = 8 by omega] at this
  rw [this]
  exact selT_congr fun j hj => by rw [Nat.testBit_mod_two_pow, decide_eq_true hj, Bool.true_and]
theorem lessL_len {a b : List Int} (h : lessL a b = true) : a.length ≤ b.length := by
  unfold lessL at h
  split at h
  · have := of_decide_eq_true h; omega
  · omega

/-- What Wrong says. -/
theorem wrong_say {c : Case} (he : errE c = 0) (hp : pilesL c ≠ []) : ∃ b, wrongS c = (bitsL b, 0) ∧ b < 2 ^ c.seen.length ∧ truL c b ≠ [] ∧
    ∀ j, truL c j ≠ [] → (bitsL b).length ≤ (selT (fun i => j.testBit i) c.seen.length).length := by
  have hok := err_ok he
  have h8 := (checkS_zero he).2.1
  have hs := bestUp_spec (anyT c) (2 ^ c.seen.length) (Nat.le_trans (Nat.pow_le_pow_right (by omega) h8) (by decide))
  unfold wrongS
  rw [if_neg (by simpa using he)]
  have hpos : 0 < 2 ^ c.seen.length := Nat.pow_pos (by omega)
  cases hb : bestUp (anyT c) (2 ^ c.seen.length) with
  | none =>
    rw [hb] at hs
    have := hs (2 ^ c.seen.length - 1) (by omega)
    unfold anyT at this
    exact absurd (tru_full hok hp) (of_decide_eq_false this)
  | some b =>
    rw [hb] at hs
    obtain ⟨h1, h2, h3⟩ := hs
    refine ⟨b, rfl, h1, of_decide_eq_true h2, fun j hj => ?_⟩
    rw [← bits_mod h8]
    rcases h3 (j % 2 ^ c.seen.length) (Nat.mod_lt _ hpos) (decide_eq_true ((tru_mod hok j).2 hj)) with e | e
    · rw [e]; exact Nat.le_refl _
    · exact lessL_len e

/-- A set's numbers, in order. -/
theorem selT_sorted (q : Nat → Bool) (n : Nat) : (selT q n).Pairwise (· < ·) := by
  unfold selT
  rw [List.pairwise_map]
  exact (List.pairwise_lt_range.filter q).imp fun h => by omega
theorem bits_in {b n : Nat} (hb : b < 2 ^ n) {k : Nat} (hk : k < (bitsL b).length) : 0 ≤ (bitsL b)[k] ∧ (bitsL b)[k] < n ∧ (0 < k → ∀ h : k - 1 < (bitsL b).length, (bitsL b)[k - 1] < (bitsL b)[k]) := by
  obtain ⟨j, h1, h2, h3⟩ := selT_mem (List.getElem_mem hk)
  have hj : j < n := by
    by_cases hj : j < n
    · exact hj
    · have h0 : b.testBit j = false := Nat.testBit_lt_two_pow (Nat.lt_of_lt_of_le hb (Nat.pow_le_pow_right (by omega) (by omega)))
      rw [h0] at h3; cases h3
  have h1 : (bitsL b)[k] = j := h1
  refine ⟨by omega, by omega, fun hk0 h => ?_⟩
  exact List.pairwise_iff_getElem.1 (selT_sorted _ _) (k - 1) k h hk (by omega)

/-! ## Without some of what is seen -/
theorem agr_mem {c : Case} {p o : List Int} : Agr c (0 : Nat).testBit p o ↔ ∀ x ∈ c.seen, ∀ q (hq : q < o.length), o[q] = x.1 → covUp c p q x.2.toNat p.length = true := by
  unfold Agr
  constructor
  · intro hh x hx q hq e
    obtain ⟨i, hi, rfl⟩ := List.getElem_of_mem hx
    exact hh i hi (by simp) q hq e
  · intro hh i hi _ q hq e
    exact hh _ (List.getElem_mem hi) q hq e
theorem mem_seenBut {out : List Int} {l : List (Int × Int)} {k : Nat} {x : Int × Int} : x ∈ seenBut out l k ↔ ∃ i, i < k ∧ (i : Int) ∉ out ∧ l.getD i (0, 0) = x := by
  simp only [seenBut, List.mem_map, List.mem_filter, List.mem_range, Bool.not_eq_true', decide_eq_false_iff_not, and_assoc]
theorem but_err {c : Case} (he : errE c = 0) (out : List Int) : errE (caseBut c out) = 0 := by
  have h := err_ok he
  have h8 := (checkS_zero he).2.1
  have hl := seenBut_len out c.seen c.seen.length
  refine withSeen_err he (by omega) fun x hx => ?_
  obtain ⟨i, hi, -, rfl⟩ := mem_seenBut.1 hx
  rw [show c.seen.getD i (0, 0) = c.seen[i] by simp [hi]]
  have := h.seen _ (List.getElem_mem hi)
  omega
theorem but_tru {c : Case} (he : errE c = 0) {out : List Int} {but : Nat} (hb : ∀ i, i < c.seen.length → decide ((i : Int) ∈ out) = but.testBit i) (x : List Int × List Int) : x ∈ truL (caseBut c out) 0 ↔ x ∈ truL c but := by
  have hd := err_ok (but_err he out)
  have key : Agr (caseBut c out) (0 : Nat).testBit x.1 x.2 ↔ Agr c but.testBit x.1 x.2 := by
    rw [agr_mem]
    constructor
    · intro hh i hi hbi q hq e
      have hm : c.seen[i] ∈ (caseBut c out).seen := mem_seenBut.2 ⟨i, hi, by rw [← hb i hi, decide_eq_false_iff_not] at hbi; exact hbi, by simp [hi]⟩
      exact hh _ hm q hq e
    · intro hh y hy q hq e
      obtain ⟨i, hi, hno, rfl⟩ := mem_seenBut.1 hy
      rw [show c.seen.getD i (0, 0) = c.seen[i] by simp [hi]] at e ⊢
      exact hh i hi (by rw [← hb i hi, decide_eq_false_iff_not]; exact hno) q hq e
  rw [mem_truA hd, mem_truA (err_ok he), key]
  rfl
theorem but_orders {c : Case} (he : errE c = 0) {out : List Int} {but : Nat} (hb : ∀ i, i < c.seen.length → decide ((i : Int) ∈ out) = but.testBit i) : (ordersS (caseBut c out)).2 = 0 ↔ truL c but ≠ [] := by
  have hd := but_err he out
  by_cases hn : truL (caseBut c out) 0 = []
  · rw [orders_no hd hn]
    constructor
    · intro h; cases h
    · intro h
      obtain ⟨x, hx⟩ := List.exists_mem_of_ne_nil _ h
      have := (but_tru he hb x).2 hx
      rw [hn] at this; cases this
  · rw [orders_say hd hn]
    obtain ⟨x, hx⟩ := List.exists_mem_of_ne_nil _ hn
    exact ⟨fun _ => List.ne_nil_of_mem ((but_tru he hb x).1 hx), fun _ => rfl⟩
theorem bits_but {n b : Nat} (hn : n ≤ 8) (i : Nat) (hi : i < n) : decide ((i : Int) ∈ bitsL b) = b.testBit i := by
  rw [Bool.eq_iff_iff, decide_eq_true_eq]
  unfold bitsL
  rw [mem_selT]
  exact ⟨fun h => h.2, fun h => ⟨by omega, h⟩⟩
theorem sel_but {n b : Nat} (i : Nat) (hi : i < n) : decide ((i : Int) ∈ selT (fun i => b.testBit i) n) = b.testBit i := by
  rw [Bool.eq_iff_iff, decide_eq_true_eq, mem_selT]
  exact ⟨fun h => h.2, fun h => ⟨hi, h⟩⟩
end Go.Proofs.Ytbcfmfiolbcclaa

namespace Go.Proofs.Ytbcfmfiolbcclaa
open Go.Avm

theorem more_valid {c : Case} {g s : Int} (he : errE (moreC c g s) = 0) : errE c = 0 := by
  have h := err_ok he
  have h8 := (checkS_zero he).2.1
  have h8' : (c.seen ++ [(g, s)]).length ≤ 8 := h8
  have : errE (withSeen (moreC c g s) c.seen) = 0 := withSeen_err he (by simp at h8'; omega) fun x hx => by
    have hs := h.seen x (by show x ∈ c.seen ++ [(g, s)]; simp [hx])
    omega
  exact this
theorem mem_more {c : Case} (h : c.OK) {g s : Int} (hd : (moreC c g s).OK) (x : List Int × List Int) : x ∈ truL (moreC c g s) 0 ↔ x ∈ truL c 0 ∧ s ∈ stocksOf c g x := by
  rw [mem_truA hd, mem_truA h, agr_mem, agr_mem]
  have hgs := hd.seen (g, s) (by show (g, s) ∈ c.seen ++ [(g, s)]; simp)
  have hgs1 : 0 ≤ g ∧ g < c.gath := ⟨hgs.1, hgs.2.1⟩
  have hgs2 : 0 ≤ s ∧ s < c.stocks.length := ⟨hgs.2.2.1, hgs.2.2.2⟩
  have key : x.2 ∈ ordersL c → ((∀ q (hq : q < x.2.length), x.2[q] = g → covUp c x.1 q s.toNat x.1.length = true) ↔ s ∈ stocksOf c g x) := fun ho => by
    have hoe := allO_each _ _ _ ho
    obtain ⟨q, hq1, hq2, hq3⟩ := at_mem (order_mem h ho hgs1)
    unfold stocksOf
    rw [hq2, Int.toNat_natCast, placesL_at _ (by omega), mem_stocksAt]
    constructor
    · intro hh; exact ⟨hgs2.1, hgs2.2, hh q hq1 hq3⟩
    · rintro ⟨-, -, hh⟩ q' hq' he
      have : q' = q := (List.getElem_inj hoe.2.1).1 (by rw [he, hq3])
      subst this
      exact hh
  have e1 : pilesL (moreC c g s) = pilesL c := rfl
  have e2 : ordersL (moreC c g s) = ordersL c := rfl
  have e3 : (moreC c g s).seen = c.seen ++ [(g, s)] := rfl
  have e4 : ∀ p q j i, covUp (moreC c g s) p q j i = covUp c p q j i := fun _ _ _ _ => rfl
  simp only [e1, e2, e3, e4]
  constructor
  · rintro ⟨h1, h2, h3⟩
    refine ⟨⟨h1, h2, fun y hy => h3 y (by simp [hy])⟩, (key h2).1 fun q hq he => h3 (g, s) (by simp) q hq he⟩
  · rintro ⟨⟨h1, h2, h3⟩, h4⟩
    refine ⟨h1, h2, fun y hy => ?_⟩
    rcases List.mem_append.1 hy with hy | hy
    · exact h3 y hy
    · rw [List.mem_singleton] at hy
      subst hy
      exact (key h2).2 h4

theorem Span.sub {P Q : Int → Prop} {a b x y : Int} (h1 : Span P a b) (h2 : Span Q x y) (h : ∀ n, P n → Q n) : x ≤ a ∧ b ≤ y :=
  ⟨(h2.all a (h a h1.inLo)).1, (h2.all b (h b h1.inHi)).2⟩
theorem years_seen {c : Case} (h : c.OK) {l : List (Int × Int)} (hd : (withSeen c l).OK) {x : List Int × List Int} (hp : PileOK c x.1) : yearsOf (withSeen c l) x = yearsOf c x := by
  have hp' : PileOK (withSeen c l) x.1 := ⟨hp.len, hp.each⟩
  unfold yearsOf yearLo yearHi
  rw [← lat_eq h hp, ← lat_eq h hp, ← lat_eq hd hp', ← lat_eq hd hp']
  rfl

/-- What the law looks at, with one more thing seen and some truth that agrees. -/
structure MoreIn (c d : Case) : Prop where
  sub : ∀ o ∈ waysP d, o ∈ waysP c
  st : ∀ g, 0 ≤ g ∧ g < c.gath → (∀ s ∈ sureR c (truR c) g, s ∈ sureR d (truR d) g) ∧ (∀ s ∈ mayR d (truR d) g, s ∈ mayR c (truR c) g)
  la : (leftS c).a ≤ (leftS d).a ∧ (leftS d).b ≤ (leftS c).b
  lx : (leftS c).x ≤ (leftS d).x ∧ (leftS d).y ≤ (leftS c).y
  ye : (yearS c).a ≤ (yearS d).a ∧ (yearS d).b ≤ (yearS c).b
theorem more_in {c : Case} {g s : Int} (hd : errE (moreC c g s) = 0) (hn : truL (moreC c g s) 0 ≠ []) : truL c 0 ≠ [] ∧ MoreIn c (moreC c g s) := by
  have hc := more_valid hd
  have ho := err_ok hc
  have hdo := err_ok hd
  have sub : ∀ x ∈ truL (moreC c g s) 0, x ∈ truL c 0 := fun x hx => ((mem_more ho hdo x).1 hx).1
  have hnc : truL c 0 ≠ [] := by
    obtain ⟨x, hx⟩ := List.exists_mem_of_ne_nil _ hn
    exact List.ne_nil_of_mem (sub x hx)
  obtain ⟨-, l2, l3⟩ := left_say hc hnc
  obtain ⟨-, k2, k3⟩ := left_say hd hn
  obtain ⟨-, y2⟩ := year_say hc hnc
  obtain ⟨-, z2⟩ := year_say hd hn
  refine ⟨hnc, fun o hoo => ?_, fun g' _ => ⟨fun s hs => ?_, fun s hs => ?_⟩, k2.sub l2 ?_, k3.sub l3 ?_, z2.sub y2 ?_⟩
  · obtain ⟨p, hp⟩ := mem_waysP.1 hoo
    exact mem_waysP.2 ⟨p, sub _ hp⟩
  · exact (mem_sure hdo hn).2 fun t ht => (mem_sure ho hnc).1 hs t (sub t ht)
  · obtain ⟨t, ht, hs⟩ := (mem_may hdo).1 hs
    exact (mem_may ho).2 ⟨t, sub t ht, hs⟩
  · rintro n ⟨x, hx, rfl⟩; exact ⟨x, sub x hx, rfl⟩
  · rintro n ⟨x, hx, rfl⟩; exact ⟨x, sub x hx, rfl⟩
  · rintro n ⟨m, hm, rfl⟩
    obtain ⟨x, hx, hm⟩ := List.mem_flatMap.1 hm
    refine ⟨n, List.mem_flatMap.2 ⟨x, sub x hx, ?_⟩, rfl⟩
    rw [← years_seen ho (l := c.seen ++ [(g, s)]) hdo (truL_pile ho (sub x hx))]
    exact hm
end Go.Proofs.Ytbcfmfiolbcclaa

