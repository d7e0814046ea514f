/- Contracts of the laws' helpers: valid cases, turns, lists in lists. Contracts of the laws' helpers: any truth, what is told of it. Contracts of the laws' helpers: the latest year of a truth, a case without some of what is seen. Plain: what the program says, of each truth that agrees. Plain: what Wrong says; a case without some of what is seen. Plain: with one more thing seen. Plain: what Ask says. Plain: gatherings numbered the other way round. -/
import Derived.Test.YtbcfmfiolbcclaaZI
namespace Go.Proofs.Ytbcfmfiolbcclaa
open Go.Avm

theorem valid36_ok (c : Case) : PCall Try.prog 36 [encCase c] (B (decide (errE c = 0))) := by
  refine pcall Try.func36 tr36 rs36 fn36 (by simp [Try.ntmps36]) fun _ => ?_
  have hc := checkR_ok c
  obtain ⟨E, hE⟩ : ∃ E, E = errE c := ⟨_, rfl⟩
  have hc : PCall Try.prog 16 [encCase c] (.tuple [I (checkS c).1, I (checkS c).2.1, I E]) := by rw [hE]; exact hc
  rw [← hE]
  simp -implicitDefEqProofs [m36]
  refine vCall_of hc ?_
  simp -implicitDefEqProofs [r36]
  by_cases h : E = 0 <;> simp [h]

theorem wrap_u {n : Int} (h : 0 ≤ n ∧ n ≤ 65535) : IntKind.wrap .i64 n = n := by
  simp [IntKind.wrap, IntKind.bits, IntKind.signed]
  omega

/-- Is a list among others? -/
theorem one39_ok (l : List (List Int)) (o : List Int) : PCall Try.prog 39 [ILL l, IL o] (B (decide (o ∈ l))) := by
  refine pcall Try.func39 tr39 rs39 fn39 (by simp [Try.ntmps39]) fun hfit => ?_
  have hl : l.length ≤ 140737488355328 := by simpa using fits_len (hfit 0)
  simp -implicitDefEqProofs [m39]
  refine loop_up l.length (fun k s => s.env 0 = ILL l ∧ s.env 1 = IL o ∧ s.env 5 = I k ∧ o ∉ l.take k) ?_ ?_
  · simp
  rintro k s hk ⟨e0, e1, e5, hno⟩
  simp -implicitDefEqProofs [e0, e5]
  refine cond_dec (fun hlt => ?_) (fun hge => ?_)
  · have hlt : k < l.length := by omega
    have hi := ints_ok l[k] o
    have htk := take_snoc hlt
    simp -implicitDefEqProofs [e0, e1, e5, hlt]
    refine vCall_of hi ?_
    by_cases he : l[k] = o
    · have hm : o ∈ l := by rw [← he]; exact List.getElem_mem hlt
      simp -implicitDefEqProofs [he, r39, hm]
    · simp -implicitDefEqProofs [he, e5]
      refine ⟨i64 (by omega) (by omega), round_ok hlt ?_⟩
      simp [e0, e1]
      rw [htk, List.mem_append, List.mem_singleton]
      exact fun h => h.elim hno fun h => he h.symm
  · obtain rfl : k = l.length := by omega
    rw [List.take_length] at hno
    simp -implicitDefEqProofs [r39, hno]

/-! ## Cases that differ in what is seen alone -/
theorem half_of {c : Case} (h : errE c = 0) : Half c ∧ (1 ≤ c.gath ∧ c.gath ≤ 5) ∧ ¬ (8 : Int) < c.seen.length ∧ ∀ j < c.seen.length, seenE c j = 0 := by
  have h : (checkS c).2.2 = 0 := h
  by_cases h1 : 1 ≤ c.run ∧ c.run ≤ 500
  case neg => rw [checkS_1 h1] at h; cases h
  by_cases h2 : 1 ≤ (c.stocks.length : Int) ∧ (c.stocks.length : Int) ≤ 4
  case neg => rw [checkS_2 h1 h2] at h; cases h
  unfold checkS at h
  rw [if_neg (not_not_intro h1), if_neg (not_not_intro h2)] at h
  cases h3 : errs (stockE c) c.stocks.length with
  | some p => rw [h3] at h; exact absurd h (errs_nz (i := p.1) (e := p.2) h3)
  | none =>
  rw [h3] at h
  have h3 := errs_zero h3
  simp only at h
  by_cases h4 : 1 ≤ (c.reams.length : Int) ∧ (c.reams.length : Int) ≤ 4
  case neg => rw [if_pos h4] at h; cases h
  rw [if_neg (not_not_intro h4)] at h
  cases h5 : errs (reamE c) c.reams.length with
  | some p => rw [h5] at h; exact absurd h (errs_nz (i := p.1) (e := p.2) h5)
  | none =>
  rw [h5] at h
  have h5 := errs_zero h5
  simp only at h
  by_cases h6 : 1 ≤ c.gath ∧ c.gath ≤ 5
  case neg => rw [if_pos h6] at h; cases h
  rw [if_neg (not_not_intro h6)] at h
  by_cases h7 : (8 : Int) < c.seen.length
  case pos => rw [if_pos h7] at h; cases h
  rw [if_neg h7] at h
  cases h8 : errs (seenE c) c.seen.length with
  | some p => rw [h8] at h; exact absurd h (errs_nz (i := p.1) (e := p.2) h8)
  | none => exact ⟨⟨h1, h2, h3, h4, h5⟩, h6, h7, errs_zero h8⟩

/-- A case of which other things are seen. -/
def withSeen (c : Case) (l : List (Int × Int)) : Case := { c with seen := l }
theorem withSeen_half {c : Case} (l : List (Int × Int)) (h : Half c) : Half (withSeen c l) := ⟨h.h1, h.h2, h.h3, h.h4, h.h5⟩
theorem withSeen_err {c : Case} (h : errE c = 0) {l : List (Int × Int)} (h8 : l.length ≤ 8) (hl : ∀ x ∈ l, (0 ≤ x.1 ∧ x.1 < c.gath) ∧ 0 ≤ x.2 ∧ x.2 < c.stocks.length) : errE (withSeen c l) = 0 := by
  obtain ⟨h1, h2, -, -⟩ := half_of h
  have h3 : checkS (withSeen c l) = (0, 0, 0) := checkS_9 (withSeen_half l h1) h2 (by show ¬ (8 : Int) < l.length; omega) fun j hj => by
    have hj : j < l.length := hj
    have hx := hl _ (List.getElem_mem hj)
    unfold seenE
    have e : (withSeen c l).seen.getD j (0, 0) = l[j] := by simp [withSeen, hj]
    rw [e, if_pos]
    exact ⟨⟨hx.1.1, by show l[j].1 ≤ c.gath - 1; omega⟩, hx.2.1, by show l[j].2 ≤ (c.stocks.length : Int) - 1; omega⟩
  rw [errE, h3]
end Go.Proofs.Ytbcfmfiolbcclaa

namespace Go.Proofs.Ytbcfmfiolbcclaa
open Go.Avm

def vStoreNil (P : Program) (ms : List MOp) (K : St → Prop) (s : St) (oid sz off b : Nat) : Option (List AV) → Prop
  | some cs => off < cs.length ∧ vcs P ms K ((s.dem oid).new b ((cs.map (demote oid)).set off (.slice sz [] oid)))
  | none => False
def vStoreN (P : Program) (ms : List MOp) (K : St → Prop) (s : St) (oid sz : Nat) : AV → Prop
  | .mref b off => vStoreNil P ms K s oid sz off b (s.loc b)
  | _ => False
theorem v_storeNil (P : Program) (ms : List MOp) (K : St → Prop) (s : St) (x : MArg) (sz oid : Nat) : vcs P (.storeNil x sz oid :: ms) K s = vStoreN P ms K s oid sz (x.ev s.env) := by
  unfold vStoreN vStoreNil; rfl
attribute [simp] v_storeNil vStoreN vStoreNil

/-- Each place of a pile that is high enough has a stock. -/
theorem place_some {c : Case} (h : c.OK) {p : List Int} (hp : p ∈ pilesL c) {q : Nat} (hq : q < c.gath.toNat) : stocksAt c p q c.stocks.length ≠ [] := by
  have hpo := pilesL_ok h hp
  have hsum := ((mem_pilesL h).1 hp).2
  have hrun := h.run
  have hg := h.gath
  have hq1 : ((q : Int) + 1) * c.run ≤ p.sum := by
    refine Int.le_trans ?_ hsum
    rw [Int.mul_comm]
    exact Int.mul_le_mul_of_nonneg_left (by omega) (by omega)
  have hq0 : 0 ≤ (q : Int) * c.run := Int.mul_nonneg (by omega) (by omega)
  have hq2 : ((q : Int) + 1) * c.run = (q : Int) * c.run + c.run := by rw [Int.add_mul]; omega
  -- the first ream that reaches beyond q * run
  have key : ∀ k, k ≤ p.length → (q : Int) * c.run < (p.take k).sum → ∃ i, i < k ∧ (p.take i).sum ≤ (q : Int) * c.run ∧ (q : Int) * c.run < (p.take (i + 1)).sum := by
    intro k
    induction k with
    | zero => intro _ h; simp at h; omega
    | succ k ih =>
      intro hk hs
      by_cases hh : (q : Int) * c.run < (p.take k).sum
      · obtain ⟨i, h1, h2⟩ := ih (by omega) hh
        exact ⟨i, by omega, h2⟩
      · exact ⟨k, by omega, by omega, hs⟩
  obtain ⟨i, h1, h2, h3⟩ := key p.length (Nat.le_refl _) (by rw [List.take_length]; omega)
  have hil : i < c.reams.length := by rw [← hpo.len]; exact h1
  have hr := h.ream hil
  have hs : (p.take i).sum + p[i] = (p.take (i + 1)).sum := by rw [take_snoc h1, List.sum_append]; simp
  have hc : covers c p q i = true := by
    unfold covers
    rw [show p.getD i 0 = p[i] by simp [h1], Bool.and_eq_true, decide_eq_true_eq, decide_eq_true_eq]
    constructor <;> omega
  refine List.ne_nil_of_mem (a := c.reams[i].stock) (mem_stocksAt.2 ⟨hr.1, hr.2.1, ?_⟩)
  unfold covUp
  rw [List.any_eq_true]
  refine ⟨i, by simpa using h1, ?_⟩
  unfold cov
  rw [hc, Bool.and_true, decide_eq_true_eq]
  simp [hil]
  omega

/-- A truth that a law is told of. -/
structure TruIn (c : Case) (t : List Int × List Int) : Prop where
  pile : t.1 ∈ pilesL c
  order : t.2 ∈ ordersL c
theorem TruIn.len {c : Case} {t : List Int × List Int} (ht : TruIn c t) : t.2.length = c.gath.toNat := (allO_each _ _ _ ht.order).1

end Go.Proofs.Ytbcfmfiolbcclaa

namespace Go.Proofs.Ytbcfmfiolbcclaa
open Go.Avm

end Go.Proofs.Ytbcfmfiolbcclaa

namespace Go.Proofs.Ytbcfmfiolbcclaa
open Go.Avm

theorem mem_truA {c : Case} (h : c.OK) {but : Nat} {x : List Int × List Int} : x ∈ truL c but ↔ x.1 ∈ pilesL c ∧ x.2 ∈ ordersL c ∧ Agr c but.testBit x.1 x.2 := by
  rw [mem_truL, mem_pilesP h]
  constructor
  · rintro ⟨h1, h2, h3⟩
    exact ⟨h1, h2, (fits_iff h (pilesL_ok h h1) fun y hy => ((allO_each _ _ _ h2).2.2 y hy).1).1 h3⟩
  · rintro ⟨h1, h2, h3⟩
    exact ⟨h1, h2, (fits_iff h (pilesL_ok h h1) fun y hy => ((allO_each _ _ _ h2).2.2 y hy).1).2 h3⟩

theorem orders_say {c : Case} (he : errE c = 0) (hn : truL c 0 ≠ []) : ordersS c = (waysP c, 0) := by
  unfold ordersS
  rw [if_neg (by simpa using he), if_neg fun e => hn (ways_nil.1 e)]
theorem orders_no {c : Case} (he : errE c = 0) (hn : truL c 0 = []) : ordersS c = ([], 8) := by
  unfold ordersS
  rw [if_neg (by simpa using he), if_pos (ways_nil.2 hn)]
theorem left_say {c : Case} (he : errE c = 0) (hn : truL c 0 ≠ []) : (leftS c).e = 0 ∧ Span (fun m => ∃ x ∈ truL c 0, m = leftOf c x) (leftS c).a (leftS c).b ∧ Span (fun m => ∃ x ∈ truL c 0, m = begunOf c x) (leftS c).x (leftS c).y := by
  have h1 := ends_span (leftOf c) hn
  have h2 := ends_span (begunOf c) hn
  have e : leftS c = ⟨(endsL (leftOf c) (truL c 0)).lo, (endsL (leftOf c) (truL c 0)).hi, (endsL (begunOf c) (truL c 0)).lo, (endsL (begunOf c) (truL c 0)).hi, 0⟩ := by
    unfold leftS
    rw [if_neg (by simpa using he), if_neg hn]
  rw [e]
  exact ⟨rfl, h1, h2⟩
theorem left_no {c : Case} (he : errE c = 0) (hn : truL c 0 = []) : leftS c = ⟨0, 0, 0, 0, 8⟩ := by
  unfold leftS
  rw [if_neg (by simpa using he), if_pos hn]
theorem year_say {c : Case} (he : errE c = 0) (hn : truL c 0 ≠ []) : (yearS c).e = 0 ∧ Span (fun m => ∃ n ∈ (truL c 0).flatMap (yearsOf c), m = n) (yearS c).a (yearS c).b := by
  have h1 := yearE_span (c := c) hn
  have e : yearS c = ⟨(yearE c (truL c 0)).lo, (yearE c (truL c 0)).hi, 0⟩ := by
    unfold yearS
    rw [if_neg (by simpa using he), if_neg hn]
  rw [e]
  exact ⟨rfl, h1⟩
theorem year_no {c : Case} (he : errE c = 0) (hn : truL c 0 = []) : yearS c = ⟨0, 0, 8⟩ := by
  unfold yearS
  rw [if_neg (by simpa using he), if_pos hn]

theorem stocks_say {c : Case} (he : errE c = 0) (hn : truL c 0 ≠ []) {g : Int} (hg : 0 ≤ g ∧ g < c.gath) : stocksS c g = (sureR c (truR c) g, mayR c (truR c) g, 0) := by
  have hok := err_ok he
  unfold stocksS
  rw [if_neg (by simpa using he), out1, if_neg (by simp; omega), if_neg hn, sure_eq hok hg hn, may_eq hok hg]
/-- The stocks of a gathering in a truth. -/
def stocksOf (c : Case) (g : Int) (t : List Int × List Int) : List Int := (placesL c t.1).getD (at' t.2 g).toNat []
theorem stocksOf_range {c : Case} (h : c.OK) {g : Int} {t : List Int × List Int} {s : Int} (hs : s ∈ stocksOf c g t) : 0 ≤ s ∧ s < c.stocks.length := by
  unfold stocksOf at hs
  by_cases hq : (at' t.2 g).toNat < (placesL c t.1).length
  · rw [show (placesL c t.1).getD (at' t.2 g).toNat [] = (placesL c t.1)[(at' t.2 g).toNat] by simp [hq]] at hs
    exact ((placesL_each h t.1).2 _ (List.getElem_mem hq)).2 _ hs
  · rw [show (placesL c t.1).getD (at' t.2 g).toNat [] = [] by simp [Nat.le_of_not_lt hq]] at hs
    cases hs

theorem mem_may {c : Case} (h : c.OK) {g s : Int} : s ∈ mayR c (truR c) g ↔ ∃ t ∈ truL c 0, s ∈ stocksOf c g t := by
  have key : ∀ j : Nat, mayQ c (truR c) g j = true ↔ ∃ t ∈ truL c 0, (j : Int) ∈ stocksOf c g t := by
    intro j
    unfold mayQ manyN
    rw [decide_eq_true_eq, List.length_filter_pos_iff]
    constructor
    · rintro ⟨t, ht, hh⟩; exact ⟨t, (mem_tru h).1 ht, of_decide_eq_true hh⟩
    · rintro ⟨t, ht, hh⟩; exact ⟨t, (mem_tru h).2 ht, decide_eq_true hh⟩
  constructor
  · intro hs
    obtain ⟨j, rfl, h1, h2⟩ := selT_mem hs
    exact (key j).1 h2
  · rintro ⟨t, ht, hs⟩
    have hr := stocksOf_range h hs
    obtain ⟨j, rfl⟩ : ∃ j : Nat, s = j := ⟨s.toNat, by omega⟩
    exact mem_selT.2 ⟨by omega, (key j).2 ⟨t, ht, hs⟩⟩

/-! ## The years -/
/-! ## What is told of a truth -/
end Go.Proofs.Ytbcfmfiolbcclaa

namespace Go.Proofs.Ytbcfmfiolbcclaa
open Go.Avm

theorem loc_dem_nil (s : St) (r : Nat) : ((s.dem r).loc = fun _ => none) ↔ s.loc = fun _ => none := by
  constructor
  · intro h
    funext b
    have := congrFun h b
    rw [loc_dem, Option.map_eq_none_iff] at this
    exact this
  · intro h
    funext b
    rw [loc_dem, h]; rfl
attribute [simp] loc_dem_nil

/-! ## Without some of what is seen -/
theorem agr_mem {c : Case} {p o : List Int} : Agr c (0 : Nat).testBit p o ↔ ∀ x ∈ c.seen, ∀ q (hq : q < o.length), o[q] = x.1 → covUp c p q x.2.toNat p.length = true := by
  unfold Agr
  constructor
  · intro hh x hx q hq e
    obtain ⟨i, hi, rfl⟩ := List.getElem_of_mem hx
    exact hh i hi (by simp) q hq e
  · intro hh i hi _ q hq e
    exact hh _ (List.getElem_mem hi) q hq e
end Go.Proofs.Ytbcfmfiolbcclaa

namespace Go.Proofs.Ytbcfmfiolbcclaa
open Go.Avm

theorem mem_more {c : Case} (h : c.OK) {g s : Int} (hd : (moreC c g s).OK) (x : List Int × List Int) : x ∈ truL (moreC c g s) 0 ↔ x ∈ truL c 0 ∧ s ∈ stocksOf c g x := by
  rw [mem_truA hd, mem_truA h, agr_mem, agr_mem]
  have hgs := hd.seen (g, s) (by show (g, s) ∈ c.seen ++ [(g, s)]; simp)
  have hgs1 : 0 ≤ g ∧ g < c.gath := ⟨hgs.1, hgs.2.1⟩
  have hgs2 : 0 ≤ s ∧ s < c.stocks.length := ⟨hgs.2.2.1, hgs.2.2.2⟩
  have key : x.2 ∈ ordersL c → ((∀ q (hq : q < x.2.length), x.2[q] = g → covUp c x.1 q s.toNat x.1.length = true) ↔ s ∈ stocksOf c g x) := fun ho => by
    have hoe := allO_each _ _ _ ho
    obtain ⟨q, hq1, hq2, hq3⟩ := at_mem (order_mem h ho hgs1)
    unfold stocksOf
    rw [hq2, Int.toNat_natCast, placesL_at _ (by omega), mem_stocksAt]
    constructor
    · intro hh; exact ⟨hgs2.1, hgs2.2, hh q hq1 hq3⟩
    · rintro ⟨-, -, hh⟩ q' hq' he
      have : q' = q := (List.getElem_inj hoe.2.1).1 (by rw [he, hq3])
      subst this
      exact hh
  have e1 : pilesL (moreC c g s) = pilesL c := rfl
  have e2 : ordersL (moreC c g s) = ordersL c := rfl
  have e3 : (moreC c g s).seen = c.seen ++ [(g, s)] := rfl
  have e4 : ∀ p q j i, covUp (moreC c g s) p q j i = covUp c p q j i := fun _ _ _ _ => rfl
  simp only [e1, e2, e3, e4]
  constructor
  · rintro ⟨h1, h2, h3⟩
    refine ⟨⟨h1, h2, fun y hy => h3 y (by simp [hy])⟩, (key h2).1 fun q hq he => h3 (g, s) (by simp) q hq he⟩
  · rintro ⟨⟨h1, h2, h3⟩, h4⟩
    refine ⟨h1, h2, fun y hy => ?_⟩
    rcases List.mem_append.1 hy with hy | hy
    · exact h3 y hy
    · rw [List.mem_singleton] at hy
      subst hy
      exact (key h2).2 h4

theorem Span.sub {P Q : Int → Prop} {a b x y : Int} (h1 : Span P a b) (h2 : Span Q x y) (h : ∀ n, P n → Q n) : x ≤ a ∧ b ≤ y :=
  ⟨(h2.all a (h a h1.inLo)).1, (h2.all b (h b h1.inHi)).2⟩
theorem years_seen {c : Case} (h : c.OK) {l : List (Int × Int)} (hd : (withSeen c l).OK) {x : List Int × List Int} (hp : PileOK c x.1) : yearsOf (withSeen c l) x = yearsOf c x := by
  have hp' : PileOK (withSeen c l) x.1 := ⟨hp.len, hp.each⟩
  unfold yearsOf yearLo yearHi
  rw [← lat_eq h hp, ← lat_eq h hp, ← lat_eq hd hp', ← lat_eq hd hp']
  rfl

/-- What the law looks at, with one more thing seen and some truth that agrees. -/
structure MoreIn (c d : Case) : Prop where
  sub : ∀ o ∈ waysP d, o ∈ waysP c
  st : ∀ g, 0 ≤ g ∧ g < c.gath → (∀ s ∈ sureR c (truR c) g, s ∈ sureR d (truR d) g) ∧ (∀ s ∈ mayR d (truR d) g, s ∈ mayR c (truR c) g)
  la : (leftS c).a ≤ (leftS d).a ∧ (leftS d).b ≤ (leftS c).b
  lx : (leftS c).x ≤ (leftS d).x ∧ (leftS d).y ≤ (leftS c).y
  ye : (yearS c).a ≤ (yearS d).a ∧ (yearS d).b ≤ (yearS c).b
end Go.Proofs.Ytbcfmfiolbcclaa

namespace Go.Proofs.Ytbcfmfiolbcclaa
open Go.Avm

theorem stocks_ne {c : Case} (h : c.OK) {t : List Int × List Int} (ht : t ∈ truL c 0) {g : Int} (hg : 0 ≤ g ∧ g < c.gath) : stocksOf c g t ≠ [] := by
  obtain ⟨h1, h2, -⟩ := (mem_truA h).1 ht
  obtain ⟨q, hq1, hq2, -⟩ := at_mem (order_mem h h2 hg)
  have hl := (allO_each _ _ _ h2).1
  have hq : q < c.gath.toNat := by omega
  unfold stocksOf
  rw [hq2, Int.toNat_natCast, placesL_at _ hq]
  exact place_some h h1 hq
theorem may_ne {c : Case} (h : c.OK) (hn : truL c 0 ≠ []) {g : Int} (hg : 0 ≤ g ∧ g < c.gath) : mayR c (truR c) g ≠ [] := by
  obtain ⟨t, ht⟩ := List.exists_mem_of_ne_nil _ hn
  obtain ⟨s, hs⟩ := List.exists_mem_of_ne_nil _ (stocks_ne h ht hg)
  exact List.ne_nil_of_mem ((mem_may h).2 ⟨t, ht, hs⟩)
theorem may_range {c : Case} {l : List (List Int × List Int)} {g s : Int} (hs : s ∈ mayR c l g) : 0 ≤ s ∧ s < c.stocks.length := by
  obtain ⟨j, rfl, h1, -⟩ := selT_mem hs
  omega

theorem more_tru {c : Case} (h : c.OK) (h8 : c.seen.length ≤ 8) {g s : Int} (hg : 0 ≤ g ∧ g < c.gath) (hs : s ∈ mayR c (truR c) g) : truL (moreC c g s) 0 ≠ [] := by
  obtain ⟨t, ht, hst⟩ := (mem_may h).1 hs
  exact List.ne_nil_of_mem ((mem_more h (moreC_ok h h8 hg (may_range hs)) t).2 ⟨ht, hst⟩)
theorem more_ways {c : Case} (h : c.OK) {g s : Int} (hd : (moreC c g s).OK) : (waysP (moreC c g s)).length ≤ (waysP c).length := by
  have e1 : waysP (moreC c g s) = (ordersL c).filter (okO (moreC c g s)) := rfl
  have e2 : waysP c = (ordersL c).filter (okO c) := rfl
  rw [e1, e2, ← List.countP_eq_length_filter, ← List.countP_eq_length_filter]
  refine List.countP_mono_left fun o ho hok => ?_
  have : o ∈ waysP (moreC c g s) := List.mem_filter.2 ⟨ho, hok⟩
  obtain ⟨p, hp⟩ := mem_waysP.1 this
  have := mem_waysP.2 ⟨p, ((mem_more h hd _).1 hp).1⟩
  exact (List.mem_filter.1 this).2
theorem more_err {c : Case} (he : errE c = 0) (h8 : c.seen.length < 8) {g s : Int} (hg : 0 ≤ g ∧ g < c.gath) (hs : 0 ≤ s ∧ s < c.stocks.length) : errE (moreC c g s) = 0 := by
  have h := err_ok he
  refine withSeen_err he (by simp; omega) fun x hx => ?_
  rcases List.mem_append.1 hx with hx | hx
  · have := h.seen x hx; omega
  · rw [List.mem_singleton] at hx
    subst hx
    exact ⟨hg, hs⟩

theorem worstL_each (c : Case) (g : Int) : ∀ (l : List Int) (a : Int), a ≤ l.foldl (fun a s => max a ((waysP (moreC c g s)).length : Int)) a ∧ (∀ s ∈ l, ((waysP (moreC c g s)).length : Int) ≤ l.foldl (fun a s => max a ((waysP (moreC c g s)).length : Int)) a) ∧
    ∀ m, a ≤ m → (∀ s ∈ l, ((waysP (moreC c g s)).length : Int) ≤ m) → l.foldl (fun a s => max a ((waysP (moreC c g s)).length : Int)) a ≤ m
  | [], a => ⟨by simp, by simp, fun m h _ => h⟩
  | x :: l, a => by
    obtain ⟨h1, h2, h3⟩ := worstL_each c g l (max a ((waysP (moreC c g x)).length : Int))
    rw [List.foldl_cons]
    refine ⟨by omega, fun s hs => ?_, fun m hm hl => h3 m ?_ fun s hs => hl s (by simp [hs])⟩
    · rcases List.mem_cons.1 hs with rfl | hs
      · omega
      · exact h2 s hs
    · have := hl x (by simp); omega

theorem worstP_may {c : Case} (h : c.OK) {g : Nat} (hg : (g : Int) < c.gath) : worstP c g = worstL c g (mayR c (truR c) g) := by
  unfold worstP
  rw [may_eq h ⟨by omega, hg⟩]
theorem worst_in {c : Case} (h : c.OK) (h8 : c.seen.length ≤ 8) (hn : truL c 0 ≠ []) {g : Nat} (hg : (g : Int) < c.gath) : 1 ≤ worstP c g ∧ worstP c g ≤ (waysP c).length ∧ ∀ s ∈ mayR c (truR c) g, ((waysP (moreC c g s)).length : Int) ≤ worstP c g := by
  have hgg : 0 ≤ (g : Int) ∧ (g : Int) < c.gath := ⟨by omega, hg⟩
  rw [worstP_may h hg]
  obtain ⟨h1, h2, h3⟩ := worstL_each c g (mayR c (truR c) g) 0
  refine ⟨?_, h3 _ (by omega) fun s hs => ?_, h2⟩
  · obtain ⟨s, hs⟩ := List.exists_mem_of_ne_nil _ (may_ne h hn hgg)
    have := h2 s hs
    have hw : waysP (moreC c g s) ≠ [] := fun e => more_tru h h8 hgg hs (ways_nil.1 e)
    have := List.length_pos_iff.2 hw
    show 1 ≤ List.foldl _ _ _
    omega
  · have := more_ways h (moreC_ok h h8 hgg (may_range hs))
    omega

theorem ask_up {c : Case} : ∀ k, 0 < k → ∃ n : Nat, n < k ∧ askUp c k = ((n : Int), worstP c n) ∧ ∀ g < k, worstP c n ≤ worstP c g
  | k + 1, _ => by
    unfold askUp
    by_cases hk : k = 0
    · subst hk
      rw [if_pos (.inl rfl)]
      refine ⟨0, by omega, rfl, fun g hg => ?_⟩
      obtain rfl : g = 0 := by omega
      omega
    · obtain ⟨n, h1, h2, h3⟩ := ask_up (c := c) k (by omega)
      rw [h2]
      by_cases hlt : worstP c k < worstP c n
      · rw [if_pos (.inr hlt)]
        refine ⟨k, by omega, rfl, fun g hg => ?_⟩
        by_cases e : g = k
        · subst e; omega
        · have := h3 g (by omega); omega
      · rw [if_neg (by simp [hk]; omega)]
        refine ⟨n, by omega, rfl, fun g hg => ?_⟩
        by_cases e : g = k
        · subst e; omega
        · exact h3 g (by omega)

theorem ask_err {c : Case} (he : errE c ≠ 0) : askS c = ⟨0, 0, errE c⟩ := by
  unfold askS
  rw [if_pos he]
theorem ask_no {c : Case} (he : errE c = 0) (hn : truL c 0 = []) : askS c = ⟨0, 0, 8⟩ := by
  unfold askS
  rw [if_neg (by simpa using he), if_pos hn]
theorem ask_say {c : Case} (he : errE c = 0) (hn : truL c 0 ≠ []) : ∃ n : Nat, (n : Int) < c.gath ∧ askS c = ⟨n, worstP c n, 0⟩ ∧ ∀ g : Nat, (g : Int) < c.gath → worstP c n ≤ worstP c g := by
  have hg := (err_ok he).gath
  obtain ⟨n, h1, h2, h3⟩ := ask_up (c := c) c.gath.toNat (by omega)
  refine ⟨n, by omega, ?_, fun g hg => h3 g (by omega)⟩
  unfold askS
  rw [if_neg (by simpa using he), if_neg hn, h2]
end Go.Proofs.Ytbcfmfiolbcclaa

namespace Go.Proofs.Ytbcfmfiolbcclaa
open Go.Avm

theorem all_nodup : ∀ g < 6, (allO g g).Nodup := by decide +kernel
theorem ordersL_nodup {c : Case} (h : c.OK) : (ordersL c).Nodup := by
  have hg := h.gath
  exact all_nodup c.gath.toNat (by omega)
theorem waysP_nodup {c : Case} (h : c.OK) : (waysP c).Nodup := (ordersL_nodup h).filter _

/-- Orders that a turn takes to each other are as many. -/
theorem ways_len_le {c d : Case} (hc : c.OK) {f : List Int → List Int} (h1 : ∀ o ∈ waysP c, f o ∈ waysP d) (inv : ∀ o ∈ waysP c, f (f o) = o) : (waysP c).length ≤ (waysP d).length := by
  have hn : ((waysP c).map f).Nodup := by
    refine List.pairwise_map.2 ?_
    have := waysP_nodup hc
    exact List.Pairwise.imp_of_mem (fun ha hb hne he => hne (by rw [← inv _ ha, he, inv _ hb])) this
  have := List.Nodup.length_le_of_subset hn (l₂ := waysP d) fun o ho => by
    obtain ⟨o', ho', rfl⟩ := List.mem_map.1 ho
    exact h1 _ ho'
  rwa [List.length_map] at this

def flipO (g : Int) (o : List Int) : List Int := o.map fun x => g - 1 - x
def flipC (c : Case) : Case := withSeen c (c.seen.map fun x => (c.gath - 1 - x.1, x.2))
theorem flip_flip (g : Int) (o : List Int) : flipO g (flipO g o) = o := by
  unfold flipO
  rw [List.map_map]
  conv => rhs; rw [← List.map_id o]
  refine List.map_congr_left fun x _ => ?_
  show g - 1 - (g - 1 - x) = x
  omega
theorem flip_orders {c : Case} (h : c.OK) {o : List Int} (ho : o ∈ ordersL c) : flipO c.gath o ∈ ordersL c := by
  obtain ⟨h1, h2, h3⟩ := allO_each _ _ _ ho
  have hg := h.gath
  refine mem_allO _ _ _ (by simp [flipO, h1]) ?_ fun x hx => ?_
  · refine List.pairwise_map.2 (h2.imp fun hne => ?_)
    omega
  · obtain ⟨y, hy, rfl⟩ := List.mem_map.1 hx
    have := h3 y hy
    omega
theorem flip_err {c : Case} (he : errE c = 0) : errE (flipC c) = 0 := by
  have h := err_ok he
  have h8 := (checkS_zero he).2.1
  refine withSeen_err he (by simpa using h8) fun x hx => ?_
  obtain ⟨y, hy, rfl⟩ := List.mem_map.1 hx
  have := h.seen y hy
  omega
theorem flip_tru {c : Case} (he : errE c = 0) {p o : List Int} (hx : (p, o) ∈ truL c 0) : (p, flipO c.gath o) ∈ truL (flipC c) 0 := by
  have h := err_ok he
  obtain ⟨h1, h2, h3⟩ := (mem_truA h).1 hx
  refine (mem_truA (err_ok (flip_err he))).2 ⟨h1, flip_orders h h2, ?_⟩
  rw [agr_mem] at h3 ⊢
  intro x hx q hq e
  obtain ⟨y, hy, rfl⟩ := List.mem_map.1 hx
  have hq' : q < o.length := by simpa [flipO] using hq
  have e : c.gath - 1 - o[q] = c.gath - 1 - y.1 := by simpa [flipO] using e
  have e2 : o[q] = y.1 := by omega
  exact h3 y hy q hq' e2
theorem flip_back (c : Case) : flipC (flipC c) = c := by
  have : ((c.seen.map fun x => (c.gath - 1 - x.1, x.2)).map fun x => (c.gath - 1 - x.1, x.2)) = c.seen := by
    rw [List.map_map]
    conv => rhs; rw [← List.map_id c.seen]
    refine List.map_congr_left fun x _ => ?_
    show (c.gath - 1 - (c.gath - 1 - x.1), x.2) = x
    rw [show c.gath - 1 - (c.gath - 1 - x.1) = x.1 by omega]
  show withSeen (withSeen c _) (List.map _ (List.map _ _)) = c
  have e : withSeen (flipC c) ((c.seen.map fun x => (c.gath - 1 - x.1, x.2)).map fun x => (c.gath - 1 - x.1, x.2)) = withSeen c c.seen := by rw [this]; rfl
  exact e
theorem flip_iff {c : Case} (he : errE c = 0) {p o : List Int} : (p, o) ∈ truL (flipC c) 0 ↔ (p, flipO c.gath o) ∈ truL c 0 := by
  constructor
  · intro hx
    have := flip_tru (flip_err he) hx
    rw [flip_back] at this
    exact this
  · intro hx
    have := flip_tru he hx
    rwa [flip_flip] at this
theorem flip_nil {c : Case} (he : errE c = 0) : truL (flipC c) 0 = [] ↔ truL c 0 = [] := by
  rw [List.eq_nil_iff_forall_not_mem, List.eq_nil_iff_forall_not_mem]
  constructor
  · rintro hh ⟨p, o⟩ hx; exact hh _ (flip_tru he hx)
  · rintro hh ⟨p, o⟩ hx; exact hh _ ((flip_iff he).1 hx)

/-- What the law looks at. -/
structure FlipIn (c d : Case) : Prop where
  oe : (ordersS c).2 = (ordersS d).2
  each : ∀ o ∈ (ordersS c).1, flipO c.gath o ∈ (ordersS d).1
  len : (ordersS c).1.length = (ordersS d).1.length
  left : leftS c = leftS d
  year : yearS c = yearS d
theorem flip_in {c : Case} (he : errE c = 0) : FlipIn c (flipC c) := by
  have hd := flip_err he
  have hok := err_ok he
  have hdo := err_ok hd
  by_cases hn : truL c 0 = []
  · have hn' := (flip_nil he).2 hn
    refine ⟨?_, ?_, ?_, ?_, ?_⟩
    · rw [orders_no he hn, orders_no hd hn']
    · rw [orders_no he hn]; simp
    · rw [orders_no he hn, orders_no hd hn']
    · rw [left_no he hn, left_no hd hn']
    · rw [year_no he hn, year_no hd hn']
  · have hn' : truL (flipC c) 0 ≠ [] := fun e => hn ((flip_nil he).1 e)
    have k1 : ∀ o ∈ waysP c, flipO c.gath o ∈ waysP (flipC c) := fun o ho => by
      obtain ⟨p, hp⟩ := mem_waysP.1 ho
      exact mem_waysP.2 ⟨p, flip_tru he hp⟩
    have k2 : ∀ o ∈ waysP (flipC c), flipO c.gath o ∈ waysP c := fun o ho => by
      obtain ⟨p, hp⟩ := mem_waysP.1 ho
      exact mem_waysP.2 ⟨p, (flip_iff he).1 hp⟩
    obtain ⟨l1, l2, l3⟩ := left_say he hn
    obtain ⟨m1, m2, m3⟩ := left_say hd hn'
    obtain ⟨y1, y2⟩ := year_say he hn
    obtain ⟨z1, z2⟩ := year_say hd hn'
    refine ⟨?_, ?_, ?_, ?_, ?_⟩
    · rw [orders_say he hn, orders_say hd hn']
    · rw [orders_say he hn, orders_say hd hn']; exact k1
    · rw [orders_say he hn, orders_say hd hn']
      exact Nat.le_antisymm (ways_len_le hok k1 fun o _ => flip_flip _ o) (ways_len_le hdo k2 fun o _ => flip_flip _ o)
    · have e1 := l2.uniq m2 fun n => by
        constructor
        · rintro ⟨⟨p, o⟩, hx, rfl⟩; exact ⟨(p, flipO c.gath o), flip_tru he hx, rfl⟩
        · rintro ⟨⟨p, o⟩, hx, rfl⟩; exact ⟨(p, flipO c.gath o), (flip_iff he).1 hx, rfl⟩
      have e2 := l3.uniq m3 fun n => by
        constructor
        · rintro ⟨⟨p, o⟩, hx, rfl⟩; exact ⟨(p, flipO c.gath o), flip_tru he hx, rfl⟩
        · rintro ⟨⟨p, o⟩, hx, rfl⟩; exact ⟨(p, flipO c.gath o), (flip_iff he).1 hx, rfl⟩
      generalize leftS c = L at *
      generalize leftS (flipC c) = M at *
      obtain ⟨a, b, x, y, e⟩ := L
      obtain ⟨a', b', x', y', e'⟩ := M
      simp only at e1 e2 l1 m1
      rw [e1.1, e1.2, e2.1, e2.2, l1, m1]
    · have ey : ∀ p o o', (p, o) ∈ truL c 0 → yearsOf (flipC c) (p, o') = yearsOf c (p, o) := fun p o o' hx => years_seen hok (x := (p, o')) hdo (truL_pile hok (x := (p, o)) hx)
      have e1 := y2.uniq z2 fun n => by
        simp only [List.mem_flatMap]
        constructor
        · rintro ⟨m, ⟨⟨p, o⟩, hx, hm⟩, e⟩
          exact ⟨m, ⟨(p, flipO c.gath o), flip_tru he hx, by rw [ey p o _ hx]; exact hm⟩, e⟩
        · rintro ⟨m, ⟨⟨p, o⟩, hx, hm⟩, e⟩
          have hx' := (flip_iff he).1 hx
          exact ⟨m, ⟨(p, flipO c.gath o), hx', by rw [← ey p _ o hx']; exact hm⟩, e⟩
      generalize yearS c = L at *
      generalize yearS (flipC c) = M at *
      obtain ⟨a, b, e⟩ := L
      obtain ⟨a', b', e'⟩ := M
      simp only at e1 y1 z1
      rw [e1.1, e1.2, y1, z1]
end Go.Proofs.Ytbcfmfiolbcclaa

