/- Contracts of the laws' helpers: valid cases, turns, lists in lists. Contracts of the laws' helpers: any truth, what is told of it. Contracts of the laws' helpers: the latest year of a truth, a case without some of what is seen. Plain: what the program says, of each truth that agrees. Plain: what Wrong says; a case without some of what is seen. Plain: with one more thing seen. Plain: what Ask says. Plain: gatherings numbered the other way round. Plain: a pile of known reams, turned upside down. Plain: a ream that is parted into two of the same stock. -/
import Derived.Test.YtbcfmfiolbcclaaZI
namespace Go.Proofs.Ytbcfmfiolbcclaa
open Go.Avm

theorem valid36_ok (c : Case) : PCall Try.prog 36 [encCase c] (B (decide (errE c = 0))) := by
  refine pcall Try.func36 tr36 rs36 fn36 (by simp [Try.ntmps36]) fun _ => ?_
  have hc := checkR_ok c
  obtain ⟨E, hE⟩ : ∃ E, E = errE c := ⟨_, rfl⟩
  have hc : PCall Try.prog 16 [encCase c] (.tuple [I (checkS c).1, I (checkS c).2.1, I E]) := by rw [hE]; exact hc
  rw [← hE]
  simp -implicitDefEqProofs [m36]
  refine vCall_of hc ?_
  simp -implicitDefEqProofs [r36]
  by_cases h : E = 0 <;> simp [h]

theorem wrap_u {n : Int} (h : 0 ≤ n ∧ n ≤ 65535) : IntKind.wrap .i64 n = n := by
  simp [IntKind.wrap, IntKind.bits, IntKind.signed]
  omega

/-! ## Cases that differ in what is seen alone -/
theorem half_of {c : Case} (h : errE c = 0) : Half c ∧ (1 ≤ c.gath ∧ c.gath ≤ 5) ∧ ¬ (8 : Int) < c.seen.length ∧ ∀ j < c.seen.length, seenE c j = 0 := by
  have h : (checkS c).2.2 = 0 := h
  by_cases h1 : 1 ≤ c.run ∧ c.run ≤ 500
  case neg => rw [checkS_1 h1] at h; cases h
  by_cases h2 : 1 ≤ (c.stocks.length : Int) ∧ (c.stocks.length : Int) ≤ 4
  case neg => rw [checkS_2 h1 h2] at h; cases h
  unfold checkS at h
  rw [if_neg (not_not_intro h1), if_neg (not_not_intro h2)] at h
  cases h3 : errs (stockE c) c.stocks.length with
  | some p => rw [h3] at h; exact absurd h (errs_nz (i := p.1) (e := p.2) h3)
  | none =>
  rw [h3] at h
  have h3 := errs_zero h3
  simp only at h
  by_cases h4 : 1 ≤ (c.reams.length : Int) ∧ (c.reams.length : Int) ≤ 4
  case neg => rw [if_pos h4] at h; cases h
  rw [if_neg (not_not_intro h4)] at h
  cases h5 : errs (reamE c) c.reams.length with
  | some p => rw [h5] at h; exact absurd h (errs_nz (i := p.1) (e := p.2) h5)
  | none =>
  rw [h5] at h
  have h5 := errs_zero h5
  simp only at h
  by_cases h6 : 1 ≤ c.gath ∧ c.gath ≤ 5
  case neg => rw [if_pos h6] at h; cases h
  rw [if_neg (not_not_intro h6)] at h
  by_cases h7 : (8 : Int) < c.seen.length
  case pos => rw [if_pos h7] at h; cases h
  rw [if_neg h7] at h
  cases h8 : errs (seenE c) c.seen.length with
  | some p => rw [h8] at h; exact absurd h (errs_nz (i := p.1) (e := p.2) h8)
  | none => exact ⟨⟨h1, h2, h3, h4, h5⟩, h6, h7, errs_zero h8⟩

end Go.Proofs.Ytbcfmfiolbcclaa

namespace Go.Proofs.Ytbcfmfiolbcclaa
open Go.Avm

def vStoreNil (P : Program) (ms : List MOp) (K : St → Prop) (s : St) (oid sz off b : Nat) : Option (List AV) → Prop
  | some cs => off < cs.length ∧ vcs P ms K ((s.dem oid).new b ((cs.map (demote oid)).set off (.slice sz [] oid)))
  | none => False
def vStoreN (P : Program) (ms : List MOp) (K : St → Prop) (s : St) (oid sz : Nat) : AV → Prop
  | .mref b off => vStoreNil P ms K s oid sz off b (s.loc b)
  | _ => False
theorem v_storeNil (P : Program) (ms : List MOp) (K : St → Prop) (s : St) (x : MArg) (sz oid : Nat) : vcs P (.storeNil x sz oid :: ms) K s = vStoreN P ms K s oid sz (x.ev s.env) := by
  unfold vStoreN vStoreNil; rfl
attribute [simp] v_storeNil vStoreN vStoreNil

/-- A truth that a law is told of. -/
structure TruIn (c : Case) (t : List Int × List Int) : Prop where
  pile : t.1 ∈ pilesL c
  order : t.2 ∈ ordersL c
theorem TruIn.len {c : Case} {t : List Int × List Int} (ht : TruIn c t) : t.2.length = c.gath.toNat := (allO_each _ _ _ ht.order).1

end Go.Proofs.Ytbcfmfiolbcclaa

namespace Go.Proofs.Ytbcfmfiolbcclaa
open Go.Avm

end Go.Proofs.Ytbcfmfiolbcclaa

namespace Go.Proofs.Ytbcfmfiolbcclaa
open Go.Avm

theorem mem_truA {c : Case} (h : c.OK) {but : Nat} {x : List Int × List Int} : x ∈ truL c but ↔ x.1 ∈ pilesL c ∧ x.2 ∈ ordersL c ∧ Agr c but.testBit x.1 x.2 := by
  rw [mem_truL, mem_pilesP h]
  constructor
  · rintro ⟨h1, h2, h3⟩
    exact ⟨h1, h2, (fits_iff h (pilesL_ok h h1) fun y hy => ((allO_each _ _ _ h2).2.2 y hy).1).1 h3⟩
  · rintro ⟨h1, h2, h3⟩
    exact ⟨h1, h2, (fits_iff h (pilesL_ok h h1) fun y hy => ((allO_each _ _ _ h2).2.2 y hy).1).2 h3⟩

theorem orders_say {c : Case} (he : errE c = 0) (hn : truL c 0 ≠ []) : ordersS c = (waysP c, 0) := by
  unfold ordersS
  rw [if_neg (by simpa using he), if_neg fun e => hn (ways_nil.1 e)]
theorem orders_no {c : Case} (he : errE c = 0) (hn : truL c 0 = []) : ordersS c = ([], 8) := by
  unfold ordersS
  rw [if_neg (by simpa using he), if_pos (ways_nil.2 hn)]
theorem left_say {c : Case} (he : errE c = 0) (hn : truL c 0 ≠ []) : (leftS c).e = 0 ∧ Span (fun m => ∃ x ∈ truL c 0, m = leftOf c x) (leftS c).a (leftS c).b ∧ Span (fun m => ∃ x ∈ truL c 0, m = begunOf c x) (leftS c).x (leftS c).y := by
  have h1 := ends_span (leftOf c) hn
  have h2 := ends_span (begunOf c) hn
  have e : leftS c = ⟨(endsL (leftOf c) (truL c 0)).lo, (endsL (leftOf c) (truL c 0)).hi, (endsL (begunOf c) (truL c 0)).lo, (endsL (begunOf c) (truL c 0)).hi, 0⟩ := by
    unfold leftS
    rw [if_neg (by simpa using he), if_neg hn]
  rw [e]
  exact ⟨rfl, h1, h2⟩
theorem left_no {c : Case} (he : errE c = 0) (hn : truL c 0 = []) : leftS c = ⟨0, 0, 0, 0, 8⟩ := by
  unfold leftS
  rw [if_neg (by simpa using he), if_pos hn]
theorem year_say {c : Case} (he : errE c = 0) (hn : truL c 0 ≠ []) : (yearS c).e = 0 ∧ Span (fun m => ∃ n ∈ (truL c 0).flatMap (yearsOf c), m = n) (yearS c).a (yearS c).b := by
  have h1 := yearE_span (c := c) hn
  have e : yearS c = ⟨(yearE c (truL c 0)).lo, (yearE c (truL c 0)).hi, 0⟩ := by
    unfold yearS
    rw [if_neg (by simpa using he), if_neg hn]
  rw [e]
  exact ⟨rfl, h1⟩
theorem year_no {c : Case} (he : errE c = 0) (hn : truL c 0 = []) : yearS c = ⟨0, 0, 8⟩ := by
  unfold yearS
  rw [if_neg (by simpa using he), if_pos hn]

theorem stocks_say {c : Case} (he : errE c = 0) (hn : truL c 0 ≠ []) {g : Int} (hg : 0 ≤ g ∧ g < c.gath) : stocksS c g = (sureR c (truR c) g, mayR c (truR c) g, 0) := by
  have hok := err_ok he
  unfold stocksS
  rw [if_neg (by simpa using he), out1, if_neg (by simp; omega), if_neg hn, sure_eq hok hg hn, may_eq hok hg]
theorem stocks_no {c : Case} (he : errE c = 0) (hn : truL c 0 = []) {g : Int} (hg : 0 ≤ g ∧ g < c.gath) : stocksS c g = ([], [], 8) := by
  unfold stocksS
  rw [if_neg (by simpa using he), out1, if_neg (by simp; omega), if_pos hn]

/-- The stocks of a gathering in a truth. -/
def stocksOf (c : Case) (g : Int) (t : List Int × List Int) : List Int := (placesL c t.1).getD (at' t.2 g).toNat []
theorem stocksOf_range {c : Case} (h : c.OK) {g : Int} {t : List Int × List Int} {s : Int} (hs : s ∈ stocksOf c g t) : 0 ≤ s ∧ s < c.stocks.length := by
  unfold stocksOf at hs
  by_cases hq : (at' t.2 g).toNat < (placesL c t.1).length
  · rw [show (placesL c t.1).getD (at' t.2 g).toNat [] = (placesL c t.1)[(at' t.2 g).toNat] by simp [hq]] at hs
    exact ((placesL_each h t.1).2 _ (List.getElem_mem hq)).2 _ hs
  · rw [show (placesL c t.1).getD (at' t.2 g).toNat [] = [] by simp [Nat.le_of_not_lt hq]] at hs
    cases hs

theorem mem_sure {c : Case} (h : c.OK) {g s : Int} (hn : truL c 0 ≠ []) : s ∈ sureR c (truR c) g ↔ ∀ t ∈ truL c 0, s ∈ stocksOf c g t := by
  have key : ∀ j : Nat, sureQ c (truR c) g j = true ↔ ∀ t ∈ truL c 0, (j : Int) ∈ stocksOf c g t := by
    intro j
    unfold sureQ manyN
    rw [decide_eq_true_eq, List.length_filter_eq_length_iff]
    constructor
    · intro hh t ht; exact of_decide_eq_true (hh t ((mem_tru h).2 ht))
    · intro hh t ht; exact decide_eq_true (hh t ((mem_tru h).1 ht))
  constructor
  · intro hs
    obtain ⟨j, rfl, h1, h2⟩ := selT_mem hs
    exact (key j).1 h2
  · intro hs
    obtain ⟨t, ht⟩ := List.exists_mem_of_ne_nil _ hn
    have hr := stocksOf_range h (hs t ht)
    obtain ⟨j, rfl⟩ : ∃ j : Nat, s = j := ⟨s.toNat, by omega⟩
    exact mem_selT.2 ⟨by omega, (key j).2 hs⟩
theorem mem_may {c : Case} (h : c.OK) {g s : Int} : s ∈ mayR c (truR c) g ↔ ∃ t ∈ truL c 0, s ∈ stocksOf c g t := by
  have key : ∀ j : Nat, mayQ c (truR c) g j = true ↔ ∃ t ∈ truL c 0, (j : Int) ∈ stocksOf c g t := by
    intro j
    unfold mayQ manyN
    rw [decide_eq_true_eq, List.length_filter_pos_iff]
    constructor
    · rintro ⟨t, ht, hh⟩; exact ⟨t, (mem_tru h).1 ht, of_decide_eq_true hh⟩
    · rintro ⟨t, ht, hh⟩; exact ⟨t, (mem_tru h).2 ht, decide_eq_true hh⟩
  constructor
  · intro hs
    obtain ⟨j, rfl, h1, h2⟩ := selT_mem hs
    exact (key j).1 h2
  · rintro ⟨t, ht, hs⟩
    have hr := stocksOf_range h hs
    obtain ⟨j, rfl⟩ : ∃ j : Nat, s = j := ⟨s.toNat, by omega⟩
    exact mem_selT.2 ⟨by omega, (key j).2 ⟨t, ht, hs⟩⟩

/-! ## The years -/
/-! ## What is told of a truth -/
end Go.Proofs.Ytbcfmfiolbcclaa

namespace Go.Proofs.Ytbcfmfiolbcclaa
open Go.Avm

theorem loc_dem_nil (s : St) (r : Nat) : ((s.dem r).loc = fun _ => none) ↔ s.loc = fun _ => none := by
  constructor
  · intro h
    funext b
    have := congrFun h b
    rw [loc_dem, Option.map_eq_none_iff] at this
    exact this
  · intro h
    funext b
    rw [loc_dem, h]; rfl
attribute [simp] loc_dem_nil

/-! ## Without some of what is seen -/
theorem agr_mem {c : Case} {p o : List Int} : Agr c (0 : Nat).testBit p o ↔ ∀ x ∈ c.seen, ∀ q (hq : q < o.length), o[q] = x.1 → covUp c p q x.2.toNat p.length = true := by
  unfold Agr
  constructor
  · intro hh x hx q hq e
    obtain ⟨i, hi, rfl⟩ := List.getElem_of_mem hx
    exact hh i hi (by simp) q hq e
  · intro hh i hi _ q hq e
    exact hh _ (List.getElem_mem hi) q hq e
end Go.Proofs.Ytbcfmfiolbcclaa

namespace Go.Proofs.Ytbcfmfiolbcclaa
open Go.Avm

theorem Span.sub {P Q : Int → Prop} {a b x y : Int} (h1 : Span P a b) (h2 : Span Q x y) (h : ∀ n, P n → Q n) : x ≤ a ∧ b ≤ y :=
  ⟨(h2.all a (h a h1.inLo)).1, (h2.all b (h b h1.inHi)).2⟩
/-- What the law looks at, with one more thing seen and some truth that agrees. -/
structure MoreIn (c d : Case) : Prop where
  sub : ∀ o ∈ waysP d, o ∈ waysP c
  st : ∀ g, 0 ≤ g ∧ g < c.gath → (∀ s ∈ sureR c (truR c) g, s ∈ sureR d (truR d) g) ∧ (∀ s ∈ mayR d (truR d) g, s ∈ mayR c (truR c) g)
  la : (leftS c).a ≤ (leftS d).a ∧ (leftS d).b ≤ (leftS c).b
  lx : (leftS c).x ≤ (leftS d).x ∧ (leftS d).y ≤ (leftS c).y
  ye : (yearS c).a ≤ (yearS d).a ∧ (yearS d).b ≤ (yearS c).b
end Go.Proofs.Ytbcfmfiolbcclaa

namespace Go.Proofs.Ytbcfmfiolbcclaa
open Go.Avm

end Go.Proofs.Ytbcfmfiolbcclaa

namespace Go.Proofs.Ytbcfmfiolbcclaa
open Go.Avm

def flipO (g : Int) (o : List Int) : List Int := o.map fun x => g - 1 - x
/-- What the law looks at. -/
structure FlipIn (c d : Case) : Prop where
  oe : (ordersS c).2 = (ordersS d).2
  each : ∀ o ∈ (ordersS c).1, flipO c.gath o ∈ (ordersS d).1
  len : (ordersS c).1.length = (ordersS d).1.length
  left : leftS c = leftS d
  year : yearS c = yearS d
end Go.Proofs.Ytbcfmfiolbcclaa

namespace Go.Proofs.Ytbcfmfiolbcclaa
open Go.Avm

/-- A case of other reams. -/
def withReams (c : Case) (rs : List Ream) : Case := { c with reams := rs }
def RGood (c : Case) (r : Ream) : Prop := 0 ≤ r.stock ∧ r.stock < c.stocks.length ∧ 1 ≤ r.lo ∧ r.lo ≤ r.hi ∧ r.hi ≤ 2000 ∧ r.hi ≤ r.lo + 2
theorem range_zero {lo hi a b : Int} (h1 : a ≤ lo ∧ lo ≤ hi ∧ hi ≤ b) : rangeE lo hi a b = 0 := by
  unfold rangeE
  rw [if_neg (by omega), if_neg (by omega)]
theorem ream_zero {c : Case} {j : Nat} (hj : j < c.reams.length) (h : RGood c c.reams[j]) : reamE c j = 0 := by
  unfold reamE
  simp only [show c.reams.getD j reamD = c.reams[j] by simp [hj]]
  obtain ⟨h1, h2, h3, h4, h5, h6⟩ := h
  rw [if_neg (by omega), range_zero ⟨h3, h4, h5⟩]
  simp
  omega
theorem reams_err {c : Case} (he : errE c = 0) {rs : List Ream} (hl : 1 ≤ rs.length ∧ rs.length ≤ 4) (hr : ∀ r ∈ rs, RGood c r) : errE (withReams c rs) = 0 := by
  obtain ⟨h1, h2, h3, h4⟩ := half_of he
  have : checkS (withReams c rs) = (0, 0, 0) := by
    refine checkS_9 ⟨h1.h1, h1.h2, h1.h3, ?_, fun j hj => ?_⟩ h2 h3 h4
    · show 1 ≤ (rs.length : Int) ∧ (rs.length : Int) ≤ 4
      omega
    · exact ream_zero hj (hr _ (List.getElem_mem hj))
  rw [errE, this]

/-- A case whose pile is turned upside down. -/
def turnC (c : Case) : Case := withReams c c.reams.reverse
structure Known (c : Case) : Prop where
  err : errE c = 0
  one : ∀ r ∈ c.reams, r.lo = r.hi
  sum : (c.reams.map Ream.lo).sum = c.run * c.gath
theorem Known.turn {c : Case} (h : Known c) : Known (turnC c) := by
  have hok := err_ok h.err
  refine ⟨reams_err h.err (by rw [List.length_reverse]; exact hok.reams) fun r hr => hok.sheets r (List.mem_reverse.1 hr), fun r hr => h.one r (List.mem_reverse.1 hr), ?_⟩
  show (c.reams.reverse.map Ream.lo).sum = c.run * c.gath
  rw [← h.sum, List.map_reverse, List.sum_reverse]
/-- What the law looks at. -/
structure TurnIn (c d : Case) : Prop where
  oe : (ordersS c).2 = (ordersS d).2
  each : ∀ o ∈ (ordersS c).1, o.reverse ∈ (ordersS d).1
  len : (ordersS c).1.length = (ordersS d).1.length
  short : (ordersS c).1.length ≤ 3125 ∧ ∀ o ∈ (ordersS c).1, o.length ≤ 5
end Go.Proofs.Ytbcfmfiolbcclaa

namespace Go.Proofs.Ytbcfmfiolbcclaa
open Go.Avm

/-- Whether a ream of a stock has a sheet from lo on, below hi. -/
def covR (s : Nat) (lo hi : Int) : List Ream → List Int → Int → Bool
  | r :: rs, y :: ys, a => (decide (r.stock = s) && (decide (a < hi) && decide (lo < a + y))) || covR s lo hi rs ys (a + y)
  | _, _, _ => false
theorem covR_append (s : Nat) (lo hi : Int) : ∀ {A : List Ream} {x : List Int} (B : List Ream) (y : List Int) (a : Int), A.length = x.length → covR s lo hi (A ++ B) (x ++ y) a = (covR s lo hi A x a || covR s lo hi B y (a + x.sum))
  | [], [], B, y, a, _ => by simp [covR]
  | [], _ :: _, _, _, _, h => by simp at h
  | _ :: _, [], _, _, _, h => by simp at h
  | r :: A, z :: x, B, y, a, h => by
    have ih := covR_append s lo hi (A := A) (x := x) B y (a + z) (by simpa using h)
    simp only [List.cons_append, covR, ih, List.sum_cons]
    rw [Bool.or_assoc, Int.add_assoc]
theorem cov_R {c : Case} {p : List Int} (hl : p.length = c.reams.length) (q s : Nat) : ∀ k, k ≤ p.length → covUp c p q s k = covR s ((q : Int) * c.run) (((q : Int) + 1) * c.run) (c.reams.take k) (p.take k) 0
  | 0, _ => by simp [covUp, covR]
  | k + 1, hk => by
    have hk' : k < p.length := by omega
    have hr : k < c.reams.length := by omega
    rw [covUp_succ, cov_R hl q s k (by omega), take_snoc hr, take_snoc hk', covR_append _ _ _ _ _ _ (by rw [List.length_take, List.length_take]; omega)]
    congr 1
    have e1 : (c.reams.map Ream.stock).getD k (-1) = c.reams[k].stock := by simp [hr]
    have e2 : p.getD k 0 = p[k] := by simp [hk']
    simp only [covR, Bool.or_false, cov, covers, e1, e2, Int.zero_add]
theorem cov_whole {c : Case} {p : List Int} (hl : p.length = c.reams.length) (q s : Nat) : covUp c p q s p.length = covR s ((q : Int) * c.run) (((q : Int) + 1) * c.run) c.reams p 0 := by
  have := cov_R hl q s p.length (Nat.le_refl _)
  rw [List.take_length, hl, List.take_length] at this
  rw [hl]; exact this

theorem pileIn_append : ∀ {A : List Ream} {x : List Int} (B : List Ream) (y : List Int), A.length = x.length → (PileIn (A ++ B) (x ++ y) ↔ PileIn A x ∧ PileIn B y)
  | [], [], B, y, _ => by simp [PileIn]
  | [], _ :: _, _, _, h => by simp at h
  | _ :: _, [], _, _, h => by simp at h
  | r :: A, z :: x, B, y, h => by
    have ih := pileIn_append (A := A) (x := x) B y (by simpa using h)
    simp only [List.cons_append, PileIn, ih, and_assoc]
theorem pileIn_split {A B : List Ream} {y : List Int} (h : PileIn (A ++ B) y) : ∃ a b, y = a ++ b ∧ PileIn A a ∧ PileIn B b := by
  have hl := pileIn_len h
  have hl' : A.length = (y.take A.length).length := by rw [List.length_take, hl]; simp
  rw [← List.take_append_drop A.length y] at h
  have := (pileIn_append B (y.drop A.length) hl').1 h
  exact ⟨_, _, (List.take_append_drop A.length y).symm, this.1, this.2⟩
theorem used_append : ∀ (x y : List Int) (a n : Int), used (x ++ y) a n = used x a n + used y (a + x.sum) n
  | [], y, a, n => by simp [used]
  | z :: x, y, a, n => by
    simp only [List.cons_append, used, used_append x y, List.sum_cons]
    rw [Int.add_assoc, Int.add_assoc]

/-- A ream, known, and parted. -/
structure Parts where
  A : List Ream
  B : List Ream
  s : Int
  n : Int
  m : Int
def oneC (c : Case) (x : Parts) : Case := withReams c (x.A ++ (⟨x.s, x.n, x.n⟩ :: x.B))
def twoC (c : Case) (x : Parts) : Case := withReams c (x.A ++ (⟨x.s, x.m, x.m⟩ :: ⟨x.s, x.n - x.m, x.n - x.m⟩ :: x.B))
structure PartIn (c : Case) (x : Parts) : Prop where
  m : 1 ≤ x.m ∧ x.m < x.n
  e1 : errE (oneC c x) = 0
  e2 : errE (twoC c x) = 0

/-- Piles of both. -/
def joinP (x : Parts) (a b : List Int) : List Int := a ++ (x.n :: b)
def partP (x : Parts) (a b : List Int) : List Int := a ++ (x.m :: (x.n - x.m) :: b)
theorem part_sum (x : Parts) (a b : List Int) : (partP x a b).sum = (joinP x a b).sum := by
  unfold joinP partP
  simp only [List.sum_append, List.sum_cons]
  omega
theorem one_piles {c : Case} {x : Parts} (h : PartIn c x) {y : List Int} : y ∈ pilesL (oneC c x) ↔ ∃ a b, y = joinP x a b ∧ PileIn x.A a ∧ PileIn x.B b ∧ c.run * c.gath ≤ (joinP x a b).sum := by
  rw [mem_pilesL (err_ok h.e1)]
  show PileIn (x.A ++ (⟨x.s, x.n, x.n⟩ :: x.B)) y ∧ c.run * c.gath ≤ y.sum ↔ _
  constructor
  · rintro ⟨h1, h2⟩
    obtain ⟨a, b, rfl, ha, hb⟩ := pileIn_split h1
    match b, hb with
    | z :: b, ⟨q1, q2, q3⟩ =>
      have : z = x.n := by simp only at q1 q2; omega
      subst this
      exact ⟨a, b, rfl, ha, q3, h2⟩
  · rintro ⟨a, b, rfl, ha, hb, h2⟩
    exact ⟨(pileIn_append _ _ (pileIn_len ha).symm).2 ⟨ha, Int.le_refl _, Int.le_refl _, hb⟩, h2⟩
theorem two_piles {c : Case} {x : Parts} (h : PartIn c x) {y : List Int} : y ∈ pilesL (twoC c x) ↔ ∃ a b, y = partP x a b ∧ PileIn x.A a ∧ PileIn x.B b ∧ c.run * c.gath ≤ (partP x a b).sum := by
  rw [mem_pilesL (err_ok h.e2)]
  show PileIn (x.A ++ (⟨x.s, x.m, x.m⟩ :: ⟨x.s, x.n - x.m, x.n - x.m⟩ :: x.B)) y ∧ c.run * c.gath ≤ y.sum ↔ _
  constructor
  · rintro ⟨h1, h2⟩
    obtain ⟨a, b, rfl, ha, hb⟩ := pileIn_split h1
    match b, hb with
    | z :: w :: b, ⟨q1, q2, q3, q4, q5⟩ =>
      have e1 : z = x.m := by simp only at q1 q2; omega
      have e2 : w = x.n - x.m := by simp only at q3 q4; omega
      subst e1; subst e2
      exact ⟨a, b, rfl, ha, q5, h2⟩
  · rintro ⟨a, b, rfl, ha, hb, h2⟩
    exact ⟨(pileIn_append _ _ (pileIn_len ha).symm).2 ⟨ha, Int.le_refl _, Int.le_refl _, Int.le_refl _, Int.le_refl _, hb⟩, h2⟩

theorem part_cov {c : Case} {x : Parts} (h : PartIn c x) {a b : List Int} (ha : PileIn x.A a) (hb : PileIn x.B b) (q s : Nat) :
    covUp (twoC c x) (partP x a b) q s (partP x a b).length = covUp (oneC c x) (joinP x a b) q s (joinP x a b).length := by
  have la := pileIn_len ha
  have lb := pileIn_len hb
  have hm := h.m
  have hrun := (err_ok h.e1).run
  have hrun : 1 ≤ c.run := hrun.1
  rw [cov_whole (by show (partP x a b).length = (x.A ++ (⟨x.s, x.m, x.m⟩ :: ⟨x.s, x.n - x.m, x.n - x.m⟩ :: x.B)).length; simp [partP, la, lb]), cov_whole (by show (joinP x a b).length = (x.A ++ (⟨x.s, x.n, x.n⟩ :: x.B)).length; simp [joinP, la, lb])]
  show covR s ((q : Int) * c.run) (((q : Int) + 1) * c.run) (x.A ++ (⟨x.s, x.m, x.m⟩ :: ⟨x.s, x.n - x.m, x.n - x.m⟩ :: x.B)) (a ++ (x.m :: (x.n - x.m) :: b)) 0 =
    covR s ((q : Int) * c.run) (((q : Int) + 1) * c.run) (x.A ++ (⟨x.s, x.n, x.n⟩ :: x.B)) (a ++ (x.n :: b)) 0
  rw [covR_append _ _ _ _ _ _ la.symm, covR_append _ _ _ _ _ _ la.symm]
  congr 1
  have e : (q : Int) * c.run < ((q : Int) + 1) * c.run := by rw [Int.add_mul]; omega
  generalize (q : Int) * c.run = lo at *
  generalize ((q : Int) + 1) * c.run = hi at *
  simp only [covR]
  rw [show 0 + a.sum + x.m + (x.n - x.m) = 0 + a.sum + x.n by omega]
  rw [← Bool.or_assoc]
  congr 1
  rw [Bool.eq_iff_iff]
  simp only [Bool.or_eq_true, Bool.and_eq_true, decide_eq_true_eq]
  constructor
  · rintro (⟨h1, h2, h3⟩ | ⟨h1, h2, h3⟩)
    · exact ⟨h1, h2, by omega⟩
    · exact ⟨h1, by omega, h3⟩
  · rintro ⟨h1, h2, h3⟩
    by_cases h4 : lo < 0 + a.sum + x.m
    · exact .inl ⟨h1, h2, h4⟩
    · exact .inr ⟨h1, by omega, by omega⟩

theorem part_places {c : Case} {x : Parts} (h : PartIn c x) {a b : List Int} (ha : PileIn x.A a) (hb : PileIn x.B b) : placesL (twoC c x) (partP x a b) = placesL (oneC c x) (joinP x a b) := by
  unfold placesL placesUp
  refine List.map_congr_left fun q _ => ?_
  unfold stocksAt
  congr 1
  exact List.filter_congr fun s _ => part_cov h ha hb q s
theorem part_used (x : Parts) (a b : List Int) (n : Int) : used (joinP x a b) 0 n ≤ used (partP x a b) 0 n := by
  unfold joinP partP
  rw [used_append, used_append]
  simp only [used]
  rw [show 0 + a.sum + x.m + (x.n - x.m) = 0 + a.sum + x.n by omega]
  split <;> split <;> omega

/-- A pair of truths, of the ream as it is and parted. -/
structure Pair (c : Case) (x : Parts) (p p' o : List Int) : Prop where
  one : (p, o) ∈ truL (oneC c x) 0
  two : (p', o) ∈ truL (twoC c x) 0
  sum : p'.sum = p.sum
  places : placesL (twoC c x) p' = placesL (oneC c x) p
  used : ∀ n, used p 0 n ≤ used p' 0 n
theorem part_agr {c : Case} {x : Parts} (h : PartIn c x) {a b o : List Int} (ha : PileIn x.A a) (hb : PileIn x.B b) : Agr (twoC c x) (0 : Nat).testBit (partP x a b) o ↔ Agr (oneC c x) (0 : Nat).testBit (joinP x a b) o := by
  rw [agr_mem, agr_mem]
  simp only [part_cov h ha hb]
  rfl
theorem pair_one {c : Case} {x : Parts} (h : PartIn c x) {t : List Int × List Int} (ht : t ∈ truL (oneC c x) 0) : ∃ p', Pair c x t.1 p' t.2 := by
  obtain ⟨h1, h2, h3⟩ := (mem_truA (err_ok h.e1)).1 ht
  obtain ⟨a, b, e, ha, hb, hs⟩ := (one_piles h).1 h1
  refine ⟨partP x a b, ht, (mem_truA (err_ok h.e2)).2 ⟨(two_piles h).2 ⟨a, b, rfl, ha, hb, by rw [part_sum]; exact hs⟩, h2, (part_agr h ha hb).2 (by rw [← e]; exact h3)⟩, by rw [part_sum, e], by rw [part_places h ha hb, e], fun n => by rw [e]; exact part_used x a b n⟩
theorem pair_two {c : Case} {x : Parts} (h : PartIn c x) {t : List Int × List Int} (ht : t ∈ truL (twoC c x) 0) : ∃ p, Pair c x p t.1 t.2 := by
  obtain ⟨h1, h2, h3⟩ := (mem_truA (err_ok h.e2)).1 ht
  obtain ⟨a, b, e, ha, hb, hs⟩ := (two_piles h).1 h1
  refine ⟨joinP x a b, (mem_truA (err_ok h.e1)).2 ⟨(one_piles h).2 ⟨a, b, rfl, ha, hb, by rw [← part_sum]; exact hs⟩, h2, (part_agr h ha hb).1 (by rw [← e]; exact h3)⟩, ht, by rw [e, part_sum], by rw [e, part_places h ha hb], fun n => by rw [e]; exact part_used x a b n⟩

theorem part_stocks {c : Case} {x : Parts} {p p' o : List Int} (h : Pair c x p p' o) (g : Int) : stocksOf (twoC c x) g (p', o) = stocksOf (oneC c x) g (p, o) := by
  unfold stocksOf
  rw [h.places]
theorem selT_mem_eq {q r : Nat → Bool} {n : Nat} (h : ∀ s : Int, s ∈ selT q n ↔ s ∈ selT r n) : selT q n = selT r n := by
  refine selT_congr fun j hj => ?_
  have := h j
  rw [mem_selT, mem_selT] at this
  rw [Bool.eq_iff_iff]
  constructor
  · intro hq; exact (this.1 ⟨hj, hq⟩).2
  · intro hr; exact (this.2 ⟨hj, hr⟩).2
theorem part_years {c : Case} {x : Parts} (h : PartIn c x) {p p' o : List Int} (hp : Pair c x p p' o) : yearsOf (twoC c x) (p', o) = yearsOf (oneC c x) (p, o) := by
  have h1 := err_ok h.e1
  have h2 := err_ok h.e2
  unfold yearsOf yearLo yearHi
  rw [← lat_eq h1 (truL_pile h1 hp.one), ← lat_eq h1 (truL_pile h1 hp.one), ← lat_eq h2 (truL_pile h2 hp.two), ← lat_eq h2 (truL_pile h2 hp.two)]
  rw [hp.places]
  rfl

/-- What the law looks at. -/
structure PartedIn (a b : Case) (g : Int) : Prop where
  ords : ordersS a = ordersS b
  stocks : stocksS a g = stocksS b g
  year : yearS a = yearS b
  left : (leftS b).a = (leftS a).a ∧ (leftS b).b = (leftS a).b ∧ (leftS b).e = (leftS a).e
  reams : (leftS a).x ≤ (leftS b).x ∧ (leftS a).y ≤ (leftS b).y
theorem parted_in {c : Case} {x : Parts} (h : PartIn c x) {g : Int} (hg : 0 ≤ g ∧ g < c.gath) : PartedIn (oneC c x) (twoC c x) g := by
  have h1 := err_ok h.e1
  have h2 := err_ok h.e2
  by_cases hn : truL (oneC c x) 0 = []
  · have hn' : truL (twoC c x) 0 = [] := by
      rw [List.eq_nil_iff_forall_not_mem] at hn ⊢
      intro t ht
      obtain ⟨p, hp⟩ := pair_two h ht
      exact hn _ hp.one
    refine ⟨?_, ?_, ?_, ?_, ?_⟩
    · rw [orders_no h.e1 hn, orders_no h.e2 hn']
    · rw [stocks_no h.e1 hn hg, stocks_no h.e2 hn' hg]
    · rw [year_no h.e1 hn, year_no h.e2 hn']
    · rw [left_no h.e1 hn, left_no h.e2 hn']; simp
    · rw [left_no h.e1 hn, left_no h.e2 hn']; simp
  · have hn' : truL (twoC c x) 0 ≠ [] := by
      obtain ⟨t, ht⟩ := List.exists_mem_of_ne_nil _ hn
      obtain ⟨p', hp⟩ := pair_one h ht
      exact List.ne_nil_of_mem hp.two
    obtain ⟨l1, l2, l3⟩ := left_say h.e1 hn
    obtain ⟨m1, m2, m3⟩ := left_say h.e2 hn'
    obtain ⟨y1, y2⟩ := year_say h.e1 hn
    obtain ⟨z1, z2⟩ := year_say h.e2 hn'
    refine ⟨?_, ?_, ?_, ?_, ?_, ?_⟩
    · rw [orders_say h.e1 hn, orders_say h.e2 hn']
      have : waysP (oneC c x) = waysP (twoC c x) := by
        unfold waysP
        have e : ordersL (twoC c x) = ordersL (oneC c x) := rfl
        rw [e]
        refine List.filter_congr fun o ho => ?_
        have k1 : okO (oneC c x) o = true ↔ o ∈ waysP (oneC c x) := by unfold waysP; rw [List.mem_filter]; exact ⟨fun hh => ⟨ho, hh⟩, fun hh => hh.2⟩
        have k2 : okO (twoC c x) o = true ↔ o ∈ waysP (twoC c x) := by unfold waysP; rw [List.mem_filter]; exact ⟨fun hh => ⟨ho, hh⟩, fun hh => hh.2⟩
        rw [Bool.eq_iff_iff, k1, k2, mem_waysP, mem_waysP]
        constructor
        · rintro ⟨p, hp⟩; obtain ⟨p', hp'⟩ := pair_one h hp; exact ⟨p', hp'.two⟩
        · rintro ⟨p, hp⟩; obtain ⟨p', hp'⟩ := pair_two h hp; exact ⟨p', hp'.one⟩
      rw [this]
    · rw [stocks_say h.e1 hn hg, stocks_say h.e2 hn' hg]
      have k1 : sureR (oneC c x) (truR (oneC c x)) g = sureR (twoC c x) (truR (twoC c x)) g := selT_mem_eq fun s => by
        show s ∈ sureR (oneC c x) (truR (oneC c x)) g ↔ s ∈ sureR (twoC c x) (truR (twoC c x)) g
        rw [mem_sure h1 hn, mem_sure h2 hn']
        constructor
        · rintro hh ⟨p', o⟩ ht
          obtain ⟨p, hp⟩ := pair_two h ht
          rw [part_stocks hp]; exact hh _ hp.one
        · rintro hh ⟨p, o⟩ ht
          obtain ⟨p', hp⟩ := pair_one h ht
          rw [← part_stocks hp]; exact hh _ hp.two
      have k2 : mayR (oneC c x) (truR (oneC c x)) g = mayR (twoC c x) (truR (twoC c x)) g := selT_mem_eq fun s => by
        show s ∈ mayR (oneC c x) (truR (oneC c x)) g ↔ s ∈ mayR (twoC c x) (truR (twoC c x)) g
        rw [mem_may h1, mem_may h2]
        constructor
        · rintro ⟨⟨p, o⟩, ht, hs⟩
          obtain ⟨p', hp⟩ := pair_one h ht
          exact ⟨_, hp.two, by rw [part_stocks hp]; exact hs⟩
        · rintro ⟨⟨p', o⟩, ht, hs⟩
          obtain ⟨p, hp⟩ := pair_two h ht
          exact ⟨_, hp.one, by rw [← part_stocks hp]; exact hs⟩
      rw [k1, k2]
    · have e1 := y2.uniq z2 fun n => by
        simp only [List.mem_flatMap]
        constructor
        · rintro ⟨m, ⟨⟨p, o⟩, ht, hm⟩, e⟩
          obtain ⟨p', hp⟩ := pair_one h ht
          exact ⟨m, ⟨_, hp.two, by rw [part_years h hp]; exact hm⟩, e⟩
        · rintro ⟨m, ⟨⟨p', o⟩, ht, hm⟩, e⟩
          obtain ⟨p, hp⟩ := pair_two h ht
          exact ⟨m, ⟨_, hp.one, by rw [← part_years h hp]; exact hm⟩, e⟩
      generalize yearS (oneC c x) = L at *
      generalize yearS (twoC c x) = M at *
      obtain ⟨a, b, e⟩ := L
      obtain ⟨a', b', e'⟩ := M
      simp only at e1 y1 z1
      rw [e1.1, e1.2, y1, z1]
    · have e1 := l2.uniq m2 fun n => by
        constructor
        · rintro ⟨⟨p, o⟩, ht, rfl⟩
          obtain ⟨p', hp⟩ := pair_one h ht
          exact ⟨_, hp.two, by have := hp.sum; show p.sum - c.run * c.gath = p'.sum - c.run * c.gath; simp only at this; rw [this]⟩
        · rintro ⟨⟨p', o⟩, ht, rfl⟩
          obtain ⟨p, hp⟩ := pair_two h ht
          exact ⟨_, hp.one, by have := hp.sum; show p'.sum - c.run * c.gath = p.sum - c.run * c.gath; simp only at this; rw [this]⟩
      exact ⟨e1.1.symm, e1.2.symm, by rw [l1, m1]⟩
    · obtain ⟨⟨p', o⟩, ht, e⟩ := m3.inLo
      obtain ⟨p, hp⟩ := pair_two h ht
      have a1 := (l3.all _ ⟨_, hp.one, rfl⟩).1
      have a2 := hp.used (c.run * c.gath)
      rw [e]
      exact Int.le_trans a1 a2
    · obtain ⟨⟨p, o⟩, ht, e⟩ := l3.inHi
      obtain ⟨p', hp⟩ := pair_one h ht
      have a1 := (m3.all _ ⟨_, hp.two, rfl⟩).2
      have a2 := hp.used (c.run * c.gath)
      rw [e]
      exact Int.le_trans a2 a1

/-- The case as the law parts it. -/
theorem part_case {c : Case} (he : errE c = 0) (h4 : c.reams.length ≠ 4) {i : Nat} (hi : i < c.reams.length) {m : Int} (hm : 1 ≤ m ∧ m < c.reams[i].lo) :
    PartIn c ⟨c.reams.take i, c.reams.drop (i + 1), c.reams[i].stock, c.reams[i].lo, m⟩ := by
  have hok := err_ok he
  have hl := hok.reams
  have hr := hok.ream hi
  have key : ∀ r, r ∈ c.reams.take i ∨ r ∈ c.reams.drop (i + 1) → RGood c r := fun r hr => by
    rcases hr with hr | hr
    · exact hok.sheets r (List.mem_of_mem_take hr)
    · exact hok.sheets r (List.mem_of_mem_drop hr)
  refine ⟨hm, reams_err he (by simp; omega) fun r hr' => ?_, reams_err he (by simp; omega) fun r hr' => ?_⟩
  · simp only [List.mem_append, List.mem_cons] at hr'
    rcases hr' with h1 | rfl | h1
    · exact key r (.inl h1)
    · exact ⟨hr.1, hr.2.1, hr.2.2.1, Int.le_refl _, by show c.reams[i].lo ≤ 2000; omega, by show c.reams[i].lo ≤ c.reams[i].lo + 2; omega⟩
    · exact key r (.inr h1)
  · simp only [List.mem_append, List.mem_cons] at hr'
    rcases hr' with h1 | rfl | rfl | h1
    · exact key r (.inl h1)
    · exact ⟨hr.1, hr.2.1, hm.1, Int.le_refl _, by show m ≤ 2000; omega, by show m ≤ m + 2; omega⟩
    · exact ⟨hr.1, hr.2.1, by show 1 ≤ c.reams[i].lo - m; omega, Int.le_refl _, by show c.reams[i].lo - m ≤ 2000; omega, by show c.reams[i].lo - m ≤ c.reams[i].lo - m + 2; omega⟩
    · exact key r (.inr h1)
end Go.Proofs.Ytbcfmfiolbcclaa

