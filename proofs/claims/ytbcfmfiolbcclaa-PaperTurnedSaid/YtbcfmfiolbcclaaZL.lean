/- Contracts of the laws' helpers: valid cases, turns, lists in lists. Contracts of the laws' helpers: any truth, what is told of it. Contracts of the laws' helpers: the latest year of a truth, a case without some of what is seen. Plain: what the program says, of each truth that agrees. Plain: what Wrong says; a case without some of what is seen. Plain: with one more thing seen. Plain: what Ask says. Plain: gatherings numbered the other way round. Plain: a pile of known reams, turned upside down. -/
import Derived.Test.YtbcfmfiolbcclaaZI
namespace Go.Proofs.Ytbcfmfiolbcclaa
open Go.Avm

theorem valid36_ok (c : Case) : PCall Try.prog 36 [encCase c] (B (decide (errE c = 0))) := by
  refine pcall Try.func36 tr36 rs36 fn36 (by simp [Try.ntmps36]) fun _ => ?_
  have hc := checkR_ok c
  obtain ⟨E, hE⟩ : ∃ E, E = errE c := ⟨_, rfl⟩
  have hc : PCall Try.prog 16 [encCase c] (.tuple [I (checkS c).1, I (checkS c).2.1, I E]) := by rw [hE]; exact hc
  rw [← hE]
  simp -implicitDefEqProofs [m36]
  refine vCall_of hc ?_
  simp -implicitDefEqProofs [r36]
  by_cases h : E = 0 <;> simp [h]

/-- Is a list among others? -/
theorem one39_ok (l : List (List Int)) (o : List Int) : PCall Try.prog 39 [ILL l, IL o] (B (decide (o ∈ l))) := by
  refine pcall Try.func39 tr39 rs39 fn39 (by simp [Try.ntmps39]) fun hfit => ?_
  have hl : l.length ≤ 140737488355328 := by simpa using fits_len (hfit 0)
  simp -implicitDefEqProofs [m39]
  refine loop_up l.length (fun k s => s.env 0 = ILL l ∧ s.env 1 = IL o ∧ s.env 5 = I k ∧ o ∉ l.take k) ?_ ?_
  · simp
  rintro k s hk ⟨e0, e1, e5, hno⟩
  simp -implicitDefEqProofs [e0, e5]
  refine cond_dec (fun hlt => ?_) (fun hge => ?_)
  · have hlt : k < l.length := by omega
    have hi := ints_ok l[k] o
    have htk := take_snoc hlt
    simp -implicitDefEqProofs [e0, e1, e5, hlt]
    refine vCall_of hi ?_
    by_cases he : l[k] = o
    · have hm : o ∈ l := by rw [← he]; exact List.getElem_mem hlt
      simp -implicitDefEqProofs [he, r39, hm]
    · simp -implicitDefEqProofs [he, e5]
      refine ⟨i64 (by omega) (by omega), round_ok hlt ?_⟩
      simp [e0, e1]
      rw [htk, List.mem_append, List.mem_singleton]
      exact fun h => h.elim hno fun h => he h.symm
  · obtain rfl : k = l.length := by omega
    rw [List.take_length] at hno
    simp -implicitDefEqProofs [r39, hno]

/-! ## Cases that differ in what is seen alone -/
theorem half_of {c : Case} (h : errE c = 0) : Half c ∧ (1 ≤ c.gath ∧ c.gath ≤ 5) ∧ ¬ (8 : Int) < c.seen.length ∧ ∀ j < c.seen.length, seenE c j = 0 := by
  have h : (checkS c).2.2 = 0 := h
  by_cases h1 : 1 ≤ c.run ∧ c.run ≤ 500
  case neg => rw [checkS_1 h1] at h; cases h
  by_cases h2 : 1 ≤ (c.stocks.length : Int) ∧ (c.stocks.length : Int) ≤ 4
  case neg => rw [checkS_2 h1 h2] at h; cases h
  unfold checkS at h
  rw [if_neg (not_not_intro h1), if_neg (not_not_intro h2)] at h
  cases h3 : errs (stockE c) c.stocks.length with
  | some p => rw [h3] at h; exact absurd h (errs_nz (i := p.1) (e := p.2) h3)
  | none =>
  rw [h3] at h
  have h3 := errs_zero h3
  simp only at h
  by_cases h4 : 1 ≤ (c.reams.length : Int) ∧ (c.reams.length : Int) ≤ 4
  case neg => rw [if_pos h4] at h; cases h
  rw [if_neg (not_not_intro h4)] at h
  cases h5 : errs (reamE c) c.reams.length with
  | some p => rw [h5] at h; exact absurd h (errs_nz (i := p.1) (e := p.2) h5)
  | none =>
  rw [h5] at h
  have h5 := errs_zero h5
  simp only at h
  by_cases h6 : 1 ≤ c.gath ∧ c.gath ≤ 5
  case neg => rw [if_pos h6] at h; cases h
  rw [if_neg (not_not_intro h6)] at h
  by_cases h7 : (8 : Int) < c.seen.length
  case pos => rw [if_pos h7] at h; cases h
  rw [if_neg h7] at h
  cases h8 : errs (seenE c) c.seen.length with
  | some p => rw [h8] at h; exact absurd h (errs_nz (i := p.1) (e := p.2) h8)
  | none => exact ⟨⟨h1, h2, h3, h4, h5⟩, h6, h7, errs_zero h8⟩

end Go.Proofs.Ytbcfmfiolbcclaa

namespace Go.Proofs.Ytbcfmfiolbcclaa
open Go.Avm

def vStoreNil (P : Program) (ms : List MOp) (K : St → Prop) (s : St) (oid sz off b : Nat) : Option (List AV) → Prop
  | some cs => off < cs.length ∧ vcs P ms K ((s.dem oid).new b ((cs.map (demote oid)).set off (.slice sz [] oid)))
  | none => False
def vStoreN (P : Program) (ms : List MOp) (K : St → Prop) (s : St) (oid sz : Nat) : AV → Prop
  | .mref b off => vStoreNil P ms K s oid sz off b (s.loc b)
  | _ => False
theorem v_storeNil (P : Program) (ms : List MOp) (K : St → Prop) (s : St) (x : MArg) (sz oid : Nat) : vcs P (.storeNil x sz oid :: ms) K s = vStoreN P ms K s oid sz (x.ev s.env) := by
  unfold vStoreN vStoreNil; rfl
attribute [simp] v_storeNil vStoreN vStoreNil

/-- A truth that a law is told of. -/
structure TruIn (c : Case) (t : List Int × List Int) : Prop where
  pile : t.1 ∈ pilesL c
  order : t.2 ∈ ordersL c
theorem TruIn.len {c : Case} {t : List Int × List Int} (ht : TruIn c t) : t.2.length = c.gath.toNat := (allO_each _ _ _ ht.order).1

end Go.Proofs.Ytbcfmfiolbcclaa

namespace Go.Proofs.Ytbcfmfiolbcclaa
open Go.Avm

end Go.Proofs.Ytbcfmfiolbcclaa

namespace Go.Proofs.Ytbcfmfiolbcclaa
open Go.Avm

theorem mem_truA {c : Case} (h : c.OK) {but : Nat} {x : List Int × List Int} : x ∈ truL c but ↔ x.1 ∈ pilesL c ∧ x.2 ∈ ordersL c ∧ Agr c but.testBit x.1 x.2 := by
  rw [mem_truL, mem_pilesP h]
  constructor
  · rintro ⟨h1, h2, h3⟩
    exact ⟨h1, h2, (fits_iff h (pilesL_ok h h1) fun y hy => ((allO_each _ _ _ h2).2.2 y hy).1).1 h3⟩
  · rintro ⟨h1, h2, h3⟩
    exact ⟨h1, h2, (fits_iff h (pilesL_ok h h1) fun y hy => ((allO_each _ _ _ h2).2.2 y hy).1).2 h3⟩

theorem orders_say {c : Case} (he : errE c = 0) (hn : truL c 0 ≠ []) : ordersS c = (waysP c, 0) := by
  unfold ordersS
  rw [if_neg (by simpa using he), if_neg fun e => hn (ways_nil.1 e)]
theorem orders_no {c : Case} (he : errE c = 0) (hn : truL c 0 = []) : ordersS c = ([], 8) := by
  unfold ordersS
  rw [if_neg (by simpa using he), if_pos (ways_nil.2 hn)]
/-! ## The years -/
/-! ## What is told of a truth -/
end Go.Proofs.Ytbcfmfiolbcclaa

namespace Go.Proofs.Ytbcfmfiolbcclaa
open Go.Avm

theorem loc_dem_nil (s : St) (r : Nat) : ((s.dem r).loc = fun _ => none) ↔ s.loc = fun _ => none := by
  constructor
  · intro h
    funext b
    have := congrFun h b
    rw [loc_dem, Option.map_eq_none_iff] at this
    exact this
  · intro h
    funext b
    rw [loc_dem, h]; rfl
attribute [simp] loc_dem_nil

/-! ## Without some of what is seen -/
theorem agr_mem {c : Case} {p o : List Int} : Agr c (0 : Nat).testBit p o ↔ ∀ x ∈ c.seen, ∀ q (hq : q < o.length), o[q] = x.1 → covUp c p q x.2.toNat p.length = true := by
  unfold Agr
  constructor
  · intro hh x hx q hq e
    obtain ⟨i, hi, rfl⟩ := List.getElem_of_mem hx
    exact hh i hi (by simp) q hq e
  · intro hh i hi _ q hq e
    exact hh _ (List.getElem_mem hi) q hq e
end Go.Proofs.Ytbcfmfiolbcclaa

namespace Go.Proofs.Ytbcfmfiolbcclaa
open Go.Avm

theorem Span.sub {P Q : Int → Prop} {a b x y : Int} (h1 : Span P a b) (h2 : Span Q x y) (h : ∀ n, P n → Q n) : x ≤ a ∧ b ≤ y :=
  ⟨(h2.all a (h a h1.inLo)).1, (h2.all b (h b h1.inHi)).2⟩
/-- What the law looks at, with one more thing seen and some truth that agrees. -/
structure MoreIn (c d : Case) : Prop where
  sub : ∀ o ∈ waysP d, o ∈ waysP c
  st : ∀ g, 0 ≤ g ∧ g < c.gath → (∀ s ∈ sureR c (truR c) g, s ∈ sureR d (truR d) g) ∧ (∀ s ∈ mayR d (truR d) g, s ∈ mayR c (truR c) g)
  la : (leftS c).a ≤ (leftS d).a ∧ (leftS d).b ≤ (leftS c).b
  lx : (leftS c).x ≤ (leftS d).x ∧ (leftS d).y ≤ (leftS c).y
  ye : (yearS c).a ≤ (yearS d).a ∧ (yearS d).b ≤ (yearS c).b
end Go.Proofs.Ytbcfmfiolbcclaa

namespace Go.Proofs.Ytbcfmfiolbcclaa
open Go.Avm

end Go.Proofs.Ytbcfmfiolbcclaa

namespace Go.Proofs.Ytbcfmfiolbcclaa
open Go.Avm

theorem all_nodup : ∀ g < 6, (allO g g).Nodup := by decide +kernel
theorem ordersL_nodup {c : Case} (h : c.OK) : (ordersL c).Nodup := by
  have hg := h.gath
  exact all_nodup c.gath.toNat (by omega)
theorem waysP_nodup {c : Case} (h : c.OK) : (waysP c).Nodup := (ordersL_nodup h).filter _

/-- Orders that a turn takes to each other are as many. -/
theorem ways_len_le {c d : Case} (hc : c.OK) {f : List Int → List Int} (h1 : ∀ o ∈ waysP c, f o ∈ waysP d) (inv : ∀ o ∈ waysP c, f (f o) = o) : (waysP c).length ≤ (waysP d).length := by
  have hn : ((waysP c).map f).Nodup := by
    refine List.pairwise_map.2 ?_
    have := waysP_nodup hc
    exact List.Pairwise.imp_of_mem (fun ha hb hne he => hne (by rw [← inv _ ha, he, inv _ hb])) this
  have := List.Nodup.length_le_of_subset hn (l₂ := waysP d) fun o ho => by
    obtain ⟨o', ho', rfl⟩ := List.mem_map.1 ho
    exact h1 _ ho'
  rwa [List.length_map] at this

def flipO (g : Int) (o : List Int) : List Int := o.map fun x => g - 1 - x
/-- What the law looks at. -/
structure FlipIn (c d : Case) : Prop where
  oe : (ordersS c).2 = (ordersS d).2
  each : ∀ o ∈ (ordersS c).1, flipO c.gath o ∈ (ordersS d).1
  len : (ordersS c).1.length = (ordersS d).1.length
  left : leftS c = leftS d
  year : yearS c = yearS d
end Go.Proofs.Ytbcfmfiolbcclaa

namespace Go.Proofs.Ytbcfmfiolbcclaa
open Go.Avm

/-- A case of other reams. -/
def withReams (c : Case) (rs : List Ream) : Case := { c with reams := rs }
def RGood (c : Case) (r : Ream) : Prop := 0 ≤ r.stock ∧ r.stock < c.stocks.length ∧ 1 ≤ r.lo ∧ r.lo ≤ r.hi ∧ r.hi ≤ 2000 ∧ r.hi ≤ r.lo + 2
theorem range_zero {lo hi a b : Int} (h1 : a ≤ lo ∧ lo ≤ hi ∧ hi ≤ b) : rangeE lo hi a b = 0 := by
  unfold rangeE
  rw [if_neg (by omega), if_neg (by omega)]
theorem ream_zero {c : Case} {j : Nat} (hj : j < c.reams.length) (h : RGood c c.reams[j]) : reamE c j = 0 := by
  unfold reamE
  simp only [show c.reams.getD j reamD = c.reams[j] by simp [hj]]
  obtain ⟨h1, h2, h3, h4, h5, h6⟩ := h
  rw [if_neg (by omega), range_zero ⟨h3, h4, h5⟩]
  simp
  omega
theorem reams_err {c : Case} (he : errE c = 0) {rs : List Ream} (hl : 1 ≤ rs.length ∧ rs.length ≤ 4) (hr : ∀ r ∈ rs, RGood c r) : errE (withReams c rs) = 0 := by
  obtain ⟨h1, h2, h3, h4⟩ := half_of he
  have : checkS (withReams c rs) = (0, 0, 0) := by
    refine checkS_9 ⟨h1.h1, h1.h2, h1.h3, ?_, fun j hj => ?_⟩ h2 h3 h4
    · show 1 ≤ (rs.length : Int) ∧ (rs.length : Int) ≤ 4
      omega
    · exact ream_zero hj (hr _ (List.getElem_mem hj))
  rw [errE, this]

theorem pileIn_known : ∀ {rs : List Ream} {y : List Int}, (∀ r ∈ rs, r.lo = r.hi) → (PileIn rs y ↔ y = rs.map Ream.lo)
  | [], [], _ => by simp [PileIn]
  | [], _ :: _, _ => by simp [PileIn]
  | _ :: _, [], _ => by simp [PileIn]
  | r :: rs, x :: xs, h => by
    have h1 := h r (by simp)
    have ih := pileIn_known (rs := rs) (y := xs) fun r' hr' => h r' (by simp [hr'])
    simp only [PileIn, ih, List.map_cons, List.cons.injEq]
    constructor
    · rintro ⟨h2, h3, h4⟩; exact ⟨by omega, h4⟩
    · rintro ⟨h2, h4⟩; exact ⟨by omega, by omega, h4⟩

theorem getD_at {α : Type} {l : List α} {i : Nat} (h : i < l.length) (d : α) : l.getD i d = l[i] := by simp [h]
theorem take_sum (l : List Int) (i : Nat) : (l.take i).sum + (l.drop i).sum = l.sum := by rw [← List.sum_append, List.take_append_drop]

/-- A ream of a pile that is turned upside down covers the place that is turned, too. -/
theorem turn_covers {c d : Case} {p : List Int} {G : Nat} (hG : c.gath = G) (hd : d.run = c.run) (hs : p.sum = c.run * c.gath) {q : Nat} (hq : q < G) {i : Nat} (hi : i < p.length) :
    covers d p.reverse (G - 1 - q) (p.length - 1 - i) = covers c p q i := by
  have e1 : (p.reverse.take (p.length - 1 - i)).sum = p.sum - (p.take (i + 1)).sum := by
    rw [List.take_reverse, List.sum_reverse, show p.length - (p.length - 1 - i) = i + 1 by omega]
    have := take_sum p (i + 1)
    omega
  have e2 : p.reverse.getD (p.length - 1 - i) 0 = p[i] := by
    have h1 : p.length - 1 - i < p.reverse.length := by simp; omega
    rw [getD_at h1, List.getElem_reverse]
    congr 1
    omega
  have e3 : p.getD i 0 = p[i] := by simp [hi]
  have e4 : (p.take (i + 1)).sum = (p.take i).sum + p[i] := by rw [take_snoc hi, List.sum_append]; simp
  have e5 : ((G - 1 - q : Nat) : Int) = G - 1 - q := by omega
  unfold covers
  rw [e1, e2, e3, e4, e5, hd, hs, hG]
  have e6 : ((G : Int) - 1 - q + 1) * c.run = c.run * G - q * c.run := by grind
  have e7 : ((G : Int) - 1 - q) * c.run = c.run * G - (q + 1) * c.run := by grind
  rw [e6, e7, Bool.eq_iff_iff]
  simp only [Bool.and_eq_true, decide_eq_true_eq]
  omega

theorem reams_stock (rs : List Ream) {i : Nat} (hi : i < rs.length) : (rs.reverse.map Ream.stock).getD (rs.length - 1 - i) (-1) = (rs.map Ream.stock).getD i (-1) := by
  have h1 : rs.length - 1 - i < (rs.reverse.map Ream.stock).length := by simp; omega
  have h2 : i < (rs.map Ream.stock).length := by simpa using hi
  rw [getD_at h1, getD_at h2, List.getElem_map, List.getElem_map, List.getElem_reverse]
  congr 2
  omega

/-- A case whose pile is turned upside down. -/
def turnC (c : Case) : Case := withReams c c.reams.reverse
theorem turn_turn (c : Case) : turnC (turnC c) = c := by
  show withReams (withReams c c.reams.reverse) c.reams.reverse.reverse = c
  rw [List.reverse_reverse]
  rfl
structure Known (c : Case) : Prop where
  err : errE c = 0
  one : ∀ r ∈ c.reams, r.lo = r.hi
  sum : (c.reams.map Ream.lo).sum = c.run * c.gath
theorem Known.turn {c : Case} (h : Known c) : Known (turnC c) := by
  have hok := err_ok h.err
  refine ⟨reams_err h.err (by rw [List.length_reverse]; exact hok.reams) fun r hr => hok.sheets r (List.mem_reverse.1 hr), fun r hr => h.one r (List.mem_reverse.1 hr), ?_⟩
  show (c.reams.reverse.map Ream.lo).sum = c.run * c.gath
  rw [← h.sum, List.map_reverse, List.sum_reverse]
theorem known_piles {c : Case} (h : Known c) {y : List Int} : y ∈ pilesL c ↔ y = c.reams.map Ream.lo := by
  rw [mem_pilesL (err_ok h.err), pileIn_known h.one]
  constructor
  · exact fun hh => hh.1
  · rintro rfl; exact ⟨rfl, by rw [h.sum]; exact Int.le_refl _⟩

theorem turn_cov {c : Case} (h : Known c) {q : Nat} (hq : q < c.gath.toNat) {i : Nat} (hi : i < c.reams.length) (s : Nat) :
    cov (turnC c) (c.reams.map Ream.lo).reverse (c.gath.toNat - 1 - q) s (c.reams.length - 1 - i) = cov c (c.reams.map Ream.lo) q s i := by
  have hg := (err_ok h.err).gath
  unfold cov
  have e1 : (turnC c).reams = c.reams.reverse := rfl
  have e2 := turn_covers (c := c) (d := turnC c) (p := c.reams.map Ream.lo) (G := c.gath.toNat) (by omega) rfl h.sum hq (i := i) (by simpa using hi)
  rw [List.length_map] at e2
  rw [e1, reams_stock _ hi, e2]
theorem turn_up {c : Case} (h : Known c) {q : Nat} (hq : q < c.gath.toNat) {s : Nat} (hs : covUp c (c.reams.map Ream.lo) q s (c.reams.map Ream.lo).length = true) :
    covUp (turnC c) (c.reams.map Ream.lo).reverse (c.gath.toNat - 1 - q) s (c.reams.map Ream.lo).reverse.length = true := by
  unfold covUp at hs ⊢
  rw [List.any_eq_true] at hs ⊢
  obtain ⟨i, hi, hc⟩ := hs
  have hi : i < c.reams.length := by simpa using hi
  refine ⟨c.reams.length - 1 - i, by simp; omega, ?_⟩
  rw [turn_cov h hq hi s]
  exact hc
theorem rev_orders {c : Case} {o : List Int} (ho : o ∈ ordersL c) : o.reverse ∈ ordersL c := by
  obtain ⟨h1, h2, h3⟩ := allO_each _ _ _ ho
  refine mem_allO _ _ _ (by simp [h1]) ?_ fun x hx => h3 x (List.mem_reverse.1 hx)
  exact List.pairwise_reverse.2 (h2.imp fun h e => h e.symm)
theorem turn_tru {c : Case} (h : Known c) {p o : List Int} (hx : (p, o) ∈ truL c 0) : (p.reverse, o.reverse) ∈ truL (turnC c) 0 := by
  have hok := err_ok h.err
  obtain ⟨h1, h2, h3⟩ := (mem_truA hok).1 hx
  have hp : p = c.reams.map Ream.lo := (known_piles h).1 h1
  have hl : o.length = c.gath.toNat := (allO_each _ _ _ h2).1
  refine (mem_truA (err_ok h.turn.err)).2 ⟨(known_piles h.turn).2 ?_, rev_orders h2, ?_⟩
  · show p.reverse = c.reams.reverse.map Ream.lo
    rw [hp, List.map_reverse]
  · rw [agr_mem] at h3 ⊢
    intro x hx q hq e
    have hq' : q < o.length := by simpa using hq
    have e1 : o[o.length - 1 - q] = x.1 := by
      rw [← e]
      show _ = o.reverse[q]
      rw [List.getElem_reverse]
    have h4 := h3 x hx (o.length - 1 - q) (by show o.length - 1 - q < o.length; omega) e1
    simp only at h4
    rw [hp] at h4
    have h5 := turn_up h (by omega) h4
    rw [show c.gath.toNat - 1 - (o.length - 1 - q) = q by omega] at h5
    show covUp (turnC c) p.reverse q x.2.toNat p.reverse.length = true
    rw [hp]
    exact h5
theorem turn_iff {c : Case} (h : Known c) {p o : List Int} : (p, o) ∈ truL (turnC c) 0 → (p.reverse, o.reverse) ∈ truL c 0 := by
  intro hx
  have := turn_tru h.turn hx
  rwa [turn_turn] at this

/-- What the law looks at. -/
structure TurnIn (c d : Case) : Prop where
  oe : (ordersS c).2 = (ordersS d).2
  each : ∀ o ∈ (ordersS c).1, o.reverse ∈ (ordersS d).1
  len : (ordersS c).1.length = (ordersS d).1.length
  short : (ordersS c).1.length ≤ 3125 ∧ ∀ o ∈ (ordersS c).1, o.length ≤ 5
theorem turn_in {c : Case} (h : Known c) : TurnIn c (turnC c) := by
  have he := h.err
  have hd := h.turn.err
  have hok := err_ok he
  have hdo := err_ok hd
  by_cases hn : truL c 0 = []
  · have hn' : truL (turnC c) 0 = [] := by
      rw [List.eq_nil_iff_forall_not_mem] at hn ⊢
      rintro ⟨p, o⟩ hx
      exact hn _ (turn_iff h hx)
    have e1 := orders_no he hn
    have e2 := orders_no hd hn'
    exact ⟨by rw [e1, e2], by rw [e1]; simp, by rw [e1, e2], by rw [e1]; simp⟩
  · have hn' : truL (turnC c) 0 ≠ [] := by
      obtain ⟨⟨p, o⟩, hx⟩ := List.exists_mem_of_ne_nil _ hn
      exact List.ne_nil_of_mem (turn_tru h hx)
    have k1 : ∀ o ∈ waysP c, o.reverse ∈ waysP (turnC c) := fun o ho => by
      obtain ⟨p, hp⟩ := mem_waysP.1 ho
      exact mem_waysP.2 ⟨_, turn_tru h hp⟩
    have k2 : ∀ o ∈ waysP (turnC c), o.reverse ∈ waysP c := fun o ho => by
      obtain ⟨p, hp⟩ := mem_waysP.1 ho
      exact mem_waysP.2 ⟨_, turn_iff h hp⟩
    have k3 := Nat.le_antisymm (ways_len_le hok k1 fun o _ => List.reverse_reverse o) (ways_len_le hdo k2 fun o _ => List.reverse_reverse o)
    have e1 := orders_say he hn
    have e2 := orders_say hd hn'
    have k4 : ∀ o ∈ waysP c, o.length ≤ 5 := fun o ho => by
      have := (allO_each _ _ _ (List.mem_filter.1 ho).1).1
      have := hok.gath
      omega
    exact ⟨by rw [e1, e2], by rw [e1, e2]; exact k1, by rw [e1, e2]; exact k3, by rw [e1]; exact waysP_len hok, by rw [e1]; exact k4⟩
end Go.Proofs.Ytbcfmfiolbcclaa

