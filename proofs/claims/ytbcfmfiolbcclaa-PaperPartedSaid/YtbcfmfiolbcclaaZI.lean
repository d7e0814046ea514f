/- Plain: what the program computes is what the reference does: truths, orders, Before. Plain: what the program computes is what the reference does: Stocks, Left, Year. Plain: what the program computes is what the reference does: Wrong, Ask. The resolved code of some functions, written by program, each held against the function by the kernel. The example of the document, and what is awake. What a law's arguments of layer 6 say: cases, and lists of numbers. -/
import Derived.Test.YtbcfmfiolbcclaaZH
import Derived.Test.YtbcfmfiolbcclaaZE
import Derived.KernelRfl
import Derived.Test.YtbcfmfiolbcclaaZC
import Derived.Test.YtbcfmfiolbcclaaZF
import Derived.Test.YtbcfmfiolbcclaaProg
namespace Go.Proofs.Ytbcfmfiolbcclaa
open Go.Avm

theorem placesL_at {c : Case} (p : List Int) {q : Nat} (hq : q < c.gath.toNat) : (placesL c p).getD q [] = stocksAt c p q c.stocks.length := by
  simp [placesL, placesUp, hq]
theorem mem_stocksAt {c : Case} {p : List Int} {q k : Nat} {s : Int} : s ∈ stocksAt c p q k ↔ 0 ≤ s ∧ s < k ∧ covUp c p q s.toNat p.length = true := by
  unfold stocksAt
  rw [List.mem_map]
  constructor
  · rintro ⟨j, hj, rfl⟩
    rw [List.mem_filter, List.mem_range] at hj
    exact ⟨by omega, by omega, by simpa using hj.2⟩
  · rintro ⟨h1, h2, h3⟩
    refine ⟨s.toNat, ?_, by omega⟩
    rw [List.mem_filter, List.mem_range]
    exact ⟨by omega, h3⟩

theorem agrB_iff {c : Case} (h : c.OK) {but : List Int} {p o : List Int} (ho : o.length = c.gath.toNat) :
    agrB c but (placesL c p) o = true ↔ Agr c (fun i => decide ((i : Int) ∈ but)) p o := by
  unfold agrB agrUp agrAt agrAtUp Agr
  simp only [List.all_eq_true, List.mem_range, Bool.or_eq_true, decide_eq_true_eq, Bool.not_eq_true', decide_eq_false_iff_not]
  constructor
  · intro hh i hi hb q hq he
    have e0 : c.seen.getD i (-1, 0) = c.seen[i] := by simp [hi]
    have e1 : o.getD q 0 = o[q] := by simp [hq]
    rcases hh i hi with h1 | h1
    · exact absurd h1 hb
    · rcases h1 q hq with h2 | h2
      · rw [e0, e1] at h2; exact absurd he h2
      · rw [e0, placesL_at p (by omega), mem_stocksAt] at h2
        exact h2.2.2
  · intro hh i hi
    have e0 : c.seen.getD i (-1, 0) = c.seen[i] := by simp [hi]
    by_cases hb : (i : Int) ∈ but
    · exact .inl hb
    · refine .inr fun q hq => ?_
      have e1 : o.getD q 0 = o[q] := by simp [hq]
      rw [e0, e1, placesL_at p (by omega), mem_stocksAt]
      by_cases he : o[q] = c.seen[i].1
      · have hs := h.seen _ (List.getElem_mem hi)
        exact .inr ⟨hs.2.2.1, hs.2.2.2, hh i hi hb q hq he⟩
      · exact .inl he

theorem agr_congr {c : Case} {b1 b2 : Nat → Bool} {p o : List Int} (h : ∀ i, i < c.seen.length → b1 i = b2 i) : Agr c b1 p o ↔ Agr c b2 p o := by
  unfold Agr
  constructor
  · intro hh i hi hb; exact hh i hi (by rw [h i hi]; exact hb)
  · intro hh i hi hb; exact hh i hi (by rw [← h i hi]; exact hb)

/-- What the program asks is what the reference does. -/
theorem agr_fits {c : Case} (h : c.OK) {but : Nat} {bl : List Int} (hb : ∀ i, i < c.seen.length → decide ((i : Int) ∈ bl) = but.testBit i) {p o : List Int} (hp : PileOK c p) (ho : o ∈ ordersL c) :
    agrB c bl (placesL c p) o = fitsB c but p o := by
  have hoe := allO_each _ _ _ ho
  rw [Bool.eq_iff_iff, agrB_iff h hoe.1, fits_iff h hp fun x hx => (hoe.2.2 x hx).1]
  exact agr_congr hb

theorem mem_tru {c : Case} (h : c.OK) {x : List Int × List Int} : x ∈ truR c ↔ x ∈ truL c 0 := by
  rw [mem_truR, mem_truL, mem_pilesP h]
  constructor
  · rintro ⟨h1, h2, h3⟩
    exact ⟨h1, h2, by rw [← agr_fits h (but := 0) (bl := []) (fun i _ => by simp) (pilesL_ok h h1) h2]; exact h3⟩
  · rintro ⟨h1, h2, h3⟩
    exact ⟨h1, h2, by rw [agr_fits h (but := 0) (bl := []) (fun i _ => by simp) (pilesL_ok h h1) h2]; exact h3⟩
theorem mem_waysP {c : Case} {o : List Int} : o ∈ waysP c ↔ ∃ p, (p, o) ∈ truL c 0 := by
  unfold waysP okO
  rw [List.mem_filter, List.any_eq_true]
  constructor
  · rintro ⟨ho, p, hp, hf⟩; exact ⟨p, mem_truL.2 ⟨hp, ho, hf⟩⟩
  · rintro ⟨p, hx⟩
    have := mem_truL.1 hx
    exact ⟨this.2.1, p, this.1, this.2.2⟩
theorem ways_nil {c : Case} : waysP c = [] ↔ truL c 0 = [] := by
  rw [List.eq_nil_iff_forall_not_mem, List.eq_nil_iff_forall_not_mem]
  constructor
  · rintro hh ⟨p, o⟩ hx; exact hh o (mem_waysP.2 ⟨p, hx⟩)
  · intro hh o ho
    obtain ⟨p, hx⟩ := mem_waysP.1 ho
    exact hh _ hx

end Go.Proofs.Ytbcfmfiolbcclaa

namespace Go.Proofs.Ytbcfmfiolbcclaa
open Go.Avm

theorem fold_or_bit {α : Type} (f : α → Nat) (s : Nat) : ∀ (l : List α) (a : Nat), (l.foldl (fun a x => a ||| f x) a).testBit s = (a.testBit s || l.any fun x => (f x).testBit s)
  | [], a => by simp
  | x :: l, a => by
    rw [List.foldl_cons, fold_or_bit f s l, Nat.testBit_or, List.any_cons, Bool.or_assoc]
theorem fold_and_bit {α : Type} (f : α → Nat) (s : Nat) : ∀ (l : List α) (a : Nat), (l.foldl (fun a x => a &&& f x) a).testBit s = (a.testBit s && l.all fun x => (f x).testBit s)
  | [], a => by simp
  | x :: l, a => by
    rw [List.foldl_cons, fold_and_bit f s l, Nat.testBit_and, List.all_cons, Bool.and_assoc]

/-- Whether a gathering has a stock in a truth, as bits and as a list. -/
theorem own_bit {c : Case} (h : c.OK) {x : List Int × List Int} (hp : PileOK c x.1) (ho : x.2 ∈ ordersL c) {g : Int} (hg : 0 ≤ g ∧ g < c.gath) (s : Nat) :
    (ownM c g x).testBit s = (hasAt c g s x && decide (s < c.stocks.length)) ∧ (hasAt c g s x = true → s < c.stocks.length) := by
  obtain ⟨q, hq1, hq2, -⟩ := at_mem (order_mem h ho hg)
  have hoe := (allO_each _ _ _ ho).1
  have e : hasAt c g s x = true ↔ s < c.stocks.length ∧ covUp c x.1 q s x.1.length = true := by
    unfold hasAt
    rw [hq2, Int.toNat_natCast, placesL_at _ (by omega), decide_eq_true_eq, mem_stocksAt, Int.toNat_natCast]
    constructor
    · rintro ⟨h1, h2, h3⟩; exact ⟨by omega, h3⟩
    · rintro ⟨h1, h2⟩; exact ⟨by omega, by omega, h2⟩
  refine ⟨?_, fun hh => (e.1 hh).1⟩
  rw [Bool.eq_iff_iff, Bool.and_eq_true, e, decide_eq_true_eq]
  unfold ownM maskQ
  rw [hq2, Int.toNat_natCast, if_pos (by omega), maskP_bit h hp]
  constructor
  · intro hb
    by_cases hs : s < c.stocks.length
    · exact ⟨⟨hs, hb⟩, hs⟩
    · have := maskP_bit h hp q s
      rw [hb] at this
      have h0 : (maskP c x.1 q).testBit s = false := Nat.testBit_lt_two_pow (Nat.lt_of_lt_of_le (maskUp_lt h x.1 q _ (by rw [hp.len]; exact Nat.le_refl _)) (Nat.pow_le_pow_right (by omega) (by omega)))
      rw [h0] at this; cases this
  · exact fun hh => hh.1.2

theorem may_eq {c : Case} (h : c.OK) {g : Int} (hg : 0 ≤ g ∧ g < c.gath) : bitsL (mayM c g (truL c 0)) = mayR c (truR c) g := by
  have hs4 := h.stocks
  have key : ∀ s, (mayM c g (truL c 0)).testBit s = true ↔ ∃ x ∈ truL c 0, hasAt c g s x = true := by
    intro s
    unfold mayM
    rw [fold_or_bit (ownM c g)]
    simp only [Nat.zero_testBit, Bool.false_or, List.any_eq_true]
    constructor
    · rintro ⟨x, hx, hb⟩
      rw [(own_bit h (truL_pile h hx) (mem_truL.1 hx).2.1 hg s).1, Bool.and_eq_true] at hb
      exact ⟨x, hx, hb.1⟩
    · rintro ⟨x, hx, hb⟩
      refine ⟨x, hx, ?_⟩
      have := own_bit h (truL_pile h hx) (mem_truL.1 hx).2.1 hg s
      rw [this.1, hb, decide_eq_true (this.2 hb)]; rfl
  have hlt : ∀ s, (mayM c g (truL c 0)).testBit s = true → s < c.stocks.length := by
    intro s hs
    obtain ⟨x, hx, hb⟩ := (key s).1 hs
    exact (own_bit h (truL_pile h hx) (mem_truL.1 hx).2.1 hg s).2 hb
  have e1 : bitsL (mayM c g (truL c 0)) = selT (fun i => (mayM c g (truL c 0)).testBit i) c.stocks.length := by
    unfold bitsL
    have := selT_more (q := fun i => (mayM c g (truL c 0)).testBit i) (n := c.stocks.length) (fun j hj => by
      cases hb : (mayM c g (truL c 0)).testBit j with
      | false => rfl
      | true => have := hlt j hb; omega) (8 - c.stocks.length)
    rw [show c.stocks.length + (8 - c.stocks.length) = 8 by omega] at this
    exact this
  rw [e1]
  unfold mayR
  apply selT_congr
  intro s _
  rw [Bool.eq_iff_iff, key]
  unfold mayQ manyN
  rw [decide_eq_true_eq, List.length_filter_pos_iff]
  constructor
  · rintro ⟨x, hx, hb⟩; exact ⟨x, (mem_tru h).2 hx, hb⟩
  · rintro ⟨x, hx, hb⟩; exact ⟨x, (mem_tru h).1 hx, hb⟩

theorem sure_eq {c : Case} (h : c.OK) {g : Int} (hg : 0 ≤ g ∧ g < c.gath) (hn : truL c 0 ≠ []) : bitsL (sureM c g (truL c 0)) = sureR c (truR c) g := by
  have hs4 := h.stocks
  obtain ⟨x0, hx0⟩ := List.exists_mem_of_ne_nil _ hn
  have key : ∀ s, (sureM c g (truL c 0)).testBit s = true ↔ ∀ x ∈ truL c 0, hasAt c g s x = true := by
    intro s
    unfold sureM
    rw [fold_and_bit (ownM c g)]
    simp only [Bool.and_eq_true, List.all_eq_true]
    constructor
    · rintro ⟨-, hh⟩ x hx
      have hb := hh x hx
      rw [(own_bit h (truL_pile h hx) (mem_truL.1 hx).2.1 hg s).1, Bool.and_eq_true] at hb
      exact hb.1
    · intro hh
      have hs : s < c.stocks.length := (own_bit h (truL_pile h hx0) (mem_truL.1 hx0).2.1 hg s).2 (hh x0 hx0)
      refine ⟨?_, fun x hx => ?_⟩
      · have : ∀ s : Nat, s < 4 → (15 : Nat).testBit s = true := by decide
        exact this s (by omega)
      · have := own_bit h (truL_pile h hx) (mem_truL.1 hx).2.1 hg s
        rw [this.1, hh x hx, decide_eq_true (this.2 (hh x hx))]; rfl
  have hlt : ∀ s, (sureM c g (truL c 0)).testBit s = true → s < c.stocks.length := fun s hs =>
    (own_bit h (truL_pile h hx0) (mem_truL.1 hx0).2.1 hg s).2 ((key s).1 hs x0 hx0)
  have e1 : bitsL (sureM c g (truL c 0)) = selT (fun i => (sureM c g (truL c 0)).testBit i) c.stocks.length := by
    unfold bitsL
    have := selT_more (q := fun i => (sureM c g (truL c 0)).testBit i) (n := c.stocks.length) (fun j hj => by
      cases hb : (sureM c g (truL c 0)).testBit j with
      | false => rfl
      | true => have := hlt j hb; omega) (8 - c.stocks.length)
    rw [show c.stocks.length + (8 - c.stocks.length) = 8 by omega] at this
    exact this
  rw [e1]
  unfold sureR
  apply selT_congr
  intro s _
  rw [Bool.eq_iff_iff, key]
  unfold sureQ manyN
  rw [decide_eq_true_eq, List.length_filter_eq_length_iff]
  constructor
  · intro hh x hx; exact hh x ((mem_tru h).1 hx)
  · intro hh x hx; exact hh x ((mem_tru h).2 hx)

/-! ## Left and Year: the least and the greatest -/
/-- lo and hi are the least and the greatest of some numbers. -/
structure Span (P : Int → Prop) (lo hi : Int) : Prop where
  inLo : P lo
  inHi : P hi
  all : ∀ n, P n → lo ≤ n ∧ n ≤ hi
theorem Span.uniq {P Q : Int → Prop} {a b x y : Int} (h1 : Span P a b) (h2 : Span Q x y) (h : ∀ n, P n ↔ Q n) : a = x ∧ b = y := by
  have := h1.all x ((h x).2 h2.inLo)
  have := h1.all y ((h y).2 h2.inHi)
  have := h2.all a ((h a).1 h1.inLo)
  have := h2.all b ((h b).1 h1.inHi)
  omega

theorem span_congr {P Q : Int → Prop} {a b : Int} (h : ∀ n, P n ↔ Q n) (hs : Span P a b) : Span Q a b := ⟨(h a).1 hs.inLo, (h b).1 hs.inHi, fun n hn => hs.all n ((h n).2 hn)⟩

def EOK (P : Int → Prop) (e : Ends) : Prop := (e.met = 0 ∧ ∀ m, ¬ P m) ∨ (e.met ≠ 0 ∧ Span P e.lo e.hi)
def WOK (P : Int → Prop) (s : Int × Int) : Prop := (s.2 < s.1 ∧ ∀ m, ¬ P m) ∨ (¬ s.2 < s.1 ∧ Span P s.1 s.2)
theorem EOK.congr {P Q : Int → Prop} {e : Ends} (hc : ∀ n, P n ↔ Q n) (h : EOK P e) : EOK Q e := by
  rcases h with ⟨h1, h2⟩ | ⟨h1, h2⟩
  · exact .inl ⟨h1, fun m hm => h2 m ((hc m).2 hm)⟩
  · exact .inr ⟨h1, span_congr hc h2⟩
theorem WOK.congr {P Q : Int → Prop} {e : Int × Int} (hc : ∀ n, P n ↔ Q n) (h : WOK P e) : WOK Q e := by
  rcases h with ⟨h1, h2⟩ | ⟨h1, h2⟩
  · exact .inl ⟨h1, fun m hm => h2 m ((hc m).2 hm)⟩
  · exact .inr ⟨h1, span_congr hc h2⟩
theorem span_snoc {P : Int → Prop} {a b : Int} (n : Int) (h : Span P a b) : Span (fun m => P m ∨ m = n) (min a n) (max b n) := by
  refine ⟨?_, ?_, fun m hm => ?_⟩
  · by_cases hh : a ≤ n
    · rw [Int.min_eq_left hh]; exact .inl h.inLo
    · rw [Int.min_eq_right (by omega)]; exact .inr rfl
  · by_cases hh : n ≤ b
    · rw [Int.max_eq_left hh]; exact .inl h.inHi
    · rw [Int.max_eq_right (by omega)]; exact .inr rfl
  · rcases hm with hm | rfl
    · have := h.all m hm; omega
    · omega
theorem span_one {P : Int → Prop} (n : Int) (h : ∀ m, ¬ P m) : Span (fun m => P m ∨ m = n) n n := ⟨.inr rfl, .inr rfl, fun m hm => by
  rcases hm with hm | rfl
  · exact absurd hm (h m)
  · omega⟩
theorem EOK.add {P : Int → Prop} {e : Ends} (n : Int) (h : EOK P e) : EOK (fun m => P m ∨ m = n) (e.add n) := by
  refine .inr ⟨by rw [add_met]; omega, ?_⟩
  unfold Ends.add
  rcases h with ⟨h1, h2⟩ | ⟨h1, h2⟩
  · rw [if_pos h1]; exact span_one n h2
  · rw [if_neg h1]; exact span_snoc n h2
theorem WOK.add {P : Int → Prop} {s : Int × Int} (n : Int) (h : WOK P s) : WOK (fun m => P m ∨ m = n) (withS s n) := by
  unfold withS
  rcases h with ⟨h1, h2⟩ | ⟨h1, h2⟩
  · rw [if_pos h1]; exact .inr ⟨by simp, span_one n h2⟩
  · rw [if_neg h1]; exact .inr ⟨by show ¬ max s.2 n < min s.1 n; omega, span_snoc n h2⟩

theorem cons_iff {α : Type} {P : Int → Prop} {f : α → Int} {x : α} {l : List α} (m : Int) : ((P m ∨ m = f x) ∨ ∃ y ∈ l, m = f y) ↔ (P m ∨ ∃ y ∈ x :: l, m = f y) := by
  constructor
  · rintro ((hp | he) | ⟨y, hy, he⟩)
    · exact .inl hp
    · exact .inr ⟨x, by simp, he⟩
    · exact .inr ⟨y, by simp [hy], he⟩
  · rintro (hp | ⟨y, hy, he⟩)
    · exact .inl (.inl hp)
    · rcases List.mem_cons.1 hy with rfl | hy
      · exact .inl (.inr he)
      · exact .inr ⟨y, hy, he⟩
theorem ends_fold {α : Type} (f : α → Int) : ∀ (l : List α) (e : Ends) (P : Int → Prop), EOK P e → EOK (fun m => P m ∨ ∃ x ∈ l, m = f x) (l.foldl (fun e x => e.add (f x)) e)
  | [], e, P, h => h.congr fun n => by simp
  | x :: l, e, P, h => (ends_fold f l (e.add (f x)) _ (h.add (f x))).congr cons_iff
theorem ends_span {α : Type} (f : α → Int) {l : List α} (h : l ≠ []) : Span (fun m => ∃ x ∈ l, m = f x) (endsL f l).lo (endsL f l).hi := by
  have h1 := ends_fold f l ⟨0, 0, 0⟩ (fun _ => False) (.inl ⟨rfl, fun _ h => h⟩)
  obtain ⟨x, hx⟩ := List.exists_mem_of_ne_nil _ h
  rcases h1 with ⟨-, h2⟩ | ⟨-, h2⟩
  · exact absurd (.inr ⟨x, hx, rfl⟩) (h2 (f x))
  · exact span_congr (fun n => by simp) h2
theorem max_fold (g : Int → Int) : ∀ (l : List Int) (a : Int), (l.foldl (fun a i => max a (g i)) a = a ∨ ∃ i ∈ l, l.foldl (fun a i => max a (g i)) a = g i) ∧ a ≤ l.foldl (fun a i => max a (g i)) a ∧ ∀ i ∈ l, g i ≤ l.foldl (fun a i => max a (g i)) a
  | [], a => by simp
  | x :: l, a => by
    obtain ⟨h1, h2, h3⟩ := max_fold g l (max a (g x))
    simp only [List.foldl_cons]
    refine ⟨?_, by omega, fun i hi => ?_⟩
    · rcases h1 with h1 | ⟨i, hi, h1⟩
      · by_cases hh : g x ≤ a
        · exact .inl (by rw [h1, Int.max_eq_left hh])
        · exact .inr ⟨x, by simp, by rw [h1, Int.max_eq_right (by omega)]⟩
      · exact .inr ⟨i, by simp [hi], h1⟩
    · rcases List.mem_cons.1 hi with rfl | hi
      · omega
      · exact h3 i hi
theorem max_fold_eq (g : Int → Int) {l1 l2 : List Int} (a : Int) (h : ∀ i, i ∈ l1 ↔ i ∈ l2) : l1.foldl (fun a i => max a (g i)) a = l2.foldl (fun a i => max a (g i)) a := by
  obtain ⟨h1, h2, h3⟩ := max_fold g l1 a
  obtain ⟨k1, k2, k3⟩ := max_fold g l2 a
  have q1 : l1.foldl (fun a i => max a (g i)) a ≤ l2.foldl (fun a i => max a (g i)) a := by
    rcases h1 with h1 | ⟨i, hi, h1⟩
    · omega
    · have := k3 i ((h i).1 hi); omega
  have q2 : l2.foldl (fun a i => max a (g i)) a ≤ l1.foldl (fun a i => max a (g i)) a := by
    rcases k1 with k1 | ⟨i, hi, k1⟩
    · omega
    · have := h3 i ((h i).2 hi); omega
  omega

theorem latF_flat (f : Stock → Int) (c : Case) : ∀ (pl : List (List Int)) (a : Int), pl.foldl (fun a l => latG f c l a) a = pl.flatten.foldl (fun a i => max a ((c.stocks.map f).getD i.toNat 0)) a
  | [], a => rfl
  | l :: pl, a => by
    rw [List.foldl_cons, latF_flat f c pl, List.flatten_cons, List.foldl_append]
    rfl

theorem setUp_bit (c : Case) (p : List Int) (s : Nat) : ∀ k, (setUp c p k).testBit s = true ↔ ∃ q, q < k ∧ (maskQ c p q).testBit s = true
  | 0 => by simp [setUp]
  | k + 1 => by
    rw [setUp, Nat.testBit_or, Bool.or_eq_true, setUp_bit c p s k]
    constructor
    · rintro (⟨q, h1, h2⟩ | h)
      · exact ⟨q, by omega, h2⟩
      · exact ⟨k, by omega, h⟩
    · rintro ⟨q, h1, h2⟩
      by_cases e : q = k
      · subst e; exact .inr h2
      · exact .inl ⟨q, by omega, h2⟩

theorem mem_placesL {c : Case} {p : List Int} {l : List Int} : l ∈ placesL c p ↔ ∃ q, q < c.gath.toNat ∧ l = stocksAt c p q c.stocks.length := by
  unfold placesL placesUp
  simp only [List.mem_map, List.mem_range]
  constructor
  · rintro ⟨q, h1, h2⟩; exact ⟨q, h1, h2.symm⟩
  · rintro ⟨q, h1, h2⟩; exact ⟨q, h1, h2.symm⟩

theorem maskQ_bit {c : Case} (h : c.OK) {p : List Int} (hp : PileOK c p) (q s : Nat) : (maskQ c p q).testBit s = true ↔ q < c.gath.toNat ∧ s < c.stocks.length ∧ covUp c p q s p.length = true := by
  constructor
  · intro hb
    have hs : s < c.stocks.length := by
      by_cases hs : s < c.stocks.length
      · exact hs
      · have h0 : (maskQ c p q).testBit s = false := Nat.testBit_lt_two_pow (Nat.lt_of_lt_of_le (maskQ_lt h hp q) (Nat.pow_le_pow_right (by omega) (by omega)))
        rw [h0] at hb; cases hb
    unfold maskQ at hb
    split at hb
    · rename_i hq
      rw [maskP_bit h hp] at hb
      exact ⟨hq, hs, hb⟩
    · simp at hb
  · rintro ⟨h1, -, h3⟩
    unfold maskQ
    rw [if_pos h1, maskP_bit h hp]
    exact h3

theorem year_set {c : Case} (h : c.OK) {p : List Int} (hp : PileOK c p) (i : Int) : i ∈ (placesL c p).flatten ↔ i ∈ bitsL (setM c p) := by
  have hg := h.gath
  have hs := h.stocks
  rw [List.mem_flatten]
  constructor
  · rintro ⟨l, hl, hi⟩
    obtain ⟨q, hq, rfl⟩ := mem_placesL.1 hl
    obtain ⟨h1, h2, h3⟩ := mem_stocksAt.1 hi
    have e : i = (i.toNat : Int) := by omega
    rw [e]
    refine mem_selT.2 ⟨by omega, (setUp_bit c p _ 5).2 ⟨q, by omega, (maskQ_bit h hp q _).2 ⟨hq, by omega, h3⟩⟩⟩
  · intro hi
    obtain ⟨s, rfl, h1, h2⟩ := selT_mem hi
    obtain ⟨q, hq, hb⟩ := (setUp_bit c p s 5).1 h2
    obtain ⟨h3, h4, h5⟩ := (maskQ_bit h hp q s).1 hb
    exact ⟨_, mem_placesL.2 ⟨q, h3, rfl⟩, mem_stocksAt.2 ⟨by omega, by omega, by rw [Int.toNat_natCast]; exact h5⟩⟩

theorem lat_eq {c : Case} (h : c.OK) {p : List Int} (hp : PileOK c p) (f : Stock → Int) : latF f c (placesL c p) = latL f c (bitsL (setM c p)) := by
  unfold latF latL
  rw [latF_flat]
  exact max_fold_eq _ 0 (year_set h hp)

def yearsOf (c : Case) (x : List Int × List Int) : List Int := [yearLo c x.1, yearHi c x.1]
theorem yearE_flat (c : Case) (l : List (List Int × List Int)) : yearE c l = endsL (fun n => n) (l.flatMap (yearsOf c)) := by
  have : ∀ (l : List (List Int × List Int)) (e : Ends), l.foldl (fun e x => (e.add (yearLo c x.1)).add (yearHi c x.1)) e = (l.flatMap (yearsOf c)).foldl (fun e n => e.add n) e := by
    intro l
    induction l with
    | nil => intro e; rfl
    | cons x l ih => intro e; rw [List.foldl_cons, ih, List.flatMap_cons, List.foldl_append]; rfl
  exact this l _
theorem yearE_span {c : Case} {l : List (List Int × List Int)} (hn : l ≠ []) : Span (fun m => ∃ n ∈ l.flatMap (yearsOf c), m = n) (yearE c l).lo (yearE c l).hi := by
  rw [yearE_flat]
  refine ends_span (fun n => n) ?_
  obtain ⟨x, hx⟩ := List.exists_mem_of_ne_nil _ hn
  exact List.ne_nil_of_mem (List.mem_flatMap.2 ⟨x, hx, show yearLo c x.1 ∈ yearsOf c x by simp [yearsOf]⟩)

end Go.Proofs.Ytbcfmfiolbcclaa

namespace Go.Proofs.Ytbcfmfiolbcclaa
open Go.Avm

end Go.Proofs.Ytbcfmfiolbcclaa

namespace Go.Proofs.Ytbcfmfiolbcclaa
open Go.Avm

/- duodecimo/duodecimolaw06.Awake -/
def ann22 : Ann := { muts := [], nilsz := [], oid := [], frz := [1, 9, 10, 12], zero := [(1, [(.lit (.int .i64 0)), (.slice 3 [] 2001), (.slice 3 [] 2002), (.lit (.int .i64 0)), (.slice 2 [] 2004)]), (9, [(.lit (.int .i64 0)), (.lit (.int .i64 0))]), (10, [(.lit (.int .i64 0)), (.lit (.int .i64 0))]), (12, [(.lit (.int .i64 0)), (.lit (.int .i64 0))]), (52, [(.lit (.int .i64 0)), (.lit (.int .i64 0))]), (66, [(.lit (.int .i64 0)), (.lit (.int .i64 0))]), (103, [(.lit (.int .i64 0))]), (104, [(.lit (.int .i64 0))]), (105, [(.lit (.int .i64 0))]), (106, [(.slice 1 [] 0)]), (115, [(.lit (.int .i64 0))]), (120, [(.lit (.int .i64 0))]), (140, [(.lit (.int .i64 0))])], ord := [(10, [0, 1, 2, 3, 4, 5, 6, 7, 8, 9, 10, 11, 12, 13, 14, 15, 16, 17, 18, 19, 20, 21, 22, 23, 24, 25, 26, 27, 28, 29, 30, 31, 32, 33, 34, 35, 36, 37, 38, 39, 40, 41, 42, 43, 44, 45, 46, 47, 48, 49, 50, 51, 52, 53, 54, 55, 56, 57, 58, 59, 60, 61, 62, 63, 64, 65, 66, 67, 68, 69, 70, 71, 72, 73, 74, 75, 76, 77, 78, 79, 80])], ap := [], own := [0], yl := [], fz := [], imm := [], ic := [], cl := [], ylL := [], rl := [] }
def m22 : MCode := (.seq (.reg [.asg 0 (.c (.lit (.bool false)))])
 (.seq (.reg [.call 21 34 [(.c (.slice 2 [] 0))], .alloc 1 [(.lit (.int .i64 0)), (.slice 3 [] 2001), (.slice 3 [] 2002), (.lit (.int .i64 0)), (.slice 2 [] 2004)], .storeF 1 (.t 21) 5])
 (.seq (.reg [.load 23 (.t 1) (some 5), .call 24 17 [(.t 23)], .cpy 22 (.t 24), .ext 25 (.t 22) 0, .ext 26 (.t 22) 1, .asg 2 (.t 25), .asg 3 (.t 26)])
 (.seq (.reg [.load 28 (.t 1) (some 5), .call 29 20 [(.t 28), (.c (.lit (.int .i64 0))), (.c (.lit (.int .i64 1)))], .cpy 27 (.t 29), .ext 30 (.t 27) 0, .ext 31 (.t 27) 1, .asg 4 (.t 30), .asg 5 (.t 31)])
 (.seq (.reg [.load 33 (.t 1) (some 5), .call 34 23 [(.t 33), (.c (.lit (.int .i64 1)))], .cpy 32 (.t 34), .ext 35 (.t 32) 0, .ext 36 (.t 32) 1, .ext 37 (.t 32) 2, .asg 6 (.t 35), .asg 7 (.t 36), .asg 8 (.t 37)])
 (.seq (.reg [.load 39 (.t 1) (some 5), .call 40 26 [(.t 39)], .cpy 38 (.t 40), .ext 41 (.t 38) 0, .ext 42 (.t 38) 1, .ext 43 (.t 38) 2, .alloc 9 [(.lit (.int .i64 0)), (.lit (.int .i64 0))], .alloc 10 [(.lit (.int .i64 0)), (.lit (.int .i64 0))], .storeF 9 (.t 41) 2, .storeF 10 (.t 42) 2, .asg 11 (.t 43)])
 (.seq (.reg [.load 45 (.t 1) (some 5), .call 46 28 [(.t 45)], .cpy 44 (.t 46), .ext 47 (.t 44) 0, .ext 48 (.t 44) 1, .alloc 12 [(.lit (.int .i64 0)), (.lit (.int .i64 0))], .storeF 12 (.t 47) 2, .asg 13 (.t 48)])
 (.seq (.reg [.call 50 35 [(.c (.lit (.int .i64 0))), (.c (.lit (.int .i64 0)))], .call 51 35 [(.c (.lit (.int .i64 0))), (.c (.lit (.int .i64 2)))], .mkS 52 2 2 [(.lit (.int .i64 0)), (.lit (.int .i64 0))] [(0, (.t 50)), (1, (.t 51))], .call 53 34 [(.t 52)], .call 54 30 [(.t 53)], .cpy 49 (.t 54), .ext 55 (.t 49) 0, .ext 56 (.t 49) 1, .asg 14 (.t 55), .asg 15 (.t 56)])
 (.seq (.reg [.load 58 (.t 1) (some 5), .call 59 32 [(.t 58)], .cpy 57 (.t 59), .ext 60 (.t 57) 0, .ext 61 (.t 57) 1, .ext 62 (.t 57) 2, .asg 16 (.t 60), .asg 17 (.t 61), .asg 18 (.t 62)])
 (.seq (.reg [.call 64 35 [(.c (.lit (.int .i64 0))), (.c (.lit (.int .i64 0)))], .call 65 35 [(.c (.lit (.int .i64 0))), (.c (.lit (.int .i64 2)))], .mkS 66 2 2 [(.lit (.int .i64 0)), (.lit (.int .i64 0))] [(0, (.t 64)), (1, (.t 65))], .call 67 34 [(.t 66)], .call 68 17 [(.t 67)], .cpy 63 (.t 68), .ext 69 (.t 63) 0, .ext 70 (.t 63) 1, .asg 19 (.t 69), .asg 20 (.t 70)])
 (.seq (.reg [.cpy 71 (.t 3), .bin 72 .eql (.t 71) (.c (.lit (.int .i64 0))), .cpy 73 (.t 72), .guard 73 true (some 74) (.cpy 74 (.t 5)), .guard 73 true (some 75) (.bin 75 .eql (.t 74) (.c (.lit (.int .i64 0)))), .pick 76 (.t 73) (.t 75) (.c (.lit (.bool false))), .cpy 77 (.t 76), .guard 77 true (some 78) (.cpy 78 (.t 8)), .guard 77 true (some 79) (.bin 79 .eql (.t 78) (.c (.lit (.int .i64 0)))), .pick 80 (.t 77) (.t 79) (.c (.lit (.bool false))), .cpy 81 (.t 80), .guard 81 true (some 82) (.cpy 82 (.t 11)), .guard 81 true (some 83) (.bin 83 .eql (.t 82) (.c (.lit (.int .i64 0)))), .pick 84 (.t 81) (.t 83) (.c (.lit (.bool false))), .cpy 85 (.t 84), .guard 85 true (some 86) (.cpy 86 (.t 13)), .guard 85 true (some 87) (.bin 87 .eql (.t 86) (.c (.lit (.int .i64 0)))), .pick 88 (.t 85) (.t 87) (.c (.lit (.bool false))), .cpy 89 (.t 88), .guard 89 true (some 90) (.cpy 90 (.t 15)), .guard 89 true (some 91) (.bin 91 .eql (.t 90) (.c (.lit (.int .i64 0)))), .pick 92 (.t 89) (.t 91) (.c (.lit (.bool false))), .cpy 93 (.t 92), .guard 93 true (some 94) (.cpy 94 (.t 18)), .guard 93 true (some 95) (.bin 95 .eql (.t 94) (.c (.lit (.int .i64 0)))), .pick 96 (.t 93) (.t 95) (.c (.lit (.bool false))), .cpy 97 (.t 96), .guard 97 true (some 98) (.cpy 98 (.t 20)), .guard 97 true (some 99) (.bin 99 .eql (.t 98) (.c (.lit (.int .i64 8)))), .pick 100 (.t 97) (.t 99) (.c (.lit (.bool false))), .cpy 101 (.t 100), .guard 101 true (some 102) (.cpy 102 (.t 2)), .guard 101 true (some 103) (.mkS 103 3 1 [(.lit (.int .i64 0))] [(0, (.c (.lit (.int .i64 1)))), (1, (.c (.lit (.int .i64 0)))), (2, (.c (.lit (.int .i64 2))))]), .guard 101 true (some 104) (.mkS 104 3 1 [(.lit (.int .i64 0))] [(0, (.c (.lit (.int .i64 1)))), (1, (.c (.lit (.int .i64 2)))), (2, (.c (.lit (.int .i64 0))))]), .guard 101 true (some 105) (.mkS 105 3 1 [(.lit (.int .i64 0))] [(0, (.c (.lit (.int .i64 2)))), (1, (.c (.lit (.int .i64 1)))), (2, (.c (.lit (.int .i64 0))))]), .guard 101 true (some 106) (.mkS 106 3 1 [(.slice 1 [] 0)] [(0, (.t 103)), (1, (.t 104)), (2, (.t 105))]), .guard 101 true (some 107) (.call 107 19 [(.t 102), (.t 106)]), .pick 108 (.t 101) (.t 107) (.c (.lit (.bool false))), .cpy 109 (.t 108), .guard 109 true (some 110) (.cpy 110 (.t 4)), .guard 109 true (some 111) (.bin 111 .eql (.t 110) (.c (.lit (.int .i64 2)))), .pick 112 (.t 109) (.t 111) (.c (.lit (.bool false))), .cpy 113 (.t 112), .guard 113 true (some 114) (.cpy 114 (.t 6)), .guard 113 true (some 115) (.mkS 115 1 1 [(.lit (.int .i64 0))] [(0, (.c (.lit (.int .i64 0))))]), .guard 113 true (some 116) (.call 116 25 [(.t 114), (.t 115)]), .pick 117 (.t 113) (.t 116) (.c (.lit (.bool false))), .cpy 118 (.t 117), .guard 118 true (some 119) (.cpy 119 (.t 7)), .guard 118 true (some 120) (.mkS 120 2 1 [(.lit (.int .i64 0))] [(0, (.c (.lit (.int .i64 0)))), (1, (.c (.lit (.int .i64 1))))]), .guard 118 true (some 121) (.call 121 25 [(.t 119), (.t 120)]), .pick 122 (.t 118) (.t 121) (.c (.lit (.bool false))), .cpy 123 (.t 122), .guard 123 true (some 124) (.load 124 (.t 9) (some 2)), .guard 123 true (some 125) (.call 125 47 [(.c (.lit (.int .i64 3))), (.c (.lit (.int .i64 5)))]), .guard 123 true (some 126) (.binA 126 false [false, false] (.t 124) (.t 125)), .pick 127 (.t 123) (.t 126) (.c (.lit (.bool false))), .cpy 128 (.t 127), .guard 128 true (some 129) (.load 129 (.t 10) (some 2)), .guard 128 true (some 130) (.call 130 47 [(.c (.lit (.int .i64 3))), (.c (.lit (.int .i64 3)))]), .guard 128 true (some 131) (.binA 131 false [false, false] (.t 129) (.t 130)), .pick 132 (.t 128) (.t 131) (.c (.lit (.bool false))), .cpy 133 (.t 132), .guard 133 true (some 134) (.load 134 (.t 12) (some 2)), .guard 133 true (some 135) (.call 135 47 [(.c (.lit (.int .i64 1605))), (.c (.lit (.int .i64 1610)))]), .guard 133 true (some 136) (.binA 136 false [false, false] (.t 134) (.t 135)), .pick 137 (.t 133) (.t 136) (.c (.lit (.bool false))), .cpy 138 (.t 137), .guard 138 true (some 139) (.cpy 139 (.t 14)), .guard 138 true (some 140) (.mkS 140 1 1 [(.lit (.int .i64 0))] [(0, (.c (.lit (.int .i64 2))))]), .guard 138 true (some 141) (.call 141 25 [(.t 139), (.t 140)]), .pick 142 (.t 138) (.t 141) (.c (.lit (.bool false))), .cpy 143 (.t 142), .guard 143 true (some 144) (.cpy 144 (.t 16)), .guard 143 true (some 145) (.bin 145 .eql (.t 144) (.c (.lit (.int .i64 2)))), .pick 146 (.t 143) (.t 145) (.c (.lit (.bool false))), .cpy 147 (.t 146), .guard 147 true (some 148) (.cpy 148 (.t 17)), .guard 147 true (some 149) (.bin 149 .eql (.t 148) (.c (.lit (.int .i64 2)))), .pick 150 (.t 147) (.t 149) (.c (.lit (.bool false))), .asg 0 (.t 150)])
 .ret)))))))))))
def r22 : List MRes := [.tmp 0]
theorem tr22 : Try.f22.body.bind (trC Try.prog ann22 Try.f22.ntmps) = some m22 := by kernel_rfl
theorem rs22 : trRes Try.prog Try.f22.results.toList = some r22 := by kernel_rfl
theorem fn22 : isFunc Try.prog 22 = true := by kernel_rfl

/- duodecimo/duodecimolaw06.Case -/
def ann34 : Ann := { muts := [], nilsz := [], oid := [], frz := [2], zero := [(2, [(.lit (.int .i64 0)), (.slice 3 [] 3001), (.slice 3 [] 3002), (.lit (.int .i64 0)), (.slice 2 [] 3004)]), (4, [(.lit (.string ⟨#[]⟩)), (.lit (.int .i64 0)), (.lit (.int .i64 0))]), (6, [(.lit (.string ⟨#[]⟩)), (.lit (.int .i64 0)), (.lit (.int .i64 0))]), (8, [(.lit (.string ⟨#[]⟩)), (.lit (.int .i64 0)), (.lit (.int .i64 0))]), (9, [(.lit (.string ⟨#[]⟩)), (.lit (.int .i64 0)), (.lit (.int .i64 0))]), (11, [(.lit (.int .i64 0)), (.lit (.int .i64 0)), (.lit (.int .i64 0))]), (13, [(.lit (.int .i64 0)), (.lit (.int .i64 0)), (.lit (.int .i64 0))]), (15, [(.lit (.int .i64 0)), (.lit (.int .i64 0)), (.lit (.int .i64 0))]), (16, [(.lit (.int .i64 0)), (.lit (.int .i64 0)), (.lit (.int .i64 0))]), (19, [(.lit (.int .i64 0)), (.lit (.int .i64 0))]), (22, [(.lit (.int .i64 0)), (.slice 3 [] 0), (.slice 3 [] 0), (.lit (.int .i64 0)), (.slice 2 [] 0)])], ord := [], ap := [], own := [], yl := [], fz := [], imm := [], ic := [], cl := [], ylL := [], rl := [] }
def m34 : MCode := (.seq (.reg [.alloc 2 [(.lit (.int .i64 0)), (.slice 3 [] 3001), (.slice 3 [] 3002), (.lit (.int .i64 0)), (.slice 2 [] 3004)]])
 (.seq (.reg [.call 3 47 [(.c (.lit (.int .i64 1600))), (.c (.lit (.int .i64 1602)))], .build 4 [(.lit (.string ⟨#[]⟩)), (.lit (.int .i64 0)), (.lit (.int .i64 0))] [(0, 1, (.c (.lit (.string ⟨#[104, 111, 114, 110]⟩)))), (1, 2, (.t 3))], .call 5 47 [(.c (.lit (.int .i64 1605))), (.c (.lit (.int .i64 1605)))], .build 6 [(.lit (.string ⟨#[]⟩)), (.lit (.int .i64 0)), (.lit (.int .i64 0))] [(0, 1, (.c (.lit (.string ⟨#[112, 111, 116]⟩)))), (1, 2, (.t 5))], .call 7 47 [(.c (.lit (.int .i64 1603))), (.c (.lit (.int .i64 1610)))], .build 8 [(.lit (.string ⟨#[]⟩)), (.lit (.int .i64 0)), (.lit (.int .i64 0))] [(0, 1, (.c (.lit (.string ⟨#[103, 114, 97, 112, 101, 115]⟩)))), (1, 2, (.t 7))], .mkS 9 3 3 [(.lit (.string ⟨#[]⟩)), (.lit (.int .i64 0)), (.lit (.int .i64 0))] [(0, (.t 4)), (1, (.t 6)), (2, (.t 8))], .call 10 47 [(.c (.lit (.int .i64 15))), (.c (.lit (.int .i64 16)))], .build 11 [(.lit (.int .i64 0)), (.lit (.int .i64 0)), (.lit (.int .i64 0))] [(0, 1, (.c (.lit (.int .i64 0)))), (1, 2, (.t 10))], .call 12 47 [(.c (.lit (.int .i64 10))), (.c (.lit (.int .i64 10)))], .build 13 [(.lit (.int .i64 0)), (.lit (.int .i64 0)), (.lit (.int .i64 0))] [(0, 1, (.c (.lit (.int .i64 1)))), (1, 2, (.t 12))], .call 14 47 [(.c (.lit (.int .i64 8))), (.c (.lit (.int .i64 9)))], .build 15 [(.lit (.int .i64 0)), (.lit (.int .i64 0)), (.lit (.int .i64 0))] [(0, 1, (.c (.lit (.int .i64 2)))), (1, 2, (.t 14))], .mkS 16 3 3 [(.lit (.int .i64 0)), (.lit (.int .i64 0)), (.lit (.int .i64 0))] [(0, (.t 11)), (1, (.t 13)), (2, (.t 15))], .call 17 35 [(.c (.lit (.int .i64 0))), (.c (.lit (.int .i64 1)))], .call 18 35 [(.c (.lit (.int .i64 1))), (.c (.lit (.int .i64 0)))], .mkS 19 2 2 [(.lit (.int .i64 0)), (.lit (.int .i64 0))] [(0, (.t 17)), (1, (.t 18))], .cpy 20 (.t 0), .app 21 (.t 19) (.t 20) 2 16, .build 22 [(.lit (.int .i64 0)), (.slice 3 [] 0), (.slice 3 [] 0), (.lit (.int .i64 0)), (.slice 2 [] 0)] [(0, 1, (.c (.lit (.int .i64 10)))), (1, 1, (.t 9)), (2, 1, (.t 16)), (3, 1, (.c (.lit (.int .i64 3)))), (4, 1, (.t 21))], .storeF 2 (.t 22) 5])
 .ret))
def r34 : List MRes := [.cell 2 (some 5)]
theorem tr34 : Try.f34.body.bind (trC Try.prog ann34 Try.f34.ntmps) = some m34 := by kernel_rfl
theorem rs34 : trRes Try.prog Try.f34.results.toList = some r34 := by kernel_rfl
theorem fn34 : isFunc Try.prog 34 = true := by kernel_rfl

/- duodecimo/duodecimolaw06.seen -/
def ann35 : Ann := { muts := [], nilsz := [], oid := [], frz := [4], zero := [(4, [(.lit (.int .i64 0)), (.lit (.int .i64 0))]), (7, [(.lit (.int .i64 0)), (.lit (.int .i64 0))])], ord := [], ap := [], own := [], yl := [], fz := [], imm := [], ic := [], cl := [], ylL := [], rl := [] }
def m35 : MCode := (.seq (.reg [.alloc 4 [(.lit (.int .i64 0)), (.lit (.int .i64 0))]])
 (.seq (.reg [.cpy 5 (.t 0), .cpy 6 (.t 1), .build 7 [(.lit (.int .i64 0)), (.lit (.int .i64 0))] [(0, 1, (.t 5)), (1, 1, (.t 6))], .storeF 4 (.t 7) 2])
 .ret))
def r35 : List MRes := [.cell 4 (some 2)]
theorem tr35 : Try.f35.body.bind (trC Try.prog ann35 Try.f35.ntmps) = some m35 := by kernel_rfl
theorem rs35 : trRes Try.prog Try.f35.results.toList = some r35 := by kernel_rfl
theorem fn35 : isFunc Try.prog 35 = true := by kernel_rfl

/- duodecimo/duodecimolaw06.valid -/
def ann36 : Ann := { muts := [], nilsz := [], oid := [], frz := [], zero := [], ord := [], ap := [], own := [], yl := [], fz := [], imm := [], ic := [], cl := [], ylL := [], rl := [] }
def m36 : MCode := (.seq (.reg [.boxI 1 (.t 0) 5, .asg 2 (.c (.lit (.bool false)))])
 (.seq (.reg [.load 7 (.t 1) (some 5), .call 8 16 [(.t 7)], .cpy 6 (.t 8), .ext 9 (.t 6) 0, .ext 10 (.t 6) 1, .ext 11 (.t 6) 2, .asg 3 (.t 9), .asg 4 (.t 10), .asg 5 (.t 11)])
 (.seq (.reg [.cpy 12 (.t 5), .bin 13 .eql (.t 12) (.c (.lit (.int .i64 0))), .asg 2 (.t 13)])
 .ret)))
def r36 : List MRes := [.tmp 2]
theorem tr36 : Try.f36.body.bind (trC Try.prog ann36 Try.f36.ntmps) = some m36 := by kernel_rfl
theorem rs36 : trRes Try.prog Try.f36.results.toList = some r36 := by kernel_rfl
theorem fn36 : isFunc Try.prog 36 = true := by kernel_rfl

/- duodecimo/duodecimolaw06.Any -/
def m37 : MCode := (.seq (.reg [.boxI 2 (.t 0) 5, .boxI 3 (.t 1) 3, .alloc 4 [(.slice 1 [] 5000), (.slice 1 [] 5001), (.slice 1 [] 5002)], .asg 5 (.c (.lit (.bool false)))])
 (.seq (.reg [.load 9 (.t 2) (some 5), .call 10 72 [(.t 9)], .addr 11 (.t 2) 3, .load 12 (.t 11) none, .call 13 77 [(.t 12)], .cpyE 6 (.t 10), .asg 7 (.t 13)])
 (.seq (.seq (.reg [.cpy 14 (.t 6), .len 15 (.t 14), .bin 16 .eql (.t 15) (.c (.lit (.int .i64 0)))])
 (.cond (.t 16) (.seq (.reg [.build 17 [(.slice 1 [] 0), (.slice 1 [] 0), (.slice 1 [] 0)] [], .store (.t 4) (.t 17) 3 0, .asg 5 (.c (.lit (.bool false)))])
 .ret) .skip))
 (.seq (.reg [.cpy 18 (.t 6), .addr 19 (.t 3) 0, .load 20 (.t 19) none, .call 21 78 [(.t 20), (.c (.lit (.int .i64 0)))], .cpy 22 (.t 6), .len 23 (.t 22), .bin 24 .rem (.t 21) (.t 23), .idxS 25 (.t 18) (.t 24) 1, .load 26 (.t 25) none, .asg 8 (.t 26)])
 (.seq (.reg [.cpy 27 (.t 8), .cpy 28 (.t 7), .addr 29 (.t 3) 0, .load 30 (.t 29) none, .call 31 78 [(.t 30), (.c (.lit (.int .i64 1)))], .cpy 32 (.t 7), .len 33 (.t 32), .bin 34 .rem (.t 31) (.t 33), .idxS 35 (.t 28) (.t 34) 1, .load 36 (.t 35) none, .load 37 (.t 2) (some 5), .cpy 38 (.t 8), .call 39 79 [(.t 37), (.t 38)], .build 40 [(.slice 1 [] 0), (.slice 1 [] 0), (.slice 1 [] 0)] [(0, 1, (.t 27)), (1, 1, (.t 36)), (2, 1, (.t 39))], .apart [] (.t 4) (.store (.t 4) (.t 40) 3 0), .asg 5 (.c (.lit (.bool true)))])
 .ret)))))
/- duodecimo/duodecimolaw06.Told -/
def m38 : MCode := (.seq (.reg [.boxM 4 (.t 0) 5, .boxI 5 (.t 1) 3, .boxI 6 (.t 2) 3, .alloc 8 [(.lit (.int .i64 0)), (.slice 3 [] 9001), (.slice 3 [] 9002), (.lit (.int .i64 0)), (.slice 2 [] 9004)]])
 (.seq (.reg [.addr 13 (.t 4) 4, .storeNil (.t 13) 2 5004])
 (.seq (.seq (.reg [.asg 9 (.c (.lit (.int .i64 0)))])
 (.block 0 (.loop (.seq (.seq (.reg [.cpy 14 (.t 9), .bin 15 .add (.t 14) (.c (.lit (.int .i64 1))), .addr 16 (.t 6) 2, .load 17 (.t 16) none, .len 18 (.t 17), .bin 19 .lss (.t 15) (.t 18), .cpy 20 (.t 19), .guard 20 true (some 21) (.addr 21 (.t 4) 4), .guard 20 true (some 22) (.load 22 (.t 21) none), .guard 20 true (some 23) (.len 23 (.t 22)), .guard 20 true (some 24) (.bin 24 .lss (.t 23) (.c (.lit (.int .i64 8)))), .pick 25 (.t 20) (.t 24) (.c (.lit (.bool false)))])
 (.cond (.t 25) .skip (.exit 0)))
 (.seq (.block 1 (.seq (.reg [.addr 28 (.t 6) 2, .load 29 (.t 28) none, .cpy 30 (.t 9), .idxS 31 (.t 29) (.t 30) 1, .load 32 (.t 31) none, .conv 33 .i64 (.t 32), .addr 34 (.t 5) 1, .load 35 (.t 34) none, .len 36 (.t 35), .bin 37 .rem (.t 33) (.t 36), .asg 10 (.t 37)])
 (.seq (.reg [.addr 38 (.t 5) 2, .load 39 (.t 38) none, .cpy 40 (.t 10), .idxS 41 (.t 39) (.t 40) 1, .load 42 (.t 41) none, .asg 11 (.t 42)])
 (.seq (.reg [.cpy 43 (.t 11), .addr 44 (.t 6) 2, .load 45 (.t 44) none, .cpy 46 (.t 9), .bin 47 .add (.t 46) (.c (.lit (.int .i64 1))), .idxS 48 (.t 45) (.t 47) 1, .load 49 (.t 48) none, .conv 50 .i64 (.t 49), .cpy 51 (.t 11), .len 52 (.t 51), .bin 53 .rem (.t 50) (.t 52), .idxS 54 (.t 43) (.t 53) 1, .load 55 (.t 54) none, .asg 12 (.t 55)])
 (.seq (.seq (.reg [.cpy 56 (.t 3), .addr 57 (.t 4) 4, .load 58 (.t 57) none, .len 59 (.t 58), .bin 60 .shr (.t 56) (.t 59), .bin 61 .rem (.t 60) (.c (.lit (.int .u8 2))), .bin 62 .eql (.t 61) (.c (.lit (.int .u8 1)))])
 (.cond (.t 62) (.reg [.cpy 63 (.t 12), .bin 64 .add (.t 63) (.c (.lit (.int .i64 1))), .addr 65 (.t 4) 1, .load 66 (.t 65) none, .len 67 (.t 66), .bin 68 .rem (.t 64) (.t 67), .asg 12 (.t 68)]) .skip))
 (.reg [.addr 69 (.t 4) 4, .load 70 (.t 69) none, .addr 71 (.t 5) 1, .load 72 (.t 71) none, .cpy 73 (.t 10), .idxS 74 (.t 72) (.t 73) 1, .load 75 (.t 74) none, .cpy 76 (.t 12), .call 77 35 [(.t 75), (.t 76)], .mkS 78 1 2 [(.lit (.int .i64 0)), (.lit (.int .i64 0))] [(0, (.t 77))], .app 79 (.t 70) (.t 78) 2 16, .addr 80 (.t 4) 4, .apart [] (.t 80) (.store (.t 80) (.t 79) 1 5004)]))))))
 (.reg [.cpy 26 (.t 9), .bin 27 .add (.t 26) (.c (.lit (.int .i64 2))), .asg 9 (.t 27)]))))))
 (.seq (.reg [.load 81 (.t 4) (some 5), .storeF 8 (.t 81) 5])
 .ret))))
/- duodecimo/duodecimolaw06.one -/
/- duodecimo/duodecimolaw06.part -/
/- duodecimo/duodecimolaw06.Latest -/
/- duodecimo/duodecimolaw06.without -/
/- duodecimo/duodecimolaw06.span -/
def ann47 : Ann := { muts := [], nilsz := [], oid := [], frz := [4], zero := [(4, [(.lit (.int .i64 0)), (.lit (.int .i64 0))]), (7, [(.lit (.int .i64 0)), (.lit (.int .i64 0))])], ord := [], ap := [], own := [], yl := [], fz := [], imm := [], ic := [], cl := [], ylL := [], rl := [] }
def m47 : MCode := (.seq (.reg [.alloc 4 [(.lit (.int .i64 0)), (.lit (.int .i64 0))]])
 (.seq (.reg [.cpy 5 (.t 0), .cpy 6 (.t 1), .build 7 [(.lit (.int .i64 0)), (.lit (.int .i64 0))] [(0, 1, (.t 5)), (1, 1, (.t 6))], .storeF 4 (.t 7) 2])
 .ret))
def r47 : List MRes := [.cell 4 (some 2)]
theorem tr47 : Try.f47.body.bind (trC Try.prog ann47 Try.f47.ntmps) = some m47 := by kernel_rfl
theorem rs47 : trRes Try.prog Try.f47.results.toList = some r47 := by kernel_rfl
theorem fn47 : isFunc Try.prog 47 = true := by kernel_rfl

/- duodecimo/duodecimolaw06.turn -/
def m78 : MCode := (.seq (.reg [.asg 4 (.c (.lit (.int .i64 0)))])
 (.seq (.seq (.reg [.cpy 5 (.t 0), .len 6 (.t 5), .bin 7 .eql (.t 6) (.c (.lit (.int .i64 0)))])
 (.cond (.t 7) (.seq (.reg [.asg 4 (.c (.lit (.int .i64 0)))])
 .ret) .skip))
 (.seq (.reg [.cpy 8 (.t 0), .cpy 9 (.t 1), .cpy 10 (.t 0), .len 11 (.t 10), .bin 12 .rem (.t 9) (.t 11), .idxS 13 (.t 8) (.t 12) 1, .load 14 (.t 13) none, .conv 15 .i64 (.t 14), .asg 4 (.t 15)])
 .ret)))
end Go.Proofs.Ytbcfmfiolbcclaa

namespace Go.Proofs.Ytbcfmfiolbcclaa
open Go.Avm

theorem seen35_ok (g s : Int) : PCall Try.prog 35 [I g, I s] (encSeen (g, s)) := by
  refine pcall Try.func35 tr35 rs35 fn35 (by simp [Try.ntmps35]) fun _ => ?_
  simp -implicitDefEqProofs [m35, r35]
theorem span47_ok (a b : Int) : PCall Try.prog 47 [I a, I b] (Span2 a b) := by
  refine pcall Try.func47 tr47 rs47 fn47 (by simp [Try.ntmps47]) fun _ => ?_
  simp -implicitDefEqProofs [m47, r47]

/-- The case of the examples. -/
def caseX (more : List (Int × Int)) : Case := ⟨10, [⟨⟨#[104, 111, 114, 110]⟩, 1600, 1602⟩, ⟨⟨#[112, 111, 116]⟩, 1605, 1605⟩, ⟨⟨#[103, 114, 97, 112, 101, 115]⟩, 1603, 1610⟩], [⟨0, 15, 16⟩, ⟨1, 10, 10⟩, ⟨2, 8, 9⟩], 3, [(0, 1), (1, 0)] ++ more⟩

theorem case34_ok (more : List (Int × Int)) (hl : more.length ≤ 9) : PCall Try.prog 34 [.slice 2 (more.map encSeen) 0] (encCase (caseX more)) := by
  refine pcall Try.func34 tr34 rs34 fn34 (by simp [Try.ntmps34]) fun _ => ?_
  have c1 := span47_ok 1600 1602
  have c2 := span47_ok 1605 1605
  have c3 := span47_ok 1603 1610
  have c4 := span47_ok 15 16
  have c5 := span47_ok 10 10
  have c6 := span47_ok 8 9
  have c7 := seen35_ok 0 1
  have c8 := seen35_ok 1 0
  simp -implicitDefEqProofs [m34]
  intro b
  refine vCall_of c1 ?_
  simp -implicitDefEqProofs
  refine vCall_of c2 ?_
  simp -implicitDefEqProofs
  refine vCall_of c3 ?_
  simp -implicitDefEqProofs
  refine vCall_of c4 ?_
  simp -implicitDefEqProofs
  refine vCall_of c5 ?_
  simp -implicitDefEqProofs
  refine vCall_of c6 ?_
  simp -implicitDefEqProofs
  refine vCall_of c7 ?_
  simp -implicitDefEqProofs
  refine vCall_of c8 ?_
  simp -implicitDefEqProofs [r34, caseX]
  omega

theorem sEq_data : sEq = fun p q => p.data.toList == q.data.toList := by
  funext p q
  unfold sEq
  rw [toList_data, toList_data]
theorem x_stocks : ∀ j < 3, stockE (caseX []) j = 0 := by
  unfold stockE namedE
  rw [sEq_data]
  decide +kernel
theorem x_reams : ∀ j < 3, reamE (caseX []) j = 0 := by decide +kernel
theorem caseX_zero (more : List (Int × Int)) (hl : more.length ≤ 6) (hm : ∀ j < 2 + more.length, seenE (caseX more) j = 0) : checkS (caseX more) = (0, 0, 0) := by
  refine checkS_9 ⟨by simp [caseX], by simp [caseX], ?_, by simp [caseX], ?_⟩ (by simp [caseX]) (by simp [caseX]; omega) (fun j hj => hm j (by simp [caseX] at hj; omega))
  · intro j hj
    exact x_stocks j (by simpa [caseX] using hj)
  · intro j hj
    exact x_reams j (by simpa [caseX] using hj)
abbrev moreX : List (Int × Int) := [(0, 0), (0, 2)]
theorem x_err : errE (caseX []) = 0 := by rw [errE, caseX_zero [] (by simp) (by decide +kernel)]
theorem x_err2 : errE (caseX moreX) = 0 := by rw [errE, caseX_zero moreX (by simp) (by decide +kernel)]

theorem x_ways : waysP (caseX []) = [[1, 0, 2], [1, 2, 0], [2, 1, 0]] := by decide +kernel
theorem x_ways2 : waysP (caseX moreX) = [] := by decide +kernel
theorem x_orders : ordersS (caseX []) = ([[1, 0, 2], [1, 2, 0], [2, 1, 0]], 0) := by
  unfold ordersS
  rw [x_err, x_ways]; rfl
theorem x_orders2 : ordersS (caseX moreX) = ([], 8) := by
  unfold ordersS
  rw [x_err2, x_ways2]; rfl
theorem x_before : beforeS (caseX []) 0 1 = (2, 0) := by
  unfold beforeS
  rw [x_err, x_ways]
  decide +kernel
theorem x_tru : decide (truL (caseX []) 0 = []) = false := by decide +kernel
theorem x_tru' : truL (caseX []) 0 ≠ [] := of_decide_eq_false x_tru
theorem x_stocksAt : bitsL (sureM (caseX []) 1 (truL (caseX []) 0)) = [0] ∧ bitsL (mayM (caseX []) 1 (truL (caseX []) 0)) = [0, 1] := by decide +kernel
theorem x_stocksS : stocksS (caseX []) 1 = ([0], [0, 1], 0) := by
  unfold stocksS
  rw [x_err, if_neg (by simp), if_neg (by decide +kernel), if_neg x_tru', x_stocksAt.1, x_stocksAt.2]
theorem x_left : leftS (caseX []) = ⟨3, 5, 3, 3, 0⟩ := by
  unfold leftS
  rw [x_err, if_neg (by simp), if_neg x_tru']
  have : (endsL (leftOf (caseX [])) (truL (caseX []) 0)).lo = 3 ∧ (endsL (leftOf (caseX [])) (truL (caseX []) 0)).hi = 5 ∧ (endsL (begunOf (caseX [])) (truL (caseX []) 0)).lo = 3 ∧ (endsL (begunOf (caseX [])) (truL (caseX []) 0)).hi = 3 := by decide +kernel
  rw [this.1, this.2.1, this.2.2.1, this.2.2.2]
theorem x_year : yearS (caseX []) = ⟨1605, 1610, 0⟩ := by
  unfold yearS
  rw [x_err, if_neg (by simp), if_neg x_tru']
  have : (yearE (caseX []) (truL (caseX []) 0)).lo = 1605 ∧ (yearE (caseX []) (truL (caseX []) 0)).hi = 1610 := by decide +kernel
  rw [this.1, this.2]
theorem x_wrong : wrongS (caseX moreX) = ([2], 0) := by
  unfold wrongS
  rw [x_err2, if_neg (by simp)]
  have : bestUp (anyT (caseX moreX)) (2 ^ (caseX moreX).seen.length) = some 4 := by decide +kernel
  rw [this]
  have : bitsL 4 = [2] := by decide +kernel
  show (bitsL 4, (0 : Int)) = _
  rw [this]
theorem x_ask : askS (caseX []) = ⟨2, 2, 0⟩ := by
  unfold askS
  rw [x_err, if_neg (by simp), if_neg x_tru']
  have : askUp (caseX []) (caseX []).gath.toNat = (2, 2) := by decide +kernel
  rw [this]

theorem awake22_ok : PCall Try.prog 22 [] (B true) := by
  refine pcall Try.func22 tr22 rs22 fn22 (by simp [Try.ntmps22]) fun _ => ?_
  have k0 : PCall Try.prog 34 [.slice 2 [] 0] (encCase (caseX [])) := case34_ok [] (by simp)
  have k1 : PCall Try.prog 34 [.slice 2 (moreX.map encSeen) 0] (encCase (caseX moreX)) := case34_ok moreX (by simp)
  have q1 := orders17_ok (caseX [])
  have q2 := before20_ok (caseX []) 0 1
  have q3 := stocks23_ok (caseX []) 1
  have q4 := left26_ok (caseX [])
  have q5 := year28_ok (caseX [])
  have q6 := wrong30_ok (caseX moreX)
  have q7 := ask32_ok (caseX [])
  have q8 := orders17_ok (caseX moreX)
  rw [x_orders] at q1
  rw [x_before] at q2
  rw [x_stocksS] at q3
  rw [x_left] at q4
  rw [x_year] at q5
  rw [x_wrong] at q6
  rw [x_ask] at q7
  rw [x_orders2] at q8
  generalize caseX [] = c at *
  generalize caseX moreX = d at *
  have s1 := seen35_ok 0 0
  have s2 := seen35_ok 0 2
  simp -implicitDefEqProofs [m22]
  refine vCall_of k0 ?_
  simp -implicitDefEqProofs
  intro b1
  refine vCall_of q1 ?_
  simp -implicitDefEqProofs
  refine vCall_of q2 ?_
  simp -implicitDefEqProofs
  refine vCall_of q3 ?_
  simp -implicitDefEqProofs
  refine vCall_of q4 ?_
  simp -implicitDefEqProofs
  intro b9 b10 h10
  have n : ¬ b10 = b9 := by rintro rfl; simp at h10
  simp -implicitDefEqProofs [n]
  refine vCall_of q5 ?_
  simp -implicitDefEqProofs
  intro b12 h12
  refine vCall_of s1 ?_
  simp -implicitDefEqProofs
  refine vCall_of s2 ?_
  simp -implicitDefEqProofs
  refine vCall_of k1 ?_
  simp -implicitDefEqProofs
  refine vCall_of q6 ?_
  simp -implicitDefEqProofs
  refine vCall_of q7 ?_
  simp -implicitDefEqProofs
  refine vCall_of s1 ?_
  simp -implicitDefEqProofs
  refine vCall_of s2 ?_
  simp -implicitDefEqProofs
  refine vCall_of k1 ?_
  simp -implicitDefEqProofs
  refine vCall_of q8 ?_
  simp -implicitDefEqProofs
  refine vCall_of (same_ok [[1, 0, 2], [1, 2, 0], [2, 1, 0]] [[1, 0, 2], [1, 2, 0], [2, 1, 0]]) ?_
  simp -implicitDefEqProofs
  refine vCall_of (ints_ok [0] [0]) ?_
  simp -implicitDefEqProofs
  refine vCall_of (ints_ok [0, 1] [0, 1]) ?_
  simp -implicitDefEqProofs
  refine vCall_of (span47_ok 3 5) ?_
  simp -implicitDefEqProofs
  refine vCall_of (span47_ok 3 3) ?_
  simp -implicitDefEqProofs
  refine vCall_of (span47_ok 1605 1610) ?_
  simp -implicitDefEqProofs
  refine vCall_of (ints_ok [2] [2]) ?_
  simp -implicitDefEqProofs [r22]
end Go.Proofs.Ytbcfmfiolbcclaa

namespace Go.Proofs.Ytbcfmfiolbcclaa
open Go.Avm

abbrev okI (n : Int) : Prop := IntKind.min .i64 ≤ n ∧ n ≤ IntKind.max .i64
theorem rdI {pl : Bool} : Rd Try.prog pl 3 I okI := by
  cases pl
  · exact (Rd.int Try.underlying3).loose
  · exact Rd.int Try.underlying3
theorem rdS {pl : Bool} : Rd Try.prog pl 9 S (fun s => s.size ≤ 140737488355328) := by
  cases pl
  · exact (Rd.string Try.underlying9).loose
  · exact Rd.string Try.underlying9

abbrev span2 (p : Int × Int) : AV := Span2 p.1 p.2
theorem rdSpan {pl : Bool} : Rd Try.prog pl 44 span2 (fun _ => True) :=
  (Rd.struct (tot := 2) Try.underlying44 rfl (by kernel_rfl) (RdL.cons rfl (by kernel_rfl) rdI (RdL.cons rfl (by kernel_rfl) rdI RdL.nil))).map (fun x => (x.1, x.2.1)) (fun _ => rfl) (fun _ _ => trivial)
theorem rdStock : Rd Try.prog true 86 encStock (fun _ => True) :=
  (Rd.struct (tot := 3) Try.underlying86 rfl (by kernel_rfl) (RdL.cons rfl (by kernel_rfl) rdS (RdL.cons rfl (by kernel_rfl) rdSpan RdL.nil))).map (fun x => ⟨x.1, x.2.1.1, x.2.1.2⟩) (fun _ => rfl) (fun _ _ => trivial)
theorem rdReam : Rd Try.prog true 79 encReam (fun _ => True) :=
  (Rd.struct (tot := 3) Try.underlying79 rfl (by kernel_rfl) (RdL.cons rfl (by kernel_rfl) rdI (RdL.cons rfl (by kernel_rfl) rdSpan RdL.nil))).map (fun x => ⟨x.1, x.2.1.1, x.2.1.2⟩) (fun _ => rfl) (fun _ _ => trivial)
theorem rdSeen {pl : Bool} : Rd Try.prog pl 55 encSeen (fun _ => True) :=
  (Rd.struct (tot := 2) Try.underlying55 rfl (by kernel_rfl) (RdL.cons rfl (by kernel_rfl) rdI (RdL.cons rfl (by kernel_rfl) rdI RdL.nil))).map (fun x => (x.1, x.2.1)) (fun _ => rfl) (fun _ _ => trivial)
theorem rdCase : Rd Try.prog false 26 encCase (fun c => c.seen.length * 16 ≤ 140737488351232) :=
  (Rd.struct (tot := 5) Try.underlying26 rfl (by kernel_rfl) (RdL.cons rfl (by kernel_rfl) rdI (RdL.cons rfl (by kernel_rfl) (Rd.slice Try.underlying22 (of_decide_eq_true (by kernel_rfl)) (by kernel_rfl) rdStock)
    (RdL.cons rfl (by kernel_rfl) (Rd.slice Try.underlying23 (of_decide_eq_true (by kernel_rfl)) (by kernel_rfl) rdReam) (RdL.cons rfl (by kernel_rfl) rdI
    (RdL.cons rfl (by kernel_rfl) (Rd.sliceB Try.underlying24 (of_decide_eq_true (by kernel_rfl)) (by kernel_rfl) rdSeen) RdL.nil)))))).map (fun x => ⟨x.1, x.2.1, x.2.2.1, x.2.2.2.1, x.2.2.2.2.1⟩) (fun _ => rfl) (fun x h => by
      have h2 := h.2.2.2.2.1.2.1
      rwa [show Try.prog.bytesOf 55 = 16 by kernel_rfl] at h2)

abbrev U (n : Int) : AV := .lit (.int .u16 n)
theorem rdU {pl : Bool} : Rd Try.prog pl 81 U (fun n => 0 ≤ n ∧ n ≤ 65535) := by
  have h : Rd Try.prog true 81 U (fun n => 0 ≤ n ∧ n ≤ 65535) := (Rd.int Try.underlying81).map id (fun _ => rfl) (fun _ h => h)
  cases pl
  · exact h.loose
  · exact h
abbrev okU (l : List Int) : Prop := ∀ x ∈ l, 0 ≤ x ∧ x ≤ 65535
theorem rdU3 : Rd Try.prog false 82 (fun xs : List Int => .agg (xs.flatMap fun y => (U y).cells)) (fun xs => xs.length = 3 ∧ ∀ x ∈ xs, 0 ≤ x ∧ x ≤ 65535) :=
  Rd.array (sz := 1) Try.underlying82 (by kernel_rfl) (by kernel_rfl) rdU

/-- A truth, by numbers, and what is seen of it. -/
structure Past where
  truth : List Int
  years : List Int
  looked : List Int
structure Past.OK (x : Past) : Prop where
  truth : okU x.truth ∧ x.truth.length ≤ 140737488355328
  years : okU x.years ∧ x.years.length ≤ 140737488355328
  looked : okU x.looked ∧ x.looked.length ≤ 140737488355328
end Go.Proofs.Ytbcfmfiolbcclaa

