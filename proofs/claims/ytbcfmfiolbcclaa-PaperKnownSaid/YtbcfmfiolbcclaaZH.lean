/- Contracts of the reference: what agrees, all truths, their orders. Contracts of the reference: all truths, their orders. Contracts of the reference: Orders and Before. Contracts of the reference: Both and Stocks. Contracts of the reference: Left, Latest and Year. Contracts of the reference: Lists and Off. Contracts of the reference: More, Worst and Ask. -/
import Derived.Test.YtbcfmfiolbcclaaZG
namespace Go.Proofs.Ytbcfmfiolbcclaa
open Go.Avm

/-- Whether one thing seen agrees, but for some of these. -/
def agrAtUp (c : Case) (pl : List (List Int)) (o : List Int) (i k : Nat) : Bool :=
  (List.range k).all fun q => !decide (o.getD q 0 = (c.seen.getD i (-1, 0)).1) || decide ((c.seen.getD i (-1, 0)).2 ∈ pl.getD q [])
def agrAt (c : Case) (but : List Int) (pl : List (List Int)) (o : List Int) (i : Nat) : Bool := decide ((i : Int) ∈ but) || agrAtUp c pl o i o.length
def agrUp (c : Case) (but : List Int) (pl : List (List Int)) (o : List Int) (k : Nat) : Bool := (List.range k).all (agrAt c but pl o)
def agrB (c : Case) (but : List Int) (pl : List (List Int)) (o : List Int) : Bool := agrUp c but pl o c.seen.length
theorem agrAtUp_succ (c : Case) (pl : List (List Int)) (o : List Int) (i k : Nat) : agrAtUp c pl o i (k + 1) = (agrAtUp c pl o i k && (!decide (o.getD k 0 = (c.seen.getD i (-1, 0)).1) || decide ((c.seen.getD i (-1, 0)).2 ∈ pl.getD k []))) := by
  simp [agrAtUp, List.range_succ]
theorem agrUp_succ (c : Case) (but : List Int) (pl : List (List Int)) (o : List Int) (k : Nat) : agrUp c but pl o (k + 1) = (agrUp c but pl o k && agrAt c but pl o k) := by
  simp [agrUp, List.range_succ]
theorem agrAt_f {c : Case} {but : List Int} {pl : List (List Int)} {o : List Int} {i k : Nat} (hk : k < o.length) (hb : ¬ (i : Int) ∈ but) (h : (!decide (o.getD k 0 = (c.seen.getD i (-1, 0)).1) || decide ((c.seen.getD i (-1, 0)).2 ∈ pl.getD k [])) = false) :
    agrAt c but pl o i = false := by
  unfold agrAt agrAtUp
  rw [decide_eq_false hb, Bool.false_or, List.all_eq_false]
  exact ⟨k, by simpa using hk, by rw [h]; simp⟩
theorem agrB_f {c : Case} {but : List Int} {pl : List (List Int)} {o : List Int} {i : Nat} (hi : i < c.seen.length) (h : agrAt c but pl o i = false) : agrB c but pl o = false := by
  unfold agrB agrUp
  rw [List.all_eq_false]
  exact ⟨i, by simpa using hi, by rw [h]; simp⟩

theorem agrees96_ok (c : Case) (hs9 : c.seen.length ≤ 9) (but : List Int) (pl : List (List Int)) (o : List Int) (hpl : o.length ≤ pl.length) (ho : o.length ≤ 5) :
    PCall Try.prog 96 [encCase c, ILL pl, IL o, IL but] (B (agrB c but pl o)) := by
  refine pcall Try.func96 tr96 rs96 fn96 (by simp [Try.ntmps96]) fun _ => ?_
  obtain ⟨R, hR⟩ : ∃ R, R = agrB c but pl o := ⟨_, rfl⟩
  rw [← hR]
  simp -implicitDefEqProofs [m96]
  refine loop_up c.seen.length (fun i s => s.env 4 = caseRef c ∧ s.env 1 = ILL pl ∧ s.env 2 = IL o ∧ s.env 3 = IL but ∧ s.env 9 = I i ∧ agrUp c but pl o i = true) ?_ ?_
  · simp [agrUp]
  rintro i s hi ⟨e4, e1, e2, e3, e9, hag⟩
  simp -implicitDefEqProofs [e4, e9]
  refine cond_dec (fun hlt => ?_) (fun hge => ?_)
  · have hlt : i < c.seen.length := by omega
    have hu := agrUp_succ c but pl o i
    rw [hag, Bool.true_and] at hu
    have hc := has_ok but i
    have hat : agrAt c but pl o i = (decide ((i : Int) ∈ but) || agrAtUp c pl o i o.length) := rfl
    simp -implicitDefEqProofs [e3, e9]
    refine vCall_of hc ?_
    by_cases hb : (i : Int) ∈ but
    · rw [decide_eq_true hb, Bool.true_or] at hat
      rw [hat] at hu
      simp -implicitDefEqProofs [hb, e9]
      refine ⟨i64 (by omega) (by omega), round_ok hlt ?_⟩
      simp [e4, e1, e2, e3, hu]
    · rw [decide_eq_false hb, Bool.false_or] at hat
      rw [hat] at hu
      simp -implicitDefEqProofs [hb]
      refine loop_up o.length (fun k s => s.env 4 = caseRef c ∧ s.env 1 = ILL pl ∧ s.env 2 = IL o ∧ s.env 3 = IL but ∧ s.env 9 = I i ∧ s.env 10 = I k ∧ agrAtUp c pl o i k = true) ?_ ?_
      · simp [e4, e1, e2, e3, e9, agrAtUp]
      rintro k s hk ⟨e4, e1, e2, e3, e9, e10, hak⟩
      simp -implicitDefEqProofs [e2, e10]
      refine cond_dec (fun hlt2 => ?_) (fun hge2 => ?_)
      · have hlt2 : k < o.length := by omega
        have hlt3 : k < pl.length := by omega
        have hu2 := agrAtUp_succ c pl o i k
        have hf := agrAt_f (c := c) (pl := pl) (i := i) hlt2 hb
        have e0 : c.seen.getD i (-1, 0) = c.seen[i] := by simp [hlt]
        have e00 : o.getD k 0 = o[k] := by simp [hlt2]
        have e000 : pl.getD k [] = pl[k] := by simp [hlt3]
        rw [hak, Bool.true_and, e0, e00, e000] at hu2
        rw [e0, e00, e000] at hf
        have hh := has_ok pl[k] c.seen[i].2
        by_cases h1 : o[k] = c.seen[i].1
        · have h1' : (o[k] == c.seen[i].1) = true := by simp [h1]
          simp -implicitDefEqProofs [e4, e1, e2, e9, e10, hlt, hlt2, hlt3, h1']
          refine vCall_of hh ?_
          by_cases h2 : c.seen[i].2 ∈ pl[k]
          · simp -implicitDefEqProofs [h2, e10]
            refine ⟨i64 (by omega) (by omega), round_ok hlt2 ?_⟩
            simp [e4, e1, e2, e3, e9, hu2, h1, h2]
          · have hRf : R = false := by rw [hR]; exact agrB_f hlt (hf (by simp [h1, h2]))
            simp -implicitDefEqProofs [h2, r96, hRf]
        · have h1' : (o[k] == c.seen[i].1) = false := by simp [h1]
          simp -implicitDefEqProofs [e4, e2, e9, e10, hlt, hlt2, h1']
          refine ⟨i64 (by omega) (by omega), round_ok hlt2 ?_⟩
          simp [e4, e1, e2, e3, e9, hu2, h1]
      · obtain rfl : k = o.length := by omega
        rw [hak] at hu
        simp -implicitDefEqProofs [e9]
        refine ⟨i64 (by omega) (by omega), round_ok hlt ?_⟩
        simp [e4, e1, e2, e3, hu]
  · obtain rfl : i = c.seen.length := by omega
    have hRt : R = true := by rw [hR]; exact hag
    simp -implicitDefEqProofs [r96, hRt]
end Go.Proofs.Ytbcfmfiolbcclaa

namespace Go.Proofs.Ytbcfmfiolbcclaa
open Go.Avm

abbrev encT (c : Case) (x : List Int × List Int) : AV := .agg [IL x.1, IL x.2, ILL (placesL c x.1)]
abbrev TL (c : Case) (l : List (List Int × List Int)) : AV := .slice 3 (l.map (encT c)) 0
def truROf (c : Case) (p : List Int) (l : List (List Int)) : List (List Int × List Int) := (l.filter (agrB c [] (placesL c p))).map fun o => (p, o)
def truROn (c : Case) (l : List (List Int)) : List (List Int × List Int) := l.flatMap fun p => truROf c p (ordersL c)
def truR (c : Case) : List (List Int × List Int) := truROn c (pilesL c)
theorem truROn_snoc (c : Case) (l : List (List Int)) (p : List Int) : truROn c (l ++ [p]) = truROn c l ++ truROf c p (ordersL c) := by simp [truROn]
theorem truROf_snoc (c : Case) (p : List Int) (l : List (List Int)) (o : List Int) : truROf c p (l ++ [o]) = truROf c p l ++ if agrB c [] (placesL c p) o then [(p, o)] else [] := by
  unfold truROf
  rw [List.filter_append, List.map_append]
  by_cases h : agrB c [] (placesL c p) o <;> simp [h]
theorem truROf_len (c : Case) (p : List Int) (l : List (List Int)) : (truROf c p l).length ≤ l.length := by
  unfold truROf; rw [List.length_map]; exact List.length_filter_le _ _
theorem ordersL_len {c : Case} (h : c.OK) : (ordersL c).length ≤ 3125 := by
  have hg := h.gath
  have h1 : (ordersL c).length ≤ _ := allO_len c.gath.toNat c.gath.toNat
  have h2 : c.gath.toNat ^ c.gath.toNat ≤ 5 ^ 5 := Nat.le_trans (Nat.pow_le_pow_left (show c.gath.toNat ≤ 5 by omega) _) (Nat.pow_le_pow_right (by omega) (by omega))
  omega
theorem truROn_len {c : Case} (h : c.OK) (l : List (List Int)) : (truROn c l).length ≤ l.length * 3125 :=
  flat_len _ 3125 l fun p _ => Nat.le_trans (truROf_len c p _) (ordersL_len h)
theorem pilesL_len {c : Case} (h : c.OK) : (pilesL c).length ≤ 81 := Nat.le_trans (List.length_filter_le _ _) (pilesUp_len81 h _ (Nat.le_refl _))
theorem truR_len {c : Case} (h : c.OK) : (truR c).length ≤ 253125 := by
  have h1 := truROn_len h (pilesL c)
  have h2 := pilesL_len h
  unfold truR; omega

theorem placesL_len (c : Case) (p : List Int) : (placesL c p).length = c.gath.toNat := by simp [placesL, placesUp]

theorem truths91_ok {c : Case} (h : c.OK) : PCall Try.prog 91 [encCase c] (TL c (truR c)) := by
  refine pcall Try.func91 tr91 rs91 fn91 (by simp [Try.ntmps91]) fun _ => ?_
  have hp := piles_ok c h
  have hg := h.gath
  obtain ⟨g, hgn⟩ : ∃ g : Nat, c.gath = g := ⟨c.gath.toNat, by omega⟩
  have hgt : c.gath.toNat = g := by omega
  have hall := all_ok g (by omega)
  have hall : PCall Try.prog 77 [I c.gath] (ILL (ordersL c)) := by
    have e : ordersL c = allO g g := by unfold ordersL; rw [hgt]
    rw [e, hgn]; exact hall
  have hol := ordersL_len h
  have hpl := pilesL_len h
  simp -implicitDefEqProofs [m91]
  refine vCall_of hp ?_
  simp -implicitDefEqProofs
  refine vCall_of hall ?_
  simp -implicitDefEqProofs
  refine loop_up (pilesL c).length (fun k s => s.env 1 = caseRef c ∧ s.env 3 = .slice 3 ((truROn c ((pilesL c).take k)).map (encT c)) 4 ∧ s.env 4 = ILL (pilesL c) ∧ s.env 5 = ILL (ordersL c) ∧ s.env 6 = I k) ?_ ?_
  · simp [truROn]
  rintro k s hk ⟨e1, e3, e4, e5, e6⟩
  simp -implicitDefEqProofs [e4, e6]
  refine cond_dec (fun hlt => ?_) (fun hge => ?_)
  · have hlt : k < (pilesL c).length := by omega
    have hpo := pilesL_ok h (List.getElem_mem hlt)
    have hpc := places_ok c h _ hpo
    have hsn := truROn_snoc c ((pilesL c).take k) (pilesL c)[k]
    rw [← take_snoc hlt] at hsn
    have hlen := truROn_len h ((pilesL c).take k)
    have htl : ((pilesL c).take k).length ≤ 81 := by rw [List.length_take]; omega
    generalize hpk : (pilesL c)[k] = p at *
    simp -implicitDefEqProofs [e1, e4, e6, hlt, hpk]
    refine vCall_of hpc ?_
    simp -implicitDefEqProofs
    refine loop_up (ordersL c).length (fun j s => s.env 1 = caseRef c ∧ s.env 3 = .slice 3 ((truROn c ((pilesL c).take k) ++ truROf c p ((ordersL c).take j)).map (encT c)) 4 ∧ s.env 4 = ILL (pilesL c) ∧ s.env 5 = ILL (ordersL c) ∧ s.env 6 = I k ∧
      s.env 7 = ILL (placesL c p) ∧ s.env 8 = I j) ?_ ?_
    · simp [e1, e3, e4, e5, e6, truROf]
    rintro j s hj ⟨e1, e3, e4, e5, e6, e7, e8⟩
    simp -implicitDefEqProofs [e5, e8]
    refine cond_dec (fun hlt2 => ?_) (fun hge2 => ?_)
    · have hlt2 : j < (ordersL c).length := by omega
      have hoe := (allO_each _ _ _ (List.getElem_mem hlt2)).1
      have hag := agrees96_ok c h.seenLen [] (placesL c p) (ordersL c)[j] (by rw [placesL_len, hoe]; exact Nat.le_refl _) (by omega)
      have hsj := truROf_snoc c p ((ordersL c).take j) (ordersL c)[j]
      rw [← take_snoc hlt2] at hsj
      have hlj := truROf_len c p ((ordersL c).take j)
      have htj : ((ordersL c).take j).length ≤ 3125 := by rw [List.length_take]; omega
      generalize hoj : (ordersL c)[j] = o at *
      simp -implicitDefEqProofs [e1, e5, e7, e8, hlt2, hoj]
      refine vCall_of hag ?_
      simp -implicitDefEqProofs
      refine cond_bool (fun hb => ?_) (fun hb => ?_)
      · rw [if_pos hb] at hsj
        simp -implicitDefEqProofs [e3, e4, e5, e6, e7, e8, hlt, hlt2, hpk, hoj]
        refine ⟨by omega, by omega, i64 (by omega) (by omega), round_ok hlt2 ?_⟩
        simp [e1, e4, e5, e6, e7, hsj]
      · rw [if_neg (by rw [hb]; simp), List.append_nil] at hsj
        simp -implicitDefEqProofs [e8]
        refine ⟨i64 (by omega) (by omega), round_ok hlt2 ?_⟩
        simp [e1, e3, e4, e5, e6, e7, hsj]
    · obtain rfl : j = (ordersL c).length := by omega
      rw [List.take_length, ← hsn] at e3
      simp -implicitDefEqProofs [e6]
      refine ⟨i64 (by omega) (by omega), round_ok hlt ?_⟩
      simp [e1, e3, e4, e5]
  · obtain rfl : k = (pilesL c).length := by omega
    rw [List.take_length] at e3
    simp -implicitDefEqProofs [e3, r91]
    rfl

def someL (c : Case) (e : Int) : List (List Int × List Int) × Int := if e ≠ 0 then ([], e) else if truR c = [] then ([], 8) else (truR c, 0)
theorem some57_ok (c : Case) (e : Int) (h : e = 0 → c.OK) : PCall Try.prog 57 [encCase c, I e] (.tuple [TL c (someL c e).1, I (someL c e).2]) := by
  refine pcall Try.func57 tr57 rs57 fn57 (by simp [Try.ntmps57]) fun _ => ?_
  have hR : someL c e = if e ≠ 0 then ([], e) else if truR c = [] then ([], 8) else (truR c, 0) := rfl
  generalize someL c e = R at *
  simp -implicitDefEqProofs [m57]
  by_cases he : e = 0
  · have ht := truths91_ok (h he)
    subst he
    rw [if_neg (by simp)] at hR
    simp -implicitDefEqProofs
    refine vCall_of ht ?_
    by_cases hz : truR c = []
    · rw [if_pos hz] at hR
      simp -implicitDefEqProofs [r57, hR, hz]
    · rw [if_neg hz] at hR
      have hz' : (((truR c).length : Int) == 0) = false := by simp; exact hz
      simp -implicitDefEqProofs [r57, hR, hz']
  · rw [if_pos he] at hR
    have he' : (e != 0) = true := by simpa using he
    simp -implicitDefEqProofs [r57, hR, he']

def waysR (c : Case) (l : List (List Int × List Int)) : List (List Int) := (ordersL c).filter fun o => l.any fun x => decide (x.2 = o)
theorem ways58_ok {c : Case} (h : 1 ≤ c.gath ∧ c.gath ≤ 5) (l : List (List Int × List Int)) : PCall Try.prog 58 [encCase c, TL c l] (ILL (waysR c l)) := by
  refine pcall Try.func58 tr58 rs58 fn58 (by simp [Try.ntmps58]) fun hfit => ?_
  have hll : l.length ≤ 140737488355328 := by simpa using fits_len (hfit 1)
  obtain ⟨g, hgn⟩ : ∃ g : Nat, c.gath = g := ⟨c.gath.toNat, by omega⟩
  have hgt : c.gath.toNat = g := by omega
  have hall := all_ok g (by omega)
  have hall : PCall Try.prog 77 [I c.gath] (ILL (ordersL c)) := by
    have e : ordersL c = allO g g := by unfold ordersL; rw [hgt]
    rw [e, hgn]; exact hall
  have hol : (ordersL c).length ≤ 3125 := by
    have h1 : (ordersL c).length ≤ _ := allO_len c.gath.toNat c.gath.toNat
    have h2 : c.gath.toNat ^ c.gath.toNat ≤ 5 ^ 5 := Nat.le_trans (Nat.pow_le_pow_left (show c.gath.toNat ≤ 5 by omega) _) (Nat.pow_le_pow_right (by omega) (by omega))
    omega
  have hW : waysR c l = (ordersL c).filter fun o => l.any fun x => decide (x.2 = o) := rfl
  generalize waysR c l = W at *
  generalize ordersL c = A at *
  obtain ⟨q, hq⟩ : ∃ q : List Int → Bool, q = fun o => l.any fun x => decide (x.2 = o) := ⟨_, rfl⟩
  rw [← hq] at hW
  simp -implicitDefEqProofs [m58]
  refine vCall_of hall ?_
  simp -implicitDefEqProofs
  refine loop_up A.length (fun k s => s.env 1 = TL c l ∧ s.env 5 = ILL A ∧ s.env 6 = .slice 1 (((A.take k).filter q).map IL) 7 ∧ s.env 7 = I k) ?_ ?_
  · simp
  rintro k s hk ⟨e1, e5, e6, e7⟩
  simp -implicitDefEqProofs [e5, e7]
  refine cond_dec (fun hlt => ?_) (fun hge => ?_)
  · have hlt : k < A.length := by omega
    have htk := take_snoc hlt
    have hfl : ((A.take k).filter q).length ≤ 3125 := by
      have h1 := List.length_filter_le q (A.take k)
      rw [List.length_take] at h1
      omega
    generalize ho : A[k] = o at *
    have hfs : (A.take (k + 1)).filter q = (A.take k).filter q ++ if q o then [o] else [] := by
      rw [htk, List.filter_append]
      by_cases h : q o <;> simp [h]
    simp -implicitDefEqProofs
    refine loop_up l.length (fun j s => s.env 1 = TL c l ∧ s.env 5 = ILL A ∧ s.env 6 = .slice 1 (((A.take k).filter q).map IL) 7 ∧ s.env 7 = I k ∧ s.env 8 = I j ∧ (∀ x ∈ l.take j, ¬ x.2 = o)) ?_ ?_
    · simp [e1, e5, e6, e7]
    rintro j s hj ⟨e1, e5, e6, e7, e8, hno⟩
    simp -implicitDefEqProofs [e1, e8]
    refine cond_dec (fun hlt2 => ?_) (fun hge2 => ?_)
    · have hlt2 : j < l.length := by omega
      have hi := ints_ok l[j].2 o
      simp -implicitDefEqProofs [e1, e5, e7, e8, hlt, hlt2, ho]
      refine vCall_of hi ?_
      by_cases heq : l[j].2 = o
      · have hqo : q o = true := by
          rw [hq]
          simp only [List.any_eq_true]
          exact ⟨l[j], List.getElem_mem hlt2, by simp [heq]⟩
        rw [if_pos hqo] at hfs
        simp -implicitDefEqProofs [e5, e6, e7, hlt, ho, heq]
        refine ⟨by omega, by omega, i64 (by omega) (by omega), round_ok hlt ?_⟩
        simp [e1, e5, hfs]
      · simp -implicitDefEqProofs [e8, heq]
        refine ⟨i64 (by omega) (by omega), round_ok hlt2 ?_⟩
        simp [e1, e5, e6, e7]
        intro a b hx
        rw [take_snoc hlt2, List.mem_append, List.mem_singleton] at hx
        rcases hx with hx | hx
        · exact hno _ hx
        · rw [← hx] at heq; exact heq
    · obtain rfl : j = l.length := by omega
      rw [List.take_length] at hno
      have hqo : q o = false := by
        rw [hq]
        simp only [List.any_eq_false]
        intro x hx
        simpa using hno x hx
      rw [if_neg (by rw [hqo]; simp), List.append_nil] at hfs
      simp -implicitDefEqProofs [e7]
      refine ⟨i64 (by omega) (by omega), round_ok hlt ?_⟩
      simp [e1, e5, e6, hfs]
  · obtain rfl : k = A.length := by omega
    rw [List.take_length, ← hW] at e6
    simp -implicitDefEqProofs [e6, r58]
end Go.Proofs.Ytbcfmfiolbcclaa

namespace Go.Proofs.Ytbcfmfiolbcclaa
open Go.Avm

theorem some_zero {c : Case} {e : Int} (h : (someL c e).2 = 0) : e = 0 ∧ truR c ≠ [] ∧ (someL c e).1 = truR c := by
  unfold someL at h ⊢
  by_cases he : e = 0
  · rw [if_neg (by simpa using he)] at h ⊢
    by_cases hz : truR c = []
    · rw [if_pos hz] at h; cases h
    · rw [if_neg hz]; exact ⟨he, hz, rfl⟩
  · rw [if_pos he] at h; exact absurd h he

end Go.Proofs.Ytbcfmfiolbcclaa

namespace Go.Proofs.Ytbcfmfiolbcclaa
open Go.Avm

def hasAt (c : Case) (g : Int) (s : Nat) (x : List Int × List Int) : Bool := decide ((s : Int) ∈ (placesL c x.1).getD (at' x.2 g).toNat [])
def manyN (c : Case) (g : Int) (s : Nat) (l : List (List Int × List Int)) : Nat := (l.filter (hasAt c g s)).length
theorem manyN_snoc (c : Case) (g : Int) (s : Nat) (l : List (List Int × List Int)) (x : List Int × List Int) : manyN c g s (l ++ [x]) = manyN c g s l + if hasAt c g s x then 1 else 0 := by
  unfold manyN
  rw [List.filter_append, List.length_append]
  by_cases h : hasAt c g s x <;> simp [h]
theorem manyN_le (c : Case) (g : Int) (s : Nat) (l : List (List Int × List Int)) : manyN c g s l ≤ l.length := List.length_filter_le _ _
def sureQ (c : Case) (l : List (List Int × List Int)) (g : Int) (s : Nat) : Bool := decide (manyN c g s l = l.length)
def mayQ (c : Case) (l : List (List Int × List Int)) (g : Int) (s : Nat) : Bool := decide (0 < manyN c g s l)
def sureR (c : Case) (l : List (List Int × List Int)) (g : Int) : List Int := selT (sureQ c l g) c.stocks.length
def mayR (c : Case) (l : List (List Int × List Int)) (g : Int) : List Int := selT (mayQ c l g) c.stocks.length

theorem both62_ok {c : Case} (h : c.OK) {l : List (List Int × List Int)} (hll : l.length ≤ 253125) (hl : ∀ x ∈ l, x.2 ∈ ordersL c) {g : Int} (hg : 0 ≤ g ∧ g < c.gath) :
    PCall Try.prog 62 [encCase c, TL c l, I g] (.tuple [IL (sureR c l g), IL (mayR c l g)]) := by
  refine pcall Try.func62 tr62 rs62 fn62 (by simp [Try.ntmps62]) fun _ => ?_
  have hs4 := h.stocks
  have hS : sureR c l g = selT (sureQ c l g) c.stocks.length := rfl
  have hM : mayR c l g = selT (mayQ c l g) c.stocks.length := rfl
  rw [hS, hM]
  simp -implicitDefEqProofs [m62]
  refine loop_up c.stocks.length (fun t s => s.env 3 = caseRef c ∧ s.env 1 = TL c l ∧ s.env 2 = I g ∧ s.env 8 = .slice 1 ((selT (sureQ c l g) t).map I) 9 ∧ s.env 9 = .slice 1 ((selT (mayQ c l g) t).map I) 10 ∧ s.env 10 = I t) ?_ ?_
  · simp [selT_zero]
  rintro t s ht ⟨e3, e1, e2, e8, e9, e10⟩
  simp -implicitDefEqProofs [e3, e10]
  refine cond_dec (fun hlt => ?_) (fun hge => ?_)
  · have hlt : t < c.stocks.length := by omega
    have hsl := selT_len (sureQ c l g) t
    have hml := selT_len (mayQ c l g) t
    simp -implicitDefEqProofs
    refine loop_up l.length (fun k s => s.env 3 = caseRef c ∧ s.env 1 = TL c l ∧ s.env 2 = I g ∧ s.env 8 = .slice 1 ((selT (sureQ c l g) t).map I) 9 ∧ s.env 9 = .slice 1 ((selT (mayQ c l g) t).map I) 10 ∧ s.env 10 = I t ∧
      s.env 11 = I (manyN c g t (l.take k)) ∧ s.env 12 = I k) ?_ ?_
    · simp [e3, e1, e2, e8, e9, e10, manyN]
    rintro k s hk ⟨e3, e1, e2, e8, e9, e10, e11, e12⟩
    simp -implicitDefEqProofs [e1, e12]
    refine cond_dec (fun hlt2 => ?_) (fun hge2 => ?_)
    · have hlt2 : k < l.length := by omega
      have hm := manyN_snoc c g t (l.take k) l[k]
      rw [← take_snoc hlt2] at hm
      have hml := manyN_le c g t (l.take k)
      rw [List.length_take] at hml
      have hin := hl _ (List.getElem_mem hlt2)
      have hoe := (allO_each _ _ _ hin).1
      have ha := at_ok l[k].2 g
      have hpl := placesL_len c l[k].1
      obtain ⟨q, hq1, hq2, -⟩ := at_mem (order_mem h hin hg)
      have hqp : q < (placesL c l[k].1).length := by rw [hpl]; omega
      have hh := has_ok (placesL c l[k].1)[q] t
      have hat : hasAt c g t l[k] = decide ((t : Int) ∈ (placesL c l[k].1)[q]) := by unfold hasAt; rw [hq2]; simp [hqp]
      rw [← hat] at hh
      rw [hq2] at ha
      simp -implicitDefEqProofs [e1, e2, e12, hlt2]
      refine vCall_of ha ?_
      simp -implicitDefEqProofs [e10, hqp]
      refine vCall_of hh ?_
      simp -implicitDefEqProofs
      refine cond_bool (fun hb => ?_) (fun hb => ?_)
      · rw [if_pos hb] at hm
        simp -implicitDefEqProofs [e11, e12]
        refine ⟨i64 (by omega) (by omega), i64 (by omega) (by omega), round_ok hlt2 ?_⟩
        simp [e3, e1, e2, e8, e9, e10, hm]
      · rw [if_neg (by rw [hb]; simp)] at hm
        simp -implicitDefEqProofs [e12]
        refine ⟨i64 (by omega) (by omega), round_ok hlt2 ?_⟩
        simp [e3, e1, e2, e8, e9, e10, e11, hm]
    · obtain rfl : k = l.length := by omega
      rw [List.take_length] at e11
      have hs1 := selT_succ (sureQ c l g) t
      have hs2 := selT_succ (mayQ c l g) t
      by_cases hm : manyN c g t l = l.length
      · have hq1 : sureQ c l g t = true := by simp [sureQ, hm]
        rw [if_pos hq1] at hs1
        by_cases hz : 0 < manyN c g t l
        · have hq2 : mayQ c l g t = true := by simp [mayQ, hz]
          rw [if_pos hq2] at hs2
          rw [hm] at hz e11
          simp -implicitDefEqProofs [e1, e8, e9, e10, e11, hz]
          refine ⟨by omega, by omega, by omega, by omega, i64 (by omega) (by omega), round_ok hlt ?_⟩
          simp [e3, e1, e2, hs1, hs2]
        · have hq2 : mayQ c l g t = false := by simp [mayQ, hz]
          rw [if_neg (by rw [hq2]; simp), List.append_nil] at hs2
          rw [hm] at hz e11
          simp -implicitDefEqProofs [e1, e8, e10, e11, hz]
          refine ⟨by omega, by omega, i64 (by omega) (by omega), round_ok hlt ?_⟩
          simp [e3, e1, e2, e9, hs1, hs2]
      · have hq1 : sureQ c l g t = false := by simp [sureQ, hm]
        have hm' : ((manyN c g t l : Int) == (l.length : Int)) = false := by simp; omega
        rw [if_neg (by rw [hq1]; simp), List.append_nil] at hs1
        by_cases hz : 0 < manyN c g t l
        · have hq2 : mayQ c l g t = true := by simp [mayQ, hz]
          rw [if_pos hq2] at hs2
          simp -implicitDefEqProofs [e1, e9, e10, e11, hz, hm']
          refine ⟨by omega, by omega, i64 (by omega) (by omega), round_ok hlt ?_⟩
          simp [e3, e1, e2, e8, hs1, hs2]
        · have hq2 : mayQ c l g t = false := by simp [mayQ, hz]
          rw [if_neg (by rw [hq2]; simp), List.append_nil] at hs2
          simp -implicitDefEqProofs [e1, e10, e11, hz, hm']
          refine ⟨i64 (by omega) (by omega), round_ok hlt ?_⟩
          simp [e3, e1, e2, e8, e9, hs1, hs2]
  · obtain rfl : t = c.stocks.length := by omega
    simp -implicitDefEqProofs [e8, e9, r62]

def stE (c : Case) (g : Int) : Int := if errE c = 0 ∧ ¬ (0 ≤ g ∧ g ≤ c.gath - 1) then 4 else errE c
theorem stE_zero {c : Case} {g : Int} (h : stE c g = 0) : c.OK ∧ 0 ≤ g ∧ g < c.gath := by
  unfold stE at h
  split at h
  · cases h
  · rename_i hn
    refine ⟨err_ok h, ?_⟩
    by_cases hg : 0 ≤ g ∧ g ≤ c.gath - 1
    · omega
    · exact absurd ⟨h, hg⟩ hn
def stocksR (c : Case) (g : Int) : List Int × List Int × Int := if (someL c (stE c g)).2 ≠ 0 then ([], [], (someL c (stE c g)).2) else (sureR c (someL c (stE c g)).1 g, mayR c (someL c (stE c g)).1 g, 0)

theorem mem_truR {c : Case} {x : List Int × List Int} : x ∈ truR c ↔ x.1 ∈ pilesL c ∧ x.2 ∈ ordersL c ∧ agrB c [] (placesL c x.1) x.2 = true := by
  obtain ⟨p, o⟩ := x
  simp only [truR, truROn, truROf, List.mem_flatMap, List.mem_map, List.mem_filter, Prod.mk.injEq]
  constructor
  · rintro ⟨p', h1, o', ⟨h2, h3⟩, rfl, rfl⟩; exact ⟨h1, h2, h3⟩
  · rintro ⟨h1, h2, h3⟩; exact ⟨p, h1, o, ⟨h2, h3⟩, rfl, rfl⟩

theorem stocks24_ok (c : Case) (g : Int) : PCall Try.prog 24 [encCase c, I g] (.tuple [IL (stocksR c g).1, IL (stocksR c g).2.1, I (stocksR c g).2.2]) := by
  refine pcall Try.func24 tr24 rs24 fn24 (by simp [Try.ntmps24]) fun _ => ?_
  have hc := checkR_ok c
  have hz := stE_zero (c := c) (g := g)
  have hs := some57_ok c (stE c g) fun h => (hz h).1
  have hgg : errE c = 0 → 1 ≤ c.gath ∧ c.gath ≤ 5 := fun h => (err_ok h).gath
  have hb : (someL c (stE c g)).2 = 0 → PCall Try.prog 62 [encCase c, TL c (someL c (stE c g)).1, I g] (.tuple [IL (sureR c (someL c (stE c g)).1 g), IL (mayR c (someL c (stE c g)).1 g)]) := fun h => by
    obtain ⟨h1, -, h2⟩ := some_zero h
    rw [h2]
    exact both62_ok (hz h1).1 (truR_len (hz h1).1) (fun x hx => (mem_truR.1 hx).2.1) (hz h1).2
  have i1 := in_ok g 0 (c.gath - 1)
  have hE1 : stE c g = if errE c = 0 ∧ ¬ (0 ≤ g ∧ g ≤ c.gath - 1) then 4 else errE c := rfl
  have hR : stocksR c g = if (someL c (stE c g)).2 ≠ 0 then ([], [], (someL c (stE c g)).2) else (sureR c (someL c (stE c g)).1 g, mayR c (someL c (stE c g)).1 g, 0) := rfl
  obtain ⟨E, hE⟩ : ∃ E, E = errE c := ⟨_, rfl⟩
  have hc : PCall Try.prog 16 [encCase c] (.tuple [I (checkS c).1, I (checkS c).2.1, I E]) := by rw [hE]; exact hc
  rw [← hE] at hE1 hgg
  generalize stE c g = e1 at *
  generalize someL c e1 = L at *
  obtain ⟨l, e3⟩ := L
  simp only at hs hR hb
  generalize stocksR c g = R at *
  unfold m24
  refine cutS (fun s => s.env 2 = caseRef c ∧ s.env 1 = I g) ?_ ?_
  · intro k hk
    simp -implicitDefEqProofs
    exact hk _ (by simp)
  rintro s ⟨h2, h1⟩
  refine cutS (fun s => s.env 2 = caseRef c ∧ s.env 1 = I g ∧ s.env 9 = I E) ?_ ?_
  · intro k hk
    simp -implicitDefEqProofs [h2]
    refine vCall_of hc ?_
    simp -implicitDefEqProofs
    exact hk _ (by simp [h2, h1])
  clear h1 h2
  rintro s ⟨h2, h1, h9⟩
  refine cutS (fun s => s.env 2 = caseRef c ∧ s.env 1 = I g ∧ s.env 9 = I e1) ?_ ?_
  · intro k hk
    by_cases hE0 : E = 0
    · have hg := hgg hE0
      subst hE0
      by_cases hx : 0 ≤ g ∧ g ≤ c.gath - 1
      · rw [if_neg (by simp [hx])] at hE1
        rw [decide_eq_true hx] at i1
        simp -implicitDefEqProofs [h1, h2, h9]
        refine ⟨i64 (by omega) (by omega), vCall_of i1 ?_⟩
        simp -implicitDefEqProofs
        exact hk _ (by simp [h1, h2, h9, hE1])
      · rw [if_pos (by simp [hx])] at hE1
        rw [decide_eq_false hx] at i1
        simp -implicitDefEqProofs [h1, h2, h9]
        refine ⟨i64 (by omega) (by omega), vCall_of i1 ?_⟩
        simp -implicitDefEqProofs
        exact hk _ (by simp [h1, h2, hE1])
    · rw [if_neg (by simp [hE0])] at hE1
      have hE0' : (E == 0) = false := by simpa using hE0
      simp -implicitDefEqProofs [h9, hE0']
      exact hk _ (by simp [h1, h2, h9, hE1])
  clear h1 h2 h9
  rintro s ⟨h2, h1, h9⟩
  refine cutS (fun s => s.env 2 = caseRef c ∧ s.env 1 = I g ∧ s.env 10 = TL c l ∧ s.env 9 = I e3) ?_ ?_
  · intro k hk
    simp -implicitDefEqProofs [h2, h9]
    refine vCall_of hs ?_
    simp -implicitDefEqProofs
    exact hk _ (by simp [h1, h2])
  clear h1 h2 h9
  rintro s ⟨h2, h1, h10, h9⟩
  by_cases he3 : e3 = 0
  case neg =>
    rw [if_pos he3] at hR
    have he3' : (e3 != 0) = true := by simpa using he3
    simp -implicitDefEqProofs [h9, he3', r24, hR]
  rw [if_neg (by simpa using he3)] at hR
  have he3' : (e3 != 0) = false := by simpa using he3
  simp -implicitDefEqProofs [h9, he3', h1, h2, h10]
  refine vCall_of (hb he3) ?_
  simp -implicitDefEqProofs [r24, hR]

/-- A span with one more number. -/
def withS (s : Int × Int) (n : Int) : Int × Int := if s.2 < s.1 then (n, n) else (min s.1 n, max s.2 n)
theorem with66_ok (s : Int × Int) (n : Int) : PCall Try.prog 66 [Span2 s.1 s.2, I n] (Span2 (withS s n).1 (withS s n).2) := by
  refine pcall Try.func66 tr66 rs66 fn66 (by simp [Try.ntmps66]) fun _ => ?_
  obtain ⟨lo, hi⟩ := s
  have hR : withS (lo, hi) n = if hi < lo then (n, n) else (min lo n, max hi n) := rfl
  generalize withS (lo, hi) n = R at *
  simp -implicitDefEqProofs [m66]
  intro b
  by_cases hlt : hi < lo
  · rw [if_pos hlt] at hR
    simp -implicitDefEqProofs [hlt, r66, hR]
  · rw [if_neg hlt] at hR
    simp -implicitDefEqProofs [hlt, r66, hR]
    omega
end Go.Proofs.Ytbcfmfiolbcclaa

namespace Go.Proofs.Ytbcfmfiolbcclaa
open Go.Avm

/-- A span of what is taken of each truth. -/
def wspan (f : List Int × List Int → Int) (l : List (List Int × List Int)) : Int × Int := l.foldl (fun s x => withS s (f x)) (1, 0)
theorem wspan_snoc (f : List Int × List Int → Int) (l : List (List Int × List Int)) (x : List Int × List Int) : wspan f (l ++ [x]) = withS (wspan f l) (f x) := by simp [wspan]
def leftR (c : Case) : LeftR := if (someL c (errE c)).2 ≠ 0 then ⟨0, 0, 0, 0, (someL c (errE c)).2⟩ else
  ⟨(wspan (leftOf c) (someL c (errE c)).1).1, (wspan (leftOf c) (someL c (errE c)).1).2, (wspan (begunOf c) (someL c (errE c)).1).1, (wspan (begunOf c) (someL c (errE c)).1).2, 0⟩

theorem left27_ok (c : Case) : PCall Try.prog 27 [encCase c] (leftR c).av := by
  refine pcall Try.func27 tr27 rs27 fn27 (by simp [Try.ntmps27]) fun _ => ?_
  have hc := checkR_ok c
  have hs := some57_ok c (errE c) err_ok
  have hz := some_zero (c := c) (e := errE c)
  have hR : leftR c = if (someL c (errE c)).2 ≠ 0 then ⟨0, 0, 0, 0, (someL c (errE c)).2⟩ else
    ⟨(wspan (leftOf c) (someL c (errE c)).1).1, (wspan (leftOf c) (someL c (errE c)).1).2, (wspan (begunOf c) (someL c (errE c)).1).1, (wspan (begunOf c) (someL c (errE c)).1).2, 0⟩ := rfl
  generalize someL c (errE c) = L at *
  obtain ⟨l, e⟩ := L
  simp only at hs hz hR
  generalize leftR c = R at *
  simp -implicitDefEqProofs [m27]
  intro b2 b3 h23
  have n32 : ¬ b2 = b3 := fun e => h23 e.symm
  refine vCall_of hc ?_
  simp -implicitDefEqProofs
  refine vCall_of hs ?_
  simp -implicitDefEqProofs
  refine cond_bool (fun h => ?_) (fun h => ?_)
  · have h : ¬ e = 0 := by simpa using h
    rw [if_pos h] at hR
    simp -implicitDefEqProofs [n32, h23, r27, hR]
  have h : e = 0 := by simpa using h
  obtain ⟨h1, h2, h3⟩ := hz h
  have hok := err_ok h1
  have hrg := run_gath hok
  subst h
  rw [if_neg (by simp)] at hR
  have hll : l.length ≤ 253125 := by rw [h3]; exact truR_len hok
  have hpo : ∀ x ∈ l, PileOK c x.1 := fun x hx => by rw [h3] at hx; exact pilesL_ok hok (mem_truR.1 hx).1
  simp -implicitDefEqProofs
  refine ⟨i64 (by omega) (by omega), fun b10 h10 b11 h11 => ?_⟩
  have n103 : ¬ b10 = b3 := by rintro rfl; simp at h10
  have n102 : ¬ b10 = b2 := by rintro rfl; simp [n103] at h10
  have n1110 : ¬ b11 = b10 := by rintro rfl; simp at h11
  have n113 : ¬ b11 = b3 := by rintro rfl; simp [n1110] at h11
  have n112 : ¬ b11 = b2 := by rintro rfl; simp [n1110, n113] at h11
  have m310 : ¬ b3 = b10 := fun e => n103 e.symm
  have m210 : ¬ b2 = b10 := fun e => n102 e.symm
  have m1011 : ¬ b10 = b11 := fun e => n1110 e.symm
  have m311 : ¬ b3 = b11 := fun e => n113 e.symm
  have m211 : ¬ b2 = b11 := fun e => n112 e.symm
  clear h10 h11
  simp -implicitDefEqProofs [n1110]
  refine loop_up l.length (fun k s => s.env 2 = .mref b2 0 ∧ s.env 3 = .mref b3 0 ∧ s.env 8 = TL c l ∧ s.env 9 = I (c.run * c.gath) ∧ s.env 10 = .mref b10 0 ∧ s.env 11 = .mref b11 0 ∧ s.env 12 = I k ∧
    s.loc b2 = some [I 0, I 0] ∧ s.loc b3 = some [I 0, I 0] ∧ s.loc b10 = some [I (wspan (leftOf c) (l.take k)).1, I (wspan (leftOf c) (l.take k)).2] ∧ s.loc b11 = some [I (wspan (begunOf c) (l.take k)).1, I (wspan (begunOf c) (l.take k)).2]) ?_ ?_
  · simp [n32, h23, n103, n102, n1110, n113, n112, m310, m210, m1011, m311, m211, wspan]
  rintro k s hk ⟨e2, e3, e8, e9, e10, e11, e12, l2, l3, l10, l11⟩
  simp -implicitDefEqProofs [e8, e12]
  refine cond_dec (fun hlt => ?_) (fun hge => ?_)
  · have hlt : k < l.length := by omega
    have hp := hpo _ (List.getElem_mem hlt)
    have s1 := wspan_snoc (leftOf c) (l.take k) l[k]
    have s2 := wspan_snoc (begunOf c) (l.take k) l[k]
    rw [← take_snoc hlt] at s1 s2
    have hsum : ∀ j, inK .i64 (l[k].1.take j).sum := fun j => by have := hp.sum hok j; exact i64 (by omega) (by omega)
    have hsl := hp.sum hok l[k].1.length
    rw [List.take_length] at hsl
    have ht := total_ok l[k].1 hsum
    have hu := used_ok l[k].1 (c.run * c.gath) hsum
    have w1 := with66_ok (wspan (leftOf c) (l.take k)) (leftOf c l[k])
    have w2 := with66_ok (wspan (begunOf c) (l.take k)) (begunOf c l[k])
    rw [← s1] at w1
    rw [← s2] at w2
    have d1 : leftOf c l[k] = l[k].1.sum - c.run * c.gath := rfl
    have d2 : begunOf c l[k] = used l[k].1 0 (c.run * c.gath) := rfl
    rw [d1] at w1
    rw [d2] at w2
    simp -implicitDefEqProofs [e8, e9, e10, e12, l10, hlt]
    refine vCall_of ht ?_
    simp -implicitDefEqProofs [e9]
    refine ⟨i64 (by omega) (by omega), vCall_of w1 ?_⟩
    simp -implicitDefEqProofs [e8, e9, e10, e11, e12, l10, l11, hlt, m1011, n1110]
    refine vCall_of hu ?_
    simp -implicitDefEqProofs
    refine vCall_of w2 ?_
    simp -implicitDefEqProofs [e11, e12, l11, n1110]
    refine ⟨i64 (by omega) (by omega), round_ok hlt ?_⟩
    simp [e2, e3, e8, e9, e10, e11, l2, l3, n103, n102, n1110, n113, n112, m310, m210, m1011, m311, m211]
  · obtain rfl : k = l.length := by omega
    rw [List.take_length] at l10 l11
    simp -implicitDefEqProofs [e2, e3, e10, e11, l2, l3, l10, l11, n32, h23, n112, r27, hR]

/-- The latest of some years of stocks, from one on. -/
def latG (f : Stock → Int) (c : Case) (l : List Int) (a : Int) : Int := l.foldl (fun a i => max a ((c.stocks.map f).getD i.toNat 0)) a
theorem latG_snoc (f : Stock → Int) (c : Case) (l : List Int) (a i : Int) : latG f c (l ++ [i]) a = max (latG f c l a) ((c.stocks.map f).getD i.toNat 0) := by simp [latG]
def latF (f : Stock → Int) (c : Case) (pl : List (List Int)) : Int := pl.foldl (fun a l => latG f c l a) 0
theorem latF_snoc (f : Stock → Int) (c : Case) (pl : List (List Int)) (l : List Int) : latF f c (pl ++ [l]) = latG f c l (latF f c pl) := by simp [latF]

theorem latest70_ok (c : Case) (pl : List (List Int)) (hl : pl.length ≤ 5) (hpl : ∀ l ∈ pl, l.length ≤ 4 ∧ ∀ x ∈ l, 0 ≤ x ∧ x < c.stocks.length) :
    PCall Try.prog 70 [encCase c, ILL pl] (Span2 (latF Stock.lo c pl) (latF Stock.hi c pl)) := by
  refine pcall Try.func70 tr70 rs70 fn70 (by simp [Try.ntmps70]) fun _ => ?_
  simp -implicitDefEqProofs [m70]
  intro b4 b5 h54
  have n45 : ¬ b4 = b5 := fun e => h54 e.symm
  refine loop_up pl.length (fun k s => s.env 2 = caseRef c ∧ s.env 1 = ILL pl ∧ s.env 4 = .mref b4 0 ∧ s.env 5 = .mref b5 0 ∧ s.env 6 = I k ∧ s.loc b4 = some [I 0, I 0] ∧ s.loc b5 = some [I (latF Stock.lo c (pl.take k)), I (latF Stock.hi c (pl.take k))]) ?_ ?_
  · simp [n45, latF]
  rintro k s hk ⟨e2, e1, e4, e5, e6, l4, l5⟩
  simp -implicitDefEqProofs [e1, e6]
  refine cond_dec (fun hlt => ?_) (fun hge => ?_)
  · have hlt : k < pl.length := by omega
    have hp := hpl _ (List.getElem_mem hlt)
    have s1 := latF_snoc Stock.lo c (pl.take k) pl[k]
    have s2 := latF_snoc Stock.hi c (pl.take k) pl[k]
    rw [← take_snoc hlt] at s1 s2
    generalize hpk : pl[k] = l at *
    generalize latF Stock.lo c (pl.take k) = A at *
    generalize latF Stock.hi c (pl.take k) = B at *
    simp -implicitDefEqProofs
    refine loop_up l.length (fun j s => s.env 2 = caseRef c ∧ s.env 1 = ILL pl ∧ s.env 4 = .mref b4 0 ∧ s.env 5 = .mref b5 0 ∧ s.env 6 = I k ∧ s.env 7 = I j ∧ s.loc b4 = some [I 0, I 0] ∧ s.loc b5 = some [I (latG Stock.lo c (l.take j) A), I (latG Stock.hi c (l.take j) B)]) ?_ ?_
    · simp [e1, e2, e4, e5, e6, l4, l5, latG]
    rintro j s hj ⟨e2, e1, e4, e5, e6, e7, l4, l5⟩
    simp -implicitDefEqProofs [e1, e6, e7, hlt, hpk]
    refine cond_dec (fun hlt2 => ?_) (fun hge2 => ?_)
    · have hlt2 : j < l.length := by omega
      have hx := hp.2 _ (List.getElem_mem hlt2)
      have w1 := latG_snoc Stock.lo c (l.take j) A l[j]
      have w2 := latG_snoc Stock.hi c (l.take j) B l[j]
      rw [← take_snoc hlt2] at w1 w2
      generalize hlj : l[j] = x at *
      obtain ⟨y, rfl⟩ : ∃ y : Nat, x = y := ⟨x.toNat, by omega⟩
      have hy : y < c.stocks.length := by omega
      simp [hy] at w1 w2
      simp -implicitDefEqProofs [e1, e2, e6, e7, hlt, hpk, hlt2, hlj, hy]
      intro b8 h8
      have n58 : ¬ b5 = b8 := by rintro rfl; rw [l5] at h8; cases h8
      have n48 : ¬ b4 = b8 := by rintro rfl; rw [l4] at h8; cases h8
      simp -implicitDefEqProofs [e5, e7, l5, n58]
      refine ⟨i64 (by omega) (by omega), round_ok hlt2 ?_⟩
      simp [e2, e1, e4, e5, e6, l4, n45, n48, w1, w2]
      omega
    · obtain rfl : j = l.length := by omega
      rw [List.take_length, ← s1, ← s2] at l5
      simp -implicitDefEqProofs [e6]
      refine ⟨i64 (by omega) (by omega), round_ok hlt ?_⟩
      simp [e2, e1, e4, e5, l4, l5]
  · obtain rfl : k = pl.length := by omega
    rw [List.take_length] at l5
    simp -implicitDefEqProofs [e4, e5, l4, l5, r70]

def wyear (c : Case) (l : List (List Int × List Int)) : Int × Int := l.foldl (fun s x => withS (withS s (latF Stock.lo c (placesL c x.1))) (latF Stock.hi c (placesL c x.1))) (1, 0)
theorem wyear_snoc (c : Case) (l : List (List Int × List Int)) (x : List Int × List Int) : wyear c (l ++ [x]) = withS (withS (wyear c l) (latF Stock.lo c (placesL c x.1))) (latF Stock.hi c (placesL c x.1)) := by simp [wyear]
def yearR (c : Case) : YearR := if (someL c (errE c)).2 ≠ 0 then ⟨0, 0, (someL c (errE c)).2⟩ else ⟨(wyear c (someL c (errE c)).1).1, (wyear c (someL c (errE c)).1).2, 0⟩

theorem placesL_each {c : Case} (h : c.OK) (p : List Int) : (placesL c p).length ≤ 5 ∧ ∀ l ∈ placesL c p, l.length ≤ 4 ∧ ∀ x ∈ l, 0 ≤ x ∧ x < c.stocks.length := by
  have hg := h.gath
  have hs := h.stocks
  refine ⟨by rw [placesL_len]; omega, fun l hl => ?_⟩
  unfold placesL placesUp at hl
  obtain ⟨k, -, rfl⟩ := List.mem_map.1 hl
  refine ⟨Nat.le_trans (stocksAt_len _ _ _ _) hs.2, fun x hx => ?_⟩
  unfold stocksAt at hx
  obtain ⟨j, hj, rfl⟩ := List.mem_map.1 hx
  have := List.mem_range.1 (List.mem_filter.1 hj).1
  omega

theorem year29_ok (c : Case) : PCall Try.prog 29 [encCase c] (yearR c).av := by
  refine pcall Try.func29 tr29 rs29 fn29 (by simp [Try.ntmps29]) fun _ => ?_
  have hc := checkR_ok c
  have hs := some57_ok c (errE c) err_ok
  have hz := some_zero (c := c) (e := errE c)
  have hR : yearR c = if (someL c (errE c)).2 ≠ 0 then ⟨0, 0, (someL c (errE c)).2⟩ else ⟨(wyear c (someL c (errE c)).1).1, (wyear c (someL c (errE c)).1).2, 0⟩ := rfl
  generalize someL c (errE c) = L at *
  obtain ⟨l, e⟩ := L
  simp only at hs hz hR
  generalize yearR c = R at *
  simp -implicitDefEqProofs [m29]
  intro b2
  refine vCall_of hc ?_
  simp -implicitDefEqProofs
  refine vCall_of hs ?_
  simp -implicitDefEqProofs
  refine cond_bool (fun h => ?_) (fun h => ?_)
  · have h : ¬ e = 0 := by simpa using h
    rw [if_pos h] at hR
    simp -implicitDefEqProofs [r29, hR]
  have h : e = 0 := by simpa using h
  obtain ⟨h1, h2, h3⟩ := hz h
  have hok := err_ok h1
  subst h
  rw [if_neg (by simp)] at hR
  have hll : l.length ≤ 253125 := by rw [h3]; exact truR_len hok
  simp -implicitDefEqProofs
  intro b8 h8
  have n28 : ¬ b2 = b8 := fun e => h8 e.symm
  refine loop_up l.length (fun k s => s.env 1 = caseRef c ∧ s.env 2 = .mref b2 0 ∧ s.env 7 = TL c l ∧ s.env 8 = .mref b8 0 ∧ s.env 9 = I k ∧ s.loc b2 = some [I 0, I 0] ∧ s.loc b8 = some [I (wyear c (l.take k)).1, I (wyear c (l.take k)).2]) ?_ ?_
  · simp [n28, wyear]
  rintro k s hk ⟨e1, e2, e7, e8, e9, l2, l8⟩
  simp -implicitDefEqProofs [e7, e9]
  refine cond_dec (fun hlt => ?_) (fun hge => ?_)
  · have hlt : k < l.length := by omega
    have s1 := wyear_snoc c (l.take k) l[k]
    rw [← take_snoc hlt] at s1
    have hpe := placesL_each hok l[k].1
    have hla := latest70_ok c (placesL c l[k].1) hpe.1 hpe.2
    have w1 := with66_ok (wyear c (l.take k)) (latF Stock.lo c (placesL c l[k].1))
    have w2 := with66_ok (withS (wyear c (l.take k)) (latF Stock.lo c (placesL c l[k].1))) (latF Stock.hi c (placesL c l[k].1))
    rw [← s1] at w2
    simp -implicitDefEqProofs [e1, e7, e9, hlt]
    refine vCall_of hla ?_
    simp -implicitDefEqProofs
    intro b10 h10
    have n810 : ¬ b8 = b10 := by rintro rfl; rw [l8] at h10; cases h10
    have n210 : ¬ b2 = b10 := by rintro rfl; rw [l2] at h10; cases h10
    simp -implicitDefEqProofs [e8, l8, n810]
    refine vCall_of w1 ?_
    simp -implicitDefEqProofs
    refine vCall_of w2 ?_
    simp -implicitDefEqProofs [e8, e9, l8, n810]
    refine ⟨i64 (by omega) (by omega), round_ok hlt ?_⟩
    simp [e1, e2, e7, e8, l2, n28, n210]
  · obtain rfl : k = l.length := by omega
    rw [List.take_length] at l8
    simp -implicitDefEqProofs [e2, e8, l2, l8, r29, hR]
end Go.Proofs.Ytbcfmfiolbcclaa

namespace Go.Proofs.Ytbcfmfiolbcclaa
open Go.Avm

/-- The lists that begin with one number. -/
def listsAt (m f b j : Nat) : List (List Int) := (listsN m (f + j + 1) b).map fun l => ((f + j : Nat) : Int) :: l
def listsUp (m f b k : Nat) : List (List Int) := (List.range k).flatMap (listsAt m f b)
theorem listsN_up (m f b : Nat) : listsN (m + 1) f b = listsUp m f b (b - m - f) := rfl
theorem listsUp_succ (m f b k : Nat) : listsUp m f b (k + 1) = listsUp m f b k ++ listsAt m f b k := by simp [listsUp, List.range_succ]
theorem listsN_each : ∀ (m f b : Nat), ∀ l ∈ listsN m f b, l.length = m
  | 0, f, b, l, h => by simp [listsN] at h; simp [h]
  | m + 1, f, b, l, h => by
    simp only [listsN, List.mem_flatMap, List.mem_map] at h
    obtain ⟨j, -, l', h', rfl⟩ := h
    simp [listsN_each m _ _ l' h']
theorem listsN_len : ∀ (m f b : Nat), b ≤ 8 → (listsN m f b).length ≤ 8 ^ m
  | 0, f, b, _ => by simp [listsN]
  | m + 1, f, b, hb => by
    have h1 := flat_len (fun j => (listsN m (f + j + 1) b).map fun l => ((f + j : Nat) : Int) :: l) (8 ^ m) (List.range (b - m - f)) fun j _ => by
      rw [List.length_map]; exact listsN_len m _ b hb
    rw [List.length_range] at h1
    refine Nat.le_trans h1 ?_
    rw [Nat.pow_succ, Nat.mul_comm]
    exact Nat.mul_le_mul_left _ (by omega)
theorem pow8 {m : Nat} (h : m ≤ 9) : 8 ^ m ≤ 134217728 := Nat.le_trans (Nat.pow_le_pow_right (by omega) h) (by decide)

def consUp (h : Int) (L : List (List Int)) (j : Nat) : List (List Int) := (L.take j).map fun l => h :: l
theorem consUp_zero (h : Int) (L : List (List Int)) : consUp h L 0 = [] := rfl
theorem consUp_succ {h : Int} {L : List (List Int)} {j : Nat} (hj : j < L.length) : consUp h L (j + 1) = consUp h L j ++ [h :: L[j]] := by
  unfold consUp; rw [take_snoc hj, List.map_append]; rfl
theorem consUp_len (h : Int) (L : List (List Int)) (j : Nat) : (consUp h L j).length ≤ L.length := by
  unfold consUp; rw [List.length_map, List.length_take]; omega

theorem lists73_ok : ∀ (m f b : Nat), b ≤ 8 → m ≤ 9 → f ≤ 9 → PCall Try.prog 73 [I f, I b, I m] (ILL (listsN m f b))
  | 0, f, b, _, _, _ => by
    refine pcall Try.func73 tr73 rs73 fn73 (by simp [Try.ntmps73]) fun _ => ?_
    simp -implicitDefEqProofs [m73, r73, listsN]
  | m + 1, f, b, hb, hm, hf => by
    refine pcall Try.func73 tr73 rs73 fn73 (by simp [Try.ntmps73]) fun _ => ?_
    have hm0 : ¬ ((m : Int) + 1 ≤ 0) := by omega
    rw [listsN_up]
    simp -implicitDefEqProofs [m73, hm0]
    refine loop_up (b - m - f) (fun k s => s.env 0 = I f ∧ s.env 1 = I b ∧ s.env 2 = I (m + 1) ∧ s.env 7 = .slice 1 ((listsUp m f b k).map IL) 8 ∧ s.env 8 = I (f + k)) ?_ ?_
    · simp [listsUp]
    rintro k s hk ⟨e0, e1, e2, e7, e8⟩
    by_cases hlt : k < b - m - f
    · have hle : (f : Int) + k + (m + 1) ≤ b := by omega
      have hsu := listsUp_succ m f b k
      have hat : listsAt m f b k = (listsN m (f + k + 1) b).map fun l => ((f + k : Nat) : Int) :: l := rfl
      have ih := lists73_ok m (f + k + 1) b hb (by omega) (by omega)
      have hlen := listsN_len m (f + k + 1) b hb
      have h8 := pow8 (m := m) (by omega)
      have hlu : (listsUp m f b k).length ≤ k * 8 ^ m := by
        have h1 := flat_len (listsAt m f b) (8 ^ m) (List.range k) fun j _ => by
          unfold listsAt; rw [List.length_map]; exact listsN_len m _ b hb
        rwa [List.length_range] at h1
      have hk8 : k * 8 ^ m ≤ 8 * 134217728 := Nat.mul_le_mul (by omega) h8
      have heach := listsN_each m (f + k + 1) b
      generalize listsN m (f + k + 1) b = L at *
      have ih : PCall Try.prog 73 [I ((f : Int) + k + 1), I b, I m] (ILL L) := by simpa using ih
      simp -implicitDefEqProofs [e0, e1, e2, e8, hle]
      refine ⟨i64 (by omega) (by omega), i64 (by omega) (by omega), i64 (by omega) (by omega), vCall_of ih ?_⟩
      simp -implicitDefEqProofs
      refine loop_up L.length (fun j s => s.env 0 = I f ∧ s.env 1 = I b ∧ s.env 2 = I (m + 1) ∧ s.env 7 = .slice 1 ((listsUp m f b k ++ consUp ((f : Int) + k) L j).map IL) 8 ∧ s.env 8 = I (f + k) ∧ s.env 9 = ILL L ∧ s.env 10 = I j) ?_ ?_
      · simp [e0, e1, e2, e7, e8, consUp_zero]
      rintro j s hj ⟨e0, e1, e2, e7, e8, e9, e10⟩
      simp -implicitDefEqProofs [e9, e10]
      refine cond_dec (fun hlt2 => ?_) (fun hge2 => ?_)
      · have hlt2 : j < L.length := by omega
        have he := heach _ (List.getElem_mem hlt2)
        have htj := consUp_succ (h := (f : Int) + k) hlt2
        have htl := consUp_len ((f : Int) + k) L j
        generalize hlj : L[j] = l at *
        simp -implicitDefEqProofs [e7, e8, e9, e10, hlt2, hlj]
        refine ⟨by omega, by omega, by omega, by omega, i64 (by omega) (by omega), round_ok hlt2 ?_⟩
        simp [e0, e1, e2, e8, e9, htj]
      · obtain rfl : j = L.length := by omega
        have hca : consUp ((f : Int) + k) L L.length = listsAt m f b k := by rw [hat]; unfold consUp; rw [List.take_length]; simp
        rw [hca, ← hsu] at e7
        simp -implicitDefEqProofs [e8]
        refine ⟨i64 (by omega) (by omega), round_ok hlt ?_⟩
        simp [e0, e1, e2, e7, Int.add_assoc]
    · obtain rfl : k = b - m - f := by omega
      have hle : ¬ (f : Int) + ((b - m - f : Nat) : Int) + (m + 1) ≤ b := by omega
      simp -implicitDefEqProofs [e1, e2, e8, hle, e7, r73]
      exact i64 (by omega) (by omega)

/-- Whether some pile and order agree, but for some of what is seen. -/
def offP (c : Case) (but : List Int) (p : List Int) (l : List (List Int)) : Bool := l.any (agrB c but (placesL c p))
def offB (c : Case) (but : List Int) : Bool := (pilesL c).any fun p => offP c but p (ordersL c)

theorem off74_ok {c : Case} (h : c.OK) (but : List Int) : PCall Try.prog 74 [encCase c, IL but] (B (offB c but)) := by
  refine pcall Try.func74 tr74 rs74 fn74 (by simp [Try.ntmps74]) fun _ => ?_
  have hp := piles_ok c h
  have hg := h.gath
  obtain ⟨g, hgn⟩ : ∃ g : Nat, c.gath = g := ⟨c.gath.toNat, by omega⟩
  have hgt : c.gath.toNat = g := by omega
  have hall := all_ok g (by omega)
  have hall : PCall Try.prog 77 [I c.gath] (ILL (ordersL c)) := by
    have e : ordersL c = allO g g := by unfold ordersL; rw [hgt]
    rw [e, hgn]; exact hall
  have hol := ordersL_len h
  have hpl := pilesL_len h
  obtain ⟨R, hR⟩ : ∃ R, R = offB c but := ⟨_, rfl⟩
  rw [← hR]
  unfold offB at hR
  simp -implicitDefEqProofs [m74]
  refine vCall_of hp ?_
  simp -implicitDefEqProofs
  refine vCall_of hall ?_
  simp -implicitDefEqProofs
  refine loop_up (pilesL c).length (fun k s => s.env 2 = caseRef c ∧ s.env 1 = IL but ∧ s.env 5 = ILL (pilesL c) ∧ s.env 6 = ILL (ordersL c) ∧ s.env 7 = I k ∧ (∀ p ∈ (pilesL c).take k, offP c but p (ordersL c) = false)) ?_ ?_
  · simp
  rintro k s hk ⟨e2, e1, e5, e6, e7, hno⟩
  simp -implicitDefEqProofs [e5, e7]
  refine cond_dec (fun hlt => ?_) (fun hge => ?_)
  · have hlt : k < (pilesL c).length := by omega
    have hpo := pilesL_ok h (List.getElem_mem hlt)
    have hpc := places_ok c h _ hpo
    have htk := take_snoc hlt
    have hmem := List.getElem_mem hlt
    generalize hpk : (pilesL c)[k] = p at *
    simp -implicitDefEqProofs [e2, e5, e7, hlt, hpk]
    refine vCall_of hpc ?_
    simp -implicitDefEqProofs
    refine loop_up (ordersL c).length (fun j s => s.env 2 = caseRef c ∧ s.env 1 = IL but ∧ s.env 5 = ILL (pilesL c) ∧ s.env 6 = ILL (ordersL c) ∧ s.env 7 = I k ∧ s.env 8 = ILL (placesL c p) ∧ s.env 9 = I j ∧
      (∀ o ∈ (ordersL c).take j, agrB c but (placesL c p) o = false)) ?_ ?_
    · simp [e1, e2, e5, e6, e7]
    rintro j s hj ⟨e2, e1, e5, e6, e7, e8, e9, hno2⟩
    simp -implicitDefEqProofs [e6, e9]
    refine cond_dec (fun hlt2 => ?_) (fun hge2 => ?_)
    · have hlt2 : j < (ordersL c).length := by omega
      have hoe := (allO_each _ _ _ (List.getElem_mem hlt2)).1
      have hag := agrees96_ok c h.seenLen but (placesL c p) (ordersL c)[j] (by rw [placesL_len, hoe]; exact Nat.le_refl _) (by omega)
      have htj := take_snoc hlt2
      have hmo := List.getElem_mem hlt2
      generalize hoj : (ordersL c)[j] = o at *
      simp -implicitDefEqProofs [e1, e2, e6, e8, e9, hlt2, hoj]
      refine vCall_of hag ?_
      simp -implicitDefEqProofs
      refine cond_bool (fun hb => ?_) (fun hb => ?_)
      · have hRt : R = true := by
          rw [hR, List.any_eq_true]
          exact ⟨p, hmem, by unfold offP; rw [List.any_eq_true]; exact ⟨o, hmo, hb⟩⟩
        simp -implicitDefEqProofs [r74, hRt]
      · simp -implicitDefEqProofs [e9]
        refine ⟨i64 (by omega) (by omega), round_ok hlt2 ?_⟩
        simp [e1, e2, e5, e6, e7, e8]
        intro a ha
        rw [htj, List.mem_append, List.mem_singleton] at ha
        rcases ha with ha | rfl
        · exact hno2 a ha
        · exact hb
    · obtain rfl : j = (ordersL c).length := by omega
      rw [List.take_length] at hno2
      simp -implicitDefEqProofs [e7]
      refine ⟨i64 (by omega) (by omega), round_ok hlt ?_⟩
      simp [e1, e2, e5, e6]
      intro a ha
      rw [htk, List.mem_append, List.mem_singleton] at ha
      rcases ha with ha | rfl
      · exact hno a ha
      · unfold offP
        rw [List.any_eq_false]
        intro o ho
        rw [hno2 o ho]; simp
  · obtain rfl : k = (pilesL c).length := by omega
    rw [List.take_length] at hno
    have hRf : R = false := by
      rw [hR, List.any_eq_false]
      intro p hp
      rw [hno p hp]; simp
    simp -implicitDefEqProofs [r74, hRf]

/-- The first list that passes, of fewer than so many numbers. -/
def firstUp (q : List Int → Bool) (n : Nat) : Nat → Option (List Int)
  | 0 => none
  | m + 1 => (firstUp q n m).or ((listsN m 0 n).find? q)
theorem firstUp_some {q : List Int → Bool} {n m : Nat} {l : List Int} (h : firstUp q n m = some l) : ∀ d, firstUp q n (m + d) = some l
  | 0 => h
  | d + 1 => by rw [show m + (d + 1) = (m + d) + 1 by omega, firstUp, firstUp_some h d]; rfl
def wrE (c : Case) : Int := if errE c = 0 ∧ pilesL c = [] then 9 else errE c
def wrongR (c : Case) : List Int × Int := if wrE c ≠ 0 then ([], wrE c) else
  (match firstUp (offB c) c.seen.length c.seen.length with
    | some l => l
    | none => (listsN c.seen.length 0 c.seen.length).getD 0 [], 0)
theorem wrE_zero {c : Case} (h : wrE c = 0) : errE c = 0 ∧ pilesL c ≠ [] := by
  unfold wrE at h
  split at h
  · cases h
  · rename_i hn
    exact ⟨h, fun e => hn ⟨h, e⟩⟩
theorem lists_one : ((List.range 9).all fun n => decide ((listsN n 0 n).length = 1)) = true := by decide +kernel
theorem lists_full {n : Nat} (h : n ≤ 8) : (listsN n 0 n).length = 1 := of_decide_eq_true (List.all_eq_true.1 lists_one n (by simp; omega))

theorem wrong31_ok (c : Case) : PCall Try.prog 31 [encCase c] (.tuple [IL (wrongR c).1, I (wrongR c).2]) := by
  refine pcall Try.func31 tr31 rs31 fn31 (by simp [Try.ntmps31]) fun _ => ?_
  have hc := checkR_ok c
  have hz := wrE_zero (c := c)
  have hp : errE c = 0 → PCall Try.prog 72 [encCase c] (ILL (pilesL c)) := fun h => piles_ok c (err_ok h)
  have h8 : errE c = 0 → c.seen.length ≤ 8 := fun h => (checkS_zero h).2.1
  have hE1 : wrE c = if errE c = 0 ∧ pilesL c = [] then 9 else errE c := rfl
  have hR : wrongR c = if wrE c ≠ 0 then ([], wrE c) else
    (match firstUp (offB c) c.seen.length c.seen.length with
      | some l => l
      | none => (listsN c.seen.length 0 c.seen.length).getD 0 [], 0) := rfl
  have hof : errE c = 0 → ∀ l, PCall Try.prog 74 [encCase c, IL l] (B (offB c l)) := fun h l => off74_ok (err_ok h) l
  obtain ⟨E, hE⟩ : ∃ E, E = errE c := ⟨_, rfl⟩
  have hc : PCall Try.prog 16 [encCase c] (.tuple [I (checkS c).1, I (checkS c).2.1, I E]) := by rw [hE]; exact hc
  rw [← hE] at hE1 hz hp h8 hof
  generalize wrE c = e1 at *
  generalize wrongR c = R at *
  generalize offB c = q at *
  unfold m31
  refine cutS (fun s => s.env 1 = caseRef c) ?_ ?_
  · intro k hk
    simp -implicitDefEqProofs
    exact hk _ (by simp)
  rintro s h1
  refine cutS (fun s => s.env 1 = caseRef c ∧ s.env 6 = I E) ?_ ?_
  · intro k hk
    simp -implicitDefEqProofs [h1]
    refine vCall_of hc ?_
    simp -implicitDefEqProofs
    exact hk _ (by simp [h1])
  clear h1
  rintro s ⟨h1, h6⟩
  refine cutS (fun s => s.env 1 = caseRef c ∧ s.env 6 = I e1) ?_ ?_
  · intro k hk
    by_cases hE0 : E = 0
    · subst hE0
      have hp := hp rfl
      by_cases hx : pilesL c = []
      · rw [if_pos (by simp [hx])] at hE1
        simp -implicitDefEqProofs [h1, h6]
        refine vCall_of hp ?_
        simp -implicitDefEqProofs [hx]
        exact hk _ (by simp [h1, hE1])
      · rw [if_neg (by simp [hx])] at hE1
        have hz' : (((pilesL c).length : Int) == 0) = false := by simp; exact hx
        simp -implicitDefEqProofs [h1, h6]
        refine vCall_of hp ?_
        simp -implicitDefEqProofs [hz']
        exact hk _ (by simp [h1, h6, hE1])
    · rw [if_neg (by simp [hE0])] at hE1
      have hE0' : (E == 0) = false := by simpa using hE0
      simp -implicitDefEqProofs [h6, hE0']
      exact hk _ (by simp [h1, h6, hE1])
  clear h1 h6
  rintro s ⟨h1, h6⟩
  by_cases he3 : e1 = 0
  case neg =>
    rw [if_pos he3] at hR
    have he3' : (e1 != 0) = true := by simpa using he3
    simp -implicitDefEqProofs [h6, he3', r31, hR]
  obtain ⟨hE0, hpn⟩ := hz he3
  have h8 := h8 hE0
  have hof := hof hE0
  rw [if_neg (by simpa using he3)] at hR
  have he3' : (e1 != 0) = false := by simpa using he3
  have hlf := lists_full h8
  obtain ⟨n, hn⟩ : ∃ n, n = c.seen.length := ⟨_, rfl⟩
  rw [← hn] at h8 hR hlf
  simp -implicitDefEqProofs [h6, he3']
  refine loop_up n (fun m s => s.env 1 = caseRef c ∧ s.env 7 = I m ∧ firstUp q n m = none) ?_ ?_
  · simp [h1, firstUp]
  rintro m s hm ⟨e1, e7, hno⟩
  simp -implicitDefEqProofs [e1, e7, ← hn]
  refine cond_dec (fun hlt => ?_) (fun hge => ?_)
  · have hlt : m < n := by omega
    have hl := lists73_ok m 0 n h8 (by omega) (by omega)
    have hll := listsN_len m 0 n h8
    have hp8 := pow8 (m := m) (by omega)
    have hfu : firstUp q n (m + 1) = (firstUp q n m).or ((listsN m 0 n).find? q) := rfl
    rw [hno, Option.none_or] at hfu
    generalize listsN m 0 n = L at *
    have hl : PCall Try.prog 73 [I 0, I n, I m] (ILL L) := hl
    simp -implicitDefEqProofs [e1, e7, ← hn]
    refine vCall_of hl ?_
    simp -implicitDefEqProofs
    refine loop_up L.length (fun j s => s.env 1 = caseRef c ∧ s.env 7 = I m ∧ s.env 8 = ILL L ∧ s.env 9 = I j ∧ (∀ l ∈ L.take j, q l = false)) ?_ ?_
    · simp [e1, e7]
    rintro j s hj ⟨e1, e7, e8, e9, hnj⟩
    simp -implicitDefEqProofs [e8, e9]
    refine cond_dec (fun hlt2 => ?_) (fun hge2 => ?_)
    · have hlt2 : j < L.length := by omega
      have ho := hof L[j]
      have htj := take_snoc hlt2
      simp -implicitDefEqProofs [e1, e8, e9, hlt2]
      refine vCall_of ho ?_
      simp -implicitDefEqProofs
      refine cond_bool (fun hb => ?_) (fun hb => ?_)
      · have hfi : L.find? q = some L[j] := by
          rw [List.find?_eq_some_iff_getElem]
          exact ⟨hb, j, hlt2, rfl, fun i hi => by
            rw [hnj _ (List.mem_take_iff_getElem.2 ⟨i, by omega, rfl⟩)]; rfl⟩
        rw [hfi] at hfu
        have hfn := firstUp_some hfu (n - (m + 1))
        rw [show m + 1 + (n - (m + 1)) = n by omega] at hfn
        rw [hfn] at hR
        simp -implicitDefEqProofs [e8, e9, hlt2, r31, hR]
      · simp -implicitDefEqProofs [e9]
        refine ⟨i64 (by omega) (by omega), round_ok hlt2 ?_⟩
        simp [e1, e7, e8]
        intro a ha
        rw [htj, List.mem_append, List.mem_singleton] at ha
        rcases ha with ha | rfl
        · exact hnj a ha
        · exact hb
    · obtain rfl : j = L.length := by omega
      rw [List.take_length] at hnj
      have hfi : L.find? q = none := by
        rw [List.find?_eq_none]
        intro l hl
        rw [hnj l hl]; simp
      rw [hfi] at hfu
      simp -implicitDefEqProofs [e7]
      refine ⟨i64 (by omega) (by omega), round_ok hlt ?_⟩
      simp [e1, hfu]
  · obtain rfl : m = n := by omega
    have hl := lists73_ok m 0 m h8 (by omega) (by omega)
    rw [hno] at hR
    generalize listsN m 0 m = L at *
    match L, hlf with
    | [l], _ =>
    have hl : PCall Try.prog 73 [I 0, I m, I m] (ILL [l]) := hl
    simp -implicitDefEqProofs [e1, ← hn]
    refine vCall_of hl ?_
    simp -implicitDefEqProofs [r31, hR]
end Go.Proofs.Ytbcfmfiolbcclaa

namespace Go.Proofs.Ytbcfmfiolbcclaa
open Go.Avm

theorem more45_ok (c : Case) (g x : Int) (hl : (c.seen.length + 1) * 16 ≤ 140737488355328) : PCall Try.prog 45 [encCase c, encSeen (g, x)] (encCase (moreC c g x)) := by
  refine pcall Try.func45 tr45 rs45 fn45 (by simp [Try.ntmps45]) fun _ => ?_
  have em : encCase (moreC c g x) = .agg [I c.run, .slice 3 (c.stocks.map encStock) 0, .slice 3 (c.reams.map encReam) 0, I c.gath, .slice 2 (c.seen.map encSeen ++ [.agg [I g, I x]]) 0] := by simp [moreC]
  rw [em]
  simp -implicitDefEqProofs [m45]
  intro b2 b4 hne
  have n24 : ¬ b2 = b4 := fun e => hne e.symm
  simp -implicitDefEqProofs [n24]
  refine ⟨by omega, by omega, by omega, by omega, ?_⟩
  simp -implicitDefEqProofs [hne, r45]

def waysM (c : Case) (g s : Int) : Int := (waysR (moreC c g s) (truR (moreC c g s))).length
def worstRL (c : Case) (g : Int) (l : List Int) : Int := l.foldl (fun a s => max a (waysM c g s)) 0
theorem worstRL_snoc (c : Case) (g : Int) (l : List Int) (s : Int) : worstRL c g (l ++ [s]) = max (worstRL c g l) (waysM c g s) := by simp [worstRL]
def worstR (c : Case) (l : List (List Int × List Int)) (g : Int) : Int := worstRL c g (mayR c l g)

theorem worst76_ok {c : Case} (h : c.OK) (h8 : c.seen.length ≤ 8) {l : List (List Int × List Int)} (hll : l.length ≤ 253125) (hl : ∀ x ∈ l, x.2 ∈ ordersL c) {g : Int} (hg : 0 ≤ g ∧ g < c.gath) :
    PCall Try.prog 76 [encCase c, TL c l, I g] (I (worstR c l g)) := by
  refine pcall Try.func76 tr76 rs76 fn76 (by simp [Try.ntmps76]) fun _ => ?_
  have hb := both62_ok h hll hl hg
  have hW : worstR c l g = worstRL c g (mayR c l g) := rfl
  have hs4 := h.stocks
  have hml : (mayR c l g).length ≤ c.stocks.length := selT_len _ _
  have hmm : ∀ s ∈ mayR c l g, 0 ≤ s ∧ s < c.stocks.length := fun s hs => by
    obtain ⟨j, rfl, h1, -⟩ := selT_mem hs
    omega
  generalize worstR c l g = R at *
  generalize sureR c l g = S at *
  generalize mayR c l g = M at *
  simp -implicitDefEqProofs [m76]
  refine vCall_of hb ?_
  simp -implicitDefEqProofs
  refine loop_up M.length (fun k s => s.env 3 = caseRef c ∧ s.env 2 = I g ∧ s.env 8 = IL M ∧ s.env 9 = I (worstRL c g (M.take k)) ∧ s.env 10 = I k) ?_ ?_
  · simp [worstRL]
  rintro k s hk ⟨e3, e2, e8, e9, e10⟩
  simp -implicitDefEqProofs [e8, e10]
  refine cond_dec (fun hlt => ?_) (fun hge => ?_)
  · have hlt : k < M.length := by omega
    have hx := hmm _ (List.getElem_mem hlt)
    have s1 := worstRL_snoc c g (M.take k) M[k]
    rw [← take_snoc hlt] at s1
    generalize hmk : M[k] = x at *
    have hmo := moreC_ok h h8 (g := g) (s := x) hg hx
    have hmc := more45_ok c g x (by omega)
    have htr := truths91_ok hmo
    have hwy := ways58_ok hmo.gath (truR (moreC c g x))
    have hwl : (waysR (moreC c g x) (truR (moreC c g x))).length ≤ 3125 := by
      have h1 : (waysR (moreC c g x) (truR (moreC c g x))).length ≤ (ordersL (moreC c g x)).length := List.length_filter_le _ _
      have h2 := ordersL_len hmo
      omega
    have hwm : waysM c g x = (waysR (moreC c g x) (truR (moreC c g x))).length := rfl
    rw [hwm] at s1
    generalize truR (moreC c g x) = T at *
    generalize waysR (moreC c g x) T = W at *
    generalize moreC c g x = d at *
    simp -implicitDefEqProofs [e2, e3, e8, e10, hlt, hmk]
    refine vCall_of hmc ?_
    simp -implicitDefEqProofs
    intro b11
    intro h11
    simp -implicitDefEqProofs [e9]
    refine vCall_of htr ?_
    simp -implicitDefEqProofs
    refine vCall_of hwy ?_
    simp -implicitDefEqProofs [e10]
    refine ⟨i64 (by omega) (by omega), round_ok hlt ?_⟩
    simp [e3, e2, e8, s1]
    omega
  · obtain rfl : k = M.length := by omega
    rw [List.take_length, ← hW] at e9
    simp -implicitDefEqProofs [e9, r76]

def askRUp (c : Case) (l : List (List Int × List Int)) : Nat → Int × Int
  | 0 => (-1, 0)
  | g + 1 => if (askRUp c l g).1 < 0 ∨ worstR c l g < (askRUp c l g).2 then ((g : Int), worstR c l g) else askRUp c l g
def askR (c : Case) : AskR := if (someL c (errE c)).2 ≠ 0 then ⟨0, 0, (someL c (errE c)).2⟩ else ⟨(askRUp c (someL c (errE c)).1 c.gath.toNat).1, (askRUp c (someL c (errE c)).1 c.gath.toNat).2, 0⟩

theorem ask33_ok (c : Case) : PCall Try.prog 33 [encCase c] (.tuple [I (askR c).g, I (askR c).n, I (askR c).e]) := by
  refine pcall Try.func33 tr33 rs33 fn33 (by simp [Try.ntmps33]) fun _ => ?_
  have hc := checkR_ok c
  have hs := some57_ok c (errE c) err_ok
  have hz := some_zero (c := c) (e := errE c)
  have hR : askR c = if (someL c (errE c)).2 ≠ 0 then ⟨0, 0, (someL c (errE c)).2⟩ else ⟨(askRUp c (someL c (errE c)).1 c.gath.toNat).1, (askRUp c (someL c (errE c)).1 c.gath.toNat).2, 0⟩ := rfl
  generalize someL c (errE c) = L at *
  obtain ⟨l, e⟩ := L
  simp only at hs hz hR
  generalize askR c = R at *
  simp -implicitDefEqProofs [m33]
  refine vCall_of hc ?_
  simp -implicitDefEqProofs
  refine vCall_of hs ?_
  simp -implicitDefEqProofs
  refine cond_bool (fun h => ?_) (fun h => ?_)
  · have h : ¬ e = 0 := by simpa using h
    rw [if_pos h] at hR
    simp -implicitDefEqProofs [r33, hR]
  have h : e = 0 := by simpa using h
  obtain ⟨h1, h2, h3⟩ := hz h
  have hok := err_ok h1
  have h8 := (checkS_zero h1).2.1
  have hg := hok.gath
  subst h
  rw [if_neg (by simp)] at hR
  have hll : l.length ≤ 253125 := by rw [h3]; exact truR_len hok
  have hlo : ∀ x ∈ l, x.2 ∈ ordersL c := fun x hx => by rw [h3] at hx; exact (mem_truR.1 hx).2.1
  obtain ⟨G, hG⟩ : ∃ G : Nat, c.gath = G := ⟨c.gath.toNat, by omega⟩
  rw [hG, Int.toNat_natCast] at hR
  simp -implicitDefEqProofs
  refine loop_up G (fun g s => s.env 1 = caseRef c ∧ s.env 8 = TL c l ∧ s.env 9 = I (askRUp c l g).1 ∧ s.env 10 = I (askRUp c l g).2 ∧ s.env 11 = I g) ?_ ?_
  · simp [askRUp]
  rintro g s hk ⟨e1, e8, e9, e10, e11⟩
  simp -implicitDefEqProofs [e1, e11, hG]
  refine cond_dec (fun hlt => ?_) (fun hge => ?_)
  · have hlt : g < G := by omega
    have hw := worst76_ok hok h8 hll hlo (g := g) (by omega)
    have hau : askRUp c l (g + 1) = if (askRUp c l g).1 < 0 ∨ worstR c l g < (askRUp c l g).2 then ((g : Int), worstR c l g) else askRUp c l g := rfl
    rw [show encCase c = .agg [I c.run, .slice 3 (c.stocks.map encStock) 0, .slice 3 (c.reams.map encReam) 0, I G, .slice 2 (c.seen.map encSeen) 0] by rw [← hG]] at hw
    generalize worstR c l g = w at *
    simp -implicitDefEqProofs [e1, e8, e11, hG]
    refine vCall_of hw ?_
    by_cases hlw : (askRUp c l g).1 < 0
    · rw [if_pos (.inl hlw)] at hau
      simp -implicitDefEqProofs [e9, e11, hlw]
      refine ⟨i64 (by omega) (by omega), round_ok hlt ?_⟩
      simp [e1, e8, hau, hG]
    · by_cases hlw2 : w < (askRUp c l g).2
      · rw [if_pos (.inr hlw2)] at hau
        simp -implicitDefEqProofs [e9, e10, e11, hlw, hlw2]
        refine ⟨i64 (by omega) (by omega), round_ok hlt ?_⟩
        simp [e1, e8, hau, hG]
      · rw [if_neg (by simp [hlw, hlw2])] at hau
        simp -implicitDefEqProofs [e9, e10, e11, hlw, hlw2]
        refine ⟨i64 (by omega) (by omega), round_ok hlt ?_⟩
        simp [e1, e8, e9, e10, hau, hG]
  · obtain rfl : g = G := by omega
    simp -implicitDefEqProofs [e9, e10, r33, hR]
end Go.Proofs.Ytbcfmfiolbcclaa

