/- Contracts of the reference: what agrees, all truths, their orders. Contracts of the reference: all truths, their orders. Contracts of the reference: Orders and Before. Contracts of the reference: Both and Stocks. Contracts of the reference: Left, Latest and Year. Contracts of the reference: Lists and Off. Contracts of the reference: More, Worst and Ask. -/
import Derived.Test.YtbcfmfiolbcclaaZG
namespace Go.Proofs.Ytbcfmfiolbcclaa
open Go.Avm

/-- Whether one thing seen agrees, but for some of these. -/
def agrAtUp (c : Case) (pl : List (List Int)) (o : List Int) (i k : Nat) : Bool :=
  (List.range k).all fun q => !decide (o.getD q 0 = (c.seen.getD i (-1, 0)).1) || decide ((c.seen.getD i (-1, 0)).2 ∈ pl.getD q [])
def agrAt (c : Case) (but : List Int) (pl : List (List Int)) (o : List Int) (i : Nat) : Bool := decide ((i : Int) ∈ but) || agrAtUp c pl o i o.length
def agrUp (c : Case) (but : List Int) (pl : List (List Int)) (o : List Int) (k : Nat) : Bool := (List.range k).all (agrAt c but pl o)
def agrB (c : Case) (but : List Int) (pl : List (List Int)) (o : List Int) : Bool := agrUp c but pl o c.seen.length
theorem agrAtUp_succ (c : Case) (pl : List (List Int)) (o : List Int) (i k : Nat) : agrAtUp c pl o i (k + 1) = (agrAtUp c pl o i k && (!decide (o.getD k 0 = (c.seen.getD i (-1, 0)).1) || decide ((c.seen.getD i (-1, 0)).2 ∈ pl.getD k []))) := by
  simp [agrAtUp, List.range_succ]
theorem agrUp_succ (c : Case) (but : List Int) (pl : List (List Int)) (o : List Int) (k : Nat) : agrUp c but pl o (k + 1) = (agrUp c but pl o k && agrAt c but pl o k) := by
  simp [agrUp, List.range_succ]
theorem agrAt_f {c : Case} {but : List Int} {pl : List (List Int)} {o : List Int} {i k : Nat} (hk : k < o.length) (hb : ¬ (i : Int) ∈ but) (h : (!decide (o.getD k 0 = (c.seen.getD i (-1, 0)).1) || decide ((c.seen.getD i (-1, 0)).2 ∈ pl.getD k [])) = false) :
    agrAt c but pl o i = false := by
  unfold agrAt agrAtUp
  rw [decide_eq_false hb, Bool.false_or, List.all_eq_false]
  exact ⟨k, by simpa using hk, by rw [h]; simp⟩
theorem agrB_f {c : Case} {but : List Int} {pl : List (List Int)} {o : List Int} {i : Nat} (hi : i < c.seen.length) (h : agrAt c but pl o i = false) : agrB c but pl o = false := by
  unfold agrB agrUp
  rw [List.all_eq_false]
  exact ⟨i, by simpa using hi, by rw [h]; simp⟩

theorem agrees96_ok (c : Case) (hs9 : c.seen.length ≤ 9) (but : List Int) (pl : List (List Int)) (o : List Int) (hpl : o.length ≤ pl.length) (ho : o.length ≤ 5) :
    PCall Try.prog 96 [encCase c, ILL pl, IL o, IL but] (B (agrB c but pl o)) := by
  refine pcall Try.func96 tr96 rs96 fn96 (by simp [Try.ntmps96]) fun _ => ?_
  obtain ⟨R, hR⟩ : ∃ R, R = agrB c but pl o := ⟨_, rfl⟩
  rw [← hR]
  simp -implicitDefEqProofs [m96]
  refine loop_up c.seen.length (fun i s => s.env 4 = caseRef c ∧ s.env 1 = ILL pl ∧ s.env 2 = IL o ∧ s.env 3 = IL but ∧ s.env 9 = I i ∧ agrUp c but pl o i = true) ?_ ?_
  · simp [agrUp]
  rintro i s hi ⟨e4, e1, e2, e3, e9, hag⟩
  simp -implicitDefEqProofs [e4, e9]
  refine cond_dec (fun hlt => ?_) (fun hge => ?_)
  · have hlt : i < c.seen.length := by omega
    have hu := agrUp_succ c but pl o i
    rw [hag, Bool.true_and] at hu
    have hc := has_ok but i
    have hat : agrAt c but pl o i = (decide ((i : Int) ∈ but) || agrAtUp c pl o i o.length) := rfl
    simp -implicitDefEqProofs [e3, e9]
    refine vCall_of hc ?_
    by_cases hb : (i : Int) ∈ but
    · rw [decide_eq_true hb, Bool.true_or] at hat
      rw [hat] at hu
      simp -implicitDefEqProofs [hb, e9]
      refine ⟨i64 (by omega) (by omega), round_ok hlt ?_⟩
      simp [e4, e1, e2, e3, hu]
    · rw [decide_eq_false hb, Bool.false_or] at hat
      rw [hat] at hu
      simp -implicitDefEqProofs [hb]
      refine loop_up o.length (fun k s => s.env 4 = caseRef c ∧ s.env 1 = ILL pl ∧ s.env 2 = IL o ∧ s.env 3 = IL but ∧ s.env 9 = I i ∧ s.env 10 = I k ∧ agrAtUp c pl o i k = true) ?_ ?_
      · simp [e4, e1, e2, e3, e9, agrAtUp]
      rintro k s hk ⟨e4, e1, e2, e3, e9, e10, hak⟩
      simp -implicitDefEqProofs [e2, e10]
      refine cond_dec (fun hlt2 => ?_) (fun hge2 => ?_)
      · have hlt2 : k < o.length := by omega
        have hlt3 : k < pl.length := by omega
        have hu2 := agrAtUp_succ c pl o i k
        have hf := agrAt_f (c := c) (pl := pl) (i := i) hlt2 hb
        have e0 : c.seen.getD i (-1, 0) = c.seen[i] := by simp [hlt]
        have e00 : o.getD k 0 = o[k] := by simp [hlt2]
        have e000 : pl.getD k [] = pl[k] := by simp [hlt3]
        rw [hak, Bool.true_and, e0, e00, e000] at hu2
        rw [e0, e00, e000] at hf
        have hh := has_ok pl[k] c.seen[i].2
        by_cases h1 : o[k] = c.seen[i].1
        · have h1' : (o[k] == c.seen[i].1) = true := by simp [h1]
          simp -implicitDefEqProofs [e4, e1, e2, e9, e10, hlt, hlt2, hlt3, h1']
          refine vCall_of hh ?_
          by_cases h2 : c.seen[i].2 ∈ pl[k]
          · simp -implicitDefEqProofs [h2, e10]
            refine ⟨i64 (by omega) (by omega), round_ok hlt2 ?_⟩
            simp [e4, e1, e2, e3, e9, hu2, h1, h2]
          · have hRf : R = false := by rw [hR]; exact agrB_f hlt (hf (by simp [h1, h2]))
            simp -implicitDefEqProofs [h2, r96, hRf]
        · have h1' : (o[k] == c.seen[i].1) = false := by simp [h1]
          simp -implicitDefEqProofs [e4, e2, e9, e10, hlt, hlt2, h1']
          refine ⟨i64 (by omega) (by omega), round_ok hlt2 ?_⟩
          simp [e4, e1, e2, e3, e9, hu2, h1]
      · obtain rfl : k = o.length := by omega
        rw [hak] at hu
        simp -implicitDefEqProofs [e9]
        refine ⟨i64 (by omega) (by omega), round_ok hlt ?_⟩
        simp [e4, e1, e2, e3, hu]
  · obtain rfl : i = c.seen.length := by omega
    have hRt : R = true := by rw [hR]; exact hag
    simp -implicitDefEqProofs [r96, hRt]
end Go.Proofs.Ytbcfmfiolbcclaa

namespace Go.Proofs.Ytbcfmfiolbcclaa
open Go.Avm

abbrev encT (c : Case) (x : List Int × List Int) : AV := .agg [IL x.1, IL x.2, ILL (placesL c x.1)]
abbrev TL (c : Case) (l : List (List Int × List Int)) : AV := .slice 3 (l.map (encT c)) 0
def truROf (c : Case) (p : List Int) (l : List (List Int)) : List (List Int × List Int) := (l.filter (agrB c [] (placesL c p))).map fun o => (p, o)
def truROn (c : Case) (l : List (List Int)) : List (List Int × List Int) := l.flatMap fun p => truROf c p (ordersL c)
def truR (c : Case) : List (List Int × List Int) := truROn c (pilesL c)
theorem truROn_snoc (c : Case) (l : List (List Int)) (p : List Int) : truROn c (l ++ [p]) = truROn c l ++ truROf c p (ordersL c) := by simp [truROn]
theorem truROf_snoc (c : Case) (p : List Int) (l : List (List Int)) (o : List Int) : truROf c p (l ++ [o]) = truROf c p l ++ if agrB c [] (placesL c p) o then [(p, o)] else [] := by
  unfold truROf
  rw [List.filter_append, List.map_append]
  by_cases h : agrB c [] (placesL c p) o <;> simp [h]
theorem truROf_len (c : Case) (p : List Int) (l : List (List Int)) : (truROf c p l).length ≤ l.length := by
  unfold truROf; rw [List.length_map]; exact List.length_filter_le _ _
theorem ordersL_len {c : Case} (h : c.OK) : (ordersL c).length ≤ 3125 := by
  have hg := h.gath
  have h1 : (ordersL c).length ≤ _ := allO_len c.gath.toNat c.gath.toNat
  have h2 : c.gath.toNat ^ c.gath.toNat ≤ 5 ^ 5 := Nat.le_trans (Nat.pow_le_pow_left (show c.gath.toNat ≤ 5 by omega) _) (Nat.pow_le_pow_right (by omega) (by omega))
  omega
theorem truROn_len {c : Case} (h : c.OK) (l : List (List Int)) : (truROn c l).length ≤ l.length * 3125 :=
  flat_len _ 3125 l fun p _ => Nat.le_trans (truROf_len c p _) (ordersL_len h)
theorem pilesL_len {c : Case} (h : c.OK) : (pilesL c).length ≤ 81 := Nat.le_trans (List.length_filter_le _ _) (pilesUp_len81 h _ (Nat.le_refl _))
theorem truR_len {c : Case} (h : c.OK) : (truR c).length ≤ 253125 := by
  have h1 := truROn_len h (pilesL c)
  have h2 := pilesL_len h
  unfold truR; omega

theorem placesL_len (c : Case) (p : List Int) : (placesL c p).length = c.gath.toNat := by simp [placesL, placesUp]

theorem truths91_ok {c : Case} (h : c.OK) : PCall Try.prog 91 [encCase c] (TL c (truR c)) := by
  refine pcall Try.func91 tr91 rs91 fn91 (by simp [Try.ntmps91]) fun _ => ?_
  have hp := piles_ok c h
  have hg := h.gath
  obtain ⟨g, hgn⟩ : ∃ g : Nat, c.gath = g := ⟨c.gath.toNat, by omega⟩
  have hgt : c.gath.toNat = g := by omega
  have hall := all_ok g (by omega)
  have hall : PCall Try.prog 77 [I c.gath] (ILL (ordersL c)) := by
    have e : ordersL c = allO g g := by unfold ordersL; rw [hgt]
    rw [e, hgn]; exact hall
  have hol := ordersL_len h
  have hpl := pilesL_len h
  simp -implicitDefEqProofs [m91]
  refine vCall_of hp ?_
  simp -implicitDefEqProofs
  refine vCall_of hall ?_
  simp -implicitDefEqProofs
  refine loop_up (pilesL c).length (fun k s => s.env 1 = caseRef c ∧ s.env 3 = .slice 3 ((truROn c ((pilesL c).take k)).map (encT c)) 4 ∧ s.env 4 = ILL (pilesL c) ∧ s.env 5 = ILL (ordersL c) ∧ s.env 6 = I k) ?_ ?_
  · simp [truROn]
  rintro k s hk ⟨e1, e3, e4, e5, e6⟩
  simp -implicitDefEqProofs [e4, e6]
  refine cond_dec (fun hlt => ?_) (fun hge => ?_)
  · have hlt : k < (pilesL c).length := by omega
    have hpo := pilesL_ok h (List.getElem_mem hlt)
    have hpc := places_ok c h _ hpo
    have hsn := truROn_snoc c ((pilesL c).take k) (pilesL c)[k]
    rw [← take_snoc hlt] at hsn
    have hlen := truROn_len h ((pilesL c).take k)
    have htl : ((pilesL c).take k).length ≤ 81 := by rw [List.length_take]; omega
    generalize hpk : (pilesL c)[k] = p at *
    simp -implicitDefEqProofs [e1, e4, e6, hlt, hpk]
    refine vCall_of hpc ?_
    simp -implicitDefEqProofs
    refine loop_up (ordersL c).length (fun j s => s.env 1 = caseRef c ∧ s.env 3 = .slice 3 ((truROn c ((pilesL c).take k) ++ truROf c p ((ordersL c).take j)).map (encT c)) 4 ∧ s.env 4 = ILL (pilesL c) ∧ s.env 5 = ILL (ordersL c) ∧ s.env 6 = I k ∧
      s.env 7 = ILL (placesL c p) ∧ s.env 8 = I j) ?_ ?_
    · simp [e1, e3, e4, e5, e6, truROf]
    rintro j s hj ⟨e1, e3, e4, e5, e6, e7, e8⟩
    simp -implicitDefEqProofs [e5, e8]
    refine cond_dec (fun hlt2 => ?_) (fun hge2 => ?_)
    · have hlt2 : j < (ordersL c).length := by omega
      have hoe := (allO_each _ _ _ (List.getElem_mem hlt2)).1
      have hag := agrees96_ok c h.seenLen [] (placesL c p) (ordersL c)[j] (by rw [placesL_len, hoe]; exact Nat.le_refl _) (by omega)
      have hsj := truROf_snoc c p ((ordersL c).take j) (ordersL c)[j]
      rw [← take_snoc hlt2] at hsj
      have hlj := truROf_len c p ((ordersL c).take j)
      have htj : ((ordersL c).take j).length ≤ 3125 := by rw [List.length_take]; omega
      generalize hoj : (ordersL c)[j] = o at *
      simp -implicitDefEqProofs [e1, e5, e7, e8, hlt2, hoj]
      refine vCall_of hag ?_
      simp -implicitDefEqProofs
      refine cond_bool (fun hb => ?_) (fun hb => ?_)
      · rw [if_pos hb] at hsj
        simp -implicitDefEqProofs [e3, e4, e5, e6, e7, e8, hlt, hlt2, hpk, hoj]
        refine ⟨by omega, by omega, i64 (by omega) (by omega), round_ok hlt2 ?_⟩
        simp [e1, e4, e5, e6, e7, hsj]
      · rw [if_neg (by rw [hb]; simp), List.append_nil] at hsj
        simp -implicitDefEqProofs [e8]
        refine ⟨i64 (by omega) (by omega), round_ok hlt2 ?_⟩
        simp [e1, e3, e4, e5, e6, e7, hsj]
    · obtain rfl : j = (ordersL c).length := by omega
      rw [List.take_length, ← hsn] at e3
      simp -implicitDefEqProofs [e6]
      refine ⟨i64 (by omega) (by omega), round_ok hlt ?_⟩
      simp [e1, e3, e4, e5]
  · obtain rfl : k = (pilesL c).length := by omega
    rw [List.take_length] at e3
    simp -implicitDefEqProofs [e3, r91]
    rfl

def someL (c : Case) (e : Int) : List (List Int × List Int) × Int := if e ≠ 0 then ([], e) else if truR c = [] then ([], 8) else (truR c, 0)
theorem some57_ok (c : Case) (e : Int) (h : e = 0 → c.OK) : PCall Try.prog 57 [encCase c, I e] (.tuple [TL c (someL c e).1, I (someL c e).2]) := by
  refine pcall Try.func57 tr57 rs57 fn57 (by simp [Try.ntmps57]) fun _ => ?_
  have hR : someL c e = if e ≠ 0 then ([], e) else if truR c = [] then ([], 8) else (truR c, 0) := rfl
  generalize someL c e = R at *
  simp -implicitDefEqProofs [m57]
  by_cases he : e = 0
  · have ht := truths91_ok (h he)
    subst he
    rw [if_neg (by simp)] at hR
    simp -implicitDefEqProofs
    refine vCall_of ht ?_
    by_cases hz : truR c = []
    · rw [if_pos hz] at hR
      simp -implicitDefEqProofs [r57, hR, hz]
    · rw [if_neg hz] at hR
      have hz' : (((truR c).length : Int) == 0) = false := by simp; exact hz
      simp -implicitDefEqProofs [r57, hR, hz']
  · rw [if_pos he] at hR
    have he' : (e != 0) = true := by simpa using he
    simp -implicitDefEqProofs [r57, hR, he']

def waysR (c : Case) (l : List (List Int × List Int)) : List (List Int) := (ordersL c).filter fun o => l.any fun x => decide (x.2 = o)
theorem ways58_ok {c : Case} (h : 1 ≤ c.gath ∧ c.gath ≤ 5) (l : List (List Int × List Int)) : PCall Try.prog 58 [encCase c, TL c l] (ILL (waysR c l)) := by
  refine pcall Try.func58 tr58 rs58 fn58 (by simp [Try.ntmps58]) fun hfit => ?_
  have hll : l.length ≤ 140737488355328 := by simpa using fits_len (hfit 1)
  obtain ⟨g, hgn⟩ : ∃ g : Nat, c.gath = g := ⟨c.gath.toNat, by omega⟩
  have hgt : c.gath.toNat = g := by omega
  have hall := all_ok g (by omega)
  have hall : PCall Try.prog 77 [I c.gath] (ILL (ordersL c)) := by
    have e : ordersL c = allO g g := by unfold ordersL; rw [hgt]
    rw [e, hgn]; exact hall
  have hol : (ordersL c).length ≤ 3125 := by
    have h1 : (ordersL c).length ≤ _ := allO_len c.gath.toNat c.gath.toNat
    have h2 : c.gath.toNat ^ c.gath.toNat ≤ 5 ^ 5 := Nat.le_trans (Nat.pow_le_pow_left (show c.gath.toNat ≤ 5 by omega) _) (Nat.pow_le_pow_right (by omega) (by omega))
    omega
  have hW : waysR c l = (ordersL c).filter fun o => l.any fun x => decide (x.2 = o) := rfl
  generalize waysR c l = W at *
  generalize ordersL c = A at *
  obtain ⟨q, hq⟩ : ∃ q : List Int → Bool, q = fun o => l.any fun x => decide (x.2 = o) := ⟨_, rfl⟩
  rw [← hq] at hW
  simp -implicitDefEqProofs [m58]
  refine vCall_of hall ?_
  simp -implicitDefEqProofs
  refine loop_up A.length (fun k s => s.env 1 = TL c l ∧ s.env 5 = ILL A ∧ s.env 6 = .slice 1 (((A.take k).filter q).map IL) 7 ∧ s.env 7 = I k) ?_ ?_
  · simp
  rintro k s hk ⟨e1, e5, e6, e7⟩
  simp -implicitDefEqProofs [e5, e7]
  refine cond_dec (fun hlt => ?_) (fun hge => ?_)
  · have hlt : k < A.length := by omega
    have htk := take_snoc hlt
    have hfl : ((A.take k).filter q).length ≤ 3125 := by
      have h1 := List.length_filter_le q (A.take k)
      rw [List.length_take] at h1
      omega
    generalize ho : A[k] = o at *
    have hfs : (A.take (k + 1)).filter q = (A.take k).filter q ++ if q o then [o] else [] := by
      rw [htk, List.filter_append]
      by_cases h : q o <;> simp [h]
    simp -implicitDefEqProofs
    refine loop_up l.length (fun j s => s.env 1 = TL c l ∧ s.env 5 = ILL A ∧ s.env 6 = .slice 1 (((A.take k).filter q).map IL) 7 ∧ s.env 7 = I k ∧ s.env 8 = I j ∧ (∀ x ∈ l.take j, ¬ x.2 = o)) ?_ ?_
    · simp [e1, e5, e6, e7]
    rintro j s hj ⟨e1, e5, e6, e7, e8, hno⟩
    simp -implicitDefEqProofs [e1, e8]
    refine cond_dec (fun hlt2 => ?_) (fun hge2 => ?_)
    · have hlt2 : j < l.length := by omega
      have hi := ints_ok l[j].2 o
      simp -implicitDefEqProofs [e1, e5, e7, e8, hlt, hlt2, ho]
      refine vCall_of hi ?_
      by_cases heq : l[j].2 = o
      · have hqo : q o = true := by
          rw [hq]
          simp only [List.any_eq_true]
          exact ⟨l[j], List.getElem_mem hlt2, by simp [heq]⟩
        rw [if_pos hqo] at hfs
        simp -implicitDefEqProofs [e5, e6, e7, hlt, ho, heq]
        refine ⟨by omega, by omega, i64 (by omega) (by omega), round_ok hlt ?_⟩
        simp [e1, e5, hfs]
      · simp -implicitDefEqProofs [e8, heq]
        refine ⟨i64 (by omega) (by omega), round_ok hlt2 ?_⟩
        simp [e1, e5, e6, e7]
        intro a b hx
        rw [take_snoc hlt2, List.mem_append, List.mem_singleton] at hx
        rcases hx with hx | hx
        · exact hno _ hx
        · rw [← hx] at heq; exact heq
    · obtain rfl : j = l.length := by omega
      rw [List.take_length] at hno
      have hqo : q o = false := by
        rw [hq]
        simp only [List.any_eq_false]
        intro x hx
        simpa using hno x hx
      rw [if_neg (by rw [hqo]; simp), List.append_nil] at hfs
      simp -implicitDefEqProofs [e7]
      refine ⟨i64 (by omega) (by omega), round_ok hlt ?_⟩
      simp [e1, e5, e6, hfs]
  · obtain rfl : k = A.length := by omega
    rw [List.take_length, ← hW] at e6
    simp -implicitDefEqProofs [e6, r58]
end Go.Proofs.Ytbcfmfiolbcclaa

namespace Go.Proofs.Ytbcfmfiolbcclaa
open Go.Avm

def ordersR (c : Case) : List (List Int) × Int := if (someL c (errE c)).2 ≠ 0 then ([], (someL c (errE c)).2) else (waysR c (someL c (errE c)).1, 0)
theorem some_zero {c : Case} {e : Int} (h : (someL c e).2 = 0) : e = 0 ∧ truR c ≠ [] ∧ (someL c e).1 = truR c := by
  unfold someL at h ⊢
  by_cases he : e = 0
  · rw [if_neg (by simpa using he)] at h ⊢
    by_cases hz : truR c = []
    · rw [if_pos hz] at h; cases h
    · rw [if_neg hz]; exact ⟨he, hz, rfl⟩
  · rw [if_pos he] at h; exact absurd h he

theorem orders18_ok (c : Case) : PCall Try.prog 18 [encCase c] (.tuple [ILL (ordersR c).1, I (ordersR c).2]) := by
  refine pcall Try.func18 tr18 rs18 fn18 (by simp [Try.ntmps18]) fun _ => ?_
  have hc := checkR_ok c
  have hs := some57_ok c (errE c) err_ok
  have hz := some_zero (c := c) (e := errE c)
  have hR : ordersR c = if (someL c (errE c)).2 ≠ 0 then ([], (someL c (errE c)).2) else (waysR c (someL c (errE c)).1, 0) := rfl
  generalize someL c (errE c) = L at *
  obtain ⟨l, e⟩ := L
  simp only at hs hz hR
  generalize ordersR c = R at *
  simp -implicitDefEqProofs [m18]
  refine vCall_of hc ?_
  simp -implicitDefEqProofs
  refine vCall_of hs ?_
  simp -implicitDefEqProofs
  refine cond_bool (fun h => ?_) (fun h => ?_)
  · have h : ¬ e = 0 := by simpa using h
    rw [if_pos h] at hR
    simp -implicitDefEqProofs [r18, hR]
  · have h : e = 0 := by simpa using h
    have hg := (err_ok (hz h).1).gath
    subst h
    rw [if_neg (by simp)] at hR
    have hw := ways58_ok hg l
    simp -implicitDefEqProofs
    refine vCall_of hw ?_
    simp -implicitDefEqProofs [r18, hR]

theorem some_len {c : Case} {e : Int} (h : e = 0 → c.OK) : (someL c e).1.length ≤ 253125 := by
  unfold someL
  by_cases he : e = 0
  · rw [if_neg (by simpa using he)]
    split
    · simp
    · exact truR_len (h he)
  · rw [if_pos he]; simp

def befE1 (c : Case) (x y : Int) : Int := if errE c = 0 ∧ ¬ ((0 ≤ x ∧ x ≤ c.gath - 1) ∧ (0 ≤ y ∧ y ≤ c.gath - 1)) then 4 else errE c
def befE (c : Case) (x y : Int) : Int := if befE1 c x y = 0 ∧ x = y then 2 else befE1 c x y
def befA (x y : Int) (l : List (List Int × List Int)) : Bool := l.all fun z => decide (at' z.2 x < at' z.2 y)
def aftA (x y : Int) (l : List (List Int × List Int)) : Bool := l.all fun z => !decide (at' z.2 x < at' z.2 y)
def beforeR (c : Case) (x y : Int) : Int × Int := if (someL c (befE c x y)).2 ≠ 0 then (0, (someL c (befE c x y)).2) else
  if befA x y (someL c (befE c x y)).1 then (1, 0) else if aftA x y (someL c (befE c x y)).1 then (2, 0) else (0, 0)

theorem befE1_zero {c : Case} {x y : Int} (h : befE1 c x y = 0) : errE c = 0 := by
  unfold befE1 at h
  split at h
  · cases h
  · exact h
theorem befE_zero {c : Case} {x y : Int} (h : befE c x y = 0) : c.OK := by
  unfold befE at h
  split at h
  · cases h
  · exact err_ok (befE1_zero h)

theorem before21_ok (c : Case) (x y : Int) : PCall Try.prog 21 [encCase c, I x, I y] (.tuple [I (beforeR c x y).1, I (beforeR c x y).2]) := by
  refine pcall Try.func21 tr21 rs21 fn21 (by simp [Try.ntmps21]) fun _ => ?_
  have hc := checkR_ok c
  have hs := some57_ok c (befE c x y) befE_zero
  have hgg : errE c = 0 → 1 ≤ c.gath ∧ c.gath ≤ 5 := fun h => (err_ok h).gath
  have hlb := some_len (c := c) (e := befE c x y) befE_zero
  have i1 := in_ok x 0 (c.gath - 1)
  have i2 := in_ok y 0 (c.gath - 1)
  have hE1 : befE1 c x y = if errE c = 0 ∧ ¬ ((0 ≤ x ∧ x ≤ c.gath - 1) ∧ (0 ≤ y ∧ y ≤ c.gath - 1)) then 4 else errE c := rfl
  have hE2 : befE c x y = if befE1 c x y = 0 ∧ x = y then 2 else befE1 c x y := rfl
  have hR : beforeR c x y = if (someL c (befE c x y)).2 ≠ 0 then (0, (someL c (befE c x y)).2) else
    if befA x y (someL c (befE c x y)).1 then (1, 0) else if aftA x y (someL c (befE c x y)).1 then (2, 0) else (0, 0) := rfl
  obtain ⟨E, hE⟩ : ∃ E, E = errE c := ⟨_, rfl⟩
  have hc : PCall Try.prog 16 [encCase c] (.tuple [I (checkS c).1, I (checkS c).2.1, I E]) := by rw [hE]; exact hc
  rw [← hE] at hE1 hgg
  generalize hbe : befE c x y = e2 at *
  generalize hbe1 : befE1 c x y = e1 at *
  generalize someL c e2 = L at *
  obtain ⟨l, e3⟩ := L
  simp only at hs hR hlb
  generalize beforeR c x y = R at *
  unfold m21
  refine cutS (fun s => s.env 3 = caseRef c ∧ s.env 1 = I x ∧ s.env 2 = I y) ?_ ?_
  · intro k hk
    simp -implicitDefEqProofs
    exact hk _ (by simp)
  rintro s ⟨h3, h1, h2⟩
  refine cutS (fun s => s.env 3 = caseRef c ∧ s.env 1 = I x ∧ s.env 2 = I y ∧ s.env 10 = I E) ?_ ?_
  · intro k hk
    simp -implicitDefEqProofs [h3]
    refine vCall_of hc ?_
    simp -implicitDefEqProofs
    exact hk _ (by simp [h3, h1, h2])
  clear h1 h2 h3
  rintro s ⟨h3, h1, h2, h10⟩
  refine cutS (fun s => s.env 3 = caseRef c ∧ s.env 1 = I x ∧ s.env 2 = I y ∧ s.env 10 = I e1) ?_ ?_
  · intro k hk
    by_cases hE0 : E = 0
    · have hg := hgg hE0
      subst hE0
      by_cases hx : 0 ≤ x ∧ x ≤ c.gath - 1
      · by_cases hy : 0 ≤ y ∧ y ≤ c.gath - 1
        · rw [if_neg (by simp [hx, hy])] at hE1
          rw [decide_eq_true hx] at i1
          rw [decide_eq_true hy] at i2
          simp -implicitDefEqProofs [h1, h2, h3, h10]
          refine ⟨i64 (by omega) (by omega), vCall_of i1 ?_⟩
          simp -implicitDefEqProofs [h1, h2, h3]
          refine ⟨i64 (by omega) (by omega), vCall_of i2 ?_⟩
          simp -implicitDefEqProofs
          exact hk _ (by simp [h1, h2, h3, h10, hE1])
        · rw [if_pos (by simp [hx, hy])] at hE1
          rw [decide_eq_true hx] at i1
          rw [decide_eq_false hy] at i2
          simp -implicitDefEqProofs [h1, h2, h3, h10]
          refine ⟨i64 (by omega) (by omega), vCall_of i1 ?_⟩
          simp -implicitDefEqProofs [h1, h2, h3]
          refine ⟨i64 (by omega) (by omega), vCall_of i2 ?_⟩
          simp -implicitDefEqProofs
          exact hk _ (by simp [h1, h2, h3, hE1])
      · rw [if_pos (by simp [hx])] at hE1
        rw [decide_eq_false hx] at i1
        simp -implicitDefEqProofs [h1, h3, h10]
        refine ⟨i64 (by omega) (by omega), vCall_of i1 ?_⟩
        simp -implicitDefEqProofs
        exact hk _ (by simp [h1, h2, h3, hE1])
    · rw [if_neg (by simp [hE0])] at hE1
      have hE0' : (E == 0) = false := by simpa using hE0
      simp -implicitDefEqProofs [h10, hE0']
      exact hk _ (by simp [h1, h2, h3, h10, hE1])
  clear h1 h2 h3 h10
  rintro s ⟨h3, h1, h2, h10⟩
  refine cutS (fun s => s.env 3 = caseRef c ∧ s.env 1 = I x ∧ s.env 2 = I y ∧ s.env 10 = I e2) ?_ ?_
  · intro k hk
    by_cases hE0 : e1 = 0
    · by_cases hxy : x = y
      · rw [if_pos ⟨hE0, hxy⟩] at hE2
        have hE0' : (e1 == 0) = true := by simpa using hE0
        have hxy' : (x == y) = true := by simpa using hxy
        simp -implicitDefEqProofs [h1, h2, h10, hE0', hxy']
        exact hk _ (by simp [h1, h2, h3, hE2])
      · rw [if_neg (by simp [hxy])] at hE2
        have hE0' : (e1 == 0) = true := by simpa using hE0
        have hxy' : (x == y) = false := by simpa using hxy
        simp -implicitDefEqProofs [h1, h2, h10, hE0', hxy']
        exact hk _ (by simp [h1, h2, h3, h10, hE2])
    · rw [if_neg (by simp [hE0])] at hE2
      have hE0' : (e1 == 0) = false := by simpa using hE0
      simp -implicitDefEqProofs [h10, hE0']
      exact hk _ (by simp [h1, h2, h3, h10, hE2])
  clear h1 h2 h3 h10
  rintro s ⟨h3, h1, h2, h10⟩
  have hll : PCall Try.prog 57 [encCase c, I e2] (.tuple [TL c l, I e3]) := hs
  refine cutS (fun s => s.env 1 = I x ∧ s.env 2 = I y ∧ s.env 11 = TL c l ∧ s.env 10 = I e3) ?_ ?_
  · intro k hk
    simp -implicitDefEqProofs [h3, h10]
    refine vCall_of hs ?_
    simp -implicitDefEqProofs
    exact hk _ (by simp [h1, h2])
  clear h1 h2 h3 h10
  rintro s ⟨h1, h2, h11, h10⟩
  by_cases he3 : e3 = 0
  case neg =>
    rw [if_pos he3] at hR
    have he3' : (e3 != 0) = true := by simpa using he3
    simp -implicitDefEqProofs [h10, he3', r21, hR]
  rw [if_neg (by simpa using he3)] at hR
  have he3' : (e3 != 0) = false := by simpa using he3
  simp -implicitDefEqProofs [h10, he3']
  refine loop_up l.length (fun k s => s.env 1 = I x ∧ s.env 2 = I y ∧ s.env 11 = TL c l ∧ s.env 12 = B (befA x y (l.take k)) ∧ s.env 13 = B (aftA x y (l.take k)) ∧ s.env 14 = I k) ?_ ?_
  · simp [h1, h2, h11, befA, aftA]
  rintro k s hk ⟨h1, h2, h11, h12, h13, h14⟩
  simp -implicitDefEqProofs [h11, h14]
  refine cond_dec (fun hlt => ?_) (fun hge => ?_)
  · have hlt : k < l.length := by omega
    have a1 := at_ok l[k].2 x
    have a2 := at_ok l[k].2 y
    have b1 : befA x y (l.take (k + 1)) = (befA x y (l.take k) && decide (at' l[k].2 x < at' l[k].2 y)) := by unfold befA; rw [take_snoc hlt, List.all_append]; simp only [List.all_cons, List.all_nil, Bool.and_true]
    have b2 : aftA x y (l.take (k + 1)) = (aftA x y (l.take k) && !decide (at' l[k].2 x < at' l[k].2 y)) := by unfold aftA; rw [take_snoc hlt, List.all_append]; simp only [List.all_cons, List.all_nil, Bool.and_true]
    simp -implicitDefEqProofs [h1, h11, h14, hlt]
    refine vCall_of a1 ?_
    simp -implicitDefEqProofs [h2, h11, h14, hlt]
    refine vCall_of a2 ?_
    by_cases hl : at' l[k].2 x < at' l[k].2 y
    · rw [decide_eq_true hl] at b1 b2
      simp -implicitDefEqProofs [h14, hl]
      refine ⟨i64 (by omega) (by omega), round_ok hlt ?_⟩
      simp [h1, h2, h11, h12, b1, b2]
    · rw [decide_eq_false hl] at b1 b2
      simp -implicitDefEqProofs [h14, hl]
      refine ⟨i64 (by omega) (by omega), round_ok hlt ?_⟩
      simp [h1, h2, h11, h13, b1, b2]
  · obtain rfl : k = l.length := by omega
    rw [List.take_length] at h12 h13
    simp -implicitDefEqProofs [h12]
    cases hb : befA x y l with
    | true =>
      rw [hb, if_pos rfl] at hR
      simp -implicitDefEqProofs [r21, hR]
    | false =>
      rw [hb, if_neg (by simp)] at hR
      simp -implicitDefEqProofs [h13]
      cases hb2 : aftA x y l with
      | true =>
        rw [hb2, if_pos rfl] at hR
        simp -implicitDefEqProofs [r21, hR]
      | false =>
        rw [hb2, if_neg (by simp)] at hR
        simp -implicitDefEqProofs [r21, hR]
end Go.Proofs.Ytbcfmfiolbcclaa

namespace Go.Proofs.Ytbcfmfiolbcclaa
open Go.Avm

theorem mem_truR {c : Case} {x : List Int × List Int} : x ∈ truR c ↔ x.1 ∈ pilesL c ∧ x.2 ∈ ordersL c ∧ agrB c [] (placesL c x.1) x.2 = true := by
  obtain ⟨p, o⟩ := x
  simp only [truR, truROn, truROf, List.mem_flatMap, List.mem_map, List.mem_filter, Prod.mk.injEq]
  constructor
  · rintro ⟨p', h1, o', ⟨h2, h3⟩, rfl, rfl⟩; exact ⟨h1, h2, h3⟩
  · rintro ⟨h1, h2, h3⟩; exact ⟨p, h1, o, ⟨h2, h3⟩, rfl, rfl⟩

/-- A span with one more number. -/
def withS (s : Int × Int) (n : Int) : Int × Int := if s.2 < s.1 then (n, n) else (min s.1 n, max s.2 n)
end Go.Proofs.Ytbcfmfiolbcclaa

namespace Go.Proofs.Ytbcfmfiolbcclaa
open Go.Avm

end Go.Proofs.Ytbcfmfiolbcclaa

namespace Go.Proofs.Ytbcfmfiolbcclaa
open Go.Avm

end Go.Proofs.Ytbcfmfiolbcclaa

namespace Go.Proofs.Ytbcfmfiolbcclaa
open Go.Avm

end Go.Proofs.Ytbcfmfiolbcclaa

