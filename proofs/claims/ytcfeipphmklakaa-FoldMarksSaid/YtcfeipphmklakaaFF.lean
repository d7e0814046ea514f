/- All ways of making come to a few cases; what holds in each of them. The leaves of a gathering: the reference's walk. The leaves of a gathering: the program's and the reference's are the same; Leaves. Lists that are compared: Same and Ints of the reference. The leaves of a gathering are at places of their own, and not too many. The leaves of one sheet: Mates, of the program and of the reference. Where the watermark is: mark, Has and Marked, of the program and of the reference. Marked, of the program and of the reference. The pages of a forme: the reference's search, the program's map. The pages of a forme: the program's walk. The law FoldLeaves returns true. -/
import Derived.Test.YtcfeipphmklakaaFE
import Derived.Test.YtcfeipphmklakaaGT0
import Derived.Test.YtcfeipphmklakaaFC
import Derived.Test.YtcfeipphmklakaaGT1
import Derived.Test.YtcfeipphmklakaaGT3
namespace Go.Proofs.Ytcfeipphmklakaa
open Go.Avm

theorem words_len : ∀ (n : Nat) (w : List Nat), w ∈ words n → w.length = n
  | 0, w, h => by simp [words] at h; simp [h]
  | n + 1, w, h => by
    simp only [words, List.mem_append, List.mem_map] at h
    rcases h with ⟨v, hv, rfl⟩ | ⟨v, hv, rfl⟩ <;> simp [words_len n v hv]

theorem allF_mem {w : List Nat} (h : w ∈ allF) : w ∈ words w.length ∧ 1 ≤ w.length ∧ w.length ≤ 4 := by
  simp only [allF, List.mem_append] at h
  rcases h with ((h | h) | h) | h <;> (have e := words_len _ _ h; rw [e]; exact ⟨h, by omega, by omega⟩)

theorem mem_allH {w : List Nat} {half : Bool} (h : w ∈ allF) (hh : half = true → 2 ≤ w.length) : (w, half) ∈ allH := by
  unfold allH
  rw [List.mem_append]
  cases half with
  | false => exact .inl (List.mem_map.2 ⟨w, h, rfl⟩)
  | true =>
    right
    refine List.mem_map.2 ⟨w, ?_, rfl⟩
    obtain ⟨h1, h2, h3⟩ := allF_mem h
    have hl := hh rfl
    simp only [List.mem_append]
    have : w.length = 2 ∨ w.length = 3 ∨ w.length = 4 := by omega
    rcases this with e | e | e <;> rw [e] at h1 <;> simp [h1]

/-- The cases: folds, whether it is a half-sheet, and how many sheets. -/
def allC : List (List Nat × Bool × Nat) := allH.flatMap fun x => if x.2 then [(x.1, x.2, 1)] else [(x.1, x.2, 1), (x.1, x.2, 2), (x.1, x.2, 3), (x.1, x.2, 4)]

def caseOf (p : Prs) (m : Mk) : List Nat × Bool × Nat := (codes (foldsOf p m), m.half, m.sheets.toNat)

/-- The leaves of a case. -/
def lvM (x : List Nat × Bool × Nat) : List Lf := putA (sheetM x.1 x.2.1) (x.2.2 * (sheetM x.1 x.2.1).length) x.2.2

theorem codes_len (s : ByteArray) : (codes s).length = s.size := by simp [codes]

theorem mem_allH' {p : Prs} {m : Mk} (hp : Right p) (hm : RightM p m) : (codes (foldsOf p m), m.half) ∈ allH :=
  mem_allH (foldsOf_mem hp hm) fun h => by rw [codes_len]; exact (hm.half h).2

theorem mem_allC {p : Prs} {m : Mk} (hp : Right p) (hm : RightM p m) : caseOf p m ∈ allC := by
  unfold allC caseOf
  rw [List.mem_flatMap]
  refine ⟨_, mem_allH' hp hm, ?_⟩
  have h1 := hm.sheets
  have h2 := hp.sheets
  cases hh : m.half with
  | true =>
    have := (hm.half hh).1
    simp [this]
  | false =>
    have : m.sheets = 1 ∨ m.sheets = 2 ∨ m.sheets = 3 ∨ m.sheets = 4 := by omega
    rcases this with e | e | e | e <;> simp [e]

theorem sheetM_len : ∀ x ∈ allH, (sheetM x.1 x.2).length % 2 = 0 ∧ 2 ≤ (sheetM x.1 x.2).length ∧ (sheetM x.1 x.2).length ≤ 16 := by decide +kernel

/-- Whether each of all cases passes. -/
theorem all_cases {q : List Nat × Bool × Nat → Bool} (h : allC.all q = true) {p : Prs} {m : Mk} (hp : Right p) (hm : RightM p m) : q (caseOf p m) = true :=
  List.all_eq_true.1 h _ (mem_allC hp hm)
end Go.Proofs.Ytcfeipphmklakaa

namespace Go.Proofs.Ytcfeipphmklakaa
open Go.Avm

def ownM (w : List Nat) (l : List Ln) (s : Nat) : List Lf := l.map fun x => lnLf w s x
def ownT (w : List Nat) (l : List Ln) (s j : Nat) : List Lf := (ownM w l s).take j
def fstM (w : List Nat) (l : List Ln) : Nat → List Lf
  | 0 => []
  | k + 1 => fstM w l k ++ (ownM w l k).take (l.length / 2)
def secM (w : List Nat) (l : List Ln) : Nat → List Lf
  | 0 => []
  | k + 1 => (ownM w l k).drop (l.length / 2) ++ secM w l k
def allM (w : List Nat) (l : List Ln) (s : Nat) : List Lf := fstM w l s ++ secM w l s

theorem ownM_len (w : List Nat) (l : List Ln) (s : Nat) : (ownM w l s).length = l.length := by simp [ownM]
theorem ownT_zero (w : List Nat) (l : List Ln) (s : Nat) : ownT w l s 0 = [] := rfl
theorem ownT_succ (w : List Nat) (l : List Ln) (s j : Nat) (h : j < l.length) : ownT w l s (j + 1) = ownT w l s j ++ [lnLf w s l[j]] := by
  unfold ownT
  rw [take_snoc (by rw [ownM_len]; exact h)]
  simp [ownM]
theorem ownT_len (w : List Nat) (l : List Ln) (s j : Nat) (h : j ≤ l.length) : (ownT w l s j).length = j := by unfold ownT; rw [List.length_take, ownM_len]; omega
theorem ownT_all (w : List Nat) (l : List Ln) (s : Nat) : ownT w l s l.length = ownM w l s := by unfold ownT; rw [← ownM_len w l s, List.take_length]
theorem fstM_len (w : List Nat) (l : List Ln) (n : Nat) (h : l.length = 2 * n) : ∀ k, (fstM w l k).length = k * n
  | 0 => by simp [fstM]
  | k + 1 => by rw [fstM, List.length_append, fstM_len w l n h k, List.length_take, ownM_len, Nat.succ_mul]; omega
theorem secM_len (w : List Nat) (l : List Ln) (n : Nat) (h : l.length = 2 * n) : ∀ k, (secM w l k).length = k * n
  | 0 => by simp [secM]
  | k + 1 => by rw [secM, List.length_append, secM_len w l n h k, List.length_drop, ownM_len, Nat.succ_mul]; omega

theorem odd_eq (a : Nat) : (((a : Int).tmod 2) == 1) = (a % 2 == 1) := by
  rw [Int.tmod_eq_emod_of_nonneg (by omega)]
  have : ((a : Int) % 2) = ((a % 2 : Nat) : Int) := by omega
  rw [this]
  rcases Nat.mod_two_eq_zero_or_one a with h | h <;> rw [h] <;> rfl

theorem all69_ok (p : Prs) (m : Mk) (S n : Nat) (l : List Ln) (hf : 0 ≤ m.format ∧ m.format ≤ (p.fmts.length : Int) - 1) (hm : m.sheets = S) (hS : 1 ≤ S ∧ S ≤ 4) (hL : l.length = 2 * n) (hn : n ≤ 8)
    (hxy : ∀ x ∈ l, x.x + x.y ≤ 100) (h0 : 1 ≤ (foldsOf p m).size ∧ (foldsOf p m).size ≤ 4) (h97 : PCall Try.prog 97 [Ytcfeipphmklakaa.S (foldsOf p m), B m.half] (.slice 4 (l.map Ln.av) 0)) : PCall Try.prog 69 [p.av, m.av] (LL (allM (codes (foldsOf p m)) l S)) := by
  refine pcall Try.func69 tr69 rs69 fn69 (by simp [Try.ntmps69]) fun hfit => ?_
  obtain ⟨g, hg⟩ : ∃ g : Nat, m.format = g := ⟨m.format.toNat, by omega⟩
  have hgl : g < p.fmts.length := by omega
  rw [foldsOf_at hg hgl] at h0 h97 ⊢
  obtain ⟨f, hfd⟩ : ∃ f, f = p.fmts[g].folds := ⟨_, rfl⟩
  rw [← hfd] at h0 h97 ⊢
  obtain ⟨mf, mp, ms, mh⟩ := m
  obtain rfl : ms = (S : Int) := hm
  obtain rfl : mf = (g : Int) := hg
  simp -implicitDefEqProofs [m69, hgl, ← hfd]
  have hs : ((f.size : Int) - 1).toNat = f.size - 1 := by omega
  refine ⟨i64 (by omega) (by omega), by omega, by omega, ?_⟩
  refine vCall_of h97 ?_
  simp -implicitDefEqProofs [hs]
  have hlast : (f.data.toList.getD (f.size - 1) 0).toNat = (codes f).getLastD 0 := by
    have : f.size - 1 = (codes f).length - 1 := by rw [codes_len]
    rw [this]
    have h1 : bt f ((codes f).length - 1) = (codes f).getD ((codes f).length - 1) 0 := bt_codes _ _
    unfold bt at h1
    rw [h1, List.getLastD_eq_getLast?, List.getLast?_eq_getElem?, List.getD_eq_getElem?_getD]
  obtain ⟨w, hw⟩ : ∃ w, w = codes f := ⟨_, rfl⟩
  rw [← hw] at hlast ⊢
  generalize hla : w.getLastD 0 = la at *
  have hSn : S * n ≤ 32 := Nat.le_trans (Nat.mul_le_mul hS.2 hn) (by omega)
  refine loop_up S (fun k s => s.env 3 = .ref (Mk.mk g mp S mh).cs ∧ s.env 6 = .lit (.int .u8 la) ∧ s.env 7 = .slice 4 (l.map Ln.av) 0 ∧
    s.env 8 = .slice 5 ((fstM w l k).map Lf.av) 9 ∧ s.env 9 = .slice 5 ((secM w l k).map Lf.av) 10 ∧ s.env 10 = I k) ?_ ?_
  · simp [fstM, secM]
    have h2 := hlast
    rw [List.getD_eq_getElem?_getD] at h2
    simp at h2
    exact congrArg _ h2
  rintro k s hk ⟨e3, e6, e7, e8, e9, e10⟩
  have hf1 := fstM_len w l n hL k
  have hf2 := secM_len w l n hL k
  simp -implicitDefEqProofs [e3, e10]
  refine cond_dec (fun hlt => ?_) (fun hge => ?_)
  · have hlt : k < S := by omega
    have hkn : k * n + n ≤ S * n := by
      have := Nat.mul_le_mul_right n (show k + 1 ≤ S by omega)
      rwa [Nat.succ_mul] at this
    simp -implicitDefEqProofs
    refine loop_up l.length (fun j s => s.env 3 = .ref (Mk.mk g mp S mh).cs ∧ s.env 6 = .lit (.int .u8 la) ∧ s.env 7 = .slice 4 (l.map Ln.av) 0 ∧
      s.env 8 = .slice 5 ((fstM w l k).map Lf.av) 9 ∧ s.env 9 = .slice 5 ((secM w l k).map Lf.av) 10 ∧ s.env 10 = I k ∧
      s.env 11 = .slice 5 ((ownT w l k j).map Lf.av) 12 ∧ s.env 12 = I j) ?_ ?_
    · simp [e3, e6, e7, e8, e9, e10, ownT_zero]
    clear e3 e6 e7 e8 e9 e10
    rintro j s hj ⟨e3, e6, e7, e8, e9, e10, e11, e12⟩
    simp -implicitDefEqProofs [e7, e12]
    refine cond_dec (fun hlt2 => ?_) (fun hge2 => ?_)
    · have hlt2 : j < l.length := by omega
      have ho := ownT_succ w l k j hlt2
      have hol := ownT_len w l k j (by omega)
      simp -implicitDefEqProofs [e6, e7, e12, hlt2]
      have hb := hxy _ (List.getElem_mem hlt2)
      have hodd : (((l[j].x : Int) + (l[j].y : Int)).tmod 2 == 1) = ((l[j].x + l[j].y) % 2 == 1) := by
        have := odd_eq (l[j].x + l[j].y)
        rwa [Int.natCast_add] at this
      have hln : lnLf w k l[j] = ⟨k, l[j].col, l[j].row, (l[j].x + l[j].y) % 2 == 1, (if la == 120 then l[j].y else l[j].x) % 2 == 1⟩ := by unfold lnLf; rw [hla]
      have hox := odd_eq l[j].x
      have hoy := odd_eq l[j].y
      refine cond_bool (fun he => ?_) (fun he => ?_)
      · have he' : (la == 120) = true := by simp at he ⊢; omega
        rw [he', if_pos rfl] at hln
        simp -implicitDefEqProofs [e7, e10, e11, e12, hlt2]
        refine ⟨i64 (by omega) (by omega), by omega, by omega, i64 (by omega) (by omega), round_ok hlt2 ⟨by simp [e3], by simp [e6], by simp [e7], by simp [e8], by simp [e9], by simp [e10], ?_, by simp⟩⟩
        simp [ho, hln, hodd, hoy]
      · have he' : (la == 120) = false := by simp at he ⊢; omega
        rw [he', if_neg (by simp)] at hln
        simp -implicitDefEqProofs [e7, e10, e11, e12, hlt2]
        refine ⟨i64 (by omega) (by omega), by omega, by omega, i64 (by omega) (by omega), round_ok hlt2 ⟨by simp [e3], by simp [e6], by simp [e7], by simp [e8], by simp [e9], by simp [e10], ?_, by simp⟩⟩
        simp [ho, hln, hodd, hox]
    · obtain rfl : j = l.length := by omega
      rw [ownT_all] at e11
      have hol := ownM_len w l k
      have hq : ((l.length : Int)).tdiv 2 = (n : Int) := by rw [hL, Int.tdiv_eq_ediv_of_nonneg (by omega)]; omega
      simp -implicitDefEqProofs [e8, e9, e10, e11, hol, hq]
      have hd : l.length / 2 = n := by omega
      refine ⟨i64 (by omega) (by omega), by omega, by omega, by omega, i64 (by omega) (by omega), by omega, by omega, by omega, by omega, by omega, i64 (by omega) (by omega),
        round_ok hlt ⟨by simp [e3], by simp [e6], by simp [e7], ?_, ?_, by simp⟩⟩
      · simp [fstM, hd]
      · simp [secM, hd]
  · obtain rfl : k = S := by omega
    simp -implicitDefEqProofs [e8, e9, r69, allM]
    omega
end Go.Proofs.Ytcfeipphmklakaa

namespace Go.Proofs.Ytcfeipphmklakaa
open Go.Avm

/-- The leaves of a way of making. -/
def lvOf (p : Prs) (m : Mk) : List Lf := lvM (caseOf p m)

theorem allM_cases : allC.all (fun x => allM x.1 (pileM x.1 x.2.1) x.2.2 == lvM x) = true := by decide +kernel

theorem pileM_facts : ∀ x ∈ allH, (pileM x.1 x.2).length = (sheetM x.1 x.2).length ∧ ∀ q ∈ pileM x.1 x.2, q.x + q.y ≤ 100 := by decide +kernel

theorem sheets_nat {p : Prs} {m : Mk} (hp : Right p) (hm : RightM p m) : m.sheets = (m.sheets.toNat : Int) ∧ 1 ≤ m.sheets.toNat ∧ m.sheets.toNat ≤ 4 := by
  have h1 := hm.sheets
  have h2 := hp.sheets
  omega

theorem folds_size {p : Prs} {m : Mk} (hp : Right p) (hm : RightM p m) : 1 ≤ (foldsOf p m).size ∧ (foldsOf p m).size ≤ 4 := by
  have := (allF_mem (foldsOf_mem hp hm)).2
  rwa [codes_len] at this

theorem leaves_ok {p : Prs} {m : Mk} (hp : Right p) (hm : RightM p m) : PCall Try.prog 67 [p.av, m.av] (LL (lvOf p m)) := by
  have h96 := folded_all _ (mem_allH' hp hm)
  rw [strF_codes] at h96
  have hl := sheetM_len _ (mem_allH' hp hm)
  have hs := sheets_nat hp hm
  have hl' : (sheetM (codes (foldsOf p m)) m.half).length = 2 * ((sheetM (codes (foldsOf p m)) m.half).length / 2) := by simp only at hl; omega
  exact leaves67_ok p m m.sheets.toNat ((sheetM (codes (foldsOf p m)) m.half).length / 2) (sheetM (codes (foldsOf p m)) m.half) hm.fmt hs.1 hs.2 hl' (by simp only at hl; omega) h96

theorem all_ok {p : Prs} {m : Mk} (hp : Right p) (hm : RightM p m) : PCall Try.prog 69 [p.av, m.av] (LL (lvOf p m)) := by
  have h97 := pile_all _ (mem_allH' hp hm)
  rw [strF_codes] at h97
  have hl := sheetM_len _ (mem_allH' hp hm)
  have hf := pileM_facts _ (mem_allH' hp hm)
  have hs := sheets_nat hp hm
  have hl' : (pileM (codes (foldsOf p m)) m.half).length = 2 * ((sheetM (codes (foldsOf p m)) m.half).length / 2) := by simp only at hl hf; omega
  have := all69_ok p m m.sheets.toNat ((sheetM (codes (foldsOf p m)) m.half).length / 2) (pileM (codes (foldsOf p m)) m.half) hm.fmt hs.1 hs.2 hl' (by simp only at hl; omega) hf.2 (folds_size hp hm) h97
  have e := all_cases allM_cases hp hm
  have e2 : allM (codes (foldsOf p m)) (pileM (codes (foldsOf p m)) m.half) m.sheets.toNat = lvOf p m := eq_of_beq e
  rw [e2] at this
  exact this

theorem make68_ok (p : Prs) (m : Mk) : PCall Try.prog 68 [p.av, m.av] (I (enterE p m)) := by
  refine pcall Try.func68 tr68 rs68 fn68 (by simp [Try.ntmps68]) fun hfit => ?_
  have hl1 : p.fmts.length ≤ 140737488355328 := by simpa using fits_len (fits_agg (hfit 0) 0)
  have hl2 : p.pprs.length ≤ 140737488355328 := by simpa using fits_len (fits_agg (hfit 0) 1)
  have c0 := checkR_ok p
  have c1 := in_ok m.format 0 ((p.fmts.length : Int) - 1)
  have c2 := in_ok m.paper 0 ((p.pprs.length : Int) - 1)
  have c3 := in_ok m.sheets 1 p.sheets
  obtain ⟨R, hR⟩ : ∃ R, R = enterE p m := ⟨_, rfl⟩
  rw [← hR]
  unfold enterE errE at hR
  generalize checkE p = e at *
  simp -implicitDefEqProofs [m68]
  refine vCall_of c0 ?_
  simp -implicitDefEqProofs
  refine cond_bool (fun he => ?_) (fun he => ?_)
  · have h0 : e.2.2 ≠ 0 := by simpa using he
    rw [if_pos h0] at hR
    simp -implicitDefEqProofs [r68, hR]
  have h0 : e.2.2 = 0 := by simpa using he
  rw [if_neg (not_not_intro h0)] at hR
  unfold makeE at hR
  simp -implicitDefEqProofs
  refine ⟨i64 (by omega) (by omega), ?_⟩
  refine vCall_of c1 ?_
  by_cases h1 : 0 ≤ m.format ∧ m.format ≤ (p.fmts.length : Int) - 1
  case neg =>
    rw [if_pos (.inl h1)] at hR
    rw [decide_eq_false h1]
    simp -implicitDefEqProofs [r68, hR]
  rw [decide_eq_true h1]
  simp -implicitDefEqProofs
  refine ⟨i64 (by omega) (by omega), ?_⟩
  refine vCall_of c2 ?_
  by_cases h2 : 0 ≤ m.paper ∧ m.paper ≤ (p.pprs.length : Int) - 1
  case neg =>
    rw [if_pos (.inr h2)] at hR
    rw [decide_eq_false h2]
    simp -implicitDefEqProofs [r68, hR]
  rw [if_neg (fun h => h.elim (fun h => h h1) fun h => h h2)] at hR
  rw [decide_eq_true h2]
  simp -implicitDefEqProofs
  refine vCall_of c3 ?_
  by_cases h3 : 1 ≤ m.sheets ∧ m.sheets ≤ p.sheets
  case neg =>
    rw [if_pos h3] at hR
    rw [decide_eq_false h3]
    simp -implicitDefEqProofs [r68, hR]
  rw [if_neg (not_not_intro h3)] at hR
  rw [decide_eq_true h3]
  simp -implicitDefEqProofs
  obtain ⟨g, hg⟩ : ∃ g : Nat, m.format = g := ⟨m.format.toNat, by omega⟩
  have hgl : g < p.fmts.length := by omega
  rw [foldsOf_at hg hgl] at hR
  cases hh : m.half with
  | false =>
    rw [hh, if_neg (by simp)] at hR
    simp -implicitDefEqProofs [r68, hR]
  | true =>
    rw [hh] at hR
    by_cases h4 : m.sheets = 1
    · have h4' : (m.sheets != 1) = false := by simp [h4]
      simp -implicitDefEqProofs [h4', hg, hgl]
      by_cases h5 : p.fmts[g].folds.size < 2
      · rw [if_pos ⟨rfl, .inr h5⟩] at hR
        have h5' : (p.fmts[g].folds.size : Int) < 2 := by omega
        simp -implicitDefEqProofs [r68, hR, h5']
      · rw [if_neg (by simp [h4, h5])] at hR
        have h5' : ¬ (p.fmts[g].folds.size : Int) < 2 := by omega
        simp -implicitDefEqProofs [r68, hR, h5']
    · have h4' : (m.sheets != 1) = true := by simp [h4]
      rw [if_pos ⟨rfl, .inl h4⟩] at hR
      simp -implicitDefEqProofs [h4', r68, hR]

/-- What Leaves returns. -/
def leavesR (p : Prs) (m : Mk) : List Lf := if enterE p m = 0 then lvOf p m else []

theorem pOr_ok {p : Prs} {m : Mk} (h : enterE p m = 0) : pOr p = p := by
  unfold pOr; rw [if_neg]; simpa using (enterE_zero h).1

theorem leaves20_ok (p : Prs) (m : Mk) : PCall Try.prog 20 [p.av, m.av] (.tuple [LL (leavesR p m), I (enterE p m)]) := by
  refine pcall Try.func20 tr20 rs20 fn20 (by simp [Try.ntmps20]) fun hfit => ?_
  have c1 := enter_ok p m
  have c2 : enterE p m = 0 → PCall Try.prog 67 [p.av, m.av] (LL (lvOf p m)) := fun h => leaves_ok (right_of (enterE_zero h).1) (rightM_of (enterE_zero h).2)
  have hq : enterE p m = 0 → pOr p = p := pOr_ok
  obtain ⟨R, hR⟩ : ∃ R, R = leavesR p m := ⟨_, rfl⟩
  rw [← hR]
  unfold leavesR at hR
  generalize lvOf p m = l at *
  generalize enterE p m = e at *
  generalize pOr p = po at *
  simp -implicitDefEqProofs [m20]
  refine vCall_of c1 ?_
  simp -implicitDefEqProofs
  intro b
  refine cond_bool (fun he => ?_) (fun he => ?_)
  · have h0 : e ≠ 0 := by simpa using he
    rw [if_neg h0] at hR
    simp -implicitDefEqProofs [r20, hR]
  · have h0 : e = 0 := by simpa using he
    rw [if_pos h0] at hR
    have c2 := c2 h0
    obtain rfl := hq h0
    simp -implicitDefEqProofs
    refine vCall_of c2 ?_
    simp -implicitDefEqProofs [r20, hR, h0]

theorem leaves21_ok (p : Prs) (m : Mk) : PCall Try.prog 21 [p.av, m.av] (.tuple [LL (leavesR p m), I (enterE p m)]) := by
  refine pcall Try.func21 tr21 rs21 fn21 (by simp [Try.ntmps21]) fun hfit => ?_
  have c1 := make68_ok p m
  have c2 : enterE p m = 0 → PCall Try.prog 69 [p.av, m.av] (LL (lvOf p m)) := fun h => all_ok (right_of (enterE_zero h).1) (rightM_of (enterE_zero h).2)
  obtain ⟨R, hR⟩ : ∃ R, R = leavesR p m := ⟨_, rfl⟩
  rw [← hR]
  unfold leavesR at hR
  generalize lvOf p m = l at *
  generalize enterE p m = e at *
  simp -implicitDefEqProofs [m21]
  refine vCall_of c1 ?_
  simp -implicitDefEqProofs
  refine cond_bool (fun he => ?_) (fun he => ?_)
  · have h0 : e ≠ 0 := by simpa using he
    rw [if_neg h0] at hR
    simp -implicitDefEqProofs [r21, hR]
  · have h0 : e = 0 := by simpa using he
    rw [if_pos h0] at hR
    simp -implicitDefEqProofs
    refine vCall_of (c2 h0) ?_
    simp -implicitDefEqProofs [r21, hR, h0]
end Go.Proofs.Ytcfeipphmklakaa

namespace Go.Proofs.Ytcfeipphmklakaa
open Go.Avm

theorem same_ok (a : List Lf) : PCall Try.prog 22 [LL a, LL a] (B true) := by
  refine pcall Try.func22 tr22 rs22 fn22 (by simp [Try.ntmps22]) fun hfit => ?_
  have hl := fits_len (hfit 0)
  simp only [List.length_map] at hl
  simp -implicitDefEqProofs [m22]
  refine loop_up a.length (fun k s => s.env 0 = LL a ∧ s.env 1 = LL a ∧ s.env 5 = I k) ?_ ?_
  · simp
  · rintro k s hk ⟨e0, e1, e5⟩
    simp -implicitDefEqProofs [e0, e5]
    refine cond_dec (fun hlt => ?_) (fun hge => ?_)
    · have hlt : k < a.length := by omega
      simp -implicitDefEqProofs [e0, e1, e5, hlt]
      exact ⟨i64 (by omega) (by omega), round_ok hlt ⟨by simp [e0], by simp [e1], by simp⟩⟩
    · simp -implicitDefEqProofs [r22]

def IntsI (a b : List Int) (k : Nat) (s : St) : Prop := ∃ q : Bool, s.env 5 = B q ∧ (q = false → a ≠ b) ∧ s.env 6 = I k ∧ (q = true → a.take k = b.take k)

theorem ints_ok (a b : List Int) : PCall Try.prog 25 [IL a, IL b] (B (a == b)) := by
  refine pcall Try.func25 tr25 rs25 fn25 (by simp [Try.ntmps25]) fun hfit => ?_
  have hl := fits_len (hfit 0)
  simp only [List.length_map] at hl
  simp -implicitDefEqProofs [m25]
  by_cases h : a.length = b.length
  · have h' : ((a.length : Int) == b.length) = true := by simp [h]
    refine loop_up a.length (fun k s => s.env 0 = IL a ∧ s.env 1 = IL b ∧ IntsI a b k s) ?_ ?_
    · simp; exact ⟨true, by simp [h], by simp, by simp, by simp⟩
    · rintro k s hk ⟨e0, e1, q, e5, hq, e6, ht⟩
      simp -implicitDefEqProofs [e0, e5]
      cases q with
      | false =>
        have hne : (a == b) = false := by simpa using hq rfl
        simp -implicitDefEqProofs [r25, e5, hne]
      | true =>
        simp -implicitDefEqProofs [e0, e6]
        refine cond_dec (fun hlt => ?_) (fun hge => ?_)
        · have hlt : k < a.length := by omega
          have hlt2 : k < b.length := by omega
          simp -implicitDefEqProofs [e0, e1, e6, hlt, hlt2]
          refine ⟨i64 (by omega) (by omega), round_ok hlt ⟨by simp [e0], by simp [e1], ⟨a[k] == b[k], by simp, fun hx => ?_, by simp, fun hx => ?_⟩⟩⟩
          · intro hab; subst hab; simp at hx
          · have hx' : a[k] = b[k] := by simpa using hx
            rw [take_snoc hlt, take_snoc hlt2, ht rfl, hx']
        · have hk' : k = a.length := by omega
          have hab : a = b := by
            have := ht rfl
            rw [hk', List.take_length] at this
            rw [this, h, List.take_length]
          have hne : (a == b) = true := by simpa using hab
          simp -implicitDefEqProofs [r25, e5, hne]
  · have h' : ((a.length : Int) == b.length) = false := beq_eq_false_iff_ne.2 (by omega)
    have hne : (a == b) = false := by
      simp
      intro hab; exact h (by rw [hab])
    refine loop_up 0 (fun k s => s.env 5 = B false) ?_ ?_
    · simp [h']
    · rintro k s hk e5
      simp -implicitDefEqProofs [r25, e5, hne]
end Go.Proofs.Ytcfeipphmklakaa

namespace Go.Proofs.Ytcfeipphmklakaa
open Go.Avm

/-- The numbers below one with a property. -/
def selT (q : Nat → Bool) (n : Nat) : List Int := ((List.range n).filter q).map Int.ofNat
theorem selT_zero (q : Nat → Bool) : selT q 0 = [] := rfl
theorem selT_succ (q : Nat → Bool) (n : Nat) : selT q (n + 1) = selT q n ++ if q n then [(n : Int)] else [] := by
  unfold selT
  rw [List.range_succ, List.filter_append, List.map_append]
  congr 1
  cases h : q n <;> simp [h]
theorem selT_t {q : Nat → Bool} {n : Nat} (h : q n = true) : selT q (n + 1) = selT q n ++ [(n : Int)] := by rw [selT_succ, h]; rfl
theorem selT_f {q : Nat → Bool} {n : Nat} (h : q n = false) : selT q (n + 1) = selT q n := by rw [selT_succ, h]; simp
theorem selT_len (q : Nat → Bool) (n : Nat) : (selT q n).length ≤ n := by
  unfold selT
  rw [List.length_map]
  exact Nat.le_trans (List.length_filter_le _ _) (by simp)

def plc (x : Lf) : Int × Int × Int := (x.sheet, x.col, x.row)

set_option maxRecDepth 100000 in
theorem nodup_cases : allC.all (fun x => decide ((lvM x).map plc).Nodup) = true := by decide +kernel

set_option maxRecDepth 100000 in
theorem len_cases : allC.all (fun x => decide ((lvM x).length = x.2.2 * (sheetM x.1 x.2.1).length)) = true := by decide +kernel

theorem lv_nodup {p : Prs} {m : Mk} (hp : Right p) (hm : RightM p m) : ((lvOf p m).map plc).Nodup := by
  have := all_cases nodup_cases hp hm
  exact of_decide_eq_true this

theorem lv_len {p : Prs} {m : Mk} (hp : Right p) (hm : RightM p m) : 2 ≤ (lvOf p m).length ∧ (lvOf p m).length ≤ 64 := by
  have h1 := of_decide_eq_true (all_cases len_cases hp hm)
  have h2 := sheetM_len _ (mem_allH' hp hm)
  have h3 := sheets_nat hp hm
  have h4 : (lvOf p m).length = m.sheets.toNat * (sheetM (codes (foldsOf p m)) m.half).length := h1
  simp only at h2
  rw [h4]
  have h5 := Nat.mul_le_mul h3.2.2 h2.2.2
  have h6 := Nat.mul_le_mul h3.2.1 h2.2.1
  omega

theorem lv_inj {p : Prs} {m : Mk} (hp : Right p) (hm : RightM p m) {i j : Nat} (hi : i < (lvOf p m).length) (hj : j < (lvOf p m).length) (h : plc (lvOf p m)[i] = plc (lvOf p m)[j]) : i = j := by
  have hn := lv_nodup hp hm
  rw [List.Nodup, List.pairwise_iff_getElem] at hn
  rcases Nat.lt_trichotomy i j with hij | hij | hij
  · exact (hn i j (by simpa using hi) (by simpa using hj) hij (by simpa using h)).elim
  · exact hij
  · exact (hn j i (by simpa using hj) (by simpa using hi) hij (by simpa using h.symm)).elim

end Go.Proofs.Ytcfeipphmklakaa

namespace Go.Proofs.Ytcfeipphmklakaa
open Go.Avm

theorem eqCells_lf (x y : Lf) : eqCells [false, false, false, true, true] [I x.sheet, I x.col, I x.row, B x.inner, B x.turned] [I y.sheet, I y.col, I y.row, B y.inner, B y.turned] = some (decide (x = y)) := by
  obtain ⟨a, b, c, d, e⟩ := x
  obtain ⟨a', b', c', d', e'⟩ := y
  simp only [eqCells, if_true, Option.map_some, Lf.mk.injEq, Option.some.injEq]
  by_cases h1 : a = a' <;> by_cases h2 : b = b' <;> by_cases h3 : c = c' <;> by_cases h4 : d = d' <;> by_cases h5 : e = e' <;> simp [h1, h2, h3, h4, h5]

def mateQ (l : List Lf) (k i : Nat) : Bool := (i != k) && (l.getD i zLf).sheet == (l.getD k zLf).sheet

/-- What Mates returns. -/
def matesR (p : Prs) (m : Mk) (leaf : Int) : List Int × Int × Int :=
  if enterE p m ≠ 0 then ([], 0, enterE p m)
  else if ¬ (0 ≤ leaf ∧ leaf ≤ (lvOf p m).length - 1) then ([], 0, 4)
  else (selT (mateQ (lvOf p m) leaf.toNat) (lvOf p m).length, (lvOf p m).length - 1 - leaf, 0)

theorem mates26_ok (p : Prs) (m : Mk) (leaf : Int) : PCall Try.prog 26 [p.av, m.av, I leaf] (.tuple [IL (matesR p m leaf).1, I (matesR p m leaf).2.1, I (matesR p m leaf).2.2]) := by
  refine pcall Try.func26 tr26 rs26 fn26 (by simp [Try.ntmps26]) fun hfit => ?_
  have c1 := enter_ok p m
  have c2 : enterE p m = 0 → PCall Try.prog 67 [p.av, m.av] (LL (lvOf p m)) := fun h => leaves_ok (right_of (enterE_zero h).1) (rightM_of (enterE_zero h).2)
  have hn : enterE p m = 0 → ∀ (i j : Nat) (hi : i < (lvOf p m).length) (hj : j < (lvOf p m).length), (lvOf p m)[i] = (lvOf p m)[j] → i = j :=
    fun h i j hi hj e => lv_inj (right_of (enterE_zero h).1) (rightM_of (enterE_zero h).2) hi hj (by rw [e])
  have hlen : enterE p m = 0 → 2 ≤ (lvOf p m).length ∧ (lvOf p m).length ≤ 64 := fun h => lv_len (right_of (enterE_zero h).1) (rightM_of (enterE_zero h).2)
  have hq : enterE p m = 0 → pOr p = p := pOr_ok
  obtain ⟨R, hR⟩ : ∃ R, R = matesR p m leaf := ⟨_, rfl⟩
  rw [← hR]
  unfold matesR at hR
  generalize lvOf p m = l at *
  generalize enterE p m = e at *
  generalize pOr p = po at *
  simp -implicitDefEqProofs [m26]
  refine vCall_of c1 ?_
  simp -implicitDefEqProofs
  intro b
  refine cond_bool (fun he => ?_) (fun he => ?_)
  · have h0 : e ≠ 0 := by simpa using he
    rw [if_pos h0] at hR
    simp -implicitDefEqProofs [r26, hR]
  have h0 : e = 0 := by simpa using he
  rw [if_neg (not_not_intro h0)] at hR
  have c2 := c2 h0
  have hn := hn h0
  have hlen := hlen h0
  obtain rfl := hq h0
  simp -implicitDefEqProofs
  refine vCall_of c2 ?_
  simp -implicitDefEqProofs
  refine ⟨i64 (by omega) (by omega), ?_⟩
  have c3 := outside_ok 0 ((l.length : Int) - 1) [leaf]
  rw [out1] at c3
  refine vCall_of c3 ?_
  by_cases h1 : 0 ≤ leaf ∧ leaf ≤ (l.length : Int) - 1
  case neg =>
    rw [if_pos h1] at hR
    rw [decide_eq_false h1]
    simp -implicitDefEqProofs [r26, hR]
  rw [if_neg (not_not_intro h1)] at hR
  rw [decide_eq_true h1]
  obtain ⟨k, rfl⟩ : ∃ k : Nat, leaf = k := ⟨leaf.toNat, by omega⟩
  have hk : k < l.length := by omega
  simp -implicitDefEqProofs
  refine loop_up l.length (fun j s => s.env 2 = I k ∧ s.env 6 = .slice 1 ((selT (mateQ l k) j).map I) 7 ∧ s.env 10 = LL l ∧ s.env 31 = LL l ∧ s.env 32 = I l.length ∧ s.env 33 = I j) ?_ ?_
  · simp [selT_zero]
  rintro j s hj ⟨e2, e6, e10, e31, e32, e33⟩
  simp -implicitDefEqProofs [e32, e33]
  refine cond_dec (fun hlt => ?_) (fun hge => ?_)
  · have hlt : j < l.length := by omega
    have hsl := selT_len (mateQ l k) j
    simp -implicitDefEqProofs [e2, e10, e31, e33, hlt, hk]
    intro b2 hb2
    by_cases hs : l[j].sheet = l[k].sheet
    · have hs' : (l[j].sheet == l[k].sheet) = true := by simp [hs]
      simp -implicitDefEqProofs [hs', e2, e10, e31, e33, hlt, hk, -eqCells, eqCells_lf]
      refine cond_bool (fun he => ?_) (fun he => ?_)
      · have hne : l[j] ≠ l[k] := by simpa using he
        have hjk : j ≠ k := fun h => by subst h; exact hne rfl
        have hf : mateQ l k j = true := by simp [mateQ, List.getD_eq_getElem?_getD, hlt, hk, hs, hjk]
        simp -implicitDefEqProofs [e6, e33]
        refine ⟨by omega, by omega, i64 (by omega) (by omega), round_ok hlt ⟨by simp [e2], by simp [selT_t hf], by simp [e10], by simp [e31], by simp [e32], by simp⟩⟩
      · have heq : l[j] = l[k] := by simpa using he
        have hjk : j = k := hn j k hlt hk heq
        have hf : mateQ l k j = false := by simp [mateQ, hjk]
        simp -implicitDefEqProofs [e33]
        refine ⟨i64 (by omega) (by omega), round_ok hlt ⟨by simp [e2], by simp [e6, selT_f hf], by simp [e10], by simp [e31], by simp [e32], by simp⟩⟩
    · have hs' : (l[j].sheet == l[k].sheet) = false := by simp [hs]
      have hf : mateQ l k j = false := by simp [mateQ, List.getD_eq_getElem?_getD, hlt, hk, hs']
      simp -implicitDefEqProofs [hs', e2, e10, e31, e33, hlt, hk]
      refine ⟨i64 (by omega) (by omega), round_ok hlt ⟨by simp [e2], by simp [e6, selT_f hf], by simp [e10], by simp [e31], by simp [e32], by simp⟩⟩
  · obtain rfl : j = l.length := by omega
    simp -implicitDefEqProofs [e2, e6, e10]
    refine ⟨i64 (by omega) (by omega), i64 (by omega) (by omega), ?_⟩
    simp -implicitDefEqProofs [r26, hR]

theorem mates27_ok (p : Prs) (m : Mk) (leaf : Int) : PCall Try.prog 27 [p.av, m.av, I leaf] (.tuple [IL (matesR p m leaf).1, I (matesR p m leaf).2.1, I (matesR p m leaf).2.2]) := by
  refine pcall Try.func27 tr27 rs27 fn27 (by simp [Try.ntmps27]) fun hfit => ?_
  have c1 := make68_ok p m
  have c2 : enterE p m = 0 → PCall Try.prog 69 [p.av, m.av] (LL (lvOf p m)) := fun h => all_ok (right_of (enterE_zero h).1) (rightM_of (enterE_zero h).2)
  have hlen : enterE p m = 0 → 2 ≤ (lvOf p m).length ∧ (lvOf p m).length ≤ 64 := fun h => lv_len (right_of (enterE_zero h).1) (rightM_of (enterE_zero h).2)
  obtain ⟨R, hR⟩ : ∃ R, R = matesR p m leaf := ⟨_, rfl⟩
  rw [← hR]
  unfold matesR at hR
  generalize lvOf p m = l at *
  generalize enterE p m = e at *
  simp -implicitDefEqProofs [m27]
  refine vCall_of c1 ?_
  simp -implicitDefEqProofs
  refine cond_bool (fun he => ?_) (fun he => ?_)
  · have h0 : e ≠ 0 := by simpa using he
    rw [if_pos h0] at hR
    simp -implicitDefEqProofs [r27, hR]
  have h0 : e = 0 := by simpa using he
  rw [if_neg (not_not_intro h0)] at hR
  have c2 := c2 h0
  have hlen := hlen h0
  simp -implicitDefEqProofs
  refine vCall_of c2 ?_
  simp -implicitDefEqProofs
  refine ⟨i64 (by omega) (by omega), ?_⟩
  have c3 := in_ok leaf 0 ((l.length : Int) - 1)
  refine vCall_of c3 ?_
  by_cases h1 : 0 ≤ leaf ∧ leaf ≤ (l.length : Int) - 1
  case neg =>
    rw [if_pos h1] at hR
    rw [decide_eq_false h1]
    simp -implicitDefEqProofs [r27, hR]
  rw [if_neg (not_not_intro h1)] at hR
  rw [decide_eq_true h1]
  obtain ⟨k, rfl⟩ : ∃ k : Nat, leaf = k := ⟨leaf.toNat, by omega⟩
  have hk : k < l.length := by omega
  simp -implicitDefEqProofs
  refine loop_up l.length (fun j s => s.env 2 = I k ∧ s.env 10 = LL l ∧ s.env 11 = .slice 1 ((selT (mateQ l k) j).map I) 12 ∧ s.env 12 = I j) ?_ ?_
  · simp [selT_zero]
  rintro j s hj ⟨e2, e10, e11, e12⟩
  simp -implicitDefEqProofs [e10, e12]
  refine cond_dec (fun hlt => ?_) (fun hge => ?_)
  · have hlt : j < l.length := by omega
    have hsl := selT_len (mateQ l k) j
    by_cases hjk : j = k
    · have hjk' : ((j : Int) != (k : Int)) = false := by simp [hjk]
      have hf : mateQ l k j = false := by simp [mateQ, hjk]
      simp -implicitDefEqProofs [e2, e10, e12, hlt, hk, hjk']
      refine ⟨i64 (by omega) (by omega), round_ok hlt ⟨by simp [e2], by simp [e10], by simp [e11, selT_f hf], by simp⟩⟩
    · have hjk' : ((j : Int) != (k : Int)) = true := by simp; omega
      simp -implicitDefEqProofs [e2, e10, e12, hlt, hk, hjk']
      refine cond_bool (fun he => ?_) (fun he => ?_)
      · have hs : l[j].sheet = l[k].sheet := by simpa using he
        have hf : mateQ l k j = true := by simp [mateQ, List.getD_eq_getElem?_getD, hlt, hk, hs, hjk]
        simp -implicitDefEqProofs [e11, e12]
        refine ⟨by omega, by omega, i64 (by omega) (by omega), round_ok hlt ⟨by simp [e2], by simp [e10], by simp [selT_t hf], by simp⟩⟩
      · have hs : ¬ l[j].sheet = l[k].sheet := by simpa using he
        have hf : mateQ l k j = false := by simp [mateQ, List.getD_eq_getElem?_getD, hlt, hk, hs]
        simp -implicitDefEqProofs [e12]
        refine ⟨i64 (by omega) (by omega), round_ok hlt ⟨by simp [e2], by simp [e10], by simp [e11, selT_f hf], by simp⟩⟩
  · obtain rfl : j = l.length := by omega
    simp -implicitDefEqProofs [e2, e10, e11]
    refine ⟨i64 (by omega) (by omega), i64 (by omega) (by omega), ?_⟩
    simp -implicitDefEqProofs [r27, hR]
end Go.Proofs.Ytcfeipphmklakaa

namespace Go.Proofs.Ytcfeipphmklakaa
open Go.Avm

/-- Whether a piece of the watermark is in a leaf. -/
def markM (w : List Nat) (x : Lf) (h : Int) : Bool :=
  decide (4 * x.col ≤ (timesN w 120 : Int) * (1 + 2 * h) ∧ (timesN w 120 : Int) * (1 + 2 * h) ≤ 4 * x.col + 4) && decide (2 * x.row ≤ (timesN w 121 : Int) ∧ (timesN w 121 : Int) ≤ 2 * x.row + 2)

theorem times_le : ∀ w ∈ allF, 1 ≤ timesN w 120 ∧ timesN w 120 ≤ 16 ∧ 1 ≤ timesN w 121 ∧ timesN w 121 ≤ 16 := by decide +kernel

/-- A leaf at a place that a sheet can have. -/
def okLf (s : Nat) (x : Lf) : Bool := decide (0 ≤ x.sheet ∧ x.sheet < s ∧ 0 ≤ x.col ∧ x.col < 16 ∧ 0 ≤ x.row ∧ x.row < 16)

set_option maxRecDepth 100000 in
theorem ok_cases : allC.all (fun x => (lvM x).all (okLf x.2.2)) = true := by decide +kernel

theorem lv_okLf {p : Prs} {m : Mk} (hp : Right p) (hm : RightM p m) {x : Lf} (hx : x ∈ lvOf p m) : 0 ≤ x.sheet ∧ x.sheet < m.sheets ∧ 0 ≤ x.col ∧ x.col < 16 ∧ 0 ≤ x.row ∧ x.row < 16 := by
  have := of_decide_eq_true (List.all_eq_true.1 (all_cases ok_cases hp hm) x hx)
  have hs := sheets_nat hp hm
  have e : ((caseOf p m).2.2 : Int) = m.sheets := hs.1.symm
  omega

theorem grid_ok {p : Prs} {m : Mk} (hp : Right p) (hm : RightM p m) : PCall Try.prog 70 [S (foldsOf p m)] (.tuple [I (timesN (codes (foldsOf p m)) 120), I (timesN (codes (foldsOf p m)) 121)]) := by
  have := grid_all _ (foldsOf_mem hp hm)
  rwa [strF_codes] at this
theorem timesx_ok {p : Prs} {m : Mk} (hp : Right p) (hm : RightM p m) : PCall Try.prog 72 [S (foldsOf p m), .lit (.int .u8 120)] (I (timesN (codes (foldsOf p m)) 120)) := by
  have := times_120 _ (foldsOf_mem hp hm)
  rwa [strF_codes] at this
theorem timesy_ok {p : Prs} {m : Mk} (hp : Right p) (hm : RightM p m) : PCall Try.prog 72 [S (foldsOf p m), .lit (.int .u8 121)] (I (timesN (codes (foldsOf p m)) 121)) := by
  have := times_121 _ (foldsOf_mem hp hm)
  rwa [strF_codes] at this

theorem mul_small {a h : Int} (ha : 1 ≤ a ∧ a ≤ 16) (hh : 0 ≤ h ∧ h ≤ 1) : 1 ≤ a * (1 + 2 * h) ∧ a * (1 + 2 * h) ≤ 48 := by
  have : h = 0 ∨ h = 1 := by omega
  rcases this with rfl | rfl <;> omega

theorem mark_ok {p : Prs} {m : Mk} (hp : Right p) (hm : RightM p m) (x : Lf) (hx : 0 ≤ x.col ∧ x.col < 16 ∧ 0 ≤ x.row ∧ x.row < 16) (h : Int) (hh : 0 ≤ h ∧ h ≤ 1) :
    PCall Try.prog 74 [p.av, m.av, x.av, I h] (B (markM (codes (foldsOf p m)) x h)) := by
  refine pcall Try.func74 tr74 rs74 fn74 (by simp [Try.ntmps74]) fun hfit => ?_
  have c1 := folds71_ok p m hm.fmt
  have c2 := grid_ok hp hm
  have ht := times_le _ (foldsOf_mem hp hm)
  obtain ⟨R, hR⟩ : ∃ R, R = markM (codes (foldsOf p m)) x h := ⟨_, rfl⟩
  rw [← hR]
  unfold markM at hR
  generalize timesN (codes (foldsOf p m)) 120 = a at *
  generalize timesN (codes (foldsOf p m)) 121 = b at *
  generalize foldsOf p m = f at *
  have hmul := mul_small (a := a) (h := h) (by omega) hh
  generalize hv : (a : Int) * (1 + 2 * h) = v at *
  have c3 := outside_ok (4 * x.col) (4 * x.col + 4) [v]
  have c4 := outside_ok (2 * x.row) (2 * x.row + 2) [(b : Int)]
  rw [out1] at c3 c4
  simp -implicitDefEqProofs [m74]
  refine vCall_of c1 ?_
  simp -implicitDefEqProofs
  refine vCall_of c2 ?_
  simp -implicitDefEqProofs [hv]
  refine ⟨i64 (by omega) (by omega), i64 (by omega) (by omega), i64 (by omega) (by omega), i64 (by omega) (by omega), i64 (by omega) (by omega), ?_⟩
  refine vCall_of c3 ?_
  by_cases h1 : 4 * x.col ≤ v ∧ v ≤ 4 * x.col + 4
  · rw [decide_eq_true h1] at hR ⊢
    simp -implicitDefEqProofs
    refine ⟨i64 (by omega) (by omega), i64 (by omega) (by omega), ?_⟩
    refine vCall_of c4 ?_
    simp -implicitDefEqProofs [r74, hR]
  · rw [decide_eq_false h1] at hR ⊢
    simp -implicitDefEqProofs [r74, hR]

theorem has_ok {p : Prs} {m : Mk} (hp : Right p) (hm : RightM p m) (x : Lf) (hx : 0 ≤ x.col ∧ x.col < 16 ∧ 0 ≤ x.row ∧ x.row < 16) (h : Int) (hh : 0 ≤ h ∧ h ≤ 1) :
    PCall Try.prog 75 [p.av, m.av, x.av, I h] (B (markM (codes (foldsOf p m)) x h)) := by
  refine pcall Try.func75 tr75 rs75 fn75 (by simp [Try.ntmps75]) fun hfit => ?_
  have c1 := timesx_ok hp hm
  have c2 := timesy_ok hp hm
  have ht := times_le _ (foldsOf_mem hp hm)
  obtain ⟨R, hR⟩ : ∃ R, R = markM (codes (foldsOf p m)) x h := ⟨_, rfl⟩
  rw [← hR]
  unfold markM at hR
  generalize timesN (codes (foldsOf p m)) 120 = a at *
  generalize timesN (codes (foldsOf p m)) 121 = b at *
  obtain ⟨g, hg⟩ : ∃ g : Nat, m.format = g := ⟨m.format.toNat, by have := hm.fmt; omega⟩
  have hgl : g < p.fmts.length := by have := hm.fmt; omega
  rw [foldsOf_at hg hgl] at c1 c2
  have hmul := mul_small (a := a) (h := h) (by omega) hh
  generalize hv : (a : Int) * (1 + 2 * h) = v at *
  have c3 := in_ok v (4 * x.col) (4 * x.col + 4)
  have c4 := in_ok b (2 * x.row) (2 * x.row + 2)
  simp -implicitDefEqProofs [m75, hg, hgl]
  refine vCall_of c1 ?_
  simp -implicitDefEqProofs
  refine vCall_of c2 ?_
  simp -implicitDefEqProofs [hv]
  refine ⟨i64 (by omega) (by omega), i64 (by omega) (by omega), i64 (by omega) (by omega), i64 (by omega) (by omega), i64 (by omega) (by omega), ?_⟩
  refine vCall_of c3 ?_
  by_cases h1 : 4 * x.col ≤ v ∧ v ≤ 4 * x.col + 4
  · rw [decide_eq_true h1] at hR ⊢
    simp -implicitDefEqProofs
    refine ⟨i64 (by omega) (by omega), i64 (by omega) (by omega), ?_⟩
    refine vCall_of c4 ?_
    simp -implicitDefEqProofs [r75, hR]
  · rw [decide_eq_false h1] at hR ⊢
    simp -implicitDefEqProofs [r75, hR]
end Go.Proofs.Ytcfeipphmklakaa

namespace Go.Proofs.Ytcfeipphmklakaa
open Go.Avm

def markQ (w : List Nat) (l : List Lf) (hs : List Int) (i : Nat) : Bool := markM w (l.getD i zLf) (hs.getD (l.getD i zLf).sheet.toNat 0)

/-- What Marked returns. -/
def markedR (p : Prs) (m : Mk) (hs : List Int) : List Int × Int :=
  if enterE p m ≠ 0 then ([], enterE p m)
  else if (hs.length : Int) ≠ m.sheets then ([], 3)
  else if out 0 1 hs = true then ([], 7)
  else (selT (markQ (codes (foldsOf p m)) (lvOf p m) hs) (lvOf p m).length, 0)

theorem out_false {lo hi : Int} {l : List Int} (h : out lo hi l = false) {k : Nat} (hk : k < l.length) : lo ≤ l[k] ∧ l[k] ≤ hi := by
  unfold out at h
  rw [List.any_eq_false] at h
  have := h _ (List.getElem_mem hk)
  simp at this
  omega

theorem marked28_ok (p : Prs) (m : Mk) (hs : List Int) : PCall Try.prog 28 [p.av, m.av, IL hs] (.tuple [IL (markedR p m hs).1, I (markedR p m hs).2]) := by
  refine pcall Try.func28 tr28 rs28 fn28 (by simp [Try.ntmps28]) fun hfit => ?_
  have c1 := enter_ok p m
  have c2 : enterE p m = 0 → PCall Try.prog 67 [p.av, m.av] (LL (lvOf p m)) := fun h => leaves_ok (right_of (enterE_zero h).1) (rightM_of (enterE_zero h).2)
  have hlen : enterE p m = 0 → 2 ≤ (lvOf p m).length ∧ (lvOf p m).length ≤ 64 := fun h => lv_len (right_of (enterE_zero h).1) (rightM_of (enterE_zero h).2)
  have hok : enterE p m = 0 → ∀ x ∈ lvOf p m, 0 ≤ x.sheet ∧ x.sheet < m.sheets ∧ 0 ≤ x.col ∧ x.col < 16 ∧ 0 ≤ x.row ∧ x.row < 16 := fun h x hx => lv_okLf (right_of (enterE_zero h).1) (rightM_of (enterE_zero h).2) hx
  have c4 : enterE p m = 0 → ∀ (x : Lf) (hx : 0 ≤ x.col ∧ x.col < 16 ∧ 0 ≤ x.row ∧ x.row < 16) (h : Int) (hh : 0 ≤ h ∧ h ≤ 1), PCall Try.prog 74 [p.av, m.av, x.av, I h] (B (markM (codes (foldsOf p m)) x h)) :=
    fun h => mark_ok (right_of (enterE_zero h).1) (rightM_of (enterE_zero h).2)
  have hq : enterE p m = 0 → pOr p = p := pOr_ok
  have c3 := outside_ok 0 1 hs
  obtain ⟨R, hR⟩ : ∃ R, R = markedR p m hs := ⟨_, rfl⟩
  rw [← hR]
  unfold markedR at hR
  generalize lvOf p m = l at *
  generalize enterE p m = e at *
  generalize codes (foldsOf p m) = w at *
  generalize pOr p = po at *
  simp -implicitDefEqProofs [m28]
  refine vCall_of c1 ?_
  simp -implicitDefEqProofs
  intro b
  refine cond_bool (fun he => ?_) (fun he => ?_)
  · have h0 : e ≠ 0 := by simpa using he
    rw [if_pos h0] at hR
    simp -implicitDefEqProofs [r28, hR]
  have h0 : e = 0 := by simpa using he
  rw [if_neg (not_not_intro h0)] at hR
  have c2 := c2 h0
  have hlen := hlen h0
  have hok := hok h0
  have c4 := c4 h0
  obtain rfl := hq h0
  simp -implicitDefEqProofs
  refine cond_bool (fun he => ?_) (fun he => ?_)
  · have h1 : (hs.length : Int) ≠ m.sheets := by simpa using he
    rw [if_pos h1] at hR
    simp -implicitDefEqProofs [r28, hR]
  have h1 : (hs.length : Int) = m.sheets := by simpa using he
  rw [if_neg (not_not_intro h1)] at hR
  simp -implicitDefEqProofs
  refine vCall_of c3 ?_
  cases ho : out 0 1 hs with
  | true =>
    rw [if_pos ho] at hR
    simp -implicitDefEqProofs [r28, hR]
  | false =>
  rw [if_neg (by simp [ho])] at hR
  simp -implicitDefEqProofs
  refine vCall_of c2 ?_
  simp -implicitDefEqProofs
  refine loop_up l.length (fun j s => s.env 2 = IL hs ∧ s.env 4 = .ref m.cs ∧ s.env 6 = .slice 1 ((selT (markQ w l hs) j).map I) 7 ∧ s.env 9 = .func (.func 74) [po.av] [] ∧ s.env 35 = LL l ∧ s.env 36 = I l.length ∧ s.env 37 = I j) ?_ ?_
  · simp [selT_zero]
  rintro j s hj ⟨e2, e4, e6, e9, e35, e36, e37⟩
  simp -implicitDefEqProofs [e36, e37]
  refine cond_dec (fun hlt => ?_) (fun hge => ?_)
  · have hlt : j < l.length := by omega
    have hsl := selT_len (markQ w l hs) j
    have hx := hok _ (List.getElem_mem hlt)
    obtain ⟨t, ht⟩ : ∃ t : Nat, l[j].sheet = t := ⟨l[j].sheet.toNat, by omega⟩
    have hth : t < hs.length := by omega
    have hmq : markQ w l hs j = markM w l[j] hs[t] := by simp [markQ, List.getD_eq_getElem?_getD, hlt, ht, hth]
    have c5 := c4 l[j] ⟨hx.2.2.1, hx.2.2.2.1, hx.2.2.2.2⟩ hs[t] (out_false ho hth)
    simp -implicitDefEqProofs [e2, e4, e9, e35, e37, hlt, ht, hth]
    intro b2 hb2
    have c5' : PCall Try.prog 74 [po.av, m.av, .agg [I t, I l[j].col, I l[j].row, B l[j].inner, B l[j].turned], I hs[t]] (B (markM w l[j] hs[t])) := by rw [← ht]; exact c5
    refine vCall_of c5' ?_
    simp -implicitDefEqProofs
    refine cond_bool (fun he => ?_) (fun he => ?_)
    · rw [← hmq] at he
      simp -implicitDefEqProofs [e6, e37]
      refine ⟨by omega, by omega, i64 (by omega) (by omega), round_ok hlt ⟨by simp [e2], by simp [e4], by simp [selT_t he], by simp [e9], by simp [e35], by simp [e36], by simp⟩⟩
    · rw [← hmq] at he
      simp -implicitDefEqProofs [e37]
      refine ⟨i64 (by omega) (by omega), round_ok hlt ⟨by simp [e2], by simp [e4], by simp [e6, selT_f he], by simp [e9], by simp [e35], by simp [e36], by simp⟩⟩
  · obtain rfl : j = l.length := by omega
    simp -implicitDefEqProofs [e6, r28, hR]

theorem out_snoc (lo hi : Int) (l : List Int) {k : Nat} (hk : k < l.length) : out lo hi (l.take (k + 1)) = (out lo hi (l.take k) || !decide (lo ≤ l[k] ∧ l[k] ≤ hi)) := by
  rw [take_snoc hk]
  unfold out
  rw [List.any_append]
  congr 1
  simp only [List.any_cons, List.any_nil, Bool.or_false]
  by_cases h1 : lo ≤ l[k] <;> by_cases h2 : l[k] ≤ hi <;> simp [h1, h2] <;> omega

theorem out_take {lo hi : Int} {l : List Int} {k : Nat} (h : out lo hi (l.take k) = true) : out lo hi l = true := by
  unfold out at *
  rw [List.any_eq_true] at *
  obtain ⟨x, hx, h⟩ := h
  exact ⟨x, List.mem_of_mem_take hx, h⟩

def HalfI (hs : List Int) (k : Nat) (s : St) : Prop := ∃ e : Int, s.env 8 = I e ∧ (e = 0 ∨ e = 7) ∧ (e ≠ 0 ↔ out 0 1 (hs.take k) = true)

theorem marked29_ok (p : Prs) (m : Mk) (hs : List Int) : PCall Try.prog 29 [p.av, m.av, IL hs] (.tuple [IL (markedR p m hs).1, I (markedR p m hs).2]) := by
  refine pcall Try.func29 tr29 rs29 fn29 (by simp [Try.ntmps29]) fun hfit => ?_
  have hl := fits_len (hfit 2)
  simp only [List.length_map] at hl
  have c1 := make68_ok p m
  have c2 : enterE p m = 0 → PCall Try.prog 69 [p.av, m.av] (LL (lvOf p m)) := fun h => all_ok (right_of (enterE_zero h).1) (rightM_of (enterE_zero h).2)
  have hlen : enterE p m = 0 → 2 ≤ (lvOf p m).length ∧ (lvOf p m).length ≤ 64 := fun h => lv_len (right_of (enterE_zero h).1) (rightM_of (enterE_zero h).2)
  have hok : enterE p m = 0 → ∀ x ∈ lvOf p m, 0 ≤ x.sheet ∧ x.sheet < m.sheets ∧ 0 ≤ x.col ∧ x.col < 16 ∧ 0 ≤ x.row ∧ x.row < 16 := fun h x hx => lv_okLf (right_of (enterE_zero h).1) (rightM_of (enterE_zero h).2) hx
  have c4 : enterE p m = 0 → ∀ (x : Lf) (hx : 0 ≤ x.col ∧ x.col < 16 ∧ 0 ≤ x.row ∧ x.row < 16) (h : Int) (hh : 0 ≤ h ∧ h ≤ 1), PCall Try.prog 75 [p.av, m.av, x.av, I h] (B (markM (codes (foldsOf p m)) x h)) :=
    fun h => has_ok (right_of (enterE_zero h).1) (rightM_of (enterE_zero h).2)
  obtain ⟨R, hR⟩ : ∃ R, R = markedR p m hs := ⟨_, rfl⟩
  rw [← hR]
  unfold markedR at hR
  generalize lvOf p m = l at *
  generalize enterE p m = e at *
  generalize codes (foldsOf p m) = w at *
  simp -implicitDefEqProofs [m29]
  refine vCall_of c1 ?_
  by_cases h0 : e = 0
  case neg =>
    have h0' : (e == 0) = false := beq_eq_false_iff_ne.2 h0
    have h0'' : (e != 0) = true := by simp [h0]
    rw [if_pos h0] at hR
    simp -implicitDefEqProofs [h0']
    refine loop_up 0 (fun k s => s.env 2 = IL hs ∧ s.env 8 = I e ∧ s.env 9 = I 0) ?_ ?_
    · simp
    · rintro k s hk ⟨e2, e8, e9⟩
      simp -implicitDefEqProofs [e2, e8, e9]
      by_cases hz : 0 < hs.length
      · simp -implicitDefEqProofs [hz, h0', e8, h0'', r29, hR]
      · simp -implicitDefEqProofs [hz, e8, h0'', r29, hR]
  rw [if_neg (not_not_intro h0)] at hR
  replace c2 := c2 h0
  replace hlen := hlen h0
  replace hok := hok h0
  replace c4 := c4 h0
  subst h0
  simp -implicitDefEqProofs
  refine cond_bool (fun he => ?_) (fun he => ?_)
  · have h1 : (hs.length : Int) ≠ m.sheets := by simpa using he
    rw [if_pos h1] at hR
    simp -implicitDefEqProofs
    refine loop_up 0 (fun k s => s.env 2 = IL hs ∧ s.env 8 = I 3 ∧ s.env 9 = I 0) ?_ ?_
    · simp
    · rintro k s hk ⟨e2, e8, e9⟩
      simp -implicitDefEqProofs [e2, e8, e9]
      by_cases hz : 0 < hs.length
      · simp -implicitDefEqProofs [hz, e8, r29, hR]
      · simp -implicitDefEqProofs [hz, e8, r29, hR]
  have h1 : (hs.length : Int) = m.sheets := by simpa using he
  rw [if_neg (not_not_intro h1)] at hR
  simp -implicitDefEqProofs
  refine loop_up hs.length (fun k s => s.env 2 = IL hs ∧ s.env 3 = PRef p ∧ s.env 4 = .ref m.cs ∧ s.env 9 = I k ∧ HalfI hs k s) ?_ ?_
  · simp
    exact ⟨0, by simp, .inl rfl, by simp [out]⟩
  rintro k s hk ⟨e2, e3, e4, e9, e', e8, h7, ho⟩
  by_cases h70 : e' = 0
  case neg =>
    have ho' := out_take (ho.1 h70)
    rw [if_pos ho'] at hR
    obtain rfl : e' = 7 := by omega
    simp -implicitDefEqProofs [e2, e8, e9]
    by_cases hz : k < hs.length
    · simp -implicitDefEqProofs [hz, e8, r29, hR]
    · simp -implicitDefEqProofs [hz, e8, r29, hR]
  subst h70
  have ho : out 0 1 (hs.take k) = false := by
    cases h : out 0 1 (hs.take k) with
    | false => rfl
    | true => exact (ho.2 h rfl).elim
  by_cases hz : k < hs.length
  · have c3 := in_ok hs[k] 0 1
    have hos := out_snoc 0 1 hs hz
    rw [ho, Bool.false_or] at hos
    simp -implicitDefEqProofs [e2, e8, e9, hz]
    refine vCall_of c3 ?_
    by_cases hin : 0 ≤ hs[k] ∧ hs[k] ≤ 1
    · rw [decide_eq_true hin] at hos ⊢
      simp -implicitDefEqProofs [e9]
      exact ⟨i64 (by omega) (by omega), round_ok hz ⟨by simp [e2], by simp [e3], by simp [e4], by simp, ⟨0, by simp [e8], .inl rfl, by simp [hos]⟩⟩⟩
    · rw [decide_eq_false hin] at hos ⊢
      simp -implicitDefEqProofs [e9]
      exact ⟨i64 (by omega) (by omega), round_ok hz ⟨by simp [e2], by simp [e3], by simp [e4], by simp, ⟨7, by simp, .inr rfl, by simp [hos]⟩⟩⟩
  obtain rfl : k = hs.length := by omega
  rw [List.take_length] at ho
  rw [if_neg (by simp [ho])] at hR
  simp -implicitDefEqProofs [e2, e3, e4, e8, e9]
  refine vCall_of c2 ?_
  simp -implicitDefEqProofs
  refine loop_up l.length (fun j s => s.env 2 = IL hs ∧ s.env 3 = PRef p ∧ s.env 4 = .ref m.cs ∧ s.env 10 = LL l ∧ s.env 11 = .slice 1 ((selT (markQ w l hs) j).map I) 12 ∧ s.env 12 = I j) ?_ ?_
  · simp [selT_zero, e2, e3, e4]
  clear e2 e3 e4 e8 e9
  rintro j s hj ⟨e2, e3, e4, e10, e11, e12⟩
  simp -implicitDefEqProofs [e10, e12]
  refine cond_dec (fun hlt => ?_) (fun hge => ?_)
  · have hlt : j < l.length := by omega
    have hsl := selT_len (markQ w l hs) j
    have hx := hok _ (List.getElem_mem hlt)
    obtain ⟨t, ht⟩ : ∃ t : Nat, l[j].sheet = t := ⟨l[j].sheet.toNat, by omega⟩
    have hth : t < hs.length := by omega
    have hmq : markQ w l hs j = markM w l[j] hs[t] := by simp [markQ, List.getD_eq_getElem?_getD, hlt, ht, hth]
    have c5 := c4 l[j] ⟨hx.2.2.1, hx.2.2.2.1, hx.2.2.2.2⟩ hs[t] (out_false ho hth)
    have c5' : PCall Try.prog 75 [p.av, m.av, .agg [I t, I l[j].col, I l[j].row, B l[j].inner, B l[j].turned], I hs[t]] (B (markM w l[j] hs[t])) := by rw [← ht]; exact c5
    simp -implicitDefEqProofs [e2, e3, e4, e10, e12, hlt, ht, hth]
    refine vCall_of c5' ?_
    simp -implicitDefEqProofs
    refine cond_bool (fun he => ?_) (fun he => ?_)
    · rw [← hmq] at he
      simp -implicitDefEqProofs [e11, e12]
      refine ⟨by omega, by omega, i64 (by omega) (by omega), round_ok hlt ⟨by simp [e2], by simp [e3], by simp [e4], by simp [e10], by simp [selT_t he], by simp⟩⟩
    · rw [← hmq] at he
      simp -implicitDefEqProofs [e12]
      refine ⟨i64 (by omega) (by omega), round_ok hlt ⟨by simp [e2], by simp [e3], by simp [e4], by simp [e10], by simp [e11, selT_f he], by simp⟩⟩
  · obtain rfl : j = l.length := by omega
    simp -implicitDefEqProofs [e11, r29, hR]
end Go.Proofs.Ytcfeipphmklakaa

namespace Go.Proofs.Ytcfeipphmklakaa
open Go.Avm

/-- Whether a leaf is at a place. -/
def atQ (s c r : Int) (x : Lf) : Bool := decide (x.sheet = s ∧ x.col = c ∧ x.row = r)

theorem at73_ok (l : List Lf) (a c r : Int) : PCall Try.prog 73 [LL l, I a, I c, I r] (I (firstAt (atQ a c r) l)) := by
  refine pcall Try.func73 tr73 rs73 fn73 (by simp [Try.ntmps73]) fun hfit => ?_
  have hl := fits_len (hfit 0)
  simp only [List.length_map] at hl
  simp -implicitDefEqProofs [m73]
  refine loop_up l.length (fun k s => s.env 0 = LL l ∧ s.env 1 = I a ∧ s.env 2 = I c ∧ s.env 3 = I r ∧ s.env 9 = I k ∧ ∀ x ∈ l.take k, atQ a c r x = false) ?_ ?_
  · simp
  · rintro k s hk ⟨e0, e1, e2, e3, e9, hno⟩
    simp -implicitDefEqProofs [e0, e9]
    refine cond_dec (fun hlt => ?_) (fun hge => ?_)
    · have hlt : k < l.length := by omega
      have next : atQ a c r l[k] = false → ∀ x ∈ l.take (k + 1), atQ a c r x = false := fun he x hx => by
        rw [take_snoc hlt, List.mem_append, List.mem_singleton] at hx
        rcases hx with hx | rfl
        · exact hno x hx
        · exact he
      by_cases h1 : l[k].sheet = a
      · have h1' : (l[k].sheet == a) = true := by simp [h1]
        by_cases h2 : l[k].col = c
        · have h2' : (l[k].col == c) = true := by simp [h2]
          simp -implicitDefEqProofs [e0, e1, e2, e3, e9, hlt, h1', h2']
          refine cond_bool (fun he => ?_) (fun he => ?_)
          · have h3 : l[k].row = r := by simpa using he
            have hc := firstAt_some (p := atQ a c r) hlt (by simp [atQ, h1, h2, h3]) hno
            simp -implicitDefEqProofs [r73, e9, hc]
          · have h3 : ¬ l[k].row = r := by simpa using he
            have hn := next (by simp [atQ, h3])
            simp -implicitDefEqProofs [e9]
            exact ⟨i64 (by omega) (by omega), round_ok hlt ⟨by simp [e0], by simp [e1], by simp [e2], by simp [e3], by simp, hn⟩⟩
        · have h2' : (l[k].col == c) = false := by simp [h2]
          have hn := next (by simp [atQ, h2])
          simp -implicitDefEqProofs [e0, e1, e2, e3, e9, hlt, h1', h2']
          exact ⟨i64 (by omega) (by omega), round_ok hlt ⟨by simp [e0], by simp [e1], by simp [e2], by simp [e3], by simp, hn⟩⟩
      · have h1' : (l[k].sheet == a) = false := by simp [h1]
        have hn := next (by simp [atQ, h1])
        simp -implicitDefEqProofs [e0, e1, e2, e3, e9, hlt, h1']
        exact ⟨i64 (by omega) (by omega), round_ok hlt ⟨by simp [e0], by simp [e1], by simp [e2], by simp [e3], by simp, hn⟩⟩
    · obtain rfl : k = l.length := by omega
      rw [List.take_length] at hno
      have hc := firstAt_none hno
      simp -implicitDefEqProofs [r73, hc]

/-- The page of a leaf on a forme. -/
def pageM (x : Lf) (i : Nat) (inner : Bool) : Int := if x.turned then -(2 * (i : Int) + 1 + if x.inner = inner then 0 else 1) else 2 * (i : Int) + 1 + if x.inner = inner then 0 else 1

/-- The pages of a forme at a place. -/
def cellP (l : List Lf) (inner : Bool) (s : Int) (c r : Nat) : List Int := match l.findIdx? (atQ s c r) with
  | some i => [pageM (l.getD i zLf) i inner]
  | none => []
def colT (l : List Lf) (inner : Bool) (s : Int) (r c : Nat) : List Int := (List.range c).flatMap fun k => cellP l inner s k r
def rowT (l : List Lf) (inner : Bool) (s : Int) (cols r : Nat) : List Int := (List.range r).flatMap fun k => colT l inner s k cols

theorem colT_succ (l : List Lf) (inner : Bool) (s : Int) (r c : Nat) : colT l inner s r (c + 1) = colT l inner s r c ++ cellP l inner s c r := by
  unfold colT; rw [List.range_succ, List.flatMap_append]; simp
theorem rowT_succ (l : List Lf) (inner : Bool) (s : Int) (cols r : Nat) : rowT l inner s cols (r + 1) = rowT l inner s cols r ++ colT l inner s r cols := by
  unfold rowT; rw [List.range_succ, List.flatMap_append]; simp
theorem cellP_len (l : List Lf) (inner : Bool) (s : Int) (c r : Nat) : (cellP l inner s c r).length ≤ 1 := by
  unfold cellP; split <;> simp
theorem colT_len (l : List Lf) (inner : Bool) (s : Int) (r : Nat) : ∀ c, (colT l inner s r c).length ≤ c
  | 0 => by simp [colT]
  | c + 1 => by rw [colT_succ, List.length_append]; have := colT_len l inner s r c; have := cellP_len l inner s c r; omega
theorem rowT_len (l : List Lf) (inner : Bool) (s : Int) (cols : Nat) : ∀ r, (rowT l inner s cols r).length ≤ r * cols
  | 0 => by simp [rowT]
  | r + 1 => by rw [rowT_succ, List.length_append, Nat.succ_mul]; have := rowT_len l inner s cols r; have := colT_len l inner s r cols; omega

/-- What Forme returns. -/
def formeR (p : Prs) (m : Mk) (s : Int) (inner : Bool) : List Int × Int :=
  if enterE p m ≠ 0 then ([], enterE p m)
  else if ¬ (0 ≤ s ∧ s ≤ m.sheets - 1) then ([], 4)
  else (rowT (lvOf p m) inner s (timesN (codes (foldsOf p m)) 120) (timesN (codes (foldsOf p m)) 121), 0)

theorem forme24_ok (p : Prs) (m : Mk) (a : Int) (inner : Bool) : PCall Try.prog 24 [p.av, m.av, I a, B inner] (.tuple [IL (formeR p m a inner).1, I (formeR p m a inner).2]) := by
  refine pcall Try.func24 tr24 rs24 fn24 (by simp [Try.ntmps24]) fun hfit => ?_
  have c1 := make68_ok p m
  have c2 : enterE p m = 0 → PCall Try.prog 69 [p.av, m.av] (LL (lvOf p m)) := fun h => all_ok (right_of (enterE_zero h).1) (rightM_of (enterE_zero h).2)
  have hlen : enterE p m = 0 → 2 ≤ (lvOf p m).length ∧ (lvOf p m).length ≤ 64 := fun h => lv_len (right_of (enterE_zero h).1) (rightM_of (enterE_zero h).2)
  have ht : enterE p m = 0 → _ := fun h => times_le _ (foldsOf_mem (right_of (enterE_zero h).1) (rightM_of (enterE_zero h).2))
  have cx : enterE p m = 0 → _ := fun h => timesx_ok (right_of (enterE_zero h).1) (rightM_of (enterE_zero h).2)
  have cy : enterE p m = 0 → _ := fun h => timesy_ok (right_of (enterE_zero h).1) (rightM_of (enterE_zero h).2)
  have hgl : enterE p m = 0 → ∃ (g : Nat) (h : g < p.fmts.length), m.format = g ∧ foldsOf p m = p.fmts[g].folds ∧ 1 ≤ m.sheets ∧ m.sheets ≤ 4 := fun h => by
    have hf := (rightM_of (enterE_zero h).2).fmt
    have h1 := (rightM_of (enterE_zero h).2).sheets
    have h2 := (right_of (enterE_zero h).1).sheets
    exact ⟨m.format.toNat, by omega, by omega, foldsOf_at (by omega) _, by omega, by omega⟩
  obtain ⟨R, hR⟩ : ∃ R, R = formeR p m a inner := ⟨_, rfl⟩
  rw [← hR]
  unfold formeR at hR
  generalize lvOf p m = l at *
  generalize enterE p m = e at *
  generalize timesN (codes (foldsOf p m)) 120 = cols at *
  generalize timesN (codes (foldsOf p m)) 121 = rows at *
  simp -implicitDefEqProofs [m24]
  refine vCall_of c1 ?_
  by_cases h0 : e = 0
  case neg =>
    have h0' : (e == 0) = false := beq_eq_false_iff_ne.2 h0
    have h0'' : (e != 0) = true := by simp [h0]
    rw [if_pos h0] at hR
    simp -implicitDefEqProofs [h0', h0'', r24, hR]
  rw [if_neg (not_not_intro h0)] at hR
  replace c2 := c2 h0
  replace hlen := hlen h0
  replace ht := ht h0
  replace cx := cx h0
  replace cy := cy h0
  obtain ⟨g, hg, hmf, hfo, hs1, hs2⟩ := hgl h0
  rw [hfo] at cx cy
  have c3 := in_ok a 0 (m.sheets - 1)
  subst h0
  simp -implicitDefEqProofs
  refine ⟨i64 (by omega) (by omega), ?_⟩
  refine vCall_of c3 ?_
  by_cases h1 : 0 ≤ a ∧ a ≤ m.sheets - 1
  case neg =>
    rw [if_pos h1] at hR
    rw [decide_eq_false h1]
    simp -implicitDefEqProofs [r24, hR]
  rw [if_neg (not_not_intro h1)] at hR
  rw [decide_eq_true h1]
  simp -implicitDefEqProofs [hmf, hg]
  have c2' : PCall Try.prog 69 [p.av, .agg [I g, I m.paper, I m.sheets, B m.half]] (LL l) := by rw [← hmf]; exact c2
  refine vCall_of c2' ?_
  simp -implicitDefEqProofs
  refine loop_up rows (fun k s => s.env 2 = I a ∧ s.env 3 = B inner ∧ s.env 11 = S p.fmts[g].folds ∧ s.env 12 = LL l ∧ s.env 13 = .slice 1 ((rowT l inner a cols k).map I) 14 ∧ s.env 14 = I k) ?_ ?_
  · simp [rowT]
  rintro k s hk ⟨e2, e3, e11, e12, e13, e14⟩
  simp -implicitDefEqProofs [e11, e14]
  refine vCall_of cy ?_
  simp -implicitDefEqProofs
  refine cond_dec (fun hlt => ?_) (fun hge => ?_)
  · have hlt : k < rows := by omega
    simp -implicitDefEqProofs
    refine loop_up cols (fun j s => s.env 2 = I a ∧ s.env 3 = B inner ∧ s.env 11 = S p.fmts[g].folds ∧ s.env 12 = LL l ∧ s.env 13 = .slice 1 ((rowT l inner a cols k ++ colT l inner a k j).map I) 14 ∧ s.env 14 = I k ∧ s.env 15 = I j) ?_ ?_
    · simp [colT, e2, e3, e11, e12, e13, e14]
    clear e2 e3 e11 e12 e13 e14
    rintro j s hj ⟨e2, e3, e11, e12, e13, e14, e15⟩
    simp -implicitDefEqProofs [e11, e15]
    refine vCall_of cx ?_
    simp -implicitDefEqProofs
    refine cond_dec (fun hlt2 => ?_) (fun hge2 => ?_)
    · have hlt2 : j < cols := by omega
      have c5 := at73_ok l a j k
      have hsu := colT_succ l inner a k j
      simp -implicitDefEqProofs [e2, e12, e14, e15]
      have hb1 := rowT_len l inner a cols k
      have hb2 := colT_len l inner a k j
      have hb3 : k * cols ≤ 16 * 16 := Nat.mul_le_mul (by omega) (by omega)
      cases hf : l.findIdx? (atQ a j k) with
      | none =>
        have hc : cellP l inner a j k = [] := by unfold cellP; rw [hf]
        have hfa : firstAt (atQ a j k) l = -1 := by unfold firstAt; rw [hf]
        rw [hfa] at c5
        refine vCall_of c5 ?_
        simp -implicitDefEqProofs [e15]
        exact ⟨i64 (by omega) (by omega), round_ok hlt2 ⟨by simp [e2], by simp [e3], by simp [e11], by simp [e12], by simp [e13, hsu, hc], by simp [e14], by simp⟩⟩
      | some i =>
        obtain ⟨hi, _, _⟩ := List.findIdx?_eq_some_iff_getElem.1 hf
        have hc : cellP l inner a j k = [pageM l[i] i inner] := by unfold cellP; rw [hf]; simp [List.getD_eq_getElem?_getD, hi]
        have hfa : firstAt (atQ a j k) l = i := by unfold firstAt; rw [hf]
        rw [hfa] at c5
        refine vCall_of c5 ?_
        have hneg : ¬ (i : Int) < 0 := by omega
        by_cases hin : l[i].inner = inner
        · have hin' : (l[i].inner == inner) = true := by simp [hin]
          cases htu : l[i].turned with
          | false =>
            have hpg : pageM l[i] i inner = 2 * (i : Int) + 1 := by simp [pageM, hin, htu]
            simp -implicitDefEqProofs [e3, e12, e13, e15, hi, hin', htu, hneg]
            refine ⟨i64 (by omega) (by omega), i64 (by omega) (by omega), by omega, by omega, i64 (by omega) (by omega), round_ok hlt2 ⟨by simp [e2], by simp [e3], by simp [e11], by simp [e12], by simp [hsu, hc, hpg], by simp [e14], by simp⟩⟩
          | true =>
            have hpg : pageM l[i] i inner = -(2 * (i : Int) + 1) := by simp [pageM, hin, htu]
            simp -implicitDefEqProofs [e3, e12, e13, e15, hi, hin', htu, hneg]
            refine ⟨i64 (by omega) (by omega), i64 (by omega) (by omega), i64 (by omega) (by omega), by omega, by omega, i64 (by omega) (by omega), round_ok hlt2 ⟨by simp [e2], by simp [e3], by simp [e11], by simp [e12], by simp [hsu, hc, hpg], by simp [e14], by simp⟩⟩
        · have hin' : (l[i].inner == inner) = false := by simp [hin]
          cases htu : l[i].turned with
          | false =>
            have hpg : pageM l[i] i inner = 2 * (i : Int) + 1 + 1 := by simp [pageM, hin, htu]
            simp -implicitDefEqProofs [e3, e12, e13, e15, hi, hin', htu, hneg]
            refine ⟨i64 (by omega) (by omega), i64 (by omega) (by omega), i64 (by omega) (by omega), by omega, by omega, i64 (by omega) (by omega), round_ok hlt2 ⟨by simp [e2], by simp [e3], by simp [e11], by simp [e12], by simp [hsu, hc, hpg], by simp [e14], by simp⟩⟩
          | true =>
            have hpg : pageM l[i] i inner = -(2 * (i : Int) + 1 + 1) := by simp [pageM, hin, htu]
            simp -implicitDefEqProofs [e3, e12, e13, e15, hi, hin', htu, hneg]
            refine ⟨i64 (by omega) (by omega), i64 (by omega) (by omega), i64 (by omega) (by omega), i64 (by omega) (by omega), by omega, by omega, i64 (by omega) (by omega), round_ok hlt2 ⟨by simp [e2], by simp [e3], by simp [e11], by simp [e12], by simp [hsu, hc, hpg], by simp [e14], by simp⟩⟩
    · obtain rfl : j = cols := by omega
      have hru := rowT_succ l inner a j k
      simp -implicitDefEqProofs [e14]
      exact ⟨i64 (by omega) (by omega), round_ok hlt ⟨by simp [e2], by simp [e3], by simp [e11], by simp [e12], by simp [e13, hru], by simp⟩⟩
  · obtain rfl : k = rows := by omega
    simp -implicitDefEqProofs [e13, r24, hR]
end Go.Proofs.Ytcfeipphmklakaa

namespace Go.Proofs.Ytcfeipphmklakaa
open Go.Avm

def entry (q : Lf × Int) : List AV := [.agg [I q.1.sheet, I q.1.col, I q.1.row], I q.2]
def psT (l : List Lf) (inner : Bool) (k : Nat) : List (Lf × Int) := (List.range k).map fun i => (l.getD i zLf, pageM (l.getD i zLf) i inner)
def entT (l : List Lf) (inner : Bool) (k : Nat) : List (List AV) := (psT l inner k).map entry

theorem entT_succ (l : List Lf) (inner : Bool) (k : Nat) : entT l inner (k + 1) = entT l inner k ++ [entry (l.getD k zLf, pageM (l.getD k zLf) k inner)] := by
  unfold entT psT; rw [List.range_succ]; simp

theorem keyEq_ent (a b c : Int) (q : Lf × Int) : keyEq (.agg [I a, I b, I c]) ((entry q).getD 0 .any) = some (atQ a b c q.1) := by
  show eqCells (List.replicate 3 false) [I a, I b, I c] [I q.1.sheet, I q.1.col, I q.1.row] = _
  simp only [List.replicate, eqCells, if_true, Option.map_some]
  congr 1
  unfold atQ
  rw [Bool.eq_iff_iff]
  simp
  omega

theorem keyAt_ent (a b c : Int) : ∀ (ps : List (Lf × Int)) (i : Nat), keyAt (.agg [I a, I b, I c]) (ps.map entry) i = some ((ps.findIdx? fun q => atQ a b c q.1).map (· + i))
  | [], i => rfl
  | q :: ps, i => by
    rw [List.map_cons, keyAt, keyEq_ent, List.findIdx?_cons]
    cases h : atQ a b c q.1 with
    | true => simp
    | false =>
      simp only [Bool.false_eq_true, if_false]
      rw [keyAt_ent a b c ps (i + 1), Option.map_map]
      congr 2
      funext j
      simp; omega

theorem psT_find (l : List Lf) (inner : Bool) (a b c : Int) : ((psT l inner l.length).findIdx? fun q => atQ a b c q.1) = l.findIdx? (atQ a b c) := by
  have e : l = (psT l inner l.length).map Prod.fst := by
    apply List.ext_getElem
    · simp [psT]
    · intro i h1 h2
      simp [psT, List.getD_eq_getElem?_getD, h1]
  conv => rhs; rw [e]
  rw [List.findIdx?_map]
  rfl

theorem psT_none (l : List Lf) (inner : Bool) {k : Nat} (hk : k < l.length) (hn : ∀ (i j : Nat) (hi : i < l.length) (hj : j < l.length), plc l[i] = plc l[j] → i = j) :
    ((psT l inner k).findIdx? fun q => atQ l[k].sheet l[k].col l[k].row q.1) = none := by
  rw [List.findIdx?_eq_none_iff]
  intro q hq
  obtain ⟨i, hi, rfl⟩ := List.mem_map.1 hq
  have hi : i < k := by simpa using hi
  have hil : i < l.length := by omega
  simp only [atQ, decide_eq_false_iff_not, List.getD_eq_getElem?_getD, List.getElem?_eq_getElem hil, Option.getD_some]
  rintro ⟨h1, h2, h3⟩
  have := hn i k hil hk (by simp [plc, h1, h2, h3])
  omega

theorem entT_at (l : List Lf) (inner : Bool) {i : Nat} (hi : i < l.length) : ((entT l inner l.length).getD i []).getD 1 .any = I (pageM l[i] i inner) := by
  have : (entT l inner l.length).getD i [] = entry (l[i], pageM l[i] i inner) := by
    simp [entT, psT, List.getD_eq_getElem?_getD, hi]
  rw [this]; rfl

theorem vMapUpd_new {P : Program} {ms : List MOp} {K : St → Prop} {s : St} {k v : AV} {n : Option Nat} {b : Nat} {es : List (List AV)} (he : s.env (oS + b) = mapAV es) (hk : keyOK n k) (ha : keyAt k es 0 = some none)
    (h : vcs P ms K (s.set (oS + b) (mapAV (es ++ [[k, v]])))) : vMapUpd P ms K s k v n (.mapr b) := ⟨es, he, hk, by rw [ha]; exact h⟩
theorem vLookup_some {P : Program} {ms : List MOp} {K : St → Prop} {s : St} {d : Nat} {k zero : AV} {n : Option Nat} {b i : Nat} {es : List (List AV)} (he : s.env (oS + b) = mapAV es) (hk : keyOK n k) (ha : keyAt k es 0 = some (some i))
    (h : vcs P ms K (s.set d (.tuple [((es.getD i []).getD 1 .any), .lit (.bool true)]))) : vLookup P ms K s d k n true zero (.mapr b) := ⟨es, he, hk, by rw [ha]; exact h⟩
theorem vLookup_none {P : Program} {ms : List MOp} {K : St → Prop} {s : St} {d : Nat} {k zero : AV} {n : Option Nat} {b : Nat} {es : List (List AV)} (he : s.env (oS + b) = mapAV es) (hk : keyOK n k) (ha : keyAt k es 0 = some none)
    (h : vcs P ms K (s.set d (.tuple [zero, .lit (.bool false)]))) : vLookup P ms K s d k n true zero (.mapr b) := ⟨es, he, hk, by rw [ha]; exact h⟩

theorem forme23_ok (p : Prs) (m : Mk) (a : Int) (inner : Bool) : PCall Try.prog 23 [p.av, m.av, I a, B inner] (.tuple [IL (formeR p m a inner).1, I (formeR p m a inner).2]) := by
  refine pcall Try.func23 tr23 rs23 fn23 (by simp [Try.ntmps23]) fun hfit => ?_
  have c1 := enter_ok p m
  have c2 : enterE p m = 0 → PCall Try.prog 67 [p.av, m.av] (LL (lvOf p m)) := fun h => leaves_ok (right_of (enterE_zero h).1) (rightM_of (enterE_zero h).2)
  have hlen : enterE p m = 0 → 2 ≤ (lvOf p m).length ∧ (lvOf p m).length ≤ 64 := fun h => lv_len (right_of (enterE_zero h).1) (rightM_of (enterE_zero h).2)
  have hn : enterE p m = 0 → ∀ (i j : Nat) (hi : i < (lvOf p m).length) (hj : j < (lvOf p m).length), plc (lvOf p m)[i] = plc (lvOf p m)[j] → i = j :=
    fun h i j hi hj e => lv_inj (right_of (enterE_zero h).1) (rightM_of (enterE_zero h).2) hi hj e
  have ht : enterE p m = 0 → _ := fun h => times_le _ (foldsOf_mem (right_of (enterE_zero h).1) (rightM_of (enterE_zero h).2))
  have cf : enterE p m = 0 → _ := fun h => folds71_ok p m (rightM_of (enterE_zero h).2).fmt
  have cg : enterE p m = 0 → _ := fun h => grid_ok (right_of (enterE_zero h).1) (rightM_of (enterE_zero h).2)
  have hsh : enterE p m = 0 → 1 ≤ m.sheets ∧ m.sheets ≤ 4 := fun h => by
    have h1 := (rightM_of (enterE_zero h).2).sheets
    have h2 := (right_of (enterE_zero h).1).sheets
    omega
  have hq : enterE p m = 0 → pOr p = p := pOr_ok
  obtain ⟨R, hR⟩ : ∃ R, R = formeR p m a inner := ⟨_, rfl⟩
  rw [← hR]
  unfold formeR at hR
  generalize lvOf p m = l at *
  generalize enterE p m = e at *
  generalize timesN (codes (foldsOf p m)) 120 = cols at *
  generalize timesN (codes (foldsOf p m)) 121 = rows at *
  generalize foldsOf p m = f at *
  generalize pOr p = po at *
  simp -implicitDefEqProofs [m23]
  refine vCall_of c1 ?_
  simp -implicitDefEqProofs
  intro b0
  refine cond_bool (fun he => ?_) (fun he => ?_)
  · have h0 : e ≠ 0 := by simpa using he
    rw [if_pos h0] at hR
    simp -implicitDefEqProofs [r23, hR]
  have h0 : e = 0 := by simpa using he
  rw [if_neg (not_not_intro h0)] at hR
  replace c2 := c2 h0
  replace hlen := hlen h0
  replace hn := hn h0
  replace ht := ht h0
  replace cf := cf h0
  replace cg := cg h0
  replace hsh := hsh h0
  obtain rfl := hq h0
  have c3 := outside_ok 0 (m.sheets - 1) [a]
  rw [out1] at c3
  simp -implicitDefEqProofs
  refine ⟨i64 (by omega) (by omega), ?_⟩
  refine vCall_of c3 ?_
  by_cases h1 : 0 ≤ a ∧ a ≤ m.sheets - 1
  case neg =>
    rw [if_pos h1] at hR
    rw [decide_eq_false h1]
    simp -implicitDefEqProofs [r23, hR]
  rw [if_neg (not_not_intro h1)] at hR
  rw [decide_eq_true h1]
  simp -implicitDefEqProofs
  intro b hb
  refine vCall_of c2 ?_
  simp -implicitDefEqProofs
  refine loop_up l.length (fun j s => s.env 2 = I a ∧ s.env 3 = B inner ∧ s.env 5 = .ref m.cs ∧ s.env 8 = .slice 1 [] 9 ∧ s.env 10 = PRef po ∧ s.env 11 = .mapr b ∧ s.env (oS + b) = mapAV (entT l inner j) ∧
    s.env 41 = LL l ∧ s.env 42 = I l.length ∧ s.env 43 = I j) ?_ ?_
  · simp [entT, psT]
  rintro j s hj ⟨e2, e3, e5, e8, e10, e11, eo, e41, e42, e43⟩
  simp -implicitDefEqProofs [e42, e43]
  refine cond_dec (fun hlt => ?_) (fun hge => ?_)
  · have hlt : j < l.length := by omega
    have hkey := keyAt_ent l[j].sheet l[j].col l[j].row (psT l inner j) 0
    rw [psT_none l inner hlt hn] at hkey
    have hent := entT_succ l inner j
    have hgd : l.getD j zLf = l[j] := by simp [List.getD_eq_getElem?_getD, hlt]
    rw [hgd] at hent
    simp -implicitDefEqProofs [e41, e43, hlt]
    intro b2 hb2
    refine ⟨i64 (by omega) (by omega), i64 (by omega) (by omega), ?_⟩
    by_cases hin : l[j].inner = inner
    · have hin' : (l[j].inner == inner) = true := by simp [hin]
      cases htu : l[j].turned with
      | false =>
        have hpg : pageM l[j] j inner = 2 * (j : Int) + 1 := by simp [pageM, hin, htu]
        rw [hpg] at hent
        simp -implicitDefEqProofs [e3, e11, hin', htu]
        skip
        refine vMapUpd_new (es := entT l inner j) (by simpa using eo) (by simp [keyOK]) hkey ?_
        simp -implicitDefEqProofs [e43]
        exact ⟨i64 (by omega) (by omega), round_ok hlt ⟨by simp [e2], by simp [e3], by simp [e5], by simp [e8], by simp [e10], by simp [e11], by simp [hent, entry], by simp [e41], by simp [e42], by simp⟩⟩
      | true =>
        have hpg : pageM l[j] j inner = -(2 * (j : Int) + 1) := by simp [pageM, hin, htu]
        rw [hpg] at hent
        simp -implicitDefEqProofs [e3, e11, hin', htu]
        refine ⟨i64 (by omega) (by omega), ?_⟩
        refine vMapUpd_new (es := entT l inner j) (by simpa using eo) (by simp [keyOK]) hkey ?_
        simp -implicitDefEqProofs [e43]
        exact ⟨i64 (by omega) (by omega), round_ok hlt ⟨by simp [e2], by simp [e3], by simp [e5], by simp [e8], by simp [e10], by simp [e11], by simp [hent, entry], by simp [e41], by simp [e42], by simp⟩⟩
    · have hin' : (l[j].inner == inner) = false := by simp [hin]
      cases htu : l[j].turned with
      | false =>
        have hpg : pageM l[j] j inner = 2 * (j : Int) + 1 + 1 := by simp [pageM, hin, htu]
        rw [hpg] at hent
        simp -implicitDefEqProofs [e3, e11, hin', htu]
        refine ⟨i64 (by omega) (by omega), ?_⟩
        refine vMapUpd_new (es := entT l inner j) (by simpa using eo) (by simp [keyOK]) hkey ?_
        simp -implicitDefEqProofs [e43]
        exact ⟨i64 (by omega) (by omega), round_ok hlt ⟨by simp [e2], by simp [e3], by simp [e5], by simp [e8], by simp [e10], by simp [e11], by simp [hent, entry], by simp [e41], by simp [e42], by simp⟩⟩
      | true =>
        have hpg : pageM l[j] j inner = -(2 * (j : Int) + 1 + 1) := by simp [pageM, hin, htu]
        rw [hpg] at hent
        simp -implicitDefEqProofs [e3, e11, hin', htu]
        refine ⟨i64 (by omega) (by omega), i64 (by omega) (by omega), ?_⟩
        refine vMapUpd_new (es := entT l inner j) (by simpa using eo) (by simp [keyOK]) hkey ?_
        simp -implicitDefEqProofs [e43]
        exact ⟨i64 (by omega) (by omega), round_ok hlt ⟨by simp [e2], by simp [e3], by simp [e5], by simp [e8], by simp [e10], by simp [e11], by simp [hent, entry], by simp [e41], by simp [e42], by simp⟩⟩
  obtain rfl : j = l.length := by omega
  simp -implicitDefEqProofs [e5, e10]
  refine vCall_of cf ?_
  simp -implicitDefEqProofs
  refine vCall_of cg ?_
  simp -implicitDefEqProofs
  refine loop_up rows (fun k s => s.env 2 = I a ∧ s.env 8 = .slice 1 ((rowT l inner a cols k).map I) 9 ∧ s.env 11 = .mapr b ∧ s.env (oS + b) = mapAV (entT l inner l.length) ∧ s.env 15 = I cols ∧ s.env 78 = I rows ∧ s.env 79 = I k) ?_ ?_
  · simp [rowT, e2, e8, e11]
    simpa using eo
  clear e2 e3 e5 e8 e10 e11 e41 e42 e43 eo hj hge
  rintro k s hk ⟨e2, e8, e11, eo, e15, e78, e79⟩
  simp -implicitDefEqProofs [e78, e79]
  refine cond_dec (fun hlt => ?_) (fun hge => ?_)
  · have hlt : k < rows := by omega
    simp -implicitDefEqProofs [e15]
    refine loop_up cols (fun j s => s.env 2 = I a ∧ s.env 8 = .slice 1 ((rowT l inner a cols k ++ colT l inner a k j).map I) 9 ∧ s.env 11 = .mapr b ∧ s.env (oS + b) = mapAV (entT l inner l.length) ∧ s.env 15 = I cols ∧ s.env 78 = I rows ∧ s.env 79 = I k ∧
      s.env 17 = I k ∧ s.env 82 = I cols ∧ s.env 83 = I j) ?_ ?_
    · simp [colT, e2, e8, e11, e15, e78, e79]
      simpa using eo
    clear e2 e8 e11 eo e15 e78 e79
    rintro j s hj ⟨e2, e8, e11, eo, e15, e78, e79, e17, e82, e83⟩
    simp -implicitDefEqProofs [e82, e83]
    refine cond_dec (fun hlt2 => ?_) (fun hge2 => ?_)
    · have hlt2 : j < cols := by omega
      have hsu := colT_succ l inner a k j
      have hb1 := rowT_len l inner a cols k
      have hb2 := colT_len l inner a k j
      have hb3 : k * cols ≤ 16 * 16 := Nat.mul_le_mul (by omega) (by omega)
      have hkey := keyAt_ent a j k (psT l inner l.length) 0
      rw [psT_find] at hkey
      simp -implicitDefEqProofs [e2, e11, e17, e83]
      cases hf : l.findIdx? (atQ a j k) with
      | none =>
        have hc : cellP l inner a j k = [] := by unfold cellP; rw [hf]
        rw [hf] at hkey
        refine vLookup_none (es := entT l inner l.length) (by simpa using eo) (by simp [keyOK]) hkey ?_
        simp -implicitDefEqProofs [e83]
        refine ⟨i64 (by omega) (by omega), round_ok hlt2 ⟨by simp [e2], by simp [e8, hsu, hc], by simp [e11], ?_, by simp [e15], by simp [e78], by simp [e79], by simp [e17], by simp [e82], by simp⟩⟩
        simpa using eo
      | some i =>
        obtain ⟨hi, _, _⟩ := List.findIdx?_eq_some_iff_getElem.1 hf
        have hc : cellP l inner a j k = [pageM l[i] i inner] := by unfold cellP; rw [hf]; simp [List.getD_eq_getElem?_getD, hi]
        rw [hf] at hkey
        refine vLookup_some (i := i) (es := entT l inner l.length) (by simpa using eo) (by simp [keyOK]) hkey ?_
        rw [entT_at l inner hi]
        simp -implicitDefEqProofs [e8, e83]
        refine ⟨by omega, by omega, i64 (by omega) (by omega), round_ok hlt2 ⟨by simp [e2], by simp [hsu, hc], by simp [e11], ?_, by simp [e15], by simp [e78], by simp [e79], by simp [e17], by simp [e82], by simp⟩⟩
        simp
        rw [show s.env (1000001 + b) = mapAV (entT l inner l.length) by simpa using eo]
        rfl
    · obtain rfl : j = cols := by omega
      have hru := rowT_succ l inner a j k
      simp -implicitDefEqProofs [e79]
      refine ⟨i64 (by omega) (by omega), round_ok hlt ⟨by simp [e2], by simp [e8, hru], by simp [e11], ?_, by simp [e15], by simp [e78], by simp⟩⟩
      simpa using eo
  · obtain rfl : k = rows := by omega
    simp -implicitDefEqProofs [e8, r23, hR]
end Go.Proofs.Ytcfeipphmklakaa

namespace Go.Proofs.Ytcfeipphmklakaa
open Go.Avm

/-- A sheet, a leaf, a forme and halves. -/
structure Ask where
  sheet : Int
  leaf : Int
  inner : Bool
  halves : List Int

abbrev Ask.cs (x : Ask) : List AV := [I x.sheet, I x.leaf, B x.inner, .slice 1 (x.halves.map I) 0]
abbrev Ask.av (x : Ask) : AV := .agg x.cs

theorem foldLeaves_ok (ha : PCall Try.prog 19 [] (B true)) (p : Prs) (m : Mk) (x : Ask) : PCall Try.prog 4 [p.av, m.av, x.av] (B true) := by
  refine pcall Try.func4 tr4 rs4 fn4 (by simp [Try.ntmps4]) fun hfit => ?_
  have c1 := leaves20_ok p m
  have c2 := leaves21_ok p m
  have c3 := forme23_ok p m x.sheet x.inner
  have c4 := forme24_ok p m x.sheet x.inner
  have c5 := mates26_ok p m x.leaf
  have c6 := mates27_ok p m x.leaf
  have c7 := marked28_ok p m x.halves
  have c8 := marked29_ok p m x.halves
  generalize leavesR p m = l at *
  generalize enterE p m = e at *
  generalize formeR p m x.sheet x.inner = q at *
  generalize matesR p m x.leaf = t at *
  generalize markedR p m x.halves = u at *
  have d1 := same_ok l
  have d2 := ints_ok q.1 q.1
  have d3 := ints_ok t.1 t.1
  have d4 := ints_ok u.1 u.1
  rw [beq_self_eq_true] at d2 d3 d4
  simp -implicitDefEqProofs [m4]
  refine vCall_of c1 ?_
  simp -implicitDefEqProofs
  refine vCall_of c2 ?_
  simp -implicitDefEqProofs
  refine vCall_of d1 ?_
  simp -implicitDefEqProofs
  refine vCall_of c3 ?_
  simp -implicitDefEqProofs
  refine vCall_of c4 ?_
  simp -implicitDefEqProofs
  refine vCall_of d2 ?_
  simp -implicitDefEqProofs
  refine vCall_of c5 ?_
  simp -implicitDefEqProofs
  refine vCall_of c6 ?_
  simp -implicitDefEqProofs
  refine vCall_of d3 ?_
  simp -implicitDefEqProofs
  refine vCall_of c7 ?_
  simp -implicitDefEqProofs
  refine vCall_of c8 ?_
  simp -implicitDefEqProofs
  refine vCall_of d4 ?_
  simp -implicitDefEqProofs
  refine vCall_of ha ?_
  simp -implicitDefEqProofs [r4]

theorem rdMk : Rd Try.prog false 38 Mk.av (fun _ => True) :=
  (Rd.struct (tot := 4) Try.underlying38 rfl (by kernel_rfl) (RdL.cons rfl (by kernel_rfl) rdI (RdL.cons rfl (by kernel_rfl) rdI (RdL.cons rfl (by kernel_rfl) rdI (RdL.cons rfl (by kernel_rfl) rdB RdL.nil))))).map (fun x => ⟨x.1, x.2.1, x.2.2.1, x.2.2.2.1⟩) (fun _ => rfl) (fun _ _ => trivial)

theorem rdAsk : Rd Try.prog false 41 Ask.av (fun _ => True) :=
  (Rd.struct (tot := 4) Try.underlying41 rfl (by kernel_rfl) (RdL.cons rfl (by kernel_rfl) rdI (RdL.cons rfl (by kernel_rfl) rdI (RdL.cons rfl (by kernel_rfl) rdB
    (RdL.cons rfl (by kernel_rfl) (Rd.slice Try.underlying39 (of_decide_eq_true (by kernel_rfl)) (by kernel_rfl) rdI) RdL.nil))))).map (fun x => ⟨x.1, x.2.1, x.2.2.1, x.2.2.2.1⟩) (fun _ => rfl) (fun _ _ => trivial)
end Go.Proofs.Ytcfeipphmklakaa

