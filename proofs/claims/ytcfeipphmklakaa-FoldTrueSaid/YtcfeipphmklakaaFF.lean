/- All ways of making come to a few cases; what holds in each of them. The leaves of a gathering: the reference's walk. The leaves of a gathering: the program's and the reference's are the same; Leaves. Lists that are compared: Same and Ints of the reference. The leaves of a gathering are at places of their own, and not too many. The leaves of one sheet: Mates, of the program and of the reference. Where the watermark is: mark, Has and Marked, of the program and of the reference. Marked, of the program and of the reference. The pages of a forme: the reference's search, the program's map. The pages of a forme: the program's walk. The law FoldLeaves returns true. -/
import Derived.Test.YtcfeipphmklakaaFE
import Derived.Test.YtcfeipphmklakaaGT0
import Derived.Test.YtcfeipphmklakaaFC
import Derived.Test.YtcfeipphmklakaaGT1
import Derived.Test.YtcfeipphmklakaaGT3
namespace Go.Proofs.Ytcfeipphmklakaa
open Go.Avm

theorem words_len : ∀ (n : Nat) (w : List Nat), w ∈ words n → w.length = n
  | 0, w, h => by simp [words] at h; simp [h]
  | n + 1, w, h => by
    simp only [words, List.mem_append, List.mem_map] at h
    rcases h with ⟨v, hv, rfl⟩ | ⟨v, hv, rfl⟩ <;> simp [words_len n v hv]

theorem allF_mem {w : List Nat} (h : w ∈ allF) : w ∈ words w.length ∧ 1 ≤ w.length ∧ w.length ≤ 4 := by
  simp only [allF, List.mem_append] at h
  rcases h with ((h | h) | h) | h <;> (have e := words_len _ _ h; rw [e]; exact ⟨h, by omega, by omega⟩)

theorem mem_allH {w : List Nat} {half : Bool} (h : w ∈ allF) (hh : half = true → 2 ≤ w.length) : (w, half) ∈ allH := by
  unfold allH
  rw [List.mem_append]
  cases half with
  | false => exact .inl (List.mem_map.2 ⟨w, h, rfl⟩)
  | true =>
    right
    refine List.mem_map.2 ⟨w, ?_, rfl⟩
    obtain ⟨h1, h2, h3⟩ := allF_mem h
    have hl := hh rfl
    simp only [List.mem_append]
    have : w.length = 2 ∨ w.length = 3 ∨ w.length = 4 := by omega
    rcases this with e | e | e <;> rw [e] at h1 <;> simp [h1]

/-- The cases: folds, whether it is a half-sheet, and how many sheets. -/
def allC : List (List Nat × Bool × Nat) := allH.flatMap fun x => if x.2 then [(x.1, x.2, 1)] else [(x.1, x.2, 1), (x.1, x.2, 2), (x.1, x.2, 3), (x.1, x.2, 4)]

def caseOf (p : Prs) (m : Mk) : List Nat × Bool × Nat := (codes (foldsOf p m), m.half, m.sheets.toNat)

/-- The leaves of a case. -/
def lvM (x : List Nat × Bool × Nat) : List Lf := putA (sheetM x.1 x.2.1) (x.2.2 * (sheetM x.1 x.2.1).length) x.2.2

theorem codes_len (s : ByteArray) : (codes s).length = s.size := by simp [codes]

theorem mem_allH' {p : Prs} {m : Mk} (hp : Right p) (hm : RightM p m) : (codes (foldsOf p m), m.half) ∈ allH :=
  mem_allH (foldsOf_mem hp hm) fun h => by rw [codes_len]; exact (hm.half h).2

theorem mem_allC {p : Prs} {m : Mk} (hp : Right p) (hm : RightM p m) : caseOf p m ∈ allC := by
  unfold allC caseOf
  rw [List.mem_flatMap]
  refine ⟨_, mem_allH' hp hm, ?_⟩
  have h1 := hm.sheets
  have h2 := hp.sheets
  cases hh : m.half with
  | true =>
    have := (hm.half hh).1
    simp [this]
  | false =>
    have : m.sheets = 1 ∨ m.sheets = 2 ∨ m.sheets = 3 ∨ m.sheets = 4 := by omega
    rcases this with e | e | e | e <;> simp [e]

theorem sheetM_len : ∀ x ∈ allH, (sheetM x.1 x.2).length % 2 = 0 ∧ 2 ≤ (sheetM x.1 x.2).length ∧ (sheetM x.1 x.2).length ≤ 16 := by decide +kernel

/-- Whether each of all cases passes. -/
theorem all_cases {q : List Nat × Bool × Nat → Bool} (h : allC.all q = true) {p : Prs} {m : Mk} (hp : Right p) (hm : RightM p m) : q (caseOf p m) = true :=
  List.all_eq_true.1 h _ (mem_allC hp hm)
end Go.Proofs.Ytcfeipphmklakaa

namespace Go.Proofs.Ytcfeipphmklakaa
open Go.Avm

def ownM (w : List Nat) (l : List Ln) (s : Nat) : List Lf := l.map fun x => lnLf w s x
def ownT (w : List Nat) (l : List Ln) (s j : Nat) : List Lf := (ownM w l s).take j
def fstM (w : List Nat) (l : List Ln) : Nat → List Lf
  | 0 => []
  | k + 1 => fstM w l k ++ (ownM w l k).take (l.length / 2)
def secM (w : List Nat) (l : List Ln) : Nat → List Lf
  | 0 => []
  | k + 1 => (ownM w l k).drop (l.length / 2) ++ secM w l k
def allM (w : List Nat) (l : List Ln) (s : Nat) : List Lf := fstM w l s ++ secM w l s

theorem ownM_len (w : List Nat) (l : List Ln) (s : Nat) : (ownM w l s).length = l.length := by simp [ownM]
theorem ownT_zero (w : List Nat) (l : List Ln) (s : Nat) : ownT w l s 0 = [] := rfl
theorem ownT_succ (w : List Nat) (l : List Ln) (s j : Nat) (h : j < l.length) : ownT w l s (j + 1) = ownT w l s j ++ [lnLf w s l[j]] := by
  unfold ownT
  rw [take_snoc (by rw [ownM_len]; exact h)]
  simp [ownM]
theorem ownT_len (w : List Nat) (l : List Ln) (s j : Nat) (h : j ≤ l.length) : (ownT w l s j).length = j := by unfold ownT; rw [List.length_take, ownM_len]; omega
theorem ownT_all (w : List Nat) (l : List Ln) (s : Nat) : ownT w l s l.length = ownM w l s := by unfold ownT; rw [← ownM_len w l s, List.take_length]
theorem fstM_len (w : List Nat) (l : List Ln) (n : Nat) (h : l.length = 2 * n) : ∀ k, (fstM w l k).length = k * n
  | 0 => by simp [fstM]
  | k + 1 => by rw [fstM, List.length_append, fstM_len w l n h k, List.length_take, ownM_len, Nat.succ_mul]; omega
theorem secM_len (w : List Nat) (l : List Ln) (n : Nat) (h : l.length = 2 * n) : ∀ k, (secM w l k).length = k * n
  | 0 => by simp [secM]
  | k + 1 => by rw [secM, List.length_append, secM_len w l n h k, List.length_drop, ownM_len, Nat.succ_mul]; omega

theorem odd_eq (a : Nat) : (((a : Int).tmod 2) == 1) = (a % 2 == 1) := by
  rw [Int.tmod_eq_emod_of_nonneg (by omega)]
  have : ((a : Int) % 2) = ((a % 2 : Nat) : Int) := by omega
  rw [this]
  rcases Nat.mod_two_eq_zero_or_one a with h | h <;> rw [h] <;> rfl

theorem all69_ok (p : Prs) (m : Mk) (S n : Nat) (l : List Ln) (hf : 0 ≤ m.format ∧ m.format ≤ (p.fmts.length : Int) - 1) (hm : m.sheets = S) (hS : 1 ≤ S ∧ S ≤ 4) (hL : l.length = 2 * n) (hn : n ≤ 8)
    (hxy : ∀ x ∈ l, x.x + x.y ≤ 100) (h0 : 1 ≤ (foldsOf p m).size ∧ (foldsOf p m).size ≤ 4) (h97 : PCall Try.prog 97 [Ytcfeipphmklakaa.S (foldsOf p m), B m.half] (.slice 4 (l.map Ln.av) 0)) : PCall Try.prog 69 [p.av, m.av] (LL (allM (codes (foldsOf p m)) l S)) := by
  refine pcall Try.func69 tr69 rs69 fn69 (by simp [Try.ntmps69]) fun hfit => ?_
  obtain ⟨g, hg⟩ : ∃ g : Nat, m.format = g := ⟨m.format.toNat, by omega⟩
  have hgl : g < p.fmts.length := by omega
  rw [foldsOf_at hg hgl] at h0 h97 ⊢
  obtain ⟨f, hfd⟩ : ∃ f, f = p.fmts[g].folds := ⟨_, rfl⟩
  rw [← hfd] at h0 h97 ⊢
  obtain ⟨mf, mp, ms, mh⟩ := m
  obtain rfl : ms = (S : Int) := hm
  obtain rfl : mf = (g : Int) := hg
  simp -implicitDefEqProofs [m69, hgl, ← hfd]
  have hs : ((f.size : Int) - 1).toNat = f.size - 1 := by omega
  refine ⟨i64 (by omega) (by omega), by omega, by omega, ?_⟩
  refine vCall_of h97 ?_
  simp -implicitDefEqProofs [hs]
  have hlast : (f.data.toList.getD (f.size - 1) 0).toNat = (codes f).getLastD 0 := by
    have : f.size - 1 = (codes f).length - 1 := by rw [codes_len]
    rw [this]
    have h1 : bt f ((codes f).length - 1) = (codes f).getD ((codes f).length - 1) 0 := bt_codes _ _
    unfold bt at h1
    rw [h1, List.getLastD_eq_getLast?, List.getLast?_eq_getElem?, List.getD_eq_getElem?_getD]
  obtain ⟨w, hw⟩ : ∃ w, w = codes f := ⟨_, rfl⟩
  rw [← hw] at hlast ⊢
  generalize hla : w.getLastD 0 = la at *
  have hSn : S * n ≤ 32 := Nat.le_trans (Nat.mul_le_mul hS.2 hn) (by omega)
  refine loop_up S (fun k s => s.env 3 = .ref (Mk.mk g mp S mh).cs ∧ s.env 6 = .lit (.int .u8 la) ∧ s.env 7 = .slice 4 (l.map Ln.av) 0 ∧
    s.env 8 = .slice 5 ((fstM w l k).map Lf.av) 9 ∧ s.env 9 = .slice 5 ((secM w l k).map Lf.av) 10 ∧ s.env 10 = I k) ?_ ?_
  · simp [fstM, secM]
    have h2 := hlast
    rw [List.getD_eq_getElem?_getD] at h2
    simp at h2
    exact congrArg _ h2
  rintro k s hk ⟨e3, e6, e7, e8, e9, e10⟩
  have hf1 := fstM_len w l n hL k
  have hf2 := secM_len w l n hL k
  simp -implicitDefEqProofs [e3, e10]
  refine cond_dec (fun hlt => ?_) (fun hge => ?_)
  · have hlt : k < S := by omega
    have hkn : k * n + n ≤ S * n := by
      have := Nat.mul_le_mul_right n (show k + 1 ≤ S by omega)
      rwa [Nat.succ_mul] at this
    simp -implicitDefEqProofs
    refine loop_up l.length (fun j s => s.env 3 = .ref (Mk.mk g mp S mh).cs ∧ s.env 6 = .lit (.int .u8 la) ∧ s.env 7 = .slice 4 (l.map Ln.av) 0 ∧
      s.env 8 = .slice 5 ((fstM w l k).map Lf.av) 9 ∧ s.env 9 = .slice 5 ((secM w l k).map Lf.av) 10 ∧ s.env 10 = I k ∧
      s.env 11 = .slice 5 ((ownT w l k j).map Lf.av) 12 ∧ s.env 12 = I j) ?_ ?_
    · simp [e3, e6, e7, e8, e9, e10, ownT_zero]
    clear e3 e6 e7 e8 e9 e10
    rintro j s hj ⟨e3, e6, e7, e8, e9, e10, e11, e12⟩
    simp -implicitDefEqProofs [e7, e12]
    refine cond_dec (fun hlt2 => ?_) (fun hge2 => ?_)
    · have hlt2 : j < l.length := by omega
      have ho := ownT_succ w l k j hlt2
      have hol := ownT_len w l k j (by omega)
      simp -implicitDefEqProofs [e6, e7, e12, hlt2]
      have hb := hxy _ (List.getElem_mem hlt2)
      have hodd : (((l[j].x : Int) + (l[j].y : Int)).tmod 2 == 1) = ((l[j].x + l[j].y) % 2 == 1) := by
        have := odd_eq (l[j].x + l[j].y)
        rwa [Int.natCast_add] at this
      have hln : lnLf w k l[j] = ⟨k, l[j].col, l[j].row, (l[j].x + l[j].y) % 2 == 1, (if la == 120 then l[j].y else l[j].x) % 2 == 1⟩ := by unfold lnLf; rw [hla]
      have hox := odd_eq l[j].x
      have hoy := odd_eq l[j].y
      refine cond_bool (fun he => ?_) (fun he => ?_)
      · have he' : (la == 120) = true := by simp at he ⊢; omega
        rw [he', if_pos rfl] at hln
        simp -implicitDefEqProofs [e7, e10, e11, e12, hlt2]
        refine ⟨i64 (by omega) (by omega), by omega, by omega, i64 (by omega) (by omega), round_ok hlt2 ⟨by simp [e3], by simp [e6], by simp [e7], by simp [e8], by simp [e9], by simp [e10], ?_, by simp⟩⟩
        simp [ho, hln, hodd, hoy]
      · have he' : (la == 120) = false := by simp at he ⊢; omega
        rw [he', if_neg (by simp)] at hln
        simp -implicitDefEqProofs [e7, e10, e11, e12, hlt2]
        refine ⟨i64 (by omega) (by omega), by omega, by omega, i64 (by omega) (by omega), round_ok hlt2 ⟨by simp [e3], by simp [e6], by simp [e7], by simp [e8], by simp [e9], by simp [e10], ?_, by simp⟩⟩
        simp [ho, hln, hodd, hox]
    · obtain rfl : j = l.length := by omega
      rw [ownT_all] at e11
      have hol := ownM_len w l k
      have hq : ((l.length : Int)).tdiv 2 = (n : Int) := by rw [hL, Int.tdiv_eq_ediv_of_nonneg (by omega)]; omega
      simp -implicitDefEqProofs [e8, e9, e10, e11, hol, hq]
      have hd : l.length / 2 = n := by omega
      refine ⟨i64 (by omega) (by omega), by omega, by omega, by omega, i64 (by omega) (by omega), by omega, by omega, by omega, by omega, by omega, i64 (by omega) (by omega),
        round_ok hlt ⟨by simp [e3], by simp [e6], by simp [e7], ?_, ?_, by simp⟩⟩
      · simp [fstM, hd]
      · simp [secM, hd]
  · obtain rfl : k = S := by omega
    simp -implicitDefEqProofs [e8, e9, r69, allM]
    omega
end Go.Proofs.Ytcfeipphmklakaa

namespace Go.Proofs.Ytcfeipphmklakaa
open Go.Avm

/-- The leaves of a way of making. -/
def lvOf (p : Prs) (m : Mk) : List Lf := lvM (caseOf p m)

theorem allM_cases : allC.all (fun x => allM x.1 (pileM x.1 x.2.1) x.2.2 == lvM x) = true := by decide +kernel

theorem pileM_facts : ∀ x ∈ allH, (pileM x.1 x.2).length = (sheetM x.1 x.2).length ∧ ∀ q ∈ pileM x.1 x.2, q.x + q.y ≤ 100 := by decide +kernel

theorem sheets_nat {p : Prs} {m : Mk} (hp : Right p) (hm : RightM p m) : m.sheets = (m.sheets.toNat : Int) ∧ 1 ≤ m.sheets.toNat ∧ m.sheets.toNat ≤ 4 := by
  have h1 := hm.sheets
  have h2 := hp.sheets
  omega

theorem folds_size {p : Prs} {m : Mk} (hp : Right p) (hm : RightM p m) : 1 ≤ (foldsOf p m).size ∧ (foldsOf p m).size ≤ 4 := by
  have := (allF_mem (foldsOf_mem hp hm)).2
  rwa [codes_len] at this

theorem leaves_ok {p : Prs} {m : Mk} (hp : Right p) (hm : RightM p m) : PCall Try.prog 67 [p.av, m.av] (LL (lvOf p m)) := by
  have h96 := folded_all _ (mem_allH' hp hm)
  rw [strF_codes] at h96
  have hl := sheetM_len _ (mem_allH' hp hm)
  have hs := sheets_nat hp hm
  have hl' : (sheetM (codes (foldsOf p m)) m.half).length = 2 * ((sheetM (codes (foldsOf p m)) m.half).length / 2) := by simp only at hl; omega
  exact leaves67_ok p m m.sheets.toNat ((sheetM (codes (foldsOf p m)) m.half).length / 2) (sheetM (codes (foldsOf p m)) m.half) hm.fmt hs.1 hs.2 hl' (by simp only at hl; omega) h96

theorem all_ok {p : Prs} {m : Mk} (hp : Right p) (hm : RightM p m) : PCall Try.prog 69 [p.av, m.av] (LL (lvOf p m)) := by
  have h97 := pile_all _ (mem_allH' hp hm)
  rw [strF_codes] at h97
  have hl := sheetM_len _ (mem_allH' hp hm)
  have hf := pileM_facts _ (mem_allH' hp hm)
  have hs := sheets_nat hp hm
  have hl' : (pileM (codes (foldsOf p m)) m.half).length = 2 * ((sheetM (codes (foldsOf p m)) m.half).length / 2) := by simp only at hl hf; omega
  have := all69_ok p m m.sheets.toNat ((sheetM (codes (foldsOf p m)) m.half).length / 2) (pileM (codes (foldsOf p m)) m.half) hm.fmt hs.1 hs.2 hl' (by simp only at hl; omega) hf.2 (folds_size hp hm) h97
  have e := all_cases allM_cases hp hm
  have e2 : allM (codes (foldsOf p m)) (pileM (codes (foldsOf p m)) m.half) m.sheets.toNat = lvOf p m := eq_of_beq e
  rw [e2] at this
  exact this

theorem make68_ok (p : Prs) (m : Mk) : PCall Try.prog 68 [p.av, m.av] (I (enterE p m)) := by
  refine pcall Try.func68 tr68 rs68 fn68 (by simp [Try.ntmps68]) fun hfit => ?_
  have hl1 : p.fmts.length ≤ 140737488355328 := by simpa using fits_len (fits_agg (hfit 0) 0)
  have hl2 : p.pprs.length ≤ 140737488355328 := by simpa using fits_len (fits_agg (hfit 0) 1)
  have c0 := checkR_ok p
  have c1 := in_ok m.format 0 ((p.fmts.length : Int) - 1)
  have c2 := in_ok m.paper 0 ((p.pprs.length : Int) - 1)
  have c3 := in_ok m.sheets 1 p.sheets
  obtain ⟨R, hR⟩ : ∃ R, R = enterE p m := ⟨_, rfl⟩
  rw [← hR]
  unfold enterE errE at hR
  generalize checkE p = e at *
  simp -implicitDefEqProofs [m68]
  refine vCall_of c0 ?_
  simp -implicitDefEqProofs
  refine cond_bool (fun he => ?_) (fun he => ?_)
  · have h0 : e.2.2 ≠ 0 := by simpa using he
    rw [if_pos h0] at hR
    simp -implicitDefEqProofs [r68, hR]
  have h0 : e.2.2 = 0 := by simpa using he
  rw [if_neg (not_not_intro h0)] at hR
  unfold makeE at hR
  simp -implicitDefEqProofs
  refine ⟨i64 (by omega) (by omega), ?_⟩
  refine vCall_of c1 ?_
  by_cases h1 : 0 ≤ m.format ∧ m.format ≤ (p.fmts.length : Int) - 1
  case neg =>
    rw [if_pos (.inl h1)] at hR
    rw [decide_eq_false h1]
    simp -implicitDefEqProofs [r68, hR]
  rw [decide_eq_true h1]
  simp -implicitDefEqProofs
  refine ⟨i64 (by omega) (by omega), ?_⟩
  refine vCall_of c2 ?_
  by_cases h2 : 0 ≤ m.paper ∧ m.paper ≤ (p.pprs.length : Int) - 1
  case neg =>
    rw [if_pos (.inr h2)] at hR
    rw [decide_eq_false h2]
    simp -implicitDefEqProofs [r68, hR]
  rw [if_neg (fun h => h.elim (fun h => h h1) fun h => h h2)] at hR
  rw [decide_eq_true h2]
  simp -implicitDefEqProofs
  refine vCall_of c3 ?_
  by_cases h3 : 1 ≤ m.sheets ∧ m.sheets ≤ p.sheets
  case neg =>
    rw [if_pos h3] at hR
    rw [decide_eq_false h3]
    simp -implicitDefEqProofs [r68, hR]
  rw [if_neg (not_not_intro h3)] at hR
  rw [decide_eq_true h3]
  simp -implicitDefEqProofs
  obtain ⟨g, hg⟩ : ∃ g : Nat, m.format = g := ⟨m.format.toNat, by omega⟩
  have hgl : g < p.fmts.length := by omega
  rw [foldsOf_at hg hgl] at hR
  cases hh : m.half with
  | false =>
    rw [hh, if_neg (by simp)] at hR
    simp -implicitDefEqProofs [r68, hR]
  | true =>
    rw [hh] at hR
    by_cases h4 : m.sheets = 1
    · have h4' : (m.sheets != 1) = false := by simp [h4]
      simp -implicitDefEqProofs [h4', hg, hgl]
      by_cases h5 : p.fmts[g].folds.size < 2
      · rw [if_pos ⟨rfl, .inr h5⟩] at hR
        have h5' : (p.fmts[g].folds.size : Int) < 2 := by omega
        simp -implicitDefEqProofs [r68, hR, h5']
      · rw [if_neg (by simp [h4, h5])] at hR
        have h5' : ¬ (p.fmts[g].folds.size : Int) < 2 := by omega
        simp -implicitDefEqProofs [r68, hR, h5']
    · have h4' : (m.sheets != 1) = true := by simp [h4]
      rw [if_pos ⟨rfl, .inl h4⟩] at hR
      simp -implicitDefEqProofs [h4', r68, hR]

/-- What Leaves returns. -/
def leavesR (p : Prs) (m : Mk) : List Lf := if enterE p m = 0 then lvOf p m else []

theorem pOr_ok {p : Prs} {m : Mk} (h : enterE p m = 0) : pOr p = p := by
  unfold pOr; rw [if_neg]; simpa using (enterE_zero h).1

end Go.Proofs.Ytcfeipphmklakaa

namespace Go.Proofs.Ytcfeipphmklakaa
open Go.Avm

def IntsI (a b : List Int) (k : Nat) (s : St) : Prop := ∃ q : Bool, s.env 5 = B q ∧ (q = false → a ≠ b) ∧ s.env 6 = I k ∧ (q = true → a.take k = b.take k)

end Go.Proofs.Ytcfeipphmklakaa

namespace Go.Proofs.Ytcfeipphmklakaa
open Go.Avm

/-- The numbers below one with a property. -/
def selT (q : Nat → Bool) (n : Nat) : List Int := ((List.range n).filter q).map Int.ofNat
theorem selT_zero (q : Nat → Bool) : selT q 0 = [] := rfl
theorem selT_succ (q : Nat → Bool) (n : Nat) : selT q (n + 1) = selT q n ++ if q n then [(n : Int)] else [] := by
  unfold selT
  rw [List.range_succ, List.filter_append, List.map_append]
  congr 1
  cases h : q n <;> simp [h]
theorem selT_t {q : Nat → Bool} {n : Nat} (h : q n = true) : selT q (n + 1) = selT q n ++ [(n : Int)] := by rw [selT_succ, h]; rfl
theorem selT_f {q : Nat → Bool} {n : Nat} (h : q n = false) : selT q (n + 1) = selT q n := by rw [selT_succ, h]; simp
theorem selT_len (q : Nat → Bool) (n : Nat) : (selT q n).length ≤ n := by
  unfold selT
  rw [List.length_map]
  exact Nat.le_trans (List.length_filter_le _ _) (by simp)

def plc (x : Lf) : Int × Int × Int := (x.sheet, x.col, x.row)

set_option maxRecDepth 100000 in
theorem nodup_cases : allC.all (fun x => decide ((lvM x).map plc).Nodup) = true := by decide +kernel

set_option maxRecDepth 100000 in
theorem len_cases : allC.all (fun x => decide ((lvM x).length = x.2.2 * (sheetM x.1 x.2.1).length)) = true := by decide +kernel

theorem lv_nodup {p : Prs} {m : Mk} (hp : Right p) (hm : RightM p m) : ((lvOf p m).map plc).Nodup := by
  have := all_cases nodup_cases hp hm
  exact of_decide_eq_true this

theorem lv_len {p : Prs} {m : Mk} (hp : Right p) (hm : RightM p m) : 2 ≤ (lvOf p m).length ∧ (lvOf p m).length ≤ 64 := by
  have h1 := of_decide_eq_true (all_cases len_cases hp hm)
  have h2 := sheetM_len _ (mem_allH' hp hm)
  have h3 := sheets_nat hp hm
  have h4 : (lvOf p m).length = m.sheets.toNat * (sheetM (codes (foldsOf p m)) m.half).length := h1
  simp only at h2
  rw [h4]
  have h5 := Nat.mul_le_mul h3.2.2 h2.2.2
  have h6 := Nat.mul_le_mul h3.2.1 h2.2.1
  omega

theorem lv_inj {p : Prs} {m : Mk} (hp : Right p) (hm : RightM p m) {i j : Nat} (hi : i < (lvOf p m).length) (hj : j < (lvOf p m).length) (h : plc (lvOf p m)[i] = plc (lvOf p m)[j]) : i = j := by
  have hn := lv_nodup hp hm
  rw [List.Nodup, List.pairwise_iff_getElem] at hn
  rcases Nat.lt_trichotomy i j with hij | hij | hij
  · exact (hn i j (by simpa using hi) (by simpa using hj) hij (by simpa using h)).elim
  · exact hij
  · exact (hn j i (by simpa using hj) (by simpa using hi) hij (by simpa using h.symm)).elim

end Go.Proofs.Ytcfeipphmklakaa

namespace Go.Proofs.Ytcfeipphmklakaa
open Go.Avm

theorem eqCells_lf (x y : Lf) : eqCells [false, false, false, true, true] [I x.sheet, I x.col, I x.row, B x.inner, B x.turned] [I y.sheet, I y.col, I y.row, B y.inner, B y.turned] = some (decide (x = y)) := by
  obtain ⟨a, b, c, d, e⟩ := x
  obtain ⟨a', b', c', d', e'⟩ := y
  simp only [eqCells, if_true, Option.map_some, Lf.mk.injEq, Option.some.injEq]
  by_cases h1 : a = a' <;> by_cases h2 : b = b' <;> by_cases h3 : c = c' <;> by_cases h4 : d = d' <;> by_cases h5 : e = e' <;> simp [h1, h2, h3, h4, h5]

def mateQ (l : List Lf) (k i : Nat) : Bool := (i != k) && (l.getD i zLf).sheet == (l.getD k zLf).sheet

/-- What Mates returns. -/
def matesR (p : Prs) (m : Mk) (leaf : Int) : List Int × Int × Int :=
  if enterE p m ≠ 0 then ([], 0, enterE p m)
  else if ¬ (0 ≤ leaf ∧ leaf ≤ (lvOf p m).length - 1) then ([], 0, 4)
  else (selT (mateQ (lvOf p m) leaf.toNat) (lvOf p m).length, (lvOf p m).length - 1 - leaf, 0)

theorem mates26_ok (p : Prs) (m : Mk) (leaf : Int) : PCall Try.prog 26 [p.av, m.av, I leaf] (.tuple [IL (matesR p m leaf).1, I (matesR p m leaf).2.1, I (matesR p m leaf).2.2]) := by
  refine pcall Try.func26 tr26 rs26 fn26 (by simp [Try.ntmps26]) fun hfit => ?_
  have c1 := enter_ok p m
  have c2 : enterE p m = 0 → PCall Try.prog 67 [p.av, m.av] (LL (lvOf p m)) := fun h => leaves_ok (right_of (enterE_zero h).1) (rightM_of (enterE_zero h).2)
  have hn : enterE p m = 0 → ∀ (i j : Nat) (hi : i < (lvOf p m).length) (hj : j < (lvOf p m).length), (lvOf p m)[i] = (lvOf p m)[j] → i = j :=
    fun h i j hi hj e => lv_inj (right_of (enterE_zero h).1) (rightM_of (enterE_zero h).2) hi hj (by rw [e])
  have hlen : enterE p m = 0 → 2 ≤ (lvOf p m).length ∧ (lvOf p m).length ≤ 64 := fun h => lv_len (right_of (enterE_zero h).1) (rightM_of (enterE_zero h).2)
  have hq : enterE p m = 0 → pOr p = p := pOr_ok
  obtain ⟨R, hR⟩ : ∃ R, R = matesR p m leaf := ⟨_, rfl⟩
  rw [← hR]
  unfold matesR at hR
  generalize lvOf p m = l at *
  generalize enterE p m = e at *
  generalize pOr p = po at *
  simp -implicitDefEqProofs [m26]
  refine vCall_of c1 ?_
  simp -implicitDefEqProofs
  intro b
  refine cond_bool (fun he => ?_) (fun he => ?_)
  · have h0 : e ≠ 0 := by simpa using he
    rw [if_pos h0] at hR
    simp -implicitDefEqProofs [r26, hR]
  have h0 : e = 0 := by simpa using he
  rw [if_neg (not_not_intro h0)] at hR
  have c2 := c2 h0
  have hn := hn h0
  have hlen := hlen h0
  obtain rfl := hq h0
  simp -implicitDefEqProofs
  refine vCall_of c2 ?_
  simp -implicitDefEqProofs
  refine ⟨i64 (by omega) (by omega), ?_⟩
  have c3 := outside_ok 0 ((l.length : Int) - 1) [leaf]
  rw [out1] at c3
  refine vCall_of c3 ?_
  by_cases h1 : 0 ≤ leaf ∧ leaf ≤ (l.length : Int) - 1
  case neg =>
    rw [if_pos h1] at hR
    rw [decide_eq_false h1]
    simp -implicitDefEqProofs [r26, hR]
  rw [if_neg (not_not_intro h1)] at hR
  rw [decide_eq_true h1]
  obtain ⟨k, rfl⟩ : ∃ k : Nat, leaf = k := ⟨leaf.toNat, by omega⟩
  have hk : k < l.length := by omega
  simp -implicitDefEqProofs
  refine loop_up l.length (fun j s => s.env 2 = I k ∧ s.env 6 = .slice 1 ((selT (mateQ l k) j).map I) 7 ∧ s.env 10 = LL l ∧ s.env 31 = LL l ∧ s.env 32 = I l.length ∧ s.env 33 = I j) ?_ ?_
  · simp [selT_zero]
  rintro j s hj ⟨e2, e6, e10, e31, e32, e33⟩
  simp -implicitDefEqProofs [e32, e33]
  refine cond_dec (fun hlt => ?_) (fun hge => ?_)
  · have hlt : j < l.length := by omega
    have hsl := selT_len (mateQ l k) j
    simp -implicitDefEqProofs [e2, e10, e31, e33, hlt, hk]
    intro b2 hb2
    by_cases hs : l[j].sheet = l[k].sheet
    · have hs' : (l[j].sheet == l[k].sheet) = true := by simp [hs]
      simp -implicitDefEqProofs [hs', e2, e10, e31, e33, hlt, hk, -eqCells, eqCells_lf]
      refine cond_bool (fun he => ?_) (fun he => ?_)
      · have hne : l[j] ≠ l[k] := by simpa using he
        have hjk : j ≠ k := fun h => by subst h; exact hne rfl
        have hf : mateQ l k j = true := by simp [mateQ, List.getD_eq_getElem?_getD, hlt, hk, hs, hjk]
        simp -implicitDefEqProofs [e6, e33]
        refine ⟨by omega, by omega, i64 (by omega) (by omega), round_ok hlt ⟨by simp [e2], by simp [selT_t hf], by simp [e10], by simp [e31], by simp [e32], by simp⟩⟩
      · have heq : l[j] = l[k] := by simpa using he
        have hjk : j = k := hn j k hlt hk heq
        have hf : mateQ l k j = false := by simp [mateQ, hjk]
        simp -implicitDefEqProofs [e33]
        refine ⟨i64 (by omega) (by omega), round_ok hlt ⟨by simp [e2], by simp [e6, selT_f hf], by simp [e10], by simp [e31], by simp [e32], by simp⟩⟩
    · have hs' : (l[j].sheet == l[k].sheet) = false := by simp [hs]
      have hf : mateQ l k j = false := by simp [mateQ, List.getD_eq_getElem?_getD, hlt, hk, hs']
      simp -implicitDefEqProofs [hs', e2, e10, e31, e33, hlt, hk]
      refine ⟨i64 (by omega) (by omega), round_ok hlt ⟨by simp [e2], by simp [e6, selT_f hf], by simp [e10], by simp [e31], by simp [e32], by simp⟩⟩
  · obtain rfl : j = l.length := by omega
    simp -implicitDefEqProofs [e2, e6, e10]
    refine ⟨i64 (by omega) (by omega), i64 (by omega) (by omega), ?_⟩
    simp -implicitDefEqProofs [r26, hR]

end Go.Proofs.Ytcfeipphmklakaa

namespace Go.Proofs.Ytcfeipphmklakaa
open Go.Avm

/-- Whether a piece of the watermark is in a leaf. -/
def markM (w : List Nat) (x : Lf) (h : Int) : Bool :=
  decide (4 * x.col ≤ (timesN w 120 : Int) * (1 + 2 * h) ∧ (timesN w 120 : Int) * (1 + 2 * h) ≤ 4 * x.col + 4) && decide (2 * x.row ≤ (timesN w 121 : Int) ∧ (timesN w 121 : Int) ≤ 2 * x.row + 2)

theorem times_le : ∀ w ∈ allF, 1 ≤ timesN w 120 ∧ timesN w 120 ≤ 16 ∧ 1 ≤ timesN w 121 ∧ timesN w 121 ≤ 16 := by decide +kernel

/-- A leaf at a place that a sheet can have. -/
def okLf (s : Nat) (x : Lf) : Bool := decide (0 ≤ x.sheet ∧ x.sheet < s ∧ 0 ≤ x.col ∧ x.col < 16 ∧ 0 ≤ x.row ∧ x.row < 16)

set_option maxRecDepth 100000 in
theorem ok_cases : allC.all (fun x => (lvM x).all (okLf x.2.2)) = true := by decide +kernel

theorem lv_okLf {p : Prs} {m : Mk} (hp : Right p) (hm : RightM p m) {x : Lf} (hx : x ∈ lvOf p m) : 0 ≤ x.sheet ∧ x.sheet < m.sheets ∧ 0 ≤ x.col ∧ x.col < 16 ∧ 0 ≤ x.row ∧ x.row < 16 := by
  have := of_decide_eq_true (List.all_eq_true.1 (all_cases ok_cases hp hm) x hx)
  have hs := sheets_nat hp hm
  have e : ((caseOf p m).2.2 : Int) = m.sheets := hs.1.symm
  omega

theorem grid_ok {p : Prs} {m : Mk} (hp : Right p) (hm : RightM p m) : PCall Try.prog 70 [S (foldsOf p m)] (.tuple [I (timesN (codes (foldsOf p m)) 120), I (timesN (codes (foldsOf p m)) 121)]) := by
  have := grid_all _ (foldsOf_mem hp hm)
  rwa [strF_codes] at this
theorem timesx_ok {p : Prs} {m : Mk} (hp : Right p) (hm : RightM p m) : PCall Try.prog 72 [S (foldsOf p m), .lit (.int .u8 120)] (I (timesN (codes (foldsOf p m)) 120)) := by
  have := times_120 _ (foldsOf_mem hp hm)
  rwa [strF_codes] at this
theorem timesy_ok {p : Prs} {m : Mk} (hp : Right p) (hm : RightM p m) : PCall Try.prog 72 [S (foldsOf p m), .lit (.int .u8 121)] (I (timesN (codes (foldsOf p m)) 121)) := by
  have := times_121 _ (foldsOf_mem hp hm)
  rwa [strF_codes] at this

theorem mul_small {a h : Int} (ha : 1 ≤ a ∧ a ≤ 16) (hh : 0 ≤ h ∧ h ≤ 1) : 1 ≤ a * (1 + 2 * h) ∧ a * (1 + 2 * h) ≤ 48 := by
  have : h = 0 ∨ h = 1 := by omega
  rcases this with rfl | rfl <;> omega

theorem mark_ok {p : Prs} {m : Mk} (hp : Right p) (hm : RightM p m) (x : Lf) (hx : 0 ≤ x.col ∧ x.col < 16 ∧ 0 ≤ x.row ∧ x.row < 16) (h : Int) (hh : 0 ≤ h ∧ h ≤ 1) :
    PCall Try.prog 74 [p.av, m.av, x.av, I h] (B (markM (codes (foldsOf p m)) x h)) := by
  refine pcall Try.func74 tr74 rs74 fn74 (by simp [Try.ntmps74]) fun hfit => ?_
  have c1 := folds71_ok p m hm.fmt
  have c2 := grid_ok hp hm
  have ht := times_le _ (foldsOf_mem hp hm)
  obtain ⟨R, hR⟩ : ∃ R, R = markM (codes (foldsOf p m)) x h := ⟨_, rfl⟩
  rw [← hR]
  unfold markM at hR
  generalize timesN (codes (foldsOf p m)) 120 = a at *
  generalize timesN (codes (foldsOf p m)) 121 = b at *
  generalize foldsOf p m = f at *
  have hmul := mul_small (a := a) (h := h) (by omega) hh
  generalize hv : (a : Int) * (1 + 2 * h) = v at *
  have c3 := outside_ok (4 * x.col) (4 * x.col + 4) [v]
  have c4 := outside_ok (2 * x.row) (2 * x.row + 2) [(b : Int)]
  rw [out1] at c3 c4
  simp -implicitDefEqProofs [m74]
  refine vCall_of c1 ?_
  simp -implicitDefEqProofs
  refine vCall_of c2 ?_
  simp -implicitDefEqProofs [hv]
  refine ⟨i64 (by omega) (by omega), i64 (by omega) (by omega), i64 (by omega) (by omega), i64 (by omega) (by omega), i64 (by omega) (by omega), ?_⟩
  refine vCall_of c3 ?_
  by_cases h1 : 4 * x.col ≤ v ∧ v ≤ 4 * x.col + 4
  · rw [decide_eq_true h1] at hR ⊢
    simp -implicitDefEqProofs
    refine ⟨i64 (by omega) (by omega), i64 (by omega) (by omega), ?_⟩
    refine vCall_of c4 ?_
    simp -implicitDefEqProofs [r74, hR]
  · rw [decide_eq_false h1] at hR ⊢
    simp -implicitDefEqProofs [r74, hR]

theorem has_ok {p : Prs} {m : Mk} (hp : Right p) (hm : RightM p m) (x : Lf) (hx : 0 ≤ x.col ∧ x.col < 16 ∧ 0 ≤ x.row ∧ x.row < 16) (h : Int) (hh : 0 ≤ h ∧ h ≤ 1) :
    PCall Try.prog 75 [p.av, m.av, x.av, I h] (B (markM (codes (foldsOf p m)) x h)) := by
  refine pcall Try.func75 tr75 rs75 fn75 (by simp [Try.ntmps75]) fun hfit => ?_
  have c1 := timesx_ok hp hm
  have c2 := timesy_ok hp hm
  have ht := times_le _ (foldsOf_mem hp hm)
  obtain ⟨R, hR⟩ : ∃ R, R = markM (codes (foldsOf p m)) x h := ⟨_, rfl⟩
  rw [← hR]
  unfold markM at hR
  generalize timesN (codes (foldsOf p m)) 120 = a at *
  generalize timesN (codes (foldsOf p m)) 121 = b at *
  obtain ⟨g, hg⟩ : ∃ g : Nat, m.format = g := ⟨m.format.toNat, by have := hm.fmt; omega⟩
  have hgl : g < p.fmts.length := by have := hm.fmt; omega
  rw [foldsOf_at hg hgl] at c1 c2
  have hmul := mul_small (a := a) (h := h) (by omega) hh
  generalize hv : (a : Int) * (1 + 2 * h) = v at *
  have c3 := in_ok v (4 * x.col) (4 * x.col + 4)
  have c4 := in_ok b (2 * x.row) (2 * x.row + 2)
  simp -implicitDefEqProofs [m75, hg, hgl]
  refine vCall_of c1 ?_
  simp -implicitDefEqProofs
  refine vCall_of c2 ?_
  simp -implicitDefEqProofs [hv]
  refine ⟨i64 (by omega) (by omega), i64 (by omega) (by omega), i64 (by omega) (by omega), i64 (by omega) (by omega), i64 (by omega) (by omega), ?_⟩
  refine vCall_of c3 ?_
  by_cases h1 : 4 * x.col ≤ v ∧ v ≤ 4 * x.col + 4
  · rw [decide_eq_true h1] at hR ⊢
    simp -implicitDefEqProofs
    refine ⟨i64 (by omega) (by omega), i64 (by omega) (by omega), ?_⟩
    refine vCall_of c4 ?_
    simp -implicitDefEqProofs [r75, hR]
  · rw [decide_eq_false h1] at hR ⊢
    simp -implicitDefEqProofs [r75, hR]
end Go.Proofs.Ytcfeipphmklakaa

namespace Go.Proofs.Ytcfeipphmklakaa
open Go.Avm

def markQ (w : List Nat) (l : List Lf) (hs : List Int) (i : Nat) : Bool := markM w (l.getD i zLf) (hs.getD (l.getD i zLf).sheet.toNat 0)

/-- What Marked returns. -/
def markedR (p : Prs) (m : Mk) (hs : List Int) : List Int × Int :=
  if enterE p m ≠ 0 then ([], enterE p m)
  else if (hs.length : Int) ≠ m.sheets then ([], 3)
  else if out 0 1 hs = true then ([], 7)
  else (selT (markQ (codes (foldsOf p m)) (lvOf p m) hs) (lvOf p m).length, 0)

def HalfI (hs : List Int) (k : Nat) (s : St) : Prop := ∃ e : Int, s.env 8 = I e ∧ (e = 0 ∨ e = 7) ∧ (e ≠ 0 ↔ out 0 1 (hs.take k) = true)

end Go.Proofs.Ytcfeipphmklakaa

namespace Go.Proofs.Ytcfeipphmklakaa
open Go.Avm

/-- Whether a leaf is at a place. -/
def atQ (s c r : Int) (x : Lf) : Bool := decide (x.sheet = s ∧ x.col = c ∧ x.row = r)

/-- The page of a leaf on a forme. -/
def pageM (x : Lf) (i : Nat) (inner : Bool) : Int := if x.turned then -(2 * (i : Int) + 1 + if x.inner = inner then 0 else 1) else 2 * (i : Int) + 1 + if x.inner = inner then 0 else 1

/-- The pages of a forme at a place. -/
def cellP (l : List Lf) (inner : Bool) (s : Int) (c r : Nat) : List Int := match l.findIdx? (atQ s c r) with
  | some i => [pageM (l.getD i zLf) i inner]
  | none => []
def colT (l : List Lf) (inner : Bool) (s : Int) (r c : Nat) : List Int := (List.range c).flatMap fun k => cellP l inner s k r
def rowT (l : List Lf) (inner : Bool) (s : Int) (cols r : Nat) : List Int := (List.range r).flatMap fun k => colT l inner s k cols

/-- What Forme returns. -/
def formeR (p : Prs) (m : Mk) (s : Int) (inner : Bool) : List Int × Int :=
  if enterE p m ≠ 0 then ([], enterE p m)
  else if ¬ (0 ≤ s ∧ s ≤ m.sheets - 1) then ([], 4)
  else (rowT (lvOf p m) inner s (timesN (codes (foldsOf p m)) 120) (timesN (codes (foldsOf p m)) 121), 0)

end Go.Proofs.Ytcfeipphmklakaa

namespace Go.Proofs.Ytcfeipphmklakaa
open Go.Avm

def entry (q : Lf × Int) : List AV := [.agg [I q.1.sheet, I q.1.col, I q.1.row], I q.2]
def psT (l : List Lf) (inner : Bool) (k : Nat) : List (Lf × Int) := (List.range k).map fun i => (l.getD i zLf, pageM (l.getD i zLf) i inner)
def entT (l : List Lf) (inner : Bool) (k : Nat) : List (List AV) := (psT l inner k).map entry

end Go.Proofs.Ytcfeipphmklakaa

namespace Go.Proofs.Ytcfeipphmklakaa
open Go.Avm

/-- A sheet, a leaf, a forme and halves. -/
structure Ask where
  sheet : Int
  leaf : Int
  inner : Bool
  halves : List Int

abbrev Ask.cs (x : Ask) : List AV := [I x.sheet, I x.leaf, B x.inner, .slice 1 (x.halves.map I) 0]
abbrev Ask.av (x : Ask) : AV := .agg x.cs

end Go.Proofs.Ytcfeipphmklakaa

