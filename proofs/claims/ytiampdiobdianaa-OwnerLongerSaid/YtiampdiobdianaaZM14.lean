/- The resolved code of some functions, written by program, each held against the function by the kernel. The law OwnerLonger: its contract. -/
import Derived.Test.YtiampdiobdianaaZD
import Derived.KernelRfl
import Derived.Test.YtiampdiobdianaaZL
namespace Go.Proofs.Ytiampdiobdianaa
open Go.Avm

/- duodecimo/duodecimolaw08.OwnerLonger -/
def ann14 : Ann := { muts := [28, 31], nilsz := [], oid := [(32, 6002)], frz := [], zero := [(5, [(.lit (.int .i64 0)), (.lit (.int .i64 0)), (.slice 3 [] 6002), (.slice 4 [] 6003), (.slice 3 [] 6004)]), (28, [(.lit (.string ⟨#[]⟩)), (.lit (.int .i64 0)), (.lit (.int .i64 0))]), (31, [(.lit (.string ⟨#[]⟩)), (.lit (.int .i64 0)), (.lit (.int .i64 0))])], ord := [(5, [0, 1, 2, 3, 4, 5, 6, 7, 8, 9, 10]), (6, [0, 1, 2, 3, 4, 5, 6, 7, 8, 9, 10, 11, 12, 13, 14, 15, 16, 17, 18, 19, 20, 21, 22, 23, 24, 25]), (7, [0, 1, 2, 3, 4, 5, 6, 7, 8, 9, 10, 11]), (8, [0, 1, 2, 3, 4, 5, 6, 7, 8, 9, 10, 11])], ap := [(64, []), (66, [])], own := [6, 8, 10], yl := [], fz := [(6, [5])], imm := [59], ic := [], cl := [], ylL := [], rl := [] }
def m14 : MCode := (.seq (.reg [.boxI 2 (.t 0) 5, .boxI 3 (.t 1) 4, .asg 4 (.c (.lit (.bool false)))])
 (.seq (.seq (.reg [.load 17 (.t 2) (some 5), .call 18 37 [(.t 17)], .not 19 (.t 18), .cpy 20 (.t 19), .guard 20 false (some 21) (.addr 21 (.t 2) 2), .guard 20 false (some 22) (.load 22 (.t 21) none), .guard 20 false (some 23) (.len 23 (.t 22)), .guard 20 false (some 24) (.bin 24 .eql (.t 23) (.c (.lit (.int .i64 0)))), .pick 25 (.t 20) (.c (.lit (.bool true))) (.t 24)])
 (.cond (.t 25) (.seq (.reg [.call 26 23 [], .asg 4 (.t 26)])
 .ret) .skip))
 (.seq (.reg [.load 27 (.t 2) (some 5), .alloc 5 [(.lit (.int .i64 0)), (.lit (.int .i64 0)), (.slice 3 [] 6002), (.slice 4 [] 6003), (.slice 3 [] 6004)], .store (.t 5) (.t 27) 5 0])
 (.seq (.reg [.mkM 28 (.c (.lit (.int .i64 0))) (.c (.lit (.int .i64 0))) 3 32 [(.lit (.string ⟨#[]⟩)), (.lit (.int .i64 0)), (.lit (.int .i64 0))], .addr 29 (.t 2) 2, .load 30 (.t 29) none, .appM 31 (.t 28) (.t 30) 3 32 [(.lit (.string ⟨#[]⟩)), (.lit (.int .i64 0)), (.lit (.int .i64 0))], .addr 32 (.t 5) 2, .store (.t 32) (.t 31) 1 6002])
 (.seq (.reg [.addr 33 (.t 5) 2, .load 34 (.t 33) none, .idxA 35 (.t 3) (.c (.lit (.int .i64 0))) 4 1, .load 36 (.t 35) none, .conv 37 .i64 (.t 36), .addr 38 (.t 2) 2, .load 39 (.t 38) none, .len 40 (.t 39), .bin 41 .rem (.t 37) (.t 40), .idxS 42 (.t 34) (.t 41) 3, .asg 6 (.t 42)])
 (.seq (.reg [.cpy 43 (.t 6), .cpy 44 (.t 6), .cpy 45 (.t 6), .nilchk 46 (.t 45), .addr 47 (.t 46) 1, .load 48 (.t 47) none, .idxA 49 (.t 3) (.c (.lit (.int .i64 1))) 4 1, .load 50 (.t 49) none, .conv 51 .i64 (.t 50), .bin 52 .sub (.t 48) (.t 51), .maxI 53 (.c (.lit (.int .i64 0))) (.t 52), .cpy 54 (.t 6), .nilchk 55 (.t 54), .addr 56 (.t 55) 2, .load 57 (.t 56) none, .idxA 58 (.t 3) (.c (.lit (.int .i64 2))) 4 1, .loadI 59 (.t 58) none, .conv 60 .i64 (.t 59), .bin 61 .add (.t 57) (.t 60), .minI 62 (.c (.lit (.int .i64 9999))) (.t 61), .nilchk 63 (.t 43), .addr 64 (.t 63) 1, .apart [] (.t 64) (.store (.t 64) (.t 53) 1 0), .nilchk 65 (.t 44), .addr 66 (.t 65) 2, .apart [] (.t 66) (.store (.t 66) (.t 62) 1 0), .frz 5])
 (.seq (.reg [.load 68 (.t 2) (some 5), .load 69 (.t 2) (some 5), .idxA 70 (.t 3) (.c (.lit (.int .i64 3))) 4 1, .load 71 (.t 70) none, .conv 72 .i64 (.t 71), .call 73 41 [(.t 69), (.t 72)], .call 74 21 [(.t 68), (.t 73)], .cpy 67 (.t 74), .ext 75 (.t 67) 0, .ext 76 (.t 67) 1, .cpyE 7 (.t 75), .asg 8 (.t 76)])
 (.seq (.reg [.load 78 (.t 5) (some 5), .load 79 (.t 2) (some 5), .idxA 80 (.t 3) (.c (.lit (.int .i64 3))) 4 1, .load 81 (.t 80) none, .conv 82 .i64 (.t 81), .call 83 41 [(.t 79), (.t 82)], .call 84 21 [(.t 78), (.t 83)], .cpy 77 (.t 84), .ext 85 (.t 77) 0, .ext 86 (.t 77) 1, .cpyE 9 (.t 85), .asg 10 (.t 86)])
 (.seq (.reg [.load 88 (.t 2) (some 5), .call 89 18 [(.t 88)], .cpy 87 (.t 89), .ext 90 (.t 87) 0, .ext 91 (.t 87) 1, .ext 92 (.t 87) 2, .asg 11 (.t 90), .asg 12 (.t 91), .asg 13 (.t 92)])
 (.seq (.reg [.load 94 (.t 5) (some 5), .call 95 18 [(.t 94)], .cpy 93 (.t 95), .ext 96 (.t 93) 0, .ext 97 (.t 93) 1, .ext 98 (.t 93) 2, .asg 14 (.t 96), .asg 15 (.t 97), .asg 16 (.t 98)])
 (.seq (.reg [.cpy 99 (.t 8), .bin 100 .neq (.t 99) (.c (.lit (.int .i64 0))), .cpy 101 (.t 100), .guard 101 false (some 102) (.cpy 102 (.t 10)), .guard 101 false (some 103) (.bin 103 .eql (.t 102) (.c (.lit (.int .i64 0)))), .guard 101 false (some 104) (.cpy 104 (.t 103)), .guard 104 true (some 105) (.cpy 105 (.t 9)), .guard 104 true (some 106) (.cpy 106 (.t 7)), .guard 104 true (some 107) (.bin 107 .leq (.t 105) (.t 106)), .guard 101 false (some 108) (.pick 108 (.t 104) (.t 107) (.c (.lit (.bool false)))), .pick 109 (.t 101) (.c (.lit (.bool true))) (.t 108), .cpy 110 (.t 109), .guard 110 true (some 111) (.cpy 111 (.t 13)), .guard 110 true (some 112) (.bin 112 .neq (.t 111) (.c (.lit (.int .i64 0)))), .guard 110 true (some 113) (.cpy 113 (.t 112)), .guard 113 false (some 114) (.cpy 114 (.t 16)), .guard 113 false (some 115) (.bin 115 .eql (.t 114) (.c (.lit (.int .i64 0)))), .guard 113 false (some 116) (.cpy 116 (.t 115)), .guard 116 true (some 117) (.cpy 117 (.t 15)), .guard 116 true (some 118) (.cpy 118 (.t 12)), .guard 116 true (some 119) (.bin 119 .leq (.t 117) (.t 118)), .guard 113 false (some 120) (.pick 120 (.t 116) (.t 119) (.c (.lit (.bool false)))), .guard 110 true (some 121) (.pick 121 (.t 113) (.c (.lit (.bool true))) (.t 120)), .pick 122 (.t 110) (.t 121) (.c (.lit (.bool false))), .cpy 123 (.t 122), .guard 123 true (some 124) (.call 124 23 []), .pick 125 (.t 123) (.t 124) (.c (.lit (.bool false))), .asg 4 (.t 125)])
 .ret)))))))))))
def r14 : List MRes := [.tmp 4]
theorem tr14 : Try.f14.body.bind (trC Try.prog ann14 Try.f14.ntmps) = some m14 := by kernel_rfl
theorem rs14 : trRes Try.prog Try.f14.results.toList = some r14 := by kernel_rfl
theorem fn14 : isFunc Try.prog 14 = true := by kernel_rfl
end Go.Proofs.Ytiampdiobdianaa

namespace Go.Proofs.Ytiampdiobdianaa
open Go.Avm

/-- An owner who was born earlier and died later. -/
def longO (w : Ower) (x y : Int) : Ower := ⟨w.name, max 0 (w.born - x), min 9999 (w.died + y)⟩
def longC (c : Case) (i : Nat) (x y : Int) : Case := { c with owners := c.owners.set i (longO (c.owners.getD i owerD) x y) }
theorem longC_len (c : Case) (i : Nat) (x y : Int) : (longC c i x y).owners.length = c.owners.length := by simp [longC]
theorem longC_at {c : Case} {i : Nat} {x y : Int} {j : Nat} (hj : j < c.owners.length) : owerAt (longC c i x y) j = if i = j then longO (owerAt c j) x y else owerAt c j := by
  unfold owerAt
  show (c.owners.set i (longO (c.owners.getD i owerD) x y)).getD j owerD = _
  rw [List.getD_eq_getElem?_getD, List.getElem?_set]
  by_cases e : i = j
  · subst e; rw [if_pos rfl, if_pos hj, if_pos rfl]; rfl
  · rw [if_neg e, if_neg e, List.getD_eq_getElem?_getD]
theorem fMax_mono (q : Sale → Prop) [DecidablePred q] : ∀ (l : List Sale) (a b : Int), a ≤ b → fMax q l a ≤ fMax q l b
  | [], _, _, h => h
  | s :: l, a, b, h => by
    show fMax q l (if q s then max a s.year else a) ≤ fMax q l (if q s then max b s.year else b)
    refine fMax_mono q l _ _ ?_
    split <;> omega
theorem fMin_mono (q : Sale → Prop) [DecidablePred q] : ∀ (l : List Sale) (a b : Int), a ≤ b → fMin q l a ≤ fMin q l b
  | [], _, _, h => h
  | s :: l, a, b, h => by
    show fMin q l (if q s then min a s.year else a) ≤ fMin q l (if q s then min b s.year else b)
    refine fMin_mono q l _ _ ?_
    split <;> omega
theorem longC_weak {c : Case} (hc : c.OK) (i : Nat) {x y : Int} (hx : 0 ≤ x) (hy : 0 ≤ y) : Weak (longC c i x y) c id := by
  refine ⟨rfl, rfl, longC_len c i x y, fun q hq => ⟨hq, rfl, Int.le_refl _, Int.le_refl _, fun hn => ?_⟩, fun s hs => ⟨s, hs, rfl, rfl⟩, fun j hj => ?_⟩
  · have := hc.upon q hq
    show c.marks[q].upon = ((c.marks[q].upon.toNat : Nat) : Int)
    have hn : c.marks[q].upon ≠ -1 := hn
    omega
  · have hj : j < c.owners.length := by rw [longC_len] at hj; exact hj
    have hw := hc.owners _ (List.getElem_mem hj)
    have e : owerAt c j = c.owners[j] := by unfold owerAt; exact ower_at hj
    have h1 : (owerAt (longC c i x y) j).born ≤ (owerAt c j).born ∧ (owerAt c j).died ≤ (owerAt (longC c i x y) j).died := by
      rw [longC_at hj]
      by_cases e2 : i = j
      · rw [if_pos e2, e]
        show max 0 (c.owners[j].born - x) ≤ _ ∧ _ ≤ min 9999 (c.owners[j].died + y)
        omega
      · rw [if_neg e2]; exact ⟨Int.le_refl _, Int.le_refl _⟩
    refine ⟨fMax_mono _ c.sales _ _ ?_, Int.le_refl _, fMax_mono _ c.sales _ _ h1.1, fMin_mono _ c.sales _ _ ?_⟩
    · show max c.printed _ ≤ max c.printed _; omega
    · show min _ c.now ≤ min _ c.now; omega
theorem longC_err {c : Case} (h : errE c = 0) {i : Nat} (hi : i < c.owners.length) {x y : Int} (hx : 0 ≤ x) (hy : 0 ≤ y) : errE (longC c i x y) = 0 := by
  obtain ⟨p, h8⟩ := checkS_part h
  have hc := Case.ok h
  have e : checkS (longC c i x y) = (0, 0, 0) := by
    refine checkS_9 ⟨⟨⟨p.h1, p.h2, ?_⟩, ?_, p.h5⟩, ?_, p.h7⟩ ?_
    · rw [longC_len]; exact p.h3
    · intro j hj
      rw [longC_len] at hj
      have h4 := p.h4 j hj
      have hw := hc.owners _ (List.getElem_mem hj)
      have hnm : ∀ j, ((longC c i x y).owners.getD j owerD).name = (c.owners.getD j owerD).name := by
        intro j
        show ((c.owners.set i (longO (c.owners.getD i owerD) x y)).getD j owerD).name = _
        rw [List.getD_eq_getElem?_getD, List.getElem?_set]
        by_cases e : i = j
        · subst e
          rw [if_pos rfl]
          by_cases hl : i < c.owners.length
          · rw [if_pos hl]; rfl
          · omega
        · rw [if_neg e, List.getD_eq_getElem?_getD]
      have hnms : ((longC c i x y).owners.take j).map Ower.name = (c.owners.take j).map Ower.name := by
        apply List.ext_getElem (by simp [longC])
        intro k h1 h2
        have hk : k < c.owners.length := by simp at h2; omega
        have := hnm k
        rw [ower_at hk, List.getD_eq_getElem?_getD, List.getElem?_eq_getElem (by rw [longC_len]; exact hk), Option.getD_some] at this
        simpa using this
      unfold ownE at h4 ⊢
      simp only at h4 ⊢
      rw [hnm, hnms]
      split at h4
      · rename_i hne; exact absurd h4 hne
      rename_i hne
      rw [if_neg hne]
      have e1 := longC_at (i := i) (x := x) (y := y) hj
      have e3 : owerAt c j = c.owners[j] := by unfold owerAt; exact ower_at hj
      have hrg : 0 ≤ (owerAt (longC c i x y) j).born ∧ (owerAt (longC c i x y) j).born ≤ (owerAt (longC c i x y) j).died ∧ (owerAt (longC c i x y) j).died ≤ 9999 := by
        rw [e1]
        by_cases e2 : i = j
        · rw [if_pos e2, e3]
          show 0 ≤ max 0 (c.owners[j].born - x) ∧ max 0 (c.owners[j].born - x) ≤ min 9999 (c.owners[j].died + y) ∧ min 9999 (c.owners[j].died + y) ≤ 9999
          omega
        · rw [if_neg e2, e3]; omega
      unfold owerAt at hrg
      unfold rangeE
      rw [if_neg (by omega), if_neg (by omega)]
    · intro j hj
      have := p.h6 j hj
      unfold markE at this ⊢
      rw [longC_len]; exact this
    · intro j hj
      have := h8 j hj
      unfold saleE at this ⊢
      rw [longC_len]; exact this
  rw [errE, e]

/-! ## The cells of owners -/
def ocells (l : List Ower) : List AV := l.flatMap fun w => [S w.name, I w.born, I w.died]
theorem ocells_len (l : List Ower) : (ocells l).length = 3 * l.length := by
  induction l with
  | nil => rfl
  | cons a l ih => simp only [ocells, List.flatMap_cons, List.length_append, List.length_cons, List.length_nil] at ih ⊢; omega
theorem ocells_lit (l : List Ower) : ∀ x ∈ ocells l, ∃ v, x = .lit v := by
  intro x hx
  simp only [ocells, List.mem_flatMap] at hx
  obtain ⟨w, _, hx⟩ := hx
  simp at hx
  rcases hx with rfl | rfl | rfl <;> exact ⟨_, rfl⟩
theorem lit_erase {cs : List AV} (h : ∀ x ∈ cs, ∃ v, x = .lit v) : cs.map AV.erase0 = cs := by
  calc cs.map AV.erase0 = cs.map id := List.map_congr_left fun x hx => by obtain ⟨m, rfl⟩ := h x hx; rfl
    _ = cs := by simp
theorem lit_cell1 {cs : List AV} (h : ∀ x ∈ cs, ∃ v, x = .lit v) : cs.all AV.cell1 = true := by
  rw [List.all_eq_true]
  intro x hx
  obtain ⟨m, rfl⟩ := h x hx
  rfl
theorem chunk_ocells : ∀ (l : List Ower) (rest : List AV), chunk 3 (ocells l ++ rest) l.length = l.map encOwner
  | [], _ => rfl
  | a :: l, rest => by
    have ih := chunk_ocells l rest
    show (if _ then _ else _) :: chunk 3 ((ocells (a :: l) ++ rest).drop 3) l.length = _
    have e : (ocells (a :: l) ++ rest).drop 3 = ocells l ++ rest := rfl
    rw [e, ih]
    rfl
theorem ocells_set : ∀ (l : List Ower) (rest : List AV) (i : Nat) (h : i < l.length) (x y : Int), ((ocells l ++ rest).set (i * 3 + 1) (I x)).set (i * 3 + 2) (I y) = ocells (l.set i ⟨l[i].name, x, y⟩) ++ rest
  | a :: l, rest, 0, h, x, y => rfl
  | a :: l, rest, i + 1, h, x, y => by
    have ih := ocells_set l rest i (by simpa using h) x y
    have e1 : (i + 1) * 3 + 1 = i * 3 + 1 + 3 := by omega
    have e2 : (i + 1) * 3 + 2 = i * 3 + 2 + 3 := by omega
    rw [e1, e2]
    show S a.name :: I a.born :: I a.died :: ((ocells l ++ rest).set (i * 3 + 1) (I x)).set (i * 3 + 2) (I y) = _
    rw [ih]; rfl
theorem ocells_get : ∀ (l : List Ower) (rest : List AV) (i : Nat) (h : i < l.length), (ocells l ++ rest)[i * 3 + 1]? = some (I l[i].born) ∧ (ocells l ++ rest)[i * 3 + 2]? = some (I l[i].died)
  | a :: l, rest, 0, h => ⟨rfl, rfl⟩
  | a :: l, rest, i + 1, h => by
    have ih := ocells_get l rest i (by simpa using h)
    have e1 : (i + 1) * 3 + 1 = i * 3 + 1 + 3 := by omega
    have e2 : (i + 1) * 3 + 2 = i * 3 + 2 + 3 := by omega
    rw [e1, e2]
    exact ih

theorem ownerLonger_at (c : Case) (a b d f : Int) (oa : 0 ≤ a ∧ a ≤ 65535) (ob : 0 ≤ b ∧ b ≤ 65535) (od : 0 ≤ d ∧ d ≤ 65535) (of : 0 ≤ f ∧ f ≤ 65535) : PCall Try.prog 14 [encCase c, .agg [U a, U b, U d, U f]] (B true) := by
  refine pcall Try.func14 tr14 rs14 fn14 (by simp [Try.ntmps14]) fun _ => ?_
  have hwa := wrap_u oa
  have hwb := wrap_u ob
  have hwd := wrap_u od
  have hwf := wrap_u of
  obtain ⟨na, rfl⟩ : ∃ n : Nat, a = n := ⟨a.toNat, by omega⟩
  obtain ⟨nf, rfl⟩ : ∃ n : Nat, f = n := ⟨f.toNat, by omega⟩
  have aw := awake23_ok
  have c2 := valid37_ok c
  simp -implicitDefEqProofs only [m14]
  refine cutS (fun st => st.env 2 = caseRef c ∧ st.env 3 = .ref [U na, U b, U d, U nf]) ?_ ?_
  · intro k hk
    simp -implicitDefEqProofs
    exact hk _ (by simp)
  rintro s ⟨e2, e3⟩
  by_cases he : errE c = 0
  case neg =>
    rw [decide_eq_false he] at c2
    simp -implicitDefEqProofs [e2]
    refine vCall_of c2 ?_
    simp -implicitDefEqProofs
    refine vCall_of aw ?_
    simp -implicitDefEqProofs [r14]
  rw [decide_eq_true he] at c2
  by_cases hz : c.owners = []
  · simp -implicitDefEqProofs [e2]
    refine vCall_of c2 ?_
    simp -implicitDefEqProofs [e2, hz]
    refine vCall_of aw ?_
    simp -implicitDefEqProofs [r14]
  have hok := Case.ok he
  have hn6 := hok.ownersLen
  have hlp := List.length_pos_iff.2 hz
  obtain ⟨i, hi⟩ : ∃ i, i = na % c.owners.length := ⟨_, rfl⟩
  have hil : i < c.owners.length := by rw [hi]; exact Nat.mod_lt _ hlp
  have hma := tmod_nat na c.owners.length
  rw [← hi] at hma
  have hl0 : ¬ c.owners.length = 0 := by omega
  have hW := longC_weak hok i ob.1 od.1
  have hE := longC_err he hil ob.1 od.1
  have hok2 := Case.ok hE
  obtain ⟨D, hD⟩ : ∃ D, D = longC c i b d := ⟨_, rfl⟩
  rw [← hD] at hW hE hok2
  refine cutS (fun st => st.env 2 = caseRef c ∧ st.env 3 = .ref [U na, U b, U d, U nf]) ?_ ?_
  · intro k hk
    have hz' : ((c.owners.length : Int) == 0) = false := by simp; exact hz
    simp -implicitDefEqProofs [e2]
    refine vCall_of c2 ?_
    simp -implicitDefEqProofs [e2, hz']
    exact hk _ (by simp [e2, e3])
  rintro s ⟨e2, e3⟩
  refine cutS (fun st => st.env 2 = caseRef c ∧ st.env 3 = .ref [U na, U b, U d, U nf] ∧ ∃ b5, st.env 5 = .mref b5 0 ∧ st.loc b5 = some (caseCells c)) ?_ ?_
  · intro k hk
    simp -implicitDefEqProofs [e2]
    intro b5 _
    exact hk _ ⟨by simp [e2], by simp [e3], b5, by simp, by simp⟩
  rintro s ⟨e2, e3, b5, e5, l5⟩
  refine cutS (fun st => st.env 2 = caseRef c ∧ st.env 3 = .ref [U na, U b, U d, U nf] ∧ st.env 5 = .mref b5 0 ∧ ∃ q r, q ≠ b5 ∧ st.loc q = some (ocells c.owners ++ (List.replicate r [S .empty, I 0, I 0]).flatten) ∧
      st.loc b5 = some [I c.printed, I c.now, .mslice q 0 c.owners.length (c.owners.length + r) 3, .slice 4 (c.marks.map encMark) 0, .slice 3 (c.sales.map encSale) 0]) ?_ ?_
  · intro k hk
    have hmc : List.map AV.erase0 (List.flatMap AV.cells (List.map encOwner c.owners)) = ocells c.owners := by
      rw [List.flatMap_map, ← lit_erase (ocells_lit c.owners)]; rfl
    simp -implicitDefEqProofs
    intro b7 h7
    have h57 : ¬ b5 = b7 := by rintro rfl; rw [l5] at h7; cases h7
    simp -implicitDefEqProofs [e2, hz]
    refine ⟨by omega, by omega, fun q r hq => ?_⟩
    have hq7 : ¬ q = b7 := by rintro rfl; simp at hq
    have hq' : s.loc q = none := by simpa [hq7] using hq
    have h5q : ¬ b5 = q := by rintro rfl; rw [l5] at hq'; cases hq'
    have hq5 : ¬ q = b5 := fun e => h5q e.symm
    simp -implicitDefEqProofs [e5, l5, h5q, h57, hmc]
    exact hk _ ⟨by simp [e2], by simp [e3], by simp [e5], q, r, hq5, by simp [hq5]; rfl, by simp⟩
  rintro s ⟨e2, e3, e5, q, r, hq5, lq, l5⟩
  obtain ⟨rest, hrest⟩ : ∃ rest, rest = (List.replicate r [S .empty, I 0, I 0]).flatten := ⟨_, rfl⟩
  have hrl : ∀ x ∈ rest, ∃ v, x = .lit v := by
    rw [hrest]
    intro x hx
    simp only [List.mem_flatten, List.mem_replicate] at hx
    obtain ⟨l, ⟨_, rfl⟩, hx⟩ := hx
    simp at hx
    rcases hx with rfl | rfl <;> exact ⟨_, rfl⟩
  rw [← hrest] at lq
  have h5q : ¬ b5 = q := fun e => hq5 e.symm
  refine cutS (fun st => st.env 2 = caseRef c ∧ st.env 3 = .ref [U na, U b, U d, U nf] ∧ st.env 5 = .mref b5 0 ∧ st.env 6 = .mref q (i * 3) ∧ st.loc q = some (ocells c.owners ++ rest) ∧
      st.loc b5 = some [I c.printed, I c.now, .mslice q 0 c.owners.length (c.owners.length + r) 3, .slice 4 (c.marks.map encMark) 0, .slice 3 (c.sales.map encSale) 0]) ?_ ?_
  · intro k hk
    simp -implicitDefEqProofs [e2, e3, e5, l5, hwa, hl0, hma, hil]
    exact hk _ (by simp [e2, e3, e5, lq, l5])
  rintro s ⟨e2, e3, e5, e6, lq, l5⟩
  obtain ⟨w, hw⟩ : ∃ w, w = c.owners[i] := ⟨_, rfl⟩
  have hwok := hok.owners _ (List.getElem_mem hil)
  rw [← hw] at hwok
  have hget := ocells_get c.owners rest i hil
  rw [← hw] at hget
  have hDo : D.owners = c.owners.set i ⟨w.name, max 0 (w.born - b), min 9999 (w.died + d)⟩ := by
    rw [hD]
    show c.owners.set i (longO (c.owners.getD i owerD) b d) = _
    rw [ower_at hil, hw]; rfl
  have hset := ocells_set c.owners rest i hil (max 0 (w.born - b)) (min 9999 (w.died + d))
  rw [← hw, ← hDo] at hset
  have hlen : (ocells c.owners ++ rest).length = 3 * c.owners.length + rest.length := by rw [List.length_append, ocells_len]
  have p1 : i * 3 + 1 < (ocells c.owners ++ rest).length := by omega
  have p2 : i * 3 + 2 < (ocells c.owners ++ rest).length := by omega
  have g1 : (ocells c.owners ++ rest)[i * 3 + 1] = I w.born := by
    have := hget.1
    rw [List.getElem?_eq_getElem p1] at this
    exact Option.some.inj this
  have g2 : (ocells c.owners ++ rest)[i * 3 + 2] = I w.died := by
    have := hget.2
    rw [List.getElem?_eq_getElem p2] at this
    exact Option.some.inj this
  have hDl : D.owners.length = c.owners.length := by rw [hDo, List.length_set]
  have hch := chunk_ocells D.owners rest
  rw [hDl] at hch
  have hlit : ∀ x ∈ ocells D.owners ++ rest, ∃ v, x = .lit v := fun x hx => (List.mem_append.1 hx).elim (ocells_lit _ x) (hrl x)
  have hlen2 : (ocells D.owners ++ rest).length = 3 * c.owners.length + rest.length := by rw [List.length_append, ocells_len, hDl]
  have hDc : caseCells D = [I c.printed, I c.now, .slice 3 (D.owners.map encOwner) 0, .slice 4 (c.marks.map encMark) 0, .slice 3 (c.sales.map encSale) 0] := by rw [hD]; rfl
  generalize ocells c.owners ++ rest = OC at *
  refine cutS (fun st => st.env 2 = caseRef c ∧ st.env 3 = .ref [U na, U b, U d, U nf] ∧ st.env 5 = .mref b5 0 ∧ st.loc b5 = some (caseCells D)) ?_ ?_
  · intro k hk
    have m1 : (if b < w.born then w.born - b else 0) = max 0 (w.born - b) := by split <;> omega
    have m2 : (if w.died + d < 9999 then w.died + d else 9999) = min 9999 (w.died + d) := by split <;> omega
    simp -implicitDefEqProofs [e3, e5, e6, lq, l5, p1, p2, g1, g2, hwb, hwd, m1, m2, apartAV, h5q]
    refine ⟨i64 (by omega) (by omega), i64 (by omega) (by omega), by omega, by omega, ?_⟩
    refine frz_box (cs2 := ocells D.owners ++ rest) 2 q c.owners.length (c.owners.length + r) 3 rfl hq5 (by simp [hset]) (by rw [hlen2]; omega) (lit_cell1 hlit) (by omega) ?_
    rw [hch]
    refine hk _ ⟨by simp [e2], by simp [e3], by simp [e5], ?_⟩
    rw [hDc]
    simp [upd, h5q]
  rintro s ⟨e2, e3, e5, l5⟩
  have ho := anyO_ok c nf
  have h2 := any41_ok hn6 nf
  have hw1 := why21_ok c (anyO c nf)
  have hw2 := why21_ok D (anyO c nf)
  have hc1 := chain18_ok c
  have hc2 := chain18_ok D
  generalize anyO c nf = O at *
  have hoD := hW.ord.2 ho
  refine cutS (fun st => st.env 2 = caseRef c ∧ st.env 3 = .ref [U na, U b, U d, U nf] ∧ st.env 5 = .mref b5 0 ∧ st.loc b5 = some (caseCells D) ∧ st.env 7 = I (whyS c O).a ∧ st.env 8 = I (whyS c O).e) ?_ ?_
  · intro k hk
    simp -implicitDefEqProofs [e2, e3, hwf]
    refine vCall_of h2 ?_
    simp -implicitDefEqProofs
    refine vCall_of hw1 ?_
    simp -implicitDefEqProofs
    exact hk _ (by simp [e2, e3, e5, l5])
  rintro s ⟨e2, e3, e5, l5, e7, e8⟩
  refine cutS (fun st => st.env 2 = caseRef c ∧ st.env 5 = .mref b5 0 ∧ st.loc b5 = some (caseCells D) ∧ st.env 7 = I (whyS c O).a ∧ st.env 8 = I (whyS c O).e ∧ st.env 9 = I (whyS D O).a ∧ st.env 10 = I (whyS D O).e) ?_ ?_
  · intro k hk
    simp -implicitDefEqProofs [e2, e3, e5, l5, hwf]
    refine vCall_of h2 ?_
    simp -implicitDefEqProofs
    refine vCall_of hw2 ?_
    simp -implicitDefEqProofs
    exact hk _ (by simp [e2, e5, l5, e7, e8])
  rintro s ⟨e2, e5, l5, e7, e8, e9, e10⟩
  refine cutS (fun st => st.env 5 = .mref b5 0 ∧ st.loc b5 = some (caseCells D) ∧ st.env 7 = I (whyS c O).a ∧ st.env 8 = I (whyS c O).e ∧ st.env 9 = I (whyS D O).a ∧ st.env 10 = I (whyS D O).e ∧ st.env 12 = I (chainS c).u ∧ st.env 13 = I (chainS c).e) ?_ ?_
  · intro k hk
    simp -implicitDefEqProofs [e2]
    refine vCall_of hc1 ?_
    simp -implicitDefEqProofs
    exact hk _ (by simp [e5, l5, e7, e8, e9, e10])
  rintro s ⟨e5, l5, e7, e8, e9, e10, e12, e13⟩
  refine cutS (fun st => st.env 7 = I (whyS c O).a ∧ st.env 8 = I (whyS c O).e ∧ st.env 9 = I (whyS D O).a ∧ st.env 10 = I (whyS D O).e ∧ st.env 12 = I (chainS c).u ∧ st.env 13 = I (chainS c).e ∧ st.env 15 = I (chainS D).u ∧ st.env 16 = I (chainS D).e) ?_ ?_
  · intro k hk
    simp -implicitDefEqProofs [e5, l5]
    refine vCall_of hc2 ?_
    simp -implicitDefEqProofs
    exact hk _ (by simp [e7, e8, e9, e10, e12, e13])
  rintro s ⟨e7, e8, e9, e10, e12, e13, e15, e16⟩
  cases hs : solveS c O with
  | none =>
    rw [why_none he ho hs] at e7 e8
    cases hb : bestS c (chainsL c) with
    | none =>
      rw [chain_none he hb] at e12 e13
      simp -implicitDefEqProofs [e8, e13]
      refine vCall_of aw ?_
      simp -implicitDefEqProofs [r14]
    | some l =>
      obtain ⟨l2, hl2, hle⟩ := hW.best hok2 hok hb
      rw [chain_some he hb] at e12 e13
      rw [chain_some hE hl2] at e15 e16
      simp -implicitDefEqProofs [e8, e12, e13, e15, e16, hle]
      refine vCall_of aw ?_
      simp -implicitDefEqProofs [r14]
  | some l0 =>
    obtain ⟨l1, hl1, hle1⟩ := hW.solve hok2 hok hoD hs
    rw [why_some he ho hs] at e7 e8
    rw [why_some hE hoD hl1] at e9 e10
    cases hb : bestS c (chainsL c) with
    | none => rw [no_chain hb ho] at hs; cases hs
    | some l =>
      obtain ⟨l2, hl2, hle⟩ := hW.best hok2 hok hb
      rw [chain_some he hb] at e12 e13
      rw [chain_some hE hl2] at e15 e16
      simp -implicitDefEqProofs [e7, e8, e9, e10, e12, e13, e15, e16, hle, hle1]
      refine vCall_of aw ?_
      simp -implicitDefEqProofs [r14]
theorem ownerLonger_ok (c : Case) (xs : List Int) (_ : CaseSz c) (ox : xs.length = 4 ∧ ∀ x ∈ xs, 0 ≤ x ∧ x ≤ 65535) : PCall Try.prog 14 [encCase c, .agg (xs.flatMap fun y => (U y).cells)] (B true) :=
  match xs, ox with
  | [a, b, d, f], h => ownerLonger_at c a b d f (h.2 a (by simp)) (h.2 b (by simp)) (h.2 d (by simp)) (h.2 f (by simp))
end Go.Proofs.Ytiampdiobdianaa

