/- The resolved code of some functions, written by program, each held against the function by the kernel. The law OwnerBefore: its contract. -/
import Derived.Test.YtiampdiobdianaaZD
import Derived.KernelRfl
import Derived.Test.YtiampdiobdianaaZL
namespace Go.Proofs.Ytiampdiobdianaa
open Go.Avm

/- duodecimo/duodecimolaw08.OwnerBefore -/
def ann12 : Ann := { muts := [], nilsz := [], oid := [], frz := [13], zero := [(13, [(.lit (.int .i64 0)), (.lit (.int .i64 0)), (.lit (.int .i64 0)), (.lit (.int .i64 0))])], ord := [(4, [0, 1, 2, 3, 4, 5, 6, 7, 8, 9, 10, 11, 12, 13, 14, 15]), (13, [0, 1, 2, 3, 4, 5, 6, 7, 8, 9, 10, 11, 12]), (14, [0, 1, 2, 3, 4, 5, 6, 7, 8, 9, 10, 11, 12, 13, 14]), (16, [0, 1, 2, 3, 4, 5, 6, 7, 8, 9, 10, 11, 12, 13, 14, 15])], ap := [], own := [8, 15], yl := [], fz := [], imm := [], ic := [], cl := [], ylL := [], rl := [] }
def m12 : MCode := (.seq (.reg [.boxI 2 (.t 0) 5, .boxI 3 (.t 1) 3, .asg 4 (.c (.lit (.bool false)))])
 (.seq (.seq (.reg [.load 16 (.t 2) (some 5), .call 17 37 [(.t 16)], .not 18 (.t 17), .cpy 19 (.t 18), .guard 19 false (some 20) (.addr 20 (.t 2) 2), .guard 19 false (some 21) (.load 21 (.t 20) none), .guard 19 false (some 22) (.len 22 (.t 21)), .guard 19 false (some 23) (.bin 23 .eql (.t 22) (.c (.lit (.int .i64 0)))), .pick 24 (.t 19) (.c (.lit (.bool true))) (.t 23)])
 (.cond (.t 24) (.seq (.reg [.load 26 (.t 2) (some 5), .call 27 24 [(.t 26), (.c (.lit (.int .i64 0))), (.c (.lit (.int .i64 1)))], .cpy 25 (.t 27), .ext 28 (.t 25) 0, .ext 29 (.t 25) 1, .asg 5 (.t 28), .asg 6 (.t 29)])
 (.seq (.reg [.cpy 30 (.t 6), .bin 31 .neq (.t 30) (.c (.lit (.int .i64 0))), .cpy 32 (.t 31), .guard 32 true (some 33) (.call 33 23 []), .pick 34 (.t 32) (.t 33) (.c (.lit (.bool false))), .asg 4 (.t 34)])
 .ret)) .skip))
 (.seq (.reg [.idxA 35 (.t 3) (.c (.lit (.int .i64 0))) 3 1, .load 36 (.t 35) none, .conv 37 .i64 (.t 36), .addr 38 (.t 2) 2, .load 39 (.t 38) none, .len 40 (.t 39), .bin 41 .rem (.t 37) (.t 40), .idxA 42 (.t 3) (.c (.lit (.int .i64 1))) 3 1, .load 43 (.t 42) none, .conv 44 .i64 (.t 43), .addr 45 (.t 2) 2, .load 46 (.t 45) none, .len 47 (.t 46), .bin 48 .rem (.t 44) (.t 47), .cpyE 7 (.t 41), .asg 8 (.t 48)])
 (.seq (.reg [.load 50 (.t 2) (some 5), .cpy 51 (.t 7), .cpy 52 (.t 8), .call 53 24 [(.t 50), (.t 51), (.t 52)], .cpy 49 (.t 53), .ext 54 (.t 49) 0, .ext 55 (.t 49) 1, .asg 9 (.t 54), .asg 10 (.t 55)])
 (.seq (.reg [.load 57 (.t 2) (some 5), .cpy 58 (.t 8), .cpy 59 (.t 7), .call 60 24 [(.t 57), (.t 58), (.t 59)], .cpy 56 (.t 60), .ext 61 (.t 56) 0, .ext 62 (.t 56) 1, .asg 11 (.t 61), .asg 12 (.t 62)])
 (.seq (.seq (.reg [.cpy 63 (.t 10), .cpy 64 (.t 12), .bin 65 .neq (.t 63) (.t 64), .cpy 66 (.t 65), .guard 66 false (some 67) (.cpy 67 (.t 10)), .guard 66 false (some 68) (.bin 68 .neq (.t 67) (.c (.lit (.int .i64 0)))), .pick 69 (.t 66) (.c (.lit (.bool true))) (.t 68)])
 (.cond (.t 69) (.seq (.reg [.cpy 70 (.t 10), .cpy 71 (.t 12), .bin 72 .eql (.t 70) (.t 71), .cpy 73 (.t 72), .guard 73 true (some 74) (.cpy 74 (.t 9)), .guard 73 true (some 75) (.bin 75 .eql (.t 74) (.c (.lit (.int .i64 0)))), .pick 76 (.t 73) (.t 75) (.c (.lit (.bool false))), .cpy 77 (.t 76), .guard 77 true (some 78) (.cpy 78 (.t 11)), .guard 77 true (some 79) (.bin 79 .eql (.t 78) (.c (.lit (.int .i64 0)))), .pick 80 (.t 77) (.t 79) (.c (.lit (.bool false))), .cpy 81 (.t 80), .guard 81 true (some 82) (.cpy 82 (.t 7)), .guard 81 true (some 83) (.cpy 83 (.t 8)), .guard 81 true (some 84) (.bin 84 .eql (.t 82) (.t 83)), .guard 81 true (some 85) (.cpy 85 (.t 10)), .guard 81 true (some 86) (.bin 86 .eql (.t 85) (.c (.lit (.int .i64 2)))), .guard 81 true (some 87) (.binB 87 false (.t 84) (.t 86)), .pick 88 (.t 81) (.t 87) (.c (.lit (.bool false))), .cpy 89 (.t 88), .guard 89 true (some 90) (.cpy 90 (.t 10)), .guard 89 true (some 91) (.bin 91 .eql (.t 90) (.c (.lit (.int .i64 2)))), .guard 89 true (some 92) (.cpy 92 (.t 91)), .guard 92 false (some 93) (.cpy 93 (.t 10)), .guard 92 false (some 94) (.bin 94 .eql (.t 93) (.c (.lit (.int .i64 8)))), .guard 89 true (some 95) (.pick 95 (.t 92) (.c (.lit (.bool true))) (.t 94)), .pick 96 (.t 89) (.t 95) (.c (.lit (.bool false))), .cpy 97 (.t 96), .guard 97 true (some 98) (.call 98 23 []), .pick 99 (.t 97) (.t 98) (.c (.lit (.bool false))), .asg 4 (.t 99)])
 .ret) .skip))
 (.seq (.seq (.reg [.cpy 100 (.t 9), .bin 101 .eql (.t 100) (.c (.lit (.int .i64 1))), .cpy 102 (.t 11), .bin 103 .eql (.t 102) (.c (.lit (.int .i64 2))), .binB 104 true (.t 101) (.t 103), .cpy 105 (.t 104), .guard 105 false (some 106) (.cpy 106 (.t 9)), .guard 105 false (some 107) (.bin 107 .eql (.t 106) (.c (.lit (.int .i64 2)))), .guard 105 false (some 108) (.cpy 108 (.t 11)), .guard 105 false (some 109) (.bin 109 .eql (.t 108) (.c (.lit (.int .i64 1)))), .guard 105 false (some 110) (.binB 110 true (.t 107) (.t 109)), .pick 111 (.t 105) (.c (.lit (.bool true))) (.t 110), .cpy 112 (.t 111), .guard 112 false (some 113) (.cpy 113 (.t 9)), .guard 112 false (some 114) (.bin 114 .lss (.t 113) (.c (.lit (.int .i64 0)))), .pick 115 (.t 112) (.c (.lit (.bool true))) (.t 114), .cpy 116 (.t 115), .guard 116 false (some 117) (.cpy 117 (.t 9)), .guard 116 false (some 118) (.bin 118 .gtr (.t 117) (.c (.lit (.int .i64 2)))), .pick 119 (.t 116) (.c (.lit (.bool true))) (.t 118)])
 (.cond (.t 119) (.seq (.reg [.asg 4 (.c (.lit (.bool false)))])
 .ret) .skip))
 (.seq (.seq (.reg [.addr 120 (.t 2) 3, .load 121 (.t 120) none, .len 122 (.t 121), .bin 123 .eql (.t 122) (.c (.lit (.int .i64 0)))])
 (.cond (.t 123) (.seq (.reg [.call 124 23 [], .asg 4 (.t 124)])
 .ret) .skip))
 (.seq (.reg [.addr 125 (.t 2) 3, .load 126 (.t 125) none, .idxA 127 (.t 3) (.c (.lit (.int .i64 2))) 3 1, .load 128 (.t 127) none, .conv 129 .i64 (.t 128), .addr 130 (.t 2) 3, .load 131 (.t 130) none, .len 132 (.t 131), .bin 133 .rem (.t 129) (.t 132), .idxS 134 (.t 126) (.t 133) 4, .load 135 (.t 134) (some 4), .alloc 13 [(.lit (.int .i64 0)), (.lit (.int .i64 0)), (.lit (.int .i64 0)), (.lit (.int .i64 0))], .storeF 13 (.t 135) 4])
 (.seq (.seq (.reg [.addr 136 (.t 13) 3, .load 137 (.t 136) none, .bin 138 .eql (.t 137) (.c (.lit (.int .i64 (-1)))), .cpy 139 (.t 138), .guard 139 false (some 140) (.addr 140 (.t 2) 3), .guard 139 false (some 141) (.load 141 (.t 140) none), .guard 139 false (some 142) (.addr 142 (.t 13) 3), .guard 139 false (some 143) (.load 143 (.t 142) none), .guard 139 false (some 144) (.idxS 144 (.t 141) (.t 143) 4), .guard 139 false (some 145) (.addr 145 (.t 144) 0), .guard 139 false (some 146) (.load 146 (.t 145) none), .guard 139 false (some 147) (.addr 147 (.t 13) 0), .guard 139 false (some 148) (.load 148 (.t 147) none), .guard 139 false (some 149) (.bin 149 .eql (.t 146) (.t 148)), .pick 150 (.t 139) (.c (.lit (.bool true))) (.t 149)])
 (.cond (.t 150) (.seq (.reg [.call 151 23 [], .asg 4 (.t 151)])
 .ret) .skip))
 (.seq (.reg [.load 153 (.t 2) (some 5), .addr 154 (.t 2) 3, .load 155 (.t 154) none, .addr 156 (.t 13) 3, .load 157 (.t 156) none, .idxS 158 (.t 155) (.t 157) 4, .addr 159 (.t 158) 0, .load 160 (.t 159) none, .addr 161 (.t 13) 0, .load 162 (.t 161) none, .call 163 24 [(.t 153), (.t 160), (.t 162)], .cpy 152 (.t 163), .ext 164 (.t 152) 0, .ext 165 (.t 152) 1, .cpyE 14 (.t 164), .asg 15 (.t 165)])
 (.seq (.reg [.cpy 166 (.t 15), .bin 167 .eql (.t 166) (.c (.lit (.int .i64 0))), .cpy 168 (.t 167), .guard 168 true (some 169) (.cpy 169 (.t 14)), .guard 168 true (some 170) (.bin 170 .eql (.t 169) (.c (.lit (.int .i64 1)))), .pick 171 (.t 168) (.t 170) (.c (.lit (.bool false))), .cpy 172 (.t 171), .guard 172 true (some 173) (.call 173 23 []), .pick 174 (.t 172) (.t 173) (.c (.lit (.bool false))), .asg 4 (.t 174)])
 .ret))))))))))))
def r12 : List MRes := [.tmp 4]
theorem tr12 : Try.f12.body.bind (trC Try.prog ann12 Try.f12.ntmps) = some m12 := by kernel_rfl
theorem rs12 : trRes Try.prog Try.f12.results.toList = some r12 := by kernel_rfl
theorem fn12 : isFunc Try.prog 12 = true := by kernel_rfl
end Go.Proofs.Ytiampdiobdianaa

namespace Go.Proofs.Ytiampdiobdianaa
open Go.Avm

theorem cat_one {a b : Int} {o : List Int} : catO a b o = 1 ↔ 0 ≤ at' o a ∧ 0 ≤ at' o b ∧ at' o a < at' o b := by
  unfold catO
  by_cases h1 : at' o a < 0 ∨ at' o b < 0
  · rw [if_pos h1]; omega
  · rw [if_neg h1]
    by_cases h2 : at' o a < at' o b
    · rw [if_pos h2]; omega
    · rw [if_neg h2]; omega
theorem cat_two {a b : Int} (hab : a ≠ b) {o : List Int} : catO a b o = 2 ↔ 0 ≤ at' o a ∧ 0 ≤ at' o b ∧ at' o b < at' o a := by
  have hne := at_ne (o := o) hab
  unfold catO
  by_cases h1 : at' o a < 0 ∨ at' o b < 0
  · rw [if_pos h1]; omega
  · rw [if_neg h1]
    have := hne (by omega)
    by_cases h2 : at' o a < at' o b
    · rw [if_pos h2]; omega
    · rw [if_neg h2]; omega
theorem cnt_swap {a b : Int} (hab : a ≠ b) (ps : List (List Int × List Hold)) : cntO b a 1 ps = cntO a b 2 ps ∧ cntO b a 2 ps = cntO a b 1 ps := by
  unfold cntO
  constructor
  · congr 1; funext p
    rw [Bool.eq_iff_iff, decide_eq_true_eq, decide_eq_true_eq, cat_one, cat_two hab]
    omega
  · congr 1; funext p
    rw [Bool.eq_iff_iff, decide_eq_true_eq, decide_eq_true_eq, cat_one, cat_two hab.symm]
    omega
theorem beforeN_swap (p q : Nat) : (beforeN p q = 1 ↔ beforeN q p = 2) ∧ (beforeN p q = 2 ↔ beforeN q p = 1) ∧ 0 ≤ beforeN p q ∧ beforeN p q ≤ 2 := by
  unfold beforeN
  by_cases h1 : 0 < p ∧ q = 0
  · rw [if_pos h1, if_neg (by omega), if_pos h1]; simp
  · rw [if_neg h1]
    by_cases h2 : 0 < q ∧ p = 0
    · rw [if_pos h2, if_pos h2]; simp
    · rw [if_neg h2, if_neg h2, if_neg h1]; simp
/-- The owner of a mark is not before that of the mark below it. -/
theorem upon_before {c : Case} (he : errE c = 0) {i : Nat} (hi : i < c.marks.length) (hn : c.marks[i].upon ≠ -1) (hne : (c.marks.getD c.marks[i].upon.toNat mkD).owner ≠ c.marks[i].owner) (hs : chainsL c ≠ []) :
    beforeS c (c.marks.getD c.marks[i].upon.toNat mkD).owner c.marks[i].owner = ⟨1, 0⟩ := by
  have hok := Case.ok he
  have hf := mark_facts he hi
  have hu : c.marks[i].upon.toNat < c.marks.length := by omega
  have hf2 := mark_facts he hu
  have e : c.marks.getD c.marks[i].upon.toNat mkD = c.marks[c.marks[i].upon.toNat] := mk_at hu
  rw [e] at hne ⊢
  have hall : ∀ p ∈ chainsL c, catO c.marks[c.marks[i].upon.toNat].owner c.marks[i].owner p.1 = 1 := by
    intro p hp
    obtain ⟨h1, h2⟩ := mem_chains hp
    obtain ⟨T, Y, hC⟩ := solve_chain hok (orders_ok h1) h2
    obtain ⟨r1, r2, r3⟩ := rules_parts hC.rules
    have hl := layered_pos r3 hi hn
    rw [e] at hl
    obtain ⟨a, -, ha, -⟩ := at_mem (complete_marks r1 _ (List.getElem_mem hi))
    obtain ⟨b, -, hb, -⟩ := at_mem (complete_marks r1 _ (List.getElem_mem hu))
    have := at_ne (o := p.1) hne (by omega)
    rw [cat_one]
    omega
  have n1 : cntO c.marks[c.marks[i].upon.toNat].owner c.marks[i].owner 1 (chainsL c) = (chainsL c).length := by
    unfold cntO
    rw [List.countP_eq_length]
    intro p hp
    exact decide_eq_true (hall p hp)
  have n2 : cntO c.marks[c.marks[i].upon.toNat].owner c.marks[i].owner 2 (chainsL c) = 0 := by
    unfold cntO
    rw [List.countP_eq_zero]
    intro p hp
    rw [decide_eq_true_eq, hall p hp]
    decide
  have hl := List.length_pos_iff.2 hs
  unfold beforeS
  rw [if_neg (not_not_intro he), if_neg (by rw [out_none (by simp; omega)]; simp), if_neg hne, if_neg hs, n1, n2]
  unfold beforeN
  rw [if_pos ⟨hl, rfl⟩]

theorem ownerBefore_at (c : Case) (a b d : Int) (oa : 0 ≤ a ∧ a ≤ 255) (ob : 0 ≤ b ∧ b ≤ 255) (od : 0 ≤ d ∧ d ≤ 255) : PCall Try.prog 12 [encCase c, .agg [V a, V b, V d]] (B true) := by
  refine pcall Try.func12 tr12 rs12 fn12 (by simp [Try.ntmps12]) fun _ => ?_
  have hwa := wrap_v oa
  have hwb := wrap_v ob
  have hwd := wrap_v od
  obtain ⟨na, rfl⟩ : ∃ n : Nat, a = n := ⟨a.toNat, by omega⟩
  obtain ⟨nb, rfl⟩ : ∃ n : Nat, b = n := ⟨b.toNat, by omega⟩
  obtain ⟨nd, rfl⟩ : ∃ n : Nat, d = n := ⟨d.toNat, by omega⟩
  have aw := awake23_ok
  have c2 := valid37_ok c
  simp -implicitDefEqProofs only [m12]
  refine cutS (fun st => st.env 2 = caseRef c ∧ st.env 3 = .ref [V na, V nb, V nd]) ?_ ?_
  · intro k hk
    simp -implicitDefEqProofs
    exact hk _ (by simp)
  rintro s ⟨e2, e3⟩
  by_cases he : errE c = 0
  case neg =>
    rw [decide_eq_false he] at c2
    have cb := before24_ok c 0 1
    unfold beforeS at cb
    rw [if_pos he] at cb
    generalize errE c = E at *
    have he2 : (E != 0) = true := by simp [he]
    simp -implicitDefEqProofs [e2]
    refine vCall_of c2 ?_
    simp -implicitDefEqProofs [e2]
    refine vCall_of cb ?_
    simp -implicitDefEqProofs [he2]
    refine vCall_of aw ?_
    simp -implicitDefEqProofs [r12]
  rw [decide_eq_true he] at c2
  by_cases hz : c.owners = []
  · have cb := before24_ok c 0 1
    unfold beforeS at cb
    rw [if_neg (not_not_intro he), hz, if_pos (by decide)] at cb
    simp -implicitDefEqProofs [e2]
    refine vCall_of c2 ?_
    simp only [encCase, caseCells, hz, List.map_nil] at cb
    simp -implicitDefEqProofs [e2, hz]
    refine vCall_of cb ?_
    simp -implicitDefEqProofs
    refine vCall_of aw ?_
    simp -implicitDefEqProofs [r12]
  have hok := Case.ok he
  have hn6 := hok.ownersLen
  have hm9 := hok.marksLen
  have hlp := List.length_pos_iff.2 hz
  obtain ⟨A, hA⟩ : ∃ i, i = na % c.owners.length := ⟨_, rfl⟩
  obtain ⟨C, hC⟩ : ∃ i, i = nb % c.owners.length := ⟨_, rfl⟩
  have hAl : A < c.owners.length := by rw [hA]; exact Nat.mod_lt _ hlp
  have hCl : C < c.owners.length := by rw [hC]; exact Nat.mod_lt _ hlp
  have hma := tmod_nat na c.owners.length
  have hmb := tmod_nat nb c.owners.length
  rw [← hA] at hma
  rw [← hC] at hmb
  have hl0 : ¬ c.owners.length = 0 := by omega
  refine cutS (fun st => st.env 2 = caseRef c ∧ st.env 3 = .ref [V na, V nb, V nd]) ?_ ?_
  · intro k hk
    have hz' : ((c.owners.length : Int) == 0) = false := by simp; exact hz
    simp -implicitDefEqProofs [e2]
    refine vCall_of c2 ?_
    simp -implicitDefEqProofs [e2, hz']
    exact hk _ (by simp [e2, e3])
  rintro s ⟨e2, e3⟩
  refine cutS (fun st => st.env 2 = caseRef c ∧ st.env 3 = .ref [V na, V nb, V nd] ∧ st.env 7 = I A ∧ st.env 8 = I C) ?_ ?_
  · intro k hk
    simp -implicitDefEqProofs [e2, e3, hwa, hwb, hl0, hma, hmb]
    exact hk _ (by simp [e2, e3])
  rintro s ⟨e2, e3, e7, e8⟩
  have cb1 := before24_ok c A C
  have cb2 := before24_ok c C A
  have hoAC : out 0 ((c.owners.length : Int) - 1) [(A : Int), (C : Int)] = false := out_none (by simp; omega)
  have hoCA : out 0 ((c.owners.length : Int) - 1) [(C : Int), (A : Int)] = false := out_none (by simp; omega)
  obtain ⟨K, hK⟩ : ∃ K, K = beforeS c A C := ⟨_, rfl⟩
  obtain ⟨M, hM⟩ : ∃ M, M = beforeS c C A := ⟨_, rfl⟩
  rw [← hK] at cb1
  rw [← hM] at cb2
  unfold beforeS at hK hM
  rw [if_neg (not_not_intro he), hoAC, if_neg (by simp)] at hK
  rw [if_neg (not_not_intro he), hoCA, if_neg (by simp)] at hM
  refine cutS (fun st => st.env 2 = caseRef c ∧ st.env 3 = .ref [V na, V nb, V nd] ∧ st.env 7 = I A ∧ st.env 8 = I C ∧ st.env 9 = I K.a ∧ st.env 10 = I K.e) ?_ ?_
  · intro k hk
    simp -implicitDefEqProofs [e2, e7, e8]
    refine vCall_of cb1 ?_
    simp -implicitDefEqProofs
    exact hk _ (by simp [e2, e3, e7, e8])
  rintro s ⟨e2, e3, e7, e8, e9, e10⟩
  refine cutS (fun st => st.env 2 = caseRef c ∧ st.env 3 = .ref [V na, V nb, V nd] ∧ st.env 7 = I A ∧ st.env 8 = I C ∧ st.env 9 = I K.a ∧ st.env 10 = I K.e ∧ st.env 11 = I M.a ∧ st.env 12 = I M.e) ?_ ?_
  · intro k hk
    simp -implicitDefEqProofs [e2, e7, e8]
    refine vCall_of cb2 ?_
    simp -implicitDefEqProofs
    exact hk _ (by simp [e2, e3, e7, e8, e9, e10])
  rintro s ⟨e2, e3, e7, e8, e9, e10, e11, e12⟩
  by_cases hAC : (A : Int) = C
  · rw [if_pos hAC] at hK
    rw [if_pos hAC.symm] at hM
    subst hK
    subst hM
    have h1 : ((A : Int) == (C : Int)) = true := by simpa using hAC
    simp -implicitDefEqProofs [e7, e8, e9, e10, e11, e12, h1]
    refine vCall_of aw ?_
    simp -implicitDefEqProofs [r12]
  rw [if_neg hAC] at hK
  rw [if_neg (fun e => hAC e.symm)] at hM
  have h1 : ((A : Int) == (C : Int)) = false := by simpa using hAC
  by_cases hch : chainsL c = []
  · rw [if_pos hch] at hK hM
    subst hK
    subst hM
    simp -implicitDefEqProofs [e7, e8, e9, e10, e11, e12, h1]
    refine vCall_of aw ?_
    simp -implicitDefEqProofs [r12]
  rw [if_neg hch] at hK hM
  obtain ⟨w1, w2⟩ := cnt_swap hAC (chainsL c)
  rw [w1, w2] at hM
  obtain ⟨b1, b2, b3, b4⟩ := beforeN_swap (cntO A C 1 (chainsL c)) (cntO A C 2 (chainsL c))
  obtain ⟨N, hN⟩ : ∃ N, N = beforeN (cntO A C 1 (chainsL c)) (cntO A C 2 (chainsL c)) := ⟨_, rfl⟩
  obtain ⟨Q, hQ⟩ : ∃ N, N = beforeN (cntO A C 2 (chainsL c)) (cntO A C 1 (chainsL c)) := ⟨_, rfl⟩
  rw [← hN] at hK b1 b2 b3 b4
  rw [← hQ] at hM b1 b2
  subst hK
  subst hM
  refine cutS (fun st => st.env 2 = caseRef c ∧ st.env 3 = .ref [V na, V nb, V nd] ∧ st.env 9 = I N ∧ st.env 11 = I Q) ?_ ?_
  · intro k hk
    simp -implicitDefEqProofs [e10, e12]
    exact hk _ (by simp [e2, e3, e9, e11])
  rintro s ⟨e2, e3, e9, e11⟩
  refine cutS (fun st => st.env 2 = caseRef c ∧ st.env 3 = .ref [V na, V nb, V nd]) ?_ ?_
  · intro k hk
    have g1 : (N == 1) = (Q == 2) := by rw [Bool.eq_iff_iff]; simpa using b1
    have g2 : (N == 2) = (Q == 1) := by rw [Bool.eq_iff_iff]; simpa using b2
    have g3 : ¬ N < 0 := by omega
    have g4 : ¬ 2 < N := by omega
    simp -implicitDefEqProofs [e9, e11, g1, g2, g3, g4]
    exact hk _ (by simp [e2, e3])
  rintro s ⟨e2, e3⟩
  by_cases hmz : c.marks = []
  · simp -implicitDefEqProofs [e2, hmz]
    refine vCall_of aw ?_
    simp -implicitDefEqProofs [r12]
  refine cutS (fun st => st.env 2 = caseRef c ∧ st.env 3 = .ref [V na, V nb, V nd]) ?_ ?_
  · intro k hk
    have hz' : ((c.marks.length : Int) == 0) = false := by simp; exact hmz
    simp -implicitDefEqProofs [e2, hz']
    exact hk _ (by simp [e2, e3])
  rintro s ⟨e2, e3⟩
  have hlm := List.length_pos_iff.2 hmz
  obtain ⟨q, hq⟩ : ∃ i, i = nd % c.marks.length := ⟨_, rfl⟩
  have hql : q < c.marks.length := by rw [hq]; exact Nat.mod_lt _ hlm
  have hmd := tmod_nat nd c.marks.length
  rw [← hq] at hmd
  have hl1 : ¬ c.marks.length = 0 := by omega
  have hf := mark_facts he hql
  have hub := fun h1 h2 => upon_before he hql h1 h2 hch
  generalize hm : c.marks[q] = m at *
  refine cutS (fun st => st.env 2 = caseRef c ∧ st.env 13 = .ref [I m.owner, I m.lo, I m.hi, I m.upon]) ?_ ?_
  · intro k hk
    simp -implicitDefEqProofs [e2, e3, hwd, hl1, hmd, hql, hm]
    intro b hb
    exact hk _ (by simp [e2])
  rintro s ⟨e2, e13⟩
  by_cases hup : m.upon = -1
  · have hup' : (m.upon == -1) = true := by simp [hup]
    simp -implicitDefEqProofs [e13, hup']
    refine vCall_of aw ?_
    simp -implicitDefEqProofs [r12]
  have hup' : (m.upon == -1) = false := by simp [hup]
  obtain ⟨v, hv⟩ : ∃ v : Nat, m.upon = v := ⟨m.upon.toNat, by omega⟩
  have hvl : v < c.marks.length := by omega
  rw [hv, Int.toNat_natCast, mk_at hvl] at hub
  rw [hv] at hup'
  have hub := hub (by omega)
  generalize hmv : c.marks[v] = w at *
  by_cases hoe : w.owner = m.owner
  · have hoe' : (w.owner == m.owner) = true := by simp [hoe]
    simp -implicitDefEqProofs [e2, e13, hv, hup', hvl, hmv, hoe']
    refine vCall_of aw ?_
    simp -implicitDefEqProofs [r12]
  have hoe' : (w.owner == m.owner) = false := by simp [hoe]
  have cb := before24_ok c w.owner m.owner
  rw [hub hoe] at cb
  simp -implicitDefEqProofs [e2, e13, hv, hup', hvl, hmv, hoe']
  refine vCall_of cb ?_
  simp -implicitDefEqProofs
  refine vCall_of aw ?_
  simp -implicitDefEqProofs [r12]
theorem ownerBefore_ok (c : Case) (xs : List Int) (_ : CaseSz c) (ox : xs.length = 3 ∧ ∀ x ∈ xs, 0 ≤ x ∧ x ≤ 255) : PCall Try.prog 12 [encCase c, .agg (xs.flatMap fun y => (V y).cells)] (B true) :=
  match xs, ox with
  | [a, b, d], h => ownerBefore_at c a b d (h.2 a (by simp)) (h.2 b (by simp)) (h.2 d (by simp))
end Go.Proofs.Ytiampdiobdianaa

