/- The example of the document: its values. The resolved code of some functions, written by program, each held against the function by the kernel. Contracts: the laws' small helpers; what is awake. What a law's arguments of layer 8 say: cases, and lists of numbers. -/
import Derived.Test.YtiampdiobdianaaZG
import Derived.KernelRfl
import Derived.Test.YtiampdiobdianaaZD
import Derived.Test.YtiampdiobdianaaZC
import Derived.Test.YtiampdiobdianaaZE
import Derived.Test.YtiampdiobdianaaProg
namespace Go.Proofs.Ytiampdiobdianaa
open Go.Avm

def caseX (more : List Mk) : Case := ⟨1600, 1700, [⟨⟨#[97, 110, 110]⟩, 1580, 1640⟩, ⟨⟨#[98, 101, 110]⟩, 1600, 1660⟩, ⟨⟨#[99, 105, 100]⟩, 1665, 1720⟩, ⟨⟨#[100, 111, 116]⟩, 1650, 1690⟩], [⟨0, 1610, 1620, -1⟩, ⟨1, 1615, 1630, 0⟩, ⟨2, 1680, 1685, -1⟩] ++ more, []⟩
def caseD : Case := ⟨1640, 1700, [⟨⟨#[100, 111, 116]⟩, 1650, 1690⟩], [], []⟩
abbrev moreX : List Mk := [⟨3, 1610, 1615, -1⟩]
theorem sEq_data : sEq = fun p q => p.data.toList == q.data.toList := by
  funext p q
  unfold sEq
  rw [toList_data, toList_data]
theorem x_owners : ∀ j < 4, ownE (caseX []) j = 0 := by
  unfold ownE namedE
  rw [sEq_data]
  decide +kernel
theorem d_owners : ∀ j < 1, ownE caseD j = 0 := by
  unfold ownE namedE
  rw [sEq_data]
  decide +kernel
theorem caseX_zero (more : List Mk) (hl : more.length ≤ 5) (hm : ∀ j < 3 + more.length, markE (caseX more) j = 0) : checkS (caseX more) = (0, 0, 0) := by
  refine checkS_9 ⟨⟨⟨by simp [caseX], by simp [caseX], by simp [caseX]⟩, ?_, by simp [caseX]; omega⟩, fun j hj => hm j (by simp [caseX] at hj; omega), by simp [caseX]⟩ (by simp [caseX])
  intro j hj
  exact x_owners j (by simpa [caseX] using hj)
theorem x_err : errE (caseX []) = 0 := by rw [errE, caseX_zero [] (by simp) (by decide +kernel)]
theorem x_err2 : errE (caseX moreX) = 0 := by rw [errE, caseX_zero moreX (by simp) (by decide +kernel)]
theorem d_err : errE caseD = 0 := by
  rw [errE, checkS_9 ⟨⟨⟨by simp [caseD], by simp [caseD], by simp [caseD]⟩, fun j hj => d_owners j (by simpa [caseD] using hj), by simp [caseD]⟩, by simp [caseD], by simp [caseD]⟩ (by simp [caseD])]

theorem x_best : bestS (caseX []) (chainsL (caseX [])) = some [⟨0, 1600, 1640⟩, ⟨1, 1610, 1660⟩, ⟨3, 1650, 1690⟩, ⟨2, 1665, 1700⟩] := by kernel_rfl
theorem x_chain : chainS (caseX []) = ⟨[⟨0, 1600, 1610⟩, ⟨1, 1610, 1650⟩, ⟨3, 1650, 1665⟩, ⟨2, 1665, 1700⟩], 0, 0⟩ := by
  unfold chainS
  rw [x_err, if_neg (by simp), x_best]
  kernel_rfl
theorem x_why (o : List Int) (l : List Hold) (u : Int) (h1 : orderE (caseX []) o = 0) (h2 : solveS (caseX []) o = some l) (h3 : unknownS (caseX []) l = u) : whyS (caseX []) o = ⟨u, 0⟩ := by
  unfold whyS
  rw [x_err, if_neg (by simp), h1, if_neg (by simp), h2, ← h3]
theorem x_whyN (o : List Int) (h1 : orderE (caseX []) o = 0) (h2 : solveS (caseX []) o = none) : whyS (caseX []) o = ⟨0, 9⟩ := by
  unfold whyS
  rw [x_err, if_neg (by simp), h1, if_neg (by simp), h2]
theorem x_why1 : whyS (caseX []) [0, 1, 2, 3] = ⟨2, 0⟩ := x_why _ [⟨0, 1600, 1640⟩, ⟨1, 1610, 1660⟩, ⟨2, 1665, 1700⟩, ⟨3, 1680, 1690⟩] _ (by decide +kernel) (by kernel_rfl) (by decide +kernel)
theorem x_why2 : whyS (caseX []) [1, 0, 2] = ⟨0, 9⟩ := x_whyN _ (by decide +kernel) (by kernel_rfl)
theorem x_some : someB (caseX []) = true := by decide +kernel
theorem x_some2 : someB (caseX moreX) = false := by decide +kernel
theorem d_some : someB caseD = true := by decide +kernel
theorem x_ne : ¬ chainsL (caseX []) = [] := by
  intro e
  have := x_some
  unfold someB at this
  rw [e] at this
  cases this
theorem x_before1 : beforeS (caseX []) 0 1 = ⟨1, 0⟩ := by
  unfold beforeS
  rw [x_err, if_neg (by simp), if_neg (by decide +kernel), if_neg (by decide), if_neg x_ne]
  kernel_rfl
theorem x_year1 : yearS (caseX []) 0 = ⟨1610, 1620, 0⟩ := by
  unfold yearS
  rw [x_err, if_neg (by simp), if_neg (by decide +kernel), x_some, if_neg (by simp)]
  kernel_rfl
theorem x_year3 : yearS (caseX moreX) 0 = ⟨0, 0, 8⟩ := by
  unfold yearS
  rw [x_err2, if_neg (by simp), if_neg (by decide +kernel), x_some2, if_pos rfl]
theorem x_owned1 : ownedS (caseX []) 1655 = [1, 3] := by decide +kernel
theorem d_owned : ownedS caseD 1655 = [0] := by decide +kernel
theorem x_ownedR1 : ownedR (caseX []) 1655 = ⟨[1, 3], 0⟩ := by
  unfold ownedR
  rw [x_err, if_neg (by simp), if_neg (by decide +kernel), x_some, if_neg (by simp), x_owned1]
theorem x_both : bothR (caseX []) caseD 1655 = ⟨[3], 0⟩ := by
  unfold bothR bothL
  rw [x_err, if_neg (by simp), d_err, if_neg (by simp), if_neg (by decide +kernel), x_some, d_some, if_neg (by simp), x_owned1, d_owned, sEq_data]
  kernel_rfl
theorem x_forged1 : forgedR (caseX moreX) = ⟨[3], 0⟩ := by
  unfold forgedR
  have h : bestUp (forgeB (caseX moreX)) (2 ^ (caseX moreX).marks.length) = some 8 := by decide +kernel
  have h2 : bitsL 8 = [3] := by decide +kernel
  rw [x_err2, if_neg (by simp), h]
  show (⟨bitsL 8, 0⟩ : ListR) = _
  rw [h2]
end Go.Proofs.Ytiampdiobdianaa

namespace Go.Proofs.Ytiampdiobdianaa
open Go.Avm

/- duodecimo/duodecimolaw08.Case -/
def ann35 : Ann := { muts := [], nilsz := [], oid := [], frz := [2], zero := [(2, [(.lit (.int .i64 0)), (.lit (.int .i64 0)), (.slice 3 [] 3002), (.slice 4 [] 3003), (.slice 3 [] 3004)]), (3, [(.lit (.string ⟨#[]⟩)), (.lit (.int .i64 0)), (.lit (.int .i64 0))]), (4, [(.lit (.string ⟨#[]⟩)), (.lit (.int .i64 0)), (.lit (.int .i64 0))]), (5, [(.lit (.string ⟨#[]⟩)), (.lit (.int .i64 0)), (.lit (.int .i64 0))]), (6, [(.lit (.string ⟨#[]⟩)), (.lit (.int .i64 0)), (.lit (.int .i64 0))]), (7, [(.lit (.string ⟨#[]⟩)), (.lit (.int .i64 0)), (.lit (.int .i64 0))]), (11, [(.lit (.int .i64 0)), (.lit (.int .i64 0)), (.lit (.int .i64 0)), (.lit (.int .i64 0))]), (14, [(.lit (.int .i64 0)), (.lit (.int .i64 0)), (.slice 3 [] 0), (.slice 4 [] 0), (.slice 3 [] 0)])], ord := [], ap := [], own := [], yl := [], fz := [], imm := [], ic := [], cl := [], ylL := [], rl := [] }
def m35 : MCode := (.seq (.reg [.alloc 2 [(.lit (.int .i64 0)), (.lit (.int .i64 0)), (.slice 3 [] 3002), (.slice 4 [] 3003), (.slice 3 [] 3004)]])
 (.seq (.reg [.build 3 [(.lit (.string ⟨#[]⟩)), (.lit (.int .i64 0)), (.lit (.int .i64 0))] [(0, 1, (.c (.lit (.string ⟨#[97, 110, 110]⟩)))), (1, 1, (.c (.lit (.int .i64 1580)))), (2, 1, (.c (.lit (.int .i64 1640))))], .build 4 [(.lit (.string ⟨#[]⟩)), (.lit (.int .i64 0)), (.lit (.int .i64 0))] [(0, 1, (.c (.lit (.string ⟨#[98, 101, 110]⟩)))), (1, 1, (.c (.lit (.int .i64 1600)))), (2, 1, (.c (.lit (.int .i64 1660))))], .build 5 [(.lit (.string ⟨#[]⟩)), (.lit (.int .i64 0)), (.lit (.int .i64 0))] [(0, 1, (.c (.lit (.string ⟨#[99, 105, 100]⟩)))), (1, 1, (.c (.lit (.int .i64 1665)))), (2, 1, (.c (.lit (.int .i64 1720))))], .build 6 [(.lit (.string ⟨#[]⟩)), (.lit (.int .i64 0)), (.lit (.int .i64 0))] [(0, 1, (.c (.lit (.string ⟨#[100, 111, 116]⟩)))), (1, 1, (.c (.lit (.int .i64 1650)))), (2, 1, (.c (.lit (.int .i64 1690))))], .mkS 7 4 3 [(.lit (.string ⟨#[]⟩)), (.lit (.int .i64 0)), (.lit (.int .i64 0))] [(0, (.t 3)), (1, (.t 4)), (2, (.t 5)), (3, (.t 6))], .call 8 49 [(.c (.lit (.int .i64 0))), (.c (.lit (.int .i64 1610))), (.c (.lit (.int .i64 1620))), (.c (.lit (.int .i64 (-1))))], .call 9 49 [(.c (.lit (.int .i64 1))), (.c (.lit (.int .i64 1615))), (.c (.lit (.int .i64 1630))), (.c (.lit (.int .i64 0)))], .call 10 49 [(.c (.lit (.int .i64 2))), (.c (.lit (.int .i64 1680))), (.c (.lit (.int .i64 1685))), (.c (.lit (.int .i64 (-1))))], .mkS 11 3 4 [(.lit (.int .i64 0)), (.lit (.int .i64 0)), (.lit (.int .i64 0)), (.lit (.int .i64 0))] [(0, (.t 8)), (1, (.t 9)), (2, (.t 10))], .cpy 12 (.t 0), .app 13 (.t 11) (.t 12) 4 32, .build 14 [(.lit (.int .i64 0)), (.lit (.int .i64 0)), (.slice 3 [] 0), (.slice 4 [] 0), (.slice 3 [] 0)] [(0, 1, (.c (.lit (.int .i64 1600)))), (1, 1, (.c (.lit (.int .i64 1700)))), (2, 1, (.t 7)), (3, 1, (.t 13))], .storeF 2 (.t 14) 5])
 .ret))
def r35 : List MRes := [.cell 2 (some 5)]
theorem tr35 : Try.f35.body.bind (trC Try.prog ann35 Try.f35.ntmps) = some m35 := by kernel_rfl
theorem rs35 : trRes Try.prog Try.f35.results.toList = some r35 := by kernel_rfl
theorem fn35 : isFunc Try.prog 35 = true := by kernel_rfl

/- duodecimo/duodecimolaw08.valid -/
def ann37 : Ann := { muts := [], nilsz := [], oid := [], frz := [], zero := [], ord := [], ap := [], own := [], yl := [], fz := [], imm := [], ic := [], cl := [], ylL := [], rl := [] }
def m37 : MCode := (.seq (.reg [.boxI 1 (.t 0) 5, .asg 2 (.c (.lit (.bool false)))])
 (.seq (.reg [.load 7 (.t 1) (some 5), .call 8 17 [(.t 7)], .cpy 6 (.t 8), .ext 9 (.t 6) 0, .ext 10 (.t 6) 1, .ext 11 (.t 6) 2, .asg 3 (.t 9), .asg 4 (.t 10), .asg 5 (.t 11)])
 (.seq (.reg [.cpy 12 (.t 5), .bin 13 .eql (.t 12) (.c (.lit (.int .i64 0))), .asg 2 (.t 13)])
 .ret)))
def r37 : List MRes := [.tmp 2]
theorem tr37 : Try.f37.body.bind (trC Try.prog ann37 Try.f37.ntmps) = some m37 := by kernel_rfl
theorem rs37 : trRes Try.prog Try.f37.results.toList = some r37 := by kernel_rfl
theorem fn37 : isFunc Try.prog 37 = true := by kernel_rfl

/- duodecimo/duodecimolaw08.place -/
def ann38 : Ann := { muts := [], nilsz := [], oid := [], frz := [], zero := [], ord := [], ap := [], own := [], yl := [], fz := [], imm := [], ic := [], cl := [], ylL := [], rl := [] }
def m38 : MCode := (.seq (.reg [.asg 4 (.c (.lit (.int .i64 0)))])
 (.seq (.seq (.reg [.asg 5 (.c (.lit (.int .i64 0)))])
 (.block 0 (.loop (.seq (.seq (.reg [.cpy 6 (.t 5), .cpy 7 (.t 0), .len 8 (.t 7), .bin 9 .lss (.t 6) (.t 8)])
 (.cond (.t 9) .skip (.exit 0)))
 (.seq (.block 1 (.seq (.reg [.cpy 12 (.t 0), .cpy 13 (.t 5), .idxS 14 (.t 12) (.t 13) 3, .addr 15 (.t 14) 0, .load 16 (.t 15) none, .cpy 17 (.t 1), .bin 18 .eql (.t 16) (.t 17)])
 (.cond (.t 18) (.seq (.reg [.cpy 19 (.t 5), .asg 4 (.t 19)])
 .ret) .skip)))
 (.reg [.cpy 10 (.t 5), .bin 11 .add (.t 10) (.c (.lit (.int .i64 1))), .asg 5 (.t 11)]))))))
 (.seq (.reg [.asg 4 (.c (.lit (.int .i64 (-1))))])
 .ret)))
def r38 : List MRes := [.tmp 4]
theorem tr38 : Try.f38.body.bind (trC Try.prog ann38 Try.f38.ntmps) = some m38 := by kernel_rfl
theorem rs38 : trRes Try.prog Try.f38.results.toList = some r38 := by kernel_rfl
theorem fn38 : isFunc Try.prog 38 = true := by kernel_rfl

/- duodecimo/duodecimolaw08.order -/
/- duodecimo/duodecimolaw08.unknown -/
/- duodecimo/duodecimolaw08.Any -/
def ann41 : Ann := { muts := [], nilsz := [(4, 1)], oid := [], frz := [], zero := [], ord := [], ap := [], own := [], yl := [], fz := [], imm := [], ic := [], cl := [], ylL := [], rl := [] }
def m41 : MCode := (.seq (.reg [.boxI 2 (.t 0) 5, .asgNil 4 1])
 (.seq (.reg [.addr 6 (.t 2) 2, .load 7 (.t 6) none, .len 8 (.t 7), .call 9 80 [(.t 8)], .asg 5 (.t 9)])
 (.seq (.reg [.cpy 10 (.t 5), .cpy 11 (.t 1), .cpy 12 (.t 5), .len 13 (.t 12), .bin 14 .rem (.t 11) (.t 13), .idxS 15 (.t 10) (.t 14) 1, .load 16 (.t 15) none, .asg 4 (.t 16)])
 .ret)))
def r41 : List MRes := [.tmp 4]
theorem tr41 : Try.f41.body.bind (trC Try.prog ann41 Try.f41.ntmps) = some m41 := by kernel_rfl
theorem rs41 : trRes Try.prog Try.f41.results.toList = some r41 := by kernel_rfl
theorem fn41 : isFunc Try.prog 41 = true := by kernel_rfl

/- duodecimo/duodecimolaw08.Had -/
def ann43 : Ann := { muts := [], nilsz := [(4, 3), (7, 3)], oid := [], frz := [10], zero := [(10, [(.lit (.string ⟨#[]⟩)), (.lit (.int .i64 0)), (.lit (.int .i64 0))]), (73, [(.lit (.int .i64 0)), (.lit (.int .i64 0)), (.lit (.int .i64 0))]), (74, [(.lit (.int .i64 0)), (.lit (.int .i64 0)), (.lit (.int .i64 0))])], ord := [(1, [0, 1, 2, 3, 4, 5]), (7, [0, 1, 2, 3, 4, 5, 6, 7, 8, 9]), (8, [0, 1, 2, 3, 4, 5, 6, 7, 8, 9, 10])], ap := [], own := [6, 11], yl := [], fz := [], imm := [], ic := [], cl := [], ylL := [], rl := [] }
def m43 : MCode := (.seq (.reg [.boxI 2 (.t 0) 5, .boxI 3 (.t 1) 4, .asgNil 4 3, .asg 5 (.c (.lit (.bool false)))])
 (.seq (.reg [.load 13 (.t 2) (some 5), .addr 14 (.t 3) 0, .load 15 (.t 14) none, .call 16 81 [(.t 15), (.c (.lit (.int .i64 0)))], .call 17 41 [(.t 13), (.t 16)], .asg 6 (.t 17)])
 (.seq (.reg [.asgNil 7 3])
 (.seq (.reg [.addr 18 (.t 2) 0, .load 19 (.t 18) none, .asg 8 (.t 19)])
 (.seq (.seq (.reg [.asg 9 (.c (.lit (.int .i64 0)))])
 (.block 0 (.loop (.seq (.seq (.reg [.cpy 20 (.t 9), .cpy 21 (.t 6), .len 22 (.t 21), .bin 23 .lss (.t 20) (.t 22)])
 (.cond (.t 23) .skip (.exit 0)))
 (.seq (.block 1 (.seq (.reg [.addr 26 (.t 2) 2, .load 27 (.t 26) none, .cpy 28 (.t 6), .cpy 29 (.t 9), .idxS 30 (.t 28) (.t 29) 1, .load 31 (.t 30) none, .idxS 32 (.t 27) (.t 31) 3, .load 33 (.t 32) (some 3), .alloc 10 [(.lit (.string ⟨#[]⟩)), (.lit (.int .i64 0)), (.lit (.int .i64 0))], .storeF 10 (.t 33) 3])
 (.seq (.reg [.cpy 34 (.t 8), .addr 35 (.t 10) 1, .load 36 (.t 35) none, .maxI 37 (.t 34) (.t 36), .addr 38 (.t 3) 1, .load 39 (.t 38) none, .cpy 40 (.t 9), .bin 41 .mul (.c (.lit (.int .i64 2))) (.t 40), .call 42 81 [(.t 39), (.t 41)], .bin 43 .add (.t 37) (.t 42), .asg 11 (.t 43)])
 (.seq (.reg [.cpy 44 (.t 11), .addr 45 (.t 3) 1, .load 46 (.t 45) none, .cpy 47 (.t 9), .bin 48 .mul (.c (.lit (.int .i64 2))) (.t 47), .bin 49 .add (.t 48) (.c (.lit (.int .i64 1))), .call 50 81 [(.t 46), (.t 49)], .bin 51 .add (.t 44) (.t 50), .asg 12 (.t 51)])
 (.seq (.seq (.reg [.cpy 52 (.t 11), .addr 53 (.t 10) 2, .load 54 (.t 53) none, .addr 55 (.t 2) 1, .load 56 (.t 55) none, .minI 57 (.t 54) (.t 56), .bin 58 .gtr (.t 52) (.t 57)])
 (.cond (.t 58) (.seq (.reg [.asgNil 4 3, .asg 5 (.c (.lit (.bool false)))])
 .ret) .skip))
 (.seq (.reg [.cpy 59 (.t 12), .addr 60 (.t 10) 2, .load 61 (.t 60) none, .addr 62 (.t 2) 1, .load 63 (.t 62) none, .minI 64 (.t 61) (.t 63), .minI 65 (.t 59) (.t 64), .asg 12 (.t 65)])
 (.seq (.reg [.cpy 66 (.t 7), .cpy 67 (.t 6), .cpy 68 (.t 9), .idxS 69 (.t 67) (.t 68) 1, .load 70 (.t 69) none, .cpy 71 (.t 11), .cpy 72 (.t 12), .build 73 [(.lit (.int .i64 0)), (.lit (.int .i64 0)), (.lit (.int .i64 0))] [(0, 1, (.t 70)), (1, 1, (.t 71)), (2, 1, (.t 72))], .mkS 74 1 3 [(.lit (.int .i64 0)), (.lit (.int .i64 0)), (.lit (.int .i64 0))] [(0, (.t 73))], .app 75 (.t 66) (.t 74) 3 24, .asg 7 (.t 75)])
 (.reg [.cpy 76 (.t 12), .asg 8 (.t 76)]))))))))
 (.reg [.cpy 24 (.t 9), .bin 25 .add (.t 24) (.c (.lit (.int .i64 1))), .asg 9 (.t 25)]))))))
 (.seq (.reg [.cpy 77 (.t 7), .asg 4 (.t 77), .asg 5 (.c (.lit (.bool true)))])
 .ret))))))
def r43 : List MRes := [.tmp 4, .tmp 5]
theorem tr43 : Try.f43.body.bind (trC Try.prog ann43 Try.f43.ntmps) = some m43 := by kernel_rfl
theorem rs43 : trRes Try.prog Try.f43.results.toList = some r43 := by kernel_rfl
theorem fn43 : isFunc Try.prog 43 = true := by kernel_rfl

/- duodecimo/duodecimolaw08.Told -/
/- duodecimo/duodecimolaw08.Awake -/
def ann23 : Ann := { muts := [], nilsz := [], oid := [], frz := [1, 11, 19], zero := [(1, [(.lit (.int .i64 0)), (.lit (.int .i64 0)), (.slice 3 [] 2002), (.slice 4 [] 2003), (.slice 3 [] 2004)]), (11, [(.lit (.int .i64 0)), (.lit (.int .i64 0))]), (19, [(.lit (.int .i64 0)), (.lit (.int .i64 0))]), (30, [(.lit (.int .i64 0))]), (36, [(.lit (.int .i64 0))]), (63, [(.lit (.int .i64 0)), (.lit (.int .i64 0)), (.lit (.int .i64 0)), (.lit (.int .i64 0))]), (70, [(.lit (.int .i64 0)), (.lit (.int .i64 0)), (.lit (.int .i64 0)), (.lit (.int .i64 0))]), (115, [(.lit (.int .i64 0)), (.lit (.int .i64 0)), (.lit (.int .i64 0))]), (137, [(.lit (.int .i64 0))]), (142, [(.lit (.int .i64 0))]), (147, [(.lit (.int .i64 0))])], ord := [(8, [0, 1, 2, 3, 4, 5, 6, 7]), (11, [0, 1, 2, 3, 4, 5, 6, 7, 8, 9, 10, 11, 12, 13, 14, 15, 16, 17, 18, 19, 20, 21, 22, 23, 24, 25, 26, 27, 28, 29, 30, 31, 32, 33, 34, 35, 36, 37, 38, 39, 40, 41, 42, 43, 44, 45, 46, 47, 48, 49, 50, 51, 52, 53, 54, 55, 56, 57, 58, 59, 60, 61, 62, 63, 64, 65, 66, 67, 68, 69, 70, 71, 72, 73, 74, 75])], ap := [], own := [0, 16], yl := [], fz := [], imm := [], ic := [], cl := [], ylL := [], rl := [] }
def m23 : MCode := (.seq (.reg [.asg 0 (.c (.lit (.bool false)))])
 (.seq (.reg [.call 21 35 [(.c (.slice 4 [] 0))], .alloc 1 [(.lit (.int .i64 0)), (.lit (.int .i64 0)), (.slice 3 [] 2002), (.slice 4 [] 2003), (.slice 3 [] 2004)], .storeF 1 (.t 21) 5])
 (.seq (.reg [.load 23 (.t 1) (some 5), .call 24 18 [(.t 23)], .cpy 22 (.t 24), .ext 25 (.t 22) 0, .ext 26 (.t 22) 1, .ext 27 (.t 22) 2, .asg 2 (.t 25), .asg 3 (.t 26), .asg 4 (.t 27)])
 (.seq (.reg [.load 29 (.t 1) (some 5), .mkS 30 4 1 [(.lit (.int .i64 0))] [(0, (.c (.lit (.int .i64 0)))), (1, (.c (.lit (.int .i64 1)))), (2, (.c (.lit (.int .i64 2)))), (3, (.c (.lit (.int .i64 3))))], .call 31 21 [(.t 29), (.t 30)], .cpy 28 (.t 31), .ext 32 (.t 28) 0, .ext 33 (.t 28) 1, .asg 5 (.t 32), .asg 6 (.t 33)])
 (.seq (.reg [.load 35 (.t 1) (some 5), .mkS 36 3 1 [(.lit (.int .i64 0))] [(0, (.c (.lit (.int .i64 1)))), (1, (.c (.lit (.int .i64 0)))), (2, (.c (.lit (.int .i64 2))))], .call 37 21 [(.t 35), (.t 36)], .cpy 34 (.t 37), .ext 38 (.t 34) 0, .ext 39 (.t 34) 1, .asg 7 (.t 38), .asg 8 (.t 39)])
 (.seq (.reg [.load 41 (.t 1) (some 5), .call 42 24 [(.t 41), (.c (.lit (.int .i64 0))), (.c (.lit (.int .i64 1)))], .cpy 40 (.t 42), .ext 43 (.t 40) 0, .ext 44 (.t 40) 1, .asg 9 (.t 43), .asg 10 (.t 44)])
 (.seq (.reg [.load 46 (.t 1) (some 5), .call 47 26 [(.t 46), (.c (.lit (.int .i64 0)))], .cpy 45 (.t 47), .ext 48 (.t 45) 0, .ext 49 (.t 45) 1, .alloc 11 [(.lit (.int .i64 0)), (.lit (.int .i64 0))], .storeF 11 (.t 48) 2, .asg 12 (.t 49)])
 (.seq (.reg [.load 51 (.t 1) (some 5), .call 52 28 [(.t 51), (.c (.lit (.int .i64 1655)))], .cpy 50 (.t 52), .ext 53 (.t 50) 0, .ext 54 (.t 50) 1, .asg 13 (.t 53), .asg 14 (.t 54)])
 (.seq (.reg [.load 56 (.t 1) (some 5), .call 57 66 [], .call 58 31 [(.t 56), (.t 57), (.c (.lit (.int .i64 1655)))], .cpy 55 (.t 58), .ext 59 (.t 55) 0, .ext 60 (.t 55) 1, .cpyE 15 (.t 59), .asg 16 (.t 60)])
 (.seq (.reg [.call 62 49 [(.c (.lit (.int .i64 3))), (.c (.lit (.int .i64 1610))), (.c (.lit (.int .i64 1615))), (.c (.lit (.int .i64 (-1))))], .mkS 63 1 4 [(.lit (.int .i64 0)), (.lit (.int .i64 0)), (.lit (.int .i64 0)), (.lit (.int .i64 0))] [(0, (.t 62))], .call 64 35 [(.t 63)], .call 65 33 [(.t 64)], .cpy 61 (.t 65), .ext 66 (.t 61) 0, .ext 67 (.t 61) 1, .asg 17 (.t 66), .asg 18 (.t 67)])
 (.seq (.reg [.call 69 49 [(.c (.lit (.int .i64 3))), (.c (.lit (.int .i64 1610))), (.c (.lit (.int .i64 1615))), (.c (.lit (.int .i64 (-1))))], .mkS 70 1 4 [(.lit (.int .i64 0)), (.lit (.int .i64 0)), (.lit (.int .i64 0)), (.lit (.int .i64 0))] [(0, (.t 69))], .call 71 35 [(.t 70)], .call 72 26 [(.t 71), (.c (.lit (.int .i64 0)))], .cpy 68 (.t 72), .ext 73 (.t 68) 0, .ext 74 (.t 68) 1, .alloc 19 [(.lit (.int .i64 0)), (.lit (.int .i64 0))], .storeF 19 (.t 73) 2, .asg 20 (.t 74)])
 (.seq (.reg [.cpy 75 (.t 4), .bin 76 .eql (.t 75) (.c (.lit (.int .i64 0))), .cpy 77 (.t 76), .guard 77 true (some 78) (.cpy 78 (.t 6)), .guard 77 true (some 79) (.bin 79 .eql (.t 78) (.c (.lit (.int .i64 0)))), .pick 80 (.t 77) (.t 79) (.c (.lit (.bool false))), .cpy 81 (.t 80), .guard 81 true (some 82) (.cpy 82 (.t 10)), .guard 81 true (some 83) (.bin 83 .eql (.t 82) (.c (.lit (.int .i64 0)))), .pick 84 (.t 81) (.t 83) (.c (.lit (.bool false))), .cpy 85 (.t 84), .guard 85 true (some 86) (.cpy 86 (.t 12)), .guard 85 true (some 87) (.bin 87 .eql (.t 86) (.c (.lit (.int .i64 0)))), .pick 88 (.t 85) (.t 87) (.c (.lit (.bool false))), .cpy 89 (.t 88), .guard 89 true (some 90) (.cpy 90 (.t 14)), .guard 89 true (some 91) (.bin 91 .eql (.t 90) (.c (.lit (.int .i64 0)))), .pick 92 (.t 89) (.t 91) (.c (.lit (.bool false))), .cpy 93 (.t 92), .guard 93 true (some 94) (.cpy 94 (.t 16)), .guard 93 true (some 95) (.bin 95 .eql (.t 94) (.c (.lit (.int .i64 0)))), .pick 96 (.t 93) (.t 95) (.c (.lit (.bool false))), .cpy 97 (.t 96), .guard 97 true (some 98) (.cpy 98 (.t 18)), .guard 97 true (some 99) (.bin 99 .eql (.t 98) (.c (.lit (.int .i64 0)))), .pick 100 (.t 97) (.t 99) (.c (.lit (.bool false))), .cpy 101 (.t 100), .guard 101 true (some 102) (.cpy 102 (.t 8)), .guard 101 true (some 103) (.bin 103 .eql (.t 102) (.c (.lit (.int .i64 9)))), .pick 104 (.t 101) (.t 103) (.c (.lit (.bool false))), .cpy 105 (.t 104), .guard 105 true (some 106) (.cpy 106 (.t 20)), .guard 105 true (some 107) (.bin 107 .eql (.t 106) (.c (.lit (.int .i64 8)))), .pick 108 (.t 105) (.t 107) (.c (.lit (.bool false))), .cpy 109 (.t 108), .guard 109 true (some 110) (.cpy 110 (.t 2)), .guard 109 true (some 111) (.call 111 67 [(.c (.lit (.int .i64 0))), (.c (.lit (.int .i64 1600))), (.c (.lit (.int .i64 1610)))]), .guard 109 true (some 112) (.call 112 67 [(.c (.lit (.int .i64 1))), (.c (.lit (.int .i64 1610))), (.c (.lit (.int .i64 1650)))]), .guard 109 true (some 113) (.call 113 67 [(.c (.lit (.int .i64 3))), (.c (.lit (.int .i64 1650))), (.c (.lit (.int .i64 1665)))]), .guard 109 true (some 114) (.call 114 67 [(.c (.lit (.int .i64 2))), (.c (.lit (.int .i64 1665))), (.c (.lit (.int .i64 1700)))]), .guard 109 true (some 115) (.mkS 115 4 3 [(.lit (.int .i64 0)), (.lit (.int .i64 0)), (.lit (.int .i64 0))] [(0, (.t 111)), (1, (.t 112)), (2, (.t 113)), (3, (.t 114))]), .guard 109 true (some 116) (.call 116 20 [(.t 110), (.t 115)]), .pick 117 (.t 109) (.t 116) (.c (.lit (.bool false))), .cpy 118 (.t 117), .guard 118 true (some 119) (.cpy 119 (.t 3)), .guard 118 true (some 120) (.bin 120 .eql (.t 119) (.c (.lit (.int .i64 0)))), .pick 121 (.t 118) (.t 120) (.c (.lit (.bool false))), .cpy 122 (.t 121), .guard 122 true (some 123) (.cpy 123 (.t 5)), .guard 122 true (some 124) (.bin 124 .eql (.t 123) (.c (.lit (.int .i64 2)))), .pick 125 (.t 122) (.t 124) (.c (.lit (.bool false))), .cpy 126 (.t 125), .guard 126 true (some 127) (.cpy 127 (.t 9)), .guard 126 true (some 128) (.bin 128 .eql (.t 127) (.c (.lit (.int .i64 1)))), .pick 129 (.t 126) (.t 128) (.c (.lit (.bool false))), .cpy 130 (.t 129), .guard 130 true (some 131) (.load 131 (.t 11) (some 2)), .guard 130 true (some 132) (.call 132 36 [(.c (.lit (.int .i64 1610))), (.c (.lit (.int .i64 1620)))]), .guard 130 true (some 133) (.binA 133 false [false, false] (.t 131) (.t 132)), .pick 134 (.t 130) (.t 133) (.c (.lit (.bool false))), .cpy 135 (.t 134), .guard 135 true (some 136) (.cpy 136 (.t 13)), .guard 135 true (some 137) (.mkS 137 2 1 [(.lit (.int .i64 0))] [(0, (.c (.lit (.int .i64 1)))), (1, (.c (.lit (.int .i64 3))))]), .guard 135 true (some 138) (.call 138 30 [(.t 136), (.t 137)]), .pick 139 (.t 135) (.t 138) (.c (.lit (.bool false))), .cpy 140 (.t 139), .guard 140 true (some 141) (.cpy 141 (.t 15)), .guard 140 true (some 142) (.mkS 142 1 1 [(.lit (.int .i64 0))] [(0, (.c (.lit (.int .i64 3))))]), .guard 140 true (some 143) (.call 143 30 [(.t 141), (.t 142)]), .pick 144 (.t 140) (.t 143) (.c (.lit (.bool false))), .cpy 145 (.t 144), .guard 145 true (some 146) (.cpy 146 (.t 17)), .guard 145 true (some 147) (.mkS 147 1 1 [(.lit (.int .i64 0))] [(0, (.c (.lit (.int .i64 3))))]), .guard 145 true (some 148) (.call 148 30 [(.t 146), (.t 147)]), .pick 149 (.t 145) (.t 148) (.c (.lit (.bool false))), .asg 0 (.t 149)])
 .ret))))))))))))
def r23 : List MRes := [.tmp 0]
theorem tr23 : Try.f23.body.bind (trC Try.prog ann23 Try.f23.ntmps) = some m23 := by kernel_rfl
theorem rs23 : trRes Try.prog Try.f23.results.toList = some r23 := by kernel_rfl
theorem fn23 : isFunc Try.prog 23 = true := by kernel_rfl
end Go.Proofs.Ytiampdiobdianaa

namespace Go.Proofs.Ytiampdiobdianaa
open Go.Avm

theorem case35_ok (more : List Mk) (hl : more.length ≤ 9) : PCall Try.prog 35 [.slice 4 (more.map encMark) 0] (encCase (caseX more)) := by
  refine pcall Try.func35 tr35 rs35 fn35 (by simp [Try.ntmps35]) fun _ => ?_
  have c1 := mark49_ok 0 1610 1620 (-1)
  have c2 := mark49_ok 1 1615 1630 0
  have c3 := mark49_ok 2 1680 1685 (-1)
  simp -implicitDefEqProofs [m35]
  intro b
  refine vCall_of c1 ?_
  simp -implicitDefEqProofs
  refine vCall_of c2 ?_
  simp -implicitDefEqProofs
  refine vCall_of c3 ?_
  simp -implicitDefEqProofs [r35, caseX]
  omega
theorem other66_ok : PCall Try.prog 66 [] (encCase caseD) := by
  refine pcall Try.func66 tr66 rs66 fn66 (by simp [Try.ntmps66]) fun _ => ?_
  simp -implicitDefEqProofs [m66, r66, caseD]
instance : DecidableEq Hold := fun a b => decidable_of_iff (a.who = b.who ∧ a.src = b.src ∧ a.til = b.til) ⟨fun h => by cases a; cases b; simp at h; simp [h], fun h => by rw [h]; exact ⟨rfl, rfl, rfl⟩⟩
theorem same20_ok (a b : List Hold) : PCall Try.prog 20 [HL a, HL b] (B (decide (a = b))) := by
  refine pcall Try.func20 tr20 rs20 fn20 (by simp [Try.ntmps20]) fun hfit => ?_
  have ha := fits_len (hfit 0)
  simp only [List.length_map] at ha
  obtain ⟨R, hR⟩ : ∃ R, R = decide (a = b) := ⟨_, rfl⟩
  rw [← hR]
  simp -implicitDefEqProofs only [m20]
  refine cutS (fun st => st.env 0 = HL a ∧ st.env 1 = HL b) ?_ ?_
  · intro k hk
    simp -implicitDefEqProofs
    exact hk _ (by simp)
  rintro s ⟨e0, e1⟩
  refine cutS (fun st => st.env 0 = HL a ∧ st.env 1 = HL b ∧ a.length = b.length) ?_ ?_
  · intro k hk
    by_cases hl : a.length = b.length
    · have hl' : ((a.length : Int) != (b.length : Int)) = false := by simp [hl]
      simp -implicitDefEqProofs [e0, e1, hl']
      exact hk _ (by simp [e0, e1, hl])
    · have hl' : ((a.length : Int) != (b.length : Int)) = true := by simp; omega
      have hR : R = false := by rw [hR]; exact decide_eq_false fun e => hl (by rw [e])
      simp -implicitDefEqProofs [e0, e1, hl', r20, hR]
  rintro s ⟨e0, e1, hl⟩
  refine cutS (fun st => a = b) ?_ ?_
  · intro k0 hk0
    simp -implicitDefEqProofs
    refine loop_up a.length (fun k st => st.env 0 = HL a ∧ st.env 1 = HL b ∧ st.env 5 = I k ∧ a.take k = b.take k) ?_ ?_
    · simp [e0, e1]
    rintro k s hk ⟨e0, e1, e5, htk⟩
    simp -implicitDefEqProofs [e0, e5]
    refine cond_dec (fun hlt => ?_) (fun hge => ?_)
    · have hlt : k < a.length := by omega
      have hlt2 : k < b.length := by omega
      have hsn : a[k] = b[k] → a.take (k + 1) = b.take (k + 1) := fun e => by rw [take_snoc hlt, take_snoc hlt2, htk, e]
      have hne : a[k] ≠ b[k] → a ≠ b := fun h e => h (by subst e; rfl)
      generalize hp : a[k] = p at *
      generalize hq : b[k] = q at *
      simp -implicitDefEqProofs [e0, e1, e5, hlt, hlt2, hp, hq]
      refine cond_bool (fun hb => ?_) (fun hb => ?_)
      · have hpq : p ≠ q := by rintro rfl; simp at hb
        have hR : R = false := by rw [hR]; exact decide_eq_false (hne hpq)
        simp -implicitDefEqProofs [r20, hR]
      · have hpq : p = q := by
          cases p; cases q
          simp at hb
          simp [hb]
        simp -implicitDefEqProofs [e5]
        exact ⟨i64 (by omega) (by omega), round_ok hlt ⟨by simp [e0], by simp [e1], by simp, hsn hpq⟩⟩
    · obtain rfl : k = a.length := by omega
      rw [List.take_length, hl, List.take_length] at htk
      simp -implicitDefEqProofs
      exact hk0 _ htk
  intro s hab
  have hR : R = true := by rw [hR]; exact decide_eq_true hab
  simp -implicitDefEqProofs [r20, hR]

theorem awake23_ok : PCall Try.prog 23 [] (B true) := by
  refine pcall Try.func23 tr23 rs23 fn23 (by simp [Try.ntmps23]) fun _ => ?_
  have k0 : PCall Try.prog 35 [.slice 4 [] 0] (encCase (caseX [])) := case35_ok [] (by simp)
  have k1 : PCall Try.prog 35 [.slice 4 (moreX.map encMark) 0] (encCase (caseX moreX)) := case35_ok moreX (by simp)
  have q1 := chain18_ok (caseX [])
  have q2 := why21_ok (caseX []) [0, 1, 2, 3]
  have q3 := why21_ok (caseX []) [1, 0, 2]
  have q4 := before24_ok (caseX []) 0 1
  have q5 := year26_ok (caseX []) 0
  have q6 := owned28_ok (caseX []) 1655
  have q7 := both31_ok (caseX []) caseD 1655
  have q8 := forged33_ok (caseX moreX)
  have q9 := year26_ok (caseX moreX) 0
  rw [x_chain] at q1
  rw [x_why1] at q2
  rw [x_why2] at q3
  rw [x_before1] at q4
  rw [x_year1] at q5
  rw [x_ownedR1] at q6
  rw [x_both] at q7
  rw [x_forged1] at q8
  rw [x_year3] at q9
  have k2 := other66_ok
  have s1 := mark49_ok 3 1610 1615 (-1)
  have t1 := hold67_ok 0 1600 1610
  have t2 := hold67_ok 1 1610 1650
  have t3 := hold67_ok 3 1650 1665
  have t4 := hold67_ok 2 1665 1700
  have u1 := same20_ok [⟨0, 1600, 1610⟩, ⟨1, 1610, 1650⟩, ⟨3, 1650, 1665⟩, ⟨2, 1665, 1700⟩] [⟨0, 1600, 1610⟩, ⟨1, 1610, 1650⟩, ⟨3, 1650, 1665⟩, ⟨2, 1665, 1700⟩]
  have u2 := ints_ok [1, 3] [1, 3]
  have u3 := ints_ok [3] [3]
  have u4 := span36_ok 1610 1620
  generalize caseX [] = c at *
  generalize caseX moreX = d at *
  simp -implicitDefEqProofs [m23]
  refine vCall_of k0 ?_
  simp -implicitDefEqProofs
  intro b1
  refine vCall_of q1 ?_
  simp -implicitDefEqProofs
  refine vCall_of q2 ?_
  simp -implicitDefEqProofs
  refine vCall_of q3 ?_
  simp -implicitDefEqProofs
  refine vCall_of q4 ?_
  simp -implicitDefEqProofs
  refine vCall_of q5 ?_
  simp -implicitDefEqProofs
  intro b11
  refine vCall_of q6 ?_
  simp -implicitDefEqProofs
  refine vCall_of k2 ?_
  simp -implicitDefEqProofs
  refine vCall_of q7 ?_
  simp -implicitDefEqProofs
  refine vCall_of s1 ?_
  simp -implicitDefEqProofs
  refine vCall_of k1 ?_
  simp -implicitDefEqProofs
  refine vCall_of q8 ?_
  simp -implicitDefEqProofs
  refine vCall_of s1 ?_
  simp -implicitDefEqProofs
  refine vCall_of k1 ?_
  simp -implicitDefEqProofs
  refine vCall_of q9 ?_
  simp -implicitDefEqProofs
  intro b19 _
  refine vCall_of t1 ?_
  simp -implicitDefEqProofs
  refine vCall_of t2 ?_
  simp -implicitDefEqProofs
  refine vCall_of t3 ?_
  simp -implicitDefEqProofs
  refine vCall_of t4 ?_
  simp -implicitDefEqProofs
  refine vCall_of u1 ?_
  simp -implicitDefEqProofs
  refine vCall_of u4 ?_
  simp -implicitDefEqProofs
  refine vCall_of u2 ?_
  simp -implicitDefEqProofs
  refine vCall_of u3 ?_
  simp -implicitDefEqProofs
  refine vCall_of u3 ?_
  simp -implicitDefEqProofs [r23]
end Go.Proofs.Ytiampdiobdianaa

namespace Go.Proofs.Ytiampdiobdianaa
open Go.Avm

abbrev okI (n : Int) : Prop := IntKind.min .i64 ≤ n ∧ n ≤ IntKind.max .i64
theorem rdI {pl : Bool} : Rd Try.prog pl 3 I okI := by
  cases pl
  · exact (Rd.int Try.underlying3).loose
  · exact Rd.int Try.underlying3
theorem rdS {pl : Bool} : Rd Try.prog pl 9 S (fun s => s.size ≤ 140737488355328) := by
  cases pl
  · exact (Rd.string Try.underlying9).loose
  · exact Rd.string Try.underlying9
abbrev span2 (p : Int × Int) : AV := Span2 p.1 p.2
theorem rdSpan {pl : Bool} : Rd Try.prog pl 42 span2 (fun _ => True) :=
  (Rd.struct (tot := 2) Try.underlying42 rfl (by kernel_rfl) (RdL.cons rfl (by kernel_rfl) rdI (RdL.cons rfl (by kernel_rfl) rdI RdL.nil))).map (fun x => (x.1, x.2.1)) (fun _ => rfl) (fun _ _ => trivial)
theorem rdOwner {pl : Bool} : Rd Try.prog pl 59 encOwner (fun _ => True) :=
  (Rd.struct (tot := 3) Try.underlying59 rfl (by kernel_rfl) (RdL.cons rfl (by kernel_rfl) rdS (RdL.cons rfl (by kernel_rfl) rdI (RdL.cons rfl (by kernel_rfl) rdI RdL.nil)))).map (fun x => ⟨x.1, x.2.1, x.2.2.1⟩) (fun _ => rfl) (fun _ _ => trivial)
theorem rdMark {pl : Bool} : Rd Try.prog pl 61 encMark (fun _ => True) :=
  (Rd.struct (tot := 4) Try.underlying61 rfl (by kernel_rfl) (RdL.cons rfl (by kernel_rfl) rdI (RdL.cons rfl (by kernel_rfl) rdSpan (RdL.cons rfl (by kernel_rfl) rdI RdL.nil)))).map (fun x => ⟨x.1, x.2.1.1, x.2.1.2, x.2.2.1⟩) (fun _ => rfl) (fun _ _ => trivial)
theorem rdSale {pl : Bool} : Rd Try.prog pl 63 encSale (fun _ => True) :=
  (Rd.struct (tot := 3) Try.underlying63 rfl (by kernel_rfl) (RdL.cons rfl (by kernel_rfl) rdI (RdL.cons rfl (by kernel_rfl) rdI (RdL.cons rfl (by kernel_rfl) rdI RdL.nil)))).map (fun x => ⟨x.1, x.2.1, x.2.2.1⟩) (fun _ => rfl) (fun _ _ => trivial)
abbrev CaseSz (c : Case) : Prop := c.owners.length ≤ 140737488355328 ∧ c.marks.length * 32 ≤ 140737488351232 ∧ c.sales.length * 24 ≤ 140737488351232
theorem rdCase : Rd Try.prog false 26 encCase CaseSz :=
  (Rd.struct (tot := 5) Try.underlying26 rfl (by kernel_rfl) (RdL.cons rfl (by kernel_rfl) rdI (RdL.cons rfl (by kernel_rfl) rdI
    (RdL.cons rfl (by kernel_rfl) (Rd.slice Try.underlying22 (of_decide_eq_true (by kernel_rfl)) (by kernel_rfl) rdOwner)
    (RdL.cons rfl (by kernel_rfl) (Rd.sliceB Try.underlying23 (of_decide_eq_true (by kernel_rfl)) (by kernel_rfl) rdMark)
    (RdL.cons rfl (by kernel_rfl) (Rd.sliceB Try.underlying24 (of_decide_eq_true (by kernel_rfl)) (by kernel_rfl) rdSale) RdL.nil)))))).map (fun x => ⟨x.1, x.2.1, x.2.2.1, x.2.2.2.1, x.2.2.2.2.1⟩) (fun _ => rfl) (fun x h => by
      have h1 := h.2.2.1.1
      have h2 := h.2.2.2.1.2.1
      have h3 := h.2.2.2.2.1.2.1
      rw [show Try.prog.bytesOf 61 = 32 by kernel_rfl] at h2
      rw [show Try.prog.bytesOf 63 = 24 by kernel_rfl] at h3
      exact ⟨h1, h2, h3⟩)

abbrev U (n : Int) : AV := .lit (.int .u16 n)
abbrev V (n : Int) : AV := .lit (.int .u8 n)
theorem rdU {pl : Bool} : Rd Try.prog pl 66 U (fun n => 0 ≤ n ∧ n ≤ 65535) := by
  have h : Rd Try.prog true 66 U (fun n => 0 ≤ n ∧ n ≤ 65535) := (Rd.int Try.underlying66).map id (fun _ => rfl) (fun _ h => h)
  cases pl
  · exact h.loose
  · exact h
theorem rdV {pl : Bool} : Rd Try.prog pl 5 V (fun n => 0 ≤ n ∧ n ≤ 255) := by
  have h : Rd Try.prog true 5 V (fun n => 0 ≤ n ∧ n ≤ 255) := (Rd.int Try.underlying5).map id (fun _ => rfl) (fun _ h => h)
  cases pl
  · exact h.loose
  · exact h
abbrev US (l : List Int) : AV := .slice 1 (l.map U) 0
abbrev okU (l : List Int) : Prop := ∀ x ∈ l, 0 ≤ x ∧ x ≤ 65535
theorem rdUs : Rd Try.prog false 69 US (fun l => okU l ∧ l.length ≤ 140737488355328) :=
  (Rd.slice Try.underlying69 (of_decide_eq_true (by kernel_rfl)) (by kernel_rfl) rdU).map id (fun _ => rfl) (fun _ h => ⟨h.2, h.1⟩)
structure Past where
  chain : List Int
  years : List Int
  marks : List Int
  sales : List Int
structure Past.OK (x : Past) : Prop where
  chain : okU x.chain ∧ x.chain.length ≤ 140737488355328
  years : okU x.years ∧ x.years.length ≤ 140737488355328
  marks : okU x.marks ∧ x.marks.length ≤ 140737488355328
  sales : okU x.sales ∧ x.sales.length ≤ 140737488355328
abbrev encPast (x : Past) : AV := .agg [US x.chain, US x.years, US x.marks, US x.sales]
theorem rdPast : Rd Try.prog false 71 encPast Past.OK :=
  (Rd.struct (tot := 4) Try.underlying71 rfl (by kernel_rfl) (RdL.cons rfl (by kernel_rfl) rdUs (RdL.cons rfl (by kernel_rfl) rdUs (RdL.cons rfl (by kernel_rfl) rdUs (RdL.cons rfl (by kernel_rfl) rdUs RdL.nil))))).map (fun x => ⟨x.1, x.2.1, x.2.2.1, x.2.2.2.1⟩) (fun _ => rfl) (fun _ h => ⟨h.1, h.2.1, h.2.2.1, h.2.2.2.1⟩)
end Go.Proofs.Ytiampdiobdianaa
