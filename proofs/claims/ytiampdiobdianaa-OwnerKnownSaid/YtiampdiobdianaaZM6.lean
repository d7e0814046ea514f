/- The resolved code of some functions, written by program, each held against the function by the kernel. The law OwnerKnown: its contract. -/
import Derived.Test.YtiampdiobdianaaZD
import Derived.KernelRfl
import Derived.Test.YtiampdiobdianaaZK
namespace Go.Proofs.Ytiampdiobdianaa
open Go.Avm

/- duodecimo/duodecimolaw08.OwnerKnown -/
def ann6 : Ann := { muts := [], nilsz := [], oid := [], frz := [1, 8], zero := [(1, [(.lit (.int .i64 0)), (.lit (.int .i64 0)), (.slice 3 [] 2002), (.slice 4 [] 2003), (.slice 3 [] 2004)]), (8, [(.lit (.int .i64 0)), (.lit (.int .i64 0))]), (17, [(.lit (.int .i64 0))]), (23, [(.lit (.int .i64 0))]), (84, [(.lit (.int .i64 0))])], ord := [(8, [0, 1, 2, 3, 4, 5, 6, 7, 8, 9, 10, 11, 12, 13, 14, 15, 16, 17, 18, 19, 20, 21, 22, 23, 24, 25, 26, 27, 28, 29, 30, 31, 32, 33, 34, 35, 36, 37, 38, 39, 40, 41, 42, 43, 44, 45, 46, 47, 48])], ap := [], own := [0], yl := [], fz := [], imm := [], ic := [], cl := [], ylL := [], rl := [] }
def m6 : MCode := (.seq (.reg [.asg 0 (.c (.lit (.bool false)))])
 (.seq (.reg [.call 14 35 [(.c (.slice 4 [] 0))], .alloc 1 [(.lit (.int .i64 0)), (.lit (.int .i64 0)), (.slice 3 [] 2002), (.slice 4 [] 2003), (.slice 3 [] 2004)], .storeF 1 (.t 14) 5])
 (.seq (.reg [.load 16 (.t 1) (some 5), .mkS 17 3 1 [(.lit (.int .i64 0))] [(0, (.c (.lit (.int .i64 0)))), (1, (.c (.lit (.int .i64 1)))), (2, (.c (.lit (.int .i64 2))))], .call 18 21 [(.t 16), (.t 17)], .cpy 15 (.t 18), .ext 19 (.t 15) 0, .ext 20 (.t 15) 1, .asg 2 (.t 19), .asg 3 (.t 20)])
 (.seq (.reg [.load 22 (.t 1) (some 5), .mkS 23 2 1 [(.lit (.int .i64 0))] [(0, (.c (.lit (.int .i64 0)))), (1, (.c (.lit (.int .i64 1))))], .call 24 21 [(.t 22), (.t 23)], .cpy 21 (.t 24), .ext 25 (.t 21) 0, .ext 26 (.t 21) 1, .asg 4 (.t 25), .asg 5 (.t 26)])
 (.seq (.reg [.load 28 (.t 1) (some 5), .call 29 24 [(.t 28), (.c (.lit (.int .i64 2))), (.c (.lit (.int .i64 3)))], .cpy 27 (.t 29), .ext 30 (.t 27) 0, .ext 31 (.t 27) 1, .asg 6 (.t 30), .asg 7 (.t 31)])
 (.seq (.reg [.load 33 (.t 1) (some 5), .call 34 26 [(.t 33), (.c (.lit (.int .i64 2)))], .cpy 32 (.t 34), .ext 35 (.t 32) 0, .ext 36 (.t 32) 1, .alloc 8 [(.lit (.int .i64 0)), (.lit (.int .i64 0))], .storeF 8 (.t 35) 2, .asg 9 (.t 36)])
 (.seq (.reg [.load 38 (.t 1) (some 5), .call 39 28 [(.t 38), (.c (.lit (.int .i64 1600)))], .cpy 37 (.t 39), .ext 40 (.t 37) 0, .ext 41 (.t 37) 1, .asg 10 (.t 40), .asg 11 (.t 41)])
 (.seq (.reg [.load 43 (.t 1) (some 5), .call 44 33 [(.t 43)], .cpy 42 (.t 44), .ext 45 (.t 42) 0, .ext 46 (.t 42) 1, .asg 12 (.t 45), .asg 13 (.t 46)])
 (.seq (.reg [.cpy 47 (.t 3), .bin 48 .eql (.t 47) (.c (.lit (.int .i64 0))), .cpy 49 (.t 48), .guard 49 true (some 50) (.cpy 50 (.t 7)), .guard 49 true (some 51) (.bin 51 .eql (.t 50) (.c (.lit (.int .i64 0)))), .pick 52 (.t 49) (.t 51) (.c (.lit (.bool false))), .cpy 53 (.t 52), .guard 53 true (some 54) (.cpy 54 (.t 9)), .guard 53 true (some 55) (.bin 55 .eql (.t 54) (.c (.lit (.int .i64 0)))), .pick 56 (.t 53) (.t 55) (.c (.lit (.bool false))), .cpy 57 (.t 56), .guard 57 true (some 58) (.cpy 58 (.t 11)), .guard 57 true (some 59) (.bin 59 .eql (.t 58) (.c (.lit (.int .i64 0)))), .pick 60 (.t 57) (.t 59) (.c (.lit (.bool false))), .cpy 61 (.t 60), .guard 61 true (some 62) (.cpy 62 (.t 13)), .guard 61 true (some 63) (.bin 63 .eql (.t 62) (.c (.lit (.int .i64 0)))), .pick 64 (.t 61) (.t 63) (.c (.lit (.bool false))), .cpy 65 (.t 64), .guard 65 true (some 66) (.cpy 66 (.t 5)), .guard 65 true (some 67) (.bin 67 .eql (.t 66) (.c (.lit (.int .i64 9)))), .pick 68 (.t 65) (.t 67) (.c (.lit (.bool false))), .cpy 69 (.t 68), .guard 69 true (some 70) (.cpy 70 (.t 2)), .guard 69 true (some 71) (.bin 71 .eql (.t 70) (.c (.lit (.int .i64 1)))), .pick 72 (.t 69) (.t 71) (.c (.lit (.bool false))), .cpy 73 (.t 72), .guard 73 true (some 74) (.cpy 74 (.t 6)), .guard 73 true (some 75) (.bin 75 .eql (.t 74) (.c (.lit (.int .i64 0)))), .pick 76 (.t 73) (.t 75) (.c (.lit (.bool false))), .cpy 77 (.t 76), .guard 77 true (some 78) (.load 78 (.t 8) (some 2)), .guard 77 true (some 79) (.call 79 36 [(.c (.lit (.int .i64 1680))), (.c (.lit (.int .i64 1685)))]), .guard 77 true (some 80) (.binA 80 false [false, false] (.t 78) (.t 79)), .pick 81 (.t 77) (.t 80) (.c (.lit (.bool false))), .cpy 82 (.t 81), .guard 82 true (some 83) (.cpy 83 (.t 10)), .guard 82 true (some 84) (.mkS 84 1 1 [(.lit (.int .i64 0))] [(0, (.c (.lit (.int .i64 0))))]), .guard 82 true (some 85) (.call 85 30 [(.t 83), (.t 84)]), .pick 86 (.t 82) (.t 85) (.c (.lit (.bool false))), .cpy 87 (.t 86), .guard 87 true (some 88) (.cpy 88 (.t 12)), .guard 87 true (some 89) (.len 89 (.t 88)), .guard 87 true (some 90) (.bin 90 .eql (.t 89) (.c (.lit (.int .i64 0)))), .pick 91 (.t 87) (.t 90) (.c (.lit (.bool false))), .cpy 92 (.t 91), .guard 92 true (some 93) (.call 93 23 []), .pick 94 (.t 92) (.t 93) (.c (.lit (.bool false))), .asg 0 (.t 94)])
 .ret)))))))))
def r6 : List MRes := [.tmp 0]
theorem tr6 : Try.f6.body.bind (trC Try.prog ann6 Try.f6.ntmps) = some m6 := by kernel_rfl
theorem rs6 : trRes Try.prog Try.f6.results.toList = some r6 := by kernel_rfl
theorem fn6 : isFunc Try.prog 6 = true := by kernel_rfl
end Go.Proofs.Ytiampdiobdianaa

namespace Go.Proofs.Ytiampdiobdianaa
open Go.Avm

theorem ownerKnown_ok : PCall Try.prog 6 [] (B true) := by
  refine pcall Try.func6 tr6 rs6 fn6 (by simp [Try.ntmps6]) fun _ => ?_
  have k0 : PCall Try.prog 35 [.slice 4 [] 0] (encCase (caseX [])) := case35_ok [] (by simp)
  have q1 := why21_ok (caseX []) [0, 1, 2]
  have q2 := why21_ok (caseX []) [0, 1]
  have q3 := before24_ok (caseX []) 2 3
  have q4 := year26_ok (caseX []) 2
  have q5 := owned28_ok (caseX []) 1600
  have q6 := forged33_ok (caseX [])
  rw [x_why3] at q1
  rw [x_why4] at q2
  rw [x_before2] at q3
  rw [x_year2] at q4
  rw [x_ownedR2] at q5
  rw [x_forged2] at q6
  have u1 := ints_ok [0] [0]
  have u2 := span36_ok 1680 1685
  have aw := awake23_ok
  generalize caseX [] = c at *
  simp -implicitDefEqProofs [m6]
  refine vCall_of k0 ?_
  simp -implicitDefEqProofs
  intro b1
  refine vCall_of q1 ?_
  simp -implicitDefEqProofs
  refine vCall_of q2 ?_
  simp -implicitDefEqProofs
  refine vCall_of q3 ?_
  simp -implicitDefEqProofs
  refine vCall_of q4 ?_
  simp -implicitDefEqProofs
  intro b8
  refine vCall_of q5 ?_
  simp -implicitDefEqProofs
  refine vCall_of q6 ?_
  simp -implicitDefEqProofs
  refine vCall_of u2 ?_
  simp -implicitDefEqProofs
  refine vCall_of u1 ?_
  simp -implicitDefEqProofs
  refine vCall_of aw ?_
  simp -implicitDefEqProofs [r6]
end Go.Proofs.Ytiampdiobdianaa

