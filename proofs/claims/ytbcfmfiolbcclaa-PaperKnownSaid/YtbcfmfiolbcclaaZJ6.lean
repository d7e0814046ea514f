/- The resolved code of some functions, written by program, each held against the function by the kernel. The law PaperKnown: its contract. -/
import Derived.Test.YtbcfmfiolbcclaaZI
import Derived.KernelRfl
namespace Go.Proofs.Ytbcfmfiolbcclaa
open Go.Avm

/- duodecimo/duodecimolaw06.PaperKnown -/
def ann6 : Ann := { muts := [], nilsz := [], oid := [], frz := [1], zero := [(1, [(.lit (.int .i64 0)), (.slice 3 [] 2001), (.slice 3 [] 2002), (.lit (.int .i64 0)), (.slice 2 [] 2004)]), (30, [(.lit (.int .i64 0)), (.lit (.int .i64 0))]), (60, [(.lit (.int .i64 0))]), (70, [(.lit (.int .i64 0))]), (71, [(.slice 1 [] 0)])], ord := [], ap := [], own := [], yl := [], fz := [], imm := [], ic := [], cl := [], ylL := [], rl := [] }
def m6 : MCode := (.seq (.reg [.asg 0 (.c (.lit (.bool false)))])
 (.seq (.reg [.call 11 34 [(.c (.slice 2 [] 0))], .alloc 1 [(.lit (.int .i64 0)), (.slice 3 [] 2001), (.slice 3 [] 2002), (.lit (.int .i64 0)), (.slice 2 [] 2004)], .storeF 1 (.t 11) 5])
 (.seq (.reg [.load 13 (.t 1) (some 5), .call 14 20 [(.t 13), (.c (.lit (.int .i64 2))), (.c (.lit (.int .i64 1)))], .cpy 12 (.t 14), .ext 15 (.t 12) 0, .ext 16 (.t 12) 1, .asg 2 (.t 15), .asg 3 (.t 16)])
 (.seq (.reg [.load 18 (.t 1) (some 5), .call 19 23 [(.t 18), (.c (.lit (.int .i64 2)))], .cpy 17 (.t 19), .ext 20 (.t 17) 0, .ext 21 (.t 17) 1, .ext 22 (.t 17) 2, .asg 4 (.t 20), .asg 5 (.t 21), .asg 6 (.t 22)])
 (.seq (.reg [.load 24 (.t 1) (some 5), .call 25 30 [(.t 24)], .cpy 23 (.t 25), .ext 26 (.t 23) 0, .ext 27 (.t 23) 1, .asg 7 (.t 26), .asg 8 (.t 27)])
 (.seq (.reg [.call 29 35 [(.c (.lit (.int .i64 2))), (.c (.lit (.int .i64 2)))], .mkS 30 1 2 [(.lit (.int .i64 0)), (.lit (.int .i64 0))] [(0, (.t 29))], .call 31 34 [(.t 30)], .call 32 17 [(.t 31)], .cpy 28 (.t 32), .ext 33 (.t 28) 0, .ext 34 (.t 28) 1, .asg 9 (.t 33), .asg 10 (.t 34)])
 (.seq (.reg [.cpy 35 (.t 3), .bin 36 .eql (.t 35) (.c (.lit (.int .i64 0))), .cpy 37 (.t 36), .guard 37 true (some 38) (.cpy 38 (.t 6)), .guard 37 true (some 39) (.bin 39 .eql (.t 38) (.c (.lit (.int .i64 0)))), .pick 40 (.t 37) (.t 39) (.c (.lit (.bool false))), .cpy 41 (.t 40), .guard 41 true (some 42) (.cpy 42 (.t 8)), .guard 41 true (some 43) (.bin 43 .eql (.t 42) (.c (.lit (.int .i64 0)))), .pick 44 (.t 41) (.t 43) (.c (.lit (.bool false))), .cpy 45 (.t 44), .guard 45 true (some 46) (.cpy 46 (.t 10)), .guard 45 true (some 47) (.bin 47 .eql (.t 46) (.c (.lit (.int .i64 0)))), .pick 48 (.t 45) (.t 47) (.c (.lit (.bool false))), .cpy 49 (.t 48), .guard 49 true (some 50) (.cpy 50 (.t 2)), .guard 49 true (some 51) (.bin 51 .eql (.t 50) (.c (.lit (.int .i64 0)))), .pick 52 (.t 49) (.t 51) (.c (.lit (.bool false))), .cpy 53 (.t 52), .guard 53 true (some 54) (.cpy 54 (.t 4)), .guard 53 true (some 55) (.len 55 (.t 54)), .guard 53 true (some 56) (.bin 56 .eql (.t 55) (.c (.lit (.int .i64 0)))), .pick 57 (.t 53) (.t 56) (.c (.lit (.bool false))), .cpy 58 (.t 57), .guard 58 true (some 59) (.cpy 59 (.t 5)), .guard 58 true (some 60) (.mkS 60 3 1 [(.lit (.int .i64 0))] [(0, (.c (.lit (.int .i64 0)))), (1, (.c (.lit (.int .i64 1)))), (2, (.c (.lit (.int .i64 2))))]), .guard 58 true (some 61) (.call 61 25 [(.t 59), (.t 60)]), .pick 62 (.t 58) (.t 61) (.c (.lit (.bool false))), .cpy 63 (.t 62), .guard 63 true (some 64) (.cpy 64 (.t 7)), .guard 63 true (some 65) (.len 65 (.t 64)), .guard 63 true (some 66) (.bin 66 .eql (.t 65) (.c (.lit (.int .i64 0)))), .pick 67 (.t 63) (.t 66) (.c (.lit (.bool false))), .cpy 68 (.t 67), .guard 68 true (some 69) (.cpy 69 (.t 9)), .guard 68 true (some 70) (.mkS 70 3 1 [(.lit (.int .i64 0))] [(0, (.c (.lit (.int .i64 1)))), (1, (.c (.lit (.int .i64 0)))), (2, (.c (.lit (.int .i64 2))))]), .guard 68 true (some 71) (.mkS 71 1 1 [(.slice 1 [] 0)] [(0, (.t 70))]), .guard 68 true (some 72) (.call 72 19 [(.t 69), (.t 71)]), .pick 73 (.t 68) (.t 72) (.c (.lit (.bool false))), .cpy 74 (.t 73), .guard 74 true (some 75) (.call 75 22 []), .pick 76 (.t 74) (.t 75) (.c (.lit (.bool false))), .asg 0 (.t 76)])
 .ret)))))))
def r6 : List MRes := [.tmp 0]
theorem tr6 : Try.f6.body.bind (trC Try.prog ann6 Try.f6.ntmps) = some m6 := by kernel_rfl
theorem rs6 : trRes Try.prog Try.f6.results.toList = some r6 := by kernel_rfl
theorem fn6 : isFunc Try.prog 6 = true := by kernel_rfl
end Go.Proofs.Ytbcfmfiolbcclaa

namespace Go.Proofs.Ytbcfmfiolbcclaa
open Go.Avm

abbrev moreY : List (Int × Int) := [(2, 2)]
theorem y_err : errE (caseX moreY) = 0 := by rw [errE, caseX_zero moreY (by simp) (by decide +kernel)]
theorem y_ways : waysP (caseX moreY) = [[1, 0, 2]] := by decide +kernel
theorem y_orders : ordersS (caseX moreY) = ([[1, 0, 2]], 0) := by
  unfold ordersS
  rw [y_err, y_ways]; rfl
theorem x_before2 : beforeS (caseX []) 2 1 = (0, 0) := by
  unfold beforeS
  rw [x_err, x_ways]
  decide +kernel
theorem x_stocksAt2 : bitsL (sureM (caseX []) 2 (truL (caseX []) 0)) = [] ∧ bitsL (mayM (caseX []) 2 (truL (caseX []) 0)) = [0, 1, 2] := by decide +kernel
theorem x_stocksS2 : stocksS (caseX []) 2 = ([], [0, 1, 2], 0) := by
  unfold stocksS
  rw [x_err, if_neg (by simp), if_neg (by decide +kernel), if_neg x_tru', x_stocksAt2.1, x_stocksAt2.2]
theorem x_wrong0 : wrongS (caseX []) = ([], 0) := by
  unfold wrongS
  rw [x_err, if_neg (by simp)]
  have : bestUp (anyT (caseX [])) (2 ^ (caseX []).seen.length) = some 0 := by decide +kernel
  rw [this]
  have : bitsL 0 = [] := by decide +kernel
  show (bitsL 0, (0 : Int)) = _
  rw [this]

theorem paperKnown_ok : PCall Try.prog 6 [] (B true) := by
  refine pcall Try.func6 tr6 rs6 fn6 (by simp [Try.ntmps6]) fun _ => ?_
  have k0 : PCall Try.prog 34 [.slice 2 [] 0] (encCase (caseX [])) := case34_ok [] (by simp)
  have k1 : PCall Try.prog 34 [.slice 2 (moreY.map encSeen) 0] (encCase (caseX moreY)) := case34_ok moreY (by simp)
  have q1 := before20_ok (caseX []) 2 1
  have q2 := stocks23_ok (caseX []) 2
  have q3 := wrong30_ok (caseX [])
  have q4 := orders17_ok (caseX moreY)
  rw [x_before2] at q1
  rw [x_stocksS2] at q2
  rw [x_wrong0] at q3
  rw [y_orders] at q4
  generalize caseX [] = c at *
  generalize caseX moreY = d at *
  have s1 := seen35_ok 2 2
  have aw := awake22_ok
  simp -implicitDefEqProofs [m6]
  refine vCall_of k0 ?_
  simp -implicitDefEqProofs
  intro b1
  refine vCall_of q1 ?_
  simp -implicitDefEqProofs
  refine vCall_of q2 ?_
  simp -implicitDefEqProofs
  refine vCall_of q3 ?_
  simp -implicitDefEqProofs
  refine vCall_of s1 ?_
  simp -implicitDefEqProofs
  refine vCall_of k1 ?_
  simp -implicitDefEqProofs
  refine vCall_of q4 ?_
  simp -implicitDefEqProofs
  refine vCall_of (ints_ok [0, 1, 2] [0, 1, 2]) ?_
  simp -implicitDefEqProofs
  refine vCall_of (same_ok [[1, 0, 2]] [[1, 0, 2]]) ?_
  simp -implicitDefEqProofs
  refine vCall_of aw ?_
  simp -implicitDefEqProofs [r6]
end Go.Proofs.Ytbcfmfiolbcclaa

