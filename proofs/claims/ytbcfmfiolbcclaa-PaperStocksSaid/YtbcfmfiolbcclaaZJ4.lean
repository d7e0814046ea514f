/- The resolved code of some functions, written by program, each held against the function by the kernel. The law PaperStocks: its contract. -/
import Derived.Test.YtbcfmfiolbcclaaZI
import Derived.KernelRfl
namespace Go.Proofs.Ytbcfmfiolbcclaa
open Go.Avm

/- duodecimo/duodecimolaw06.PaperStocks -/
def ann4 : Ann := { muts := [], nilsz := [], oid := [], frz := [12, 14], zero := [(11, [(.lit (.int .i64 0)), (.lit (.int .i64 0))]), (12, [(.lit (.int .i64 0)), (.lit (.int .i64 0))]), (13, [(.lit (.int .i64 0)), (.lit (.int .i64 0))]), (14, [(.lit (.int .i64 0)), (.lit (.int .i64 0))])], ord := [], ap := [], own := [], yl := [], fz := [], imm := [], ic := [], cl := [], ylL := [], rl := [] }
def m4 : MCode := (.seq (.reg [.boxI 2 (.t 0) 5, .asg 4 (.c (.lit (.bool false)))])
 (.seq (.reg [.load 16 (.t 2) (some 5), .cpy 17 (.t 1), .call 18 23 [(.t 16), (.t 17)], .cpy 15 (.t 18), .ext 19 (.t 15) 0, .ext 20 (.t 15) 1, .ext 21 (.t 15) 2, .asg 5 (.t 19), .asg 6 (.t 20), .asg 7 (.t 21)])
 (.seq (.reg [.load 23 (.t 2) (some 5), .cpy 24 (.t 1), .call 25 24 [(.t 23), (.t 24)], .cpy 22 (.t 25), .ext 26 (.t 22) 0, .ext 27 (.t 22) 1, .ext 28 (.t 22) 2, .asg 8 (.t 26), .asg 9 (.t 27), .asg 10 (.t 28)])
 (.seq (.seq (.reg [.cpy 29 (.t 5), .cpy 30 (.t 8), .call 31 25 [(.t 29), (.t 30)], .not 32 (.t 31), .cpy 33 (.t 32), .guard 33 false (some 34) (.cpy 34 (.t 6)), .guard 33 false (some 35) (.cpy 35 (.t 9)), .guard 33 false (some 36) (.call 36 25 [(.t 34), (.t 35)]), .guard 33 false (some 37) (.not 37 (.t 36)), .pick 38 (.t 33) (.c (.lit (.bool true))) (.t 37), .cpy 39 (.t 38), .guard 39 false (some 40) (.cpy 40 (.t 7)), .guard 39 false (some 41) (.cpy 41 (.t 10)), .guard 39 false (some 42) (.bin 42 .neq (.t 40) (.t 41)), .pick 43 (.t 39) (.c (.lit (.bool true))) (.t 42)])
 (.cond (.t 43) (.seq (.reg [.asg 4 (.c (.lit (.bool false)))])
 .ret) .skip))
 (.seq (.reg [.load 45 (.t 2) (some 5), .call 46 26 [(.t 45)], .cpy 44 (.t 46), .ext 47 (.t 44) 0, .ext 48 (.t 44) 1, .ext 49 (.t 44) 2, .alloc 11 [(.lit (.int .i64 0)), (.lit (.int .i64 0))], .alloc 12 [(.lit (.int .i64 0)), (.lit (.int .i64 0))], .store (.t 11) (.t 47) 2 0, .storeF 12 (.t 48) 2, .asg 7 (.t 49)])
 (.seq (.reg [.load 51 (.t 2) (some 5), .call 52 27 [(.t 51)], .cpy 50 (.t 52), .ext 53 (.t 50) 0, .ext 54 (.t 50) 1, .ext 55 (.t 50) 2, .alloc 13 [(.lit (.int .i64 0)), (.lit (.int .i64 0))], .alloc 14 [(.lit (.int .i64 0)), (.lit (.int .i64 0))], .store (.t 13) (.t 53) 2 0, .storeF 14 (.t 54) 2, .asg 10 (.t 55)])
 (.seq (.seq (.reg [.load 56 (.t 11) (some 2), .load 57 (.t 13) (some 2), .binA 58 true [false, false] (.t 56) (.t 57), .cpy 59 (.t 58), .guard 59 false (some 60) (.load 60 (.t 12) (some 2)), .guard 59 false (some 61) (.load 61 (.t 14) (some 2)), .guard 59 false (some 62) (.binA 62 true [false, false] (.t 60) (.t 61)), .pick 63 (.t 59) (.c (.lit (.bool true))) (.t 62), .cpy 64 (.t 63), .guard 64 false (some 65) (.cpy 65 (.t 7)), .guard 64 false (some 66) (.cpy 66 (.t 10)), .guard 64 false (some 67) (.bin 67 .neq (.t 65) (.t 66)), .pick 68 (.t 64) (.c (.lit (.bool true))) (.t 67)])
 (.cond (.t 68) (.seq (.reg [.asg 4 (.c (.lit (.bool false)))])
 .ret) .skip))
 (.seq (.reg [.load 70 (.t 2) (some 5), .call 71 28 [(.t 70)], .cpy 69 (.t 71), .ext 72 (.t 69) 0, .ext 73 (.t 69) 1, .store (.t 11) (.t 72) 2 0, .asg 7 (.t 73)])
 (.seq (.reg [.load 75 (.t 2) (some 5), .call 76 29 [(.t 75)], .cpy 74 (.t 76), .ext 77 (.t 74) 0, .ext 78 (.t 74) 1, .store (.t 13) (.t 77) 2 0, .asg 10 (.t 78)])
 (.seq (.reg [.load 79 (.t 11) (some 2), .load 80 (.t 13) (some 2), .binA 81 false [false, false] (.t 79) (.t 80), .cpy 82 (.t 81), .guard 82 true (some 83) (.cpy 83 (.t 7)), .guard 82 true (some 84) (.cpy 84 (.t 10)), .guard 82 true (some 85) (.bin 85 .eql (.t 83) (.t 84)), .pick 86 (.t 82) (.t 85) (.c (.lit (.bool false))), .cpy 87 (.t 86), .guard 87 true (some 88) (.call 88 22 []), .pick 89 (.t 87) (.t 88) (.c (.lit (.bool false))), .asg 4 (.t 89)])
 .ret))))))))))
def r4 : List MRes := [.tmp 4]
theorem tr4 : Try.f4.body.bind (trC Try.prog ann4 Try.f4.ntmps) = some m4 := by kernel_rfl
theorem rs4 : trRes Try.prog Try.f4.results.toList = some r4 := by kernel_rfl
theorem fn4 : isFunc Try.prog 4 = true := by kernel_rfl
end Go.Proofs.Ytbcfmfiolbcclaa

namespace Go.Proofs.Ytbcfmfiolbcclaa
open Go.Avm

theorem paperStocks_ok (c : Case) (g : Int) (_ : c.seen.length * 16 ≤ 140737488351232) (_ : okI g) : PCall Try.prog 4 [encCase c, I g] (B true) := by
  refine pcall Try.func4 tr4 rs4 fn4 (by simp [Try.ntmps4]) fun _ => ?_
  have s1 := stocks23_ok c g
  have s2 := stocks24_ok c g
  rw [← stocks_eq] at s2
  have l1 := left26_ok c
  have l2 := left27_ok c
  rw [← left_eq] at l2
  have y1 := year28_ok c
  have y2 := year29_ok c
  rw [← year_eq] at y2
  have i1 := ints_ok (stocksS c g).1 (stocksS c g).1
  have i2 := ints_ok (stocksS c g).2.1 (stocksS c g).2.1
  rw [decide_eq_true rfl] at i1 i2
  have aw := awake22_ok
  generalize stocksS c g = S at *
  generalize leftS c = L at *
  generalize yearS c = Y at *
  simp -implicitDefEqProofs [m4]
  refine vCall_of s1 ?_
  simp -implicitDefEqProofs
  refine vCall_of s2 ?_
  simp -implicitDefEqProofs
  refine vCall_of i1 ?_
  simp -implicitDefEqProofs
  refine vCall_of i2 ?_
  simp -implicitDefEqProofs
  refine vCall_of l1 ?_
  simp -implicitDefEqProofs
  intro b11 b12 n1
  have n2 : ¬ b11 = b12 := fun e => n1 e.symm
  simp -implicitDefEqProofs [n1, n2]
  refine vCall_of l2 ?_
  simp -implicitDefEqProofs
  intro b13 h13 b14 h14
  have n3 : ¬ b13 = b11 := by rintro rfl; simp [n2] at h13
  have n4 : ¬ b14 = b13 := by rintro rfl; simp at h14
  have n5 : ¬ b14 = b11 := by rintro rfl; simp [n4, n2] at h14
  have m3 : ¬ b11 = b13 := fun e => n3 e.symm
  have m4 : ¬ b13 = b14 := fun e => n4 e.symm
  have m5 : ¬ b11 = b14 := fun e => n5 e.symm
  clear h13 h14
  simp -implicitDefEqProofs [n1, n2, n3, n4, n5, m3, m4, m5]
  refine vCall_of y1 ?_
  simp -implicitDefEqProofs [n1, n2, n3, n4, n5, m3, m4, m5]
  refine vCall_of y2 ?_
  simp -implicitDefEqProofs [n1, n2, n3, n4, n5, m3, m4, m5]
  refine vCall_of aw ?_
  simp -implicitDefEqProofs [r4]
end Go.Proofs.Ytbcfmfiolbcclaa

