/- The resolved code of some functions, written by program, each held against the function by the kernel. The law OwnerYears: its contract. -/
import Derived.Test.YtiampdiobdianaaZD
import Derived.KernelRfl
import Derived.Test.YtiampdiobdianaaZK
namespace Go.Proofs.Ytiampdiobdianaa
open Go.Avm

/- duodecimo/duodecimolaw08.OwnerYears -/
def ann4 : Ann := { muts := [], nilsz := [], oid := [], frz := [9, 10], zero := [(9, [(.lit (.int .i64 0)), (.lit (.int .i64 0))]), (10, [(.lit (.int .i64 0)), (.lit (.int .i64 0))])], ord := [], ap := [], own := [], yl := [], fz := [], imm := [], ic := [], cl := [], ylL := [], rl := [] }
def m4 : MCode := (.seq (.reg [.boxI 2 (.t 0) 5, .boxI 3 (.t 1) 4, .asg 4 (.c (.lit (.bool false)))])
 (.seq (.reg [.load 14 (.t 2) (some 5), .idxA 15 (.t 3) (.c (.lit (.int .i64 0))) 4 1, .load 16 (.t 15) none, .idxA 17 (.t 3) (.c (.lit (.int .i64 1))) 4 1, .load 18 (.t 17) none, .call 19 24 [(.t 14), (.t 16), (.t 18)], .cpy 13 (.t 19), .ext 20 (.t 13) 0, .ext 21 (.t 13) 1, .asg 5 (.t 20), .asg 6 (.t 21)])
 (.seq (.reg [.load 23 (.t 2) (some 5), .idxA 24 (.t 3) (.c (.lit (.int .i64 0))) 4 1, .load 25 (.t 24) none, .idxA 26 (.t 3) (.c (.lit (.int .i64 1))) 4 1, .load 27 (.t 26) none, .call 28 25 [(.t 23), (.t 25), (.t 27)], .cpy 22 (.t 28), .ext 29 (.t 22) 0, .ext 30 (.t 22) 1, .asg 7 (.t 29), .asg 8 (.t 30)])
 (.seq (.seq (.reg [.cpy 31 (.t 5), .cpy 32 (.t 7), .bin 33 .neq (.t 31) (.t 32), .cpy 34 (.t 33), .guard 34 false (some 35) (.cpy 35 (.t 6)), .guard 34 false (some 36) (.cpy 36 (.t 8)), .guard 34 false (some 37) (.bin 37 .neq (.t 35) (.t 36)), .pick 38 (.t 34) (.c (.lit (.bool true))) (.t 37)])
 (.cond (.t 38) (.seq (.reg [.asg 4 (.c (.lit (.bool false)))])
 .ret) .skip))
 (.seq (.reg [.load 40 (.t 2) (some 5), .idxA 41 (.t 3) (.c (.lit (.int .i64 2))) 4 1, .load 42 (.t 41) none, .call 43 26 [(.t 40), (.t 42)], .cpy 39 (.t 43), .ext 44 (.t 39) 0, .ext 45 (.t 39) 1, .alloc 9 [(.lit (.int .i64 0)), (.lit (.int .i64 0))], .storeF 9 (.t 44) 2, .asg 6 (.t 45)])
 (.seq (.reg [.load 47 (.t 2) (some 5), .idxA 48 (.t 3) (.c (.lit (.int .i64 2))) 4 1, .load 49 (.t 48) none, .call 50 27 [(.t 47), (.t 49)], .cpy 46 (.t 50), .ext 51 (.t 46) 0, .ext 52 (.t 46) 1, .alloc 10 [(.lit (.int .i64 0)), (.lit (.int .i64 0))], .storeF 10 (.t 51) 2, .asg 8 (.t 52)])
 (.seq (.seq (.reg [.load 53 (.t 9) (some 2), .load 54 (.t 10) (some 2), .binA 55 true [false, false] (.t 53) (.t 54), .cpy 56 (.t 55), .guard 56 false (some 57) (.cpy 57 (.t 6)), .guard 56 false (some 58) (.cpy 58 (.t 8)), .guard 56 false (some 59) (.bin 59 .neq (.t 57) (.t 58)), .pick 60 (.t 56) (.c (.lit (.bool true))) (.t 59)])
 (.cond (.t 60) (.seq (.reg [.asg 4 (.c (.lit (.bool false)))])
 .ret) .skip))
 (.seq (.reg [.load 62 (.t 2) (some 5), .idxA 63 (.t 3) (.c (.lit (.int .i64 3))) 4 1, .load 64 (.t 63) none, .call 65 28 [(.t 62), (.t 64)], .cpy 61 (.t 65), .ext 66 (.t 61) 0, .ext 67 (.t 61) 1, .asg 11 (.t 66), .asg 6 (.t 67)])
 (.seq (.reg [.load 69 (.t 2) (some 5), .idxA 70 (.t 3) (.c (.lit (.int .i64 3))) 4 1, .load 71 (.t 70) none, .call 72 29 [(.t 69), (.t 71)], .cpy 68 (.t 72), .ext 73 (.t 68) 0, .ext 74 (.t 68) 1, .asg 12 (.t 73), .asg 8 (.t 74)])
 (.seq (.reg [.cpy 75 (.t 11), .cpy 76 (.t 12), .call 77 30 [(.t 75), (.t 76)], .cpy 78 (.t 77), .guard 78 true (some 79) (.cpy 79 (.t 6)), .guard 78 true (some 80) (.cpy 80 (.t 8)), .guard 78 true (some 81) (.bin 81 .eql (.t 79) (.t 80)), .pick 82 (.t 78) (.t 81) (.c (.lit (.bool false))), .cpy 83 (.t 82), .guard 83 true (some 84) (.call 84 23 []), .pick 85 (.t 83) (.t 84) (.c (.lit (.bool false))), .asg 4 (.t 85)])
 .ret))))))))))
def r4 : List MRes := [.tmp 4]
theorem tr4 : Try.f4.body.bind (trC Try.prog ann4 Try.f4.ntmps) = some m4 := by kernel_rfl
theorem rs4 : trRes Try.prog Try.f4.results.toList = some r4 := by kernel_rfl
theorem fn4 : isFunc Try.prog 4 = true := by kernel_rfl
end Go.Proofs.Ytiampdiobdianaa

namespace Go.Proofs.Ytiampdiobdianaa
open Go.Avm

theorem ownerYears_at (c : Case) (x0 x1 x2 x3 : Int) : PCall Try.prog 4 [encCase c, .agg [I x0, I x1, I x2, I x3]] (B true) := by
  refine pcall Try.func4 tr4 rs4 fn4 (by simp [Try.ntmps4]) fun _ => ?_
  have b1 := before24_ok c x0 x1
  have b2 := before25_ok c x0 x1
  have y1 := year26_ok c x2
  have y2 := year27_ok c x2
  have o1 := owned28_ok c x3
  have o2 := owned29_ok c x3
  have sm := ints_ok (ownedR c x3).l (ownedR c x3).l
  rw [decide_eq_true rfl] at sm
  have aw := awake23_ok
  generalize beforeS c x0 x1 = K at *
  generalize yearS c x2 = O at *
  generalize ownedR c x3 = V at *
  simp -implicitDefEqProofs [m4]
  refine vCall_of b1 ?_
  simp -implicitDefEqProofs
  refine vCall_of b2 ?_
  simp -implicitDefEqProofs
  refine vCall_of y1 ?_
  simp -implicitDefEqProofs
  intro b9
  refine vCall_of y2 ?_
  simp -implicitDefEqProofs
  intro b10
  refine vCall_of o1 ?_
  simp -implicitDefEqProofs
  refine vCall_of o2 ?_
  simp -implicitDefEqProofs
  refine vCall_of sm ?_
  simp -implicitDefEqProofs
  refine vCall_of aw ?_
  simp -implicitDefEqProofs [r4]
theorem ownerYears_ok (c : Case) (xs : List Int) (_ : CaseSz c) (ox : xs.length = 4 ∧ ∀ x ∈ xs, okI x) : PCall Try.prog 4 [encCase c, .agg (xs.flatMap fun y => (I y).cells)] (B true) :=
  match xs, ox with
  | [a, b, d, e], _ => ownerYears_at c a b d e
end Go.Proofs.Ytiampdiobdianaa

