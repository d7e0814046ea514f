/- The resolved code of some functions, written by program, each held against the function by the kernel. The law PaperOrders: its contract. -/
import Derived.Test.YtbcfmfiolbcclaaZI
import Derived.KernelRfl
namespace Go.Proofs.Ytbcfmfiolbcclaa
open Go.Avm

/- duodecimo/duodecimolaw06.PaperOrders -/
def ann3 : Ann := { muts := [], nilsz := [], oid := [], frz := [], zero := [], ord := [], ap := [], own := [], yl := [], fz := [], imm := [], ic := [], cl := [], ylL := [], rl := [] }
def m3 : MCode := (.seq (.reg [.boxI 2 (.t 0) 5, .boxI 3 (.t 1) 2, .asg 4 (.c (.lit (.bool false)))])
 (.seq (.reg [.load 16 (.t 2) (some 5), .call 17 15 [(.t 16)], .cpy 15 (.t 17), .ext 18 (.t 15) 0, .ext 19 (.t 15) 1, .ext 20 (.t 15) 2, .asg 5 (.t 18), .asg 6 (.t 19), .asg 7 (.t 20)])
 (.seq (.reg [.load 22 (.t 2) (some 5), .call 23 16 [(.t 22)], .cpy 21 (.t 23), .ext 24 (.t 21) 0, .ext 25 (.t 21) 1, .ext 26 (.t 21) 2, .asg 8 (.t 24), .asg 9 (.t 25), .asg 10 (.t 26)])
 (.seq (.seq (.reg [.cpy 27 (.t 5), .cpy 28 (.t 8), .bin 29 .neq (.t 27) (.t 28), .cpy 30 (.t 29), .guard 30 false (some 31) (.cpy 31 (.t 6)), .guard 30 false (some 32) (.cpy 32 (.t 9)), .guard 30 false (some 33) (.bin 33 .neq (.t 31) (.t 32)), .pick 34 (.t 30) (.c (.lit (.bool true))) (.t 33), .cpy 35 (.t 34), .guard 35 false (some 36) (.cpy 36 (.t 7)), .guard 35 false (some 37) (.cpy 37 (.t 10)), .guard 35 false (some 38) (.bin 38 .neq (.t 36) (.t 37)), .pick 39 (.t 35) (.c (.lit (.bool true))) (.t 38)])
 (.cond (.t 39) (.seq (.reg [.asg 4 (.c (.lit (.bool false)))])
 .ret) .skip))
 (.seq (.reg [.load 41 (.t 2) (some 5), .call 42 17 [(.t 41)], .cpy 40 (.t 42), .ext 43 (.t 40) 0, .ext 44 (.t 40) 1, .asg 11 (.t 43), .asg 7 (.t 44)])
 (.seq (.reg [.load 46 (.t 2) (some 5), .call 47 18 [(.t 46)], .cpy 45 (.t 47), .ext 48 (.t 45) 0, .ext 49 (.t 45) 1, .asg 12 (.t 48), .asg 10 (.t 49)])
 (.seq (.seq (.reg [.cpy 50 (.t 11), .cpy 51 (.t 12), .call 52 19 [(.t 50), (.t 51)], .not 53 (.t 52), .cpy 54 (.t 53), .guard 54 false (some 55) (.cpy 55 (.t 7)), .guard 54 false (some 56) (.cpy 56 (.t 10)), .guard 54 false (some 57) (.bin 57 .neq (.t 55) (.t 56)), .pick 58 (.t 54) (.c (.lit (.bool true))) (.t 57)])
 (.cond (.t 58) (.seq (.reg [.asg 4 (.c (.lit (.bool false)))])
 .ret) .skip))
 (.seq (.reg [.load 60 (.t 2) (some 5), .idxA 61 (.t 3) (.c (.lit (.int .i64 0))) 2 1, .load 62 (.t 61) none, .idxA 63 (.t 3) (.c (.lit (.int .i64 1))) 2 1, .load 64 (.t 63) none, .call 65 20 [(.t 60), (.t 62), (.t 64)], .cpy 59 (.t 65), .ext 66 (.t 59) 0, .ext 67 (.t 59) 1, .asg 13 (.t 66), .asg 7 (.t 67)])
 (.seq (.reg [.load 69 (.t 2) (some 5), .idxA 70 (.t 3) (.c (.lit (.int .i64 0))) 2 1, .load 71 (.t 70) none, .idxA 72 (.t 3) (.c (.lit (.int .i64 1))) 2 1, .load 73 (.t 72) none, .call 74 21 [(.t 69), (.t 71), (.t 73)], .cpy 68 (.t 74), .ext 75 (.t 68) 0, .ext 76 (.t 68) 1, .asg 14 (.t 75), .asg 10 (.t 76)])
 (.seq (.reg [.cpy 77 (.t 13), .cpy 78 (.t 14), .bin 79 .eql (.t 77) (.t 78), .cpy 80 (.t 79), .guard 80 true (some 81) (.cpy 81 (.t 7)), .guard 80 true (some 82) (.cpy 82 (.t 10)), .guard 80 true (some 83) (.bin 83 .eql (.t 81) (.t 82)), .pick 84 (.t 80) (.t 83) (.c (.lit (.bool false))), .cpy 85 (.t 84), .guard 85 true (some 86) (.call 86 22 []), .pick 87 (.t 85) (.t 86) (.c (.lit (.bool false))), .asg 4 (.t 87)])
 .ret))))))))))
def r3 : List MRes := [.tmp 4]
theorem tr3 : Try.f3.body.bind (trC Try.prog ann3 Try.f3.ntmps) = some m3 := by kernel_rfl
theorem rs3 : trRes Try.prog Try.f3.results.toList = some r3 := by kernel_rfl
theorem fn3 : isFunc Try.prog 3 = true := by kernel_rfl
end Go.Proofs.Ytbcfmfiolbcclaa

namespace Go.Proofs.Ytbcfmfiolbcclaa
open Go.Avm

theorem paperOrders_at (c : Case) (a b : Int) : PCall Try.prog 3 [encCase c, .agg [I a, I b]] (B true) := by
  refine pcall Try.func3 tr3 rs3 fn3 (by simp [Try.ntmps3]) fun _ => ?_
  have c1 := check_ok c
  have c2 := checkR_ok c
  have o1 := orders17_ok c
  have o2 := orders18_ok c
  rw [← orders_eq] at o2
  have b1 := before20_ok c a b
  have b2 := before21_ok c a b
  rw [← before_eq] at b2
  have sm := same_ok (ordersS c).1 (ordersS c).1
  rw [decide_eq_true rfl] at sm
  have aw := awake22_ok
  generalize checkS c = K at *
  generalize ordersS c = O at *
  generalize beforeS c a b = B at *
  simp -implicitDefEqProofs [m3]
  refine vCall_of c1 ?_
  simp -implicitDefEqProofs
  refine vCall_of c2 ?_
  simp -implicitDefEqProofs
  refine vCall_of o1 ?_
  simp -implicitDefEqProofs
  refine vCall_of o2 ?_
  simp -implicitDefEqProofs
  refine vCall_of sm ?_
  simp -implicitDefEqProofs
  refine vCall_of b1 ?_
  simp -implicitDefEqProofs
  refine vCall_of b2 ?_
  simp -implicitDefEqProofs
  refine vCall_of aw ?_
  simp -implicitDefEqProofs [r3]
theorem paperOrders_ok (c : Case) (xs : List Int) (_ : c.seen.length * 16 ≤ 140737488351232) (ox : xs.length = 2 ∧ ∀ x ∈ xs, okI x) : PCall Try.prog 3 [encCase c, .agg (xs.flatMap fun y => (I y).cells)] (B true) :=
  match xs, ox with
  | [a, b], _ => paperOrders_at c a b
end Go.Proofs.Ytbcfmfiolbcclaa

