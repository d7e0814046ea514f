/- The resolved code of some functions, written by program, each held against the function by the kernel. The law OwnerChains: its contract. -/
import Derived.Test.YtiampdiobdianaaZD
import Derived.KernelRfl
import Derived.Test.YtiampdiobdianaaZK
namespace Go.Proofs.Ytiampdiobdianaa
open Go.Avm

/- duodecimo/duodecimolaw08.OwnerChains -/
def ann3 : Ann := { muts := [], nilsz := [], oid := [], frz := [], zero := [], ord := [], ap := [], own := [], yl := [], fz := [], imm := [], ic := [], cl := [], ylL := [], rl := [] }
def m3 : MCode := (.seq (.reg [.boxI 2 (.t 0) 5, .asg 4 (.c (.lit (.bool false)))])
 (.seq (.reg [.load 16 (.t 2) (some 5), .call 17 16 [(.t 16)], .cpy 15 (.t 17), .ext 18 (.t 15) 0, .ext 19 (.t 15) 1, .ext 20 (.t 15) 2, .asg 5 (.t 18), .asg 6 (.t 19), .asg 7 (.t 20)])
 (.seq (.reg [.load 22 (.t 2) (some 5), .call 23 17 [(.t 22)], .cpy 21 (.t 23), .ext 24 (.t 21) 0, .ext 25 (.t 21) 1, .ext 26 (.t 21) 2, .asg 8 (.t 24), .asg 9 (.t 25), .asg 10 (.t 26)])
 (.seq (.seq (.reg [.cpy 27 (.t 5), .cpy 28 (.t 8), .bin 29 .neq (.t 27) (.t 28), .cpy 30 (.t 29), .guard 30 false (some 31) (.cpy 31 (.t 6)), .guard 30 false (some 32) (.cpy 32 (.t 9)), .guard 30 false (some 33) (.bin 33 .neq (.t 31) (.t 32)), .pick 34 (.t 30) (.c (.lit (.bool true))) (.t 33), .cpy 35 (.t 34), .guard 35 false (some 36) (.cpy 36 (.t 7)), .guard 35 false (some 37) (.cpy 37 (.t 10)), .guard 35 false (some 38) (.bin 38 .neq (.t 36) (.t 37)), .pick 39 (.t 35) (.c (.lit (.bool true))) (.t 38)])
 (.cond (.t 39) (.seq (.reg [.asg 4 (.c (.lit (.bool false)))])
 .ret) .skip))
 (.seq (.reg [.load 41 (.t 2) (some 5), .call 42 18 [(.t 41)], .cpy 40 (.t 42), .ext 43 (.t 40) 0, .ext 44 (.t 40) 1, .ext 45 (.t 40) 2, .asg 11 (.t 43), .asg 12 (.t 44), .asg 7 (.t 45)])
 (.seq (.reg [.load 47 (.t 2) (some 5), .call 48 19 [(.t 47)], .cpy 46 (.t 48), .ext 49 (.t 46) 0, .ext 50 (.t 46) 1, .ext 51 (.t 46) 2, .asg 13 (.t 49), .asg 14 (.t 50), .asg 10 (.t 51)])
 (.seq (.seq (.reg [.cpy 52 (.t 11), .cpy 53 (.t 13), .call 54 20 [(.t 52), (.t 53)], .not 55 (.t 54), .cpy 56 (.t 55), .guard 56 false (some 57) (.cpy 57 (.t 12)), .guard 56 false (some 58) (.cpy 58 (.t 14)), .guard 56 false (some 59) (.bin 59 .neq (.t 57) (.t 58)), .pick 60 (.t 56) (.c (.lit (.bool true))) (.t 59), .cpy 61 (.t 60), .guard 61 false (some 62) (.cpy 62 (.t 7)), .guard 61 false (some 63) (.cpy 63 (.t 10)), .guard 61 false (some 64) (.bin 64 .neq (.t 62) (.t 63)), .pick 65 (.t 61) (.c (.lit (.bool true))) (.t 64)])
 (.cond (.t 65) (.seq (.reg [.asg 4 (.c (.lit (.bool false)))])
 .ret) .skip))
 (.seq (.reg [.load 67 (.t 2) (some 5), .cpy 68 (.t 1), .call 69 21 [(.t 67), (.t 68)], .cpy 66 (.t 69), .ext 70 (.t 66) 0, .ext 71 (.t 66) 1, .asg 12 (.t 70), .asg 7 (.t 71)])
 (.seq (.reg [.load 73 (.t 2) (some 5), .cpy 74 (.t 1), .call 75 22 [(.t 73), (.t 74)], .cpy 72 (.t 75), .ext 76 (.t 72) 0, .ext 77 (.t 72) 1, .asg 14 (.t 76), .asg 10 (.t 77)])
 (.seq (.reg [.cpy 78 (.t 12), .cpy 79 (.t 14), .bin 80 .eql (.t 78) (.t 79), .cpy 81 (.t 80), .guard 81 true (some 82) (.cpy 82 (.t 7)), .guard 81 true (some 83) (.cpy 83 (.t 10)), .guard 81 true (some 84) (.bin 84 .eql (.t 82) (.t 83)), .pick 85 (.t 81) (.t 84) (.c (.lit (.bool false))), .cpy 86 (.t 85), .guard 86 true (some 87) (.call 87 23 []), .pick 88 (.t 86) (.t 87) (.c (.lit (.bool false))), .asg 4 (.t 88)])
 .ret))))))))))
def r3 : List MRes := [.tmp 4]
theorem tr3 : Try.f3.body.bind (trC Try.prog ann3 Try.f3.ntmps) = some m3 := by kernel_rfl
theorem rs3 : trRes Try.prog Try.f3.results.toList = some r3 := by kernel_rfl
theorem fn3 : isFunc Try.prog 3 = true := by kernel_rfl
end Go.Proofs.Ytiampdiobdianaa

namespace Go.Proofs.Ytiampdiobdianaa
open Go.Avm

theorem ownerChains_ok (c : Case) (o : List Int) (_ : CaseSz c) (_ : o.length ≤ 140737488355328) : PCall Try.prog 3 [encCase c, IL o] (B true) := by
  refine pcall Try.func3 tr3 rs3 fn3 (by simp [Try.ntmps3]) fun _ => ?_
  have c1 := check_ok c
  have c2 := checkR_ok c
  have h1 := chain18_ok c
  have h2 := chain19_ok c
  have w1 := why21_ok c o
  have w2 := why22_ok c o
  have sm := same20_ok (chainS c).l (chainS c).l
  rw [decide_eq_true rfl] at sm
  have aw := awake23_ok
  generalize checkS c = K at *
  generalize chainS c = O at *
  generalize whyS c o = V at *
  simp -implicitDefEqProofs [m3]
  refine vCall_of c1 ?_
  simp -implicitDefEqProofs
  refine vCall_of c2 ?_
  simp -implicitDefEqProofs
  refine vCall_of h1 ?_
  simp -implicitDefEqProofs
  refine vCall_of h2 ?_
  simp -implicitDefEqProofs
  refine vCall_of sm ?_
  simp -implicitDefEqProofs
  refine vCall_of w1 ?_
  simp -implicitDefEqProofs
  refine vCall_of w2 ?_
  simp -implicitDefEqProofs
  refine vCall_of aw ?_
  simp -implicitDefEqProofs [r3]
end Go.Proofs.Ytiampdiobdianaa

