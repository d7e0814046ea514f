/- The resolved code of some functions, written by program, each held against the function by the kernel. The law OwnerTwo: its contract. -/
import Derived.Test.YtiampdiobdianaaZD
import Derived.KernelRfl
import Derived.Test.YtiampdiobdianaaZJ
import Derived.Test.YtiampdiobdianaaZK
namespace Go.Proofs.Ytiampdiobdianaa
open Go.Avm

/- duodecimo/duodecimolaw08.OwnerTwo -/
def ann5 : Ann := { muts := [], nilsz := [], oid := [], frz := [], zero := [], ord := [], ap := [], own := [], yl := [], fz := [], imm := [], ic := [], cl := [], ylL := [], rl := [] }
def m5 : MCode := (.seq (.reg [.boxI 3 (.t 0) 5, .boxI 4 (.t 1) 5, .asg 6 (.c (.lit (.bool false)))])
 (.seq (.reg [.load 12 (.t 3) (some 5), .load 13 (.t 4) (some 5), .cpy 14 (.t 2), .call 15 31 [(.t 12), (.t 13), (.t 14)], .cpy 11 (.t 15), .ext 16 (.t 11) 0, .ext 17 (.t 11) 1, .asg 7 (.t 16), .asg 8 (.t 17)])
 (.seq (.reg [.load 19 (.t 3) (some 5), .load 20 (.t 4) (some 5), .cpy 21 (.t 2), .call 22 32 [(.t 19), (.t 20), (.t 21)], .cpy 18 (.t 22), .ext 23 (.t 18) 0, .ext 24 (.t 18) 1, .asg 9 (.t 23), .asg 10 (.t 24)])
 (.seq (.seq (.reg [.cpy 25 (.t 7), .cpy 26 (.t 9), .call 27 30 [(.t 25), (.t 26)], .not 28 (.t 27), .cpy 29 (.t 28), .guard 29 false (some 30) (.cpy 30 (.t 8)), .guard 29 false (some 31) (.cpy 31 (.t 10)), .guard 29 false (some 32) (.bin 32 .neq (.t 30) (.t 31)), .pick 33 (.t 29) (.c (.lit (.bool true))) (.t 32)])
 (.cond (.t 33) (.seq (.reg [.asg 6 (.c (.lit (.bool false)))])
 .ret) .skip))
 (.seq (.reg [.load 35 (.t 3) (some 5), .call 36 33 [(.t 35)], .cpy 34 (.t 36), .ext 37 (.t 34) 0, .ext 38 (.t 34) 1, .asg 7 (.t 37), .asg 8 (.t 38)])
 (.seq (.reg [.load 40 (.t 3) (some 5), .call 41 34 [(.t 40)], .cpy 39 (.t 41), .ext 42 (.t 39) 0, .ext 43 (.t 39) 1, .asg 9 (.t 42), .asg 10 (.t 43)])
 (.seq (.reg [.cpy 44 (.t 7), .cpy 45 (.t 9), .call 46 30 [(.t 44), (.t 45)], .cpy 47 (.t 46), .guard 47 true (some 48) (.cpy 48 (.t 8)), .guard 47 true (some 49) (.cpy 49 (.t 10)), .guard 47 true (some 50) (.bin 50 .eql (.t 48) (.t 49)), .pick 51 (.t 47) (.t 50) (.c (.lit (.bool false))), .cpy 52 (.t 51), .guard 52 true (some 53) (.call 53 23 []), .pick 54 (.t 52) (.t 53) (.c (.lit (.bool false))), .asg 6 (.t 54)])
 .ret)))))))
def r5 : List MRes := [.tmp 6]
theorem tr5 : Try.f5.body.bind (trC Try.prog ann5 Try.f5.ntmps) = some m5 := by kernel_rfl
theorem rs5 : trRes Try.prog Try.f5.results.toList = some r5 := by kernel_rfl
theorem fn5 : isFunc Try.prog 5 = true := by kernel_rfl
end Go.Proofs.Ytiampdiobdianaa

namespace Go.Proofs.Ytiampdiobdianaa
open Go.Avm

theorem ownerTwo_ok (c d : Case) (y : Int) (_ : CaseSz c) (_ : CaseSz d) (_ : okI y) : PCall Try.prog 5 [encCase c, encCase d, I y] (B true) := by
  refine pcall Try.func5 tr5 rs5 fn5 (by simp [Try.ntmps5]) fun _ => ?_
  have b1 := both31_ok c d y
  have b2 := both32_ok c d y
  have f1 := forged33_ok c
  have f2 := forged34_ok c
  have s1 := ints_ok (bothR c d y).l (bothR c d y).l
  have s2 := ints_ok (forgedR c).l (forgedR c).l
  rw [decide_eq_true rfl] at s1 s2
  have aw := awake23_ok
  generalize bothR c d y = K at *
  generalize forgedR c = O at *
  simp -implicitDefEqProofs [m5]
  refine vCall_of b1 ?_
  simp -implicitDefEqProofs
  refine vCall_of b2 ?_
  simp -implicitDefEqProofs
  refine vCall_of s1 ?_
  simp -implicitDefEqProofs
  refine vCall_of f1 ?_
  simp -implicitDefEqProofs
  refine vCall_of f2 ?_
  simp -implicitDefEqProofs
  refine vCall_of s2 ?_
  simp -implicitDefEqProofs
  refine vCall_of aw ?_
  simp -implicitDefEqProofs [r5]
end Go.Proofs.Ytiampdiobdianaa

