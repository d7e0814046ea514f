/- The resolved code of some functions, written by program, each held against the function by the kernel. The law PaperWrongs: its contract. -/
import Derived.Test.YtbcfmfiolbcclaaZI
import Derived.KernelRfl
namespace Go.Proofs.Ytbcfmfiolbcclaa
open Go.Avm

/- duodecimo/duodecimolaw06.PaperWrongs -/
def ann5 : Ann := { muts := [], nilsz := [], oid := [], frz := [], zero := [], ord := [], ap := [], own := [], yl := [], fz := [], imm := [], ic := [], cl := [], ylL := [], rl := [] }
def m5 : MCode := (.seq (.reg [.boxI 1 (.t 0) 5, .asg 2 (.c (.lit (.bool false)))])
 (.seq (.reg [.load 12 (.t 1) (some 5), .call 13 30 [(.t 12)], .cpy 11 (.t 13), .ext 14 (.t 11) 0, .ext 15 (.t 11) 1, .asg 3 (.t 14), .asg 4 (.t 15)])
 (.seq (.reg [.load 17 (.t 1) (some 5), .call 18 31 [(.t 17)], .cpy 16 (.t 18), .ext 19 (.t 16) 0, .ext 20 (.t 16) 1, .asg 5 (.t 19), .asg 6 (.t 20)])
 (.seq (.seq (.reg [.cpy 21 (.t 3), .cpy 22 (.t 5), .call 23 25 [(.t 21), (.t 22)], .not 24 (.t 23), .cpy 25 (.t 24), .guard 25 false (some 26) (.cpy 26 (.t 4)), .guard 25 false (some 27) (.cpy 27 (.t 6)), .guard 25 false (some 28) (.bin 28 .neq (.t 26) (.t 27)), .pick 29 (.t 25) (.c (.lit (.bool true))) (.t 28)])
 (.cond (.t 29) (.seq (.reg [.asg 2 (.c (.lit (.bool false)))])
 .ret) .skip))
 (.seq (.reg [.load 31 (.t 1) (some 5), .call 32 32 [(.t 31)], .cpy 30 (.t 32), .ext 33 (.t 30) 0, .ext 34 (.t 30) 1, .ext 35 (.t 30) 2, .asg 7 (.t 33), .asg 8 (.t 34), .asg 4 (.t 35)])
 (.seq (.reg [.load 37 (.t 1) (some 5), .call 38 33 [(.t 37)], .cpy 36 (.t 38), .ext 39 (.t 36) 0, .ext 40 (.t 36) 1, .ext 41 (.t 36) 2, .asg 9 (.t 39), .asg 10 (.t 40), .asg 6 (.t 41)])
 (.seq (.reg [.cpy 42 (.t 7), .cpy 43 (.t 9), .bin 44 .eql (.t 42) (.t 43), .cpy 45 (.t 44), .guard 45 true (some 46) (.cpy 46 (.t 8)), .guard 45 true (some 47) (.cpy 47 (.t 10)), .guard 45 true (some 48) (.bin 48 .eql (.t 46) (.t 47)), .pick 49 (.t 45) (.t 48) (.c (.lit (.bool false))), .cpy 50 (.t 49), .guard 50 true (some 51) (.cpy 51 (.t 4)), .guard 50 true (some 52) (.cpy 52 (.t 6)), .guard 50 true (some 53) (.bin 53 .eql (.t 51) (.t 52)), .pick 54 (.t 50) (.t 53) (.c (.lit (.bool false))), .cpy 55 (.t 54), .guard 55 true (some 56) (.call 56 22 []), .pick 57 (.t 55) (.t 56) (.c (.lit (.bool false))), .asg 2 (.t 57)])
 .ret)))))))
def r5 : List MRes := [.tmp 2]
theorem tr5 : Try.f5.body.bind (trC Try.prog ann5 Try.f5.ntmps) = some m5 := by kernel_rfl
theorem rs5 : trRes Try.prog Try.f5.results.toList = some r5 := by kernel_rfl
theorem fn5 : isFunc Try.prog 5 = true := by kernel_rfl
end Go.Proofs.Ytbcfmfiolbcclaa

namespace Go.Proofs.Ytbcfmfiolbcclaa
open Go.Avm

theorem paperWrongs_ok (c : Case) (_ : c.seen.length * 16 ≤ 140737488351232) : PCall Try.prog 5 [encCase c] (B true) := by
  refine pcall Try.func5 tr5 rs5 fn5 (by simp [Try.ntmps5]) fun _ => ?_
  have w1 := wrong30_ok c
  have w2 := wrong31_ok c
  rw [← wrong_eq] at w2
  have a1 := ask32_ok c
  have a2 := ask33_ok c
  rw [← ask_eq] at a2
  have i1 := ints_ok (wrongS c).1 (wrongS c).1
  rw [decide_eq_true rfl] at i1
  have aw := awake22_ok
  generalize wrongS c = W at *
  generalize askS c = A at *
  simp -implicitDefEqProofs [m5]
  refine vCall_of w1 ?_
  simp -implicitDefEqProofs
  refine vCall_of w2 ?_
  simp -implicitDefEqProofs
  refine vCall_of i1 ?_
  simp -implicitDefEqProofs
  refine vCall_of a1 ?_
  simp -implicitDefEqProofs
  refine vCall_of a2 ?_
  simp -implicitDefEqProofs
  refine vCall_of aw ?_
  simp -implicitDefEqProofs [r5]
end Go.Proofs.Ytbcfmfiolbcclaa

