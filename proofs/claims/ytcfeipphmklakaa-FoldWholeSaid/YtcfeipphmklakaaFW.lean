/- The resolved code of some functions, written by program, each held against the function by the kernel. The resolved code of some functions, written by program, each held against the function by the kernel. All ways of making, in order: the reference's walk. Helpers of the outright laws: valid, Made, turn, halves, Has. The resolved code of some functions, written by program, each held against the function by the kernel. What the laws on leaves need: arguments, and what holds of the mates in all cases. All leaves of one sheet make it up: the law FoldWhole returns true. -/
import Derived.Test.YtcfeipphmklakaaFE
import Derived.KernelRfl
import Derived.Test.YtcfeipphmklakaaFF
import Derived.Test.YtcfeipphmklakaaFC
namespace Go.Proofs.Ytcfeipphmklakaa
open Go.Avm

/- duodecimo/duodecimolaw02.FoldAgrees -/
def ann5 : Ann := { muts := [], nilsz := [], oid := [], frz := [], zero := [], ord := [], ap := [], own := [], yl := [], fz := [], imm := [] }
def m5 : MCode := (.seq (.reg [.boxI 3 (.t 0) 4, .boxI 4 (.t 1) 7, .asg 6 (.c (.lit (.bool false)))])
 (.seq (.reg [.load 16 (.t 3) (some 4), .load 17 (.t 4) (some 7), .call 18 30 [(.t 16), (.t 17)], .cpy 15 (.t 18), .ext 19 (.t 15) 0, .ext 20 (.t 15) 1, .asg 7 (.t 19), .asg 8 (.t 20)])
 (.seq (.reg [.load 22 (.t 3) (some 4), .load 23 (.t 4) (some 7), .call 24 31 [(.t 22), (.t 23)], .cpy 21 (.t 24), .ext 25 (.t 21) 0, .ext 26 (.t 21) 1, .asg 9 (.t 25), .asg 10 (.t 26)])
 (.seq (.seq (.reg [.cpy 27 (.t 7), .cpy 28 (.t 9), .call 29 32 [(.t 27), (.t 28)], .not 30 (.t 29), .cpy 31 (.t 30), .guard 31 false (some 32) (.cpy 32 (.t 8)), .guard 31 false (some 33) (.cpy 33 (.t 10)), .guard 31 false (some 34) (.bin 34 .neq (.t 32) (.t 33)), .pick 35 (.t 31) (.c (.lit (.bool true))) (.t 34)])
 (.cond (.t 35) (.seq (.reg [.asg 6 (.c (.lit (.bool false)))])
 .ret) .skip))
 (.seq (.reg [.load 37 (.t 3) (some 4), .load 38 (.t 4) (some 7), .cpy 39 (.t 2), .call 40 33 [(.t 37), (.t 38), (.t 39)], .cpy 36 (.t 40), .ext 41 (.t 36) 0, .ext 42 (.t 36) 1, .ext 43 (.t 36) 2, .asg 11 (.t 41), .asg 12 (.t 42), .asg 8 (.t 43)])
 (.seq (.reg [.load 45 (.t 3) (some 4), .load 46 (.t 4) (some 7), .cpy 47 (.t 2), .call 48 34 [(.t 45), (.t 46), (.t 47)], .cpy 44 (.t 48), .ext 49 (.t 44) 0, .ext 50 (.t 44) 1, .ext 51 (.t 44) 2, .asg 13 (.t 49), .asg 14 (.t 50), .asg 10 (.t 51)])
 (.seq (.seq (.reg [.cpy 52 (.t 11), .cpy 53 (.t 13), .call 54 25 [(.t 52), (.t 53)], .not 55 (.t 54), .cpy 56 (.t 55), .guard 56 false (some 57) (.cpy 57 (.t 12)), .guard 56 false (some 58) (.cpy 58 (.t 14)), .guard 56 false (some 59) (.call 59 25 [(.t 57), (.t 58)]), .guard 56 false (some 60) (.not 60 (.t 59)), .pick 61 (.t 56) (.c (.lit (.bool true))) (.t 60), .cpy 62 (.t 61), .guard 62 false (some 63) (.cpy 63 (.t 8)), .guard 62 false (some 64) (.cpy 64 (.t 10)), .guard 62 false (some 65) (.bin 65 .neq (.t 63) (.t 64)), .pick 66 (.t 62) (.c (.lit (.bool true))) (.t 65)])
 (.cond (.t 66) (.seq (.reg [.asg 6 (.c (.lit (.bool false)))])
 .ret) .skip))
 (.seq (.reg [.load 68 (.t 3) (some 4), .load 69 (.t 4) (some 7), .call 70 35 [(.t 68), (.t 69)], .cpy 67 (.t 70), .ext 71 (.t 67) 0, .ext 72 (.t 67) 1, .asg 11 (.t 71), .asg 8 (.t 72)])
 (.seq (.reg [.load 74 (.t 3) (some 4), .load 75 (.t 4) (some 7), .call 76 36 [(.t 74), (.t 75)], .cpy 73 (.t 76), .ext 77 (.t 73) 0, .ext 78 (.t 73) 1, .asg 13 (.t 77), .asg 10 (.t 78)])
 (.seq (.reg [.cpy 79 (.t 11), .cpy 80 (.t 13), .call 81 25 [(.t 79), (.t 80)], .cpy 82 (.t 81), .guard 82 true (some 83) (.cpy 83 (.t 8)), .guard 82 true (some 84) (.cpy 84 (.t 10)), .guard 82 true (some 85) (.bin 85 .eql (.t 83) (.t 84)), .pick 86 (.t 82) (.t 85) (.c (.lit (.bool false))), .cpy 87 (.t 86), .guard 87 true (some 88) (.call 88 19 []), .pick 89 (.t 87) (.t 88) (.c (.lit (.bool false))), .asg 6 (.t 89)])
 .ret))))))))))
def r5 : List MRes := [.tmp 6]
theorem tr5 : Try.f5.body.bind (trC Try.prog ann5 Try.f5.ntmps) = some m5 := by kernel_rfl
theorem rs5 : trRes Try.prog Try.f5.results.toList = some r5 := by kernel_rfl
theorem fn5 : isFunc Try.prog 5 = true := by kernel_rfl

/- duodecimo/duodecimoref02.Agree -/
def ann31 : Ann := { muts := [], nilsz := [(4, 4)], oid := [], frz := [], zero := [], ord := [], ap := [], own := [], yl := [], fz := [], imm := [] }
def m31 : MCode := (.seq (.reg [.boxI 2 (.t 0) 4, .boxI 3 (.t 1) 7, .asgNil 4 4, .asg 5 (.c (.lit (.int .i64 0)))])
 (.seq (.reg [.load 10 (.t 2) (some 4), .load 11 (.t 3) (some 7), .call 12 18 [(.t 10), (.t 11)], .cpy 9 (.t 12), .ext 13 (.t 9) 0, .ext 14 (.t 9) 1, .ext 15 (.t 9) 2, .asg 6 (.t 13), .asg 7 (.t 14), .asg 8 (.t 15)])
 (.seq (.seq (.reg [.cpy 16 (.t 8), .bin 17 .neq (.t 16) (.c (.lit (.int .i64 0)))])
 (.cond (.t 17) (.seq (.reg [.cpy 18 (.t 8), .asgNil 4 4, .asg 5 (.t 18)])
 .ret) .skip))
 (.seq (.reg [.load 19 (.t 2) (some 4), .load 20 (.t 3) (some 7), .call 21 79 [(.t 19), (.t 20)], .asg 4 (.t 21), .asg 5 (.c (.lit (.int .i64 0)))])
 .ret))))
def r31 : List MRes := [.tmp 4, .tmp 5]
theorem tr31 : Try.f31.body.bind (trC Try.prog ann31 Try.f31.ntmps) = some m31 := by kernel_rfl
theorem rs31 : trRes Try.prog Try.f31.results.toList = some r31 := by kernel_rfl
theorem fn31 : isFunc Try.prog 31 = true := by kernel_rfl

/- duodecimo/duodecimoref02.Together -/
def ann34 : Ann := { muts := [], nilsz := [(6, 1), (7, 1), (11, 1), (12, 1)], oid := [], frz := [], zero := [(79, [(.lit (.int .i64 0))]), (85, [(.lit (.int .i64 0))])], ord := [(16, [0, 1, 2, 3, 4, 5, 6, 7, 8, 9, 10, 11, 12, 13])], ap := [], own := [18], yl := [], fz := [], imm := [] }
def m34 : MCode := (.seq (.reg [.boxI 3 (.t 0) 4, .boxI 4 (.t 1) 7, .asgNil 6 1, .asgNil 7 1, .asg 8 (.c (.lit (.int .i64 0)))])
 (.seq (.reg [.load 20 (.t 3) (some 4), .load 21 (.t 4) (some 7), .call 22 31 [(.t 20), (.t 21)], .cpy 19 (.t 22), .ext 23 (.t 19) 0, .ext 24 (.t 19) 1, .asg 9 (.t 23), .asg 10 (.t 24)])
 (.seq (.seq (.reg [.cpy 25 (.t 10), .bin 26 .eql (.t 25) (.c (.lit (.int .i64 0))), .cpy 27 (.t 26), .guard 27 true (some 28) (.cpy 28 (.t 2)), .guard 27 true (some 29) (.addr 29 (.t 4) 0), .guard 27 true (some 30) (.load 30 (.t 29) none), .guard 27 true (some 31) (.bin 31 .sub (.t 30) (.c (.lit (.int .i64 1)))), .guard 27 true (some 32) (.call 32 60 [(.t 28), (.c (.lit (.int .i64 0))), (.t 31)]), .guard 27 true (some 33) (.not 33 (.t 32)), .pick 34 (.t 27) (.t 33) (.c (.lit (.bool false)))])
 (.cond (.t 34) (.reg [.asg 10 (.c (.lit (.int .i64 4)))]) .skip))
 (.seq (.seq (.reg [.cpy 35 (.t 10), .bin 36 .eql (.t 35) (.c (.lit (.int .i64 0))), .cpy 37 (.t 36), .guard 37 true (some 38) (.cpy 38 (.t 9)), .guard 37 true (some 39) (.len 39 (.t 38)), .guard 37 true (some 40) (.bin 40 .eql (.t 39) (.c (.lit (.int .i64 0)))), .pick 41 (.t 37) (.t 40) (.c (.lit (.bool false)))])
 (.cond (.t 41) (.reg [.asg 10 (.c (.lit (.int .i64 8)))]) .skip))
 (.seq (.seq (.reg [.cpy 42 (.t 10), .bin 43 .neq (.t 42) (.c (.lit (.int .i64 0)))])
 (.cond (.t 43) (.seq (.reg [.cpy 44 (.t 10), .asgNil 6 1, .asgNil 7 1, .asg 8 (.t 44)])
 .ret) .skip))
 (.seq (.reg [.asgNil 11 1, .asgNil 12 1])
 (.seq (.seq (.reg [.asg 13 (.c (.lit (.int .i64 0)))])
 (.block 0 (.loop (.seq (.seq (.reg [.cpy 45 (.t 13), .addr 46 (.t 4) 0, .load 47 (.t 46) none, .bin 48 .lss (.t 45) (.t 47)])
 (.cond (.t 48) .skip (.exit 0)))
 (.seq (.block 1 (.seq (.reg [.asg 14 (.c (.lit (.int .i64 0)))])
 (.seq (.seq (.reg [.asg 15 (.c (.lit (.int .i64 0)))])
 (.block 2 (.loop (.seq (.seq (.reg [.cpy 51 (.t 15), .cpy 52 (.t 9), .len 53 (.t 52), .bin 54 .lss (.t 51) (.t 53)])
 (.cond (.t 54) .skip (.exit 2)))
 (.seq (.block 3 (.seq (.reg [.load 58 (.t 3) (some 4), .cpy 59 (.t 9), .cpy 60 (.t 15), .idxS 61 (.t 59) (.t 60) 4, .load 62 (.t 61) (some 4), .cpy 63 (.t 2), .call 64 27 [(.t 58), (.t 62), (.t 63)], .cpy 57 (.t 64), .ext 65 (.t 57) 0, .ext 66 (.t 57) 1, .ext 67 (.t 57) 2, .cpyE 16 (.t 65), .cpyE 17 (.t 66), .asg 18 (.t 67)])
 (.seq (.reg [.cpy 68 (.t 16), .cpy 69 (.t 13), .call 70 47 [(.t 68), (.t 69)]])
 (.cond (.t 70) (.reg [.cpy 71 (.t 14), .bin 72 .add (.t 71) (.c (.lit (.int .i64 1))), .asg 14 (.t 72)]) .skip))))
 (.reg [.cpy 55 (.t 15), .bin 56 .add (.t 55) (.c (.lit (.int .i64 1))), .asg 15 (.t 56)]))))))
 (.seq (.seq (.reg [.cpy 73 (.t 14), .cpy 74 (.t 9), .len 75 (.t 74), .bin 76 .eql (.t 73) (.t 75)])
 (.cond (.t 76) (.reg [.cpy 77 (.t 11), .cpy 78 (.t 13), .mkS 79 1 1 [(.lit (.int .i64 0))] [(0, (.t 78))], .app 80 (.t 77) (.t 79) 1 8, .asg 11 (.t 80)]) .skip))
 (.seq (.reg [.cpy 81 (.t 14), .bin 82 .gtr (.t 81) (.c (.lit (.int .i64 0)))])
 (.cond (.t 82) (.reg [.cpy 83 (.t 12), .cpy 84 (.t 13), .mkS 85 1 1 [(.lit (.int .i64 0))] [(0, (.t 84))], .app 86 (.t 83) (.t 85) 1 8, .asg 12 (.t 86)]) .skip))))))
 (.reg [.cpy 49 (.t 13), .bin 50 .add (.t 49) (.c (.lit (.int .i64 1))), .asg 13 (.t 50)]))))))
 (.seq (.reg [.cpy 87 (.t 11), .cpy 88 (.t 12), .asg 6 (.t 87), .asg 7 (.t 88), .asg 8 (.c (.lit (.int .i64 0)))])
 .ret))))))))
def r34 : List MRes := [.tmp 6, .tmp 7, .tmp 8]
theorem tr34 : Try.f34.body.bind (trC Try.prog ann34 Try.f34.ntmps) = some m34 := by kernel_rfl
theorem rs34 : trRes Try.prog Try.f34.results.toList = some r34 := by kernel_rfl
theorem fn34 : isFunc Try.prog 34 = true := by kernel_rfl

/- duodecimo/duodecimoref02.Wrong -/
def ann36 : Ann := { muts := [], nilsz := [(4, 1), (10, 1)], oid := [], frz := [], zero := [], ord := [(10, [0, 1, 2, 3, 4, 5, 6, 7, 8, 9, 10, 11])], ap := [], own := [14], yl := [], fz := [], imm := [] }
def m36 : MCode := (.seq (.reg [.boxI 2 (.t 0) 4, .boxI 3 (.t 1) 7, .asgNil 4 1, .asg 5 (.c (.lit (.int .i64 0)))])
 (.seq (.reg [.load 16 (.t 2) (some 4), .load 17 (.t 3) (some 7), .call 18 18 [(.t 16), (.t 17)], .cpy 15 (.t 18), .ext 19 (.t 15) 0, .ext 20 (.t 15) 1, .ext 21 (.t 15) 2, .asg 6 (.t 19), .asg 7 (.t 20), .asg 8 (.t 21)])
 (.seq (.seq (.reg [.cpy 22 (.t 8), .bin 23 .neq (.t 22) (.c (.lit (.int .i64 0)))])
 (.cond (.t 23) (.seq (.reg [.cpy 24 (.t 8), .asgNil 4 1, .asg 5 (.t 24)])
 .ret) .skip))
 (.seq (.reg [.load 25 (.t 2) (some 4), .call 26 82 [(.t 25)], .asg 9 (.t 26)])
 (.seq (.reg [.asgNil 10 1])
 (.seq (.reg [.asg 11 (.c (.lit (.bool false)))])
 (.seq (.seq (.reg [.asg 12 (.c (.lit (.int .i64 0)))])
 (.block 0 (.loop (.seq (.seq (.reg [.cpy 27 (.t 12), .cpy 28 (.t 9), .len 29 (.t 28), .bin 30 .lss (.t 27) (.t 29)])
 (.cond (.t 30) .skip (.exit 0)))
 (.seq (.block 1 (.seq (.reg [.load 34 (.t 2) (some 4), .cpy 35 (.t 9), .cpy 36 (.t 12), .idxS 37 (.t 35) (.t 36) 4, .load 38 (.t 37) (some 4), .load 39 (.t 3) (some 7), .call 40 83 [(.t 34), (.t 38), (.t 39)], .cpy 33 (.t 40), .ext 41 (.t 33) 0, .ext 42 (.t 33) 1, .cpyE 13 (.t 41), .asg 14 (.t 42)])
 (.seq (.reg [.cpy 43 (.t 14), .cpy 44 (.t 43), .guard 44 true (some 45) (.cpy 45 (.t 11)), .guard 44 true (some 46) (.not 46 (.t 45)), .guard 44 true (some 47) (.cpy 47 (.t 46)), .guard 47 false (some 48) (.cpy 48 (.t 13)), .guard 47 false (some 49) (.cpy 49 (.t 10)), .guard 47 false (some 50) (.call 50 84 [(.t 48), (.t 49)]), .guard 44 true (some 51) (.pick 51 (.t 47) (.c (.lit (.bool true))) (.t 50)), .pick 52 (.t 44) (.t 51) (.c (.lit (.bool false)))])
 (.cond (.t 52) (.reg [.cpy 53 (.t 13), .asg 10 (.t 53), .asg 11 (.c (.lit (.bool true)))]) .skip))))
 (.reg [.cpy 31 (.t 12), .bin 32 .add (.t 31) (.c (.lit (.int .i64 1))), .asg 12 (.t 32)]))))))
 (.seq (.seq (.reg [.cpy 54 (.t 11), .not 55 (.t 54)])
 (.cond (.t 55) (.seq (.reg [.asgNil 4 1, .asg 5 (.c (.lit (.int .i64 9)))])
 .ret) .skip))
 (.seq (.reg [.cpy 56 (.t 10), .asg 4 (.t 56), .asg 5 (.c (.lit (.int .i64 0)))])
 .ret)))))))))
def r36 : List MRes := [.tmp 4, .tmp 5]
theorem tr36 : Try.f36.body.bind (trC Try.prog ann36 Try.f36.ntmps) = some m36 := by kernel_rfl
theorem rs36 : trRes Try.prog Try.f36.results.toList = some r36 := by kernel_rfl
theorem fn36 : isFunc Try.prog 36 = true := by kernel_rfl

/- duodecimo/duodecimoref01.Has -/
def ann47 : Ann := { muts := [], nilsz := [], oid := [], frz := [], zero := [], ord := [], ap := [], own := [], yl := [], fz := [], imm := [] }
def m47 : MCode := (.seq (.reg [.asg 4 (.c (.lit (.bool false)))])
 (.seq (.seq (.reg [.asg 5 (.c (.lit (.int .i64 0)))])
 (.block 0 (.loop (.seq (.seq (.reg [.cpy 6 (.t 5), .cpy 7 (.t 0), .len 8 (.t 7), .bin 9 .lss (.t 6) (.t 8)])
 (.cond (.t 9) .skip (.exit 0)))
 (.seq (.block 1 (.seq (.reg [.cpy 12 (.t 0), .cpy 13 (.t 5), .idxS 14 (.t 12) (.t 13) 1, .load 15 (.t 14) none, .cpy 16 (.t 1), .bin 17 .eql (.t 15) (.t 16)])
 (.cond (.t 17) (.seq (.reg [.asg 4 (.c (.lit (.bool true)))])
 .ret) .skip)))
 (.reg [.cpy 10 (.t 5), .bin 11 .add (.t 10) (.c (.lit (.int .i64 1))), .asg 5 (.t 11)]))))))
 (.seq (.reg [.asg 4 (.c (.lit (.bool false)))])
 .ret)))
def r47 : List MRes := [.tmp 4]
theorem tr47 : Try.f47.body.bind (trC Try.prog ann47 Try.f47.ntmps) = some m47 := by kernel_rfl
theorem rs47 : trRes Try.prog Try.f47.results.toList = some r47 := by kernel_rfl
theorem fn47 : isFunc Try.prog 47 = true := by kernel_rfl

/- duodecimo/duodecimoref02.Fit -/
def ann79 : Ann := { muts := [], nilsz := [(4, 4), (6, 4)], oid := [], frz := [], zero := [(39, [(.lit (.int .i64 0)), (.lit (.int .i64 0)), (.lit (.int .i64 0)), (.lit (.bool false))])], ord := [(6, [0, 1, 2, 3, 4, 5, 6, 7, 8, 9, 10, 11])], ap := [], own := [9], yl := [], fz := [], imm := [] }
def m79 : MCode := (.seq (.reg [.boxI 2 (.t 0) 4, .boxI 3 (.t 1) 7, .asgNil 4 4])
 (.seq (.reg [.load 10 (.t 2) (some 4), .call 11 82 [(.t 10)], .asg 5 (.t 11)])
 (.seq (.reg [.asgNil 6 4])
 (.seq (.seq (.reg [.asg 7 (.c (.lit (.int .i64 0)))])
 (.block 0 (.loop (.seq (.seq (.reg [.cpy 12 (.t 7), .cpy 13 (.t 5), .len 14 (.t 13), .bin 15 .lss (.t 12) (.t 14)])
 (.cond (.t 15) .skip (.exit 0)))
 (.seq (.block 1 (.seq (.reg [.load 19 (.t 2) (some 4), .cpy 20 (.t 5), .cpy 21 (.t 7), .idxS 22 (.t 20) (.t 21) 4, .load 23 (.t 22) (some 4), .load 24 (.t 3) (some 7), .call 25 83 [(.t 19), (.t 23), (.t 24)], .cpy 18 (.t 25), .ext 26 (.t 18) 0, .ext 27 (.t 18) 1, .cpyE 8 (.t 26), .asg 9 (.t 27)])
 (.seq (.reg [.cpy 28 (.t 9), .cpy 29 (.t 28), .guard 29 true (some 30) (.cpy 30 (.t 8)), .guard 29 true (some 31) (.len 31 (.t 30)), .guard 29 true (some 32) (.bin 32 .eql (.t 31) (.c (.lit (.int .i64 0)))), .pick 33 (.t 29) (.t 32) (.c (.lit (.bool false)))])
 (.cond (.t 33) (.reg [.cpy 34 (.t 6), .cpy 35 (.t 5), .cpy 36 (.t 7), .idxS 37 (.t 35) (.t 36) 4, .load 38 (.t 37) (some 4), .mkS 39 1 4 [(.lit (.int .i64 0)), (.lit (.int .i64 0)), (.lit (.int .i64 0)), (.lit (.bool false))] [(0, (.t 38))], .app 40 (.t 34) (.t 39) 4 32, .asg 6 (.t 40)]) .skip))))
 (.reg [.cpy 16 (.t 7), .bin 17 .add (.t 16) (.c (.lit (.int .i64 1))), .asg 7 (.t 17)]))))))
 (.seq (.reg [.cpy 41 (.t 6), .asg 4 (.t 41)])
 .ret)))))
def r79 : List MRes := [.tmp 4]
theorem tr79 : Try.f79.body.bind (trC Try.prog ann79 Try.f79.ntmps) = some m79 := by kernel_rfl
theorem rs79 : trRes Try.prog Try.f79.results.toList = some r79 := by kernel_rfl
theorem fn79 : isFunc Try.prog 79 = true := by kernel_rfl

/- duodecimo/duodecimoref02.Makes -/
def ann82 : Ann := { muts := [], nilsz := [(2, 4), (3, 4)], oid := [], frz := [8], zero := [(8, [(.lit (.int .i64 0)), (.lit (.int .i64 0)), (.lit (.int .i64 0)), (.lit (.bool false))]), (38, [(.lit (.int .i64 0)), (.lit (.int .i64 0)), (.lit (.int .i64 0)), (.lit (.bool false))]), (45, [(.lit (.int .i64 0)), (.lit (.int .i64 0)), (.lit (.int .i64 0)), (.lit (.bool false))])], ord := [], ap := [], own := [], yl := [], fz := [], imm := [] }
def m82 : MCode := (.seq (.reg [.boxI 1 (.t 0) 4, .asgNil 2 4])
 (.seq (.reg [.asgNil 3 4])
 (.seq (.seq (.reg [.asg 4 (.c (.lit (.int .i64 0)))])
 (.block 0 (.loop (.seq (.seq (.reg [.cpy 9 (.t 4), .addr 10 (.t 1) 0, .load 11 (.t 10) none, .len 12 (.t 11), .bin 13 .lss (.t 9) (.t 12)])
 (.cond (.t 13) .skip (.exit 0)))
 (.seq (.block 1 (.seq (.reg [.asg 5 (.c (.lit (.int .i64 0)))])
 (.block 2 (.loop (.seq (.seq (.reg [.cpy 16 (.t 5), .addr 17 (.t 1) 1, .load 18 (.t 17) none, .len 19 (.t 18), .bin 20 .lss (.t 16) (.t 19)])
 (.cond (.t 20) .skip (.exit 2)))
 (.seq (.block 3 (.seq (.reg [.asg 6 (.c (.lit (.int .i64 1)))])
 (.block 4 (.loop (.seq (.seq (.reg [.cpy 23 (.t 6), .addr 24 (.t 1) 3, .load 25 (.t 24) none, .bin 26 .leq (.t 23) (.t 25)])
 (.cond (.t 26) .skip (.exit 4)))
 (.seq (.block 5 (.seq (.reg [.asg 7 (.c (.lit (.int .i64 0)))])
 (.block 6 (.loop (.seq (.seq (.reg [.cpy 29 (.t 7), .bin 30 .lss (.t 29) (.c (.lit (.int .i64 2)))])
 (.cond (.t 30) .skip (.exit 6)))
 (.seq (.block 7 (.seq (.reg [.cpy 33 (.t 4), .cpy 34 (.t 5), .cpy 35 (.t 6), .cpy 36 (.t 7), .bin 37 .eql (.t 36) (.c (.lit (.int .i64 1))), .build 38 [(.lit (.int .i64 0)), (.lit (.int .i64 0)), (.lit (.int .i64 0)), (.lit (.bool false))] [(0, 1, (.t 33)), (1, 1, (.t 34)), (2, 1, (.t 35)), (3, 1, (.t 37))], .alloc 8 [(.lit (.int .i64 0)), (.lit (.int .i64 0)), (.lit (.int .i64 0)), (.lit (.bool false))], .storeF 8 (.t 38) 4])
 (.seq (.reg [.load 39 (.t 1) (some 4), .load 40 (.t 8) (some 4), .call 41 68 [(.t 39), (.t 40)], .bin 42 .eql (.t 41) (.c (.lit (.int .i64 0)))])
 (.cond (.t 42) (.reg [.cpy 43 (.t 3), .load 44 (.t 8) (some 4), .mkS 45 1 4 [(.lit (.int .i64 0)), (.lit (.int .i64 0)), (.lit (.int .i64 0)), (.lit (.bool false))] [(0, (.t 44))], .app 46 (.t 43) (.t 45) 4 32, .asg 3 (.t 46)]) .skip))))
 (.reg [.cpy 31 (.t 7), .bin 32 .add (.t 31) (.c (.lit (.int .i64 1))), .asg 7 (.t 32)])))))))
 (.reg [.cpy 27 (.t 6), .bin 28 .add (.t 27) (.c (.lit (.int .i64 1))), .asg 6 (.t 28)])))))))
 (.reg [.cpy 21 (.t 5), .bin 22 .add (.t 21) (.c (.lit (.int .i64 1))), .asg 5 (.t 22)])))))))
 (.reg [.cpy 14 (.t 4), .bin 15 .add (.t 14) (.c (.lit (.int .i64 1))), .asg 4 (.t 15)]))))))
 (.seq (.reg [.cpy 47 (.t 3), .asg 2 (.t 47)])
 .ret))))
def r82 : List MRes := [.tmp 2]
theorem tr82 : Try.f82.body.bind (trC Try.prog ann82 Try.f82.ntmps) = some m82 := by kernel_rfl
theorem rs82 : trRes Try.prog Try.f82.results.toList = some r82 := by kernel_rfl
theorem fn82 : isFunc Try.prog 82 = true := by kernel_rfl

/- duodecimo/duodecimoref02.Off -/
def ann83 : Ann := { muts := [], nilsz := [(6, 1), (12, 1), (17, 1)], oid := [], frz := [10], zero := [(10, [(.lit (.string ⟨#[]⟩)), (.lit (.int .i64 0)), (.lit (.int .i64 0)), (.lit (.int .i64 0)), (.lit (.int .i64 0))]), (59, [(.lit (.int .i64 0))]), (94, [(.lit (.int .i64 0))]), (106, [(.lit (.int .i64 0))]), (146, [(.lit (.int .i64 0))])], ord := [(4, [0, 1, 2, 3, 4, 5, 6, 7, 8, 9, 10, 11, 12, 13, 14, 15]), (21, [0, 1, 2, 3, 4, 5, 6, 7, 8, 9, 10, 11, 12, 13])], ap := [], own := [20], yl := [], fz := [], imm := [] }
def m83 : MCode := (.seq (.reg [.boxI 3 (.t 0) 4, .boxI 4 (.t 1) 4, .boxI 5 (.t 2) 7, .asgNil 6 1, .asg 7 (.c (.lit (.bool false)))])
 (.seq (.reg [.load 22 (.t 3) (some 4), .load 23 (.t 4) (some 4), .call 24 69 [(.t 22), (.t 23)], .asg 8 (.t 24)])
 (.seq (.seq (.reg [.cpy 25 (.t 8), .len 26 (.t 25), .addr 27 (.t 5) 0, .load 28 (.t 27) none, .bin 29 .neq (.t 26) (.t 28)])
 (.cond (.t 29) (.seq (.reg [.asgNil 6 1, .asg 7 (.c (.lit (.bool false)))])
 .ret) .skip))
 (.seq (.reg [.addr 30 (.t 3) 0, .load 31 (.t 30) none, .addr 32 (.t 4) 0, .load 33 (.t 32) none, .idxS 34 (.t 31) (.t 33) 2, .addr 35 (.t 34) 1, .load 36 (.t 35) none, .addr 37 (.t 3) 1, .load 38 (.t 37) none, .addr 39 (.t 4) 1, .load 40 (.t 39) none, .idxS 41 (.t 38) (.t 40) 5, .load 42 (.t 41) (some 5), .alloc 10 [(.lit (.string ⟨#[]⟩)), (.lit (.int .i64 0)), (.lit (.int .i64 0)), (.lit (.int .i64 0)), (.lit (.int .i64 0))], .cpyE 9 (.t 36), .storeF 10 (.t 42) 5])
 (.seq (.reg [.asg 11 (.c (.lit (.int .i64 2)))])
 (.seq (.seq (.reg [.cpy 43 (.t 9), .cpy 44 (.t 9), .lenStr 45 (.t 44), .bin 46 .sub (.t 45) (.c (.lit (.int .i64 1))), .idxStr 47 (.t 43) (.t 46), .bin 48 .eql (.t 47) (.c (.lit (.int .u8 120)))])
 (.cond (.t 48) (.reg [.asg 11 (.c (.lit (.int .i64 1)))]) .skip))
 (.seq (.reg [.asgNil 12 1])
 (.seq (.seq (.reg [.addr 49 (.t 5) 1, .load 50 (.t 49) none, .bin 51 .neq (.t 50) (.c (.lit (.int .i64 0))), .cpy 52 (.t 51), .guard 52 true (some 53) (.addr 53 (.t 5) 1), .guard 52 true (some 54) (.load 54 (.t 53) none), .guard 52 true (some 55) (.cpy 55 (.t 11)), .guard 52 true (some 56) (.bin 56 .neq (.t 54) (.t 55)), .pick 57 (.t 52) (.t 56) (.c (.lit (.bool false)))])
 (.cond (.t 57) (.reg [.cpy 58 (.t 12), .mkS 59 1 1 [(.lit (.int .i64 0))] [(0, (.c (.lit (.int .i64 0))))], .app 60 (.t 58) (.t 59) 1 8, .asg 12 (.t 60)]) .skip))
 (.seq (.reg [.load 62 (.t 3) (some 4), .load 63 (.t 4) (some 4), .addr 64 (.t 10) 1, .addr 65 (.t 64) 0, .load 66 (.t 65) none, .addr 67 (.t 10) 3, .addr 68 (.t 67) 0, .load 69 (.t 68) none, .call 70 86 [(.t 62), (.t 63), (.t 66), (.t 69)], .cpy 61 (.t 70), .ext 71 (.t 61) 0, .ext 72 (.t 61) 1, .asg 13 (.t 71), .asg 14 (.t 72)])
 (.seq (.reg [.load 74 (.t 3) (some 4), .load 75 (.t 4) (some 4), .addr 76 (.t 10) 1, .addr 77 (.t 76) 1, .load 78 (.t 77) none, .addr 79 (.t 10) 3, .addr 80 (.t 79) 1, .load 81 (.t 80) none, .call 82 86 [(.t 74), (.t 75), (.t 78), (.t 81)], .cpy 73 (.t 82), .ext 83 (.t 73) 0, .ext 84 (.t 73) 1, .asg 15 (.t 83), .asg 16 (.t 84)])
 (.seq (.seq (.reg [.cpy 85 (.t 13), .cpy 86 (.t 15), .addr 87 (.t 3) 2, .load 88 (.t 87) none, .addr 89 (.t 5) 2, .load 90 (.t 89) (some 2), .call 91 105 [(.t 85), (.t 86), (.t 88), (.t 90)], .not 92 (.t 91)])
 (.cond (.t 92) (.reg [.cpy 93 (.t 12), .mkS 94 1 1 [(.lit (.int .i64 0))] [(0, (.c (.lit (.int .i64 1))))], .app 95 (.t 93) (.t 94) 1 8, .asg 12 (.t 95)]) .skip))
 (.seq (.seq (.reg [.cpy 96 (.t 14), .cpy 97 (.t 16), .addr 98 (.t 3) 2, .load 99 (.t 98) none, .bin 100 .mul (.c (.lit (.int .i64 2))) (.t 99), .addr 101 (.t 5) 4, .load 102 (.t 101) (some 2), .call 103 105 [(.t 96), (.t 97), (.t 100), (.t 102)], .not 104 (.t 103)])
 (.cond (.t 104) (.reg [.cpy 105 (.t 12), .mkS 106 1 1 [(.lit (.int .i64 0))] [(0, (.c (.lit (.int .i64 2))))], .app 107 (.t 105) (.t 106) 1 8, .asg 12 (.t 107)]) .skip))
 (.seq (.reg [.asgNil 17 1])
 (.seq (.seq (.reg [.asg 18 (.c (.lit (.int .i64 0)))])
 (.block 0 (.loop (.seq (.seq (.reg [.cpy 108 (.t 18), .addr 109 (.t 4) 2, .load 110 (.t 109) none, .bin 111 .lss (.t 108) (.t 110)])
 (.cond (.t 111) .skip (.exit 0)))
 (.seq (.block 1 (.seq (.reg [.load 114 (.t 3) (some 4), .load 115 (.t 4) (some 4), .cpy 116 (.t 8), .load 117 (.t 5) (some 7), .cpy 118 (.t 18), .call 119 106 [(.t 114), (.t 115), (.t 116), (.t 117), (.t 118), (.c (.lit (.int .i64 0)))], .load 120 (.t 3) (some 4), .load 121 (.t 4) (some 4), .cpy 122 (.t 8), .load 123 (.t 5) (some 7), .cpy 124 (.t 18), .call 125 106 [(.t 120), (.t 121), (.t 122), (.t 123), (.t 124), (.c (.lit (.int .i64 1)))], .cpyE 19 (.t 119), .asg 20 (.t 125)])
 (.seq (.seq (.reg [.cpy 126 (.t 20), .cpy 127 (.t 19), .call 128 84 [(.t 126), (.t 127)]])
 (.cond (.t 128) (.reg [.cpy 129 (.t 20), .asg 19 (.t 129)]) .skip))
 (.reg [.cpy 130 (.t 17), .cpy 131 (.t 19), .app 132 (.t 130) (.t 131) 1 8, .asg 17 (.t 132)]))))
 (.reg [.cpy 112 (.t 18), .bin 113 .add (.t 112) (.c (.lit (.int .i64 1))), .asg 18 (.t 113)]))))))
 (.seq (.seq (.reg [.asg 21 (.c (.lit (.int .i64 3)))])
 (.block 2 (.loop (.seq (.seq (.reg [.cpy 133 (.t 21), .addr 134 (.t 5) 6, .load 135 (.t 134) none, .len 136 (.t 135), .bin 137 .add (.c (.lit (.int .i64 3))) (.t 136), .bin 138 .lss (.t 133) (.t 137)])
 (.cond (.t 138) .skip (.exit 2)))
 (.seq (.block 3 (.seq (.reg [.cpy 141 (.t 17), .cpy 142 (.t 21), .call 143 47 [(.t 141), (.t 142)]])
 (.cond (.t 143) (.reg [.cpy 144 (.t 12), .cpy 145 (.t 21), .mkS 146 1 1 [(.lit (.int .i64 0))] [(0, (.t 145))], .app 147 (.t 144) (.t 146) 1 8, .asg 12 (.t 147)]) .skip)))
 (.reg [.cpy 139 (.t 21), .bin 140 .add (.t 139) (.c (.lit (.int .i64 1))), .asg 21 (.t 140)]))))))
 (.seq (.reg [.cpy 148 (.t 12), .asg 6 (.t 148), .asg 7 (.c (.lit (.bool true)))])
 .ret))))))))))))))))
def r83 : List MRes := [.tmp 6, .tmp 7]
theorem tr83 : Try.f83.body.bind (trC Try.prog ann83 Try.f83.ntmps) = some m83 := by kernel_rfl
theorem rs83 : trRes Try.prog Try.f83.results.toList = some r83 := by kernel_rfl
theorem fn83 : isFunc Try.prog 83 = true := by kernel_rfl

/- duodecimo/duodecimoref02.less -/
def ann84 : Ann := { muts := [], nilsz := [], oid := [], frz := [], zero := [], ord := [(6, [0, 1, 2, 3, 4, 5, 6, 7, 8]), (7, [0, 1, 2, 3, 4, 5, 6, 7, 8, 9])], ap := [], own := [4], yl := [], fz := [], imm := [] }
def m84 : MCode := (.seq (.reg [.asg 4 (.c (.lit (.bool false)))])
 (.seq (.seq (.reg [.cpy 6 (.t 0), .len 7 (.t 6), .cpy 8 (.t 1), .len 9 (.t 8), .bin 10 .neq (.t 7) (.t 9)])
 (.cond (.t 10) (.seq (.reg [.cpy 11 (.t 0), .len 12 (.t 11), .cpy 13 (.t 1), .len 14 (.t 13), .bin 15 .lss (.t 12) (.t 14), .asg 4 (.t 15)])
 .ret) .skip))
 (.seq (.seq (.reg [.asg 5 (.c (.lit (.int .i64 0)))])
 (.block 0 (.loop (.seq (.seq (.reg [.cpy 16 (.t 5), .cpy 17 (.t 0), .len 18 (.t 17), .bin 19 .lss (.t 16) (.t 18)])
 (.cond (.t 19) .skip (.exit 0)))
 (.seq (.block 1 (.seq (.reg [.cpy 22 (.t 0), .cpy 23 (.t 5), .idxS 24 (.t 22) (.t 23) 1, .load 25 (.t 24) none, .cpy 26 (.t 1), .cpy 27 (.t 5), .idxS 28 (.t 26) (.t 27) 1, .load 29 (.t 28) none, .bin 30 .neq (.t 25) (.t 29)])
 (.cond (.t 30) (.seq (.reg [.cpy 31 (.t 0), .cpy 32 (.t 5), .idxS 33 (.t 31) (.t 32) 1, .load 34 (.t 33) none, .cpy 35 (.t 1), .cpy 36 (.t 5), .idxS 37 (.t 35) (.t 36) 1, .load 38 (.t 37) none, .bin 39 .lss (.t 34) (.t 38), .asg 4 (.t 39)])
 .ret) .skip)))
 (.reg [.cpy 20 (.t 5), .bin 21 .add (.t 20) (.c (.lit (.int .i64 1))), .asg 5 (.t 21)]))))))
 (.seq (.reg [.asg 4 (.c (.lit (.bool false)))])
 .ret))))
def r84 : List MRes := [.tmp 4]
theorem tr84 : Try.f84.body.bind (trC Try.prog ann84 Try.f84.ntmps) = some m84 := by kernel_rfl
theorem rs84 : trRes Try.prog Try.f84.results.toList = some r84 := by kernel_rfl
theorem fn84 : isFunc Try.prog 84 = true := by kernel_rfl

/- duodecimo/duodecimoref02.Size -/
def ann86 : Ann := { muts := [], nilsz := [], oid := [], frz := [], zero := [], ord := [(2, [0, 1, 2, 3, 4, 5, 6, 7, 8, 9])], ap := [], own := [12], yl := [], fz := [], imm := [] }
def m86 : MCode := (.seq (.reg [.boxI 4 (.t 0) 4, .boxI 5 (.t 1) 4, .asg 8 (.c (.lit (.int .i64 0))), .asg 9 (.c (.lit (.int .i64 0)))])
 (.seq (.reg [.addr 13 (.t 4) 0, .load 14 (.t 13) none, .addr 15 (.t 5) 0, .load 16 (.t 15) none, .idxS 17 (.t 14) (.t 16) 2, .addr 18 (.t 17) 1, .load 19 (.t 18) none, .asg 10 (.t 19)])
 (.seq (.reg [.cpy 20 (.t 2), .cpy 21 (.t 10), .call 22 72 [(.t 21), (.c (.lit (.int .u8 120)))], .bin 23 .quo (.t 20) (.t 22), .cpy 24 (.t 3), .cpy 25 (.t 10), .call 26 72 [(.t 25), (.c (.lit (.int .u8 121)))], .bin 27 .quo (.t 24) (.t 26), .cpyE 11 (.t 23), .asg 12 (.t 27)])
 (.seq (.seq (.reg [.cpy 28 (.t 10), .cpy 29 (.t 10), .lenStr 30 (.t 29), .bin 31 .sub (.t 30) (.c (.lit (.int .i64 1))), .idxStr 32 (.t 28) (.t 31), .bin 33 .eql (.t 32) (.c (.lit (.int .u8 120)))])
 (.cond (.t 33) (.seq (.reg [.cpy 34 (.t 11), .cpy 35 (.t 12), .asg 8 (.t 34), .asg 9 (.t 35)])
 .ret) .skip))
 (.seq (.reg [.cpy 36 (.t 12), .cpy 37 (.t 11), .asg 8 (.t 36), .asg 9 (.t 37)])
 .ret)))))
def r86 : List MRes := [.tmp 8, .tmp 9]
theorem tr86 : Try.f86.body.bind (trC Try.prog ann86 Try.f86.ntmps) = some m86 := by kernel_rfl
theorem rs86 : trRes Try.prog Try.f86.results.toList = some r86 := by kernel_rfl
theorem fn86 : isFunc Try.prog 86 = true := by kernel_rfl

/- duodecimo/duodecimoref02.met -/
def ann105 : Ann := { muts := [], nilsz := [], oid := [], frz := [], zero := [], ord := [], ap := [], own := [], yl := [], fz := [], imm := [] }
def m105 : MCode := (.seq (.reg [.boxI 7 (.t 3) 2, .asg 8 (.c (.lit (.bool false)))])
 (.seq (.reg [.cpy 9 (.t 0), .cpy 10 (.t 2), .bin 11 .sub (.t 9) (.t 10), .addr 12 (.t 7) 1, .load 13 (.t 12) none, .bin 14 .leq (.t 11) (.t 13), .cpy 15 (.t 14), .guard 15 true (some 16) (.cpy 16 (.t 1)), .guard 15 true (some 17) (.addr 17 (.t 7) 0), .guard 15 true (some 18) (.load 18 (.t 17) none), .guard 15 true (some 19) (.bin 19 .geq (.t 16) (.t 18)), .pick 20 (.t 15) (.t 19) (.c (.lit (.bool false))), .asg 8 (.t 20)])
 .ret))
def r105 : List MRes := [.tmp 8]
theorem tr105 : Try.f105.body.bind (trC Try.prog ann105 Try.f105.ntmps) = some m105 := by kernel_rfl
theorem rs105 : trRes Try.prog Try.f105.results.toList = some r105 := by kernel_rfl
theorem fn105 : isFunc Try.prog 105 = true := by kernel_rfl

/- duodecimo/duodecimoref02.untrue -/
def ann106 : Ann := { muts := [], nilsz := [(12, 1), (13, 1)], oid := [], frz := [15], zero := [(15, [(.lit (.int .i64 0)), (.lit (.int .i64 0)), (.lit (.int .i64 0)), (.lit (.bool false)), (.lit (.bool false))]), (53, [(.lit (.int .i64 0))])], ord := [(6, [0, 1, 2, 3, 4, 5, 6, 7, 8, 9, 10, 11, 12, 13, 14, 15, 16, 17])], ap := [], own := [], yl := [], fz := [], imm := [] }
def m106 : MCode := (.seq (.reg [.boxI 6 (.t 0) 4, .boxI 7 (.t 1) 4, .boxI 9 (.t 3) 7, .asgNil 12 1])
 (.seq (.reg [.asgNil 13 1])
 (.seq (.seq (.reg [.asg 14 (.c (.lit (.int .i64 0)))])
 (.block 0 (.loop (.seq (.seq (.reg [.cpy 16 (.t 14), .addr 17 (.t 9) 6, .load 18 (.t 17) none, .len 19 (.t 18), .bin 20 .lss (.t 16) (.t 19)])
 (.cond (.t 20) .skip (.exit 0)))
 (.seq (.block 1 (.seq (.reg [.cpy 23 (.t 2), .addr 24 (.t 9) 6, .load 25 (.t 24) none, .cpy 26 (.t 14), .idxS 27 (.t 25) (.t 26) 2, .addr 28 (.t 27) 0, .load 29 (.t 28) none, .idxS 30 (.t 23) (.t 29) 5, .load 31 (.t 30) (some 5), .alloc 15 [(.lit (.int .i64 0)), (.lit (.int .i64 0)), (.lit (.int .i64 0)), (.lit (.bool false)), (.lit (.bool false))], .storeF 15 (.t 31) 5])
 (.seq (.reg [.addr 32 (.t 15) 0, .load 33 (.t 32) none, .cpy 34 (.t 4), .bin 35 .eql (.t 33) (.t 34), .cpy 36 (.t 35), .guard 36 true (some 37) (.load 37 (.t 6) (some 4)), .guard 36 true (some 38) (.load 38 (.t 7) (some 4)), .guard 36 true (some 39) (.load 39 (.t 15) (some 5)), .guard 36 true (some 40) (.cpy 40 (.t 5)), .guard 36 true (some 41) (.call 41 75 [(.t 37), (.t 38), (.t 39), (.t 40)]), .guard 36 true (some 42) (.addr 42 (.t 9) 6), .guard 36 true (some 43) (.load 43 (.t 42) none), .guard 36 true (some 44) (.cpy 44 (.t 14)), .guard 36 true (some 45) (.idxS 45 (.t 43) (.t 44) 2), .guard 36 true (some 46) (.addr 46 (.t 45) 1), .guard 36 true (some 47) (.load 47 (.t 46) none), .guard 36 true (some 48) (.binB 48 true (.t 41) (.t 47)), .pick 49 (.t 36) (.t 48) (.c (.lit (.bool false)))])
 (.cond (.t 49) (.reg [.cpy 50 (.t 13), .cpy 51 (.t 14), .bin 52 .add (.c (.lit (.int .i64 3))) (.t 51), .mkS 53 1 1 [(.lit (.int .i64 0))] [(0, (.t 52))], .app 54 (.t 50) (.t 53) 1 8, .asg 13 (.t 54)]) .skip))))
 (.reg [.cpy 21 (.t 14), .bin 22 .add (.t 21) (.c (.lit (.int .i64 1))), .asg 14 (.t 22)]))))))
 (.seq (.reg [.cpy 55 (.t 13), .asg 12 (.t 55)])
 .ret))))
def r106 : List MRes := [.tmp 12]
theorem tr106 : Try.f106.body.bind (trC Try.prog ann106 Try.f106.ntmps) = some m106 := by kernel_rfl
theorem rs106 : trRes Try.prog Try.f106.results.toList = some r106 := by kernel_rfl
theorem fn106 : isFunc Try.prog 106 = true := by kernel_rfl
end Go.Proofs.Ytcfeipphmklakaa

namespace Go.Proofs.Ytcfeipphmklakaa
open Go.Avm

/- duodecimo/duodecimolaw02.valid -/
def ann42 : Ann := { muts := [], nilsz := [], oid := [], frz := [], zero := [], ord := [], ap := [], own := [], yl := [], fz := [], imm := [] }
def m42 : MCode := (.seq (.reg [.boxI 1 (.t 0) 4, .asg 2 (.c (.lit (.bool false)))])
 (.seq (.reg [.load 7 (.t 1) (some 4), .call 8 16 [(.t 7)], .cpy 6 (.t 8), .ext 9 (.t 6) 0, .ext 10 (.t 6) 1, .ext 11 (.t 6) 2, .asg 3 (.t 9), .asg 4 (.t 10), .asg 5 (.t 11)])
 (.seq (.reg [.cpy 12 (.t 5), .bin 13 .eql (.t 12) (.c (.lit (.int .i64 0))), .asg 2 (.t 13)])
 .ret)))
def r42 : List MRes := [.tmp 2]
theorem tr42 : Try.f42.body.bind (trC Try.prog ann42 Try.f42.ntmps) = some m42 := by kernel_rfl
theorem rs42 : trRes Try.prog Try.f42.results.toList = some r42 := by kernel_rfl
theorem fn42 : isFunc Try.prog 42 = true := by kernel_rfl

/- duodecimo/duodecimolaw02.one -/
def ann44 : Ann := { muts := [], nilsz := [], oid := [], frz := [], zero := [], ord := [(4, [0, 1, 2, 3, 4, 5])], ap := [], own := [], yl := [], fz := [], imm := [] }
def m44 : MCode := (.seq (.reg [.boxI 3 (.t 1) 4, .asg 4 (.c (.lit (.bool false)))])
 (.seq (.seq (.reg [.asg 5 (.c (.lit (.int .i64 0)))])
 (.block 0 (.loop (.seq (.seq (.reg [.cpy 6 (.t 5), .cpy 7 (.t 0), .len 8 (.t 7), .bin 9 .lss (.t 6) (.t 8)])
 (.cond (.t 9) .skip (.exit 0)))
 (.seq (.block 1 (.seq (.reg [.cpy 12 (.t 0), .cpy 13 (.t 5), .idxS 14 (.t 12) (.t 13) 4, .load 15 (.t 14) (some 4), .load 16 (.t 3) (some 4), .binA 17 false [false, false, false, true] (.t 15) (.t 16)])
 (.cond (.t 17) (.seq (.reg [.asg 4 (.c (.lit (.bool true)))])
 .ret) .skip)))
 (.reg [.cpy 10 (.t 5), .bin 11 .add (.t 10) (.c (.lit (.int .i64 1))), .asg 5 (.t 11)]))))))
 (.seq (.reg [.asg 4 (.c (.lit (.bool false)))])
 .ret)))
def r44 : List MRes := [.tmp 4]
theorem tr44 : Try.f44.body.bind (trC Try.prog ann44 Try.f44.ntmps) = some m44 := by kernel_rfl
theorem rs44 : trRes Try.prog Try.f44.results.toList = some r44 := by kernel_rfl
theorem fn44 : isFunc Try.prog 44 = true := by kernel_rfl

/- duodecimo/duodecimolaw02.part -/
def ann45 : Ann := { muts := [], nilsz := [], oid := [], frz := [], zero := [], ord := [], ap := [], own := [], yl := [], fz := [], imm := [] }
def m45 : MCode := (.seq (.reg [.asg 4 (.c (.lit (.bool false)))])
 (.seq (.seq (.reg [.asg 5 (.c (.lit (.int .i64 0)))])
 (.block 0 (.loop (.seq (.seq (.reg [.cpy 6 (.t 5), .cpy 7 (.t 0), .len 8 (.t 7), .bin 9 .lss (.t 6) (.t 8)])
 (.cond (.t 9) .skip (.exit 0)))
 (.seq (.block 1 (.seq (.reg [.cpy 12 (.t 1), .cpy 13 (.t 0), .cpy 14 (.t 5), .idxS 15 (.t 13) (.t 14) 1, .load 16 (.t 15) none, .call 17 47 [(.t 12), (.t 16)], .not 18 (.t 17)])
 (.cond (.t 18) (.seq (.reg [.asg 4 (.c (.lit (.bool false)))])
 .ret) .skip)))
 (.reg [.cpy 10 (.t 5), .bin 11 .add (.t 10) (.c (.lit (.int .i64 1))), .asg 5 (.t 11)]))))))
 (.seq (.reg [.asg 4 (.c (.lit (.bool true)))])
 .ret)))
def r45 : List MRes := [.tmp 4]
theorem tr45 : Try.f45.body.bind (trC Try.prog ann45 Try.f45.ntmps) = some m45 := by kernel_rfl
theorem rs45 : trRes Try.prog Try.f45.results.toList = some r45 := by kernel_rfl
theorem fn45 : isFunc Try.prog 45 = true := by kernel_rfl

/- duodecimo/duodecimolaw02.Made -/
def ann46 : Ann := { muts := [], nilsz := [], oid := [], frz := [4], zero := [(4, [(.lit (.int .i64 0)), (.lit (.int .i64 0)), (.lit (.int .i64 0)), (.lit (.bool false))])], ord := [], ap := [], own := [], yl := [], fz := [], imm := [] }
def m46 : MCode := (.seq (.reg [.boxI 2 (.t 0) 4, .alloc 4 [(.lit (.int .i64 0)), (.lit (.int .i64 0)), (.lit (.int .i64 0)), (.lit (.bool false))]])
 (.seq (.reg [.load 6 (.t 2) (some 4), .call 7 82 [(.t 6)], .asg 5 (.t 7)])
 (.seq (.reg [.cpy 8 (.t 5), .cpy 9 (.t 1), .cpy 10 (.t 5), .len 11 (.t 10), .bin 12 .rem (.t 9) (.t 11), .idxS 13 (.t 8) (.t 12) 4, .load 14 (.t 13) (some 4), .storeF 4 (.t 14) 4])
 .ret)))
def r46 : List MRes := [.cell 4 (some 4)]
theorem tr46 : Try.f46.body.bind (trC Try.prog ann46 Try.f46.ntmps) = some m46 := by kernel_rfl
theorem rs46 : trRes Try.prog Try.f46.results.toList = some r46 := by kernel_rfl
theorem fn46 : isFunc Try.prog 46 = true := by kernel_rfl

/- duodecimo/duodecimolaw02.halves -/
def ann48 : Ann := { muts := [], nilsz := [(4, 1), (5, 1)], oid := [], frz := [], zero := [(18, [(.lit (.int .i64 0))])], ord := [], ap := [], own := [], yl := [], fz := [], imm := [] }
def m48 : MCode := (.seq (.reg [.boxI 2 (.t 0) 4, .asgNil 4 1])
 (.seq (.reg [.asgNil 5 1])
 (.seq (.seq (.reg [.asg 6 (.c (.lit (.int .i64 0)))])
 (.block 0 (.loop (.seq (.seq (.reg [.cpy 7 (.t 6), .addr 8 (.t 2) 2, .load 9 (.t 8) none, .bin 10 .lss (.t 7) (.t 9)])
 (.cond (.t 10) .skip (.exit 0)))
 (.seq (.block 1 (.reg [.cpy 13 (.t 5), .cpy 14 (.t 1), .cpy 15 (.t 6), .call 16 85 [(.t 14), (.t 15)], .bin 17 .rem (.t 16) (.c (.lit (.int .i64 2))), .mkS 18 1 1 [(.lit (.int .i64 0))] [(0, (.t 17))], .app 19 (.t 13) (.t 18) 1 8, .asg 5 (.t 19)]))
 (.reg [.cpy 11 (.t 6), .bin 12 .add (.t 11) (.c (.lit (.int .i64 1))), .asg 6 (.t 12)]))))))
 (.seq (.reg [.cpy 20 (.t 5), .asg 4 (.t 20)])
 .ret))))
def r48 : List MRes := [.tmp 4]
theorem tr48 : Try.f48.body.bind (trC Try.prog ann48 Try.f48.ntmps) = some m48 := by kernel_rfl
theorem rs48 : trRes Try.prog Try.f48.results.toList = some r48 := by kernel_rfl
theorem fn48 : isFunc Try.prog 48 = true := by kernel_rfl

/- duodecimo/duodecimolaw02.good -/
def ann49 : Ann := { muts := [], nilsz := [], oid := [], frz := [], zero := [], ord := [], ap := [], own := [], yl := [], fz := [], imm := [] }
def m49 : MCode := (.seq (.reg [.boxI 2 (.t 0) 4, .boxI 3 (.t 1) 7, .asg 4 (.c (.lit (.bool false)))])
 (.seq (.reg [.load 9 (.t 2) (some 4), .load 10 (.t 3) (some 7), .call 11 18 [(.t 9), (.t 10)], .cpy 8 (.t 11), .ext 12 (.t 8) 0, .ext 13 (.t 8) 1, .ext 14 (.t 8) 2, .asg 5 (.t 12), .asg 6 (.t 13), .asg 7 (.t 14)])
 (.seq (.reg [.cpy 15 (.t 7), .bin 16 .eql (.t 15) (.c (.lit (.int .i64 0))), .asg 4 (.t 16)])
 .ret)))
def r49 : List MRes := [.tmp 4]
theorem tr49 : Try.f49.body.bind (trC Try.prog ann49 Try.f49.ntmps) = some m49 := by kernel_rfl
theorem rs49 : trRes Try.prog Try.f49.results.toList = some r49 := by kernel_rfl
theorem fn49 : isFunc Try.prog 49 = true := by kernel_rfl

/- duodecimo/duodecimolaw02.without -/
def ann50 : Ann := { muts := [], nilsz := [(1000008, 2)], oid := [(8, 6006), (41, 6006)], frz := [4], zero := [(4, [(.lit (.int .i64 0)), (.lit (.int .i64 0)), (.lit (.int .i64 0)), (.lit (.int .i64 0)), (.lit (.int .i64 0)), (.lit (.int .i64 0)), (.slice 2 [] 5006)]), (5, [(.lit (.int .i64 0)), (.lit (.int .i64 0)), (.lit (.int .i64 0)), (.lit (.int .i64 0)), (.lit (.int .i64 0)), (.lit (.int .i64 0)), (.slice 2 [] 6006)]), (39, [(.lit (.int .i64 0)), (.lit (.bool false))])], ord := [(13, [0, 1, 2, 3, 4, 5, 6, 7, 8, 9, 10])], ap := [(41, [])], own := [], yl := [], fz := [], imm := [] }
def m50 : MCode := (.seq (.reg [.boxI 2 (.t 0) 7, .alloc 4 [(.lit (.int .i64 0)), (.lit (.int .i64 0)), (.lit (.int .i64 0)), (.lit (.int .i64 0)), (.lit (.int .i64 0)), (.lit (.int .i64 0)), (.slice 2 [] 5006)]])
 (.seq (.reg [.load 7 (.t 2) (some 7), .alloc 5 [(.lit (.int .i64 0)), (.lit (.int .i64 0)), (.lit (.int .i64 0)), (.lit (.int .i64 0)), (.lit (.int .i64 0)), (.lit (.int .i64 0)), (.slice 2 [] 6006)], .store (.t 5) (.t 7) 7 0])
 (.seq (.reg [.addr 8 (.t 5) 6, .storeNil (.t 8) 2 6006])
 (.seq (.seq (.reg [.cpy 9 (.t 1), .call 10 47 [(.t 9), (.c (.lit (.int .i64 0)))]])
 (.cond (.t 10) (.reg [.addr 11 (.t 5) 1, .store (.t 11) (.c (.lit (.int .i64 0))) 1 0]) .skip))
 (.seq (.seq (.reg [.cpy 12 (.t 1), .call 13 47 [(.t 12), (.c (.lit (.int .i64 1)))]])
 (.cond (.t 13) (.reg [.call 14 41 [], .addr 15 (.t 5) 2, .store (.t 15) (.t 14) 2 0]) .skip))
 (.seq (.seq (.reg [.cpy 16 (.t 1), .call 17 47 [(.t 16), (.c (.lit (.int .i64 2)))]])
 (.cond (.t 17) (.reg [.call 18 41 [], .addr 19 (.t 5) 4, .store (.t 19) (.t 18) 2 0]) .skip))
 (.seq (.seq (.reg [.asg 6 (.c (.lit (.int .i64 0)))])
 (.block 0 (.loop (.seq (.seq (.reg [.cpy 20 (.t 6), .addr 21 (.t 2) 6, .load 22 (.t 21) none, .len 23 (.t 22), .bin 24 .lss (.t 20) (.t 23)])
 (.cond (.t 24) .skip (.exit 0)))
 (.seq (.block 1 (.seq (.reg [.cpy 27 (.t 1), .cpy 28 (.t 6), .bin 29 .add (.c (.lit (.int .i64 3))) (.t 28), .call 30 47 [(.t 27), (.t 29)], .not 31 (.t 30)])
 (.cond (.t 31) (.reg [.addr 32 (.t 5) 6, .load 33 (.t 32) none, .addr 34 (.t 2) 6, .load 35 (.t 34) none, .cpy 36 (.t 6), .idxS 37 (.t 35) (.t 36) 2, .load 38 (.t 37) (some 2), .mkS 39 1 2 [(.lit (.int .i64 0)), (.lit (.bool false))] [(0, (.t 38))], .app 40 (.t 33) (.t 39) 2 16, .addr 41 (.t 5) 6, .apart [] (.t 41) (.store (.t 41) (.t 40) 1 6006)]) .skip)))
 (.reg [.cpy 25 (.t 6), .bin 26 .add (.t 25) (.c (.lit (.int .i64 1))), .asg 6 (.t 26)]))))))
 (.seq (.reg [.load 42 (.t 5) (some 7), .storeF 4 (.t 42) 7])
 .ret))))))))
def r50 : List MRes := [.cell 4 (some 7)]
theorem tr50 : Try.f50.body.bind (trC Try.prog ann50 Try.f50.ntmps) = some m50 := by kernel_rfl
theorem rs50 : trRes Try.prog Try.f50.results.toList = some r50 := by kernel_rfl
theorem fn50 : isFunc Try.prog 50 = true := by kernel_rfl

/- duodecimo/duodecimolaw02.turn -/
def ann85 : Ann := { muts := [], nilsz := [], oid := [], frz := [], zero := [], ord := [], ap := [], own := [], yl := [], fz := [], imm := [] }
def m85 : MCode := (.seq (.reg [.asg 4 (.c (.lit (.int .i64 0)))])
 (.seq (.seq (.reg [.cpy 5 (.t 0), .len 6 (.t 5), .bin 7 .eql (.t 6) (.c (.lit (.int .i64 0)))])
 (.cond (.t 7) (.seq (.reg [.asg 4 (.c (.lit (.int .i64 0)))])
 .ret) .skip))
 (.seq (.reg [.cpy 8 (.t 0), .cpy 9 (.t 1), .cpy 10 (.t 0), .len 11 (.t 10), .bin 12 .rem (.t 9) (.t 11), .idxS 13 (.t 8) (.t 12) 1, .load 14 (.t 13) none, .conv 15 .i64 (.t 14), .asg 4 (.t 15)])
 .ret)))
def r85 : List MRes := [.tmp 4]
theorem tr85 : Try.f85.body.bind (trC Try.prog ann85 Try.f85.ntmps) = some m85 := by kernel_rfl
theorem rs85 : trRes Try.prog Try.f85.results.toList = some r85 := by kernel_rfl
theorem fn85 : isFunc Try.prog 85 = true := by kernel_rfl

/- duodecimo/duodecimolaw02.among -/
def ann87 : Ann := { muts := [], nilsz := [], oid := [], frz := [], zero := [], ord := [(1, [0, 1, 2, 3, 4, 5, 6, 7, 8, 9, 10, 11])], ap := [], own := [4], yl := [], fz := [], imm := [] }
def m87 : MCode := (.seq (.reg [.boxI 2 (.t 0) 2, .asg 4 (.c (.lit (.int .i64 0)))])
 (.seq (.reg [.addr 5 (.t 2) 0, .load 6 (.t 5) none, .cpy 7 (.t 1), .addr 8 (.t 2) 1, .load 9 (.t 8) none, .addr 10 (.t 2) 0, .load 11 (.t 10) none, .bin 12 .sub (.t 9) (.t 11), .bin 13 .add (.t 12) (.c (.lit (.int .i64 1))), .bin 14 .rem (.t 7) (.t 13), .bin 15 .add (.t 6) (.t 14), .asg 4 (.t 15)])
 .ret))
def r87 : List MRes := [.tmp 4]
theorem tr87 : Try.f87.body.bind (trC Try.prog ann87 Try.f87.ntmps) = some m87 := by kernel_rfl
theorem rs87 : trRes Try.prog Try.f87.results.toList = some r87 := by kernel_rfl
theorem fn87 : isFunc Try.prog 87 = true := by kernel_rfl

/- duodecimo/duodecimolaw02.has -/
def ann88 : Ann := { muts := [], nilsz := [], oid := [], frz := [9], zero := [(9, [(.lit (.int .i64 0)), (.lit (.int .i64 0)), (.lit (.int .i64 0)), (.lit (.bool false)), (.lit (.bool false))])], ord := [(2, [0, 1, 2, 3, 4, 5, 6, 7, 8, 9, 10, 11])], ap := [], own := [8], yl := [], fz := [], imm := [] }
def m88 : MCode := (.seq (.reg [.boxI 4 (.t 0) 4, .boxI 5 (.t 1) 4, .asg 8 (.c (.lit (.bool false)))])
 (.seq (.reg [.load 10 (.t 4) (some 4), .load 11 (.t 5) (some 4), .call 12 69 [(.t 10), (.t 11)], .cpy 13 (.t 2), .idxS 14 (.t 12) (.t 13) 5, .load 15 (.t 14) (some 5), .alloc 9 [(.lit (.int .i64 0)), (.lit (.int .i64 0)), (.lit (.int .i64 0)), (.lit (.bool false)), (.lit (.bool false))], .storeF 9 (.t 15) 5])
 (.seq (.reg [.load 16 (.t 4) (some 4), .load 17 (.t 5) (some 4), .load 18 (.t 9) (some 5), .load 19 (.t 5) (some 4), .cpy 20 (.t 3), .call 21 48 [(.t 19), (.t 20)], .addr 22 (.t 9) 0, .load 23 (.t 22) none, .idxS 24 (.t 21) (.t 23) 1, .load 25 (.t 24) none, .call 26 75 [(.t 16), (.t 17), (.t 18), (.t 25)], .asg 8 (.t 26)])
 .ret)))
def r88 : List MRes := [.tmp 8]
theorem tr88 : Try.f88.body.bind (trC Try.prog ann88 Try.f88.ntmps) = some m88 := by kernel_rfl
theorem rs88 : trRes Try.prog Try.f88.results.toList = some r88 := by kernel_rfl
theorem fn88 : isFunc Try.prog 88 = true := by kernel_rfl
end Go.Proofs.Ytcfeipphmklakaa

namespace Go.Proofs.Ytcfeipphmklakaa
open Go.Avm

abbrev ML (l : List Mk) : AV := .slice 4 (l.map Mk.av) 0

def okM (p : Prs) (m : Mk) : Bool := enterE p m == 0
def rawH (f i : Nat) (s : Int) (h : Nat) : List Mk := (List.range h).map fun (k : Nat) => (⟨f, i, s, (k : Int) == 1⟩ : Mk)
def rawS (f i s : Nat) : List Mk := (List.range s).flatMap fun (k : Nat) => rawH f i ((k : Int) + 1) 2
def rawP (S f i : Nat) : List Mk := (List.range i).flatMap fun i => rawS f i S
def rawF (P S f : Nat) : List Mk := (List.range f).flatMap fun f => rawP S f P

theorem rawH_succ (f i : Nat) (s : Int) (h : Nat) : rawH f i s (h + 1) = rawH f i s h ++ [⟨f, i, s, (h : Int) == 1⟩] := by unfold rawH; rw [List.range_succ]; simp
theorem rawS_succ (f i s : Nat) : rawS f i (s + 1) = rawS f i s ++ rawH f i ((s : Int) + 1) 2 := by unfold rawS; rw [List.range_succ, List.flatMap_append]; simp
theorem rawP_succ (S f i : Nat) : rawP S f (i + 1) = rawP S f i ++ rawS f i S := by unfold rawP; rw [List.range_succ, List.flatMap_append]; simp
theorem rawF_succ (P S f : Nat) : rawF P S (f + 1) = rawF P S f ++ rawP S f P := by unfold rawF; rw [List.range_succ, List.flatMap_append]; simp

theorem rawH_len (f i : Nat) (s : Int) (h : Nat) : (rawH f i s h).length = h := by simp [rawH]
theorem rawS_len (f i : Nat) : ∀ s, (rawS f i s).length = 2 * s
  | 0 => rfl
  | s + 1 => by rw [rawS_succ, List.length_append, rawS_len f i s, rawH_len]; omega
theorem rawP_len (S f : Nat) : ∀ i, (rawP S f i).length = i * (2 * S)
  | 0 => by simp [rawP]
  | i + 1 => by rw [rawP_succ, List.length_append, rawP_len S f i, rawS_len]; exact (Nat.succ_mul ..).symm
theorem rawF_len (P S : Nat) : ∀ f, (rawF P S f).length = f * (P * (2 * S))
  | 0 => by simp [rawF]
  | f + 1 => by rw [rawF_succ, List.length_append, rawF_len P S f, rawP_len]; exact (Nat.succ_mul ..).symm

/-- All ways of making. -/
def makesL (p : Prs) : List Mk := (rawF p.pprs.length p.sheets.toNat p.fmts.length).filter (okM p)

theorem filter_snoc_t {p : Prs} {l : List Mk} {m : Mk} (h : okM p m = true) : (l ++ [m]).filter (okM p) = l.filter (okM p) ++ [m] := by rw [List.filter_append]; simp [h]
theorem filter_snoc_f {p : Prs} {l : List Mk} {m : Mk} (h : okM p m = false) : (l ++ [m]).filter (okM p) = l.filter (okM p) := by rw [List.filter_append]; simp [h]

def outM (p : Prs) (P S f i s h : Nat) : List Mk := (rawF P S f ++ rawP S f i ++ rawS f i s ++ rawH f i ((s : Int) + 1) h).filter (okM p)

theorem outM_len {p : Prs} {P S f i s h : Nat} (hP : P ≤ 4) (hS : S ≤ 4) (hf : f ≤ 6) (hi : i ≤ 4) (hs : s ≤ 4) (hh : h ≤ 2) : (outM p P S f i s h).length ≤ 1000 := by
  refine Nat.le_trans (List.length_filter_le _ _) ?_
  rw [List.length_append, List.length_append, List.length_append, rawF_len, rawP_len, rawS_len, rawH_len]
  have h1 : P * (2 * S) ≤ 4 * 8 := Nat.mul_le_mul hP (by omega)
  have h2 : f * (P * (2 * S)) ≤ 6 * 32 := Nat.mul_le_mul hf h1
  have h3 : i * (2 * S) ≤ 4 * 8 := Nat.mul_le_mul hi (by omega)
  omega

theorem outM_h (p : Prs) (P S f i s : Nat) : outM p P S f i s 2 = outM p P S f i (s + 1) 0 := by
  unfold outM; rw [rawS_succ]; simp [rawH, List.append_assoc]
theorem outM_s (p : Prs) (P S f i : Nat) : outM p P S f i S 0 = outM p P S f (i + 1) 0 0 := by
  unfold outM; rw [rawP_succ]; simp [rawH, rawS, List.append_assoc]
theorem outM_i (p : Prs) (P S f : Nat) : outM p P S f P 0 0 = outM p P S (f + 1) 0 0 0 := by
  unfold outM; rw [rawF_succ]; simp [rawH, rawS, rawP, List.append_assoc]
theorem outM_t {p : Prs} {P S f i s h : Nat} (ho : okM p ⟨f, i, (s : Int) + 1, (h : Int) == 1⟩ = true) : outM p P S f i s (h + 1) = outM p P S f i s h ++ [⟨f, i, (s : Int) + 1, (h : Int) == 1⟩] := by
  unfold outM; rw [rawH_succ, ← List.append_assoc, filter_snoc_t ho]
theorem outM_f {p : Prs} {P S f i s h : Nat} (ho : okM p ⟨f, i, (s : Int) + 1, (h : Int) == 1⟩ = false) : outM p P S f i s (h + 1) = outM p P S f i s h := by
  unfold outM; rw [rawH_succ, ← List.append_assoc, filter_snoc_f ho]

theorem makes82_ok (p : Prs) (hp : Right p) : PCall Try.prog 82 [p.av] (ML (makesL p)) := by
  refine pcall Try.func82 tr82 rs82 fn82 (by simp [Try.ntmps82]) fun hfit => ?_
  have hF := hp.fmts
  have hP := hp.pprs
  obtain ⟨S, hS⟩ : ∃ S : Nat, p.sheets = S := ⟨p.sheets.toNat, by have := hp.sheets; omega⟩
  have hS4 := hp.sheets
  have hres : makesL p = outM p p.pprs.length S p.fmts.length 0 0 0 := by unfold makesL outM; rw [hS]; simp [rawP, rawS, rawH]
  rw [hres]
  simp -implicitDefEqProofs [m82]
  refine loop_up p.fmts.length (fun f s => s.env 1 = PRef p ∧ s.env 3 = .slice 4 ((outM p p.pprs.length S f 0 0 0).map Mk.av) 4 ∧ s.env 4 = I f) ?_ ?_
  · simp [outM, rawF, rawP, rawS, rawH]
  rintro f s hf ⟨e1, e3, e4⟩
  simp -implicitDefEqProofs [e1, e4]
  refine cond_dec (fun hlt => ?_) (fun hge => ?_)
  case refine_2 =>
    obtain rfl : f = p.fmts.length := by omega
    simp -implicitDefEqProofs [e3, r82]
  have hlt1 : f < p.fmts.length := by omega
  simp -implicitDefEqProofs
  refine loop_up p.pprs.length (fun i s => s.env 1 = PRef p ∧ s.env 3 = .slice 4 ((outM p p.pprs.length S f i 0 0).map Mk.av) 4 ∧ s.env 4 = I f ∧ s.env 5 = I i) ?_ ?_
  · simp [e1, e3, e4]
  clear e1 e3 e4
  rintro i s hi ⟨e1, e3, e4, e5⟩
  simp -implicitDefEqProofs [e1, e5]
  refine cond_dec (fun hlt => ?_) (fun hge => ?_)
  case refine_2 =>
    obtain rfl : i = p.pprs.length := by omega
    rw [outM_i] at e3
    simp -implicitDefEqProofs [e4]
    exact ⟨i64 (by omega) (by omega), round_ok hlt1 ⟨by simp [e1], by simp [e3], by simp⟩⟩
  have hlt2 : i < p.pprs.length := by omega
  simp -implicitDefEqProofs
  refine loop_up S (fun k s => s.env 1 = PRef p ∧ s.env 3 = .slice 4 ((outM p p.pprs.length S f i k 0).map Mk.av) 4 ∧ s.env 4 = I f ∧ s.env 5 = I i ∧ s.env 6 = I ((k : Int) + 1)) ?_ ?_
  · simp [e1, e3, e4, e5]
  clear e1 e3 e4 e5
  rintro k s hk ⟨e1, e3, e4, e5, e6⟩
  simp -implicitDefEqProofs [e1, e6, hS]
  refine cond_dec (fun hlt => ?_) (fun hge => ?_)
  case refine_2 =>
    obtain rfl : k = S := by omega
    rw [outM_s] at e3
    simp -implicitDefEqProofs [e5]
    exact ⟨i64 (by omega) (by omega), round_ok hlt2 ⟨by simp [e1], by simp [e3], by simp [e4], by simp⟩⟩
  have hlt3 : k < S := by omega
  simp -implicitDefEqProofs
  refine loop_up 2 (fun h s => s.env 1 = PRef p ∧ s.env 3 = .slice 4 ((outM p p.pprs.length S f i k h).map Mk.av) 4 ∧ s.env 4 = I f ∧ s.env 5 = I i ∧ s.env 6 = I ((k : Int) + 1) ∧ s.env 7 = I h) ?_ ?_
  · simp [e1, e3, e4, e5, e6]
  clear e1 e3 e4 e5 e6
  rintro h s hh ⟨e1, e3, e4, e5, e6, e7⟩
  simp -implicitDefEqProofs [e7]
  refine cond_dec (fun hlt => ?_) (fun hge => ?_)
  case refine_2 =>
    obtain rfl : h = 2 := by omega
    rw [outM_h] at e3
    simp -implicitDefEqProofs [e6]
    exact ⟨i64 (by omega) (by omega), round_ok hlt3 ⟨by simp [e1], by simp [e3], by simp [e4], by simp [e5], by simp⟩⟩
  have hlt4 : h < 2 := by omega
  have c := make68_ok p ⟨f, i, (k : Int) + 1, (h : Int) == 1⟩
  have hlen := outM_len (p := p) (P := p.pprs.length) (S := S) (f := f) (i := i) (s := k) (h := h) (by omega) (by omega) (by omega) (by omega) (by omega) (by omega)
  have ht := outM_t (p := p) (P := p.pprs.length) (S := S) (f := f) (i := i) (s := k) (h := h)
  have hff := outM_f (p := p) (P := p.pprs.length) (S := S) (f := f) (i := i) (s := k) (h := h)
  unfold okM at ht hff
  generalize enterE p ⟨f, i, (k : Int) + 1, (h : Int) == 1⟩ = e at *
  simp -implicitDefEqProofs [e4, e5, e6, e7]
  intro b hb
  simp -implicitDefEqProofs [e1]
  refine vCall_of c ?_
  simp -implicitDefEqProofs
  refine cond_bool (fun he => ?_) (fun he => ?_)
  · simp -implicitDefEqProofs [e3, e7]
    refine ⟨by omega, by omega, i64 (by omega) (by omega), round_ok hlt4 ⟨by simp [e1], by simp [ht he], by simp [e4], by simp [e5], by simp [e6], by simp⟩⟩
  · simp -implicitDefEqProofs [e7]
    refine ⟨i64 (by omega) (by omega), round_ok hlt4 ⟨by simp [e1], by simp [e3, hff he], by simp [e4], by simp [e5], by simp [e6], by simp⟩⟩
end Go.Proofs.Ytcfeipphmklakaa

namespace Go.Proofs.Ytcfeipphmklakaa
open Go.Avm

theorem valid42_ok (p : Prs) : PCall Try.prog 42 [p.av] (B (errE p == 0)) := by
  refine pcall Try.func42 tr42 rs42 fn42 (by simp [Try.ntmps42]) fun hfit => ?_
  have c := checkR_ok p
  unfold errE
  generalize checkE p = e at *
  simp -implicitDefEqProofs [m42]
  refine vCall_of c ?_
  simp -implicitDefEqProofs [r42]

theorem has47_ok (l : List Int) (n : Int) : PCall Try.prog 47 [IL l, I n] (B (decide (n ∈ l))) := by
  refine pcall Try.func47 tr47 rs47 fn47 (by simp [Try.ntmps47]) fun hfit => ?_
  have hl := fits_len (hfit 0)
  simp only [List.length_map] at hl
  simp -implicitDefEqProofs [m47]
  refine loop_up l.length (fun k s => s.env 0 = IL l ∧ s.env 1 = I n ∧ s.env 5 = I k ∧ ∀ x ∈ l.take k, x ≠ n) ?_ ?_
  · simp
  · rintro k s hk ⟨e0, e1, e5, hno⟩
    simp -implicitDefEqProofs [e0, e5]
    refine cond_dec (fun hlt => ?_) (fun hge => ?_)
    · have hlt : k < l.length := by omega
      simp -implicitDefEqProofs [e0, e1, e5, hlt]
      refine cond_bool (fun he => ?_) (fun he => ?_)
      · have hx : l[k] = n := by simpa using he
        have hm : n ∈ l := by rw [← hx]; exact List.getElem_mem _
        simp -implicitDefEqProofs [r47, hm]
      · have hx : l[k] ≠ n := by simpa using he
        simp -implicitDefEqProofs [e5]
        refine ⟨i64 (by omega) (by omega), round_ok hlt ⟨by simp [e0], by simp [e1], by simp, fun x hx' => ?_⟩⟩
        rw [take_snoc hlt, List.mem_append, List.mem_singleton] at hx'
        rcases hx' with hx' | rfl
        · exact hno x hx'
        · exact hx
    · obtain rfl : k = l.length := by omega
      rw [List.take_length] at hno
      have hm : n ∉ l := fun h => hno n h rfl
      simp -implicitDefEqProofs [r47, hm]

theorem makes_ok {p : Prs} {m : Mk} (h : m ∈ makesL p) : enterE p m = 0 := by
  have := (List.mem_filter.1 h).2
  simpa [okM] using this

theorem mem_rawF {P S F f i s h : Nat} (hf : f < F) (hi : i < P) (hs : s < S) (hh : h < 2) : (⟨f, i, (s : Int) + 1, (h : Int) == 1⟩ : Mk) ∈ rawF P S F := by
  unfold rawF rawP rawS rawH
  simp only [List.mem_flatMap, List.mem_map, List.mem_range]
  exact ⟨f, hf, i, hi, s, hs, h, hh, rfl⟩

theorem makes_ne {p : Prs} (h : errE p = 0) : 1 ≤ (makesL p).length := by
  have hp := right_of h
  have h1 := hp.fmts
  have h2 := hp.pprs
  have h3 := hp.sheets
  have hm : (⟨0, 0, 1, false⟩ : Mk) ∈ makesL p := by
    refine List.mem_filter.2 ⟨mem_rawF (f := 0) (i := 0) (s := 0) (h := 0) (by omega) (by omega) (by omega) (by omega), ?_⟩
    unfold okM enterE makeE
    rw [if_neg (by simp [h]), if_neg, if_neg (by simp; omega), if_neg (by simp)]
    · rfl
    · simp; omega
  exact List.length_pos_of_mem hm

theorem makes_len {p : Prs} (hp : Right p) : (makesL p).length ≤ 1000 := by
  have h1 := hp.fmts
  have h2 := hp.pprs
  have h3 := hp.sheets
  have := outM_len (p := p) (P := p.pprs.length) (S := p.sheets.toNat) (f := p.fmts.length) (i := 0) (s := 0) (h := 0) (by omega) (by omega) (by omega) (by omega) (by omega) (by omega)
  have e : makesL p = outM p p.pprs.length p.sheets.toNat p.fmts.length 0 0 0 := by unfold makesL outM; simp [rawP, rawS, rawH]
  rwa [e]

def mk0 : Mk := ⟨0, 0, 0, false⟩

/-- The way of making of a number. -/
def madeM (p : Prs) (n : Nat) : Mk := (makesL p).getD (n % (makesL p).length) mk0

theorem madeM_ok {p : Prs} (h : errE p = 0) (n : Nat) : enterE p (madeM p n) = 0 := by
  have hl := makes_ne h
  have hlt : n % (makesL p).length < (makesL p).length := Nat.mod_lt _ (by omega)
  refine makes_ok ?_
  unfold madeM
  rw [List.getD_eq_getElem?_getD, List.getElem?_eq_getElem hlt]
  exact List.getElem_mem _

theorem tmod_nat (a b : Nat) : ((a : Int).tmod (b : Int)) = ((a % b : Nat) : Int) := by
  rw [Int.tmod_eq_emod_of_nonneg (by omega)]; rfl

theorem made46_ok {p : Prs} (h : errE p = 0) (n : Nat) : PCall Try.prog 46 [p.av, I n] (madeM p n).av := by
  refine pcall Try.func46 tr46 rs46 fn46 (by simp [Try.ntmps46]) fun hfit => ?_
  have hl := makes_ne h
  have hl2 := makes_len (right_of h)
  have c := makes82_ok p (right_of h)
  have hlt : n % (makesL p).length < (makesL p).length := Nat.mod_lt _ (by omega)
  unfold madeM
  generalize makesL p = l at *
  have ht := tmod_nat n l.length
  generalize hk : n % l.length = k at *
  simp -implicitDefEqProofs [m46]
  intro b
  refine vCall_of c ?_
  have hne : ¬ l = [] := fun h => by subst h; simp at hl
  simp -implicitDefEqProofs [ht, hlt, hne, r46]

abbrev U (n : Int) : AV := .lit (.int .u16 n)
abbrev US (l : List Int) : AV := .slice 1 (l.map U) 0

/-- The n-th number of a list, by turns. -/
def turnM (l : List Int) (n : Nat) : Int := if l.length = 0 then 0 else l.getD (n % l.length) 0

def okU (l : List Int) : Prop := ∀ x ∈ l, 0 ≤ x ∧ x ≤ 65535

theorem turnM_ok {l : List Int} (h : okU l) (n : Nat) : 0 ≤ turnM l n ∧ turnM l n ≤ 65535 := by
  unfold turnM
  split
  · omega
  · rename_i hl
    have hlt : n % l.length < l.length := Nat.mod_lt _ (by omega)
    rw [List.getD_eq_getElem?_getD, List.getElem?_eq_getElem hlt]
    exact h _ (List.getElem_mem _)

theorem wrap_i64 {a : Int} (h : 0 ≤ a ∧ a ≤ 65535) : IntKind.wrap .i64 a = a := by
  obtain ⟨k, rfl⟩ : ∃ k : Nat, a = k := ⟨a.toNat, by omega⟩
  simp [IntKind.wrap, IntKind.bits, IntKind.signed]
  omega

theorem turn85_ok {l : List Int} (h : okU l) (n : Nat) : PCall Try.prog 85 [US l, I n] (I (turnM l n)) := by
  refine pcall Try.func85 tr85 rs85 fn85 (by simp [Try.ntmps85]) fun hfit => ?_
  have hw := wrap_i64 (turnM_ok h n)
  obtain ⟨R, hR⟩ : ∃ R, R = turnM l n := ⟨_, rfl⟩
  rw [← hR] at hw ⊢
  unfold turnM at hR
  simp -implicitDefEqProofs [m85]
  by_cases hl : l.length = 0
  · have hl' : ((l.length : Int) == 0) = true := by simp [hl]
    rw [if_pos hl] at hR
    simp -implicitDefEqProofs [hl', r85, hR]
  · have hl' : ((l.length : Int) == 0) = false := beq_eq_false_iff_ne.2 (by omega)
    have hlt : n % l.length < l.length := Nat.mod_lt _ (by omega)
    rw [if_neg hl] at hR
    have ht := tmod_nat n l.length
    generalize hk : n % l.length = k at *
    have hne : ¬ l = [] := fun h => by subst h; simp at hl
    rw [List.getD_eq_getElem?_getD, List.getElem?_eq_getElem hlt, Option.getD_some] at hR
    simp -implicitDefEqProofs [hl', ht, hlt, hne, ← hR, hw, r85]

/-- Halves, by turns. -/
def halvesT (x : List Int) (n : Nat) : List Int := (List.range n).map fun i => (turnM x i).tmod 2
theorem halvesT_succ (x : List Int) (n : Nat) : halvesT x (n + 1) = halvesT x n ++ [(turnM x n).tmod 2] := by unfold halvesT; rw [List.range_succ]; simp
theorem halvesT_len (x : List Int) (n : Nat) : (halvesT x n).length = n := by simp [halvesT]
theorem halvesT_in {x : List Int} (h : okU x) {n k : Nat} (hk : k < (halvesT x n).length) : 0 ≤ (halvesT x n)[k] ∧ (halvesT x n)[k] ≤ 1 := by
  have := turnM_ok h k
  have e : (halvesT x n)[k] = (turnM x k).tmod 2 := by simp [halvesT]
  rw [e, Int.tmod_eq_emod_of_nonneg this.1]
  omega

theorem halves48_ok (m : Mk) {x : List Int} (h : okU x) (hm : 0 ≤ m.sheets ∧ m.sheets ≤ 4) : PCall Try.prog 48 [m.av, US x] (IL (halvesT x m.sheets.toNat)) := by
  refine pcall Try.func48 tr48 rs48 fn48 (by simp [Try.ntmps48]) fun hfit => ?_
  obtain ⟨S, hS⟩ : ∃ S : Nat, m.sheets = S := ⟨m.sheets.toNat, by omega⟩
  have e : m.sheets.toNat = S := by omega
  rw [e]
  simp -implicitDefEqProofs [m48]
  refine loop_up S (fun k s => s.env 1 = US x ∧ s.env 2 = .ref m.cs ∧ s.env 5 = .slice 1 ((halvesT x k).map I) 6 ∧ s.env 6 = I k) ?_ ?_
  · simp [halvesT]
  rintro k s hk ⟨e1, e2, e5, e6⟩
  simp -implicitDefEqProofs [e2, e6, hS]
  refine cond_dec (fun hlt => ?_) (fun hge => ?_)
  · have hlt : k < S := by omega
    have hs := halvesT_succ x k
    have hl := halvesT_len x k
    simp -implicitDefEqProofs [e1, e5, e6]
    refine vCall_of (turn85_ok h k) ?_
    simp -implicitDefEqProofs [e5, e6]
    refine ⟨by omega, by omega, i64 (by omega) (by omega), round_ok hlt ⟨by simp [e1], by simp [e2], by simp [hs], by simp⟩⟩
  · obtain rfl : k = S := by omega
    simp -implicitDefEqProofs [e5, r48]
end Go.Proofs.Ytcfeipphmklakaa

namespace Go.Proofs.Ytcfeipphmklakaa
open Go.Avm

/- duodecimo/duodecimolaw02.FoldWhole -/
def ann10 : Ann := { muts := [], nilsz := [], oid := [], frz := [5], zero := [(5, [(.lit (.int .i64 0)), (.lit (.int .i64 0)), (.lit (.int .i64 0)), (.lit (.bool false))])], ord := [(20, [0, 1, 2, 3, 4, 5, 6, 7, 8, 9, 10, 11, 12, 13, 14, 15, 16, 17, 18, 19, 20, 21, 22, 23, 24, 25, 26, 27, 28, 29, 30, 31, 32, 33, 34, 35, 36]), (22, [0, 1, 2, 3, 4, 5, 6, 7, 8, 9, 10, 11, 12, 13, 14, 15, 16, 17, 18, 19, 20, 21, 22, 23, 24, 25, 26, 27, 28, 29, 30, 31]), (24, [0, 1, 2, 3, 4, 5, 6, 7, 8, 9, 10, 11, 12, 13]), (35, [0, 1, 2, 3, 4, 5, 6, 7, 8, 9, 10, 11, 12, 13, 14, 15, 16, 17, 18, 19, 20, 21, 22, 23, 24, 25, 26, 27, 28, 29, 30, 31, 32, 33, 34, 35, 36, 37, 38, 39, 40, 41, 42, 43, 44, 45, 46, 47, 48, 49, 50, 51, 52, 53, 54, 55, 56, 57, 58, 59, 60, 61, 62, 63]), (37, [0, 1, 2, 3, 4, 5, 6, 7, 8, 9, 10, 11, 12, 13, 14, 15, 16, 17, 18, 19, 20, 21, 22, 23])], ap := [], own := [4, 13], yl := [], fz := [], imm := [] }
def m10 : MCode := (.seq (.reg [.boxI 2 (.t 0) 4, .boxI 3 (.t 1) 3, .asg 4 (.c (.lit (.bool false)))])
 (.seq (.seq (.reg [.load 22 (.t 2) (some 4), .call 23 42 [(.t 22)], .not 24 (.t 23)])
 (.cond (.t 24) (.seq (.reg [.call 25 19 [], .asg 4 (.t 25)])
 .ret) .skip))
 (.seq (.reg [.load 26 (.t 2) (some 4), .idxA 27 (.t 3) (.c (.lit (.int .i64 0))) 3 1, .load 28 (.t 27) none, .conv 29 .i64 (.t 28), .call 30 46 [(.t 26), (.t 29)], .alloc 5 [(.lit (.int .i64 0)), (.lit (.int .i64 0)), (.lit (.int .i64 0)), (.lit (.bool false))], .storeF 5 (.t 30) 4])
 (.seq (.reg [.load 32 (.t 2) (some 4), .load 33 (.t 5) (some 4), .call 34 20 [(.t 32), (.t 33)], .cpy 31 (.t 34), .ext 35 (.t 31) 0, .ext 36 (.t 31) 1, .asg 6 (.t 35), .asg 7 (.t 36)])
 (.seq (.reg [.asg 8 (.c (.lit (.int .i64 1)))])
 (.seq (.seq (.reg [.asg 9 (.c (.lit (.int .i64 0)))])
 (.block 0 (.loop (.seq (.seq (.reg [.cpy 37 (.t 9), .addr 38 (.t 2) 0, .load 39 (.t 38) none, .addr 40 (.t 5) 0, .load 41 (.t 40) none, .idxS 42 (.t 39) (.t 41) 2, .addr 43 (.t 42) 1, .load 44 (.t 43) none, .lenStr 45 (.t 44), .bin 46 .lss (.t 37) (.t 45)])
 (.cond (.t 46) .skip (.exit 0)))
 (.seq (.block 1 (.reg [.cpy 49 (.t 8), .bin 50 .mul (.t 49) (.c (.lit (.int .i64 2))), .asg 8 (.t 50)]))
 (.reg [.cpy 47 (.t 9), .bin 48 .add (.t 47) (.c (.lit (.int .i64 1))), .asg 9 (.t 48)]))))))
 (.seq (.seq (.reg [.addr 51 (.t 5) 3, .load 52 (.t 51) none])
 (.cond (.t 52) (.reg [.cpy 53 (.t 8), .bin 54 .quo (.t 53) (.c (.lit (.int .i64 2))), .asg 8 (.t 54)]) .skip))
 (.seq (.seq (.reg [.cpy 55 (.t 7), .bin 56 .neq (.t 55) (.c (.lit (.int .i64 0))), .cpy 57 (.t 56), .guard 57 false (some 58) (.cpy 58 (.t 6)), .guard 57 false (some 59) (.len 59 (.t 58)), .guard 57 false (some 60) (.cpy 60 (.t 8)), .guard 57 false (some 61) (.addr 61 (.t 5) 2), .guard 57 false (some 62) (.load 62 (.t 61) none), .guard 57 false (some 63) (.bin 63 .mul (.t 60) (.t 62)), .guard 57 false (some 64) (.bin 64 .neq (.t 59) (.t 63)), .pick 65 (.t 57) (.c (.lit (.bool true))) (.t 64)])
 (.cond (.t 65) (.seq (.reg [.asg 4 (.c (.lit (.bool false)))])
 .ret) .skip))
 (.seq (.seq (.reg [.asg 10 (.c (.lit (.int .i64 0)))])
 (.block 2 (.loop (.seq (.seq (.reg [.cpy 66 (.t 10), .cpy 67 (.t 6), .len 68 (.t 67), .bin 69 .lss (.t 66) (.t 68)])
 (.cond (.t 69) .skip (.exit 2)))
 (.seq (.block 3 (.seq (.seq (.reg [.asg 11 (.c (.lit (.int .i64 0)))])
 (.block 4 (.loop (.seq (.seq (.reg [.cpy 72 (.t 11), .cpy 73 (.t 10), .bin 74 .lss (.t 72) (.t 73)])
 (.cond (.t 74) .skip (.exit 4)))
 (.seq (.block 5 (.seq (.reg [.cpy 77 (.t 6), .cpy 78 (.t 10), .idxS 79 (.t 77) (.t 78) 5, .addr 80 (.t 79) 0, .load 81 (.t 80) none, .cpy 82 (.t 6), .cpy 83 (.t 11), .idxS 84 (.t 82) (.t 83) 5, .addr 85 (.t 84) 0, .load 86 (.t 85) none, .bin 87 .eql (.t 81) (.t 86), .cpy 88 (.t 87), .guard 88 true (some 89) (.cpy 89 (.t 6)), .guard 88 true (some 90) (.cpy 90 (.t 10)), .guard 88 true (some 91) (.idxS 91 (.t 89) (.t 90) 5), .guard 88 true (some 92) (.addr 92 (.t 91) 1), .guard 88 true (some 93) (.load 93 (.t 92) none), .guard 88 true (some 94) (.cpy 94 (.t 6)), .guard 88 true (some 95) (.cpy 95 (.t 11)), .guard 88 true (some 96) (.idxS 96 (.t 94) (.t 95) 5), .guard 88 true (some 97) (.addr 97 (.t 96) 1), .guard 88 true (some 98) (.load 98 (.t 97) none), .guard 88 true (some 99) (.bin 99 .eql (.t 93) (.t 98)), .pick 100 (.t 88) (.t 99) (.c (.lit (.bool false))), .cpy 101 (.t 100), .guard 101 true (some 102) (.cpy 102 (.t 6)), .guard 101 true (some 103) (.cpy 103 (.t 10)), .guard 101 true (some 104) (.idxS 104 (.t 102) (.t 103) 5), .guard 101 true (some 105) (.addr 105 (.t 104) 2), .guard 101 true (some 106) (.load 106 (.t 105) none), .guard 101 true (some 107) (.cpy 107 (.t 6)), .guard 101 true (some 108) (.cpy 108 (.t 11)), .guard 101 true (some 109) (.idxS 109 (.t 107) (.t 108) 5), .guard 101 true (some 110) (.addr 110 (.t 109) 2), .guard 101 true (some 111) (.load 111 (.t 110) none), .guard 101 true (some 112) (.bin 112 .eql (.t 106) (.t 111)), .pick 113 (.t 101) (.t 112) (.c (.lit (.bool false)))])
 (.cond (.t 113) (.seq (.reg [.asg 4 (.c (.lit (.bool false)))])
 .ret) .skip)))
 (.reg [.cpy 75 (.t 11), .bin 76 .add (.t 75) (.c (.lit (.int .i64 1))), .asg 11 (.t 76)]))))))
 (.seq (.reg [.cpy 114 (.t 6), .cpy 115 (.t 10), .idxS 116 (.t 114) (.t 115) 5, .addr 117 (.t 116) 1, .load 118 (.t 117) none, .bin 119 .lss (.t 118) (.c (.lit (.int .i64 0))), .cpy 120 (.t 119), .guard 120 false (some 121) (.cpy 121 (.t 6)), .guard 120 false (some 122) (.cpy 122 (.t 10)), .guard 120 false (some 123) (.idxS 123 (.t 121) (.t 122) 5), .guard 120 false (some 124) (.addr 124 (.t 123) 2), .guard 120 false (some 125) (.load 125 (.t 124) none), .guard 120 false (some 126) (.bin 126 .lss (.t 125) (.c (.lit (.int .i64 0)))), .pick 127 (.t 120) (.c (.lit (.bool true))) (.t 126), .cpy 128 (.t 127), .guard 128 false (some 129) (.cpy 129 (.t 6)), .guard 128 false (some 130) (.cpy 130 (.t 10)), .guard 128 false (some 131) (.idxS 131 (.t 129) (.t 130) 5), .guard 128 false (some 132) (.addr 132 (.t 131) 0), .guard 128 false (some 133) (.load 133 (.t 132) none), .guard 128 false (some 134) (.bin 134 .lss (.t 133) (.c (.lit (.int .i64 0)))), .pick 135 (.t 128) (.c (.lit (.bool true))) (.t 134), .cpy 136 (.t 135), .guard 136 false (some 137) (.cpy 137 (.t 6)), .guard 136 false (some 138) (.cpy 138 (.t 10)), .guard 136 false (some 139) (.idxS 139 (.t 137) (.t 138) 5), .guard 136 false (some 140) (.addr 140 (.t 139) 0), .guard 136 false (some 141) (.load 141 (.t 140) none), .guard 136 false (some 142) (.addr 142 (.t 5) 2), .guard 136 false (some 143) (.load 143 (.t 142) none), .guard 136 false (some 144) (.bin 144 .geq (.t 141) (.t 143)), .pick 145 (.t 136) (.c (.lit (.bool true))) (.t 144)])
 (.cond (.t 145) (.seq (.reg [.asg 4 (.c (.lit (.bool false)))])
 .ret) .skip))))
 (.reg [.cpy 70 (.t 10), .bin 71 .add (.t 70) (.c (.lit (.int .i64 1))), .asg 10 (.t 71)]))))))
 (.seq (.reg [.idxA 146 (.t 3) (.c (.lit (.int .i64 1))) 3 1, .load 147 (.t 146) none, .conv 148 .i64 (.t 147), .cpy 149 (.t 6), .len 150 (.t 149), .bin 151 .rem (.t 148) (.t 150), .idxA 152 (.t 3) (.c (.lit (.int .i64 2))) 3 1, .load 153 (.t 152) none, .conv 154 .i64 (.t 153), .cpy 155 (.t 6), .len 156 (.t 155), .bin 157 .rem (.t 154) (.t 156), .cpyE 12 (.t 151), .asg 13 (.t 157)])
 (.seq (.reg [.load 159 (.t 2) (some 4), .load 160 (.t 5) (some 4), .cpy 161 (.t 12), .call 162 26 [(.t 159), (.t 160), (.t 161)], .cpy 158 (.t 162), .ext 163 (.t 158) 0, .ext 164 (.t 158) 1, .ext 165 (.t 158) 2, .asg 14 (.t 163), .asg 15 (.t 164), .asg 16 (.t 165)])
 (.seq (.reg [.load 167 (.t 2) (some 4), .load 168 (.t 5) (some 4), .cpy 169 (.t 13), .call 170 26 [(.t 167), (.t 168), (.t 169)], .cpy 166 (.t 170), .ext 171 (.t 166) 0, .ext 172 (.t 166) 1, .ext 173 (.t 166) 2, .asg 17 (.t 171), .asg 18 (.t 172), .asg 19 (.t 173)])
 (.seq (.seq (.reg [.cpy 174 (.t 16), .bin 175 .neq (.t 174) (.c (.lit (.int .i64 0))), .cpy 176 (.t 175), .guard 176 false (some 177) (.cpy 177 (.t 19)), .guard 176 false (some 178) (.bin 178 .neq (.t 177) (.c (.lit (.int .i64 0)))), .pick 179 (.t 176) (.c (.lit (.bool true))) (.t 178), .cpy 180 (.t 179), .guard 180 false (some 181) (.cpy 181 (.t 14)), .guard 180 false (some 182) (.len 182 (.t 181)), .guard 180 false (some 183) (.cpy 183 (.t 8)), .guard 180 false (some 184) (.bin 184 .sub (.t 183) (.c (.lit (.int .i64 1)))), .guard 180 false (some 185) (.bin 185 .neq (.t 182) (.t 184)), .pick 186 (.t 180) (.c (.lit (.bool true))) (.t 185), .cpy 187 (.t 186), .guard 187 false (some 188) (.cpy 188 (.t 17)), .guard 187 false (some 189) (.len 189 (.t 188)), .guard 187 false (some 190) (.cpy 190 (.t 8)), .guard 187 false (some 191) (.bin 191 .sub (.t 190) (.c (.lit (.int .i64 1)))), .guard 187 false (some 192) (.bin 192 .neq (.t 189) (.t 191)), .pick 193 (.t 187) (.c (.lit (.bool true))) (.t 192), .cpy 194 (.t 193), .guard 194 false (some 195) (.cpy 195 (.t 14)), .guard 194 false (some 196) (.cpy 196 (.t 12)), .guard 194 false (some 197) (.call 197 47 [(.t 195), (.t 196)]), .pick 198 (.t 194) (.c (.lit (.bool true))) (.t 197), .cpy 199 (.t 198), .guard 199 false (some 200) (.cpy 200 (.t 17)), .guard 199 false (some 201) (.cpy 201 (.t 13)), .guard 199 false (some 202) (.call 202 47 [(.t 200), (.t 201)]), .pick 203 (.t 199) (.c (.lit (.bool true))) (.t 202)])
 (.cond (.t 203) (.seq (.reg [.asg 4 (.c (.lit (.bool false)))])
 .ret) .skip))
 (.seq (.seq (.reg [.cpy 204 (.t 12), .cpy 205 (.t 13), .bin 206 .eql (.t 204) (.t 205)])
 (.cond (.t 206) (.seq (.reg [.cpy 207 (.t 14), .cpy 208 (.t 17), .call 209 25 [(.t 207), (.t 208)], .cpy 210 (.t 209), .guard 210 true (some 211) (.call 211 19 []), .pick 212 (.t 210) (.t 211) (.c (.lit (.bool false))), .asg 4 (.t 212)])
 .ret) .skip))
 (.seq (.reg [.cpy 213 (.t 14), .cpy 214 (.t 13), .call 215 47 [(.t 213), (.t 214)], .asg 20 (.t 215)])
 (.seq (.seq (.reg [.asg 21 (.c (.lit (.int .i64 0)))])
 (.block 6 (.loop (.seq (.seq (.reg [.cpy 216 (.t 21), .cpy 217 (.t 14), .len 218 (.t 217), .bin 219 .lss (.t 216) (.t 218)])
 (.cond (.t 219) .skip (.exit 6)))
 (.seq (.block 7 (.seq (.reg [.cpy 222 (.t 14), .cpy 223 (.t 21), .idxS 224 (.t 222) (.t 223) 1, .load 225 (.t 224) none, .bin 226 .lss (.t 225) (.c (.lit (.int .i64 0))), .cpy 227 (.t 226), .guard 227 false (some 228) (.cpy 228 (.t 14)), .guard 227 false (some 229) (.cpy 229 (.t 21)), .guard 227 false (some 230) (.idxS 230 (.t 228) (.t 229) 1), .guard 227 false (some 231) (.load 231 (.t 230) none), .guard 227 false (some 232) (.cpy 232 (.t 6)), .guard 227 false (some 233) (.len 233 (.t 232)), .guard 227 false (some 234) (.bin 234 .geq (.t 231) (.t 233)), .pick 235 (.t 227) (.c (.lit (.bool true))) (.t 234), .cpy 236 (.t 235), .guard 236 false (some 237) (.cpy 237 (.t 21)), .guard 236 false (some 238) (.bin 238 .gtr (.t 237) (.c (.lit (.int .i64 0)))), .guard 236 false (some 239) (.cpy 239 (.t 238)), .guard 239 true (some 240) (.cpy 240 (.t 14)), .guard 239 true (some 241) (.cpy 241 (.t 21)), .guard 239 true (some 242) (.idxS 242 (.t 240) (.t 241) 1), .guard 239 true (some 243) (.load 243 (.t 242) none), .guard 239 true (some 244) (.cpy 244 (.t 14)), .guard 239 true (some 245) (.cpy 245 (.t 21)), .guard 239 true (some 246) (.bin 246 .sub (.t 245) (.c (.lit (.int .i64 1)))), .guard 239 true (some 247) (.idxS 247 (.t 244) (.t 246) 1), .guard 239 true (some 248) (.load 248 (.t 247) none), .guard 239 true (some 249) (.bin 249 .leq (.t 243) (.t 248)), .guard 236 false (some 250) (.pick 250 (.t 239) (.t 249) (.c (.lit (.bool false)))), .pick 251 (.t 236) (.c (.lit (.bool true))) (.t 250), .cpy 252 (.t 251), .guard 252 false (some 253) (.cpy 253 (.t 6)), .guard 252 false (some 254) (.cpy 254 (.t 14)), .guard 252 false (some 255) (.cpy 255 (.t 21)), .guard 252 false (some 256) (.idxS 256 (.t 254) (.t 255) 1), .guard 252 false (some 257) (.load 257 (.t 256) none), .guard 252 false (some 258) (.idxS 258 (.t 253) (.t 257) 5), .guard 252 false (some 259) (.addr 259 (.t 258) 0), .guard 252 false (some 260) (.load 260 (.t 259) none), .guard 252 false (some 261) (.cpy 261 (.t 6)), .guard 252 false (some 262) (.cpy 262 (.t 12)), .guard 252 false (some 263) (.idxS 263 (.t 261) (.t 262) 5), .guard 252 false (some 264) (.addr 264 (.t 263) 0), .guard 252 false (some 265) (.load 265 (.t 264) none), .guard 252 false (some 266) (.bin 266 .neq (.t 260) (.t 265)), .pick 267 (.t 252) (.c (.lit (.bool true))) (.t 266), .cpy 268 (.t 267), .guard 268 false (some 269) (.cpy 269 (.t 14)), .guard 268 false (some 270) (.cpy 270 (.t 21)), .guard 268 false (some 271) (.idxS 271 (.t 269) (.t 270) 1), .guard 268 false (some 272) (.load 272 (.t 271) none), .guard 268 false (some 273) (.cpy 273 (.t 13)), .guard 268 false (some 274) (.bin 274 .neq (.t 272) (.t 273)), .guard 268 false (some 275) (.cpy 275 (.t 274)), .guard 275 true (some 276) (.cpy 276 (.t 17)), .guard 275 true (some 277) (.cpy 277 (.t 14)), .guard 275 true (some 278) (.cpy 278 (.t 21)), .guard 275 true (some 279) (.idxS 279 (.t 277) (.t 278) 1), .guard 275 true (some 280) (.load 280 (.t 279) none), .guard 275 true (some 281) (.call 281 47 [(.t 276), (.t 280)]), .guard 275 true (some 282) (.cpy 282 (.t 20)), .guard 275 true (some 283) (.binB 283 true (.t 281) (.t 282)), .guard 268 false (some 284) (.pick 284 (.t 275) (.t 283) (.c (.lit (.bool false)))), .pick 285 (.t 268) (.c (.lit (.bool true))) (.t 284)])
 (.cond (.t 285) (.seq (.reg [.asg 4 (.c (.lit (.bool false)))])
 .ret) .skip)))
 (.reg [.cpy 220 (.t 21), .bin 221 .add (.t 220) (.c (.lit (.int .i64 1))), .asg 21 (.t 221)]))))))
 (.seq (.reg [.cpy 286 (.t 17), .cpy 287 (.t 12), .call 288 47 [(.t 286), (.t 287)], .cpy 289 (.t 20), .binB 290 false (.t 288) (.t 289), .cpy 291 (.t 290), .guard 291 true (some 292) (.cpy 292 (.t 20)), .guard 291 true (some 293) (.cpy 293 (.t 6)), .guard 291 true (some 294) (.cpy 294 (.t 12)), .guard 291 true (some 295) (.idxS 295 (.t 293) (.t 294) 5), .guard 291 true (some 296) (.addr 296 (.t 295) 0), .guard 291 true (some 297) (.load 297 (.t 296) none), .guard 291 true (some 298) (.cpy 298 (.t 6)), .guard 291 true (some 299) (.cpy 299 (.t 13)), .guard 291 true (some 300) (.idxS 300 (.t 298) (.t 299) 5), .guard 291 true (some 301) (.addr 301 (.t 300) 0), .guard 291 true (some 302) (.load 302 (.t 301) none), .guard 291 true (some 303) (.bin 303 .eql (.t 297) (.t 302)), .guard 291 true (some 304) (.binB 304 false (.t 292) (.t 303)), .pick 305 (.t 291) (.t 304) (.c (.lit (.bool false))), .cpy 306 (.t 305), .guard 306 true (some 307) (.call 307 19 []), .pick 308 (.t 306) (.t 307) (.c (.lit (.bool false))), .asg 4 (.t 308)])
 .ret)))))))))))))))))
def r10 : List MRes := [.tmp 4]
theorem tr10 : Try.f10.body.bind (trC Try.prog ann10 Try.f10.ntmps) = some m10 := by kernel_rfl
theorem rs10 : trRes Try.prog Try.f10.results.toList = some r10 := by kernel_rfl
theorem fn10 : isFunc Try.prog 10 = true := by kernel_rfl
end Go.Proofs.Ytcfeipphmklakaa

namespace Go.Proofs.Ytcfeipphmklakaa
open Go.Avm

theorem rdU {pl : Bool} : Rd Try.prog pl 69 U (fun n => 0 ≤ n ∧ n ≤ 65535) := by
  have h : Rd Try.prog true 69 U (fun n => 0 ≤ n ∧ n ≤ 65535) := (Rd.int Try.underlying69).map id (fun _ => rfl) (fun _ h => h)
  cases pl
  · exact h.loose
  · exact h
theorem rdU3 : Rd Try.prog false 84 (fun xs : List Int => .agg (xs.flatMap fun y => (U y).cells)) (fun xs => xs.length = 3 ∧ ∀ x ∈ xs, 0 ≤ x ∧ x ≤ 65535) :=
  Rd.array (sz := 1) Try.underlying84 (by kernel_rfl) (by kernel_rfl) rdU
theorem rdU2 : Rd Try.prog false 79 (fun xs : List Int => .agg (xs.flatMap fun y => (U y).cells)) (fun xs => xs.length = 2 ∧ ∀ x ∈ xs, 0 ≤ x ∧ x ≤ 65535) :=
  Rd.array (sz := 1) Try.underlying79 (by kernel_rfl) (by kernel_rfl) rdU
theorem rdUs : Rd Try.prog false 66 US okU :=
  (Rd.slice Try.underlying66 (of_decide_eq_true (by kernel_rfl)) (by kernel_rfl) rdU).map id (fun _ => rfl) (fun _ h => h.2)

theorem cutC {P : Program} {kn : St → Prop} {ke : Nat → St → Prop} {kr : St → Prop} {s : St} {x y : MCode} {b : Bool} (J : St → Prop) (h : ∀ s', J s' → kn s')
    (hx : ∀ k : St → Prop, (∀ s', J s' → k s') → b = true → mwp P x k ke kr s) (hy : ∀ k : St → Prop, (∀ s', J s' → k s') → b = false → mwp P y k ke kr s) : vCond P kn ke kr s x y (.lit (.bool b)) := ⟨hx kn h, hy kn h⟩
theorem cutS {P : Program} {kn : St → Prop} {ke : Nat → St → Prop} {kr : St → Prop} {s : St} {x y : MCode} (J : St → Prop) (hx : ∀ k : St → Prop, (∀ s', J s' → k s') → mwp P x k ke kr s) (h : ∀ s', J s' → mwp P y kn ke kr s') : mwp P (.seq x y) kn ke kr s := hx _ h

def pw (k : Nat) : Nat := 2 ^ k
theorem pw_succ (k : Nat) : pw (k + 1) = pw k * 2 := Nat.pow_succ ..
theorem pw_le {k n : Nat} (h : k ≤ n) : pw k ≤ pw n := Nat.pow_le_pow_right (by omega) h
theorem pw_pos (k : Nat) : 1 ≤ pw k := Nat.pow_pos (by omega)

def sizeS (w : List Nat) (half : Bool) : Nat := if half then pw w.length / 2 else pw w.length

set_option maxRecDepth 100000 in
theorem whole_cases : allC.all (fun x => decide ((lvM x).length = sizeS x.1 x.2.1 * x.2.2) && (List.range (lvM x).length).all fun i => decide ((selT (mateQ (lvM x) i) (lvM x).length).length + 1 = sizeS x.1 x.2.1)) = true := by decide +kernel

theorem selT_lt {q : Nat → Bool} {n i j : Nat} (hij : i < j) (hj : j < (selT q n).length) : (selT q n)[i]'(by omega) < (selT q n)[j] := by
  have h : (selT q n).Pairwise (· < ·) := by
    unfold selT
    refine List.Pairwise.map _ (fun a b h => ?_) (List.Pairwise.filter _ List.pairwise_lt_range)
    exact Int.ofNat_lt.2 h
  exact List.pairwise_iff_getElem.1 h i j (by omega) hj hij

theorem selT_mem' {q : Nat → Bool} {n : Nat} {x : Int} (h : x ∈ selT q n) : ∃ j : Nat, x = j ∧ j < n ∧ q j = true := by
  unfold selT at h
  obtain ⟨j, hj, rfl⟩ := List.mem_map.1 h
  obtain ⟨h1, h2⟩ := List.mem_filter.1 hj
  exact ⟨j, rfl, by simpa using h1, h2⟩
theorem mem_selT' {q : Nat → Bool} {n j : Nat} : ((j : Int) ∈ selT q n) ↔ j < n ∧ q j = true := by
  unfold selT
  simp only [List.mem_map, List.mem_filter, List.mem_range]
  constructor
  · rintro ⟨i, ⟨h1, h2⟩, h3⟩
    have : i = j := Int.ofNat_inj.1 h3
    subst this; exact ⟨h1, h2⟩
  · rintro ⟨h1, h2⟩
    exact ⟨j, ⟨h1, h2⟩, rfl⟩

theorem mateQ_at {l : List Lf} {k i : Nat} (hk : k < l.length) (hi : i < l.length) : mateQ l k i = ((i != k) && l[i].sheet == l[k].sheet) := by
  unfold mateQ; simp [List.getD_eq_getElem?_getD, hk, hi]

end Go.Proofs.Ytcfeipphmklakaa

namespace Go.Proofs.Ytcfeipphmklakaa
open Go.Avm

theorem tmod_nat_div (a : Nat) : ((a : Int)).tdiv 2 = ((a / 2 : Nat) : Int) := by
  rw [Int.tdiv_eq_ediv_of_nonneg (by omega)]; rfl

theorem foldWhole_ok (ha : PCall Try.prog 19 [] (B true)) (p : Prs) (xs : List Int) (_ : True) (hx : xs.length = 3 ∧ ∀ x ∈ xs, 0 ≤ x ∧ x ≤ 65535) : PCall Try.prog 10 [p.av, .agg (xs.flatMap fun y => (U y).cells)] (B true) := by
  obtain ⟨hx3, hxu⟩ := hx
  match xs, hx3 with
  | [a, b, c], _ =>
  have hca := hxu a (by simp)
  have hcb := hxu b (by simp)
  have hcc := hxu c (by simp)
  obtain ⟨na, rfl⟩ : ∃ n : Nat, a = n := ⟨a.toNat, by omega⟩
  obtain ⟨nb, rfl⟩ : ∃ n : Nat, b = n := ⟨b.toNat, by omega⟩
  obtain ⟨nc, rfl⟩ : ∃ n : Nat, c = n := ⟨c.toNat, by omega⟩
  have hwa := wrap_i64 hca
  have hwb := wrap_i64 hcb
  have hwc := wrap_i64 hcc
  clear hxu
  refine pcall Try.func10 tr10 rs10 fn10 (by simp [Try.ntmps10]) fun hfit => ?_
  have c1 := valid42_ok p
  simp -implicitDefEqProofs [m10]
  refine vCall_of c1 ?_
  by_cases he : errE p = 0
  case neg =>
    have he' : (errE p == 0) = false := beq_eq_false_iff_ne.2 he
    simp -implicitDefEqProofs [he']
    refine vCall_of ha ?_
    simp -implicitDefEqProofs [r10]
  have he' : (errE p == 0) = true := by simp [he]
  have c2 := made46_ok he na
  have hen := madeM_ok he na
  generalize hmm : madeM p na = m at *
  have hp := right_of he
  have hm := rightM_of (enterE_zero hen).2
  have c3 := leaves20_ok p m
  have hlr : leavesR p m = lvOf p m := by unfold leavesR; rw [if_pos hen]
  rw [hlr, hen] at c3
  have hlen := lv_len hp hm
  have hwh := all_cases whole_cases hp hm
  rw [Bool.and_eq_true] at hwh
  obtain ⟨hw1, hw2⟩ := hwh
  have hw1 : (lvOf p m).length = sizeS (codes (foldsOf p m)) m.half * m.sheets.toNat := of_decide_eq_true hw1
  have hw2 : ∀ i, i < (lvOf p m).length → (selT (mateQ (lvOf p m) i) (lvOf p m).length).length + 1 = sizeS (codes (foldsOf p m)) m.half := fun i hi => of_decide_eq_true (List.all_eq_true.1 hw2 i (List.mem_range.2 hi))
  have hinj := @lv_inj p m hp hm
  have hokl := fun (x : Lf) (hx : x ∈ lvOf p m) => lv_okLf hp hm hx
  have hmat : ∀ i : Nat, i < (lvOf p m).length → matesR p m i = (selT (mateQ (lvOf p m) i) (lvOf p m).length, ((lvOf p m).length : Int) - 1 - i, 0) := fun i hi => by
    have h3 : ¬ ¬ ((0 : Int) ≤ i ∧ (i : Int) ≤ ((lvOf p m).length : Int) - 1) := not_not_intro (by omega)
    unfold matesR
    rw [if_neg (not_not_intro hen), if_neg h3, Int.toNat_natCast]
  have c4 : ∀ i : Nat, i < (lvOf p m).length → PCall Try.prog 26 [p.av, m.av, I i] (.tuple [IL (selT (mateQ (lvOf p m) i) (lvOf p m).length), I (((lvOf p m).length : Int) - 1 - i), I 0]) := fun i hi => by
    have := mates26_ok p m i
    rwa [hmat i hi] at this
  have hsn := sheets_nat hp hm
  obtain ⟨g, hg⟩ : ∃ g : Nat, m.format = g := ⟨m.format.toNat, by have := hm.fmt; omega⟩
  have hgl : g < p.fmts.length := by have := hm.fmt; omega
  have hfo := foldsOf_at hg hgl
  have hfs := folds_size hp hm
  have hcl := codes_len (foldsOf p m)
  have hg0 : 0 ≤ m.format := by omega
  have hg1 : m.format < (p.fmts.length : Int) := by omega
  have hg2 : m.format.toNat = g := by omega
  rw [hfo] at hfs hcl hw1 hw2
  have hz : sizeS (codes p.fmts[g].folds) m.half = if m.half then pw p.fmts[g].folds.size / 2 else pw p.fmts[g].folds.size := by unfold sizeS; rw [hcl]
  generalize sizeS (codes p.fmts[g].folds) m.half = Z at *
  obtain ⟨f, hf⟩ : ∃ f, f = p.fmts[g].folds := ⟨_, rfl⟩
  rw [← hf] at hz hfs
  generalize lvOf p m = l at *
  clear c1 hfo hcl hmm hmat hlr
  simp -implicitDefEqProofs [he', hwa]
  refine vCall_of c2 ?_
  simp -implicitDefEqProofs
  intro bm
  refine vCall_of c3 ?_
  simp -implicitDefEqProofs
  refine loop_up f.size (fun k st => st.env 2 = PRef p ∧ st.env 3 = .ref [U na, U nb, U nc] ∧ st.env 5 = .ref m.cs ∧ st.env 6 = LL l ∧ st.env 7 = I 0 ∧ st.env 8 = I (pw k : Nat) ∧ st.env 9 = I k) ?_ ?_
  · simp [pw]
  rintro k st hk ⟨e2, e3, e5, e6, e7, e8, e9⟩
  simp -implicitDefEqProofs [e2, e5, e9, hg0, hg1, hg2, hgl, ← hf]
  refine cond_dec (fun hlt => ?_) (fun hge => ?_)
  · have hlt : k < f.size := by omega
    have hpk : pw k ≤ 16 := pw_le (n := 4) (by omega)
    have hps := pw_succ k
    obtain ⟨P2, hP2⟩ : ∃ P2 : Nat, P2 = pw k := ⟨_, rfl⟩
    rw [← hP2] at e8 hps hpk
    simp -implicitDefEqProofs [e8, e9]
    refine ⟨i64 (by omega) (by omega), i64 (by omega) (by omega), round_ok hlt ⟨by simp [e2], by simp [e3], by simp [e5], by simp [e6], by simp [e7], ?_, by simp⟩⟩
    rw [hps]; simp
  obtain rfl : k = f.size := by omega
  have hpk : pw f.size ≤ 16 := pw_le (n := 4) (by omega)
  have hpk1 := pw_pos f.size
  obtain ⟨P2, hP2⟩ : ∃ P2 : Nat, P2 = pw f.size := ⟨_, rfl⟩
  rw [← hP2] at e8 hpk hpk1 hz
  refine cutS (fun st => st.env 2 = PRef p ∧ st.env 3 = .ref [U na, U nb, U nc] ∧ st.env 5 = .ref m.cs ∧ st.env 6 = LL l ∧ st.env 7 = I 0 ∧ st.env 8 = I Z) ?_ ?_
  · intro kk hkk
    simp -implicitDefEqProofs [e5]
    cases hh : m.half with
    | true =>
      rw [hh, if_pos rfl] at hz
      have hq : ((P2 : Int)).tdiv 2 = (Z : Int) := by rw [hz]; exact tmod_nat_div P2
      simp -implicitDefEqProofs [e8, hq]
      exact ⟨i64 (by omega) (by omega), hkk _ ⟨by simp [e2], by simp [e3], by simp [e5], by simp [e6], by simp [e7], by simp⟩⟩
    | false =>
      rw [hh, if_neg (by simp)] at hz
      simp -implicitDefEqProofs
      exact hkk _ ⟨by simp [e2], by simp [e3], by simp [e5], by simp [e6], by simp [e7], by simp [e8, hz]⟩
  clear e2 e3 e5 e6 e7 e8 e9 hge hk
  rintro st ⟨e2, e3, e5, e6, e7, e8⟩
  refine cutS (fun st => st.env 2 = PRef p ∧ st.env 3 = .ref [U na, U nb, U nc] ∧ st.env 5 = .ref m.cs ∧ st.env 6 = LL l ∧ st.env 7 = I 0 ∧ st.env 8 = I Z) ?_ ?_
  · intro kk hkk
    have hmul : (Z : Int) * m.sheets = (l.length : Int) := by rw [hw1, hsn.1]; simp
    simp -implicitDefEqProofs [e5, e6, e7, e8, hmul]
    exact ⟨i64 (by omega) (by omega), hkk _ ⟨by simp [e2], by simp [e3], by simp [e5], by simp [e6], by simp [e7], by simp [e8]⟩⟩
  clear e2 e3 e5 e6 e7 e8
  rintro st ⟨e2, e3, e5, e6, e7, e8⟩
  refine cutS (fun st => st.env 2 = PRef p ∧ st.env 3 = .ref [U na, U nb, U nc] ∧ st.env 5 = .ref m.cs ∧ st.env 6 = LL l ∧ st.env 8 = I Z) ?_ ?_
  · intro kk hkk
    simp -implicitDefEqProofs
    refine loop_up l.length (fun i st => st.env 2 = PRef p ∧ st.env 3 = .ref [U na, U nb, U nc] ∧ st.env 5 = .ref m.cs ∧ st.env 6 = LL l ∧ st.env 8 = I Z ∧ st.env 10 = I i) ?_ ?_
    · simp [e2, e3, e5, e6, e8]
    clear e2 e3 e5 e6 e7 e8
    rintro i st hi ⟨e2, e3, e5, e6, e8, e10⟩
    simp -implicitDefEqProofs [e6, e10]
    refine cond_dec (fun hlt => ?_) (fun hge => ?_)
    · have hlt : i < l.length := by omega
      simp -implicitDefEqProofs
      refine loop_up i (fun k st => st.env 2 = PRef p ∧ st.env 3 = .ref [U na, U nb, U nc] ∧ st.env 5 = .ref m.cs ∧ st.env 6 = LL l ∧ st.env 8 = I Z ∧ st.env 10 = I i ∧ st.env 11 = I k) ?_ ?_
      · simp [e2, e3, e5, e6, e8, e10]
      clear e2 e3 e5 e6 e8 e10
      rintro k st hk ⟨e2, e3, e5, e6, e8, e10, e11⟩
      simp -implicitDefEqProofs [e10, e11]
      refine cond_dec (fun hlt2 => ?_) (fun hge2 => ?_)
      · have hlt2 : k < i := by omega
        have hkl : k < l.length := by omega
        have hno : ¬ (l[i].sheet = l[k].sheet ∧ l[i].col = l[k].col ∧ l[i].row = l[k].row) := fun h => by
          have := hinj hlt hkl (by simp [plc, h.1, h.2.1, h.2.2])
          omega
        by_cases h1 : l[i].sheet = l[k].sheet
        · have h1' : (l[i].sheet == l[k].sheet) = true := by simp [h1]
          by_cases h2 : l[i].col = l[k].col
          · have h2' : (l[i].col == l[k].col) = true := by simp [h2]
            have h3' : (l[i].row == l[k].row) = false := by simp; exact fun h3 => hno ⟨h1, h2, h3⟩
            simp -implicitDefEqProofs [e6, e10, e11, hlt, hkl, h1', h2', h3']
            exact ⟨i64 (by omega) (by omega), round_ok hlt2 ⟨by simp [e2], by simp [e3], by simp [e5], by simp [e6], by simp [e8], by simp [e10], by simp⟩⟩
          · have h2' : (l[i].col == l[k].col) = false := by simp [h2]
            simp -implicitDefEqProofs [e6, e10, e11, hlt, hkl, h1', h2']
            exact ⟨i64 (by omega) (by omega), round_ok hlt2 ⟨by simp [e2], by simp [e3], by simp [e5], by simp [e6], by simp [e8], by simp [e10], by simp⟩⟩
        · have h1' : (l[i].sheet == l[k].sheet) = false := by simp [h1]
          simp -implicitDefEqProofs [e6, e10, e11, hlt, hkl, h1']
          exact ⟨i64 (by omega) (by omega), round_ok hlt2 ⟨by simp [e2], by simp [e3], by simp [e5], by simp [e6], by simp [e8], by simp [e10], by simp⟩⟩
      · have hx := hokl _ (List.getElem_mem hlt)
        have n1 : ¬ l[i].col < 0 := by omega
        have n2 : ¬ l[i].row < 0 := by omega
        have n3 : ¬ l[i].sheet < 0 := by omega
        have n4 : ¬ m.sheets ≤ l[i].sheet := by omega
        simp -implicitDefEqProofs [e5, e6, e10, hlt, n1, n2, n3, n4]
        exact ⟨i64 (by omega) (by omega), round_ok hlt ⟨by simp [e2], by simp [e3], by simp [e5], by simp [e6], by simp [e8], by simp⟩⟩
    · exact hkk _ ⟨by simp [e2], by simp [e3], by simp [e5], by simp [e6], by simp [e8]⟩
  clear e2 e3 e5 e6 e7 e8
  rintro st ⟨e2, e3, e5, e6, e8⟩
  have tb := tmod_nat nb l.length
  have tc := tmod_nat nc l.length
  have hi : nb % l.length < l.length := Nat.mod_lt _ (by omega)
  have hk : nc % l.length < l.length := Nat.mod_lt _ (by omega)
  generalize nb % l.length = i at *
  generalize nc % l.length = k at *
  have hl0 : ¬ l = [] := fun h => by rw [h] at hlen; simp at hlen
  have c5 := c4 i hi
  have c6 := c4 k hk
  have s1 := hw2 i hi
  have s2 := hw2 k hk
  simp -implicitDefEqProofs [e3, e6, hwb, hwc, tb, tc, hl0]
  simp -implicitDefEqProofs [e2, e5]
  refine vCall_of c5 ?_
  simp -implicitDefEqProofs [e2, e5]
  refine vCall_of c6 ?_
  have z1 : (((selT (mateQ l i) l.length).length : Int) != (Z : Int) - 1) = false := by simp; omega
  have z2 : (((selT (mateQ l k) l.length).length : Int) != (Z : Int) - 1) = false := by simp; omega
  have q1 := has47_ok (selT (mateQ l i) l.length) i
  have q2 := has47_ok (selT (mateQ l k) l.length) k
  have q3 := has47_ok (selT (mateQ l i) l.length) k
  have q4 := has47_ok (selT (mateQ l k) l.length) i
  have q5 := fun x => has47_ok (selT (mateQ l k) l.length) x
  have qi := ints_ok (selT (mateQ l i) l.length) (selT (mateQ l k) l.length)
  have m1 : decide ((i : Int) ∈ selT (mateQ l i) l.length) = false := by
    rw [decide_eq_false_iff_not, mem_selT']; simp [mateQ]
  have m2 : decide ((k : Int) ∈ selT (mateQ l k) l.length) = false := by
    rw [decide_eq_false_iff_not, mem_selT']; simp [mateQ]
  have m3 : decide ((k : Int) ∈ selT (mateQ l i) l.length) = ((k != i) && l[k].sheet == l[i].sheet) := by
    rw [← mateQ_at hi hk, Bool.eq_iff_iff, decide_eq_true_eq, mem_selT']; simp [hk]
  have m4 : decide ((i : Int) ∈ selT (mateQ l k) l.length) = ((i != k) && l[i].sheet == l[k].sheet) := by
    rw [← mateQ_at hk hi, Bool.eq_iff_iff, decide_eq_true_eq, mem_selT']; simp [hi]
  rw [m1] at q1
  rw [m2] at q2
  rw [m3] at q3
  rw [m4] at q4
  have hmem1 := fun {x : Int} (hx : x ∈ selT (mateQ l i) l.length) => selT_mem' hx
  have hmem2 : ∀ j, j < l.length → decide ((j : Int) ∈ selT (mateQ l k) l.length) = mateQ l k j := fun j hj => by
    rw [Bool.eq_iff_iff, decide_eq_true_eq, mem_selT']; simp [hj]
  have hlM := selT_len (mateQ l i) l.length
  by_cases hik : i = k
  · subst hik
    rw [beq_self_eq_true] at qi
    clear hmem1 hmem2 q5 c4 hw2 hokl hinj
    generalize selT (mateQ l i) l.length = A at *
    simp -implicitDefEqProofs [e8, z1]
    refine ⟨i64 (by omega) (by omega), ?_⟩
    refine vCall_of q1 ?_
    simp -implicitDefEqProofs
    refine vCall_of q1 ?_
    simp -implicitDefEqProofs
    refine vCall_of qi ?_
    simp -implicitDefEqProofs
    refine vCall_of ha ?_
    simp -implicitDefEqProofs [r10]
  have hik' : ((i : Int) == (k : Int)) = false := beq_eq_false_iff_ne.2 (by omega)
  clear c4 hw2 hokl hinj
  simp -implicitDefEqProofs [e8, z1, z2]
  refine ⟨i64 (by omega) (by omega), ?_⟩
  refine vCall_of q1 ?_
  simp -implicitDefEqProofs
  refine vCall_of q2 ?_
  simp -implicitDefEqProofs [hik']
  refine vCall_of q3 ?_
  simp -implicitDefEqProofs
  obtain ⟨A, hA⟩ : ∃ A, A = selT (mateQ l i) l.length := ⟨_, rfl⟩
  obtain ⟨C, hC⟩ : ∃ C, C = selT (mateQ l k) l.length := ⟨_, rfl⟩
  obtain ⟨tg, htg⟩ : ∃ tg : Bool, tg = ((k != i) && l[k].sheet == l[i].sheet) := ⟨_, rfl⟩
  rw [← htg]
  rw [← hA, ← hC]
  rw [← hA] at hmem1 hlM
  have hinc : ∀ {x y : Nat} (hxy : x < y) (hy : y < A.length), A[x]'(Nat.lt_trans hxy hy) < A[y] := by subst hA; exact fun hxy hy => selT_lt hxy hy
  rw [← hC] at q4 q5 hmem2
  refine loop_up A.length (fun x st => st.env 6 = LL l ∧ st.env 12 = I i ∧ st.env 13 = I k ∧ st.env 14 = IL A ∧ st.env 17 = IL C ∧ st.env 20 = B tg ∧ st.env 21 = I x) ?_ ?_
  · simp [e6]
  clear e2 e3 e5 e6 e8
  rintro x st hx ⟨e6, e12, e13, e14, e17, e20, e21⟩
  simp -implicitDefEqProofs [e14, e21]
  refine cond_dec (fun hlt => ?_) (fun hge => ?_)
  · have hlt : x < A.length := by omega
    obtain ⟨j, hj, hjl, hjq⟩ := hmem1 (List.getElem_mem hlt)
    rw [mateQ_at hi hjl] at hjq
    simp at hjq
    have hcj := q5 j
    rw [hmem2 j hjl, mateQ_at hk hjl] at hcj
    have n1 : ¬ (j : Int) < 0 := by omega
    have n2 : ¬ (l.length : Int) ≤ (j : Int) := by omega
    have n3 : (l[j].sheet != l[i].sheet) = false := by simp [hjq.2]
    have heq : j ≠ k → ((k != i) && l[k].sheet == l[i].sheet) = ((j != k) && l[j].sheet == l[k].sheet) := fun hjk => by
      rw [hjq.2]
      have h1 : (k != i) = true := by simp; omega
      have h2 : (j != k) = true := by simp [hjk]
      rw [h1, h2, Bool.true_and, Bool.true_and, Bool.eq_iff_iff]
      simp
      exact ⟨fun h => h.symm, fun h => h.symm⟩
    have hpre : 0 < x → ∃ j' : Nat, ∃ h : x - 1 < A.length, A[x - 1] = j' ∧ ¬ (j : Int) ≤ (j' : Int) := fun h0 => by
      obtain ⟨j', h1, _, _⟩ := hmem1 (List.getElem_mem (show x - 1 < A.length by omega))
      have := hinc (show x - 1 < x by omega) hlt
      rw [h1, hj] at this
      exact ⟨j', by omega, h1, by omega⟩
    by_cases hx0 : 0 < x
    · obtain ⟨j', hx1, hj', hlej⟩ := hpre hx0
      have hxs : ((x : Int) - 1).toNat = x - 1 := by omega
      have hgx : A[x - 1]? = some (j' : Int) := by rw [List.getElem?_eq_getElem hx1, hj']
      by_cases hjk : j = k
      · have hjk' : ((j : Int) != (k : Int)) = false := by simp [hjk]
        simp -implicitDefEqProofs [e6, e12, e13, e14, e21, hlt, hj, n1, n2, hx0]
        refine ⟨i64 (by omega) (by omega), by omega, by omega, ?_⟩
        simp -implicitDefEqProofs [e6, e12, e13, e14, e21, hlt, hj, hgx, hlej, hjl, hi, n3, hjk']
        exact ⟨i64 (by omega) (by omega), round_ok hlt ⟨by simp [e6], by simp [e12], by simp [e13], by simp [e14], by simp [e17], by simp [e20], by simp⟩⟩
      · have hjk' : ((j : Int) != (k : Int)) = true := by simp; omega
        have hh := heq hjk
        rw [← htg] at hh
        rw [← hh] at hcj
        simp -implicitDefEqProofs [e6, e12, e13, e14, e21, hlt, hj, n1, n2, hx0]
        refine ⟨i64 (by omega) (by omega), by omega, by omega, ?_⟩
        simp -implicitDefEqProofs [e6, e12, e13, e14, e17, e21, hlt, hj, hgx, hlej, hjl, hi, n3, hjk']
        refine vCall_of hcj ?_
        simp -implicitDefEqProofs [e20, e21]
        exact ⟨i64 (by omega) (by omega), round_ok hlt ⟨by simp [e6], by simp [e12], by simp [e13], by simp [e14], by simp [e17], by simp [e20], by simp⟩⟩
    · by_cases hjk : j = k
      · have hjk' : ((j : Int) != (k : Int)) = false := by simp [hjk]
        simp -implicitDefEqProofs [e6, e12, e13, e14, e21, hlt, hj, n1, n2, hx0, hjl, hi, n3, hjk']
        exact ⟨i64 (by omega) (by omega), round_ok hlt ⟨by simp [e6], by simp [e12], by simp [e13], by simp [e14], by simp [e17], by simp [e20], by simp⟩⟩
      · have hjk' : ((j : Int) != (k : Int)) = true := by simp; omega
        have hh := heq hjk
        rw [← htg] at hh
        rw [← hh] at hcj
        simp -implicitDefEqProofs [e6, e12, e13, e14, e17, e21, hlt, hj, n1, n2, hx0, hjl, hi, n3, hjk']
        refine vCall_of hcj ?_
        simp -implicitDefEqProofs [e20, e21]
        exact ⟨i64 (by omega) (by omega), round_ok hlt ⟨by simp [e6], by simp [e12], by simp [e13], by simp [e14], by simp [e17], by simp [e20], by simp⟩⟩
  · obtain rfl : x = A.length := by omega
    have t1 : ((i != k) && l[i].sheet == l[k].sheet) = tg := by
      rw [htg]
      have h1 : (k != i) = true := by simp; omega
      have h2 : (i != k) = true := by simp [hik]
      rw [h1, h2, Bool.true_and, Bool.true_and, Bool.eq_iff_iff]
      simp
      exact ⟨fun h => h.symm, fun h => h.symm⟩
    have t2 : (l[i].sheet == l[k].sheet) = tg := by
      rw [← t1]
      have h2 : (i != k) = true := by simp [hik]
      rw [h2, Bool.true_and]
    rw [t1] at q4
    simp -implicitDefEqProofs [e6, e12, e13, e17, e20]
    refine vCall_of q4 ?_
    simp -implicitDefEqProofs [e6, e12, e13, e20, hi, hk, t2]
    refine vCall_of ha ?_
    simp -implicitDefEqProofs [r10]
end Go.Proofs.Ytcfeipphmklakaa

