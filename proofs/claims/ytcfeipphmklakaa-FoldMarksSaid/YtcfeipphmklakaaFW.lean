/- The resolved code of some functions, written by program, each held against the function by the kernel. The resolved code of some functions, written by program, each held against the function by the kernel. All ways of making, in order: the reference's walk. Helpers of the outright laws: valid, Made, turn, halves, Has. The resolved code of some functions, written by program, each held against the function by the kernel. What the laws on leaves need: arguments, and what holds of the mates in all cases. In which leaves the watermark is: the plain law. In which leaves the watermark is: the law FoldMarks. -/
import Derived.Test.YtcfeipphmklakaaFE
import Derived.KernelRfl
import Derived.Test.YtcfeipphmklakaaFF
import Derived.Test.YtcfeipphmklakaaFC
namespace Go.Proofs.Ytcfeipphmklakaa
open Go.Avm

/- duodecimo/duodecimolaw02.FoldAgrees -/
def ann5 : Ann := { muts := [], nilsz := [], oid := [], frz := [], zero := [], ord := [], ap := [], own := [], yl := [], fz := [], imm := [] }
def m5 : MCode := (.seq (.reg [.boxI 3 (.t 0) 4, .boxI 4 (.t 1) 7, .asg 6 (.c (.lit (.bool false)))])
 (.seq (.reg [.load 16 (.t 3) (some 4), .load 17 (.t 4) (some 7), .call 18 30 [(.t 16), (.t 17)], .cpy 15 (.t 18), .ext 19 (.t 15) 0, .ext 20 (.t 15) 1, .asg 7 (.t 19), .asg 8 (.t 20)])
 (.seq (.reg [.load 22 (.t 3) (some 4), .load 23 (.t 4) (some 7), .call 24 31 [(.t 22), (.t 23)], .cpy 21 (.t 24), .ext 25 (.t 21) 0, .ext 26 (.t 21) 1, .asg 9 (.t 25), .asg 10 (.t 26)])
 (.seq (.seq (.reg [.cpy 27 (.t 7), .cpy 28 (.t 9), .call 29 32 [(.t 27), (.t 28)], .not 30 (.t 29), .cpy 31 (.t 30), .guard 31 false (some 32) (.cpy 32 (.t 8)), .guard 31 false (some 33) (.cpy 33 (.t 10)), .guard 31 false (some 34) (.bin 34 .neq (.t 32) (.t 33)), .pick 35 (.t 31) (.c (.lit (.bool true))) (.t 34)])
 (.cond (.t 35) (.seq (.reg [.asg 6 (.c (.lit (.bool false)))])
 .ret) .skip))
 (.seq (.reg [.load 37 (.t 3) (some 4), .load 38 (.t 4) (some 7), .cpy 39 (.t 2), .call 40 33 [(.t 37), (.t 38), (.t 39)], .cpy 36 (.t 40), .ext 41 (.t 36) 0, .ext 42 (.t 36) 1, .ext 43 (.t 36) 2, .asg 11 (.t 41), .asg 12 (.t 42), .asg 8 (.t 43)])
 (.seq (.reg [.load 45 (.t 3) (some 4), .load 46 (.t 4) (some 7), .cpy 47 (.t 2), .call 48 34 [(.t 45), (.t 46), (.t 47)], .cpy 44 (.t 48), .ext 49 (.t 44) 0, .ext 50 (.t 44) 1, .ext 51 (.t 44) 2, .asg 13 (.t 49), .asg 14 (.t 50), .asg 10 (.t 51)])
 (.seq (.seq (.reg [.cpy 52 (.t 11), .cpy 53 (.t 13), .call 54 25 [(.t 52), (.t 53)], .not 55 (.t 54), .cpy 56 (.t 55), .guard 56 false (some 57) (.cpy 57 (.t 12)), .guard 56 false (some 58) (.cpy 58 (.t 14)), .guard 56 false (some 59) (.call 59 25 [(.t 57), (.t 58)]), .guard 56 false (some 60) (.not 60 (.t 59)), .pick 61 (.t 56) (.c (.lit (.bool true))) (.t 60), .cpy 62 (.t 61), .guard 62 false (some 63) (.cpy 63 (.t 8)), .guard 62 false (some 64) (.cpy 64 (.t 10)), .guard 62 false (some 65) (.bin 65 .neq (.t 63) (.t 64)), .pick 66 (.t 62) (.c (.lit (.bool true))) (.t 65)])
 (.cond (.t 66) (.seq (.reg [.asg 6 (.c (.lit (.bool false)))])
 .ret) .skip))
 (.seq (.reg [.load 68 (.t 3) (some 4), .load 69 (.t 4) (some 7), .call 70 35 [(.t 68), (.t 69)], .cpy 67 (.t 70), .ext 71 (.t 67) 0, .ext 72 (.t 67) 1, .asg 11 (.t 71), .asg 8 (.t 72)])
 (.seq (.reg [.load 74 (.t 3) (some 4), .load 75 (.t 4) (some 7), .call 76 36 [(.t 74), (.t 75)], .cpy 73 (.t 76), .ext 77 (.t 73) 0, .ext 78 (.t 73) 1, .asg 13 (.t 77), .asg 10 (.t 78)])
 (.seq (.reg [.cpy 79 (.t 11), .cpy 80 (.t 13), .call 81 25 [(.t 79), (.t 80)], .cpy 82 (.t 81), .guard 82 true (some 83) (.cpy 83 (.t 8)), .guard 82 true (some 84) (.cpy 84 (.t 10)), .guard 82 true (some 85) (.bin 85 .eql (.t 83) (.t 84)), .pick 86 (.t 82) (.t 85) (.c (.lit (.bool false))), .cpy 87 (.t 86), .guard 87 true (some 88) (.call 88 19 []), .pick 89 (.t 87) (.t 88) (.c (.lit (.bool false))), .asg 6 (.t 89)])
 .ret))))))))))
def r5 : List MRes := [.tmp 6]
theorem tr5 : Try.f5.body.bind (trC Try.prog ann5 Try.f5.ntmps) = some m5 := by kernel_rfl
theorem rs5 : trRes Try.prog Try.f5.results.toList = some r5 := by kernel_rfl
theorem fn5 : isFunc Try.prog 5 = true := by kernel_rfl

/- duodecimo/duodecimoref02.Agree -/
def ann31 : Ann := { muts := [], nilsz := [(4, 4)], oid := [], frz := [], zero := [], ord := [], ap := [], own := [], yl := [], fz := [], imm := [] }
def m31 : MCode := (.seq (.reg [.boxI 2 (.t 0) 4, .boxI 3 (.t 1) 7, .asgNil 4 4, .asg 5 (.c (.lit (.int .i64 0)))])
 (.seq (.reg [.load 10 (.t 2) (some 4), .load 11 (.t 3) (some 7), .call 12 18 [(.t 10), (.t 11)], .cpy 9 (.t 12), .ext 13 (.t 9) 0, .ext 14 (.t 9) 1, .ext 15 (.t 9) 2, .asg 6 (.t 13), .asg 7 (.t 14), .asg 8 (.t 15)])
 (.seq (.seq (.reg [.cpy 16 (.t 8), .bin 17 .neq (.t 16) (.c (.lit (.int .i64 0)))])
 (.cond (.t 17) (.seq (.reg [.cpy 18 (.t 8), .asgNil 4 4, .asg 5 (.t 18)])
 .ret) .skip))
 (.seq (.reg [.load 19 (.t 2) (some 4), .load 20 (.t 3) (some 7), .call 21 79 [(.t 19), (.t 20)], .asg 4 (.t 21), .asg 5 (.c (.lit (.int .i64 0)))])
 .ret))))
def r31 : List MRes := [.tmp 4, .tmp 5]
theorem tr31 : Try.f31.body.bind (trC Try.prog ann31 Try.f31.ntmps) = some m31 := by kernel_rfl
theorem rs31 : trRes Try.prog Try.f31.results.toList = some r31 := by kernel_rfl
theorem fn31 : isFunc Try.prog 31 = true := by kernel_rfl

/- duodecimo/duodecimoref02.Together -/
def ann34 : Ann := { muts := [], nilsz := [(6, 1), (7, 1), (11, 1), (12, 1)], oid := [], frz := [], zero := [(79, [(.lit (.int .i64 0))]), (85, [(.lit (.int .i64 0))])], ord := [(16, [0, 1, 2, 3, 4, 5, 6, 7, 8, 9, 10, 11, 12, 13])], ap := [], own := [18], yl := [], fz := [], imm := [] }
def m34 : MCode := (.seq (.reg [.boxI 3 (.t 0) 4, .boxI 4 (.t 1) 7, .asgNil 6 1, .asgNil 7 1, .asg 8 (.c (.lit (.int .i64 0)))])
 (.seq (.reg [.load 20 (.t 3) (some 4), .load 21 (.t 4) (some 7), .call 22 31 [(.t 20), (.t 21)], .cpy 19 (.t 22), .ext 23 (.t 19) 0, .ext 24 (.t 19) 1, .asg 9 (.t 23), .asg 10 (.t 24)])
 (.seq (.seq (.reg [.cpy 25 (.t 10), .bin 26 .eql (.t 25) (.c (.lit (.int .i64 0))), .cpy 27 (.t 26), .guard 27 true (some 28) (.cpy 28 (.t 2)), .guard 27 true (some 29) (.addr 29 (.t 4) 0), .guard 27 true (some 30) (.load 30 (.t 29) none), .guard 27 true (some 31) (.bin 31 .sub (.t 30) (.c (.lit (.int .i64 1)))), .guard 27 true (some 32) (.call 32 60 [(.t 28), (.c (.lit (.int .i64 0))), (.t 31)]), .guard 27 true (some 33) (.not 33 (.t 32)), .pick 34 (.t 27) (.t 33) (.c (.lit (.bool false)))])
 (.cond (.t 34) (.reg [.asg 10 (.c (.lit (.int .i64 4)))]) .skip))
 (.seq (.seq (.reg [.cpy 35 (.t 10), .bin 36 .eql (.t 35) (.c (.lit (.int .i64 0))), .cpy 37 (.t 36), .guard 37 true (some 38) (.cpy 38 (.t 9)), .guard 37 true (some 39) (.len 39 (.t 38)), .guard 37 true (some 40) (.bin 40 .eql (.t 39) (.c (.lit (.int .i64 0)))), .pick 41 (.t 37) (.t 40) (.c (.lit (.bool false)))])
 (.cond (.t 41) (.reg [.asg 10 (.c (.lit (.int .i64 8)))]) .skip))
 (.seq (.seq (.reg [.cpy 42 (.t 10), .bin 43 .neq (.t 42) (.c (.lit (.int .i64 0)))])
 (.cond (.t 43) (.seq (.reg [.cpy 44 (.t 10), .asgNil 6 1, .asgNil 7 1, .asg 8 (.t 44)])
 .ret) .skip))
 (.seq (.reg [.asgNil 11 1, .asgNil 12 1])
 (.seq (.seq (.reg [.asg 13 (.c (.lit (.int .i64 0)))])
 (.block 0 (.loop (.seq (.seq (.reg [.cpy 45 (.t 13), .addr 46 (.t 4) 0, .load 47 (.t 46) none, .bin 48 .lss (.t 45) (.t 47)])
 (.cond (.t 48) .skip (.exit 0)))
 (.seq (.block 1 (.seq (.reg [.asg 14 (.c (.lit (.int .i64 0)))])
 (.seq (.seq (.reg [.asg 15 (.c (.lit (.int .i64 0)))])
 (.block 2 (.loop (.seq (.seq (.reg [.cpy 51 (.t 15), .cpy 52 (.t 9), .len 53 (.t 52), .bin 54 .lss (.t 51) (.t 53)])
 (.cond (.t 54) .skip (.exit 2)))
 (.seq (.block 3 (.seq (.reg [.load 58 (.t 3) (some 4), .cpy 59 (.t 9), .cpy 60 (.t 15), .idxS 61 (.t 59) (.t 60) 4, .load 62 (.t 61) (some 4), .cpy 63 (.t 2), .call 64 27 [(.t 58), (.t 62), (.t 63)], .cpy 57 (.t 64), .ext 65 (.t 57) 0, .ext 66 (.t 57) 1, .ext 67 (.t 57) 2, .cpyE 16 (.t 65), .cpyE 17 (.t 66), .asg 18 (.t 67)])
 (.seq (.reg [.cpy 68 (.t 16), .cpy 69 (.t 13), .call 70 47 [(.t 68), (.t 69)]])
 (.cond (.t 70) (.reg [.cpy 71 (.t 14), .bin 72 .add (.t 71) (.c (.lit (.int .i64 1))), .asg 14 (.t 72)]) .skip))))
 (.reg [.cpy 55 (.t 15), .bin 56 .add (.t 55) (.c (.lit (.int .i64 1))), .asg 15 (.t 56)]))))))
 (.seq (.seq (.reg [.cpy 73 (.t 14), .cpy 74 (.t 9), .len 75 (.t 74), .bin 76 .eql (.t 73) (.t 75)])
 (.cond (.t 76) (.reg [.cpy 77 (.t 11), .cpy 78 (.t 13), .mkS 79 1 1 [(.lit (.int .i64 0))] [(0, (.t 78))], .app 80 (.t 77) (.t 79) 1 8, .asg 11 (.t 80)]) .skip))
 (.seq (.reg [.cpy 81 (.t 14), .bin 82 .gtr (.t 81) (.c (.lit (.int .i64 0)))])
 (.cond (.t 82) (.reg [.cpy 83 (.t 12), .cpy 84 (.t 13), .mkS 85 1 1 [(.lit (.int .i64 0))] [(0, (.t 84))], .app 86 (.t 83) (.t 85) 1 8, .asg 12 (.t 86)]) .skip))))))
 (.reg [.cpy 49 (.t 13), .bin 50 .add (.t 49) (.c (.lit (.int .i64 1))), .asg 13 (.t 50)]))))))
 (.seq (.reg [.cpy 87 (.t 11), .cpy 88 (.t 12), .asg 6 (.t 87), .asg 7 (.t 88), .asg 8 (.c (.lit (.int .i64 0)))])
 .ret))))))))
def r34 : List MRes := [.tmp 6, .tmp 7, .tmp 8]
theorem tr34 : Try.f34.body.bind (trC Try.prog ann34 Try.f34.ntmps) = some m34 := by kernel_rfl
theorem rs34 : trRes Try.prog Try.f34.results.toList = some r34 := by kernel_rfl
theorem fn34 : isFunc Try.prog 34 = true := by kernel_rfl

/- duodecimo/duodecimoref02.Wrong -/
def ann36 : Ann := { muts := [], nilsz := [(4, 1), (10, 1)], oid := [], frz := [], zero := [], ord := [(10, [0, 1, 2, 3, 4, 5, 6, 7, 8, 9, 10, 11])], ap := [], own := [14], yl := [], fz := [], imm := [] }
def m36 : MCode := (.seq (.reg [.boxI 2 (.t 0) 4, .boxI 3 (.t 1) 7, .asgNil 4 1, .asg 5 (.c (.lit (.int .i64 0)))])
 (.seq (.reg [.load 16 (.t 2) (some 4), .load 17 (.t 3) (some 7), .call 18 18 [(.t 16), (.t 17)], .cpy 15 (.t 18), .ext 19 (.t 15) 0, .ext 20 (.t 15) 1, .ext 21 (.t 15) 2, .asg 6 (.t 19), .asg 7 (.t 20), .asg 8 (.t 21)])
 (.seq (.seq (.reg [.cpy 22 (.t 8), .bin 23 .neq (.t 22) (.c (.lit (.int .i64 0)))])
 (.cond (.t 23) (.seq (.reg [.cpy 24 (.t 8), .asgNil 4 1, .asg 5 (.t 24)])
 .ret) .skip))
 (.seq (.reg [.load 25 (.t 2) (some 4), .call 26 82 [(.t 25)], .asg 9 (.t 26)])
 (.seq (.reg [.asgNil 10 1])
 (.seq (.reg [.asg 11 (.c (.lit (.bool false)))])
 (.seq (.seq (.reg [.asg 12 (.c (.lit (.int .i64 0)))])
 (.block 0 (.loop (.seq (.seq (.reg [.cpy 27 (.t 12), .cpy 28 (.t 9), .len 29 (.t 28), .bin 30 .lss (.t 27) (.t 29)])
 (.cond (.t 30) .skip (.exit 0)))
 (.seq (.block 1 (.seq (.reg [.load 34 (.t 2) (some 4), .cpy 35 (.t 9), .cpy 36 (.t 12), .idxS 37 (.t 35) (.t 36) 4, .load 38 (.t 37) (some 4), .load 39 (.t 3) (some 7), .call 40 83 [(.t 34), (.t 38), (.t 39)], .cpy 33 (.t 40), .ext 41 (.t 33) 0, .ext 42 (.t 33) 1, .cpyE 13 (.t 41), .asg 14 (.t 42)])
 (.seq (.reg [.cpy 43 (.t 14), .cpy 44 (.t 43), .guard 44 true (some 45) (.cpy 45 (.t 11)), .guard 44 true (some 46) (.not 46 (.t 45)), .guard 44 true (some 47) (.cpy 47 (.t 46)), .guard 47 false (some 48) (.cpy 48 (.t 13)), .guard 47 false (some 49) (.cpy 49 (.t 10)), .guard 47 false (some 50) (.call 50 84 [(.t 48), (.t 49)]), .guard 44 true (some 51) (.pick 51 (.t 47) (.c (.lit (.bool true))) (.t 50)), .pick 52 (.t 44) (.t 51) (.c (.lit (.bool false)))])
 (.cond (.t 52) (.reg [.cpy 53 (.t 13), .asg 10 (.t 53), .asg 11 (.c (.lit (.bool true)))]) .skip))))
 (.reg [.cpy 31 (.t 12), .bin 32 .add (.t 31) (.c (.lit (.int .i64 1))), .asg 12 (.t 32)]))))))
 (.seq (.seq (.reg [.cpy 54 (.t 11), .not 55 (.t 54)])
 (.cond (.t 55) (.seq (.reg [.asgNil 4 1, .asg 5 (.c (.lit (.int .i64 9)))])
 .ret) .skip))
 (.seq (.reg [.cpy 56 (.t 10), .asg 4 (.t 56), .asg 5 (.c (.lit (.int .i64 0)))])
 .ret)))))))))
def r36 : List MRes := [.tmp 4, .tmp 5]
theorem tr36 : Try.f36.body.bind (trC Try.prog ann36 Try.f36.ntmps) = some m36 := by kernel_rfl
theorem rs36 : trRes Try.prog Try.f36.results.toList = some r36 := by kernel_rfl
theorem fn36 : isFunc Try.prog 36 = true := by kernel_rfl

/- duodecimo/duodecimoref01.Has -/
def ann47 : Ann := { muts := [], nilsz := [], oid := [], frz := [], zero := [], ord := [], ap := [], own := [], yl := [], fz := [], imm := [] }
def m47 : MCode := (.seq (.reg [.asg 4 (.c (.lit (.bool false)))])
 (.seq (.seq (.reg [.asg 5 (.c (.lit (.int .i64 0)))])
 (.block 0 (.loop (.seq (.seq (.reg [.cpy 6 (.t 5), .cpy 7 (.t 0), .len 8 (.t 7), .bin 9 .lss (.t 6) (.t 8)])
 (.cond (.t 9) .skip (.exit 0)))
 (.seq (.block 1 (.seq (.reg [.cpy 12 (.t 0), .cpy 13 (.t 5), .idxS 14 (.t 12) (.t 13) 1, .load 15 (.t 14) none, .cpy 16 (.t 1), .bin 17 .eql (.t 15) (.t 16)])
 (.cond (.t 17) (.seq (.reg [.asg 4 (.c (.lit (.bool true)))])
 .ret) .skip)))
 (.reg [.cpy 10 (.t 5), .bin 11 .add (.t 10) (.c (.lit (.int .i64 1))), .asg 5 (.t 11)]))))))
 (.seq (.reg [.asg 4 (.c (.lit (.bool false)))])
 .ret)))
def r47 : List MRes := [.tmp 4]
theorem tr47 : Try.f47.body.bind (trC Try.prog ann47 Try.f47.ntmps) = some m47 := by kernel_rfl
theorem rs47 : trRes Try.prog Try.f47.results.toList = some r47 := by kernel_rfl
theorem fn47 : isFunc Try.prog 47 = true := by kernel_rfl

/- duodecimo/duodecimoref02.Fit -/
def ann79 : Ann := { muts := [], nilsz := [(4, 4), (6, 4)], oid := [], frz := [], zero := [(39, [(.lit (.int .i64 0)), (.lit (.int .i64 0)), (.lit (.int .i64 0)), (.lit (.bool false))])], ord := [(6, [0, 1, 2, 3, 4, 5, 6, 7, 8, 9, 10, 11])], ap := [], own := [9], yl := [], fz := [], imm := [] }
def m79 : MCode := (.seq (.reg [.boxI 2 (.t 0) 4, .boxI 3 (.t 1) 7, .asgNil 4 4])
 (.seq (.reg [.load 10 (.t 2) (some 4), .call 11 82 [(.t 10)], .asg 5 (.t 11)])
 (.seq (.reg [.asgNil 6 4])
 (.seq (.seq (.reg [.asg 7 (.c (.lit (.int .i64 0)))])
 (.block 0 (.loop (.seq (.seq (.reg [.cpy 12 (.t 7), .cpy 13 (.t 5), .len 14 (.t 13), .bin 15 .lss (.t 12) (.t 14)])
 (.cond (.t 15) .skip (.exit 0)))
 (.seq (.block 1 (.seq (.reg [.load 19 (.t 2) (some 4), .cpy 20 (.t 5), .cpy 21 (.t 7), .idxS 22 (.t 20) (.t 21) 4, .load 23 (.t 22) (some 4), .load 24 (.t 3) (some 7), .call 25 83 [(.t 19), (.t 23), (.t 24)], .cpy 18 (.t 25), .ext 26 (.t 18) 0, .ext 27 (.t 18) 1, .cpyE 8 (.t 26), .asg 9 (.t 27)])
 (.seq (.reg [.cpy 28 (.t 9), .cpy 29 (.t 28), .guard 29 true (some 30) (.cpy 30 (.t 8)), .guard 29 true (some 31) (.len 31 (.t 30)), .guard 29 true (some 32) (.bin 32 .eql (.t 31) (.c (.lit (.int .i64 0)))), .pick 33 (.t 29) (.t 32) (.c (.lit (.bool false)))])
 (.cond (.t 33) (.reg [.cpy 34 (.t 6), .cpy 35 (.t 5), .cpy 36 (.t 7), .idxS 37 (.t 35) (.t 36) 4, .load 38 (.t 37) (some 4), .mkS 39 1 4 [(.lit (.int .i64 0)), (.lit (.int .i64 0)), (.lit (.int .i64 0)), (.lit (.bool false))] [(0, (.t 38))], .app 40 (.t 34) (.t 39) 4 32, .asg 6 (.t 40)]) .skip))))
 (.reg [.cpy 16 (.t 7), .bin 17 .add (.t 16) (.c (.lit (.int .i64 1))), .asg 7 (.t 17)]))))))
 (.seq (.reg [.cpy 41 (.t 6), .asg 4 (.t 41)])
 .ret)))))
def r79 : List MRes := [.tmp 4]
theorem tr79 : Try.f79.body.bind (trC Try.prog ann79 Try.f79.ntmps) = some m79 := by kernel_rfl
theorem rs79 : trRes Try.prog Try.f79.results.toList = some r79 := by kernel_rfl
theorem fn79 : isFunc Try.prog 79 = true := by kernel_rfl

/- duodecimo/duodecimoref02.Makes -/
def ann82 : Ann := { muts := [], nilsz := [(2, 4), (3, 4)], oid := [], frz := [8], zero := [(8, [(.lit (.int .i64 0)), (.lit (.int .i64 0)), (.lit (.int .i64 0)), (.lit (.bool false))]), (38, [(.lit (.int .i64 0)), (.lit (.int .i64 0)), (.lit (.int .i64 0)), (.lit (.bool false))]), (45, [(.lit (.int .i64 0)), (.lit (.int .i64 0)), (.lit (.int .i64 0)), (.lit (.bool false))])], ord := [], ap := [], own := [], yl := [], fz := [], imm := [] }
def m82 : MCode := (.seq (.reg [.boxI 1 (.t 0) 4, .asgNil 2 4])
 (.seq (.reg [.asgNil 3 4])
 (.seq (.seq (.reg [.asg 4 (.c (.lit (.int .i64 0)))])
 (.block 0 (.loop (.seq (.seq (.reg [.cpy 9 (.t 4), .addr 10 (.t 1) 0, .load 11 (.t 10) none, .len 12 (.t 11), .bin 13 .lss (.t 9) (.t 12)])
 (.cond (.t 13) .skip (.exit 0)))
 (.seq (.block 1 (.seq (.reg [.asg 5 (.c (.lit (.int .i64 0)))])
 (.block 2 (.loop (.seq (.seq (.reg [.cpy 16 (.t 5), .addr 17 (.t 1) 1, .load 18 (.t 17) none, .len 19 (.t 18), .bin 20 .lss (.t 16) (.t 19)])
 (.cond (.t 20) .skip (.exit 2)))
 (.seq (.block 3 (.seq (.reg [.asg 6 (.c (.lit (.int .i64 1)))])
 (.block 4 (.loop (.seq (.seq (.reg [.cpy 23 (.t 6), .addr 24 (.t 1) 3, .load 25 (.t 24) none, .bin 26 .leq (.t 23) (.t 25)])
 (.cond (.t 26) .skip (.exit 4)))
 (.seq (.block 5 (.seq (.reg [.asg 7 (.c (.lit (.int .i64 0)))])
 (.block 6 (.loop (.seq (.seq (.reg [.cpy 29 (.t 7), .bin 30 .lss (.t 29) (.c (.lit (.int .i64 2)))])
 (.cond (.t 30) .skip (.exit 6)))
 (.seq (.block 7 (.seq (.reg [.cpy 33 (.t 4), .cpy 34 (.t 5), .cpy 35 (.t 6), .cpy 36 (.t 7), .bin 37 .eql (.t 36) (.c (.lit (.int .i64 1))), .build 38 [(.lit (.int .i64 0)), (.lit (.int .i64 0)), (.lit (.int .i64 0)), (.lit (.bool false))] [(0, 1, (.t 33)), (1, 1, (.t 34)), (2, 1, (.t 35)), (3, 1, (.t 37))], .alloc 8 [(.lit (.int .i64 0)), (.lit (.int .i64 0)), (.lit (.int .i64 0)), (.lit (.bool false))], .storeF 8 (.t 38) 4])
 (.seq (.reg [.load 39 (.t 1) (some 4), .load 40 (.t 8) (some 4), .call 41 68 [(.t 39), (.t 40)], .bin 42 .eql (.t 41) (.c (.lit (.int .i64 0)))])
 (.cond (.t 42) (.reg [.cpy 43 (.t 3), .load 44 (.t 8) (some 4), .mkS 45 1 4 [(.lit (.int .i64 0)), (.lit (.int .i64 0)), (.lit (.int .i64 0)), (.lit (.bool false))] [(0, (.t 44))], .app 46 (.t 43) (.t 45) 4 32, .asg 3 (.t 46)]) .skip))))
 (.reg [.cpy 31 (.t 7), .bin 32 .add (.t 31) (.c (.lit (.int .i64 1))), .asg 7 (.t 32)])))))))
 (.reg [.cpy 27 (.t 6), .bin 28 .add (.t 27) (.c (.lit (.int .i64 1))), .asg 6 (.t 28)])))))))
 (.reg [.cpy 21 (.t 5), .bin 22 .add (.t 21) (.c (.lit (.int .i64 1))), .asg 5 (.t 22)])))))))
 (.reg [.cpy 14 (.t 4), .bin 15 .add (.t 14) (.c (.lit (.int .i64 1))), .asg 4 (.t 15)]))))))
 (.seq (.reg [.cpy 47 (.t 3), .asg 2 (.t 47)])
 .ret))))
def r82 : List MRes := [.tmp 2]
theorem tr82 : Try.f82.body.bind (trC Try.prog ann82 Try.f82.ntmps) = some m82 := by kernel_rfl
theorem rs82 : trRes Try.prog Try.f82.results.toList = some r82 := by kernel_rfl
theorem fn82 : isFunc Try.prog 82 = true := by kernel_rfl

/- duodecimo/duodecimoref02.Off -/
def ann83 : Ann := { muts := [], nilsz := [(6, 1), (12, 1), (17, 1)], oid := [], frz := [10], zero := [(10, [(.lit (.string ⟨#[]⟩)), (.lit (.int .i64 0)), (.lit (.int .i64 0)), (.lit (.int .i64 0)), (.lit (.int .i64 0))]), (59, [(.lit (.int .i64 0))]), (94, [(.lit (.int .i64 0))]), (106, [(.lit (.int .i64 0))]), (146, [(.lit (.int .i64 0))])], ord := [(4, [0, 1, 2, 3, 4, 5, 6, 7, 8, 9, 10, 11, 12, 13, 14, 15]), (21, [0, 1, 2, 3, 4, 5, 6, 7, 8, 9, 10, 11, 12, 13])], ap := [], own := [20], yl := [], fz := [], imm := [] }
def m83 : MCode := (.seq (.reg [.boxI 3 (.t 0) 4, .boxI 4 (.t 1) 4, .boxI 5 (.t 2) 7, .asgNil 6 1, .asg 7 (.c (.lit (.bool false)))])
 (.seq (.reg [.load 22 (.t 3) (some 4), .load 23 (.t 4) (some 4), .call 24 69 [(.t 22), (.t 23)], .asg 8 (.t 24)])
 (.seq (.seq (.reg [.cpy 25 (.t 8), .len 26 (.t 25), .addr 27 (.t 5) 0, .load 28 (.t 27) none, .bin 29 .neq (.t 26) (.t 28)])
 (.cond (.t 29) (.seq (.reg [.asgNil 6 1, .asg 7 (.c (.lit (.bool false)))])
 .ret) .skip))
 (.seq (.reg [.addr 30 (.t 3) 0, .load 31 (.t 30) none, .addr 32 (.t 4) 0, .load 33 (.t 32) none, .idxS 34 (.t 31) (.t 33) 2, .addr 35 (.t 34) 1, .load 36 (.t 35) none, .addr 37 (.t 3) 1, .load 38 (.t 37) none, .addr 39 (.t 4) 1, .load 40 (.t 39) none, .idxS 41 (.t 38) (.t 40) 5, .load 42 (.t 41) (some 5), .alloc 10 [(.lit (.string ⟨#[]⟩)), (.lit (.int .i64 0)), (.lit (.int .i64 0)), (.lit (.int .i64 0)), (.lit (.int .i64 0))], .cpyE 9 (.t 36), .storeF 10 (.t 42) 5])
 (.seq (.reg [.asg 11 (.c (.lit (.int .i64 2)))])
 (.seq (.seq (.reg [.cpy 43 (.t 9), .cpy 44 (.t 9), .lenStr 45 (.t 44), .bin 46 .sub (.t 45) (.c (.lit (.int .i64 1))), .idxStr 47 (.t 43) (.t 46), .bin 48 .eql (.t 47) (.c (.lit (.int .u8 120)))])
 (.cond (.t 48) (.reg [.asg 11 (.c (.lit (.int .i64 1)))]) .skip))
 (.seq (.reg [.asgNil 12 1])
 (.seq (.seq (.reg [.addr 49 (.t 5) 1, .load 50 (.t 49) none, .bin 51 .neq (.t 50) (.c (.lit (.int .i64 0))), .cpy 52 (.t 51), .guard 52 true (some 53) (.addr 53 (.t 5) 1), .guard 52 true (some 54) (.load 54 (.t 53) none), .guard 52 true (some 55) (.cpy 55 (.t 11)), .guard 52 true (some 56) (.bin 56 .neq (.t 54) (.t 55)), .pick 57 (.t 52) (.t 56) (.c (.lit (.bool false)))])
 (.cond (.t 57) (.reg [.cpy 58 (.t 12), .mkS 59 1 1 [(.lit (.int .i64 0))] [(0, (.c (.lit (.int .i64 0))))], .app 60 (.t 58) (.t 59) 1 8, .asg 12 (.t 60)]) .skip))
 (.seq (.reg [.load 62 (.t 3) (some 4), .load 63 (.t 4) (some 4), .addr 64 (.t 10) 1, .addr 65 (.t 64) 0, .load 66 (.t 65) none, .addr 67 (.t 10) 3, .addr 68 (.t 67) 0, .load 69 (.t 68) none, .call 70 86 [(.t 62), (.t 63), (.t 66), (.t 69)], .cpy 61 (.t 70), .ext 71 (.t 61) 0, .ext 72 (.t 61) 1, .asg 13 (.t 71), .asg 14 (.t 72)])
 (.seq (.reg [.load 74 (.t 3) (some 4), .load 75 (.t 4) (some 4), .addr 76 (.t 10) 1, .addr 77 (.t 76) 1, .load 78 (.t 77) none, .addr 79 (.t 10) 3, .addr 80 (.t 79) 1, .load 81 (.t 80) none, .call 82 86 [(.t 74), (.t 75), (.t 78), (.t 81)], .cpy 73 (.t 82), .ext 83 (.t 73) 0, .ext 84 (.t 73) 1, .asg 15 (.t 83), .asg 16 (.t 84)])
 (.seq (.seq (.reg [.cpy 85 (.t 13), .cpy 86 (.t 15), .addr 87 (.t 3) 2, .load 88 (.t 87) none, .addr 89 (.t 5) 2, .load 90 (.t 89) (some 2), .call 91 105 [(.t 85), (.t 86), (.t 88), (.t 90)], .not 92 (.t 91)])
 (.cond (.t 92) (.reg [.cpy 93 (.t 12), .mkS 94 1 1 [(.lit (.int .i64 0))] [(0, (.c (.lit (.int .i64 1))))], .app 95 (.t 93) (.t 94) 1 8, .asg 12 (.t 95)]) .skip))
 (.seq (.seq (.reg [.cpy 96 (.t 14), .cpy 97 (.t 16), .addr 98 (.t 3) 2, .load 99 (.t 98) none, .bin 100 .mul (.c (.lit (.int .i64 2))) (.t 99), .addr 101 (.t 5) 4, .load 102 (.t 101) (some 2), .call 103 105 [(.t 96), (.t 97), (.t 100), (.t 102)], .not 104 (.t 103)])
 (.cond (.t 104) (.reg [.cpy 105 (.t 12), .mkS 106 1 1 [(.lit (.int .i64 0))] [(0, (.c (.lit (.int .i64 2))))], .app 107 (.t 105) (.t 106) 1 8, .asg 12 (.t 107)]) .skip))
 (.seq (.reg [.asgNil 17 1])
 (.seq (.seq (.reg [.asg 18 (.c (.lit (.int .i64 0)))])
 (.block 0 (.loop (.seq (.seq (.reg [.cpy 108 (.t 18), .addr 109 (.t 4) 2, .load 110 (.t 109) none, .bin 111 .lss (.t 108) (.t 110)])
 (.cond (.t 111) .skip (.exit 0)))
 (.seq (.block 1 (.seq (.reg [.load 114 (.t 3) (some 4), .load 115 (.t 4) (some 4), .cpy 116 (.t 8), .load 117 (.t 5) (some 7), .cpy 118 (.t 18), .call 119 106 [(.t 114), (.t 115), (.t 116), (.t 117), (.t 118), (.c (.lit (.int .i64 0)))], .load 120 (.t 3) (some 4), .load 121 (.t 4) (some 4), .cpy 122 (.t 8), .load 123 (.t 5) (some 7), .cpy 124 (.t 18), .call 125 106 [(.t 120), (.t 121), (.t 122), (.t 123), (.t 124), (.c (.lit (.int .i64 1)))], .cpyE 19 (.t 119), .asg 20 (.t 125)])
 (.seq (.seq (.reg [.cpy 126 (.t 20), .cpy 127 (.t 19), .call 128 84 [(.t 126), (.t 127)]])
 (.cond (.t 128) (.reg [.cpy 129 (.t 20), .asg 19 (.t 129)]) .skip))
 (.reg [.cpy 130 (.t 17), .cpy 131 (.t 19), .app 132 (.t 130) (.t 131) 1 8, .asg 17 (.t 132)]))))
 (.reg [.cpy 112 (.t 18), .bin 113 .add (.t 112) (.c (.lit (.int .i64 1))), .asg 18 (.t 113)]))))))
 (.seq (.seq (.reg [.asg 21 (.c (.lit (.int .i64 3)))])
 (.block 2 (.loop (.seq (.seq (.reg [.cpy 133 (.t 21), .addr 134 (.t 5) 6, .load 135 (.t 134) none, .len 136 (.t 135), .bin 137 .add (.c (.lit (.int .i64 3))) (.t 136), .bin 138 .lss (.t 133) (.t 137)])
 (.cond (.t 138) .skip (.exit 2)))
 (.seq (.block 3 (.seq (.reg [.cpy 141 (.t 17), .cpy 142 (.t 21), .call 143 47 [(.t 141), (.t 142)]])
 (.cond (.t 143) (.reg [.cpy 144 (.t 12), .cpy 145 (.t 21), .mkS 146 1 1 [(.lit (.int .i64 0))] [(0, (.t 145))], .app 147 (.t 144) (.t 146) 1 8, .asg 12 (.t 147)]) .skip)))
 (.reg [.cpy 139 (.t 21), .bin 140 .add (.t 139) (.c (.lit (.int .i64 1))), .asg 21 (.t 140)]))))))
 (.seq (.reg [.cpy 148 (.t 12), .asg 6 (.t 148), .asg 7 (.c (.lit (.bool true)))])
 .ret))))))))))))))))
def r83 : List MRes := [.tmp 6, .tmp 7]
theorem tr83 : Try.f83.body.bind (trC Try.prog ann83 Try.f83.ntmps) = some m83 := by kernel_rfl
theorem rs83 : trRes Try.prog Try.f83.results.toList = some r83 := by kernel_rfl
theorem fn83 : isFunc Try.prog 83 = true := by kernel_rfl

/- duodecimo/duodecimoref02.less -/
def ann84 : Ann := { muts := [], nilsz := [], oid := [], frz := [], zero := [], ord := [(6, [0, 1, 2, 3, 4, 5, 6, 7, 8]), (7, [0, 1, 2, 3, 4, 5, 6, 7, 8, 9])], ap := [], own := [4], yl := [], fz := [], imm := [] }
def m84 : MCode := (.seq (.reg [.asg 4 (.c (.lit (.bool false)))])
 (.seq (.seq (.reg [.cpy 6 (.t 0), .len 7 (.t 6), .cpy 8 (.t 1), .len 9 (.t 8), .bin 10 .neq (.t 7) (.t 9)])
 (.cond (.t 10) (.seq (.reg [.cpy 11 (.t 0), .len 12 (.t 11), .cpy 13 (.t 1), .len 14 (.t 13), .bin 15 .lss (.t 12) (.t 14), .asg 4 (.t 15)])
 .ret) .skip))
 (.seq (.seq (.reg [.asg 5 (.c (.lit (.int .i64 0)))])
 (.block 0 (.loop (.seq (.seq (.reg [.cpy 16 (.t 5), .cpy 17 (.t 0), .len 18 (.t 17), .bin 19 .lss (.t 16) (.t 18)])
 (.cond (.t 19) .skip (.exit 0)))
 (.seq (.block 1 (.seq (.reg [.cpy 22 (.t 0), .cpy 23 (.t 5), .idxS 24 (.t 22) (.t 23) 1, .load 25 (.t 24) none, .cpy 26 (.t 1), .cpy 27 (.t 5), .idxS 28 (.t 26) (.t 27) 1, .load 29 (.t 28) none, .bin 30 .neq (.t 25) (.t 29)])
 (.cond (.t 30) (.seq (.reg [.cpy 31 (.t 0), .cpy 32 (.t 5), .idxS 33 (.t 31) (.t 32) 1, .load 34 (.t 33) none, .cpy 35 (.t 1), .cpy 36 (.t 5), .idxS 37 (.t 35) (.t 36) 1, .load 38 (.t 37) none, .bin 39 .lss (.t 34) (.t 38), .asg 4 (.t 39)])
 .ret) .skip)))
 (.reg [.cpy 20 (.t 5), .bin 21 .add (.t 20) (.c (.lit (.int .i64 1))), .asg 5 (.t 21)]))))))
 (.seq (.reg [.asg 4 (.c (.lit (.bool false)))])
 .ret))))
def r84 : List MRes := [.tmp 4]
theorem tr84 : Try.f84.body.bind (trC Try.prog ann84 Try.f84.ntmps) = some m84 := by kernel_rfl
theorem rs84 : trRes Try.prog Try.f84.results.toList = some r84 := by kernel_rfl
theorem fn84 : isFunc Try.prog 84 = true := by kernel_rfl

/- duodecimo/duodecimoref02.Size -/
def ann86 : Ann := { muts := [], nilsz := [], oid := [], frz := [], zero := [], ord := [(2, [0, 1, 2, 3, 4, 5, 6, 7, 8, 9])], ap := [], own := [12], yl := [], fz := [], imm := [] }
def m86 : MCode := (.seq (.reg [.boxI 4 (.t 0) 4, .boxI 5 (.t 1) 4, .asg 8 (.c (.lit (.int .i64 0))), .asg 9 (.c (.lit (.int .i64 0)))])
 (.seq (.reg [.addr 13 (.t 4) 0, .load 14 (.t 13) none, .addr 15 (.t 5) 0, .load 16 (.t 15) none, .idxS 17 (.t 14) (.t 16) 2, .addr 18 (.t 17) 1, .load 19 (.t 18) none, .asg 10 (.t 19)])
 (.seq (.reg [.cpy 20 (.t 2), .cpy 21 (.t 10), .call 22 72 [(.t 21), (.c (.lit (.int .u8 120)))], .bin 23 .quo (.t 20) (.t 22), .cpy 24 (.t 3), .cpy 25 (.t 10), .call 26 72 [(.t 25), (.c (.lit (.int .u8 121)))], .bin 27 .quo (.t 24) (.t 26), .cpyE 11 (.t 23), .asg 12 (.t 27)])
 (.seq (.seq (.reg [.cpy 28 (.t 10), .cpy 29 (.t 10), .lenStr 30 (.t 29), .bin 31 .sub (.t 30) (.c (.lit (.int .i64 1))), .idxStr 32 (.t 28) (.t 31), .bin 33 .eql (.t 32) (.c (.lit (.int .u8 120)))])
 (.cond (.t 33) (.seq (.reg [.cpy 34 (.t 11), .cpy 35 (.t 12), .asg 8 (.t 34), .asg 9 (.t 35)])
 .ret) .skip))
 (.seq (.reg [.cpy 36 (.t 12), .cpy 37 (.t 11), .asg 8 (.t 36), .asg 9 (.t 37)])
 .ret)))))
def r86 : List MRes := [.tmp 8, .tmp 9]
theorem tr86 : Try.f86.body.bind (trC Try.prog ann86 Try.f86.ntmps) = some m86 := by kernel_rfl
theorem rs86 : trRes Try.prog Try.f86.results.toList = some r86 := by kernel_rfl
theorem fn86 : isFunc Try.prog 86 = true := by kernel_rfl

/- duodecimo/duodecimoref02.met -/
def ann105 : Ann := { muts := [], nilsz := [], oid := [], frz := [], zero := [], ord := [], ap := [], own := [], yl := [], fz := [], imm := [] }
def m105 : MCode := (.seq (.reg [.boxI 7 (.t 3) 2, .asg 8 (.c (.lit (.bool false)))])
 (.seq (.reg [.cpy 9 (.t 0), .cpy 10 (.t 2), .bin 11 .sub (.t 9) (.t 10), .addr 12 (.t 7) 1, .load 13 (.t 12) none, .bin 14 .leq (.t 11) (.t 13), .cpy 15 (.t 14), .guard 15 true (some 16) (.cpy 16 (.t 1)), .guard 15 true (some 17) (.addr 17 (.t 7) 0), .guard 15 true (some 18) (.load 18 (.t 17) none), .guard 15 true (some 19) (.bin 19 .geq (.t 16) (.t 18)), .pick 20 (.t 15) (.t 19) (.c (.lit (.bool false))), .asg 8 (.t 20)])
 .ret))
def r105 : List MRes := [.tmp 8]
theorem tr105 : Try.f105.body.bind (trC Try.prog ann105 Try.f105.ntmps) = some m105 := by kernel_rfl
theorem rs105 : trRes Try.prog Try.f105.results.toList = some r105 := by kernel_rfl
theorem fn105 : isFunc Try.prog 105 = true := by kernel_rfl

/- duodecimo/duodecimoref02.untrue -/
def ann106 : Ann := { muts := [], nilsz := [(12, 1), (13, 1)], oid := [], frz := [15], zero := [(15, [(.lit (.int .i64 0)), (.lit (.int .i64 0)), (.lit (.int .i64 0)), (.lit (.bool false)), (.lit (.bool false))]), (53, [(.lit (.int .i64 0))])], ord := [(6, [0, 1, 2, 3, 4, 5, 6, 7, 8, 9, 10, 11, 12, 13, 14, 15, 16, 17])], ap := [], own := [], yl := [], fz := [], imm := [] }
def m106 : MCode := (.seq (.reg [.boxI 6 (.t 0) 4, .boxI 7 (.t 1) 4, .boxI 9 (.t 3) 7, .asgNil 12 1])
 (.seq (.reg [.asgNil 13 1])
 (.seq (.seq (.reg [.asg 14 (.c (.lit (.int .i64 0)))])
 (.block 0 (.loop (.seq (.seq (.reg [.cpy 16 (.t 14), .addr 17 (.t 9) 6, .load 18 (.t 17) none, .len 19 (.t 18), .bin 20 .lss (.t 16) (.t 19)])
 (.cond (.t 20) .skip (.exit 0)))
 (.seq (.block 1 (.seq (.reg [.cpy 23 (.t 2), .addr 24 (.t 9) 6, .load 25 (.t 24) none, .cpy 26 (.t 14), .idxS 27 (.t 25) (.t 26) 2, .addr 28 (.t 27) 0, .load 29 (.t 28) none, .idxS 30 (.t 23) (.t 29) 5, .load 31 (.t 30) (some 5), .alloc 15 [(.lit (.int .i64 0)), (.lit (.int .i64 0)), (.lit (.int .i64 0)), (.lit (.bool false)), (.lit (.bool false))], .storeF 15 (.t 31) 5])
 (.seq (.reg [.addr 32 (.t 15) 0, .load 33 (.t 32) none, .cpy 34 (.t 4), .bin 35 .eql (.t 33) (.t 34), .cpy 36 (.t 35), .guard 36 true (some 37) (.load 37 (.t 6) (some 4)), .guard 36 true (some 38) (.load 38 (.t 7) (some 4)), .guard 36 true (some 39) (.load 39 (.t 15) (some 5)), .guard 36 true (some 40) (.cpy 40 (.t 5)), .guard 36 true (some 41) (.call 41 75 [(.t 37), (.t 38), (.t 39), (.t 40)]), .guard 36 true (some 42) (.addr 42 (.t 9) 6), .guard 36 true (some 43) (.load 43 (.t 42) none), .guard 36 true (some 44) (.cpy 44 (.t 14)), .guard 36 true (some 45) (.idxS 45 (.t 43) (.t 44) 2), .guard 36 true (some 46) (.addr 46 (.t 45) 1), .guard 36 true (some 47) (.load 47 (.t 46) none), .guard 36 true (some 48) (.binB 48 true (.t 41) (.t 47)), .pick 49 (.t 36) (.t 48) (.c (.lit (.bool false)))])
 (.cond (.t 49) (.reg [.cpy 50 (.t 13), .cpy 51 (.t 14), .bin 52 .add (.c (.lit (.int .i64 3))) (.t 51), .mkS 53 1 1 [(.lit (.int .i64 0))] [(0, (.t 52))], .app 54 (.t 50) (.t 53) 1 8, .asg 13 (.t 54)]) .skip))))
 (.reg [.cpy 21 (.t 14), .bin 22 .add (.t 21) (.c (.lit (.int .i64 1))), .asg 14 (.t 22)]))))))
 (.seq (.reg [.cpy 55 (.t 13), .asg 12 (.t 55)])
 .ret))))
def r106 : List MRes := [.tmp 12]
theorem tr106 : Try.f106.body.bind (trC Try.prog ann106 Try.f106.ntmps) = some m106 := by kernel_rfl
theorem rs106 : trRes Try.prog Try.f106.results.toList = some r106 := by kernel_rfl
theorem fn106 : isFunc Try.prog 106 = true := by kernel_rfl
end Go.Proofs.Ytcfeipphmklakaa

namespace Go.Proofs.Ytcfeipphmklakaa
open Go.Avm

/- duodecimo/duodecimolaw02.valid -/
def ann42 : Ann := { muts := [], nilsz := [], oid := [], frz := [], zero := [], ord := [], ap := [], own := [], yl := [], fz := [], imm := [] }
def m42 : MCode := (.seq (.reg [.boxI 1 (.t 0) 4, .asg 2 (.c (.lit (.bool false)))])
 (.seq (.reg [.load 7 (.t 1) (some 4), .call 8 16 [(.t 7)], .cpy 6 (.t 8), .ext 9 (.t 6) 0, .ext 10 (.t 6) 1, .ext 11 (.t 6) 2, .asg 3 (.t 9), .asg 4 (.t 10), .asg 5 (.t 11)])
 (.seq (.reg [.cpy 12 (.t 5), .bin 13 .eql (.t 12) (.c (.lit (.int .i64 0))), .asg 2 (.t 13)])
 .ret)))
def r42 : List MRes := [.tmp 2]
theorem tr42 : Try.f42.body.bind (trC Try.prog ann42 Try.f42.ntmps) = some m42 := by kernel_rfl
theorem rs42 : trRes Try.prog Try.f42.results.toList = some r42 := by kernel_rfl
theorem fn42 : isFunc Try.prog 42 = true := by kernel_rfl

/- duodecimo/duodecimolaw02.one -/
def ann44 : Ann := { muts := [], nilsz := [], oid := [], frz := [], zero := [], ord := [(4, [0, 1, 2, 3, 4, 5])], ap := [], own := [], yl := [], fz := [], imm := [] }
def m44 : MCode := (.seq (.reg [.boxI 3 (.t 1) 4, .asg 4 (.c (.lit (.bool false)))])
 (.seq (.seq (.reg [.asg 5 (.c (.lit (.int .i64 0)))])
 (.block 0 (.loop (.seq (.seq (.reg [.cpy 6 (.t 5), .cpy 7 (.t 0), .len 8 (.t 7), .bin 9 .lss (.t 6) (.t 8)])
 (.cond (.t 9) .skip (.exit 0)))
 (.seq (.block 1 (.seq (.reg [.cpy 12 (.t 0), .cpy 13 (.t 5), .idxS 14 (.t 12) (.t 13) 4, .load 15 (.t 14) (some 4), .load 16 (.t 3) (some 4), .binA 17 false [false, false, false, true] (.t 15) (.t 16)])
 (.cond (.t 17) (.seq (.reg [.asg 4 (.c (.lit (.bool true)))])
 .ret) .skip)))
 (.reg [.cpy 10 (.t 5), .bin 11 .add (.t 10) (.c (.lit (.int .i64 1))), .asg 5 (.t 11)]))))))
 (.seq (.reg [.asg 4 (.c (.lit (.bool false)))])
 .ret)))
def r44 : List MRes := [.tmp 4]
theorem tr44 : Try.f44.body.bind (trC Try.prog ann44 Try.f44.ntmps) = some m44 := by kernel_rfl
theorem rs44 : trRes Try.prog Try.f44.results.toList = some r44 := by kernel_rfl
theorem fn44 : isFunc Try.prog 44 = true := by kernel_rfl

/- duodecimo/duodecimolaw02.part -/
def ann45 : Ann := { muts := [], nilsz := [], oid := [], frz := [], zero := [], ord := [], ap := [], own := [], yl := [], fz := [], imm := [] }
def m45 : MCode := (.seq (.reg [.asg 4 (.c (.lit (.bool false)))])
 (.seq (.seq (.reg [.asg 5 (.c (.lit (.int .i64 0)))])
 (.block 0 (.loop (.seq (.seq (.reg [.cpy 6 (.t 5), .cpy 7 (.t 0), .len 8 (.t 7), .bin 9 .lss (.t 6) (.t 8)])
 (.cond (.t 9) .skip (.exit 0)))
 (.seq (.block 1 (.seq (.reg [.cpy 12 (.t 1), .cpy 13 (.t 0), .cpy 14 (.t 5), .idxS 15 (.t 13) (.t 14) 1, .load 16 (.t 15) none, .call 17 47 [(.t 12), (.t 16)], .not 18 (.t 17)])
 (.cond (.t 18) (.seq (.reg [.asg 4 (.c (.lit (.bool false)))])
 .ret) .skip)))
 (.reg [.cpy 10 (.t 5), .bin 11 .add (.t 10) (.c (.lit (.int .i64 1))), .asg 5 (.t 11)]))))))
 (.seq (.reg [.asg 4 (.c (.lit (.bool true)))])
 .ret)))
def r45 : List MRes := [.tmp 4]
theorem tr45 : Try.f45.body.bind (trC Try.prog ann45 Try.f45.ntmps) = some m45 := by kernel_rfl
theorem rs45 : trRes Try.prog Try.f45.results.toList = some r45 := by kernel_rfl
theorem fn45 : isFunc Try.prog 45 = true := by kernel_rfl

/- duodecimo/duodecimolaw02.Made -/
def ann46 : Ann := { muts := [], nilsz := [], oid := [], frz := [4], zero := [(4, [(.lit (.int .i64 0)), (.lit (.int .i64 0)), (.lit (.int .i64 0)), (.lit (.bool false))])], ord := [], ap := [], own := [], yl := [], fz := [], imm := [] }
def m46 : MCode := (.seq (.reg [.boxI 2 (.t 0) 4, .alloc 4 [(.lit (.int .i64 0)), (.lit (.int .i64 0)), (.lit (.int .i64 0)), (.lit (.bool false))]])
 (.seq (.reg [.load 6 (.t 2) (some 4), .call 7 82 [(.t 6)], .asg 5 (.t 7)])
 (.seq (.reg [.cpy 8 (.t 5), .cpy 9 (.t 1), .cpy 10 (.t 5), .len 11 (.t 10), .bin 12 .rem (.t 9) (.t 11), .idxS 13 (.t 8) (.t 12) 4, .load 14 (.t 13) (some 4), .storeF 4 (.t 14) 4])
 .ret)))
def r46 : List MRes := [.cell 4 (some 4)]
theorem tr46 : Try.f46.body.bind (trC Try.prog ann46 Try.f46.ntmps) = some m46 := by kernel_rfl
theorem rs46 : trRes Try.prog Try.f46.results.toList = some r46 := by kernel_rfl
theorem fn46 : isFunc Try.prog 46 = true := by kernel_rfl

/- duodecimo/duodecimolaw02.halves -/
def ann48 : Ann := { muts := [], nilsz := [(4, 1), (5, 1)], oid := [], frz := [], zero := [(18, [(.lit (.int .i64 0))])], ord := [], ap := [], own := [], yl := [], fz := [], imm := [] }
def m48 : MCode := (.seq (.reg [.boxI 2 (.t 0) 4, .asgNil 4 1])
 (.seq (.reg [.asgNil 5 1])
 (.seq (.seq (.reg [.asg 6 (.c (.lit (.int .i64 0)))])
 (.block 0 (.loop (.seq (.seq (.reg [.cpy 7 (.t 6), .addr 8 (.t 2) 2, .load 9 (.t 8) none, .bin 10 .lss (.t 7) (.t 9)])
 (.cond (.t 10) .skip (.exit 0)))
 (.seq (.block 1 (.reg [.cpy 13 (.t 5), .cpy 14 (.t 1), .cpy 15 (.t 6), .call 16 85 [(.t 14), (.t 15)], .bin 17 .rem (.t 16) (.c (.lit (.int .i64 2))), .mkS 18 1 1 [(.lit (.int .i64 0))] [(0, (.t 17))], .app 19 (.t 13) (.t 18) 1 8, .asg 5 (.t 19)]))
 (.reg [.cpy 11 (.t 6), .bin 12 .add (.t 11) (.c (.lit (.int .i64 1))), .asg 6 (.t 12)]))))))
 (.seq (.reg [.cpy 20 (.t 5), .asg 4 (.t 20)])
 .ret))))
def r48 : List MRes := [.tmp 4]
theorem tr48 : Try.f48.body.bind (trC Try.prog ann48 Try.f48.ntmps) = some m48 := by kernel_rfl
theorem rs48 : trRes Try.prog Try.f48.results.toList = some r48 := by kernel_rfl
theorem fn48 : isFunc Try.prog 48 = true := by kernel_rfl

/- duodecimo/duodecimolaw02.good -/
def ann49 : Ann := { muts := [], nilsz := [], oid := [], frz := [], zero := [], ord := [], ap := [], own := [], yl := [], fz := [], imm := [] }
def m49 : MCode := (.seq (.reg [.boxI 2 (.t 0) 4, .boxI 3 (.t 1) 7, .asg 4 (.c (.lit (.bool false)))])
 (.seq (.reg [.load 9 (.t 2) (some 4), .load 10 (.t 3) (some 7), .call 11 18 [(.t 9), (.t 10)], .cpy 8 (.t 11), .ext 12 (.t 8) 0, .ext 13 (.t 8) 1, .ext 14 (.t 8) 2, .asg 5 (.t 12), .asg 6 (.t 13), .asg 7 (.t 14)])
 (.seq (.reg [.cpy 15 (.t 7), .bin 16 .eql (.t 15) (.c (.lit (.int .i64 0))), .asg 4 (.t 16)])
 .ret)))
def r49 : List MRes := [.tmp 4]
theorem tr49 : Try.f49.body.bind (trC Try.prog ann49 Try.f49.ntmps) = some m49 := by kernel_rfl
theorem rs49 : trRes Try.prog Try.f49.results.toList = some r49 := by kernel_rfl
theorem fn49 : isFunc Try.prog 49 = true := by kernel_rfl

/- duodecimo/duodecimolaw02.without -/
def ann50 : Ann := { muts := [], nilsz := [(1000008, 2)], oid := [(8, 6006), (41, 6006)], frz := [4], zero := [(4, [(.lit (.int .i64 0)), (.lit (.int .i64 0)), (.lit (.int .i64 0)), (.lit (.int .i64 0)), (.lit (.int .i64 0)), (.lit (.int .i64 0)), (.slice 2 [] 5006)]), (5, [(.lit (.int .i64 0)), (.lit (.int .i64 0)), (.lit (.int .i64 0)), (.lit (.int .i64 0)), (.lit (.int .i64 0)), (.lit (.int .i64 0)), (.slice 2 [] 6006)]), (39, [(.lit (.int .i64 0)), (.lit (.bool false))])], ord := [(13, [0, 1, 2, 3, 4, 5, 6, 7, 8, 9, 10])], ap := [(41, [])], own := [], yl := [], fz := [], imm := [] }
def m50 : MCode := (.seq (.reg [.boxI 2 (.t 0) 7, .alloc 4 [(.lit (.int .i64 0)), (.lit (.int .i64 0)), (.lit (.int .i64 0)), (.lit (.int .i64 0)), (.lit (.int .i64 0)), (.lit (.int .i64 0)), (.slice 2 [] 5006)]])
 (.seq (.reg [.load 7 (.t 2) (some 7), .alloc 5 [(.lit (.int .i64 0)), (.lit (.int .i64 0)), (.lit (.int .i64 0)), (.lit (.int .i64 0)), (.lit (.int .i64 0)), (.lit (.int .i64 0)), (.slice 2 [] 6006)], .store (.t 5) (.t 7) 7 0])
 (.seq (.reg [.addr 8 (.t 5) 6, .storeNil (.t 8) 2 6006])
 (.seq (.seq (.reg [.cpy 9 (.t 1), .call 10 47 [(.t 9), (.c (.lit (.int .i64 0)))]])
 (.cond (.t 10) (.reg [.addr 11 (.t 5) 1, .store (.t 11) (.c (.lit (.int .i64 0))) 1 0]) .skip))
 (.seq (.seq (.reg [.cpy 12 (.t 1), .call 13 47 [(.t 12), (.c (.lit (.int .i64 1)))]])
 (.cond (.t 13) (.reg [.call 14 41 [], .addr 15 (.t 5) 2, .store (.t 15) (.t 14) 2 0]) .skip))
 (.seq (.seq (.reg [.cpy 16 (.t 1), .call 17 47 [(.t 16), (.c (.lit (.int .i64 2)))]])
 (.cond (.t 17) (.reg [.call 18 41 [], .addr 19 (.t 5) 4, .store (.t 19) (.t 18) 2 0]) .skip))
 (.seq (.seq (.reg [.asg 6 (.c (.lit (.int .i64 0)))])
 (.block 0 (.loop (.seq (.seq (.reg [.cpy 20 (.t 6), .addr 21 (.t 2) 6, .load 22 (.t 21) none, .len 23 (.t 22), .bin 24 .lss (.t 20) (.t 23)])
 (.cond (.t 24) .skip (.exit 0)))
 (.seq (.block 1 (.seq (.reg [.cpy 27 (.t 1), .cpy 28 (.t 6), .bin 29 .add (.c (.lit (.int .i64 3))) (.t 28), .call 30 47 [(.t 27), (.t 29)], .not 31 (.t 30)])
 (.cond (.t 31) (.reg [.addr 32 (.t 5) 6, .load 33 (.t 32) none, .addr 34 (.t 2) 6, .load 35 (.t 34) none, .cpy 36 (.t 6), .idxS 37 (.t 35) (.t 36) 2, .load 38 (.t 37) (some 2), .mkS 39 1 2 [(.lit (.int .i64 0)), (.lit (.bool false))] [(0, (.t 38))], .app 40 (.t 33) (.t 39) 2 16, .addr 41 (.t 5) 6, .apart [] (.t 41) (.store (.t 41) (.t 40) 1 6006)]) .skip)))
 (.reg [.cpy 25 (.t 6), .bin 26 .add (.t 25) (.c (.lit (.int .i64 1))), .asg 6 (.t 26)]))))))
 (.seq (.reg [.load 42 (.t 5) (some 7), .storeF 4 (.t 42) 7])
 .ret))))))))
def r50 : List MRes := [.cell 4 (some 7)]
theorem tr50 : Try.f50.body.bind (trC Try.prog ann50 Try.f50.ntmps) = some m50 := by kernel_rfl
theorem rs50 : trRes Try.prog Try.f50.results.toList = some r50 := by kernel_rfl
theorem fn50 : isFunc Try.prog 50 = true := by kernel_rfl

/- duodecimo/duodecimolaw02.turn -/
def ann85 : Ann := { muts := [], nilsz := [], oid := [], frz := [], zero := [], ord := [], ap := [], own := [], yl := [], fz := [], imm := [] }
def m85 : MCode := (.seq (.reg [.asg 4 (.c (.lit (.int .i64 0)))])
 (.seq (.seq (.reg [.cpy 5 (.t 0), .len 6 (.t 5), .bin 7 .eql (.t 6) (.c (.lit (.int .i64 0)))])
 (.cond (.t 7) (.seq (.reg [.asg 4 (.c (.lit (.int .i64 0)))])
 .ret) .skip))
 (.seq (.reg [.cpy 8 (.t 0), .cpy 9 (.t 1), .cpy 10 (.t 0), .len 11 (.t 10), .bin 12 .rem (.t 9) (.t 11), .idxS 13 (.t 8) (.t 12) 1, .load 14 (.t 13) none, .conv 15 .i64 (.t 14), .asg 4 (.t 15)])
 .ret)))
def r85 : List MRes := [.tmp 4]
theorem tr85 : Try.f85.body.bind (trC Try.prog ann85 Try.f85.ntmps) = some m85 := by kernel_rfl
theorem rs85 : trRes Try.prog Try.f85.results.toList = some r85 := by kernel_rfl
theorem fn85 : isFunc Try.prog 85 = true := by kernel_rfl

/- duodecimo/duodecimolaw02.among -/
def ann87 : Ann := { muts := [], nilsz := [], oid := [], frz := [], zero := [], ord := [(1, [0, 1, 2, 3, 4, 5, 6, 7, 8, 9, 10, 11])], ap := [], own := [4], yl := [], fz := [], imm := [] }
def m87 : MCode := (.seq (.reg [.boxI 2 (.t 0) 2, .asg 4 (.c (.lit (.int .i64 0)))])
 (.seq (.reg [.addr 5 (.t 2) 0, .load 6 (.t 5) none, .cpy 7 (.t 1), .addr 8 (.t 2) 1, .load 9 (.t 8) none, .addr 10 (.t 2) 0, .load 11 (.t 10) none, .bin 12 .sub (.t 9) (.t 11), .bin 13 .add (.t 12) (.c (.lit (.int .i64 1))), .bin 14 .rem (.t 7) (.t 13), .bin 15 .add (.t 6) (.t 14), .asg 4 (.t 15)])
 .ret))
def r87 : List MRes := [.tmp 4]
theorem tr87 : Try.f87.body.bind (trC Try.prog ann87 Try.f87.ntmps) = some m87 := by kernel_rfl
theorem rs87 : trRes Try.prog Try.f87.results.toList = some r87 := by kernel_rfl
theorem fn87 : isFunc Try.prog 87 = true := by kernel_rfl

/- duodecimo/duodecimolaw02.has -/
def ann88 : Ann := { muts := [], nilsz := [], oid := [], frz := [9], zero := [(9, [(.lit (.int .i64 0)), (.lit (.int .i64 0)), (.lit (.int .i64 0)), (.lit (.bool false)), (.lit (.bool false))])], ord := [(2, [0, 1, 2, 3, 4, 5, 6, 7, 8, 9, 10, 11])], ap := [], own := [8], yl := [], fz := [], imm := [] }
def m88 : MCode := (.seq (.reg [.boxI 4 (.t 0) 4, .boxI 5 (.t 1) 4, .asg 8 (.c (.lit (.bool false)))])
 (.seq (.reg [.load 10 (.t 4) (some 4), .load 11 (.t 5) (some 4), .call 12 69 [(.t 10), (.t 11)], .cpy 13 (.t 2), .idxS 14 (.t 12) (.t 13) 5, .load 15 (.t 14) (some 5), .alloc 9 [(.lit (.int .i64 0)), (.lit (.int .i64 0)), (.lit (.int .i64 0)), (.lit (.bool false)), (.lit (.bool false))], .storeF 9 (.t 15) 5])
 (.seq (.reg [.load 16 (.t 4) (some 4), .load 17 (.t 5) (some 4), .load 18 (.t 9) (some 5), .load 19 (.t 5) (some 4), .cpy 20 (.t 3), .call 21 48 [(.t 19), (.t 20)], .addr 22 (.t 9) 0, .load 23 (.t 22) none, .idxS 24 (.t 21) (.t 23) 1, .load 25 (.t 24) none, .call 26 75 [(.t 16), (.t 17), (.t 18), (.t 25)], .asg 8 (.t 26)])
 .ret)))
def r88 : List MRes := [.tmp 8]
theorem tr88 : Try.f88.body.bind (trC Try.prog ann88 Try.f88.ntmps) = some m88 := by kernel_rfl
theorem rs88 : trRes Try.prog Try.f88.results.toList = some r88 := by kernel_rfl
theorem fn88 : isFunc Try.prog 88 = true := by kernel_rfl
end Go.Proofs.Ytcfeipphmklakaa

namespace Go.Proofs.Ytcfeipphmklakaa
open Go.Avm

abbrev ML (l : List Mk) : AV := .slice 4 (l.map Mk.av) 0

def okM (p : Prs) (m : Mk) : Bool := enterE p m == 0
def rawH (f i : Nat) (s : Int) (h : Nat) : List Mk := (List.range h).map fun (k : Nat) => (⟨f, i, s, (k : Int) == 1⟩ : Mk)
def rawS (f i s : Nat) : List Mk := (List.range s).flatMap fun (k : Nat) => rawH f i ((k : Int) + 1) 2
def rawP (S f i : Nat) : List Mk := (List.range i).flatMap fun i => rawS f i S
def rawF (P S f : Nat) : List Mk := (List.range f).flatMap fun f => rawP S f P

theorem rawH_succ (f i : Nat) (s : Int) (h : Nat) : rawH f i s (h + 1) = rawH f i s h ++ [⟨f, i, s, (h : Int) == 1⟩] := by unfold rawH; rw [List.range_succ]; simp
theorem rawS_succ (f i s : Nat) : rawS f i (s + 1) = rawS f i s ++ rawH f i ((s : Int) + 1) 2 := by unfold rawS; rw [List.range_succ, List.flatMap_append]; simp
theorem rawP_succ (S f i : Nat) : rawP S f (i + 1) = rawP S f i ++ rawS f i S := by unfold rawP; rw [List.range_succ, List.flatMap_append]; simp
theorem rawF_succ (P S f : Nat) : rawF P S (f + 1) = rawF P S f ++ rawP S f P := by unfold rawF; rw [List.range_succ, List.flatMap_append]; simp

theorem rawH_len (f i : Nat) (s : Int) (h : Nat) : (rawH f i s h).length = h := by simp [rawH]
theorem rawS_len (f i : Nat) : ∀ s, (rawS f i s).length = 2 * s
  | 0 => rfl
  | s + 1 => by rw [rawS_succ, List.length_append, rawS_len f i s, rawH_len]; omega
theorem rawP_len (S f : Nat) : ∀ i, (rawP S f i).length = i * (2 * S)
  | 0 => by simp [rawP]
  | i + 1 => by rw [rawP_succ, List.length_append, rawP_len S f i, rawS_len]; exact (Nat.succ_mul ..).symm
theorem rawF_len (P S : Nat) : ∀ f, (rawF P S f).length = f * (P * (2 * S))
  | 0 => by simp [rawF]
  | f + 1 => by rw [rawF_succ, List.length_append, rawF_len P S f, rawP_len]; exact (Nat.succ_mul ..).symm

/-- All ways of making. -/
def makesL (p : Prs) : List Mk := (rawF p.pprs.length p.sheets.toNat p.fmts.length).filter (okM p)

theorem filter_snoc_t {p : Prs} {l : List Mk} {m : Mk} (h : okM p m = true) : (l ++ [m]).filter (okM p) = l.filter (okM p) ++ [m] := by rw [List.filter_append]; simp [h]
theorem filter_snoc_f {p : Prs} {l : List Mk} {m : Mk} (h : okM p m = false) : (l ++ [m]).filter (okM p) = l.filter (okM p) := by rw [List.filter_append]; simp [h]

def outM (p : Prs) (P S f i s h : Nat) : List Mk := (rawF P S f ++ rawP S f i ++ rawS f i s ++ rawH f i ((s : Int) + 1) h).filter (okM p)

theorem outM_len {p : Prs} {P S f i s h : Nat} (hP : P ≤ 4) (hS : S ≤ 4) (hf : f ≤ 6) (hi : i ≤ 4) (hs : s ≤ 4) (hh : h ≤ 2) : (outM p P S f i s h).length ≤ 1000 := by
  refine Nat.le_trans (List.length_filter_le _ _) ?_
  rw [List.length_append, List.length_append, List.length_append, rawF_len, rawP_len, rawS_len, rawH_len]
  have h1 : P * (2 * S) ≤ 4 * 8 := Nat.mul_le_mul hP (by omega)
  have h2 : f * (P * (2 * S)) ≤ 6 * 32 := Nat.mul_le_mul hf h1
  have h3 : i * (2 * S) ≤ 4 * 8 := Nat.mul_le_mul hi (by omega)
  omega

theorem outM_h (p : Prs) (P S f i s : Nat) : outM p P S f i s 2 = outM p P S f i (s + 1) 0 := by
  unfold outM; rw [rawS_succ]; simp [rawH, List.append_assoc]
theorem outM_s (p : Prs) (P S f i : Nat) : outM p P S f i S 0 = outM p P S f (i + 1) 0 0 := by
  unfold outM; rw [rawP_succ]; simp [rawH, rawS, List.append_assoc]
theorem outM_i (p : Prs) (P S f : Nat) : outM p P S f P 0 0 = outM p P S (f + 1) 0 0 0 := by
  unfold outM; rw [rawF_succ]; simp [rawH, rawS, rawP, List.append_assoc]
theorem outM_t {p : Prs} {P S f i s h : Nat} (ho : okM p ⟨f, i, (s : Int) + 1, (h : Int) == 1⟩ = true) : outM p P S f i s (h + 1) = outM p P S f i s h ++ [⟨f, i, (s : Int) + 1, (h : Int) == 1⟩] := by
  unfold outM; rw [rawH_succ, ← List.append_assoc, filter_snoc_t ho]
theorem outM_f {p : Prs} {P S f i s h : Nat} (ho : okM p ⟨f, i, (s : Int) + 1, (h : Int) == 1⟩ = false) : outM p P S f i s (h + 1) = outM p P S f i s h := by
  unfold outM; rw [rawH_succ, ← List.append_assoc, filter_snoc_f ho]

theorem makes82_ok (p : Prs) (hp : Right p) : PCall Try.prog 82 [p.av] (ML (makesL p)) := by
  refine pcall Try.func82 tr82 rs82 fn82 (by simp [Try.ntmps82]) fun hfit => ?_
  have hF := hp.fmts
  have hP := hp.pprs
  obtain ⟨S, hS⟩ : ∃ S : Nat, p.sheets = S := ⟨p.sheets.toNat, by have := hp.sheets; omega⟩
  have hS4 := hp.sheets
  have hres : makesL p = outM p p.pprs.length S p.fmts.length 0 0 0 := by unfold makesL outM; rw [hS]; simp [rawP, rawS, rawH]
  rw [hres]
  simp -implicitDefEqProofs [m82]
  refine loop_up p.fmts.length (fun f s => s.env 1 = PRef p ∧ s.env 3 = .slice 4 ((outM p p.pprs.length S f 0 0 0).map Mk.av) 4 ∧ s.env 4 = I f) ?_ ?_
  · simp [outM, rawF, rawP, rawS, rawH]
  rintro f s hf ⟨e1, e3, e4⟩
  simp -implicitDefEqProofs [e1, e4]
  refine cond_dec (fun hlt => ?_) (fun hge => ?_)
  case refine_2 =>
    obtain rfl : f = p.fmts.length := by omega
    simp -implicitDefEqProofs [e3, r82]
  have hlt1 : f < p.fmts.length := by omega
  simp -implicitDefEqProofs
  refine loop_up p.pprs.length (fun i s => s.env 1 = PRef p ∧ s.env 3 = .slice 4 ((outM p p.pprs.length S f i 0 0).map Mk.av) 4 ∧ s.env 4 = I f ∧ s.env 5 = I i) ?_ ?_
  · simp [e1, e3, e4]
  clear e1 e3 e4
  rintro i s hi ⟨e1, e3, e4, e5⟩
  simp -implicitDefEqProofs [e1, e5]
  refine cond_dec (fun hlt => ?_) (fun hge => ?_)
  case refine_2 =>
    obtain rfl : i = p.pprs.length := by omega
    rw [outM_i] at e3
    simp -implicitDefEqProofs [e4]
    exact ⟨i64 (by omega) (by omega), round_ok hlt1 ⟨by simp [e1], by simp [e3], by simp⟩⟩
  have hlt2 : i < p.pprs.length := by omega
  simp -implicitDefEqProofs
  refine loop_up S (fun k s => s.env 1 = PRef p ∧ s.env 3 = .slice 4 ((outM p p.pprs.length S f i k 0).map Mk.av) 4 ∧ s.env 4 = I f ∧ s.env 5 = I i ∧ s.env 6 = I ((k : Int) + 1)) ?_ ?_
  · simp [e1, e3, e4, e5]
  clear e1 e3 e4 e5
  rintro k s hk ⟨e1, e3, e4, e5, e6⟩
  simp -implicitDefEqProofs [e1, e6, hS]
  refine cond_dec (fun hlt => ?_) (fun hge => ?_)
  case refine_2 =>
    obtain rfl : k = S := by omega
    rw [outM_s] at e3
    simp -implicitDefEqProofs [e5]
    exact ⟨i64 (by omega) (by omega), round_ok hlt2 ⟨by simp [e1], by simp [e3], by simp [e4], by simp⟩⟩
  have hlt3 : k < S := by omega
  simp -implicitDefEqProofs
  refine loop_up 2 (fun h s => s.env 1 = PRef p ∧ s.env 3 = .slice 4 ((outM p p.pprs.length S f i k h).map Mk.av) 4 ∧ s.env 4 = I f ∧ s.env 5 = I i ∧ s.env 6 = I ((k : Int) + 1) ∧ s.env 7 = I h) ?_ ?_
  · simp [e1, e3, e4, e5, e6]
  clear e1 e3 e4 e5 e6
  rintro h s hh ⟨e1, e3, e4, e5, e6, e7⟩
  simp -implicitDefEqProofs [e7]
  refine cond_dec (fun hlt => ?_) (fun hge => ?_)
  case refine_2 =>
    obtain rfl : h = 2 := by omega
    rw [outM_h] at e3
    simp -implicitDefEqProofs [e6]
    exact ⟨i64 (by omega) (by omega), round_ok hlt3 ⟨by simp [e1], by simp [e3], by simp [e4], by simp [e5], by simp⟩⟩
  have hlt4 : h < 2 := by omega
  have c := make68_ok p ⟨f, i, (k : Int) + 1, (h : Int) == 1⟩
  have hlen := outM_len (p := p) (P := p.pprs.length) (S := S) (f := f) (i := i) (s := k) (h := h) (by omega) (by omega) (by omega) (by omega) (by omega) (by omega)
  have ht := outM_t (p := p) (P := p.pprs.length) (S := S) (f := f) (i := i) (s := k) (h := h)
  have hff := outM_f (p := p) (P := p.pprs.length) (S := S) (f := f) (i := i) (s := k) (h := h)
  unfold okM at ht hff
  generalize enterE p ⟨f, i, (k : Int) + 1, (h : Int) == 1⟩ = e at *
  simp -implicitDefEqProofs [e4, e5, e6, e7]
  intro b hb
  simp -implicitDefEqProofs [e1]
  refine vCall_of c ?_
  simp -implicitDefEqProofs
  refine cond_bool (fun he => ?_) (fun he => ?_)
  · simp -implicitDefEqProofs [e3, e7]
    refine ⟨by omega, by omega, i64 (by omega) (by omega), round_ok hlt4 ⟨by simp [e1], by simp [ht he], by simp [e4], by simp [e5], by simp [e6], by simp⟩⟩
  · simp -implicitDefEqProofs [e7]
    refine ⟨i64 (by omega) (by omega), round_ok hlt4 ⟨by simp [e1], by simp [e3, hff he], by simp [e4], by simp [e5], by simp [e6], by simp⟩⟩
end Go.Proofs.Ytcfeipphmklakaa

namespace Go.Proofs.Ytcfeipphmklakaa
open Go.Avm

theorem valid42_ok (p : Prs) : PCall Try.prog 42 [p.av] (B (errE p == 0)) := by
  refine pcall Try.func42 tr42 rs42 fn42 (by simp [Try.ntmps42]) fun hfit => ?_
  have c := checkR_ok p
  unfold errE
  generalize checkE p = e at *
  simp -implicitDefEqProofs [m42]
  refine vCall_of c ?_
  simp -implicitDefEqProofs [r42]

theorem has47_ok (l : List Int) (n : Int) : PCall Try.prog 47 [IL l, I n] (B (decide (n ∈ l))) := by
  refine pcall Try.func47 tr47 rs47 fn47 (by simp [Try.ntmps47]) fun hfit => ?_
  have hl := fits_len (hfit 0)
  simp only [List.length_map] at hl
  simp -implicitDefEqProofs [m47]
  refine loop_up l.length (fun k s => s.env 0 = IL l ∧ s.env 1 = I n ∧ s.env 5 = I k ∧ ∀ x ∈ l.take k, x ≠ n) ?_ ?_
  · simp
  · rintro k s hk ⟨e0, e1, e5, hno⟩
    simp -implicitDefEqProofs [e0, e5]
    refine cond_dec (fun hlt => ?_) (fun hge => ?_)
    · have hlt : k < l.length := by omega
      simp -implicitDefEqProofs [e0, e1, e5, hlt]
      refine cond_bool (fun he => ?_) (fun he => ?_)
      · have hx : l[k] = n := by simpa using he
        have hm : n ∈ l := by rw [← hx]; exact List.getElem_mem _
        simp -implicitDefEqProofs [r47, hm]
      · have hx : l[k] ≠ n := by simpa using he
        simp -implicitDefEqProofs [e5]
        refine ⟨i64 (by omega) (by omega), round_ok hlt ⟨by simp [e0], by simp [e1], by simp, fun x hx' => ?_⟩⟩
        rw [take_snoc hlt, List.mem_append, List.mem_singleton] at hx'
        rcases hx' with hx' | rfl
        · exact hno x hx'
        · exact hx
    · obtain rfl : k = l.length := by omega
      rw [List.take_length] at hno
      have hm : n ∉ l := fun h => hno n h rfl
      simp -implicitDefEqProofs [r47, hm]

theorem makes_ok {p : Prs} {m : Mk} (h : m ∈ makesL p) : enterE p m = 0 := by
  have := (List.mem_filter.1 h).2
  simpa [okM] using this

theorem mem_rawF {P S F f i s h : Nat} (hf : f < F) (hi : i < P) (hs : s < S) (hh : h < 2) : (⟨f, i, (s : Int) + 1, (h : Int) == 1⟩ : Mk) ∈ rawF P S F := by
  unfold rawF rawP rawS rawH
  simp only [List.mem_flatMap, List.mem_map, List.mem_range]
  exact ⟨f, hf, i, hi, s, hs, h, hh, rfl⟩

theorem makes_ne {p : Prs} (h : errE p = 0) : 1 ≤ (makesL p).length := by
  have hp := right_of h
  have h1 := hp.fmts
  have h2 := hp.pprs
  have h3 := hp.sheets
  have hm : (⟨0, 0, 1, false⟩ : Mk) ∈ makesL p := by
    refine List.mem_filter.2 ⟨mem_rawF (f := 0) (i := 0) (s := 0) (h := 0) (by omega) (by omega) (by omega) (by omega), ?_⟩
    unfold okM enterE makeE
    rw [if_neg (by simp [h]), if_neg, if_neg (by simp; omega), if_neg (by simp)]
    · rfl
    · simp; omega
  exact List.length_pos_of_mem hm

theorem makes_len {p : Prs} (hp : Right p) : (makesL p).length ≤ 1000 := by
  have h1 := hp.fmts
  have h2 := hp.pprs
  have h3 := hp.sheets
  have := outM_len (p := p) (P := p.pprs.length) (S := p.sheets.toNat) (f := p.fmts.length) (i := 0) (s := 0) (h := 0) (by omega) (by omega) (by omega) (by omega) (by omega) (by omega)
  have e : makesL p = outM p p.pprs.length p.sheets.toNat p.fmts.length 0 0 0 := by unfold makesL outM; simp [rawP, rawS, rawH]
  rwa [e]

def mk0 : Mk := ⟨0, 0, 0, false⟩

/-- The way of making of a number. -/
def madeM (p : Prs) (n : Nat) : Mk := (makesL p).getD (n % (makesL p).length) mk0

theorem madeM_ok {p : Prs} (h : errE p = 0) (n : Nat) : enterE p (madeM p n) = 0 := by
  have hl := makes_ne h
  have hlt : n % (makesL p).length < (makesL p).length := Nat.mod_lt _ (by omega)
  refine makes_ok ?_
  unfold madeM
  rw [List.getD_eq_getElem?_getD, List.getElem?_eq_getElem hlt]
  exact List.getElem_mem _

theorem tmod_nat (a b : Nat) : ((a : Int).tmod (b : Int)) = ((a % b : Nat) : Int) := by
  rw [Int.tmod_eq_emod_of_nonneg (by omega)]; rfl

theorem made46_ok {p : Prs} (h : errE p = 0) (n : Nat) : PCall Try.prog 46 [p.av, I n] (madeM p n).av := by
  refine pcall Try.func46 tr46 rs46 fn46 (by simp [Try.ntmps46]) fun hfit => ?_
  have hl := makes_ne h
  have hl2 := makes_len (right_of h)
  have c := makes82_ok p (right_of h)
  have hlt : n % (makesL p).length < (makesL p).length := Nat.mod_lt _ (by omega)
  unfold madeM
  generalize makesL p = l at *
  have ht := tmod_nat n l.length
  generalize hk : n % l.length = k at *
  simp -implicitDefEqProofs [m46]
  intro b
  refine vCall_of c ?_
  have hne : ¬ l = [] := fun h => by subst h; simp at hl
  simp -implicitDefEqProofs [ht, hlt, hne, r46]

abbrev U (n : Int) : AV := .lit (.int .u16 n)
abbrev US (l : List Int) : AV := .slice 1 (l.map U) 0

/-- The n-th number of a list, by turns. -/
def turnM (l : List Int) (n : Nat) : Int := if l.length = 0 then 0 else l.getD (n % l.length) 0

def okU (l : List Int) : Prop := ∀ x ∈ l, 0 ≤ x ∧ x ≤ 65535

theorem turnM_ok {l : List Int} (h : okU l) (n : Nat) : 0 ≤ turnM l n ∧ turnM l n ≤ 65535 := by
  unfold turnM
  split
  · omega
  · rename_i hl
    have hlt : n % l.length < l.length := Nat.mod_lt _ (by omega)
    rw [List.getD_eq_getElem?_getD, List.getElem?_eq_getElem hlt]
    exact h _ (List.getElem_mem _)

theorem wrap_i64 {a : Int} (h : 0 ≤ a ∧ a ≤ 65535) : IntKind.wrap .i64 a = a := by
  obtain ⟨k, rfl⟩ : ∃ k : Nat, a = k := ⟨a.toNat, by omega⟩
  simp [IntKind.wrap, IntKind.bits, IntKind.signed]
  omega

theorem turn85_ok {l : List Int} (h : okU l) (n : Nat) : PCall Try.prog 85 [US l, I n] (I (turnM l n)) := by
  refine pcall Try.func85 tr85 rs85 fn85 (by simp [Try.ntmps85]) fun hfit => ?_
  have hw := wrap_i64 (turnM_ok h n)
  obtain ⟨R, hR⟩ : ∃ R, R = turnM l n := ⟨_, rfl⟩
  rw [← hR] at hw ⊢
  unfold turnM at hR
  simp -implicitDefEqProofs [m85]
  by_cases hl : l.length = 0
  · have hl' : ((l.length : Int) == 0) = true := by simp [hl]
    rw [if_pos hl] at hR
    simp -implicitDefEqProofs [hl', r85, hR]
  · have hl' : ((l.length : Int) == 0) = false := beq_eq_false_iff_ne.2 (by omega)
    have hlt : n % l.length < l.length := Nat.mod_lt _ (by omega)
    rw [if_neg hl] at hR
    have ht := tmod_nat n l.length
    generalize hk : n % l.length = k at *
    have hne : ¬ l = [] := fun h => by subst h; simp at hl
    rw [List.getD_eq_getElem?_getD, List.getElem?_eq_getElem hlt, Option.getD_some] at hR
    simp -implicitDefEqProofs [hl', ht, hlt, hne, ← hR, hw, r85]

/-- Halves, by turns. -/
def halvesT (x : List Int) (n : Nat) : List Int := (List.range n).map fun i => (turnM x i).tmod 2
theorem halvesT_succ (x : List Int) (n : Nat) : halvesT x (n + 1) = halvesT x n ++ [(turnM x n).tmod 2] := by unfold halvesT; rw [List.range_succ]; simp
theorem halvesT_len (x : List Int) (n : Nat) : (halvesT x n).length = n := by simp [halvesT]
theorem halvesT_in {x : List Int} (h : okU x) {n k : Nat} (hk : k < (halvesT x n).length) : 0 ≤ (halvesT x n)[k] ∧ (halvesT x n)[k] ≤ 1 := by
  have := turnM_ok h k
  have e : (halvesT x n)[k] = (turnM x k).tmod 2 := by simp [halvesT]
  rw [e, Int.tmod_eq_emod_of_nonneg this.1]
  omega

theorem halves48_ok (m : Mk) {x : List Int} (h : okU x) (hm : 0 ≤ m.sheets ∧ m.sheets ≤ 4) : PCall Try.prog 48 [m.av, US x] (IL (halvesT x m.sheets.toNat)) := by
  refine pcall Try.func48 tr48 rs48 fn48 (by simp [Try.ntmps48]) fun hfit => ?_
  obtain ⟨S, hS⟩ : ∃ S : Nat, m.sheets = S := ⟨m.sheets.toNat, by omega⟩
  have e : m.sheets.toNat = S := by omega
  rw [e]
  simp -implicitDefEqProofs [m48]
  refine loop_up S (fun k s => s.env 1 = US x ∧ s.env 2 = .ref m.cs ∧ s.env 5 = .slice 1 ((halvesT x k).map I) 6 ∧ s.env 6 = I k) ?_ ?_
  · simp [halvesT]
  rintro k s hk ⟨e1, e2, e5, e6⟩
  simp -implicitDefEqProofs [e2, e6, hS]
  refine cond_dec (fun hlt => ?_) (fun hge => ?_)
  · have hlt : k < S := by omega
    have hs := halvesT_succ x k
    have hl := halvesT_len x k
    simp -implicitDefEqProofs [e1, e5, e6]
    refine vCall_of (turn85_ok h k) ?_
    simp -implicitDefEqProofs [e5, e6]
    refine ⟨by omega, by omega, i64 (by omega) (by omega), round_ok hlt ⟨by simp [e1], by simp [e2], by simp [hs], by simp⟩⟩
  · obtain rfl : k = S := by omega
    simp -implicitDefEqProofs [e5, r48]
end Go.Proofs.Ytcfeipphmklakaa

namespace Go.Proofs.Ytcfeipphmklakaa
open Go.Avm

/- duodecimo/duodecimolaw02.FoldMarks -/
def ann11 : Ann := { muts := [40, 42], nilsz := [], oid := [], frz := [7], zero := [(7, [(.lit (.int .i64 0)), (.lit (.int .i64 0)), (.lit (.int .i64 0)), (.lit (.bool false))]), (40, [(.lit (.int .i64 0))]), (42, [(.lit (.int .i64 0))])], ord := [(17, [0, 1, 2, 3, 4, 5, 6, 7, 8, 9, 10, 11, 12, 13, 14, 15, 16, 17, 18, 19, 20, 21, 22, 23, 24, 25, 26, 27, 28, 29]), (27, [0, 1, 2, 3, 4, 5, 6, 7, 8, 9, 10, 11, 12, 13, 14, 15, 16, 17, 18, 19])], ap := [], own := [], yl := [], fz := [(7, [10])], imm := [] }
def m11 : MCode := (.seq (.reg [.boxI 3 (.t 0) 4, .boxI 4 (.t 1) 2, .asg 6 (.c (.lit (.bool false)))])
 (.seq (.seq (.reg [.load 22 (.t 3) (some 4), .call 23 42 [(.t 22)], .not 24 (.t 23)])
 (.cond (.t 24) (.seq (.reg [.call 25 19 [], .asg 6 (.t 25)])
 .ret) .skip))
 (.seq (.reg [.load 26 (.t 3) (some 4), .idxA 27 (.t 4) (.c (.lit (.int .i64 0))) 2 1, .load 28 (.t 27) none, .conv 29 .i64 (.t 28), .call 30 46 [(.t 26), (.t 29)], .alloc 7 [(.lit (.int .i64 0)), (.lit (.int .i64 0)), (.lit (.int .i64 0)), (.lit (.bool false))], .storeF 7 (.t 30) 4])
 (.seq (.reg [.load 31 (.t 7) (some 4), .cpy 32 (.t 2), .call 33 48 [(.t 31), (.t 32)], .asg 8 (.t 33)])
 (.seq (.reg [.idxA 34 (.t 4) (.c (.lit (.int .i64 1))) 2 1, .load 35 (.t 34) none, .conv 36 .i64 (.t 35), .addr 37 (.t 7) 2, .load 38 (.t 37) none, .bin 39 .rem (.t 36) (.t 38), .asg 9 (.t 39)])
 (.seq (.reg [.mkM 40 (.c (.lit (.int .i64 0))) (.c (.lit (.int .i64 0))) 1 8 [(.lit (.int .i64 0))], .cpy 41 (.t 8), .appM 42 (.t 40) (.t 41) 1 8 [(.lit (.int .i64 0))], .asg 10 (.t 42)])
 (.seq (.reg [.cpy 43 (.t 10), .cpy 44 (.t 9), .cpy 45 (.t 8), .cpy 46 (.t 9), .idxS 47 (.t 45) (.t 46) 1, .load 48 (.t 47) none, .bin 49 .sub (.c (.lit (.int .i64 1))) (.t 48), .idxS 50 (.t 43) (.t 44) 1, .store (.t 50) (.t 49) 1 0, .frz 10])
 (.seq (.reg [.load 52 (.t 3) (some 4), .load 53 (.t 7) (some 4), .call 54 20 [(.t 52), (.t 53)], .cpy 51 (.t 54), .ext 55 (.t 51) 0, .ext 56 (.t 51) 1, .asg 11 (.t 55), .asg 12 (.t 56)])
 (.seq (.reg [.load 58 (.t 3) (some 4), .load 59 (.t 7) (some 4), .cpy 60 (.t 8), .call 61 28 [(.t 58), (.t 59), (.t 60)], .cpy 57 (.t 61), .ext 62 (.t 57) 0, .ext 63 (.t 57) 1, .asg 13 (.t 62), .asg 14 (.t 63)])
 (.seq (.reg [.load 65 (.t 3) (some 4), .load 66 (.t 7) (some 4), .cpy 67 (.t 10), .call 68 28 [(.t 65), (.t 66), (.t 67)], .cpy 64 (.t 68), .ext 69 (.t 64) 0, .ext 70 (.t 64) 1, .asg 15 (.t 69), .asg 16 (.t 70)])
 (.seq (.seq (.reg [.cpy 71 (.t 12), .bin 72 .neq (.t 71) (.c (.lit (.int .i64 0))), .cpy 73 (.t 72), .guard 73 false (some 74) (.cpy 74 (.t 14)), .guard 73 false (some 75) (.bin 75 .neq (.t 74) (.c (.lit (.int .i64 0)))), .pick 76 (.t 73) (.c (.lit (.bool true))) (.t 75), .cpy 77 (.t 76), .guard 77 false (some 78) (.cpy 78 (.t 16)), .guard 77 false (some 79) (.bin 79 .neq (.t 78) (.c (.lit (.int .i64 0)))), .pick 80 (.t 77) (.c (.lit (.bool true))) (.t 79)])
 (.cond (.t 80) (.seq (.reg [.asg 6 (.c (.lit (.bool false)))])
 .ret) .skip))
 (.seq (.reg [.asg 17 (.c (.lit (.int .i64 0)))])
 (.seq (.seq (.reg [.asg 18 (.c (.lit (.int .i64 0)))])
 (.block 0 (.loop (.seq (.seq (.reg [.cpy 81 (.t 18), .cpy 82 (.t 13), .len 83 (.t 82), .bin 84 .lss (.t 81) (.t 83)])
 (.cond (.t 84) .skip (.exit 0)))
 (.seq (.block 1 (.seq (.seq (.reg [.cpy 87 (.t 13), .cpy 88 (.t 18), .idxS 89 (.t 87) (.t 88) 1, .load 90 (.t 89) none, .bin 91 .lss (.t 90) (.c (.lit (.int .i64 0))), .cpy 92 (.t 91), .guard 92 false (some 93) (.cpy 93 (.t 13)), .guard 92 false (some 94) (.cpy 94 (.t 18)), .guard 92 false (some 95) (.idxS 95 (.t 93) (.t 94) 1), .guard 92 false (some 96) (.load 96 (.t 95) none), .guard 92 false (some 97) (.cpy 97 (.t 11)), .guard 92 false (some 98) (.len 98 (.t 97)), .guard 92 false (some 99) (.bin 99 .geq (.t 96) (.t 98)), .pick 100 (.t 92) (.c (.lit (.bool true))) (.t 99), .cpy 101 (.t 100), .guard 101 false (some 102) (.cpy 102 (.t 18)), .guard 101 false (some 103) (.bin 103 .gtr (.t 102) (.c (.lit (.int .i64 0)))), .guard 101 false (some 104) (.cpy 104 (.t 103)), .guard 104 true (some 105) (.cpy 105 (.t 13)), .guard 104 true (some 106) (.cpy 106 (.t 18)), .guard 104 true (some 107) (.idxS 107 (.t 105) (.t 106) 1), .guard 104 true (some 108) (.load 108 (.t 107) none), .guard 104 true (some 109) (.cpy 109 (.t 13)), .guard 104 true (some 110) (.cpy 110 (.t 18)), .guard 104 true (some 111) (.bin 111 .sub (.t 110) (.c (.lit (.int .i64 1)))), .guard 104 true (some 112) (.idxS 112 (.t 109) (.t 111) 1), .guard 104 true (some 113) (.load 113 (.t 112) none), .guard 104 true (some 114) (.bin 114 .leq (.t 108) (.t 113)), .guard 101 false (some 115) (.pick 115 (.t 104) (.t 114) (.c (.lit (.bool false)))), .pick 116 (.t 101) (.c (.lit (.bool true))) (.t 115)])
 (.cond (.t 116) (.seq (.reg [.asg 6 (.c (.lit (.bool false)))])
 .ret) .skip))
 (.seq (.seq (.reg [.cpy 117 (.t 11), .cpy 118 (.t 13), .cpy 119 (.t 18), .idxS 120 (.t 118) (.t 119) 1, .load 121 (.t 120) none, .idxS 122 (.t 117) (.t 121) 5, .addr 123 (.t 122) 0, .load 124 (.t 123) none, .cpy 125 (.t 9), .bin 126 .eql (.t 124) (.t 125)])
 (.cond (.t 126) (.reg [.cpy 127 (.t 17), .bin 128 .add (.t 127) (.c (.lit (.int .i64 1))), .asg 17 (.t 128)]) .skip))
 (.seq (.reg [.asg 19 (.c (.lit (.bool false)))])
 (.seq (.reg [.addr 129 (.t 3) 0, .load 130 (.t 129) none, .addr 131 (.t 7) 0, .load 132 (.t 131) none, .idxS 133 (.t 130) (.t 132) 2, .addr 134 (.t 133) 1, .load 135 (.t 134) none, .asg 20 (.t 135)])
 (.seq (.seq (.reg [.asg 21 (.c (.lit (.int .i64 0)))])
 (.block 2 (.loop (.seq (.seq (.reg [.cpy 136 (.t 21), .cpy 137 (.t 20), .lenStr 138 (.t 137), .bin 139 .lss (.t 136) (.t 138)])
 (.cond (.t 139) .skip (.exit 2)))
 (.seq (.block 3 (.reg [.cpy 142 (.t 19), .cpy 143 (.t 142), .guard 143 false (some 144) (.cpy 144 (.t 20)), .guard 143 false (some 145) (.cpy 145 (.t 21)), .guard 143 false (some 146) (.idxStr 146 (.t 144) (.t 145)), .guard 143 false (some 147) (.bin 147 .eql (.t 146) (.c (.lit (.int .u8 120)))), .pick 148 (.t 143) (.c (.lit (.bool true))) (.t 147), .asg 19 (.t 148)]))
 (.reg [.cpy 140 (.t 21), .bin 141 .add (.t 140) (.c (.lit (.int .i64 1))), .asg 21 (.t 141)]))))))
 (.seq (.reg [.cpy 149 (.t 15), .cpy 150 (.t 13), .cpy 151 (.t 18), .idxS 152 (.t 150) (.t 151) 1, .load 153 (.t 152) none, .call 154 47 [(.t 149), (.t 153)], .cpy 155 (.t 11), .cpy 156 (.t 13), .cpy 157 (.t 18), .idxS 158 (.t 156) (.t 157) 1, .load 159 (.t 158) none, .idxS 160 (.t 155) (.t 159) 5, .addr 161 (.t 160) 0, .load 162 (.t 161) none, .cpy 163 (.t 9), .bin 164 .eql (.t 162) (.t 163), .cpy 165 (.t 164), .guard 165 true (some 166) (.cpy 166 (.t 19)), .pick 167 (.t 165) (.t 166) (.c (.lit (.bool false))), .binB 168 false (.t 154) (.t 167)])
 (.cond (.t 168) (.seq (.reg [.asg 6 (.c (.lit (.bool false)))])
 .ret) .skip))))))))
 (.reg [.cpy 85 (.t 18), .bin 86 .add (.t 85) (.c (.lit (.int .i64 1))), .asg 18 (.t 86)]))))))
 (.seq (.reg [.cpy 169 (.t 17), .bin 170 .eql (.t 169) (.c (.lit (.int .i64 1))), .cpy 171 (.t 170), .guard 171 false (some 172) (.cpy 172 (.t 17)), .guard 171 false (some 173) (.bin 173 .eql (.t 172) (.c (.lit (.int .i64 2)))), .pick 174 (.t 171) (.c (.lit (.bool true))) (.t 173), .cpy 175 (.t 174), .guard 175 false (some 176) (.cpy 176 (.t 17)), .guard 175 false (some 177) (.bin 177 .eql (.t 176) (.c (.lit (.int .i64 4)))), .pick 178 (.t 175) (.c (.lit (.bool true))) (.t 177), .cpy 179 (.t 178), .guard 179 false (some 180) (.cpy 180 (.t 17)), .guard 179 false (some 181) (.bin 181 .eql (.t 180) (.c (.lit (.int .i64 0)))), .guard 179 false (some 182) (.cpy 182 (.t 181)), .guard 182 true (some 183) (.addr 183 (.t 7) 3), .guard 182 true (some 184) (.load 184 (.t 183) none), .guard 179 false (some 185) (.pick 185 (.t 182) (.t 184) (.c (.lit (.bool false)))), .pick 186 (.t 179) (.c (.lit (.bool true))) (.t 185), .cpy 187 (.t 186), .guard 187 true (some 188) (.call 188 19 []), .pick 189 (.t 187) (.t 188) (.c (.lit (.bool false))), .asg 6 (.t 189)])
 .ret))))))))))))))
def r11 : List MRes := [.tmp 6]
theorem tr11 : Try.f11.body.bind (trC Try.prog ann11 Try.f11.ntmps) = some m11 := by kernel_rfl
theorem rs11 : trRes Try.prog Try.f11.results.toList = some r11 := by kernel_rfl
theorem fn11 : isFunc Try.prog 11 = true := by kernel_rfl
end Go.Proofs.Ytcfeipphmklakaa

namespace Go.Proofs.Ytcfeipphmklakaa
open Go.Avm

theorem rdU {pl : Bool} : Rd Try.prog pl 69 U (fun n => 0 ≤ n ∧ n ≤ 65535) := by
  have h : Rd Try.prog true 69 U (fun n => 0 ≤ n ∧ n ≤ 65535) := (Rd.int Try.underlying69).map id (fun _ => rfl) (fun _ h => h)
  cases pl
  · exact h.loose
  · exact h
theorem rdU3 : Rd Try.prog false 84 (fun xs : List Int => .agg (xs.flatMap fun y => (U y).cells)) (fun xs => xs.length = 3 ∧ ∀ x ∈ xs, 0 ≤ x ∧ x ≤ 65535) :=
  Rd.array (sz := 1) Try.underlying84 (by kernel_rfl) (by kernel_rfl) rdU
theorem rdU2 : Rd Try.prog false 79 (fun xs : List Int => .agg (xs.flatMap fun y => (U y).cells)) (fun xs => xs.length = 2 ∧ ∀ x ∈ xs, 0 ≤ x ∧ x ≤ 65535) :=
  Rd.array (sz := 1) Try.underlying79 (by kernel_rfl) (by kernel_rfl) rdU
theorem rdUs : Rd Try.prog false 66 US okU :=
  (Rd.slice Try.underlying66 (of_decide_eq_true (by kernel_rfl)) (by kernel_rfl) rdU).map id (fun _ => rfl) (fun _ h => h.2)

theorem cutC {P : Program} {kn : St → Prop} {ke : Nat → St → Prop} {kr : St → Prop} {s : St} {x y : MCode} {b : Bool} (J : St → Prop) (h : ∀ s', J s' → kn s')
    (hx : ∀ k : St → Prop, (∀ s', J s' → k s') → b = true → mwp P x k ke kr s) (hy : ∀ k : St → Prop, (∀ s', J s' → k s') → b = false → mwp P y k ke kr s) : vCond P kn ke kr s x y (.lit (.bool b)) := ⟨hx kn h, hy kn h⟩
theorem cutS {P : Program} {kn : St → Prop} {ke : Nat → St → Prop} {kr : St → Prop} {s : St} {x y : MCode} (J : St → Prop) (hx : ∀ k : St → Prop, (∀ s', J s' → k s') → mwp P x k ke kr s) (h : ∀ s', J s' → mwp P y kn ke kr s') : mwp P (.seq x y) kn ke kr s := hx _ h

def pw (k : Nat) : Nat := 2 ^ k
theorem pw_succ (k : Nat) : pw (k + 1) = pw k * 2 := Nat.pow_succ ..
theorem pw_le {k n : Nat} (h : k ≤ n) : pw k ≤ pw n := Nat.pow_le_pow_right (by omega) h
theorem pw_pos (k : Nat) : 1 ≤ pw k := Nat.pow_pos (by omega)

def sizeS (w : List Nat) (half : Bool) : Nat := if half then pw w.length / 2 else pw w.length

set_option maxRecDepth 100000 in
theorem whole_cases : allC.all (fun x => decide ((lvM x).length = sizeS x.1 x.2.1 * x.2.2) && (List.range (lvM x).length).all fun i => decide ((selT (mateQ (lvM x) i) (lvM x).length).length + 1 = sizeS x.1 x.2.1)) = true := by decide +kernel

theorem selT_lt {q : Nat → Bool} {n i j : Nat} (hij : i < j) (hj : j < (selT q n).length) : (selT q n)[i]'(by omega) < (selT q n)[j] := by
  have h : (selT q n).Pairwise (· < ·) := by
    unfold selT
    refine List.Pairwise.map _ (fun a b h => ?_) (List.Pairwise.filter _ List.pairwise_lt_range)
    exact Int.ofNat_lt.2 h
  exact List.pairwise_iff_getElem.1 h i j (by omega) hj hij

theorem selT_mem' {q : Nat → Bool} {n : Nat} {x : Int} (h : x ∈ selT q n) : ∃ j : Nat, x = j ∧ j < n ∧ q j = true := by
  unfold selT at h
  obtain ⟨j, hj, rfl⟩ := List.mem_map.1 h
  obtain ⟨h1, h2⟩ := List.mem_filter.1 hj
  exact ⟨j, rfl, by simpa using h1, h2⟩
theorem mem_selT' {q : Nat → Bool} {n j : Nat} : ((j : Int) ∈ selT q n) ↔ j < n ∧ q j = true := by
  unfold selT
  simp only [List.mem_map, List.mem_filter, List.mem_range]
  constructor
  · rintro ⟨i, ⟨h1, h2⟩, h3⟩
    have : i = j := Int.ofNat_inj.1 h3
    subst this; exact ⟨h1, h2⟩
  · rintro ⟨h1, h2⟩
    exact ⟨j, ⟨h1, h2⟩, rfl⟩

theorem mateQ_at {l : List Lf} {k i : Nat} (hk : k < l.length) (hi : i < l.length) : mateQ l k i = ((i != k) && l[i].sheet == l[k].sheet) := by
  unfold mateQ; simp [List.getD_eq_getElem?_getD, hk, hi]

end Go.Proofs.Ytcfeipphmklakaa

namespace Go.Proofs.Ytcfeipphmklakaa
open Go.Avm

def acrossW (w : List Nat) : Bool := w.any fun c => c == 120
def cntS (w : List Nat) (l : List Lf) (s : Nat) (h : Int) : Nat := ((List.range l.length).filter fun j => markM w (l.getD j zLf) h && ((l.getD j zLf).sheet == (s : Int))).length
def okCnt (half : Bool) (n : Nat) : Bool := n == 1 || n == 2 || n == 4 || (n == 0 && half)
def markC (x : List Nat × Bool × Nat) : Bool :=
  ((List.range (lvM x).length).all fun j => if acrossW x.1 then !(markM x.1 ((lvM x).getD j zLf) 0 && markM x.1 ((lvM x).getD j zLf) 1) else markM x.1 ((lvM x).getD j zLf) 0 == markM x.1 ((lvM x).getD j zLf) 1) &&
    (List.range x.2.2).all fun s => okCnt x.2.1 (cntS x.1 (lvM x) s 0) && okCnt x.2.1 (cntS x.1 (lvM x) s 1)

set_option maxRecDepth 100000 in
theorem mark_cases : allC.all markC = true := by decide +kernel

def markF (w : List Nat) (half : Bool) (S : Nat) (l : List Lf) : Prop :=
  (∀ j < l.length, ∀ h : Int, h = 0 ∨ h = 1 → if acrossW w = true then (markM w (l.getD j zLf) h = true → markM w (l.getD j zLf) (1 - h) = false) else markM w (l.getD j zLf) (1 - h) = markM w (l.getD j zLf) h) ∧
    ∀ s < S, ∀ h : Int, h = 0 ∨ h = 1 → okCnt half (cntS w l s h) = true

theorem mark_facts {p : Prs} {m : Mk} (hp : Right p) (hm : RightM p m) : markF (codes (foldsOf p m)) m.half m.sheets.toNat (lvOf p m) := by
  have h0 : markC (codes (foldsOf p m), m.half, m.sheets.toNat) = true := all_cases mark_cases hp hm
  unfold markC at h0
  have e : lvM (codes (foldsOf p m), m.half, m.sheets.toNat) = lvOf p m := rfl
  simp only [e, Bool.and_eq_true] at h0
  obtain ⟨h1, h2⟩ := h0
  refine ⟨fun j hj h hh => ?_, fun s hs h hh => ?_⟩
  · have := List.all_eq_true.1 h1 j (List.mem_range.2 hj)
    generalize (lvOf p m).getD j zLf = x at *
    have e1 : (1 : Int) - 0 = 1 := rfl
    have e2 : (1 : Int) - 1 = 0 := rfl
    by_cases ha : acrossW (codes (foldsOf p m)) = true
    · rw [if_pos ha] at this ⊢
      rcases hh with rfl | rfl
      · rw [e1]; intro h3; rw [h3] at this; simpa using this
      · rw [e2]; intro h3; rw [h3] at this; simpa using this
    · rw [if_neg ha] at this ⊢
      have h3 := eq_of_beq this
      rcases hh with rfl | rfl
      · rw [e1, h3]
      · rw [e2, h3]
  · have := List.all_eq_true.1 h2 s (List.mem_range.2 hs)
    rw [Bool.and_eq_true] at this
    rcases hh with rfl | rfl
    · exact this.1
    · exact this.2

/-- How many of the first so many leaves of a list are of one sheet. -/
def cntK (l : List Lf) (s : Nat) (a : List Int) (k : Nat) : Nat := ((a.take k).filter fun y => (l.getD y.toNat zLf).sheet == (s : Int)).length
theorem cntK_succ (l : List Lf) (s : Nat) {a : List Int} {k : Nat} (h : k < a.length) : cntK l s a (k + 1) = cntK l s a k + if (l.getD a[k].toNat zLf).sheet = (s : Int) then 1 else 0 := by
  unfold cntK
  rw [take_snoc h, List.filter_append, List.length_append]
  generalize a[k] = y
  by_cases e : (l.getD y.toNat zLf).sheet = (s : Int)
  · have h1 : [y].filter (fun y => (l.getD y.toNat zLf).sheet == (s : Int)) = [y] := List.filter_cons_of_pos (p := fun (y : Int) => (l.getD y.toNat zLf).sheet == (s : Int)) (beq_iff_eq.2 e)
    rw [if_pos e, h1]; rfl
  · have h1 : [y].filter (fun y => (l.getD y.toNat zLf).sheet == (s : Int)) = [] := List.filter_cons_of_neg (p := fun (y : Int) => (l.getD y.toNat zLf).sheet == (s : Int)) (fun h => e (beq_iff_eq.1 h))
    rw [if_neg e, h1]; rfl
theorem cntK_le (l : List Lf) (s : Nat) (a : List Int) (k : Nat) : cntK l s a k ≤ a.length := by
  unfold cntK
  exact Nat.le_trans (List.length_filter_le _ _) (by simp; omega)
theorem cntK_all (l : List Lf) (s : Nat) (q : Nat → Bool) (n : Nat) : cntK l s (selT q n) (selT q n).length = ((List.range n).filter fun j => q j && ((l.getD j zLf).sheet == (s : Int))).length := by
  unfold cntK selT
  rw [List.take_length, List.filter_map, List.length_map, List.filter_filter]
  congr 1
  refine List.filter_congr fun j _ => ?_
  simp [Bool.and_comm]

theorem cntK_mark {w : List Nat} {l : List Lf} {hs : List Int} {s : Nat} : cntK l s (selT (markQ w l hs) l.length) (selT (markQ w l hs) l.length).length = cntS w l s (hs.getD s 0) := by
  rw [cntK_all]
  unfold cntS
  congr 1
  refine List.filter_congr fun j _ => ?_
  unfold markQ
  by_cases e : (l.getD j zLf).sheet = (s : Int)
  · rw [e, Int.toNat_natCast]
  · rw [beq_eq_false_iff_ne.2 e, Bool.and_false, Bool.and_false]

/-- The halves, but for one sheet. -/
def otherL (hs : List Int) (s : Nat) : List Int := hs.set s (1 - hs.getD s 0)
theorem otherL_len (hs : List Int) (s : Nat) : (otherL hs s).length = hs.length := by simp [otherL]

theorem other_in {hs : List Int} (h : ∀ k (hk : k < hs.length), hs[k] = 0 ∨ hs[k] = 1) {s : Nat} (hlt : s < hs.length) : ∀ k (hk : k < (otherL hs s).length), (otherL hs s)[k] = 0 ∨ (otherL hs s)[k] = 1 := by
  intro k hk
  have hk' : k < hs.length := by rwa [otherL_len] at hk
  have e : (otherL hs s)[k] = if s = k then 1 - hs.getD s 0 else hs[k] := List.getElem_set ..
  rw [e]
  split
  · rw [List.getD_eq_getElem?_getD, List.getElem?_eq_getElem hlt, Option.getD_some]
    rcases h s hlt with e | e
    · rw [e]; exact .inr rfl
    · rw [e]; exact .inl rfl
  · exact h k hk'

theorem out_zero {hs : List Int} (h : ∀ k (hk : k < hs.length), hs[k] = 0 ∨ hs[k] = 1) : out 0 1 hs = false := by
  unfold out
  rw [List.any_eq_false]
  intro x hx
  obtain ⟨k, hk, rfl⟩ := List.mem_iff_getElem.1 hx
  rcases h k hk with e | e <;> rw [e] <;> decide

/-- What is in both is of another sheet, or the sheet has one column. -/
theorem both_mark {w : List Nat} {half : Bool} {S : Nat} {l : List Lf} (hF : markF w half S l) {hs : List Int} (h : ∀ k (hk : k < hs.length), hs[k] = 0 ∨ hs[k] = 1) {s : Nat} (hs1 : s < hs.length) {j : Nat} (hj : j < l.length)
    (h0 : 0 ≤ (l.getD j zLf).sheet) (hq : markQ w l hs j = true) : markQ w l (otherL hs s) j = !(((l.getD j zLf).sheet == (s : Int)) && acrossW w) := by
  have hf := hF.1 j hj (hs.getD s 0) (by rw [List.getD_eq_getElem?_getD, List.getElem?_eq_getElem hs1, Option.getD_some]; exact h s hs1)
  unfold markQ at *
  generalize l.getD j zLf = x at *
  by_cases e : x.sheet = (s : Int)
  · rw [e, Int.toNat_natCast] at hq ⊢
    have e2 : (otherL hs s).getD s 0 = 1 - hs.getD s 0 := by
      unfold otherL
      rw [List.getD_eq_getElem?_getD, List.getElem?_set_self hs1, Option.getD_some]
    rw [e2]
    by_cases ha : acrossW w = true
    · rw [if_pos ha] at hf
      rw [hf hq, ha]; simp
    · rw [if_neg ha] at hf
      rw [hf, hq, eq_false_of_ne_true ha]; simp
  · have e2 : (otherL hs s).getD x.sheet.toNat 0 = hs.getD x.sheet.toNat 0 := by
      unfold otherL
      rw [List.getD_eq_getElem?_getD, List.getElem?_set_ne (by omega), ← List.getD_eq_getElem?_getD]
    rw [e2, hq]
    simp [e]

theorem chunk_row (rest : List AV) : ∀ (l : List Int), chunk 1 (l.map I ++ rest) l.length = l.map I
  | [] => rfl
  | x :: l => by
    show (if 1 = 1 then ((I x :: (l.map I ++ rest)).getD 0 .any).erase0 else _) :: chunk 1 ((I x :: (l.map I ++ rest)).drop 1) l.length = _
    rw [if_pos rfl, List.drop_one, List.tail_cons, chunk_row rest l]
    rfl

theorem cells_row (l : List Int) : ((l.map I).flatMap AV.cells).map AV.erase0 = l.map I := by
  induction l with
  | nil => rfl
  | cons x l ih => rw [List.map_cons, List.flatMap_cons, List.map_append, ih]; rfl
theorem set_row (l : List Int) (r s : Nat) (v : Int) (hs : s < l.length) : (l.map I ++ List.replicate r (I 0)).set s (I v) = (l.set s v).map I ++ List.replicate r (I 0) := by
  rw [List.set_append_left _ _ (by simpa using hs), List.map_set]
theorem row_all (l : List Int) (r : Nat) : (l.map I ++ List.replicate r (I 0)).all AV.cell1 = true := by
  rw [List.all_append, Bool.and_eq_true]
  constructor
  · rw [List.all_eq_true]
    intro x hx
    obtain ⟨y, _, rfl⟩ := List.mem_map.1 hx
    rfl
  · rw [List.all_eq_true]
    intro x hx
    rw [(List.mem_replicate.1 hx).2]
    rfl
end Go.Proofs.Ytcfeipphmklakaa

namespace Go.Proofs.Ytcfeipphmklakaa
open Go.Avm

theorem frz_row {P : Program} {ms : List MOp} {K : St → Prop} {st : St} {k b len cap : Nat} (cs : List AV) (h0 : st.env k = .mslice b 0 len cap 1) (hl : st.loc b = some cs) (h1 : len ≤ cs.length) (h2 : cs.all AV.cell1 = true) (h3 : len ≤ 140737488355328)
    (hK : vcs P ms K ⟨upd st.env k (.slice 1 (chunk 1 cs len) 0), upd st.loc b none⟩) : vcs P (.frz k :: ms) K st := by
  rw [v_frz, h0]
  simp only [vFrz, hl, vFrzL, Nat.mul_one]
  exact ⟨h1, h2, h3, hK⟩

theorem foldMarks_ok (ha : PCall Try.prog 19 [] (B true)) (p : Prs) (xs : List Int) (x : List Int) (_ : True) (hx : xs.length = 2 ∧ ∀ x ∈ xs, 0 ≤ x ∧ x ≤ 65535) (hu : okU x) : PCall Try.prog 11 [p.av, .agg (xs.flatMap fun y => (U y).cells), US x] (B true) := by
  obtain ⟨hx3, hxu⟩ := hx
  match xs, hx3 with
  | [a, b], _ =>
  have hca := hxu a (by simp)
  have hcb := hxu b (by simp)
  obtain ⟨na, rfl⟩ : ∃ n : Nat, a = n := ⟨a.toNat, by omega⟩
  obtain ⟨nb, rfl⟩ : ∃ n : Nat, b = n := ⟨b.toNat, by omega⟩
  have hwa := wrap_i64 hca
  have hwb := wrap_i64 hcb
  clear hxu
  refine pcall Try.func11 tr11 rs11 fn11 (by simp [Try.ntmps11]) fun hfit => ?_
  have c1 := valid42_ok p
  unfold m11
  refine cutS (fun st => st.env 2 = US x ∧ st.env 3 = PRef p ∧ st.env 4 = .ref [U na, U nb]) (fun k hk => ?_) ?_
  · simp -implicitDefEqProofs
    exact hk _ ⟨rfl, rfl, rfl⟩
  rintro st ⟨e2, e3, e4⟩
  refine cutS (fun st => errE p = 0 ∧ st.env 2 = US x ∧ st.env 3 = PRef p ∧ st.env 4 = .ref [U na, U nb]) (fun k hk => ?_) ?_
  · simp -implicitDefEqProofs [e3]
    refine vCall_of c1 ?_
    by_cases he : errE p = 0
    · have he' : (errE p == 0) = true := by simp [he]
      simp -implicitDefEqProofs [he']
      exact hk _ ⟨he, by simp [e2], by simp [e3], by simp [e4]⟩
    · have he' : (errE p == 0) = false := beq_eq_false_iff_ne.2 he
      simp -implicitDefEqProofs [he']
      refine vCall_of ha ?_
      simp -implicitDefEqProofs [r11]
  clear e2 e3 e4
  rintro st ⟨he, e2, e3, e4⟩
  have c2 := made46_ok he na
  have hen := madeM_ok he na
  generalize hmm : madeM p na = m at *
  have hp := right_of he
  have hm := rightM_of (enterE_zero hen).2
  have c3 := leaves20_ok p m
  have hlr : leavesR p m = lvOf p m := by unfold leavesR; rw [if_pos hen]
  rw [hlr, hen] at c3
  have hlen := lv_len hp hm
  have hsn := sheets_nat hp hm
  have hms := hm.sheets
  have hF := mark_facts hp hm
  have hokl := fun (x : Lf) (hx : x ∈ lvOf p m) => lv_okLf hp hm hx
  have c4 := halves48_ok m hu (by omega)
  have hhl := halvesT_len x m.sheets.toNat
  have hhi : ∀ k (hk : k < (halvesT x m.sheets.toNat).length), (halvesT x m.sheets.toNat)[k] = 0 ∨ (halvesT x m.sheets.toNat)[k] = 1 := fun k hk => by
    have := halvesT_in hu hk
    omega
  have hmk : ∀ hs : List Int, hs.length = m.sheets.toNat → (∀ k (hk : k < hs.length), hs[k] = 0 ∨ hs[k] = 1) → PCall Try.prog 28 [p.av, m.av, IL hs] (.tuple [IL (selT (markQ (codes (foldsOf p m)) (lvOf p m) hs) (lvOf p m).length), I 0]) := fun hs h1 h2 => by
    have := marked28_ok p m hs
    have e : markedR p m hs = (selT (markQ (codes (foldsOf p m)) (lvOf p m) hs) (lvOf p m).length, 0) := by
      unfold markedR
      rw [if_neg (not_not_intro hen), if_neg (by omega), if_neg (by rw [out_zero h2]; simp)]
    rwa [e] at this
  generalize halvesT x m.sheets.toNat = h at *
  obtain ⟨s, hs⟩ : ∃ s, s = nb % m.sheets.toNat := ⟨_, rfl⟩
  have hsl : s < h.length := by rw [hs, hhl]; exact Nat.mod_lt _ (by omega)
  have htm : (nb : Int).tmod m.sheets = (s : Int) := by rw [hsn.1, hs]; exact tmod_nat ..
  have hol := otherL_len h s
  have c5 := hmk h hhl hhi
  have c6 := hmk (otherL h s) (by rw [hol, hhl]) (other_in hhi hsl)
  have hsS : s < m.sheets.toNat := by omega
  have hcnt := hF.2 s hsS (h.getD s 0) (by rw [List.getD_eq_getElem?_getD, List.getElem?_eq_getElem hsl, Option.getD_some]; exact hhi s hsl)
  have hboth := fun {j : Nat} (hj : j < (lvOf p m).length) (h0 : 0 ≤ ((lvOf p m).getD j zLf).sheet) (hq : markQ (codes (foldsOf p m)) (lvOf p m) h j = true) => both_mark hF hhi hsl hj h0 hq
  rw [← cntK_mark] at hcnt
  have hm0 : ¬ m.sheets = 0 := by omega
  refine cutS (fun st => st.env 2 = US x ∧ st.env 3 = PRef p ∧ st.env 4 = .ref [U na, U nb] ∧ st.env 7 = .ref m.cs) (fun k hk => ?_) ?_
  · simp -implicitDefEqProofs [e3, e4, hwa]
    refine vCall_of c2 ?_
    simp -implicitDefEqProofs
    intro b7 _
    exact hk _ ⟨by simp [e2], by simp [e3], by simp [e4], by simp⟩
  clear e2 e3 e4 c2 hmm
  rintro st ⟨e2, e3, e4, e7⟩
  refine cutS (fun st => st.env 3 = PRef p ∧ st.env 4 = .ref [U na, U nb] ∧ st.env 7 = .ref m.cs ∧ st.env 8 = IL h) (fun k hk => ?_) ?_
  · simp -implicitDefEqProofs [e2, e7]
    refine vCall_of c4 ?_
    simp -implicitDefEqProofs
    exact hk _ ⟨by simp [e3], by simp [e4], by simp [e7], by simp⟩
  clear e2 e3 e4 e7 c4
  rintro st ⟨e3, e4, e7, e8⟩
  refine cutS (fun st => st.env 3 = PRef p ∧ st.env 7 = .ref m.cs ∧ st.env 8 = IL h ∧ st.env 9 = I s) (fun k hk => ?_) ?_
  · simp -implicitDefEqProofs [e4, e7, hwb, htm, hm0]
    exact hk _ ⟨by simp [e3], by simp [e7], by simp [e8], by simp⟩
  clear e3 e4 e7 e8
  rintro st ⟨e3, e7, e8, e9⟩
  have hh0 : ¬ h = [] := fun e => by rw [e] at hsl; simp at hsl
  refine cutS (fun st => st.env 3 = PRef p ∧ st.env 7 = .ref m.cs ∧ st.env 8 = IL h ∧ st.env 9 = I s ∧ ∃ b r, st.env 10 = .mslice b 0 h.length (h.length + r) 1 ∧ st.loc b = some (h.map I ++ List.replicate r (I 0))) (fun k hk => ?_) ?_
  · have hrow := cells_row h
    have hl8 := fits_len (hfit 2)
    simp -implicitDefEqProofs [e8]
    intro b0 n0
    refine ⟨hh0, by omega, by omega, fun b r nb => ?_⟩
    exact hk _ ⟨by simp [e3], by simp [e7], by simp [e8], by simp [e9], b, r, by simp, by simp [hrow]⟩
  clear e3 e7 e8 e9
  rintro st ⟨e3, e7, e8, e9, b, r, e10, l10⟩
  refine cutS (fun st => st.env 3 = PRef p ∧ st.env 7 = .ref m.cs ∧ st.env 8 = IL h ∧ st.env 9 = I s ∧ st.env 10 = IL (otherL h s)) (fun k hk => ?_) ?_
  · have hsr := set_row h r s (1 - h[s]) hsl
    have hall := row_all (h.set s (1 - h[s])) r
    have hck := chunk_row (List.replicate r (I 0)) (h.set s (1 - h[s]))
    rw [← hsr] at hall hck
    rw [List.length_set] at hck
    have hot : otherL h s = h.set s (1 - h[s]) := by unfold otherL; rw [List.getD_eq_getElem?_getD, List.getElem?_eq_getElem hsl, Option.getD_some]
    have hin := hhi s hsl
    rw [hot] at hk
    simp -implicitDefEqProofs [-v_frz, e8, e9, e10, l10, hsl]
    have hes : (h.map I).set s (AV.lit (Value.int IntKind.i64 (1 - h[s]))) ++ List.replicate r (I 0) = (h.map I ++ List.replicate r (I 0)).set s (I (1 - h[s])) := by rw [List.set_append_left _ _ (by simpa using hsl)]
    rw [hes]
    refine ⟨i64 (by omega) (by omega), by omega, ?_⟩
    refine frz_row ((h.map I ++ List.replicate r (I 0)).set s (I (1 - h[s]))) (b := b) (len := h.length) (cap := h.length + r) (by simp [e10]) (by simp) (by simp) hall (by have := fits_len (hfit 2); omega) ?_
    rw [hck]
    exact hk _ ⟨by simp [upd, e3], by simp [upd, e7], by simp [upd, e8], by simp [upd, e9], by simp [upd]⟩
  clear e3 e7 e8 e9 e10 l10
  rintro st ⟨e3, e7, e8, e9, e10⟩
  refine cutS (fun st => st.env 3 = PRef p ∧ st.env 7 = .ref m.cs ∧ st.env 8 = IL h ∧ st.env 9 = I s ∧ st.env 10 = IL (otherL h s) ∧ st.env 11 = LL (lvOf p m) ∧ st.env 12 = I 0) (fun k hk => ?_) ?_
  · simp -implicitDefEqProofs [e3, e7]
    refine vCall_of c3 ?_
    simp -implicitDefEqProofs
    exact hk _ ⟨by simp [e3], by simp [e7], by simp [e8], by simp [e9], by simp [e10], by simp, by simp⟩
  clear e3 e7 e8 e9 e10
  rintro st ⟨e3, e7, e8, e9, e10, e11, e12⟩
  obtain ⟨g, hg⟩ : ∃ g : Nat, m.format = g := ⟨m.format.toNat, by have := hm.fmt; omega⟩
  have hgl : g < p.fmts.length := by have := hm.fmt; omega
  have hfo := foldsOf_at hg hgl
  have hg0 : (0 : Int) ≤ m.format := by omega
  have hg1 : m.format < (p.fmts.length : Int) := by omega
  have hg2 : m.format.toNat = g := by omega
  have hfs := folds_size hp hm
  generalize lvOf p m = l at *
  generalize foldsOf p m = f at *
  obtain ⟨a, hq⟩ : ∃ a, a = selT (markQ (codes f) l h) l.length := ⟨_, rfl⟩
  obtain ⟨o, ho⟩ : ∃ o, o = selT (markQ (codes f) l (otherL h s)) l.length := ⟨_, rfl⟩
  rw [← hq] at c5 hcnt
  have hal : a.length ≤ l.length := by
    rw [hq]; unfold selT; rw [List.length_map]
    exact Nat.le_trans (List.length_filter_le _ _) (by simp)
  rw [← ho] at c6
  refine cutS (fun st => st.env 3 = PRef p ∧ st.env 7 = .ref m.cs ∧ st.env 9 = I s ∧ st.env 10 = IL (otherL h s) ∧ st.env 11 = LL l ∧ st.env 12 = I 0 ∧ st.env 13 = IL a ∧ st.env 14 = I 0) (fun k hk => ?_) ?_
  · simp -implicitDefEqProofs [e3, e7, e8]
    refine vCall_of c5 ?_
    simp -implicitDefEqProofs
    exact hk _ ⟨by simp [e3], by simp [e7], by simp [e9], by simp [e10], by simp [e11], by simp [e12], by simp, by simp⟩
  clear e3 e7 e8 e9 e10 e11 e12
  rintro st ⟨e3, e7, e9, e10, e11, e12, e13, e14⟩
  refine cutS (fun st => st.env 3 = PRef p ∧ st.env 7 = .ref m.cs ∧ st.env 9 = I s ∧ st.env 11 = LL l ∧ st.env 13 = IL a ∧ st.env 15 = IL o ∧ st.env 12 = I 0 ∧ st.env 14 = I 0 ∧ st.env 16 = I 0) (fun k hk => ?_) ?_
  · simp -implicitDefEqProofs [e3, e7, e10]
    refine vCall_of c6 ?_
    simp -implicitDefEqProofs
    exact hk _ ⟨by simp [e3], by simp [e7], by simp [e9], by simp [e11], by simp [e13], by simp, by simp [e12], by simp [e14], by simp⟩
  clear e3 e7 e9 e10 e11 e12 e13 e14
  rintro st ⟨e3, e7, e9, e11, e13, e15, e12, e14, e16⟩
  refine cutS (fun st => st.env 3 = PRef p ∧ st.env 7 = .ref m.cs ∧ st.env 9 = I s ∧ st.env 11 = LL l ∧ st.env 13 = IL a ∧ st.env 15 = IL o) (fun k hk => ?_) ?_
  · simp -implicitDefEqProofs [e12, e14, e16]
    exact hk _ ⟨by simp [e3], by simp [e7], by simp [e9], by simp [e11], by simp [e13], by simp [e15]⟩
  clear e3 e7 e9 e11 e12 e13 e14 e15 e16
  rintro st ⟨e3, e7, e9, e11, e13, e15⟩
  refine cutS (fun st => st.env 3 = PRef p ∧ st.env 7 = .ref m.cs ∧ st.env 9 = I s ∧ st.env 11 = LL l ∧ st.env 13 = IL a ∧ st.env 15 = IL o ∧ st.env 17 = I 0) (fun k hk => ?_) ?_
  · simp -implicitDefEqProofs
    exact hk _ ⟨by simp [e3], by simp [e7], by simp [e9], by simp [e11], by simp [e13], by simp [e15], by simp⟩
  clear e3 e7 e9 e11 e13 e15
  rintro st ⟨e3, e7, e9, e11, e13, e15, e17⟩
  refine cutS (fun st => st.env 7 = .ref m.cs ∧ st.env 17 = I (cntK l s a a.length)) (fun kk hkk => ?_) ?_
  · simp -implicitDefEqProofs
    refine loop_up a.length (fun k st => st.env 3 = PRef p ∧ st.env 7 = .ref m.cs ∧ st.env 9 = I s ∧ st.env 11 = LL l ∧ st.env 13 = IL a ∧ st.env 15 = IL o ∧ st.env 17 = I (cntK l s a k) ∧ st.env 18 = I k) ?_ ?_
    · exact ⟨by simp [e3], by simp [e7], by simp [e9], by simp [e11], by simp [e13], by simp [e15], by simp [e17, cntK], by simp⟩
    clear e3 e7 e9 e11 e13 e15 e17
    rintro k st hk ⟨e3, e7, e9, e11, e13, e15, e17, e18⟩
    simp -implicitDefEqProofs [e13, e18]
    refine cond_dec (fun hlt => ?_) (fun hge => ?_)
    · have hlt : k < a.length := by omega
      obtain ⟨j, hj1, hj2, hj3⟩ : ∃ j : Nat, a[k] = j ∧ j < l.length ∧ markQ (codes f) l h j = true := by
        subst hq
        exact selT_mem' (List.getElem_mem hlt)
      have hgd : l.getD j zLf = l[j] := by rw [List.getD_eq_getElem?_getD, List.getElem?_eq_getElem hj2, Option.getD_some]
      have hcs := cntK_succ l s hlt
      rw [hj1, Int.toNat_natCast, hgd] at hcs
      have hb := hboth hj2 (by rw [hgd]; exact (hokl _ (List.getElem_mem hj2)).1) hj3
      rw [hgd] at hb
      have hho := has47_ok o j
      have hdo : decide ((j : Int) ∈ o) = !((l[j].sheet == (s : Int)) && acrossW (codes f)) := by
        rw [← hb, Bool.eq_iff_iff, decide_eq_true_eq, ho, mem_selT']
        simp [hj2]
      rw [hdo] at hho
      have hstr : 0 < k → a[k - 1] < a[k] := fun h0 => by subst hq; exact selT_lt (by omega) hlt
      have hkl := cntK_le l s a k
      have n1 : ¬ (j : Int) < 0 := by omega
      have n2 : ¬ (l.length : Int) ≤ (j : Int) := by omega
      rw [w_skip, w_seq, w_block]
      refine cutS (fun st => st.env 3 = PRef p ∧ st.env 7 = .ref m.cs ∧ st.env 9 = I s ∧ st.env 11 = LL l ∧ st.env 13 = IL a ∧ st.env 15 = IL o ∧ st.env 17 = I (cntK l s a k) ∧ st.env 18 = I k) (fun k2 hk2 => ?_) ?_
      · rcases Nat.eq_zero_or_pos k with rfl | h0
        · simp -implicitDefEqProofs [e11, e13, e18, hlt, hj1, n1, n2]
          exact hk2 _ ⟨by simp [e3], by simp [e7], by simp [e9], by simp [e11], by simp [e13], by simp [e15], by simp [e17], by simp [e18]⟩
        · have g3 := hstr h0
          have hk1 : ((k : Int) - 1).toNat = k - 1 := by omega
          have hk3 : k - 1 < a.length := by omega
          have n3 : ¬ (j : Int) ≤ a[k - 1] := by omega
          have n4 : (0 : Int) < k := by omega
          have n5 : (1 : Int) ≤ k := by omega
          simp -implicitDefEqProofs [e11, e13, e18, hlt, hj1, n1, n2, n3, n4, n5, h0, hk1, hk3]
          refine ⟨i64 (by omega) (by omega), by omega, ?_⟩
          exact hk2 _ ⟨by simp [e3], by simp [e7], by simp [e9], by simp [e11], by simp [e13], by simp [e15], by simp [e17], by simp [e18]⟩
      clear e3 e7 e9 e11 e13 e15 e17 e18
      rintro st ⟨e3, e7, e9, e11, e13, e15, e17, e18⟩
      have hjl : ((j : Int)).toNat = j := Int.toNat_natCast j
      refine cutS (fun st => st.env 3 = PRef p ∧ st.env 7 = .ref m.cs ∧ st.env 9 = I s ∧ st.env 11 = LL l ∧ st.env 13 = IL a ∧ st.env 15 = IL o ∧ st.env 17 = I (cntK l s a (k + 1)) ∧ st.env 18 = I k) (fun k2 hk2 => ?_) ?_
      · by_cases hsh : l[j].sheet = (s : Int)
        · rw [if_pos hsh] at hcs
          have hsb : (l[j].sheet == (s : Int)) = true := beq_iff_eq.2 hsh
          simp -implicitDefEqProofs [e9, e11, e13, e17, e18, hlt, hj1, hj2, hsb]
          refine ⟨i64 (by omega) (by omega), ?_⟩
          exact hk2 _ ⟨by simp [e3], by simp [e7], by simp [e9], by simp [e11], by simp [e13], by simp [e15], by simp [hcs], by simp [e18]⟩
        · rw [if_neg hsh] at hcs
          have hsb : (l[j].sheet == (s : Int)) = false := beq_eq_false_iff_ne.2 hsh
          simp -implicitDefEqProofs [e9, e11, e13, e17, e18, hlt, hj1, hj2, hsb]
          exact hk2 _ ⟨by simp [e3], by simp [e7], by simp [e9], by simp [e11], by simp [e13], by simp [e15], by simp [e17, hcs], by simp [e18]⟩
      clear e3 e7 e9 e11 e13 e15 e17 e18 hcs
      rintro st ⟨e3, e7, e9, e11, e13, e15, e17, e18⟩
      refine cutS (fun st => st.env 3 = PRef p ∧ st.env 7 = .ref m.cs ∧ st.env 9 = I s ∧ st.env 11 = LL l ∧ st.env 13 = IL a ∧ st.env 15 = IL o ∧ st.env 17 = I (cntK l s a (k + 1)) ∧ st.env 18 = I k ∧ st.env 19 = B false) (fun k2 hk2 => ?_) ?_
      · simp -implicitDefEqProofs
        exact hk2 _ ⟨by simp [e3], by simp [e7], by simp [e9], by simp [e11], by simp [e13], by simp [e15], by simp [e17], by simp [e18], by simp⟩
      clear e3 e7 e9 e11 e13 e15 e17 e18
      rintro st ⟨e3, e7, e9, e11, e13, e15, e17, e18, e19⟩
      refine cutS (fun st => st.env 3 = PRef p ∧ st.env 7 = .ref m.cs ∧ st.env 9 = I s ∧ st.env 11 = LL l ∧ st.env 13 = IL a ∧ st.env 15 = IL o ∧ st.env 17 = I (cntK l s a (k + 1)) ∧ st.env 18 = I k ∧ st.env 19 = B false ∧ st.env 20 = S f) (fun k2 hk2 => ?_) ?_
      · simp -implicitDefEqProofs [e3, e7, hg0, hg1, hg2, hgl]
        exact hk2 _ ⟨by simp [e3], by simp [e7], by simp [e9], by simp [e11], by simp [e13], by simp [e15], by simp [e17], by simp [e18], by simp [e19], by simp [hfo]⟩
      clear e3 e7 e9 e11 e13 e15 e17 e18 e19
      rintro st ⟨e3, e7, e9, e11, e13, e15, e17, e18, e19, e20⟩
      refine cutS (fun st => st.env 3 = PRef p ∧ st.env 7 = .ref m.cs ∧ st.env 9 = I s ∧ st.env 11 = LL l ∧ st.env 13 = IL a ∧ st.env 15 = IL o ∧ st.env 17 = I (cntK l s a (k + 1)) ∧ st.env 18 = I k ∧ st.env 19 = B (acrossW (codes f))) (fun k2 hk2 => ?_) ?_
      · simp -implicitDefEqProofs
        refine loop_up f.size (fun i st => st.env 3 = PRef p ∧ st.env 7 = .ref m.cs ∧ st.env 9 = I s ∧ st.env 11 = LL l ∧ st.env 13 = IL a ∧ st.env 15 = IL o ∧ st.env 17 = I (cntK l s a (k + 1)) ∧ st.env 18 = I k ∧ st.env 19 = B (((codes f).take i).any fun c => c == 120) ∧ st.env 20 = S f ∧ st.env 21 = I i) ?_ ?_
        · exact ⟨by simp [e3], by simp [e7], by simp [e9], by simp [e11], by simp [e13], by simp [e15], by simp [e17], by simp [e18], by simp [e19], by simp [e20], by simp⟩
        clear e3 e7 e9 e11 e13 e15 e17 e18 e19 e20
        rintro i st hi ⟨e3, e7, e9, e11, e13, e15, e17, e18, e19, e20, e21⟩
        simp -implicitDefEqProofs [e20, e21]
        refine cond_dec (fun hlt2 => ?_) (fun hge2 => ?_)
        · have hlt2 : i < f.size := by omega
          have hcl : i < (codes f).length := by rw [codes_len]; exact hlt2
          have htk : ((codes f).take (i + 1)).any (fun c => c == 120) = (((codes f).take i).any (fun c => c == 120) || (codes f)[i] == 120) := by rw [take_snoc hcl, List.any_append]; simp
          have hbt : (f.data.toList.getD i 0).toNat = (codes f)[i] := by
            have := bt_codes f i
            rw [List.getD_eq_getElem?_getD, List.getElem?_eq_getElem hcl, Option.getD_some] at this
            exact this
          rw [List.getD_eq_getElem?_getD] at hbt
          generalize (codes f)[i] = cd at *
          generalize ((codes f).take i).any (fun c => c == 120) = t0 at *
          have hlt3 : i < f.data.size := hlt2
          simp at hbt
          rw [Array.getElem?_eq_getElem hlt3, Option.getD_some] at hbt
          have hcd : ((cd : Int) == 120) = (cd == 120) := by rw [Bool.eq_iff_iff, beq_iff_eq, beq_iff_eq]; omega
          cases t0 with
          | true =>
            simp -implicitDefEqProofs [e19, e20, e21]
            exact ⟨i64 (by omega) (by omega), round_ok hlt2 ⟨by simp [e3], by simp [e7], by simp [e9], by simp [e11], by simp [e13], by simp [e15], by simp [e17], by simp [e18], by rw [htk]; simp, by simp [e20], by simp⟩⟩
          | false =>
            simp -implicitDefEqProofs [e19, e20, e21, hlt2, hlt3, hbt, hcd]
            exact ⟨i64 (by omega) (by omega), round_ok hlt2 ⟨by simp [e3], by simp [e7], by simp [e9], by simp [e11], by simp [e13], by simp [e15], by simp [e17], by simp [e18], by rw [htk]; simp [hbt, hcd], by simp [e20], by simp⟩⟩
        · obtain rfl : i = f.size := by omega
          have htk : (codes f).take f.size = codes f := by rw [← codes_len, List.take_length]
          rw [htk] at e19
          simp -implicitDefEqProofs
          exact hk2 _ ⟨by simp [e3], by simp [e7], by simp [e9], by simp [e11], by simp [e13], by simp [e15], by simp [e17], by simp [e18], by simp [e19, acrossW]⟩
      clear e3 e7 e9 e11 e13 e15 e17 e18 e19 e20
      rintro st ⟨e3, e7, e9, e11, e13, e15, e17, e18, e19⟩
      generalize acrossW (codes f) = ac at *
      cases hsb : (l[j].sheet == (s : Int)) <;> cases ac <;> rw [hsb] at hho
      all_goals
        simp -implicitDefEqProofs [e9, e11, e13, e15, e18, hlt, hj1, hj2]
        refine vCall_of hho ?_
        simp -implicitDefEqProofs [e9, e11, e13, e15, e18, e19, hlt, hj1, hj2, hsb]
        exact ⟨i64 (by omega) (by omega), round_ok hlt ⟨by simp [e3], by simp [e7], by simp [e9], by simp [e11], by simp [e13], by simp [e15], by simp [e17], by simp⟩⟩
    · obtain rfl : k = a.length := by omega
      simp -implicitDefEqProofs
      exact hkk _ ⟨by simp [e7], by simp [e17]⟩
  clear e3 e7 e9 e11 e13 e15 e17
  rintro st ⟨e7, e17⟩
  generalize cntK l s a a.length = n at *
  have hc4 : n = 1 ∨ n = 2 ∨ n = 4 ∨ (n = 0 ∧ m.half = true) := by
    unfold okCnt at hcnt
    simp only [Bool.or_eq_true, Bool.and_eq_true, beq_iff_eq] at hcnt
    rcases hcnt with ((h | h) | h) | h
    · exact .inl h
    · exact .inr (.inl h)
    · exact .inr (.inr (.inl h))
    · exact .inr (.inr (.inr h))
  rcases hc4 with rfl | rfl | rfl | ⟨rfl, hhf⟩
  · simp -implicitDefEqProofs [e7, e17]
    refine vCall_of ha ?_
    simp -implicitDefEqProofs [r11]
  · simp -implicitDefEqProofs [e7, e17]
    refine vCall_of ha ?_
    simp -implicitDefEqProofs [r11]
  · simp -implicitDefEqProofs [e7, e17]
    refine vCall_of ha ?_
    simp -implicitDefEqProofs [r11]
  · simp -implicitDefEqProofs [e7, e17, hhf]
    refine vCall_of ha ?_
    simp -implicitDefEqProofs [r11]
end Go.Proofs.Ytcfeipphmklakaa

