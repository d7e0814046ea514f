/- The resolved code of some functions, written by program, each held against the function by the kernel. The resolved code of some functions, written by program, each held against the function by the kernel. All ways of making, in order: the reference's walk. Helpers of the outright laws: valid, Made, turn, halves, Has. Sets as bits: what the program's functions on bits return. Sets as bits, and the order of lists of pieces. What is seen and is not true of a way of making: marks and sizes. Marks that are not true, of the program and of the reference. The pieces that are wrong of a way of making: the program's walk. The pieces that are wrong of a way of making: the reference's walk. All ways of making, handed over one by one: the program's iterator. -/
import Derived.Test.YtcfeipphmklakaaFE
import Derived.KernelRfl
import Derived.Test.YtcfeipphmklakaaFF
import Derived.Test.YtcfeipphmklakaaGT2
namespace Go.Proofs.Ytcfeipphmklakaa
open Go.Avm

/- duodecimo/duodecimolaw02.FoldAgrees -/
def ann5 : Ann := { muts := [], nilsz := [], oid := [], frz := [], zero := [], ord := [], ap := [], own := [], yl := [], fz := [], imm := [] }
def m5 : MCode := (.seq (.reg [.boxI 3 (.t 0) 4, .boxI 4 (.t 1) 7, .asg 6 (.c (.lit (.bool false)))])
 (.seq (.reg [.load 16 (.t 3) (some 4), .load 17 (.t 4) (some 7), .call 18 30 [(.t 16), (.t 17)], .cpy 15 (.t 18), .ext 19 (.t 15) 0, .ext 20 (.t 15) 1, .asg 7 (.t 19), .asg 8 (.t 20)])
 (.seq (.reg [.load 22 (.t 3) (some 4), .load 23 (.t 4) (some 7), .call 24 31 [(.t 22), (.t 23)], .cpy 21 (.t 24), .ext 25 (.t 21) 0, .ext 26 (.t 21) 1, .asg 9 (.t 25), .asg 10 (.t 26)])
 (.seq (.seq (.reg [.cpy 27 (.t 7), .cpy 28 (.t 9), .call 29 32 [(.t 27), (.t 28)], .not 30 (.t 29), .cpy 31 (.t 30), .guard 31 false (some 32) (.cpy 32 (.t 8)), .guard 31 false (some 33) (.cpy 33 (.t 10)), .guard 31 false (some 34) (.bin 34 .neq (.t 32) (.t 33)), .pick 35 (.t 31) (.c (.lit (.bool true))) (.t 34)])
 (.cond (.t 35) (.seq (.reg [.asg 6 (.c (.lit (.bool false)))])
 .ret) .skip))
 (.seq (.reg [.load 37 (.t 3) (some 4), .load 38 (.t 4) (some 7), .cpy 39 (.t 2), .call 40 33 [(.t 37), (.t 38), (.t 39)], .cpy 36 (.t 40), .ext 41 (.t 36) 0, .ext 42 (.t 36) 1, .ext 43 (.t 36) 2, .asg 11 (.t 41), .asg 12 (.t 42), .asg 8 (.t 43)])
 (.seq (.reg [.load 45 (.t 3) (some 4), .load 46 (.t 4) (some 7), .cpy 47 (.t 2), .call 48 34 [(.t 45), (.t 46), (.t 47)], .cpy 44 (.t 48), .ext 49 (.t 44) 0, .ext 50 (.t 44) 1, .ext 51 (.t 44) 2, .asg 13 (.t 49), .asg 14 (.t 50), .asg 10 (.t 51)])
 (.seq (.seq (.reg [.cpy 52 (.t 11), .cpy 53 (.t 13), .call 54 25 [(.t 52), (.t 53)], .not 55 (.t 54), .cpy 56 (.t 55), .guard 56 false (some 57) (.cpy 57 (.t 12)), .guard 56 false (some 58) (.cpy 58 (.t 14)), .guard 56 false (some 59) (.call 59 25 [(.t 57), (.t 58)]), .guard 56 false (some 60) (.not 60 (.t 59)), .pick 61 (.t 56) (.c (.lit (.bool true))) (.t 60), .cpy 62 (.t 61), .guard 62 false (some 63) (.cpy 63 (.t 8)), .guard 62 false (some 64) (.cpy 64 (.t 10)), .guard 62 false (some 65) (.bin 65 .neq (.t 63) (.t 64)), .pick 66 (.t 62) (.c (.lit (.bool true))) (.t 65)])
 (.cond (.t 66) (.seq (.reg [.asg 6 (.c (.lit (.bool false)))])
 .ret) .skip))
 (.seq (.reg [.load 68 (.t 3) (some 4), .load 69 (.t 4) (some 7), .call 70 35 [(.t 68), (.t 69)], .cpy 67 (.t 70), .ext 71 (.t 67) 0, .ext 72 (.t 67) 1, .asg 11 (.t 71), .asg 8 (.t 72)])
 (.seq (.reg [.load 74 (.t 3) (some 4), .load 75 (.t 4) (some 7), .call 76 36 [(.t 74), (.t 75)], .cpy 73 (.t 76), .ext 77 (.t 73) 0, .ext 78 (.t 73) 1, .asg 13 (.t 77), .asg 10 (.t 78)])
 (.seq (.reg [.cpy 79 (.t 11), .cpy 80 (.t 13), .call 81 25 [(.t 79), (.t 80)], .cpy 82 (.t 81), .guard 82 true (some 83) (.cpy 83 (.t 8)), .guard 82 true (some 84) (.cpy 84 (.t 10)), .guard 82 true (some 85) (.bin 85 .eql (.t 83) (.t 84)), .pick 86 (.t 82) (.t 85) (.c (.lit (.bool false))), .cpy 87 (.t 86), .guard 87 true (some 88) (.call 88 19 []), .pick 89 (.t 87) (.t 88) (.c (.lit (.bool false))), .asg 6 (.t 89)])
 .ret))))))))))
def r5 : List MRes := [.tmp 6]
/- duodecimo/duodecimoref02.Agree -/
def ann31 : Ann := { muts := [], nilsz := [(4, 4)], oid := [], frz := [], zero := [], ord := [], ap := [], own := [], yl := [], fz := [], imm := [] }
def m31 : MCode := (.seq (.reg [.boxI 2 (.t 0) 4, .boxI 3 (.t 1) 7, .asgNil 4 4, .asg 5 (.c (.lit (.int .i64 0)))])
 (.seq (.reg [.load 10 (.t 2) (some 4), .load 11 (.t 3) (some 7), .call 12 18 [(.t 10), (.t 11)], .cpy 9 (.t 12), .ext 13 (.t 9) 0, .ext 14 (.t 9) 1, .ext 15 (.t 9) 2, .asg 6 (.t 13), .asg 7 (.t 14), .asg 8 (.t 15)])
 (.seq (.seq (.reg [.cpy 16 (.t 8), .bin 17 .neq (.t 16) (.c (.lit (.int .i64 0)))])
 (.cond (.t 17) (.seq (.reg [.cpy 18 (.t 8), .asgNil 4 4, .asg 5 (.t 18)])
 .ret) .skip))
 (.seq (.reg [.load 19 (.t 2) (some 4), .load 20 (.t 3) (some 7), .call 21 79 [(.t 19), (.t 20)], .asg 4 (.t 21), .asg 5 (.c (.lit (.int .i64 0)))])
 .ret))))
def r31 : List MRes := [.tmp 4, .tmp 5]
/- duodecimo/duodecimoref02.Together -/
def ann34 : Ann := { muts := [], nilsz := [(6, 1), (7, 1), (11, 1), (12, 1)], oid := [], frz := [], zero := [(79, [(.lit (.int .i64 0))]), (85, [(.lit (.int .i64 0))])], ord := [(16, [0, 1, 2, 3, 4, 5, 6, 7, 8, 9, 10, 11, 12, 13])], ap := [], own := [18], yl := [], fz := [], imm := [] }
def m34 : MCode := (.seq (.reg [.boxI 3 (.t 0) 4, .boxI 4 (.t 1) 7, .asgNil 6 1, .asgNil 7 1, .asg 8 (.c (.lit (.int .i64 0)))])
 (.seq (.reg [.load 20 (.t 3) (some 4), .load 21 (.t 4) (some 7), .call 22 31 [(.t 20), (.t 21)], .cpy 19 (.t 22), .ext 23 (.t 19) 0, .ext 24 (.t 19) 1, .asg 9 (.t 23), .asg 10 (.t 24)])
 (.seq (.seq (.reg [.cpy 25 (.t 10), .bin 26 .eql (.t 25) (.c (.lit (.int .i64 0))), .cpy 27 (.t 26), .guard 27 true (some 28) (.cpy 28 (.t 2)), .guard 27 true (some 29) (.addr 29 (.t 4) 0), .guard 27 true (some 30) (.load 30 (.t 29) none), .guard 27 true (some 31) (.bin 31 .sub (.t 30) (.c (.lit (.int .i64 1)))), .guard 27 true (some 32) (.call 32 60 [(.t 28), (.c (.lit (.int .i64 0))), (.t 31)]), .guard 27 true (some 33) (.not 33 (.t 32)), .pick 34 (.t 27) (.t 33) (.c (.lit (.bool false)))])
 (.cond (.t 34) (.reg [.asg 10 (.c (.lit (.int .i64 4)))]) .skip))
 (.seq (.seq (.reg [.cpy 35 (.t 10), .bin 36 .eql (.t 35) (.c (.lit (.int .i64 0))), .cpy 37 (.t 36), .guard 37 true (some 38) (.cpy 38 (.t 9)), .guard 37 true (some 39) (.len 39 (.t 38)), .guard 37 true (some 40) (.bin 40 .eql (.t 39) (.c (.lit (.int .i64 0)))), .pick 41 (.t 37) (.t 40) (.c (.lit (.bool false)))])
 (.cond (.t 41) (.reg [.asg 10 (.c (.lit (.int .i64 8)))]) .skip))
 (.seq (.seq (.reg [.cpy 42 (.t 10), .bin 43 .neq (.t 42) (.c (.lit (.int .i64 0)))])
 (.cond (.t 43) (.seq (.reg [.cpy 44 (.t 10), .asgNil 6 1, .asgNil 7 1, .asg 8 (.t 44)])
 .ret) .skip))
 (.seq (.reg [.asgNil 11 1, .asgNil 12 1])
 (.seq (.seq (.reg [.asg 13 (.c (.lit (.int .i64 0)))])
 (.block 0 (.loop (.seq (.seq (.reg [.cpy 45 (.t 13), .addr 46 (.t 4) 0, .load 47 (.t 46) none, .bin 48 .lss (.t 45) (.t 47)])
 (.cond (.t 48) .skip (.exit 0)))
 (.seq (.block 1 (.seq (.reg [.asg 14 (.c (.lit (.int .i64 0)))])
 (.seq (.seq (.reg [.asg 15 (.c (.lit (.int .i64 0)))])
 (.block 2 (.loop (.seq (.seq (.reg [.cpy 51 (.t 15), .cpy 52 (.t 9), .len 53 (.t 52), .bin 54 .lss (.t 51) (.t 53)])
 (.cond (.t 54) .skip (.exit 2)))
 (.seq (.block 3 (.seq (.reg [.load 58 (.t 3) (some 4), .cpy 59 (.t 9), .cpy 60 (.t 15), .idxS 61 (.t 59) (.t 60) 4, .load 62 (.t 61) (some 4), .cpy 63 (.t 2), .call 64 27 [(.t 58), (.t 62), (.t 63)], .cpy 57 (.t 64), .ext 65 (.t 57) 0, .ext 66 (.t 57) 1, .ext 67 (.t 57) 2, .cpyE 16 (.t 65), .cpyE 17 (.t 66), .asg 18 (.t 67)])
 (.seq (.reg [.cpy 68 (.t 16), .cpy 69 (.t 13), .call 70 47 [(.t 68), (.t 69)]])
 (.cond (.t 70) (.reg [.cpy 71 (.t 14), .bin 72 .add (.t 71) (.c (.lit (.int .i64 1))), .asg 14 (.t 72)]) .skip))))
 (.reg [.cpy 55 (.t 15), .bin 56 .add (.t 55) (.c (.lit (.int .i64 1))), .asg 15 (.t 56)]))))))
 (.seq (.seq (.reg [.cpy 73 (.t 14), .cpy 74 (.t 9), .len 75 (.t 74), .bin 76 .eql (.t 73) (.t 75)])
 (.cond (.t 76) (.reg [.cpy 77 (.t 11), .cpy 78 (.t 13), .mkS 79 1 1 [(.lit (.int .i64 0))] [(0, (.t 78))], .app 80 (.t 77) (.t 79) 1 8, .asg 11 (.t 80)]) .skip))
 (.seq (.reg [.cpy 81 (.t 14), .bin 82 .gtr (.t 81) (.c (.lit (.int .i64 0)))])
 (.cond (.t 82) (.reg [.cpy 83 (.t 12), .cpy 84 (.t 13), .mkS 85 1 1 [(.lit (.int .i64 0))] [(0, (.t 84))], .app 86 (.t 83) (.t 85) 1 8, .asg 12 (.t 86)]) .skip))))))
 (.reg [.cpy 49 (.t 13), .bin 50 .add (.t 49) (.c (.lit (.int .i64 1))), .asg 13 (.t 50)]))))))
 (.seq (.reg [.cpy 87 (.t 11), .cpy 88 (.t 12), .asg 6 (.t 87), .asg 7 (.t 88), .asg 8 (.c (.lit (.int .i64 0)))])
 .ret))))))))
def r34 : List MRes := [.tmp 6, .tmp 7, .tmp 8]
/- duodecimo/duodecimoref02.Wrong -/
def ann36 : Ann := { muts := [], nilsz := [(4, 1), (10, 1)], oid := [], frz := [], zero := [], ord := [(10, [0, 1, 2, 3, 4, 5, 6, 7, 8, 9, 10, 11])], ap := [], own := [14], yl := [], fz := [], imm := [] }
def m36 : MCode := (.seq (.reg [.boxI 2 (.t 0) 4, .boxI 3 (.t 1) 7, .asgNil 4 1, .asg 5 (.c (.lit (.int .i64 0)))])
 (.seq (.reg [.load 16 (.t 2) (some 4), .load 17 (.t 3) (some 7), .call 18 18 [(.t 16), (.t 17)], .cpy 15 (.t 18), .ext 19 (.t 15) 0, .ext 20 (.t 15) 1, .ext 21 (.t 15) 2, .asg 6 (.t 19), .asg 7 (.t 20), .asg 8 (.t 21)])
 (.seq (.seq (.reg [.cpy 22 (.t 8), .bin 23 .neq (.t 22) (.c (.lit (.int .i64 0)))])
 (.cond (.t 23) (.seq (.reg [.cpy 24 (.t 8), .asgNil 4 1, .asg 5 (.t 24)])
 .ret) .skip))
 (.seq (.reg [.load 25 (.t 2) (some 4), .call 26 82 [(.t 25)], .asg 9 (.t 26)])
 (.seq (.reg [.asgNil 10 1])
 (.seq (.reg [.asg 11 (.c (.lit (.bool false)))])
 (.seq (.seq (.reg [.asg 12 (.c (.lit (.int .i64 0)))])
 (.block 0 (.loop (.seq (.seq (.reg [.cpy 27 (.t 12), .cpy 28 (.t 9), .len 29 (.t 28), .bin 30 .lss (.t 27) (.t 29)])
 (.cond (.t 30) .skip (.exit 0)))
 (.seq (.block 1 (.seq (.reg [.load 34 (.t 2) (some 4), .cpy 35 (.t 9), .cpy 36 (.t 12), .idxS 37 (.t 35) (.t 36) 4, .load 38 (.t 37) (some 4), .load 39 (.t 3) (some 7), .call 40 83 [(.t 34), (.t 38), (.t 39)], .cpy 33 (.t 40), .ext 41 (.t 33) 0, .ext 42 (.t 33) 1, .cpyE 13 (.t 41), .asg 14 (.t 42)])
 (.seq (.reg [.cpy 43 (.t 14), .cpy 44 (.t 43), .guard 44 true (some 45) (.cpy 45 (.t 11)), .guard 44 true (some 46) (.not 46 (.t 45)), .guard 44 true (some 47) (.cpy 47 (.t 46)), .guard 47 false (some 48) (.cpy 48 (.t 13)), .guard 47 false (some 49) (.cpy 49 (.t 10)), .guard 47 false (some 50) (.call 50 84 [(.t 48), (.t 49)]), .guard 44 true (some 51) (.pick 51 (.t 47) (.c (.lit (.bool true))) (.t 50)), .pick 52 (.t 44) (.t 51) (.c (.lit (.bool false)))])
 (.cond (.t 52) (.reg [.cpy 53 (.t 13), .asg 10 (.t 53), .asg 11 (.c (.lit (.bool true)))]) .skip))))
 (.reg [.cpy 31 (.t 12), .bin 32 .add (.t 31) (.c (.lit (.int .i64 1))), .asg 12 (.t 32)]))))))
 (.seq (.seq (.reg [.cpy 54 (.t 11), .not 55 (.t 54)])
 (.cond (.t 55) (.seq (.reg [.asgNil 4 1, .asg 5 (.c (.lit (.int .i64 9)))])
 .ret) .skip))
 (.seq (.reg [.cpy 56 (.t 10), .asg 4 (.t 56), .asg 5 (.c (.lit (.int .i64 0)))])
 .ret)))))))))
def r36 : List MRes := [.tmp 4, .tmp 5]
/- duodecimo/duodecimoref01.Has -/
def ann47 : Ann := { muts := [], nilsz := [], oid := [], frz := [], zero := [], ord := [], ap := [], own := [], yl := [], fz := [], imm := [] }
def m47 : MCode := (.seq (.reg [.asg 4 (.c (.lit (.bool false)))])
 (.seq (.seq (.reg [.asg 5 (.c (.lit (.int .i64 0)))])
 (.block 0 (.loop (.seq (.seq (.reg [.cpy 6 (.t 5), .cpy 7 (.t 0), .len 8 (.t 7), .bin 9 .lss (.t 6) (.t 8)])
 (.cond (.t 9) .skip (.exit 0)))
 (.seq (.block 1 (.seq (.reg [.cpy 12 (.t 0), .cpy 13 (.t 5), .idxS 14 (.t 12) (.t 13) 1, .load 15 (.t 14) none, .cpy 16 (.t 1), .bin 17 .eql (.t 15) (.t 16)])
 (.cond (.t 17) (.seq (.reg [.asg 4 (.c (.lit (.bool true)))])
 .ret) .skip)))
 (.reg [.cpy 10 (.t 5), .bin 11 .add (.t 10) (.c (.lit (.int .i64 1))), .asg 5 (.t 11)]))))))
 (.seq (.reg [.asg 4 (.c (.lit (.bool false)))])
 .ret)))
def r47 : List MRes := [.tmp 4]
theorem tr47 : Try.f47.body.bind (trC Try.prog ann47 Try.f47.ntmps) = some m47 := by kernel_rfl
theorem rs47 : trRes Try.prog Try.f47.results.toList = some r47 := by kernel_rfl
theorem fn47 : isFunc Try.prog 47 = true := by kernel_rfl

/- duodecimo/duodecimoref02.Fit -/
def ann79 : Ann := { muts := [], nilsz := [(4, 4), (6, 4)], oid := [], frz := [], zero := [(39, [(.lit (.int .i64 0)), (.lit (.int .i64 0)), (.lit (.int .i64 0)), (.lit (.bool false))])], ord := [(6, [0, 1, 2, 3, 4, 5, 6, 7, 8, 9, 10, 11])], ap := [], own := [9], yl := [], fz := [], imm := [] }
def m79 : MCode := (.seq (.reg [.boxI 2 (.t 0) 4, .boxI 3 (.t 1) 7, .asgNil 4 4])
 (.seq (.reg [.load 10 (.t 2) (some 4), .call 11 82 [(.t 10)], .asg 5 (.t 11)])
 (.seq (.reg [.asgNil 6 4])
 (.seq (.seq (.reg [.asg 7 (.c (.lit (.int .i64 0)))])
 (.block 0 (.loop (.seq (.seq (.reg [.cpy 12 (.t 7), .cpy 13 (.t 5), .len 14 (.t 13), .bin 15 .lss (.t 12) (.t 14)])
 (.cond (.t 15) .skip (.exit 0)))
 (.seq (.block 1 (.seq (.reg [.load 19 (.t 2) (some 4), .cpy 20 (.t 5), .cpy 21 (.t 7), .idxS 22 (.t 20) (.t 21) 4, .load 23 (.t 22) (some 4), .load 24 (.t 3) (some 7), .call 25 83 [(.t 19), (.t 23), (.t 24)], .cpy 18 (.t 25), .ext 26 (.t 18) 0, .ext 27 (.t 18) 1, .cpyE 8 (.t 26), .asg 9 (.t 27)])
 (.seq (.reg [.cpy 28 (.t 9), .cpy 29 (.t 28), .guard 29 true (some 30) (.cpy 30 (.t 8)), .guard 29 true (some 31) (.len 31 (.t 30)), .guard 29 true (some 32) (.bin 32 .eql (.t 31) (.c (.lit (.int .i64 0)))), .pick 33 (.t 29) (.t 32) (.c (.lit (.bool false)))])
 (.cond (.t 33) (.reg [.cpy 34 (.t 6), .cpy 35 (.t 5), .cpy 36 (.t 7), .idxS 37 (.t 35) (.t 36) 4, .load 38 (.t 37) (some 4), .mkS 39 1 4 [(.lit (.int .i64 0)), (.lit (.int .i64 0)), (.lit (.int .i64 0)), (.lit (.bool false))] [(0, (.t 38))], .app 40 (.t 34) (.t 39) 4 32, .asg 6 (.t 40)]) .skip))))
 (.reg [.cpy 16 (.t 7), .bin 17 .add (.t 16) (.c (.lit (.int .i64 1))), .asg 7 (.t 17)]))))))
 (.seq (.reg [.cpy 41 (.t 6), .asg 4 (.t 41)])
 .ret)))))
def r79 : List MRes := [.tmp 4]
/- duodecimo/duodecimoref02.Makes -/
def ann82 : Ann := { muts := [], nilsz := [(2, 4), (3, 4)], oid := [], frz := [8], zero := [(8, [(.lit (.int .i64 0)), (.lit (.int .i64 0)), (.lit (.int .i64 0)), (.lit (.bool false))]), (38, [(.lit (.int .i64 0)), (.lit (.int .i64 0)), (.lit (.int .i64 0)), (.lit (.bool false))]), (45, [(.lit (.int .i64 0)), (.lit (.int .i64 0)), (.lit (.int .i64 0)), (.lit (.bool false))])], ord := [], ap := [], own := [], yl := [], fz := [], imm := [] }
def m82 : MCode := (.seq (.reg [.boxI 1 (.t 0) 4, .asgNil 2 4])
 (.seq (.reg [.asgNil 3 4])
 (.seq (.seq (.reg [.asg 4 (.c (.lit (.int .i64 0)))])
 (.block 0 (.loop (.seq (.seq (.reg [.cpy 9 (.t 4), .addr 10 (.t 1) 0, .load 11 (.t 10) none, .len 12 (.t 11), .bin 13 .lss (.t 9) (.t 12)])
 (.cond (.t 13) .skip (.exit 0)))
 (.seq (.block 1 (.seq (.reg [.asg 5 (.c (.lit (.int .i64 0)))])
 (.block 2 (.loop (.seq (.seq (.reg [.cpy 16 (.t 5), .addr 17 (.t 1) 1, .load 18 (.t 17) none, .len 19 (.t 18), .bin 20 .lss (.t 16) (.t 19)])
 (.cond (.t 20) .skip (.exit 2)))
 (.seq (.block 3 (.seq (.reg [.asg 6 (.c (.lit (.int .i64 1)))])
 (.block 4 (.loop (.seq (.seq (.reg [.cpy 23 (.t 6), .addr 24 (.t 1) 3, .load 25 (.t 24) none, .bin 26 .leq (.t 23) (.t 25)])
 (.cond (.t 26) .skip (.exit 4)))
 (.seq (.block 5 (.seq (.reg [.asg 7 (.c (.lit (.int .i64 0)))])
 (.block 6 (.loop (.seq (.seq (.reg [.cpy 29 (.t 7), .bin 30 .lss (.t 29) (.c (.lit (.int .i64 2)))])
 (.cond (.t 30) .skip (.exit 6)))
 (.seq (.block 7 (.seq (.reg [.cpy 33 (.t 4), .cpy 34 (.t 5), .cpy 35 (.t 6), .cpy 36 (.t 7), .bin 37 .eql (.t 36) (.c (.lit (.int .i64 1))), .build 38 [(.lit (.int .i64 0)), (.lit (.int .i64 0)), (.lit (.int .i64 0)), (.lit (.bool false))] [(0, 1, (.t 33)), (1, 1, (.t 34)), (2, 1, (.t 35)), (3, 1, (.t 37))], .alloc 8 [(.lit (.int .i64 0)), (.lit (.int .i64 0)), (.lit (.int .i64 0)), (.lit (.bool false))], .storeF 8 (.t 38) 4])
 (.seq (.reg [.load 39 (.t 1) (some 4), .load 40 (.t 8) (some 4), .call 41 68 [(.t 39), (.t 40)], .bin 42 .eql (.t 41) (.c (.lit (.int .i64 0)))])
 (.cond (.t 42) (.reg [.cpy 43 (.t 3), .load 44 (.t 8) (some 4), .mkS 45 1 4 [(.lit (.int .i64 0)), (.lit (.int .i64 0)), (.lit (.int .i64 0)), (.lit (.bool false))] [(0, (.t 44))], .app 46 (.t 43) (.t 45) 4 32, .asg 3 (.t 46)]) .skip))))
 (.reg [.cpy 31 (.t 7), .bin 32 .add (.t 31) (.c (.lit (.int .i64 1))), .asg 7 (.t 32)])))))))
 (.reg [.cpy 27 (.t 6), .bin 28 .add (.t 27) (.c (.lit (.int .i64 1))), .asg 6 (.t 28)])))))))
 (.reg [.cpy 21 (.t 5), .bin 22 .add (.t 21) (.c (.lit (.int .i64 1))), .asg 5 (.t 22)])))))))
 (.reg [.cpy 14 (.t 4), .bin 15 .add (.t 14) (.c (.lit (.int .i64 1))), .asg 4 (.t 15)]))))))
 (.seq (.reg [.cpy 47 (.t 3), .asg 2 (.t 47)])
 .ret))))
def r82 : List MRes := [.tmp 2]
theorem tr82 : Try.f82.body.bind (trC Try.prog ann82 Try.f82.ntmps) = some m82 := by kernel_rfl
theorem rs82 : trRes Try.prog Try.f82.results.toList = some r82 := by kernel_rfl
theorem fn82 : isFunc Try.prog 82 = true := by kernel_rfl

/- duodecimo/duodecimoref02.Off -/
def ann83 : Ann := { muts := [], nilsz := [(6, 1), (12, 1), (17, 1)], oid := [], frz := [10], zero := [(10, [(.lit (.string ⟨#[]⟩)), (.lit (.int .i64 0)), (.lit (.int .i64 0)), (.lit (.int .i64 0)), (.lit (.int .i64 0))]), (59, [(.lit (.int .i64 0))]), (94, [(.lit (.int .i64 0))]), (106, [(.lit (.int .i64 0))]), (146, [(.lit (.int .i64 0))])], ord := [(4, [0, 1, 2, 3, 4, 5, 6, 7, 8, 9, 10, 11, 12, 13, 14, 15]), (21, [0, 1, 2, 3, 4, 5, 6, 7, 8, 9, 10, 11, 12, 13])], ap := [], own := [20], yl := [], fz := [], imm := [] }
def m83 : MCode := (.seq (.reg [.boxI 3 (.t 0) 4, .boxI 4 (.t 1) 4, .boxI 5 (.t 2) 7, .asgNil 6 1, .asg 7 (.c (.lit (.bool false)))])
 (.seq (.reg [.load 22 (.t 3) (some 4), .load 23 (.t 4) (some 4), .call 24 69 [(.t 22), (.t 23)], .asg 8 (.t 24)])
 (.seq (.seq (.reg [.cpy 25 (.t 8), .len 26 (.t 25), .addr 27 (.t 5) 0, .load 28 (.t 27) none, .bin 29 .neq (.t 26) (.t 28)])
 (.cond (.t 29) (.seq (.reg [.asgNil 6 1, .asg 7 (.c (.lit (.bool false)))])
 .ret) .skip))
 (.seq (.reg [.addr 30 (.t 3) 0, .load 31 (.t 30) none, .addr 32 (.t 4) 0, .load 33 (.t 32) none, .idxS 34 (.t 31) (.t 33) 2, .addr 35 (.t 34) 1, .load 36 (.t 35) none, .addr 37 (.t 3) 1, .load 38 (.t 37) none, .addr 39 (.t 4) 1, .load 40 (.t 39) none, .idxS 41 (.t 38) (.t 40) 5, .load 42 (.t 41) (some 5), .alloc 10 [(.lit (.string ⟨#[]⟩)), (.lit (.int .i64 0)), (.lit (.int .i64 0)), (.lit (.int .i64 0)), (.lit (.int .i64 0))], .cpyE 9 (.t 36), .storeF 10 (.t 42) 5])
 (.seq (.reg [.asg 11 (.c (.lit (.int .i64 2)))])
 (.seq (.seq (.reg [.cpy 43 (.t 9), .cpy 44 (.t 9), .lenStr 45 (.t 44), .bin 46 .sub (.t 45) (.c (.lit (.int .i64 1))), .idxStr 47 (.t 43) (.t 46), .bin 48 .eql (.t 47) (.c (.lit (.int .u8 120)))])
 (.cond (.t 48) (.reg [.asg 11 (.c (.lit (.int .i64 1)))]) .skip))
 (.seq (.reg [.asgNil 12 1])
 (.seq (.seq (.reg [.addr 49 (.t 5) 1, .load 50 (.t 49) none, .bin 51 .neq (.t 50) (.c (.lit (.int .i64 0))), .cpy 52 (.t 51), .guard 52 true (some 53) (.addr 53 (.t 5) 1), .guard 52 true (some 54) (.load 54 (.t 53) none), .guard 52 true (some 55) (.cpy 55 (.t 11)), .guard 52 true (some 56) (.bin 56 .neq (.t 54) (.t 55)), .pick 57 (.t 52) (.t 56) (.c (.lit (.bool false)))])
 (.cond (.t 57) (.reg [.cpy 58 (.t 12), .mkS 59 1 1 [(.lit (.int .i64 0))] [(0, (.c (.lit (.int .i64 0))))], .app 60 (.t 58) (.t 59) 1 8, .asg 12 (.t 60)]) .skip))
 (.seq (.reg [.load 62 (.t 3) (some 4), .load 63 (.t 4) (some 4), .addr 64 (.t 10) 1, .addr 65 (.t 64) 0, .load 66 (.t 65) none, .addr 67 (.t 10) 3, .addr 68 (.t 67) 0, .load 69 (.t 68) none, .call 70 86 [(.t 62), (.t 63), (.t 66), (.t 69)], .cpy 61 (.t 70), .ext 71 (.t 61) 0, .ext 72 (.t 61) 1, .asg 13 (.t 71), .asg 14 (.t 72)])
 (.seq (.reg [.load 74 (.t 3) (some 4), .load 75 (.t 4) (some 4), .addr 76 (.t 10) 1, .addr 77 (.t 76) 1, .load 78 (.t 77) none, .addr 79 (.t 10) 3, .addr 80 (.t 79) 1, .load 81 (.t 80) none, .call 82 86 [(.t 74), (.t 75), (.t 78), (.t 81)], .cpy 73 (.t 82), .ext 83 (.t 73) 0, .ext 84 (.t 73) 1, .asg 15 (.t 83), .asg 16 (.t 84)])
 (.seq (.seq (.reg [.cpy 85 (.t 13), .cpy 86 (.t 15), .addr 87 (.t 3) 2, .load 88 (.t 87) none, .addr 89 (.t 5) 2, .load 90 (.t 89) (some 2), .call 91 105 [(.t 85), (.t 86), (.t 88), (.t 90)], .not 92 (.t 91)])
 (.cond (.t 92) (.reg [.cpy 93 (.t 12), .mkS 94 1 1 [(.lit (.int .i64 0))] [(0, (.c (.lit (.int .i64 1))))], .app 95 (.t 93) (.t 94) 1 8, .asg 12 (.t 95)]) .skip))
 (.seq (.seq (.reg [.cpy 96 (.t 14), .cpy 97 (.t 16), .addr 98 (.t 3) 2, .load 99 (.t 98) none, .bin 100 .mul (.c (.lit (.int .i64 2))) (.t 99), .addr 101 (.t 5) 4, .load 102 (.t 101) (some 2), .call 103 105 [(.t 96), (.t 97), (.t 100), (.t 102)], .not 104 (.t 103)])
 (.cond (.t 104) (.reg [.cpy 105 (.t 12), .mkS 106 1 1 [(.lit (.int .i64 0))] [(0, (.c (.lit (.int .i64 2))))], .app 107 (.t 105) (.t 106) 1 8, .asg 12 (.t 107)]) .skip))
 (.seq (.reg [.asgNil 17 1])
 (.seq (.seq (.reg [.asg 18 (.c (.lit (.int .i64 0)))])
 (.block 0 (.loop (.seq (.seq (.reg [.cpy 108 (.t 18), .addr 109 (.t 4) 2, .load 110 (.t 109) none, .bin 111 .lss (.t 108) (.t 110)])
 (.cond (.t 111) .skip (.exit 0)))
 (.seq (.block 1 (.seq (.reg [.load 114 (.t 3) (some 4), .load 115 (.t 4) (some 4), .cpy 116 (.t 8), .load 117 (.t 5) (some 7), .cpy 118 (.t 18), .call 119 106 [(.t 114), (.t 115), (.t 116), (.t 117), (.t 118), (.c (.lit (.int .i64 0)))], .load 120 (.t 3) (some 4), .load 121 (.t 4) (some 4), .cpy 122 (.t 8), .load 123 (.t 5) (some 7), .cpy 124 (.t 18), .call 125 106 [(.t 120), (.t 121), (.t 122), (.t 123), (.t 124), (.c (.lit (.int .i64 1)))], .cpyE 19 (.t 119), .asg 20 (.t 125)])
 (.seq (.seq (.reg [.cpy 126 (.t 20), .cpy 127 (.t 19), .call 128 84 [(.t 126), (.t 127)]])
 (.cond (.t 128) (.reg [.cpy 129 (.t 20), .asg 19 (.t 129)]) .skip))
 (.reg [.cpy 130 (.t 17), .cpy 131 (.t 19), .app 132 (.t 130) (.t 131) 1 8, .asg 17 (.t 132)]))))
 (.reg [.cpy 112 (.t 18), .bin 113 .add (.t 112) (.c (.lit (.int .i64 1))), .asg 18 (.t 113)]))))))
 (.seq (.seq (.reg [.asg 21 (.c (.lit (.int .i64 3)))])
 (.block 2 (.loop (.seq (.seq (.reg [.cpy 133 (.t 21), .addr 134 (.t 5) 6, .load 135 (.t 134) none, .len 136 (.t 135), .bin 137 .add (.c (.lit (.int .i64 3))) (.t 136), .bin 138 .lss (.t 133) (.t 137)])
 (.cond (.t 138) .skip (.exit 2)))
 (.seq (.block 3 (.seq (.reg [.cpy 141 (.t 17), .cpy 142 (.t 21), .call 143 47 [(.t 141), (.t 142)]])
 (.cond (.t 143) (.reg [.cpy 144 (.t 12), .cpy 145 (.t 21), .mkS 146 1 1 [(.lit (.int .i64 0))] [(0, (.t 145))], .app 147 (.t 144) (.t 146) 1 8, .asg 12 (.t 147)]) .skip)))
 (.reg [.cpy 139 (.t 21), .bin 140 .add (.t 139) (.c (.lit (.int .i64 1))), .asg 21 (.t 140)]))))))
 (.seq (.reg [.cpy 148 (.t 12), .asg 6 (.t 148), .asg 7 (.c (.lit (.bool true)))])
 .ret))))))))))))))))
def r83 : List MRes := [.tmp 6, .tmp 7]
/- duodecimo/duodecimoref02.less -/
def ann84 : Ann := { muts := [], nilsz := [], oid := [], frz := [], zero := [], ord := [(6, [0, 1, 2, 3, 4, 5, 6, 7, 8]), (7, [0, 1, 2, 3, 4, 5, 6, 7, 8, 9])], ap := [], own := [4], yl := [], fz := [], imm := [] }
def m84 : MCode := (.seq (.reg [.asg 4 (.c (.lit (.bool false)))])
 (.seq (.seq (.reg [.cpy 6 (.t 0), .len 7 (.t 6), .cpy 8 (.t 1), .len 9 (.t 8), .bin 10 .neq (.t 7) (.t 9)])
 (.cond (.t 10) (.seq (.reg [.cpy 11 (.t 0), .len 12 (.t 11), .cpy 13 (.t 1), .len 14 (.t 13), .bin 15 .lss (.t 12) (.t 14), .asg 4 (.t 15)])
 .ret) .skip))
 (.seq (.seq (.reg [.asg 5 (.c (.lit (.int .i64 0)))])
 (.block 0 (.loop (.seq (.seq (.reg [.cpy 16 (.t 5), .cpy 17 (.t 0), .len 18 (.t 17), .bin 19 .lss (.t 16) (.t 18)])
 (.cond (.t 19) .skip (.exit 0)))
 (.seq (.block 1 (.seq (.reg [.cpy 22 (.t 0), .cpy 23 (.t 5), .idxS 24 (.t 22) (.t 23) 1, .load 25 (.t 24) none, .cpy 26 (.t 1), .cpy 27 (.t 5), .idxS 28 (.t 26) (.t 27) 1, .load 29 (.t 28) none, .bin 30 .neq (.t 25) (.t 29)])
 (.cond (.t 30) (.seq (.reg [.cpy 31 (.t 0), .cpy 32 (.t 5), .idxS 33 (.t 31) (.t 32) 1, .load 34 (.t 33) none, .cpy 35 (.t 1), .cpy 36 (.t 5), .idxS 37 (.t 35) (.t 36) 1, .load 38 (.t 37) none, .bin 39 .lss (.t 34) (.t 38), .asg 4 (.t 39)])
 .ret) .skip)))
 (.reg [.cpy 20 (.t 5), .bin 21 .add (.t 20) (.c (.lit (.int .i64 1))), .asg 5 (.t 21)]))))))
 (.seq (.reg [.asg 4 (.c (.lit (.bool false)))])
 .ret))))
def r84 : List MRes := [.tmp 4]
/- duodecimo/duodecimoref02.Size -/
def ann86 : Ann := { muts := [], nilsz := [], oid := [], frz := [], zero := [], ord := [(2, [0, 1, 2, 3, 4, 5, 6, 7, 8, 9])], ap := [], own := [12], yl := [], fz := [], imm := [] }
def m86 : MCode := (.seq (.reg [.boxI 4 (.t 0) 4, .boxI 5 (.t 1) 4, .asg 8 (.c (.lit (.int .i64 0))), .asg 9 (.c (.lit (.int .i64 0)))])
 (.seq (.reg [.addr 13 (.t 4) 0, .load 14 (.t 13) none, .addr 15 (.t 5) 0, .load 16 (.t 15) none, .idxS 17 (.t 14) (.t 16) 2, .addr 18 (.t 17) 1, .load 19 (.t 18) none, .asg 10 (.t 19)])
 (.seq (.reg [.cpy 20 (.t 2), .cpy 21 (.t 10), .call 22 72 [(.t 21), (.c (.lit (.int .u8 120)))], .bin 23 .quo (.t 20) (.t 22), .cpy 24 (.t 3), .cpy 25 (.t 10), .call 26 72 [(.t 25), (.c (.lit (.int .u8 121)))], .bin 27 .quo (.t 24) (.t 26), .cpyE 11 (.t 23), .asg 12 (.t 27)])
 (.seq (.seq (.reg [.cpy 28 (.t 10), .cpy 29 (.t 10), .lenStr 30 (.t 29), .bin 31 .sub (.t 30) (.c (.lit (.int .i64 1))), .idxStr 32 (.t 28) (.t 31), .bin 33 .eql (.t 32) (.c (.lit (.int .u8 120)))])
 (.cond (.t 33) (.seq (.reg [.cpy 34 (.t 11), .cpy 35 (.t 12), .asg 8 (.t 34), .asg 9 (.t 35)])
 .ret) .skip))
 (.seq (.reg [.cpy 36 (.t 12), .cpy 37 (.t 11), .asg 8 (.t 36), .asg 9 (.t 37)])
 .ret)))))
def r86 : List MRes := [.tmp 8, .tmp 9]
theorem tr86 : Try.f86.body.bind (trC Try.prog ann86 Try.f86.ntmps) = some m86 := by kernel_rfl
theorem rs86 : trRes Try.prog Try.f86.results.toList = some r86 := by kernel_rfl
theorem fn86 : isFunc Try.prog 86 = true := by kernel_rfl

/- duodecimo/duodecimoref02.met -/
def ann105 : Ann := { muts := [], nilsz := [], oid := [], frz := [], zero := [], ord := [], ap := [], own := [], yl := [], fz := [], imm := [] }
def m105 : MCode := (.seq (.reg [.boxI 7 (.t 3) 2, .asg 8 (.c (.lit (.bool false)))])
 (.seq (.reg [.cpy 9 (.t 0), .cpy 10 (.t 2), .bin 11 .sub (.t 9) (.t 10), .addr 12 (.t 7) 1, .load 13 (.t 12) none, .bin 14 .leq (.t 11) (.t 13), .cpy 15 (.t 14), .guard 15 true (some 16) (.cpy 16 (.t 1)), .guard 15 true (some 17) (.addr 17 (.t 7) 0), .guard 15 true (some 18) (.load 18 (.t 17) none), .guard 15 true (some 19) (.bin 19 .geq (.t 16) (.t 18)), .pick 20 (.t 15) (.t 19) (.c (.lit (.bool false))), .asg 8 (.t 20)])
 .ret))
def r105 : List MRes := [.tmp 8]
/- duodecimo/duodecimoref02.untrue -/
def ann106 : Ann := { muts := [], nilsz := [(12, 1), (13, 1)], oid := [], frz := [15], zero := [(15, [(.lit (.int .i64 0)), (.lit (.int .i64 0)), (.lit (.int .i64 0)), (.lit (.bool false)), (.lit (.bool false))]), (53, [(.lit (.int .i64 0))])], ord := [(6, [0, 1, 2, 3, 4, 5, 6, 7, 8, 9, 10, 11, 12, 13, 14, 15, 16, 17])], ap := [], own := [], yl := [], fz := [], imm := [] }
def m106 : MCode := (.seq (.reg [.boxI 6 (.t 0) 4, .boxI 7 (.t 1) 4, .boxI 9 (.t 3) 7, .asgNil 12 1])
 (.seq (.reg [.asgNil 13 1])
 (.seq (.seq (.reg [.asg 14 (.c (.lit (.int .i64 0)))])
 (.block 0 (.loop (.seq (.seq (.reg [.cpy 16 (.t 14), .addr 17 (.t 9) 6, .load 18 (.t 17) none, .len 19 (.t 18), .bin 20 .lss (.t 16) (.t 19)])
 (.cond (.t 20) .skip (.exit 0)))
 (.seq (.block 1 (.seq (.reg [.cpy 23 (.t 2), .addr 24 (.t 9) 6, .load 25 (.t 24) none, .cpy 26 (.t 14), .idxS 27 (.t 25) (.t 26) 2, .addr 28 (.t 27) 0, .load 29 (.t 28) none, .idxS 30 (.t 23) (.t 29) 5, .load 31 (.t 30) (some 5), .alloc 15 [(.lit (.int .i64 0)), (.lit (.int .i64 0)), (.lit (.int .i64 0)), (.lit (.bool false)), (.lit (.bool false))], .storeF 15 (.t 31) 5])
 (.seq (.reg [.addr 32 (.t 15) 0, .load 33 (.t 32) none, .cpy 34 (.t 4), .bin 35 .eql (.t 33) (.t 34), .cpy 36 (.t 35), .guard 36 true (some 37) (.load 37 (.t 6) (some 4)), .guard 36 true (some 38) (.load 38 (.t 7) (some 4)), .guard 36 true (some 39) (.load 39 (.t 15) (some 5)), .guard 36 true (some 40) (.cpy 40 (.t 5)), .guard 36 true (some 41) (.call 41 75 [(.t 37), (.t 38), (.t 39), (.t 40)]), .guard 36 true (some 42) (.addr 42 (.t 9) 6), .guard 36 true (some 43) (.load 43 (.t 42) none), .guard 36 true (some 44) (.cpy 44 (.t 14)), .guard 36 true (some 45) (.idxS 45 (.t 43) (.t 44) 2), .guard 36 true (some 46) (.addr 46 (.t 45) 1), .guard 36 true (some 47) (.load 47 (.t 46) none), .guard 36 true (some 48) (.binB 48 true (.t 41) (.t 47)), .pick 49 (.t 36) (.t 48) (.c (.lit (.bool false)))])
 (.cond (.t 49) (.reg [.cpy 50 (.t 13), .cpy 51 (.t 14), .bin 52 .add (.c (.lit (.int .i64 3))) (.t 51), .mkS 53 1 1 [(.lit (.int .i64 0))] [(0, (.t 52))], .app 54 (.t 50) (.t 53) 1 8, .asg 13 (.t 54)]) .skip))))
 (.reg [.cpy 21 (.t 14), .bin 22 .add (.t 21) (.c (.lit (.int .i64 1))), .asg 14 (.t 22)]))))))
 (.seq (.reg [.cpy 55 (.t 13), .asg 12 (.t 55)])
 .ret))))
def r106 : List MRes := [.tmp 12]
end Go.Proofs.Ytcfeipphmklakaa

namespace Go.Proofs.Ytcfeipphmklakaa
open Go.Avm

/- duodecimo/duodecimolaw02.valid -/
def ann42 : Ann := { muts := [], nilsz := [], oid := [], frz := [], zero := [], ord := [], ap := [], own := [], yl := [], fz := [], imm := [] }
def m42 : MCode := (.seq (.reg [.boxI 1 (.t 0) 4, .asg 2 (.c (.lit (.bool false)))])
 (.seq (.reg [.load 7 (.t 1) (some 4), .call 8 16 [(.t 7)], .cpy 6 (.t 8), .ext 9 (.t 6) 0, .ext 10 (.t 6) 1, .ext 11 (.t 6) 2, .asg 3 (.t 9), .asg 4 (.t 10), .asg 5 (.t 11)])
 (.seq (.reg [.cpy 12 (.t 5), .bin 13 .eql (.t 12) (.c (.lit (.int .i64 0))), .asg 2 (.t 13)])
 .ret)))
def r42 : List MRes := [.tmp 2]
theorem tr42 : Try.f42.body.bind (trC Try.prog ann42 Try.f42.ntmps) = some m42 := by kernel_rfl
theorem rs42 : trRes Try.prog Try.f42.results.toList = some r42 := by kernel_rfl
theorem fn42 : isFunc Try.prog 42 = true := by kernel_rfl

/- duodecimo/duodecimolaw02.one -/
def ann44 : Ann := { muts := [], nilsz := [], oid := [], frz := [], zero := [], ord := [(4, [0, 1, 2, 3, 4, 5])], ap := [], own := [], yl := [], fz := [], imm := [] }
def m44 : MCode := (.seq (.reg [.boxI 3 (.t 1) 4, .asg 4 (.c (.lit (.bool false)))])
 (.seq (.seq (.reg [.asg 5 (.c (.lit (.int .i64 0)))])
 (.block 0 (.loop (.seq (.seq (.reg [.cpy 6 (.t 5), .cpy 7 (.t 0), .len 8 (.t 7), .bin 9 .lss (.t 6) (.t 8)])
 (.cond (.t 9) .skip (.exit 0)))
 (.seq (.block 1 (.seq (.reg [.cpy 12 (.t 0), .cpy 13 (.t 5), .idxS 14 (.t 12) (.t 13) 4, .load 15 (.t 14) (some 4), .load 16 (.t 3) (some 4), .binA 17 false [false, false, false, true] (.t 15) (.t 16)])
 (.cond (.t 17) (.seq (.reg [.asg 4 (.c (.lit (.bool true)))])
 .ret) .skip)))
 (.reg [.cpy 10 (.t 5), .bin 11 .add (.t 10) (.c (.lit (.int .i64 1))), .asg 5 (.t 11)]))))))
 (.seq (.reg [.asg 4 (.c (.lit (.bool false)))])
 .ret)))
def r44 : List MRes := [.tmp 4]
theorem tr44 : Try.f44.body.bind (trC Try.prog ann44 Try.f44.ntmps) = some m44 := by kernel_rfl
theorem rs44 : trRes Try.prog Try.f44.results.toList = some r44 := by kernel_rfl
theorem fn44 : isFunc Try.prog 44 = true := by kernel_rfl

/- duodecimo/duodecimolaw02.part -/
def ann45 : Ann := { muts := [], nilsz := [], oid := [], frz := [], zero := [], ord := [], ap := [], own := [], yl := [], fz := [], imm := [] }
def m45 : MCode := (.seq (.reg [.asg 4 (.c (.lit (.bool false)))])
 (.seq (.seq (.reg [.asg 5 (.c (.lit (.int .i64 0)))])
 (.block 0 (.loop (.seq (.seq (.reg [.cpy 6 (.t 5), .cpy 7 (.t 0), .len 8 (.t 7), .bin 9 .lss (.t 6) (.t 8)])
 (.cond (.t 9) .skip (.exit 0)))
 (.seq (.block 1 (.seq (.reg [.cpy 12 (.t 1), .cpy 13 (.t 0), .cpy 14 (.t 5), .idxS 15 (.t 13) (.t 14) 1, .load 16 (.t 15) none, .call 17 47 [(.t 12), (.t 16)], .not 18 (.t 17)])
 (.cond (.t 18) (.seq (.reg [.asg 4 (.c (.lit (.bool false)))])
 .ret) .skip)))
 (.reg [.cpy 10 (.t 5), .bin 11 .add (.t 10) (.c (.lit (.int .i64 1))), .asg 5 (.t 11)]))))))
 (.seq (.reg [.asg 4 (.c (.lit (.bool true)))])
 .ret)))
def r45 : List MRes := [.tmp 4]
theorem tr45 : Try.f45.body.bind (trC Try.prog ann45 Try.f45.ntmps) = some m45 := by kernel_rfl
theorem rs45 : trRes Try.prog Try.f45.results.toList = some r45 := by kernel_rfl
theorem fn45 : isFunc Try.prog 45 = true := by kernel_rfl

/- duodecimo/duodecimolaw02.Made -/
def ann46 : Ann := { muts := [], nilsz := [], oid := [], frz := [4], zero := [(4, [(.lit (.int .i64 0)), (.lit (.int .i64 0)), (.lit (.int .i64 0)), (.lit (.bool false))])], ord := [], ap := [], own := [], yl := [], fz := [], imm := [] }
def m46 : MCode := (.seq (.reg [.boxI 2 (.t 0) 4, .alloc 4 [(.lit (.int .i64 0)), (.lit (.int .i64 0)), (.lit (.int .i64 0)), (.lit (.bool false))]])
 (.seq (.reg [.load 6 (.t 2) (some 4), .call 7 82 [(.t 6)], .asg 5 (.t 7)])
 (.seq (.reg [.cpy 8 (.t 5), .cpy 9 (.t 1), .cpy 10 (.t 5), .len 11 (.t 10), .bin 12 .rem (.t 9) (.t 11), .idxS 13 (.t 8) (.t 12) 4, .load 14 (.t 13) (some 4), .storeF 4 (.t 14) 4])
 .ret)))
def r46 : List MRes := [.cell 4 (some 4)]
theorem tr46 : Try.f46.body.bind (trC Try.prog ann46 Try.f46.ntmps) = some m46 := by kernel_rfl
theorem rs46 : trRes Try.prog Try.f46.results.toList = some r46 := by kernel_rfl
theorem fn46 : isFunc Try.prog 46 = true := by kernel_rfl

/- duodecimo/duodecimolaw02.halves -/
def ann48 : Ann := { muts := [], nilsz := [(4, 1), (5, 1)], oid := [], frz := [], zero := [(18, [(.lit (.int .i64 0))])], ord := [], ap := [], own := [], yl := [], fz := [], imm := [] }
def m48 : MCode := (.seq (.reg [.boxI 2 (.t 0) 4, .asgNil 4 1])
 (.seq (.reg [.asgNil 5 1])
 (.seq (.seq (.reg [.asg 6 (.c (.lit (.int .i64 0)))])
 (.block 0 (.loop (.seq (.seq (.reg [.cpy 7 (.t 6), .addr 8 (.t 2) 2, .load 9 (.t 8) none, .bin 10 .lss (.t 7) (.t 9)])
 (.cond (.t 10) .skip (.exit 0)))
 (.seq (.block 1 (.reg [.cpy 13 (.t 5), .cpy 14 (.t 1), .cpy 15 (.t 6), .call 16 85 [(.t 14), (.t 15)], .bin 17 .rem (.t 16) (.c (.lit (.int .i64 2))), .mkS 18 1 1 [(.lit (.int .i64 0))] [(0, (.t 17))], .app 19 (.t 13) (.t 18) 1 8, .asg 5 (.t 19)]))
 (.reg [.cpy 11 (.t 6), .bin 12 .add (.t 11) (.c (.lit (.int .i64 1))), .asg 6 (.t 12)]))))))
 (.seq (.reg [.cpy 20 (.t 5), .asg 4 (.t 20)])
 .ret))))
def r48 : List MRes := [.tmp 4]
theorem tr48 : Try.f48.body.bind (trC Try.prog ann48 Try.f48.ntmps) = some m48 := by kernel_rfl
theorem rs48 : trRes Try.prog Try.f48.results.toList = some r48 := by kernel_rfl
theorem fn48 : isFunc Try.prog 48 = true := by kernel_rfl

/- duodecimo/duodecimolaw02.good -/
def ann49 : Ann := { muts := [], nilsz := [], oid := [], frz := [], zero := [], ord := [], ap := [], own := [], yl := [], fz := [], imm := [] }
def m49 : MCode := (.seq (.reg [.boxI 2 (.t 0) 4, .boxI 3 (.t 1) 7, .asg 4 (.c (.lit (.bool false)))])
 (.seq (.reg [.load 9 (.t 2) (some 4), .load 10 (.t 3) (some 7), .call 11 18 [(.t 9), (.t 10)], .cpy 8 (.t 11), .ext 12 (.t 8) 0, .ext 13 (.t 8) 1, .ext 14 (.t 8) 2, .asg 5 (.t 12), .asg 6 (.t 13), .asg 7 (.t 14)])
 (.seq (.reg [.cpy 15 (.t 7), .bin 16 .eql (.t 15) (.c (.lit (.int .i64 0))), .asg 4 (.t 16)])
 .ret)))
def r49 : List MRes := [.tmp 4]
theorem tr49 : Try.f49.body.bind (trC Try.prog ann49 Try.f49.ntmps) = some m49 := by kernel_rfl
theorem rs49 : trRes Try.prog Try.f49.results.toList = some r49 := by kernel_rfl
theorem fn49 : isFunc Try.prog 49 = true := by kernel_rfl

/- duodecimo/duodecimolaw02.without -/
def ann50 : Ann := { muts := [], nilsz := [(1000008, 2)], oid := [(8, 6006), (41, 6006)], frz := [4], zero := [(4, [(.lit (.int .i64 0)), (.lit (.int .i64 0)), (.lit (.int .i64 0)), (.lit (.int .i64 0)), (.lit (.int .i64 0)), (.lit (.int .i64 0)), (.slice 2 [] 5006)]), (5, [(.lit (.int .i64 0)), (.lit (.int .i64 0)), (.lit (.int .i64 0)), (.lit (.int .i64 0)), (.lit (.int .i64 0)), (.lit (.int .i64 0)), (.slice 2 [] 6006)]), (39, [(.lit (.int .i64 0)), (.lit (.bool false))])], ord := [(13, [0, 1, 2, 3, 4, 5, 6, 7, 8, 9, 10])], ap := [(41, [])], own := [], yl := [], fz := [], imm := [] }
def m50 : MCode := (.seq (.reg [.boxI 2 (.t 0) 7, .alloc 4 [(.lit (.int .i64 0)), (.lit (.int .i64 0)), (.lit (.int .i64 0)), (.lit (.int .i64 0)), (.lit (.int .i64 0)), (.lit (.int .i64 0)), (.slice 2 [] 5006)]])
 (.seq (.reg [.load 7 (.t 2) (some 7), .alloc 5 [(.lit (.int .i64 0)), (.lit (.int .i64 0)), (.lit (.int .i64 0)), (.lit (.int .i64 0)), (.lit (.int .i64 0)), (.lit (.int .i64 0)), (.slice 2 [] 6006)], .store (.t 5) (.t 7) 7 0])
 (.seq (.reg [.addr 8 (.t 5) 6, .storeNil (.t 8) 2 6006])
 (.seq (.seq (.reg [.cpy 9 (.t 1), .call 10 47 [(.t 9), (.c (.lit (.int .i64 0)))]])
 (.cond (.t 10) (.reg [.addr 11 (.t 5) 1, .store (.t 11) (.c (.lit (.int .i64 0))) 1 0]) .skip))
 (.seq (.seq (.reg [.cpy 12 (.t 1), .call 13 47 [(.t 12), (.c (.lit (.int .i64 1)))]])
 (.cond (.t 13) (.reg [.call 14 41 [], .addr 15 (.t 5) 2, .store (.t 15) (.t 14) 2 0]) .skip))
 (.seq (.seq (.reg [.cpy 16 (.t 1), .call 17 47 [(.t 16), (.c (.lit (.int .i64 2)))]])
 (.cond (.t 17) (.reg [.call 18 41 [], .addr 19 (.t 5) 4, .store (.t 19) (.t 18) 2 0]) .skip))
 (.seq (.seq (.reg [.asg 6 (.c (.lit (.int .i64 0)))])
 (.block 0 (.loop (.seq (.seq (.reg [.cpy 20 (.t 6), .addr 21 (.t 2) 6, .load 22 (.t 21) none, .len 23 (.t 22), .bin 24 .lss (.t 20) (.t 23)])
 (.cond (.t 24) .skip (.exit 0)))
 (.seq (.block 1 (.seq (.reg [.cpy 27 (.t 1), .cpy 28 (.t 6), .bin 29 .add (.c (.lit (.int .i64 3))) (.t 28), .call 30 47 [(.t 27), (.t 29)], .not 31 (.t 30)])
 (.cond (.t 31) (.reg [.addr 32 (.t 5) 6, .load 33 (.t 32) none, .addr 34 (.t 2) 6, .load 35 (.t 34) none, .cpy 36 (.t 6), .idxS 37 (.t 35) (.t 36) 2, .load 38 (.t 37) (some 2), .mkS 39 1 2 [(.lit (.int .i64 0)), (.lit (.bool false))] [(0, (.t 38))], .app 40 (.t 33) (.t 39) 2 16, .addr 41 (.t 5) 6, .apart [] (.t 41) (.store (.t 41) (.t 40) 1 6006)]) .skip)))
 (.reg [.cpy 25 (.t 6), .bin 26 .add (.t 25) (.c (.lit (.int .i64 1))), .asg 6 (.t 26)]))))))
 (.seq (.reg [.load 42 (.t 5) (some 7), .storeF 4 (.t 42) 7])
 .ret))))))))
def r50 : List MRes := [.cell 4 (some 7)]
theorem tr50 : Try.f50.body.bind (trC Try.prog ann50 Try.f50.ntmps) = some m50 := by kernel_rfl
theorem rs50 : trRes Try.prog Try.f50.results.toList = some r50 := by kernel_rfl
theorem fn50 : isFunc Try.prog 50 = true := by kernel_rfl

/- duodecimo/duodecimolaw02.turn -/
def ann85 : Ann := { muts := [], nilsz := [], oid := [], frz := [], zero := [], ord := [], ap := [], own := [], yl := [], fz := [], imm := [] }
def m85 : MCode := (.seq (.reg [.asg 4 (.c (.lit (.int .i64 0)))])
 (.seq (.seq (.reg [.cpy 5 (.t 0), .len 6 (.t 5), .bin 7 .eql (.t 6) (.c (.lit (.int .i64 0)))])
 (.cond (.t 7) (.seq (.reg [.asg 4 (.c (.lit (.int .i64 0)))])
 .ret) .skip))
 (.seq (.reg [.cpy 8 (.t 0), .cpy 9 (.t 1), .cpy 10 (.t 0), .len 11 (.t 10), .bin 12 .rem (.t 9) (.t 11), .idxS 13 (.t 8) (.t 12) 1, .load 14 (.t 13) none, .conv 15 .i64 (.t 14), .asg 4 (.t 15)])
 .ret)))
def r85 : List MRes := [.tmp 4]
theorem tr85 : Try.f85.body.bind (trC Try.prog ann85 Try.f85.ntmps) = some m85 := by kernel_rfl
theorem rs85 : trRes Try.prog Try.f85.results.toList = some r85 := by kernel_rfl
theorem fn85 : isFunc Try.prog 85 = true := by kernel_rfl

/- duodecimo/duodecimolaw02.among -/
def ann87 : Ann := { muts := [], nilsz := [], oid := [], frz := [], zero := [], ord := [(1, [0, 1, 2, 3, 4, 5, 6, 7, 8, 9, 10, 11])], ap := [], own := [4], yl := [], fz := [], imm := [] }
def m87 : MCode := (.seq (.reg [.boxI 2 (.t 0) 2, .asg 4 (.c (.lit (.int .i64 0)))])
 (.seq (.reg [.addr 5 (.t 2) 0, .load 6 (.t 5) none, .cpy 7 (.t 1), .addr 8 (.t 2) 1, .load 9 (.t 8) none, .addr 10 (.t 2) 0, .load 11 (.t 10) none, .bin 12 .sub (.t 9) (.t 11), .bin 13 .add (.t 12) (.c (.lit (.int .i64 1))), .bin 14 .rem (.t 7) (.t 13), .bin 15 .add (.t 6) (.t 14), .asg 4 (.t 15)])
 .ret))
def r87 : List MRes := [.tmp 4]
theorem tr87 : Try.f87.body.bind (trC Try.prog ann87 Try.f87.ntmps) = some m87 := by kernel_rfl
theorem rs87 : trRes Try.prog Try.f87.results.toList = some r87 := by kernel_rfl
theorem fn87 : isFunc Try.prog 87 = true := by kernel_rfl

/- duodecimo/duodecimolaw02.has -/
def ann88 : Ann := { muts := [], nilsz := [], oid := [], frz := [9], zero := [(9, [(.lit (.int .i64 0)), (.lit (.int .i64 0)), (.lit (.int .i64 0)), (.lit (.bool false)), (.lit (.bool false))])], ord := [(2, [0, 1, 2, 3, 4, 5, 6, 7, 8, 9, 10, 11])], ap := [], own := [8], yl := [], fz := [], imm := [] }
def m88 : MCode := (.seq (.reg [.boxI 4 (.t 0) 4, .boxI 5 (.t 1) 4, .asg 8 (.c (.lit (.bool false)))])
 (.seq (.reg [.load 10 (.t 4) (some 4), .load 11 (.t 5) (some 4), .call 12 69 [(.t 10), (.t 11)], .cpy 13 (.t 2), .idxS 14 (.t 12) (.t 13) 5, .load 15 (.t 14) (some 5), .alloc 9 [(.lit (.int .i64 0)), (.lit (.int .i64 0)), (.lit (.int .i64 0)), (.lit (.bool false)), (.lit (.bool false))], .storeF 9 (.t 15) 5])
 (.seq (.reg [.load 16 (.t 4) (some 4), .load 17 (.t 5) (some 4), .load 18 (.t 9) (some 5), .load 19 (.t 5) (some 4), .cpy 20 (.t 3), .call 21 48 [(.t 19), (.t 20)], .addr 22 (.t 9) 0, .load 23 (.t 22) none, .idxS 24 (.t 21) (.t 23) 1, .load 25 (.t 24) none, .call 26 75 [(.t 16), (.t 17), (.t 18), (.t 25)], .asg 8 (.t 26)])
 .ret)))
def r88 : List MRes := [.tmp 8]
theorem tr88 : Try.f88.body.bind (trC Try.prog ann88 Try.f88.ntmps) = some m88 := by kernel_rfl
theorem rs88 : trRes Try.prog Try.f88.results.toList = some r88 := by kernel_rfl
theorem fn88 : isFunc Try.prog 88 = true := by kernel_rfl
end Go.Proofs.Ytcfeipphmklakaa

namespace Go.Proofs.Ytcfeipphmklakaa
open Go.Avm

abbrev ML (l : List Mk) : AV := .slice 4 (l.map Mk.av) 0

def okM (p : Prs) (m : Mk) : Bool := enterE p m == 0
def rawH (f i : Nat) (s : Int) (h : Nat) : List Mk := (List.range h).map fun (k : Nat) => (⟨f, i, s, (k : Int) == 1⟩ : Mk)
def rawS (f i s : Nat) : List Mk := (List.range s).flatMap fun (k : Nat) => rawH f i ((k : Int) + 1) 2
def rawP (S f i : Nat) : List Mk := (List.range i).flatMap fun i => rawS f i S
def rawF (P S f : Nat) : List Mk := (List.range f).flatMap fun f => rawP S f P

theorem rawH_succ (f i : Nat) (s : Int) (h : Nat) : rawH f i s (h + 1) = rawH f i s h ++ [⟨f, i, s, (h : Int) == 1⟩] := by unfold rawH; rw [List.range_succ]; simp
theorem rawS_succ (f i s : Nat) : rawS f i (s + 1) = rawS f i s ++ rawH f i ((s : Int) + 1) 2 := by unfold rawS; rw [List.range_succ, List.flatMap_append]; simp
theorem rawP_succ (S f i : Nat) : rawP S f (i + 1) = rawP S f i ++ rawS f i S := by unfold rawP; rw [List.range_succ, List.flatMap_append]; simp
theorem rawF_succ (P S f : Nat) : rawF P S (f + 1) = rawF P S f ++ rawP S f P := by unfold rawF; rw [List.range_succ, List.flatMap_append]; simp

theorem rawH_len (f i : Nat) (s : Int) (h : Nat) : (rawH f i s h).length = h := by simp [rawH]
theorem rawS_len (f i : Nat) : ∀ s, (rawS f i s).length = 2 * s
  | 0 => rfl
  | s + 1 => by rw [rawS_succ, List.length_append, rawS_len f i s, rawH_len]; omega
theorem rawP_len (S f : Nat) : ∀ i, (rawP S f i).length = i * (2 * S)
  | 0 => by simp [rawP]
  | i + 1 => by rw [rawP_succ, List.length_append, rawP_len S f i, rawS_len]; exact (Nat.succ_mul ..).symm
theorem rawF_len (P S : Nat) : ∀ f, (rawF P S f).length = f * (P * (2 * S))
  | 0 => by simp [rawF]
  | f + 1 => by rw [rawF_succ, List.length_append, rawF_len P S f, rawP_len]; exact (Nat.succ_mul ..).symm

/-- All ways of making. -/
def makesL (p : Prs) : List Mk := (rawF p.pprs.length p.sheets.toNat p.fmts.length).filter (okM p)

theorem filter_snoc_t {p : Prs} {l : List Mk} {m : Mk} (h : okM p m = true) : (l ++ [m]).filter (okM p) = l.filter (okM p) ++ [m] := by rw [List.filter_append]; simp [h]
theorem filter_snoc_f {p : Prs} {l : List Mk} {m : Mk} (h : okM p m = false) : (l ++ [m]).filter (okM p) = l.filter (okM p) := by rw [List.filter_append]; simp [h]

def outM (p : Prs) (P S f i s h : Nat) : List Mk := (rawF P S f ++ rawP S f i ++ rawS f i s ++ rawH f i ((s : Int) + 1) h).filter (okM p)

theorem outM_len {p : Prs} {P S f i s h : Nat} (hP : P ≤ 4) (hS : S ≤ 4) (hf : f ≤ 6) (hi : i ≤ 4) (hs : s ≤ 4) (hh : h ≤ 2) : (outM p P S f i s h).length ≤ 1000 := by
  refine Nat.le_trans (List.length_filter_le _ _) ?_
  rw [List.length_append, List.length_append, List.length_append, rawF_len, rawP_len, rawS_len, rawH_len]
  have h1 : P * (2 * S) ≤ 4 * 8 := Nat.mul_le_mul hP (by omega)
  have h2 : f * (P * (2 * S)) ≤ 6 * 32 := Nat.mul_le_mul hf h1
  have h3 : i * (2 * S) ≤ 4 * 8 := Nat.mul_le_mul hi (by omega)
  omega

theorem outM_h (p : Prs) (P S f i s : Nat) : outM p P S f i s 2 = outM p P S f i (s + 1) 0 := by
  unfold outM; rw [rawS_succ]; simp [rawH, List.append_assoc]
theorem outM_s (p : Prs) (P S f i : Nat) : outM p P S f i S 0 = outM p P S f (i + 1) 0 0 := by
  unfold outM; rw [rawP_succ]; simp [rawH, rawS, List.append_assoc]
theorem outM_i (p : Prs) (P S f : Nat) : outM p P S f P 0 0 = outM p P S (f + 1) 0 0 0 := by
  unfold outM; rw [rawF_succ]; simp [rawH, rawS, rawP, List.append_assoc]
theorem outM_t {p : Prs} {P S f i s h : Nat} (ho : okM p ⟨f, i, (s : Int) + 1, (h : Int) == 1⟩ = true) : outM p P S f i s (h + 1) = outM p P S f i s h ++ [⟨f, i, (s : Int) + 1, (h : Int) == 1⟩] := by
  unfold outM; rw [rawH_succ, ← List.append_assoc, filter_snoc_t ho]
theorem outM_f {p : Prs} {P S f i s h : Nat} (ho : okM p ⟨f, i, (s : Int) + 1, (h : Int) == 1⟩ = false) : outM p P S f i s (h + 1) = outM p P S f i s h := by
  unfold outM; rw [rawH_succ, ← List.append_assoc, filter_snoc_f ho]

theorem makes82_ok (p : Prs) (hp : Right p) : PCall Try.prog 82 [p.av] (ML (makesL p)) := by
  refine pcall Try.func82 tr82 rs82 fn82 (by simp [Try.ntmps82]) fun hfit => ?_
  have hF := hp.fmts
  have hP := hp.pprs
  obtain ⟨S, hS⟩ : ∃ S : Nat, p.sheets = S := ⟨p.sheets.toNat, by have := hp.sheets; omega⟩
  have hS4 := hp.sheets
  have hres : makesL p = outM p p.pprs.length S p.fmts.length 0 0 0 := by unfold makesL outM; rw [hS]; simp [rawP, rawS, rawH]
  rw [hres]
  simp -implicitDefEqProofs [m82]
  refine loop_up p.fmts.length (fun f s => s.env 1 = PRef p ∧ s.env 3 = .slice 4 ((outM p p.pprs.length S f 0 0 0).map Mk.av) 4 ∧ s.env 4 = I f) ?_ ?_
  · simp [outM, rawF, rawP, rawS, rawH]
  rintro f s hf ⟨e1, e3, e4⟩
  simp -implicitDefEqProofs [e1, e4]
  refine cond_dec (fun hlt => ?_) (fun hge => ?_)
  case refine_2 =>
    obtain rfl : f = p.fmts.length := by omega
    simp -implicitDefEqProofs [e3, r82]
  have hlt1 : f < p.fmts.length := by omega
  simp -implicitDefEqProofs
  refine loop_up p.pprs.length (fun i s => s.env 1 = PRef p ∧ s.env 3 = .slice 4 ((outM p p.pprs.length S f i 0 0).map Mk.av) 4 ∧ s.env 4 = I f ∧ s.env 5 = I i) ?_ ?_
  · simp [e1, e3, e4]
  clear e1 e3 e4
  rintro i s hi ⟨e1, e3, e4, e5⟩
  simp -implicitDefEqProofs [e1, e5]
  refine cond_dec (fun hlt => ?_) (fun hge => ?_)
  case refine_2 =>
    obtain rfl : i = p.pprs.length := by omega
    rw [outM_i] at e3
    simp -implicitDefEqProofs [e4]
    exact ⟨i64 (by omega) (by omega), round_ok hlt1 ⟨by simp [e1], by simp [e3], by simp⟩⟩
  have hlt2 : i < p.pprs.length := by omega
  simp -implicitDefEqProofs
  refine loop_up S (fun k s => s.env 1 = PRef p ∧ s.env 3 = .slice 4 ((outM p p.pprs.length S f i k 0).map Mk.av) 4 ∧ s.env 4 = I f ∧ s.env 5 = I i ∧ s.env 6 = I ((k : Int) + 1)) ?_ ?_
  · simp [e1, e3, e4, e5]
  clear e1 e3 e4 e5
  rintro k s hk ⟨e1, e3, e4, e5, e6⟩
  simp -implicitDefEqProofs [e1, e6, hS]
  refine cond_dec (fun hlt => ?_) (fun hge => ?_)
  case refine_2 =>
    obtain rfl : k = S := by omega
    rw [outM_s] at e3
    simp -implicitDefEqProofs [e5]
    exact ⟨i64 (by omega) (by omega), round_ok hlt2 ⟨by simp [e1], by simp [e3], by simp [e4], by simp⟩⟩
  have hlt3 : k < S := by omega
  simp -implicitDefEqProofs
  refine loop_up 2 (fun h s => s.env 1 = PRef p ∧ s.env 3 = .slice 4 ((outM p p.pprs.length S f i k h).map Mk.av) 4 ∧ s.env 4 = I f ∧ s.env 5 = I i ∧ s.env 6 = I ((k : Int) + 1) ∧ s.env 7 = I h) ?_ ?_
  · simp [e1, e3, e4, e5, e6]
  clear e1 e3 e4 e5 e6
  rintro h s hh ⟨e1, e3, e4, e5, e6, e7⟩
  simp -implicitDefEqProofs [e7]
  refine cond_dec (fun hlt => ?_) (fun hge => ?_)
  case refine_2 =>
    obtain rfl : h = 2 := by omega
    rw [outM_h] at e3
    simp -implicitDefEqProofs [e6]
    exact ⟨i64 (by omega) (by omega), round_ok hlt3 ⟨by simp [e1], by simp [e3], by simp [e4], by simp [e5], by simp⟩⟩
  have hlt4 : h < 2 := by omega
  have c := make68_ok p ⟨f, i, (k : Int) + 1, (h : Int) == 1⟩
  have hlen := outM_len (p := p) (P := p.pprs.length) (S := S) (f := f) (i := i) (s := k) (h := h) (by omega) (by omega) (by omega) (by omega) (by omega) (by omega)
  have ht := outM_t (p := p) (P := p.pprs.length) (S := S) (f := f) (i := i) (s := k) (h := h)
  have hff := outM_f (p := p) (P := p.pprs.length) (S := S) (f := f) (i := i) (s := k) (h := h)
  unfold okM at ht hff
  generalize enterE p ⟨f, i, (k : Int) + 1, (h : Int) == 1⟩ = e at *
  simp -implicitDefEqProofs [e4, e5, e6, e7]
  intro b hb
  simp -implicitDefEqProofs [e1]
  refine vCall_of c ?_
  simp -implicitDefEqProofs
  refine cond_bool (fun he => ?_) (fun he => ?_)
  · simp -implicitDefEqProofs [e3, e7]
    refine ⟨by omega, by omega, i64 (by omega) (by omega), round_ok hlt4 ⟨by simp [e1], by simp [ht he], by simp [e4], by simp [e5], by simp [e6], by simp⟩⟩
  · simp -implicitDefEqProofs [e7]
    refine ⟨i64 (by omega) (by omega), round_ok hlt4 ⟨by simp [e1], by simp [e3, hff he], by simp [e4], by simp [e5], by simp [e6], by simp⟩⟩
end Go.Proofs.Ytcfeipphmklakaa

namespace Go.Proofs.Ytcfeipphmklakaa
open Go.Avm

theorem valid42_ok (p : Prs) : PCall Try.prog 42 [p.av] (B (errE p == 0)) := by
  refine pcall Try.func42 tr42 rs42 fn42 (by simp [Try.ntmps42]) fun hfit => ?_
  have c := checkR_ok p
  unfold errE
  generalize checkE p = e at *
  simp -implicitDefEqProofs [m42]
  refine vCall_of c ?_
  simp -implicitDefEqProofs [r42]

theorem has47_ok (l : List Int) (n : Int) : PCall Try.prog 47 [IL l, I n] (B (decide (n ∈ l))) := by
  refine pcall Try.func47 tr47 rs47 fn47 (by simp [Try.ntmps47]) fun hfit => ?_
  have hl := fits_len (hfit 0)
  simp only [List.length_map] at hl
  simp -implicitDefEqProofs [m47]
  refine loop_up l.length (fun k s => s.env 0 = IL l ∧ s.env 1 = I n ∧ s.env 5 = I k ∧ ∀ x ∈ l.take k, x ≠ n) ?_ ?_
  · simp
  · rintro k s hk ⟨e0, e1, e5, hno⟩
    simp -implicitDefEqProofs [e0, e5]
    refine cond_dec (fun hlt => ?_) (fun hge => ?_)
    · have hlt : k < l.length := by omega
      simp -implicitDefEqProofs [e0, e1, e5, hlt]
      refine cond_bool (fun he => ?_) (fun he => ?_)
      · have hx : l[k] = n := by simpa using he
        have hm : n ∈ l := by rw [← hx]; exact List.getElem_mem _
        simp -implicitDefEqProofs [r47, hm]
      · have hx : l[k] ≠ n := by simpa using he
        simp -implicitDefEqProofs [e5]
        refine ⟨i64 (by omega) (by omega), round_ok hlt ⟨by simp [e0], by simp [e1], by simp, fun x hx' => ?_⟩⟩
        rw [take_snoc hlt, List.mem_append, List.mem_singleton] at hx'
        rcases hx' with hx' | rfl
        · exact hno x hx'
        · exact hx
    · obtain rfl : k = l.length := by omega
      rw [List.take_length] at hno
      have hm : n ∉ l := fun h => hno n h rfl
      simp -implicitDefEqProofs [r47, hm]

theorem makes_ok {p : Prs} {m : Mk} (h : m ∈ makesL p) : enterE p m = 0 := by
  have := (List.mem_filter.1 h).2
  simpa [okM] using this

theorem mem_rawF {P S F f i s h : Nat} (hf : f < F) (hi : i < P) (hs : s < S) (hh : h < 2) : (⟨f, i, (s : Int) + 1, (h : Int) == 1⟩ : Mk) ∈ rawF P S F := by
  unfold rawF rawP rawS rawH
  simp only [List.mem_flatMap, List.mem_map, List.mem_range]
  exact ⟨f, hf, i, hi, s, hs, h, hh, rfl⟩

theorem makes_ne {p : Prs} (h : errE p = 0) : 1 ≤ (makesL p).length := by
  have hp := right_of h
  have h1 := hp.fmts
  have h2 := hp.pprs
  have h3 := hp.sheets
  have hm : (⟨0, 0, 1, false⟩ : Mk) ∈ makesL p := by
    refine List.mem_filter.2 ⟨mem_rawF (f := 0) (i := 0) (s := 0) (h := 0) (by omega) (by omega) (by omega) (by omega), ?_⟩
    unfold okM enterE makeE
    rw [if_neg (by simp [h]), if_neg, if_neg (by simp; omega), if_neg (by simp)]
    · rfl
    · simp; omega
  exact List.length_pos_of_mem hm

theorem makes_len {p : Prs} (hp : Right p) : (makesL p).length ≤ 1000 := by
  have h1 := hp.fmts
  have h2 := hp.pprs
  have h3 := hp.sheets
  have := outM_len (p := p) (P := p.pprs.length) (S := p.sheets.toNat) (f := p.fmts.length) (i := 0) (s := 0) (h := 0) (by omega) (by omega) (by omega) (by omega) (by omega) (by omega)
  have e : makesL p = outM p p.pprs.length p.sheets.toNat p.fmts.length 0 0 0 := by unfold makesL outM; simp [rawP, rawS, rawH]
  rwa [e]

def mk0 : Mk := ⟨0, 0, 0, false⟩

/-- The way of making of a number. -/
def madeM (p : Prs) (n : Nat) : Mk := (makesL p).getD (n % (makesL p).length) mk0

theorem tmod_nat (a b : Nat) : ((a : Int).tmod (b : Int)) = ((a % b : Nat) : Int) := by
  rw [Int.tmod_eq_emod_of_nonneg (by omega)]; rfl

theorem made46_ok {p : Prs} (h : errE p = 0) (n : Nat) : PCall Try.prog 46 [p.av, I n] (madeM p n).av := by
  refine pcall Try.func46 tr46 rs46 fn46 (by simp [Try.ntmps46]) fun hfit => ?_
  have hl := makes_ne h
  have hl2 := makes_len (right_of h)
  have c := makes82_ok p (right_of h)
  have hlt : n % (makesL p).length < (makesL p).length := Nat.mod_lt _ (by omega)
  unfold madeM
  generalize makesL p = l at *
  have ht := tmod_nat n l.length
  generalize hk : n % l.length = k at *
  simp -implicitDefEqProofs [m46]
  intro b
  refine vCall_of c ?_
  have hne : ¬ l = [] := fun h => by subst h; simp at hl
  simp -implicitDefEqProofs [ht, hlt, hne, r46]

abbrev U (n : Int) : AV := .lit (.int .u16 n)
abbrev US (l : List Int) : AV := .slice 1 (l.map U) 0

/-- The n-th number of a list, by turns. -/
def turnM (l : List Int) (n : Nat) : Int := if l.length = 0 then 0 else l.getD (n % l.length) 0

def okU (l : List Int) : Prop := ∀ x ∈ l, 0 ≤ x ∧ x ≤ 65535

theorem turnM_ok {l : List Int} (h : okU l) (n : Nat) : 0 ≤ turnM l n ∧ turnM l n ≤ 65535 := by
  unfold turnM
  split
  · omega
  · rename_i hl
    have hlt : n % l.length < l.length := Nat.mod_lt _ (by omega)
    rw [List.getD_eq_getElem?_getD, List.getElem?_eq_getElem hlt]
    exact h _ (List.getElem_mem _)

theorem wrap_i64 {a : Int} (h : 0 ≤ a ∧ a ≤ 65535) : IntKind.wrap .i64 a = a := by
  obtain ⟨k, rfl⟩ : ∃ k : Nat, a = k := ⟨a.toNat, by omega⟩
  simp [IntKind.wrap, IntKind.bits, IntKind.signed]
  omega

theorem turn85_ok {l : List Int} (h : okU l) (n : Nat) : PCall Try.prog 85 [US l, I n] (I (turnM l n)) := by
  refine pcall Try.func85 tr85 rs85 fn85 (by simp [Try.ntmps85]) fun hfit => ?_
  have hw := wrap_i64 (turnM_ok h n)
  obtain ⟨R, hR⟩ : ∃ R, R = turnM l n := ⟨_, rfl⟩
  rw [← hR] at hw ⊢
  unfold turnM at hR
  simp -implicitDefEqProofs [m85]
  by_cases hl : l.length = 0
  · have hl' : ((l.length : Int) == 0) = true := by simp [hl]
    rw [if_pos hl] at hR
    simp -implicitDefEqProofs [hl', r85, hR]
  · have hl' : ((l.length : Int) == 0) = false := beq_eq_false_iff_ne.2 (by omega)
    have hlt : n % l.length < l.length := Nat.mod_lt _ (by omega)
    rw [if_neg hl] at hR
    have ht := tmod_nat n l.length
    generalize hk : n % l.length = k at *
    have hne : ¬ l = [] := fun h => by subst h; simp at hl
    rw [List.getD_eq_getElem?_getD, List.getElem?_eq_getElem hlt, Option.getD_some] at hR
    simp -implicitDefEqProofs [hl', ht, hlt, hne, ← hR, hw, r85]

/-- Halves, by turns. -/
def halvesT (x : List Int) (n : Nat) : List Int := (List.range n).map fun i => (turnM x i).tmod 2
theorem halvesT_succ (x : List Int) (n : Nat) : halvesT x (n + 1) = halvesT x n ++ [(turnM x n).tmod 2] := by unfold halvesT; rw [List.range_succ]; simp
theorem halvesT_len (x : List Int) (n : Nat) : (halvesT x n).length = n := by simp [halvesT]
theorem halvesT_in {x : List Int} (h : okU x) {n k : Nat} (hk : k < (halvesT x n).length) : 0 ≤ (halvesT x n)[k] ∧ (halvesT x n)[k] ≤ 1 := by
  have := turnM_ok h k
  have e : (halvesT x n)[k] = (turnM x k).tmod 2 := by simp [halvesT]
  rw [e, Int.tmod_eq_emod_of_nonneg this.1]
  omega

theorem halves48_ok (m : Mk) {x : List Int} (h : okU x) (hm : 0 ≤ m.sheets ∧ m.sheets ≤ 4) : PCall Try.prog 48 [m.av, US x] (IL (halvesT x m.sheets.toNat)) := by
  refine pcall Try.func48 tr48 rs48 fn48 (by simp [Try.ntmps48]) fun hfit => ?_
  obtain ⟨S, hS⟩ : ∃ S : Nat, m.sheets = S := ⟨m.sheets.toNat, by omega⟩
  have e : m.sheets.toNat = S := by omega
  rw [e]
  simp -implicitDefEqProofs [m48]
  refine loop_up S (fun k s => s.env 1 = US x ∧ s.env 2 = .ref m.cs ∧ s.env 5 = .slice 1 ((halvesT x k).map I) 6 ∧ s.env 6 = I k) ?_ ?_
  · simp [halvesT]
  rintro k s hk ⟨e1, e2, e5, e6⟩
  simp -implicitDefEqProofs [e2, e6, hS]
  refine cond_dec (fun hlt => ?_) (fun hge => ?_)
  · have hlt : k < S := by omega
    have hs := halvesT_succ x k
    have hl := halvesT_len x k
    simp -implicitDefEqProofs [e1, e5, e6]
    refine vCall_of (turn85_ok h k) ?_
    simp -implicitDefEqProofs [e5, e6]
    refine ⟨by omega, by omega, i64 (by omega) (by omega), round_ok hlt ⟨by simp [e1], by simp [e2], by simp [hs], by simp⟩⟩
  · obtain rfl : k = S := by omega
    simp -implicitDefEqProofs [e5, r48]
end Go.Proofs.Ytcfeipphmklakaa

namespace Go.Proofs.Ytcfeipphmklakaa
open Go.Avm

/-- The numbers of a set, by bits. -/
def bitsL (n : Nat) : List Int := selT (fun i => n.testBit i) 11

def unI : AV → Option Int
  | .lit (.int .i64 n) => some n
  | _ => none
theorem unI_ok {r : AV} {n : Int} (h : unI r = some n) : r = I n := by
  unfold unI at h
  split at h <;> simp_all
def unIs : List AV → Option (List Int)
  | [] => some []
  | x :: xs => match unI x, unIs xs with
    | some n, some l => some (n :: l)
    | _, _ => none
def unIL : AV → Option (List Int)
  | .slice 1 xs 0 => unIs xs
  | _ => none
/-- How many bits a number takes. -/
def lenM (n : Nat) : Nat := ((List.range 12).find? fun i => n < 2 ^ i).getD 12

def chk104 (n : Nat) : Bool := match (evAll tab 60).1 0 104 [.lit (.int .u64 n)] with
  | some r => (match unI r with | some l => decide (l = lenM n) | none => false) && below 0 r
  | none => false
def chk102 (n : Nat) : Bool := match (evAll tab 60).1 0 102 [.lit (.int .u64 n)] with
  | some r => (match unI r with | some l => decide (l = (bitsL n).length) | none => false) && below 0 r
  | none => false

theorem chk104_ok {n : Nat} (h : chk104 n = true) : PCall Try.prog 104 [.lit (.int .u64 n)] (I (lenM n : Nat)) := by
  unfold chk104 at h
  split at h
  · rename_i r hr
    rw [Bool.and_eq_true] at h
    obtain ⟨h1, h2⟩ := h
    split at h1
    · rename_i l hl
      have := unI_ok hl
      have hl' := of_decide_eq_true h1
      subst hl'
      rw [← this]
      exact run_call tabOK 60 hr rfl h2
    · cases h1
  · cases h
theorem chk102_ok {n : Nat} (h : chk102 n = true) : PCall Try.prog 102 [.lit (.int .u64 n)] (I (bitsL n).length) := by
  unfold chk102 at h
  split at h
  · rename_i r hr
    rw [Bool.and_eq_true] at h
    obtain ⟨h1, h2⟩ := h
    split at h1
    · rename_i l hl
      have := unI_ok hl
      have hl' := of_decide_eq_true h1
      subst hl'
      rw [← this]
      exact run_call tabOK 60 hr rfl h2
    · cases h1
  · cases h
/-- Whether some numbers pass. -/
def chks (q : Nat → Bool) (a : Nat) : Bool := (List.range 64).all fun i => q (64 * a + i)
end Go.Proofs.Ytcfeipphmklakaa

namespace Go.Proofs.Ytcfeipphmklakaa
open Go.Avm

theorem wrap_nat {a : Nat} (h : a < 1099511627776) : IntKind.wrap .i64 (a : Int) = a := by
  simp [IntKind.wrap, IntKind.bits, IntKind.signed]
  omega
theorem wrapu_nat {a : Nat} (h : a < 1099511627776) : IntKind.wrap .u64 (a : Int) = a := by
  simp [IntKind.wrap, IntKind.bits, IntKind.signed]
  omega

theorem ofInt_nat (a : Nat) : BitVec.ofInt 64 (a : Int) = BitVec.ofNat 64 a := by simp

theorem bitOr {a b : Nat} (ha : a < 1099511627776) (hb : b < 1099511627776) : bitI .or .i64 (a : Int) (b : Int) = ((a ||| b : Nat) : Int) := by
  have e : ((BitVec.ofInt (IntKind.bits .i64) (a : Int)) ||| (BitVec.ofInt (IntKind.bits .i64) (b : Int))).toNat = a ||| b := by
    show (BitVec.ofInt 64 (a : Int) ||| BitVec.ofInt 64 (b : Int)).toNat = _
    rw [ofInt_nat, ofInt_nat, BitVec.toNat_or, BitVec.toNat_ofNat, BitVec.toNat_ofNat, Nat.mod_eq_of_lt (by omega), Nat.mod_eq_of_lt (by omega)]
  unfold bitI
  show IntKind.wrap .i64 _ = _
  rw [e]
  exact wrap_nat (Nat.or_lt_two_pow (n := 40) ha hb)

theorem bitAnd1 {a : Nat} (ha : a < 1099511627776) : bitI .and .i64 (a : Int) 1 = ((a % 2 : Nat) : Int) := by
  have e : ((BitVec.ofInt (IntKind.bits .i64) (a : Int)) &&& (BitVec.ofInt (IntKind.bits .i64) 1)).toNat = a % 2 := by
    show (BitVec.ofInt 64 (a : Int) &&& BitVec.ofInt 64 ((1 : Nat) : Int)).toNat = _
    rw [ofInt_nat, ofInt_nat, BitVec.toNat_and, BitVec.toNat_ofNat, BitVec.toNat_ofNat, Nat.mod_eq_of_lt (by omega), Nat.mod_eq_of_lt (by omega)]
    exact Nat.and_one_is_mod a
  unfold bitI
  show IntKind.wrap .i64 _ = _
  rw [e]
  exact wrap_nat (by omega)

theorem bit_at {n i : Nat} (hn : n < 2048) : (bitI .and .i64 (Int.fdiv (n : Int) (2 ^ (min i 64))) 1 == 1) = n.testBit i ∨ 64 < i := by
  by_cases hi : 64 < i
  · exact .inr hi
  left
  rw [Nat.min_eq_left (by omega)]
  have e : Int.fdiv (n : Int) (2 ^ i) = ((n / 2 ^ i : Nat) : Int) := by
    rw [Int.fdiv_eq_ediv_of_nonneg _ (by exact Int.pow_nonneg (by omega))]
    simp
  rw [e, bitAnd1 (Nat.lt_of_le_of_lt (Nat.div_le_self _ _) (by omega)), Nat.testBit_eq_decide_div_mod_eq]
  rcases Nat.mod_two_eq_zero_or_one (n / 2 ^ i) with h | h <;> rw [h] <;> rfl

theorem lenM_ok {n : Nat} (h : n < 2048) : lenM n ≤ 11 ∧ n < 2 ^ lenM n := by
  unfold lenM
  cases hf : (List.range 12).find? fun i => n < 2 ^ i with
  | none =>
    rw [List.find?_eq_none] at hf
    have := hf 11 (by simp)
    simp at this; omega
  | some i =>
    have h1 := List.find?_some hf
    have h2 := List.mem_of_find?_eq_some hf
    simp at h1 h2
    simp
    omega

theorem selT_stop {n L : Nat} (h : n < 2 ^ L) : ∀ d, selT (fun i => n.testBit i) (L + d) = selT (fun i => n.testBit i) L
  | 0 => rfl
  | d + 1 => by
    have hf : (fun i => n.testBit i) (L + d) = false := Nat.testBit_lt_two_pow (Nat.lt_of_lt_of_le h (Nat.pow_le_pow_right (by omega) (by omega)))
    rw [show L + (d + 1) = (L + d) + 1 from rfl, selT_f hf, selT_stop h d]

theorem list81_ok (h104 : ∀ n : Nat, n < 2048 → PCall Try.prog 104 [.lit (.int .u64 n)] (I (lenM n : Nat))) {n : Nat} (hn : n < 2048) : PCall Try.prog 81 [I n] (IL (bitsL n)) := by
  refine pcall Try.func81 tr81 rs81 fn81 (by simp [Try.ntmps81]) fun hfit => ?_
  have c := h104 n hn
  have hl := lenM_ok hn
  have hw := wrapu_nat (a := n) (by omega)
  have hres : bitsL n = selT (fun i => n.testBit i) (lenM n) := by
    unfold bitsL
    have := selT_stop hl.2 (11 - lenM n)
    rwa [show lenM n + (11 - lenM n) = 11 by omega] at this
  rw [hres]
  generalize lenM n = L at *
  simp -implicitDefEqProofs [m81, hw]
  refine vCall_of c ?_
  simp -implicitDefEqProofs
  refine loop_up L (fun k s => s.env 0 = I n ∧ s.env 2 = .slice 1 ((selT (fun i => n.testBit i) k).map I) 3 ∧ s.env 6 = I L ∧ s.env 7 = I k) ?_ ?_
  · simp [selT_zero]
  rintro k s hk ⟨e0, e2, e6, e7⟩
  simp -implicitDefEqProofs [e6, e7]
  refine cond_dec (fun hlt => ?_) (fun hge => ?_)
  · have hlt : k < L := by omega
    have hsl := selT_len (fun i => n.testBit i) k
    have hb : (bitI .and .i64 (Int.fdiv (n : Int) (2 ^ (min k 64))) 1 == 1) = n.testBit k := by
      rcases bit_at (i := k) hn with h | h
      · exact h
      · omega
    simp -implicitDefEqProofs [e0, e7]
    have hb' : (bitI .and .i64 (Int.fdiv (n : Int) (2 ^ (min k (IntKind.bits .i64)))) 1 == 1) = n.testBit k := hb
    rw [hb']
    refine cond_bool (fun he => ?_) (fun he => ?_)
    · simp -implicitDefEqProofs [e2, e7]
      refine ⟨by omega, by omega, i64 (by omega) (by omega), round_ok hlt ⟨by simp [e0], by simp [selT_t (q := fun i => n.testBit i) he], by simp [e6], by simp⟩⟩
    · simp -implicitDefEqProofs [e7]
      refine ⟨i64 (by omega) (by omega), round_ok hlt ⟨by simp [e0], by simp [e2, selT_f (q := fun i => n.testBit i) he], by simp [e6], by simp⟩⟩
  · obtain rfl : k = L := by omega
    simp -implicitDefEqProofs [e2, r81]

def lexL : List Int → List Int → Bool
  | x :: xs, y :: ys => if x = y then lexL xs ys else decide (x < y)
  | _, _ => false
def cmpL : List Int → List Int → Int
  | x :: xs, y :: ys => if x < y then -1 else if y < x then 1 else cmpL xs ys
  | _, _ => 0
/-- Whether a list is shorter, or as long and ahead. -/
def lessL (a b : List Int) : Bool := if a.length ≠ b.length then decide (a.length < b.length) else lexL a b

theorem cmp_lex : ∀ (a b : List Int), decide (cmpL a b < 0) = lexL a b
  | [], [] => rfl
  | [], _ :: _ => rfl
  | _ :: _, [] => rfl
  | x :: xs, y :: ys => by
    unfold cmpL lexL
    by_cases h1 : x < y
    · have h2 : ¬ x = y := by omega
      simp [h1, h2]
    · by_cases h3 : y < x
      · have h2 : ¬ x = y := by omega
        simp [h1, h2, h3]
      · have h2 : x = y := by omega
        simp [h1, h2, h3, cmp_lex xs ys]

theorem nan_ok (x : Int) : PCall Try.prog 118 [I x] (B false) := by
  refine pcall Try.func118 tr118 rs118 fn118 (by simp [Try.ntmps118]) fun hfit => ?_
  simp -implicitDefEqProofs [m118, r118]

theorem cmp114_ok (x y : Int) : PCall Try.prog 114 [I x, I y] (I (if x < y then -1 else if y < x then 1 else 0)) := by
  refine pcall Try.func114 tr114 rs114 fn114 (by simp [Try.ntmps114]) fun hfit => ?_
  simp -implicitDefEqProofs [m114]
  refine vCall_of (nan_ok x) ?_
  simp -implicitDefEqProofs
  refine vCall_of (nan_ok y) ?_
  by_cases h1 : x < y
  · simp -implicitDefEqProofs [h1, r114]
  · by_cases h2 : y < x <;> simp -implicitDefEqProofs [h1, h2, r114]

theorem compare_ok (a b : List Int) (h : a.length = b.length) : PCall Try.prog 103 [IL a, IL b] (I (cmpL a b)) := by
  refine pcall Try.func103 tr103 rs103 fn103 (by simp [Try.ntmps103]) fun hfit => ?_
  have hl := fits_len (hfit 0)
  simp only [List.length_map] at hl
  obtain ⟨R, hR⟩ : ∃ R, R = cmpL a b := ⟨_, rfl⟩
  rw [← hR]
  simp -implicitDefEqProofs [m103]
  refine loop_up a.length (fun k s => s.env 0 = IL a ∧ s.env 1 = IL b ∧ s.env 9 = IL a ∧ s.env 10 = I a.length ∧ s.env 11 = I k ∧ R = cmpL (a.drop k) (b.drop k)) ?_ ?_
  · simp [hR]
  rintro k s hk ⟨e0, e1, e9, e10, e11, hc⟩
  simp -implicitDefEqProofs [e10, e11]
  refine cond_dec (fun hlt => ?_) (fun hge => ?_)
  · have hlt : k < a.length := by omega
    have hlt2 : k < b.length := by omega
    have hge : ¬ (b.length : Int) ≤ (k : Int) := by omega
    rw [drop_cons hlt, drop_cons hlt2] at hc
    unfold cmpL at hc
    have c := cmp114_ok a[k] b[k]
    simp -implicitDefEqProofs [e1, e9, e11, hlt, hlt2, hge]
    refine vCall_of c ?_
    by_cases h1 : a[k] < b[k]
    · rw [if_pos h1] at hc
      simp -implicitDefEqProofs [h1, r103, hc]
    · rw [if_neg h1] at hc
      by_cases h2 : b[k] < a[k]
      · rw [if_pos h2] at hc
        simp -implicitDefEqProofs [h1, h2, r103, hc]
      · rw [if_neg h2] at hc
        simp -implicitDefEqProofs [h1, h2, e11]
        exact ⟨i64 (by omega) (by omega), round_ok hlt ⟨by simp [e0], by simp [e1], by simp [e9], by simp [e10], by simp, hc⟩⟩
  · obtain rfl : k = a.length := by omega
    rw [List.drop_length, h, List.drop_length] at hc
    have hc : R = 0 := hc
    simp -implicitDefEqProofs [e0, e1, h, r103, hc]

theorem fewer80_ok (h104 : ∀ n : Nat, n < 2048 → PCall Try.prog 104 [.lit (.int .u64 n)] (I (lenM n : Nat))) (h102 : ∀ n : Nat, n < 2048 → PCall Try.prog 102 [.lit (.int .u64 n)] (I (bitsL n).length)) {a b : Nat} (ha : a < 2048) (hb : b < 2048) :
    PCall Try.prog 80 [I a, I b] (B (lessL (bitsL a) (bitsL b))) := by
  refine pcall Try.func80 tr80 rs80 fn80 (by simp [Try.ntmps80]) fun hfit => ?_
  have c1 := list81_ok h104 ha
  have c2 := list81_ok h104 hb
  have c3 := h102 a ha
  have c4 := h102 b hb
  have hwa := wrapu_nat (a := a) (by omega)
  have hwb := wrapu_nat (a := b) (by omega)
  have l1 : (bitsL a).length ≤ 11 := selT_len _ _
  have l2 : (bitsL b).length ≤ 11 := selT_len _ _
  generalize bitsL a = x at *
  generalize bitsL b = y at *
  obtain ⟨R, hR⟩ : ∃ R, R = lessL x y := ⟨_, rfl⟩
  rw [← hR]
  unfold lessL at hR
  simp -implicitDefEqProofs [m80, hwa]
  refine vCall_of c3 ?_
  simp -implicitDefEqProofs [hwb]
  refine vCall_of c4 ?_
  simp -implicitDefEqProofs
  refine ⟨i64 (by omega) (by omega), ?_⟩
  by_cases h : x.length = y.length
  case neg =>
    have h' : ((x.length : Int) - (y.length : Int) != 0) = true := by simp; omega
    rw [if_pos h] at hR
    simp -implicitDefEqProofs [h', r80, hR]
    omega
  have h' : ((x.length : Int) - (y.length : Int) != 0) = false := by simp; omega
  rw [if_neg (not_not_intro h)] at hR
  simp -implicitDefEqProofs [h']
  refine vCall_of c1 ?_
  simp -implicitDefEqProofs
  refine vCall_of c2 ?_
  simp -implicitDefEqProofs
  refine vCall_of (compare_ok x y h) ?_
  rw [← cmp_lex] at hR
  simp -implicitDefEqProofs [r80, hR]
end Go.Proofs.Ytcfeipphmklakaa

namespace Go.Proofs.Ytcfeipphmklakaa
open Go.Avm

/-- A set of numbers, as bits. -/
def setOf (q : Nat → Bool) : Nat → Nat
  | 0 => 0
  | n + 1 => setOf q n ||| (if q n then 2 ^ n else 0)
theorem setOf_bit (q : Nat → Bool) : ∀ n j, (setOf q n).testBit j = (decide (j < n) && q j)
  | 0, j => by simp [setOf]
  | n + 1, j => by
    unfold setOf
    rw [Nat.testBit_or, setOf_bit q n j]
    cases hq : q n with
    | true =>
      rw [if_pos rfl, Nat.testBit_two_pow]
      by_cases h1 : j < n
      · have h2 : ¬ n = j := by omega
        have h3 : j < n + 1 := by omega
        simp [h1, h2, h3]
      · by_cases h2 : n = j
        · subst h2; simp [hq]
        · have h3 : ¬ j < n + 1 := by omega
          simp [h1, h2, h3]
    | false =>
      simp only [Bool.false_eq_true, if_false, Nat.zero_testBit, Bool.or_false]
      by_cases h1 : j < n
      · have h3 : j < n + 1 := by omega
        simp [h1, h3]
      · by_cases h2 : j = n
        · subst h2; simp [hq]
        · have h3 : ¬ j < n + 1 := by omega
          simp [h1, h3]
theorem setOf_lt (q : Nat → Bool) : ∀ n, setOf q n < 2 ^ n
  | 0 => by simp [setOf]
  | n + 1 => by
    unfold setOf
    refine Nat.or_lt_two_pow (Nat.lt_of_lt_of_le (setOf_lt q n) (Nat.pow_le_pow_right (by omega) (by omega))) ?_
    split
    · exact Nat.pow_lt_pow_right (by omega) (by omega)
    · exact Nat.pow_pos (by omega)
theorem selT_congr {q r : Nat → Bool} {n : Nat} (h : ∀ j < n, q j = r j) : selT q n = selT r n := by
  unfold selT
  congr 1
  exact List.filter_congr fun j hj => h j (by simpa using hj)
theorem bitsL_setOf (q : Nat → Bool) : bitsL (setOf q 11) = selT q 11 := selT_congr fun j hj => by rw [setOf_bit]; simp [hj]
theorem setOf_eq {q r : Nat → Bool} {n m : Nat} (h : ∀ j, (decide (j < n) && q j) = (decide (j < m) && r j)) : setOf q n = setOf r m :=
  Nat.eq_of_testBit_eq fun j => by rw [setOf_bit, setOf_bit]; exact h j
theorem setOf_or (q r : Nat → Bool) (n : Nat) : setOf q n ||| setOf r n = setOf (fun j => q j || r j) n :=
  Nat.eq_of_testBit_eq fun j => by rw [Nat.testBit_or, setOf_bit, setOf_bit, setOf_bit]; cases decide (j < n) <;> rfl

/-- What is known of what is seen that is right. -/
structure RightB (b : Bok) : Prop where
  leaves : 1 ≤ b.leaves ∧ b.leaves ≤ 64
  chain : 0 ≤ b.chain ∧ b.chain ≤ 2
  spans : spansE 0 2000 b.wide b.high = 0
  marks : b.marks.length ≤ 8
  at_ : ∀ i (h : i < b.marks.length), 0 ≤ b.marks[i].leaf ∧ b.marks[i].leaf ≤ b.leaves - 1

theorem spansE_zero {lo hi : Int} {a b : Spn} (h : spansE lo hi a b = 0) : (lo ≤ a.lo ∧ a.hi ≤ hi ∧ a.lo ≤ a.hi) ∧ lo ≤ b.lo ∧ b.hi ≤ hi ∧ b.lo ≤ b.hi := by
  unfold spansE at h
  split at h
  · cases h
  rename_i h1
  split at h
  · cases h
  rename_i h2
  simp [out] at h1
  omega

theorem rightB_of {p : Prs} {b : Bok} (h : (checkBookE p b).2.2 = 0) : errE p = 0 ∧ RightB b := by
  unfold checkBookE at h
  split at h
  · rename_i h0; exact (h0 h).elim
  rename_i h0
  split at h
  · cases h
  rename_i h1
  split at h
  · cases h
  rename_i h2
  split at h
  · rename_i h3; exact (h3 h).elim
  rename_i h3
  split at h
  · cases h
  rename_i h4
  split at h
  · rename_i h5; exact (h5 h).elim
  rename_i h5
  refine ⟨Decidable.of_not_not h0, Decidable.of_not_not h1, Decidable.of_not_not h2, Decidable.of_not_not h3, by omega, fun i hi => ?_⟩
  have := firstE_zero (Decidable.of_not_not h5) i hi
  unfold mE at this
  rw [dif_pos hi] at this
  unfold mrkE at this
  split at this
  · rename_i h6; exact h6
  · cases this

/-- Whether a size from lo to hi, less up to some, can be one of a span. -/
def metM (lo hi less : Int) (s : Spn) : Bool := decide (lo - less ≤ s.hi) && decide (s.lo ≤ hi)

theorem reached100_ok (lo hi less : Int) (s : Spn) (h : 0 ≤ lo ∧ lo ≤ 100000 ∧ 0 ≤ less ∧ less ≤ 100000) : PCall Try.prog 100 [I lo, I hi, I less, s.av] (B (metM lo hi less s)) := by
  refine pcall Try.func100 tr100 rs100 fn100 (by simp [Try.ntmps100]) fun hfit => ?_
  unfold metM
  simp -implicitDefEqProofs [m100]
  refine ⟨i64 (by omega) (by omega), ?_⟩
  by_cases h1 : lo - less ≤ s.hi <;> simp -implicitDefEqProofs [h1, r100]
/-- How wide and high a leaf is. -/
def sizeM (w : List Nat) (wide high : Int) : Int × Int :=
  if w.getLastD 0 = 120 then (wide.tdiv (timesN w 120 : Int), high.tdiv (timesN w 121 : Int)) else (high.tdiv (timesN w 121 : Int), wide.tdiv (timesN w 120 : Int))

theorem tdiv_small {a : Int} {n : Nat} (ha : 0 ≤ a ∧ a ≤ 100000) (hn : 1 ≤ n) : 0 ≤ a.tdiv n ∧ a.tdiv n ≤ 100000 := by
  rw [Int.tdiv_eq_ediv_of_nonneg ha.1]
  exact ⟨Int.ediv_nonneg ha.1 (by omega), Int.le_trans (Int.ediv_le_self _ ha.1) ha.2⟩

theorem last_codes {f : ByteArray} (h : 1 ≤ f.size) : bt f (f.size - 1) = (codes f).getLastD 0 := by
  rw [bt_codes, List.getLastD_eq_getLast?, List.getLast?_eq_getElem?, List.getD_eq_getElem?_getD, codes_len]

theorem size86_ok {p : Prs} {m : Mk} (hp : Right p) (hm : RightM p m) (wide high : Int) (hw : 0 ≤ wide ∧ wide ≤ 100000) (hh : 0 ≤ high ∧ high ≤ 100000) :
    PCall Try.prog 86 [p.av, m.av, I wide, I high] (.tuple [I (sizeM (codes (foldsOf p m)) wide high).1, I (sizeM (codes (foldsOf p m)) wide high).2]) := by
  refine pcall Try.func86 tr86 rs86 fn86 (by simp [Try.ntmps86]) fun hfit => ?_
  have c1 := timesx_ok hp hm
  have c2 := timesy_ok hp hm
  have ht := times_le _ (foldsOf_mem hp hm)
  have hs := folds_size hp hm
  have hla := last_codes hs.1
  obtain ⟨R, hR⟩ : ∃ R, R = sizeM (codes (foldsOf p m)) wide high := ⟨_, rfl⟩
  rw [← hR]
  unfold sizeM at hR
  generalize timesN (codes (foldsOf p m)) 120 = a at *
  generalize timesN (codes (foldsOf p m)) 121 = b at *
  generalize (codes (foldsOf p m)).getLastD 0 = la at *
  obtain ⟨g, hg⟩ : ∃ g : Nat, m.format = g := ⟨m.format.toNat, by have := hm.fmt; omega⟩
  have hgl : g < p.fmts.length := by have := hm.fmt; omega
  rw [foldsOf_at hg hgl] at c1 c2 hs hla
  have hq : ((p.fmts[g].folds.size : Int) - 1).toNat = p.fmts[g].folds.size - 1 := by omega
  have hlt : p.fmts[g].folds.size - 1 < p.fmts[g].folds.data.size := by show _ < p.fmts[g].folds.size; omega
  have d1 := tdiv_small hw (n := a) (by omega)
  have d2 := tdiv_small hh (n := b) (by omega)
  have ha0 : ¬ a = 0 := by omega
  have hb0 : ¬ b = 0 := by omega
  have hlb : (p.fmts[g].folds.data.toList.getD (p.fmts[g].folds.size - 1) 0).toNat = la := hla
  rw [List.getD_eq_getElem?_getD] at hlb
  simp at hlb
  simp -implicitDefEqProofs [m86, hg, hgl]
  refine vCall_of c1 ?_
  simp -implicitDefEqProofs [ha0]
  refine ⟨i64 (by omega) (by omega), ?_⟩
  refine vCall_of c2 ?_
  simp -implicitDefEqProofs [hb0, hq]
  refine ⟨i64 (by omega) (by omega), i64 (by omega) (by omega), by omega, by omega, ?_⟩
  rw [hlb]
  by_cases h : la = 120
  · have h' : ((la : Int) == 120) = true := by simp [h]
    rw [if_pos h] at hR
    simp -implicitDefEqProofs [h', r86, hR]
  · have h' : ((la : Int) == 120) = false := by simp; omega
    rw [if_neg h] at hR
    simp -implicitDefEqProofs [h', r86, hR]
end Go.Proofs.Ytcfeipphmklakaa

namespace Go.Proofs.Ytcfeipphmklakaa
open Go.Avm

/-- Whether a piece is a mark of a sheet that is not true with a half. -/
def untP (w : List Nat) (l : List Lf) (ms : List Mrk) (s h : Int) (j : Nat) : Bool := decide (3 ≤ j) && match ms[j - 3]? with
  | some q => ((l.getD q.leaf.toNat zLf).sheet == s) && (markM w (l.getD q.leaf.toNat zLf) h != q.seen)
  | none => false

theorem untP_small (w : List Nat) (l : List Lf) (ms : List Mrk) (s h : Int) {j : Nat} (hj : j < 3) : untP w l ms s h j = false := by
  unfold untP; simp; omega
theorem untP_big (w : List Nat) (l : List Lf) (ms : List Mrk) (s h : Int) {j : Nat} (hj : 3 + ms.length ≤ j) : untP w l ms s h j = false := by
  unfold untP
  rw [List.getElem?_eq_none (by omega)]; simp
theorem untP_at (w : List Nat) (l : List Lf) (ms : List Mrk) (s h : Int) {k t : Nat} (hk : k < ms.length) (ht : ms[k].leaf = t) (hl : t < l.length) : untP w l ms s h (3 + k) = ((l[t].sheet == s) && (markM w l[t] h != ms[k].seen)) := by
  unfold untP
  have e : 3 + k - 3 = k := by omega
  rw [e, List.getElem?_eq_getElem hk]
  simp [ht, List.getD_eq_getElem?_getD, hl]
theorem selT_nil {q : Nat → Bool} : ∀ {n : Nat}, (∀ j < n, q j = false) → selT q n = []
  | 0, _ => rfl
  | n + 1, h => by rw [selT_f (h n (by omega)), selT_nil fun j hj => h j (by omega)]
theorem setOf_nil {q : Nat → Bool} {n : Nat} (h : ∀ j < n, q j = false) : setOf q n = 0 := by
  have : setOf q n = setOf (fun _ => false) 0 := setOf_eq fun j => by by_cases hj : j < n <;> simp [hj, h]
  rw [this]; rfl
theorem selT_more {q : Nat → Bool} {n : Nat} (h : ∀ j, n ≤ j → q j = false) : ∀ d, selT q (n + d) = selT q n
  | 0 => rfl
  | d + 1 => by rw [show n + (d + 1) = (n + d) + 1 from rfl, selT_f (h _ (by omega)), selT_more h d]
theorem setOf_more {q : Nat → Bool} {n : Nat} (h : ∀ j, n ≤ j → q j = false) {m : Nat} (hm : n ≤ m) : setOf q m = setOf q n :=
  setOf_eq fun j => by
    by_cases hj : j < n
    · have : j < m := by omega
      simp [hj, this]
    · simp [hj, h j (by omega)]

def okL (l : List Lf) : Prop := ∀ x ∈ l, 0 ≤ x.col ∧ x.col < 16 ∧ 0 ≤ x.row ∧ x.row < 16

theorem shl8 {k : Nat} (hk : k ≤ 8) : IntKind.wrap .i64 (8 * 2 ^ (min k (IntKind.bits .i64))) = ((2 ^ (3 + k) : Nat) : Int) := by
  have e : min k (IntKind.bits .i64) = k := Nat.min_eq_left (by show k ≤ 64; omega)
  rw [e]
  have e2 : (8 * 2 ^ k : Int) = ((2 ^ (3 + k) : Nat) : Int) := by rw [Nat.pow_add]; simp
  rw [e2]
  exact wrap_nat (Nat.lt_of_le_of_lt (Nat.pow_le_pow_right (by omega) (show 3 + k ≤ 11 by omega)) (by decide))

theorem off101_ok {p : Prs} {m : Mk} (hp : Right p) (hm : RightM p m) (b : Bok) (hb : RightB b) (l : List Lf) (hl : (l.length : Int) = b.leaves) (hok : okL l) (s h : Int) (hh : 0 ≤ h ∧ h ≤ 1) :
    PCall Try.prog 101 [I h, BRef b, .ref [LL l], .ref [I s], PRef p, .ref m.cs] (I (setOf (untP (codes (foldsOf p m)) l b.marks s h) 11 : Nat)) := by
  refine pcall Try.func101 tr101 rs101 fn101 (by simp [Try.ntmps101]) fun hfit => ?_
  have hn := hb.marks
  have hres : setOf (untP (codes (foldsOf p m)) l b.marks s h) 11 = setOf (untP (codes (foldsOf p m)) l b.marks s h) (3 + b.marks.length) := setOf_more (fun j hj => untP_big _ _ _ _ _ hj) (by omega)
  rw [hres]
  have c : ∀ x : Lf, (0 ≤ x.col ∧ x.col < 16 ∧ 0 ≤ x.row ∧ x.row < 16) → PCall Try.prog 74 [p.av, m.av, x.av, I h] (B (markM (codes (foldsOf p m)) x h)) := fun x hx => mark_ok hp hm x hx h hh
  generalize codes (foldsOf p m) = w at *
  clear hres
  simp -implicitDefEqProofs [m101]
  refine loop_up b.marks.length (fun k st => st.env 0 = I h ∧ st.env 2 = .ref [LL l] ∧ st.env 3 = .ref [I s] ∧ st.env 4 = PRef p ∧ st.env 5 = .ref m.cs ∧ st.env 7 = I (setOf (untP w l b.marks s h) (3 + k) : Nat) ∧ st.env 11 = .slice 2 (b.marks.map Mrk.av) 0 ∧ st.env 12 = I b.marks.length ∧ st.env 13 = I k) ?_ ?_
  · simp
    rw [setOf_nil fun j hj => untP_small _ _ _ _ _ hj]; rfl
  rintro k st hk ⟨e0, e2, e3, e4, e5, e7, e11, e12, e13⟩
  simp -implicitDefEqProofs [e12, e13]
  refine cond_dec (fun hlt => ?_) (fun hge => ?_)
  · have hlt : k < b.marks.length := by omega
    have hat := hb.at_ k hlt
    obtain ⟨t, ht⟩ : ∃ t : Nat, b.marks[k].leaf = t := ⟨b.marks[k].leaf.toNat, by omega⟩
    have htl : t < l.length := by omega
    have hu := untP_at w l b.marks s h hlt ht htl
    have c := c l[t] (hok _ (List.getElem_mem htl))
    have hst : setOf (untP w l b.marks s h) (3 + (k + 1)) = setOf (untP w l b.marks s h) (3 + k) ||| (if untP w l b.marks s h (3 + k) then 2 ^ (3 + k) else 0) := rfl
    have hlt11 : setOf (untP w l b.marks s h) (3 + k) < 1099511627776 := Nat.lt_of_lt_of_le (setOf_lt _ _) (Nat.le_trans (Nat.pow_le_pow_right (by omega) (show 3 + k ≤ 11 by omega)) (by decide))
    have hpow : 2 ^ (3 + k) < 1099511627776 := Nat.lt_of_le_of_lt (Nat.pow_le_pow_right (by omega) (show 3 + k ≤ 11 by omega)) (by decide)
    have hor := bitOr hlt11 hpow
    have hsh := shl8 (k := k) (by omega)
    obtain ⟨P, hP⟩ : ∃ P : Nat, P = 2 ^ (3 + k) := ⟨_, rfl⟩
    rw [← hP] at hst hor hsh
    obtain ⟨n, hnn⟩ : ∃ n : Nat, n = setOf (untP w l b.marks s h) (3 + k) := ⟨_, rfl⟩
    rw [← hnn] at hst hor e7
    simp -implicitDefEqProofs [e2, e3, e11, e13, hlt, ht, htl]
    intro b2 hb2
    by_cases hs : l[t].sheet = s
    · have hs' : (l[t].sheet == s) = true := by simp [hs]
      rw [hs', Bool.true_and] at hu
      simp -implicitDefEqProofs [e0, e2, e4, e5, hs', htl]
      refine vCall_of c ?_
      simp -implicitDefEqProofs
      refine cond_bool (fun he => ?_) (fun he => ?_)
      · have he' : untP w l b.marks s h (3 + k) = true := by rw [hu]; exact he
        rw [he', if_pos rfl] at hst
        simp -implicitDefEqProofs [e7, e13, hsh, hor]
        exact ⟨i64 (by omega) (by omega), round_ok hlt ⟨by simp [e0], by simp [e2], by simp [e3], by simp [e4], by simp [e5], by simp [hst], by simp [e11], by simp [e12], by simp⟩⟩
      · have he' : untP w l b.marks s h (3 + k) = false := by rw [hu]; exact he
        rw [he', if_neg (by simp), Nat.or_zero] at hst
        simp -implicitDefEqProofs [e13]
        exact ⟨i64 (by omega) (by omega), round_ok hlt ⟨by simp [e0], by simp [e2], by simp [e3], by simp [e4], by simp [e5], by simp [e7, hst], by simp [e11], by simp [e12], by simp⟩⟩
    · have hs' : (l[t].sheet == s) = false := by simp [hs]
      rw [hs', Bool.false_and] at hu
      rw [hu, if_neg (by simp), Nat.or_zero] at hst
      simp -implicitDefEqProofs [hs', e13]
      exact ⟨i64 (by omega) (by omega), round_ok hlt ⟨by simp [e0], by simp [e2], by simp [e3], by simp [e4], by simp [e5], by simp [e7, hst], by simp [e11], by simp [e12], by simp⟩⟩
  · obtain rfl : k = b.marks.length := by omega
    simp -implicitDefEqProofs [e7, r101]
end Go.Proofs.Ytcfeipphmklakaa

namespace Go.Proofs.Ytcfeipphmklakaa
open Go.Avm

theorem cond_cut {P : Program} {kn : St → Prop} {ke : Nat → St → Prop} {kr : St → Prop} {s : St} {x y : MCode} {b : Bool} (J : St → Prop) (h : ∀ s', J s' → kn s')
    (hx : ∀ k : St → Prop, (∀ s', J s' → k s') → b = true → mwp P x k ke kr s) (hy : ∀ k : St → Prop, (∀ s', J s' → k s') → b = false → mwp P y k ke kr s) : vCond P kn ke kr s x y (.lit (.bool b)) := ⟨hx kn h, hy kn h⟩

theorem seq_cut {P : Program} {kn : St → Prop} {ke : Nat → St → Prop} {kr : St → Prop} {s : St} {x y : MCode} (J : St → Prop) (hx : ∀ k : St → Prop, (∀ s', J s' → k s') → mwp P x k ke kr s) (h : ∀ s', J s' → mwp P y kn ke kr s') : mwp P (.seq x y) kn ke kr s := hx _ h

/-- The half with which fewer marks of a sheet are not true. -/
def halfM (w : List Nat) (l : List Lf) (ms : List Mrk) (s : Int) : Int := if lessL (selT (untP w l ms s 1) 11) (selT (untP w l ms s 0) 11) then 1 else 0
def shP (w : List Nat) (l : List Lf) (ms : List Mrk) (k j : Nat) : Bool := (List.range k).any fun (s : Nat) => untP w l ms s (halfM w l ms s) j
def chainP (w : List Nat) (b : Bok) : Bool := decide (b.chain ≠ 0 ∧ b.chain ≠ (if w.getLastD 0 = 120 then 1 else 2))
def wideP (w : List Nat) (q : Ppr) (trim : Int) (b : Bok) : Bool := !metM (sizeM w q.wide.lo q.high.lo).1 (sizeM w q.wide.hi q.high.hi).1 trim b.wide
def highP (w : List Nat) (q : Ppr) (trim : Int) (b : Bok) : Bool := !metM (sizeM w q.wide.lo q.high.lo).2 (sizeM w q.wide.hi q.high.hi).2 (2 * trim) b.high
def baseP (w : List Nat) (q : Ppr) (trim : Int) (b : Bok) : Nat → Bool
  | 0 => chainP w b
  | 1 => wideP w q trim b
  | 2 => highP w q trim b
  | _ => false
def offW (w : List Nat) (q : Ppr) (trim : Int) (l : List Lf) (b : Bok) (S j : Nat) : Bool := baseP w q trim b j || shP w l b.marks S j

def zPpr : Ppr := ⟨⟨#[]⟩, ⟨0, 0⟩, ⟨0, 0⟩⟩
/-- Whether a gathering has as many leaves. -/
def offB (p : Prs) (m : Mk) (b : Bok) : Bool := decide (((lvOf p m).length : Int) = b.leaves)
/-- The pieces that are wrong. -/
def offP (p : Prs) (m : Mk) (b : Bok) : Nat → Bool := offW (codes (foldsOf p m)) (p.pprs.getD m.paper.toNat zPpr) p.trim (lvOf p m) b m.sheets.toNat

theorem shP_succ (w : List Nat) (l : List Lf) (ms : List Mrk) (k j : Nat) : shP w l ms (k + 1) j = (shP w l ms k j || untP w l ms k (halfM w l ms k) j) := by
  unfold shP; rw [List.range_succ, List.any_append]; simp

theorem setOf_small (q : Nat → Bool) : setOf q 11 < 2048 := setOf_lt q 11

theorem off78_ok (h104 : ∀ n : Nat, n < 2048 → PCall Try.prog 104 [.lit (.int .u64 n)] (I (lenM n : Nat))) (h102 : ∀ n : Nat, n < 2048 → PCall Try.prog 102 [.lit (.int .u64 n)] (I (bitsL n).length))
    {p : Prs} {m : Mk} (hp : Right p) (hm : RightM p m) (b : Bok) (hb : RightB b) : PCall Try.prog 78 [p.av, m.av, b.av] (I (if offB p m b then (setOf (offP p m b) 11 : Nat) else -1)) := by
  refine pcall Try.func78 tr78 rs78 fn78 (by simp [Try.ntmps78]) fun hfit => ?_
  have c1 := leaves_ok hp hm
  have c2 := folds71_ok p m hm.fmt
  have c3 := grid_ok hp hm
  have c4 : PCall Try.prog 99 [S (foldsOf p m)] (B ((codes (foldsOf p m)).getLastD 0 == 120)) := by
    have := upright_all _ (foldsOf_mem hp hm)
    rwa [strF_codes] at this
  have ht := times_le _ (foldsOf_mem hp hm)
  have hok : okL (lvOf p m) := fun x hx => by have := lv_okLf hp hm hx; exact ⟨this.2.2.1, this.2.2.2.1, this.2.2.2.2⟩
  have hlen := lv_len hp hm
  have hsn := sheets_nat hp hm
  have htr := hp.trim
  have c5 : (((lvOf p m).length : Int) = b.leaves) → ∀ (s h : Int), 0 ≤ h ∧ h ≤ 1 → PCall Try.prog 101 [I h, BRef b, .ref [LL (lvOf p m)], .ref [I s], PRef p, .ref m.cs] (I (setOf (untP (codes (foldsOf p m)) (lvOf p m) b.marks s h) 11 : Nat)) :=
    fun hl s h hh => off101_ok hp hm b hb (lvOf p m) hl hok s h hh
  obtain ⟨g, hg⟩ : ∃ g : Nat, m.paper = g := ⟨m.paper.toNat, by have := hm.ppr; omega⟩
  have hgl : g < p.pprs.length := by have := hm.ppr; omega
  have hq : p.pprs.getD m.paper.toNat zPpr = p.pprs[g] := by rw [hg]; simp [List.getD_eq_getElem?_getD, hgl]
  have hsp := spansE_zero (hp.wide g hgl)
  obtain ⟨R, hR⟩ : ∃ R : Int, R = if offB p m b then ((setOf (offP p m b) 11 : Nat) : Int) else -1 := ⟨_, rfl⟩
  rw [← hR]
  unfold offB offP at hR
  rw [hq] at hR
  have hsm1 : sizeM (codes (foldsOf p m)) p.pprs[g].wide.lo p.pprs[g].high.lo = _ := rfl
  have hsm2 : sizeM (codes (foldsOf p m)) p.pprs[g].wide.hi p.pprs[g].high.hi = _ := rfl
  obtain ⟨pp, hpp⟩ : ∃ pp, pp = p.pprs[g] := ⟨_, rfl⟩
  rw [← hpp] at hR hsp hsm1 hsm2
  conv at hsm1 => rhs; unfold sizeM
  conv at hsm2 => rhs; unfold sizeM
  have hcls : timesN (codes (foldsOf p m)) 120 = timesN (codes (foldsOf p m)) 120 := rfl
  have hrws : timesN (codes (foldsOf p m)) 121 = timesN (codes (foldsOf p m)) 121 := rfl
  have hlas : (codes (foldsOf p m)).getLastD 0 = (codes (foldsOf p m)).getLastD 0 := rfl
  generalize hcols : timesN (codes (foldsOf p m)) 120 = cols at *
  generalize hrows : timesN (codes (foldsOf p m)) 121 = rows at *
  generalize hla : (codes (foldsOf p m)).getLastD 0 = la at *
  generalize codes (foldsOf p m) = w at *
  generalize foldsOf p m = f at *
  generalize lvOf p m = l at *
  have hg0 : 0 ≤ m.paper := by omega
  have hg1 : m.paper < (p.pprs.length : Int) := by omega
  have hg2 : m.paper.toNat = g := by omega
  simp -implicitDefEqProofs [m78]
  refine vCall_of c1 ?_
  simp -implicitDefEqProofs
  intro b7
  refine cond_bool (fun he => ?_) (fun he => ?_)
  · have hl : ¬ (l.length : Int) = b.leaves := by simpa using he
    rw [if_neg (by simpa using hl)] at hR
    simp -implicitDefEqProofs [r78, hR]
  have hl : (l.length : Int) = b.leaves := by simpa using he
  replace c5 := c5 hl
  rw [if_pos (by simpa using hl)] at hR
  simp -implicitDefEqProofs
  refine vCall_of c2 ?_
  simp -implicitDefEqProofs [hg0, hg1, hg2, hgl, ← hpp]
  intro b9
  refine vCall_of c3 ?_
  have hc0 : ¬ (cols : Int) = 0 := by omega
  have hr0 : ¬ (rows : Int) = 0 := by omega
  have d1 := tdiv_small (a := pp.wide.lo) (n := cols) (by omega) (by omega)
  have d2 := tdiv_small (a := pp.wide.hi) (n := cols) (by omega) (by omega)
  have d3 := tdiv_small (a := pp.high.lo) (n := rows) (by omega) (by omega)
  have d4 := tdiv_small (a := pp.high.hi) (n := rows) (by omega) (by omega)
  have hc0 : ¬ cols = 0 := by omega
  have hr0 : ¬ rows = 0 := by omega
  simp -implicitDefEqProofs [hc0, hr0]
  refine ⟨i64 (by omega) (by omega), i64 (by omega) (by omega), fun b12 hb12 => ⟨i64 (by omega) (by omega), i64 (by omega) (by omega), fun b13 hb13 => ?_⟩⟩
  have h1213 : ¬ b13 = b12 := fun h => by simp [h] at hb13
  have h1312 : ¬ b12 = b13 := fun h => h1213 h.symm
  clear hb12 hb13
  refine vCall_of c4 ?_
  generalize pp.wide.lo.tdiv cols = x1 at *
  generalize pp.wide.hi.tdiv cols = x2 at *
  generalize pp.high.lo.tdiv rows = y1 at *
  generalize pp.high.hi.tdiv rows = y2 at *
  obtain ⟨z1, hz1⟩ : ∃ z, z = sizeM w pp.wide.lo pp.high.lo := ⟨_, rfl⟩
  obtain ⟨z2, hz2⟩ : ∃ z, z = sizeM w pp.wide.hi pp.high.hi := ⟨_, rfl⟩
  rw [← hz1] at hsm1
  rw [← hz2] at hsm2
  obtain ⟨ch, hch⟩ : ∃ ch : Int, ch = if la = 120 then 1 else 2 := ⟨_, rfl⟩
  simp -implicitDefEqProofs
  refine cond_cut (fun st => st.env 3 = PRef p ∧ st.env 4 = .ref m.cs ∧ st.env 5 = BRef b ∧ st.env 6 = I 0 ∧ st.env 7 = .ref [LL l] ∧ st.env 12 = .mref b12 0 ∧ st.env 13 = .mref b13 0 ∧
    st.loc b12 = some [I z1.1, I z2.1] ∧ st.loc b13 = some [I z1.2, I z2.2] ∧ st.env 14 = I ch) ?_ ?_ ?_
  case refine_2 =>
    intro k hk he
    have hla' : ¬ la = 120 := by simpa using he
    rw [if_neg hla'] at hsm1 hsm2 hch
    simp -implicitDefEqProofs [h1213, h1312]
    refine hk _ ⟨by simp, by simp, by simp, by simp, by simp, by simp, by simp, by simp [h1213, h1312, hsm1, hsm2], by simp [h1213, h1312, hsm1, hsm2], by simp [hch]⟩
  case refine_3 =>
    intro k hk he
    have hla' : la = 120 := by simpa using he
    rw [if_pos hla'] at hsm1 hsm2 hch
    simp -implicitDefEqProofs
    refine hk _ ⟨by simp, by simp, by simp, by simp, by simp, by simp, by simp, by simp [h1213, h1312, hsm1, hsm2], by simp [h1213, h1312, hsm1, hsm2], by simp [hch]⟩
  rintro st ⟨e3, e4, e5, e6, e7, e12, e13, l12, l13, e14⟩
  have hb0 : setOf (baseP w pp p.trim b) 1 = if chainP w b then 1 else 0 := by simp [setOf, baseP]
  have hb1 : setOf (baseP w pp p.trim b) 2 = setOf (baseP w pp p.trim b) 1 ||| (if wideP w pp p.trim b then 2 else 0) := rfl
  have hb2 : setOf (baseP w pp p.trim b) 3 = setOf (baseP w pp p.trim b) 2 ||| (if highP w pp p.trim b then 4 else 0) := rfl
  have hs1 : setOf (baseP w pp p.trim b) 1 < 1099511627776 := Nat.lt_trans (setOf_lt _ 1) (by decide)
  have hs2 : setOf (baseP w pp p.trim b) 2 < 1099511627776 := Nat.lt_trans (setOf_lt _ 2) (by decide)
  have ho1 : bitI .or .i64 ((setOf (baseP w pp p.trim b) 1 : Nat) : Int) 2 = ((setOf (baseP w pp p.trim b) 1 ||| 2 : Nat) : Int) := bitOr (b := 2) hs1 (by decide)
  have ho2 : bitI .or .i64 ((setOf (baseP w pp p.trim b) 2 : Nat) : Int) 4 = ((setOf (baseP w pp p.trim b) 2 ||| 4 : Nat) : Int) := bitOr (b := 4) hs2 (by decide)
  have ho0 : bitI .or .i64 0 1 = 1 := by decide
  have hz3 : setOf (baseP w pp p.trim b) 3 = setOf (baseP w pp p.trim b) 11 := setOf_eq fun j => by
    by_cases hj : j < 3
    · have : j < 11 := by omega
      simp [hj, this]
    · have : baseP w pp p.trim b j = false := by
        unfold baseP; split <;> first | omega | rfl
      simp [this]
  have hzr : 0 ≤ z1.1 ∧ z1.1 ≤ 100000 ∧ 0 ≤ z1.2 ∧ z1.2 ≤ 100000 := by
    rw [hsm1]; split <;> simp <;> omega
  refine seq_cut (fun st => st.env 3 = PRef p ∧ st.env 4 = .ref m.cs ∧ st.env 5 = BRef b ∧ st.env 6 = I (setOf (baseP w pp p.trim b) 1 : Nat) ∧ st.env 7 = .ref [LL l] ∧ st.env 12 = .mref b12 0 ∧ st.env 13 = .mref b13 0 ∧
    st.loc b12 = some [I z1.1, I z2.1] ∧ st.loc b13 = some [I z1.2, I z2.2]) ?_ ?_
  · intro k hk
    have hcp : chainP w b = decide (b.chain ≠ 0 ∧ b.chain ≠ ch) := by unfold chainP; rw [hla, hch]
    simp -implicitDefEqProofs [e5]
    by_cases h1 : b.chain = 0
    · have h1' : (b.chain != 0) = false := by simp [h1]
      have hf : chainP w b = false := by rw [hcp]; simp [h1]
      rw [hf, if_neg (by simp)] at hb0
      simp -implicitDefEqProofs [h1']
      exact hk _ ⟨by simp [e3], by simp [e4], by simp [e5], by simp [e6, hb0], by simp [e7], by simp [e12], by simp [e13], by simp [l12], by simp [l13]⟩
    · have h1' : (b.chain != 0) = true := by simp [h1]
      simp -implicitDefEqProofs [e5, e14, h1']
      refine cond_bool (fun he => ?_) (fun he => ?_)
      · have h2 : b.chain ≠ ch := by simpa using he
        have hf : chainP w b = true := by rw [hcp]; simp [h1, h2]
        rw [hf, if_pos rfl] at hb0
        simp -implicitDefEqProofs [e6, ho0]
        exact hk _ ⟨by simp [e3], by simp [e4], by simp [e5], by simp [hb0], by simp [e7], by simp [e12], by simp [e13], by simp [l12], by simp [l13]⟩
      · have h2 : b.chain = ch := by simpa using he
        have hf : chainP w b = false := by rw [hcp]; simp [h2]
        rw [hf, if_neg (by simp)] at hb0
        exact hk _ ⟨by simp [e3], by simp [e4], by simp [e5], by simp [e6, hb0], by simp [e7], by simp [e12], by simp [e13], by simp [l12], by simp [l13]⟩
  clear e3 e4 e5 e6 e7 e12 e13 l12 l13 e14
  rintro st ⟨e3, e4, e5, e6, e7, e12, e13, l12, l13⟩
  refine seq_cut (fun st => st.env 3 = PRef p ∧ st.env 4 = .ref m.cs ∧ st.env 5 = BRef b ∧ st.env 6 = I (setOf (baseP w pp p.trim b) 2 : Nat) ∧ st.env 7 = .ref [LL l] ∧ st.env 12 = .mref b12 0 ∧ st.env 13 = .mref b13 0 ∧
    st.loc b12 = some [I z1.1, I z2.1] ∧ st.loc b13 = some [I z1.2, I z2.2]) ?_ ?_
  · intro k hk
    have c6 := reached100_ok z1.1 z2.1 p.trim b.wide (by omega)
    have hcp : wideP w pp p.trim b = !metM z1.1 z2.1 p.trim b.wide := by unfold wideP; rw [← hz1, ← hz2]
    simp -implicitDefEqProofs [e3, e5, e12, l12]
    refine vCall_of c6 ?_
    simp -implicitDefEqProofs
    refine cond_bool (fun he => ?_) (fun he => ?_)
    · rw [hcp, he, if_pos rfl] at hb1
      simp -implicitDefEqProofs [e6, ho1]
      exact hk _ ⟨by simp [e3], by simp [e4], by simp [e5], by simp [hb1], by simp [e7], by simp [e12], by simp [e13], by simp [l12], by simp [l13]⟩
    · rw [hcp, he, if_neg (by simp), Nat.or_zero] at hb1
      exact hk _ ⟨by simp [e3], by simp [e4], by simp [e5], by simp [e6, hb1], by simp [e7], by simp [e12], by simp [e13], by simp [l12], by simp [l13]⟩
  clear e3 e4 e5 e6 e7 e12 e13 l12 l13
  rintro st ⟨e3, e4, e5, e6, e7, e12, e13, l12, l13⟩
  refine seq_cut (fun st => st.env 3 = PRef p ∧ st.env 4 = .ref m.cs ∧ st.env 5 = BRef b ∧ st.env 6 = I (setOf (baseP w pp p.trim b) 3 : Nat) ∧ st.env 7 = .ref [LL l] ∧ st.env 12 = .mref b12 0 ∧ st.env 13 = .mref b13 0 ∧
    st.loc b12 = some [I z1.1, I z2.1] ∧ st.loc b13 = some [I z1.2, I z2.2]) ?_ ?_
  · intro k hk
    have c6 := reached100_ok z1.2 z2.2 (2 * p.trim) b.high (by omega)
    have hcp : highP w pp p.trim b = !metM z1.2 z2.2 (2 * p.trim) b.high := by unfold highP; rw [← hz1, ← hz2]
    simp -implicitDefEqProofs [e3, e5, e13, l13]
    refine ⟨i64 (by omega) (by omega), ?_⟩
    refine vCall_of c6 ?_
    simp -implicitDefEqProofs
    refine cond_bool (fun he => ?_) (fun he => ?_)
    · rw [hcp, he, if_pos rfl] at hb2
      simp -implicitDefEqProofs [e6, ho2]
      exact hk _ ⟨by simp [e3], by simp [e4], by simp [e5], by simp [hb2], by simp [e7], by simp [e12], by simp [e13], by simp [l12], by simp [l13]⟩
    · rw [hcp, he, if_neg (by simp), Nat.or_zero] at hb2
      exact hk _ ⟨by simp [e3], by simp [e4], by simp [e5], by simp [e6, hb2], by simp [e7], by simp [e12], by simp [e13], by simp [l12], by simp [l13]⟩
  clear e3 e4 e5 e6 e7 e12 e13 l12 l13
  rintro st ⟨e3, e4, e5, e6, e7, _, _, _, _⟩
  rw [hz3] at e6
  have hoff0 : offW w pp p.trim l b 0 = baseP w pp p.trim b := by funext j; simp [offW, shP]
  obtain ⟨S, hS, hS4⟩ : ∃ S : Nat, m.sheets = S ∧ m.sheets.toNat = S := ⟨m.sheets.toNat, hsn.1, rfl⟩
  rw [hS4] at hR
  simp -implicitDefEqProofs [e4, hS]
  refine loop_up S (fun k st => st.env 3 = PRef p ∧ st.env 4 = .ref m.cs ∧ st.env 5 = BRef b ∧ st.env 6 = I (setOf (offW w pp p.trim l b k) 11 : Nat) ∧ st.env 7 = .ref [LL l] ∧ st.env 108 = I S ∧ st.env 109 = I k) ?_ ?_
  · simp [e3, e4, e5, e6, e7, hoff0]
  clear e3 e4 e5 e6 e7
  rintro k st hk ⟨e3, e4, e5, e6, e7, e108, e109⟩
  simp -implicitDefEqProofs [e108, e109]
  refine cond_dec (fun hlt => ?_) (fun hge => ?_)
  · have hlt : k < S := by omega
    have d0 := c5 k 0 (by omega)
    have d1' := c5 k 1 (by omega)
    have hs0 := setOf_small (untP w l b.marks k 0)
    have hs1' := setOf_small (untP w l b.marks k 1)
    have df := fewer80_ok h104 h102 hs1' hs0
    rw [bitsL_setOf, bitsL_setOf] at df
    have hnext : setOf (offW w pp p.trim l b k) 11 ||| setOf (untP w l b.marks k (halfM w l b.marks k)) 11 = setOf (offW w pp p.trim l b (k + 1)) 11 := by
      rw [setOf_or]
      congr 1
      funext j
      unfold offW
      rw [shP_succ, Bool.or_assoc]
    have hhm : halfM w l b.marks k = if lessL (selT (untP w l b.marks k 1) 11) (selT (untP w l b.marks k 0) 11) then 1 else 0 := rfl
    have ho3 : ∀ n : Nat, n < 2048 → bitI .or .i64 ((setOf (offW w pp p.trim l b k) 11 : Nat) : Int) (n : Int) = ((setOf (offW w pp p.trim l b k) 11 ||| n : Nat) : Int) :=
      fun n hn => bitOr (Nat.lt_trans (setOf_small _) (by decide)) (Nat.lt_trans hn (by decide))
    generalize lessL (selT (untP w l b.marks k 1) 11) (selT (untP w l b.marks k 0) 11) = q at *
    simp -implicitDefEqProofs [e3, e4, e5, e7, e109]
    intro b15 hb15
    refine vCall_of d0 ?_
    simp -implicitDefEqProofs
    refine vCall_of d1' ?_
    simp -implicitDefEqProofs
    refine vCall_of df ?_
    simp -implicitDefEqProofs
    cases q with
    | true =>
      rw [if_pos rfl] at hhm
      rw [hhm, ] at hnext
      have ho4 := ho3 _ hs1'
      rw [hnext] at ho4
      simp -implicitDefEqProofs [e6, e109, ho4]
      exact ⟨i64 (by omega) (by omega), round_ok hlt ⟨by simp [e3], by simp [e4], by simp [e5], by simp, by simp [e7], by simp [e108], by simp⟩⟩
    | false =>
      rw [if_neg (by simp)] at hhm
      rw [hhm] at hnext
      have ho4 := ho3 _ hs0
      rw [hnext] at ho4
      simp -implicitDefEqProofs [e6, e109, ho4]
      exact ⟨i64 (by omega) (by omega), round_ok hlt ⟨by simp [e3], by simp [e4], by simp [e5], by simp, by simp [e7], by simp [e108], by simp⟩⟩
  · obtain rfl : k = S := by omega
    simp -implicitDefEqProofs [e6, r78, hR]
end Go.Proofs.Ytcfeipphmklakaa

namespace Go.Proofs.Ytcfeipphmklakaa
open Go.Avm

theorem mem_selT {q : Nat → Bool} {n j : Nat} : ((j : Int) ∈ selT q n) ↔ j < n ∧ q j = true := by
  unfold selT
  simp only [List.mem_map, List.mem_filter, List.mem_range]
  constructor
  · rintro ⟨i, ⟨h1, h2⟩, h3⟩
    have : i = j := Int.ofNat_inj.1 h3
    subst this; exact ⟨h1, h2⟩
  · rintro ⟨h1, h2⟩
    exact ⟨j, ⟨h1, h2⟩, rfl⟩

/-- The marks that are not true, of the first sheets. -/
def mkT (w : List Nat) (l : List Lf) (ms : List Mrk) (k : Nat) : List Int := (List.range k).flatMap fun (s : Nat) => selT (untP w l ms s (halfM w l ms s)) 11
end Go.Proofs.Ytcfeipphmklakaa

namespace Go.Proofs.Ytcfeipphmklakaa
open Go.Avm

/-- The way of making of a place among all. -/
def decM (P S n : Nat) : Mk := ⟨(n / (2 * S) / P : Nat), (n / (2 * S) % P : Nat), ((n / 2 % S : Nat) : Int) + 1, ((n % 2 : Nat) : Int) == 1⟩

set_option maxRecDepth 100000 in
theorem dec_cases : ((List.range 7).all fun F => (List.range 5).all fun P => (List.range 5).all fun S => decide ((List.range (F * P * S * 2)).map (decM P S) = rawF P S F)) = true := by decide +kernel

theorem dec_eq {F P S : Nat} (hF : F ≤ 6) (hP : P ≤ 4) (hS : S ≤ 4) : (List.range (F * P * S * 2)).map (decM P S) = rawF P S F := by
  have h1 := List.all_eq_true.1 dec_cases F (List.mem_range.2 (by omega))
  have h2 := List.all_eq_true.1 h1 P (List.mem_range.2 (by omega))
  have h3 := List.all_eq_true.1 h2 S (List.mem_range.2 (by omega))
  exact of_decide_eq_true h3

theorem tdiv_nat (a b : Nat) : ((a : Int).tdiv (b : Int)) = ((a / b : Nat) : Int) := by
  rw [Int.tdiv_eq_ediv_of_nonneg (by omega)]; rfl

def restM (p : Prs) (P S N n : Nat) : List (List AV) := ((((List.range N).drop n).map (decM P S)).filter (okM p)).map fun m => [m.av]

theorem restM_t {p : Prs} {P S N n : Nat} (hn : n < N) (h : okM p (decM P S n) = true) : restM p P S N n = [(decM P S n).av] :: restM p P S N (n + 1) := by
  unfold restM
  rw [drop_cons (l := List.range N) (k := n) (by simpa using hn)]
  simp [h]
theorem restM_f {p : Prs} {P S N n : Nat} (hn : n < N) (h : okM p (decM P S n) = false) : restM p P S N n = restM p P S N (n + 1) := by
  unfold restM
  rw [drop_cons (l := List.range N) (k := n) (by simpa using hn)]
  simp [h]
theorem restM_end (p : Prs) (P S N : Nat) : restM p P S N N = [] := by
  unfold restM; rw [List.drop_of_length_le (by simp)]; rfl

theorem makes98_ok (p : Prs) (he : errE p = 0) : PSeq Try.prog 98 [] [PRef p] ((makesL p).map fun m => [m.av]) := by
  have hp := right_of he
  have hF := hp.fmts
  have hP := hp.pprs
  obtain ⟨S, hS⟩ : ∃ S : Nat, p.sheets = S := ⟨p.sheets.toNat, by have := hp.sheets; omega⟩
  have hS4 := hp.sheets
  have hok : ∀ m, okM p m = (makeE p m == 0) := fun m => by unfold okM enterE; rw [if_neg (by simp [he])]
  have hm0 : makesL p = ((List.range (p.fmts.length * p.pprs.length * S * 2)).map (decM p.pprs.length S)).filter (okM p) := by
    unfold makesL
    rw [hS, Int.toNat_natCast, dec_eq (by omega) (by omega) (by omega)]
  have hm1 : ((makesL p).map fun m => [m.av]) = restM p p.pprs.length S (p.fmts.length * p.pprs.length * S * 2) 0 := by rw [hm0]; rfl
  rw [hm1]
  clear hm0 hm1
  refine pseq Try.func98 tr98 rs98 fn98 (by simp [Try.ntmps98]) fun l hfit => ?_
  obtain ⟨F, hFl⟩ : ∃ F, F = p.fmts.length := ⟨_, rfl⟩
  obtain ⟨P, hPl⟩ : ∃ P, P = p.pprs.length := ⟨_, rfl⟩
  rw [← hFl, ← hPl]
  rw [← hFl] at hF
  rw [← hPl] at hP
  have hFP : F * P ≤ 6 * 4 := Nat.mul_le_mul hF.2 hP.2
  have hFPS : F * P * S ≤ 24 * 4 := Nat.mul_le_mul hFP (by omega)
  obtain ⟨N, hN⟩ : ∃ N, N = F * P * S * 2 := ⟨_, rfl⟩
  rw [← hN]
  have q1 : (F : Int) * (P : Int) = ((F * P : Nat) : Int) := by simp
  have q2 : ((F * P : Nat) : Int) * (S : Int) = ((F * P * S : Nat) : Int) := by simp
  have q3 : ((F * P * S : Nat) : Int) * 2 = (N : Int) := by rw [hN]; simp
  generalize F * P * S = FPS at *
  generalize F * P = FP at *
  simp -implicitDefEqProofs [m98, ← hFl, ← hPl, hS]
  rw [q1, q2, q3]
  refine ⟨i64 (by omega) (by omega), i64 (by omega) (by omega), i64 (by omega) (by omega), ?_⟩
  refine loop_up N (fun n s => s.env 0 = .func (.yield l) [] [] ∧ s.env 1 = PRef p ∧ s.env 18 = I N ∧ s.env 19 = I n ∧ s.env gS = .ghost l (restM p P S N n) false) ?_ ?_
  · simp
  rintro n s hn ⟨e0, e1, e18, e19, eg⟩
  simp -implicitDefEqProofs [e18, e19]
  refine cond_dec (fun hlt => ?_) (fun hge => ?_)
  · have hlt : n < N := by omega
    have c := check95_ok p (decM P S n)
    have ht := restM_t (p := p) (P := P) (S := S) hlt
    have hf := restM_f (p := p) (P := P) (S := S) hlt
    rw [hok] at ht hf
    generalize makeE p (decM P S n) = e at *
    have u1 : (n : Int).tdiv 2 = ((n / 2 : Nat) : Int) := tdiv_nat n 2
    have u2 := tmod_nat (n / 2) S
    have u3 : (n : Int).tmod 2 = ((n % 2 : Nat) : Int) := tmod_nat n 2
    have u4 : (2 : Int) * (S : Int) = ((2 * S : Nat) : Int) := by simp
    have u5 := tdiv_nat n (2 * S)
    have u6 := tmod_nat (n / (2 * S)) P
    have u7 := tdiv_nat (n / (2 * S)) P
    have v5 : (n : Int) / ((2 * S : Nat) : Int) = ((n / (2 * S) : Nat) : Int) := rfl
    have v6 : ((n / (2 * S) : Nat) : Int) % (P : Int) = ((n / (2 * S) % P : Nat) : Int) := rfl
    have v7 : ((n / (2 * S) : Nat) : Int) / (P : Int) = ((n / (2 * S) / P : Nat) : Int) := rfl
    have hpne : ¬ p.pprs = [] := fun h => by rw [h] at hPl; simp at hPl; omega
    have b1 : n / 2 ≤ n := Nat.div_le_self _ _
    have b2 : n / 2 % S < S := Nat.mod_lt _ (by omega)
    have b3 : n / (2 * S) ≤ n := Nat.div_le_self _ _
    have b4 : n / (2 * S) / P ≤ n / (2 * S) := Nat.div_le_self _ _
    have b5 : n % 2 < 2 := Nat.mod_lt _ (by omega)
    have hS0 : ¬ S = 0 := by omega
    have hP0 : ¬ P = 0 := by omega
    have hD0 : ¬ 2 * S = 0 := by omega
    have hdec : decM P S n = ⟨(n / (2 * S) / P : Nat), (n / (2 * S) % P : Nat), ((n / 2 % S : Nat) : Int) + 1, ((n % 2 : Nat) : Int) == 1⟩ := rfl
    rw [hdec] at c ht
    have b6 : 2 * S ≤ 8 := by omega
    clear hdec hN
    generalize n / 2 = x1 at *
    generalize x1 % S = x2 at *
    generalize n % 2 = x3 at *
    generalize 2 * S = D at *
    generalize n / D = x4 at *
    generalize x4 % P = x5 at *
    generalize x4 / P = x6 at *
    simp -implicitDefEqProofs [e1, e19, hS, hS0, u1, u2, u3]
    refine ⟨i64 (by omega) (by omega), i64 (by omega) (by omega), fun b hb => ?_⟩
    rw [u4]
    simp -implicitDefEqProofs [e1, ← hFl, ← hPl, hS, hD0, hP0, u5, u6, u7, v5, v6, v7, hpne]
    refine ⟨i64 (by omega) (by omega), i64 (by omega) (by omega), i64 (by omega) (by omega), ?_⟩
    have c' : PCall Try.prog 95 [.agg [.slice 2 (p.fmts.map Fmt.av) 0, .slice 5 (p.pprs.map Ppr.av) 0, I p.trim, I S], (⟨x6, x5, (x2 : Int) + 1, (x3 : Int) == 1⟩ : Mk).av] (I e) := by rw [← hS]; exact c
    refine vCall_of c' ?_
    cases hz : (e == 0) with
    | true =>
      rw [ht hz] at eg
      simp -implicitDefEqProofs [hz, e0]
      simp at eg
      simp -implicitDefEqProofs [eg, e19]
      exact ⟨i64 (by omega) (by omega), round_ok hlt ⟨by simp [e0], by simp [e1], by simp [e18], by simp, by simp⟩⟩
    | false =>
      rw [hf hz] at eg
      simp -implicitDefEqProofs [hz, e19]
      refine ⟨i64 (by omega) (by omega), round_ok hlt ⟨by simp [e0], by simp [e1], by simp [e18], by simp, ?_⟩⟩
      simpa using eg
  · obtain rfl : n = N := by omega
    rw [restM_end] at eg
    simp at eg
    simp -implicitDefEqProofs [eg]
end Go.Proofs.Ytcfeipphmklakaa

