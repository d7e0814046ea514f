/- The resolved code of some functions, written by program, each held against the function by the kernel. How the leaves of a sheet lie, in plain words. Ways of making, and what makes a press right; the program's check, enter and folds. Rows of cells that are written, element by element; maps. The leaves of a gathering: the program's walk. -/
import Derived.Test.YtcfeipphmklakaaFC
import Derived.KernelRfl
namespace Go.Proofs.Ytcfeipphmklakaa
open Go.Avm

/- duodecimo/duodecimolaw02.FoldLeaves -/
def ann4 : Ann := { muts := [], nilsz := [], oid := [], frz := [], zero := [], ord := [], ap := [], own := [], yl := [], fz := [], imm := [] }
def m4 : MCode := (.seq (.reg [.boxI 3 (.t 0) 4, .boxI 4 (.t 1) 4, .boxI 5 (.t 2) 4, .asg 6 (.c (.lit (.bool false)))])
 (.seq (.reg [.load 16 (.t 3) (some 4), .load 17 (.t 4) (some 4), .call 18 20 [(.t 16), (.t 17)], .cpy 15 (.t 18), .ext 19 (.t 15) 0, .ext 20 (.t 15) 1, .asg 7 (.t 19), .asg 8 (.t 20)])
 (.seq (.reg [.load 22 (.t 3) (some 4), .load 23 (.t 4) (some 4), .call 24 21 [(.t 22), (.t 23)], .cpy 21 (.t 24), .ext 25 (.t 21) 0, .ext 26 (.t 21) 1, .asg 9 (.t 25), .asg 10 (.t 26)])
 (.seq (.seq (.reg [.cpy 27 (.t 7), .cpy 28 (.t 9), .call 29 22 [(.t 27), (.t 28)], .not 30 (.t 29), .cpy 31 (.t 30), .guard 31 false (some 32) (.cpy 32 (.t 8)), .guard 31 false (some 33) (.cpy 33 (.t 10)), .guard 31 false (some 34) (.bin 34 .neq (.t 32) (.t 33)), .pick 35 (.t 31) (.c (.lit (.bool true))) (.t 34)])
 (.cond (.t 35) (.seq (.reg [.asg 6 (.c (.lit (.bool false)))])
 .ret) .skip))
 (.seq (.reg [.load 37 (.t 3) (some 4), .load 38 (.t 4) (some 4), .addr 39 (.t 5) 0, .load 40 (.t 39) none, .addr 41 (.t 5) 2, .load 42 (.t 41) none, .call 43 23 [(.t 37), (.t 38), (.t 40), (.t 42)], .cpy 36 (.t 43), .ext 44 (.t 36) 0, .ext 45 (.t 36) 1, .asg 11 (.t 44), .asg 8 (.t 45)])
 (.seq (.reg [.load 47 (.t 3) (some 4), .load 48 (.t 4) (some 4), .addr 49 (.t 5) 0, .load 50 (.t 49) none, .addr 51 (.t 5) 2, .load 52 (.t 51) none, .call 53 24 [(.t 47), (.t 48), (.t 50), (.t 52)], .cpy 46 (.t 53), .ext 54 (.t 46) 0, .ext 55 (.t 46) 1, .asg 12 (.t 54), .asg 10 (.t 55)])
 (.seq (.seq (.reg [.cpy 56 (.t 11), .cpy 57 (.t 12), .call 58 25 [(.t 56), (.t 57)], .not 59 (.t 58), .cpy 60 (.t 59), .guard 60 false (some 61) (.cpy 61 (.t 8)), .guard 60 false (some 62) (.cpy 62 (.t 10)), .guard 60 false (some 63) (.bin 63 .neq (.t 61) (.t 62)), .pick 64 (.t 60) (.c (.lit (.bool true))) (.t 63)])
 (.cond (.t 64) (.seq (.reg [.asg 6 (.c (.lit (.bool false)))])
 .ret) .skip))
 (.seq (.reg [.load 66 (.t 3) (some 4), .load 67 (.t 4) (some 4), .addr 68 (.t 5) 1, .load 69 (.t 68) none, .call 70 26 [(.t 66), (.t 67), (.t 69)], .cpy 65 (.t 70), .ext 71 (.t 65) 0, .ext 72 (.t 65) 1, .ext 73 (.t 65) 2, .asg 11 (.t 71), .asg 13 (.t 72), .asg 8 (.t 73)])
 (.seq (.reg [.load 75 (.t 3) (some 4), .load 76 (.t 4) (some 4), .addr 77 (.t 5) 1, .load 78 (.t 77) none, .call 79 27 [(.t 75), (.t 76), (.t 78)], .cpy 74 (.t 79), .ext 80 (.t 74) 0, .ext 81 (.t 74) 1, .ext 82 (.t 74) 2, .asg 12 (.t 80), .asg 14 (.t 81), .asg 10 (.t 82)])
 (.seq (.seq (.reg [.cpy 83 (.t 11), .cpy 84 (.t 12), .call 85 25 [(.t 83), (.t 84)], .not 86 (.t 85), .cpy 87 (.t 86), .guard 87 false (some 88) (.cpy 88 (.t 13)), .guard 87 false (some 89) (.cpy 89 (.t 14)), .guard 87 false (some 90) (.bin 90 .neq (.t 88) (.t 89)), .pick 91 (.t 87) (.c (.lit (.bool true))) (.t 90), .cpy 92 (.t 91), .guard 92 false (some 93) (.cpy 93 (.t 8)), .guard 92 false (some 94) (.cpy 94 (.t 10)), .guard 92 false (some 95) (.bin 95 .neq (.t 93) (.t 94)), .pick 96 (.t 92) (.c (.lit (.bool true))) (.t 95)])
 (.cond (.t 96) (.seq (.reg [.asg 6 (.c (.lit (.bool false)))])
 .ret) .skip))
 (.seq (.reg [.load 98 (.t 3) (some 4), .load 99 (.t 4) (some 4), .addr 100 (.t 5) 3, .load 101 (.t 100) none, .call 102 28 [(.t 98), (.t 99), (.t 101)], .cpy 97 (.t 102), .ext 103 (.t 97) 0, .ext 104 (.t 97) 1, .asg 11 (.t 103), .asg 8 (.t 104)])
 (.seq (.reg [.load 106 (.t 3) (some 4), .load 107 (.t 4) (some 4), .addr 108 (.t 5) 3, .load 109 (.t 108) none, .call 110 29 [(.t 106), (.t 107), (.t 109)], .cpy 105 (.t 110), .ext 111 (.t 105) 0, .ext 112 (.t 105) 1, .asg 12 (.t 111), .asg 10 (.t 112)])
 (.seq (.reg [.cpy 113 (.t 11), .cpy 114 (.t 12), .call 115 25 [(.t 113), (.t 114)], .cpy 116 (.t 115), .guard 116 true (some 117) (.cpy 117 (.t 8)), .guard 116 true (some 118) (.cpy 118 (.t 10)), .guard 116 true (some 119) (.bin 119 .eql (.t 117) (.t 118)), .pick 120 (.t 116) (.t 119) (.c (.lit (.bool false))), .cpy 121 (.t 120), .guard 121 true (some 122) (.call 122 19 []), .pick 123 (.t 121) (.t 122) (.c (.lit (.bool false))), .asg 6 (.t 123)])
 .ret)))))))))))))
def r4 : List MRes := [.tmp 6]
theorem tr4 : Try.f4.body.bind (trC Try.prog ann4 Try.f4.ntmps) = some m4 := by kernel_rfl
theorem rs4 : trRes Try.prog Try.f4.results.toList = some r4 := by kernel_rfl
theorem fn4 : isFunc Try.prog 4 = true := by kernel_rfl

/- duodecimo/duodecimoref02.Leaves -/
def ann21 : Ann := { muts := [], nilsz := [(4, 5)], oid := [], frz := [], zero := [], ord := [], ap := [], own := [], yl := [], fz := [], imm := [] }
def m21 : MCode := (.seq (.reg [.boxI 2 (.t 0) 4, .boxI 3 (.t 1) 4, .asgNil 4 5, .asg 5 (.c (.lit (.int .i64 0)))])
 (.seq (.reg [.load 7 (.t 2) (some 4), .load 8 (.t 3) (some 4), .call 9 68 [(.t 7), (.t 8)], .asg 6 (.t 9)])
 (.seq (.seq (.reg [.cpy 10 (.t 6), .bin 11 .neq (.t 10) (.c (.lit (.int .i64 0)))])
 (.cond (.t 11) (.seq (.reg [.cpy 12 (.t 6), .asgNil 4 5, .asg 5 (.t 12)])
 .ret) .skip))
 (.seq (.reg [.load 13 (.t 2) (some 4), .load 14 (.t 3) (some 4), .call 15 69 [(.t 13), (.t 14)], .asg 4 (.t 15), .asg 5 (.c (.lit (.int .i64 0)))])
 .ret))))
def r21 : List MRes := [.tmp 4, .tmp 5]
theorem tr21 : Try.f21.body.bind (trC Try.prog ann21 Try.f21.ntmps) = some m21 := by kernel_rfl
theorem rs21 : trRes Try.prog Try.f21.results.toList = some r21 := by kernel_rfl
theorem fn21 : isFunc Try.prog 21 = true := by kernel_rfl

/- duodecimo/duodecimoref02.Forme -/
def ann24 : Ann := { muts := [], nilsz := [(8, 1), (13, 1)], oid := [], frz := [], zero := [(84, [(.lit (.int .i64 0))])], ord := [], ap := [], own := [], yl := [], fz := [], imm := [] }
def m24 : MCode := (.seq (.reg [.boxI 4 (.t 0) 4, .boxI 5 (.t 1) 4, .asgNil 8 1, .asg 9 (.c (.lit (.int .i64 0)))])
 (.seq (.reg [.load 18 (.t 4) (some 4), .load 19 (.t 5) (some 4), .call 20 68 [(.t 18), (.t 19)], .asg 10 (.t 20)])
 (.seq (.seq (.reg [.cpy 21 (.t 10), .bin 22 .eql (.t 21) (.c (.lit (.int .i64 0))), .cpy 23 (.t 22), .guard 23 true (some 24) (.cpy 24 (.t 2)), .guard 23 true (some 25) (.addr 25 (.t 5) 2), .guard 23 true (some 26) (.load 26 (.t 25) none), .guard 23 true (some 27) (.bin 27 .sub (.t 26) (.c (.lit (.int .i64 1)))), .guard 23 true (some 28) (.call 28 60 [(.t 24), (.c (.lit (.int .i64 0))), (.t 27)]), .guard 23 true (some 29) (.not 29 (.t 28)), .pick 30 (.t 23) (.t 29) (.c (.lit (.bool false)))])
 (.cond (.t 30) (.reg [.asg 10 (.c (.lit (.int .i64 4)))]) .skip))
 (.seq (.seq (.reg [.cpy 31 (.t 10), .bin 32 .neq (.t 31) (.c (.lit (.int .i64 0)))])
 (.cond (.t 32) (.seq (.reg [.cpy 33 (.t 10), .asgNil 8 1, .asg 9 (.t 33)])
 .ret) .skip))
 (.seq (.reg [.addr 34 (.t 4) 0, .load 35 (.t 34) none, .addr 36 (.t 5) 0, .load 37 (.t 36) none, .idxS 38 (.t 35) (.t 37) 2, .addr 39 (.t 38) 1, .load 40 (.t 39) none, .asg 11 (.t 40)])
 (.seq (.reg [.load 41 (.t 4) (some 4), .load 42 (.t 5) (some 4), .call 43 69 [(.t 41), (.t 42)], .asg 12 (.t 43)])
 (.seq (.reg [.asgNil 13 1])
 (.seq (.seq (.reg [.asg 14 (.c (.lit (.int .i64 0)))])
 (.block 0 (.loop (.seq (.seq (.reg [.cpy 44 (.t 14), .cpy 45 (.t 11), .call 46 72 [(.t 45), (.c (.lit (.int .u8 121)))], .bin 47 .lss (.t 44) (.t 46)])
 (.cond (.t 47) .skip (.exit 0)))
 (.seq (.block 1 (.seq (.reg [.asg 15 (.c (.lit (.int .i64 0)))])
 (.block 2 (.loop (.seq (.seq (.reg [.cpy 50 (.t 15), .cpy 51 (.t 11), .call 52 72 [(.t 51), (.c (.lit (.int .u8 120)))], .bin 53 .lss (.t 50) (.t 52)])
 (.cond (.t 53) .skip (.exit 2)))
 (.seq (.block 3 (.seq (.reg [.cpy 56 (.t 12), .cpy 57 (.t 2), .cpy 58 (.t 15), .cpy 59 (.t 14), .call 60 73 [(.t 56), (.t 57), (.t 58), (.t 59)], .asg 16 (.t 60)])
 (.seq (.seq (.reg [.cpy 61 (.t 16), .bin 62 .lss (.t 61) (.c (.lit (.int .i64 0)))])
 (.cond (.t 62) (.exit 3) .skip))
 (.seq (.reg [.cpy 63 (.t 16), .bin 64 .mul (.c (.lit (.int .i64 2))) (.t 63), .bin 65 .add (.t 64) (.c (.lit (.int .i64 1))), .asg 17 (.t 65)])
 (.seq (.seq (.reg [.cpy 66 (.t 12), .cpy 67 (.t 16), .idxS 68 (.t 66) (.t 67) 5, .addr 69 (.t 68) 3, .load 70 (.t 69) none, .cpy 71 (.t 3), .binB 72 true (.t 70) (.t 71)])
 (.cond (.t 72) (.reg [.cpy 73 (.t 17), .bin 74 .add (.t 73) (.c (.lit (.int .i64 1))), .asg 17 (.t 74)]) .skip))
 (.seq (.seq (.reg [.cpy 75 (.t 12), .cpy 76 (.t 16), .idxS 77 (.t 75) (.t 76) 5, .addr 78 (.t 77) 4, .load 79 (.t 78) none])
 (.cond (.t 79) (.reg [.cpy 80 (.t 17), .neg 81 (.t 80), .asg 17 (.t 81)]) .skip))
 (.reg [.cpy 82 (.t 13), .cpy 83 (.t 17), .mkS 84 1 1 [(.lit (.int .i64 0))] [(0, (.t 83))], .app 85 (.t 82) (.t 84) 1 8, .asg 13 (.t 85)])))))))
 (.reg [.cpy 54 (.t 15), .bin 55 .add (.t 54) (.c (.lit (.int .i64 1))), .asg 15 (.t 55)])))))))
 (.reg [.cpy 48 (.t 14), .bin 49 .add (.t 48) (.c (.lit (.int .i64 1))), .asg 14 (.t 49)]))))))
 (.seq (.reg [.cpy 86 (.t 13), .asg 8 (.t 86), .asg 9 (.c (.lit (.int .i64 0)))])
 .ret)))))))))
def r24 : List MRes := [.tmp 8, .tmp 9]
theorem tr24 : Try.f24.body.bind (trC Try.prog ann24 Try.f24.ntmps) = some m24 := by kernel_rfl
theorem rs24 : trRes Try.prog Try.f24.results.toList = some r24 := by kernel_rfl
theorem fn24 : isFunc Try.prog 24 = true := by kernel_rfl

/- duodecimo/duodecimoref02.Mates -/
def ann27 : Ann := { muts := [], nilsz := [(6, 1), (11, 1)], oid := [], frz := [], zero := [(52, [(.lit (.int .i64 0))])], ord := [(11, [0, 1, 2, 3, 4, 5, 6, 7, 8, 9, 10, 11, 12, 13, 14, 15])], ap := [], own := [], yl := [], fz := [], imm := [] }
def m27 : MCode := (.seq (.reg [.boxI 3 (.t 0) 4, .boxI 4 (.t 1) 4, .asgNil 6 1, .asg 7 (.c (.lit (.int .i64 0))), .asg 8 (.c (.lit (.int .i64 0)))])
 (.seq (.reg [.load 13 (.t 3) (some 4), .load 14 (.t 4) (some 4), .call 15 68 [(.t 13), (.t 14)], .asg 9 (.t 15)])
 (.seq (.seq (.reg [.cpy 16 (.t 9), .bin 17 .neq (.t 16) (.c (.lit (.int .i64 0)))])
 (.cond (.t 17) (.seq (.reg [.cpy 18 (.t 9), .asgNil 6 1, .asg 7 (.c (.lit (.int .i64 0))), .asg 8 (.t 18)])
 .ret) .skip))
 (.seq (.reg [.load 19 (.t 3) (some 4), .load 20 (.t 4) (some 4), .call 21 69 [(.t 19), (.t 20)], .asg 10 (.t 21)])
 (.seq (.seq (.reg [.cpy 22 (.t 2), .cpy 23 (.t 10), .len 24 (.t 23), .bin 25 .sub (.t 24) (.c (.lit (.int .i64 1))), .call 26 60 [(.t 22), (.c (.lit (.int .i64 0))), (.t 25)], .not 27 (.t 26)])
 (.cond (.t 27) (.seq (.reg [.asgNil 6 1, .asg 7 (.c (.lit (.int .i64 0))), .asg 8 (.c (.lit (.int .i64 4)))])
 .ret) .skip))
 (.seq (.reg [.asgNil 11 1])
 (.seq (.seq (.reg [.asg 12 (.c (.lit (.int .i64 0)))])
 (.block 0 (.loop (.seq (.seq (.reg [.cpy 28 (.t 12), .cpy 29 (.t 10), .len 30 (.t 29), .bin 31 .lss (.t 28) (.t 30)])
 (.cond (.t 31) .skip (.exit 0)))
 (.seq (.block 1 (.seq (.reg [.cpy 34 (.t 12), .cpy 35 (.t 2), .bin 36 .neq (.t 34) (.t 35), .cpy 37 (.t 36), .guard 37 true (some 38) (.cpy 38 (.t 10)), .guard 37 true (some 39) (.cpy 39 (.t 12)), .guard 37 true (some 40) (.idxS 40 (.t 38) (.t 39) 5), .guard 37 true (some 41) (.addr 41 (.t 40) 0), .guard 37 true (some 42) (.load 42 (.t 41) none), .guard 37 true (some 43) (.cpy 43 (.t 10)), .guard 37 true (some 44) (.cpy 44 (.t 2)), .guard 37 true (some 45) (.idxS 45 (.t 43) (.t 44) 5), .guard 37 true (some 46) (.addr 46 (.t 45) 0), .guard 37 true (some 47) (.load 47 (.t 46) none), .guard 37 true (some 48) (.bin 48 .eql (.t 42) (.t 47)), .pick 49 (.t 37) (.t 48) (.c (.lit (.bool false)))])
 (.cond (.t 49) (.reg [.cpy 50 (.t 11), .cpy 51 (.t 12), .mkS 52 1 1 [(.lit (.int .i64 0))] [(0, (.t 51))], .app 53 (.t 50) (.t 52) 1 8, .asg 11 (.t 53)]) .skip)))
 (.reg [.cpy 32 (.t 12), .bin 33 .add (.t 32) (.c (.lit (.int .i64 1))), .asg 12 (.t 33)]))))))
 (.seq (.reg [.cpy 54 (.t 11), .cpy 55 (.t 10), .len 56 (.t 55), .bin 57 .sub (.t 56) (.c (.lit (.int .i64 1))), .cpy 58 (.t 2), .bin 59 .sub (.t 57) (.t 58), .asg 6 (.t 54), .asg 7 (.t 59), .asg 8 (.c (.lit (.int .i64 0)))])
 .ret))))))))
def r27 : List MRes := [.tmp 6, .tmp 7, .tmp 8]
theorem tr27 : Try.f27.body.bind (trC Try.prog ann27 Try.f27.ntmps) = some m27 := by kernel_rfl
theorem rs27 : trRes Try.prog Try.f27.results.toList = some r27 := by kernel_rfl
theorem fn27 : isFunc Try.prog 27 = true := by kernel_rfl

/- duodecimo/duodecimoref02.Marked -/
def ann29 : Ann := { muts := [], nilsz := [(6, 1), (11, 1)], oid := [], frz := [], zero := [(70, [(.lit (.int .i64 0))])], ord := [(16, [0, 1, 2, 3, 4, 5, 6, 7, 8, 9, 10, 11, 12, 13, 14])], ap := [], own := [], yl := [], fz := [], imm := [] }
def m29 : MCode := (.seq (.reg [.boxI 3 (.t 0) 4, .boxI 4 (.t 1) 4, .asgNil 6 1, .asg 7 (.c (.lit (.int .i64 0)))])
 (.seq (.reg [.load 13 (.t 3) (some 4), .load 14 (.t 4) (some 4), .call 15 68 [(.t 13), (.t 14)], .asg 8 (.t 15)])
 (.seq (.seq (.reg [.cpy 16 (.t 8), .bin 17 .eql (.t 16) (.c (.lit (.int .i64 0))), .cpy 18 (.t 17), .guard 18 true (some 19) (.cpy 19 (.t 2)), .guard 18 true (some 20) (.len 20 (.t 19)), .guard 18 true (some 21) (.addr 21 (.t 4) 2), .guard 18 true (some 22) (.load 22 (.t 21) none), .guard 18 true (some 23) (.bin 23 .neq (.t 20) (.t 22)), .pick 24 (.t 18) (.t 23) (.c (.lit (.bool false)))])
 (.cond (.t 24) (.reg [.asg 8 (.c (.lit (.int .i64 3)))]) .skip))
 (.seq (.seq (.reg [.asg 9 (.c (.lit (.int .i64 0)))])
 (.block 0 (.loop (.seq (.seq (.reg [.cpy 25 (.t 9), .cpy 26 (.t 2), .len 27 (.t 26), .bin 28 .lss (.t 25) (.t 27), .cpy 29 (.t 28), .guard 29 true (some 30) (.cpy 30 (.t 8)), .guard 29 true (some 31) (.bin 31 .eql (.t 30) (.c (.lit (.int .i64 0)))), .pick 32 (.t 29) (.t 31) (.c (.lit (.bool false)))])
 (.cond (.t 32) .skip (.exit 0)))
 (.seq (.block 1 (.seq (.reg [.cpy 35 (.t 2), .cpy 36 (.t 9), .idxS 37 (.t 35) (.t 36) 1, .load 38 (.t 37) none, .call 39 60 [(.t 38), (.c (.lit (.int .i64 0))), (.c (.lit (.int .i64 1)))], .not 40 (.t 39)])
 (.cond (.t 40) (.reg [.asg 8 (.c (.lit (.int .i64 7)))]) .skip)))
 (.reg [.cpy 33 (.t 9), .bin 34 .add (.t 33) (.c (.lit (.int .i64 1))), .asg 9 (.t 34)]))))))
 (.seq (.seq (.reg [.cpy 41 (.t 8), .bin 42 .neq (.t 41) (.c (.lit (.int .i64 0)))])
 (.cond (.t 42) (.seq (.reg [.cpy 43 (.t 8), .asgNil 6 1, .asg 7 (.t 43)])
 .ret) .skip))
 (.seq (.reg [.load 44 (.t 3) (some 4), .load 45 (.t 4) (some 4), .call 46 69 [(.t 44), (.t 45)], .asg 10 (.t 46)])
 (.seq (.reg [.asgNil 11 1])
 (.seq (.seq (.reg [.asg 12 (.c (.lit (.int .i64 0)))])
 (.block 2 (.loop (.seq (.seq (.reg [.cpy 47 (.t 12), .cpy 48 (.t 10), .len 49 (.t 48), .bin 50 .lss (.t 47) (.t 49)])
 (.cond (.t 50) .skip (.exit 2)))
 (.seq (.block 3 (.seq (.reg [.load 53 (.t 3) (some 4), .load 54 (.t 4) (some 4), .cpy 55 (.t 10), .cpy 56 (.t 12), .idxS 57 (.t 55) (.t 56) 5, .load 58 (.t 57) (some 5), .cpy 59 (.t 2), .cpy 60 (.t 10), .cpy 61 (.t 12), .idxS 62 (.t 60) (.t 61) 5, .addr 63 (.t 62) 0, .load 64 (.t 63) none, .idxS 65 (.t 59) (.t 64) 1, .load 66 (.t 65) none, .call 67 75 [(.t 53), (.t 54), (.t 58), (.t 66)]])
 (.cond (.t 67) (.reg [.cpy 68 (.t 11), .cpy 69 (.t 12), .mkS 70 1 1 [(.lit (.int .i64 0))] [(0, (.t 69))], .app 71 (.t 68) (.t 70) 1 8, .asg 11 (.t 71)]) .skip)))
 (.reg [.cpy 51 (.t 12), .bin 52 .add (.t 51) (.c (.lit (.int .i64 1))), .asg 12 (.t 52)]))))))
 (.seq (.reg [.cpy 72 (.t 11), .asg 6 (.t 72), .asg 7 (.c (.lit (.int .i64 0)))])
 .ret)))))))))
def r29 : List MRes := [.tmp 6, .tmp 7]
theorem tr29 : Try.f29.body.bind (trC Try.prog ann29 Try.f29.ntmps) = some m29 := by kernel_rfl
theorem rs29 : trRes Try.prog Try.f29.results.toList = some r29 := by kernel_rfl
theorem fn29 : isFunc Try.prog 29 = true := by kernel_rfl

/- duodecimo/duodecimoref02.Make -/
def ann68 : Ann := { muts := [], nilsz := [], oid := [], frz := [], zero := [], ord := [], ap := [], own := [], yl := [], fz := [], imm := [] }
def m68 : MCode := (.seq (.reg [.boxI 2 (.t 0) 4, .boxI 3 (.t 1) 4, .asg 4 (.c (.lit (.int .i64 0)))])
 (.seq (.reg [.load 9 (.t 2) (some 4), .call 10 16 [(.t 9)], .cpy 8 (.t 10), .ext 11 (.t 8) 0, .ext 12 (.t 8) 1, .ext 13 (.t 8) 2, .asg 5 (.t 11), .asg 6 (.t 12), .asg 7 (.t 13)])
 (.seq (.seq (.reg [.cpy 14 (.t 7), .bin 15 .neq (.t 14) (.c (.lit (.int .i64 0)))])
 (.cond (.t 15) (.seq (.reg [.cpy 16 (.t 7), .asg 4 (.t 16)])
 .ret) .skip))
 (.seq (.seq (.reg [.addr 17 (.t 3) 0, .load 18 (.t 17) none, .addr 19 (.t 2) 0, .load 20 (.t 19) none, .len 21 (.t 20), .bin 22 .sub (.t 21) (.c (.lit (.int .i64 1))), .call 23 60 [(.t 18), (.c (.lit (.int .i64 0))), (.t 22)], .not 24 (.t 23), .cpy 25 (.t 24), .guard 25 false (some 26) (.addr 26 (.t 3) 1), .guard 25 false (some 27) (.load 27 (.t 26) none), .guard 25 false (some 28) (.addr 28 (.t 2) 1), .guard 25 false (some 29) (.load 29 (.t 28) none), .guard 25 false (some 30) (.len 30 (.t 29)), .guard 25 false (some 31) (.bin 31 .sub (.t 30) (.c (.lit (.int .i64 1)))), .guard 25 false (some 32) (.call 32 60 [(.t 27), (.c (.lit (.int .i64 0))), (.t 31)]), .guard 25 false (some 33) (.not 33 (.t 32)), .pick 34 (.t 25) (.c (.lit (.bool true))) (.t 33)])
 (.cond (.t 34) (.seq (.reg [.asg 4 (.c (.lit (.int .i64 4)))])
 .ret) .skip))
 (.seq (.seq (.reg [.addr 35 (.t 3) 2, .load 36 (.t 35) none, .addr 37 (.t 2) 3, .load 38 (.t 37) none, .call 39 60 [(.t 36), (.c (.lit (.int .i64 1))), (.t 38)], .not 40 (.t 39)])
 (.cond (.t 40) (.seq (.reg [.asg 4 (.c (.lit (.int .i64 7)))])
 .ret) .skip))
 (.seq (.seq (.reg [.addr 41 (.t 3) 3, .load 42 (.t 41) none, .cpy 43 (.t 42), .guard 43 true (some 44) (.addr 44 (.t 3) 2), .guard 43 true (some 45) (.load 45 (.t 44) none), .guard 43 true (some 46) (.bin 46 .neq (.t 45) (.c (.lit (.int .i64 1)))), .guard 43 true (some 47) (.cpy 47 (.t 46)), .guard 47 false (some 48) (.addr 48 (.t 2) 0), .guard 47 false (some 49) (.load 49 (.t 48) none), .guard 47 false (some 50) (.addr 50 (.t 3) 0), .guard 47 false (some 51) (.load 51 (.t 50) none), .guard 47 false (some 52) (.idxS 52 (.t 49) (.t 51) 2), .guard 47 false (some 53) (.addr 53 (.t 52) 1), .guard 47 false (some 54) (.load 54 (.t 53) none), .guard 47 false (some 55) (.lenStr 55 (.t 54)), .guard 47 false (some 56) (.bin 56 .lss (.t 55) (.c (.lit (.int .i64 2)))), .guard 43 true (some 57) (.pick 57 (.t 47) (.c (.lit (.bool true))) (.t 56)), .pick 58 (.t 43) (.t 57) (.c (.lit (.bool false)))])
 (.cond (.t 58) (.seq (.reg [.asg 4 (.c (.lit (.int .i64 2)))])
 .ret) .skip))
 (.seq (.reg [.asg 4 (.c (.lit (.int .i64 0)))])
 .ret)))))))
def r68 : List MRes := [.tmp 4]
theorem tr68 : Try.f68.body.bind (trC Try.prog ann68 Try.f68.ntmps) = some m68 := by kernel_rfl
theorem rs68 : trRes Try.prog Try.f68.results.toList = some r68 := by kernel_rfl
theorem fn68 : isFunc Try.prog 68 = true := by kernel_rfl

/- duodecimo/duodecimoref02.All -/
def ann69 : Ann := { muts := [], nilsz := [(4, 5), (8, 5), (9, 5), (11, 5)], oid := [], frz := [], zero := [(82, [(.lit (.int .i64 0)), (.lit (.int .i64 0)), (.lit (.int .i64 0)), (.lit (.bool false)), (.lit (.bool false))]), (83, [(.lit (.int .i64 0)), (.lit (.int .i64 0)), (.lit (.int .i64 0)), (.lit (.bool false)), (.lit (.bool false))]), (92, [(.lit (.int .i64 0)), (.lit (.int .i64 0)), (.lit (.int .i64 0)), (.lit (.bool false)), (.lit (.bool false))])], ord := [(15, [0, 1, 2, 3, 4, 5, 6, 7, 8, 9, 10, 11, 12, 13, 14, 15, 16, 17, 18, 19, 20, 21, 22, 23, 24, 25, 26, 27, 28, 29, 30, 31])], ap := [], own := [11], yl := [], fz := [], imm := [] }
def m69 : MCode := (.seq (.reg [.boxI 2 (.t 0) 4, .boxI 3 (.t 1) 4, .asgNil 4 5])
 (.seq (.reg [.addr 14 (.t 2) 0, .load 15 (.t 14) none, .addr 16 (.t 3) 0, .load 17 (.t 16) none, .idxS 18 (.t 15) (.t 17) 2, .addr 19 (.t 18) 1, .load 20 (.t 19) none, .asg 5 (.t 20)])
 (.seq (.reg [.cpy 21 (.t 5), .cpy 22 (.t 5), .lenStr 23 (.t 22), .bin 24 .sub (.t 23) (.c (.lit (.int .i64 1))), .idxStr 25 (.t 21) (.t 24), .asg 6 (.t 25)])
 (.seq (.reg [.cpy 26 (.t 5), .addr 27 (.t 3) 3, .load 28 (.t 27) none, .call 29 97 [(.t 26), (.t 28)], .asg 7 (.t 29)])
 (.seq (.reg [.asgNil 8 5, .asgNil 9 5])
 (.seq (.seq (.reg [.asg 10 (.c (.lit (.int .i64 0)))])
 (.block 0 (.loop (.seq (.seq (.reg [.cpy 30 (.t 10), .addr 31 (.t 3) 2, .load 32 (.t 31) none, .bin 33 .lss (.t 30) (.t 32)])
 (.cond (.t 33) .skip (.exit 0)))
 (.seq (.block 1 (.seq (.reg [.asgNil 11 5])
 (.seq (.seq (.reg [.asg 12 (.c (.lit (.int .i64 0)))])
 (.block 2 (.loop (.seq (.seq (.reg [.cpy 36 (.t 12), .cpy 37 (.t 7), .len 38 (.t 37), .bin 39 .lss (.t 36) (.t 38)])
 (.cond (.t 39) .skip (.exit 2)))
 (.seq (.block 3 (.seq (.reg [.cpy 42 (.t 7), .cpy 43 (.t 12), .idxS 44 (.t 42) (.t 43) 4, .addr 45 (.t 44) 2, .load 46 (.t 45) none, .asg 13 (.t 46)])
 (.seq (.seq (.reg [.cpy 47 (.t 6), .bin 48 .eql (.t 47) (.c (.lit (.int .u8 120)))])
 (.cond (.t 48) (.reg [.cpy 49 (.t 7), .cpy 50 (.t 12), .idxS 51 (.t 49) (.t 50) 4, .addr 52 (.t 51) 3, .load 53 (.t 52) none, .asg 13 (.t 53)]) .skip))
 (.reg [.cpy 54 (.t 11), .cpy 55 (.t 10), .cpy 56 (.t 7), .cpy 57 (.t 12), .idxS 58 (.t 56) (.t 57) 4, .addr 59 (.t 58) 0, .load 60 (.t 59) none, .cpy 61 (.t 7), .cpy 62 (.t 12), .idxS 63 (.t 61) (.t 62) 4, .addr 64 (.t 63) 1, .load 65 (.t 64) none, .cpy 66 (.t 7), .cpy 67 (.t 12), .idxS 68 (.t 66) (.t 67) 4, .addr 69 (.t 68) 2, .load 70 (.t 69) none, .cpy 71 (.t 7), .cpy 72 (.t 12), .idxS 73 (.t 71) (.t 72) 4, .addr 74 (.t 73) 3, .load 75 (.t 74) none, .bin 76 .add (.t 70) (.t 75), .bin 77 .rem (.t 76) (.c (.lit (.int .i64 2))), .bin 78 .eql (.t 77) (.c (.lit (.int .i64 1))), .cpy 79 (.t 13), .bin 80 .rem (.t 79) (.c (.lit (.int .i64 2))), .bin 81 .eql (.t 80) (.c (.lit (.int .i64 1))), .build 82 [(.lit (.int .i64 0)), (.lit (.int .i64 0)), (.lit (.int .i64 0)), (.lit (.bool false)), (.lit (.bool false))] [(0, 1, (.t 55)), (1, 1, (.t 60)), (2, 1, (.t 65)), (3, 1, (.t 78)), (4, 1, (.t 81))], .mkS 83 1 5 [(.lit (.int .i64 0)), (.lit (.int .i64 0)), (.lit (.int .i64 0)), (.lit (.bool false)), (.lit (.bool false))] [(0, (.t 82))], .app 84 (.t 54) (.t 83) 5 32, .asg 11 (.t 84)]))))
 (.reg [.cpy 40 (.t 12), .bin 41 .add (.t 40) (.c (.lit (.int .i64 1))), .asg 12 (.t 41)]))))))
 (.seq (.reg [.cpy 85 (.t 8), .cpy 86 (.t 11), .cpy 87 (.t 11), .len 88 (.t 87), .bin 89 .quo (.t 88) (.c (.lit (.int .i64 2))), .slcHi 90 (.t 86) (.t 89) 5, .app 91 (.t 85) (.t 90) 5 32, .asg 8 (.t 91)])
 (.reg [.mkS 92 0 5 [(.lit (.int .i64 0)), (.lit (.int .i64 0)), (.lit (.int .i64 0)), (.lit (.bool false)), (.lit (.bool false))] [], .cpy 93 (.t 11), .cpy 94 (.t 11), .len 95 (.t 94), .bin 96 .quo (.t 95) (.c (.lit (.int .i64 2))), .slcLo 97 (.t 93) (.t 96) 5, .app 98 (.t 92) (.t 97) 5 32, .cpy 99 (.t 9), .app 100 (.t 98) (.t 99) 5 32, .asg 9 (.t 100)])))))
 (.reg [.cpy 34 (.t 10), .bin 35 .add (.t 34) (.c (.lit (.int .i64 1))), .asg 10 (.t 35)]))))))
 (.seq (.reg [.cpy 101 (.t 8), .cpy 102 (.t 9), .app 103 (.t 101) (.t 102) 5 32, .asg 4 (.t 103)])
 .ret)))))))
def r69 : List MRes := [.tmp 4]
theorem tr69 : Try.f69.body.bind (trC Try.prog ann69 Try.f69.ntmps) = some m69 := by kernel_rfl
theorem rs69 : trRes Try.prog Try.f69.results.toList = some r69 := by kernel_rfl
theorem fn69 : isFunc Try.prog 69 = true := by kernel_rfl

/- duodecimo/duodecimoref02.times -/
def ann72 : Ann := { muts := [], nilsz := [], oid := [], frz := [], zero := [], ord := [], ap := [], own := [], yl := [], fz := [], imm := [] }
def m72 : MCode := (.seq (.reg [.asg 4 (.c (.lit (.int .i64 0)))])
 (.seq (.reg [.asg 5 (.c (.lit (.int .i64 1)))])
 (.seq (.seq (.reg [.asg 6 (.c (.lit (.int .i64 0)))])
 (.block 0 (.loop (.seq (.seq (.reg [.cpy 7 (.t 6), .cpy 8 (.t 0), .lenStr 9 (.t 8), .bin 10 .lss (.t 7) (.t 9)])
 (.cond (.t 10) .skip (.exit 0)))
 (.seq (.block 1 (.seq (.reg [.cpy 13 (.t 0), .cpy 14 (.t 6), .idxStr 15 (.t 13) (.t 14), .cpy 16 (.t 1), .bin 17 .eql (.t 15) (.t 16)])
 (.cond (.t 17) (.reg [.cpy 18 (.t 5), .bin 19 .mul (.t 18) (.c (.lit (.int .i64 2))), .asg 5 (.t 19)]) .skip)))
 (.reg [.cpy 11 (.t 6), .bin 12 .add (.t 11) (.c (.lit (.int .i64 1))), .asg 6 (.t 12)]))))))
 (.seq (.reg [.cpy 20 (.t 5), .asg 4 (.t 20)])
 .ret))))
def r72 : List MRes := [.tmp 4]
theorem tr72 : Try.f72.body.bind (trC Try.prog ann72 Try.f72.ntmps) = some m72 := by kernel_rfl
theorem rs72 : trRes Try.prog Try.f72.results.toList = some r72 := by kernel_rfl
theorem fn72 : isFunc Try.prog 72 = true := by kernel_rfl

/- duodecimo/duodecimoref02.at -/
def ann73 : Ann := { muts := [], nilsz := [], oid := [], frz := [], zero := [], ord := [], ap := [], own := [], yl := [], fz := [], imm := [] }
def m73 : MCode := (.seq (.reg [.asg 8 (.c (.lit (.int .i64 0)))])
 (.seq (.seq (.reg [.asg 9 (.c (.lit (.int .i64 0)))])
 (.block 0 (.loop (.seq (.seq (.reg [.cpy 10 (.t 9), .cpy 11 (.t 0), .len 12 (.t 11), .bin 13 .lss (.t 10) (.t 12)])
 (.cond (.t 13) .skip (.exit 0)))
 (.seq (.block 1 (.seq (.reg [.cpy 16 (.t 0), .cpy 17 (.t 9), .idxS 18 (.t 16) (.t 17) 5, .addr 19 (.t 18) 0, .load 20 (.t 19) none, .cpy 21 (.t 1), .bin 22 .eql (.t 20) (.t 21), .cpy 23 (.t 22), .guard 23 true (some 24) (.cpy 24 (.t 0)), .guard 23 true (some 25) (.cpy 25 (.t 9)), .guard 23 true (some 26) (.idxS 26 (.t 24) (.t 25) 5), .guard 23 true (some 27) (.addr 27 (.t 26) 1), .guard 23 true (some 28) (.load 28 (.t 27) none), .guard 23 true (some 29) (.cpy 29 (.t 2)), .guard 23 true (some 30) (.bin 30 .eql (.t 28) (.t 29)), .pick 31 (.t 23) (.t 30) (.c (.lit (.bool false))), .cpy 32 (.t 31), .guard 32 true (some 33) (.cpy 33 (.t 0)), .guard 32 true (some 34) (.cpy 34 (.t 9)), .guard 32 true (some 35) (.idxS 35 (.t 33) (.t 34) 5), .guard 32 true (some 36) (.addr 36 (.t 35) 2), .guard 32 true (some 37) (.load 37 (.t 36) none), .guard 32 true (some 38) (.cpy 38 (.t 3)), .guard 32 true (some 39) (.bin 39 .eql (.t 37) (.t 38)), .pick 40 (.t 32) (.t 39) (.c (.lit (.bool false)))])
 (.cond (.t 40) (.seq (.reg [.cpy 41 (.t 9), .asg 8 (.t 41)])
 .ret) .skip)))
 (.reg [.cpy 14 (.t 9), .bin 15 .add (.t 14) (.c (.lit (.int .i64 1))), .asg 9 (.t 15)]))))))
 (.seq (.reg [.asg 8 (.c (.lit (.int .i64 (-1))))])
 .ret)))
def r73 : List MRes := [.tmp 8]
theorem tr73 : Try.f73.body.bind (trC Try.prog ann73 Try.f73.ntmps) = some m73 := by kernel_rfl
theorem rs73 : trRes Try.prog Try.f73.results.toList = some r73 := by kernel_rfl
theorem fn73 : isFunc Try.prog 73 = true := by kernel_rfl

/- duodecimo/duodecimoref02.Has -/
def ann75 : Ann := { muts := [], nilsz := [], oid := [], frz := [], zero := [], ord := [], ap := [], own := [], yl := [], fz := [], imm := [] }
def m75 : MCode := (.seq (.reg [.boxI 4 (.t 0) 4, .boxI 5 (.t 1) 4, .boxI 6 (.t 2) 5, .asg 8 (.c (.lit (.bool false)))])
 (.seq (.reg [.addr 14 (.t 4) 0, .load 15 (.t 14) none, .addr 16 (.t 5) 0, .load 17 (.t 16) none, .idxS 18 (.t 15) (.t 17) 2, .addr 19 (.t 18) 1, .load 20 (.t 19) none, .asg 9 (.t 20)])
 (.seq (.reg [.cpy 21 (.t 9), .call 22 72 [(.t 21), (.c (.lit (.int .u8 120)))], .cpy 23 (.t 9), .call 24 72 [(.t 23), (.c (.lit (.int .u8 121)))], .asg 10 (.t 22), .asg 11 (.t 24)])
 (.seq (.reg [.cpy 25 (.t 10), .cpy 26 (.t 3), .bin 27 .mul (.c (.lit (.int .i64 2))) (.t 26), .bin 28 .add (.c (.lit (.int .i64 1))) (.t 27), .bin 29 .mul (.t 25) (.t 28), .cpy 30 (.t 11), .asg 12 (.t 29), .asg 13 (.t 30)])
 (.seq (.reg [.cpy 31 (.t 12), .addr 32 (.t 6) 1, .load 33 (.t 32) none, .bin 34 .mul (.c (.lit (.int .i64 4))) (.t 33), .addr 35 (.t 6) 1, .load 36 (.t 35) none, .bin 37 .mul (.c (.lit (.int .i64 4))) (.t 36), .bin 38 .add (.t 37) (.c (.lit (.int .i64 4))), .call 39 60 [(.t 31), (.t 34), (.t 38)], .cpy 40 (.t 39), .guard 40 true (some 41) (.cpy 41 (.t 13)), .guard 40 true (some 42) (.addr 42 (.t 6) 2), .guard 40 true (some 43) (.load 43 (.t 42) none), .guard 40 true (some 44) (.bin 44 .mul (.c (.lit (.int .i64 2))) (.t 43)), .guard 40 true (some 45) (.addr 45 (.t 6) 2), .guard 40 true (some 46) (.load 46 (.t 45) none), .guard 40 true (some 47) (.bin 47 .mul (.c (.lit (.int .i64 2))) (.t 46)), .guard 40 true (some 48) (.bin 48 .add (.t 47) (.c (.lit (.int .i64 2)))), .guard 40 true (some 49) (.call 49 60 [(.t 41), (.t 44), (.t 48)]), .pick 50 (.t 40) (.t 49) (.c (.lit (.bool false))), .asg 8 (.t 50)])
 .ret)))))
def r75 : List MRes := [.tmp 8]
theorem tr75 : Try.f75.body.bind (trC Try.prog ann75 Try.f75.ntmps) = some m75 := by kernel_rfl
theorem rs75 : trRes Try.prog Try.f75.results.toList = some r75 := by kernel_rfl
theorem fn75 : isFunc Try.prog 75 = true := by kernel_rfl

/- duodecimo/duodecimoref02.pile -/
def ann97 : Ann := { muts := [], nilsz := [(4, 4), (7, 1), (9, 1)], oid := [], frz := [], zero := [(48, [(.lit (.int .i64 0)), (.lit (.int .i64 0)), (.lit (.int .i64 0)), (.lit (.int .i64 0))]), (49, [(.lit (.int .i64 0)), (.lit (.int .i64 0)), (.lit (.int .i64 0)), (.lit (.int .i64 0))]), (50, [(.slice 4 [] 0)]), (54, [(.slice 1 [] 0)])], ord := [], ap := [], own := [], yl := [], fz := [], imm := [] }
def m97 : MCode := (.seq (.reg [.asgNil 4 4])
 (.seq (.reg [.cpy 12 (.t 0), .call 13 72 [(.t 12), (.c (.lit (.int .u8 121)))], .cpy 14 (.t 0), .call 15 72 [(.t 14), (.c (.lit (.int .u8 120)))], .asg 5 (.t 13), .asg 6 (.t 15)])
 (.seq (.seq (.reg [.cpy 16 (.t 1), .cpy 17 (.t 16), .guard 17 true (some 18) (.cpy 18 (.t 0)), .guard 17 true (some 19) (.idxStr 19 (.t 18) (.c (.lit (.int .i64 0)))), .guard 17 true (some 20) (.bin 20 .eql (.t 19) (.c (.lit (.int .u8 120)))), .pick 21 (.t 17) (.t 20) (.c (.lit (.bool false)))])
 (.cond (.t 21) (.reg [.cpy 22 (.t 6), .bin 23 .quo (.t 22) (.c (.lit (.int .i64 2))), .asg 6 (.t 23)]) .skip))
 (.seq (.seq (.reg [.cpy 24 (.t 1), .cpy 25 (.t 24), .guard 25 true (some 26) (.cpy 26 (.t 0)), .guard 25 true (some 27) (.idxStr 27 (.t 26) (.c (.lit (.int .i64 0)))), .guard 25 true (some 28) (.bin 28 .eql (.t 27) (.c (.lit (.int .u8 121)))), .pick 29 (.t 25) (.t 28) (.c (.lit (.bool false)))])
 (.cond (.t 29) (.reg [.cpy 30 (.t 5), .bin 31 .quo (.t 30) (.c (.lit (.int .i64 2))), .asg 5 (.t 31)]) .skip))
 (.seq (.seq (.reg [.cpy 32 (.t 1)])
 (.cond (.t 32) (.reg [.cpy 33 (.t 0), .strLo 34 (.t 33) (.c (.lit (.int .i64 1))), .asg 0 (.t 34)]) .skip))
 (.seq (.reg [.asgNil 7 1])
 (.seq (.seq (.reg [.asg 8 (.c (.lit (.int .i64 0)))])
 (.block 0 (.loop (.seq (.seq (.reg [.cpy 35 (.t 8), .cpy 36 (.t 5), .bin 37 .lss (.t 35) (.t 36)])
 (.cond (.t 37) .skip (.exit 0)))
 (.seq (.block 1 (.seq (.reg [.asgNil 9 1])
 (.seq (.seq (.reg [.asg 10 (.c (.lit (.int .i64 0)))])
 (.block 2 (.loop (.seq (.seq (.reg [.cpy 40 (.t 10), .cpy 41 (.t 6), .bin 42 .lss (.t 40) (.t 41)])
 (.cond (.t 42) .skip (.exit 2)))
 (.seq (.block 3 (.reg [.cpy 45 (.t 9), .cpy 46 (.t 10), .cpy 47 (.t 8), .build 48 [(.lit (.int .i64 0)), (.lit (.int .i64 0)), (.lit (.int .i64 0)), (.lit (.int .i64 0))] [(0, 1, (.t 46)), (1, 1, (.t 47))], .mkS 49 1 4 [(.lit (.int .i64 0)), (.lit (.int .i64 0)), (.lit (.int .i64 0)), (.lit (.int .i64 0))] [(0, (.t 48))], .mkS 50 1 1 [(.slice 4 [] 0)] [(0, (.t 49))], .app 51 (.t 45) (.t 50) 1 24, .asg 9 (.t 51)]))
 (.reg [.cpy 43 (.t 10), .bin 44 .add (.t 43) (.c (.lit (.int .i64 1))), .asg 10 (.t 44)]))))))
 (.reg [.cpy 52 (.t 7), .cpy 53 (.t 9), .mkS 54 1 1 [(.slice 1 [] 0)] [(0, (.t 53))], .app 55 (.t 52) (.t 54) 1 24, .asg 7 (.t 55)]))))
 (.reg [.cpy 38 (.t 8), .bin 39 .add (.t 38) (.c (.lit (.int .i64 1))), .asg 8 (.t 39)]))))))
 (.seq (.seq (.reg [.asg 11 (.c (.lit (.int .i64 0)))])
 (.block 4 (.loop (.seq (.seq (.reg [.cpy 56 (.t 11), .cpy 57 (.t 0), .lenStr 58 (.t 57), .bin 59 .lss (.t 56) (.t 58)])
 (.cond (.t 59) .skip (.exit 4)))
 (.seq (.block 5 (.reg [.cpy 62 (.t 7), .cpy 63 (.t 0), .cpy 64 (.t 11), .idxStr 65 (.t 63) (.t 64), .call 66 111 [(.t 62), (.t 65)], .asg 7 (.t 66)]))
 (.reg [.cpy 60 (.t 11), .bin 61 .add (.t 60) (.c (.lit (.int .i64 1))), .asg 11 (.t 61)]))))))
 (.seq (.reg [.cpy 67 (.t 7), .idxS 68 (.t 67) (.c (.lit (.int .i64 0))) 1, .load 69 (.t 68) none, .idxS 70 (.t 69) (.c (.lit (.int .i64 0))) 1, .load 71 (.t 70) none, .asg 4 (.t 71)])
 .ret)))))))))
def r97 : List MRes := [.tmp 4]
theorem tr97 : Try.f97.body.bind (trC Try.prog ann97 Try.f97.ntmps) = some m97 := by kernel_rfl
theorem rs97 : trRes Try.prog Try.f97.results.toList = some r97 := by kernel_rfl
theorem fn97 : isFunc Try.prog 97 = true := by kernel_rfl

/- duodecimo/duodecimoref02.folded -/
def ann111 : Ann := { muts := [], nilsz := [(4, 1), (7, 1), (9, 1)], oid := [], frz := [], zero := [(67, [(.lit (.int .i64 0)), (.lit (.int .i64 0)), (.lit (.int .i64 0)), (.lit (.int .i64 0))]), (80, [(.slice 4 [] 0)]), (84, [(.slice 1 [] 0)])], ord := [(1, [0, 1, 2, 3, 4, 5, 6, 7])], ap := [], own := [6], yl := [], fz := [], imm := [] }
def m111 : MCode := (.seq (.reg [.asgNil 4 1])
 (.seq (.reg [.cpy 12 (.t 0), .len 13 (.t 12), .cpy 14 (.t 0), .idxS 15 (.t 14) (.c (.lit (.int .i64 0))) 1, .load 16 (.t 15) none, .len 17 (.t 16), .cpyE 5 (.t 13), .asg 6 (.t 17)])
 (.seq (.reg [.asgNil 7 1])
 (.seq (.seq (.reg [.asg 8 (.c (.lit (.int .i64 0)))])
 (.block 0 (.loop (.seq (.seq (.reg [.cpy 18 (.t 8), .cpy 19 (.t 5), .bin 20 .lss (.t 18) (.t 19)])
 (.cond (.t 20) .skip (.exit 0)))
 (.seq (.block 1 (.seq (.seq (.reg [.cpy 23 (.t 1), .bin 24 .eql (.t 23) (.c (.lit (.int .u8 121))), .cpy 25 (.t 24), .guard 25 true (some 26) (.cpy 26 (.t 8)), .guard 25 true (some 27) (.cpy 27 (.t 5)), .guard 25 true (some 28) (.bin 28 .quo (.t 27) (.c (.lit (.int .i64 2)))), .guard 25 true (some 29) (.bin 29 .geq (.t 26) (.t 28)), .pick 30 (.t 25) (.t 29) (.c (.lit (.bool false)))])
 (.cond (.t 30) (.exit 0) .skip))
 (.seq (.reg [.asgNil 9 1])
 (.seq (.seq (.reg [.asg 10 (.c (.lit (.int .i64 0)))])
 (.block 2 (.loop (.seq (.seq (.reg [.cpy 31 (.t 10), .cpy 32 (.t 6), .bin 33 .lss (.t 31) (.t 32)])
 (.cond (.t 33) .skip (.exit 2)))
 (.seq (.block 3 (.seq (.seq (.reg [.cpy 36 (.t 1), .bin 37 .eql (.t 36) (.c (.lit (.int .u8 120))), .cpy 38 (.t 37), .guard 38 true (some 39) (.cpy 39 (.t 10)), .guard 38 true (some 40) (.cpy 40 (.t 6)), .guard 38 true (some 41) (.bin 41 .quo (.t 40) (.c (.lit (.int .i64 2)))), .guard 38 true (some 42) (.bin 42 .geq (.t 39) (.t 41)), .pick 43 (.t 38) (.t 42) (.c (.lit (.bool false)))])
 (.cond (.t 43) (.exit 2) .skip))
 (.seq (.reg [.cpy 44 (.t 0), .cpy 45 (.t 5), .bin 46 .sub (.t 45) (.c (.lit (.int .i64 1))), .cpy 47 (.t 8), .bin 48 .sub (.t 46) (.t 47), .idxS 49 (.t 44) (.t 48) 1, .load 50 (.t 49) none, .cpy 51 (.t 10), .idxS 52 (.t 50) (.t 51) 1, .load 53 (.t 52) none, .asg 11 (.t 53)])
 (.seq (.seq (.reg [.cpy 54 (.t 1), .bin 55 .eql (.t 54) (.c (.lit (.int .u8 120)))])
 (.cond (.t 55) (.reg [.cpy 56 (.t 0), .cpy 57 (.t 8), .idxS 58 (.t 56) (.t 57) 1, .load 59 (.t 58) none, .cpy 60 (.t 6), .bin 61 .sub (.t 60) (.c (.lit (.int .i64 1))), .cpy 62 (.t 10), .bin 63 .sub (.t 61) (.t 62), .idxS 64 (.t 59) (.t 63) 1, .load 65 (.t 64) none, .asg 11 (.t 65)]) .skip))
 (.reg [.cpy 66 (.t 9), .mkS 67 0 4 [(.lit (.int .i64 0)), (.lit (.int .i64 0)), (.lit (.int .i64 0)), (.lit (.int .i64 0))] [], .cpy 68 (.t 0), .cpy 69 (.t 8), .idxS 70 (.t 68) (.t 69) 1, .load 71 (.t 70) none, .cpy 72 (.t 10), .idxS 73 (.t 71) (.t 72) 1, .load 74 (.t 73) none, .app 75 (.t 67) (.t 74) 4 32, .cpy 76 (.t 11), .cpy 77 (.t 1), .call 78 117 [(.t 76), (.t 77)], .app 79 (.t 75) (.t 78) 4 32, .mkS 80 1 1 [(.slice 4 [] 0)] [(0, (.t 79))], .app 81 (.t 66) (.t 80) 1 24, .asg 9 (.t 81)])))))
 (.reg [.cpy 34 (.t 10), .bin 35 .add (.t 34) (.c (.lit (.int .i64 1))), .asg 10 (.t 35)]))))))
 (.reg [.cpy 82 (.t 7), .cpy 83 (.t 9), .mkS 84 1 1 [(.slice 1 [] 0)] [(0, (.t 83))], .app 85 (.t 82) (.t 84) 1 24, .asg 7 (.t 85)])))))
 (.reg [.cpy 21 (.t 8), .bin 22 .add (.t 21) (.c (.lit (.int .i64 1))), .asg 8 (.t 22)]))))))
 (.seq (.reg [.cpy 86 (.t 7), .asg 4 (.t 86)])
 .ret)))))
def r111 : List MRes := [.tmp 4]
theorem tr111 : Try.f111.body.bind (trC Try.prog ann111 Try.f111.ntmps) = some m111 := by kernel_rfl
theorem rs111 : trRes Try.prog Try.f111.results.toList = some r111 := by kernel_rfl
theorem fn111 : isFunc Try.prog 111 = true := by kernel_rfl

/- duodecimo/duodecimoref02.turned -/
def ann117 : Ann := { muts := [], nilsz := [(4, 4), (5, 4)], oid := [], frz := [], zero := [(7, [(.lit (.int .i64 0)), (.lit (.int .i64 0)), (.lit (.int .i64 0)), (.lit (.int .i64 0))]), (31, [(.lit (.int .i64 0)), (.lit (.int .i64 0)), (.lit (.int .i64 0)), (.lit (.int .i64 0))])], ord := [], ap := [], own := [], yl := [], fz := [], imm := [] }
def m117 : MCode := (.seq (.reg [.asgNil 4 4])
 (.seq (.reg [.asgNil 5 4])
 (.seq (.seq (.reg [.cpy 8 (.t 0), .len 9 (.t 8), .bin 10 .sub (.t 9) (.c (.lit (.int .i64 1))), .asg 6 (.t 10)])
 (.block 0 (.loop (.seq (.seq (.reg [.cpy 11 (.t 6), .bin 12 .geq (.t 11) (.c (.lit (.int .i64 0)))])
 (.cond (.t 12) .skip (.exit 0)))
 (.seq (.block 1 (.seq (.reg [.cpy 15 (.t 0), .cpy 16 (.t 6), .idxS 17 (.t 15) (.t 16) 4, .load 18 (.t 17) (some 4), .alloc 7 [(.lit (.int .i64 0)), (.lit (.int .i64 0)), (.lit (.int .i64 0)), (.lit (.int .i64 0))], .store (.t 7) (.t 18) 4 0])
 (.seq (.seq (.reg [.cpy 19 (.t 1), .bin 20 .eql (.t 19) (.c (.lit (.int .u8 120)))])
 (.cond (.t 20) (.reg [.addr 21 (.t 7) 2, .load 22 (.t 21) none, .bin 23 .add (.t 22) (.c (.lit (.int .i64 1))), .addr 24 (.t 7) 2, .store (.t 24) (.t 23) 1 0]) (.reg [.addr 25 (.t 7) 3, .load 26 (.t 25) none, .bin 27 .add (.t 26) (.c (.lit (.int .i64 1))), .addr 28 (.t 7) 3, .store (.t 28) (.t 27) 1 0])))
 (.reg [.cpy 29 (.t 5), .load 30 (.t 7) (some 4), .mkS 31 1 4 [(.lit (.int .i64 0)), (.lit (.int .i64 0)), (.lit (.int .i64 0)), (.lit (.int .i64 0))] [(0, (.t 30))], .app 32 (.t 29) (.t 31) 4 32, .asg 5 (.t 32)]))))
 (.reg [.cpy 13 (.t 6), .bin 14 .sub (.t 13) (.c (.lit (.int .i64 1))), .asg 6 (.t 14)]))))))
 (.seq (.reg [.cpy 33 (.t 5), .asg 4 (.t 33)])
 .ret))))
def r117 : List MRes := [.tmp 4]
theorem tr117 : Try.f117.body.bind (trC Try.prog ann117 Try.f117.ntmps) = some m117 := by kernel_rfl
theorem rs117 : trRes Try.prog Try.f117.results.toList = some r117 := by kernel_rfl
theorem fn117 : isFunc Try.prog 117 = true := by kernel_rfl
end Go.Proofs.Ytcfeipphmklakaa

namespace Go.Proofs.Ytcfeipphmklakaa
open Go.Avm

structure Lf where
  sheet : Int
  col : Int
  row : Int
  inner : Bool
  turned : Bool
deriving DecidableEq

abbrev Lf.cs (x : Lf) : List AV := [I x.sheet, I x.col, I x.row, B x.inner, B x.turned]
abbrev Lf.av (x : Lf) : AV := .agg x.cs
abbrev LL (l : List Lf) : AV := .slice 5 (l.map Lf.av) 0

structure Mk where
  format : Int
  paper : Int
  sheets : Int
  half : Bool
deriving DecidableEq

abbrev Mk.cs (m : Mk) : List AV := [I m.format, I m.paper, I m.sheets, B m.half]
abbrev Mk.av (m : Mk) : AV := .agg m.cs

/-- A leaf as it lies: its place on the sheet, and how often it was turned over by folds x and y. -/
structure Ln where
  col : Nat
  row : Nat
  x : Nat
  y : Nat

abbrev Ln.av (l : Ln) : AV := .agg [I l.col, I l.row, I l.x, I l.y]

def turnL (c : Nat) (p : List Ln) : List Ln := p.reverse.map fun l => if c = 120 then { l with x := l.x + 1 } else { l with y := l.y + 1 }

def foldP (ps : List (List (List Ln))) (c : Nat) : List (List (List Ln)) :=
  if c = 120 then ps.map fun row => (List.range (row.length / 2)).map fun k => row.getD k [] ++ turnL c (row.getD (row.length - 1 - k) [])
  else (List.range (ps.length / 2)).map fun r => (List.range (ps.getD r []).length).map fun k => (ps.getD r []).getD k [] ++ turnL c ((ps.getD (ps.length - 1 - r) []).getD k [])

def timesN (f : List Nat) (c : Nat) : Nat := 2 ^ f.count c

def pileM (f : List Nat) (half : Bool) : List Ln :=
  let rows := if half && f.headD 0 == 121 then timesN f 121 / 2 else timesN f 121
  let cols := if half && f.headD 0 == 120 then timesN f 120 / 2 else timesN f 120
  let start := (List.range rows).map fun r => (List.range cols).map fun c => [⟨c, r, 0, 0⟩]
  (((if half then f.tail else f).foldl foldP start).getD 0 []).getD 0 []

def lnLf (f : List Nat) (s : Int) (l : Ln) : Lf := ⟨s, l.col, l.row, (l.x + l.y) % 2 == 1, (if f.getLastD 0 == 120 then l.y else l.x) % 2 == 1⟩

def sheetM (f : List Nat) (half : Bool) : List Lf := (pileM f half).map (lnLf f 0)

/-- All folds. -/
def words : Nat → List (List Nat)
  | 0 => [[]]
  | n + 1 => (words n).map (120 :: ·) ++ (words n).map (121 :: ·)
def allF : List (List Nat) := words 1 ++ words 2 ++ words 3 ++ words 4

def codes (s : ByteArray) : List Nat := s.data.toList.map UInt8.toNat

def strF (w : List Nat) : ByteArray := ⟨(w.map UInt8.ofNat).toArray⟩

theorem mem_words : ∀ (n : Nat) (w : List Nat), w.length = n → (∀ c ∈ w, c = 120 ∨ c = 121) → w ∈ words n
  | 0, [], _, _ => by simp [words]
  | n + 1, c :: w, hl, hc => by
    have h := mem_words n w (by simpa using hl) (fun d hd => hc d (by simp [hd]))
    rcases hc c (by simp) with rfl | rfl <;> simp [words, h]

theorem strF_codes (s : ByteArray) : strF (codes s) = s := by
  cases s with
  | mk a =>
    unfold strF codes
    rw [List.map_map]
    have : (UInt8.ofNat ∘ UInt8.toNat) = id := by funext x; simp
    rw [this, List.map_id]

theorem bt_codes (s : ByteArray) (k : Nat) : bt s k = (codes s).getD k 0 := by
  unfold bt codes
  simp only [List.getD_eq_getElem?_getD, List.getElem?_map]
  cases s.data.toList[k]? <;> simp

theorem mem_allF {s : ByteArray} (h : foldsE s = 0) : codes s ∈ allF := by
  unfold foldsE at h
  by_cases h1 : 1 ≤ s.size ∧ s.size ≤ 4
  case neg => rw [if_neg h1] at h; cases h
  rw [if_pos h1] at h
  by_cases h2 : ∀ k < s.size, foldAt (bt s k) = true
  case neg => rw [if_neg h2] at h; cases h
  have hl : (codes s).length = s.size := by simp [codes]
  have hc : ∀ c ∈ codes s, c = 120 ∨ c = 121 := fun c hc => by
    obtain ⟨k, hk, rfl⟩ := List.mem_iff_getElem.1 hc
    have := h2 k (by omega)
    rw [bt_codes, List.getD_eq_getElem?_getD, List.getElem?_eq_getElem hk] at this
    simpa [foldAt] using this
  have hm := mem_words _ (codes s) rfl hc
  unfold allF
  simp only [List.mem_append]
  have : (codes s).length = 1 ∨ (codes s).length = 2 ∨ (codes s).length = 3 ∨ (codes s).length = 4 := by omega
  rcases this with e | e | e | e <;> rw [e] at hm <;> simp [hm]

/-- The leaves of all sheets of a gathering. -/
def gather (l : List Lf) (s : Nat) : List Lf :=
  (List.range s).flatMap (fun k => (l.take (l.length / 2)).map fun x => { x with sheet := k }) ++
    (List.range s).reverse.flatMap fun k => (l.drop (l.length / 2)).map fun x => { x with sheet := k }
end Go.Proofs.Ytcfeipphmklakaa

namespace Go.Proofs.Ytcfeipphmklakaa
open Go.Avm

/-- The folds of a way of making. -/
def foldsOf (p : Prs) (m : Mk) : ByteArray := (p.fmts.map Fmt.folds).getD m.format.toNat ⟨#[]⟩

/-- The error of a way of making, of a press that is right. -/
def makeE (p : Prs) (m : Mk) : Int :=
  if ¬ (0 ≤ m.format ∧ m.format ≤ (p.fmts.length : Int) - 1) ∨ ¬ (0 ≤ m.paper ∧ m.paper ≤ (p.pprs.length : Int) - 1) then 4
  else if ¬ (1 ≤ m.sheets ∧ m.sheets ≤ p.sheets) then 7
  else if m.half = true ∧ (m.sheets ≠ 1 ∨ (foldsOf p m).size < 2) then 2 else 0

def errE (p : Prs) : Int := (checkE p).2.2
def enterE (p : Prs) (m : Mk) : Int := if errE p ≠ 0 then errE p else makeE p m
def zeroP : Prs := ⟨[], [], 0, 0⟩
def pOr (p : Prs) : Prs := if errE p ≠ 0 then zeroP else p

theorem firstE_zero {n : Nat} {e : Nat → Int} (h : (firstE n e).2 = 0) : ∀ i < n, e i = 0 := by
  intro i hi
  unfold firstE at h
  cases hf : (List.range n).find? fun i => e i != 0 with
  | some j =>
    rw [hf] at h
    have := List.find?_some hf
    simp at this h
    exact (this h).elim
  | none =>
    rw [List.find?_eq_none] at hf
    simpa using hf i (by simpa using hi)

/-- What is known of a press that is right. -/
structure Right (p : Prs) : Prop where
  fmts : 1 ≤ p.fmts.length ∧ p.fmts.length ≤ 6
  folds : ∀ i (h : i < p.fmts.length), codes p.fmts[i].folds ∈ allF
  pprs : 1 ≤ p.pprs.length ∧ p.pprs.length ≤ 4
  wide : ∀ i (h : i < p.pprs.length), spansE 1 2000 p.pprs[i].wide p.pprs[i].high = 0
  trim : 0 ≤ p.trim ∧ p.trim ≤ 60
  sheets : 1 ≤ p.sheets ∧ p.sheets ≤ 4

theorem right_of {p : Prs} (h : errE p = 0) : Right p := by
  unfold errE checkE at h
  split at h
  · cases h
  rename_i h1
  split at h
  · rename_i h2; exact (h2 h).elim
  rename_i h2
  split at h
  · cases h
  rename_i h3
  split at h
  · rename_i h4; exact (h4 h).elim
  rename_i h4
  split at h
  · cases h
  rename_i h5
  refine ⟨Decidable.of_not_not h1, fun i hi => ?_, Decidable.of_not_not h3, fun i hi => ?_, Decidable.of_not_not fun h => h5 (.inl h), Decidable.of_not_not fun h => h5 (.inr h)⟩
  · have := firstE_zero (Decidable.of_not_not h2) i hi
    unfold fE at this
    rw [dif_pos hi] at this
    unfold fmtE at this
    split at this
    · exact mem_allF this
    · rename_i h; exact (h this).elim
  · have := firstE_zero (Decidable.of_not_not h4) i hi
    unfold pE at this
    rw [dif_pos hi] at this
    unfold pprE at this
    split at this
    · exact this
    · rename_i h; exact (h this).elim

/-- What is known of a way of making that is right. -/
structure RightM (p : Prs) (m : Mk) : Prop where
  fmt : 0 ≤ m.format ∧ m.format ≤ (p.fmts.length : Int) - 1
  ppr : 0 ≤ m.paper ∧ m.paper ≤ (p.pprs.length : Int) - 1
  sheets : 1 ≤ m.sheets ∧ m.sheets ≤ p.sheets
  half : m.half = true → m.sheets = 1 ∧ 2 ≤ (foldsOf p m).size

theorem rightM_of {p : Prs} {m : Mk} (h : makeE p m = 0) : RightM p m := by
  unfold makeE at h
  split at h
  · cases h
  rename_i h1
  split at h
  · cases h
  rename_i h2
  split at h
  · cases h
  rename_i h3
  exact ⟨Decidable.of_not_not fun h => h1 (.inl h), Decidable.of_not_not fun h => h1 (.inr h), Decidable.of_not_not h2, fun hh => by
    have : ¬ (m.sheets ≠ 1 ∨ (foldsOf p m).size < 2) := fun h => h3 ⟨hh, h⟩
    omega⟩

theorem enterE_zero {p : Prs} {m : Mk} (h : enterE p m = 0) : errE p = 0 ∧ makeE p m = 0 := by
  unfold enterE at h
  split at h
  · rename_i h1; exact (h1 h).elim
  · rename_i h1; exact ⟨Decidable.of_not_not h1, h⟩

theorem foldsOf_at {p : Prs} {m : Mk} {k : Nat} (hk : m.format = k) (h : k < p.fmts.length) : foldsOf p m = p.fmts[k].folds := by
  unfold foldsOf
  rw [hk]
  simp [List.getD_eq_getElem?_getD, h]

theorem foldsOf_mem {p : Prs} {m : Mk} (hp : Right p) (h : RightM p m) : codes (foldsOf p m) ∈ allF := by
  obtain ⟨k, hk⟩ : ∃ k : Nat, m.format = k := ⟨m.format.toNat, by have := h.fmt; omega⟩
  have hl : k < p.fmts.length := by have := h.fmt; omega
  rw [foldsOf_at hk hl]
  exact hp.folds k hl

theorem folds71_ok (p : Prs) (m : Mk) (h : 0 ≤ m.format ∧ m.format ≤ (p.fmts.length : Int) - 1) : PCall Try.prog 71 [p.av, m.av] (S (foldsOf p m)) := by
  refine pcall Try.func71 tr71 rs71 fn71 (by simp [Try.ntmps71]) fun hfit => ?_
  obtain ⟨k, hk⟩ : ∃ k : Nat, m.format = k := ⟨m.format.toNat, by omega⟩
  have hl : k < p.fmts.length := by omega
  rw [foldsOf_at hk hl]
  simp -implicitDefEqProofs [m71, hk, hl, r71]

theorem check95_ok (p : Prs) (m : Mk) : PCall Try.prog 95 [p.av, m.av] (I (makeE p m)) := by
  refine pcall Try.func95 tr95 rs95 fn95 (by simp [Try.ntmps95]) fun hfit => ?_
  have hl1 : p.fmts.length ≤ 140737488355328 := by simpa using fits_len (fits_agg (hfit 0) 0)
  have hl2 : p.pprs.length ≤ 140737488355328 := by simpa using fits_len (fits_agg (hfit 0) 1)
  have c1 := outside_ok 0 ((p.fmts.length : Int) - 1) [m.format]
  have c2 := outside_ok 0 ((p.pprs.length : Int) - 1) [m.paper]
  have c3 := outside_ok 1 p.sheets [m.sheets]
  rw [out1] at c1 c2 c3
  obtain ⟨R, hR⟩ : ∃ R, R = makeE p m := ⟨_, rfl⟩
  rw [← hR]
  unfold makeE at hR
  simp -implicitDefEqProofs [m95]
  refine ⟨i64 (by omega) (by omega), ?_⟩
  refine vCall_of c1 ?_
  by_cases h1 : 0 ≤ m.format ∧ m.format ≤ (p.fmts.length : Int) - 1
  case neg =>
    rw [if_pos (.inl h1)] at hR
    rw [decide_eq_false h1]
    simp -implicitDefEqProofs [r95, hR]
  rw [decide_eq_true h1]
  simp -implicitDefEqProofs
  refine ⟨i64 (by omega) (by omega), ?_⟩
  refine vCall_of c2 ?_
  by_cases h2 : 0 ≤ m.paper ∧ m.paper ≤ (p.pprs.length : Int) - 1
  case neg =>
    rw [if_pos (.inr h2)] at hR
    rw [decide_eq_false h2]
    simp -implicitDefEqProofs [r95, hR]
  rw [if_neg (fun h => h.elim (fun h => h h1) fun h => h h2)] at hR
  rw [decide_eq_true h2]
  simp -implicitDefEqProofs
  refine vCall_of c3 ?_
  by_cases h3 : 1 ≤ m.sheets ∧ m.sheets ≤ p.sheets
  case neg =>
    rw [if_pos h3] at hR
    rw [decide_eq_false h3]
    simp -implicitDefEqProofs [r95, hR]
  rw [if_neg (not_not_intro h3)] at hR
  rw [decide_eq_true h3]
  simp -implicitDefEqProofs
  have c4 := folds71_ok p m h1
  generalize foldsOf p m = f at *
  cases hh : m.half with
  | false =>
    rw [hh, if_neg (by simp)] at hR
    simp -implicitDefEqProofs [r95, hR]
  | true =>
    rw [hh] at hR
    by_cases h4 : m.sheets = 1
    · have h4' : (m.sheets != 1) = false := by simp [h4]
      simp -implicitDefEqProofs [h4']
      have c4' : PCall Try.prog 71 [p.av, .agg [I m.format, I m.paper, I m.sheets, B true]] (S f) := by rw [← hh]; exact c4
      refine vCall_of c4' ?_
      by_cases h5 : f.size < 2
      · rw [if_pos ⟨rfl, .inr h5⟩] at hR
        have h5' : (f.size : Int) < 2 := by omega
        simp -implicitDefEqProofs [r95, hR, h5']
      · rw [if_neg (by simp [h4, h5])] at hR
        have h5' : ¬ (f.size : Int) < 2 := by omega
        simp -implicitDefEqProofs [r95, hR, h5']
    · have h4' : (m.sheets != 1) = true := by simp [h4]
      rw [if_pos ⟨rfl, .inl h4⟩] at hR
      simp -implicitDefEqProofs [h4', r95, hR]

theorem enter_ok (p : Prs) (m : Mk) : PCall Try.prog 66 [p.av, m.av] (.tuple [(pOr p).av, I (enterE p m)]) := by
  refine pcall Try.func66 tr66 rs66 fn66 (by simp [Try.ntmps66]) fun hfit => ?_
  have c1 := check_ok p
  have c2 := check95_ok p m
  unfold pOr enterE errE
  generalize checkE p = e at *
  generalize makeE p m = g at *
  simp -implicitDefEqProofs [m66]
  intro b1
  refine vCall_of c1 ?_
  simp -implicitDefEqProofs
  refine cond_bool (fun he => ?_) (fun he => ?_)
  · have h0 : e.2.2 ≠ 0 := by simpa using he
    simp -implicitDefEqProofs [h0, r66, zeroP]
  · have h0 : e.2.2 = 0 := by simpa using he
    simp -implicitDefEqProofs
    intro b2 hb2
    have hb3 : ¬ b1 = b2 := fun h => hb2 h.symm
    refine vCall_of c2 ?_
    simp -implicitDefEqProofs [h0, r66, hb3]
end Go.Proofs.Ytcfeipphmklakaa

namespace Go.Proofs.Ytcfeipphmklakaa
open Go.Avm

theorem splice_over (l r y : List AV) (o : Nat) (h : l.length = o) : ∀ (z : List AV), y.length = z.length → splice (l ++ (z ++ r)) o y = l ++ (y ++ r) := by
  induction y generalizing l o with
  | nil => intro z hz; have : z = [] := List.length_eq_zero_iff.1 hz.symm; subst this; rfl
  | cons v y ih =>
    intro z hz
    cases z with
    | nil => simp at hz
    | cons w z =>
      have := ih (l ++ [v]) (o + 1) (by simp [h]) z (by simpa using hz)
      rw [splice_cons]
      have e : (l ++ (w :: z ++ r)).set o v = (l ++ [v]) ++ (z ++ r) := by
        subst h
        simp
      rw [e, this]
      simp

/-- An element of a row, written. -/
theorem splice_flat {n : Nat} (y : List AV) (hy : y.length = n) : ∀ (ls : List (List AV)) (j : Nat), (∀ l ∈ ls, l.length = n) → j < ls.length → splice ls.flatten (j * n) y = (ls.set j y).flatten := by
  intro ls j hl hj
  have e : ls.flatten = (ls.take j).flatten ++ (ls[j] ++ (ls.drop (j + 1)).flatten) := by
    have e0 : ls.flatten = (ls.take j ++ ls.drop j).flatten := by rw [List.take_append_drop]
    rw [e0, List.drop_eq_getElem_cons hj, List.flatten_append, List.flatten_cons]
  have h1 : (ls.take j).flatten.length = j * n := by
    rw [List.length_flatten]
    have : ∀ (m : List (List AV)), (∀ l ∈ m, l.length = n) → (m.map List.length).sum = m.length * n := by
      intro m hm
      induction m with
      | nil => simp
      | cons a m ih => simp [ih fun l hl => hm l (by simp [hl]), hm a (by simp), Nat.succ_mul, Nat.add_comm]
    rw [this _ fun l h => hl l (List.mem_of_mem_take h)]
    rw [List.length_take, Nat.min_eq_left (by omega)]
  rw [e, splice_over _ _ _ _ h1 _ (by rw [hy, hl _ (List.getElem_mem hj)])]
  rw [List.set_eq_take_append_cons_drop, if_pos hj]
  simp

def zLf : Lf := ⟨0, 0, 0, false, false⟩

def rowL (xs : List Lf) : List AV := (xs.map Lf.cs).flatten

@[simp] theorem rowL_len (xs : List Lf) : (rowL xs).length = xs.length * 5 := by
  induction xs with
  | nil => rfl
  | cons x xs ih =>
    have : rowL (x :: xs) = x.cs ++ rowL xs := rfl
    rw [this, List.length_append, ih]
    show 5 + xs.length * 5 = (xs.length + 1) * 5
    omega

theorem rowL_set (xs : List Lf) (j : Nat) (x : Lf) (h : j < xs.length) : splice (rowL xs) (j * 5) x.cs = rowL (xs.set j x) := by
  unfold rowL
  have := splice_flat (n := 5) x.cs rfl (xs.map Lf.cs) j (fun l hl => by obtain ⟨y, _, rfl⟩ := List.mem_map.1 hl; rfl) (by simpa using h)
  rw [this, ← List.map_set]

theorem rowL_zero (n : Nat) : (List.replicate n zLf.cs).flatten = rowL (List.replicate n zLf) := by unfold rowL; rw [List.map_replicate]

theorem chunk_rowL : ∀ (xs : List Lf), chunk 5 (rowL xs) xs.length = xs.map Lf.av
  | [] => rfl
  | x :: xs => by
    have ih := chunk_rowL xs
    simp only [List.length_cons, chunk]
    rw [show (rowL (x :: xs)).drop 5 = rowL xs from rfl, ih]
    rfl

theorem rowL_cells (xs : List Lf) : (rowL xs).all AV.cell1 = true := by
  induction xs with
  | nil => rfl
  | cons x xs ih =>
    have : rowL (x :: xs) = x.cs ++ rowL xs := rfl
    rw [this, List.all_append, ih]; rfl

theorem asg_mref (s : St) (d b o : Nat) : asgSt s d (.mref b o) = s.set d (.mref b o) := rfl
theorem asg_ms (s : St) (d b o l c z : Nat) : asgSt s d (.mslice b o l c z) = s.set d (.mslice b o l c z) := rfl
theorem asg_mapr (s : St) (d b : Nat) : asgSt s d (.mapr b) = s.set d (.mapr b) := rfl
theorem asg_any (s : St) (d : Nat) : asgSt s d .any = s.set d .any := rfl
theorem dem_ms (r b o l c z : Nat) : demote r (.mslice b o l c z) = .mslice b o l c z := rfl
theorem dem_mapr (r b : Nat) : demote r (.mapr b) = .mapr b := rfl
theorem erase_ms (b o l c z : Nat) : (AV.mslice b o l c z).erase = .mslice b o l c z := rfl
theorem erase_mapr (b : Nat) : (AV.mapr b).erase = .mapr b := rfl
theorem cells_ms (b o l c z : Nat) : (AV.mslice b o l c z).cells = [.mslice b o l c z] := rfl
theorem cells_mapr (b : Nat) : (AV.mapr b).cells = [.mapr b] := rfl
attribute [simp] asg_mref asg_ms asg_mapr asg_any dem_ms dem_mapr erase_ms erase_mapr cells_ms cells_mapr

def vMapUpd (P : Program) (ms : List MOp) (K : St → Prop) (s : St) (k v : AV) (n : Option Nat) : AV → Prop
  | .mapr b => ∃ es, s.env (oS + b) = mapAV es ∧ keyOK n k ∧ match keyAt k es 0 with
      | some (some i) => vcs P ms K (s.set (oS + b) (mapAV (es.set i [k, v])))
      | some none => vcs P ms K (s.set (oS + b) (mapAV (es ++ [[k, v]])))
      | none => False
  | _ => False
theorem v_mapUpd (P : Program) (ms : List MOp) (K : St → Prop) (s : St) (x k v : MArg) (n : Option Nat) : vcs P (.mapUpd x k v n :: ms) K s = vMapUpd P ms K s (k.ev s.env).erase (v.ev s.env).erase n (x.ev s.env) := by
  unfold vMapUpd; rfl
def vLookup (P : Program) (ms : List MOp) (K : St → Prop) (s : St) (d : Nat) (k : AV) (n : Option Nat) (ok : Bool) (zero : AV) : AV → Prop
  | .mapr b => ∃ es, s.env (oS + b) = mapAV es ∧ keyOK n k ∧ match keyAt k es 0 with
      | some (some i) => vcs P ms K (s.set d (if ok then .tuple [((es.getD i []).getD 1 .any), .lit (.bool true)] else ((es.getD i []).getD 1 .any).erase))
      | some none => vcs P ms K (s.set d (if ok then .tuple [zero, .lit (.bool false)] else zero.erase))
      | none => False
  | _ => False
theorem v_lookup (P : Program) (ms : List MOp) (K : St → Prop) (s : St) (d : Nat) (x k : MArg) (n : Option Nat) (ok : Bool) (zero : AV) : vcs P (.lookup d x k n ok zero :: ms) K s = vLookup P ms K s d (k.ev s.env).erase n ok zero (x.ev s.env) := by
  unfold vLookup; rfl
attribute [simp] v_mapUpd v_lookup
end Go.Proofs.Ytcfeipphmklakaa

namespace Go.Proofs.Ytcfeipphmklakaa
open Go.Avm

/-- Where a leaf of a sheet goes in a gathering. -/
def posL (n N s i : Nat) : Nat := if i < n then s * n + i else N - (s + 2) * n + i
def putL (L : List Lf) (N s : Nat) (xs : List Lf) (i : Nat) : List Lf := xs.set (posL (L.length / 2) N s i) { L.getD i zLf with sheet := (s : Int) }
def putS (L : List Lf) (N s k : Nat) (xs : List Lf) : List Lf := (List.range k).foldl (putL L N s) xs
def putA (L : List Lf) (N k : Nat) : List Lf := (List.range k).foldl (fun xs s => putS L N s L.length xs) (List.replicate N zLf)

theorem putS_zero (L : List Lf) (N s : Nat) (xs : List Lf) : putS L N s 0 xs = xs := rfl
theorem putS_succ (L : List Lf) (N s k : Nat) (xs : List Lf) : putS L N s (k + 1) xs = putL L N s (putS L N s k xs) k := by
  unfold putS; rw [List.range_succ, List.foldl_append]; rfl
theorem putA_succ (L : List Lf) (N k : Nat) : putA L N (k + 1) = putS L N k L.length (putA L N k) := by
  unfold putA; rw [List.range_succ, List.foldl_append]; rfl
theorem putS_len (L : List Lf) (N s k : Nat) (xs : List Lf) : (putS L N s k xs).length = xs.length := by
  induction k with
  | zero => rfl
  | succ k ih => rw [putS_succ]; unfold putL; rw [List.length_set, ih]
theorem putA_len (L : List Lf) (N k : Nat) : (putA L N k).length = N := by
  induction k with
  | zero => simp [putA]
  | succ k ih => rw [putA_succ, putS_len, ih]

theorem pos_facts {S n s i : Nat} (hs : s < S) (hi : n ≤ i) (hi2 : i < 2 * n) : (s + 2) * n ≤ S * (2 * n) ∧ (s + 2) * n ≤ S * (2 * n) + n ∧ s * n ≤ S * n ∧ S * (2 * n) - (s + 2) * n + i < S * (2 * n) ∧ n ≤ S * n := by
  obtain ⟨d, rfl⟩ : ∃ d, S = s + 1 + d := ⟨S - s - 1, by omega⟩
  have e1 : (s + 1 + d) * (2 * n) = 2 * (s * n) + 2 * n + 2 * (d * n) := by
    rw [Nat.add_mul, Nat.add_mul, Nat.mul_left_comm s, Nat.mul_left_comm d]; omega
  have e2 : (s + 1 + d) * n = s * n + n + d * n := by rw [Nat.add_mul, Nat.add_mul]; omega
  have e3 : (s + 2) * n = s * n + 2 * n := Nat.add_mul ..
  omega

theorem leaves67_ok (p : Prs) (m : Mk) (S n : Nat) (L : List Lf) (hf : 0 ≤ m.format ∧ m.format ≤ (p.fmts.length : Int) - 1) (hm : m.sheets = S) (hS : 1 ≤ S ∧ S ≤ 4) (hL : L.length = 2 * n) (hn : n ≤ 8)
    (h96 : PCall Try.prog 96 [Ytcfeipphmklakaa.S (foldsOf p m), B m.half] (LL L)) : PCall Try.prog 67 [p.av, m.av] (LL (putA L (S * L.length) S)) := by
  refine pcall Try.func67 tr67 rs67 fn67 (by simp [Try.ntmps67]) fun hfit => ?_
  have c1 := folds71_ok p m hf
  generalize foldsOf p m = f at *
  have hSn : S * n ≤ 32 := Nat.le_trans (Nat.mul_le_mul hS.2 hn) (by omega)
  have hN : S * L.length = 2 * (S * n) := by rw [hL, Nat.mul_left_comm]
  have hN' : (S : Int) * (L.length : Int) = ((S * L.length : Nat) : Int) := by simp
  obtain ⟨mf, mp, ms, mh⟩ := m
  obtain rfl : ms = (S : Int) := hm
  simp -implicitDefEqProofs [m67]
  refine vCall_of c1 ?_
  simp -implicitDefEqProofs
  refine vCall_of h96 ?_
  have hq : ((L.length : Int)).tdiv 2 = (n : Int) := by rw [hL, Int.tdiv_eq_ediv_of_nonneg (by omega)]; omega
  simp -implicitDefEqProofs [hq]
  rw [hN']
  generalize hNN : S * L.length = N at *
  refine ⟨i64 (by omega) (by omega), i64 (by omega) (by omega), by omega, by omega, by omega, by omega, ?_⟩
  intro b
  refine loop_up S (fun k s => s.env 5 = LL L ∧ s.env 6 = I n ∧ s.env 7 = .mslice b 0 N N 5 ∧ s.loc b = some (rowL (putA L N k)) ∧ s.env 27 = I S ∧ s.env 28 = I k) ?_ ?_
  · simp [putA, zLf, rowL]
  rintro k s hk ⟨e5, e6, e7, el, e27, e28⟩
  simp -implicitDefEqProofs [e27, e28]
  refine cond_dec (fun hlt => ?_) (fun hge => ?_)
  · have hlt : k < S := by omega
    simp -implicitDefEqProofs [e28, e5]
    refine loop_up L.length (fun j s => s.env 5 = LL L ∧ s.env 6 = I n ∧ s.env 7 = .mslice b 0 N N 5 ∧ s.loc b = some (rowL (putS L N k j (putA L N k))) ∧ s.env 27 = I S ∧ s.env 28 = I k ∧
      s.env 8 = I k ∧ s.env 31 = LL L ∧ s.env 32 = I L.length ∧ s.env 33 = I j) ?_ ?_
    · simp [e5, e6, e7, el, e27, e28, putS_zero]
    clear el e5 e6 e7 e27 e28
    rintro j s hj ⟨e5, e6, e7, el, e27, e28, e8, e31, e32, e33⟩
    simp -implicitDefEqProofs [e32, e33]
    refine cond_dec (fun hlt2 => ?_) (fun hge2 => ?_)
    · have hlt2 : j < L.length := by omega
      simp -implicitDefEqProofs [e5, e6, e7, el, e27, e28, e8, e31, e32, e33, hlt2]
      intro b2 hb2
      have hb : ¬ b2 = b := fun h => by subst h; rw [el] at hb2; cases hb2
      have hb' : ¬ b = b2 := fun h => hb h.symm
      refine cond_dec (fun hlt3 => ?_) (fun hge3 => ?_)
      · simp -implicitDefEqProofs [e5, e6, e7, el, e27, e28, e8, e31, e32, e33, hlt2, hb, hb']
        obtain ⟨a, ha⟩ : ∃ a : Nat, a = k * n := ⟨_, rfl⟩
        have ha' : (k : Int) * (n : Int) = (a : Int) := by rw [ha]; simp
        rw [ha']
        have hkn : a + n ≤ S * n := by
          have := Nat.mul_le_mul_right n (show k + 1 ≤ S by omega)
          rw [Nat.succ_mul] at this
          omega
        have hp : posL (L.length / 2) N k j = a + j := by rw [hL, Nat.mul_div_cancel_left _ (by omega)]; unfold posL; rw [if_pos (by omega), ha]
        have hj2 : ((a : Int) + (j : Int)).toNat = a + j := by omega
        rw [putS_len, putA_len]
        refine ⟨i64 (by omega) (by omega), i64 (by omega) (by omega), by omega, by omega, by omega, i64 (by omega) (by omega), round_ok hlt2 ?_⟩
        have hput : putS L N k (j + 1) (putA L N k) = (putS L N k j (putA L N k)).set (a + j) { L[j] with sheet := (k : Int) } := by
          rw [putS_succ]; unfold putL; rw [hp]; simp [List.getD_eq_getElem?_getD, hlt2]
        rw [hput, ← rowL_set _ _ _ (by rw [putS_len, putA_len]; omega)]
        refine ⟨by simp [e5], by simp [e6], by simp [e7], ?_, by simp [e27], by simp [e28], by simp [e8], by simp [e31], by simp [e32], by simp⟩
        simp [hj2, hb, hb', el]
      · simp -implicitDefEqProofs [e5, e6, e7, el, e27, e28, e8, e31, e32, e33, hlt2, hb, hb']
        obtain ⟨a, ha⟩ : ∃ a : Nat, a = (k + 2) * n := ⟨_, rfl⟩
        have ha' : ((k : Int) + 2) * (n : Int) = (a : Int) := by rw [ha]; simp
        rw [ha']
        have hpf := pos_facts (S := S) (n := n) (s := k) (i := j) hlt (by omega) (by omega)
        rw [← hL, hNN, ← ha] at hpf
        have hd : L.length / 2 = n := by omega
        have hge4 : ¬ j < n := by omega
        have hp : posL (L.length / 2) N k j = N - a + j := by rw [hd]; unfold posL; rw [if_neg hge4, ha]
        have hj2 : ((N : Int) - (a : Int) + (j : Int)).toNat = N - a + j := by omega
        rw [putS_len, putA_len]
        refine ⟨i64 (by omega) (by omega), i64 (by omega) (by omega), i64 (by omega) (by omega), i64 (by omega) (by omega), by omega, by omega, by omega, i64 (by omega) (by omega), round_ok hlt2 ?_⟩
        have hput : putS L N k (j + 1) (putA L N k) = (putS L N k j (putA L N k)).set (N - a + j) { L[j] with sheet := (k : Int) } := by
          rw [putS_succ]; unfold putL; rw [hp]; simp [List.getD_eq_getElem?_getD, hlt2]
        rw [hput, ← rowL_set _ _ _ (by rw [putS_len, putA_len]; omega)]
        refine ⟨by simp [e5], by simp [e6], by simp [e7], ?_, by simp [e27], by simp [e28], by simp [e8], by simp [e31], by simp [e32], by simp⟩
        simp [hj2, hb, hb', el]
    · obtain rfl : j = L.length := by omega
      rw [← putA_succ] at el
      simp -implicitDefEqProofs [e28]
      exact ⟨i64 (by omega) (by omega), round_ok hlt ⟨by simp [e5], by simp [e6], by simp [e7], by simp [el], by simp [e27], by simp⟩⟩
  · obtain rfl : k = S := by omega
    simp -implicitDefEqProofs [e7, el, rowL_cells]
    have hch := chunk_rowL (putA L N k)
    rw [putA_len] at hch
    simp -implicitDefEqProofs [putA_len, hch, r67]
    exact ⟨by omega, rfl⟩
end Go.Proofs.Ytcfeipphmklakaa

