/- The resolved code of some functions, written by program, each held against the function by the kernel. Contracts of small functions: outside, the reference's in. Contracts on names: the program's and the reference's. Contracts on names that are met twice. Presses and books, as the program's values; the closures of Check. Contracts on spans, and the functions that look for a first error. Contracts: the first thing with an error; the closures of Check and CheckBook. Check and CheckBook of the program return what is said in plain words. Check and CheckBook of the reference return the same plain words. What a law's arguments of layer 2 say: presses, gatherings, ways of making, and lists of numbers. -/
import Derived.Test.YtcfeipphmklakaaProg
import Derived.Test.YtcfeipphmklakaaLC
import Derived.KernelRfl
import Derived.Test.YtcfeipphmklakaaFK1
namespace Go.Proofs.Ytcfeipphmklakaa
open Go.Avm

/- duodecimo/duodecimolaw02.FoldChecks -/
def ann3 : Ann := { muts := [], nilsz := [], oid := [], frz := [], zero := [], ord := [], ap := [], own := [], yl := [], fz := [], imm := [] }
def m3 : MCode := (.seq (.reg [.boxI 2 (.t 0) 4, .boxI 3 (.t 1) 7, .asg 4 (.c (.lit (.bool false)))])
 (.seq (.reg [.load 12 (.t 2) (some 4), .call 13 15 [(.t 12)], .cpy 11 (.t 13), .ext 14 (.t 11) 0, .ext 15 (.t 11) 1, .ext 16 (.t 11) 2, .asg 5 (.t 14), .asg 6 (.t 15), .asg 7 (.t 16)])
 (.seq (.reg [.load 18 (.t 2) (some 4), .call 19 16 [(.t 18)], .cpy 17 (.t 19), .ext 20 (.t 17) 0, .ext 21 (.t 17) 1, .ext 22 (.t 17) 2, .asg 8 (.t 20), .asg 9 (.t 21), .asg 10 (.t 22)])
 (.seq (.seq (.reg [.cpy 23 (.t 5), .cpy 24 (.t 8), .bin 25 .neq (.t 23) (.t 24), .cpy 26 (.t 25), .guard 26 false (some 27) (.cpy 27 (.t 6)), .guard 26 false (some 28) (.cpy 28 (.t 9)), .guard 26 false (some 29) (.bin 29 .neq (.t 27) (.t 28)), .pick 30 (.t 26) (.c (.lit (.bool true))) (.t 29), .cpy 31 (.t 30), .guard 31 false (some 32) (.cpy 32 (.t 7)), .guard 31 false (some 33) (.cpy 33 (.t 10)), .guard 31 false (some 34) (.bin 34 .neq (.t 32) (.t 33)), .pick 35 (.t 31) (.c (.lit (.bool true))) (.t 34)])
 (.cond (.t 35) (.seq (.reg [.asg 4 (.c (.lit (.bool false)))])
 .ret) .skip))
 (.seq (.reg [.load 37 (.t 2) (some 4), .load 38 (.t 3) (some 7), .call 39 17 [(.t 37), (.t 38)], .cpy 36 (.t 39), .ext 40 (.t 36) 0, .ext 41 (.t 36) 1, .ext 42 (.t 36) 2, .asg 5 (.t 40), .asg 6 (.t 41), .asg 7 (.t 42)])
 (.seq (.reg [.load 44 (.t 2) (some 4), .load 45 (.t 3) (some 7), .call 46 18 [(.t 44), (.t 45)], .cpy 43 (.t 46), .ext 47 (.t 43) 0, .ext 48 (.t 43) 1, .ext 49 (.t 43) 2, .asg 8 (.t 47), .asg 9 (.t 48), .asg 10 (.t 49)])
 (.seq (.reg [.cpy 50 (.t 5), .cpy 51 (.t 8), .bin 52 .eql (.t 50) (.t 51), .cpy 53 (.t 52), .guard 53 true (some 54) (.cpy 54 (.t 6)), .guard 53 true (some 55) (.cpy 55 (.t 9)), .guard 53 true (some 56) (.bin 56 .eql (.t 54) (.t 55)), .pick 57 (.t 53) (.t 56) (.c (.lit (.bool false))), .cpy 58 (.t 57), .guard 58 true (some 59) (.cpy 59 (.t 7)), .guard 58 true (some 60) (.cpy 60 (.t 10)), .guard 58 true (some 61) (.bin 61 .eql (.t 59) (.t 60)), .pick 62 (.t 58) (.t 61) (.c (.lit (.bool false))), .cpy 63 (.t 62), .guard 63 true (some 64) (.call 64 19 []), .pick 65 (.t 63) (.t 64) (.c (.lit (.bool false))), .asg 4 (.t 65)])
 .ret)))))))
def r3 : List MRes := [.tmp 4]
theorem tr3 : Try.f3.body.bind (trC Try.prog ann3 Try.f3.ntmps) = some m3 := by kernel_rfl
theorem rs3 : trRes Try.prog Try.f3.results.toList = some r3 := by kernel_rfl
theorem fn3 : isFunc Try.prog 3 = true := by kernel_rfl

/- duodecimo/duodecimoref02.Check -/
def ann16 : Ann := { muts := [], nilsz := [(5, 1)], oid := [], frz := [], zero := [(37, [(.lit (.string ⟨#[]⟩))]), (79, [(.lit (.string ⟨#[]⟩))])], ord := [(22, [0, 1, 2, 3, 4, 5, 6, 7, 8, 9, 10, 11, 12, 13])], ap := [], own := [9], yl := [], fz := [], imm := [] }
def m16 : MCode := (.seq (.reg [.boxI 1 (.t 0) 4, .asg 2 (.c (.lit (.int .i64 0))), .asg 3 (.c (.lit (.int .i64 0))), .asg 4 (.c (.lit (.int .i64 0)))])
 (.seq (.seq (.reg [.addr 10 (.t 1) 0, .load 11 (.t 10) none, .len 12 (.t 11), .call 13 60 [(.t 12), (.c (.lit (.int .i64 1))), (.c (.lit (.int .i64 6)))], .not 14 (.t 13)])
 (.cond (.t 14) (.seq (.reg [.asg 2 (.c (.lit (.int .i64 1))), .asg 3 (.c (.lit (.int .i64 0))), .asg 4 (.c (.lit (.int .i64 3)))])
 .ret) .skip))
 (.seq (.reg [.asgNil 5 1])
 (.seq (.seq (.reg [.asg 6 (.c (.lit (.int .i64 0)))])
 (.block 0 (.loop (.seq (.seq (.reg [.cpy 15 (.t 6), .addr 16 (.t 1) 0, .load 17 (.t 16) none, .len 18 (.t 17), .bin 19 .lss (.t 15) (.t 18)])
 (.cond (.t 19) .skip (.exit 0)))
 (.seq (.block 1 (.seq (.reg [.addr 22 (.t 1) 0, .load 23 (.t 22) none, .cpy 24 (.t 6), .idxS 25 (.t 23) (.t 24) 2, .addr 26 (.t 25) 0, .load 27 (.t 26) none, .cpy 28 (.t 5), .call 29 61 [(.t 27), (.t 28)], .asg 7 (.t 29)])
 (.seq (.reg [.cpy 30 (.t 5), .addr 31 (.t 1) 0, .load 32 (.t 31) none, .cpy 33 (.t 6), .idxS 34 (.t 32) (.t 33) 2, .addr 35 (.t 34) 0, .load 36 (.t 35) none, .mkS 37 1 1 [(.lit (.string ⟨#[]⟩))] [(0, (.t 36))], .app 38 (.t 30) (.t 37) 1 16, .asg 5 (.t 38)])
 (.seq (.seq (.reg [.cpy 39 (.t 7), .bin 40 .eql (.t 39) (.c (.lit (.int .i64 0)))])
 (.cond (.t 40) (.reg [.addr 41 (.t 1) 0, .load 42 (.t 41) none, .cpy 43 (.t 6), .idxS 44 (.t 42) (.t 43) 2, .addr 45 (.t 44) 1, .load 46 (.t 45) none, .call 47 62 [(.t 46)], .asg 7 (.t 47)]) .skip))
 (.seq (.reg [.cpy 48 (.t 7), .bin 49 .neq (.t 48) (.c (.lit (.int .i64 0)))])
 (.cond (.t 49) (.seq (.reg [.cpy 50 (.t 6), .cpy 51 (.t 7), .asg 2 (.c (.lit (.int .i64 1))), .asg 3 (.t 50), .asg 4 (.t 51)])
 .ret) .skip))))))
 (.reg [.cpy 20 (.t 6), .bin 21 .add (.t 20) (.c (.lit (.int .i64 1))), .asg 6 (.t 21)]))))))
 (.seq (.seq (.reg [.addr 52 (.t 1) 1, .load 53 (.t 52) none, .len 54 (.t 53), .call 55 60 [(.t 54), (.c (.lit (.int .i64 1))), (.c (.lit (.int .i64 4)))], .not 56 (.t 55)])
 (.cond (.t 56) (.seq (.reg [.asg 2 (.c (.lit (.int .i64 2))), .asg 3 (.c (.lit (.int .i64 0))), .asg 4 (.c (.lit (.int .i64 3)))])
 .ret) .skip))
 (.seq (.reg [.asgNil 5 1])
 (.seq (.seq (.reg [.asg 8 (.c (.lit (.int .i64 0)))])
 (.block 2 (.loop (.seq (.seq (.reg [.cpy 57 (.t 8), .addr 58 (.t 1) 1, .load 59 (.t 58) none, .len 60 (.t 59), .bin 61 .lss (.t 57) (.t 60)])
 (.cond (.t 61) .skip (.exit 2)))
 (.seq (.block 3 (.seq (.reg [.addr 64 (.t 1) 1, .load 65 (.t 64) none, .cpy 66 (.t 8), .idxS 67 (.t 65) (.t 66) 5, .addr 68 (.t 67) 0, .load 69 (.t 68) none, .cpy 70 (.t 5), .call 71 61 [(.t 69), (.t 70)], .asg 9 (.t 71)])
 (.seq (.reg [.cpy 72 (.t 5), .addr 73 (.t 1) 1, .load 74 (.t 73) none, .cpy 75 (.t 8), .idxS 76 (.t 74) (.t 75) 5, .addr 77 (.t 76) 0, .load 78 (.t 77) none, .mkS 79 1 1 [(.lit (.string ⟨#[]⟩))] [(0, (.t 78))], .app 80 (.t 72) (.t 79) 1 16, .asg 5 (.t 80)])
 (.seq (.seq (.reg [.cpy 81 (.t 9), .bin 82 .eql (.t 81) (.c (.lit (.int .i64 0)))])
 (.cond (.t 82) (.reg [.addr 83 (.t 1) 1, .load 84 (.t 83) none, .cpy 85 (.t 8), .idxS 86 (.t 84) (.t 85) 5, .addr 87 (.t 86) 1, .load 88 (.t 87) (some 2), .addr 89 (.t 1) 1, .load 90 (.t 89) none, .cpy 91 (.t 8), .idxS 92 (.t 90) (.t 91) 5, .addr 93 (.t 92) 3, .load 94 (.t 93) (some 2), .call 95 63 [(.t 88), (.t 94), (.c (.lit (.int .i64 1))), (.c (.lit (.int .i64 2000)))], .asg 9 (.t 95)]) .skip))
 (.seq (.reg [.cpy 96 (.t 9), .bin 97 .neq (.t 96) (.c (.lit (.int .i64 0)))])
 (.cond (.t 97) (.seq (.reg [.cpy 98 (.t 8), .cpy 99 (.t 9), .asg 2 (.c (.lit (.int .i64 2))), .asg 3 (.t 98), .asg 4 (.t 99)])
 .ret) .skip))))))
 (.reg [.cpy 62 (.t 8), .bin 63 .add (.t 62) (.c (.lit (.int .i64 1))), .asg 8 (.t 63)]))))))
 (.seq (.seq (.reg [.addr 100 (.t 1) 2, .load 101 (.t 100) none, .call 102 60 [(.t 101), (.c (.lit (.int .i64 0))), (.c (.lit (.int .i64 60)))], .not 103 (.t 102), .cpy 104 (.t 103), .guard 104 false (some 105) (.addr 105 (.t 1) 3), .guard 104 false (some 106) (.load 106 (.t 105) none), .guard 104 false (some 107) (.call 107 60 [(.t 106), (.c (.lit (.int .i64 1))), (.c (.lit (.int .i64 4)))]), .guard 104 false (some 108) (.not 108 (.t 107)), .pick 109 (.t 104) (.c (.lit (.bool true))) (.t 108)])
 (.cond (.t 109) (.seq (.reg [.asg 2 (.c (.lit (.int .i64 3))), .asg 3 (.c (.lit (.int .i64 0))), .asg 4 (.c (.lit (.int .i64 7)))])
 .ret) .skip))
 (.seq (.reg [.asg 2 (.c (.lit (.int .i64 0))), .asg 3 (.c (.lit (.int .i64 0))), .asg 4 (.c (.lit (.int .i64 0)))])
 .ret)))))))))
def r16 : List MRes := [.tmp 2, .tmp 3, .tmp 4]
theorem tr16 : Try.f16.body.bind (trC Try.prog ann16 Try.f16.ntmps) = some m16 := by kernel_rfl
theorem rs16 : trRes Try.prog Try.f16.results.toList = some r16 := by kernel_rfl
theorem fn16 : isFunc Try.prog 16 = true := by kernel_rfl

/- duodecimo/duodecimoref02.CheckBook -/
def ann18 : Ann := { muts := [], nilsz := [], oid := [], frz := [], zero := [], ord := [(16, [0, 1, 2, 3, 4, 5, 6, 7, 8, 9, 10])], ap := [], own := [], yl := [], fz := [], imm := [] }
def m18 : MCode := (.seq (.reg [.boxI 2 (.t 0) 4, .boxI 3 (.t 1) 7, .asg 4 (.c (.lit (.int .i64 0))), .asg 5 (.c (.lit (.int .i64 0))), .asg 6 (.c (.lit (.int .i64 0)))])
 (.seq (.reg [.load 12 (.t 2) (some 4), .call 13 16 [(.t 12)], .cpy 11 (.t 13), .ext 14 (.t 11) 0, .ext 15 (.t 11) 1, .ext 16 (.t 11) 2, .asg 7 (.t 14), .asg 8 (.t 15), .asg 9 (.t 16)])
 (.seq (.seq (.reg [.cpy 17 (.t 9), .bin 18 .neq (.t 17) (.c (.lit (.int .i64 0)))])
 (.cond (.t 18) (.seq (.reg [.cpy 19 (.t 9), .asg 4 (.c (.lit (.int .i64 0))), .asg 5 (.c (.lit (.int .i64 0))), .asg 6 (.t 19)])
 .ret) .skip))
 (.seq (.seq (.reg [.addr 20 (.t 3) 0, .load 21 (.t 20) none, .call 22 60 [(.t 21), (.c (.lit (.int .i64 1))), (.c (.lit (.int .i64 64)))], .not 23 (.t 22)])
 (.cond (.t 23) (.seq (.reg [.asg 4 (.c (.lit (.int .i64 1))), .asg 5 (.c (.lit (.int .i64 0))), .asg 6 (.c (.lit (.int .i64 7)))])
 .ret) .skip))
 (.seq (.seq (.reg [.addr 24 (.t 3) 1, .load 25 (.t 24) none, .call 26 60 [(.t 25), (.c (.lit (.int .i64 0))), (.c (.lit (.int .i64 2)))], .not 27 (.t 26)])
 (.cond (.t 27) (.seq (.reg [.asg 4 (.c (.lit (.int .i64 2))), .asg 5 (.c (.lit (.int .i64 0))), .asg 6 (.c (.lit (.int .i64 2)))])
 .ret) .skip))
 (.seq (.reg [.addr 28 (.t 3) 2, .load 29 (.t 28) (some 2), .addr 30 (.t 3) 4, .load 31 (.t 30) (some 2), .call 32 63 [(.t 29), (.t 31), (.c (.lit (.int .i64 0))), (.c (.lit (.int .i64 2000)))], .asg 9 (.t 32)])
 (.seq (.seq (.reg [.cpy 33 (.t 9), .bin 34 .neq (.t 33) (.c (.lit (.int .i64 0)))])
 (.cond (.t 34) (.seq (.reg [.cpy 35 (.t 9), .asg 4 (.c (.lit (.int .i64 3))), .asg 5 (.c (.lit (.int .i64 0))), .asg 6 (.t 35)])
 .ret) .skip))
 (.seq (.seq (.reg [.addr 36 (.t 3) 6, .load 37 (.t 36) none, .len 38 (.t 37), .bin 39 .gtr (.t 38) (.c (.lit (.int .i64 8)))])
 (.cond (.t 39) (.seq (.reg [.asg 4 (.c (.lit (.int .i64 4))), .asg 5 (.c (.lit (.int .i64 0))), .asg 6 (.c (.lit (.int .i64 3)))])
 .ret) .skip))
 (.seq (.seq (.reg [.asg 10 (.c (.lit (.int .i64 0)))])
 (.block 0 (.loop (.seq (.seq (.reg [.cpy 40 (.t 10), .addr 41 (.t 3) 6, .load 42 (.t 41) none, .len 43 (.t 42), .bin 44 .lss (.t 40) (.t 43)])
 (.cond (.t 44) .skip (.exit 0)))
 (.seq (.block 1 (.seq (.reg [.addr 47 (.t 3) 6, .load 48 (.t 47) none, .cpy 49 (.t 10), .idxS 50 (.t 48) (.t 49) 2, .addr 51 (.t 50) 0, .load 52 (.t 51) none, .addr 53 (.t 3) 0, .load 54 (.t 53) none, .bin 55 .sub (.t 54) (.c (.lit (.int .i64 1))), .call 56 60 [(.t 52), (.c (.lit (.int .i64 0))), (.t 55)], .not 57 (.t 56)])
 (.cond (.t 57) (.seq (.reg [.cpy 58 (.t 10), .asg 4 (.c (.lit (.int .i64 4))), .asg 5 (.t 58), .asg 6 (.c (.lit (.int .i64 4)))])
 .ret) .skip)))
 (.reg [.cpy 45 (.t 10), .bin 46 .add (.t 45) (.c (.lit (.int .i64 1))), .asg 10 (.t 46)]))))))
 (.seq (.reg [.asg 4 (.c (.lit (.int .i64 0))), .asg 5 (.c (.lit (.int .i64 0))), .asg 6 (.c (.lit (.int .i64 0)))])
 .ret))))))))))
def r18 : List MRes := [.tmp 4, .tmp 5, .tmp 6]
theorem tr18 : Try.f18.body.bind (trC Try.prog ann18 Try.f18.ntmps) = some m18 := by kernel_rfl
theorem rs18 : trRes Try.prog Try.f18.results.toList = some r18 := by kernel_rfl
theorem fn18 : isFunc Try.prog 18 = true := by kernel_rfl

/- duodecimo/duodecimoref02.in -/
def ann60 : Ann := { muts := [], nilsz := [], oid := [], frz := [], zero := [], ord := [], ap := [], own := [], yl := [], fz := [], imm := [] }
def m60 : MCode := (.seq (.reg [.asg 6 (.c (.lit (.bool false)))])
 (.seq (.reg [.cpy 7 (.t 0), .cpy 8 (.t 1), .bin 9 .geq (.t 7) (.t 8), .cpy 10 (.t 9), .guard 10 true (some 11) (.cpy 11 (.t 0)), .guard 10 true (some 12) (.cpy 12 (.t 2)), .guard 10 true (some 13) (.bin 13 .leq (.t 11) (.t 12)), .pick 14 (.t 10) (.t 13) (.c (.lit (.bool false))), .asg 6 (.t 14)])
 .ret))
def r60 : List MRes := [.tmp 6]
theorem tr60 : Try.f60.body.bind (trC Try.prog ann60 Try.f60.ntmps) = some m60 := by kernel_rfl
theorem rs60 : trRes Try.prog Try.f60.results.toList = some r60 := by kernel_rfl
theorem fn60 : isFunc Try.prog 60 = true := by kernel_rfl

/- duodecimo/duodecimoref01.Fresh -/
def ann61 : Ann := { muts := [], nilsz := [], oid := [], frz := [], zero := [], ord := [], ap := [], own := [], yl := [], fz := [], imm := [] }
def m61 : MCode := (.seq (.reg [.asg 4 (.c (.lit (.int .i64 0)))])
 (.seq (.reg [.asg 5 (.c (.lit (.int .i64 0)))])
 (.seq (.seq (.reg [.cpy 6 (.t 1), .cpy 7 (.t 0), .call 8 92 [(.t 6), (.t 7)], .bin 9 .geq (.t 8) (.c (.lit (.int .i64 0)))])
 (.cond (.t 9) (.reg [.asg 5 (.c (.lit (.int .i64 5)))]) .skip))
 (.seq (.seq (.reg [.cpy 10 (.t 0), .call 11 93 [(.t 10)], .not 12 (.t 11)])
 (.cond (.t 12) (.reg [.asg 5 (.c (.lit (.int .i64 6)))]) .skip))
 (.seq (.reg [.cpy 13 (.t 5), .asg 4 (.t 13)])
 .ret)))))
def r61 : List MRes := [.tmp 4]
theorem tr61 : Try.f61.body.bind (trC Try.prog ann61 Try.f61.ntmps) = some m61 := by kernel_rfl
theorem rs61 : trRes Try.prog Try.f61.results.toList = some r61 := by kernel_rfl
theorem fn61 : isFunc Try.prog 61 = true := by kernel_rfl

/- duodecimo/duodecimoref02.folds -/
def ann62 : Ann := { muts := [], nilsz := [], oid := [], frz := [], zero := [], ord := [], ap := [], own := [], yl := [], fz := [], imm := [] }
def m62 : MCode := (.seq (.reg [.asg 2 (.c (.lit (.int .i64 0)))])
 (.seq (.seq (.reg [.cpy 4 (.t 0), .lenStr 5 (.t 4), .call 6 60 [(.t 5), (.c (.lit (.int .i64 1))), (.c (.lit (.int .i64 4)))], .not 7 (.t 6)])
 (.cond (.t 7) (.seq (.reg [.asg 2 (.c (.lit (.int .i64 3)))])
 .ret) .skip))
 (.seq (.seq (.reg [.asg 3 (.c (.lit (.int .i64 0)))])
 (.block 0 (.loop (.seq (.seq (.reg [.cpy 8 (.t 3), .cpy 9 (.t 0), .lenStr 10 (.t 9), .bin 11 .lss (.t 8) (.t 10)])
 (.cond (.t 11) .skip (.exit 0)))
 (.seq (.block 1 (.seq (.reg [.cpy 14 (.t 0), .cpy 15 (.t 3), .idxStr 16 (.t 14) (.t 15), .bin 17 .neq (.t 16) (.c (.lit (.int .u8 120))), .cpy 18 (.t 17), .guard 18 true (some 19) (.cpy 19 (.t 0)), .guard 18 true (some 20) (.cpy 20 (.t 3)), .guard 18 true (some 21) (.idxStr 21 (.t 19) (.t 20)), .guard 18 true (some 22) (.bin 22 .neq (.t 21) (.c (.lit (.int .u8 121)))), .pick 23 (.t 18) (.t 22) (.c (.lit (.bool false)))])
 (.cond (.t 23) (.seq (.reg [.asg 2 (.c (.lit (.int .i64 6)))])
 .ret) .skip)))
 (.reg [.cpy 12 (.t 3), .bin 13 .add (.t 12) (.c (.lit (.int .i64 1))), .asg 3 (.t 13)]))))))
 (.seq (.reg [.asg 2 (.c (.lit (.int .i64 0)))])
 .ret))))
def r62 : List MRes := [.tmp 2]
theorem tr62 : Try.f62.body.bind (trC Try.prog ann62 Try.f62.ntmps) = some m62 := by kernel_rfl
theorem rs62 : trRes Try.prog Try.f62.results.toList = some r62 := by kernel_rfl
theorem fn62 : isFunc Try.prog 62 = true := by kernel_rfl

/- duodecimo/duodecimoref02.both -/
def ann63 : Ann := { muts := [], nilsz := [], oid := [], frz := [], zero := [], ord := [(1, [0, 1, 2, 3, 4, 5, 6, 7, 8, 9])], ap := [], own := [10], yl := [], fz := [], imm := [] }
def m63 : MCode := (.seq (.reg [.boxI 4 (.t 0) 2, .boxI 5 (.t 1) 2, .asg 8 (.c (.lit (.int .i64 0)))])
 (.seq (.reg [.load 11 (.t 4) (some 2), .cpy 12 (.t 2), .cpy 13 (.t 3), .call 14 94 [(.t 11), (.t 12), (.t 13)], .load 15 (.t 5) (some 2), .cpy 16 (.t 2), .cpy 17 (.t 3), .call 18 94 [(.t 15), (.t 16), (.t 17)], .cpyE 9 (.t 14), .asg 10 (.t 18)])
 (.seq (.seq (.reg [.cpy 19 (.t 9), .bin 20 .eql (.t 19) (.c (.lit (.int .i64 7))), .cpy 21 (.t 20), .guard 21 false (some 22) (.cpy 22 (.t 10)), .guard 21 false (some 23) (.bin 23 .eql (.t 22) (.c (.lit (.int .i64 7)))), .pick 24 (.t 21) (.c (.lit (.bool true))) (.t 23)])
 (.cond (.t 24) (.seq (.reg [.asg 8 (.c (.lit (.int .i64 7)))])
 .ret) .skip))
 (.seq (.seq (.reg [.cpy 25 (.t 9), .bin 26 .neq (.t 25) (.c (.lit (.int .i64 0)))])
 (.cond (.t 26) (.seq (.reg [.cpy 27 (.t 9), .asg 8 (.t 27)])
 .ret) .skip))
 (.seq (.reg [.cpy 28 (.t 10), .asg 8 (.t 28)])
 .ret)))))
def r63 : List MRes := [.tmp 8]
theorem tr63 : Try.f63.body.bind (trC Try.prog ann63 Try.f63.ntmps) = some m63 := by kernel_rfl
theorem rs63 : trRes Try.prog Try.f63.results.toList = some r63 := by kernel_rfl
theorem fn63 : isFunc Try.prog 63 = true := by kernel_rfl

/- duodecimo/duodecimoref01.Place -/
def ann92 : Ann := { muts := [], nilsz := [], oid := [], frz := [], zero := [], ord := [], ap := [], own := [], yl := [], fz := [], imm := [] }
def m92 : MCode := (.seq (.reg [.asg 4 (.c (.lit (.int .i64 0)))])
 (.seq (.reg [.cpy 7 (.t 0), .len 8 (.t 7), .bin 9 .sub (.t 8) (.c (.lit (.int .i64 1))), .asg 5 (.t 9)])
 (.seq (.block 0 (.loop (.seq (.seq (.reg [.cpy 10 (.t 5), .bin 11 .geq (.t 10) (.c (.lit (.int .i64 0))), .cpy 12 (.t 11), .guard 12 true (some 13) (.cpy 13 (.t 0)), .guard 12 true (some 14) (.cpy 14 (.t 5)), .guard 12 true (some 15) (.idxS 15 (.t 13) (.t 14) 1), .guard 12 true (some 16) (.load 16 (.t 15) none), .guard 12 true (some 17) (.cpy 17 (.t 1)), .guard 12 true (some 18) (.bin 18 .neq (.t 16) (.t 17)), .pick 19 (.t 12) (.t 18) (.c (.lit (.bool false)))])
 (.cond (.t 19) .skip (.exit 0)))
 (.block 1 (.reg [.cpy 20 (.t 5), .bin 21 .sub (.t 20) (.c (.lit (.int .i64 1))), .asg 5 (.t 21)])))))
 (.seq (.seq (.reg [.asg 6 (.c (.lit (.int .i64 0)))])
 (.block 2 (.loop (.seq (.seq (.reg [.cpy 22 (.t 6), .cpy 23 (.t 5), .bin 24 .lss (.t 22) (.t 23)])
 (.cond (.t 24) .skip (.exit 2)))
 (.seq (.block 3 (.seq (.reg [.cpy 27 (.t 0), .cpy 28 (.t 6), .idxS 29 (.t 27) (.t 28) 1, .load 30 (.t 29) none, .cpy 31 (.t 1), .bin 32 .eql (.t 30) (.t 31)])
 (.cond (.t 32) (.seq (.reg [.cpy 33 (.t 6), .asg 4 (.t 33)])
 .ret) .skip)))
 (.reg [.cpy 25 (.t 6), .bin 26 .add (.t 25) (.c (.lit (.int .i64 1))), .asg 6 (.t 26)]))))))
 (.seq (.reg [.cpy 34 (.t 5), .asg 4 (.t 34)])
 .ret)))))
def r92 : List MRes := [.tmp 4]
theorem tr92 : Try.f92.body.bind (trC Try.prog ann92 Try.f92.ntmps) = some m92 := by kernel_rfl
theorem rs92 : trRes Try.prog Try.f92.results.toList = some r92 := by kernel_rfl
theorem fn92 : isFunc Try.prog 92 = true := by kernel_rfl

/- duodecimo/duodecimoref01.Name -/
def ann93 : Ann := { muts := [], nilsz := [], oid := [], frz := [], zero := [], ord := [], ap := [], own := [], yl := [], fz := [], imm := [] }
def m93 : MCode := (.seq (.reg [.asg 2 (.c (.lit (.bool false)))])
 (.seq (.seq (.reg [.cpy 4 (.t 0), .lenStr 5 (.t 4), .bin 6 .eql (.t 5) (.c (.lit (.int .i64 0))), .cpy 7 (.t 6), .guard 7 false (some 8) (.cpy 8 (.t 0)), .guard 7 false (some 9) (.lenStr 9 (.t 8)), .guard 7 false (some 10) (.bin 10 .gtr (.t 9) (.c (.lit (.int .i64 16)))), .pick 11 (.t 7) (.c (.lit (.bool true))) (.t 10)])
 (.cond (.t 11) (.seq (.reg [.asg 2 (.c (.lit (.bool false)))])
 .ret) .skip))
 (.seq (.seq (.reg [.asg 3 (.c (.lit (.int .i64 0)))])
 (.block 0 (.loop (.seq (.seq (.reg [.cpy 12 (.t 3), .cpy 13 (.t 0), .lenStr 14 (.t 13), .bin 15 .lss (.t 12) (.t 14)])
 (.cond (.t 15) .skip (.exit 0)))
 (.seq (.block 1 (.seq (.reg [.cpy 18 (.t 0), .cpy 19 (.t 3), .idxStr 20 (.t 18) (.t 19), .call 21 108 [(.t 20)], .not 22 (.t 21), .cpy 23 (.t 22), .guard 23 true (some 24) (.cpy 24 (.t 3)), .guard 23 true (some 25) (.bin 25 .eql (.t 24) (.c (.lit (.int .i64 0)))), .guard 23 true (some 26) (.cpy 26 (.t 25)), .guard 26 false (some 27) (.cpy 27 (.t 0)), .guard 26 false (some 28) (.cpy 28 (.t 3)), .guard 26 false (some 29) (.idxStr 29 (.t 27) (.t 28)), .guard 26 false (some 30) (.call 30 109 [(.t 29)]), .guard 26 false (some 31) (.not 31 (.t 30)), .guard 26 false (some 32) (.cpy 32 (.t 31)), .guard 32 true (some 33) (.cpy 33 (.t 0)), .guard 32 true (some 34) (.cpy 34 (.t 3)), .guard 32 true (some 35) (.idxStr 35 (.t 33) (.t 34)), .guard 32 true (some 36) (.bin 36 .neq (.t 35) (.c (.lit (.int .u8 46)))), .guard 26 false (some 37) (.pick 37 (.t 32) (.t 36) (.c (.lit (.bool false)))), .guard 23 true (some 38) (.pick 38 (.t 26) (.c (.lit (.bool true))) (.t 37)), .pick 39 (.t 23) (.t 38) (.c (.lit (.bool false)))])
 (.cond (.t 39) (.seq (.reg [.asg 2 (.c (.lit (.bool false)))])
 .ret) .skip)))
 (.reg [.cpy 16 (.t 3), .bin 17 .add (.t 16) (.c (.lit (.int .i64 1))), .asg 3 (.t 17)]))))))
 (.seq (.reg [.asg 2 (.c (.lit (.bool true)))])
 .ret))))
def r93 : List MRes := [.tmp 2]
theorem tr93 : Try.f93.body.bind (trC Try.prog ann93 Try.f93.ntmps) = some m93 := by kernel_rfl
theorem rs93 : trRes Try.prog Try.f93.results.toList = some r93 := by kernel_rfl
theorem fn93 : isFunc Try.prog 93 = true := by kernel_rfl

/- duodecimo/duodecimoref01.Range -/
def ann94 : Ann := { muts := [], nilsz := [], oid := [], frz := [], zero := [], ord := [], ap := [], own := [], yl := [], fz := [], imm := [] }
def m94 : MCode := (.seq (.reg [.boxI 3 (.t 0) 2, .asg 6 (.c (.lit (.int .i64 0)))])
 (.seq (.seq (.reg [.addr 7 (.t 3) 0, .load 8 (.t 7) none, .addr 9 (.t 3) 1, .load 10 (.t 9) none, .minI 11 (.t 8) (.t 10), .cpy 12 (.t 1), .bin 13 .lss (.t 11) (.t 12), .cpy 14 (.t 13), .guard 14 false (some 15) (.addr 15 (.t 3) 0), .guard 14 false (some 16) (.load 16 (.t 15) none), .guard 14 false (some 17) (.addr 17 (.t 3) 1), .guard 14 false (some 18) (.load 18 (.t 17) none), .guard 14 false (some 19) (.maxI 19 (.t 16) (.t 18)), .guard 14 false (some 20) (.cpy 20 (.t 2)), .guard 14 false (some 21) (.bin 21 .gtr (.t 19) (.t 20)), .pick 22 (.t 14) (.c (.lit (.bool true))) (.t 21)])
 (.cond (.t 22) (.seq (.reg [.asg 6 (.c (.lit (.int .i64 7)))])
 .ret) .skip))
 (.seq (.seq (.reg [.addr 23 (.t 3) 1, .load 24 (.t 23) none, .addr 25 (.t 3) 0, .load 26 (.t 25) none, .bin 27 .lss (.t 24) (.t 26)])
 (.cond (.t 27) (.seq (.reg [.asg 6 (.c (.lit (.int .i64 2)))])
 .ret) .skip))
 (.seq (.reg [.asg 6 (.c (.lit (.int .i64 0)))])
 .ret))))
def r94 : List MRes := [.tmp 6]
theorem tr94 : Try.f94.body.bind (trC Try.prog ann94 Try.f94.ntmps) = some m94 := by kernel_rfl
theorem rs94 : trRes Try.prog Try.f94.results.toList = some r94 := by kernel_rfl
theorem fn94 : isFunc Try.prog 94 = true := by kernel_rfl

/- duodecimo/duodecimoref01.letter -/
def ann108 : Ann := { muts := [], nilsz := [], oid := [], frz := [], zero := [], ord := [], ap := [], own := [], yl := [], fz := [], imm := [] }
def m108 : MCode := (.seq (.reg [.asg 2 (.c (.lit (.bool false)))])
 (.seq (.reg [.cpy 3 (.t 0), .bin 4 .geq (.t 3) (.c (.lit (.int .u8 97))), .cpy 5 (.t 4), .guard 5 true (some 6) (.cpy 6 (.t 0)), .guard 5 true (some 7) (.bin 7 .leq (.t 6) (.c (.lit (.int .u8 122)))), .pick 8 (.t 5) (.t 7) (.c (.lit (.bool false))), .asg 2 (.t 8)])
 .ret))
def r108 : List MRes := [.tmp 2]
theorem tr108 : Try.f108.body.bind (trC Try.prog ann108 Try.f108.ntmps) = some m108 := by kernel_rfl
theorem rs108 : trRes Try.prog Try.f108.results.toList = some r108 := by kernel_rfl
theorem fn108 : isFunc Try.prog 108 = true := by kernel_rfl

/- duodecimo/duodecimoref01.digit -/
def ann109 : Ann := { muts := [], nilsz := [], oid := [], frz := [], zero := [], ord := [], ap := [], own := [], yl := [], fz := [], imm := [] }
def m109 : MCode := (.seq (.reg [.asg 2 (.c (.lit (.bool false)))])
 (.seq (.reg [.cpy 3 (.t 0), .bin 4 .geq (.t 3) (.c (.lit (.int .u8 48))), .cpy 5 (.t 4), .guard 5 true (some 6) (.cpy 6 (.t 0)), .guard 5 true (some 7) (.bin 7 .leq (.t 6) (.c (.lit (.int .u8 57)))), .pick 8 (.t 5) (.t 7) (.c (.lit (.bool false))), .asg 2 (.t 8)])
 .ret))
def r109 : List MRes := [.tmp 2]
theorem tr109 : Try.f109.body.bind (trC Try.prog ann109 Try.f109.ntmps) = some m109 := by kernel_rfl
theorem rs109 : trRes Try.prog Try.f109.results.toList = some r109 := by kernel_rfl
theorem fn109 : isFunc Try.prog 109 = true := by kernel_rfl
end Go.Proofs.Ytcfeipphmklakaa

namespace Go.Proofs.Ytcfeipphmklakaa
open Go.Avm

abbrev I (n : Int) : AV := .lit (.int .i64 n)
abbrev B (b : Bool) : AV := .lit (.bool b)
abbrev S (s : ByteArray) : AV := .lit (.string s)
abbrev IL (l : List Int) : AV := .slice 1 (l.map I) 0

theorem fits_len {sz : Nat} {xs : List AV} {r : Nat} (h : Fits (.slice sz xs r)) : xs.length ≤ 140737488355328 := by
  obtain ⟨w, A, v, h⟩ := h
  cases h with
  | nils => simp
  | slice _ _ _ b off cap vs hsz h1c hcap hlen hc hr => exact hlen

theorem take_snoc {α : Type} {l : List α} {k : Nat} (h : k < l.length) : l.take (k + 1) = l.take k ++ [l[k]] := List.take_succ_eq_append_getElem h

@[simp] theorem big_ne (b k : Nat) (h : k < 1000001) : (1000001 + b = k) = False := by simp; omega
@[simp] theorem big_ne' (b k : Nat) (h : k < 1000001) : (k = 1000001 + b) = False := by simp; omega
@[simp] theorem big_le (b : Nat) : (1000000 ≤ 1000001 + b) = True := by simp; omega

theorem loadK_ref (loc : Nat → Option (List AV)) (cs : List AV) (K : AV → Prop) : loadK loc (.ref cs) none K = (0 < cs.length ∧ K (cs.getD 0 .any).erase) := rfl
theorem loadK_refn (loc : Nat → Option (List AV)) (cs : List AV) (n : Nat) (K : AV → Prop) : loadK loc (.ref cs) (some n) K = (0 + n ≤ cs.length ∧ K (AV.agg ((cs.drop 0).take n)).erase.erase) := rfl
theorem loadK_mref (loc : Nat → Option (List AV)) (b o : Nat) (n : Option Nat) (K : AV → Prop) : loadK loc (.mref b o) n K = (match loc b with | some cs => partK cs o n K | none => False) := rfl
theorem partK_none (cs : List AV) (o : Nat) (K : AV → Prop) : partK cs o none K = (o < cs.length ∧ K (cs.getD o .any)) := rfl
theorem partK_some (cs : List AV) (o n : Nat) (K : AV → Prop) : partK cs o (some n) K = (o + n ≤ cs.length ∧ K (AV.agg ((cs.drop o).take n)).erase) := rfl
attribute [simp] loadK_ref loadK_refn loadK_mref partK_none partK_some

/-- The place of the first with a property, -1 where there is none. -/
def firstAt {α : Type} (p : α → Bool) (l : List α) : Int := match l.findIdx? p with
  | some i => i
  | none => -1

theorem firstAt_some {α : Type} {p : α → Bool} {l : List α} {k : Nat} (hk : k < l.length) (h : p l[k] = true) (hno : ∀ x ∈ l.take k, p x = false) : firstAt p l = k := by
  have : l.findIdx? p = some k := by
    rw [List.findIdx?_eq_some_iff_getElem]
    refine ⟨hk, h, fun j hj => ?_⟩
    have := hno l[j] (List.mem_take_iff_getElem.2 ⟨j, by omega, rfl⟩)
    simp [this]
  simp [firstAt, this]

theorem firstAt_none {α : Type} {p : α → Bool} {l : List α} (hno : ∀ x ∈ l, p x = false) : firstAt p l = -1 := by
  have : l.findIdx? p = none := by rw [List.findIdx?_eq_none_iff]; simpa using hno
  simp [firstAt, this]

theorem indexFunc_ok (l : List Int) (f : FuncId) (caps : List AV) (p : Int → Bool) (hp : ∀ x ∈ l, PCall Try.prog f (I x :: caps) (B (p x))) :
    PCall Try.prog 107 [IL l, .func (.func f) [] caps] (I (firstAt p l)) := by
  refine pcall Try.func107 tr107 rs107 fn107 (by simp [Try.ntmps107]) fun hfit => ?_
  have hl := fits_len (hfit 0)
  simp only [List.length_map] at hl
  simp -implicitDefEqProofs [m107]
  refine loop_up l.length (fun k s => s.env 0 = IL l ∧ s.env 1 = .func (.func f) [] caps ∧ s.env 7 = I l.length ∧ s.env 8 = I k ∧ ∀ x ∈ l.take k, p x = false) ?_ ?_
  · simp
  · rintro k s hk ⟨e0, e1, e7, e8, hno⟩
    simp -implicitDefEqProofs [e7, e8]
    refine cond_dec (fun hlt => ?_) (fun hge => ?_)
    · simp -implicitDefEqProofs [e0, e1, e8, hlt, vCallv]
      refine vCall_of (hp l[k] (List.getElem_mem _)) ?_
      simp -implicitDefEqProofs
      refine cond_bool (fun he => ?_) (fun he => ?_)
      · have hc := firstAt_some hlt he hno
        simp -implicitDefEqProofs [r107, hc]
      · simp -implicitDefEqProofs [e8]
        refine ⟨i64 (by omega) (by omega), round_ok hlt ⟨by simp [e0], by simp [e1], by simp [e7], by simp, ?_⟩⟩
        intro x hx
        rw [take_snoc hlt, List.mem_append, List.mem_singleton] at hx
        rcases hx with hx | rfl
        · exact hno x hx
        · exact he
    · obtain rfl : k = l.length := by omega
      rw [List.take_length] at hno
      have hc := firstAt_none hno
      simp -implicitDefEqProofs [r107, hc]

theorem firstAt_any {α : Type} (p : α → Bool) (l : List α) : decide (0 ≤ firstAt p l) = l.any p := by
  unfold firstAt
  cases h : l.findIdx? p with
  | none =>
    rw [List.findIdx?_eq_none_iff] at h
    simpa using h
  | some i =>
    obtain ⟨hi, hp, _⟩ := List.findIdx?_eq_some_iff_getElem.1 h
    simp
    exact ⟨_, List.getElem_mem hi, hp⟩

theorem outside1_ok (n lo hi : Int) : PCall Try.prog 90 [I n, .ref [I lo], .ref [I hi]] (B (decide (n < lo) || decide (hi < n))) := by
  refine pcall Try.func90 tr90 rs90 fn90 (by simp [Try.ntmps90]) fun _ => ?_
  by_cases h : n < lo <;> simp -implicitDefEqProofs [m90, r90, h, vLoad, vPart]

theorem containsFunc_ok (l : List Int) (f : FuncId) (caps : List AV) (p : Int → Bool) (hp : ∀ x ∈ l, PCall Try.prog f (I x :: caps) (B (p x))) :
    PCall Try.prog 89 [IL l, .func (.func f) [] caps] (B (l.any p)) := by
  refine pcall Try.func89 tr89 rs89 fn89 (by simp [Try.ntmps89]) fun _ => ?_
  simp -implicitDefEqProofs [m89]
  refine vCall_of (indexFunc_ok l f caps p hp) ?_
  simp -implicitDefEqProofs [r89, firstAt_any]

/-- Whether one of some numbers is not from lo to hi. -/
def out (lo hi : Int) (l : List Int) : Bool := l.any fun n => decide (n < lo) || decide (hi < n)

theorem outside_ok (lo hi : Int) (l : List Int) : PCall Try.prog 51 [I lo, I hi, IL l] (B (out lo hi l)) := by
  refine pcall Try.func51 tr51 rs51 fn51 (by simp [Try.ntmps51]) fun _ => ?_
  simp -implicitDefEqProofs [m51]
  refine vCall_of (containsFunc_ok l 90 [.ref [I lo], .ref [I hi]] _ fun x _ => outside1_ok x lo hi) ?_
  simp -implicitDefEqProofs [r51, out]

theorem in_ok (n lo hi : Int) : PCall Try.prog 60 [I n, I lo, I hi] (B (decide (lo ≤ n ∧ n ≤ hi))) := by
  refine pcall Try.func60 tr60 rs60 fn60 (by simp [Try.ntmps60]) fun _ => ?_
  by_cases h : lo ≤ n <;> simp -implicitDefEqProofs [m60, r60, h]
end Go.Proofs.Ytcfeipphmklakaa

namespace Go.Proofs.Ytcfeipphmklakaa
open Go.Avm

/-- A byte of a string. -/
def bt (s : ByteArray) (k : Nat) : Nat := (s.data.toList.getD k 0).toNat

theorem data_bt (s : ByteArray) (k : Nat) (h : k < s.data.size) : (s.data[k]'h).toNat = bt s k := by
  have : s.data[k]? = some (s.data[k]'h) := Array.getElem?_eq_getElem h
  simp [bt, List.getD_eq_getElem?_getD, this]

theorem bt_lt (s : ByteArray) (k : Nat) : bt s k < 256 := UInt8.toNat_lt _

theorem get_bt (s : ByteArray) {k : Nat} (h : k < s.size) : (s.get! k).toNat = bt s k := by
  cases s with
  | mk a =>
    have h' : k < a.size := h
    simp [ByteArray.get!, bt, List.getD_eq_getElem?_getD, h']

theorem decode_small {s : ByteArray} {k : Nat} (h : k < s.size) (hb : bt s k < 128) : Utf8.decode s k = (bt s k, 1) := by
  have e := get_bt s h
  unfold Utf8.decode
  simp only [Nat.add_zero, e, hb, if_true]

theorem decode_big {s : ByteArray} {k : Nat} (h : k < s.size) (hb : ¬ bt s k < 128) : 128 ≤ (Utf8.decode s k).1 := by
  have e := get_bt s h
  unfold Utf8.decode
  simp only [Nat.add_zero, e, hb, if_false]
  repeat' split
  all_goals simp_all [Utf8.runeError]
  all_goals omega

def isLetter (c : Nat) : Bool := decide (97 ≤ c ∧ c ≤ 122)
def isDigit (c : Nat) : Bool := decide (48 ≤ c ∧ c ≤ 57)
/-- Whether a letter of a name may be at a place. -/
def okAt (k c : Nat) : Bool := isLetter c || (decide (0 < k) && (isDigit c || decide (c = 46)))

def nameOK (s : ByteArray) : Bool := decide (0 < s.size ∧ s.size ≤ 16 ∧ ∀ k < s.size, okAt k (bt s k) = true)

theorem letter_ok (c : Nat) : PCall Try.prog 108 [.lit (.int .u8 c)] (B (isLetter c)) := by
  refine pcall Try.func108 tr108 rs108 fn108 (by simp [Try.ntmps108]) fun _ => ?_
  by_cases h : 97 ≤ c
  · have h' : (97 : Int) ≤ (c : Int) := by omega
    have e : isLetter c = decide ((c : Int) ≤ 122) := by unfold isLetter; rw [decide_eq_decide]; omega
    simp -implicitDefEqProofs [m108, r108, h', e]
  · have h' : ¬ (97 : Int) ≤ (c : Int) := by omega
    have e : isLetter c = false := by unfold isLetter; simp; omega
    simp -implicitDefEqProofs [m108, r108, h', e]

theorem digit_ok (c : Nat) : PCall Try.prog 109 [.lit (.int .u8 c)] (B (isDigit c)) := by
  refine pcall Try.func109 tr109 rs109 fn109 (by simp [Try.ntmps109]) fun _ => ?_
  by_cases h : 48 ≤ c
  · have h' : (48 : Int) ≤ (c : Int) := by omega
    have e : isDigit c = decide ((c : Int) ≤ 57) := by unfold isDigit; rw [decide_eq_decide]; omega
    simp -implicitDefEqProofs [m109, r109, h', e]
  · have h' : ¬ (48 : Int) ≤ (c : Int) := by omega
    have e : isDigit c = false := by unfold isDigit; simp; omega
    simp -implicitDefEqProofs [m109, r109, h', e]

theorem name_ref_ok (s : ByteArray) : PCall Try.prog 93 [S s] (B (nameOK s)) := by
  refine pcall Try.func93 tr93 rs93 fn93 (by simp [Try.ntmps93]) fun _ => ?_
  by_cases h0 : s.size = 0
  · have e : nameOK s = false := decide_eq_false fun h => by obtain ⟨_, _, _⟩ := h; omega
    simp -implicitDefEqProofs [m93, r93, h0, e]
  by_cases h1 : (16 : Int) < s.size
  · have e : nameOK s = false := decide_eq_false fun h => by obtain ⟨_, _, _⟩ := h; omega
    have h0' : ((s.size : Int) == 0) = false := beq_eq_false_iff_ne.2 (by omega)
    simp -implicitDefEqProofs [m93, r93, h0', h1, e]
  have h0' : ((s.size : Int) == 0) = false := beq_eq_false_iff_ne.2 (by omega)
  simp -implicitDefEqProofs [m93, h0', h1]
  refine loop_up s.size (fun k st => st.env 0 = S s ∧ st.env 3 = I k ∧ ∀ j < k, okAt j (bt s j) = true) ?_ ?_
  · simp
  · rintro k st hk ⟨e0, e3, hno⟩
    simp -implicitDefEqProofs [e0, e3]
    refine cond_dec (fun hlt => ?_) (fun hge => ?_)
    · have hlt' : k < s.size := by omega
      simp -implicitDefEqProofs [e0, e3, hlt', data_bt]
      refine vCall_of (letter_ok (bt s k)) ?_
      have next : okAt k (bt s k) = true → ∀ j < k + 1, okAt j (bt s j) = true := fun h j hj => by
        rcases Nat.lt_succ_iff_lt_or_eq.1 hj with hj | rfl
        · exact hno j hj
        · exact h
      have bad : okAt k (bt s k) = false → nameOK s = false := fun h => by
        unfold nameOK
        simp only [decide_eq_false_iff_not]
        rintro ⟨_, _, h'⟩
        rw [h' k hlt'] at h
        cases h
      cases hL : isLetter (bt s k) with
      | true =>
        simp -implicitDefEqProofs [e3]
        exact ⟨i64 (by omega) (by omega), round_ok hlt' ⟨by simp [e0], by simp, next (by simp [okAt, hL])⟩⟩
      | false =>
        by_cases hk0 : k = 0
        · subst hk0
          simp -implicitDefEqProofs [e3]
          simp -implicitDefEqProofs [r93, bad (by simp [okAt, hL])]
        · have hk0' : ((k : Int) == 0) = false := beq_eq_false_iff_ne.2 (by omega)
          simp -implicitDefEqProofs [e0, e3, hk0', hlt', data_bt]
          refine vCall_of (digit_ok (bt s k)) ?_
          cases hD : isDigit (bt s k) with
          | true =>
            simp -implicitDefEqProofs [e3]
            exact ⟨i64 (by omega) (by omega), round_ok hlt' ⟨by simp [e0], by simp, next (by simp [okAt, hL, hD]; omega)⟩⟩
          | false =>
            simp -implicitDefEqProofs [e0, e3, hlt', data_bt]
            refine cond_bool (fun he => ?_) (fun he => ?_)
            · simp -implicitDefEqProofs [r93]
              refine bad ?_
              have : bt s k ≠ 46 := by simp at he; omega
              simp [okAt, hL, hD, this]
            · simp -implicitDefEqProofs [e3]
              refine ⟨i64 (by omega) (by omega), round_ok hlt' ⟨by simp [e0], by simp, next ?_⟩⟩
              have : bt s k = 46 := by simp at he; omega
              simp [okAt, this]; omega
    · obtain rfl : k = s.size := by omega
      have e : nameOK s = true := by unfold nameOK; simp; exact ⟨by omega, by omega, hno⟩
      simp -implicitDefEqProofs [r93, e]

theorem okAt_lt {k c : Nat} (h : okAt k c = true) : c < 128 := by
  simp [okAt, isLetter, isDigit] at h
  omega

theorem okAt_decode {s : ByteArray} {k : Nat} (h : k < s.size) : okAt k (Utf8.decode s k).1 = okAt k (bt s k) ∧ (okAt k (Utf8.decode s k).1 = true → (Utf8.decode s k).2 = 1) := by
  by_cases hb : bt s k < 128
  · rw [decode_small h hb]; exact ⟨rfl, fun _ => rfl⟩
  · have h1 := decode_big h hb
    have e1 : okAt k (Utf8.decode s k).1 = false := by
      cases e : okAt k (Utf8.decode s k).1 with
      | false => rfl
      | true => have := okAt_lt e; omega
    have e2 : okAt k (bt s k) = false := by
      cases e : okAt k (bt s k) with
      | false => rfl
      | true => have := okAt_lt e; omega
    rw [e1, e2]; exact ⟨rfl, fun h => by cases h⟩

theorem loop_eq (s : ByteArray) : ∀ (n i : Nat) (r : List UInt8), s.size - i = n → ByteArray.toList.loop s i r = r.reverse ++ s.data.toList.drop i
  | 0, i, r, h => by
    unfold ByteArray.toList.loop
    have : ¬ i < s.size := by omega
    rw [if_neg this, List.drop_of_length_le (by simpa using (by omega : s.size ≤ i)), List.append_nil]
  | n + 1, i, r, h => by
    unfold ByteArray.toList.loop
    have hi : i < s.size := by omega
    rw [if_pos hi, loop_eq s n (i + 1) _ (by omega)]
    have e : s.data.toList.drop i = s.get! i :: s.data.toList.drop (i + 1) := by
      rw [List.drop_eq_getElem_cons (by simpa using hi)]
      congr 1
      cases s with
      | mk a =>
        have hi' : i < a.size := hi
        simp [ByteArray.get!, hi']
    rw [e]
    simp
theorem toList_data (s : ByteArray) : s.toList = s.data.toList := by
  unfold ByteArray.toList
  rw [loop_eq s _ 0 [] rfl]; simp

theorem isEmpty_str (s : ByteArray) : s.toList.isEmpty = decide (s.size = 0) := by
  rw [toList_data]
  have : s.size = s.data.toList.length := by simp
  rw [this]
  cases s.data.toList <;> simp

theorem name_ok (s : ByteArray) : PCall Try.prog 91 [S s] (B (nameOK s)) := by
  refine pcall Try.func91 tr91 rs91 fn91 (by simp [Try.ntmps91]) fun _ => ?_
  simp -implicitDefEqProofs [m91]
  intro b
  refine loop_up s.size (fun k st => st.env 0 = S s ∧ st.env 6 = .mref b 0 ∧ st.env (oS + b) = itAV s k ∧ ∀ j < k, okAt j (bt s j) = true) ?_ ?_
  · simp
  · rintro k st hk ⟨e0, e6, eo, hno⟩
    simp -implicitDefEqProofs [e6]
    refine ⟨s, k, by simpa using eo, fun hlt => ?_, fun hge => ?_⟩
    · obtain ⟨d1, d2⟩ := okAt_decode hlt
      generalize hr : (Utf8.decode s k).1 = r at d1 d2
      have good : okAt k r = true → (Utf8.decode s k).2 = 1 ∧ ∀ j < k + 1, okAt j (bt s j) = true := fun h => ⟨d2 h, fun j hj => by
        rcases Nat.lt_succ_iff_lt_or_eq.1 hj with hj | rfl
        · exact hno j hj
        · rw [← d1]; exact h⟩
      have bad : okAt k r = false → nameOK s = false := fun h => decide_eq_false fun h' => by
        have := h'.2.2 k hlt
        rw [← d1, h] at this
        cases this
      by_cases c1 : (97 : Int) ≤ (r : Int)
      · by_cases c2 : (r : Int) ≤ 122
        · simp -implicitDefEqProofs [c1, c2]
          have hg := good (by simp [okAt, isLetter]; omega)
          rw [hg.1]
          exact round_ok hlt ⟨by simp [e0], by simp [e6], by simp, hg.2⟩
        · simp -implicitDefEqProofs [c1, c2]
          by_cases c3 : 0 < k
          · have c4 : (48 : Int) ≤ (r : Int) := by omega
            have c5 : ¬ (r : Int) ≤ 57 := by omega
            have c6 : ((r : Int) == 46) = false := beq_eq_false_iff_ne.2 (by omega)
            simp -implicitDefEqProofs [c3, c4, c5, c6]
            simp -implicitDefEqProofs [r91, bad (by simp [okAt, isLetter, isDigit]; omega)]
          · simp -implicitDefEqProofs [c3]
            simp -implicitDefEqProofs [r91, bad (by simp [okAt, isLetter, c3]; omega)]
      · simp -implicitDefEqProofs [c1]
        by_cases c3 : 0 < k
        · by_cases c4 : (48 : Int) ≤ (r : Int)
          · by_cases c5 : (r : Int) ≤ 57
            · simp -implicitDefEqProofs [c3, c4, c5]
              have hg := good (by simp [okAt, isDigit, c3]; omega)
              rw [hg.1]
              exact round_ok hlt ⟨by simp [e0], by simp [e6], by simp, hg.2⟩
            · have c6 : ((r : Int) == 46) = false := beq_eq_false_iff_ne.2 (by omega)
              simp -implicitDefEqProofs [c3, c4, c5, c6]
              simp -implicitDefEqProofs [r91, bad (by simp [okAt, isLetter, isDigit]; omega)]
          · simp -implicitDefEqProofs [c3, c4]
            refine cond_bool (fun he => ?_) (fun he => ?_)
            · have hr : (r : Int) = 46 := by simpa using he
              have hg := good (by simp [okAt, c3]; omega)
              simp -implicitDefEqProofs
              rw [hg.1]
              exact round_ok hlt ⟨by simp [e0], by simp [e6], by simp, hg.2⟩
            · have hr : (r : Int) ≠ 46 := by simpa using he
              simp -implicitDefEqProofs [r91, bad (by simp [okAt, isLetter, isDigit]; omega)]
        · simp -implicitDefEqProofs [c3]
          simp -implicitDefEqProofs [r91, bad (by simp [okAt, isLetter, c3]; omega)]
    · obtain rfl : k = s.size := by omega
      simp -implicitDefEqProofs [e0]
      rw [isEmpty_str]
      by_cases h0 : s.size = 0
      · have e : nameOK s = false := decide_eq_false fun h => by obtain ⟨_, _, _⟩ := h; omega
        simp -implicitDefEqProofs [h0, r91, e]
      · simp -implicitDefEqProofs [h0, r91, e0]
        by_cases h1 : s.size ≤ 16
        · have e : nameOK s = true := decide_eq_true ⟨by omega, h1, hno⟩
          rw [e]; simp; omega
        · have e : nameOK s = false := decide_eq_false fun h => by obtain ⟨_, _, _⟩ := h; omega
          rw [e]; simp; omega
end Go.Proofs.Ytcfeipphmklakaa

namespace Go.Proofs.Ytcfeipphmklakaa
open Go.Avm

abbrev SL (l : List ByteArray) : AV := .slice 1 (l.map S) 0

def sEq (p q : ByteArray) : Bool := p.toList == q.toList

theorem sEq_comm (p q : ByteArray) : sEq p q = sEq q p := by unfold sEq; rw [Bool.beq_comm]

theorem place_ok (l : List ByteArray) (x : ByteArray) : PCall Try.prog 92 [SL l, S x] (I (firstAt (fun y => sEq y x) l)) := by
  refine pcall Try.func92 tr92 rs92 fn92 (by simp [Try.ntmps92]) fun hfit => ?_
  have hl := fits_len (hfit 0)
  simp only [List.length_map] at hl
  simp -implicitDefEqProofs [m92]
  refine ⟨i64 (by omega) (by omega), ?_⟩
  refine loop_up l.length (fun k s => s.env 0 = SL l ∧ s.env 1 = S x ∧ (∃ i : Int, i = l.length - 1 - k ∧ s.env 5 = I i) ∧ ∀ j (hj : j < l.length), l.length < j + 1 + k → sEq l[j] x = false) ?_ ?_
  · simp
    intro j hj h; omega
  · rintro k s hk ⟨e0, e1, ⟨i, hi, e5⟩, hno⟩
    simp -implicitDefEqProofs [e5]
    by_cases hlt : k < l.length
    · have h0 : 0 ≤ i := by omega
      obtain ⟨n, rfl⟩ : ∃ n : Nat, i = n := ⟨i.toNat, by omega⟩
      have hn : n < l.length := by omega
      simp -implicitDefEqProofs [e0, e1, e5, hn]
      refine cond_bool (fun he => ?_) (fun he => ?_)
      · simp -implicitDefEqProofs [e5]
        refine ⟨i64 (by omega) (by omega), round_ok hlt ⟨by simp [e0], by simp [e1], by simp; omega, ?_⟩⟩
        intro j hj hjk
        by_cases hjj : n < j
        · exact hno j hj (by omega)
        · obtain rfl : j = n := by omega
          simpa [sEq] using he
      · have hx : sEq l[n] x = true := by simpa [sEq] using he
        simp -implicitDefEqProofs
        refine loop_up n (fun j s => s.env 0 = SL l ∧ s.env 1 = S x ∧ s.env 5 = I n ∧ s.env 6 = I j ∧ ∀ y ∈ l.take j, sEq y x = false) ?_ ?_
        · simp [e0, e1, e5]
        · rintro j s hj ⟨e0, e1, e5, e6, hno'⟩
          simp -implicitDefEqProofs [e5, e6]
          refine cond_dec (fun hlt => ?_) (fun hge => ?_)
          · have hjl : j < l.length := by omega
            simp -implicitDefEqProofs [e0, e1, e6, hjl]
            refine cond_bool (fun he => ?_) (fun he => ?_)
            · have hc := firstAt_some (p := fun y => sEq y x) hjl (by simpa [sEq] using he) hno'
              simp -implicitDefEqProofs [r92, e6, hc]
            · simp -implicitDefEqProofs [e6]
              refine ⟨i64 (by omega) (by omega), round_ok (by omega) ⟨by simp [e0], by simp [e1], by simp [e5], by simp, ?_⟩⟩
              intro y hy
              rw [take_snoc hjl, List.mem_append, List.mem_singleton] at hy
              rcases hy with hy | rfl
              · exact hno' y hy
              · simpa [sEq] using he
          · obtain rfl : j = n := by omega
            have hc := firstAt_some (p := fun y => sEq y x) hn hx hno'
            simp -implicitDefEqProofs [r92, e5, hc]
    · obtain rfl : k = l.length := by omega
      have h0 : ¬ 0 ≤ i := by omega
      have h1 : i = -1 := by omega
      subst h1
      simp -implicitDefEqProofs
      have hc := firstAt_none (p := fun y => sEq y x) (l := l) (fun y hy => by
        obtain ⟨j, hj, rfl⟩ := List.mem_iff_getElem.1 hy
        exact hno j hj (by omega))
      refine loop_up 0 (fun j s => s.env 5 = I (-1) ∧ s.env 6 = I 0) ?_ ?_
      · simp [e5]
      · rintro j s hj ⟨e5, e6⟩
        simp -implicitDefEqProofs [e5, e6, r92, hc]

/-- The error of a name, behind others. -/
def namedE (name : ByteArray) (before : List ByteArray) : Int := if nameOK name then (if before.any fun s => sEq s name then 5 else 0) else 6

theorem fresh_ok (name : ByteArray) (l : List ByteArray) : PCall Try.prog 61 [S name, SL l] (I (namedE name l)) := by
  refine pcall Try.func61 tr61 rs61 fn61 (by simp [Try.ntmps61]) fun hfit => ?_
  simp -implicitDefEqProofs [m61]
  refine vCall_of (place_ok l name) ?_
  have e := firstAt_any (fun y => sEq y name) l
  cases h : l.any fun y => sEq y name with
  | true =>
    rw [h] at e
    have e' : 0 ≤ firstAt (fun y => sEq y name) l := of_decide_eq_true e
    simp -implicitDefEqProofs [e']
    refine vCall_of (name_ref_ok name) ?_
    cases hn : nameOK name <;> simp -implicitDefEqProofs [r61, namedE, hn, h]
  | false =>
    rw [h] at e
    have e' : ¬ 0 ≤ firstAt (fun y => sEq y name) l := of_decide_eq_false e
    simp -implicitDefEqProofs [e']
    refine vCall_of (name_ref_ok name) ?_
    cases hn : nameOK name <;> simp -implicitDefEqProofs [r61, namedE, hn, h]

/-- A function's errors of the names of the first ones, handed over one by one: an iterator. -/
theorem named_ok (name : ByteArray) (l : List ByteArray) (f : FuncId) (caps : List AV) (h : PSeq Try.prog f [] caps (l.map fun s => [S s])) :
    PCall Try.prog 54 [S name, .func (.func f) [] caps] (I (namedE name l)) := by
  refine pcall Try.func54 tr54 rs54 fn54 (by simp [Try.ntmps54]) fun hfit => ?_
  simp -implicitDefEqProofs [m54]
  intro b
  refine vCall_of (name_ok name) ?_
  cases hn : nameOK name with
  | false =>
    simp -implicitDefEqProofs [vStore, vStoreL]
    simp -implicitDefEqProofs [r54, namedE, hn]
  | true =>
    simp -implicitDefEqProofs
    refine range_of _ (fun k s => s.env 2 = .ref [S name] ∧ s.env 4 = .mref b 0 ∧ s.loc b = some [I 0] ∧ ∀ y ∈ l.take k, sEq y name = false) h (by simp) ?_ ?_ ?_
    · simp
    · rintro k st hk hb ⟨e2, e4, el, hno⟩
      have hk' : k < l.length := by simpa using hk
      simp -implicitDefEqProofs [hk', e2]
      refine cond_bool (fun he => ?_) (fun he => ?_)
      · simp -implicitDefEqProofs [e4, el]
        have hc : (l.any fun s => sEq s name) = true := List.any_eq_true.2 ⟨l[k], List.getElem_mem _, by simpa [sEq] using he⟩
        simp -implicitDefEqProofs [r54, namedE, hn, hc]
      · simp -implicitDefEqProofs [el]
        intro y hy
        rw [take_snoc hk', List.mem_append, List.mem_singleton] at hy
        rcases hy with hy | rfl
        · exact hno y hy
        · simpa [sEq] using he
    · rintro st hb ⟨e2, e4, el, hno⟩
      have hc : (l.any fun s => sEq s name) = false := by
        rw [List.any_eq_false]
        intro y hy
        have := hno y (by simpa using hy)
        simp [this]
      simp -implicitDefEqProofs [e4, el, r54, namedE, hn, hc]
end Go.Proofs.Ytcfeipphmklakaa

namespace Go.Proofs.Ytcfeipphmklakaa
open Go.Avm

structure Fmt where
  name : ByteArray
  folds : ByteArray

structure Spn where
  lo : Int
  hi : Int

structure Ppr where
  name : ByteArray
  wide : Spn
  high : Spn

structure Prs where
  fmts : List Fmt
  pprs : List Ppr
  trim : Int
  sheets : Int

abbrev Fmt.cs (f : Fmt) : List AV := [S f.name, S f.folds]
abbrev Fmt.av (f : Fmt) : AV := .agg f.cs
abbrev Spn.av (s : Spn) : AV := .agg [I s.lo, I s.hi]
abbrev Ppr.cs (p : Ppr) : List AV := [S p.name, I p.wide.lo, I p.wide.hi, I p.high.lo, I p.high.hi]
abbrev Ppr.av (p : Ppr) : AV := .agg p.cs
abbrev Prs.cs (p : Prs) : List AV := [.slice 2 (p.fmts.map Fmt.av) 0, .slice 5 (p.pprs.map Ppr.av) 0, I p.trim, I p.sheets]
abbrev Prs.av (p : Prs) : AV := .agg p.cs

abbrev PRef (p : Prs) : AV := .ref p.cs
abbrev IRef (i : Int) : AV := .ref [I i]

theorem fits_ref {cs : List AV} (h : Fits (.ref cs)) (i : Nat) : Fits (cs.getD i .any) := by
  obtain ⟨w, A, v, h⟩ := h
  cases h with
  | ref _ b off vs hc hr => exact ⟨w, A, _, hr i⟩

theorem fits_agg {cs : List AV} (h : Fits (.agg cs)) (i : Nat) : Fits (cs.getD i .any) := by
  obtain ⟨w, A, v, h⟩ := h
  cases h with
  | agg _ vs hs hr => exact ⟨w, A, _, hr i⟩

theorem drop_cons {α : Type} {l : List α} {k : Nat} (h : k < l.length) : l.drop k = l[k] :: l.drop (k + 1) := List.drop_eq_getElem_cons h

/-- The names of the formats ahead of one. -/
theorem names_fmt (p : Prs) (i : Nat) (hi : i ≤ p.fmts.length) : PSeq Try.prog 55 [] [PRef p, IRef i] (((p.fmts.take i).map Fmt.name).map fun s => [S s]) := by
  refine pseq Try.func55 tr55 rs55 fn55 (by simp [Try.ntmps55]) fun l hfit => ?_
  have hl : p.fmts.length ≤ 140737488355328 := by simpa using fits_len (fits_ref (hfit 1) 0)
  simp -implicitDefEqProofs [m55]
  refine ⟨hi, ?_⟩
  refine loop_up i (fun k s => s.env 0 = .func (.yield l) [] [] ∧ s.env 9 = .slice 2 ((p.fmts.take i).map Fmt.av) 0 ∧ s.env 10 = I i ∧ s.env 11 = I k ∧ s.env gS = .ghost l (((p.fmts.take i).drop k).map fun f => [S f.name]) false) ?_ ?_
  · simp [List.map_take]; refine ⟨by omega, ?_⟩; rfl
  · rintro k s hk ⟨e0, e9, e10, e11, eg⟩
    simp -implicitDefEqProofs [e10, e11]
    refine cond_dec (fun hlt => ?_) (fun hge => ?_)
    · have hlt' : k < (p.fmts.take i).length := by simp; omega
      have hlt2 : k < p.fmts.length := by omega
      rw [drop_cons hlt'] at eg
      simp at eg
      simp -implicitDefEqProofs [e0, e9, e11, hlt, hlt2, eg]
      refine ⟨by omega, fun b hb => ⟨i64 (by omega) (by omega), round_ok (by omega) ⟨by simp [e0], by simp [e9, List.map_take], by simp [e10], by simp, by simp⟩⟩⟩
    · obtain rfl : k = i := by omega
      simp at eg
      simp -implicitDefEqProofs [eg]
/-- The names of the papers ahead of one. -/
theorem names_ppr (p : Prs) (i : Nat) (hi : i ≤ p.pprs.length) : PSeq Try.prog 58 [] [PRef p, IRef i] (((p.pprs.take i).map Ppr.name).map fun s => [S s]) := by
  refine pseq Try.func58 tr58 rs58 fn58 (by simp [Try.ntmps58]) fun l hfit => ?_
  have hl : p.pprs.length ≤ 140737488355328 := by simpa using fits_len (fits_ref (hfit 1) 1)
  simp -implicitDefEqProofs [m58]
  refine ⟨hi, ?_⟩
  refine loop_up i (fun k s => s.env 0 = .func (.yield l) [] [] ∧ s.env 9 = .slice 5 ((p.pprs.take i).map Ppr.av) 0 ∧ s.env 10 = I i ∧ s.env 11 = I k ∧ s.env gS = .ghost l (((p.pprs.take i).drop k).map fun f => [S f.name]) false) ?_ ?_
  · simp [List.map_take]; refine ⟨by omega, ?_⟩; rfl
  · rintro k s hk ⟨e0, e9, e10, e11, eg⟩
    simp -implicitDefEqProofs [e10, e11]
    refine cond_dec (fun hlt => ?_) (fun hge => ?_)
    · have hlt' : k < (p.pprs.take i).length := by simp; omega
      have hlt2 : k < p.pprs.length := by omega
      rw [drop_cons hlt'] at eg
      simp at eg
      simp -implicitDefEqProofs [e0, e9, e11, hlt, hlt2, eg]
      refine ⟨by omega, fun b hb => ⟨i64 (by omega) (by omega), round_ok (by omega) ⟨by simp [e0], by simp [e9, List.map_take], by simp [e10], by simp, by simp⟩⟩⟩
    · obtain rfl : k = i := by omega
      simp at eg
      simp -implicitDefEqProofs [eg]

def foldAt (c : Nat) : Bool := decide (c = 120) || decide (c = 121)

/-- The error of folds. -/
def foldsE (s : ByteArray) : Int := if 1 ≤ s.size ∧ s.size ≤ 4 then (if ∀ k < s.size, foldAt (bt s k) = true then 0 else 6) else 3

theorem foldAt_decode {s : ByteArray} {k : Nat} (h : k < s.size) : foldAt (Utf8.decode s k).1 = foldAt (bt s k) ∧ (foldAt (Utf8.decode s k).1 = true → (Utf8.decode s k).2 = 1) := by
  by_cases hb : bt s k < 128
  · rw [decode_small h hb]; exact ⟨rfl, fun _ => rfl⟩
  · have h1 := decode_big h hb
    have e1 : foldAt (Utf8.decode s k).1 = false := by simp [foldAt]; omega
    have e2 : foldAt (bt s k) = false := by simp [foldAt]; omega
    rw [e1, e2]; exact ⟨rfl, fun h => by cases h⟩

/-- The error of a format, behind others. -/
def fmtE (f : Fmt) (before : List Fmt) : Int := if namedE f.name (before.map Fmt.name) = 0 then foldsE f.folds else namedE f.name (before.map Fmt.name)

theorem out1 (lo hi n : Int) : out lo hi [n] = !decide (lo ≤ n ∧ n ≤ hi) := by
  simp only [out, List.any_cons, List.any_nil, Bool.or_false]
  by_cases h1 : lo ≤ n <;> by_cases h2 : n ≤ hi <;> simp [h1, h2] <;> omega

theorem check1_ok (p : Prs) (i : Nat) (hi : i < p.fmts.length) : PCall Try.prog 53 [I i, p.fmts[i].av, PRef p] (I (fmtE p.fmts[i] (p.fmts.take i))) := by
  refine pcall Try.func53 tr53 rs53 fn53 (by simp [Try.ntmps53]) fun hfit => ?_
  have c := named_ok p.fmts[i].name _ 55 [PRef p, IRef i] (names_fmt p i (by omega))
  generalize p.fmts[i] = f at *
  unfold fmtE
  generalize namedE f.name ((p.fmts.take i).map Fmt.name) = e at *
  simp -implicitDefEqProofs [m53]
  refine vCall_of c ?_
  simp -implicitDefEqProofs
  refine cond_bool (fun he => ?_) (fun he => ?_)
  · have h0 : ¬ e = 0 := by simpa using he
    simp -implicitDefEqProofs [h0, r53]
  · have h0 : e = 0 := by simpa using he
    subst h0
    simp -implicitDefEqProofs
    have co := outside_ok 1 4 [(f.folds.size : Int)]
    rw [out1] at co
    by_cases hs : 1 ≤ f.folds.size ∧ f.folds.size ≤ 4
    · rw [decide_eq_true (by omega)] at co
      refine vCall_of co ?_
      simp -implicitDefEqProofs
      intro b _
      refine loop_up f.folds.size (fun k st => st.env 25 = .mref b 0 ∧ st.env (oS + b) = itAV f.folds k ∧ ∀ j < k, foldAt (bt f.folds j) = true) ?_ ?_
      · simp
      · rintro k st hk ⟨e6, eo, hno⟩
        simp -implicitDefEqProofs [e6]
        refine ⟨f.folds, k, by simpa using eo, fun hlt => ?_, fun hge => ?_⟩
        · obtain ⟨d1, d2⟩ := foldAt_decode hlt
          generalize hr : (Utf8.decode f.folds k).1 = r at d1 d2
          have good : foldAt r = true → (Utf8.decode f.folds k).2 = 1 ∧ ∀ j < k + 1, foldAt (bt f.folds j) = true := fun h => ⟨d2 h, fun j hj => by
            rcases Nat.lt_succ_iff_lt_or_eq.1 hj with hj | rfl
            · exact hno j hj
            · rw [← d1]; exact h⟩
          have bad : foldAt r = false → foldsE f.folds = 6 := fun h => by
            unfold foldsE
            rw [if_pos hs, if_neg]
            intro h'
            have := h' k hlt
            rw [← d1, h] at this
            cases this
          by_cases c1 : (r : Int) = 120
          · have c1' : ((r : Int) != 120) = false := by simp [c1]
            simp -implicitDefEqProofs [c1']
            have hg := good (by simp [foldAt]; omega)
            rw [hg.1]
            exact round_ok hlt ⟨by simp [e6], by simp, hg.2⟩
          · have c1' : ((r : Int) != 120) = true := by simp [c1]
            simp -implicitDefEqProofs [c1']
            refine cond_bool (fun he => ?_) (fun he => ?_)
            · have c2 : ¬ (r : Int) = 121 := by simpa using he
              simp -implicitDefEqProofs [r53, bad (by simp [foldAt]; omega)]
            · have c2 : (r : Int) = 121 := by simpa using he
              simp -implicitDefEqProofs
              have hg := good (by simp [foldAt]; omega)
              rw [hg.1]
              exact round_ok hlt ⟨by simp [e6], by simp, hg.2⟩
        · obtain rfl : k = f.folds.size := by omega
          have e : foldsE f.folds = 0 := by unfold foldsE; rw [if_pos hs, if_pos hno]
          simp -implicitDefEqProofs [r53, e]
    · rw [decide_eq_false (by omega)] at co
      refine vCall_of co ?_
      have e : foldsE f.folds = 3 := by unfold foldsE; rw [if_neg hs]
      simp -implicitDefEqProofs [r53, e]
end Go.Proofs.Ytcfeipphmklakaa

namespace Go.Proofs.Ytcfeipphmklakaa
open Go.Avm

/-- The error of two spans. -/
def spansE (lo hi : Int) (a b : Spn) : Int :=
  if out lo hi [a.lo, a.hi, b.lo, b.hi] then 7 else if b.hi < b.lo ∨ a.hi < a.lo then 2 else 0

theorem spans_ok (lo hi : Int) (a b : Spn) : PCall Try.prog 59 [I lo, I hi, a.av, b.av] (I (spansE lo hi a b)) := by
  refine pcall Try.func59 tr59 rs59 fn59 (by simp [Try.ntmps59]) fun _ => ?_
  simp -implicitDefEqProofs [m59]
  refine vCall_of (outside_ok lo hi [a.lo, a.hi, b.lo, b.hi]) ?_
  unfold spansE
  generalize out lo hi [a.lo, a.hi, b.lo, b.hi] = o
  cases o with
  | true => simp -implicitDefEqProofs [r59]
  | false =>
    simp -implicitDefEqProofs
    by_cases h1 : a.hi < a.lo
    · simp -implicitDefEqProofs [h1, r59]
    · by_cases h2 : b.hi < b.lo <;> simp -implicitDefEqProofs [h1, h2, r59]

/-- The error of a span. -/
def rangeE (s : Spn) (lo hi : Int) : Int := if s.lo < lo ∨ s.hi < lo ∨ hi < s.lo ∨ hi < s.hi then 7 else if s.hi < s.lo then 2 else 0

theorem range_ok (s : Spn) (lo hi : Int) : PCall Try.prog 94 [s.av, I lo, I hi] (I (rangeE s lo hi)) := by
  refine pcall Try.func94 tr94 rs94 fn94 (by simp [Try.ntmps94]) fun _ => ?_
  unfold rangeE
  by_cases h : s.hi < s.lo
  · have h' : ¬ s.lo < s.hi := by omega
    by_cases h1 : s.hi < lo
    · simp -implicitDefEqProofs [m94, r94, h, h1]
    · by_cases h2 : hi < s.lo
      · simp -implicitDefEqProofs [m94, r94, h, h', h1, h2]
      · have h3 : ¬ s.lo < lo := by omega
        have h4 : ¬ hi < s.hi := by omega
        simp -implicitDefEqProofs [m94, r94, h, h', h1, h2, h3, h4]
  · by_cases h1 : s.lo < lo
    · simp -implicitDefEqProofs [m94, r94, h, h1]
    · by_cases he : s.lo < s.hi
      · by_cases h2 : hi < s.hi
        · simp -implicitDefEqProofs [m94, r94, h, he, h1, h2]
        · have h3 : ¬ s.hi < lo := by omega
          have h4 : ¬ hi < s.lo := by omega
          simp -implicitDefEqProofs [m94, r94, h, he, h1, h2, h3, h4]
      · have e : s.hi = s.lo := by omega
        by_cases h2 : hi < s.lo
        · simp -implicitDefEqProofs [m94, r94, h1, h2, e]
        · simp -implicitDefEqProofs [m94, r94, h1, h2, e]

theorem spansE_eq (lo hi : Int) (a b : Spn) : spansE lo hi a b = if rangeE a lo hi = 7 ∨ rangeE b lo hi = 7 then 7 else if rangeE a lo hi ≠ 0 then rangeE a lo hi else rangeE b lo hi := by
  unfold spansE rangeE
  simp only [out, List.any_cons, List.any_nil, Bool.or_false, Bool.or_eq_true, decide_eq_true_eq]
  repeat' split
  all_goals first | rfl | omega

theorem both_ok (a b : Spn) (lo hi : Int) : PCall Try.prog 63 [a.av, b.av, I lo, I hi] (I (spansE lo hi a b)) := by
  refine pcall Try.func63 tr63 rs63 fn63 (by simp [Try.ntmps63]) fun _ => ?_
  rw [spansE_eq]
  have ha := range_ok a lo hi
  have hb := range_ok b lo hi
  generalize rangeE a lo hi = x at *
  generalize rangeE b lo hi = y at *
  simp -implicitDefEqProofs [m63]
  refine vCall_of ha ?_
  simp -implicitDefEqProofs
  refine vCall_of hb ?_
  by_cases h1 : x = 7
  · subst h1
    simp -implicitDefEqProofs [r63]
  · have h1' : (x == 7) = false := beq_eq_false_iff_ne.2 h1
    by_cases h2 : y = 7
    · subst h2
      simp -implicitDefEqProofs [r63, h1']
    · have h2' : (y == 7) = false := beq_eq_false_iff_ne.2 h2
      by_cases h3 : x = 0
      · subst h3
        simp -implicitDefEqProofs [r63, h2', h2]
      · have h3' : (x != 0) = true := by simp [h3]
        simp -implicitDefEqProofs [r63, h1', h2', h3', h1, h2, h3]

theorem folds_ok (s : ByteArray) : PCall Try.prog 62 [S s] (I (foldsE s)) := by
  refine pcall Try.func62 tr62 rs62 fn62 (by simp [Try.ntmps62]) fun _ => ?_
  have ci := in_ok s.size 1 4
  simp -implicitDefEqProofs [m62]
  refine vCall_of ci ?_
  by_cases hs : 1 ≤ s.size ∧ s.size ≤ 4
  · have hs' : (1 ≤ (s.size : Int) ∧ (s.size : Int) ≤ 4) := by omega
    rw [decide_eq_true hs']
    simp -implicitDefEqProofs
    refine loop_up s.size (fun k st => st.env 0 = S s ∧ st.env 3 = I k ∧ ∀ j < k, foldAt (bt s j) = true) ?_ ?_
    · simp
    · rintro k st hk ⟨e0, e3, hno⟩
      simp -implicitDefEqProofs [e0, e3]
      refine cond_dec (fun hlt => ?_) (fun hge => ?_)
      · have hlt' : k < s.size := by omega
        have good : foldAt (bt s k) = true → ∀ j < k + 1, foldAt (bt s j) = true := fun h j hj => by
          rcases Nat.lt_succ_iff_lt_or_eq.1 hj with hj | rfl
          · exact hno j hj
          · exact h
        have bad : foldAt (bt s k) = false → foldsE s = 6 := fun h => by
          unfold foldsE
          rw [if_pos hs, if_neg]
          intro h'
          have := h' k hlt'
          rw [h] at this
          cases this
        by_cases c1 : (bt s k : Int) = 120
        · have c1' : ((bt s k : Int) != 120) = false := by simp [c1]
          simp -implicitDefEqProofs [e0, e3, hlt', data_bt, c1']
          exact ⟨i64 (by omega) (by omega), round_ok hlt' ⟨by simp [e0], by simp, good (by simp [foldAt]; omega)⟩⟩
        · have c1' : ((bt s k : Int) != 120) = true := by simp [c1]
          simp -implicitDefEqProofs [e0, e3, hlt', data_bt, c1']
          refine cond_bool (fun he => ?_) (fun he => ?_)
          · have c2 : ¬ (bt s k : Int) = 121 := by simpa using he
            simp -implicitDefEqProofs [r62, bad (by simp [foldAt]; omega)]
          · have c2 : (bt s k : Int) = 121 := by simpa using he
            simp -implicitDefEqProofs [e3]
            exact ⟨i64 (by omega) (by omega), round_ok hlt' ⟨by simp [e0], by simp, good (by simp [foldAt]; omega)⟩⟩
      · obtain rfl : k = s.size := by omega
        have e : foldsE s = 0 := by unfold foldsE; rw [if_pos hs, if_pos hno]
        simp -implicitDefEqProofs [r62, e]
  · have hs' : ¬ (1 ≤ (s.size : Int) ∧ (s.size : Int) ≤ 4) := by omega
    rw [decide_eq_false hs']
    have e : foldsE s = 3 := by unfold foldsE; rw [if_neg hs]
    simp -implicitDefEqProofs [r62, e]
end Go.Proofs.Ytcfeipphmklakaa

namespace Go.Proofs.Ytcfeipphmklakaa
open Go.Avm

/-- The first of some numbers that is not 0, and its place; or 0 twice. -/
def firstE (n : Nat) (e : Nat → Int) : Int × Int := match (List.range n).find? fun i => e i != 0 with
  | some i => (i, e i)
  | none => (0, 0)

theorem firstE_some {n : Nat} {e : Nat → Int} {k : Nat} (hk : k < n) (h : e k ≠ 0) (hno : ∀ j < k, e j = 0) : firstE n e = ((k : Int), e k) := by
  have : (List.range n).find? (fun i => e i != 0) = some k := by
    rw [List.find?_eq_some_iff_getElem]
    refine ⟨by simpa using h, k, by simpa using hk, by simp, fun j hj => ?_⟩
    simp [hno j hj]
  simp [firstE, this]

theorem firstE_none {n : Nat} {e : Nat → Int} (hno : ∀ j < n, e j = 0) : firstE n e = (0, 0) := by
  have : (List.range n).find? (fun i => e i != 0) = none := by
    rw [List.find?_eq_none]
    intro x hx
    simp [hno x (by simpa using hx)]
  simp [firstE, this]

structure Mrk where
  leaf : Int
  seen : Bool

abbrev Mrk.cs (m : Mrk) : List AV := [I m.leaf, B m.seen]
abbrev Mrk.av (m : Mrk) : AV := .agg m.cs

structure Bok where
  leaves : Int
  chain : Int
  wide : Spn
  high : Spn
  marks : List Mrk

abbrev Bok.cs (b : Bok) : List AV := [I b.leaves, I b.chain, I b.wide.lo, I b.wide.hi, I b.high.lo, I b.high.hi, .slice 2 (b.marks.map Mrk.av) 0]
abbrev Bok.av (b : Bok) : AV := .agg b.cs
abbrev BRef (b : Bok) : AV := .ref b.cs

theorem first52_ok (l : List Fmt) (f : FuncId) (caps : List AV) (e : Nat → Int) (h : ∀ i (hi : i < l.length), PCall Try.prog f (I i :: l[i].av :: caps) (I (e i))) :
    PCall Try.prog 52 [.slice 2 (l.map Fmt.av) 0, .func (.func f) [] caps] (.tuple [I (firstE l.length e).1, I (firstE l.length e).2]) := by
  refine pcall Try.func52 tr52 rs52 fn52 (by simp [Try.ntmps52]) fun hfit => ?_
  have hl := fits_len (hfit 0)
  simp only [List.length_map] at hl
  simp -implicitDefEqProofs [m52]
  refine loop_up l.length (fun k s => s.env 1 = .func (.func f) [] caps ∧ s.env 9 = .slice 2 (l.map Fmt.av) 0 ∧ s.env 10 = I l.length ∧ s.env 11 = I k ∧ ∀ j < k, e j = 0) ?_ ?_
  · simp
  · rintro k s hk ⟨e1, e9, e10, e11, hno⟩
    simp -implicitDefEqProofs [e10, e11]
    refine cond_dec (fun hlt => ?_) (fun hge => ?_)
    · simp -implicitDefEqProofs [e1, e9, e11, hlt, vCallv]
      intro b hb
      refine vCall_of (h k hlt) ?_
      simp -implicitDefEqProofs
      refine cond_bool (fun he => ?_) (fun he => ?_)
      · have he' : e k ≠ 0 := by simpa using he
        have hc := firstE_some hlt he' hno
        simp -implicitDefEqProofs [r52, hc]
      · simp -implicitDefEqProofs [e11]
        refine ⟨i64 (by omega) (by omega), round_ok hlt ⟨by simp [e1], by simp [e9], by simp [e10], by simp, fun j hj => ?_⟩⟩
        rcases Nat.lt_succ_iff_lt_or_eq.1 hj with hj | rfl
        · exact hno j hj
        · simpa using he
    · obtain rfl : k = l.length := by omega
      have hc := firstE_none hno
      simp -implicitDefEqProofs [r52, hc]

theorem first56_ok (l : List Ppr) (f : FuncId) (caps : List AV) (e : Nat → Int) (h : ∀ i (hi : i < l.length), PCall Try.prog f (I i :: l[i].av :: caps) (I (e i))) :
    PCall Try.prog 56 [.slice 5 (l.map Ppr.av) 0, .func (.func f) [] caps] (.tuple [I (firstE l.length e).1, I (firstE l.length e).2]) := by
  refine pcall Try.func56 tr56 rs56 fn56 (by simp [Try.ntmps56]) fun hfit => ?_
  have hl := fits_len (hfit 0)
  simp only [List.length_map] at hl
  simp -implicitDefEqProofs [m56]
  refine loop_up l.length (fun k s => s.env 1 = .func (.func f) [] caps ∧ s.env 9 = .slice 5 (l.map Ppr.av) 0 ∧ s.env 10 = I l.length ∧ s.env 11 = I k ∧ ∀ j < k, e j = 0) ?_ ?_
  · simp
  · rintro k s hk ⟨e1, e9, e10, e11, hno⟩
    simp -implicitDefEqProofs [e10, e11]
    refine cond_dec (fun hlt => ?_) (fun hge => ?_)
    · simp -implicitDefEqProofs [e1, e9, e11, hlt, vCallv]
      intro b hb
      refine vCall_of (h k hlt) ?_
      simp -implicitDefEqProofs
      refine cond_bool (fun he => ?_) (fun he => ?_)
      · have he' : e k ≠ 0 := by simpa using he
        have hc := firstE_some hlt he' hno
        simp -implicitDefEqProofs [r56, hc]
      · simp -implicitDefEqProofs [e11]
        refine ⟨i64 (by omega) (by omega), round_ok hlt ⟨by simp [e1], by simp [e9], by simp [e10], by simp, fun j hj => ?_⟩⟩
        rcases Nat.lt_succ_iff_lt_or_eq.1 hj with hj | rfl
        · exact hno j hj
        · simpa using he
    · obtain rfl : k = l.length := by omega
      have hc := firstE_none hno
      simp -implicitDefEqProofs [r56, hc]

theorem first64_ok (l : List Mrk) (f : FuncId) (caps : List AV) (e : Nat → Int) (h : ∀ i (hi : i < l.length), PCall Try.prog f (I i :: l[i].av :: caps) (I (e i))) :
    PCall Try.prog 64 [.slice 2 (l.map Mrk.av) 0, .func (.func f) [] caps] (.tuple [I (firstE l.length e).1, I (firstE l.length e).2]) := by
  refine pcall Try.func64 tr64 rs64 fn64 (by simp [Try.ntmps64]) fun hfit => ?_
  have hl := fits_len (hfit 0)
  simp only [List.length_map] at hl
  simp -implicitDefEqProofs [m64]
  refine loop_up l.length (fun k s => s.env 1 = .func (.func f) [] caps ∧ s.env 9 = .slice 2 (l.map Mrk.av) 0 ∧ s.env 10 = I l.length ∧ s.env 11 = I k ∧ ∀ j < k, e j = 0) ?_ ?_
  · simp
  · rintro k s hk ⟨e1, e9, e10, e11, hno⟩
    simp -implicitDefEqProofs [e10, e11]
    refine cond_dec (fun hlt => ?_) (fun hge => ?_)
    · simp -implicitDefEqProofs [e1, e9, e11, hlt, vCallv]
      intro b hb
      refine vCall_of (h k hlt) ?_
      simp -implicitDefEqProofs
      refine cond_bool (fun he => ?_) (fun he => ?_)
      · have he' : e k ≠ 0 := by simpa using he
        have hc := firstE_some hlt he' hno
        simp -implicitDefEqProofs [r64, hc]
      · simp -implicitDefEqProofs [e11]
        refine ⟨i64 (by omega) (by omega), round_ok hlt ⟨by simp [e1], by simp [e9], by simp [e10], by simp, fun j hj => ?_⟩⟩
        rcases Nat.lt_succ_iff_lt_or_eq.1 hj with hj | rfl
        · exact hno j hj
        · simpa using he
    · obtain rfl : k = l.length := by omega
      have hc := firstE_none hno
      simp -implicitDefEqProofs [r64, hc]

/-- The error of a paper, behind others. -/
def pprE (p : Ppr) (before : List Ppr) : Int := if namedE p.name (before.map Ppr.name) = 0 then spansE 1 2000 p.wide p.high else namedE p.name (before.map Ppr.name)

theorem check2_ok (p : Prs) (i : Nat) (hi : i < p.pprs.length) : PCall Try.prog 57 [I i, p.pprs[i].av, PRef p] (I (pprE p.pprs[i] (p.pprs.take i))) := by
  refine pcall Try.func57 tr57 rs57 fn57 (by simp [Try.ntmps57]) fun hfit => ?_
  have c := named_ok p.pprs[i].name _ 58 [PRef p, IRef i] (names_ppr p i (by omega))
  generalize p.pprs[i] = f at *
  unfold pprE
  generalize namedE f.name ((p.pprs.take i).map Ppr.name) = e at *
  simp -implicitDefEqProofs [m57]
  refine vCall_of c ?_
  simp -implicitDefEqProofs
  refine cond_bool (fun he => ?_) (fun he => ?_)
  · have h0 : ¬ e = 0 := by simpa using he
    simp -implicitDefEqProofs [h0, r57]
  · have h0 : e = 0 := by simpa using he
    subst h0
    simp -implicitDefEqProofs
    refine vCall_of (spans_ok 1 2000 f.wide f.high) ?_
    simp -implicitDefEqProofs [r57]

/-- The error of a mark. -/
def mrkE (leaves : Int) (m : Mrk) : Int := if 0 ≤ m.leaf ∧ m.leaf ≤ leaves - 1 then 0 else 4

theorem checkBook1_ok (b : Bok) (hb : 1 ≤ b.leaves) (hb2 : b.leaves ≤ 64) (i : Nat) (m : Mrk) : PCall Try.prog 65 [I i, m.av, BRef b] (I (mrkE b.leaves m)) := by
  refine pcall Try.func65 tr65 rs65 fn65 (by simp [Try.ntmps65]) fun hfit => ?_
  simp -implicitDefEqProofs [m65]
  refine ⟨i64 (by omega) (by omega), ?_⟩
  refine vCall_of (outside_ok 0 (b.leaves - 1) [m.leaf]) ?_
  rw [out1]
  unfold mrkE
  by_cases h : 0 ≤ m.leaf ∧ m.leaf ≤ b.leaves - 1
  · rw [decide_eq_true h, if_pos h]
    simp -implicitDefEqProofs [r65]
  · rw [decide_eq_false h, if_neg h]
    simp -implicitDefEqProofs [r65]
end Go.Proofs.Ytcfeipphmklakaa

namespace Go.Proofs.Ytcfeipphmklakaa
open Go.Avm

/-- The errors of the formats and of the papers, by their places. -/
def fE (p : Prs) (i : Nat) : Int := if h : i < p.fmts.length then fmtE p.fmts[i] (p.fmts.take i) else 0
def pE (p : Prs) (i : Nat) : Int := if h : i < p.pprs.length then pprE p.pprs[i] (p.pprs.take i) else 0

/-- The part, the place and the error of a press. -/
def checkE (p : Prs) : Int × Int × Int :=
  if ¬ (1 ≤ p.fmts.length ∧ p.fmts.length ≤ 6) then (1, 0, 3)
  else if (firstE p.fmts.length (fE p)).2 ≠ 0 then (1, (firstE p.fmts.length (fE p)).1, (firstE p.fmts.length (fE p)).2)
  else if ¬ (1 ≤ p.pprs.length ∧ p.pprs.length ≤ 4) then (2, 0, 3)
  else if (firstE p.pprs.length (pE p)).2 ≠ 0 then (2, (firstE p.pprs.length (pE p)).1, (firstE p.pprs.length (pE p)).2)
  else if ¬ (0 ≤ p.trim ∧ p.trim ≤ 60) ∨ ¬ (1 ≤ p.sheets ∧ p.sheets ≤ 4) then (3, 0, 7)
  else (0, 0, 0)

abbrev T3 (x : Int × Int × Int) : AV := .tuple [I x.1, I x.2.1, I x.2.2]

theorem check_ok (p : Prs) : PCall Try.prog 15 [p.av] (T3 (checkE p)) := by
  refine pcall Try.func15 tr15 rs15 fn15 (by simp [Try.ntmps15]) fun hfit => ?_
  have c1 := outside_ok 1 6 [(p.fmts.length : Int)]
  have c2 := first52_ok p.fmts 53 [PRef p] (fE p) (fun i hi => by rw [fE, dif_pos hi]; exact check1_ok p i hi)
  have c3 := outside_ok 1 4 [(p.pprs.length : Int)]
  have c4 := first56_ok p.pprs 57 [PRef p] (pE p) (fun i hi => by rw [pE, dif_pos hi]; exact check2_ok p i hi)
  have c5 := outside_ok 0 60 [p.trim]
  have c6 := outside_ok 1 4 [p.sheets]
  rw [out1] at c1 c3 c5 c6
  obtain ⟨R, hR⟩ : ∃ R, R = checkE p := ⟨_, rfl⟩
  rw [← hR]
  unfold checkE at hR
  generalize firstE p.fmts.length (fE p) = e at *
  generalize firstE p.pprs.length (pE p) = g at *
  simp -implicitDefEqProofs [m15]
  refine vCall_of c1 ?_
  by_cases h1 : 1 ≤ p.fmts.length ∧ p.fmts.length ≤ 6
  case neg =>
    rw [if_pos h1] at hR
    rw [decide_eq_false (by omega)]
    simp -implicitDefEqProofs [r15, hR]
  rw [if_neg (not_not_intro h1)] at hR
  rw [decide_eq_true (by omega)]
  simp -implicitDefEqProofs
  refine vCall_of c2 ?_
  simp -implicitDefEqProofs
  refine cond_bool (fun he => ?_) (fun he => ?_)
  · have h0 : e.2 ≠ 0 := by simpa using he
    rw [if_pos h0] at hR
    simp -implicitDefEqProofs [r15, hR]
  have h0 : e.2 = 0 := by simpa using he
  rw [if_neg (not_not_intro h0)] at hR
  simp -implicitDefEqProofs
  refine vCall_of c3 ?_
  by_cases h2 : 1 ≤ p.pprs.length ∧ p.pprs.length ≤ 4
  case neg =>
    rw [if_pos h2] at hR
    rw [decide_eq_false (by omega)]
    simp -implicitDefEqProofs [r15, hR]
  rw [if_neg (not_not_intro h2)] at hR
  rw [decide_eq_true (by omega)]
  simp -implicitDefEqProofs
  refine vCall_of c4 ?_
  simp -implicitDefEqProofs
  refine cond_bool (fun he => ?_) (fun he => ?_)
  · have h0 : g.2 ≠ 0 := by simpa using he
    rw [if_pos h0] at hR
    simp -implicitDefEqProofs [r15, hR]
  have h0' : g.2 = 0 := by simpa using he
  rw [if_neg (not_not_intro h0')] at hR
  simp -implicitDefEqProofs
  refine vCall_of c5 ?_
  by_cases h3 : 0 ≤ p.trim ∧ p.trim ≤ 60
  case neg =>
    rw [if_pos (.inl h3)] at hR
    rw [decide_eq_false h3]
    simp -implicitDefEqProofs [r15, hR]
  rw [decide_eq_true h3]
  simp -implicitDefEqProofs
  refine vCall_of c6 ?_
  by_cases h4 : 1 ≤ p.sheets ∧ p.sheets ≤ 4
  case neg =>
    rw [if_pos (.inr h4)] at hR
    rw [decide_eq_false h4]
    simp -implicitDefEqProofs [r15, hR]
  rw [if_neg (fun h => h.elim (fun h => h h3) fun h => h h4)] at hR
  rw [decide_eq_true h4]
  simp -implicitDefEqProofs [r15, hR]

/-- The errors of the marks, by their places. -/
def mE (b : Bok) (i : Nat) : Int := if h : i < b.marks.length then mrkE b.leaves b.marks[i] else 0

/-- The part, the place and the error of what is seen of a gathering. -/
def checkBookE (p : Prs) (b : Bok) : Int × Int × Int :=
  if (checkE p).2.2 ≠ 0 then (0, 0, (checkE p).2.2)
  else if ¬ (1 ≤ b.leaves ∧ b.leaves ≤ 64) then (1, 0, 7)
  else if ¬ (0 ≤ b.chain ∧ b.chain ≤ 2) then (2, 0, 2)
  else if spansE 0 2000 b.wide b.high ≠ 0 then (3, 0, spansE 0 2000 b.wide b.high)
  else if 8 < b.marks.length then (4, 0, 3)
  else if (firstE b.marks.length (mE b)).2 ≠ 0 then
    (4, (firstE b.marks.length (mE b)).1, (firstE b.marks.length (mE b)).2)
  else (0, 0, 0)

theorem checkBook_ok (p : Prs) (b : Bok) : PCall Try.prog 17 [p.av, b.av] (T3 (checkBookE p b)) := by
  refine pcall Try.func17 tr17 rs17 fn17 (by simp [Try.ntmps17]) fun hfit => ?_
  have c0 := check_ok p
  obtain ⟨R, hR⟩ : ∃ R, R = checkBookE p b := ⟨_, rfl⟩
  rw [← hR]
  unfold checkBookE at hR
  generalize checkE p = x at *
  simp -implicitDefEqProofs [m17]
  refine vCall_of c0 ?_
  simp -implicitDefEqProofs
  refine cond_bool (fun he => ?_) (fun he => ?_)
  · have h0 : x.2.2 ≠ 0 := by simpa using he
    rw [if_pos h0] at hR
    simp -implicitDefEqProofs [r17, hR]
  have h0 : x.2.2 = 0 := by simpa using he
  rw [if_neg (not_not_intro h0)] at hR
  have c1 := outside_ok 1 64 [b.leaves]
  have c2 := outside_ok 0 2 [b.chain]
  have c3 := spans_ok 0 2000 b.wide b.high
  rw [out1] at c1 c2
  generalize spansE 0 2000 b.wide b.high = y at *
  simp -implicitDefEqProofs
  refine vCall_of c1 ?_
  by_cases h1 : 1 ≤ b.leaves ∧ b.leaves ≤ 64
  case neg =>
    rw [if_pos h1] at hR
    rw [decide_eq_false h1]
    simp -implicitDefEqProofs [r17, hR]
  rw [if_neg (not_not_intro h1)] at hR
  rw [decide_eq_true h1]
  simp -implicitDefEqProofs
  refine vCall_of c2 ?_
  by_cases h2 : 0 ≤ b.chain ∧ b.chain ≤ 2
  case neg =>
    rw [if_pos h2] at hR
    rw [decide_eq_false h2]
    simp -implicitDefEqProofs [r17, hR]
  rw [if_neg (not_not_intro h2)] at hR
  rw [decide_eq_true h2]
  simp -implicitDefEqProofs
  refine vCall_of c3 ?_
  simp -implicitDefEqProofs
  refine cond_bool (fun he => ?_) (fun he => ?_)
  · have h0 : y ≠ 0 := by simpa using he
    rw [if_pos h0] at hR
    simp -implicitDefEqProofs [r17, hR]
  have hy : y = 0 := by simpa using he
  rw [if_neg (not_not_intro hy)] at hR
  simp -implicitDefEqProofs
  have c4 := first64_ok b.marks 65 [BRef b] (mE b) (fun i hi => by rw [mE, dif_pos hi]; exact checkBook1_ok b h1.1 h1.2 i _)
  generalize firstE b.marks.length (mE b) = z at *
  refine cond_dec (fun h3 => ?_) (fun h3 => ?_)
  · rw [if_pos (by omega)] at hR
    simp -implicitDefEqProofs [r17, hR]
  rw [if_neg (by omega)] at hR
  simp -implicitDefEqProofs
  refine vCall_of c4 ?_
  simp -implicitDefEqProofs
  refine cond_bool (fun he => ?_) (fun he => ?_)
  · have h0 : z.2 ≠ 0 := by simpa using he
    rw [if_pos h0] at hR
    simp -implicitDefEqProofs [r17, hR]
  have hz : z.2 = 0 := by simpa using he
  rw [if_neg (not_not_intro hz)] at hR
  simp -implicitDefEqProofs [r17, hR]
end Go.Proofs.Ytcfeipphmklakaa

namespace Go.Proofs.Ytcfeipphmklakaa
open Go.Avm

def nmsF (p : Prs) (k : Nat) : List ByteArray := (p.fmts.take k).map Fmt.name
def nmsP (p : Prs) (k : Nat) : List ByteArray := (p.pprs.take k).map Ppr.name
theorem nmsF_zero (p : Prs) : nmsF p 0 = [] := rfl
theorem nmsP_zero (p : Prs) : nmsP p 0 = [] := rfl
theorem nmsF_succ (p : Prs) (k : Nat) (h : k < p.fmts.length) : nmsF p (k + 1) = nmsF p k ++ [p.fmts[k].name] := by unfold nmsF; rw [take_snoc h, List.map_append]; rfl
theorem nmsP_succ (p : Prs) (k : Nat) (h : k < p.pprs.length) : nmsP p (k + 1) = nmsP p k ++ [p.pprs[k].name] := by unfold nmsP; rw [take_snoc h, List.map_append]; rfl
theorem nmsF_len (p : Prs) (k : Nat) (h : k < p.fmts.length) : (nmsF p k).length = k := by simp [nmsF]; omega
theorem nmsP_len (p : Prs) (k : Nat) (h : k < p.pprs.length) : (nmsP p k).length = k := by simp [nmsP]; omega

theorem checkR_ok (p : Prs) : PCall Try.prog 16 [p.av] (T3 (checkE p)) := by
  refine pcall Try.func16 tr16 rs16 fn16 (by simp [Try.ntmps16]) fun hfit => ?_
  have hl1 : p.fmts.length ≤ 140737488355328 := by simpa using fits_len (fits_agg (hfit 0) 0)
  have hl2 : p.pprs.length ≤ 140737488355328 := by simpa using fits_len (fits_agg (hfit 0) 1)
  have c1 := in_ok p.fmts.length 1 6
  have c3 := in_ok p.pprs.length 1 4
  have c5 := in_ok p.trim 0 60
  have c6 := in_ok p.sheets 1 4
  obtain ⟨R, hR⟩ : ∃ R, R = checkE p := ⟨_, rfl⟩
  rw [← hR]
  unfold checkE at hR
  simp -implicitDefEqProofs [m16]
  refine vCall_of c1 ?_
  by_cases h1 : 1 ≤ p.fmts.length ∧ p.fmts.length ≤ 6
  case neg =>
    rw [if_pos h1] at hR
    rw [decide_eq_false (by omega)]
    simp -implicitDefEqProofs [r16, hR]
  rw [if_neg (not_not_intro h1)] at hR
  rw [decide_eq_true (by omega)]
  simp -implicitDefEqProofs
  refine loop_up p.fmts.length (fun k st => st.env 1 = PRef p ∧ st.env 5 = .slice 1 ((nmsF p k).map S) 6 ∧ st.env 6 = I k ∧ ∀ j < k, fE p j = 0) ?_ ?_
  · simp [nmsF_zero]
  rintro k st hk ⟨e1, e5, e6, hno⟩
  simp -implicitDefEqProofs [e1, e6]
  refine cond_dec (fun hlt => ?_) (fun hge => ?_)
  · have hlt : k < p.fmts.length := by omega
    have hf : fE p k = fmtE p.fmts[k] (p.fmts.take k) := by rw [fE, dif_pos hlt]
    have hsn := nmsF_succ p k hlt
    have hlen := nmsF_len p k hlt
    have hfst : fE p k ≠ 0 → firstE p.fmts.length (fE p) = ((k : Int), fE p k) := fun h => firstE_some hlt h hno
    unfold fmtE at hf
    change fE p k = if namedE p.fmts[k].name (nmsF p k) = 0 then _ else namedE p.fmts[k].name (nmsF p k) at hf
    have c := fresh_ok p.fmts[k].name (nmsF p k)
    have cf := folds_ok p.fmts[k].folds
    generalize namedE p.fmts[k].name (nmsF p k) = e at *
    generalize foldsE p.fmts[k].folds = g at *
    simp -implicitDefEqProofs [e1, e5, e6, hlt]
    refine vCall_of c ?_
    simp -implicitDefEqProofs [e1, e5, e6, hlt]
    refine ⟨by omega, by omega, ?_⟩
    refine cond_bool (fun he => ?_) (fun he => ?_)
    · have h0 : e = 0 := by simpa using he
      subst h0
      rw [if_pos rfl] at hf
      simp -implicitDefEqProofs [e1, e6, hlt]
      refine vCall_of cf ?_
      simp -implicitDefEqProofs
      refine cond_bool (fun he => ?_) (fun he => ?_)
      · have hg : g ≠ 0 := by simpa using he
        have hx := hfst (by rw [hf]; exact hg)
        rw [hx, hf, if_pos hg] at hR
        simp -implicitDefEqProofs [r16, hR, e6]
      · have hg : g = 0 := by simpa using he
        simp -implicitDefEqProofs [e6]
        refine ⟨i64 (by omega) (by omega), round_ok hlt ⟨by simp [e1], by simp [hsn], by simp, fun j hj => ?_⟩⟩
        rcases Nat.lt_succ_iff_lt_or_eq.1 hj with hj | rfl
        · exact hno j hj
        · rw [hf, hg]
    · have h0 : e ≠ 0 := by simpa using he
      rw [if_neg h0] at hf
      have h0' : (e != 0) = true := by simp [h0]
      have hx := hfst (by rw [hf]; exact h0)
      rw [hx, hf, if_pos h0] at hR
      simp -implicitDefEqProofs [h0', r16, hR, e6]
  obtain rfl : k = p.fmts.length := by omega
  have hz := firstE_none hno
  rw [hz, if_neg (by simp)] at hR
  simp -implicitDefEqProofs [e1]
  refine vCall_of c3 ?_
  by_cases h2 : 1 ≤ p.pprs.length ∧ p.pprs.length ≤ 4
  case neg =>
    rw [if_pos h2] at hR
    rw [decide_eq_false (by omega)]
    simp -implicitDefEqProofs [r16, hR]
  rw [if_neg (not_not_intro h2)] at hR
  rw [decide_eq_true (by omega)]
  clear hno hz hge e5 e6
  simp -implicitDefEqProofs
  refine loop_up p.pprs.length (fun k st => st.env 1 = PRef p ∧ st.env 5 = .slice 1 ((nmsP p k).map S) 6 ∧ st.env 8 = I k ∧ ∀ j < k, pE p j = 0) ?_ ?_
  · simp [nmsP_zero, e1]
  rintro k st hk ⟨e1, e5, e8, hno⟩
  simp -implicitDefEqProofs [e1, e8]
  refine cond_dec (fun hlt => ?_) (fun hge => ?_)
  · have hlt : k < p.pprs.length := by omega
    have hf : pE p k = pprE p.pprs[k] (p.pprs.take k) := by rw [pE, dif_pos hlt]
    have hsn := nmsP_succ p k hlt
    have hlen := nmsP_len p k hlt
    have hfst : pE p k ≠ 0 → firstE p.pprs.length (pE p) = ((k : Int), pE p k) := fun h => firstE_some hlt h hno
    unfold pprE at hf
    change pE p k = if namedE p.pprs[k].name (nmsP p k) = 0 then _ else namedE p.pprs[k].name (nmsP p k) at hf
    have c := fresh_ok p.pprs[k].name (nmsP p k)
    have cf := both_ok p.pprs[k].wide p.pprs[k].high 1 2000
    generalize namedE p.pprs[k].name (nmsP p k) = e at *
    generalize spansE 1 2000 p.pprs[k].wide p.pprs[k].high = g at *
    simp -implicitDefEqProofs [e1, e5, e8, hlt]
    refine vCall_of c ?_
    simp -implicitDefEqProofs [e1, e5, e8, hlt]
    refine ⟨by omega, by omega, ?_⟩
    refine cond_bool (fun he => ?_) (fun he => ?_)
    · have h0 : e = 0 := by simpa using he
      subst h0
      rw [if_pos rfl] at hf
      simp -implicitDefEqProofs [e1, e8, hlt]
      refine vCall_of cf ?_
      simp -implicitDefEqProofs
      refine cond_bool (fun he => ?_) (fun he => ?_)
      · have hg : g ≠ 0 := by simpa using he
        have hx := hfst (by rw [hf]; exact hg)
        rw [hx, hf, if_pos hg] at hR
        simp -implicitDefEqProofs [r16, hR, e8]
      · have hg : g = 0 := by simpa using he
        simp -implicitDefEqProofs [e8]
        refine ⟨i64 (by omega) (by omega), round_ok hlt ⟨by simp [e1], by simp [hsn], by simp, fun j hj => ?_⟩⟩
        rcases Nat.lt_succ_iff_lt_or_eq.1 hj with hj | rfl
        · exact hno j hj
        · rw [hf, hg]
    · have h0 : e ≠ 0 := by simpa using he
      rw [if_neg h0] at hf
      have h0' : (e != 0) = true := by simp [h0]
      have hx := hfst (by rw [hf]; exact h0)
      rw [hx, hf, if_pos h0] at hR
      simp -implicitDefEqProofs [h0', r16, hR, e8]
  obtain rfl : k = p.pprs.length := by omega
  have hz := firstE_none hno
  rw [hz, if_neg (by simp)] at hR
  simp -implicitDefEqProofs [e1]
  refine vCall_of c5 ?_
  by_cases h3 : 0 ≤ p.trim ∧ p.trim ≤ 60
  case neg =>
    rw [if_pos (.inl h3)] at hR
    rw [decide_eq_false h3]
    simp -implicitDefEqProofs [r16, hR]
  rw [decide_eq_true h3]
  simp -implicitDefEqProofs [e1]
  refine vCall_of c6 ?_
  by_cases h4 : 1 ≤ p.sheets ∧ p.sheets ≤ 4
  case neg =>
    rw [if_pos (.inr h4)] at hR
    rw [decide_eq_false h4]
    simp -implicitDefEqProofs [r16, hR]
  rw [if_neg (fun h => h.elim (fun h => h h3) fun h => h h4)] at hR
  rw [decide_eq_true h4]
  simp -implicitDefEqProofs [r16, hR]

theorem checkBookR_ok (p : Prs) (b : Bok) : PCall Try.prog 18 [p.av, b.av] (T3 (checkBookE p b)) := by
  refine pcall Try.func18 tr18 rs18 fn18 (by simp [Try.ntmps18]) fun hfit => ?_
  have hl : b.marks.length ≤ 140737488355328 := by simpa using fits_len (fits_agg (hfit 1) 6)
  have c0 := checkR_ok p
  obtain ⟨R, hR⟩ : ∃ R, R = checkBookE p b := ⟨_, rfl⟩
  rw [← hR]
  unfold checkBookE at hR
  generalize checkE p = x at *
  simp -implicitDefEqProofs [m18]
  refine vCall_of c0 ?_
  simp -implicitDefEqProofs
  refine cond_bool (fun he => ?_) (fun he => ?_)
  · have h0 : x.2.2 ≠ 0 := by simpa using he
    rw [if_pos h0] at hR
    simp -implicitDefEqProofs [r18, hR]
  have h0 : x.2.2 = 0 := by simpa using he
  rw [if_neg (not_not_intro h0)] at hR
  have c1 := in_ok b.leaves 1 64
  have c2 := in_ok b.chain 0 2
  have c3 := both_ok b.wide b.high 0 2000
  generalize spansE 0 2000 b.wide b.high = y at *
  simp -implicitDefEqProofs
  refine vCall_of c1 ?_
  by_cases h1 : 1 ≤ b.leaves ∧ b.leaves ≤ 64
  case neg =>
    rw [if_pos h1] at hR
    rw [decide_eq_false h1]
    simp -implicitDefEqProofs [r18, hR]
  rw [if_neg (not_not_intro h1)] at hR
  rw [decide_eq_true h1]
  simp -implicitDefEqProofs
  refine vCall_of c2 ?_
  by_cases h2 : 0 ≤ b.chain ∧ b.chain ≤ 2
  case neg =>
    rw [if_pos h2] at hR
    rw [decide_eq_false h2]
    simp -implicitDefEqProofs [r18, hR]
  rw [if_neg (not_not_intro h2)] at hR
  rw [decide_eq_true h2]
  simp -implicitDefEqProofs
  refine vCall_of c3 ?_
  simp -implicitDefEqProofs
  refine cond_bool (fun he => ?_) (fun he => ?_)
  · have h0 : y ≠ 0 := by simpa using he
    rw [if_pos h0] at hR
    simp -implicitDefEqProofs [r18, hR]
  have hy : y = 0 := by simpa using he
  rw [if_neg (not_not_intro hy)] at hR
  simp -implicitDefEqProofs
  refine cond_dec (fun h3 => ?_) (fun h3 => ?_)
  · rw [if_pos (by omega)] at hR
    simp -implicitDefEqProofs [r18, hR]
  rw [if_neg (by omega)] at hR
  simp -implicitDefEqProofs
  refine loop_up b.marks.length (fun k st => st.env 3 = BRef b ∧ st.env 10 = I k ∧ ∀ j < k, mE b j = 0) ?_ ?_
  · simp
  rintro k st hk ⟨e3, e10, hno⟩
  simp -implicitDefEqProofs [e3, e10]
  refine cond_dec (fun hlt => ?_) (fun hge => ?_)
  · have hlt : k < b.marks.length := by omega
    have hf : mE b k = mrkE b.leaves b.marks[k] := by rw [mE, dif_pos hlt]
    have hfst : mE b k ≠ 0 → firstE b.marks.length (mE b) = ((k : Int), mE b k) := fun h => firstE_some hlt h hno
    have c4 := in_ok b.marks[k].leaf 0 (b.leaves - 1)
    simp -implicitDefEqProofs [e3, e10, hlt]
    refine ⟨i64 (by omega) (by omega), ?_⟩
    refine vCall_of c4 ?_
    unfold mrkE at hf
    by_cases h4 : 0 ≤ b.marks[k].leaf ∧ b.marks[k].leaf ≤ b.leaves - 1
    · rw [if_pos h4] at hf
      rw [decide_eq_true h4]
      simp -implicitDefEqProofs [e10]
      refine ⟨i64 (by omega) (by omega), round_ok hlt ⟨by simp [e3], by simp, fun j hj => ?_⟩⟩
      rcases Nat.lt_succ_iff_lt_or_eq.1 hj with hj | rfl
      · exact hno j hj
      · exact hf
    · rw [if_neg h4] at hf
      rw [decide_eq_false h4]
      have hx := hfst (by rw [hf]; decide)
      rw [hx, hf, if_pos (by simp)] at hR
      simp -implicitDefEqProofs [e10, r18, hR]
  obtain rfl : k = b.marks.length := by omega
  have hz := firstE_none hno
  rw [hz, if_neg (by simp)] at hR
  simp -implicitDefEqProofs [r18, hR]

/-- The law FoldChecks. -/
theorem foldChecks_ok (ha : PCall Try.prog 19 [] (B true)) (p : Prs) (b : Bok) : PCall Try.prog 3 [p.av, b.av] (B true) := by
  refine pcall Try.func3 tr3 rs3 fn3 (by simp [Try.ntmps3]) fun hfit => ?_
  have c1 := check_ok p
  have c2 := checkR_ok p
  have c3 := checkBook_ok p b
  have c4 := checkBookR_ok p b
  generalize checkE p = x at *
  generalize checkBookE p b = y at *
  simp -implicitDefEqProofs [m3]
  refine vCall_of c1 ?_
  simp -implicitDefEqProofs
  refine vCall_of c2 ?_
  simp -implicitDefEqProofs
  refine vCall_of c3 ?_
  simp -implicitDefEqProofs
  refine vCall_of c4 ?_
  simp -implicitDefEqProofs
  refine vCall_of ha ?_
  simp -implicitDefEqProofs [r3]
end Go.Proofs.Ytcfeipphmklakaa

namespace Go.Proofs.Ytcfeipphmklakaa
open Go.Avm

abbrev okI (n : Int) : Prop := IntKind.min .i64 ≤ n ∧ n ≤ IntKind.max .i64
theorem rdI {pl : Bool} : Rd Try.prog pl 3 I okI := by
  cases pl
  · exact (Rd.int Try.underlying3).loose
  · exact Rd.int Try.underlying3
theorem rdB {pl : Bool} : Rd Try.prog pl 4 B (fun _ => True) := by
  cases pl
  · exact (Rd.bool Try.underlying4).loose
  · exact Rd.bool Try.underlying4
theorem rdS {pl : Bool} : Rd Try.prog pl 9 S (fun s => s.size ≤ 140737488355328) := by
  cases pl
  · exact (Rd.string Try.underlying9).loose
  · exact Rd.string Try.underlying9

theorem rdFmt : Rd Try.prog true 82 Fmt.av (fun _ => True) :=
  (Rd.struct (tot := 2) Try.underlying82 rfl (by kernel_rfl) (RdL.cons rfl (by kernel_rfl) rdS (RdL.cons rfl (by kernel_rfl) rdS RdL.nil))).map (fun x => ⟨x.1, x.2.1⟩) (fun _ => rfl) (fun _ _ => trivial)

theorem rdSpn {pl : Bool} : Rd Try.prog pl 27 Spn.av (fun _ => True) :=
  (Rd.struct (tot := 2) Try.underlying27 rfl (by kernel_rfl) (RdL.cons rfl (by kernel_rfl) rdI (RdL.cons rfl (by kernel_rfl) rdI RdL.nil))).map (fun x => ⟨x.1, x.2.1⟩) (fun _ => rfl) (fun _ _ => trivial)

theorem rdPpr : Rd Try.prog true 97 Ppr.av (fun _ => True) :=
  (Rd.struct (tot := 5) Try.underlying97 rfl (by kernel_rfl) (RdL.cons rfl (by kernel_rfl) rdS (RdL.cons rfl (by kernel_rfl) rdSpn (RdL.cons rfl (by kernel_rfl) rdSpn RdL.nil)))).map (fun x => ⟨x.1, x.2.1, x.2.2.1⟩) (fun _ => rfl) (fun _ _ => trivial)

theorem rdMrk : Rd Try.prog true 89 Mrk.av (fun _ => True) :=
  (Rd.struct (tot := 2) Try.underlying89 rfl (by kernel_rfl) (RdL.cons rfl (by kernel_rfl) rdI (RdL.cons rfl (by kernel_rfl) rdB RdL.nil))).map (fun x => ⟨x.1, x.2.1⟩) (fun _ => rfl) (fun _ _ => trivial)

theorem rdPrs : Rd Try.prog false 25 Prs.av (fun _ => True) :=
  (Rd.struct (tot := 4) Try.underlying25 rfl (by kernel_rfl) (RdL.cons rfl (by kernel_rfl) (Rd.slice Try.underlying22 (of_decide_eq_true (by kernel_rfl)) (by kernel_rfl) rdFmt)
    (RdL.cons rfl (by kernel_rfl) (Rd.slice Try.underlying23 (of_decide_eq_true (by kernel_rfl)) (by kernel_rfl) rdPpr)
    (RdL.cons rfl (by kernel_rfl) rdI (RdL.cons rfl (by kernel_rfl) rdI RdL.nil))))).map (fun x => ⟨x.1, x.2.1, x.2.2.1, x.2.2.2.1⟩) (fun _ => rfl) (fun _ _ => trivial)

theorem rdBok : Rd Try.prog false 30 Bok.av (fun _ => True) :=
  (Rd.struct (tot := 7) Try.underlying30 rfl (by kernel_rfl) (RdL.cons rfl (by kernel_rfl) rdI (RdL.cons rfl (by kernel_rfl) rdI (RdL.cons rfl (by kernel_rfl) rdSpn (RdL.cons rfl (by kernel_rfl) rdSpn
    (RdL.cons rfl (by kernel_rfl) (Rd.slice Try.underlying28 (of_decide_eq_true (by kernel_rfl)) (by kernel_rfl) rdMrk) RdL.nil)))))).map (fun x => ⟨x.1, x.2.1, x.2.2.1, x.2.2.2.1, x.2.2.2.2.1⟩) (fun _ => rfl) (fun _ _ => trivial)
end Go.Proofs.Ytcfeipphmklakaa

