/- The resolved code of the functions, part 1, written by program, each held against the function by the kernel. -/
import Derived.Test.YtcfeipphmklakaaProg
import Derived.Test.YtcfeipphmklakaaLC
import Derived.KernelRfl
namespace Go.Proofs.Ytcfeipphmklakaa
open Go.Avm

/- duodecimo/duodecimolaw02.FoldKnown -/
def ann6 : Ann := { muts := [], nilsz := [], oid := [], frz := [1], zero := [(1, [(.slice 2 [] 2000), (.slice 5 [] 2001), (.lit (.int .i64 0)), (.lit (.int .i64 0))]), (23, [(.lit (.int .i64 0))]), (30, [(.lit (.int .i64 0))]), (71, [(.lit (.int .i64 0))]), (76, [(.lit (.int .i64 0))]), (81, [(.lit (.int .i64 0))]), (86, [(.lit (.int .i64 0)), (.lit (.int .i64 0)), (.lit (.int .i64 0)), (.lit (.bool false))]), (87, [(.lit (.int .i64 0)), (.lit (.int .i64 0)), (.lit (.int .i64 0)), (.lit (.bool false))]), (92, [(.lit (.int .i64 0))]), (97, [(.lit (.int .i64 0))])], ord := [(2, [0, 1, 2, 3, 4, 5, 6, 7]), (3, [0, 1, 2, 3, 4, 5, 6, 7, 8]), (4, [0, 1, 2, 3, 4, 5, 6, 7, 8]), (5, [0, 1, 2, 3, 4, 5, 6, 7, 8, 9]), (6, [0, 1, 2, 3, 4, 5, 6, 7, 8, 9, 10, 11])], ap := [], own := [3, 5, 7, 9, 12], yl := [], fz := [], imm := [] }
def m6 : MCode := (.seq (.reg [.asg 0 (.c (.lit (.bool false)))])
 (.seq (.reg [.call 13 37 [], .alloc 1 [(.slice 2 [] 2000), (.slice 5 [] 2001), (.lit (.int .i64 0)), (.lit (.int .i64 0))], .storeF 1 (.t 13) 4])
 (.seq (.reg [.load 15 (.t 1) (some 4), .call 16 38 [(.c (.lit (.int .i64 1)))], .call 17 23 [(.t 15), (.t 16), (.c (.lit (.int .i64 0))), (.c (.lit (.bool false)))], .cpy 14 (.t 17), .ext 18 (.t 14) 0, .ext 19 (.t 14) 1, .cpyE 2 (.t 18), .asg 3 (.t 19)])
 (.seq (.reg [.load 21 (.t 1) (some 4), .call 22 38 [(.c (.lit (.int .i64 1)))], .mkS 23 1 1 [(.lit (.int .i64 0))] [(0, (.c (.lit (.int .i64 0))))], .call 24 28 [(.t 21), (.t 22), (.t 23)], .cpy 20 (.t 24), .ext 25 (.t 20) 0, .ext 26 (.t 20) 1, .cpyE 4 (.t 25), .asg 5 (.t 26)])
 (.seq (.reg [.load 28 (.t 1) (some 4), .call 29 38 [(.c (.lit (.int .i64 2)))], .mkS 30 1 1 [(.lit (.int .i64 0))] [(0, (.c (.lit (.int .i64 1))))], .call 31 28 [(.t 28), (.t 29), (.t 30)], .cpy 27 (.t 31), .ext 32 (.t 27) 0, .ext 33 (.t 27) 1, .cpyE 6 (.t 32), .asg 7 (.t 33)])
 (.seq (.reg [.load 35 (.t 1) (some 4), .call 36 40 [(.c (.lit (.int .i64 145))), (.c (.lit (.int .i64 146)))], .call 37 41 [], .call 38 39 [(.c (.lit (.int .i64 2))), (.t 36), (.t 37)], .call 39 30 [(.t 35), (.t 38)], .cpy 34 (.t 39), .ext 40 (.t 34) 0, .ext 41 (.t 34) 1, .cpyE 8 (.t 40), .asg 9 (.t 41)])
 (.seq (.reg [.load 43 (.t 1) (some 4), .call 44 41 [], .call 45 41 [], .call 46 39 [(.c (.lit (.int .i64 0))), (.t 44), (.t 45)], .call 47 33 [(.t 43), (.t 46), (.c (.lit (.int .i64 1)))], .cpy 42 (.t 47), .ext 48 (.t 42) 0, .ext 49 (.t 42) 1, .ext 50 (.t 42) 2, .cpyE 10 (.t 48), .cpyE 11 (.t 49), .asg 12 (.t 50)])
 (.seq (.reg [.cpy 51 (.t 3), .bin 52 .eql (.t 51) (.c (.lit (.int .i64 0))), .cpy 53 (.t 52), .guard 53 true (some 54) (.cpy 54 (.t 5)), .guard 53 true (some 55) (.bin 55 .eql (.t 54) (.c (.lit (.int .i64 0)))), .pick 56 (.t 53) (.t 55) (.c (.lit (.bool false))), .cpy 57 (.t 56), .guard 57 true (some 58) (.cpy 58 (.t 7)), .guard 57 true (some 59) (.bin 59 .eql (.t 58) (.c (.lit (.int .i64 0)))), .pick 60 (.t 57) (.t 59) (.c (.lit (.bool false))), .cpy 61 (.t 60), .guard 61 true (some 62) (.cpy 62 (.t 9)), .guard 61 true (some 63) (.bin 63 .eql (.t 62) (.c (.lit (.int .i64 0)))), .pick 64 (.t 61) (.t 63) (.c (.lit (.bool false))), .cpy 65 (.t 64), .guard 65 true (some 66) (.cpy 66 (.t 12)), .guard 65 true (some 67) (.bin 67 .eql (.t 66) (.c (.lit (.int .i64 0)))), .pick 68 (.t 65) (.t 67) (.c (.lit (.bool false))), .cpy 69 (.t 68), .guard 69 true (some 70) (.cpy 70 (.t 2)), .guard 69 true (some 71) (.mkS 71 4 1 [(.lit (.int .i64 0))] [(0, (.c (.lit (.int .i64 1)))), (1, (.c (.lit (.int .i64 (-4))))), (2, (.c (.lit (.int .i64 8)))), (3, (.c (.lit (.int .i64 (-5)))))]), .guard 69 true (some 72) (.call 72 25 [(.t 70), (.t 71)]), .pick 73 (.t 69) (.t 72) (.c (.lit (.bool false))), .cpy 74 (.t 73), .guard 74 true (some 75) (.cpy 75 (.t 4)), .guard 74 true (some 76) (.mkS 76 2 1 [(.lit (.int .i64 0))] [(0, (.c (.lit (.int .i64 0)))), (1, (.c (.lit (.int .i64 3))))]), .guard 74 true (some 77) (.call 77 25 [(.t 75), (.t 76)]), .pick 78 (.t 74) (.t 77) (.c (.lit (.bool false))), .cpy 79 (.t 78), .guard 79 true (some 80) (.cpy 80 (.t 6)), .guard 79 true (some 81) (.mkS 81 4 1 [(.lit (.int .i64 0))] [(0, (.c (.lit (.int .i64 1)))), (1, (.c (.lit (.int .i64 2)))), (2, (.c (.lit (.int .i64 5)))), (3, (.c (.lit (.int .i64 6))))]), .guard 79 true (some 82) (.call 82 25 [(.t 80), (.t 81)]), .pick 83 (.t 79) (.t 82) (.c (.lit (.bool false))), .cpy 84 (.t 83), .guard 84 true (some 85) (.cpy 85 (.t 8)), .guard 84 true (some 86) (.build 86 [(.lit (.int .i64 0)), (.lit (.int .i64 0)), (.lit (.int .i64 0)), (.lit (.bool false))] [(0, 1, (.c (.lit (.int .i64 1)))), (2, 1, (.c (.lit (.int .i64 1))))]), .guard 84 true (some 87) (.mkS 87 1 4 [(.lit (.int .i64 0)), (.lit (.int .i64 0)), (.lit (.int .i64 0)), (.lit (.bool false))] [(0, (.t 86))]), .guard 84 true (some 88) (.call 88 32 [(.t 85), (.t 87)]), .pick 89 (.t 84) (.t 88) (.c (.lit (.bool false))), .cpy 90 (.t 89), .guard 90 true (some 91) (.cpy 91 (.t 10)), .guard 90 true (some 92) (.mkS 92 1 1 [(.lit (.int .i64 0))] [(0, (.c (.lit (.int .i64 2))))]), .guard 90 true (some 93) (.call 93 25 [(.t 91), (.t 92)]), .pick 94 (.t 90) (.t 93) (.c (.lit (.bool false))), .cpy 95 (.t 94), .guard 95 true (some 96) (.cpy 96 (.t 11)), .guard 95 true (some 97) (.mkS 97 3 1 [(.lit (.int .i64 0))] [(0, (.c (.lit (.int .i64 0)))), (1, (.c (.lit (.int .i64 2)))), (2, (.c (.lit (.int .i64 3))))]), .guard 95 true (some 98) (.call 98 25 [(.t 96), (.t 97)]), .pick 99 (.t 95) (.t 98) (.c (.lit (.bool false))), .cpy 100 (.t 99), .guard 100 true (some 101) (.call 101 19 []), .pick 102 (.t 100) (.t 101) (.c (.lit (.bool false))), .asg 0 (.t 102)])
 .ret))))))))
def r6 : List MRes := [.tmp 0]
theorem tr6 : Try.f6.body.bind (trC Try.prog ann6 Try.f6.ntmps) = some m6 := by kernel_rfl
theorem rs6 : trRes Try.prog Try.f6.results.toList = some r6 := by kernel_rfl
theorem fn6 : isFunc Try.prog 6 = true := by kernel_rfl

/- duodecimo/fold.Check -/
def ann15 : Ann := { muts := [], nilsz := [], oid := [], frz := [], zero := [(8, [(.lit (.int .i64 0))]), (24, [(.lit (.int .i64 0))]), (41, [(.lit (.int .i64 0))]), (46, [(.lit (.int .i64 0))])], ord := [], ap := [], own := [], yl := [], fz := [], imm := [] }
def m15 : MCode := (.seq (.reg [.boxI 1 (.t 0) 4, .asg 2 (.c (.lit (.int .i64 0))), .asg 3 (.c (.lit (.int .i64 0))), .asg 4 (.c (.lit (.int .i64 0)))])
 (.seq (.seq (.reg [.addr 5 (.t 1) 0, .load 6 (.t 5) none, .len 7 (.t 6), .mkS 8 1 1 [(.lit (.int .i64 0))] [(0, (.t 7))], .call 9 51 [(.c (.lit (.int .i64 1))), (.c (.lit (.int .i64 6))), (.t 8)]])
 (.cond (.t 9) (.seq (.reg [.asg 2 (.c (.lit (.int .i64 1))), .asg 3 (.c (.lit (.int .i64 0))), .asg 4 (.c (.lit (.int .i64 3)))])
 .ret) .skip))
 (.seq (.reg [.addr 11 (.t 1) 0, .load 12 (.t 11) none, .mkfn 13 (.func 53) [] [(.t 1)], .call 14 52 [(.t 12), (.t 13)], .cpy 10 (.t 14), .ext 15 (.t 10) 0, .ext 16 (.t 10) 1, .asg 3 (.t 15), .asg 4 (.t 16)])
 (.seq (.seq (.reg [.cpy 17 (.t 4), .bin 18 .neq (.t 17) (.c (.lit (.int .i64 0)))])
 (.cond (.t 18) (.seq (.reg [.cpy 19 (.t 3), .cpy 20 (.t 4), .asg 2 (.c (.lit (.int .i64 1))), .asg 3 (.t 19), .asg 4 (.t 20)])
 .ret) .skip))
 (.seq (.seq (.reg [.addr 21 (.t 1) 1, .load 22 (.t 21) none, .len 23 (.t 22), .mkS 24 1 1 [(.lit (.int .i64 0))] [(0, (.t 23))], .call 25 51 [(.c (.lit (.int .i64 1))), (.c (.lit (.int .i64 4))), (.t 24)]])
 (.cond (.t 25) (.seq (.reg [.asg 2 (.c (.lit (.int .i64 2))), .asg 3 (.c (.lit (.int .i64 0))), .asg 4 (.c (.lit (.int .i64 3)))])
 .ret) .skip))
 (.seq (.reg [.addr 27 (.t 1) 1, .load 28 (.t 27) none, .mkfn 29 (.func 57) [] [(.t 1)], .call 30 56 [(.t 28), (.t 29)], .cpy 26 (.t 30), .ext 31 (.t 26) 0, .ext 32 (.t 26) 1, .asg 3 (.t 31), .asg 4 (.t 32)])
 (.seq (.block 0 (.seq (.reg [.cpy 34 (.t 4), .bin 35 .neq (.t 34) (.c (.lit (.int .i64 0))), .asg 33 (.t 35)])
 (.cond (.t 33) (.seq (.reg [.cpy 36 (.t 3), .cpy 37 (.t 4), .asg 2 (.c (.lit (.int .i64 2))), .asg 3 (.t 36), .asg 4 (.t 37)])
 .ret) (.seq (.reg [.addr 39 (.t 1) 2, .load 40 (.t 39) none, .mkS 41 1 1 [(.lit (.int .i64 0))] [(0, (.t 40))], .call 42 51 [(.c (.lit (.int .i64 0))), (.c (.lit (.int .i64 60))), (.t 41)], .cpy 43 (.t 42), .guard 43 false (some 44) (.addr 44 (.t 1) 3), .guard 43 false (some 45) (.load 45 (.t 44) none), .guard 43 false (some 46) (.mkS 46 1 1 [(.lit (.int .i64 0))] [(0, (.t 45))]), .guard 43 false (some 47) (.call 47 51 [(.c (.lit (.int .i64 1))), (.c (.lit (.int .i64 4))), (.t 46)]), .pick 48 (.t 43) (.c (.lit (.bool true))) (.t 47), .asg 38 (.t 48)])
 (.cond (.t 38) (.seq (.reg [.asg 2 (.c (.lit (.int .i64 3))), .asg 3 (.c (.lit (.int .i64 0))), .asg 4 (.c (.lit (.int .i64 7)))])
 .ret) .skip)))))
 (.seq (.reg [.asg 2 (.c (.lit (.int .i64 0))), .asg 3 (.c (.lit (.int .i64 0))), .asg 4 (.c (.lit (.int .i64 0)))])
 .ret))))))))
def r15 : List MRes := [.tmp 2, .tmp 3, .tmp 4]
theorem tr15 : Try.f15.body.bind (trC Try.prog ann15 Try.f15.ntmps) = some m15 := by kernel_rfl
theorem rs15 : trRes Try.prog Try.f15.results.toList = some r15 := by kernel_rfl
theorem fn15 : isFunc Try.prog 15 = true := by kernel_rfl

/- duodecimo/fold.CheckBook -/
def ann17 : Ann := { muts := [], nilsz := [], oid := [], frz := [], zero := [(19, [(.lit (.int .i64 0))]), (24, [(.lit (.int .i64 0))])], ord := [], ap := [], own := [], yl := [], fz := [], imm := [] }
def m17 : MCode := (.seq (.reg [.boxI 2 (.t 0) 4, .boxI 3 (.t 1) 7, .asg 4 (.c (.lit (.int .i64 0))), .asg 5 (.c (.lit (.int .i64 0))), .asg 6 (.c (.lit (.int .i64 0)))])
 (.seq (.seq (.reg [.load 8 (.t 2) (some 4), .call 9 15 [(.t 8)], .cpy 7 (.t 9), .ext 10 (.t 7) 0, .ext 11 (.t 7) 1, .ext 12 (.t 7) 2, .asg 6 (.t 12)])
 (.seq (.reg [.cpy 13 (.t 6), .bin 14 .neq (.t 13) (.c (.lit (.int .i64 0)))])
 (.cond (.t 14) (.seq (.reg [.cpy 15 (.t 6), .asg 4 (.c (.lit (.int .i64 0))), .asg 5 (.c (.lit (.int .i64 0))), .asg 6 (.t 15)])
 .ret) .skip)))
 (.seq (.block 0 (.seq (.reg [.addr 17 (.t 3) 0, .load 18 (.t 17) none, .mkS 19 1 1 [(.lit (.int .i64 0))] [(0, (.t 18))], .call 20 51 [(.c (.lit (.int .i64 1))), (.c (.lit (.int .i64 64))), (.t 19)], .asg 16 (.t 20)])
 (.cond (.t 16) (.seq (.reg [.asg 4 (.c (.lit (.int .i64 1))), .asg 5 (.c (.lit (.int .i64 0))), .asg 6 (.c (.lit (.int .i64 7)))])
 .ret) (.seq (.reg [.addr 22 (.t 3) 1, .load 23 (.t 22) none, .mkS 24 1 1 [(.lit (.int .i64 0))] [(0, (.t 23))], .call 25 51 [(.c (.lit (.int .i64 0))), (.c (.lit (.int .i64 2))), (.t 24)], .asg 21 (.t 25)])
 (.cond (.t 21) (.seq (.reg [.asg 4 (.c (.lit (.int .i64 2))), .asg 5 (.c (.lit (.int .i64 0))), .asg 6 (.c (.lit (.int .i64 2)))])
 .ret) .skip)))))
 (.seq (.seq (.reg [.addr 26 (.t 3) 2, .load 27 (.t 26) (some 2), .addr 28 (.t 3) 4, .load 29 (.t 28) (some 2), .call 30 59 [(.c (.lit (.int .i64 0))), (.c (.lit (.int .i64 2000))), (.t 27), (.t 29)], .asg 6 (.t 30)])
 (.seq (.reg [.cpy 31 (.t 6), .bin 32 .neq (.t 31) (.c (.lit (.int .i64 0)))])
 (.cond (.t 32) (.seq (.reg [.cpy 33 (.t 6), .asg 4 (.c (.lit (.int .i64 3))), .asg 5 (.c (.lit (.int .i64 0))), .asg 6 (.t 33)])
 .ret) .skip)))
 (.seq (.seq (.reg [.addr 34 (.t 3) 6, .load 35 (.t 34) none, .len 36 (.t 35), .bin 37 .gtr (.t 36) (.c (.lit (.int .i64 8)))])
 (.cond (.t 37) (.seq (.reg [.asg 4 (.c (.lit (.int .i64 4))), .asg 5 (.c (.lit (.int .i64 0))), .asg 6 (.c (.lit (.int .i64 3)))])
 .ret) .skip))
 (.seq (.reg [.addr 39 (.t 3) 6, .load 40 (.t 39) none, .mkfn 41 (.func 65) [] [(.t 3)], .call 42 64 [(.t 40), (.t 41)], .cpy 38 (.t 42), .ext 43 (.t 38) 0, .ext 44 (.t 38) 1, .asg 5 (.t 43), .asg 6 (.t 44)])
 (.seq (.seq (.reg [.cpy 45 (.t 6), .bin 46 .neq (.t 45) (.c (.lit (.int .i64 0)))])
 (.cond (.t 46) (.seq (.reg [.cpy 47 (.t 5), .cpy 48 (.t 6), .asg 4 (.c (.lit (.int .i64 4))), .asg 5 (.t 47), .asg 6 (.t 48)])
 .ret) .skip))
 (.seq (.reg [.asg 4 (.c (.lit (.int .i64 0))), .asg 5 (.c (.lit (.int .i64 0))), .asg 6 (.c (.lit (.int .i64 0)))])
 .ret))))))))
def r17 : List MRes := [.tmp 4, .tmp 5, .tmp 6]
theorem tr17 : Try.f17.body.bind (trC Try.prog ann17 Try.f17.ntmps) = some m17 := by kernel_rfl
theorem rs17 : trRes Try.prog Try.f17.results.toList = some r17 := by kernel_rfl
theorem fn17 : isFunc Try.prog 17 = true := by kernel_rfl

/- duodecimo/duodecimolaw02.Awake -/
def ann19 : Ann := { muts := [], nilsz := [], oid := [], frz := [1], zero := [(1, [(.slice 2 [] 2000), (.slice 5 [] 2001), (.lit (.int .i64 0)), (.lit (.int .i64 0))]), (54, [(.lit (.int .i64 0))]), (87, [(.lit (.int .i64 0)), (.lit (.int .i64 0)), (.lit (.int .i64 0)), (.lit (.int .i64 0)), (.lit (.int .i64 0)), (.lit (.int .i64 0)), (.slice 2 [] 0)]), (140, [(.lit (.int .i64 0)), (.lit (.int .i64 0)), (.lit (.int .i64 0)), (.lit (.bool false)), (.lit (.bool false))]), (141, [(.lit (.int .i64 0)), (.lit (.int .i64 0)), (.lit (.int .i64 0)), (.lit (.bool false)), (.lit (.bool false))]), (142, [(.lit (.int .i64 0)), (.lit (.int .i64 0)), (.lit (.int .i64 0)), (.lit (.bool false)), (.lit (.bool false))]), (143, [(.lit (.int .i64 0)), (.lit (.int .i64 0)), (.lit (.int .i64 0)), (.lit (.bool false)), (.lit (.bool false))]), (144, [(.lit (.int .i64 0)), (.lit (.int .i64 0)), (.lit (.int .i64 0)), (.lit (.bool false)), (.lit (.bool false))]), (149, [(.lit (.int .i64 0))]), (154, [(.lit (.int .i64 0))]), (159, [(.lit (.int .i64 0))]), (168, [(.lit (.int .i64 0))]), (173, [(.lit (.int .i64 0)), (.lit (.int .i64 0)), (.lit (.int .i64 0)), (.lit (.bool false))]), (174, [(.lit (.int .i64 0)), (.lit (.int .i64 0)), (.lit (.int .i64 0)), (.lit (.bool false))]), (175, [(.lit (.int .i64 0)), (.lit (.int .i64 0)), (.lit (.int .i64 0)), (.lit (.bool false))]), (176, [(.lit (.int .i64 0)), (.lit (.int .i64 0)), (.lit (.int .i64 0)), (.lit (.bool false))]), (181, [(.lit (.int .i64 0))]), (186, [(.lit (.int .i64 0))]), (191, [(.lit (.int .i64 0))])], ord := [(2, [0, 1, 2, 3, 4, 5, 6, 7]), (3, [0, 1, 2, 3, 4, 5, 6, 7]), (4, [0, 1, 2, 3, 4, 5, 6, 7]), (5, [0, 1, 2, 3, 4, 5, 6, 7, 8, 9]), (6, [0, 1, 2, 3, 4, 5, 6, 7, 8]), (7, [0, 1, 2, 3, 4, 5, 6, 7, 8, 9]), (8, [0, 1, 2, 3, 4, 5, 6, 7, 8, 9, 10, 11]), (9, [0, 1, 2, 3, 4, 5, 6, 7, 8, 9]), (10, [0, 1, 2, 3, 4, 5, 6, 7, 8, 9]), (11, [0, 1, 2, 3, 4, 5, 6, 7, 8, 9, 10, 11])], ap := [], own := [3, 5, 7, 10, 12, 14, 17, 19, 21, 24], yl := [], fz := [], imm := [] }
def m19 : MCode := (.seq (.reg [.asg 0 (.c (.lit (.bool false)))])
 (.seq (.reg [.call 25 37 [], .alloc 1 [(.slice 2 [] 2000), (.slice 5 [] 2001), (.lit (.int .i64 0)), (.lit (.int .i64 0))], .storeF 1 (.t 25) 4])
 (.seq (.reg [.load 27 (.t 1) (some 4), .call 28 38 [(.c (.lit (.int .i64 1)))], .call 29 20 [(.t 27), (.t 28)], .cpy 26 (.t 29), .ext 30 (.t 26) 0, .ext 31 (.t 26) 1, .cpyE 2 (.t 30), .asg 3 (.t 31)])
 (.seq (.reg [.load 33 (.t 1) (some 4), .call 34 38 [(.c (.lit (.int .i64 1)))], .call 35 23 [(.t 33), (.t 34), (.c (.lit (.int .i64 0))), (.c (.lit (.bool true)))], .cpy 32 (.t 35), .ext 36 (.t 32) 0, .ext 37 (.t 32) 1, .cpyE 4 (.t 36), .asg 5 (.t 37)])
 (.seq (.reg [.load 39 (.t 1) (some 4), .call 40 38 [(.c (.lit (.int .i64 2)))], .call 41 23 [(.t 39), (.t 40), (.c (.lit (.int .i64 0))), (.c (.lit (.bool false)))], .cpy 38 (.t 41), .ext 42 (.t 38) 0, .ext 43 (.t 38) 1, .cpyE 6 (.t 42), .asg 7 (.t 43)])
 (.seq (.reg [.load 45 (.t 1) (some 4), .call 46 38 [(.c (.lit (.int .i64 2)))], .call 47 26 [(.t 45), (.t 46), (.c (.lit (.int .i64 1)))], .cpy 44 (.t 47), .ext 48 (.t 44) 0, .ext 49 (.t 44) 1, .ext 50 (.t 44) 2, .cpyE 8 (.t 48), .cpyE 9 (.t 49), .asg 10 (.t 50)])
 (.seq (.reg [.load 52 (.t 1) (some 4), .call 53 38 [(.c (.lit (.int .i64 2)))], .mkS 54 1 1 [(.lit (.int .i64 0))] [(0, (.c (.lit (.int .i64 0))))], .call 55 28 [(.t 52), (.t 53), (.t 54)], .cpy 51 (.t 55), .ext 56 (.t 51) 0, .ext 57 (.t 51) 1, .cpyE 11 (.t 56), .asg 12 (.t 57)])
 (.seq (.reg [.load 59 (.t 1) (some 4), .call 60 41 [], .call 61 41 [], .call 62 39 [(.c (.lit (.int .i64 0))), (.t 60), (.t 61)], .call 63 30 [(.t 59), (.t 62)], .cpy 58 (.t 63), .ext 64 (.t 58) 0, .ext 65 (.t 58) 1, .cpyE 13 (.t 64), .asg 14 (.t 65)])
 (.seq (.reg [.load 67 (.t 1) (some 4), .call 68 41 [], .call 69 41 [], .call 70 39 [(.c (.lit (.int .i64 0))), (.t 68), (.t 69)], .call 71 33 [(.t 67), (.t 70), (.c (.lit (.int .i64 0)))], .cpy 66 (.t 71), .ext 72 (.t 66) 0, .ext 73 (.t 66) 1, .ext 74 (.t 66) 2, .cpyE 15 (.t 72), .cpyE 16 (.t 73), .asg 17 (.t 74)])
 (.seq (.reg [.load 76 (.t 1) (some 4), .call 77 40 [(.c (.lit (.int .i64 145))), (.c (.lit (.int .i64 146)))], .call 78 40 [(.c (.lit (.int .i64 190))), (.c (.lit (.int .i64 191)))], .call 79 39 [(.c (.lit (.int .i64 1))), (.t 77), (.t 78)], .call 80 35 [(.t 76), (.t 79)], .cpy 75 (.t 80), .ext 81 (.t 75) 0, .ext 82 (.t 75) 1, .cpyE 18 (.t 81), .asg 19 (.t 82)])
 (.seq (.reg [.load 84 (.t 1) (some 4), .call 85 41 [], .call 86 41 [], .build 87 [(.lit (.int .i64 0)), (.lit (.int .i64 0)), (.lit (.int .i64 0)), (.lit (.int .i64 0)), (.lit (.int .i64 0)), (.lit (.int .i64 0)), (.slice 2 [] 0)] [(0, 1, (.c (.lit (.int .i64 3)))), (2, 2, (.t 85)), (4, 2, (.t 86))], .call 88 35 [(.t 84), (.t 87)], .cpy 83 (.t 88), .ext 89 (.t 83) 0, .ext 90 (.t 83) 1, .cpyE 20 (.t 89), .asg 21 (.t 90)])
 (.seq (.reg [.load 92 (.t 1) (some 4), .call 93 40 [(.c (.lit (.int .i64 145))), (.c (.lit (.int .i64 146)))], .call 94 41 [], .call 95 39 [(.c (.lit (.int .i64 1))), (.t 93), (.t 94)], .call 96 33 [(.t 92), (.t 95), (.c (.lit (.int .i64 0)))], .cpy 91 (.t 96), .ext 97 (.t 91) 0, .ext 98 (.t 91) 1, .ext 99 (.t 91) 2, .cpyE 22 (.t 97), .cpyE 23 (.t 98), .asg 24 (.t 99)])
 (.seq (.reg [.cpy 100 (.t 3), .bin 101 .eql (.t 100) (.c (.lit (.int .i64 0))), .cpy 102 (.t 101), .guard 102 true (some 103) (.cpy 103 (.t 5)), .guard 102 true (some 104) (.bin 104 .eql (.t 103) (.c (.lit (.int .i64 0)))), .pick 105 (.t 102) (.t 104) (.c (.lit (.bool false))), .cpy 106 (.t 105), .guard 106 true (some 107) (.cpy 107 (.t 7)), .guard 106 true (some 108) (.bin 108 .eql (.t 107) (.c (.lit (.int .i64 0)))), .pick 109 (.t 106) (.t 108) (.c (.lit (.bool false))), .cpy 110 (.t 109), .guard 110 true (some 111) (.cpy 111 (.t 10)), .guard 110 true (some 112) (.bin 112 .eql (.t 111) (.c (.lit (.int .i64 0)))), .pick 113 (.t 110) (.t 112) (.c (.lit (.bool false))), .cpy 114 (.t 113), .guard 114 true (some 115) (.cpy 115 (.t 12)), .guard 114 true (some 116) (.bin 116 .eql (.t 115) (.c (.lit (.int .i64 0)))), .pick 117 (.t 114) (.t 116) (.c (.lit (.bool false))), .cpy 118 (.t 117), .guard 118 true (some 119) (.cpy 119 (.t 14)), .guard 118 true (some 120) (.bin 120 .eql (.t 119) (.c (.lit (.int .i64 0)))), .pick 121 (.t 118) (.t 120) (.c (.lit (.bool false))), .cpy 122 (.t 121), .guard 122 true (some 123) (.cpy 123 (.t 17)), .guard 122 true (some 124) (.bin 124 .eql (.t 123) (.c (.lit (.int .i64 0)))), .pick 125 (.t 122) (.t 124) (.c (.lit (.bool false))), .cpy 126 (.t 125), .guard 126 true (some 127) (.cpy 127 (.t 19)), .guard 126 true (some 128) (.bin 128 .eql (.t 127) (.c (.lit (.int .i64 0)))), .pick 129 (.t 126) (.t 128) (.c (.lit (.bool false))), .cpy 130 (.t 129), .guard 130 true (some 131) (.cpy 131 (.t 21)), .guard 130 true (some 132) (.bin 132 .eql (.t 131) (.c (.lit (.int .i64 9)))), .pick 133 (.t 130) (.t 132) (.c (.lit (.bool false))), .cpy 134 (.t 133), .guard 134 true (some 135) (.cpy 135 (.t 24)), .guard 134 true (some 136) (.bin 136 .eql (.t 135) (.c (.lit (.int .i64 8)))), .pick 137 (.t 134) (.t 136) (.c (.lit (.bool false))), .cpy 138 (.t 137), .guard 138 true (some 139) (.cpy 139 (.t 2)), .guard 138 true (some 140) (.build 140 [(.lit (.int .i64 0)), (.lit (.int .i64 0)), (.lit (.int .i64 0)), (.lit (.bool false)), (.lit (.bool false))] []), .guard 138 true (some 141) (.build 141 [(.lit (.int .i64 0)), (.lit (.int .i64 0)), (.lit (.int .i64 0)), (.lit (.bool false)), (.lit (.bool false))] [(1, 1, (.c (.lit (.int .i64 1)))), (3, 1, (.c (.lit (.bool true)))), (4, 1, (.c (.lit (.bool true))))]), .guard 138 true (some 142) (.build 142 [(.lit (.int .i64 0)), (.lit (.int .i64 0)), (.lit (.int .i64 0)), (.lit (.bool false)), (.lit (.bool false))] [(1, 1, (.c (.lit (.int .i64 1)))), (2, 1, (.c (.lit (.int .i64 1)))), (4, 1, (.c (.lit (.bool true))))]), .guard 138 true (some 143) (.build 143 [(.lit (.int .i64 0)), (.lit (.int .i64 0)), (.lit (.int .i64 0)), (.lit (.bool false)), (.lit (.bool false))] [(2, 1, (.c (.lit (.int .i64 1)))), (3, 1, (.c (.lit (.bool true))))]), .guard 138 true (some 144) (.mkS 144 4 5 [(.lit (.int .i64 0)), (.lit (.int .i64 0)), (.lit (.int .i64 0)), (.lit (.bool false)), (.lit (.bool false))] [(0, (.t 140)), (1, (.t 141)), (2, (.t 142)), (3, (.t 143))]), .guard 138 true (some 145) (.call 145 22 [(.t 139), (.t 144)]), .pick 146 (.t 138) (.t 145) (.c (.lit (.bool false))), .cpy 147 (.t 146), .guard 147 true (some 148) (.cpy 148 (.t 4)), .guard 147 true (some 149) (.mkS 149 4 1 [(.lit (.int .i64 0))] [(0, (.c (.lit (.int .i64 2)))), (1, (.c (.lit (.int .i64 (-3))))), (2, (.c (.lit (.int .i64 7)))), (3, (.c (.lit (.int .i64 (-6)))))]), .guard 147 true (some 150) (.call 150 25 [(.t 148), (.t 149)]), .pick 151 (.t 147) (.t 150) (.c (.lit (.bool false))), .cpy 152 (.t 151), .guard 152 true (some 153) (.cpy 153 (.t 6)), .guard 152 true (some 154) (.mkS 154 8 1 [(.lit (.int .i64 0))] [(0, (.c (.lit (.int .i64 1)))), (1, (.c (.lit (.int .i64 16)))), (2, (.c (.lit (.int .i64 13)))), (3, (.c (.lit (.int .i64 4)))), (4, (.c (.lit (.int .i64 (-8))))), (5, (.c (.lit (.int .i64 (-9))))), (6, (.c (.lit (.int .i64 (-12))))), (7, (.c (.lit (.int .i64 (-5)))))]), .guard 152 true (some 155) (.call 155 25 [(.t 153), (.t 154)]), .pick 156 (.t 152) (.t 155) (.c (.lit (.bool false))), .cpy 157 (.t 156), .guard 157 true (some 158) (.cpy 158 (.t 8)), .guard 157 true (some 159) (.mkS 159 7 1 [(.lit (.int .i64 0))] [(0, (.c (.lit (.int .i64 0)))), (1, (.c (.lit (.int .i64 2)))), (2, (.c (.lit (.int .i64 3)))), (3, (.c (.lit (.int .i64 4)))), (4, (.c (.lit (.int .i64 5)))), (5, (.c (.lit (.int .i64 6)))), (6, (.c (.lit (.int .i64 7))))]), .guard 157 true (some 160) (.call 160 25 [(.t 158), (.t 159)]), .pick 161 (.t 157) (.t 160) (.c (.lit (.bool false))), .cpy 162 (.t 161), .guard 162 true (some 163) (.cpy 163 (.t 9)), .guard 162 true (some 164) (.bin 164 .eql (.t 163) (.c (.lit (.int .i64 6)))), .pick 165 (.t 162) (.t 164) (.c (.lit (.bool false))), .cpy 166 (.t 165), .guard 166 true (some 167) (.cpy 167 (.t 11)), .guard 166 true (some 168) (.mkS 168 4 1 [(.lit (.int .i64 0))] [(0, (.c (.lit (.int .i64 0)))), (1, (.c (.lit (.int .i64 3)))), (2, (.c (.lit (.int .i64 4)))), (3, (.c (.lit (.int .i64 7))))]), .guard 166 true (some 169) (.call 169 25 [(.t 167), (.t 168)]), .pick 170 (.t 166) (.t 169) (.c (.lit (.bool false))), .cpy 171 (.t 170), .guard 171 true (some 172) (.cpy 172 (.t 13)), .guard 171 true (some 173) (.build 173 [(.lit (.int .i64 0)), (.lit (.int .i64 0)), (.lit (.int .i64 0)), (.lit (.bool false))] [(2, 1, (.c (.lit (.int .i64 2))))]), .guard 171 true (some 174) (.build 174 [(.lit (.int .i64 0)), (.lit (.int .i64 0)), (.lit (.int .i64 0)), (.lit (.bool false))] [(0, 1, (.c (.lit (.int .i64 1)))), (2, 1, (.c (.lit (.int .i64 1))))]), .guard 171 true (some 175) (.build 175 [(.lit (.int .i64 0)), (.lit (.int .i64 0)), (.lit (.int .i64 0)), (.lit (.bool false))] [(0, 1, (.c (.lit (.int .i64 2)))), (2, 1, (.c (.lit (.int .i64 1)))), (3, 1, (.c (.lit (.bool true))))]), .guard 171 true (some 176) (.mkS 176 3 4 [(.lit (.int .i64 0)), (.lit (.int .i64 0)), (.lit (.int .i64 0)), (.lit (.bool false))] [(0, (.t 173)), (1, (.t 174)), (2, (.t 175))]), .guard 171 true (some 177) (.call 177 32 [(.t 172), (.t 176)]), .pick 178 (.t 171) (.t 177) (.c (.lit (.bool false))), .cpy 179 (.t 178), .guard 179 true (some 180) (.cpy 180 (.t 15)), .guard 179 true (some 181) (.mkS 181 1 1 [(.lit (.int .i64 0))] [(0, (.c (.lit (.int .i64 3))))]), .guard 179 true (some 182) (.call 182 25 [(.t 180), (.t 181)]), .pick 183 (.t 179) (.t 182) (.c (.lit (.bool false))), .cpy 184 (.t 183), .guard 184 true (some 185) (.cpy 185 (.t 16)), .guard 184 true (some 186) (.mkS 186 3 1 [(.lit (.int .i64 0))] [(0, (.c (.lit (.int .i64 1)))), (1, (.c (.lit (.int .i64 2)))), (2, (.c (.lit (.int .i64 3))))]), .guard 184 true (some 187) (.call 187 25 [(.t 185), (.t 186)]), .pick 188 (.t 184) (.t 187) (.c (.lit (.bool false))), .cpy 189 (.t 188), .guard 189 true (some 190) (.cpy 190 (.t 18)), .guard 189 true (some 191) (.mkS 191 1 1 [(.lit (.int .i64 0))] [(0, (.c (.lit (.int .i64 0))))]), .guard 189 true (some 192) (.call 192 25 [(.t 190), (.t 191)]), .pick 193 (.t 189) (.t 192) (.c (.lit (.bool false))), .asg 0 (.t 193)])
 .ret)))))))))))))
def r19 : List MRes := [.tmp 0]
theorem tr19 : Try.f19.body.bind (trC Try.prog ann19 Try.f19.ntmps) = some m19 := by kernel_rfl
theorem rs19 : trRes Try.prog Try.f19.results.toList = some r19 := by kernel_rfl
theorem fn19 : isFunc Try.prog 19 = true := by kernel_rfl

/- duodecimo/fold.Leaves -/
def ann20 : Ann := { muts := [], nilsz := [(4, 5)], oid := [], frz := [6], zero := [(6, [(.slice 2 [] 7000), (.slice 5 [] 7001), (.lit (.int .i64 0)), (.lit (.int .i64 0))])], ord := [], ap := [], own := [], yl := [], fz := [], imm := [] }
def m20 : MCode := (.seq (.reg [.boxI 2 (.t 0) 4, .boxI 3 (.t 1) 4, .asgNil 4 5, .asg 5 (.c (.lit (.int .i64 0)))])
 (.seq (.reg [.load 9 (.t 2) (some 4), .load 10 (.t 3) (some 4), .call 11 66 [(.t 9), (.t 10)], .cpy 8 (.t 11), .ext 12 (.t 8) 0, .ext 13 (.t 8) 1, .alloc 6 [(.slice 2 [] 7000), (.slice 5 [] 7001), (.lit (.int .i64 0)), (.lit (.int .i64 0))], .storeF 6 (.t 12) 4, .asg 7 (.t 13)])
 (.seq (.seq (.reg [.cpy 14 (.t 7), .bin 15 .neq (.t 14) (.c (.lit (.int .i64 0)))])
 (.cond (.t 15) (.seq (.reg [.cpy 16 (.t 7), .asgNil 4 5, .asg 5 (.t 16)])
 .ret) .skip))
 (.seq (.reg [.load 17 (.t 6) (some 4), .load 18 (.t 3) (some 4), .call 19 67 [(.t 17), (.t 18)], .asg 4 (.t 19), .asg 5 (.c (.lit (.int .i64 0)))])
 .ret))))
def r20 : List MRes := [.tmp 4, .tmp 5]
theorem tr20 : Try.f20.body.bind (trC Try.prog ann20 Try.f20.ntmps) = some m20 := by kernel_rfl
theorem rs20 : trRes Try.prog Try.f20.results.toList = some r20 := by kernel_rfl
theorem fn20 : isFunc Try.prog 20 = true := by kernel_rfl

/- duodecimo/duodecimoref02.Same -/
def ann22 : Ann := { muts := [], nilsz := [], oid := [], frz := [], zero := [], ord := [(6, [0, 1, 2, 3, 4, 5, 6, 7, 8])], ap := [], own := [], yl := [], fz := [], imm := [] }
def m22 : MCode := (.seq (.reg [.asg 4 (.c (.lit (.bool false)))])
 (.seq (.seq (.reg [.cpy 6 (.t 0), .len 7 (.t 6), .cpy 8 (.t 1), .len 9 (.t 8), .bin 10 .neq (.t 7) (.t 9)])
 (.cond (.t 10) (.seq (.reg [.asg 4 (.c (.lit (.bool false)))])
 .ret) .skip))
 (.seq (.seq (.reg [.asg 5 (.c (.lit (.int .i64 0)))])
 (.block 0 (.loop (.seq (.seq (.reg [.cpy 11 (.t 5), .cpy 12 (.t 0), .len 13 (.t 12), .bin 14 .lss (.t 11) (.t 13)])
 (.cond (.t 14) .skip (.exit 0)))
 (.seq (.block 1 (.seq (.reg [.cpy 17 (.t 0), .cpy 18 (.t 5), .idxS 19 (.t 17) (.t 18) 5, .load 20 (.t 19) (some 5), .cpy 21 (.t 1), .cpy 22 (.t 5), .idxS 23 (.t 21) (.t 22) 5, .load 24 (.t 23) (some 5), .binA 25 true [false, false, false, true, true] (.t 20) (.t 24)])
 (.cond (.t 25) (.seq (.reg [.asg 4 (.c (.lit (.bool false)))])
 .ret) .skip)))
 (.reg [.cpy 15 (.t 5), .bin 16 .add (.t 15) (.c (.lit (.int .i64 1))), .asg 5 (.t 16)]))))))
 (.seq (.reg [.asg 4 (.c (.lit (.bool true)))])
 .ret))))
def r22 : List MRes := [.tmp 4]
theorem tr22 : Try.f22.body.bind (trC Try.prog ann22 Try.f22.ntmps) = some m22 := by kernel_rfl
theorem rs22 : trRes Try.prog Try.f22.results.toList = some r22 := by kernel_rfl
theorem fn22 : isFunc Try.prog 22 = true := by kernel_rfl

/- duodecimo/fold.Forme -/
def ann23 : Ann := { muts := [], nilsz := [(8, 1)], oid := [], frz := [10, 13], zero := [(10, [(.slice 2 [] 11000), (.slice 5 [] 11001), (.lit (.int .i64 0)), (.lit (.int .i64 0))]), (13, [(.lit (.int .i64 0)), (.lit (.int .i64 0)), (.lit (.int .i64 0)), (.lit (.bool false)), (.lit (.bool false))]), (36, [(.lit (.int .i64 0))]), (68, [(.lit (.int .i64 0)), (.lit (.int .i64 0)), (.lit (.int .i64 0))]), (91, [(.lit (.int .i64 0)), (.lit (.int .i64 0)), (.lit (.int .i64 0))]), (98, [(.lit (.int .i64 0))])], ord := [], ap := [], own := [], yl := [], fz := [], imm := [] }
def m23 : MCode := (.seq (.reg [.boxI 4 (.t 0) 4, .boxI 5 (.t 1) 4, .asgNil 8 1, .asg 9 (.c (.lit (.int .i64 0)))])
 (.seq (.reg [.load 22 (.t 4) (some 4), .load 23 (.t 5) (some 4), .call 24 66 [(.t 22), (.t 23)], .cpy 21 (.t 24), .ext 25 (.t 21) 0, .ext 26 (.t 21) 1, .alloc 10 [(.slice 2 [] 11000), (.slice 5 [] 11001), (.lit (.int .i64 0)), (.lit (.int .i64 0))], .storeF 10 (.t 25) 4, .asg 9 (.t 26)])
 (.seq (.block 0 (.seq (.reg [.cpy 28 (.t 9), .bin 29 .neq (.t 28) (.c (.lit (.int .i64 0))), .asg 27 (.t 29)])
 (.cond (.t 27) (.seq (.reg [.cpy 30 (.t 9), .asgNil 8 1, .asg 9 (.t 30)])
 .ret) (.seq (.reg [.addr 32 (.t 5) 2, .load 33 (.t 32) none, .bin 34 .sub (.t 33) (.c (.lit (.int .i64 1))), .cpy 35 (.t 2), .mkS 36 1 1 [(.lit (.int .i64 0))] [(0, (.t 35))], .call 37 51 [(.c (.lit (.int .i64 0))), (.t 34), (.t 36)], .asg 31 (.t 37)])
 (.cond (.t 31) (.seq (.reg [.asgNil 8 1, .asg 9 (.c (.lit (.int .i64 4)))])
 .ret) .skip)))))
 (.seq (.reg [.mkMap 38, .asg 11 (.t 38)])
 (.seq (.seq (.reg [.load 39 (.t 10) (some 4), .load 40 (.t 5) (some 4), .call 41 67 [(.t 39), (.t 40)], .len 42 (.t 41), .cpy 43 (.c (.lit (.int .i64 0)))])
 (.block 1 (.loop (.seq (.reg [.bin 44 .lss (.t 43) (.t 42)])
 (.seq (.cond (.t 44) .skip (.exit 1))
 (.seq (.block 2 (.seq (.reg [.cpy 45 (.t 43), .idxS 46 (.t 41) (.t 43) 5, .load 47 (.t 46) (some 5), .alloc 13 [(.lit (.int .i64 0)), (.lit (.int .i64 0)), (.lit (.int .i64 0)), (.lit (.bool false)), (.lit (.bool false))], .asg 12 (.t 45), .storeF 13 (.t 47) 5])
 (.seq (.reg [.cpy 48 (.t 12), .bin 49 .mul (.c (.lit (.int .i64 2))) (.t 48), .bin 50 .add (.t 49) (.c (.lit (.int .i64 1))), .asg 14 (.t 50)])
 (.seq (.seq (.reg [.addr 51 (.t 13) 3, .load 52 (.t 51) none, .cpy 53 (.t 3), .binB 54 true (.t 52) (.t 53)])
 (.cond (.t 54) (.reg [.cpy 55 (.t 14), .bin 56 .add (.t 55) (.c (.lit (.int .i64 1))), .asg 14 (.t 56)]) .skip))
 (.seq (.seq (.reg [.addr 57 (.t 13) 4, .load 58 (.t 57) none])
 (.cond (.t 58) (.reg [.cpy 59 (.t 14), .neg 60 (.t 59), .asg 14 (.t 60)]) .skip))
 (.reg [.cpy 61 (.t 11), .addr 62 (.t 13) 0, .load 63 (.t 62) none, .addr 64 (.t 13) 1, .load 65 (.t 64) none, .addr 66 (.t 13) 2, .load 67 (.t 66) none, .build 68 [(.lit (.int .i64 0)), (.lit (.int .i64 0)), (.lit (.int .i64 0))] [(0, 1, (.t 63)), (1, 1, (.t 65)), (2, 1, (.t 67))], .cpy 69 (.t 14), .mapUpd (.t 61) (.t 68) (.t 69) (some 3)]))))))
 (.reg [.bin 70 .add (.t 43) (.c (.lit (.int .i64 1))), .cpy 43 (.t 70)])))))))
 (.seq (.reg [.load 72 (.t 10) (some 4), .load 73 (.t 5) (some 4), .call 74 71 [(.t 72), (.t 73)], .call 75 70 [(.t 74)], .cpy 71 (.t 75), .ext 76 (.t 71) 0, .ext 77 (.t 71) 1, .asg 15 (.t 76), .asg 16 (.t 77)])
 (.seq (.seq (.reg [.cpy 78 (.t 16), .cpy 79 (.c (.lit (.int .i64 0)))])
 (.block 3 (.loop (.seq (.reg [.bin 80 .lss (.t 79) (.t 78)])
 (.seq (.cond (.t 80) .skip (.exit 3))
 (.seq (.block 4 (.seq (.reg [.cpy 81 (.t 79), .asg 17 (.t 81)])
 (.seq (.reg [.cpy 82 (.t 15), .cpy 83 (.c (.lit (.int .i64 0)))])
 (.block 5 (.loop (.seq (.reg [.bin 84 .lss (.t 83) (.t 82)])
 (.seq (.cond (.t 84) .skip (.exit 5))
 (.seq (.block 6 (.seq (.reg [.cpy 85 (.t 83), .asg 18 (.t 85)])
 (.seq (.reg [.cpy 87 (.t 11), .cpy 88 (.t 2), .cpy 89 (.t 18), .cpy 90 (.t 17), .build 91 [(.lit (.int .i64 0)), (.lit (.int .i64 0)), (.lit (.int .i64 0))] [(0, 1, (.t 88)), (1, 1, (.t 89)), (2, 1, (.t 90))], .lookup 92 (.t 87) (.t 91) (some 3) true (.lit (.int .i64 0)), .cpy 86 (.t 92), .ext 93 (.t 86) 0, .ext 94 (.t 86) 1, .asg 19 (.t 93), .asg 20 (.t 94)])
 (.seq (.reg [.cpy 95 (.t 20)])
 (.cond (.t 95) (.reg [.cpy 96 (.t 8), .cpy 97 (.t 19), .mkS 98 1 1 [(.lit (.int .i64 0))] [(0, (.t 97))], .app 99 (.t 96) (.t 98) 1 8, .asg 8 (.t 99)]) .skip)))))
 (.reg [.bin 100 .add (.t 83) (.c (.lit (.int .i64 1))), .cpy 83 (.t 100)])))))))))
 (.reg [.bin 101 .add (.t 79) (.c (.lit (.int .i64 1))), .cpy 79 (.t 101)])))))))
 (.seq (.reg [.cpy 102 (.t 8), .asg 8 (.t 102), .asg 9 (.c (.lit (.int .i64 0)))])
 .ret))))))))
def r23 : List MRes := [.tmp 8, .tmp 9]
theorem tr23 : Try.f23.body.bind (trC Try.prog ann23 Try.f23.ntmps) = some m23 := by kernel_rfl
theorem rs23 : trRes Try.prog Try.f23.results.toList = some r23 := by kernel_rfl
theorem fn23 : isFunc Try.prog 23 = true := by kernel_rfl

/- duodecimo/duodecimoref01.Ints -/
def ann25 : Ann := { muts := [], nilsz := [], oid := [], frz := [], zero := [], ord := [(5, [0, 1, 2, 3, 4, 5, 6, 7, 8, 9])], ap := [], own := [5], yl := [], fz := [], imm := [] }
def m25 : MCode := (.seq (.reg [.asg 4 (.c (.lit (.bool false)))])
 (.seq (.reg [.cpy 7 (.t 0), .len 8 (.t 7), .cpy 9 (.t 1), .len 10 (.t 9), .bin 11 .eql (.t 8) (.t 10), .asg 5 (.t 11)])
 (.seq (.seq (.reg [.asg 6 (.c (.lit (.int .i64 0)))])
 (.block 0 (.loop (.seq (.seq (.reg [.cpy 12 (.t 5), .cpy 13 (.t 12), .guard 13 true (some 14) (.cpy 14 (.t 6)), .guard 13 true (some 15) (.cpy 15 (.t 0)), .guard 13 true (some 16) (.len 16 (.t 15)), .guard 13 true (some 17) (.bin 17 .lss (.t 14) (.t 16)), .pick 18 (.t 13) (.t 17) (.c (.lit (.bool false)))])
 (.cond (.t 18) .skip (.exit 0)))
 (.seq (.block 1 (.reg [.cpy 21 (.t 0), .cpy 22 (.t 6), .idxS 23 (.t 21) (.t 22) 1, .load 24 (.t 23) none, .cpy 25 (.t 1), .cpy 26 (.t 6), .idxS 27 (.t 25) (.t 26) 1, .load 28 (.t 27) none, .bin 29 .eql (.t 24) (.t 28), .asg 5 (.t 29)]))
 (.reg [.cpy 19 (.t 6), .bin 20 .add (.t 19) (.c (.lit (.int .i64 1))), .asg 6 (.t 20)]))))))
 (.seq (.reg [.cpy 30 (.t 5), .asg 4 (.t 30)])
 .ret))))
def r25 : List MRes := [.tmp 4]
theorem tr25 : Try.f25.body.bind (trC Try.prog ann25 Try.f25.ntmps) = some m25 := by kernel_rfl
theorem rs25 : trRes Try.prog Try.f25.results.toList = some r25 := by kernel_rfl
theorem fn25 : isFunc Try.prog 25 = true := by kernel_rfl

/- duodecimo/fold.Mates -/
def ann26 : Ann := { muts := [], nilsz := [(6, 1)], oid := [], frz := [9, 12], zero := [(9, [(.slice 2 [] 10000), (.slice 5 [] 10001), (.lit (.int .i64 0)), (.lit (.int .i64 0))]), (12, [(.lit (.int .i64 0)), (.lit (.int .i64 0)), (.lit (.int .i64 0)), (.lit (.bool false)), (.lit (.bool false))]), (29, [(.lit (.int .i64 0))]), (56, [(.lit (.int .i64 0))])], ord := [(10, [0, 1, 2, 3, 4, 5, 6, 7, 8, 9, 10, 11, 12, 13, 14, 15])], ap := [], own := [], yl := [], fz := [], imm := [] }
def m26 : MCode := (.seq (.reg [.boxI 3 (.t 0) 4, .boxI 4 (.t 1) 4, .asgNil 6 1, .asg 7 (.c (.lit (.int .i64 0))), .asg 8 (.c (.lit (.int .i64 0)))])
 (.seq (.reg [.load 14 (.t 3) (some 4), .load 15 (.t 4) (some 4), .call 16 66 [(.t 14), (.t 15)], .cpy 13 (.t 16), .ext 17 (.t 13) 0, .ext 18 (.t 13) 1, .alloc 9 [(.slice 2 [] 10000), (.slice 5 [] 10001), (.lit (.int .i64 0)), (.lit (.int .i64 0))], .storeF 9 (.t 17) 4, .asg 8 (.t 18)])
 (.seq (.seq (.reg [.cpy 19 (.t 8), .bin 20 .neq (.t 19) (.c (.lit (.int .i64 0)))])
 (.cond (.t 20) (.seq (.reg [.cpy 21 (.t 8), .asgNil 6 1, .asg 7 (.c (.lit (.int .i64 0))), .asg 8 (.t 21)])
 .ret) .skip))
 (.seq (.reg [.load 22 (.t 9) (some 4), .load 23 (.t 4) (some 4), .call 24 67 [(.t 22), (.t 23)], .asg 10 (.t 24)])
 (.seq (.seq (.reg [.cpy 25 (.t 10), .len 26 (.t 25), .bin 27 .sub (.t 26) (.c (.lit (.int .i64 1))), .cpy 28 (.t 2), .mkS 29 1 1 [(.lit (.int .i64 0))] [(0, (.t 28))], .call 30 51 [(.c (.lit (.int .i64 0))), (.t 27), (.t 29)]])
 (.cond (.t 30) (.seq (.reg [.asgNil 6 1, .asg 7 (.c (.lit (.int .i64 0))), .asg 8 (.c (.lit (.int .i64 4)))])
 .ret) .skip))
 (.seq (.seq (.reg [.cpy 31 (.t 10), .len 32 (.t 31), .cpy 33 (.c (.lit (.int .i64 0)))])
 (.block 0 (.loop (.seq (.reg [.bin 34 .lss (.t 33) (.t 32)])
 (.seq (.cond (.t 34) .skip (.exit 0))
 (.seq (.block 1 (.seq (.reg [.cpy 35 (.t 33), .idxS 36 (.t 31) (.t 33) 5, .load 37 (.t 36) (some 5), .alloc 12 [(.lit (.int .i64 0)), (.lit (.int .i64 0)), (.lit (.int .i64 0)), (.lit (.bool false)), (.lit (.bool false))], .asg 11 (.t 35), .storeF 12 (.t 37) 5])
 (.seq (.reg [.addr 38 (.t 12) 0, .load 39 (.t 38) none, .cpy 40 (.t 10), .cpy 41 (.t 2), .idxS 42 (.t 40) (.t 41) 5, .addr 43 (.t 42) 0, .load 44 (.t 43) none, .bin 45 .eql (.t 39) (.t 44), .cpy 46 (.t 45), .guard 46 true (some 47) (.load 47 (.t 12) (some 5)), .guard 46 true (some 48) (.cpy 48 (.t 10)), .guard 46 true (some 49) (.cpy 49 (.t 2)), .guard 46 true (some 50) (.idxS 50 (.t 48) (.t 49) 5), .guard 46 true (some 51) (.load 51 (.t 50) (some 5)), .guard 46 true (some 52) (.binA 52 true [false, false, false, true, true] (.t 47) (.t 51)), .pick 53 (.t 46) (.t 52) (.c (.lit (.bool false)))])
 (.cond (.t 53) (.reg [.cpy 54 (.t 6), .cpy 55 (.t 11), .mkS 56 1 1 [(.lit (.int .i64 0))] [(0, (.t 55))], .app 57 (.t 54) (.t 56) 1 8, .asg 6 (.t 57)]) .skip))))
 (.reg [.bin 58 .add (.t 33) (.c (.lit (.int .i64 1))), .cpy 33 (.t 58)])))))))
 (.seq (.reg [.cpy 59 (.t 6), .cpy 60 (.t 10), .len 61 (.t 60), .bin 62 .sub (.t 61) (.c (.lit (.int .i64 1))), .cpy 63 (.t 2), .bin 64 .sub (.t 62) (.t 63), .asg 6 (.t 59), .asg 7 (.t 64), .asg 8 (.c (.lit (.int .i64 0)))])
 .ret)))))))
def r26 : List MRes := [.tmp 6, .tmp 7, .tmp 8]
theorem tr26 : Try.f26.body.bind (trC Try.prog ann26 Try.f26.ntmps) = some m26 := by kernel_rfl
theorem rs26 : trRes Try.prog Try.f26.results.toList = some r26 := by kernel_rfl
theorem fn26 : isFunc Try.prog 26 = true := by kernel_rfl

/- duodecimo/fold.Marked -/
def ann28 : Ann := { muts := [], nilsz := [(6, 1)], oid := [], frz := [8, 11], zero := [(8, [(.slice 2 [] 9000), (.slice 5 [] 9001), (.lit (.int .i64 0)), (.lit (.int .i64 0))]), (11, [(.lit (.int .i64 0)), (.lit (.int .i64 0)), (.lit (.int .i64 0)), (.lit (.bool false)), (.lit (.bool false))]), (53, [(.lit (.int .i64 0))])], ord := [(12, [0, 1, 2, 3, 4, 5, 6, 7, 8])], ap := [], own := [], yl := [], fz := [], imm := [] }
def m28 : MCode := (.seq (.reg [.boxI 3 (.t 0) 4, .boxI 4 (.t 1) 4, .asgNil 6 1, .asg 7 (.c (.lit (.int .i64 0)))])
 (.seq (.reg [.load 13 (.t 3) (some 4), .load 14 (.t 4) (some 4), .call 15 66 [(.t 13), (.t 14)], .cpy 12 (.t 15), .ext 16 (.t 12) 0, .ext 17 (.t 12) 1, .alloc 8 [(.slice 2 [] 9000), (.slice 5 [] 9001), (.lit (.int .i64 0)), (.lit (.int .i64 0))], .storeF 8 (.t 16) 4, .asg 7 (.t 17)])
 (.seq (.block 0 (.seq (.reg [.cpy 19 (.t 7), .bin 20 .neq (.t 19) (.c (.lit (.int .i64 0))), .asg 18 (.t 20)])
 (.cond (.t 18) (.seq (.reg [.cpy 21 (.t 7), .asgNil 6 1, .asg 7 (.t 21)])
 .ret) (.seq (.reg [.cpy 23 (.t 2), .len 24 (.t 23), .addr 25 (.t 4) 2, .load 26 (.t 25) none, .bin 27 .neq (.t 24) (.t 26), .asg 22 (.t 27)])
 (.cond (.t 22) (.seq (.reg [.asgNil 6 1, .asg 7 (.c (.lit (.int .i64 3)))])
 .ret) (.seq (.reg [.cpy 29 (.t 2), .call 30 51 [(.c (.lit (.int .i64 0))), (.c (.lit (.int .i64 1))), (.t 29)], .asg 28 (.t 30)])
 (.cond (.t 28) (.seq (.reg [.asgNil 6 1, .asg 7 (.c (.lit (.int .i64 7)))])
 .ret) .skip)))))))
 (.seq (.reg [.load 31 (.t 8) (some 4), .mkfn 32 (.func 74) [(.t 31)] [], .asg 9 (.t 32)])
 (.seq (.seq (.reg [.load 33 (.t 8) (some 4), .load 34 (.t 4) (some 4), .call 35 67 [(.t 33), (.t 34)], .len 36 (.t 35), .cpy 37 (.c (.lit (.int .i64 0)))])
 (.block 1 (.loop (.seq (.reg [.bin 38 .lss (.t 37) (.t 36)])
 (.seq (.cond (.t 38) .skip (.exit 1))
 (.seq (.block 2 (.seq (.reg [.cpy 39 (.t 37), .idxS 40 (.t 35) (.t 37) 5, .load 41 (.t 40) (some 5), .alloc 11 [(.lit (.int .i64 0)), (.lit (.int .i64 0)), (.lit (.int .i64 0)), (.lit (.bool false)), (.lit (.bool false))], .asg 10 (.t 39), .storeF 11 (.t 41) 5])
 (.seq (.reg [.cpy 42 (.t 9), .load 43 (.t 4) (some 4), .load 44 (.t 11) (some 5), .cpy 45 (.t 2), .addr 46 (.t 11) 0, .load 47 (.t 46) none, .idxS 48 (.t 45) (.t 47) 1, .load 49 (.t 48) none, .callv 50 (.t 42) [(.t 43), (.t 44), (.t 49)]])
 (.cond (.t 50) (.reg [.cpy 51 (.t 6), .cpy 52 (.t 10), .mkS 53 1 1 [(.lit (.int .i64 0))] [(0, (.t 52))], .app 54 (.t 51) (.t 53) 1 8, .asg 6 (.t 54)]) .skip))))
 (.reg [.bin 55 .add (.t 37) (.c (.lit (.int .i64 1))), .cpy 37 (.t 55)])))))))
 (.seq (.reg [.cpy 56 (.t 6), .asg 6 (.t 56), .asg 7 (.c (.lit (.int .i64 0)))])
 .ret))))))
def r28 : List MRes := [.tmp 6, .tmp 7]
theorem tr28 : Try.f28.body.bind (trC Try.prog ann28 Try.f28.ntmps) = some m28 := by kernel_rfl
theorem rs28 : trRes Try.prog Try.f28.results.toList = some r28 := by kernel_rfl
theorem fn28 : isFunc Try.prog 28 = true := by kernel_rfl

/- duodecimo/fold.Agree -/
def ann30 : Ann := { muts := [], nilsz := [(1000004, 4)], oid := [(4, 5000)], frz := [6, 7], zero := [(4, [(.slice 4 [] 5000)]), (6, [(.slice 2 [] 7000), (.slice 5 [] 7001), (.lit (.int .i64 0)), (.lit (.int .i64 0))]), (7, [(.lit (.int .i64 0)), (.lit (.int .i64 0)), (.lit (.int .i64 0)), (.lit (.bool false))]), (27, [(.lit (.int .i64 0)), (.lit (.int .i64 0)), (.lit (.int .i64 0)), (.lit (.bool false))])], ord := [], ap := [], own := [], yl := [], fz := [], imm := [] }
def m30 : MCode := (.seq (.reg [.boxI 2 (.t 0) 4, .boxI 3 (.t 1) 7, .alloc 4 [(.slice 4 [] 5000)], .asg 5 (.c (.lit (.int .i64 0)))])
 (.seq (.reg [.load 9 (.t 2) (some 4), .load 10 (.t 3) (some 7), .call 11 76 [(.t 9), (.t 10)], .cpy 8 (.t 11), .ext 12 (.t 8) 0, .ext 13 (.t 8) 1, .alloc 6 [(.slice 2 [] 7000), (.slice 5 [] 7001), (.lit (.int .i64 0)), (.lit (.int .i64 0))], .storeF 6 (.t 12) 4, .asg 5 (.t 13)])
 (.seq (.seq (.reg [.cpy 14 (.t 5), .bin 15 .neq (.t 14) (.c (.lit (.int .i64 0)))])
 (.cond (.t 15) (.seq (.reg [.cpy 16 (.t 5), .storeNil (.t 4) 4 5000, .asg 5 (.t 16)])
 .ret) .skip))
 (.seq (.seq (.reg [.load 17 (.t 6) (some 4), .call 18 77 [(.t 17)]])
 (.block 0 (.rangeF (.t 18) [19] (.reg [.alloc 7 [(.lit (.int .i64 0)), (.lit (.int .i64 0)), (.lit (.int .i64 0)), (.lit (.bool false))], .storeF 7 (.t 19) 4])
 (.block 1 (.seq (.reg [.load 20 (.t 6) (some 4), .load 21 (.t 7) (some 4), .load 22 (.t 3) (some 7), .call 23 78 [(.t 20), (.t 21), (.t 22)], .bin 24 .eql (.t 23) (.c (.lit (.int .i64 0)))])
 (.cond (.t 24) (.reg [.load 25 (.t 4) none, .load 26 (.t 7) (some 4), .mkS 27 1 4 [(.lit (.int .i64 0)), (.lit (.int .i64 0)), (.lit (.int .i64 0)), (.lit (.bool false))] [(0, (.t 26))], .app 28 (.t 25) (.t 27) 4 32, .store (.t 4) (.t 28) 1 5000]) .skip))))))
 (.seq (.reg [.load 29 (.t 4) none, .store (.t 4) (.t 29) 1 5000, .asg 5 (.c (.lit (.int .i64 0)))])
 .ret)))))
def r30 : List MRes := [.cell 4 none, .tmp 5]
theorem tr30 : Try.f30.body.bind (trC Try.prog ann30 Try.f30.ntmps) = some m30 := by kernel_rfl
theorem rs30 : trRes Try.prog Try.f30.results.toList = some r30 := by kernel_rfl
theorem fn30 : isFunc Try.prog 30 = true := by kernel_rfl

/- duodecimo/duodecimoref02.Alike -/
def ann32 : Ann := { muts := [], nilsz := [], oid := [], frz := [], zero := [], ord := [(6, [0, 1, 2, 3, 4, 5, 6, 7, 8])], ap := [], own := [], yl := [], fz := [], imm := [] }
def m32 : MCode := (.seq (.reg [.asg 4 (.c (.lit (.bool false)))])
 (.seq (.seq (.reg [.cpy 6 (.t 0), .len 7 (.t 6), .cpy 8 (.t 1), .len 9 (.t 8), .bin 10 .neq (.t 7) (.t 9)])
 (.cond (.t 10) (.seq (.reg [.asg 4 (.c (.lit (.bool false)))])
 .ret) .skip))
 (.seq (.seq (.reg [.asg 5 (.c (.lit (.int .i64 0)))])
 (.block 0 (.loop (.seq (.seq (.reg [.cpy 11 (.t 5), .cpy 12 (.t 0), .len 13 (.t 12), .bin 14 .lss (.t 11) (.t 13)])
 (.cond (.t 14) .skip (.exit 0)))
 (.seq (.block 1 (.seq (.reg [.cpy 17 (.t 0), .cpy 18 (.t 5), .idxS 19 (.t 17) (.t 18) 4, .load 20 (.t 19) (some 4), .cpy 21 (.t 1), .cpy 22 (.t 5), .idxS 23 (.t 21) (.t 22) 4, .load 24 (.t 23) (some 4), .binA 25 true [false, false, false, true] (.t 20) (.t 24)])
 (.cond (.t 25) (.seq (.reg [.asg 4 (.c (.lit (.bool false)))])
 .ret) .skip)))
 (.reg [.cpy 15 (.t 5), .bin 16 .add (.t 15) (.c (.lit (.int .i64 1))), .asg 5 (.t 16)]))))))
 (.seq (.reg [.asg 4 (.c (.lit (.bool true)))])
 .ret))))
def r32 : List MRes := [.tmp 4]
theorem tr32 : Try.f32.body.bind (trC Try.prog ann32 Try.f32.ntmps) = some m32 := by kernel_rfl
theorem rs32 : trRes Try.prog Try.f32.results.toList = some r32 := by kernel_rfl
theorem fn32 : isFunc Try.prog 32 = true := by kernel_rfl

/- duodecimo/fold.Together -/
def ann33 : Ann := { muts := [], nilsz := [(6, 1), (7, 1)], oid := [], frz := [12], zero := [(12, [(.lit (.int .i64 0)), (.lit (.int .i64 0)), (.lit (.int .i64 0)), (.lit (.bool false))]), (35, [(.lit (.int .i64 0))]), (43, [(.lit (.int .i64 0))]), (85, [(.lit (.int .i64 0))]), (91, [(.lit (.int .i64 0))])], ord := [], ap := [], own := [], yl := [], fz := [], imm := [] }
def m33 : MCode := (.seq (.reg [.boxI 3 (.t 0) 4, .boxI 4 (.t 1) 7, .asgNil 6 1, .asgNil 7 1, .asg 8 (.c (.lit (.int .i64 0)))])
 (.seq (.reg [.load 21 (.t 3) (some 4), .load 22 (.t 4) (some 7), .call 23 30 [(.t 21), (.t 22)], .cpy 20 (.t 23), .ext 24 (.t 20) 0, .ext 25 (.t 20) 1, .asg 9 (.t 24), .asg 8 (.t 25)])
 (.seq (.block 0 (.seq (.reg [.cpy 27 (.t 8), .bin 28 .neq (.t 27) (.c (.lit (.int .i64 0))), .asg 26 (.t 28)])
 (.cond (.t 26) (.seq (.reg [.cpy 29 (.t 8), .asgNil 6 1, .asgNil 7 1, .asg 8 (.t 29)])
 .ret) (.seq (.reg [.addr 31 (.t 4) 0, .load 32 (.t 31) none, .bin 33 .sub (.t 32) (.c (.lit (.int .i64 1))), .cpy 34 (.t 2), .mkS 35 1 1 [(.lit (.int .i64 0))] [(0, (.t 34))], .call 36 51 [(.c (.lit (.int .i64 0))), (.t 33), (.t 35)], .asg 30 (.t 36)])
 (.cond (.t 30) (.seq (.reg [.asgNil 6 1, .asgNil 7 1, .asg 8 (.c (.lit (.int .i64 4)))])
 .ret) (.seq (.reg [.cpy 38 (.t 9), .len 39 (.t 38), .bin 40 .eql (.t 39) (.c (.lit (.int .i64 0))), .asg 37 (.t 40)])
 (.cond (.t 37) (.seq (.reg [.asgNil 6 1, .asgNil 7 1, .asg 8 (.c (.lit (.int .i64 8)))])
 .ret) .skip)))))))
 (.seq (.reg [.addr 41 (.t 4) 0, .load 42 (.t 41) none, .mkM 43 (.t 42) (.t 42) 1 8 [(.lit (.int .i64 0))], .asg 10 (.t 43)])
 (.seq (.seq (.reg [.cpy 44 (.t 9), .len 45 (.t 44), .cpy 46 (.c (.lit (.int .i64 0)))])
 (.block 1 (.loop (.seq (.reg [.bin 47 .lss (.t 46) (.t 45)])
 (.seq (.cond (.t 47) .skip (.exit 1))
 (.seq (.block 2 (.seq (.reg [.idxS 48 (.t 44) (.t 46) 4, .load 49 (.t 48) (some 4), .alloc 12 [(.lit (.int .i64 0)), (.lit (.int .i64 0)), (.lit (.int .i64 0)), (.lit (.bool false))], .storeF 12 (.t 49) 4])
 (.seq (.reg [.load 51 (.t 3) (some 4), .load 52 (.t 12) (some 4), .cpy 53 (.t 2), .call 54 26 [(.t 51), (.t 52), (.t 53)], .cpy 50 (.t 54), .ext 55 (.t 50) 0, .ext 56 (.t 50) 1, .ext 57 (.t 50) 2, .asg 13 (.t 55), .asg 14 (.t 56), .asg 15 (.t 57)])
 (.seq (.reg [.cpy 58 (.t 13), .len 59 (.t 58), .cpy 60 (.c (.lit (.int .i64 0)))])
 (.block 3 (.loop (.seq (.reg [.bin 61 .lss (.t 60) (.t 59)])
 (.seq (.cond (.t 61) .skip (.exit 3))
 (.seq (.block 4 (.seq (.reg [.idxS 62 (.t 58) (.t 60) 1, .load 63 (.t 62) none, .asg 17 (.t 63)])
 (.reg [.cpy 64 (.t 10), .cpy 65 (.t 17), .idxS 66 (.t 64) (.t 65) 1, .load 67 (.t 66) none, .bin 68 .add (.t 67) (.c (.lit (.int .i64 1))), .idxS 69 (.t 64) (.t 65) 1, .store (.t 69) (.t 68) 1 0])))
 (.reg [.bin 70 .add (.t 60) (.c (.lit (.int .i64 1))), .cpy 60 (.t 70)]))))))))))
 (.reg [.bin 71 .add (.t 46) (.c (.lit (.int .i64 1))), .cpy 46 (.t 71)])))))))
 (.seq (.seq (.reg [.cpy 72 (.t 10), .len 73 (.t 72), .cpy 74 (.c (.lit (.int .i64 0)))])
 (.block 5 (.loop (.seq (.reg [.bin 75 .lss (.t 74) (.t 73)])
 (.seq (.cond (.t 75) .skip (.exit 5))
 (.seq (.block 6 (.seq (.reg [.cpy 76 (.t 74), .idxS 77 (.t 72) (.t 74) 1, .load 78 (.t 77) none, .asg 18 (.t 76), .asg 19 (.t 78)])
 (.seq (.seq (.reg [.cpy 79 (.t 19), .cpy 80 (.t 9), .len 81 (.t 80), .bin 82 .eql (.t 79) (.t 81)])
 (.cond (.t 82) (.reg [.cpy 83 (.t 6), .cpy 84 (.t 18), .mkS 85 1 1 [(.lit (.int .i64 0))] [(0, (.t 84))], .app 86 (.t 83) (.t 85) 1 8, .asg 6 (.t 86)]) .skip))
 (.seq (.reg [.cpy 87 (.t 19), .bin 88 .gtr (.t 87) (.c (.lit (.int .i64 0)))])
 (.cond (.t 88) (.reg [.cpy 89 (.t 7), .cpy 90 (.t 18), .mkS 91 1 1 [(.lit (.int .i64 0))] [(0, (.t 90))], .app 92 (.t 89) (.t 91) 1 8, .asg 7 (.t 92)]) .skip)))))
 (.reg [.bin 93 .add (.t 74) (.c (.lit (.int .i64 1))), .cpy 74 (.t 93)])))))))
 (.seq (.reg [.cpy 94 (.t 6), .cpy 95 (.t 7), .asg 6 (.t 94), .asg 7 (.t 95), .asg 8 (.c (.lit (.int .i64 0)))])
 .ret)))))))
def r33 : List MRes := [.tmp 6, .tmp 7, .tmp 8]
theorem tr33 : Try.f33.body.bind (trC Try.prog ann33 Try.f33.ntmps) = some m33 := by kernel_rfl
theorem rs33 : trRes Try.prog Try.f33.results.toList = some r33 := by kernel_rfl
theorem fn33 : isFunc Try.prog 33 = true := by kernel_rfl

/- duodecimo/fold.Wrong -/
def ann35 : Ann := { muts := [], nilsz := [(4, 1)], oid := [], frz := [6, 9], zero := [(6, [(.slice 2 [] 7000), (.slice 5 [] 7001), (.lit (.int .i64 0)), (.lit (.int .i64 0))]), (8, [(.lit (.int .i64 0))]), (9, [(.lit (.int .i64 0)), (.lit (.int .i64 0)), (.lit (.int .i64 0)), (.lit (.bool false))])], ord := [], ap := [], own := [], yl := [], fz := [], imm := [] }
def m35 : MCode := (.seq (.reg [.boxI 2 (.t 0) 4, .boxI 3 (.t 1) 7, .asgNil 4 1, .asg 5 (.c (.lit (.int .i64 0)))])
 (.seq (.reg [.load 12 (.t 2) (some 4), .load 13 (.t 3) (some 7), .call 14 76 [(.t 12), (.t 13)], .cpy 11 (.t 14), .ext 15 (.t 11) 0, .ext 16 (.t 11) 1, .alloc 6 [(.slice 2 [] 7000), (.slice 5 [] 7001), (.lit (.int .i64 0)), (.lit (.int .i64 0))], .storeF 6 (.t 15) 4, .asg 7 (.t 16)])
 (.seq (.seq (.reg [.cpy 17 (.t 7), .bin 18 .neq (.t 17) (.c (.lit (.int .i64 0)))])
 (.cond (.t 18) (.seq (.reg [.cpy 19 (.t 7), .asgNil 4 1, .asg 5 (.t 19)])
 .ret) .skip))
 (.seq (.reg [.alloc 8 [(.lit (.int .i64 0))], .store (.t 8) (.c (.lit (.int .i64 (-1)))) 1 0])
 (.seq .skip
 (.seq (.seq (.reg [.load 20 (.t 6) (some 4), .call 21 77 [(.t 20)]])
 (.block 0 (.rangeF (.t 21) [22] (.reg [.alloc 9 [(.lit (.int .i64 0)), (.lit (.int .i64 0)), (.lit (.int .i64 0)), (.lit (.bool false))], .storeF 9 (.t 22) 4])
 (.block 1 (.seq (.reg [.load 23 (.t 6) (some 4), .load 24 (.t 9) (some 4), .load 25 (.t 3) (some 7), .call 26 78 [(.t 23), (.t 24), (.t 25)], .asg 10 (.t 26)])
 (.seq (.seq (.reg [.cpy 27 (.t 10), .bin 28 .lss (.t 27) (.c (.lit (.int .i64 0))), .cpy 29 (.t 28), .guard 29 false (some 30) (.load 30 (.t 8) none), .guard 29 false (some 31) (.bin 31 .geq (.t 30) (.c (.lit (.int .i64 0)))), .guard 29 false (some 32) (.cpy 32 (.t 31)), .guard 32 true (some 33) (.cpy 33 (.t 10)), .guard 32 true (some 34) (.load 34 (.t 8) none), .guard 32 true (some 35) (.call 35 80 [(.t 33), (.t 34)]), .guard 32 true (some 36) (.not 36 (.t 35)), .guard 29 false (some 37) (.pick 37 (.t 32) (.t 36) (.c (.lit (.bool false)))), .pick 38 (.t 29) (.c (.lit (.bool true))) (.t 37)])
 (.cond (.t 38) (.exit 1) .skip))
 (.reg [.cpy 39 (.t 10), .store (.t 8) (.t 39) 1 0])))))))
 (.seq (.seq (.reg [.load 40 (.t 8) none, .bin 41 .lss (.t 40) (.c (.lit (.int .i64 0)))])
 (.cond (.t 41) (.seq (.reg [.asgNil 4 1, .asg 5 (.c (.lit (.int .i64 9)))])
 .ret) .skip))
 (.seq (.reg [.load 42 (.t 8) none, .call 43 81 [(.t 42)], .asg 4 (.t 43), .asg 5 (.c (.lit (.int .i64 0)))])
 .ret))))))))
def r35 : List MRes := [.tmp 4, .tmp 5]
theorem tr35 : Try.f35.body.bind (trC Try.prog ann35 Try.f35.ntmps) = some m35 := by kernel_rfl
theorem rs35 : trRes Try.prog Try.f35.results.toList = some r35 := by kernel_rfl
theorem fn35 : isFunc Try.prog 35 = true := by kernel_rfl

/- duodecimo/duodecimolaw02.Press -/
def ann37 : Ann := { muts := [], nilsz := [], oid := [], frz := [0], zero := [(0, [(.slice 2 [] 1000), (.slice 5 [] 1001), (.lit (.int .i64 0)), (.lit (.int .i64 0))]), (1, [(.lit (.string ⟨#[]⟩)), (.lit (.string ⟨#[]⟩))]), (2, [(.lit (.string ⟨#[]⟩)), (.lit (.string ⟨#[]⟩))]), (3, [(.lit (.string ⟨#[]⟩)), (.lit (.string ⟨#[]⟩))]), (4, [(.lit (.string ⟨#[]⟩)), (.lit (.string ⟨#[]⟩))]), (7, [(.lit (.string ⟨#[]⟩)), (.lit (.int .i64 0)), (.lit (.int .i64 0)), (.lit (.int .i64 0)), (.lit (.int .i64 0))]), (8, [(.lit (.string ⟨#[]⟩)), (.lit (.int .i64 0)), (.lit (.int .i64 0)), (.lit (.int .i64 0)), (.lit (.int .i64 0))]), (9, [(.slice 2 [] 0), (.slice 5 [] 0), (.lit (.int .i64 0)), (.lit (.int .i64 0))])], ord := [], ap := [], own := [], yl := [], fz := [], imm := [] }
def m37 : MCode := (.seq (.reg [.alloc 0 [(.slice 2 [] 1000), (.slice 5 [] 1001), (.lit (.int .i64 0)), (.lit (.int .i64 0))]])
 (.seq (.reg [.build 1 [(.lit (.string ⟨#[]⟩)), (.lit (.string ⟨#[]⟩))] [(0, 1, (.c (.lit (.string ⟨#[102, 111, 108, 105, 111]⟩)))), (1, 1, (.c (.lit (.string ⟨#[120]⟩))))], .build 2 [(.lit (.string ⟨#[]⟩)), (.lit (.string ⟨#[]⟩))] [(0, 1, (.c (.lit (.string ⟨#[113, 117, 97, 114, 116, 111]⟩)))), (1, 1, (.c (.lit (.string ⟨#[120, 121]⟩))))], .build 3 [(.lit (.string ⟨#[]⟩)), (.lit (.string ⟨#[]⟩))] [(0, 1, (.c (.lit (.string ⟨#[111, 99, 116, 97, 118, 111]⟩)))), (1, 1, (.c (.lit (.string ⟨#[120, 121, 120]⟩))))], .mkS 4 3 2 [(.lit (.string ⟨#[]⟩)), (.lit (.string ⟨#[]⟩))] [(0, (.t 1)), (1, (.t 2)), (2, (.t 3))], .call 5 40 [(.c (.lit (.int .i64 400))), (.c (.lit (.int .i64 410)))], .call 6 40 [(.c (.lit (.int .i64 300))), (.c (.lit (.int .i64 306)))], .build 7 [(.lit (.string ⟨#[]⟩)), (.lit (.int .i64 0)), (.lit (.int .i64 0)), (.lit (.int .i64 0)), (.lit (.int .i64 0))] [(0, 1, (.c (.lit (.string ⟨#[112, 111, 116]⟩)))), (1, 2, (.t 5)), (3, 2, (.t 6))], .mkS 8 1 5 [(.lit (.string ⟨#[]⟩)), (.lit (.int .i64 0)), (.lit (.int .i64 0)), (.lit (.int .i64 0)), (.lit (.int .i64 0))] [(0, (.t 7))], .build 9 [(.slice 2 [] 0), (.slice 5 [] 0), (.lit (.int .i64 0)), (.lit (.int .i64 0))] [(0, 1, (.t 4)), (1, 1, (.t 8)), (2, 1, (.c (.lit (.int .i64 10)))), (3, 1, (.c (.lit (.int .i64 2))))], .storeF 0 (.t 9) 4])
 .ret))
def r37 : List MRes := [.cell 0 (some 4)]
theorem tr37 : Try.f37.body.bind (trC Try.prog ann37 Try.f37.ntmps) = some m37 := by kernel_rfl
theorem rs37 : trRes Try.prog Try.f37.results.toList = some r37 := by kernel_rfl
theorem fn37 : isFunc Try.prog 37 = true := by kernel_rfl

/- duodecimo/duodecimolaw02.made -/
def ann38 : Ann := { muts := [], nilsz := [], oid := [], frz := [2], zero := [(2, [(.lit (.int .i64 0)), (.lit (.int .i64 0)), (.lit (.int .i64 0)), (.lit (.bool false))]), (4, [(.lit (.int .i64 0)), (.lit (.int .i64 0)), (.lit (.int .i64 0)), (.lit (.bool false))])], ord := [], ap := [], own := [], yl := [], fz := [], imm := [] }
def m38 : MCode := (.seq (.reg [.alloc 2 [(.lit (.int .i64 0)), (.lit (.int .i64 0)), (.lit (.int .i64 0)), (.lit (.bool false))]])
 (.seq (.reg [.cpy 3 (.t 0), .build 4 [(.lit (.int .i64 0)), (.lit (.int .i64 0)), (.lit (.int .i64 0)), (.lit (.bool false))] [(0, 1, (.t 3)), (2, 1, (.c (.lit (.int .i64 1))))], .storeF 2 (.t 4) 4])
 .ret))
def r38 : List MRes := [.cell 2 (some 4)]
theorem tr38 : Try.f38.body.bind (trC Try.prog ann38 Try.f38.ntmps) = some m38 := by kernel_rfl
theorem rs38 : trRes Try.prog Try.f38.results.toList = some r38 := by kernel_rfl
theorem fn38 : isFunc Try.prog 38 = true := by kernel_rfl

/- duodecimo/duodecimolaw02.four -/
def ann39 : Ann := { muts := [], nilsz := [], oid := [], frz := [6], zero := [(6, [(.lit (.int .i64 0)), (.lit (.int .i64 0)), (.lit (.int .i64 0)), (.lit (.int .i64 0)), (.lit (.int .i64 0)), (.lit (.int .i64 0)), (.slice 2 [] 7006)]), (10, [(.lit (.int .i64 0)), (.lit (.int .i64 0)), (.lit (.int .i64 0)), (.lit (.int .i64 0)), (.lit (.int .i64 0)), (.lit (.int .i64 0)), (.slice 2 [] 0)])], ord := [], ap := [], own := [], yl := [], fz := [], imm := [] }
def m39 : MCode := (.seq (.reg [.boxI 4 (.t 1) 2, .boxI 5 (.t 2) 2, .alloc 6 [(.lit (.int .i64 0)), (.lit (.int .i64 0)), (.lit (.int .i64 0)), (.lit (.int .i64 0)), (.lit (.int .i64 0)), (.lit (.int .i64 0)), (.slice 2 [] 7006)]])
 (.seq (.reg [.cpy 7 (.t 0), .load 8 (.t 4) (some 2), .load 9 (.t 5) (some 2), .build 10 [(.lit (.int .i64 0)), (.lit (.int .i64 0)), (.lit (.int .i64 0)), (.lit (.int .i64 0)), (.lit (.int .i64 0)), (.lit (.int .i64 0)), (.slice 2 [] 0)] [(0, 1, (.c (.lit (.int .i64 4)))), (1, 1, (.t 7)), (2, 2, (.t 8)), (4, 2, (.t 9))], .storeF 6 (.t 10) 7])
 .ret))
def r39 : List MRes := [.cell 6 (some 7)]
theorem tr39 : Try.f39.body.bind (trC Try.prog ann39 Try.f39.ntmps) = some m39 := by kernel_rfl
theorem rs39 : trRes Try.prog Try.f39.results.toList = some r39 := by kernel_rfl
theorem fn39 : isFunc Try.prog 39 = true := by kernel_rfl

/- duodecimo/duodecimolaw02.span -/
def ann40 : Ann := { muts := [], nilsz := [], oid := [], frz := [4], zero := [(4, [(.lit (.int .i64 0)), (.lit (.int .i64 0))]), (7, [(.lit (.int .i64 0)), (.lit (.int .i64 0))])], ord := [], ap := [], own := [], yl := [], fz := [], imm := [] }
def m40 : MCode := (.seq (.reg [.alloc 4 [(.lit (.int .i64 0)), (.lit (.int .i64 0))]])
 (.seq (.reg [.cpy 5 (.t 0), .cpy 6 (.t 1), .build 7 [(.lit (.int .i64 0)), (.lit (.int .i64 0))] [(0, 1, (.t 5)), (1, 1, (.t 6))], .storeF 4 (.t 7) 2])
 .ret))
def r40 : List MRes := [.cell 4 (some 2)]
theorem tr40 : Try.f40.body.bind (trC Try.prog ann40 Try.f40.ntmps) = some m40 := by kernel_rfl
theorem rs40 : trRes Try.prog Try.f40.results.toList = some r40 := by kernel_rfl
theorem fn40 : isFunc Try.prog 40 = true := by kernel_rfl

/- duodecimo/duodecimolaw02.free -/
def ann41 : Ann := { muts := [], nilsz := [], oid := [], frz := [0], zero := [(0, [(.lit (.int .i64 0)), (.lit (.int .i64 0))])], ord := [], ap := [], own := [], yl := [], fz := [], imm := [] }
def m41 : MCode := (.seq (.reg [.alloc 0 [(.lit (.int .i64 0)), (.lit (.int .i64 0))]])
 (.seq (.reg [.call 1 40 [(.c (.lit (.int .i64 0))), (.c (.lit (.int .i64 2000)))], .storeF 0 (.t 1) 2])
 .ret))
def r41 : List MRes := [.cell 0 (some 2)]
theorem tr41 : Try.f41.body.bind (trC Try.prog ann41 Try.f41.ntmps) = some m41 := by kernel_rfl
theorem rs41 : trRes Try.prog Try.f41.results.toList = some r41 := by kernel_rfl
theorem fn41 : isFunc Try.prog 41 = true := by kernel_rfl

/- duodecimo/fold.outside -/
def ann51 : Ann := { muts := [], nilsz := [], oid := [], frz := [], zero := [], ord := [], ap := [], own := [], yl := [], fz := [], imm := [] }
def m51 : MCode := (.seq (.reg [.boxI 3 (.t 0) 1, .boxI 4 (.t 1) 1, .asg 6 (.c (.lit (.bool false)))])
 (.seq (.reg [.cpy 7 (.t 2), .mkfn 8 (.func 90) [] [(.t 3), (.t 4)], .call 9 89 [(.t 7), (.t 8)], .asg 6 (.t 9)])
 .ret))
def r51 : List MRes := [.tmp 6]
theorem tr51 : Try.f51.body.bind (trC Try.prog ann51 Try.f51.ntmps) = some m51 := by kernel_rfl
theorem rs51 : trRes Try.prog Try.f51.results.toList = some r51 := by kernel_rfl
theorem fn51 : isFunc Try.prog 51 = true := by kernel_rfl

/- duodecimo/fold.first[duodecimo/api.FoFormat] -/
def ann52 : Ann := { muts := [], nilsz := [], oid := [], frz := [7], zero := [(7, [(.lit (.string ⟨#[]⟩)), (.lit (.string ⟨#[]⟩))])], ord := [], ap := [], own := [], yl := [], fz := [], imm := [] }
def m52 : MCode := (.seq (.reg [.asg 4 (.c (.lit (.int .i64 0))), .asg 5 (.c (.lit (.int .i64 0)))])
 (.seq (.seq (.reg [.cpy 9 (.t 0), .len 10 (.t 9), .cpy 11 (.c (.lit (.int .i64 0)))])
 (.block 0 (.loop (.seq (.reg [.bin 12 .lss (.t 11) (.t 10)])
 (.seq (.cond (.t 12) .skip (.exit 0))
 (.seq (.block 1 (.seq (.reg [.cpy 13 (.t 11), .idxS 14 (.t 9) (.t 11) 2, .load 15 (.t 14) (some 2), .alloc 7 [(.lit (.string ⟨#[]⟩)), (.lit (.string ⟨#[]⟩))], .asg 6 (.t 13), .storeF 7 (.t 15) 2])
 (.seq (.reg [.cpy 16 (.t 1), .cpy 17 (.t 6), .load 18 (.t 7) (some 2), .callv 19 (.t 16) [(.t 17), (.t 18)], .asg 8 (.t 19)])
 (.seq (.reg [.cpy 20 (.t 8), .bin 21 .neq (.t 20) (.c (.lit (.int .i64 0)))])
 (.cond (.t 21) (.seq (.reg [.cpy 22 (.t 6), .cpy 23 (.t 8), .asg 4 (.t 22), .asg 5 (.t 23)])
 .ret) .skip)))))
 (.reg [.bin 24 .add (.t 11) (.c (.lit (.int .i64 1))), .cpy 11 (.t 24)])))))))
 (.seq (.reg [.asg 4 (.c (.lit (.int .i64 0))), .asg 5 (.c (.lit (.int .i64 0)))])
 .ret)))
def r52 : List MRes := [.tmp 4, .tmp 5]
theorem tr52 : Try.f52.body.bind (trC Try.prog ann52 Try.f52.ntmps) = some m52 := by kernel_rfl
theorem rs52 : trRes Try.prog Try.f52.results.toList = some r52 := by kernel_rfl
theorem fn52 : isFunc Try.prog 52 = true := by kernel_rfl

/- duodecimo/fold.Check$1 -/
def ann53 : Ann := { muts := [], nilsz := [], oid := [], frz := [], zero := [(21, [(.lit (.int .i64 0))])], ord := [], ap := [], own := [], yl := [], fz := [], imm := [] }
def m53 : MCode := (.seq (.reg [.boxI 3 (.t 0) 1, .boxI 4 (.t 1) 2, .asg 5 (.c (.lit (.int .i64 0)))])
 (.seq (.reg [.addr 9 (.t 4) 0, .load 10 (.t 9) none, .mkfn 11 (.func 55) [] [(.t 2), (.t 3)], .call 12 54 [(.t 10), (.t 11)], .asg 6 (.t 12)])
 (.seq (.block 0 (.seq (.reg [.cpy 14 (.t 6), .bin 15 .neq (.t 14) (.c (.lit (.int .i64 0))), .asg 13 (.t 15)])
 (.cond (.t 13) (.seq (.reg [.cpy 16 (.t 6), .asg 5 (.t 16)])
 .ret) (.seq (.reg [.addr 18 (.t 4) 1, .load 19 (.t 18) none, .lenStr 20 (.t 19), .mkS 21 1 1 [(.lit (.int .i64 0))] [(0, (.t 20))], .call 22 51 [(.c (.lit (.int .i64 1))), (.c (.lit (.int .i64 4))), (.t 21)], .asg 17 (.t 22)])
 (.cond (.t 17) (.seq (.reg [.asg 5 (.c (.lit (.int .i64 3)))])
 .ret) .skip)))))
 (.seq (.seq (.reg [.addr 23 (.t 4) 1, .load 24 (.t 23) none, .rngS 25 (.t 24)])
 (.block 1 (.loop (.seq (.reg [.nxtS 26 (.t 25), .ext 27 (.t 26) 0])
 (.seq (.cond (.t 27) .skip (.exit 1))
 (.block 2 (.seq (.reg [.ext 28 (.t 26) 2, .asg 8 (.t 28)])
 (.seq (.reg [.cpy 29 (.t 8), .bin 30 .neq (.t 29) (.c (.lit (.int .i32 120))), .cpy 31 (.t 30), .guard 31 true (some 32) (.cpy 32 (.t 8)), .guard 31 true (some 33) (.bin 33 .neq (.t 32) (.c (.lit (.int .i32 121)))), .pick 34 (.t 31) (.t 33) (.c (.lit (.bool false)))])
 (.cond (.t 34) (.seq (.reg [.asg 5 (.c (.lit (.int .i64 6)))])
 .ret) .skip)))))))))
 (.seq (.reg [.asg 5 (.c (.lit (.int .i64 0)))])
 .ret)))))
def r53 : List MRes := [.tmp 5]
theorem tr53 : Try.f53.body.bind (trC Try.prog ann53 Try.f53.ntmps) = some m53 := by kernel_rfl
theorem rs53 : trRes Try.prog Try.f53.results.toList = some r53 := by kernel_rfl
theorem fn53 : isFunc Try.prog 53 = true := by kernel_rfl

/- duodecimo/fold.named -/
def ann54 : Ann := { muts := [], nilsz := [], oid := [], frz := [], zero := [(4, [(.lit (.int .i64 0))])], ord := [], ap := [], own := [], yl := [], fz := [], imm := [] }
def m54 : MCode := (.seq (.reg [.boxI 2 (.t 0) 1, .alloc 4 [(.lit (.int .i64 0))]])
 (.seq (.seq (.reg [.load 6 (.t 2) none, .call 7 91 [(.t 6)], .not 8 (.t 7)])
 (.cond (.t 8) (.seq (.reg [.store (.t 4) (.c (.lit (.int .i64 6))) 1 0])
 .ret) .skip))
 (.seq (.seq (.reg [.cpy 9 (.t 1)])
 (.block 0 (.rangeF (.t 9) [10] (.reg [.asg 5 (.t 10)])
 (.block 1 (.seq (.reg [.cpy 11 (.t 5), .load 12 (.t 2) none, .bin 13 .eql (.t 11) (.t 12)])
 (.cond (.t 13) (.seq (.reg [.store (.t 4) (.c (.lit (.int .i64 5))) 1 0])
 .ret) .skip))))))
 (.seq (.reg [.store (.t 4) (.c (.lit (.int .i64 0))) 1 0])
 .ret))))
def r54 : List MRes := [.cell 4 none]
theorem tr54 : Try.f54.body.bind (trC Try.prog ann54 Try.f54.ntmps) = some m54 := by kernel_rfl
theorem rs54 : trRes Try.prog Try.f54.results.toList = some r54 := by kernel_rfl
theorem fn54 : isFunc Try.prog 54 = true := by kernel_rfl

/- duodecimo/fold.Check$1$1 -/
def ann55 : Ann := { muts := [], nilsz := [], oid := [], frz := [5], zero := [(5, [(.lit (.string ⟨#[]⟩)), (.lit (.string ⟨#[]⟩))])], ord := [], ap := [], own := [], yl := [18], fz := [], imm := [] }
def m55 : MCode := (.seq (.reg [.addr 6 (.t 1) 0, .load 7 (.t 6) none, .load 8 (.t 2) none, .slcHi 9 (.t 7) (.t 8) 2, .len 10 (.t 9), .cpy 11 (.c (.lit (.int .i64 0)))])
 (.block 0 (.loop (.seq (.reg [.bin 12 .lss (.t 11) (.t 10)])
 (.seq (.cond (.t 12) .skip (.exit 0))
 (.seq (.block 1 (.seq (.reg [.idxS 13 (.t 9) (.t 11) 2, .load 14 (.t 13) (some 2), .alloc 5 [(.lit (.string ⟨#[]⟩)), (.lit (.string ⟨#[]⟩))], .storeF 5 (.t 14) 2])
 (.seq (.reg [.cpy 15 (.t 0), .addr 16 (.t 5) 0, .load 17 (.t 16) none, .yld 18 (.t 15) [(.t 17)], .not 19 (.t 18)])
 (.cond (.t 19) .ret .skip))))
 (.reg [.bin 20 .add (.t 11) (.c (.lit (.int .i64 1))), .cpy 11 (.t 20)])))))))
def r55 : List MRes := []
theorem tr55 : Try.f55.body.bind (trC Try.prog ann55 Try.f55.ntmps) = some m55 := by kernel_rfl
theorem rs55 : trRes Try.prog Try.f55.results.toList = some r55 := by kernel_rfl
theorem fn55 : isFunc Try.prog 55 = true := by kernel_rfl

/- duodecimo/fold.first[duodecimo/api.FoPaper] -/
def ann56 : Ann := { muts := [], nilsz := [], oid := [], frz := [7], zero := [(7, [(.lit (.string ⟨#[]⟩)), (.lit (.int .i64 0)), (.lit (.int .i64 0)), (.lit (.int .i64 0)), (.lit (.int .i64 0))])], ord := [], ap := [], own := [], yl := [], fz := [], imm := [] }
def m56 : MCode := (.seq (.reg [.asg 4 (.c (.lit (.int .i64 0))), .asg 5 (.c (.lit (.int .i64 0)))])
 (.seq (.seq (.reg [.cpy 9 (.t 0), .len 10 (.t 9), .cpy 11 (.c (.lit (.int .i64 0)))])
 (.block 0 (.loop (.seq (.reg [.bin 12 .lss (.t 11) (.t 10)])
 (.seq (.cond (.t 12) .skip (.exit 0))
 (.seq (.block 1 (.seq (.reg [.cpy 13 (.t 11), .idxS 14 (.t 9) (.t 11) 5, .load 15 (.t 14) (some 5), .alloc 7 [(.lit (.string ⟨#[]⟩)), (.lit (.int .i64 0)), (.lit (.int .i64 0)), (.lit (.int .i64 0)), (.lit (.int .i64 0))], .asg 6 (.t 13), .storeF 7 (.t 15) 5])
 (.seq (.reg [.cpy 16 (.t 1), .cpy 17 (.t 6), .load 18 (.t 7) (some 5), .callv 19 (.t 16) [(.t 17), (.t 18)], .asg 8 (.t 19)])
 (.seq (.reg [.cpy 20 (.t 8), .bin 21 .neq (.t 20) (.c (.lit (.int .i64 0)))])
 (.cond (.t 21) (.seq (.reg [.cpy 22 (.t 6), .cpy 23 (.t 8), .asg 4 (.t 22), .asg 5 (.t 23)])
 .ret) .skip)))))
 (.reg [.bin 24 .add (.t 11) (.c (.lit (.int .i64 1))), .cpy 11 (.t 24)])))))))
 (.seq (.reg [.asg 4 (.c (.lit (.int .i64 0))), .asg 5 (.c (.lit (.int .i64 0)))])
 .ret)))
def r56 : List MRes := [.tmp 4, .tmp 5]
theorem tr56 : Try.f56.body.bind (trC Try.prog ann56 Try.f56.ntmps) = some m56 := by kernel_rfl
theorem rs56 : trRes Try.prog Try.f56.results.toList = some r56 := by kernel_rfl
theorem fn56 : isFunc Try.prog 56 = true := by kernel_rfl

/- duodecimo/fold.Check$2 -/
def ann57 : Ann := { muts := [], nilsz := [], oid := [], frz := [], zero := [], ord := [], ap := [], own := [], yl := [], fz := [], imm := [] }
def m57 : MCode := (.seq (.reg [.boxI 3 (.t 0) 1, .boxI 4 (.t 1) 5, .asg 5 (.c (.lit (.int .i64 0)))])
 (.seq (.reg [.addr 7 (.t 4) 0, .load 8 (.t 7) none, .mkfn 9 (.func 58) [] [(.t 2), (.t 3)], .call 10 54 [(.t 8), (.t 9)], .asg 6 (.t 10)])
 (.seq (.seq (.reg [.cpy 11 (.t 6), .bin 12 .neq (.t 11) (.c (.lit (.int .i64 0)))])
 (.cond (.t 12) (.seq (.reg [.cpy 13 (.t 6), .asg 5 (.t 13)])
 .ret) .skip))
 (.seq (.reg [.addr 14 (.t 4) 1, .load 15 (.t 14) (some 2), .addr 16 (.t 4) 3, .load 17 (.t 16) (some 2), .call 18 59 [(.c (.lit (.int .i64 1))), (.c (.lit (.int .i64 2000))), (.t 15), (.t 17)], .asg 5 (.t 18)])
 .ret))))
def r57 : List MRes := [.tmp 5]
theorem tr57 : Try.f57.body.bind (trC Try.prog ann57 Try.f57.ntmps) = some m57 := by kernel_rfl
theorem rs57 : trRes Try.prog Try.f57.results.toList = some r57 := by kernel_rfl
theorem fn57 : isFunc Try.prog 57 = true := by kernel_rfl

/- duodecimo/fold.Check$2$1 -/
def ann58 : Ann := { muts := [], nilsz := [], oid := [], frz := [5], zero := [(5, [(.lit (.string ⟨#[]⟩)), (.lit (.int .i64 0)), (.lit (.int .i64 0)), (.lit (.int .i64 0)), (.lit (.int .i64 0))])], ord := [], ap := [], own := [], yl := [18], fz := [], imm := [] }
def m58 : MCode := (.seq (.reg [.addr 6 (.t 1) 1, .load 7 (.t 6) none, .load 8 (.t 2) none, .slcHi 9 (.t 7) (.t 8) 5, .len 10 (.t 9), .cpy 11 (.c (.lit (.int .i64 0)))])
 (.block 0 (.loop (.seq (.reg [.bin 12 .lss (.t 11) (.t 10)])
 (.seq (.cond (.t 12) .skip (.exit 0))
 (.seq (.block 1 (.seq (.reg [.idxS 13 (.t 9) (.t 11) 5, .load 14 (.t 13) (some 5), .alloc 5 [(.lit (.string ⟨#[]⟩)), (.lit (.int .i64 0)), (.lit (.int .i64 0)), (.lit (.int .i64 0)), (.lit (.int .i64 0))], .storeF 5 (.t 14) 5])
 (.seq (.reg [.cpy 15 (.t 0), .addr 16 (.t 5) 0, .load 17 (.t 16) none, .yld 18 (.t 15) [(.t 17)], .not 19 (.t 18)])
 (.cond (.t 19) .ret .skip))))
 (.reg [.bin 20 .add (.t 11) (.c (.lit (.int .i64 1))), .cpy 11 (.t 20)])))))))
def r58 : List MRes := []
theorem tr58 : Try.f58.body.bind (trC Try.prog ann58 Try.f58.ntmps) = some m58 := by kernel_rfl
theorem rs58 : trRes Try.prog Try.f58.results.toList = some r58 := by kernel_rfl
theorem fn58 : isFunc Try.prog 58 = true := by kernel_rfl

/- duodecimo/fold.spans -/
def ann59 : Ann := { muts := [], nilsz := [], oid := [], frz := [], zero := [(20, [(.lit (.int .i64 0))])], ord := [], ap := [], own := [], yl := [], fz := [], imm := [] }
def m59 : MCode := (.seq (.reg [.boxI 6 (.t 2) 2, .boxI 7 (.t 3) 2, .asg 8 (.c (.lit (.int .i64 0)))])
 (.seq (.block 0 (.seq (.reg [.cpy 10 (.t 0), .cpy 11 (.t 1), .addr 12 (.t 6) 0, .load 13 (.t 12) none, .addr 14 (.t 6) 1, .load 15 (.t 14) none, .addr 16 (.t 7) 0, .load 17 (.t 16) none, .addr 18 (.t 7) 1, .load 19 (.t 18) none, .mkS 20 4 1 [(.lit (.int .i64 0))] [(0, (.t 13)), (1, (.t 15)), (2, (.t 17)), (3, (.t 19))], .call 21 51 [(.t 10), (.t 11), (.t 20)], .asg 9 (.t 21)])
 (.cond (.t 9) (.seq (.reg [.asg 8 (.c (.lit (.int .i64 7)))])
 .ret) (.seq (.reg [.addr 23 (.t 6) 0, .load 24 (.t 23) none, .addr 25 (.t 6) 1, .load 26 (.t 25) none, .bin 27 .gtr (.t 24) (.t 26), .cpy 28 (.t 27), .guard 28 false (some 29) (.addr 29 (.t 7) 0), .guard 28 false (some 30) (.load 30 (.t 29) none), .guard 28 false (some 31) (.addr 31 (.t 7) 1), .guard 28 false (some 32) (.load 32 (.t 31) none), .guard 28 false (some 33) (.bin 33 .gtr (.t 30) (.t 32)), .pick 34 (.t 28) (.c (.lit (.bool true))) (.t 33), .asg 22 (.t 34)])
 (.cond (.t 22) (.seq (.reg [.asg 8 (.c (.lit (.int .i64 2)))])
 .ret) .skip)))))
 (.seq (.reg [.asg 8 (.c (.lit (.int .i64 0)))])
 .ret)))
def r59 : List MRes := [.tmp 8]
theorem tr59 : Try.f59.body.bind (trC Try.prog ann59 Try.f59.ntmps) = some m59 := by kernel_rfl
theorem rs59 : trRes Try.prog Try.f59.results.toList = some r59 := by kernel_rfl
theorem fn59 : isFunc Try.prog 59 = true := by kernel_rfl

/- duodecimo/fold.first[duodecimo/api.FoMark] -/
def ann64 : Ann := { muts := [], nilsz := [], oid := [], frz := [7], zero := [(7, [(.lit (.int .i64 0)), (.lit (.bool false))])], ord := [], ap := [], own := [], yl := [], fz := [], imm := [] }
def m64 : MCode := (.seq (.reg [.asg 4 (.c (.lit (.int .i64 0))), .asg 5 (.c (.lit (.int .i64 0)))])
 (.seq (.seq (.reg [.cpy 9 (.t 0), .len 10 (.t 9), .cpy 11 (.c (.lit (.int .i64 0)))])
 (.block 0 (.loop (.seq (.reg [.bin 12 .lss (.t 11) (.t 10)])
 (.seq (.cond (.t 12) .skip (.exit 0))
 (.seq (.block 1 (.seq (.reg [.cpy 13 (.t 11), .idxS 14 (.t 9) (.t 11) 2, .load 15 (.t 14) (some 2), .alloc 7 [(.lit (.int .i64 0)), (.lit (.bool false))], .asg 6 (.t 13), .storeF 7 (.t 15) 2])
 (.seq (.reg [.cpy 16 (.t 1), .cpy 17 (.t 6), .load 18 (.t 7) (some 2), .callv 19 (.t 16) [(.t 17), (.t 18)], .asg 8 (.t 19)])
 (.seq (.reg [.cpy 20 (.t 8), .bin 21 .neq (.t 20) (.c (.lit (.int .i64 0)))])
 (.cond (.t 21) (.seq (.reg [.cpy 22 (.t 6), .cpy 23 (.t 8), .asg 4 (.t 22), .asg 5 (.t 23)])
 .ret) .skip)))))
 (.reg [.bin 24 .add (.t 11) (.c (.lit (.int .i64 1))), .cpy 11 (.t 24)])))))))
 (.seq (.reg [.asg 4 (.c (.lit (.int .i64 0))), .asg 5 (.c (.lit (.int .i64 0)))])
 .ret)))
def r64 : List MRes := [.tmp 4, .tmp 5]
theorem tr64 : Try.f64.body.bind (trC Try.prog ann64 Try.f64.ntmps) = some m64 := by kernel_rfl
theorem rs64 : trRes Try.prog Try.f64.results.toList = some r64 := by kernel_rfl
theorem fn64 : isFunc Try.prog 64 = true := by kernel_rfl

/- duodecimo/fold.CheckBook$1 -/
def ann65 : Ann := { muts := [], nilsz := [], oid := [], frz := [], zero := [(11, [(.lit (.int .i64 0))])], ord := [], ap := [], own := [], yl := [], fz := [], imm := [] }
def m65 : MCode := (.seq (.reg [.boxI 4 (.t 1) 2, .asg 5 (.c (.lit (.int .i64 0)))])
 (.seq (.seq (.reg [.addr 6 (.t 2) 0, .load 7 (.t 6) none, .bin 8 .sub (.t 7) (.c (.lit (.int .i64 1))), .addr 9 (.t 4) 0, .load 10 (.t 9) none, .mkS 11 1 1 [(.lit (.int .i64 0))] [(0, (.t 10))], .call 12 51 [(.c (.lit (.int .i64 0))), (.t 8), (.t 11)]])
 (.cond (.t 12) (.seq (.reg [.asg 5 (.c (.lit (.int .i64 4)))])
 .ret) .skip))
 (.seq (.reg [.asg 5 (.c (.lit (.int .i64 0)))])
 .ret)))
def r65 : List MRes := [.tmp 5]
theorem tr65 : Try.f65.body.bind (trC Try.prog ann65 Try.f65.ntmps) = some m65 := by kernel_rfl
theorem rs65 : trRes Try.prog Try.f65.results.toList = some r65 := by kernel_rfl
theorem fn65 : isFunc Try.prog 65 = true := by kernel_rfl

/- duodecimo/fold.enter -/
def ann66 : Ann := { muts := [], nilsz := [], oid := [], frz := [9], zero := [(4, [(.slice 2 [] 5000), (.slice 5 [] 5001), (.lit (.int .i64 0)), (.lit (.int .i64 0))]), (9, [(.slice 2 [] 10000), (.slice 5 [] 10001), (.lit (.int .i64 0)), (.lit (.int .i64 0))]), (18, [(.slice 2 [] 0), (.slice 5 [] 0), (.lit (.int .i64 0)), (.lit (.int .i64 0))]), (21, [(.slice 2 [] 0), (.slice 5 [] 0), (.lit (.int .i64 0)), (.lit (.int .i64 0))])], ord := [(5, [0, 1, 2, 3, 4, 5])], ap := [(4, [])], own := [5], yl := [], fz := [], imm := [] }
def m66 : MCode := (.seq (.reg [.boxI 2 (.t 0) 4, .boxI 3 (.t 1) 4, .alloc 4 [(.slice 2 [] 5000), (.slice 5 [] 5001), (.lit (.int .i64 0)), (.lit (.int .i64 0))], .asg 5 (.c (.lit (.int .i64 0)))])
 (.seq (.seq (.reg [.load 11 (.t 2) (some 4), .call 12 15 [(.t 11)], .cpy 10 (.t 12), .ext 13 (.t 10) 0, .ext 14 (.t 10) 1, .ext 15 (.t 10) 2, .asg 6 (.t 13), .asg 7 (.t 14), .asg 8 (.t 15)])
 (.seq (.reg [.cpy 16 (.t 8), .bin 17 .neq (.t 16) (.c (.lit (.int .i64 0)))])
 (.cond (.t 17) (.seq (.reg [.build 18 [(.slice 2 [] 0), (.slice 5 [] 0), (.lit (.int .i64 0)), (.lit (.int .i64 0))] [], .cpy 19 (.t 8), .store (.t 4) (.t 18) 4 0, .asg 5 (.t 19)])
 .ret) .skip)))
 (.seq (.reg [.load 20 (.t 2) (some 4), .build 21 [(.slice 2 [] 0), (.slice 5 [] 0), (.lit (.int .i64 0)), (.lit (.int .i64 0))] [(0, 4, (.t 20))], .alloc 9 [(.slice 2 [] 10000), (.slice 5 [] 10001), (.lit (.int .i64 0)), (.lit (.int .i64 0))], .storeF 9 (.t 21) 4])
 (.seq (.reg [.load 22 (.t 9) (some 4), .load 23 (.t 9) (some 4), .load 24 (.t 3) (some 4), .call 25 95 [(.t 23), (.t 24)], .apart [] (.t 4) (.store (.t 4) (.t 22) 4 0), .asg 5 (.t 25)])
 .ret))))
def r66 : List MRes := [.cell 4 (some 4), .tmp 5]
theorem tr66 : Try.f66.body.bind (trC Try.prog ann66 Try.f66.ntmps) = some m66 := by kernel_rfl
theorem rs66 : trRes Try.prog Try.f66.results.toList = some r66 := by kernel_rfl
theorem fn66 : isFunc Try.prog 66 = true := by kernel_rfl

/- (duodecimo/fold.press).leaves -/
def ann67 : Ann := { muts := [], nilsz := [(4, 5)], oid := [], frz := [], zero := [(10, [(.lit (.int .i64 0)), (.lit (.int .i64 0)), (.lit (.int .i64 0)), (.lit (.bool false)), (.lit (.bool false))]), (25, [(.lit (.int .i64 0)), (.lit (.int .i64 0)), (.lit (.int .i64 0)), (.lit (.bool false)), (.lit (.bool false))])], ord := [(1, [0, 1, 2, 3, 4, 5, 6])], ap := [], own := [5], yl := [], fz := [(16, [4])], imm := [] }
def m67 : MCode := (.seq (.reg [.boxI 2 (.t 0) 4, .boxI 3 (.t 1) 4, .asgNil 4 5])
 (.seq (.reg [.load 11 (.t 2) (some 4), .load 12 (.t 3) (some 4), .call 13 71 [(.t 11), (.t 12)], .addr 14 (.t 3) 3, .load 15 (.t 14) none, .call 16 96 [(.t 13), (.t 15)], .asg 5 (.t 16)])
 (.seq (.reg [.cpy 17 (.t 5), .len 18 (.t 17), .bin 19 .quo (.t 18) (.c (.lit (.int .i64 2))), .asg 6 (.t 19)])
 (.seq (.reg [.addr 20 (.t 3) 2, .load 21 (.t 20) none, .cpy 22 (.t 5), .len 23 (.t 22), .bin 24 .mul (.t 21) (.t 23), .mkM 25 (.t 24) (.t 24) 5 32 [(.lit (.int .i64 0)), (.lit (.int .i64 0)), (.lit (.int .i64 0)), (.lit (.bool false)), (.lit (.bool false))], .asg 7 (.t 25)])
 (.seq (.seq (.reg [.addr 26 (.t 3) 2, .load 27 (.t 26) none, .cpy 28 (.c (.lit (.int .i64 0)))])
 (.block 0 (.loop (.seq (.reg [.bin 29 .lss (.t 28) (.t 27)])
 (.seq (.cond (.t 29) .skip (.exit 0))
 (.seq (.block 1 (.seq (.reg [.cpy 30 (.t 28), .asg 8 (.t 30)])
 (.seq (.reg [.cpy 31 (.t 5), .len 32 (.t 31), .cpy 33 (.c (.lit (.int .i64 0)))])
 (.block 2 (.loop (.seq (.reg [.bin 34 .lss (.t 33) (.t 32)])
 (.seq (.cond (.t 34) .skip (.exit 2))
 (.seq (.block 3 (.seq (.reg [.cpy 35 (.t 33), .idxS 36 (.t 31) (.t 33) 5, .load 37 (.t 36) (some 5), .alloc 10 [(.lit (.int .i64 0)), (.lit (.int .i64 0)), (.lit (.int .i64 0)), (.lit (.bool false)), (.lit (.bool false))], .asg 9 (.t 35), .store (.t 10) (.t 37) 5 0])
 (.seq (.reg [.cpy 38 (.t 8), .addr 39 (.t 10) 0, .store (.t 39) (.t 38) 1 0])
 (.seq (.reg [.cpy 40 (.t 9), .cpy 41 (.t 6), .bin 42 .lss (.t 40) (.t 41)])
 (.cond (.t 42) (.reg [.cpy 43 (.t 7), .cpy 44 (.t 8), .cpy 45 (.t 6), .bin 46 .mul (.t 44) (.t 45), .cpy 47 (.t 9), .bin 48 .add (.t 46) (.t 47), .load 49 (.t 10) (some 5), .idxS 50 (.t 43) (.t 48) 5, .store (.t 50) (.t 49) 5 0]) (.reg [.cpy 51 (.t 7), .cpy 52 (.t 7), .len 53 (.t 52), .cpy 54 (.t 8), .bin 55 .add (.t 54) (.c (.lit (.int .i64 2))), .cpy 56 (.t 6), .bin 57 .mul (.t 55) (.t 56), .bin 58 .sub (.t 53) (.t 57), .cpy 59 (.t 9), .bin 60 .add (.t 58) (.t 59), .load 61 (.t 10) (some 5), .idxS 62 (.t 51) (.t 60) 5, .store (.t 62) (.t 61) 5 0]))))))
 (.reg [.bin 63 .add (.t 33) (.c (.lit (.int .i64 1))), .cpy 33 (.t 63)])))))))))
 (.reg [.bin 64 .add (.t 28) (.c (.lit (.int .i64 1))), .cpy 28 (.t 64)])))))))
 (.seq (.reg [.cpy 65 (.t 7), .asg 4 (.t 65), .frz 4])
 .ret))))))
def r67 : List MRes := [.tmp 4]
theorem tr67 : Try.f67.body.bind (trC Try.prog ann67 Try.f67.ntmps) = some m67 := by kernel_rfl
theorem rs67 : trRes Try.prog Try.f67.results.toList = some r67 := by kernel_rfl
theorem fn67 : isFunc Try.prog 67 = true := by kernel_rfl

/- duodecimo/fold.grid -/
def ann70 : Ann := { muts := [], nilsz := [], oid := [], frz := [], zero := [], ord := [], ap := [], own := [], yl := [], fz := [], imm := [] }
def m70 : MCode := (.seq (.reg [.asg 2 (.c (.lit (.int .i64 0))), .asg 3 (.c (.lit (.int .i64 0)))])
 (.seq (.reg [.asg 2 (.c (.lit (.int .i64 1))), .asg 3 (.c (.lit (.int .i64 1)))])
 (.seq (.seq (.reg [.cpy 6 (.t 0), .rngS 7 (.t 6)])
 (.block 0 (.loop (.seq (.reg [.nxtS 8 (.t 7), .ext 9 (.t 8) 0])
 (.seq (.cond (.t 9) .skip (.exit 0))
 (.block 1 (.seq (.reg [.ext 10 (.t 8) 2, .asg 5 (.t 10)])
 (.seq (.reg [.cpy 11 (.t 5), .bin 12 .eql (.t 11) (.c (.lit (.int .i32 120)))])
 (.cond (.t 12) (.reg [.cpy 13 (.t 2), .bin 14 .mul (.t 13) (.c (.lit (.int .i64 2))), .asg 2 (.t 14)]) (.reg [.cpy 15 (.t 3), .bin 16 .mul (.t 15) (.c (.lit (.int .i64 2))), .asg 3 (.t 16)]))))))))))
 (.seq (.reg [.cpy 17 (.t 2), .cpy 18 (.t 3), .asg 2 (.t 17), .asg 3 (.t 18)])
 .ret))))
def r70 : List MRes := [.tmp 2, .tmp 3]
theorem tr70 : Try.f70.body.bind (trC Try.prog ann70 Try.f70.ntmps) = some m70 := by kernel_rfl
theorem rs70 : trRes Try.prog Try.f70.results.toList = some r70 := by kernel_rfl
theorem fn70 : isFunc Try.prog 70 = true := by kernel_rfl

/- (duodecimo/fold.press).folds -/
def ann71 : Ann := { muts := [], nilsz := [], oid := [], frz := [], zero := [], ord := [], ap := [], own := [], yl := [], fz := [], imm := [] }
def m71 : MCode := (.seq (.reg [.boxI 2 (.t 0) 4, .boxI 3 (.t 1) 4, .asg 4 (.c (.lit (.string ⟨#[]⟩)))])
 (.seq (.reg [.addr 5 (.t 2) 0, .addr 6 (.t 5) 0, .load 7 (.t 6) none, .addr 8 (.t 3) 0, .load 9 (.t 8) none, .idxS 10 (.t 7) (.t 9) 2, .addr 11 (.t 10) 1, .load 12 (.t 11) none, .asg 4 (.t 12)])
 .ret))
def r71 : List MRes := [.tmp 4]
theorem tr71 : Try.f71.body.bind (trC Try.prog ann71 Try.f71.ntmps) = some m71 := by kernel_rfl
theorem rs71 : trRes Try.prog Try.f71.results.toList = some r71 := by kernel_rfl
theorem fn71 : isFunc Try.prog 71 = true := by kernel_rfl

/- (duodecimo/fold.press).mark -/
def ann74 : Ann := { muts := [], nilsz := [], oid := [], frz := [], zero := [(30, [(.lit (.int .i64 0))]), (42, [(.lit (.int .i64 0))])], ord := [], ap := [], own := [], yl := [], fz := [], imm := [] }
def m74 : MCode := (.seq (.reg [.boxI 4 (.t 0) 4, .boxI 5 (.t 1) 4, .boxI 6 (.t 2) 5, .asg 8 (.c (.lit (.bool false)))])
 (.seq (.reg [.load 12 (.t 4) (some 4), .load 13 (.t 5) (some 4), .call 14 71 [(.t 12), (.t 13)], .call 15 70 [(.t 14)], .cpy 11 (.t 15), .ext 16 (.t 11) 0, .ext 17 (.t 11) 1, .asg 9 (.t 16), .asg 10 (.t 17)])
 (.seq (.reg [.addr 18 (.t 6) 1, .load 19 (.t 18) none, .bin 20 .mul (.c (.lit (.int .i64 4))) (.t 19), .addr 21 (.t 6) 1, .load 22 (.t 21) none, .bin 23 .mul (.c (.lit (.int .i64 4))) (.t 22), .bin 24 .add (.t 23) (.c (.lit (.int .i64 4))), .cpy 25 (.t 9), .cpy 26 (.t 3), .bin 27 .mul (.c (.lit (.int .i64 2))) (.t 26), .bin 28 .add (.c (.lit (.int .i64 1))) (.t 27), .bin 29 .mul (.t 25) (.t 28), .mkS 30 1 1 [(.lit (.int .i64 0))] [(0, (.t 29))], .call 31 51 [(.t 20), (.t 24), (.t 30)], .not 32 (.t 31), .cpy 33 (.t 32), .guard 33 true (some 34) (.addr 34 (.t 6) 2), .guard 33 true (some 35) (.load 35 (.t 34) none), .guard 33 true (some 36) (.bin 36 .mul (.c (.lit (.int .i64 2))) (.t 35)), .guard 33 true (some 37) (.addr 37 (.t 6) 2), .guard 33 true (some 38) (.load 38 (.t 37) none), .guard 33 true (some 39) (.bin 39 .mul (.c (.lit (.int .i64 2))) (.t 38)), .guard 33 true (some 40) (.bin 40 .add (.t 39) (.c (.lit (.int .i64 2)))), .guard 33 true (some 41) (.cpy 41 (.t 10)), .guard 33 true (some 42) (.mkS 42 1 1 [(.lit (.int .i64 0))] [(0, (.t 41))]), .guard 33 true (some 43) (.call 43 51 [(.t 36), (.t 40), (.t 42)]), .guard 33 true (some 44) (.not 44 (.t 43)), .pick 45 (.t 33) (.t 44) (.c (.lit (.bool false))), .asg 8 (.t 45)])
 .ret)))
def r74 : List MRes := [.tmp 8]
theorem tr74 : Try.f74.body.bind (trC Try.prog ann74 Try.f74.ntmps) = some m74 := by kernel_rfl
theorem rs74 : trRes Try.prog Try.f74.results.toList = some r74 := by kernel_rfl
theorem fn74 : isFunc Try.prog 74 = true := by kernel_rfl

/- duodecimo/fold.look -/
def ann76 : Ann := { muts := [], nilsz := [], oid := [], frz := [4], zero := [(4, [(.slice 2 [] 5000), (.slice 5 [] 5001), (.lit (.int .i64 0)), (.lit (.int .i64 0))]), (17, [(.slice 2 [] 0), (.slice 5 [] 0), (.lit (.int .i64 0)), (.lit (.int .i64 0))])], ord := [], ap := [], own := [], yl := [], fz := [], imm := [] }
def m76 : MCode := (.seq (.reg [.boxI 2 (.t 0) 4, .boxI 3 (.t 1) 7, .alloc 4 [(.slice 2 [] 5000), (.slice 5 [] 5001), (.lit (.int .i64 0)), (.lit (.int .i64 0))], .asg 5 (.c (.lit (.int .i64 0)))])
 (.seq (.reg [.load 10 (.t 2) (some 4), .load 11 (.t 3) (some 7), .call 12 17 [(.t 10), (.t 11)], .cpy 9 (.t 12), .ext 13 (.t 9) 0, .ext 14 (.t 9) 1, .ext 15 (.t 9) 2, .asg 6 (.t 13), .asg 7 (.t 14), .asg 8 (.t 15)])
 (.seq (.reg [.load 16 (.t 2) (some 4), .build 17 [(.slice 2 [] 0), (.slice 5 [] 0), (.lit (.int .i64 0)), (.lit (.int .i64 0))] [(0, 4, (.t 16))], .cpy 18 (.t 8), .storeF 4 (.t 17) 4, .asg 5 (.t 18)])
 .ret)))
def r76 : List MRes := [.cell 4 (some 4), .tmp 5]
theorem tr76 : Try.f76.body.bind (trC Try.prog ann76 Try.f76.ntmps) = some m76 := by kernel_rfl
theorem rs76 : trRes Try.prog Try.f76.results.toList = some r76 := by kernel_rfl
theorem fn76 : isFunc Try.prog 76 = true := by kernel_rfl

/- (duodecimo/fold.press).makes -/
def ann77 : Ann := { muts := [], nilsz := [], oid := [], frz := [], zero := [], ord := [], ap := [], own := [], yl := [], fz := [], imm := [] }
def m77 : MCode := (.seq (.reg [.boxI 1 (.t 0) 4, .asg 2 (.c (.lit .nilFunc))])
 (.seq (.reg [.mkfn 3 (.func 98) [] [(.t 1)], .asg 2 (.t 3)])
 .ret))
def r77 : List MRes := [.tmp 2]
theorem tr77 : Try.f77.body.bind (trC Try.prog ann77 Try.f77.ntmps) = some m77 := by kernel_rfl
theorem rs77 : trRes Try.prog Try.f77.results.toList = some r77 := by kernel_rfl
theorem fn77 : isFunc Try.prog 77 = true := by kernel_rfl

/- (duodecimo/fold.press).off -/
def ann78 : Ann := { muts := [], nilsz := [], oid := [], frz := [7, 9, 15], zero := [(7, [(.slice 5 [] 8000)]), (9, [(.lit (.string ⟨#[]⟩)), (.lit (.int .i64 0)), (.lit (.int .i64 0)), (.lit (.int .i64 0)), (.lit (.int .i64 0))]), (12, [(.lit (.int .i64 0)), (.lit (.int .i64 0))]), (13, [(.lit (.int .i64 0)), (.lit (.int .i64 0))]), (15, [(.lit (.int .i64 0))]), (52, [(.lit (.int .i64 0)), (.lit (.int .i64 0))]), (63, [(.lit (.int .i64 0)), (.lit (.int .i64 0))])], ord := [(4, [0, 1, 2, 3, 4, 5, 6, 7, 8, 9, 10, 11, 12]), (6, [0, 1, 2, 3, 4, 5, 6, 7, 8, 9, 10, 11, 12]), (7, [0, 1, 2, 3, 4, 5, 6, 7, 8, 9, 10, 11, 12])], ap := [(12, []), (13, [])], own := [], yl := [], fz := [], imm := [] }
def m78 : MCode := (.seq (.reg [.boxI 3 (.t 0) 4, .boxI 4 (.t 1) 4, .boxI 5 (.t 2) 7, .asg 6 (.c (.lit (.int .i64 0)))])
 (.seq (.reg [.load 19 (.t 3) (some 4), .load 20 (.t 4) (some 4), .call 21 67 [(.t 19), (.t 20)], .alloc 7 [(.slice 5 [] 8000)], .storeF 7 (.t 21) 1])
 (.seq (.seq (.reg [.load 22 (.t 7) none, .len 23 (.t 22), .addr 24 (.t 5) 0, .load 25 (.t 24) none, .bin 26 .neq (.t 23) (.t 25)])
 (.cond (.t 26) (.seq (.reg [.asg 6 (.c (.lit (.int .i64 (-1))))])
 .ret) .skip))
 (.seq (.reg [.load 27 (.t 3) (some 4), .load 28 (.t 4) (some 4), .call 29 71 [(.t 27), (.t 28)], .addr 30 (.t 3) 0, .addr 31 (.t 30) 1, .load 32 (.t 31) none, .addr 33 (.t 4) 1, .load 34 (.t 33) none, .idxS 35 (.t 32) (.t 34) 5, .load 36 (.t 35) (some 5), .alloc 9 [(.lit (.string ⟨#[]⟩)), (.lit (.int .i64 0)), (.lit (.int .i64 0)), (.lit (.int .i64 0)), (.lit (.int .i64 0))], .cpyE 8 (.t 29), .storeF 9 (.t 36) 5])
 (.seq (.reg [.cpy 38 (.t 8), .call 39 70 [(.t 38)], .cpy 37 (.t 39), .ext 40 (.t 37) 0, .ext 41 (.t 37) 1, .asg 10 (.t 40), .asg 11 (.t 41)])
 (.seq (.reg [.addr 42 (.t 9) 1, .addr 43 (.t 42) 0, .load 44 (.t 43) none, .cpy 45 (.t 10), .bin 46 .quo (.t 44) (.t 45), .addr 47 (.t 9) 1, .addr 48 (.t 47) 1, .load 49 (.t 48) none, .cpy 50 (.t 10), .bin 51 .quo (.t 49) (.t 50), .build 52 [(.lit (.int .i64 0)), (.lit (.int .i64 0))] [(0, 1, (.t 46)), (1, 1, (.t 51))], .alloc 12 [(.lit (.int .i64 0)), (.lit (.int .i64 0))], .apart [] (.t 12) (.store (.t 12) (.t 52) 2 0)])
 (.seq (.reg [.addr 53 (.t 9) 3, .addr 54 (.t 53) 0, .load 55 (.t 54) none, .cpy 56 (.t 11), .bin 57 .quo (.t 55) (.t 56), .addr 58 (.t 9) 3, .addr 59 (.t 58) 1, .load 60 (.t 59) none, .cpy 61 (.t 11), .bin 62 .quo (.t 60) (.t 61), .build 63 [(.lit (.int .i64 0)), (.lit (.int .i64 0))] [(0, 1, (.t 57)), (1, 1, (.t 62))], .alloc 13 [(.lit (.int .i64 0)), (.lit (.int .i64 0))], .apart [] (.t 13) (.store (.t 13) (.t 63) 2 0)])
 (.seq (.reg [.asg 14 (.c (.lit (.int .i64 1)))])
 (.seq (.seq (.reg [.cpy 64 (.t 8), .call 65 99 [(.t 64)], .not 66 (.t 65)])
 (.cond (.t 66) (.reg [.load 67 (.t 13) (some 2), .load 68 (.t 12) (some 2), .store (.t 12) (.t 67) 2 0, .store (.t 13) (.t 68) 2 0, .asg 14 (.c (.lit (.int .i64 2)))]) .skip))
 (.seq (.seq (.reg [.addr 69 (.t 5) 1, .load 70 (.t 69) none, .bin 71 .neq (.t 70) (.c (.lit (.int .i64 0))), .cpy 72 (.t 71), .guard 72 true (some 73) (.addr 73 (.t 5) 1), .guard 72 true (some 74) (.load 74 (.t 73) none), .guard 72 true (some 75) (.cpy 75 (.t 14)), .guard 72 true (some 76) (.bin 76 .neq (.t 74) (.t 75)), .pick 77 (.t 72) (.t 76) (.c (.lit (.bool false)))])
 (.cond (.t 77) (.reg [.cpy 78 (.t 6), .bin 79 .or (.t 78) (.c (.lit (.int .i64 1))), .asg 6 (.t 79)]) .skip))
 (.seq (.seq (.reg [.addr 80 (.t 12) 0, .load 81 (.t 80) none, .addr 82 (.t 12) 1, .load 83 (.t 82) none, .addr 84 (.t 3) 0, .addr 85 (.t 84) 2, .load 86 (.t 85) none, .addr 87 (.t 5) 2, .load 88 (.t 87) (some 2), .call 89 100 [(.t 81), (.t 83), (.t 86), (.t 88)], .not 90 (.t 89)])
 (.cond (.t 90) (.reg [.cpy 91 (.t 6), .bin 92 .or (.t 91) (.c (.lit (.int .i64 2))), .asg 6 (.t 92)]) .skip))
 (.seq (.seq (.reg [.addr 93 (.t 13) 0, .load 94 (.t 93) none, .addr 95 (.t 13) 1, .load 96 (.t 95) none, .addr 97 (.t 3) 0, .addr 98 (.t 97) 2, .load 99 (.t 98) none, .bin 100 .mul (.c (.lit (.int .i64 2))) (.t 99), .addr 101 (.t 5) 4, .load 102 (.t 101) (some 2), .call 103 100 [(.t 94), (.t 96), (.t 100), (.t 102)], .not 104 (.t 103)])
 (.cond (.t 104) (.reg [.cpy 105 (.t 6), .bin 106 .or (.t 105) (.c (.lit (.int .i64 4))), .asg 6 (.t 106)]) .skip))
 (.seq (.seq (.reg [.addr 107 (.t 4) 2, .load 108 (.t 107) none, .cpy 109 (.c (.lit (.int .i64 0)))])
 (.block 0 (.loop (.seq (.reg [.bin 110 .lss (.t 109) (.t 108)])
 (.seq (.cond (.t 110) .skip (.exit 0))
 (.seq (.block 1 (.seq (.reg [.cpy 111 (.t 109), .alloc 15 [(.lit (.int .i64 0))], .storeF 15 (.t 111) 1])
 (.seq (.reg [.mkfn 112 (.func 101) [] [(.t 5), (.t 7), (.t 15), (.t 3), (.t 4)], .asg 16 (.t 112)])
 (.seq (.reg [.cpy 113 (.t 16), .callv 114 (.t 113) [(.c (.lit (.int .i64 0)))], .asg 17 (.t 114)])
 (.seq (.seq (.reg [.cpy 115 (.t 16), .callv 116 (.t 115) [(.c (.lit (.int .i64 1)))], .asg 18 (.t 116)])
 (.seq (.reg [.cpy 117 (.t 18), .cpy 118 (.t 17), .call 119 80 [(.t 117), (.t 118)]])
 (.cond (.t 119) (.reg [.cpy 120 (.t 18), .asg 17 (.t 120)]) .skip)))
 (.reg [.cpy 121 (.t 6), .cpy 122 (.t 17), .bin 123 .or (.t 121) (.t 122), .asg 6 (.t 123)]))))))
 (.reg [.bin 124 .add (.t 109) (.c (.lit (.int .i64 1))), .cpy 109 (.t 124)])))))))
 (.seq (.reg [.cpy 125 (.t 6), .asg 6 (.t 125)])
 .ret))))))))))))))
def r78 : List MRes := [.tmp 6]
theorem tr78 : Try.f78.body.bind (trC Try.prog ann78 Try.f78.ntmps) = some m78 := by kernel_rfl
theorem rs78 : trRes Try.prog Try.f78.results.toList = some r78 := by kernel_rfl
theorem fn78 : isFunc Try.prog 78 = true := by kernel_rfl

/- duodecimo/fold.fewer -/
def ann80 : Ann := { muts := [], nilsz := [], oid := [], frz := [], zero := [], ord := [], ap := [], own := [], yl := [], fz := [], imm := [] }
def m80 : MCode := (.seq (.reg [.asg 4 (.c (.lit (.bool false)))])
 (.seq (.seq (.reg [.cpy 6 (.t 0), .conv 7 .u64 (.t 6), .call 8 102 [(.t 7)], .cpy 9 (.t 1), .conv 10 .u64 (.t 9), .call 11 102 [(.t 10)], .bin 12 .sub (.t 8) (.t 11), .asg 5 (.t 12)])
 (.seq (.reg [.cpy 13 (.t 5), .bin 14 .neq (.t 13) (.c (.lit (.int .i64 0)))])
 (.cond (.t 14) (.seq (.reg [.cpy 15 (.t 5), .bin 16 .lss (.t 15) (.c (.lit (.int .i64 0))), .asg 4 (.t 16)])
 .ret) .skip)))
 (.seq (.reg [.cpy 17 (.t 0), .call 18 81 [(.t 17)], .cpy 19 (.t 1), .call 20 81 [(.t 19)], .call 21 103 [(.t 18), (.t 20)], .bin 22 .lss (.t 21) (.c (.lit (.int .i64 0))), .asg 4 (.t 22)])
 .ret)))
def r80 : List MRes := [.tmp 4]
theorem tr80 : Try.f80.body.bind (trC Try.prog ann80 Try.f80.ntmps) = some m80 := by kernel_rfl
theorem rs80 : trRes Try.prog Try.f80.results.toList = some r80 := by kernel_rfl
theorem fn80 : isFunc Try.prog 80 = true := by kernel_rfl

/- duodecimo/fold.list -/
def ann81 : Ann := { muts := [], nilsz := [(2, 1)], oid := [], frz := [], zero := [(17, [(.lit (.int .i64 0))])], ord := [], ap := [], own := [], yl := [], fz := [], imm := [] }
def m81 : MCode := (.seq (.reg [.asgNil 2 1])
 (.seq (.seq (.reg [.cpy 4 (.t 0), .conv 5 .u64 (.t 4), .call 6 104 [(.t 5)], .cpy 7 (.c (.lit (.int .i64 0)))])
 (.block 0 (.loop (.seq (.reg [.bin 8 .lss (.t 7) (.t 6)])
 (.seq (.cond (.t 8) .skip (.exit 0))
 (.seq (.block 1 (.seq (.reg [.cpy 9 (.t 7), .asg 3 (.t 9)])
 (.seq (.reg [.cpy 10 (.t 0), .cpy 11 (.t 3), .bin 12 .shr (.t 10) (.t 11), .bin 13 .and (.t 12) (.c (.lit (.int .i64 1))), .bin 14 .eql (.t 13) (.c (.lit (.int .i64 1)))])
 (.cond (.t 14) (.reg [.cpy 15 (.t 2), .cpy 16 (.t 3), .mkS 17 1 1 [(.lit (.int .i64 0))] [(0, (.t 16))], .app 18 (.t 15) (.t 17) 1 8, .asg 2 (.t 18)]) .skip))))
 (.reg [.bin 19 .add (.t 7) (.c (.lit (.int .i64 1))), .cpy 7 (.t 19)])))))))
 (.seq (.reg [.cpy 20 (.t 2), .asg 2 (.t 20)])
 .ret)))
def r81 : List MRes := [.tmp 2]
theorem tr81 : Try.f81.body.bind (trC Try.prog ann81 Try.f81.ntmps) = some m81 := by kernel_rfl
theorem rs81 : trRes Try.prog Try.f81.results.toList = some r81 := by kernel_rfl
theorem fn81 : isFunc Try.prog 81 = true := by kernel_rfl

/- slices.ContainsFunc[[]int,int] -/
def ann89 : Ann := { muts := [], nilsz := [], oid := [], frz := [], zero := [], ord := [], ap := [], own := [], yl := [], fz := [], imm := [] }
def m89 : MCode := (.seq (.reg [.asg 4 (.c (.lit (.bool false)))])
 (.seq (.reg [.cpy 5 (.t 0), .cpy 6 (.t 1), .call 7 107 [(.t 5), (.t 6)], .bin 8 .geq (.t 7) (.c (.lit (.int .i64 0))), .asg 4 (.t 8)])
 .ret))
def r89 : List MRes := [.tmp 4]
theorem tr89 : Try.f89.body.bind (trC Try.prog ann89 Try.f89.ntmps) = some m89 := by kernel_rfl
theorem rs89 : trRes Try.prog Try.f89.results.toList = some r89 := by kernel_rfl
theorem fn89 : isFunc Try.prog 89 = true := by kernel_rfl

/- duodecimo/fold.outside$1 -/
def ann90 : Ann := { muts := [], nilsz := [], oid := [], frz := [], zero := [], ord := [], ap := [], own := [], yl := [], fz := [], imm := [] }
def m90 : MCode := (.seq (.reg [.asg 4 (.c (.lit (.bool false)))])
 (.seq (.reg [.cpy 5 (.t 0), .load 6 (.t 1) none, .bin 7 .lss (.t 5) (.t 6), .cpy 8 (.t 7), .guard 8 false (some 9) (.cpy 9 (.t 0)), .guard 8 false (some 10) (.load 10 (.t 2) none), .guard 8 false (some 11) (.bin 11 .gtr (.t 9) (.t 10)), .pick 12 (.t 8) (.c (.lit (.bool true))) (.t 11), .asg 4 (.t 12)])
 .ret))
def r90 : List MRes := [.tmp 4]
theorem tr90 : Try.f90.body.bind (trC Try.prog ann90 Try.f90.ntmps) = some m90 := by kernel_rfl
theorem rs90 : trRes Try.prog Try.f90.results.toList = some r90 := by kernel_rfl
theorem fn90 : isFunc Try.prog 90 = true := by kernel_rfl

/- duodecimo/quire.Name -/
def ann91 : Ann := { muts := [], nilsz := [], oid := [], frz := [], zero := [], ord := [], ap := [], own := [], yl := [], fz := [], imm := [] }
def m91 : MCode := (.seq (.reg [.asg 2 (.c (.lit (.bool false)))])
 (.seq (.seq (.reg [.cpy 5 (.t 0), .rngS 6 (.t 5)])
 (.block 0 (.loop (.seq (.reg [.nxtS 7 (.t 6), .ext 8 (.t 7) 0])
 (.seq (.cond (.t 8) .skip (.exit 0))
 (.block 1 (.seq (.reg [.ext 9 (.t 7) 1, .ext 10 (.t 7) 2, .asg 3 (.t 9), .asg 4 (.t 10)])
 (.block 2 (.seq (.reg [.cpy 12 (.t 4), .bin 13 .geq (.t 12) (.c (.lit (.int .i32 97))), .cpy 14 (.t 13), .guard 14 true (some 15) (.cpy 15 (.t 4)), .guard 14 true (some 16) (.bin 16 .leq (.t 15) (.c (.lit (.int .i32 122)))), .pick 17 (.t 14) (.t 16) (.c (.lit (.bool false))), .asg 11 (.t 17)])
 (.cond (.t 11) .skip (.seq (.reg [.cpy 19 (.t 3), .bin 20 .gtr (.t 19) (.c (.lit (.int .i64 0))), .cpy 21 (.t 20), .guard 21 true (some 22) (.cpy 22 (.t 4)), .guard 21 true (some 23) (.bin 23 .geq (.t 22) (.c (.lit (.int .i32 48)))), .guard 21 true (some 24) (.cpy 24 (.t 23)), .guard 24 true (some 25) (.cpy 25 (.t 4)), .guard 24 true (some 26) (.bin 26 .leq (.t 25) (.c (.lit (.int .i32 57)))), .guard 21 true (some 27) (.pick 27 (.t 24) (.t 26) (.c (.lit (.bool false)))), .guard 21 true (some 28) (.cpy 28 (.t 27)), .guard 28 false (some 29) (.cpy 29 (.t 4)), .guard 28 false (some 30) (.bin 30 .eql (.t 29) (.c (.lit (.int .i32 46)))), .guard 21 true (some 31) (.pick 31 (.t 28) (.c (.lit (.bool true))) (.t 30)), .pick 32 (.t 21) (.t 31) (.c (.lit (.bool false))), .asg 18 (.t 32)])
 (.cond (.t 18) .skip (.seq (.reg [.asg 2 (.c (.lit (.bool false)))])
 .ret)))))))))))))
 (.seq (.reg [.cpy 33 (.t 0), .bin 34 .neq (.t 33) (.c (.lit (.string ⟨#[]⟩))), .cpy 35 (.t 34), .guard 35 true (some 36) (.cpy 36 (.t 0)), .guard 35 true (some 37) (.lenStr 37 (.t 36)), .guard 35 true (some 38) (.bin 38 .leq (.t 37) (.c (.lit (.int .i64 16)))), .pick 39 (.t 35) (.t 38) (.c (.lit (.bool false))), .asg 2 (.t 39)])
 .ret)))
def r91 : List MRes := [.tmp 2]
theorem tr91 : Try.f91.body.bind (trC Try.prog ann91 Try.f91.ntmps) = some m91 := by kernel_rfl
theorem rs91 : trRes Try.prog Try.f91.results.toList = some r91 := by kernel_rfl
theorem fn91 : isFunc Try.prog 91 = true := by kernel_rfl

/- (duodecimo/fold.press).check -/
def ann95 : Ann := { muts := [], nilsz := [], oid := [], frz := [], zero := [(13, [(.lit (.int .i64 0))]), (23, [(.lit (.int .i64 0))]), (32, [(.lit (.int .i64 0))])], ord := [], ap := [], own := [], yl := [], fz := [], imm := [] }
def m95 : MCode := (.seq (.reg [.boxI 2 (.t 0) 4, .boxI 3 (.t 1) 4, .asg 4 (.c (.lit (.int .i64 0)))])
 (.seq (.block 0 (.seq (.reg [.addr 6 (.t 2) 0, .addr 7 (.t 6) 0, .load 8 (.t 7) none, .len 9 (.t 8), .bin 10 .sub (.t 9) (.c (.lit (.int .i64 1))), .addr 11 (.t 3) 0, .load 12 (.t 11) none, .mkS 13 1 1 [(.lit (.int .i64 0))] [(0, (.t 12))], .call 14 51 [(.c (.lit (.int .i64 0))), (.t 10), (.t 13)], .cpy 15 (.t 14), .guard 15 false (some 16) (.addr 16 (.t 2) 0), .guard 15 false (some 17) (.addr 17 (.t 16) 1), .guard 15 false (some 18) (.load 18 (.t 17) none), .guard 15 false (some 19) (.len 19 (.t 18)), .guard 15 false (some 20) (.bin 20 .sub (.t 19) (.c (.lit (.int .i64 1)))), .guard 15 false (some 21) (.addr 21 (.t 3) 1), .guard 15 false (some 22) (.load 22 (.t 21) none), .guard 15 false (some 23) (.mkS 23 1 1 [(.lit (.int .i64 0))] [(0, (.t 22))]), .guard 15 false (some 24) (.call 24 51 [(.c (.lit (.int .i64 0))), (.t 20), (.t 23)]), .pick 25 (.t 15) (.c (.lit (.bool true))) (.t 24), .asg 5 (.t 25)])
 (.cond (.t 5) (.seq (.reg [.asg 4 (.c (.lit (.int .i64 4)))])
 .ret) (.seq (.reg [.addr 27 (.t 2) 0, .addr 28 (.t 27) 3, .load 29 (.t 28) none, .addr 30 (.t 3) 2, .load 31 (.t 30) none, .mkS 32 1 1 [(.lit (.int .i64 0))] [(0, (.t 31))], .call 33 51 [(.c (.lit (.int .i64 1))), (.t 29), (.t 32)], .asg 26 (.t 33)])
 (.cond (.t 26) (.seq (.reg [.asg 4 (.c (.lit (.int .i64 7)))])
 .ret) (.seq (.reg [.addr 35 (.t 3) 3, .load 36 (.t 35) none, .cpy 37 (.t 36), .guard 37 true (some 38) (.addr 38 (.t 3) 2), .guard 37 true (some 39) (.load 39 (.t 38) none), .guard 37 true (some 40) (.bin 40 .neq (.t 39) (.c (.lit (.int .i64 1)))), .guard 37 true (some 41) (.cpy 41 (.t 40)), .guard 41 false (some 42) (.load 42 (.t 2) (some 4)), .guard 41 false (some 43) (.load 43 (.t 3) (some 4)), .guard 41 false (some 44) (.call 44 71 [(.t 42), (.t 43)]), .guard 41 false (some 45) (.lenStr 45 (.t 44)), .guard 41 false (some 46) (.bin 46 .lss (.t 45) (.c (.lit (.int .i64 2)))), .guard 37 true (some 47) (.pick 47 (.t 41) (.c (.lit (.bool true))) (.t 46)), .pick 48 (.t 37) (.t 47) (.c (.lit (.bool false))), .asg 34 (.t 48)])
 (.cond (.t 34) (.seq (.reg [.asg 4 (.c (.lit (.int .i64 2)))])
 .ret) .skip)))))))
 (.seq (.reg [.asg 4 (.c (.lit (.int .i64 0)))])
 .ret)))
def r95 : List MRes := [.tmp 4]
theorem tr95 : Try.f95.body.bind (trC Try.prog ann95 Try.f95.ntmps) = some m95 := by kernel_rfl
theorem rs95 : trRes Try.prog Try.f95.results.toList = some r95 := by kernel_rfl
theorem fn95 : isFunc Try.prog 95 = true := by kernel_rfl

/- duodecimo/fold.folded -/
def ann96 : Ann := { muts := [], nilsz := [(4, 5)], oid := [], frz := [], zero := [(7, [(.slice 5 [] 8000), (.slice 5 [] 8001), (.slice 5 [] 8002), (.slice 5 [] 8003), (.slice 5 [] 8004), (.slice 5 [] 8005), (.slice 5 [] 8006), (.slice 5 [] 8007), (.slice 5 [] 8008), (.slice 5 [] 8009), (.slice 5 [] 8010), (.slice 5 [] 8011), (.slice 5 [] 8012), (.slice 5 [] 8013), (.slice 5 [] 8014), (.slice 5 [] 8015), (.slice 5 [] 8016), (.slice 5 [] 8017), (.slice 5 [] 8018), (.slice 5 [] 8019), (.slice 5 [] 8020), (.slice 5 [] 8021), (.slice 5 [] 8022), (.slice 5 [] 8023), (.slice 5 [] 8024), (.slice 5 [] 8025), (.slice 5 [] 8026), (.slice 5 [] 8027), (.slice 5 [] 8028), (.slice 5 [] 8029), (.slice 5 [] 8030), (.slice 5 [] 8031), (.slice 5 [] 8032), (.slice 5 [] 8033), (.slice 5 [] 8034), (.slice 5 [] 8035), (.slice 5 [] 8036), (.slice 5 [] 8037), (.slice 5 [] 8038), (.slice 5 [] 8039), (.slice 5 [] 8040), (.slice 5 [] 8041), (.slice 5 [] 8042), (.slice 5 [] 8043), (.slice 5 [] 8044), (.slice 5 [] 8045), (.slice 5 [] 8046), (.slice 5 [] 8047), (.slice 5 [] 8048), (.slice 5 [] 8049), (.slice 5 [] 8050), (.slice 5 [] 8051), (.slice 5 [] 8052), (.slice 5 [] 8053), (.slice 5 [] 8054), (.slice 5 [] 8055), (.slice 5 [] 8056), (.slice 5 [] 8057), (.slice 5 [] 8058), (.slice 5 [] 8059), (.slice 5 [] 8060), (.slice 5 [] 8061), (.slice 5 [] 8062), (.slice 5 [] 8063), (.slice 5 [] 8064), (.slice 5 [] 8065), (.slice 5 [] 8066), (.slice 5 [] 8067), (.slice 5 [] 8068), (.slice 5 [] 8069), (.slice 5 [] 8070), (.slice 5 [] 8071), (.slice 5 [] 8072), (.slice 5 [] 8073), (.slice 5 [] 8074), (.slice 5 [] 8075), (.slice 5 [] 8076), (.slice 5 [] 8077), (.slice 5 [] 8078), (.slice 5 [] 8079), (.slice 5 [] 8080), (.slice 5 [] 8081), (.slice 5 [] 8082), (.slice 5 [] 8083), (.slice 5 [] 8084), (.slice 5 [] 8085), (.slice 5 [] 8086), (.slice 5 [] 8087), (.slice 5 [] 8088), (.slice 5 [] 8089), (.slice 5 [] 8090), (.slice 5 [] 8091), (.slice 5 [] 8092), (.slice 5 [] 8093), (.slice 5 [] 8094), (.slice 5 [] 8095), (.slice 5 [] 8096), (.slice 5 [] 8097), (.slice 5 [] 8098), (.slice 5 [] 8099), (.slice 5 [] 8100), (.slice 5 [] 8101), (.slice 5 [] 8102), (.slice 5 [] 8103), (.slice 5 [] 8104), (.slice 5 [] 8105), (.slice 5 [] 8106), (.slice 5 [] 8107), (.slice 5 [] 8108), (.slice 5 [] 8109), (.slice 5 [] 8110), (.slice 5 [] 8111), (.slice 5 [] 8112), (.slice 5 [] 8113), (.slice 5 [] 8114), (.slice 5 [] 8115), (.slice 5 [] 8116), (.slice 5 [] 8117), (.slice 5 [] 8118), (.slice 5 [] 8119), (.slice 5 [] 8120), (.slice 5 [] 8121), (.slice 5 [] 8122), (.slice 5 [] 8123), (.slice 5 [] 8124), (.slice 5 [] 8125), (.slice 5 [] 8126), (.slice 5 [] 8127), (.slice 5 [] 8128), (.slice 5 [] 8129), (.slice 5 [] 8130), (.slice 5 [] 8131), (.slice 5 [] 8132), (.slice 5 [] 8133), (.slice 5 [] 8134), (.slice 5 [] 8135), (.slice 5 [] 8136), (.slice 5 [] 8137), (.slice 5 [] 8138), (.slice 5 [] 8139), (.slice 5 [] 8140), (.slice 5 [] 8141), (.slice 5 [] 8142), (.slice 5 [] 8143), (.slice 5 [] 8144), (.slice 5 [] 8145), (.slice 5 [] 8146), (.slice 5 [] 8147), (.slice 5 [] 8148), (.slice 5 [] 8149), (.slice 5 [] 8150), (.slice 5 [] 8151), (.slice 5 [] 8152), (.slice 5 [] 8153), (.slice 5 [] 8154), (.slice 5 [] 8155), (.slice 5 [] 8156), (.slice 5 [] 8157), (.slice 5 [] 8158), (.slice 5 [] 8159), (.slice 5 [] 8160), (.slice 5 [] 8161), (.slice 5 [] 8162), (.slice 5 [] 8163), (.slice 5 [] 8164), (.slice 5 [] 8165), (.slice 5 [] 8166), (.slice 5 [] 8167), (.slice 5 [] 8168), (.slice 5 [] 8169), (.slice 5 [] 8170), (.slice 5 [] 8171), (.slice 5 [] 8172), (.slice 5 [] 8173), (.slice 5 [] 8174), (.slice 5 [] 8175), (.slice 5 [] 8176), (.slice 5 [] 8177), (.slice 5 [] 8178), (.slice 5 [] 8179), (.slice 5 [] 8180), (.slice 5 [] 8181), (.slice 5 [] 8182), (.slice 5 [] 8183), (.slice 5 [] 8184), (.slice 5 [] 8185), (.slice 5 [] 8186), (.slice 5 [] 8187), (.slice 5 [] 8188), (.slice 5 [] 8189), (.slice 5 [] 8190), (.slice 5 [] 8191), (.slice 5 [] 8192), (.slice 5 [] 8193), (.slice 5 [] 8194), (.slice 5 [] 8195), (.slice 5 [] 8196), (.slice 5 [] 8197), (.slice 5 [] 8198), (.slice 5 [] 8199), (.slice 5 [] 8200), (.slice 5 [] 8201), (.slice 5 [] 8202), (.slice 5 [] 8203), (.slice 5 [] 8204), (.slice 5 [] 8205), (.slice 5 [] 8206), (.slice 5 [] 8207), (.slice 5 [] 8208), (.slice 5 [] 8209), (.slice 5 [] 8210), (.slice 5 [] 8211), (.slice 5 [] 8212), (.slice 5 [] 8213), (.slice 5 [] 8214), (.slice 5 [] 8215), (.slice 5 [] 8216), (.slice 5 [] 8217), (.slice 5 [] 8218), (.slice 5 [] 8219), (.slice 5 [] 8220), (.slice 5 [] 8221), (.slice 5 [] 8222), (.slice 5 [] 8223), (.slice 5 [] 8224), (.slice 5 [] 8225), (.slice 5 [] 8226), (.slice 5 [] 8227), (.slice 5 [] 8228), (.slice 5 [] 8229), (.slice 5 [] 8230), (.slice 5 [] 8231), (.slice 5 [] 8232), (.slice 5 [] 8233), (.slice 5 [] 8234), (.slice 5 [] 8235), (.slice 5 [] 8236), (.slice 5 [] 8237), (.slice 5 [] 8238), (.slice 5 [] 8239), (.slice 5 [] 8240), (.slice 5 [] 8241), (.slice 5 [] 8242), (.slice 5 [] 8243), (.slice 5 [] 8244), (.slice 5 [] 8245), (.slice 5 [] 8246), (.slice 5 [] 8247), (.slice 5 [] 8248), (.slice 5 [] 8249), (.slice 5 [] 8250), (.slice 5 [] 8251), (.slice 5 [] 8252), (.slice 5 [] 8253), (.slice 5 [] 8254), (.slice 5 [] 8255)]), (32, [(.lit (.int .i64 0)), (.lit (.int .i64 0)), (.lit (.int .i64 0)), (.lit (.bool false)), (.lit (.bool false))]), (33, [(.lit (.int .i64 0)), (.lit (.int .i64 0)), (.lit (.int .i64 0)), (.lit (.bool false)), (.lit (.bool false))])], ord := [(27, [0, 1, 2, 3, 4, 5, 6, 7, 8, 9, 10, 11, 12, 13, 14, 15, 16, 17, 18, 19, 20, 21]), (28, [0, 1, 2, 3, 4, 5, 6, 7, 8, 9, 10, 11, 12, 13, 14, 15, 16, 17, 18, 19, 20, 21])], ap := [(90, []), (111, [])], own := [], yl := [], fz := [], imm := [] }
def m96 : MCode := (.seq (.reg [.asgNil 4 5])
 (.seq (.reg [.cpy 16 (.t 0), .call 17 70 [(.t 16)], .cpy 15 (.t 17), .ext 18 (.t 15) 0, .ext 19 (.t 15) 1, .asg 5 (.t 18), .asg 6 (.t 19)])
 (.seq (.reg [.alloc 7 [(.slice 5 [] 8000), (.slice 5 [] 8001), (.slice 5 [] 8002), (.slice 5 [] 8003), (.slice 5 [] 8004), (.slice 5 [] 8005), (.slice 5 [] 8006), (.slice 5 [] 8007), (.slice 5 [] 8008), (.slice 5 [] 8009), (.slice 5 [] 8010), (.slice 5 [] 8011), (.slice 5 [] 8012), (.slice 5 [] 8013), (.slice 5 [] 8014), (.slice 5 [] 8015), (.slice 5 [] 8016), (.slice 5 [] 8017), (.slice 5 [] 8018), (.slice 5 [] 8019), (.slice 5 [] 8020), (.slice 5 [] 8021), (.slice 5 [] 8022), (.slice 5 [] 8023), (.slice 5 [] 8024), (.slice 5 [] 8025), (.slice 5 [] 8026), (.slice 5 [] 8027), (.slice 5 [] 8028), (.slice 5 [] 8029), (.slice 5 [] 8030), (.slice 5 [] 8031), (.slice 5 [] 8032), (.slice 5 [] 8033), (.slice 5 [] 8034), (.slice 5 [] 8035), (.slice 5 [] 8036), (.slice 5 [] 8037), (.slice 5 [] 8038), (.slice 5 [] 8039), (.slice 5 [] 8040), (.slice 5 [] 8041), (.slice 5 [] 8042), (.slice 5 [] 8043), (.slice 5 [] 8044), (.slice 5 [] 8045), (.slice 5 [] 8046), (.slice 5 [] 8047), (.slice 5 [] 8048), (.slice 5 [] 8049), (.slice 5 [] 8050), (.slice 5 [] 8051), (.slice 5 [] 8052), (.slice 5 [] 8053), (.slice 5 [] 8054), (.slice 5 [] 8055), (.slice 5 [] 8056), (.slice 5 [] 8057), (.slice 5 [] 8058), (.slice 5 [] 8059), (.slice 5 [] 8060), (.slice 5 [] 8061), (.slice 5 [] 8062), (.slice 5 [] 8063), (.slice 5 [] 8064), (.slice 5 [] 8065), (.slice 5 [] 8066), (.slice 5 [] 8067), (.slice 5 [] 8068), (.slice 5 [] 8069), (.slice 5 [] 8070), (.slice 5 [] 8071), (.slice 5 [] 8072), (.slice 5 [] 8073), (.slice 5 [] 8074), (.slice 5 [] 8075), (.slice 5 [] 8076), (.slice 5 [] 8077), (.slice 5 [] 8078), (.slice 5 [] 8079), (.slice 5 [] 8080), (.slice 5 [] 8081), (.slice 5 [] 8082), (.slice 5 [] 8083), (.slice 5 [] 8084), (.slice 5 [] 8085), (.slice 5 [] 8086), (.slice 5 [] 8087), (.slice 5 [] 8088), (.slice 5 [] 8089), (.slice 5 [] 8090), (.slice 5 [] 8091), (.slice 5 [] 8092), (.slice 5 [] 8093), (.slice 5 [] 8094), (.slice 5 [] 8095), (.slice 5 [] 8096), (.slice 5 [] 8097), (.slice 5 [] 8098), (.slice 5 [] 8099), (.slice 5 [] 8100), (.slice 5 [] 8101), (.slice 5 [] 8102), (.slice 5 [] 8103), (.slice 5 [] 8104), (.slice 5 [] 8105), (.slice 5 [] 8106), (.slice 5 [] 8107), (.slice 5 [] 8108), (.slice 5 [] 8109), (.slice 5 [] 8110), (.slice 5 [] 8111), (.slice 5 [] 8112), (.slice 5 [] 8113), (.slice 5 [] 8114), (.slice 5 [] 8115), (.slice 5 [] 8116), (.slice 5 [] 8117), (.slice 5 [] 8118), (.slice 5 [] 8119), (.slice 5 [] 8120), (.slice 5 [] 8121), (.slice 5 [] 8122), (.slice 5 [] 8123), (.slice 5 [] 8124), (.slice 5 [] 8125), (.slice 5 [] 8126), (.slice 5 [] 8127), (.slice 5 [] 8128), (.slice 5 [] 8129), (.slice 5 [] 8130), (.slice 5 [] 8131), (.slice 5 [] 8132), (.slice 5 [] 8133), (.slice 5 [] 8134), (.slice 5 [] 8135), (.slice 5 [] 8136), (.slice 5 [] 8137), (.slice 5 [] 8138), (.slice 5 [] 8139), (.slice 5 [] 8140), (.slice 5 [] 8141), (.slice 5 [] 8142), (.slice 5 [] 8143), (.slice 5 [] 8144), (.slice 5 [] 8145), (.slice 5 [] 8146), (.slice 5 [] 8147), (.slice 5 [] 8148), (.slice 5 [] 8149), (.slice 5 [] 8150), (.slice 5 [] 8151), (.slice 5 [] 8152), (.slice 5 [] 8153), (.slice 5 [] 8154), (.slice 5 [] 8155), (.slice 5 [] 8156), (.slice 5 [] 8157), (.slice 5 [] 8158), (.slice 5 [] 8159), (.slice 5 [] 8160), (.slice 5 [] 8161), (.slice 5 [] 8162), (.slice 5 [] 8163), (.slice 5 [] 8164), (.slice 5 [] 8165), (.slice 5 [] 8166), (.slice 5 [] 8167), (.slice 5 [] 8168), (.slice 5 [] 8169), (.slice 5 [] 8170), (.slice 5 [] 8171), (.slice 5 [] 8172), (.slice 5 [] 8173), (.slice 5 [] 8174), (.slice 5 [] 8175), (.slice 5 [] 8176), (.slice 5 [] 8177), (.slice 5 [] 8178), (.slice 5 [] 8179), (.slice 5 [] 8180), (.slice 5 [] 8181), (.slice 5 [] 8182), (.slice 5 [] 8183), (.slice 5 [] 8184), (.slice 5 [] 8185), (.slice 5 [] 8186), (.slice 5 [] 8187), (.slice 5 [] 8188), (.slice 5 [] 8189), (.slice 5 [] 8190), (.slice 5 [] 8191), (.slice 5 [] 8192), (.slice 5 [] 8193), (.slice 5 [] 8194), (.slice 5 [] 8195), (.slice 5 [] 8196), (.slice 5 [] 8197), (.slice 5 [] 8198), (.slice 5 [] 8199), (.slice 5 [] 8200), (.slice 5 [] 8201), (.slice 5 [] 8202), (.slice 5 [] 8203), (.slice 5 [] 8204), (.slice 5 [] 8205), (.slice 5 [] 8206), (.slice 5 [] 8207), (.slice 5 [] 8208), (.slice 5 [] 8209), (.slice 5 [] 8210), (.slice 5 [] 8211), (.slice 5 [] 8212), (.slice 5 [] 8213), (.slice 5 [] 8214), (.slice 5 [] 8215), (.slice 5 [] 8216), (.slice 5 [] 8217), (.slice 5 [] 8218), (.slice 5 [] 8219), (.slice 5 [] 8220), (.slice 5 [] 8221), (.slice 5 [] 8222), (.slice 5 [] 8223), (.slice 5 [] 8224), (.slice 5 [] 8225), (.slice 5 [] 8226), (.slice 5 [] 8227), (.slice 5 [] 8228), (.slice 5 [] 8229), (.slice 5 [] 8230), (.slice 5 [] 8231), (.slice 5 [] 8232), (.slice 5 [] 8233), (.slice 5 [] 8234), (.slice 5 [] 8235), (.slice 5 [] 8236), (.slice 5 [] 8237), (.slice 5 [] 8238), (.slice 5 [] 8239), (.slice 5 [] 8240), (.slice 5 [] 8241), (.slice 5 [] 8242), (.slice 5 [] 8243), (.slice 5 [] 8244), (.slice 5 [] 8245), (.slice 5 [] 8246), (.slice 5 [] 8247), (.slice 5 [] 8248), (.slice 5 [] 8249), (.slice 5 [] 8250), (.slice 5 [] 8251), (.slice 5 [] 8252), (.slice 5 [] 8253), (.slice 5 [] 8254), (.slice 5 [] 8255)]])
 (.seq (.seq (.reg [.cpy 20 (.t 5), .cpy 21 (.c (.lit (.int .i64 0)))])
 (.block 0 (.loop (.seq (.reg [.bin 22 .lss (.t 21) (.t 20)])
 (.seq (.cond (.t 22) .skip (.exit 0))
 (.seq (.block 1 (.seq (.reg [.cpy 23 (.t 21), .asg 8 (.t 23)])
 (.seq (.reg [.cpy 24 (.t 6), .cpy 25 (.c (.lit (.int .i64 0)))])
 (.block 2 (.loop (.seq (.reg [.bin 26 .lss (.t 25) (.t 24)])
 (.seq (.cond (.t 26) .skip (.exit 2))
 (.seq (.block 3 (.seq (.reg [.cpy 27 (.t 25), .asg 9 (.t 27)])
 (.reg [.cpy 28 (.t 8), .cpy 29 (.t 9), .cpy 30 (.t 8), .cpy 31 (.t 9), .build 32 [(.lit (.int .i64 0)), (.lit (.int .i64 0)), (.lit (.int .i64 0)), (.lit (.bool false)), (.lit (.bool false))] [(1, 1, (.t 30)), (2, 1, (.t 31))], .mkS 33 1 5 [(.lit (.int .i64 0)), (.lit (.int .i64 0)), (.lit (.int .i64 0)), (.lit (.bool false)), (.lit (.bool false))] [(0, (.t 32))], .idxA 34 (.t 7) (.t 28) 16 16, .idxA 35 (.t 34) (.t 29) 16 1, .store (.t 35) (.t 33) 1 0])))
 (.reg [.bin 36 .add (.t 25) (.c (.lit (.int .i64 1))), .cpy 25 (.t 36)])))))))))
 (.reg [.bin 37 .add (.t 21) (.c (.lit (.int .i64 1))), .cpy 21 (.t 37)])))))))
 (.seq (.reg [.cpy 38 (.t 0), .cpy 39 (.t 0), .lenStr 40 (.t 39), .bin 41 .sub (.t 40) (.c (.lit (.int .i64 1))), .idxStr 42 (.t 38) (.t 41), .asg 10 (.t 42)])
 (.seq (.seq (.reg [.cpy 43 (.t 0), .rngS 44 (.t 43)])
 (.block 4 (.loop (.seq (.reg [.nxtS 45 (.t 44), .ext 46 (.t 45) 0])
 (.seq (.cond (.t 46) .skip (.exit 4))
 (.block 5 (.seq (.reg [.ext 47 (.t 45) 1, .ext 48 (.t 45) 2, .asg 11 (.t 47), .asg 12 (.t 48)])
 (.seq (.seq (.reg [.cpy 49 (.t 12), .bin 50 .eql (.t 49) (.c (.lit (.int .i32 120)))])
 (.cond (.t 50) (.reg [.cpy 51 (.t 5), .bin 52 .quo (.t 51) (.c (.lit (.int .i64 2))), .asg 5 (.t 52)]) (.reg [.cpy 53 (.t 6), .bin 54 .quo (.t 53) (.c (.lit (.int .i64 2))), .asg 6 (.t 54)])))
 (.seq (.seq (.reg [.cpy 55 (.t 11), .bin 56 .eql (.t 55) (.c (.lit (.int .i64 0))), .cpy 57 (.t 56), .guard 57 true (some 58) (.cpy 58 (.t 1)), .pick 59 (.t 57) (.t 58) (.c (.lit (.bool false)))])
 (.cond (.t 59) (.exit 5) .skip))
 (.seq (.reg [.cpy 60 (.t 5), .cpy 61 (.c (.lit (.int .i64 0)))])
 (.block 6 (.loop (.seq (.reg [.bin 62 .lss (.t 61) (.t 60)])
 (.seq (.cond (.t 62) .skip (.exit 6))
 (.seq (.block 7 (.seq (.reg [.cpy 63 (.t 61), .asg 13 (.t 63)])
 (.seq (.reg [.cpy 64 (.t 6), .cpy 65 (.c (.lit (.int .i64 0)))])
 (.block 8 (.loop (.seq (.reg [.bin 66 .lss (.t 65) (.t 64)])
 (.seq (.cond (.t 66) .skip (.exit 8))
 (.seq (.block 9 (.seq (.reg [.cpy 67 (.t 65), .asg 14 (.t 67)])
 (.seq (.reg [.cpy 68 (.t 12), .bin 69 .eql (.t 68) (.c (.lit (.int .i32 120)))])
 (.cond (.t 69) (.reg [.cpy 70 (.t 13), .cpy 71 (.t 14), .cpy 72 (.t 13), .cpy 73 (.t 14), .idxA 74 (.t 7) (.t 72) 16 16, .idxA 75 (.t 74) (.t 73) 16 1, .load 76 (.t 75) none, .cpy 77 (.t 5), .bin 78 .mul (.c (.lit (.int .i64 2))) (.t 77), .bin 79 .sub (.t 78) (.c (.lit (.int .i64 1))), .cpy 80 (.t 13), .bin 81 .sub (.t 79) (.t 80), .cpy 82 (.t 14), .idxA 83 (.t 7) (.t 81) 16 16, .idxA 84 (.t 83) (.t 82) 16 1, .load 85 (.t 84) none, .cpy 86 (.t 10), .bin 87 .neq (.t 86) (.c (.lit (.int .u8 120))), .call 88 110 [(.t 76), (.t 85), (.t 87)], .idxA 89 (.t 7) (.t 70) 16 16, .idxA 90 (.t 89) (.t 71) 16 1, .apart [] (.t 90) (.store (.t 90) (.t 88) 1 0)]) (.reg [.cpy 91 (.t 13), .cpy 92 (.t 14), .cpy 93 (.t 13), .cpy 94 (.t 14), .idxA 95 (.t 7) (.t 93) 16 16, .idxA 96 (.t 95) (.t 94) 16 1, .load 97 (.t 96) none, .cpy 98 (.t 13), .cpy 99 (.t 6), .bin 100 .mul (.c (.lit (.int .i64 2))) (.t 99), .bin 101 .sub (.t 100) (.c (.lit (.int .i64 1))), .cpy 102 (.t 14), .bin 103 .sub (.t 101) (.t 102), .idxA 104 (.t 7) (.t 98) 16 16, .idxA 105 (.t 104) (.t 103) 16 1, .load 106 (.t 105) none, .cpy 107 (.t 10), .bin 108 .neq (.t 107) (.c (.lit (.int .u8 121))), .call 109 110 [(.t 97), (.t 106), (.t 108)], .idxA 110 (.t 7) (.t 91) 16 16, .idxA 111 (.t 110) (.t 92) 16 1, .apart [] (.t 111) (.store (.t 111) (.t 109) 1 0)])))))
 (.reg [.bin 112 .add (.t 65) (.c (.lit (.int .i64 1))), .cpy 65 (.t 112)])))))))))
 (.reg [.bin 113 .add (.t 61) (.c (.lit (.int .i64 1))), .cpy 61 (.t 113)]))))))))))))))))
 (.seq (.reg [.idxA 114 (.t 7) (.c (.lit (.int .i64 0))) 16 16, .idxA 115 (.t 114) (.c (.lit (.int .i64 0))) 16 1, .load 116 (.t 115) none, .asg 4 (.t 116)])
 .ret)))))))
def r96 : List MRes := [.tmp 4]
theorem tr96 : Try.f96.body.bind (trC Try.prog ann96 Try.f96.ntmps) = some m96 := by kernel_rfl
theorem rs96 : trRes Try.prog Try.f96.results.toList = some r96 := by kernel_rfl
theorem fn96 : isFunc Try.prog 96 = true := by kernel_rfl

/- (duodecimo/fold.press).makes$1 -/
def ann98 : Ann := { muts := [], nilsz := [], oid := [], frz := [], zero := [(4, [(.lit (.int .i64 0)), (.lit (.int .i64 0)), (.lit (.int .i64 0)), (.lit (.bool false))]), (32, [(.lit (.int .i64 0)), (.lit (.int .i64 0)), (.lit (.int .i64 0)), (.lit (.bool false))])], ord := [(5, [0, 1, 2, 3, 4, 5, 6, 7, 8, 9, 10, 11, 12, 13, 14, 15])], ap := [(51, []), (52, [])], own := [], yl := [60], fz := [], imm := [42, 48] }
def m98 : MCode := (.seq (.reg [.addr 5 (.t 1) 0, .addr 6 (.t 5) 0, .load 7 (.t 6) none, .len 8 (.t 7), .addr 9 (.t 1) 0, .addr 10 (.t 9) 1, .load 11 (.t 10) none, .len 12 (.t 11), .bin 13 .mul (.t 8) (.t 12), .addr 14 (.t 1) 0, .addr 15 (.t 14) 3, .load 16 (.t 15) none, .bin 17 .mul (.t 13) (.t 16), .bin 18 .mul (.t 17) (.c (.lit (.int .i64 2))), .cpy 19 (.c (.lit (.int .i64 0)))])
 (.block 0 (.loop (.seq (.reg [.bin 20 .lss (.t 19) (.t 18)])
 (.seq (.cond (.t 20) .skip (.exit 0))
 (.seq (.block 1 (.seq (.reg [.cpy 21 (.t 19), .asg 3 (.t 21)])
 (.seq (.reg [.cpy 22 (.t 3), .bin 23 .quo (.t 22) (.c (.lit (.int .i64 2))), .addr 24 (.t 1) 0, .addr 25 (.t 24) 3, .load 26 (.t 25) none, .bin 27 .rem (.t 23) (.t 26), .bin 28 .add (.t 27) (.c (.lit (.int .i64 1))), .cpy 29 (.t 3), .bin 30 .rem (.t 29) (.c (.lit (.int .i64 2))), .bin 31 .eql (.t 30) (.c (.lit (.int .i64 1))), .build 32 [(.lit (.int .i64 0)), (.lit (.int .i64 0)), (.lit (.int .i64 0)), (.lit (.bool false))] [(2, 1, (.t 28)), (3, 1, (.t 31))], .alloc 4 [(.lit (.int .i64 0)), (.lit (.int .i64 0)), (.lit (.int .i64 0)), (.lit (.bool false))], .store (.t 4) (.t 32) 4 0])
 (.seq (.reg [.cpy 33 (.t 3), .addr 34 (.t 1) 0, .addr 35 (.t 34) 3, .load 36 (.t 35) none, .bin 37 .mul (.c (.lit (.int .i64 2))) (.t 36), .bin 38 .quo (.t 33) (.t 37), .asg 3 (.t 38)])
 (.seq (.reg [.cpy 39 (.t 3), .addr 40 (.t 1) 0, .addr 41 (.t 40) 1, .loadI 42 (.t 41) none, .len 43 (.t 42), .bin 44 .rem (.t 39) (.t 43), .cpy 45 (.t 3), .addr 46 (.t 1) 0, .addr 47 (.t 46) 1, .loadI 48 (.t 47) none, .len 49 (.t 48), .bin 50 .quo (.t 45) (.t 49), .addr 51 (.t 4) 1, .apart [] (.t 51) (.store (.t 51) (.t 44) 1 0), .addr 52 (.t 4) 0, .apart [] (.t 52) (.store (.t 52) (.t 50) 1 0)])
 (.seq (.reg [.load 53 (.t 1) (some 4), .load 54 (.t 4) (some 4), .call 55 95 [(.t 53), (.t 54)], .bin 56 .eql (.t 55) (.c (.lit (.int .i64 0))), .cpy 57 (.t 56), .guard 57 true (some 58) (.cpy 58 (.t 0)), .guard 57 true (some 59) (.load 59 (.t 4) (some 4)), .guard 57 true (some 60) (.yld 60 (.t 58) [(.t 59)]), .guard 57 true (some 61) (.not 61 (.t 60)), .pick 62 (.t 57) (.t 61) (.c (.lit (.bool false)))])
 (.cond (.t 62) .ret .skip)))))))
 (.reg [.bin 63 .add (.t 19) (.c (.lit (.int .i64 1))), .cpy 19 (.t 63)])))))))
def r98 : List MRes := []
theorem tr98 : Try.f98.body.bind (trC Try.prog ann98 Try.f98.ntmps) = some m98 := by kernel_rfl
theorem rs98 : trRes Try.prog Try.f98.results.toList = some r98 := by kernel_rfl
theorem fn98 : isFunc Try.prog 98 = true := by kernel_rfl

/- duodecimo/fold.upright -/
def ann99 : Ann := { muts := [], nilsz := [], oid := [], frz := [], zero := [], ord := [], ap := [], own := [], yl := [], fz := [], imm := [] }
def m99 : MCode := (.seq (.reg [.asg 2 (.c (.lit (.bool false)))])
 (.seq (.reg [.cpy 3 (.t 0), .cpy 4 (.t 0), .lenStr 5 (.t 4), .bin 6 .sub (.t 5) (.c (.lit (.int .i64 1))), .idxStr 7 (.t 3) (.t 6), .bin 8 .eql (.t 7) (.c (.lit (.int .u8 120))), .asg 2 (.t 8)])
 .ret))
def r99 : List MRes := [.tmp 2]
theorem tr99 : Try.f99.body.bind (trC Try.prog ann99 Try.f99.ntmps) = some m99 := by kernel_rfl
theorem rs99 : trRes Try.prog Try.f99.results.toList = some r99 := by kernel_rfl
theorem fn99 : isFunc Try.prog 99 = true := by kernel_rfl

/- duodecimo/fold.reached -/
def ann100 : Ann := { muts := [], nilsz := [], oid := [], frz := [], zero := [], ord := [], ap := [], own := [], yl := [], fz := [], imm := [] }
def m100 : MCode := (.seq (.reg [.boxI 7 (.t 3) 2, .asg 8 (.c (.lit (.bool false)))])
 (.seq (.reg [.cpy 9 (.t 0), .cpy 10 (.t 2), .bin 11 .sub (.t 9) (.t 10), .addr 12 (.t 7) 1, .load 13 (.t 12) none, .bin 14 .leq (.t 11) (.t 13), .cpy 15 (.t 14), .guard 15 true (some 16) (.cpy 16 (.t 1)), .guard 15 true (some 17) (.addr 17 (.t 7) 0), .guard 15 true (some 18) (.load 18 (.t 17) none), .guard 15 true (some 19) (.bin 19 .geq (.t 16) (.t 18)), .pick 20 (.t 15) (.t 19) (.c (.lit (.bool false))), .asg 8 (.t 20)])
 .ret))
def r100 : List MRes := [.tmp 8]
theorem tr100 : Try.f100.body.bind (trC Try.prog ann100 Try.f100.ntmps) = some m100 := by kernel_rfl
theorem rs100 : trRes Try.prog Try.f100.results.toList = some r100 := by kernel_rfl
theorem fn100 : isFunc Try.prog 100 = true := by kernel_rfl

/- (duodecimo/fold.press).off$1 -/
def ann101 : Ann := { muts := [], nilsz := [], oid := [], frz := [9], zero := [(9, [(.lit (.int .i64 0)), (.lit (.bool false))])], ord := [(4, [0, 1, 2, 3, 4, 5, 6, 7, 8, 9, 10, 11, 12, 13, 14, 15, 16, 17, 18, 19, 20, 21])], ap := [], own := [], yl := [], fz := [], imm := [] }
def m101 : MCode := (.seq (.reg [.asg 7 (.c (.lit (.int .i64 0)))])
 (.seq (.seq (.reg [.addr 10 (.t 1) 6, .load 11 (.t 10) none, .len 12 (.t 11), .cpy 13 (.c (.lit (.int .i64 0)))])
 (.block 0 (.loop (.seq (.reg [.bin 14 .lss (.t 13) (.t 12)])
 (.seq (.cond (.t 14) .skip (.exit 0))
 (.seq (.block 1 (.seq (.reg [.cpy 15 (.t 13), .idxS 16 (.t 11) (.t 13) 2, .load 17 (.t 16) (some 2), .alloc 9 [(.lit (.int .i64 0)), (.lit (.bool false))], .asg 8 (.t 15), .storeF 9 (.t 17) 2])
 (.seq (.reg [.load 18 (.t 2) none, .addr 19 (.t 9) 0, .load 20 (.t 19) none, .idxS 21 (.t 18) (.t 20) 5, .addr 22 (.t 21) 0, .load 23 (.t 22) none, .load 24 (.t 3) none, .bin 25 .eql (.t 23) (.t 24), .cpy 26 (.t 25), .guard 26 true (some 27) (.load 27 (.t 4) (some 4)), .guard 26 true (some 28) (.load 28 (.t 5) (some 4)), .guard 26 true (some 29) (.load 29 (.t 2) none), .guard 26 true (some 30) (.addr 30 (.t 9) 0), .guard 26 true (some 31) (.load 31 (.t 30) none), .guard 26 true (some 32) (.idxS 32 (.t 29) (.t 31) 5), .guard 26 true (some 33) (.load 33 (.t 32) (some 5)), .guard 26 true (some 34) (.cpy 34 (.t 0)), .guard 26 true (some 35) (.call 35 74 [(.t 27), (.t 28), (.t 33), (.t 34)]), .guard 26 true (some 36) (.addr 36 (.t 9) 1), .guard 26 true (some 37) (.load 37 (.t 36) none), .guard 26 true (some 38) (.binB 38 true (.t 35) (.t 37)), .pick 39 (.t 26) (.t 38) (.c (.lit (.bool false)))])
 (.cond (.t 39) (.reg [.cpy 40 (.t 7), .cpy 41 (.t 8), .bin 42 .shl (.c (.lit (.int .i64 8))) (.t 41), .bin 43 .or (.t 40) (.t 42), .asg 7 (.t 43)]) .skip))))
 (.reg [.bin 44 .add (.t 13) (.c (.lit (.int .i64 1))), .cpy 13 (.t 44)])))))))
 (.seq (.reg [.cpy 45 (.t 7), .asg 7 (.t 45)])
 .ret)))
def r101 : List MRes := [.tmp 7]
theorem tr101 : Try.f101.body.bind (trC Try.prog ann101 Try.f101.ntmps) = some m101 := by kernel_rfl
theorem rs101 : trRes Try.prog Try.f101.results.toList = some r101 := by kernel_rfl
theorem fn101 : isFunc Try.prog 101 = true := by kernel_rfl

/- math/bits.OnesCount -/
def ann102 : Ann := { muts := [], nilsz := [], oid := [], frz := [], zero := [], ord := [], ap := [], own := [], yl := [], fz := [], imm := [] }
def m102 : MCode := (.seq (.reg [.asg 2 (.c (.lit (.int .i64 0)))])
 (.seq (.cond (.c (.lit (.bool false))) (.seq (.reg [.cpy 3 (.t 0), .conv 4 .u32 (.t 3), .call 5 112 [(.t 4)], .asg 2 (.t 5)])
 .ret) .skip)
 (.seq (.reg [.cpy 6 (.t 0), .call 7 113 [(.t 6)], .asg 2 (.t 7)])
 .ret)))
def r102 : List MRes := [.tmp 2]
theorem tr102 : Try.f102.body.bind (trC Try.prog ann102 Try.f102.ntmps) = some m102 := by kernel_rfl
theorem rs102 : trRes Try.prog Try.f102.results.toList = some r102 := by kernel_rfl
theorem fn102 : isFunc Try.prog 102 = true := by kernel_rfl

/- slices.Compare[[]int,int] -/
def ann103 : Ann := { muts := [], nilsz := [], oid := [], frz := [], zero := [], ord := [], ap := [], own := [], yl := [], fz := [], imm := [] }
def m103 : MCode := (.seq (.reg [.asg 4 (.c (.lit (.int .i64 0)))])
 (.seq (.seq (.reg [.cpy 9 (.t 0), .len 10 (.t 9), .cpy 11 (.c (.lit (.int .i64 0)))])
 (.block 0 (.loop (.seq (.reg [.bin 12 .lss (.t 11) (.t 10)])
 (.seq (.cond (.t 12) .skip (.exit 0))
 (.seq (.block 1 (.seq (.reg [.cpy 13 (.t 11), .idxS 14 (.t 9) (.t 11) 1, .load 15 (.t 14) none, .asg 5 (.t 13), .asg 6 (.t 15)])
 (.seq (.seq (.reg [.cpy 16 (.t 5), .cpy 17 (.t 1), .len 18 (.t 17), .bin 19 .geq (.t 16) (.t 18)])
 (.cond (.t 19) (.seq (.reg [.asg 4 (.c (.lit (.int .i64 1)))])
 .ret) .skip))
 (.seq (.reg [.cpy 20 (.t 1), .cpy 21 (.t 5), .idxS 22 (.t 20) (.t 21) 1, .load 23 (.t 22) none, .asg 7 (.t 23)])
 (.seq (.reg [.cpy 24 (.t 6), .cpy 25 (.t 7), .call 26 114 [(.t 24), (.t 25)], .asg 8 (.t 26)])
 (.seq (.reg [.cpy 27 (.t 8), .bin 28 .neq (.t 27) (.c (.lit (.int .i64 0)))])
 (.cond (.t 28) (.seq (.reg [.cpy 29 (.t 8), .asg 4 (.t 29)])
 .ret) .skip)))))))
 (.reg [.bin 30 .add (.t 11) (.c (.lit (.int .i64 1))), .cpy 11 (.t 30)])))))))
 (.seq (.seq (.reg [.cpy 31 (.t 0), .len 32 (.t 31), .cpy 33 (.t 1), .len 34 (.t 33), .bin 35 .lss (.t 32) (.t 34)])
 (.cond (.t 35) (.seq (.reg [.asg 4 (.c (.lit (.int .i64 (-1))))])
 .ret) .skip))
 (.seq (.reg [.asg 4 (.c (.lit (.int .i64 0)))])
 .ret))))
def r103 : List MRes := [.tmp 4]
theorem tr103 : Try.f103.body.bind (trC Try.prog ann103 Try.f103.ntmps) = some m103 := by kernel_rfl
theorem rs103 : trRes Try.prog Try.f103.results.toList = some r103 := by kernel_rfl
theorem fn103 : isFunc Try.prog 103 = true := by kernel_rfl

/- math/bits.Len -/
def ann104 : Ann := { muts := [], nilsz := [], oid := [], frz := [], zero := [], ord := [], ap := [], own := [], yl := [], fz := [], imm := [] }
def m104 : MCode := (.seq (.reg [.asg 2 (.c (.lit (.int .i64 0)))])
 (.seq (.cond (.c (.lit (.bool false))) (.seq (.reg [.cpy 3 (.t 0), .conv 4 .u32 (.t 3), .call 5 115 [(.t 4)], .asg 2 (.t 5)])
 .ret) .skip)
 (.seq (.reg [.cpy 6 (.t 0), .call 7 116 [(.t 6)], .asg 2 (.t 7)])
 .ret)))
def r104 : List MRes := [.tmp 2]
theorem tr104 : Try.f104.body.bind (trC Try.prog ann104 Try.f104.ntmps) = some m104 := by kernel_rfl
theorem rs104 : trRes Try.prog Try.f104.results.toList = some r104 := by kernel_rfl
theorem fn104 : isFunc Try.prog 104 = true := by kernel_rfl

/- slices.IndexFunc[[]int,int] -/
def ann107 : Ann := { muts := [], nilsz := [], oid := [], frz := [], zero := [], ord := [], ap := [], own := [], yl := [], fz := [], imm := [] }
def m107 : MCode := (.seq (.reg [.asg 4 (.c (.lit (.int .i64 0)))])
 (.seq (.seq (.reg [.cpy 6 (.t 0), .len 7 (.t 6), .cpy 8 (.c (.lit (.int .i64 0)))])
 (.block 0 (.loop (.seq (.reg [.bin 9 .lss (.t 8) (.t 7)])
 (.seq (.cond (.t 9) .skip (.exit 0))
 (.seq (.block 1 (.seq (.reg [.cpy 10 (.t 8), .asg 5 (.t 10)])
 (.seq (.reg [.cpy 11 (.t 1), .cpy 12 (.t 0), .cpy 13 (.t 5), .idxS 14 (.t 12) (.t 13) 1, .load 15 (.t 14) none, .callv 16 (.t 11) [(.t 15)]])
 (.cond (.t 16) (.seq (.reg [.cpy 17 (.t 5), .asg 4 (.t 17)])
 .ret) .skip))))
 (.reg [.bin 18 .add (.t 8) (.c (.lit (.int .i64 1))), .cpy 8 (.t 18)])))))))
 (.seq (.reg [.asg 4 (.c (.lit (.int .i64 (-1))))])
 .ret)))
def r107 : List MRes := [.tmp 4]
theorem tr107 : Try.f107.body.bind (trC Try.prog ann107 Try.f107.ntmps) = some m107 := by kernel_rfl
theorem rs107 : trRes Try.prog Try.f107.results.toList = some r107 := by kernel_rfl
theorem fn107 : isFunc Try.prog 107 = true := by kernel_rfl

/- duodecimo/fold.over -/
def ann110 : Ann := { muts := [], nilsz := [(6, 5)], oid := [], frz := [], zero := [(9, [(.lit (.int .i64 0)), (.lit (.int .i64 0)), (.lit (.int .i64 0)), (.lit (.bool false)), (.lit (.bool false))]), (15, [(.lit (.int .i64 0)), (.lit (.int .i64 0)), (.lit (.int .i64 0)), (.lit (.bool false)), (.lit (.bool false))])], ord := [], ap := [], own := [], yl := [], fz := [(10, [6])], imm := [] }
def m110 : MCode := (.seq (.reg [.asgNil 6 5])
 (.seq (.reg [.cpy 10 (.t 0), .len 11 (.t 10), .cpy 12 (.t 1), .len 13 (.t 12), .bin 14 .add (.t 11) (.t 13), .mkM 15 (.t 14) (.t 14) 5 32 [(.lit (.int .i64 0)), (.lit (.int .i64 0)), (.lit (.int .i64 0)), (.lit (.bool false)), (.lit (.bool false))], .asg 7 (.t 15)])
 (.seq (.reg [.cpy 16 (.t 7), .cpy 17 (.t 0), .cpyM 18 (.t 16) (.t 17) 5])
 (.seq (.seq (.reg [.cpy 19 (.t 1), .len 20 (.t 19), .cpy 21 (.c (.lit (.int .i64 0)))])
 (.block 0 (.loop (.seq (.reg [.bin 22 .lss (.t 21) (.t 20)])
 (.seq (.cond (.t 22) .skip (.exit 0))
 (.seq (.block 1 (.seq (.reg [.cpy 23 (.t 21), .idxS 24 (.t 19) (.t 21) 5, .load 25 (.t 24) (some 5), .alloc 9 [(.lit (.int .i64 0)), (.lit (.int .i64 0)), (.lit (.int .i64 0)), (.lit (.bool false)), (.lit (.bool false))], .asg 8 (.t 23), .store (.t 9) (.t 25) 5 0])
 (.seq (.reg [.addr 26 (.t 9) 3, .load 27 (.t 26) none, .not 28 (.t 27), .addr 29 (.t 9) 3, .store (.t 29) (.t 28) 1 0])
 (.seq (.reg [.addr 30 (.t 9) 4, .load 31 (.t 30) none, .cpy 32 (.t 2), .binB 33 true (.t 31) (.t 32), .addr 34 (.t 9) 4, .store (.t 34) (.t 33) 1 0])
 (.reg [.cpy 35 (.t 7), .cpy 36 (.t 7), .len 37 (.t 36), .bin 38 .sub (.t 37) (.c (.lit (.int .i64 1))), .cpy 39 (.t 8), .bin 40 .sub (.t 38) (.t 39), .load 41 (.t 9) (some 5), .idxS 42 (.t 35) (.t 40) 5, .store (.t 42) (.t 41) 5 0])))))
 (.reg [.bin 43 .add (.t 21) (.c (.lit (.int .i64 1))), .cpy 21 (.t 43)])))))))
 (.seq (.reg [.cpy 44 (.t 7), .asg 6 (.t 44), .frz 6])
 .ret)))))
def r110 : List MRes := [.tmp 6]
theorem tr110 : Try.f110.body.bind (trC Try.prog ann110 Try.f110.ntmps) = some m110 := by kernel_rfl
theorem rs110 : trRes Try.prog Try.f110.results.toList = some r110 := by kernel_rfl
theorem fn110 : isFunc Try.prog 110 = true := by kernel_rfl

/- math/bits.OnesCount32 -/
def ann112 : Ann := { muts := [], nilsz := [], oid := [], frz := [], zero := [], ord := [(1, [0, 1, 2, 3, 4, 5, 6, 7, 8, 9, 10, 11, 12, 13, 14, 15, 16, 17, 18])], ap := [], own := [2], yl := [], fz := [], imm := [] }
def m112 : MCode := (.seq (.reg [.asg 2 (.c (.lit (.int .i64 0)))])
 (.seq (.reg [.cpy 3 (.t 0), .bin 4 .shr (.t 3) (.c (.lit (.int .u64 24))), .idxStr 5 (.c (.lit (.string ⟨#[0, 1, 1, 2, 1, 2, 2, 3, 1, 2, 2, 3, 2, 3, 3, 4, 1, 2, 2, 3, 2, 3, 3, 4, 2, 3, 3, 4, 3, 4, 4, 5, 1, 2, 2, 3, 2, 3, 3, 4, 2, 3, 3, 4, 3, 4, 4, 5, 2, 3, 3, 4, 3, 4, 4, 5, 3, 4, 4, 5, 4, 5, 5, 6, 1, 2, 2, 3, 2, 3, 3, 4, 2, 3, 3, 4, 3, 4, 4, 5, 2, 3, 3, 4, 3, 4, 4, 5, 3, 4, 4, 5, 4, 5, 5, 6, 2, 3, 3, 4, 3, 4, 4, 5, 3, 4, 4, 5, 4, 5, 5, 6, 3, 4, 4, 5, 4, 5, 5, 6, 4, 5, 5, 6, 5, 6, 6, 7, 1, 2, 2, 3, 2, 3, 3, 4, 2, 3, 3, 4, 3, 4, 4, 5, 2, 3, 3, 4, 3, 4, 4, 5, 3, 4, 4, 5, 4, 5, 5, 6, 2, 3, 3, 4, 3, 4, 4, 5, 3, 4, 4, 5, 4, 5, 5, 6, 3, 4, 4, 5, 4, 5, 5, 6, 4, 5, 5, 6, 5, 6, 6, 7, 2, 3, 3, 4, 3, 4, 4, 5, 3, 4, 4, 5, 4, 5, 5, 6, 3, 4, 4, 5, 4, 5, 5, 6, 4, 5, 5, 6, 5, 6, 6, 7, 3, 4, 4, 5, 4, 5, 5, 6, 4, 5, 5, 6, 5, 6, 6, 7, 4, 5, 5, 6, 5, 6, 6, 7, 5, 6, 6, 7, 6, 7, 7, 8]⟩))) (.t 4), .cpy 6 (.t 0), .bin 7 .shr (.t 6) (.c (.lit (.int .u64 16))), .bin 8 .and (.t 7) (.c (.lit (.int .u32 255))), .idxStr 9 (.c (.lit (.string ⟨#[0, 1, 1, 2, 1, 2, 2, 3, 1, 2, 2, 3, 2, 3, 3, 4, 1, 2, 2, 3, 2, 3, 3, 4, 2, 3, 3, 4, 3, 4, 4, 5, 1, 2, 2, 3, 2, 3, 3, 4, 2, 3, 3, 4, 3, 4, 4, 5, 2, 3, 3, 4, 3, 4, 4, 5, 3, 4, 4, 5, 4, 5, 5, 6, 1, 2, 2, 3, 2, 3, 3, 4, 2, 3, 3, 4, 3, 4, 4, 5, 2, 3, 3, 4, 3, 4, 4, 5, 3, 4, 4, 5, 4, 5, 5, 6, 2, 3, 3, 4, 3, 4, 4, 5, 3, 4, 4, 5, 4, 5, 5, 6, 3, 4, 4, 5, 4, 5, 5, 6, 4, 5, 5, 6, 5, 6, 6, 7, 1, 2, 2, 3, 2, 3, 3, 4, 2, 3, 3, 4, 3, 4, 4, 5, 2, 3, 3, 4, 3, 4, 4, 5, 3, 4, 4, 5, 4, 5, 5, 6, 2, 3, 3, 4, 3, 4, 4, 5, 3, 4, 4, 5, 4, 5, 5, 6, 3, 4, 4, 5, 4, 5, 5, 6, 4, 5, 5, 6, 5, 6, 6, 7, 2, 3, 3, 4, 3, 4, 4, 5, 3, 4, 4, 5, 4, 5, 5, 6, 3, 4, 4, 5, 4, 5, 5, 6, 4, 5, 5, 6, 5, 6, 6, 7, 3, 4, 4, 5, 4, 5, 5, 6, 4, 5, 5, 6, 5, 6, 6, 7, 4, 5, 5, 6, 5, 6, 6, 7, 5, 6, 6, 7, 6, 7, 7, 8]⟩))) (.t 8), .bin 10 .add (.t 5) (.t 9), .cpy 11 (.t 0), .bin 12 .shr (.t 11) (.c (.lit (.int .u64 8))), .bin 13 .and (.t 12) (.c (.lit (.int .u32 255))), .idxStr 14 (.c (.lit (.string ⟨#[0, 1, 1, 2, 1, 2, 2, 3, 1, 2, 2, 3, 2, 3, 3, 4, 1, 2, 2, 3, 2, 3, 3, 4, 2, 3, 3, 4, 3, 4, 4, 5, 1, 2, 2, 3, 2, 3, 3, 4, 2, 3, 3, 4, 3, 4, 4, 5, 2, 3, 3, 4, 3, 4, 4, 5, 3, 4, 4, 5, 4, 5, 5, 6, 1, 2, 2, 3, 2, 3, 3, 4, 2, 3, 3, 4, 3, 4, 4, 5, 2, 3, 3, 4, 3, 4, 4, 5, 3, 4, 4, 5, 4, 5, 5, 6, 2, 3, 3, 4, 3, 4, 4, 5, 3, 4, 4, 5, 4, 5, 5, 6, 3, 4, 4, 5, 4, 5, 5, 6, 4, 5, 5, 6, 5, 6, 6, 7, 1, 2, 2, 3, 2, 3, 3, 4, 2, 3, 3, 4, 3, 4, 4, 5, 2, 3, 3, 4, 3, 4, 4, 5, 3, 4, 4, 5, 4, 5, 5, 6, 2, 3, 3, 4, 3, 4, 4, 5, 3, 4, 4, 5, 4, 5, 5, 6, 3, 4, 4, 5, 4, 5, 5, 6, 4, 5, 5, 6, 5, 6, 6, 7, 2, 3, 3, 4, 3, 4, 4, 5, 3, 4, 4, 5, 4, 5, 5, 6, 3, 4, 4, 5, 4, 5, 5, 6, 4, 5, 5, 6, 5, 6, 6, 7, 3, 4, 4, 5, 4, 5, 5, 6, 4, 5, 5, 6, 5, 6, 6, 7, 4, 5, 5, 6, 5, 6, 6, 7, 5, 6, 6, 7, 6, 7, 7, 8]⟩))) (.t 13), .bin 15 .add (.t 10) (.t 14), .cpy 16 (.t 0), .bin 17 .and (.t 16) (.c (.lit (.int .u32 255))), .idxStr 18 (.c (.lit (.string ⟨#[0, 1, 1, 2, 1, 2, 2, 3, 1, 2, 2, 3, 2, 3, 3, 4, 1, 2, 2, 3, 2, 3, 3, 4, 2, 3, 3, 4, 3, 4, 4, 5, 1, 2, 2, 3, 2, 3, 3, 4, 2, 3, 3, 4, 3, 4, 4, 5, 2, 3, 3, 4, 3, 4, 4, 5, 3, 4, 4, 5, 4, 5, 5, 6, 1, 2, 2, 3, 2, 3, 3, 4, 2, 3, 3, 4, 3, 4, 4, 5, 2, 3, 3, 4, 3, 4, 4, 5, 3, 4, 4, 5, 4, 5, 5, 6, 2, 3, 3, 4, 3, 4, 4, 5, 3, 4, 4, 5, 4, 5, 5, 6, 3, 4, 4, 5, 4, 5, 5, 6, 4, 5, 5, 6, 5, 6, 6, 7, 1, 2, 2, 3, 2, 3, 3, 4, 2, 3, 3, 4, 3, 4, 4, 5, 2, 3, 3, 4, 3, 4, 4, 5, 3, 4, 4, 5, 4, 5, 5, 6, 2, 3, 3, 4, 3, 4, 4, 5, 3, 4, 4, 5, 4, 5, 5, 6, 3, 4, 4, 5, 4, 5, 5, 6, 4, 5, 5, 6, 5, 6, 6, 7, 2, 3, 3, 4, 3, 4, 4, 5, 3, 4, 4, 5, 4, 5, 5, 6, 3, 4, 4, 5, 4, 5, 5, 6, 4, 5, 5, 6, 5, 6, 6, 7, 3, 4, 4, 5, 4, 5, 5, 6, 4, 5, 5, 6, 5, 6, 6, 7, 4, 5, 5, 6, 5, 6, 6, 7, 5, 6, 6, 7, 6, 7, 7, 8]⟩))) (.t 17), .bin 19 .add (.t 15) (.t 18), .conv 20 .i64 (.t 19), .asg 2 (.t 20)])
 .ret))
def r112 : List MRes := [.tmp 2]
theorem tr112 : Try.f112.body.bind (trC Try.prog ann112 Try.f112.ntmps) = some m112 := by kernel_rfl
theorem rs112 : trRes Try.prog Try.f112.results.toList = some r112 := by kernel_rfl
theorem fn112 : isFunc Try.prog 112 = true := by kernel_rfl

/- math/bits.OnesCount64 -/
def ann113 : Ann := { muts := [], nilsz := [], oid := [], frz := [], zero := [], ord := [], ap := [], own := [], yl := [], fz := [], imm := [] }
def m113 : MCode := (.seq (.reg [.asg 2 (.c (.lit (.int .i64 0)))])
 (.seq (.reg [.cpy 3 (.t 0), .bin 4 .shr (.t 3) (.c (.lit (.int .u64 1))), .bin 5 .and (.t 4) (.c (.lit (.int .u64 6148914691236517205))), .cpy 6 (.t 0), .bin 7 .and (.t 6) (.c (.lit (.int .u64 6148914691236517205))), .bin 8 .add (.t 5) (.t 7), .asg 0 (.t 8)])
 (.seq (.reg [.cpy 9 (.t 0), .bin 10 .shr (.t 9) (.c (.lit (.int .u64 2))), .bin 11 .and (.t 10) (.c (.lit (.int .u64 3689348814741910323))), .cpy 12 (.t 0), .bin 13 .and (.t 12) (.c (.lit (.int .u64 3689348814741910323))), .bin 14 .add (.t 11) (.t 13), .asg 0 (.t 14)])
 (.seq (.reg [.cpy 15 (.t 0), .bin 16 .shr (.t 15) (.c (.lit (.int .u64 4))), .cpy 17 (.t 0), .bin 18 .add (.t 16) (.t 17), .bin 19 .and (.t 18) (.c (.lit (.int .u64 1085102592571150095))), .asg 0 (.t 19)])
 (.seq (.reg [.cpy 20 (.t 0), .cpy 21 (.t 0), .bin 22 .shr (.t 21) (.c (.lit (.int .u64 8))), .bin 23 .add (.t 20) (.t 22), .asg 0 (.t 23)])
 (.seq (.reg [.cpy 24 (.t 0), .cpy 25 (.t 0), .bin 26 .shr (.t 25) (.c (.lit (.int .u64 16))), .bin 27 .add (.t 24) (.t 26), .asg 0 (.t 27)])
 (.seq (.reg [.cpy 28 (.t 0), .cpy 29 (.t 0), .bin 30 .shr (.t 29) (.c (.lit (.int .u64 32))), .bin 31 .add (.t 28) (.t 30), .asg 0 (.t 31)])
 (.seq (.reg [.cpy 32 (.t 0), .conv 33 .i64 (.t 32), .bin 34 .and (.t 33) (.c (.lit (.int .i64 127))), .asg 2 (.t 34)])
 .ret))))))))
def r113 : List MRes := [.tmp 2]
theorem tr113 : Try.f113.body.bind (trC Try.prog ann113 Try.f113.ntmps) = some m113 := by kernel_rfl
theorem rs113 : trRes Try.prog Try.f113.results.toList = some r113 := by kernel_rfl
theorem fn113 : isFunc Try.prog 113 = true := by kernel_rfl

/- cmp.Compare[int] -/
def ann114 : Ann := { muts := [], nilsz := [], oid := [], frz := [], zero := [], ord := [], ap := [], own := [], yl := [], fz := [], imm := [] }
def m114 : MCode := (.seq (.reg [.asg 4 (.c (.lit (.int .i64 0)))])
 (.seq (.reg [.cpy 7 (.t 0), .call 8 118 [(.t 7)], .asg 5 (.t 8)])
 (.seq (.reg [.cpy 9 (.t 1), .call 10 118 [(.t 9)], .asg 6 (.t 10)])
 (.seq (.seq (.reg [.cpy 11 (.t 5)])
 (.cond (.t 11) (.seq (.seq (.reg [.cpy 12 (.t 6)])
 (.cond (.t 12) (.seq (.reg [.asg 4 (.c (.lit (.int .i64 0)))])
 .ret) .skip))
 (.seq (.reg [.asg 4 (.c (.lit (.int .i64 (-1))))])
 .ret)) .skip))
 (.seq (.seq (.reg [.cpy 13 (.t 6)])
 (.cond (.t 13) (.seq (.reg [.asg 4 (.c (.lit (.int .i64 1)))])
 .ret) .skip))
 (.seq (.seq (.reg [.cpy 14 (.t 0), .cpy 15 (.t 1), .bin 16 .lss (.t 14) (.t 15)])
 (.cond (.t 16) (.seq (.reg [.asg 4 (.c (.lit (.int .i64 (-1))))])
 .ret) .skip))
 (.seq (.seq (.reg [.cpy 17 (.t 0), .cpy 18 (.t 1), .bin 19 .gtr (.t 17) (.t 18)])
 (.cond (.t 19) (.seq (.reg [.asg 4 (.c (.lit (.int .i64 1)))])
 .ret) .skip))
 (.seq (.reg [.asg 4 (.c (.lit (.int .i64 0)))])
 .ret))))))))
def r114 : List MRes := [.tmp 4]
theorem tr114 : Try.f114.body.bind (trC Try.prog ann114 Try.f114.ntmps) = some m114 := by kernel_rfl
theorem rs114 : trRes Try.prog Try.f114.results.toList = some r114 := by kernel_rfl
theorem fn114 : isFunc Try.prog 114 = true := by kernel_rfl

/- math/bits.Len32 -/
def ann115 : Ann := { muts := [], nilsz := [], oid := [], frz := [], zero := [], ord := [], ap := [], own := [], yl := [], fz := [], imm := [] }
def m115 : MCode := (.seq (.reg [.asg 2 (.c (.lit (.int .i64 0)))])
 (.seq (.seq (.reg [.cpy 3 (.t 0), .bin 4 .geq (.t 3) (.c (.lit (.int .u32 65536)))])
 (.cond (.t 4) (.seq (.reg [.cpy 5 (.t 0), .bin 6 .shr (.t 5) (.c (.lit (.int .u64 16))), .asg 0 (.t 6)])
 (.reg [.asg 2 (.c (.lit (.int .i64 16)))])) .skip))
 (.seq (.seq (.reg [.cpy 7 (.t 0), .bin 8 .geq (.t 7) (.c (.lit (.int .u32 256)))])
 (.cond (.t 8) (.seq (.reg [.cpy 9 (.t 0), .bin 10 .shr (.t 9) (.c (.lit (.int .u64 8))), .asg 0 (.t 10)])
 (.reg [.cpy 11 (.t 2), .bin 12 .add (.t 11) (.c (.lit (.int .i64 8))), .asg 2 (.t 12)])) .skip))
 (.seq (.reg [.cpy 13 (.t 2), .cpy 14 (.t 0), .conv 15 .u8 (.t 14), .idxStr 16 (.c (.lit (.string ⟨#[0, 1, 2, 2, 3, 3, 3, 3, 4, 4, 4, 4, 4, 4, 4, 4, 5, 5, 5, 5, 5, 5, 5, 5, 5, 5, 5, 5, 5, 5, 5, 5, 6, 6, 6, 6, 6, 6, 6, 6, 6, 6, 6, 6, 6, 6, 6, 6, 6, 6, 6, 6, 6, 6, 6, 6, 6, 6, 6, 6, 6, 6, 6, 6, 7, 7, 7, 7, 7, 7, 7, 7, 7, 7, 7, 7, 7, 7, 7, 7, 7, 7, 7, 7, 7, 7, 7, 7, 7, 7, 7, 7, 7, 7, 7, 7, 7, 7, 7, 7, 7, 7, 7, 7, 7, 7, 7, 7, 7, 7, 7, 7, 7, 7, 7, 7, 7, 7, 7, 7, 7, 7, 7, 7, 7, 7, 7, 7, 8, 8, 8, 8, 8, 8, 8, 8, 8, 8, 8, 8, 8, 8, 8, 8, 8, 8, 8, 8, 8, 8, 8, 8, 8, 8, 8, 8, 8, 8, 8, 8, 8, 8, 8, 8, 8, 8, 8, 8, 8, 8, 8, 8, 8, 8, 8, 8, 8, 8, 8, 8, 8, 8, 8, 8, 8, 8, 8, 8, 8, 8, 8, 8, 8, 8, 8, 8, 8, 8, 8, 8, 8, 8, 8, 8, 8, 8, 8, 8, 8, 8, 8, 8, 8, 8, 8, 8, 8, 8, 8, 8, 8, 8, 8, 8, 8, 8, 8, 8, 8, 8, 8, 8, 8, 8, 8, 8, 8, 8, 8, 8, 8, 8, 8, 8, 8, 8, 8, 8, 8, 8, 8, 8, 8, 8, 8, 8]⟩))) (.t 15), .conv 17 .i64 (.t 16), .bin 18 .add (.t 13) (.t 17), .asg 2 (.t 18)])
 .ret))))
def r115 : List MRes := [.tmp 2]
theorem tr115 : Try.f115.body.bind (trC Try.prog ann115 Try.f115.ntmps) = some m115 := by kernel_rfl
theorem rs115 : trRes Try.prog Try.f115.results.toList = some r115 := by kernel_rfl
theorem fn115 : isFunc Try.prog 115 = true := by kernel_rfl

/- math/bits.Len64 -/
def ann116 : Ann := { muts := [], nilsz := [], oid := [], frz := [], zero := [], ord := [], ap := [], own := [], yl := [], fz := [], imm := [] }
def m116 : MCode := (.seq (.reg [.asg 2 (.c (.lit (.int .i64 0)))])
 (.seq (.seq (.reg [.cpy 3 (.t 0), .bin 4 .geq (.t 3) (.c (.lit (.int .u64 4294967296)))])
 (.cond (.t 4) (.seq (.reg [.cpy 5 (.t 0), .bin 6 .shr (.t 5) (.c (.lit (.int .u64 32))), .asg 0 (.t 6)])
 (.reg [.asg 2 (.c (.lit (.int .i64 32)))])) .skip))
 (.seq (.seq (.reg [.cpy 7 (.t 0), .bin 8 .geq (.t 7) (.c (.lit (.int .u64 65536)))])
 (.cond (.t 8) (.seq (.reg [.cpy 9 (.t 0), .bin 10 .shr (.t 9) (.c (.lit (.int .u64 16))), .asg 0 (.t 10)])
 (.reg [.cpy 11 (.t 2), .bin 12 .add (.t 11) (.c (.lit (.int .i64 16))), .asg 2 (.t 12)])) .skip))
 (.seq (.seq (.reg [.cpy 13 (.t 0), .bin 14 .geq (.t 13) (.c (.lit (.int .u64 256)))])
 (.cond (.t 14) (.seq (.reg [.cpy 15 (.t 0), .bin 16 .shr (.t 15) (.c (.lit (.int .u64 8))), .asg 0 (.t 16)])
 (.reg [.cpy 17 (.t 2), .bin 18 .add (.t 17) (.c (.lit (.int .i64 8))), .asg 2 (.t 18)])) .skip))
 (.seq (.reg [.cpy 19 (.t 2), .cpy 20 (.t 0), .conv 21 .u8 (.t 20), .idxStr 22 (.c (.lit (.string ⟨#[0, 1, 2, 2, 3, 3, 3, 3, 4, 4, 4, 4, 4, 4, 4, 4, 5, 5, 5, 5, 5, 5, 5, 5, 5, 5, 5, 5, 5, 5, 5, 5, 6, 6, 6, 6, 6, 6, 6, 6, 6, 6, 6, 6, 6, 6, 6, 6, 6, 6, 6, 6, 6, 6, 6, 6, 6, 6, 6, 6, 6, 6, 6, 6, 7, 7, 7, 7, 7, 7, 7, 7, 7, 7, 7, 7, 7, 7, 7, 7, 7, 7, 7, 7, 7, 7, 7, 7, 7, 7, 7, 7, 7, 7, 7, 7, 7, 7, 7, 7, 7, 7, 7, 7, 7, 7, 7, 7, 7, 7, 7, 7, 7, 7, 7, 7, 7, 7, 7, 7, 7, 7, 7, 7, 7, 7, 7, 7, 8, 8, 8, 8, 8, 8, 8, 8, 8, 8, 8, 8, 8, 8, 8, 8, 8, 8, 8, 8, 8, 8, 8, 8, 8, 8, 8, 8, 8, 8, 8, 8, 8, 8, 8, 8, 8, 8, 8, 8, 8, 8, 8, 8, 8, 8, 8, 8, 8, 8, 8, 8, 8, 8, 8, 8, 8, 8, 8, 8, 8, 8, 8, 8, 8, 8, 8, 8, 8, 8, 8, 8, 8, 8, 8, 8, 8, 8, 8, 8, 8, 8, 8, 8, 8, 8, 8, 8, 8, 8, 8, 8, 8, 8, 8, 8, 8, 8, 8, 8, 8, 8, 8, 8, 8, 8, 8, 8, 8, 8, 8, 8, 8, 8, 8, 8, 8, 8, 8, 8, 8, 8, 8, 8, 8, 8, 8, 8]⟩))) (.t 21), .conv 23 .i64 (.t 22), .bin 24 .add (.t 19) (.t 23), .asg 2 (.t 24)])
 .ret)))))
def r116 : List MRes := [.tmp 2]
theorem tr116 : Try.f116.body.bind (trC Try.prog ann116 Try.f116.ntmps) = some m116 := by kernel_rfl
theorem rs116 : trRes Try.prog Try.f116.results.toList = some r116 := by kernel_rfl
theorem fn116 : isFunc Try.prog 116 = true := by kernel_rfl

/- cmp.isNaN[int] -/
def ann118 : Ann := { muts := [], nilsz := [], oid := [], frz := [], zero := [], ord := [], ap := [], own := [], yl := [], fz := [], imm := [] }
def m118 : MCode := (.seq (.reg [.asg 2 (.c (.lit (.bool false)))])
 (.seq (.reg [.cpy 3 (.t 0), .cpy 4 (.t 0), .bin 5 .neq (.t 3) (.t 4), .asg 2 (.t 5)])
 .ret))
def r118 : List MRes := [.tmp 2]
theorem tr118 : Try.f118.body.bind (trC Try.prog ann118 Try.f118.ntmps) = some m118 := by kernel_rfl
theorem rs118 : trRes Try.prog Try.f118.results.toList = some r118 := by kernel_rfl
theorem fn118 : isFunc Try.prog 118 = true := by kernel_rfl
end Go.Proofs.Ytcfeipphmklakaa

