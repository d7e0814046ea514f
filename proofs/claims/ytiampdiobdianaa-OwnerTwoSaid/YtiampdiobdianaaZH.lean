/- The resolved code of some functions, written by program, each held against the function by the kernel. The reference's Check; what a case without an error is. Contracts: whether an order has all owners that it has to have: the reference's. Plain: the reference's way to the chain of an order goes beside the program's. Contracts: the chain of an order: the reference's. Contracts of the reference: all orders, all chains, Order, Why. -/
import Derived.Test.YtiampdiobdianaaZD
import Derived.KernelRfl
import Derived.Test.YtiampdiobdianaaZE
import Derived.Test.YtiampdiobdianaaZG
namespace Go.Proofs.Ytiampdiobdianaa
open Go.Avm

/- duodecimo/duodecimoref08.Check -/
def ann17 : Ann := { muts := [], nilsz := [(5, 1)], oid := [], frz := [7, 10, 13], zero := [(7, [(.lit (.string ⟨#[]⟩)), (.lit (.int .i64 0)), (.lit (.int .i64 0))]), (10, [(.lit (.int .i64 0)), (.lit (.int .i64 0)), (.lit (.int .i64 0)), (.lit (.int .i64 0))]), (13, [(.lit (.int .i64 0)), (.lit (.int .i64 0)), (.lit (.int .i64 0))]), (52, [(.lit (.string ⟨#[]⟩))])], ord := [], ap := [], own := [], yl := [], fz := [], imm := [], ic := [], cl := [], ylL := [], rl := [] }
def m17 : MCode := (.seq (.reg [.boxI 1 (.t 0) 5, .asg 2 (.c (.lit (.int .i64 0))), .asg 3 (.c (.lit (.int .i64 0))), .asg 4 (.c (.lit (.int .i64 0)))])
 (.seq (.seq (.reg [.addr 14 (.t 1) 0, .load 15 (.t 14) none, .call 16 54 [(.t 15), (.c (.lit (.int .i64 1450))), (.c (.lit (.int .i64 1850)))], .not 17 (.t 16), .cpy 18 (.t 17), .guard 18 false (some 19) (.addr 19 (.t 1) 1), .guard 18 false (some 20) (.load 20 (.t 19) none), .guard 18 false (some 21) (.call 21 54 [(.t 20), (.c (.lit (.int .i64 1450))), (.c (.lit (.int .i64 1850)))]), .guard 18 false (some 22) (.not 22 (.t 21)), .pick 23 (.t 18) (.c (.lit (.bool true))) (.t 22)])
 (.cond (.t 23) (.seq (.reg [.asg 2 (.c (.lit (.int .i64 1))), .asg 3 (.c (.lit (.int .i64 0))), .asg 4 (.c (.lit (.int .i64 7)))])
 .ret) .skip))
 (.seq (.seq (.reg [.addr 24 (.t 1) 1, .load 25 (.t 24) none, .addr 26 (.t 1) 0, .load 27 (.t 26) none, .bin 28 .lss (.t 25) (.t 27)])
 (.cond (.t 28) (.seq (.reg [.asg 2 (.c (.lit (.int .i64 1))), .asg 3 (.c (.lit (.int .i64 0))), .asg 4 (.c (.lit (.int .i64 2)))])
 .ret) .skip))
 (.seq (.seq (.reg [.addr 29 (.t 1) 2, .load 30 (.t 29) none, .len 31 (.t 30), .bin 32 .gtr (.t 31) (.c (.lit (.int .i64 6)))])
 (.cond (.t 32) (.seq (.reg [.asg 2 (.c (.lit (.int .i64 2))), .asg 3 (.c (.lit (.int .i64 0))), .asg 4 (.c (.lit (.int .i64 3)))])
 .ret) .skip))
 (.seq (.reg [.asgNil 5 1])
 (.seq (.seq (.reg [.asg 6 (.c (.lit (.int .i64 0)))])
 (.block 0 (.loop (.seq (.seq (.reg [.cpy 33 (.t 6), .addr 34 (.t 1) 2, .load 35 (.t 34) none, .len 36 (.t 35), .bin 37 .lss (.t 33) (.t 36)])
 (.cond (.t 37) .skip (.exit 0)))
 (.seq (.block 1 (.seq (.reg [.addr 40 (.t 1) 2, .load 41 (.t 40) none, .cpy 42 (.t 6), .idxS 43 (.t 41) (.t 42) 3, .load 44 (.t 43) (some 3), .alloc 7 [(.lit (.string ⟨#[]⟩)), (.lit (.int .i64 0)), (.lit (.int .i64 0))], .storeF 7 (.t 44) 3])
 (.seq (.reg [.addr 45 (.t 7) 0, .load 46 (.t 45) none, .cpy 47 (.t 5), .call 48 55 [(.t 46), (.t 47)], .asg 8 (.t 48)])
 (.seq (.reg [.cpy 49 (.t 5), .addr 50 (.t 7) 0, .load 51 (.t 50) none, .mkS 52 1 1 [(.lit (.string ⟨#[]⟩))] [(0, (.t 51))], .app 53 (.t 49) (.t 52) 1 16, .asg 5 (.t 53)])
 (.seq (.seq (.reg [.cpy 54 (.t 8), .bin 55 .eql (.t 54) (.c (.lit (.int .i64 0))), .cpy 56 (.t 55), .guard 56 true (some 57) (.addr 57 (.t 7) 1), .guard 56 true (some 58) (.load 58 (.t 57) none), .guard 56 true (some 59) (.call 59 54 [(.t 58), (.c (.lit (.int .i64 0))), (.c (.lit (.int .i64 9999)))]), .guard 56 true (some 60) (.not 60 (.t 59)), .guard 56 true (some 61) (.cpy 61 (.t 60)), .guard 61 false (some 62) (.addr 62 (.t 7) 2), .guard 61 false (some 63) (.load 63 (.t 62) none), .guard 61 false (some 64) (.call 64 54 [(.t 63), (.c (.lit (.int .i64 0))), (.c (.lit (.int .i64 9999)))]), .guard 61 false (some 65) (.not 65 (.t 64)), .guard 56 true (some 66) (.pick 66 (.t 61) (.c (.lit (.bool true))) (.t 65)), .pick 67 (.t 56) (.t 66) (.c (.lit (.bool false)))])
 (.cond (.t 67) (.reg [.asg 8 (.c (.lit (.int .i64 7)))]) .skip))
 (.seq (.seq (.reg [.cpy 68 (.t 8), .bin 69 .eql (.t 68) (.c (.lit (.int .i64 0))), .cpy 70 (.t 69), .guard 70 true (some 71) (.addr 71 (.t 7) 1), .guard 70 true (some 72) (.load 72 (.t 71) none), .guard 70 true (some 73) (.addr 73 (.t 7) 2), .guard 70 true (some 74) (.load 74 (.t 73) none), .guard 70 true (some 75) (.bin 75 .gtr (.t 72) (.t 74)), .pick 76 (.t 70) (.t 75) (.c (.lit (.bool false)))])
 (.cond (.t 76) (.reg [.asg 8 (.c (.lit (.int .i64 2)))]) .skip))
 (.seq (.reg [.cpy 77 (.t 8), .bin 78 .neq (.t 77) (.c (.lit (.int .i64 0)))])
 (.cond (.t 78) (.seq (.reg [.cpy 79 (.t 6), .cpy 80 (.t 8), .asg 2 (.c (.lit (.int .i64 2))), .asg 3 (.t 79), .asg 4 (.t 80)])
 .ret) .skip))))))))
 (.reg [.cpy 38 (.t 6), .bin 39 .add (.t 38) (.c (.lit (.int .i64 1))), .asg 6 (.t 39)]))))))
 (.seq (.seq (.reg [.addr 81 (.t 1) 3, .load 82 (.t 81) none, .len 83 (.t 82), .bin 84 .gtr (.t 83) (.c (.lit (.int .i64 8)))])
 (.cond (.t 84) (.seq (.reg [.asg 2 (.c (.lit (.int .i64 3))), .asg 3 (.c (.lit (.int .i64 0))), .asg 4 (.c (.lit (.int .i64 3)))])
 .ret) .skip))
 (.seq (.seq (.reg [.asg 9 (.c (.lit (.int .i64 0)))])
 (.block 2 (.loop (.seq (.seq (.reg [.cpy 85 (.t 9), .addr 86 (.t 1) 3, .load 87 (.t 86) none, .len 88 (.t 87), .bin 89 .lss (.t 85) (.t 88)])
 (.cond (.t 89) .skip (.exit 2)))
 (.seq (.block 3 (.seq (.reg [.addr 92 (.t 1) 3, .load 93 (.t 92) none, .cpy 94 (.t 9), .idxS 95 (.t 93) (.t 94) 4, .load 96 (.t 95) (some 4), .alloc 10 [(.lit (.int .i64 0)), (.lit (.int .i64 0)), (.lit (.int .i64 0)), (.lit (.int .i64 0))], .storeF 10 (.t 96) 4])
 (.seq (.seq (.reg [.addr 97 (.t 10) 0, .load 98 (.t 97) none, .addr 99 (.t 1) 2, .load 100 (.t 99) none, .len 101 (.t 100), .bin 102 .sub (.t 101) (.c (.lit (.int .i64 1))), .call 103 54 [(.t 98), (.c (.lit (.int .i64 0))), (.t 102)], .not 104 (.t 103), .cpy 105 (.t 104), .guard 105 false (some 106) (.addr 106 (.t 10) 3), .guard 105 false (some 107) (.load 107 (.t 106) none), .guard 105 false (some 108) (.bin 108 .neq (.t 107) (.c (.lit (.int .i64 (-1))))), .guard 105 false (some 109) (.cpy 109 (.t 108)), .guard 109 true (some 110) (.addr 110 (.t 10) 3), .guard 109 true (some 111) (.load 111 (.t 110) none), .guard 109 true (some 112) (.cpy 112 (.t 9)), .guard 109 true (some 113) (.bin 113 .sub (.t 112) (.c (.lit (.int .i64 1)))), .guard 109 true (some 114) (.call 114 54 [(.t 111), (.c (.lit (.int .i64 0))), (.t 113)]), .guard 109 true (some 115) (.not 115 (.t 114)), .guard 105 false (some 116) (.pick 116 (.t 109) (.t 115) (.c (.lit (.bool false)))), .pick 117 (.t 105) (.c (.lit (.bool true))) (.t 116)])
 (.cond (.t 117) (.seq (.reg [.cpy 118 (.t 9), .asg 2 (.c (.lit (.int .i64 3))), .asg 3 (.t 118), .asg 4 (.c (.lit (.int .i64 4)))])
 .ret) .skip))
 (.seq (.reg [.addr 119 (.t 10) 1, .load 120 (.t 119) (some 2), .addr 121 (.t 1) 0, .load 122 (.t 121) none, .addr 123 (.t 1) 1, .load 124 (.t 123) none, .call 125 56 [(.t 120), (.t 122), (.t 124)], .asg 11 (.t 125)])
 (.seq (.seq (.reg [.cpy 126 (.t 11), .bin 127 .eql (.t 126) (.c (.lit (.int .i64 0))), .cpy 128 (.t 127), .guard 128 true (some 129) (.addr 129 (.t 10) 1), .guard 128 true (some 130) (.addr 130 (.t 129) 1), .guard 128 true (some 131) (.load 131 (.t 130) none), .guard 128 true (some 132) (.addr 132 (.t 10) 1), .guard 128 true (some 133) (.addr 133 (.t 132) 0), .guard 128 true (some 134) (.load 134 (.t 133) none), .guard 128 true (some 135) (.bin 135 .add (.t 134) (.c (.lit (.int .i64 40)))), .guard 128 true (some 136) (.bin 136 .gtr (.t 131) (.t 135)), .pick 137 (.t 128) (.t 136) (.c (.lit (.bool false)))])
 (.cond (.t 137) (.reg [.asg 11 (.c (.lit (.int .i64 2)))]) .skip))
 (.seq (.reg [.cpy 138 (.t 11), .bin 139 .neq (.t 138) (.c (.lit (.int .i64 0)))])
 (.cond (.t 139) (.seq (.reg [.cpy 140 (.t 9), .cpy 141 (.t 11), .asg 2 (.c (.lit (.int .i64 3))), .asg 3 (.t 140), .asg 4 (.t 141)])
 .ret) .skip)))))))
 (.reg [.cpy 90 (.t 9), .bin 91 .add (.t 90) (.c (.lit (.int .i64 1))), .asg 9 (.t 91)]))))))
 (.seq (.seq (.reg [.addr 142 (.t 1) 4, .load 143 (.t 142) none, .len 144 (.t 143), .bin 145 .gtr (.t 144) (.c (.lit (.int .i64 4)))])
 (.cond (.t 145) (.seq (.reg [.asg 2 (.c (.lit (.int .i64 4))), .asg 3 (.c (.lit (.int .i64 0))), .asg 4 (.c (.lit (.int .i64 3)))])
 .ret) .skip))
 (.seq (.seq (.reg [.asg 12 (.c (.lit (.int .i64 0)))])
 (.block 4 (.loop (.seq (.seq (.reg [.cpy 146 (.t 12), .addr 147 (.t 1) 4, .load 148 (.t 147) none, .len 149 (.t 148), .bin 150 .lss (.t 146) (.t 149)])
 (.cond (.t 150) .skip (.exit 4)))
 (.seq (.block 5 (.seq (.reg [.addr 153 (.t 1) 4, .load 154 (.t 153) none, .cpy 155 (.t 12), .idxS 156 (.t 154) (.t 155) 3, .load 157 (.t 156) (some 3), .alloc 13 [(.lit (.int .i64 0)), (.lit (.int .i64 0)), (.lit (.int .i64 0))], .storeF 13 (.t 157) 3])
 (.seq (.seq (.reg [.addr 158 (.t 13) 0, .load 159 (.t 158) none, .addr 160 (.t 1) 0, .load 161 (.t 160) none, .addr 162 (.t 1) 1, .load 163 (.t 162) none, .call 164 54 [(.t 159), (.t 161), (.t 163)], .not 165 (.t 164)])
 (.cond (.t 165) (.seq (.reg [.cpy 166 (.t 12), .asg 2 (.c (.lit (.int .i64 4))), .asg 3 (.t 166), .asg 4 (.c (.lit (.int .i64 7)))])
 .ret) .skip))
 (.seq (.seq (.reg [.addr 167 (.t 13) 1, .load 168 (.t 167) none, .bin 169 .neq (.t 168) (.c (.lit (.int .i64 (-1)))), .cpy 170 (.t 169), .guard 170 true (some 171) (.addr 171 (.t 13) 1), .guard 170 true (some 172) (.load 172 (.t 171) none), .guard 170 true (some 173) (.addr 173 (.t 1) 2), .guard 170 true (some 174) (.load 174 (.t 173) none), .guard 170 true (some 175) (.len 175 (.t 174)), .guard 170 true (some 176) (.bin 176 .sub (.t 175) (.c (.lit (.int .i64 1)))), .guard 170 true (some 177) (.call 177 54 [(.t 172), (.c (.lit (.int .i64 0))), (.t 176)]), .guard 170 true (some 178) (.not 178 (.t 177)), .pick 179 (.t 170) (.t 178) (.c (.lit (.bool false))), .cpy 180 (.t 179), .guard 180 false (some 181) (.addr 181 (.t 13) 2), .guard 180 false (some 182) (.load 182 (.t 181) none), .guard 180 false (some 183) (.bin 183 .neq (.t 182) (.c (.lit (.int .i64 (-1))))), .guard 180 false (some 184) (.cpy 184 (.t 183)), .guard 184 true (some 185) (.addr 185 (.t 13) 2), .guard 184 true (some 186) (.load 186 (.t 185) none), .guard 184 true (some 187) (.addr 187 (.t 1) 2), .guard 184 true (some 188) (.load 188 (.t 187) none), .guard 184 true (some 189) (.len 189 (.t 188)), .guard 184 true (some 190) (.bin 190 .sub (.t 189) (.c (.lit (.int .i64 1)))), .guard 184 true (some 191) (.call 191 54 [(.t 186), (.c (.lit (.int .i64 0))), (.t 190)]), .guard 184 true (some 192) (.not 192 (.t 191)), .guard 180 false (some 193) (.pick 193 (.t 184) (.t 192) (.c (.lit (.bool false)))), .pick 194 (.t 180) (.c (.lit (.bool true))) (.t 193)])
 (.cond (.t 194) (.seq (.reg [.cpy 195 (.t 12), .asg 2 (.c (.lit (.int .i64 4))), .asg 3 (.t 195), .asg 4 (.c (.lit (.int .i64 4)))])
 .ret) .skip))
 (.seq (.reg [.addr 196 (.t 13) 1, .load 197 (.t 196) none, .addr 198 (.t 13) 2, .load 199 (.t 198) none, .bin 200 .eql (.t 197) (.t 199)])
 (.cond (.t 200) (.seq (.reg [.cpy 201 (.t 12), .asg 2 (.c (.lit (.int .i64 4))), .asg 3 (.t 201), .asg 4 (.c (.lit (.int .i64 2)))])
 .ret) .skip))))))
 (.reg [.cpy 151 (.t 12), .bin 152 .add (.t 151) (.c (.lit (.int .i64 1))), .asg 12 (.t 152)]))))))
 (.seq (.reg [.asg 2 (.c (.lit (.int .i64 0))), .asg 3 (.c (.lit (.int .i64 0))), .asg 4 (.c (.lit (.int .i64 0)))])
 .ret)))))))))))
def r17 : List MRes := [.tmp 2, .tmp 3, .tmp 4]
theorem tr17 : Try.f17.body.bind (trC Try.prog ann17 Try.f17.ntmps) = some m17 := by kernel_rfl
theorem rs17 : trRes Try.prog Try.f17.results.toList = some r17 := by kernel_rfl
theorem fn17 : isFunc Try.prog 17 = true := by kernel_rfl

/- duodecimo/duodecimoref08.Orders -/
def ann80 : Ann := { muts := [], nilsz := [(2, 1), (6, 1)], oid := [], frz := [], zero := [(9, [(.slice 1 [] 0)]), (10, [(.slice 1 [] 0)]), (35, [(.lit (.int .i64 0))]), (42, [(.lit (.int .i64 0))]), (44, [(.slice 1 [] 0)])], ord := [], ap := [], own := [], yl := [], fz := [], imm := [], ic := [], cl := [], ylL := [], rl := [] }
def m80 : MCode := (.seq (.reg [.asgNil 2 1])
 (.seq (.reg [.mkS 9 1 1 [(.slice 1 [] 0)] [(0, (.c (.slice 1 [] 0)))], .asg 3 (.t 9)])
 (.seq (.reg [.mkS 10 1 1 [(.slice 1 [] 0)] [(0, (.c (.slice 1 [] 0)))], .asg 4 (.t 10)])
 (.seq (.seq (.reg [.asg 5 (.c (.lit (.int .i64 1)))])
 (.block 0 (.loop (.seq (.seq (.reg [.cpy 11 (.t 5), .cpy 12 (.t 0), .bin 13 .leq (.t 11) (.t 12)])
 (.cond (.t 13) .skip (.exit 0)))
 (.seq (.block 1 (.seq (.reg [.asgNil 6 1])
 (.seq (.seq (.reg [.asg 7 (.c (.lit (.int .i64 0)))])
 (.block 2 (.loop (.seq (.seq (.reg [.cpy 16 (.t 7), .cpy 17 (.t 4), .len 18 (.t 17), .bin 19 .lss (.t 16) (.t 18)])
 (.cond (.t 19) .skip (.exit 2)))
 (.seq (.block 3 (.seq (.reg [.asg 8 (.c (.lit (.int .i64 0)))])
 (.block 4 (.loop (.seq (.seq (.reg [.cpy 22 (.t 8), .cpy 23 (.t 0), .bin 24 .lss (.t 22) (.t 23)])
 (.cond (.t 24) .skip (.exit 4)))
 (.seq (.block 5 (.seq (.reg [.cpy 27 (.t 4), .cpy 28 (.t 7), .idxS 29 (.t 27) (.t 28) 1, .load 30 (.t 29) none, .cpy 31 (.t 8), .call 32 46 [(.t 30), (.t 31)], .not 33 (.t 32)])
 (.cond (.t 33) (.reg [.cpy 34 (.t 6), .mkS 35 0 1 [(.lit (.int .i64 0))] [], .cpy 36 (.t 4), .cpy 37 (.t 7), .idxS 38 (.t 36) (.t 37) 1, .load 39 (.t 38) none, .app 40 (.t 35) (.t 39) 1 8, .cpy 41 (.t 8), .mkS 42 1 1 [(.lit (.int .i64 0))] [(0, (.t 41))], .app 43 (.t 40) (.t 42) 1 8, .mkS 44 1 1 [(.slice 1 [] 0)] [(0, (.t 43))], .app 45 (.t 34) (.t 44) 1 24, .asg 6 (.t 45)]) .skip)))
 (.reg [.cpy 25 (.t 8), .bin 26 .add (.t 25) (.c (.lit (.int .i64 1))), .asg 8 (.t 26)])))))))
 (.reg [.cpy 20 (.t 7), .bin 21 .add (.t 20) (.c (.lit (.int .i64 1))), .asg 7 (.t 21)]))))))
 (.seq (.reg [.cpy 46 (.t 6), .asg 4 (.t 46)])
 (.reg [.cpy 47 (.t 3), .cpy 48 (.t 6), .app 49 (.t 47) (.t 48) 1 24, .asg 3 (.t 49)])))))
 (.reg [.cpy 14 (.t 5), .bin 15 .add (.t 14) (.c (.lit (.int .i64 1))), .asg 5 (.t 15)]))))))
 (.seq (.reg [.cpy 50 (.t 3), .asg 2 (.t 50)])
 .ret)))))
def r80 : List MRes := [.tmp 2]
theorem tr80 : Try.f80.body.bind (trC Try.prog ann80 Try.f80.ntmps) = some m80 := by kernel_rfl
theorem rs80 : trRes Try.prog Try.f80.results.toList = some r80 := by kernel_rfl
theorem fn80 : isFunc Try.prog 80 = true := by kernel_rfl

/- duodecimo/duodecimoref08.needed -/
def ann91 : Ann := { muts := [], nilsz := [], oid := [], frz := [7], zero := [(7, [(.lit (.int .i64 0)), (.lit (.int .i64 0)), (.lit (.int .i64 0))])], ord := [(12, [0, 1, 2, 3, 4, 5, 6, 7, 8, 9, 10, 11, 12, 13, 14, 15, 16, 17, 18, 19])], ap := [], own := [], yl := [], fz := [], imm := [], ic := [], cl := [], ylL := [], rl := [] }
def m91 : MCode := (.seq (.reg [.boxI 2 (.t 0) 5, .asg 4 (.c (.lit (.bool false)))])
 (.seq (.seq (.reg [.asg 5 (.c (.lit (.int .i64 0)))])
 (.block 0 (.loop (.seq (.seq (.reg [.cpy 8 (.t 5), .addr 9 (.t 2) 3, .load 10 (.t 9) none, .len 11 (.t 10), .bin 12 .lss (.t 8) (.t 11)])
 (.cond (.t 12) .skip (.exit 0)))
 (.seq (.block 1 (.seq (.reg [.cpy 15 (.t 1), .addr 16 (.t 2) 3, .load 17 (.t 16) none, .cpy 18 (.t 5), .idxS 19 (.t 17) (.t 18) 4, .addr 20 (.t 19) 0, .load 21 (.t 20) none, .call 22 69 [(.t 15), (.t 21)], .bin 23 .lss (.t 22) (.c (.lit (.int .i64 0)))])
 (.cond (.t 23) (.seq (.reg [.asg 4 (.c (.lit (.bool false)))])
 .ret) .skip)))
 (.reg [.cpy 13 (.t 5), .bin 14 .add (.t 13) (.c (.lit (.int .i64 1))), .asg 5 (.t 14)]))))))
 (.seq (.seq (.reg [.asg 6 (.c (.lit (.int .i64 0)))])
 (.block 2 (.loop (.seq (.seq (.reg [.cpy 24 (.t 6), .addr 25 (.t 2) 4, .load 26 (.t 25) none, .len 27 (.t 26), .bin 28 .lss (.t 24) (.t 27)])
 (.cond (.t 28) .skip (.exit 2)))
 (.seq (.block 3 (.seq (.reg [.addr 31 (.t 2) 4, .load 32 (.t 31) none, .cpy 33 (.t 6), .idxS 34 (.t 32) (.t 33) 3, .load 35 (.t 34) (some 3), .alloc 7 [(.lit (.int .i64 0)), (.lit (.int .i64 0)), (.lit (.int .i64 0))], .storeF 7 (.t 35) 3])
 (.seq (.seq (.reg [.addr 36 (.t 7) 1, .load 37 (.t 36) none, .bin 38 .neq (.t 37) (.c (.lit (.int .i64 (-1)))), .cpy 39 (.t 38), .guard 39 true (some 40) (.cpy 40 (.t 1)), .guard 39 true (some 41) (.addr 41 (.t 7) 1), .guard 39 true (some 42) (.load 42 (.t 41) none), .guard 39 true (some 43) (.call 43 69 [(.t 40), (.t 42)]), .guard 39 true (some 44) (.bin 44 .lss (.t 43) (.c (.lit (.int .i64 0)))), .pick 45 (.t 39) (.t 44) (.c (.lit (.bool false))), .cpy 46 (.t 45), .guard 46 false (some 47) (.addr 47 (.t 7) 2), .guard 46 false (some 48) (.load 48 (.t 47) none), .guard 46 false (some 49) (.bin 49 .neq (.t 48) (.c (.lit (.int .i64 (-1))))), .guard 46 false (some 50) (.cpy 50 (.t 49)), .guard 50 true (some 51) (.cpy 51 (.t 1)), .guard 50 true (some 52) (.addr 52 (.t 7) 2), .guard 50 true (some 53) (.load 53 (.t 52) none), .guard 50 true (some 54) (.call 54 69 [(.t 51), (.t 53)]), .guard 50 true (some 55) (.bin 55 .lss (.t 54) (.c (.lit (.int .i64 0)))), .guard 46 false (some 56) (.pick 56 (.t 50) (.t 55) (.c (.lit (.bool false)))), .pick 57 (.t 46) (.c (.lit (.bool true))) (.t 56)])
 (.cond (.t 57) (.seq (.reg [.asg 4 (.c (.lit (.bool false)))])
 .ret) .skip))
 (.seq (.reg [.addr 58 (.t 7) 1, .load 59 (.t 58) none, .bin 60 .neq (.t 59) (.c (.lit (.int .i64 (-1)))), .cpy 61 (.t 60), .guard 61 true (some 62) (.addr 62 (.t 7) 2), .guard 61 true (some 63) (.load 63 (.t 62) none), .guard 61 true (some 64) (.bin 64 .neq (.t 63) (.c (.lit (.int .i64 (-1))))), .pick 65 (.t 61) (.t 64) (.c (.lit (.bool false))), .cpy 66 (.t 65), .guard 66 true (some 67) (.cpy 67 (.t 1)), .guard 66 true (some 68) (.addr 68 (.t 7) 2), .guard 66 true (some 69) (.load 69 (.t 68) none), .guard 66 true (some 70) (.call 70 69 [(.t 67), (.t 69)]), .guard 66 true (some 71) (.cpy 71 (.t 1)), .guard 66 true (some 72) (.addr 72 (.t 7) 1), .guard 66 true (some 73) (.load 73 (.t 72) none), .guard 66 true (some 74) (.call 74 69 [(.t 71), (.t 73)]), .guard 66 true (some 75) (.bin 75 .add (.t 74) (.c (.lit (.int .i64 1)))), .guard 66 true (some 76) (.bin 76 .neq (.t 70) (.t 75)), .pick 77 (.t 66) (.t 76) (.c (.lit (.bool false)))])
 (.cond (.t 77) (.seq (.reg [.asg 4 (.c (.lit (.bool false)))])
 .ret) .skip)))))
 (.reg [.cpy 29 (.t 6), .bin 30 .add (.t 29) (.c (.lit (.int .i64 1))), .asg 6 (.t 30)]))))))
 (.seq (.reg [.asg 4 (.c (.lit (.bool true)))])
 .ret))))
def r91 : List MRes := [.tmp 4]
theorem tr91 : Try.f91.body.bind (trC Try.prog ann91 Try.f91.ntmps) = some m91 := by kernel_rfl
theorem rs91 : trRes Try.prog Try.f91.results.toList = some r91 := by kernel_rfl
theorem fn91 : isFunc Try.prog 91 = true := by kernel_rfl

/- duodecimo/duodecimoref08.Solve -/
def ann62 : Ann := { muts := [6, 194], nilsz := [], oid := [], frz := [15, 17], zero := [(4, [(.lit (.bool false)), (.slice 3 [] 5001), (.lit (.int .i64 0))]), (15, [(.lit (.int .i64 0)), (.lit (.int .i64 0)), (.lit (.int .i64 0)), (.lit (.int .i64 0))]), (17, [(.lit (.int .i64 0)), (.lit (.int .i64 0)), (.lit (.int .i64 0))]), (24, [(.lit (.bool false)), (.slice 3 [] 0), (.lit (.int .i64 0))]), (28, [(.lit (.int .i64 0))]), (120, [(.lit (.bool false)), (.slice 3 [] 0), (.lit (.int .i64 0))]), (142, [(.lit (.bool false)), (.slice 3 [] 0), (.lit (.int .i64 0))]), (171, [(.lit (.bool false)), (.slice 3 [] 0), (.lit (.int .i64 0))]), (187, [(.lit (.bool false)), (.slice 3 [] 0), (.lit (.int .i64 0))]), (192, [(.lit (.int .i64 0)), (.lit (.int .i64 0)), (.lit (.int .i64 0))]), (193, [(.lit (.int .i64 0)), (.lit (.int .i64 0)), (.lit (.int .i64 0))]), (194, [(.lit (.int .i64 0)), (.lit (.int .i64 0)), (.lit (.int .i64 0))]), (199, [(.lit (.bool false)), (.slice 3 [] 0), (.lit (.int .i64 0))]), (260, [(.lit (.bool false)), (.slice 3 [] 0), (.lit (.int .i64 0))])], ord := [(11, [0, 1, 2, 3, 4, 5, 6, 7, 8, 9]), (27, [0, 1, 2, 3, 4, 5, 6, 7, 8, 9, 10, 11, 12, 13]), (28, [0, 1, 2, 3, 4, 5, 6, 7]), (38, [0, 1, 2, 3, 4, 5, 6, 7, 8, 9]), (46, [0, 1, 2, 3, 4, 5, 6]), (51, [0, 1, 2, 3, 4, 5, 6, 7, 8, 9, 10, 11]), (53, [0, 1, 2, 3, 4, 5, 6, 7, 8, 9, 10, 11, 12, 13, 14, 15, 16]), (54, [0, 1, 2, 3, 4, 5, 6, 7, 8, 9])], ap := [(133, []), (245, [])], own := [11], yl := [], fz := [(54, [6])], imm := [], ic := [], cl := [], ylL := [], rl := [] }
def m62 : MCode := (.seq (.reg [.boxI 2 (.t 0) 5, .alloc 4 [(.lit (.bool false)), (.slice 3 [] 5001), (.lit (.int .i64 0))]])
 (.seq (.seq (.reg [.load 20 (.t 2) (some 5), .cpy 21 (.t 1), .call 22 91 [(.t 20), (.t 21)], .not 23 (.t 22)])
 (.cond (.t 23) (.seq (.reg [.build 24 [(.lit (.bool false)), (.slice 3 [] 0), (.lit (.int .i64 0))] [], .store (.t 4) (.t 24) 3 0])
 .ret) .skip))
 (.seq (.reg [.addr 25 (.t 2) 3, .load 26 (.t 25) none, .len 27 (.t 26), .mkM 28 (.t 27) (.t 27) 1 8 [(.lit (.int .i64 0))], .asg 5 (.t 28)])
 (.seq (.reg [.asg 6 (.c (.lit (.slice none 0 0)))])
 (.seq (.reg [.addr 29 (.t 2) 0, .load 30 (.t 29) none, .asg 7 (.t 30)])
 (.seq (.seq (.reg [.asg 8 (.c (.lit (.int .i64 0)))])
 (.block 0 (.loop (.seq (.seq (.reg [.cpy 31 (.t 8), .cpy 32 (.t 1), .len 33 (.t 32), .bin 34 .lss (.t 31) (.t 33)])
 (.cond (.t 34) .skip (.exit 0)))
 (.seq (.block 1 (.seq (.reg [.cpy 37 (.t 1), .cpy 38 (.t 8), .idxS 39 (.t 37) (.t 38) 1, .load 40 (.t 39) none, .asg 9 (.t 40)])
 (.seq (.reg [.cpy 41 (.t 7), .addr 42 (.t 2) 2, .load 43 (.t 42) none, .cpy 44 (.t 9), .idxS 45 (.t 43) (.t 44) 3, .addr 46 (.t 45) 1, .load 47 (.t 46) none, .maxI 48 (.t 41) (.t 47), .asg 10 (.t 48)])
 (.seq (.reg [.addr 49 (.t 2) 2, .load 50 (.t 49) none, .cpy 51 (.t 9), .idxS 52 (.t 50) (.t 51) 3, .addr 53 (.t 52) 2, .load 54 (.t 53) none, .addr 55 (.t 2) 1, .load 56 (.t 55) none, .minI 57 (.t 54) (.t 56), .asg 11 (.t 57)])
 (.seq (.seq (.reg [.asg 12 (.c (.lit (.int .i64 0)))])
 (.block 2 (.loop (.seq (.seq (.reg [.cpy 58 (.t 12), .addr 59 (.t 2) 4, .load 60 (.t 59) none, .len 61 (.t 60), .bin 62 .lss (.t 58) (.t 61)])
 (.cond (.t 62) .skip (.exit 2)))
 (.seq (.block 3 (.seq (.reg [.addr 65 (.t 2) 4, .load 66 (.t 65) none, .cpy 67 (.t 12), .idxS 68 (.t 66) (.t 67) 3, .addr 69 (.t 68) 2, .load 70 (.t 69) none, .cpy 71 (.t 9), .bin 72 .eql (.t 70) (.t 71)])
 (.cond (.t 72) (.reg [.cpy 73 (.t 10), .addr 74 (.t 2) 4, .load 75 (.t 74) none, .cpy 76 (.t 12), .idxS 77 (.t 75) (.t 76) 3, .addr 78 (.t 77) 0, .load 79 (.t 78) none, .maxI 80 (.t 73) (.t 79), .asg 10 (.t 80)]) .skip)))
 (.reg [.cpy 63 (.t 12), .bin 64 .add (.t 63) (.c (.lit (.int .i64 1))), .asg 12 (.t 64)]))))))
 (.seq (.reg [.cpy 81 (.t 10), .asg 13 (.t 81)])
 (.seq (.seq (.reg [.asg 14 (.c (.lit (.int .i64 0)))])
 (.block 4 (.loop (.seq (.seq (.reg [.cpy 82 (.t 14), .addr 83 (.t 2) 3, .load 84 (.t 83) none, .len 85 (.t 84), .bin 86 .lss (.t 82) (.t 85)])
 (.cond (.t 86) .skip (.exit 4)))
 (.seq (.block 5 (.seq (.reg [.addr 89 (.t 2) 3, .load 90 (.t 89) none, .cpy 91 (.t 14), .idxS 92 (.t 90) (.t 91) 4, .load 93 (.t 92) (some 4), .alloc 15 [(.lit (.int .i64 0)), (.lit (.int .i64 0)), (.lit (.int .i64 0)), (.lit (.int .i64 0))], .storeF 15 (.t 93) 4])
 (.seq (.seq (.reg [.addr 94 (.t 15) 0, .load 95 (.t 94) none, .cpy 96 (.t 9), .bin 97 .neq (.t 95) (.t 96)])
 (.cond (.t 97) (.exit 5) .skip))
 (.seq (.reg [.cpy 98 (.t 5), .cpy 99 (.t 14), .addr 100 (.t 15) 1, .addr 101 (.t 100) 0, .load 102 (.t 101) none, .cpy 103 (.t 10), .maxI 104 (.t 102) (.t 103), .idxS 105 (.t 98) (.t 99) 1, .store (.t 105) (.t 104) 1 0])
 (.seq (.seq (.reg [.addr 106 (.t 15) 3, .load 107 (.t 106) none, .bin 108 .neq (.t 107) (.c (.lit (.int .i64 (-1))))])
 (.cond (.t 108) (.seq (.seq (.reg [.cpy 109 (.t 1), .addr 110 (.t 2) 3, .load 111 (.t 110) none, .addr 112 (.t 15) 3, .load 113 (.t 112) none, .idxS 114 (.t 111) (.t 113) 4, .addr 115 (.t 114) 0, .load 116 (.t 115) none, .call 117 69 [(.t 109), (.t 116)], .cpy 118 (.t 8), .bin 119 .gtr (.t 117) (.t 118)])
 (.cond (.t 119) (.seq (.reg [.build 120 [(.lit (.bool false)), (.slice 3 [] 0), (.lit (.int .i64 0))] [], .store (.t 4) (.t 120) 3 0])
 .ret) .skip))
 (.reg [.cpy 121 (.t 5), .cpy 122 (.t 14), .cpy 123 (.t 5), .cpy 124 (.t 14), .idxS 125 (.t 123) (.t 124) 1, .load 126 (.t 125) none, .cpy 127 (.t 5), .addr 128 (.t 15) 3, .load 129 (.t 128) none, .idxS 130 (.t 127) (.t 129) 1, .load 131 (.t 130) none, .maxI 132 (.t 126) (.t 131), .idxS 133 (.t 121) (.t 122) 1, .apart [] (.t 133) (.store (.t 133) (.t 132) 1 0)])) .skip))
 (.seq (.seq (.reg [.cpy 134 (.t 5), .cpy 135 (.t 14), .idxS 136 (.t 134) (.t 135) 1, .load 137 (.t 136) none, .addr 138 (.t 15) 1, .addr 139 (.t 138) 1, .load 140 (.t 139) none, .bin 141 .gtr (.t 137) (.t 140)])
 (.cond (.t 141) (.seq (.reg [.build 142 [(.lit (.bool false)), (.slice 3 [] 0), (.lit (.int .i64 0))] [], .store (.t 4) (.t 142) 3 0])
 .ret) .skip))
 (.reg [.cpy 143 (.t 13), .cpy 144 (.t 5), .cpy 145 (.t 14), .idxS 146 (.t 144) (.t 145) 1, .load 147 (.t 146) none, .maxI 148 (.t 143) (.t 147), .asg 13 (.t 148)])))))))
 (.reg [.cpy 87 (.t 14), .bin 88 .add (.t 87) (.c (.lit (.int .i64 1))), .asg 14 (.t 88)]))))))
 (.seq (.seq (.reg [.asg 16 (.c (.lit (.int .i64 0)))])
 (.block 6 (.loop (.seq (.seq (.reg [.cpy 149 (.t 16), .addr 150 (.t 2) 4, .load 151 (.t 150) none, .len 152 (.t 151), .bin 153 .lss (.t 149) (.t 152)])
 (.cond (.t 153) .skip (.exit 6)))
 (.seq (.block 7 (.seq (.reg [.addr 156 (.t 2) 4, .load 157 (.t 156) none, .cpy 158 (.t 16), .idxS 159 (.t 157) (.t 158) 3, .load 160 (.t 159) (some 3), .alloc 17 [(.lit (.int .i64 0)), (.lit (.int .i64 0)), (.lit (.int .i64 0))], .storeF 17 (.t 160) 3])
 (.seq (.seq (.reg [.addr 161 (.t 17) 2, .load 162 (.t 161) none, .cpy 163 (.t 9), .bin 164 .eql (.t 162) (.t 163), .cpy 165 (.t 164), .guard 165 true (some 166) (.cpy 166 (.t 10)), .guard 165 true (some 167) (.addr 167 (.t 17) 0), .guard 165 true (some 168) (.load 168 (.t 167) none), .guard 165 true (some 169) (.bin 169 .neq (.t 166) (.t 168)), .pick 170 (.t 165) (.t 169) (.c (.lit (.bool false)))])
 (.cond (.t 170) (.seq (.reg [.build 171 [(.lit (.bool false)), (.slice 3 [] 0), (.lit (.int .i64 0))] [], .store (.t 4) (.t 171) 3 0])
 .ret) .skip))
 (.seq (.reg [.addr 172 (.t 17) 1, .load 173 (.t 172) none, .cpy 174 (.t 9), .bin 175 .eql (.t 173) (.t 174)])
 (.cond (.t 175) (.reg [.cpy 176 (.t 13), .addr 177 (.t 17) 0, .load 178 (.t 177) none, .maxI 179 (.t 176) (.t 178), .cpy 180 (.t 11), .addr 181 (.t 17) 0, .load 182 (.t 181) none, .minI 183 (.t 180) (.t 182), .cpyE 13 (.t 179), .asg 11 (.t 183)]) .skip)))))
 (.reg [.cpy 154 (.t 16), .bin 155 .add (.t 154) (.c (.lit (.int .i64 1))), .asg 16 (.t 155)]))))))
 (.seq (.seq (.reg [.cpy 184 (.t 13), .cpy 185 (.t 11), .bin 186 .gtr (.t 184) (.t 185)])
 (.cond (.t 186) (.seq (.reg [.build 187 [(.lit (.bool false)), (.slice 3 [] 0), (.lit (.int .i64 0))] [], .store (.t 4) (.t 187) 3 0])
 .ret) .skip))
 (.seq (.reg [.cpy 188 (.t 6), .cpy 189 (.t 9), .cpy 190 (.t 10), .cpy 191 (.t 11), .build 192 [(.lit (.int .i64 0)), (.lit (.int .i64 0)), (.lit (.int .i64 0))] [(0, 1, (.t 189)), (1, 1, (.t 190)), (2, 1, (.t 191))], .mkS 193 1 3 [(.lit (.int .i64 0)), (.lit (.int .i64 0)), (.lit (.int .i64 0))] [(0, (.t 192))], .appM 194 (.t 188) (.t 193) 3 24 [(.lit (.int .i64 0)), (.lit (.int .i64 0)), (.lit (.int .i64 0))], .asg 6 (.t 194)])
 (.reg [.cpy 195 (.t 13), .asg 7 (.t 195)])))))))))))
 (.reg [.cpy 35 (.t 8), .bin 36 .add (.t 35) (.c (.lit (.int .i64 1))), .asg 8 (.t 36)]))))))
 (.seq (.seq (.reg [.cpy 196 (.t 6), .len 197 (.t 196), .bin 198 .eql (.t 197) (.c (.lit (.int .i64 0)))])
 (.cond (.t 198) (.seq (.reg [.build 199 [(.lit (.bool false)), (.slice 3 [] 0), (.lit (.int .i64 0))] [(0, 1, (.c (.lit (.bool true)))), (2, 1, (.c (.lit (.int .i64 1))))], .store (.t 4) (.t 199) 3 0])
 .ret) .skip))
 (.seq (.reg [.asg 18 (.c (.lit (.int .i64 0)))])
 (.seq (.seq (.reg [.cpy 200 (.t 6), .idxS 201 (.t 200) (.c (.lit (.int .i64 0))) 3, .addr 202 (.t 201) 1, .load 203 (.t 202) none, .addr 204 (.t 2) 0, .load 205 (.t 204) none, .bin 206 .gtr (.t 203) (.t 205)])
 (.cond (.t 206) (.reg [.cpy 207 (.t 18), .bin 208 .add (.t 207) (.c (.lit (.int .i64 1))), .asg 18 (.t 208)]) .skip))
 (.seq (.seq (.reg [.asg 19 (.c (.lit (.int .i64 0)))])
 (.block 8 (.loop (.seq (.seq (.reg [.cpy 209 (.t 19), .bin 210 .add (.t 209) (.c (.lit (.int .i64 1))), .cpy 211 (.t 6), .len 212 (.t 211), .bin 213 .lss (.t 210) (.t 212)])
 (.cond (.t 213) .skip (.exit 8)))
 (.seq (.block 9 (.seq (.seq (.reg [.cpy 216 (.t 6), .cpy 217 (.t 19), .bin 218 .add (.t 217) (.c (.lit (.int .i64 1))), .idxS 219 (.t 216) (.t 218) 3, .addr 220 (.t 219) 1, .load 221 (.t 220) none, .cpy 222 (.t 6), .cpy 223 (.t 19), .idxS 224 (.t 222) (.t 223) 3, .addr 225 (.t 224) 2, .load 226 (.t 225) none, .bin 227 .gtr (.t 221) (.t 226)])
 (.cond (.t 227) (.reg [.cpy 228 (.t 18), .bin 229 .add (.t 228) (.c (.lit (.int .i64 1))), .asg 18 (.t 229)]) .skip))
 (.reg [.cpy 230 (.t 6), .cpy 231 (.t 19), .cpy 232 (.t 6), .cpy 233 (.t 19), .idxS 234 (.t 232) (.t 233) 3, .addr 235 (.t 234) 2, .load 236 (.t 235) none, .cpy 237 (.t 6), .cpy 238 (.t 19), .bin 239 .add (.t 238) (.c (.lit (.int .i64 1))), .idxS 240 (.t 237) (.t 239) 3, .addr 241 (.t 240) 1, .load 242 (.t 241) none, .minI 243 (.t 236) (.t 242), .idxS 244 (.t 230) (.t 231) 3, .addr 245 (.t 244) 2, .apart [] (.t 245) (.store (.t 245) (.t 243) 1 0)])))
 (.reg [.cpy 214 (.t 19), .bin 215 .add (.t 214) (.c (.lit (.int .i64 1))), .asg 19 (.t 215)]))))))
 (.seq (.seq (.reg [.cpy 246 (.t 6), .cpy 247 (.t 6), .len 248 (.t 247), .bin 249 .sub (.t 248) (.c (.lit (.int .i64 1))), .idxS 250 (.t 246) (.t 249) 3, .addr 251 (.t 250) 2, .load 252 (.t 251) none, .addr 253 (.t 2) 1, .load 254 (.t 253) none, .bin 255 .lss (.t 252) (.t 254), .frz 6])
 (.cond (.t 255) (.reg [.cpy 256 (.t 18), .bin 257 .add (.t 256) (.c (.lit (.int .i64 1))), .asg 18 (.t 257)]) .skip))
 (.seq (.reg [.cpy 258 (.t 6), .cpy 259 (.t 18), .build 260 [(.lit (.bool false)), (.slice 3 [] 0), (.lit (.int .i64 0))] [(0, 1, (.c (.lit (.bool true)))), (1, 1, (.t 258)), (2, 1, (.t 259))], .store (.t 4) (.t 260) 3 0])
 .ret))))))))))))
def r62 : List MRes := [.cell 4 (some 3)]
theorem tr62 : Try.f62.body.bind (trC Try.prog ann62 Try.f62.ntmps) = some m62 := by kernel_rfl
theorem rs62 : trRes Try.prog Try.f62.results.toList = some r62 := by kernel_rfl
theorem fn62 : isFunc Try.prog 62 = true := by kernel_rfl

/- duodecimo/duodecimoref08.All -/
def ann72 : Ann := { muts := [], nilsz := [(2, 1), (4, 1)], oid := [], frz := [], zero := [(28, [(.slice 1 [] 0)])], ord := [(6, [0, 1, 2, 3, 4, 5, 6])], ap := [], own := [], yl := [], fz := [], imm := [], ic := [], cl := [], ylL := [], rl := [] }
def m72 : MCode := (.seq (.reg [.boxI 1 (.t 0) 5, .asgNil 2 1])
 (.seq (.reg [.addr 6 (.t 1) 2, .load 7 (.t 6) none, .len 8 (.t 7), .call 9 80 [(.t 8)], .asg 3 (.t 9)])
 (.seq (.reg [.asgNil 4 1])
 (.seq (.seq (.reg [.asg 5 (.c (.lit (.int .i64 0)))])
 (.block 0 (.loop (.seq (.seq (.reg [.cpy 10 (.t 5), .cpy 11 (.t 3), .len 12 (.t 11), .bin 13 .lss (.t 10) (.t 12)])
 (.cond (.t 13) .skip (.exit 0)))
 (.seq (.block 1 (.seq (.reg [.load 16 (.t 1) (some 5), .cpy 17 (.t 3), .cpy 18 (.t 5), .idxS 19 (.t 17) (.t 18) 1, .load 20 (.t 19) none, .call 21 62 [(.t 16), (.t 20)], .fld 22 (.t 21) 0 none])
 (.cond (.t 22) (.reg [.cpy 23 (.t 4), .cpy 24 (.t 3), .cpy 25 (.t 5), .idxS 26 (.t 24) (.t 25) 1, .load 27 (.t 26) none, .mkS 28 1 1 [(.slice 1 [] 0)] [(0, (.t 27))], .app 29 (.t 23) (.t 28) 1 24, .asg 4 (.t 29)]) .skip)))
 (.reg [.cpy 14 (.t 5), .bin 15 .add (.t 14) (.c (.lit (.int .i64 1))), .asg 5 (.t 15)]))))))
 (.seq (.reg [.cpy 30 (.t 4), .asg 2 (.t 30)])
 .ret)))))
def r72 : List MRes := [.tmp 2]
theorem tr72 : Try.f72.body.bind (trC Try.prog ann72 Try.f72.ntmps) = some m72 := by kernel_rfl
theorem rs72 : trRes Try.prog Try.f72.results.toList = some r72 := by kernel_rfl
theorem fn72 : isFunc Try.prog 72 = true := by kernel_rfl

/- duodecimo/duodecimoref08.some -/
def ann61 : Ann := { muts := [], nilsz := [(4, 1)], oid := [], frz := [], zero := [], ord := [], ap := [], own := [], yl := [], fz := [], imm := [], ic := [], cl := [], ylL := [], rl := [] }
def m61 : MCode := (.seq (.reg [.boxI 2 (.t 0) 5, .asgNil 4 1, .asg 5 (.c (.lit (.int .i64 0)))])
 (.seq (.seq (.reg [.cpy 7 (.t 1), .bin 8 .neq (.t 7) (.c (.lit (.int .i64 0)))])
 (.cond (.t 8) (.seq (.reg [.cpy 9 (.t 1), .asgNil 4 1, .asg 5 (.t 9)])
 .ret) .skip))
 (.seq (.reg [.load 10 (.t 2) (some 5), .call 11 72 [(.t 10)], .asg 6 (.t 11)])
 (.seq (.seq (.reg [.cpy 12 (.t 6), .len 13 (.t 12), .bin 14 .eql (.t 13) (.c (.lit (.int .i64 0)))])
 (.cond (.t 14) (.seq (.reg [.asgNil 4 1, .asg 5 (.c (.lit (.int .i64 8)))])
 .ret) .skip))
 (.seq (.reg [.cpy 15 (.t 6), .asg 4 (.t 15), .asg 5 (.c (.lit (.int .i64 0)))])
 .ret)))))
def r61 : List MRes := [.tmp 4, .tmp 5]
theorem tr61 : Try.f61.body.bind (trC Try.prog ann61 Try.f61.ntmps) = some m61 := by kernel_rfl
theorem rs61 : trRes Try.prog Try.f61.results.toList = some r61 := by kernel_rfl
theorem fn61 : isFunc Try.prog 61 = true := by kernel_rfl

/- duodecimo/duodecimoref08.Chain -/
/- duodecimo/duodecimoref08.Order -/
/- duodecimo/duodecimoref08.Why -/
/- duodecimo/duodecimoref08.Before -/
/- duodecimo/duodecimoref08.In -/
/- duodecimo/duodecimoref08.Year -/
/- duodecimo/duodecimoref08.Had -/
def ann74 : Ann := { muts := [3], nilsz := [], oid := [(18, 4003)], frz := [], zero := [(7, [(.lit (.int .i64 0)), (.lit (.int .i64 0)), (.lit (.int .i64 0)), (.lit (.int .i64 0))]), (14, [(.lit (.int .i64 0)), (.lit (.int .i64 0))]), (15, [(.lit (.int .i64 0)), (.lit (.int .i64 0)), (.lit (.int .i64 0)), (.lit (.int .i64 0))]), (16, [(.lit (.int .i64 0)), (.lit (.int .i64 0)), (.lit (.int .i64 0)), (.lit (.int .i64 0))])], ord := [], ap := [], own := [], yl := [], fz := [], imm := [], ic := [], cl := [], ylL := [], rl := [] }
def m74 : MCode := (.seq (.reg [.boxM 3 (.t 0) 5, .asg 6 (.c (.lit (.bool false)))])
 (.seq (.reg [.mkS 7 0 4 [(.lit (.int .i64 0)), (.lit (.int .i64 0)), (.lit (.int .i64 0)), (.lit (.int .i64 0))] [], .addr 8 (.t 3) 3, .load 9 (.t 8) none, .app 10 (.t 7) (.t 9) 4 32, .cpy 11 (.t 1), .cpy 12 (.t 2), .cpy 13 (.t 2), .build 14 [(.lit (.int .i64 0)), (.lit (.int .i64 0))] [(0, 1, (.t 12)), (1, 1, (.t 13))], .build 15 [(.lit (.int .i64 0)), (.lit (.int .i64 0)), (.lit (.int .i64 0)), (.lit (.int .i64 0))] [(0, 1, (.t 11)), (1, 2, (.t 14)), (3, 1, (.c (.lit (.int .i64 (-1)))))], .mkS 16 1 4 [(.lit (.int .i64 0)), (.lit (.int .i64 0)), (.lit (.int .i64 0)), (.lit (.int .i64 0))] [(0, (.t 15))], .app 17 (.t 10) (.t 16) 4 32, .addr 18 (.t 3) 3, .store (.t 18) (.t 17) 1 4003])
 (.seq (.reg [.load 19 (.t 3) (some 5), .call 20 72 [(.t 19)], .len 21 (.t 20), .bin 22 .gtr (.t 21) (.c (.lit (.int .i64 0))), .asg 6 (.t 22)])
 .ret)))
def r74 : List MRes := [.tmp 6]
theorem tr74 : Try.f74.body.bind (trC Try.prog ann74 Try.f74.ntmps) = some m74 := by kernel_rfl
theorem rs74 : trRes Try.prog Try.f74.results.toList = some r74 := by kernel_rfl
theorem fn74 : isFunc Try.prog 74 = true := by kernel_rfl

/- duodecimo/duodecimoref08.Owned -/
def ann29 : Ann := { muts := [], nilsz := [(4, 1), (9, 1)], oid := [], frz := [], zero := [(50, [(.lit (.int .i64 0))])], ord := [], ap := [], own := [], yl := [], fz := [], imm := [], ic := [], cl := [], ylL := [], rl := [] }
def m29 : MCode := (.seq (.reg [.boxI 2 (.t 0) 5, .asgNil 4 1, .asg 5 (.c (.lit (.int .i64 0)))])
 (.seq (.reg [.load 12 (.t 2) (some 5), .call 13 17 [(.t 12)], .cpy 11 (.t 13), .ext 14 (.t 11) 0, .ext 15 (.t 11) 1, .ext 16 (.t 11) 2, .asg 6 (.t 14), .asg 7 (.t 15), .asg 8 (.t 16)])
 (.seq (.seq (.reg [.cpy 17 (.t 8), .bin 18 .eql (.t 17) (.c (.lit (.int .i64 0))), .cpy 19 (.t 18), .guard 19 true (some 20) (.cpy 20 (.t 1)), .guard 19 true (some 21) (.addr 21 (.t 2) 0), .guard 19 true (some 22) (.load 22 (.t 21) none), .guard 19 true (some 23) (.addr 23 (.t 2) 1), .guard 19 true (some 24) (.load 24 (.t 23) none), .guard 19 true (some 25) (.call 25 54 [(.t 20), (.t 22), (.t 24)]), .guard 19 true (some 26) (.not 26 (.t 25)), .pick 27 (.t 19) (.t 26) (.c (.lit (.bool false)))])
 (.cond (.t 27) (.reg [.asg 8 (.c (.lit (.int .i64 7)))]) .skip))
 (.seq (.reg [.load 29 (.t 2) (some 5), .cpy 30 (.t 8), .call 31 61 [(.t 29), (.t 30)], .cpy 28 (.t 31), .ext 32 (.t 28) 0, .ext 33 (.t 28) 1, .asg 8 (.t 33)])
 (.seq (.seq (.reg [.cpy 34 (.t 8), .bin 35 .neq (.t 34) (.c (.lit (.int .i64 0)))])
 (.cond (.t 35) (.seq (.reg [.cpy 36 (.t 8), .asgNil 4 1, .asg 5 (.t 36)])
 .ret) .skip))
 (.seq (.reg [.asgNil 9 1])
 (.seq (.seq (.reg [.asg 10 (.c (.lit (.int .i64 0)))])
 (.block 0 (.loop (.seq (.seq (.reg [.cpy 37 (.t 10), .addr 38 (.t 2) 2, .load 39 (.t 38) none, .len 40 (.t 39), .bin 41 .lss (.t 37) (.t 40)])
 (.cond (.t 41) .skip (.exit 0)))
 (.seq (.block 1 (.seq (.reg [.load 44 (.t 2) (some 5), .cpy 45 (.t 10), .cpy 46 (.t 1), .call 47 74 [(.t 44), (.t 45), (.t 46)]])
 (.cond (.t 47) (.reg [.cpy 48 (.t 9), .cpy 49 (.t 10), .mkS 50 1 1 [(.lit (.int .i64 0))] [(0, (.t 49))], .app 51 (.t 48) (.t 50) 1 8, .asg 9 (.t 51)]) .skip)))
 (.reg [.cpy 42 (.t 10), .bin 43 .add (.t 42) (.c (.lit (.int .i64 1))), .asg 10 (.t 43)]))))))
 (.seq (.reg [.cpy 52 (.t 9), .asg 4 (.t 52), .asg 5 (.c (.lit (.int .i64 0)))])
 .ret))))))))
def r29 : List MRes := [.tmp 4, .tmp 5]
theorem tr29 : Try.f29.body.bind (trC Try.prog ann29 Try.f29.ntmps) = some m29 := by kernel_rfl
theorem rs29 : trRes Try.prog Try.f29.results.toList = some r29 := by kernel_rfl
theorem fn29 : isFunc Try.prog 29 = true := by kernel_rfl

/- duodecimo/duodecimoref08.Both -/
def ann32 : Ann := { muts := [], nilsz := [(6, 1), (15, 1)], oid := [], frz := [], zero := [(117, [(.lit (.int .i64 0))])], ord := [(19, [0, 1, 2, 3, 4, 5, 6, 7, 8, 9, 10, 11, 12, 13, 14, 15, 16, 17, 18])], ap := [], own := [], yl := [], fz := [], imm := [], ic := [], cl := [], ylL := [], rl := [] }
def m32 : MCode := (.seq (.reg [.boxI 3 (.t 0) 5, .boxI 4 (.t 1) 5, .asgNil 6 1, .asg 7 (.c (.lit (.int .i64 0)))])
 (.seq (.reg [.load 19 (.t 3) (some 5), .call 20 17 [(.t 19)], .cpy 18 (.t 20), .ext 21 (.t 18) 0, .ext 22 (.t 18) 1, .ext 23 (.t 18) 2, .asg 8 (.t 21), .asg 9 (.t 22), .asg 10 (.t 23)])
 (.seq (.seq (.reg [.cpy 24 (.t 10), .bin 25 .eql (.t 24) (.c (.lit (.int .i64 0)))])
 (.cond (.t 25) (.reg [.load 27 (.t 4) (some 5), .call 28 17 [(.t 27)], .cpy 26 (.t 28), .ext 29 (.t 26) 0, .ext 30 (.t 26) 1, .ext 31 (.t 26) 2, .asg 10 (.t 31)]) .skip))
 (.seq (.seq (.reg [.cpy 32 (.t 10), .bin 33 .eql (.t 32) (.c (.lit (.int .i64 0))), .cpy 34 (.t 33), .guard 34 true (some 35) (.cpy 35 (.t 2)), .guard 34 true (some 36) (.addr 36 (.t 3) 0), .guard 34 true (some 37) (.load 37 (.t 36) none), .guard 34 true (some 38) (.addr 38 (.t 3) 1), .guard 34 true (some 39) (.load 39 (.t 38) none), .guard 34 true (some 40) (.call 40 54 [(.t 35), (.t 37), (.t 39)]), .guard 34 true (some 41) (.not 41 (.t 40)), .guard 34 true (some 42) (.cpy 42 (.t 41)), .guard 42 false (some 43) (.cpy 43 (.t 2)), .guard 42 false (some 44) (.addr 44 (.t 4) 0), .guard 42 false (some 45) (.load 45 (.t 44) none), .guard 42 false (some 46) (.addr 46 (.t 4) 1), .guard 42 false (some 47) (.load 47 (.t 46) none), .guard 42 false (some 48) (.call 48 54 [(.t 43), (.t 45), (.t 47)]), .guard 42 false (some 49) (.not 49 (.t 48)), .guard 34 true (some 50) (.pick 50 (.t 42) (.c (.lit (.bool true))) (.t 49)), .pick 51 (.t 34) (.t 50) (.c (.lit (.bool false)))])
 (.cond (.t 51) (.reg [.asg 10 (.c (.lit (.int .i64 7)))]) .skip))
 (.seq (.seq (.reg [.cpy 52 (.t 10), .bin 53 .eql (.t 52) (.c (.lit (.int .i64 0))), .cpy 54 (.t 53), .guard 54 true (some 55) (.load 55 (.t 3) (some 5)), .guard 54 true (some 56) (.call 56 72 [(.t 55)]), .guard 54 true (some 57) (.len 57 (.t 56)), .guard 54 true (some 58) (.bin 58 .eql (.t 57) (.c (.lit (.int .i64 0)))), .guard 54 true (some 59) (.cpy 59 (.t 58)), .guard 59 false (some 60) (.load 60 (.t 4) (some 5)), .guard 59 false (some 61) (.call 61 72 [(.t 60)]), .guard 59 false (some 62) (.len 62 (.t 61)), .guard 59 false (some 63) (.bin 63 .eql (.t 62) (.c (.lit (.int .i64 0)))), .guard 54 true (some 64) (.pick 64 (.t 59) (.c (.lit (.bool true))) (.t 63)), .pick 65 (.t 54) (.t 64) (.c (.lit (.bool false)))])
 (.cond (.t 65) (.reg [.asg 10 (.c (.lit (.int .i64 8)))]) .skip))
 (.seq (.seq (.reg [.cpy 66 (.t 10), .bin 67 .neq (.t 66) (.c (.lit (.int .i64 0)))])
 (.cond (.t 67) (.seq (.reg [.cpy 68 (.t 10), .asgNil 6 1, .asg 7 (.t 68)])
 .ret) .skip))
 (.seq (.reg [.load 70 (.t 3) (some 5), .cpy 71 (.t 2), .call 72 29 [(.t 70), (.t 71)], .cpy 69 (.t 72), .ext 73 (.t 69) 0, .ext 74 (.t 69) 1, .asg 11 (.t 73), .asg 12 (.t 74)])
 (.seq (.reg [.load 76 (.t 4) (some 5), .cpy 77 (.t 2), .call 78 29 [(.t 76), (.t 77)], .cpy 75 (.t 78), .ext 79 (.t 75) 0, .ext 80 (.t 75) 1, .asg 13 (.t 79), .asg 14 (.t 80)])
 (.seq (.reg [.asgNil 15 1])
 (.seq (.seq (.reg [.asg 16 (.c (.lit (.int .i64 0)))])
 (.block 0 (.loop (.seq (.seq (.reg [.cpy 81 (.t 16), .cpy 82 (.t 11), .len 83 (.t 82), .bin 84 .lss (.t 81) (.t 83)])
 (.cond (.t 84) .skip (.exit 0)))
 (.seq (.block 1 (.seq (.reg [.asg 17 (.c (.lit (.int .i64 0)))])
 (.block 2 (.loop (.seq (.seq (.reg [.cpy 87 (.t 17), .cpy 88 (.t 13), .len 89 (.t 88), .bin 90 .lss (.t 87) (.t 89)])
 (.cond (.t 90) .skip (.exit 2)))
 (.seq (.block 3 (.seq (.reg [.addr 93 (.t 3) 2, .load 94 (.t 93) none, .cpy 95 (.t 11), .cpy 96 (.t 16), .idxS 97 (.t 95) (.t 96) 1, .load 98 (.t 97) none, .idxS 99 (.t 94) (.t 98) 3, .addr 100 (.t 99) 0, .load 101 (.t 100) none, .addr 102 (.t 4) 2, .load 103 (.t 102) none, .cpy 104 (.t 13), .cpy 105 (.t 17), .idxS 106 (.t 104) (.t 105) 1, .load 107 (.t 106) none, .idxS 108 (.t 103) (.t 107) 3, .addr 109 (.t 108) 0, .load 110 (.t 109) none, .bin 111 .eql (.t 101) (.t 110)])
 (.cond (.t 111) (.reg [.cpy 112 (.t 15), .cpy 113 (.t 11), .cpy 114 (.t 16), .idxS 115 (.t 113) (.t 114) 1, .load 116 (.t 115) none, .mkS 117 1 1 [(.lit (.int .i64 0))] [(0, (.t 116))], .app 118 (.t 112) (.t 117) 1 8, .asg 15 (.t 118)]) .skip)))
 (.reg [.cpy 91 (.t 17), .bin 92 .add (.t 91) (.c (.lit (.int .i64 1))), .asg 17 (.t 92)])))))))
 (.reg [.cpy 85 (.t 16), .bin 86 .add (.t 85) (.c (.lit (.int .i64 1))), .asg 16 (.t 86)]))))))
 (.seq (.reg [.cpy 119 (.t 15), .asg 6 (.t 119), .asg 7 (.c (.lit (.int .i64 0)))])
 .ret)))))))))))
def r32 : List MRes := [.tmp 6, .tmp 7]
theorem tr32 : Try.f32.body.bind (trC Try.prog ann32 Try.f32.ntmps) = some m32 := by kernel_rfl
theorem rs32 : trRes Try.prog Try.f32.results.toList = some r32 := by kernel_rfl
theorem fn32 : isFunc Try.prog 32 = true := by kernel_rfl

/- duodecimo/duodecimoref08.Without -/
def ann48 : Ann := { muts := [2], nilsz := [(6, 4)], oid := [(57, 3003)], frz := [4], zero := [(4, [(.lit (.int .i64 0)), (.lit (.int .i64 0)), (.slice 3 [] 5002), (.slice 4 [] 5003), (.slice 3 [] 5004)]), (8, [(.lit (.int .i64 0)), (.lit (.int .i64 0)), (.lit (.int .i64 0)), (.lit (.int .i64 0))]), (12, [(.lit (.int .i64 0))]), (54, [(.lit (.int .i64 0)), (.lit (.int .i64 0)), (.lit (.int .i64 0)), (.lit (.int .i64 0))])], ord := [], ap := [], own := [], yl := [], fz := [], imm := [], ic := [], cl := [], ylL := [], rl := [] }
def m48 : MCode := (.seq (.reg [.boxM 2 (.t 0) 5, .alloc 4 [(.lit (.int .i64 0)), (.lit (.int .i64 0)), (.slice 3 [] 5002), (.slice 4 [] 5003), (.slice 3 [] 5004)]])
 (.seq (.reg [.addr 9 (.t 2) 3, .load 10 (.t 9) none, .len 11 (.t 10), .mkM 12 (.t 11) (.t 11) 1 8 [(.lit (.int .i64 0))], .asg 5 (.t 12)])
 (.seq (.reg [.asgNil 6 4])
 (.seq (.seq (.reg [.asg 7 (.c (.lit (.int .i64 0)))])
 (.block 0 (.loop (.seq (.seq (.reg [.cpy 13 (.t 7), .addr 14 (.t 2) 3, .load 15 (.t 14) none, .len 16 (.t 15), .bin 17 .lss (.t 13) (.t 16)])
 (.cond (.t 17) .skip (.exit 0)))
 (.seq (.block 1 (.seq (.seq (.reg [.cpy 20 (.t 1), .cpy 21 (.t 7), .call 22 46 [(.t 20), (.t 21)]])
 (.cond (.t 22) (.exit 1) .skip))
 (.seq (.reg [.cpy 23 (.t 5), .cpy 24 (.t 7), .cpy 25 (.t 6), .len 26 (.t 25), .idxS 27 (.t 23) (.t 24) 1, .store (.t 27) (.t 26) 1 0])
 (.seq (.reg [.addr 28 (.t 2) 3, .load 29 (.t 28) none, .cpy 30 (.t 7), .idxS 31 (.t 29) (.t 30) 4, .load 32 (.t 31) (some 4), .alloc 8 [(.lit (.int .i64 0)), (.lit (.int .i64 0)), (.lit (.int .i64 0)), (.lit (.int .i64 0))], .store (.t 8) (.t 32) 4 0])
 (.seq (.seq (.reg [.addr 33 (.t 8) 3, .load 34 (.t 33) none, .bin 35 .neq (.t 34) (.c (.lit (.int .i64 (-1)))), .cpy 36 (.t 35), .guard 36 true (some 37) (.cpy 37 (.t 1)), .guard 36 true (some 38) (.addr 38 (.t 8) 3), .guard 36 true (some 39) (.load 39 (.t 38) none), .guard 36 true (some 40) (.call 40 46 [(.t 37), (.t 39)]), .pick 41 (.t 36) (.t 40) (.c (.lit (.bool false)))])
 (.cond (.t 41) (.reg [.addr 42 (.t 8) 3, .store (.t 42) (.c (.lit (.int .i64 (-1)))) 1 0]) (.seq (.reg [.addr 43 (.t 8) 3, .load 44 (.t 43) none, .bin 45 .neq (.t 44) (.c (.lit (.int .i64 (-1))))])
 (.cond (.t 45) (.reg [.cpy 46 (.t 5), .addr 47 (.t 8) 3, .load 48 (.t 47) none, .idxS 49 (.t 46) (.t 48) 1, .load 50 (.t 49) none, .addr 51 (.t 8) 3, .store (.t 51) (.t 50) 1 0]) .skip))))
 (.reg [.cpy 52 (.t 6), .load 53 (.t 8) (some 4), .mkS 54 1 4 [(.lit (.int .i64 0)), (.lit (.int .i64 0)), (.lit (.int .i64 0)), (.lit (.int .i64 0))] [(0, (.t 53))], .app 55 (.t 52) (.t 54) 4 32, .asg 6 (.t 55)]))))))
 (.reg [.cpy 18 (.t 7), .bin 19 .add (.t 18) (.c (.lit (.int .i64 1))), .asg 7 (.t 19)]))))))
 (.seq (.reg [.cpy 56 (.t 6), .addr 57 (.t 2) 3, .store (.t 57) (.t 56) 1 3003])
 (.seq (.reg [.load 58 (.t 2) (some 5), .storeF 4 (.t 58) 5])
 .ret))))))
def r48 : List MRes := [.cell 4 (some 5)]
theorem tr48 : Try.f48.body.bind (trC Try.prog ann48 Try.f48.ntmps) = some m48 := by kernel_rfl
theorem rs48 : trRes Try.prog Try.f48.results.toList = some r48 := by kernel_rfl
theorem fn48 : isFunc Try.prog 48 = true := by kernel_rfl

/- duodecimo/duodecimoref08.Forged -/
def ann34 : Ann := { muts := [], nilsz := [(2, 1)], oid := [], frz := [], zero := [], ord := [(11, [0, 1, 2, 3, 4, 5, 6, 7, 8])], ap := [], own := [], yl := [], fz := [], imm := [], ic := [], cl := [], ylL := [], rl := [] }
def m34 : MCode := (.seq (.reg [.boxI 1 (.t 0) 5, .asgNil 2 1, .asg 3 (.c (.lit (.int .i64 0)))])
 (.seq (.reg [.load 11 (.t 1) (some 5), .call 12 17 [(.t 11)], .cpy 10 (.t 12), .ext 13 (.t 10) 0, .ext 14 (.t 10) 1, .ext 15 (.t 10) 2, .asg 4 (.t 13), .asg 5 (.t 14), .asg 6 (.t 15)])
 (.seq (.seq (.reg [.cpy 16 (.t 6), .bin 17 .neq (.t 16) (.c (.lit (.int .i64 0)))])
 (.cond (.t 17) (.seq (.reg [.cpy 18 (.t 6), .asgNil 2 1, .asg 3 (.t 18)])
 .ret) .skip))
 (.seq (.seq (.reg [.asg 7 (.c (.lit (.int .i64 0)))])
 (.block 0 (.loop (.seq (.seq (.reg [.cpy 19 (.t 7), .addr 20 (.t 1) 3, .load 21 (.t 20) none, .len 22 (.t 21), .bin 23 .leq (.t 19) (.t 22)])
 (.cond (.t 23) .skip (.exit 0)))
 (.seq (.block 1 (.seq (.reg [.addr 26 (.t 1) 3, .load 27 (.t 26) none, .len 28 (.t 27), .cpy 29 (.t 7), .call 30 79 [(.c (.lit (.int .i64 0))), (.t 28), (.t 29)], .asg 8 (.t 30)])
 (.seq (.reg [.asg 9 (.c (.lit (.int .i64 0)))])
 (.block 2 (.loop (.seq (.seq (.reg [.cpy 31 (.t 9), .cpy 32 (.t 8), .len 33 (.t 32), .bin 34 .lss (.t 31) (.t 33)])
 (.cond (.t 34) .skip (.exit 2)))
 (.seq (.block 3 (.seq (.reg [.load 37 (.t 1) (some 5), .cpy 38 (.t 8), .cpy 39 (.t 9), .idxS 40 (.t 38) (.t 39) 1, .load 41 (.t 40) none, .call 42 48 [(.t 37), (.t 41)], .call 43 72 [(.t 42)], .len 44 (.t 43), .bin 45 .gtr (.t 44) (.c (.lit (.int .i64 0)))])
 (.cond (.t 45) (.seq (.reg [.cpy 46 (.t 8), .cpy 47 (.t 9), .idxS 48 (.t 46) (.t 47) 1, .load 49 (.t 48) none, .asg 2 (.t 49), .asg 3 (.c (.lit (.int .i64 0)))])
 .ret) .skip)))
 (.reg [.cpy 35 (.t 9), .bin 36 .add (.t 35) (.c (.lit (.int .i64 1))), .asg 9 (.t 36)]))))))))
 (.reg [.cpy 24 (.t 7), .bin 25 .add (.t 24) (.c (.lit (.int .i64 1))), .asg 7 (.t 25)]))))))
 (.seq (.reg [.asgNil 2 1, .asg 3 (.c (.lit (.int .i64 9)))])
 .ret)))))
def r34 : List MRes := [.tmp 2, .tmp 3]
theorem tr34 : Try.f34.body.bind (trC Try.prog ann34 Try.f34.ntmps) = some m34 := by kernel_rfl
theorem rs34 : trRes Try.prog Try.f34.results.toList = some r34 := by kernel_rfl
theorem fn34 : isFunc Try.prog 34 = true := by kernel_rfl
end Go.Proofs.Ytiampdiobdianaa

namespace Go.Proofs.Ytiampdiobdianaa
open Go.Avm

def namesUp (c : Case) (k : Nat) : List ByteArray := (c.owners.take k).map Ower.name

theorem checkR_ok (c : Case) : PCall Try.prog 17 [encCase c] (T3 (checkS c)) := by
  refine pcall Try.func17 tr17 rs17 fn17 (by simp [Try.ntmps17]) fun hfit => ?_
  have lS := fits_len (fits_agg (hfit 0) 2)
  have lR := fits_len (fits_agg (hfit 0) 3)
  have lX := fits_len (fits_agg (hfit 0) 4)
  simp only [List.length_map] at lS lR lX
  obtain ⟨R, hR⟩ : ∃ R, R = checkS c := ⟨_, rfl⟩
  rw [← hR]
  simp -implicitDefEqProofs only [m17]
  refine cutS (fun st => st.env 1 = caseRef c) ?_ ?_
  · intro k hk
    simp -implicitDefEqProofs
    exact hk _ rfl
  intro s e1; clear hfit
  by_cases h1 : (1450 ≤ c.printed ∧ c.printed ≤ 1850) ∧ (1450 ≤ c.now ∧ c.now ≤ 1850)
  case neg =>
    simp -implicitDefEqProofs [e1]
    by_cases ha : 1450 ≤ c.printed ∧ c.printed ≤ 1850
    · have hb : ¬ (1450 ≤ c.now ∧ c.now ≤ 1850) := fun h => h1 ⟨ha, h⟩
      refine vCall_of (in_ok' _ _ _ true (decide_eq_true ha)) ?_
      simp -implicitDefEqProofs [e1]
      refine vCall_of (in_ok' _ _ _ false (decide_eq_false hb)) ?_
      simp -implicitDefEqProofs [r17, hR, checkS_1 h1]
    · refine vCall_of (in_ok' _ _ _ false (decide_eq_false ha)) ?_
      simp -implicitDefEqProofs [r17, hR, checkS_1 h1]
  refine cutS (fun st => st.env 1 = caseRef c) ?_ ?_
  · intro k hk
    simp -implicitDefEqProofs [e1]
    refine vCall_of (in_ok' _ _ _ true (decide_eq_true h1.1)) ?_
    simp -implicitDefEqProofs [e1]
    refine vCall_of (in_ok' _ _ _ true (decide_eq_true h1.2)) ?_
    simp -implicitDefEqProofs
    exact hk _ (by simp [e1])
  intro s e1
  by_cases h2 : c.now < c.printed
  case pos =>
    simp -implicitDefEqProofs [e1, h2, r17, hR, checkS_2 h1 h2]
  refine cutS (fun st => st.env 1 = caseRef c) ?_ ?_
  · intro k hk
    simp -implicitDefEqProofs [e1, h2]
    exact hk _ (by simp [e1])
  intro s e1
  by_cases h3 : (6 : Int) < c.owners.length
  case pos =>
    simp -implicitDefEqProofs [e1, h3, r17, hR, checkS_3 h1 h2 h3]
  refine cutS (fun st => st.env 1 = caseRef c) ?_ ?_
  · intro k hk
    simp -implicitDefEqProofs [e1, h3]
    exact hk _ (by simp [e1])
  intro s e1
  have p1 : Part1 c := ⟨h1, h2, h3⟩
  refine cutS (fun st => st.env 1 = caseRef c ∧ st.env 5 = .slice 1 [] 6) ?_ ?_
  · intro k hk
    simp -implicitDefEqProofs
    exact hk _ (by simp [e1])
  rintro s ⟨e1, e5⟩
  refine cutS (fun st => st.env 1 = caseRef c ∧ ∀ j < c.owners.length, ownE c j = 0) ?_ ?_
  · intro k0 hk0
    simp -implicitDefEqProofs
    refine loop_up c.owners.length (fun k s => s.env 1 = caseRef c ∧ s.env 5 = .slice 1 ((namesUp c k).map S) 6 ∧ s.env 6 = I k ∧ ∀ j < k, ownE c j = 0) ?_ ?_
    · simp [e1, e5, namesUp]
    · rintro k s hk ⟨e1, e5, e6, hno⟩
      simp -implicitDefEqProofs [e1, e6]
      refine cond_dec (fun hlt => ?_) (fun hge => ?_)
      · have hlt : k < c.owners.length := by omega
        have hst := ower_at hlt
        have hE : ownE c k = if namedE c.owners[k].name (namesUp c k) ≠ 0 then namedE c.owners[k].name (namesUp c k) else rangeE c.owners[k].born c.owners[k].died 0 9999 := by
          unfold ownE; rw [hst]; rfl
        have hf := fresh_ok c.owners[k].name (namesUp c k)
        have hl : (namesUp c k).length = k := by simp [namesUp]; omega
        have hsn : namesUp c (k + 1) = namesUp c k ++ [c.owners[k].name] := by unfold namesUp; rw [take_snoc hlt, List.map_append]; rfl
        generalize namesUp c k = nm at *
        generalize namedE c.owners[k].name nm = e at *
        simp -implicitDefEqProofs [e1, e5, e6, hlt]
        intro b hb
        refine vCall_of hf ?_
        simp -implicitDefEqProofs [e5]
        refine ⟨by omega, by omega, ?_⟩
        by_cases he : e = 0
        · have he' : (e == 0) = true := by simp [he]
          rw [if_neg (not_not_intro he)] at hE
          simp -implicitDefEqProofs [he']
          by_cases ha : 0 ≤ c.owners[k].born ∧ c.owners[k].born ≤ 9999
          case neg =>
            refine vCall_of (in_ok' _ _ _ false (decide_eq_false ha)) ?_
            have hE : ownE c k = 7 := by rw [hE]; unfold rangeE; rw [if_pos (by omega)]
            have hr := checkS_4 p1 hlt hno (by rw [hE]; decide)
            rw [hE] at hr
            simp -implicitDefEqProofs [e6, r17, hR, hr]
          refine vCall_of (in_ok' _ _ _ true (decide_eq_true ha)) ?_
          simp -implicitDefEqProofs
          by_cases hb : 0 ≤ c.owners[k].died ∧ c.owners[k].died ≤ 9999
          case neg =>
            refine vCall_of (in_ok' _ _ _ false (decide_eq_false hb)) ?_
            have hE : ownE c k = 7 := by rw [hE]; unfold rangeE; rw [if_pos (by omega)]
            have hr := checkS_4 p1 hlt hno (by rw [hE]; decide)
            rw [hE] at hr
            simp -implicitDefEqProofs [e6, r17, hR, hr]
          refine vCall_of (in_ok' _ _ _ true (decide_eq_true hb)) ?_
          have hE : ownE c k = if c.owners[k].died < c.owners[k].born then 2 else 0 := by rw [hE]; unfold rangeE; rw [if_neg (by omega)]
          simp -implicitDefEqProofs [he']
          refine cond_dec (fun hc => ?_) (fun hc => ?_)
          · have hE : ownE c k = 2 := by rw [hE, if_pos hc]
            have hr := checkS_4 p1 hlt hno (by rw [hE]; decide)
            rw [hE] at hr
            simp -implicitDefEqProofs [e6, r17, hR, hr]
          · have hE : ownE c k = 0 := by rw [hE, if_neg hc]
            have he2 : (e != 0) = false := by simp [he]
            simp -implicitDefEqProofs [e6, he2]
            exact ⟨i64 (by omega) (by omega), round_ok hlt ⟨by simp [e1], by simp [hsn], by simp, lt_snoc hno hE⟩⟩
        · have he' : (e == 0) = false := by simp [he]
          have he2 : (e != 0) = true := by simp [he]
          rw [if_pos he] at hE
          have hr := checkS_4 p1 hlt hno (by rw [hE]; exact he)
          rw [hE] at hr
          simp -implicitDefEqProofs [e6, he', he2, r17, hR, hr]
      · obtain rfl : k = c.owners.length := by omega
        simp -implicitDefEqProofs
        exact hk0 _ ⟨by simp [e1], hno⟩
  rintro s ⟨e1, h4⟩
  by_cases h5 : (8 : Int) < c.marks.length
  case pos =>
    simp -implicitDefEqProofs [e1, h5, r17, hR, checkS_5 p1 h4 h5]
  have p2 : Part2 c := ⟨p1, h4, h5⟩
  refine cutS (fun st => st.env 1 = caseRef c) ?_ ?_
  · intro k hk
    simp -implicitDefEqProofs [e1, h5]
    exact hk _ (by simp [e1])
  intro s e1
  refine cutS (fun st => st.env 1 = caseRef c ∧ ∀ j < c.marks.length, markE c j = 0) ?_ ?_
  · intro k0 hk0
    simp -implicitDefEqProofs
    refine loop_up c.marks.length (fun k s => s.env 1 = caseRef c ∧ s.env 9 = I k ∧ ∀ j < k, markE c j = 0) ?_ ?_
    · simp [e1]
    · rintro k s hk ⟨e1, e9, hno⟩
      simp -implicitDefEqProofs [e1, e9]
      refine cond_dec (fun hlt => ?_) (fun hge => ?_)
      · have hlt : k < c.marks.length := by omega
        have hst := mk_at hlt
        have hE : markE c k = if ¬ ((0 ≤ c.marks[k].owner ∧ c.marks[k].owner ≤ (c.owners.length : Int) - 1) ∧ (-1 ≤ c.marks[k].upon ∧ c.marks[k].upon ≤ (k : Int) - 1)) then 4 else
            if rangeE c.marks[k].lo c.marks[k].hi c.printed c.now ≠ 0 then rangeE c.marks[k].lo c.marks[k].hi c.printed c.now else if c.marks[k].lo + 40 < c.marks[k].hi then 2 else 0 := by
          unfold markE; rw [hst]
        generalize hm : c.marks[k] = m at *
        simp -implicitDefEqProofs [e1, e9, hlt, hm]
        intro b hb
        refine ⟨i64 (by omega) (by omega), ?_⟩
        by_cases ha : 0 ≤ m.owner ∧ m.owner ≤ (c.owners.length : Int) - 1
        case neg =>
          refine vCall_of (in_ok' _ _ _ false (decide_eq_false ha)) ?_
          have hE' : markE c k = 4 := by rw [hE, if_pos (fun h => ha h.1)]
          have hr := checkS_6 p2 hlt hno (by rw [hE']; decide)
          rw [hE'] at hr
          simp -implicitDefEqProofs [e9, r17, hR, hr]
        refine vCall_of (in_ok' _ _ _ true (decide_eq_true ha)) ?_
        have go : ∀ (K : MCode → Prop), True := fun _ => trivial
        have hr0 := range_ok m.lo m.hi c.printed c.now
        have hin : rangeE m.lo m.hi c.printed c.now = 0 → c.printed ≤ m.lo ∧ m.lo ≤ c.now := fun h => by
          unfold rangeE at h
          split at h
          · cases h
          · omega
        generalize rangeE m.lo m.hi c.printed c.now = q at *
        have bad : m.upon ≠ -1 → ¬ (0 ≤ m.upon ∧ m.upon ≤ (k : Int) - 1) → markE c k = 4 := fun h0 h => by rw [hE, if_pos (fun h' => h (by omega))]
        have good : m.upon = -1 ∨ (0 ≤ m.upon ∧ m.upon ≤ (k : Int) - 1) → markE c k = if q ≠ 0 then q else if m.lo + 40 < m.hi then 2 else 0 := fun h => by
          rw [hE, if_neg (not_not_intro ⟨ha, by omega⟩)]
        clear hE
        by_cases h0 : m.upon = -1
        · have hE := good (.inl h0)
          simp -implicitDefEqProofs [h0]
          simp -implicitDefEqProofs [e1]
          refine vCall_of hr0 ?_
          by_cases hq : q = 0
          · have hq' : (q == 0) = true := by simp [hq]
            have hq2 : (q != 0) = false := by simp [hq]
            rw [if_neg (not_not_intro hq)] at hE
            have hin := hin hq
            simp -implicitDefEqProofs [hq']
            refine ⟨i64 (by omega) (by omega), ?_⟩
            by_cases hc : m.lo + 40 < m.hi
            · rw [if_pos hc] at hE
              have hr := checkS_6 p2 hlt hno (by rw [hE]; decide)
              rw [hE] at hr
              simp -implicitDefEqProofs [hc, e9, r17, hR, hr]
            · rw [if_neg hc] at hE
              simp -implicitDefEqProofs [hc, e9, hq2]
              exact ⟨i64 (by omega) (by omega), round_ok hlt ⟨by simp [e1], by simp, lt_snoc hno hE⟩⟩
          · have hq' : (q == 0) = false := by simp [hq]
            have hq2 : (q != 0) = true := by simp [hq]
            rw [if_pos hq] at hE
            have hr := checkS_6 p2 hlt hno (by rw [hE]; exact hq)
            rw [hE] at hr
            simp -implicitDefEqProofs [e9, hq', hq2, r17, hR, hr]
        · have h0' : (m.upon != -1) = true := by simp [h0]
          simp -implicitDefEqProofs [h0', e9]
          refine ⟨i64 (by omega) (by omega), ?_⟩
          by_cases hb : 0 ≤ m.upon ∧ m.upon ≤ (k : Int) - 1
          case neg =>
            have hE' := bad h0 hb
            refine vCall_of (in_ok' _ _ _ false (decide_eq_false hb)) ?_
            have hr := checkS_6 p2 hlt hno (by rw [hE']; decide)
            rw [hE'] at hr
            simp -implicitDefEqProofs [e9, r17, hR, hr]
          refine vCall_of (in_ok' _ _ _ true (decide_eq_true hb)) ?_
          have hE := good (.inr hb)
          simp -implicitDefEqProofs [e1]
          refine vCall_of hr0 ?_
          by_cases hq : q = 0
          · have hq' : (q == 0) = true := by simp [hq]
            have hq2 : (q != 0) = false := by simp [hq]
            rw [if_neg (not_not_intro hq)] at hE
            have hin := hin hq
            simp -implicitDefEqProofs [hq']
            refine ⟨i64 (by omega) (by omega), ?_⟩
            by_cases hc : m.lo + 40 < m.hi
            · rw [if_pos hc] at hE
              have hr := checkS_6 p2 hlt hno (by rw [hE]; decide)
              rw [hE] at hr
              simp -implicitDefEqProofs [hc, e9, r17, hR, hr]
            · rw [if_neg hc] at hE
              simp -implicitDefEqProofs [hc, e9, hq2]
              exact ⟨i64 (by omega) (by omega), round_ok hlt ⟨by simp [e1], by simp, lt_snoc hno hE⟩⟩
          · have hq' : (q == 0) = false := by simp [hq]
            have hq2 : (q != 0) = true := by simp [hq]
            rw [if_pos hq] at hE
            have hr := checkS_6 p2 hlt hno (by rw [hE]; exact hq)
            rw [hE] at hr
            simp -implicitDefEqProofs [e9, hq', hq2, r17, hR, hr]
      · obtain rfl : k = c.marks.length := by omega
        simp -implicitDefEqProofs
        exact hk0 _ ⟨by simp [e1], hno⟩
  rintro s ⟨e1, h6⟩
  by_cases h7 : (4 : Int) < c.sales.length
  case pos =>
    simp -implicitDefEqProofs [e1, h7, r17, hR, checkS_7 p2 h6 h7]
  have p3 : Part3 c := ⟨p2, h6, h7⟩
  refine cutS (fun st => st.env 1 = caseRef c) ?_ ?_
  · intro k hk
    simp -implicitDefEqProofs [e1, h7]
    exact hk _ (by simp [e1])
  intro s e1
  refine cutS (fun st => ∀ j < c.sales.length, saleE c j = 0) ?_ ?_
  · intro k0 hk0
    simp -implicitDefEqProofs
    refine loop_up c.sales.length (fun k s => s.env 1 = caseRef c ∧ s.env 12 = I k ∧ ∀ j < k, saleE c j = 0) ?_ ?_
    · simp [e1]
    · rintro k s hk ⟨e1, e12, hno⟩
      simp -implicitDefEqProofs [e1, e12]
      refine cond_dec (fun hlt => ?_) (fun hge => ?_)
      · have hlt : k < c.sales.length := by omega
        have hst := sale_at hlt
        have hE : saleE c k = if ¬ (c.printed ≤ c.sales[k].year ∧ c.sales[k].year ≤ c.now) then 7 else
            if ¬ ((-1 ≤ c.sales[k].src ∧ c.sales[k].src ≤ (c.owners.length : Int) - 1) ∧ (-1 ≤ c.sales[k].dst ∧ c.sales[k].dst ≤ (c.owners.length : Int) - 1)) then 4 else
            if c.sales[k].src = c.sales[k].dst then 2 else 0 := by
          unfold saleE; rw [hst]
        generalize hm : c.sales[k] = m at *
        simp -implicitDefEqProofs [e1, e12, hlt, hm]
        intro b hb
        by_cases ha : c.printed ≤ m.year ∧ m.year ≤ c.now
        case neg =>
          refine vCall_of (in_ok' _ _ _ false (decide_eq_false ha)) ?_
          have hE' : saleE c k = 7 := by rw [hE, if_pos ha]
          have hr := checkS_8 p3 hlt hno (by rw [hE']; decide)
          rw [hE'] at hr
          simp -implicitDefEqProofs [e12, r17, hR, hr]
        refine vCall_of (in_ok' _ _ _ true (decide_eq_true ha)) ?_
        rw [if_neg (not_not_intro ha)] at hE
        by_cases hs0 : m.src = -1
        · have hs' : (m.src != -1) = false := by simp [hs0]
          simp -implicitDefEqProofs [hs']
          by_cases hd0 : m.dst = -1
          · have hd' : (m.dst != -1) = false := by simp [hd0]
            simp -implicitDefEqProofs [hd']
            have same : m.src = m.dst → saleE c k = 2 := fun h => by rw [hE, if_neg (by omega), if_pos h]
            have fine : m.src ≠ m.dst → saleE c k = 0 := fun h => by rw [hE, if_neg (by omega), if_neg h]
            by_cases hc : m.src = m.dst
            · have hE' := same hc
              have hr := checkS_8 p3 hlt hno (by rw [hE']; decide)
              rw [hE'] at hr
              have hc' : (m.src == m.dst) = true := by simp [hc]
              first
                | simp -implicitDefEqProofs [hc', e12, r17, hR, hr]
                | omega
            · have hE' := fine hc
              have hc' : (m.src == m.dst) = false := by simp [hc]
              simp -implicitDefEqProofs [hc', e12]
              exact ⟨i64 (by omega) (by omega), round_ok hlt ⟨by simp [e1], by simp, lt_snoc hno hE'⟩⟩
          have hd' : (m.dst != -1) = true := by simp [hd0]
          simp -implicitDefEqProofs [hd', e1]
          refine ⟨i64 (by omega) (by omega), ?_⟩
          by_cases hd : 0 ≤ m.dst ∧ m.dst ≤ (c.owners.length : Int) - 1
          case neg =>
            refine vCall_of (in_ok' _ _ _ false (decide_eq_false hd)) ?_
            have hE' : saleE c k = 4 := by rw [hE, if_pos (by omega)]
            have hr := checkS_8 p3 hlt hno (by rw [hE']; decide)
            rw [hE'] at hr
            simp -implicitDefEqProofs [e12, r17, hR, hr]
          refine vCall_of (in_ok' _ _ _ true (decide_eq_true hd)) ?_
          simp -implicitDefEqProofs
          have same : m.src = m.dst → saleE c k = 2 := fun h => by rw [hE, if_neg (by omega), if_pos h]
          have fine : m.src ≠ m.dst → saleE c k = 0 := fun h => by rw [hE, if_neg (by omega), if_neg h]
          by_cases hc : m.src = m.dst
          · have hE' := same hc
            have hr := checkS_8 p3 hlt hno (by rw [hE']; decide)
            rw [hE'] at hr
            have hc' : (m.src == m.dst) = true := by simp [hc]
            first
              | simp -implicitDefEqProofs [hc', e12, r17, hR, hr]
              | omega
          · have hE' := fine hc
            have hc' : (m.src == m.dst) = false := by simp [hc]
            simp -implicitDefEqProofs [hc', e12]
            exact ⟨i64 (by omega) (by omega), round_ok hlt ⟨by simp [e1], by simp, lt_snoc hno hE'⟩⟩
        have hs' : (m.src != -1) = true := by simp [hs0]
        simp -implicitDefEqProofs [hs', e1]
        refine ⟨i64 (by omega) (by omega), ?_⟩
        by_cases hs : 0 ≤ m.src ∧ m.src ≤ (c.owners.length : Int) - 1
        case neg =>
          refine vCall_of (in_ok' _ _ _ false (decide_eq_false hs)) ?_
          have hE' : saleE c k = 4 := by rw [hE, if_pos (by omega)]
          have hr := checkS_8 p3 hlt hno (by rw [hE']; decide)
          rw [hE'] at hr
          simp -implicitDefEqProofs [e12, r17, hR, hr]
        refine vCall_of (in_ok' _ _ _ true (decide_eq_true hs)) ?_
        simp -implicitDefEqProofs
        by_cases hd0 : m.dst = -1
        · have hd' : (m.dst != -1) = false := by simp [hd0]
          simp -implicitDefEqProofs [hd']
          have same : m.src = m.dst → saleE c k = 2 := fun h => by rw [hE, if_neg (by omega), if_pos h]
          have fine : m.src ≠ m.dst → saleE c k = 0 := fun h => by rw [hE, if_neg (by omega), if_neg h]
          by_cases hc : m.src = m.dst
          · have hE' := same hc
            have hr := checkS_8 p3 hlt hno (by rw [hE']; decide)
            rw [hE'] at hr
            have hc' : (m.src == m.dst) = true := by simp [hc]
            first
              | simp -implicitDefEqProofs [hc', e12, r17, hR, hr]
              | omega
          · have hE' := fine hc
            have hc' : (m.src == m.dst) = false := by simp [hc]
            simp -implicitDefEqProofs [hc', e12]
            exact ⟨i64 (by omega) (by omega), round_ok hlt ⟨by simp [e1], by simp, lt_snoc hno hE'⟩⟩
        have hd' : (m.dst != -1) = true := by simp [hd0]
        simp -implicitDefEqProofs [hd', e1]
        refine ⟨i64 (by omega) (by omega), ?_⟩
        by_cases hd : 0 ≤ m.dst ∧ m.dst ≤ (c.owners.length : Int) - 1
        case neg =>
          refine vCall_of (in_ok' _ _ _ false (decide_eq_false hd)) ?_
          have hE' : saleE c k = 4 := by rw [hE, if_pos (by omega)]
          have hr := checkS_8 p3 hlt hno (by rw [hE']; decide)
          rw [hE'] at hr
          simp -implicitDefEqProofs [e12, r17, hR, hr]
        refine vCall_of (in_ok' _ _ _ true (decide_eq_true hd)) ?_
        simp -implicitDefEqProofs
        have same : m.src = m.dst → saleE c k = 2 := fun h => by rw [hE, if_neg (by omega), if_pos h]
        have fine : m.src ≠ m.dst → saleE c k = 0 := fun h => by rw [hE, if_neg (by omega), if_neg h]
        by_cases hc : m.src = m.dst
        · have hE' := same hc
          have hr := checkS_8 p3 hlt hno (by rw [hE']; decide)
          rw [hE'] at hr
          have hc' : (m.src == m.dst) = true := by simp [hc]
          first
            | simp -implicitDefEqProofs [hc', e12, r17, hR, hr]
            | omega
        · have hE' := fine hc
          have hc' : (m.src == m.dst) = false := by simp [hc]
          simp -implicitDefEqProofs [hc', e12]
          exact ⟨i64 (by omega) (by omega), round_ok hlt ⟨by simp [e1], by simp, lt_snoc hno hE'⟩⟩
      · obtain rfl : k = c.sales.length := by omega
        simp -implicitDefEqProofs
        exact hk0 _ hno
  rintro s h8
  simp -implicitDefEqProofs [r17, hR, checkS_9 p3 h8]
end Go.Proofs.Ytiampdiobdianaa

namespace Go.Proofs.Ytiampdiobdianaa
open Go.Avm

theorem at_mem {o : List Int} {x : Int} (h : x ∈ o) : ∃ k : Nat, ∃ hk : k < o.length, at' o x = k ∧ o[k] = x := by
  unfold at'
  cases hq : o.idxOf? x with
  | some i =>
    rw [List.idxOf?_eq_some_iff] at hq
    obtain ⟨h1, h2, h3⟩ := hq
    exact ⟨i, h1, rfl, by simpa using h2⟩
  | none =>
    rw [List.idxOf?_eq_none_iff] at hq
    exact absurd h hq
theorem at_neg {o : List Int} {x : Int} : at' o x < 0 ↔ x ∉ o := by
  constructor
  · intro h hx
    obtain ⟨k, -, h2, -⟩ := at_mem hx
    omega
  · intro hx
    unfold at'
    rw [List.idxOf?_eq_none_iff.2 hx]
    decide
/-- What a sale asks of an order, but for the owners of marks. -/
def saleOK (order : List Int) (s : Sale) : Bool := saleIn order s && nextTo order s
def needB (c : Case) (order : List Int) : Bool := c.marks.all (markIn order) && c.sales.all (saleOK order)
theorem needB_eq (c : Case) (order : List Int) : needB c order = (completeB c order && besideB c order) := by
  unfold needB completeB besideB saleOK
  have : ∀ l : List Sale, l.all (fun s => saleIn order s && nextTo order s) = (l.all (saleIn order) && l.all (nextTo order)) := by
    intro l
    induction l with
    | nil => rfl
    | cons a l ih =>
      rw [List.all_cons, List.all_cons, List.all_cons, ih]
      cases saleIn order a <;> cases nextTo order a <;> cases l.all (saleIn order) <;> rfl
  rw [this, Bool.and_assoc]

theorem needed91_ok (c : Case) (order : List Int) (h : c.OK) (ho : order.length ≤ 100) : PCall Try.prog 91 [encCase c, IL order] (B (needB c order)) := by
  refine pcall Try.func91 tr91 rs91 fn91 (by simp [Try.ntmps91]) fun hfit => ?_
  have hm9 := h.marksLen
  have hs4 := h.salesLen
  obtain ⟨R, hR⟩ : ∃ R, R = needB c order := ⟨_, rfl⟩
  rw [← hR]
  unfold needB at hR
  simp -implicitDefEqProofs only [m91]
  refine cutS (fun st => st.env 1 = IL order ∧ st.env 2 = caseRef c) ?_ ?_
  · intro k hk
    simp -implicitDefEqProofs
    exact hk _ (by simp)
  rintro s ⟨e1, e2⟩
  refine cutS (fun st => st.env 1 = IL order ∧ st.env 2 = caseRef c ∧ c.marks.all (markIn order) = true) ?_ ?_
  · intro k0 hk0
    simp -implicitDefEqProofs
    refine loop_up c.marks.length (fun k s => s.env 1 = IL order ∧ s.env 2 = caseRef c ∧ s.env 5 = I k ∧ ∀ m ∈ c.marks.take k, markIn order m = true) ?_ ?_
    · simp [e1, e2]
    rintro k s hk ⟨e1, e2, e5, hall⟩
    simp -implicitDefEqProofs [e2, e5]
    refine cond_dec (fun hlt => ?_) (fun hge => ?_)
    · have hlt : k < c.marks.length := by omega
      have hta := take_all hlt hall
      have hno := all_no (p := markIn order) hlt
      have hq : markIn order c.marks[k] = decide (c.marks[k].owner ∈ order) := rfl
      generalize hm : c.marks[k] = m at *
      simp -implicitDefEqProofs [e1, e2, e5, hlt, hm]
      refine vCall_of (at_ok order m.owner) ?_
      simp -implicitDefEqProofs
      refine cond_dec (fun hn => ?_) (fun hn => ?_)
      · rw [hno (by rw [hq, decide_eq_false (at_neg.1 hn)]), Bool.false_and] at hR
        simp -implicitDefEqProofs [r91, hR]
      · have hin : m.owner ∈ order := Decidable.not_not.1 fun h => hn (at_neg.2 h)
        simp -implicitDefEqProofs [e5]
        exact ⟨i64 (by omega) (by omega), round_ok hlt ⟨by simp [e1], by simp [e2], by simp, hta (by rw [hq, decide_eq_true hin])⟩⟩
    · obtain rfl : k = c.marks.length := by omega
      simp -implicitDefEqProofs
      exact hk0 _ ⟨by simp [e1], by simp [e2], all_yes hall⟩
  rintro s ⟨e1, e2, hM⟩
  rw [hM, Bool.true_and] at hR
  refine cutS (fun st => c.sales.all (saleOK order) = true) ?_ ?_
  · intro k0 hk0
    simp -implicitDefEqProofs
    refine loop_up c.sales.length (fun k s => s.env 1 = IL order ∧ s.env 2 = caseRef c ∧ s.env 6 = I k ∧ ∀ x ∈ c.sales.take k, saleOK order x = true) ?_ ?_
    · simp [e1, e2]
    rintro k s hk ⟨e1, e2, e6, hall⟩
    simp -implicitDefEqProofs [e2, e6]
    refine cond_dec (fun hlt => ?_) (fun hge => ?_)
    · have hlt : k < c.sales.length := by omega
      have hta := take_all hlt hall
      have hno := all_no (p := saleOK order) hlt
      generalize hx : c.sales[k] = x at *
      have hq : saleOK order x = (((decide (x.src = -1) || decide (x.src ∈ order)) && (decide (x.dst = -1) || decide (x.dst ∈ order))) && (decide (x.src = -1) || (decide (x.dst = -1) || decide (at' order x.dst = at' order x.src + 1)))) := rfl
      have hbad : saleOK order x = false → R = false := fun e => by rw [hR, hno e]
      refine stepB ?_
      refine cutS (fun st => st.env 1 = IL order ∧ st.env 2 = caseRef c ∧ st.env 6 = I k ∧ st.env 7 = .ref [I x.year, I x.src, I x.dst]) ?_ ?_
      · intro k1 hk1
        simp -implicitDefEqProofs [e2, e6, hlt, hx]
        intro b hb
        exact hk1 _ (by simp [e1, e2, e6])
      rintro s ⟨e1, e2, e6, e7⟩
      have l1 := at_len order x.src
      have l2 := at_len order x.dst
      have hinS : ¬ at' order x.src < 0 → x.src ∈ order := fun hn => Decidable.not_not.1 fun h => hn (at_neg.2 h)
      have hinD : ¬ at' order x.dst < 0 → x.dst ∈ order := fun hn => Decidable.not_not.1 fun h => hn (at_neg.2 h)
      refine cutS (fun st => st.env 1 = IL order ∧ st.env 2 = caseRef c ∧ st.env 6 = I k ∧ st.env 7 = .ref [I x.year, I x.src, I x.dst] ∧ (x.src = -1 ∨ x.src ∈ order) ∧ (x.dst = -1 ∨ x.dst ∈ order)) ?_ ?_
      · intro k1 hk1
        by_cases h0 : x.src = -1
        · have h0' : (x.src != -1) = false := by simp [h0]
          by_cases h1 : x.dst = -1
          · have h1' : (x.dst != -1) = false := by simp [h1]
            simp -implicitDefEqProofs [e7, h0', h1']
            exact hk1 _ (by simp [e1, e2, e6, e7, h0, h1])
          · have h1' : (x.dst != -1) = true := by simp [h1]
            simp -implicitDefEqProofs [e1, e7, h0', h1']
            refine vCall_of (at_ok order x.dst) ?_
            by_cases hn : at' order x.dst < 0
            · have hR0 := hbad (by rw [hq, decide_eq_false h1, decide_eq_false (at_neg.1 hn)]; simp)
              simp -implicitDefEqProofs [hn, r91, hR0]
            · simp -implicitDefEqProofs [hn]
              exact hk1 _ (by simp [e1, e2, e6, e7, h0, hinD hn])
        · have h0' : (x.src != -1) = true := by simp [h0]
          simp -implicitDefEqProofs [e1, e7, h0']
          refine vCall_of (at_ok order x.src) ?_
          by_cases hn : at' order x.src < 0
          · have hR0 := hbad (by rw [hq, decide_eq_false h0, decide_eq_false (at_neg.1 hn)]; simp)
            simp -implicitDefEqProofs [hn, r91, hR0]
          · by_cases h1 : x.dst = -1
            · have h1' : (x.dst != -1) = false := by simp [h1]
              simp -implicitDefEqProofs [e7, hn, h1']
              exact hk1 _ (by simp [e1, e2, e6, e7, h1, hinS hn])
            · have h1' : (x.dst != -1) = true := by simp [h1]
              simp -implicitDefEqProofs [e1, e7, hn, h1']
              refine vCall_of (at_ok order x.dst) ?_
              by_cases hn2 : at' order x.dst < 0
              · have hR0 := hbad (by rw [hq, decide_eq_false h1, decide_eq_false (at_neg.1 hn2)]; simp)
                simp -implicitDefEqProofs [hn2, r91, hR0]
              · simp -implicitDefEqProofs [hn2]
                exact hk1 _ (by simp [e1, e2, e6, e7, hinS hn, hinD hn2])
      rintro s ⟨e1, e2, e6, e7, hsrc, hdst⟩
      have hq2 : saleOK order x = (decide (x.src = -1) || (decide (x.dst = -1) || decide (at' order x.dst = at' order x.src + 1))) := by
        rw [hq]
        have a1 : (decide (x.src = -1) || decide (x.src ∈ order)) = true := by simpa using hsrc
        have a2 : (decide (x.dst = -1) || decide (x.dst ∈ order)) = true := by simpa using hdst
        rw [a1, a2]; rfl
      by_cases h0 : x.src = -1
      · have h0' : (x.src != -1) = false := by simp [h0]
        simp -implicitDefEqProofs [e7, h0', e6]
        exact ⟨i64 (by omega) (by omega), round_ok hlt ⟨by simp [e1], by simp [e2], by simp, hta (by simp [hq2, h0])⟩⟩
      have h0' : (x.src != -1) = true := by simp [h0]
      by_cases h1 : x.dst = -1
      · have h1' : (x.dst != -1) = false := by simp [h1]
        simp -implicitDefEqProofs [e7, h0', h1', e6]
        exact ⟨i64 (by omega) (by omega), round_ok hlt ⟨by simp [e1], by simp [e2], by simp, hta (by simp [hq2, h1])⟩⟩
      have h1' : (x.dst != -1) = true := by simp [h1]
      simp -implicitDefEqProofs [e1, e7, h0', h1']
      refine vCall_of (at_ok order x.dst) ?_
      simp -implicitDefEqProofs [e1, e7]
      refine vCall_of (at_ok order x.src) ?_
      simp -implicitDefEqProofs
      refine ⟨i64 (by omega) (by omega), cond_bool (fun he => ?_) (fun he => ?_)⟩
      · have he : at' order x.dst ≠ at' order x.src + 1 := by simpa using he
        have hR0 := hbad (by rw [hq2]; simp [h0, h1, he])
        simp -implicitDefEqProofs [r91, hR0]
      · have he : at' order x.dst = at' order x.src + 1 := by simpa using he
        simp -implicitDefEqProofs [e6]
        exact ⟨i64 (by omega) (by omega), round_ok hlt ⟨by simp [e1], by simp [e2], by simp, hta (by simp [hq2, he])⟩⟩
    · obtain rfl : k = c.sales.length := by omega
      simp -implicitDefEqProofs
      exact hk0 _ (all_yes hall)
  intro s hS
  rw [hS] at hR
  simp -implicitDefEqProofs [r91, hR]
end Go.Proofs.Ytiampdiobdianaa

namespace Go.Proofs.Ytiampdiobdianaa
open Go.Avm

theorem at_nodup {o : List Int} (h : o.Nodup) {i : Nat} (hi : i < o.length) : at' o o[i] = i := by
  obtain ⟨k, hk, h1, h2⟩ := at_mem (List.getElem_mem hi)
  rw [h1]
  have := (List.getElem_inj h (h₀ := hk) (h₁ := hi)).1 h2
  omega
abbrev fMax (q : Sale → Prop) [DecidablePred q] (l : List Sale) (a : Int) : Int := l.foldl (fun a s => if q s then max a s.year else a) a
abbrev fMin (q : Sale → Prop) [DecidablePred q] (l : List Sale) (a : Int) : Int := l.foldl (fun a s => if q s then min a s.year else a) a
theorem fMax_max (q : Sale → Prop) [DecidablePred q] : ∀ (l : List Sale) (a b : Int), fMax q l (max a b) = max a (fMax q l b)
  | [], a, b => rfl
  | s :: l, a, b => by
    show fMax q l (if q s then max (max a b) s.year else max a b) = max a (fMax q l (if q s then max b s.year else b))
    by_cases h : q s
    · rw [if_pos h, if_pos h, Int.max_assoc, fMax_max q l]
    · rw [if_neg h, if_neg h, fMax_max q l]
theorem fMax_ge (q : Sale → Prop) [DecidablePred q] : ∀ (l : List Sale) (a : Int), a ≤ fMax q l a ∧ ∀ s ∈ l, q s → s.year ≤ fMax q l a
  | [], a => ⟨Int.le_refl _, by simp⟩
  | s :: l, a => by
    have ih := fMax_ge q l (if q s then max a s.year else a)
    show a ≤ fMax q l (if q s then max a s.year else a) ∧ _
    refine ⟨Int.le_trans ?_ ih.1, fun x hx hq => ?_⟩
    · split <;> omega
    · rcases List.mem_cons.1 hx with rfl | hx
      · rw [if_pos hq] at ih
        have h1 := ih.1
        show x.year ≤ fMax q l (if q x then max a x.year else a)
        rw [if_pos hq]; omega
      · exact ih.2 x hx hq
theorem fMin_le (q : Sale → Prop) [DecidablePred q] : ∀ (l : List Sale) (a : Int), fMin q l a ≤ a ∧ ∀ s ∈ l, q s → fMin q l a ≤ s.year
  | [], a => ⟨Int.le_refl _, by simp⟩
  | s :: l, a => by
    have ih := fMin_le q l (if q s then min a s.year else a)
    show fMin q l (if q s then min a s.year else a) ≤ a ∧ _
    refine ⟨Int.le_trans ih.1 ?_, fun x hx hq => ?_⟩
    · split <;> omega
    · rcases List.mem_cons.1 hx with rfl | hx
      · rw [if_pos hq] at ih
        have h1 := ih.1
        show fMin q l (if q x then min a x.year else a) ≤ x.year
        rw [if_pos hq]; omega
      · exact ih.2 x hx hq
theorem fMin_ge (q : Sale → Prop) [DecidablePred q] {f : Int} : ∀ (l : List Sale) (a : Int), f ≤ a → (∀ s ∈ l, q s → f ≤ s.year) → f ≤ fMin q l a
  | [], a, h, _ => h
  | s :: l, a, h, hs => by
    refine fMin_ge q l _ ?_ (fun x hx => hs x (by simp [hx]))
    show f ≤ if q s then min a s.year else a
    split
    · rename_i hq; have := hs s (by simp) hq; omega
    · exact h

/-! ## Runs -/
theorem marksUp_shift (c : Case) (o : Nat) (f : Int) (Y : Nat → Int) (t g : Int) : ∀ k, marksUp c o f Y (max t g) k = (marksUp c o f Y t k).map fun x => (x.1, max x.2 g)
  | 0 => rfl
  | k + 1 => by
    show (marksUp c o f Y (max t g) k).bind _ = ((marksUp c o f Y t k).bind _).map _
    rw [marksUp_shift c o f Y t g k]
    cases marksUp c o f Y t k with
    | none => rfl
    | some x =>
      simp only [Option.map_some, Option.bind_some]
      unfold markStep
      split
      · rfl
      · simp only
        split
        · rfl
        · simp only [Option.map_some, Option.some.injEq, Prod.mk.injEq, true_and]
          omega
theorem marksUp_ge {c : Case} {o : Nat} {f : Int} {Y : Nat → Int} {t : Int} : ∀ {k : Nat} {x : (Nat → Int) × Int}, marksUp c o f Y t k = some x → t ≤ x.2
  | 0, x, h => by injection h with h; rw [← h]; exact Int.le_refl _
  | k + 1, x, h => by
    have h : (marksUp c o f Y t k).bind (markStep c o f k) = some x := h
    rw [Option.bind_eq_some_iff] at h
    obtain ⟨y, hy, h⟩ := h
    have ih := marksUp_ge hy
    unfold markStep at h
    split at h
    · injection h with h; rw [← h]; exact ih
    · split at h
      · cases h
      · injection h with h; rw [← h]; show t ≤ max _ _; omega
theorem runUp_since {c : Case} {order : List Int} : ∀ {i : Nat} {x : Run}, runUp c order i = some x → c.printed ≤ x.since
  | 0, x, h => by injection h with h; rw [← h]; exact Int.le_refl _
  | i + 1, x, h => by
    have h : (runUp c order i).bind (stepO c (order.getD i 0).toNat) = some x := h
    rw [Option.bind_eq_some_iff] at h
    obtain ⟨y, hy, h⟩ := h
    have ih := runUp_since hy
    unfold stepO at h
    rw [Option.bind_eq_some_iff] at h
    obtain ⟨z, hz, h⟩ := h
    have := marksUp_ge hz
    split at h
    · cases h
    · injection h with h; rw [← h]; show c.printed ≤ z.2; omega

/-- Whether all marks of the owners of an order below i, and of that at i below k, lie upon none of a later owner. -/
def UnderTo (c : Case) (order : List Int) (i k : Nat) : Prop := ∀ q (hq : q < c.marks.length), (at' order c.marks[q].owner < i ∨ (at' order c.marks[q].owner = i ∧ q < k)) → under c order c.marks[q] = true
theorem under_zero {c : Case} {order : List Int} (h : ∀ m ∈ c.marks, m.owner ∈ order) : UnderTo c order 0 0 := by
  intro q hq hlt
  have := at_neg (o := order) (x := c.marks[q].owner)
  rcases hlt with hlt | ⟨_, hlt⟩
  · exact absurd (h _ (List.getElem_mem hq)) (this.1 hlt)
  · omega
theorem under_skip {c : Case} {order : List Int} {i k : Nat} (h : UnderTo c order i k) (hk : ∀ hk : k < c.marks.length, at' order c.marks[k].owner ≠ i) : UnderTo c order i (k + 1) := by
  intro q hq hlt
  rcases hlt with hlt | ⟨h1, hlt⟩
  · exact h q hq (.inl hlt)
  · by_cases e : q = k
    · subst e; exact absurd h1 (hk hq)
    · exact h q hq (.inr ⟨h1, by omega⟩)
theorem under_next {c : Case} {order : List Int} {i k : Nat} (h : UnderTo c order i k) (hk : ∀ hk : k < c.marks.length, under c order c.marks[k] = true) : UnderTo c order i (k + 1) := by
  intro q hq hlt
  rcases hlt with hlt | ⟨h1, hlt⟩
  · exact h q hq (.inl hlt)
  · by_cases e : q = k
    · subst e; exact hk hq
    · exact h q hq (.inr ⟨h1, by omega⟩)
theorem under_round {c : Case} {order : List Int} {i : Nat} (h : UnderTo c order i c.marks.length) : UnderTo c order (i + 1) 0 := by
  intro q hq hlt
  rcases hlt with hlt | ⟨_, hlt⟩
  · by_cases e : at' order c.marks[q].owner = i
    · exact h q hq (.inr ⟨e, hq⟩)
    · exact h q hq (.inl (by omega))
  · omega
theorem under_all {c : Case} {order : List Int} (h : UnderTo c order order.length 0) : layeredB c order = true := by
  unfold layeredB
  rw [List.all_eq_true]
  intro m hm
  obtain ⟨q, hq, rfl⟩ := List.getElem_of_mem hm
  exact h q hq (.inl (at_len _ _).2)
theorem under_bad {c : Case} {order : List Int} {m : Mk} (hm : m ∈ c.marks) (h : under c order m = false) : solveS c order = none := by
  have : layeredB c order = false := by
    unfold layeredB
    rw [List.all_eq_false]
    exact ⟨m, hm, by simp [h]⟩
  unfold solveS rulesB
  rw [this]; simp
theorem solve_need {c : Case} {order : List Int} (h : needB c order = false) : solveS c order = none := by
  have e : rulesB c order = false := by
    unfold rulesB
    rw [← Bool.and_assoc, ← needB_eq, h]; rfl
  unfold solveS
  rw [e]; rfl
theorem solve_run {c : Case} {order : List Int} (h : needB c order = true) (hl : layeredB c order = true) : solveS c order = (runUp c order order.length).map Run.raw := by
  have e : rulesB c order = true := by
    unfold rulesB
    rw [← Bool.and_assoc, ← needB_eq, h, hl]; rfl
  unfold solveS
  rw [e]; rfl
theorem need_marks {c : Case} {order : List Int} (h : needB c order = true) : ∀ m ∈ c.marks, m.owner ∈ order := by
  intro m hm
  unfold needB at h
  rw [Bool.and_eq_true] at h
  have := List.all_eq_true.1 h.1 m hm
  simpa [markIn] using this

/-- The first year of an owner. -/
theorem from_eq {c : Case} {o : Nat} {since : Int} (h : c.printed ≤ since) : fMax (fun s => s.dst = (o : Int)) c.sales (max since (owerAt c o).born) = max since (bLo c c.sales o) := by
  rw [show max since (owerAt c o).born = max since (max c.printed (owerAt c o).born) by omega, fMax_max]
  rfl
theorem born_from {c : Case} {o : Nat} {since : Int} : (owerAt c o).born ≤ max since (bLo c c.sales o) := by
  have := (fMax_ge (fun s => s.dst = (o : Int)) c.sales (max c.printed (owerAt c o).born)).1
  have h : bLo c c.sales o = fMax (fun s => s.dst = (o : Int)) c.sales (max c.printed (owerAt c o).born) := rfl
  omega
theorem to_eq {c : Case} {o : Nat} {t : Int} (h : (owerAt c o).born ≤ t) : fMax (fun s => s.src = (o : Int)) c.sales t = max t (gLo c c.sales o) := by
  rw [show t = max t (owerAt c o).born by omega, fMax_max, show max t (owerAt c o).born = t by omega]
  rfl
/-- The reference's tests of an owner's years are the program's. -/
theorem step_test {c : Case} {o : Nat} {f t : Int} (hf : f ≤ t) (hs : ∀ s ∈ c.sales, s.dst = (o : Int) → s.year = f) :
    (bHi c c.sales o < f ∨ gHi c c.sales o < t) ↔ gHi c c.sales o < t := by
  constructor
  · rintro (h | h)
    · have h1 := (fMin_le (fun s => s.src = (o : Int)) c.sales (min (owerAt c o).died c.now)).1
      have e1 : gHi c c.sales o = fMin (fun s => s.src = (o : Int)) c.sales (min (owerAt c o).died c.now) := rfl
      by_cases hn : f ≤ c.now
      · have := fMin_ge (fun s => s.dst = (o : Int)) c.sales c.now hn (fun s h1 h2 => by rw [hs s h1 h2]; exact Int.le_refl _)
        have e2 : bHi c c.sales o = fMin (fun s => s.dst = (o : Int)) c.sales c.now := rfl
        omega
      · omega
    · exact h
  · exact .inr
theorem step_bad {c : Case} {o : Nat} {since : Int} (hp : c.printed ≤ since) {s : Sale} (hm : s ∈ c.sales) (hd : s.dst = (o : Int)) (hne : max since (bLo c c.sales o) ≠ s.year) : bHi c c.sales o < max since (bLo c c.sales o) := by
  have h1 := (fMax_ge (fun s => s.dst = (o : Int)) c.sales (max since (owerAt c o).born)).2 s hm hd
  rw [from_eq hp] at h1
  have h2 := (fMin_le (fun s => s.dst = (o : Int)) c.sales c.now).2 s hm hd
  have e2 : bHi c c.sales o = fMin (fun s => s.dst = (o : Int)) c.sales c.now := rfl
  omega
end Go.Proofs.Ytiampdiobdianaa

namespace Go.Proofs.Ytiampdiobdianaa
open Go.Avm

/-- The holds so far, in the reference's block. -/
def HR (b4 b5 : Nat) (l : List Hold) (v : AV) (loc : Nat → Option (List AV)) : Prop :=
  (l = [] ∧ v = .lit (.slice none 0 0)) ∨ ∃ hb cap cs, l ≠ [] ∧ v = .mslice hb 0 l.length cap 3 ∧ loc hb = some cs ∧ HBlk cs l cap ∧ hb ≠ b4 ∧ hb ≠ b5
theorem HR.ext {b4 b5 : Nat} {l : List Hold} {v v' : AV} {loc loc' : Nat → Option (List AV)} (h : HR b4 b5 l v loc) (hv : v' = v) (hl : ∀ c, c ≠ b4 → c ≠ b5 → loc c ≠ none → loc' c = loc c) : HR b4 b5 l v' loc' := by
  subst hv
  rcases h with ⟨h1, h2⟩ | ⟨hb, cap, cs, h1, h2, h3, h4, h5, h6⟩
  · exact .inl ⟨h1, h2⟩
  · exact .inr ⟨hb, cap, cs, h1, h2, by rw [hl hb h5 h6 (by rw [h3]; simp)]; exact h3, h4, h5, h6⟩
structure ZJ (c : Case) (order : List Int) (b4 b5 i : Nat) (Y : Nat → Int) (l : List Hold) (s : St) : Prop where
  e : s.env 1 = IL order ∧ s.env 2 = caseRef c ∧ s.env 4 = .mref b4 0 ∧ s.env 5 = .mslice b5 0 c.marks.length c.marks.length 1 ∧ s.env 8 = I i
  l4 : s.loc b4 = some [B false, .slice 3 [] 5001, I 0]
  l5 : s.loc b5 = some (cl c.marks.length Y)
  hs : HR b4 b5 l (s.env 6) s.loc
theorem ZJ.ext {c : Case} {order : List Int} {b4 b5 i : Nat} {Y : Nat → Int} {l : List Hold} {s s' : St} (h : ZJ c order b4 b5 i Y l s)
    (he : ∀ k ∈ [1, 2, 4, 5, 6, 8], s'.env k = s.env k) (hl : ∀ c, s.loc c ≠ none → s'.loc c = s.loc c) : ZJ c order b4 b5 i Y l s' := by
  simp only [List.mem_cons, List.not_mem_nil, or_false, forall_eq_or_imp, forall_eq] at he
  obtain ⟨a1, a2, a4, a5, a6, a8⟩ := he
  obtain ⟨e1, e2, e4, e5, e8⟩ := h.e
  exact ⟨⟨a1.trans e1, a2.trans e2, a4.trans e4, a5.trans e5, a8.trans e8⟩, by rw [hl b4 (by rw [h.l4]; simp)]; exact h.l4, by rw [hl b5 (by rw [h.l5]; simp)]; exact h.l5, h.hs.ext a6 (fun c _ _ hc => hl c hc)⟩
theorem ZJ.years {c : Case} {order : List Int} {b4 b5 i : Nat} {Y Y' : Nat → Int} {l : List Hold} {s s' : St} (h : ZJ c order b4 b5 i Y l s) (h54 : b5 ≠ b4)
    (he : ∀ k ∈ [1, 2, 4, 5, 6, 8], s'.env k = s.env k) (hl : ∀ c, c ≠ b5 → s'.loc c = s.loc c) (h5 : s'.loc b5 = some (cl c.marks.length Y')) : ZJ c order b4 b5 i Y' l s' := by
  simp only [List.mem_cons, List.not_mem_nil, or_false, forall_eq_or_imp, forall_eq] at he
  obtain ⟨a1, a2, a4, a5, a6, a8⟩ := he
  obtain ⟨e1, e2, e4, e5, e8⟩ := h.e
  exact ⟨⟨a1.trans e1, a2.trans e2, a4.trans e4, a5.trans e5, a8.trans e8⟩, by rw [hl b4 (fun e => h54 e.symm)]; exact h.l4, h5, h.hs.ext a6 (fun c _ hc _ => hl c hc)⟩
/-- What Solve returns. -/
def solvedAV (c : Case) : Option (List Hold) → AV
  | none => .agg [B false, HL [], I 0]
  | some l => .agg [B true, HL (cutL l), I (unknownS c l)]
theorem rep_cl (n : Nat) : (List.replicate n [I 0]).flatten = cl n fun _ => 0 := by
  apply List.ext_getElem (by simp [cl])
  intro i h1 h2
  simp [cl]

theorem hcells_get : ∀ (l : List Hold) (i : Nat) (hi : i < l.length), (hcells l)[i * 3]? = some (I l[i].who) ∧ (hcells l)[i * 3 + 1]? = some (I l[i].src) ∧ (hcells l)[i * 3 + 2]? = some (I l[i].til)
  | [], i, h => by simp at h
  | a :: l, 0, _ => ⟨rfl, rfl, rfl⟩
  | a :: l, i + 1, h => by
    have ih := hcells_get l i (by simpa using h)
    have e : hcells (a :: l) = [I a.who, I a.src, I a.til] ++ hcells l := rfl
    rw [e]
    refine ⟨?_, ?_, ?_⟩
    · rw [List.getElem?_append_right (by simp; omega), show (i + 1) * 3 - [I a.who, I a.src, I a.til].length = i * 3 by simp; omega]; exact ih.1
    · rw [List.getElem?_append_right (by simp; omega), show (i + 1) * 3 + 1 - [I a.who, I a.src, I a.til].length = i * 3 + 1 by simp; omega]; exact ih.2.1
    · rw [List.getElem?_append_right (by simp; omega), show (i + 1) * 3 + 2 - [I a.who, I a.src, I a.til].length = i * 3 + 2 by simp; omega]; exact ih.2.2
theorem hblk_get {cs : List AV} {l : List Hold} {cap : Nat} (hb : HBlk cs l cap) {i : Nat} (hi : i < l.length) : ∃ h : i * 3 + 2 < cs.length, cs[i * 3 + 1]'(by omega) = I l[i].src ∧ cs[i * 3 + 2]'h = I l[i].til := by
  have hle := hb.le
  have hlen := hb.len
  have h3 := hcells_get l i hi
  rw [← hb.cells] at h3
  rw [List.getElem?_take_of_lt (by omega), List.getElem?_take_of_lt (by omega), List.getElem?_take_of_lt (by omega)] at h3
  refine ⟨by omega, ?_, ?_⟩
  · have := h3.2.1
    rw [List.getElem?_eq_getElem (by omega)] at this
    exact Option.some.inj this
  · have := h3.2.2
    rw [List.getElem?_eq_getElem (by omega)] at this
    exact Option.some.inj this
theorem hcells_set : ∀ (l : List Hold) (i : Nat) (hi : i < l.length) (v : Int), (hcells l).set (i * 3 + 2) (I v) = hcells (l.set i ⟨l[i].who, l[i].src, v⟩)
  | [], i, h, _ => by simp at h
  | a :: l, 0, _, _ => rfl
  | a :: l, i + 1, h, v => by
    have ih := hcells_set l i (by simpa using h) v
    have e : hcells (a :: l) = [I a.who, I a.src, I a.til] ++ hcells l := rfl
    rw [e, List.set_append_right _ _ (by simp; omega), show (i + 1) * 3 + 2 - [I a.who, I a.src, I a.til].length = i * 3 + 2 by simp; omega, ih]
    rfl
theorem hblk_set {cs : List AV} {l : List Hold} {cap : Nat} (hb : HBlk cs l cap) {i : Nat} (hi : i < l.length) (v : Int) : HBlk (cs.set (i * 3 + 2) (I v)) (l.set i ⟨l[i].who, l[i].src, v⟩) cap := by
  refine ⟨by simpa using hb.le, by rw [List.length_set]; exact hb.len, ?_, fun x hx => ?_⟩
  · rw [List.length_set, List.take_set, hb.cells, hcells_set l i hi v]
  · rcases List.mem_or_eq_of_mem_set hx with hx | rfl
    · exact hb.num x hx
    · exact ⟨_, rfl⟩
/-- The holds of which the first i are cut. -/
def cutN (l : List Hold) : Nat → List Hold
  | 0 => l
  | i + 1 => (cutN l i).set i (cut (l.getD i ⟨0, 0, 0⟩) (l.getD (i + 1) ⟨0, 0, 0⟩).src)
theorem cutN_len (l : List Hold) : ∀ i, (cutN l i).length = l.length
  | 0 => rfl
  | i + 1 => by unfold cutN; rw [List.length_set, cutN_len l i]
theorem cutN_get (l : List Hold) : ∀ (i j : Nat) (h : j < (cutN l i).length), (cutN l i)[j] = if j < i then cut (l.getD j ⟨0, 0, 0⟩) (l.getD (j + 1) ⟨0, 0, 0⟩).src else l.getD j ⟨0, 0, 0⟩
  | 0, j, h => by
    have h' : j < l.length := h
    simp [cutN, h']
  | i + 1, j, h => by
    have ih := cutN_get l i j (by rw [cutN_len] at h ⊢; exact h)
    simp only [cutN, List.getElem_set]
    by_cases e : i = j
    · subst e; simp
    · rw [if_neg e, ih]
      by_cases h2 : j < i
      · rw [if_pos h2, if_pos (by omega)]
      · rw [if_neg h2, if_neg (by omega)]
theorem cutL_get : ∀ (l : List Hold) (j : Nat) (h : j < (cutL l).length), (cutL l)[j] = if j + 1 < l.length then cut (l.getD j ⟨0, 0, 0⟩) (l.getD (j + 1) ⟨0, 0, 0⟩).src else l.getD j ⟨0, 0, 0⟩
  | [], j, h => by simp [cutL] at h
  | [a], 0, h => by simp [cutL]
  | [a], j + 1, h => by simp [cutL] at h
  | a :: b :: l, 0, h => by simp [cutL]
  | a :: b :: l, j + 1, h => by
    have ih := cutL_get (b :: l) j (by rw [cutL_len] at h ⊢; simpa using h)
    simp only [cutL, List.getElem_cons_succ, ih, List.length_cons, List.getD_cons_succ, Nat.add_lt_add_iff_right]
theorem cutN_all (l : List Hold) : cutN l (l.length - 1) = cutL l := by
  apply List.ext_getElem (by rw [cutN_len, cutL_len])
  intro j h1 h2
  rw [cutN_get, cutL_get]
  by_cases h : j + 1 < l.length
  · rw [if_pos h, if_pos (by omega)]
  · rw [if_neg h, if_neg (by omega)]
theorem gaps_take {l : List Hold} {p : Int} {i : Nat} (hi : i + 1 < l.length) : gaps p (l.take (i + 2)) = gaps p (l.take (i + 1)) + if l[i].til < l[i + 1].src then 1 else 0 := by
  rw [take_snoc hi, gaps_snoc, take_snoc (show i < l.length by omega), lastTil_snoc]

theorem solve62_ok {c : Case} (h : c.OK) {order : List Int} (ho : ∀ x ∈ order, 0 ≤ x ∧ x < c.owners.length) (hnd : order.Nodup) (hol : order.length ≤ 100) :
    PCall Try.prog 62 [encCase c, IL order] (solvedAV c (solveS c order)) := by
  refine pcall Try.func62 tr62 rs62 fn62 (by simp [Try.ntmps62]) fun _ => ?_
  have hm9 := h.marksLen
  have hs4 := h.salesLen
  have cN := needed91_ok c order h hol
  obtain ⟨R, hR⟩ : ∃ R, R = solvedAV c (solveS c order) := ⟨_, rfl⟩
  rw [← hR]
  simp -implicitDefEqProofs only [m62]
  refine cutS (fun st => st.env 1 = IL order ∧ st.env 2 = caseRef c ∧ ∃ b4, st.env 4 = .mref b4 0 ∧ st.loc b4 = some [B false, .slice 3 [] 5001, I 0]) ?_ ?_
  · intro k hk
    simp -implicitDefEqProofs
    intro b
    exact hk _ ⟨by simp, by simp, b, by simp, by simp⟩
  rintro s ⟨e1, e2, b4, e4, l4⟩
  have hfail : solveS c order = none → R = .agg [B false, HL [], I 0] := fun e => by rw [hR, e]; rfl
  refine cutS (fun st => st.env 1 = IL order ∧ st.env 2 = caseRef c ∧ st.env 4 = .mref b4 0 ∧ st.loc b4 = some [B false, .slice 3 [] 5001, I 0] ∧ needB c order = true) ?_ ?_
  · intro k hk
    simp -implicitDefEqProofs [e1, e2]
    refine vCall_of cN ?_
    cases hN : needB c order with
    | false =>
      have hR0 := hfail (solve_need hN)
      simp -implicitDefEqProofs [e4, l4, r62, hR0]
    | true =>
      simp -implicitDefEqProofs
      exact hk _ ⟨by simp [e1], by simp [e2], by simp [e4], by simp [l4], hN⟩
  rintro s ⟨e1, e2, e4, l4, hN⟩
  have hNM := need_marks hN
  refine cutS (fun st => st.env 1 = IL order ∧ st.env 2 = caseRef c ∧ st.env 4 = .mref b4 0 ∧ st.loc b4 = some [B false, .slice 3 [] 5001, I 0] ∧ ∃ b5, st.env 5 = .mslice b5 0 c.marks.length c.marks.length 1 ∧ st.loc b5 = some (cl c.marks.length fun _ => 0) ∧ b5 ≠ b4) ?_ ?_
  · intro k hk
    simp -implicitDefEqProofs [e2]
    refine ⟨by omega, by omega, fun b hb => ?_⟩
    have h4b : ¬ b4 = b := by rintro rfl; rw [l4] at hb; cases hb
    have hb4 : ¬ b = b4 := fun e => h4b e.symm
    refine hk _ ⟨by simp [e1], by simp [e2], by simp [e4], by simp [l4, h4b], b, by simp, ?_, hb4⟩
    rw [← rep_cl]
    simp
  rintro s ⟨e1, e2, e4, l4, b5, e5, l5, h54⟩
  refine cutS (fun st => st.env 1 = IL order ∧ st.env 2 = caseRef c ∧ st.env 4 = .mref b4 0 ∧ st.loc b4 = some [B false, .slice 3 [] 5001, I 0] ∧ st.env 5 = .mslice b5 0 c.marks.length c.marks.length 1 ∧ st.loc b5 = some (cl c.marks.length fun _ => 0) ∧ st.env 6 = .lit (.slice none 0 0)) ?_ ?_
  · intro k hk
    simp -implicitDefEqProofs
    exact hk _ (by simp [e1, e2, e4, l4, e5, l5])
  rintro s ⟨e1, e2, e4, l4, e5, l5, e6⟩
  refine cutS (fun st => st.env 1 = IL order ∧ st.env 2 = caseRef c ∧ st.env 4 = .mref b4 0 ∧ st.loc b4 = some [B false, .slice 3 [] 5001, I 0] ∧ st.env 5 = .mslice b5 0 c.marks.length c.marks.length 1 ∧ st.loc b5 = some (cl c.marks.length fun _ => 0) ∧ st.env 6 = .lit (.slice none 0 0) ∧ st.env 7 = I c.printed) ?_ ?_
  · intro k hk
    simp -implicitDefEqProofs [e2]
    exact hk _ (by simp [e1, e2, e4, l4, e5, l5, e6])
  rintro s ⟨e1, e2, e4, l4, e5, l5, e6, e7⟩
  refine cutS (fun st => ∃ x, runUp c order order.length = some x ∧ UnderTo c order order.length 0 ∧ ZJ c order b4 b5 order.length x.years x.raw st) ?_ ?_
  · intro k0 hk0
    simp -implicitDefEqProofs
    refine loop_up order.length (fun i st => ∃ x, runUp c order i = some x ∧ UnderTo c order i 0 ∧ ZJ c order b4 b5 i x.years x.raw st ∧ st.env 7 = I x.since) ?_ ?_
    · exact ⟨_, rfl, under_zero hNM, ⟨by simp [e1, e2, e4, e5], by simp [l4], by simp [l5], .inl ⟨rfl, by simp [e6]⟩⟩, by simp [e7]⟩
    rintro i s hi ⟨x, hx, hU, hJ, e7⟩
    obtain ⟨e1, e2, e4, e5, e8⟩ := hJ.e
    simp -implicitDefEqProofs [e1, e8]
    refine cond_dec (fun hlt => ?_) (fun hge => ?_)
    · have hlt : i < order.length := by omega
      have hoi := ho _ (List.getElem_mem hlt)
      obtain ⟨o, hoo⟩ : ∃ o : Nat, order[i] = o := ⟨order[i].toNat, by omega⟩
      have hon : o < c.owners.length := by omega
      have hat : at' order o = i := by rw [← hoo]; exact at_nodup hnd hlt
      have hstep : runUp c order (i + 1) = stepO c o x := by
        show (runUp c order i).bind _ = _
        rw [hx, Option.bind_some]
        congr 1
        rw [List.getD_eq_getElem?_getD, List.getElem?_eq_getElem hlt, Option.getD_some, hoo, Int.toNat_natCast]
      have hrl : x.raw.length = i := runUp_len _ _ hx
      have hsin := runUp_since hx
      have hbadStep : stepO c o x = none → R = .agg [B false, HL [], I 0] := fun e => hfail (solve_none (i := i + 1) (by omega) (hstep.trans e))
      have hin := sold_in h o
      have how := ower_in h o
      have hown := ower_at hon
      obtain ⟨w, hw⟩ : ∃ w, w = owerAt c o := ⟨_, rfl⟩
      have hw2 : c.owners[o] = w := by rw [hw]; unfold owerAt; exact hown.symm
      obtain ⟨f, hf⟩ : ∃ f, f = max x.since (bLo c c.sales o) := ⟨_, rfl⟩
      have hfe := from_eq (o := o) hsin
      have hbf := born_from (c := c) (o := o) (since := x.since)
      rw [← hw, ← hf] at hfe hbf
      rw [← hw] at how
      refine stepB ?_
      refine cutS (fun st => ZJ c order b4 b5 i x.years x.raw st ∧ st.env 7 = I x.since ∧ st.env 9 = I o) ?_ ?_
      · intro k1 hk1
        simp -implicitDefEqProofs [e1, e8, hlt, hoo]
        exact hk1 _ ⟨hJ.ext (by simp) (by simp), by simp [e7], by simp⟩
      rintro s ⟨hJ, e7, e9⟩
      refine cutS (fun st => ZJ c order b4 b5 i x.years x.raw st ∧ st.env 9 = I o ∧ st.env 10 = I (max x.since w.born)) ?_ ?_
      · intro k1 hk1
        obtain ⟨-, e2, -⟩ := hJ.e
        have m1 : (if x.since < w.born then w.born else x.since) = max x.since w.born := by split <;> omega
        simp -implicitDefEqProofs [e2, e7, e9, hon, hw2, m1]
        exact hk1 _ ⟨hJ.ext (by simp) (by simp), by simp [e9], by simp⟩
      rintro s ⟨hJ, e9, e10⟩
      refine cutS (fun st => ZJ c order b4 b5 i x.years x.raw st ∧ st.env 9 = I o ∧ st.env 10 = I (max x.since w.born) ∧ st.env 11 = I (min w.died c.now)) ?_ ?_
      · intro k1 hk1
        obtain ⟨-, e2, -⟩ := hJ.e
        have m1 : (if c.now < w.died then c.now else w.died) = min w.died c.now := by split <;> omega
        simp -implicitDefEqProofs [e2, e9, hon, hw2, m1]
        exact hk1 _ ⟨hJ.ext (by simp) (by simp), by simp [e9], by simp [e10], by simp⟩
      rintro s ⟨hJ, e9, e10, e11⟩
      refine cutS (fun st => ZJ c order b4 b5 i x.years x.raw st ∧ st.env 9 = I o ∧ st.env 10 = I f ∧ st.env 11 = I (min w.died c.now)) ?_ ?_
      · intro k1 hk1
        simp -implicitDefEqProofs
        refine loop_up c.sales.length (fun k st => ZJ c order b4 b5 i x.years x.raw st ∧ st.env 9 = I o ∧ st.env 10 = I (fMax (fun s => s.dst = (o : Int)) (c.sales.take k) (max x.since w.born)) ∧ st.env 11 = I (min w.died c.now) ∧ st.env 12 = I k) ?_ ?_
        · exact ⟨hJ.ext (by simp) (by simp), by simp [e9], by simp [e10], by simp [e11], by simp⟩
        rintro k s hk ⟨hJ, e9, e10, e11, e12⟩
        obtain ⟨-, e2, -⟩ := hJ.e
        simp -implicitDefEqProofs [e2, e12]
        refine cond_dec (fun hlt2 => ?_) (fun hge2 => ?_)
        · have hlt2 : k < c.sales.length := by omega
          have hsn : fMax (fun s => s.dst = (o : Int)) (c.sales.take (k + 1)) (max x.since w.born) = if c.sales[k].dst = (o : Int) then max (fMax (fun s => s.dst = (o : Int)) (c.sales.take k) (max x.since w.born)) c.sales[k].year else fMax (fun s => s.dst = (o : Int)) (c.sales.take k) (max x.since w.born) := by
            rw [take_snoc hlt2]; unfold fMax; rw [List.foldl_append]; rfl
          generalize fMax (fun s => s.dst = (o : Int)) (c.sales.take k) (max x.since w.born) = F at *
          generalize hsl : c.sales[k] = sl at *
          by_cases hd : sl.dst = (o : Int)
          · rw [if_pos hd] at hsn
            have m1 : (if F < sl.year then sl.year else F) = max F sl.year := by split <;> omega
            simp -implicitDefEqProofs [e2, e9, e10, e12, hlt2, hsl, hd, m1]
            refine ⟨i64 (by omega) (by omega), round_ok hlt2 ?_⟩
            rw [hsn]
            exact ⟨hJ.ext (by simp) (by simp), by simp [e9], by simp, by simp [e11], by simp⟩
          · rw [if_neg hd] at hsn
            have hd' : (sl.dst == (o : Int)) = false := by simp [hd]
            simp -implicitDefEqProofs [e2, e9, e12, hlt2, hsl, hd']
            refine ⟨i64 (by omega) (by omega), round_ok hlt2 ?_⟩
            rw [hsn]
            exact ⟨hJ.ext (by simp) (by simp), by simp [e9], by simp [e10], by simp [e11], by simp⟩
        · obtain rfl : k = c.sales.length := by omega
          rw [List.take_length, hfe] at e10
          simp -implicitDefEqProofs
          exact hk1 _ ⟨hJ.ext (by simp) (by simp), by simp [e9], by simp [e10], by simp [e11]⟩
      rintro s ⟨hJ, e9, e10, e11⟩
      refine cutS (fun st => ZJ c order b4 b5 i x.years x.raw st ∧ st.env 9 = I o ∧ st.env 10 = I f ∧ st.env 11 = I (min w.died c.now) ∧ st.env 13 = I f) ?_ ?_
      · intro k1 hk1
        simp -implicitDefEqProofs [e10]
        exact hk1 _ ⟨hJ.ext (by simp) (by simp), by simp [e9], by simp [e10], by simp [e11], by simp⟩
      rintro s ⟨hJ, e9, e10, e11, e13⟩
      have hstepE : stepO c o x = (marksUp c o f x.years (max f (gLo c c.sales o)) c.marks.length).bind fun y => if bHi c c.sales o < f ∨ gHi c c.sales o < y.2 then none else some ⟨y.1, y.2, x.raw ++ [⟨o, f, gHi c c.sales o⟩]⟩ := by
        rw [hf]; rfl
      have hshift := fun k => marksUp_shift c o f x.years f (gLo c c.sales o) k
      refine cutS (fun st => ∃ Yk tk, marksUp c o f x.years f c.marks.length = some (Yk, tk) ∧ UnderTo c order (i + 1) 0 ∧ ZJ c order b4 b5 i Yk x.raw st ∧ st.env 9 = I o ∧ st.env 10 = I f ∧ st.env 11 = I (min w.died c.now) ∧ st.env 13 = I tk) ?_ ?_
      · intro k1 hk1
        simp -implicitDefEqProofs
        refine loop_up c.marks.length (fun k st => ∃ Yk tk, marksUp c o f x.years f k = some (Yk, tk) ∧ UnderTo c order i k ∧ ZJ c order b4 b5 i Yk x.raw st ∧ st.env 9 = I o ∧ st.env 10 = I f ∧ st.env 11 = I (min w.died c.now) ∧ st.env 13 = I tk ∧ st.env 14 = I k) ?_ ?_
        · exact ⟨_, _, rfl, hU, hJ.ext (by simp) (by simp), by simp [e9], by simp [e10], by simp [e11], by simp [e13], by simp⟩
        rintro k s hk ⟨Yk, tk, hy, hU, hJ, e9, e10, e11, e13, e14⟩
        obtain ⟨e1, e2, e4, e5, e8⟩ := hJ.e
        simp -implicitDefEqProofs [e2, e14]
        refine cond_dec (fun hlt2 => ?_) (fun hge2 => ?_)
        · have hlt2 : k < c.marks.length := by omega
          have hgd := mk_at hlt2
          have hup := h.upon k hlt2
          have hsuc : marksUp c o f x.years f (k + 1) = markStep c o f k (Yk, tk) := by
            show (marksUp c o f x.years f k).bind _ = _
            rw [hy, Option.bind_some]
          have hno : markStep c o f k (Yk, tk) = none → R = .agg [B false, HL [], I 0] := fun e => hbadStep (by
            have h1 := marksUp_none (hsuc.trans e) (c.marks.length - (k + 1))
            rw [show k + 1 + (c.marks.length - (k + 1)) = c.marks.length by omega] at h1
            rw [hstepE, hshift, h1]; rfl)
          have hmem : c.marks[k] ∈ c.marks := List.getElem_mem hlt2
          have hUs := fun (hne : at' order c.marks[k].owner ≠ i) => under_skip hU (k := k) (fun _ => hne)
          have hUn := fun (hu : under c order c.marks[k] = true) => under_next hU (k := k) (fun _ => hu)
          have hunder : under c order c.marks[k] = (decide (c.marks[k].upon = -1) || !decide (at' order c.marks[k].owner < at' order (c.marks.getD c.marks[k].upon.toNat mkD).owner)) := rfl
          have hubad := fun (e : under c order c.marks[k] = false) => hfail (under_bad hmem e)
          unfold markStep markY at hsuc hno
          rw [hgd] at hsuc hno
          generalize hm : c.marks[k] = m at *
          refine stepB ?_
          refine cutS (fun st => ZJ c order b4 b5 i Yk x.raw st ∧ st.env 9 = I o ∧ st.env 10 = I f ∧ st.env 11 = I (min w.died c.now) ∧ st.env 13 = I tk ∧ st.env 14 = I k ∧ st.env 15 = .ref [I m.owner, I m.lo, I m.hi, I m.upon]) ?_ ?_
          · intro k2 hk2
            simp -implicitDefEqProofs [e2, e14, hlt2]
            rw [hm]
            intro b hb
            refine hk2 _ ⟨hJ.ext (by simp) (fun c hc => ?_), by simp [e9], by simp [e10], by simp [e11], by simp [e13], by simp [e14], by simp⟩
            have : ¬ c = b := by rintro rfl; exact hc hb
            simp [this]
          rintro s ⟨hJ, e9, e10, e11, e13, e14, e15⟩
          by_cases hmo : m.owner ≠ (o : Int)
          · rw [if_pos hmo] at hsuc
            have hmo' : (m.owner != (o : Int)) = true := by simp [hmo]
            have hU2 := hUs (fun e => hmo (by
              obtain ⟨q, hq1, hq2, hq3⟩ := at_mem (hNM m hmem)
              have : q = i := by omega
              subst this
              rw [← hq3, hoo]))
            simp -implicitDefEqProofs [e9, e15, hmo', e14]
            exact ⟨i64 (by omega) (by omega), round_ok hlt2 ⟨Yk, tk, hsuc, hU2, hJ.ext (by simp) (by simp), by simp [e9], by simp [e10], by simp [e11], by simp [e13], by simp⟩⟩
          rw [if_neg hmo] at hsuc hno
          have hmo2 : m.owner = (o : Int) := Decidable.not_not.1 hmo
          have hmo' : (m.owner != (o : Int)) = false := by simpa using hmo
          refine cutS (fun st => ZJ c order b4 b5 i Yk x.raw st ∧ st.env 9 = I o ∧ st.env 10 = I f ∧ st.env 11 = I (min w.died c.now) ∧ st.env 13 = I tk ∧ st.env 14 = I k ∧ st.env 15 = .ref [I m.owner, I m.lo, I m.hi, I m.upon]) ?_ ?_
          · intro k2 hk2
            simp -implicitDefEqProofs [e9, e15, hmo']
            exact hk2 _ ⟨hJ.ext (by simp) (by simp), by simp [e9], by simp [e10], by simp [e11], by simp [e13], by simp [e14], by simp [e15]⟩
          rintro s ⟨hJ, e9, e10, e11, e13, e14, e15⟩
          refine cutS (fun st => ZJ c order b4 b5 i (putY Yk k (max m.lo f)) x.raw st ∧ st.env 9 = I o ∧ st.env 10 = I f ∧ st.env 11 = I (min w.died c.now) ∧ st.env 13 = I tk ∧ st.env 14 = I k ∧ st.env 15 = .ref [I m.owner, I m.lo, I m.hi, I m.upon]) ?_ ?_
          · intro k2 hk2
            obtain ⟨-, -, -, e5, -⟩ := hJ.e
            have l5 := hJ.l5
            have m1 : (if m.lo < f then f else m.lo) = max m.lo f := by split <;> omega
            simp -implicitDefEqProofs [e5, e10, e14, e15, l5, hlt2, cl_len, m1, cl_set]
            repeat refine ⟨by omega, ?_⟩
            exact hk2 _ ⟨hJ.years h54 (by simp) (fun c hc => by simp [hc]) (by simp; rfl), by simp [e9], by simp [e10], by simp [e11], by simp [e13], by simp [e14], by simp [e15]⟩
          rintro s ⟨hJ, e9, e10, e11, e13, e14, e15⟩
          obtain ⟨z, hz⟩ : ∃ z, z = if m.upon = -1 then max m.lo f else max (max m.lo f) (Yk m.upon.toNat) := ⟨_, rfl⟩
          rw [← hz] at hsuc hno
          refine cutS (fun st => UnderTo c order i (k + 1) ∧ ZJ c order b4 b5 i (putY Yk k z) x.raw st ∧ st.env 9 = I o ∧ st.env 10 = I f ∧ st.env 11 = I (min w.died c.now) ∧ st.env 13 = I tk ∧ st.env 14 = I k ∧ st.env 15 = .ref [I m.owner, I m.lo, I m.hi, I m.upon]) ?_ ?_
          · intro k2 hk2
            obtain ⟨e1, e2, e4, e5, e8⟩ := hJ.e
            have l4 := hJ.l4
            have l5 := hJ.l5
            by_cases h0 : m.upon = -1
            · rw [if_pos h0] at hz
              rw [← hz] at hJ
              have h0' : (m.upon != -1) = false := by simp [h0]
              have hU2 := hUn (by rw [hunder, decide_eq_true h0]; rfl)
              simp -implicitDefEqProofs [e15, h0']
              exact hk2 _ ⟨hU2, hJ.ext (by simp) (by simp), by simp [e9], by simp [e10], by simp [e11], by simp [e13], by simp [e14], by simp [e15]⟩
            · rw [if_neg h0] at hz
              have h0' : (m.upon != -1) = true := by simp [h0]
              obtain ⟨n, hn⟩ : ∃ n : Nat, m.upon = n := ⟨m.upon.toNat, by omega⟩
              have hnk : n < k := by omega
              have hnl : n < c.marks.length := by omega
              have hnk' : ¬ n = k := by omega
              rw [hn, Int.toNat_natCast] at hz hunder
              rw [hn] at h0'
              rw [mk_at hnl, hmo2, hat] at hunder
              have hn1 : decide ((n : Int) = -1) = false := decide_eq_false (by omega)
              rw [hn1, Bool.false_or] at hunder
              have m1 : (if max m.lo f < Yk n then Yk n else max m.lo f) = z := by rw [hz]; split <;> omega
              have m2 : putY Yk k (max m.lo f) k = max m.lo f := by simp [putY]
              have m3 : putY Yk k (max m.lo f) n = Yk n := by simp [putY, hnk']
              have m4 : (fun j => if j = k then z else putY Yk k (max m.lo f) j) = putY Yk k z := by
                funext j
                by_cases e : j = k <;> simp [putY, e]
              generalize hmn : c.marks[n] = mn at *
              simp -implicitDefEqProofs [e1, e2, e15, hn, h0', hnl, hmn]
              refine vCall_of (at_ok order mn.owner) ?_
              simp -implicitDefEqProofs [e8]
              refine cond_dec (fun hgt => ?_) (fun hgt => ?_)
              · have hR0 := hubad (by rw [hunder, decide_eq_true hgt]; rfl)
                simp -implicitDefEqProofs [e4, l4, r62, hR0]
              · have hU2 := hUn (by rw [hunder, decide_eq_false hgt]; rfl)
                simp -implicitDefEqProofs [e5, e14, e15, hn, l5, hlt2, hnl, cl_len, cl_at, m1, m2, m3, cl_set, apartAV, m4]
                repeat refine ⟨by omega, ?_⟩
                exact hk2 _ ⟨hU2, hJ.years h54 (by simp) (fun c hc => by simp [hc]) (by simp), by simp [e9], by simp [e10], by simp [e11], by simp [e13], by simp [e14], by simp [e15, hn]⟩
          rintro s ⟨hU2, hJ, e9, e10, e11, e13, e14, e15⟩
          have mz : putY Yk k z k = z := by simp [putY]
          refine cutS (fun st => ZJ c order b4 b5 i (putY Yk k z) x.raw st ∧ st.env 9 = I o ∧ st.env 10 = I f ∧ st.env 11 = I (min w.died c.now) ∧ st.env 13 = I tk ∧ st.env 14 = I k ∧ ¬ m.hi < z) ?_ ?_
          · intro k2 hk2
            obtain ⟨-, -, e4, e5, -⟩ := hJ.e
            have l4 := hJ.l4
            have l5 := hJ.l5
            simp -implicitDefEqProofs [e5, e14, e15, l5, hlt2, cl_len, cl_at, mz]
            refine cond_dec (fun hb => ?_) (fun hb => ?_)
            · have hR0 := hno (by rw [if_pos hb])
              simp -implicitDefEqProofs [e4, l4, r62, hR0]
            · simp -implicitDefEqProofs
              exact hk2 _ ⟨hJ.ext (by simp) (by simp), by simp [e9], by simp [e10], by simp [e11], by simp [e13], by simp [e14], hb⟩
          rintro s ⟨hJ, e9, e10, e11, e13, e14, hz2⟩
          rw [if_neg hz2] at hsuc
          obtain ⟨-, -, e4, e5, -⟩ := hJ.e
          have l5 := hJ.l5
          have m1 : (if tk < z then z else tk) = max tk z := by split <;> omega
          simp -implicitDefEqProofs [e5, e13, e14, l5, hlt2, cl_len, cl_at, mz, m1]
          exact ⟨i64 (by omega) (by omega), round_ok hlt2 ⟨_, _, hsuc, hU2, hJ.ext (by simp) (by simp), by simp [e9], by simp [e10], by simp [e11], by simp, by simp⟩⟩
        · obtain rfl : k = c.marks.length := by omega
          simp -implicitDefEqProofs
          exact hk1 _ ⟨Yk, tk, hy, under_round hU, hJ.ext (by simp) (by simp), by simp [e9], by simp [e10], by simp [e11], by simp [e13]⟩
      rintro s ⟨Yk, tk, hy, hU, hJ, e9, e10, e11, e13⟩
      have hft := marksUp_ge hy
      have hte := to_eq (c := c) (o := o) (t := tk) (by rw [← hw]; have : f ≤ tk := hft; omega)
      have hstepF : stepO c o x = if bHi c c.sales o < f ∨ gHi c c.sales o < max tk (gLo c c.sales o) then none else some ⟨Yk, max tk (gLo c c.sales o), x.raw ++ [⟨o, f, gHi c c.sales o⟩]⟩ := by
        rw [hstepE, hshift, hy]; rfl
      obtain ⟨T, hT⟩ : ∃ T, T = max tk (gLo c c.sales o) := ⟨_, rfl⟩
      obtain ⟨gh, hgh⟩ : ∃ gh, gh = gHi c c.sales o := ⟨_, rfl⟩
      have hghe : fMin (fun s => s.src = (o : Int)) c.sales (min w.died c.now) = gh := by rw [hgh, hw]; rfl
      rw [← hT] at hte
      rw [← hT, ← hgh] at hstepF
      refine cutS (fun st => (∀ s ∈ c.sales, s.dst = (o : Int) → s.year = f) ∧ ZJ c order b4 b5 i Yk x.raw st ∧ st.env 9 = I o ∧ st.env 10 = I f ∧ st.env 11 = I gh ∧ st.env 13 = I T) ?_ ?_
      · intro k1 hk1
        simp -implicitDefEqProofs
        refine loop_up c.sales.length (fun k st => (∀ s ∈ c.sales.take k, s.dst = (o : Int) → s.year = f) ∧ ZJ c order b4 b5 i Yk x.raw st ∧ st.env 9 = I o ∧ st.env 10 = I f ∧ st.env 11 = I (fMin (fun s => s.src = (o : Int)) (c.sales.take k) (min w.died c.now)) ∧ st.env 13 = I (fMax (fun s => s.src = (o : Int)) (c.sales.take k) tk) ∧ st.env 16 = I k) ?_ ?_
        · refine ⟨by simp, hJ.ext (by simp) (by simp), by simp [e9], by simp [e10], by simp [e11], by simp [e13], by simp⟩
        rintro k s hk ⟨hS, hJ, e9, e10, e11, e13, e16⟩
        obtain ⟨-, e2, e4, -⟩ := hJ.e
        have l4 := hJ.l4
        simp -implicitDefEqProofs [e2, e16]
        refine cond_dec (fun hlt2 => ?_) (fun hge2 => ?_)
        · have hlt2 : k < c.sales.length := by omega
          have hsn : fMax (fun s => s.src = (o : Int)) (c.sales.take (k + 1)) tk = if c.sales[k].src = (o : Int) then max (fMax (fun s => s.src = (o : Int)) (c.sales.take k) tk) c.sales[k].year else fMax (fun s => s.src = (o : Int)) (c.sales.take k) tk := by
            rw [take_snoc hlt2]; unfold fMax; rw [List.foldl_append]; rfl
          have hsm : fMin (fun s => s.src = (o : Int)) (c.sales.take (k + 1)) (min w.died c.now) = if c.sales[k].src = (o : Int) then min (fMin (fun s => s.src = (o : Int)) (c.sales.take k) (min w.died c.now)) c.sales[k].year else fMin (fun s => s.src = (o : Int)) (c.sales.take k) (min w.died c.now) := by
            rw [take_snoc hlt2]; unfold fMin; rw [List.foldl_append]; rfl
          have hSn : (c.sales[k].dst = (o : Int) → c.sales[k].year = f) → ∀ s ∈ c.sales.take (k + 1), s.dst = (o : Int) → s.year = f := fun h1 s hs => by
            rw [take_snoc hlt2, List.mem_append, List.mem_singleton] at hs
            rcases hs with hs | rfl
            · exact hS s hs
            · exact h1
          have hbadS : c.sales[k].dst = (o : Int) → f ≠ c.sales[k].year → R = .agg [B false, HL [], I 0] := fun h1 h2 => hbadStep (by
            rw [hf] at h2
            have h3 := step_bad hsin (List.getElem_mem hlt2) h1 h2
            rw [← hf] at h3
            rw [hstepF, if_pos (.inl h3)])
          generalize fMax (fun s => s.src = (o : Int)) (c.sales.take k) tk = F at *
          generalize fMin (fun s => s.src = (o : Int)) (c.sales.take k) (min w.died c.now) = G at *
          generalize hsl : c.sales[k] = sl at *
          refine stepB ?_
          refine cutS (fun st => ZJ c order b4 b5 i Yk x.raw st ∧ st.env 9 = I o ∧ st.env 10 = I f ∧ st.env 11 = I G ∧ st.env 13 = I F ∧ st.env 16 = I k ∧ st.env 17 = .ref [I sl.year, I sl.src, I sl.dst]) ?_ ?_
          · intro k2 hk2
            simp -implicitDefEqProofs [e2, e16, hlt2, hsl]
            intro b hb
            refine hk2 _ ⟨hJ.ext (by simp) (fun c hc => ?_), by simp [e9], by simp [e10], by simp [e11], by simp [e13], by simp [e16], by simp⟩
            have : ¬ c = b := by rintro rfl; exact hc hb
            simp [this]
          rintro s ⟨hJ, e9, e10, e11, e13, e16, e17⟩
          refine cutS (fun st => ZJ c order b4 b5 i Yk x.raw st ∧ st.env 9 = I o ∧ st.env 10 = I f ∧ st.env 11 = I G ∧ st.env 13 = I F ∧ st.env 16 = I k ∧ st.env 17 = .ref [I sl.year, I sl.src, I sl.dst] ∧ (sl.dst = (o : Int) → sl.year = f)) ?_ ?_
          · intro k2 hk2
            obtain ⟨-, e2, e4, -⟩ := hJ.e
            have l4 := hJ.l4
            by_cases hd : sl.dst = (o : Int)
            · by_cases hy : f = sl.year
              · have hy' : (f != sl.year) = false := by simp [hy]
                simp -implicitDefEqProofs [e9, e10, e17, hd, hy']
                exact hk2 _ ⟨hJ.ext (by simp) (by simp), by simp [e9], by simp [e10], by simp [e11], by simp [e13], by simp [e16], by simp [e17, hd], fun _ => hy.symm⟩
              · have hy' : (f != sl.year) = true := by simp [hy]
                have hR0 := hbadS hd hy
                simp -implicitDefEqProofs [e9, e10, e17, hd, hy', e4, l4, r62, hR0]
            · have hd' : (sl.dst == (o : Int)) = false := by simp [hd]
              simp -implicitDefEqProofs [e9, e17, hd']
              exact hk2 _ ⟨hJ.ext (by simp) (by simp), by simp [e9], by simp [e10], by simp [e11], by simp [e13], by simp [e16], by simp [e17], fun e => absurd e hd⟩
          rintro s ⟨hJ, e9, e10, e11, e13, e16, e17, hyf⟩
          by_cases hd : sl.src = (o : Int)
          · rw [if_pos hd] at hsn hsm
            have m1 : (if F < sl.year then sl.year else F) = max F sl.year := by split <;> omega
            have m2 : (if sl.year < G then sl.year else G) = min G sl.year := by split <;> omega
            simp -implicitDefEqProofs [e9, e11, e13, e16, e17, hd, m1, m2]
            refine ⟨i64 (by omega) (by omega), round_ok hlt2 ?_⟩
            rw [hsn, hsm]
            exact ⟨hSn hyf, hJ.ext (by simp) (by simp), by simp [e9], by simp [e10], by simp, by simp, by simp⟩
          · rw [if_neg hd] at hsn hsm
            have hd' : (sl.src == (o : Int)) = false := by simp [hd]
            simp -implicitDefEqProofs [e9, e16, e17, hd']
            refine ⟨i64 (by omega) (by omega), round_ok hlt2 ?_⟩
            rw [hsn, hsm]
            exact ⟨hSn hyf, hJ.ext (by simp) (by simp), by simp [e9], by simp [e10], by simp [e11], by simp [e13], by simp⟩
        · obtain rfl : k = c.sales.length := by omega
          rw [List.take_length] at hS e11 e13
          rw [hghe] at e11
          rw [hte] at e13
          simp -implicitDefEqProofs
          exact hk1 _ ⟨hS, hJ.ext (by simp) (by simp), by simp [e9], by simp [e10], by simp [e11], by simp [e13]⟩
      rintro s ⟨hS, hJ, e9, e10, e11, e13⟩
      have hfT : f ≤ T := by have : f ≤ tk := hft; omega
      have htest := step_test (c := c) (o := o) hfT hS
      rw [← hgh] at htest
      refine cutS (fun st => ZJ c order b4 b5 i Yk x.raw st ∧ st.env 9 = I o ∧ st.env 10 = I f ∧ st.env 11 = I gh ∧ st.env 13 = I T ∧ ¬ gh < T) ?_ ?_
      · intro k1 hk1
        obtain ⟨-, -, e4, -⟩ := hJ.e
        have l4 := hJ.l4
        simp -implicitDefEqProofs [e11, e13]
        refine cond_dec (fun hb => ?_) (fun hb => ?_)
        · have hR0 := hbadStep (by rw [hstepF, if_pos (htest.2 hb)])
          simp -implicitDefEqProofs [e4, l4, r62, hR0]
        · simp -implicitDefEqProofs
          exact hk1 _ ⟨hJ.ext (by simp) (by simp), by simp [e9], by simp [e10], by simp [e11], by simp [e13], hb⟩
      rintro s ⟨hJ, e9, e10, e11, e13, hgood⟩
      rw [if_neg (fun e => hgood (htest.1 e))] at hstepF
      obtain ⟨new, hnew⟩ : ∃ n : Hold, n = ⟨o, f, gh⟩ := ⟨_, rfl⟩
      rw [← hnew] at hstepF
      refine cutS (fun st => ZJ c order b4 b5 i Yk (x.raw ++ [new]) st ∧ st.env 13 = I T) ?_ ?_
      · intro k1 hk1
        obtain ⟨e1, e2, e4, e5, e8⟩ := hJ.e
        have l4 := hJ.l4
        have l5 := hJ.l5
        have hd5 : ∀ Y : Nat → Int, (cl c.marks.length Y).map (demote 194) = cl c.marks.length Y := fun Y => cl_dem _ _ _
        have hcell3 : ∀ r : Nat, (AV.lit (Value.int IntKind.i64 ↑o) :: AV.lit (Value.int IntKind.i64 f) :: AV.lit (Value.int IntKind.i64 gh) :: (List.replicate r [AV.lit (Value.int IntKind.i64 0), AV.lit (Value.int IntKind.i64 0), AV.lit (Value.int IntKind.i64 0)]).flatten) =
          [I new.who, I new.src, I new.til] ++ (List.replicate r [I 0, I 0, I 0]).flatten := fun r => by rw [hnew]; rfl
        rcases hJ.hs with ⟨hnil, e6⟩ | ⟨hb, cap, cs, hne, e6, lh, hbk, h4, h5⟩
        · simp -implicitDefEqProofs [e6, e9, e10, e11]
          intro b r hb
          have hne : ¬ b4 = b := by rintro rfl; rw [l4] at hb; cases hb
          have hne' : ¬ b = b4 := fun e => hne e.symm
          have h5b : ¬ b5 = b := by rintro rfl; rw [l5] at hb; cases hb
          have h5b' : ¬ b = b5 := fun e => h5b e.symm
          refine hk1 _ ⟨⟨by simp [e1, e2, e4, e5, e8], by simp [hne, l4], by simp [h5b, l5, hd5], .inr ⟨b, 1 + r, [I new.who, I new.src, I new.til] ++ (List.replicate r [I 0, I 0, I 0]).flatten, by simp, ?_, ?_, ?_, hne', h5b'⟩⟩, by simp [e13]⟩
          · rw [hnil]; simp
          · rw [hcell3]; simp
          · rw [hnil]; exact hblk_new new r
        · have h4' : ¬ b4 = hb := fun e => h4 e.symm
          have h5' : ¬ b5 = hb := fun e => h5 e.symm
          have hle := hbk.le
          have hlen := hbk.len
          have hdc : cs.map (demote 194) = cs := dem_row (num_erase hbk.num) 194
          have hcap : ¬ cap = 0 := by
            intro e
            have : x.raw.length = 0 := by omega
            exact hne (List.length_eq_zero_iff.1 this)
          simp -implicitDefEqProofs [e6, e9, e10, e11, lh, hcap, hdc]
          refine ⟨by omega, by omega, by omega, fun hroom => ?_, fun hgrow b r hbn => ?_⟩
          · refine hk1 _ ⟨⟨by simp [e1, e2, e4, e5, e8], by simp [h4', l4], by simp [h5', l5, hd5], .inr ⟨hb, cap, splice cs (x.raw.length * 3) [I new.who, I new.src, I new.til], by simp, ?_, ?_, hblk_room hbk new hroom, h4, h5⟩⟩, by simp [e13]⟩
            · simp
            · simp [hnew]
          · have hne2 : ¬ b4 = b := by rintro rfl; rw [l4] at hbn; cases hbn
            have hne' : ¬ b = b4 := fun e => hne2 e.symm
            have h5b : ¬ b5 = b := by rintro rfl; rw [l5] at hbn; cases hbn
            have h5b' : ¬ b = b5 := fun e => h5b e.symm
            refine hk1 _ ⟨⟨by simp [e1, e2, e4, e5, e8], by simp [hne2, l4], by simp [h5b, l5, hd5], .inr ⟨b, x.raw.length + 1 + r, (cs.take (x.raw.length * 3)).map AV.erase0 ++ ([I new.who, I new.src, I new.til] ++ (List.replicate r [I 0, I 0, I 0]).flatten), by simp, ?_, ?_, hblk_grow hbk new r, hne', h5b'⟩⟩, by simp [e13]⟩
            · simp
            · rw [← hcell3]; simp
      rintro s ⟨hJ, e13⟩
      obtain ⟨e1, e2, e4, e5, e8⟩ := hJ.e
      simp -implicitDefEqProofs [e13, e8]
      exact ⟨i64 (by omega) (by omega), round_ok hlt ⟨_, hstep.trans hstepF, hU, ⟨by simp [e1, e2, e4, e5], by simp [hJ.l4], by simp [hJ.l5], hJ.hs.ext (by simp) (by simp)⟩, by simp⟩⟩
    · obtain rfl : i = order.length := by omega
      simp -implicitDefEqProofs
      exact hk0 _ ⟨x, hx, hU, hJ.ext (by simp) (by simp)⟩
  rintro s ⟨x, hx, hU, hJ⟩
  have hrl : x.raw.length = order.length := runUp_len _ _ hx
  have hsol : solveS c order = some x.raw := by rw [solve_run hN (under_all hU), hx]; rfl
  rw [hsol] at hR
  have hg1 := gaps_range c.printed x.raw
  obtain ⟨l, hl⟩ : ∃ l, l = x.raw := ⟨_, rfl⟩
  rw [← hl] at hR hJ hg1 hrl
  obtain ⟨e1, e2, e4, e5, e8⟩ := hJ.e
  have l4 := hJ.l4
  rcases hJ.hs with ⟨hnil, e6⟩ | ⟨hb, cap, cs, hne, e6, lh, hbk, h4, h5⟩
  · rw [hnil] at hR
    have hR0 : R = .agg [B true, HL [], I 1] := hR
    simp -implicitDefEqProofs [e6, e4, l4, r62, hR0]
  have hl0 : 0 < l.length := List.length_pos_iff.2 hne
  have h4' : ¬ b4 = hb := fun e => h4 e.symm
  have hlast : unknownS c l = gaps c.printed l + if (l[l.length - 1]).til < c.now then 1 else 0 := by
    unfold unknownS
    rw [if_neg hne]
    congr 1
    have : lastTil c.printed l = (l[l.length - 1]).til := by
      have e : l = l.take (l.length - 1) ++ [l[l.length - 1]] := by
        rw [← take_snoc (show l.length - 1 < l.length by omega), show l.length - 1 + 1 = l.length by omega, List.take_length]
      conv => lhs; rw [e]
      rw [lastTil_snoc]
    rw [this]
  refine cutS (fun st => st.env 2 = caseRef c ∧ st.env 4 = .mref b4 0 ∧ st.loc b4 = some [B false, .slice 3 [] 5001, I 0] ∧ st.env 6 = .mslice hb 0 l.length cap 3 ∧ st.loc hb = some cs) ?_ ?_
  · intro k hk
    have hz : ((l.length : Int) == 0) = false := by simp; omega
    simp -implicitDefEqProofs [e6, hz]
    exact hk _ (by simp [e2, e4, l4, e6, lh])
  rintro s ⟨e2, e4, l4, e6, lh⟩
  refine cutS (fun st => st.env 2 = caseRef c ∧ st.env 4 = .mref b4 0 ∧ st.loc b4 = some [B false, .slice 3 [] 5001, I 0] ∧ st.env 6 = .mslice hb 0 l.length cap 3 ∧ st.loc hb = some cs ∧ st.env 18 = I 0) ?_ ?_
  · intro k hk
    simp -implicitDefEqProofs
    exact hk _ (by simp [e2, e4, l4, e6, lh])
  rintro s ⟨e2, e4, l4, e6, lh, e18⟩
  refine cutS (fun st => st.env 2 = caseRef c ∧ st.env 4 = .mref b4 0 ∧ st.loc b4 = some [B false, .slice 3 [] 5001, I 0] ∧ st.env 6 = .mslice hb 0 l.length cap 3 ∧ st.loc hb = some cs ∧ st.env 18 = I (gaps c.printed (l.take 1))) ?_ ?_
  · intro k hk
    obtain ⟨hlt, g1, g2⟩ := hblk_get hbk hl0
    simp only [Nat.zero_mul, Nat.zero_add] at g1 hlt
    have hg0 : gaps c.printed (l.take 1) = if c.printed < l[0].src then 1 else 0 := by
      rw [show (1 : Nat) = 0 + 1 from rfl, take_snoc hl0]
      simp [gaps]
    have hlt1 : 1 < cs.length := by omega
    simp -implicitDefEqProofs [e2, e6, hl0, lh, hlt1, g1]
    refine cond_dec (fun hc => ?_) (fun hc => ?_)
    · rw [if_pos hc] at hg0
      simp -implicitDefEqProofs [e18]
      exact ⟨i64 (by omega) (by omega), hk _ (by simp [e2, e4, l4, e6, lh, hg0])⟩
    · rw [if_neg hc] at hg0
      simp -implicitDefEqProofs
      exact hk _ (by simp [e2, e4, l4, e6, lh, hg0, e18])
  rintro s ⟨e2, e4, l4, e6, lh, e18⟩
  refine cutS (fun st => st.env 2 = caseRef c ∧ st.env 4 = .mref b4 0 ∧ st.loc b4 = some [B false, .slice 3 [] 5001, I 0] ∧ st.env 6 = .mslice hb 0 l.length cap 3 ∧ (∃ cs, st.loc hb = some cs ∧ HBlk cs (cutL l) cap) ∧ st.env 18 = I (gaps c.printed l)) ?_ ?_
  · intro k0 hk0
    simp -implicitDefEqProofs
    refine loop_up (l.length - 1) (fun i st => st.env 2 = caseRef c ∧ st.env 4 = .mref b4 0 ∧ st.loc b4 = some [B false, .slice 3 [] 5001, I 0] ∧ st.env 6 = .mslice hb 0 l.length cap 3 ∧ (∃ cs, st.loc hb = some cs ∧ HBlk cs (cutN l i) cap) ∧ st.env 18 = I (gaps c.printed (l.take (i + 1))) ∧ st.env 19 = I i) ?_ ?_
    · exact ⟨by simp [e2], by simp [e4], by simp [l4], by simp [e6], ⟨cs, by simp [lh], hbk⟩, by simp [e18], by simp⟩
    rintro i s hi ⟨e2, e4, l4, e6, ⟨cs, lh, hbk⟩, e18, e19⟩
    have hlen := cutN_len l i
    simp -implicitDefEqProofs [e6, e19]
    refine ⟨i64 (by omega) (by omega), cond_dec (fun hlt => ?_) (fun hge => ?_)⟩
    · have hlt : i + 1 < l.length := by omega
      obtain ⟨p1, g1, g2⟩ := hblk_get hbk (i := i) (by omega)
      obtain ⟨p2, g3, g4⟩ := hblk_get hbk (i := i + 1) (by omega)
      have q1 : (cutN l i)[i]'(by omega) = l[i] := by rw [cutN_get, if_neg (by omega), List.getD_eq_getElem?_getD, List.getElem?_eq_getElem (show i < l.length by omega), Option.getD_some]
      have q2 : (cutN l i)[i + 1]'(by omega) = l[i + 1] := by rw [cutN_get, if_neg (by omega), List.getD_eq_getElem?_getD, List.getElem?_eq_getElem hlt, Option.getD_some]
      rw [q1] at g1 g2
      rw [q2] at g3 g4
      have hgt := gaps_take (p := c.printed) hlt
      have hset := hblk_set hbk (i := i) (by omega) (min l[i].til l[i + 1].src)
      have hce : (cutN l i).set i ⟨((cutN l i)[i]'(by omega)).who, ((cutN l i)[i]'(by omega)).src, min l[i].til l[i + 1].src⟩ = cutN l (i + 1) := by
        rw [q1]
        show _ = (cutN l i).set i _
        rw [List.getD_eq_getElem?_getD, List.getElem?_eq_getElem (show i < l.length by omega), Option.getD_some, List.getD_eq_getElem?_getD, List.getElem?_eq_getElem hlt, Option.getD_some]
        rfl
      rw [hce] at hset
      have hg2 := gaps_range c.printed (l.take (i + 1))
      rw [List.length_take] at hg2
      generalize l[i] = a at *
      generalize l[i + 1] = b at *
      have p3 : (i + 1) * 3 + 1 < cs.length := by omega
      have hii : ((i : Int) + 1).toNat = i + 1 := by omega
      have m1 : (if b.src < a.til then b.src else a.til) = min a.til b.src := by split <;> omega
      have hil : i < l.length := by omega
      have hle2 : (i : Int) < l.length := by omega
      have hle3 : (i : Int) + 1 < l.length := by omega
      refine stepB ?_
      refine cutS (fun st => st.env 2 = caseRef c ∧ st.env 4 = .mref b4 0 ∧ st.loc b4 = some [B false, .slice 3 [] 5001, I 0] ∧ st.env 6 = .mslice hb 0 l.length cap 3 ∧ st.loc hb = some cs ∧ st.env 18 = I (gaps c.printed (l.take (i + 2))) ∧ st.env 19 = I i) ?_ ?_
      · intro k1 hk1
        simp -implicitDefEqProofs [e6, e19, hle3, hii, hil, lh, p1, p3, g2, g3]
        refine ⟨i64 (by omega) (by omega), by omega, cond_dec (fun hc => ?_) (fun hc => ?_)⟩
        · rw [if_pos hc] at hgt
          simp -implicitDefEqProofs [e18]
          exact ⟨i64 (by omega) (by omega), hk1 _ (by simp [e2, e4, l4, e6, lh, e19, hgt])⟩
        · rw [if_neg hc, Int.add_zero] at hgt
          simp -implicitDefEqProofs
          exact hk1 _ (by simp [e2, e4, l4, e6, lh, e19, hgt, e18])
      rintro s ⟨e2, e4, l4, e6, lh, e18, e19⟩
      simp -implicitDefEqProofs [e6, e19, hle3, hii, hil, lh, p1, p3, g2, g3, m1, apartAV]
      refine ⟨i64 (by omega) (by omega), by omega, by omega, i64 (by omega) (by omega), round_ok (by omega) ?_⟩
      exact ⟨by simp [e2], by simp [e4], by simp [l4, h4'], by simp [e6], ⟨_, by simp, hset⟩, by simp [e18], by simp⟩
    · obtain rfl : i = l.length - 1 := by omega
      rw [cutN_all] at hbk
      rw [show l.length - 1 + 1 = l.length by omega, List.take_length] at e18
      simp -implicitDefEqProofs
      exact hk0 _ ⟨by simp [e2], by simp [e4], by simp [l4], by simp [e6], ⟨cs, by simp [lh], hbk⟩, by simp [e18]⟩
  rintro s ⟨e2, e4, l4, e6, ⟨cs, lh, hbk⟩, e18⟩
  have hle := hbk.le
  have hlen := hbk.len
  rw [cutL_len] at hle
  have hR0 : R = .agg [B true, HL (cutL l), I (unknownS c l)] := hR
  refine cutS (fun st => st.env 4 = .mref b4 0 ∧ st.loc b4 = some [B false, .slice 3 [] 5001, I 0] ∧ st.env 6 = HL (cutL l) ∧ st.env 18 = I (unknownS c l)) ?_ ?_
  · intro k hk
    obtain ⟨p1, g1, g2⟩ := hblk_get hbk (i := l.length - 1) (by rw [cutL_len]; omega)
    have q1 : (cutL l)[l.length - 1]'(by rw [cutL_len]; omega) = l[l.length - 1] := by
      rw [cutL_get, if_neg (by omega), List.getD_eq_getElem?_getD, List.getElem?_eq_getElem (show l.length - 1 < l.length by omega), Option.getD_some]
    rw [q1] at g2
    generalize l[l.length - 1] = a at *
    have hii : ((l.length : Int) - 1).toNat = l.length - 1 := by omega
    have hch := chunk_hcells (cutL l) cs hbk.cells
    rw [cutL_len] at hch
    simp -implicitDefEqProofs [e2, e6, hii, lh, p1, g2]
    have hg2 := gaps_range c.printed l
    refine ⟨i64 (by omega) (by omega), by omega, by omega, by omega, fun x hx => by obtain ⟨m, rfl⟩ := hbk.num x hx; rfl, by omega, cond_dec (fun hc => ?_) (fun hc => ?_)⟩
    · rw [if_pos hc] at hlast
      simp -implicitDefEqProofs [upd, e18]
      exact ⟨i64 (by omega) (by omega), hk _ (by simp [upd, e4, l4, h4', hch, hlast])⟩
    · rw [if_neg hc, Int.add_zero] at hlast
      simp -implicitDefEqProofs
      exact hk _ (by simp [upd, e4, l4, h4', hch, hlast, e18])
  rintro s ⟨e4, l4, e6, e18⟩
  simp -implicitDefEqProofs [e4, l4, e6, e18, r62, hR0]
end Go.Proofs.Ytiampdiobdianaa

namespace Go.Proofs.Ytiampdiobdianaa
open Go.Avm

theorem ordersUp_succ (n k : Nat) : ordersUp n (k + 1) = ordersUp n k ++ allO n k := by
  unfold ordersUp
  rw [List.range_succ, List.flatMap_append]
  simp
theorem allO_big {n : Nat} (hn : n ≤ 6) {i : Nat} (hi : i ≤ 6) : (allO n i).length ≤ 46656 := by
  refine Nat.le_trans (allO_len n i) ?_
  refine Nat.le_trans (Nat.pow_le_pow_left hn i) ?_
  exact Nat.le_trans (Nat.pow_le_pow_right (by omega) hi) (by decide)
theorem ordersUp_big {n : Nat} (hn : n ≤ 6) : ∀ {k : Nat}, k ≤ 7 → (ordersUp n k).length ≤ k * 46656
  | 0, _ => by simp [ordersUp]
  | k + 1, hk => by
    have h1 := ordersUp_big hn (k := k) (by omega)
    have h2 := allO_big hn (i := k) (by omega)
    rw [ordersUp_succ, List.length_append]
    omega

theorem orders80_ok {n : Nat} (hn : n ≤ 6) : PCall Try.prog 80 [I n] (ILL (ordersL n)) := by
  refine pcall Try.func80 tr80 rs80 fn80 (by simp [Try.ntmps80]) fun _ => ?_
  simp -implicitDefEqProofs only [m80]
  refine cutS (fun st => st.env 0 = I n) ?_ ?_
  · intro k hk
    simp -implicitDefEqProofs
    exact hk _ (by simp)
  intro s e0
  refine cutS (fun st => st.env 0 = I n ∧ st.env 3 = .slice 1 [IL []] 4) ?_ ?_
  · intro k hk
    simp -implicitDefEqProofs
    exact hk _ (by simp [e0])
  rintro s ⟨e0, e3⟩
  refine cutS (fun st => st.env 0 = I n ∧ st.env 3 = .slice 1 [IL []] 4 ∧ st.env 4 = .slice 1 [IL []] 5) ?_ ?_
  · intro k hk
    simp -implicitDefEqProofs
    exact hk _ (by simp [e0, e3])
  rintro s ⟨e0, e3, e4⟩
  refine cutS (fun st => st.env 3 = .slice 1 ((ordersL n).map IL) 4) ?_ ?_
  · intro k0 hk0
    simp -implicitDefEqProofs
    refine loop_up n (fun k st => st.env 0 = I n ∧ st.env 3 = .slice 1 ((ordersUp n (k + 1)).map IL) 4 ∧ st.env 4 = .slice 1 ((allO n k).map IL) 5 ∧ st.env 5 = I ((k : Int) + 1)) ?_ ?_
    · simp [e0, e3, e4, ordersUp, allO, List.range_succ]
    rintro k s hk ⟨e0, e3, e4, e5⟩
    simp -implicitDefEqProofs [e0, e5]
    refine cond_dec (fun hlt => ?_) (fun hge => ?_)
    · have hlt : k < n := by omega
      have hsu := ordersUp_succ n (k + 1)
      have hub := ordersUp_big hn (k := k + 1) (by omega)
      have hout := allO_big hn (i := k) (by omega)
      have hnext : (allO n k).flatMap (grow n) = allO n (k + 1) := rfl
      have hnb := allO_big hn (i := k + 1) (by omega)
      have hleach := allO_each n k
      generalize hNX : allO n (k + 1) = nx at *
      generalize hO : allO n k = out at *
      generalize ordersUp n (k + 1) = ou at *
      refine stepB ?_
      refine cutS (fun st => st.env 0 = I n ∧ st.env 3 = .slice 1 (ou.map IL) 4 ∧ st.env 4 = .slice 1 (out.map IL) 5 ∧ st.env 5 = I ((k : Int) + 1) ∧ st.env 6 = .slice 1 [] 7) ?_ ?_
      · intro k1 hk1
        simp -implicitDefEqProofs
        exact hk1 _ (by simp [e0, e3, e4, e5])
      rintro s ⟨e0, e3, e4, e5, e6⟩
      refine cutS (fun st => st.env 0 = I n ∧ st.env 3 = .slice 1 (ou.map IL) 4 ∧ st.env 5 = I ((k : Int) + 1) ∧ st.env 6 = .slice 1 (nx.map IL) 7) ?_ ?_
      · intro k1 hk1
        simp -implicitDefEqProofs
        refine loop_up out.length (fun q st => st.env 0 = I n ∧ st.env 3 = .slice 1 (ou.map IL) 4 ∧ st.env 4 = .slice 1 (out.map IL) 5 ∧ st.env 5 = I ((k : Int) + 1) ∧ st.env 6 = .slice 1 (((out.take q).flatMap (grow n)).map IL) 7 ∧ st.env 7 = I q) ?_ ?_
        · simp [e0, e3, e4, e5, e6]
        rintro q s hq ⟨e0, e3, e4, e5, e6, e7⟩
        simp -implicitDefEqProofs [e4, e7]
        refine cond_dec (fun hlt2 => ?_) (fun hge2 => ?_)
        · have hlt2 : q < out.length := by omega
          simp -implicitDefEqProofs
          have hacc := flat_grow_len n (out.take q)
          have hacc2 : (out.take q).length ≤ q := List.length_take_le _ _
          have hacc3 : ((out.take q).flatMap (grow n)).length ≤ 46656 * 6 := Nat.le_trans hacc (Nat.mul_le_mul (by omega) hn)
          have hsn : (out.take (q + 1)).flatMap (grow n) = (out.take q).flatMap (grow n) ++ grow n out[q] := by
            rw [take_snoc hlt2, List.flatMap_append]; simp
          have hol : out[q].length = k := (hleach _ (List.getElem_mem hlt2)).1
          generalize hA : (out.take q).flatMap (grow n) = acc at *
          generalize hoq : out[q] = o at *
          refine loop_up n (fun j st => st.env 0 = I n ∧ st.env 3 = .slice 1 (ou.map IL) 4 ∧ st.env 4 = .slice 1 (out.map IL) 5 ∧ st.env 5 = I ((k : Int) + 1) ∧ st.env 6 = .slice 1 ((acc ++ grow j o).map IL) 7 ∧ st.env 7 = I q ∧ st.env 8 = I j) ?_ ?_
          · simp [e0, e3, e4, e5, e6, e7, grow]
          rintro j s hj ⟨e0, e3, e4, e5, e6, e7, e8⟩
          simp -implicitDefEqProofs [e0, e8]
          refine cond_dec (fun hlt3 => ?_) (fun hge3 => ?_)
          · have hlt3 : j < n := by omega
            have hgl := grow_len j o
            have hgs := grow_succ j o
            simp -implicitDefEqProofs [e4, e7, e8, hlt2, hoq]
            refine vCall_of (has_ok _ _) ?_
            by_cases hin : ((j : Nat) : Int) ∈ o
            · rw [if_pos hin, List.append_nil] at hgs
              simp -implicitDefEqProofs [hin, e8]
              refine ⟨i64 (by omega) (by omega), round_ok hlt3 ?_⟩
              simp [e0, e3, e4, e5, e6, e7, hgs]
            · rw [if_neg hin] at hgs
              simp -implicitDefEqProofs [hin, e4, e6, e7, e8, hlt2, hoq]
              refine ⟨by omega, by omega, by omega, by omega, by omega, by omega, i64 (by omega) (by omega), round_ok hlt3 ?_⟩
              simp [e0, e3, e4, e5, e7, hgs]
          · obtain rfl : j = n := by omega
            simp -implicitDefEqProofs [e7]
            refine ⟨i64 (by omega) (by omega), round_ok hlt2 ?_⟩
            simp [e0, e3, e4, e5, e6, hsn]
        · obtain rfl : q = out.length := by omega
          rw [List.take_length, hnext] at e6
          simp -implicitDefEqProofs
          exact hk1 _ (by simp [e0, e3, e5, e6])
      rintro s ⟨e0, e3, e5, e6⟩
      simp -implicitDefEqProofs [e3, e5, e6]
      refine ⟨by omega, by omega, i64 (by omega) (by omega), round_ok hlt ?_⟩
      rw [hsu]
      simp [e0, hNX]
    · obtain rfl : k = n := by omega
      simp -implicitDefEqProofs
      exact hk0 _ (by simp [e3, ordersL])
  intro s e3
  simp -implicitDefEqProofs [e3, r80]

/-! ## All chains -/
def firsts (c : Case) (os : List (List Int)) : List (List Int) := (chainsOf c os).map fun p => p.1
/-- All orders that have a chain. -/
def allR (c : Case) : List (List Int) := firsts c (ordersL c.owners.length)
theorem allR_map (c : Case) : allR c = (chainsL c).map fun p => p.1 := rfl
theorem firsts_snoc (c : Case) (os : List (List Int)) (o : List Int) : firsts c (os ++ [o]) = firsts c os ++ if (solveS c o).isSome then [o] else [] := by
  unfold firsts chainsOf
  rw [List.filterMap_append, List.map_append]
  congr 1
  unfold solved
  cases h : solveS c o <;> simp [h]
theorem allR_len {c : Case} (h : c.OK) : (allR c).length ≤ 326592 := by
  rw [allR_map, List.length_map]; exact chainsL_len h
theorem solved_fld (c : Case) (o : Option (List Hold)) : ∃ x y, solvedAV c o = .agg [B o.isSome, x, y] ∧ x.cell1 = true ∧ y.cell1 = true := by
  cases o with
  | none => exact ⟨_, _, rfl, rfl, rfl⟩
  | some l => exact ⟨_, _, rfl, rfl, rfl⟩

theorem all72_ok {c : Case} (h : c.OK) : PCall Try.prog 72 [encCase c] (ILL (allR c)) := by
  refine pcall Try.func72 tr72 rs72 fn72 (by simp [Try.ntmps72]) fun _ => ?_
  have hn6 := h.ownersLen
  have hO := orders80_ok hn6
  have hlen := ordersL_len hn6
  have hsol : ∀ o ∈ ordersL c.owners.length, PCall Try.prog 62 [encCase c, IL o] (solvedAV c (solveS c o)) := fun o ho => by
    have := ordersL_each ho
    exact solve62_ok h this.2.2 this.2.1 (by omega)
  have hR : allR c = firsts c (ordersL c.owners.length) := rfl
  have h24 : ∀ o ∈ ordersL c.owners.length, o.length ≤ 6 := fun o ho => by have := ordersL_each ho; omega
  rw [hR]
  generalize ordersL c.owners.length = L at *
  simp -implicitDefEqProofs [m72]
  refine vCall_of hO ?_
  simp -implicitDefEqProofs
  refine loop_up L.length (fun k s => s.env 1 = caseRef c ∧ s.env 3 = ILL L ∧ s.env 4 = .slice 1 ((firsts c (L.take k)).map IL) 5 ∧ s.env 5 = I k) ?_ ?_
  · simp [firsts, chainsOf]
  rintro k s hk ⟨e1, e3, e4, e5⟩
  simp -implicitDefEqProofs [e3, e5]
  refine cond_dec (fun hlt => ?_) (fun hge => ?_)
  · have hlt : k < L.length := by omega
    have hcall := hsol _ (List.getElem_mem hlt)
    have hsn := firsts_snoc c (L.take k) L[k]
    rw [← take_snoc hlt] at hsn
    have hl2 : (firsts c (L.take k)).length ≤ 326592 := by
      unfold firsts
      rw [List.length_map]
      refine Nat.le_trans (List.length_filterMap_le _ _) ?_
      rw [List.length_take]; omega
    generalize hok : L[k] = o at *
    obtain ⟨x, y, hxy, hx1, hx2⟩ := solved_fld c (solveS c o)
    rw [hxy] at hcall
    generalize hC : firsts c (L.take k) = C at *
    simp -implicitDefEqProofs [e1, e3, e5, hlt, hok]
    refine vCall_of hcall ?_
    simp -implicitDefEqProofs
    refine cond_bool (fun hb => ?_) (fun hb => ?_)
    · rw [if_pos hb] at hsn
      simp -implicitDefEqProofs [e3, e4, e5, hlt, hok]
      refine ⟨by omega, by omega, i64 (by omega) (by omega), round_ok hlt ?_⟩
      simp [e1, e3, hsn]
    · rw [if_neg (by simp [hb]), List.append_nil] at hsn
      simp -implicitDefEqProofs [e5]
      refine ⟨i64 (by omega) (by omega), round_ok hlt ?_⟩
      simp [e1, e3, e4, hsn]
  · obtain rfl : k = L.length := by omega
    rw [List.take_length] at e4
    simp -implicitDefEqProofs [e4, r72]

/-- The error behind others, if there is no chain. -/
def someS (c : Case) (e : Int) : List (List Int) × Int := if e ≠ 0 then ([], e) else if allR c = [] then ([], 8) else (allR c, 0)
theorem some61_ok (c : Case) (e : Int) (h : e = 0 → c.OK) : PCall Try.prog 61 [encCase c, I e] (.tuple [ILL (someS c e).1, I (someS c e).2]) := by
  refine pcall Try.func61 tr61 rs61 fn61 (by simp [Try.ntmps61]) fun _ => ?_
  obtain ⟨R, hR⟩ : ∃ R, R = someS c e := ⟨_, rfl⟩
  rw [← hR]
  unfold someS at hR
  by_cases he : e = 0
  · have ha := all72_ok (h he)
    subst he
    rw [if_neg (by simp)] at hR
    generalize allR c = L at *
    by_cases hz : L = []
    · rw [if_pos hz] at hR
      subst hz
      simp -implicitDefEqProofs [m61]
      refine vCall_of ha ?_
      simp -implicitDefEqProofs [r61, hR]
    · rw [if_neg hz] at hR
      have hz' : ((L.length : Int) == 0) = false := by simp; exact hz
      simp -implicitDefEqProofs [m61]
      refine vCall_of ha ?_
      simp -implicitDefEqProofs [r61, hR, hz']
  · rw [if_pos he] at hR
    have he' : (e != 0) = true := by simpa using he
    simp -implicitDefEqProofs [m61, r61, hR, he']

/-! ## Chain, Order, Why -/
end Go.Proofs.Ytiampdiobdianaa

