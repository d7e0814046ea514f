/- The resolved code of some functions, written by program, each held against the function by the kernel. The reference's Check; what a case without an error is. Contracts: whether an order has all owners that it has to have: the reference's. Plain: the reference's way to the chain of an order goes beside the program's. Contracts: the chain of an order: the reference's. Contracts of the reference: all orders, all chains, Order, Why. -/
import Derived.Test.YtiampdiobdianaaZD
import Derived.KernelRfl
import Derived.Test.YtiampdiobdianaaZE
import Derived.Test.YtiampdiobdianaaZG
namespace Go.Proofs.Ytiampdiobdianaa
open Go.Avm

/- duodecimo/duodecimoref08.Check -/
def ann17 : Ann := { muts := [], nilsz := [(5, 1)], oid := [], frz := [7, 10, 13], zero := [(7, [(.lit (.string ⟨#[]⟩)), (.lit (.int .i64 0)), (.lit (.int .i64 0))]), (10, [(.lit (.int .i64 0)), (.lit (.int .i64 0)), (.lit (.int .i64 0)), (.lit (.int .i64 0))]), (13, [(.lit (.int .i64 0)), (.lit (.int .i64 0)), (.lit (.int .i64 0))]), (52, [(.lit (.string ⟨#[]⟩))])], ord := [], ap := [], own := [], yl := [], fz := [], imm := [], ic := [], cl := [], ylL := [], rl := [] }
def m17 : MCode := (.seq (.reg [.boxI 1 (.t 0) 5, .asg 2 (.c (.lit (.int .i64 0))), .asg 3 (.c (.lit (.int .i64 0))), .asg 4 (.c (.lit (.int .i64 0)))])
 (.seq (.seq (.reg [.addr 14 (.t 1) 0, .load 15 (.t 14) none, .call 16 54 [(.t 15), (.c (.lit (.int .i64 1450))), (.c (.lit (.int .i64 1850)))], .not 17 (.t 16), .cpy 18 (.t 17), .guard 18 false (some 19) (.addr 19 (.t 1) 1), .guard 18 false (some 20) (.load 20 (.t 19) none), .guard 18 false (some 21) (.call 21 54 [(.t 20), (.c (.lit (.int .i64 1450))), (.c (.lit (.int .i64 1850)))]), .guard 18 false (some 22) (.not 22 (.t 21)), .pick 23 (.t 18) (.c (.lit (.bool true))) (.t 22)])
 (.cond (.t 23) (.seq (.reg [.asg 2 (.c (.lit (.int .i64 1))), .asg 3 (.c (.lit (.int .i64 0))), .asg 4 (.c (.lit (.int .i64 7)))])
 .ret) .skip))
 (.seq (.seq (.reg [.addr 24 (.t 1) 1, .load 25 (.t 24) none, .addr 26 (.t 1) 0, .load 27 (.t 26) none, .bin 28 .lss (.t 25) (.t 27)])
 (.cond (.t 28) (.seq (.reg [.asg 2 (.c (.lit (.int .i64 1))), .asg 3 (.c (.lit (.int .i64 0))), .asg 4 (.c (.lit (.int .i64 2)))])
 .ret) .skip))
 (.seq (.seq (.reg [.addr 29 (.t 1) 2, .load 30 (.t 29) none, .len 31 (.t 30), .bin 32 .gtr (.t 31) (.c (.lit (.int .i64 6)))])
 (.cond (.t 32) (.seq (.reg [.asg 2 (.c (.lit (.int .i64 2))), .asg 3 (.c (.lit (.int .i64 0))), .asg 4 (.c (.lit (.int .i64 3)))])
 .ret) .skip))
 (.seq (.reg [.asgNil 5 1])
 (.seq (.seq (.reg [.asg 6 (.c (.lit (.int .i64 0)))])
 (.block 0 (.loop (.seq (.seq (.reg [.cpy 33 (.t 6), .addr 34 (.t 1) 2, .load 35 (.t 34) none, .len 36 (.t 35), .bin 37 .lss (.t 33) (.t 36)])
 (.cond (.t 37) .skip (.exit 0)))
 (.seq (.block 1 (.seq (.reg [.addr 40 (.t 1) 2, .load 41 (.t 40) none, .cpy 42 (.t 6), .idxS 43 (.t 41) (.t 42) 3, .load 44 (.t 43) (some 3), .alloc 7 [(.lit (.string ⟨#[]⟩)), (.lit (.int .i64 0)), (.lit (.int .i64 0))], .storeF 7 (.t 44) 3])
 (.seq (.reg [.addr 45 (.t 7) 0, .load 46 (.t 45) none, .cpy 47 (.t 5), .call 48 55 [(.t 46), (.t 47)], .asg 8 (.t 48)])
 (.seq (.reg [.cpy 49 (.t 5), .addr 50 (.t 7) 0, .load 51 (.t 50) none, .mkS 52 1 1 [(.lit (.string ⟨#[]⟩))] [(0, (.t 51))], .app 53 (.t 49) (.t 52) 1 16, .asg 5 (.t 53)])
 (.seq (.seq (.reg [.cpy 54 (.t 8), .bin 55 .eql (.t 54) (.c (.lit (.int .i64 0))), .cpy 56 (.t 55), .guard 56 true (some 57) (.addr 57 (.t 7) 1), .guard 56 true (some 58) (.load 58 (.t 57) none), .guard 56 true (some 59) (.call 59 54 [(.t 58), (.c (.lit (.int .i64 0))), (.c (.lit (.int .i64 9999)))]), .guard 56 true (some 60) (.not 60 (.t 59)), .guard 56 true (some 61) (.cpy 61 (.t 60)), .guard 61 false (some 62) (.addr 62 (.t 7) 2), .guard 61 false (some 63) (.load 63 (.t 62) none), .guard 61 false (some 64) (.call 64 54 [(.t 63), (.c (.lit (.int .i64 0))), (.c (.lit (.int .i64 9999)))]), .guard 61 false (some 65) (.not 65 (.t 64)), .guard 56 true (some 66) (.pick 66 (.t 61) (.c (.lit (.bool true))) (.t 65)), .pick 67 (.t 56) (.t 66) (.c (.lit (.bool false)))])
 (.cond (.t 67) (.reg [.asg 8 (.c (.lit (.int .i64 7)))]) .skip))
 (.seq (.seq (.reg [.cpy 68 (.t 8), .bin 69 .eql (.t 68) (.c (.lit (.int .i64 0))), .cpy 70 (.t 69), .guard 70 true (some 71) (.addr 71 (.t 7) 1), .guard 70 true (some 72) (.load 72 (.t 71) none), .guard 70 true (some 73) (.addr 73 (.t 7) 2), .guard 70 true (some 74) (.load 74 (.t 73) none), .guard 70 true (some 75) (.bin 75 .gtr (.t 72) (.t 74)), .pick 76 (.t 70) (.t 75) (.c (.lit (.bool false)))])
 (.cond (.t 76) (.reg [.asg 8 (.c (.lit (.int .i64 2)))]) .skip))
 (.seq (.reg [.cpy 77 (.t 8), .bin 78 .neq (.t 77) (.c (.lit (.int .i64 0)))])
 (.cond (.t 78) (.seq (.reg [.cpy 79 (.t 6), .cpy 80 (.t 8), .asg 2 (.c (.lit (.int .i64 2))), .asg 3 (.t 79), .asg 4 (.t 80)])
 .ret) .skip))))))))
 (.reg [.cpy 38 (.t 6), .bin 39 .add (.t 38) (.c (.lit (.int .i64 1))), .asg 6 (.t 39)]))))))
 (.seq (.seq (.reg [.addr 81 (.t 1) 3, .load 82 (.t 81) none, .len 83 (.t 82), .bin 84 .gtr (.t 83) (.c (.lit (.int .i64 8)))])
 (.cond (.t 84) (.seq (.reg [.asg 2 (.c (.lit (.int .i64 3))), .asg 3 (.c (.lit (.int .i64 0))), .asg 4 (.c (.lit (.int .i64 3)))])
 .ret) .skip))
 (.seq (.seq (.reg [.asg 9 (.c (.lit (.int .i64 0)))])
 (.block 2 (.loop (.seq (.seq (.reg [.cpy 85 (.t 9), .addr 86 (.t 1) 3, .load 87 (.t 86) none, .len 88 (.t 87), .bin 89 .lss (.t 85) (.t 88)])
 (.cond (.t 89) .skip (.exit 2)))
 (.seq (.block 3 (.seq (.reg [.addr 92 (.t 1) 3, .load 93 (.t 92) none, .cpy 94 (.t 9), .idxS 95 (.t 93) (.t 94) 4, .load 96 (.t 95) (some 4), .alloc 10 [(.lit (.int .i64 0)), (.lit (.int .i64 0)), (.lit (.int .i64 0)), (.lit (.int .i64 0))], .storeF 10 (.t 96) 4])
 (.seq (.seq (.reg [.addr 97 (.t 10) 0, .load 98 (.t 97) none, .addr 99 (.t 1) 2, .load 100 (.t 99) none, .len 101 (.t 100), .bin 102 .sub (.t 101) (.c (.lit (.int .i64 1))), .call 103 54 [(.t 98), (.c (.lit (.int .i64 0))), (.t 102)], .not 104 (.t 103), .cpy 105 (.t 104), .guard 105 false (some 106) (.addr 106 (.t 10) 3), .guard 105 false (some 107) (.load 107 (.t 106) none), .guard 105 false (some 108) (.bin 108 .neq (.t 107) (.c (.lit (.int .i64 (-1))))), .guard 105 false (some 109) (.cpy 109 (.t 108)), .guard 109 true (some 110) (.addr 110 (.t 10) 3), .guard 109 true (some 111) (.load 111 (.t 110) none), .guard 109 true (some 112) (.cpy 112 (.t 9)), .guard 109 true (some 113) (.bin 113 .sub (.t 112) (.c (.lit (.int .i64 1)))), .guard 109 true (some 114) (.call 114 54 [(.t 111), (.c (.lit (.int .i64 0))), (.t 113)]), .guard 109 true (some 115) (.not 115 (.t 114)), .guard 105 false (some 116) (.pick 116 (.t 109) (.t 115) (.c (.lit (.bool false)))), .pick 117 (.t 105) (.c (.lit (.bool true))) (.t 116)])
 (.cond (.t 117) (.seq (.reg [.cpy 118 (.t 9), .asg 2 (.c (.lit (.int .i64 3))), .asg 3 (.t 118), .asg 4 (.c (.lit (.int .i64 4)))])
 .ret) .skip))
 (.seq (.reg [.addr 119 (.t 10) 1, .load 120 (.t 119) (some 2), .addr 121 (.t 1) 0, .load 122 (.t 121) none, .addr 123 (.t 1) 1, .load 124 (.t 123) none, .call 125 56 [(.t 120), (.t 122), (.t 124)], .asg 11 (.t 125)])
 (.seq (.seq (.reg [.cpy 126 (.t 11), .bin 127 .eql (.t 126) (.c (.lit (.int .i64 0))), .cpy 128 (.t 127), .guard 128 true (some 129) (.addr 129 (.t 10) 1), .guard 128 true (some 130) (.addr 130 (.t 129) 1), .guard 128 true (some 131) (.load 131 (.t 130) none), .guard 128 true (some 132) (.addr 132 (.t 10) 1), .guard 128 true (some 133) (.addr 133 (.t 132) 0), .guard 128 true (some 134) (.load 134 (.t 133) none), .guard 128 true (some 135) (.bin 135 .add (.t 134) (.c (.lit (.int .i64 40)))), .guard 128 true (some 136) (.bin 136 .gtr (.t 131) (.t 135)), .pick 137 (.t 128) (.t 136) (.c (.lit (.bool false)))])
 (.cond (.t 137) (.reg [.asg 11 (.c (.lit (.int .i64 2)))]) .skip))
 (.seq (.reg [.cpy 138 (.t 11), .bin 139 .neq (.t 138) (.c (.lit (.int .i64 0)))])
 (.cond (.t 139) (.seq (.reg [.cpy 140 (.t 9), .cpy 141 (.t 11), .asg 2 (.c (.lit (.int .i64 3))), .asg 3 (.t 140), .asg 4 (.t 141)])
 .ret) .skip)))))))
 (.reg [.cpy 90 (.t 9), .bin 91 .add (.t 90) (.c (.lit (.int .i64 1))), .asg 9 (.t 91)]))))))
 (.seq (.seq (.reg [.addr 142 (.t 1) 4, .load 143 (.t 142) none, .len 144 (.t 143), .bin 145 .gtr (.t 144) (.c (.lit (.int .i64 4)))])
 (.cond (.t 145) (.seq (.reg [.asg 2 (.c (.lit (.int .i64 4))), .asg 3 (.c (.lit (.int .i64 0))), .asg 4 (.c (.lit (.int .i64 3)))])
 .ret) .skip))
 (.seq (.seq (.reg [.asg 12 (.c (.lit (.int .i64 0)))])
 (.block 4 (.loop (.seq (.seq (.reg [.cpy 146 (.t 12), .addr 147 (.t 1) 4, .load 148 (.t 147) none, .len 149 (.t 148), .bin 150 .lss (.t 146) (.t 149)])
 (.cond (.t 150) .skip (.exit 4)))
 (.seq (.block 5 (.seq (.reg [.addr 153 (.t 1) 4, .load 154 (.t 153) none, .cpy 155 (.t 12), .idxS 156 (.t 154) (.t 155) 3, .load 157 (.t 156) (some 3), .alloc 13 [(.lit (.int .i64 0)), (.lit (.int .i64 0)), (.lit (.int .i64 0))], .storeF 13 (.t 157) 3])
 (.seq (.seq (.reg [.addr 158 (.t 13) 0, .load 159 (.t 158) none, .addr 160 (.t 1) 0, .load 161 (.t 160) none, .addr 162 (.t 1) 1, .load 163 (.t 162) none, .call 164 54 [(.t 159), (.t 161), (.t 163)], .not 165 (.t 164)])
 (.cond (.t 165) (.seq (.reg [.cpy 166 (.t 12), .asg 2 (.c (.lit (.int .i64 4))), .asg 3 (.t 166), .asg 4 (.c (.lit (.int .i64 7)))])
 .ret) .skip))
 (.seq (.seq (.reg [.addr 167 (.t 13) 1, .load 168 (.t 167) none, .bin 169 .neq (.t 168) (.c (.lit (.int .i64 (-1)))), .cpy 170 (.t 169), .guard 170 true (some 171) (.addr 171 (.t 13) 1), .guard 170 true (some 172) (.load 172 (.t 171) none), .guard 170 true (some 173) (.addr 173 (.t 1) 2), .guard 170 true (some 174) (.load 174 (.t 173) none), .guard 170 true (some 175) (.len 175 (.t 174)), .guard 170 true (some 176) (.bin 176 .sub (.t 175) (.c (.lit (.int .i64 1)))), .guard 170 true (some 177) (.call 177 54 [(.t 172), (.c (.lit (.int .i64 0))), (.t 176)]), .guard 170 true (some 178) (.not 178 (.t 177)), .pick 179 (.t 170) (.t 178) (.c (.lit (.bool false))), .cpy 180 (.t 179), .guard 180 false (some 181) (.addr 181 (.t 13) 2), .guard 180 false (some 182) (.load 182 (.t 181) none), .guard 180 false (some 183) (.bin 183 .neq (.t 182) (.c (.lit (.int .i64 (-1))))), .guard 180 false (some 184) (.cpy 184 (.t 183)), .guard 184 true (some 185) (.addr 185 (.t 13) 2), .guard 184 true (some 186) (.load 186 (.t 185) none), .guard 184 true (some 187) (.addr 187 (.t 1) 2), .guard 184 true (some 188) (.load 188 (.t 187) none), .guard 184 true (some 189) (.len 189 (.t 188)), .guard 184 true (some 190) (.bin 190 .sub (.t 189) (.c (.lit (.int .i64 1)))), .guard 184 true (some 191) (.call 191 54 [(.t 186), (.c (.lit (.int .i64 0))), (.t 190)]), .guard 184 true (some 192) (.not 192 (.t 191)), .guard 180 false (some 193) (.pick 193 (.t 184) (.t 192) (.c (.lit (.bool false)))), .pick 194 (.t 180) (.c (.lit (.bool true))) (.t 193)])
 (.cond (.t 194) (.seq (.reg [.cpy 195 (.t 12), .asg 2 (.c (.lit (.int .i64 4))), .asg 3 (.t 195), .asg 4 (.c (.lit (.int .i64 4)))])
 .ret) .skip))
 (.seq (.reg [.addr 196 (.t 13) 1, .load 197 (.t 196) none, .addr 198 (.t 13) 2, .load 199 (.t 198) none, .bin 200 .eql (.t 197) (.t 199)])
 (.cond (.t 200) (.seq (.reg [.cpy 201 (.t 12), .asg 2 (.c (.lit (.int .i64 4))), .asg 3 (.t 201), .asg 4 (.c (.lit (.int .i64 2)))])
 .ret) .skip))))))
 (.reg [.cpy 151 (.t 12), .bin 152 .add (.t 151) (.c (.lit (.int .i64 1))), .asg 12 (.t 152)]))))))
 (.seq (.reg [.asg 2 (.c (.lit (.int .i64 0))), .asg 3 (.c (.lit (.int .i64 0))), .asg 4 (.c (.lit (.int .i64 0)))])
 .ret)))))))))))
def r17 : List MRes := [.tmp 2, .tmp 3, .tmp 4]
theorem tr17 : Try.f17.body.bind (trC Try.prog ann17 Try.f17.ntmps) = some m17 := by kernel_rfl
theorem rs17 : trRes Try.prog Try.f17.results.toList = some r17 := by kernel_rfl
theorem fn17 : isFunc Try.prog 17 = true := by kernel_rfl

/- duodecimo/duodecimoref08.Orders -/
def ann80 : Ann := { muts := [], nilsz := [(2, 1), (6, 1)], oid := [], frz := [], zero := [(9, [(.slice 1 [] 0)]), (10, [(.slice 1 [] 0)]), (35, [(.lit (.int .i64 0))]), (42, [(.lit (.int .i64 0))]), (44, [(.slice 1 [] 0)])], ord := [], ap := [], own := [], yl := [], fz := [], imm := [], ic := [], cl := [], ylL := [], rl := [] }
def m80 : MCode := (.seq (.reg [.asgNil 2 1])
 (.seq (.reg [.mkS 9 1 1 [(.slice 1 [] 0)] [(0, (.c (.slice 1 [] 0)))], .asg 3 (.t 9)])
 (.seq (.reg [.mkS 10 1 1 [(.slice 1 [] 0)] [(0, (.c (.slice 1 [] 0)))], .asg 4 (.t 10)])
 (.seq (.seq (.reg [.asg 5 (.c (.lit (.int .i64 1)))])
 (.block 0 (.loop (.seq (.seq (.reg [.cpy 11 (.t 5), .cpy 12 (.t 0), .bin 13 .leq (.t 11) (.t 12)])
 (.cond (.t 13) .skip (.exit 0)))
 (.seq (.block 1 (.seq (.reg [.asgNil 6 1])
 (.seq (.seq (.reg [.asg 7 (.c (.lit (.int .i64 0)))])
 (.block 2 (.loop (.seq (.seq (.reg [.cpy 16 (.t 7), .cpy 17 (.t 4), .len 18 (.t 17), .bin 19 .lss (.t 16) (.t 18)])
 (.cond (.t 19) .skip (.exit 2)))
 (.seq (.block 3 (.seq (.reg [.asg 8 (.c (.lit (.int .i64 0)))])
 (.block 4 (.loop (.seq (.seq (.reg [.cpy 22 (.t 8), .cpy 23 (.t 0), .bin 24 .lss (.t 22) (.t 23)])
 (.cond (.t 24) .skip (.exit 4)))
 (.seq (.block 5 (.seq (.reg [.cpy 27 (.t 4), .cpy 28 (.t 7), .idxS 29 (.t 27) (.t 28) 1, .load 30 (.t 29) none, .cpy 31 (.t 8), .call 32 46 [(.t 30), (.t 31)], .not 33 (.t 32)])
 (.cond (.t 33) (.reg [.cpy 34 (.t 6), .mkS 35 0 1 [(.lit (.int .i64 0))] [], .cpy 36 (.t 4), .cpy 37 (.t 7), .idxS 38 (.t 36) (.t 37) 1, .load 39 (.t 38) none, .app 40 (.t 35) (.t 39) 1 8, .cpy 41 (.t 8), .mkS 42 1 1 [(.lit (.int .i64 0))] [(0, (.t 41))], .app 43 (.t 40) (.t 42) 1 8, .mkS 44 1 1 [(.slice 1 [] 0)] [(0, (.t 43))], .app 45 (.t 34) (.t 44) 1 24, .asg 6 (.t 45)]) .skip)))
 (.reg [.cpy 25 (.t 8), .bin 26 .add (.t 25) (.c (.lit (.int .i64 1))), .asg 8 (.t 26)])))))))
 (.reg [.cpy 20 (.t 7), .bin 21 .add (.t 20) (.c (.lit (.int .i64 1))), .asg 7 (.t 21)]))))))
 (.seq (.reg [.cpy 46 (.t 6), .asg 4 (.t 46)])
 (.reg [.cpy 47 (.t 3), .cpy 48 (.t 6), .app 49 (.t 47) (.t 48) 1 24, .asg 3 (.t 49)])))))
 (.reg [.cpy 14 (.t 5), .bin 15 .add (.t 14) (.c (.lit (.int .i64 1))), .asg 5 (.t 15)]))))))
 (.seq (.reg [.cpy 50 (.t 3), .asg 2 (.t 50)])
 .ret)))))
def r80 : List MRes := [.tmp 2]
theorem tr80 : Try.f80.body.bind (trC Try.prog ann80 Try.f80.ntmps) = some m80 := by kernel_rfl
theorem rs80 : trRes Try.prog Try.f80.results.toList = some r80 := by kernel_rfl
theorem fn80 : isFunc Try.prog 80 = true := by kernel_rfl

/- duodecimo/duodecimoref08.needed -/
/- duodecimo/duodecimoref08.Solve -/
/- duodecimo/duodecimoref08.All -/
/- duodecimo/duodecimoref08.some -/
/- duodecimo/duodecimoref08.Chain -/
/- duodecimo/duodecimoref08.Order -/
/- duodecimo/duodecimoref08.Why -/
/- duodecimo/duodecimoref08.Before -/
/- duodecimo/duodecimoref08.In -/
/- duodecimo/duodecimoref08.Year -/
/- duodecimo/duodecimoref08.Had -/
/- duodecimo/duodecimoref08.Owned -/
/- duodecimo/duodecimoref08.Both -/
/- duodecimo/duodecimoref08.Without -/
def ann48 : Ann := { muts := [2], nilsz := [(6, 4)], oid := [(57, 3003)], frz := [4], zero := [(4, [(.lit (.int .i64 0)), (.lit (.int .i64 0)), (.slice 3 [] 5002), (.slice 4 [] 5003), (.slice 3 [] 5004)]), (8, [(.lit (.int .i64 0)), (.lit (.int .i64 0)), (.lit (.int .i64 0)), (.lit (.int .i64 0))]), (12, [(.lit (.int .i64 0))]), (54, [(.lit (.int .i64 0)), (.lit (.int .i64 0)), (.lit (.int .i64 0)), (.lit (.int .i64 0))])], ord := [], ap := [], own := [], yl := [], fz := [], imm := [], ic := [], cl := [], ylL := [], rl := [] }
def m48 : MCode := (.seq (.reg [.boxM 2 (.t 0) 5, .alloc 4 [(.lit (.int .i64 0)), (.lit (.int .i64 0)), (.slice 3 [] 5002), (.slice 4 [] 5003), (.slice 3 [] 5004)]])
 (.seq (.reg [.addr 9 (.t 2) 3, .load 10 (.t 9) none, .len 11 (.t 10), .mkM 12 (.t 11) (.t 11) 1 8 [(.lit (.int .i64 0))], .asg 5 (.t 12)])
 (.seq (.reg [.asgNil 6 4])
 (.seq (.seq (.reg [.asg 7 (.c (.lit (.int .i64 0)))])
 (.block 0 (.loop (.seq (.seq (.reg [.cpy 13 (.t 7), .addr 14 (.t 2) 3, .load 15 (.t 14) none, .len 16 (.t 15), .bin 17 .lss (.t 13) (.t 16)])
 (.cond (.t 17) .skip (.exit 0)))
 (.seq (.block 1 (.seq (.seq (.reg [.cpy 20 (.t 1), .cpy 21 (.t 7), .call 22 46 [(.t 20), (.t 21)]])
 (.cond (.t 22) (.exit 1) .skip))
 (.seq (.reg [.cpy 23 (.t 5), .cpy 24 (.t 7), .cpy 25 (.t 6), .len 26 (.t 25), .idxS 27 (.t 23) (.t 24) 1, .store (.t 27) (.t 26) 1 0])
 (.seq (.reg [.addr 28 (.t 2) 3, .load 29 (.t 28) none, .cpy 30 (.t 7), .idxS 31 (.t 29) (.t 30) 4, .load 32 (.t 31) (some 4), .alloc 8 [(.lit (.int .i64 0)), (.lit (.int .i64 0)), (.lit (.int .i64 0)), (.lit (.int .i64 0))], .store (.t 8) (.t 32) 4 0])
 (.seq (.seq (.reg [.addr 33 (.t 8) 3, .load 34 (.t 33) none, .bin 35 .neq (.t 34) (.c (.lit (.int .i64 (-1)))), .cpy 36 (.t 35), .guard 36 true (some 37) (.cpy 37 (.t 1)), .guard 36 true (some 38) (.addr 38 (.t 8) 3), .guard 36 true (some 39) (.load 39 (.t 38) none), .guard 36 true (some 40) (.call 40 46 [(.t 37), (.t 39)]), .pick 41 (.t 36) (.t 40) (.c (.lit (.bool false)))])
 (.cond (.t 41) (.reg [.addr 42 (.t 8) 3, .store (.t 42) (.c (.lit (.int .i64 (-1)))) 1 0]) (.seq (.reg [.addr 43 (.t 8) 3, .load 44 (.t 43) none, .bin 45 .neq (.t 44) (.c (.lit (.int .i64 (-1))))])
 (.cond (.t 45) (.reg [.cpy 46 (.t 5), .addr 47 (.t 8) 3, .load 48 (.t 47) none, .idxS 49 (.t 46) (.t 48) 1, .load 50 (.t 49) none, .addr 51 (.t 8) 3, .store (.t 51) (.t 50) 1 0]) .skip))))
 (.reg [.cpy 52 (.t 6), .load 53 (.t 8) (some 4), .mkS 54 1 4 [(.lit (.int .i64 0)), (.lit (.int .i64 0)), (.lit (.int .i64 0)), (.lit (.int .i64 0))] [(0, (.t 53))], .app 55 (.t 52) (.t 54) 4 32, .asg 6 (.t 55)]))))))
 (.reg [.cpy 18 (.t 7), .bin 19 .add (.t 18) (.c (.lit (.int .i64 1))), .asg 7 (.t 19)]))))))
 (.seq (.reg [.cpy 56 (.t 6), .addr 57 (.t 2) 3, .store (.t 57) (.t 56) 1 3003])
 (.seq (.reg [.load 58 (.t 2) (some 5), .storeF 4 (.t 58) 5])
 .ret))))))
def r48 : List MRes := [.cell 4 (some 5)]
theorem tr48 : Try.f48.body.bind (trC Try.prog ann48 Try.f48.ntmps) = some m48 := by kernel_rfl
theorem rs48 : trRes Try.prog Try.f48.results.toList = some r48 := by kernel_rfl
theorem fn48 : isFunc Try.prog 48 = true := by kernel_rfl

/- duodecimo/duodecimoref08.Forged -/
end Go.Proofs.Ytiampdiobdianaa

namespace Go.Proofs.Ytiampdiobdianaa
open Go.Avm

def namesUp (c : Case) (k : Nat) : List ByteArray := (c.owners.take k).map Ower.name

theorem checkR_ok (c : Case) : PCall Try.prog 17 [encCase c] (T3 (checkS c)) := by
  refine pcall Try.func17 tr17 rs17 fn17 (by simp [Try.ntmps17]) fun hfit => ?_
  have lS := fits_len (fits_agg (hfit 0) 2)
  have lR := fits_len (fits_agg (hfit 0) 3)
  have lX := fits_len (fits_agg (hfit 0) 4)
  simp only [List.length_map] at lS lR lX
  obtain ⟨R, hR⟩ : ∃ R, R = checkS c := ⟨_, rfl⟩
  rw [← hR]
  simp -implicitDefEqProofs only [m17]
  refine cutS (fun st => st.env 1 = caseRef c) ?_ ?_
  · intro k hk
    simp -implicitDefEqProofs
    exact hk _ rfl
  intro s e1; clear hfit
  by_cases h1 : (1450 ≤ c.printed ∧ c.printed ≤ 1850) ∧ (1450 ≤ c.now ∧ c.now ≤ 1850)
  case neg =>
    simp -implicitDefEqProofs [e1]
    by_cases ha : 1450 ≤ c.printed ∧ c.printed ≤ 1850
    · have hb : ¬ (1450 ≤ c.now ∧ c.now ≤ 1850) := fun h => h1 ⟨ha, h⟩
      refine vCall_of (in_ok' _ _ _ true (decide_eq_true ha)) ?_
      simp -implicitDefEqProofs [e1]
      refine vCall_of (in_ok' _ _ _ false (decide_eq_false hb)) ?_
      simp -implicitDefEqProofs [r17, hR, checkS_1 h1]
    · refine vCall_of (in_ok' _ _ _ false (decide_eq_false ha)) ?_
      simp -implicitDefEqProofs [r17, hR, checkS_1 h1]
  refine cutS (fun st => st.env 1 = caseRef c) ?_ ?_
  · intro k hk
    simp -implicitDefEqProofs [e1]
    refine vCall_of (in_ok' _ _ _ true (decide_eq_true h1.1)) ?_
    simp -implicitDefEqProofs [e1]
    refine vCall_of (in_ok' _ _ _ true (decide_eq_true h1.2)) ?_
    simp -implicitDefEqProofs
    exact hk _ (by simp [e1])
  intro s e1
  by_cases h2 : c.now < c.printed
  case pos =>
    simp -implicitDefEqProofs [e1, h2, r17, hR, checkS_2 h1 h2]
  refine cutS (fun st => st.env 1 = caseRef c) ?_ ?_
  · intro k hk
    simp -implicitDefEqProofs [e1, h2]
    exact hk _ (by simp [e1])
  intro s e1
  by_cases h3 : (6 : Int) < c.owners.length
  case pos =>
    simp -implicitDefEqProofs [e1, h3, r17, hR, checkS_3 h1 h2 h3]
  refine cutS (fun st => st.env 1 = caseRef c) ?_ ?_
  · intro k hk
    simp -implicitDefEqProofs [e1, h3]
    exact hk _ (by simp [e1])
  intro s e1
  have p1 : Part1 c := ⟨h1, h2, h3⟩
  refine cutS (fun st => st.env 1 = caseRef c ∧ st.env 5 = .slice 1 [] 6) ?_ ?_
  · intro k hk
    simp -implicitDefEqProofs
    exact hk _ (by simp [e1])
  rintro s ⟨e1, e5⟩
  refine cutS (fun st => st.env 1 = caseRef c ∧ ∀ j < c.owners.length, ownE c j = 0) ?_ ?_
  · intro k0 hk0
    simp -implicitDefEqProofs
    refine loop_up c.owners.length (fun k s => s.env 1 = caseRef c ∧ s.env 5 = .slice 1 ((namesUp c k).map S) 6 ∧ s.env 6 = I k ∧ ∀ j < k, ownE c j = 0) ?_ ?_
    · simp [e1, e5, namesUp]
    · rintro k s hk ⟨e1, e5, e6, hno⟩
      simp -implicitDefEqProofs [e1, e6]
      refine cond_dec (fun hlt => ?_) (fun hge => ?_)
      · have hlt : k < c.owners.length := by omega
        have hst := ower_at hlt
        have hE : ownE c k = if namedE c.owners[k].name (namesUp c k) ≠ 0 then namedE c.owners[k].name (namesUp c k) else rangeE c.owners[k].born c.owners[k].died 0 9999 := by
          unfold ownE; rw [hst]; rfl
        have hf := fresh_ok c.owners[k].name (namesUp c k)
        have hl : (namesUp c k).length = k := by simp [namesUp]; omega
        have hsn : namesUp c (k + 1) = namesUp c k ++ [c.owners[k].name] := by unfold namesUp; rw [take_snoc hlt, List.map_append]; rfl
        generalize namesUp c k = nm at *
        generalize namedE c.owners[k].name nm = e at *
        simp -implicitDefEqProofs [e1, e5, e6, hlt]
        intro b hb
        refine vCall_of hf ?_
        simp -implicitDefEqProofs [e5]
        refine ⟨by omega, by omega, ?_⟩
        by_cases he : e = 0
        · have he' : (e == 0) = true := by simp [he]
          rw [if_neg (not_not_intro he)] at hE
          simp -implicitDefEqProofs [he']
          by_cases ha : 0 ≤ c.owners[k].born ∧ c.owners[k].born ≤ 9999
          case neg =>
            refine vCall_of (in_ok' _ _ _ false (decide_eq_false ha)) ?_
            have hE : ownE c k = 7 := by rw [hE]; unfold rangeE; rw [if_pos (by omega)]
            have hr := checkS_4 p1 hlt hno (by rw [hE]; decide)
            rw [hE] at hr
            simp -implicitDefEqProofs [e6, r17, hR, hr]
          refine vCall_of (in_ok' _ _ _ true (decide_eq_true ha)) ?_
          simp -implicitDefEqProofs
          by_cases hb : 0 ≤ c.owners[k].died ∧ c.owners[k].died ≤ 9999
          case neg =>
            refine vCall_of (in_ok' _ _ _ false (decide_eq_false hb)) ?_
            have hE : ownE c k = 7 := by rw [hE]; unfold rangeE; rw [if_pos (by omega)]
            have hr := checkS_4 p1 hlt hno (by rw [hE]; decide)
            rw [hE] at hr
            simp -implicitDefEqProofs [e6, r17, hR, hr]
          refine vCall_of (in_ok' _ _ _ true (decide_eq_true hb)) ?_
          have hE : ownE c k = if c.owners[k].died < c.owners[k].born then 2 else 0 := by rw [hE]; unfold rangeE; rw [if_neg (by omega)]
          simp -implicitDefEqProofs [he']
          refine cond_dec (fun hc => ?_) (fun hc => ?_)
          · have hE : ownE c k = 2 := by rw [hE, if_pos hc]
            have hr := checkS_4 p1 hlt hno (by rw [hE]; decide)
            rw [hE] at hr
            simp -implicitDefEqProofs [e6, r17, hR, hr]
          · have hE : ownE c k = 0 := by rw [hE, if_neg hc]
            have he2 : (e != 0) = false := by simp [he]
            simp -implicitDefEqProofs [e6, he2]
            exact ⟨i64 (by omega) (by omega), round_ok hlt ⟨by simp [e1], by simp [hsn], by simp, lt_snoc hno hE⟩⟩
        · have he' : (e == 0) = false := by simp [he]
          have he2 : (e != 0) = true := by simp [he]
          rw [if_pos he] at hE
          have hr := checkS_4 p1 hlt hno (by rw [hE]; exact he)
          rw [hE] at hr
          simp -implicitDefEqProofs [e6, he', he2, r17, hR, hr]
      · obtain rfl : k = c.owners.length := by omega
        simp -implicitDefEqProofs
        exact hk0 _ ⟨by simp [e1], hno⟩
  rintro s ⟨e1, h4⟩
  by_cases h5 : (8 : Int) < c.marks.length
  case pos =>
    simp -implicitDefEqProofs [e1, h5, r17, hR, checkS_5 p1 h4 h5]
  have p2 : Part2 c := ⟨p1, h4, h5⟩
  refine cutS (fun st => st.env 1 = caseRef c) ?_ ?_
  · intro k hk
    simp -implicitDefEqProofs [e1, h5]
    exact hk _ (by simp [e1])
  intro s e1
  refine cutS (fun st => st.env 1 = caseRef c ∧ ∀ j < c.marks.length, markE c j = 0) ?_ ?_
  · intro k0 hk0
    simp -implicitDefEqProofs
    refine loop_up c.marks.length (fun k s => s.env 1 = caseRef c ∧ s.env 9 = I k ∧ ∀ j < k, markE c j = 0) ?_ ?_
    · simp [e1]
    · rintro k s hk ⟨e1, e9, hno⟩
      simp -implicitDefEqProofs [e1, e9]
      refine cond_dec (fun hlt => ?_) (fun hge => ?_)
      · have hlt : k < c.marks.length := by omega
        have hst := mk_at hlt
        have hE : markE c k = if ¬ ((0 ≤ c.marks[k].owner ∧ c.marks[k].owner ≤ (c.owners.length : Int) - 1) ∧ (-1 ≤ c.marks[k].upon ∧ c.marks[k].upon ≤ (k : Int) - 1)) then 4 else
            if rangeE c.marks[k].lo c.marks[k].hi c.printed c.now ≠ 0 then rangeE c.marks[k].lo c.marks[k].hi c.printed c.now else if c.marks[k].lo + 40 < c.marks[k].hi then 2 else 0 := by
          unfold markE; rw [hst]
        generalize hm : c.marks[k] = m at *
        simp -implicitDefEqProofs [e1, e9, hlt, hm]
        intro b hb
        refine ⟨i64 (by omega) (by omega), ?_⟩
        by_cases ha : 0 ≤ m.owner ∧ m.owner ≤ (c.owners.length : Int) - 1
        case neg =>
          refine vCall_of (in_ok' _ _ _ false (decide_eq_false ha)) ?_
          have hE' : markE c k = 4 := by rw [hE, if_pos (fun h => ha h.1)]
          have hr := checkS_6 p2 hlt hno (by rw [hE']; decide)
          rw [hE'] at hr
          simp -implicitDefEqProofs [e9, r17, hR, hr]
        refine vCall_of (in_ok' _ _ _ true (decide_eq_true ha)) ?_
        have go : ∀ (K : MCode → Prop), True := fun _ => trivial
        have hr0 := range_ok m.lo m.hi c.printed c.now
        have hin : rangeE m.lo m.hi c.printed c.now = 0 → c.printed ≤ m.lo ∧ m.lo ≤ c.now := fun h => by
          unfold rangeE at h
          split at h
          · cases h
          · omega
        generalize rangeE m.lo m.hi c.printed c.now = q at *
        have bad : m.upon ≠ -1 → ¬ (0 ≤ m.upon ∧ m.upon ≤ (k : Int) - 1) → markE c k = 4 := fun h0 h => by rw [hE, if_pos (fun h' => h (by omega))]
        have good : m.upon = -1 ∨ (0 ≤ m.upon ∧ m.upon ≤ (k : Int) - 1) → markE c k = if q ≠ 0 then q else if m.lo + 40 < m.hi then 2 else 0 := fun h => by
          rw [hE, if_neg (not_not_intro ⟨ha, by omega⟩)]
        clear hE
        by_cases h0 : m.upon = -1
        · have hE := good (.inl h0)
          simp -implicitDefEqProofs [h0]
          simp -implicitDefEqProofs [e1]
          refine vCall_of hr0 ?_
          by_cases hq : q = 0
          · have hq' : (q == 0) = true := by simp [hq]
            have hq2 : (q != 0) = false := by simp [hq]
            rw [if_neg (not_not_intro hq)] at hE
            have hin := hin hq
            simp -implicitDefEqProofs [hq']
            refine ⟨i64 (by omega) (by omega), ?_⟩
            by_cases hc : m.lo + 40 < m.hi
            · rw [if_pos hc] at hE
              have hr := checkS_6 p2 hlt hno (by rw [hE]; decide)
              rw [hE] at hr
              simp -implicitDefEqProofs [hc, e9, r17, hR, hr]
            · rw [if_neg hc] at hE
              simp -implicitDefEqProofs [hc, e9, hq2]
              exact ⟨i64 (by omega) (by omega), round_ok hlt ⟨by simp [e1], by simp, lt_snoc hno hE⟩⟩
          · have hq' : (q == 0) = false := by simp [hq]
            have hq2 : (q != 0) = true := by simp [hq]
            rw [if_pos hq] at hE
            have hr := checkS_6 p2 hlt hno (by rw [hE]; exact hq)
            rw [hE] at hr
            simp -implicitDefEqProofs [e9, hq', hq2, r17, hR, hr]
        · have h0' : (m.upon != -1) = true := by simp [h0]
          simp -implicitDefEqProofs [h0', e9]
          refine ⟨i64 (by omega) (by omega), ?_⟩
          by_cases hb : 0 ≤ m.upon ∧ m.upon ≤ (k : Int) - 1
          case neg =>
            have hE' := bad h0 hb
            refine vCall_of (in_ok' _ _ _ false (decide_eq_false hb)) ?_
            have hr := checkS_6 p2 hlt hno (by rw [hE']; decide)
            rw [hE'] at hr
            simp -implicitDefEqProofs [e9, r17, hR, hr]
          refine vCall_of (in_ok' _ _ _ true (decide_eq_true hb)) ?_
          have hE := good (.inr hb)
          simp -implicitDefEqProofs [e1]
          refine vCall_of hr0 ?_
          by_cases hq : q = 0
          · have hq' : (q == 0) = true := by simp [hq]
            have hq2 : (q != 0) = false := by simp [hq]
            rw [if_neg (not_not_intro hq)] at hE
            have hin := hin hq
            simp -implicitDefEqProofs [hq']
            refine ⟨i64 (by omega) (by omega), ?_⟩
            by_cases hc : m.lo + 40 < m.hi
            · rw [if_pos hc] at hE
              have hr := checkS_6 p2 hlt hno (by rw [hE]; decide)
              rw [hE] at hr
              simp -implicitDefEqProofs [hc, e9, r17, hR, hr]
            · rw [if_neg hc] at hE
              simp -implicitDefEqProofs [hc, e9, hq2]
              exact ⟨i64 (by omega) (by omega), round_ok hlt ⟨by simp [e1], by simp, lt_snoc hno hE⟩⟩
          · have hq' : (q == 0) = false := by simp [hq]
            have hq2 : (q != 0) = true := by simp [hq]
            rw [if_pos hq] at hE
            have hr := checkS_6 p2 hlt hno (by rw [hE]; exact hq)
            rw [hE] at hr
            simp -implicitDefEqProofs [e9, hq', hq2, r17, hR, hr]
      · obtain rfl : k = c.marks.length := by omega
        simp -implicitDefEqProofs
        exact hk0 _ ⟨by simp [e1], hno⟩
  rintro s ⟨e1, h6⟩
  by_cases h7 : (4 : Int) < c.sales.length
  case pos =>
    simp -implicitDefEqProofs [e1, h7, r17, hR, checkS_7 p2 h6 h7]
  have p3 : Part3 c := ⟨p2, h6, h7⟩
  refine cutS (fun st => st.env 1 = caseRef c) ?_ ?_
  · intro k hk
    simp -implicitDefEqProofs [e1, h7]
    exact hk _ (by simp [e1])
  intro s e1
  refine cutS (fun st => ∀ j < c.sales.length, saleE c j = 0) ?_ ?_
  · intro k0 hk0
    simp -implicitDefEqProofs
    refine loop_up c.sales.length (fun k s => s.env 1 = caseRef c ∧ s.env 12 = I k ∧ ∀ j < k, saleE c j = 0) ?_ ?_
    · simp [e1]
    · rintro k s hk ⟨e1, e12, hno⟩
      simp -implicitDefEqProofs [e1, e12]
      refine cond_dec (fun hlt => ?_) (fun hge => ?_)
      · have hlt : k < c.sales.length := by omega
        have hst := sale_at hlt
        have hE : saleE c k = if ¬ (c.printed ≤ c.sales[k].year ∧ c.sales[k].year ≤ c.now) then 7 else
            if ¬ ((-1 ≤ c.sales[k].src ∧ c.sales[k].src ≤ (c.owners.length : Int) - 1) ∧ (-1 ≤ c.sales[k].dst ∧ c.sales[k].dst ≤ (c.owners.length : Int) - 1)) then 4 else
            if c.sales[k].src = c.sales[k].dst then 2 else 0 := by
          unfold saleE; rw [hst]
        generalize hm : c.sales[k] = m at *
        simp -implicitDefEqProofs [e1, e12, hlt, hm]
        intro b hb
        by_cases ha : c.printed ≤ m.year ∧ m.year ≤ c.now
        case neg =>
          refine vCall_of (in_ok' _ _ _ false (decide_eq_false ha)) ?_
          have hE' : saleE c k = 7 := by rw [hE, if_pos ha]
          have hr := checkS_8 p3 hlt hno (by rw [hE']; decide)
          rw [hE'] at hr
          simp -implicitDefEqProofs [e12, r17, hR, hr]
        refine vCall_of (in_ok' _ _ _ true (decide_eq_true ha)) ?_
        rw [if_neg (not_not_intro ha)] at hE
        by_cases hs0 : m.src = -1
        · have hs' : (m.src != -1) = false := by simp [hs0]
          simp -implicitDefEqProofs [hs']
          by_cases hd0 : m.dst = -1
          · have hd' : (m.dst != -1) = false := by simp [hd0]
            simp -implicitDefEqProofs [hd']
            have same : m.src = m.dst → saleE c k = 2 := fun h => by rw [hE, if_neg (by omega), if_pos h]
            have fine : m.src ≠ m.dst → saleE c k = 0 := fun h => by rw [hE, if_neg (by omega), if_neg h]
            by_cases hc : m.src = m.dst
            · have hE' := same hc
              have hr := checkS_8 p3 hlt hno (by rw [hE']; decide)
              rw [hE'] at hr
              have hc' : (m.src == m.dst) = true := by simp [hc]
              first
                | simp -implicitDefEqProofs [hc', e12, r17, hR, hr]
                | omega
            · have hE' := fine hc
              have hc' : (m.src == m.dst) = false := by simp [hc]
              simp -implicitDefEqProofs [hc', e12]
              exact ⟨i64 (by omega) (by omega), round_ok hlt ⟨by simp [e1], by simp, lt_snoc hno hE'⟩⟩
          have hd' : (m.dst != -1) = true := by simp [hd0]
          simp -implicitDefEqProofs [hd', e1]
          refine ⟨i64 (by omega) (by omega), ?_⟩
          by_cases hd : 0 ≤ m.dst ∧ m.dst ≤ (c.owners.length : Int) - 1
          case neg =>
            refine vCall_of (in_ok' _ _ _ false (decide_eq_false hd)) ?_
            have hE' : saleE c k = 4 := by rw [hE, if_pos (by omega)]
            have hr := checkS_8 p3 hlt hno (by rw [hE']; decide)
            rw [hE'] at hr
            simp -implicitDefEqProofs [e12, r17, hR, hr]
          refine vCall_of (in_ok' _ _ _ true (decide_eq_true hd)) ?_
          simp -implicitDefEqProofs
          have same : m.src = m.dst → saleE c k = 2 := fun h => by rw [hE, if_neg (by omega), if_pos h]
          have fine : m.src ≠ m.dst → saleE c k = 0 := fun h => by rw [hE, if_neg (by omega), if_neg h]
          by_cases hc : m.src = m.dst
          · have hE' := same hc
            have hr := checkS_8 p3 hlt hno (by rw [hE']; decide)
            rw [hE'] at hr
            have hc' : (m.src == m.dst) = true := by simp [hc]
            first
              | simp -implicitDefEqProofs [hc', e12, r17, hR, hr]
              | omega
          · have hE' := fine hc
            have hc' : (m.src == m.dst) = false := by simp [hc]
            simp -implicitDefEqProofs [hc', e12]
            exact ⟨i64 (by omega) (by omega), round_ok hlt ⟨by simp [e1], by simp, lt_snoc hno hE'⟩⟩
        have hs' : (m.src != -1) = true := by simp [hs0]
        simp -implicitDefEqProofs [hs', e1]
        refine ⟨i64 (by omega) (by omega), ?_⟩
        by_cases hs : 0 ≤ m.src ∧ m.src ≤ (c.owners.length : Int) - 1
        case neg =>
          refine vCall_of (in_ok' _ _ _ false (decide_eq_false hs)) ?_
          have hE' : saleE c k = 4 := by rw [hE, if_pos (by omega)]
          have hr := checkS_8 p3 hlt hno (by rw [hE']; decide)
          rw [hE'] at hr
          simp -implicitDefEqProofs [e12, r17, hR, hr]
        refine vCall_of (in_ok' _ _ _ true (decide_eq_true hs)) ?_
        simp -implicitDefEqProofs
        by_cases hd0 : m.dst = -1
        · have hd' : (m.dst != -1) = false := by simp [hd0]
          simp -implicitDefEqProofs [hd']
          have same : m.src = m.dst → saleE c k = 2 := fun h => by rw [hE, if_neg (by omega), if_pos h]
          have fine : m.src ≠ m.dst → saleE c k = 0 := fun h => by rw [hE, if_neg (by omega), if_neg h]
          by_cases hc : m.src = m.dst
          · have hE' := same hc
            have hr := checkS_8 p3 hlt hno (by rw [hE']; decide)
            rw [hE'] at hr
            have hc' : (m.src == m.dst) = true := by simp [hc]
            first
              | simp -implicitDefEqProofs [hc', e12, r17, hR, hr]
              | omega
          · have hE' := fine hc
            have hc' : (m.src == m.dst) = false := by simp [hc]
            simp -implicitDefEqProofs [hc', e12]
            exact ⟨i64 (by omega) (by omega), round_ok hlt ⟨by simp [e1], by simp, lt_snoc hno hE'⟩⟩
        have hd' : (m.dst != -1) = true := by simp [hd0]
        simp -implicitDefEqProofs [hd', e1]
        refine ⟨i64 (by omega) (by omega), ?_⟩
        by_cases hd : 0 ≤ m.dst ∧ m.dst ≤ (c.owners.length : Int) - 1
        case neg =>
          refine vCall_of (in_ok' _ _ _ false (decide_eq_false hd)) ?_
          have hE' : saleE c k = 4 := by rw [hE, if_pos (by omega)]
          have hr := checkS_8 p3 hlt hno (by rw [hE']; decide)
          rw [hE'] at hr
          simp -implicitDefEqProofs [e12, r17, hR, hr]
        refine vCall_of (in_ok' _ _ _ true (decide_eq_true hd)) ?_
        simp -implicitDefEqProofs
        have same : m.src = m.dst → saleE c k = 2 := fun h => by rw [hE, if_neg (by omega), if_pos h]
        have fine : m.src ≠ m.dst → saleE c k = 0 := fun h => by rw [hE, if_neg (by omega), if_neg h]
        by_cases hc : m.src = m.dst
        · have hE' := same hc
          have hr := checkS_8 p3 hlt hno (by rw [hE']; decide)
          rw [hE'] at hr
          have hc' : (m.src == m.dst) = true := by simp [hc]
          first
            | simp -implicitDefEqProofs [hc', e12, r17, hR, hr]
            | omega
        · have hE' := fine hc
          have hc' : (m.src == m.dst) = false := by simp [hc]
          simp -implicitDefEqProofs [hc', e12]
          exact ⟨i64 (by omega) (by omega), round_ok hlt ⟨by simp [e1], by simp, lt_snoc hno hE'⟩⟩
      · obtain rfl : k = c.sales.length := by omega
        simp -implicitDefEqProofs
        exact hk0 _ hno
  rintro s h8
  simp -implicitDefEqProofs [r17, hR, checkS_9 p3 h8]
end Go.Proofs.Ytiampdiobdianaa

namespace Go.Proofs.Ytiampdiobdianaa
open Go.Avm

theorem at_mem {o : List Int} {x : Int} (h : x ∈ o) : ∃ k : Nat, ∃ hk : k < o.length, at' o x = k ∧ o[k] = x := by
  unfold at'
  cases hq : o.idxOf? x with
  | some i =>
    rw [List.idxOf?_eq_some_iff] at hq
    obtain ⟨h1, h2, h3⟩ := hq
    exact ⟨i, h1, rfl, by simpa using h2⟩
  | none =>
    rw [List.idxOf?_eq_none_iff] at hq
    exact absurd h hq
theorem at_neg {o : List Int} {x : Int} : at' o x < 0 ↔ x ∉ o := by
  constructor
  · intro h hx
    obtain ⟨k, -, h2, -⟩ := at_mem hx
    omega
  · intro hx
    unfold at'
    rw [List.idxOf?_eq_none_iff.2 hx]
    decide
end Go.Proofs.Ytiampdiobdianaa

namespace Go.Proofs.Ytiampdiobdianaa
open Go.Avm

theorem at_nodup {o : List Int} (h : o.Nodup) {i : Nat} (hi : i < o.length) : at' o o[i] = i := by
  obtain ⟨k, hk, h1, h2⟩ := at_mem (List.getElem_mem hi)
  rw [h1]
  have := (List.getElem_inj h (h₀ := hk) (h₁ := hi)).1 h2
  omega
abbrev fMax (q : Sale → Prop) [DecidablePred q] (l : List Sale) (a : Int) : Int := l.foldl (fun a s => if q s then max a s.year else a) a
abbrev fMin (q : Sale → Prop) [DecidablePred q] (l : List Sale) (a : Int) : Int := l.foldl (fun a s => if q s then min a s.year else a) a
theorem fMax_ge (q : Sale → Prop) [DecidablePred q] : ∀ (l : List Sale) (a : Int), a ≤ fMax q l a ∧ ∀ s ∈ l, q s → s.year ≤ fMax q l a
  | [], a => ⟨Int.le_refl _, by simp⟩
  | s :: l, a => by
    have ih := fMax_ge q l (if q s then max a s.year else a)
    show a ≤ fMax q l (if q s then max a s.year else a) ∧ _
    refine ⟨Int.le_trans ?_ ih.1, fun x hx hq => ?_⟩
    · split <;> omega
    · rcases List.mem_cons.1 hx with rfl | hx
      · rw [if_pos hq] at ih
        have h1 := ih.1
        show x.year ≤ fMax q l (if q x then max a x.year else a)
        rw [if_pos hq]; omega
      · exact ih.2 x hx hq
theorem fMin_le (q : Sale → Prop) [DecidablePred q] : ∀ (l : List Sale) (a : Int), fMin q l a ≤ a ∧ ∀ s ∈ l, q s → fMin q l a ≤ s.year
  | [], a => ⟨Int.le_refl _, by simp⟩
  | s :: l, a => by
    have ih := fMin_le q l (if q s then min a s.year else a)
    show fMin q l (if q s then min a s.year else a) ≤ a ∧ _
    refine ⟨Int.le_trans ih.1 ?_, fun x hx hq => ?_⟩
    · split <;> omega
    · rcases List.mem_cons.1 hx with rfl | hx
      · rw [if_pos hq] at ih
        have h1 := ih.1
        show fMin q l (if q x then min a x.year else a) ≤ x.year
        rw [if_pos hq]; omega
      · exact ih.2 x hx hq
theorem marksUp_ge {c : Case} {o : Nat} {f : Int} {Y : Nat → Int} {t : Int} : ∀ {k : Nat} {x : (Nat → Int) × Int}, marksUp c o f Y t k = some x → t ≤ x.2
  | 0, x, h => by injection h with h; rw [← h]; exact Int.le_refl _
  | k + 1, x, h => by
    have h : (marksUp c o f Y t k).bind (markStep c o f k) = some x := h
    rw [Option.bind_eq_some_iff] at h
    obtain ⟨y, hy, h⟩ := h
    have ih := marksUp_ge hy
    unfold markStep at h
    split at h
    · injection h with h; rw [← h]; exact ih
    · split at h
      · cases h
      · injection h with h; rw [← h]; show t ≤ max _ _; omega
theorem runUp_since {c : Case} {order : List Int} : ∀ {i : Nat} {x : Run}, runUp c order i = some x → c.printed ≤ x.since
  | 0, x, h => by injection h with h; rw [← h]; exact Int.le_refl _
  | i + 1, x, h => by
    have h : (runUp c order i).bind (stepO c (order.getD i 0).toNat) = some x := h
    rw [Option.bind_eq_some_iff] at h
    obtain ⟨y, hy, h⟩ := h
    have ih := runUp_since hy
    unfold stepO at h
    rw [Option.bind_eq_some_iff] at h
    obtain ⟨z, hz, h⟩ := h
    have := marksUp_ge hz
    split at h
    · cases h
    · injection h with h; rw [← h]; show c.printed ≤ z.2; omega

end Go.Proofs.Ytiampdiobdianaa

namespace Go.Proofs.Ytiampdiobdianaa
open Go.Avm

def HR (b4 b5 : Nat) (l : List Hold) (v : AV) (loc : Nat → Option (List AV)) : Prop :=
  (l = [] ∧ v = .lit (.slice none 0 0)) ∨ ∃ hb cap cs, l ≠ [] ∧ v = .mslice hb 0 l.length cap 3 ∧ loc hb = some cs ∧ HBlk cs l cap ∧ hb ≠ b4 ∧ hb ≠ b5
theorem HR.ext {b4 b5 : Nat} {l : List Hold} {v v' : AV} {loc loc' : Nat → Option (List AV)} (h : HR b4 b5 l v loc) (hv : v' = v) (hl : ∀ c, c ≠ b4 → c ≠ b5 → loc c ≠ none → loc' c = loc c) : HR b4 b5 l v' loc' := by
  subst hv
  rcases h with ⟨h1, h2⟩ | ⟨hb, cap, cs, h1, h2, h3, h4, h5, h6⟩
  · exact .inl ⟨h1, h2⟩
  · exact .inr ⟨hb, cap, cs, h1, h2, by rw [hl hb h5 h6 (by rw [h3]; simp)]; exact h3, h4, h5, h6⟩
structure ZJ (c : Case) (order : List Int) (b4 b5 i : Nat) (Y : Nat → Int) (l : List Hold) (s : St) : Prop where
  e : s.env 1 = IL order ∧ s.env 2 = caseRef c ∧ s.env 4 = .mref b4 0 ∧ s.env 5 = .mslice b5 0 c.marks.length c.marks.length 1 ∧ s.env 8 = I i
  l4 : s.loc b4 = some [B false, .slice 3 [] 5001, I 0]
  l5 : s.loc b5 = some (cl c.marks.length Y)
  hs : HR b4 b5 l (s.env 6) s.loc
theorem ZJ.ext {c : Case} {order : List Int} {b4 b5 i : Nat} {Y : Nat → Int} {l : List Hold} {s s' : St} (h : ZJ c order b4 b5 i Y l s)
    (he : ∀ k ∈ [1, 2, 4, 5, 6, 8], s'.env k = s.env k) (hl : ∀ c, s.loc c ≠ none → s'.loc c = s.loc c) : ZJ c order b4 b5 i Y l s' := by
  simp only [List.mem_cons, List.not_mem_nil, or_false, forall_eq_or_imp, forall_eq] at he
  obtain ⟨a1, a2, a4, a5, a6, a8⟩ := he
  obtain ⟨e1, e2, e4, e5, e8⟩ := h.e
  exact ⟨⟨a1.trans e1, a2.trans e2, a4.trans e4, a5.trans e5, a8.trans e8⟩, by rw [hl b4 (by rw [h.l4]; simp)]; exact h.l4, by rw [hl b5 (by rw [h.l5]; simp)]; exact h.l5, h.hs.ext a6 (fun c _ _ hc => hl c hc)⟩
theorem ZJ.years {c : Case} {order : List Int} {b4 b5 i : Nat} {Y Y' : Nat → Int} {l : List Hold} {s s' : St} (h : ZJ c order b4 b5 i Y l s) (h54 : b5 ≠ b4)
    (he : ∀ k ∈ [1, 2, 4, 5, 6, 8], s'.env k = s.env k) (hl : ∀ c, c ≠ b5 → s'.loc c = s.loc c) (h5 : s'.loc b5 = some (cl c.marks.length Y')) : ZJ c order b4 b5 i Y' l s' := by
  simp only [List.mem_cons, List.not_mem_nil, or_false, forall_eq_or_imp, forall_eq] at he
  obtain ⟨a1, a2, a4, a5, a6, a8⟩ := he
  obtain ⟨e1, e2, e4, e5, e8⟩ := h.e
  exact ⟨⟨a1.trans e1, a2.trans e2, a4.trans e4, a5.trans e5, a8.trans e8⟩, by rw [hl b4 (fun e => h54 e.symm)]; exact h.l4, h5, h.hs.ext a6 (fun c _ hc _ => hl c hc)⟩
theorem rep_cl (n : Nat) : (List.replicate n [I 0]).flatten = cl n fun _ => 0 := by
  apply List.ext_getElem (by simp [cl])
  intro i h1 h2
  simp [cl]

theorem cutL_get : ∀ (l : List Hold) (j : Nat) (h : j < (cutL l).length), (cutL l)[j] = if j + 1 < l.length then cut (l.getD j ⟨0, 0, 0⟩) (l.getD (j + 1) ⟨0, 0, 0⟩).src else l.getD j ⟨0, 0, 0⟩
  | [], j, h => by simp [cutL] at h
  | [a], 0, h => by simp [cutL]
  | [a], j + 1, h => by simp [cutL] at h
  | a :: b :: l, 0, h => by simp [cutL]
  | a :: b :: l, j + 1, h => by
    have ih := cutL_get (b :: l) j (by rw [cutL_len] at h ⊢; simpa using h)
    simp only [cutL, List.getElem_cons_succ, ih, List.length_cons, List.getD_cons_succ, Nat.add_lt_add_iff_right]
end Go.Proofs.Ytiampdiobdianaa

namespace Go.Proofs.Ytiampdiobdianaa
open Go.Avm

theorem ordersUp_succ (n k : Nat) : ordersUp n (k + 1) = ordersUp n k ++ allO n k := by
  unfold ordersUp
  rw [List.range_succ, List.flatMap_append]
  simp
theorem allO_big {n : Nat} (hn : n ≤ 6) {i : Nat} (hi : i ≤ 6) : (allO n i).length ≤ 46656 := by
  refine Nat.le_trans (allO_len n i) ?_
  refine Nat.le_trans (Nat.pow_le_pow_left hn i) ?_
  exact Nat.le_trans (Nat.pow_le_pow_right (by omega) hi) (by decide)
theorem ordersUp_big {n : Nat} (hn : n ≤ 6) : ∀ {k : Nat}, k ≤ 7 → (ordersUp n k).length ≤ k * 46656
  | 0, _ => by simp [ordersUp]
  | k + 1, hk => by
    have h1 := ordersUp_big hn (k := k) (by omega)
    have h2 := allO_big hn (i := k) (by omega)
    rw [ordersUp_succ, List.length_append]
    omega

theorem orders80_ok {n : Nat} (hn : n ≤ 6) : PCall Try.prog 80 [I n] (ILL (ordersL n)) := by
  refine pcall Try.func80 tr80 rs80 fn80 (by simp [Try.ntmps80]) fun _ => ?_
  simp -implicitDefEqProofs only [m80]
  refine cutS (fun st => st.env 0 = I n) ?_ ?_
  · intro k hk
    simp -implicitDefEqProofs
    exact hk _ (by simp)
  intro s e0
  refine cutS (fun st => st.env 0 = I n ∧ st.env 3 = .slice 1 [IL []] 4) ?_ ?_
  · intro k hk
    simp -implicitDefEqProofs
    exact hk _ (by simp [e0])
  rintro s ⟨e0, e3⟩
  refine cutS (fun st => st.env 0 = I n ∧ st.env 3 = .slice 1 [IL []] 4 ∧ st.env 4 = .slice 1 [IL []] 5) ?_ ?_
  · intro k hk
    simp -implicitDefEqProofs
    exact hk _ (by simp [e0, e3])
  rintro s ⟨e0, e3, e4⟩
  refine cutS (fun st => st.env 3 = .slice 1 ((ordersL n).map IL) 4) ?_ ?_
  · intro k0 hk0
    simp -implicitDefEqProofs
    refine loop_up n (fun k st => st.env 0 = I n ∧ st.env 3 = .slice 1 ((ordersUp n (k + 1)).map IL) 4 ∧ st.env 4 = .slice 1 ((allO n k).map IL) 5 ∧ st.env 5 = I ((k : Int) + 1)) ?_ ?_
    · simp [e0, e3, e4, ordersUp, allO, List.range_succ]
    rintro k s hk ⟨e0, e3, e4, e5⟩
    simp -implicitDefEqProofs [e0, e5]
    refine cond_dec (fun hlt => ?_) (fun hge => ?_)
    · have hlt : k < n := by omega
      have hsu := ordersUp_succ n (k + 1)
      have hub := ordersUp_big hn (k := k + 1) (by omega)
      have hout := allO_big hn (i := k) (by omega)
      have hnext : (allO n k).flatMap (grow n) = allO n (k + 1) := rfl
      have hnb := allO_big hn (i := k + 1) (by omega)
      have hleach := allO_each n k
      generalize hNX : allO n (k + 1) = nx at *
      generalize hO : allO n k = out at *
      generalize ordersUp n (k + 1) = ou at *
      refine stepB ?_
      refine cutS (fun st => st.env 0 = I n ∧ st.env 3 = .slice 1 (ou.map IL) 4 ∧ st.env 4 = .slice 1 (out.map IL) 5 ∧ st.env 5 = I ((k : Int) + 1) ∧ st.env 6 = .slice 1 [] 7) ?_ ?_
      · intro k1 hk1
        simp -implicitDefEqProofs
        exact hk1 _ (by simp [e0, e3, e4, e5])
      rintro s ⟨e0, e3, e4, e5, e6⟩
      refine cutS (fun st => st.env 0 = I n ∧ st.env 3 = .slice 1 (ou.map IL) 4 ∧ st.env 5 = I ((k : Int) + 1) ∧ st.env 6 = .slice 1 (nx.map IL) 7) ?_ ?_
      · intro k1 hk1
        simp -implicitDefEqProofs
        refine loop_up out.length (fun q st => st.env 0 = I n ∧ st.env 3 = .slice 1 (ou.map IL) 4 ∧ st.env 4 = .slice 1 (out.map IL) 5 ∧ st.env 5 = I ((k : Int) + 1) ∧ st.env 6 = .slice 1 (((out.take q).flatMap (grow n)).map IL) 7 ∧ st.env 7 = I q) ?_ ?_
        · simp [e0, e3, e4, e5, e6]
        rintro q s hq ⟨e0, e3, e4, e5, e6, e7⟩
        simp -implicitDefEqProofs [e4, e7]
        refine cond_dec (fun hlt2 => ?_) (fun hge2 => ?_)
        · have hlt2 : q < out.length := by omega
          simp -implicitDefEqProofs
          have hacc := flat_grow_len n (out.take q)
          have hacc2 : (out.take q).length ≤ q := List.length_take_le _ _
          have hacc3 : ((out.take q).flatMap (grow n)).length ≤ 46656 * 6 := Nat.le_trans hacc (Nat.mul_le_mul (by omega) hn)
          have hsn : (out.take (q + 1)).flatMap (grow n) = (out.take q).flatMap (grow n) ++ grow n out[q] := by
            rw [take_snoc hlt2, List.flatMap_append]; simp
          have hol : out[q].length = k := (hleach _ (List.getElem_mem hlt2)).1
          generalize hA : (out.take q).flatMap (grow n) = acc at *
          generalize hoq : out[q] = o at *
          refine loop_up n (fun j st => st.env 0 = I n ∧ st.env 3 = .slice 1 (ou.map IL) 4 ∧ st.env 4 = .slice 1 (out.map IL) 5 ∧ st.env 5 = I ((k : Int) + 1) ∧ st.env 6 = .slice 1 ((acc ++ grow j o).map IL) 7 ∧ st.env 7 = I q ∧ st.env 8 = I j) ?_ ?_
          · simp [e0, e3, e4, e5, e6, e7, grow]
          rintro j s hj ⟨e0, e3, e4, e5, e6, e7, e8⟩
          simp -implicitDefEqProofs [e0, e8]
          refine cond_dec (fun hlt3 => ?_) (fun hge3 => ?_)
          · have hlt3 : j < n := by omega
            have hgl := grow_len j o
            have hgs := grow_succ j o
            simp -implicitDefEqProofs [e4, e7, e8, hlt2, hoq]
            refine vCall_of (has_ok _ _) ?_
            by_cases hin : ((j : Nat) : Int) ∈ o
            · rw [if_pos hin, List.append_nil] at hgs
              simp -implicitDefEqProofs [hin, e8]
              refine ⟨i64 (by omega) (by omega), round_ok hlt3 ?_⟩
              simp [e0, e3, e4, e5, e6, e7, hgs]
            · rw [if_neg hin] at hgs
              simp -implicitDefEqProofs [hin, e4, e6, e7, e8, hlt2, hoq]
              refine ⟨by omega, by omega, by omega, by omega, by omega, by omega, i64 (by omega) (by omega), round_ok hlt3 ?_⟩
              simp [e0, e3, e4, e5, e7, hgs]
          · obtain rfl : j = n := by omega
            simp -implicitDefEqProofs [e7]
            refine ⟨i64 (by omega) (by omega), round_ok hlt2 ?_⟩
            simp [e0, e3, e4, e5, e6, hsn]
        · obtain rfl : q = out.length := by omega
          rw [List.take_length, hnext] at e6
          simp -implicitDefEqProofs
          exact hk1 _ (by simp [e0, e3, e5, e6])
      rintro s ⟨e0, e3, e5, e6⟩
      simp -implicitDefEqProofs [e3, e5, e6]
      refine ⟨by omega, by omega, i64 (by omega) (by omega), round_ok hlt ?_⟩
      rw [hsu]
      simp [e0, hNX]
    · obtain rfl : k = n := by omega
      simp -implicitDefEqProofs
      exact hk0 _ (by simp [e3, ordersL])
  intro s e3
  simp -implicitDefEqProofs [e3, r80]

def firsts (c : Case) (os : List (List Int)) : List (List Int) := (chainsOf c os).map fun p => p.1
def allR (c : Case) : List (List Int) := firsts c (ordersL c.owners.length)
theorem allR_map (c : Case) : allR c = (chainsL c).map fun p => p.1 := rfl
theorem mem_chains {c : Case} {p : List Int × List Hold} (h : p ∈ chainsL c) : p.1 ∈ ordersL c.owners.length ∧ solveS c p.1 = some p.2 := by
  unfold chainsL chainsOf at h
  rw [List.mem_filterMap] at h
  obtain ⟨o, ho, hs⟩ := h
  unfold solved at hs
  rw [Option.map_eq_some_iff] at hs
  obtain ⟨l, hl, rfl⟩ := hs
  exact ⟨ho, hl⟩
theorem chains_at {c : Case} {k : Nat} (h : k < (chainsL c).length) : ∃ h2 : k < (allR c).length, (allR c)[k] = (chainsL c)[k].1 ∧ solveS c (chainsL c)[k].1 = some (chainsL c)[k].2 ∧ (chainsL c)[k].1 ∈ ordersL c.owners.length := by
  have hm := mem_chains (List.getElem_mem h)
  refine ⟨by rw [allR_map]; simpa using h, ?_, hm.2, hm.1⟩
  simp only [allR_map, List.getElem_map]
end Go.Proofs.Ytiampdiobdianaa
