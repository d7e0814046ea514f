/- The resolved code of some functions, written by program, each held against the function by the kernel. The resolved code of some functions, written by program, each held against the function by the kernel. The resolved code of some functions, written by program, each held against the function by the kernel. The resolved code of some functions, written by program, each held against the function by the kernel. The resolved code of some functions, written by program, each held against the function by the kernel. The resolved code of some functions, written by program, each held against the function by the kernel. The resolved code of some functions, written by program, each held against the function by the kernel. -/
import Derived.Test.YtbcfmfiolbcclaaProg
import Derived.Test.YtbcfmfiolbcclaaZC
import Derived.KernelRfl
namespace Go.Proofs.Ytbcfmfiolbcclaa
open Go.Avm

/- duodecimo/paper.outside -/
def ann48 : Ann := { muts := [], nilsz := [], oid := [], frz := [], zero := [], ord := [], ap := [], own := [], yl := [], fz := [], imm := [], ic := [], cl := [], ylL := [], rl := [] }
def m48 : MCode := (.seq (.reg [.boxI 3 (.t 0) 1, .boxI 4 (.t 1) 1, .asg 6 (.c (.lit (.bool false)))])
 (.seq (.reg [.cpy 7 (.t 2), .mkfn 8 (.func 83) [] [(.t 3), (.t 4)], .call 9 82 [(.t 7), (.t 8)], .asg 6 (.t 9)])
 .ret))
def r48 : List MRes := [.tmp 6]
theorem tr48 : Try.f48.body.bind (trC Try.prog ann48 Try.f48.ntmps) = some m48 := by kernel_rfl
theorem rs48 : trRes Try.prog Try.f48.results.toList = some r48 := by kernel_rfl
theorem fn48 : isFunc Try.prog 48 = true := by kernel_rfl

/- duodecimo/quire.Name -/
def ann49 : Ann := { muts := [], nilsz := [], oid := [], frz := [], zero := [], ord := [], ap := [], own := [], yl := [], fz := [], imm := [], ic := [], cl := [], ylL := [], rl := [] }
def m49 : MCode := (.seq (.reg [.asg 2 (.c (.lit (.bool false)))])
 (.seq (.seq (.reg [.cpy 5 (.t 0), .rngS 6 (.t 5)])
 (.block 0 (.loop (.seq (.reg [.nxtS 7 (.t 6), .ext 8 (.t 7) 0])
 (.seq (.cond (.t 8) .skip (.exit 0))
 (.block 1 (.seq (.reg [.ext 9 (.t 7) 1, .ext 10 (.t 7) 2, .asg 3 (.t 9), .asg 4 (.t 10)])
 (.block 2 (.seq (.reg [.cpy 12 (.t 4), .bin 13 .geq (.t 12) (.c (.lit (.int .i32 97))), .cpy 14 (.t 13), .guard 14 true (some 15) (.cpy 15 (.t 4)), .guard 14 true (some 16) (.bin 16 .leq (.t 15) (.c (.lit (.int .i32 122)))), .pick 17 (.t 14) (.t 16) (.c (.lit (.bool false))), .asg 11 (.t 17)])
 (.cond (.t 11) .skip (.seq (.reg [.cpy 19 (.t 3), .bin 20 .gtr (.t 19) (.c (.lit (.int .i64 0))), .cpy 21 (.t 20), .guard 21 true (some 22) (.cpy 22 (.t 4)), .guard 21 true (some 23) (.bin 23 .geq (.t 22) (.c (.lit (.int .i32 48)))), .guard 21 true (some 24) (.cpy 24 (.t 23)), .guard 24 true (some 25) (.cpy 25 (.t 4)), .guard 24 true (some 26) (.bin 26 .leq (.t 25) (.c (.lit (.int .i32 57)))), .guard 21 true (some 27) (.pick 27 (.t 24) (.t 26) (.c (.lit (.bool false)))), .guard 21 true (some 28) (.cpy 28 (.t 27)), .guard 28 false (some 29) (.cpy 29 (.t 4)), .guard 28 false (some 30) (.bin 30 .eql (.t 29) (.c (.lit (.int .i32 46)))), .guard 21 true (some 31) (.pick 31 (.t 28) (.c (.lit (.bool true))) (.t 30)), .pick 32 (.t 21) (.t 31) (.c (.lit (.bool false))), .asg 18 (.t 32)])
 (.cond (.t 18) .skip (.seq (.reg [.asg 2 (.c (.lit (.bool false)))])
 .ret)))))))))))))
 (.seq (.reg [.cpy 33 (.t 0), .bin 34 .neq (.t 33) (.c (.lit (.string ⟨#[]⟩))), .cpy 35 (.t 34), .guard 35 true (some 36) (.cpy 36 (.t 0)), .guard 35 true (some 37) (.lenStr 37 (.t 36)), .guard 35 true (some 38) (.bin 38 .leq (.t 37) (.c (.lit (.int .i64 16)))), .pick 39 (.t 35) (.t 38) (.c (.lit (.bool false))), .asg 2 (.t 39)])
 .ret)))
def r49 : List MRes := [.tmp 2]
theorem tr49 : Try.f49.body.bind (trC Try.prog ann49 Try.f49.ntmps) = some m49 := by kernel_rfl
theorem rs49 : trRes Try.prog Try.f49.results.toList = some r49 := by kernel_rfl
theorem fn49 : isFunc Try.prog 49 = true := by kernel_rfl

/- slices.ContainsFunc[[]duodecimo/api.PpStock,duodecimo/api.PpStock] -/
def ann50 : Ann := { muts := [], nilsz := [], oid := [], frz := [], zero := [], ord := [], ap := [], own := [], yl := [], fz := [], imm := [], ic := [], cl := [], ylL := [], rl := [] }
def m50 : MCode := (.seq (.reg [.asg 4 (.c (.lit (.bool false)))])
 (.seq (.reg [.cpy 5 (.t 0), .cpy 6 (.t 1), .call 7 84 [(.t 5), (.t 6)], .bin 8 .geq (.t 7) (.c (.lit (.int .i64 0))), .asg 4 (.t 8)])
 .ret))
def r50 : List MRes := [.tmp 4]
theorem tr50 : Try.f50.body.bind (trC Try.prog ann50 Try.f50.ntmps) = some m50 := by kernel_rfl
theorem rs50 : trRes Try.prog Try.f50.results.toList = some r50 := by kernel_rfl
theorem fn50 : isFunc Try.prog 50 = true := by kernel_rfl

/- duodecimo/paper.Check$1 -/
def ann51 : Ann := { muts := [], nilsz := [], oid := [], frz := [], zero := [], ord := [], ap := [], own := [], yl := [], fz := [], imm := [], ic := [], cl := [], ylL := [], rl := [] }
def m51 : MCode := (.seq (.reg [.boxI 2 (.t 0) 3, .asg 3 (.c (.lit (.bool false)))])
 (.seq (.reg [.addr 4 (.t 2) 0, .load 5 (.t 4) none, .addr 6 (.t 1) 0, .load 7 (.t 6) none, .bin 8 .eql (.t 5) (.t 7), .asg 3 (.t 8)])
 .ret))
def r51 : List MRes := [.tmp 3]
theorem tr51 : Try.f51.body.bind (trC Try.prog ann51 Try.f51.ntmps) = some m51 := by kernel_rfl
theorem rs51 : trRes Try.prog Try.f51.results.toList = some r51 := by kernel_rfl
theorem fn51 : isFunc Try.prog 51 = true := by kernel_rfl

/- duodecimo/paper.enter -/
def ann55 : Ann := { muts := [], nilsz := [], oid := [], frz := [2], zero := [(2, [(.lit (.int .i64 0)), (.slice 3 [] 3001), (.slice 3 [] 3002), (.lit (.int .i64 0)), (.slice 2 [] 3004)]), (14, [(.lit (.int .i64 0)), (.slice 3 [] 0), (.slice 3 [] 0), (.lit (.int .i64 0)), (.slice 2 [] 0)])], ord := [], ap := [], own := [], yl := [], fz := [], imm := [], ic := [], cl := [], ylL := [], rl := [] }
def m55 : MCode := (.seq (.reg [.boxI 1 (.t 0) 5, .alloc 2 [(.lit (.int .i64 0)), (.slice 3 [] 3001), (.slice 3 [] 3002), (.lit (.int .i64 0)), (.slice 2 [] 3004)], .asg 3 (.c (.lit (.int .i64 0)))])
 (.seq (.reg [.load 8 (.t 1) (some 5), .call 9 15 [(.t 8)], .cpy 7 (.t 9), .ext 10 (.t 7) 0, .ext 11 (.t 7) 1, .ext 12 (.t 7) 2, .asg 4 (.t 10), .asg 5 (.t 11), .asg 6 (.t 12)])
 (.seq (.reg [.load 13 (.t 1) (some 5), .build 14 [(.lit (.int .i64 0)), (.slice 3 [] 0), (.slice 3 [] 0), (.lit (.int .i64 0)), (.slice 2 [] 0)] [(0, 5, (.t 13))], .cpy 15 (.t 6), .storeF 2 (.t 14) 5, .asg 3 (.t 15)])
 .ret)))
def r55 : List MRes := [.cell 2 (some 5), .tmp 3]
theorem tr55 : Try.f55.body.bind (trC Try.prog ann55 Try.f55.ntmps) = some m55 := by kernel_rfl
theorem rs55 : trRes Try.prog Try.f55.results.toList = some r55 := by kernel_rfl
theorem fn55 : isFunc Try.prog 55 = true := by kernel_rfl

/- slices.Index[[]int,int] -/
def ann59 : Ann := { muts := [], nilsz := [], oid := [], frz := [], zero := [], ord := [], ap := [], own := [], yl := [], fz := [], imm := [], ic := [], cl := [], ylL := [], rl := [] }
def m59 : MCode := (.seq (.reg [.asg 4 (.c (.lit (.int .i64 0)))])
 (.seq (.seq (.reg [.cpy 6 (.t 0), .len 7 (.t 6), .cpy 8 (.c (.lit (.int .i64 0)))])
 (.block 0 (.loop (.seq (.reg [.bin 9 .lss (.t 8) (.t 7)])
 (.seq (.cond (.t 9) .skip (.exit 0))
 (.seq (.block 1 (.seq (.reg [.cpy 10 (.t 8), .asg 5 (.t 10)])
 (.seq (.reg [.cpy 11 (.t 1), .cpy 12 (.t 0), .cpy 13 (.t 5), .idxS 14 (.t 12) (.t 13) 1, .load 15 (.t 14) none, .bin 16 .eql (.t 11) (.t 15)])
 (.cond (.t 16) (.seq (.reg [.cpy 17 (.t 5), .asg 4 (.t 17)])
 .ret) .skip))))
 (.reg [.bin 18 .add (.t 8) (.c (.lit (.int .i64 1))), .cpy 8 (.t 18)])))))))
 (.seq (.reg [.asg 4 (.c (.lit (.int .i64 (-1))))])
 .ret)))
def r59 : List MRes := [.tmp 4]
theorem tr59 : Try.f59.body.bind (trC Try.prog ann59 Try.f59.ntmps) = some m59 := by kernel_rfl
theorem rs59 : trRes Try.prog Try.f59.results.toList = some r59 := by kernel_rfl
theorem fn59 : isFunc Try.prog 59 = true := by kernel_rfl

/- duodecimo/paper.list -/
def ann61 : Ann := { muts := [], nilsz := [(2, 1)], oid := [], frz := [], zero := [(17, [(.lit (.int .i64 0))])], ord := [], ap := [], own := [], yl := [], fz := [], imm := [], ic := [], cl := [], ylL := [], rl := [] }
def m61 : MCode := (.seq (.reg [.asgNil 2 1])
 (.seq (.seq (.reg [.cpy 4 (.t 0), .conv 5 .u64 (.t 4), .call 6 92 [(.t 5)], .cpy 7 (.c (.lit (.int .i64 0)))])
 (.block 0 (.loop (.seq (.reg [.bin 8 .lss (.t 7) (.t 6)])
 (.seq (.cond (.t 8) .skip (.exit 0))
 (.seq (.block 1 (.seq (.reg [.cpy 9 (.t 7), .asg 3 (.t 9)])
 (.seq (.reg [.cpy 10 (.t 0), .cpy 11 (.t 3), .bin 12 .shr (.t 10) (.t 11), .bin 13 .and (.t 12) (.c (.lit (.int .i64 1))), .bin 14 .eql (.t 13) (.c (.lit (.int .i64 1)))])
 (.cond (.t 14) (.reg [.cpy 15 (.t 2), .cpy 16 (.t 3), .mkS 17 1 1 [(.lit (.int .i64 0))] [(0, (.t 16))], .app 18 (.t 15) (.t 17) 1 8, .asg 2 (.t 18)]) .skip))))
 (.reg [.bin 19 .add (.t 7) (.c (.lit (.int .i64 1))), .cpy 7 (.t 19)])))))))
 (.seq (.reg [.cpy 20 (.t 2), .asg 2 (.t 20)])
 .ret)))
def r61 : List MRes := [.tmp 2]
theorem tr61 : Try.f61.body.bind (trC Try.prog ann61 Try.f61.ntmps) = some m61 := by kernel_rfl
theorem rs61 : trRes Try.prog Try.f61.results.toList = some r61 := by kernel_rfl
theorem fn61 : isFunc Try.prog 61 = true := by kernel_rfl

/- duodecimo/paper.fewer -/
def ann71 : Ann := { muts := [], nilsz := [], oid := [], frz := [], zero := [], ord := [], ap := [], own := [], yl := [], fz := [], imm := [], ic := [], cl := [], ylL := [], rl := [] }
def m71 : MCode := (.seq (.reg [.asg 4 (.c (.lit (.bool false)))])
 (.seq (.seq (.reg [.cpy 6 (.t 0), .conv 7 .u64 (.t 6), .call 8 94 [(.t 7)], .cpy 9 (.t 1), .conv 10 .u64 (.t 9), .call 11 94 [(.t 10)], .bin 12 .sub (.t 8) (.t 11), .asg 5 (.t 12)])
 (.seq (.reg [.cpy 13 (.t 5), .bin 14 .neq (.t 13) (.c (.lit (.int .i64 0)))])
 (.cond (.t 14) (.seq (.reg [.cpy 15 (.t 5), .bin 16 .lss (.t 15) (.c (.lit (.int .i64 0))), .asg 4 (.t 16)])
 .ret) .skip)))
 (.seq (.reg [.cpy 17 (.t 0), .call 18 61 [(.t 17)], .cpy 19 (.t 1), .call 20 61 [(.t 19)], .call 21 95 [(.t 18), (.t 20)], .bin 22 .lss (.t 21) (.c (.lit (.int .i64 0))), .asg 4 (.t 22)])
 .ret)))
def r71 : List MRes := [.tmp 4]
theorem tr71 : Try.f71.body.bind (trC Try.prog ann71 Try.f71.ntmps) = some m71 := by kernel_rfl
theorem rs71 : trRes Try.prog Try.f71.results.toList = some r71 := by kernel_rfl
theorem fn71 : isFunc Try.prog 71 = true := by kernel_rfl

/- slices.Clone[[]duodecimo/api.PpSeen,duodecimo/api.PpSeen] -/
def ann75 : Ann := { muts := [], nilsz := [(2, 2)], oid := [], frz := [], zero := [(5, [(.lit (.int .i64 0)), (.lit (.int .i64 0))])], ord := [], ap := [], own := [], yl := [], fz := [], imm := [], ic := [], cl := [], ylL := [], rl := [] }
def m75 : MCode := (.seq (.reg [.asgNil 2 2])
 (.seq (.seq (.reg [.cpy 3 (.t 0), .isNil 4 false (.t 3)])
 (.cond (.t 4) (.seq (.reg [.asgNil 2 2])
 .ret) .skip))
 (.seq (.reg [.mkS 5 0 2 [(.lit (.int .i64 0)), (.lit (.int .i64 0))] [], .cpy 6 (.t 0), .app 7 (.t 5) (.t 6) 2 16, .asg 2 (.t 7)])
 .ret)))
def r75 : List MRes := [.tmp 2]
theorem tr75 : Try.f75.body.bind (trC Try.prog ann75 Try.f75.ntmps) = some m75 := by kernel_rfl
theorem rs75 : trRes Try.prog Try.f75.results.toList = some r75 := by kernel_rfl
theorem fn75 : isFunc Try.prog 75 = true := by kernel_rfl

/- slices.ContainsFunc[[]int,int] -/
def ann82 : Ann := { muts := [], nilsz := [], oid := [], frz := [], zero := [], ord := [], ap := [], own := [], yl := [], fz := [], imm := [], ic := [], cl := [], ylL := [], rl := [] }
def m82 : MCode := (.seq (.reg [.asg 4 (.c (.lit (.bool false)))])
 (.seq (.reg [.cpy 5 (.t 0), .cpy 6 (.t 1), .call 7 97 [(.t 5), (.t 6)], .bin 8 .geq (.t 7) (.c (.lit (.int .i64 0))), .asg 4 (.t 8)])
 .ret))
def r82 : List MRes := [.tmp 4]
theorem tr82 : Try.f82.body.bind (trC Try.prog ann82 Try.f82.ntmps) = some m82 := by kernel_rfl
theorem rs82 : trRes Try.prog Try.f82.results.toList = some r82 := by kernel_rfl
theorem fn82 : isFunc Try.prog 82 = true := by kernel_rfl

/- duodecimo/paper.outside$1 -/
def ann83 : Ann := { muts := [], nilsz := [], oid := [], frz := [], zero := [], ord := [], ap := [], own := [], yl := [], fz := [], imm := [], ic := [], cl := [], ylL := [], rl := [] }
def m83 : MCode := (.seq (.reg [.asg 4 (.c (.lit (.bool false)))])
 (.seq (.reg [.cpy 5 (.t 0), .load 6 (.t 1) none, .bin 7 .lss (.t 5) (.t 6), .cpy 8 (.t 7), .guard 8 false (some 9) (.cpy 9 (.t 0)), .guard 8 false (some 10) (.load 10 (.t 2) none), .guard 8 false (some 11) (.bin 11 .gtr (.t 9) (.t 10)), .pick 12 (.t 8) (.c (.lit (.bool true))) (.t 11), .asg 4 (.t 12)])
 .ret))
def r83 : List MRes := [.tmp 4]
theorem tr83 : Try.f83.body.bind (trC Try.prog ann83 Try.f83.ntmps) = some m83 := by kernel_rfl
theorem rs83 : trRes Try.prog Try.f83.results.toList = some r83 := by kernel_rfl
theorem fn83 : isFunc Try.prog 83 = true := by kernel_rfl

/- slices.IndexFunc[[]duodecimo/api.PpStock,duodecimo/api.PpStock] -/
def ann84 : Ann := { muts := [], nilsz := [], oid := [], frz := [], zero := [], ord := [], ap := [], own := [], yl := [], fz := [], imm := [], ic := [], cl := [], ylL := [], rl := [] }
def m84 : MCode := (.seq (.reg [.asg 4 (.c (.lit (.int .i64 0)))])
 (.seq (.seq (.reg [.cpy 6 (.t 0), .len 7 (.t 6), .cpy 8 (.c (.lit (.int .i64 0)))])
 (.block 0 (.loop (.seq (.reg [.bin 9 .lss (.t 8) (.t 7)])
 (.seq (.cond (.t 9) .skip (.exit 0))
 (.seq (.block 1 (.seq (.reg [.cpy 10 (.t 8), .asg 5 (.t 10)])
 (.seq (.reg [.cpy 11 (.t 1), .cpy 12 (.t 0), .cpy 13 (.t 5), .idxS 14 (.t 12) (.t 13) 3, .load 15 (.t 14) (some 3), .callv 16 (.t 11) [(.t 15)]])
 (.cond (.t 16) (.seq (.reg [.cpy 17 (.t 5), .asg 4 (.t 17)])
 .ret) .skip))))
 (.reg [.bin 18 .add (.t 8) (.c (.lit (.int .i64 1))), .cpy 8 (.t 18)])))))))
 (.seq (.reg [.asg 4 (.c (.lit (.int .i64 (-1))))])
 .ret)))
def r84 : List MRes := [.tmp 4]
theorem tr84 : Try.f84.body.bind (trC Try.prog ann84 Try.f84.ntmps) = some m84 := by kernel_rfl
theorem rs84 : trRes Try.prog Try.f84.results.toList = some r84 := by kernel_rfl
theorem fn84 : isFunc Try.prog 84 = true := by kernel_rfl

/- (duodecimo/paper.press).wants -/
def ann87 : Ann := { muts := [], nilsz := [], oid := [], frz := [6], zero := [(4, [(.lit (.int .i64 0)), (.lit (.int .i64 0)), (.lit (.int .i64 0)), (.lit (.int .i64 0)), (.lit (.int .i64 0))]), (6, [(.lit (.int .i64 0)), (.lit (.int .i64 0))])], ord := [(5, [0, 1, 2, 3, 4, 5, 6, 7, 8, 9])], ap := [(29, [])], own := [], yl := [], fz := [], imm := [], ic := [], cl := [], ylL := [], rl := [] }
def m87 : MCode := (.seq (.reg [.boxI 2 (.t 0) 5, .alloc 4 [(.lit (.int .i64 0)), (.lit (.int .i64 0)), (.lit (.int .i64 0)), (.lit (.int .i64 0)), (.lit (.int .i64 0))]])
 (.seq (.seq (.reg [.addr 7 (.t 2) 0, .addr 8 (.t 7) 4, .load 9 (.t 8) none, .len 10 (.t 9), .cpy 11 (.c (.lit (.int .i64 0)))])
 (.block 0 (.loop (.seq (.reg [.bin 12 .lss (.t 11) (.t 10)])
 (.seq (.cond (.t 12) .skip (.exit 0))
 (.seq (.block 1 (.seq (.reg [.cpy 13 (.t 11), .idxS 14 (.t 9) (.t 11) 2, .load 15 (.t 14) (some 2), .alloc 6 [(.lit (.int .i64 0)), (.lit (.int .i64 0))], .asg 5 (.t 13), .storeF 6 (.t 15) 2])
 (.seq (.reg [.cpy 16 (.t 1), .cpy 17 (.t 5), .bin 18 .shr (.t 16) (.t 17), .bin 19 .and (.t 18) (.c (.lit (.int .i64 1))), .bin 20 .eql (.t 19) (.c (.lit (.int .i64 0)))])
 (.cond (.t 20) (.reg [.addr 21 (.t 6) 0, .load 22 (.t 21) none, .idxA 23 (.t 4) (.t 22) 5 1, .load 24 (.t 23) none, .addr 25 (.t 6) 1, .load 26 (.t 25) none, .bin 27 .shl (.c (.lit (.int .i64 1))) (.t 26), .bin 28 .or (.t 24) (.t 27), .idxA 29 (.t 4) (.t 22) 5 1, .apart [] (.t 29) (.store (.t 29) (.t 28) 1 0)]) .skip))))
 (.reg [.bin 30 .add (.t 11) (.c (.lit (.int .i64 1))), .cpy 11 (.t 30)])))))))
 (.seq (.reg [.load 31 (.t 4) (some 5), .store (.t 4) (.t 31) 5 0])
 .ret)))
def r87 : List MRes := [.cell 4 (some 5)]
theorem tr87 : Try.f87.body.bind (trC Try.prog ann87 Try.f87.ntmps) = some m87 := by kernel_rfl
theorem rs87 : trRes Try.prog Try.f87.results.toList = some r87 := by kernel_rfl
theorem fn87 : isFunc Try.prog 87 = true := by kernel_rfl

/- (duodecimo/paper.press).piles -/
def ann88 : Ann := { muts := [], nilsz := [], oid := [], frz := [], zero := [], ord := [], ap := [], own := [], yl := [], fz := [], imm := [], ic := [], cl := [], ylL := [], rl := [] }
def m88 : MCode := (.seq (.reg [.boxI 1 (.t 0) 5, .asg 2 (.c (.lit .nilFunc))])
 (.seq (.reg [.mkfn 3 (.func 100) [] [(.t 1)], .asg 2 (.t 3)])
 .ret))
def r88 : List MRes := [.tmp 2]
theorem tr88 : Try.f88.body.bind (trC Try.prog ann88 Try.f88.ntmps) = some m88 := by kernel_rfl
theorem rs88 : trRes Try.prog Try.f88.results.toList = some r88 := by kernel_rfl
theorem fn88 : isFunc Try.prog 88 = true := by kernel_rfl

/- (duodecimo/paper.press).places -/
def ann89 : Ann := { muts := [], nilsz := [], oid := [], frz := [7], zero := [(4, [(.lit (.int .i64 0)), (.lit (.int .i64 0)), (.lit (.int .i64 0)), (.lit (.int .i64 0)), (.lit (.int .i64 0))]), (7, [(.lit (.int .i64 0)), (.lit (.int .i64 0)), (.lit (.int .i64 0))])], ord := [(8, [0, 1, 2, 3, 4, 5, 6, 7, 8, 9, 10, 11, 12, 13, 14, 15, 16, 17, 18, 19, 20]), (9, [0, 1, 2, 3, 4, 5, 6, 7, 8])], ap := [(52, [])], own := [], yl := [], fz := [], imm := [], ic := [], cl := [], ylL := [], rl := [] }
def m89 : MCode := (.seq (.reg [.boxI 2 (.t 0) 5, .boxI 3 (.t 1) 4, .alloc 4 [(.lit (.int .i64 0)), (.lit (.int .i64 0)), (.lit (.int .i64 0)), (.lit (.int .i64 0)), (.lit (.int .i64 0))]])
 (.seq (.reg [.asg 5 (.c (.lit (.int .i64 0)))])
 (.seq (.seq (.reg [.addr 9 (.t 2) 0, .addr 10 (.t 9) 2, .load 11 (.t 10) none, .len 12 (.t 11), .cpy 13 (.c (.lit (.int .i64 0)))])
 (.block 0 (.loop (.seq (.reg [.bin 14 .lss (.t 13) (.t 12)])
 (.seq (.cond (.t 14) .skip (.exit 0))
 (.seq (.block 1 (.seq (.reg [.cpy 15 (.t 13), .idxS 16 (.t 11) (.t 13) 3, .load 17 (.t 16) (some 3), .alloc 7 [(.lit (.int .i64 0)), (.lit (.int .i64 0)), (.lit (.int .i64 0))], .asg 6 (.t 15), .storeF 7 (.t 17) 3])
 (.seq (.seq (.reg [.addr 18 (.t 2) 0, .addr 19 (.t 18) 3, .load 20 (.t 19) none, .cpy 21 (.c (.lit (.int .i64 0)))])
 (.block 2 (.loop (.seq (.reg [.bin 22 .lss (.t 21) (.t 20)])
 (.seq (.cond (.t 22) .skip (.exit 2))
 (.seq (.block 3 (.seq (.reg [.cpy 23 (.t 21), .asg 8 (.t 23)])
 (.seq (.reg [.cpy 24 (.t 5), .cpy 25 (.t 8), .bin 26 .add (.t 25) (.c (.lit (.int .i64 1))), .addr 27 (.t 2) 0, .addr 28 (.t 27) 0, .load 29 (.t 28) none, .bin 30 .mul (.t 26) (.t 29), .bin 31 .lss (.t 24) (.t 30), .cpy 32 (.t 31), .guard 32 true (some 33) (.cpy 33 (.t 5)), .guard 32 true (some 34) (.cpy 34 (.t 6)), .guard 32 true (some 35) (.idxA 35 (.t 3) (.t 34) 4 1), .guard 32 true (some 36) (.load 36 (.t 35) none), .guard 32 true (some 37) (.bin 37 .add (.t 33) (.t 36)), .guard 32 true (some 38) (.cpy 38 (.t 8)), .guard 32 true (some 39) (.addr 39 (.t 2) 0), .guard 32 true (some 40) (.addr 40 (.t 39) 0), .guard 32 true (some 41) (.load 41 (.t 40) none), .guard 32 true (some 42) (.bin 42 .mul (.t 38) (.t 41)), .guard 32 true (some 43) (.bin 43 .gtr (.t 37) (.t 42)), .pick 44 (.t 32) (.t 43) (.c (.lit (.bool false)))])
 (.cond (.t 44) (.reg [.cpy 45 (.t 8), .idxA 46 (.t 4) (.t 45) 5 1, .load 47 (.t 46) none, .addr 48 (.t 7) 0, .load 49 (.t 48) none, .bin 50 .shl (.c (.lit (.int .i64 1))) (.t 49), .bin 51 .or (.t 47) (.t 50), .idxA 52 (.t 4) (.t 45) 5 1, .apart [] (.t 52) (.store (.t 52) (.t 51) 1 0)]) .skip))))
 (.reg [.bin 53 .add (.t 21) (.c (.lit (.int .i64 1))), .cpy 21 (.t 53)])))))))
 (.reg [.cpy 54 (.t 5), .cpy 55 (.t 6), .idxA 56 (.t 3) (.t 55) 4 1, .load 57 (.t 56) none, .bin 58 .add (.t 54) (.t 57), .asg 5 (.t 58)]))))
 (.reg [.bin 59 .add (.t 13) (.c (.lit (.int .i64 1))), .cpy 13 (.t 59)])))))))
 (.seq (.reg [.load 60 (.t 4) (some 5), .store (.t 4) (.t 60) 5 0])
 .ret))))
def r89 : List MRes := [.cell 4 (some 5)]
theorem tr89 : Try.f89.body.bind (trC Try.prog ann89 Try.f89.ntmps) = some m89 := by kernel_rfl
theorem rs89 : trRes Try.prog Try.f89.results.toList = some r89 := by kernel_rfl
theorem fn89 : isFunc Try.prog 89 = true := by kernel_rfl

/- (duodecimo/paper.press).orders -/
def ann90 : Ann := { muts := [], nilsz := [], oid := [], frz := [], zero := [], ord := [], ap := [], own := [], yl := [], fz := [], imm := [], ic := [], cl := [], ylL := [], rl := [] }
def m90 : MCode := (.seq (.reg [.boxI 1 (.t 0) 5, .asg 2 (.c (.lit .nilFunc))])
 (.seq (.reg [.mkfn 3 (.func 101) [] [(.t 1)], .asg 2 (.t 3)])
 .ret))
def r90 : List MRes := [.tmp 2]
theorem tr90 : Try.f90.body.bind (trC Try.prog ann90 Try.f90.ntmps) = some m90 := by kernel_rfl
theorem rs90 : trRes Try.prog Try.f90.results.toList = some r90 := by kernel_rfl
theorem fn90 : isFunc Try.prog 90 = true := by kernel_rfl

/- math/bits.Len -/
def ann92 : Ann := { muts := [], nilsz := [], oid := [], frz := [], zero := [], ord := [], ap := [], own := [], yl := [], fz := [], imm := [], ic := [], cl := [], ylL := [], rl := [] }
def m92 : MCode := (.seq (.reg [.asg 2 (.c (.lit (.int .i64 0)))])
 (.seq (.cond (.c (.lit (.bool false))) (.seq (.reg [.cpy 3 (.t 0), .conv 4 .u32 (.t 3), .call 5 103 [(.t 4)], .asg 2 (.t 5)])
 .ret) .skip)
 (.seq (.reg [.cpy 6 (.t 0), .call 7 104 [(.t 6)], .asg 2 (.t 7)])
 .ret)))
def r92 : List MRes := [.tmp 2]
theorem tr92 : Try.f92.body.bind (trC Try.prog ann92 Try.f92.ntmps) = some m92 := by kernel_rfl
theorem rs92 : trRes Try.prog Try.f92.results.toList = some r92 := by kernel_rfl
theorem fn92 : isFunc Try.prog 92 = true := by kernel_rfl

/- math/bits.OnesCount -/
def ann94 : Ann := { muts := [], nilsz := [], oid := [], frz := [], zero := [], ord := [], ap := [], own := [], yl := [], fz := [], imm := [], ic := [], cl := [], ylL := [], rl := [] }
def m94 : MCode := (.seq (.reg [.asg 2 (.c (.lit (.int .i64 0)))])
 (.seq (.cond (.c (.lit (.bool false))) (.seq (.reg [.cpy 3 (.t 0), .conv 4 .u32 (.t 3), .call 5 105 [(.t 4)], .asg 2 (.t 5)])
 .ret) .skip)
 (.seq (.reg [.cpy 6 (.t 0), .call 7 106 [(.t 6)], .asg 2 (.t 7)])
 .ret)))
def r94 : List MRes := [.tmp 2]
theorem tr94 : Try.f94.body.bind (trC Try.prog ann94 Try.f94.ntmps) = some m94 := by kernel_rfl
theorem rs94 : trRes Try.prog Try.f94.results.toList = some r94 := by kernel_rfl
theorem fn94 : isFunc Try.prog 94 = true := by kernel_rfl

/- slices.Compare[[]int,int] -/
def ann95 : Ann := { muts := [], nilsz := [], oid := [], frz := [], zero := [], ord := [], ap := [], own := [], yl := [], fz := [], imm := [], ic := [], cl := [], ylL := [], rl := [] }
def m95 : MCode := (.seq (.reg [.asg 4 (.c (.lit (.int .i64 0)))])
 (.seq (.seq (.reg [.cpy 9 (.t 0), .len 10 (.t 9), .cpy 11 (.c (.lit (.int .i64 0)))])
 (.block 0 (.loop (.seq (.reg [.bin 12 .lss (.t 11) (.t 10)])
 (.seq (.cond (.t 12) .skip (.exit 0))
 (.seq (.block 1 (.seq (.reg [.cpy 13 (.t 11), .idxS 14 (.t 9) (.t 11) 1, .load 15 (.t 14) none, .asg 5 (.t 13), .asg 6 (.t 15)])
 (.seq (.seq (.reg [.cpy 16 (.t 5), .cpy 17 (.t 1), .len 18 (.t 17), .bin 19 .geq (.t 16) (.t 18)])
 (.cond (.t 19) (.seq (.reg [.asg 4 (.c (.lit (.int .i64 1)))])
 .ret) .skip))
 (.seq (.reg [.cpy 20 (.t 1), .cpy 21 (.t 5), .idxS 22 (.t 20) (.t 21) 1, .load 23 (.t 22) none, .asg 7 (.t 23)])
 (.seq (.reg [.cpy 24 (.t 6), .cpy 25 (.t 7), .call 26 107 [(.t 24), (.t 25)], .asg 8 (.t 26)])
 (.seq (.reg [.cpy 27 (.t 8), .bin 28 .neq (.t 27) (.c (.lit (.int .i64 0)))])
 (.cond (.t 28) (.seq (.reg [.cpy 29 (.t 8), .asg 4 (.t 29)])
 .ret) .skip)))))))
 (.reg [.bin 30 .add (.t 11) (.c (.lit (.int .i64 1))), .cpy 11 (.t 30)])))))))
 (.seq (.seq (.reg [.cpy 31 (.t 0), .len 32 (.t 31), .cpy 33 (.t 1), .len 34 (.t 33), .bin 35 .lss (.t 32) (.t 34)])
 (.cond (.t 35) (.seq (.reg [.asg 4 (.c (.lit (.int .i64 (-1))))])
 .ret) .skip))
 (.seq (.reg [.asg 4 (.c (.lit (.int .i64 0)))])
 .ret))))
def r95 : List MRes := [.tmp 4]
theorem tr95 : Try.f95.body.bind (trC Try.prog ann95 Try.f95.ntmps) = some m95 := by kernel_rfl
theorem rs95 : trRes Try.prog Try.f95.results.toList = some r95 := by kernel_rfl
theorem fn95 : isFunc Try.prog 95 = true := by kernel_rfl

/- slices.IndexFunc[[]int,int] -/
def ann97 : Ann := { muts := [], nilsz := [], oid := [], frz := [], zero := [], ord := [], ap := [], own := [], yl := [], fz := [], imm := [], ic := [], cl := [], ylL := [], rl := [] }
def m97 : MCode := (.seq (.reg [.asg 4 (.c (.lit (.int .i64 0)))])
 (.seq (.seq (.reg [.cpy 6 (.t 0), .len 7 (.t 6), .cpy 8 (.c (.lit (.int .i64 0)))])
 (.block 0 (.loop (.seq (.reg [.bin 9 .lss (.t 8) (.t 7)])
 (.seq (.cond (.t 9) .skip (.exit 0))
 (.seq (.block 1 (.seq (.reg [.cpy 10 (.t 8), .asg 5 (.t 10)])
 (.seq (.reg [.cpy 11 (.t 1), .cpy 12 (.t 0), .cpy 13 (.t 5), .idxS 14 (.t 12) (.t 13) 1, .load 15 (.t 14) none, .callv 16 (.t 11) [(.t 15)]])
 (.cond (.t 16) (.seq (.reg [.cpy 17 (.t 5), .asg 4 (.t 17)])
 .ret) .skip))))
 (.reg [.bin 18 .add (.t 8) (.c (.lit (.int .i64 1))), .cpy 8 (.t 18)])))))))
 (.seq (.reg [.asg 4 (.c (.lit (.int .i64 (-1))))])
 .ret)))
def r97 : List MRes := [.tmp 4]
theorem tr97 : Try.f97.body.bind (trC Try.prog ann97 Try.f97.ntmps) = some m97 := by kernel_rfl
theorem rs97 : trRes Try.prog Try.f97.results.toList = some r97 := by kernel_rfl
theorem fn97 : isFunc Try.prog 97 = true := by kernel_rfl

/- cmp.Compare[int] -/
def ann107 : Ann := { muts := [], nilsz := [], oid := [], frz := [], zero := [], ord := [], ap := [], own := [], yl := [], fz := [], imm := [], ic := [], cl := [], ylL := [], rl := [] }
def m107 : MCode := (.seq (.reg [.asg 4 (.c (.lit (.int .i64 0)))])
 (.seq (.reg [.cpy 7 (.t 0), .call 8 108 [(.t 7)], .asg 5 (.t 8)])
 (.seq (.reg [.cpy 9 (.t 1), .call 10 108 [(.t 9)], .asg 6 (.t 10)])
 (.seq (.seq (.reg [.cpy 11 (.t 5)])
 (.cond (.t 11) (.seq (.seq (.reg [.cpy 12 (.t 6)])
 (.cond (.t 12) (.seq (.reg [.asg 4 (.c (.lit (.int .i64 0)))])
 .ret) .skip))
 (.seq (.reg [.asg 4 (.c (.lit (.int .i64 (-1))))])
 .ret)) .skip))
 (.seq (.seq (.reg [.cpy 13 (.t 6)])
 (.cond (.t 13) (.seq (.reg [.asg 4 (.c (.lit (.int .i64 1)))])
 .ret) .skip))
 (.seq (.seq (.reg [.cpy 14 (.t 0), .cpy 15 (.t 1), .bin 16 .lss (.t 14) (.t 15)])
 (.cond (.t 16) (.seq (.reg [.asg 4 (.c (.lit (.int .i64 (-1))))])
 .ret) .skip))
 (.seq (.seq (.reg [.cpy 17 (.t 0), .cpy 18 (.t 1), .bin 19 .gtr (.t 17) (.t 18)])
 (.cond (.t 19) (.seq (.reg [.asg 4 (.c (.lit (.int .i64 1)))])
 .ret) .skip))
 (.seq (.reg [.asg 4 (.c (.lit (.int .i64 0)))])
 .ret))))))))
def r107 : List MRes := [.tmp 4]
theorem tr107 : Try.f107.body.bind (trC Try.prog ann107 Try.f107.ntmps) = some m107 := by kernel_rfl
theorem rs107 : trRes Try.prog Try.f107.results.toList = some r107 := by kernel_rfl
theorem fn107 : isFunc Try.prog 107 = true := by kernel_rfl

/- cmp.isNaN[int] -/
def ann108 : Ann := { muts := [], nilsz := [], oid := [], frz := [], zero := [], ord := [], ap := [], own := [], yl := [], fz := [], imm := [], ic := [], cl := [], ylL := [], rl := [] }
def m108 : MCode := (.seq (.reg [.asg 2 (.c (.lit (.bool false)))])
 (.seq (.reg [.cpy 3 (.t 0), .cpy 4 (.t 0), .bin 5 .neq (.t 3) (.t 4), .asg 2 (.t 5)])
 .ret))
def r108 : List MRes := [.tmp 2]
theorem tr108 : Try.f108.body.bind (trC Try.prog ann108 Try.f108.ntmps) = some m108 := by kernel_rfl
theorem rs108 : trRes Try.prog Try.f108.results.toList = some r108 := by kernel_rfl
theorem fn108 : isFunc Try.prog 108 = true := by kernel_rfl

/- duodecimo/paper.Check -/
def ann15 : Ann := { muts := [], nilsz := [], oid := [], frz := [6, 8, 10], zero := [(6, [(.lit (.string ⟨#[]⟩)), (.lit (.int .i64 0)), (.lit (.int .i64 0))]), (8, [(.lit (.int .i64 0)), (.lit (.int .i64 0)), (.lit (.int .i64 0))]), (10, [(.lit (.int .i64 0)), (.lit (.int .i64 0))]), (14, [(.lit (.int .i64 0))]), (20, [(.lit (.int .i64 0))]), (51, [(.lit (.int .i64 0))]), (67, [(.lit (.int .i64 0))]), (84, [(.lit (.int .i64 0))]), (94, [(.lit (.int .i64 0))]), (108, [(.lit (.int .i64 0))]), (115, [(.lit (.int .i64 0))]), (135, [(.lit (.int .i64 0))]), (144, [(.lit (.int .i64 0))])], ord := [], ap := [], own := [], yl := [], fz := [], imm := [], ic := [], cl := [], ylL := [], rl := [] }
def m15 : MCode := (.seq (.reg [.boxI 1 (.t 0) 5, .asg 2 (.c (.lit (.int .i64 0))), .asg 3 (.c (.lit (.int .i64 0))), .asg 4 (.c (.lit (.int .i64 0)))])
 (.seq (.block 0 (.seq (.reg [.addr 12 (.t 1) 0, .load 13 (.t 12) none, .mkS 14 1 1 [(.lit (.int .i64 0))] [(0, (.t 13))], .call 15 48 [(.c (.lit (.int .i64 1))), (.c (.lit (.int .i64 500))), (.t 14)], .asg 11 (.t 15)])
 (.cond (.t 11) (.seq (.reg [.asg 2 (.c (.lit (.int .i64 1))), .asg 3 (.c (.lit (.int .i64 0))), .asg 4 (.c (.lit (.int .i64 7)))])
 .ret) (.seq (.reg [.addr 17 (.t 1) 1, .load 18 (.t 17) none, .len 19 (.t 18), .mkS 20 1 1 [(.lit (.int .i64 0))] [(0, (.t 19))], .call 21 48 [(.c (.lit (.int .i64 1))), (.c (.lit (.int .i64 4))), (.t 20)], .asg 16 (.t 21)])
 (.cond (.t 16) (.seq (.reg [.asg 2 (.c (.lit (.int .i64 2))), .asg 3 (.c (.lit (.int .i64 0))), .asg 4 (.c (.lit (.int .i64 3)))])
 .ret) .skip)))))
 (.seq (.seq (.reg [.addr 22 (.t 1) 1, .load 23 (.t 22) none, .len 24 (.t 23), .cpy 25 (.c (.lit (.int .i64 0)))])
 (.block 1 (.loop (.seq (.reg [.bin 26 .lss (.t 25) (.t 24)])
 (.seq (.cond (.t 26) .skip (.exit 1))
 (.seq (.block 2 (.seq (.reg [.cpy 27 (.t 25), .idxS 28 (.t 23) (.t 25) 3, .load 29 (.t 28) (some 3), .alloc 6 [(.lit (.string ⟨#[]⟩)), (.lit (.int .i64 0)), (.lit (.int .i64 0))], .asg 5 (.t 27), .storeF 6 (.t 29) 3])
 (.block 3 (.seq (.reg [.addr 31 (.t 6) 0, .load 32 (.t 31) none, .call 33 49 [(.t 32)], .not 34 (.t 33), .asg 30 (.t 34)])
 (.cond (.t 30) (.seq (.reg [.cpy 35 (.t 5), .asg 2 (.c (.lit (.int .i64 2))), .asg 3 (.t 35), .asg 4 (.c (.lit (.int .i64 6)))])
 .ret) (.seq (.reg [.addr 37 (.t 1) 1, .load 38 (.t 37) none, .cpy 39 (.t 5), .slcHi 40 (.t 38) (.t 39) 3, .mkfn 41 (.func 51) [] [(.t 6)], .call 42 50 [(.t 40), (.t 41)], .asg 36 (.t 42)])
 (.cond (.t 36) (.seq (.reg [.cpy 43 (.t 5), .asg 2 (.c (.lit (.int .i64 2))), .asg 3 (.t 43), .asg 4 (.c (.lit (.int .i64 5)))])
 .ret) (.seq (.reg [.addr 45 (.t 6) 1, .addr 46 (.t 45) 0, .load 47 (.t 46) none, .addr 48 (.t 6) 1, .addr 49 (.t 48) 1, .load 50 (.t 49) none, .mkS 51 2 1 [(.lit (.int .i64 0))] [(0, (.t 47)), (1, (.t 50))], .call 52 48 [(.c (.lit (.int .i64 1450))), (.c (.lit (.int .i64 1850))), (.t 51)], .asg 44 (.t 52)])
 (.cond (.t 44) (.seq (.reg [.cpy 53 (.t 5), .asg 2 (.c (.lit (.int .i64 2))), .asg 3 (.t 53), .asg 4 (.c (.lit (.int .i64 7)))])
 .ret) (.seq (.reg [.addr 55 (.t 6) 1, .addr 56 (.t 55) 0, .load 57 (.t 56) none, .addr 58 (.t 6) 1, .addr 59 (.t 58) 1, .load 60 (.t 59) none, .bin 61 .gtr (.t 57) (.t 60), .asg 54 (.t 61)])
 (.cond (.t 54) (.seq (.reg [.cpy 62 (.t 5), .asg 2 (.c (.lit (.int .i64 2))), .asg 3 (.t 62), .asg 4 (.c (.lit (.int .i64 2)))])
 .ret) .skip)))))))))))
 (.reg [.bin 63 .add (.t 25) (.c (.lit (.int .i64 1))), .cpy 25 (.t 63)])))))))
 (.seq (.seq (.reg [.addr 64 (.t 1) 2, .load 65 (.t 64) none, .len 66 (.t 65), .mkS 67 1 1 [(.lit (.int .i64 0))] [(0, (.t 66))], .call 68 48 [(.c (.lit (.int .i64 1))), (.c (.lit (.int .i64 4))), (.t 67)]])
 (.cond (.t 68) (.seq (.reg [.asg 2 (.c (.lit (.int .i64 3))), .asg 3 (.c (.lit (.int .i64 0))), .asg 4 (.c (.lit (.int .i64 3)))])
 .ret) .skip))
 (.seq (.seq (.reg [.addr 69 (.t 1) 2, .load 70 (.t 69) none, .len 71 (.t 70), .cpy 72 (.c (.lit (.int .i64 0)))])
 (.block 4 (.loop (.seq (.reg [.bin 73 .lss (.t 72) (.t 71)])
 (.seq (.cond (.t 73) .skip (.exit 4))
 (.seq (.block 5 (.seq (.reg [.cpy 74 (.t 72), .idxS 75 (.t 70) (.t 72) 3, .load 76 (.t 75) (some 3), .alloc 8 [(.lit (.int .i64 0)), (.lit (.int .i64 0)), (.lit (.int .i64 0))], .asg 7 (.t 74), .storeF 8 (.t 76) 3])
 (.block 6 (.seq (.reg [.addr 78 (.t 1) 1, .load 79 (.t 78) none, .len 80 (.t 79), .bin 81 .sub (.t 80) (.c (.lit (.int .i64 1))), .addr 82 (.t 8) 0, .load 83 (.t 82) none, .mkS 84 1 1 [(.lit (.int .i64 0))] [(0, (.t 83))], .call 85 48 [(.c (.lit (.int .i64 0))), (.t 81), (.t 84)], .asg 77 (.t 85)])
 (.cond (.t 77) (.seq (.reg [.cpy 86 (.t 7), .asg 2 (.c (.lit (.int .i64 3))), .asg 3 (.t 86), .asg 4 (.c (.lit (.int .i64 4)))])
 .ret) (.seq (.reg [.addr 88 (.t 8) 1, .addr 89 (.t 88) 0, .load 90 (.t 89) none, .addr 91 (.t 8) 1, .addr 92 (.t 91) 1, .load 93 (.t 92) none, .mkS 94 2 1 [(.lit (.int .i64 0))] [(0, (.t 90)), (1, (.t 93))], .call 95 48 [(.c (.lit (.int .i64 1))), (.c (.lit (.int .i64 2000))), (.t 94)], .asg 87 (.t 95)])
 (.cond (.t 87) (.seq (.reg [.cpy 96 (.t 7), .asg 2 (.c (.lit (.int .i64 3))), .asg 3 (.t 96), .asg 4 (.c (.lit (.int .i64 7)))])
 .ret) (.seq (.reg [.addr 98 (.t 8) 1, .addr 99 (.t 98) 0, .load 100 (.t 99) none, .addr 101 (.t 8) 1, .addr 102 (.t 101) 0, .load 103 (.t 102) none, .bin 104 .add (.t 103) (.c (.lit (.int .i64 2))), .addr 105 (.t 8) 1, .addr 106 (.t 105) 1, .load 107 (.t 106) none, .mkS 108 1 1 [(.lit (.int .i64 0))] [(0, (.t 107))], .call 109 48 [(.t 100), (.t 104), (.t 108)], .asg 97 (.t 109)])
 (.cond (.t 97) (.seq (.reg [.cpy 110 (.t 7), .asg 2 (.c (.lit (.int .i64 3))), .asg 3 (.t 110), .asg 4 (.c (.lit (.int .i64 2)))])
 .ret) .skip)))))))))
 (.reg [.bin 111 .add (.t 72) (.c (.lit (.int .i64 1))), .cpy 72 (.t 111)])))))))
 (.seq (.block 7 (.seq (.reg [.addr 113 (.t 1) 3, .load 114 (.t 113) none, .mkS 115 1 1 [(.lit (.int .i64 0))] [(0, (.t 114))], .call 116 48 [(.c (.lit (.int .i64 1))), (.c (.lit (.int .i64 5))), (.t 115)], .asg 112 (.t 116)])
 (.cond (.t 112) (.seq (.reg [.asg 2 (.c (.lit (.int .i64 4))), .asg 3 (.c (.lit (.int .i64 0))), .asg 4 (.c (.lit (.int .i64 7)))])
 .ret) (.seq (.reg [.addr 118 (.t 1) 4, .load 119 (.t 118) none, .len 120 (.t 119), .bin 121 .gtr (.t 120) (.c (.lit (.int .i64 8))), .asg 117 (.t 121)])
 (.cond (.t 117) (.seq (.reg [.asg 2 (.c (.lit (.int .i64 5))), .asg 3 (.c (.lit (.int .i64 0))), .asg 4 (.c (.lit (.int .i64 3)))])
 .ret) .skip)))))
 (.seq (.seq (.reg [.addr 122 (.t 1) 4, .load 123 (.t 122) none, .len 124 (.t 123), .cpy 125 (.c (.lit (.int .i64 0)))])
 (.block 8 (.loop (.seq (.reg [.bin 126 .lss (.t 125) (.t 124)])
 (.seq (.cond (.t 126) .skip (.exit 8))
 (.seq (.block 9 (.seq (.reg [.cpy 127 (.t 125), .idxS 128 (.t 123) (.t 125) 2, .load 129 (.t 128) (some 2), .alloc 10 [(.lit (.int .i64 0)), (.lit (.int .i64 0))], .asg 9 (.t 127), .storeF 10 (.t 129) 2])
 (.seq (.reg [.addr 130 (.t 1) 3, .load 131 (.t 130) none, .bin 132 .sub (.t 131) (.c (.lit (.int .i64 1))), .addr 133 (.t 10) 0, .load 134 (.t 133) none, .mkS 135 1 1 [(.lit (.int .i64 0))] [(0, (.t 134))], .call 136 48 [(.c (.lit (.int .i64 0))), (.t 132), (.t 135)], .cpy 137 (.t 136), .guard 137 false (some 138) (.addr 138 (.t 1) 1), .guard 137 false (some 139) (.load 139 (.t 138) none), .guard 137 false (some 140) (.len 140 (.t 139)), .guard 137 false (some 141) (.bin 141 .sub (.t 140) (.c (.lit (.int .i64 1)))), .guard 137 false (some 142) (.addr 142 (.t 10) 1), .guard 137 false (some 143) (.load 143 (.t 142) none), .guard 137 false (some 144) (.mkS 144 1 1 [(.lit (.int .i64 0))] [(0, (.t 143))]), .guard 137 false (some 145) (.call 145 48 [(.c (.lit (.int .i64 0))), (.t 141), (.t 144)]), .pick 146 (.t 137) (.c (.lit (.bool true))) (.t 145)])
 (.cond (.t 146) (.seq (.reg [.cpy 147 (.t 9), .asg 2 (.c (.lit (.int .i64 5))), .asg 3 (.t 147), .asg 4 (.c (.lit (.int .i64 4)))])
 .ret) .skip))))
 (.reg [.bin 148 .add (.t 125) (.c (.lit (.int .i64 1))), .cpy 125 (.t 148)])))))))
 (.seq (.reg [.asg 2 (.c (.lit (.int .i64 0))), .asg 3 (.c (.lit (.int .i64 0))), .asg 4 (.c (.lit (.int .i64 0)))])
 .ret))))))))
def r15 : List MRes := [.tmp 2, .tmp 3, .tmp 4]
theorem tr15 : Try.f15.body.bind (trC Try.prog ann15 Try.f15.ntmps) = some m15 := by kernel_rfl
theorem rs15 : trRes Try.prog Try.f15.results.toList = some r15 := by kernel_rfl
theorem fn15 : isFunc Try.prog 15 = true := by kernel_rfl
end Go.Proofs.Ytbcfmfiolbcclaa

namespace Go.Proofs.Ytbcfmfiolbcclaa
open Go.Avm

/- (duodecimo/paper.press).piles$1 -/
def ann100 : Ann := { muts := [], nilsz := [], oid := [], frz := [5, 10], zero := [(5, [(.lit (.int .i64 0)), (.lit (.int .i64 0)), (.lit (.int .i64 0))]), (7, [(.lit (.int .i64 0)), (.lit (.int .i64 0)), (.lit (.int .i64 0)), (.lit (.int .i64 0))]), (10, [(.lit (.int .i64 0)), (.lit (.int .i64 0)), (.lit (.int .i64 0))])], ord := [(15, [0, 1, 2, 3, 4, 5, 6, 7, 8, 9])], ap := [(60, [])], own := [], yl := [83], fz := [], imm := [], ic := [], cl := [], ylL := [], rl := [] }
def m100 : MCode := (.seq (.reg [.asg 3 (.c (.lit (.int .i64 1)))])
 (.seq (.seq (.reg [.addr 12 (.t 1) 0, .addr 13 (.t 12) 2, .load 14 (.t 13) none, .len 15 (.t 14), .cpy 16 (.c (.lit (.int .i64 0)))])
 (.block 0 (.loop (.seq (.reg [.bin 17 .lss (.t 16) (.t 15)])
 (.seq (.cond (.t 17) .skip (.exit 0))
 (.seq (.block 1 (.seq (.reg [.idxS 18 (.t 14) (.t 16) 3, .load 19 (.t 18) (some 3), .alloc 5 [(.lit (.int .i64 0)), (.lit (.int .i64 0)), (.lit (.int .i64 0))], .storeF 5 (.t 19) 3])
 (.reg [.cpy 20 (.t 3), .addr 21 (.t 5) 1, .addr 22 (.t 21) 1, .load 23 (.t 22) none, .addr 24 (.t 5) 1, .addr 25 (.t 24) 0, .load 26 (.t 25) none, .bin 27 .sub (.t 23) (.t 26), .bin 28 .add (.t 27) (.c (.lit (.int .i64 1))), .bin 29 .mul (.t 20) (.t 28), .asg 3 (.t 29)])))
 (.reg [.bin 30 .add (.t 16) (.c (.lit (.int .i64 1))), .cpy 16 (.t 30)])))))))
 (.seq (.reg [.cpy 31 (.t 3), .cpy 32 (.c (.lit (.int .i64 0)))])
 (.block 2 (.loop (.seq (.reg [.bin 33 .lss (.t 32) (.t 31)])
 (.seq (.cond (.t 33) .skip (.exit 2))
 (.seq (.block 3 (.seq (.reg [.cpy 34 (.t 32), .asg 6 (.t 34)])
 (.seq (.reg [.alloc 7 [(.lit (.int .i64 0)), (.lit (.int .i64 0)), (.lit (.int .i64 0)), (.lit (.int .i64 0))]])
 (.seq (.reg [.asg 8 (.c (.lit (.int .i64 0)))])
 (.seq (.seq (.reg [.addr 35 (.t 1) 0, .addr 36 (.t 35) 2, .load 37 (.t 36) none, .len 38 (.t 37), .cpy 39 (.c (.lit (.int .i64 0)))])
 (.block 4 (.loop (.seq (.reg [.bin 40 .lss (.t 39) (.t 38)])
 (.seq (.cond (.t 40) .skip (.exit 4))
 (.seq (.block 5 (.seq (.reg [.cpy 41 (.t 39), .idxS 42 (.t 37) (.t 39) 3, .load 43 (.t 42) (some 3), .alloc 10 [(.lit (.int .i64 0)), (.lit (.int .i64 0)), (.lit (.int .i64 0))], .asg 9 (.t 41), .storeF 10 (.t 43) 3])
 (.seq (.reg [.addr 44 (.t 10) 1, .addr 45 (.t 44) 1, .load 46 (.t 45) none, .addr 47 (.t 10) 1, .addr 48 (.t 47) 0, .load 49 (.t 48) none, .bin 50 .sub (.t 46) (.t 49), .bin 51 .add (.t 50) (.c (.lit (.int .i64 1))), .asg 11 (.t 51)])
 (.seq (.reg [.cpy 52 (.t 9), .addr 53 (.t 10) 1, .addr 54 (.t 53) 0, .load 55 (.t 54) none, .cpy 56 (.t 6), .cpy 57 (.t 11), .bin 58 .rem (.t 56) (.t 57), .bin 59 .add (.t 55) (.t 58), .idxA 60 (.t 7) (.t 52) 4 1, .apart [] (.t 60) (.store (.t 60) (.t 59) 1 0)])
 (.seq (.reg [.cpy 61 (.t 6), .cpy 62 (.t 11), .bin 63 .quo (.t 61) (.t 62), .asg 6 (.t 63)])
 (.reg [.cpy 64 (.t 8), .cpy 65 (.t 9), .idxA 66 (.t 7) (.t 65) 4 1, .load 67 (.t 66) none, .bin 68 .add (.t 64) (.t 67), .asg 8 (.t 68)]))))))
 (.reg [.bin 69 .add (.t 39) (.c (.lit (.int .i64 1))), .cpy 39 (.t 69)])))))))
 (.seq (.reg [.cpy 70 (.t 8), .addr 71 (.t 1) 0, .addr 72 (.t 71) 0, .load 73 (.t 72) none, .addr 74 (.t 1) 0, .addr 75 (.t 74) 3, .load 76 (.t 75) none, .bin 77 .mul (.t 73) (.t 76), .bin 78 .geq (.t 70) (.t 77), .cpy 79 (.t 78), .guard 79 true (some 80) (.cpy 80 (.t 0)), .guard 79 true (some 81) (.load 81 (.t 7) (some 4)), .guard 79 true (some 82) (.cpy 82 (.t 8)), .guard 79 true (some 83) (.yld 83 (.t 80) [(.t 81), (.t 82)]), .guard 79 true (some 84) (.not 84 (.t 83)), .pick 85 (.t 79) (.t 84) (.c (.lit (.bool false)))])
 (.cond (.t 85) .ret .skip)))))))
 (.reg [.bin 86 .add (.t 32) (.c (.lit (.int .i64 1))), .cpy 32 (.t 86)])))))))))
def r100 : List MRes := []
theorem tr100 : Try.f100.body.bind (trC Try.prog ann100 Try.f100.ntmps) = some m100 := by kernel_rfl
theorem rs100 : trRes Try.prog Try.f100.results.toList = some r100 := by kernel_rfl
theorem fn100 : isFunc Try.prog 100 = true := by kernel_rfl
end Go.Proofs.Ytbcfmfiolbcclaa

namespace Go.Proofs.Ytbcfmfiolbcclaa
open Go.Avm

/- (duodecimo/paper.press).truths -/
def ann64 : Ann := { muts := [], nilsz := [], oid := [], frz := [], zero := [], ord := [], ap := [], own := [], yl := [], fz := [], imm := [], ic := [], cl := [], ylL := [], rl := [] }
def m64 : MCode := (.seq (.reg [.boxI 2 (.t 0) 5, .boxI 3 (.t 1) 1, .asg 4 (.c (.lit .nilFunc))])
 (.seq (.reg [.mkfn 5 (.func 93) [] [(.t 2), (.t 3)], .asg 4 (.t 5)])
 .ret))
def r64 : List MRes := [.tmp 4]
theorem tr64 : Try.f64.body.bind (trC Try.prog ann64 Try.f64.ntmps) = some m64 := by kernel_rfl
theorem rs64 : trRes Try.prog Try.f64.results.toList = some r64 := by kernel_rfl
theorem fn64 : isFunc Try.prog 64 = true := by kernel_rfl

/- (duodecimo/paper.press).truths$1 -/
def ann93 : Ann := { muts := [], nilsz := [], oid := [], frz := [4, 5, 6, 7], zero := [(4, [(.lit (.int .i64 0)), (.lit (.int .i64 0)), (.lit (.int .i64 0)), (.lit (.int .i64 0)), (.lit (.int .i64 0))]), (5, [(.lit (.int .i64 0)), (.lit (.int .i64 0)), (.lit (.int .i64 0)), (.lit (.int .i64 0))]), (6, [(.lit (.int .i64 0))]), (7, [(.lit (.int .i64 0)), (.lit (.int .i64 0)), (.lit (.int .i64 0)), (.lit (.int .i64 0)), (.lit (.int .i64 0))]), (8, [(.lit (.int .i64 0))]), (72, [(.lit (.int .i64 0)), (.lit (.int .i64 0)), (.lit (.int .i64 0)), (.lit (.int .i64 0)), (.lit (.int .i64 0)), (.lit (.int .i64 0)), (.lit (.int .i64 0)), (.slice 1 [] 0)])], ord := [(19, [0, 1, 2, 3, 4, 5, 6, 7])], ap := [], own := [], yl := [], fz := [], imm := [], ic := [], cl := [], ylL := [(73, 11)], rl := [(49, 1)] }
def m93 : MCode := (.seq (.reg [.boxI 3 (.t 0) 1])
 (.seq (.reg [.load 14 (.t 1) (some 5), .load 15 (.t 2) none, .call 16 87 [(.t 14), (.t 15)], .alloc 4 [(.lit (.int .i64 0)), (.lit (.int .i64 0)), (.lit (.int .i64 0)), (.lit (.int .i64 0)), (.lit (.int .i64 0))], .storeF 4 (.t 16) 5])
 (.seq (.reg [.load 17 (.t 1) (some 5), .call 18 88 [(.t 17)]])
 (.block 0 (.rangeF (.t 18) [19, 20] (.seq (.reg [.alloc 5 [(.lit (.int .i64 0)), (.lit (.int .i64 0)), (.lit (.int .i64 0)), (.lit (.int .i64 0))], .storeF 5 (.t 19) 4])
 (.reg [.alloc 6 [(.lit (.int .i64 0))], .storeF 6 (.t 20) 1]))
 (.block 1 (.seq (.reg [.load 21 (.t 1) (some 5), .load 22 (.t 5) (some 4), .call 23 89 [(.t 21), (.t 22)], .alloc 7 [(.lit (.int .i64 0)), (.lit (.int .i64 0)), (.lit (.int .i64 0)), (.lit (.int .i64 0)), (.lit (.int .i64 0))], .storeF 7 (.t 23) 5])
 (.seq (.reg [.alloc 8 [(.lit (.int .i64 0))], .store (.t 8) (.c (.lit (.int .i64 0))) 1 0, .asg 9 (.c (.lit (.int .i64 0)))])
 (.seq (.seq (.reg [.addr 24 (.t 1) 0, .addr 25 (.t 24) 2, .load 26 (.t 25) none, .len 27 (.t 26), .cpy 28 (.c (.lit (.int .i64 0)))])
 (.block 2 (.loop (.seq (.reg [.bin 29 .lss (.t 28) (.t 27)])
 (.seq (.cond (.t 29) .skip (.exit 2))
 (.seq (.block 3 (.seq (.reg [.cpy 30 (.t 28), .asg 10 (.t 30)])
 (.seq (.seq (.reg [.cpy 31 (.t 9), .addr 32 (.t 1) 0, .addr 33 (.t 32) 0, .load 34 (.t 33) none, .addr 35 (.t 1) 0, .addr 36 (.t 35) 3, .load 37 (.t 36) none, .bin 38 .mul (.t 34) (.t 37), .bin 39 .lss (.t 31) (.t 38)])
 (.cond (.t 39) (.reg [.load 40 (.t 8) none, .bin 41 .add (.t 40) (.c (.lit (.int .i64 1))), .store (.t 8) (.t 41) 1 0]) .skip))
 (.reg [.cpy 42 (.t 9), .cpy 43 (.t 10), .idxA 44 (.t 5) (.t 43) 4 1, .load 45 (.t 44) none, .bin 46 .add (.t 42) (.t 45), .asg 9 (.t 46)]))))
 (.reg [.bin 47 .add (.t 28) (.c (.lit (.int .i64 1))), .cpy 28 (.t 47)])))))))
 (.seq .skip
 (.seq (.reg [.load 48 (.t 1) (some 5), .call 49 90 [(.t 48)]])
 (.block 4 (.rangeL (.t 49) 0 [50] (.reg [.asg 11 (.t 50)])
 (.block 5 (.seq (.seq (.reg [.cpy 51 (.t 11), .len 52 (.t 51), .cpy 53 (.c (.lit (.int .i64 0)))])
 (.block 6 (.loop (.seq (.reg [.bin 54 .lss (.t 53) (.t 52)])
 (.seq (.cond (.t 54) .skip (.exit 6))
 (.seq (.block 7 (.seq (.reg [.cpy 55 (.t 53), .idxS 56 (.t 51) (.t 53) 1, .load 57 (.t 56) none, .asg 12 (.t 55), .asg 13 (.t 57)])
 (.seq (.reg [.cpy 58 (.t 13), .idxA 59 (.t 4) (.t 58) 5 1, .load 60 (.t 59) none, .cpy 61 (.t 12), .idxA 62 (.t 7) (.t 61) 5 1, .load 63 (.t 62) none, .bin 64 .andNot (.t 60) (.t 63), .bin 65 .neq (.t 64) (.c (.lit (.int .i64 0)))])
 (.cond (.t 65) (.exit 5) .skip))))
 (.reg [.bin 66 .add (.t 53) (.c (.lit (.int .i64 1))), .cpy 53 (.t 66)])))))))
 (.seq (.reg [.load 67 (.t 3) none, .load 68 (.t 6) none, .load 69 (.t 8) none, .load 70 (.t 7) (some 5), .cpy 71 (.t 11), .build 72 [(.lit (.int .i64 0)), (.lit (.int .i64 0)), (.lit (.int .i64 0)), (.lit (.int .i64 0)), (.lit (.int .i64 0)), (.lit (.int .i64 0)), (.lit (.int .i64 0)), (.slice 1 [] 0)] [(0, 1, (.t 68)), (1, 1, (.t 69)), (2, 5, (.t 70)), (7, 1, (.t 71))], .yldL 73 (.t 67) 8 (.t 72), .not 74 (.t 73)])
 (.cond (.t 74) .ret .skip)))))))))))))))))
def r93 : List MRes := []
theorem tr93 : Try.f93.body.bind (trC Try.prog ann93 Try.f93.ntmps) = some m93 := by kernel_rfl
theorem rs93 : trRes Try.prog Try.f93.results.toList = some r93 := by kernel_rfl
theorem fn93 : isFunc Try.prog 93 = true := by kernel_rfl

/- (duodecimo/paper.press).orders$1 -/
def ann101 : Ann := { muts := [], nilsz := [], oid := [(3, 4000)], frz := [], zero := [(3, [(.slice 1 [] 4000)]), (4, [(.lit .nilFunc)]), (8, [(.lit (.int .i64 0))])], ord := [], ap := [], own := [], yl := [], fz := [], imm := [], ic := [11], cl := [], ylL := [], rl := [] }
def m101 : MCode := (.seq (.reg [.boxI 2 (.t 0) 1])
 (.seq (.reg [.addr 5 (.t 1) 0, .addr 6 (.t 5) 3, .load 7 (.t 6) none, .mkM 8 (.c (.lit (.int .i64 0))) (.t 7) 1 8 [(.lit (.int .i64 0))], .alloc 3 [(.slice 1 [] 4000)], .store (.t 3) (.t 8) 1 4000])
 (.seq (.reg [.alloc 4 [(.lit .nilFunc)]])
 (.seq (.reg [.mkfn 9 (.func 102) [] [(.t 3), (.t 1), (.t 2), (.t 4)], .store (.t 4) (.t 9) 1 0])
 (.reg [.load 10 (.t 4) none, .icallv 11 (.t 10) [(.c (.lit (.int .i64 0)))]])))))
def r101 : List MRes := []
theorem tr101 : Try.f101.body.bind (trC Try.prog ann101 Try.f101.ntmps) = some m101 := by kernel_rfl
theorem rs101 : trRes Try.prog Try.f101.results.toList = some r101 := by kernel_rfl
theorem fn101 : isFunc Try.prog 101 = true := by kernel_rfl

/- (duodecimo/paper.press).orders$1$1 -/
def ann102 : Ann := { muts := [31, 43], nilsz := [], oid := [], frz := [], zero := [(30, [(.lit (.int .i64 0))])], ord := [(8, [0, 1, 2, 3, 4, 5, 6])], ap := [], own := [], yl := [], fz := [], imm := [], ic := [37], cl := [], ylL := [(16, 3)], rl := [] }
def m102 : MCode := (.seq (.reg [.asg 6 (.c (.lit (.bool false)))])
 (.seq (.seq (.reg [.load 8 (.t 1) none, .len 9 (.t 8), .addr 10 (.t 2) 0, .addr 11 (.t 10) 3, .load 12 (.t 11) none, .bin 13 .eql (.t 9) (.t 12)])
 (.cond (.t 13) (.seq (.reg [.load 14 (.t 3) none, .load 15 (.t 1) none, .yldL 16 (.t 14) 0 (.t 15), .asg 6 (.t 16)])
 .ret) .skip))
 (.seq (.seq (.reg [.addr 17 (.t 2) 0, .addr 18 (.t 17) 3, .load 19 (.t 18) none, .cpy 20 (.c (.lit (.int .i64 0)))])
 (.block 0 (.loop (.seq (.reg [.bin 21 .lss (.t 20) (.t 19)])
 (.seq (.cond (.t 21) .skip (.exit 0))
 (.seq (.block 1 (.seq (.reg [.cpy 22 (.t 20), .asg 7 (.t 22)])
 (.seq (.seq (.reg [.cpy 23 (.t 0), .cpy 24 (.t 7), .bin 25 .shr (.t 23) (.t 24), .bin 26 .and (.t 25) (.c (.lit (.int .i64 1))), .bin 27 .eql (.t 26) (.c (.lit (.int .i64 1)))])
 (.cond (.t 27) (.exit 1) .skip))
 (.seq (.reg [.load 28 (.t 1) none, .cpy 29 (.t 7), .mkS 30 1 1 [(.lit (.int .i64 0))] [(0, (.t 29))], .appR 31 (.t 28) (.t 30) 1, .store (.t 1) (.t 31) 1 0])
 (.seq (.seq (.reg [.load 32 (.t 4) none, .cpy 33 (.t 0), .cpy 34 (.t 7), .bin 35 .shl (.c (.lit (.int .i64 1))) (.t 34), .bin 36 .or (.t 33) (.t 35), .icallv 37 (.t 32) [(.t 36)], .not 38 (.t 37)])
 (.cond (.t 38) (.seq (.reg [.asg 6 (.c (.lit (.bool false)))])
 .ret) .skip))
 (.reg [.load 39 (.t 1) none, .load 40 (.t 1) none, .len 41 (.t 40), .bin 42 .sub (.t 41) (.c (.lit (.int .i64 1))), .slcM 43 (.t 39) (.t 42) 1, .store (.t 1) (.t 43) 1 0]))))))
 (.reg [.bin 44 .add (.t 20) (.c (.lit (.int .i64 1))), .cpy 20 (.t 44)])))))))
 (.seq (.reg [.asg 6 (.c (.lit (.bool true)))])
 .ret))))
def r102 : List MRes := [.tmp 6]
theorem tr102 : Try.f102.body.bind (trC Try.prog ann102 Try.f102.ntmps) = some m102 := by kernel_rfl
theorem rs102 : trRes Try.prog Try.f102.results.toList = some r102 := by kernel_rfl
theorem fn102 : isFunc Try.prog 102 = true := by kernel_rfl
end Go.Proofs.Ytbcfmfiolbcclaa

namespace Go.Proofs.Ytbcfmfiolbcclaa
open Go.Avm

/- (duodecimo/paper.press).ways -/
def ann56 : Ann := { muts := [], nilsz := [], oid := [(2, 3000)], frz := [3, 4, 5, 7], zero := [(2, [(.slice 1 [] 3000)]), (3, [(.lit (.int .i64 0)), (.lit (.int .i64 0)), (.lit (.int .i64 0)), (.lit (.int .i64 0)), (.lit (.int .i64 0))]), (4, [(.lit (.map none))]), (5, [(.lit (.int .i64 0)), (.lit (.int .i64 0)), (.lit (.int .i64 0)), (.lit (.int .i64 0))]), (7, [(.lit (.int .i64 0)), (.lit (.int .i64 0)), (.lit (.int .i64 0)), (.lit (.int .i64 0)), (.lit (.int .i64 0))]), (58, [(.lit (.int .i64 0))]), (64, [(.slice 1 [] 0)])], ord := [(5, [0, 1, 2, 3, 4, 5, 6, 7, 8]), (15, [0, 1, 2, 3, 4, 5, 6, 7, 8, 9, 10, 11])], ap := [], own := [8], yl := [], fz := [(19, [11])], imm := [], ic := [], cl := [61], ylL := [], rl := [(28, 1)] }
def m56 : MCode := (.seq (.reg [.boxI 1 (.t 0) 5, .alloc 2 [(.slice 1 [] 3000)]])
 (.seq (.reg [.load 12 (.t 1) (some 5), .call 13 87 [(.t 12), (.c (.lit (.int .i64 0)))], .alloc 3 [(.lit (.int .i64 0)), (.lit (.int .i64 0)), (.lit (.int .i64 0)), (.lit (.int .i64 0)), (.lit (.int .i64 0))], .storeF 3 (.t 13) 5])
 (.seq (.reg [.mkMap 14, .alloc 4 [(.lit (.map none))], .storeF 4 (.t 14) 1])
 (.seq (.seq (.reg [.load 15 (.t 1) (some 5), .call 16 88 [(.t 15)]])
 (.block 0 (.rangeF (.t 16) [17, 18] (.reg [.alloc 5 [(.lit (.int .i64 0)), (.lit (.int .i64 0)), (.lit (.int .i64 0)), (.lit (.int .i64 0))], .storeF 5 (.t 17) 4])
 (.block 1 (.reg [.load 19 (.t 4) none, .load 20 (.t 1) (some 5), .load 21 (.t 5) (some 4), .call 22 89 [(.t 20), (.t 21)], .lookup 23 (.t 19) (.t 22) (some 5) false (.lit (.int .i64 0)), .bin 24 .add (.t 23) (.c (.lit (.int .i64 1))), .mapEnt 25 (.t 19) (.t 22) (some 5) (.lit (.int .i64 0)), .ext 26 (.t 25) 1, .entSt (.t 19) (.t 26) (.t 24)])))))
 (.seq (.seq (.reg [.load 27 (.t 1) (some 5), .call 28 90 [(.t 27)]])
 (.block 2 (.rangeL (.t 28) 0 [29] (.reg [.asg 6 (.t 29)])
 (.block 3 (.seq (.reg [.load 30 (.t 4) none, .rngM 31 (.t 30)])
 (.block 4 (.loop (.seq (.reg [.nxtM 32 (.t 31), .ext 33 (.t 32) 0])
 (.seq (.cond (.t 33) .skip (.exit 4))
 (.block 5 (.seq (.reg [.entM 34 (.t 31), .ext 35 (.t 34) 0, .alloc 7 [(.lit (.int .i64 0)), (.lit (.int .i64 0)), (.lit (.int .i64 0)), (.lit (.int .i64 0)), (.lit (.int .i64 0))], .storeF 7 (.t 35) 5])
 (.seq (.reg [.asg 8 (.c (.lit (.bool true)))])
 (.seq (.seq (.reg [.cpy 36 (.t 6), .len 37 (.t 36), .cpy 38 (.c (.lit (.int .i64 0)))])
 (.block 6 (.loop (.seq (.reg [.bin 39 .lss (.t 38) (.t 37)])
 (.seq (.cond (.t 39) .skip (.exit 6))
 (.seq (.block 7 (.seq (.reg [.cpy 40 (.t 38), .idxS 41 (.t 36) (.t 38) 1, .load 42 (.t 41) none, .asg 9 (.t 40), .asg 10 (.t 42)])
 (.reg [.cpy 43 (.t 8), .cpy 44 (.t 43), .guard 44 true (some 45) (.cpy 45 (.t 10)), .guard 44 true (some 46) (.idxA 46 (.t 3) (.t 45) 5 1), .guard 44 true (some 47) (.load 47 (.t 46) none), .guard 44 true (some 48) (.cpy 48 (.t 9)), .guard 44 true (some 49) (.idxA 49 (.t 7) (.t 48) 5 1), .guard 44 true (some 50) (.load 50 (.t 49) none), .guard 44 true (some 51) (.bin 51 .andNot (.t 47) (.t 50)), .guard 44 true (some 52) (.bin 52 .eql (.t 51) (.c (.lit (.int .i64 0)))), .pick 53 (.t 44) (.t 52) (.c (.lit (.bool false))), .asg 8 (.t 53)])))
 (.reg [.bin 54 .add (.t 38) (.c (.lit (.int .i64 1))), .cpy 38 (.t 54)])))))))
 (.seq (.reg [.cpy 55 (.t 8)])
 (.cond (.t 55) (.seq (.reg [.cpy 56 (.t 6), .len 57 (.t 56), .mkM 58 (.t 57) (.t 57) 1 8 [(.lit (.int .i64 0))], .asg 11 (.t 58)])
 (.seq (.reg [.cpy 59 (.t 11), .cpy 60 (.t 6), .cpyMM 61 (.t 59) (.t 60) 1, .frz 11])
 (.seq (.reg [.load 62 (.t 2) none, .cpy 63 (.t 11), .mkS 64 1 1 [(.slice 1 [] 0)] [(0, (.t 63))], .app 65 (.t 62) (.t 64) 1 24, .store (.t 2) (.t 65) 1 3000])
 (.exit 4)))) .skip)))))))))))))))
 (.seq (.reg [.load 66 (.t 2) none, .store (.t 2) (.t 66) 1 3000])
 .ret))))))
def r56 : List MRes := [.cell 2 none]
theorem tr56 : Try.f56.body.bind (trC Try.prog ann56 Try.f56.ntmps) = some m56 := by kernel_rfl
theorem rs56 : trRes Try.prog Try.f56.results.toList = some r56 := by kernel_rfl
theorem fn56 : isFunc Try.prog 56 = true := by kernel_rfl

/- (duodecimo/paper.press).stocks -/
def ann60 : Ann := { muts := [], nilsz := [], oid := [], frz := [7], zero := [(4, [(.lit (.int .i64 0))]), (5, [(.lit (.int .i64 0))]), (6, [(.lit (.bool false))]), (7, [(.lit (.int .i64 0)), (.lit (.int .i64 0)), (.lit (.int .i64 0)), (.lit (.int .i64 0)), (.lit (.int .i64 0)), (.lit (.int .i64 0)), (.lit (.int .i64 0)), (.slice 1 [] 8007)])], ord := [(8, [0, 1, 2, 3, 4, 5])], ap := [(4, [(.t 5), (.t 6)]), (5, [(.t 6)]), (6, [])], own := [], yl := [], fz := [], imm := [], ic := [], cl := [15], ylL := [], rl := [(10, 9)] }
def m60 : MCode := (.seq (.reg [.boxI 2 (.t 0) 5, .boxI 3 (.t 1) 1, .alloc 4 [(.lit (.int .i64 0))], .alloc 5 [(.lit (.int .i64 0))], .alloc 6 [(.lit (.bool false))]])
 (.seq (.reg [.store (.t 4) (.c (.lit (.int .i64 (-1)))) 1 0])
 (.seq (.seq (.reg [.load 9 (.t 2) (some 5), .call 10 64 [(.t 9), (.c (.lit (.int .i64 0)))]])
 (.block 0 (.rangeL (.t 10) 8 [11] (.reg [.alloc 7 [(.lit (.int .i64 0)), (.lit (.int .i64 0)), (.lit (.int .i64 0)), (.lit (.int .i64 0)), (.lit (.int .i64 0)), (.lit (.int .i64 0)), (.lit (.int .i64 0)), (.slice 1 [] 8007)], .storeF 7 (.t 11) 8])
 (.block 1 (.seq (.reg [.addr 12 (.t 7) 7, .load 13 (.t 12) none, .load 14 (.t 3) none, .callL 15 59 [(.t 13), (.t 14)], .addr 16 (.t 7) 2, .idxA 17 (.t 16) (.t 15) 5 1, .load 18 (.t 17) none, .asg 8 (.t 18)])
 (.seq (.reg [.load 19 (.t 4) none, .cpy 20 (.t 8), .bin 21 .and (.t 19) (.t 20), .store (.t 4) (.t 21) 1 0])
 (.seq (.reg [.load 22 (.t 5) none, .cpy 23 (.t 8), .bin 24 .or (.t 22) (.t 23), .store (.t 5) (.t 24) 1 0])
 (.reg [.store (.t 6) (.c (.lit (.bool true))) 1 0]))))))))
 (.seq (.reg [.load 25 (.t 4) none, .load 26 (.t 5) none, .load 27 (.t 6) none, .apart [(.t 5), (.t 6)] (.t 4) (.store (.t 4) (.t 25) 1 0), .apart [(.t 6)] (.t 5) (.store (.t 5) (.t 26) 1 0), .apart [] (.t 6) (.store (.t 6) (.t 27) 1 0)])
 .ret))))
def r60 : List MRes := [.cell 4 none, .cell 5 none, .cell 6 none]
theorem tr60 : Try.f60.body.bind (trC Try.prog ann60 Try.f60.ntmps) = some m60 := by kernel_rfl
theorem rs60 : trRes Try.prog Try.f60.results.toList = some r60 := by kernel_rfl
theorem fn60 : isFunc Try.prog 60 = true := by kernel_rfl

/- (*duodecimo/paper.ends[int]).add -/
def ann63 : Ann := { muts := [], nilsz := [], oid := [], frz := [], zero := [], ord := [(3, [0, 1, 2, 3, 4, 5, 6, 7, 8, 9, 10, 11, 12, 13, 14, 15, 16, 17, 18, 19])], ap := [(39, []), (41, [])], own := [], yl := [], fz := [], imm := [], ic := [], cl := [], ylL := [], rl := [] }
def m63 : MCode := (.seq (.seq (.reg [.cpy 4 (.t 0), .nilchk 5 (.t 4), .addr 6 (.t 5) 2, .load 7 (.t 6) none, .bin 8 .add (.t 7) (.c (.lit (.int .i64 1))), .nilchk 9 (.t 4), .addr 10 (.t 9) 2, .store (.t 10) (.t 8) 1 0])
 (.seq (.reg [.cpy 11 (.t 0), .nilchk 12 (.t 11), .addr 13 (.t 12) 2, .load 14 (.t 13) none, .bin 15 .eql (.t 14) (.c (.lit (.int .i64 1)))])
 (.cond (.t 15) (.reg [.cpy 16 (.t 0), .cpy 17 (.t 0), .cpy 18 (.t 1), .cpy 19 (.t 1), .nilchk 20 (.t 16), .addr 21 (.t 20) 0, .store (.t 21) (.t 18) 1 0, .nilchk 22 (.t 17), .addr 23 (.t 22) 1, .store (.t 23) (.t 19) 1 0]) .skip)))
 (.reg [.cpy 24 (.t 0), .cpy 25 (.t 0), .cpy 26 (.t 0), .nilchk 27 (.t 26), .addr 28 (.t 27) 0, .load 29 (.t 28) none, .cpy 30 (.t 1), .minI 31 (.t 29) (.t 30), .cpy 32 (.t 0), .nilchk 33 (.t 32), .addr 34 (.t 33) 1, .load 35 (.t 34) none, .cpy 36 (.t 1), .maxI 37 (.t 35) (.t 36), .nilchk 38 (.t 24), .addr 39 (.t 38) 0, .apart [] (.t 39) (.store (.t 39) (.t 31) 1 0), .nilchk 40 (.t 25), .addr 41 (.t 40) 1, .apart [] (.t 41) (.store (.t 41) (.t 37) 1 0)]))
def r63 : List MRes := []
theorem tr63 : Try.f63.body.bind (trC Try.prog ann63 Try.f63.ntmps) = some m63 := by kernel_rfl
theorem rs63 : trRes Try.prog Try.f63.results.toList = some r63 := by kernel_rfl
theorem fn63 : isFunc Try.prog 63 = true := by kernel_rfl

/- (*duodecimo/paper.ends[int]).span -/
def ann65 : Ann := { muts := [], nilsz := [], oid := [], frz := [2], zero := [(2, [(.lit (.int .i64 0)), (.lit (.int .i64 0))]), (11, [(.lit (.int .i64 0)), (.lit (.int .i64 0))])], ord := [(1, [0, 1, 2, 3, 4, 5, 6, 7, 8, 9])], ap := [], own := [], yl := [], fz := [], imm := [], ic := [], cl := [], ylL := [], rl := [] }
def m65 : MCode := (.seq (.reg [.alloc 2 [(.lit (.int .i64 0)), (.lit (.int .i64 0))]])
 (.seq (.reg [.cpy 3 (.t 0), .nilchk 4 (.t 3), .addr 5 (.t 4) 0, .load 6 (.t 5) none, .cpy 7 (.t 0), .nilchk 8 (.t 7), .addr 9 (.t 8) 1, .load 10 (.t 9) none, .build 11 [(.lit (.int .i64 0)), (.lit (.int .i64 0))] [(0, 1, (.t 6)), (1, 1, (.t 10))], .storeF 2 (.t 11) 2])
 .ret))
def r65 : List MRes := [.cell 2 (some 2)]
theorem tr65 : Try.f65.body.bind (trC Try.prog ann65 Try.f65.ntmps) = some m65 := by kernel_rfl
theorem rs65 : trRes Try.prog Try.f65.results.toList = some r65 := by kernel_rfl
theorem fn65 : isFunc Try.prog 65 = true := by kernel_rfl

/- (*duodecimo/paper.ends[duodecimo/paper.year]).add -/
def ann68 : Ann := { muts := [], nilsz := [], oid := [], frz := [], zero := [], ord := [(3, [0, 1, 2, 3, 4, 5, 6, 7, 8, 9, 10, 11, 12, 13, 14, 15, 16, 17, 18, 19])], ap := [(39, []), (41, [])], own := [], yl := [], fz := [], imm := [], ic := [], cl := [], ylL := [], rl := [] }
def m68 : MCode := (.seq (.seq (.reg [.cpy 4 (.t 0), .nilchk 5 (.t 4), .addr 6 (.t 5) 2, .load 7 (.t 6) none, .bin 8 .add (.t 7) (.c (.lit (.int .i64 1))), .nilchk 9 (.t 4), .addr 10 (.t 9) 2, .store (.t 10) (.t 8) 1 0])
 (.seq (.reg [.cpy 11 (.t 0), .nilchk 12 (.t 11), .addr 13 (.t 12) 2, .load 14 (.t 13) none, .bin 15 .eql (.t 14) (.c (.lit (.int .i64 1)))])
 (.cond (.t 15) (.reg [.cpy 16 (.t 0), .cpy 17 (.t 0), .cpy 18 (.t 1), .cpy 19 (.t 1), .nilchk 20 (.t 16), .addr 21 (.t 20) 0, .store (.t 21) (.t 18) 1 0, .nilchk 22 (.t 17), .addr 23 (.t 22) 1, .store (.t 23) (.t 19) 1 0]) .skip)))
 (.reg [.cpy 24 (.t 0), .cpy 25 (.t 0), .cpy 26 (.t 0), .nilchk 27 (.t 26), .addr 28 (.t 27) 0, .load 29 (.t 28) none, .cpy 30 (.t 1), .minI 31 (.t 29) (.t 30), .cpy 32 (.t 0), .nilchk 33 (.t 32), .addr 34 (.t 33) 1, .load 35 (.t 34) none, .cpy 36 (.t 1), .maxI 37 (.t 35) (.t 36), .nilchk 38 (.t 24), .addr 39 (.t 38) 0, .apart [] (.t 39) (.store (.t 39) (.t 31) 1 0), .nilchk 40 (.t 25), .addr 41 (.t 40) 1, .apart [] (.t 41) (.store (.t 41) (.t 37) 1 0)]))
def r68 : List MRes := []
theorem tr68 : Try.f68.body.bind (trC Try.prog ann68 Try.f68.ntmps) = some m68 := by kernel_rfl
theorem rs68 : trRes Try.prog Try.f68.results.toList = some r68 := by kernel_rfl
theorem fn68 : isFunc Try.prog 68 = true := by kernel_rfl

/- (*duodecimo/paper.ends[duodecimo/paper.year]).span -/
def ann69 : Ann := { muts := [], nilsz := [], oid := [], frz := [2], zero := [(2, [(.lit (.int .i64 0)), (.lit (.int .i64 0))]), (11, [(.lit (.int .i64 0)), (.lit (.int .i64 0))])], ord := [(1, [0, 1, 2, 3, 4, 5, 6, 7, 8, 9])], ap := [], own := [], yl := [], fz := [], imm := [], ic := [], cl := [], ylL := [], rl := [] }
def m69 : MCode := (.seq (.reg [.alloc 2 [(.lit (.int .i64 0)), (.lit (.int .i64 0))]])
 (.seq (.reg [.cpy 3 (.t 0), .nilchk 4 (.t 3), .addr 5 (.t 4) 0, .load 6 (.t 5) none, .cpy 7 (.t 0), .nilchk 8 (.t 7), .addr 9 (.t 8) 1, .load 10 (.t 9) none, .build 11 [(.lit (.int .i64 0)), (.lit (.int .i64 0))] [(0, 1, (.t 6)), (1, 1, (.t 10))], .storeF 2 (.t 11) 2])
 .ret))
def r69 : List MRes := [.cell 2 (some 2)]
theorem tr69 : Try.f69.body.bind (trC Try.prog ann69 Try.f69.ntmps) = some m69 := by kernel_rfl
theorem rs69 : trRes Try.prog Try.f69.results.toList = some r69 := by kernel_rfl
theorem fn69 : isFunc Try.prog 69 = true := by kernel_rfl
end Go.Proofs.Ytbcfmfiolbcclaa

namespace Go.Proofs.Ytbcfmfiolbcclaa
open Go.Avm

/- duodecimo/paper.Orders -/
def ann17 : Ann := { muts := [], nilsz := [(2, 1)], oid := [], frz := [4], zero := [(4, [(.lit (.int .i64 0)), (.slice 3 [] 5001), (.slice 3 [] 5002), (.lit (.int .i64 0)), (.slice 2 [] 5004)])], ord := [], ap := [], own := [], yl := [], fz := [], imm := [], ic := [], cl := [], ylL := [], rl := [] }
def m17 : MCode := (.seq (.reg [.boxI 1 (.t 0) 5, .asgNil 2 1, .asg 3 (.c (.lit (.int .i64 0)))])
 (.seq (.reg [.load 8 (.t 1) (some 5), .call 9 55 [(.t 8)], .cpy 7 (.t 9), .ext 10 (.t 7) 0, .ext 11 (.t 7) 1, .alloc 4 [(.lit (.int .i64 0)), (.slice 3 [] 5001), (.slice 3 [] 5002), (.lit (.int .i64 0)), (.slice 2 [] 5004)], .storeF 4 (.t 10) 5, .asg 5 (.t 11)])
 (.seq (.seq (.reg [.cpy 12 (.t 5), .bin 13 .neq (.t 12) (.c (.lit (.int .i64 0)))])
 (.cond (.t 13) (.seq (.reg [.cpy 14 (.t 5), .asgNil 2 1, .asg 3 (.t 14)])
 .ret) .skip))
 (.seq (.reg [.load 15 (.t 4) (some 5), .call 16 56 [(.t 15)], .asg 6 (.t 16)])
 (.seq (.seq (.reg [.cpy 17 (.t 6), .len 18 (.t 17), .bin 19 .eql (.t 18) (.c (.lit (.int .i64 0)))])
 (.cond (.t 19) (.seq (.reg [.asgNil 2 1, .asg 3 (.c (.lit (.int .i64 8)))])
 .ret) .skip))
 (.seq (.reg [.cpy 20 (.t 6), .asg 2 (.t 20), .asg 3 (.c (.lit (.int .i64 0)))])
 .ret))))))
def r17 : List MRes := [.tmp 2, .tmp 3]
theorem tr17 : Try.f17.body.bind (trC Try.prog ann17 Try.f17.ntmps) = some m17 := by kernel_rfl
theorem rs17 : trRes Try.prog Try.f17.results.toList = some r17 := by kernel_rfl
theorem fn17 : isFunc Try.prog 17 = true := by kernel_rfl

/- duodecimo/paper.Before -/
def ann20 : Ann := { muts := [], nilsz := [], oid := [], frz := [8], zero := [(8, [(.lit (.int .i64 0)), (.slice 3 [] 9001), (.slice 3 [] 9002), (.lit (.int .i64 0)), (.slice 2 [] 9004)]), (29, [(.lit (.int .i64 0))])], ord := [], ap := [], own := [], yl := [], fz := [], imm := [], ic := [], cl := [], ylL := [], rl := [] }
def m20 : MCode := (.seq (.reg [.boxI 3 (.t 0) 5, .asg 6 (.c (.lit (.int .i64 0))), .asg 7 (.c (.lit (.int .i64 0)))])
 (.seq (.reg [.load 15 (.t 3) (some 5), .call 16 55 [(.t 15)], .cpy 14 (.t 16), .ext 17 (.t 14) 0, .ext 18 (.t 14) 1, .alloc 8 [(.lit (.int .i64 0)), (.slice 3 [] 9001), (.slice 3 [] 9002), (.lit (.int .i64 0)), (.slice 2 [] 9004)], .storeF 8 (.t 17) 5, .asg 9 (.t 18)])
 (.seq (.block 0 (.seq (.reg [.cpy 20 (.t 9), .bin 21 .neq (.t 20) (.c (.lit (.int .i64 0))), .asg 19 (.t 21)])
 (.cond (.t 19) (.seq (.reg [.cpy 22 (.t 9), .asg 6 (.c (.lit (.int .i64 0))), .asg 7 (.t 22)])
 .ret) (.seq (.reg [.addr 24 (.t 3) 3, .load 25 (.t 24) none, .bin 26 .sub (.t 25) (.c (.lit (.int .i64 1))), .cpy 27 (.t 1), .cpy 28 (.t 2), .mkS 29 2 1 [(.lit (.int .i64 0))] [(0, (.t 27)), (1, (.t 28))], .call 30 48 [(.c (.lit (.int .i64 0))), (.t 26), (.t 29)], .asg 23 (.t 30)])
 (.cond (.t 23) (.seq (.reg [.asg 6 (.c (.lit (.int .i64 0))), .asg 7 (.c (.lit (.int .i64 4)))])
 .ret) (.seq (.reg [.cpy 32 (.t 1), .cpy 33 (.t 2), .bin 34 .eql (.t 32) (.t 33), .asg 31 (.t 34)])
 (.cond (.t 31) (.seq (.reg [.asg 6 (.c (.lit (.int .i64 0))), .asg 7 (.c (.lit (.int .i64 2)))])
 .ret) .skip)))))))
 (.seq (.reg [.load 35 (.t 8) (some 5), .call 36 56 [(.t 35)], .asg 10 (.t 36)])
 (.seq (.reg [.asg 11 (.c (.lit (.int .i64 0)))])
 (.seq (.seq (.reg [.cpy 37 (.t 10), .len 38 (.t 37), .cpy 39 (.c (.lit (.int .i64 0)))])
 (.block 1 (.loop (.seq (.reg [.bin 40 .lss (.t 39) (.t 38)])
 (.seq (.cond (.t 40) .skip (.exit 1))
 (.seq (.block 2 (.seq (.reg [.idxS 41 (.t 37) (.t 39) 1, .load 42 (.t 41) none, .asg 13 (.t 42)])
 (.seq (.reg [.cpy 43 (.t 13), .cpy 44 (.t 1), .call 45 59 [(.t 43), (.t 44)], .cpy 46 (.t 13), .cpy 47 (.t 2), .call 48 59 [(.t 46), (.t 47)], .bin 49 .lss (.t 45) (.t 48)])
 (.cond (.t 49) (.reg [.cpy 50 (.t 11), .bin 51 .add (.t 50) (.c (.lit (.int .i64 1))), .asg 11 (.t 51)]) .skip))))
 (.reg [.bin 52 .add (.t 39) (.c (.lit (.int .i64 1))), .cpy 39 (.t 52)])))))))
 (.seq (.block 3 (.seq (.reg [.cpy 54 (.t 10), .len 55 (.t 54), .bin 56 .eql (.t 55) (.c (.lit (.int .i64 0))), .asg 53 (.t 56)])
 (.cond (.t 53) (.seq (.reg [.asg 6 (.c (.lit (.int .i64 0))), .asg 7 (.c (.lit (.int .i64 8)))])
 .ret) (.seq (.reg [.cpy 58 (.t 11), .cpy 59 (.t 10), .len 60 (.t 59), .bin 61 .eql (.t 58) (.t 60), .asg 57 (.t 61)])
 (.cond (.t 57) (.seq (.reg [.asg 6 (.c (.lit (.int .i64 1))), .asg 7 (.c (.lit (.int .i64 0)))])
 .ret) (.seq (.reg [.cpy 63 (.t 11), .bin 64 .eql (.t 63) (.c (.lit (.int .i64 0))), .asg 62 (.t 64)])
 (.cond (.t 62) (.seq (.reg [.asg 6 (.c (.lit (.int .i64 2))), .asg 7 (.c (.lit (.int .i64 0)))])
 .ret) .skip)))))))
 (.seq (.reg [.asg 6 (.c (.lit (.int .i64 0))), .asg 7 (.c (.lit (.int .i64 0)))])
 .ret))))))))
def r20 : List MRes := [.tmp 6, .tmp 7]
theorem tr20 : Try.f20.body.bind (trC Try.prog ann20 Try.f20.ntmps) = some m20 := by kernel_rfl
theorem rs20 : trRes Try.prog Try.f20.results.toList = some r20 := by kernel_rfl
theorem fn20 : isFunc Try.prog 20 = true := by kernel_rfl

/- duodecimo/paper.Stocks -/
def ann23 : Ann := { muts := [], nilsz := [(4, 1), (5, 1)], oid := [], frz := [7], zero := [(7, [(.lit (.int .i64 0)), (.slice 3 [] 8001), (.slice 3 [] 8002), (.lit (.int .i64 0)), (.slice 2 [] 8004)]), (25, [(.lit (.int .i64 0))])], ord := [], ap := [], own := [], yl := [], fz := [], imm := [], ic := [], cl := [], ylL := [], rl := [] }
def m23 : MCode := (.seq (.reg [.boxI 2 (.t 0) 5, .asgNil 4 1, .asgNil 5 1, .asg 6 (.c (.lit (.int .i64 0)))])
 (.seq (.reg [.load 12 (.t 2) (some 5), .call 13 55 [(.t 12)], .cpy 11 (.t 13), .ext 14 (.t 11) 0, .ext 15 (.t 11) 1, .alloc 7 [(.lit (.int .i64 0)), (.slice 3 [] 8001), (.slice 3 [] 8002), (.lit (.int .i64 0)), (.slice 2 [] 8004)], .storeF 7 (.t 14) 5, .asg 6 (.t 15)])
 (.seq (.block 0 (.seq (.reg [.cpy 17 (.t 6), .bin 18 .neq (.t 17) (.c (.lit (.int .i64 0))), .asg 16 (.t 18)])
 (.cond (.t 16) (.seq (.reg [.cpy 19 (.t 6), .asgNil 4 1, .asgNil 5 1, .asg 6 (.t 19)])
 .ret) (.seq (.reg [.addr 21 (.t 2) 3, .load 22 (.t 21) none, .bin 23 .sub (.t 22) (.c (.lit (.int .i64 1))), .cpy 24 (.t 1), .mkS 25 1 1 [(.lit (.int .i64 0))] [(0, (.t 24))], .call 26 48 [(.c (.lit (.int .i64 0))), (.t 23), (.t 25)], .asg 20 (.t 26)])
 (.cond (.t 20) (.seq (.reg [.asgNil 4 1, .asgNil 5 1, .asg 6 (.c (.lit (.int .i64 4)))])
 .ret) .skip)))))
 (.seq (.reg [.load 28 (.t 7) (some 5), .cpy 29 (.t 1), .call 30 60 [(.t 28), (.t 29)], .cpy 27 (.t 30), .ext 31 (.t 27) 0, .ext 32 (.t 27) 1, .ext 33 (.t 27) 2, .asg 8 (.t 31), .asg 9 (.t 32), .asg 10 (.t 33)])
 (.seq (.seq (.reg [.cpy 34 (.t 10), .not 35 (.t 34)])
 (.cond (.t 35) (.seq (.reg [.asgNil 4 1, .asgNil 5 1, .asg 6 (.c (.lit (.int .i64 8)))])
 .ret) .skip))
 (.seq (.reg [.cpy 36 (.t 8), .call 37 61 [(.t 36)], .cpy 38 (.t 9), .call 39 61 [(.t 38)], .asg 4 (.t 37), .asg 5 (.t 39), .asg 6 (.c (.lit (.int .i64 0)))])
 .ret))))))
def r23 : List MRes := [.tmp 4, .tmp 5, .tmp 6]
theorem tr23 : Try.f23.body.bind (trC Try.prog ann23 Try.f23.ntmps) = some m23 := by kernel_rfl
theorem rs23 : trRes Try.prog Try.f23.results.toList = some r23 := by kernel_rfl
theorem fn23 : isFunc Try.prog 23 = true := by kernel_rfl

/- duodecimo/paper.Left -/
def ann26 : Ann := { muts := [], nilsz := [], oid := [], frz := [5, 8, 9], zero := [(2, [(.lit (.int .i64 0)), (.lit (.int .i64 0))]), (3, [(.lit (.int .i64 0)), (.lit (.int .i64 0))]), (5, [(.lit (.int .i64 0)), (.slice 3 [] 6001), (.slice 3 [] 6002), (.lit (.int .i64 0)), (.slice 2 [] 6004)]), (6, [(.lit (.int .i64 0)), (.lit (.int .i64 0)), (.lit (.int .i64 0))]), (7, [(.lit (.int .i64 0)), (.lit (.int .i64 0)), (.lit (.int .i64 0))]), (8, [(.lit .nilFunc)]), (9, [(.lit (.int .i64 0)), (.lit (.int .i64 0)), (.lit (.int .i64 0)), (.lit (.int .i64 0)), (.lit (.int .i64 0)), (.lit (.int .i64 0)), (.lit (.int .i64 0)), (.slice 1 [] 10007)])], ord := [(3, [0, 1, 2, 3, 4, 5]), (11, [0, 1, 2, 3, 4])], ap := [(2, [(.t 3)]), (3, [])], own := [4], yl := [], fz := [], imm := [], ic := [33, 36, 42, 43], cl := [], ylL := [], rl := [(22, 9)] }
def m26 : MCode := (.seq (.reg [.boxI 1 (.t 0) 5, .alloc 2 [(.lit (.int .i64 0)), (.lit (.int .i64 0))], .alloc 3 [(.lit (.int .i64 0)), (.lit (.int .i64 0))], .asg 4 (.c (.lit (.int .i64 0)))])
 (.seq (.reg [.load 11 (.t 1) (some 5), .call 12 55 [(.t 11)], .cpy 10 (.t 12), .ext 13 (.t 10) 0, .ext 14 (.t 10) 1, .alloc 5 [(.lit (.int .i64 0)), (.slice 3 [] 6001), (.slice 3 [] 6002), (.lit (.int .i64 0)), (.slice 2 [] 6004)], .storeF 5 (.t 13) 5, .asg 4 (.t 14)])
 (.seq (.seq (.reg [.cpy 15 (.t 4), .bin 16 .neq (.t 15) (.c (.lit (.int .i64 0)))])
 (.cond (.t 16) (.seq (.reg [.load 17 (.t 2) (some 2), .load 18 (.t 3) (some 2), .cpy 19 (.t 4), .apart [(.t 3)] (.t 2) (.store (.t 2) (.t 17) 2 0), .apart [] (.t 3) (.store (.t 3) (.t 18) 2 0), .asg 4 (.t 19)])
 .ret) .skip))
 (.seq (.reg [.alloc 6 [(.lit (.int .i64 0)), (.lit (.int .i64 0)), (.lit (.int .i64 0))], .alloc 7 [(.lit (.int .i64 0)), (.lit (.int .i64 0)), (.lit (.int .i64 0))]])
 (.seq (.reg [.mkfn 20 (.func 63) [(.t 6)] [], .alloc 8 [(.lit .nilFunc)], .storeF 8 (.t 20) 1])
 (.seq (.seq (.reg [.load 21 (.t 5) (some 5), .call 22 64 [(.t 21), (.c (.lit (.int .i64 0)))]])
 (.block 0 (.rangeL (.t 22) 8 [23] (.reg [.alloc 9 [(.lit (.int .i64 0)), (.lit (.int .i64 0)), (.lit (.int .i64 0)), (.lit (.int .i64 0)), (.lit (.int .i64 0)), (.lit (.int .i64 0)), (.lit (.int .i64 0)), (.slice 1 [] 10007)], .storeF 9 (.t 23) 8])
 (.block 1 (.seq (.reg [.load 24 (.t 8) none, .addr 25 (.t 9) 0, .load 26 (.t 25) none, .addr 27 (.t 1) 0, .load 28 (.t 27) none, .addr 29 (.t 1) 3, .load 30 (.t 29) none, .bin 31 .mul (.t 28) (.t 30), .bin 32 .sub (.t 26) (.t 31), .icallv 33 (.t 24) [(.t 32)]])
 (.reg [.addr 34 (.t 9) 1, .load 35 (.t 34) none, .icall 36 63 [(.t 7), (.t 35)]]))))))
 (.seq (.seq (.reg [.addr 37 (.t 6) 2, .load 38 (.t 37) none, .bin 39 .eql (.t 38) (.c (.lit (.int .i64 0)))])
 (.cond (.t 39) (.seq (.reg [.load 40 (.t 2) (some 2), .load 41 (.t 3) (some 2), .apart [(.t 3)] (.t 2) (.store (.t 2) (.t 40) 2 0), .apart [] (.t 3) (.store (.t 3) (.t 41) 2 0), .asg 4 (.c (.lit (.int .i64 8)))])
 .ret) .skip))
 (.seq (.reg [.icall 42 65 [(.t 6)], .icall 43 65 [(.t 7)], .store (.t 2) (.t 42) 2 0, .store (.t 3) (.t 43) 2 0, .asg 4 (.c (.lit (.int .i64 0)))])
 .ret))))))))
def r26 : List MRes := [.cell 2 (some 2), .cell 3 (some 2), .tmp 4]
theorem tr26 : Try.f26.body.bind (trC Try.prog ann26 Try.f26.ntmps) = some m26 := by kernel_rfl
theorem rs26 : trRes Try.prog Try.f26.results.toList = some r26 := by kernel_rfl
theorem fn26 : isFunc Try.prog 26 = true := by kernel_rfl

/- duodecimo/paper.Year -/
def ann28 : Ann := { muts := [], nilsz := [], oid := [], frz := [4, 7], zero := [(2, [(.lit (.int .i64 0)), (.lit (.int .i64 0))]), (4, [(.lit (.int .i64 0)), (.slice 3 [] 5001), (.slice 3 [] 5002), (.lit (.int .i64 0)), (.slice 2 [] 5004)]), (6, [(.lit (.int .i64 0)), (.lit (.int .i64 0)), (.lit (.int .i64 0))]), (7, [(.lit (.int .i64 0)), (.lit (.int .i64 0)), (.lit (.int .i64 0)), (.lit (.int .i64 0)), (.lit (.int .i64 0)), (.lit (.int .i64 0)), (.lit (.int .i64 0)), (.slice 1 [] 8007)]), (22, [(.lit (.int .i64 0)), (.lit (.int .i64 0))]), (69, [(.lit (.int .i64 0)), (.lit (.int .i64 0))])], ord := [(17, [0, 1, 2, 3, 4, 5, 6, 7, 8, 9, 10, 11, 12, 13, 14, 15, 16, 17, 18, 19])], ap := [], own := [12], yl := [], fz := [], imm := [], ic := [63, 65, 70], cl := [], ylL := [], rl := [(25, 9)] }
def m28 : MCode := (.seq (.reg [.boxI 1 (.t 0) 5, .alloc 2 [(.lit (.int .i64 0)), (.lit (.int .i64 0))], .asg 3 (.c (.lit (.int .i64 0)))])
 (.seq (.reg [.load 16 (.t 1) (some 5), .call 17 55 [(.t 16)], .cpy 15 (.t 17), .ext 18 (.t 15) 0, .ext 19 (.t 15) 1, .alloc 4 [(.lit (.int .i64 0)), (.slice 3 [] 5001), (.slice 3 [] 5002), (.lit (.int .i64 0)), (.slice 2 [] 5004)], .storeF 4 (.t 18) 5, .asg 5 (.t 19)])
 (.seq (.seq (.reg [.cpy 20 (.t 5), .bin 21 .neq (.t 20) (.c (.lit (.int .i64 0)))])
 (.cond (.t 21) (.seq (.reg [.build 22 [(.lit (.int .i64 0)), (.lit (.int .i64 0))] [], .cpy 23 (.t 5), .store (.t 2) (.t 22) 2 0, .asg 3 (.t 23)])
 .ret) .skip))
 (.seq (.reg [.alloc 6 [(.lit (.int .i64 0)), (.lit (.int .i64 0)), (.lit (.int .i64 0))]])
 (.seq (.seq (.reg [.load 24 (.t 4) (some 5), .call 25 64 [(.t 24), (.c (.lit (.int .i64 0)))]])
 (.block 0 (.rangeL (.t 25) 8 [26] (.reg [.alloc 7 [(.lit (.int .i64 0)), (.lit (.int .i64 0)), (.lit (.int .i64 0)), (.lit (.int .i64 0)), (.lit (.int .i64 0)), (.lit (.int .i64 0)), (.lit (.int .i64 0)), (.slice 1 [] 8007)], .storeF 7 (.t 26) 8])
 (.block 1 (.seq (.reg [.asg 8 (.c (.lit (.int .i64 0)))])
 (.seq (.seq (.reg [.addr 27 (.t 7) 2, .load 28 (.t 27) (some 5), .cpy 29 (.c (.lit (.int .i64 0)))])
 (.block 2 (.loop (.seq (.reg [.bin 30 .lss (.t 29) (.c (.lit (.int .i64 5)))])
 (.seq (.cond (.t 30) .skip (.exit 2))
 (.seq (.block 3 (.seq (.reg [.idxV 31 (.t 28) (.t 29) 5 1 none, .asg 10 (.t 31)])
 (.reg [.cpy 32 (.t 8), .cpy 33 (.t 10), .bin 34 .or (.t 32) (.t 33), .asg 8 (.t 34)])))
 (.reg [.bin 35 .add (.t 29) (.c (.lit (.int .i64 1))), .cpy 29 (.t 35)])))))))
 (.seq (.reg [.asg 11 (.c (.lit (.int .i64 0))), .asg 12 (.c (.lit (.int .i64 0)))])
 (.seq (.seq (.reg [.cpy 36 (.t 8), .call 37 61 [(.t 36)], .len 38 (.t 37), .cpy 39 (.c (.lit (.int .i64 0)))])
 (.block 4 (.loop (.seq (.reg [.bin 40 .lss (.t 39) (.t 38)])
 (.seq (.cond (.t 40) .skip (.exit 4))
 (.seq (.block 5 (.seq (.reg [.idxS 41 (.t 37) (.t 39) 1, .load 42 (.t 41) none, .asg 14 (.t 42)])
 (.reg [.cpy 43 (.t 11), .addr 44 (.t 1) 1, .load 45 (.t 44) none, .cpy 46 (.t 14), .idxS 47 (.t 45) (.t 46) 3, .addr 48 (.t 47) 1, .addr 49 (.t 48) 0, .load 50 (.t 49) none, .maxI 51 (.t 43) (.t 50), .cpy 52 (.t 12), .addr 53 (.t 1) 1, .load 54 (.t 53) none, .cpy 55 (.t 14), .idxS 56 (.t 54) (.t 55) 3, .addr 57 (.t 56) 1, .addr 58 (.t 57) 1, .load 59 (.t 58) none, .maxI 60 (.t 52) (.t 59), .cpyE 11 (.t 51), .asg 12 (.t 60)])))
 (.reg [.bin 61 .add (.t 39) (.c (.lit (.int .i64 1))), .cpy 39 (.t 61)])))))))
 (.seq (.reg [.cpy 62 (.t 11), .icall 63 68 [(.t 6), (.t 62)]])
 (.reg [.cpy 64 (.t 12), .icall 65 68 [(.t 6), (.t 64)]]))))))))))
 (.seq (.seq (.reg [.addr 66 (.t 6) 2, .load 67 (.t 66) none, .bin 68 .eql (.t 67) (.c (.lit (.int .i64 0)))])
 (.cond (.t 68) (.seq (.reg [.build 69 [(.lit (.int .i64 0)), (.lit (.int .i64 0))] [], .store (.t 2) (.t 69) 2 0, .asg 3 (.c (.lit (.int .i64 8)))])
 .ret) .skip))
 (.seq (.reg [.icall 70 69 [(.t 6)], .store (.t 2) (.t 70) 2 0, .asg 3 (.c (.lit (.int .i64 0)))])
 .ret)))))))
def r28 : List MRes := [.cell 2 (some 2), .tmp 3]
theorem tr28 : Try.f28.body.bind (trC Try.prog ann28 Try.f28.ntmps) = some m28 := by kernel_rfl
theorem rs28 : trRes Try.prog Try.f28.results.toList = some r28 := by kernel_rfl
theorem fn28 : isFunc Try.prog 28 = true := by kernel_rfl

/- duodecimo/paper.Wrong -/
def ann30 : Ann := { muts := [], nilsz := [(2, 1)], oid := [], frz := [4, 7], zero := [(4, [(.lit (.int .i64 0)), (.slice 3 [] 5001), (.slice 3 [] 5002), (.lit (.int .i64 0)), (.slice 2 [] 5004)]), (6, [(.lit (.int .i64 0))]), (7, [(.lit (.int .i64 0))])], ord := [], ap := [], own := [], yl := [], fz := [], imm := [], ic := [], cl := [], ylL := [], rl := [(33, 9)] }
def m30 : MCode := (.seq (.reg [.boxI 1 (.t 0) 5, .asgNil 2 1, .asg 3 (.c (.lit (.int .i64 0)))])
 (.seq (.reg [.load 9 (.t 1) (some 5), .call 10 55 [(.t 9)], .cpy 8 (.t 10), .ext 11 (.t 8) 0, .ext 12 (.t 8) 1, .alloc 4 [(.lit (.int .i64 0)), (.slice 3 [] 5001), (.slice 3 [] 5002), (.lit (.int .i64 0)), (.slice 2 [] 5004)], .storeF 4 (.t 11) 5, .asg 5 (.t 12)])
 (.seq (.seq (.reg [.cpy 13 (.t 5), .bin 14 .neq (.t 13) (.c (.lit (.int .i64 0)))])
 (.cond (.t 14) (.seq (.reg [.cpy 15 (.t 5), .asgNil 2 1, .asg 3 (.t 15)])
 .ret) .skip))
 (.seq (.reg [.alloc 6 [(.lit (.int .i64 0))], .store (.t 6) (.c (.lit (.int .i64 (-1)))) 1 0])
 (.seq (.seq (.reg [.addr 16 (.t 1) 4, .load 17 (.t 16) none, .len 18 (.t 17), .bin 19 .shl (.c (.lit (.int .i64 1))) (.t 18), .cpy 20 (.c (.lit (.int .i64 0)))])
 (.block 0 (.loop (.seq (.reg [.bin 21 .lss (.t 20) (.t 19)])
 (.seq (.cond (.t 21) .skip (.exit 0))
 (.seq (.block 1 (.seq (.reg [.cpy 22 (.t 20), .alloc 7 [(.lit (.int .i64 0))], .storeF 7 (.t 22) 1])
 (.seq (.seq (.reg [.load 23 (.t 6) none, .bin 24 .geq (.t 23) (.c (.lit (.int .i64 0))), .cpy 25 (.t 24), .guard 25 true (some 26) (.load 26 (.t 7) none), .guard 25 true (some 27) (.load 27 (.t 6) none), .guard 25 true (some 28) (.call 28 71 [(.t 26), (.t 27)]), .guard 25 true (some 29) (.not 29 (.t 28)), .pick 30 (.t 25) (.t 29) (.c (.lit (.bool false)))])
 (.cond (.t 30) (.exit 1) .skip))
 (.seq (.reg [.load 31 (.t 4) (some 5), .load 32 (.t 7) none, .call 33 64 [(.t 31), (.t 32)]])
 (.block 2 (.rangeL (.t 33) 8 [34] .skip
 (.block 3 (.seq (.reg [.load 35 (.t 7) none, .store (.t 6) (.t 35) 1 0])
 (.exit 2)))))))))
 (.reg [.bin 36 .add (.t 20) (.c (.lit (.int .i64 1))), .cpy 20 (.t 36)])))))))
 (.seq (.seq (.reg [.load 37 (.t 6) none, .bin 38 .lss (.t 37) (.c (.lit (.int .i64 0)))])
 (.cond (.t 38) (.seq (.reg [.asgNil 2 1, .asg 3 (.c (.lit (.int .i64 9)))])
 .ret) .skip))
 (.seq (.reg [.load 39 (.t 6) none, .call 40 61 [(.t 39)], .asg 2 (.t 40), .asg 3 (.c (.lit (.int .i64 0)))])
 .ret)))))))
def r30 : List MRes := [.tmp 2, .tmp 3]
theorem tr30 : Try.f30.body.bind (trC Try.prog ann30 Try.f30.ntmps) = some m30 := by kernel_rfl
theorem rs30 : trRes Try.prog Try.f30.results.toList = some r30 := by kernel_rfl
theorem fn30 : isFunc Try.prog 30 = true := by kernel_rfl

/- duodecimo/paper.Ask -/
def ann32 : Ann := { muts := [], nilsz := [], oid := [(53, 14004)], frz := [5], zero := [(5, [(.lit (.int .i64 0)), (.slice 3 [] 6001), (.slice 3 [] 6002), (.lit (.int .i64 0)), (.slice 2 [] 6004)]), (13, [(.lit (.int .i64 0)), (.slice 3 [] 14001), (.slice 3 [] 14002), (.lit (.int .i64 0)), (.slice 2 [] 14004)]), (49, [(.lit (.int .i64 0)), (.lit (.int .i64 0))]), (50, [(.lit (.int .i64 0)), (.lit (.int .i64 0))])], ord := [], ap := [], own := [], yl := [], fz := [], imm := [], ic := [46], cl := [], ylL := [], rl := [] }
def m32 : MCode := (.seq (.reg [.boxI 1 (.t 0) 5, .asg 2 (.c (.lit (.int .i64 0))), .asg 3 (.c (.lit (.int .i64 0))), .asg 4 (.c (.lit (.int .i64 0)))])
 (.seq (.reg [.load 15 (.t 1) (some 5), .call 16 55 [(.t 15)], .cpy 14 (.t 16), .ext 17 (.t 14) 0, .ext 18 (.t 14) 1, .alloc 5 [(.lit (.int .i64 0)), (.slice 3 [] 6001), (.slice 3 [] 6002), (.lit (.int .i64 0)), (.slice 2 [] 6004)], .storeF 5 (.t 17) 5, .asg 4 (.t 18)])
 (.seq (.seq (.reg [.cpy 19 (.t 4), .bin 20 .neq (.t 19) (.c (.lit (.int .i64 0)))])
 (.cond (.t 20) (.seq (.reg [.cpy 21 (.t 4), .asg 2 (.c (.lit (.int .i64 0))), .asg 3 (.c (.lit (.int .i64 0))), .asg 4 (.t 21)])
 .ret) .skip))
 (.seq (.seq (.reg [.addr 22 (.t 1) 3, .load 23 (.t 22) none, .cpy 24 (.c (.lit (.int .i64 0)))])
 (.block 0 (.loop (.seq (.reg [.bin 25 .lss (.t 24) (.t 23)])
 (.seq (.cond (.t 25) .skip (.exit 0))
 (.seq (.block 1 (.seq (.reg [.cpy 26 (.t 24), .asg 6 (.t 26)])
 (.seq (.reg [.load 28 (.t 5) (some 5), .cpy 29 (.t 6), .call 30 60 [(.t 28), (.t 29)], .cpy 27 (.t 30), .ext 31 (.t 27) 0, .ext 32 (.t 27) 1, .ext 33 (.t 27) 2, .asg 7 (.t 31), .asg 8 (.t 32), .asg 9 (.t 33)])
 (.seq (.seq (.reg [.cpy 34 (.t 9), .not 35 (.t 34)])
 (.cond (.t 35) (.seq (.reg [.asg 2 (.c (.lit (.int .i64 0))), .asg 3 (.c (.lit (.int .i64 0))), .asg 4 (.c (.lit (.int .i64 8)))])
 .ret) .skip))
 (.seq (.reg [.asg 10 (.c (.lit (.int .i64 0)))])
 (.seq (.seq (.reg [.cpy 36 (.t 8), .call 37 61 [(.t 36)], .len 38 (.t 37), .cpy 39 (.c (.lit (.int .i64 0)))])
 (.block 2 (.loop (.seq (.reg [.bin 40 .lss (.t 39) (.t 38)])
 (.seq (.cond (.t 40) .skip (.exit 2))
 (.seq (.block 3 (.seq (.reg [.idxS 41 (.t 37) (.t 39) 1, .load 42 (.t 41) none, .asg 12 (.t 42)])
 (.seq (.reg [.load 43 (.t 5) (some 5), .alloc 13 [(.lit (.int .i64 0)), (.slice 3 [] 14001), (.slice 3 [] 14002), (.lit (.int .i64 0)), (.slice 2 [] 14004)], .store (.t 13) (.t 43) 5 0])
 (.seq (.reg [.addr 44 (.t 1) 4, .load 45 (.t 44) none, .icall 46 75 [(.t 45)], .cpy 47 (.t 6), .cpy 48 (.t 12), .build 49 [(.lit (.int .i64 0)), (.lit (.int .i64 0))] [(0, 1, (.t 47)), (1, 1, (.t 48))], .mkS 50 1 2 [(.lit (.int .i64 0)), (.lit (.int .i64 0))] [(0, (.t 49))], .app 51 (.t 46) (.t 50) 2 16, .addr 52 (.t 13) 0, .addr 53 (.t 52) 4, .store (.t 53) (.t 51) 1 14004])
 (.reg [.cpy 54 (.t 10), .load 55 (.t 13) (some 5), .call 56 56 [(.t 55)], .len 57 (.t 56), .maxI 58 (.t 54) (.t 57), .asg 10 (.t 58)])))))
 (.reg [.bin 59 .add (.t 39) (.c (.lit (.int .i64 1))), .cpy 39 (.t 59)])))))))
 (.seq (.reg [.cpy 60 (.t 6), .bin 61 .eql (.t 60) (.c (.lit (.int .i64 0))), .cpy 62 (.t 61), .guard 62 false (some 63) (.cpy 63 (.t 10)), .guard 62 false (some 64) (.cpy 64 (.t 3)), .guard 62 false (some 65) (.bin 65 .lss (.t 63) (.t 64)), .pick 66 (.t 62) (.c (.lit (.bool true))) (.t 65)])
 (.cond (.t 66) (.reg [.cpy 67 (.t 6), .cpy 68 (.t 10), .asg 2 (.t 67), .asg 3 (.t 68)]) .skip))))))))
 (.reg [.bin 69 .add (.t 24) (.c (.lit (.int .i64 1))), .cpy 24 (.t 69)])))))))
 (.seq (.reg [.cpy 70 (.t 2), .cpy 71 (.t 3), .asg 2 (.t 70), .asg 3 (.t 71), .asg 4 (.c (.lit (.int .i64 0)))])
 .ret)))))
def r32 : List MRes := [.tmp 2, .tmp 3, .tmp 4]
theorem tr32 : Try.f32.body.bind (trC Try.prog ann32 Try.f32.ntmps) = some m32 := by kernel_rfl
theorem rs32 : trRes Try.prog Try.f32.results.toList = some r32 := by kernel_rfl
theorem fn32 : isFunc Try.prog 32 = true := by kernel_rfl
end Go.Proofs.Ytbcfmfiolbcclaa

namespace Go.Proofs.Ytbcfmfiolbcclaa
open Go.Avm

/- duodecimo/duodecimoref06.Check -/
def ann16 : Ann := { muts := [], nilsz := [(5, 1)], oid := [], frz := [9], zero := [(9, [(.lit (.int .i64 0)), (.lit (.int .i64 0)), (.lit (.int .i64 0))]), (43, [(.lit (.string ⟨#[]⟩))])], ord := [(35, [0, 1, 2, 3, 4, 5, 6, 7, 8, 9, 10, 11, 12, 13, 14, 15, 16, 17, 18, 19, 20, 21, 22, 23, 24])], ap := [], own := [], yl := [], fz := [], imm := [], ic := [], cl := [], ylL := [], rl := [] }
def m16 : MCode := (.seq (.reg [.boxI 1 (.t 0) 5, .asg 2 (.c (.lit (.int .i64 0))), .asg 3 (.c (.lit (.int .i64 0))), .asg 4 (.c (.lit (.int .i64 0)))])
 (.seq (.seq (.reg [.addr 12 (.t 1) 0, .load 13 (.t 12) none, .call 14 52 [(.t 13), (.c (.lit (.int .i64 1))), (.c (.lit (.int .i64 500)))], .not 15 (.t 14)])
 (.cond (.t 15) (.seq (.reg [.asg 2 (.c (.lit (.int .i64 1))), .asg 3 (.c (.lit (.int .i64 0))), .asg 4 (.c (.lit (.int .i64 7)))])
 .ret) .skip))
 (.seq (.seq (.reg [.addr 16 (.t 1) 1, .load 17 (.t 16) none, .len 18 (.t 17), .call 19 52 [(.t 18), (.c (.lit (.int .i64 1))), (.c (.lit (.int .i64 4)))], .not 20 (.t 19)])
 (.cond (.t 20) (.seq (.reg [.asg 2 (.c (.lit (.int .i64 2))), .asg 3 (.c (.lit (.int .i64 0))), .asg 4 (.c (.lit (.int .i64 3)))])
 .ret) .skip))
 (.seq (.reg [.asgNil 5 1])
 (.seq (.seq (.reg [.asg 6 (.c (.lit (.int .i64 0)))])
 (.block 0 (.loop (.seq (.seq (.reg [.cpy 21 (.t 6), .addr 22 (.t 1) 1, .load 23 (.t 22) none, .len 24 (.t 23), .bin 25 .lss (.t 21) (.t 24)])
 (.cond (.t 25) .skip (.exit 0)))
 (.seq (.block 1 (.seq (.reg [.addr 28 (.t 1) 1, .load 29 (.t 28) none, .cpy 30 (.t 6), .idxS 31 (.t 29) (.t 30) 3, .addr 32 (.t 31) 0, .load 33 (.t 32) none, .cpy 34 (.t 5), .call 35 53 [(.t 33), (.t 34)], .asg 7 (.t 35)])
 (.seq (.reg [.cpy 36 (.t 5), .addr 37 (.t 1) 1, .load 38 (.t 37) none, .cpy 39 (.t 6), .idxS 40 (.t 38) (.t 39) 3, .addr 41 (.t 40) 0, .load 42 (.t 41) none, .mkS 43 1 1 [(.lit (.string ⟨#[]⟩))] [(0, (.t 42))], .app 44 (.t 36) (.t 43) 1 16, .asg 5 (.t 44)])
 (.seq (.seq (.reg [.cpy 45 (.t 7), .bin 46 .eql (.t 45) (.c (.lit (.int .i64 0)))])
 (.cond (.t 46) (.reg [.addr 47 (.t 1) 1, .load 48 (.t 47) none, .cpy 49 (.t 6), .idxS 50 (.t 48) (.t 49) 3, .addr 51 (.t 50) 1, .load 52 (.t 51) (some 2), .call 53 54 [(.t 52), (.c (.lit (.int .i64 1450))), (.c (.lit (.int .i64 1850)))], .asg 7 (.t 53)]) .skip))
 (.seq (.reg [.cpy 54 (.t 7), .bin 55 .neq (.t 54) (.c (.lit (.int .i64 0)))])
 (.cond (.t 55) (.seq (.reg [.cpy 56 (.t 6), .cpy 57 (.t 7), .asg 2 (.c (.lit (.int .i64 2))), .asg 3 (.t 56), .asg 4 (.t 57)])
 .ret) .skip))))))
 (.reg [.cpy 26 (.t 6), .bin 27 .add (.t 26) (.c (.lit (.int .i64 1))), .asg 6 (.t 27)]))))))
 (.seq (.seq (.reg [.addr 58 (.t 1) 2, .load 59 (.t 58) none, .len 60 (.t 59), .call 61 52 [(.t 60), (.c (.lit (.int .i64 1))), (.c (.lit (.int .i64 4)))], .not 62 (.t 61)])
 (.cond (.t 62) (.seq (.reg [.asg 2 (.c (.lit (.int .i64 3))), .asg 3 (.c (.lit (.int .i64 0))), .asg 4 (.c (.lit (.int .i64 3)))])
 .ret) .skip))
 (.seq (.seq (.reg [.asg 8 (.c (.lit (.int .i64 0)))])
 (.block 2 (.loop (.seq (.seq (.reg [.cpy 63 (.t 8), .addr 64 (.t 1) 2, .load 65 (.t 64) none, .len 66 (.t 65), .bin 67 .lss (.t 63) (.t 66)])
 (.cond (.t 67) .skip (.exit 2)))
 (.seq (.block 3 (.seq (.reg [.addr 70 (.t 1) 2, .load 71 (.t 70) none, .cpy 72 (.t 8), .idxS 73 (.t 71) (.t 72) 3, .load 74 (.t 73) (some 3), .alloc 9 [(.lit (.int .i64 0)), (.lit (.int .i64 0)), (.lit (.int .i64 0))], .storeF 9 (.t 74) 3])
 (.seq (.seq (.reg [.addr 75 (.t 9) 0, .load 76 (.t 75) none, .addr 77 (.t 1) 1, .load 78 (.t 77) none, .len 79 (.t 78), .bin 80 .sub (.t 79) (.c (.lit (.int .i64 1))), .call 81 52 [(.t 76), (.c (.lit (.int .i64 0))), (.t 80)], .not 82 (.t 81)])
 (.cond (.t 82) (.seq (.reg [.cpy 83 (.t 8), .asg 2 (.c (.lit (.int .i64 3))), .asg 3 (.t 83), .asg 4 (.c (.lit (.int .i64 4)))])
 .ret) .skip))
 (.seq (.reg [.addr 84 (.t 9) 1, .load 85 (.t 84) (some 2), .call 86 54 [(.t 85), (.c (.lit (.int .i64 1))), (.c (.lit (.int .i64 2000)))], .asg 10 (.t 86)])
 (.seq (.seq (.reg [.cpy 87 (.t 10), .bin 88 .eql (.t 87) (.c (.lit (.int .i64 0))), .cpy 89 (.t 88), .guard 89 true (some 90) (.addr 90 (.t 9) 1), .guard 89 true (some 91) (.addr 91 (.t 90) 1), .guard 89 true (some 92) (.load 92 (.t 91) none), .guard 89 true (some 93) (.addr 93 (.t 9) 1), .guard 89 true (some 94) (.addr 94 (.t 93) 0), .guard 89 true (some 95) (.load 95 (.t 94) none), .guard 89 true (some 96) (.bin 96 .add (.t 95) (.c (.lit (.int .i64 2)))), .guard 89 true (some 97) (.bin 97 .gtr (.t 92) (.t 96)), .pick 98 (.t 89) (.t 97) (.c (.lit (.bool false)))])
 (.cond (.t 98) (.reg [.asg 10 (.c (.lit (.int .i64 2)))]) .skip))
 (.seq (.reg [.cpy 99 (.t 10), .bin 100 .neq (.t 99) (.c (.lit (.int .i64 0)))])
 (.cond (.t 100) (.seq (.reg [.cpy 101 (.t 8), .cpy 102 (.t 10), .asg 2 (.c (.lit (.int .i64 3))), .asg 3 (.t 101), .asg 4 (.t 102)])
 .ret) .skip)))))))
 (.reg [.cpy 68 (.t 8), .bin 69 .add (.t 68) (.c (.lit (.int .i64 1))), .asg 8 (.t 69)]))))))
 (.seq (.seq (.reg [.addr 103 (.t 1) 3, .load 104 (.t 103) none, .call 105 52 [(.t 104), (.c (.lit (.int .i64 1))), (.c (.lit (.int .i64 5)))], .not 106 (.t 105)])
 (.cond (.t 106) (.seq (.reg [.asg 2 (.c (.lit (.int .i64 4))), .asg 3 (.c (.lit (.int .i64 0))), .asg 4 (.c (.lit (.int .i64 7)))])
 .ret) .skip))
 (.seq (.seq (.reg [.addr 107 (.t 1) 4, .load 108 (.t 107) none, .len 109 (.t 108), .bin 110 .gtr (.t 109) (.c (.lit (.int .i64 8)))])
 (.cond (.t 110) (.seq (.reg [.asg 2 (.c (.lit (.int .i64 5))), .asg 3 (.c (.lit (.int .i64 0))), .asg 4 (.c (.lit (.int .i64 3)))])
 .ret) .skip))
 (.seq (.seq (.reg [.asg 11 (.c (.lit (.int .i64 0)))])
 (.block 4 (.loop (.seq (.seq (.reg [.cpy 111 (.t 11), .addr 112 (.t 1) 4, .load 113 (.t 112) none, .len 114 (.t 113), .bin 115 .lss (.t 111) (.t 114)])
 (.cond (.t 115) .skip (.exit 4)))
 (.seq (.block 5 (.seq (.reg [.addr 118 (.t 1) 4, .load 119 (.t 118) none, .cpy 120 (.t 11), .idxS 121 (.t 119) (.t 120) 2, .addr 122 (.t 121) 0, .load 123 (.t 122) none, .addr 124 (.t 1) 3, .load 125 (.t 124) none, .bin 126 .sub (.t 125) (.c (.lit (.int .i64 1))), .call 127 52 [(.t 123), (.c (.lit (.int .i64 0))), (.t 126)], .not 128 (.t 127), .cpy 129 (.t 128), .guard 129 false (some 130) (.addr 130 (.t 1) 4), .guard 129 false (some 131) (.load 131 (.t 130) none), .guard 129 false (some 132) (.cpy 132 (.t 11)), .guard 129 false (some 133) (.idxS 133 (.t 131) (.t 132) 2), .guard 129 false (some 134) (.addr 134 (.t 133) 1), .guard 129 false (some 135) (.load 135 (.t 134) none), .guard 129 false (some 136) (.addr 136 (.t 1) 1), .guard 129 false (some 137) (.load 137 (.t 136) none), .guard 129 false (some 138) (.len 138 (.t 137)), .guard 129 false (some 139) (.bin 139 .sub (.t 138) (.c (.lit (.int .i64 1)))), .guard 129 false (some 140) (.call 140 52 [(.t 135), (.c (.lit (.int .i64 0))), (.t 139)]), .guard 129 false (some 141) (.not 141 (.t 140)), .pick 142 (.t 129) (.c (.lit (.bool true))) (.t 141)])
 (.cond (.t 142) (.seq (.reg [.cpy 143 (.t 11), .asg 2 (.c (.lit (.int .i64 5))), .asg 3 (.t 143), .asg 4 (.c (.lit (.int .i64 4)))])
 .ret) .skip)))
 (.reg [.cpy 116 (.t 11), .bin 117 .add (.t 116) (.c (.lit (.int .i64 1))), .asg 11 (.t 117)]))))))
 (.seq (.reg [.asg 2 (.c (.lit (.int .i64 0))), .asg 3 (.c (.lit (.int .i64 0))), .asg 4 (.c (.lit (.int .i64 0)))])
 .ret)))))))))))
def r16 : List MRes := [.tmp 2, .tmp 3, .tmp 4]
theorem tr16 : Try.f16.body.bind (trC Try.prog ann16 Try.f16.ntmps) = some m16 := by kernel_rfl
theorem rs16 : trRes Try.prog Try.f16.results.toList = some r16 := by kernel_rfl
theorem fn16 : isFunc Try.prog 16 = true := by kernel_rfl

/- duodecimo/duodecimoref06.Orders -/
/- duodecimo/duodecimoref06.Same -/
def ann19 : Ann := { muts := [], nilsz := [], oid := [], frz := [], zero := [], ord := [(6, [0, 1, 2, 3, 4, 5, 6, 7, 8, 9])], ap := [], own := [], yl := [], fz := [], imm := [], ic := [], cl := [], ylL := [], rl := [] }
def m19 : MCode := (.seq (.reg [.asg 4 (.c (.lit (.bool false)))])
 (.seq (.seq (.reg [.cpy 6 (.t 0), .len 7 (.t 6), .cpy 8 (.t 1), .len 9 (.t 8), .bin 10 .neq (.t 7) (.t 9)])
 (.cond (.t 10) (.seq (.reg [.asg 4 (.c (.lit (.bool false)))])
 .ret) .skip))
 (.seq (.seq (.reg [.asg 5 (.c (.lit (.int .i64 0)))])
 (.block 0 (.loop (.seq (.seq (.reg [.cpy 11 (.t 5), .cpy 12 (.t 0), .len 13 (.t 12), .bin 14 .lss (.t 11) (.t 13)])
 (.cond (.t 14) .skip (.exit 0)))
 (.seq (.block 1 (.seq (.reg [.cpy 17 (.t 0), .cpy 18 (.t 5), .idxS 19 (.t 17) (.t 18) 1, .load 20 (.t 19) none, .cpy 21 (.t 1), .cpy 22 (.t 5), .idxS 23 (.t 21) (.t 22) 1, .load 24 (.t 23) none, .call 25 25 [(.t 20), (.t 24)], .not 26 (.t 25)])
 (.cond (.t 26) (.seq (.reg [.asg 4 (.c (.lit (.bool false)))])
 .ret) .skip)))
 (.reg [.cpy 15 (.t 5), .bin 16 .add (.t 15) (.c (.lit (.int .i64 1))), .asg 5 (.t 16)]))))))
 (.seq (.reg [.asg 4 (.c (.lit (.bool true)))])
 .ret))))
def r19 : List MRes := [.tmp 4]
theorem tr19 : Try.f19.body.bind (trC Try.prog ann19 Try.f19.ntmps) = some m19 := by kernel_rfl
theorem rs19 : trRes Try.prog Try.f19.results.toList = some r19 := by kernel_rfl
theorem fn19 : isFunc Try.prog 19 = true := by kernel_rfl

/- duodecimo/duodecimoref06.Before -/
/- duodecimo/duodecimoref06.Stocks -/
/- duodecimo/duodecimoref01.Ints -/
def ann25 : Ann := { muts := [], nilsz := [], oid := [], frz := [], zero := [], ord := [(5, [0, 1, 2, 3, 4, 5, 6, 7, 8, 9])], ap := [], own := [5], yl := [], fz := [], imm := [], ic := [], cl := [], ylL := [], rl := [] }
def m25 : MCode := (.seq (.reg [.asg 4 (.c (.lit (.bool false)))])
 (.seq (.reg [.cpy 7 (.t 0), .len 8 (.t 7), .cpy 9 (.t 1), .len 10 (.t 9), .bin 11 .eql (.t 8) (.t 10), .asg 5 (.t 11)])
 (.seq (.seq (.reg [.asg 6 (.c (.lit (.int .i64 0)))])
 (.block 0 (.loop (.seq (.seq (.reg [.cpy 12 (.t 5), .cpy 13 (.t 12), .guard 13 true (some 14) (.cpy 14 (.t 6)), .guard 13 true (some 15) (.cpy 15 (.t 0)), .guard 13 true (some 16) (.len 16 (.t 15)), .guard 13 true (some 17) (.bin 17 .lss (.t 14) (.t 16)), .pick 18 (.t 13) (.t 17) (.c (.lit (.bool false)))])
 (.cond (.t 18) .skip (.exit 0)))
 (.seq (.block 1 (.reg [.cpy 21 (.t 0), .cpy 22 (.t 6), .idxS 23 (.t 21) (.t 22) 1, .load 24 (.t 23) none, .cpy 25 (.t 1), .cpy 26 (.t 6), .idxS 27 (.t 25) (.t 26) 1, .load 28 (.t 27) none, .bin 29 .eql (.t 24) (.t 28), .asg 5 (.t 29)]))
 (.reg [.cpy 19 (.t 6), .bin 20 .add (.t 19) (.c (.lit (.int .i64 1))), .asg 6 (.t 20)]))))))
 (.seq (.reg [.cpy 30 (.t 5), .asg 4 (.t 30)])
 .ret))))
def r25 : List MRes := [.tmp 4]
theorem tr25 : Try.f25.body.bind (trC Try.prog ann25 Try.f25.ntmps) = some m25 := by kernel_rfl
theorem rs25 : trRes Try.prog Try.f25.results.toList = some r25 := by kernel_rfl
theorem fn25 : isFunc Try.prog 25 = true := by kernel_rfl

/- duodecimo/duodecimoref06.Left -/
def m27 : MCode := (.seq (.reg [.boxI 1 (.t 0) 5, .alloc 2 [(.lit (.int .i64 0)), (.lit (.int .i64 0))], .alloc 3 [(.lit (.int .i64 0)), (.lit (.int .i64 0))], .asg 4 (.c (.lit (.int .i64 0)))])
 (.seq (.reg [.load 14 (.t 1) (some 5), .call 15 16 [(.t 14)], .cpy 13 (.t 15), .ext 16 (.t 13) 0, .ext 17 (.t 13) 1, .ext 18 (.t 13) 2, .asg 5 (.t 16), .asg 6 (.t 17), .asg 7 (.t 18)])
 (.seq (.reg [.load 20 (.t 1) (some 5), .cpy 21 (.t 7), .call 22 57 [(.t 20), (.t 21)], .cpy 19 (.t 22), .ext 23 (.t 19) 0, .ext 24 (.t 19) 1, .asg 8 (.t 23), .asg 7 (.t 24)])
 (.seq (.seq (.reg [.cpy 25 (.t 7), .bin 26 .neq (.t 25) (.c (.lit (.int .i64 0)))])
 (.cond (.t 26) (.seq (.reg [.build 27 [(.lit (.int .i64 0)), (.lit (.int .i64 0))] [], .build 28 [(.lit (.int .i64 0)), (.lit (.int .i64 0))] [], .cpy 29 (.t 7), .store (.t 2) (.t 27) 2 0, .store (.t 3) (.t 28) 2 0, .asg 4 (.t 29)])
 .ret) .skip))
 (.seq (.reg [.addr 30 (.t 1) 0, .load 31 (.t 30) none, .addr 32 (.t 1) 3, .load 33 (.t 32) none, .bin 34 .mul (.t 31) (.t 33), .asg 9 (.t 34)])
 (.seq (.reg [.build 35 [(.lit (.int .i64 0)), (.lit (.int .i64 0))] [(0, 1, (.c (.lit (.int .i64 1))))], .build 36 [(.lit (.int .i64 0)), (.lit (.int .i64 0))] [(0, 1, (.c (.lit (.int .i64 1))))], .alloc 10 [(.lit (.int .i64 0)), (.lit (.int .i64 0))], .alloc 11 [(.lit (.int .i64 0)), (.lit (.int .i64 0))], .store (.t 10) (.t 35) 2 0, .store (.t 11) (.t 36) 2 0])
 (.seq (.seq (.reg [.asg 12 (.c (.lit (.int .i64 0)))])
 (.block 0 (.loop (.seq (.seq (.reg [.cpy 37 (.t 12), .cpy 38 (.t 8), .len 39 (.t 38), .bin 40 .lss (.t 37) (.t 39)])
 (.cond (.t 40) .skip (.exit 0)))
 (.seq (.block 1 (.seq (.reg [.load 43 (.t 10) (some 2), .cpy 44 (.t 8), .cpy 45 (.t 12), .idxS 46 (.t 44) (.t 45) 3, .addr 47 (.t 46) 0, .load 48 (.t 47) none, .call 49 67 [(.t 48)], .cpy 50 (.t 9), .bin 51 .sub (.t 49) (.t 50), .call 52 66 [(.t 43), (.t 51)], .apart [] (.t 10) (.store (.t 10) (.t 52) 2 0)])
 (.reg [.load 53 (.t 11) (some 2), .cpy 54 (.t 8), .cpy 55 (.t 12), .idxS 56 (.t 54) (.t 55) 3, .addr 57 (.t 56) 0, .load 58 (.t 57) none, .cpy 59 (.t 9), .call 60 42 [(.t 58), (.t 59)], .call 61 66 [(.t 53), (.t 60)], .apart [] (.t 11) (.store (.t 11) (.t 61) 2 0)])))
 (.reg [.cpy 41 (.t 12), .bin 42 .add (.t 41) (.c (.lit (.int .i64 1))), .asg 12 (.t 42)]))))))
 (.seq (.reg [.load 62 (.t 10) (some 2), .load 63 (.t 11) (some 2), .apart [(.t 11)] (.t 2) (.store (.t 2) (.t 62) 2 0), .apart [] (.t 3) (.store (.t 3) (.t 63) 2 0), .asg 4 (.c (.lit (.int .i64 0)))])
 .ret))))))))
/- duodecimo/duodecimoref06.Year -/
/- duodecimo/duodecimoref06.Wrong -/
/- duodecimo/duodecimoref06.Ask -/
/- duodecimo/duodecimoref01.Inside -/
/- duodecimo/duodecimoref06.Used -/
/- duodecimo/duodecimoref06.More -/
/- duodecimo/duodecimoref06.At -/
/- duodecimo/duodecimoref06.in -/
def ann52 : Ann := { muts := [], nilsz := [], oid := [], frz := [], zero := [], ord := [], ap := [], own := [], yl := [], fz := [], imm := [], ic := [], cl := [], ylL := [], rl := [] }
def m52 : MCode := (.seq (.reg [.asg 6 (.c (.lit (.bool false)))])
 (.seq (.reg [.cpy 7 (.t 0), .cpy 8 (.t 1), .bin 9 .geq (.t 7) (.t 8), .cpy 10 (.t 9), .guard 10 true (some 11) (.cpy 11 (.t 0)), .guard 10 true (some 12) (.cpy 12 (.t 2)), .guard 10 true (some 13) (.bin 13 .leq (.t 11) (.t 12)), .pick 14 (.t 10) (.t 13) (.c (.lit (.bool false))), .asg 6 (.t 14)])
 .ret))
def r52 : List MRes := [.tmp 6]
theorem tr52 : Try.f52.body.bind (trC Try.prog ann52 Try.f52.ntmps) = some m52 := by kernel_rfl
theorem rs52 : trRes Try.prog Try.f52.results.toList = some r52 := by kernel_rfl
theorem fn52 : isFunc Try.prog 52 = true := by kernel_rfl

/- duodecimo/duodecimoref01.Fresh -/
def ann53 : Ann := { muts := [], nilsz := [], oid := [], frz := [], zero := [], ord := [], ap := [], own := [], yl := [], fz := [], imm := [], ic := [], cl := [], ylL := [], rl := [] }
def m53 : MCode := (.seq (.reg [.asg 4 (.c (.lit (.int .i64 0)))])
 (.seq (.reg [.asg 5 (.c (.lit (.int .i64 0)))])
 (.seq (.seq (.reg [.cpy 6 (.t 1), .cpy 7 (.t 0), .call 8 85 [(.t 6), (.t 7)], .bin 9 .geq (.t 8) (.c (.lit (.int .i64 0)))])
 (.cond (.t 9) (.reg [.asg 5 (.c (.lit (.int .i64 5)))]) .skip))
 (.seq (.seq (.reg [.cpy 10 (.t 0), .call 11 86 [(.t 10)], .not 12 (.t 11)])
 (.cond (.t 12) (.reg [.asg 5 (.c (.lit (.int .i64 6)))]) .skip))
 (.seq (.reg [.cpy 13 (.t 5), .asg 4 (.t 13)])
 .ret)))))
def r53 : List MRes := [.tmp 4]
theorem tr53 : Try.f53.body.bind (trC Try.prog ann53 Try.f53.ntmps) = some m53 := by kernel_rfl
theorem rs53 : trRes Try.prog Try.f53.results.toList = some r53 := by kernel_rfl
theorem fn53 : isFunc Try.prog 53 = true := by kernel_rfl

/- duodecimo/duodecimoref01.Range -/
def ann54 : Ann := { muts := [], nilsz := [], oid := [], frz := [], zero := [], ord := [], ap := [], own := [], yl := [], fz := [], imm := [], ic := [], cl := [], ylL := [], rl := [] }
def m54 : MCode := (.seq (.reg [.boxI 3 (.t 0) 2, .asg 6 (.c (.lit (.int .i64 0)))])
 (.seq (.seq (.reg [.addr 7 (.t 3) 0, .load 8 (.t 7) none, .addr 9 (.t 3) 1, .load 10 (.t 9) none, .minI 11 (.t 8) (.t 10), .cpy 12 (.t 1), .bin 13 .lss (.t 11) (.t 12), .cpy 14 (.t 13), .guard 14 false (some 15) (.addr 15 (.t 3) 0), .guard 14 false (some 16) (.load 16 (.t 15) none), .guard 14 false (some 17) (.addr 17 (.t 3) 1), .guard 14 false (some 18) (.load 18 (.t 17) none), .guard 14 false (some 19) (.maxI 19 (.t 16) (.t 18)), .guard 14 false (some 20) (.cpy 20 (.t 2)), .guard 14 false (some 21) (.bin 21 .gtr (.t 19) (.t 20)), .pick 22 (.t 14) (.c (.lit (.bool true))) (.t 21)])
 (.cond (.t 22) (.seq (.reg [.asg 6 (.c (.lit (.int .i64 7)))])
 .ret) .skip))
 (.seq (.seq (.reg [.addr 23 (.t 3) 1, .load 24 (.t 23) none, .addr 25 (.t 3) 0, .load 26 (.t 25) none, .bin 27 .lss (.t 24) (.t 26)])
 (.cond (.t 27) (.seq (.reg [.asg 6 (.c (.lit (.int .i64 2)))])
 .ret) .skip))
 (.seq (.reg [.asg 6 (.c (.lit (.int .i64 0)))])
 .ret))))
def r54 : List MRes := [.tmp 6]
theorem tr54 : Try.f54.body.bind (trC Try.prog ann54 Try.f54.ntmps) = some m54 := by kernel_rfl
theorem rs54 : trRes Try.prog Try.f54.results.toList = some r54 := by kernel_rfl
theorem fn54 : isFunc Try.prog 54 = true := by kernel_rfl

/- duodecimo/duodecimoref06.some -/
/- duodecimo/duodecimoref06.Ways -/
/- duodecimo/duodecimoref06.Both -/
/- duodecimo/duodecimoref06.with -/
/- duodecimo/duodecimoref06.total -/
def m67 : MCode := (.seq (.reg [.asg 2 (.c (.lit (.int .i64 0)))])
 (.seq (.reg [.asg 3 (.c (.lit (.int .i64 0)))])
 (.seq (.seq (.reg [.asg 4 (.c (.lit (.int .i64 0)))])
 (.block 0 (.loop (.seq (.seq (.reg [.cpy 5 (.t 4), .cpy 6 (.t 0), .len 7 (.t 6), .bin 8 .lss (.t 5) (.t 7)])
 (.cond (.t 8) .skip (.exit 0)))
 (.seq (.block 1 (.reg [.cpy 11 (.t 3), .cpy 12 (.t 0), .cpy 13 (.t 4), .idxS 14 (.t 12) (.t 13) 1, .load 15 (.t 14) none, .bin 16 .add (.t 11) (.t 15), .asg 3 (.t 16)]))
 (.reg [.cpy 9 (.t 4), .bin 10 .add (.t 9) (.c (.lit (.int .i64 1))), .asg 4 (.t 10)]))))))
 (.seq (.reg [.cpy 17 (.t 3), .asg 2 (.t 17)])
 .ret))))
/- duodecimo/duodecimoref06.Latest -/
/- duodecimo/duodecimoref06.Piles -/
/- duodecimo/duodecimoref01.Lists -/
/- duodecimo/duodecimoref06.Off -/
/- duodecimo/duodecimoref06.Worst -/
/- duodecimo/duodecimoref06.All -/
/- duodecimo/duodecimoref06.Places -/
/- duodecimo/duodecimoref01.Has -/
/- duodecimo/duodecimoref01.in -/
/- duodecimo/duodecimoref01.Place -/
def ann85 : Ann := { muts := [], nilsz := [], oid := [], frz := [], zero := [], ord := [], ap := [], own := [], yl := [], fz := [], imm := [], ic := [], cl := [], ylL := [], rl := [] }
def m85 : MCode := (.seq (.reg [.asg 4 (.c (.lit (.int .i64 0)))])
 (.seq (.reg [.cpy 7 (.t 0), .len 8 (.t 7), .bin 9 .sub (.t 8) (.c (.lit (.int .i64 1))), .asg 5 (.t 9)])
 (.seq (.block 0 (.loop (.seq (.seq (.reg [.cpy 10 (.t 5), .bin 11 .geq (.t 10) (.c (.lit (.int .i64 0))), .cpy 12 (.t 11), .guard 12 true (some 13) (.cpy 13 (.t 0)), .guard 12 true (some 14) (.cpy 14 (.t 5)), .guard 12 true (some 15) (.idxS 15 (.t 13) (.t 14) 1), .guard 12 true (some 16) (.load 16 (.t 15) none), .guard 12 true (some 17) (.cpy 17 (.t 1)), .guard 12 true (some 18) (.bin 18 .neq (.t 16) (.t 17)), .pick 19 (.t 12) (.t 18) (.c (.lit (.bool false)))])
 (.cond (.t 19) .skip (.exit 0)))
 (.block 1 (.reg [.cpy 20 (.t 5), .bin 21 .sub (.t 20) (.c (.lit (.int .i64 1))), .asg 5 (.t 21)])))))
 (.seq (.seq (.reg [.asg 6 (.c (.lit (.int .i64 0)))])
 (.block 2 (.loop (.seq (.seq (.reg [.cpy 22 (.t 6), .cpy 23 (.t 5), .bin 24 .lss (.t 22) (.t 23)])
 (.cond (.t 24) .skip (.exit 2)))
 (.seq (.block 3 (.seq (.reg [.cpy 27 (.t 0), .cpy 28 (.t 6), .idxS 29 (.t 27) (.t 28) 1, .load 30 (.t 29) none, .cpy 31 (.t 1), .bin 32 .eql (.t 30) (.t 31)])
 (.cond (.t 32) (.seq (.reg [.cpy 33 (.t 6), .asg 4 (.t 33)])
 .ret) .skip)))
 (.reg [.cpy 25 (.t 6), .bin 26 .add (.t 25) (.c (.lit (.int .i64 1))), .asg 6 (.t 26)]))))))
 (.seq (.reg [.cpy 34 (.t 5), .asg 4 (.t 34)])
 .ret)))))
def r85 : List MRes := [.tmp 4]
theorem tr85 : Try.f85.body.bind (trC Try.prog ann85 Try.f85.ntmps) = some m85 := by kernel_rfl
theorem rs85 : trRes Try.prog Try.f85.results.toList = some r85 := by kernel_rfl
theorem fn85 : isFunc Try.prog 85 = true := by kernel_rfl

/- duodecimo/duodecimoref01.Name -/
def ann86 : Ann := { muts := [], nilsz := [], oid := [], frz := [], zero := [], ord := [], ap := [], own := [], yl := [], fz := [], imm := [], ic := [], cl := [], ylL := [], rl := [] }
def m86 : MCode := (.seq (.reg [.asg 2 (.c (.lit (.bool false)))])
 (.seq (.seq (.reg [.cpy 4 (.t 0), .lenStr 5 (.t 4), .bin 6 .eql (.t 5) (.c (.lit (.int .i64 0))), .cpy 7 (.t 6), .guard 7 false (some 8) (.cpy 8 (.t 0)), .guard 7 false (some 9) (.lenStr 9 (.t 8)), .guard 7 false (some 10) (.bin 10 .gtr (.t 9) (.c (.lit (.int .i64 16)))), .pick 11 (.t 7) (.c (.lit (.bool true))) (.t 10)])
 (.cond (.t 11) (.seq (.reg [.asg 2 (.c (.lit (.bool false)))])
 .ret) .skip))
 (.seq (.seq (.reg [.asg 3 (.c (.lit (.int .i64 0)))])
 (.block 0 (.loop (.seq (.seq (.reg [.cpy 12 (.t 3), .cpy 13 (.t 0), .lenStr 14 (.t 13), .bin 15 .lss (.t 12) (.t 14)])
 (.cond (.t 15) .skip (.exit 0)))
 (.seq (.block 1 (.seq (.reg [.cpy 18 (.t 0), .cpy 19 (.t 3), .idxStr 20 (.t 18) (.t 19), .call 21 98 [(.t 20)], .not 22 (.t 21), .cpy 23 (.t 22), .guard 23 true (some 24) (.cpy 24 (.t 3)), .guard 23 true (some 25) (.bin 25 .eql (.t 24) (.c (.lit (.int .i64 0)))), .guard 23 true (some 26) (.cpy 26 (.t 25)), .guard 26 false (some 27) (.cpy 27 (.t 0)), .guard 26 false (some 28) (.cpy 28 (.t 3)), .guard 26 false (some 29) (.idxStr 29 (.t 27) (.t 28)), .guard 26 false (some 30) (.call 30 99 [(.t 29)]), .guard 26 false (some 31) (.not 31 (.t 30)), .guard 26 false (some 32) (.cpy 32 (.t 31)), .guard 32 true (some 33) (.cpy 33 (.t 0)), .guard 32 true (some 34) (.cpy 34 (.t 3)), .guard 32 true (some 35) (.idxStr 35 (.t 33) (.t 34)), .guard 32 true (some 36) (.bin 36 .neq (.t 35) (.c (.lit (.int .u8 46)))), .guard 26 false (some 37) (.pick 37 (.t 32) (.t 36) (.c (.lit (.bool false)))), .guard 23 true (some 38) (.pick 38 (.t 26) (.c (.lit (.bool true))) (.t 37)), .pick 39 (.t 23) (.t 38) (.c (.lit (.bool false)))])
 (.cond (.t 39) (.seq (.reg [.asg 2 (.c (.lit (.bool false)))])
 .ret) .skip)))
 (.reg [.cpy 16 (.t 3), .bin 17 .add (.t 16) (.c (.lit (.int .i64 1))), .asg 3 (.t 17)]))))))
 (.seq (.reg [.asg 2 (.c (.lit (.bool true)))])
 .ret))))
def r86 : List MRes := [.tmp 2]
theorem tr86 : Try.f86.body.bind (trC Try.prog ann86 Try.f86.ntmps) = some m86 := by kernel_rfl
theorem rs86 : trRes Try.prog Try.f86.results.toList = some r86 := by kernel_rfl
theorem fn86 : isFunc Try.prog 86 = true := by kernel_rfl

/- duodecimo/duodecimoref06.Truths -/
/- duodecimo/duodecimoref06.Agrees -/
/- duodecimo/duodecimoref01.letter -/
def ann98 : Ann := { muts := [], nilsz := [], oid := [], frz := [], zero := [], ord := [], ap := [], own := [], yl := [], fz := [], imm := [], ic := [], cl := [], ylL := [], rl := [] }
def m98 : MCode := (.seq (.reg [.asg 2 (.c (.lit (.bool false)))])
 (.seq (.reg [.cpy 3 (.t 0), .bin 4 .geq (.t 3) (.c (.lit (.int .u8 97))), .cpy 5 (.t 4), .guard 5 true (some 6) (.cpy 6 (.t 0)), .guard 5 true (some 7) (.bin 7 .leq (.t 6) (.c (.lit (.int .u8 122)))), .pick 8 (.t 5) (.t 7) (.c (.lit (.bool false))), .asg 2 (.t 8)])
 .ret))
def r98 : List MRes := [.tmp 2]
theorem tr98 : Try.f98.body.bind (trC Try.prog ann98 Try.f98.ntmps) = some m98 := by kernel_rfl
theorem rs98 : trRes Try.prog Try.f98.results.toList = some r98 := by kernel_rfl
theorem fn98 : isFunc Try.prog 98 = true := by kernel_rfl

/- duodecimo/duodecimoref01.digit -/
def ann99 : Ann := { muts := [], nilsz := [], oid := [], frz := [], zero := [], ord := [], ap := [], own := [], yl := [], fz := [], imm := [], ic := [], cl := [], ylL := [], rl := [] }
def m99 : MCode := (.seq (.reg [.asg 2 (.c (.lit (.bool false)))])
 (.seq (.reg [.cpy 3 (.t 0), .bin 4 .geq (.t 3) (.c (.lit (.int .u8 48))), .cpy 5 (.t 4), .guard 5 true (some 6) (.cpy 6 (.t 0)), .guard 5 true (some 7) (.bin 7 .leq (.t 6) (.c (.lit (.int .u8 57)))), .pick 8 (.t 5) (.t 7) (.c (.lit (.bool false))), .asg 2 (.t 8)])
 .ret))
def r99 : List MRes := [.tmp 2]
theorem tr99 : Try.f99.body.bind (trC Try.prog ann99 Try.f99.ntmps) = some m99 := by kernel_rfl
theorem rs99 : trRes Try.prog Try.f99.results.toList = some r99 := by kernel_rfl
theorem fn99 : isFunc Try.prog 99 = true := by kernel_rfl
end Go.Proofs.Ytbcfmfiolbcclaa

namespace Go.Proofs.Ytbcfmfiolbcclaa
open Go.Avm

/- math/bits.Len64 -/
def ann104 : Ann := { muts := [], nilsz := [], oid := [], frz := [], zero := [], ord := [], ap := [], own := [], yl := [], fz := [], imm := [], ic := [], cl := [], ylL := [], rl := [] }
def m104 : MCode := (.seq (.reg [.asg 2 (.c (.lit (.int .i64 0)))])
 (.seq (.seq (.reg [.cpy 3 (.t 0), .bin 4 .geq (.t 3) (.c (.lit (.int .u64 4294967296)))])
 (.cond (.t 4) (.seq (.reg [.cpy 5 (.t 0), .bin 6 .shr (.t 5) (.c (.lit (.int .u64 32))), .asg 0 (.t 6)])
 (.reg [.asg 2 (.c (.lit (.int .i64 32)))])) .skip))
 (.seq (.seq (.reg [.cpy 7 (.t 0), .bin 8 .geq (.t 7) (.c (.lit (.int .u64 65536)))])
 (.cond (.t 8) (.seq (.reg [.cpy 9 (.t 0), .bin 10 .shr (.t 9) (.c (.lit (.int .u64 16))), .asg 0 (.t 10)])
 (.reg [.cpy 11 (.t 2), .bin 12 .add (.t 11) (.c (.lit (.int .i64 16))), .asg 2 (.t 12)])) .skip))
 (.seq (.seq (.reg [.cpy 13 (.t 0), .bin 14 .geq (.t 13) (.c (.lit (.int .u64 256)))])
 (.cond (.t 14) (.seq (.reg [.cpy 15 (.t 0), .bin 16 .shr (.t 15) (.c (.lit (.int .u64 8))), .asg 0 (.t 16)])
 (.reg [.cpy 17 (.t 2), .bin 18 .add (.t 17) (.c (.lit (.int .i64 8))), .asg 2 (.t 18)])) .skip))
 (.seq (.reg [.cpy 19 (.t 2), .cpy 20 (.t 0), .conv 21 .u8 (.t 20), .idxStr 22 (.c (.lit (.string ⟨#[0, 1, 2, 2, 3, 3, 3, 3, 4, 4, 4, 4, 4, 4, 4, 4, 5, 5, 5, 5, 5, 5, 5, 5, 5, 5, 5, 5, 5, 5, 5, 5, 6, 6, 6, 6, 6, 6, 6, 6, 6, 6, 6, 6, 6, 6, 6, 6, 6, 6, 6, 6, 6, 6, 6, 6, 6, 6, 6, 6, 6, 6, 6, 6, 7, 7, 7, 7, 7, 7, 7, 7, 7, 7, 7, 7, 7, 7, 7, 7, 7, 7, 7, 7, 7, 7, 7, 7, 7, 7, 7, 7, 7, 7, 7, 7, 7, 7, 7, 7, 7, 7, 7, 7, 7, 7, 7, 7, 7, 7, 7, 7, 7, 7, 7, 7, 7, 7, 7, 7, 7, 7, 7, 7, 7, 7, 7, 7, 8, 8, 8, 8, 8, 8, 8, 8, 8, 8, 8, 8, 8, 8, 8, 8, 8, 8, 8, 8, 8, 8, 8, 8, 8, 8, 8, 8, 8, 8, 8, 8, 8, 8, 8, 8, 8, 8, 8, 8, 8, 8, 8, 8, 8, 8, 8, 8, 8, 8, 8, 8, 8, 8, 8, 8, 8, 8, 8, 8, 8, 8, 8, 8, 8, 8, 8, 8, 8, 8, 8, 8, 8, 8, 8, 8, 8, 8, 8, 8, 8, 8, 8, 8, 8, 8, 8, 8, 8, 8, 8, 8, 8, 8, 8, 8, 8, 8, 8, 8, 8, 8, 8, 8, 8, 8, 8, 8, 8, 8, 8, 8, 8, 8, 8, 8, 8, 8, 8, 8, 8, 8, 8, 8, 8, 8, 8, 8]⟩))) (.t 21), .conv 23 .i64 (.t 22), .bin 24 .add (.t 19) (.t 23), .asg 2 (.t 24)])
 .ret)))))
def r104 : List MRes := [.tmp 2]
theorem tr104 : Try.f104.body.bind (trC Try.prog ann104 Try.f104.ntmps) = some m104 := by kernel_rfl
theorem rs104 : trRes Try.prog Try.f104.results.toList = some r104 := by kernel_rfl
theorem fn104 : isFunc Try.prog 104 = true := by kernel_rfl

/- math/bits.OnesCount64 -/
def ann106 : Ann := { muts := [], nilsz := [], oid := [], frz := [], zero := [], ord := [], ap := [], own := [], yl := [], fz := [], imm := [], ic := [], cl := [], ylL := [], rl := [] }
def m106 : MCode := (.seq (.reg [.asg 2 (.c (.lit (.int .i64 0)))])
 (.seq (.reg [.cpy 3 (.t 0), .bin 4 .shr (.t 3) (.c (.lit (.int .u64 1))), .bin 5 .and (.t 4) (.c (.lit (.int .u64 6148914691236517205))), .cpy 6 (.t 0), .bin 7 .and (.t 6) (.c (.lit (.int .u64 6148914691236517205))), .bin 8 .add (.t 5) (.t 7), .asg 0 (.t 8)])
 (.seq (.reg [.cpy 9 (.t 0), .bin 10 .shr (.t 9) (.c (.lit (.int .u64 2))), .bin 11 .and (.t 10) (.c (.lit (.int .u64 3689348814741910323))), .cpy 12 (.t 0), .bin 13 .and (.t 12) (.c (.lit (.int .u64 3689348814741910323))), .bin 14 .add (.t 11) (.t 13), .asg 0 (.t 14)])
 (.seq (.reg [.cpy 15 (.t 0), .bin 16 .shr (.t 15) (.c (.lit (.int .u64 4))), .cpy 17 (.t 0), .bin 18 .add (.t 16) (.t 17), .bin 19 .and (.t 18) (.c (.lit (.int .u64 1085102592571150095))), .asg 0 (.t 19)])
 (.seq (.reg [.cpy 20 (.t 0), .cpy 21 (.t 0), .bin 22 .shr (.t 21) (.c (.lit (.int .u64 8))), .bin 23 .add (.t 20) (.t 22), .asg 0 (.t 23)])
 (.seq (.reg [.cpy 24 (.t 0), .cpy 25 (.t 0), .bin 26 .shr (.t 25) (.c (.lit (.int .u64 16))), .bin 27 .add (.t 24) (.t 26), .asg 0 (.t 27)])
 (.seq (.reg [.cpy 28 (.t 0), .cpy 29 (.t 0), .bin 30 .shr (.t 29) (.c (.lit (.int .u64 32))), .bin 31 .add (.t 28) (.t 30), .asg 0 (.t 31)])
 (.seq (.reg [.cpy 32 (.t 0), .conv 33 .i64 (.t 32), .bin 34 .and (.t 33) (.c (.lit (.int .i64 127))), .asg 2 (.t 34)])
 .ret))))))))
def r106 : List MRes := [.tmp 2]
theorem tr106 : Try.f106.body.bind (trC Try.prog ann106 Try.f106.ntmps) = some m106 := by kernel_rfl
theorem rs106 : trRes Try.prog Try.f106.results.toList = some r106 := by kernel_rfl
theorem fn106 : isFunc Try.prog 106 = true := by kernel_rfl

/- math/bits.Len32 -/
def ann103 : Ann := { muts := [], nilsz := [], oid := [], frz := [], zero := [], ord := [], ap := [], own := [], yl := [], fz := [], imm := [], ic := [], cl := [], ylL := [], rl := [] }
def m103 : MCode := (.seq (.reg [.asg 2 (.c (.lit (.int .i64 0)))])
 (.seq (.seq (.reg [.cpy 3 (.t 0), .bin 4 .geq (.t 3) (.c (.lit (.int .u32 65536)))])
 (.cond (.t 4) (.seq (.reg [.cpy 5 (.t 0), .bin 6 .shr (.t 5) (.c (.lit (.int .u64 16))), .asg 0 (.t 6)])
 (.reg [.asg 2 (.c (.lit (.int .i64 16)))])) .skip))
 (.seq (.seq (.reg [.cpy 7 (.t 0), .bin 8 .geq (.t 7) (.c (.lit (.int .u32 256)))])
 (.cond (.t 8) (.seq (.reg [.cpy 9 (.t 0), .bin 10 .shr (.t 9) (.c (.lit (.int .u64 8))), .asg 0 (.t 10)])
 (.reg [.cpy 11 (.t 2), .bin 12 .add (.t 11) (.c (.lit (.int .i64 8))), .asg 2 (.t 12)])) .skip))
 (.seq (.reg [.cpy 13 (.t 2), .cpy 14 (.t 0), .conv 15 .u8 (.t 14), .idxStr 16 (.c (.lit (.string ⟨#[0, 1, 2, 2, 3, 3, 3, 3, 4, 4, 4, 4, 4, 4, 4, 4, 5, 5, 5, 5, 5, 5, 5, 5, 5, 5, 5, 5, 5, 5, 5, 5, 6, 6, 6, 6, 6, 6, 6, 6, 6, 6, 6, 6, 6, 6, 6, 6, 6, 6, 6, 6, 6, 6, 6, 6, 6, 6, 6, 6, 6, 6, 6, 6, 7, 7, 7, 7, 7, 7, 7, 7, 7, 7, 7, 7, 7, 7, 7, 7, 7, 7, 7, 7, 7, 7, 7, 7, 7, 7, 7, 7, 7, 7, 7, 7, 7, 7, 7, 7, 7, 7, 7, 7, 7, 7, 7, 7, 7, 7, 7, 7, 7, 7, 7, 7, 7, 7, 7, 7, 7, 7, 7, 7, 7, 7, 7, 7, 8, 8, 8, 8, 8, 8, 8, 8, 8, 8, 8, 8, 8, 8, 8, 8, 8, 8, 8, 8, 8, 8, 8, 8, 8, 8, 8, 8, 8, 8, 8, 8, 8, 8, 8, 8, 8, 8, 8, 8, 8, 8, 8, 8, 8, 8, 8, 8, 8, 8, 8, 8, 8, 8, 8, 8, 8, 8, 8, 8, 8, 8, 8, 8, 8, 8, 8, 8, 8, 8, 8, 8, 8, 8, 8, 8, 8, 8, 8, 8, 8, 8, 8, 8, 8, 8, 8, 8, 8, 8, 8, 8, 8, 8, 8, 8, 8, 8, 8, 8, 8, 8, 8, 8, 8, 8, 8, 8, 8, 8, 8, 8, 8, 8, 8, 8, 8, 8, 8, 8, 8, 8, 8, 8, 8, 8, 8, 8]⟩))) (.t 15), .conv 17 .i64 (.t 16), .bin 18 .add (.t 13) (.t 17), .asg 2 (.t 18)])
 .ret))))
def r103 : List MRes := [.tmp 2]
theorem tr103 : Try.f103.body.bind (trC Try.prog ann103 Try.f103.ntmps) = some m103 := by kernel_rfl
theorem rs103 : trRes Try.prog Try.f103.results.toList = some r103 := by kernel_rfl
theorem fn103 : isFunc Try.prog 103 = true := by kernel_rfl

/- math/bits.OnesCount32 -/
def ann105 : Ann := { muts := [], nilsz := [], oid := [], frz := [], zero := [], ord := [(1, [0, 1, 2, 3, 4, 5, 6, 7, 8, 9, 10, 11, 12, 13, 14, 15, 16, 17, 18])], ap := [], own := [2], yl := [], fz := [], imm := [], ic := [], cl := [], ylL := [], rl := [] }
def m105 : MCode := (.seq (.reg [.asg 2 (.c (.lit (.int .i64 0)))])
 (.seq (.reg [.cpy 3 (.t 0), .bin 4 .shr (.t 3) (.c (.lit (.int .u64 24))), .idxStr 5 (.c (.lit (.string ⟨#[0, 1, 1, 2, 1, 2, 2, 3, 1, 2, 2, 3, 2, 3, 3, 4, 1, 2, 2, 3, 2, 3, 3, 4, 2, 3, 3, 4, 3, 4, 4, 5, 1, 2, 2, 3, 2, 3, 3, 4, 2, 3, 3, 4, 3, 4, 4, 5, 2, 3, 3, 4, 3, 4, 4, 5, 3, 4, 4, 5, 4, 5, 5, 6, 1, 2, 2, 3, 2, 3, 3, 4, 2, 3, 3, 4, 3, 4, 4, 5, 2, 3, 3, 4, 3, 4, 4, 5, 3, 4, 4, 5, 4, 5, 5, 6, 2, 3, 3, 4, 3, 4, 4, 5, 3, 4, 4, 5, 4, 5, 5, 6, 3, 4, 4, 5, 4, 5, 5, 6, 4, 5, 5, 6, 5, 6, 6, 7, 1, 2, 2, 3, 2, 3, 3, 4, 2, 3, 3, 4, 3, 4, 4, 5, 2, 3, 3, 4, 3, 4, 4, 5, 3, 4, 4, 5, 4, 5, 5, 6, 2, 3, 3, 4, 3, 4, 4, 5, 3, 4, 4, 5, 4, 5, 5, 6, 3, 4, 4, 5, 4, 5, 5, 6, 4, 5, 5, 6, 5, 6, 6, 7, 2, 3, 3, 4, 3, 4, 4, 5, 3, 4, 4, 5, 4, 5, 5, 6, 3, 4, 4, 5, 4, 5, 5, 6, 4, 5, 5, 6, 5, 6, 6, 7, 3, 4, 4, 5, 4, 5, 5, 6, 4, 5, 5, 6, 5, 6, 6, 7, 4, 5, 5, 6, 5, 6, 6, 7, 5, 6, 6, 7, 6, 7, 7, 8]⟩))) (.t 4), .cpy 6 (.t 0), .bin 7 .shr (.t 6) (.c (.lit (.int .u64 16))), .bin 8 .and (.t 7) (.c (.lit (.int .u32 255))), .idxStr 9 (.c (.lit (.string ⟨#[0, 1, 1, 2, 1, 2, 2, 3, 1, 2, 2, 3, 2, 3, 3, 4, 1, 2, 2, 3, 2, 3, 3, 4, 2, 3, 3, 4, 3, 4, 4, 5, 1, 2, 2, 3, 2, 3, 3, 4, 2, 3, 3, 4, 3, 4, 4, 5, 2, 3, 3, 4, 3, 4, 4, 5, 3, 4, 4, 5, 4, 5, 5, 6, 1, 2, 2, 3, 2, 3, 3, 4, 2, 3, 3, 4, 3, 4, 4, 5, 2, 3, 3, 4, 3, 4, 4, 5, 3, 4, 4, 5, 4, 5, 5, 6, 2, 3, 3, 4, 3, 4, 4, 5, 3, 4, 4, 5, 4, 5, 5, 6, 3, 4, 4, 5, 4, 5, 5, 6, 4, 5, 5, 6, 5, 6, 6, 7, 1, 2, 2, 3, 2, 3, 3, 4, 2, 3, 3, 4, 3, 4, 4, 5, 2, 3, 3, 4, 3, 4, 4, 5, 3, 4, 4, 5, 4, 5, 5, 6, 2, 3, 3, 4, 3, 4, 4, 5, 3, 4, 4, 5, 4, 5, 5, 6, 3, 4, 4, 5, 4, 5, 5, 6, 4, 5, 5, 6, 5, 6, 6, 7, 2, 3, 3, 4, 3, 4, 4, 5, 3, 4, 4, 5, 4, 5, 5, 6, 3, 4, 4, 5, 4, 5, 5, 6, 4, 5, 5, 6, 5, 6, 6, 7, 3, 4, 4, 5, 4, 5, 5, 6, 4, 5, 5, 6, 5, 6, 6, 7, 4, 5, 5, 6, 5, 6, 6, 7, 5, 6, 6, 7, 6, 7, 7, 8]⟩))) (.t 8), .bin 10 .add (.t 5) (.t 9), .cpy 11 (.t 0), .bin 12 .shr (.t 11) (.c (.lit (.int .u64 8))), .bin 13 .and (.t 12) (.c (.lit (.int .u32 255))), .idxStr 14 (.c (.lit (.string ⟨#[0, 1, 1, 2, 1, 2, 2, 3, 1, 2, 2, 3, 2, 3, 3, 4, 1, 2, 2, 3, 2, 3, 3, 4, 2, 3, 3, 4, 3, 4, 4, 5, 1, 2, 2, 3, 2, 3, 3, 4, 2, 3, 3, 4, 3, 4, 4, 5, 2, 3, 3, 4, 3, 4, 4, 5, 3, 4, 4, 5, 4, 5, 5, 6, 1, 2, 2, 3, 2, 3, 3, 4, 2, 3, 3, 4, 3, 4, 4, 5, 2, 3, 3, 4, 3, 4, 4, 5, 3, 4, 4, 5, 4, 5, 5, 6, 2, 3, 3, 4, 3, 4, 4, 5, 3, 4, 4, 5, 4, 5, 5, 6, 3, 4, 4, 5, 4, 5, 5, 6, 4, 5, 5, 6, 5, 6, 6, 7, 1, 2, 2, 3, 2, 3, 3, 4, 2, 3, 3, 4, 3, 4, 4, 5, 2, 3, 3, 4, 3, 4, 4, 5, 3, 4, 4, 5, 4, 5, 5, 6, 2, 3, 3, 4, 3, 4, 4, 5, 3, 4, 4, 5, 4, 5, 5, 6, 3, 4, 4, 5, 4, 5, 5, 6, 4, 5, 5, 6, 5, 6, 6, 7, 2, 3, 3, 4, 3, 4, 4, 5, 3, 4, 4, 5, 4, 5, 5, 6, 3, 4, 4, 5, 4, 5, 5, 6, 4, 5, 5, 6, 5, 6, 6, 7, 3, 4, 4, 5, 4, 5, 5, 6, 4, 5, 5, 6, 5, 6, 6, 7, 4, 5, 5, 6, 5, 6, 6, 7, 5, 6, 6, 7, 6, 7, 7, 8]⟩))) (.t 13), .bin 15 .add (.t 10) (.t 14), .cpy 16 (.t 0), .bin 17 .and (.t 16) (.c (.lit (.int .u32 255))), .idxStr 18 (.c (.lit (.string ⟨#[0, 1, 1, 2, 1, 2, 2, 3, 1, 2, 2, 3, 2, 3, 3, 4, 1, 2, 2, 3, 2, 3, 3, 4, 2, 3, 3, 4, 3, 4, 4, 5, 1, 2, 2, 3, 2, 3, 3, 4, 2, 3, 3, 4, 3, 4, 4, 5, 2, 3, 3, 4, 3, 4, 4, 5, 3, 4, 4, 5, 4, 5, 5, 6, 1, 2, 2, 3, 2, 3, 3, 4, 2, 3, 3, 4, 3, 4, 4, 5, 2, 3, 3, 4, 3, 4, 4, 5, 3, 4, 4, 5, 4, 5, 5, 6, 2, 3, 3, 4, 3, 4, 4, 5, 3, 4, 4, 5, 4, 5, 5, 6, 3, 4, 4, 5, 4, 5, 5, 6, 4, 5, 5, 6, 5, 6, 6, 7, 1, 2, 2, 3, 2, 3, 3, 4, 2, 3, 3, 4, 3, 4, 4, 5, 2, 3, 3, 4, 3, 4, 4, 5, 3, 4, 4, 5, 4, 5, 5, 6, 2, 3, 3, 4, 3, 4, 4, 5, 3, 4, 4, 5, 4, 5, 5, 6, 3, 4, 4, 5, 4, 5, 5, 6, 4, 5, 5, 6, 5, 6, 6, 7, 2, 3, 3, 4, 3, 4, 4, 5, 3, 4, 4, 5, 4, 5, 5, 6, 3, 4, 4, 5, 4, 5, 5, 6, 4, 5, 5, 6, 5, 6, 6, 7, 3, 4, 4, 5, 4, 5, 5, 6, 4, 5, 5, 6, 5, 6, 6, 7, 4, 5, 5, 6, 5, 6, 6, 7, 5, 6, 6, 7, 6, 7, 7, 8]⟩))) (.t 17), .bin 19 .add (.t 15) (.t 18), .conv 20 .i64 (.t 19), .asg 2 (.t 20)])
 .ret))
def r105 : List MRes := [.tmp 2]
theorem tr105 : Try.f105.body.bind (trC Try.prog ann105 Try.f105.ntmps) = some m105 := by kernel_rfl
theorem rs105 : trRes Try.prog Try.f105.results.toList = some r105 := by kernel_rfl
theorem fn105 : isFunc Try.prog 105 = true := by kernel_rfl
end Go.Proofs.Ytbcfmfiolbcclaa

