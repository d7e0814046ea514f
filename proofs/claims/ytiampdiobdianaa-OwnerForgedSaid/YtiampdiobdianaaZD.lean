/- The resolved code of some functions, written by program, each held against the function by the kernel. The resolved code of some functions, written by program, each held against the function by the kernel. The resolved code of some functions, written by program, each held against the function by the kernel. The resolved code of slices.Clone, whose result is written. -/
import Derived.Test.YtiampdiobdianaaProg
import Derived.Test.YtiampdiobdianaaZC
import Derived.KernelRfl
namespace Go.Proofs.Ytiampdiobdianaa
open Go.Avm

/- duodecimo/duodecimoref08.Same -/
def ann20 : Ann := { muts := [], nilsz := [], oid := [], frz := [], zero := [], ord := [(6, [0, 1, 2, 3, 4, 5, 6, 7, 8])], ap := [], own := [], yl := [], fz := [], imm := [], ic := [], cl := [], ylL := [], rl := [] }
def m20 : MCode := (.seq (.reg [.asg 4 (.c (.lit (.bool false)))])
 (.seq (.seq (.reg [.cpy 6 (.t 0), .len 7 (.t 6), .cpy 8 (.t 1), .len 9 (.t 8), .bin 10 .neq (.t 7) (.t 9)])
 (.cond (.t 10) (.seq (.reg [.asg 4 (.c (.lit (.bool false)))])
 .ret) .skip))
 (.seq (.seq (.reg [.asg 5 (.c (.lit (.int .i64 0)))])
 (.block 0 (.loop (.seq (.seq (.reg [.cpy 11 (.t 5), .cpy 12 (.t 0), .len 13 (.t 12), .bin 14 .lss (.t 11) (.t 13)])
 (.cond (.t 14) .skip (.exit 0)))
 (.seq (.block 1 (.seq (.reg [.cpy 17 (.t 0), .cpy 18 (.t 5), .idxS 19 (.t 17) (.t 18) 3, .load 20 (.t 19) (some 3), .cpy 21 (.t 1), .cpy 22 (.t 5), .idxS 23 (.t 21) (.t 22) 3, .load 24 (.t 23) (some 3), .binA 25 true [false, false, false] (.t 20) (.t 24)])
 (.cond (.t 25) (.seq (.reg [.asg 4 (.c (.lit (.bool false)))])
 .ret) .skip)))
 (.reg [.cpy 15 (.t 5), .bin 16 .add (.t 15) (.c (.lit (.int .i64 1))), .asg 5 (.t 16)]))))))
 (.seq (.reg [.asg 4 (.c (.lit (.bool true)))])
 .ret))))
def r20 : List MRes := [.tmp 4]
theorem tr20 : Try.f20.body.bind (trC Try.prog ann20 Try.f20.ntmps) = some m20 := by kernel_rfl
theorem rs20 : trRes Try.prog Try.f20.results.toList = some r20 := by kernel_rfl
theorem fn20 : isFunc Try.prog 20 = true := by kernel_rfl

/- duodecimo/duodecimoref01.Ints -/
def ann30 : Ann := { muts := [], nilsz := [], oid := [], frz := [], zero := [], ord := [(5, [0, 1, 2, 3, 4, 5, 6, 7, 8, 9])], ap := [], own := [5], yl := [], fz := [], imm := [], ic := [], cl := [], ylL := [], rl := [] }
def m30 : MCode := (.seq (.reg [.asg 4 (.c (.lit (.bool false)))])
 (.seq (.reg [.cpy 7 (.t 0), .len 8 (.t 7), .cpy 9 (.t 1), .len 10 (.t 9), .bin 11 .eql (.t 8) (.t 10), .asg 5 (.t 11)])
 (.seq (.seq (.reg [.asg 6 (.c (.lit (.int .i64 0)))])
 (.block 0 (.loop (.seq (.seq (.reg [.cpy 12 (.t 5), .cpy 13 (.t 12), .guard 13 true (some 14) (.cpy 14 (.t 6)), .guard 13 true (some 15) (.cpy 15 (.t 0)), .guard 13 true (some 16) (.len 16 (.t 15)), .guard 13 true (some 17) (.bin 17 .lss (.t 14) (.t 16)), .pick 18 (.t 13) (.t 17) (.c (.lit (.bool false)))])
 (.cond (.t 18) .skip (.exit 0)))
 (.seq (.block 1 (.reg [.cpy 21 (.t 0), .cpy 22 (.t 6), .idxS 23 (.t 21) (.t 22) 1, .load 24 (.t 23) none, .cpy 25 (.t 1), .cpy 26 (.t 6), .idxS 27 (.t 25) (.t 26) 1, .load 28 (.t 27) none, .bin 29 .eql (.t 24) (.t 28), .asg 5 (.t 29)]))
 (.reg [.cpy 19 (.t 6), .bin 20 .add (.t 19) (.c (.lit (.int .i64 1))), .asg 6 (.t 20)]))))))
 (.seq (.reg [.cpy 30 (.t 5), .asg 4 (.t 30)])
 .ret))))
def r30 : List MRes := [.tmp 4]
theorem tr30 : Try.f30.body.bind (trC Try.prog ann30 Try.f30.ntmps) = some m30 := by kernel_rfl
theorem rs30 : trRes Try.prog Try.f30.results.toList = some r30 := by kernel_rfl
theorem fn30 : isFunc Try.prog 30 = true := by kernel_rfl

/- duodecimo/duodecimolaw08.span -/
def ann36 : Ann := { muts := [], nilsz := [], oid := [], frz := [4], zero := [(4, [(.lit (.int .i64 0)), (.lit (.int .i64 0))]), (7, [(.lit (.int .i64 0)), (.lit (.int .i64 0))])], ord := [], ap := [], own := [], yl := [], fz := [], imm := [], ic := [], cl := [], ylL := [], rl := [] }
def m36 : MCode := (.seq (.reg [.alloc 4 [(.lit (.int .i64 0)), (.lit (.int .i64 0))]])
 (.seq (.reg [.cpy 5 (.t 0), .cpy 6 (.t 1), .build 7 [(.lit (.int .i64 0)), (.lit (.int .i64 0))] [(0, 1, (.t 5)), (1, 1, (.t 6))], .storeF 4 (.t 7) 2])
 .ret))
def r36 : List MRes := [.cell 4 (some 2)]
theorem tr36 : Try.f36.body.bind (trC Try.prog ann36 Try.f36.ntmps) = some m36 := by kernel_rfl
theorem rs36 : trRes Try.prog Try.f36.results.toList = some r36 := by kernel_rfl
theorem fn36 : isFunc Try.prog 36 = true := by kernel_rfl

/- duodecimo/duodecimoref01.Before -/
/- duodecimo/duodecimoref01.Inside -/
/- duodecimo/duodecimoref01.Has -/
def ann46 : Ann := { muts := [], nilsz := [], oid := [], frz := [], zero := [], ord := [], ap := [], own := [], yl := [], fz := [], imm := [], ic := [], cl := [], ylL := [], rl := [] }
def m46 : MCode := (.seq (.reg [.asg 4 (.c (.lit (.bool false)))])
 (.seq (.seq (.reg [.asg 5 (.c (.lit (.int .i64 0)))])
 (.block 0 (.loop (.seq (.seq (.reg [.cpy 6 (.t 5), .cpy 7 (.t 0), .len 8 (.t 7), .bin 9 .lss (.t 6) (.t 8)])
 (.cond (.t 9) .skip (.exit 0)))
 (.seq (.block 1 (.seq (.reg [.cpy 12 (.t 0), .cpy 13 (.t 5), .idxS 14 (.t 12) (.t 13) 1, .load 15 (.t 14) none, .cpy 16 (.t 1), .bin 17 .eql (.t 15) (.t 16)])
 (.cond (.t 17) (.seq (.reg [.asg 4 (.c (.lit (.bool true)))])
 .ret) .skip)))
 (.reg [.cpy 10 (.t 5), .bin 11 .add (.t 10) (.c (.lit (.int .i64 1))), .asg 5 (.t 11)]))))))
 (.seq (.reg [.asg 4 (.c (.lit (.bool false)))])
 .ret)))
def r46 : List MRes := [.tmp 4]
theorem tr46 : Try.f46.body.bind (trC Try.prog ann46 Try.f46.ntmps) = some m46 := by kernel_rfl
theorem rs46 : trRes Try.prog Try.f46.results.toList = some r46 := by kernel_rfl
theorem fn46 : isFunc Try.prog 46 = true := by kernel_rfl

/- duodecimo/duodecimolaw08.mark -/
def ann49 : Ann := { muts := [], nilsz := [], oid := [], frz := [8], zero := [(8, [(.lit (.int .i64 0)), (.lit (.int .i64 0)), (.lit (.int .i64 0)), (.lit (.int .i64 0))]), (14, [(.lit (.int .i64 0)), (.lit (.int .i64 0)), (.lit (.int .i64 0)), (.lit (.int .i64 0))])], ord := [], ap := [], own := [], yl := [], fz := [], imm := [], ic := [], cl := [], ylL := [], rl := [] }
def m49 : MCode := (.seq (.reg [.alloc 8 [(.lit (.int .i64 0)), (.lit (.int .i64 0)), (.lit (.int .i64 0)), (.lit (.int .i64 0))]])
 (.seq (.reg [.cpy 9 (.t 0), .cpy 10 (.t 1), .cpy 11 (.t 2), .call 12 36 [(.t 10), (.t 11)], .cpy 13 (.t 3), .build 14 [(.lit (.int .i64 0)), (.lit (.int .i64 0)), (.lit (.int .i64 0)), (.lit (.int .i64 0))] [(0, 1, (.t 9)), (1, 2, (.t 12)), (3, 1, (.t 13))], .storeF 8 (.t 14) 4])
 .ret))
def r49 : List MRes := [.cell 8 (some 4)]
theorem tr49 : Try.f49.body.bind (trC Try.prog ann49 Try.f49.ntmps) = some m49 := by kernel_rfl
theorem rs49 : trRes Try.prog Try.f49.results.toList = some r49 := by kernel_rfl
theorem fn49 : isFunc Try.prog 49 = true := by kernel_rfl

/- duodecimo/owner.outside -/
def ann50 : Ann := { muts := [], nilsz := [], oid := [], frz := [], zero := [], ord := [], ap := [], own := [], yl := [], fz := [], imm := [], ic := [], cl := [], ylL := [], rl := [] }
def m50 : MCode := (.seq (.reg [.boxI 3 (.t 0) 1, .boxI 4 (.t 1) 1, .asg 6 (.c (.lit (.bool false)))])
 (.seq (.reg [.cpy 7 (.t 2), .mkfn 8 (.func 84) [] [(.t 3), (.t 4)], .call 9 83 [(.t 7), (.t 8)], .asg 6 (.t 9)])
 .ret))
def r50 : List MRes := [.tmp 6]
theorem tr50 : Try.f50.body.bind (trC Try.prog ann50 Try.f50.ntmps) = some m50 := by kernel_rfl
theorem rs50 : trRes Try.prog Try.f50.results.toList = some r50 := by kernel_rfl
theorem fn50 : isFunc Try.prog 50 = true := by kernel_rfl

/- duodecimo/quire.Name -/
def ann51 : Ann := { muts := [], nilsz := [], oid := [], frz := [], zero := [], ord := [], ap := [], own := [], yl := [], fz := [], imm := [], ic := [], cl := [], ylL := [], rl := [] }
def m51 : MCode := (.seq (.reg [.asg 2 (.c (.lit (.bool false)))])
 (.seq (.seq (.reg [.cpy 5 (.t 0), .rngS 6 (.t 5)])
 (.block 0 (.loop (.seq (.reg [.nxtS 7 (.t 6), .ext 8 (.t 7) 0])
 (.seq (.cond (.t 8) .skip (.exit 0))
 (.block 1 (.seq (.reg [.ext 9 (.t 7) 1, .ext 10 (.t 7) 2, .asg 3 (.t 9), .asg 4 (.t 10)])
 (.block 2 (.seq (.reg [.cpy 12 (.t 4), .bin 13 .geq (.t 12) (.c (.lit (.int .i32 97))), .cpy 14 (.t 13), .guard 14 true (some 15) (.cpy 15 (.t 4)), .guard 14 true (some 16) (.bin 16 .leq (.t 15) (.c (.lit (.int .i32 122)))), .pick 17 (.t 14) (.t 16) (.c (.lit (.bool false))), .asg 11 (.t 17)])
 (.cond (.t 11) .skip (.seq (.reg [.cpy 19 (.t 3), .bin 20 .gtr (.t 19) (.c (.lit (.int .i64 0))), .cpy 21 (.t 20), .guard 21 true (some 22) (.cpy 22 (.t 4)), .guard 21 true (some 23) (.bin 23 .geq (.t 22) (.c (.lit (.int .i32 48)))), .guard 21 true (some 24) (.cpy 24 (.t 23)), .guard 24 true (some 25) (.cpy 25 (.t 4)), .guard 24 true (some 26) (.bin 26 .leq (.t 25) (.c (.lit (.int .i32 57)))), .guard 21 true (some 27) (.pick 27 (.t 24) (.t 26) (.c (.lit (.bool false)))), .guard 21 true (some 28) (.cpy 28 (.t 27)), .guard 28 false (some 29) (.cpy 29 (.t 4)), .guard 28 false (some 30) (.bin 30 .eql (.t 29) (.c (.lit (.int .i32 46)))), .guard 21 true (some 31) (.pick 31 (.t 28) (.c (.lit (.bool true))) (.t 30)), .pick 32 (.t 21) (.t 31) (.c (.lit (.bool false))), .asg 18 (.t 32)])
 (.cond (.t 18) .skip (.seq (.reg [.asg 2 (.c (.lit (.bool false)))])
 .ret)))))))))))))
 (.seq (.reg [.cpy 33 (.t 0), .bin 34 .neq (.t 33) (.c (.lit (.string ⟨#[]⟩))), .cpy 35 (.t 34), .guard 35 true (some 36) (.cpy 36 (.t 0)), .guard 35 true (some 37) (.lenStr 37 (.t 36)), .guard 35 true (some 38) (.bin 38 .leq (.t 37) (.c (.lit (.int .i64 16)))), .pick 39 (.t 35) (.t 38) (.c (.lit (.bool false))), .asg 2 (.t 39)])
 .ret)))
def r51 : List MRes := [.tmp 2]
theorem tr51 : Try.f51.body.bind (trC Try.prog ann51 Try.f51.ntmps) = some m51 := by kernel_rfl
theorem rs51 : trRes Try.prog Try.f51.results.toList = some r51 := by kernel_rfl
theorem fn51 : isFunc Try.prog 51 = true := by kernel_rfl

/- slices.ContainsFunc[[]duodecimo/api.OwOwner,duodecimo/api.OwOwner] -/
def ann52 : Ann := { muts := [], nilsz := [], oid := [], frz := [], zero := [], ord := [], ap := [], own := [], yl := [], fz := [], imm := [], ic := [], cl := [], ylL := [], rl := [] }
def m52 : MCode := (.seq (.reg [.asg 4 (.c (.lit (.bool false)))])
 (.seq (.reg [.cpy 5 (.t 0), .cpy 6 (.t 1), .call 7 85 [(.t 5), (.t 6)], .bin 8 .geq (.t 7) (.c (.lit (.int .i64 0))), .asg 4 (.t 8)])
 .ret))
def r52 : List MRes := [.tmp 4]
theorem tr52 : Try.f52.body.bind (trC Try.prog ann52 Try.f52.ntmps) = some m52 := by kernel_rfl
theorem rs52 : trRes Try.prog Try.f52.results.toList = some r52 := by kernel_rfl
theorem fn52 : isFunc Try.prog 52 = true := by kernel_rfl

/- duodecimo/owner.Check$1 -/
def ann53 : Ann := { muts := [], nilsz := [], oid := [], frz := [], zero := [], ord := [], ap := [], own := [], yl := [], fz := [], imm := [], ic := [], cl := [], ylL := [], rl := [] }
def m53 : MCode := (.seq (.reg [.boxI 2 (.t 0) 3, .asg 3 (.c (.lit (.bool false)))])
 (.seq (.reg [.addr 4 (.t 2) 0, .load 5 (.t 4) none, .addr 6 (.t 1) 0, .load 7 (.t 6) none, .bin 8 .eql (.t 5) (.t 7), .asg 3 (.t 8)])
 .ret))
def r53 : List MRes := [.tmp 3]
theorem tr53 : Try.f53.body.bind (trC Try.prog ann53 Try.f53.ntmps) = some m53 := by kernel_rfl
theorem rs53 : trRes Try.prog Try.f53.results.toList = some r53 := by kernel_rfl
theorem fn53 : isFunc Try.prog 53 = true := by kernel_rfl

/- duodecimo/duodecimoref08.in -/
def ann54 : Ann := { muts := [], nilsz := [], oid := [], frz := [], zero := [], ord := [], ap := [], own := [], yl := [], fz := [], imm := [], ic := [], cl := [], ylL := [], rl := [] }
def m54 : MCode := (.seq (.reg [.asg 6 (.c (.lit (.bool false)))])
 (.seq (.reg [.cpy 7 (.t 0), .cpy 8 (.t 1), .bin 9 .geq (.t 7) (.t 8), .cpy 10 (.t 9), .guard 10 true (some 11) (.cpy 11 (.t 0)), .guard 10 true (some 12) (.cpy 12 (.t 2)), .guard 10 true (some 13) (.bin 13 .leq (.t 11) (.t 12)), .pick 14 (.t 10) (.t 13) (.c (.lit (.bool false))), .asg 6 (.t 14)])
 .ret))
def r54 : List MRes := [.tmp 6]
theorem tr54 : Try.f54.body.bind (trC Try.prog ann54 Try.f54.ntmps) = some m54 := by kernel_rfl
theorem rs54 : trRes Try.prog Try.f54.results.toList = some r54 := by kernel_rfl
theorem fn54 : isFunc Try.prog 54 = true := by kernel_rfl

/- duodecimo/duodecimoref01.Fresh -/
def ann55 : Ann := { muts := [], nilsz := [], oid := [], frz := [], zero := [], ord := [], ap := [], own := [], yl := [], fz := [], imm := [], ic := [], cl := [], ylL := [], rl := [] }
def m55 : MCode := (.seq (.reg [.asg 4 (.c (.lit (.int .i64 0)))])
 (.seq (.reg [.asg 5 (.c (.lit (.int .i64 0)))])
 (.seq (.seq (.reg [.cpy 6 (.t 1), .cpy 7 (.t 0), .call 8 86 [(.t 6), (.t 7)], .bin 9 .geq (.t 8) (.c (.lit (.int .i64 0)))])
 (.cond (.t 9) (.reg [.asg 5 (.c (.lit (.int .i64 5)))]) .skip))
 (.seq (.seq (.reg [.cpy 10 (.t 0), .call 11 87 [(.t 10)], .not 12 (.t 11)])
 (.cond (.t 12) (.reg [.asg 5 (.c (.lit (.int .i64 6)))]) .skip))
 (.seq (.reg [.cpy 13 (.t 5), .asg 4 (.t 13)])
 .ret)))))
def r55 : List MRes := [.tmp 4]
theorem tr55 : Try.f55.body.bind (trC Try.prog ann55 Try.f55.ntmps) = some m55 := by kernel_rfl
theorem rs55 : trRes Try.prog Try.f55.results.toList = some r55 := by kernel_rfl
theorem fn55 : isFunc Try.prog 55 = true := by kernel_rfl

/- duodecimo/duodecimoref01.Range -/
def ann56 : Ann := { muts := [], nilsz := [], oid := [], frz := [], zero := [], ord := [], ap := [], own := [], yl := [], fz := [], imm := [], ic := [], cl := [], ylL := [], rl := [] }
def m56 : MCode := (.seq (.reg [.boxI 3 (.t 0) 2, .asg 6 (.c (.lit (.int .i64 0)))])
 (.seq (.seq (.reg [.addr 7 (.t 3) 0, .load 8 (.t 7) none, .addr 9 (.t 3) 1, .load 10 (.t 9) none, .minI 11 (.t 8) (.t 10), .cpy 12 (.t 1), .bin 13 .lss (.t 11) (.t 12), .cpy 14 (.t 13), .guard 14 false (some 15) (.addr 15 (.t 3) 0), .guard 14 false (some 16) (.load 16 (.t 15) none), .guard 14 false (some 17) (.addr 17 (.t 3) 1), .guard 14 false (some 18) (.load 18 (.t 17) none), .guard 14 false (some 19) (.maxI 19 (.t 16) (.t 18)), .guard 14 false (some 20) (.cpy 20 (.t 2)), .guard 14 false (some 21) (.bin 21 .gtr (.t 19) (.t 20)), .pick 22 (.t 14) (.c (.lit (.bool true))) (.t 21)])
 (.cond (.t 22) (.seq (.reg [.asg 6 (.c (.lit (.int .i64 7)))])
 .ret) .skip))
 (.seq (.seq (.reg [.addr 23 (.t 3) 1, .load 24 (.t 23) none, .addr 25 (.t 3) 0, .load 26 (.t 25) none, .bin 27 .lss (.t 24) (.t 26)])
 (.cond (.t 27) (.seq (.reg [.asg 6 (.c (.lit (.int .i64 2)))])
 .ret) .skip))
 (.seq (.reg [.asg 6 (.c (.lit (.int .i64 0)))])
 .ret))))
def r56 : List MRes := [.tmp 6]
theorem tr56 : Try.f56.body.bind (trC Try.prog ann56 Try.f56.ntmps) = some m56 := by kernel_rfl
theorem rs56 : trRes Try.prog Try.f56.results.toList = some r56 := by kernel_rfl
theorem fn56 : isFunc Try.prog 56 = true := by kernel_rfl

/- duodecimo/owner.Chain$1 -/
def ann60 : Ann := { muts := [], nilsz := [], oid := [], frz := [], zero := [], ord := [], ap := [], own := [], yl := [], fz := [], imm := [], ic := [], cl := [], ylL := [], rl := [] }
def m60 : MCode := (.seq (.reg [.boxI 1 (.t 0) 2, .asg 2 (.c (.lit (.int .i64 0)))])
 (.seq (.reg [.addr 3 (.t 1) 1, .load 4 (.t 3) none, .asg 2 (.t 4)])
 .ret))
def r60 : List MRes := [.tmp 2]
theorem tr60 : Try.f60.body.bind (trC Try.prog ann60 Try.f60.ntmps) = some m60 := by kernel_rfl
theorem rs60 : trRes Try.prog Try.f60.results.toList = some r60 := by kernel_rfl
theorem fn60 : isFunc Try.prog 60 = true := by kernel_rfl

/- slices.Contains[[]int,int] -/
def ann63 : Ann := { muts := [], nilsz := [], oid := [], frz := [], zero := [], ord := [], ap := [], own := [], yl := [], fz := [], imm := [], ic := [], cl := [], ylL := [], rl := [] }
def m63 : MCode := (.seq (.reg [.asg 4 (.c (.lit (.bool false)))])
 (.seq (.reg [.cpy 5 (.t 0), .cpy 6 (.t 1), .call 7 68 [(.t 5), (.t 6)], .bin 8 .geq (.t 7) (.c (.lit (.int .i64 0))), .asg 4 (.t 8)])
 .ret))
def r63 : List MRes := [.tmp 4]
theorem tr63 : Try.f63.body.bind (trC Try.prog ann63 Try.f63.ntmps) = some m63 := by kernel_rfl
theorem rs63 : trRes Try.prog Try.f63.results.toList = some r63 := by kernel_rfl
theorem fn63 : isFunc Try.prog 63 = true := by kernel_rfl

/- duodecimo/duodecimolaw08.Other -/
def ann66 : Ann := { muts := [], nilsz := [], oid := [], frz := [0], zero := [(0, [(.lit (.int .i64 0)), (.lit (.int .i64 0)), (.slice 3 [] 1002), (.slice 4 [] 1003), (.slice 3 [] 1004)]), (1, [(.lit (.string ⟨#[]⟩)), (.lit (.int .i64 0)), (.lit (.int .i64 0))]), (2, [(.lit (.string ⟨#[]⟩)), (.lit (.int .i64 0)), (.lit (.int .i64 0))]), (3, [(.lit (.int .i64 0)), (.lit (.int .i64 0)), (.slice 3 [] 0), (.slice 4 [] 0), (.slice 3 [] 0)])], ord := [], ap := [], own := [], yl := [], fz := [], imm := [], ic := [], cl := [], ylL := [], rl := [] }
def m66 : MCode := (.seq (.reg [.alloc 0 [(.lit (.int .i64 0)), (.lit (.int .i64 0)), (.slice 3 [] 1002), (.slice 4 [] 1003), (.slice 3 [] 1004)]])
 (.seq (.reg [.build 1 [(.lit (.string ⟨#[]⟩)), (.lit (.int .i64 0)), (.lit (.int .i64 0))] [(0, 1, (.c (.lit (.string ⟨#[100, 111, 116]⟩)))), (1, 1, (.c (.lit (.int .i64 1650)))), (2, 1, (.c (.lit (.int .i64 1690))))], .mkS 2 1 3 [(.lit (.string ⟨#[]⟩)), (.lit (.int .i64 0)), (.lit (.int .i64 0))] [(0, (.t 1))], .build 3 [(.lit (.int .i64 0)), (.lit (.int .i64 0)), (.slice 3 [] 0), (.slice 4 [] 0), (.slice 3 [] 0)] [(0, 1, (.c (.lit (.int .i64 1640)))), (1, 1, (.c (.lit (.int .i64 1700)))), (2, 1, (.t 2))], .storeF 0 (.t 3) 5])
 .ret))
def r66 : List MRes := [.cell 0 (some 5)]
theorem tr66 : Try.f66.body.bind (trC Try.prog ann66 Try.f66.ntmps) = some m66 := by kernel_rfl
theorem rs66 : trRes Try.prog Try.f66.results.toList = some r66 := by kernel_rfl
theorem fn66 : isFunc Try.prog 66 = true := by kernel_rfl

/- duodecimo/duodecimolaw08.hold -/
def ann67 : Ann := { muts := [], nilsz := [], oid := [], frz := [6], zero := [(6, [(.lit (.int .i64 0)), (.lit (.int .i64 0)), (.lit (.int .i64 0))]), (10, [(.lit (.int .i64 0)), (.lit (.int .i64 0)), (.lit (.int .i64 0))])], ord := [], ap := [], own := [], yl := [], fz := [], imm := [], ic := [], cl := [], ylL := [], rl := [] }
def m67 : MCode := (.seq (.reg [.alloc 6 [(.lit (.int .i64 0)), (.lit (.int .i64 0)), (.lit (.int .i64 0))]])
 (.seq (.reg [.cpy 7 (.t 0), .cpy 8 (.t 1), .cpy 9 (.t 2), .build 10 [(.lit (.int .i64 0)), (.lit (.int .i64 0)), (.lit (.int .i64 0))] [(0, 1, (.t 7)), (1, 1, (.t 8)), (2, 1, (.t 9))], .storeF 6 (.t 10) 3])
 .ret))
def r67 : List MRes := [.cell 6 (some 3)]
theorem tr67 : Try.f67.body.bind (trC Try.prog ann67 Try.f67.ntmps) = some m67 := by kernel_rfl
theorem rs67 : trRes Try.prog Try.f67.results.toList = some r67 := by kernel_rfl
theorem fn67 : isFunc Try.prog 67 = true := by kernel_rfl

/- slices.Index[[]int,int] -/
def ann68 : Ann := { muts := [], nilsz := [], oid := [], frz := [], zero := [], ord := [], ap := [], own := [], yl := [], fz := [], imm := [], ic := [], cl := [], ylL := [], rl := [] }
def m68 : MCode := (.seq (.reg [.asg 4 (.c (.lit (.int .i64 0)))])
 (.seq (.seq (.reg [.cpy 6 (.t 0), .len 7 (.t 6), .cpy 8 (.c (.lit (.int .i64 0)))])
 (.block 0 (.loop (.seq (.reg [.bin 9 .lss (.t 8) (.t 7)])
 (.seq (.cond (.t 9) .skip (.exit 0))
 (.seq (.block 1 (.seq (.reg [.cpy 10 (.t 8), .asg 5 (.t 10)])
 (.seq (.reg [.cpy 11 (.t 1), .cpy 12 (.t 0), .cpy 13 (.t 5), .idxS 14 (.t 12) (.t 13) 1, .load 15 (.t 14) none, .bin 16 .eql (.t 11) (.t 15)])
 (.cond (.t 16) (.seq (.reg [.cpy 17 (.t 5), .asg 4 (.t 17)])
 .ret) .skip))))
 (.reg [.bin 18 .add (.t 8) (.c (.lit (.int .i64 1))), .cpy 8 (.t 18)])))))))
 (.seq (.reg [.asg 4 (.c (.lit (.int .i64 (-1))))])
 .ret)))
def r68 : List MRes := [.tmp 4]
theorem tr68 : Try.f68.body.bind (trC Try.prog ann68 Try.f68.ntmps) = some m68 := by kernel_rfl
theorem rs68 : trRes Try.prog Try.f68.results.toList = some r68 := by kernel_rfl
theorem fn68 : isFunc Try.prog 68 = true := by kernel_rfl

/- duodecimo/duodecimoref08.At -/
/- math/bits.OnesCount -/
def ann75 : Ann := { muts := [], nilsz := [], oid := [], frz := [], zero := [], ord := [], ap := [], own := [], yl := [], fz := [], imm := [], ic := [], cl := [], ylL := [], rl := [] }
def m75 : MCode := (.seq (.reg [.asg 2 (.c (.lit (.int .i64 0)))])
 (.seq (.cond (.c (.lit (.bool false))) (.seq (.reg [.cpy 3 (.t 0), .conv 4 .u32 (.t 3), .call 5 96 [(.t 4)], .asg 2 (.t 5)])
 .ret) .skip)
 (.seq (.reg [.cpy 6 (.t 0), .call 7 97 [(.t 6)], .asg 2 (.t 7)])
 .ret)))
def r75 : List MRes := [.tmp 2]
theorem tr75 : Try.f75.body.bind (trC Try.prog ann75 Try.f75.ntmps) = some m75 := by kernel_rfl
theorem rs75 : trRes Try.prog Try.f75.results.toList = some r75 := by kernel_rfl
theorem fn75 : isFunc Try.prog 75 = true := by kernel_rfl

/- duodecimo/owner.list -/
def ann76 : Ann := { muts := [], nilsz := [(2, 1)], oid := [], frz := [], zero := [(17, [(.lit (.int .i64 0))])], ord := [], ap := [], own := [], yl := [], fz := [], imm := [], ic := [], cl := [], ylL := [], rl := [] }
def m76 : MCode := (.seq (.reg [.asgNil 2 1])
 (.seq (.seq (.reg [.cpy 4 (.t 0), .conv 5 .u64 (.t 4), .call 6 98 [(.t 5)], .cpy 7 (.c (.lit (.int .i64 0)))])
 (.block 0 (.loop (.seq (.reg [.bin 8 .lss (.t 7) (.t 6)])
 (.seq (.cond (.t 8) .skip (.exit 0))
 (.seq (.block 1 (.seq (.reg [.cpy 9 (.t 7), .asg 3 (.t 9)])
 (.seq (.reg [.cpy 10 (.t 0), .cpy 11 (.t 3), .bin 12 .shr (.t 10) (.t 11), .bin 13 .and (.t 12) (.c (.lit (.int .i64 1))), .bin 14 .eql (.t 13) (.c (.lit (.int .i64 1)))])
 (.cond (.t 14) (.reg [.cpy 15 (.t 2), .cpy 16 (.t 3), .mkS 17 1 1 [(.lit (.int .i64 0))] [(0, (.t 16))], .app 18 (.t 15) (.t 17) 1 8, .asg 2 (.t 18)]) .skip))))
 (.reg [.bin 19 .add (.t 7) (.c (.lit (.int .i64 1))), .cpy 7 (.t 19)])))))))
 (.seq (.reg [.cpy 20 (.t 2), .asg 2 (.t 20)])
 .ret)))
def r76 : List MRes := [.tmp 2]
theorem tr76 : Try.f76.body.bind (trC Try.prog ann76 Try.f76.ntmps) = some m76 := by kernel_rfl
theorem rs76 : trRes Try.prog Try.f76.results.toList = some r76 := by kernel_rfl
theorem fn76 : isFunc Try.prog 76 = true := by kernel_rfl

/- slices.Compare[[]int,int] -/
def ann77 : Ann := { muts := [], nilsz := [], oid := [], frz := [], zero := [], ord := [], ap := [], own := [], yl := [], fz := [], imm := [], ic := [], cl := [], ylL := [], rl := [] }
def m77 : MCode := (.seq (.reg [.asg 4 (.c (.lit (.int .i64 0)))])
 (.seq (.seq (.reg [.cpy 9 (.t 0), .len 10 (.t 9), .cpy 11 (.c (.lit (.int .i64 0)))])
 (.block 0 (.loop (.seq (.reg [.bin 12 .lss (.t 11) (.t 10)])
 (.seq (.cond (.t 12) .skip (.exit 0))
 (.seq (.block 1 (.seq (.reg [.cpy 13 (.t 11), .idxS 14 (.t 9) (.t 11) 1, .load 15 (.t 14) none, .asg 5 (.t 13), .asg 6 (.t 15)])
 (.seq (.seq (.reg [.cpy 16 (.t 5), .cpy 17 (.t 1), .len 18 (.t 17), .bin 19 .geq (.t 16) (.t 18)])
 (.cond (.t 19) (.seq (.reg [.asg 4 (.c (.lit (.int .i64 1)))])
 .ret) .skip))
 (.seq (.reg [.cpy 20 (.t 1), .cpy 21 (.t 5), .idxS 22 (.t 20) (.t 21) 1, .load 23 (.t 22) none, .asg 7 (.t 23)])
 (.seq (.reg [.cpy 24 (.t 6), .cpy 25 (.t 7), .call 26 99 [(.t 24), (.t 25)], .asg 8 (.t 26)])
 (.seq (.reg [.cpy 27 (.t 8), .bin 28 .neq (.t 27) (.c (.lit (.int .i64 0)))])
 (.cond (.t 28) (.seq (.reg [.cpy 29 (.t 8), .asg 4 (.t 29)])
 .ret) .skip)))))))
 (.reg [.bin 30 .add (.t 11) (.c (.lit (.int .i64 1))), .cpy 11 (.t 30)])))))))
 (.seq (.seq (.reg [.cpy 31 (.t 0), .len 32 (.t 31), .cpy 33 (.t 1), .len 34 (.t 33), .bin 35 .lss (.t 32) (.t 34)])
 (.cond (.t 35) (.seq (.reg [.asg 4 (.c (.lit (.int .i64 (-1))))])
 .ret) .skip))
 (.seq (.reg [.asg 4 (.c (.lit (.int .i64 0)))])
 .ret))))
def r77 : List MRes := [.tmp 4]
theorem tr77 : Try.f77.body.bind (trC Try.prog ann77 Try.f77.ntmps) = some m77 := by kernel_rfl
theorem rs77 : trRes Try.prog Try.f77.results.toList = some r77 := by kernel_rfl
theorem fn77 : isFunc Try.prog 77 = true := by kernel_rfl

/- duodecimo/duodecimoref01.Lists -/
/- duodecimo/duodecimolaw08.turn -/
def ann81 : Ann := { muts := [], nilsz := [], oid := [], frz := [], zero := [], ord := [], ap := [], own := [], yl := [], fz := [], imm := [], ic := [], cl := [], ylL := [], rl := [] }
def m81 : MCode := (.seq (.reg [.asg 4 (.c (.lit (.int .i64 0)))])
 (.seq (.seq (.reg [.cpy 5 (.t 0), .len 6 (.t 5), .bin 7 .eql (.t 6) (.c (.lit (.int .i64 0)))])
 (.cond (.t 7) (.seq (.reg [.asg 4 (.c (.lit (.int .i64 0)))])
 .ret) .skip))
 (.seq (.reg [.cpy 8 (.t 0), .cpy 9 (.t 1), .cpy 10 (.t 0), .len 11 (.t 10), .bin 12 .rem (.t 9) (.t 11), .idxS 13 (.t 8) (.t 12) 1, .load 14 (.t 13) none, .conv 15 .i64 (.t 14), .asg 4 (.t 15)])
 .ret)))
def r81 : List MRes := [.tmp 4]
theorem tr81 : Try.f81.body.bind (trC Try.prog ann81 Try.f81.ntmps) = some m81 := by kernel_rfl
theorem rs81 : trRes Try.prog Try.f81.results.toList = some r81 := by kernel_rfl
theorem fn81 : isFunc Try.prog 81 = true := by kernel_rfl

/- duodecimo/duodecimoref01.in -/
/- slices.ContainsFunc[[]int,int] -/
def ann83 : Ann := { muts := [], nilsz := [], oid := [], frz := [], zero := [], ord := [], ap := [], own := [], yl := [], fz := [], imm := [], ic := [], cl := [], ylL := [], rl := [] }
def m83 : MCode := (.seq (.reg [.asg 4 (.c (.lit (.bool false)))])
 (.seq (.reg [.cpy 5 (.t 0), .cpy 6 (.t 1), .call 7 100 [(.t 5), (.t 6)], .bin 8 .geq (.t 7) (.c (.lit (.int .i64 0))), .asg 4 (.t 8)])
 .ret))
def r83 : List MRes := [.tmp 4]
theorem tr83 : Try.f83.body.bind (trC Try.prog ann83 Try.f83.ntmps) = some m83 := by kernel_rfl
theorem rs83 : trRes Try.prog Try.f83.results.toList = some r83 := by kernel_rfl
theorem fn83 : isFunc Try.prog 83 = true := by kernel_rfl

/- duodecimo/owner.outside$1 -/
def ann84 : Ann := { muts := [], nilsz := [], oid := [], frz := [], zero := [], ord := [], ap := [], own := [], yl := [], fz := [], imm := [], ic := [], cl := [], ylL := [], rl := [] }
def m84 : MCode := (.seq (.reg [.asg 4 (.c (.lit (.bool false)))])
 (.seq (.reg [.cpy 5 (.t 0), .load 6 (.t 1) none, .bin 7 .lss (.t 5) (.t 6), .cpy 8 (.t 7), .guard 8 false (some 9) (.cpy 9 (.t 0)), .guard 8 false (some 10) (.load 10 (.t 2) none), .guard 8 false (some 11) (.bin 11 .gtr (.t 9) (.t 10)), .pick 12 (.t 8) (.c (.lit (.bool true))) (.t 11), .asg 4 (.t 12)])
 .ret))
def r84 : List MRes := [.tmp 4]
theorem tr84 : Try.f84.body.bind (trC Try.prog ann84 Try.f84.ntmps) = some m84 := by kernel_rfl
theorem rs84 : trRes Try.prog Try.f84.results.toList = some r84 := by kernel_rfl
theorem fn84 : isFunc Try.prog 84 = true := by kernel_rfl

/- slices.IndexFunc[[]duodecimo/api.OwOwner,duodecimo/api.OwOwner] -/
def ann85 : Ann := { muts := [], nilsz := [], oid := [], frz := [], zero := [], ord := [], ap := [], own := [], yl := [], fz := [], imm := [], ic := [], cl := [], ylL := [], rl := [] }
def m85 : MCode := (.seq (.reg [.asg 4 (.c (.lit (.int .i64 0)))])
 (.seq (.seq (.reg [.cpy 6 (.t 0), .len 7 (.t 6), .cpy 8 (.c (.lit (.int .i64 0)))])
 (.block 0 (.loop (.seq (.reg [.bin 9 .lss (.t 8) (.t 7)])
 (.seq (.cond (.t 9) .skip (.exit 0))
 (.seq (.block 1 (.seq (.reg [.cpy 10 (.t 8), .asg 5 (.t 10)])
 (.seq (.reg [.cpy 11 (.t 1), .cpy 12 (.t 0), .cpy 13 (.t 5), .idxS 14 (.t 12) (.t 13) 3, .load 15 (.t 14) (some 3), .callv 16 (.t 11) [(.t 15)]])
 (.cond (.t 16) (.seq (.reg [.cpy 17 (.t 5), .asg 4 (.t 17)])
 .ret) .skip))))
 (.reg [.bin 18 .add (.t 8) (.c (.lit (.int .i64 1))), .cpy 8 (.t 18)])))))))
 (.seq (.reg [.asg 4 (.c (.lit (.int .i64 (-1))))])
 .ret)))
def r85 : List MRes := [.tmp 4]
theorem tr85 : Try.f85.body.bind (trC Try.prog ann85 Try.f85.ntmps) = some m85 := by kernel_rfl
theorem rs85 : trRes Try.prog Try.f85.results.toList = some r85 := by kernel_rfl
theorem fn85 : isFunc Try.prog 85 = true := by kernel_rfl

/- duodecimo/duodecimoref01.Place -/
def ann86 : Ann := { muts := [], nilsz := [], oid := [], frz := [], zero := [], ord := [], ap := [], own := [], yl := [], fz := [], imm := [], ic := [], cl := [], ylL := [], rl := [] }
def m86 : MCode := (.seq (.reg [.asg 4 (.c (.lit (.int .i64 0)))])
 (.seq (.reg [.cpy 7 (.t 0), .len 8 (.t 7), .bin 9 .sub (.t 8) (.c (.lit (.int .i64 1))), .asg 5 (.t 9)])
 (.seq (.block 0 (.loop (.seq (.seq (.reg [.cpy 10 (.t 5), .bin 11 .geq (.t 10) (.c (.lit (.int .i64 0))), .cpy 12 (.t 11), .guard 12 true (some 13) (.cpy 13 (.t 0)), .guard 12 true (some 14) (.cpy 14 (.t 5)), .guard 12 true (some 15) (.idxS 15 (.t 13) (.t 14) 1), .guard 12 true (some 16) (.load 16 (.t 15) none), .guard 12 true (some 17) (.cpy 17 (.t 1)), .guard 12 true (some 18) (.bin 18 .neq (.t 16) (.t 17)), .pick 19 (.t 12) (.t 18) (.c (.lit (.bool false)))])
 (.cond (.t 19) .skip (.exit 0)))
 (.block 1 (.reg [.cpy 20 (.t 5), .bin 21 .sub (.t 20) (.c (.lit (.int .i64 1))), .asg 5 (.t 21)])))))
 (.seq (.seq (.reg [.asg 6 (.c (.lit (.int .i64 0)))])
 (.block 2 (.loop (.seq (.seq (.reg [.cpy 22 (.t 6), .cpy 23 (.t 5), .bin 24 .lss (.t 22) (.t 23)])
 (.cond (.t 24) .skip (.exit 2)))
 (.seq (.block 3 (.seq (.reg [.cpy 27 (.t 0), .cpy 28 (.t 6), .idxS 29 (.t 27) (.t 28) 1, .load 30 (.t 29) none, .cpy 31 (.t 1), .bin 32 .eql (.t 30) (.t 31)])
 (.cond (.t 32) (.seq (.reg [.cpy 33 (.t 6), .asg 4 (.t 33)])
 .ret) .skip)))
 (.reg [.cpy 25 (.t 6), .bin 26 .add (.t 25) (.c (.lit (.int .i64 1))), .asg 6 (.t 26)]))))))
 (.seq (.reg [.cpy 34 (.t 5), .asg 4 (.t 34)])
 .ret)))))
def r86 : List MRes := [.tmp 4]
theorem tr86 : Try.f86.body.bind (trC Try.prog ann86 Try.f86.ntmps) = some m86 := by kernel_rfl
theorem rs86 : trRes Try.prog Try.f86.results.toList = some r86 := by kernel_rfl
theorem fn86 : isFunc Try.prog 86 = true := by kernel_rfl

/- duodecimo/duodecimoref01.Name -/
def ann87 : Ann := { muts := [], nilsz := [], oid := [], frz := [], zero := [], ord := [], ap := [], own := [], yl := [], fz := [], imm := [], ic := [], cl := [], ylL := [], rl := [] }
def m87 : MCode := (.seq (.reg [.asg 2 (.c (.lit (.bool false)))])
 (.seq (.seq (.reg [.cpy 4 (.t 0), .lenStr 5 (.t 4), .bin 6 .eql (.t 5) (.c (.lit (.int .i64 0))), .cpy 7 (.t 6), .guard 7 false (some 8) (.cpy 8 (.t 0)), .guard 7 false (some 9) (.lenStr 9 (.t 8)), .guard 7 false (some 10) (.bin 10 .gtr (.t 9) (.c (.lit (.int .i64 16)))), .pick 11 (.t 7) (.c (.lit (.bool true))) (.t 10)])
 (.cond (.t 11) (.seq (.reg [.asg 2 (.c (.lit (.bool false)))])
 .ret) .skip))
 (.seq (.seq (.reg [.asg 3 (.c (.lit (.int .i64 0)))])
 (.block 0 (.loop (.seq (.seq (.reg [.cpy 12 (.t 3), .cpy 13 (.t 0), .lenStr 14 (.t 13), .bin 15 .lss (.t 12) (.t 14)])
 (.cond (.t 15) .skip (.exit 0)))
 (.seq (.block 1 (.seq (.reg [.cpy 18 (.t 0), .cpy 19 (.t 3), .idxStr 20 (.t 18) (.t 19), .call 21 101 [(.t 20)], .not 22 (.t 21), .cpy 23 (.t 22), .guard 23 true (some 24) (.cpy 24 (.t 3)), .guard 23 true (some 25) (.bin 25 .eql (.t 24) (.c (.lit (.int .i64 0)))), .guard 23 true (some 26) (.cpy 26 (.t 25)), .guard 26 false (some 27) (.cpy 27 (.t 0)), .guard 26 false (some 28) (.cpy 28 (.t 3)), .guard 26 false (some 29) (.idxStr 29 (.t 27) (.t 28)), .guard 26 false (some 30) (.call 30 102 [(.t 29)]), .guard 26 false (some 31) (.not 31 (.t 30)), .guard 26 false (some 32) (.cpy 32 (.t 31)), .guard 32 true (some 33) (.cpy 33 (.t 0)), .guard 32 true (some 34) (.cpy 34 (.t 3)), .guard 32 true (some 35) (.idxStr 35 (.t 33) (.t 34)), .guard 32 true (some 36) (.bin 36 .neq (.t 35) (.c (.lit (.int .u8 46)))), .guard 26 false (some 37) (.pick 37 (.t 32) (.t 36) (.c (.lit (.bool false)))), .guard 23 true (some 38) (.pick 38 (.t 26) (.c (.lit (.bool true))) (.t 37)), .pick 39 (.t 23) (.t 38) (.c (.lit (.bool false)))])
 (.cond (.t 39) (.seq (.reg [.asg 2 (.c (.lit (.bool false)))])
 .ret) .skip)))
 (.reg [.cpy 16 (.t 3), .bin 17 .add (.t 16) (.c (.lit (.int .i64 1))), .asg 3 (.t 17)]))))))
 (.seq (.reg [.asg 2 (.c (.lit (.bool true)))])
 .ret))))
def r87 : List MRes := [.tmp 2]
theorem tr87 : Try.f87.body.bind (trC Try.prog ann87 Try.f87.ntmps) = some m87 := by kernel_rfl
theorem rs87 : trRes Try.prog Try.f87.results.toList = some r87 := by kernel_rfl
theorem fn87 : isFunc Try.prog 87 = true := by kernel_rfl

/- slices.Clone[[]duodecimo/api.OwMark,duodecimo/api.OwMark] -/
def ann95 : Ann := { muts := [], nilsz := [(2, 4)], oid := [], frz := [], zero := [(5, [(.lit (.int .i64 0)), (.lit (.int .i64 0)), (.lit (.int .i64 0)), (.lit (.int .i64 0))])], ord := [], ap := [], own := [], yl := [], fz := [], imm := [], ic := [], cl := [], ylL := [], rl := [] }
def m95 : MCode := (.seq (.reg [.asgNil 2 4])
 (.seq (.seq (.reg [.cpy 3 (.t 0), .isNil 4 false (.t 3)])
 (.cond (.t 4) (.seq (.reg [.asgNil 2 4])
 .ret) .skip))
 (.seq (.reg [.mkS 5 0 4 [(.lit (.int .i64 0)), (.lit (.int .i64 0)), (.lit (.int .i64 0)), (.lit (.int .i64 0))] [], .cpy 6 (.t 0), .app 7 (.t 5) (.t 6) 4 32, .asg 2 (.t 7)])
 .ret)))
def r95 : List MRes := [.tmp 2]
theorem tr95 : Try.f95.body.bind (trC Try.prog ann95 Try.f95.ntmps) = some m95 := by kernel_rfl
theorem rs95 : trRes Try.prog Try.f95.results.toList = some r95 := by kernel_rfl
theorem fn95 : isFunc Try.prog 95 = true := by kernel_rfl

/- math/bits.OnesCount32 -/
/- math/bits.OnesCount64 -/
def ann97 : Ann := { muts := [], nilsz := [], oid := [], frz := [], zero := [], ord := [], ap := [], own := [], yl := [], fz := [], imm := [], ic := [], cl := [], ylL := [], rl := [] }
def m97 : MCode := (.seq (.reg [.asg 2 (.c (.lit (.int .i64 0)))])
 (.seq (.reg [.cpy 3 (.t 0), .bin 4 .shr (.t 3) (.c (.lit (.int .u64 1))), .bin 5 .and (.t 4) (.c (.lit (.int .u64 6148914691236517205))), .cpy 6 (.t 0), .bin 7 .and (.t 6) (.c (.lit (.int .u64 6148914691236517205))), .bin 8 .add (.t 5) (.t 7), .asg 0 (.t 8)])
 (.seq (.reg [.cpy 9 (.t 0), .bin 10 .shr (.t 9) (.c (.lit (.int .u64 2))), .bin 11 .and (.t 10) (.c (.lit (.int .u64 3689348814741910323))), .cpy 12 (.t 0), .bin 13 .and (.t 12) (.c (.lit (.int .u64 3689348814741910323))), .bin 14 .add (.t 11) (.t 13), .asg 0 (.t 14)])
 (.seq (.reg [.cpy 15 (.t 0), .bin 16 .shr (.t 15) (.c (.lit (.int .u64 4))), .cpy 17 (.t 0), .bin 18 .add (.t 16) (.t 17), .bin 19 .and (.t 18) (.c (.lit (.int .u64 1085102592571150095))), .asg 0 (.t 19)])
 (.seq (.reg [.cpy 20 (.t 0), .cpy 21 (.t 0), .bin 22 .shr (.t 21) (.c (.lit (.int .u64 8))), .bin 23 .add (.t 20) (.t 22), .asg 0 (.t 23)])
 (.seq (.reg [.cpy 24 (.t 0), .cpy 25 (.t 0), .bin 26 .shr (.t 25) (.c (.lit (.int .u64 16))), .bin 27 .add (.t 24) (.t 26), .asg 0 (.t 27)])
 (.seq (.reg [.cpy 28 (.t 0), .cpy 29 (.t 0), .bin 30 .shr (.t 29) (.c (.lit (.int .u64 32))), .bin 31 .add (.t 28) (.t 30), .asg 0 (.t 31)])
 (.seq (.reg [.cpy 32 (.t 0), .conv 33 .i64 (.t 32), .bin 34 .and (.t 33) (.c (.lit (.int .i64 127))), .asg 2 (.t 34)])
 .ret))))))))
def r97 : List MRes := [.tmp 2]
theorem tr97 : Try.f97.body.bind (trC Try.prog ann97 Try.f97.ntmps) = some m97 := by kernel_rfl
theorem rs97 : trRes Try.prog Try.f97.results.toList = some r97 := by kernel_rfl
theorem fn97 : isFunc Try.prog 97 = true := by kernel_rfl

/- math/bits.Len -/
def ann98 : Ann := { muts := [], nilsz := [], oid := [], frz := [], zero := [], ord := [], ap := [], own := [], yl := [], fz := [], imm := [], ic := [], cl := [], ylL := [], rl := [] }
def m98 : MCode := (.seq (.reg [.asg 2 (.c (.lit (.int .i64 0)))])
 (.seq (.cond (.c (.lit (.bool false))) (.seq (.reg [.cpy 3 (.t 0), .conv 4 .u32 (.t 3), .call 5 106 [(.t 4)], .asg 2 (.t 5)])
 .ret) .skip)
 (.seq (.reg [.cpy 6 (.t 0), .call 7 107 [(.t 6)], .asg 2 (.t 7)])
 .ret)))
def r98 : List MRes := [.tmp 2]
theorem tr98 : Try.f98.body.bind (trC Try.prog ann98 Try.f98.ntmps) = some m98 := by kernel_rfl
theorem rs98 : trRes Try.prog Try.f98.results.toList = some r98 := by kernel_rfl
theorem fn98 : isFunc Try.prog 98 = true := by kernel_rfl

/- cmp.Compare[int] -/
def ann99 : Ann := { muts := [], nilsz := [], oid := [], frz := [], zero := [], ord := [], ap := [], own := [], yl := [], fz := [], imm := [], ic := [], cl := [], ylL := [], rl := [] }
def m99 : MCode := (.seq (.reg [.asg 4 (.c (.lit (.int .i64 0)))])
 (.seq (.reg [.cpy 7 (.t 0), .call 8 108 [(.t 7)], .asg 5 (.t 8)])
 (.seq (.reg [.cpy 9 (.t 1), .call 10 108 [(.t 9)], .asg 6 (.t 10)])
 (.seq (.seq (.reg [.cpy 11 (.t 5)])
 (.cond (.t 11) (.seq (.seq (.reg [.cpy 12 (.t 6)])
 (.cond (.t 12) (.seq (.reg [.asg 4 (.c (.lit (.int .i64 0)))])
 .ret) .skip))
 (.seq (.reg [.asg 4 (.c (.lit (.int .i64 (-1))))])
 .ret)) .skip))
 (.seq (.seq (.reg [.cpy 13 (.t 6)])
 (.cond (.t 13) (.seq (.reg [.asg 4 (.c (.lit (.int .i64 1)))])
 .ret) .skip))
 (.seq (.seq (.reg [.cpy 14 (.t 0), .cpy 15 (.t 1), .bin 16 .lss (.t 14) (.t 15)])
 (.cond (.t 16) (.seq (.reg [.asg 4 (.c (.lit (.int .i64 (-1))))])
 .ret) .skip))
 (.seq (.seq (.reg [.cpy 17 (.t 0), .cpy 18 (.t 1), .bin 19 .gtr (.t 17) (.t 18)])
 (.cond (.t 19) (.seq (.reg [.asg 4 (.c (.lit (.int .i64 1)))])
 .ret) .skip))
 (.seq (.reg [.asg 4 (.c (.lit (.int .i64 0)))])
 .ret))))))))
def r99 : List MRes := [.tmp 4]
theorem tr99 : Try.f99.body.bind (trC Try.prog ann99 Try.f99.ntmps) = some m99 := by kernel_rfl
theorem rs99 : trRes Try.prog Try.f99.results.toList = some r99 := by kernel_rfl
theorem fn99 : isFunc Try.prog 99 = true := by kernel_rfl

/- slices.IndexFunc[[]int,int] -/
def ann100 : Ann := { muts := [], nilsz := [], oid := [], frz := [], zero := [], ord := [], ap := [], own := [], yl := [], fz := [], imm := [], ic := [], cl := [], ylL := [], rl := [] }
def m100 : MCode := (.seq (.reg [.asg 4 (.c (.lit (.int .i64 0)))])
 (.seq (.seq (.reg [.cpy 6 (.t 0), .len 7 (.t 6), .cpy 8 (.c (.lit (.int .i64 0)))])
 (.block 0 (.loop (.seq (.reg [.bin 9 .lss (.t 8) (.t 7)])
 (.seq (.cond (.t 9) .skip (.exit 0))
 (.seq (.block 1 (.seq (.reg [.cpy 10 (.t 8), .asg 5 (.t 10)])
 (.seq (.reg [.cpy 11 (.t 1), .cpy 12 (.t 0), .cpy 13 (.t 5), .idxS 14 (.t 12) (.t 13) 1, .load 15 (.t 14) none, .callv 16 (.t 11) [(.t 15)]])
 (.cond (.t 16) (.seq (.reg [.cpy 17 (.t 5), .asg 4 (.t 17)])
 .ret) .skip))))
 (.reg [.bin 18 .add (.t 8) (.c (.lit (.int .i64 1))), .cpy 8 (.t 18)])))))))
 (.seq (.reg [.asg 4 (.c (.lit (.int .i64 (-1))))])
 .ret)))
def r100 : List MRes := [.tmp 4]
theorem tr100 : Try.f100.body.bind (trC Try.prog ann100 Try.f100.ntmps) = some m100 := by kernel_rfl
theorem rs100 : trRes Try.prog Try.f100.results.toList = some r100 := by kernel_rfl
theorem fn100 : isFunc Try.prog 100 = true := by kernel_rfl

/- duodecimo/duodecimoref01.letter -/
def ann101 : Ann := { muts := [], nilsz := [], oid := [], frz := [], zero := [], ord := [], ap := [], own := [], yl := [], fz := [], imm := [], ic := [], cl := [], ylL := [], rl := [] }
def m101 : MCode := (.seq (.reg [.asg 2 (.c (.lit (.bool false)))])
 (.seq (.reg [.cpy 3 (.t 0), .bin 4 .geq (.t 3) (.c (.lit (.int .u8 97))), .cpy 5 (.t 4), .guard 5 true (some 6) (.cpy 6 (.t 0)), .guard 5 true (some 7) (.bin 7 .leq (.t 6) (.c (.lit (.int .u8 122)))), .pick 8 (.t 5) (.t 7) (.c (.lit (.bool false))), .asg 2 (.t 8)])
 .ret))
def r101 : List MRes := [.tmp 2]
theorem tr101 : Try.f101.body.bind (trC Try.prog ann101 Try.f101.ntmps) = some m101 := by kernel_rfl
theorem rs101 : trRes Try.prog Try.f101.results.toList = some r101 := by kernel_rfl
theorem fn101 : isFunc Try.prog 101 = true := by kernel_rfl

/- duodecimo/duodecimoref01.digit -/
def ann102 : Ann := { muts := [], nilsz := [], oid := [], frz := [], zero := [], ord := [], ap := [], own := [], yl := [], fz := [], imm := [], ic := [], cl := [], ylL := [], rl := [] }
def m102 : MCode := (.seq (.reg [.asg 2 (.c (.lit (.bool false)))])
 (.seq (.reg [.cpy 3 (.t 0), .bin 4 .geq (.t 3) (.c (.lit (.int .u8 48))), .cpy 5 (.t 4), .guard 5 true (some 6) (.cpy 6 (.t 0)), .guard 5 true (some 7) (.bin 7 .leq (.t 6) (.c (.lit (.int .u8 57)))), .pick 8 (.t 5) (.t 7) (.c (.lit (.bool false))), .asg 2 (.t 8)])
 .ret))
def r102 : List MRes := [.tmp 2]
theorem tr102 : Try.f102.body.bind (trC Try.prog ann102 Try.f102.ntmps) = some m102 := by kernel_rfl
theorem rs102 : trRes Try.prog Try.f102.results.toList = some r102 := by kernel_rfl
theorem fn102 : isFunc Try.prog 102 = true := by kernel_rfl

/- duodecimo/owner.both -/
def ann103 : Ann := { muts := [], nilsz := [], oid := [], frz := [4], zero := [(4, [(.lit (.int .i64 0)), (.lit (.int .i64 0))]), (15, [(.lit (.int .i64 0)), (.lit (.int .i64 0))])], ord := [], ap := [], own := [], yl := [], fz := [], imm := [], ic := [], cl := [], ylL := [], rl := [] }
def m103 : MCode := (.seq (.reg [.boxI 2 (.t 0) 2, .boxI 3 (.t 1) 2, .alloc 4 [(.lit (.int .i64 0)), (.lit (.int .i64 0))]])
 (.seq (.reg [.addr 5 (.t 2) 0, .load 6 (.t 5) none, .addr 7 (.t 3) 0, .load 8 (.t 7) none, .maxI 9 (.t 6) (.t 8), .addr 10 (.t 2) 1, .load 11 (.t 10) none, .addr 12 (.t 3) 1, .load 13 (.t 12) none, .minI 14 (.t 11) (.t 13), .build 15 [(.lit (.int .i64 0)), (.lit (.int .i64 0))] [(0, 1, (.t 9)), (1, 1, (.t 14))], .storeF 4 (.t 15) 2])
 .ret))
def r103 : List MRes := [.cell 4 (some 2)]
theorem tr103 : Try.f103.body.bind (trC Try.prog ann103 Try.f103.ntmps) = some m103 := by kernel_rfl
theorem rs103 : trRes Try.prog Try.f103.results.toList = some r103 := by kernel_rfl
theorem fn103 : isFunc Try.prog 103 = true := by kernel_rfl

/- math/bits.Len32 -/
/- math/bits.Len64 -/
def ann107 : Ann := { muts := [], nilsz := [], oid := [], frz := [], zero := [], ord := [], ap := [], own := [], yl := [], fz := [], imm := [], ic := [], cl := [], ylL := [], rl := [] }
def m107 : MCode := (.seq (.reg [.asg 2 (.c (.lit (.int .i64 0)))])
 (.seq (.seq (.reg [.cpy 3 (.t 0), .bin 4 .geq (.t 3) (.c (.lit (.int .u64 4294967296)))])
 (.cond (.t 4) (.seq (.reg [.cpy 5 (.t 0), .bin 6 .shr (.t 5) (.c (.lit (.int .u64 32))), .asg 0 (.t 6)])
 (.reg [.asg 2 (.c (.lit (.int .i64 32)))])) .skip))
 (.seq (.seq (.reg [.cpy 7 (.t 0), .bin 8 .geq (.t 7) (.c (.lit (.int .u64 65536)))])
 (.cond (.t 8) (.seq (.reg [.cpy 9 (.t 0), .bin 10 .shr (.t 9) (.c (.lit (.int .u64 16))), .asg 0 (.t 10)])
 (.reg [.cpy 11 (.t 2), .bin 12 .add (.t 11) (.c (.lit (.int .i64 16))), .asg 2 (.t 12)])) .skip))
 (.seq (.seq (.reg [.cpy 13 (.t 0), .bin 14 .geq (.t 13) (.c (.lit (.int .u64 256)))])
 (.cond (.t 14) (.seq (.reg [.cpy 15 (.t 0), .bin 16 .shr (.t 15) (.c (.lit (.int .u64 8))), .asg 0 (.t 16)])
 (.reg [.cpy 17 (.t 2), .bin 18 .add (.t 17) (.c (.lit (.int .i64 8))), .asg 2 (.t 18)])) .skip))
 (.seq (.reg [.cpy 19 (.t 2), .cpy 20 (.t 0), .conv 21 .u8 (.t 20), .idxStr 22 (.c (.lit (.string ⟨#[0, 1, 2, 2, 3, 3, 3, 3, 4, 4, 4, 4, 4, 4, 4, 4, 5, 5, 5, 5, 5, 5, 5, 5, 5, 5, 5, 5, 5, 5, 5, 5, 6, 6, 6, 6, 6, 6, 6, 6, 6, 6, 6, 6, 6, 6, 6, 6, 6, 6, 6, 6, 6, 6, 6, 6, 6, 6, 6, 6, 6, 6, 6, 6, 7, 7, 7, 7, 7, 7, 7, 7, 7, 7, 7, 7, 7, 7, 7, 7, 7, 7, 7, 7, 7, 7, 7, 7, 7, 7, 7, 7, 7, 7, 7, 7, 7, 7, 7, 7, 7, 7, 7, 7, 7, 7, 7, 7, 7, 7, 7, 7, 7, 7, 7, 7, 7, 7, 7, 7, 7, 7, 7, 7, 7, 7, 7, 7, 8, 8, 8, 8, 8, 8, 8, 8, 8, 8, 8, 8, 8, 8, 8, 8, 8, 8, 8, 8, 8, 8, 8, 8, 8, 8, 8, 8, 8, 8, 8, 8, 8, 8, 8, 8, 8, 8, 8, 8, 8, 8, 8, 8, 8, 8, 8, 8, 8, 8, 8, 8, 8, 8, 8, 8, 8, 8, 8, 8, 8, 8, 8, 8, 8, 8, 8, 8, 8, 8, 8, 8, 8, 8, 8, 8, 8, 8, 8, 8, 8, 8, 8, 8, 8, 8, 8, 8, 8, 8, 8, 8, 8, 8, 8, 8, 8, 8, 8, 8, 8, 8, 8, 8, 8, 8, 8, 8, 8, 8, 8, 8, 8, 8, 8, 8, 8, 8, 8, 8, 8, 8, 8, 8, 8, 8, 8, 8]⟩))) (.t 21), .conv 23 .i64 (.t 22), .bin 24 .add (.t 19) (.t 23), .asg 2 (.t 24)])
 .ret)))))
def r107 : List MRes := [.tmp 2]
theorem tr107 : Try.f107.body.bind (trC Try.prog ann107 Try.f107.ntmps) = some m107 := by kernel_rfl
theorem rs107 : trRes Try.prog Try.f107.results.toList = some r107 := by kernel_rfl
theorem fn107 : isFunc Try.prog 107 = true := by kernel_rfl

/- cmp.isNaN[int] -/
def ann108 : Ann := { muts := [], nilsz := [], oid := [], frz := [], zero := [], ord := [], ap := [], own := [], yl := [], fz := [], imm := [], ic := [], cl := [], ylL := [], rl := [] }
def m108 : MCode := (.seq (.reg [.asg 2 (.c (.lit (.bool false)))])
 (.seq (.reg [.cpy 3 (.t 0), .cpy 4 (.t 0), .bin 5 .neq (.t 3) (.t 4), .asg 2 (.t 5)])
 .ret))
def r108 : List MRes := [.tmp 2]
theorem tr108 : Try.f108.body.bind (trC Try.prog ann108 Try.f108.ntmps) = some m108 := by kernel_rfl
theorem rs108 : trRes Try.prog Try.f108.results.toList = some r108 := by kernel_rfl
theorem fn108 : isFunc Try.prog 108 = true := by kernel_rfl
end Go.Proofs.Ytiampdiobdianaa

namespace Go.Proofs.Ytiampdiobdianaa
open Go.Avm

/- duodecimo/owner.Check -/
def ann16 : Ann := { muts := [], nilsz := [], oid := [], frz := [6, 8, 10], zero := [(6, [(.lit (.string ⟨#[]⟩)), (.lit (.int .i64 0)), (.lit (.int .i64 0))]), (8, [(.lit (.int .i64 0)), (.lit (.int .i64 0)), (.lit (.int .i64 0)), (.lit (.int .i64 0))]), (10, [(.lit (.int .i64 0)), (.lit (.int .i64 0)), (.lit (.int .i64 0))]), (16, [(.lit (.int .i64 0))]), (56, [(.lit (.int .i64 0))]), (86, [(.lit (.int .i64 0))]), (93, [(.lit (.int .i64 0))]), (108, [(.lit (.int .i64 0))]), (122, [(.lit (.int .i64 0))]), (145, [(.lit (.int .i64 0))]), (157, [(.lit (.int .i64 0))])], ord := [], ap := [], own := [], yl := [], fz := [], imm := [], ic := [], cl := [], ylL := [], rl := [] }
def m16 : MCode := (.seq (.reg [.boxI 1 (.t 0) 5, .asg 2 (.c (.lit (.int .i64 0))), .asg 3 (.c (.lit (.int .i64 0))), .asg 4 (.c (.lit (.int .i64 0)))])
 (.seq (.block 0 (.seq (.reg [.addr 12 (.t 1) 0, .load 13 (.t 12) none, .addr 14 (.t 1) 1, .load 15 (.t 14) none, .mkS 16 2 1 [(.lit (.int .i64 0))] [(0, (.t 13)), (1, (.t 15))], .call 17 50 [(.c (.lit (.int .i64 1450))), (.c (.lit (.int .i64 1850))), (.t 16)], .asg 11 (.t 17)])
 (.cond (.t 11) (.seq (.reg [.asg 2 (.c (.lit (.int .i64 1))), .asg 3 (.c (.lit (.int .i64 0))), .asg 4 (.c (.lit (.int .i64 7)))])
 .ret) (.seq (.reg [.addr 19 (.t 1) 1, .load 20 (.t 19) none, .addr 21 (.t 1) 0, .load 22 (.t 21) none, .bin 23 .lss (.t 20) (.t 22), .asg 18 (.t 23)])
 (.cond (.t 18) (.seq (.reg [.asg 2 (.c (.lit (.int .i64 1))), .asg 3 (.c (.lit (.int .i64 0))), .asg 4 (.c (.lit (.int .i64 2)))])
 .ret) (.seq (.reg [.addr 25 (.t 1) 2, .load 26 (.t 25) none, .len 27 (.t 26), .bin 28 .gtr (.t 27) (.c (.lit (.int .i64 6))), .asg 24 (.t 28)])
 (.cond (.t 24) (.seq (.reg [.asg 2 (.c (.lit (.int .i64 2))), .asg 3 (.c (.lit (.int .i64 0))), .asg 4 (.c (.lit (.int .i64 3)))])
 .ret) .skip)))))))
 (.seq (.seq (.reg [.addr 29 (.t 1) 2, .load 30 (.t 29) none, .len 31 (.t 30), .cpy 32 (.c (.lit (.int .i64 0)))])
 (.block 1 (.loop (.seq (.reg [.bin 33 .lss (.t 32) (.t 31)])
 (.seq (.cond (.t 33) .skip (.exit 1))
 (.seq (.block 2 (.seq (.reg [.cpy 34 (.t 32), .idxS 35 (.t 30) (.t 32) 3, .load 36 (.t 35) (some 3), .alloc 6 [(.lit (.string ⟨#[]⟩)), (.lit (.int .i64 0)), (.lit (.int .i64 0))], .asg 5 (.t 34), .storeF 6 (.t 36) 3])
 (.block 3 (.seq (.reg [.addr 38 (.t 6) 0, .load 39 (.t 38) none, .call 40 51 [(.t 39)], .not 41 (.t 40), .asg 37 (.t 41)])
 (.cond (.t 37) (.seq (.reg [.cpy 42 (.t 5), .asg 2 (.c (.lit (.int .i64 2))), .asg 3 (.t 42), .asg 4 (.c (.lit (.int .i64 6)))])
 .ret) (.seq (.reg [.addr 44 (.t 1) 2, .load 45 (.t 44) none, .cpy 46 (.t 5), .slcHi 47 (.t 45) (.t 46) 3, .mkfn 48 (.func 53) [] [(.t 6)], .call 49 52 [(.t 47), (.t 48)], .asg 43 (.t 49)])
 (.cond (.t 43) (.seq (.reg [.cpy 50 (.t 5), .asg 2 (.c (.lit (.int .i64 2))), .asg 3 (.t 50), .asg 4 (.c (.lit (.int .i64 5)))])
 .ret) (.seq (.reg [.addr 52 (.t 6) 1, .load 53 (.t 52) none, .addr 54 (.t 6) 2, .load 55 (.t 54) none, .mkS 56 2 1 [(.lit (.int .i64 0))] [(0, (.t 53)), (1, (.t 55))], .call 57 50 [(.c (.lit (.int .i64 0))), (.c (.lit (.int .i64 9999))), (.t 56)], .asg 51 (.t 57)])
 (.cond (.t 51) (.seq (.reg [.cpy 58 (.t 5), .asg 2 (.c (.lit (.int .i64 2))), .asg 3 (.t 58), .asg 4 (.c (.lit (.int .i64 7)))])
 .ret) (.seq (.reg [.addr 60 (.t 6) 1, .load 61 (.t 60) none, .addr 62 (.t 6) 2, .load 63 (.t 62) none, .bin 64 .gtr (.t 61) (.t 63), .asg 59 (.t 64)])
 (.cond (.t 59) (.seq (.reg [.cpy 65 (.t 5), .asg 2 (.c (.lit (.int .i64 2))), .asg 3 (.t 65), .asg 4 (.c (.lit (.int .i64 2)))])
 .ret) .skip)))))))))))
 (.reg [.bin 66 .add (.t 32) (.c (.lit (.int .i64 1))), .cpy 32 (.t 66)])))))))
 (.seq (.seq (.reg [.addr 67 (.t 1) 3, .load 68 (.t 67) none, .len 69 (.t 68), .bin 70 .gtr (.t 69) (.c (.lit (.int .i64 8)))])
 (.cond (.t 70) (.seq (.reg [.asg 2 (.c (.lit (.int .i64 3))), .asg 3 (.c (.lit (.int .i64 0))), .asg 4 (.c (.lit (.int .i64 3)))])
 .ret) .skip))
 (.seq (.seq (.reg [.addr 71 (.t 1) 3, .load 72 (.t 71) none, .len 73 (.t 72), .cpy 74 (.c (.lit (.int .i64 0)))])
 (.block 4 (.loop (.seq (.reg [.bin 75 .lss (.t 74) (.t 73)])
 (.seq (.cond (.t 75) .skip (.exit 4))
 (.seq (.block 5 (.seq (.reg [.cpy 76 (.t 74), .idxS 77 (.t 72) (.t 74) 4, .load 78 (.t 77) (some 4), .alloc 8 [(.lit (.int .i64 0)), (.lit (.int .i64 0)), (.lit (.int .i64 0)), (.lit (.int .i64 0))], .asg 7 (.t 76), .storeF 8 (.t 78) 4])
 (.block 6 (.seq (.reg [.addr 80 (.t 1) 2, .load 81 (.t 80) none, .len 82 (.t 81), .bin 83 .sub (.t 82) (.c (.lit (.int .i64 1))), .addr 84 (.t 8) 0, .load 85 (.t 84) none, .mkS 86 1 1 [(.lit (.int .i64 0))] [(0, (.t 85))], .call 87 50 [(.c (.lit (.int .i64 0))), (.t 83), (.t 86)], .cpy 88 (.t 87), .guard 88 false (some 89) (.cpy 89 (.t 7)), .guard 88 false (some 90) (.bin 90 .sub (.t 89) (.c (.lit (.int .i64 1)))), .guard 88 false (some 91) (.addr 91 (.t 8) 3), .guard 88 false (some 92) (.load 92 (.t 91) none), .guard 88 false (some 93) (.mkS 93 1 1 [(.lit (.int .i64 0))] [(0, (.t 92))]), .guard 88 false (some 94) (.call 94 50 [(.c (.lit (.int .i64 (-1)))), (.t 90), (.t 93)]), .pick 95 (.t 88) (.c (.lit (.bool true))) (.t 94), .asg 79 (.t 95)])
 (.cond (.t 79) (.seq (.reg [.cpy 96 (.t 7), .asg 2 (.c (.lit (.int .i64 3))), .asg 3 (.t 96), .asg 4 (.c (.lit (.int .i64 4)))])
 .ret) (.seq (.reg [.addr 98 (.t 1) 0, .load 99 (.t 98) none, .addr 100 (.t 1) 1, .load 101 (.t 100) none, .addr 102 (.t 8) 1, .addr 103 (.t 102) 0, .load 104 (.t 103) none, .addr 105 (.t 8) 1, .addr 106 (.t 105) 1, .load 107 (.t 106) none, .mkS 108 2 1 [(.lit (.int .i64 0))] [(0, (.t 104)), (1, (.t 107))], .call 109 50 [(.t 99), (.t 101), (.t 108)], .asg 97 (.t 109)])
 (.cond (.t 97) (.seq (.reg [.cpy 110 (.t 7), .asg 2 (.c (.lit (.int .i64 3))), .asg 3 (.t 110), .asg 4 (.c (.lit (.int .i64 7)))])
 .ret) (.seq (.reg [.addr 112 (.t 8) 1, .addr 113 (.t 112) 0, .load 114 (.t 113) none, .addr 115 (.t 8) 1, .addr 116 (.t 115) 0, .load 117 (.t 116) none, .bin 118 .add (.t 117) (.c (.lit (.int .i64 40))), .addr 119 (.t 8) 1, .addr 120 (.t 119) 1, .load 121 (.t 120) none, .mkS 122 1 1 [(.lit (.int .i64 0))] [(0, (.t 121))], .call 123 50 [(.t 114), (.t 118), (.t 122)], .asg 111 (.t 123)])
 (.cond (.t 111) (.seq (.reg [.cpy 124 (.t 7), .asg 2 (.c (.lit (.int .i64 3))), .asg 3 (.t 124), .asg 4 (.c (.lit (.int .i64 2)))])
 .ret) .skip)))))))))
 (.reg [.bin 125 .add (.t 74) (.c (.lit (.int .i64 1))), .cpy 74 (.t 125)])))))))
 (.seq (.seq (.reg [.addr 126 (.t 1) 4, .load 127 (.t 126) none, .len 128 (.t 127), .bin 129 .gtr (.t 128) (.c (.lit (.int .i64 4)))])
 (.cond (.t 129) (.seq (.reg [.asg 2 (.c (.lit (.int .i64 4))), .asg 3 (.c (.lit (.int .i64 0))), .asg 4 (.c (.lit (.int .i64 3)))])
 .ret) .skip))
 (.seq (.seq (.reg [.addr 130 (.t 1) 4, .load 131 (.t 130) none, .len 132 (.t 131), .cpy 133 (.c (.lit (.int .i64 0)))])
 (.block 7 (.loop (.seq (.reg [.bin 134 .lss (.t 133) (.t 132)])
 (.seq (.cond (.t 134) .skip (.exit 7))
 (.seq (.block 8 (.seq (.reg [.cpy 135 (.t 133), .idxS 136 (.t 131) (.t 133) 3, .load 137 (.t 136) (some 3), .alloc 10 [(.lit (.int .i64 0)), (.lit (.int .i64 0)), (.lit (.int .i64 0))], .asg 9 (.t 135), .storeF 10 (.t 137) 3])
 (.block 9 (.seq (.reg [.addr 139 (.t 1) 0, .load 140 (.t 139) none, .addr 141 (.t 1) 1, .load 142 (.t 141) none, .addr 143 (.t 10) 0, .load 144 (.t 143) none, .mkS 145 1 1 [(.lit (.int .i64 0))] [(0, (.t 144))], .call 146 50 [(.t 140), (.t 142), (.t 145)], .asg 138 (.t 146)])
 (.cond (.t 138) (.seq (.reg [.cpy 147 (.t 9), .asg 2 (.c (.lit (.int .i64 4))), .asg 3 (.t 147), .asg 4 (.c (.lit (.int .i64 7)))])
 .ret) (.seq (.reg [.addr 149 (.t 1) 2, .load 150 (.t 149) none, .len 151 (.t 150), .bin 152 .sub (.t 151) (.c (.lit (.int .i64 1))), .addr 153 (.t 10) 1, .load 154 (.t 153) none, .addr 155 (.t 10) 2, .load 156 (.t 155) none, .mkS 157 2 1 [(.lit (.int .i64 0))] [(0, (.t 154)), (1, (.t 156))], .call 158 50 [(.c (.lit (.int .i64 (-1)))), (.t 152), (.t 157)], .asg 148 (.t 158)])
 (.cond (.t 148) (.seq (.reg [.cpy 159 (.t 9), .asg 2 (.c (.lit (.int .i64 4))), .asg 3 (.t 159), .asg 4 (.c (.lit (.int .i64 4)))])
 .ret) (.seq (.reg [.addr 161 (.t 10) 1, .load 162 (.t 161) none, .addr 163 (.t 10) 2, .load 164 (.t 163) none, .bin 165 .eql (.t 162) (.t 164), .asg 160 (.t 165)])
 (.cond (.t 160) (.seq (.reg [.cpy 166 (.t 9), .asg 2 (.c (.lit (.int .i64 4))), .asg 3 (.t 166), .asg 4 (.c (.lit (.int .i64 2)))])
 .ret) .skip)))))))))
 (.reg [.bin 167 .add (.t 133) (.c (.lit (.int .i64 1))), .cpy 133 (.t 167)])))))))
 (.seq (.reg [.asg 2 (.c (.lit (.int .i64 0))), .asg 3 (.c (.lit (.int .i64 0))), .asg 4 (.c (.lit (.int .i64 0)))])
 .ret))))))))
def r16 : List MRes := [.tmp 2, .tmp 3, .tmp 4]
theorem tr16 : Try.f16.body.bind (trC Try.prog ann16 Try.f16.ntmps) = some m16 := by kernel_rfl
theorem rs16 : trRes Try.prog Try.f16.results.toList = some r16 := by kernel_rfl
theorem fn16 : isFunc Try.prog 16 = true := by kernel_rfl

/- duodecimo/owner.enter -/
def ann57 : Ann := { muts := [], nilsz := [], oid := [], frz := [], zero := [], ord := [], ap := [], own := [], yl := [], fz := [], imm := [], ic := [], cl := [], ylL := [], rl := [] }
def m57 : MCode := (.seq (.reg [.boxI 1 (.t 0) 5, .asg 2 (.c (.lit (.pointer none))), .asg 3 (.c (.lit (.int .i64 0)))])
 (.seq (.seq (.reg [.load 8 (.t 1) (some 5), .call 9 16 [(.t 8)], .cpy 7 (.t 9), .ext 10 (.t 7) 0, .ext 11 (.t 7) 1, .ext 12 (.t 7) 2, .asg 4 (.t 10), .asg 5 (.t 11), .asg 6 (.t 12)])
 (.seq (.reg [.cpy 13 (.t 6), .bin 14 .neq (.t 13) (.c (.lit (.int .i64 0)))])
 (.cond (.t 14) (.seq (.reg [.cpy 15 (.t 6), .asg 2 (.c (.lit (.pointer none))), .asg 3 (.t 15)])
 .ret) .skip)))
 (.seq (.reg [.load 16 (.t 1) (some 5), .call 17 88 [(.t 16)], .asg 2 (.t 17), .asg 3 (.c (.lit (.int .i64 0)))])
 .ret)))
def r57 : List MRes := [.tmp 2, .tmp 3]
theorem tr57 : Try.f57.body.bind (trC Try.prog ann57 Try.f57.ntmps) = some m57 := by kernel_rfl
theorem rs57 : trRes Try.prog Try.f57.results.toList = some r57 := by kernel_rfl
theorem fn57 : isFunc Try.prog 57 = true := by kernel_rfl

/- duodecimo/owner.look -/
def ann88 : Ann := { muts := [14], nilsz := [], oid := [], frz := [5, 7, 8], zero := [(5, [(.lit (.string ⟨#[]⟩)), (.lit (.int .i64 0)), (.lit (.int .i64 0))]), (7, [(.lit (.int .i64 0)), (.lit (.int .i64 0)), (.lit (.int .i64 0))]), (8, [(.lit (.int .i64 0)), (.lit (.int .i64 0))]), (9, [(.lit (.int .i64 0)), (.lit (.int .i64 0)), (.lit (.int .i64 0)), (.lit (.int .i64 0))]), (10, [(.lit (.int .i64 0)), (.lit (.int .i64 0)), (.lit (.int .i64 0)), (.lit (.int .i64 0))]), (13, [(.lit (.int .i64 0)), (.lit (.int .i64 0)), (.slice 3 [] 0), (.slice 4 [] 0), (.slice 3 [] 0), (.lit (.map none))]), (35, [(.lit (.int .i64 0)), (.lit (.int .i64 0))]), (43, [(.lit (.int .i64 0)), (.lit (.int .i64 0))]), (44, [(.lit (.int .i64 0)), (.lit (.int .i64 0)), (.lit (.int .i64 0)), (.lit (.int .i64 0))]), (70, [(.lit (.int .i64 0)), (.lit (.int .i64 0))])], ord := [(5, [0, 1, 2, 3, 4, 5, 6, 7, 8, 9, 10, 11, 12, 13, 14, 15, 16, 17, 18, 19, 20, 21, 22]), (10, [0, 1, 2, 3, 4, 5, 6, 7, 8, 9, 10, 11]), (13, [0, 1, 2, 3, 4, 5, 6, 7, 8]), (15, [0, 1, 2, 3, 4, 5, 6, 7]), (17, [0, 1, 2, 3, 4, 5, 6, 7, 8]), (19, [0, 1, 2, 3, 4, 5, 6, 7])], ap := [(9, []), (10, [])], own := [], yl := [], fz := [(21, [2, 2])], imm := [], ic := [], cl := [], ylL := [], rl := [] }
def m88 : MCode := (.seq (.reg [.boxI 1 (.t 0) 5, .asg 2 (.c (.lit (.pointer none)))])
 (.seq (.reg [.load 11 (.t 1) (some 5), .mkMap 12, .build 13 [(.lit (.int .i64 0)), (.lit (.int .i64 0)), (.slice 3 [] 0), (.slice 4 [] 0), (.slice 3 [] 0), (.lit (.map none))] [(0, 5, (.t 11)), (5, 1, (.t 12))], .boxM 14 (.t 13) 6, .asg 3 (.t 14)])
 (.seq (.seq (.reg [.addr 15 (.t 1) 2, .load 16 (.t 15) none, .len 17 (.t 16), .cpy 18 (.c (.lit (.int .i64 0)))])
 (.block 0 (.loop (.seq (.reg [.bin 19 .lss (.t 18) (.t 17)])
 (.seq (.cond (.t 19) .skip (.exit 0))
 (.seq (.block 1 (.seq (.reg [.cpy 20 (.t 18), .idxS 21 (.t 16) (.t 18) 3, .load 22 (.t 21) (some 3), .alloc 5 [(.lit (.string ⟨#[]⟩)), (.lit (.int .i64 0)), (.lit (.int .i64 0))], .asg 4 (.t 20), .storeF 5 (.t 22) 3])
 (.reg [.cpy 23 (.t 3), .nilchk 24 (.t 23), .addr 25 (.t 24) 5, .load 26 (.t 25) none, .cpy 27 (.t 4), .addr 28 (.t 1) 0, .load 29 (.t 28) none, .addr 30 (.t 5) 1, .load 31 (.t 30) none, .maxI 32 (.t 29) (.t 31), .addr 33 (.t 1) 1, .load 34 (.t 33) none, .build 35 [(.lit (.int .i64 0)), (.lit (.int .i64 0))] [(0, 1, (.t 32)), (1, 1, (.t 34))], .addr 36 (.t 5) 1, .load 37 (.t 36) none, .addr 38 (.t 5) 2, .load 39 (.t 38) none, .addr 40 (.t 1) 1, .load 41 (.t 40) none, .minI 42 (.t 39) (.t 41), .build 43 [(.lit (.int .i64 0)), (.lit (.int .i64 0))] [(0, 1, (.t 37)), (1, 1, (.t 42))], .build 44 [(.lit (.int .i64 0)), (.lit (.int .i64 0)), (.lit (.int .i64 0)), (.lit (.int .i64 0))] [(0, 2, (.t 35)), (2, 2, (.t 43))], .mapUpd (.t 26) (.t 27) (.t 44) none])))
 (.reg [.bin 45 .add (.t 18) (.c (.lit (.int .i64 1))), .cpy 18 (.t 45)])))))))
 (.seq (.seq (.reg [.addr 46 (.t 1) 4, .load 47 (.t 46) none, .len 48 (.t 47), .cpy 49 (.c (.lit (.int .i64 0)))])
 (.block 2 (.loop (.seq (.reg [.bin 50 .lss (.t 49) (.t 48)])
 (.seq (.cond (.t 50) .skip (.exit 2))
 (.seq (.block 3 (.seq (.reg [.cpy 51 (.t 49), .idxS 52 (.t 47) (.t 49) 3, .load 53 (.t 52) (some 3), .alloc 7 [(.lit (.int .i64 0)), (.lit (.int .i64 0)), (.lit (.int .i64 0))], .asg 6 (.t 51), .storeF 7 (.t 53) 3])
 (.seq (.seq (.reg [.cpy 54 (.t 6), .bin 55 .gtr (.t 54) (.c (.lit (.int .i64 0))), .cpy 56 (.t 55), .guard 56 true (some 57) (.load 57 (.t 7) (some 3)), .guard 56 true (some 58) (.addr 58 (.t 1) 4), .guard 56 true (some 59) (.load 59 (.t 58) none), .guard 56 true (some 60) (.cpy 60 (.t 6)), .guard 56 true (some 61) (.bin 61 .sub (.t 60) (.c (.lit (.int .i64 1)))), .guard 56 true (some 62) (.idxS 62 (.t 59) (.t 61) 3), .guard 56 true (some 63) (.load 63 (.t 62) (some 3)), .guard 56 true (some 64) (.binA 64 false [false, false, false] (.t 57) (.t 63)), .pick 65 (.t 56) (.t 64) (.c (.lit (.bool false)))])
 (.cond (.t 65) (.exit 3) .skip))
 (.seq (.reg [.addr 66 (.t 7) 0, .load 67 (.t 66) none, .addr 68 (.t 7) 0, .load 69 (.t 68) none, .build 70 [(.lit (.int .i64 0)), (.lit (.int .i64 0))] [(0, 1, (.t 67)), (1, 1, (.t 69))], .alloc 8 [(.lit (.int .i64 0)), (.lit (.int .i64 0))], .storeF 8 (.t 70) 2])
 (.seq (.seq (.reg [.addr 71 (.t 7) 2, .load 72 (.t 71) none, .bin 73 .neq (.t 72) (.c (.lit (.int .i64 (-1))))])
 (.cond (.t 73) (.seq (.reg [.cpy 74 (.t 3), .nilchk 75 (.t 74), .addr 76 (.t 75) 5, .load 77 (.t 76) none, .addr 78 (.t 7) 2, .load 79 (.t 78) none, .lookup 80 (.t 77) (.t 79) none false (.agg [(.lit (.int .i64 0)), (.lit (.int .i64 0)), (.lit (.int .i64 0)), (.lit (.int .i64 0))]), .alloc 9 [(.lit (.int .i64 0)), (.lit (.int .i64 0)), (.lit (.int .i64 0)), (.lit (.int .i64 0))], .apart [] (.t 9) (.store (.t 9) (.t 80) 4 0)])
 (.seq (.reg [.addr 81 (.t 9) 0, .load 82 (.t 81) (some 2), .load 83 (.t 8) (some 2), .call 84 103 [(.t 82), (.t 83)], .addr 85 (.t 9) 0, .store (.t 85) (.t 84) 2 0])
 (.reg [.cpy 86 (.t 3), .nilchk 87 (.t 86), .addr 88 (.t 87) 5, .load 89 (.t 88) none, .addr 90 (.t 7) 2, .load 91 (.t 90) none, .load 92 (.t 9) (some 4), .mapUpd (.t 89) (.t 91) (.t 92) none]))) .skip))
 (.seq (.reg [.addr 93 (.t 7) 1, .load 94 (.t 93) none, .bin 95 .neq (.t 94) (.c (.lit (.int .i64 (-1))))])
 (.cond (.t 95) (.seq (.reg [.cpy 96 (.t 3), .nilchk 97 (.t 96), .addr 98 (.t 97) 5, .load 99 (.t 98) none, .addr 100 (.t 7) 1, .load 101 (.t 100) none, .lookup 102 (.t 99) (.t 101) none false (.agg [(.lit (.int .i64 0)), (.lit (.int .i64 0)), (.lit (.int .i64 0)), (.lit (.int .i64 0))]), .alloc 10 [(.lit (.int .i64 0)), (.lit (.int .i64 0)), (.lit (.int .i64 0)), (.lit (.int .i64 0))], .apart [] (.t 10) (.store (.t 10) (.t 102) 4 0)])
 (.seq (.reg [.addr 103 (.t 10) 2, .load 104 (.t 103) (some 2), .load 105 (.t 8) (some 2), .call 106 103 [(.t 104), (.t 105)], .addr 107 (.t 10) 2, .store (.t 107) (.t 106) 2 0])
 (.reg [.cpy 108 (.t 3), .nilchk 109 (.t 108), .addr 110 (.t 109) 5, .load 111 (.t 110) none, .addr 112 (.t 7) 1, .load 113 (.t 112) none, .load 114 (.t 10) (some 4), .mapUpd (.t 111) (.t 113) (.t 114) none]))) .skip)))))))
 (.reg [.bin 115 .add (.t 49) (.c (.lit (.int .i64 1))), .cpy 49 (.t 115)])))))))
 (.seq (.reg [.cpy 116 (.t 3), .asg 2 (.t 116), .frz 2, .frz 2])
 .ret)))))
def r88 : List MRes := [.tmp 2]
theorem tr88 : Try.f88.body.bind (trC Try.prog ann88 Try.f88.ntmps) = some m88 := by kernel_rfl
theorem rs88 : trRes Try.prog Try.f88.results.toList = some r88 := by kernel_rfl
theorem fn88 : isFunc Try.prog 88 = true := by kernel_rfl

/- (*duodecimo/owner.title).complete -/
def ann92 : Ann := { muts := [], nilsz := [], oid := [], frz := [6, 8], zero := [(6, [(.lit (.int .i64 0)), (.lit (.int .i64 0)), (.lit (.int .i64 0)), (.lit (.int .i64 0))]), (8, [(.lit (.int .i64 0)), (.lit (.int .i64 0)), (.lit (.int .i64 0))]), (41, [(.lit (.int .i64 0))])], ord := [], ap := [], own := [], yl := [], fz := [], imm := [], ic := [], cl := [], ylL := [], rl := [] }
def m92 : MCode := (.seq (.reg [.asg 4 (.c (.lit (.bool false)))])
 (.seq (.seq (.reg [.cpy 11 (.t 0), .nilchk 12 (.t 11), .addr 13 (.t 12) 0, .addr 14 (.t 13) 3, .load 15 (.t 14) none, .len 16 (.t 15), .cpy 17 (.c (.lit (.int .i64 0)))])
 (.block 0 (.loop (.seq (.reg [.bin 18 .lss (.t 17) (.t 16)])
 (.seq (.cond (.t 18) .skip (.exit 0))
 (.seq (.block 1 (.seq (.reg [.idxS 19 (.t 15) (.t 17) 4, .load 20 (.t 19) (some 4), .alloc 6 [(.lit (.int .i64 0)), (.lit (.int .i64 0)), (.lit (.int .i64 0)), (.lit (.int .i64 0))], .storeF 6 (.t 20) 4])
 (.seq (.reg [.cpy 21 (.t 1), .addr 22 (.t 6) 0, .load 23 (.t 22) none, .call 24 63 [(.t 21), (.t 23)], .not 25 (.t 24)])
 (.cond (.t 25) (.seq (.reg [.asg 4 (.c (.lit (.bool false)))])
 .ret) .skip))))
 (.reg [.bin 26 .add (.t 17) (.c (.lit (.int .i64 1))), .cpy 17 (.t 26)])))))))
 (.seq (.seq (.reg [.cpy 27 (.t 0), .nilchk 28 (.t 27), .addr 29 (.t 28) 0, .addr 30 (.t 29) 4, .load 31 (.t 30) none, .len 32 (.t 31), .cpy 33 (.c (.lit (.int .i64 0)))])
 (.block 2 (.loop (.seq (.reg [.bin 34 .lss (.t 33) (.t 32)])
 (.seq (.cond (.t 34) .skip (.exit 2))
 (.seq (.block 3 (.seq (.reg [.idxS 35 (.t 31) (.t 33) 3, .load 36 (.t 35) (some 3), .alloc 8 [(.lit (.int .i64 0)), (.lit (.int .i64 0)), (.lit (.int .i64 0))], .storeF 8 (.t 36) 3])
 (.seq (.reg [.addr 37 (.t 8) 1, .load 38 (.t 37) none, .addr 39 (.t 8) 2, .load 40 (.t 39) none, .mkS 41 2 1 [(.lit (.int .i64 0))] [(0, (.t 38)), (1, (.t 40))], .len 42 (.t 41), .cpy 43 (.c (.lit (.int .i64 0)))])
 (.block 4 (.loop (.seq (.reg [.bin 44 .lss (.t 43) (.t 42)])
 (.seq (.cond (.t 44) .skip (.exit 4))
 (.seq (.block 5 (.seq (.reg [.idxS 45 (.t 41) (.t 43) 1, .load 46 (.t 45) none, .asg 10 (.t 46)])
 (.seq (.reg [.cpy 47 (.t 10), .bin 48 .neq (.t 47) (.c (.lit (.int .i64 (-1)))), .cpy 49 (.t 48), .guard 49 true (some 50) (.cpy 50 (.t 1)), .guard 49 true (some 51) (.cpy 51 (.t 10)), .guard 49 true (some 52) (.call 52 63 [(.t 50), (.t 51)]), .guard 49 true (some 53) (.not 53 (.t 52)), .pick 54 (.t 49) (.t 53) (.c (.lit (.bool false)))])
 (.cond (.t 54) (.seq (.reg [.asg 4 (.c (.lit (.bool false)))])
 .ret) .skip))))
 (.reg [.bin 55 .add (.t 43) (.c (.lit (.int .i64 1))), .cpy 43 (.t 55)])))))))))
 (.reg [.bin 56 .add (.t 33) (.c (.lit (.int .i64 1))), .cpy 33 (.t 56)])))))))
 (.seq (.reg [.asg 4 (.c (.lit (.bool true)))])
 .ret))))
def r92 : List MRes := [.tmp 4]
theorem tr92 : Try.f92.body.bind (trC Try.prog ann92 Try.f92.ntmps) = some m92 := by kernel_rfl
theorem rs92 : trRes Try.prog Try.f92.results.toList = some r92 := by kernel_rfl
theorem fn92 : isFunc Try.prog 92 = true := by kernel_rfl

/- (*duodecimo/owner.title).beside -/
def ann93 : Ann := { muts := [], nilsz := [], oid := [], frz := [6], zero := [(6, [(.lit (.int .i64 0)), (.lit (.int .i64 0)), (.lit (.int .i64 0))])], ord := [(4, [0, 1, 2, 3, 4, 5, 6, 7, 8, 9, 10, 11, 12, 13, 14, 15, 16, 17, 18, 19])], ap := [], own := [], yl := [], fz := [], imm := [], ic := [], cl := [], ylL := [], rl := [] }
def m93 : MCode := (.seq (.reg [.asg 4 (.c (.lit (.bool false)))])
 (.seq (.seq (.reg [.cpy 7 (.t 0), .nilchk 8 (.t 7), .addr 9 (.t 8) 0, .addr 10 (.t 9) 4, .load 11 (.t 10) none, .len 12 (.t 11), .cpy 13 (.c (.lit (.int .i64 0)))])
 (.block 0 (.loop (.seq (.reg [.bin 14 .lss (.t 13) (.t 12)])
 (.seq (.cond (.t 14) .skip (.exit 0))
 (.seq (.block 1 (.seq (.reg [.idxS 15 (.t 11) (.t 13) 3, .load 16 (.t 15) (some 3), .alloc 6 [(.lit (.int .i64 0)), (.lit (.int .i64 0)), (.lit (.int .i64 0))], .storeF 6 (.t 16) 3])
 (.seq (.reg [.addr 17 (.t 6) 1, .load 18 (.t 17) none, .bin 19 .neq (.t 18) (.c (.lit (.int .i64 (-1)))), .cpy 20 (.t 19), .guard 20 true (some 21) (.addr 21 (.t 6) 2), .guard 20 true (some 22) (.load 22 (.t 21) none), .guard 20 true (some 23) (.bin 23 .neq (.t 22) (.c (.lit (.int .i64 (-1))))), .pick 24 (.t 20) (.t 23) (.c (.lit (.bool false))), .cpy 25 (.t 24), .guard 25 true (some 26) (.cpy 26 (.t 1)), .guard 25 true (some 27) (.addr 27 (.t 6) 2), .guard 25 true (some 28) (.load 28 (.t 27) none), .guard 25 true (some 29) (.call 29 68 [(.t 26), (.t 28)]), .guard 25 true (some 30) (.cpy 30 (.t 1)), .guard 25 true (some 31) (.addr 31 (.t 6) 1), .guard 25 true (some 32) (.load 32 (.t 31) none), .guard 25 true (some 33) (.call 33 68 [(.t 30), (.t 32)]), .guard 25 true (some 34) (.bin 34 .add (.t 33) (.c (.lit (.int .i64 1)))), .guard 25 true (some 35) (.bin 35 .neq (.t 29) (.t 34)), .pick 36 (.t 25) (.t 35) (.c (.lit (.bool false)))])
 (.cond (.t 36) (.seq (.reg [.asg 4 (.c (.lit (.bool false)))])
 .ret) .skip))))
 (.reg [.bin 37 .add (.t 13) (.c (.lit (.int .i64 1))), .cpy 13 (.t 37)])))))))
 (.seq (.reg [.asg 4 (.c (.lit (.bool true)))])
 .ret)))
def r93 : List MRes := [.tmp 4]
theorem tr93 : Try.f93.body.bind (trC Try.prog ann93 Try.f93.ntmps) = some m93 := by kernel_rfl
theorem rs93 : trRes Try.prog Try.f93.results.toList = some r93 := by kernel_rfl
theorem fn93 : isFunc Try.prog 93 = true := by kernel_rfl

/- (*duodecimo/owner.title).layered -/
def ann94 : Ann := { muts := [], nilsz := [], oid := [], frz := [6], zero := [(6, [(.lit (.int .i64 0)), (.lit (.int .i64 0)), (.lit (.int .i64 0)), (.lit (.int .i64 0))])], ord := [(4, [0, 1, 2, 3, 4, 5, 6, 7, 8, 9, 10, 11, 12, 13, 14, 15, 16, 17, 18, 19, 20, 21])], ap := [], own := [], yl := [], fz := [], imm := [], ic := [], cl := [], ylL := [], rl := [] }
def m94 : MCode := (.seq (.reg [.asg 4 (.c (.lit (.bool false)))])
 (.seq (.seq (.reg [.cpy 7 (.t 0), .nilchk 8 (.t 7), .addr 9 (.t 8) 0, .addr 10 (.t 9) 3, .load 11 (.t 10) none, .len 12 (.t 11), .cpy 13 (.c (.lit (.int .i64 0)))])
 (.block 0 (.loop (.seq (.reg [.bin 14 .lss (.t 13) (.t 12)])
 (.seq (.cond (.t 14) .skip (.exit 0))
 (.seq (.block 1 (.seq (.reg [.idxS 15 (.t 11) (.t 13) 4, .load 16 (.t 15) (some 4), .alloc 6 [(.lit (.int .i64 0)), (.lit (.int .i64 0)), (.lit (.int .i64 0)), (.lit (.int .i64 0))], .storeF 6 (.t 16) 4])
 (.seq (.reg [.addr 17 (.t 6) 3, .load 18 (.t 17) none, .bin 19 .neq (.t 18) (.c (.lit (.int .i64 (-1)))), .cpy 20 (.t 19), .guard 20 true (some 21) (.cpy 21 (.t 1)), .guard 20 true (some 22) (.addr 22 (.t 6) 0), .guard 20 true (some 23) (.load 23 (.t 22) none), .guard 20 true (some 24) (.call 24 68 [(.t 21), (.t 23)]), .guard 20 true (some 25) (.cpy 25 (.t 1)), .guard 20 true (some 26) (.cpy 26 (.t 0)), .guard 20 true (some 27) (.nilchk 27 (.t 26)), .guard 20 true (some 28) (.addr 28 (.t 27) 0), .guard 20 true (some 29) (.addr 29 (.t 28) 3), .guard 20 true (some 30) (.load 30 (.t 29) none), .guard 20 true (some 31) (.addr 31 (.t 6) 3), .guard 20 true (some 32) (.load 32 (.t 31) none), .guard 20 true (some 33) (.idxS 33 (.t 30) (.t 32) 4), .guard 20 true (some 34) (.addr 34 (.t 33) 0), .guard 20 true (some 35) (.load 35 (.t 34) none), .guard 20 true (some 36) (.call 36 68 [(.t 25), (.t 35)]), .guard 20 true (some 37) (.bin 37 .lss (.t 24) (.t 36)), .pick 38 (.t 20) (.t 37) (.c (.lit (.bool false)))])
 (.cond (.t 38) (.seq (.reg [.asg 4 (.c (.lit (.bool false)))])
 .ret) .skip))))
 (.reg [.bin 39 .add (.t 13) (.c (.lit (.int .i64 1))), .cpy 13 (.t 39)])))))))
 (.seq (.reg [.asg 4 (.c (.lit (.bool true)))])
 .ret)))
def r94 : List MRes := [.tmp 4]
theorem tr94 : Try.f94.body.bind (trC Try.prog ann94 Try.f94.ntmps) = some m94 := by kernel_rfl
theorem rs94 : trRes Try.prog Try.f94.results.toList = some r94 := by kernel_rfl
theorem fn94 : isFunc Try.prog 94 = true := by kernel_rfl

/- (*duodecimo/owner.title).solve -/
def ann64 : Ann := { muts := [176], nilsz := [], oid := [(177, 5000)], frz := [12, 16], zero := [(4, [(.lit (.slice none 0 0)), (.lit (.int .i64 0))]), (8, [(.lit (.int .i64 0)), (.lit (.int .i64 0)), (.lit (.int .i64 0)), (.lit (.int .i64 0)), (.lit (.int .i64 0)), (.lit (.int .i64 0)), (.lit (.int .i64 0)), (.lit (.int .i64 0)), (.lit (.int .i64 0))]), (12, [(.lit (.int .i64 0)), (.lit (.int .i64 0)), (.lit (.int .i64 0)), (.lit (.int .i64 0))]), (16, [(.lit (.int .i64 0)), (.lit (.int .i64 0)), (.lit (.int .i64 0)), (.lit (.int .i64 0))]), (26, [(.lit .nilFunc)]), (174, [(.lit (.int .i64 0)), (.lit (.int .i64 0)), (.lit (.int .i64 0))]), (175, [(.lit (.int .i64 0)), (.lit (.int .i64 0)), (.lit (.int .i64 0))]), (176, [(.lit (.int .i64 0)), (.lit (.int .i64 0)), (.lit (.int .i64 0))])], ord := [(21, [0, 1, 2, 3, 4, 5, 6, 7, 8, 9, 10]), (22, [0, 1, 2, 3, 4, 5, 6]), (40, [0, 1, 2, 3, 4, 5, 6, 7, 8, 9, 10, 11, 12, 13, 14, 15, 16])], ap := [(99, [])], own := [], yl := [], fz := [(5, [4]), (23, [4]), (27, [4]), (42, [4])], imm := [], ic := [], cl := [34], ylL := [], rl := [] }
def m64 : MCode := (.seq (.reg [.alloc 4 [(.lit (.slice none 0 0)), (.lit (.int .i64 0))], .asg 5 (.c (.lit (.bool false)))])
 (.seq (.seq (.reg [.cpy 20 (.t 0), .mkfn 21 (.func 92) [(.t 20)] [], .cpy 22 (.t 0), .mkfn 23 (.func 93) [(.t 22)] [], .cpy 24 (.t 0), .mkfn 25 (.func 94) [(.t 24)] [], .mkS 26 3 1 [(.lit .nilFunc)] [(0, (.t 21)), (1, (.t 23)), (2, (.t 25))], .len 27 (.t 26), .cpy 28 (.c (.lit (.int .i64 0)))])
 (.block 0 (.loop (.seq (.reg [.bin 29 .lss (.t 28) (.t 27)])
 (.seq (.cond (.t 29) .skip (.exit 0))
 (.seq (.block 1 (.seq (.reg [.idxS 30 (.t 26) (.t 28) 1, .load 31 (.t 30) none, .asg 7 (.t 31)])
 (.seq (.reg [.cpy 32 (.t 7), .cpy 33 (.t 1), .callvL 34 (.t 32) [(.t 33)], .not 35 (.t 34)])
 (.cond (.t 35) (.seq (.reg [.load 36 (.t 4) (some 2), .store (.t 4) (.t 36) 2 0, .asg 5 (.c (.lit (.bool false))), .frz 4])
 .ret) .skip))))
 (.reg [.bin 37 .add (.t 28) (.c (.lit (.int .i64 1))), .cpy 28 (.t 37)])))))))
 (.seq (.reg [.alloc 8 [(.lit (.int .i64 0)), (.lit (.int .i64 0)), (.lit (.int .i64 0)), (.lit (.int .i64 0)), (.lit (.int .i64 0)), (.lit (.int .i64 0)), (.lit (.int .i64 0)), (.lit (.int .i64 0)), (.lit (.int .i64 0))]])
 (.seq (.reg [.cpy 38 (.t 0), .nilchk 39 (.t 38), .addr 40 (.t 39) 0, .addr 41 (.t 40) 0, .load 42 (.t 41) none, .asg 9 (.t 42)])
 (.seq (.seq (.reg [.cpy 43 (.t 1), .len 44 (.t 43), .cpy 45 (.c (.lit (.int .i64 0)))])
 (.block 2 (.loop (.seq (.reg [.bin 46 .lss (.t 45) (.t 44)])
 (.seq (.cond (.t 46) .skip (.exit 2))
 (.seq (.block 3 (.seq (.reg [.idxS 47 (.t 43) (.t 45) 1, .load 48 (.t 47) none, .asg 11 (.t 48)])
 (.seq (.reg [.cpy 49 (.t 0), .nilchk 50 (.t 49), .addr 51 (.t 50) 5, .load 52 (.t 51) none, .cpy 53 (.t 11), .lookup 54 (.t 52) (.t 53) none false (.agg [(.lit (.int .i64 0)), (.lit (.int .i64 0)), (.lit (.int .i64 0)), (.lit (.int .i64 0))]), .alloc 12 [(.lit (.int .i64 0)), (.lit (.int .i64 0)), (.lit (.int .i64 0)), (.lit (.int .i64 0))], .storeF 12 (.t 54) 4])
 (.seq (.reg [.cpy 55 (.t 9), .addr 56 (.t 12) 0, .addr 57 (.t 56) 0, .load 58 (.t 57) none, .maxI 59 (.t 55) (.t 58), .asg 13 (.t 59)])
 (.seq (.reg [.cpy 60 (.t 13), .addr 61 (.t 12) 2, .addr 62 (.t 61) 0, .load 63 (.t 62) none, .maxI 64 (.t 60) (.t 63), .asg 14 (.t 64)])
 (.seq (.seq (.reg [.cpy 65 (.t 0), .nilchk 66 (.t 65), .addr 67 (.t 66) 0, .addr 68 (.t 67) 3, .load 69 (.t 68) none, .len 70 (.t 69), .cpy 71 (.c (.lit (.int .i64 0)))])
 (.block 4 (.loop (.seq (.reg [.bin 72 .lss (.t 71) (.t 70)])
 (.seq (.cond (.t 72) .skip (.exit 4))
 (.seq (.block 5 (.seq (.reg [.cpy 73 (.t 71), .idxS 74 (.t 69) (.t 71) 4, .load 75 (.t 74) (some 4), .alloc 16 [(.lit (.int .i64 0)), (.lit (.int .i64 0)), (.lit (.int .i64 0)), (.lit (.int .i64 0))], .asg 15 (.t 73), .storeF 16 (.t 75) 4])
 (.seq (.seq (.reg [.addr 76 (.t 16) 0, .load 77 (.t 76) none, .cpy 78 (.t 11), .bin 79 .neq (.t 77) (.t 78)])
 (.cond (.t 79) (.exit 5) .skip))
 (.seq (.reg [.cpy 80 (.t 15), .addr 81 (.t 16) 1, .addr 82 (.t 81) 0, .load 83 (.t 82) none, .cpy 84 (.t 13), .maxI 85 (.t 83) (.t 84), .idxA 86 (.t 8) (.t 80) 9 1, .store (.t 86) (.t 85) 1 0])
 (.seq (.seq (.reg [.addr 87 (.t 16) 3, .load 88 (.t 87) none, .bin 89 .neq (.t 88) (.c (.lit (.int .i64 (-1))))])
 (.cond (.t 89) (.reg [.cpy 90 (.t 15), .cpy 91 (.t 15), .idxA 92 (.t 8) (.t 91) 9 1, .load 93 (.t 92) none, .addr 94 (.t 16) 3, .load 95 (.t 94) none, .idxA 96 (.t 8) (.t 95) 9 1, .load 97 (.t 96) none, .maxI 98 (.t 93) (.t 97), .idxA 99 (.t 8) (.t 90) 9 1, .apart [] (.t 99) (.store (.t 99) (.t 98) 1 0)]) .skip))
 (.seq (.seq (.reg [.cpy 100 (.t 15), .idxA 101 (.t 8) (.t 100) 9 1, .load 102 (.t 101) none, .addr 103 (.t 16) 1, .addr 104 (.t 103) 1, .load 105 (.t 104) none, .bin 106 .gtr (.t 102) (.t 105)])
 (.cond (.t 106) (.seq (.reg [.load 107 (.t 4) (some 2), .store (.t 4) (.t 107) 2 0, .asg 5 (.c (.lit (.bool false))), .frz 4])
 .ret) .skip))
 (.reg [.cpy 108 (.t 14), .cpy 109 (.t 15), .idxA 110 (.t 8) (.t 109) 9 1, .load 111 (.t 110) none, .maxI 112 (.t 108) (.t 111), .asg 14 (.t 112)])))))))
 (.reg [.bin 113 .add (.t 71) (.c (.lit (.int .i64 1))), .cpy 71 (.t 113)])))))))
 (.seq (.seq (.reg [.cpy 114 (.t 13), .addr 115 (.t 12) 0, .addr 116 (.t 115) 1, .load 117 (.t 116) none, .bin 118 .gtr (.t 114) (.t 117), .cpy 119 (.t 118), .guard 119 false (some 120) (.cpy 120 (.t 14)), .guard 119 false (some 121) (.addr 121 (.t 12) 2), .guard 119 false (some 122) (.addr 122 (.t 121) 1), .guard 119 false (some 123) (.load 123 (.t 122) none), .guard 119 false (some 124) (.bin 124 .gtr (.t 120) (.t 123)), .pick 125 (.t 119) (.c (.lit (.bool true))) (.t 124)])
 (.cond (.t 125) (.seq (.reg [.load 126 (.t 4) (some 2), .store (.t 4) (.t 126) 2 0, .asg 5 (.c (.lit (.bool false))), .frz 4])
 .ret) .skip))
 (.seq (.seq (.reg [.addr 127 (.t 4) 0, .load 128 (.t 127) none, .len 129 (.t 128), .asg 17 (.t 129)])
 (.seq (.reg [.cpy 130 (.t 17), .bin 131 .gtr (.t 130) (.c (.lit (.int .i64 0)))])
 (.cond (.t 131) (.seq (.reg [.addr 132 (.t 4) 0, .load 133 (.t 132) none, .cpy 134 (.t 17), .bin 135 .sub (.t 134) (.c (.lit (.int .i64 1))), .idxS 136 (.t 133) (.t 135) 3, .asg 18 (.t 136)])
 (.seq (.seq (.reg [.cpy 137 (.t 13), .cpy 138 (.t 18), .nilchk 139 (.t 138), .addr 140 (.t 139) 2, .load 141 (.t 140) none, .bin 142 .gtr (.t 137) (.t 141)])
 (.cond (.t 142) (.reg [.addr 143 (.t 4) 1, .load 144 (.t 143) none, .bin 145 .add (.t 144) (.c (.lit (.int .i64 1))), .addr 146 (.t 4) 1, .store (.t 146) (.t 145) 1 0]) .skip))
 (.reg [.cpy 147 (.t 18), .cpy 148 (.t 18), .nilchk 149 (.t 148), .addr 150 (.t 149) 2, .load 151 (.t 150) none, .cpy 152 (.t 13), .minI 153 (.t 151) (.t 152), .nilchk 154 (.t 147), .addr 155 (.t 154) 2, .store (.t 155) (.t 153) 1 0]))) (.seq (.reg [.cpy 156 (.t 13), .cpy 157 (.t 0), .nilchk 158 (.t 157), .addr 159 (.t 158) 0, .addr 160 (.t 159) 0, .load 161 (.t 160) none, .bin 162 .gtr (.t 156) (.t 161)])
 (.cond (.t 162) (.reg [.addr 163 (.t 4) 1, .load 164 (.t 163) none, .bin 165 .add (.t 164) (.c (.lit (.int .i64 1))), .addr 166 (.t 4) 1, .store (.t 166) (.t 165) 1 0]) .skip)))))
 (.seq (.reg [.addr 167 (.t 4) 0, .load 168 (.t 167) none, .cpy 169 (.t 11), .cpy 170 (.t 13), .addr 171 (.t 12) 2, .addr 172 (.t 171) 1, .load 173 (.t 172) none, .build 174 [(.lit (.int .i64 0)), (.lit (.int .i64 0)), (.lit (.int .i64 0))] [(0, 1, (.t 169)), (1, 1, (.t 170)), (2, 1, (.t 173))], .mkS 175 1 3 [(.lit (.int .i64 0)), (.lit (.int .i64 0)), (.lit (.int .i64 0))] [(0, (.t 174))], .appM 176 (.t 168) (.t 175) 3 24 [(.lit (.int .i64 0)), (.lit (.int .i64 0)), (.lit (.int .i64 0))], .addr 177 (.t 4) 0, .store (.t 177) (.t 176) 1 5000])
 (.reg [.cpy 178 (.t 14), .asg 9 (.t 178)]))))))))))
 (.reg [.bin 179 .add (.t 45) (.c (.lit (.int .i64 1))), .cpy 45 (.t 179)])))))))
 (.seq (.seq (.reg [.addr 180 (.t 4) 0, .load 181 (.t 180) none, .len 182 (.t 181), .asg 19 (.t 182)])
 (.seq (.reg [.cpy 183 (.t 19), .bin 184 .eql (.t 183) (.c (.lit (.int .i64 0))), .cpy 185 (.t 184), .guard 185 false (some 186) (.addr 186 (.t 4) 0), .guard 185 false (some 187) (.load 187 (.t 186) none), .guard 185 false (some 188) (.cpy 188 (.t 19)), .guard 185 false (some 189) (.bin 189 .sub (.t 188) (.c (.lit (.int .i64 1)))), .guard 185 false (some 190) (.idxS 190 (.t 187) (.t 189) 3), .guard 185 false (some 191) (.addr 191 (.t 190) 2), .guard 185 false (some 192) (.load 192 (.t 191) none), .guard 185 false (some 193) (.cpy 193 (.t 0)), .guard 185 false (some 194) (.nilchk 194 (.t 193)), .guard 185 false (some 195) (.addr 195 (.t 194) 0), .guard 185 false (some 196) (.addr 196 (.t 195) 1), .guard 185 false (some 197) (.load 197 (.t 196) none), .guard 185 false (some 198) (.bin 198 .lss (.t 192) (.t 197)), .pick 199 (.t 185) (.c (.lit (.bool true))) (.t 198)])
 (.cond (.t 199) (.reg [.addr 200 (.t 4) 1, .load 201 (.t 200) none, .bin 202 .add (.t 201) (.c (.lit (.int .i64 1))), .addr 203 (.t 4) 1, .store (.t 203) (.t 202) 1 0]) .skip)))
 (.seq (.reg [.load 204 (.t 4) (some 2), .store (.t 4) (.t 204) 2 0, .asg 5 (.c (.lit (.bool true))), .frz 4])
 .ret)))))))
def r64 : List MRes := [.cell 4 (some 2), .tmp 5]
theorem tr64 : Try.f64.body.bind (trC Try.prog ann64 Try.f64.ntmps) = some m64 := by kernel_rfl
theorem rs64 : trRes Try.prog Try.f64.results.toList = some r64 := by kernel_rfl
theorem fn64 : isFunc Try.prog 64 = true := by kernel_rfl
end Go.Proofs.Ytiampdiobdianaa

namespace Go.Proofs.Ytiampdiobdianaa
open Go.Avm

/- (*duodecimo/owner.title).orders -/
def ann90 : Ann := { muts := [], nilsz := [], oid := [], frz := [], zero := [], ord := [], ap := [], own := [], yl := [], fz := [], imm := [], ic := [], cl := [], ylL := [], rl := [] }
def m90 : MCode := (.seq (.reg [.boxI 1 (.t 0) 1, .asg 2 (.c (.lit .nilFunc))])
 (.seq (.reg [.mkfn 3 (.func 104) [] [(.t 1)], .asg 2 (.t 3)])
 .ret))
def r90 : List MRes := [.tmp 2]
theorem tr90 : Try.f90.body.bind (trC Try.prog ann90 Try.f90.ntmps) = some m90 := by kernel_rfl
theorem rs90 : trRes Try.prog Try.f90.results.toList = some r90 := by kernel_rfl
theorem fn90 : isFunc Try.prog 90 = true := by kernel_rfl

/- (*duodecimo/owner.title).orders$1 -/
def ann104 : Ann := { muts := [], nilsz := [], oid := [(4, 5000)], frz := [3], zero := [(3, [(.lit (.int .i64 0))]), (4, [(.slice 1 [] 5000)]), (5, [(.lit .nilFunc)]), (17, [(.lit (.int .i64 0))])], ord := [], ap := [], own := [], yl := [], fz := [], imm := [], ic := [20], cl := [], ylL := [], rl := [] }
def m104 : MCode := (.seq (.reg [.boxI 2 (.t 0) 1])
 (.seq (.reg [.load 6 (.t 1) none, .nilchk 7 (.t 6), .addr 8 (.t 7) 0, .addr 9 (.t 8) 2, .load 10 (.t 9) none, .len 11 (.t 10), .bin 12 .add (.t 11) (.c (.lit (.int .i64 1))), .cpy 13 (.c (.lit (.int .i64 0)))])
 (.block 0 (.loop (.seq (.reg [.bin 14 .lss (.t 13) (.t 12)])
 (.seq (.cond (.t 14) .skip (.exit 0))
 (.seq (.block 1 (.seq (.reg [.cpy 15 (.t 13), .alloc 3 [(.lit (.int .i64 0))], .storeF 3 (.t 15) 1])
 (.seq (.reg [.load 16 (.t 3) none, .mkM 17 (.c (.lit (.int .i64 0))) (.t 16) 1 8 [(.lit (.int .i64 0))], .alloc 4 [(.slice 1 [] 5000)], .store (.t 4) (.t 17) 1 5000])
 (.seq (.reg [.alloc 5 [(.lit .nilFunc)]])
 (.seq (.reg [.mkfn 18 (.func 105) [] [(.t 4), (.t 3), (.t 2), (.t 1), (.t 5)], .store (.t 5) (.t 18) 1 0])
 (.seq (.reg [.load 19 (.t 5) none, .icallv 20 (.t 19) [], .not 21 (.t 20)])
 (.cond (.t 21) .ret .skip)))))))
 (.reg [.bin 22 .add (.t 13) (.c (.lit (.int .i64 1))), .cpy 13 (.t 22)]))))))))
def r104 : List MRes := []
theorem tr104 : Try.f104.body.bind (trC Try.prog ann104 Try.f104.ntmps) = some m104 := by kernel_rfl
theorem rs104 : trRes Try.prog Try.f104.results.toList = some r104 := by kernel_rfl
theorem fn104 : isFunc Try.prog 104 = true := by kernel_rfl

/- (*duodecimo/owner.title).orders$1$1 -/
def ann105 : Ann := { muts := [29, 37], nilsz := [], oid := [], frz := [], zero := [(28, [(.lit (.int .i64 0))])], ord := [], ap := [], own := [], yl := [], fz := [], imm := [], ic := [31], cl := [25], ylL := [(13, 3)], rl := [] }
def m105 : MCode := (.seq (.reg [.asg 5 (.c (.lit (.bool false)))])
 (.seq (.seq (.reg [.load 7 (.t 0) none, .len 8 (.t 7), .load 9 (.t 1) none, .bin 10 .eql (.t 8) (.t 9)])
 (.cond (.t 10) (.seq (.reg [.load 11 (.t 2) none, .load 12 (.t 0) none, .yldL 13 (.t 11) 0 (.t 12), .asg 5 (.t 13)])
 .ret) .skip))
 (.seq (.seq (.reg [.load 14 (.t 3) none, .nilchk 15 (.t 14), .addr 16 (.t 15) 0, .addr 17 (.t 16) 2, .load 18 (.t 17) none, .len 19 (.t 18), .cpy 20 (.c (.lit (.int .i64 0)))])
 (.block 0 (.loop (.seq (.reg [.bin 21 .lss (.t 20) (.t 19)])
 (.seq (.cond (.t 21) .skip (.exit 0))
 (.seq (.block 1 (.seq (.reg [.cpy 22 (.t 20), .asg 6 (.t 22)])
 (.seq (.seq (.reg [.load 23 (.t 0) none, .cpy 24 (.t 6), .callL 25 63 [(.t 23), (.t 24)]])
 (.cond (.t 25) (.exit 1) .skip))
 (.seq (.reg [.load 26 (.t 0) none, .cpy 27 (.t 6), .mkS 28 1 1 [(.lit (.int .i64 0))] [(0, (.t 27))], .appR 29 (.t 26) (.t 28) 1, .store (.t 0) (.t 29) 1 0])
 (.seq (.seq (.reg [.load 30 (.t 4) none, .icallv 31 (.t 30) [], .not 32 (.t 31)])
 (.cond (.t 32) (.seq (.reg [.asg 5 (.c (.lit (.bool false)))])
 .ret) .skip))
 (.reg [.load 33 (.t 0) none, .load 34 (.t 0) none, .len 35 (.t 34), .bin 36 .sub (.t 35) (.c (.lit (.int .i64 1))), .slcM 37 (.t 33) (.t 36) 1, .store (.t 0) (.t 37) 1 0]))))))
 (.reg [.bin 38 .add (.t 20) (.c (.lit (.int .i64 1))), .cpy 20 (.t 38)])))))))
 (.seq (.reg [.asg 5 (.c (.lit (.bool true)))])
 .ret))))
def r105 : List MRes := [.tmp 5]
theorem tr105 : Try.f105.body.bind (trC Try.prog ann105 Try.f105.ntmps) = some m105 := by kernel_rfl
theorem rs105 : trRes Try.prog Try.f105.results.toList = some r105 := by kernel_rfl
theorem fn105 : isFunc Try.prog 105 = true := by kernel_rfl

/- (*duodecimo/owner.title).all -/
def ann59 : Ann := { muts := [], nilsz := [], oid := [], frz := [], zero := [], ord := [], ap := [], own := [], yl := [], fz := [], imm := [], ic := [], cl := [], ylL := [], rl := [] }
def m59 : MCode := (.seq (.reg [.boxI 1 (.t 0) 1, .asg 2 (.c (.lit .nilFunc))])
 (.seq (.reg [.mkfn 3 (.func 89) [] [(.t 1)], .asg 2 (.t 3)])
 .ret))
def r59 : List MRes := [.tmp 2]
theorem tr59 : Try.f59.body.bind (trC Try.prog ann59 Try.f59.ntmps) = some m59 := by kernel_rfl
theorem rs59 : trRes Try.prog Try.f59.results.toList = some r59 := by kernel_rfl
theorem fn59 : isFunc Try.prog 59 = true := by kernel_rfl

/- (*duodecimo/owner.title).all$1 -/
def ann89 : Ann := { muts := [], nilsz := [], oid := [], frz := [4], zero := [(4, [(.slice 3 [] 5000), (.lit (.int .i64 0))]), (20, [(.lit (.int .i64 0))])], ord := [], ap := [], own := [], yl := [27], fz := [(6, [6])], imm := [], ic := [13], cl := [23], ylL := [], rl := [(8, 1)] }
def m89 : MCode := (.seq (.reg [.boxI 2 (.t 0) 1])
 (.seq .skip
 (.seq (.reg [.load 7 (.t 1) none, .call 8 90 [(.t 7)]])
 (.block 0 (.rangeL (.t 8) 0 [9] (.reg [.asg 3 (.t 9)])
 (.block 1 (.seq (.reg [.load 11 (.t 1) none, .cpy 12 (.t 3), .icall 13 64 [(.t 11), (.t 12)], .cpy 10 (.t 13), .ext 14 (.t 10) 0, .ext 15 (.t 10) 1, .alloc 4 [(.slice 3 [] 5000), (.lit (.int .i64 0))], .storeF 4 (.t 14) 2, .asg 5 (.t 15)])
 (.seq (.seq (.reg [.cpy 16 (.t 5), .not 17 (.t 16)])
 (.cond (.t 17) (.exit 1) .skip))
 (.seq (.reg [.cpy 18 (.t 3), .len 19 (.t 18), .mkM 20 (.t 19) (.t 19) 1 8 [(.lit (.int .i64 0))], .asg 6 (.t 20)])
 (.seq (.reg [.cpy 21 (.t 6), .cpy 22 (.t 3), .cpyMM 23 (.t 21) (.t 22) 1, .frz 6])
 (.seq (.reg [.load 24 (.t 2) none, .cpy 25 (.t 6), .load 26 (.t 4) (some 2), .yld 27 (.t 24) [(.t 25), (.t 26)], .not 28 (.t 27)])
 (.cond (.t 28) .ret .skip))))))))))))
def r89 : List MRes := []
theorem tr89 : Try.f89.body.bind (trC Try.prog ann89 Try.f89.ntmps) = some m89 := by kernel_rfl
theorem rs89 : trRes Try.prog Try.f89.results.toList = some r89 := by kernel_rfl
theorem fn89 : isFunc Try.prog 89 = true := by kernel_rfl

/- (*duodecimo/owner.title).some -/
def ann70 : Ann := { muts := [], nilsz := [], oid := [], frz := [], zero := [(2, [(.lit (.bool false))])], ord := [], ap := [], own := [], yl := [], fz := [], imm := [], ic := [], cl := [], ylL := [], rl := [] }
def m70 : MCode := (.seq (.reg [.alloc 2 [(.lit (.bool false))]])
 (.seq (.seq (.reg [.cpy 3 (.t 0), .call 4 59 [(.t 3)]])
 (.block 0 (.rangeF (.t 4) [5, 6] .skip
 (.block 1 (.seq (.reg [.store (.t 2) (.c (.lit (.bool true))) 1 0])
 .ret)))))
 (.seq (.reg [.store (.t 2) (.c (.lit (.bool false))) 1 0])
 .ret)))
def r70 : List MRes := [.cell 2 none]
theorem tr70 : Try.f70.body.bind (trC Try.prog ann70 Try.f70.ntmps) = some m70 := by kernel_rfl
theorem rs70 : trRes Try.prog Try.f70.results.toList = some r70 := by kernel_rfl
theorem fn70 : isFunc Try.prog 70 = true := by kernel_rfl

/- duodecimo/owner.best[[]int,duodecimo/owner.chain] -/
def ann58 : Ann := { muts := [], nilsz := [], oid := [], frz := [7], zero := [(4, [(.slice 3 [] 5000), (.lit (.int .i64 0))]), (5, [(.lit (.bool false))]), (7, [(.slice 3 [] 8000), (.lit (.int .i64 0))])], ord := [(3, [0, 1, 2, 3, 4, 5, 6, 7, 8, 9, 10]), (5, [0, 1, 2, 3])], ap := [(4, [(.t 5)]), (5, [])], own := [], yl := [], fz := [], imm := [], ic := [], cl := [], ylL := [], rl := [] }
def m58 : MCode := (.seq (.reg [.boxI 3 (.t 1) 1, .alloc 4 [(.slice 3 [] 5000), (.lit (.int .i64 0))], .alloc 5 [(.lit (.bool false))]])
 (.seq (.seq (.reg [.cpy 8 (.t 0)])
 (.block 0 (.rangeF (.t 8) [9, 10] (.reg [.alloc 7 [(.slice 3 [] 8000), (.lit (.int .i64 0))], .storeF 7 (.t 10) 2])
 (.block 1 (.seq (.reg [.load 11 (.t 5) none, .not 12 (.t 11), .cpy 13 (.t 12), .guard 13 false (some 14) (.load 14 (.t 3) none), .guard 13 false (some 15) (.load 15 (.t 7) (some 2)), .guard 13 false (some 16) (.callv 16 (.t 14) [(.t 15)]), .guard 13 false (some 17) (.load 17 (.t 3) none), .guard 13 false (some 18) (.load 18 (.t 4) (some 2)), .guard 13 false (some 19) (.callv 19 (.t 17) [(.t 18)]), .guard 13 false (some 20) (.bin 20 .lss (.t 16) (.t 19)), .pick 21 (.t 13) (.c (.lit (.bool true))) (.t 20)])
 (.cond (.t 21) (.reg [.load 22 (.t 7) (some 2), .store (.t 4) (.t 22) 2 0, .store (.t 5) (.c (.lit (.bool true))) 1 0]) .skip))))))
 (.seq (.reg [.load 23 (.t 4) (some 2), .load 24 (.t 5) none, .apart [(.t 5)] (.t 4) (.store (.t 4) (.t 23) 2 0), .apart [] (.t 5) (.store (.t 5) (.t 24) 1 0)])
 .ret)))
def r58 : List MRes := [.cell 4 (some 2), .cell 5 none]
theorem tr58 : Try.f58.body.bind (trC Try.prog ann58 Try.f58.ntmps) = some m58 := by kernel_rfl
theorem rs58 : trRes Try.prog Try.f58.results.toList = some r58 := by kernel_rfl
theorem fn58 : isFunc Try.prog 58 = true := by kernel_rfl

/- duodecimo/owner.Chain -/
def ann18 : Ann := { muts := [], nilsz := [(2, 3)], oid := [], frz := [6], zero := [(6, [(.slice 3 [] 7000), (.lit (.int .i64 0))])], ord := [(7, [0, 1, 2, 3, 4, 5, 6])], ap := [], own := [4], yl := [], fz := [], imm := [], ic := [], cl := [], ylL := [], rl := [] }
def m18 : MCode := (.seq (.reg [.boxI 1 (.t 0) 5, .asgNil 2 3, .asg 3 (.c (.lit (.int .i64 0))), .asg 4 (.c (.lit (.int .i64 0)))])
 (.seq (.reg [.load 9 (.t 1) (some 5), .call 10 57 [(.t 9)], .cpy 8 (.t 10), .ext 11 (.t 8) 0, .ext 12 (.t 8) 1, .asg 5 (.t 11), .asg 4 (.t 12)])
 (.seq (.seq (.reg [.cpy 13 (.t 4), .bin 14 .neq (.t 13) (.c (.lit (.int .i64 0)))])
 (.cond (.t 14) (.seq (.reg [.cpy 15 (.t 4), .asgNil 2 3, .asg 3 (.c (.lit (.int .i64 0))), .asg 4 (.t 15)])
 .ret) .skip))
 (.seq (.reg [.cpy 17 (.t 5), .call 18 59 [(.t 17)], .call 19 58 [(.t 18), (.c (.func (.func 60) [] []))], .cpy 16 (.t 19), .ext 20 (.t 16) 0, .ext 21 (.t 16) 1, .alloc 6 [(.slice 3 [] 7000), (.lit (.int .i64 0))], .storeF 6 (.t 20) 2, .asg 7 (.t 21)])
 (.seq (.seq (.reg [.cpy 22 (.t 7), .not 23 (.t 22)])
 (.cond (.t 23) (.seq (.reg [.asgNil 2 3, .asg 3 (.c (.lit (.int .i64 0))), .asg 4 (.c (.lit (.int .i64 8)))])
 .ret) .skip))
 (.seq (.reg [.addr 24 (.t 6) 0, .load 25 (.t 24) none, .addr 26 (.t 6) 1, .load 27 (.t 26) none, .cpyE 2 (.t 25), .cpyE 3 (.t 27), .asg 4 (.c (.lit (.int .i64 0)))])
 .ret))))))
def r18 : List MRes := [.tmp 2, .tmp 3, .tmp 4]
theorem tr18 : Try.f18.body.bind (trC Try.prog ann18 Try.f18.ntmps) = some m18 := by kernel_rfl
theorem rs18 : trRes Try.prog Try.f18.results.toList = some r18 := by kernel_rfl
theorem fn18 : isFunc Try.prog 18 = true := by kernel_rfl

/- duodecimo/owner.Why -/
def ann21 : Ann := { muts := [], nilsz := [], oid := [], frz := [9], zero := [(9, [(.slice 3 [] 10000), (.lit (.int .i64 0))])], ord := [], ap := [], own := [], yl := [], fz := [], imm := [], ic := [43], cl := [], ylL := [], rl := [] }
def m21 : MCode := (.seq (.reg [.boxI 2 (.t 0) 5, .asg 4 (.c (.lit (.int .i64 0))), .asg 5 (.c (.lit (.int .i64 0)))])
 (.seq (.reg [.load 12 (.t 2) (some 5), .call 13 57 [(.t 12)], .cpy 11 (.t 13), .ext 14 (.t 11) 0, .ext 15 (.t 11) 1, .asg 6 (.t 14), .asg 5 (.t 15)])
 (.seq (.block 0 (.seq (.reg [.cpy 17 (.t 5), .bin 18 .neq (.t 17) (.c (.lit (.int .i64 0))), .asg 16 (.t 18)])
 (.cond (.t 16) (.seq (.reg [.cpy 19 (.t 5), .asg 4 (.c (.lit (.int .i64 0))), .asg 5 (.t 19)])
 .ret) (.seq (.reg [.addr 21 (.t 2) 2, .load 22 (.t 21) none, .len 23 (.t 22), .bin 24 .sub (.t 23) (.c (.lit (.int .i64 1))), .cpy 25 (.t 1), .call 26 50 [(.c (.lit (.int .i64 0))), (.t 24), (.t 25)], .asg 20 (.t 26)])
 (.cond (.t 20) (.seq (.reg [.asg 4 (.c (.lit (.int .i64 0))), .asg 5 (.c (.lit (.int .i64 4)))])
 .ret) .skip)))))
 (.seq (.seq (.reg [.cpy 27 (.t 1), .len 28 (.t 27), .cpy 29 (.c (.lit (.int .i64 0)))])
 (.block 1 (.loop (.seq (.reg [.bin 30 .lss (.t 29) (.t 28)])
 (.seq (.cond (.t 30) .skip (.exit 1))
 (.seq (.block 2 (.seq (.reg [.cpy 31 (.t 29), .idxS 32 (.t 27) (.t 29) 1, .load 33 (.t 32) none, .asg 7 (.t 31), .asg 8 (.t 33)])
 (.seq (.reg [.cpy 34 (.t 1), .cpy 35 (.t 7), .slcHi 36 (.t 34) (.t 35) 1, .cpy 37 (.t 8), .call 38 63 [(.t 36), (.t 37)]])
 (.cond (.t 38) (.seq (.reg [.asg 4 (.c (.lit (.int .i64 0))), .asg 5 (.c (.lit (.int .i64 5)))])
 .ret) .skip))))
 (.reg [.bin 39 .add (.t 29) (.c (.lit (.int .i64 1))), .cpy 29 (.t 39)])))))))
 (.seq (.reg [.cpy 41 (.t 6), .cpy 42 (.t 1), .icall 43 64 [(.t 41), (.t 42)], .cpy 40 (.t 43), .ext 44 (.t 40) 0, .ext 45 (.t 40) 1, .alloc 9 [(.slice 3 [] 10000), (.lit (.int .i64 0))], .storeF 9 (.t 44) 2, .asg 10 (.t 45)])
 (.seq (.seq (.reg [.cpy 46 (.t 10), .not 47 (.t 46)])
 (.cond (.t 47) (.seq (.reg [.asg 4 (.c (.lit (.int .i64 0))), .asg 5 (.c (.lit (.int .i64 9)))])
 .ret) .skip))
 (.seq (.reg [.addr 48 (.t 9) 1, .load 49 (.t 48) none, .asg 4 (.t 49), .asg 5 (.c (.lit (.int .i64 0)))])
 .ret)))))))
def r21 : List MRes := [.tmp 4, .tmp 5]
theorem tr21 : Try.f21.body.bind (trC Try.prog ann21 Try.f21.ntmps) = some m21 := by kernel_rfl
theorem rs21 : trRes Try.prog Try.f21.results.toList = some r21 := by kernel_rfl
theorem fn21 : isFunc Try.prog 21 = true := by kernel_rfl

/- duodecimo/owner.Before -/
def ann24 : Ann := { muts := [], nilsz := [], oid := [], frz := [], zero := [(10, [(.lit (.int .i64 0)), (.lit (.int .i64 0)), (.lit (.int .i64 0))]), (30, [(.lit (.int .i64 0))]), (71, [(.lit (.int .i64 0)), (.lit (.int .i64 0)), (.lit (.int .i64 0))])], ord := [(11, [0, 1, 2, 3, 4, 5, 6, 7])], ap := [], own := [13], yl := [], fz := [], imm := [], ic := [], cl := [], ylL := [], rl := [] }
def m24 : MCode := (.seq (.reg [.boxI 3 (.t 0) 5, .boxI 4 (.t 1) 1, .boxI 5 (.t 2) 1, .asg 6 (.c (.lit (.int .i64 0))), .asg 7 (.c (.lit (.int .i64 0)))])
 (.seq (.reg [.load 15 (.t 3) (some 5), .call 16 57 [(.t 15)], .cpy 14 (.t 16), .ext 17 (.t 14) 0, .ext 18 (.t 14) 1, .asg 8 (.t 17), .asg 9 (.t 18)])
 (.seq (.block 0 (.seq (.reg [.cpy 20 (.t 9), .bin 21 .neq (.t 20) (.c (.lit (.int .i64 0))), .asg 19 (.t 21)])
 (.cond (.t 19) (.seq (.reg [.cpy 22 (.t 9), .asg 6 (.c (.lit (.int .i64 0))), .asg 7 (.t 22)])
 .ret) (.seq (.reg [.addr 24 (.t 3) 2, .load 25 (.t 24) none, .len 26 (.t 25), .bin 27 .sub (.t 26) (.c (.lit (.int .i64 1))), .load 28 (.t 4) none, .load 29 (.t 5) none, .mkS 30 2 1 [(.lit (.int .i64 0))] [(0, (.t 28)), (1, (.t 29))], .call 31 50 [(.c (.lit (.int .i64 0))), (.t 27), (.t 30)], .asg 23 (.t 31)])
 (.cond (.t 23) (.seq (.reg [.asg 6 (.c (.lit (.int .i64 0))), .asg 7 (.c (.lit (.int .i64 4)))])
 .ret) (.seq (.reg [.load 33 (.t 4) none, .load 34 (.t 5) none, .bin 35 .eql (.t 33) (.t 34), .asg 32 (.t 35)])
 (.cond (.t 32) (.seq (.reg [.asg 6 (.c (.lit (.int .i64 0))), .asg 7 (.c (.lit (.int .i64 2)))])
 .ret) .skip)))))))
 (.seq (.reg [.alloc 10 [(.lit (.int .i64 0)), (.lit (.int .i64 0)), (.lit (.int .i64 0))]])
 (.seq (.seq (.reg [.cpy 36 (.t 8), .call 37 59 [(.t 36)]])
 (.block 1 (.rangeF (.t 37) [38, 39] (.reg [.asg 11 (.t 38)])
 (.block 2 (.seq (.reg [.cpy 40 (.t 11), .load 41 (.t 4) none, .call 42 68 [(.t 40), (.t 41)], .cpy 43 (.t 11), .load 44 (.t 5) none, .call 45 68 [(.t 43), (.t 44)], .cpyE 12 (.t 42), .asg 13 (.t 45)])
 (.block 3 (.seq (.reg [.cpy 51 (.t 12), .bin 52 .lss (.t 51) (.c (.lit (.int .i64 0))), .cpy 53 (.t 52), .guard 53 false (some 54) (.cpy 54 (.t 13)), .guard 53 false (some 55) (.bin 55 .lss (.t 54) (.c (.lit (.int .i64 0)))), .pick 56 (.t 53) (.c (.lit (.bool true))) (.t 55), .asg 50 (.t 56)])
 (.cond (.t 50) (.reg [.idxA 57 (.t 10) (.c (.lit (.int .i64 0))) 3 1, .load 58 (.t 57) none, .bin 59 .add (.t 58) (.c (.lit (.int .i64 1))), .idxA 60 (.t 10) (.c (.lit (.int .i64 0))) 3 1, .store (.t 60) (.t 59) 1 0]) (.seq (.reg [.cpy 62 (.t 12), .cpy 63 (.t 13), .bin 64 .lss (.t 62) (.t 63), .asg 61 (.t 64)])
 (.cond (.t 61) (.reg [.idxA 65 (.t 10) (.c (.lit (.int .i64 1))) 3 1, .load 66 (.t 65) none, .bin 67 .add (.t 66) (.c (.lit (.int .i64 1))), .idxA 68 (.t 10) (.c (.lit (.int .i64 1))) 3 1, .store (.t 68) (.t 67) 1 0]) (.reg [.idxA 46 (.t 10) (.c (.lit (.int .i64 2))) 3 1, .load 47 (.t 46) none, .bin 48 .add (.t 47) (.c (.lit (.int .i64 1))), .idxA 49 (.t 10) (.c (.lit (.int .i64 2))) 3 1, .store (.t 49) (.t 48) 1 0])))))))))))
 (.seq (.block 4 (.seq (.reg [.load 70 (.t 10) (some 3), .build 71 [(.lit (.int .i64 0)), (.lit (.int .i64 0)), (.lit (.int .i64 0))] [], .binA 72 false [false, false, false] (.t 70) (.t 71), .asg 69 (.t 72)])
 (.cond (.t 69) (.seq (.reg [.asg 6 (.c (.lit (.int .i64 0))), .asg 7 (.c (.lit (.int .i64 8)))])
 .ret) (.seq (.reg [.idxA 74 (.t 10) (.c (.lit (.int .i64 1))) 3 1, .load 75 (.t 74) none, .bin 76 .gtr (.t 75) (.c (.lit (.int .i64 0))), .cpy 77 (.t 76), .guard 77 true (some 78) (.idxA 78 (.t 10) (.c (.lit (.int .i64 2))) 3 1), .guard 77 true (some 79) (.load 79 (.t 78) none), .guard 77 true (some 80) (.bin 80 .eql (.t 79) (.c (.lit (.int .i64 0)))), .pick 81 (.t 77) (.t 80) (.c (.lit (.bool false))), .asg 73 (.t 81)])
 (.cond (.t 73) (.seq (.reg [.asg 6 (.c (.lit (.int .i64 1))), .asg 7 (.c (.lit (.int .i64 0)))])
 .ret) (.seq (.reg [.idxA 83 (.t 10) (.c (.lit (.int .i64 2))) 3 1, .load 84 (.t 83) none, .bin 85 .gtr (.t 84) (.c (.lit (.int .i64 0))), .cpy 86 (.t 85), .guard 86 true (some 87) (.idxA 87 (.t 10) (.c (.lit (.int .i64 1))) 3 1), .guard 86 true (some 88) (.load 88 (.t 87) none), .guard 86 true (some 89) (.bin 89 .eql (.t 88) (.c (.lit (.int .i64 0)))), .pick 90 (.t 86) (.t 89) (.c (.lit (.bool false))), .asg 82 (.t 90)])
 (.cond (.t 82) (.seq (.reg [.asg 6 (.c (.lit (.int .i64 2))), .asg 7 (.c (.lit (.int .i64 0)))])
 .ret) .skip)))))))
 (.seq (.reg [.asg 6 (.c (.lit (.int .i64 0))), .asg 7 (.c (.lit (.int .i64 0)))])
 .ret)))))))
def r24 : List MRes := [.tmp 6, .tmp 7]
theorem tr24 : Try.f24.body.bind (trC Try.prog ann24 Try.f24.ntmps) = some m24 := by kernel_rfl
theorem rs24 : trRes Try.prog Try.f24.results.toList = some r24 := by kernel_rfl
theorem fn24 : isFunc Try.prog 24 = true := by kernel_rfl

/- (*duodecimo/owner.title).made -/
def ann71 : Ann := { muts := [], nilsz := [], oid := [(18, 8003)], frz := [], zero := [(7, [(.lit (.int .i64 0)), (.lit (.int .i64 0)), (.slice 3 [] 8002), (.slice 4 [] 8003), (.slice 3 [] 8004), (.lit (.map none))]), (25, [(.lit (.int .i64 0)), (.lit (.int .i64 0))])], ord := [], ap := [], own := [], yl := [], fz := [(3, [7, 7])], imm := [], ic := [16], cl := [], ylL := [], rl := [] }
def m71 : MCode := (.seq (.reg [.asg 6 (.c (.lit (.bool false)))])
 (.seq (.reg [.cpy 8 (.t 0), .nilchk 9 (.t 8), .load 10 (.t 9) (some 6), .alloc 7 [(.lit (.int .i64 0)), (.lit (.int .i64 0)), (.slice 3 [] 8002), (.slice 4 [] 8003), (.slice 3 [] 8004), (.lit (.map none))], .store (.t 7) (.t 10) 6 0])
 (.seq (.reg [.cpy 11 (.t 0), .nilchk 12 (.t 11), .addr 13 (.t 12) 0, .addr 14 (.t 13) 3, .load 15 (.t 14) none, .icall 16 95 [(.t 15)], .addr 17 (.t 7) 0, .addr 18 (.t 17) 3, .store (.t 18) (.t 16) 1 8003])
 (.seq (.reg [.addr 19 (.t 7) 0, .addr 20 (.t 19) 3, .load 21 (.t 20) none, .cpy 22 (.t 1), .cpy 23 (.t 2), .cpy 24 (.t 2), .build 25 [(.lit (.int .i64 0)), (.lit (.int .i64 0))] [(0, 1, (.t 23)), (1, 1, (.t 24))], .idxS 26 (.t 21) (.t 22) 4, .addr 27 (.t 26) 1, .store (.t 27) (.t 25) 2 0, .frz 7, .frz 7])
 (.seq (.reg [.call 28 70 [(.t 7)], .asg 6 (.t 28)])
 .ret)))))
def r71 : List MRes := [.tmp 6]
theorem tr71 : Try.f71.body.bind (trC Try.prog ann71 Try.f71.ntmps) = some m71 := by kernel_rfl
theorem rs71 : trRes Try.prog Try.f71.results.toList = some r71 := by kernel_rfl
theorem fn71 : isFunc Try.prog 71 = true := by kernel_rfl

/- duodecimo/owner.Year -/
def ann26 : Ann := { muts := [], nilsz := [], oid := [], frz := [], zero := [(4, [(.lit (.int .i64 0)), (.lit (.int .i64 0))]), (23, [(.lit (.int .i64 0))])], ord := [], ap := [], own := [], yl := [], fz := [], imm := [], ic := [], cl := [], ylL := [], rl := [] }
def m26 : MCode := (.seq (.reg [.boxI 2 (.t 0) 5, .alloc 4 [(.lit (.int .i64 0)), (.lit (.int .i64 0))], .asg 5 (.c (.lit (.int .i64 0)))])
 (.seq (.reg [.load 8 (.t 2) (some 5), .call 9 57 [(.t 8)], .cpy 7 (.t 9), .ext 10 (.t 7) 0, .ext 11 (.t 7) 1, .asg 6 (.t 10), .asg 5 (.t 11)])
 (.seq (.block 0 (.seq (.reg [.cpy 13 (.t 5), .bin 14 .neq (.t 13) (.c (.lit (.int .i64 0))), .asg 12 (.t 14)])
 (.cond (.t 12) (.seq (.reg [.load 15 (.t 4) (some 2), .cpy 16 (.t 5), .store (.t 4) (.t 15) 2 0, .asg 5 (.t 16)])
 .ret) (.seq (.reg [.addr 18 (.t 2) 3, .load 19 (.t 18) none, .len 20 (.t 19), .bin 21 .sub (.t 20) (.c (.lit (.int .i64 1))), .cpy 22 (.t 1), .mkS 23 1 1 [(.lit (.int .i64 0))] [(0, (.t 22))], .call 24 50 [(.c (.lit (.int .i64 0))), (.t 21), (.t 23)], .asg 17 (.t 24)])
 (.cond (.t 17) (.seq (.reg [.load 25 (.t 4) (some 2), .store (.t 4) (.t 25) 2 0, .asg 5 (.c (.lit (.int .i64 4)))])
 .ret) (.seq (.reg [.cpy 27 (.t 6), .call 28 70 [(.t 27)], .not 29 (.t 28), .asg 26 (.t 29)])
 (.cond (.t 26) (.seq (.reg [.load 30 (.t 4) (some 2), .store (.t 4) (.t 30) 2 0, .asg 5 (.c (.lit (.int .i64 8)))])
 .ret) .skip)))))))
 (.seq (.seq (.reg [.addr 31 (.t 2) 3, .load 32 (.t 31) none, .cpy 33 (.t 1), .idxS 34 (.t 32) (.t 33) 4, .addr 35 (.t 34) 1, .load 36 (.t 35) (some 2), .store (.t 4) (.t 36) 2 0])
 (.block 1 (.loop (.seq (.seq (.reg [.addr 37 (.t 4) 0, .load 38 (.t 37) none, .addr 39 (.t 4) 1, .load 40 (.t 39) none, .bin 41 .lss (.t 38) (.t 40), .cpy 42 (.t 41), .guard 42 true (some 43) (.cpy 43 (.t 6)), .guard 42 true (some 44) (.cpy 44 (.t 1)), .guard 42 true (some 45) (.addr 45 (.t 4) 0), .guard 42 true (some 46) (.load 46 (.t 45) none), .guard 42 true (some 47) (.call 47 71 [(.t 43), (.t 44), (.t 46)]), .guard 42 true (some 48) (.not 48 (.t 47)), .pick 49 (.t 42) (.t 48) (.c (.lit (.bool false)))])
 (.cond (.t 49) .skip (.exit 1)))
 (.seq (.block 2 .skip)
 (.reg [.addr 50 (.t 4) 0, .load 51 (.t 50) none, .bin 52 .add (.t 51) (.c (.lit (.int .i64 1))), .addr 53 (.t 4) 0, .store (.t 53) (.t 52) 1 0]))))))
 (.seq (.block 3 (.loop (.seq (.seq (.reg [.addr 54 (.t 4) 0, .load 55 (.t 54) none, .addr 56 (.t 4) 1, .load 57 (.t 56) none, .bin 58 .lss (.t 55) (.t 57), .cpy 59 (.t 58), .guard 59 true (some 60) (.cpy 60 (.t 6)), .guard 59 true (some 61) (.cpy 61 (.t 1)), .guard 59 true (some 62) (.addr 62 (.t 4) 1), .guard 59 true (some 63) (.load 63 (.t 62) none), .guard 59 true (some 64) (.call 64 71 [(.t 60), (.t 61), (.t 63)]), .guard 59 true (some 65) (.not 65 (.t 64)), .pick 66 (.t 59) (.t 65) (.c (.lit (.bool false)))])
 (.cond (.t 66) .skip (.exit 3)))
 (.seq (.block 4 .skip)
 (.reg [.addr 67 (.t 4) 1, .load 68 (.t 67) none, .bin 69 .sub (.t 68) (.c (.lit (.int .i64 1))), .addr 70 (.t 4) 1, .store (.t 70) (.t 69) 1 0])))))
 (.seq (.reg [.load 71 (.t 4) (some 2), .store (.t 4) (.t 71) 2 0, .asg 5 (.c (.lit (.int .i64 0)))])
 .ret))))))
def r26 : List MRes := [.cell 4 (some 2), .tmp 5]
theorem tr26 : Try.f26.body.bind (trC Try.prog ann26 Try.f26.ntmps) = some m26 := by kernel_rfl
theorem rs26 : trRes Try.prog Try.f26.results.toList = some r26 := by kernel_rfl
theorem fn26 : isFunc Try.prog 26 = true := by kernel_rfl

/- (*duodecimo/owner.title).owned -/
def ann73 : Ann := { muts := [4, 38], nilsz := [], oid := [(33, 7003)], frz := [], zero := [(6, [(.lit (.int .i64 0)), (.lit (.int .i64 0)), (.slice 3 [] 7002), (.slice 4 [] 7003), (.slice 3 [] 7004), (.lit (.map none))]), (28, [(.lit (.int .i64 0)), (.lit (.int .i64 0))]), (29, [(.lit (.int .i64 0)), (.lit (.int .i64 0)), (.lit (.int .i64 0)), (.lit (.int .i64 0))]), (30, [(.lit (.int .i64 0)), (.lit (.int .i64 0)), (.lit (.int .i64 0)), (.lit (.int .i64 0))]), (37, [(.lit (.int .i64 0))]), (38, [(.lit (.int .i64 0))])], ord := [], ap := [], own := [], yl := [], fz := [(5, [6]), (9, [4])], imm := [], ic := [24], cl := [], ylL := [], rl := [] }
def m73 : MCode := (.seq (.reg [.asg 4 (.c (.lit (.slice none 0 0)))])
 (.seq (.seq (.reg [.cpy 7 (.t 0), .nilchk 8 (.t 7), .addr 9 (.t 8) 0, .addr 10 (.t 9) 2, .load 11 (.t 10) none, .len 12 (.t 11), .cpy 13 (.c (.lit (.int .i64 0)))])
 (.block 0 (.loop (.seq (.reg [.bin 14 .lss (.t 13) (.t 12)])
 (.seq (.cond (.t 14) .skip (.exit 0))
 (.seq (.block 1 (.seq (.reg [.cpy 15 (.t 13), .asg 5 (.t 15)])
 (.seq (.reg [.cpy 16 (.t 0), .nilchk 17 (.t 16), .load 18 (.t 17) (some 6), .alloc 6 [(.lit (.int .i64 0)), (.lit (.int .i64 0)), (.slice 3 [] 7002), (.slice 4 [] 7003), (.slice 3 [] 7004), (.lit (.map none))], .store (.t 6) (.t 18) 6 0])
 (.seq (.reg [.cpy 19 (.t 0), .nilchk 20 (.t 19), .addr 21 (.t 20) 0, .addr 22 (.t 21) 3, .load 23 (.t 22) none, .icall 24 95 [(.t 23)], .cpy 25 (.t 5), .cpy 26 (.t 1), .cpy 27 (.t 1), .build 28 [(.lit (.int .i64 0)), (.lit (.int .i64 0))] [(0, 1, (.t 26)), (1, 1, (.t 27))], .build 29 [(.lit (.int .i64 0)), (.lit (.int .i64 0)), (.lit (.int .i64 0)), (.lit (.int .i64 0))] [(0, 1, (.t 25)), (1, 2, (.t 28)), (3, 1, (.c (.lit (.int .i64 (-1)))))], .mkS 30 1 4 [(.lit (.int .i64 0)), (.lit (.int .i64 0)), (.lit (.int .i64 0)), (.lit (.int .i64 0))] [(0, (.t 29))], .app 31 (.t 24) (.t 30) 4 32, .addr 32 (.t 6) 0, .addr 33 (.t 32) 3, .store (.t 33) (.t 31) 1 7003, .frz 6])
 (.seq (.reg [.call 34 70 [(.t 6)]])
 (.cond (.t 34) (.reg [.cpy 35 (.t 4), .cpy 36 (.t 5), .mkS 37 1 1 [(.lit (.int .i64 0))] [(0, (.t 36))], .appM 38 (.t 35) (.t 37) 1 8 [(.lit (.int .i64 0))], .asg 4 (.t 38)]) .skip))))))
 (.reg [.bin 39 .add (.t 13) (.c (.lit (.int .i64 1))), .cpy 13 (.t 39)])))))))
 (.seq (.reg [.cpy 40 (.t 4), .asg 4 (.t 40), .frz 4])
 .ret)))
def r73 : List MRes := [.tmp 4]
theorem tr73 : Try.f73.body.bind (trC Try.prog ann73 Try.f73.ntmps) = some m73 := by kernel_rfl
theorem rs73 : trRes Try.prog Try.f73.results.toList = some r73 := by kernel_rfl
theorem fn73 : isFunc Try.prog 73 = true := by kernel_rfl

/- duodecimo/owner.Owned -/
def ann28 : Ann := { muts := [], nilsz := [(4, 1)], oid := [], frz := [], zero := [(23, [(.lit (.int .i64 0))])], ord := [], ap := [], own := [], yl := [], fz := [], imm := [], ic := [], cl := [], ylL := [], rl := [] }
def m28 : MCode := (.seq (.reg [.boxI 2 (.t 0) 5, .asgNil 4 1, .asg 5 (.c (.lit (.int .i64 0)))])
 (.seq (.reg [.load 9 (.t 2) (some 5), .call 10 57 [(.t 9)], .cpy 8 (.t 10), .ext 11 (.t 8) 0, .ext 12 (.t 8) 1, .asg 6 (.t 11), .asg 7 (.t 12)])
 (.seq (.block 0 (.seq (.reg [.cpy 14 (.t 7), .bin 15 .neq (.t 14) (.c (.lit (.int .i64 0))), .asg 13 (.t 15)])
 (.cond (.t 13) (.seq (.reg [.cpy 16 (.t 7), .asgNil 4 1, .asg 5 (.t 16)])
 .ret) (.seq (.reg [.addr 18 (.t 2) 0, .load 19 (.t 18) none, .addr 20 (.t 2) 1, .load 21 (.t 20) none, .cpy 22 (.t 1), .mkS 23 1 1 [(.lit (.int .i64 0))] [(0, (.t 22))], .call 24 50 [(.t 19), (.t 21), (.t 23)], .asg 17 (.t 24)])
 (.cond (.t 17) (.seq (.reg [.asgNil 4 1, .asg 5 (.c (.lit (.int .i64 7)))])
 .ret) (.seq (.reg [.cpy 26 (.t 6), .call 27 70 [(.t 26)], .not 28 (.t 27), .asg 25 (.t 28)])
 (.cond (.t 25) (.seq (.reg [.asgNil 4 1, .asg 5 (.c (.lit (.int .i64 8)))])
 .ret) .skip)))))))
 (.seq (.reg [.cpy 29 (.t 6), .cpy 30 (.t 1), .call 31 73 [(.t 29), (.t 30)], .asg 4 (.t 31), .asg 5 (.c (.lit (.int .i64 0)))])
 .ret))))
def r28 : List MRes := [.tmp 4, .tmp 5]
theorem tr28 : Try.f28.body.bind (trC Try.prog ann28 Try.f28.ntmps) = some m28 := by kernel_rfl
theorem rs28 : trRes Try.prog Try.f28.results.toList = some r28 := by kernel_rfl
theorem fn28 : isFunc Try.prog 28 = true := by kernel_rfl

/- duodecimo/owner.Both -/
def ann31 : Ann := { muts := [], nilsz := [(6, 1)], oid := [], frz := [], zero := [(44, [(.lit (.int .i64 0))]), (93, [(.lit (.int .i64 0))])], ord := [], ap := [], own := [], yl := [], fz := [], imm := [], ic := [], cl := [], ylL := [], rl := [] }
def m31 : MCode := (.seq (.reg [.boxI 3 (.t 0) 5, .boxI 4 (.t 1) 5, .asgNil 6 1, .asg 7 (.c (.lit (.int .i64 0)))])
 (.seq (.reg [.load 16 (.t 3) (some 5), .call 17 57 [(.t 16)], .cpy 15 (.t 17), .ext 18 (.t 15) 0, .ext 19 (.t 15) 1, .asg 8 (.t 18), .asg 7 (.t 19)])
 (.seq (.seq (.reg [.cpy 20 (.t 7), .bin 21 .neq (.t 20) (.c (.lit (.int .i64 0)))])
 (.cond (.t 21) (.seq (.reg [.cpy 22 (.t 7), .asgNil 6 1, .asg 7 (.t 22)])
 .ret) .skip))
 (.seq (.reg [.load 24 (.t 4) (some 5), .call 25 57 [(.t 24)], .cpy 23 (.t 25), .ext 26 (.t 23) 0, .ext 27 (.t 23) 1, .asg 9 (.t 26), .asg 7 (.t 27)])
 (.seq (.block 0 (.seq (.reg [.cpy 29 (.t 7), .bin 30 .neq (.t 29) (.c (.lit (.int .i64 0))), .asg 28 (.t 30)])
 (.cond (.t 28) (.seq (.reg [.cpy 31 (.t 7), .asgNil 6 1, .asg 7 (.t 31)])
 .ret) (.seq (.reg [.addr 33 (.t 3) 0, .load 34 (.t 33) none, .addr 35 (.t 4) 0, .load 36 (.t 35) none, .maxI 37 (.t 34) (.t 36), .addr 38 (.t 3) 1, .load 39 (.t 38) none, .addr 40 (.t 4) 1, .load 41 (.t 40) none, .minI 42 (.t 39) (.t 41), .cpy 43 (.t 2), .mkS 44 1 1 [(.lit (.int .i64 0))] [(0, (.t 43))], .call 45 50 [(.t 37), (.t 42), (.t 44)], .asg 32 (.t 45)])
 (.cond (.t 32) (.seq (.reg [.asgNil 6 1, .asg 7 (.c (.lit (.int .i64 7)))])
 .ret) (.seq (.reg [.cpy 47 (.t 8), .call 48 70 [(.t 47)], .not 49 (.t 48), .cpy 50 (.t 49), .guard 50 false (some 51) (.cpy 51 (.t 9)), .guard 50 false (some 52) (.call 52 70 [(.t 51)]), .guard 50 false (some 53) (.not 53 (.t 52)), .pick 54 (.t 50) (.c (.lit (.bool true))) (.t 53), .asg 46 (.t 54)])
 (.cond (.t 46) (.seq (.reg [.asgNil 6 1, .asg 7 (.c (.lit (.int .i64 8)))])
 .ret) .skip)))))))
 (.seq (.reg [.mkMap 55, .asg 10 (.t 55)])
 (.seq (.seq (.reg [.cpy 56 (.t 9), .cpy 57 (.t 2), .call 58 73 [(.t 56), (.t 57)], .len 59 (.t 58), .cpy 60 (.c (.lit (.int .i64 0)))])
 (.block 1 (.loop (.seq (.reg [.bin 61 .lss (.t 60) (.t 59)])
 (.seq (.cond (.t 61) .skip (.exit 1))
 (.seq (.block 2 (.seq (.reg [.idxS 62 (.t 58) (.t 60) 1, .load 63 (.t 62) none, .asg 12 (.t 63)])
 (.reg [.cpy 64 (.t 10), .addr 65 (.t 4) 2, .load 66 (.t 65) none, .cpy 67 (.t 12), .idxS 68 (.t 66) (.t 67) 3, .addr 69 (.t 68) 0, .load 70 (.t 69) none, .lookup 71 (.t 64) (.t 70) (some 999) false (.lit (.int .i64 0)), .bin 72 .add (.t 71) (.c (.lit (.int .i64 1))), .mapUpd (.t 64) (.t 70) (.t 72) (some 999)])))
 (.reg [.bin 73 .add (.t 60) (.c (.lit (.int .i64 1))), .cpy 60 (.t 73)])))))))
 (.seq (.seq (.reg [.cpy 74 (.t 8), .cpy 75 (.t 2), .call 76 73 [(.t 74), (.t 75)], .len 77 (.t 76), .cpy 78 (.c (.lit (.int .i64 0)))])
 (.block 3 (.loop (.seq (.reg [.bin 79 .lss (.t 78) (.t 77)])
 (.seq (.cond (.t 79) .skip (.exit 3))
 (.seq (.block 4 (.seq (.reg [.idxS 80 (.t 76) (.t 78) 1, .load 81 (.t 80) none, .asg 14 (.t 81)])
 (.seq (.reg [.cpy 82 (.t 10), .addr 83 (.t 3) 2, .load 84 (.t 83) none, .cpy 85 (.t 14), .idxS 86 (.t 84) (.t 85) 3, .addr 87 (.t 86) 0, .load 88 (.t 87) none, .lookup 89 (.t 82) (.t 88) (some 999) false (.lit (.int .i64 0)), .bin 90 .gtr (.t 89) (.c (.lit (.int .i64 0)))])
 (.cond (.t 90) (.reg [.cpy 91 (.t 6), .cpy 92 (.t 14), .mkS 93 1 1 [(.lit (.int .i64 0))] [(0, (.t 92))], .app 94 (.t 91) (.t 93) 1 8, .asg 6 (.t 94)]) .skip))))
 (.reg [.bin 95 .add (.t 78) (.c (.lit (.int .i64 1))), .cpy 78 (.t 95)])))))))
 (.seq (.reg [.cpy 96 (.t 6), .asg 6 (.t 96), .asg 7 (.c (.lit (.int .i64 0)))])
 .ret)))))))))
def r31 : List MRes := [.tmp 6, .tmp 7]
theorem tr31 : Try.f31.body.bind (trC Try.prog ann31 Try.f31.ntmps) = some m31 := by kernel_rfl
theorem rs31 : trRes Try.prog Try.f31.results.toList = some r31 := by kernel_rfl
theorem fn31 : isFunc Try.prog 31 = true := by kernel_rfl

/- (*duodecimo/owner.title).without -/
def ann78 : Ann := { muts := [], nilsz := [(1000013, 4)], oid := [(13, 6003), (53, 6003)], frz := [], zero := [(5, [(.lit (.int .i64 0)), (.lit (.int .i64 0)), (.slice 3 [] 6002), (.slice 4 [] 6003), (.slice 3 [] 6004), (.lit (.map none))]), (6, [(.lit (.int .i64 0)), (.lit (.int .i64 0)), (.lit (.int .i64 0)), (.lit (.int .i64 0)), (.lit (.int .i64 0)), (.lit (.int .i64 0)), (.lit (.int .i64 0)), (.lit (.int .i64 0))]), (8, [(.lit (.int .i64 0)), (.lit (.int .i64 0)), (.lit (.int .i64 0)), (.lit (.int .i64 0))]), (50, [(.lit (.int .i64 0)), (.lit (.int .i64 0)), (.lit (.int .i64 0)), (.lit (.int .i64 0))])], ord := [], ap := [], own := [], yl := [], fz := [(14, [4])], imm := [], ic := [], cl := [], ylL := [], rl := [] }
def m78 : MCode := (.seq (.reg [.asg 4 (.c (.lit (.pointer none)))])
 (.seq (.reg [.cpy 9 (.t 0), .nilchk 10 (.t 9), .load 11 (.t 10) (some 6), .alloc 5 [(.lit (.int .i64 0)), (.lit (.int .i64 0)), (.slice 3 [] 6002), (.slice 4 [] 6003), (.slice 3 [] 6004), (.lit (.map none))], .store (.t 5) (.t 11) 6 0])
 (.seq (.reg [.addr 12 (.t 5) 0, .addr 13 (.t 12) 3, .storeNil (.t 13) 4 6003])
 (.seq (.reg [.alloc 6 [(.lit (.int .i64 0)), (.lit (.int .i64 0)), (.lit (.int .i64 0)), (.lit (.int .i64 0)), (.lit (.int .i64 0)), (.lit (.int .i64 0)), (.lit (.int .i64 0)), (.lit (.int .i64 0))]])
 (.seq (.seq (.reg [.cpy 14 (.t 0), .nilchk 15 (.t 14), .addr 16 (.t 15) 0, .addr 17 (.t 16) 3, .load 18 (.t 17) none, .len 19 (.t 18), .cpy 20 (.c (.lit (.int .i64 0)))])
 (.block 0 (.loop (.seq (.reg [.bin 21 .lss (.t 20) (.t 19)])
 (.seq (.cond (.t 21) .skip (.exit 0))
 (.seq (.block 1 (.seq (.reg [.cpy 22 (.t 20), .idxS 23 (.t 18) (.t 20) 4, .load 24 (.t 23) (some 4), .alloc 8 [(.lit (.int .i64 0)), (.lit (.int .i64 0)), (.lit (.int .i64 0)), (.lit (.int .i64 0))], .asg 7 (.t 22), .store (.t 8) (.t 24) 4 0])
 (.seq (.seq (.reg [.cpy 25 (.t 1), .cpy 26 (.t 7), .bin 27 .shr (.t 25) (.t 26), .bin 28 .and (.t 27) (.c (.lit (.int .i64 1))), .bin 29 .eql (.t 28) (.c (.lit (.int .i64 1)))])
 (.cond (.t 29) (.seq (.reg [.cpy 30 (.t 7), .idxA 31 (.t 6) (.t 30) 8 1, .store (.t 31) (.c (.lit (.int .i64 (-1)))) 1 0])
 (.exit 1)) .skip))
 (.seq (.seq (.reg [.addr 32 (.t 8) 3, .load 33 (.t 32) none, .bin 34 .neq (.t 33) (.c (.lit (.int .i64 (-1))))])
 (.cond (.t 34) (.reg [.addr 35 (.t 8) 3, .load 36 (.t 35) none, .idxA 37 (.t 6) (.t 36) 8 1, .load 38 (.t 37) none, .addr 39 (.t 8) 3, .store (.t 39) (.t 38) 1 0]) .skip))
 (.seq (.reg [.cpy 40 (.t 7), .addr 41 (.t 5) 0, .addr 42 (.t 41) 3, .load 43 (.t 42) none, .len 44 (.t 43), .idxA 45 (.t 6) (.t 40) 8 1, .store (.t 45) (.t 44) 1 0])
 (.reg [.addr 46 (.t 5) 0, .addr 47 (.t 46) 3, .load 48 (.t 47) none, .load 49 (.t 8) (some 4), .mkS 50 1 4 [(.lit (.int .i64 0)), (.lit (.int .i64 0)), (.lit (.int .i64 0)), (.lit (.int .i64 0))] [(0, (.t 49))], .app 51 (.t 48) (.t 50) 4 32, .addr 52 (.t 5) 0, .addr 53 (.t 52) 3, .store (.t 53) (.t 51) 1 6003]))))))
 (.reg [.bin 54 .add (.t 20) (.c (.lit (.int .i64 1))), .cpy 20 (.t 54)])))))))
 (.seq (.reg [.asg 4 (.t 5), .frz 4])
 .ret))))))
def r78 : List MRes := [.tmp 4]
theorem tr78 : Try.f78.body.bind (trC Try.prog ann78 Try.f78.ntmps) = some m78 := by kernel_rfl
theorem rs78 : trRes Try.prog Try.f78.results.toList = some r78 := by kernel_rfl
theorem fn78 : isFunc Try.prog 78 = true := by kernel_rfl

/- duodecimo/owner.Forged -/
def ann33 : Ann := { muts := [], nilsz := [(2, 1)], oid := [], frz := [], zero := [], ord := [], ap := [], own := [], yl := [], fz := [], imm := [], ic := [], cl := [], ylL := [], rl := [] }
def m33 : MCode := (.seq (.reg [.boxI 1 (.t 0) 5, .asgNil 2 1, .asg 3 (.c (.lit (.int .i64 0)))])
 (.seq (.reg [.load 10 (.t 1) (some 5), .call 11 57 [(.t 10)], .cpy 9 (.t 11), .ext 12 (.t 9) 0, .ext 13 (.t 9) 1, .asg 4 (.t 12), .asg 3 (.t 13)])
 (.seq (.seq (.reg [.cpy 14 (.t 3), .bin 15 .neq (.t 14) (.c (.lit (.int .i64 0)))])
 (.cond (.t 15) (.seq (.reg [.cpy 16 (.t 3), .asgNil 2 1, .asg 3 (.t 16)])
 .ret) .skip))
 (.seq (.reg [.asg 5 (.c (.lit (.int .i64 (-1))))])
 (.seq (.seq (.reg [.addr 17 (.t 1) 3, .load 18 (.t 17) none, .len 19 (.t 18), .bin 20 .shl (.c (.lit (.int .i64 1))) (.t 19), .cpy 21 (.c (.lit (.int .i64 0)))])
 (.block 0 (.loop (.seq (.reg [.bin 22 .lss (.t 21) (.t 20)])
 (.seq (.cond (.t 22) .skip (.exit 0))
 (.seq (.block 1 (.seq (.reg [.cpy 23 (.t 21), .asg 6 (.t 23)])
 (.seq (.reg [.cpy 24 (.t 6), .conv 25 .u64 (.t 24), .call 26 75 [(.t 25)], .asg 7 (.t 26)])
 (.seq (.reg [.cpy 27 (.t 6), .call 28 76 [(.t 27)], .asg 8 (.t 28)])
 (.seq (.seq (.reg [.cpy 29 (.t 5), .bin 30 .geq (.t 29) (.c (.lit (.int .i64 0))), .cpy 31 (.t 30), .guard 31 true (some 32) (.cpy 32 (.t 7)), .guard 31 true (some 33) (.cpy 33 (.t 5)), .guard 31 true (some 34) (.bin 34 .gtr (.t 32) (.t 33)), .guard 31 true (some 35) (.cpy 35 (.t 34)), .guard 35 false (some 36) (.cpy 36 (.t 7)), .guard 35 false (some 37) (.cpy 37 (.t 5)), .guard 35 false (some 38) (.bin 38 .eql (.t 36) (.t 37)), .guard 35 false (some 39) (.cpy 39 (.t 38)), .guard 39 true (some 40) (.cpy 40 (.t 8)), .guard 39 true (some 41) (.cpy 41 (.t 2)), .guard 39 true (some 42) (.call 42 77 [(.t 40), (.t 41)]), .guard 39 true (some 43) (.bin 43 .gtr (.t 42) (.c (.lit (.int .i64 0)))), .guard 35 false (some 44) (.pick 44 (.t 39) (.t 43) (.c (.lit (.bool false)))), .guard 31 true (some 45) (.pick 45 (.t 35) (.c (.lit (.bool true))) (.t 44)), .pick 46 (.t 31) (.t 45) (.c (.lit (.bool false)))])
 (.cond (.t 46) (.exit 1) .skip))
 (.seq (.reg [.cpy 47 (.t 4), .cpy 48 (.t 6), .call 49 78 [(.t 47), (.t 48)], .call 50 70 [(.t 49)]])
 (.cond (.t 50) (.reg [.cpy 51 (.t 8), .cpy 52 (.t 7), .asg 2 (.t 51), .asg 5 (.t 52)]) .skip)))))))
 (.reg [.bin 53 .add (.t 21) (.c (.lit (.int .i64 1))), .cpy 21 (.t 53)])))))))
 (.seq (.seq (.reg [.cpy 54 (.t 5), .bin 55 .lss (.t 54) (.c (.lit (.int .i64 0)))])
 (.cond (.t 55) (.seq (.reg [.asgNil 2 1, .asg 3 (.c (.lit (.int .i64 9)))])
 .ret) .skip))
 (.seq (.reg [.cpy 56 (.t 2), .asg 2 (.t 56), .asg 3 (.c (.lit (.int .i64 0)))])
 .ret)))))))
def r33 : List MRes := [.tmp 2, .tmp 3]
theorem tr33 : Try.f33.body.bind (trC Try.prog ann33 Try.f33.ntmps) = some m33 := by kernel_rfl
theorem rs33 : trRes Try.prog Try.f33.results.toList = some r33 := by kernel_rfl
theorem fn33 : isFunc Try.prog 33 = true := by kernel_rfl
end Go.Proofs.Ytiampdiobdianaa

namespace Go.Proofs.Ytiampdiobdianaa
open Go.Avm

/- slices.Clone[[]duodecimo/api.OwMark,duodecimo/api.OwMark] -/
def ann95w : Ann := { muts := [5, 7], nilsz := [(2, 4)], oid := [], frz := [], zero := [(5, [(.lit (.int .i64 0)), (.lit (.int .i64 0)), (.lit (.int .i64 0)), (.lit (.int .i64 0))]), (7, [(.lit (.int .i64 0)), (.lit (.int .i64 0)), (.lit (.int .i64 0)), (.lit (.int .i64 0))])], ord := [], ap := [], own := [], yl := [], fz := [], imm := [], ic := [], cl := [], ylL := [], rl := [] }
def m95w : MCode := (.seq (.reg [.asgNil 2 4])
 (.seq (.seq (.reg [.cpy 3 (.t 0), .isNil 4 false (.t 3)])
 (.cond (.t 4) (.seq (.reg [.asgNil 2 4])
 .ret) .skip))
 (.seq (.reg [.mkM 5 (.c (.lit (.int .i64 0))) (.c (.lit (.int .i64 0))) 4 32 [(.lit (.int .i64 0)), (.lit (.int .i64 0)), (.lit (.int .i64 0)), (.lit (.int .i64 0))], .cpy 6 (.t 0), .appM 7 (.t 5) (.t 6) 4 32 [(.lit (.int .i64 0)), (.lit (.int .i64 0)), (.lit (.int .i64 0)), (.lit (.int .i64 0))], .asg 2 (.t 7)])
 .ret)))
def r95w : List MRes := [.tmp 2]
theorem tr95w : Try.f95.body.bind (trC Try.prog ann95w Try.f95.ntmps) = some m95w := by kernel_rfl
theorem rs95w : trRes Try.prog Try.f95.results.toList = some r95w := by kernel_rfl
theorem fn95w : isFunc Try.prog 95 = true := by kernel_rfl
end Go.Proofs.Ytiampdiobdianaa
