/- The resolved code of some functions, written by program, each held against the function by the kernel. The resolved code of some functions, written by program, each held against the function by the kernel. What is seen of a gathering that was made so: what Told returns. What is seen of a gathering agrees with the way in which it was made: the law FoldTrue. What is seen of a gathering agrees with the way in which it was made: the law FoldTrue. -/
import Derived.Test.YtcfeipphmklakaaFG
import Derived.KernelRfl
import Derived.Test.YtcfeipphmklakaaFH
namespace Go.Proofs.Ytcfeipphmklakaa
open Go.Avm

/- duodecimo/duodecimolaw02.Told -/
def ann43 : Ann := { muts := [], nilsz := [], oid := [(157, 14006)], frz := [8, 9], zero := [(6, [(.lit (.int .i64 0)), (.lit (.int .i64 0)), (.lit (.int .i64 0)), (.lit (.int .i64 0)), (.lit (.int .i64 0)), (.lit (.int .i64 0)), (.slice 2 [] 7006)]), (7, [(.lit (.int .i64 0)), (.lit (.int .i64 0)), (.lit (.int .i64 0)), (.lit (.bool false))]), (8, [(.lit (.int .i64 0)), (.lit (.int .i64 0)), (.lit (.int .i64 0)), (.lit (.bool false))]), (9, [(.lit (.string ⟨#[]⟩)), (.lit (.int .i64 0)), (.lit (.int .i64 0)), (.lit (.int .i64 0)), (.lit (.int .i64 0))]), (13, [(.lit (.int .i64 0)), (.lit (.int .i64 0)), (.lit (.int .i64 0)), (.lit (.int .i64 0)), (.lit (.int .i64 0)), (.lit (.int .i64 0)), (.slice 2 [] 14006)]), (102, [(.lit (.int .i64 0)), (.lit (.int .i64 0)), (.lit (.int .i64 0)), (.lit (.int .i64 0)), (.lit (.int .i64 0)), (.lit (.int .i64 0)), (.lit (.slice none 0 0))]), (154, [(.lit (.int .i64 0)), (.lit (.bool false))]), (155, [(.lit (.int .i64 0)), (.lit (.bool false))])], ord := [(1, [0, 1, 2, 3, 4, 5, 6]), (3, [0, 1, 2, 3, 4, 5, 6, 7, 8, 9, 10, 11, 12, 13, 14, 15, 16, 17, 18, 19]), (4, [0, 1, 2, 3, 4, 5, 6, 7, 8, 9, 10]), (5, [0, 1, 2, 3, 4, 5, 6, 7, 8, 9, 10, 11]), (7, [0, 1, 2, 3, 4, 5, 6, 7, 8, 9, 10, 11, 12, 13, 14, 15, 16, 17, 18, 19, 20, 21, 22, 23, 24, 25, 26, 27, 28, 29, 30, 31, 32, 33, 34]), (17, [0, 1, 2, 3, 4, 5, 6, 7, 8, 9, 10, 11, 12, 13, 14, 15, 16, 17, 18, 19]), (18, [0, 1, 2, 3])], ap := [(6, [(.t 8)]), (7, []), (13, []), (157, [])], own := [11], yl := [], fz := [(7, [13])], imm := [] }
def m43 : MCode := (.seq (.reg [.boxI 3 (.t 0) 4, .boxI 4 (.t 1) 4, .alloc 6 [(.lit (.int .i64 0)), (.lit (.int .i64 0)), (.lit (.int .i64 0)), (.lit (.int .i64 0)), (.lit (.int .i64 0)), (.lit (.int .i64 0)), (.slice 2 [] 7006)], .alloc 7 [(.lit (.int .i64 0)), (.lit (.int .i64 0)), (.lit (.int .i64 0)), (.lit (.bool false))]])
 (.seq (.reg [.load 17 (.t 3) (some 4), .addr 18 (.t 4) 0, .load 19 (.t 18) none, .call 20 85 [(.t 19), (.c (.lit (.int .i64 0)))], .call 21 46 [(.t 17), (.t 20)], .alloc 8 [(.lit (.int .i64 0)), (.lit (.int .i64 0)), (.lit (.int .i64 0)), (.lit (.bool false))], .storeF 8 (.t 21) 4])
 (.seq (.reg [.addr 22 (.t 3) 1, .load 23 (.t 22) none, .addr 24 (.t 8) 1, .load 25 (.t 24) none, .idxS 26 (.t 23) (.t 25) 5, .load 27 (.t 26) (some 5), .alloc 9 [(.lit (.string ⟨#[]⟩)), (.lit (.int .i64 0)), (.lit (.int .i64 0)), (.lit (.int .i64 0)), (.lit (.int .i64 0))], .storeF 9 (.t 27) 5])
 (.seq (.reg [.load 29 (.t 3) (some 4), .load 30 (.t 8) (some 4), .addr 31 (.t 9) 1, .load 32 (.t 31) (some 2), .addr 33 (.t 4) 1, .load 34 (.t 33) none, .call 35 85 [(.t 34), (.c (.lit (.int .i64 0)))], .call 36 87 [(.t 32), (.t 35)], .addr 37 (.t 9) 3, .load 38 (.t 37) (some 2), .addr 39 (.t 4) 1, .load 40 (.t 39) none, .call 41 85 [(.t 40), (.c (.lit (.int .i64 1)))], .call 42 87 [(.t 38), (.t 41)], .call 43 86 [(.t 29), (.t 30), (.t 36), (.t 42)], .cpy 28 (.t 43), .ext 44 (.t 28) 0, .ext 45 (.t 28) 1, .cpyE 10 (.t 44), .asg 11 (.t 45)])
 (.seq (.reg [.cpy 46 (.t 10), .addr 47 (.t 4) 1, .load 48 (.t 47) none, .call 49 85 [(.t 48), (.c (.lit (.int .i64 2)))], .addr 50 (.t 3) 2, .load 51 (.t 50) none, .bin 52 .add (.t 51) (.c (.lit (.int .i64 1))), .bin 53 .rem (.t 49) (.t 52), .bin 54 .sub (.t 46) (.t 53), .maxI 55 (.c (.lit (.int .i64 0))) (.t 54), .cpyE 10 (.t 55)])
 (.seq (.reg [.cpy 56 (.t 11), .addr 57 (.t 4) 1, .load 58 (.t 57) none, .call 59 85 [(.t 58), (.c (.lit (.int .i64 3)))], .addr 60 (.t 3) 2, .load 61 (.t 60) none, .bin 62 .mul (.c (.lit (.int .i64 2))) (.t 61), .bin 63 .add (.t 62) (.c (.lit (.int .i64 1))), .bin 64 .rem (.t 59) (.t 63), .bin 65 .sub (.t 56) (.t 64), .maxI 66 (.c (.lit (.int .i64 0))) (.t 65), .asg 11 (.t 66)])
 (.seq (.reg [.load 67 (.t 3) (some 4), .load 68 (.t 8) (some 4), .call 69 69 [(.t 67), (.t 68)], .asg 12 (.t 69)])
 (.seq (.reg [.cpy 70 (.t 12), .len 71 (.t 70), .cpy 72 (.t 10), .addr 73 (.t 4) 3, .load 74 (.t 73) none, .call 75 85 [(.t 74), (.c (.lit (.int .i64 0)))], .bin 76 .rem (.t 75) (.c (.lit (.int .i64 9))), .bin 77 .sub (.t 72) (.t 76), .maxI 78 (.c (.lit (.int .i64 0))) (.t 77), .cpy 79 (.t 10), .addr 80 (.t 4) 3, .load 81 (.t 80) none, .call 82 85 [(.t 81), (.c (.lit (.int .i64 1)))], .bin 83 .rem (.t 82) (.c (.lit (.int .i64 9))), .bin 84 .add (.t 79) (.t 83), .minI 85 (.c (.lit (.int .i64 2000))) (.t 84), .call 86 40 [(.t 78), (.t 85)], .cpy 87 (.t 11), .addr 88 (.t 4) 3, .load 89 (.t 88) none, .call 90 85 [(.t 89), (.c (.lit (.int .i64 2)))], .bin 91 .rem (.t 90) (.c (.lit (.int .i64 9))), .bin 92 .sub (.t 87) (.t 91), .maxI 93 (.c (.lit (.int .i64 0))) (.t 92), .cpy 94 (.t 11), .addr 95 (.t 4) 3, .load 96 (.t 95) none, .call 97 85 [(.t 96), (.c (.lit (.int .i64 3)))], .bin 98 .rem (.t 97) (.c (.lit (.int .i64 9))), .bin 99 .add (.t 94) (.t 98), .minI 100 (.c (.lit (.int .i64 2000))) (.t 99), .call 101 40 [(.t 93), (.t 100)], .build 102 [(.lit (.int .i64 0)), (.lit (.int .i64 0)), (.lit (.int .i64 0)), (.lit (.int .i64 0)), (.lit (.int .i64 0)), (.lit (.int .i64 0)), (.lit (.slice none 0 0))] [(0, 1, (.t 71)), (2, 2, (.t 86)), (4, 2, (.t 101))], .alloc 13 [(.lit (.int .i64 0)), (.lit (.int .i64 0)), (.lit (.int .i64 0)), (.lit (.int .i64 0)), (.lit (.int .i64 0)), (.lit (.int .i64 0)), (.slice 2 [] 14006)], .apart [] (.t 13) (.store (.t 13) (.t 102) 7 0), .frz 13])
 (.seq (.reg [.addr 103 (.t 3) 0, .load 104 (.t 103) none, .addr 105 (.t 8) 0, .load 106 (.t 105) none, .idxS 107 (.t 104) (.t 106) 2, .addr 108 (.t 107) 1, .load 109 (.t 108) none, .asg 14 (.t 109)])
 (.seq (.seq (.reg [.addr 110 (.t 4) 3, .load 111 (.t 110) none, .call 112 85 [(.t 111), (.c (.lit (.int .i64 4)))], .bin 113 .rem (.t 112) (.c (.lit (.int .i64 3))), .bin 114 .gtr (.t 113) (.c (.lit (.int .i64 0)))])
 (.cond (.t 114) (.seq (.reg [.addr 115 (.t 13) 1, .store (.t 115) (.c (.lit (.int .i64 2))) 1 0])
 (.seq (.reg [.cpy 116 (.t 14), .cpy 117 (.t 14), .lenStr 118 (.t 117), .bin 119 .sub (.t 118) (.c (.lit (.int .i64 1))), .idxStr 120 (.t 116) (.t 119), .bin 121 .eql (.t 120) (.c (.lit (.int .u8 120)))])
 (.cond (.t 121) (.reg [.addr 122 (.t 13) 1, .store (.t 122) (.c (.lit (.int .i64 1))) 1 0]) .skip))) .skip))
 (.seq (.seq (.reg [.asg 15 (.c (.lit (.int .i64 0)))])
 (.block 0 (.loop (.seq (.seq (.reg [.cpy 123 (.t 15), .addr 124 (.t 4) 3, .load 125 (.t 124) none, .call 126 85 [(.t 125), (.c (.lit (.int .i64 5)))], .bin 127 .rem (.t 126) (.c (.lit (.int .i64 9))), .bin 128 .lss (.t 123) (.t 127)])
 (.cond (.t 128) .skip (.exit 0)))
 (.seq (.block 1 (.seq (.reg [.addr 131 (.t 4) 3, .load 132 (.t 131) none, .cpy 133 (.t 15), .bin 134 .add (.c (.lit (.int .i64 6))) (.t 133), .call 135 85 [(.t 132), (.t 134)], .cpy 136 (.t 12), .len 137 (.t 136), .bin 138 .rem (.t 135) (.t 137), .asg 16 (.t 138)])
 (.reg [.addr 139 (.t 13) 6, .load 140 (.t 139) none, .cpy 141 (.t 16), .load 142 (.t 3) (some 4), .load 143 (.t 8) (some 4), .cpy 144 (.t 16), .addr 145 (.t 4) 2, .load 146 (.t 145) none, .call 147 88 [(.t 142), (.t 143), (.t 144), (.t 146)], .cpy 148 (.t 2), .cpy 149 (.t 15), .bin 150 .shr (.t 148) (.t 149), .bin 151 .rem (.t 150) (.c (.lit (.int .u8 2))), .bin 152 .eql (.t 151) (.c (.lit (.int .u8 1))), .binB 153 true (.t 147) (.t 152), .build 154 [(.lit (.int .i64 0)), (.lit (.bool false))] [(0, 1, (.t 141)), (1, 1, (.t 153))], .mkS 155 1 2 [(.lit (.int .i64 0)), (.lit (.bool false))] [(0, (.t 154))], .app 156 (.t 140) (.t 155) 2 16, .addr 157 (.t 13) 6, .apart [] (.t 157) (.store (.t 157) (.t 156) 1 14006)])))
 (.reg [.cpy 129 (.t 15), .bin 130 .add (.t 129) (.c (.lit (.int .i64 1))), .asg 15 (.t 130)]))))))
 (.seq (.reg [.load 158 (.t 13) (some 7), .load 159 (.t 8) (some 4), .apart [(.t 8)] (.t 6) (.store (.t 6) (.t 158) 7 0), .apart [] (.t 7) (.store (.t 7) (.t 159) 4 0)])
 .ret))))))))))))
def r43 : List MRes := [.cell 6 (some 7), .cell 7 (some 4)]
theorem tr43 : Try.f43.body.bind (trC Try.prog ann43 Try.f43.ntmps) = some m43 := by kernel_rfl
theorem rs43 : trRes Try.prog Try.f43.results.toList = some r43 := by kernel_rfl
theorem fn43 : isFunc Try.prog 43 = true := by kernel_rfl
end Go.Proofs.Ytcfeipphmklakaa

namespace Go.Proofs.Ytcfeipphmklakaa
open Go.Avm

/- duodecimo/duodecimolaw02.FoldTrue -/
def ann7 : Ann := { muts := [], nilsz := [], oid := [], frz := [9, 10], zero := [(9, [(.lit (.int .i64 0)), (.lit (.int .i64 0)), (.lit (.int .i64 0)), (.lit (.int .i64 0)), (.lit (.int .i64 0)), (.lit (.int .i64 0)), (.slice 2 [] 10006)]), (10, [(.lit (.int .i64 0)), (.lit (.int .i64 0)), (.lit (.int .i64 0)), (.lit (.bool false))]), (27, [(.lit (.int .i64 0)), (.lit (.int .i64 0)), (.lit (.int .i64 0)), (.lit (.int .i64 0)), (.lit (.int .i64 0)), (.lit (.int .i64 0)), (.slice 2 [] 0)])], ord := [], ap := [], own := [], yl := [], fz := [], imm := [] }
def m7 : MCode := (.seq (.reg [.boxI 3 (.t 0) 4, .boxI 4 (.t 1) 4, .asg 6 (.c (.lit (.bool false)))])
 (.seq (.seq (.reg [.load 22 (.t 3) (some 4), .call 23 42 [(.t 22)], .not 24 (.t 23)])
 (.cond (.t 24) (.seq (.reg [.load 26 (.t 3) (some 4), .build 27 [(.lit (.int .i64 0)), (.lit (.int .i64 0)), (.lit (.int .i64 0)), (.lit (.int .i64 0)), (.lit (.int .i64 0)), (.lit (.int .i64 0)), (.slice 2 [] 0)] [], .call 28 30 [(.t 26), (.t 27)], .cpy 25 (.t 28), .ext 29 (.t 25) 0, .ext 30 (.t 25) 1, .asg 7 (.t 29), .asg 8 (.t 30)])
 (.seq (.reg [.cpy 31 (.t 8), .bin 32 .neq (.t 31) (.c (.lit (.int .i64 0))), .cpy 33 (.t 32), .guard 33 true (some 34) (.call 34 19 []), .pick 35 (.t 33) (.t 34) (.c (.lit (.bool false))), .asg 6 (.t 35)])
 .ret)) .skip))
 (.seq (.reg [.load 37 (.t 3) (some 4), .load 38 (.t 4) (some 4), .call 39 43 [(.t 37), (.t 38), (.c (.lit (.int .u8 0)))], .cpy 36 (.t 39), .ext 40 (.t 36) 0, .ext 41 (.t 36) 1, .alloc 9 [(.lit (.int .i64 0)), (.lit (.int .i64 0)), (.lit (.int .i64 0)), (.lit (.int .i64 0)), (.lit (.int .i64 0)), (.lit (.int .i64 0)), (.slice 2 [] 10006)], .alloc 10 [(.lit (.int .i64 0)), (.lit (.int .i64 0)), (.lit (.int .i64 0)), (.lit (.bool false))], .storeF 9 (.t 40) 7, .storeF 10 (.t 41) 4])
 (.seq (.reg [.load 43 (.t 3) (some 4), .load 44 (.t 9) (some 7), .call 45 30 [(.t 43), (.t 44)], .cpy 42 (.t 45), .ext 46 (.t 42) 0, .ext 47 (.t 42) 1, .asg 11 (.t 46), .asg 12 (.t 47)])
 (.seq (.reg [.load 49 (.t 3) (some 4), .load 50 (.t 9) (some 7), .call 51 35 [(.t 49), (.t 50)], .cpy 48 (.t 51), .ext 52 (.t 48) 0, .ext 53 (.t 48) 1, .asg 13 (.t 52), .asg 14 (.t 53)])
 (.seq (.reg [.cpy 54 (.t 2), .conv 55 .i64 (.t 54), .addr 56 (.t 9) 0, .load 57 (.t 56) none, .bin 58 .rem (.t 55) (.t 57), .asg 15 (.t 58)])
 (.seq (.reg [.load 60 (.t 3) (some 4), .load 61 (.t 9) (some 7), .cpy 62 (.t 15), .call 63 33 [(.t 60), (.t 61), (.t 62)], .cpy 59 (.t 63), .ext 64 (.t 59) 0, .ext 65 (.t 59) 1, .ext 66 (.t 59) 2, .asg 16 (.t 64), .asg 17 (.t 65), .asg 18 (.t 66)])
 (.seq (.reg [.load 68 (.t 3) (some 4), .load 69 (.t 10) (some 4), .cpy 70 (.t 15), .call 71 26 [(.t 68), (.t 69), (.t 70)], .cpy 67 (.t 71), .ext 72 (.t 67) 0, .ext 73 (.t 67) 1, .ext 74 (.t 67) 2, .asg 19 (.t 72), .asg 20 (.t 73), .asg 21 (.t 74)])
 (.seq (.reg [.cpy 75 (.t 12), .bin 76 .eql (.t 75) (.c (.lit (.int .i64 0))), .cpy 77 (.t 76), .guard 77 true (some 78) (.cpy 78 (.t 14)), .guard 77 true (some 79) (.bin 79 .eql (.t 78) (.c (.lit (.int .i64 0)))), .pick 80 (.t 77) (.t 79) (.c (.lit (.bool false))), .cpy 81 (.t 80), .guard 81 true (some 82) (.cpy 82 (.t 18)), .guard 81 true (some 83) (.bin 83 .eql (.t 82) (.c (.lit (.int .i64 0)))), .pick 84 (.t 81) (.t 83) (.c (.lit (.bool false))), .cpy 85 (.t 84), .guard 85 true (some 86) (.cpy 86 (.t 21)), .guard 85 true (some 87) (.bin 87 .eql (.t 86) (.c (.lit (.int .i64 0)))), .pick 88 (.t 85) (.t 87) (.c (.lit (.bool false))), .cpy 89 (.t 88), .guard 89 true (some 90) (.cpy 90 (.t 11)), .guard 89 true (some 91) (.load 91 (.t 10) (some 4)), .guard 89 true (some 92) (.call 92 44 [(.t 90), (.t 91)]), .pick 93 (.t 89) (.t 92) (.c (.lit (.bool false))), .cpy 94 (.t 93), .guard 94 true (some 95) (.cpy 95 (.t 13)), .guard 94 true (some 96) (.len 96 (.t 95)), .guard 94 true (some 97) (.bin 97 .eql (.t 96) (.c (.lit (.int .i64 0)))), .pick 98 (.t 94) (.t 97) (.c (.lit (.bool false))), .cpy 99 (.t 98), .guard 99 true (some 100) (.cpy 100 (.t 16)), .guard 99 true (some 101) (.cpy 101 (.t 19)), .guard 99 true (some 102) (.call 102 45 [(.t 100), (.t 101)]), .pick 103 (.t 99) (.t 102) (.c (.lit (.bool false))), .cpy 104 (.t 103), .guard 104 true (some 105) (.cpy 105 (.t 19)), .guard 104 true (some 106) (.cpy 106 (.t 17)), .guard 104 true (some 107) (.call 107 45 [(.t 105), (.t 106)]), .pick 108 (.t 104) (.t 107) (.c (.lit (.bool false))), .cpy 109 (.t 108), .guard 109 true (some 110) (.call 110 19 []), .pick 111 (.t 109) (.t 110) (.c (.lit (.bool false))), .asg 6 (.t 111)])
 .ret)))))))))
def r7 : List MRes := [.tmp 6]
theorem tr7 : Try.f7.body.bind (trC Try.prog ann7 Try.f7.ntmps) = some m7 := by kernel_rfl
theorem rs7 : trRes Try.prog Try.f7.results.toList = some r7 := by kernel_rfl
theorem fn7 : isFunc Try.prog 7 = true := by kernel_rfl
end Go.Proofs.Ytcfeipphmklakaa

namespace Go.Proofs.Ytcfeipphmklakaa
open Go.Avm

theorem span40_ok7 (lo hi : Int) : PCall Try.prog 40 [I lo, I hi] (.agg [I lo, I hi]) := by
  refine pcall Try.func40 tr40 rs40 fn40 (by simp [Try.ntmps40]) fun hfit => ?_
  simp -implicitDefEqProofs [m40, r40]

theorem vMaxE (P : Program) (ms : List MOp) (K : St → Prop) (s : St) (d : Nat) (k k' : IntKind) (a b : Int) : vMax P ms K s d (.lit (.int k a)) (.lit (.int k' b)) = vcs P ms K (s.set d (.lit (.int k (mx a b)))) := rfl
theorem vMinE (P : Program) (ms : List MOp) (K : St → Prop) (s : St) (d : Nat) (k k' : IntKind) (a b : Int) : vMin P ms K s d (.lit (.int k a)) (.lit (.int k' b)) = vcs P ms K (s.set d (.lit (.int k (mn a b)))) := rfl

/-- What stays as it is while Told looks. -/
structure W43 (p : Prs) (x : Past) (m : Mk) (nb b6 b7 : Nat) (st : St) : Prop where
  ne : b7 ≠ b6
  e2 : st.env 2 = .lit (.int .u8 nb)
  e3 : st.env 3 = PRef p
  e4 : st.env 4 = .ref x.cs
  e6 : st.env 6 = .mref b6 0
  e7 : st.env 7 = .mref b7 0
  e8 : st.env 8 = .ref m.cs
  l6 : ∃ Z, st.loc b6 = some Z ∧ Z.length = 7
  l7 : ∃ Z, st.loc b7 = some Z ∧ Z.length = 4

theorem told43_ok {p : Prs} (he : errE p = 0) {x : Past} (hx : okPast x) {nb : Nat} (hnb : nb ≤ 255) : PCall Try.prog 43 [p.av, x.av, .lit (.int .u8 nb)] (.tuple [(toldB p x nb).av, (toldM p x).av]) := by
  refine pcall Try.func43 tr43 rs43 fn43 (by simp [Try.ntmps43]) fun hfit => ?_
  have hp := right_of he
  have hm := toldM_right he (x := x)
  have cm : PCall Try.prog 46 [p.av, I (turnM x.make 0)] (toldM p x).av := by
    have h0 := turnM_ok hx.make 0
    have := made46_ok he (turnM x.make 0).toNat
    rwa [Int.toNat_of_nonneg h0.1] at this
  have tm := turn85_ok hx.make
  have ts := turn85_ok hx.sizes
  have tl := turn85_ok hx.looked
  unfold toldB
  obtain ⟨_, f2, f3, f4, f5, _, _⟩ := told_facts he hx hm
  generalize toldM p x = m at *
  have hlen := lv_len hp hm
  obtain ⟨g, hg⟩ : ∃ g : Nat, m.paper = g := ⟨m.paper.toNat, by have := hm.ppr; omega⟩
  have hgl : g < p.pprs.length := by have := hm.ppr; omega
  have hw := spansE_zero (hp.wide g hgl)
  have hq : p.pprs.getD m.paper.toNat zPpr = p.pprs[g] := by rw [hg, Int.toNat_natCast, List.getD_eq_getElem?_getD, List.getElem?_eq_getElem hgl, Option.getD_some]
  have c36 := among87_ok p.pprs[g].wide (turnM x.sizes 0) (by omega) (turnM_ok hx.sizes 0)
  have c42 := among87_ok p.pprs[g].high (turnM x.sizes 1) (by omega) (turnM_ok hx.sizes 1)
  have a1 := amongM_in hw.1.2.2 (turnM_ok hx.sizes 0).1
  have a2 := amongM_in hw.2.2.2 (turnM_ok hx.sizes 1).1
  obtain ⟨aw, haw⟩ : ∃ a, a = amongM p.pprs[g].wide (turnM x.sizes 0) := ⟨_, rfl⟩
  obtain ⟨ah, hah⟩ : ∃ a, a = amongM p.pprs[g].high (turnM x.sizes 1) := ⟨_, rfl⟩
  rw [← haw] at c36 a1
  rw [← hah] at c42 a2
  have c43 := size86_ok hp hm aw ah (by omega) (by omega)
  have s3 := sizeM_in hp hm (a := aw) (b := ah) (A := 2000) (B := 2000) (by omega) (by omega)
  obtain ⟨Z, hZ⟩ : ∃ Z, Z = sizeM (codes (foldsOf p m)) aw ah := ⟨_, rfl⟩
  rw [← hZ] at c43 s3
  have hsz : szT p m x = Z := by unfold szT; rw [hq, ← haw, ← hah, hZ]
  have hW : wideT p m x = mx 0 (Z.1 - (turnM x.sizes 2).tmod (p.trim + 1)) := by unfold wideT; rw [hsz]
  have hH : highT p m x = mx 0 (Z.2 - (turnM x.sizes 3).tmod (2 * p.trim + 1)) := by unfold highT; rw [hsz]
  have hmax : max (2000 : Int) 2000 = 2000 := by omega
  rw [hmax] at s3
  have tr := hp.trim
  have t2 := tmod_in (turnM_ok hx.sizes 2).1 (show 0 < p.trim + 1 by omega)
  have t3 := tmod_in (turnM_ok hx.sizes 3).1 (show 0 < 2 * p.trim + 1 by omega)
  obtain ⟨z1, z2⟩ := Z
  simp only at c43 s3 hW hH
  clear hZ hsz haw hah
  unfold m43
  refine cutS (fun st => ∃ b6 b7, b7 ≠ b6 ∧ st.env 2 = .lit (.int .u8 nb) ∧ st.env 3 = PRef p ∧ st.env 4 = .ref x.cs ∧ st.env 6 = .mref b6 0 ∧ st.env 7 = .mref b7 0 ∧ (∃ Z, st.loc b6 = some Z ∧ Z.length = 7) ∧ (∃ Z, st.loc b7 = some Z ∧ Z.length = 4)) (fun k hk => ?_) ?_
  · simp -implicitDefEqProofs
    intro b6 b7 hne
    exact hk _ ⟨b6, b7, hne, by simp, by simp, by simp, by simp, by simp, ⟨_, by simp [Ne.symm hne]; rfl, rfl⟩, ⟨_, by simp; rfl, rfl⟩⟩
  rintro st ⟨b6, b7, hne, e2, e3, e4, e6, e7, ⟨Z6, l6, h6⟩, ⟨Z7, l7, h7⟩⟩
  refine cutS (W43 p x m nb b6 b7) (fun k hk => ?_) ?_
  · simp -implicitDefEqProofs [e3, e4]
    refine vCall_of (tm 0) ?_
    simp -implicitDefEqProofs
    refine vCall_of cm ?_
    simp -implicitDefEqProofs
    intro b8 n8
    have n86 : ¬ b8 = b6 := fun e => by rw [e, l6] at n8; cases n8
    have n87 : ¬ b8 = b7 := fun e => by rw [e, l7] at n8; cases n8
    exact hk _ ⟨hne, by simp [e2], by simp [e3], by simp [e4], by simp [e6], by simp [e7], by simp, ⟨_, by simp [n86, Ne.symm n86, l6], h6⟩, ⟨_, by simp [n87, Ne.symm n87, l7], h7⟩⟩
  clear e2 e3 e4 e6 e7 l6 l7 h6 h7
  rintro st ⟨hne, e2, e3, e4, e6, e7, e8, ⟨Z6, l6, h6⟩, ⟨Z7, l7, h7⟩⟩
  refine cutS (fun st => W43 p x m nb b6 b7 st ∧ st.env 9 = .ref p.pprs[g].cs) (fun k hk => ?_) ?_
  · have hg0 : (0 : Int) ≤ m.paper := by omega
    have hg1 : m.paper < (p.pprs.length : Int) := by omega
    have hg2 : m.paper.toNat = g := by omega
    simp -implicitDefEqProofs [e3, e8, hg0, hg1, hg2, hgl]
    intro b9 n9
    have n96 : ¬ b9 = b6 := fun e => by rw [e, l6] at n9; cases n9
    have n97 : ¬ b9 = b7 := fun e => by rw [e, l7] at n9; cases n9
    exact hk _ ⟨⟨hne, by simp [e2], by simp [e3], by simp [e4], by simp [e6], by simp [e7], by simp [e8], ⟨_, by simp [n96, Ne.symm n96, l6], h6⟩, ⟨_, by simp [n97, Ne.symm n97, l7], h7⟩⟩, by simp⟩
  clear e2 e3 e4 e6 e7 e8 l6 l7 h6 h7
  rintro st ⟨⟨hne, e2, e3, e4, e6, e7, e8, ⟨Z6, l6, h6⟩, ⟨Z7, l7, h7⟩⟩, e9⟩
  refine cutS (fun st => W43 p x m nb b6 b7 st ∧ st.env 10 = I z1 ∧ st.env 11 = I z2) (fun k hk => ?_) ?_
  · simp -implicitDefEqProofs [e3, e4, e8, e9]
    refine vCall_of (ts 0) ?_
    simp -implicitDefEqProofs [e3, e4, e8, e9]
    refine vCall_of c36 ?_
    simp -implicitDefEqProofs [e3, e4, e8, e9]
    refine vCall_of (ts 1) ?_
    simp -implicitDefEqProofs [e3, e4, e8, e9]
    refine vCall_of c42 ?_
    simp -implicitDefEqProofs [e3, e4, e8, e9]
    refine vCall_of c43 ?_
    simp -implicitDefEqProofs
    exact hk _ ⟨⟨hne, by simp [e2], by simp [e3], by simp [e4], by simp [e6], by simp [e7], by simp [e8], ⟨_, by simp [l6], h6⟩, ⟨_, by simp [l7], h7⟩⟩, by simp, by simp⟩
  clear e2 e3 e4 e6 e7 e8 e9 l6 l7 h6 h7
  rintro st ⟨⟨hne, e2, e3, e4, e6, e7, e8, ⟨Z6, l6, h6⟩, ⟨Z7, l7, h7⟩⟩, e10, e11⟩
  refine cutS (fun st => W43 p x m nb b6 b7 st ∧ st.env 10 = I (wideT p m x) ∧ st.env 11 = I z2) (fun k hk => ?_) ?_
  · rw [hW] at *
    have r0 : ¬ p.trim + 1 = 0 := by omega
    simp -implicitDefEqProofs [e3, e4, e10, -vMax, vMaxE]
    refine vCall_of (ts 2) ?_
    simp -implicitDefEqProofs [e3, e4, e10, -vMax, vMaxE, r0]
    refine ⟨i64 (by omega) (by omega), i64 (by omega) (by omega), ?_⟩
    exact hk _ ⟨⟨hne, by simp [e2], by simp [e3], by simp [e4], by simp [e6], by simp [e7], by simp [e8], ⟨_, by simp [l6], h6⟩, ⟨_, by simp [l7], h7⟩⟩, by simp, by simp [e11]⟩
  clear e2 e3 e4 e6 e7 e8 e10 e11 l6 l7 h6 h7 hW
  rintro st ⟨⟨hne, e2, e3, e4, e6, e7, e8, ⟨Z6, l6, h6⟩, ⟨Z7, l7, h7⟩⟩, e10, e11⟩
  refine cutS (fun st => W43 p x m nb b6 b7 st ∧ st.env 10 = I (wideT p m x) ∧ st.env 11 = I (highT p m x)) (fun k hk => ?_) ?_
  · rw [hH] at *
    have r0 : ¬ 2 * p.trim + 1 = 0 := by omega
    simp -implicitDefEqProofs [e3, e4, e11, -vMax, vMaxE]
    refine vCall_of (ts 3) ?_
    simp -implicitDefEqProofs [e3, e4, e11, -vMax, vMaxE, r0]
    refine ⟨i64 (by omega) (by omega), i64 (by omega) (by omega), i64 (by omega) (by omega), ?_⟩
    exact hk _ ⟨⟨hne, by simp [e2], by simp [e3], by simp [e4], by simp [e6], by simp [e7], by simp [e8], ⟨_, by simp [l6], h6⟩, ⟨_, by simp [l7], h7⟩⟩, by simp [e10], by simp⟩
  clear e2 e3 e4 e6 e7 e8 e10 e11 l6 l7 h6 h7 hH t2 t3 s3 c43 c42 c36 a1 a2 hw
  rintro st ⟨⟨hne, e2, e3, e4, e6, e7, e8, ⟨Z6, l6, h6⟩, ⟨Z7, l7, h7⟩⟩, e10, e11⟩
  have c69 := all_ok hp hm
  refine cutS (fun st => W43 p x m nb b6 b7 st ∧ st.env 10 = I (wideT p m x) ∧ st.env 11 = I (highT p m x) ∧ st.env 12 = LL (lvOf p m)) (fun k hk => ?_) ?_
  · simp -implicitDefEqProofs [e3, e8]
    refine vCall_of c69 ?_
    simp -implicitDefEqProofs
    exact hk _ ⟨⟨hne, by simp [e2], by simp [e3], by simp [e4], by simp [e6], by simp [e7], by simp [e8], ⟨_, by simp [l6], h6⟩, ⟨_, by simp [l7], h7⟩⟩, by simp [e10], by simp [e11], by simp⟩
  clear e2 e3 e4 e6 e7 e8 e10 e11 l6 l7 h6 h7 c69
  rintro st ⟨⟨hne, e2, e3, e4, e6, e7, e8, ⟨Z6, l6, h6⟩, ⟨Z7, l7, h7⟩⟩, e10, e11, e12⟩
  have l0 := tmod_in (turnM_ok hx.looked 0).1 (show (0 : Int) < 9 by omega)
  have l1 := tmod_in (turnM_ok hx.looked 1).1 (show (0 : Int) < 9 by omega)
  have l2 := tmod_in (turnM_ok hx.looked 2).1 (show (0 : Int) < 9 by omega)
  have l3 := tmod_in (turnM_ok hx.looked 3).1 (show (0 : Int) < 9 by omega)
  refine cutS (fun st => W43 p x m nb b6 b7 st ∧ st.env 12 = LL (lvOf p m) ∧ ∃ b13, b13 ≠ b6 ∧ b13 ≠ b7 ∧ st.env 13 = .mref b13 0 ∧ st.loc b13 = some [I (lvOf p m).length, I 0, I (spanT (wideT p m x) (turnM x.looked 0) (turnM x.looked 1)).lo, I (spanT (wideT p m x) (turnM x.looked 0) (turnM x.looked 1)).hi, I (spanT (highT p m x) (turnM x.looked 2) (turnM x.looked 3)).lo, I (spanT (highT p m x) (turnM x.looked 2) (turnM x.looked 3)).hi, .slice 2 [] 14006]) (fun k hk => ?_) ?_
  · unfold spanT at hk
    generalize wideT p m x = W at *
    generalize highT p m x = H at *
    generalize lvOf p m = l at *
    simp -implicitDefEqProofs [e4, e10, e12, -vMax, vMaxE, -vMin, vMinE]
    refine vCall_of (tl 0) ?_
    simp -implicitDefEqProofs [e4, e10, e12, -vMax, vMaxE, -vMin, vMinE]
    refine ⟨i64 (by omega) (by omega), ?_⟩
    refine vCall_of (tl 1) ?_
    simp -implicitDefEqProofs [e4, e10, e12, -vMax, vMaxE, -vMin, vMinE]
    refine ⟨i64 (by omega) (by omega), ?_⟩
    refine vCall_of (span40_ok7 _ _) ?_
    simp -implicitDefEqProofs [e4, e10, e11, e12, -vMax, vMaxE, -vMin, vMinE]
    refine vCall_of (tl 2) ?_
    simp -implicitDefEqProofs [e4, e10, e11, e12, -vMax, vMaxE, -vMin, vMinE]
    refine ⟨i64 (by omega) (by omega), ?_⟩
    refine vCall_of (tl 3) ?_
    simp -implicitDefEqProofs [e4, e10, e11, e12, -vMax, vMaxE, -vMin, vMinE]
    refine ⟨i64 (by omega) (by omega), ?_⟩
    refine vCall_of (span40_ok7 _ _) ?_
    simp -implicitDefEqProofs [e4, e10, e12, -vMax, vMaxE, -vMin, vMinE]
    intro b13 n13
    have n6 : ¬ b13 = b6 := fun e => by rw [e, l6] at n13; cases n13
    have n7 : ¬ b13 = b7 := fun e => by rw [e, l7] at n13; cases n13
    refine ⟨2, 6, rfl, ?_⟩
    exact hk _ ⟨⟨hne, by simp [e2], by simp [e3], by simp [e4], by simp [e6], by simp [e7], by simp [e8], ⟨Z6.map (demote 14006), by simp [n6, Ne.symm n6, l6], by simp [h6]⟩, ⟨Z7.map (demote 14006), by simp [n7, Ne.symm n7, l7], by simp [h7]⟩⟩, by simp [e12], b13, n6, n7, by simp, by simp⟩
  clear e2 e3 e4 e6 e7 e8 e10 e11 e12 l6 l7 h6 h7 l0 l1 l2 l3
  rintro st ⟨⟨hne, e2, e3, e4, e6, e7, e8, ⟨Z6, l6, h6⟩, ⟨Z7, l7, h7⟩⟩, e12, b13, n6, n7, e13, l13⟩
  generalize spanT (wideT p m x) (turnM x.looked 0) (turnM x.looked 1) = sw at *
  generalize spanT (highT p m x) (turnM x.looked 2) (turnM x.looked 3) = sh at *
  obtain ⟨g2, hg2⟩ : ∃ g : Nat, m.format = g := ⟨m.format.toNat, by have := hm.fmt; omega⟩
  have hgl2 : g2 < p.fmts.length := by have := hm.fmt; omega
  have hfo := foldsOf_at hg2 hgl2
  have hfs := folds_size hp hm
  have hla := last_codes hfs.1
  obtain ⟨f, hf⟩ : ∃ f, f = foldsOf p m := ⟨_, rfl⟩
  rw [← hf] at hla hfs
  refine cutS (fun st => W43 p x m nb b6 b7 st ∧ st.env 12 = LL (lvOf p m) ∧ st.env 13 = .mref b13 0 ∧ st.loc b13 = some [I (lvOf p m).length, I 0, I sw.lo, I sw.hi, I sh.lo, I sh.hi, .slice 2 [] 14006] ∧ st.env 14 = S f) (fun k hk => ?_) ?_
  · have hg0 : (0 : Int) ≤ m.format := by omega
    have hg1 : m.format < (p.fmts.length : Int) := by omega
    have hg3 : m.format.toNat = g2 := by omega
    simp -implicitDefEqProofs [e3, e8, hg0, hg1, hg3, hgl2]
    exact hk _ ⟨⟨hne, by simp [e2], by simp [e3], by simp [e4], by simp [e6], by simp [e7], by simp [e8], ⟨_, by simp [l6], h6⟩, ⟨_, by simp [l7], h7⟩⟩, by simp [e12], by simp [e13], by simp [l13], by simp [hf, hfo]⟩
  clear e2 e3 e4 e6 e7 e8 e12 e13 l6 l7 h6 h7 l13
  rintro st ⟨⟨hne, e2, e3, e4, e6, e7, e8, ⟨Z6, l6, h6⟩, ⟨Z7, l7, h7⟩⟩, e12, e13, l13, e14⟩
  obtain ⟨ch, hch⟩ : ∃ c, c = chainT (codes f) (turnM x.looked 4) := ⟨_, rfl⟩
  rw [← hf, ← hch]
  unfold chainT at hch
  refine cutS (fun st => W43 p x m nb b6 b7 st ∧ st.env 12 = LL (lvOf p m) ∧ st.env 13 = .mref b13 0 ∧ st.loc b13 = some [I (lvOf p m).length, I ch, I sw.lo, I sw.hi, I sh.lo, I sh.hi, .slice 2 [] 14006]) (fun k hk => ?_) ?_
  · simp -implicitDefEqProofs [e4]
    refine vCall_of (tl 4) ?_
    simp -implicitDefEqProofs
    refine cond_dec (fun h0 => ?_) (fun h0 => ?_)
    · rw [if_pos h0] at hch
      have hlb : (f.data.toList.getD (f.size - 1) 0).toNat = (codes f).getLastD 0 := hla
      rw [List.getD_eq_getElem?_getD] at hlb
      generalize (codes f).getLastD 0 = la at *
      simp at hlb
      have hq : ((f.size : Int) - 1).toNat = f.size - 1 := by omega
      have hlt : f.size - 1 < f.data.size := by show _ < f.size; omega
      simp -implicitDefEqProofs [e13, l13, e14, hq, hlt]
      refine ⟨i64 (by omega) (by omega), by omega, by omega, ?_⟩
      rw [hlb]
      refine cutC (fun st => W43 p x m nb b6 b7 st ∧ st.env 12 = LL (lvOf p m) ∧ st.env 13 = .mref b13 0 ∧ st.loc b13 = some [I (lvOf p m).length, I ch, I sw.lo, I sw.hi, I sh.lo, I sh.hi, .slice 2 [] 14006]) hk (fun kk hkk hb => ?_) (fun kk hkk hb => ?_)
      · have hb : la = 120 := by simp at hb; exact Int.ofNat_inj.1 hb
        rw [if_pos hb] at hch
        simp -implicitDefEqProofs [e13, l13]
        exact hkk _ ⟨⟨hne, by simp [e2], by simp [e3], by simp [e4], by simp [e6], by simp [e7], by simp [e8], ⟨_, by simp [l6, n6, Ne.symm n6], h6⟩, ⟨_, by simp [l7, n7, Ne.symm n7], h7⟩⟩, by simp [e12], by simp [e13], by simp [l13, hch]⟩
      · have hb : ¬ la = 120 := by simp at hb; exact fun h => hb (by rw [h]; rfl)
        rw [if_neg hb] at hch
        simp -implicitDefEqProofs
        exact hkk _ ⟨⟨hne, by simp [e2], by simp [e3], by simp [e4], by simp [e6], by simp [e7], by simp [e8], ⟨_, by simp [l6, n6, Ne.symm n6], h6⟩, ⟨_, by simp [l7, n7, Ne.symm n7], h7⟩⟩, by simp [e12], by simp [e13], by simp [l13, hch]⟩
    · rw [if_neg h0] at hch
      simp -implicitDefEqProofs
      exact hk _ ⟨⟨hne, by simp [e2], by simp [e3], by simp [e4], by simp [e6], by simp [e7], by simp [e8], ⟨_, by simp [l6], h6⟩, ⟨_, by simp [l7], h7⟩⟩, by simp [e12], by simp [e13], by simp [l13, hch]⟩
  clear e2 e3 e4 e6 e7 e8 e12 e13 e14 l6 l7 h6 h7 l13 hla hfs hf hfo
  rintro st ⟨⟨hne, e2, e3, e4, e6, e7, e8, ⟨Z6, l6, h6⟩, ⟨Z7, l7, h7⟩⟩, e12, e13, l13⟩
  have t5 := tmod_in (turnM_ok hx.looked 5).1 (show (0 : Int) < 9 by omega)
  have hmany : (turnM x.looked 5).tmod 9 = (manyT x : Int) := by unfold manyT; omega
  have hK := many_le hx
  refine cutS (fun st => W43 p x m nb b6 b7 st ∧ st.env 13 = .mref b13 0 ∧ st.loc b13 = some [I (lvOf p m).length, I ch, I sw.lo, I sw.hi, I sh.lo, I sh.hi, .slice 2 ((mrksT p m x nb (manyT x)).map Mrk.av) 14006]) (fun kk hkk => ?_) ?_
  · simp -implicitDefEqProofs
    refine loop_up (manyT x) (fun k st => W43 p x m nb b6 b7 st ∧ st.env 12 = LL (lvOf p m) ∧ st.env 13 = .mref b13 0 ∧ st.loc b13 = some [I (lvOf p m).length, I ch, I sw.lo, I sw.hi, I sh.lo, I sh.hi, .slice 2 ((mrksT p m x nb k).map Mrk.av) 14006] ∧ st.env 15 = I k) ?_ ?_
    · exact ⟨⟨hne, by simp [e2], by simp [e3], by simp [e4], by simp [e6], by simp [e7], by simp [e8], ⟨_, by simp [l6], h6⟩, ⟨_, by simp [l7], h7⟩⟩, by simp [e12], by simp [e13], by simp [l13, mrksT], by simp⟩
    clear e2 e3 e4 e6 e7 e8 e12 e13 l6 l7 h6 h7 l13
    rintro k st hk ⟨⟨hne, e2, e3, e4, e6, e7, e8, ⟨Z6, l6, h6⟩, ⟨Z7, l7, h7⟩⟩, e12, e13, l13, e15⟩
    simp -implicitDefEqProofs [e4, e15]
    refine vCall_of (tl 5) ?_
    simp -implicitDefEqProofs [hmany]
    refine cond_dec (fun hlt => ?_) (fun hge => ?_)
    · have hlt : k < manyT x := by omega
      have tl6 : PCall Try.prog 85 [US x.looked, I (6 + (k : Int))] (I (turnM x.looked (6 + k))) := by
        have := tl (6 + k)
        rwa [show ((6 + k : Nat) : Int) = 6 + (k : Int) by omega] at this
      have hlf : (turnM x.looked (6 + k)).tmod ((lvOf p m).length : Int) = (leafT p m x k : Int) := by
        have h0 := turnM_ok hx.looked (6 + k)
        have := tmod_nat (turnM x.looked (6 + k)).toNat (lvOf p m).length
        rw [Int.toNat_of_nonneg h0.1] at this
        exact this
      have hlt2 : leafT p m x k < (lvOf p m).length := Nat.mod_lt _ (by omega)
      have c88 := has88_ok hp hm (leafT p m x k) hlt2 hx.halves
      have hN0 : ¬ lvOf p m = [] := fun h => by rw [h] at hlen; simp at hlen
      have hms := mrksT_succ p m x nb k
      have hml := mrksT_len p m x nb k
      have hbit : (((nb : Int).fdiv (2 ^ (min k IntKind.u8.bits))).tmod 2 == 1) = nb.testBit k := shr_bit (nb := nb) (k := k) (by omega)
      unfold mrkT at hms
      generalize mrksT p m x nb k = M0 at *
      generalize leafT p m x k = lf at *
      generalize markQ (codes (foldsOf p m)) (lvOf p m) (halvesT x.halves m.sheets.toNat) lf = mq at *
      simp -implicitDefEqProofs [e4, e12, e15]
      refine ⟨i64 (by omega) (by omega), ?_⟩
      refine vCall_of tl6 ?_
      simp -implicitDefEqProofs [e3, e4, e8, e12, e13, l13, hlf, hN0]
      refine vCall_of c88 ?_
      simp -implicitDefEqProofs [e2, e13, l13, e15, hbit]
      exact ⟨by omega, by omega, i64 (by omega) (by omega), round_ok hlt ⟨⟨hne, by simp [e2], by simp [e3], by simp [e4], by simp [e6], by simp [e7], by simp [e8], ⟨_, by simp [l6, Ne.symm n6]; rfl, by simp [h6]⟩, ⟨_, by simp [l7, Ne.symm n7]; rfl, by simp [h7]⟩⟩, by simp [e12], by simp [e13], by simp [hms, hbit]; try (cases mq <;> cases nb.testBit k <;> rfl), by simp⟩⟩
    · obtain rfl : k = manyT x := by omega
      simp -implicitDefEqProofs
      exact hkk _ ⟨⟨hne, by simp [e2], by simp [e3], by simp [e4], by simp [e6], by simp [e7], by simp [e8], ⟨_, by simp [l6], h6⟩, ⟨_, by simp [l7], h7⟩⟩, by simp [e13], by simp [l13]⟩
  clear e2 e3 e4 e6 e7 e8 e12 e13 l6 l7 h6 h7 l13
  rintro st ⟨⟨hne, e2, e3, e4, e6, e7, e8, ⟨Z6, l6, h6⟩, ⟨Z7, l7, h7⟩⟩, e13, l13⟩
  match Z6, h6, Z7, h7 with
  | [z0, z1, z2, z3, z4, z5, z6], _, [y0, y1, y2, y3], _ =>
    simp -implicitDefEqProofs [e6, e7, e8, e13, l13, l6, l7, hne, Ne.symm hne, r43]
end Go.Proofs.Ytcfeipphmklakaa

namespace Go.Proofs.Ytcfeipphmklakaa
open Go.Avm

theorem cntB_zero (k : Nat) : cntB 0 k = 0 := by
  induction k with
  | zero => rfl
  | succ k ih => rw [cntB_succ, ih]; simp

theorem told_fits {p : Prs} (he : errE p = 0) {x : Past} (hx : okPast x) : fits p (toldB p x 0) (toldM p x) = true := by
  unfold fits
  rw [offB_told, Bool.true_and]
  refine emptyP_iff.2 (selT_zero_iff.1 ?_)
  have := off_told he hx 0
  rw [cntB_zero] at this
  omega

theorem told_wrong {p : Prs} (he : errE p = 0) {x : Past} (hx : okPast x) (nb : Nat) : (wrongR p (toldB p x nb)).2 = 0 ∧ (wrongR p (toldB p x nb)).1.length ≤ cntB nb (manyT x) := by
  have hB := bookE_of he (rightB_told he hx nb)
  have hb := bestW_of p (toldB p x nb)
  have hmem := toldM_mem he (x := x)
  have hoff := off_told he hx nb
  unfold wrongR
  rw [if_neg (not_not_intro hB)]
  cases hw : bestW p (toldB p x nb) with
  | none =>
    rw [hw] at hb
    have := hb _ hmem
    rw [offB_told] at this; cases this
  | some s =>
    rw [hw] at hb
    refine ⟨rfl, ?_⟩
    have := hb.2 _ hmem (offB_told nb)
    simp only
    omega

theorem foldTrue_of (h43 : ∀ (p : Prs), errE p = 0 → ∀ (x : Past), okPast x → ∀ nb : Nat, nb ≤ 255 → PCall Try.prog 43 [p.av, x.av, .lit (.int .u8 nb)] (.tuple [(toldB p x nb).av, (toldM p x).av]))
    (ha : PCall Try.prog 19 [] (B true)) (p : Prs) (x : Past) (n : Int) (_ : True) (hx : okPast x) (hn : 0 ≤ n ∧ n ≤ 65535) : PCall Try.prog 7 [p.av, x.av, U n] (B true) := by
  obtain ⟨na, rfl⟩ : ∃ k : Nat, n = k := ⟨n.toNat, by omega⟩
  have hwa := wrap_i64 hn
  refine pcall Try.func7 tr7 rs7 fn7 (by simp [Try.ntmps7]) fun hfit => ?_
  have c1 := valid42_ok p
  simp -implicitDefEqProofs [m7]
  refine vCall_of c1 ?_
  by_cases he : errE p = 0
  case neg =>
    have he' : (errE p == 0) = false := beq_eq_false_iff_ne.2 he
    have c2 := agree30_ok p ⟨0, 0, ⟨0, 0⟩, ⟨0, 0⟩, []⟩
    have hB : bookE p ⟨0, 0, ⟨0, 0⟩, ⟨0, 0⟩, []⟩ = errE p := by
      unfold bookE checkBookE
      have : (checkE p).2.2 ≠ 0 := he
      rw [if_pos this]; rfl
    have hA : agreeR p ⟨0, 0, ⟨0, 0⟩, ⟨0, 0⟩, []⟩ = ([], errE p) := by
      unfold agreeR
      rw [hB, if_pos he]
    rw [hA] at c2
    have he2 : (errE p != 0) = true := by simp [he]
    simp -implicitDefEqProofs [he']
    refine vCall_of c2 ?_
    simp -implicitDefEqProofs [he2]
    refine vCall_of ha ?_
    simp -implicitDefEqProofs [r7]
  have he' : (errE p == 0) = true := by simp [he]
  have c2 := h43 p he x hx 0 (by omega)
  have hfits := told_fits he hx
  have hwr := told_wrong he hx 0
  have hrb := rightB_told he hx 0
  have hmem := toldM_mem he (x := x)
  have hm := toldM_right he (x := x)
  have hp := right_of he
  have hlen := lv_len hp hm
  have hen : enterE p (toldM p x) = 0 := makes_ok hmem
  have hbl : (toldB p x 0).leaves = (lvOf p (toldM p x)).length := rfl
  rw [cntB_zero] at hwr
  generalize toldB p x 0 = b at *
  generalize toldM p x = m at *
  have hB := bookE_of he hrb
  have hA : agreeR p b = (fitL p b, 0) := by unfold agreeR; rw [if_neg (not_not_intro hB)]
  have c3 := agree30_ok p b
  have c4 := wrong35_ok p b
  rw [hA] at c3
  have hmf : m ∈ fitL p b := List.mem_filter.2 ⟨hmem, hfits⟩
  have hw0 : (wrongR p b).1 = [] := List.eq_nil_of_length_eq_zero (by omega)
  rw [hw0, hwr.1] at c4
  obtain ⟨N, hN⟩ : ∃ N : Nat, N = (lvOf p m).length := ⟨_, rfl⟩
  rw [← hN] at hbl hlen
  have ht : na % N < N := Nat.mod_lt _ (by omega)
  have tb := tmod_nat na N
  have hN0 : ¬ (N : Int) = 0 := by omega
  have hN0' : ¬ N = 0 := by omega
  generalize na % N = t at *
  have c5 := together33_ok p b t
  have hT : togetherR p b t = (selT (mustQ p (fitL p b) t) N, selT (mayQ p (fitL p b) t) N, 0) := by
    have hne : ¬ (fitL p b).length = 0 := fun h => by rw [List.length_eq_zero_iff.1 h] at hmf; cases hmf
    unfold togetherR
    rw [hA, if_neg (not_not_intro rfl), if_neg (not_not_intro ⟨by omega, by omega⟩), if_neg hne, hbl, Int.toNat_natCast, Int.toNat_natCast]
  rw [hT] at c5
  obtain ⟨c, hc⟩ := fit_mates hmf hbl ht
  have c6 := mates26_ok p m t
  rw [hc] at c6
  have c7 := one44_ok (fitL p b) m
  rw [decide_eq_true hmf] at c7
  have c8 := part45_ok (selT (mustQ p (fitL p b) t) N) (selT (mateQ (lvOf p m) t) N) fun y hy => selT_sub (fun i hi => mustQ_iff.1 hi m hmf) hy
  have c9 := part45_ok (selT (mateQ (lvOf p m) t) N) (selT (mayQ p (fitL p b) t) N) fun y hy => selT_sub (fun i hi => by
    unfold mayQ cntT
    rw [List.take_length]
    exact decide_eq_true (List.length_pos_of_mem (List.mem_filter.2 ⟨hmf, hi⟩))) hy
  generalize selT (mustQ p (fitL p b) t) N = mu at *
  generalize selT (mayQ p (fitL p b) t) N = ma at *
  generalize selT (mateQ (lvOf p m) t) N = mt at *
  generalize fitL p b = fl at *
  simp -implicitDefEqProofs [he', hwa]
  refine vCall_of c2 ?_
  simp -implicitDefEqProofs
  intro b1 b2 hne
  have hne' : ¬ b1 = b2 := fun e => hne e.symm
  simp -implicitDefEqProofs [hne, hne']
  refine vCall_of c3 ?_
  simp -implicitDefEqProofs
  refine vCall_of c4 ?_
  have tb' : (na : Int).tmod b.leaves = (t : Int) := by rw [hbl]; exact tb
  have hb0 : ¬ b.leaves = 0 := by omega
  simp -implicitDefEqProofs [hwa, tb', hb0]
  refine vCall_of c5 ?_
  simp -implicitDefEqProofs
  refine vCall_of c6 ?_
  simp -implicitDefEqProofs
  refine vCall_of c7 ?_
  simp -implicitDefEqProofs
  refine vCall_of c8 ?_
  simp -implicitDefEqProofs
  refine vCall_of c9 ?_
  simp -implicitDefEqProofs
  refine vCall_of ha ?_
  simp -implicitDefEqProofs [r7]
end Go.Proofs.Ytcfeipphmklakaa

namespace Go.Proofs.Ytcfeipphmklakaa
open Go.Avm

theorem rdPast : Rd Try.prog false 68 Past.av okPast :=

  (Rd.struct (tot := 4) Try.underlying68 rfl (by kernel_rfl) (RdL.cons rfl (by kernel_rfl) rdUs (RdL.cons rfl (by kernel_rfl) rdUs (RdL.cons rfl (by kernel_rfl) rdUs (RdL.cons rfl (by kernel_rfl) rdUs RdL.nil))))).map
    (fun x => ⟨x.1, x.2.1, x.2.2.1, x.2.2.2.1⟩) (fun _ => rfl) (fun _ h => ⟨h.1, h.2.1, h.2.2.1, h.2.2.2.1⟩)

theorem foldTrue_ok (ha : PCall Try.prog 19 [] (B true)) (p : Prs) (x : Past) (n : Int) (h1 : True) (hx : okPast x) (hn : 0 ≤ n ∧ n ≤ 65535) : PCall Try.prog 7 [p.av, x.av, U n] (B true) :=
  foldTrue_of (fun _ he _ hx _ hnb => told43_ok he hx hnb) ha p x n h1 hx hn
end Go.Proofs.Ytcfeipphmklakaa

