/- The resolved code of some functions, written by program, each held against the function by the kernel. The law PaperMore: its contract. -/
import Derived.Test.YtbcfmfiolbcclaaZI
import Derived.KernelRfl
import Derived.Test.YtbcfmfiolbcclaaZL
namespace Go.Proofs.Ytbcfmfiolbcclaa
open Go.Avm

/- duodecimo/duodecimolaw06.PaperMore -/
def ann9 : Ann := { muts := [], nilsz := [], oid := [], frz := [7, 20, 21, 23, 24, 26, 28], zero := [(7, [(.lit (.int .i64 0)), (.slice 3 [] 8001), (.slice 3 [] 8002), (.lit (.int .i64 0)), (.slice 2 [] 8004)]), (20, [(.lit (.int .i64 0)), (.lit (.int .i64 0))]), (21, [(.lit (.int .i64 0)), (.lit (.int .i64 0))]), (23, [(.lit (.int .i64 0)), (.lit (.int .i64 0))]), (24, [(.lit (.int .i64 0)), (.lit (.int .i64 0))]), (26, [(.lit (.int .i64 0)), (.lit (.int .i64 0))]), (28, [(.lit (.int .i64 0)), (.lit (.int .i64 0))])], ord := [], ap := [], own := [], yl := [], fz := [], imm := [], ic := [], cl := [], ylL := [], rl := [] }
def m9 : MCode := (.seq (.reg [.boxI 3 (.t 0) 5, .boxI 4 (.t 1) 2, .asg 6 (.c (.lit (.bool false)))])
 (.seq (.reg [.load 30 (.t 3) (some 5), .load 31 (.t 4) (some 2), .call 32 45 [(.t 30), (.t 31)], .alloc 7 [(.lit (.int .i64 0)), (.slice 3 [] 8001), (.slice 3 [] 8002), (.lit (.int .i64 0)), (.slice 2 [] 8004)], .storeF 7 (.t 32) 5])
 (.seq (.seq (.reg [.load 33 (.t 7) (some 5), .call 34 36 [(.t 33)], .not 35 (.t 34)])
 (.cond (.t 35) (.seq (.reg [.call 36 22 [], .asg 6 (.t 36)])
 .ret) .skip))
 (.seq (.reg [.load 38 (.t 3) (some 5), .call 39 17 [(.t 38)], .cpy 37 (.t 39), .ext 40 (.t 37) 0, .ext 41 (.t 37) 1, .asg 8 (.t 40), .asg 9 (.t 41)])
 (.seq (.reg [.load 43 (.t 7) (some 5), .call 44 17 [(.t 43)], .cpy 42 (.t 44), .ext 45 (.t 42) 0, .ext 46 (.t 42) 1, .asg 10 (.t 45), .asg 11 (.t 46)])
 (.seq (.seq (.reg [.cpy 47 (.t 11), .bin 48 .neq (.t 47) (.c (.lit (.int .i64 0)))])
 (.cond (.t 48) (.seq (.reg [.cpy 49 (.t 11), .bin 50 .eql (.t 49) (.c (.lit (.int .i64 8))), .cpy 51 (.t 50), .guard 51 true (some 52) (.cpy 52 (.t 9)), .guard 51 true (some 53) (.bin 53 .eql (.t 52) (.c (.lit (.int .i64 0)))), .guard 51 true (some 54) (.cpy 54 (.t 53)), .guard 54 false (some 55) (.cpy 55 (.t 9)), .guard 54 false (some 56) (.cpy 56 (.t 11)), .guard 54 false (some 57) (.bin 57 .eql (.t 55) (.t 56)), .guard 51 true (some 58) (.pick 58 (.t 54) (.c (.lit (.bool true))) (.t 57)), .pick 59 (.t 51) (.t 58) (.c (.lit (.bool false))), .cpy 60 (.t 59), .guard 60 true (some 61) (.call 61 22 []), .pick 62 (.t 60) (.t 61) (.c (.lit (.bool false))), .asg 6 (.t 62)])
 .ret) .skip))
 (.seq (.seq (.reg [.asg 12 (.c (.lit (.int .i64 0)))])
 (.block 0 (.loop (.seq (.seq (.reg [.cpy 63 (.t 12), .cpy 64 (.t 10), .len 65 (.t 64), .bin 66 .lss (.t 63) (.t 65)])
 (.cond (.t 66) .skip (.exit 0)))
 (.seq (.block 1 (.seq (.reg [.cpy 69 (.t 8), .cpy 70 (.t 10), .cpy 71 (.t 12), .idxS 72 (.t 70) (.t 71) 1, .load 73 (.t 72) none, .call 74 39 [(.t 69), (.t 73)], .not 75 (.t 74)])
 (.cond (.t 75) (.seq (.reg [.asg 6 (.c (.lit (.bool false)))])
 .ret) .skip)))
 (.reg [.cpy 67 (.t 12), .bin 68 .add (.t 67) (.c (.lit (.int .i64 1))), .asg 12 (.t 68)]))))))
 (.seq (.reg [.cpy 76 (.t 2), .conv 77 .i64 (.t 76), .addr 78 (.t 3) 3, .load 79 (.t 78) none, .bin 80 .rem (.t 77) (.t 79), .asg 13 (.t 80)])
 (.seq (.reg [.load 82 (.t 3) (some 5), .cpy 83 (.t 13), .call 84 23 [(.t 82), (.t 83)], .cpy 81 (.t 84), .ext 85 (.t 81) 0, .ext 86 (.t 81) 1, .ext 87 (.t 81) 2, .asg 14 (.t 85), .asg 15 (.t 86), .asg 16 (.t 87)])
 (.seq (.reg [.load 89 (.t 7) (some 5), .cpy 90 (.t 13), .call 91 23 [(.t 89), (.t 90)], .cpy 88 (.t 91), .ext 92 (.t 88) 0, .ext 93 (.t 88) 1, .ext 94 (.t 88) 2, .asg 17 (.t 92), .asg 18 (.t 93), .asg 19 (.t 94)])
 (.seq (.reg [.load 96 (.t 3) (some 5), .call 97 26 [(.t 96)], .cpy 95 (.t 97), .ext 98 (.t 95) 0, .ext 99 (.t 95) 1, .ext 100 (.t 95) 2, .alloc 20 [(.lit (.int .i64 0)), (.lit (.int .i64 0))], .alloc 21 [(.lit (.int .i64 0)), (.lit (.int .i64 0))], .storeF 20 (.t 98) 2, .storeF 21 (.t 99) 2, .asg 22 (.t 100)])
 (.seq (.reg [.load 102 (.t 7) (some 5), .call 103 26 [(.t 102)], .cpy 101 (.t 103), .ext 104 (.t 101) 0, .ext 105 (.t 101) 1, .ext 106 (.t 101) 2, .alloc 23 [(.lit (.int .i64 0)), (.lit (.int .i64 0))], .alloc 24 [(.lit (.int .i64 0)), (.lit (.int .i64 0))], .storeF 23 (.t 104) 2, .storeF 24 (.t 105) 2, .asg 25 (.t 106)])
 (.seq (.reg [.load 108 (.t 3) (some 5), .call 109 28 [(.t 108)], .cpy 107 (.t 109), .ext 110 (.t 107) 0, .ext 111 (.t 107) 1, .alloc 26 [(.lit (.int .i64 0)), (.lit (.int .i64 0))], .storeF 26 (.t 110) 2, .asg 27 (.t 111)])
 (.seq (.reg [.load 113 (.t 7) (some 5), .call 114 28 [(.t 113)], .cpy 112 (.t 114), .ext 115 (.t 112) 0, .ext 116 (.t 112) 1, .alloc 28 [(.lit (.int .i64 0)), (.lit (.int .i64 0))], .storeF 28 (.t 115) 2, .asg 29 (.t 116)])
 (.seq (.seq (.reg [.cpy 117 (.t 9), .bin 118 .neq (.t 117) (.c (.lit (.int .i64 0))), .cpy 119 (.t 118), .guard 119 false (some 120) (.cpy 120 (.t 16)), .guard 119 false (some 121) (.bin 121 .neq (.t 120) (.c (.lit (.int .i64 0)))), .pick 122 (.t 119) (.c (.lit (.bool true))) (.t 121), .cpy 123 (.t 122), .guard 123 false (some 124) (.cpy 124 (.t 19)), .guard 123 false (some 125) (.bin 125 .neq (.t 124) (.c (.lit (.int .i64 0)))), .pick 126 (.t 123) (.c (.lit (.bool true))) (.t 125), .cpy 127 (.t 126), .guard 127 false (some 128) (.cpy 128 (.t 22)), .guard 127 false (some 129) (.bin 129 .neq (.t 128) (.c (.lit (.int .i64 0)))), .pick 130 (.t 127) (.c (.lit (.bool true))) (.t 129), .cpy 131 (.t 130), .guard 131 false (some 132) (.cpy 132 (.t 25)), .guard 131 false (some 133) (.bin 133 .neq (.t 132) (.c (.lit (.int .i64 0)))), .pick 134 (.t 131) (.c (.lit (.bool true))) (.t 133), .cpy 135 (.t 134), .guard 135 false (some 136) (.cpy 136 (.t 27)), .guard 135 false (some 137) (.bin 137 .neq (.t 136) (.c (.lit (.int .i64 0)))), .pick 138 (.t 135) (.c (.lit (.bool true))) (.t 137), .cpy 139 (.t 138), .guard 139 false (some 140) (.cpy 140 (.t 29)), .guard 139 false (some 141) (.bin 141 .neq (.t 140) (.c (.lit (.int .i64 0)))), .pick 142 (.t 139) (.c (.lit (.bool true))) (.t 141)])
 (.cond (.t 142) (.seq (.reg [.asg 6 (.c (.lit (.bool false)))])
 .ret) .skip))
 (.seq (.reg [.cpy 143 (.t 14), .cpy 144 (.t 17), .call 145 40 [(.t 143), (.t 144)], .cpy 146 (.t 145), .guard 146 true (some 147) (.cpy 147 (.t 18)), .guard 146 true (some 148) (.cpy 148 (.t 15)), .guard 146 true (some 149) (.call 149 40 [(.t 147), (.t 148)]), .pick 150 (.t 146) (.t 149) (.c (.lit (.bool false))), .cpy 151 (.t 150), .guard 151 true (some 152) (.addr 152 (.t 23) 0), .guard 151 true (some 153) (.load 153 (.t 152) none), .guard 151 true (some 154) (.addr 154 (.t 20) 0), .guard 151 true (some 155) (.load 155 (.t 154) none), .guard 151 true (some 156) (.bin 156 .geq (.t 153) (.t 155)), .pick 157 (.t 151) (.t 156) (.c (.lit (.bool false))), .cpy 158 (.t 157), .guard 158 true (some 159) (.addr 159 (.t 23) 1), .guard 158 true (some 160) (.load 160 (.t 159) none), .guard 158 true (some 161) (.addr 161 (.t 20) 1), .guard 158 true (some 162) (.load 162 (.t 161) none), .guard 158 true (some 163) (.bin 163 .leq (.t 160) (.t 162)), .pick 164 (.t 158) (.t 163) (.c (.lit (.bool false))), .cpy 165 (.t 164), .guard 165 true (some 166) (.addr 166 (.t 24) 0), .guard 165 true (some 167) (.load 167 (.t 166) none), .guard 165 true (some 168) (.addr 168 (.t 21) 0), .guard 165 true (some 169) (.load 169 (.t 168) none), .guard 165 true (some 170) (.bin 170 .geq (.t 167) (.t 169)), .pick 171 (.t 165) (.t 170) (.c (.lit (.bool false))), .cpy 172 (.t 171), .guard 172 true (some 173) (.addr 173 (.t 24) 1), .guard 172 true (some 174) (.load 174 (.t 173) none), .guard 172 true (some 175) (.addr 175 (.t 21) 1), .guard 172 true (some 176) (.load 176 (.t 175) none), .guard 172 true (some 177) (.bin 177 .leq (.t 174) (.t 176)), .pick 178 (.t 172) (.t 177) (.c (.lit (.bool false))), .cpy 179 (.t 178), .guard 179 true (some 180) (.addr 180 (.t 28) 0), .guard 179 true (some 181) (.load 181 (.t 180) none), .guard 179 true (some 182) (.addr 182 (.t 26) 0), .guard 179 true (some 183) (.load 183 (.t 182) none), .guard 179 true (some 184) (.bin 184 .geq (.t 181) (.t 183)), .pick 185 (.t 179) (.t 184) (.c (.lit (.bool false))), .cpy 186 (.t 185), .guard 186 true (some 187) (.addr 187 (.t 28) 1), .guard 186 true (some 188) (.load 188 (.t 187) none), .guard 186 true (some 189) (.addr 189 (.t 26) 1), .guard 186 true (some 190) (.load 190 (.t 189) none), .guard 186 true (some 191) (.bin 191 .leq (.t 188) (.t 190)), .pick 192 (.t 186) (.t 191) (.c (.lit (.bool false))), .cpy 193 (.t 192), .guard 193 true (some 194) (.call 194 22 []), .pick 195 (.t 193) (.t 194) (.c (.lit (.bool false))), .asg 6 (.t 195)])
 .ret))))))))))))))))
def r9 : List MRes := [.tmp 6]
theorem tr9 : Try.f9.body.bind (trC Try.prog ann9 Try.f9.ntmps) = some m9 := by kernel_rfl
theorem rs9 : trRes Try.prog Try.f9.results.toList = some r9 := by kernel_rfl
theorem fn9 : isFunc Try.prog 9 = true := by kernel_rfl
end Go.Proofs.Ytbcfmfiolbcclaa

namespace Go.Proofs.Ytbcfmfiolbcclaa
open Go.Avm

theorem paperMore_at (c : Case) (g s : Int) (hl16 : c.seen.length * 16 ≤ 140737488351232) {which : Nat} (hw : which < 256) : PCall Try.prog 9 [encCase c, encSeen (g, s), V which] (B true) := by
  refine pcall Try.func9 tr9 rs9 fn9 (by simp [Try.ntmps9]) fun _ => ?_
  have mo := more45_ok c g s (by omega)
  have aw := awake22_ok
  have o1 := orders17_ok c
  have hmi := more_in (c := c) (g := g) (s := s)
  have hmv := more_valid (c := c) (g := g) (s := s)
  have hdg : (moreC c g s).gath = c.gath := rfl
  generalize moreC c g s = d at *
  have va := valid36_ok d
  have o2 := orders17_ok d
  unfold m9
  refine cutS (fun t => t.env 2 = V which ∧ t.env 3 = caseRef c ∧ t.env 4 = .ref [I g, I s] ∧ t.loc = fun _ => none) ?_ ?_
  · intro k hk
    simp -implicitDefEqProofs
    exact hk _ (by simp)
  rintro t ⟨e2, e3, e4, hl⟩
  refine cutS (fun s => s.env 2 = V which ∧ s.env 3 = caseRef c ∧ s.env 7 = caseRef d ∧ s.loc = fun _ => none) ?_ ?_
  · intro k hk
    simp -implicitDefEqProofs [e3, e4]
    refine vCall_of mo ?_
    simp -implicitDefEqProofs [hl]
    intro b7
    refine hk _ ?_
    simp [e2, e3]
    funext b
    by_cases hb : b = b7 <;> simp [hb, hl]
  clear e2 e3 e4 hl
  rintro s ⟨e2, e3, e7, hl⟩
  by_cases hd : errE d = 0
  case neg =>
    simp -implicitDefEqProofs [e7]
    refine vCall_of va ?_
    simp -implicitDefEqProofs [hd]
    refine vCall_of aw ?_
    simp -implicitDefEqProofs [r9]
  have hc := hmv hd
  have hok := err_ok hc
  have hdo := err_ok hd
  refine cutS (fun s => s.env 2 = V which ∧ s.env 3 = caseRef c ∧ s.env 7 = caseRef d ∧ s.loc = fun _ => none) ?_ ?_
  · intro k hk
    simp -implicitDefEqProofs [e7]
    refine vCall_of va ?_
    simp -implicitDefEqProofs [hd]
    exact hk _ (by simp [e2, e3, e7, hl])
  clear e2 e3 e7 hl
  rintro s ⟨e2, e3, e7, hl⟩
  by_cases hn : truL d 0 = []
  case pos =>
    rw [orders_no hd hn] at o2
    by_cases hn' : truL c 0 = []
    · rw [orders_no hc hn'] at o1
      simp -implicitDefEqProofs [e3]
      refine vCall_of o1 ?_
      simp -implicitDefEqProofs [e7]
      refine vCall_of o2 ?_
      simp -implicitDefEqProofs
      refine vCall_of aw ?_
      simp -implicitDefEqProofs [r9]
    · rw [orders_say hc hn'] at o1
      simp -implicitDefEqProofs [e3]
      refine vCall_of o1 ?_
      simp -implicitDefEqProofs [e7]
      refine vCall_of o2 ?_
      simp -implicitDefEqProofs
      refine vCall_of aw ?_
      simp -implicitDefEqProofs [r9]
  obtain ⟨hnc, hM⟩ := hmi hd hn
  rw [orders_say hd hn] at o2
  rw [orders_say hc hnc] at o1
  have hwd := waysP_len hdo
  have hsub := hM.sub
  have one := fun o => one39_ok (waysP c) o
  have l1 := left26_ok c
  have l2 := left26_ok d
  have y1 := year28_ok c
  have y2 := year28_ok d
  obtain ⟨le1, -⟩ := left_say hc hnc
  obtain ⟨le2, -⟩ := left_say hd hn
  obtain ⟨ye1, -⟩ := year_say hc hnc
  obtain ⟨ye2, -⟩ := year_say hd hn
  have hla := hM.la
  have hlx := hM.lx
  have hye := hM.ye
  have hst := hM.st
  clear hM hmi hmv
  generalize leftS c = L at *
  generalize leftS d = L' at *
  generalize yearS c = Y at *
  generalize yearS d = Y' at *
  have hg := hok.gath
  generalize hW : waysP d = W at *
  generalize waysP c = W0 at *
  refine cutS (fun s => s.env 2 = V which ∧ s.env 3 = caseRef c ∧ s.env 7 = caseRef d ∧ s.env 8 = ILL W0 ∧ s.env 9 = I 0 ∧ s.loc = fun _ => none) ?_ ?_
  · intro k hk
    simp -implicitDefEqProofs [e3]
    refine vCall_of o1 ?_
    simp -implicitDefEqProofs
    exact hk _ (by simp [e2, e3, e7, hl])
  clear e2 e3 e7 hl
  rintro s ⟨e2, e3, e7, e8, e9, hl⟩
  refine cutS (fun s => s.env 2 = V which ∧ s.env 3 = caseRef c ∧ s.env 7 = caseRef d ∧ s.env 8 = ILL W0 ∧ s.env 9 = I 0 ∧ s.env 10 = ILL W ∧ s.env 11 = I 0 ∧ s.loc = fun _ => none) ?_ ?_
  · intro k hk
    simp -implicitDefEqProofs [e7]
    refine vCall_of o2 ?_
    simp -implicitDefEqProofs
    exact hk _ (by simp [e2, e3, e7, e8, e9, hl])
  clear e2 e3 e7 e8 e9 hl
  rintro s ⟨e2, e3, e7, e8, e9, e10, e11, hl⟩
  refine cutS (fun s => s.env 2 = V which ∧ s.env 3 = caseRef c ∧ s.env 7 = caseRef d ∧ s.env 8 = ILL W0 ∧ s.env 9 = I 0 ∧ s.env 10 = ILL W ∧ s.loc = fun _ => none) ?_ ?_
  · intro k hk
    simp -implicitDefEqProofs [e11]
    exact hk _ (by simp [e2, e3, e7, e8, e9, e10, hl])
  clear e2 e3 e7 e8 e9 e10 e11 hl
  rintro s ⟨e2, e3, e7, e8, e9, e10, hl⟩
  refine cutS (fun s => s.env 2 = V which ∧ s.env 3 = caseRef c ∧ s.env 7 = caseRef d ∧ s.env 9 = I 0 ∧ s.loc = fun _ => none) ?_ ?_
  · intro K hK
    simp -implicitDefEqProofs
    refine loop_up W.length (fun k s => s.env 2 = V which ∧ s.env 3 = caseRef c ∧ s.env 7 = caseRef d ∧ s.env 8 = ILL W0 ∧ s.env 9 = I 0 ∧ s.env 10 = ILL W ∧ s.env 12 = I k ∧ s.loc = fun _ => none) ?_ ?_
    · simp [e2, e3, e7, e8, e9, e10, hl]
    clear e2 e3 e7 e8 e9 e10 hl
    rintro k s hk ⟨e2, e3, e7, e8, e9, e10, e12, hl⟩
    simp -implicitDefEqProofs [e10, e12]
    refine cond_dec (fun hlt => ?_) (fun hge => ?_)
    · have hlt : k < W.length := by omega
      have on := one W[k]
      rw [decide_eq_true (hsub _ (List.getElem_mem hlt))] at on
      simp -implicitDefEqProofs [e8, e10, e12, hlt]
      refine vCall_of on ?_
      simp -implicitDefEqProofs [e12]
      refine ⟨i64 (by omega) (by omega), round_ok hlt ?_⟩
      simp [e2, e3, e7, e8, e9, e10, hl]
    · obtain rfl : k = W.length := by omega
      simp -implicitDefEqProofs
      exact hK _ (by simp [e2, e3, e7, e9, hl])
  clear e2 e3 e7 e8 e9 e10 hl
  rintro s ⟨e2, e3, e7, e9, hl⟩
  obtain ⟨G, hG⟩ : ∃ G : Nat, c.gath = G := ⟨c.gath.toNat, by omega⟩
  have hn1 := Nat.mod_lt which (show 0 < G by omega)
  have tm := tmod_nat which G
  have vm : (which : Int) % (G : Int) = ((which % G : Nat) : Int) := rfl
  have wv : IntKind.wrap .i64 (which : Int) = which := wrap_u (by omega)
  have hG0 : ¬ G = 0 := by omega
  generalize hnn : which % G = n at *
  have st1 := stocks23_ok c n
  have st2 := stocks23_ok d n
  have hng : 0 ≤ (n : Int) ∧ (n : Int) < c.gath := by omega
  rw [stocks_say hc hnc hng] at st1
  rw [stocks_say hd hn (by rw [hdg]; exact hng)] at st2
  obtain ⟨p1, p2⟩ := hst n hng
  have q1 := part40_ok (sureR c (truR c) n) (sureR d (truR d) n)
  have q2 := part40_ok (mayR d (truR d) n) (mayR c (truR c) n)
  rw [decide_eq_true p1] at q1
  rw [decide_eq_true p2] at q2
  generalize sureR c (truR c) n = S1 at *
  generalize sureR d (truR d) n = S2 at *
  generalize mayR c (truR c) n = M1 at *
  generalize mayR d (truR d) n = M2 at *
  refine cutS (fun s => s.env 3 = caseRef c ∧ s.env 7 = caseRef d ∧ s.env 9 = I 0 ∧ s.env 13 = I n ∧ s.loc = fun _ => none) ?_ ?_
  · intro k hk
    simp -implicitDefEqProofs [e2, e3, wv, hG, tm, vm, hG0]
    exact hk _ (by simp [e3, e7, e9, hl])
  clear e2 e3 e7 e9 hl
  rintro s ⟨e3, e7, e9, e13, hl⟩
  refine cutS (fun s => s.env 3 = caseRef c ∧ s.env 7 = caseRef d ∧ s.env 9 = I 0 ∧ s.env 13 = I n ∧ s.env 14 = IL S1 ∧ s.env 15 = IL M1 ∧ s.env 16 = I 0 ∧ s.loc = fun _ => none) ?_ ?_
  · intro k hk
    simp -implicitDefEqProofs [e3, e13]
    refine vCall_of st1 ?_
    simp -implicitDefEqProofs
    exact hk _ (by simp [e3, e7, e9, e13, hl])
  clear e3 e7 e9 e13 hl
  rintro s ⟨e3, e7, e9, e13, e14, e15, e16, hl⟩
  refine cutS (fun s => s.env 3 = caseRef c ∧ s.env 7 = caseRef d ∧ s.env 9 = I 0 ∧ s.env 14 = IL S1 ∧ s.env 15 = IL M1 ∧ s.env 16 = I 0 ∧ s.env 17 = IL S2 ∧ s.env 18 = IL M2 ∧ s.env 19 = I 0 ∧ s.loc = fun _ => none) ?_ ?_
  · intro k hk
    simp -implicitDefEqProofs [e7, e13]
    refine vCall_of st2 ?_
    simp -implicitDefEqProofs
    exact hk _ (by simp [e3, e7, e9, e14, e15, e16, hl])
  clear e3 e7 e9 e13 e14 e15 e16 hl
  rintro s ⟨e3, e7, e9, e14, e15, e16, e17, e18, e19, hl⟩
  refine cutS (fun s => s.env 3 = caseRef c ∧ s.env 7 = caseRef d ∧ s.env 9 = I 0 ∧ s.env 14 = IL S1 ∧ s.env 15 = IL M1 ∧ s.env 16 = I 0 ∧ s.env 17 = IL S2 ∧ s.env 18 = IL M2 ∧ s.env 19 = I 0 ∧
    s.env 20 = .ref [I L.a, I L.b] ∧ s.env 21 = .ref [I L.x, I L.y] ∧ s.env 22 = I 0 ∧ s.loc = fun _ => none) ?_ ?_
  · intro k hk
    simp -implicitDefEqProofs [e3]
    refine vCall_of l1 ?_
    simp -implicitDefEqProofs [hl]
    intro b16 b17 n
    have n' : ¬ b16 = b17 := fun e => n e.symm
    simp -implicitDefEqProofs [n, n']
    refine hk _ ?_
    simp [e3, e7, e9, e14, e15, e16, e17, e18, e19, le1]
    funext b
    by_cases hb : b = b17 <;> by_cases hb2 : b = b16 <;> simp [hb, hb2, hl]
  clear e3 e7 e9 e14 e15 e16 e17 e18 e19 hl
  rintro s ⟨e3, e7, e9, e14, e15, e16, e17, e18, e19, e20, e21, e22, hl⟩
  refine cutS (fun s => s.env 3 = caseRef c ∧ s.env 7 = caseRef d ∧ s.env 9 = I 0 ∧ s.env 14 = IL S1 ∧ s.env 15 = IL M1 ∧ s.env 16 = I 0 ∧ s.env 17 = IL S2 ∧ s.env 18 = IL M2 ∧ s.env 19 = I 0 ∧
    s.env 20 = .ref [I L.a, I L.b] ∧ s.env 21 = .ref [I L.x, I L.y] ∧ s.env 22 = I 0 ∧ s.env 23 = .ref [I L'.a, I L'.b] ∧ s.env 24 = .ref [I L'.x, I L'.y] ∧ s.env 25 = I 0 ∧ s.loc = fun _ => none) ?_ ?_
  · intro k hk
    simp -implicitDefEqProofs [e7]
    refine vCall_of l2 ?_
    simp -implicitDefEqProofs [hl]
    intro b16 b17 n
    have n' : ¬ b16 = b17 := fun e => n e.symm
    simp -implicitDefEqProofs [n, n']
    refine hk _ ?_
    simp [e3, e7, e9, e14, e15, e16, e17, e18, e19, e20, e21, e22, le2]
    funext b
    by_cases hb : b = b17 <;> by_cases hb2 : b = b16 <;> simp [hb, hb2, hl]
  clear e3 e7 e9 e14 e15 e16 e17 e18 e19 e20 e21 e22 hl
  rintro s ⟨e3, e7, e9, e14, e15, e16, e17, e18, e19, e20, e21, e22, e23, e24, e25, hl⟩
  refine cutS (fun s => s.env 7 = caseRef d ∧ s.env 9 = I 0 ∧ s.env 14 = IL S1 ∧ s.env 15 = IL M1 ∧ s.env 16 = I 0 ∧ s.env 17 = IL S2 ∧ s.env 18 = IL M2 ∧ s.env 19 = I 0 ∧
    s.env 20 = .ref [I L.a, I L.b] ∧ s.env 21 = .ref [I L.x, I L.y] ∧ s.env 22 = I 0 ∧ s.env 23 = .ref [I L'.a, I L'.b] ∧ s.env 24 = .ref [I L'.x, I L'.y] ∧ s.env 25 = I 0 ∧ s.env 26 = .ref [I Y.a, I Y.b] ∧ s.env 27 = I 0 ∧ s.loc = fun _ => none) ?_ ?_
  · intro k hk
    simp -implicitDefEqProofs [e3]
    refine vCall_of y1 ?_
    simp -implicitDefEqProofs [hl]
    intro b26
    refine hk _ ?_
    simp [e7, e9, e14, e15, e16, e17, e18, e19, e20, e21, e22, e23, e24, e25, ye1]
    funext b
    by_cases hb : b = b26 <;> simp [hb, hl]
  clear e3 e7 e9 e14 e15 e16 e17 e18 e19 e20 e21 e22 e23 e24 e25 hl
  rintro s ⟨e7, e9, e14, e15, e16, e17, e18, e19, e20, e21, e22, e23, e24, e25, e26, e27, hl⟩
  refine cutS (fun s => s.env 9 = I 0 ∧ s.env 14 = IL S1 ∧ s.env 15 = IL M1 ∧ s.env 16 = I 0 ∧ s.env 17 = IL S2 ∧ s.env 18 = IL M2 ∧ s.env 19 = I 0 ∧
    s.env 20 = .ref [I L.a, I L.b] ∧ s.env 21 = .ref [I L.x, I L.y] ∧ s.env 22 = I 0 ∧ s.env 23 = .ref [I L'.a, I L'.b] ∧ s.env 24 = .ref [I L'.x, I L'.y] ∧ s.env 25 = I 0 ∧ s.env 26 = .ref [I Y.a, I Y.b] ∧ s.env 27 = I 0 ∧ s.env 28 = .ref [I Y'.a, I Y'.b] ∧ s.env 29 = I 0) ?_ ?_
  · intro k hk
    simp -implicitDefEqProofs [e7]
    refine vCall_of y2 ?_
    simp -implicitDefEqProofs [hl]
    intro b28
    exact hk _ (by simp [e9, e14, e15, e16, e17, e18, e19, e20, e21, e22, e23, e24, e25, e26, e27, ye2])
  clear e7 e9 e14 e15 e16 e17 e18 e19 e20 e21 e22 e23 e24 e25 e26 e27 hl
  rintro s ⟨e9, e14, e15, e16, e17, e18, e19, e20, e21, e22, e23, e24, e25, e26, e27, e28, e29⟩
  refine cutS (fun s => s.env 14 = IL S1 ∧ s.env 15 = IL M1 ∧ s.env 17 = IL S2 ∧ s.env 18 = IL M2 ∧
    s.env 20 = .ref [I L.a, I L.b] ∧ s.env 21 = .ref [I L.x, I L.y] ∧ s.env 23 = .ref [I L'.a, I L'.b] ∧ s.env 24 = .ref [I L'.x, I L'.y] ∧ s.env 26 = .ref [I Y.a, I Y.b] ∧ s.env 28 = .ref [I Y'.a, I Y'.b]) ?_ ?_
  · intro k hk
    simp -implicitDefEqProofs [e9, e16, e19, e22, e25, e27, e29]
    exact hk _ (by simp [e14, e15, e17, e18, e20, e21, e23, e24, e26, e28])
  clear e9 e14 e15 e16 e17 e18 e19 e20 e21 e22 e23 e24 e25 e26 e27 e28 e29
  rintro s ⟨e14, e15, e17, e18, e20, e21, e23, e24, e26, e28⟩
  simp -implicitDefEqProofs [e14, e17]
  refine vCall_of q1 ?_
  simp -implicitDefEqProofs [e15, e18]
  refine vCall_of q2 ?_
  simp -implicitDefEqProofs [e20, e21, e23, e24, e26, e28, hla.1, hla.2, hlx.1, hlx.2, hye.1, hye.2]
  refine vCall_of aw ?_
  simp -implicitDefEqProofs [r9]
theorem paperMore_ok (c : Case) (x : Int × Int) (which : Int) (hl : c.seen.length * 16 ≤ 140737488351232) (_ : True) (hw : 0 ≤ which ∧ which ≤ 255) : PCall Try.prog 9 [encCase c, encSeen x, V which] (B true) := by
  have := paperMore_at c x.1 x.2 hl (which := which.toNat) (by omega)
  rwa [Int.toNat_of_nonneg hw.1] at this
end Go.Proofs.Ytbcfmfiolbcclaa

