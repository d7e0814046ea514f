/- The resolved code of some functions, written by program, each held against the function by the kernel. The law PaperFewest: its contract. -/
import Derived.Test.YtbcfmfiolbcclaaZI
import Derived.KernelRfl
import Derived.Test.YtbcfmfiolbcclaaZL
namespace Go.Proofs.Ytbcfmfiolbcclaa
open Go.Avm

/- duodecimo/duodecimolaw06.PaperFewest -/
def ann8 : Ann := { muts := [], nilsz := [(12, 1)], oid := [], frz := [9, 18], zero := [(9, [(.slice 1 [] 10000), (.slice 1 [] 10001), (.slice 1 [] 10002)]), (18, [(.lit (.int .i64 0)), (.slice 3 [] 19001), (.slice 3 [] 19002), (.lit (.int .i64 0)), (.slice 2 [] 19004)]), (118, [(.lit (.int .i64 0))])], ord := [(10, [0, 1, 2, 3, 4, 5, 6, 7, 8, 9, 10, 11, 12, 13, 14, 15, 16, 17, 18, 19, 20, 21, 22, 23, 24, 25, 26, 27, 28, 29, 30])], ap := [], own := [], yl := [], fz := [], imm := [], ic := [], cl := [], ylL := [], rl := [] }
def m8 : MCode := (.seq (.reg [.boxI 3 (.t 0) 5, .boxI 4 (.t 1) 3, .asg 6 (.c (.lit (.bool false)))])
 (.seq (.reg [.load 24 (.t 3) (some 5), .call 25 30 [(.t 24)], .cpy 23 (.t 25), .ext 26 (.t 23) 0, .ext 27 (.t 23) 1, .asg 7 (.t 26), .asg 8 (.t 27)])
 (.seq (.seq (.reg [.load 28 (.t 3) (some 5), .call 29 36 [(.t 28)], .not 30 (.t 29)])
 (.cond (.t 30) (.seq (.reg [.cpy 31 (.t 8), .bin 32 .neq (.t 31) (.c (.lit (.int .i64 0))), .cpy 33 (.t 32), .guard 33 true (some 34) (.cpy 34 (.t 7)), .guard 33 true (some 35) (.len 35 (.t 34)), .guard 33 true (some 36) (.bin 36 .eql (.t 35) (.c (.lit (.int .i64 0)))), .pick 37 (.t 33) (.t 36) (.c (.lit (.bool false))), .cpy 38 (.t 37), .guard 38 true (some 39) (.call 39 22 []), .pick 40 (.t 38) (.t 39) (.c (.lit (.bool false))), .asg 6 (.t 40)])
 .ret) .skip))
 (.seq (.reg [.load 42 (.t 3) (some 5), .load 43 (.t 4) (some 3), .call 44 37 [(.t 42), (.t 43)], .cpy 41 (.t 44), .ext 45 (.t 41) 0, .ext 46 (.t 41) 1, .alloc 9 [(.slice 1 [] 10000), (.slice 1 [] 10001), (.slice 1 [] 10002)], .storeF 9 (.t 45) 3, .asg 10 (.t 46)])
 (.seq (.seq (.reg [.cpy 47 (.t 10), .not 48 (.t 47), .cpy 49 (.t 48), .guard 49 false (some 50) (.cpy 50 (.t 8)), .guard 49 false (some 51) (.bin 51 .neq (.t 50) (.c (.lit (.int .i64 0)))), .pick 52 (.t 49) (.c (.lit (.bool true))) (.t 51)])
 (.cond (.t 52) (.seq (.reg [.cpy 53 (.t 10), .not 54 (.t 53), .cpy 55 (.t 54), .guard 55 true (some 56) (.cpy 56 (.t 8)), .guard 55 true (some 57) (.bin 57 .eql (.t 56) (.c (.lit (.int .i64 9)))), .pick 58 (.t 55) (.t 57) (.c (.lit (.bool false))), .cpy 59 (.t 58), .guard 59 true (some 60) (.cpy 60 (.t 7)), .guard 59 true (some 61) (.len 61 (.t 60)), .guard 59 true (some 62) (.bin 62 .eql (.t 61) (.c (.lit (.int .i64 0)))), .pick 63 (.t 59) (.t 62) (.c (.lit (.bool false))), .cpy 64 (.t 63), .guard 64 true (some 65) (.call 65 22 []), .pick 66 (.t 64) (.t 65) (.c (.lit (.bool false))), .asg 6 (.t 66)])
 .ret) .skip))
 (.seq (.seq (.reg [.asg 11 (.c (.lit (.int .i64 0)))])
 (.block 0 (.loop (.seq (.seq (.reg [.cpy 67 (.t 11), .cpy 68 (.t 7), .len 69 (.t 68), .bin 70 .lss (.t 67) (.t 69)])
 (.cond (.t 70) .skip (.exit 0)))
 (.seq (.block 1 (.seq (.reg [.cpy 73 (.t 7), .cpy 74 (.t 11), .idxS 75 (.t 73) (.t 74) 1, .load 76 (.t 75) none, .bin 77 .lss (.t 76) (.c (.lit (.int .i64 0))), .cpy 78 (.t 77), .guard 78 false (some 79) (.cpy 79 (.t 7)), .guard 78 false (some 80) (.cpy 80 (.t 11)), .guard 78 false (some 81) (.idxS 81 (.t 79) (.t 80) 1), .guard 78 false (some 82) (.load 82 (.t 81) none), .guard 78 false (some 83) (.addr 83 (.t 3) 4), .guard 78 false (some 84) (.load 84 (.t 83) none), .guard 78 false (some 85) (.len 85 (.t 84)), .guard 78 false (some 86) (.bin 86 .geq (.t 82) (.t 85)), .pick 87 (.t 78) (.c (.lit (.bool true))) (.t 86), .cpy 88 (.t 87), .guard 88 false (some 89) (.cpy 89 (.t 11)), .guard 88 false (some 90) (.bin 90 .gtr (.t 89) (.c (.lit (.int .i64 0)))), .guard 88 false (some 91) (.cpy 91 (.t 90)), .guard 91 true (some 92) (.cpy 92 (.t 7)), .guard 91 true (some 93) (.cpy 93 (.t 11)), .guard 91 true (some 94) (.idxS 94 (.t 92) (.t 93) 1), .guard 91 true (some 95) (.load 95 (.t 94) none), .guard 91 true (some 96) (.cpy 96 (.t 7)), .guard 91 true (some 97) (.cpy 97 (.t 11)), .guard 91 true (some 98) (.bin 98 .sub (.t 97) (.c (.lit (.int .i64 1)))), .guard 91 true (some 99) (.idxS 99 (.t 96) (.t 98) 1), .guard 91 true (some 100) (.load 100 (.t 99) none), .guard 91 true (some 101) (.bin 101 .leq (.t 95) (.t 100)), .guard 88 false (some 102) (.pick 102 (.t 91) (.t 101) (.c (.lit (.bool false)))), .pick 103 (.t 88) (.c (.lit (.bool true))) (.t 102)])
 (.cond (.t 103) (.seq (.reg [.asg 6 (.c (.lit (.bool false)))])
 .ret) .skip)))
 (.reg [.cpy 71 (.t 11), .bin 72 .add (.t 71) (.c (.lit (.int .i64 1))), .asg 11 (.t 72)]))))))
 (.seq (.reg [.asgNil 12 1])
 (.seq (.seq (.reg [.asg 13 (.c (.lit (.int .i64 0)))])
 (.block 2 (.loop (.seq (.seq (.reg [.cpy 104 (.t 13), .addr 105 (.t 3) 4, .load 106 (.t 105) none, .len 107 (.t 106), .bin 108 .lss (.t 104) (.t 107)])
 (.cond (.t 108) .skip (.exit 2)))
 (.seq (.block 3 (.seq (.reg [.cpy 111 (.t 2), .cpy 112 (.t 13), .bin 113 .shr (.t 111) (.t 112), .bin 114 .rem (.t 113) (.c (.lit (.int .u8 2))), .bin 115 .eql (.t 114) (.c (.lit (.int .u8 1)))])
 (.cond (.t 115) (.reg [.cpy 116 (.t 12), .cpy 117 (.t 13), .mkS 118 1 1 [(.lit (.int .i64 0))] [(0, (.t 117))], .app 119 (.t 116) (.t 118) 1 8, .asg 12 (.t 119)]) .skip)))
 (.reg [.cpy 109 (.t 13), .bin 110 .add (.t 109) (.c (.lit (.int .i64 1))), .asg 13 (.t 110)]))))))
 (.seq (.reg [.load 121 (.t 3) (some 5), .cpy 122 (.t 7), .call 123 44 [(.t 121), (.t 122)], .call 124 17 [(.t 123)], .cpy 120 (.t 124), .ext 125 (.t 120) 0, .ext 126 (.t 120) 1, .asg 14 (.t 125), .asg 15 (.t 126)])
 (.seq (.reg [.load 128 (.t 3) (some 5), .cpy 129 (.t 12), .call 130 44 [(.t 128), (.t 129)], .call 131 17 [(.t 130)], .cpy 127 (.t 131), .ext 132 (.t 127) 0, .ext 133 (.t 127) 1, .asg 16 (.t 132), .asg 17 (.t 133)])
 (.seq (.seq (.reg [.cpy 134 (.t 15), .bin 135 .neq (.t 134) (.c (.lit (.int .i64 0))), .cpy 136 (.t 135), .guard 136 false (some 137) (.cpy 137 (.t 17)), .guard 136 false (some 138) (.bin 138 .eql (.t 137) (.c (.lit (.int .i64 0)))), .guard 136 false (some 139) (.cpy 139 (.t 138)), .guard 139 true (some 140) (.cpy 140 (.t 12)), .guard 139 true (some 141) (.len 141 (.t 140)), .guard 139 true (some 142) (.cpy 142 (.t 7)), .guard 139 true (some 143) (.len 143 (.t 142)), .guard 139 true (some 144) (.bin 144 .lss (.t 141) (.t 143)), .guard 136 false (some 145) (.pick 145 (.t 139) (.t 144) (.c (.lit (.bool false)))), .pick 146 (.t 136) (.c (.lit (.bool true))) (.t 145)])
 (.cond (.t 146) (.seq (.reg [.asg 6 (.c (.lit (.bool false)))])
 .ret) .skip))
 (.seq (.reg [.load 147 (.t 3) (some 5), .load 148 (.t 9) (some 3), .load 149 (.t 4) (some 3), .cpy 150 (.t 2), .call 151 38 [(.t 147), (.t 148), (.t 149), (.t 150)], .alloc 18 [(.lit (.int .i64 0)), (.slice 3 [] 19001), (.slice 3 [] 19002), (.lit (.int .i64 0)), (.slice 2 [] 19004)], .storeF 18 (.t 151) 5])
 (.seq (.reg [.asg 19 (.c (.lit (.int .i64 0)))])
 (.seq (.seq (.reg [.asg 20 (.c (.lit (.int .i64 0)))])
 (.block 4 (.loop (.seq (.seq (.reg [.cpy 152 (.t 20), .addr 153 (.t 18) 4, .load 154 (.t 153) none, .len 155 (.t 154), .bin 156 .lss (.t 152) (.t 155)])
 (.cond (.t 156) .skip (.exit 4)))
 (.seq (.block 5 (.seq (.reg [.cpy 159 (.t 2), .cpy 160 (.t 20), .bin 161 .shr (.t 159) (.t 160), .bin 162 .rem (.t 161) (.c (.lit (.int .u8 2))), .bin 163 .eql (.t 162) (.c (.lit (.int .u8 1)))])
 (.cond (.t 163) (.reg [.cpy 164 (.t 19), .bin 165 .add (.t 164) (.c (.lit (.int .i64 1))), .asg 19 (.t 165)]) .skip)))
 (.reg [.cpy 157 (.t 20), .bin 158 .add (.t 157) (.c (.lit (.int .i64 1))), .asg 20 (.t 158)]))))))
 (.seq (.reg [.load 167 (.t 18) (some 5), .call 168 30 [(.t 167)], .cpy 166 (.t 168), .ext 169 (.t 166) 0, .ext 170 (.t 166) 1, .asg 21 (.t 169), .asg 22 (.t 170)])
 (.seq (.reg [.cpy 171 (.t 22), .bin 172 .eql (.t 171) (.c (.lit (.int .i64 0))), .cpy 173 (.t 172), .guard 173 true (some 174) (.cpy 174 (.t 21)), .guard 173 true (some 175) (.len 175 (.t 174)), .guard 173 true (some 176) (.cpy 176 (.t 19)), .guard 173 true (some 177) (.bin 177 .leq (.t 175) (.t 176)), .pick 178 (.t 173) (.t 177) (.c (.lit (.bool false))), .cpy 179 (.t 178), .guard 179 true (some 180) (.call 180 22 []), .pick 181 (.t 179) (.t 180) (.c (.lit (.bool false))), .asg 6 (.t 181)])
 .ret))))))))))))))))
def r8 : List MRes := [.tmp 6]
theorem tr8 : Try.f8.body.bind (trC Try.prog ann8 Try.f8.ntmps) = some m8 := by kernel_rfl
theorem rs8 : trRes Try.prog Try.f8.results.toList = some r8 := by kernel_rfl
theorem fn8 : isFunc Try.prog 8 = true := by kernel_rfl
end Go.Proofs.Ytbcfmfiolbcclaa

namespace Go.Proofs.Ytbcfmfiolbcclaa
open Go.Avm

theorem paperFewest_at (c : Case) (x : Past) (hx : x.OK) {bits : Nat} (hb : bits < 256) : PCall Try.prog 8 [encCase c, encPast x, V bits] (B true) := by
  refine pcall Try.func8 tr8 rs8 fn8 (by simp [Try.ntmps8]) fun _ => ?_
  have va := valid36_ok c
  have w1 := wrong30_ok c
  have aw := awake22_ok
  unfold m8
  refine cutS (fun s => s.env 2 = V bits ∧ s.env 3 = caseRef c ∧ s.env 4 = .ref [US x.truth, US x.years, US x.looked] ∧ s.loc = fun _ => none) ?_ ?_
  · intro k hk
    simp -implicitDefEqProofs
    exact hk _ (by simp)
  rintro s ⟨e2, e3, e4, hl⟩
  by_cases he : errE c = 0
  case neg =>
    rw [wrong_err he] at w1
    have he' : (errE c != 0) = true := by simpa using he
    simp -implicitDefEqProofs [e3]
    refine vCall_of w1 ?_
    simp -implicitDefEqProofs [e3]
    refine vCall_of va ?_
    simp -implicitDefEqProofs [he, he']
    refine vCall_of aw ?_
    simp -implicitDefEqProofs [r8]
  have hok := err_ok he
  have h8 := (checkS_zero he).2.1
  have hany := any37_ok hok hx
  by_cases hp : pilesL c = []
  case pos =>
    have hany : PCall Try.prog 37 [encCase c, encPast x] (.tuple [nilT, B false]) := by rw [show anyAV c x = _ from if_pos hp] at hany; exact hany
    rw [wrong_no he hp] at w1
    simp -implicitDefEqProofs [e3]
    refine vCall_of w1 ?_
    simp -implicitDefEqProofs [e3]
    refine vCall_of va ?_
    simp -implicitDefEqProofs [he, e3, e4]
    refine vCall_of hany ?_
    simp -implicitDefEqProofs [hl]
    intro b9
    refine vCall_of aw ?_
    simp -implicitDefEqProofs [r8]
  obtain ⟨b, hw, hb1, hb2, hb3⟩ := wrong_say he hp
  rw [hw] at w1
  have hany : PCall Try.prog 37 [encCase c, encPast x] (.tuple [encT c (anyTru c x), B true]) := by rw [show anyAV c x = _ from if_neg hp] at hany; exact hany
  obtain ⟨ht1, ht2⟩ := anyTru_mem hok x hp
  obtain ⟨t, hat⟩ : ∃ t, t = anyTru c x := ⟨_, rfl⟩
  rw [← hat] at hany ht1 ht2
  have ht : TruIn c t := ⟨ht1, ht2⟩
  have td := told38_ok hok ht hx hb
  have hde := told_err he ht x bits
  have hdm := told_in he ht x bits
  have hdp : pilesL (toldC c t x bits) ≠ [] := List.ne_nil_of_mem ((mem_truA (err_ok hde)).1 hdm).1
  obtain ⟨b', hw', -, -, hb3'⟩ := wrong_say hde hdp
  have hb3' := hb3' bits (List.ne_nil_of_mem hdm)
  have hd8 := (checkS_zero hde).2.1
  generalize toldC c t x bits = d at *
  have w2 := wrong30_ok d
  rw [hw'] at w2
  have hwl := fun k (hk : k < (bitsL b).length) => bits_in hb1 hk
  have hwn : (bitsL b).length ≤ 8 := selT_len _ _
  have c1 := without44_ok c (bitsL b) h8
  have c2 := without44_ok c (selT (fun i => bits.testBit i) c.seen.length) h8
  have o1 := orders17_ok (caseBut c (bitsL b))
  have o2 := orders17_ok (caseBut c (selT (fun i => bits.testBit i) c.seen.length))
  have z1 := (but_orders he (out := bitsL b) (but := b) fun i hi => bits_but h8 i hi).2 hb2
  have z2 := but_orders he (out := selT (fun i => bits.testBit i) c.seen.length) (but := bits) fun i hi => sel_but i hi
  have hb3 := fun h => hb3 bits (z2.1 h)
  rw [z1] at o1
  generalize caseBut c (bitsL b) = d1 at *
  generalize hW : bitsL b = W at *
  have hsl := fun n => selT_len (fun i => bits.testBit i) n
  have hss := fun n => selT_succ (fun i => bits.testBit i) n
  have hs0 := selT_zero (fun i => bits.testBit i)
  generalize selT (fun i => bits.testBit i) = Q at *
  generalize caseBut c (Q c.seen.length) = d2 at *
  generalize ordersS d1 = O1 at *
  generalize ordersS d2 = O2 at *
  refine cutS (fun s => s.env 2 = V bits ∧ s.env 3 = caseRef c ∧ s.env 4 = .ref [US x.truth, US x.years, US x.looked] ∧ s.env 7 = IL W ∧ s.env 8 = I 0 ∧ s.loc = fun _ => none) ?_ ?_
  · intro k hk
    simp -implicitDefEqProofs [e3]
    refine vCall_of w1 ?_
    simp -implicitDefEqProofs
    exact hk _ (by simp [e2, e3, e4, hl])
  clear e2 e3 e4 hl
  rintro s ⟨e2, e3, e4, e7, e8, hl⟩
  refine cutS (fun s => s.env 2 = V bits ∧ s.env 3 = caseRef c ∧ s.env 4 = .ref [US x.truth, US x.years, US x.looked] ∧ s.env 7 = IL W ∧ s.env 8 = I 0 ∧ s.loc = fun _ => none) ?_ ?_
  · intro k hk
    simp -implicitDefEqProofs [e3]
    refine vCall_of va ?_
    simp -implicitDefEqProofs [he]
    exact hk _ (by simp [e2, e3, e4, e7, e8, hl])
  clear e2 e3 e4 e7 e8 hl
  rintro s ⟨e2, e3, e4, e7, e8, hl⟩
  refine cutS (fun s => s.env 2 = V bits ∧ s.env 3 = caseRef c ∧ s.env 4 = .ref [US x.truth, US x.years, US x.looked] ∧ s.env 7 = IL W ∧ s.env 8 = I 0 ∧ s.env 9 = .ref [IL t.1, IL t.2, ILL (placesL c t.1)] ∧ s.env 10 = B true ∧ s.loc = fun _ => none) ?_ ?_
  · intro k hk
    simp -implicitDefEqProofs [e3, e4]
    refine vCall_of hany ?_
    simp -implicitDefEqProofs [hl]
    intro b9
    refine hk _ ?_
    simp [e2, e3, e4, e7, e8]
    funext b
    by_cases hb : b = b9 <;> simp [hb, hl]
  clear e2 e3 e4 e7 e8 hl
  rintro s ⟨e2, e3, e4, e7, e8, e9, e10, hl⟩
  refine cutS (fun s => s.env 2 = V bits ∧ s.env 3 = caseRef c ∧ s.env 4 = .ref [US x.truth, US x.years, US x.looked] ∧ s.env 7 = IL W ∧ s.env 9 = .ref [IL t.1, IL t.2, ILL (placesL c t.1)] ∧ s.loc = fun _ => none) ?_ ?_
  · intro k hk
    simp -implicitDefEqProofs [e10, e8]
    exact hk _ (by simp [e2, e3, e4, e7, e9, hl])
  clear e2 e3 e4 e7 e8 e9 e10 hl
  rintro s ⟨e2, e3, e4, e7, e9, hl⟩
  refine cutS (fun s => s.env 2 = V bits ∧ s.env 3 = caseRef c ∧ s.env 4 = .ref [US x.truth, US x.years, US x.looked] ∧ s.env 7 = IL W ∧ s.env 9 = .ref [IL t.1, IL t.2, ILL (placesL c t.1)] ∧ s.loc = fun _ => none) ?_ ?_
  · intro K hK
    simp -implicitDefEqProofs
    refine loop_up W.length (fun k s => s.env 2 = V bits ∧ s.env 3 = caseRef c ∧ s.env 4 = .ref [US x.truth, US x.years, US x.looked] ∧ s.env 7 = IL W ∧ s.env 9 = .ref [IL t.1, IL t.2, ILL (placesL c t.1)] ∧ s.env 11 = I k ∧ s.loc = fun _ => none) ?_ ?_
    · simp [e2, e3, e4, e7, e9, hl]
    clear e2 e3 e4 e7 e9 hl
    rintro k s hk ⟨e2, e3, e4, e7, e9, e11, hl⟩
    simp -implicitDefEqProofs [e7, e11]
    refine cond_dec (fun hlt => ?_) (fun hge => ?_)
    · have hlt : k < W.length := by omega
      obtain ⟨q1, q2, q3⟩ := hwl k hlt
      have q1' : ¬ W[k] < 0 := by omega
      have q2' : ¬ (c.seen.length : Int) ≤ W[k] := by omega
      by_cases hk0 : 0 < k
      · have q3 := q3 hk0 (by omega)
        have hk1 : k - 1 < W.length := by omega
        have q3' : ¬ W[k] ≤ W[k - 1] := by omega
        have hk0' : (0 : Int) < k := by omega
        have hc1 : ((k : Int) - 1) = ((k - 1 : Nat) : Int) := by omega
        have hWk : ((Option.map I W[k - 1]?).getD AV.any) = I W[k - 1] := by simp [hk1]
        simp -implicitDefEqProofs [e3, e7, e11, hlt, q1', q2', hk0, hk0', hWk, q3']
        refine ⟨i64 (by omega) (by omega), by omega, by omega, i64 (by omega) (by omega), round_ok hlt ?_⟩
        simp [e2, e3, e4, e7, e9, hl]
      · obtain rfl : k = 0 := by omega
        simp -implicitDefEqProofs [e3, e7, e11, hlt, q1', q2']
        refine ⟨i64 (by omega) (by omega), round_ok hlt ?_⟩
        simp [e2, e3, e4, e7, e9, hl]
    · obtain rfl : k = W.length := by omega
      simp -implicitDefEqProofs
      exact hK _ (by simp [e2, e3, e4, e7, e9, hl])
  clear e2 e3 e4 e7 e9 hl
  rintro s ⟨e2, e3, e4, e7, e9, hl⟩
  have hQ := hsl c.seen.length
  refine cutS (fun s => s.env 2 = V bits ∧ s.env 3 = caseRef c ∧ s.env 4 = .ref [US x.truth, US x.years, US x.looked] ∧ s.env 7 = IL W ∧ s.env 9 = .ref [IL t.1, IL t.2, ILL (placesL c t.1)] ∧ s.env 12 = .slice 1 [] 13 ∧ s.loc = fun _ => none) ?_ ?_
  · intro k hk
    simp -implicitDefEqProofs
    exact hk _ (by simp [e2, e3, e4, e7, e9, hl])
  clear e2 e3 e4 e7 e9 hl
  rintro s ⟨e2, e3, e4, e7, e9, e12, hl⟩
  refine cutS (fun s => s.env 2 = V bits ∧ s.env 3 = caseRef c ∧ s.env 4 = .ref [US x.truth, US x.years, US x.looked] ∧ s.env 7 = IL W ∧ s.env 9 = .ref [IL t.1, IL t.2, ILL (placesL c t.1)] ∧ s.env 12 = .slice 1 ((Q c.seen.length).map I) 13 ∧ s.loc = fun _ => none) ?_ ?_
  · intro K hK
    simp -implicitDefEqProofs
    refine loop_up c.seen.length (fun k s => s.env 2 = V bits ∧ s.env 3 = caseRef c ∧ s.env 4 = .ref [US x.truth, US x.years, US x.looked] ∧ s.env 7 = IL W ∧ s.env 9 = .ref [IL t.1, IL t.2, ILL (placesL c t.1)] ∧ s.env 12 = .slice 1 ((Q k).map I) 13 ∧ s.env 13 = I k ∧ s.loc = fun _ => none) ?_ ?_
    · simp [e2, e3, e4, e7, e9, e12, hs0, hl]
    clear e2 e3 e4 e7 e9 e12 hl
    rintro k s hk ⟨e2, e3, e4, e7, e9, e12, e13, hl⟩
    simp -implicitDefEqProofs [e3, e13]
    refine cond_dec (fun hlt => ?_) (fun hge => ?_)
    · have hlt : k < c.seen.length := by omega
      have hsu := hss k
      have hQk := hsl k
      have hbk := bit_u8 bits hb k (by omega)
      simp -implicitDefEqProofs [e2, e13, hbk]
      refine cond_bool (fun hbt => ?_) (fun hbt => ?_)
      · rw [if_pos hbt] at hsu
        simp -implicitDefEqProofs [e12, e13]
        refine ⟨by omega, by omega, i64 (by omega) (by omega), round_ok hlt ?_⟩
        simp [e2, e3, e4, e7, e9, hsu, hl]
      · rw [if_neg (by rw [hbt]; simp), List.append_nil] at hsu
        simp -implicitDefEqProofs [e13]
        refine ⟨i64 (by omega) (by omega), round_ok hlt ?_⟩
        simp [e2, e3, e4, e7, e9, e12, hsu, hl]
    · obtain rfl : k = c.seen.length := by omega
      simp -implicitDefEqProofs
      exact hK _ (by simp [e2, e3, e4, e7, e9, e12, hl])
  clear e2 e3 e4 e7 e9 e12 hl
  rintro s ⟨e2, e3, e4, e7, e9, e12, hl⟩
  refine cutS (fun s => s.env 2 = V bits ∧ s.env 3 = caseRef c ∧ s.env 4 = .ref [US x.truth, US x.years, US x.looked] ∧ s.env 7 = IL W ∧ s.env 9 = .ref [IL t.1, IL t.2, ILL (placesL c t.1)] ∧ s.env 12 = .slice 1 ((Q c.seen.length).map I) 13 ∧ s.env 15 = I 0 ∧ s.loc = fun _ => none) ?_ ?_
  · intro k hk
    simp -implicitDefEqProofs [e3, e7]
    refine vCall_of c1 ?_
    simp -implicitDefEqProofs
    refine vCall_of o1 ?_
    simp -implicitDefEqProofs
    exact hk _ (by simp [e2, e3, e4, e7, e9, e12, hl])
  clear e2 e3 e4 e7 e9 e12 hl
  rintro s ⟨e2, e3, e4, e7, e9, e12, e15, hl⟩
  refine cutS (fun s => s.env 2 = V bits ∧ s.env 3 = caseRef c ∧ s.env 4 = .ref [US x.truth, US x.years, US x.looked] ∧ s.env 7 = IL W ∧ s.env 9 = .ref [IL t.1, IL t.2, ILL (placesL c t.1)] ∧ s.env 12 = .slice 1 ((Q c.seen.length).map I) 13 ∧ s.env 15 = I 0 ∧ s.env 17 = I O2.2 ∧ s.loc = fun _ => none) ?_ ?_
  · intro k hk
    simp -implicitDefEqProofs [e3, e12]
    refine vCall_of c2 ?_
    simp -implicitDefEqProofs
    refine vCall_of o2 ?_
    simp -implicitDefEqProofs
    exact hk _ (by simp [e2, e3, e4, e7, e9, e12, e15, hl])
  clear e2 e3 e4 e7 e9 e12 e15 hl
  rintro s ⟨e2, e3, e4, e7, e9, e12, e15, e17, hl⟩
  refine cutS (fun s => s.env 2 = V bits ∧ s.env 3 = caseRef c ∧ s.env 4 = .ref [US x.truth, US x.years, US x.looked] ∧ s.env 9 = .ref [IL t.1, IL t.2, ILL (placesL c t.1)] ∧ s.loc = fun _ => none) ?_ ?_
  · intro k hk
    by_cases hz : O2.2 = 0
    · have hle := hb3 hz
      have hle' : ¬ (Q c.seen.length).length < W.length := by omega
      have hz' : (O2.2 == 0) = true := by simpa using hz
      simp -implicitDefEqProofs [e15, e17, hz', e12, e7, hle']
      exact hk _ (by simp [e2, e3, e4, e9, hl])
    · have hz' : (O2.2 == 0) = false := by simpa using hz
      simp -implicitDefEqProofs [e15, e17, hz']
      exact hk _ (by simp [e2, e3, e4, e9, hl])
  clear e2 e3 e4 e7 e9 e12 e15 e17 hl
  rintro s ⟨e2, e3, e4, e9, hl⟩
  refine cutS (fun s => s.env 2 = V bits ∧ s.env 18 = caseRef d) ?_ ?_
  · intro k hk
    simp -implicitDefEqProofs [e2, e3, e4, e9]
    refine vCall_of td ?_
    simp -implicitDefEqProofs [hl]
    intro b18
    exact hk _ (by simp [e2])
  clear e2 e3 e4 e9 hl
  rintro s ⟨e2, e18⟩
  refine cutS (fun s => s.env 2 = V bits ∧ s.env 18 = caseRef d ∧ s.env 19 = I 0) ?_ ?_
  · intro k hk
    simp -implicitDefEqProofs
    exact hk _ (by simp [e2, e18])
  clear e2 e18
  rintro s ⟨e2, e18, e19⟩
  refine cutS (fun s => s.env 18 = caseRef d ∧ s.env 19 = I (Q d.seen.length).length) ?_ ?_
  · intro K hK
    simp -implicitDefEqProofs
    refine loop_up d.seen.length (fun k s => s.env 2 = V bits ∧ s.env 18 = caseRef d ∧ s.env 19 = I (Q k).length ∧ s.env 20 = I k) ?_ ?_
    · simp [e2, e18, e19, hs0]
    clear e2 e18 e19
    rintro k s hk ⟨e2, e18, e19, e20⟩
    simp -implicitDefEqProofs [e18, e20]
    refine cond_dec (fun hlt => ?_) (fun hge => ?_)
    · have hlt : k < d.seen.length := by omega
      have hsu := hss k
      have hQk := hsl k
      have hbk := bit_u8 bits hb k (by omega)
      simp -implicitDefEqProofs [e2, e20, hbk]
      refine cond_bool (fun hbt => ?_) (fun hbt => ?_)
      · rw [if_pos hbt] at hsu
        simp -implicitDefEqProofs [e19, e20]
        refine ⟨i64 (by omega) (by omega), i64 (by omega) (by omega), round_ok hlt ?_⟩
        simp [e2, e18, hsu]
      · rw [if_neg (by rw [hbt]; simp), List.append_nil] at hsu
        simp -implicitDefEqProofs [e20]
        refine ⟨i64 (by omega) (by omega), round_ok hlt ?_⟩
        simp [e2, e18, e19, hsu]
    · obtain rfl : k = d.seen.length := by omega
      simp -implicitDefEqProofs
      exact hK _ (by simp [e18, e19])
  clear e2 e18 e19
  rintro s ⟨e18, e19⟩
  have hle : (bitsL b').length ≤ (Q d.seen.length).length := hb3'
  simp -implicitDefEqProofs [e18]
  refine vCall_of w2 ?_
  simp -implicitDefEqProofs [e19, hle]
  refine vCall_of aw ?_
  simp -implicitDefEqProofs [r8]
theorem paperFewest_ok (c : Case) (x : Past) (bits : Int) (_ : c.seen.length * 16 ≤ 140737488351232) (hx : x.OK) (hb : 0 ≤ bits ∧ bits ≤ 255) : PCall Try.prog 8 [encCase c, encPast x, V bits] (B true) := by
  have := paperFewest_at c x hx (bits := bits.toNat) (by omega)
  rwa [Int.toNat_of_nonneg hb.1] at this
end Go.Proofs.Ytbcfmfiolbcclaa

