/- The resolved code of the law Forged, whose result keeps its owner. The law OwnerForged: its contract. -/
import Derived.Test.YtiampdiobdianaaZD
import Derived.KernelRfl
import Derived.Test.YtiampdiobdianaaZL
namespace Go.Proofs.Ytiampdiobdianaa
open Go.Avm

/- duodecimo/duodecimolaw08.OwnerForged -/
def ann11w : Ann := { muts := [], nilsz := [(9, 1)], oid := [(183, 21003)], frz := [], zero := [(20, [(.lit (.int .i64 0)), (.lit (.int .i64 0)), (.slice 3 [] 21002), (.slice 4 [] 21003), (.slice 3 [] 21004)]), (24, [(.lit (.int .i64 0)), (.lit (.int .i64 0)), (.lit (.int .i64 0)), (.lit (.int .i64 0))]), (59, [(.lit (.int .i64 0))]), (181, [(.lit (.int .i64 0)), (.lit (.int .i64 0)), (.lit (.int .i64 0)), (.lit (.int .i64 0))])], ord := [(17, [0, 1, 2, 3, 4, 5, 6, 7, 8, 9, 10, 11, 12, 13, 14, 15, 16, 17, 18, 19, 20, 21, 22, 23, 24, 25, 26, 27, 28, 29, 30])], ap := [], own := [], yl := [], fz := [], imm := [], ic := [153], cl := [], ylL := [], rl := [], dp := [20, 154, 155] }
def m11w : MCode := (.seq (.reg [.boxI 3 (.t 0) 5, .boxI 4 (.t 1) 4, .asg 6 (.c (.lit (.bool false)))])
 (.seq (.reg [.load 28 (.t 3) (some 5), .call 29 33 [(.t 28)], .cpy 27 (.t 29), .ext 30 (.t 27) 0, .ext 31 (.t 27) 1, .asg 7 (.t 30), .asg 8 (.t 31)])
 (.seq (.seq (.reg [.load 32 (.t 3) (some 5), .call 33 37 [(.t 32)], .not 34 (.t 33)])
 (.cond (.t 34) (.seq (.reg [.cpy 35 (.t 8), .bin 36 .neq (.t 35) (.c (.lit (.int .i64 0))), .cpy 37 (.t 36), .guard 37 true (some 38) (.cpy 38 (.t 7)), .guard 37 true (some 39) (.len 39 (.t 38)), .guard 37 true (some 40) (.bin 40 .eql (.t 39) (.c (.lit (.int .i64 0)))), .pick 41 (.t 37) (.t 40) (.c (.lit (.bool false))), .cpy 42 (.t 41), .guard 42 true (some 43) (.call 43 23 []), .pick 44 (.t 42) (.t 43) (.c (.lit (.bool false))), .asg 6 (.t 44)])
 .ret) .skip))
 (.seq (.reg [.asgNil 9 1])
 (.seq (.seq (.reg [.asg 10 (.c (.lit (.int .i64 0)))])
 (.block 0 (.loop (.seq (.seq (.reg [.cpy 45 (.t 10), .addr 46 (.t 3) 3, .load 47 (.t 46) none, .len 48 (.t 47), .bin 49 .lss (.t 45) (.t 48)])
 (.cond (.t 49) .skip (.exit 0)))
 (.seq (.block 1 (.seq (.reg [.cpy 52 (.t 2), .cpy 53 (.t 10), .bin 54 .shr (.t 52) (.t 53), .bin 55 .rem (.t 54) (.c (.lit (.int .u8 2))), .bin 56 .eql (.t 55) (.c (.lit (.int .u8 1)))])
 (.cond (.t 56) (.reg [.cpy 57 (.t 9), .cpy 58 (.t 10), .mkS 59 1 1 [(.lit (.int .i64 0))] [(0, (.t 58))], .app 60 (.t 57) (.t 59) 1 8, .asg 9 (.t 60)]) .skip)))
 (.reg [.cpy 50 (.t 10), .bin 51 .add (.t 50) (.c (.lit (.int .i64 1))), .asg 10 (.t 51)]))))))
 (.seq (.reg [.load 62 (.t 3) (some 5), .cpy 63 (.t 9), .call 64 48 [(.t 62), (.t 63)], .call 65 18 [(.t 64)], .cpy 61 (.t 65), .ext 66 (.t 61) 0, .ext 67 (.t 61) 1, .ext 68 (.t 61) 2, .asg 11 (.t 66), .asg 12 (.t 67), .asg 13 (.t 68)])
 (.seq (.seq (.reg [.cpy 69 (.t 8), .bin 70 .neq (.t 69) (.c (.lit (.int .i64 0)))])
 (.cond (.t 70) (.seq (.reg [.cpy 71 (.t 8), .bin 72 .neq (.t 71) (.c (.lit (.int .i64 9))), .cpy 73 (.t 72), .guard 73 false (some 74) (.cpy 74 (.t 7)), .guard 73 false (some 75) (.len 75 (.t 74)), .guard 73 false (some 76) (.bin 76 .gtr (.t 75) (.c (.lit (.int .i64 0)))), .pick 77 (.t 73) (.c (.lit (.bool true))) (.t 76), .cpy 78 (.t 77), .guard 78 false (some 79) (.cpy 79 (.t 13)), .guard 78 false (some 80) (.bin 80 .neq (.t 79) (.c (.lit (.int .i64 8)))), .pick 81 (.t 78) (.c (.lit (.bool true))) (.t 80)])
 (.cond (.t 81) (.seq (.reg [.asg 6 (.c (.lit (.bool false)))])
 .ret) .skip)) (.seq (.seq (.reg [.asg 14 (.c (.lit (.int .i64 0)))])
 (.block 2 (.loop (.seq (.seq (.reg [.cpy 82 (.t 14), .cpy 83 (.t 7), .len 84 (.t 83), .bin 85 .lss (.t 82) (.t 84)])
 (.cond (.t 85) .skip (.exit 2)))
 (.seq (.block 3 (.seq (.reg [.cpy 88 (.t 7), .cpy 89 (.t 14), .idxS 90 (.t 88) (.t 89) 1, .load 91 (.t 90) none, .bin 92 .lss (.t 91) (.c (.lit (.int .i64 0))), .cpy 93 (.t 92), .guard 93 false (some 94) (.cpy 94 (.t 7)), .guard 93 false (some 95) (.cpy 95 (.t 14)), .guard 93 false (some 96) (.idxS 96 (.t 94) (.t 95) 1), .guard 93 false (some 97) (.load 97 (.t 96) none), .guard 93 false (some 98) (.addr 98 (.t 3) 3), .guard 93 false (some 99) (.load 99 (.t 98) none), .guard 93 false (some 100) (.len 100 (.t 99)), .guard 93 false (some 101) (.bin 101 .geq (.t 97) (.t 100)), .pick 102 (.t 93) (.c (.lit (.bool true))) (.t 101), .cpy 103 (.t 102), .guard 103 false (some 104) (.cpy 104 (.t 14)), .guard 103 false (some 105) (.bin 105 .gtr (.t 104) (.c (.lit (.int .i64 0)))), .guard 103 false (some 106) (.cpy 106 (.t 105)), .guard 106 true (some 107) (.cpy 107 (.t 7)), .guard 106 true (some 108) (.cpy 108 (.t 14)), .guard 106 true (some 109) (.idxS 109 (.t 107) (.t 108) 1), .guard 106 true (some 110) (.load 110 (.t 109) none), .guard 106 true (some 111) (.cpy 111 (.t 7)), .guard 106 true (some 112) (.cpy 112 (.t 14)), .guard 106 true (some 113) (.bin 113 .sub (.t 112) (.c (.lit (.int .i64 1)))), .guard 106 true (some 114) (.idxS 114 (.t 111) (.t 113) 1), .guard 106 true (some 115) (.load 115 (.t 114) none), .guard 106 true (some 116) (.bin 116 .leq (.t 110) (.t 115)), .guard 103 false (some 117) (.pick 117 (.t 106) (.t 116) (.c (.lit (.bool false)))), .pick 118 (.t 103) (.c (.lit (.bool true))) (.t 117)])
 (.cond (.t 118) (.seq (.reg [.asg 6 (.c (.lit (.bool false)))])
 .ret) .skip)))
 (.reg [.cpy 86 (.t 14), .bin 87 .add (.t 86) (.c (.lit (.int .i64 1))), .asg 14 (.t 87)]))))))
 (.seq (.reg [.load 120 (.t 3) (some 5), .cpy 121 (.t 7), .call 122 48 [(.t 120), (.t 121)], .call 123 18 [(.t 122)], .cpy 119 (.t 123), .ext 124 (.t 119) 0, .ext 125 (.t 119) 1, .ext 126 (.t 119) 2, .asg 15 (.t 124), .asg 16 (.t 125), .asg 17 (.t 126)])
 (.seq (.reg [.cpy 127 (.t 17), .bin 128 .neq (.t 127) (.c (.lit (.int .i64 0))), .cpy 129 (.t 128), .guard 129 false (some 130) (.cpy 130 (.t 13)), .guard 129 false (some 131) (.bin 131 .eql (.t 130) (.c (.lit (.int .i64 0)))), .guard 129 false (some 132) (.cpy 132 (.t 131)), .guard 132 true (some 133) (.cpy 133 (.t 9)), .guard 132 true (some 134) (.len 134 (.t 133)), .guard 132 true (some 135) (.cpy 135 (.t 7)), .guard 132 true (some 136) (.len 136 (.t 135)), .guard 132 true (some 137) (.bin 137 .lss (.t 134) (.t 136)), .guard 129 false (some 138) (.pick 138 (.t 132) (.t 137) (.c (.lit (.bool false)))), .pick 139 (.t 129) (.c (.lit (.bool true))) (.t 138)])
 (.cond (.t 139) (.seq (.reg [.asg 6 (.c (.lit (.bool false)))])
 .ret) .skip))))))
 (.seq (.reg [.load 141 (.t 3) (some 5), .load 142 (.t 4) (some 4), .call 143 43 [(.t 141), (.t 142)], .cpy 140 (.t 143), .ext 144 (.t 140) 0, .ext 145 (.t 140) 1, .asg 18 (.t 144), .asg 19 (.t 145)])
 (.seq (.seq (.reg [.cpy 146 (.t 19), .not 147 (.t 146)])
 (.cond (.t 147) (.seq (.reg [.call 148 23 [], .asg 6 (.t 148)])
 .ret) .skip))
 (.seq (.reg [.load 150 (.t 3) (some 5), .cpy 151 (.t 18), .load 152 (.t 4) (some 4), .icall 153 44 [(.t 150), (.t 151), (.t 152)], .cpy 149 (.t 153), .extD 154 (.t 149) 0, .extD 155 (.t 149) 1, .alloc 20 [(.lit (.int .i64 0)), (.lit (.int .i64 0)), (.slice 3 [] 21002), (.slice 4 [] 21003), (.slice 3 [] 21004)], .storeD (.t 20) (.t 154) 5, .asg 21 (.t 155)])
 (.seq (.reg [.addr 156 (.t 20) 3, .load 157 (.t 156) none, .len 158 (.t 157), .asg 22 (.t 158)])
 (.seq (.seq (.reg [.asg 23 (.c (.lit (.int .i64 0)))])
 (.block 4 (.loop (.seq (.seq (.reg [.cpy 159 (.t 23), .addr 160 (.t 3) 3, .load 161 (.t 160) none, .len 162 (.t 161), .bin 163 .lss (.t 159) (.t 162), .cpy 164 (.t 163), .guard 164 true (some 165) (.addr 165 (.t 20) 3), .guard 164 true (some 166) (.load 166 (.t 165) none), .guard 164 true (some 167) (.len 167 (.t 166)), .guard 164 true (some 168) (.bin 168 .lss (.t 167) (.c (.lit (.int .i64 8)))), .pick 169 (.t 164) (.t 168) (.c (.lit (.bool false)))])
 (.cond (.t 169) .skip (.exit 4)))
 (.seq (.block 5 (.seq (.reg [.addr 172 (.t 3) 3, .load 173 (.t 172) none, .cpy 174 (.t 23), .idxS 175 (.t 173) (.t 174) 4, .load 176 (.t 175) (some 4), .alloc 24 [(.lit (.int .i64 0)), (.lit (.int .i64 0)), (.lit (.int .i64 0)), (.lit (.int .i64 0))], .store (.t 24) (.t 176) 4 0])
 (.seq (.reg [.addr 177 (.t 24) 3, .store (.t 177) (.c (.lit (.int .i64 (-1)))) 1 0])
 (.reg [.addr 178 (.t 20) 3, .load 179 (.t 178) none, .load 180 (.t 24) (some 4), .mkS 181 1 4 [(.lit (.int .i64 0)), (.lit (.int .i64 0)), (.lit (.int .i64 0)), (.lit (.int .i64 0))] [(0, (.t 180))], .app 182 (.t 179) (.t 181) 4 32, .addr 183 (.t 20) 3, .store (.t 183) (.t 182) 1 21003]))))
 (.reg [.cpy 170 (.t 23), .bin 171 .add (.t 170) (.c (.lit (.int .i64 1))), .asg 23 (.t 171)]))))))
 (.seq (.seq (.reg [.load 184 (.t 20) (some 5), .call 185 37 [(.t 184)], .not 186 (.t 185)])
 (.cond (.t 186) (.seq (.reg [.call 187 23 [], .asg 6 (.t 187)])
 .ret) .skip))
 (.seq (.reg [.load 189 (.t 20) (some 5), .call 190 33 [(.t 189)], .cpy 188 (.t 190), .ext 191 (.t 188) 0, .ext 192 (.t 188) 1, .asg 25 (.t 191), .asg 26 (.t 192)])
 (.seq (.reg [.cpy 193 (.t 26), .bin 194 .eql (.t 193) (.c (.lit (.int .i64 0))), .cpy 195 (.t 194), .guard 195 true (some 196) (.cpy 196 (.t 25)), .guard 195 true (some 197) (.len 197 (.t 196)), .guard 195 true (some 198) (.addr 198 (.t 20) 3), .guard 195 true (some 199) (.load 199 (.t 198) none), .guard 195 true (some 200) (.len 200 (.t 199)), .guard 195 true (some 201) (.cpy 201 (.t 22)), .guard 195 true (some 202) (.bin 202 .sub (.t 200) (.t 201)), .guard 195 true (some 203) (.bin 203 .leq (.t 197) (.t 202)), .pick 204 (.t 195) (.t 203) (.c (.lit (.bool false))), .cpy 205 (.t 204), .guard 205 true (some 206) (.call 206 23 []), .pick 207 (.t 205) (.t 206) (.c (.lit (.bool false))), .asg 6 (.t 207)])
 .ret)))))))))))))))
def r11w : List MRes := [.tmp 6]
theorem tr11w : Try.f11.body.bind (trC Try.prog ann11w Try.f11.ntmps) = some m11w := by kernel_rfl
theorem rs11w : trRes Try.prog Try.f11.results.toList = some r11w := by kernel_rfl
theorem fn11w : isFunc Try.prog 11 = true := by kernel_rfl
end Go.Proofs.Ytiampdiobdianaa

namespace Go.Proofs.Ytiampdiobdianaa
open Go.Avm

theorem shr_bit {nb k : Nat} (hk : k ≤ 8) : (((nb : Int).fdiv (2 ^ (min k 8))).tmod 2 == 1) = nb.testBit k := by
  have e : min k 8 = k := by omega
  rw [e]
  obtain ⟨q, hq⟩ : ∃ q, q = nb / 2 ^ k := ⟨_, rfl⟩
  have h1 : (nb : Int).fdiv (2 ^ k) = (q : Int) := by
    rw [hq]
    rw [Int.fdiv_eq_ediv_of_nonneg _ (by exact Int.pow_nonneg (by omega))]
    simp
  rw [h1, Int.tmod_eq_emod_of_nonneg (by omega)]
  have h2 : nb.testBit k = decide (nb / 2 ^ k % 2 = 1) := Nat.testBit_eq_decide_div_mod_eq ..
  rw [h2, ← hq, Bool.eq_iff_iff, decide_eq_true_eq, beq_iff_eq]
  omega
abbrev fCells (d : Case) (ms : List Mk) (r r2 : Nat) : List AV := [I d.printed, I d.now, .slice 3 (d.owners.map encOwner) 0, .slice 4 (ms.map encMark) r, .slice 3 (d.sales.map encSale) r2]
theorem cond_no {P : Program} {kn : St → Prop} {ke : Nat → St → Prop} {kr : St → Prop} {s : St} {t : MArg} {x y : MCode} (h : t.ev s.env = B false) (hy : mwp P y kn ke kr s) : mwp P (.cond t x y) kn ke kr s := by
  rw [w_cond, h]
  exact ⟨fun e => (by cases e), fun _ => hy⟩
theorem ownerForged_at (c : Case) (p : Past) (n : Nat) (op : p.OK) (on : n ≤ 255) : PCall Try.prog 11 [encCase c, encPast p, V n] (B true) := by
  refine pcall Try.func11 tr11w rs11w fn11w (by simp [Try.ntmps11]) fun _ => ?_
  have aw := awake23_ok
  have c2 := valid37_ok c
  have c33 := forged33_ok c
  simp -implicitDefEqProofs only [m11w]
  refine cutS (fun st => st.env 2 = V n ∧ st.env 3 = caseRef c ∧ st.env 4 = pastRef p) ?_ ?_
  · intro k hk
    simp -implicitDefEqProofs
    exact hk _ (by simp)
  rintro s ⟨e2, e3, e4⟩
  obtain ⟨F, hF⟩ : ∃ F, F = forgedR c := ⟨_, rfl⟩
  rw [← hF] at c33
  refine cutS (fun st => st.env 2 = V n ∧ st.env 3 = caseRef c ∧ st.env 4 = pastRef p ∧ st.env 7 = IL F.l ∧ st.env 8 = I F.e) ?_ ?_
  · intro k hk
    simp -implicitDefEqProofs [e3]
    refine vCall_of c33 ?_
    simp -implicitDefEqProofs
    exact hk _ (by simp [e2, e3, e4])
  clear e2 e3 e4
  rintro s ⟨e2, e3, e4, e7, e8⟩
  by_cases he : errE c = 0
  case neg =>
    rw [decide_eq_false he] at c2
    have hF2 : F.l = [] ∧ F.e = errE c := by rw [hF]; unfold forgedR; rw [if_pos he]; exact ⟨rfl, rfl⟩
    rw [hF2.1] at e7
    rw [hF2.2] at e8
    generalize errE c = E at *
    have he2 : (E != 0) = true := by simp [he]
    simp -implicitDefEqProofs [e3]
    refine vCall_of c2 ?_
    simp -implicitDefEqProofs [e7, e8, he2]
    refine vCall_of aw ?_
    simp -implicitDefEqProofs [r11w]
  rw [decide_eq_true he] at c2
  have hok := Case.ok he
  have h8 := err_marks he
  refine cutS (fun st => st.env 2 = V n ∧ st.env 3 = caseRef c ∧ st.env 4 = pastRef p ∧ st.env 7 = IL F.l ∧ st.env 8 = I F.e) ?_ ?_
  · intro k hk
    simp -implicitDefEqProofs [e3]
    refine vCall_of c2 ?_
    simp -implicitDefEqProofs
    exact hk _ (by simp [e2, e3, e4, e7, e8])
  clear e2 e3 e4 e7 e8
  rintro s ⟨e2, e3, e4, e7, e8⟩
  refine cutS (fun st => st.env 2 = V n ∧ st.env 3 = caseRef c ∧ st.env 4 = pastRef p ∧ st.env 7 = IL F.l ∧ st.env 8 = I F.e ∧ st.env 9 = .slice 1 [] 10) ?_ ?_
  · intro k hk
    simp -implicitDefEqProofs
    exact hk _ (by simp [e2, e3, e4, e7, e8])
  clear e2 e3 e4 e7 e8
  rintro s ⟨e2, e3, e4, e7, e8, e9⟩
  obtain ⟨q, hq⟩ : ∃ q : Nat → Bool, q = fun i => n.testBit i := ⟨_, rfl⟩
  refine cutS (fun st => st.env 3 = caseRef c ∧ st.env 4 = pastRef p ∧ st.env 7 = IL F.l ∧ st.env 8 = I F.e ∧ st.env 9 = .slice 1 ((selT q c.marks.length).map I) 10) ?_ ?_
  · intro k0 hk0
    simp -implicitDefEqProofs
    refine loop_up c.marks.length (fun k st => st.env 2 = V n ∧ st.env 3 = caseRef c ∧ st.env 4 = pastRef p ∧ st.env 7 = IL F.l ∧ st.env 8 = I F.e ∧ st.env 9 = .slice 1 ((selT q k).map I) 10 ∧ st.env 10 = I k) ?_ ?_
    · simp [e2, e3, e4, e7, e8, e9, selT_zero]
    clear e2 e3 e4 e7 e8 e9
    rintro k s hk ⟨e2, e3, e4, e7, e8, e9, e10⟩
    simp -implicitDefEqProofs [e3, e10]
    refine cond_dec (fun hlt => ?_) (fun hge => ?_)
    · have hlt : k < c.marks.length := by omega
      refine stepB ?_
      have hb : (((n : Int).fdiv (2 ^ (min k (IntKind.bits .u8)))).tmod 2 == 1) = n.testBit k := shr_bit (by omega)
      have hsl := selT_len q k
      have hqk : q k = n.testBit k := by rw [hq]
      cases hbit : n.testBit k with
      | true =>
        rw [hbit] at hb hqk
        have hsel := selT_t hqk
        simp -implicitDefEqProofs [e2, e9, e10, hb]
        exact ⟨by omega, by omega, i64 (by omega) (by omega), round_ok hlt ⟨by simp [e2], by simp [e3], by simp [e4], by simp [e7], by simp [e8], by simp [hsel], by simp⟩⟩
      | false =>
        rw [hbit] at hb hqk
        have hsel := selT_f hqk
        simp -implicitDefEqProofs [e2, e10, hb]
        exact ⟨i64 (by omega) (by omega), round_ok hlt ⟨by simp [e2], by simp [e3], by simp [e4], by simp [e7], by simp [e8], by simp [e9, hsel], by simp⟩⟩
    · obtain rfl : k = c.marks.length := by omega
      simp -implicitDefEqProofs
      exact hk0 _ (by simp [e3, e4, e7, e8, e9])
  clear e2 e3 e4 e7 e8 e9
  rintro s ⟨e3, e4, e7, e8, e9⟩
  have hO : selT q c.marks.length ∈ enumL c.marks.length := by rw [hq]; exact other_in (by omega) h8
  obtain ⟨O, hOO⟩ : ∃ O, O = selT q c.marks.length := ⟨_, rfl⟩
  rw [← hOO] at hO e9
  have c48 := fun l => without48_ok hok l
  have c18 := fun l => chain18_ok (withoutC c (inL l))
  have hce := fun l => chain_e (errE_without he (inL l))
  have said := forged_said he hO
  obtain ⟨eO, heO⟩ : ∃ eO, eO = (chainS (withoutC c (inL O))).e := ⟨_, rfl⟩
  rw [hce] at heO
  refine cutS (fun st => st.env 3 = caseRef c ∧ st.env 4 = pastRef p ∧ st.env 7 = IL F.l ∧ st.env 8 = I F.e ∧ st.env 9 = .slice 1 (O.map I) 10 ∧ st.env 13 = I eO) ?_ ?_
  · intro k hk
    have d48 := c48 O
    have d18 := c18 O
    have d := hce O
    rw [← heO] at d
    generalize withoutC c (inL O) = W at *
    simp -implicitDefEqProofs [e3, e9]
    refine vCall_of d48 ?_
    simp -implicitDefEqProofs
    refine vCall_of d18 ?_
    simp -implicitDefEqProofs
    exact hk _ (by simp [e3, e4, e7, e8, e9, d])
  clear e3 e4 e7 e8 e9
  rintro s ⟨e3, e4, e7, e8, e9, e13⟩
  refine cutS (fun st => st.env 3 = caseRef c ∧ st.env 4 = pastRef p) ?_ ?_
  · intro k hk
    generalize bestUp (forgeB c) (2 ^ c.marks.length) = o at *
    cases o with
    | none =>
      obtain ⟨f1, f2⟩ := said
      rw [hF.trans f1] at e7 e8
      rw [f2] at heO
      subst heO
      simp -implicitDefEqProofs [e7, e8, e13]
      exact hk _ (by simp [e3, e4])
    | some b =>
      obtain ⟨L, f1, f2, f3, f4, f5, hbl⟩ : ∃ L, forgedR c = ⟨L, 0⟩ ∧ someB (withoutC c (inL L)) = true ∧ (someB (withoutC c (inL O)) = true → L.length ≤ O.length) ∧ (∀ x ∈ L, 0 ≤ x ∧ x < c.marks.length) ∧ (∀ i j (hij : i < j) (hj : j < L.length), L[i]'(by omega) < L[j]) ∧ L.length ≤ 8 :=
        ⟨_, said.1, said.2.1, said.2.2.1, said.2.2.2.1, said.2.2.2.2, selT_len _ _⟩
      have e7 : s.env 7 = IL L := by rw [e7, hF.trans f1]
      have e8 : s.env 8 = I 0 := by rw [e8, hF.trans f1]
      have d48 := c48 L
      have d18 := c18 L
      have d := hce L
      rw [f2] at d
      refine cutS (fun st => st.env 3 = caseRef c ∧ st.env 4 = pastRef p ∧ st.env 7 = IL L ∧ st.env 9 = .slice 1 (O.map I) 10 ∧ st.env 13 = I eO ∧ st.env 70 = B false) ?_ ?_
      · intro k1 hk1
        simp -implicitDefEqProofs [e8]
        exact hk1 _ (by simp [e3, e4, e7, e9, e13])
      clear e3 e4 e7 e8 e9 e13
      rintro s ⟨e3, e4, e7, e9, e13, e70⟩
      refine cond_no (by simpa using e70) ?_
      refine cutS (fun st => st.env 3 = caseRef c ∧ st.env 4 = pastRef p ∧ st.env 7 = IL L ∧ st.env 9 = .slice 1 (O.map I) 10 ∧ st.env 13 = I eO) ?_ ?_
      · intro k1 hk1
        simp -implicitDefEqProofs
        refine loop_up L.length (fun k st => st.env 3 = caseRef c ∧ st.env 4 = pastRef p ∧ st.env 7 = IL L ∧ st.env 9 = .slice 1 (O.map I) 10 ∧ st.env 13 = I eO ∧ st.env 14 = I k) ?_ ?_
        · simp [e3, e4, e7, e9, e13]
        clear e3 e4 e7 e9 e13 e70
        rintro k s hk ⟨e3, e4, e7, e9, e13, e14⟩
        simp -implicitDefEqProofs [e7, e14]
        refine cond_dec (fun hlt => ?_) (fun hge => ?_)
        · have hlt : k < L.length := by omega
          refine stepB ?_
          obtain ⟨x0, x1⟩ := f4 _ (List.getElem_mem hlt)
          have m1 : ¬ L[k] < 0 := by omega
          have m2 : ¬ (c.marks.length : Int) ≤ L[k] := by omega
          by_cases hk0 : k = 0
          · subst hk0
            generalize hx : L[0] = x at *
            simp -implicitDefEqProofs [e3, e7, e14, hlt, hx, m1, m2]
            exact ⟨i64 (by omega) (by omega), round_ok hlt ⟨by simp [e3], by simp [e4], by simp [e7], by simp [e9], by simp [e13], by simp⟩⟩
          · have hk1' : k - 1 < L.length := by omega
            have m3 := f5 (k - 1) k (by omega) hlt
            have v1 : ((k : Int) - 1).toNat = k - 1 := by omega
            have v2 : (0 : Int) ≤ (k : Int) - 1 := by omega
            have v3 : (k : Int) - 1 < L.length := by omega
            have v4 : 0 < k := by omega
            generalize hx : L[k] = x at *
            generalize hy : L[k - 1] = y at *
            have m3 : ¬ x ≤ y := by omega
            simp -implicitDefEqProofs [e3, e7, e14, hlt, hx, m1, m2, v1, v3, v4, hk1', hy, m3]
            exact ⟨i64 (by omega) (by omega), by omega, i64 (by omega) (by omega), round_ok hlt ⟨by simp [e3], by simp [e4], by simp [e7], by simp [e9], by simp [e13], by simp⟩⟩
        · obtain rfl : k = L.length := by omega
          simp -implicitDefEqProofs
          exact hk1 _ (by simp [e3, e4, e7, e9, e13])
      clear e3 e4 e7 e9 e13 e70
      rintro s ⟨e3, e4, e7, e9, e13⟩
      refine cutS (fun st => st.env 3 = caseRef c ∧ st.env 4 = pastRef p ∧ st.env 7 = IL L ∧ st.env 9 = .slice 1 (O.map I) 10 ∧ st.env 13 = I eO ∧ st.env 17 = I 0) ?_ ?_
      · intro k1 hk1
        rw [if_pos rfl] at d
        generalize withoutC c (inL L) = W at *
        simp -implicitDefEqProofs [e3, e7]
        refine vCall_of d48 ?_
        simp -implicitDefEqProofs
        refine vCall_of d18 ?_
        simp -implicitDefEqProofs
        exact hk1 _ (by simp [e3, e4, e7, e9, e13, d])
      clear e3 e4 e7 e9 e13
      rintro s ⟨e3, e4, e7, e9, e13, e17⟩
      cases hs : someB (withoutC c (inL O)) with
      | false =>
        rw [hs, if_neg (by simp)] at heO
        subst heO
        simp -implicitDefEqProofs [e13, e17]
        exact hk _ (by simp [e3, e4])
      | true =>
        rw [hs, if_pos rfl] at heO
        subst heO
        have hle := f3 hs
        have n1 : ¬ O.length < L.length := by omega
        simp -implicitDefEqProofs [e7, e9, e13, e17, n1]
        exact hk _ (by simp [e3, e4])
  clear e3 e4 e7 e8 e9 e13
  rintro s ⟨e3, e4⟩
  have c43 := had43_ok hok op
  cases hT : hadT c p with
  | none =>
    rw [hT] at c43
    unfold hadAV at c43
    simp -implicitDefEqProofs [e3, e4]
    refine vCall_of c43 ?_
    simp -implicitDefEqProofs
    refine vCall_of aw ?_
    simp -implicitDefEqProofs [r11w]
  | some l =>
  rw [hT] at c43
  unfold hadAV at c43
  obtain ⟨-, hw, hin⟩ := had_who op hT
  have hl6 : l.length ≤ 6 := by
    have h1 : (l.map Hold.who).length ≤ c.owners.length := by rw [hw]; exact nodup_len _ _ (anyO_ok c _).nd (anyO_ok c _).rng
    have := hok.ownersLen
    simp at h1
    omega
  have c44 := told44w_ok hok hin hl6 op
  have tale := told_tale op hT
  refine cutS (fun st => st.env 3 = caseRef c ∧ st.env 4 = pastRef p ∧ st.env 18 = HL l ∧ st.env 19 = B true) ?_ ?_
  · intro k hk
    simp -implicitDefEqProofs [e3, e4]
    refine vCall_of c43 ?_
    simp -implicitDefEqProofs
    exact hk _ (by simp [e3, e4])
  clear e3 e4
  rintro s ⟨e3, e4, e18, e19⟩
  refine cutS (fun st => st.env 3 = caseRef c ∧ st.env 4 = pastRef p ∧ st.env 18 = HL l) ?_ ?_
  · intro k hk
    simp -implicitDefEqProofs [e19]
    exact hk _ (by simp [e3, e4, e18])
  clear e3 e4 e18 e19
  rintro s ⟨e3, e4, e18⟩
  have hd8 : (toldC c l p).marks.length ≤ 8 := by
    show (tUp c l p.marks (tN l p.marks)).1.length ≤ 8
    rw [(tUp_len c l p.marks _).1]
    unfold tN
    split <;> omega
  obtain ⟨d, hd⟩ : ∃ d, d = toldC c l p := ⟨_, rfl⟩
  obtain ⟨ys, hys⟩ : ∃ ys, ys = toldY c l p := ⟨_, rfl⟩
  have hcells : ∀ r1 r2, ([I c.printed, I c.now, .slice 3 (c.owners.map encOwner) 0, .slice 4 ((tUp c l p.marks (tN l p.marks)).1.map encMark) r1, .slice 3 ((sUp l p.sales (sN l p.sales)).map encSale) r2] : List AV) = fCells d d.marks r1 r2 := fun r1 r2 => by rw [hd]; rfl
  rw [← hd] at hd8
  rw [← hd, ← hys] at tale
  generalize hX : tUp c l p.marks (tN l p.marks) = X at *
  generalize hZ : sUp l p.sales (sN l p.sales) = Z at *
  refine cutS (fun st => st.env 3 = caseRef c ∧ ∃ b, st.env 20 = .mref b 0 ∧ st.loc b = some (fCells d d.marks 4003 4004)) ?_ ?_
  · intro k hk
    simp -implicitDefEqProofs [e3, e4, e18]
    refine c44 _ _ fun s2 => ?_
    simp -implicitDefEqProofs
    intro b _
    exact hk _ ⟨by simp [e3], b, by simp, by rw [← hcells]; simp⟩
  clear e3 e4 e18
  rintro s ⟨e3, b, e20, l20⟩
  have aN : ∀ k, k ≤ c.marks.length → (addC c d k).marks.length = d.marks.length + k := fun k hk => by simp [addC]; omega
  obtain ⟨N, hN⟩ : ∃ N, N = addN c d := ⟨_, rfl⟩
  have hNl : N ≤ c.marks.length ∧ d.marks.length + N ≤ 8 := by rw [hN]; unfold addN; omega
  refine cutS (fun st => st.env 3 = caseRef c ∧ st.env 20 = .mref b 0 ∧ st.loc b = some (fCells d (addC c d 0).marks 4003 4004) ∧ st.env 22 = I d.marks.length) ?_ ?_
  · intro k hk
    have a0 : (addC c d 0).marks = d.marks := by simp [addC]
    simp -implicitDefEqProofs [e20, l20]
    exact hk _ (by simp [e3, e20, l20, a0])
  clear e3 e20 l20
  rintro s ⟨e3, e20, l20, e22⟩
  refine cutS (fun st => st.env 20 = .mref b 0 ∧ (∃ r, st.loc b = some (fCells d (addC c d N).marks r 4004)) ∧ st.env 22 = I d.marks.length) ?_ ?_
  · intro k0 hk0
    simp -implicitDefEqProofs
    refine loop_up N (fun k st => st.env 3 = caseRef c ∧ st.env 20 = .mref b 0 ∧ (∃ r, (r = 4003 ∨ r = 21003) ∧ st.loc b = some (fCells d (addC c d k).marks r 4004)) ∧ st.env 22 = I d.marks.length ∧ st.env 23 = I k) ?_ ?_
    · exact ⟨by simp [e3], by simp [e20], ⟨4003, .inl rfl, by simp [l20]⟩, by simp [e22], by simp⟩
    clear e3 e20 l20 e22
    rintro k s hk ⟨e3, e20, ⟨r, hr, l20⟩, e22, e23⟩
    have hak := aN k (by omega)
    by_cases hlt : k < N
    · have hst : (addC c d (k + 1)).marks = (addC c d k).marks ++ [unMk c.marks[k]] := by
        unfold addC
        simp only
        rw [take_snoc (show k < c.marks.length by omega), List.map_append, List.append_assoc]; rfl
      have g1 : k < c.marks.length := by omega
      obtain ⟨A, hA⟩ : ∃ A, A = (addC c d k).marks := ⟨_, rfl⟩
      rw [← hA] at hak hst l20
      have g2 : (A.length : Int) < 8 := by omega
      refine cutS (fun st => st.env 3 = caseRef c ∧ st.env 20 = .mref b 0 ∧ st.loc b = some (fCells d A r 4004) ∧ st.env 22 = I d.marks.length ∧ st.env 23 = I k) ?_ ?_
      · intro k1 hk1
        simp -implicitDefEqProofs [e3, e20, l20, e23, g1, g2]
        exact hk1 _ (by simp [e3, e20, l20, e22, e23])
      clear e3 e20 l20 e22 e23
      rintro s ⟨e3, e20, l20, e22, e23⟩
      refine stepC ?_
      obtain ⟨m, hm⟩ : ∃ m, m = c.marks[k] := ⟨_, rfl⟩
      rw [← hm] at hst
      have hm := hm.symm
      refine cutS (fun st => st.env 3 = caseRef c ∧ st.env 20 = .mref b 0 ∧ st.loc b = some (fCells d A r 4004) ∧ st.env 22 = I d.marks.length ∧ st.env 23 = I k ∧ ∃ q, st.env 24 = .mref q 0 ∧ st.loc q = some [I m.owner, I m.lo, I m.hi, I m.upon] ∧ ¬ b = q) ?_ ?_
      · intro k1 hk1
        simp -implicitDefEqProofs [e3, e23, g1, hm]
        intro q hq
        have g3 : ¬ b = q := by rintro rfl; rw [l20] at hq; cases hq
        exact hk1 _ ⟨by simp [e3], by simp [e20], by simp [l20, g3], by simp [e22], by simp [e23], q, by simp, by simp, g3⟩
      clear e3 e20 l20 e22 e23
      rintro s ⟨e3, e20, l20, e22, e23, q, e24, l24, hbq⟩
      have hqb : ¬ q = b := fun e => hbq e.symm
      refine cutS (fun st => st.env 3 = caseRef c ∧ st.env 20 = .mref b 0 ∧ st.loc b = some (fCells d A r 4004) ∧ st.env 22 = I d.marks.length ∧ st.env 23 = I k ∧ st.env 24 = .mref q 0 ∧ st.loc q = some [I m.owner, I m.lo, I m.hi, I (-1)]) ?_ ?_
      · intro k1 hk1
        simp -implicitDefEqProofs [e24, l24]
        exact hk1 _ ⟨by simp [e3], by simp [e20], by simp [l20, hbq], by simp [e22], by simp [e23], by simp [e24], by simp⟩
      clear e3 e20 l20 e22 e23 e24 l24
      rintro s ⟨e3, e20, l20, e22, e23, e24, l24⟩
      have hen : encMark (unMk m) = .agg [I m.owner, I m.lo, I m.hi, I (-1)] := rfl
      rcases hr with rfl | rfl
      · simp -implicitDefEqProofs [e20, e23, e24, l20, l24]
        exact ⟨by omega, by omega, i64 (by omega) (by omega), round_ok hlt ⟨by simp [e3], by simp [e20], .inr (by rw [hst]; simp [hen]), by simp [e22], by simp⟩⟩
      · simp -implicitDefEqProofs [e20, e23, e24, l20, l24]
        exact ⟨by omega, by omega, i64 (by omega) (by omega), round_ok hlt ⟨by simp [e3], by simp [e20], .inr (by rw [hst]; simp [hen]), by simp [e22], by simp⟩⟩
    · obtain rfl : k = N := by omega
      have hNe : k = min c.marks.length (8 - d.marks.length) := hN
      by_cases g1 : k < c.marks.length
      · have g2 : ¬ ((addC c d k).marks.length : Int) < 8 := by omega
        simp -implicitDefEqProofs [e3, e20, l20, e23, g1, g2]
        exact hk0 _ ⟨by simp [e20], ⟨r, by simp [l20]⟩, by simp [e22]⟩
      · simp -implicitDefEqProofs [e3, e23, g1]
        exact hk0 _ ⟨by simp [e20], ⟨r, by simp [l20]⟩, by simp [e22]⟩
  clear e3 e20 l20 e22
  rintro s ⟨e20, ⟨r, l20⟩, e22⟩
  have d2 := valid37_ok (addC c d N)
  have d33 := forged33_ok (addC c d N)
  have henc : encCase (addC c d N) = .agg (fCells d (addC c d N).marks 0 0) := rfl
  have hml := aN N hNl.1
  by_cases hed : errE (addC c d N) = 0
  case neg =>
    rw [decide_eq_false hed, henc] at d2
    generalize (addC c d N).marks = MM at *
    simp -implicitDefEqProofs [e20, l20]
    refine vCall_of d2 ?_
    simp -implicitDefEqProofs
    refine vCall_of aw ?_
    simp -implicitDefEqProofs [r11w]
  rw [decide_eq_true hed, henc] at d2
  obtain ⟨f, hf, hfl⟩ := forged_added tale hed
  rw [hf, henc] at d33
  generalize (addC c d N).marks = MM at *
  refine cutS (fun st => st.env 20 = .mref b 0 ∧ st.loc b = some (fCells d MM r 4004) ∧ st.env 22 = I d.marks.length) ?_ ?_
  · intro k hk
    simp -implicitDefEqProofs [e20, l20]
    refine vCall_of d2 ?_
    simp -implicitDefEqProofs
    exact hk _ (by simp [e20, l20, e22])
  clear e20 l20 e22
  rintro s ⟨e20, l20, e22⟩
  refine cutS (fun st => st.env 20 = .mref b 0 ∧ st.loc b = some (fCells d MM r 4004) ∧ st.env 22 = I d.marks.length ∧ st.env 25 = IL f ∧ st.env 26 = I 0) ?_ ?_
  · intro k hk
    simp -implicitDefEqProofs [e20, l20]
    refine vCall_of d33 ?_
    simp -implicitDefEqProofs
    exact hk _ (by simp [e20, l20, e22])
  clear e20 l20 e22
  rintro s ⟨e20, l20, e22, e25, e26⟩
  have hle : (f.length : Int) ≤ (MM.length : Int) - d.marks.length := by omega
  simp -implicitDefEqProofs [e20, l20, e22, e25, e26, hle]
  refine ⟨i64 (by omega) (by omega), vCall_of aw ?_⟩
  simp -implicitDefEqProofs [r11w]
theorem ownerForged_ok (c : Case) (p : Past) (x : Int) (_ : CaseSz c) (op : p.OK) (ox : 0 ≤ x ∧ x ≤ 255) : PCall Try.prog 11 [encCase c, encPast p, V x] (B true) := by
  obtain ⟨n, rfl⟩ : ∃ n : Nat, x = n := ⟨x.toNat, by omega⟩
  exact ownerForged_at c p n op (by omega)
end Go.Proofs.Ytiampdiobdianaa
