/- The resolved code of some functions, written by program, each held against the function by the kernel. The law PaperBefore: its contract. -/
import Derived.Test.YtbcfmfiolbcclaaZI
import Derived.KernelRfl
import Derived.Test.YtbcfmfiolbcclaaZL
namespace Go.Proofs.Ytbcfmfiolbcclaa
open Go.Avm

/- duodecimo/duodecimolaw06.PaperBefore -/
def ann10 : Ann := { muts := [], nilsz := [], oid := [], frz := [], zero := [], ord := [(4, [0, 1, 2, 3, 4, 5, 6, 7, 8, 9, 10, 11, 12, 13, 14, 15, 16, 17, 18, 19, 20]), (17, [0, 1, 2, 3, 4, 5, 6, 7, 8, 9, 10, 11, 12, 13])], ap := [], own := [9, 17], yl := [], fz := [], imm := [], ic := [], cl := [], ylL := [], rl := [] }
def m10 : MCode := (.seq (.reg [.boxI 2 (.t 0) 5, .boxI 3 (.t 1) 3, .asg 4 (.c (.lit (.bool false)))])
 (.seq (.seq (.reg [.load 22 (.t 2) (some 5), .call 23 36 [(.t 22)], .not 24 (.t 23)])
 (.cond (.t 24) (.seq (.reg [.load 26 (.t 2) (some 5), .call 27 20 [(.t 26), (.c (.lit (.int .i64 0))), (.c (.lit (.int .i64 1)))], .cpy 25 (.t 27), .ext 28 (.t 25) 0, .ext 29 (.t 25) 1, .asg 5 (.t 28), .asg 6 (.t 29)])
 (.seq (.reg [.cpy 30 (.t 6), .bin 31 .neq (.t 30) (.c (.lit (.int .i64 0))), .cpy 32 (.t 31), .guard 32 true (some 33) (.call 33 22 []), .pick 34 (.t 32) (.t 33) (.c (.lit (.bool false))), .asg 4 (.t 34)])
 .ret)) .skip))
 (.seq (.reg [.idxA 35 (.t 3) (.c (.lit (.int .i64 0))) 3 1, .load 36 (.t 35) none, .conv 37 .i64 (.t 36), .addr 38 (.t 2) 3, .load 39 (.t 38) none, .bin 40 .rem (.t 37) (.t 39), .idxA 41 (.t 3) (.c (.lit (.int .i64 1))) 3 1, .load 42 (.t 41) none, .conv 43 .i64 (.t 42), .addr 44 (.t 2) 3, .load 45 (.t 44) none, .bin 46 .rem (.t 43) (.t 45), .idxA 47 (.t 3) (.c (.lit (.int .i64 2))) 3 1, .load 48 (.t 47) none, .conv 49 .i64 (.t 48), .addr 50 (.t 2) 3, .load 51 (.t 50) none, .bin 52 .rem (.t 49) (.t 51), .cpyE 7 (.t 40), .cpyE 8 (.t 46), .asg 9 (.t 52)])
 (.seq (.reg [.load 54 (.t 2) (some 5), .call 55 17 [(.t 54)], .cpy 53 (.t 55), .ext 56 (.t 53) 0, .ext 57 (.t 53) 1, .asg 10 (.t 56), .asg 11 (.t 57)])
 (.seq (.reg [.load 59 (.t 2) (some 5), .cpy 60 (.t 7), .cpy 61 (.t 8), .call 62 20 [(.t 59), (.t 60), (.t 61)], .cpy 58 (.t 62), .ext 63 (.t 58) 0, .ext 64 (.t 58) 1, .asg 12 (.t 63), .asg 13 (.t 64)])
 (.seq (.reg [.load 66 (.t 2) (some 5), .cpy 67 (.t 8), .cpy 68 (.t 7), .call 69 20 [(.t 66), (.t 67), (.t 68)], .cpy 65 (.t 69), .ext 70 (.t 65) 0, .ext 71 (.t 65) 1, .asg 14 (.t 70), .asg 15 (.t 71)])
 (.seq (.seq (.reg [.cpy 72 (.t 7), .cpy 73 (.t 8), .bin 74 .eql (.t 72) (.t 73)])
 (.cond (.t 74) (.seq (.reg [.cpy 75 (.t 13), .bin 76 .eql (.t 75) (.c (.lit (.int .i64 2))), .cpy 77 (.t 76), .guard 77 true (some 78) (.cpy 78 (.t 15)), .guard 77 true (some 79) (.cpy 79 (.t 13)), .guard 77 true (some 80) (.bin 80 .eql (.t 78) (.t 79)), .pick 81 (.t 77) (.t 80) (.c (.lit (.bool false))), .cpy 82 (.t 81), .guard 82 true (some 83) (.cpy 83 (.t 12)), .guard 82 true (some 84) (.bin 84 .eql (.t 83) (.c (.lit (.int .i64 0)))), .pick 85 (.t 82) (.t 84) (.c (.lit (.bool false))), .cpy 86 (.t 85), .guard 86 true (some 87) (.cpy 87 (.t 14)), .guard 86 true (some 88) (.bin 88 .eql (.t 87) (.c (.lit (.int .i64 0)))), .pick 89 (.t 86) (.t 88) (.c (.lit (.bool false))), .cpy 90 (.t 89), .guard 90 true (some 91) (.call 91 22 []), .pick 92 (.t 90) (.t 91) (.c (.lit (.bool false))), .asg 4 (.t 92)])
 .ret) .skip))
 (.seq (.seq (.reg [.cpy 93 (.t 11), .bin 94 .neq (.t 93) (.c (.lit (.int .i64 0)))])
 (.cond (.t 94) (.seq (.reg [.cpy 95 (.t 11), .bin 96 .eql (.t 95) (.c (.lit (.int .i64 8))), .cpy 97 (.t 96), .guard 97 true (some 98) (.cpy 98 (.t 13)), .guard 97 true (some 99) (.cpy 99 (.t 11)), .guard 97 true (some 100) (.bin 100 .eql (.t 98) (.t 99)), .pick 101 (.t 97) (.t 100) (.c (.lit (.bool false))), .cpy 102 (.t 101), .guard 102 true (some 103) (.cpy 103 (.t 15)), .guard 102 true (some 104) (.cpy 104 (.t 11)), .guard 102 true (some 105) (.bin 105 .eql (.t 103) (.t 104)), .pick 106 (.t 102) (.t 105) (.c (.lit (.bool false))), .cpy 107 (.t 106), .guard 107 true (some 108) (.call 108 22 []), .pick 109 (.t 107) (.t 108) (.c (.lit (.bool false))), .asg 4 (.t 109)])
 .ret) .skip))
 (.seq (.seq (.reg [.cpy 110 (.t 13), .bin 111 .neq (.t 110) (.c (.lit (.int .i64 0))), .cpy 112 (.t 111), .guard 112 false (some 113) (.cpy 113 (.t 15)), .guard 112 false (some 114) (.bin 114 .neq (.t 113) (.c (.lit (.int .i64 0)))), .pick 115 (.t 112) (.c (.lit (.bool true))) (.t 114), .cpy 116 (.t 115), .guard 116 false (some 117) (.cpy 117 (.t 12)), .guard 116 false (some 118) (.bin 118 .eql (.t 117) (.c (.lit (.int .i64 1)))), .guard 116 false (some 119) (.cpy 119 (.t 14)), .guard 116 false (some 120) (.bin 120 .eql (.t 119) (.c (.lit (.int .i64 2)))), .guard 116 false (some 121) (.binB 121 true (.t 118) (.t 120)), .pick 122 (.t 116) (.c (.lit (.bool true))) (.t 121), .cpy 123 (.t 122), .guard 123 false (some 124) (.cpy 124 (.t 12)), .guard 123 false (some 125) (.bin 125 .eql (.t 124) (.c (.lit (.int .i64 2)))), .guard 123 false (some 126) (.cpy 126 (.t 14)), .guard 123 false (some 127) (.bin 127 .eql (.t 126) (.c (.lit (.int .i64 1)))), .guard 123 false (some 128) (.binB 128 true (.t 125) (.t 127)), .pick 129 (.t 123) (.c (.lit (.bool true))) (.t 128), .cpy 130 (.t 129), .guard 130 false (some 131) (.cpy 131 (.t 12)), .guard 130 false (some 132) (.bin 132 .lss (.t 131) (.c (.lit (.int .i64 0)))), .pick 133 (.t 130) (.c (.lit (.bool true))) (.t 132), .cpy 134 (.t 133), .guard 134 false (some 135) (.cpy 135 (.t 12)), .guard 134 false (some 136) (.bin 136 .gtr (.t 135) (.c (.lit (.int .i64 2)))), .pick 137 (.t 134) (.c (.lit (.bool true))) (.t 136)])
 (.cond (.t 137) (.seq (.reg [.asg 4 (.c (.lit (.bool false)))])
 .ret) .skip))
 (.seq (.seq (.reg [.asg 16 (.c (.lit (.int .i64 0)))])
 (.block 0 (.loop (.seq (.seq (.reg [.cpy 138 (.t 16), .cpy 139 (.t 10), .len 140 (.t 139), .bin 141 .lss (.t 138) (.t 140)])
 (.cond (.t 141) .skip (.exit 0)))
 (.seq (.block 1 (.seq (.reg [.cpy 144 (.t 10), .cpy 145 (.t 16), .idxS 146 (.t 144) (.t 145) 1, .load 147 (.t 146) none, .cpy 148 (.t 7), .call 149 46 [(.t 147), (.t 148)], .cpy 150 (.t 10), .cpy 151 (.t 16), .idxS 152 (.t 150) (.t 151) 1, .load 153 (.t 152) none, .cpy 154 (.t 8), .call 155 46 [(.t 153), (.t 154)], .bin 156 .lss (.t 149) (.t 155), .asg 17 (.t 156)])
 (.seq (.reg [.cpy 157 (.t 12), .bin 158 .eql (.t 157) (.c (.lit (.int .i64 1))), .cpy 159 (.t 158), .guard 159 true (some 160) (.cpy 160 (.t 17)), .guard 159 true (some 161) (.not 161 (.t 160)), .pick 162 (.t 159) (.t 161) (.c (.lit (.bool false))), .cpy 163 (.t 162), .guard 163 false (some 164) (.cpy 164 (.t 12)), .guard 163 false (some 165) (.bin 165 .eql (.t 164) (.c (.lit (.int .i64 2)))), .guard 163 false (some 166) (.cpy 166 (.t 165)), .guard 166 true (some 167) (.cpy 167 (.t 17)), .guard 163 false (some 168) (.pick 168 (.t 166) (.t 167) (.c (.lit (.bool false)))), .pick 169 (.t 163) (.c (.lit (.bool true))) (.t 168)])
 (.cond (.t 169) (.seq (.reg [.asg 4 (.c (.lit (.bool false)))])
 .ret) .skip))))
 (.reg [.cpy 142 (.t 16), .bin 143 .add (.t 142) (.c (.lit (.int .i64 1))), .asg 16 (.t 143)]))))))
 (.seq (.seq (.reg [.cpy 170 (.t 8), .cpy 171 (.t 9), .bin 172 .eql (.t 170) (.t 171), .cpy 173 (.t 172), .guard 173 false (some 174) (.cpy 174 (.t 7)), .guard 173 false (some 175) (.cpy 175 (.t 9)), .guard 173 false (some 176) (.bin 176 .eql (.t 174) (.t 175)), .pick 177 (.t 173) (.c (.lit (.bool true))) (.t 176)])
 (.cond (.t 177) (.seq (.reg [.call 178 22 [], .asg 4 (.t 178)])
 .ret) .skip))
 (.seq (.reg [.load 180 (.t 2) (some 5), .cpy 181 (.t 8), .cpy 182 (.t 9), .call 183 20 [(.t 180), (.t 181), (.t 182)], .cpy 179 (.t 183), .ext 184 (.t 179) 0, .ext 185 (.t 179) 1, .asg 18 (.t 184), .asg 19 (.t 185)])
 (.seq (.reg [.load 187 (.t 2) (some 5), .cpy 188 (.t 7), .cpy 189 (.t 9), .call 190 20 [(.t 187), (.t 188), (.t 189)], .cpy 186 (.t 190), .ext 191 (.t 186) 0, .ext 192 (.t 186) 1, .asg 20 (.t 191), .asg 21 (.t 192)])
 (.seq (.reg [.cpy 193 (.t 19), .bin 194 .eql (.t 193) (.c (.lit (.int .i64 0))), .cpy 195 (.t 194), .guard 195 true (some 196) (.cpy 196 (.t 21)), .guard 195 true (some 197) (.bin 197 .eql (.t 196) (.c (.lit (.int .i64 0)))), .pick 198 (.t 195) (.t 197) (.c (.lit (.bool false))), .cpy 199 (.t 198), .guard 199 true (some 200) (.cpy 200 (.t 12)), .guard 199 true (some 201) (.bin 201 .neq (.t 200) (.c (.lit (.int .i64 1)))), .guard 199 true (some 202) (.cpy 202 (.t 201)), .guard 202 false (some 203) (.cpy 203 (.t 18)), .guard 202 false (some 204) (.bin 204 .neq (.t 203) (.c (.lit (.int .i64 1)))), .guard 199 true (some 205) (.pick 205 (.t 202) (.c (.lit (.bool true))) (.t 204)), .guard 199 true (some 206) (.cpy 206 (.t 205)), .guard 206 false (some 207) (.cpy 207 (.t 20)), .guard 206 false (some 208) (.bin 208 .eql (.t 207) (.c (.lit (.int .i64 1)))), .guard 199 true (some 209) (.pick 209 (.t 206) (.c (.lit (.bool true))) (.t 208)), .pick 210 (.t 199) (.t 209) (.c (.lit (.bool false))), .cpy 211 (.t 210), .guard 211 true (some 212) (.call 212 22 []), .pick 213 (.t 211) (.t 212) (.c (.lit (.bool false))), .asg 4 (.t 213)])
 .ret))))))))))))))
def r10 : List MRes := [.tmp 4]
theorem tr10 : Try.f10.body.bind (trC Try.prog ann10 Try.f10.ntmps) = some m10 := by kernel_rfl
theorem rs10 : trRes Try.prog Try.f10.results.toList = some r10 := by kernel_rfl
theorem fn10 : isFunc Try.prog 10 = true := by kernel_rfl
end Go.Proofs.Ytbcfmfiolbcclaa

namespace Go.Proofs.Ytbcfmfiolbcclaa
open Go.Avm

theorem before_err {c : Case} (he : errE c ≠ 0) (a b : Int) : beforeS c a b = (0, errE c) := by
  unfold beforeS
  rw [if_pos he]
theorem before_in {c : Case} (he : errE c = 0) {a b : Int} (ha : 0 ≤ a ∧ a < c.gath) (hb : 0 ≤ b ∧ b < c.gath) : beforeS c a b = if a = b then (0, 2) else beforeL a b (waysP c) := by
  unfold beforeS
  rw [if_neg (by simpa using he), out2, if_neg]
  rw [decide_eq_true (by omega), decide_eq_true (by omega)]
  simp
theorem at_lt {c : Case} (h : c.OK) {o : List Int} (ho : o ∈ waysP c) {a b : Int} (ha : 0 ≤ a ∧ a < c.gath) (hb : 0 ≤ b ∧ b < c.gath) (hab : a ≠ b) : ¬ at' o a < at' o b ↔ at' o b < at' o a := by
  have hoo : o ∈ ordersL c := (List.mem_filter.1 ho).1
  obtain ⟨p, hp1, hp2, hp3⟩ := at_mem (order_mem h hoo ha)
  obtain ⟨q, hq1, hq2, hq3⟩ := at_mem (order_mem h hoo hb)
  have : p ≠ q := by
    rintro rfl
    exact hab (by rw [← hp3, ← hq3])
  omega
theorem before_say {c : Case} (he : errE c = 0) (hn : truL c 0 ≠ []) {a b : Int} (ha : 0 ≤ a ∧ a < c.gath) (hb : 0 ≤ b ∧ b < c.gath) (hab : a ≠ b) :
    ∃ m, beforeS c a b = (m, 0) ∧ (m = 0 ∨ m = 1 ∨ m = 2) ∧ (m = 1 ↔ ∀ o ∈ waysP c, at' o a < at' o b) ∧ (m = 2 ↔ ∀ o ∈ waysP c, at' o b < at' o a) := by
  have hok := err_ok he
  have hw : waysP c ≠ [] := fun e => hn (ways_nil.1 e)
  rw [before_in he ha hb, if_neg hab]
  unfold beforeL
  rw [if_neg hw]
  obtain ⟨o0, ho0⟩ := List.exists_mem_of_ne_nil _ hw
  have k2 : (∀ o ∈ waysP c, ¬ at' o a < at' o b) ↔ ∀ o ∈ waysP c, at' o b < at' o a := by
    constructor
    · intro h o ho; exact (at_lt hok ho ha hb hab).1 (h o ho)
    · intro h o ho; exact (at_lt hok ho ha hb hab).2 (h o ho)
  have hno : ¬ ((∀ o ∈ waysP c, at' o a < at' o b) ∧ ∀ o ∈ waysP c, at' o b < at' o a) := by
    rintro ⟨h1, h2⟩
    have := h1 o0 ho0
    have := h2 o0 ho0
    omega
  by_cases h1 : befN a b (waysP c) = (waysP c).length
  · rw [if_pos h1]
    have h1 := befN_all.1 h1
    exact ⟨1, rfl, .inr (.inl rfl), ⟨fun _ => h1, fun _ => rfl⟩, ⟨(by intro h; cases h), fun h => absurd ⟨h1, h⟩ hno⟩⟩
  · rw [if_neg h1]
    have h1 := fun h => h1 (befN_all.2 h)
    by_cases h2 : befN a b (waysP c) = 0
    · rw [if_pos h2]
      have h2 := k2.1 (befN_none.1 h2)
      exact ⟨2, rfl, .inr (.inr rfl), ⟨(by intro h; cases h), fun h => absurd h h1⟩, ⟨fun _ => h2, fun _ => rfl⟩⟩
    · rw [if_neg h2]
      have h2 := fun h => h2 (befN_none.2 (k2.2 h))
      exact ⟨0, rfl, .inl rfl, ⟨(by intro h; cases h), fun h => absurd h h1⟩, ⟨(by intro h; cases h), fun h => absurd h h2⟩⟩

theorem paperBefore_at (c : Case) {x y z : Nat} (hx : x < 256) (hy : y < 256) (hz : z < 256) : PCall Try.prog 10 [encCase c, .agg [V x, V y, V z]] (B true) := by
  refine pcall Try.func10 tr10 rs10 fn10 (by simp [Try.ntmps10]) fun _ => ?_
  have va := valid36_ok c
  have aw := awake22_ok
  unfold m10
  refine cutS (fun s => s.env 2 = caseRef c ∧ s.env 3 = .ref [V x, V y, V z]) ?_ ?_
  · intro k hk
    simp -implicitDefEqProofs
    exact hk _ (by simp)
  rintro s ⟨e2, e3⟩
  by_cases he : errE c = 0
  case neg =>
    have b1 := before20_ok c 0 1
    rw [before_err he] at b1
    have he' : (errE c != 0) = true := by simpa using he
    simp -implicitDefEqProofs [e2]
    refine vCall_of va ?_
    simp -implicitDefEqProofs [he, e2]
    refine vCall_of b1 ?_
    simp -implicitDefEqProofs [he']
    refine vCall_of aw ?_
    simp -implicitDefEqProofs [r10]
  have hok := err_ok he
  have hg := hok.gath
  obtain ⟨G, hG⟩ : ∃ G : Nat, c.gath = G := ⟨c.gath.toNat, by omega⟩
  have hG0 : ¬ G = 0 := by omega
  have o1 := orders17_ok c
  obtain ⟨O, hO⟩ : ∃ O, O = ordersS c := ⟨_, rfl⟩
  rw [← hO] at o1
  refine cutS (fun s => s.env 2 = caseRef c ∧ s.env 3 = .ref [V x, V y, V z]) ?_ ?_
  · intro k hk
    simp -implicitDefEqProofs [e2]
    refine vCall_of va ?_
    simp -implicitDefEqProofs [he]
    exact hk _ (by simp [e2, e3])
  clear e2 e3
  rintro s ⟨e2, e3⟩
  obtain ⟨a, ha⟩ : ∃ a, a = x % G := ⟨_, rfl⟩
  obtain ⟨b, hb⟩ : ∃ b, b = y % G := ⟨_, rfl⟩
  obtain ⟨d, hd⟩ : ∃ d, d = z % G := ⟨_, rfl⟩
  have ha1 : a < G := by rw [ha]; exact Nat.mod_lt _ (by omega)
  have hb1 : b < G := by rw [hb]; exact Nat.mod_lt _ (by omega)
  have hd1 : d < G := by rw [hd]; exact Nat.mod_lt _ (by omega)
  refine cutS (fun s => s.env 2 = caseRef c ∧ s.env 7 = I a ∧ s.env 8 = I b ∧ s.env 9 = I d) ?_ ?_
  · intro k hk
    have w1 : IntKind.wrap .i64 (x : Int) = x := wrap_u (by omega)
    have w2 : IntKind.wrap .i64 (y : Int) = y := wrap_u (by omega)
    have w3 : IntKind.wrap .i64 (z : Int) = z := wrap_u (by omega)
    have t1 := tmod_nat x G
    have t2 := tmod_nat y G
    have t3 := tmod_nat z G
    have v1 : (x : Int) % (G : Int) = ((x % G : Nat) : Int) := rfl
    have v2 : (y : Int) % (G : Int) = ((y % G : Nat) : Int) := rfl
    have v3 : (z : Int) % (G : Int) = ((z % G : Nat) : Int) := rfl
    rw [← ha] at v1 t1
    rw [← hb] at v2 t2
    rw [← hd] at v3 t3
    simp -implicitDefEqProofs [e2, e3, hG, w1, w2, w3, t1, t2, t3, v1, v2, v3, hG0]
    exact hk _ (by simp [e2])
  clear e2 e3 ha hb hd
  rintro s ⟨e2, e7, e8, e9⟩
  refine cutS (fun s => s.env 2 = caseRef c ∧ s.env 7 = I a ∧ s.env 8 = I b ∧ s.env 9 = I d ∧ s.env 10 = ILL O.1 ∧ s.env 11 = I O.2) ?_ ?_
  · intro k hk
    simp -implicitDefEqProofs [e2]
    refine vCall_of o1 ?_
    simp -implicitDefEqProofs
    exact hk _ (by simp [e2, e7, e8, e9])
  clear e2 e7 e8 e9
  rintro s ⟨e2, e7, e8, e9, e10, e11⟩
  have hag : 0 ≤ (a : Int) ∧ (a : Int) < c.gath := by omega
  have hbg : 0 ≤ (b : Int) ∧ (b : Int) < c.gath := by omega
  have hdg : 0 ≤ (d : Int) ∧ (d : Int) < c.gath := by omega
  have q1 := before20_ok c a b
  have q2 := before20_ok c b a
  obtain ⟨M, hM⟩ : ∃ M, M = beforeS c a b := ⟨_, rfl⟩
  obtain ⟨N, hN⟩ : ∃ N, N = beforeS c b a := ⟨_, rfl⟩
  rw [← hM] at q1
  rw [← hN] at q2
  refine cutS (fun s => s.env 2 = caseRef c ∧ s.env 7 = I a ∧ s.env 8 = I b ∧ s.env 9 = I d ∧ s.env 10 = ILL O.1 ∧ s.env 11 = I O.2 ∧ s.env 12 = I M.1 ∧ s.env 13 = I M.2) ?_ ?_
  · intro k hk
    simp -implicitDefEqProofs [e2, e7, e8]
    refine vCall_of q1 ?_
    simp -implicitDefEqProofs
    exact hk _ (by simp [e2, e7, e8, e9, e10, e11])
  clear e2 e7 e8 e9 e10 e11
  rintro s ⟨e2, e7, e8, e9, e10, e11, e12, e13⟩
  refine cutS (fun s => s.env 2 = caseRef c ∧ s.env 7 = I a ∧ s.env 8 = I b ∧ s.env 9 = I d ∧ s.env 10 = ILL O.1 ∧ s.env 11 = I O.2 ∧ s.env 12 = I M.1 ∧ s.env 13 = I M.2 ∧ s.env 14 = I N.1 ∧ s.env 15 = I N.2) ?_ ?_
  · intro k hk
    simp -implicitDefEqProofs [e2, e7, e8]
    refine vCall_of q2 ?_
    simp -implicitDefEqProofs
    exact hk _ (by simp [e2, e7, e8, e9, e10, e11, e12, e13])
  clear e2 e7 e8 e9 e10 e11 e12 e13
  rintro s ⟨e2, e7, e8, e9, e10, e11, e12, e13, e14, e15⟩
  rw [before_in he hag hbg] at hM
  rw [before_in he hbg hag] at hN
  by_cases hab : a = b
  case pos =>
    rw [if_pos (by omega)] at hM hN
    rw [hM] at e12 e13
    rw [hN] at e14 e15
    simp -implicitDefEqProofs [e7, e8, hab, e12, e13, e14, e15]
    refine vCall_of aw ?_
    simp -implicitDefEqProofs [r10]
  refine cutS (fun s => s.env 2 = caseRef c ∧ s.env 7 = I a ∧ s.env 8 = I b ∧ s.env 9 = I d ∧ s.env 10 = ILL O.1 ∧ s.env 11 = I O.2 ∧ s.env 12 = I M.1 ∧ s.env 13 = I M.2 ∧ s.env 14 = I N.1 ∧ s.env 15 = I N.2) ?_ ?_
  · intro k hk
    have habB : ((a : Int) == (b : Int)) = false := by simp; omega
    simp -implicitDefEqProofs [e7, e8, habB]
    exact hk _ (by simp [e2, e7, e8, e9, e10, e11, e12, e13, e14, e15])
  clear e2 e7 e8 e9 e10 e11 e12 e13 e14 e15
  rintro s ⟨e2, e7, e8, e9, e10, e11, e12, e13, e14, e15⟩
  have hab' : (a : Int) ≠ b := by omega
  by_cases hn : truL c 0 = []
  case pos =>
    have hw := ways_nil.2 hn
    rw [if_neg hab', show beforeL a b (waysP c) = (0, 8) by unfold beforeL; rw [if_pos hw]] at hM
    rw [if_neg (by omega), show beforeL b a (waysP c) = (0, 8) by unfold beforeL; rw [if_pos hw]] at hN
    rw [orders_no he hn] at hO
    rw [hO] at e11
    rw [hM] at e13
    rw [hN] at e15
    simp -implicitDefEqProofs [e11, e13, e15]
    refine vCall_of aw ?_
    simp -implicitDefEqProofs [r10]
  rw [← before_in he hag hbg] at hM
  rw [← before_in he hbg hag] at hN
  rw [orders_say he hn] at hO
  obtain ⟨m, hm1, hm2, hm3, hm4⟩ := before_say he hn hag hbg hab'
  obtain ⟨n, hn1, hn2, hn3, hn4⟩ := before_say he hn hbg hag (Ne.symm hab')
  rw [hM, hm1] at e12 e13
  rw [hN, hn1] at e14 e15
  rw [hO] at e10 e11
  have hmn : (m = 1 ↔ n = 2) ∧ (m = 2 ↔ n = 1) := ⟨by rw [hm3, hn4], by rw [hm4, hn3]⟩
  have hwl := waysP_len hok
  refine cutS (fun s => s.env 2 = caseRef c ∧ s.env 7 = I a ∧ s.env 8 = I b ∧ s.env 9 = I d ∧ s.env 10 = ILL (waysP c) ∧ s.env 12 = I m ∧ s.env 13 = I 0 ∧ s.env 14 = I n ∧ s.env 15 = I 0) ?_ ?_
  · intro k hk
    simp -implicitDefEqProofs [e11]
    exact hk _ (by simp [e2, e7, e8, e9, e10, e12, e13, e14, e15])
  clear e2 e7 e8 e9 e10 e11 e12 e13 e14 e15
  rintro s ⟨e2, e7, e8, e9, e10, e12, e13, e14, e15⟩
  refine cutS (fun s => s.env 2 = caseRef c ∧ s.env 7 = I a ∧ s.env 8 = I b ∧ s.env 9 = I d ∧ s.env 10 = ILL (waysP c) ∧ s.env 12 = I m) ?_ ?_
  · intro k hk
    have f1 : (m == 1) = (n == 2) := by rw [Bool.eq_iff_iff]; simpa using hmn.1
    have f2 : (m == 2) = (n == 1) := by rw [Bool.eq_iff_iff]; simpa using hmn.2
    have f3 : ¬ m < 0 := by omega
    have f4 : ¬ 2 < m := by omega
    simp -implicitDefEqProofs [e12, e13, e14, e15, f1, f2, f3, f4]
    exact hk _ (by simp [e2, e7, e8, e9, e10, e12])
  clear e2 e7 e8 e9 e10 e12 e13 e14 e15
  rintro s ⟨e2, e7, e8, e9, e10, e12⟩
  generalize hW : waysP c = W at *
  refine cutS (fun s => s.env 2 = caseRef c ∧ s.env 7 = I a ∧ s.env 8 = I b ∧ s.env 9 = I d ∧ s.env 12 = I m) ?_ ?_
  · intro K hK
    simp -implicitDefEqProofs
    refine loop_up W.length (fun k s => s.env 2 = caseRef c ∧ s.env 7 = I a ∧ s.env 8 = I b ∧ s.env 9 = I d ∧ s.env 10 = ILL W ∧ s.env 12 = I m ∧ s.env 16 = I k) ?_ ?_
    · simp [e2, e7, e8, e9, e10, e12]
    clear e2 e7 e8 e9 e10 e12
    rintro k s hk ⟨e2, e7, e8, e9, e10, e12, e16⟩
    simp -implicitDefEqProofs [e10, e16]
    refine cond_dec (fun hlt => ?_) (fun hge => ?_)
    · have hlt : k < W.length := by omega
      have hmo := List.getElem_mem hlt
      have a1 := at_ok W[k] a
      have a2 := at_ok W[k] b
      have f1 : m = 1 → at' W[k] a < at' W[k] b := fun h => hm3.1 h _ hmo
      have f2 : m = 2 → ¬ at' W[k] a < at' W[k] b := fun h => by have := hm4.1 h _ hmo; omega
      by_cases hP : at' W[k] a < at' W[k] b
      · have hm2 : ¬ m = 2 := fun h => f2 h hP
        have hm2' : (m == 2) = false := by simpa using hm2
        by_cases hm1 : m = 1
        · simp -implicitDefEqProofs [e7, e8, e10, e16, hlt]
          refine vCall_of a1 ?_
          simp -implicitDefEqProofs [e8, e10, e16, hlt]
          refine vCall_of a2 ?_
          simp -implicitDefEqProofs [e12, hP, hm1, e16]
          refine ⟨i64 (by omega) (by omega), round_ok hlt ?_⟩
          simp [e2, e7, e8, e9, e10, e12, hm1]
        · have hm1' : (m == 1) = false := by simpa using hm1
          simp -implicitDefEqProofs [e7, e8, e10, e16, hlt]
          refine vCall_of a1 ?_
          simp -implicitDefEqProofs [e8, e10, e16, hlt]
          refine vCall_of a2 ?_
          simp -implicitDefEqProofs [e12, hP, hm1', hm2', e16]
          refine ⟨i64 (by omega) (by omega), round_ok hlt ?_⟩
          simp [e2, e7, e8, e9, e10, e12]
      · have hm1 : ¬ m = 1 := fun h => hP (f1 h)
        have hm1' : (m == 1) = false := by simpa using hm1
        by_cases hm2 : m = 2
        · simp -implicitDefEqProofs [e7, e8, e10, e16, hlt]
          refine vCall_of a1 ?_
          simp -implicitDefEqProofs [e8, e10, e16, hlt]
          refine vCall_of a2 ?_
          simp -implicitDefEqProofs [e12, hP, hm2, e16]
          refine ⟨i64 (by omega) (by omega), round_ok hlt ?_⟩
          simp [e2, e7, e8, e9, e10, e12, hm2]
        · have hm2' : (m == 2) = false := by simpa using hm2
          simp -implicitDefEqProofs [e7, e8, e10, e16, hlt]
          refine vCall_of a1 ?_
          simp -implicitDefEqProofs [e8, e10, e16, hlt]
          refine vCall_of a2 ?_
          simp -implicitDefEqProofs [e12, hP, hm1', hm2', e16]
          refine ⟨i64 (by omega) (by omega), round_ok hlt ?_⟩
          simp [e2, e7, e8, e9, e10, e12]
    · obtain rfl : k = W.length := by omega
      simp -implicitDefEqProofs
      exact hK _ (by simp [e2, e7, e8, e9, e12])
  clear e2 e7 e8 e9 e10 e12
  rintro s ⟨e2, e7, e8, e9, e12⟩
  by_cases hbd : b = d
  case pos =>
    simp -implicitDefEqProofs [e7, e8, e9, hbd]
    refine vCall_of aw ?_
    simp -implicitDefEqProofs [r10]
  by_cases had : a = d
  case pos =>
    have hbdB : ((b : Int) == (d : Int)) = false := by simp; omega
    have hadB : ((a : Int) == (d : Int)) = true := by simp; omega
    simp -implicitDefEqProofs [e7, e8, e9, hbdB, hadB]
    refine vCall_of aw ?_
    simp -implicitDefEqProofs [r10]
  have hbd' : ¬ ((b : Int) = d) := by omega
  have had' : ¬ ((a : Int) = d) := by omega
  have q3 := before20_ok c b d
  have q4 := before20_ok c a d
  obtain ⟨k, hk1, hk2, hk3, hk4⟩ := before_say he hn hbg hdg hbd'
  obtain ⟨o, ho1, ho2, ho3, ho4⟩ := before_say he hn hag hdg had'
  rw [hk1] at q3
  rw [ho1] at q4
  rw [hW] at hk3 ho3
  have htr : m = 1 → k = 1 → o = 1 := fun h1 h2 => ho3.2 fun w hw => Int.lt_trans (hm3.1 h1 w hw) (hk3.1 h2 w hw)
  refine cutS (fun s => s.env 2 = caseRef c ∧ s.env 7 = I a ∧ s.env 8 = I b ∧ s.env 9 = I d ∧ s.env 12 = I m) ?_ ?_
  · intro k hk
    have hbdB : ((b : Int) == (d : Int)) = false := by simp; omega
    have hadB : ((a : Int) == (d : Int)) = false := by simp; omega
    simp -implicitDefEqProofs [e7, e8, e9, hbdB, hadB]
    exact hk _ (by simp [e2, e7, e8, e9, e12])
  clear e2 e7 e8 e9 e12
  rintro s ⟨e2, e7, e8, e9, e12⟩
  simp -implicitDefEqProofs [e2, e8, e9]
  refine vCall_of q3 ?_
  simp -implicitDefEqProofs [e2, e7, e9]
  refine vCall_of q4 ?_
  by_cases h1 : m = 1
  · by_cases h2 : k = 1
    · have h3 := htr h1 h2
      simp -implicitDefEqProofs [e12, h1, h2, h3]
      refine vCall_of aw ?_
      simp -implicitDefEqProofs [r10]
    · have h2' : (k != 1) = true := by simpa using h2
      simp -implicitDefEqProofs [e12, h1, h2']
      refine vCall_of aw ?_
      simp -implicitDefEqProofs [r10]
  · have h1' : (m != 1) = true := by simpa using h1
    simp -implicitDefEqProofs [e12, h1']
    refine vCall_of aw ?_
    simp -implicitDefEqProofs [r10]
theorem paperBefore_ok (c : Case) (xs : List Int) (_ : c.seen.length * 16 ≤ 140737488351232) (ox : xs.length = 3 ∧ ∀ x ∈ xs, 0 ≤ x ∧ x ≤ 255) : PCall Try.prog 10 [encCase c, .agg (xs.flatMap fun y => (V y).cells)] (B true) :=
  match xs, ox with
  | [a, b, d], ⟨_, h⟩ => by
    have h1 := h a (by simp)
    have h2 := h b (by simp)
    have h3 := h d (by simp)
    have := paperBefore_at c (x := a.toNat) (y := b.toNat) (z := d.toNat) (by omega) (by omega) (by omega)
    rwa [Int.toNat_of_nonneg h1.1, Int.toNat_of_nonneg h2.1, Int.toNat_of_nonneg h3.1] at this
end Go.Proofs.Ytbcfmfiolbcclaa

