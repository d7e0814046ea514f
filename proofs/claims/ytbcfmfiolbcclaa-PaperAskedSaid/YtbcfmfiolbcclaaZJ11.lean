/- The resolved code of some functions, written by program, each held against the function by the kernel. The law PaperAsked: its contract. -/
import Derived.Test.YtbcfmfiolbcclaaZI
import Derived.KernelRfl
import Derived.Test.YtbcfmfiolbcclaaZL
namespace Go.Proofs.Ytbcfmfiolbcclaa
open Go.Avm

/- duodecimo/duodecimolaw06.PaperAsked -/
def ann11 : Ann := { muts := [], nilsz := [], oid := [], frz := [], zero := [], ord := [(14, [0, 1, 2, 3, 4, 5, 6, 7, 8, 9, 10, 11, 12, 13, 14, 15, 16, 17, 18]), (23, [0, 1, 2, 3, 4, 5, 6, 7, 8, 9, 10, 11, 12, 13])], ap := [], own := [14, 22], yl := [], fz := [], imm := [], ic := [], cl := [], ylL := [], rl := [] }
def m11 : MCode := (.seq (.reg [.boxI 2 (.t 0) 5, .boxI 3 (.t 1) 2, .asg 4 (.c (.lit (.bool false)))])
 (.seq (.reg [.load 24 (.t 2) (some 5), .call 25 32 [(.t 24)], .cpy 23 (.t 25), .ext 26 (.t 23) 0, .ext 27 (.t 23) 1, .ext 28 (.t 23) 2, .asg 5 (.t 26), .asg 6 (.t 27), .asg 7 (.t 28)])
 (.seq (.seq (.reg [.load 29 (.t 2) (some 5), .call 30 36 [(.t 29)], .not 31 (.t 30)])
 (.cond (.t 31) (.seq (.reg [.cpy 32 (.t 7), .bin 33 .neq (.t 32) (.c (.lit (.int .i64 0))), .cpy 34 (.t 33), .guard 34 true (some 35) (.cpy 35 (.t 5)), .guard 34 true (some 36) (.bin 36 .eql (.t 35) (.c (.lit (.int .i64 0)))), .pick 37 (.t 34) (.t 36) (.c (.lit (.bool false))), .cpy 38 (.t 37), .guard 38 true (some 39) (.cpy 39 (.t 6)), .guard 38 true (some 40) (.bin 40 .eql (.t 39) (.c (.lit (.int .i64 0)))), .pick 41 (.t 38) (.t 40) (.c (.lit (.bool false))), .cpy 42 (.t 41), .guard 42 true (some 43) (.call 43 22 []), .pick 44 (.t 42) (.t 43) (.c (.lit (.bool false))), .asg 4 (.t 44)])
 .ret) .skip))
 (.seq (.reg [.load 46 (.t 2) (some 5), .call 47 17 [(.t 46)], .cpy 45 (.t 47), .ext 48 (.t 45) 0, .ext 49 (.t 45) 1, .asg 8 (.t 48), .asg 9 (.t 49)])
 (.seq (.seq (.reg [.cpy 50 (.t 7), .bin 51 .neq (.t 50) (.c (.lit (.int .i64 0)))])
 (.cond (.t 51) (.seq (.reg [.cpy 52 (.t 7), .bin 53 .eql (.t 52) (.c (.lit (.int .i64 8))), .cpy 54 (.t 53), .guard 54 true (some 55) (.cpy 55 (.t 9)), .guard 54 true (some 56) (.cpy 56 (.t 7)), .guard 54 true (some 57) (.bin 57 .eql (.t 55) (.t 56)), .pick 58 (.t 54) (.t 57) (.c (.lit (.bool false))), .cpy 59 (.t 58), .guard 59 true (some 60) (.cpy 60 (.t 5)), .guard 59 true (some 61) (.bin 61 .eql (.t 60) (.c (.lit (.int .i64 0)))), .pick 62 (.t 59) (.t 61) (.c (.lit (.bool false))), .cpy 63 (.t 62), .guard 63 true (some 64) (.cpy 64 (.t 6)), .guard 63 true (some 65) (.bin 65 .eql (.t 64) (.c (.lit (.int .i64 0)))), .pick 66 (.t 63) (.t 65) (.c (.lit (.bool false))), .cpy 67 (.t 66), .guard 67 true (some 68) (.call 68 22 []), .pick 69 (.t 67) (.t 68) (.c (.lit (.bool false))), .asg 4 (.t 69)])
 .ret) .skip))
 (.seq (.seq (.reg [.cpy 70 (.t 9), .bin 71 .neq (.t 70) (.c (.lit (.int .i64 0))), .cpy 72 (.t 71), .guard 72 false (some 73) (.cpy 73 (.t 5)), .guard 72 false (some 74) (.bin 74 .lss (.t 73) (.c (.lit (.int .i64 0)))), .pick 75 (.t 72) (.c (.lit (.bool true))) (.t 74), .cpy 76 (.t 75), .guard 76 false (some 77) (.cpy 77 (.t 5)), .guard 76 false (some 78) (.addr 78 (.t 2) 3), .guard 76 false (some 79) (.load 79 (.t 78) none), .guard 76 false (some 80) (.bin 80 .geq (.t 77) (.t 79)), .pick 81 (.t 76) (.c (.lit (.bool true))) (.t 80), .cpy 82 (.t 81), .guard 82 false (some 83) (.cpy 83 (.t 6)), .guard 82 false (some 84) (.bin 84 .lss (.t 83) (.c (.lit (.int .i64 1)))), .pick 85 (.t 82) (.c (.lit (.bool true))) (.t 84), .cpy 86 (.t 85), .guard 86 false (some 87) (.cpy 87 (.t 6)), .guard 86 false (some 88) (.cpy 88 (.t 8)), .guard 86 false (some 89) (.len 89 (.t 88)), .guard 86 false (some 90) (.bin 90 .gtr (.t 87) (.t 89)), .pick 91 (.t 86) (.c (.lit (.bool true))) (.t 90)])
 (.cond (.t 91) (.seq (.reg [.asg 4 (.c (.lit (.bool false)))])
 .ret) .skip))
 (.seq (.seq (.reg [.addr 92 (.t 2) 4, .load 93 (.t 92) none, .len 94 (.t 93), .bin 95 .eql (.t 94) (.c (.lit (.int .i64 8)))])
 (.cond (.t 95) (.seq (.reg [.call 96 22 [], .asg 4 (.t 96)])
 .ret) .skip))
 (.seq (.reg [.load 98 (.t 2) (some 5), .cpy 99 (.t 5), .call 100 23 [(.t 98), (.t 99)], .cpy 97 (.t 100), .ext 101 (.t 97) 0, .ext 102 (.t 97) 1, .ext 103 (.t 97) 2, .asg 10 (.t 101), .asg 11 (.t 102), .asg 12 (.t 103)])
 (.seq (.seq (.reg [.cpy 104 (.t 12), .bin 105 .neq (.t 104) (.c (.lit (.int .i64 0))), .cpy 106 (.t 105), .guard 106 false (some 107) (.cpy 107 (.t 11)), .guard 106 false (some 108) (.len 108 (.t 107)), .guard 106 false (some 109) (.bin 109 .eql (.t 108) (.c (.lit (.int .i64 0)))), .pick 110 (.t 106) (.c (.lit (.bool true))) (.t 109)])
 (.cond (.t 110) (.seq (.reg [.asg 4 (.c (.lit (.bool false)))])
 .ret) .skip))
 (.seq (.reg [.load 112 (.t 2) (some 5), .cpy 113 (.t 5), .cpy 114 (.t 11), .idxA 115 (.t 3) (.c (.lit (.int .i64 0))) 2 1, .load 116 (.t 115) none, .conv 117 .i64 (.t 116), .cpy 118 (.t 11), .len 119 (.t 118), .bin 120 .rem (.t 117) (.t 119), .idxS 121 (.t 114) (.t 120) 1, .load 122 (.t 121) none, .call 123 35 [(.t 113), (.t 122)], .call 124 45 [(.t 112), (.t 123)], .call 125 17 [(.t 124)], .cpy 111 (.t 125), .ext 126 (.t 111) 0, .ext 127 (.t 111) 1, .cpyE 13 (.t 126), .asg 14 (.t 127)])
 (.seq (.seq (.reg [.cpy 128 (.t 14), .bin 129 .neq (.t 128) (.c (.lit (.int .i64 0))), .cpy 130 (.t 129), .guard 130 false (some 131) (.cpy 131 (.t 13)), .guard 130 false (some 132) (.len 132 (.t 131)), .guard 130 false (some 133) (.cpy 133 (.t 6)), .guard 130 false (some 134) (.bin 134 .gtr (.t 132) (.t 133)), .pick 135 (.t 130) (.c (.lit (.bool true))) (.t 134)])
 (.cond (.t 135) (.seq (.reg [.asg 4 (.c (.lit (.bool false)))])
 .ret) .skip))
 (.seq (.reg [.idxA 136 (.t 3) (.c (.lit (.int .i64 1))) 2 1, .load 137 (.t 136) none, .conv 138 .i64 (.t 137), .addr 139 (.t 2) 3, .load 140 (.t 139) none, .bin 141 .rem (.t 138) (.t 140), .asg 15 (.t 141)])
 (.seq (.reg [.load 143 (.t 2) (some 5), .cpy 144 (.t 15), .call 145 23 [(.t 143), (.t 144)], .cpy 142 (.t 145), .ext 146 (.t 142) 0, .ext 147 (.t 142) 1, .ext 148 (.t 142) 2, .asg 16 (.t 146), .asg 17 (.t 147), .asg 18 (.t 148)])
 (.seq (.reg [.asg 19 (.c (.lit (.int .i64 0)))])
 (.seq (.seq (.reg [.asg 20 (.c (.lit (.int .i64 0)))])
 (.block 0 (.loop (.seq (.seq (.reg [.cpy 149 (.t 20), .cpy 150 (.t 17), .len 151 (.t 150), .bin 152 .lss (.t 149) (.t 151)])
 (.cond (.t 152) .skip (.exit 0)))
 (.seq (.block 1 (.seq (.reg [.load 156 (.t 2) (some 5), .cpy 157 (.t 15), .cpy 158 (.t 17), .cpy 159 (.t 20), .idxS 160 (.t 158) (.t 159) 1, .load 161 (.t 160) none, .call 162 35 [(.t 157), (.t 161)], .call 163 45 [(.t 156), (.t 162)], .call 164 17 [(.t 163)], .cpy 155 (.t 164), .ext 165 (.t 155) 0, .ext 166 (.t 155) 1, .cpyE 21 (.t 165), .asg 22 (.t 166)])
 (.seq (.seq (.reg [.cpy 167 (.t 22), .bin 168 .neq (.t 167) (.c (.lit (.int .i64 0)))])
 (.cond (.t 168) (.seq (.reg [.asg 4 (.c (.lit (.bool false)))])
 .ret) .skip))
 (.reg [.cpy 169 (.t 19), .cpy 170 (.t 21), .len 171 (.t 170), .maxI 172 (.t 169) (.t 171), .asg 19 (.t 172)]))))
 (.reg [.cpy 153 (.t 20), .bin 154 .add (.t 153) (.c (.lit (.int .i64 1))), .asg 20 (.t 154)]))))))
 (.seq (.reg [.cpy 173 (.t 18), .bin 174 .eql (.t 173) (.c (.lit (.int .i64 0))), .cpy 175 (.t 174), .guard 175 true (some 176) (.cpy 176 (.t 19)), .guard 175 true (some 177) (.cpy 177 (.t 6)), .guard 175 true (some 178) (.bin 178 .geq (.t 176) (.t 177)), .pick 179 (.t 175) (.t 178) (.c (.lit (.bool false))), .cpy 180 (.t 179), .guard 180 true (some 181) (.call 181 22 []), .pick 182 (.t 180) (.t 181) (.c (.lit (.bool false))), .asg 4 (.t 182)])
 .ret))))))))))))))))
def r11 : List MRes := [.tmp 4]
theorem tr11 : Try.f11.body.bind (trC Try.prog ann11 Try.f11.ntmps) = some m11 := by kernel_rfl
theorem rs11 : trRes Try.prog Try.f11.results.toList = some r11 := by kernel_rfl
theorem fn11 : isFunc Try.prog 11 = true := by kernel_rfl
end Go.Proofs.Ytbcfmfiolbcclaa

namespace Go.Proofs.Ytbcfmfiolbcclaa
open Go.Avm

theorem paperAsked_at (c : Case) {x y : Nat} (hx : x < 256) (hy : y < 256) : PCall Try.prog 11 [encCase c, .agg [V x, V y]] (B true) := by
  refine pcall Try.func11 tr11 rs11 fn11 (by simp [Try.ntmps11]) fun _ => ?_
  have va := valid36_ok c
  have ask := ask32_ok c
  have aw := awake22_ok
  unfold m11
  refine cutS (fun s => s.env 2 = caseRef c ∧ s.env 3 = .ref [V x, V y]) ?_ ?_
  · intro k hk
    simp -implicitDefEqProofs
    exact hk _ (by simp)
  rintro s ⟨e2, e3⟩
  by_cases he : errE c = 0
  case neg =>
    rw [ask_err he] at ask
    have he' : (errE c != 0) = true := by simpa using he
    simp -implicitDefEqProofs [e2]
    refine vCall_of ask ?_
    simp -implicitDefEqProofs [e2]
    refine vCall_of va ?_
    simp -implicitDefEqProofs [he, he']
    refine vCall_of aw ?_
    simp -implicitDefEqProofs [r11]
  have hok := err_ok he
  have h8 := (checkS_zero he).2.1
  have o1 := orders17_ok c
  by_cases hn : truL c 0 = []
  case pos =>
    rw [ask_no he hn] at ask
    rw [orders_no he hn] at o1
    simp -implicitDefEqProofs [e2]
    refine vCall_of ask ?_
    simp -implicitDefEqProofs [e2]
    refine vCall_of va ?_
    simp -implicitDefEqProofs [he, e2]
    refine vCall_of o1 ?_
    simp -implicitDefEqProofs
    refine vCall_of aw ?_
    simp -implicitDefEqProofs [r11]
  obtain ⟨n, hng, has, hmin⟩ := ask_say he hn
  rw [has] at ask
  rw [orders_say he hn] at o1
  have hw := fun (g : Nat) (hg : (g : Int) < c.gath) => worst_in hok h8 hn hg
  have hwm := fun (g : Nat) (hg : (g : Int) < c.gath) => worstP_may hok hg
  obtain ⟨w1, w2, w3⟩ := hw n hng
  obtain ⟨M, hM⟩ : ∃ M, M = worstP c n := ⟨_, rfl⟩
  rw [← hM] at ask w1 w2 w3 hmin
  have hwl := waysP_len hok
  refine cutS (fun s => s.env 2 = caseRef c ∧ s.env 3 = .ref [V x, V y] ∧ s.env 5 = I n ∧ s.env 6 = I M ∧ s.env 7 = I 0) ?_ ?_
  · intro k hk
    simp -implicitDefEqProofs [e2]
    refine vCall_of ask ?_
    simp -implicitDefEqProofs
    exact hk _ (by simp [e2, e3])
  clear e2 e3
  rintro s ⟨e2, e3, e5, e6, e7⟩
  refine cutS (fun s => s.env 2 = caseRef c ∧ s.env 3 = .ref [V x, V y] ∧ s.env 5 = I n ∧ s.env 6 = I M ∧ s.env 7 = I 0) ?_ ?_
  · intro k hk
    simp -implicitDefEqProofs [e2]
    refine vCall_of va ?_
    simp -implicitDefEqProofs [he]
    exact hk _ (by simp [e2, e3, e5, e6, e7])
  clear e2 e3 e5 e6 e7
  rintro s ⟨e2, e3, e5, e6, e7⟩
  refine cutS (fun s => s.env 2 = caseRef c ∧ s.env 3 = .ref [V x, V y] ∧ s.env 5 = I n ∧ s.env 6 = I M ∧ s.env 7 = I 0 ∧ s.env 8 = ILL (waysP c) ∧ s.env 9 = I 0) ?_ ?_
  · intro k hk
    simp -implicitDefEqProofs [e2]
    refine vCall_of o1 ?_
    simp -implicitDefEqProofs
    exact hk _ (by simp [e2, e3, e5, e6, e7])
  clear e2 e3 e5 e6 e7
  rintro s ⟨e2, e3, e5, e6, e7, e8, e9⟩
  refine cutS (fun s => s.env 2 = caseRef c ∧ s.env 3 = .ref [V x, V y] ∧ s.env 5 = I n ∧ s.env 6 = I M ∧ s.env 8 = ILL (waysP c) ∧ s.env 9 = I 0) ?_ ?_
  · intro k hk
    simp -implicitDefEqProofs [e7]
    exact hk _ (by simp [e2, e3, e5, e6, e8, e9])
  clear e2 e3 e5 e6 e7 e8 e9
  rintro s ⟨e2, e3, e5, e6, e8, e9⟩
  refine cutS (fun s => s.env 2 = caseRef c ∧ s.env 3 = .ref [V x, V y] ∧ s.env 5 = I n ∧ s.env 6 = I M) ?_ ?_
  · intro k hk
    have f1 : ¬ (n : Int) < 0 := by omega
    have f2 : ¬ c.gath ≤ (n : Int) := by omega
    have f3 : ¬ M < 1 := by omega
    have f4 : ¬ ((waysP c).length : Int) < M := by omega
    simp -implicitDefEqProofs [e2, e5, e6, e8, e9, f1, f2, f3, f4]
    exact hk _ (by simp [e2, e3, e5, e6])
  clear e2 e3 e5 e6 e8 e9
  rintro s ⟨e2, e3, e5, e6⟩
  by_cases hs8 : c.seen.length = 8
  case pos =>
    have hs8' : ((c.seen.length : Int) == 8) = true := by rw [hs8]; rfl
    simp -implicitDefEqProofs [e2, hs8']
    refine vCall_of aw ?_
    simp -implicitDefEqProofs [r11]
  have hs8' : ((c.seen.length : Int) == 8) = false := by simp; omega
  have h88 : c.seen.length < 8 := by omega
  refine cutS (fun s => s.env 2 = caseRef c ∧ s.env 3 = .ref [V x, V y] ∧ s.env 5 = I n ∧ s.env 6 = I M) ?_ ?_
  · intro k hk
    simp -implicitDefEqProofs [e2, hs8']
    exact hk _ (by simp [e2, e3, e5, e6])
  clear e2 e3 e5 e6
  rintro s ⟨e2, e3, e5, e6⟩
  have hngg : 0 ≤ (n : Int) ∧ (n : Int) < c.gath := ⟨by omega, hng⟩
  have st := stocks23_ok c n
  rw [stocks_say he hn hngg] at st
  have hmn := may_ne hok hn hngg
  have hml : (mayR c (truR c) n).length ≤ c.stocks.length := selT_len _ _
  have hmr := fun s (hs : s ∈ mayR c (truR c) n) => may_range hs
  have hmt := fun s (hs : s ∈ mayR c (truR c) n) => more_tru hok h8 hngg hs
  obtain ⟨Y, hY⟩ : ∃ Y, Y = mayR c (truR c) n := ⟨_, rfl⟩
  rw [← hY] at st hmn hml hmr hmt w3
  have hs4 := hok.stocks
  refine cutS (fun s => s.env 2 = caseRef c ∧ s.env 3 = .ref [V x, V y] ∧ s.env 5 = I n ∧ s.env 6 = I M ∧ s.env 11 = IL Y ∧ s.env 12 = I 0) ?_ ?_
  · intro k hk
    simp -implicitDefEqProofs [e2, e5]
    refine vCall_of st ?_
    simp -implicitDefEqProofs
    exact hk _ (by simp [e2, e3, e5, e6])
  clear e2 e3 e5 e6
  rintro s ⟨e2, e3, e5, e6, e11, e12⟩
  refine cutS (fun s => s.env 2 = caseRef c ∧ s.env 3 = .ref [V x, V y] ∧ s.env 5 = I n ∧ s.env 6 = I M ∧ s.env 11 = IL Y) ?_ ?_
  · intro k hk
    have hz' : ((Y.length : Int) == 0) = false := by simp; exact hmn
    simp -implicitDefEqProofs [e11, e12, hz']
    exact hk _ (by simp [e2, e3, e5, e6, e11])
  clear e2 e3 e5 e6 e11 e12
  rintro s ⟨e2, e3, e5, e6, e11⟩
  have hYl := List.length_pos_iff.2 hmn
  have wx : IntKind.wrap .i64 (x : Int) = x := wrap_u (by omega)
  have wy : IntKind.wrap .i64 (y : Int) = y := wrap_u (by omega)
  have tx := tmod_nat x Y.length
  have vx : (x : Int) % (Y.length : Int) = ((x % Y.length : Nat) : Int) := rfl
  have hYz : ¬ Y.length = 0 := by omega
  have hj := Nat.mod_lt x hYl
  generalize x % Y.length = j at *
  have s1 := seen35_ok n Y[j]
  have m1 := more45_ok c n Y[j] (by omega)
  have o2 := orders17_ok (moreC c n Y[j])
  have hYm := List.getElem_mem hj
  have hde := more_err he h88 hngg (hmr _ hYm)
  rw [orders_say hde (hmt _ hYm)] at o2
  have hle := w3 _ hYm
  generalize moreC c n Y[j] = d at *
  refine cutS (fun s => s.env 2 = caseRef c ∧ s.env 3 = .ref [V x, V y] ∧ s.env 6 = I M ∧ s.env 13 = ILL (waysP d) ∧ s.env 14 = I 0) ?_ ?_
  · intro k hk
    simp -implicitDefEqProofs [e2, e3, e5, e11, wx, tx, vx, hYz, hmn, hj]
    refine vCall_of s1 ?_
    simp -implicitDefEqProofs
    refine vCall_of m1 ?_
    simp -implicitDefEqProofs
    refine vCall_of o2 ?_
    simp -implicitDefEqProofs
    exact hk _ (by simp [e2, e3, e6])
  clear e2 e3 e5 e6 e11
  rintro s ⟨e2, e3, e6, e13, e14⟩
  refine cutS (fun s => s.env 2 = caseRef c ∧ s.env 3 = .ref [V x, V y] ∧ s.env 6 = I M) ?_ ?_
  · intro k hk
    have f1 : ¬ M < ((waysP d).length : Int) := by omega
    simp -implicitDefEqProofs [e6, e13, e14, f1]
    exact hk _ (by simp [e2, e3, e6])
  clear e2 e3 e6 e13 e14
  rintro s ⟨e2, e3, e6⟩
  have hg := hok.gath
  obtain ⟨G, hG⟩ : ∃ G : Nat, c.gath = G := ⟨c.gath.toNat, by omega⟩
  have hG0 : ¬ G = 0 := by omega
  have tz := tmod_nat y G
  have vz : (y : Int) % (G : Int) = ((y % G : Nat) : Int) := rfl
  have hot := Nat.mod_lt y (show 0 < G by omega)
  generalize y % G = q at *
  have hqg : (q : Int) < c.gath := by omega
  have hqgg : 0 ≤ (q : Int) ∧ (q : Int) < c.gath := ⟨by omega, hqg⟩
  refine cutS (fun s => s.env 2 = caseRef c ∧ s.env 6 = I M ∧ s.env 15 = I q) ?_ ?_
  · intro k hk
    simp -implicitDefEqProofs [e2, e3, wy, hG, tz, vz, hG0]
    exact hk _ (by simp [e2, e6])
  clear e2 e3 e6
  rintro s ⟨e2, e6, e15⟩
  have st := stocks23_ok c q
  rw [stocks_say he hn hqgg] at st
  have hml : (mayR c (truR c) q).length ≤ c.stocks.length := selT_len _ _
  have hmr := fun s (hs : s ∈ mayR c (truR c) q) => may_range hs
  have hmt := fun s (hs : s ∈ mayR c (truR c) q) => more_tru hok h8 hqgg hs
  have hmq := hmin q hqg
  rw [hwm q hqg] at hmq
  obtain ⟨Z, hZ⟩ : ∃ Z, Z = mayR c (truR c) q := ⟨_, rfl⟩
  rw [← hZ] at st hml hmr hmt hmq
  refine cutS (fun s => s.env 2 = caseRef c ∧ s.env 6 = I M ∧ s.env 15 = I q ∧ s.env 17 = IL Z ∧ s.env 18 = I 0) ?_ ?_
  · intro k hk
    simp -implicitDefEqProofs [e2, e15]
    refine vCall_of st ?_
    simp -implicitDefEqProofs
    exact hk _ (by simp [e2, e6, e15])
  clear e2 e6 e15
  rintro s ⟨e2, e6, e15, e17, e18⟩
  refine cutS (fun s => s.env 2 = caseRef c ∧ s.env 6 = I M ∧ s.env 15 = I q ∧ s.env 17 = IL Z ∧ s.env 18 = I 0 ∧ s.env 19 = I 0) ?_ ?_
  · intro k hk
    simp -implicitDefEqProofs
    exact hk _ (by simp [e2, e6, e15, e17, e18])
  clear e2 e6 e15 e17 e18
  rintro s ⟨e2, e6, e15, e17, e18, e19⟩
  refine cutS (fun s => s.env 6 = I M ∧ s.env 18 = I 0 ∧ s.env 19 = I (worstL c q Z)) ?_ ?_
  · intro K hK
    simp -implicitDefEqProofs
    refine loop_up Z.length (fun k s => s.env 2 = caseRef c ∧ s.env 6 = I M ∧ s.env 15 = I q ∧ s.env 17 = IL Z ∧ s.env 18 = I 0 ∧ s.env 19 = I (worstL c q (Z.take k)) ∧ s.env 20 = I k) ?_ ?_
    · simp [e2, e6, e15, e17, e18, e19, worstL]
    clear e2 e6 e15 e17 e18 e19
    rintro k s hk ⟨e2, e6, e15, e17, e18, e19, e20⟩
    simp -implicitDefEqProofs [e17, e20]
    refine cond_dec (fun hlt => ?_) (fun hge => ?_)
    · have hlt : k < Z.length := by omega
      have hZm := List.getElem_mem hlt
      have s1 := seen35_ok q Z[k]
      have m1 := more45_ok c q Z[k] (by omega)
      have o2 := orders17_ok (moreC c q Z[k])
      have hde := more_err he h88 hqgg (hmr _ hZm)
      rw [orders_say hde (hmt _ hZm)] at o2
      have hws := worstL_snoc c q (Z.take k) Z[k]
      rw [← take_snoc hlt] at hws
      generalize moreC c q Z[k] = d at *
      simp -implicitDefEqProofs [e2, e15, e17, e20, hlt]
      refine vCall_of s1 ?_
      simp -implicitDefEqProofs
      refine vCall_of m1 ?_
      simp -implicitDefEqProofs
      refine vCall_of o2 ?_
      simp -implicitDefEqProofs [e19, e20]
      refine ⟨i64 (by omega) (by omega), round_ok hlt ?_⟩
      simp [e2, e6, e15, e17, e18, hws]
      omega
    · obtain rfl : k = Z.length := by omega
      rw [List.take_length] at e19
      simp -implicitDefEqProofs
      exact hK _ (by simp [e6, e18, e19])
  clear e2 e6 e15 e17 e18 e19
  rintro s ⟨e6, e18, e19⟩
  simp -implicitDefEqProofs [e6, e18, e19, hmq]
  refine vCall_of aw ?_
  simp -implicitDefEqProofs [r11]
theorem paperAsked_ok (c : Case) (xs : List Int) (_ : c.seen.length * 16 ≤ 140737488351232) (ox : xs.length = 2 ∧ ∀ x ∈ xs, 0 ≤ x ∧ x ≤ 255) : PCall Try.prog 11 [encCase c, .agg (xs.flatMap fun y => (V y).cells)] (B true) :=
  match xs, ox with
  | [a, b], ⟨_, h⟩ => by
    have h1 := h a (by simp)
    have h2 := h b (by simp)
    have := paperAsked_at c (x := a.toNat) (y := b.toNat) (by omega) (by omega)
    rwa [Int.toNat_of_nonneg h1.1, Int.toNat_of_nonneg h2.1] at this
end Go.Proofs.Ytbcfmfiolbcclaa

