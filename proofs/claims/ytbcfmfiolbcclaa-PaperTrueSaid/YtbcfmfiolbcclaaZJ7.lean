/- The resolved code of some functions, written by program, each held against the function by the kernel. The law PaperTrue: its contract. -/
import Derived.Test.YtbcfmfiolbcclaaZI
import Derived.KernelRfl
import Derived.Test.YtbcfmfiolbcclaaZL
namespace Go.Proofs.Ytbcfmfiolbcclaa
open Go.Avm

/- duodecimo/duodecimolaw06.PaperTrue -/
def ann7 : Ann := { muts := [], nilsz := [], oid := [], frz := [7, 13, 16, 17, 19], zero := [(7, [(.slice 1 [] 8000), (.slice 1 [] 8001), (.slice 1 [] 8002)]), (13, [(.lit (.int .i64 0)), (.slice 3 [] 14001), (.slice 3 [] 14002), (.lit (.int .i64 0)), (.slice 2 [] 14004)]), (16, [(.lit (.int .i64 0)), (.lit (.int .i64 0))]), (17, [(.lit (.int .i64 0)), (.lit (.int .i64 0))]), (19, [(.lit (.int .i64 0)), (.lit (.int .i64 0))])], ord := [(18, [0, 1, 2, 3, 4, 5, 6, 7, 8, 9, 10, 11, 12, 13]), (27, [0, 1, 2, 3, 4, 5, 6, 7, 8, 9, 10, 11, 12, 13, 14, 15, 16, 17, 18, 19, 20, 21, 22, 23, 24, 25])], ap := [], own := [4, 24], yl := [], fz := [], imm := [], ic := [], cl := [], ylL := [], rl := [] }
def m7 : MCode := (.seq (.reg [.boxI 2 (.t 0) 5, .boxI 3 (.t 1) 3, .asg 4 (.c (.lit (.bool false)))])
 (.seq (.seq (.reg [.load 28 (.t 2) (some 5), .call 29 36 [(.t 28)], .not 30 (.t 29)])
 (.cond (.t 30) (.seq (.reg [.load 32 (.t 2) (some 5), .call 33 17 [(.t 32)], .cpy 31 (.t 33), .ext 34 (.t 31) 0, .ext 35 (.t 31) 1, .asg 5 (.t 34), .asg 6 (.t 35)])
 (.seq (.reg [.cpy 36 (.t 6), .bin 37 .neq (.t 36) (.c (.lit (.int .i64 0))), .cpy 38 (.t 37), .guard 38 true (some 39) (.call 39 22 []), .pick 40 (.t 38) (.t 39) (.c (.lit (.bool false))), .asg 4 (.t 40)])
 .ret)) .skip))
 (.seq (.reg [.load 42 (.t 2) (some 5), .load 43 (.t 3) (some 3), .call 44 37 [(.t 42), (.t 43)], .cpy 41 (.t 44), .ext 45 (.t 41) 0, .ext 46 (.t 41) 1, .alloc 7 [(.slice 1 [] 8000), (.slice 1 [] 8001), (.slice 1 [] 8002)], .storeF 7 (.t 45) 3, .asg 8 (.t 46)])
 (.seq (.seq (.reg [.cpy 47 (.t 8), .not 48 (.t 47)])
 (.cond (.t 48) (.seq (.reg [.load 50 (.t 2) (some 5), .call 51 30 [(.t 50)], .cpy 49 (.t 51), .ext 52 (.t 49) 0, .ext 53 (.t 49) 1, .asg 9 (.t 52), .asg 10 (.t 53)])
 (.seq (.reg [.load 55 (.t 2) (some 5), .call 56 17 [(.t 55)], .cpy 54 (.t 56), .ext 57 (.t 54) 0, .ext 58 (.t 54) 1, .asg 11 (.t 57), .asg 12 (.t 58)])
 (.seq (.reg [.cpy 59 (.t 10), .bin 60 .eql (.t 59) (.c (.lit (.int .i64 9))), .cpy 61 (.t 60), .guard 61 true (some 62) (.cpy 62 (.t 12)), .guard 61 true (some 63) (.bin 63 .eql (.t 62) (.c (.lit (.int .i64 8)))), .pick 64 (.t 61) (.t 63) (.c (.lit (.bool false))), .cpy 65 (.t 64), .guard 65 true (some 66) (.call 66 22 []), .pick 67 (.t 65) (.t 66) (.c (.lit (.bool false))), .asg 4 (.t 67)])
 .ret))) .skip))
 (.seq (.reg [.load 68 (.t 2) (some 5), .load 69 (.t 7) (some 3), .load 70 (.t 3) (some 3), .call 71 38 [(.t 68), (.t 69), (.t 70), (.c (.lit (.int .u8 0)))], .alloc 13 [(.lit (.int .i64 0)), (.slice 3 [] 14001), (.slice 3 [] 14002), (.lit (.int .i64 0)), (.slice 2 [] 14004)], .storeF 13 (.t 71) 5])
 (.seq (.reg [.load 73 (.t 13) (some 5), .call 74 17 [(.t 73)], .cpy 72 (.t 74), .ext 75 (.t 72) 0, .ext 76 (.t 72) 1, .asg 14 (.t 75), .asg 15 (.t 76)])
 (.seq (.reg [.load 78 (.t 13) (some 5), .call 79 26 [(.t 78)], .cpy 77 (.t 79), .ext 80 (.t 77) 0, .ext 81 (.t 77) 1, .ext 82 (.t 77) 2, .alloc 16 [(.lit (.int .i64 0)), (.lit (.int .i64 0))], .alloc 17 [(.lit (.int .i64 0)), (.lit (.int .i64 0))], .storeF 16 (.t 80) 2, .storeF 17 (.t 81) 2, .asg 18 (.t 82)])
 (.seq (.reg [.load 84 (.t 13) (some 5), .call 85 28 [(.t 84)], .cpy 83 (.t 85), .ext 86 (.t 83) 0, .ext 87 (.t 83) 1, .alloc 19 [(.lit (.int .i64 0)), (.lit (.int .i64 0))], .storeF 19 (.t 86) 2, .asg 20 (.t 87)])
 (.seq (.seq (.reg [.cpy 88 (.t 15), .bin 89 .neq (.t 88) (.c (.lit (.int .i64 0))), .cpy 90 (.t 89), .guard 90 false (some 91) (.cpy 91 (.t 18)), .guard 90 false (some 92) (.bin 92 .neq (.t 91) (.c (.lit (.int .i64 0)))), .pick 93 (.t 90) (.c (.lit (.bool true))) (.t 92), .cpy 94 (.t 93), .guard 94 false (some 95) (.cpy 95 (.t 20)), .guard 94 false (some 96) (.bin 96 .neq (.t 95) (.c (.lit (.int .i64 0)))), .pick 97 (.t 94) (.c (.lit (.bool true))) (.t 96), .cpy 98 (.t 97), .guard 98 false (some 99) (.cpy 99 (.t 14)), .guard 98 false (some 100) (.addr 100 (.t 7) 1), .guard 98 false (some 101) (.load 101 (.t 100) none), .guard 98 false (some 102) (.call 102 39 [(.t 99), (.t 101)]), .guard 98 false (some 103) (.not 103 (.t 102)), .pick 104 (.t 98) (.c (.lit (.bool true))) (.t 103)])
 (.cond (.t 104) (.seq (.reg [.asg 4 (.c (.lit (.bool false)))])
 .ret) .skip))
 (.seq (.seq (.reg [.asg 21 (.c (.lit (.int .i64 0)))])
 (.block 0 (.loop (.seq (.seq (.reg [.cpy 105 (.t 21), .addr 106 (.t 7) 1, .load 107 (.t 106) none, .len 108 (.t 107), .bin 109 .lss (.t 105) (.t 108)])
 (.cond (.t 109) .skip (.exit 0)))
 (.seq (.block 1 (.seq (.reg [.load 113 (.t 13) (some 5), .addr 114 (.t 7) 1, .load 115 (.t 114) none, .cpy 116 (.t 21), .idxS 117 (.t 115) (.t 116) 1, .load 118 (.t 117) none, .call 119 23 [(.t 113), (.t 118)], .cpy 112 (.t 119), .ext 120 (.t 112) 0, .ext 121 (.t 112) 1, .ext 122 (.t 112) 2, .cpyE 22 (.t 120), .cpyE 23 (.t 121), .asg 24 (.t 122)])
 (.seq (.reg [.cpy 123 (.t 24), .bin 124 .neq (.t 123) (.c (.lit (.int .i64 0))), .cpy 125 (.t 124), .guard 125 false (some 126) (.cpy 126 (.t 22)), .guard 125 false (some 127) (.addr 127 (.t 7) 2), .guard 125 false (some 128) (.load 128 (.t 127) none), .guard 125 false (some 129) (.cpy 129 (.t 21)), .guard 125 false (some 130) (.idxS 130 (.t 128) (.t 129) 1), .guard 125 false (some 131) (.load 131 (.t 130) none), .guard 125 false (some 132) (.call 132 40 [(.t 126), (.t 131)]), .guard 125 false (some 133) (.not 133 (.t 132)), .pick 134 (.t 125) (.c (.lit (.bool true))) (.t 133), .cpy 135 (.t 134), .guard 135 false (some 136) (.addr 136 (.t 7) 2), .guard 135 false (some 137) (.load 137 (.t 136) none), .guard 135 false (some 138) (.cpy 138 (.t 21)), .guard 135 false (some 139) (.idxS 139 (.t 137) (.t 138) 1), .guard 135 false (some 140) (.load 140 (.t 139) none), .guard 135 false (some 141) (.cpy 141 (.t 23)), .guard 135 false (some 142) (.call 142 40 [(.t 140), (.t 141)]), .guard 135 false (some 143) (.not 143 (.t 142)), .pick 144 (.t 135) (.c (.lit (.bool true))) (.t 143)])
 (.cond (.t 144) (.seq (.reg [.asg 4 (.c (.lit (.bool false)))])
 .ret) .skip))))
 (.reg [.cpy 110 (.t 21), .bin 111 .add (.t 110) (.c (.lit (.int .i64 1))), .asg 21 (.t 111)]))))))
 (.seq (.reg [.asg 25 (.c (.lit (.int .i64 0)))])
 (.seq (.seq (.reg [.asg 26 (.c (.lit (.int .i64 0)))])
 (.block 2 (.loop (.seq (.seq (.reg [.cpy 145 (.t 26), .addr 146 (.t 7) 0, .load 147 (.t 146) none, .len 148 (.t 147), .bin 149 .lss (.t 145) (.t 148)])
 (.cond (.t 149) .skip (.exit 2)))
 (.seq (.block 3 (.reg [.cpy 152 (.t 25), .addr 153 (.t 7) 0, .load 154 (.t 153) none, .cpy 155 (.t 26), .idxS 156 (.t 154) (.t 155) 1, .load 157 (.t 156) none, .bin 158 .add (.t 152) (.t 157), .asg 25 (.t 158)]))
 (.reg [.cpy 150 (.t 26), .bin 151 .add (.t 150) (.c (.lit (.int .i64 1))), .asg 26 (.t 151)]))))))
 (.seq (.reg [.addr 159 (.t 2) 0, .load 160 (.t 159) none, .addr 161 (.t 2) 3, .load 162 (.t 161) none, .bin 163 .mul (.t 160) (.t 162), .asg 27 (.t 163)])
 (.seq (.reg [.cpy 164 (.t 25), .cpy 165 (.t 27), .bin 166 .sub (.t 164) (.t 165), .load 167 (.t 16) (some 2), .call 168 41 [(.t 166), (.t 167)], .cpy 169 (.t 168), .guard 169 true (some 170) (.addr 170 (.t 7) 0), .guard 169 true (some 171) (.load 171 (.t 170) none), .guard 169 true (some 172) (.cpy 172 (.t 27)), .guard 169 true (some 173) (.call 173 42 [(.t 171), (.t 172)]), .guard 169 true (some 174) (.load 174 (.t 17) (some 2)), .guard 169 true (some 175) (.call 175 41 [(.t 173), (.t 174)]), .pick 176 (.t 169) (.t 175) (.c (.lit (.bool false))), .cpy 177 (.t 176), .guard 177 true (some 178) (.load 178 (.t 2) (some 5)), .guard 177 true (some 179) (.load 179 (.t 7) (some 3)), .guard 177 true (some 180) (.addr 180 (.t 3) 1), .guard 177 true (some 181) (.load 181 (.t 180) none), .guard 177 true (some 182) (.call 182 43 [(.t 178), (.t 179), (.t 181)]), .guard 177 true (some 183) (.load 183 (.t 19) (some 2)), .guard 177 true (some 184) (.call 184 41 [(.t 182), (.t 183)]), .pick 185 (.t 177) (.t 184) (.c (.lit (.bool false))), .cpy 186 (.t 185), .guard 186 true (some 187) (.call 187 22 []), .pick 188 (.t 186) (.t 187) (.c (.lit (.bool false))), .asg 4 (.t 188)])
 .ret))))))))))))))
def r7 : List MRes := [.tmp 4]
theorem tr7 : Try.f7.body.bind (trC Try.prog ann7 Try.f7.ntmps) = some m7 := by kernel_rfl
theorem rs7 : trRes Try.prog Try.f7.results.toList = some r7 := by kernel_rfl
theorem fn7 : isFunc Try.prog 7 = true := by kernel_rfl
end Go.Proofs.Ytbcfmfiolbcclaa

namespace Go.Proofs.Ytbcfmfiolbcclaa
open Go.Avm

theorem wrong_no {c : Case} (he : errE c = 0) (hp : pilesL c = []) : wrongS c = ([], 9) := by
  rw [wrong_eq]
  unfold wrongR wrE
  rw [if_pos (c := errE c = 0 ∧ _) ⟨he, hp⟩]
  rfl
theorem tru_none {c : Case} (he : errE c = 0) (hp : pilesL c = []) (but : Nat) : truL c but = [] := by
  rw [List.eq_nil_iff_forall_not_mem]
  intro x hx
  have := ((mem_truA (err_ok he)).1 hx).1
  rw [hp] at this; cases this

theorem true_stocks {d : Case} (hd : errE d = 0) {t : List Int × List Int} (ht : t ∈ truL d 0) {p : Nat} (hp : p < t.2.length) :
    (stocksS d t.2[p]).2.2 = 0 ∧ (∀ s ∈ (stocksS d t.2[p]).1, s ∈ (placesL d t.1).getD p []) ∧ (∀ s ∈ (placesL d t.1).getD p [], s ∈ (stocksS d t.2[p]).2.1) := by
  have h := err_ok hd
  have hn := List.ne_nil_of_mem ht
  have ho := allO_each _ _ _ ((mem_truA h).1 ht).2.1
  have hg := h.gath
  have hr := ho.2.2 _ (List.getElem_mem hp)
  have ha := at_self ho.2.1 hp
  have e : stocksOf d t.2[p] t = (placesL d t.1).getD p [] := by unfold stocksOf; rw [ha, Int.toNat_natCast]
  rw [stocks_say hd hn (by omega)]
  refine ⟨rfl, fun s hs => ?_, fun s hs => ?_⟩
  · rw [← e]; exact (mem_sure h hn).1 hs t ht
  · rw [← e] at hs; exact (mem_may h).2 ⟨t, ht, hs⟩

/-- What the law looks at, of what is told of a truth. -/
structure TrueIn (c d : Case) (t : List Int × List Int) (x : Past) : Prop where
  ords : ordersS d = (waysP d, 0)
  mem : t.2 ∈ waysP d
  le : (leftS d).e = 0
  la : (leftS d).a ≤ t.1.sum - c.run * c.gath ∧ t.1.sum - c.run * c.gath ≤ (leftS d).b
  lx : (leftS d).x ≤ used t.1 0 (c.run * c.gath) ∧ used t.1 0 (c.run * c.gath) ≤ (leftS d).y
  ye : (yearS d).e = 0
  ya : (yearS d).a ≤ yrF c x.years (placesL c t.1) ∧ yrF c x.years (placesL c t.1) ≤ (yearS d).b
  st : ∀ p (hp : p < t.2.length), (stocksS d t.2[p]).2.2 = 0 ∧ (∀ s ∈ (stocksS d t.2[p]).1, s ∈ (placesL c t.1).getD p []) ∧ (∀ s ∈ (placesL c t.1).getD p [], s ∈ (stocksS d t.2[p]).2.1)

theorem true_in {c : Case} (he : errE c = 0) {t : List Int × List Int} (ht : TruIn c t) {x : Past} (hx : x.OK) : TrueIn c (toldC c t x 0) t x := by
  have hd := told_err he ht x 0
  have hm := told_in he ht x 0
  have hn := List.ne_nil_of_mem hm
  obtain ⟨l1, l2, l3⟩ := left_say hd hn
  obtain ⟨y1, -⟩ := year_say hd hn
  have y2 := year_each hd hm
  have y3 := yr_in (err_ok hd) hx.years.1 (truL_pile (err_ok hd) hm)
  have y4 : yrF c x.years (placesL c t.1) = yrF (toldC c t x 0) x.years (placesL (toldC c t x 0) t.1) := rfl
  refine ⟨orders_say hd hn, ways_mem hm, l1, l2.all _ ⟨t, hm, rfl⟩, l3.all _ ⟨t, hm, rfl⟩, y1, ?_, fun p hp => true_stocks hd hm hp⟩
  rw [y4]
  omega

theorem paperTrue_ok (c : Case) (x : Past) (_ : c.seen.length * 16 ≤ 140737488351232) (hx : x.OK) : PCall Try.prog 7 [encCase c, encPast x] (B true) := by
  refine pcall Try.func7 tr7 rs7 fn7 (by simp [Try.ntmps7]) fun _ => ?_
  have va := valid36_ok c
  have o1 := orders17_ok c
  have aw := awake22_ok
  unfold m7
  refine cutS (fun s => s.env 2 = caseRef c ∧ s.env 3 = .ref [US x.truth, US x.years, US x.looked] ∧ s.loc = fun _ => none) ?_ ?_
  · intro k hk
    simp -implicitDefEqProofs
    exact hk _ (by simp)
  rintro s ⟨e2, e3, hl⟩
  by_cases he : errE c = 0
  case neg =>
    rw [orders_err he] at o1
    have he' : (errE c != 0) = true := by simpa using he
    simp -implicitDefEqProofs [e2]
    refine vCall_of va ?_
    simp -implicitDefEqProofs [he, e2]
    refine vCall_of o1 ?_
    simp -implicitDefEqProofs [he']
    refine vCall_of aw ?_
    simp -implicitDefEqProofs [r7]
  have hok := err_ok he
  have hany := any37_ok hok hx
  refine cutS (fun s => s.env 2 = caseRef c ∧ s.env 3 = .ref [US x.truth, US x.years, US x.looked] ∧ s.loc = fun _ => none) ?_ ?_
  · intro k hk
    simp -implicitDefEqProofs [e2]
    refine vCall_of va ?_
    simp -implicitDefEqProofs [he]
    exact hk _ (by simp [e2, e3, hl])
  clear e2 e3 hl
  rintro s ⟨e2, e3, hl⟩
  by_cases hp : pilesL c = []
  case pos =>
    have hany : PCall Try.prog 37 [encCase c, encPast x] (.tuple [nilT, B false]) := by rw [show anyAV c x = _ from if_pos hp] at hany; exact hany
    have w1 := wrong30_ok c
    rw [wrong_no he hp] at w1
    rw [orders_no he (tru_none he hp 0)] at o1
    simp -implicitDefEqProofs [e2, e3]
    refine vCall_of hany ?_
    simp -implicitDefEqProofs [hl]
    intro b7
    simp -implicitDefEqProofs [e2]
    refine vCall_of w1 ?_
    simp -implicitDefEqProofs [e2]
    refine vCall_of o1 ?_
    simp -implicitDefEqProofs
    refine vCall_of aw ?_
    simp -implicitDefEqProofs [r7]
  have hany : PCall Try.prog 37 [encCase c, encPast x] (.tuple [encT c (anyTru c x), B true]) := by rw [show anyAV c x = _ from if_neg hp] at hany; exact hany
  obtain ⟨ht1, ht2⟩ := anyTru_mem hok x hp
  obtain ⟨t, hat⟩ : ∃ t, t = anyTru c x := ⟨_, rfl⟩
  rw [← hat] at hany ht1 ht2
  have ht : TruIn c t := ⟨ht1, ht2⟩
  have hT := true_in he ht hx
  have td := told38_ok hok ht hx (bits := 0) (by omega)
  have hdR : (toldC c t x 0).run = c.run := rfl
  generalize toldC c t x 0 = d at *
  have o2 := orders17_ok d
  rw [hT.ords] at o2
  have l2 := left26_ok d
  have y2 := year28_ok d
  have on1 := one39_ok (waysP d) t.2
  rw [decide_eq_true hT.mem] at on1
  have hle := hT.le
  have hye := hT.ye
  obtain ⟨L, hL⟩ : ∃ L, L = leftS d := ⟨_, rfl⟩
  obtain ⟨Y, hY⟩ : ∃ Y, Y = yearS d := ⟨_, rfl⟩
  rw [← hL] at l2 hle
  rw [← hY] at y2 hye
  refine cutS (fun s => s.env 2 = caseRef c ∧ s.env 3 = .ref [US x.truth, US x.years, US x.looked] ∧ s.env 7 = .ref [IL t.1, IL t.2, ILL (placesL c t.1)] ∧ s.env 8 = B true ∧ s.loc = fun _ => none) ?_ ?_
  · intro k hk
    simp -implicitDefEqProofs [e2, e3]
    refine vCall_of hany ?_
    simp -implicitDefEqProofs [hl]
    intro b7
    refine hk _ ?_
    simp [e2, e3]
    funext b
    by_cases hb : b = b7 <;> simp [hb, hl]
  clear e2 e3 hl
  rintro s ⟨e2, e3, e7, e8, hl⟩
  refine cutS (fun s => s.env 2 = caseRef c ∧ s.env 3 = .ref [US x.truth, US x.years, US x.looked] ∧ s.env 7 = .ref [IL t.1, IL t.2, ILL (placesL c t.1)] ∧ s.loc = fun _ => none) ?_ ?_
  · intro k hk
    simp -implicitDefEqProofs [e8]
    exact hk _ (by simp [e2, e3, e7, hl])
  clear e2 e3 e7 e8 hl
  rintro s ⟨e2, e3, e7, hl⟩
  refine cutS (fun s => s.env 2 = caseRef c ∧ s.env 3 = .ref [US x.truth, US x.years, US x.looked] ∧ s.env 7 = .ref [IL t.1, IL t.2, ILL (placesL c t.1)] ∧ s.env 13 = caseRef d ∧ s.loc = fun _ => none) ?_ ?_
  · intro k hk
    simp -implicitDefEqProofs [e2, e3, e7]
    refine vCall_of td ?_
    simp -implicitDefEqProofs [hl]
    intro b13
    refine hk _ ?_
    simp [e2, e3, e7]
    funext b
    by_cases hb : b = b13 <;> simp [hb, hl]
  clear e2 e3 e7 hl
  rintro s ⟨e2, e3, e7, e13, hl⟩
  refine cutS (fun s => s.env 2 = caseRef c ∧ s.env 3 = .ref [US x.truth, US x.years, US x.looked] ∧ s.env 7 = .ref [IL t.1, IL t.2, ILL (placesL c t.1)] ∧ s.env 13 = caseRef d ∧ s.env 14 = ILL (waysP d) ∧ s.env 15 = I 0 ∧ s.loc = fun _ => none) ?_ ?_
  · intro k hk
    simp -implicitDefEqProofs [e13]
    refine vCall_of o2 ?_
    simp -implicitDefEqProofs
    exact hk _ (by simp [e2, e3, e7, e13, hl])
  clear e2 e3 e7 e13 hl
  rintro s ⟨e2, e3, e7, e13, e14, e15, hl⟩
  refine cutS (fun s => s.env 2 = caseRef c ∧ s.env 3 = .ref [US x.truth, US x.years, US x.looked] ∧ s.env 7 = .ref [IL t.1, IL t.2, ILL (placesL c t.1)] ∧ s.env 13 = caseRef d ∧ s.env 14 = ILL (waysP d) ∧ s.env 15 = I 0 ∧
      s.env 16 = .ref [I L.a, I L.b] ∧ s.env 17 = .ref [I L.x, I L.y] ∧ s.env 18 = I 0 ∧ s.loc = fun _ => none) ?_ ?_
  · intro k hk
    simp -implicitDefEqProofs [e13]
    refine vCall_of l2 ?_
    simp -implicitDefEqProofs [hl]
    intro b16 b17 n
    have n' : ¬ b16 = b17 := fun e => n e.symm
    simp -implicitDefEqProofs [n, n']
    refine hk _ ?_
    simp [e2, e3, e7, e13, e14, e15, hle]
    funext b
    by_cases hb : b = b17 <;> by_cases hb2 : b = b16 <;> simp [hb, hb2, hl]
  clear e2 e3 e7 e13 e14 e15 hl
  rintro s ⟨e2, e3, e7, e13, e14, e15, e16, e17, e18, hl⟩
  refine cutS (fun s => s.env 2 = caseRef c ∧ s.env 3 = .ref [US x.truth, US x.years, US x.looked] ∧ s.env 7 = .ref [IL t.1, IL t.2, ILL (placesL c t.1)] ∧ s.env 13 = caseRef d ∧ s.env 14 = ILL (waysP d) ∧ s.env 15 = I 0 ∧
      s.env 16 = .ref [I L.a, I L.b] ∧ s.env 17 = .ref [I L.x, I L.y] ∧ s.env 18 = I 0 ∧ s.env 19 = .ref [I Y.a, I Y.b] ∧ s.env 20 = I 0) ?_ ?_
  · intro k hk
    simp -implicitDefEqProofs [e13]
    refine vCall_of y2 ?_
    simp -implicitDefEqProofs [hl]
    intro b19
    exact hk _ (by simp [e2, e3, e7, e13, e14, e15, e16, e17, e18, hye])
  clear e2 e3 e7 e13 e14 e15 e16 e17 e18 hl
  rintro s ⟨e2, e3, e7, e13, e14, e15, e16, e17, e18, e19, e20⟩
  refine cutS (fun s => s.env 2 = caseRef c ∧ s.env 3 = .ref [US x.truth, US x.years, US x.looked] ∧ s.env 7 = .ref [IL t.1, IL t.2, ILL (placesL c t.1)] ∧ s.env 13 = caseRef d ∧
      s.env 16 = .ref [I L.a, I L.b] ∧ s.env 17 = .ref [I L.x, I L.y] ∧ s.env 19 = .ref [I Y.a, I Y.b]) ?_ ?_
  · intro k hk
    simp -implicitDefEqProofs [e15, e18, e20, e14, e7]
    refine vCall_of on1 ?_
    simp -implicitDefEqProofs
    exact hk _ (by simp [e2, e3, e7, e13, e16, e17, e19])
  clear e2 e3 e7 e13 e14 e15 e16 e17 e18 e19 e20
  rintro s ⟨e2, e3, e7, e13, e16, e17, e19⟩
  have hpl := placesL_len c t.1
  have hol := ht.len
  have hg := hok.gath
  refine cutS (fun s => s.env 2 = caseRef c ∧ s.env 3 = .ref [US x.truth, US x.years, US x.looked] ∧ s.env 7 = .ref [IL t.1, IL t.2, ILL (placesL c t.1)] ∧
      s.env 16 = .ref [I L.a, I L.b] ∧ s.env 17 = .ref [I L.x, I L.y] ∧ s.env 19 = .ref [I Y.a, I Y.b]) ?_ ?_
  · intro K hK
    simp -implicitDefEqProofs
    refine loop_up t.2.length (fun k s => s.env 2 = caseRef c ∧ s.env 3 = .ref [US x.truth, US x.years, US x.looked] ∧ s.env 7 = .ref [IL t.1, IL t.2, ILL (placesL c t.1)] ∧ s.env 13 = caseRef d ∧
      s.env 16 = .ref [I L.a, I L.b] ∧ s.env 17 = .ref [I L.x, I L.y] ∧ s.env 19 = .ref [I Y.a, I Y.b] ∧ s.env 21 = I k) ?_ ?_
    · simp [e2, e3, e7, e13, e16, e17, e19]
    clear e2 e3 e7 e13 e16 e17 e19
    rintro k s hk ⟨e2, e3, e7, e13, e16, e17, e19, e21⟩
    simp -implicitDefEqProofs [e7, e21]
    refine cond_dec (fun hlt => ?_) (fun hge => ?_)
    · have hlt : k < t.2.length := by omega
      have st := stocks23_ok d t.2[k]
      obtain ⟨hs1, hs2, hs3⟩ := hT.st k hlt
      rw [hs1] at st
      have hkp : k < (placesL c t.1).length := by omega
      rw [show (placesL c t.1).getD k [] = (placesL c t.1)[k] by simp [hkp]] at hs2 hs3
      have p1 := part40_ok (stocksS d t.2[k]).1 (placesL c t.1)[k]
      have p2 := part40_ok (placesL c t.1)[k] (stocksS d t.2[k]).2.1
      rw [decide_eq_true hs2] at p1
      rw [decide_eq_true hs3] at p2
      generalize stocksS d t.2[k] = S at *
      simp -implicitDefEqProofs [e7, e13, e21, hlt]
      refine vCall_of st ?_
      simp -implicitDefEqProofs [e7, e21, hkp]
      refine vCall_of p1 ?_
      simp -implicitDefEqProofs [e7, e21, hkp]
      refine vCall_of p2 ?_
      simp -implicitDefEqProofs [e21]
      refine ⟨i64 (by omega) (by omega), round_ok hlt ?_⟩
      simp [e2, e3, e7, e13, e16, e17, e19]
    · obtain rfl : k = t.2.length := by omega
      simp -implicitDefEqProofs
      exact hK _ (by simp [e2, e3, e7, e16, e17, e19])
  clear e2 e3 e7 e13 e16 e17 e19
  rintro s ⟨e2, e3, e7, e16, e17, e19⟩
  have hpo := pilesL_ok hok ht.pile
  have hpln := hpo.len
  have hreams := hok.reams
  have hsum := fun k => hpo.sum hok k
  refine cutS (fun s => s.env 2 = caseRef c ∧ s.env 3 = .ref [US x.truth, US x.years, US x.looked] ∧ s.env 7 = .ref [IL t.1, IL t.2, ILL (placesL c t.1)] ∧
      s.env 16 = .ref [I L.a, I L.b] ∧ s.env 17 = .ref [I L.x, I L.y] ∧ s.env 19 = .ref [I Y.a, I Y.b] ∧ s.env 25 = I 0) ?_ ?_
  · intro k hk
    simp -implicitDefEqProofs
    exact hk _ (by simp [e2, e3, e7, e16, e17, e19])
  clear e2 e3 e7 e16 e17 e19
  rintro s ⟨e2, e3, e7, e16, e17, e19, e25⟩
  refine cutS (fun s => s.env 2 = caseRef c ∧ s.env 3 = .ref [US x.truth, US x.years, US x.looked] ∧ s.env 7 = .ref [IL t.1, IL t.2, ILL (placesL c t.1)] ∧
      s.env 16 = .ref [I L.a, I L.b] ∧ s.env 17 = .ref [I L.x, I L.y] ∧ s.env 19 = .ref [I Y.a, I Y.b] ∧ s.env 25 = I t.1.sum) ?_ ?_
  · intro K hK
    simp -implicitDefEqProofs
    refine loop_up t.1.length (fun k s => s.env 2 = caseRef c ∧ s.env 3 = .ref [US x.truth, US x.years, US x.looked] ∧ s.env 7 = .ref [IL t.1, IL t.2, ILL (placesL c t.1)] ∧
      s.env 16 = .ref [I L.a, I L.b] ∧ s.env 17 = .ref [I L.x, I L.y] ∧ s.env 19 = .ref [I Y.a, I Y.b] ∧ s.env 25 = I (t.1.take k).sum ∧ s.env 26 = I k) ?_ ?_
    · simp [e2, e3, e7, e16, e17, e19, e25]
    clear e2 e3 e7 e16 e17 e19 e25
    rintro k s hk ⟨e2, e3, e7, e16, e17, e19, e25, e26⟩
    simp -implicitDefEqProofs [e7, e26]
    refine cond_dec (fun hlt => ?_) (fun hge => ?_)
    · have hlt : k < t.1.length := by omega
      have hs1 : (t.1.take (k + 1)).sum = (t.1.take k).sum + t.1[k] := by rw [take_snoc hlt, List.sum_append]; simp
      have hb := hsum (k + 1)
      simp -implicitDefEqProofs [e7, e25, e26, hlt]
      refine ⟨i64 (by omega) (by omega), i64 (by omega) (by omega), round_ok hlt ?_⟩
      simp [e2, e3, e7, e16, e17, e19, hs1]
    · obtain rfl : k = t.1.length := by omega
      rw [List.take_length] at e25
      simp -implicitDefEqProofs
      exact hK _ (by simp [e2, e3, e7, e16, e17, e19, e25])
  clear e2 e3 e7 e16 e17 e19 e25
  rintro s ⟨e2, e3, e7, e16, e17, e19, e25⟩
  have hrg := run_gath hok
  have hla := hT.la
  have hlx := hT.lx
  have hya := hT.ya
  rw [← hL] at hla hlx
  rw [← hY] at hya
  have hs := hsum t.1.length
  rw [List.take_length] at hs
  have u1 := used_ok t.1 (c.run * c.gath) (fun k => i64 (by have := hsum k; omega) (by have := hsum k; omega))
  have la := latest43_ok hok t hx.years.1 hx.years.2
  have i1 := inside_ok (t.1.sum - c.run * c.gath) L.a L.b
  have i2 := inside_ok (used t.1 0 (c.run * c.gath)) L.x L.y
  have i3 := inside_ok (yrF c x.years (placesL c t.1)) Y.a Y.b
  rw [decide_eq_true hla] at i1
  rw [decide_eq_true hlx] at i2
  rw [decide_eq_true hya] at i3
  obtain ⟨RG, hRG⟩ : ∃ RG, RG = c.run * c.gath := ⟨_, rfl⟩
  rw [← hRG] at hrg hla hlx u1 i1 i2
  generalize used t.1 0 RG = U at *
  generalize yrF c x.years (placesL c t.1) = YF at *
  refine cutS (fun s => s.env 2 = caseRef c ∧ s.env 3 = .ref [US x.truth, US x.years, US x.looked] ∧ s.env 7 = .ref [IL t.1, IL t.2, ILL (placesL c t.1)] ∧
      s.env 16 = .ref [I L.a, I L.b] ∧ s.env 17 = .ref [I L.x, I L.y] ∧ s.env 19 = .ref [I Y.a, I Y.b] ∧ s.env 25 = I t.1.sum ∧ s.env 27 = I RG) ?_ ?_
  · intro k hk
    simp -implicitDefEqProofs [e2, ← hRG]
    refine ⟨i64 (by omega) (by omega), ?_⟩
    exact hk _ (by simp [e2, e3, e7, e16, e17, e19, e25])
  clear e2 e3 e7 e16 e17 e19 e25
  rintro s ⟨e2, e3, e7, e16, e17, e19, e25, e27⟩
  simp -implicitDefEqProofs [e25, e27, e16]
  refine ⟨i64 (by omega) (by omega), vCall_of i1 ?_⟩
  simp -implicitDefEqProofs [e7, e27]
  refine vCall_of u1 ?_
  simp -implicitDefEqProofs [e17]
  refine vCall_of i2 ?_
  simp -implicitDefEqProofs [e2, e3, e7]
  refine vCall_of la ?_
  simp -implicitDefEqProofs [e19]
  refine vCall_of i3 ?_
  simp -implicitDefEqProofs
  refine vCall_of aw ?_
  simp -implicitDefEqProofs [r7]
end Go.Proofs.Ytbcfmfiolbcclaa

