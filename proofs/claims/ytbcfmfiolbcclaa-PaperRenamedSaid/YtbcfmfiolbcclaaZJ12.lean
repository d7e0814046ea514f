/- The resolved code of some functions, written by program, each held against the function by the kernel. The law PaperRenamed: its contract. -/
import Derived.Test.YtbcfmfiolbcclaaZI
import Derived.KernelRfl
import Derived.Test.YtbcfmfiolbcclaaZL
namespace Go.Proofs.Ytbcfmfiolbcclaa
open Go.Avm

/- duodecimo/duodecimolaw06.PaperRenamed -/
def ann12 : Ann := { muts := [], nilsz := [(10, 1), (1000027, 2)], oid := [(27, 4004), (56, 4004)], frz := [12, 13, 15, 16, 18, 20], zero := [(3, [(.lit (.int .i64 0)), (.slice 3 [] 4001), (.slice 3 [] 4002), (.lit (.int .i64 0)), (.slice 2 [] 4004)]), (12, [(.lit (.int .i64 0)), (.lit (.int .i64 0))]), (13, [(.lit (.int .i64 0)), (.lit (.int .i64 0))]), (15, [(.lit (.int .i64 0)), (.lit (.int .i64 0))]), (16, [(.lit (.int .i64 0)), (.lit (.int .i64 0))]), (18, [(.lit (.int .i64 0)), (.lit (.int .i64 0))]), (20, [(.lit (.int .i64 0)), (.lit (.int .i64 0))]), (54, [(.lit (.int .i64 0)), (.lit (.int .i64 0))]), (97, [(.lit (.int .i64 0))])], ord := [(8, [0, 1, 2, 3, 4, 5, 6, 7, 8, 9, 10, 11, 12, 13, 14, 15, 16, 17, 18, 19, 20, 21, 22]), (20, [0, 1, 2, 3, 4, 5, 6, 7, 8, 9, 10, 11, 12, 13, 14])], ap := [(56, [])], own := [10], yl := [], fz := [], imm := [], ic := [], cl := [], ylL := [], rl := [] }
def m12 : MCode := (.seq (.reg [.boxI 1 (.t 0) 5, .asg 2 (.c (.lit (.bool false)))])
 (.seq (.seq (.reg [.load 22 (.t 1) (some 5), .call 23 36 [(.t 22)], .not 24 (.t 23)])
 (.cond (.t 24) (.seq (.reg [.call 25 22 [], .asg 2 (.t 25)])
 .ret) .skip))
 (.seq (.reg [.load 26 (.t 1) (some 5), .alloc 3 [(.lit (.int .i64 0)), (.slice 3 [] 4001), (.slice 3 [] 4002), (.lit (.int .i64 0)), (.slice 2 [] 4004)], .store (.t 3) (.t 26) 5 0])
 (.seq (.reg [.addr 27 (.t 3) 4, .storeNil (.t 27) 2 4004])
 (.seq (.seq (.reg [.asg 4 (.c (.lit (.int .i64 0)))])
 (.block 0 (.loop (.seq (.seq (.reg [.cpy 28 (.t 4), .addr 29 (.t 1) 4, .load 30 (.t 29) none, .len 31 (.t 30), .bin 32 .lss (.t 28) (.t 31)])
 (.cond (.t 32) .skip (.exit 0)))
 (.seq (.block 1 (.reg [.addr 35 (.t 3) 4, .load 36 (.t 35) none, .addr 37 (.t 1) 3, .load 38 (.t 37) none, .bin 39 .sub (.t 38) (.c (.lit (.int .i64 1))), .addr 40 (.t 1) 4, .load 41 (.t 40) none, .cpy 42 (.t 4), .idxS 43 (.t 41) (.t 42) 2, .addr 44 (.t 43) 0, .load 45 (.t 44) none, .bin 46 .sub (.t 39) (.t 45), .addr 47 (.t 1) 4, .load 48 (.t 47) none, .cpy 49 (.t 4), .idxS 50 (.t 48) (.t 49) 2, .addr 51 (.t 50) 1, .load 52 (.t 51) none, .call 53 35 [(.t 46), (.t 52)], .mkS 54 1 2 [(.lit (.int .i64 0)), (.lit (.int .i64 0))] [(0, (.t 53))], .app 55 (.t 36) (.t 54) 2 16, .addr 56 (.t 3) 4, .apart [] (.t 56) (.store (.t 56) (.t 55) 1 4004)]))
 (.reg [.cpy 33 (.t 4), .bin 34 .add (.t 33) (.c (.lit (.int .i64 1))), .asg 4 (.t 34)]))))))
 (.seq (.reg [.load 58 (.t 1) (some 5), .call 59 17 [(.t 58)], .cpy 57 (.t 59), .ext 60 (.t 57) 0, .ext 61 (.t 57) 1, .asg 5 (.t 60), .asg 6 (.t 61)])
 (.seq (.reg [.load 63 (.t 3) (some 5), .call 64 17 [(.t 63)], .cpy 62 (.t 64), .ext 65 (.t 62) 0, .ext 66 (.t 62) 1, .asg 7 (.t 65), .asg 8 (.t 66)])
 (.seq (.seq (.reg [.cpy 67 (.t 6), .cpy 68 (.t 8), .bin 69 .neq (.t 67) (.t 68)])
 (.cond (.t 69) (.seq (.reg [.asg 2 (.c (.lit (.bool false)))])
 .ret) .skip))
 (.seq (.seq (.reg [.asg 9 (.c (.lit (.int .i64 0)))])
 (.block 2 (.loop (.seq (.seq (.reg [.cpy 70 (.t 9), .cpy 71 (.t 5), .len 72 (.t 71), .bin 73 .lss (.t 70) (.t 72)])
 (.cond (.t 73) .skip (.exit 2)))
 (.seq (.block 3 (.seq (.reg [.asgNil 10 1])
 (.seq (.seq (.reg [.asg 11 (.c (.lit (.int .i64 0)))])
 (.block 4 (.loop (.seq (.seq (.reg [.cpy 76 (.t 11), .cpy 77 (.t 5), .cpy 78 (.t 9), .idxS 79 (.t 77) (.t 78) 1, .load 80 (.t 79) none, .len 81 (.t 80), .bin 82 .lss (.t 76) (.t 81)])
 (.cond (.t 82) .skip (.exit 4)))
 (.seq (.block 5 (.reg [.cpy 85 (.t 10), .addr 86 (.t 1) 3, .load 87 (.t 86) none, .bin 88 .sub (.t 87) (.c (.lit (.int .i64 1))), .cpy 89 (.t 5), .cpy 90 (.t 9), .idxS 91 (.t 89) (.t 90) 1, .load 92 (.t 91) none, .cpy 93 (.t 11), .idxS 94 (.t 92) (.t 93) 1, .load 95 (.t 94) none, .bin 96 .sub (.t 88) (.t 95), .mkS 97 1 1 [(.lit (.int .i64 0))] [(0, (.t 96))], .app 98 (.t 85) (.t 97) 1 8, .asg 10 (.t 98)]))
 (.reg [.cpy 83 (.t 11), .bin 84 .add (.t 83) (.c (.lit (.int .i64 1))), .asg 11 (.t 84)]))))))
 (.seq (.reg [.cpy 99 (.t 7), .cpy 100 (.t 10), .call 101 39 [(.t 99), (.t 100)], .not 102 (.t 101)])
 (.cond (.t 102) (.seq (.reg [.asg 2 (.c (.lit (.bool false)))])
 .ret) .skip)))))
 (.reg [.cpy 74 (.t 9), .bin 75 .add (.t 74) (.c (.lit (.int .i64 1))), .asg 9 (.t 75)]))))))
 (.seq (.reg [.load 104 (.t 1) (some 5), .call 105 26 [(.t 104)], .cpy 103 (.t 105), .ext 106 (.t 103) 0, .ext 107 (.t 103) 1, .ext 108 (.t 103) 2, .alloc 12 [(.lit (.int .i64 0)), (.lit (.int .i64 0))], .alloc 13 [(.lit (.int .i64 0)), (.lit (.int .i64 0))], .storeF 12 (.t 106) 2, .storeF 13 (.t 107) 2, .asg 14 (.t 108)])
 (.seq (.reg [.load 110 (.t 3) (some 5), .call 111 26 [(.t 110)], .cpy 109 (.t 111), .ext 112 (.t 109) 0, .ext 113 (.t 109) 1, .ext 114 (.t 109) 2, .alloc 15 [(.lit (.int .i64 0)), (.lit (.int .i64 0))], .alloc 16 [(.lit (.int .i64 0)), (.lit (.int .i64 0))], .storeF 15 (.t 112) 2, .storeF 16 (.t 113) 2, .asg 17 (.t 114)])
 (.seq (.reg [.load 116 (.t 1) (some 5), .call 117 28 [(.t 116)], .cpy 115 (.t 117), .ext 118 (.t 115) 0, .ext 119 (.t 115) 1, .alloc 18 [(.lit (.int .i64 0)), (.lit (.int .i64 0))], .storeF 18 (.t 118) 2, .asg 19 (.t 119)])
 (.seq (.reg [.load 121 (.t 3) (some 5), .call 122 28 [(.t 121)], .cpy 120 (.t 122), .ext 123 (.t 120) 0, .ext 124 (.t 120) 1, .alloc 20 [(.lit (.int .i64 0)), (.lit (.int .i64 0))], .storeF 20 (.t 123) 2, .asg 21 (.t 124)])
 (.seq (.reg [.cpy 125 (.t 5), .len 126 (.t 125), .cpy 127 (.t 7), .len 128 (.t 127), .bin 129 .eql (.t 126) (.t 128), .cpy 130 (.t 129), .guard 130 true (some 131) (.load 131 (.t 12) (some 2)), .guard 130 true (some 132) (.load 132 (.t 15) (some 2)), .guard 130 true (some 133) (.binA 133 false [false, false] (.t 131) (.t 132)), .pick 134 (.t 130) (.t 133) (.c (.lit (.bool false))), .cpy 135 (.t 134), .guard 135 true (some 136) (.load 136 (.t 13) (some 2)), .guard 135 true (some 137) (.load 137 (.t 16) (some 2)), .guard 135 true (some 138) (.binA 138 false [false, false] (.t 136) (.t 137)), .pick 139 (.t 135) (.t 138) (.c (.lit (.bool false))), .cpy 140 (.t 139), .guard 140 true (some 141) (.cpy 141 (.t 14)), .guard 140 true (some 142) (.cpy 142 (.t 17)), .guard 140 true (some 143) (.bin 143 .eql (.t 141) (.t 142)), .pick 144 (.t 140) (.t 143) (.c (.lit (.bool false))), .cpy 145 (.t 144), .guard 145 true (some 146) (.load 146 (.t 18) (some 2)), .guard 145 true (some 147) (.load 147 (.t 20) (some 2)), .guard 145 true (some 148) (.binA 148 false [false, false] (.t 146) (.t 147)), .pick 149 (.t 145) (.t 148) (.c (.lit (.bool false))), .cpy 150 (.t 149), .guard 150 true (some 151) (.cpy 151 (.t 19)), .guard 150 true (some 152) (.cpy 152 (.t 21)), .guard 150 true (some 153) (.bin 153 .eql (.t 151) (.t 152)), .pick 154 (.t 150) (.t 153) (.c (.lit (.bool false))), .cpy 155 (.t 154), .guard 155 true (some 156) (.call 156 22 []), .pick 157 (.t 155) (.t 156) (.c (.lit (.bool false))), .asg 2 (.t 157)])
 .ret))))))))))))))
def r12 : List MRes := [.tmp 2]
theorem tr12 : Try.f12.body.bind (trC Try.prog ann12 Try.f12.ntmps) = some m12 := by kernel_rfl
theorem rs12 : trRes Try.prog Try.f12.results.toList = some r12 := by kernel_rfl
theorem fn12 : isFunc Try.prog 12 = true := by kernel_rfl
end Go.Proofs.Ytbcfmfiolbcclaa

namespace Go.Proofs.Ytbcfmfiolbcclaa
open Go.Avm

theorem flip_take (g : Int) {o : List Int} {k : Nat} (hk : k < o.length) : flipO g (o.take (k + 1)) = flipO g (o.take k) ++ [g - 1 - o[k]] := by
  unfold flipO
  rw [take_snoc hk, List.map_append]
  rfl

theorem paperRenamed_ok (c : Case) (_ : c.seen.length * 16 ≤ 140737488351232) : PCall Try.prog 12 [encCase c] (B true) := by
  refine pcall Try.func12 tr12 rs12 fn12 (by simp [Try.ntmps12]) fun _ => ?_
  have va := valid36_ok c
  have aw := awake22_ok
  unfold m12
  refine cutS (fun s => s.env 1 = caseRef c ∧ s.loc = fun _ => none) ?_ ?_
  · intro k hk
    simp -implicitDefEqProofs
    exact hk _ (by simp)
  rintro s ⟨e1, hl⟩
  by_cases he : errE c = 0
  case neg =>
    simp -implicitDefEqProofs [e1]
    refine vCall_of va ?_
    simp -implicitDefEqProofs [he]
    refine vCall_of aw ?_
    simp -implicitDefEqProofs [r12]
  have hok := err_ok he
  have h8 := (checkS_zero he).2.1
  have hF := flip_in he
  have hd := flip_err he
  refine cutS (fun s => s.env 1 = caseRef c ∧ s.loc = fun _ => none) ?_ ?_
  · intro k hk
    simp -implicitDefEqProofs [e1]
    refine vCall_of va ?_
    simp -implicitDefEqProofs [he]
    exact hk _ (by simp [e1, hl])
  clear e1 hl
  rintro s ⟨e1, hl⟩
  have hg := hok.gath
  refine cutS (fun s => s.env 1 = caseRef c ∧ ∃ b3, s.env 3 = .mref b3 0 ∧ s.loc b3 = some [I c.run, .slice 3 (c.stocks.map encStock) 0, .slice 3 (c.reams.map encReam) 0, I c.gath, .slice 2 (c.seen.map encSeen) 0]) ?_ ?_
  · intro k hk
    simp -implicitDefEqProofs [e1, hl]
    intro b3
    exact hk _ (by simp [e1])
  clear e1 hl
  rintro s ⟨e1, b3, e3, l3⟩
  refine cutS (fun s => s.env 1 = caseRef c ∧ s.env 3 = .mref b3 0 ∧ s.loc b3 = some [I c.run, .slice 3 (c.stocks.map encStock) 0, .slice 3 (c.reams.map encReam) 0, I c.gath, .slice 2 [] 4004]) ?_ ?_
  · intro k hk
    simp -implicitDefEqProofs [e3, l3]
    exact hk _ (by simp [e1, e3])
  clear e1 e3 l3
  rintro s ⟨e1, e3, l3⟩
  obtain ⟨F, hF0, hFs, hFe, hFl⟩ : ∃ F : Nat → List (Int × Int), F 0 = [] ∧ (∀ k (hk : k < c.seen.length), F (k + 1) = F k ++ [(c.gath - 1 - c.seen[k].1, c.seen[k].2)]) ∧ F c.seen.length = (flipC c).seen ∧ ∀ k, (F k).length ≤ k :=
    ⟨fun k => (c.seen.take k).map fun x => (c.gath - 1 - x.1, x.2), rfl, fun k hk => by simp only; rw [take_snoc hk, List.map_append]; rfl, by simp only; rw [List.take_length]; rfl, fun k => by rw [List.length_map, List.length_take]; omega⟩
  refine cutS (fun s => s.env 1 = caseRef c ∧ s.env 3 = .mref b3 0 ∧ s.loc b3 = some [I c.run, .slice 3 (c.stocks.map encStock) 0, .slice 3 (c.reams.map encReam) 0, I c.gath, .slice 2 ((flipC c).seen.map encSeen) 4004]) ?_ ?_
  · intro K hK
    simp -implicitDefEqProofs
    refine loop_up c.seen.length (fun k s => s.env 1 = caseRef c ∧ s.env 3 = .mref b3 0 ∧ s.env 4 = I k ∧ s.loc b3 = some [I c.run, .slice 3 (c.stocks.map encStock) 0, .slice 3 (c.reams.map encReam) 0, I c.gath, .slice 2 ((F k).map encSeen) 4004]) ?_ ?_
    · simp [e1, e3, l3, hF0]
    clear e1 e3 l3
    rintro k s hk ⟨e1, e3, e4, l3⟩
    simp -implicitDefEqProofs [e1, e4]
    refine cond_dec (fun hlt => ?_) (fun hge => ?_)
    · have hlt : k < c.seen.length := by omega
      have hse := hok.seen _ (List.getElem_mem hlt)
      have htk := hFs k hlt
      have hFk := hFl k
      have s1 := seen35_ok (c.gath - 1 - c.seen[k].1) c.seen[k].2
      generalize hx : c.seen[k] = x at *
      simp -implicitDefEqProofs [e1, e3, e4, l3, hlt, hx]
      refine ⟨i64 (by omega) (by omega), i64 (by omega) (by omega), ?_⟩
      refine vCall_of s1 ?_
      simp -implicitDefEqProofs [e3, e4, l3]
      refine ⟨by omega, by omega, i64 (by omega) (by omega), round_ok hlt ?_⟩
      simp [e1, e3, htk]
    · obtain rfl : k = c.seen.length := by omega
      rw [hFe] at l3
      simp -implicitDefEqProofs
      exact hK _ (by simp [e1, e3, l3])
  clear e1 e3 l3
  rintro s ⟨e1, e3, l3⟩
  obtain ⟨ds, hds⟩ : ∃ ds, ds = (flipC c).seen := ⟨_, rfl⟩
  have hdc : encCase (flipC c) = .agg [I c.run, .slice 3 (c.stocks.map encStock) 0, .slice 3 (c.reams.map encReam) 0, I c.gath, .slice 2 (ds.map encSeen) 0] := by rw [hds]; rfl
  rw [← hds] at l3
  have o1 := orders17_ok c
  have o2 := orders17_ok (flipC c)
  have l1 := left26_ok c
  have l2 := left26_ok (flipC c)
  have y1 := year28_ok c
  have y2 := year28_ok (flipC c)
  rw [← hF.left] at l2
  rw [← hF.year] at y2
  rw [← hF.oe] at o2
  have hlen := hF.len
  have heach := hF.each
  rw [hdc] at o2 l2 y2
  have hol : (ordersS c).1.length ≤ 3125 := by
    by_cases hn : truL c 0 = []
    · rw [orders_no he hn]; simp
    · rw [orders_say he hn]; exact waysP_len hok
  have hoo : ∀ o ∈ (ordersS c).1, o.length ≤ 5 ∧ ∀ x ∈ o, 0 ≤ x ∧ x < c.gath := by
    intro o ho
    by_cases hn : truL c 0 = []
    · rw [orders_no he hn] at ho; cases ho
    · rw [orders_say he hn] at ho
      have := allO_each _ _ _ (List.mem_filter.1 ho).1
      refine ⟨by omega, fun x hx => ?_⟩
      have := this.2.2 x hx
      omega
  clear hF hd hdc hds hFe hFs hF0 hFl
  generalize (ordersS c).2 = E at *
  generalize (ordersS c).1 = W at *
  generalize (ordersS (flipC c)).1 = W' at *
  generalize leftS c = L at *
  generalize yearS c = Y at *
  refine cutS (fun s => s.env 1 = caseRef c ∧ s.env 3 = .mref b3 0 ∧ s.env 5 = ILL W ∧ s.env 6 = I E ∧ s.loc b3 = some [I c.run, .slice 3 (c.stocks.map encStock) 0, .slice 3 (c.reams.map encReam) 0, I c.gath, .slice 2 (ds.map encSeen) 4004]) ?_ ?_
  · intro k hk
    simp -implicitDefEqProofs [e1]
    refine vCall_of o1 ?_
    simp -implicitDefEqProofs
    exact hk _ (by simp [e1, e3, l3])
  clear e1 e3 l3
  rintro s ⟨e1, e3, e5, e6, l3⟩
  refine cutS (fun s => s.env 1 = caseRef c ∧ s.env 3 = .mref b3 0 ∧ s.env 5 = ILL W ∧ s.env 6 = I E ∧ s.env 7 = ILL W' ∧ s.env 8 = I E ∧ s.loc b3 = some [I c.run, .slice 3 (c.stocks.map encStock) 0, .slice 3 (c.reams.map encReam) 0, I c.gath, .slice 2 (ds.map encSeen) 4004]) ?_ ?_
  · intro k hk
    simp -implicitDefEqProofs [e3, l3]
    refine vCall_of o2 ?_
    simp -implicitDefEqProofs
    exact hk _ (by simp [e1, e3, e5, e6, l3])
  clear e1 e3 e5 e6 l3
  rintro s ⟨e1, e3, e5, e6, e7, e8, l3⟩
  refine cutS (fun s => s.env 1 = caseRef c ∧ s.env 3 = .mref b3 0 ∧ s.env 5 = ILL W ∧ s.env 7 = ILL W' ∧ s.loc b3 = some [I c.run, .slice 3 (c.stocks.map encStock) 0, .slice 3 (c.reams.map encReam) 0, I c.gath, .slice 2 (ds.map encSeen) 4004]) ?_ ?_
  · intro k hk
    simp -implicitDefEqProofs [e6, e8]
    exact hk _ (by simp [e1, e3, e5, e7, l3])
  clear e1 e3 e5 e6 e7 e8 l3
  rintro s ⟨e1, e3, e5, e7, l3⟩
  refine cutS (fun s => s.env 1 = caseRef c ∧ s.env 3 = .mref b3 0 ∧ s.env 5 = ILL W ∧ s.env 7 = ILL W' ∧ ∃ q, (q = 0 ∨ q = 4004) ∧ s.loc b3 = some [I c.run, .slice 3 (c.stocks.map encStock) 0, .slice 3 (c.reams.map encReam) 0, I c.gath, .slice 2 (ds.map encSeen) q]) ?_ ?_
  · intro K hK
    simp -implicitDefEqProofs
    refine loop_up W.length (fun k s => s.env 1 = caseRef c ∧ s.env 3 = .mref b3 0 ∧ s.env 5 = ILL W ∧ s.env 7 = ILL W' ∧ s.env 9 = I k ∧ s.loc b3 = some [I c.run, .slice 3 (c.stocks.map encStock) 0, .slice 3 (c.reams.map encReam) 0, I c.gath, .slice 2 (ds.map encSeen) 4004]) ?_ ?_
    · simp [e1, e3, e5, e7, l3]
    clear e1 e3 e5 e7 l3
    rintro k s hk ⟨e1, e3, e5, e7, e9, l3⟩
    simp -implicitDefEqProofs [e5, e9]
    refine cond_dec (fun hlt => ?_) (fun hge => ?_)
    · have hlt : k < W.length := by omega
      have hm := List.getElem_mem hlt
      obtain ⟨ho1, ho2⟩ := hoo _ hm
      have on := one39_ok W' (flipO c.gath W[k])
      rw [decide_eq_true (heach _ hm)] at on
      generalize hwk : W[k] = o at *
      have h0 : flipO c.gath (o.take 0) = [] := rfl
      simp -implicitDefEqProofs [e5, e9]
      refine loop_up o.length (fun j s => s.env 1 = caseRef c ∧ s.env 3 = .mref b3 0 ∧ s.env 5 = ILL W ∧ s.env 7 = ILL W' ∧ s.env 9 = I k ∧ s.env 10 = .slice 1 ((flipO c.gath (o.take j)).map I) 11 ∧ s.env 11 = I j ∧ s.loc b3 = some [I c.run, .slice 3 (c.stocks.map encStock) 0, .slice 3 (c.reams.map encReam) 0, I c.gath, .slice 2 (ds.map encSeen) 4004]) ?_ ?_
      · simp [e1, e3, e5, e7, e9, l3, flipO]
      clear e1 e3 e5 e7 e9 l3
      rintro j s hj ⟨e1, e3, e5, e7, e9, e10, e11, l3⟩
      simp -implicitDefEqProofs [e5, e9, e11, hlt, hwk]
      refine cond_dec (fun hlt2 => ?_) (fun hge2 => ?_)
      · have hlt2 : j < o.length := by omega
        have hft := flip_take c.gath hlt2
        have hx := ho2 _ (List.getElem_mem hlt2)
        have hfl : (flipO c.gath (o.take j)).length ≤ j := by simp [flipO]; omega
        simp -implicitDefEqProofs [e1, e5, e9, e10, e11, hlt, hwk, hlt2]
        refine ⟨i64 (by omega) (by omega), i64 (by omega) (by omega), by omega, by omega, i64 (by omega) (by omega), round_ok hlt2 ?_⟩
        simp [e1, e3, e5, e7, e9, l3, hft]
      · obtain rfl : j = o.length := by omega
        rw [List.take_length] at e10
        simp -implicitDefEqProofs [e7, e10]
        refine vCall_of on ?_
        simp -implicitDefEqProofs [e9]
        refine ⟨i64 (by omega) (by omega), round_ok hlt ?_⟩
        simp [e1, e3, e5, e7, l3]
    · obtain rfl : k = W.length := by omega
      simp -implicitDefEqProofs
      exact hK _ (by simp [e1, e3, e5, e7, l3])
  clear e1 e3 e5 e7 l3
  rintro s ⟨e1, e3, e5, e7, q, hq, l3⟩
  refine cutS (fun s => s.env 1 = caseRef c ∧ s.env 3 = .mref b3 0 ∧ s.env 5 = ILL W ∧ s.env 7 = ILL W' ∧ s.env 12 = .ref [I L.a, I L.b] ∧ s.env 13 = .ref [I L.x, I L.y] ∧ s.env 14 = I L.e ∧ s.loc b3 = some [I c.run, .slice 3 (c.stocks.map encStock) 0, .slice 3 (c.reams.map encReam) 0, I c.gath, .slice 2 (ds.map encSeen) q]) ?_ ?_
  · intro k hk
    simp -implicitDefEqProofs [e1]
    refine vCall_of l1 ?_
    simp -implicitDefEqProofs
    intro b12 h12 b13 h13
    have n1 : ¬ b12 = b3 := by rintro rfl; rw [l3] at h12; cases h12
    have n2 : ¬ b13 = b12 := by rintro rfl; simp at h13
    have n3 : ¬ b13 = b3 := by rintro rfl; simp [n2, l3] at h13
    clear h13
    have n1' : ¬ b3 = b12 := fun e => n1 e.symm
    have n2' : ¬ b12 = b13 := fun e => n2 e.symm
    have n3' : ¬ b3 = b13 := fun e => n3 e.symm
    simp -implicitDefEqProofs [n2, n2']
    exact hk _ (by simp [e1, e3, e5, e7, l3, n1', n3'])
  clear e1 e3 e5 e7 l3
  rintro s ⟨e1, e3, e5, e7, e12, e13, e14, l3⟩
  refine cutS (fun s => s.env 1 = caseRef c ∧ s.env 3 = .mref b3 0 ∧ s.env 5 = ILL W ∧ s.env 7 = ILL W' ∧ s.env 12 = .ref [I L.a, I L.b] ∧ s.env 13 = .ref [I L.x, I L.y] ∧ s.env 14 = I L.e ∧ s.env 15 = .ref [I L.a, I L.b] ∧ s.env 16 = .ref [I L.x, I L.y] ∧ s.env 17 = I L.e ∧ s.loc b3 = some [I c.run, .slice 3 (c.stocks.map encStock) 0, .slice 3 (c.reams.map encReam) 0, I c.gath, .slice 2 (ds.map encSeen) q]) ?_ ?_
  · intro k hk
    simp -implicitDefEqProofs [e3, l3]
    refine vCall_of l2 ?_
    simp -implicitDefEqProofs
    intro b12 h12 b13 h13
    have n1 : ¬ b12 = b3 := by rintro rfl; rw [l3] at h12; cases h12
    have n2 : ¬ b13 = b12 := by rintro rfl; simp at h13
    have n3 : ¬ b13 = b3 := by rintro rfl; simp [n2, l3] at h13
    clear h13
    have n1' : ¬ b3 = b12 := fun e => n1 e.symm
    have n2' : ¬ b12 = b13 := fun e => n2 e.symm
    have n3' : ¬ b3 = b13 := fun e => n3 e.symm
    simp -implicitDefEqProofs [n2, n2']
    exact hk _ (by simp [e1, e3, e5, e7, e12, e13, e14, l3, n1', n3'])
  clear e1 e3 e5 e7 e12 e13 e14 l3
  rintro s ⟨e1, e3, e5, e7, e12, e13, e14, e15, e16, e17, l3⟩
  refine cutS (fun s => s.env 3 = .mref b3 0 ∧ s.env 5 = ILL W ∧ s.env 7 = ILL W' ∧ s.env 12 = .ref [I L.a, I L.b] ∧ s.env 13 = .ref [I L.x, I L.y] ∧ s.env 14 = I L.e ∧ s.env 15 = .ref [I L.a, I L.b] ∧ s.env 16 = .ref [I L.x, I L.y] ∧ s.env 17 = I L.e ∧ s.env 18 = .ref [I Y.a, I Y.b] ∧ s.env 19 = I Y.e ∧ s.loc b3 = some [I c.run, .slice 3 (c.stocks.map encStock) 0, .slice 3 (c.reams.map encReam) 0, I c.gath, .slice 2 (ds.map encSeen) q]) ?_ ?_
  · intro k hk
    simp -implicitDefEqProofs [e1]
    refine vCall_of y1 ?_
    simp -implicitDefEqProofs
    intro b12 h12
    have n1 : ¬ b3 = b12 := by rintro rfl; rw [l3] at h12; cases h12
    exact hk _ (by simp [e3, e5, e7, e12, e13, e14, e15, e16, e17, l3, n1])
  clear e1 e3 e5 e7 e12 e13 e14 e15 e16 e17 l3
  rintro s ⟨e3, e5, e7, e12, e13, e14, e15, e16, e17, e18, e19, l3⟩
  refine cutS (fun s => s.env 5 = ILL W ∧ s.env 7 = ILL W' ∧ s.env 12 = .ref [I L.a, I L.b] ∧ s.env 13 = .ref [I L.x, I L.y] ∧ s.env 14 = I L.e ∧ s.env 15 = .ref [I L.a, I L.b] ∧ s.env 16 = .ref [I L.x, I L.y] ∧ s.env 17 = I L.e ∧ s.env 18 = .ref [I Y.a, I Y.b] ∧ s.env 19 = I Y.e ∧ s.env 20 = .ref [I Y.a, I Y.b] ∧ s.env 21 = I Y.e) ?_ ?_
  · intro k hk
    simp -implicitDefEqProofs [e3, l3]
    refine vCall_of y2 ?_
    simp -implicitDefEqProofs
    intro b12 h12
    exact hk _ (by simp [e5, e7, e12, e13, e14, e15, e16, e17, e18, e19])
  clear e3 e5 e7 e12 e13 e14 e15 e16 e17 e18 e19 l3
  rintro s ⟨e5, e7, e12, e13, e14, e15, e16, e17, e18, e19, e20, e21⟩
  simp -implicitDefEqProofs [e5, e7, e12, e13, e14, e15, e16, e17, e18, e19, e20, e21, hlen]
  refine vCall_of aw ?_
  simp -implicitDefEqProofs [r12]
end Go.Proofs.Ytbcfmfiolbcclaa

