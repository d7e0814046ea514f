/- The resolved code of some functions, written by program, each held against the function by the kernel. The law PaperTurned: its contract. -/
import Derived.Test.YtbcfmfiolbcclaaZI
import Derived.KernelRfl
import Derived.Test.YtbcfmfiolbcclaaZL
namespace Go.Proofs.Ytbcfmfiolbcclaa
open Go.Avm

/- duodecimo/duodecimolaw06.PaperTurned -/
def ann13 : Ann := { muts := [], nilsz := [(3, 3), (15, 1), (1000068, 3)], oid := [(67, 8002), (68, 9002), (84, 9002)], frz := [], zero := [(7, [(.lit (.int .i64 0)), (.slice 3 [] 8001), (.slice 3 [] 8002), (.lit (.int .i64 0)), (.slice 2 [] 8004)]), (8, [(.lit (.int .i64 0)), (.slice 3 [] 9001), (.slice 3 [] 9002), (.lit (.int .i64 0)), (.slice 2 [] 9004)]), (61, [(.lit (.int .i64 0)), (.lit (.int .i64 0)), (.lit (.int .i64 0))]), (62, [(.lit (.int .i64 0)), (.lit (.int .i64 0)), (.lit (.int .i64 0))]), (82, [(.lit (.int .i64 0)), (.lit (.int .i64 0)), (.lit (.int .i64 0))]), (133, [(.lit (.int .i64 0))])], ord := [(12, [0, 1, 2, 3, 4, 5, 6, 7, 8, 9, 10, 11, 12, 13]), (13, [0, 1, 2, 3, 4, 5]), (18, [0, 1, 2, 3, 4, 5, 6, 7, 8, 9])], ap := [(7, [(.t 1)]), (8, []), (84, [])], own := [3], yl := [], fz := [], imm := [], ic := [], cl := [], ylL := [], rl := [] }
def m13 : MCode := (.seq (.reg [.boxI 1 (.t 0) 5, .asg 2 (.c (.lit (.bool false)))])
 (.seq (.seq (.reg [.load 17 (.t 1) (some 5), .call 18 36 [(.t 17)], .not 19 (.t 18)])
 (.cond (.t 19) (.seq (.reg [.call 20 22 [], .asg 2 (.t 20)])
 .ret) .skip))
 (.seq (.reg [.asgNil 3 3])
 (.seq (.reg [.asg 4 (.c (.lit (.int .i64 0)))])
 (.seq (.seq (.reg [.asg 5 (.c (.lit (.int .i64 0)))])
 (.block 0 (.loop (.seq (.seq (.reg [.cpy 21 (.t 5), .addr 22 (.t 1) 2, .load 23 (.t 22) none, .len 24 (.t 23), .bin 25 .lss (.t 21) (.t 24)])
 (.cond (.t 25) .skip (.exit 0)))
 (.seq (.block 1 (.seq (.reg [.addr 28 (.t 1) 2, .load 29 (.t 28) none, .cpy 30 (.t 5), .idxS 31 (.t 29) (.t 30) 3, .addr 32 (.t 31) 1, .addr 33 (.t 32) 0, .load 34 (.t 33) none, .asg 6 (.t 34)])
 (.seq (.seq (.reg [.cpy 35 (.t 5), .addr 36 (.t 1) 2, .load 37 (.t 36) none, .len 38 (.t 37), .bin 39 .sub (.t 38) (.c (.lit (.int .i64 1))), .bin 40 .eql (.t 35) (.t 39)])
 (.cond (.t 40) (.reg [.addr 41 (.t 1) 0, .load 42 (.t 41) none, .addr 43 (.t 1) 3, .load 44 (.t 43) none, .bin 45 .mul (.t 42) (.t 44), .cpy 46 (.t 4), .bin 47 .sub (.t 45) (.t 46), .asg 6 (.t 47)]) .skip))
 (.seq (.reg [.cpy 48 (.t 4), .cpy 49 (.t 6), .bin 50 .add (.t 48) (.t 49), .asg 4 (.t 50)])
 (.reg [.cpy 51 (.t 3), .addr 52 (.t 1) 2, .load 53 (.t 52) none, .cpy 54 (.t 5), .idxS 55 (.t 53) (.t 54) 3, .addr 56 (.t 55) 0, .load 57 (.t 56) none, .cpy 58 (.t 6), .cpy 59 (.t 6), .call 60 47 [(.t 58), (.t 59)], .build 61 [(.lit (.int .i64 0)), (.lit (.int .i64 0)), (.lit (.int .i64 0))] [(0, 1, (.t 57)), (1, 2, (.t 60))], .mkS 62 1 3 [(.lit (.int .i64 0)), (.lit (.int .i64 0)), (.lit (.int .i64 0))] [(0, (.t 61))], .app 63 (.t 51) (.t 62) 3 24, .asg 3 (.t 63)])))))
 (.reg [.cpy 26 (.t 5), .bin 27 .add (.t 26) (.c (.lit (.int .i64 1))), .asg 5 (.t 27)]))))))
 (.seq (.reg [.load 64 (.t 1) (some 5), .load 65 (.t 1) (some 5), .alloc 7 [(.lit (.int .i64 0)), (.slice 3 [] 8001), (.slice 3 [] 8002), (.lit (.int .i64 0)), (.slice 2 [] 8004)], .alloc 8 [(.lit (.int .i64 0)), (.slice 3 [] 9001), (.slice 3 [] 9002), (.lit (.int .i64 0)), (.slice 2 [] 9004)], .apart [(.t 1)] (.t 7) (.store (.t 7) (.t 64) 5 0), .apart [] (.t 8) (.store (.t 8) (.t 65) 5 0)])
 (.seq (.reg [.cpy 66 (.t 3), .addr 67 (.t 7) 2, .store (.t 67) (.t 66) 1 8002, .addr 68 (.t 8) 2, .storeNil (.t 68) 3 9002])
 (.seq (.seq (.reg [.cpy 69 (.t 3), .len 70 (.t 69), .bin 71 .sub (.t 70) (.c (.lit (.int .i64 1))), .asg 9 (.t 71)])
 (.block 2 (.loop (.seq (.seq (.reg [.cpy 72 (.t 9), .bin 73 .geq (.t 72) (.c (.lit (.int .i64 0)))])
 (.cond (.t 73) .skip (.exit 2)))
 (.seq (.block 3 (.reg [.addr 76 (.t 8) 2, .load 77 (.t 76) none, .cpy 78 (.t 3), .cpy 79 (.t 9), .idxS 80 (.t 78) (.t 79) 3, .load 81 (.t 80) (some 3), .mkS 82 1 3 [(.lit (.int .i64 0)), (.lit (.int .i64 0)), (.lit (.int .i64 0))] [(0, (.t 81))], .app 83 (.t 77) (.t 82) 3 24, .addr 84 (.t 8) 2, .apart [] (.t 84) (.store (.t 84) (.t 83) 1 9002)]))
 (.reg [.cpy 74 (.t 9), .bin 75 .sub (.t 74) (.c (.lit (.int .i64 1))), .asg 9 (.t 75)]))))))
 (.seq (.seq (.reg [.load 85 (.t 7) (some 5), .call 86 36 [(.t 85)], .not 87 (.t 86)])
 (.cond (.t 87) (.seq (.reg [.call 88 22 [], .asg 2 (.t 88)])
 .ret) .skip))
 (.seq (.reg [.load 90 (.t 7) (some 5), .call 91 17 [(.t 90)], .cpy 89 (.t 91), .ext 92 (.t 89) 0, .ext 93 (.t 89) 1, .asg 10 (.t 92), .asg 11 (.t 93)])
 (.seq (.reg [.load 95 (.t 8) (some 5), .call 96 17 [(.t 95)], .cpy 94 (.t 96), .ext 97 (.t 94) 0, .ext 98 (.t 94) 1, .asg 12 (.t 97), .asg 13 (.t 98)])
 (.seq (.seq (.reg [.cpy 99 (.t 11), .cpy 100 (.t 13), .bin 101 .neq (.t 99) (.t 100), .cpy 102 (.t 101), .guard 102 false (some 103) (.cpy 103 (.t 10)), .guard 102 false (some 104) (.len 104 (.t 103)), .guard 102 false (some 105) (.cpy 105 (.t 12)), .guard 102 false (some 106) (.len 106 (.t 105)), .guard 102 false (some 107) (.bin 107 .neq (.t 104) (.t 106)), .pick 108 (.t 102) (.c (.lit (.bool true))) (.t 107)])
 (.cond (.t 108) (.seq (.reg [.asg 2 (.c (.lit (.bool false)))])
 .ret) .skip))
 (.seq (.seq (.reg [.asg 14 (.c (.lit (.int .i64 0)))])
 (.block 4 (.loop (.seq (.seq (.reg [.cpy 109 (.t 14), .cpy 110 (.t 10), .len 111 (.t 110), .bin 112 .lss (.t 109) (.t 111)])
 (.cond (.t 112) .skip (.exit 4)))
 (.seq (.block 5 (.seq (.reg [.asgNil 15 1])
 (.seq (.seq (.reg [.cpy 115 (.t 10), .cpy 116 (.t 14), .idxS 117 (.t 115) (.t 116) 1, .load 118 (.t 117) none, .len 119 (.t 118), .bin 120 .sub (.t 119) (.c (.lit (.int .i64 1))), .asg 16 (.t 120)])
 (.block 6 (.loop (.seq (.seq (.reg [.cpy 121 (.t 16), .bin 122 .geq (.t 121) (.c (.lit (.int .i64 0)))])
 (.cond (.t 122) .skip (.exit 6)))
 (.seq (.block 7 (.reg [.cpy 125 (.t 15), .cpy 126 (.t 10), .cpy 127 (.t 14), .idxS 128 (.t 126) (.t 127) 1, .load 129 (.t 128) none, .cpy 130 (.t 16), .idxS 131 (.t 129) (.t 130) 1, .load 132 (.t 131) none, .mkS 133 1 1 [(.lit (.int .i64 0))] [(0, (.t 132))], .app 134 (.t 125) (.t 133) 1 8, .asg 15 (.t 134)]))
 (.reg [.cpy 123 (.t 16), .bin 124 .sub (.t 123) (.c (.lit (.int .i64 1))), .asg 16 (.t 124)]))))))
 (.seq (.reg [.cpy 135 (.t 12), .cpy 136 (.t 15), .call 137 39 [(.t 135), (.t 136)], .not 138 (.t 137)])
 (.cond (.t 138) (.seq (.reg [.asg 2 (.c (.lit (.bool false)))])
 .ret) .skip)))))
 (.reg [.cpy 113 (.t 14), .bin 114 .add (.t 113) (.c (.lit (.int .i64 1))), .asg 14 (.t 114)]))))))
 (.seq (.reg [.call 139 22 [], .asg 2 (.t 139)])
 .ret))))))))))))))
def r13 : List MRes := [.tmp 2]
theorem tr13 : Try.f13.body.bind (trC Try.prog ann13 Try.f13.ntmps) = some m13 := by kernel_rfl
theorem rs13 : trRes Try.prog Try.f13.results.toList = some r13 := by kernel_rfl
theorem fn13 : isFunc Try.prog 13 = true := by kernel_rfl
end Go.Proofs.Ytbcfmfiolbcclaa

namespace Go.Proofs.Ytbcfmfiolbcclaa
open Go.Avm

/-- The known reams. -/
structure KnIn (c : Case) (ns : List Int) (KR : List Ream) : Prop where
  nl : ns.length = c.reams.length
  kl : KR.length = c.reams.length
  at' : ∀ k (hk : k < c.reams.length) (h1 : k < KR.length) (h2 : k < ns.length), KR[k] = ⟨c.reams[k].stock, ns[k], ns[k]⟩
  num : ∀ k (hk : k < c.reams.length) (h2 : k < ns.length), ns[k] = if k + 1 = c.reams.length then c.run * c.gath - (ns.take k).sum else c.reams[k].lo
  sum : ns.sum = c.run * c.gath
  up : ∀ k, k < c.reams.length → 0 ≤ (ns.take k).sum ∧ (ns.take k).sum ≤ 8000
theorem KnIn.los {c : Case} {ns : List Int} {KR : List Ream} (h : KnIn c ns KR) : KR.map Ream.lo = ns := by
  refine List.ext_getElem (by rw [List.length_map, h.kl, h.nl]) fun k h1 h2 => ?_
  have := h.nl
  have := h.kl
  rw [List.getElem_map, h.at' k (by omega) (by omega) (by omega)]
theorem KnIn.same {c : Case} {ns : List Int} {KR : List Ream} (h : KnIn c ns KR) : ∀ r ∈ KR, r.lo = r.hi := fun r hr => by
  obtain ⟨k, hk, rfl⟩ := List.getElem_of_mem hr
  have := h.nl
  have := h.kl
  rw [h.at' k (by omega) (by omega) (by omega)]
theorem known_reams {c : Case} (h : c.OK) : ∃ ns KR, KnIn c ns KR := by
  have hr := h.reams
  obtain ⟨D, hD⟩ : ∃ D, D = (c.reams.map Ream.lo).dropLast := ⟨_, rfl⟩
  have hDl : D.length = c.reams.length - 1 := by rw [hD]; simp
  have hDb : ∀ x ∈ D, 1 ≤ x ∧ x ≤ 2000 := fun x hx => by
    rw [hD] at hx
    obtain ⟨r, hr, rfl⟩ := List.mem_map.1 (List.dropLast_subset _ hx)
    have := h.sheets r hr
    omega
  have hDk : ∀ k (hk : k < D.length), D[k] = (c.reams[k]'(by omega)).lo := fun k hk => by
    subst hD
    rw [List.getElem_dropLast, List.getElem_map]
  have hnl : (D ++ [c.run * c.gath - D.sum]).length = c.reams.length := by simp; omega
  refine ⟨D ++ [c.run * c.gath - D.sum], List.zipWith (fun r n => ⟨r.stock, n, n⟩) c.reams (D ++ [c.run * c.gath - D.sum]), hnl, by simp; omega, fun k hk h1 h2 => by rw [List.getElem_zipWith], fun k hk h2 => ?_, by rw [List.sum_append]; simp; omega, fun k hk => ?_⟩
  · by_cases hl : k + 1 = c.reams.length
    · rw [if_pos hl, List.getElem_append_right (by omega), List.take_append_of_le_length (by omega), List.take_of_length_le (by omega)]
      simp
    · rw [if_neg hl, List.getElem_append_left (by omega), hDk]
  · rw [List.take_append_of_le_length (by omega)]
    have h1 := sum_bounds (D.take k) fun x hx => hDb x (List.mem_of_mem_take hx)
    have h2 : (D.take k).length ≤ D.length := List.length_take_le' _ _
    omega

theorem paperTurned_ok (c : Case) (_ : c.seen.length * 16 ≤ 140737488351232) : PCall Try.prog 13 [encCase c] (B true) := by
  refine pcall Try.func13 tr13 rs13 fn13 (by simp [Try.ntmps13]) fun _ => ?_
  have va := valid36_ok c
  have aw := awake22_ok
  unfold m13
  refine cutS (fun s => s.env 1 = caseRef c ∧ s.loc = fun _ => none) ?_ ?_
  · intro k hk
    simp -implicitDefEqProofs
    exact hk _ (by simp)
  rintro s ⟨e1, hl⟩
  by_cases he : errE c = 0
  case neg =>
    simp -implicitDefEqProofs [e1]
    refine vCall_of va ?_
    simp -implicitDefEqProofs [he]
    refine vCall_of aw ?_
    simp -implicitDefEqProofs [r13]
  have hok := err_ok he
  have hreams := hok.reams
  have hsh := fun (k : Nat) (hk : k < c.reams.length) => hok.ream hk
  obtain ⟨ns, KR, hK⟩ := known_reams hok
  have hkn : errE (withReams c KR) = 0 → Known (withReams c KR) := fun h => ⟨h, hK.same, by show (KR.map Ream.lo).sum = c.run * c.gath; rw [hK.los, hK.sum]⟩
  have hrg := run_gath hok
  have hg := hok.gath
  have hnl := hK.nl
  have hkl := hK.kl
  have hat := hK.at'
  have hnum := hK.num
  have hsum := hK.sum
  have hup := hK.up
  clear hK
  obtain ⟨RG, hRG⟩ : ∃ RG, RG = c.run * c.gath := ⟨_, rfl⟩
  rw [← hRG] at hrg hsum
  simp only [← hRG] at hnum
  refine cutS (fun s => s.env 1 = caseRef c ∧ s.loc = fun _ => none) ?_ ?_
  · intro k hk
    simp -implicitDefEqProofs [e1]
    refine vCall_of va ?_
    simp -implicitDefEqProofs [he]
    exact hk _ (by simp [e1, hl])
  clear e1 hl
  rintro s ⟨e1, hl⟩
  refine cutS (fun s => s.env 1 = caseRef c ∧ s.env 3 = .slice 3 [] 4 ∧ s.loc = fun _ => none) ?_ ?_
  · intro k hk
    simp -implicitDefEqProofs
    exact hk _ (by simp [e1, hl])
  clear e1 hl
  rintro s ⟨e1, e3, hl⟩
  refine cutS (fun s => s.env 1 = caseRef c ∧ s.env 3 = .slice 3 [] 4 ∧ s.env 4 = I 0 ∧ s.loc = fun _ => none) ?_ ?_
  · intro k hk
    simp -implicitDefEqProofs
    exact hk _ (by simp [e1, e3, hl])
  clear e1 e3 hl
  rintro s ⟨e1, e3, e4, hl⟩
  refine cutS (fun s => s.env 1 = caseRef c ∧ s.env 3 = .slice 3 (KR.map encReam) 4 ∧ s.loc = fun _ => none) ?_ ?_
  · intro K hK
    simp -implicitDefEqProofs
    refine loop_up c.reams.length (fun k s => s.env 1 = caseRef c ∧ s.env 3 = .slice 3 ((KR.take k).map encReam) 4 ∧ s.env 4 = I (ns.take k).sum ∧ s.env 5 = I k ∧ s.loc = fun _ => none) ?_ ?_
    · simp [e1, e3, e4, hl]
    clear e1 e3 e4 hl
    rintro k s hk ⟨e1, e3, e4, e5, hl⟩
    simp -implicitDefEqProofs [e1, e5]
    refine cond_dec (fun hlt => ?_) (fun hge => ?_)
    · have hlt : k < c.reams.length := by omega
      have hr := hsh k hlt
      have hu := hup k hlt
      have hn := hnum k hlt (by omega)
      have hkr := hat k hlt (by omega) (by omega)
      have hkt := take_snoc (l := KR.map encReam) (k := k) (by rw [List.length_map]; omega)
      rw [List.getElem_map] at hkt
      have hnt : (ns.take (k + 1)).sum = (ns.take k).sum + ns[k] := by rw [take_snoc (by omega), List.sum_append]; simp
      rw [hkr] at hkt
      have hkl' : (KR.take k).length ≤ k := by rw [List.length_take]; omega
      generalize hnk : ns[k] = n at *
      have sp := span47_ok n n
      have hst : encReam ⟨c.reams[k].stock, n, n⟩ = .agg [I c.reams[k].stock, I n, I n] := rfl
      by_cases hla : k + 1 = c.reams.length
      · rw [if_pos hla] at hn
        have hla' : ((k : Int) == (c.reams.length : Int) - 1) = true := by simp; omega
        simp -implicitDefEqProofs [e1, e4, e5, hlt, hla', ← hRG, ← hn]
        refine ⟨i64 (by omega) (by omega), i64 (by omega) (by omega), i64 (by omega) (by omega), i64 (by omega) (by omega), vCall_of sp ?_⟩
        simp -implicitDefEqProofs [e3, e5]
        refine ⟨by omega, by omega, i64 (by omega) (by omega), round_ok hlt ?_⟩
        simp [e1, hl, hkt, hnt]
      · rw [if_neg hla] at hn
        have hla' : ((k : Int) == (c.reams.length : Int) - 1) = false := by simp; omega
        simp -implicitDefEqProofs [e1, e4, e5, hlt, hla', ← hn]
        refine ⟨i64 (by omega) (by omega), i64 (by omega) (by omega), vCall_of sp ?_⟩
        simp -implicitDefEqProofs [e3, e5]
        refine ⟨by omega, by omega, i64 (by omega) (by omega), round_ok hlt ?_⟩
        simp [e1, hl, hkt, hnt]
    · obtain rfl : k = c.reams.length := by omega
      rw [← hkl, List.take_length] at e3
      simp -implicitDefEqProofs
      exact hK _ (by simp [e1, e3, hl])
  clear e1 e3 e4 hl
  rintro s ⟨e1, e3, hl⟩
  have hB : (withReams c KR).reams = KR := rfl
  refine cutS (fun s => s.env 1 = caseRef c ∧ s.env 3 = .slice 3 (KR.map encReam) 4 ∧ ∃ b7 b8, s.env 7 = .mref b7 0 ∧ s.env 8 = .mref b8 0 ∧ b7 ≠ b8 ∧ s.loc b7 = some (caseCells c) ∧ s.loc b8 = some (caseCells c)) ?_ ?_
  · intro k hk
    simp -implicitDefEqProofs [e1, hl]
    intro b7 b8 h78
    have h87 : ¬ b7 = b8 := fun e => h78 e.symm
    simp -implicitDefEqProofs [h78, h87]
    exact hk _ (by simp [e1, e3, h78, h87])
  clear e1 e3 hl
  rintro s ⟨e1, e3, b7, b8, e7, e8, n78, l7, l8⟩
  have n87 : ¬ b8 = b7 := fun e => n78 e.symm
  refine cutS (fun s => s.env 1 = caseRef c ∧ s.env 3 = .slice 3 (KR.map encReam) 0 ∧ s.env 7 = .mref b7 0 ∧ s.env 8 = .mref b8 0 ∧ s.loc b7 = some [I c.run, .slice 3 (c.stocks.map encStock) 0, .slice 3 (KR.map encReam) 8002, I c.gath, .slice 2 (c.seen.map encSeen) 0] ∧
      s.loc b8 = some [I c.run, .slice 3 (c.stocks.map encStock) 0, .slice 3 [] 9002, I c.gath, .slice 2 (c.seen.map encSeen) 0]) ?_ ?_
  · intro k hk
    simp -implicitDefEqProofs [e1, e3, e7, e8, l7, l8, n78, n87]
    exact hk _ (by simp [e1, e3, e7, e8, l7, l8, n78, n87])
  clear e1 e3 e7 e8 l7 l8
  rintro s ⟨e1, e3, e7, e8, l7, l8⟩
  refine cutS (fun s => s.env 7 = .mref b7 0 ∧ s.env 8 = .mref b8 0 ∧ s.loc b7 = some [I c.run, .slice 3 (c.stocks.map encStock) 0, .slice 3 (KR.map encReam) 8002, I c.gath, .slice 2 (c.seen.map encSeen) 0] ∧
      s.loc b8 = some [I c.run, .slice 3 (c.stocks.map encStock) 0, .slice 3 (KR.reverse.map encReam) 9002, I c.gath, .slice 2 (c.seen.map encSeen) 0]) ?_ ?_
  · intro K hK
    have hEl : (KR.map encReam).length = c.reams.length := by rw [List.length_map, hkl]
    have hEr : KR.reverse.map encReam = (KR.map encReam).reverse := List.map_reverse
    rw [hEr] at hK
    have hEx : ∀ x ∈ KR.map encReam, ∃ r, x = encReam r := fun x hx => by
      obtain ⟨r, -, rfl⟩ := List.mem_map.1 hx
      exact ⟨r, rfl⟩
    generalize KR.map encReam = E at *
    simp -implicitDefEqProofs [e3]
    refine ⟨i64 (by omega) (by omega), ?_⟩
    refine loop_up E.length (fun k s => s.env 3 = .slice 3 E 0 ∧ s.env 7 = .mref b7 0 ∧ s.env 8 = .mref b8 0 ∧ s.env 9 = I ((E.length : Int) - 1 - k) ∧ s.loc b7 = some [I c.run, .slice 3 (c.stocks.map encStock) 0, .slice 3 E 8002, I c.gath, .slice 2 (c.seen.map encSeen) 0] ∧
      s.loc b8 = some [I c.run, .slice 3 (c.stocks.map encStock) 0, .slice 3 (E.reverse.take k) 9002, I c.gath, .slice 2 (c.seen.map encSeen) 0]) ?_ ?_
    · simp [e3, e7, e8, l7, l8]
    clear e1 e3 e7 e8 l7 l8
    rintro k s hk ⟨e3, e7, e8, e9, l7, l8⟩
    simp -implicitDefEqProofs [e9]
    refine cond_dec (fun hlt => ?_) (fun hge => ?_)
    · have hlt : k < E.length := by omega
      obtain ⟨j, hj⟩ : ∃ j : Nat, j = E.length - 1 - k := ⟨_, rfl⟩
      have e9' : s.env 9 = I (j : Nat) := by rw [e9]; congr 3; omega
      have hjl : j < E.length := by omega
      have hrt : E.reverse.take (k + 1) = E.reverse.take k ++ [E[j]] := by
        rw [take_snoc (by rw [List.length_reverse]; exact hlt), List.getElem_reverse]
        subst hj
        rfl
      have hrl : (E.reverse.take k).length ≤ k := by rw [List.length_take]; omega
      obtain ⟨r, hr⟩ := hEx _ (List.getElem_mem hjl)
      rw [hr] at hrt
      have hdn : (j : Int) - 1 = (E.length : Int) - 1 - ((k : Int) + 1) := by omega
      simp -implicitDefEqProofs [e3, e7, e8, e9', l7, l8, hjl, hr]
      refine ⟨by omega, by omega, i64 (by omega) (by omega), round_ok hlt ?_⟩
      simp [e3, e7, e8, l7, n78, n87, hrt, hdn]
    · obtain rfl : k = E.length := by omega
      rw [← List.length_reverse, List.take_length] at l8
      simp -implicitDefEqProofs
      exact hK _ (by simp [e7, e8, l7, l8])
  clear e1 e3 e7 e8 l7 l8
  rintro s ⟨e7, e8, l7, l8⟩
  rw [List.map_reverse] at l8
  have hca : encCase (withReams c KR) = .agg [I c.run, .slice 3 (c.stocks.map encStock) 0, .slice 3 (KR.map encReam) 0, I c.gath, .slice 2 (c.seen.map encSeen) 0] := rfl
  have hcb : encCase (turnC (withReams c KR)) = .agg [I c.run, .slice 3 (c.stocks.map encStock) 0, .slice 3 (KR.reverse.map encReam) 0, I c.gath, .slice 2 (c.seen.map encSeen) 0] := rfl
  have va2 := valid36_ok (withReams c KR)
  have o1 := orders17_ok (withReams c KR)
  have o2 := orders17_ok (turnC (withReams c KR))
  have hT := fun h => turn_in (hkn h)
  rw [hca] at va2 o1
  rw [hcb, List.map_reverse] at o2
  generalize turnC (withReams c KR) = b at *
  generalize withReams c KR = a at *
  by_cases ha : errE a = 0
  case neg =>
    simp -implicitDefEqProofs [e7, l7]
    refine vCall_of va2 ?_
    simp -implicitDefEqProofs [ha]
    refine vCall_of aw ?_
    simp -implicitDefEqProofs [r13]
  have hT := hT ha
  have hoe := hT.oe
  have heach := hT.each
  have hlen := hT.len
  have hshort := hT.short
  clear hT
  rw [← hoe] at o2
  generalize (ordersS a).2 = X at *
  generalize (ordersS a).1 = W at *
  generalize (ordersS b).1 = W' at *
  refine cutS (fun s => s.env 7 = .mref b7 0 ∧ s.env 8 = .mref b8 0 ∧ s.loc b7 = some [I c.run, .slice 3 (c.stocks.map encStock) 0, .slice 3 (KR.map encReam) 8002, I c.gath, .slice 2 (c.seen.map encSeen) 0] ∧
      s.loc b8 = some [I c.run, .slice 3 (c.stocks.map encStock) 0, .slice 3 (KR.map encReam).reverse 9002, I c.gath, .slice 2 (c.seen.map encSeen) 0]) ?_ ?_
  · intro k hk
    simp -implicitDefEqProofs [e7, l7]
    refine vCall_of va2 ?_
    simp -implicitDefEqProofs [ha]
    exact hk _ (by simp [e7, e8, l7, l8])
  clear e7 e8 l7 l8
  rintro s ⟨e7, e8, l7, l8⟩
  refine cutS (fun s => s.env 8 = .mref b8 0 ∧ s.env 10 = ILL W ∧ s.env 11 = I X ∧ 
      s.loc b8 = some [I c.run, .slice 3 (c.stocks.map encStock) 0, .slice 3 (KR.map encReam).reverse 9002, I c.gath, .slice 2 (c.seen.map encSeen) 0]) ?_ ?_
  · intro k hk
    simp -implicitDefEqProofs [e7, l7]
    refine vCall_of o1 ?_
    simp -implicitDefEqProofs
    exact hk _ (by simp [e8, l8])
  clear e7 e8 l7 l8
  rintro s ⟨e8, e10, e11, l8⟩
  refine cutS (fun s => s.env 10 = ILL W ∧ s.env 11 = I X ∧ s.env 12 = ILL W' ∧ s.env 13 = I X) ?_ ?_
  · intro k hk
    simp -implicitDefEqProofs [e8, l8]
    refine vCall_of o2 ?_
    simp -implicitDefEqProofs
    exact hk _ (by simp [e10, e11])
  clear e8 e10 e11 l8
  rintro s ⟨e10, e11, e12, e13⟩
  refine cutS (fun s => s.env 10 = ILL W ∧ s.env 12 = ILL W') ?_ ?_
  · intro k hk
    simp -implicitDefEqProofs [e10, e11, e12, e13, hlen]
    exact hk _ (by simp [e10, e12])
  clear e10 e11 e12 e13
  rintro s ⟨e10, e12⟩
  refine cutS (fun _ => True) ?_ ?_
  · intro K hK
    simp -implicitDefEqProofs
    refine loop_up W.length (fun k s => s.env 10 = ILL W ∧ s.env 12 = ILL W' ∧ s.env 14 = I k) ?_ ?_
    · simp [e10, e12]
    clear e10 e12
    rintro k s hk ⟨e10, e12, e14⟩
    simp -implicitDefEqProofs [e10, e14]
    refine cond_dec (fun hlt => ?_) (fun hge => ?_)
    · have hlt : k < W.length := by omega
      have hm := List.getElem_mem hlt
      have ho1 := hshort.2 _ hm
      have hw := hshort.1
      have on := one39_ok W' W[k].reverse
      rw [decide_eq_true (heach _ hm)] at on
      rw [show IL W[k].reverse = .slice 1 (W[k].map I).reverse 0 by simp] at on
      generalize hwk : W[k] = o at *
      simp -implicitDefEqProofs [e10, e14, hlt, hwk]
      refine ⟨i64 (by omega) (by omega), ?_⟩
      refine loop_up o.length (fun j s => s.env 10 = ILL W ∧ s.env 12 = ILL W' ∧ s.env 14 = I k ∧ s.env 15 = .slice 1 ((o.map I).reverse.take j) 16 ∧ s.env 16 = I ((o.length : Int) - 1 - j)) ?_ ?_
      · simp [e10, e12, e14]
      clear e10 e12 e14
      rintro j s hj ⟨e10, e12, e14, e15, e16⟩
      simp -implicitDefEqProofs [e16]
      refine cond_dec (fun hlt2 => ?_) (fun hge2 => ?_)
      · have hlt2 : j < o.length := by omega
        obtain ⟨i, hi⟩ : ∃ i : Nat, i = o.length - 1 - j := ⟨_, rfl⟩
        have e16' : s.env 16 = I (i : Nat) := by rw [e16]; congr 3; omega
        have hil : i < o.length := by omega
        have hml : (o.map I).length = o.length := by simp
        have hft : (o.map I).reverse.take (j + 1) = (o.map I).reverse.take j ++ [I o[i]] := by
          rw [take_snoc (by rw [List.length_reverse, hml]; exact hlt2), List.getElem_reverse, List.getElem_map]
          congr 4
          omega
        have hfl : ((o.map I).reverse.take j).length ≤ j := by rw [List.length_take]; omega
        have hdn : (i : Int) - 1 = (o.length : Int) - 1 - ((j : Int) + 1) := by omega
        generalize (o.map I).reverse.take j = A at *
        simp -implicitDefEqProofs [e10, e14, e15, e16', hlt, hwk, hil]
        refine ⟨by omega, by omega, i64 (by omega) (by omega), round_ok hlt2 ?_⟩
        simp [e10, e12, e14, hft, hdn]
      · obtain rfl : j = o.length := by omega
        rw [List.take_of_length_le (by simp)] at e15
        simp -implicitDefEqProofs [e12, e15]
        refine vCall_of on ?_
        simp -implicitDefEqProofs [e14]
        refine ⟨i64 (by omega) (by omega), round_ok hlt ?_⟩
        simp [e10, e12]
    · obtain rfl : k = W.length := by omega
      simp -implicitDefEqProofs
      exact hK _ trivial
  clear e10 e12
  rintro s -
  simp -implicitDefEqProofs
  refine vCall_of aw ?_
  simp -implicitDefEqProofs [r13]
end Go.Proofs.Ytbcfmfiolbcclaa

