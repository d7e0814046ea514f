/- The resolved code of some functions, written by program, each held against the function by the kernel. The law OwnerTrue: its contract. -/
import Derived.Test.YtiampdiobdianaaZD
import Derived.KernelRfl
import Derived.Test.YtiampdiobdianaaZL
namespace Go.Proofs.Ytiampdiobdianaa
open Go.Avm

/- duodecimo/duodecimolaw08.OwnerTrue -/
def ann9 : Ann := { muts := [], nilsz := [], oid := [], frz := [12, 22, 24], zero := [(12, [(.lit (.int .i64 0)), (.lit (.int .i64 0)), (.slice 3 [] 13002), (.slice 4 [] 13003), (.slice 3 [] 13004)]), (22, [(.lit (.int .i64 0)), (.lit (.int .i64 0))]), (24, [(.lit (.int .i64 0)), (.lit (.int .i64 0)), (.lit (.int .i64 0))])], ord := [(10, [0, 1, 2, 3, 4, 5, 6, 7, 8]), (19, [0, 1, 2, 3, 4, 5, 6, 7, 8, 9, 10]), (24, [0, 1, 2, 3, 4, 5, 6, 7, 8, 9, 10, 11, 12, 13, 14, 15, 16, 17, 18])], ap := [], own := [15, 26], yl := [], fz := [], imm := [], ic := [], cl := [], ylL := [], rl := [] }
def m9 : MCode := (.seq (.reg [.boxI 3 (.t 0) 5, .boxI 4 (.t 1) 4, .asg 6 (.c (.lit (.bool false)))])
 (.seq (.seq (.reg [.load 27 (.t 3) (some 5), .call 28 37 [(.t 27)], .not 29 (.t 28)])
 (.cond (.t 29) (.seq (.reg [.load 31 (.t 3) (some 5), .call 32 18 [(.t 31)], .cpy 30 (.t 32), .ext 33 (.t 30) 0, .ext 34 (.t 30) 1, .ext 35 (.t 30) 2, .asg 7 (.t 33), .asg 8 (.t 34), .asg 9 (.t 35)])
 (.seq (.reg [.cpy 36 (.t 9), .bin 37 .neq (.t 36) (.c (.lit (.int .i64 0))), .cpy 38 (.t 37), .guard 38 true (some 39) (.call 39 23 []), .pick 40 (.t 38) (.t 39) (.c (.lit (.bool false))), .asg 6 (.t 40)])
 .ret)) .skip))
 (.seq (.reg [.load 42 (.t 3) (some 5), .load 43 (.t 4) (some 4), .call 44 43 [(.t 42), (.t 43)], .cpy 41 (.t 44), .ext 45 (.t 41) 0, .ext 46 (.t 41) 1, .asg 10 (.t 45), .asg 11 (.t 46)])
 (.seq (.seq (.reg [.cpy 47 (.t 11), .not 48 (.t 47)])
 (.cond (.t 48) (.seq (.reg [.call 49 23 [], .asg 6 (.t 49)])
 .ret) .skip))
 (.seq (.reg [.load 51 (.t 3) (some 5), .cpy 52 (.t 10), .load 53 (.t 4) (some 4), .call 54 44 [(.t 51), (.t 52), (.t 53)], .cpy 50 (.t 54), .ext 55 (.t 50) 0, .ext 56 (.t 50) 1, .alloc 12 [(.lit (.int .i64 0)), (.lit (.int .i64 0)), (.slice 3 [] 13002), (.slice 4 [] 13003), (.slice 3 [] 13004)], .storeF 12 (.t 55) 5, .asg 13 (.t 56)])
 (.seq (.seq (.reg [.load 57 (.t 12) (some 5), .call 58 37 [(.t 57)], .not 59 (.t 58)])
 (.cond (.t 59) (.seq (.reg [.call 60 23 [], .asg 6 (.t 60)])
 .ret) .skip))
 (.seq (.reg [.load 62 (.t 12) (some 5), .cpy 63 (.t 10), .call 64 39 [(.t 63)], .call 65 21 [(.t 62), (.t 64)], .cpy 61 (.t 65), .ext 66 (.t 61) 0, .ext 67 (.t 61) 1, .cpyE 14 (.t 66), .asg 15 (.t 67)])
 (.seq (.reg [.load 69 (.t 12) (some 5), .call 70 18 [(.t 69)], .cpy 68 (.t 70), .ext 71 (.t 68) 0, .ext 72 (.t 68) 1, .ext 73 (.t 68) 2, .asg 16 (.t 71), .asg 17 (.t 72), .asg 18 (.t 73)])
 (.seq (.reg [.load 75 (.t 12) (some 5), .call 76 33 [(.t 75)], .cpy 74 (.t 76), .ext 77 (.t 74) 0, .ext 78 (.t 74) 1, .asg 19 (.t 77), .asg 20 (.t 78)])
 (.seq (.seq (.reg [.cpy 79 (.t 15), .bin 80 .neq (.t 79) (.c (.lit (.int .i64 0))), .cpy 81 (.t 80), .guard 81 false (some 82) (.cpy 82 (.t 18)), .guard 81 false (some 83) (.bin 83 .neq (.t 82) (.c (.lit (.int .i64 0)))), .pick 84 (.t 81) (.c (.lit (.bool true))) (.t 83), .cpy 85 (.t 84), .guard 85 false (some 86) (.cpy 86 (.t 20)), .guard 85 false (some 87) (.bin 87 .neq (.t 86) (.c (.lit (.int .i64 0)))), .pick 88 (.t 85) (.c (.lit (.bool true))) (.t 87), .cpy 89 (.t 88), .guard 89 false (some 90) (.cpy 90 (.t 14)), .guard 89 false (some 91) (.load 91 (.t 12) (some 5)), .guard 89 false (some 92) (.cpy 92 (.t 10)), .guard 89 false (some 93) (.call 93 40 [(.t 91), (.t 92)]), .guard 89 false (some 94) (.bin 94 .gtr (.t 90) (.t 93)), .pick 95 (.t 89) (.c (.lit (.bool true))) (.t 94), .cpy 96 (.t 95), .guard 96 false (some 97) (.cpy 97 (.t 17)), .guard 96 false (some 98) (.cpy 98 (.t 14)), .guard 96 false (some 99) (.bin 99 .gtr (.t 97) (.t 98)), .pick 100 (.t 96) (.c (.lit (.bool true))) (.t 99), .cpy 101 (.t 100), .guard 101 false (some 102) (.cpy 102 (.t 19)), .guard 101 false (some 103) (.len 103 (.t 102)), .guard 101 false (some 104) (.bin 104 .gtr (.t 103) (.c (.lit (.int .i64 0)))), .pick 105 (.t 101) (.c (.lit (.bool true))) (.t 104)])
 (.cond (.t 105) (.seq (.reg [.asg 6 (.c (.lit (.bool false)))])
 .ret) .skip))
 (.seq (.seq (.reg [.asg 21 (.c (.lit (.int .i64 0)))])
 (.block 0 (.loop (.seq (.seq (.reg [.cpy 106 (.t 21), .cpy 107 (.t 13), .len 108 (.t 107), .bin 109 .lss (.t 106) (.t 108)])
 (.cond (.t 109) .skip (.exit 0)))
 (.seq (.block 1 (.seq (.reg [.load 113 (.t 12) (some 5), .cpy 114 (.t 21), .call 115 26 [(.t 113), (.t 114)], .cpy 112 (.t 115), .ext 116 (.t 112) 0, .ext 117 (.t 112) 1, .alloc 22 [(.lit (.int .i64 0)), (.lit (.int .i64 0))], .storeF 22 (.t 116) 2, .asg 23 (.t 117)])
 (.seq (.reg [.cpy 118 (.t 23), .bin 119 .neq (.t 118) (.c (.lit (.int .i64 0))), .cpy 120 (.t 119), .guard 120 false (some 121) (.cpy 121 (.t 13)), .guard 120 false (some 122) (.cpy 122 (.t 21)), .guard 120 false (some 123) (.idxS 123 (.t 121) (.t 122) 1), .guard 120 false (some 124) (.load 124 (.t 123) none), .guard 120 false (some 125) (.load 125 (.t 22) (some 2)), .guard 120 false (some 126) (.call 126 45 [(.t 124), (.t 125)]), .guard 120 false (some 127) (.not 127 (.t 126)), .pick 128 (.t 120) (.c (.lit (.bool true))) (.t 127)])
 (.cond (.t 128) (.seq (.reg [.asg 6 (.c (.lit (.bool false)))])
 .ret) .skip))))
 (.reg [.cpy 110 (.t 21), .bin 111 .add (.t 110) (.c (.lit (.int .i64 1))), .asg 21 (.t 111)]))))))
 (.seq (.seq (.reg [.cpy 129 (.t 10), .len 130 (.t 129), .bin 131 .eql (.t 130) (.c (.lit (.int .i64 0)))])
 (.cond (.t 131) (.seq (.reg [.call 132 23 [], .asg 6 (.t 132)])
 .ret) .skip))
 (.seq (.reg [.cpy 133 (.t 10), .cpy 134 (.t 2), .conv 135 .i64 (.t 134), .cpy 136 (.t 10), .len 137 (.t 136), .bin 138 .rem (.t 135) (.t 137), .idxS 139 (.t 133) (.t 138) 3, .load 140 (.t 139) (some 3), .alloc 24 [(.lit (.int .i64 0)), (.lit (.int .i64 0)), (.lit (.int .i64 0))], .storeF 24 (.t 140) 3])
 (.seq (.reg [.load 142 (.t 12) (some 5), .addr 143 (.t 24) 1, .load 144 (.t 143) none, .cpy 145 (.t 2), .conv 146 .i64 (.t 145), .addr 147 (.t 24) 2, .load 148 (.t 147) none, .addr 149 (.t 24) 1, .load 150 (.t 149) none, .bin 151 .sub (.t 148) (.t 150), .bin 152 .add (.t 151) (.c (.lit (.int .i64 1))), .bin 153 .rem (.t 146) (.t 152), .bin 154 .add (.t 144) (.t 153), .call 155 28 [(.t 142), (.t 154)], .cpy 141 (.t 155), .ext 156 (.t 141) 0, .ext 157 (.t 141) 1, .cpyE 25 (.t 156), .asg 26 (.t 157)])
 (.seq (.reg [.cpy 158 (.t 26), .bin 159 .eql (.t 158) (.c (.lit (.int .i64 0))), .cpy 160 (.t 159), .guard 160 true (some 161) (.cpy 161 (.t 25)), .guard 160 true (some 162) (.addr 162 (.t 24) 0), .guard 160 true (some 163) (.load 163 (.t 162) none), .guard 160 true (some 164) (.call 164 46 [(.t 161), (.t 163)]), .pick 165 (.t 160) (.t 164) (.c (.lit (.bool false))), .cpy 166 (.t 165), .guard 166 true (some 167) (.call 167 23 []), .pick 168 (.t 166) (.t 167) (.c (.lit (.bool false))), .asg 6 (.t 168)])
 .ret)))))))))))))))
def r9 : List MRes := [.tmp 6]
theorem tr9 : Try.f9.body.bind (trC Try.prog ann9 Try.f9.ntmps) = some m9 := by kernel_rfl
theorem rs9 : trRes Try.prog Try.f9.results.toList = some r9 := by kernel_rfl
theorem fn9 : isFunc Try.prog 9 = true := by kernel_rfl
end Go.Proofs.Ytiampdiobdianaa

namespace Go.Proofs.Ytiampdiobdianaa
open Go.Avm

theorem ownerTrue_at (c : Case) (p : Past) (n : Nat) (op : p.OK) (on : n ≤ 65535) : PCall Try.prog 9 [encCase c, encPast p, U n] (B true) := by
  refine pcall Try.func9 tr9 rs9 fn9 (by simp [Try.ntmps9]) fun _ => ?_
  have hwn := wrap_u (n := n) (by omega)
  have aw := awake23_ok
  have c2 := valid37_ok c
  have cc := chain18_ok c
  simp -implicitDefEqProofs only [m9]
  refine cutS (fun st => st.env 2 = U n ∧ st.env 3 = caseRef c ∧ st.env 4 = pastRef p) ?_ ?_
  · intro k hk
    simp -implicitDefEqProofs
    exact hk _ (by simp)
  rintro s ⟨e2, e3, e4⟩
  by_cases he : errE c = 0
  case neg =>
    rw [decide_eq_false he] at c2
    rw [chain_err he] at cc
    generalize errE c = E at *
    have he2 : (E != 0) = true := by simp [he]
    simp -implicitDefEqProofs [e3]
    refine vCall_of c2 ?_
    simp -implicitDefEqProofs [e3]
    refine vCall_of cc ?_
    simp -implicitDefEqProofs [he2]
    refine vCall_of aw ?_
    simp -implicitDefEqProofs [r9]
  rw [decide_eq_true he] at c2
  have hok := Case.ok he
  have c43 := had43_ok hok op
  refine cutS (fun st => st.env 2 = U n ∧ st.env 3 = caseRef c ∧ st.env 4 = pastRef p) ?_ ?_
  · intro k hk
    simp -implicitDefEqProofs [e3]
    refine vCall_of c2 ?_
    simp -implicitDefEqProofs
    exact hk _ (by simp [e2, e3, e4])
  rintro s ⟨e2, e3, e4⟩
  cases hT : hadT c p with
  | none =>
    rw [hT] at c43
    unfold hadAV at c43
    simp -implicitDefEqProofs [e3, e4]
    refine vCall_of c43 ?_
    simp -implicitDefEqProofs
    refine vCall_of aw ?_
    simp -implicitDefEqProofs [r9]
  | some l =>
  rw [hT] at c43
  unfold hadAV at c43
  obtain ⟨-, hw, hin⟩ := had_who op hT
  have hl6 : l.length ≤ 6 := by
    have h1 : (l.map Hold.who).length ≤ c.owners.length := by rw [hw]; exact nodup_len _ _ (anyO_ok c _).nd (anyO_ok c _).rng
    have := hok.ownersLen
    simp at h1
    omega
  have c44 := told44_ok hok hin hl6 op
  have tale := told_tale op hT
  refine cutS (fun st => st.env 2 = U n ∧ st.env 3 = caseRef c ∧ st.env 4 = pastRef p ∧ st.env 10 = HL l ∧ st.env 11 = B true) ?_ ?_
  · intro k hk
    simp -implicitDefEqProofs [e3, e4]
    refine vCall_of c43 ?_
    simp -implicitDefEqProofs
    exact hk _ (by simp [e2, e3, e4])
  rintro s ⟨e2, e3, e4, e10, e11⟩
  refine cutS (fun st => st.env 2 = U n ∧ st.env 3 = caseRef c ∧ st.env 4 = pastRef p ∧ st.env 10 = HL l) ?_ ?_
  · intro k hk
    simp -implicitDefEqProofs [e11]
    exact hk _ (by simp [e2, e3, e4, e10])
  rintro s ⟨e2, e3, e4, e10⟩
  obtain ⟨d, hd⟩ : ∃ d, d = toldC c l p := ⟨_, rfl⟩
  obtain ⟨ys, hys⟩ : ∃ ys, ys = toldY c l p := ⟨_, rfl⟩
  rw [← hd, ← hys] at c44 tale
  have hown : d.printed = c.printed ∧ d.now = c.now := by rw [hd]; exact ⟨rfl, rfl⟩
  refine cutS (fun st => st.env 2 = U n ∧ st.env 10 = HL l ∧ st.env 12 = caseRef d ∧ st.env 13 = IL ys) ?_ ?_
  · intro k hk
    simp -implicitDefEqProofs [e3, e4, e10]
    refine vCall_of c44 ?_
    simp -implicitDefEqProofs
    intro b _
    exact hk _ (by simp [e2, e10])
  rintro s ⟨e2, e10, e12, e13⟩
  clear c43 c44 cc c2
  have d2 := valid37_ok d
  by_cases hed : errE d = 0
  case neg =>
    rw [decide_eq_false hed] at d2
    simp -implicitDefEqProofs [e12]
    refine vCall_of d2 ?_
    simp -implicitDefEqProofs
    refine vCall_of aw ?_
    simp -implicitDefEqProofs [r9]
  rw [decide_eq_true hed] at d2
  have hdk := Case.ok hed
  have c39 := order39_ok l (by omega)
  have c21 := why21_ok d (l.map Hold.who)
  have c18 := chain18_ok d
  have c33 := forged33_ok d
  have c40 := unknown40_ok d l (by omega)
  obtain ⟨hwhy, b, u, hch, hu⟩ := tale.chain hed
  have hunk := tale.unk
  rw [hwhy] at c21
  rw [hch] at c18
  rw [forged_none hed (tale.some hdk)] at c33
  generalize unkO d (l.map Hold.who) = w at *
  obtain ⟨W, hWW⟩ : ∃ W, W = l.map Hold.who := ⟨_, rfl⟩
  rw [← hWW] at c39 c21
  generalize unknownS d l = v at *
  refine cutS (fun st => st.env 2 = U n ∧ st.env 10 = HL l ∧ st.env 12 = caseRef d ∧ st.env 13 = IL ys) ?_ ?_
  · intro k hk
    simp -implicitDefEqProofs [e12]
    refine vCall_of d2 ?_
    simp -implicitDefEqProofs
    exact hk _ (by simp [e2, e10, e12, e13])
  clear e2 e10 e12 e13
  rintro s ⟨e2, e10, e12, e13⟩
  refine cutS (fun st => st.env 2 = U n ∧ st.env 10 = HL l ∧ st.env 12 = caseRef d ∧ st.env 13 = IL ys ∧ st.env 14 = I w ∧ st.env 15 = I 0) ?_ ?_
  · intro k hk
    simp -implicitDefEqProofs [e10, e12]
    refine vCall_of c39 ?_
    simp -implicitDefEqProofs
    refine vCall_of c21 ?_
    simp -implicitDefEqProofs
    exact hk _ (by simp [e2, e10, e12, e13])
  clear e2 e10 e12 e13
  rintro s ⟨e2, e10, e12, e13, e14, e15⟩
  refine cutS (fun st => st.env 2 = U n ∧ st.env 10 = HL l ∧ st.env 12 = caseRef d ∧ st.env 13 = IL ys ∧ st.env 14 = I w ∧ st.env 15 = I 0 ∧ st.env 17 = I u ∧ st.env 18 = I 0) ?_ ?_
  · intro k hk
    simp -implicitDefEqProofs [e12]
    refine vCall_of c18 ?_
    simp -implicitDefEqProofs
    exact hk _ (by simp [e2, e10, e12, e13, e14, e15])
  clear e2 e10 e12 e13 e14 e15
  rintro s ⟨e2, e10, e12, e13, e14, e15, e17, e18⟩
  refine cutS (fun st => st.env 2 = U n ∧ st.env 10 = HL l ∧ st.env 12 = caseRef d ∧ st.env 13 = IL ys ∧ st.env 14 = I w ∧ st.env 15 = I 0 ∧ st.env 17 = I u ∧ st.env 18 = I 0 ∧ st.env 19 = IL [] ∧ st.env 20 = I 0) ?_ ?_
  · intro k hk
    simp -implicitDefEqProofs [e12]
    refine vCall_of c33 ?_
    simp -implicitDefEqProofs
    exact hk _ (by simp [e2, e10, e12, e13, e14, e15, e17, e18])
  clear e2 e10 e12 e13 e14 e15 e17 e18
  rintro s ⟨e2, e10, e12, e13, e14, e15, e17, e18, e19, e20⟩
  refine cutS (fun st => st.env 2 = U n ∧ st.env 10 = HL l ∧ st.env 12 = caseRef d ∧ st.env 13 = IL ys) ?_ ?_
  · intro k hk
    have n1 : ¬ v < w := by omega
    have n2 : ¬ w < u := by omega
    simp -implicitDefEqProofs [e10, e12, e14, e15, e18, e20]
    refine vCall_of c40 ?_
    simp -implicitDefEqProofs [e14, e17, e19, n1, n2]
    exact hk _ (by simp [e2, e10, e12, e13])
  clear e2 e10 e12 e13 e14 e15 e17 e18 e19 e20
  rintro s ⟨e2, e10, e12, e13⟩
  refine cutS (fun st => st.env 2 = U n ∧ st.env 10 = HL l ∧ st.env 12 = caseRef d) ?_ ?_
  · intro k0 hk0
    simp -implicitDefEqProofs
    refine loop_up ys.length (fun k st => st.env 2 = U n ∧ st.env 10 = HL l ∧ st.env 12 = caseRef d ∧ st.env 13 = IL ys ∧ st.env 21 = I k) ?_ ?_
    · simp [e2, e10, e12, e13]
    clear e2 e10 e12 e13
    rintro k s hk ⟨e2, e10, e12, e13, e21⟩
    simp -implicitDefEqProofs [e13, e21]
    refine cond_dec (fun hlt => ?_) (fun hge => ?_)
    · have hlt : k < ys.length := by omega
      have hm8 := err_marks hed
      have hlm := tale.len
      refine stepB ?_
      obtain ⟨ya, yb, hY, y1, y2⟩ := tale.year hed (i := k) (by omega)
      have c26 := year26_ok d k
      rw [hY] at c26
      have hyk : ys.getD k 0 = ys[k] := by rw [List.getD_eq_getElem?_getD, List.getElem?_eq_getElem hlt]; rfl
      rw [hyk] at y1 y2
      have cin := inside_ok ys[k] ya yb
      rw [decide_eq_true ⟨y1, y2⟩] at cin
      refine cutS (fun st => st.env 2 = U n ∧ st.env 10 = HL l ∧ st.env 12 = caseRef d ∧ st.env 13 = IL ys ∧ st.env 21 = I k ∧ st.env 22 = .ref [I ya, I yb] ∧ st.env 23 = I 0) ?_ ?_
      · intro k1 hk1
        simp -implicitDefEqProofs [e12, e21]
        refine vCall_of c26 ?_
        simp -implicitDefEqProofs
        intro q _
        exact hk1 _ (by simp [e2, e10, e12, e13, e21])
      clear e2 e10 e12 e13 e21
      rintro s ⟨e2, e10, e12, e13, e21, e22, e23⟩
      simp -implicitDefEqProofs [e13, e21, e22, e23, hlt]
      refine vCall_of cin ?_
      simp -implicitDefEqProofs [e21]
      exact ⟨i64 (by omega) (by omega), round_ok hlt (by simp [e2, e10, e12, e13])⟩
    · obtain rfl : k = ys.length := by omega
      simp -implicitDefEqProofs
      exact hk0 _ (by simp [e2, e10, e12])
  clear e2 e10 e12 e13
  rintro s ⟨e2, e10, e12⟩
  by_cases hl0 : l = []
  · have hz : ((l.length : Int) == 0) = true := by simp [hl0]
    simp -implicitDefEqProofs [e10, hl0]
    refine vCall_of aw ?_
    simp -implicitDefEqProofs [r9]
  have hlp := List.length_pos_iff.2 hl0
  refine cutS (fun st => st.env 2 = U n ∧ st.env 10 = HL l ∧ st.env 12 = caseRef d) ?_ ?_
  · intro k hk
    have hz : ((l.length : Int) == 0) = false := by simp [hl0]
    simp -implicitDefEqProofs [e10, hz]
    exact hk _ (by simp [e2, e10, e12])
  clear e2 e10 e12
  rintro s ⟨e2, e10, e12⟩
  obtain ⟨j, hjj⟩ : ∃ j, j = n % l.length := ⟨_, rfl⟩
  have hj : j < l.length := by rw [hjj]; exact Nat.mod_lt n hlp
  have hm := tmod_nat n l.length
  rw [← hjj] at hm
  obtain ⟨H, hH⟩ : ∃ H, H = l[j] := ⟨_, rfl⟩
  have hlb := hin _ (List.getElem_mem hj)
  have hH' := hH.symm
  rw [← hH] at hlb
  have hyy := hok.years
  refine cutS (fun st => st.env 2 = U n ∧ st.env 12 = caseRef d ∧ st.env 24 = .ref [I H.who, I H.src, I H.til]) ?_ ?_
  · intro k hk
    simp -implicitDefEqProofs [e2, e10, hwn, hm, hj, hH', hl0]
    intro q _
    exact hk _ (by simp [e2, e12])
  clear e2 e10 e12
  rintro s ⟨e2, e12, e24⟩
  obtain ⟨t, ht⟩ : ∃ t : Nat, H.til - H.src + 1 = t ∧ 0 < t := ⟨(H.til - H.src + 1).toNat, by omega, by omega⟩
  have hm1 := tmod_nat n t
  have ht0 : ¬ t = 0 := by omega
  have htt := ht.1
  have hyd : 0 ≤ (n : Int) % (t : Int) ∧ (n : Int) % (t : Int) < t := ⟨Int.emod_nonneg _ (by omega), Int.emod_lt_of_pos _ (by omega)⟩
  obtain ⟨y, hy⟩ : ∃ y, y = H.src + (n : Int) % (t : Int) := ⟨_, rfl⟩
  have c28 := owned28_ok d y
  have hmem : H.who ∈ ownedS d y := by
    have t2 := tale.had1 hdk hj (y := y) (by rw [hH']; omega)
    rw [hH'] at t2
    have hr := tale.ord.rng H.who (List.mem_map.2 ⟨_, List.getElem_mem hj, by rw [hH']⟩)
    unfold ownedS
    have e : H.who = ((H.who.toNat : Nat) : Int) := by omega
    rw [e, mem_selT]
    refine ⟨by omega, ?_⟩
    exact t2.some (hadC_ok hdk (err_marks hed) (by omega) (by omega))
  have hO : ownedR d y = ⟨ownedS d y, 0⟩ := by
    unfold ownedR
    rw [if_neg (not_not_intro hed), out_none (by simp; omega), if_neg (by simp), tale.some hdk, if_neg (by simp)]
  rw [hO] at c28
  have chas := has_ok (ownedS d y) H.who
  rw [decide_eq_true hmem] at chas
  generalize ownedS d y = O at *
  refine cutS (fun st => st.env 24 = .ref [I H.who, I H.src, I H.til] ∧ st.env 25 = IL O ∧ st.env 26 = I 0) ?_ ?_
  · intro k hk
    simp -implicitDefEqProofs [e2, e12, e24, hwn, htt, hm1, ht0]
    rw [← hy]
    refine ⟨i64 (by omega) (by omega), i64 (by omega) (by omega), i64 (by omega) (by omega), vCall_of c28 ?_⟩
    simp -implicitDefEqProofs
    exact hk _ (by simp [e24])
  clear e2 e12 e24
  rintro s ⟨e24, e25, e26⟩
  simp -implicitDefEqProofs [e24, e25, e26]
  refine vCall_of chas ?_
  simp -implicitDefEqProofs
  refine vCall_of aw ?_
  simp -implicitDefEqProofs [r9]
theorem ownerTrue_ok (c : Case) (p : Past) (x : Int) (_ : CaseSz c) (op : p.OK) (ox : 0 ≤ x ∧ x ≤ 65535) : PCall Try.prog 9 [encCase c, encPast p, U x] (B true) := by
  obtain ⟨n, rfl⟩ : ∃ n : Nat, x = n := ⟨x.toNat, by omega⟩
  exact ownerTrue_at c p n op (by omega)
end Go.Proofs.Ytiampdiobdianaa

