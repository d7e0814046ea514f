/- The resolved code of some functions, written by program, each held against the function by the kernel. The law OwnerReached: its contract. -/
import Derived.Test.YtiampdiobdianaaZD
import Derived.KernelRfl
import Derived.Test.YtiampdiobdianaaZL
namespace Go.Proofs.Ytiampdiobdianaa
open Go.Avm

/- duodecimo/duodecimolaw08.OwnerReached -/
def ann10 : Ann := { muts := [], nilsz := [], oid := [], frz := [6], zero := [(6, [(.lit (.int .i64 0)), (.lit (.int .i64 0))]), (116, [(.lit (.int .i64 0))])], ord := [(7, [0, 1, 2, 3, 4, 5, 6, 7, 8, 9, 10, 11, 12, 13, 14, 15]), (8, [0, 1, 2, 3, 4, 5, 6, 7, 8, 9, 10, 11, 12, 13, 14, 15, 16, 17, 18, 19, 20, 21, 22, 23, 24, 25, 26, 27, 28, 29, 30, 31, 32])], ap := [], own := [4], yl := [], fz := [], imm := [], ic := [], cl := [], ylL := [], rl := [] }
def m10 : MCode := (.seq (.reg [.boxI 2 (.t 0) 5, .boxI 3 (.t 1) 2, .asg 4 (.c (.lit (.bool false)))])
 (.seq (.seq (.reg [.load 17 (.t 2) (some 5), .call 18 37 [(.t 17)], .not 19 (.t 18), .cpy 20 (.t 19), .guard 20 false (some 21) (.addr 21 (.t 2) 3), .guard 20 false (some 22) (.load 22 (.t 21) none), .guard 20 false (some 23) (.len 23 (.t 22)), .guard 20 false (some 24) (.bin 24 .eql (.t 23) (.c (.lit (.int .i64 0)))), .pick 25 (.t 20) (.c (.lit (.bool true))) (.t 24)])
 (.cond (.t 25) (.seq (.reg [.call 26 23 [], .asg 4 (.t 26)])
 .ret) .skip))
 (.seq (.reg [.idxA 27 (.t 3) (.c (.lit (.int .i64 0))) 2 1, .load 28 (.t 27) none, .conv 29 .i64 (.t 28), .addr 30 (.t 2) 3, .load 31 (.t 30) none, .len 32 (.t 31), .bin 33 .rem (.t 29) (.t 32), .asg 5 (.t 33)])
 (.seq (.reg [.load 35 (.t 2) (some 5), .cpy 36 (.t 5), .call 37 26 [(.t 35), (.t 36)], .cpy 34 (.t 37), .ext 38 (.t 34) 0, .ext 39 (.t 34) 1, .alloc 6 [(.lit (.int .i64 0)), (.lit (.int .i64 0))], .storeF 6 (.t 38) 2, .asg 7 (.t 39)])
 (.seq (.reg [.load 41 (.t 2) (some 5), .call 42 18 [(.t 41)], .cpy 40 (.t 42), .ext 43 (.t 40) 0, .ext 44 (.t 40) 1, .ext 45 (.t 40) 2, .asg 8 (.t 43), .asg 9 (.t 44), .asg 10 (.t 45)])
 (.seq (.seq (.reg [.cpy 46 (.t 7), .bin 47 .neq (.t 46) (.c (.lit (.int .i64 0)))])
 (.cond (.t 47) (.seq (.reg [.cpy 48 (.t 7), .bin 49 .eql (.t 48) (.c (.lit (.int .i64 8))), .cpy 50 (.t 49), .guard 50 true (some 51) (.cpy 51 (.t 10)), .guard 50 true (some 52) (.cpy 52 (.t 7)), .guard 50 true (some 53) (.bin 53 .eql (.t 51) (.t 52)), .pick 54 (.t 50) (.t 53) (.c (.lit (.bool false))), .cpy 55 (.t 54), .guard 55 true (some 56) (.load 56 (.t 6) (some 2)), .guard 55 true (some 57) (.call 57 36 [(.c (.lit (.int .i64 0))), (.c (.lit (.int .i64 0)))]), .guard 55 true (some 58) (.binA 58 false [false, false] (.t 56) (.t 57)), .pick 59 (.t 55) (.t 58) (.c (.lit (.bool false))), .cpy 60 (.t 59), .guard 60 true (some 61) (.call 61 23 []), .pick 62 (.t 60) (.t 61) (.c (.lit (.bool false))), .asg 4 (.t 62)])
 .ret) .skip))
 (.seq (.seq (.reg [.cpy 63 (.t 10), .bin 64 .neq (.t 63) (.c (.lit (.int .i64 0))), .cpy 65 (.t 64), .guard 65 false (some 66) (.addr 66 (.t 6) 0), .guard 65 false (some 67) (.load 67 (.t 66) none), .guard 65 false (some 68) (.addr 68 (.t 6) 1), .guard 65 false (some 69) (.load 69 (.t 68) none), .guard 65 false (some 70) (.bin 70 .gtr (.t 67) (.t 69)), .pick 71 (.t 65) (.c (.lit (.bool true))) (.t 70), .cpy 72 (.t 71), .guard 72 false (some 73) (.addr 73 (.t 6) 0), .guard 72 false (some 74) (.load 74 (.t 73) none), .guard 72 false (some 75) (.addr 75 (.t 2) 3), .guard 72 false (some 76) (.load 76 (.t 75) none), .guard 72 false (some 77) (.cpy 77 (.t 5)), .guard 72 false (some 78) (.idxS 78 (.t 76) (.t 77) 4), .guard 72 false (some 79) (.addr 79 (.t 78) 1), .guard 72 false (some 80) (.addr 80 (.t 79) 0), .guard 72 false (some 81) (.load 81 (.t 80) none), .guard 72 false (some 82) (.bin 82 .lss (.t 74) (.t 81)), .pick 83 (.t 72) (.c (.lit (.bool true))) (.t 82), .cpy 84 (.t 83), .guard 84 false (some 85) (.addr 85 (.t 6) 1), .guard 84 false (some 86) (.load 86 (.t 85) none), .guard 84 false (some 87) (.addr 87 (.t 2) 3), .guard 84 false (some 88) (.load 88 (.t 87) none), .guard 84 false (some 89) (.cpy 89 (.t 5)), .guard 84 false (some 90) (.idxS 90 (.t 88) (.t 89) 4), .guard 84 false (some 91) (.addr 91 (.t 90) 1), .guard 84 false (some 92) (.addr 92 (.t 91) 1), .guard 84 false (some 93) (.load 93 (.t 92) none), .guard 84 false (some 94) (.bin 94 .gtr (.t 86) (.t 93)), .pick 95 (.t 84) (.c (.lit (.bool true))) (.t 94)])
 (.cond (.t 95) (.seq (.reg [.asg 4 (.c (.lit (.bool false)))])
 .ret) .skip))
 (.seq (.reg [.idxA 96 (.t 3) (.c (.lit (.int .i64 1))) 2 1, .load 97 (.t 96) none, .conv 98 .i64 (.t 97), .bin 99 .add (.c (.lit (.int .i64 1))) (.t 98), .asg 11 (.t 99)])
 (.seq (.seq (.reg [.asg 12 (.c (.lit (.int .i64 0)))])
 (.block 0 (.loop (.seq (.seq (.reg [.cpy 100 (.t 12), .bin 101 .lss (.t 100) (.c (.lit (.int .i64 4)))])
 (.cond (.t 101) .skip (.exit 0)))
 (.seq (.block 1 (.seq (.reg [.addr 104 (.t 6) 0, .load 105 (.t 104) none, .addr 106 (.t 6) 1, .load 107 (.t 106) none, .addr 108 (.t 6) 0, .load 109 (.t 108) none, .cpy 110 (.t 11), .bin 111 .sub (.t 109) (.t 110), .addr 112 (.t 6) 1, .load 113 (.t 112) none, .cpy 114 (.t 11), .bin 115 .add (.t 113) (.t 114), .mkS 116 4 1 [(.lit (.int .i64 0))] [(0, (.t 105)), (1, (.t 107)), (2, (.t 111)), (3, (.t 115))], .cpy 117 (.t 12), .idxS 118 (.t 116) (.t 117) 1, .load 119 (.t 118) none, .asg 13 (.t 119)])
 (.seq (.seq (.reg [.cpy 120 (.t 13), .addr 121 (.t 2) 3, .load 122 (.t 121) none, .cpy 123 (.t 5), .idxS 124 (.t 122) (.t 123) 4, .addr 125 (.t 124) 1, .load 126 (.t 125) (some 2), .call 127 45 [(.t 120), (.t 126)], .not 128 (.t 127)])
 (.cond (.t 128) (.exit 1) .skip))
 (.seq (.reg [.load 130 (.t 2) (some 5), .cpy 131 (.t 5), .cpy 132 (.t 13), .call 133 47 [(.t 130), (.t 131), (.t 132)], .call 134 18 [(.t 133)], .cpy 129 (.t 134), .ext 135 (.t 129) 0, .ext 136 (.t 129) 1, .ext 137 (.t 129) 2, .asg 14 (.t 135), .asg 15 (.t 136), .asg 16 (.t 137)])
 (.seq (.reg [.cpy 138 (.t 16), .bin 139 .eql (.t 138) (.c (.lit (.int .i64 0))), .cpy 140 (.t 12), .bin 141 .lss (.t 140) (.c (.lit (.int .i64 2))), .binB 142 true (.t 139) (.t 141)])
 (.cond (.t 142) (.seq (.reg [.asg 4 (.c (.lit (.bool false)))])
 .ret) .skip))))))
 (.reg [.cpy 102 (.t 12), .bin 103 .add (.t 102) (.c (.lit (.int .i64 1))), .asg 12 (.t 103)]))))))
 (.seq (.reg [.call 143 23 [], .asg 4 (.t 143)])
 .ret))))))))))
def r10 : List MRes := [.tmp 4]
theorem tr10 : Try.f10.body.bind (trC Try.prog ann10 Try.f10.ntmps) = some m10 := by kernel_rfl
theorem rs10 : trRes Try.prog Try.f10.results.toList = some r10 := by kernel_rfl
theorem fn10 : isFunc Try.prog 10 = true := by kernel_rfl
end Go.Proofs.Ytiampdiobdianaa

namespace Go.Proofs.Ytiampdiobdianaa
open Go.Avm

/-- What Chain says of a case of which a mark is of a year. -/
theorem in_chain {c : Case} (h : errE c = 0) {i : Nat} {y : Int} (hy : c.printed ≤ y ∧ y ≤ c.now) : (chainS (inC c i y)).e = if madeP c i y then 0 else 8 := chain_e (errE_in h hy)

theorem ownerReached_at (c : Case) (a b : Int) (oa : 0 ≤ a ∧ a ≤ 255) (ob : 0 ≤ b ∧ b ≤ 255) : PCall Try.prog 10 [encCase c, .agg [V a, V b]] (B true) := by
  refine pcall Try.func10 tr10 rs10 fn10 (by simp [Try.ntmps10]) fun _ => ?_
  have hwa := wrap_v oa
  have hwb := wrap_v ob
  obtain ⟨n, rfl⟩ : ∃ n : Nat, a = n := ⟨a.toNat, by omega⟩
  have aw := awake23_ok
  have c2 := valid37_ok c
  simp -implicitDefEqProofs only [m10]
  refine cutS (fun st => st.env 2 = caseRef c ∧ st.env 3 = .ref [V n, V b]) ?_ ?_
  · intro k hk
    simp -implicitDefEqProofs
    exact hk _ (by simp)
  rintro s ⟨e2, e3⟩
  by_cases he : errE c = 0
  case neg =>
    rw [decide_eq_false he] at c2
    simp -implicitDefEqProofs [e2]
    refine vCall_of c2 ?_
    simp -implicitDefEqProofs
    refine vCall_of aw ?_
    simp -implicitDefEqProofs [r10]
  rw [decide_eq_true he] at c2
  by_cases hz : c.marks = []
  · simp -implicitDefEqProofs [e2]
    refine vCall_of c2 ?_
    simp -implicitDefEqProofs [e2, hz]
    refine vCall_of aw ?_
    simp -implicitDefEqProofs [r10]
  have hok := Case.ok he
  have hm9 := hok.marksLen
  have hyy := hok.years
  have hlp := List.length_pos_iff.2 hz
  have hi := Nat.mod_lt n hlp
  have hm := tmod_nat n c.marks.length
  have hl0 : ¬ c.marks.length = 0 := by omega
  obtain ⟨i, hii⟩ : ∃ i, i = n % c.marks.length := ⟨_, rfl⟩
  rw [← hii] at hm hi
  have cy := year26_ok c i
  have cc := chain18_ok c
  refine cutS (fun st => st.env 2 = caseRef c ∧ st.env 3 = .ref [V n, V b]) ?_ ?_
  · intro k hk
    have hz' : ((c.marks.length : Int) == 0) = false := by simp; exact hz
    simp -implicitDefEqProofs [e2]
    refine vCall_of c2 ?_
    simp -implicitDefEqProofs [e2, hz']
    exact hk _ (by simp [e2, e3])
  rintro s ⟨e2, e3⟩
  refine cutS (fun st => st.env 2 = caseRef c ∧ st.env 3 = .ref [V n, V b] ∧ st.env 5 = I i) ?_ ?_
  · intro k hk
    simp -implicitDefEqProofs [e2, e3, hwa, hl0, hm]
    refine hk _ ⟨?_, ?_, ?_⟩
    · simp [e2]
    · simp [e3]
    · simp
  rintro s ⟨e2, e3, e5⟩
  obtain ⟨Y, hY⟩ : ∃ Y, Y = yearS c i := ⟨_, rfl⟩
  rw [← hY] at cy
  refine cutS (fun st => st.env 2 = caseRef c ∧ st.env 3 = .ref [V n, V b] ∧ st.env 5 = I i ∧ st.env 6 = .ref [I Y.a, I Y.b] ∧ st.env 7 = I Y.e) ?_ ?_
  · intro k hk
    simp -implicitDefEqProofs [e2, e5]
    refine vCall_of cy ?_
    simp -implicitDefEqProofs
    intro q _
    exact hk _ (by simp [e2, e3, e5])
  rintro s ⟨e2, e3, e5, e6, e7⟩
  have hce := chain_e he
  refine cutS (fun st => st.env 2 = caseRef c ∧ st.env 3 = .ref [V n, V b] ∧ st.env 5 = I i ∧ st.env 6 = .ref [I Y.a, I Y.b] ∧ st.env 7 = I Y.e ∧ st.env 10 = I (if someB c then 0 else 8)) ?_ ?_
  · intro k hk
    simp -implicitDefEqProofs [e2]
    refine vCall_of cc ?_
    simp -implicitDefEqProofs [hce]
    exact hk _ (by simp [e2, e3, e5, e6, e7])
  rintro s ⟨e2, e3, e5, e6, e7, e10⟩
  have hob : out 0 ((c.marks.length : Int) - 1) [(i : Int)] = false := out_none (by simp; omega)
  unfold yearS at hY
  rw [if_neg (not_not_intro he), hob, if_neg (by simp)] at hY
  cases hs : someB c with
  | false =>
    rw [hs, if_pos rfl] at hY
    rw [hs] at e10
    subst hY
    simp -implicitDefEqProofs [e6, e7, e10]
    refine vCall_of (span36_ok 0 0) ?_
    simp -implicitDefEqProofs
    refine vCall_of aw ?_
    simp -implicitDefEqProofs [r10]
  | true =>
  rw [hs, if_neg (by simp), Int.toNat_natCast] at hY
  rw [hs] at e10
  obtain ⟨y, y1, y2, y3⟩ := year_some hok hs hi
  have hLs := upTo_spec (madeP c i) (c.marks[i].hi - c.marks[i].lo).toNat c.marks[i].lo y y1 (by omega) y3
  have hL : yearLoP c i = upTo (madeP c i) c.marks[i].lo (c.marks[i].hi - c.marks[i].lo).toNat := by unfold yearLoP; rw [mk_at hi]
  rw [← hL] at hLs
  have hHs := dnTo_spec (madeP c i) (c.marks[i].hi - c.marks[i].lo).toNat c.marks[i].hi y y2 (by omega) y3
  rw [← yearHi_eq hok hs hi] at hHs
  have hmk := hok.marks _ (List.getElem_mem hi)
  obtain ⟨L, hLL⟩ : ∃ L, L = yearLoP c i := ⟨_, rfl⟩
  obtain ⟨H, hHH⟩ : ∃ H, H = yearHiP c i := ⟨_, rfl⟩
  rw [← hLL] at hLs hY
  rw [← hHH] at hHs hY
  subst hY
  have hin := fun y => in47_ok hm9 hi y
  have hic := fun y => chain18_ok (inC c i y)
  have hie := fun y hy => in_chain he (i := i) (y := y) hy
  have hLi := upTo_in (madeP c i) (c.marks[i].hi - c.marks[i].lo).toNat c.marks[i].lo
  rw [← hL, ← hLL] at hLi
  have hHi := dnTo_in (madeP c i) (c.marks[i].hi - c.marks[i].lo).toNat c.marks[i].hi
  rw [← yearHi_eq hok hs hi, ← hHH] at hHi
  generalize hmm : c.marks[i] = m at *
  obtain ⟨l1, l2, l3⟩ := hLs
  obtain ⟨g1, g2, g3⟩ := hHs
  refine cutS (fun st => st.env 2 = caseRef c ∧ st.env 3 = .ref [V n, V b] ∧ st.env 5 = I i ∧ st.env 6 = .ref [I L, I H] ∧ st.env 10 = I 0) ?_ ?_
  · intro k hk
    simp -implicitDefEqProofs [e7]
    exact hk _ (by simp [e2, e3, e5, e6, e10])
  rintro s ⟨e2, e3, e5, e6, e10⟩
  refine cutS (fun st => st.env 2 = caseRef c ∧ st.env 3 = .ref [V n, V b] ∧ st.env 5 = I i ∧ st.env 6 = .ref [I L, I H]) ?_ ?_
  · intro k hk
    have n1 : ¬ H < L := by omega
    have n2 : ¬ L < m.lo := by omega
    have n3 : ¬ m.hi < H := by omega
    simp -implicitDefEqProofs [e2, e5, e6, e10, hi, hmm, n1, n2, n3]
    exact hk _ (by simp [e2, e3, e5, e6])
  rintro s ⟨e2, e3, e5, e6⟩
  refine cutS (fun st => st.env 2 = caseRef c ∧ st.env 5 = I i ∧ st.env 6 = .ref [I L, I H] ∧ st.env 11 = I (1 + b)) ?_ ?_
  · intro k hk
    simp -implicitDefEqProofs [e3, hwb]
    exact ⟨i64 (by omega) (by omega), hk _ (by simp [e2, e5, e6])⟩
  rintro s ⟨e2, e5, e6, e11⟩
  refine cutS (fun _ => True) ?_ ?_
  · intro k0 hk0
    simp -implicitDefEqProofs
    refine loop_up 4 (fun k st => st.env 2 = caseRef c ∧ st.env 5 = I i ∧ st.env 6 = .ref [I L, I H] ∧ st.env 11 = I (1 + b) ∧ st.env 12 = I k) ?_ ?_
    · simp [e2, e5, e6, e11]
    rintro k s hk ⟨e2, e5, e6, e11, e12⟩
    simp -implicitDefEqProofs [e12]
    refine cond_dec (fun hlt => ?_) (fun hge => ?_)
    · have hlt : k < 4 := by omega
      obtain ⟨yk, hyk, hyp⟩ : ∃ yk, [L, H, L - (1 + b), H + (1 + b)].getD k 0 = yk ∧ (m.lo ≤ yk ∧ yk ≤ m.hi → madeP c i yk = decide (k < 2)) := by
        match k, hlt with
        | 0, _ => exact ⟨_, rfl, fun _ => l1⟩
        | 1, _ => exact ⟨_, rfl, fun _ => g1⟩
        | 2, _ => exact ⟨_, rfl, fun h => l3 _ h.1 (by show L - (1 + b) < L; omega)⟩
        | 3, _ => exact ⟨_, rfl, fun h => g3 _ h.2 (by show H < H + (1 + b); omega)⟩
      have hkk : k < [L, H, L - (1 + b), H + (1 + b)].length := by simp; omega
      have hgk : [L, H, L - (1 + b), H + (1 + b)][k] = yk := by
        rw [← hyk, List.getD_eq_getElem?_getD, List.getElem?_eq_getElem hkk, Option.getD_some]
      have hb4 : (k : Int) < 4 := by omega
      refine stepB ?_
      refine cutS (fun st => st.env 2 = caseRef c ∧ st.env 5 = I i ∧ st.env 6 = .ref [I L, I H] ∧ st.env 11 = I (1 + b) ∧ st.env 12 = I k ∧ st.env 13 = I yk) ?_ ?_
      · intro k1 hk1
        have hgk2 : [I L, I H, I (L - (1 + b)), I (H + (1 + b))][k]?.getD AV.any = I yk := by
          rw [show [I L, I H, I (L - (1 + b)), I (H + (1 + b))] = [L, H, L - (1 + b), H + (1 + b)].map I from rfl, List.getElem?_map, List.getElem?_eq_getElem hkk, hgk]
          rfl
        simp -implicitDefEqProofs [e6, e11, e12, hgk2]
        refine ⟨i64 (by omega) (by omega), i64 (by omega) (by omega), by omega, ?_⟩
        exact hk1 _ (by simp [e2, e5, e6, e11, e12])
      rintro s ⟨e2, e5, e6, e11, e12, e13⟩
      by_cases hins : m.lo ≤ yk ∧ yk ≤ m.hi
      case neg =>
        have hi1 := inside_ok yk m.lo m.hi
        rw [decide_eq_false hins] at hi1
        simp -implicitDefEqProofs [e2, e5, e13, hi, hmm]
        refine vCall_of hi1 ?_
        simp -implicitDefEqProofs [e12]
        exact ⟨i64 (by omega) (by omega), round_ok hlt (by simp [e2, e5, e6, e11])⟩
      have hi1 := inside_ok yk m.lo m.hi
      rw [decide_eq_true hins] at hi1
      have hmd := hyp hins
      have he2 := hie yk (by omega)
      rw [hmd] at he2
      refine cutS (fun st => st.env 2 = caseRef c ∧ st.env 5 = I i ∧ st.env 6 = .ref [I L, I H] ∧ st.env 11 = I (1 + b) ∧ st.env 12 = I k ∧ st.env 13 = I yk) ?_ ?_
      · intro k1 hk1
        simp -implicitDefEqProofs [e2, e5, e13, hi, hmm]
        refine vCall_of hi1 ?_
        simp -implicitDefEqProofs
        exact hk1 _ (by simp [e2, e5, e6, e11, e12, e13])
      rintro s ⟨e2, e5, e6, e11, e12, e13⟩
      refine cutS (fun st => st.env 2 = caseRef c ∧ st.env 5 = I i ∧ st.env 6 = .ref [I L, I H] ∧ st.env 11 = I (1 + b) ∧ st.env 12 = I k ∧ st.env 16 = I (if decide (k < 2) = true then 0 else 8)) ?_ ?_
      · intro k1 hk1
        simp -implicitDefEqProofs [e2, e5, e13]
        refine vCall_of (hin yk) ?_
        simp -implicitDefEqProofs
        refine vCall_of (hic yk) ?_
        simp -implicitDefEqProofs [he2]
        exact hk1 _ (by simp [e2, e5, e6, e11, e12])
      rintro s ⟨e2, e5, e6, e11, e12, e16⟩
      by_cases hk2 : k < 2
      · rw [decide_eq_true hk2, if_pos rfl] at e16
        have hk3 : (k : Int) < 2 := by omega
        simp -implicitDefEqProofs [e12, e16, hk3]
        exact ⟨i64 (by omega) (by omega), round_ok hlt (by simp [e2, e5, e6, e11])⟩
      · rw [decide_eq_false hk2, if_neg (by simp)] at e16
        have hk3 : ¬ (k : Int) < 2 := by omega
        simp -implicitDefEqProofs [e12, e16, hk3]
        exact ⟨i64 (by omega) (by omega), round_ok hlt (by simp [e2, e5, e6, e11])⟩
    · simp -implicitDefEqProofs
      exact hk0 _ trivial
  intro s _
  simp -implicitDefEqProofs
  refine vCall_of aw ?_
  simp -implicitDefEqProofs [r10]
theorem ownerReached_ok (c : Case) (xs : List Int) (_ : CaseSz c) (ox : xs.length = 2 ∧ ∀ x ∈ xs, 0 ≤ x ∧ x ≤ 255) : PCall Try.prog 10 [encCase c, .agg (xs.flatMap fun y => (V y).cells)] (B true) :=
  match xs, ox with
  | [a, b], h => ownerReached_at c a b (h.2 a (by simp)) (h.2 b (by simp))
end Go.Proofs.Ytiampdiobdianaa

