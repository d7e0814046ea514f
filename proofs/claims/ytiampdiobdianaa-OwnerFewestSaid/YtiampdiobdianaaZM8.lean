/- The resolved code of some functions, written by program, each held against the function by the kernel. The law OwnerFewest: its contract. -/
import Derived.Test.YtiampdiobdianaaZD
import Derived.KernelRfl
import Derived.Test.YtiampdiobdianaaZL
namespace Go.Proofs.Ytiampdiobdianaa
open Go.Avm

/- duodecimo/duodecimolaw08.OwnerFewest -/
def ann8 : Ann := { muts := [], nilsz := [], oid := [], frz := [], zero := [], ord := [], ap := [], own := [], yl := [], fz := [], imm := [], ic := [], cl := [], ylL := [], rl := [] }
def m8 : MCode := (.seq (.reg [.boxI 2 (.t 0) 5, .asg 4 (.c (.lit (.bool false)))])
 (.seq (.seq (.reg [.load 15 (.t 2) (some 5), .call 16 37 [(.t 15)], .not 17 (.t 16)])
 (.cond (.t 17) (.seq (.reg [.load 19 (.t 2) (some 5), .call 20 21 [(.t 19), (.c (.slice 1 [] 0))], .cpy 18 (.t 20), .ext 21 (.t 18) 0, .ext 22 (.t 18) 1, .asg 5 (.t 21), .asg 6 (.t 22)])
 (.seq (.reg [.cpy 23 (.t 6), .bin 24 .neq (.t 23) (.c (.lit (.int .i64 0))), .cpy 25 (.t 24), .guard 25 true (some 26) (.call 26 23 []), .pick 27 (.t 25) (.t 26) (.c (.lit (.bool false))), .asg 4 (.t 27)])
 .ret)) .skip))
 (.seq (.reg [.load 29 (.t 2) (some 5), .call 30 18 [(.t 29)], .cpy 28 (.t 30), .ext 31 (.t 28) 0, .ext 32 (.t 28) 1, .ext 33 (.t 28) 2, .asg 7 (.t 31), .asg 8 (.t 32), .asg 9 (.t 33)])
 (.seq (.reg [.load 34 (.t 2) (some 5), .cpy 35 (.t 1), .conv 36 .i64 (.t 35), .call 37 41 [(.t 34), (.t 36)], .asg 10 (.t 37)])
 (.seq (.reg [.load 39 (.t 2) (some 5), .cpy 40 (.t 10), .call 41 21 [(.t 39), (.t 40)], .cpy 38 (.t 41), .ext 42 (.t 38) 0, .ext 43 (.t 38) 1, .asg 11 (.t 42), .asg 12 (.t 43)])
 (.seq (.seq (.reg [.cpy 44 (.t 9), .bin 45 .neq (.t 44) (.c (.lit (.int .i64 0)))])
 (.cond (.t 45) (.seq (.reg [.cpy 46 (.t 9), .bin 47 .eql (.t 46) (.c (.lit (.int .i64 8))), .cpy 48 (.t 47), .guard 48 true (some 49) (.cpy 49 (.t 12)), .guard 48 true (some 50) (.bin 50 .eql (.t 49) (.c (.lit (.int .i64 9)))), .pick 51 (.t 48) (.t 50) (.c (.lit (.bool false))), .cpy 52 (.t 51), .guard 52 true (some 53) (.call 53 23 []), .pick 54 (.t 52) (.t 53) (.c (.lit (.bool false))), .asg 4 (.t 54)])
 .ret) .skip))
 (.seq (.seq (.reg [.cpy 55 (.t 12), .bin 56 .neq (.t 55) (.c (.lit (.int .i64 0)))])
 (.cond (.t 56) (.seq (.reg [.cpy 57 (.t 12), .bin 58 .eql (.t 57) (.c (.lit (.int .i64 9))), .cpy 59 (.t 58), .guard 59 true (some 60) (.cpy 60 (.t 11)), .guard 59 true (some 61) (.bin 61 .eql (.t 60) (.c (.lit (.int .i64 0)))), .pick 62 (.t 59) (.t 61) (.c (.lit (.bool false))), .cpy 63 (.t 62), .guard 63 true (some 64) (.call 64 23 []), .pick 65 (.t 63) (.t 64) (.c (.lit (.bool false))), .asg 4 (.t 65)])
 .ret) .skip))
 (.seq (.reg [.cpy 66 (.t 7), .call 67 39 [(.t 66)], .asg 13 (.t 67)])
 (.seq (.reg [.cpy 68 (.t 10), .len 69 (.t 68), .cpy 70 (.t 13), .len 71 (.t 70), .bin 72 .lss (.t 69) (.t 71), .cpy 73 (.t 72), .guard 73 false (some 74) (.cpy 74 (.t 10)), .guard 73 false (some 75) (.len 75 (.t 74)), .guard 73 false (some 76) (.cpy 76 (.t 13)), .guard 73 false (some 77) (.len 77 (.t 76)), .guard 73 false (some 78) (.bin 78 .eql (.t 75) (.t 77)), .guard 73 false (some 79) (.cpy 79 (.t 78)), .guard 79 true (some 80) (.cpy 80 (.t 10)), .guard 79 true (some 81) (.cpy 81 (.t 13)), .guard 79 true (some 82) (.call 82 42 [(.t 80), (.t 81)]), .guard 73 false (some 83) (.pick 83 (.t 79) (.t 82) (.c (.lit (.bool false)))), .pick 84 (.t 73) (.c (.lit (.bool true))) (.t 83), .asg 14 (.t 84)])
 (.seq (.reg [.cpy 85 (.t 11), .cpy 86 (.t 8), .bin 87 .geq (.t 85) (.t 86), .cpy 88 (.t 87), .guard 88 true (some 89) (.cpy 89 (.t 14)), .guard 88 true (some 90) (.not 90 (.t 89)), .guard 88 true (some 91) (.cpy 91 (.t 90)), .guard 91 false (some 92) (.cpy 92 (.t 11)), .guard 91 false (some 93) (.cpy 93 (.t 8)), .guard 91 false (some 94) (.bin 94 .gtr (.t 92) (.t 93)), .guard 88 true (some 95) (.pick 95 (.t 91) (.c (.lit (.bool true))) (.t 94)), .pick 96 (.t 88) (.t 95) (.c (.lit (.bool false))), .cpy 97 (.t 96), .guard 97 true (some 98) (.call 98 23 []), .pick 99 (.t 97) (.t 98) (.c (.lit (.bool false))), .asg 4 (.t 99)])
 .ret))))))))))
def r8 : List MRes := [.tmp 4]
theorem tr8 : Try.f8.body.bind (trC Try.prog ann8 Try.f8.ntmps) = some m8 := by kernel_rfl
theorem rs8 : trRes Try.prog Try.f8.results.toList = some r8 := by kernel_rfl
theorem fn8 : isFunc Try.prog 8 = true := by kernel_rfl
end Go.Proofs.Ytiampdiobdianaa

namespace Go.Proofs.Ytiampdiobdianaa
open Go.Avm

theorem ownerFewest_ok (c : Case) (x : Int) (_ : CaseSz c) (ox : 0 ≤ x ∧ x ≤ 65535) : PCall Try.prog 8 [encCase c, U x] (B true) := by
  refine pcall Try.func8 tr8 rs8 fn8 (by simp [Try.ntmps8]) fun _ => ?_
  have hwr := wrap_u ox
  obtain ⟨n, rfl⟩ : ∃ n : Nat, x = n := ⟨x.toNat, by omega⟩
  have aw := awake23_ok
  have c2 := valid37_ok c
  simp -implicitDefEqProofs only [m8]
  refine cutS (fun st => st.env 1 = U n ∧ st.env 2 = caseRef c) ?_ ?_
  · intro k hk
    simp -implicitDefEqProofs
    exact hk _ (by simp)
  rintro s ⟨e1, e2⟩
  by_cases he : errE c = 0
  case neg =>
    rw [decide_eq_false he] at c2
    have hw := why21_ok c []
    rw [why_err he] at hw
    generalize errE c = E at *
    have he2 : (E != 0) = true := by simp [he]
    simp -implicitDefEqProofs [e2]
    refine vCall_of c2 ?_
    simp -implicitDefEqProofs [e2]
    refine vCall_of hw ?_
    simp -implicitDefEqProofs [he2]
    refine vCall_of aw ?_
    simp -implicitDefEqProofs [r8]
  rw [decide_eq_true he] at c2
  have hok := Case.ok he
  have hn6 := hok.ownersLen
  have h1 := chain18_ok c
  have h2 := any41_ok hn6 n
  have ho := anyO_ok c n
  have h3 := why21_ok c (anyO c n)
  generalize anyO c n = O at *
  refine cutS (fun st => st.env 1 = U n ∧ st.env 2 = caseRef c) ?_ ?_
  · intro k hk
    simp -implicitDefEqProofs [e2]
    refine vCall_of c2 ?_
    simp -implicitDefEqProofs
    exact hk _ (by simp [e1, e2])
  rintro s ⟨e1, e2⟩
  refine cutS (fun st => st.env 7 = HL (chainS c).l ∧ st.env 8 = I (chainS c).u ∧ st.env 9 = I (chainS c).e ∧ st.env 1 = U n ∧ st.env 2 = caseRef c) ?_ ?_
  · intro k hk
    simp -implicitDefEqProofs [e2]
    refine vCall_of h1 ?_
    simp -implicitDefEqProofs
    exact hk _ (by simp [e1, e2])
  rintro s ⟨e7, e8, e9, e1, e2⟩
  refine cutS (fun st => st.env 7 = HL (chainS c).l ∧ st.env 8 = I (chainS c).u ∧ st.env 9 = I (chainS c).e ∧ st.env 10 = IL O ∧ st.env 2 = caseRef c) ?_ ?_
  · intro k hk
    simp -implicitDefEqProofs [e1, e2, hwr]
    refine vCall_of h2 ?_
    simp -implicitDefEqProofs
    exact hk _ (by simp [e2, e7, e8, e9])
  rintro s ⟨e7, e8, e9, e10, e2⟩
  refine cutS (fun st => st.env 7 = HL (chainS c).l ∧ st.env 8 = I (chainS c).u ∧ st.env 9 = I (chainS c).e ∧ st.env 10 = IL O ∧ st.env 11 = I (whyS c O).a ∧ st.env 12 = I (whyS c O).e) ?_ ?_
  · intro k hk
    simp -implicitDefEqProofs [e2, e10]
    refine vCall_of h3 ?_
    simp -implicitDefEqProofs
    exact hk _ (by simp [e7, e8, e9, e10])
  rintro s ⟨e7, e8, e9, e10, e11, e12⟩
  cases hb : bestS c (chainsL c) with
  | none =>
    rw [chain_none he hb] at e7 e8 e9
    rw [why_none he ho (no_chain hb ho)] at e11 e12
    simp -implicitDefEqProofs [e9, e12]
    refine vCall_of aw ?_
    simp -implicitDefEqProofs [r8]
  | some l =>
  rw [chain_some he hb] at e7 e8 e9
  obtain ⟨k, hk, hk2, hoo, hs, hH, hmin⟩ := best_chain hok hb
  have hpair := chains_pair hok
  refine cutS (fun st => st.env 7 = HL (cutL l) ∧ st.env 8 = I (unknownS c l) ∧ st.env 10 = IL O ∧ st.env 11 = I (whyS c O).a ∧ st.env 12 = I (whyS c O).e) ?_ ?_
  · intro k hk
    simp -implicitDefEqProofs [e9]
    exact hk _ (by simp [e7, e8, e10, e11, e12])
  rintro s ⟨e7, e8, e10, e11, e12⟩
  cases hO : solveS c O with
  | none =>
    rw [why_none he ho hO] at e11 e12
    simp -implicitDefEqProofs [e11, e12]
    refine vCall_of aw ?_
    simp -implicitDefEqProofs [r8]
  | some l2 =>
  rw [why_some he ho hO, ← solve_unknown hok ho hO] at e11 e12
  obtain ⟨j, hj, hjj⟩ := chains_pos ho hO
  have hm := hmin j hj
  have hpj := fun h => hpair j k hj hk h
  rw [hjj] at hm hpj
  have hor := order39_ok (cutL l) (by
    have h1 := congrArg List.length hH.who
    rw [List.length_map] at h1
    have := nodup_len _ _ hoo.nd hoo.rng
    omega)
  rw [hH.who] at hor
  generalize (chainsL c)[k] = pk at *
  obtain ⟨own, lk⟩ := pk
  have hk2 : lk = l := hk2
  subst hk2
  have hle : lessL O own = true → unknownS c lk < unknownS c l2 := fun h => hm.2 (hpj h)
  have hge : unknownS c lk ≤ unknownS c l2 := hm.1
  have hor : PCall Try.prog 39 [HL (cutL lk)] (IL own) := hor
  obtain ⟨u1, hu1⟩ : ∃ u, u = unknownS c lk := ⟨_, rfl⟩
  obtain ⟨u2, hu2⟩ : ∃ u, u = unknownS c l2 := ⟨_, rfl⟩
  obtain ⟨L, hL⟩ : ∃ L, L = cutL lk := ⟨_, rfl⟩
  rw [← hu1] at hle hge e8
  rw [← hu2] at hle hge e11
  rw [← hL] at e7 hor
  refine cutS (fun st => st.env 7 = HL L ∧ st.env 8 = I u1 ∧ st.env 10 = IL O ∧ st.env 11 = I u2) ?_ ?_
  · intro k hk
    simp -implicitDefEqProofs [e12]
    exact hk _ (by simp [e7, e8, e10, e11])
  rintro s ⟨e7, e8, e10, e11⟩
  refine cutS (fun st => st.env 8 = I u1 ∧ st.env 10 = IL O ∧ st.env 11 = I u2 ∧ st.env 13 = IL own) ?_ ?_
  · intro k hk
    simp -implicitDefEqProofs [e7]
    refine vCall_of hor ?_
    simp -implicitDefEqProofs
    exact hk _ (by simp [e8, e10, e11])
  rintro s ⟨e8, e10, e11, e13⟩
  refine cutS (fun st => st.env 8 = I u1 ∧ st.env 11 = I u2 ∧ st.env 14 = B (lessL O own)) ?_ ?_
  · intro k hk
    by_cases g1 : O.length < own.length
    · have gl : lessL O own = true := by unfold lessL; rw [if_pos (by omega)]; simpa using g1
      simp -implicitDefEqProofs [e10, e13, g1]
      exact hk _ (by simp [e8, e11, gl])
    · by_cases g2 : O.length = own.length
      · have gl : lessL O own = lexL O own := by unfold lessL; rw [if_neg (by omega)]
        simp -implicitDefEqProofs [e10, e13, g2]
        refine vCall_of (before42_ok O own g2) ?_
        simp -implicitDefEqProofs
        exact hk _ (by simp [e8, e11, gl])
      · have gl : lessL O own = false := by unfold lessL; rw [if_pos (by omega)]; simpa using g1
        have g2' : ((O.length : Int) == (own.length : Int)) = false := by simp; omega
        simp -implicitDefEqProofs [e10, e13, g1, g2']
        exact hk _ (by simp [e8, e11, gl])
  rintro s ⟨e8, e11, e14⟩
  cases hl : lessL O own with
  | true =>
    have := hle hl
    rw [hl] at e14
    simp -implicitDefEqProofs [e8, e11, e14, hge, this]
    refine vCall_of aw ?_
    simp -implicitDefEqProofs [r8]
  | false =>
    rw [hl] at e14
    simp -implicitDefEqProofs [e8, e11, e14, hge]
    refine vCall_of aw ?_
    simp -implicitDefEqProofs [r8]
end Go.Proofs.Ytiampdiobdianaa

