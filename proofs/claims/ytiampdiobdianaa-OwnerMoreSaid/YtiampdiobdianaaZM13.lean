/- The resolved code of some functions, written by program, each held against the function by the kernel. The law OwnerMore: its contract. -/
import Derived.Test.YtiampdiobdianaaZD
import Derived.KernelRfl
import Derived.Test.YtiampdiobdianaaZL
namespace Go.Proofs.Ytiampdiobdianaa
open Go.Avm

/- duodecimo/duodecimolaw08.OwnerMore -/
def ann13 : Ann := { muts := [], nilsz := [], oid := [(40, 9003), (49, 9004)], frz := [], zero := [(8, [(.lit (.int .i64 0)), (.lit (.int .i64 0)), (.slice 3 [] 9002), (.slice 4 [] 9003), (.slice 3 [] 9004)]), (23, [(.lit (.int .i64 0)), (.lit (.int .i64 0))]), (24, [(.lit (.int .i64 0)), (.lit (.int .i64 0))]), (32, [(.lit (.int .i64 0)), (.lit (.int .i64 0)), (.lit (.int .i64 0)), (.lit (.int .i64 0))]), (38, [(.lit (.int .i64 0)), (.lit (.int .i64 0)), (.lit (.int .i64 0)), (.lit (.int .i64 0))]), (41, [(.lit (.int .i64 0)), (.lit (.int .i64 0)), (.lit (.int .i64 0))]), (47, [(.lit (.int .i64 0)), (.lit (.int .i64 0)), (.lit (.int .i64 0))])], ord := [(6, [1, 2, 4, 5, 0, 6, 3, 7, 8, 9]), (7, [1, 2, 4, 5, 0, 6, 3, 7, 8, 9]), (9, [0, 1, 2, 3, 4, 5, 6, 7, 8, 9, 10, 11]), (10, [0, 1, 2, 3, 4, 5, 6, 7, 8, 9, 10, 11]), (18, [0, 1, 2, 3, 4, 5, 6, 7, 8, 9, 10, 11, 12, 13]), (29, [0, 1, 2, 3, 4, 5, 6, 7, 8, 9, 10, 11, 12, 13, 14]), (30, [0, 1, 2, 3, 4, 5, 6, 7, 8, 9, 10, 11, 12, 13, 14])], ap := [(23, []), (24, []), (40, []), (49, [])], own := [10, 12, 17, 19, 21], yl := [], fz := [], imm := [], ic := [], cl := [], ylL := [], rl := [] }
def m13 : MCode := (.seq (.reg [.boxI 3 (.t 0) 5, .boxI 4 (.t 1) 7, .boxI 5 (.t 2) 3, .asg 6 (.c (.lit (.bool false)))])
 (.seq (.seq (.reg [.asg 7 (.c (.lit (.int .i64 0)))])
 (.block 0 (.loop (.seq (.seq (.reg [.cpy 25 (.t 7), .bin 26 .lss (.t 25) (.c (.lit (.int .i64 2)))])
 (.cond (.t 26) .skip (.exit 0)))
 (.seq (.block 1 (.seq (.reg [.load 29 (.t 3) (some 5), .alloc 8 [(.lit (.int .i64 0)), (.lit (.int .i64 0)), (.slice 3 [] 9002), (.slice 4 [] 9003), (.slice 3 [] 9004)], .store (.t 8) (.t 29) 5 0])
 (.seq (.seq (.reg [.cpy 30 (.t 7), .bin 31 .eql (.t 30) (.c (.lit (.int .i64 0)))])
 (.cond (.t 31) (.reg [.addr 33 (.t 3) 3, .load 34 (.t 33) none, .addr 36 (.t 4) 0, .load 37 (.t 36) (some 4), .mkS 32 0 4 [(.lit (.int .i64 0)), (.lit (.int .i64 0)), (.lit (.int .i64 0)), (.lit (.int .i64 0))] [], .mkS 38 1 4 [(.lit (.int .i64 0)), (.lit (.int .i64 0)), (.lit (.int .i64 0)), (.lit (.int .i64 0))] [(0, (.t 37))], .app 35 (.t 32) (.t 34) 4 32, .app 39 (.t 35) (.t 38) 4 32, .addr 40 (.t 8) 3, .apart [] (.t 40) (.store (.t 40) (.t 39) 1 9003)]) (.reg [.addr 42 (.t 3) 4, .load 43 (.t 42) none, .addr 45 (.t 4) 4, .load 46 (.t 45) (some 3), .mkS 41 0 3 [(.lit (.int .i64 0)), (.lit (.int .i64 0)), (.lit (.int .i64 0))] [], .mkS 47 1 3 [(.lit (.int .i64 0)), (.lit (.int .i64 0)), (.lit (.int .i64 0))] [(0, (.t 46))], .app 44 (.t 41) (.t 43) 3 24, .app 48 (.t 44) (.t 47) 3 24, .addr 49 (.t 8) 4, .apart [] (.t 49) (.store (.t 49) (.t 48) 1 9004)])))
 (.seq (.seq (.reg [.load 50 (.t 8) (some 5), .call 51 37 [(.t 50)], .not 52 (.t 51), .cpy 53 (.t 52), .guard 53 false (some 54) (.load 54 (.t 3) (some 5)), .guard 53 false (some 55) (.call 55 37 [(.t 54)]), .guard 53 false (some 56) (.not 56 (.t 55)), .pick 57 (.t 53) (.c (.lit (.bool true))) (.t 56)])
 (.cond (.t 57) (.exit 1) .skip))
 (.seq (.reg [.load 59 (.t 3) (some 5), .load 60 (.t 3) (some 5), .idxA 61 (.t 5) (.c (.lit (.int .i64 0))) 3 1, .load 62 (.t 61) none, .conv 63 .i64 (.t 62), .call 64 41 [(.t 60), (.t 63)], .call 65 21 [(.t 59), (.t 64)], .cpy 58 (.t 65), .ext 66 (.t 58) 0, .ext 67 (.t 58) 1, .cpyE 9 (.t 66), .asg 10 (.t 67)])
 (.seq (.reg [.load 69 (.t 8) (some 5), .load 70 (.t 3) (some 5), .idxA 71 (.t 5) (.c (.lit (.int .i64 0))) 3 1, .load 72 (.t 71) none, .conv 73 .i64 (.t 72), .call 74 41 [(.t 70), (.t 73)], .call 75 21 [(.t 69), (.t 74)], .cpy 68 (.t 75), .ext 76 (.t 68) 0, .ext 77 (.t 68) 1, .cpyE 11 (.t 76), .asg 12 (.t 77)])
 (.seq (.seq (.reg [.cpy 78 (.t 12), .bin 79 .eql (.t 78) (.c (.lit (.int .i64 0))), .cpy 80 (.t 79), .guard 80 true (some 81) (.cpy 81 (.t 10)), .guard 80 true (some 82) (.bin 82 .neq (.t 81) (.c (.lit (.int .i64 0)))), .guard 80 true (some 83) (.cpy 83 (.t 82)), .guard 83 false (some 84) (.cpy 84 (.t 11)), .guard 83 false (some 85) (.cpy 85 (.t 9)), .guard 83 false (some 86) (.bin 86 .lss (.t 84) (.t 85)), .guard 80 true (some 87) (.pick 87 (.t 83) (.c (.lit (.bool true))) (.t 86)), .pick 88 (.t 80) (.t 87) (.c (.lit (.bool false)))])
 (.cond (.t 88) (.seq (.reg [.asg 6 (.c (.lit (.bool false)))])
 .ret) .skip))
 (.seq (.reg [.load 90 (.t 3) (some 5), .call 91 18 [(.t 90)], .cpy 89 (.t 91), .ext 92 (.t 89) 0, .ext 93 (.t 89) 1, .ext 94 (.t 89) 2, .asg 13 (.t 92), .asg 14 (.t 93), .asg 10 (.t 94)])
 (.seq (.reg [.load 96 (.t 8) (some 5), .call 97 18 [(.t 96)], .cpy 95 (.t 97), .ext 98 (.t 95) 0, .ext 99 (.t 95) 1, .ext 100 (.t 95) 2, .asg 15 (.t 98), .asg 16 (.t 99), .asg 12 (.t 100)])
 (.seq (.seq (.reg [.cpy 101 (.t 12), .bin 102 .neq (.t 101) (.c (.lit (.int .i64 0)))])
 (.cond (.t 102) (.exit 1) .skip))
 (.seq (.seq (.reg [.cpy 103 (.t 10), .bin 104 .neq (.t 103) (.c (.lit (.int .i64 0))), .cpy 105 (.t 104), .guard 105 false (some 106) (.cpy 106 (.t 16)), .guard 105 false (some 107) (.cpy 107 (.t 14)), .guard 105 false (some 108) (.bin 108 .lss (.t 106) (.t 107)), .pick 109 (.t 105) (.c (.lit (.bool true))) (.t 108)])
 (.cond (.t 109) (.seq (.reg [.asg 6 (.c (.lit (.bool false)))])
 .ret) .skip))
 (.seq (.reg [.addr 110 (.t 3) 0, .load 111 (.t 110) none, .idxA 112 (.t 5) (.c (.lit (.int .i64 2))) 3 1, .load 113 (.t 112) none, .conv 114 .i64 (.t 113), .addr 115 (.t 3) 1, .load 116 (.t 115) none, .addr 117 (.t 3) 0, .load 118 (.t 117) none, .bin 119 .sub (.t 116) (.t 118), .bin 120 .add (.t 119) (.c (.lit (.int .i64 1))), .bin 121 .rem (.t 114) (.t 120), .bin 122 .add (.t 111) (.t 121), .asg 17 (.t 122)])
 (.seq (.reg [.load 124 (.t 3) (some 5), .cpy 125 (.t 17), .call 126 28 [(.t 124), (.t 125)], .cpy 123 (.t 126), .ext 127 (.t 123) 0, .ext 128 (.t 123) 1, .asg 18 (.t 127), .asg 19 (.t 128)])
 (.seq (.reg [.load 130 (.t 8) (some 5), .cpy 131 (.t 17), .call 132 28 [(.t 130), (.t 131)], .cpy 129 (.t 132), .ext 133 (.t 129) 0, .ext 134 (.t 129) 1, .asg 20 (.t 133), .asg 21 (.t 134)])
 (.seq (.seq (.reg [.cpy 135 (.t 19), .bin 136 .neq (.t 135) (.c (.lit (.int .i64 0))), .cpy 137 (.t 136), .guard 137 false (some 138) (.cpy 138 (.t 21)), .guard 137 false (some 139) (.bin 139 .neq (.t 138) (.c (.lit (.int .i64 0)))), .pick 140 (.t 137) (.c (.lit (.bool true))) (.t 139)])
 (.cond (.t 140) (.seq (.reg [.asg 6 (.c (.lit (.bool false)))])
 .ret) .skip))
 (.seq (.seq (.reg [.asg 22 (.c (.lit (.int .i64 0)))])
 (.block 2 (.loop (.seq (.seq (.reg [.cpy 141 (.t 22), .cpy 142 (.t 20), .len 143 (.t 142), .bin 144 .lss (.t 141) (.t 143)])
 (.cond (.t 144) .skip (.exit 2)))
 (.seq (.block 3 (.seq (.reg [.cpy 147 (.t 18), .cpy 148 (.t 20), .cpy 149 (.t 22), .idxS 150 (.t 148) (.t 149) 1, .load 151 (.t 150) none, .call 152 46 [(.t 147), (.t 151)], .not 153 (.t 152)])
 (.cond (.t 153) (.seq (.reg [.asg 6 (.c (.lit (.bool false)))])
 .ret) .skip)))
 (.reg [.cpy 145 (.t 22), .bin 146 .add (.t 145) (.c (.lit (.int .i64 1))), .asg 22 (.t 146)]))))))
 (.seq (.seq (.reg [.addr 154 (.t 3) 3, .load 155 (.t 154) none, .len 156 (.t 155), .bin 157 .eql (.t 156) (.c (.lit (.int .i64 0)))])
 (.cond (.t 157) (.exit 1) .skip))
 (.seq (.reg [.load 159 (.t 3) (some 5), .idxA 160 (.t 5) (.c (.lit (.int .i64 1))) 3 1, .load 161 (.t 160) none, .conv 162 .i64 (.t 161), .addr 163 (.t 3) 3, .load 164 (.t 163) none, .len 165 (.t 164), .bin 166 .rem (.t 162) (.t 165), .call 167 26 [(.t 159), (.t 166)], .cpy 158 (.t 167), .ext 168 (.t 158) 0, .ext 169 (.t 158) 1, .alloc 23 [(.lit (.int .i64 0)), (.lit (.int .i64 0))], .apart [] (.t 23) (.store (.t 23) (.t 168) 2 0), .asg 19 (.t 169)])
 (.seq (.reg [.load 171 (.t 8) (some 5), .idxA 172 (.t 5) (.c (.lit (.int .i64 1))) 3 1, .load 173 (.t 172) none, .conv 174 .i64 (.t 173), .addr 175 (.t 3) 3, .load 176 (.t 175) none, .len 177 (.t 176), .bin 178 .rem (.t 174) (.t 177), .call 179 26 [(.t 171), (.t 178)], .cpy 170 (.t 179), .ext 180 (.t 170) 0, .ext 181 (.t 170) 1, .alloc 24 [(.lit (.int .i64 0)), (.lit (.int .i64 0))], .apart [] (.t 24) (.store (.t 24) (.t 180) 2 0), .asg 21 (.t 181)])
 (.seq (.reg [.cpy 182 (.t 19), .bin 183 .neq (.t 182) (.c (.lit (.int .i64 0))), .cpy 184 (.t 183), .guard 184 false (some 185) (.cpy 185 (.t 21)), .guard 184 false (some 186) (.bin 186 .neq (.t 185) (.c (.lit (.int .i64 0)))), .pick 187 (.t 184) (.c (.lit (.bool true))) (.t 186), .cpy 188 (.t 187), .guard 188 false (some 189) (.addr 189 (.t 24) 0), .guard 188 false (some 190) (.load 190 (.t 189) none), .guard 188 false (some 191) (.addr 191 (.t 23) 0), .guard 188 false (some 192) (.load 192 (.t 191) none), .guard 188 false (some 193) (.bin 193 .lss (.t 190) (.t 192)), .pick 194 (.t 188) (.c (.lit (.bool true))) (.t 193), .cpy 195 (.t 194), .guard 195 false (some 196) (.addr 196 (.t 24) 1), .guard 195 false (some 197) (.load 197 (.t 196) none), .guard 195 false (some 198) (.addr 198 (.t 23) 1), .guard 195 false (some 199) (.load 199 (.t 198) none), .guard 195 false (some 200) (.bin 200 .gtr (.t 197) (.t 199)), .pick 201 (.t 195) (.c (.lit (.bool true))) (.t 200)])
 (.cond (.t 201) (.seq (.reg [.asg 6 (.c (.lit (.bool false)))])
 .ret) .skip)))))))))))))))))))))
 (.reg [.cpy 27 (.t 7), .bin 28 .add (.t 27) (.c (.lit (.int .i64 1))), .asg 7 (.t 28)]))))))
 (.seq (.reg [.call 202 23 [], .asg 6 (.t 202)])
 .ret)))
def r13 : List MRes := [.tmp 6]
theorem tr13 : Try.f13.body.bind (trC Try.prog ann13 Try.f13.ntmps) = some m13 := by kernel_rfl
theorem rs13 : trRes Try.prog Try.f13.results.toList = some r13 := by kernel_rfl
theorem fn13 : isFunc Try.prog 13 = true := by kernel_rfl
end Go.Proofs.Ytiampdiobdianaa

namespace Go.Proofs.Ytiampdiobdianaa
open Go.Avm

def moreM (c : Case) (m : Mk) : Case := { c with marks := c.marks ++ [m] }
def moreS (c : Case) (s : Sale) : Case := { c with sales := c.sales ++ [s] }
/-- What one more mark or sale changes. -/
structure More (c d : Case) : Prop where
  weak : errE c = 0 → Weak c d id
  marks : ∀ i (h : i < c.marks.length), ∃ h2 : i < d.marks.length, d.marks[i] = c.marks[i]
theorem more_mark (c : Case) (m : Mk) : More c (moreM c m) := by
  have hat : ∀ i (h : i < c.marks.length), ∃ h2 : i < (moreM c m).marks.length, (moreM c m).marks[i] = c.marks[i] := fun i h => ⟨by simp [moreM]; omega, by simp only [moreM]; rw [List.getElem_append_left h]⟩
  refine ⟨fun he => ⟨rfl, rfl, rfl, fun q hq => ?_, fun s hs => ⟨s, hs, rfl, rfl⟩, fun x _ => ⟨Int.le_refl _, Int.le_refl _, Int.le_refl _, Int.le_refl _⟩⟩, hat⟩
  obtain ⟨h2, e⟩ := hat q hq
  have hup := (Case.ok he).upon q hq
  refine ⟨h2, ?_⟩
  simp only [id]
  rw [e]
  exact ⟨rfl, Int.le_refl _, Int.le_refl _, fun hn => by omega⟩
theorem more_sale (c : Case) (s : Sale) : More c (moreS c s) := by
  refine ⟨fun he => ⟨rfl, rfl, rfl, fun q hq => ?_, fun t ht => ⟨t, by simp [moreS, ht], rfl, rfl⟩, fun x _ => ?_⟩, fun i h => ⟨h, rfl⟩⟩
  · have hup := (Case.ok he).upon q hq
    refine ⟨hq, rfl, Int.le_refl _, Int.le_refl _, fun hn => ?_⟩
    show c.marks[q].upon = ((c.marks[q].upon.toNat : Nat) : Int)
    omega
  · have e1 : bLo (moreS c s) (moreS c s).sales x = if s.dst = (x : Int) then max (bLo c c.sales x) s.year else bLo c c.sales x := bLo_snoc c c.sales s x
    have e2 : bHi (moreS c s) (moreS c s).sales x = if s.dst = (x : Int) then min (bHi c c.sales x) s.year else bHi c c.sales x := bHi_snoc c c.sales s x
    have e3 : gLo (moreS c s) (moreS c s).sales x = if s.src = (x : Int) then max (gLo c c.sales x) s.year else gLo c c.sales x := gLo_snoc c c.sales s x
    have e4 : gHi (moreS c s) (moreS c s).sales x = if s.src = (x : Int) then min (gHi c c.sales x) s.year else gHi c c.sales x := gHi_snoc c c.sales s x
    rw [e1, e2, e3, e4]
    refine ⟨?_, ?_, ?_, ?_⟩ <;> split <;> omega
/-- The cells of a case with owners' marks. -/
abbrev cellsR (d : Case) (r1 r2 : Nat) : List AV := [I d.printed, I d.now, .slice 3 (d.owners.map encOwner) 0, .slice 4 (d.marks.map encMark) r1, .slice 3 (d.sales.map encSale) r2]

/-- What stays in a round of the law. -/
structure MJ (c d : Case) (FC xs : List AV) (b8 r1 r2 k : Nat) (s : St) : Prop where
  e : s.env 3 = caseRef c ∧ s.env 4 = .ref FC ∧ s.env 5 = .ref xs ∧ s.env 7 = I k ∧ s.env 8 = .mref b8 0
  l : s.loc b8 = some (cellsR d r1 r2)
theorem MJ.ext {c d : Case} {FC xs : List AV} {b8 r1 r2 k : Nat} {s s' : St} (h : MJ c d FC xs b8 r1 r2 k s) (he : ∀ j ∈ [3, 4, 5, 7, 8], s'.env j = s.env j) (hl : s'.loc b8 = s.loc b8) : MJ c d FC xs b8 r1 r2 k s' := by
  simp only [List.mem_cons, List.not_mem_nil, or_false, forall_eq_or_imp, forall_eq] at he
  obtain ⟨a3, a4, a5, a7, a8⟩ := he
  obtain ⟨e3, e4, e5, e7, e8⟩ := h.e
  exact ⟨⟨a3.trans e3, a4.trans e4, a5.trans e5, a7.trans e7, a8.trans e8⟩, hl.trans h.l⟩
theorem ownerMore_at (c : Case) (m : Mk) (sl : Sale) (a b d : Int) (hsz : CaseSz c) (oa : 0 ≤ a ∧ a ≤ 65535) (ob : 0 ≤ b ∧ b ≤ 65535) (od : 0 ≤ d ∧ d ≤ 65535) : PCall Try.prog 13 [encCase c, encFurther (m, sl), .agg [U a, U b, U d]] (B true) := by
  refine pcall Try.func13 tr13 rs13 fn13 (by simp [Try.ntmps13]) fun _ => ?_
  have hwa := wrap_u oa
  have hwb := wrap_u ob
  have hwd := wrap_u od
  obtain ⟨na, rfl⟩ : ∃ n : Nat, a = n := ⟨a.toNat, by omega⟩
  obtain ⟨nb, rfl⟩ : ∃ n : Nat, b = n := ⟨b.toNat, by omega⟩
  obtain ⟨nd, rfl⟩ : ∃ n : Nat, d = n := ⟨d.toNat, by omega⟩
  have aw := awake23_ok
  simp -implicitDefEqProofs only [m13]
  obtain ⟨FC, hFC⟩ : ∃ FC, FC = [I m.owner, I m.lo, I m.hi, I m.upon, I sl.year, I sl.src, I sl.dst] := ⟨_, rfl⟩
  refine cutS (fun st => st.env 3 = caseRef c ∧ st.env 4 = .ref FC ∧ st.env 5 = .ref [U na, U nb, U nd]) ?_ ?_
  · intro k hk
    simp -implicitDefEqProofs
    exact hk _ (by simp [hFC])
  rintro s ⟨e3, e4, e5⟩
  refine cutS (fun _ => True) ?_ ?_
  · intro k0 hk0
    simp -implicitDefEqProofs
    refine loop_up 2 (fun k st => st.env 3 = caseRef c ∧ st.env 4 = .ref FC ∧ st.env 5 = .ref [U na, U nb, U nd] ∧ st.env 7 = I k) ?_ ?_
    · simp [e3, e4, e5]
    rintro k s hk ⟨e3, e4, e5, e7⟩
    simp -implicitDefEqProofs [e7]
    refine cond_dec (fun hlt => ?_) (fun hge => ?_)
    · have hlt : k < 2 := by omega
      refine stepB ?_
      refine cutS (fun st => st.env 3 = caseRef c ∧ st.env 4 = .ref FC ∧ st.env 5 = .ref [U na, U nb, U nd] ∧ st.env 7 = I k ∧ ∃ b8, st.env 8 = .mref b8 0 ∧ st.loc b8 = some (caseCells c)) ?_ ?_
      · intro k1 hk1
        simp -implicitDefEqProofs [e3]
        intro b8 _
        exact hk1 _ ⟨by simp [e3], by simp [e4], by simp [e5], by simp [e7], b8, by simp, by simp⟩
      rintro s ⟨e3, e4, e5, e7, b8, e8, l8⟩
      obtain ⟨D, hMo, hD⟩ : ∃ D, More c D ∧ D = if k = 0 then moreM c m else moreS c sl := by
        refine ⟨_, ?_, rfl⟩
        by_cases h : k = 0
        · rw [if_pos h]; exact more_mark c m
        · rw [if_neg h]; exact more_sale c sl
      refine cutS (fun st => st.env 3 = caseRef c ∧ st.env 4 = .ref FC ∧ st.env 5 = .ref [U na, U nb, U nd] ∧ st.env 7 = I k ∧ st.env 8 = .mref b8 0 ∧ ∃ r1 r2, st.loc b8 = some (cellsR D r1 r2)) ?_ ?_
      · intro k1 hk1
        by_cases h0 : k = 0
        · rw [if_pos h0] at hD
          have hc : cellsR D 9003 0 = [I c.printed, I c.now, .slice 3 (c.owners.map encOwner) 0, .slice 4 (c.marks.map encMark ++ [encMark m]) 9003, .slice 3 (c.sales.map encSale) 0] := by rw [hD]; simp [moreM]
          have h0' : ((k : Int) == 0) = true := by simp [h0]
          simp -implicitDefEqProofs [e3, e4, e7, e8, l8, h0', hFC]
          refine ⟨by omega, by omega, by omega, by omega, ?_⟩
          refine hk1 _ ⟨by simp [e3], by simp [e4, hFC], by simp [e5], by simp [e7], by simp [e8], 9003, 0, ?_⟩
          rw [hc]
          simp
        · rw [if_neg h0] at hD
          have hc : cellsR D 0 9004 = [I c.printed, I c.now, .slice 3 (c.owners.map encOwner) 0, .slice 4 (c.marks.map encMark) 0, .slice 3 (c.sales.map encSale ++ [encSale sl]) 9004] := by rw [hD]; simp [moreS]
          have h0' : ((k : Int) == 0) = false := by simp [h0]
          simp -implicitDefEqProofs [e3, e4, e7, e8, l8, h0', hFC]
          refine ⟨by omega, by omega, by omega, by omega, ?_⟩
          refine hk1 _ ⟨by simp [e3], by simp [e4, hFC], by simp [e5], by simp [e7], by simp [e8], 0, 9004, ?_⟩
          rw [hc]
          simp
      clear hD
      rintro s ⟨e3, e4, e5, e7, e8, r1, r2, l8⟩
      have cv := valid37_ok D
      have cc := valid37_ok c
      have hJ : MJ c D FC [U na, U nb, U nd] b8 r1 r2 k s := ⟨⟨e3, e4, e5, e7, e8⟩, l8⟩
      have hstop : ∀ s : St, MJ c D FC [U na, U nb, U nd] b8 r1 r2 k s → mwp Try.prog (.reg [.cpy 27 (.t 7), .bin 28 .add (.t 27) (.c (.lit (.int .i64 1))), .asg 7 (.t 28)]) (RoundOK 2 (fun k st => st.env 3 = caseRef c ∧ st.env 4 = .ref FC ∧ st.env 5 = .ref [U na, U nb, U nd] ∧ st.env 7 = I k) k) (blockE k0 (fun _ _ => False) 0) (fun s => resK s r13 fun ys => B true = resOf ys) s := by
        intro s hJ
        obtain ⟨e3, e4, e5, e7, e8⟩ := hJ.e
        simp -implicitDefEqProofs [e7]
        exact ⟨i64 (by omega) (by omega), round_ok hlt (by simp [e3, e4, e5])⟩
      clear e3 e4 e5 e7 e8 l8
      by_cases hD0 : errE D = 0
      case neg =>
        rw [decide_eq_false hD0] at cv
        obtain ⟨e3, e4, e5, e7, e8⟩ := hJ.e
        have l8 := hJ.l
        simp -implicitDefEqProofs [e8, l8]
        refine vCall_of cv ?_
        simp -implicitDefEqProofs [e7]
        exact ⟨i64 (by omega) (by omega), round_ok hlt (by simp [e3, e4, e5])⟩
      rw [decide_eq_true hD0] at cv
      by_cases he : errE c = 0
      case neg =>
        rw [decide_eq_false he] at cc
        obtain ⟨e3, e4, e5, e7, e8⟩ := hJ.e
        have l8 := hJ.l
        simp -implicitDefEqProofs [e8, l8]
        refine vCall_of cv ?_
        simp -implicitDefEqProofs [e3]
        refine vCall_of cc ?_
        simp -implicitDefEqProofs [e7]
        exact ⟨i64 (by omega) (by omega), round_ok hlt (by simp [e3, e4, e5])⟩
      rw [decide_eq_true he] at cc
      have hW := hMo.weak he
      have hok := Case.ok he
      have hokD := Case.ok hD0
      have hm8 := err_marks he
      have hd8 := err_marks hD0
      have hn6 := hok.ownersLen
      have hyr := hok.years
      refine cutS (fun st => MJ c D FC [U na, U nb, U nd] b8 r1 r2 k st) ?_ ?_
      · intro k1 hk1
        obtain ⟨e3, e4, e5, e7, e8⟩ := hJ.e
        have l8 := hJ.l
        simp -implicitDefEqProofs [e8, l8]
        refine vCall_of cv ?_
        simp -implicitDefEqProofs [e3]
        refine vCall_of cc ?_
        simp -implicitDefEqProofs
        exact hk1 _ (hJ.ext (by simp) (by simp))
      clear hJ
      intro s hJ
      have ho := anyO_ok c na
      have h2 := any41_ok hn6 na
      have hw1 := why21_ok c (anyO c na)
      have hw2 := why21_ok D (anyO c na)
      have hc1 := chain18_ok c
      have hc2 := chain18_ok D
      generalize anyO c na = O at *
      have hoD := hW.ord.1 ho
      refine cutS (fun st => MJ c D FC [U na, U nb, U nd] b8 r1 r2 k st ∧ st.env 9 = I (whyS c O).a ∧ st.env 10 = I (whyS c O).e) ?_ ?_
      · intro k1 hk1
        obtain ⟨e3, e4, e5, e7, e8⟩ := hJ.e
        simp -implicitDefEqProofs [e3, e5, hwa]
        refine vCall_of h2 ?_
        simp -implicitDefEqProofs
        refine vCall_of hw1 ?_
        simp -implicitDefEqProofs
        exact hk1 _ ⟨hJ.ext (by simp) (by simp), by simp, by simp⟩
      rintro s ⟨hJ, e9, e10⟩
      refine cutS (fun st => MJ c D FC [U na, U nb, U nd] b8 r1 r2 k st ∧ st.env 9 = I (whyS c O).a ∧ st.env 10 = I (whyS c O).e ∧ st.env 11 = I (whyS D O).a ∧ st.env 12 = I (whyS D O).e) ?_ ?_
      · intro k1 hk1
        obtain ⟨e3, e4, e5, e7, e8⟩ := hJ.e
        have l8 := hJ.l
        simp -implicitDefEqProofs [e3, e5, e8, l8, hwa]
        refine vCall_of h2 ?_
        simp -implicitDefEqProofs
        refine vCall_of hw2 ?_
        simp -implicitDefEqProofs
        exact hk1 _ ⟨hJ.ext (by simp) (by simp), by simp [e9], by simp [e10], by simp, by simp⟩
      rintro s ⟨hJ, e9, e10, e11, e12⟩
      refine cutS (fun st => MJ c D FC [U na, U nb, U nd] b8 r1 r2 k st) ?_ ?_
      · intro k1 hk1
        cases hs : solveS D O with
        | none =>
          rw [why_none hD0 hoD hs] at e11 e12
          simp -implicitDefEqProofs [e12]
          exact hk1 _ (hJ.ext (by simp) (by simp))
        | some l0 =>
          obtain ⟨l1, hl1, hle1⟩ := hW.solve hok hokD ho hs
          rw [why_some he ho hl1] at e9 e10
          rw [why_some hD0 hoD hs] at e11 e12
          have hnl : ¬ unkO D O < unkO c O := by omega
          simp -implicitDefEqProofs [e9, e10, e11, e12, hnl]
          exact hk1 _ (hJ.ext (by simp) (by simp))
      clear hJ e9 e10 e11 e12
      intro s hJ
      refine cutS (fun st => MJ c D FC [U na, U nb, U nd] b8 r1 r2 k st ∧ st.env 14 = I (chainS c).u ∧ st.env 10 = I (chainS c).e) ?_ ?_
      · intro k1 hk1
        obtain ⟨e3, e4, e5, e7, e8⟩ := hJ.e
        simp -implicitDefEqProofs [e3]
        refine vCall_of hc1 ?_
        simp -implicitDefEqProofs
        exact hk1 _ ⟨hJ.ext (by simp) (by simp), by simp, by simp⟩
      rintro s ⟨hJ, e14, e10⟩
      refine cutS (fun st => MJ c D FC [U na, U nb, U nd] b8 r1 r2 k st ∧ st.env 14 = I (chainS c).u ∧ st.env 10 = I (chainS c).e ∧ st.env 16 = I (chainS D).u ∧ st.env 12 = I (chainS D).e) ?_ ?_
      · intro k1 hk1
        obtain ⟨e3, e4, e5, e7, e8⟩ := hJ.e
        have l8 := hJ.l
        simp -implicitDefEqProofs [e8, l8]
        refine vCall_of hc2 ?_
        simp -implicitDefEqProofs
        exact hk1 _ ⟨hJ.ext (by simp) (by simp), by simp [e14], by simp [e10], by simp, by simp⟩
      rintro s ⟨hJ, e14, e10, e16, e12⟩
      cases hb : bestS D (chainsL D) with
      | none =>
        rw [chain_none hD0 hb] at e12
        obtain ⟨e3, e4, e5, e7, e8⟩ := hJ.e
        simp -implicitDefEqProofs [e12, e7]
        exact ⟨i64 (by omega) (by omega), round_ok hlt (by simp [e3, e4, e5])⟩
      | some l =>
      obtain ⟨l2, hl2, hle⟩ := hW.best hok hokD hb
      rw [chain_some hD0 hb] at e12 e16
      rw [chain_some he hl2] at e10 e14
      have hsD : someB D = true := by rw [← best_some_iff, hb]; rfl
      have hsc : someB c = true := by rw [← best_some_iff, hl2]; rfl
      refine cutS (fun st => MJ c D FC [U na, U nb, U nd] b8 r1 r2 k st ∧ st.env 14 = I (unknownS c l2) ∧ st.env 10 = I 0 ∧ st.env 16 = I (unknownS D l)) ?_ ?_
      · intro k1 hk1
        simp -implicitDefEqProofs [e12]
        exact hk1 _ ⟨hJ.ext (by simp) (by simp), by simp [e14], by simp [e10], by simp [e16]⟩
      rintro s ⟨hJ, e14, e10, e16⟩
      refine cutS (fun st => MJ c D FC [U na, U nb, U nd] b8 r1 r2 k st) ?_ ?_
      · intro k1 hk1
        have hnl : ¬ unknownS D l < unknownS c l2 := by omega
        simp -implicitDefEqProofs [e10, e14, e16, hnl]
        exact hk1 _ (hJ.ext (by simp) (by simp))
      clear hJ e10 e14 e16
      intro s hJ
      obtain ⟨w, hw⟩ : ∃ w : Nat, c.now - c.printed + 1 = w := ⟨(c.now - c.printed + 1).toNat, by omega⟩
      have hw0 : 0 < w := by omega
      have hyl := Nat.mod_lt nd hw0
      have hmd := tmod_nat nd w
      obtain ⟨z, hz⟩ : ∃ z, z = nd % w := ⟨_, rfl⟩
      rw [← hz] at hyl hmd
      obtain ⟨y, hy⟩ : ∃ y : Int, y = c.printed + (z : Int) := ⟨_, rfl⟩
      refine cutS (fun st => MJ c D FC [U na, U nb, U nd] b8 r1 r2 k st ∧ st.env 17 = I y) ?_ ?_
      · intro k1 hk1
        obtain ⟨e3, e4, e5, e7, e8⟩ := hJ.e
        have hw1 : ¬ w = 0 := by omega
        simp -implicitDefEqProofs [e3, e5, hwd, hw, hw1, hmd]
        exact ⟨i64 (by omega) (by omega), i64 (by omega) (by omega), i64 (by omega) (by omega), hk1 _ ⟨hJ.ext (by simp) (by simp), by simp [hy]⟩⟩
      rintro s ⟨hJ, e17⟩
      have hyin : c.printed ≤ y ∧ y ≤ c.now := by omega
      have hyinD : D.printed ≤ y ∧ y ≤ D.now := by rw [← hW.printed, ← hW.now]; exact hyin
      have howc : ownedR c y = ⟨ownedS c y, 0⟩ := by
        unfold ownedR
        rw [if_neg (not_not_intro he), out_none (by simpa using hyin), if_neg (by simp), hsc, if_neg (by simp)]
      have howD : ownedR D y = ⟨ownedS D y, 0⟩ := by
        unfold ownedR
        rw [if_neg (not_not_intro hD0), out_none (by simpa using hyinD), if_neg (by simp), hsD, if_neg (by simp)]
      have hq1 := owned28_ok c y
      have hq2 := owned28_ok D y
      rw [howc] at hq1
      rw [howD] at hq2
      have hsub := hW.owned hok hokD hm8 hd8 hyin
      have hlD : (ownedS D y).length ≤ 6 := Nat.le_trans (selT_len _ _) hokD.ownersLen
      generalize ownedS c y = P at *
      generalize ownedS D y = Q at *
      refine cutS (fun st => MJ c D FC [U na, U nb, U nd] b8 r1 r2 k st ∧ st.env 17 = I y ∧ st.env 18 = IL P ∧ st.env 19 = I 0) ?_ ?_
      · intro k1 hk1
        obtain ⟨e3, e4, e5, e7, e8⟩ := hJ.e
        simp -implicitDefEqProofs [e3, e17]
        refine vCall_of hq1 ?_
        simp -implicitDefEqProofs
        exact hk1 _ ⟨hJ.ext (by simp) (by simp), by simp [e17], by simp, by simp⟩
      rintro s ⟨hJ, e17, e18, e19⟩
      refine cutS (fun st => MJ c D FC [U na, U nb, U nd] b8 r1 r2 k st ∧ st.env 18 = IL P ∧ st.env 19 = I 0 ∧ st.env 20 = IL Q ∧ st.env 21 = I 0) ?_ ?_
      · intro k1 hk1
        obtain ⟨e3, e4, e5, e7, e8⟩ := hJ.e
        have l8 := hJ.l
        simp -implicitDefEqProofs [e8, l8, e17]
        refine vCall_of hq2 ?_
        simp -implicitDefEqProofs
        exact hk1 _ ⟨hJ.ext (by simp) (by simp), by simp [e18], by simp [e19], by simp, by simp⟩
      rintro s ⟨hJ, e18, e19, e20, e21⟩
      refine cutS (fun st => MJ c D FC [U na, U nb, U nd] b8 r1 r2 k st ∧ st.env 18 = IL P ∧ st.env 20 = IL Q) ?_ ?_
      · intro k1 hk1
        simp -implicitDefEqProofs [e19, e21]
        exact hk1 _ ⟨hJ.ext (by simp) (by simp), by simp [e18], by simp [e20]⟩
      rintro s ⟨hJ, e18, e20⟩
      refine cutS (fun st => MJ c D FC [U na, U nb, U nd] b8 r1 r2 k st) ?_ ?_
      · intro k1 hk1
        simp -implicitDefEqProofs
        refine loop_up Q.length (fun q st => MJ c D FC [U na, U nb, U nd] b8 r1 r2 k st ∧ st.env 18 = IL P ∧ st.env 20 = IL Q ∧ st.env 22 = I q) ?_ ?_
        · exact ⟨hJ.ext (by simp) (by simp), by simp [e18], by simp [e20], by simp⟩
        rintro q s hq ⟨hJ, e18, e20, e22⟩
        simp -implicitDefEqProofs [e20, e22]
        refine cond_dec (fun hlt2 => ?_) (fun hge2 => ?_)
        · have hlt2 : q < Q.length := by omega
          have hin := has_ok P Q[q]
          rw [decide_eq_true (hsub _ (List.getElem_mem hlt2))] at hin
          simp -implicitDefEqProofs [e18, e20, e22, hlt2]
          refine vCall_of hin ?_
          simp -implicitDefEqProofs [e22]
          exact ⟨i64 (by omega) (by omega), round_ok hlt2 ⟨hJ.ext (by simp) (by simp), by simp [e18], by simp [e20], by simp⟩⟩
        · obtain rfl : q = Q.length := by omega
          simp -implicitDefEqProofs
          exact hk1 _ (hJ.ext (by simp) (by simp))
      clear hJ e18 e20
      intro s hJ
      by_cases hmz : c.marks = []
      · obtain ⟨e3, e4, e5, e7, e8⟩ := hJ.e
        simp -implicitDefEqProofs [e3, hmz, e7]
        exact ⟨i64 (by omega) (by omega), round_ok hlt (by simp [e3, e4, e5])⟩
      refine cutS (fun st => MJ c D FC [U na, U nb, U nd] b8 r1 r2 k st) ?_ ?_
      · intro k1 hk1
        obtain ⟨e3, e4, e5, e7, e8⟩ := hJ.e
        have hz' : ((c.marks.length : Int) == 0) = false := by simp; exact hmz
        simp -implicitDefEqProofs [e3, hz']
        exact hk1 _ (hJ.ext (by simp) (by simp))
      clear hJ
      intro s hJ
      have hlm := List.length_pos_iff.2 hmz
      obtain ⟨i, hi⟩ : ∃ i, i = nb % c.marks.length := ⟨_, rfl⟩
      have hil : i < c.marks.length := by rw [hi]; exact Nat.mod_lt _ hlm
      have hmb := tmod_nat nb c.marks.length
      rw [← hi] at hmb
      have hl0 : ¬ c.marks.length = 0 := by omega
      obtain ⟨hiD, hmi⟩ := hMo.marks i hil
      have hyc : yearS c i = ⟨yearLoP c i, yearHiP c i, 0⟩ := by
        unfold yearS
        rw [if_neg (not_not_intro he), out_none (by simp; omega), if_neg (by simp), hsc, if_neg (by simp), Int.toNat_natCast]
      have hyD : yearS D i = ⟨yearLoP D i, yearHiP D i, 0⟩ := by
        unfold yearS
        rw [if_neg (not_not_intro hD0), out_none (by simp; omega), if_neg (by simp), hsD, if_neg (by simp), Int.toNat_natCast]
      have hy1 := year26_ok c i
      have hy2 := year26_ok D i
      rw [hyc] at hy1
      rw [hyD] at hy2
      obtain ⟨g1, g2⟩ := hW.years hok hokD hsD hil hiD ⟨by rw [hmi], by rw [hmi]⟩
      generalize yearLoP c i = A1 at *
      generalize yearHiP c i = A2 at *
      generalize yearLoP D i = B1 at *
      generalize yearHiP D i = B2 at *
      refine cutS (fun st => MJ c D FC [U na, U nb, U nd] b8 r1 r2 k st ∧ st.env 19 = I 0 ∧ ∃ q, st.env 23 = .mref q 0 ∧ st.loc q = some [I A1, I A2]) ?_ ?_
      · intro k1 hk1
        obtain ⟨e3, e4, e5, e7, e8⟩ := hJ.e
        have l8 := hJ.l
        simp -implicitDefEqProofs [e3, e5, hwb, hl0, hmb]
        refine vCall_of hy1 ?_
        simp -implicitDefEqProofs [apartAV]
        intro q hq
        have hne : ¬ b8 = q := by rintro rfl; rw [l8] at hq; cases hq
        exact hk1 _ ⟨hJ.ext (by simp) (by simp [hne]), by simp, q, by simp, by simp⟩
      rintro s ⟨hJ, e19, q, e23, lq⟩
      refine cutS (fun st => MJ c D FC [U na, U nb, U nd] b8 r1 r2 k st ∧ st.env 19 = I 0 ∧ st.env 21 = I 0 ∧ st.env 23 = .mref q 0 ∧ st.loc q = some [I A1, I A2] ∧ ∃ q2, st.env 24 = .mref q2 0 ∧ st.loc q2 = some [I B1, I B2]) ?_ ?_
      · intro k1 hk1
        obtain ⟨e3, e4, e5, e7, e8⟩ := hJ.e
        have l8 := hJ.l
        simp -implicitDefEqProofs [e3, e5, e8, l8, hwb, hl0, hmb]
        refine vCall_of hy2 ?_
        simp -implicitDefEqProofs [apartAV]
        intro q2 hq2
        have hne : ¬ b8 = q2 := by rintro rfl; rw [l8] at hq2; cases hq2
        have hne2 : ¬ q = q2 := by rintro rfl; rw [lq] at hq2; cases hq2
        exact hk1 _ ⟨hJ.ext (by simp) (by simp [hne]), by simp [e19], by simp, by simp [e23], by simp [lq, hne2], q2, by simp, by simp⟩
      rintro s ⟨hJ, e19, e21, e23, lq, q2, e24, lq2⟩
      obtain ⟨e3, e4, e5, e7, e8⟩ := hJ.e
      have n1 : ¬ B1 < A1 := by omega
      have n2 : ¬ A2 < B2 := by omega
      simp -implicitDefEqProofs [e19, e21, e23, lq, e24, lq2, n1, n2, e7]
      exact ⟨i64 (by omega) (by omega), round_ok hlt (by simp [e3, e4, e5])⟩
    · simp -implicitDefEqProofs
      exact hk0 _ trivial
  intro s _
  simp -implicitDefEqProofs
  refine vCall_of aw ?_
  simp -implicitDefEqProofs [r13]
theorem ownerMore_ok (c : Case) (x : Mk × Sale) (xs : List Int) (hc : CaseSz c) (_ : True) (ox : xs.length = 3 ∧ ∀ x ∈ xs, 0 ≤ x ∧ x ≤ 65535) : PCall Try.prog 13 [encCase c, encFurther x, .agg (xs.flatMap fun y => (U y).cells)] (B true) :=
  match x, xs, ox with
  | (m, s), [a, b, d], h => ownerMore_at c m s a b d hc (h.2 a (by simp)) (h.2 b (by simp)) (h.2 d (by simp))
end Go.Proofs.Ytiampdiobdianaa

