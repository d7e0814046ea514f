/- The resolved code of some functions, written by program, each held against the function by the kernel. What holds of a press and a gathering that are wider. With wider papers and spans what agreed still does: the law FoldWider returns true. -/
import Derived.Test.YtcfeipphmklakaaFG
import Derived.KernelRfl
import Derived.Test.YtcfeipphmklakaaFM
namespace Go.Proofs.Ytcfeipphmklakaa
open Go.Avm

/- duodecimo/duodecimolaw02.FoldWider -/
def ann14 : Ann := { muts := [], nilsz := [(1000036, 5)], oid := [(36, 8001), (90, 8001)], frz := [], zero := [(7, [(.slice 2 [] 8000), (.slice 5 [] 8001), (.lit (.int .i64 0)), (.lit (.int .i64 0))]), (8, [(.lit (.int .i64 0)), (.lit (.int .i64 0)), (.lit (.int .i64 0)), (.lit (.int .i64 0)), (.lit (.int .i64 0)), (.lit (.int .i64 0)), (.slice 2 [] 9006)]), (10, [(.lit (.string ⟨#[]⟩)), (.lit (.int .i64 0)), (.lit (.int .i64 0)), (.lit (.int .i64 0)), (.lit (.int .i64 0))]), (88, [(.lit (.string ⟨#[]⟩)), (.lit (.int .i64 0)), (.lit (.int .i64 0)), (.lit (.int .i64 0)), (.lit (.int .i64 0))])], ord := [(3, [0, 1, 2, 3, 4, 5])], ap := [(7, [(.t 4)]), (8, [])], own := [], yl := [], fz := [], imm := [] }
def m14 : MCode := (.seq (.reg [.boxI 3 (.t 0) 4, .boxI 4 (.t 1) 7, .boxI 5 (.t 2) 4, .asg 6 (.c (.lit (.bool false)))])
 (.seq (.seq (.reg [.load 20 (.t 3) (some 4), .load 21 (.t 4) (some 7), .call 22 49 [(.t 20), (.t 21)], .not 23 (.t 22)])
 (.cond (.t 23) (.seq (.reg [.call 24 19 [], .asg 6 (.t 24)])
 .ret) .skip))
 (.seq (.reg [.load 25 (.t 3) (some 4), .load 26 (.t 4) (some 7), .alloc 7 [(.slice 2 [] 8000), (.slice 5 [] 8001), (.lit (.int .i64 0)), (.lit (.int .i64 0))], .alloc 8 [(.lit (.int .i64 0)), (.lit (.int .i64 0)), (.lit (.int .i64 0)), (.lit (.int .i64 0)), (.lit (.int .i64 0)), (.lit (.int .i64 0)), (.slice 2 [] 9006)], .apart [(.t 4)] (.t 7) (.store (.t 7) (.t 25) 4 0), .apart [] (.t 8) (.store (.t 8) (.t 26) 7 0)])
 (.seq (.reg [.addr 27 (.t 3) 2, .load 28 (.t 27) none, .idxA 29 (.t 5) (.c (.lit (.int .i64 0))) 4 1, .load 30 (.t 29) none, .conv 31 .i64 (.t 30), .bin 32 .rem (.t 31) (.c (.lit (.int .i64 9))), .bin 33 .add (.t 28) (.t 32), .minI 34 (.c (.lit (.int .i64 60))) (.t 33), .addr 35 (.t 7) 2, .store (.t 35) (.t 34) 1 0])
 (.seq (.reg [.addr 36 (.t 7) 1, .storeNil (.t 36) 5 8001])
 (.seq (.seq (.reg [.asg 9 (.c (.lit (.int .i64 0)))])
 (.block 0 (.loop (.seq (.seq (.reg [.cpy 37 (.t 9), .addr 38 (.t 3) 1, .load 39 (.t 38) none, .len 40 (.t 39), .bin 41 .lss (.t 37) (.t 40)])
 (.cond (.t 41) .skip (.exit 0)))
 (.seq (.block 1 (.seq (.reg [.addr 44 (.t 3) 1, .load 45 (.t 44) none, .cpy 46 (.t 9), .idxS 47 (.t 45) (.t 46) 5, .load 48 (.t 47) (some 5), .alloc 10 [(.lit (.string ⟨#[]⟩)), (.lit (.int .i64 0)), (.lit (.int .i64 0)), (.lit (.int .i64 0)), (.lit (.int .i64 0))], .store (.t 10) (.t 48) 5 0])
 (.seq (.reg [.addr 49 (.t 10) 1, .addr 50 (.t 49) 0, .load 51 (.t 50) none, .idxA 52 (.t 5) (.c (.lit (.int .i64 1))) 4 1, .load 53 (.t 52) none, .conv 54 .i64 (.t 53), .bin 55 .sub (.t 51) (.t 54), .maxI 56 (.c (.lit (.int .i64 1))) (.t 55), .addr 57 (.t 10) 1, .addr 58 (.t 57) 1, .load 59 (.t 58) none, .idxA 60 (.t 5) (.c (.lit (.int .i64 2))) 4 1, .load 61 (.t 60) none, .conv 62 .i64 (.t 61), .bin 63 .add (.t 59) (.t 62), .minI 64 (.c (.lit (.int .i64 2000))) (.t 63), .call 65 40 [(.t 56), (.t 64)], .addr 66 (.t 10) 1, .store (.t 66) (.t 65) 2 0])
 (.seq (.reg [.addr 67 (.t 10) 3, .addr 68 (.t 67) 0, .load 69 (.t 68) none, .idxA 70 (.t 5) (.c (.lit (.int .i64 2))) 4 1, .load 71 (.t 70) none, .conv 72 .i64 (.t 71), .bin 73 .sub (.t 69) (.t 72), .maxI 74 (.c (.lit (.int .i64 1))) (.t 73), .addr 75 (.t 10) 3, .addr 76 (.t 75) 1, .load 77 (.t 76) none, .idxA 78 (.t 5) (.c (.lit (.int .i64 1))) 4 1, .load 79 (.t 78) none, .conv 80 .i64 (.t 79), .bin 81 .add (.t 77) (.t 80), .minI 82 (.c (.lit (.int .i64 2000))) (.t 81), .call 83 40 [(.t 74), (.t 82)], .addr 84 (.t 10) 3, .store (.t 84) (.t 83) 2 0])
 (.reg [.addr 85 (.t 7) 1, .load 86 (.t 85) none, .load 87 (.t 10) (some 5), .mkS 88 1 5 [(.lit (.string ⟨#[]⟩)), (.lit (.int .i64 0)), (.lit (.int .i64 0)), (.lit (.int .i64 0)), (.lit (.int .i64 0))] [(0, (.t 87))], .app 89 (.t 86) (.t 88) 5 48, .addr 90 (.t 7) 1, .store (.t 90) (.t 89) 1 8001])))))
 (.reg [.cpy 42 (.t 9), .bin 43 .add (.t 42) (.c (.lit (.int .i64 1))), .asg 9 (.t 43)]))))))
 (.seq (.reg [.addr 91 (.t 4) 2, .addr 92 (.t 91) 0, .load 93 (.t 92) none, .idxA 94 (.t 5) (.c (.lit (.int .i64 3))) 4 1, .load 95 (.t 94) none, .conv 96 .i64 (.t 95), .bin 97 .sub (.t 93) (.t 96), .maxI 98 (.c (.lit (.int .i64 0))) (.t 97), .addr 99 (.t 4) 2, .addr 100 (.t 99) 1, .load 101 (.t 100) none, .idxA 102 (.t 5) (.c (.lit (.int .i64 3))) 4 1, .load 103 (.t 102) none, .conv 104 .i64 (.t 103), .bin 105 .add (.t 101) (.t 104), .minI 106 (.c (.lit (.int .i64 2000))) (.t 105), .call 107 40 [(.t 98), (.t 106)], .addr 108 (.t 8) 2, .store (.t 108) (.t 107) 2 0])
 (.seq (.reg [.addr 109 (.t 4) 4, .addr 110 (.t 109) 0, .load 111 (.t 110) none, .idxA 112 (.t 5) (.c (.lit (.int .i64 3))) 4 1, .load 113 (.t 112) none, .conv 114 .i64 (.t 113), .bin 115 .sub (.t 111) (.t 114), .maxI 116 (.c (.lit (.int .i64 0))) (.t 115), .addr 117 (.t 4) 4, .addr 118 (.t 117) 1, .load 119 (.t 118) none, .idxA 120 (.t 5) (.c (.lit (.int .i64 3))) 4 1, .load 121 (.t 120) none, .conv 122 .i64 (.t 121), .bin 123 .add (.t 119) (.t 122), .minI 124 (.c (.lit (.int .i64 2000))) (.t 123), .call 125 40 [(.t 116), (.t 124)], .addr 126 (.t 8) 4, .store (.t 126) (.t 125) 2 0])
 (.seq (.reg [.load 128 (.t 3) (some 4), .load 129 (.t 4) (some 7), .call 130 30 [(.t 128), (.t 129)], .cpy 127 (.t 130), .ext 131 (.t 127) 0, .ext 132 (.t 127) 1, .asg 11 (.t 131), .asg 12 (.t 132)])
 (.seq (.reg [.load 134 (.t 7) (some 4), .load 135 (.t 8) (some 7), .call 136 30 [(.t 134), (.t 135)], .cpy 133 (.t 136), .ext 137 (.t 133) 0, .ext 138 (.t 133) 1, .asg 13 (.t 137), .asg 14 (.t 138)])
 (.seq (.seq (.reg [.cpy 139 (.t 12), .bin 140 .neq (.t 139) (.c (.lit (.int .i64 0))), .cpy 141 (.t 140), .guard 141 false (some 142) (.cpy 142 (.t 14)), .guard 141 false (some 143) (.bin 143 .neq (.t 142) (.c (.lit (.int .i64 0)))), .pick 144 (.t 141) (.c (.lit (.bool true))) (.t 143)])
 (.cond (.t 144) (.seq (.reg [.asg 6 (.c (.lit (.bool false)))])
 .ret) .skip))
 (.seq (.seq (.reg [.asg 15 (.c (.lit (.int .i64 0)))])
 (.block 2 (.loop (.seq (.seq (.reg [.cpy 145 (.t 15), .cpy 146 (.t 11), .len 147 (.t 146), .bin 148 .lss (.t 145) (.t 147)])
 (.cond (.t 148) .skip (.exit 2)))
 (.seq (.block 3 (.seq (.reg [.cpy 151 (.t 13), .cpy 152 (.t 11), .cpy 153 (.t 15), .idxS 154 (.t 152) (.t 153) 4, .load 155 (.t 154) (some 4), .call 156 44 [(.t 151), (.t 155)], .not 157 (.t 156)])
 (.cond (.t 157) (.seq (.reg [.asg 6 (.c (.lit (.bool false)))])
 .ret) .skip)))
 (.reg [.cpy 149 (.t 15), .bin 150 .add (.t 149) (.c (.lit (.int .i64 1))), .asg 15 (.t 150)]))))))
 (.seq (.reg [.load 159 (.t 3) (some 4), .load 160 (.t 4) (some 7), .call 161 35 [(.t 159), (.t 160)], .cpy 158 (.t 161), .ext 162 (.t 158) 0, .ext 163 (.t 158) 1, .asg 16 (.t 162), .asg 17 (.t 163)])
 (.seq (.reg [.load 165 (.t 7) (some 4), .load 166 (.t 8) (some 7), .call 167 35 [(.t 165), (.t 166)], .cpy 164 (.t 167), .ext 168 (.t 164) 0, .ext 169 (.t 164) 1, .asg 18 (.t 168), .asg 19 (.t 169)])
 (.seq (.reg [.cpy 170 (.t 17), .cpy 171 (.t 19), .bin 172 .eql (.t 170) (.t 171), .cpy 173 (.t 172), .guard 173 true (some 174) (.cpy 174 (.t 17)), .guard 173 true (some 175) (.bin 175 .eql (.t 174) (.c (.lit (.int .i64 0)))), .guard 173 true (some 176) (.cpy 176 (.t 175)), .guard 176 false (some 177) (.cpy 177 (.t 17)), .guard 176 false (some 178) (.bin 178 .eql (.t 177) (.c (.lit (.int .i64 9)))), .guard 173 true (some 179) (.pick 179 (.t 176) (.c (.lit (.bool true))) (.t 178)), .pick 180 (.t 173) (.t 179) (.c (.lit (.bool false))), .cpy 181 (.t 180), .guard 181 true (some 182) (.cpy 182 (.t 18)), .guard 181 true (some 183) (.len 183 (.t 182)), .guard 181 true (some 184) (.cpy 184 (.t 16)), .guard 181 true (some 185) (.len 185 (.t 184)), .guard 181 true (some 186) (.bin 186 .leq (.t 183) (.t 185)), .pick 187 (.t 181) (.t 186) (.c (.lit (.bool false))), .cpy 188 (.t 187), .guard 188 true (some 189) (.call 189 19 []), .pick 190 (.t 188) (.t 189) (.c (.lit (.bool false))), .asg 6 (.t 190)])
 .ret)))))))))))))))
def r14 : List MRes := [.tmp 6]
theorem tr14 : Try.f14.body.bind (trC Try.prog ann14 Try.f14.ntmps) = some m14 := by kernel_rfl
theorem rs14 : trRes Try.prog Try.f14.results.toList = some r14 := by kernel_rfl
theorem fn14 : isFunc Try.prog 14 = true := by kernel_rfl
end Go.Proofs.Ytcfeipphmklakaa

namespace Go.Proofs.Ytcfeipphmklakaa
open Go.Avm

def mx (a b : Int) : Int := if b > a then b else a
def mn (a b : Int) : Int := if b < a then b else a

theorem spansE_mk {lo hi : Int} {a b : Spn} (h : (lo ≤ a.lo ∧ a.hi ≤ hi ∧ a.lo ≤ a.hi) ∧ lo ≤ b.lo ∧ b.hi ≤ hi ∧ b.lo ≤ b.hi) : spansE lo hi a b = 0 := by
  have ho : out lo hi [a.lo, a.hi, b.lo, b.hi] = false := by simp [out]; omega
  unfold spansE
  rw [ho, if_neg (by simp), if_neg (by omega)]

theorem errE_iff {p : Prs} : errE p = 0 ↔ (1 ≤ p.fmts.length ∧ p.fmts.length ≤ 6) ∧ (∀ i < p.fmts.length, fE p i = 0) ∧ (1 ≤ p.pprs.length ∧ p.pprs.length ≤ 4) ∧ (∀ i < p.pprs.length, pE p i = 0) ∧ (0 ≤ p.trim ∧ p.trim ≤ 60) ∧ (1 ≤ p.sheets ∧ p.sheets ≤ 4) := by
  constructor
  · intro h
    have hr := right_of h
    refine ⟨hr.fmts, ?_, hr.pprs, ?_, hr.trim, hr.sheets⟩
    · unfold errE checkE at h
      rw [if_neg (not_not_intro hr.fmts)] at h
      split at h
      · rename_i h2; exact (h2 h).elim
      rename_i h2
      exact firstE_zero (Decidable.of_not_not h2)
    · unfold errE checkE at h
      rw [if_neg (not_not_intro hr.fmts)] at h
      split at h
      · rename_i h2; exact (h2 h).elim
      rw [if_neg (not_not_intro hr.pprs)] at h
      split at h
      · rename_i h2; exact (h2 h).elim
      rename_i h2
      exact firstE_zero (Decidable.of_not_not h2)
  · rintro ⟨h1, h2, h3, h4, h5, h6⟩
    unfold errE checkE
    rw [if_neg (not_not_intro h1), firstE_none h2, if_neg (not_not_intro rfl), if_neg (not_not_intro h3), firstE_none h4, if_neg (not_not_intro rfl), if_neg (fun h => h.elim (fun h => h h5) fun h => h h6)]

/-- A paper that is wider. -/
def pprW (b1 b2 : Int) (q : Ppr) : Ppr := ⟨q.name, ⟨mx 1 (q.wide.lo - b1), mn 2000 (q.wide.hi + b2)⟩, ⟨mx 1 (q.high.lo - b2), mn 2000 (q.high.hi + b1)⟩⟩
def prsW (b0 b1 b2 : Int) (p : Prs) : Prs := ⟨p.fmts, p.pprs.map (pprW b1 b2), mn 60 (p.trim + b0), p.sheets⟩
def bokW (b3 : Int) (b : Bok) : Bok := ⟨b.leaves, b.chain, ⟨mx 0 (b.wide.lo - b3), mn 2000 (b.wide.hi + b3)⟩, ⟨mx 0 (b.high.lo - b3), mn 2000 (b.high.hi + b3)⟩, b.marks⟩

theorem mx_facts (a b : Int) : a ≤ mx a b ∧ b ≤ mx a b ∧ (mx a b = a ∨ mx a b = b) := by unfold mx; split <;> omega
theorem mn_facts (a b : Int) : mn a b ≤ a ∧ mn a b ≤ b ∧ (mn a b = a ∨ mn a b = b) := by unfold mn; split <;> omega

theorem pE_zero {p : Prs} {i : Nat} (hi : i < p.pprs.length) (h : pE p i = 0) : namedE p.pprs[i].name ((p.pprs.take i).map Ppr.name) = 0 ∧ spansE 1 2000 p.pprs[i].wide p.pprs[i].high = 0 := by
  unfold pE at h
  rw [dif_pos hi] at h
  unfold pprE at h
  split at h
  · rename_i hn; exact ⟨hn, h⟩
  · rename_i hn; exact (hn h).elim

section
variable {b0 b1 b2 b3 : Int} (h0 : 0 ≤ b0) (h1 : 0 ≤ b1) (h2 : 0 ≤ b2) (h3 : 0 ≤ b3)
include h0 h1 h2

omit h0 in
theorem spansW {q : Ppr} (h : spansE 1 2000 q.wide q.high = 0) : spansE 1 2000 (pprW b1 b2 q).wide (pprW b1 b2 q).high = 0 := by
  have := spansE_zero h
  have f1 := mx_facts 1 (q.wide.lo - b1)
  have f2 := mn_facts 2000 (q.wide.hi + b2)
  have f3 := mx_facts 1 (q.high.lo - b2)
  have f4 := mn_facts 2000 (q.high.hi + b1)
  refine spansE_mk ?_
  simp only [pprW]
  omega

theorem errE_wide {p : Prs} (he : errE p = 0) : errE (prsW b0 b1 b2 p) = 0 := by
  obtain ⟨a1, a2, a3, a4, a5, a6⟩ := errE_iff.1 he
  have f := mn_facts 60 (p.trim + b0)
  refine errE_iff.2 ⟨a1, a2, by simpa [prsW] using a3, fun i hi => ?_, by simp only [prsW]; omega, a6⟩
  have hi' : i < p.pprs.length := by simpa [prsW] using hi
  obtain ⟨n1, n2⟩ := pE_zero hi' (a4 i hi')
  unfold pE
  rw [dif_pos hi]
  have e1 : (prsW b0 b1 b2 p).pprs[i] = pprW b1 b2 p.pprs[i] := by simp [prsW]
  have e2 : ((prsW b0 b1 b2 p).pprs.take i).map Ppr.name = (p.pprs.take i).map Ppr.name := by
    simp only [prsW, ← List.map_take, List.map_map]
    rfl
  unfold pprE
  rw [e1, e2]
  have e3 : (pprW b1 b2 p.pprs[i]).name = p.pprs[i].name := rfl
  rw [e3, if_pos n1]
  exact spansW h1 h2 n2

omit h0 h1 h2 in
theorem foldsOf_wide (p : Prs) (m : Mk) : foldsOf (prsW b0 b1 b2 p) m = foldsOf p m := rfl
omit h0 h1 h2 in
theorem lvOf_wide (p : Prs) (m : Mk) : lvOf (prsW b0 b1 b2 p) m = lvOf p m := rfl
omit h0 h1 h2 in
theorem makeE_wide (p : Prs) (m : Mk) : makeE (prsW b0 b1 b2 p) m = makeE p m := by
  have e : (prsW b0 b1 b2 p).pprs.length = p.pprs.length := by simp [prsW]
  unfold makeE
  rw [foldsOf_wide, e]
  rfl

theorem makesL_wide {p : Prs} (he : errE p = 0) : makesL (prsW b0 b1 b2 p) = makesL p := by
  have he2 := errE_wide h0 h1 h2 he
  unfold makesL
  have e : okM (prsW b0 b1 b2 p) = okM p := by
    funext m
    unfold okM enterE
    rw [he, he2, makeE_wide]
  rw [e]
  simp only [prsW, List.length_map]

include h3
omit h0 h1 h2 in
theorem rightB_wide {b : Bok} (h : RightB b) : RightB (bokW b3 b) := by
  refine ⟨h.leaves, h.chain, ?_, h.marks, h.at_⟩
  have := spansE_zero h.spans
  have f1 := mx_facts 0 (b.wide.lo - b3)
  have f2 := mn_facts 2000 (b.wide.hi + b3)
  have f3 := mx_facts 0 (b.high.lo - b3)
  have f4 := mn_facts 2000 (b.high.hi + b3)
  refine spansE_mk ?_
  simp only [bokW]
  omega
omit h3

omit h0 h1 h2 in
theorem tdiv_mono {a b : Int} {n : Nat} (hn : 1 ≤ n) (ha : 0 ≤ a) (hab : a ≤ b) : a.tdiv n ≤ b.tdiv n := by
  rw [Int.tdiv_eq_ediv_of_nonneg ha, Int.tdiv_eq_ediv_of_nonneg (by omega)]
  exact Int.ediv_le_ediv (by omega) hab
end

theorem size_mono {p : Prs} {m : Mk} (hp : Right p) (hm : RightM p m) {a b a' b' : Int} (ha : 0 ≤ a) (hb : 0 ≤ b) (haa : a ≤ a') (hbb : b ≤ b') :
    (sizeM (codes (foldsOf p m)) a b).1 ≤ (sizeM (codes (foldsOf p m)) a' b').1 ∧ (sizeM (codes (foldsOf p m)) a b).2 ≤ (sizeM (codes (foldsOf p m)) a' b').2 := by
  have ht := times_le _ (foldsOf_mem hp hm)
  have d1 := tdiv_mono ht.1 ha haa
  have d2 := tdiv_mono ht.2.2.1 hb hbb
  unfold sizeM
  split
  · exact ⟨d1, d2⟩
  · exact ⟨d2, d1⟩

theorem metM_mono {lo hi less lo' hi' less' : Int} {s s' : Spn} (h1 : lo' ≤ lo) (h2 : hi ≤ hi') (h3 : less ≤ less') (h4 : s'.lo ≤ s.lo) (h5 : s.hi ≤ s'.hi) (h : metM lo hi less s = true) : metM lo' hi' less' s' = true := by
  unfold metM at *
  rw [Bool.and_eq_true] at *
  have a := of_decide_eq_true h.1
  have b := of_decide_eq_true h.2
  exact ⟨decide_eq_true (by omega), decide_eq_true (by omega)⟩

/-- A piece that is wrong with wider sizes is wrong without. -/
theorem offP_wide {b0 b1 b2 b3 : Int} (h0 : 0 ≤ b0) (h1 : 0 ≤ b1) (h2 : 0 ≤ b2) (h3 : 0 ≤ b3) {p : Prs} (hp : Right p) {m : Mk} (hm : RightM p m) {b : Bok} (hb : RightB b) {j : Nat}
    (h : offP (prsW b0 b1 b2 p) m (bokW b3 b) j = true) : offP p m b j = true := by
  obtain ⟨g, hg⟩ : ∃ g : Nat, m.paper = g := ⟨m.paper.toNat, by have := hm.ppr; omega⟩
  have hgl : g < p.pprs.length := by have := hm.ppr; omega
  have hq : p.pprs.getD m.paper.toNat zPpr = p.pprs[g] := by rw [hg]; simp [List.getD_eq_getElem?_getD, hgl]
  have hq2 : (prsW b0 b1 b2 p).pprs.getD m.paper.toNat zPpr = pprW b1 b2 p.pprs[g] := by rw [hg]; simp [prsW, List.getD_eq_getElem?_getD, hgl]
  have hsp := spansE_zero (hp.wide g hgl)
  have hbs := spansE_zero hb.spans
  have htr := hp.trim
  unfold offP at *
  rw [foldsOf_wide, lvOf_wide, hq2] at h
  rw [hq]
  have hw := fun a b a' b' => @size_mono p m hp hm a b a' b'
  generalize codes (foldsOf p m) = w at *
  generalize p.pprs[g] = q at *
  generalize lvOf p m = l at *
  unfold offW at *
  rw [Bool.or_eq_true] at *
  rcases h with h | h
  · left
    have f1 := mx_facts 1 (q.wide.lo - b1)
    have f2 := mn_facts 2000 (q.wide.hi + b2)
    have f3 := mx_facts 1 (q.high.lo - b2)
    have f4 := mn_facts 2000 (q.high.hi + b1)
    have f5 := mx_facts 0 (b.wide.lo - b3)
    have f6 := mn_facts 2000 (b.wide.hi + b3)
    have f7 := mx_facts 0 (b.high.lo - b3)
    have f8 := mn_facts 2000 (b.high.hi + b3)
    have f9 := mn_facts 60 (p.trim + b0)
    have s1 := hw (mx 1 (q.wide.lo - b1)) (mx 1 (q.high.lo - b2)) q.wide.lo q.high.lo (by omega) (by omega) (by omega) (by omega)
    have s2 := hw q.wide.hi q.high.hi (mn 2000 (q.wide.hi + b2)) (mn 2000 (q.high.hi + b1)) (by omega) (by omega) (by omega) (by omega)
    match j, h with
    | 0, h => exact h
    | 1, h =>
      show (!metM _ _ _ _) = true
      rw [Bool.not_eq_true']
      cases hmm : metM (sizeM w q.wide.lo q.high.lo).1 (sizeM w q.wide.hi q.high.hi).1 p.trim b.wide with
      | false => rfl
      | true =>
        have := metM_mono s1.1 s2.1 (show p.trim ≤ mn 60 (p.trim + b0) by omega) (show mx 0 (b.wide.lo - b3) ≤ b.wide.lo by omega) (s' := (bokW b3 b).wide) (show b.wide.hi ≤ mn 2000 (b.wide.hi + b3) by omega) hmm
        have h' : (!metM (sizeM w (mx 1 (q.wide.lo - b1)) (mx 1 (q.high.lo - b2))).1 (sizeM w (mn 2000 (q.wide.hi + b2)) (mn 2000 (q.high.hi + b1))).1 (mn 60 (p.trim + b0)) (bokW b3 b).wide) = true := h
        rw [this] at h'
        cases h'
    | 2, h =>
      show (!metM _ _ _ _) = true
      rw [Bool.not_eq_true']
      cases hmm : metM (sizeM w q.wide.lo q.high.lo).2 (sizeM w q.wide.hi q.high.hi).2 (2 * p.trim) b.high with
      | false => rfl
      | true =>
        have := metM_mono s1.2 s2.2 (show 2 * p.trim ≤ 2 * mn 60 (p.trim + b0) by omega) (show mx 0 (b.high.lo - b3) ≤ b.high.lo by omega) (s' := (bokW b3 b).high) (show b.high.hi ≤ mn 2000 (b.high.hi + b3) by omega) hmm
        have h' : (!metM (sizeM w (mx 1 (q.wide.lo - b1)) (mx 1 (q.high.lo - b2))).2 (sizeM w (mn 2000 (q.wide.hi + b2)) (mn 2000 (q.high.hi + b1))).2 (2 * mn 60 (p.trim + b0)) (bokW b3 b).high) = true := h
        rw [this] at h'
        cases h'
    | j + 3, h => exact h
  · exact .inr h

theorem selT_len_mono {q r : Nat → Bool} (h : ∀ j, q j = true → r j = true) : ∀ n, (selT q n).length ≤ (selT r n).length
  | 0 => by simp [selT]
  | n + 1 => by
    have ih := selT_len_mono h n
    rw [selT_succ, selT_succ, List.length_append, List.length_append]
    cases hq : q n with
    | true => rw [h n hq]; simp; exact ih
    | false => simp; omega

theorem lessL_len {a b : List Int} : (lessL a b = true → a.length ≤ b.length) ∧ (lessL a b = false → b.length ≤ a.length) := by
  unfold lessL
  split
  · constructor <;> (intro h; simp at h; omega)
  · constructor <;> (intro _; omega)

/-- The best set of some ways of making. -/
def BestOf (p : Prs) (b : Bok) (l : List Mk) : Option Nat → Prop
  | none => ∀ m ∈ l, offB p m b = false
  | some s => (∃ m ∈ l, offB p m b = true ∧ bitsL s = selT (offP p m b) 11) ∧ ∀ m ∈ l, offB p m b = true → (bitsL s).length ≤ (selT (offP p m b) 11).length

theorem bestT_of (p : Prs) (b : Bok) : ∀ k, k ≤ (makesL p).length → BestOf p b ((makesL p).take k) (bestT p b k)
  | 0, _ => by intro m hm; simp at hm
  | k + 1, hk => by
    have ih := bestT_of p b k (by omega)
    have hlt : k < (makesL p).length := by omega
    rw [bestT_succ hlt, take_snoc hlt]
    generalize (makesL p)[k] = m at *
    generalize (makesL p).take k = l at *
    have hbl := bitsL_setOf (offP p m b)
    unfold stepW
    cases ho : offB p m b with
    | false =>
      rw [if_neg (by simp)]
      cases hbt : bestT p b k with
      | none =>
        rw [hbt] at ih
        intro x hx
        rcases List.mem_append.1 hx with hx | hx
        · exact ih x hx
        · rw [List.mem_singleton.1 hx]; exact ho
      | some s =>
        rw [hbt] at ih
        obtain ⟨⟨m', h1, h2, h3⟩, h4⟩ := ih
        refine ⟨⟨m', List.mem_append_left _ h1, h2, h3⟩, fun x hx hx2 => ?_⟩
        rcases List.mem_append.1 hx with hx | hx
        · exact h4 x hx hx2
        · rw [List.mem_singleton.1 hx, ho] at hx2; cases hx2
    | true =>
      rw [if_pos rfl]
      cases hbt : bestT p b k with
      | none =>
        rw [hbt] at ih
        refine ⟨⟨m, by simp, ho, hbl⟩, fun x hx hx2 => ?_⟩
        rcases List.mem_append.1 hx with hx | hx
        · rw [ih x hx] at hx2; cases hx2
        · rw [List.mem_singleton.1 hx, hbl]; exact Nat.le_refl _
      | some s =>
        rw [hbt] at ih
        obtain ⟨⟨m', h1, h2, h3⟩, h4⟩ := ih
        have hll := @lessL_len (bitsL (setOf (offP p m b) 11)) (bitsL s)
        simp only
        cases hle : lessL (bitsL (setOf (offP p m b) 11)) (bitsL s) with
        | true =>
          rw [if_pos rfl]
          have := hll.1 hle
          refine ⟨⟨m, by simp, ho, hbl⟩, fun x hx hx2 => ?_⟩
          rcases List.mem_append.1 hx with hx | hx
          · exact Nat.le_trans this (h4 x hx hx2)
          · rw [List.mem_singleton.1 hx, hbl]; exact Nat.le_refl _
        | false =>
          rw [if_neg (by simp)]
          have := hll.2 hle
          rw [hbl] at this
          refine ⟨⟨m', List.mem_append_left _ h1, h2, h3⟩, fun x hx hx2 => ?_⟩
          rcases List.mem_append.1 hx with hx | hx
          · exact h4 x hx hx2
          · rw [List.mem_singleton.1 hx]; exact this

theorem bestW_of (p : Prs) (b : Bok) : BestOf p b (makesL p) (bestW p b) := by
  have := bestT_of p b (makesL p).length (Nat.le_refl _)
  rwa [List.take_length, bestT_all] at this
end Go.Proofs.Ytcfeipphmklakaa

namespace Go.Proofs.Ytcfeipphmklakaa
open Go.Avm

abbrev V (n : Int) : AV := .lit (.int .u8 n)
theorem rdV {pl : Bool} : Rd Try.prog pl 5 V (fun n => 0 ≤ n ∧ n ≤ 255) := by
  have h : Rd Try.prog true 5 V (fun n => 0 ≤ n ∧ n ≤ 255) := (Rd.int Try.underlying5).map id (fun _ => rfl) (fun _ h => h)
  cases pl
  · exact h.loose
  · exact h
theorem rdB4 : Rd Try.prog false 95 (fun xs : List Int => .agg (xs.flatMap fun y => (V y).cells)) (fun xs => xs.length = 4 ∧ ∀ x ∈ xs, 0 ≤ x ∧ x ≤ 255) :=
  Rd.array (sz := 1) Try.underlying95 (by kernel_rfl) (by kernel_rfl) rdV

theorem span40_ok (lo hi : Int) : PCall Try.prog 40 [I lo, I hi] (.agg [I lo, I hi]) := by
  refine pcall Try.func40 tr40 rs40 fn40 (by simp [Try.ntmps40]) fun hfit => ?_
  simp -implicitDefEqProofs [m40, r40]

theorem mx_ev (a b : Int) : (if b > a then b else a) = mx a b := rfl
theorem mn_ev (a b : Int) : (if b < a then b else a) = mn a b := rfl

def wT (b1 b2 : Int) (l : List Ppr) (k : Nat) : List Ppr := (l.take k).map (pprW b1 b2)
theorem wT_succ {b1 b2 : Int} {l : List Ppr} {k : Nat} (h : k < l.length) : wT b1 b2 l (k + 1) = wT b1 b2 l k ++ [pprW b1 b2 l[k]] := by unfold wT; rw [take_snoc h, List.map_append]; rfl
theorem wT_len {b1 b2 : Int} {l : List Ppr} {k : Nat} : (wT b1 b2 l k).length ≤ k := by unfold wT; simp; omega
theorem wT_all (b1 b2 : Int) (l : List Ppr) : wT b1 b2 l l.length = l.map (pprW b1 b2) := by unfold wT; rw [List.take_length]

theorem foldWider_ok (ha : PCall Try.prog 19 [] (B true)) (p : Prs) (b : Bok) (xs : List Int) (_ : True) (_ : True) (hx : xs.length = 4 ∧ ∀ x ∈ xs, 0 ≤ x ∧ x ≤ 255) : PCall Try.prog 14 [p.av, b.av, .agg (xs.flatMap fun y => (V y).cells)] (B true) := by
  obtain ⟨hx4, hxu⟩ := hx
  match xs, hx4 with
  | [n0, n1, n2, n3], _ =>
  have g0 := hxu n0 (by simp)
  have g1 := hxu n1 (by simp)
  have g2 := hxu n2 (by simp)
  have g3 := hxu n3 (by simp)
  clear hxu
  have w0 := wrap_i64 (a := n0) (by omega)
  have w1 := wrap_i64 (a := n1) (by omega)
  have w2 := wrap_i64 (a := n2) (by omega)
  have w3 := wrap_i64 (a := n3) (by omega)
  obtain ⟨b0, hb0⟩ : ∃ b0 : Int, b0 = n0.tmod 9 := ⟨_, rfl⟩
  have hb00 : 0 ≤ b0 ∧ b0 ≤ 8 := by rw [hb0, Int.tmod_eq_emod_of_nonneg g0.1]; omega
  refine pcall Try.func14 tr14 rs14 fn14 (by simp [Try.ntmps14]) fun hfit => ?_
  have c1 := good49_ok p b
  simp -implicitDefEqProofs [m14]
  refine vCall_of c1 ?_
  by_cases h0 : bookE p b = 0
  case neg =>
    have h0' : (bookE p b == 0) = false := beq_eq_false_iff_ne.2 h0
    simp -implicitDefEqProofs [h0']
    refine vCall_of ha ?_
    simp -implicitDefEqProofs [r14]
  have h0' : (bookE p b == 0) = true := by simp [h0]
  obtain ⟨he, hb⟩ := rightB_of h0
  have hp := right_of he
  have htr := hp.trim
  have hpl := hp.pprs
  have hbs := spansE_zero hb.spans
  simp -implicitDefEqProofs [h0']
  intro w7 w8 h87
  have h78 : ¬ w7 = w8 := fun h => h87 h.symm
  simp -implicitDefEqProofs [h87, h78, w0, ← hb0]
  refine ⟨i64 (by omega) (by omega), ?_⟩
  refine loop_up p.pprs.length (fun k st => st.env 3 = PRef p ∧ st.env 4 = BRef b ∧ st.env 5 = .ref [V n0, V n1, V n2, V n3] ∧ st.env 7 = .mref w7 0 ∧ st.env 8 = .mref w8 0 ∧ st.loc w7 = some [.slice 2 (p.fmts.map Fmt.av) 0, .slice 5 ((wT n1 n2 p.pprs k).map Ppr.av) 8001, I (mn 60 (p.trim + b0)), I p.sheets] ∧ st.loc w8 = some b.cs ∧ st.env 9 = I k) ?_ ?_
  · simp [h87, h78, wT, mn]
  rintro k st hk ⟨e3, e4, e5, e7, e8, l7, l8, e9⟩
  simp -implicitDefEqProofs [e3, e9]
  refine cond_dec (fun hlt => ?_) (fun hge => ?_)
  · have hlt : k < p.pprs.length := by omega
    have hsp := spansE_zero (hp.wide k hlt)
    have hws := wT_succ (b1 := n1) (b2 := n2) hlt
    have hwl := @wT_len n1 n2 p.pprs k
    simp -implicitDefEqProofs [e3, e9, hlt]
    generalize p.pprs[k] = q at *
    intro w10 h10
    have d1 : ¬ w7 = w10 := fun h => by subst h; rw [l7] at h10; cases h10
    have d2 : ¬ w10 = w7 := fun h => d1 h.symm
    have d3 : ¬ w8 = w10 := fun h => by subst h; rw [l8] at h10; cases h10
    simp -implicitDefEqProofs [e5, w1, w2]
    refine ⟨i64 (by omega) (by omega), i64 (by omega) (by omega), vCall_of (span40_ok _ _) ?_⟩
    simp -implicitDefEqProofs [e5, w1, w2]
    refine ⟨i64 (by omega) (by omega), i64 (by omega) (by omega), vCall_of (span40_ok _ _) ?_⟩
    simp -implicitDefEqProofs [e7, l7, d1, d2, e9]
    refine ⟨by omega, by omega, i64 (by omega) (by omega), round_ok hlt ⟨by simp [e3], by simp [e4], by simp [e5], by simp [e7], by simp [e8], ?_, by simp [l8, d3, h87, h78], by simp⟩⟩
    simp [hws, pprW, mx, mn]
  obtain rfl : k = p.pprs.length := by omega
  rw [wT_all] at l7
  simp -implicitDefEqProofs [e4, e5, w3]
  refine ⟨i64 (by omega) (by omega), i64 (by omega) (by omega), vCall_of (span40_ok _ _) ?_⟩
  simp -implicitDefEqProofs [e4, e5, e8, l8, w3]
  refine ⟨i64 (by omega) (by omega), i64 (by omega) (by omega), vCall_of (span40_ok _ _) ?_⟩
  have c2 := agree30_ok p b
  have c3 := agree30_ok (prsW b0 n1 n2 p) (bokW n3 b)
  have c4 := wrong35_ok p b
  have c5 := wrong35_ok (prsW b0 n1 n2 p) (bokW n3 b)
  have hA : (prsW b0 n1 n2 p).av = .agg [.slice 2 (p.fmts.map Fmt.av) 0, .slice 5 (p.pprs.map (Ppr.av ∘ pprW n1 n2)) 0, I (mn 60 (p.trim + b0)), I p.sheets] := by simp [prsW]
  have hB : (bokW n3 b).av = .agg [I b.leaves, I b.chain, I (if n3 < b.wide.lo then b.wide.lo - n3 else 0), I (if b.wide.hi + n3 < 2000 then b.wide.hi + n3 else 2000), I (if n3 < b.high.lo then b.high.lo - n3 else 0),
      I (if b.high.hi + n3 < 2000 then b.high.hi + n3 else 2000), .slice 2 (b.marks.map Mrk.av) 0] := by simp [bokW, mx, mn]
  have he2 := errE_wide hb00.1 g1.1 g2.1 he
  have hb2 := rightB_wide g3.1 hb
  have h02 := bookE_of he2 hb2
  have hml := makesL_wide hb00.1 g1.1 g2.1 he
  have ga : agreeR p b = (fitL p b, 0) := by unfold agreeR; rw [if_neg (not_not_intro h0)]
  have gc : agreeR (prsW b0 n1 n2 p) (bokW n3 b) = (fitL (prsW b0 n1 n2 p) (bokW n3 b), 0) := by unfold agreeR; rw [if_neg (not_not_intro h02)]
  have hwide : ∀ m ∈ makesL p, ∀ j, offP (prsW b0 n1 n2 p) m (bokW n3 b) j = true → offP p m b j = true := fun m hm j h => offP_wide hb00.1 g1.1 g2.1 g3.1 hp (mk_right he hm) hb h
  have hob : ∀ m, offB (prsW b0 n1 n2 p) m (bokW n3 b) = offB p m b := fun m => rfl
  have hsub : ∀ m ∈ fitL p b, m ∈ fitL (prsW b0 n1 n2 p) (bokW n3 b) := fun m hm => by
    obtain ⟨h1, h2⟩ := List.mem_filter.1 hm
    refine List.mem_filter.2 ⟨by rw [hml]; exact h1, ?_⟩
    unfold fits at *
    rw [Bool.and_eq_true, emptyP_iff] at *
    refine ⟨h2.1, fun j hj => ?_⟩
    cases hq : offP (prsW b0 n1 n2 p) m (bokW n3 b) j with
    | false => rfl
    | true =>
      have h4 := h2.2 j hj
      rw [hwide m h1 j hq] at h4; cases h4
  have hW : ∃ V W : List Int × Int, wrongR p b = V ∧ wrongR (prsW b0 n1 n2 p) (bokW n3 b) = W ∧ V.2 = W.2 ∧ (V.2 = 0 ∨ V.2 = 9) ∧ W.1.length ≤ V.1.length := by
    refine ⟨_, _, rfl, rfl, ?_⟩
    have B1 := bestW_of p b
    have B2 := bestW_of (prsW b0 n1 n2 p) (bokW n3 b)
    rw [hml] at B2
    unfold wrongR
    rw [if_neg (not_not_intro h0), if_neg (not_not_intro h02)]
    cases h1 : bestW p b with
    | none =>
      rw [h1] at B1
      cases h2 : bestW (prsW b0 n1 n2 p) (bokW n3 b) with
      | none => exact ⟨rfl, .inr rfl, Nat.le_refl _⟩
      | some s =>
        rw [h2] at B2
        obtain ⟨⟨m, hm, ho, _⟩, _⟩ := B2
        rw [hob, B1 m hm] at ho; cases ho
    | some s =>
      rw [h1] at B1
      obtain ⟨⟨m, hm, ho, hs⟩, _⟩ := B1
      cases h2 : bestW (prsW b0 n1 n2 p) (bokW n3 b) with
      | none =>
        rw [h2] at B2
        have := B2 m hm
        rw [hob, ho] at this; cases this
      | some s2 =>
        rw [h2] at B2
        refine ⟨rfl, .inl rfl, ?_⟩
        have h3 := B2.2 m hm (by rw [hob]; exact ho)
        show (bitsL s2).length ≤ (bitsL s).length
        rw [hs]
        exact Nat.le_trans h3 (selT_len_mono (hwide m hm) 11)
  obtain ⟨V, W, hV, hW, hVW, hV9, hlen⟩ := hW
  rw [hA, hB, gc] at c3
  rw [hA, hB, hW] at c5
  rw [ga] at c2
  rw [hV] at c4
  have hlk := fitL_len hp b
  generalize fitL (prsW b0 n1 n2 p) (bokW n3 b) = kk at *
  generalize fitL p b = l at *
  clear hA hB ga gc hV hW hwide hob hml h02 hb2 he2
  simp -implicitDefEqProofs [e3, e4, e8, l8]
  refine vCall_of c2 ?_
  simp -implicitDefEqProofs [e7, e8, l7, l8, h78, h87]
  refine vCall_of c3 ?_
  simp -implicitDefEqProofs
  refine loop_up l.length (fun j st => st.env 3 = PRef p ∧ st.env 4 = BRef b ∧ st.env 7 = .mref w7 0 ∧ st.env 8 = .mref w8 0 ∧ st.loc w7 = some [.slice 2 (p.fmts.map Fmt.av) 0, .slice 5 ((p.pprs.map (pprW n1 n2)).map Ppr.av) 8001, I (mn 60 (p.trim + b0)), I p.sheets] ∧ st.loc w8 = some [I b.leaves, I b.chain, I (if n3 < b.wide.lo then b.wide.lo - n3 else 0), I (if b.wide.hi + n3 < 2000 then b.wide.hi + n3 else 2000), I (if n3 < b.high.lo then b.high.lo - n3 else 0), I (if b.high.hi + n3 < 2000 then b.high.hi + n3 else 2000), .slice 2 (b.marks.map Mrk.av) 0] ∧ st.env 11 = ML l ∧ st.env 13 = ML kk ∧ st.env 15 = I j) ?_ ?_
  · simp [e3, e4, e7, e8, l7, l8, h78, h87]
  clear e3 e4 e5 e7 e8 l7 l8 e9 hk hge
  rintro j st hj ⟨e3, e4, e7, e8, l7, l8, e11, e13, e15⟩
  simp -implicitDefEqProofs [e11, e15]
  refine cond_dec (fun hlt => ?_) (fun hge => ?_)
  · have hlt : j < l.length := by omega
    have c6 := one44_ok kk l[j]
    rw [decide_eq_true (hsub _ (List.getElem_mem hlt))] at c6
    simp -implicitDefEqProofs [e11, e13, e15, hlt]
    refine vCall_of c6 ?_
    simp -implicitDefEqProofs [e15]
    exact ⟨i64 (by omega) (by omega), round_ok hlt ⟨by simp [e3], by simp [e4], by simp [e7], by simp [e8], by simp [l7], by simp [l8], by simp [e11], by simp [e13], by simp⟩⟩
  simp -implicitDefEqProofs [e3, e4]
  refine vCall_of c4 ?_
  simp -implicitDefEqProofs [e7, e8, l7, l8]
  refine vCall_of c5 ?_
  have hq : (V.2 == W.2) = true := by simp [hVW]
  have hll : (W.1.length : Int) ≤ (V.1.length : Int) := by omega
  rcases hV9 with h9 | h9
  · have h9' : (V.2 == 0) = true := by simp [h9]
    simp -implicitDefEqProofs [hq, h9', hlen]
    refine vCall_of ha ?_
    simp -implicitDefEqProofs [r14]
  · have h9' : (V.2 == 0) = false := by simp [h9]
    have h9'' : (V.2 == 9) = true := by simp [h9]
    simp -implicitDefEqProofs [hq, h9', h9'', hlen]
    refine vCall_of ha ?_
    simp -implicitDefEqProofs [r14]
end Go.Proofs.Ytcfeipphmklakaa

