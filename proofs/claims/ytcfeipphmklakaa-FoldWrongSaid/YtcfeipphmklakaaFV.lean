/- The resolved code of some functions, written by program, each held against the function by the kernel. What holds of what is seen without some pieces. What is seen without some pieces: what the law's own function returns. Wrong names the fewest pieces: the plain law. Wrong names the fewest pieces: the law FoldWrong. -/
import Derived.Test.YtcfeipphmklakaaFG
import Derived.KernelRfl
import Derived.Test.YtcfeipphmklakaaFH
import Derived.Test.YtcfeipphmklakaaFT
namespace Go.Proofs.Ytcfeipphmklakaa
open Go.Avm

/- duodecimo/duodecimolaw02.FoldWrong -/
def ann13 : Ann := { muts := [], nilsz := [(17, 1)], oid := [], frz := [11, 12], zero := [(7, [(.slice 1 [] 8000), (.slice 1 [] 8001), (.slice 1 [] 8002), (.slice 1 [] 8003)]), (11, [(.lit (.int .i64 0)), (.lit (.int .i64 0)), (.lit (.int .i64 0)), (.lit (.int .i64 0)), (.lit (.int .i64 0)), (.lit (.int .i64 0)), (.slice 2 [] 12006)]), (12, [(.lit (.int .i64 0)), (.lit (.int .i64 0)), (.lit (.int .i64 0)), (.lit (.bool false))]), (99, [(.lit (.int .i64 0))])], ord := [(1, [0, 1, 2, 3, 4, 5, 6]), (21, [0, 1, 2, 3, 4, 5, 6, 7, 8, 9]), (27, [0, 1, 2, 3, 4, 5, 6, 7, 8, 9, 10, 11, 12, 13, 14, 15, 16, 17, 18, 19, 20, 21, 22, 23, 24, 25, 26, 27, 28, 29, 30, 31]), (29, [0, 1, 2, 3, 4, 5, 6, 7, 8, 9])], ap := [(7, [])], own := [8, 20, 23], yl := [], fz := [], imm := [25, 27] }
def m13 : MCode := (.seq (.reg [.boxI 3 (.t 0) 4, .boxI 4 (.t 1) 7, .boxI 5 (.t 2) 5, .asg 6 (.c (.lit (.bool false)))])
 (.seq (.reg [.addr 24 (.t 5) 0, .loadI 25 (.t 24) (some 4), .addr 26 (.t 5) 4, .loadI 27 (.t 26) none, .alloc 7 [(.slice 1 [] 8000), (.slice 1 [] 8001), (.slice 1 [] 8002), (.slice 1 [] 8003)], .apart [] (.t 7) (.store (.t 7) (.t 25) 4 0), .asg 8 (.t 27)])
 (.seq (.reg [.load 29 (.t 3) (some 4), .load 30 (.t 4) (some 7), .call 31 35 [(.t 29), (.t 30)], .cpy 28 (.t 31), .ext 32 (.t 28) 0, .ext 33 (.t 28) 1, .asg 9 (.t 32), .asg 10 (.t 33)])
 (.seq (.seq (.reg [.load 34 (.t 3) (some 4), .load 35 (.t 4) (some 7), .call 36 49 [(.t 34), (.t 35)], .not 37 (.t 36)])
 (.cond (.t 37) (.seq (.reg [.cpy 38 (.t 10), .bin 39 .neq (.t 38) (.c (.lit (.int .i64 0))), .cpy 40 (.t 39), .guard 40 true (some 41) (.cpy 41 (.t 9)), .guard 40 true (some 42) (.len 42 (.t 41)), .guard 40 true (some 43) (.bin 43 .eql (.t 42) (.c (.lit (.int .i64 0)))), .pick 44 (.t 40) (.t 43) (.c (.lit (.bool false))), .cpy 45 (.t 44), .guard 45 true (some 46) (.call 46 19 []), .pick 47 (.t 45) (.t 46) (.c (.lit (.bool false))), .asg 6 (.t 47)])
 .ret) .skip))
 (.seq (.reg [.load 49 (.t 3) (some 4), .load 50 (.t 7) (some 4), .cpy 51 (.t 8), .conv 52 .u8 (.t 51), .call 53 43 [(.t 49), (.t 50), (.t 52)], .cpy 48 (.t 53), .ext 54 (.t 48) 0, .ext 55 (.t 48) 1, .alloc 11 [(.lit (.int .i64 0)), (.lit (.int .i64 0)), (.lit (.int .i64 0)), (.lit (.int .i64 0)), (.lit (.int .i64 0)), (.lit (.int .i64 0)), (.slice 2 [] 12006)], .alloc 12 [(.lit (.int .i64 0)), (.lit (.int .i64 0)), (.lit (.int .i64 0)), (.lit (.bool false))], .storeF 11 (.t 54) 7, .storeF 12 (.t 55) 4])
 (.seq (.reg [.asg 13 (.c (.lit (.int .i64 0)))])
 (.seq (.seq (.reg [.asg 14 (.c (.lit (.int .i64 0)))])
 (.block 0 (.loop (.seq (.seq (.reg [.cpy 56 (.t 14), .addr 57 (.t 11) 6, .load 58 (.t 57) none, .len 59 (.t 58), .bin 60 .lss (.t 56) (.t 59)])
 (.cond (.t 60) .skip (.exit 0)))
 (.seq (.block 1 (.seq (.reg [.cpy 63 (.t 8), .cpy 64 (.t 14), .bin 65 .shr (.t 63) (.t 64), .bin 66 .rem (.t 65) (.c (.lit (.int .u16 2))), .bin 67 .eql (.t 66) (.c (.lit (.int .u16 1)))])
 (.cond (.t 67) (.reg [.cpy 68 (.t 13), .bin 69 .add (.t 68) (.c (.lit (.int .i64 1))), .asg 13 (.t 69)]) .skip)))
 (.reg [.cpy 61 (.t 14), .bin 62 .add (.t 61) (.c (.lit (.int .i64 1))), .asg 14 (.t 62)]))))))
 (.seq (.reg [.load 71 (.t 3) (some 4), .load 72 (.t 11) (some 7), .call 73 35 [(.t 71), (.t 72)], .cpy 70 (.t 73), .ext 74 (.t 70) 0, .ext 75 (.t 70) 1, .asg 15 (.t 74), .asg 16 (.t 75)])
 (.seq (.seq (.reg [.cpy 76 (.t 16), .bin 77 .neq (.t 76) (.c (.lit (.int .i64 0))), .cpy 78 (.t 77), .guard 78 false (some 79) (.cpy 79 (.t 15)), .guard 78 false (some 80) (.len 80 (.t 79)), .guard 78 false (some 81) (.cpy 81 (.t 13)), .guard 78 false (some 82) (.bin 82 .gtr (.t 80) (.t 81)), .pick 83 (.t 78) (.c (.lit (.bool true))) (.t 82)])
 (.cond (.t 83) (.seq (.reg [.asg 6 (.c (.lit (.bool false)))])
 .ret) .skip))
 (.seq (.reg [.asgNil 17 1])
 (.seq (.seq (.reg [.asg 18 (.c (.lit (.int .i64 0)))])
 (.block 2 (.loop (.seq (.seq (.reg [.cpy 84 (.t 18), .addr 85 (.t 4) 6, .load 86 (.t 85) none, .len 87 (.t 86), .bin 88 .add (.c (.lit (.int .i64 3))) (.t 87), .bin 89 .lss (.t 84) (.t 88)])
 (.cond (.t 89) .skip (.exit 2)))
 (.seq (.block 3 (.seq (.reg [.cpy 92 (.t 8), .cpy 93 (.t 18), .bin 94 .shr (.t 92) (.t 93), .bin 95 .rem (.t 94) (.c (.lit (.int .u16 2))), .bin 96 .eql (.t 95) (.c (.lit (.int .u16 1)))])
 (.cond (.t 96) (.reg [.cpy 97 (.t 17), .cpy 98 (.t 18), .mkS 99 1 1 [(.lit (.int .i64 0))] [(0, (.t 98))], .app 100 (.t 97) (.t 99) 1 8, .asg 17 (.t 100)]) .skip)))
 (.reg [.cpy 90 (.t 18), .bin 91 .add (.t 90) (.c (.lit (.int .i64 1))), .asg 18 (.t 91)]))))))
 (.seq (.reg [.load 102 (.t 3) (some 4), .load 103 (.t 4) (some 7), .cpy 104 (.t 17), .call 105 50 [(.t 103), (.t 104)], .call 106 30 [(.t 102), (.t 105)], .cpy 101 (.t 106), .ext 107 (.t 101) 0, .ext 108 (.t 101) 1, .cpyE 19 (.t 107), .asg 20 (.t 108)])
 (.seq (.seq (.reg [.cpy 109 (.t 10), .bin 110 .neq (.t 109) (.c (.lit (.int .i64 0)))])
 (.cond (.t 110) (.seq (.reg [.cpy 111 (.t 10), .bin 112 .eql (.t 111) (.c (.lit (.int .i64 9))), .cpy 113 (.t 112), .guard 113 true (some 114) (.cpy 114 (.t 9)), .guard 113 true (some 115) (.len 115 (.t 114)), .guard 113 true (some 116) (.bin 116 .eql (.t 115) (.c (.lit (.int .i64 0)))), .pick 117 (.t 113) (.t 116) (.c (.lit (.bool false))), .cpy 118 (.t 117), .guard 118 true (some 119) (.cpy 119 (.t 20)), .guard 118 true (some 120) (.bin 120 .eql (.t 119) (.c (.lit (.int .i64 0)))), .pick 121 (.t 118) (.t 120) (.c (.lit (.bool false))), .cpy 122 (.t 121), .guard 122 true (some 123) (.cpy 123 (.t 19)), .guard 122 true (some 124) (.len 124 (.t 123)), .guard 122 true (some 125) (.bin 125 .eql (.t 124) (.c (.lit (.int .i64 0)))), .pick 126 (.t 122) (.t 125) (.c (.lit (.bool false))), .cpy 127 (.t 126), .guard 127 true (some 128) (.call 128 19 []), .pick 129 (.t 127) (.t 128) (.c (.lit (.bool false))), .asg 6 (.t 129)])
 .ret) .skip))
 (.seq (.seq (.reg [.asg 21 (.c (.lit (.int .i64 0)))])
 (.block 4 (.loop (.seq (.seq (.reg [.cpy 130 (.t 21), .cpy 131 (.t 9), .len 132 (.t 131), .bin 133 .lss (.t 130) (.t 132)])
 (.cond (.t 133) .skip (.exit 4)))
 (.seq (.block 5 (.seq (.reg [.cpy 136 (.t 9), .cpy 137 (.t 21), .idxS 138 (.t 136) (.t 137) 1, .load 139 (.t 138) none, .bin 140 .lss (.t 139) (.c (.lit (.int .i64 0))), .cpy 141 (.t 140), .guard 141 false (some 142) (.cpy 142 (.t 9)), .guard 141 false (some 143) (.cpy 143 (.t 21)), .guard 141 false (some 144) (.idxS 144 (.t 142) (.t 143) 1), .guard 141 false (some 145) (.load 145 (.t 144) none), .guard 141 false (some 146) (.addr 146 (.t 4) 6), .guard 141 false (some 147) (.load 147 (.t 146) none), .guard 141 false (some 148) (.len 148 (.t 147)), .guard 141 false (some 149) (.bin 149 .add (.c (.lit (.int .i64 3))) (.t 148)), .guard 141 false (some 150) (.bin 150 .geq (.t 145) (.t 149)), .pick 151 (.t 141) (.c (.lit (.bool true))) (.t 150), .cpy 152 (.t 151), .guard 152 false (some 153) (.cpy 153 (.t 21)), .guard 152 false (some 154) (.bin 154 .gtr (.t 153) (.c (.lit (.int .i64 0)))), .guard 152 false (some 155) (.cpy 155 (.t 154)), .guard 155 true (some 156) (.cpy 156 (.t 9)), .guard 155 true (some 157) (.cpy 157 (.t 21)), .guard 155 true (some 158) (.idxS 158 (.t 156) (.t 157) 1), .guard 155 true (some 159) (.load 159 (.t 158) none), .guard 155 true (some 160) (.cpy 160 (.t 9)), .guard 155 true (some 161) (.cpy 161 (.t 21)), .guard 155 true (some 162) (.bin 162 .sub (.t 161) (.c (.lit (.int .i64 1)))), .guard 155 true (some 163) (.idxS 163 (.t 160) (.t 162) 1), .guard 155 true (some 164) (.load 164 (.t 163) none), .guard 155 true (some 165) (.bin 165 .leq (.t 159) (.t 164)), .guard 152 false (some 166) (.pick 166 (.t 155) (.t 165) (.c (.lit (.bool false)))), .pick 167 (.t 152) (.c (.lit (.bool true))) (.t 166)])
 (.cond (.t 167) (.seq (.reg [.asg 6 (.c (.lit (.bool false)))])
 .ret) .skip)))
 (.reg [.cpy 134 (.t 21), .bin 135 .add (.t 134) (.c (.lit (.int .i64 1))), .asg 21 (.t 135)]))))))
 (.seq (.reg [.load 169 (.t 3) (some 4), .load 170 (.t 4) (some 7), .cpy 171 (.t 9), .call 172 50 [(.t 170), (.t 171)], .call 173 30 [(.t 169), (.t 172)], .cpy 168 (.t 173), .ext 174 (.t 168) 0, .ext 175 (.t 168) 1, .cpyE 22 (.t 174), .asg 23 (.t 175)])
 (.seq (.reg [.cpy 176 (.t 23), .bin 177 .eql (.t 176) (.c (.lit (.int .i64 0))), .cpy 178 (.t 177), .guard 178 true (some 179) (.cpy 179 (.t 22)), .guard 178 true (some 180) (.len 180 (.t 179)), .guard 178 true (some 181) (.bin 181 .gtr (.t 180) (.c (.lit (.int .i64 0)))), .pick 182 (.t 178) (.t 181) (.c (.lit (.bool false))), .cpy 183 (.t 182), .guard 183 true (some 184) (.cpy 184 (.t 20)), .guard 183 true (some 185) (.bin 185 .eql (.t 184) (.c (.lit (.int .i64 0)))), .pick 186 (.t 183) (.t 185) (.c (.lit (.bool false))), .cpy 187 (.t 186), .guard 187 true (some 188) (.cpy 188 (.t 19)), .guard 187 true (some 189) (.len 189 (.t 188)), .guard 187 true (some 190) (.bin 190 .eql (.t 189) (.c (.lit (.int .i64 0)))), .guard 187 true (some 191) (.cpy 191 (.t 190)), .guard 191 false (some 192) (.cpy 192 (.t 17)), .guard 191 false (some 193) (.len 193 (.t 192)), .guard 191 false (some 194) (.cpy 194 (.t 9)), .guard 191 false (some 195) (.len 195 (.t 194)), .guard 191 false (some 196) (.bin 196 .geq (.t 193) (.t 195)), .guard 187 true (some 197) (.pick 197 (.t 191) (.c (.lit (.bool true))) (.t 196)), .pick 198 (.t 187) (.t 197) (.c (.lit (.bool false))), .cpy 199 (.t 198), .guard 199 true (some 200) (.call 200 19 []), .pick 201 (.t 199) (.t 200) (.c (.lit (.bool false))), .asg 6 (.t 201)])
 .ret))))))))))))))))
def r13 : List MRes := [.tmp 6]
theorem tr13 : Try.f13.body.bind (trC Try.prog ann13 Try.f13.ntmps) = some m13 := by kernel_rfl
theorem rs13 : trRes Try.prog Try.f13.results.toList = some r13 := by kernel_rfl
theorem fn13 : isFunc Try.prog 13 = true := by kernel_rfl
end Go.Proofs.Ytcfeipphmklakaa

namespace Go.Proofs.Ytcfeipphmklakaa
open Go.Avm

def zMrk : Mrk := ⟨0, false⟩
/-- The marks that are kept. -/
def keepT (ms : List Mrk) (o : List Int) (k : Nat) : List Mrk := ((List.range k).filter fun (i : Nat) => !decide ((3 + (i : Int)) ∈ o)).map fun i => ms.getD i zMrk
theorem keepT_succ (ms : List Mrk) (o : List Int) {k : Nat} (hk : k < ms.length) : keepT ms o (k + 1) = keepT ms o k ++ if decide ((3 + (k : Int)) ∈ o) then [] else [ms[k]] := by
  unfold keepT
  rw [List.range_succ, List.filter_append, List.map_append]
  congr 1
  cases h : decide ((3 + (k : Int)) ∈ o) <;> simp [h, hk]
theorem keepT_len (ms : List Mrk) (o : List Int) (k : Nat) : (keepT ms o k).length ≤ k := by
  unfold keepT
  rw [List.length_map]
  exact Nat.le_trans (List.length_filter_le _ _) (by simp)
theorem mem_keepT {ms : List Mrk} {o : List Int} {q : Mrk} : q ∈ keepT ms o ms.length ↔ ∃ i, ∃ h : i < ms.length, (3 + (i : Int)) ∉ o ∧ ms[i] = q := by
  unfold keepT
  simp only [List.mem_map, List.mem_filter, List.mem_range, Bool.not_eq_true', decide_eq_false_iff_not]
  constructor
  · rintro ⟨i, ⟨h1, h2⟩, h3⟩
    exact ⟨i, h1, h2, by rw [List.getD_eq_getElem?_getD, List.getElem?_eq_getElem h1, Option.getD_some] at h3; exact h3⟩
  · rintro ⟨i, h1, h2, h3⟩
    exact ⟨i, ⟨h1, h2⟩, by rw [List.getD_eq_getElem?_getD, List.getElem?_eq_getElem h1, Option.getD_some]; exact h3⟩

/-- What is seen without some pieces: what is not known of sizes is free. -/
def withoutB (b : Bok) (o : List Int) : Bok := ⟨b.leaves, if (0 : Int) ∈ o then 0 else b.chain, if (1 : Int) ∈ o then ⟨0, 2000⟩ else b.wide, if (2 : Int) ∈ o then ⟨0, 2000⟩ else b.high, keepT b.marks o b.marks.length⟩

theorem rightB_without {b : Bok} (hb : RightB b) (o : List Int) : RightB (withoutB b o) := by
  have hs := spansE_zero hb.spans
  refine ⟨hb.leaves, ?_, ?_, ?_, fun i hi => ?_⟩
  · show 0 ≤ (if (0 : Int) ∈ o then 0 else b.chain) ∧ (if (0 : Int) ∈ o then 0 else b.chain) ≤ 2
    have := hb.chain
    split <;> omega
  · show spansE 0 2000 (if (1 : Int) ∈ o then ⟨0, 2000⟩ else b.wide) (if (2 : Int) ∈ o then ⟨0, 2000⟩ else b.high) = 0
    refine spansE_mk ?_
    split <;> split <;> (try simp only) <;> omega
  · exact Nat.le_trans (keepT_len _ _ _) hb.marks
  · obtain ⟨j, hj, _, h2⟩ := mem_keepT.1 (List.getElem_mem hi)
    have := hb.at_ j hj
    rw [h2] at this
    exact this

def untQ (w : List Nat) (l : List Lf) (s h : Int) (q : Mrk) : Bool := ((l.getD q.leaf.toNat zLf).sheet == s) && (markM w (l.getD q.leaf.toNat zLf) h != q.seen)

theorem untP_q {w : List Nat} {l : List Lf} {ms : List Mrk} {s h : Int} {i : Nat} (hi : i < ms.length) : untP w l ms s h (3 + i) = untQ w l s h ms[i] := by
  unfold untP untQ
  rw [show 3 + i - 3 = i by omega, List.getElem?_eq_getElem hi]
  simp
theorem untP_inv {w : List Nat} {l : List Lf} {ms : List Mrk} {s h : Int} {j : Nat} (hj : untP w l ms s h j = true) : ∃ i, ∃ h' : i < ms.length, j = 3 + i ∧ untQ w l s h ms[i] = true := by
  have h3 : 3 ≤ j := by
    rcases Nat.lt_or_ge j 3 with h3 | h3
    · rw [untP_small w l ms s h h3] at hj; cases hj
    · exact h3
  obtain ⟨i, rfl⟩ : ∃ i, j = 3 + i := ⟨j - 3, by omega⟩
  have hi : i < ms.length := by
    rcases Nat.lt_or_ge i ms.length with h4 | h4
    · exact h4
    · rw [untP_big w l ms s h (by omega)] at hj; cases hj
  exact ⟨i, hi, rfl, by rw [← untP_q hi]; exact hj⟩

theorem untP_none {w : List Nat} {l : List Lf} {ms : List Mrk} {s h : Int} (hq : ∀ q ∈ ms, untQ w l s h q = false) (j : Nat) : untP w l ms s h j = false := by
  cases hj : untP w l ms s h j with
  | false => rfl
  | true =>
    obtain ⟨i, hi, _, h2⟩ := untP_inv hj
    rw [hq _ (List.getElem_mem hi)] at h2; cases h2

theorem chain_free {w : List Nat} {b : Bok} (h : b.chain = 0) : chainP w b = false := by unfold chainP; simp [h]

section
variable {p : Prs} (he : errE p = 0) {m : Mk} (hm : RightM p m) {b : Bok} (hb : RightB b)
include he hm

theorem free_wide (q0 : Nat) (hq : (m.paper.toNat : Nat) = q0) : ∀ b' : Bok, (b'.wide = ⟨0, 2000⟩ → wideP (codes (foldsOf p m)) (p.pprs.getD m.paper.toNat zPpr) p.trim b' = false) ∧ (b'.high = ⟨0, 2000⟩ → highP (codes (foldsOf p m)) (p.pprs.getD m.paper.toNat zPpr) p.trim b' = false) := by
  have hp := right_of he
  have hpp := hm.ppr
  have hgl : q0 < p.pprs.length := by omega
  have hw := spansE_zero (hp.wide q0 hgl)
  have hget : p.pprs.getD m.paper.toNat zPpr = p.pprs[q0] := by rw [hq, List.getD_eq_getElem?_getD, List.getElem?_eq_getElem hgl, Option.getD_some]
  rw [hget]
  generalize p.pprs[q0] = q at *
  have tr := hp.trim
  have s3 := sizeM_in hp hm (a := q.wide.lo) (b := q.high.lo) (A := 2000) (B := 2000) (by omega) (by omega)
  have s4 := sizeM_in hp hm (a := q.wide.hi) (b := q.high.hi) (A := 2000) (B := 2000) (by omega) (by omega)
  have hmax : max (2000 : Int) 2000 = 2000 := by omega
  rw [hmax] at s3 s4
  intro b'
  refine ⟨fun h => ?_, fun h => ?_⟩
  · unfold wideP metM
    rw [h]
    have h1 : (sizeM (codes (foldsOf p m)) q.wide.lo q.high.lo).1 - p.trim ≤ 2000 := by omega
    have h2 : 0 ≤ (sizeM (codes (foldsOf p m)) q.wide.hi q.high.hi).1 := by omega
    simp [h1, h2]
  · unfold highP metM
    rw [h]
    have h1 : (sizeM (codes (foldsOf p m)) q.wide.lo q.high.lo).2 - 2 * p.trim ≤ 2000 := by omega
    have h2 : 0 ≤ (sizeM (codes (foldsOf p m)) q.wide.hi q.high.hi).2 := by omega
    simp [h1, h2]

include hb
/-- Without the pieces that are wrong a way of making agrees. -/
theorem fits_without {o : List Int} (ho : offB p m b = true) (h : ∀ j : Nat, j < 11 → offP p m b j = true → (j : Int) ∈ o) : fits p (withoutB b o) m = true := by
  unfold fits
  rw [Bool.and_eq_true]
  refine ⟨ho, emptyP_iff.2 fun j hj => ?_⟩
  have fr := free_wide he hm _ rfl (withoutB b o)
  have hbase : ∀ j, j < 11 → baseP (codes (foldsOf p m)) (p.pprs.getD m.paper.toNat zPpr) p.trim b j = true → (j : Int) ∈ o := fun j hj hh => h j hj (by unfold offP offW; rw [hh]; rfl)
  have hsh : ∀ j, j < 11 → shP (codes (foldsOf p m)) (lvOf p m) b.marks m.sheets.toNat j = true → (j : Int) ∈ o := fun j hj hh => h j hj (by unfold offP offW; rw [hh, Bool.or_true])
  unfold offP offW
  rw [Bool.or_eq_false_iff]
  constructor
  · match j with
    | 0 =>
      show chainP _ _ = false
      by_cases h0 : (0 : Int) ∈ o
      · exact chain_free (by show (if (0 : Int) ∈ o then 0 else b.chain) = 0; rw [if_pos h0])
      · have e : (withoutB b o).chain = b.chain := by show (if (0 : Int) ∈ o then 0 else b.chain) = b.chain; rw [if_neg h0]
        cases hc : chainP (codes (foldsOf p m)) b with
        | false => unfold chainP at hc ⊢; rw [e]; exact hc
        | true => exact absurd (hbase 0 hj hc) h0
    | 1 =>
      show wideP _ _ _ _ = false
      by_cases h0 : (1 : Int) ∈ o
      · exact fr.1 (by show (if (1 : Int) ∈ o then (⟨0, 2000⟩ : Spn) else b.wide) = _; rw [if_pos h0])
      · have e : (withoutB b o).wide = b.wide := by show (if (1 : Int) ∈ o then (⟨0, 2000⟩ : Spn) else b.wide) = b.wide; rw [if_neg h0]
        cases hc : wideP (codes (foldsOf p m)) (p.pprs.getD m.paper.toNat zPpr) p.trim b with
        | false => unfold wideP at hc ⊢; rw [e]; exact hc
        | true => exact absurd (hbase 1 hj hc) h0
    | 2 =>
      show highP _ _ _ _ = false
      by_cases h0 : (2 : Int) ∈ o
      · exact fr.2 (by show (if (2 : Int) ∈ o then (⟨0, 2000⟩ : Spn) else b.high) = _; rw [if_pos h0])
      · have e : (withoutB b o).high = b.high := by show (if (2 : Int) ∈ o then (⟨0, 2000⟩ : Spn) else b.high) = b.high; rw [if_neg h0]
        cases hc : highP (codes (foldsOf p m)) (p.pprs.getD m.paper.toNat zPpr) p.trim b with
        | false => unfold highP at hc ⊢; rw [e]; exact hc
        | true => exact absurd (hbase 2 hj hc) h0
    | j + 3 => rfl
  · cases hc : shP (codes (foldsOf p m)) (lvOf p m) (withoutB b o).marks m.sheets.toNat j with
    | false => rfl
    | true =>
      exfalso
      unfold shP at hc
      obtain ⟨s, hs, hu⟩ := List.any_eq_true.1 hc
      have hs' : s < m.sheets.toNat := by simpa using hs
      have hn : selT (untP (codes (foldsOf p m)) (lvOf p m) (withoutB b o).marks s (halfM (codes (foldsOf p m)) (lvOf p m) b.marks s)) 11 = [] := selT_nil fun j' _ => untP_none (fun q hq => by
        obtain ⟨i, hi, h1, h2⟩ := mem_keepT.1 hq
        have hm8 := hb.marks
        cases hu2 : untQ (codes (foldsOf p m)) (lvOf p m) s (halfM (codes (foldsOf p m)) (lvOf p m) b.marks s) q with
        | false => rfl
        | true =>
          rw [← h2, ← untP_q hi] at hu2
          refine absurd (hsh (3 + i) (by omega) ?_) h1
          unfold shP
          exact List.any_eq_true.2 ⟨s, hs, hu2⟩) j'
      have hn2 := halfM_nil (halfM_in _ _ _ _) hn
      have := mem_selT.2 ⟨hj, hu⟩
      rw [hn2] at this; cases this

omit he hm in
/-- If a way of making agrees without some pieces, no others are wrong. -/
theorem off_without {o : List Int} (h : fits p (withoutB b o) m = true) : offB p m b = true ∧ (selT (offP p m b) 11).length ≤ (selT (fun j => decide ((j : Int) ∈ o)) 11).length := by
  unfold fits at h
  rw [Bool.and_eq_true] at h
  refine ⟨h.1, ?_⟩
  have hem := emptyP_iff.1 h.2
  have hbase : ∀ j, j < 11 → baseP (codes (foldsOf p m)) (p.pprs.getD m.paper.toNat zPpr) p.trim (withoutB b o) j = false := fun j hj => (Bool.or_eq_false_iff.1 (hem j hj)).1
  have hsh : ∀ j, j < 11 → shP (codes (foldsOf p m)) (lvOf p m) (withoutB b o).marks m.sheets.toNat j = false := fun j hj => (Bool.or_eq_false_iff.1 (hem j hj)).2
  let hs : Nat → Int := fun s => halfM (codes (foldsOf p m)) (lvOf p m) (withoutB b o).marks s
  let Q : Nat → Bool := anyS (fun s j => untP (codes (foldsOf p m)) (lvOf p m) b.marks s (hs s) j) m.sheets.toNat
  have hdis : ∀ {R : Nat → Bool}, (∀ j, R j = true → 3 ≤ j) → ∀ j, baseP (codes (foldsOf p m)) (p.pprs.getD m.paper.toNat zPpr) p.trim b j = true → R j = false := fun {R} hR j hj => by
    cases hr : R j with
    | false => rfl
    | true =>
      have := hR j hr
      obtain ⟨i, rfl⟩ : ∃ i, j = i + 3 := ⟨j - 3, by omega⟩
      cases hj
  have h3 : ∀ {s h : Int} {j : Nat}, untP (codes (foldsOf p m)) (lvOf p m) b.marks s h j = true → 3 ≤ j := fun hu => by
    obtain ⟨i, _, rfl, _⟩ := untP_inv hu; omega
  have e1 : (selT (offP p m b) 11).length = _ := sel_or_len (hdis (R := shP (codes (foldsOf p m)) (lvOf p m) b.marks m.sheets.toNat) fun j hj => by
    unfold shP at hj
    obtain ⟨s, _, hu⟩ := List.any_eq_true.1 hj
    exact h3 hu) 11
  have e2 := sel_or_len (hdis (R := Q) fun j hj => by
    obtain ⟨s, _, hu⟩ := anyS_iff.1 hj
    exact h3 hu) 11
  have e3 : (selT (shP (codes (foldsOf p m)) (lvOf p m) b.marks m.sheets.toNat) 11).length ≤ (selT Q 11).length := shP_len (codes (foldsOf p m)) (lvOf p m) b.marks m.sheets.toNat (hs := hs) (fun s => halfM_in _ _ _ _)
  have e4 : (selT (fun j => baseP (codes (foldsOf p m)) (p.pprs.getD m.paper.toNat zPpr) p.trim b j || Q j) 11).length ≤ (selT (fun j => decide (j < 11) && decide ((j : Int) ∈ o)) 11).length := by
    have key : ∀ j, j < 11 → (baseP (codes (foldsOf p m)) (p.pprs.getD m.paper.toNat zPpr) p.trim b j || Q j) = true → (j : Int) ∈ o := fun j hj hor => by
      rcases Bool.or_eq_true_iff.1 hor with hx | hx
      · have hb0 := hbase j hj
        match j with
        | 0 =>
          rcases Classical.em ((0 : Int) ∈ o) with h0 | h0
          · exact h0
          · have e : (withoutB b o).chain = b.chain := by show (if (0 : Int) ∈ o then 0 else b.chain) = b.chain; rw [if_neg h0]
            have hb1 : chainP (codes (foldsOf p m)) (withoutB b o) = false := hb0
            have hx1 : chainP (codes (foldsOf p m)) b = true := hx
            unfold chainP at hb1 hx1
            rw [e, hx1] at hb1; cases hb1
        | 1 =>
          rcases Classical.em ((1 : Int) ∈ o) with h0 | h0
          · exact h0
          · have e : (withoutB b o).wide = b.wide := by show (if (1 : Int) ∈ o then (⟨0, 2000⟩ : Spn) else b.wide) = b.wide; rw [if_neg h0]
            have hb1 : wideP (codes (foldsOf p m)) (p.pprs.getD m.paper.toNat zPpr) p.trim (withoutB b o) = false := hb0
            have hx1 : wideP (codes (foldsOf p m)) (p.pprs.getD m.paper.toNat zPpr) p.trim b = true := hx
            unfold wideP at hb1 hx1
            rw [e, hx1] at hb1; cases hb1
        | 2 =>
          rcases Classical.em ((2 : Int) ∈ o) with h0 | h0
          · exact h0
          · have e : (withoutB b o).high = b.high := by show (if (2 : Int) ∈ o then (⟨0, 2000⟩ : Spn) else b.high) = b.high; rw [if_neg h0]
            have hb1 : highP (codes (foldsOf p m)) (p.pprs.getD m.paper.toNat zPpr) p.trim (withoutB b o) = false := hb0
            have hx1 : highP (codes (foldsOf p m)) (p.pprs.getD m.paper.toNat zPpr) p.trim b = true := hx
            unfold highP at hb1 hx1
            rw [e, hx1] at hb1; cases hb1
        | j + 3 => cases hx
      · obtain ⟨s, hs1, hu⟩ := anyS_iff.1 hx
        obtain ⟨i, hi, rfl, hq⟩ := untP_inv hu
        rcases Classical.em ((3 + (i : Int)) ∈ o) with h0 | h0
        · have : ((3 + i : Nat) : Int) = 3 + (i : Int) := by omega
          rw [this]; exact h0
        · exfalso
          have hmem : b.marks[i] ∈ (withoutB b o).marks := mem_keepT.2 ⟨i, hi, h0, rfl⟩
          obtain ⟨i', hi', he'⟩ := List.mem_iff_getElem.1 hmem
          have hlen : (withoutB b o).marks.length ≤ 8 := (rightB_without hb o).marks
          have hu' : untP (codes (foldsOf p m)) (lvOf p m) (withoutB b o).marks s (hs s) (3 + i') = true := by rw [untP_q hi', he']; exact hq
          have := hsh (3 + i') (by omega)
          unfold shP at this
          rw [List.any_eq_false] at this
          exact this s (by simpa using hs1) hu'
    rw [selT_congr (q := fun j => baseP (codes (foldsOf p m)) (p.pprs.getD m.paper.toNat zPpr) p.trim b j || Q j) (r := fun j => decide (j < 11) && (baseP (codes (foldsOf p m)) (p.pprs.getD m.paper.toNat zPpr) p.trim b j || Q j)) fun j hj => by rw [decide_eq_true hj, Bool.true_and]]
    refine selT_len_mono (fun j hj => ?_) 11
    rw [Bool.and_eq_true] at hj ⊢
    exact ⟨hj.1, decide_eq_true (key j (of_decide_eq_true hj.1) hj.2)⟩
  have e5 : selT (fun j => decide (j < 11) && decide ((j : Int) ∈ o)) 11 = selT (fun j => decide ((j : Int) ∈ o)) 11 := selT_congr fun j hj => by rw [decide_eq_true hj, Bool.true_and]
  rw [e5] at e4
  rw [e1]
  omega
end

/-- Of numbers of a list that was made so no more are found. -/
theorem sel_mem_len (q : Nat → Bool) (n : Nat) : ∀ k, (selT (fun j => decide ((j : Int) ∈ selT q n)) k).length ≤ (selT q n).length := by
  have hmono : ∀ d k, (selT q k).length ≤ (selT q (k + d)).length := fun d => by
    induction d with
    | zero => intro k; exact Nat.le_refl _
    | succ d ih =>
      intro k
      refine Nat.le_trans (ih k) ?_
      rw [show k + (d + 1) = (k + d) + 1 from rfl, selT_succ, List.length_append]
      omega
  intro k
  rcases Nat.le_total k n with h | h
  · refine Nat.le_trans (selT_len_mono (r := q) (fun j hj => (mem_selT.1 (of_decide_eq_true hj)).2) k) ?_
    have := hmono (n - k) k
    rwa [show k + (n - k) = n by omega] at this
  · obtain ⟨d, rfl⟩ : ∃ d, k = n + d := ⟨k - n, by omega⟩
    rw [selT_more (q := fun j => decide ((j : Int) ∈ selT q n)) (n := n) (fun j hj => by
      rw [decide_eq_false_iff_not]
      intro hm
      have := (mem_selT.1 hm).1
      omega) d]
    exact selT_len_mono (r := q) (fun j hj => (mem_selT.1 (of_decide_eq_true hj)).2) n
end Go.Proofs.Ytcfeipphmklakaa

namespace Go.Proofs.Ytcfeipphmklakaa
open Go.Avm

theorem span40_ok2 (lo hi : Int) : PCall Try.prog 40 [I lo, I hi] (.agg [I lo, I hi]) := by
  refine pcall Try.func40 tr40 rs40 fn40 (by simp [Try.ntmps40]) fun hfit => ?_
  simp -implicitDefEqProofs [m40, r40]
theorem free41_ok : PCall Try.prog 41 [] (.agg [I 0, I 2000]) := by
  refine pcall Try.func41 tr41 rs41 fn41 (by simp [Try.ntmps41]) fun hfit => ?_
  simp -implicitDefEqProofs [m41]
  intro b1
  refine vCall_of (span40_ok2 0 2000) ?_
  simp -implicitDefEqProofs [r41]

theorem without50_ok (b : Bok) (o : List Int) (h8 : b.marks.length ≤ 8) : PCall Try.prog 50 [b.av, IL o] (withoutB b o).av := by
  refine pcall Try.func50 tr50 rs50 fn50 (by simp [Try.ntmps50]) fun hfit => ?_
  have c0 := has47_ok o 0
  have c1 := has47_ok o 1
  have c2 := has47_ok o 2
  have c3 := fun k : Int => has47_ok o k
  unfold withoutB
  obtain ⟨ch, hch⟩ : ∃ ch, ch = if (0 : Int) ∈ o then 0 else b.chain := ⟨_, rfl⟩
  obtain ⟨wd, hwd⟩ : ∃ wd, wd = if (1 : Int) ∈ o then ⟨0, 2000⟩ else b.wide := ⟨_, rfl⟩
  obtain ⟨hg, hhg⟩ : ∃ hg, hg = if (2 : Int) ∈ o then ⟨0, 2000⟩ else b.high := ⟨_, rfl⟩
  rw [← hch, ← hwd, ← hhg]
  simp -implicitDefEqProofs [m50]
  intro b4 b5 hne
  have hne' : ¬ b4 = b5 := fun e => hne e.symm
  refine vCall_of c0 ?_
  simp -implicitDefEqProofs
  refine cutC (fun st => st.env 1 = IL o ∧ st.env 2 = BRef b ∧ st.env 4 = .mref b4 0 ∧ st.env 5 = .mref b5 0 ∧ (∃ Z, st.loc b4 = some Z ∧ Z.length = 7) ∧ st.loc b5 = some [I b.leaves, I ch, I b.wide.lo, I b.wide.hi, I b.high.lo, I b.high.hi, .slice 2 [] 6006]) ?_ (fun kk hkk hb => ?_) (fun kk hkk hb => ?_)
  rotate_left
  · rw [if_pos (of_decide_eq_true hb)] at hch
    simp -implicitDefEqProofs [hne, hne']
    exact hkk _ ⟨by simp, by simp, by simp, by simp, ⟨_, by simp [hne, hne']; rfl, rfl⟩, by simp [hne, hne', hch]⟩
  · rw [if_neg (of_decide_eq_false hb)] at hch
    simp -implicitDefEqProofs [hne, hne']
    exact hkk _ ⟨by simp, by simp, by simp, by simp, ⟨_, by simp [hne, hne']; rfl, rfl⟩, by simp [hne, hne', hch]⟩
  rintro st ⟨e1, e2, e4, e5, ⟨Z, ez, hZ⟩, el⟩
  simp -implicitDefEqProofs [e1]
  refine vCall_of c1 ?_
  simp -implicitDefEqProofs
  refine cutC (fun st => st.env 1 = IL o ∧ st.env 2 = BRef b ∧ st.env 4 = .mref b4 0 ∧ st.env 5 = .mref b5 0 ∧ (∃ Z, st.loc b4 = some Z ∧ Z.length = 7) ∧ st.loc b5 = some [I b.leaves, I ch, I wd.lo, I wd.hi, I b.high.lo, I b.high.hi, .slice 2 [] 6006]) ?_ (fun kk hkk hb => ?_) (fun kk hkk hb => ?_)
  rotate_left
  · rw [if_pos (of_decide_eq_true hb)] at hwd
    simp -implicitDefEqProofs
    refine vCall_of free41_ok ?_
    simp -implicitDefEqProofs [e5, el]
    exact hkk _ ⟨by simp [e1], by simp [e2], by simp [e4], by simp [e5], ⟨Z, by simp [hne, hne', ez], hZ⟩, by simp [hne, hne', hwd, el]⟩
  · rw [if_neg (of_decide_eq_false hb)] at hwd
    simp -implicitDefEqProofs
    exact hkk _ ⟨by simp [e1], by simp [e2], by simp [e4], by simp [e5], ⟨Z, by simp [hne, hne', ez], hZ⟩, by simp [hne, hne', hwd, el]⟩
  clear e1 e2 e4 e5 ez hZ el
  rintro st ⟨e1, e2, e4, e5, ⟨Z, ez, hZ⟩, el⟩
  simp -implicitDefEqProofs [e1]
  refine vCall_of c2 ?_
  simp -implicitDefEqProofs
  refine cutC (fun st => st.env 1 = IL o ∧ st.env 2 = BRef b ∧ st.env 4 = .mref b4 0 ∧ st.env 5 = .mref b5 0 ∧ (∃ Z, st.loc b4 = some Z ∧ Z.length = 7) ∧ st.loc b5 = some [I b.leaves, I ch, I wd.lo, I wd.hi, I hg.lo, I hg.hi, .slice 2 [] 6006]) ?_ (fun kk hkk hb => ?_) (fun kk hkk hb => ?_)
  rotate_left
  · rw [if_pos (of_decide_eq_true hb)] at hhg
    simp -implicitDefEqProofs
    refine vCall_of free41_ok ?_
    simp -implicitDefEqProofs [e5, el]
    exact hkk _ ⟨by simp [e1], by simp [e2], by simp [e4], by simp [e5], ⟨Z, by simp [hne, hne', ez], hZ⟩, by simp [hne, hne', hhg, el]⟩
  · rw [if_neg (of_decide_eq_false hb)] at hhg
    simp -implicitDefEqProofs
    exact hkk _ ⟨by simp [e1], by simp [e2], by simp [e4], by simp [e5], ⟨Z, by simp [hne, hne', ez], hZ⟩, by simp [hne, hne', hhg, el]⟩
  clear e1 e2 e4 e5 ez hZ el
  rintro st ⟨e1, e2, e4, e5, ⟨Z, ez, hZ⟩, el⟩
  simp -implicitDefEqProofs
  refine loop_up b.marks.length (fun k st => st.env 1 = IL o ∧ st.env 2 = BRef b ∧ st.env 4 = .mref b4 0 ∧ st.env 5 = .mref b5 0 ∧ (∃ Z, st.loc b4 = some Z ∧ Z.length = 7) ∧ st.loc b5 = some [I b.leaves, I ch, I wd.lo, I wd.hi, I hg.lo, I hg.hi, .slice 2 ((keepT b.marks o k).map Mrk.av) 6006] ∧ st.env 6 = I k) ?_ ?_
  · exact ⟨by simp [e1], by simp [e2], by simp [e4], by simp [e5], ⟨Z, by simp [ez], hZ⟩, by simp [el, keepT], by simp⟩
  clear e1 e2 e4 e5 ez hZ el
  rintro k st hk ⟨e1, e2, e4, e5, ⟨Z, ez, hZ⟩, el, e6⟩
  simp -implicitDefEqProofs [e2, e6]
  refine cond_dec (fun hlt => ?_) (fun hge => ?_)
  · have hlt : k < b.marks.length := by omega
    have hks := keepT_succ b.marks o hlt
    have hkl := keepT_len b.marks o k
    have c4 := c3 (3 + (k : Int))
    simp -implicitDefEqProofs [e1, e2, e6]
    refine ⟨i64 (by omega) (by omega), ?_⟩
    refine vCall_of c4 ?_
    cases hd : decide ((3 + (k : Int)) ∈ o) with
    | true =>
      rw [hd, if_pos rfl, List.append_nil] at hks
      simp -implicitDefEqProofs [e6]
      exact ⟨i64 (by omega) (by omega), round_ok hlt ⟨by simp [e1], by simp [e2], by simp [e4], by simp [e5], ⟨Z, by simp [ez], hZ⟩, by simp [el, hks], by simp⟩⟩
    | false =>
      rw [hd, if_neg (by simp)] at hks
      obtain ⟨kp, hkp⟩ : ∃ kp, kp = keepT b.marks o k := ⟨_, rfl⟩
      rw [← hkp] at el hks hkl
      simp -implicitDefEqProofs [e2, e5, e6, el, hlt]
      exact ⟨by omega, by omega, i64 (by omega) (by omega), round_ok hlt ⟨by simp [e1], by simp [e2], by simp [e4], by simp [e5], ⟨_, by simp [hne, hne', ez]; rfl, by simp [hZ]⟩, by simp [hks], by simp⟩⟩
  · obtain rfl : k = b.marks.length := by omega
    simp -implicitDefEqProofs [e4, e5, el, ez, hZ, hne, hne', r50]
end Go.Proofs.Ytcfeipphmklakaa

namespace Go.Proofs.Ytcfeipphmklakaa
open Go.Avm

theorem offP_big {p : Prs} {m : Mk} {b : Bok} {j : Nat} (h : 3 + b.marks.length ≤ j) : offP p m b j = false := by
  obtain ⟨i, rfl⟩ : ∃ i, j = i + 3 := ⟨j - 3, by omega⟩
  unfold offP offW
  rw [Bool.or_eq_false_iff]
  refine ⟨rfl, ?_⟩
  unfold shP
  rw [List.any_eq_false]
  intro s _
  rw [untP_big _ _ _ _ _ (by omega)]
  simp

theorem wrong_facts {p : Prs} (he : errE p = 0) {b : Bok} (hb : RightB b) :
    (wrongR p b = ([], 9) ∧ ∀ o, fitL p (withoutB b o) = []) ∨
    ∃ q : Nat → Bool, wrongR p b = (selT q 11, 0) ∧ (∀ j, q j = true → j < 3 + b.marks.length) ∧ 0 < (fitL p (withoutB b (selT q 11))).length ∧
      ∀ (q' : Nat → Bool) (n : Nat), (fitL p (withoutB b (selT q' n))).length ≠ 0 → (selT q 11).length ≤ (selT q' n).length := by
  have hB := bookE_of he hb
  have hbst := bestW_of p b
  unfold wrongR
  rw [if_neg (not_not_intro hB)]
  cases hw : bestW p b with
  | none =>
    rw [hw] at hbst
    refine .inl ⟨rfl, fun o => List.filter_eq_nil_iff.2 fun m hm hf => ?_⟩
    unfold fits at hf
    rw [Bool.and_eq_true] at hf
    have h0 : offB p m (withoutB b o) = offB p m b := rfl
    rw [h0, hbst m hm] at hf
    cases hf.1
  | some s =>
    rw [hw] at hbst
    obtain ⟨⟨m, hm, ho, hs⟩, hmin⟩ := hbst
    refine .inr ⟨offP p m b, by simp only [hs], fun j hj => ?_, ?_, fun q' n hne => ?_⟩
    · rcases Nat.lt_or_ge j (3 + b.marks.length) with h | h
      · exact h
      · rw [offP_big h] at hj; cases hj
    · have hf := fits_without he (mk_right he hm) hb ho (o := selT (offP p m b) 11) fun j hj hq => mem_selT'.2 ⟨hj, hq⟩
      exact List.length_pos_of_mem (List.mem_filter.2 ⟨hm, hf⟩)
    · obtain ⟨m', hm'⟩ : ∃ m', m' ∈ fitL p (withoutB b (selT q' n)) := by
        cases hl : fitL p (withoutB b (selT q' n)) with
        | nil => rw [hl] at hne; exact absurd rfl hne
        | cons a l => exact ⟨a, List.mem_cons_self ..⟩
      obtain ⟨h1, h2⟩ := List.mem_filter.1 hm'
      have h3 := off_without hb h2
      have h4 := hmin m' h1 h3.1
      have h5 := sel_mem_len q' n 11
      rw [hs] at h4
      omega

theorem sel_strict {q : Nat → Bool} {n i : Nat} (h0 : 0 < i) (h : i < (selT q n).length) : (selT q n)[i - 1]'(by omega) < (selT q n)[i] := selT_lt (by omega) h
theorem sel_in {q : Nat → Bool} {n m i : Nat} (hq : ∀ j, q j = true → j < m) (h : i < (selT q n).length) : 0 ≤ (selT q n)[i] ∧ (selT q n)[i] < m := by
  obtain ⟨j, h1, _, h3⟩ := selT_mem' (List.getElem_mem h)
  rw [h1]
  have := hq j h3
  omega
theorem selT_le (q : Nat → Bool) (n : Nat) : (selT q n).length ≤ n := by
  unfold selT
  rw [List.length_map]
  exact Nat.le_trans (List.length_filter_le _ _) (by simp)

theorem shr_bit16 {nb k : Nat} (hk : k ≤ 16) : (((nb : Int).fdiv (2 ^ (min k 16))).tmod 2 == 1) = nb.testBit k := by
  have e : min k 16 = k := by omega
  rw [e]
  obtain ⟨q, hq⟩ : ∃ q, q = nb / 2 ^ k := ⟨_, rfl⟩
  have h1 : (nb : Int).fdiv (2 ^ k) = (q : Int) := by
    rw [hq]
    rw [Int.fdiv_eq_ediv_of_nonneg _ (by exact Int.pow_nonneg (by omega))]
    simp
  rw [h1, Int.tmod_eq_emod_of_nonneg (by omega)]
  have h2 : nb.testBit k = decide (nb / 2 ^ k % 2 = 1) := Nat.testBit_eq_decide_div_mod_eq ..
  rw [h2, ← hq, Bool.eq_iff_iff, decide_eq_true_eq, beq_iff_eq]
  omega

theorem cntB_mod (na : Nat) : ∀ k, k ≤ 8 → cntB (na % 256) k = cntB na k
  | 0, _ => rfl
  | k + 1, h => by
    rw [cntB_succ, cntB_succ, cntB_mod na k (by omega)]
    have : (na % 256).testBit k = na.testBit k := by
      rw [show 256 = 2 ^ 8 from rfl, Nat.testBit_mod_two_pow]
      simp; omega
    rw [this]
end Go.Proofs.Ytcfeipphmklakaa

namespace Go.Proofs.Ytcfeipphmklakaa
open Go.Avm

/-- ANY way in which a gathering was made, and ANY pieces, by bits. -/
structure Doubt where
  past : Past
  bits : Int
abbrev Doubt.cs (y : Doubt) : List AV := [US y.past.make, US y.past.sizes, US y.past.halves, US y.past.looked, U y.bits]
abbrev Doubt.av (y : Doubt) : AV := .agg y.cs
def okDoubt (y : Doubt) : Prop := okPast y.past ∧ 0 ≤ y.bits ∧ y.bits ≤ 65535

theorem wrap_u8 (n : Nat) : IntKind.wrap .u8 (n : Int) = ((n % 256 : Nat) : Int) := by
  simp [IntKind.wrap, IntKind.bits, IntKind.signed]

theorem cntB_le (nb k : Nat) : cntB nb k ≤ k := by
  unfold cntB
  exact Nat.le_trans (List.length_filter_le _ _) (by simp)

theorem foldWrong_of (h43 : ∀ (p : Prs), errE p = 0 → ∀ (x : Past), okPast x → ∀ nb : Nat, nb ≤ 255 → PCall Try.prog 43 [p.av, x.av, .lit (.int .u8 nb)] (.tuple [(toldB p x nb).av, (toldM p x).av]))
    (ha : PCall Try.prog 19 [] (B true)) (p : Prs) (b : Bok) (y : Doubt) (_ : True) (_ : True) (hy : okDoubt y) : PCall Try.prog 13 [p.av, b.av, y.av] (B true) := by
  obtain ⟨x, na⟩ := y
  obtain ⟨hx, hn⟩ := hy
  simp only at hx hn
  obtain ⟨na, rfl⟩ : ∃ k : Nat, na = k := ⟨na.toNat, by omega⟩
  refine pcall Try.func13 tr13 rs13 fn13 (by simp [Try.ntmps13]) fun hfit => ?_
  have c1 := wrong35_ok p b
  have c2 := good49_ok p b
  obtain ⟨R, hR⟩ : ∃ R, R = wrongR p b := ⟨_, rfl⟩
  rw [← hR] at c1
  obtain ⟨w, e⟩ := R
  simp only at c1
  unfold m13
  refine cutS (fun st => st.env 3 = PRef p ∧ st.env 4 = BRef b ∧ st.env 5 = .ref [US x.make, US x.sizes, US x.halves, US x.looked, U na]) (fun k hk => ?_) ?_
  · simp -implicitDefEqProofs
    exact hk _ ⟨rfl, rfl, rfl⟩
  rintro st ⟨e3, e4, e5⟩
  refine cutS (fun st => st.env 3 = PRef p ∧ st.env 4 = BRef b ∧ (∃ b7, st.env 7 = .mref b7 0 ∧ st.loc b7 = some x.cs) ∧ st.env 8 = U na) (fun k hk => ?_) ?_
  · simp -implicitDefEqProofs [e5]
    intro b7 _
    exact hk _ ⟨by simp [e3], by simp [e4], ⟨b7, by simp, by simp⟩, by simp⟩
  clear e3 e4 e5
  rintro st ⟨e3, e4, ⟨b7, e7, l7⟩, e8⟩
  refine cutS (fun st => st.env 3 = PRef p ∧ st.env 4 = BRef b ∧ st.env 7 = .mref b7 0 ∧ st.loc b7 = some x.cs ∧ st.env 8 = U na ∧ st.env 9 = IL w ∧ st.env 10 = I e) (fun k hk => ?_) ?_
  · simp -implicitDefEqProofs [e3, e4]
    refine vCall_of c1 ?_
    simp -implicitDefEqProofs
    exact hk _ ⟨by simp [e3], by simp [e4], by simp [e7], by simp [l7], by simp [e8], by simp, by simp⟩
  clear e3 e4 e7 l7 e8
  rintro st ⟨e3, e4, e7, l7, e8, e9, e10⟩
  refine cutS (fun st => bookE p b = 0 ∧ st.env 3 = PRef p ∧ st.env 4 = BRef b ∧ st.env 7 = .mref b7 0 ∧ st.loc b7 = some x.cs ∧ st.env 8 = U na ∧ st.env 9 = IL w ∧ st.env 10 = I e) (fun k hk => ?_) ?_
  · simp -implicitDefEqProofs [e3, e4]
    refine vCall_of c2 ?_
    by_cases hB : bookE p b = 0
    · have hB' : (bookE p b == 0) = true := by simp [hB]
      simp -implicitDefEqProofs [hB']
      exact hk _ ⟨hB, by simp [e3], by simp [e4], by simp [e7], by simp [l7], by simp [e8], by simp [e9], by simp [e10]⟩
    · have hB' : (bookE p b == 0) = false := beq_eq_false_iff_ne.2 hB
      have hRn : (w, e) = (([] : List Int), bookE p b) := by rw [hR]; unfold wrongR; rw [if_pos hB]
      injection hRn with hw0 he0
      subst hw0 he0
      have he1 : (bookE p b != 0) = true := by simp [hB]
      simp -implicitDefEqProofs [hB', e9, e10, he1]
      refine vCall_of ha ?_
      simp -implicitDefEqProofs [r13]
  clear e3 e4 e7 l7 e8 e9 e10 c1 c2
  rintro st ⟨hB, e3, e4, e7, l7, e8, e9, e10⟩
  obtain ⟨he, hb⟩ := rightB_of hB
  have c3 := h43 p he x hx (na % 256) (by omega)
  have hwr := told_wrong he hx (na % 256)
  have c4 := wrong35_ok p (toldB p x (na % 256))
  have hK := many_le hx
  have htl : (toldB p x (na % 256)).marks.length = manyT x := mrksT_len ..
  generalize toldB p x (na % 256) = t at *
  generalize toldM p x = tm at *
  obtain ⟨v, hv⟩ : ∃ v, v = (wrongR p t).1 := ⟨_, rfl⟩
  rw [hwr.1, ← hv] at c4
  have hvl := hwr.2
  rw [← hv, cntB_mod na _ hK] at hvl
  have hw8 := wrap_u8 na
  refine cutS (fun st => st.env 3 = PRef p ∧ st.env 4 = BRef b ∧ st.env 8 = U na ∧ st.env 9 = IL w ∧ st.env 10 = I e ∧ st.env 11 = BRef t) (fun k hk => ?_) ?_
  · simp -implicitDefEqProofs [e3, e7, l7, e8, hw8]
    refine vCall_of c3 ?_
    simp -implicitDefEqProofs
    intro b11 n11 b12 n12
    have hne : ¬ b12 = b11 := fun h => by subst h; simp at n12
    simp -implicitDefEqProofs [hne, Ne.symm hne]
    exact hk _ ⟨by simp [e3], by simp [e4], by simp [e8], by simp [e9], by simp [e10], by simp⟩
  clear e3 e4 e7 l7 e8 e9 e10 c3 hw8 hwr hv
  rintro st ⟨e3, e4, e8, e9, e10, e11⟩
  refine cutS (fun st => st.env 3 = PRef p ∧ st.env 4 = BRef b ∧ st.env 8 = U na ∧ st.env 9 = IL w ∧ st.env 10 = I e ∧ st.env 11 = BRef t ∧ st.env 13 = I 0) (fun k hk => ?_) ?_
  · simp -implicitDefEqProofs
    exact hk _ ⟨by simp [e3], by simp [e4], by simp [e8], by simp [e9], by simp [e10], by simp [e11], by simp⟩
  clear e3 e4 e8 e9 e10 e11
  rintro st ⟨e3, e4, e8, e9, e10, e11, e13⟩
  refine cutS (fun st => st.env 3 = PRef p ∧ st.env 4 = BRef b ∧ st.env 8 = U na ∧ st.env 9 = IL w ∧ st.env 10 = I e ∧ st.env 11 = BRef t ∧ st.env 13 = I (cntB na (manyT x))) (fun kk hkk => ?_) ?_
  · simp -implicitDefEqProofs
    refine loop_up (manyT x) (fun k st => st.env 3 = PRef p ∧ st.env 4 = BRef b ∧ st.env 8 = U na ∧ st.env 9 = IL w ∧ st.env 10 = I e ∧ st.env 11 = BRef t ∧ st.env 13 = I (cntB na k) ∧ st.env 14 = I k) ?_ ?_
    · exact ⟨by simp [e3], by simp [e4], by simp [e8], by simp [e9], by simp [e10], by simp [e11], by simp [e13, cntB], by simp⟩
    clear e3 e4 e8 e9 e10 e11 e13
    rintro k st hk ⟨e3, e4, e8, e9, e10, e11, e13, e14⟩
    simp -implicitDefEqProofs [e11, e14, htl]
    refine cond_dec (fun hlt => ?_) (fun hge => ?_)
    · have hlt : k < manyT x := by omega
      have hbit : (((na : Int).fdiv (2 ^ (min k IntKind.u16.bits))).tmod 2 == 1) = na.testBit k := shr_bit16 (nb := na) (k := k) (by omega)
      have hcs := cntB_succ na k
      have hcl := cntB_le na k
      cases htb : na.testBit k with
      | true =>
        rw [htb] at hbit hcs
        rw [if_pos rfl] at hcs
        simp -implicitDefEqProofs [e8, e13, e14, hbit]
        exact ⟨i64 (by omega) (by omega), i64 (by omega) (by omega), round_ok hlt ⟨by simp [e3], by simp [e4], by simp [e8], by simp [e9], by simp [e10], by simp [e11], by simp [hcs], by simp⟩⟩
      | false =>
        rw [htb] at hbit hcs
        rw [if_neg (by simp)] at hcs
        simp -implicitDefEqProofs [e8, e13, e14, hbit]
        exact ⟨i64 (by omega) (by omega), round_ok hlt ⟨by simp [e3], by simp [e4], by simp [e8], by simp [e9], by simp [e10], by simp [e11], by simp [e13, hcs], by simp⟩⟩
    · obtain rfl : k = manyT x := by omega
      simp -implicitDefEqProofs
      exact hkk _ ⟨by simp [e3], by simp [e4], by simp [e8], by simp [e9], by simp [e10], by simp [e11], by simp [e13]⟩
  clear e3 e4 e8 e9 e10 e11 e13
  rintro st ⟨e3, e4, e8, e9, e10, e11, e13⟩
  refine cutS (fun st => st.env 3 = PRef p ∧ st.env 4 = BRef b ∧ st.env 8 = U na ∧ st.env 9 = IL w ∧ st.env 10 = I e ∧ st.env 13 = I (cntB na (manyT x)) ∧ st.env 15 = IL v ∧ st.env 16 = I 0) (fun k hk => ?_) ?_
  · simp -implicitDefEqProofs [e3, e11]
    refine vCall_of c4 ?_
    simp -implicitDefEqProofs
    exact hk _ ⟨by simp [e3], by simp [e4], by simp [e8], by simp [e9], by simp [e10], by simp [e13], by simp, by simp⟩
  clear e3 e4 e8 e9 e10 e11 e13 c4
  rintro st ⟨e3, e4, e8, e9, e10, e13, e15, e16⟩
  have hgt : ¬ (cntB na (manyT x) : Int) < (v.length : Int) := by omega
  refine cutS (fun st => st.env 3 = PRef p ∧ st.env 4 = BRef b ∧ st.env 8 = U na ∧ st.env 9 = IL w ∧ st.env 10 = I e) (fun k hk => ?_) ?_
  · simp -implicitDefEqProofs [e13, e15, e16, hgt]
    exact hk _ ⟨by simp [e3], by simp [e4], by simp [e8], by simp [e9], by simp [e10]⟩
  clear e3 e4 e8 e9 e10 e13 e15 e16
  rintro st ⟨e3, e4, e8, e9, e10⟩
  refine cutS (fun st => st.env 3 = PRef p ∧ st.env 4 = BRef b ∧ st.env 8 = U na ∧ st.env 9 = IL w ∧ st.env 10 = I e ∧ st.env 17 = .slice 1 [] 18) (fun k hk => ?_) ?_
  · simp -implicitDefEqProofs
    exact hk _ ⟨by simp [e3], by simp [e4], by simp [e8], by simp [e9], by simp [e10], by simp⟩
  clear e3 e4 e8 e9 e10
  rintro st ⟨e3, e4, e8, e9, e10, e17⟩
  have hm8 := hb.marks
  obtain ⟨o, ho⟩ : ∃ o, o = selT na.testBit (3 + b.marks.length) := ⟨_, rfl⟩
  refine cutS (fun st => st.env 3 = PRef p ∧ st.env 4 = BRef b ∧ st.env 9 = IL w ∧ st.env 10 = I e ∧ st.env 17 = .slice 1 (o.map I) 18) (fun kk hkk => ?_) ?_
  · simp -implicitDefEqProofs
    refine loop_up (3 + b.marks.length) (fun k st => st.env 3 = PRef p ∧ st.env 4 = BRef b ∧ st.env 8 = U na ∧ st.env 9 = IL w ∧ st.env 10 = I e ∧ st.env 17 = .slice 1 ((selT na.testBit k).map I) 18 ∧ st.env 18 = I k) ?_ ?_
    · exact ⟨by simp [e3], by simp [e4], by simp [e8], by simp [e9], by simp [e10], by simp [e17, selT], by simp⟩
    clear e3 e4 e8 e9 e10 e17
    rintro k st hk ⟨e3, e4, e8, e9, e10, e17, e18⟩
    simp -implicitDefEqProofs [e4, e18]
    refine ⟨i64 (by omega) (by omega), ?_⟩
    refine cond_dec (fun hlt => ?_) (fun hge => ?_)
    · have hlt : k < 3 + b.marks.length := by omega
      have hbit : (((na : Int).fdiv (2 ^ (min k IntKind.u16.bits))).tmod 2 == 1) = na.testBit k := shr_bit16 (nb := na) (k := k) (by omega)
      have hss := selT_succ na.testBit k
      have hsl := selT_le na.testBit k
      cases htb : na.testBit k with
      | true =>
        rw [htb] at hbit hss
        generalize selT na.testBit k = s0 at *
        simp -implicitDefEqProofs [e8, e17, e18, hbit]
        exact ⟨by omega, by omega, i64 (by omega) (by omega), round_ok hlt ⟨by simp [e3], by simp [e4], by simp [e8], by simp [e9], by simp [e10], by simp [hss], by simp⟩⟩
      | false =>
        rw [htb] at hbit hss
        simp -implicitDefEqProofs [e8, e18, hbit]
        exact ⟨i64 (by omega) (by omega), round_ok hlt ⟨by simp [e3], by simp [e4], by simp [e8], by simp [e9], by simp [e10], by simp [e17, hss], by simp⟩⟩
    · obtain rfl : k = 3 + b.marks.length := by omega
      simp -implicitDefEqProofs
      exact hkk _ ⟨by simp [e3], by simp [e4], by simp [e9], by simp [e10], by simp [e17, ho]⟩
  clear e3 e4 e8 e9 e10 e17
  rintro st ⟨e3, e4, e9, e10, e17⟩
  have hag : ∀ o, agreeR p (withoutB b o) = (fitL p (withoutB b o), 0) := fun o => by
    unfold agreeR
    rw [if_neg (not_not_intro (bookE_of he (rightB_without hb o)))]
  have c5 := without50_ok b o hm8
  have c6 := agree30_ok p (withoutB b o)
  rw [hag] at c6
  obtain ⟨K1, hK1⟩ : ∃ K1, K1 = fitL p (withoutB b o) := ⟨_, rfl⟩
  rw [← hK1] at c6
  generalize withoutB b o = bo at c5 c6
  refine cutS (fun st => st.env 3 = PRef p ∧ st.env 4 = BRef b ∧ st.env 9 = IL w ∧ st.env 10 = I e ∧ st.env 17 = .slice 1 (o.map I) 18 ∧ st.env 19 = ML K1 ∧ st.env 20 = I 0) (fun k hk => ?_) ?_
  · simp -implicitDefEqProofs [e3, e4, e17]
    refine vCall_of c5 ?_
    simp -implicitDefEqProofs [e3, e4, e17]
    refine vCall_of c6 ?_
    simp -implicitDefEqProofs
    exact hk _ ⟨by simp [e3], by simp [e4], by simp [e9], by simp [e10], by simp [e17], by simp, by simp⟩
  clear e3 e4 e9 e10 e17 c5 c6
  rintro st ⟨e3, e4, e9, e10, e17, e19, e20⟩
  rcases wrong_facts he hb with ⟨h1, h2⟩ | ⟨q, h1, h2, h3, h4⟩
  · refine cutS (fun _ => False) (fun k hk => ?_) (fun _ h => h.elim)
    rw [h1] at hR
    injection hR with hw0 he0
    subst hw0 he0
    rw [h2] at hK1
    subst hK1
    simp -implicitDefEqProofs [e9, e10, e19, e20]
    refine vCall_of ha ?_
    simp -implicitDefEqProofs [r13]
  rw [h1] at hR
  injection hR with hw0 he0
  have hlo : K1.length = 0 ∨ w.length ≤ o.length := by
    rcases Nat.eq_zero_or_pos K1.length with h | h
    · exact .inl h
    · refine .inr ?_
      rw [hw0, ho]
      exact h4 _ _ (by rw [← ho, ← hK1]; omega)
  have hwl : w.length ≤ 11 := by rw [hw0]; exact selT_le _ _
  have hwi : ∀ i (hi : i < w.length), (0 ≤ w[i] ∧ w[i] < (3 + b.marks.length : Nat)) ∧ (0 < i → w[i - 1]'(by omega) < w[i]) := fun i hi => by
    subst hw0
    exact ⟨sel_in h2 hi, fun h0 => sel_strict h0 hi⟩
  have c5 := without50_ok b w hm8
  have c6 := agree30_ok p (withoutB b w)
  rw [hag] at c6
  obtain ⟨K2, hK2⟩ : ∃ K2, K2 = fitL p (withoutB b w) := ⟨_, rfl⟩
  rw [← hw0, ← hK2] at h3
  rw [← hK2] at c6
  generalize withoutB b w = bw at c5 c6
  clear h1 h2 h4 hK1 hK2 hag ho hw0
  subst he0
  refine cutS (fun st => st.env 3 = PRef p ∧ st.env 4 = BRef b ∧ st.env 9 = IL w ∧ st.env 17 = .slice 1 (o.map I) 18 ∧ st.env 19 = ML K1 ∧ st.env 20 = I 0) (fun k hk => ?_) ?_
  · simp -implicitDefEqProofs [e10]
    exact hk _ ⟨by simp [e3], by simp [e4], by simp [e9], by simp [e17], by simp [e19], by simp [e20]⟩
  clear e3 e4 e9 e10 e17 e19 e20
  rintro st ⟨e3, e4, e9, e17, e19, e20⟩
  refine cutS (fun st => st.env 3 = PRef p ∧ st.env 4 = BRef b ∧ st.env 9 = IL w ∧ st.env 17 = .slice 1 (o.map I) 18 ∧ st.env 19 = ML K1 ∧ st.env 20 = I 0) (fun kk hkk => ?_) ?_
  · simp -implicitDefEqProofs
    refine loop_up w.length (fun k st => st.env 3 = PRef p ∧ st.env 4 = BRef b ∧ st.env 9 = IL w ∧ st.env 17 = .slice 1 (o.map I) 18 ∧ st.env 19 = ML K1 ∧ st.env 20 = I 0 ∧ st.env 21 = I k) ?_ ?_
    · exact ⟨by simp [e3], by simp [e4], by simp [e9], by simp [e17], by simp [e19], by simp [e20], by simp⟩
    clear e3 e4 e9 e17 e19 e20
    rintro k st hk ⟨e3, e4, e9, e17, e19, e20, e21⟩
    simp -implicitDefEqProofs [e9, e21]
    refine cond_dec (fun hlt => ?_) (fun hge => ?_)
    · have hlt : k < w.length := by omega
      obtain ⟨⟨g1, g2⟩, g3⟩ := hwi k hlt
      have n1 : ¬ w[k] < 0 := by omega
      have n2 : ¬ 3 + (b.marks.length : Int) ≤ w[k] := by omega
      rcases Nat.eq_zero_or_pos k with rfl | h0
      · simp -implicitDefEqProofs [e4, e9, e21, hlt, n1, n2]
        exact ⟨i64 (by omega) (by omega), i64 (by omega) (by omega), round_ok hlt ⟨by simp [e3], by simp [e4], by simp [e9], by simp [e17], by simp [e19], by simp [e20], by simp⟩⟩
      · have g3 := g3 h0
        have hk1 : ((k : Int) - 1).toNat = k - 1 := by omega
        have hk2 : k - 1 < w.length := by omega
        have n3 : ¬ w[k] ≤ w[k - 1] := by omega
        have n4 : (0 : Int) < k := by omega
        have n5 : (1 : Int) ≤ k := by omega
        simp -implicitDefEqProofs [e4, e9, e21, hlt, n1, n2, n3, n4, n5, h0, hk1, hk2]
        exact ⟨i64 (by omega) (by omega), i64 (by omega) (by omega), by omega, i64 (by omega) (by omega), round_ok hlt ⟨by simp [e3], by simp [e4], by simp [e9], by simp [e17], by simp [e19], by simp [e20], by simp⟩⟩
    · obtain rfl : k = w.length := by omega
      simp -implicitDefEqProofs
      exact hkk _ ⟨by simp [e3], by simp [e4], by simp [e9], by simp [e17], by simp [e19], by simp [e20]⟩
  clear e3 e4 e9 e17 e19 e20 hwi
  rintro st ⟨e3, e4, e9, e17, e19, e20⟩
  refine cutS (fun st => st.env 9 = IL w ∧ st.env 17 = .slice 1 (o.map I) 18 ∧ st.env 19 = ML K1 ∧ st.env 20 = I 0 ∧ st.env 22 = ML K2 ∧ st.env 23 = I 0) (fun k hk => ?_) ?_
  · simp -implicitDefEqProofs [e3, e4, e9]
    refine vCall_of c5 ?_
    simp -implicitDefEqProofs [e3, e4, e9]
    refine vCall_of c6 ?_
    simp -implicitDefEqProofs
    exact hk _ ⟨by simp [e9], by simp [e17], by simp [e19], by simp [e20], by simp, by simp⟩
  clear e3 e4 e9 e17 e19 e20
  rintro st ⟨e9, e17, e19, e20, e22, e23⟩
  have h3' : ¬ K2.length = 0 := by omega
  by_cases h : K1.length = 0
  · have hk0 : K1 = [] := List.length_eq_zero_iff.1 h
    subst hk0
    simp -implicitDefEqProofs [e9, e17, e19, e20, e22, e23, h3, h3']
    refine vCall_of ha ?_
    simp -implicitDefEqProofs [r13]
  · have hz : ((K1.length : Int) == 0) = false := beq_eq_false_iff_ne.2 (by omega)
    have h5 := hlo.resolve_left h
    simp -implicitDefEqProofs [e9, e17, e19, e20, e22, e23, h3, h3', hz, h5]
    refine vCall_of ha ?_
    simp -implicitDefEqProofs [r13]

theorem rdDoubt : Rd Try.prog false 92 Doubt.av okDoubt :=
  (Rd.struct (tot := 5) Try.underlying92 rfl (by kernel_rfl) (RdL.cons rfl (by kernel_rfl) rdPast (RdL.cons rfl (by kernel_rfl) rdU RdL.nil))).map
    (fun x => ⟨x.1, x.2.1⟩) (fun _ => rfl) (fun _ h => ⟨h.1, h.2.1⟩)

theorem foldWrong_ok (ha : PCall Try.prog 19 [] (B true)) (p : Prs) (b : Bok) (y : Doubt) (h1 : True) (h2 : True) (hy : okDoubt y) : PCall Try.prog 13 [p.av, b.av, y.av] (B true) :=
  foldWrong_of (fun _ he _ hx _ hnb => told43_ok he hx hnb) ha p b y h1 h2 hy
end Go.Proofs.Ytcfeipphmklakaa

