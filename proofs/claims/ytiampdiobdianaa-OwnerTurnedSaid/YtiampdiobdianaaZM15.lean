/- The resolved code of some functions, written by program, each held against the function by the kernel. The law OwnerTurned: its contract. -/
import Derived.Test.YtiampdiobdianaaZD
import Derived.KernelRfl
import Derived.Test.YtiampdiobdianaaZL
namespace Go.Proofs.Ytiampdiobdianaa
open Go.Avm

/- duodecimo/duodecimolaw08.OwnerTurned -/
def ann15 : Ann := { muts := [], nilsz := [(15, 1), (1000038, 4), (1000039, 4), (1000040, 3), (1000041, 3)], oid := [(38, 7003), (39, 8003), (40, 8002), (41, 8004), (67, 7003), (85, 8003), (113, 8002), (139, 8004)], frz := [9, 11, 13], zero := [(6, [(.lit (.int .i64 0)), (.lit (.int .i64 0)), (.slice 3 [] 7002), (.slice 4 [] 7003), (.slice 3 [] 7004)]), (7, [(.lit (.int .i64 0)), (.lit (.int .i64 0)), (.slice 3 [] 8002), (.slice 4 [] 8003), (.slice 3 [] 8004)]), (9, [(.lit (.int .i64 0)), (.lit (.int .i64 0)), (.lit (.int .i64 0)), (.lit (.int .i64 0))]), (11, [(.lit (.string ⟨#[]⟩)), (.lit (.int .i64 0)), (.lit (.int .i64 0))]), (13, [(.lit (.int .i64 0)), (.lit (.int .i64 0)), (.lit (.int .i64 0))]), (65, [(.lit (.int .i64 0)), (.lit (.int .i64 0)), (.lit (.int .i64 0)), (.lit (.int .i64 0))]), (83, [(.lit (.int .i64 0)), (.lit (.int .i64 0)), (.lit (.int .i64 0)), (.lit (.int .i64 0))]), (110, [(.lit (.string ⟨#[]⟩)), (.lit (.int .i64 0)), (.lit (.int .i64 0))]), (111, [(.lit (.string ⟨#[]⟩)), (.lit (.int .i64 0)), (.lit (.int .i64 0))]), (136, [(.lit (.int .i64 0)), (.lit (.int .i64 0)), (.lit (.int .i64 0))]), (137, [(.lit (.int .i64 0)), (.lit (.int .i64 0)), (.lit (.int .i64 0))]), (160, [(.lit (.int .i64 0))])], ord := [(4, [0, 1, 2, 3, 4, 5]), (10, [0, 1, 2, 3, 4, 5, 6, 7, 8, 9, 10, 11, 12, 13, 14]), (11, [0, 1, 2, 3, 4, 5, 6, 7, 8, 9, 10, 11, 12, 13, 14, 15, 16, 17, 18])], ap := [(6, [(.t 2)]), (7, []), (67, []), (85, [])], own := [], yl := [], fz := [], imm := [], ic := [], cl := [], ylL := [], rl := [] }
def m15 : MCode := (.seq (.reg [.boxI 2 (.t 0) 5, .asg 4 (.c (.lit (.bool false)))])
 (.seq (.seq (.reg [.load 27 (.t 2) (some 5), .call 28 37 [(.t 27)], .not 29 (.t 28)])
 (.cond (.t 29) (.seq (.reg [.call 30 23 [], .asg 4 (.t 30)])
 .ret) .skip))
 (.seq (.reg [.addr 31 (.t 2) 0, .load 32 (.t 31) none, .addr 33 (.t 2) 1, .load 34 (.t 33) none, .bin 35 .add (.t 32) (.t 34), .asg 5 (.t 35)])
 (.seq (.reg [.load 36 (.t 2) (some 5), .load 37 (.t 2) (some 5), .alloc 6 [(.lit (.int .i64 0)), (.lit (.int .i64 0)), (.slice 3 [] 7002), (.slice 4 [] 7003), (.slice 3 [] 7004)], .alloc 7 [(.lit (.int .i64 0)), (.lit (.int .i64 0)), (.slice 3 [] 8002), (.slice 4 [] 8003), (.slice 3 [] 8004)], .apart [(.t 2)] (.t 6) (.store (.t 6) (.t 36) 5 0), .apart [] (.t 7) (.store (.t 7) (.t 37) 5 0)])
 (.seq (.reg [.addr 38 (.t 6) 3, .storeNil (.t 38) 4 7003, .addr 39 (.t 7) 3, .storeNil (.t 39) 4 8003, .addr 40 (.t 7) 2, .storeNil (.t 40) 3 8002, .addr 41 (.t 7) 4, .storeNil (.t 41) 3 8004])
 (.seq (.seq (.reg [.asg 8 (.c (.lit (.int .i64 0)))])
 (.block 0 (.loop (.seq (.seq (.reg [.cpy 42 (.t 8), .addr 43 (.t 2) 3, .load 44 (.t 43) none, .len 45 (.t 44), .bin 46 .lss (.t 42) (.t 45)])
 (.cond (.t 46) .skip (.exit 0)))
 (.seq (.block 1 (.seq (.reg [.addr 49 (.t 2) 3, .load 50 (.t 49) none, .cpy 51 (.t 8), .idxS 52 (.t 50) (.t 51) 4, .load 53 (.t 52) (some 4), .alloc 9 [(.lit (.int .i64 0)), (.lit (.int .i64 0)), (.lit (.int .i64 0)), (.lit (.int .i64 0))], .storeF 9 (.t 53) 4])
 (.seq (.reg [.addr 54 (.t 6) 3, .load 55 (.t 54) none, .addr 56 (.t 9) 0, .load 57 (.t 56) none, .addr 58 (.t 9) 1, .addr 59 (.t 58) 0, .load 60 (.t 59) none, .addr 61 (.t 9) 1, .addr 62 (.t 61) 1, .load 63 (.t 62) none, .call 64 49 [(.t 57), (.t 60), (.t 63), (.c (.lit (.int .i64 (-1))))], .mkS 65 1 4 [(.lit (.int .i64 0)), (.lit (.int .i64 0)), (.lit (.int .i64 0)), (.lit (.int .i64 0))] [(0, (.t 64))], .app 66 (.t 55) (.t 65) 4 32, .addr 67 (.t 6) 3, .apart [] (.t 67) (.store (.t 67) (.t 66) 1 7003)])
 (.reg [.addr 68 (.t 7) 3, .load 69 (.t 68) none, .addr 70 (.t 9) 0, .load 71 (.t 70) none, .cpy 72 (.t 5), .addr 73 (.t 9) 1, .addr 74 (.t 73) 1, .load 75 (.t 74) none, .bin 76 .sub (.t 72) (.t 75), .cpy 77 (.t 5), .addr 78 (.t 9) 1, .addr 79 (.t 78) 0, .load 80 (.t 79) none, .bin 81 .sub (.t 77) (.t 80), .call 82 49 [(.t 71), (.t 76), (.t 81), (.c (.lit (.int .i64 (-1))))], .mkS 83 1 4 [(.lit (.int .i64 0)), (.lit (.int .i64 0)), (.lit (.int .i64 0)), (.lit (.int .i64 0))] [(0, (.t 82))], .app 84 (.t 69) (.t 83) 4 32, .addr 85 (.t 7) 3, .apart [] (.t 85) (.store (.t 85) (.t 84) 1 8003)]))))
 (.reg [.cpy 47 (.t 8), .bin 48 .add (.t 47) (.c (.lit (.int .i64 1))), .asg 8 (.t 48)]))))))
 (.seq (.seq (.reg [.asg 10 (.c (.lit (.int .i64 0)))])
 (.block 2 (.loop (.seq (.seq (.reg [.cpy 86 (.t 10), .addr 87 (.t 2) 2, .load 88 (.t 87) none, .len 89 (.t 88), .bin 90 .lss (.t 86) (.t 89)])
 (.cond (.t 90) .skip (.exit 2)))
 (.seq (.block 3 (.seq (.reg [.addr 93 (.t 2) 2, .load 94 (.t 93) none, .cpy 95 (.t 10), .idxS 96 (.t 94) (.t 95) 3, .load 97 (.t 96) (some 3), .alloc 11 [(.lit (.string ⟨#[]⟩)), (.lit (.int .i64 0)), (.lit (.int .i64 0))], .storeF 11 (.t 97) 3])
 (.reg [.addr 98 (.t 7) 2, .load 99 (.t 98) none, .addr 100 (.t 11) 0, .load 101 (.t 100) none, .cpy 102 (.t 5), .addr 103 (.t 11) 2, .load 104 (.t 103) none, .bin 105 .sub (.t 102) (.t 104), .cpy 106 (.t 5), .addr 107 (.t 11) 1, .load 108 (.t 107) none, .bin 109 .sub (.t 106) (.t 108), .build 110 [(.lit (.string ⟨#[]⟩)), (.lit (.int .i64 0)), (.lit (.int .i64 0))] [(0, 1, (.t 101)), (1, 1, (.t 105)), (2, 1, (.t 109))], .mkS 111 1 3 [(.lit (.string ⟨#[]⟩)), (.lit (.int .i64 0)), (.lit (.int .i64 0))] [(0, (.t 110))], .app 112 (.t 99) (.t 111) 3 32, .addr 113 (.t 7) 2, .store (.t 113) (.t 112) 1 8002])))
 (.reg [.cpy 91 (.t 10), .bin 92 .add (.t 91) (.c (.lit (.int .i64 1))), .asg 10 (.t 92)]))))))
 (.seq (.seq (.reg [.asg 12 (.c (.lit (.int .i64 0)))])
 (.block 4 (.loop (.seq (.seq (.reg [.cpy 114 (.t 12), .addr 115 (.t 2) 4, .load 116 (.t 115) none, .len 117 (.t 116), .bin 118 .lss (.t 114) (.t 117)])
 (.cond (.t 118) .skip (.exit 4)))
 (.seq (.block 5 (.seq (.reg [.addr 121 (.t 2) 4, .load 122 (.t 121) none, .cpy 123 (.t 12), .idxS 124 (.t 122) (.t 123) 3, .load 125 (.t 124) (some 3), .alloc 13 [(.lit (.int .i64 0)), (.lit (.int .i64 0)), (.lit (.int .i64 0))], .storeF 13 (.t 125) 3])
 (.reg [.addr 126 (.t 7) 4, .load 127 (.t 126) none, .cpy 128 (.t 5), .addr 129 (.t 13) 0, .load 130 (.t 129) none, .bin 131 .sub (.t 128) (.t 130), .addr 132 (.t 13) 2, .load 133 (.t 132) none, .addr 134 (.t 13) 1, .load 135 (.t 134) none, .build 136 [(.lit (.int .i64 0)), (.lit (.int .i64 0)), (.lit (.int .i64 0))] [(0, 1, (.t 131)), (1, 1, (.t 133)), (2, 1, (.t 135))], .mkS 137 1 3 [(.lit (.int .i64 0)), (.lit (.int .i64 0)), (.lit (.int .i64 0))] [(0, (.t 136))], .app 138 (.t 127) (.t 137) 3 24, .addr 139 (.t 7) 4, .store (.t 139) (.t 138) 1 8004])))
 (.reg [.cpy 119 (.t 12), .bin 120 .add (.t 119) (.c (.lit (.int .i64 1))), .asg 12 (.t 120)]))))))
 (.seq (.seq (.reg [.load 140 (.t 7) (some 5), .call 141 37 [(.t 140)], .not 142 (.t 141)])
 (.cond (.t 142) (.seq (.reg [.call 143 23 [], .asg 4 (.t 143)])
 .ret) .skip))
 (.seq (.reg [.load 144 (.t 2) (some 5), .cpy 145 (.t 1), .conv 146 .i64 (.t 145), .call 147 41 [(.t 144), (.t 146)], .asg 14 (.t 147)])
 (.seq (.reg [.asgNil 15 1])
 (.seq (.seq (.reg [.cpy 148 (.t 14), .len 149 (.t 148), .bin 150 .sub (.t 149) (.c (.lit (.int .i64 1))), .asg 16 (.t 150)])
 (.block 6 (.loop (.seq (.seq (.reg [.cpy 151 (.t 16), .bin 152 .geq (.t 151) (.c (.lit (.int .i64 0)))])
 (.cond (.t 152) .skip (.exit 6)))
 (.seq (.block 7 (.reg [.cpy 155 (.t 15), .cpy 156 (.t 14), .cpy 157 (.t 16), .idxS 158 (.t 156) (.t 157) 1, .load 159 (.t 158) none, .mkS 160 1 1 [(.lit (.int .i64 0))] [(0, (.t 159))], .app 161 (.t 155) (.t 160) 1 8, .asg 15 (.t 161)]))
 (.reg [.cpy 153 (.t 16), .bin 154 .sub (.t 153) (.c (.lit (.int .i64 1))), .asg 16 (.t 154)]))))))
 (.seq (.reg [.load 163 (.t 6) (some 5), .cpy 164 (.t 14), .call 165 21 [(.t 163), (.t 164)], .cpy 162 (.t 165), .ext 166 (.t 162) 0, .ext 167 (.t 162) 1, .asg 17 (.t 166), .asg 18 (.t 167)])
 (.seq (.reg [.load 169 (.t 7) (some 5), .cpy 170 (.t 15), .call 171 21 [(.t 169), (.t 170)], .cpy 168 (.t 171), .ext 172 (.t 168) 0, .ext 173 (.t 168) 1, .asg 19 (.t 172), .asg 20 (.t 173)])
 (.seq (.reg [.load 175 (.t 6) (some 5), .call 176 18 [(.t 175)], .cpy 174 (.t 176), .ext 177 (.t 174) 0, .ext 178 (.t 174) 1, .ext 179 (.t 174) 2, .asg 21 (.t 177), .asg 22 (.t 178), .asg 23 (.t 179)])
 (.seq (.reg [.load 181 (.t 7) (some 5), .call 182 18 [(.t 181)], .cpy 180 (.t 182), .ext 183 (.t 180) 0, .ext 184 (.t 180) 1, .ext 185 (.t 180) 2, .asg 24 (.t 183), .asg 25 (.t 184), .asg 26 (.t 185)])
 (.seq (.reg [.cpy 186 (.t 17), .cpy 187 (.t 19), .bin 188 .eql (.t 186) (.t 187), .cpy 189 (.t 188), .guard 189 true (some 190) (.cpy 190 (.t 18)), .guard 189 true (some 191) (.cpy 191 (.t 20)), .guard 189 true (some 192) (.bin 192 .eql (.t 190) (.t 191)), .pick 193 (.t 189) (.t 192) (.c (.lit (.bool false))), .cpy 194 (.t 193), .guard 194 true (some 195) (.cpy 195 (.t 22)), .guard 194 true (some 196) (.cpy 196 (.t 25)), .guard 194 true (some 197) (.bin 197 .eql (.t 195) (.t 196)), .pick 198 (.t 194) (.t 197) (.c (.lit (.bool false))), .cpy 199 (.t 198), .guard 199 true (some 200) (.cpy 200 (.t 23)), .guard 199 true (some 201) (.cpy 201 (.t 26)), .guard 199 true (some 202) (.bin 202 .eql (.t 200) (.t 201)), .pick 203 (.t 199) (.t 202) (.c (.lit (.bool false))), .cpy 204 (.t 203), .guard 204 true (some 205) (.call 205 23 []), .pick 206 (.t 204) (.t 205) (.c (.lit (.bool false))), .asg 4 (.t 206)])
 .ret)))))))))))))))))
def r15 : List MRes := [.tmp 4]
theorem tr15 : Try.f15.body.bind (trC Try.prog ann15 Try.f15.ntmps) = some m15 := by kernel_rfl
theorem rs15 : trRes Try.prog Try.f15.results.toList = some r15 := by kernel_rfl
theorem fn15 : isFunc Try.prog 15 = true := by kernel_rfl
end Go.Proofs.Ytiampdiobdianaa

namespace Go.Proofs.Ytiampdiobdianaa
open Go.Avm

def aMk (m : Mk) : Mk := ⟨m.owner, m.lo, m.hi, -1⟩
def bMk (z : Int) (m : Mk) : Mk := ⟨m.owner, z - m.hi, z - m.lo, -1⟩
def bOw (z : Int) (o : Ower) : Ower := ⟨o.name, z - o.died, z - o.born⟩
def aUp (c : Case) (k : Nat) : List Mk := (c.marks.take k).map aMk
def bUp (c : Case) (k : Nat) : List Mk := (c.marks.take k).map (bMk (sumC c))
def oUp (c : Case) (k : Nat) : List Ower := (c.owners.take k).map (bOw (sumC c))
def zUp (c : Case) (k : Nat) : List Sale := (c.sales.take k).map (tSale (sumC c))
def aCase (c : Case) : Case := { c with marks := aUp c c.marks.length }
def bCase (c : Case) : Case := { c with owners := oUp c c.owners.length, marks := bUp c c.marks.length, sales := zUp c c.sales.length }
theorem aUp_snoc {c : Case} {k : Nat} (h : k < c.marks.length) : aUp c (k + 1) = aUp c k ++ [aMk c.marks[k]] := by unfold aUp; rw [take_snoc h, List.map_append]; rfl
theorem bUp_snoc {c : Case} {k : Nat} (h : k < c.marks.length) : bUp c (k + 1) = bUp c k ++ [bMk (sumC c) c.marks[k]] := by unfold bUp; rw [take_snoc h, List.map_append]; rfl
theorem oUp_snoc {c : Case} {k : Nat} (h : k < c.owners.length) : oUp c (k + 1) = oUp c k ++ [bOw (sumC c) c.owners[k]] := by unfold oUp; rw [take_snoc h, List.map_append]; rfl
theorem zUp_snoc {c : Case} {k : Nat} (h : k < c.sales.length) : zUp c (k + 1) = zUp c k ++ [tSale (sumC c) c.sales[k]] := by unfold zUp; rw [take_snoc h, List.map_append]; rfl
def rUp (O : List Int) (k : Nat) : List Int := O.reverse.take k
theorem rUp_snoc {O : List Int} {k : Nat} (h : k < O.length) : rUp O (k + 1) = rUp O k ++ [O[O.length - 1 - k]] := by
  unfold rUp
  rw [take_snoc (by rw [List.length_reverse]; exact h), List.getElem_reverse]
theorem turn_ab (c : Case) : Turn (aCase c) (bCase c) := by
  have e1 : aUp c c.marks.length = c.marks.map aMk := by unfold aUp; rw [List.take_length]
  have e2 : bUp c c.marks.length = c.marks.map (bMk (sumC c)) := by unfold bUp; rw [List.take_length]
  have e3 : oUp c c.owners.length = c.owners.map (bOw (sumC c)) := by unfold oUp; rw [List.take_length]
  have e4 : zUp c c.sales.length = c.sales.map (tSale (sumC c)) := by unfold zUp; rw [List.take_length]
  refine ⟨rfl, rfl, ?_, fun x hx => ?_, ?_, fun q h1 h2 => ?_, ⟨fun m hm => ?_, fun m hm => ?_⟩, ?_⟩
  · show (oUp c c.owners.length).length = c.owners.length
    rw [e3, List.length_map]
  · have hx : x < c.owners.length := hx
    show ((oUp c c.owners.length).getD x owerD).born = sumC c - (c.owners.getD x owerD).died ∧ ((oUp c c.owners.length).getD x owerD).died = sumC c - (c.owners.getD x owerD).born
    rw [e3, List.getD_eq_getElem?_getD, List.getElem?_map, List.getD_eq_getElem?_getD, List.getElem?_eq_getElem hx]
    exact ⟨rfl, rfl⟩
  · show (bUp c c.marks.length).length = (aUp c c.marks.length).length
    rw [e1, e2, List.length_map, List.length_map]
  · show ((bUp c c.marks.length)[q]'h2).owner = ((aUp c c.marks.length)[q]'h1).owner ∧ ((bUp c c.marks.length)[q]'h2).lo = sumC c - ((aUp c c.marks.length)[q]'h1).hi ∧ ((bUp c c.marks.length)[q]'h2).hi = sumC c - ((aUp c c.marks.length)[q]'h1).lo
    simp only [e1, e2, List.getElem_map]
    exact ⟨rfl, rfl, rfl⟩
  · have hm : m ∈ aUp c c.marks.length := hm
    rw [e1] at hm
    obtain ⟨z, -, rfl⟩ := List.mem_map.1 hm
    rfl
  · have hm : m ∈ bUp c c.marks.length := hm
    rw [e2] at hm
    obtain ⟨z, -, rfl⟩ := List.mem_map.1 hm
    rfl
  · exact e4
theorem errE_a {c : Case} (h : errE c = 0) : errE (aCase c) = 0 := by
  have e1 : aUp c c.marks.length = c.marks.map aMk := by unfold aUp; rw [List.take_length]
  refine err_same h rfl rfl rfl ?_ (fun i hi => ?_) (show c.sales.length ≤ 4 from err_sales h) (show ∀ s ∈ c.sales, c.printed ≤ s.year ∧ _ from sale_facts h)
  · show (aUp c c.marks.length).length ≤ 8
    rw [e1, List.length_map]; exact err_marks h
  · have hi2 : i < c.marks.length := by
      have hi : i < (aUp c c.marks.length).length := hi
      rw [e1, List.length_map] at hi; exact hi
    have hf := mark_facts h hi2
    have e : (aCase c).marks[i] = aMk c.marks[i] := by
      show (aUp c c.marks.length)[i]'hi = _
      simp only [e1, List.getElem_map]
    rw [e]
    exact ⟨hf.1, ⟨by show (-1 : Int) ≤ -1; omega, by show (-1 : Int) < i; omega⟩, hf.2.2⟩
abbrev vCells (c : Case) (os : List AV) (r : Nat) (ms : List Mk) (r2 : Nat) (ss : List Sale) (r3 : Nat) : List AV := [I c.printed, I c.now, .slice 3 os r, .slice 4 (ms.map encMark) r2, .slice 3 (ss.map encSale) r3]
structure VJ (c : Case) (n : Nat) (b6 b7 : Nat) (ma mb : List Mk) (os : List Ower) (ss : List Sale) (s : St) : Prop where
  e : s.env 1 = U n ∧ s.env 2 = caseRef c ∧ s.env 5 = I (sumC c) ∧ s.env 6 = .mref b6 0 ∧ s.env 7 = .mref b7 0
  l6 : s.loc b6 = some (vCells c (c.owners.map encOwner) 0 ma 7003 c.sales 0)
  l7 : s.loc b7 = some (vCells c (os.map encOwner) 8002 mb 8003 ss 8004)
theorem VJ.ext {c : Case} {n b6 b7 : Nat} {ma mb : List Mk} {os : List Ower} {ss : List Sale} {s t : St} (h : VJ c n b6 b7 ma mb os ss s) (he : t.env 1 = s.env 1 ∧ t.env 2 = s.env 2 ∧ t.env 5 = s.env 5 ∧ t.env 6 = s.env 6 ∧ t.env 7 = s.env 7) (hl : t.loc b6 = s.loc b6 ∧ t.loc b7 = s.loc b7) : VJ c n b6 b7 ma mb os ss t :=
  ⟨⟨he.1.trans h.e.1, he.2.1.trans h.e.2.1, he.2.2.1.trans h.e.2.2.1, he.2.2.2.1.trans h.e.2.2.2.1, he.2.2.2.2.trans h.e.2.2.2.2⟩, hl.1.trans h.l6, hl.2.trans h.l7⟩
theorem ownerTurned_at (c : Case) (n : Nat) (hc : CaseSz c) (on : n ≤ 65535) : PCall Try.prog 15 [encCase c, U n] (B true) := by
  refine pcall Try.func15 tr15 rs15 fn15 (by simp [Try.ntmps15]) fun _ => ?_
  have hwn := wrap_u (n := n) (by omega)
  have aw := awake23_ok
  have c2 := valid37_ok c
  simp -implicitDefEqProofs only [m15]
  refine cutS (fun st => st.env 1 = U n ∧ st.env 2 = caseRef c) ?_ ?_
  · intro k hk
    simp -implicitDefEqProofs
    exact hk _ (by simp)
  rintro s ⟨e1, e2⟩
  by_cases he : errE c = 0
  case neg =>
    rw [decide_eq_false he] at c2
    simp -implicitDefEqProofs [e2]
    refine vCall_of c2 ?_
    simp -implicitDefEqProofs
    refine vCall_of aw ?_
    simp -implicitDefEqProofs [r15]
  rw [decide_eq_true he] at c2
  have hok := Case.ok he
  have h8 := err_marks he
  have h4 := err_sales he
  have hn6 := hok.ownersLen
  have hyy := hok.years
  refine cutS (fun st => st.env 1 = U n ∧ st.env 2 = caseRef c) ?_ ?_
  · intro k hk
    simp -implicitDefEqProofs [e2]
    refine vCall_of c2 ?_
    simp -implicitDefEqProofs
    exact hk _ (by simp [e1, e2])
  clear e1 e2
  rintro s ⟨e1, e2⟩
  have hz : sumC c = c.printed + c.now := rfl
  obtain ⟨Z, hZ⟩ : ∃ Z, Z = sumC c := ⟨_, rfl⟩
  refine cutS (fun st => st.env 1 = U n ∧ st.env 2 = caseRef c ∧ st.env 5 = I (sumC c)) ?_ ?_
  · intro k hk
    simp -implicitDefEqProofs [e2]
    exact ⟨i64 (by omega) (by omega), hk _ (by simp [e1, e2, hz])⟩
  clear e1 e2
  rintro s ⟨e1, e2, e5⟩
  refine cutS (fun st => st.env 1 = U n ∧ st.env 2 = caseRef c ∧ st.env 5 = I (sumC c) ∧ ∃ b6 b7, st.env 6 = .mref b6 0 ∧ st.env 7 = .mref b7 0 ∧ st.loc b6 = some (caseCells c) ∧ st.loc b7 = some (caseCells c) ∧ ¬ b6 = b7) ?_ ?_
  · intro k hk
    simp -implicitDefEqProofs [e2, apartAV]
    intro b6 h6 b7 h7
    have h67 : ¬ b6 = b7 := by rintro rfl; simp at h7
    have h76 : ¬ b7 = b6 := fun e => h67 e.symm
    simp -implicitDefEqProofs [h67, h76]
    exact hk _ ⟨by simp [e1], by simp [e2], by simp [e5], b6, b7, by simp, by simp, by simp [h67], by simp, h67⟩
  clear e1 e2 e5
  rintro s ⟨e1, e2, e5, b6, b7, e6, e7, l6, l7, h67⟩
  have h76 : ¬ b7 = b6 := fun e => h67 e.symm
  refine cutS (fun st => VJ c n b6 b7 [] [] [] [] st) ?_ ?_
  · intro k hk
    simp -implicitDefEqProofs [e6, e7, l6, l7, h76]
    exact hk _ ⟨by simp [e1, e2, e5, e6, e7], by simp [h67], by simp⟩
  clear e1 e2 e5 e6 e7 l6 l7
  intro s hJ
  refine cutS (fun st => VJ c n b6 b7 (aUp c c.marks.length) (bUp c c.marks.length) [] [] st) ?_ ?_
  · intro k0 hk0
    simp -implicitDefEqProofs
    refine loop_up c.marks.length (fun k st => VJ c n b6 b7 (aUp c k) (bUp c k) [] [] st ∧ st.env 8 = I k) ?_ ?_
    · exact ⟨hJ.ext (by simp) (by simp), by simp⟩
    clear hJ
    rintro k s hk ⟨hJ, e8⟩
    obtain ⟨e1, e2, e5, e6, e7⟩ := hJ.e
    simp -implicitDefEqProofs [e2, e8]
    refine cond_dec (fun hlt => ?_) (fun hge => ?_)
    · have hlt : k < c.marks.length := by omega
      refine stepB ?_
      have sa := aUp_snoc hlt
      have sb := bUp_snoc hlt
      have la : (aUp c k).length ≤ 8 := by unfold aUp; rw [List.length_map, List.length_take]; omega
      have lb : (bUp c k).length ≤ 8 := by unfold bUp; rw [List.length_map, List.length_take]; omega
      have hmk := hok.marks _ (List.getElem_mem hlt)
      obtain ⟨m, hm⟩ : ∃ m, m = c.marks[k] := ⟨_, rfl⟩
      rw [← hm] at sa sb hmk
      have hm := hm.symm
      obtain ⟨A, hA⟩ : ∃ A, A = aUp c k := ⟨_, rfl⟩
      obtain ⟨D, hD⟩ : ∃ D, D = bUp c k := ⟨_, rfl⟩
      rw [← hA] at sa la hJ
      rw [← hD] at sb lb hJ
      have ca := mark49_ok m.owner m.lo m.hi (-1)
      have cb := mark49_ok m.owner (sumC c - m.hi) (sumC c - m.lo) (-1)
      refine cutS (fun st => VJ c n b6 b7 A D [] [] st ∧ st.env 8 = I k ∧ st.env 9 = .ref [I m.owner, I m.lo, I m.hi, I m.upon]) ?_ ?_
      · intro k1 hk1
        simp -implicitDefEqProofs [e2, e8, hlt, hm]
        intro q hq
        have g6 : ¬ b6 = q := by rintro rfl; rw [hJ.l6] at hq; cases hq
        have g7 : ¬ b7 = q := by rintro rfl; rw [hJ.l7] at hq; cases hq
        exact hk1 _ ⟨hJ.ext (by simp) (by simp [g6, g7]), by simp [e8], by simp⟩
      clear hJ e1 e2 e5 e6 e7 e8
      rintro s ⟨hJ, e8, e9⟩
      refine cutS (fun st => VJ c n b6 b7 (A ++ [aMk m]) D [] [] st ∧ st.env 8 = I k ∧ st.env 9 = .ref [I m.owner, I m.lo, I m.hi, I m.upon]) ?_ ?_
      · intro k1 hk1
        obtain ⟨e1, e2, e5, e6, e7⟩ := hJ.e
        have l6 := hJ.l6
        have l7 := hJ.l7
        simp -implicitDefEqProofs [e6, e9, l6]
        refine vCall_of ca ?_
        simp -implicitDefEqProofs [e6, l6, apartAV]
        refine ⟨by omega, by omega, hk1 _ ⟨⟨by simp [e1, e2, e5, e6, e7], by simp [aMk], by simp [l7, h76]⟩, by simp [e8], by simp [e9]⟩⟩
      clear hJ
      rintro s ⟨hJ, e8, e9⟩
      obtain ⟨e1, e2, e5, e6, e7⟩ := hJ.e
      have l6 := hJ.l6
      have l7 := hJ.l7
      simp -implicitDefEqProofs [e5, e7, e9, l7]
      refine ⟨i64 (by omega) (by omega), i64 (by omega) (by omega), vCall_of cb ?_⟩
      simp -implicitDefEqProofs [e7, e8, l7, apartAV]
      refine ⟨by omega, by omega, i64 (by omega) (by omega), round_ok hlt ⟨?_, by simp⟩⟩
      rw [sa, sb]
      exact ⟨by simp [e1, e2, e5, e6, e7], by simp [l6, h67], by simp [bMk]⟩
    · obtain rfl : k = c.marks.length := by omega
      simp -implicitDefEqProofs
      exact hk0 _ (hJ.ext (by simp) (by simp))
  clear hJ
  intro s hJ
  obtain ⟨MA, hMA⟩ : ∃ MA, MA = aUp c c.marks.length := ⟨_, rfl⟩
  obtain ⟨MB, hMB⟩ : ∃ MB, MB = bUp c c.marks.length := ⟨_, rfl⟩
  rw [← hMA, ← hMB] at hJ
  refine cutS (fun st => VJ c n b6 b7 MA MB (oUp c c.owners.length) [] st) ?_ ?_
  · intro k0 hk0
    simp -implicitDefEqProofs
    refine loop_up c.owners.length (fun k st => VJ c n b6 b7 MA MB (oUp c k) [] st ∧ st.env 10 = I k) ?_ ?_
    · exact ⟨hJ.ext (by simp) (by simp), by simp⟩
    clear hJ
    rintro k s hk ⟨hJ, e8⟩
    obtain ⟨e1, e2, e5, e6, e7⟩ := hJ.e
    simp -implicitDefEqProofs [e2, e8]
    refine cond_dec (fun hlt => ?_) (fun hge => ?_)
    · have hlt : k < c.owners.length := by omega
      refine stepB ?_
      have sa := oUp_snoc hlt
      have la : (oUp c k).length ≤ 8 := by unfold oUp; rw [List.length_map, List.length_take]; omega
      have hmk := hok.owners _ (List.getElem_mem hlt)
      obtain ⟨m, hm⟩ : ∃ m, m = c.owners[k] := ⟨_, rfl⟩
      rw [← hm] at sa hmk
      have hm := hm.symm
      obtain ⟨A, hA⟩ : ∃ A, A = oUp c k := ⟨_, rfl⟩
      rw [← hA] at sa la hJ
      refine cutS (fun st => VJ c n b6 b7 MA MB A [] st ∧ st.env 10 = I k ∧ st.env 11 = .ref [S m.name, I m.born, I m.died]) ?_ ?_
      · intro k1 hk1
        simp -implicitDefEqProofs [e2, e8, hlt, hm]
        intro q hq
        have g6 : ¬ b6 = q := by rintro rfl; rw [hJ.l6] at hq; cases hq
        have g7 : ¬ b7 = q := by rintro rfl; rw [hJ.l7] at hq; cases hq
        exact hk1 _ ⟨hJ.ext (by simp) (by simp [g6, g7]), by simp [e8], by simp⟩
      clear hJ e1 e2 e5 e6 e7 e8
      rintro s ⟨hJ, e8, e9⟩
      obtain ⟨e1, e2, e5, e6, e7⟩ := hJ.e
      have l6 := hJ.l6
      have l7 := hJ.l7
      simp -implicitDefEqProofs [e5, e7, e8, e9, l7]
      refine ⟨i64 (by omega) (by omega), i64 (by omega) (by omega), by omega, by omega, i64 (by omega) (by omega), round_ok hlt ⟨?_, by simp⟩⟩
      rw [sa]
      exact ⟨by simp [e1, e2, e5, e6, e7], by simp [l6, h67], by simp [bOw]⟩
    · obtain rfl : k = c.owners.length := by omega
      simp -implicitDefEqProofs
      exact hk0 _ (hJ.ext (by simp) (by simp))
  clear hJ
  intro s hJ
  obtain ⟨OB, hOB⟩ : ∃ OB, OB = oUp c c.owners.length := ⟨_, rfl⟩
  rw [← hOB] at hJ
  refine cutS (fun st => VJ c n b6 b7 MA MB OB (zUp c c.sales.length) st) ?_ ?_
  · intro k0 hk0
    simp -implicitDefEqProofs
    refine loop_up c.sales.length (fun k st => VJ c n b6 b7 MA MB OB (zUp c k) st ∧ st.env 12 = I k) ?_ ?_
    · exact ⟨hJ.ext (by simp) (by simp), by simp⟩
    clear hJ
    rintro k s hk ⟨hJ, e8⟩
    obtain ⟨e1, e2, e5, e6, e7⟩ := hJ.e
    simp -implicitDefEqProofs [e2, e8]
    refine cond_dec (fun hlt => ?_) (fun hge => ?_)
    · have hlt : k < c.sales.length := by omega
      refine stepB ?_
      have sa := zUp_snoc hlt
      have la : (zUp c k).length ≤ 8 := by unfold zUp; rw [List.length_map, List.length_take]; omega
      have hmk := hok.sales _ (List.getElem_mem hlt)
      obtain ⟨m, hm⟩ : ∃ m, m = c.sales[k] := ⟨_, rfl⟩
      rw [← hm] at sa hmk
      have hm := hm.symm
      obtain ⟨A, hA⟩ : ∃ A, A = zUp c k := ⟨_, rfl⟩
      rw [← hA] at sa la hJ
      refine cutS (fun st => VJ c n b6 b7 MA MB OB A st ∧ st.env 12 = I k ∧ st.env 13 = .ref [I m.year, I m.src, I m.dst]) ?_ ?_
      · intro k1 hk1
        simp -implicitDefEqProofs [e2, e8, hlt, hm]
        intro q hq
        have g6 : ¬ b6 = q := by rintro rfl; rw [hJ.l6] at hq; cases hq
        have g7 : ¬ b7 = q := by rintro rfl; rw [hJ.l7] at hq; cases hq
        exact hk1 _ ⟨hJ.ext (by simp) (by simp [g6, g7]), by simp [e8], by simp⟩
      clear hJ e1 e2 e5 e6 e7 e8
      rintro s ⟨hJ, e8, e9⟩
      obtain ⟨e1, e2, e5, e6, e7⟩ := hJ.e
      have l6 := hJ.l6
      have l7 := hJ.l7
      simp -implicitDefEqProofs [e5, e7, e8, e9, l7]
      refine ⟨i64 (by omega) (by omega), by omega, by omega, i64 (by omega) (by omega), round_ok hlt ⟨?_, by simp⟩⟩
      rw [sa]
      exact ⟨by simp [e1, e2, e5, e6, e7], by simp [l6, h67], by simp [tSale]⟩
    · obtain rfl : k = c.sales.length := by omega
      simp -implicitDefEqProofs
      exact hk0 _ (hJ.ext (by simp) (by simp))
  clear hJ
  intro s hJ
  obtain ⟨ZB, hZB⟩ : ∃ ZB, ZB = zUp c c.sales.length := ⟨_, rfl⟩
  rw [← hZB] at hJ
  have ha : encCase (aCase c) = .agg (vCells c (c.owners.map encOwner) 0 MA 0 c.sales 0) := by rw [hMA]; rfl
  have hb : encCase (bCase c) = .agg (vCells c (OB.map encOwner) 0 MB 0 ZB 0) := by rw [hOB, hMB, hZB]; rfl
  have hE := errE_a he
  have hT := turn_ab c
  have d2 := valid37_ok (bCase c)
  by_cases hed : errE (bCase c) = 0
  case neg =>
    rw [decide_eq_false hed, hb] at d2
    obtain ⟨e1, e2, e5, e6, e7⟩ := hJ.e
    have l7 := hJ.l7
    simp -implicitDefEqProofs [e7, l7]
    refine vCall_of d2 ?_
    simp -implicitDefEqProofs
    refine vCall_of aw ?_
    simp -implicitDefEqProofs [r15]
  rw [decide_eq_true hed, hb] at d2
  have c41 := any41_ok hn6 n
  have hord := anyO_ok c n
  obtain ⟨O, hO⟩ : ∃ O, O = anyO c n := ⟨_, rfl⟩
  rw [← hO] at c41 hord
  have hordA : OrdOK (aCase c) O := ⟨hord.rng, hord.nd⟩
  have hOl : O.length ≤ 6 := by have := nodup_len _ _ hord.nd hord.rng; omega
  have hwt := why_turn hT hE hed hordA
  obtain ⟨hu, hee⟩ := chain_turn hT hE hed
  have wa := why21_ok (aCase c) O
  have wb := why21_ok (bCase c) O.reverse
  have ca := chain18_ok (aCase c)
  have cb := chain18_ok (bCase c)
  rw [← hwt] at wb
  rw [ha] at wa ca
  rw [hb] at wb cb
  obtain ⟨W, hW⟩ : ∃ W, W = whyS (aCase c) O := ⟨_, rfl⟩
  rw [← hW] at wa wb
  generalize chainS (aCase c) = CA at *
  generalize chainS (bCase c) = CB at *
  refine cutS (fun st => VJ c n b6 b7 MA MB OB ZB st) ?_ ?_
  · intro k hk
    obtain ⟨e1, e2, e5, e6, e7⟩ := hJ.e
    have l7 := hJ.l7
    simp -implicitDefEqProofs [e7, l7]
    refine vCall_of d2 ?_
    simp -implicitDefEqProofs
    exact hk _ (hJ.ext (by simp) (by simp))
  clear hJ
  intro s hJ
  refine cutS (fun st => VJ c n b6 b7 MA MB OB ZB st ∧ st.env 14 = IL O) ?_ ?_
  · intro k hk
    obtain ⟨e1, e2, e5, e6, e7⟩ := hJ.e
    simp -implicitDefEqProofs [e1, e2, hwn]
    refine vCall_of c41 ?_
    simp -implicitDefEqProofs
    exact hk _ ⟨hJ.ext (by simp) (by simp), by simp⟩
  clear hJ
  rintro s ⟨hJ, e14⟩
  refine cutS (fun st => VJ c n b6 b7 MA MB OB ZB st ∧ st.env 14 = IL O ∧ st.env 15 = .slice 1 [] 16) ?_ ?_
  · intro k hk
    obtain ⟨e1, e2, e5, e6, e7⟩ := hJ.e
    simp -implicitDefEqProofs
    exact hk _ ⟨⟨by simp [e1, e2, e5, e6, e7], by simp [hJ.l6], by simp [hJ.l7]⟩, by simp [e14], by simp⟩
  clear hJ e14
  rintro s ⟨hJ, e14, e15⟩
  refine cutS (fun st => VJ c n b6 b7 MA MB OB ZB st ∧ st.env 14 = IL O ∧ st.env 15 = .slice 1 ((rUp O O.length).map I) 16) ?_ ?_
  · intro k0 hk0
    simp -implicitDefEqProofs [e14]
    refine ⟨i64 (by omega) (by omega), ?_⟩
    refine loop_up O.length (fun k st => VJ c n b6 b7 MA MB OB ZB st ∧ st.env 14 = IL O ∧ st.env 15 = .slice 1 ((rUp O k).map I) 16 ∧ st.env 16 = I ((O.length : Int) - 1 - k)) ?_ ?_
    · exact ⟨hJ.ext (by simp) (by simp), by simp [e14], by simp [e15, rUp], by simp⟩
    clear hJ e14 e15
    rintro k s hk ⟨hJ, e14, e15, e16⟩
    simp -implicitDefEqProofs [e16]
    refine cond_dec (fun hlt => ?_) (fun hge => ?_)
    · have hlt : k < O.length := by omega
      refine stepB ?_
      have hs := rUp_snoc hlt
      have hlr : (rUp O k).length ≤ 6 := by unfold rUp; rw [List.length_take, List.length_reverse]; omega
      have v1 : ((O.length : Int) - 1 - k).toNat = O.length - 1 - k := by omega
      have v2 : O.length - 1 - k < O.length := by omega
      have v3 : (0 : Int) ≤ (O.length : Int) - 1 - k := by omega
      have v4 : (O.length : Int) - 1 - k < O.length := by omega
      obtain ⟨x, hx⟩ : ∃ x, x = O[O.length - 1 - k] := ⟨_, rfl⟩
      rw [← hx] at hs
      have hx := hx.symm
      obtain ⟨R, hR⟩ : ∃ R, R = rUp O k := ⟨_, rfl⟩
      rw [← hR] at e15 hs hlr
      simp -implicitDefEqProofs [e14, e15, e16, v1, v2, v4, hx]
      obtain ⟨e1, e2, e5, e6, e7⟩ := hJ.e
      refine ⟨by omega, by omega, by omega, i64 (by omega) (by omega), round_ok hlt ⟨⟨by simp [e1, e2, e5, e6, e7], by simp [hJ.l6], by simp [hJ.l7]⟩, by simp [e14], by simp [hs], by simp; omega⟩⟩
    · obtain rfl : k = O.length := by omega
      simp -implicitDefEqProofs
      exact hk0 _ ⟨hJ.ext (by simp) (by simp), by simp [e14], by simp [e15]⟩
  clear hJ e14 e15
  rintro s ⟨hJ, e14, e15⟩
  have hrv : rUp O O.length = O.reverse := by unfold rUp; exact List.take_of_length_le (by simp)
  rw [hrv] at e15
  obtain ⟨V, hV⟩ : ∃ V, V = O.reverse := ⟨_, rfl⟩
  rw [← hV] at e15 wb
  refine cutS (fun st => VJ c n b6 b7 MA MB OB ZB st ∧ st.env 15 = .slice 1 (V.map I) 16 ∧ st.env 17 = I W.a ∧ st.env 18 = I W.e) ?_ ?_
  · intro k hk
    obtain ⟨e1, e2, e5, e6, e7⟩ := hJ.e
    have l6 := hJ.l6
    simp -implicitDefEqProofs [e6, l6, e14]
    refine vCall_of wa ?_
    simp -implicitDefEqProofs
    exact hk _ ⟨hJ.ext (by simp) (by simp), by simp [e15], by simp, by simp⟩
  clear hJ e14 e15
  rintro s ⟨hJ, e15, e17, e18⟩
  refine cutS (fun st => VJ c n b6 b7 MA MB OB ZB st ∧ st.env 17 = I W.a ∧ st.env 18 = I W.e ∧ st.env 19 = I W.a ∧ st.env 20 = I W.e) ?_ ?_
  · intro k hk
    obtain ⟨e1, e2, e5, e6, e7⟩ := hJ.e
    have l7 := hJ.l7
    simp -implicitDefEqProofs [e7, l7, e15]
    refine vCall_of wb ?_
    simp -implicitDefEqProofs
    exact hk _ ⟨hJ.ext (by simp) (by simp), by simp [e17], by simp [e18], by simp, by simp⟩
  clear hJ e15 e17 e18
  rintro s ⟨hJ, e17, e18, e19, e20⟩
  refine cutS (fun st => VJ c n b6 b7 MA MB OB ZB st ∧ st.env 17 = I W.a ∧ st.env 18 = I W.e ∧ st.env 19 = I W.a ∧ st.env 20 = I W.e ∧ st.env 22 = I CA.u ∧ st.env 23 = I CA.e) ?_ ?_
  · intro k hk
    obtain ⟨e1, e2, e5, e6, e7⟩ := hJ.e
    have l6 := hJ.l6
    simp -implicitDefEqProofs [e6, l6]
    refine vCall_of ca ?_
    simp -implicitDefEqProofs
    exact hk _ ⟨hJ.ext (by simp) (by simp), by simp [e17], by simp [e18], by simp [e19], by simp [e20], by simp, by simp⟩
  clear hJ e17 e18 e19 e20
  rintro s ⟨hJ, e17, e18, e19, e20, e22, e23⟩
  refine cutS (fun st => st.env 17 = I W.a ∧ st.env 18 = I W.e ∧ st.env 19 = I W.a ∧ st.env 20 = I W.e ∧ st.env 22 = I CA.u ∧ st.env 23 = I CA.e ∧ st.env 25 = I CA.u ∧ st.env 26 = I CA.e) ?_ ?_
  · intro k hk
    obtain ⟨e1, e2, e5, e6, e7⟩ := hJ.e
    have l7 := hJ.l7
    simp -implicitDefEqProofs [e7, l7]
    refine vCall_of cb ?_
    simp -implicitDefEqProofs
    exact hk _ (by simp [e17, e18, e19, e20, e22, e23, hu, hee])
  clear hJ e17 e18 e19 e20 e22 e23
  rintro s ⟨e17, e18, e19, e20, e22, e23, e25, e26⟩
  simp -implicitDefEqProofs [e17, e18, e19, e20, e22, e23, e25, e26]
  refine vCall_of aw ?_
  simp -implicitDefEqProofs [r15]
theorem ownerTurned_ok (c : Case) (x : Int) (hc : CaseSz c) (ox : 0 ≤ x ∧ x ≤ 65535) : PCall Try.prog 15 [encCase c, U x] (B true) := by
  obtain ⟨n, rfl⟩ : ∃ n : Nat, x = n := ⟨x.toNat, by omega⟩
  exact ownerTurned_at c n hc (by omega)
end Go.Proofs.Ytiampdiobdianaa

