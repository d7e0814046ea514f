/- The resolved code of some functions, written by program, each held against the function by the kernel. The law PaperParted: its contract. -/
import Derived.Test.YtbcfmfiolbcclaaZI
import Derived.KernelRfl
import Derived.Test.YtbcfmfiolbcclaaZL
namespace Go.Proofs.Ytbcfmfiolbcclaa
open Go.Avm

/- duodecimo/duodecimolaw06.PaperParted -/
def ann14 : Ann := { muts := [61, 64], nilsz := [], oid := [(65, 8002), (114, 9002)], frz := [22, 24, 26, 27, 29, 30], zero := [(7, [(.lit (.int .i64 0)), (.slice 3 [] 8001), (.slice 3 [] 8002), (.lit (.int .i64 0)), (.slice 2 [] 8004)]), (8, [(.lit (.int .i64 0)), (.slice 3 [] 9001), (.slice 3 [] 9002), (.lit (.int .i64 0)), (.slice 2 [] 9004)]), (22, [(.lit (.int .i64 0)), (.lit (.int .i64 0))]), (24, [(.lit (.int .i64 0)), (.lit (.int .i64 0))]), (26, [(.lit (.int .i64 0)), (.lit (.int .i64 0))]), (27, [(.lit (.int .i64 0)), (.lit (.int .i64 0))]), (29, [(.lit (.int .i64 0)), (.lit (.int .i64 0))]), (30, [(.lit (.int .i64 0)), (.lit (.int .i64 0))]), (61, [(.lit (.int .i64 0)), (.lit (.int .i64 0)), (.lit (.int .i64 0))]), (64, [(.lit (.int .i64 0)), (.lit (.int .i64 0)), (.lit (.int .i64 0))]), (86, [(.lit (.int .i64 0)), (.lit (.int .i64 0)), (.lit (.int .i64 0))]), (96, [(.lit (.int .i64 0)), (.lit (.int .i64 0)), (.lit (.int .i64 0))]), (105, [(.lit (.int .i64 0)), (.lit (.int .i64 0)), (.lit (.int .i64 0))]), (106, [(.lit (.int .i64 0)), (.lit (.int .i64 0)), (.lit (.int .i64 0))])], ord := [(7, [0, 1, 2, 3, 4, 5]), (12, [1, 2, 3, 4, 6, 7, 8, 11, 12, 13, 14, 15, 16, 17, 22, 23, 24, 25, 26, 0, 5, 9, 10, 18, 19, 20, 21, 27, 28, 29])], ap := [(7, [(.t 2)]), (8, []), (114, [])], own := [], yl := [], fz := [(9, [7])], imm := [], ic := [], cl := [], ylL := [], rl := [] }
def m14 : MCode := (.seq (.reg [.boxI 2 (.t 0) 5, .boxI 3 (.t 1) 3, .asg 4 (.c (.lit (.bool false)))])
 (.seq (.seq (.reg [.load 32 (.t 2) (some 5), .call 33 36 [(.t 32)], .not 34 (.t 33), .cpy 35 (.t 34), .guard 35 false (some 36) (.addr 36 (.t 2) 2), .guard 35 false (some 37) (.load 37 (.t 36) none), .guard 35 false (some 38) (.len 38 (.t 37)), .guard 35 false (some 39) (.bin 39 .eql (.t 38) (.c (.lit (.int .i64 4)))), .pick 40 (.t 35) (.c (.lit (.bool true))) (.t 39)])
 (.cond (.t 40) (.seq (.reg [.call 41 22 [], .asg 4 (.t 41)])
 .ret) .skip))
 (.seq (.reg [.idxA 42 (.t 3) (.c (.lit (.int .i64 0))) 3 1, .load 43 (.t 42) none, .conv 44 .i64 (.t 43), .addr 45 (.t 2) 2, .load 46 (.t 45) none, .len 47 (.t 46), .bin 48 .rem (.t 44) (.t 47), .asg 5 (.t 48)])
 (.seq (.reg [.addr 49 (.t 2) 2, .load 50 (.t 49) none, .cpy 51 (.t 5), .idxS 52 (.t 50) (.t 51) 3, .addr 53 (.t 52) 1, .addr 54 (.t 53) 0, .load 55 (.t 54) none, .asg 6 (.t 55)])
 (.seq (.seq (.reg [.cpy 56 (.t 6), .bin 57 .lss (.t 56) (.c (.lit (.int .i64 2)))])
 (.cond (.t 57) (.seq (.reg [.call 58 22 [], .asg 4 (.t 58)])
 .ret) .skip))
 (.seq (.reg [.load 59 (.t 2) (some 5), .load 60 (.t 2) (some 5), .alloc 7 [(.lit (.int .i64 0)), (.slice 3 [] 8001), (.slice 3 [] 8002), (.lit (.int .i64 0)), (.slice 2 [] 8004)], .alloc 8 [(.lit (.int .i64 0)), (.slice 3 [] 9001), (.slice 3 [] 9002), (.lit (.int .i64 0)), (.slice 2 [] 9004)], .apart [(.t 2)] (.t 7) (.store (.t 7) (.t 59) 5 0), .apart [] (.t 8) (.store (.t 8) (.t 60) 5 0)])
 (.seq (.reg [.mkM 61 (.c (.lit (.int .i64 0))) (.c (.lit (.int .i64 0))) 3 24 [(.lit (.int .i64 0)), (.lit (.int .i64 0)), (.lit (.int .i64 0))], .addr 62 (.t 2) 2, .load 63 (.t 62) none, .appM 64 (.t 61) (.t 63) 3 24 [(.lit (.int .i64 0)), (.lit (.int .i64 0)), (.lit (.int .i64 0))], .addr 65 (.t 7) 2, .store (.t 65) (.t 64) 1 8002])
 (.seq (.reg [.addr 66 (.t 7) 2, .load 67 (.t 66) none, .cpy 68 (.t 5), .cpy 69 (.t 6), .idxS 70 (.t 67) (.t 68) 3, .addr 71 (.t 70) 1, .addr 72 (.t 71) 1, .store (.t 72) (.t 69) 1 0, .frz 7])
 (.seq (.reg [.idxA 73 (.t 3) (.c (.lit (.int .i64 1))) 3 1, .load 74 (.t 73) none, .conv 75 .i64 (.t 74), .cpy 76 (.t 6), .bin 77 .sub (.t 76) (.c (.lit (.int .i64 1))), .bin 78 .rem (.t 75) (.t 77), .bin 79 .add (.c (.lit (.int .i64 1))) (.t 78), .asg 9 (.t 79)])
 (.seq (.reg [.addr 80 (.t 2) 2, .load 81 (.t 80) none, .cpy 82 (.t 5), .idxS 83 (.t 81) (.t 82) 3, .addr 84 (.t 83) 0, .load 85 (.t 84) none, .asg 10 (.t 85)])
 (.seq (.reg [.addr 87 (.t 7) 2, .load 88 (.t 87) none, .cpy 89 (.t 5), .slcHi 90 (.t 88) (.t 89) 3, .cpy 92 (.t 10), .cpy 93 (.t 9), .cpy 94 (.t 9), .cpy 97 (.t 10), .cpy 98 (.t 6), .cpy 99 (.t 9), .bin 100 .sub (.t 98) (.t 99), .cpy 101 (.t 6), .cpy 102 (.t 9), .bin 103 .sub (.t 101) (.t 102), .addr 108 (.t 7) 2, .load 109 (.t 108) none, .cpy 110 (.t 5), .bin 111 .add (.t 110) (.c (.lit (.int .i64 1))), .slcLo 112 (.t 109) (.t 111) 3, .mkS 86 0 3 [(.lit (.int .i64 0)), (.lit (.int .i64 0)), (.lit (.int .i64 0))] [], .app 91 (.t 86) (.t 90) 3 24, .call 95 47 [(.t 93), (.t 94)], .build 96 [(.lit (.int .i64 0)), (.lit (.int .i64 0)), (.lit (.int .i64 0))] [(0, 1, (.t 92)), (1, 2, (.t 95))], .call 104 47 [(.t 100), (.t 103)], .build 105 [(.lit (.int .i64 0)), (.lit (.int .i64 0)), (.lit (.int .i64 0))] [(0, 1, (.t 97)), (1, 2, (.t 104))], .mkS 106 2 3 [(.lit (.int .i64 0)), (.lit (.int .i64 0)), (.lit (.int .i64 0))] [(0, (.t 96)), (1, (.t 105))], .app 107 (.t 91) (.t 106) 3 24, .app 113 (.t 107) (.t 112) 3 24, .addr 114 (.t 8) 2, .apart [] (.t 114) (.store (.t 114) (.t 113) 1 9002)])
 (.seq (.reg [.idxA 115 (.t 3) (.c (.lit (.int .i64 2))) 3 1, .load 116 (.t 115) none, .conv 117 .i64 (.t 116), .addr 118 (.t 2) 3, .load 119 (.t 118) none, .bin 120 .rem (.t 117) (.t 119), .asg 11 (.t 120)])
 (.seq (.reg [.load 122 (.t 7) (some 5), .call 123 17 [(.t 122)], .cpy 121 (.t 123), .ext 124 (.t 121) 0, .ext 125 (.t 121) 1, .asg 12 (.t 124), .asg 13 (.t 125)])
 (.seq (.reg [.load 127 (.t 8) (some 5), .call 128 17 [(.t 127)], .cpy 126 (.t 128), .ext 129 (.t 126) 0, .ext 130 (.t 126) 1, .asg 14 (.t 129), .asg 15 (.t 130)])
 (.seq (.reg [.load 132 (.t 7) (some 5), .cpy 133 (.t 11), .call 134 23 [(.t 132), (.t 133)], .cpy 131 (.t 134), .ext 135 (.t 131) 0, .ext 136 (.t 131) 1, .ext 137 (.t 131) 2, .asg 16 (.t 135), .asg 17 (.t 136), .asg 18 (.t 137)])
 (.seq (.reg [.load 139 (.t 8) (some 5), .cpy 140 (.t 11), .call 141 23 [(.t 139), (.t 140)], .cpy 138 (.t 141), .ext 142 (.t 138) 0, .ext 143 (.t 138) 1, .ext 144 (.t 138) 2, .asg 19 (.t 142), .asg 20 (.t 143), .asg 21 (.t 144)])
 (.seq (.reg [.load 146 (.t 7) (some 5), .call 147 28 [(.t 146)], .cpy 145 (.t 147), .ext 148 (.t 145) 0, .ext 149 (.t 145) 1, .alloc 22 [(.lit (.int .i64 0)), (.lit (.int .i64 0))], .storeF 22 (.t 148) 2, .asg 23 (.t 149)])
 (.seq (.reg [.load 151 (.t 8) (some 5), .call 152 28 [(.t 151)], .cpy 150 (.t 152), .ext 153 (.t 150) 0, .ext 154 (.t 150) 1, .alloc 24 [(.lit (.int .i64 0)), (.lit (.int .i64 0))], .storeF 24 (.t 153) 2, .asg 25 (.t 154)])
 (.seq (.seq (.reg [.cpy 155 (.t 12), .cpy 156 (.t 14), .call 157 19 [(.t 155), (.t 156)], .not 158 (.t 157), .cpy 159 (.t 158), .guard 159 false (some 160) (.cpy 160 (.t 13)), .guard 159 false (some 161) (.cpy 161 (.t 15)), .guard 159 false (some 162) (.bin 162 .neq (.t 160) (.t 161)), .pick 163 (.t 159) (.c (.lit (.bool true))) (.t 162), .cpy 164 (.t 163), .guard 164 false (some 165) (.cpy 165 (.t 16)), .guard 164 false (some 166) (.cpy 166 (.t 19)), .guard 164 false (some 167) (.call 167 25 [(.t 165), (.t 166)]), .guard 164 false (some 168) (.not 168 (.t 167)), .pick 169 (.t 164) (.c (.lit (.bool true))) (.t 168), .cpy 170 (.t 169), .guard 170 false (some 171) (.cpy 171 (.t 17)), .guard 170 false (some 172) (.cpy 172 (.t 20)), .guard 170 false (some 173) (.call 173 25 [(.t 171), (.t 172)]), .guard 170 false (some 174) (.not 174 (.t 173)), .pick 175 (.t 170) (.c (.lit (.bool true))) (.t 174), .cpy 176 (.t 175), .guard 176 false (some 177) (.cpy 177 (.t 18)), .guard 176 false (some 178) (.cpy 178 (.t 21)), .guard 176 false (some 179) (.bin 179 .neq (.t 177) (.t 178)), .pick 180 (.t 176) (.c (.lit (.bool true))) (.t 179), .cpy 181 (.t 180), .guard 181 false (some 182) (.load 182 (.t 22) (some 2)), .guard 181 false (some 183) (.load 183 (.t 24) (some 2)), .guard 181 false (some 184) (.binA 184 true [false, false] (.t 182) (.t 183)), .pick 185 (.t 181) (.c (.lit (.bool true))) (.t 184), .cpy 186 (.t 185), .guard 186 false (some 187) (.cpy 187 (.t 23)), .guard 186 false (some 188) (.cpy 188 (.t 25)), .guard 186 false (some 189) (.bin 189 .neq (.t 187) (.t 188)), .pick 190 (.t 186) (.c (.lit (.bool true))) (.t 189)])
 (.cond (.t 190) (.seq (.reg [.asg 4 (.c (.lit (.bool false)))])
 .ret) .skip))
 (.seq (.reg [.load 192 (.t 7) (some 5), .call 193 26 [(.t 192)], .cpy 191 (.t 193), .ext 194 (.t 191) 0, .ext 195 (.t 191) 1, .ext 196 (.t 191) 2, .alloc 26 [(.lit (.int .i64 0)), (.lit (.int .i64 0))], .alloc 27 [(.lit (.int .i64 0)), (.lit (.int .i64 0))], .storeF 26 (.t 194) 2, .storeF 27 (.t 195) 2, .asg 28 (.t 196)])
 (.seq (.reg [.load 198 (.t 8) (some 5), .call 199 26 [(.t 198)], .cpy 197 (.t 199), .ext 200 (.t 197) 0, .ext 201 (.t 197) 1, .ext 202 (.t 197) 2, .alloc 29 [(.lit (.int .i64 0)), (.lit (.int .i64 0))], .alloc 30 [(.lit (.int .i64 0)), (.lit (.int .i64 0))], .storeF 29 (.t 200) 2, .storeF 30 (.t 201) 2, .asg 31 (.t 202)])
 (.seq (.reg [.load 203 (.t 26) (some 2), .load 204 (.t 29) (some 2), .binA 205 false [false, false] (.t 203) (.t 204), .cpy 206 (.t 205), .guard 206 true (some 207) (.cpy 207 (.t 28)), .guard 206 true (some 208) (.cpy 208 (.t 31)), .guard 206 true (some 209) (.bin 209 .eql (.t 207) (.t 208)), .pick 210 (.t 206) (.t 209) (.c (.lit (.bool false))), .cpy 211 (.t 210), .guard 211 true (some 212) (.addr 212 (.t 30) 0), .guard 211 true (some 213) (.load 213 (.t 212) none), .guard 211 true (some 214) (.addr 214 (.t 27) 0), .guard 211 true (some 215) (.load 215 (.t 214) none), .guard 211 true (some 216) (.bin 216 .geq (.t 213) (.t 215)), .pick 217 (.t 211) (.t 216) (.c (.lit (.bool false))), .cpy 218 (.t 217), .guard 218 true (some 219) (.addr 219 (.t 30) 1), .guard 218 true (some 220) (.load 220 (.t 219) none), .guard 218 true (some 221) (.addr 221 (.t 27) 1), .guard 218 true (some 222) (.load 222 (.t 221) none), .guard 218 true (some 223) (.bin 223 .geq (.t 220) (.t 222)), .pick 224 (.t 218) (.t 223) (.c (.lit (.bool false))), .cpy 225 (.t 224), .guard 225 true (some 226) (.call 226 22 []), .pick 227 (.t 225) (.t 226) (.c (.lit (.bool false))), .asg 4 (.t 227)])
 .ret))))))))))))))))))))))
def r14 : List MRes := [.tmp 4]
theorem tr14 : Try.f14.body.bind (trC Try.prog ann14 Try.f14.ntmps) = some m14 := by kernel_rfl
theorem rs14 : trRes Try.prog Try.f14.results.toList = some r14 := by kernel_rfl
theorem fn14 : isFunc Try.prog 14 = true := by kernel_rfl
end Go.Proofs.Ytbcfmfiolbcclaa

namespace Go.Proofs.Ytbcfmfiolbcclaa
open Go.Avm

/-- The cells of reams, and room. -/
def flatC (rs : List Ream) (r : Nat) : List AV := ((rs.map encReam).flatMap AV.cells).map AV.erase0 ++ (List.replicate r [I 0, I 0, I 0]).flatten
theorem flatC_cons (x : Ream) (rs : List Ream) (r : Nat) : flatC (x :: rs) r = I x.stock :: I x.lo :: I x.hi :: flatC rs r := rfl
theorem flatC_len (r : Nat) : ∀ rs : List Ream, (flatC rs r).length = 3 * rs.length + 3 * r
  | [] => by simp [flatC]; omega
  | x :: rs => by
    rw [flatC_cons, List.length_cons, List.length_cons, List.length_cons, flatC_len r rs, List.length_cons]
    omega
theorem flatC_cells (r : Nat) : ∀ rs : List Ream, (flatC rs r).all AV.cell1 = true
  | [] => by
    rw [List.all_eq_true]
    intro x hx
    have hx : x ∈ (List.replicate r [I 0, I 0, I 0]).flatten := hx
    obtain ⟨l, h1, h2⟩ := List.mem_flatten.1 hx
    obtain rfl := (List.mem_replicate.1 h1).2
    simp at h2
    rw [h2]; rfl
  | x :: rs => by
    rw [flatC_cons]
    have := flatC_cells r rs
    simpa using this
theorem set_cells {cs : List AV} (h : cs.all AV.cell1 = true) (k : Nat) (n : Int) : (cs.set k (I n)).all AV.cell1 = true := by
  rw [List.all_eq_true] at h ⊢
  intro x hx
  rcases List.mem_or_eq_of_mem_set hx with hx | rfl
  · exact h x hx
  · rfl
theorem chunk_flat (r : Nat) : ∀ rs : List Ream, chunk 3 (flatC rs r) rs.length = rs.map encReam
  | [] => rfl
  | x :: rs => by
    rw [flatC_cons, List.length_cons, List.map_cons, ← chunk_flat r rs]
    rfl
theorem chunk_set (r : Nat) (n : Int) : ∀ (rs : List Ream) (i : Nat) (hi : i < rs.length), chunk 3 ((flatC rs r).set (i * 3 + 1 + 1) (I n)) rs.length = (rs.set i ⟨rs[i].stock, rs[i].lo, n⟩).map encReam
  | x :: rs, 0, _ => by
    rw [flatC_cons, List.length_cons, List.set_cons_zero, List.map_cons, ← chunk_flat r rs]
    rfl
  | x :: rs, i + 1, hi => by
    have ih := chunk_set r n rs i (by simpa using hi)
    rw [flatC_cons, show (i + 1) * 3 + 1 + 1 = (i * 3 + 1 + 1) + 1 + 1 + 1 by omega]
    simp only [List.set_cons_succ, List.length_cons, List.getElem_cons_succ, List.map_cons]
    rw [← ih]
    rfl

theorem paperParted_at (c : Case) {x y z : Nat} (hx : x < 65536) (hy : y < 65536) (hz : z < 65536) : PCall Try.prog 14 [encCase c, .agg [U x, U y, U z]] (B true) := by
  refine pcall Try.func14 tr14 rs14 fn14 (by simp [Try.ntmps14]) fun _ => ?_
  have va := valid36_ok c
  have aw := awake22_ok
  unfold m14
  refine cutS (fun s => s.env 2 = caseRef c ∧ s.env 3 = .ref [U x, U y, U z] ∧ s.loc = fun _ => none) ?_ ?_
  · intro k hk
    simp -implicitDefEqProofs
    exact hk _ (by simp)
  rintro s ⟨e2, e3, hl⟩
  by_cases he : errE c = 0
  case neg =>
    simp -implicitDefEqProofs [e2]
    refine vCall_of va ?_
    simp -implicitDefEqProofs [he]
    refine vCall_of aw ?_
    simp -implicitDefEqProofs [r14]
  by_cases h4 : c.reams.length = 4
  case pos =>
    have h4' : ((c.reams.length : Int) == 4) = true := by rw [h4]; rfl
    simp -implicitDefEqProofs [e2]
    refine vCall_of va ?_
    simp -implicitDefEqProofs [he, e2, h4']
    refine vCall_of aw ?_
    simp -implicitDefEqProofs [r14]
  have h4' : ((c.reams.length : Int) == 4) = false := by simp; omega
  have hok := err_ok he
  have hreams := hok.reams
  refine cutS (fun s => s.env 2 = caseRef c ∧ s.env 3 = .ref [U x, U y, U z] ∧ s.loc = fun _ => none) ?_ ?_
  · intro k hk
    simp -implicitDefEqProofs [e2]
    refine vCall_of va ?_
    simp -implicitDefEqProofs [he, e2, h4']
    exact hk _ (by simp [e2, e3, hl])
  clear e2 e3 hl
  rintro s ⟨e2, e3, hl⟩
  have wx : IntKind.wrap .i64 (x : Int) = x := wrap_u (by omega)
  have wy : IntKind.wrap .i64 (y : Int) = y := wrap_u (by omega)
  have wz : IntKind.wrap .i64 (z : Int) = z := wrap_u (by omega)
  have tx := tmod_nat x c.reams.length
  have vx : (x : Int) % (c.reams.length : Int) = ((x % c.reams.length : Nat) : Int) := rfl
  have hi := Nat.mod_lt x (show 0 < c.reams.length by omega)
  generalize x % c.reams.length = i at *
  have hrz : ¬ c.reams = [] := by intro e; rw [e] at hreams; simp at hreams
  refine cutS (fun s => s.env 2 = caseRef c ∧ s.env 3 = .ref [U x, U y, U z] ∧ s.env 5 = I i ∧ s.loc = fun _ => none) ?_ ?_
  · intro k hk
    simp -implicitDefEqProofs [e2, e3, wx, tx, vx, hrz]
    exact hk _ (by simp [e2, e3, hl])
  clear e2 e3 hl
  rintro s ⟨e2, e3, e5, hl⟩
  have hr := hok.ream hi
  refine cutS (fun s => s.env 2 = caseRef c ∧ s.env 3 = .ref [U x, U y, U z] ∧ s.env 5 = I i ∧ s.env 6 = I c.reams[i].lo ∧ s.loc = fun _ => none) ?_ ?_
  · intro k hk
    simp -implicitDefEqProofs [e2, e5, hi]
    exact hk _ (by simp [e2, e3, e5, hl])
  clear e2 e3 e5 hl
  rintro s ⟨e2, e3, e5, e6, hl⟩
  obtain ⟨n, hn⟩ : ∃ n : Nat, c.reams[i].lo = n := ⟨c.reams[i].lo.toNat, by omega⟩
  rw [hn] at e6 hr
  by_cases hn2 : n < 2
  case pos =>
    have hn2' : (n : Int) < 2 := by omega
    simp -implicitDefEqProofs [e6, hn2']
    refine vCall_of aw ?_
    simp -implicitDefEqProofs [r14]
  have hn2' : ¬ (n : Int) < 2 := by omega
  refine cutS (fun s => s.env 2 = caseRef c ∧ s.env 3 = .ref [U x, U y, U z] ∧ s.env 5 = I i ∧ s.env 6 = I n ∧ s.loc = fun _ => none) ?_ ?_
  · intro k hk
    simp -implicitDefEqProofs [e6, hn2']
    exact hk _ (by simp [e2, e3, e5, e6, hl])
  clear e2 e3 e5 e6 hl
  rintro s ⟨e2, e3, e5, e6, hl⟩
  refine cutS (fun s => s.env 2 = caseRef c ∧ s.env 3 = .ref [U x, U y, U z] ∧ s.env 5 = I i ∧ s.env 6 = I n ∧ ∃ b7 b8, s.env 7 = .mref b7 0 ∧ s.env 8 = .mref b8 0 ∧ b7 ≠ b8 ∧ s.loc b7 = some (caseCells c) ∧ s.loc b8 = some (caseCells c)) ?_ ?_
  · intro k hk
    simp -implicitDefEqProofs [e2, hl]
    intro b7 b8 h78
    have h87 : ¬ b7 = b8 := fun e => h78 e.symm
    simp -implicitDefEqProofs [h78, h87]
    exact hk _ (by simp [e2, e3, e5, e6, h78, h87])
  clear e2 e3 e5 e6 hl
  rintro s ⟨e2, e3, e5, e6, b7, b8, e7, e8, n78, l7, l8⟩
  have n87 : ¬ b8 = b7 := fun e => n78 e.symm
  refine cutS (fun s => s.env 2 = caseRef c ∧ s.env 3 = .ref [U x, U y, U z] ∧ s.env 5 = I i ∧ s.env 6 = I n ∧ s.env 7 = .mref b7 0 ∧ s.env 8 = .mref b8 0 ∧ s.loc b8 = some (caseCells c) ∧
      ∃ b r, s.loc b7 = some [I c.run, .slice 3 (c.stocks.map encStock) 0, .mslice b 0 c.reams.length (c.reams.length + r) 3, I c.gath, .slice 2 (c.seen.map encSeen) 0] ∧ b ≠ b7 ∧ b ≠ b8 ∧
        s.loc b = some (flatC c.reams r)) ?_ ?_
  · intro k hk
    simp -implicitDefEqProofs [e2, e7]
    intro b0 h0
    have p7 : ¬ b7 = b0 := by rintro rfl; rw [l7] at h0; cases h0
    have p8 : ¬ b8 = b0 := by rintro rfl; rw [l8] at h0; cases h0
    refine ⟨hrz, by omega, by omega, fun b r hb => ?_⟩
    have q0 : ¬ b = b0 := by rintro rfl; simp at hb
    have q7 : ¬ b = b7 := by rintro rfl; simp [p7, l7] at hb
    have q8 : ¬ b = b8 := by rintro rfl; simp [p8, l8] at hb
    have q7' : ¬ b7 = b := fun e => q7 e.symm
    have q8' : ¬ b8 = b := fun e => q8 e.symm
    simp -implicitDefEqProofs [p7, q7', l7]
    refine hk _ ?_
    simp [e2, e3, e5, e6, e7, e8, n87, q8', p8, l8]
    exact ⟨b, r, ⟨rfl, rfl⟩, q7, q8, by simp [q7]; rfl⟩
  clear e2 e3 e5 e6 e7 e8 l7 l8
  rintro s ⟨e2, e3, e5, e6, e7, e8, l8, b, r, l7, q7, q8, lb⟩
  have q7' : ¬ b7 = b := fun e => q7 e.symm
  have q8' : ¬ b8 = b := fun e => q8 e.symm
  obtain ⟨O, hO⟩ : ∃ O, O = c.reams.set i ⟨c.reams[i].stock, n, n⟩ := ⟨_, rfl⟩
  refine cutS (fun s => s.env 2 = caseRef c ∧ s.env 3 = .ref [U x, U y, U z] ∧ s.env 5 = I i ∧ s.env 6 = I n ∧ s.env 7 = .mref b7 0 ∧ s.env 8 = .mref b8 0 ∧ s.loc b8 = some (caseCells c) ∧
      s.loc b7 = some [I c.run, .slice 3 (c.stocks.map encStock) 0, .slice 3 (O.map encReam) 0, I c.gath, .slice 2 (c.seen.map encSeen) 0]) ?_ ?_
  · intro k hk
    have hfl := flatC_len r c.reams
    have hfa := set_cells (flatC_cells r c.reams) (i * 3 + 1 + 1) n
    have hch := chunk_set r n c.reams i hi
    rw [hn, ← hO] at hch
    simp -implicitDefEqProofs [e5, e6, e7, l7, hi, lb]
    refine ⟨by omega, ?_⟩
    rw [if_neg q7']
    refine frz_box 2 b c.reams.length (c.reams.length + r) 3 (cs2 := (flatC c.reams r).set (i * 3 + 1 + 1) (I n)) rfl q7 (by simp) (by rw [List.length_set]; omega) hfa (by omega) ?_
    rw [hch]
    refine hk _ ?_
    simp [e2, e3, e5, e6, e7, e8, upd, q7', q8', n78, n87, l8]
  clear e2 e3 e5 e6 e7 e8 l7 l8 lb
  rintro s ⟨e2, e3, e5, e6, e7, e8, l8, l7⟩
  have hml := Nat.mod_lt y (show 0 < n - 1 by omega)
  have ty := tmod_nat y (n - 1)
  have vy : (y : Int) % ((n - 1 : Nat) : Int) = ((y % (n - 1) : Nat) : Int) := rfl
  have en1 : ((n - 1 : Nat) : Int) = (n : Int) - 1 := by omega
  rw [en1] at ty vy
  have hn1 : ¬ (n : Int) - 1 = 0 := by omega
  obtain ⟨m, hm⟩ : ∃ m, m = 1 + y % (n - 1) := ⟨_, rfl⟩
  have em : 1 + ((y % (n - 1) : Nat) : Int) = (m : Int) := by omega
  generalize y % (n - 1) = y' at *
  refine cutS (fun s => s.env 2 = caseRef c ∧ s.env 3 = .ref [U x, U y, U z] ∧ s.env 5 = I i ∧ s.env 6 = I n ∧ s.env 7 = .mref b7 0 ∧ s.env 8 = .mref b8 0 ∧ s.env 9 = I m ∧ s.loc b8 = some (caseCells c) ∧
      s.loc b7 = some [I c.run, .slice 3 (c.stocks.map encStock) 0, .slice 3 (O.map encReam) 0, I c.gath, .slice 2 (c.seen.map encSeen) 0]) ?_ ?_
  · intro k hk
    simp -implicitDefEqProofs [e3, e6, wy, ty, vy, hn1]
    refine ⟨i64 (by omega) (by omega), i64 (by omega) (by omega), ?_⟩
    exact hk _ (by simp [e2, e3, e5, e6, e7, e8, l7, l8, em])
  clear e2 e3 e5 e6 e7 e8 l7 l8
  rintro s ⟨e2, e3, e5, e6, e7, e8, e9, l8, l7⟩
  obtain ⟨S, hS⟩ : ∃ S, S = c.reams[i].stock := ⟨_, rfl⟩
  refine cutS (fun s => s.env 2 = caseRef c ∧ s.env 3 = .ref [U x, U y, U z] ∧ s.env 5 = I i ∧ s.env 6 = I n ∧ s.env 7 = .mref b7 0 ∧ s.env 8 = .mref b8 0 ∧ s.env 9 = I m ∧ s.env 10 = I S ∧ s.loc b8 = some (caseCells c) ∧
      s.loc b7 = some [I c.run, .slice 3 (c.stocks.map encStock) 0, .slice 3 (O.map encReam) 0, I c.gath, .slice 2 (c.seen.map encSeen) 0]) ?_ ?_
  · intro k hk
    simp -implicitDefEqProofs [e2, e5, hi]
    exact hk _ (by simp [e2, e3, e5, e6, e7, e8, e9, l7, l8, hS])
  clear e2 e3 e5 e6 e7 e8 e9 l7 l8
  rintro s ⟨e2, e3, e5, e6, e7, e8, e9, e10, l8, l7⟩
  have hP := part_case he h4 hi (m := (m : Int)) (by rw [hn]; omega)
  rw [hn, ← hS] at hP
  have hin := fun g hg => parted_in hP (g := g) hg
  have hOe : O = c.reams.take i ++ ⟨S, n, n⟩ :: c.reams.drop (i + 1) := by rw [hO, List.set_eq_take_append_cons_drop, if_pos hi, hS]
  have hca : encCase (oneC c ⟨c.reams.take i, c.reams.drop (i + 1), S, n, m⟩) = .agg [I c.run, .slice 3 (c.stocks.map encStock) 0, .slice 3 ((c.reams.take i).map encReam ++ .agg [I S, I n, I n] :: (c.reams.drop (i + 1)).map encReam) 0, I c.gath, .slice 2 (c.seen.map encSeen) 0] := by
    show AV.agg [I c.run, .slice 3 (c.stocks.map encStock) 0, .slice 3 ((c.reams.take i ++ ⟨S, n, n⟩ :: c.reams.drop (i + 1)).map encReam) 0, I c.gath, .slice 2 (c.seen.map encSeen) 0] = _
    rw [List.map_append, List.map_cons]
  have hcb : encCase (twoC c ⟨c.reams.take i, c.reams.drop (i + 1), S, n, m⟩) = .agg [I c.run, .slice 3 (c.stocks.map encStock) 0, .slice 3 ((c.reams.take i).map encReam ++ .agg [I S, I m, I m] :: .agg [I S, I ((n : Int) - m), I ((n : Int) - m)] :: (c.reams.drop (i + 1)).map encReam) 0, I c.gath, .slice 2 (c.seen.map encSeen) 0] := by
    show AV.agg [I c.run, .slice 3 (c.stocks.map encStock) 0, .slice 3 ((c.reams.take i ++ ⟨S, m, m⟩ :: ⟨S, (n : Int) - m, (n : Int) - m⟩ :: c.reams.drop (i + 1)).map encReam) 0, I c.gath, .slice 2 (c.seen.map encSeen) 0] = _
    rw [List.map_append, List.map_cons, List.map_cons]
  rw [hOe, List.map_append, List.map_cons] at l7
  have l7 : s.loc b7 = some [I c.run, .slice 3 (c.stocks.map encStock) 0, .slice 3 ((c.reams.take i).map encReam ++ .agg [I S, I n, I n] :: (c.reams.drop (i + 1)).map encReam) 0, I c.gath, .slice 2 (c.seen.map encSeen) 0] := l7
  clear hP hOe hO
  generalize oneC c ⟨c.reams.take i, c.reams.drop (i + 1), S, n, m⟩ = one at *
  generalize twoC c ⟨c.reams.take i, c.reams.drop (i + 1), S, n, m⟩ = two at *
  have hAl : ((c.reams.take i).map encReam).length = i := by rw [List.length_map, List.length_take]; omega
  have hBl : ((c.reams.drop (i + 1)).map encReam).length = c.reams.length - (i + 1) := by rw [List.length_map, List.length_drop]
  generalize (c.reams.take i).map encReam = A at *
  generalize (c.reams.drop (i + 1)).map encReam = B at *
  have htA : (A ++ AV.agg [I S, I n, I n] :: B).take i = A := List.take_left' hAl
  have hdB : (A ++ AV.agg [I S, I n, I n] :: B).drop (i + 1) = B := by
    rw [← List.drop_drop, List.drop_left' hAl]
    rfl
  have sp1 := span47_ok m m
  have sp2 := span47_ok ((n : Int) - m) ((n : Int) - m)
  obtain ⟨Q, hQ⟩ : ∃ Q, Q = A ++ AV.agg [I S, I n, I n] :: B := ⟨_, rfl⟩
  have hQl : Q.length = i + (B.length + 1) := by rw [hQ, List.length_append, List.length_cons, hAl]
  rw [← hQ] at htA hdB l7 hca
  refine cutS (fun s => s.env 2 = caseRef c ∧ s.env 3 = .ref [U x, U y, U z] ∧ s.env 7 = .mref b7 0 ∧ s.env 8 = .mref b8 0 ∧
      s.loc b8 = some [I c.run, .slice 3 (c.stocks.map encStock) 0, .slice 3 (A ++ .agg [I S, I m, I m] :: .agg [I S, I ((n : Int) - m), I ((n : Int) - m)] :: B) 9002, I c.gath, .slice 2 (c.seen.map encSeen) 0] ∧
      s.loc b7 = some [I c.run, .slice 3 (c.stocks.map encStock) 0, .slice 3 Q 0, I c.gath, .slice 2 (c.seen.map encSeen) 0]) ?_ ?_
  · intro k hk
    simp -implicitDefEqProofs [e5, e6, e7, e8, e9, e10, l7, htA, hdB]
    refine ⟨by omega, i64 (by omega) (by omega), i64 (by omega) (by omega), by omega, by omega, by omega, by omega, vCall_of sp1 ?_⟩
    simp -implicitDefEqProofs
    refine vCall_of sp2 ?_
    simp -implicitDefEqProofs [e8, l8]
    refine ⟨by omega, by omega, by omega, by omega, ?_⟩
    exact hk _ (by simp [e2, e3, e7, e8, n78, n87, l7])
  clear e2 e3 e5 e6 e7 e8 e9 e10 l7 l8
  rintro s ⟨e2, e3, e7, e8, l8, l7⟩
  have hg := hok.gath
  obtain ⟨G, hG⟩ : ∃ G : Nat, c.gath = G := ⟨c.gath.toNat, by omega⟩
  have hG0 : ¬ G = 0 := by omega
  have tz := tmod_nat z G
  have vz : (z : Int) % (G : Int) = ((z % G : Nat) : Int) := rfl
  have hgl := Nat.mod_lt z (show 0 < G by omega)
  generalize z % G = g at *
  have hP := hin g (by omega)
  have o1 := orders17_ok one
  have o2 := orders17_ok two
  have s1 := stocks23_ok one g
  have s2 := stocks23_ok two g
  have y1 := year28_ok one
  have y2 := year28_ok two
  have l1 := left26_ok one
  have l2 := left26_ok two
  rw [← hP.ords] at o2
  rw [← hP.stocks] at s2
  rw [← hP.year] at y2
  have hla := hP.left
  have hlr := hP.reams
  clear hP hin
  have sm := same_ok (ordersS one).1 (ordersS one).1
  rw [decide_eq_true rfl] at sm
  have i1 := ints_ok (stocksS one g).1 (stocksS one g).1
  have i2 := ints_ok (stocksS one g).2.1 (stocksS one g).2.1
  rw [decide_eq_true rfl] at i1 i2
  rw [hca] at o1 s1 y1 l1
  rw [hcb] at o2 s2 y2 l2
  clear hca hcb
  generalize ordersS one = O at *
  generalize stocksS one g = T at *
  generalize yearS one = Y at *
  generalize leftS one = L at *
  generalize leftS two = L' at *
  have hla1 := hla.1
  have hla2 := hla.2.1
  have hla3 := hla.2.2
  clear hla
  obtain ⟨La, Lb, Lx, Ly, Le⟩ := L'
  simp only at hla1 hla2 hla3 hlr
  subst hla1
  subst hla2
  subst hla3
  refine cutS (fun s => s.env 7 = .mref b7 0 ∧ s.env 8 = .mref b8 0 ∧ s.env 11 = I g ∧ s.loc b8 = some [I c.run, .slice 3 (c.stocks.map encStock) 0, .slice 3 (A ++ .agg [I S, I m, I m] :: .agg [I S, I ((n : Int) - m), I ((n : Int) - m)] :: B) 9002, I c.gath, .slice 2 (c.seen.map encSeen) 0] ∧ s.loc b7 = some [I c.run, .slice 3 (c.stocks.map encStock) 0, .slice 3 Q 0, I c.gath, .slice 2 (c.seen.map encSeen) 0]) ?_ ?_
  · intro k hk
    simp -implicitDefEqProofs [e2, e3, wz, hG, tz, vz, hG0]
    exact hk _ (by simp [e7, e8, l8, l7, hG])
  clear e2 e3 e7 e8 l8 l7
  rintro s ⟨e7, e8, e11, l8, l7⟩
  refine cutS (fun s => s.env 7 = .mref b7 0 ∧ s.env 8 = .mref b8 0 ∧ s.env 11 = I g ∧ s.env 12 = ILL O.1 ∧ s.env 13 = I O.2 ∧ s.loc b8 = some [I c.run, .slice 3 (c.stocks.map encStock) 0, .slice 3 (A ++ .agg [I S, I m, I m] :: .agg [I S, I ((n : Int) - m), I ((n : Int) - m)] :: B) 9002, I c.gath, .slice 2 (c.seen.map encSeen) 0] ∧ s.loc b7 = some [I c.run, .slice 3 (c.stocks.map encStock) 0, .slice 3 Q 0, I c.gath, .slice 2 (c.seen.map encSeen) 0]) ?_ ?_
  · intro k hk
    simp -implicitDefEqProofs [e7, l7]
    refine vCall_of o1 ?_
    simp -implicitDefEqProofs
    exact hk _ (by simp [e7, e8, e11, l8, l7])
  clear e7 e8 e11 l8 l7
  rintro s ⟨e7, e8, e11, e12, e13, l8, l7⟩
  refine cutS (fun s => s.env 7 = .mref b7 0 ∧ s.env 8 = .mref b8 0 ∧ s.env 11 = I g ∧ s.env 12 = ILL O.1 ∧ s.env 13 = I O.2 ∧ s.env 14 = ILL O.1 ∧ s.env 15 = I O.2 ∧ s.loc b8 = some [I c.run, .slice 3 (c.stocks.map encStock) 0, .slice 3 (A ++ .agg [I S, I m, I m] :: .agg [I S, I ((n : Int) - m), I ((n : Int) - m)] :: B) 9002, I c.gath, .slice 2 (c.seen.map encSeen) 0] ∧ s.loc b7 = some [I c.run, .slice 3 (c.stocks.map encStock) 0, .slice 3 Q 0, I c.gath, .slice 2 (c.seen.map encSeen) 0]) ?_ ?_
  · intro k hk
    simp -implicitDefEqProofs [e8, l8]
    refine vCall_of o2 ?_
    simp -implicitDefEqProofs
    exact hk _ (by simp [e7, e8, e11, e12, e13, l8, l7])
  clear e7 e8 e11 e12 e13 l8 l7
  rintro s ⟨e7, e8, e11, e12, e13, e14, e15, l8, l7⟩
  refine cutS (fun s => s.env 7 = .mref b7 0 ∧ s.env 8 = .mref b8 0 ∧ s.env 11 = I g ∧ s.env 12 = ILL O.1 ∧ s.env 13 = I O.2 ∧ s.env 14 = ILL O.1 ∧ s.env 15 = I O.2 ∧ s.env 16 = IL T.1 ∧ s.env 17 = IL T.2.1 ∧ s.env 18 = I T.2.2 ∧ s.loc b8 = some [I c.run, .slice 3 (c.stocks.map encStock) 0, .slice 3 (A ++ .agg [I S, I m, I m] :: .agg [I S, I ((n : Int) - m), I ((n : Int) - m)] :: B) 9002, I c.gath, .slice 2 (c.seen.map encSeen) 0] ∧ s.loc b7 = some [I c.run, .slice 3 (c.stocks.map encStock) 0, .slice 3 Q 0, I c.gath, .slice 2 (c.seen.map encSeen) 0]) ?_ ?_
  · intro k hk
    simp -implicitDefEqProofs [e7, e11, l7]
    refine vCall_of s1 ?_
    simp -implicitDefEqProofs
    exact hk _ (by simp [e7, e8, e11, e12, e13, e14, e15, l8, l7])
  clear e7 e8 e11 e12 e13 e14 e15 l8 l7
  rintro s ⟨e7, e8, e11, e12, e13, e14, e15, e16, e17, e18, l8, l7⟩
  refine cutS (fun s => s.env 7 = .mref b7 0 ∧ s.env 8 = .mref b8 0 ∧ s.env 12 = ILL O.1 ∧ s.env 13 = I O.2 ∧ s.env 14 = ILL O.1 ∧ s.env 15 = I O.2 ∧ s.env 16 = IL T.1 ∧ s.env 17 = IL T.2.1 ∧ s.env 18 = I T.2.2 ∧ s.env 19 = IL T.1 ∧ s.env 20 = IL T.2.1 ∧ s.env 21 = I T.2.2 ∧ s.loc b8 = some [I c.run, .slice 3 (c.stocks.map encStock) 0, .slice 3 (A ++ .agg [I S, I m, I m] :: .agg [I S, I ((n : Int) - m), I ((n : Int) - m)] :: B) 9002, I c.gath, .slice 2 (c.seen.map encSeen) 0] ∧ s.loc b7 = some [I c.run, .slice 3 (c.stocks.map encStock) 0, .slice 3 Q 0, I c.gath, .slice 2 (c.seen.map encSeen) 0]) ?_ ?_
  · intro k hk
    simp -implicitDefEqProofs [e8, e11, l8]
    refine vCall_of s2 ?_
    simp -implicitDefEqProofs
    exact hk _ (by simp [e7, e8, e12, e13, e14, e15, e16, e17, e18, l8, l7])
  clear e7 e8 e11 e12 e13 e14 e15 e16 e17 e18 l8 l7
  rintro s ⟨e7, e8, e12, e13, e14, e15, e16, e17, e18, e19, e20, e21, l8, l7⟩
  refine cutS (fun s => s.env 7 = .mref b7 0 ∧ s.env 8 = .mref b8 0 ∧ s.env 12 = ILL O.1 ∧ s.env 13 = I O.2 ∧ s.env 14 = ILL O.1 ∧ s.env 15 = I O.2 ∧ s.env 16 = IL T.1 ∧ s.env 17 = IL T.2.1 ∧ s.env 18 = I T.2.2 ∧ s.env 19 = IL T.1 ∧ s.env 20 = IL T.2.1 ∧ s.env 21 = I T.2.2 ∧ s.env 22 = .ref [I Y.a, I Y.b] ∧ s.env 23 = I Y.e ∧ s.loc b8 = some [I c.run, .slice 3 (c.stocks.map encStock) 0, .slice 3 (A ++ .agg [I S, I m, I m] :: .agg [I S, I ((n : Int) - m), I ((n : Int) - m)] :: B) 9002, I c.gath, .slice 2 (c.seen.map encSeen) 0] ∧ s.loc b7 = some [I c.run, .slice 3 (c.stocks.map encStock) 0, .slice 3 Q 0, I c.gath, .slice 2 (c.seen.map encSeen) 0]) ?_ ?_
  · intro k hk
    simp -implicitDefEqProofs [e7, l7]
    refine vCall_of y1 ?_
    simp -implicitDefEqProofs
    intro b12 h12
    have n1 : ¬ b7 = b12 := by rintro rfl; rw [l7] at h12; cases h12
    have n2 : ¬ b8 = b12 := by rintro rfl; rw [l8] at h12; cases h12
    exact hk _ (by simp [e7, e8, e12, e13, e14, e15, e16, e17, e18, e19, e20, e21, l8, l7, n1, n2])
  clear e7 e8 e12 e13 e14 e15 e16 e17 e18 e19 e20 e21 l8 l7
  rintro s ⟨e7, e8, e12, e13, e14, e15, e16, e17, e18, e19, e20, e21, e22, e23, l8, l7⟩
  refine cutS (fun s => s.env 7 = .mref b7 0 ∧ s.env 8 = .mref b8 0 ∧ s.env 12 = ILL O.1 ∧ s.env 13 = I O.2 ∧ s.env 14 = ILL O.1 ∧ s.env 15 = I O.2 ∧ s.env 16 = IL T.1 ∧ s.env 17 = IL T.2.1 ∧ s.env 18 = I T.2.2 ∧ s.env 19 = IL T.1 ∧ s.env 20 = IL T.2.1 ∧ s.env 21 = I T.2.2 ∧ s.env 22 = .ref [I Y.a, I Y.b] ∧ s.env 23 = I Y.e ∧ s.env 24 = .ref [I Y.a, I Y.b] ∧ s.env 25 = I Y.e ∧ s.loc b8 = some [I c.run, .slice 3 (c.stocks.map encStock) 0, .slice 3 (A ++ .agg [I S, I m, I m] :: .agg [I S, I ((n : Int) - m), I ((n : Int) - m)] :: B) 9002, I c.gath, .slice 2 (c.seen.map encSeen) 0] ∧ s.loc b7 = some [I c.run, .slice 3 (c.stocks.map encStock) 0, .slice 3 Q 0, I c.gath, .slice 2 (c.seen.map encSeen) 0]) ?_ ?_
  · intro k hk
    simp -implicitDefEqProofs [e8, l8]
    refine vCall_of y2 ?_
    simp -implicitDefEqProofs
    intro b12 h12
    have n1 : ¬ b7 = b12 := by rintro rfl; rw [l7] at h12; cases h12
    have n2 : ¬ b8 = b12 := by rintro rfl; rw [l8] at h12; cases h12
    exact hk _ (by simp [e7, e8, e12, e13, e14, e15, e16, e17, e18, e19, e20, e21, e22, e23, l8, l7, n1, n2])
  clear e7 e8 e12 e13 e14 e15 e16 e17 e18 e19 e20 e21 e22 e23 l8 l7
  rintro s ⟨e7, e8, e12, e13, e14, e15, e16, e17, e18, e19, e20, e21, e22, e23, e24, e25, l8, l7⟩
  refine cutS (fun s => s.env 7 = .mref b7 0 ∧ s.env 8 = .mref b8 0 ∧ s.loc b8 = some [I c.run, .slice 3 (c.stocks.map encStock) 0, .slice 3 (A ++ .agg [I S, I m, I m] :: .agg [I S, I ((n : Int) - m), I ((n : Int) - m)] :: B) 9002, I c.gath, .slice 2 (c.seen.map encSeen) 0] ∧ s.loc b7 = some [I c.run, .slice 3 (c.stocks.map encStock) 0, .slice 3 Q 0, I c.gath, .slice 2 (c.seen.map encSeen) 0]) ?_ ?_
  · intro k hk
    simp -implicitDefEqProofs [e12, e14]
    refine vCall_of sm ?_
    simp -implicitDefEqProofs [e13, e15, e16, e19]
    refine vCall_of i1 ?_
    simp -implicitDefEqProofs [e17, e20]
    refine vCall_of i2 ?_
    simp -implicitDefEqProofs [e18, e21, e22, e23, e24, e25]
    exact hk _ (by simp [e7, e8, l8, l7])
  clear e7 e8 e12 e13 e14 e15 e16 e17 e18 e19 e20 e21 e22 e23 e24 e25 l8 l7
  rintro s ⟨e7, e8, l8, l7⟩
  refine cutS (fun s => s.env 7 = .mref b7 0 ∧ s.env 8 = .mref b8 0 ∧ s.env 26 = .ref [I L.a, I L.b] ∧ s.env 27 = .ref [I L.x, I L.y] ∧ s.env 28 = I L.e ∧ s.loc b8 = some [I c.run, .slice 3 (c.stocks.map encStock) 0, .slice 3 (A ++ .agg [I S, I m, I m] :: .agg [I S, I ((n : Int) - m), I ((n : Int) - m)] :: B) 9002, I c.gath, .slice 2 (c.seen.map encSeen) 0] ∧ s.loc b7 = some [I c.run, .slice 3 (c.stocks.map encStock) 0, .slice 3 Q 0, I c.gath, .slice 2 (c.seen.map encSeen) 0]) ?_ ?_
  · intro k hk
    simp -implicitDefEqProofs [e7, l7]
    refine vCall_of l1 ?_
    simp -implicitDefEqProofs
    intro b12 h12 b13 h13
    have n1 : ¬ b12 = b7 := by rintro rfl; rw [l7] at h12; cases h12
    have n4 : ¬ b12 = b8 := by rintro rfl; rw [l8] at h12; cases h12
    have n2 : ¬ b13 = b12 := by rintro rfl; simp at h13
    have n3 : ¬ b13 = b7 := by rintro rfl; simp [n2, l7] at h13
    have n5 : ¬ b13 = b8 := by rintro rfl; simp [n2, l8] at h13
    clear h13
    have n1' : ¬ b7 = b12 := fun e => n1 e.symm
    have n4' : ¬ b8 = b12 := fun e => n4 e.symm
    have n2' : ¬ b12 = b13 := fun e => n2 e.symm
    have n3' : ¬ b7 = b13 := fun e => n3 e.symm
    have n5' : ¬ b8 = b13 := fun e => n5 e.symm
    simp -implicitDefEqProofs [n2, n2']
    exact hk _ (by simp [e7, e8, l8, l7, n1', n3', n4', n5'])
  clear e7 e8 l8 l7
  rintro s ⟨e7, e8, e26, e27, e28, l8, l7⟩
  refine cutS (fun s => s.env 26 = .ref [I L.a, I L.b] ∧ s.env 27 = .ref [I L.x, I L.y] ∧ s.env 28 = I L.e ∧ s.env 29 = .ref [I L.a, I L.b] ∧ s.env 30 = .ref [I Lx, I Ly] ∧ s.env 31 = I L.e) ?_ ?_
  · intro k hk
    simp -implicitDefEqProofs [e8, l8]
    refine vCall_of l2 ?_
    simp -implicitDefEqProofs
    intro b12 h12 b13 h13
    have n1 : ¬ b12 = b7 := by rintro rfl; rw [l7] at h12; cases h12
    have n4 : ¬ b12 = b8 := by rintro rfl; rw [l8] at h12; cases h12
    have n2 : ¬ b13 = b12 := by rintro rfl; simp at h13
    have n3 : ¬ b13 = b7 := by rintro rfl; simp [n2, l7] at h13
    have n5 : ¬ b13 = b8 := by rintro rfl; simp [n2, l8] at h13
    clear h13
    have n1' : ¬ b7 = b12 := fun e => n1 e.symm
    have n4' : ¬ b8 = b12 := fun e => n4 e.symm
    have n2' : ¬ b12 = b13 := fun e => n2 e.symm
    have n3' : ¬ b7 = b13 := fun e => n3 e.symm
    have n5' : ¬ b8 = b13 := fun e => n5 e.symm
    simp -implicitDefEqProofs [n2, n2']
    exact hk _ (by simp [e26, e27, e28, n1', n3', n4', n5'])
  clear e7 e8 e26 e27 e28 l8 l7
  rintro s ⟨e26, e27, e28, e29, e30, e31⟩
  simp -implicitDefEqProofs [e26, e27, e28, e29, e30, e31, hlr.1, hlr.2]
  refine vCall_of aw ?_
  simp -implicitDefEqProofs [r14]
theorem paperParted_ok (c : Case) (xs : List Int) (_ : c.seen.length * 16 ≤ 140737488351232) (ox : xs.length = 3 ∧ ∀ x ∈ xs, 0 ≤ x ∧ x ≤ 65535) : PCall Try.prog 14 [encCase c, .agg (xs.flatMap fun y => (U y).cells)] (B true) :=
  match xs, ox with
  | [a, b, d], ⟨_, h⟩ => by
    have h1 := h a (by simp)
    have h2 := h b (by simp)
    have h3 := h d (by simp)
    have := paperParted_at c (x := a.toNat) (y := b.toNat) (z := d.toNat) (by omega) (by omega) (by omega)
    rwa [Int.toNat_of_nonneg h1.1, Int.toNat_of_nonneg h2.1, Int.toNat_of_nonneg h3.1] at this
end Go.Proofs.Ytbcfmfiolbcclaa

