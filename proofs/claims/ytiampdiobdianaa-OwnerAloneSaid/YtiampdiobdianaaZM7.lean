/- The resolved code of some functions, written by program, each held against the function by the kernel. The law OwnerAlone: its contract. -/
import Derived.Test.YtiampdiobdianaaZD
import Derived.KernelRfl
import Derived.Test.YtiampdiobdianaaZL
namespace Go.Proofs.Ytiampdiobdianaa
open Go.Avm

/- duodecimo/duodecimolaw08.OwnerAlone -/
def ann7 : Ann := { muts := [], nilsz := [], oid := [], frz := [8, 12], zero := [(8, [(.lit (.string ⟨#[]⟩)), (.lit (.int .i64 0)), (.lit (.int .i64 0))]), (12, [(.lit (.int .i64 0)), (.lit (.int .i64 0)), (.lit (.int .i64 0))])], ord := [(10, [0, 1, 2, 3, 4, 5, 6, 7, 8, 9, 10, 11, 12, 13, 14, 15, 16, 17, 18, 19, 20, 21, 22, 23, 24, 25, 26, 27]), (12, [0, 1, 2, 3, 4, 5, 6, 7, 8, 9, 10]), (13, [0, 1, 2, 3, 4, 5, 6, 7, 8, 9, 10, 11, 12, 13, 14, 15, 16, 17, 18, 19, 20, 21, 22, 23, 24, 25, 26, 27, 28, 29, 30, 31, 32, 33, 34, 35, 36, 37, 38, 39, 40, 41, 42, 43, 44, 45, 46, 47, 48, 49]), (20, [0, 1, 2, 3, 4, 5, 6, 7, 8, 9, 10, 11, 12, 13, 14, 15, 16, 17, 18, 19, 20, 21, 22, 23, 24, 25, 26, 27, 28, 29, 30, 31]), (26, [0, 1, 2, 3, 4, 5, 6, 7, 8, 9, 10, 11, 12, 13, 14, 15, 16, 17, 18, 19, 20, 21, 22, 23, 24, 25, 26, 27, 28, 29, 30, 31, 32, 33, 34, 35, 36, 37, 38, 39, 40, 41, 42, 43, 44, 45, 46, 47]), (28, [0, 1, 2, 3, 4, 5, 6, 7, 8])], ap := [], own := [14], yl := [], fz := [], imm := [], ic := [], cl := [], ylL := [], rl := [] }
def m7 : MCode := (.seq (.reg [.boxI 1 (.t 0) 5, .asg 2 (.c (.lit (.bool false)))])
 (.seq (.reg [.load 16 (.t 1) (some 5), .call 17 18 [(.t 16)], .cpy 15 (.t 17), .ext 18 (.t 15) 0, .ext 19 (.t 15) 1, .ext 20 (.t 15) 2, .asg 3 (.t 18), .asg 4 (.t 19), .asg 5 (.t 20)])
 (.seq (.seq (.reg [.load 21 (.t 1) (some 5), .call 22 37 [(.t 21)], .not 23 (.t 22)])
 (.cond (.t 23) (.seq (.reg [.cpy 24 (.t 5), .bin 25 .neq (.t 24) (.c (.lit (.int .i64 0))), .cpy 26 (.t 25), .guard 26 true (some 27) (.cpy 27 (.t 3)), .guard 26 true (some 28) (.len 28 (.t 27)), .guard 26 true (some 29) (.bin 29 .eql (.t 28) (.c (.lit (.int .i64 0)))), .pick 30 (.t 26) (.t 29) (.c (.lit (.bool false))), .cpy 31 (.t 30), .guard 31 true (some 32) (.cpy 32 (.t 4)), .guard 31 true (some 33) (.bin 33 .eql (.t 32) (.c (.lit (.int .i64 0)))), .pick 34 (.t 31) (.t 33) (.c (.lit (.bool false))), .cpy 35 (.t 34), .guard 35 true (some 36) (.call 36 23 []), .pick 37 (.t 35) (.t 36) (.c (.lit (.bool false))), .asg 2 (.t 37)])
 .ret) .skip))
 (.seq (.seq (.reg [.cpy 38 (.t 5), .bin 39 .neq (.t 38) (.c (.lit (.int .i64 0)))])
 (.cond (.t 39) (.seq (.reg [.cpy 40 (.t 5), .bin 41 .eql (.t 40) (.c (.lit (.int .i64 8))), .cpy 42 (.t 41), .guard 42 true (some 43) (.cpy 43 (.t 3)), .guard 42 true (some 44) (.len 44 (.t 43)), .guard 42 true (some 45) (.bin 45 .eql (.t 44) (.c (.lit (.int .i64 0)))), .pick 46 (.t 42) (.t 45) (.c (.lit (.bool false))), .cpy 47 (.t 46), .guard 47 true (some 48) (.cpy 48 (.t 4)), .guard 47 true (some 49) (.bin 49 .eql (.t 48) (.c (.lit (.int .i64 0)))), .pick 50 (.t 47) (.t 49) (.c (.lit (.bool false))), .cpy 51 (.t 50), .guard 51 true (some 52) (.call 52 23 []), .pick 53 (.t 51) (.t 52) (.c (.lit (.bool false))), .asg 2 (.t 53)])
 .ret) .skip))
 (.seq (.reg [.addr 54 (.t 1) 0, .load 55 (.t 54) none, .asg 6 (.t 55)])
 (.seq (.seq (.reg [.asg 7 (.c (.lit (.int .i64 0)))])
 (.block 0 (.loop (.seq (.seq (.reg [.cpy 56 (.t 7), .cpy 57 (.t 3), .len 58 (.t 57), .bin 59 .lss (.t 56) (.t 58)])
 (.cond (.t 59) .skip (.exit 0)))
 (.seq (.block 1 (.seq (.seq (.reg [.cpy 62 (.t 3), .cpy 63 (.t 7), .idxS 64 (.t 62) (.t 63) 3, .addr 65 (.t 64) 0, .load 66 (.t 65) none, .bin 67 .lss (.t 66) (.c (.lit (.int .i64 0))), .cpy 68 (.t 67), .guard 68 false (some 69) (.cpy 69 (.t 3)), .guard 68 false (some 70) (.cpy 70 (.t 7)), .guard 68 false (some 71) (.idxS 71 (.t 69) (.t 70) 3), .guard 68 false (some 72) (.addr 72 (.t 71) 0), .guard 68 false (some 73) (.load 73 (.t 72) none), .guard 68 false (some 74) (.addr 74 (.t 1) 2), .guard 68 false (some 75) (.load 75 (.t 74) none), .guard 68 false (some 76) (.len 76 (.t 75)), .guard 68 false (some 77) (.bin 77 .geq (.t 73) (.t 76)), .pick 78 (.t 68) (.c (.lit (.bool true))) (.t 77), .cpy 79 (.t 78), .guard 79 false (some 80) (.cpy 80 (.t 3)), .guard 79 false (some 81) (.cpy 81 (.t 3)), .guard 79 false (some 82) (.cpy 82 (.t 7)), .guard 79 false (some 83) (.idxS 83 (.t 81) (.t 82) 3), .guard 79 false (some 84) (.addr 84 (.t 83) 0), .guard 79 false (some 85) (.load 85 (.t 84) none), .guard 79 false (some 86) (.call 86 38 [(.t 80), (.t 85)]), .guard 79 false (some 87) (.cpy 87 (.t 7)), .guard 79 false (some 88) (.bin 88 .neq (.t 86) (.t 87)), .pick 89 (.t 79) (.c (.lit (.bool true))) (.t 88)])
 (.cond (.t 89) (.seq (.reg [.asg 2 (.c (.lit (.bool false)))])
 .ret) .skip))
 (.seq (.reg [.addr 90 (.t 1) 2, .load 91 (.t 90) none, .cpy 92 (.t 3), .cpy 93 (.t 7), .idxS 94 (.t 92) (.t 93) 3, .addr 95 (.t 94) 0, .load 96 (.t 95) none, .idxS 97 (.t 91) (.t 96) 3, .load 98 (.t 97) (some 3), .alloc 8 [(.lit (.string ⟨#[]⟩)), (.lit (.int .i64 0)), (.lit (.int .i64 0))], .storeF 8 (.t 98) 3])
 (.seq (.seq (.reg [.cpy 99 (.t 3), .cpy 100 (.t 7), .idxS 101 (.t 99) (.t 100) 3, .addr 102 (.t 101) 1, .load 103 (.t 102) none, .cpy 104 (.t 6), .bin 105 .lss (.t 103) (.t 104), .cpy 106 (.t 105), .guard 106 false (some 107) (.cpy 107 (.t 3)), .guard 106 false (some 108) (.cpy 108 (.t 7)), .guard 106 false (some 109) (.idxS 109 (.t 107) (.t 108) 3), .guard 106 false (some 110) (.addr 110 (.t 109) 1), .guard 106 false (some 111) (.load 111 (.t 110) none), .guard 106 false (some 112) (.addr 112 (.t 8) 1), .guard 106 false (some 113) (.load 113 (.t 112) none), .guard 106 false (some 114) (.bin 114 .lss (.t 111) (.t 113)), .pick 115 (.t 106) (.c (.lit (.bool true))) (.t 114), .cpy 116 (.t 115), .guard 116 false (some 117) (.cpy 117 (.t 3)), .guard 116 false (some 118) (.cpy 118 (.t 7)), .guard 116 false (some 119) (.idxS 119 (.t 117) (.t 118) 3), .guard 116 false (some 120) (.addr 120 (.t 119) 2), .guard 116 false (some 121) (.load 121 (.t 120) none), .guard 116 false (some 122) (.cpy 122 (.t 3)), .guard 116 false (some 123) (.cpy 123 (.t 7)), .guard 116 false (some 124) (.idxS 124 (.t 122) (.t 123) 3), .guard 116 false (some 125) (.addr 125 (.t 124) 1), .guard 116 false (some 126) (.load 126 (.t 125) none), .guard 116 false (some 127) (.bin 127 .lss (.t 121) (.t 126)), .pick 128 (.t 116) (.c (.lit (.bool true))) (.t 127), .cpy 129 (.t 128), .guard 129 false (some 130) (.cpy 130 (.t 3)), .guard 129 false (some 131) (.cpy 131 (.t 7)), .guard 129 false (some 132) (.idxS 132 (.t 130) (.t 131) 3), .guard 129 false (some 133) (.addr 133 (.t 132) 2), .guard 129 false (some 134) (.load 134 (.t 133) none), .guard 129 false (some 135) (.addr 135 (.t 8) 2), .guard 129 false (some 136) (.load 136 (.t 135) none), .guard 129 false (some 137) (.bin 137 .gtr (.t 134) (.t 136)), .pick 138 (.t 129) (.c (.lit (.bool true))) (.t 137), .cpy 139 (.t 138), .guard 139 false (some 140) (.cpy 140 (.t 3)), .guard 139 false (some 141) (.cpy 141 (.t 7)), .guard 139 false (some 142) (.idxS 142 (.t 140) (.t 141) 3), .guard 139 false (some 143) (.addr 143 (.t 142) 2), .guard 139 false (some 144) (.load 144 (.t 143) none), .guard 139 false (some 145) (.addr 145 (.t 1) 1), .guard 139 false (some 146) (.load 146 (.t 145) none), .guard 139 false (some 147) (.bin 147 .gtr (.t 144) (.t 146)), .pick 148 (.t 139) (.c (.lit (.bool true))) (.t 147)])
 (.cond (.t 148) (.seq (.reg [.asg 2 (.c (.lit (.bool false)))])
 .ret) .skip))
 (.reg [.cpy 149 (.t 3), .cpy 150 (.t 7), .idxS 151 (.t 149) (.t 150) 3, .addr 152 (.t 151) 2, .load 153 (.t 152) none, .asg 6 (.t 153)])))))
 (.reg [.cpy 60 (.t 7), .bin 61 .add (.t 60) (.c (.lit (.int .i64 1))), .asg 7 (.t 61)]))))))
 (.seq (.seq (.reg [.asg 9 (.c (.lit (.int .i64 0)))])
 (.block 2 (.loop (.seq (.seq (.reg [.cpy 154 (.t 9), .addr 155 (.t 1) 3, .load 156 (.t 155) none, .len 157 (.t 156), .bin 158 .lss (.t 154) (.t 157)])
 (.cond (.t 158) .skip (.exit 2)))
 (.seq (.block 3 (.seq (.reg [.cpy 161 (.t 3), .addr 162 (.t 1) 3, .load 163 (.t 162) none, .cpy 164 (.t 9), .idxS 165 (.t 163) (.t 164) 4, .addr 166 (.t 165) 0, .load 167 (.t 166) none, .call 168 38 [(.t 161), (.t 167)], .asg 10 (.t 168)])
 (.seq (.reg [.cpy 169 (.t 10), .bin 170 .lss (.t 169) (.c (.lit (.int .i64 0))), .cpy 171 (.t 170), .guard 171 false (some 172) (.cpy 172 (.t 3)), .guard 171 false (some 173) (.cpy 173 (.t 10)), .guard 171 false (some 174) (.idxS 174 (.t 172) (.t 173) 3), .guard 171 false (some 175) (.addr 175 (.t 174) 1), .guard 171 false (some 176) (.load 176 (.t 175) none), .guard 171 false (some 177) (.addr 177 (.t 1) 3), .guard 171 false (some 178) (.load 178 (.t 177) none), .guard 171 false (some 179) (.cpy 179 (.t 9)), .guard 171 false (some 180) (.idxS 180 (.t 178) (.t 179) 4), .guard 171 false (some 181) (.addr 181 (.t 180) 1), .guard 171 false (some 182) (.addr 182 (.t 181) 1), .guard 171 false (some 183) (.load 183 (.t 182) none), .guard 171 false (some 184) (.bin 184 .gtr (.t 176) (.t 183)), .pick 185 (.t 171) (.c (.lit (.bool true))) (.t 184), .cpy 186 (.t 185), .guard 186 false (some 187) (.cpy 187 (.t 3)), .guard 186 false (some 188) (.cpy 188 (.t 10)), .guard 186 false (some 189) (.idxS 189 (.t 187) (.t 188) 3), .guard 186 false (some 190) (.addr 190 (.t 189) 2), .guard 186 false (some 191) (.load 191 (.t 190) none), .guard 186 false (some 192) (.addr 192 (.t 1) 3), .guard 186 false (some 193) (.load 193 (.t 192) none), .guard 186 false (some 194) (.cpy 194 (.t 9)), .guard 186 false (some 195) (.idxS 195 (.t 193) (.t 194) 4), .guard 186 false (some 196) (.addr 196 (.t 195) 1), .guard 186 false (some 197) (.addr 197 (.t 196) 0), .guard 186 false (some 198) (.load 198 (.t 197) none), .guard 186 false (some 199) (.bin 199 .lss (.t 191) (.t 198)), .pick 200 (.t 186) (.c (.lit (.bool true))) (.t 199)])
 (.cond (.t 200) (.seq (.reg [.asg 2 (.c (.lit (.bool false)))])
 .ret) .skip))))
 (.reg [.cpy 159 (.t 9), .bin 160 .add (.t 159) (.c (.lit (.int .i64 1))), .asg 9 (.t 160)]))))))
 (.seq (.seq (.reg [.asg 11 (.c (.lit (.int .i64 0)))])
 (.block 4 (.loop (.seq (.seq (.reg [.cpy 201 (.t 11), .addr 202 (.t 1) 4, .load 203 (.t 202) none, .len 204 (.t 203), .bin 205 .lss (.t 201) (.t 204)])
 (.cond (.t 205) .skip (.exit 4)))
 (.seq (.block 5 (.seq (.reg [.addr 208 (.t 1) 4, .load 209 (.t 208) none, .cpy 210 (.t 11), .idxS 211 (.t 209) (.t 210) 3, .load 212 (.t 211) (some 3), .alloc 12 [(.lit (.int .i64 0)), (.lit (.int .i64 0)), (.lit (.int .i64 0))], .storeF 12 (.t 212) 3])
 (.seq (.reg [.addr 213 (.t 12) 2, .load 214 (.t 213) none, .bin 215 .neq (.t 214) (.c (.lit (.int .i64 (-1)))), .cpy 216 (.t 215), .guard 216 true (some 217) (.cpy 217 (.t 3)), .guard 216 true (some 218) (.addr 218 (.t 12) 2), .guard 216 true (some 219) (.load 219 (.t 218) none), .guard 216 true (some 220) (.call 220 38 [(.t 217), (.t 219)]), .guard 216 true (some 221) (.bin 221 .lss (.t 220) (.c (.lit (.int .i64 0)))), .guard 216 true (some 222) (.cpy 222 (.t 221)), .guard 222 false (some 223) (.cpy 223 (.t 3)), .guard 222 false (some 224) (.cpy 224 (.t 3)), .guard 222 false (some 225) (.addr 225 (.t 12) 2), .guard 222 false (some 226) (.load 226 (.t 225) none), .guard 222 false (some 227) (.call 227 38 [(.t 224), (.t 226)]), .guard 222 false (some 228) (.idxS 228 (.t 223) (.t 227) 3), .guard 222 false (some 229) (.addr 229 (.t 228) 1), .guard 222 false (some 230) (.load 230 (.t 229) none), .guard 222 false (some 231) (.addr 231 (.t 12) 0), .guard 222 false (some 232) (.load 232 (.t 231) none), .guard 222 false (some 233) (.bin 233 .neq (.t 230) (.t 232)), .guard 216 true (some 234) (.pick 234 (.t 222) (.c (.lit (.bool true))) (.t 233)), .pick 235 (.t 216) (.t 234) (.c (.lit (.bool false))), .cpy 236 (.t 235), .guard 236 false (some 237) (.addr 237 (.t 12) 1), .guard 236 false (some 238) (.load 238 (.t 237) none), .guard 236 false (some 239) (.bin 239 .neq (.t 238) (.c (.lit (.int .i64 (-1))))), .guard 236 false (some 240) (.cpy 240 (.t 239)), .guard 240 true (some 241) (.cpy 241 (.t 3)), .guard 240 true (some 242) (.addr 242 (.t 12) 1), .guard 240 true (some 243) (.load 243 (.t 242) none), .guard 240 true (some 244) (.call 244 38 [(.t 241), (.t 243)]), .guard 240 true (some 245) (.bin 245 .lss (.t 244) (.c (.lit (.int .i64 0)))), .guard 240 true (some 246) (.cpy 246 (.t 245)), .guard 246 false (some 247) (.cpy 247 (.t 3)), .guard 246 false (some 248) (.cpy 248 (.t 3)), .guard 246 false (some 249) (.addr 249 (.t 12) 1), .guard 246 false (some 250) (.load 250 (.t 249) none), .guard 246 false (some 251) (.call 251 38 [(.t 248), (.t 250)]), .guard 246 false (some 252) (.idxS 252 (.t 247) (.t 251) 3), .guard 246 false (some 253) (.addr 253 (.t 252) 2), .guard 246 false (some 254) (.load 254 (.t 253) none), .guard 246 false (some 255) (.addr 255 (.t 12) 0), .guard 246 false (some 256) (.load 256 (.t 255) none), .guard 246 false (some 257) (.bin 257 .neq (.t 254) (.t 256)), .guard 240 true (some 258) (.pick 258 (.t 246) (.c (.lit (.bool true))) (.t 257)), .guard 236 false (some 259) (.pick 259 (.t 240) (.t 258) (.c (.lit (.bool false)))), .pick 260 (.t 236) (.c (.lit (.bool true))) (.t 259)])
 (.cond (.t 260) (.seq (.reg [.asg 2 (.c (.lit (.bool false)))])
 .ret) .skip))))
 (.reg [.cpy 206 (.t 11), .bin 207 .add (.t 206) (.c (.lit (.int .i64 1))), .asg 11 (.t 207)]))))))
 (.seq (.reg [.load 262 (.t 1) (some 5), .cpy 263 (.t 3), .call 264 39 [(.t 263)], .call 265 21 [(.t 262), (.t 264)], .cpy 261 (.t 265), .ext 266 (.t 261) 0, .ext 267 (.t 261) 1, .cpyE 13 (.t 266), .asg 14 (.t 267)])
 (.seq (.reg [.cpy 268 (.t 14), .bin 269 .eql (.t 268) (.c (.lit (.int .i64 0))), .cpy 270 (.t 269), .guard 270 true (some 271) (.cpy 271 (.t 13)), .guard 270 true (some 272) (.cpy 272 (.t 4)), .guard 270 true (some 273) (.bin 273 .eql (.t 271) (.t 272)), .pick 274 (.t 270) (.t 273) (.c (.lit (.bool false))), .cpy 275 (.t 274), .guard 275 true (some 276) (.load 276 (.t 1) (some 5)), .guard 275 true (some 277) (.cpy 277 (.t 3)), .guard 275 true (some 278) (.call 278 40 [(.t 276), (.t 277)]), .guard 275 true (some 279) (.cpy 279 (.t 4)), .guard 275 true (some 280) (.bin 280 .eql (.t 278) (.t 279)), .pick 281 (.t 275) (.t 280) (.c (.lit (.bool false))), .cpy 282 (.t 281), .guard 282 true (some 283) (.call 283 23 []), .pick 284 (.t 282) (.t 283) (.c (.lit (.bool false))), .asg 2 (.t 284)])
 .ret))))))))))
def r7 : List MRes := [.tmp 2]
theorem tr7 : Try.f7.body.bind (trC Try.prog ann7 Try.f7.ntmps) = some m7 := by kernel_rfl
theorem rs7 : trRes Try.prog Try.f7.results.toList = some r7 := by kernel_rfl
theorem fn7 : isFunc Try.prog 7 = true := by kernel_rfl
end Go.Proofs.Ytiampdiobdianaa

namespace Go.Proofs.Ytiampdiobdianaa
open Go.Avm

theorem ownerAlone_ok (c : Case) (_ : CaseSz c) : PCall Try.prog 7 [encCase c] (B true) := by
  refine pcall Try.func7 tr7 rs7 fn7 (by simp [Try.ntmps7]) fun _ => ?_
  have c1 := chain18_ok c
  have c2 := valid37_ok c
  have aw := awake23_ok
  obtain ⟨C, hC⟩ : ∃ C, C = chainS c := ⟨_, rfl⟩
  rw [← hC] at c1
  unfold chainS at hC
  simp -implicitDefEqProofs only [m7]
  refine cutS (fun st => st.env 1 = caseRef c) ?_ ?_
  · intro k hk
    simp -implicitDefEqProofs
    exact hk _ (by simp)
  rintro s e1
  refine cutS (fun st => st.env 1 = caseRef c ∧ st.env 3 = HL C.l ∧ st.env 4 = I C.u ∧ st.env 5 = I C.e) ?_ ?_
  · intro k hk
    simp -implicitDefEqProofs [e1]
    refine vCall_of c1 ?_
    simp -implicitDefEqProofs
    exact hk _ (by simp [e1])
  rintro s ⟨e1, e3, e4, e5⟩
  by_cases he : errE c = 0
  case neg =>
    rw [if_pos he] at hC
    rw [decide_eq_false he] at c2
    subst hC
    generalize errE c = E at *
    have he2 : (E != 0) = true := by simp [he]
    simp -implicitDefEqProofs [e1]
    refine vCall_of c2 ?_
    simp -implicitDefEqProofs [e3, e4, e5, he2]
    refine vCall_of aw ?_
    simp -implicitDefEqProofs [r7]
  rw [if_neg (not_not_intro he)] at hC
  rw [decide_eq_true he] at c2
  have hok := Case.ok he
  have hn6 := hok.ownersLen
  have hm9 := hok.marksLen
  have hs4 := hok.salesLen
  refine cutS (fun st => st.env 1 = caseRef c ∧ st.env 3 = HL C.l ∧ st.env 4 = I C.u ∧ st.env 5 = I C.e) ?_ ?_
  · intro k hk
    simp -implicitDefEqProofs [e1]
    refine vCall_of c2 ?_
    simp -implicitDefEqProofs
    exact hk _ (by simp [e1, e3, e4, e5])
  rintro s ⟨e1, e3, e4, e5⟩
  cases hb : bestS c (chainsL c) with
  | none =>
    rw [hb] at hC
    have hC : C = ⟨[], 0, 8⟩ := hC
    subst hC
    simp -implicitDefEqProofs [e3, e4, e5]
    refine vCall_of aw ?_
    simp -implicitDefEqProofs [r7]
  | some l =>
  rw [hb] at hC
  have hC : C = ⟨cutL l, unknownS c l, 0⟩ := hC
  obtain ⟨k, hk, -, ho, hs, hH, -⟩ := best_chain hok hb
  generalize (chainsL c)[k] = pk at *
  generalize hoo : pk.1 = o at *
  have hw : whyS c o = ⟨unknownS c l, 0⟩ := by
    unfold whyS
    have hE : orderE c o = 0 := by
      unfold orderE
      rw [out_none (fun x hx => by have := ho.rng x hx; omega), if_neg (by simp), if_pos ho.nd]
    rw [if_neg (not_not_intro he), hE, if_neg (by simp), hs]
  have hww := why21_ok c o
  rw [hw] at hww
  have hun := unknown40_ok c (cutL l) (by
    have h1 := congrArg List.length hH.who
    rw [List.length_map] at h1
    have := nodup_len _ _ ho.nd ho.rng
    omega)
  rw [unknown_cut] at hun
  have hor := order39_ok (cutL l) (by
    have h1 := congrArg List.length hH.who
    rw [List.length_map] at h1
    have := nodup_len _ _ ho.nd ho.rng
    omega)
  rw [hH.who] at hor
  have hll : (cutL l).length ≤ 6 := by
    have h1 := congrArg List.length hH.who
    rw [List.length_map] at h1
    have := nodup_len _ _ ho.nd ho.rng
    omega
  subst hC
  generalize unknownS c l = u at *
  generalize cutL l = L at *
  refine cutS (fun st => st.env 1 = caseRef c ∧ st.env 3 = HL L ∧ st.env 4 = I u) ?_ ?_
  · intro k hk
    simp -implicitDefEqProofs [e5]
    exact hk _ (by simp [e1, e3, e4])
  rintro s ⟨e1, e3, e4⟩
  refine cutS (fun st => st.env 1 = caseRef c ∧ st.env 3 = HL L ∧ st.env 4 = I u ∧ st.env 6 = I c.printed) ?_ ?_
  · intro k hk
    simp -implicitDefEqProofs [e1]
    exact hk _ (by simp [e1, e3, e4])
  rintro s ⟨e1, e3, e4, e6⟩
  refine cutS (fun st => st.env 1 = caseRef c ∧ st.env 3 = HL L ∧ st.env 4 = I u) ?_ ?_
  · intro k0 hk0
    simp -implicitDefEqProofs
    refine loop_up L.length (fun i st => st.env 1 = caseRef c ∧ st.env 3 = HL L ∧ st.env 4 = I u ∧ st.env 7 = I i ∧ ∃ b, st.env 6 = I b ∧ (∀ h : i < L.length, b ≤ L[i].src)) ?_ ?_
    · exact ⟨by simp [e1], by simp [e3], by simp [e4], by simp, c.printed, by simp [e6], hH.first⟩
    rintro i s hi ⟨e1, e3, e4, e7, b, e6, hb⟩
    simp -implicitDefEqProofs [e3, e7]
    refine cond_dec (fun hlt => ?_) (fun hge => ?_)
    · have hlt : i < L.length := by omega
      have hb := hb hlt
      obtain ⟨g1, g2, g3⟩ := hH.rng i hlt
      obtain ⟨l1, l2, l3, l4⟩ := hH.life i hlt
      have hpl := place38_ok L L[i].who
      rw [g3] at hpl
      obtain ⟨w, hw⟩ : ∃ w : Nat, L[i].who = w := ⟨L[i].who.toNat, by omega⟩
      have hwl : w < c.owners.length := by omega
      unfold owerAt at l1 l3
      rw [hw, Int.toNat_natCast, ower_at hwl] at l1 l3
      rw [hw] at g1 g2 hpl
      generalize hp : L[i] = p at *
      have hps : p.src = p.src := rfl
      have n1 : ¬ (w : Int) < 0 := by omega
      have n2 : ¬ (c.owners.length : Int) ≤ w := by omega
      refine stepB ?_
      refine cutS (fun st => st.env 1 = caseRef c ∧ st.env 3 = HL L ∧ st.env 4 = I u ∧ st.env 7 = I i ∧ st.env 6 = I b) ?_ ?_
      · intro k1 hk1
        simp -implicitDefEqProofs [e1, e3, e7, hlt, hp, hw, n1, n2]
        refine vCall_of hpl ?_
        simp -implicitDefEqProofs [e7]
        exact hk1 _ (by simp [e1, e3, e4, e7, e6])
      rintro s ⟨e1, e3, e4, e7, e6⟩
      generalize hww2 : c.owners[w] = W at *
      refine cutS (fun st => st.env 1 = caseRef c ∧ st.env 3 = HL L ∧ st.env 4 = I u ∧ st.env 7 = I i ∧ st.env 6 = I b ∧ st.env 8 = .ref [S W.name, I W.born, I W.died]) ?_ ?_
      · intro k1 hk1
        simp -implicitDefEqProofs [e1, e3, e7, hlt, hp, hw, hwl, hww2]
        intro q hq
        exact hk1 _ (by simp [e1, e3, e4, e7, e6])
      rintro s ⟨e1, e3, e4, e7, e6, e8⟩
      have m1 : ¬ p.src < b := by omega
      have m2 : ¬ p.src < W.born := by omega
      have m3 : ¬ p.til < p.src := by omega
      have m4 : ¬ W.died < p.til := by omega
      have m5 : ¬ c.now < p.til := by omega
      refine cutS (fun st => st.env 1 = caseRef c ∧ st.env 3 = HL L ∧ st.env 4 = I u ∧ st.env 7 = I i) ?_ ?_
      · intro k1 hk1
        simp -implicitDefEqProofs [e1, e3, e6, e7, e8, hlt, hp, m1, m2, m3, m4, m5]
        exact hk1 _ (by simp [e1, e3, e4, e7])
      rintro s ⟨e1, e3, e4, e7⟩
      simp -implicitDefEqProofs [e3, e7, hlt, hp]
      refine ⟨i64 (by omega) (by omega), round_ok hlt ⟨by simp [e1], by simp [e3], by simp [e4], by simp, p.til, by simp, fun h => by have h2 := hH.next i h; rw [hp] at h2; exact h2⟩⟩
    · obtain rfl : i = L.length := by omega
      simp -implicitDefEqProofs
      exact hk0 _ (by simp [e1, e3, e4])
  rintro s ⟨e1, e3, e4⟩
  refine cutS (fun st => st.env 1 = caseRef c ∧ st.env 3 = HL L ∧ st.env 4 = I u) ?_ ?_
  · intro k0 hk0
    simp -implicitDefEqProofs
    refine loop_up c.marks.length (fun i st => st.env 1 = caseRef c ∧ st.env 3 = HL L ∧ st.env 4 = I u ∧ st.env 9 = I i) ?_ ?_
    · simp [e1, e3, e4]
    rintro i s hi ⟨e1, e3, e4, e9⟩
    simp -implicitDefEqProofs [e1, e9]
    refine cond_dec (fun hlt => ?_) (fun hge => ?_)
    · have hlt : i < c.marks.length := by omega
      obtain ⟨q, hq1, hq2, hq3, hq4⟩ := hH.marks _ (List.getElem_mem hlt)
      have hpl := place38_ok L c.marks[i].owner
      rw [hq1] at hpl
      generalize hm : c.marks[i] = m at *
      refine stepB ?_
      refine cutS (fun st => st.env 1 = caseRef c ∧ st.env 3 = HL L ∧ st.env 4 = I u ∧ st.env 9 = I i ∧ st.env 10 = I q) ?_ ?_
      · intro k1 hk1
        simp -implicitDefEqProofs [e1, e3, e9, hlt, hm]
        refine vCall_of hpl ?_
        simp -implicitDefEqProofs
        exact hk1 _ (by simp [e1, e3, e4, e9])
      rintro s ⟨e1, e3, e4, e9, e10⟩
      generalize hp : L[q] = p at *
      have m0 : ¬ (q : Int) < 0 := by omega
      have m1 : ¬ m.hi < p.src := by omega
      have m2 : ¬ p.til < m.lo := by omega
      simp -implicitDefEqProofs [e1, e3, e9, e10, hlt, hm, hq2, hp, m0, m1, m2]
      exact ⟨i64 (by omega) (by omega), round_ok hlt ⟨by simp [e1], by simp [e3], by simp [e4], by simp⟩⟩
    · obtain rfl : i = c.marks.length := by omega
      simp -implicitDefEqProofs
      exact hk0 _ (by simp [e1, e3, e4])
  rintro s ⟨e1, e3, e4⟩
  refine cutS (fun st => st.env 1 = caseRef c ∧ st.env 3 = HL L ∧ st.env 4 = I u) ?_ ?_
  · intro k0 hk0
    simp -implicitDefEqProofs
    refine loop_up c.sales.length (fun i st => st.env 1 = caseRef c ∧ st.env 3 = HL L ∧ st.env 4 = I u ∧ st.env 11 = I i) ?_ ?_
    · simp [e1, e3, e4]
    rintro i s hi ⟨e1, e3, e4, e11⟩
    simp -implicitDefEqProofs [e1, e11]
    refine cond_dec (fun hlt => ?_) (fun hge => ?_)
    · have hlt : i < c.sales.length := by omega
      have hd := hH.dst _ (List.getElem_mem hlt)
      have hsr := hH.src _ (List.getElem_mem hlt)
      have hp1 := place38_ok L c.sales[i].dst
      have hp2 := place38_ok L c.sales[i].src
      generalize hm : c.sales[i] = x at *
      refine stepB ?_
      refine cutS (fun st => st.env 1 = caseRef c ∧ st.env 3 = HL L ∧ st.env 4 = I u ∧ st.env 11 = I i ∧ st.env 12 = .ref [I x.year, I x.src, I x.dst]) ?_ ?_
      · intro k1 hk1
        simp -implicitDefEqProofs [e1, e11, hlt, hm]
        intro b hb
        exact hk1 _ (by simp [e1, e3, e4, e11])
      rintro s ⟨e1, e3, e4, e11, e12⟩
      by_cases h0 : x.dst = -1
      · have h0' : (x.dst != -1) = false := by simp [h0]
        by_cases h1 : x.src = -1
        · have h1' : (x.src != -1) = false := by simp [h1]
          simp -implicitDefEqProofs [e11, e12, h0', h1']
          exact ⟨i64 (by omega) (by omega), round_ok hlt ⟨by simp [e1], by simp [e3], by simp [e4], by simp⟩⟩
        · have h1' : (x.src != -1) = true := by simp [h1]
          obtain ⟨q, hq1, hq2, hq3⟩ := hsr h1
          rw [hq1] at hp2
          have m1 : ¬ (q : Int) < 0 := by omega
          have m2 : (L[q].til != x.year) = false := by simp [hq3]
          simp -implicitDefEqProofs [e3, e12, h0', h1']
          refine vCall_of hp2 ?_
          simp -implicitDefEqProofs [e3, e12, m1]
          refine vCall_of hp2 ?_
          simp -implicitDefEqProofs [e11, e12, hq2, m2]
          exact ⟨i64 (by omega) (by omega), round_ok hlt ⟨by simp [e1], by simp [e3], by simp [e4], by simp⟩⟩
      · have h0' : (x.dst != -1) = true := by simp [h0]
        obtain ⟨q, hq1, hq2, hq3⟩ := hd h0
        rw [hq1] at hp1
        have m1 : ¬ (q : Int) < 0 := by omega
        have m2 : (L[q].src != x.year) = false := by simp [hq3]
        by_cases h1 : x.src = -1
        · have h1' : (x.src != -1) = false := by simp [h1]
          simp -implicitDefEqProofs [e3, e12, h0']
          refine vCall_of hp1 ?_
          simp -implicitDefEqProofs [e3, e12, m1]
          refine vCall_of hp1 ?_
          simp -implicitDefEqProofs [e11, e12, hq2, m2, h1']
          exact ⟨i64 (by omega) (by omega), round_ok hlt ⟨by simp [e1], by simp [e3], by simp [e4], by simp⟩⟩
        · have h1' : (x.src != -1) = true := by simp [h1]
          obtain ⟨r, hr1, hr2, hr3⟩ := hsr h1
          rw [hr1] at hp2
          have m3 : ¬ (r : Int) < 0 := by omega
          have m4 : (L[r].til != x.year) = false := by simp [hr3]
          simp -implicitDefEqProofs [e3, e12, h0']
          refine vCall_of hp1 ?_
          simp -implicitDefEqProofs [e3, e12, m1]
          refine vCall_of hp1 ?_
          simp -implicitDefEqProofs [e3, e12, hq2, m2, h1']
          refine vCall_of hp2 ?_
          simp -implicitDefEqProofs [e3, e12, m3]
          refine vCall_of hp2 ?_
          simp -implicitDefEqProofs [e11, e12, hr2, m4]
          exact ⟨i64 (by omega) (by omega), round_ok hlt ⟨by simp [e1], by simp [e3], by simp [e4], by simp⟩⟩
    · obtain rfl : i = c.sales.length := by omega
      simp -implicitDefEqProofs
      exact hk0 _ (by simp [e1, e3, e4])
  rintro s ⟨e1, e3, e4⟩
  refine cutS (fun st => st.env 1 = caseRef c ∧ st.env 3 = HL L ∧ st.env 4 = I u ∧ st.env 13 = I u ∧ st.env 14 = I 0) ?_ ?_
  · intro k hk
    simp -implicitDefEqProofs [e1, e3]
    refine vCall_of hor ?_
    simp -implicitDefEqProofs
    refine vCall_of hww ?_
    simp -implicitDefEqProofs
    exact hk _ (by simp [e1, e3, e4])
  rintro s ⟨e1, e3, e4, e13, e14⟩
  simp -implicitDefEqProofs [e1, e3, e4, e13, e14]
  refine vCall_of hun ?_
  simp -implicitDefEqProofs [e4]
  refine vCall_of aw ?_
  simp -implicitDefEqProofs [r7]
end Go.Proofs.Ytiampdiobdianaa

