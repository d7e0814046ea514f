/- The resolved code of some functions, written by program, each held against the function by the kernel. What holds of all ways of making when there is one more mark. With one more mark no way of making is added: the law FoldMore returns true. -/
import Derived.Test.YtcfeipphmklakaaFG
import Derived.KernelRfl
import Derived.Test.YtcfeipphmklakaaFH
import Derived.Test.YtcfeipphmklakaaFC
namespace Go.Proofs.Ytcfeipphmklakaa
open Go.Avm

/- duodecimo/duodecimolaw02.FoldMore -/
def ann12 : Ann := { muts := [], nilsz := [], oid := [(27, 8006)], frz := [], zero := [(7, [(.lit (.int .i64 0)), (.lit (.int .i64 0)), (.lit (.int .i64 0)), (.lit (.int .i64 0)), (.lit (.int .i64 0)), (.lit (.int .i64 0)), (.slice 2 [] 8006)]), (20, [(.lit (.int .i64 0)), (.lit (.bool false))]), (25, [(.lit (.int .i64 0)), (.lit (.bool false))])], ord := [(2, [1, 2, 4, 0, 5, 3, 6, 7, 8])], ap := [(27, [])], own := [], yl := [], fz := [], imm := [] }
def m12 : MCode := (.seq (.reg [.boxI 3 (.t 0) 4, .boxI 4 (.t 1) 7, .boxI 5 (.t 2) 2, .asg 6 (.c (.lit (.bool false)))])
 (.seq (.reg [.load 19 (.t 4) (some 7), .alloc 7 [(.lit (.int .i64 0)), (.lit (.int .i64 0)), (.lit (.int .i64 0)), (.lit (.int .i64 0)), (.lit (.int .i64 0)), (.lit (.int .i64 0)), (.slice 2 [] 8006)], .store (.t 7) (.t 19) 7 0])
 (.seq (.reg [.addr 21 (.t 4) 6, .load 22 (.t 21) none, .load 24 (.t 5) (some 2), .mkS 20 0 2 [(.lit (.int .i64 0)), (.lit (.bool false))] [], .mkS 25 1 2 [(.lit (.int .i64 0)), (.lit (.bool false))] [(0, (.t 24))], .app 23 (.t 20) (.t 22) 2 16, .app 26 (.t 23) (.t 25) 2 16, .addr 27 (.t 7) 6, .apart [] (.t 27) (.store (.t 27) (.t 26) 1 8006)])
 (.seq (.seq (.reg [.load 28 (.t 3) (some 4), .load 29 (.t 7) (some 7), .call 30 49 [(.t 28), (.t 29)], .not 31 (.t 30)])
 (.cond (.t 31) (.seq (.reg [.call 32 19 [], .asg 6 (.t 32)])
 .ret) .skip))
 (.seq (.reg [.load 34 (.t 3) (some 4), .load 35 (.t 4) (some 7), .call 36 30 [(.t 34), (.t 35)], .cpy 33 (.t 36), .ext 37 (.t 33) 0, .ext 38 (.t 33) 1, .asg 8 (.t 37), .asg 9 (.t 38)])
 (.seq (.reg [.load 40 (.t 3) (some 4), .load 41 (.t 7) (some 7), .call 42 30 [(.t 40), (.t 41)], .cpy 39 (.t 42), .ext 43 (.t 39) 0, .ext 44 (.t 39) 1, .asg 10 (.t 43), .asg 11 (.t 44)])
 (.seq (.seq (.reg [.cpy 45 (.t 9), .bin 46 .neq (.t 45) (.c (.lit (.int .i64 0))), .cpy 47 (.t 46), .guard 47 false (some 48) (.cpy 48 (.t 11)), .guard 47 false (some 49) (.bin 49 .neq (.t 48) (.c (.lit (.int .i64 0)))), .pick 50 (.t 47) (.c (.lit (.bool true))) (.t 49)])
 (.cond (.t 50) (.seq (.reg [.asg 6 (.c (.lit (.bool false)))])
 .ret) .skip))
 (.seq (.seq (.reg [.asg 12 (.c (.lit (.int .i64 0)))])
 (.block 0 (.loop (.seq (.seq (.reg [.cpy 51 (.t 12), .cpy 52 (.t 10), .len 53 (.t 52), .bin 54 .lss (.t 51) (.t 53)])
 (.cond (.t 54) .skip (.exit 0)))
 (.seq (.block 1 (.seq (.reg [.cpy 57 (.t 8), .cpy 58 (.t 10), .cpy 59 (.t 12), .idxS 60 (.t 58) (.t 59) 4, .load 61 (.t 60) (some 4), .call 62 44 [(.t 57), (.t 61)], .not 63 (.t 62)])
 (.cond (.t 63) (.seq (.reg [.asg 6 (.c (.lit (.bool false)))])
 .ret) .skip)))
 (.reg [.cpy 55 (.t 12), .bin 56 .add (.t 55) (.c (.lit (.int .i64 1))), .asg 12 (.t 56)]))))))
 (.seq (.reg [.load 65 (.t 3) (some 4), .load 66 (.t 4) (some 7), .addr 67 (.t 5) 0, .load 68 (.t 67) none, .call 69 33 [(.t 65), (.t 66), (.t 68)], .cpy 64 (.t 69), .ext 70 (.t 64) 0, .ext 71 (.t 64) 1, .ext 72 (.t 64) 2, .asg 13 (.t 70), .asg 14 (.t 71), .asg 15 (.t 72)])
 (.seq (.reg [.load 74 (.t 3) (some 4), .load 75 (.t 7) (some 7), .addr 76 (.t 5) 0, .load 77 (.t 76) none, .call 78 33 [(.t 74), (.t 75), (.t 77)], .cpy 73 (.t 78), .ext 79 (.t 73) 0, .ext 80 (.t 73) 1, .ext 81 (.t 73) 2, .asg 16 (.t 79), .asg 17 (.t 80), .asg 18 (.t 81)])
 (.seq (.seq (.reg [.cpy 82 (.t 18), .bin 83 .neq (.t 82) (.c (.lit (.int .i64 0)))])
 (.cond (.t 83) (.seq (.reg [.cpy 84 (.t 18), .bin 85 .eql (.t 84) (.c (.lit (.int .i64 8))), .cpy 86 (.t 85), .guard 86 true (some 87) (.cpy 87 (.t 10)), .guard 86 true (some 88) (.len 88 (.t 87)), .guard 86 true (some 89) (.bin 89 .eql (.t 88) (.c (.lit (.int .i64 0)))), .pick 90 (.t 86) (.t 89) (.c (.lit (.bool false))), .cpy 91 (.t 90), .guard 91 true (some 92) (.cpy 92 (.t 15)), .guard 91 true (some 93) (.bin 93 .eql (.t 92) (.c (.lit (.int .i64 0)))), .guard 91 true (some 94) (.cpy 94 (.t 93)), .guard 94 false (some 95) (.cpy 95 (.t 15)), .guard 94 false (some 96) (.cpy 96 (.t 18)), .guard 94 false (some 97) (.bin 97 .eql (.t 95) (.t 96)), .guard 91 true (some 98) (.pick 98 (.t 94) (.c (.lit (.bool true))) (.t 97)), .pick 99 (.t 91) (.t 98) (.c (.lit (.bool false))), .cpy 100 (.t 99), .guard 100 true (some 101) (.call 101 19 []), .pick 102 (.t 100) (.t 101) (.c (.lit (.bool false))), .asg 6 (.t 102)])
 .ret) .skip))
 (.seq (.reg [.cpy 103 (.t 15), .bin 104 .eql (.t 103) (.c (.lit (.int .i64 0))), .cpy 105 (.t 104), .guard 105 true (some 106) (.cpy 106 (.t 13)), .guard 105 true (some 107) (.cpy 107 (.t 16)), .guard 105 true (some 108) (.call 108 45 [(.t 106), (.t 107)]), .pick 109 (.t 105) (.t 108) (.c (.lit (.bool false))), .cpy 110 (.t 109), .guard 110 true (some 111) (.cpy 111 (.t 17)), .guard 110 true (some 112) (.cpy 112 (.t 14)), .guard 110 true (some 113) (.call 113 45 [(.t 111), (.t 112)]), .pick 114 (.t 110) (.t 113) (.c (.lit (.bool false))), .cpy 115 (.t 114), .guard 115 true (some 116) (.call 116 19 []), .pick 117 (.t 115) (.t 116) (.c (.lit (.bool false))), .asg 6 (.t 117)])
 .ret))))))))))))
def r12 : List MRes := [.tmp 6]
theorem tr12 : Try.f12.body.bind (trC Try.prog ann12 Try.f12.ntmps) = some m12 := by kernel_rfl
theorem rs12 : trRes Try.prog Try.f12.results.toList = some r12 := by kernel_rfl
theorem fn12 : isFunc Try.prog 12 = true := by kernel_rfl
end Go.Proofs.Ytcfeipphmklakaa

namespace Go.Proofs.Ytcfeipphmklakaa
open Go.Avm

theorem bookE_of {p : Prs} {b : Bok} (he : errE p = 0) (h : RightB b) : bookE p b = 0 := by
  have hm : ∀ j < b.marks.length, mE b j = 0 := fun j hj => by
    unfold mE
    rw [dif_pos hj]
    unfold mrkE
    rw [if_pos (h.at_ j hj)]
  have h8 : ¬ 8 < b.marks.length := by have := h.marks; omega
  unfold bookE checkBookE
  have he2 : ¬ (checkE p).2.2 ≠ 0 := not_not_intro he
  rw [if_neg he2, if_neg (not_not_intro h.leaves), if_neg (not_not_intro h.chain), if_neg (not_not_intro h.spans), if_neg h8, firstE_none hm, if_neg (not_not_intro rfl)]

theorem lessL_nil (a : List Int) : lessL a [] = false := by
  unfold lessL
  cases a with
  | nil => rfl
  | cons x a => simp
theorem lessL_of_nil {b : List Int} (h : b ≠ []) : lessL [] b = true := by
  unfold lessL
  cases b with
  | nil => exact (h rfl).elim
  | cons x b => simp

theorem halfM_in (w : List Nat) (l : List Lf) (ms : List Mrk) (s : Int) : halfM w l ms s = 0 ∨ halfM w l ms s = 1 := by
  unfold halfM; split
  · exact .inr rfl
  · exact .inl rfl

/-- If with some half no mark of a sheet is untrue, none is with the chosen one. -/
theorem halfM_nil {w : List Nat} {l : List Lf} {ms : List Mrk} {s h : Int} (hh : h = 0 ∨ h = 1) (hn : selT (untP w l ms s h) 11 = []) : selT (untP w l ms s (halfM w l ms s)) 11 = [] := by
  unfold halfM
  rcases hh with rfl | rfl
  · rw [hn, lessL_nil, if_neg (by simp)]
    exact hn
  · rw [hn]
    by_cases h0 : selT (untP w l ms s 0) 11 = []
    · rw [h0, lessL_nil, if_neg (by simp)]
      exact h0
    · rw [lessL_of_nil h0, if_pos rfl]
      exact hn

theorem untP_mono {w : List Nat} {l : List Lf} {ms : List Mrk} {s h : Int} {j : Nat} (x : Mrk) (hu : untP w l ms s h j = true) : untP w l (ms ++ [x]) s h j = true := by
  unfold untP at *
  rw [Bool.and_eq_true] at *
  refine ⟨hu.1, ?_⟩
  have h2 := hu.2
  cases hg : ms[j - 3]? with
  | none => rw [hg] at h2; cases h2
  | some q =>
    rw [hg] at h2
    have hlt : j - 3 < ms.length := by
      rcases Nat.lt_or_ge (j - 3) ms.length with h | h
      · exact h
      · rw [List.getElem?_eq_none h] at hg; cases hg
    have : (ms ++ [x])[j - 3]? = some q := by rw [List.getElem?_append_left hlt, hg]
    rw [this]
    exact h2

def addM (b : Bok) (x : Mrk) : Bok := ⟨b.leaves, b.chain, b.wide, b.high, b.marks ++ [x]⟩

theorem fits_add {p : Prs} {b : Bok} {x : Mrk} {m : Mk} (h : fits p (addM b x) m = true) : fits p b m = true := by
  unfold fits at *
  rw [Bool.and_eq_true, emptyP_iff] at *
  refine ⟨h.1, fun j hj => ?_⟩
  have h2 := h.2
  have hj2 := h2 j hj
  unfold offP offW at *
  rw [Bool.or_eq_false_iff] at *
  refine ⟨hj2.1, ?_⟩
  unfold shP
  rw [List.any_eq_false]
  intro s hs
  rw [Bool.not_eq_true]
  have hsel : selT (untP (codes (foldsOf p m)) (lvOf p m) b.marks s (halfM (codes (foldsOf p m)) (lvOf p m) (addM b x).marks s)) 11 = [] := selT_nil fun i hi => by
    have h3 := h2 i hi
    rw [Bool.or_eq_false_iff] at h3
    have h4 := h3.2
    unfold shP at h4
    rw [List.any_eq_false] at h4
    have h5 := h4 s hs
    rw [Bool.not_eq_true] at h5
    cases hu : untP (codes (foldsOf p m)) (lvOf p m) b.marks s (halfM (codes (foldsOf p m)) (lvOf p m) (addM b x).marks s) i with
    | false => rfl
    | true =>
      have := untP_mono x hu
      unfold addM at h5 this
      rw [this] at h5
      cases h5
  have := halfM_nil (halfM_in _ _ _ _) hsel
  have hz := selT_zero_iff.1 (show (selT (untP (codes (foldsOf p m)) (lvOf p m) b.marks s (halfM (codes (foldsOf p m)) (lvOf p m) b.marks s)) 11).length = 0 by rw [this]; rfl)
  exact hz j hj

theorem fitL_add {p : Prs} {b : Bok} {x : Mrk} {m : Mk} (h : m ∈ fitL p (addM b x)) : m ∈ fitL p b := by
  obtain ⟨h1, h2⟩ := List.mem_filter.1 h
  exact List.mem_filter.2 ⟨h1, fits_add h2⟩

/-- With all ways of making of a list among those of another, fewer leaves may be together, and more must. -/
theorem mayQ_sub {p : Prs} {k l : List Mk} (h : ∀ m ∈ k, m ∈ l) {t i : Nat} (hq : mayQ p k t i = true) : mayQ p l t i = true := by
  unfold mayQ cntT at *
  rw [List.take_length] at *
  have := of_decide_eq_true hq
  obtain ⟨m, hm⟩ := List.exists_mem_of_length_pos this
  obtain ⟨h1, h2⟩ := List.mem_filter.1 hm
  exact decide_eq_true (List.length_pos_of_mem (List.mem_filter.2 ⟨h m h1, h2⟩))
theorem mustQ_iff {p : Prs} {l : List Mk} {t i : Nat} : mustQ p l t i = true ↔ ∀ m ∈ l, mateQ (lvOf p m) t i = true := by
  unfold mustQ cntT
  rw [List.take_length, decide_eq_true_eq]
  exact List.length_filter_eq_length_iff
theorem mustQ_sub {p : Prs} {k l : List Mk} (h : ∀ m ∈ k, m ∈ l) {t i : Nat} (hq : mustQ p l t i = true) : mustQ p k t i = true :=
  mustQ_iff.2 fun m hm => mustQ_iff.1 hq m (h m hm)

theorem selT_sub {q r : Nat → Bool} {n : Nat} (h : ∀ i, q i = true → r i = true) {x : Int} (hx : x ∈ selT q n) : x ∈ selT r n := by
  obtain ⟨j, rfl, h1, h2⟩ := selT_mem hx
  exact mem_selT.2 ⟨h1, h j h2⟩
end Go.Proofs.Ytcfeipphmklakaa

namespace Go.Proofs.Ytcfeipphmklakaa
open Go.Avm

theorem rdBokB : Rd Try.prog false 30 Bok.av (fun b => b.marks.length * 16 ≤ 140737488351232) :=
  (Rd.struct (tot := 7) Try.underlying30 rfl (by kernel_rfl) (RdL.cons rfl (by kernel_rfl) rdI (RdL.cons rfl (by kernel_rfl) rdI (RdL.cons rfl (by kernel_rfl) rdSpn (RdL.cons rfl (by kernel_rfl) rdSpn
    (RdL.cons rfl (by kernel_rfl) (Rd.sliceB Try.underlying28 (of_decide_eq_true (by kernel_rfl)) (by kernel_rfl) rdMrk) RdL.nil)))))).map (fun x => ⟨x.1, x.2.1, x.2.2.1, x.2.2.2.1, x.2.2.2.2.1⟩) (fun _ => rfl) (fun x h => by
      have h2 := h.2.2.2.2.1.2.1
      rwa [show Try.prog.bytesOf 89 = 16 by kernel_rfl] at h2)
theorem rdMrkA : Rd Try.prog false 89 Mrk.av (fun _ => True) := rdMrk.loose

theorem good49_ok (p : Prs) (b : Bok) : PCall Try.prog 49 [p.av, b.av] (B (bookE p b == 0)) := by
  refine pcall Try.func49 tr49 rs49 fn49 (by simp [Try.ntmps49]) fun hfit => ?_
  have c := checkBookR_ok p b
  unfold bookE
  generalize checkBookE p b = e at *
  simp -implicitDefEqProofs [m49]
  refine vCall_of c ?_
  simp -implicitDefEqProofs [r49]

theorem eqCells_mk (x y : Mk) : eqCells [false, false, false, true] [I x.format, I x.paper, I x.sheets, B x.half] [I y.format, I y.paper, I y.sheets, B y.half] = some (decide (x = y)) := by
  obtain ⟨a, b, c, d⟩ := x
  obtain ⟨a', b', c', d'⟩ := y
  simp only [eqCells, if_true, Option.map_some, Mk.mk.injEq, Option.some.injEq]
  by_cases h1 : a = a' <;> by_cases h2 : b = b' <;> by_cases h3 : c = c' <;> by_cases h4 : d = d' <;> simp [h1, h2, h3, h4]

theorem one44_ok (l : List Mk) (m : Mk) : PCall Try.prog 44 [ML l, m.av] (B (decide (m ∈ l))) := by
  refine pcall Try.func44 tr44 rs44 fn44 (by simp [Try.ntmps44]) fun hfit => ?_
  have hl := fits_len (hfit 0)
  simp only [List.length_map] at hl
  simp -implicitDefEqProofs [m44]
  refine loop_up l.length (fun k s => s.env 0 = ML l ∧ s.env 3 = .ref m.cs ∧ s.env 5 = I k ∧ ∀ x ∈ l.take k, x ≠ m) ?_ ?_
  · simp
  · rintro k s hk ⟨e0, e3, e5, hno⟩
    simp -implicitDefEqProofs [e0, e5]
    refine cond_dec (fun hlt => ?_) (fun hge => ?_)
    · have hlt : k < l.length := by omega
      simp -implicitDefEqProofs [e0, e3, e5, hlt, -eqCells, eqCells_mk]
      refine cond_dec (fun hx => ?_) (fun hx => ?_)
      · have hm : m ∈ l := by rw [← hx]; exact List.getElem_mem _
        simp -implicitDefEqProofs [r44, hm]
      · simp -implicitDefEqProofs [e5]
        refine ⟨i64 (by omega) (by omega), round_ok hlt ⟨by simp [e0], by simp [e3], by simp, fun x hx' => ?_⟩⟩
        rw [take_snoc hlt, List.mem_append, List.mem_singleton] at hx'
        rcases hx' with hx' | rfl
        · exact hno x hx'
        · exact hx
    · obtain rfl : k = l.length := by omega
      rw [List.take_length] at hno
      have hm : m ∉ l := fun h => hno m h rfl
      simp -implicitDefEqProofs [r44, hm]

theorem part45_ok (a b : List Int) (h : ∀ x ∈ a, x ∈ b) : PCall Try.prog 45 [IL a, IL b] (B true) := by
  refine pcall Try.func45 tr45 rs45 fn45 (by simp [Try.ntmps45]) fun hfit => ?_
  have hl := fits_len (hfit 0)
  simp only [List.length_map] at hl
  simp -implicitDefEqProofs [m45]
  refine loop_up a.length (fun k s => s.env 0 = IL a ∧ s.env 1 = IL b ∧ s.env 5 = I k) ?_ ?_
  · simp
  · rintro k s hk ⟨e0, e1, e5⟩
    simp -implicitDefEqProofs [e0, e5]
    refine cond_dec (fun hlt => ?_) (fun hge => ?_)
    · have hlt : k < a.length := by omega
      have c := has47_ok b a[k]
      rw [decide_eq_true (h _ (List.getElem_mem hlt))] at c
      simp -implicitDefEqProofs [e0, e1, e5, hlt]
      refine vCall_of c ?_
      simp -implicitDefEqProofs [e5]
      exact ⟨i64 (by omega) (by omega), round_ok hlt ⟨by simp [e0], by simp [e1], by simp⟩⟩
    · simp -implicitDefEqProofs [r45]

theorem foldMore_ok (ha : PCall Try.prog 19 [] (B true)) (p : Prs) (b : Bok) (x : Mrk) (_ : True) (hbm : b.marks.length * 16 ≤ 140737488351232) (_ : True) : PCall Try.prog 12 [p.av, b.av, x.av] (B true) := by
  refine pcall Try.func12 tr12 rs12 fn12 (by simp [Try.ntmps12]) fun hfit => ?_
  have c1 := good49_ok p (addM b x)
  have c2 := agree30_ok p b
  have c3 := agree30_ok p (addM b x)
  have c4 := together33_ok p b x.leaf
  have c5 := together33_ok p (addM b x) x.leaf
  simp -implicitDefEqProofs [m12]
  intro bm
  refine ⟨by omega, by omega, by omega, by omega, ?_⟩
  have hav : (addM b x).av = .agg [I b.leaves, I b.chain, I b.wide.lo, I b.wide.hi, I b.high.lo, I b.high.hi, .slice 2 (b.marks.map Mrk.av ++ [x.av]) 0] := by simp [addM]
  rw [hav] at c1 c3 c5
  refine vCall_of c1 ?_
  by_cases h0 : bookE p (addM b x) = 0
  case neg =>
    have h0' : (bookE p (addM b x) == 0) = false := beq_eq_false_iff_ne.2 h0
    simp -implicitDefEqProofs [h0']
    refine vCall_of ha ?_
    simp -implicitDefEqProofs [r12]
  have h0' : (bookE p (addM b x) == 0) = true := by simp [h0]
  obtain ⟨he, hbc⟩ := rightB_of h0
  have hb : RightB b := ⟨hbc.leaves, hbc.chain, hbc.spans, by have := hbc.marks; simp [addM] at this; omega, fun i hi => by
    have h := hbc.at_ i (by simp [addM]; omega)
    have e : (addM b x).marks[i]'(by simp [addM]; omega) = b.marks[i] := by simp [addM, List.getElem_append_left hi]
    rw [e] at h
    exact h⟩
  have hlf : 0 ≤ x.leaf ∧ x.leaf ≤ b.leaves - 1 := by
    have h := hbc.at_ b.marks.length (by simp [addM])
    have e : (addM b x).marks[b.marks.length]'(by simp [addM]) = x := by simp [addM]
    rw [e] at h
    exact h
  have h1 := bookE_of he hb
  have ga : agreeR p b = (fitL p b, 0) := by unfold agreeR; rw [if_neg (not_not_intro h1)]
  have gc : agreeR p (addM b x) = (fitL p (addM b x), 0) := by unfold agreeR; rw [if_neg (not_not_intro h0)]
  have hsub : ∀ m ∈ fitL p (addM b x), m ∈ fitL p b := fun m hm => fitL_add hm
  have ta : togetherR p b x.leaf = if (fitL p b).length = 0 then ([], [], 8) else (selT (mustQ p (fitL p b) x.leaf.toNat) b.leaves.toNat, selT (mayQ p (fitL p b) x.leaf.toNat) b.leaves.toNat, 0) := by
    unfold togetherR
    rw [ga, if_neg (by simp), if_neg (not_not_intro hlf)]
  have tc : togetherR p (addM b x) x.leaf = if (fitL p (addM b x)).length = 0 then ([], [], 8) else (selT (mustQ p (fitL p (addM b x)) x.leaf.toNat) b.leaves.toNat, selT (mayQ p (fitL p (addM b x)) x.leaf.toNat) b.leaves.toNat, 0) := by
    unfold togetherR
    have hlf2 : 0 ≤ x.leaf ∧ x.leaf ≤ (addM b x).leaves - 1 := hlf
    rw [gc, if_neg (by simp), if_neg (not_not_intro hlf2)]
    rfl
  rw [ga] at c2
  rw [gc] at c3
  rw [ta] at c4
  rw [tc] at c5
  have hlk := fitL_len (right_of he) (addM b x)
  generalize fitL p (addM b x) = k at *
  generalize fitL p b = l at *
  clear ta tc ga gc
  simp -implicitDefEqProofs [h0']
  refine vCall_of c2 ?_
  simp -implicitDefEqProofs
  refine vCall_of c3 ?_
  simp -implicitDefEqProofs
  refine loop_up k.length (fun j st => st.env 3 = PRef p ∧ st.env 4 = BRef b ∧ st.env 5 = .ref x.cs ∧ st.env 7 = .mref bm 0 ∧ st.loc bm = some [I b.leaves, I b.chain, I b.wide.lo, I b.wide.hi, I b.high.lo, I b.high.hi, .slice 2 (b.marks.map Mrk.av ++ [x.av]) 8006] ∧
    st.env 8 = ML l ∧ st.env 10 = ML k ∧ st.env 12 = I j) ?_ ?_
  · simp
  rintro j st hj ⟨e3, e4, e5, e7, el, e8, e10, e12⟩
  simp -implicitDefEqProofs [e10, e12]
  refine cond_dec (fun hlt => ?_) (fun hge => ?_)
  · have hlt : j < k.length := by omega
    have c6 := one44_ok l k[j]
    rw [decide_eq_true (hsub _ (List.getElem_mem hlt))] at c6
    simp -implicitDefEqProofs [e8, e10, e12, hlt]
    refine vCall_of c6 ?_
    simp -implicitDefEqProofs [e12]
    exact ⟨i64 (by omega) (by omega), round_ok hlt ⟨by simp [e3], by simp [e4], by simp [e5], by simp [e7], by simp [el], by simp [e8], by simp [e10], by simp⟩⟩
  by_cases hk0 : k.length = 0
  · have hk0' : ((k.length : Int) == 0) = true := by simp [hk0]
    rw [if_pos hk0] at c5
    have hT : ∃ T : List Int × List Int × Int, PCall Try.prog 33 [p.av, b.av, I x.leaf] (.tuple [IL T.1, IL T.2.1, I T.2.2]) ∧ (T.2.2 = 0 ∨ T.2.2 = 8) := ⟨_, c4, by
      by_cases hl0 : l.length = 0
      · rw [if_pos hl0]; exact .inr rfl
      · rw [if_neg hl0]; exact .inl rfl⟩
    obtain ⟨T, c4, hT⟩ := hT
    simp -implicitDefEqProofs [e3, e4, e5]
    refine vCall_of c4 ?_
    simp -implicitDefEqProofs [e3, e5, e7, el]
    refine vCall_of c5 ?_
    rcases hT with hT | hT
    · have hT' : (T.2.2 == 0) = true := by simp [hT]
      simp -implicitDefEqProofs [e10, hk0', hT']
      refine vCall_of ha ?_
      simp -implicitDefEqProofs [r12]
    · simp -implicitDefEqProofs [e10, hk0', hT]
      refine vCall_of ha ?_
      simp -implicitDefEqProofs [r12]
  · have hl0 : ¬ l.length = 0 := fun h => by
      have : k ≠ [] := fun e => hk0 (by rw [e]; rfl)
      obtain ⟨m, hm⟩ := List.exists_mem_of_ne_nil k this
      have := hsub m hm
      rw [List.length_eq_zero_iff.1 h] at this
      cases this
    rw [if_neg hk0] at c5
    rw [if_neg hl0] at c4
    have d1 := part45_ok (selT (mustQ p l x.leaf.toNat) b.leaves.toNat) (selT (mustQ p k x.leaf.toNat) b.leaves.toNat) fun y hy => selT_sub (fun i hi => mustQ_sub hsub hi) hy
    have d2 := part45_ok (selT (mayQ p k x.leaf.toNat) b.leaves.toNat) (selT (mayQ p l x.leaf.toNat) b.leaves.toNat) fun y hy => selT_sub (fun i hi => mayQ_sub hsub hi) hy
    simp -implicitDefEqProofs [e3, e4, e5]
    refine vCall_of c4 ?_
    simp -implicitDefEqProofs [e3, e5, e7, el]
    refine vCall_of c5 ?_
    simp -implicitDefEqProofs
    refine vCall_of d1 ?_
    simp -implicitDefEqProofs
    refine vCall_of d2 ?_
    simp -implicitDefEqProofs
    refine vCall_of ha ?_
    simp -implicitDefEqProofs [r12]
end Go.Proofs.Ytcfeipphmklakaa

