/- Contracts: who can have owned the copy in a year: the program's. Contracts: Owned and Both: the program's. Contracts: Both: the program's. Maps that count names. Contracts: a case without some marks: the program's. Contracts: Forged: the program's. -/
import Derived.Test.YtiampdiobdianaaZF
namespace Go.Proofs.Ytiampdiobdianaa
open Go.Avm

structure IBlk (cs : List AV) (l : List Int) (cap : Nat) : Prop where
  le : l.length ≤ cap
  len : cs.length = cap
  cells : cs.take l.length = l.map I
  num : ∀ x ∈ cs, ∃ m, x = I m
theorem iblk_new (x : Int) (r : Nat) : IBlk (I x :: (List.replicate r [I 0]).flatten) [x] (1 + r) := by
  refine ⟨by simp, by simp; omega, by simp, fun y hy => ?_⟩
  rcases List.mem_cons.1 hy with rfl | hy
  · exact ⟨_, rfl⟩
  · simp only [List.mem_flatten, List.mem_replicate] at hy
    obtain ⟨l, ⟨_, rfl⟩, hy⟩ := hy
    simp at hy
    exact ⟨0, hy⟩
theorem iblk_room {cs : List AV} {l : List Int} {cap : Nat} (h : IBlk cs l cap) (x : Int) (hr : l.length + 1 ≤ cap) : IBlk (cs.set l.length (I x)) (l ++ [x]) cap := by
  have hlen := h.len
  refine ⟨by simpa using hr, by simpa using hlen, ?_, fun y hy => ?_⟩
  · have hl : l.length < cs.length := by omega
    rw [List.length_append, List.length_cons, List.length_nil, List.take_succ_eq_append_getElem (by simpa using hl), List.take_set_of_le (Nat.le_refl _), h.cells]
    simp
  · rcases List.mem_or_eq_of_mem_set hy with hy | rfl
    · exact h.num y hy
    · exact ⟨_, rfl⟩
theorem iblk_grow {cs : List AV} {l : List Int} {cap : Nat} (h : IBlk cs l cap) (x : Int) (r : Nat) : IBlk ((cs.take l.length).map AV.erase0 ++ I x :: (List.replicate r [I 0]).flatten) (l ++ [x]) (l.length + 1 + r) := by
  have hn := iblk_new x r
  have hm : (l.map I).map AV.erase0 = l.map I := by simp
  rw [h.cells, hm]
  refine ⟨by simp, by simp; omega, ?_, fun y hy => ?_⟩
  · rw [List.map_append, List.take_append, List.take_of_length_le (by simp)]
    simp
  · rcases List.mem_append.1 hy with hy | hy
    · rw [List.mem_map] at hy
      obtain ⟨m, _, rfl⟩ := hy
      exact ⟨m, rfl⟩
    · exact hn.num y hy
def OutIn (l : List Int) (s : St) : Prop := (l = [] ∧ s.env 4 = .lit (.slice none 0 0)) ∨ ∃ b cap cs, l ≠ [] ∧ s.env 4 = .mslice b 0 l.length cap 1 ∧ s.loc b = some cs ∧ IBlk cs l cap
theorem chunk_nums : ∀ (l : List Int) (cs : List AV), cs.take l.length = l.map I → chunk 1 cs l.length = l.map I
  | [], _, _ => rfl
  | a :: l, [], h => by simp at h
  | a :: l, x :: cs, h => by
    simp only [List.length_cons, List.take_succ_cons, List.map_cons, List.cons.injEq] at h
    have ih := chunk_nums l cs h.2
    rw [h.1]
    unfold chunk
    simp [ih]
theorem OutIn.old {l : List Int} {s s' : St} (h : OutIn l s) (e : s'.env 4 = s.env 4) (hl : ∀ c cs, s.loc c = some cs → cs.map AV.erase0 = cs → s'.loc c = some cs) : OutIn l s' := by
  rcases h with ⟨h1, h2⟩ | ⟨b, cap, cs, h1, h2, h3, h4⟩
  · exact .inl ⟨h1, e.trans h2⟩
  · exact .inr ⟨b, cap, cs, h1, e.trans h2, hl b cs h3 (num_erase h4.num), h4⟩
structure WJ (c : Case) (y : Int) (n k : Nat) (l : List Int) (s : St) : Prop where
  e : s.env 0 = titleRef c ∧ s.env 1 = I y ∧ s.env 12 = I n ∧ s.env 13 = I k
  out : OutIn l s
theorem WJ.ext {c : Case} {y : Int} {n k : Nat} {l : List Int} {s s' : St} (h : WJ c y n k l s) (he : ∀ j ∈ [0, 1, 4, 12, 13], s'.env j = s.env j)
    (hl : ∀ c cs, s.loc c = some cs → cs.map AV.erase0 = cs → s'.loc c = some cs) : WJ c y n k l s' := by
  simp only [List.mem_cons, List.not_mem_nil, or_false, forall_eq_or_imp, forall_eq] at he
  obtain ⟨a0, a1, a4, a12, a13⟩ := he
  obtain ⟨e0, e1, e12, e13⟩ := h.e
  exact ⟨⟨a0.trans e0, a1.trans e1, a12.trans e12, a13.trans e13⟩, h.out.old a4 hl⟩
theorem OutIn.ne {l : List Int} {s : St} (h : OutIn l s) {b : Nat} {cs : List AV} (hb : s.loc b = some cs) (hx : ∃ x ∈ cs, ∀ m, x ≠ I m) : ∀ s' : St, s'.env 4 = s.env 4 → (∀ c cs, c ≠ b → s.loc c = some cs → cs.map AV.erase0 = cs → s'.loc c = some cs) → OutIn l s' := by
  intro s' e hl
  rcases h with ⟨h1, h2⟩ | ⟨b2, cap, cs2, h1, h2, h3, h4⟩
  · exact .inl ⟨h1, e.trans h2⟩
  · refine .inr ⟨b2, cap, cs2, h1, e.trans h2, hl b2 cs2 ?_ h3 (num_erase h4.num), h4⟩
    rintro rfl
    rw [hb] at h3
    injection h3 with h3
    subst h3
    obtain ⟨x, hx, hn⟩ := hx
    obtain ⟨m, hm⟩ := h4.num x hx
    exact hn m hm
theorem owned73_ok {c : Case} (h : c.OK) (h8 : c.marks.length ≤ 8) {y : Int} (hy : c.printed ≤ y ∧ y ≤ c.now) : PCall Try.prog 73 [titleRef c, I y] (IL (ownedS c y)) := by
  refine pcall Try.func73 tr73 rs73 fn73 (by simp [Try.ntmps73]) fun _ => ?_
  have hn6 := h.ownersLen
  obtain ⟨n, hn⟩ : ∃ n, n = c.owners.length := ⟨_, rfl⟩
  unfold ownedS
  have hc : ∀ k, k < n → PCall Try.prog 70 [titleRef (hadC c k y)] (B (someB (hadC c k y))) := fun k hk => some70_ok (hadC_ok h h8 (by omega) hy)
  have hcells : ∀ k : Nat, titleRef (hadC c k y) = .ref [I c.printed, I c.now, .slice 3 (c.owners.map encOwner) 0, .slice 4 (c.marks.map encMark ++ [.agg [I k, I y, I y, I (-1)]]) 0, .slice 3 (c.sales.map encSale) 0, .fmap (soldRows c)] := fun k => by
    show AV.ref (caseCells (hadC c k y) ++ [.fmap (soldRows c)]) = _
    simp [hadC]
  generalize hp : (fun o => someB (hadC c o y)) = p at *
  have hp' : ∀ k, someB (hadC c k y) = p k := fun k => by rw [← hp]
  rw [← hn] at hn6 ⊢
  have hm9 := h.marksLen
  simp -implicitDefEqProofs only [m73]
  refine cutS (fun st => st.env 0 = titleRef c ∧ st.env 1 = I y ∧ st.env 4 = .lit (.slice none 0 0)) ?_ ?_
  · intro k0 hk0
    simp -implicitDefEqProofs
    exact hk0 _ (by simp)
  rintro s ⟨e0, e1, e4⟩
  refine cutS (fun st => WJ c y n n (selT p n) st) ?_ ?_
  · intro k0 hk0
    simp -implicitDefEqProofs [← hn, e0]
    refine loop_up n (fun k s => WJ c y n k (selT p k) s) ?_ ?_
    · exact ⟨⟨by simp [e0], by simp [e1], by simp, by simp⟩, .inl ⟨rfl, by simp [e4]⟩⟩
    rintro k s hk hJ
    obtain ⟨e0, e1, e12, e13⟩ := hJ.e
    simp -implicitDefEqProofs [e12, e13]
    refine cond_dec (fun hlt => ?_) (fun hge => ?_)
    · have hlt : k < n := by omega
      have hck := hc k hlt
      rw [hp' k, hcells k] at hck
      have hsl := selT_len p k
      refine stepB ?_
      refine cutS (fun st => WJ c y n k (selT p k) st ∧ st.env 5 = I k) ?_ ?_
      · intro k1 hk1
        simp -implicitDefEqProofs [e13]
        exact hk1 _ ⟨hJ.ext (by simp) (by simp +contextual), by simp⟩
      rintro s ⟨hJ, e5⟩
      refine cutS (fun st => WJ c y n k (selT p k) st ∧ st.env 5 = I k ∧ ∃ b, st.env 6 = .mref b 0 ∧ st.loc b = some (titleCells c)) ?_ ?_
      · intro k1 hk1
        obtain ⟨e0, e1, e12, e13⟩ := hJ.e
        simp -implicitDefEqProofs [e0]
        intro b hb
        refine hk1 _ ⟨hJ.ext (by simp) (fun c cs hc _ => ?_), by simp [e5], b, by simp, by simp⟩
        have : ¬ c = b := by rintro rfl; rw [hc] at hb; cases hb
        simp [this, hc]
      rintro s ⟨hJ, e5, b, e6, l6⟩
      refine cutS (fun st => WJ c y n k (selT p k) st ∧ st.env 5 = I k ∧ st.env 6 = titleRef (hadC c k y)) ?_ ?_
      · intro k1 hk1
        obtain ⟨e0, e1, e12, e13⟩ := hJ.e
        have hOut := hJ.out.ne l6 ⟨_, List.mem_cons_of_mem _ (List.mem_cons_of_mem _ List.mem_cons_self), fun m => by simp⟩
        simp -implicitDefEqProofs [e0]
        refine clone95_ok hm9 fun s2 hO => ?_
        have l6' := hO.l b (titleCells c) (by simp [l6]) (by simp)
        simp -implicitDefEqProofs [e1, e5, e6, l6']
        refine ⟨by omega, by omega, frz_all ?_⟩
        simp -implicitDefEqProofs
        refine hk1 _ ⟨⟨⟨?_, ?_, ?_, ?_⟩, ?_⟩, ?_, ?_⟩
        · simp [upd, e0]
        · simp [upd, e1]
        · simp [upd, e12]
        · simp [upd, e13]
        · refine hOut _ ?_ fun c cs hcb h1 h2 => ?_
          · rcases hJ.out with ⟨_, e4⟩ | ⟨_, _, _, _, e4, _⟩ <;> simp [upd, e4]
          · have := hO.l c cs (by simp [h1]) h2
            simp [upd, hcb, this]
            simp only [← List.map_map, dem_row h2]
        · simp [upd, e5]
        · simp [upd, hcells]
      rintro s ⟨hJ, e5, e6⟩
      obtain ⟨e0, e1, e12, e13⟩ := hJ.e
      rw [hcells] at e6
      simp -implicitDefEqProofs [e6]
      refine vCall_of hck ?_
      have hsm := selT_succ p k
      generalize selT p k = l at *
      cases hpk : p k with
      | false =>
        rw [hpk] at hsm
        simp at hsm
        simp -implicitDefEqProofs [e13]
        refine ⟨i64 (by omega) (by omega), round_ok hlt ?_⟩
        rw [hsm]
        exact ⟨⟨by simp [e0], by simp [e1], by simp [e12], by simp⟩, hJ.out.old (by simp) (by simp +contextual)⟩
      | true =>
        rw [hpk, if_pos rfl] at hsm
        rcases hJ.out with ⟨rfl, e4⟩ | ⟨b, cap, cs, hne, e4, lb, hbk⟩
        · simp -implicitDefEqProofs [e4, e5]
          intro b r hb
          simp -implicitDefEqProofs [e13]
          refine ⟨i64 (by omega) (by omega), round_ok hlt ?_⟩
          rw [hsm]
          exact ⟨⟨by simp [e0], by simp [e1], by simp [e12], by simp⟩, .inr ⟨b, 1 + r, _, by simp, by simp, by simp, iblk_new k r⟩⟩
        · have hle := hbk.le
          have hlen := hbk.len
          have hdm := dem_row (r := 38) (num_erase hbk.num)
          have hdm2 : List.map (AV.erase0 ∘ demote 38) cs = List.map AV.erase0 cs := by rw [← List.map_map, hdm]
          have hc0 : ¬ cap = 0 := by
            have : l.length ≠ 0 := by simpa using hne
            omega
          simp -implicitDefEqProofs [e4, e5, hc0, lb]
          refine ⟨by omega, by omega, by omega, fun hr => ?_, fun hr b' r hb' => ?_⟩
          · simp -implicitDefEqProofs [e13]
            refine ⟨i64 (by omega) (by omega), round_ok hlt ?_⟩
            rw [hsm]
            exact ⟨⟨by simp [e0], by simp [e1], by simp [e12], by simp⟩, .inr ⟨b, cap, _, by simp, by simp, by simp [hdm], iblk_room hbk k hr⟩⟩
          · simp -implicitDefEqProofs [e13]
            refine ⟨i64 (by omega) (by omega), round_ok hlt ?_⟩
            rw [hsm]
            exact ⟨⟨by simp [e0], by simp [e1], by simp [e12], by simp⟩, .inr ⟨b', l.length + 1 + r, _, by simp, by simp, by simp [hdm2], iblk_grow hbk k r⟩⟩
    · obtain rfl : k = n := by omega
      simp -implicitDefEqProofs
      exact hk0 _ (hJ.ext (by simp) (by simp +contextual))
  intro s hJ
  have hsl := selT_len p n
  generalize selT p n = l at *
  rcases hJ.out with ⟨rfl, e4⟩ | ⟨b, cap, cs, hne, e4, lb, hbk⟩
  · simp -implicitDefEqProofs [e4]
    refine ⟨1, ?_⟩
    simp -implicitDefEqProofs [r73, upd]
  · have hle := hbk.le
    have hlen := hbk.len
    simp -implicitDefEqProofs [e4, lb]
    refine ⟨by omega, fun x hx => by obtain ⟨m, rfl⟩ := hbk.num x hx; rfl, by omega, ?_⟩
    rw [chunk_nums _ _ hbk.cells]
    simp -implicitDefEqProofs [r73, upd]
end Go.Proofs.Ytiampdiobdianaa

namespace Go.Proofs.Ytiampdiobdianaa
open Go.Avm

structure ListR where
  l : List Int
  e : Int
abbrev encLR (r : ListR) : AV := .tuple [IL r.l, I r.e]
theorem err_marks {c : Case} (h : errE c = 0) : c.marks.length ≤ 8 := by
  have := (checkS_part h).1.h5
  omega
def ownedR (c : Case) (y : Int) : ListR :=
  if errE c ≠ 0 then ⟨[], errE c⟩ else
  if out c.printed c.now [y] then ⟨[], 7⟩ else
  if someB c = false then ⟨[], 8⟩ else ⟨ownedS c y, 0⟩

theorem owned28_ok (c : Case) (y : Int) : PCall Try.prog 28 [encCase c, I y] (encLR (ownedR c y)) := by
  refine pcall Try.func28 tr28 rs28 fn28 (by simp [Try.ntmps28]) fun hfit => ?_
  obtain ⟨R, hR⟩ : ∃ R, R = ownedR c y := ⟨_, rfl⟩
  rw [← hR]
  unfold ownedR at hR
  simp -implicitDefEqProofs only [m28]
  refine cutS (fun st => st.env 1 = I y ∧ st.env 2 = caseRef c) ?_ ?_
  · intro k hk
    simp -implicitDefEqProofs
    exact hk _ (by simp)
  rintro s ⟨e1, e2⟩
  by_cases he : errE c = 0
  case neg =>
    rw [if_pos he] at hR
    have hc := enter_no he
    obtain ⟨E, hE⟩ : ∃ E, E = errE c := ⟨_, rfl⟩
    rw [← hE] at hc hR he
    have he' : (E != 0) = true := by simp [he]
    simp -implicitDefEqProofs [e2]
    refine vCall_of hc ?_
    simp -implicitDefEqProofs [he', r28, hR]
  rw [if_neg (not_not_intro he)] at hR
  have hok := Case.ok he
  have hm8 := err_marks he
  have hs := some70_ok hok
  refine cutS (fun st => st.env 1 = I y ∧ st.env 2 = caseRef c ∧ st.env 6 = titleRef c ∧ st.env 7 = I 0) ?_ ?_
  · intro k hk
    simp -implicitDefEqProofs [e2]
    refine vCall_of (enter_yes he) ?_
    simp -implicitDefEqProofs
    exact hk _ (by simp [e1, e2])
  rintro s ⟨e1, e2, e6, e7⟩
  refine cutS (fun st => st.env 1 = I y ∧ st.env 6 = titleRef c ∧ out c.printed c.now [y] = false ∧ someB c = true) ?_ ?_
  · intro k hk
    simp -implicitDefEqProofs [e1, e2, e7]
    refine vCall_of (outside_ok c.printed c.now [y]) ?_
    cases ho : out c.printed c.now [y] with
    | true =>
      rw [ho, if_pos rfl] at hR
      simp -implicitDefEqProofs [r28, hR]
    | false =>
      rw [ho, if_neg (by simp)] at hR
      simp -implicitDefEqProofs [e6]
      refine vCall_of hs ?_
      cases hb : someB c with
      | false =>
        rw [hb, if_pos rfl] at hR
        simp -implicitDefEqProofs [r28, hR]
      | true =>
        simp -implicitDefEqProofs
        exact hk _ ⟨by simp [e1], by simp [e6], ho, hb⟩
  rintro s ⟨e1, e6, ho, hb⟩
  rw [ho, if_neg (by simp), hb, if_neg (by simp)] at hR
  have hi := out_no ho y (by simp)
  simp -implicitDefEqProofs [e1, e6]
  refine vCall_of (owned73_ok hok hm8 hi) ?_
  simp -implicitDefEqProofs [r28, hR]
end Go.Proofs.Ytiampdiobdianaa

namespace Go.Proofs.Ytiampdiobdianaa
open Go.Avm

def nrows (ps : List (ByteArray × Int)) : List (List AV) := ps.map fun p => [S p.1, I p.2]
def kIdx (k : ByteArray) : List (ByteArray × Int) → Nat → Option Nat
  | [], _ => none
  | p :: ps, i => if sEq k p.1 then some i else kIdx k ps (i + 1)
def bump (k : ByteArray) : List (ByteArray × Int) → List (ByteArray × Int)
  | [] => [(k, 1)]
  | p :: ps => if sEq k p.1 then (k, p.2 + 1) :: ps else p :: bump k ps
def valK (k : ByteArray) : List (ByteArray × Int) → Int
  | [] => 0
  | p :: ps => if sEq k p.1 then p.2 else valK k ps
theorem keyAt_n (k : ByteArray) : ∀ (ps : List (ByteArray × Int)) (i : Nat), keyAt (S k) (nrows ps) i = some (kIdx k ps i)
  | [], _ => rfl
  | p :: ps, i => by
    have ih := keyAt_n k ps (i + 1)
    show keyAt (S k) ([S p.1, I p.2] :: nrows ps) i = _
    rw [keyAt, ih]
    show (match some (sEq k p.1) with | some true => _ | some false => _ | none => _) = _
    have e : kIdx k (p :: ps) i = if sEq k p.1 then some i else kIdx k ps (i + 1) := rfl
    rw [e]
    cases sEq k p.1 <;> rfl
theorem kIdx_none {k : ByteArray} : ∀ {ps : List (ByteArray × Int)} {i : Nat}, kIdx k ps i = none → valK k ps = 0 ∧ nrows (bump k ps) = nrows ps ++ [[S k, I 1]]
  | [], _, _ => ⟨rfl, rfl⟩
  | p :: ps, i, h => by
    unfold kIdx at h
    split at h
    · cases h
    rename_i hs
    have ih := kIdx_none h
    unfold valK bump
    rw [if_neg hs, if_neg hs]
    refine ⟨ih.1, ?_⟩
    show _ :: nrows (bump k ps) = _
    rw [ih.2]; rfl
theorem kIdx_some {k : ByteArray} : ∀ {ps : List (ByteArray × Int)} {i j : Nat}, kIdx k ps i = some j → ∃ n, j = i + n ∧ n < ps.length ∧ ((nrows ps).getD n []).getD 1 .any = I (valK k ps) ∧ nrows (bump k ps) = (nrows ps).set n [S k, I (valK k ps + 1)]
  | [], _, _, h => by cases h
  | p :: ps, i, j, h => by
    unfold kIdx at h
    split at h
    · rename_i hs
      injection h with h
      refine ⟨0, h.symm, by simp, ?_, ?_⟩
      · unfold valK; rw [if_pos hs]; rfl
      · unfold bump valK; rw [if_pos hs, if_pos hs]; rfl
    · rename_i hs
      obtain ⟨n, h1, h2, h3, h4⟩ := kIdx_some h
      refine ⟨n + 1, by omega, by simpa using h2, ?_, ?_⟩
      · unfold valK; rw [if_neg hs]; exact h3
      · unfold bump valK; rw [if_neg hs, if_neg hs]
        show _ :: nrows (bump k ps) = _
        rw [h4]; rfl
theorem sEq_trans {a b c : ByteArray} (h : sEq a b = true) : sEq c a = sEq c b := by
  unfold sEq at *
  rw [beq_iff_eq] at h
  rw [h]
theorem valK_bump (k k' : ByteArray) : ∀ ps : List (ByteArray × Int), valK k' (bump k ps) = valK k' ps + if sEq k' k then 1 else 0
  | [] => by unfold bump valK; simp [valK]
  | p :: ps => by
    have ih := valK_bump k k' ps
    unfold bump
    by_cases hs : sEq k p.1 = true
    · rw [if_pos hs]
      unfold valK
      simp only
      rw [← sEq_trans (c := k') hs]
      split <;> simp
    · rw [if_neg hs]
      unfold valK
      by_cases h2 : sEq k' p.1 = true
      · have h3 : ¬ sEq k' k = true := fun h3 => hs (by rw [sEq_comm, sEq_trans (c := p.1) (a := k) (b := k') (by rw [sEq_comm]; exact h3), sEq_comm]; exact h2)
        rw [if_pos h2, if_pos h2, if_neg h3]; simp
      · rw [if_neg h2, if_neg h2, ih]
@[simp] theorem dem_mapAV (r : Nat) (es : List (List AV)) : demote r (mapAV es) = mapAV es := rfl
def bumps (l : List ByteArray) : List (ByteArray × Int) := l.foldl (fun ps k => bump k ps) []
theorem bumps_snoc (l : List ByteArray) (k : ByteArray) : bumps (l ++ [k]) = bump k (bumps l) := by simp [bumps]
theorem valK_fold (k' : ByteArray) : ∀ (l : List ByteArray) (ps : List (ByteArray × Int)), valK k' (l.foldl (fun ps k => bump k ps) ps) = valK k' ps + (l.countP fun k => sEq k' k)
  | [], ps => by simp
  | k :: l, ps => by
    rw [List.foldl_cons, valK_fold k' l, valK_bump, List.countP_cons]
    split <;> simp <;> omega
theorem valK_bumps (k' : ByteArray) (l : List ByteArray) : valK k' (bumps l) = l.countP fun k => sEq k' k := by
  unfold bumps; rw [valK_fold]; simp [valK]
theorem valK_in (k' : ByteArray) (l : List ByteArray) : 0 ≤ valK k' (bumps l) ∧ valK k' (bumps l) ≤ l.length := by
  rw [valK_bumps]
  have := List.countP_le_length (p := fun k => sEq k' k) (l := l)
  omega
theorem valK_pos (k' : ByteArray) (l : List ByteArray) : decide (0 < valK k' (bumps l)) = l.any fun k => sEq k' k := by
  rw [valK_bumps, Bool.eq_iff_iff, decide_eq_true_eq, List.any_eq_true]
  rw [show ((0 : Int) < (l.countP fun k => sEq k' k)) ↔ 0 < l.countP (fun k => sEq k' k) by omega, List.countP_pos_iff]
theorem vLookup_n {P : Program} {ms : List MOp} {K : St → Prop} {s : St} {d b : Nat} {k : ByteArray} {ps : List (ByteArray × Int)} (em : s.env (1000001 + b) = mapAV (nrows ps)) (h : vcs P ms K (s.set d (I (valK k ps)))) :
    vLookup P ms K s d (S k) (some 999) false (I 0) (.mapr b) := by
  refine ⟨_, by rw [oS_eq]; exact em, trivial, ?_⟩
  rw [keyAt_n]
  cases hk : kIdx k ps 0 with
  | none =>
    rw [(kIdx_none hk).1] at h
    exact h
  | some j =>
    obtain ⟨n, h1, h2, h3, h4⟩ := kIdx_some hk
    obtain rfl : j = n := by omega
    simp only [Bool.false_eq_true, if_false]
    rw [h3]
    exact h
theorem vMapUpd_n {P : Program} {ms : List MOp} {K : St → Prop} {s : St} {b : Nat} {k : ByteArray} {ps : List (ByteArray × Int)} (em : s.env (1000001 + b) = mapAV (nrows ps))
    (h : vcs P ms K (s.set (1000001 + b) (mapAV (nrows (bump k ps))))) : vMapUpd P ms K s (S k) (I (valK k ps + 1)) (some 999) (.mapr b) := by
  refine ⟨_, by rw [oS_eq]; exact em, trivial, ?_⟩
  rw [keyAt_n, oS_eq]
  cases hk : kIdx k ps 0 with
  | none =>
    obtain ⟨h1, h2⟩ := kIdx_none hk
    rw [h2] at h
    rw [h1]
    exact h
  | some j =>
    obtain ⟨n, h1, h2, h3, h4⟩ := kIdx_some hk
    obtain rfl : j = n := by omega
    rw [h4] at h
    exact h

def nameAt (c : Case) (o : Int) : ByteArray := (owerAt c o.toNat).name
def bothL (c d : Case) (y : Int) : List Int := (ownedS c y).filter fun o => (ownedS d y).any fun p => sEq (nameAt c o) (nameAt d p)
def bothR (c d : Case) (y : Int) : ListR :=
  if errE c ≠ 0 then ⟨[], errE c⟩ else
  if errE d ≠ 0 then ⟨[], errE d⟩ else
  if out (max c.printed d.printed) (min c.now d.now) [y] then ⟨[], 7⟩ else
  if someB c = false ∨ someB d = false then ⟨[], 8⟩ else ⟨bothL c d y, 0⟩

theorem owned_in {c : Case} {y : Int} {k : Nat} (h : k < (ownedS c y).length) : ∃ j : Nat, (ownedS c y)[k] = j ∧ j < c.owners.length := by
  obtain ⟨j, h1, h2, -⟩ := selT_mem (List.getElem_mem h)
  exact ⟨j, h1, h2⟩

theorem both31_ok (c d : Case) (y : Int) : PCall Try.prog 31 [encCase c, encCase d, I y] (encLR (bothR c d y)) := by
  refine pcall Try.func31 tr31 rs31 fn31 (by simp [Try.ntmps31]) fun hfit => ?_
  obtain ⟨R, hR⟩ : ∃ R, R = bothR c d y := ⟨_, rfl⟩
  rw [← hR]
  unfold bothR at hR
  simp -implicitDefEqProofs only [m31]
  refine cutS (fun st => st.env 2 = I y ∧ st.env 3 = caseRef c ∧ st.env 4 = caseRef d ∧ st.env 6 = .slice 1 [] 7) ?_ ?_
  · intro k hk
    simp -implicitDefEqProofs
    exact hk _ (by simp)
  rintro s ⟨e2, e3, e4, e6⟩
  by_cases he : errE c = 0
  case neg =>
    rw [if_pos he] at hR
    have hc := enter_no he
    obtain ⟨E, hE⟩ : ∃ E, E = errE c := ⟨_, rfl⟩
    rw [← hE] at hc hR he
    have he' : (E != 0) = true := by simp [he]
    simp -implicitDefEqProofs [e3]
    refine vCall_of hc ?_
    simp -implicitDefEqProofs [he', r31, hR]
  rw [if_neg (not_not_intro he)] at hR
  have hok := Case.ok he
  refine cutS (fun st => st.env 2 = I y ∧ st.env 3 = caseRef c ∧ st.env 4 = caseRef d ∧ st.env 6 = .slice 1 [] 7 ∧ st.env 8 = titleRef c ∧ st.env 7 = I 0) ?_ ?_
  · intro k hk
    simp -implicitDefEqProofs [e3]
    refine vCall_of (enter_yes he) ?_
    simp -implicitDefEqProofs
    exact hk _ (by simp [e2, e3, e4, e6])
  rintro s ⟨e2, e3, e4, e6, e8, e7⟩
  refine cutS (fun st => st.env 2 = I y ∧ st.env 3 = caseRef c ∧ st.env 4 = caseRef d ∧ st.env 6 = .slice 1 [] 7 ∧ st.env 8 = titleRef c) ?_ ?_
  · intro k hk
    simp -implicitDefEqProofs [e7]
    exact hk _ (by simp [e2, e3, e4, e6, e8])
  rintro s ⟨e2, e3, e4, e6, e8⟩
  by_cases hd : errE d = 0
  case neg =>
    rw [if_pos hd] at hR
    have hc := enter_no hd
    obtain ⟨E, hE⟩ : ∃ E, E = errE d := ⟨_, rfl⟩
    rw [← hE] at hc hR hd
    have hd' : (E != 0) = true := by simp [hd]
    simp -implicitDefEqProofs [e4]
    refine vCall_of hc ?_
    simp -implicitDefEqProofs [hd', r31, hR]
  rw [if_neg (not_not_intro hd)] at hR
  have hokd := Case.ok hd
  refine cutS (fun st => st.env 2 = I y ∧ st.env 3 = caseRef c ∧ st.env 4 = caseRef d ∧ st.env 6 = .slice 1 [] 7 ∧ st.env 8 = titleRef c ∧ st.env 9 = titleRef d ∧ st.env 7 = I 0) ?_ ?_
  · intro k hk
    simp -implicitDefEqProofs [e4]
    refine vCall_of (enter_yes hd) ?_
    simp -implicitDefEqProofs
    exact hk _ (by simp [e2, e3, e4, e6, e8])
  rintro s ⟨e2, e3, e4, e6, e8, e9, e7⟩
  have hs := some70_ok hok
  have hsd := some70_ok hokd
  obtain ⟨LO, hLO⟩ : ∃ n, n = max c.printed d.printed := ⟨_, rfl⟩
  obtain ⟨HI, hHI⟩ : ∃ n, n = min c.now d.now := ⟨_, rfl⟩
  rw [← hLO, ← hHI] at hR
  refine cutS (fun st => st.env 2 = I y ∧ st.env 3 = caseRef c ∧ st.env 4 = caseRef d ∧ st.env 6 = .slice 1 [] 7 ∧ st.env 8 = titleRef c ∧ st.env 9 = titleRef d ∧ out LO HI [y] = false ∧ someB c = true ∧ someB d = true) ?_ ?_
  · intro k hk
    have m1 : (if c.printed < d.printed then d.printed else c.printed) = LO := by rw [hLO]; split <;> omega
    have m2 : (if d.now < c.now then d.now else c.now) = HI := by rw [hHI]; split <;> omega
    simp -implicitDefEqProofs [e2, e3, e4, e7, m1, m2]
    refine vCall_of (outside_ok LO HI [y]) ?_
    cases ho : out LO HI [y] with
    | true =>
      rw [ho, if_pos rfl] at hR
      simp -implicitDefEqProofs [r31, hR]
    | false =>
      rw [ho, if_neg (by simp)] at hR
      simp -implicitDefEqProofs [e8]
      refine vCall_of hs ?_
      cases hb : someB c with
      | false =>
        rw [hb, if_pos (.inl rfl)] at hR
        simp -implicitDefEqProofs [r31, hR]
      | true =>
        simp -implicitDefEqProofs [e9]
        refine vCall_of hsd ?_
        cases hbd : someB d with
        | false =>
          rw [hbd, if_pos (.inr rfl)] at hR
          simp -implicitDefEqProofs [r31, hR]
        | true =>
          simp -implicitDefEqProofs
          exact hk _ ⟨by simp [e2], by simp [e3], by simp [e4], by simp [e6], by simp [e8], by simp [e9], ho, hb, hbd⟩
  rintro s ⟨e2, e3, e4, e6, e8, e9, ho, hb, hbd⟩
  rw [ho, if_neg (by simp), hb, hbd, if_neg (by simp)] at hR
  have hi := out_no ho y (by simp)
  have hcl := owned73_ok hok (err_marks he) (y := y) (by omega)
  have hcd := owned73_ok hokd (err_marks hd) (y := y) (by omega)
  unfold bothL at hR
  have inC := fun k h => owned_in (c := c) (y := y) (k := k) h
  have inD := fun k h => owned_in (c := d) (y := y) (k := k) h
  have lC : (ownedS c y).length ≤ 6 := Nat.le_trans (selT_len _ _) hok.ownersLen
  have lD : (ownedS d y).length ≤ 6 := Nat.le_trans (selT_len _ _) hokd.ownersLen
  generalize ownedS c y = L at *
  generalize ownedS d y = M at *
  refine cutS (fun st => st.env 2 = I y ∧ st.env 3 = caseRef c ∧ st.env 4 = caseRef d ∧ st.env 6 = .slice 1 [] 7 ∧ st.env 8 = titleRef c ∧ st.env 9 = titleRef d ∧ ∃ b, st.env 10 = .mapr b ∧ st.env (1000001 + b) = mapAV (nrows [])) ?_ ?_
  · intro k hk
    simp -implicitDefEqProofs
    intro b hb1 hb2
    refine hk _ ⟨by simp [e2], by simp [e3], by simp [e4], by simp [e6], by simp [e8], by simp [e9], b, by simp, by simp [nrows]⟩
  rintro s ⟨e2, e3, e4, e6, e8, e9, b, e10, em⟩
  refine cutS (fun st => st.env 2 = I y ∧ st.env 3 = caseRef c ∧ st.env 4 = caseRef d ∧ st.env 6 = .slice 1 [] 7 ∧ st.env 8 = titleRef c ∧ st.env 10 = .mapr b ∧ st.env (1000001 + b) = mapAV (nrows (bumps (M.map (nameAt d))))) ?_ ?_
  · intro k0 hk0
    simp -implicitDefEqProofs [e2, e9]
    refine vCall_of hcd ?_
    simp -implicitDefEqProofs
    refine loop_up M.length (fun k st => st.env 2 = I y ∧ st.env 3 = caseRef c ∧ st.env 4 = caseRef d ∧ st.env 6 = .slice 1 [] 7 ∧ st.env 8 = titleRef c ∧ st.env 10 = .mapr b ∧ st.env (1000001 + b) = mapAV (nrows (bumps ((M.map (nameAt d)).take k))) ∧
      st.env 58 = IL M ∧ st.env 59 = I M.length ∧ st.env 60 = I k) ?_ ?_
    · refine ⟨by simp [e2], by simp [e3], by simp [e4], by simp [e6], by simp [e8], by simp [e10], ?_, by simp, by simp, by simp⟩
      simp [em, bumps, nrows]
    rintro k s hk ⟨e2, e3, e4, e6, e8, e10, em, e58, e59, e60⟩
    simp -implicitDefEqProofs [e59, e60]
    refine cond_dec (fun hlt => ?_) (fun hge => ?_)
    · have hlt : k < M.length := by omega
      obtain ⟨j, hj, hjl⟩ := inD k hlt
      have hsn : bumps ((M.map (nameAt d)).take (k + 1)) = bump (d.owners[j].name) (bumps ((M.map (nameAt d)).take k)) := by
        rw [take_snoc (by simpa using hlt), bumps_snoc, List.getElem_map, hj]
        unfold nameAt owerAt
        rw [Int.toNat_natCast, ower_at hjl]
      have hv := valK_in d.owners[j].name ((M.map (nameAt d)).take k)
      rw [List.length_take] at hv
      generalize bumps ((M.map (nameAt d)).take k) = ps at *
      simp -implicitDefEqProofs [e4, e10, e58, e60, hlt, hj, hjl]
      refine vLookup_n (ps := ps) (by simp [em]) ?_
      simp -implicitDefEqProofs
      refine ⟨i64 (by omega) (by omega), vMapUpd_n (by simp [em]) ?_⟩
      simp -implicitDefEqProofs [e60]
      refine ⟨i64 (by omega) (by omega), round_ok (by omega) ?_⟩
      rw [hsn]
      exact ⟨by simp [e2], by simp [e3], by simp [e4], by simp [e6], by simp [e8], by simp [e10], by simp, by simp [e58], by simp [e59], by simp⟩
    · obtain rfl : k = M.length := by omega
      rw [List.take_of_length_le (by simp)] at em
      simp -implicitDefEqProofs
      exact hk0 _ ⟨by simp [e2], by simp [e3], by simp [e4], by simp [e6], by simp [e8], by simp [e10], by simp [em]⟩
  rintro s ⟨e2, e3, e4, e6, e8, e10, em⟩
  refine cutS (fun st => ∃ r, r ≠ 0 ∧ st.env 6 = .slice 1 (R.l.map I) r) ?_ ?_
  · intro k0 hk0
    simp -implicitDefEqProofs [e2, e8]
    refine vCall_of hcl ?_
    simp -implicitDefEqProofs
    refine loop_up L.length (fun k st => st.env 3 = caseRef c ∧ st.env 10 = .mapr b ∧ st.env (1000001 + b) = mapAV (nrows (bumps (M.map (nameAt d)))) ∧
      st.env 76 = IL L ∧ st.env 77 = I L.length ∧ st.env 78 = I k ∧ st.env 6 = .slice 1 (((L.take k).filter fun o => M.any fun p => sEq (nameAt c o) (nameAt d p)).map I) 7) ?_ ?_
    · refine ⟨by simp [e3], by simp [e10], by simp [em], by simp, by simp, by simp, by simp [e6]⟩
    rintro k s hk ⟨e3, e10, em, e76, e77, e78, e6⟩
    simp -implicitDefEqProofs [e77, e78]
    refine cond_dec (fun hlt => ?_) (fun hge => ?_)
    · have hlt : k < L.length := by omega
      obtain ⟨j, hj, hjl⟩ := inC k hlt
      have hnm : nameAt c L[k] = c.owners[j].name := by
        rw [hj]; unfold nameAt owerAt
        rw [Int.toNat_natCast, ower_at hjl]
      have hv := valK_in c.owners[j].name (M.map (nameAt d))
      have hp := valK_pos c.owners[j].name (M.map (nameAt d))
      rw [List.any_map] at hp
      have hsn : (L.take (k + 1)).filter (fun o => M.any fun p => sEq (nameAt c o) (nameAt d p)) = (L.take k).filter (fun o => M.any fun p => sEq (nameAt c o) (nameAt d p)) ++ if 0 < valK c.owners[j].name (bumps (M.map (nameAt d))) then [(j : Int)] else [] := by
        rw [take_snoc hlt, List.filter_append]
        congr 1
        rw [← hj, List.filter_cons, hnm]
        have : (M.any fun p => sEq c.owners[j].name (nameAt d p)) = decide (0 < valK c.owners[j].name (bumps (M.map (nameAt d)))) := hp.symm
        rw [this]
        simp
      have hfl : ((L.take k).filter (fun o => M.any fun p => sEq (nameAt c o) (nameAt d p))).length ≤ 6 := by
        refine Nat.le_trans (List.length_filter_le _ _) ?_
        rw [List.length_take]; omega
      generalize bumps (M.map (nameAt d)) = ps at *
      generalize (L.take k).filter (fun o => M.any fun p => sEq (nameAt c o) (nameAt d p)) = F at *
      simp -implicitDefEqProofs [e3, e10, e76, e78, hlt, hj, hjl]
      refine vLookup_n (ps := ps) (by simp [em]) ?_
      simp -implicitDefEqProofs
      refine cond_dec (fun hpos => ?_) (fun hpos => ?_)
      · rw [if_pos hpos] at hsn
        simp -implicitDefEqProofs [e6]
        refine ⟨by omega, by omega, ?_⟩
        simp -implicitDefEqProofs [e78]
        refine ⟨i64 (by omega) (by omega), round_ok (by omega) ?_⟩
        rw [hsn]
        exact ⟨by simp [e3], by simp [e10], by simp [em], by simp [e76], by simp [e77], by simp, by simp⟩
      · rw [if_neg hpos, List.append_nil] at hsn
        simp -implicitDefEqProofs [e78]
        refine ⟨i64 (by omega) (by omega), round_ok (by omega) ?_⟩
        rw [hsn]
        exact ⟨by simp [e3], by simp [e10], by simp [em], by simp [e76], by simp [e77], by simp, by simp [e6]⟩
    · obtain rfl : k = L.length := by omega
      rw [List.take_length] at e6
      simp -implicitDefEqProofs
      exact hk0 _ ⟨7, by omega, by simp [e6, hR]⟩
  rintro s ⟨r, hr, e6⟩
  simp -implicitDefEqProofs [e6, hr, r31, hR]
end Go.Proofs.Ytiampdiobdianaa

namespace Go.Proofs.Ytiampdiobdianaa
open Go.Avm

def keptN (p : Nat → Bool) : Nat → Nat
  | 0 => 0
  | k + 1 => keptN p k + if p k then 0 else 1
def newIx (p : Nat → Bool) (j : Nat) : Int := if p j then -1 else keptN p j
def fixM (p : Nat → Bool) (m : Mk) : Mk := ⟨m.owner, m.lo, m.hi, if m.upon = -1 then -1 else newIx p m.upon.toNat⟩
def wUp (l : List Mk) (p : Nat → Bool) : Nat → List Mk
  | 0 => []
  | k + 1 => wUp l p k ++ if p k then [] else [fixM p (l.getD k mkD)]
def withoutC (c : Case) (p : Nat → Bool) : Case := { c with marks := wUp c.marks p c.marks.length }
theorem wUp_len (l : List Mk) (p : Nat → Bool) : ∀ k, (wUp l p k).length = keptN p k
  | 0 => rfl
  | k + 1 => by
    have ih := wUp_len l p k
    unfold wUp keptN
    cases p k <;> simp [ih]
theorem keptN_le (p : Nat → Bool) : ∀ k, keptN p k ≤ k
  | 0 => Nat.le_refl _
  | k + 1 => by
    have := keptN_le p k
    unfold keptN
    split <;> omega
theorem keptN_mono (p : Nat → Bool) : ∀ {k j}, j ≤ k → keptN p j ≤ keptN p k
  | 0, j, h => by rw [Nat.le_zero.1 h]; exact Nat.le_refl _
  | k + 1, j, h => by
    by_cases e : j = k + 1
    · rw [e]; exact Nat.le_refl _
    · have := keptN_mono p (k := k) (j := j) (by omega)
      show _ ≤ keptN p k + _
      omega
theorem keptN_lt {p : Nat → Bool} {j k : Nat} (h : j < k) (hp : p j = false) : keptN p j < keptN p k := by
  have h1 := keptN_mono p (k := k) (j := j + 1) h
  have h2 : keptN p (j + 1) = keptN p j + 1 := by
    show keptN p j + _ = _
    rw [hp]; rfl
  omega
theorem newIx_in {p : Nat → Bool} {j k : Nat} (h : j < k) : -1 ≤ newIx p j ∧ newIx p j < keptN p k + if p k then 1 else 0 := by
  unfold newIx
  have h1 := keptN_mono p (k := k) (j := j) (by omega)
  cases hp : p j with
  | true => simp; omega
  | false =>
    have := keptN_lt h hp
    simp; omega
theorem mem_wUp {l : List Mk} {p : Nat → Bool} : ∀ {k : Nat} {m : Mk}, m ∈ wUp l p k → ∃ j, j < k ∧ p j = false ∧ m = fixM p (l.getD j mkD)
  | 0, m, h => by cases h
  | k + 1, m, h => by
    rcases List.mem_append.1 h with h | h
    · obtain ⟨j, h1, h2⟩ := mem_wUp h
      exact ⟨j, by omega, h2⟩
    · cases hp : p k with
      | true => rw [hp] at h; simp at h
      | false => rw [hp] at h; simp at h; exact ⟨k, by omega, hp, h⟩
theorem wUp_upon {l : List Mk} (p : Nat → Bool) (hu : ∀ i (h : i < l.length), -1 ≤ l[i].upon ∧ l[i].upon < i) : ∀ {k : Nat}, k ≤ l.length → ∀ i (h : i < (wUp l p k).length), -1 ≤ (wUp l p k)[i].upon ∧ (wUp l p k)[i].upon < i
  | 0, _, i, h => by cases h
  | k + 1, hk, i, h => by
    have ih := wUp_upon p hu (k := k) (by omega)
    have hl := wUp_len l p k
    cases hp : p k with
    | true =>
      have e : wUp l p (k + 1) = wUp l p k := by show wUp l p k ++ _ = _; rw [hp]; simp
      simp only [e]
      exact ih i (by rw [e] at h; exact h)
    | false =>
      have e : wUp l p (k + 1) = wUp l p k ++ [fixM p (l.getD k mkD)] := by show wUp l p k ++ _ = _; rw [hp]; simp
      simp only [e]
      rw [e, List.length_append, List.length_singleton] at h
      by_cases hi : i < (wUp l p k).length
      · rw [List.getElem_append_left hi]; exact ih i hi
      · rw [List.getElem_append_right (by omega)]
        have := hu k (by omega)
        have hg : l.getD k mkD = l[k] := by rw [List.getD_eq_getElem?_getD, List.getElem?_eq_getElem (by omega), Option.getD_some]
        simp only [List.getElem_singleton, fixM, hg]
        split
        · omega
        · have := newIx_in (p := p) (j := l[k].upon.toNat) (k := k) (by omega)
          rw [hp] at this
          simp at this
          omega
theorem withoutC_ok {c : Case} (h : c.OK) (p : Nat → Bool) : (withoutC c p).OK := by
  refine ⟨h.years, h.ownersLen, h.owners, ?_, fun m hm => ?_, fun i hi => ?_, h.salesLen, h.sales⟩
  · show (wUp _ _ _).length ≤ 9
    rw [wUp_len]
    exact Nat.le_trans (keptN_le _ _) h.marksLen
  · obtain ⟨j, hj, -, rfl⟩ := mem_wUp hm
    rw [mk_at hj]
    exact h.marks (c.marks[j]) (List.getElem_mem hj)
  · exact wUp_upon p h.upon (Nat.le_refl _) i hi

def vStoreNil (P : Program) (ms : List MOp) (K : St → Prop) (s : St) (oid sz off b : Nat) : Option (List AV) → Prop
  | some cs => off < cs.length ∧ vcs P ms K ((s.dem oid).new b ((cs.map (demote oid)).set off (.slice sz [] oid)))
  | none => False
def vStoreN (P : Program) (ms : List MOp) (K : St → Prop) (s : St) (oid sz : Nat) : AV → Prop
  | .mref b off => vStoreNil P ms K s oid sz off b (s.loc b)
  | _ => False
theorem v_storeNil (P : Program) (ms : List MOp) (K : St → Prop) (s : St) (x : MArg) (sz oid : Nat) : vcs P (.storeNil x sz oid :: ms) K s = vStoreN P ms K s oid sz (x.ev s.env) := by
  unfold vStoreN vStoreNil; rfl
attribute [simp] v_storeNil vStoreN vStoreNil
def ixF (p : Nat → Bool) (k : Nat) (j : Nat) : Int := if j < k then newIx p j else 0
abbrev wCells (c : Case) (l : List Mk) (r : Nat) : List AV := [I c.printed, I c.now, .slice 3 (c.owners.map encOwner) 0, .slice 4 (l.map encMark) r, .slice 3 (c.sales.map encSale) 0, .fmap (soldRows c)]
structure XJ (c : Case) (p : Nat → Bool) (n b5 b6 k : Nat) (s : St) : Prop where
  e : s.env 0 = titleRef c ∧ s.env 1 = I n ∧ s.env 5 = .mref b5 0 ∧ s.env 6 = .mref b6 0 ∧ s.env 18 = .slice 4 (c.marks.map encMark) 0 ∧ s.env 19 = I c.marks.length ∧ s.env 20 = I k
  l5 : s.loc b5 = some (wCells c (wUp c.marks p k) 6003)
  l6 : s.loc b6 = some (cl 8 (ixF p k))
theorem without78_ok {c : Case} (h : c.OK) (h8 : c.marks.length ≤ 8) {n : Nat} (hn : n < 256) : PCall Try.prog 78 [titleRef c, I n] (titleRef (withoutC c fun i => n.testBit i)) := by
  refine pcall Try.func78 tr78 rs78 fn78 (by simp [Try.ntmps78]) fun _ => ?_
  obtain ⟨p, hpn⟩ : ∃ p : Nat → Bool, p = fun i => n.testBit i := ⟨_, rfl⟩
  rw [← hpn]
  have hres : titleRef (withoutC c p) = .ref (wCells c (wUp c.marks p c.marks.length) 0) := by
    show AV.ref (caseCells (withoutC c _) ++ [.fmap (soldRows c)]) = _
    rfl
  rw [hres]
  simp -implicitDefEqProofs only [m78]
  refine cutS (fun st => st.env 0 = titleRef c ∧ st.env 1 = I n) ?_ ?_
  · intro k hk
    simp -implicitDefEqProofs
    exact hk _ (by simp)
  rintro s ⟨e0, e1⟩
  refine cutS (fun st => st.env 0 = titleRef c ∧ st.env 1 = I n ∧ ∃ b, st.env 5 = .mref b 0 ∧ st.loc b = some (titleCells c)) ?_ ?_
  · intro k hk
    simp -implicitDefEqProofs [e0]
    intro b hb
    exact hk _ ⟨by simp [e0], by simp [e1], b, by simp, by simp⟩
  rintro s ⟨e0, e1, b5, e5, l5⟩
  refine cutS (fun st => st.env 0 = titleRef c ∧ st.env 1 = I n ∧ st.env 5 = .mref b5 0 ∧ st.loc b5 = some (wCells c [] 6003)) ?_ ?_
  · intro k hk
    simp -implicitDefEqProofs [e5, l5]
    exact hk _ ⟨by simp [e0], by simp [e1], by simp [e5], by simp⟩
  rintro s ⟨e0, e1, e5, l5⟩
  refine cutS (fun st => st.env 0 = titleRef c ∧ st.env 1 = I n ∧ st.env 5 = .mref b5 0 ∧ st.loc b5 = some (wCells c [] 6003) ∧ ∃ b6, st.env 6 = .mref b6 0 ∧ st.loc b6 = some (cl 8 (ixF p 0)) ∧ b5 ≠ b6) ?_ ?_
  · intro k hk
    simp -implicitDefEqProofs
    intro b hb
    have hne : ¬ b5 = b := by rintro rfl; rw [l5] at hb; cases hb
    exact hk _ ⟨by simp [e0], by simp [e1], by simp [e5], by simp [l5, hne], b, by simp, by simp [cl, ixF, List.range_succ], hne⟩
  rintro s ⟨e0, e1, e5, l5, b6, e6, l6, h56⟩
  have h65 : ¬ b6 = b5 := fun e => h56 e.symm
  have htb : ∀ k, k < 9 → (bitI .and .i64 (Int.fdiv (n : Int) (2 ^ (min k (IntKind.bits .i64)))) 1 == 1) = p k := fun k hk => by
    rw [hpn]
    rcases bit_at (i := k) hn with h | h
    · exact h
    · omega
  refine cutS (fun st => st.env 5 = .mref b5 0 ∧ st.loc b5 = some (wCells c (wUp c.marks p c.marks.length) 6003)) ?_ ?_
  · intro k0 hk0
    simp -implicitDefEqProofs [e0]
    refine loop_up c.marks.length (fun k st => XJ c p n b5 b6 k st) ?_ ?_
    · exact ⟨by simp [e0, e1, e5, e6], by simp [l5, wUp], by simp [l6]⟩
    rintro k s hk hJ
    obtain ⟨e0, e1, e5, e6, e18, e19, e20⟩ := hJ.e
    have l5 := hJ.l5
    have l6 := hJ.l6
    simp -implicitDefEqProofs [e19, e20]
    refine cond_dec (fun hlt => ?_) (fun hge => ?_)
    · have hlt : k < c.marks.length := by omega
      have hup := h.upon k hlt
      have hsuc : wUp c.marks p (k + 1) = wUp c.marks p k ++ if p k then [] else [fixM p c.marks[k]] := by
        show _ ++ _ = _
        rw [mk_at hlt]
      have hlen := wUp_len c.marks p k
      have hkn := keptN_le p k
      generalize hm : c.marks[k] = m at *
      have hix : ∀ v, v = newIx p k → cl 8 (fun j => if j = k then v else ixF p k j) = cl 8 (ixF p (k + 1)) := fun v hv => cl_congr fun g hg => by
        unfold ixF
        by_cases e : g = k
        · subst e; simp [hv]
        · rw [if_neg e]
          by_cases e2 : g < k
          · rw [if_pos e2, if_pos (by omega)]
          · rw [if_neg e2, if_neg (by omega)]
      refine stepB ?_
      refine cutS (fun st => XJ c p n b5 b6 k st ∧ st.env 7 = I k ∧ ∃ b8, st.env 8 = .mref b8 0 ∧ st.loc b8 = some [I m.owner, I m.lo, I m.hi, I m.upon] ∧ b8 ≠ b5 ∧ b8 ≠ b6) ?_ ?_
      · intro k1 hk1
        simp -implicitDefEqProofs [e18, e20, hlt]
        rw [hm]
        intro b hb
        have h5 : ¬ b5 = b := by rintro rfl; rw [l5] at hb; cases hb
        have h6 : ¬ b6 = b := by rintro rfl; rw [l6] at hb; cases hb
        refine hk1 _ ⟨⟨by simp [e0, e1, e5, e6, e18, e19, e20], by simp [l5, h5], by simp [l6, h6]⟩, by simp, b, by simp, by simp, fun e => h5 e.symm, fun e => h6 e.symm⟩
      rintro s ⟨hJ, e7, b8, e8, l8, h85, h86⟩
      have h58 : ¬ b5 = b8 := fun e => h85 e.symm
      have h68 : ¬ b6 = b8 := fun e => h86 e.symm
      obtain ⟨e0, e1, e5, e6, e18, e19, e20⟩ := hJ.e
      have l5 := hJ.l5
      have l6 := hJ.l6
      have hb' := htb k (by omega)
      have hk8 : k < 8 := by omega
      cases hp : p k with
      | true =>
        rw [hp, if_pos rfl, List.append_nil] at hsuc
        rw [hp] at hb'
        simp -implicitDefEqProofs [e1, e6, e7, hb', l6, cl_len, cl_set, e20]
        refine ⟨by omega, by omega, i64 (by omega) (by omega), round_ok hlt ⟨by simp [e0, e1, e5, e6, e18, e19], ?_, ?_⟩⟩
        · rw [hsuc]; simp [l5, h56]
        · simp only [loc_set, loc_new, if_true]
          exact congrArg some (hix _ (by unfold newIx; rw [hp]; rfl))
      | false =>
        rw [hp] at hsuc hb'
        simp only [Bool.false_eq_true, if_false] at hsuc
        obtain ⟨u, hu⟩ : ∃ u, u = (fixM p m).upon := ⟨_, rfl⟩
        refine cutS (fun st => XJ c p n b5 b6 k st ∧ st.env 7 = I k ∧ st.env 8 = .mref b8 0 ∧ st.loc b8 = some [I m.owner, I m.lo, I m.hi, I m.upon]) ?_ ?_
        · intro k1 hk1
          simp -implicitDefEqProofs [e1, e7, hb']
          exact hk1 _ ⟨⟨by simp [e0, e1, e5, e6, e18, e19, e20], by simp [l5], by simp [l6]⟩, by simp [e7], by simp [e8], by simp [l8]⟩
        rintro s ⟨hJ, e7, e8, l8⟩
        obtain ⟨e0, e1, e5, e6, e18, e19, e20⟩ := hJ.e
        have l5 := hJ.l5
        have l6 := hJ.l6
        refine cutS (fun st => XJ c p n b5 b6 k st ∧ st.env 7 = I k ∧ st.env 8 = .mref b8 0 ∧ st.loc b8 = some [I m.owner, I m.lo, I m.hi, I u]) ?_ ?_
        · intro k1 hk1
          by_cases hm1 : m.upon = -1
          · have hm2 : (m.upon != -1) = false := by simp [hm1]
            have huu : u = m.upon := by rw [hu]; unfold fixM; simp [hm1]
            simp -implicitDefEqProofs [e8, l8, hm2]
            exact hk1 _ ⟨⟨by simp [e0, e1, e5, e6, e18, e19, e20], by simp [l5], by simp [l6]⟩, by simp [e7], by simp [e8], by simp [l8, huu]⟩
          · have hm2 : (m.upon != -1) = true := by simp [hm1]
            obtain ⟨v, hv⟩ : ∃ v : Nat, m.upon = v := ⟨m.upon.toNat, by omega⟩
            have huu : u = newIx p v := by rw [hu]; unfold fixM; rw [if_neg hm1, hv, Int.toNat_natCast]
            rw [hv] at hm2
            have hv8 : v < 8 := by omega
            have hat := cl_at (n := 8) (ixF p k) (g := v) (by rw [cl_len]; exact hv8)
            have hix2 : ixF p k v = u := by unfold ixF; rw [if_pos (by omega), huu]
            rw [hix2] at hat
            simp -implicitDefEqProofs [e6, e8, l8, hm2, hv, l6, cl_len, hv8, hat]
            refine ⟨by omega, hk1 _ ⟨⟨by simp [e0, e1, e5, e6, e18, e19, e20], by simp [l5, h58], by simp [l6, h68]⟩, by simp [e7], by simp [e8], by simp⟩⟩
        rintro s ⟨hJ, e7, e8, l8⟩
        obtain ⟨e0, e1, e5, e6, e18, e19, e20⟩ := hJ.e
        have l5 := hJ.l5
        have l6 := hJ.l6
        refine cutS (fun st => st.env 0 = titleRef c ∧ st.env 1 = I n ∧ st.env 5 = .mref b5 0 ∧ st.env 6 = .mref b6 0 ∧ st.env 18 = .slice 4 (c.marks.map encMark) 0 ∧ st.env 19 = I c.marks.length ∧ st.env 20 = I k ∧ st.env 8 = .mref b8 0 ∧ st.loc b8 = some [I m.owner, I m.lo, I m.hi, I u] ∧
            st.loc b5 = some (wCells c (wUp c.marks p k) 6003) ∧ st.loc b6 = some (cl 8 (ixF p (k + 1)))) ?_ ?_
        · intro k1 hk1
          have hixk := hix (keptN p k) (by unfold newIx; rw [hp]; rfl)
          simp -implicitDefEqProofs [e5, e6, e7, l5, l6, cl_len, hlen, cl_set, hixk]
          refine ⟨by omega, by omega, hk1 _ ?_⟩
          simp [e0, e1, e5, e6, e18, e19, e20, e8, l8, h86, l5, h56]
        rintro s ⟨e0, e1, e5, e6, e18, e19, e20, e8, l8, l5, l6⟩
        have hfix : encMark (fixM p m) = .agg [I m.owner, I m.lo, I m.hi, I u] := by rw [hu]; rfl
        have hL : wUp c.marks p (k + 1) = wUp c.marks p k ++ [fixM p m] := hsuc
        generalize wUp c.marks p k = W at *
        simp -implicitDefEqProofs [e5, e8, l5, l8]
        refine ⟨by omega, by omega, ?_⟩
        simp -implicitDefEqProofs [e20]
        refine ⟨i64 (by omega) (by omega), round_ok hlt ⟨by simp [e0, e1, e5, e6, e18, e19], ?_, ?_⟩⟩
        · rw [hL]
          simp [hfix]
        · simp [l6, h65, cl_dem]
    · obtain rfl : k = c.marks.length := by omega
      simp -implicitDefEqProofs
      exact hk0 _ (by simp [e5, l5])
  rintro s ⟨e5, l5⟩
  generalize wUp c.marks p c.marks.length = W at *
  simp -implicitDefEqProofs [e5, l5]
  refine frz_all ?_
  simp -implicitDefEqProofs [r78, upd]
end Go.Proofs.Ytiampdiobdianaa

namespace Go.Proofs.Ytiampdiobdianaa
open Go.Avm

theorem shl_pow {k : Nat} (h : k < 40) : IntKind.wrap .i64 (2 ^ (min k (IntKind.bits .i64))) = ((2 ^ k : Nat) : Int) := by
  have hb : IntKind.bits .i64 = 64 := rfl
  rw [hb, Nat.min_eq_left (by omega)]
  have : ((2 : Int) ^ k) = ((2 ^ k : Nat) : Int) := by simp
  rw [this]
  exact wrap_nat (Nat.lt_of_lt_of_le (Nat.pow_lt_pow_right (by omega) h) (by decide))
theorem cmp_zero : ∀ {a b : List Int}, a.length = b.length → cmpL a b = 0 → a = b
  | [], [], _, _ => rfl
  | [], _ :: _, h, _ => by simp at h
  | _ :: _, [], h, _ => by simp at h
  | x :: xs, y :: ys, hl, h => by
    unfold cmpL at h
    split at h
    · cases h
    · split at h
      · cases h
      · rw [cmp_zero (by simpa using hl) h, show x = y by omega]
theorem cmp_gt {a b : List Int} (hl : a.length = b.length) (hne : a ≠ b) : decide (0 < cmpL a b) = !lexL a b := by
  rw [← cmp_lex]
  rcases Int.lt_trichotomy (cmpL a b) 0 with h | h | h
  · simp [h]; omega
  · exact absurd (cmp_zero hl h) hne
  · have h2 : ¬ cmpL a b < 0 := by omega
    simp [h, h2]

def forgeB (c : Case) (n : Nat) : Bool := someB (withoutC c fun i => n.testBit i)
def forgedR (c : Case) : ListR :=
  if errE c ≠ 0 then ⟨[], errE c⟩ else match bestUp (forgeB c) (2 ^ c.marks.length) with
  | none => ⟨[], 9⟩
  | some b => ⟨bitsL b, 0⟩
def fewI : Option Nat → Int
  | none => -1
  | some b => (bitsL b).length
def fewL : Option Nat → List Int
  | none => []
  | some b => bitsL b

theorem forged33_ok (c : Case) : PCall Try.prog 33 [encCase c] (encLR (forgedR c)) := by
  refine pcall Try.func33 tr33 rs33 fn33 (by simp [Try.ntmps33]) fun hfit => ?_
  obtain ⟨R, hR⟩ : ∃ R, R = forgedR c := ⟨_, rfl⟩
  rw [← hR]
  unfold forgedR at hR
  simp -implicitDefEqProofs only [m33]
  refine cutS (fun st => st.env 1 = caseRef c ∧ st.env 2 = .slice 1 [] 3) ?_ ?_
  · intro k hk
    simp -implicitDefEqProofs
    exact hk _ (by simp)
  rintro s ⟨e1, e2⟩
  by_cases he : errE c = 0
  case neg =>
    rw [if_pos he] at hR
    have hc := enter_no he
    obtain ⟨E, hE⟩ : ∃ E, E = errE c := ⟨_, rfl⟩
    rw [← hE] at hc hR he
    have he' : (E != 0) = true := by simp [he]
    simp -implicitDefEqProofs [e1]
    refine vCall_of hc ?_
    simp -implicitDefEqProofs [he', r33, hR]
  rw [if_neg (not_not_intro he)] at hR
  have hok := Case.ok he
  have h8 := err_marks he
  refine cutS (fun st => st.env 1 = caseRef c ∧ st.env 2 = .slice 1 [] 3 ∧ st.env 4 = titleRef c ∧ st.env 3 = I 0) ?_ ?_
  · intro k hk
    simp -implicitDefEqProofs [e1]
    refine vCall_of (enter_yes he) ?_
    simp -implicitDefEqProofs
    exact hk _ (by simp [e1, e2])
  rintro s ⟨e1, e2, e4, e3⟩
  refine cutS (fun st => st.env 1 = caseRef c ∧ st.env 2 = .slice 1 [] 3 ∧ st.env 4 = titleRef c) ?_ ?_
  · intro k hk
    simp -implicitDefEqProofs [e3]
    exact hk _ (by simp [e1, e2, e4])
  rintro s ⟨e1, e2, e4⟩
  refine cutS (fun st => st.env 1 = caseRef c ∧ st.env 2 = .slice 1 [] 3 ∧ st.env 4 = titleRef c ∧ st.env 5 = I (-1)) ?_ ?_
  · intro k hk
    simp -implicitDefEqProofs
    exact hk _ (by simp [e1, e2, e4])
  rintro s ⟨e1, e2, e4, e5⟩
  obtain ⟨N, hN⟩ : ∃ N, N = 2 ^ c.marks.length := ⟨_, rfl⟩
  have hN256 : N ≤ 256 := by rw [hN]; exact Nat.le_trans (Nat.pow_le_pow_right (by omega) h8) (by decide)
  have hsh := shl_pow (k := c.marks.length) (by omega)
  rw [← hN] at hsh hR
  have hspec := bestUp_spec (forgeB c)
  have hcall : ∀ k, k < 256 → PCall Try.prog 70 [titleRef (withoutC c fun i => k.testBit i)] (B (forgeB c k)) := fun k _ => some70_ok (withoutC_ok hok _)
  generalize hq : forgeB c = q at *
  refine cutS (fun st => ∃ r, st.env 2 = .slice 1 ((fewL (bestUp q N)).map I) r ∧ st.env 5 = I (fewI (bestUp q N))) ?_ ?_
  · intro k0 hk0
    simp -implicitDefEqProofs [e1, hsh]
    refine loop_up N (fun k st => st.env 4 = titleRef c ∧ st.env 20 = I N ∧ st.env 21 = I k ∧ (∃ r, st.env 2 = .slice 1 ((fewL (bestUp q k)).map I) r) ∧ st.env 5 = I (fewI (bestUp q k))) ?_ ?_
    · refine ⟨by simp [e4], by simp, by simp, ⟨3, by simp [e2, bestUp, fewL]⟩, by simp [e5, bestUp, fewI]⟩
    rintro k s hk ⟨e4, e20, e21, ⟨r, e2⟩, e5⟩
    simp -implicitDefEqProofs [e20, e21]
    refine cond_dec (fun hlt => ?_) (fun hge => ?_)
    · have hlt : k < N := by omega
      have hsp := hspec k (by omega)
      refine stepB ?_
      refine cutS (fun st => st.env 4 = titleRef c ∧ st.env 20 = I N ∧ st.env 21 = I k ∧ st.env 2 = .slice 1 ((fewL (bestUp q k)).map I) r ∧ st.env 5 = I (fewI (bestUp q k)) ∧ st.env 6 = I k) ?_ ?_
      · intro k1 hk1
        simp -implicitDefEqProofs [e21]
        exact hk1 _ (by simp [e4, e20, e21, e2, e5])
      rintro s ⟨e4, e20, e21, e2, e5, e6⟩
      have hw := wrapu_nat (a := k) (by omega)
      refine cutS (fun st => st.env 4 = titleRef c ∧ st.env 20 = I N ∧ st.env 21 = I k ∧ st.env 2 = .slice 1 ((fewL (bestUp q k)).map I) r ∧ st.env 5 = I (fewI (bestUp q k)) ∧ st.env 6 = I k ∧ st.env 7 = I (bitsL k).length) ?_ ?_
      · intro k1 hk1
        simp -implicitDefEqProofs [e6, hw]
        refine vCall_of (ones75_ok k (by omega)) ?_
        simp -implicitDefEqProofs
        exact hk1 _ (by simp [e4, e20, e21, e2, e5, e6])
      rintro s ⟨e4, e20, e21, e2, e5, e6, e7⟩
      refine cutS (fun st => st.env 4 = titleRef c ∧ st.env 20 = I N ∧ st.env 21 = I k ∧ st.env 2 = .slice 1 ((fewL (bestUp q k)).map I) r ∧ st.env 5 = I (fewI (bestUp q k)) ∧ st.env 6 = I k ∧ st.env 7 = I (bitsL k).length ∧ st.env 8 = IL (bitsL k)) ?_ ?_
      · intro k1 hk1
        simp -implicitDefEqProofs [e6]
        refine vCall_of (list_ok (n := k) (by omega)) ?_
        simp -implicitDefEqProofs
        exact hk1 _ (by simp [e4, e20, e21, e2, e5, e6, e7])
      rintro s ⟨e4, e20, e21, e2, e5, e6, e7, e8⟩
      have hstep : (bestUp q (k + 1) = bestUp q k ∧ ∃ b, bestUp q k = some b ∧ lessL (bitsL k) (bitsL b) = false) ∨ (bestUp q (k + 1) = (if q k then some k else bestUp q k) ∧ ∀ b, bestUp q k = some b → lessL (bitsL k) (bitsL b) = true) := by
        cases hb : bestUp q k with
        | none =>
          right
          refine ⟨?_, fun b h => by cases h⟩
          rw [bestUp, hb]
        | some b =>
          cases hl : lessL (bitsL k) (bitsL b) with
          | false =>
            left
            refine ⟨?_, b, rfl, hl⟩
            rw [bestUp, hb]
            simp [hl]
          | true =>
            right
            refine ⟨?_, fun b' h => by injection h with h; rw [← h, hl]⟩
            rw [bestUp, hb]
            simp [hl]
      rcases hstep with ⟨hnx, b, hb, hl⟩ | ⟨hnx, hl⟩
      · rw [hb] at e2 e5 hnx hsp
        have e5 : s.env 5 = I (bitsL b).length := e5
        have hne : bitsL k ≠ bitsL b := fun e => by have := bitsL_inj (by omega) (by have := hsp.1; omega) e; have := hsp.1; omega
        have h0 : (0 : Int) ≤ (bitsL b).length := by omega
        have hfin : ∀ s : St, s.env 4 = titleRef c → s.env 20 = I N → s.env 2 = .slice 1 ((fewL (some b)).map I) r → s.env 5 = I (bitsL b).length → RoundOK N (fun k st => st.env 4 = titleRef c ∧ st.env 20 = I N ∧ st.env 21 = I k ∧ (∃ r, st.env 2 = .slice 1 ((fewL (bestUp q k)).map I) r) ∧ st.env 5 = I (fewI (bestUp q k))) k ((s.set 53 (I ((k : Int) + 1))).set 21 (I ((k : Int) + 1))) := by
          intro s e4 e20 e2 e5
          refine round_ok hlt ?_
          rw [hnx]
          exact ⟨by simp [e4], by simp [e20], by simp, ⟨r, by simp [e2]⟩, by simp [e5, fewI]⟩
        by_cases h1 : (bitsL b).length < (bitsL k).length
        · have g1 : ((bitsL b).length : Int) < (bitsL k).length := by omega
          simp -implicitDefEqProofs [e5, e7, e21, h0, h1]
          exact ⟨i64 (by omega) (by omega), hfin _ (by simp [e4]) (by simp [e20]) (by simp [e2]) (by simp [e5])⟩
        · have h2 : (bitsL k).length = (bitsL b).length := by
            unfold lessL at hl
            by_cases e : (bitsL k).length = (bitsL b).length
            · exact e
            · rw [if_pos e] at hl
              simp at hl
              omega
          have hg := cmp_gt h2 hne
          have hl2 : lexL (bitsL k) (bitsL b) = false := by
            unfold lessL at hl
            rwa [if_neg (not_not_intro h2)] at hl
          rw [hl2] at hg
          have hg' : 0 < cmpL (bitsL k) (bitsL b) := by simpa using hg
          have hc := compare_ok _ _ h2
          have e2' : s.env 2 = .slice 1 ((bitsL b).map I) r := e2
          simp -implicitDefEqProofs [e2', e5, e7, e8, h0, h2]
          refine vCall_of hc ?_
          simp -implicitDefEqProofs [hg', e21]
          exact ⟨i64 (by omega) (by omega), hfin _ (by simp [e4]) (by simp [e20]) (by simp [e2]) (by simp [e5])⟩
      · refine cutS (fun st => st.env 4 = titleRef c ∧ st.env 20 = I N ∧ st.env 21 = I k ∧ st.env 2 = .slice 1 ((fewL (bestUp q k)).map I) r ∧ st.env 5 = I (fewI (bestUp q k)) ∧ st.env 6 = I k ∧ st.env 7 = I (bitsL k).length ∧ st.env 8 = IL (bitsL k)) ?_ ?_
        · intro k1 hk1
          cases hb : bestUp q k with
          | none =>
            rw [hb] at e5
            have e5 : s.env 5 = I (-1) := e5
            simp -implicitDefEqProofs [e5]
            exact hk1 _ (by simp [e4, e20, e21, e2, e5, e6, e7, e8, hb, fewI])
          | some b =>
            have hl := hl b hb
            rw [hb] at hsp
            have e5' : s.env 5 = I (bitsL b).length := by rw [e5, hb]; rfl
            have e2' : s.env 2 = .slice 1 ((bitsL b).map I) r := by rw [e2, hb]; rfl
            have h0 : (0 : Int) ≤ (bitsL b).length := by omega
            have hne : bitsL k ≠ bitsL b := fun e => by have := bitsL_inj (by omega) (by have := hsp.1; omega) e; have := hsp.1; omega
            unfold lessL at hl
            by_cases h2 : (bitsL k).length = (bitsL b).length
            · rw [if_neg (not_not_intro h2)] at hl
              have hg := cmp_gt h2 hne
              rw [hl] at hg
              have hg' : ¬ 0 < cmpL (bitsL k) (bitsL b) := by simpa using hg
              have hc := compare_ok _ _ h2
              simp -implicitDefEqProofs [e2', e5', e7, e8, h0, h2]
              refine vCall_of hc ?_
              simp -implicitDefEqProofs [hg']
              exact hk1 _ (by simp [e4, e20, e21, e2, e5, e6, e7, e8])
            · rw [if_pos h2] at hl
              have hl : (bitsL k).length < (bitsL b).length := by simpa using hl
              have h3 : ¬ (bitsL b).length < (bitsL k).length := by omega
              have h4 : (((bitsL k).length : Int) == ((bitsL b).length : Int)) = false := by simp; omega
              simp -implicitDefEqProofs [e5', e7, h0, h3, h4]
              exact hk1 _ (by simp [e4, e20, e21, e2, e5, e6, e7, e8])
        rintro s ⟨e4, e20, e21, e2, e5, e6, e7, e8⟩
        simp -implicitDefEqProofs [e4, e6]
        refine vCall_of (without78_ok hok h8 (n := k) (by omega)) ?_
        simp -implicitDefEqProofs
        refine vCall_of (hcall k (by omega)) ?_
        simp -implicitDefEqProofs
        refine cond_bool (fun hqk => ?_) (fun hqk => ?_)
        · rw [hqk, if_pos rfl] at hnx
          simp -implicitDefEqProofs [e7, e8, e21]
          refine ⟨i64 (by omega) (by omega), round_ok hlt ?_⟩
          rw [hnx]
          exact ⟨by simp [e4], by simp [e20], by simp, ⟨0, by simp [fewL]⟩, by simp [fewI]⟩
        · rw [hqk, if_neg (by simp)] at hnx
          simp -implicitDefEqProofs [e21]
          refine ⟨i64 (by omega) (by omega), round_ok hlt ?_⟩
          rw [hnx]
          exact ⟨by simp [e4], by simp [e20], by simp, ⟨r, by simp [e2]⟩, by simp [e5]⟩
    · obtain rfl : k = N := by omega
      simp -implicitDefEqProofs
      exact hk0 _ ⟨r, by simp [e2], by simp [e5]⟩
  rintro s ⟨r, e2, e5⟩
  cases hb : bestUp q N with
  | none =>
    rw [hb] at e5 hR
    simp -implicitDefEqProofs [e5, fewI, r33, hR]
  | some b =>
    rw [hb] at e2 e5 hR
    have e5 : s.env 5 = I (bitsL b).length := e5
    have e2 : s.env 2 = .slice 1 ((bitsL b).map I) r := e2
    have h0 : ¬ ((bitsL b).length : Int) < 0 := by omega
    by_cases hr : r = 0
    · subst hr
      simp -implicitDefEqProofs [e5, h0, e2, r33, hR]
    · simp -implicitDefEqProofs [e5, h0, e2, hr, r33, hR]
end Go.Proofs.Ytiampdiobdianaa
