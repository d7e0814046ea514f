/- Each resolved operation is sound: stores, literals, appends, calls. -/
import Derived.Test.YtcfeipphmklakaaAvm7
namespace Go.Avm
open Go.RowKit

section
variable {P : Program} {N : Nat} {s : St} {a : Act} {w : World} {A : Area} {sp : Sp} {K : St → Prop} {next : Act → World → Prop} {Q : Exit → Act → World → Prop}
  {o : Oper} {d : Nat}

theorem cells_oneCell {x : AV} {v : Value} (hr : ∀ i, RV w A (x.cells.getD i .any) (v.cells.getD i undef)) (hs : v.cells.size = x.cells.length) (hc : x.cells.all AV.cell1 = true) :
    ∀ u ∈ v.cells.toList, u.oneCell' = true := by
  intro u hu
  obtain ⟨i, hi, rfl⟩ := List.getElem_of_mem hu
  have hi' : i < x.cells.length := by simpa [hs] using hi
  have h1 := hr i
  rw [List.getD_eq_getElem?_getD, List.getElem?_eq_getElem hi', Array.getD_eq_getD_getElem?, Array.getElem?_eq_getElem (by simpa using hi)] at h1
  exact h1.oneCell ((List.all_eq_true.1 hc) _ (by simp))

theorem s_store {t : TypeId} {x y : Operand} {mx my : MArg} {n oid : Nat} (hop : o.op = .store t x y) (hd : o.dst = none) (hx : argOf x = some mx) (hy : argOf y = some my) (hz : szOf P t = some n) (hn0 : 0 < n)
    (h : RS N s a w A sp) (hv : vc1 P (.store mx my n oid) s K) (hn : Next s w A sp N K next) : o.wp P a w next Q := by
  have h1 := (argOf_sound h hx).1
  have h2 := argOf_sound h hy
  simp only [vc1, storeK] at hv
  generalize hmy : my.ev s.env = y' at h2 hv
  split at hv
  · rename_i b off e1
    rw [e1] at h1
    generalize hv0 : a.eval x = v0 at h1
    cases h1
    split at hv
    · rename_i cs hb
      obtain ⟨hoff, hl, hc1, hv⟩ := hv
      obtain ⟨vs, T, hh, hsz, hr⟩ := h.loc b cs hb
      obtain ⟨hs2, hr2⟩ := h2.1.cells_of (by intro e; rw [e] at hl; simp at hl; omega)
      have hrun := storeAt_run (P := P) (w := w) hz hh (v := a.eval y) (off := off) (by omega) (by omega) (cells_oneCell hr2 hs2 hc1)
      have hrow : ∀ (sp' : Sp) (cs' ys : List AV), cs'.length = cs.length → (∀ i, RV w A (cs'.getD i .any) (vs.getD i undef) ∧ OwnOK sp' (cs'.getD i .any) (vs.getD i undef)) →
          ys.length = n → (∀ i, RV w A (ys.getD i .any) ((a.eval y).cells.getD i undef) ∧ OwnOK sp' (ys.getD i .any) ((a.eval y).cells.getD i undef)) →
          ∀ i, RV w A ((splice cs' off ys).getD i .any) ((vs.toList.take off ++ (a.eval y).cells.toList ++ vs.toList.drop (off + n)).toArray.getD i undef) ∧
            OwnOK sp' ((splice cs' off ys).getD i .any) ((vs.toList.take off ++ (a.eval y).cells.toList ++ vs.toList.drop (off + n)).toArray.getD i undef) := by
        intro sp' cs' ys hcs' hr' hys hry i
        have e := row_getD vs (a.eval y).cells.toList off i (by simp; omega)
        simp only [Array.length_toList, hs2, hl] at e
        rw [e, splice_getD _ _ _ _ (by omega), hys]
        split
        · have := hry (i - off)
          simpa [List.getD_eq_getElem?_getD, Array.getD_eq_getD_getElem?] using this
        · exact hr' i
      have hrun' : (execOp a.eval o).run P w = .ok .skip (w.setRow b (vs.toList.take off ++ (a.eval y).cells.toList ++ vs.toList.drop (off + n)).toArray) := by
        simp only [execOp, hop, hv0, Sem.run_bind, hrun, Result.andThen_ok, Sem.run_pure]
      have hsize : ∀ cs' : List AV, cs'.length = cs.length → ((vs.toList.take off ++ (a.eval y).cells.toList ++ vs.toList.drop (off + n)).toArray).size = cs'.length := by
        intro cs' hcs'
        simp only [List.size_toArray, List.length_append, List.length_take, List.length_drop, Array.length_toList]
        omega
      have plain : K (s.new b (splice cs off (y'.cells.map AV.erase0))) → o.wp P a w next Q := by
        intro hk
        refine fin0 (h.setRow hb hh (hsize _ (splice_len _ _ _)) (hrow sp cs _ rfl hr (by simpa using hl) (fun i => ?_))) (RS.evSetRow _ _ hb) hd hrun' hk hn
        rw [getD_erase0]
        exact ⟨(hr2 i).erase0, .erase0⟩
      split at hv
      · rename_i sz xs r
        split at hv
        · exact plain hv
        · rename_i hro
          have hr0 : r ≠ 0 := fun e => hro (.inl e)
          have ho0 : oid ≠ 0 := fun e => hro (.inr e)
          have h' := h.rename r oid ho0
          have hb' : ((s.dem r).dem oid).loc b = some (cs.map fun x => demote oid (demote r x)) := by simp [St.dem, hb]
          obtain ⟨vs', T', hh', hsz', hr'⟩ := h'.loc b _ hb'
          rw [hh] at hh'; injection hh' with hh'; injection hh' with e1 e2 e3; subst e1
          have hl1 : n = 1 := hl.symm
          refine fin0 (h'.setRow (cs := (cs.map fun x => demote oid (demote r x)).set off (.slice sz xs oid)) hb' hh (hsize _ (by simp)) (hrow _ (cs.map fun x => demote oid (demote r x)) [.slice sz xs oid] (by simp) hr' (by simp [hl1]) (fun i => ?_))) ?_ hd hrun' hv hn
          · have e5 : (a.eval y).cells.getD i undef = if i = 0 then a.eval y else undef := by
              have h3 := h2.1
              generalize a.eval y = vy at h3 ⊢
              cases h3 <;> cases i <;> rfl
            rw [e5]
            cases i with
            | zero =>
              refine ⟨h2.1.own, ?_⟩
              rcases own_sp hr0 h2.2 h2.1 with e | ⟨b', off', cap, e, _, e4⟩
              · rw [if_pos rfl, e]; trivial
              · rw [if_pos rfl, e]; exact .inr (by simp [upd, e4])
            | succ i => exact ⟨.any _, trivial⟩
          · exact (Ev.same fun b o => live_rename r oid).trans (RS.evSetRow _ _ hb')
      · exact plain hv
    · exact hv.elim
  · exact hv.elim

theorem s_storeNil {t : TypeId} {x : Operand} {mx : MArg} {sz oid : Nat} (hop : o.op = .store t x (.const (.slice none 0 0))) (hd : o.dst = none) (hx : argOf x = some mx) (hz : szOf P t = some 1) (ho0 : oid ≠ 0)
    (h : RS N s a w A sp) (hv : vc1 P (.storeNil mx sz oid) s K) (hn : Next s w A sp N K next) : o.wp P a w next Q := by
  have h1 := (argOf_sound h hx).1
  simp only [vc1] at hv
  split at hv
  · rename_i b off e1
    rw [e1] at h1
    generalize hv0 : a.eval x = v0 at h1
    cases h1
    split at hv
    · rename_i cs hb
      obtain ⟨hoff, hv⟩ := hv
      have h' := h.dem oid
      have hb' : (s.dem oid).loc b = some (cs.map (demote oid)) := by simp [St.dem, hb]
      obtain ⟨vs, T, hh, hsz, hr⟩ := h'.loc b _ hb'
      rw [List.length_map] at hsz
      have hrun := storeAt_run (P := P) (w := w) hz hh (v := .slice none 0 0) (off := off) rfl (by omega) (by intro u hu; simp [Value.cells] at hu; rw [hu]; rfl)
      refine fin0 (h'.setRow hb' hh (vs := (vs.toList.take off ++ (Value.slice none 0 0).cells.toList ++ vs.toList.drop (off + 1)).toArray) ?_ (fun i => ?_)) ((Ev.dem oid).trans (RS.evSetRow _ _ hb')) hd
        (by have hcv : a.eval (.const (.slice none 0 0)) = .slice none 0 0 := rfl
            simp only [execOp, hop, hv0, hcv, Sem.run_bind, hrun, Result.andThen_ok, Sem.run_pure]) hv hn
      · simp [Value.cells]; omega
      · have e := row_getD vs [.slice none 0 0] off i (by simp; omega)
        simp only [List.length_singleton] at e
        show RV w A (((cs.map (demote oid)).set off (.slice sz [] oid)).getD i .any) ((vs.toList.take off ++ [Value.slice none 0 0] ++ vs.toList.drop (off + 1)).toArray.getD i undef) ∧ _
        have e2 := splice_getD [.slice sz [] oid] (cs.map (demote oid)) off i (by simp; omega)
        simp only [splice, List.length_singleton] at e2
        simp only [Value.cells] 
        rw [e2]
        show _ ∧ OwnOK _ _ ((vs.toList.take off ++ [Value.slice none 0 0] ++ vs.toList.drop (off + 1)).toArray.getD i undef)
        rw [e]
        split
        · have : i - off = 0 := by omega
          rw [this]
          exact ⟨.nils _ _, trivial⟩
        · exact hr i
    · exact hv.elim
  · exact hv.elim

/-- A block that is never written again. -/
theorem RS.freeze (h : RS N s a w A sp) {b k : Nat} {cs : List AV} (hk : s.env k = .mref b 0) (hb : s.loc b = some cs) :
    RS N ⟨upd s.env k (.ref (cs.map AV.erase0)), upd s.loc b none⟩ a w (fun c o => A c o ∨ (c = b ∧ o < cs.length)) sp ∧
      Ev w A (live s.loc sp) w (fun c o => A c o ∨ (c = b ∧ o < cs.length)) (live (upd s.loc b none) sp) := by
  obtain ⟨vs, T, hh, hsz, hr⟩ := h.loc b cs hb
  have hlive : ∀ {c o}, live (upd s.loc b none) sp c o → live s.loc sp c o := by
    rintro c o (hl | hl)
    · refine .inl fun hn => hl ?_
      simp only [upd]
      split
      · rfl
      · exact hn
    · exact .inr hl
  have hm : ∀ {x v}, RV w A x v → RV w (fun c o => A c o ∨ (c = b ∧ o < cs.length)) x v := fun hx => hx.mono fun _ _ _ ha hv => ⟨hv, .inl ha⟩
  have hspare : ∀ o, ¬ spare sp b o := by
    rintro o ⟨r, h1, h2, h3⟩
    have := (h.spb r (by omega)).2
    rw [h1, hb] at this; cases this
  refine ⟨⟨h.size, h.defers, fun d => ?_, fun c cs' hc => ?_, fun r hr' => ?_, h.spd, fun c o ha => ?_⟩, rfl, rfl, rfl, Nat.le_refl _, fun c o _ hl => ⟨rfl, fun hl' => hl (hlive hl')⟩, fun _ _ _ => rfl, fun _ _ ha => .inl ha, fun c o ha => ?_⟩
  · by_cases e : d = k
    · subst e
      simp only [upd_same]
      have := (h.env d).1
      rw [hk] at this
      generalize a.tmps.getD d undef = v at this
      cases this
      refine ⟨.ref _ _ _ (fun i => vs.getD i undef) (fun i hi => ⟨?_, .inr ⟨rfl, by simpa using hi⟩⟩) (fun i => by rw [getD_erase0]; exact hm (hr i).1.erase0), trivial⟩
      simp at hi
      simp [World.cell?, hh, Array.getD_eq_getD_getElem?, Array.getElem?_eq_getElem (show i < vs.size by omega)]
    · simp only [upd_ne _ _ e]; exact ⟨hm (h.env d).1, (h.env d).2⟩
  · simp only [upd] at hc
    split at hc
    · cases hc
    · obtain ⟨vs', T', g1, g2, g3⟩ := h.loc c cs' hc
      exact ⟨vs', T', g1, g2, fun i => ⟨hm (g3 i).1, (g3 i).2⟩⟩
  · obtain ⟨g1, g2⟩ := h.spb r hr'
    refine ⟨g1, ?_⟩
    simp only [upd]
    split
    · rfl
    · exact g2
  · rcases ha with ha | ⟨rfl, ho⟩
    · exact ⟨(h.av c o ha).1, fun hl => (h.av c o ha).2 (hlive hl)⟩
    · refine ⟨lt_of_heap hh, ?_⟩
      rintro (hl | hl)
      · exact hl (by simp [upd])
      · exact hspare o hl
  · rcases ha with ha | ⟨rfl, ho⟩
    · exact .inl ha
    · exact .inr (.inl (.inl (by rw [hb]; simp)))

theorem map_erase0 (l : List AV) : (l.map AV.erase0).map AV.erase0 = l.map AV.erase0 := by
  rw [List.map_map]
  congr 1
  funext x
  cases x <;> rfl

theorem splice_all : ∀ (ys cs : List AV), ys.length = cs.length → splice cs 0 ys = ys := by
  intro ys cs h
  apply List.ext_getElem?
  intro i
  by_cases hi : i < ys.length
  · have e : (splice cs 0 ys).getD i .any = ys.getD i .any := by rw [splice_getD _ _ _ _ (by omega), if_pos (by omega), Nat.sub_zero]
    rw [List.getD_eq_getElem?_getD, List.getD_eq_getElem?_getD, List.getElem?_eq_getElem (by rw [splice_len]; omega), List.getElem?_eq_getElem hi] at e
    rw [List.getElem?_eq_getElem (by rw [splice_len]; omega), List.getElem?_eq_getElem hi]
    simpa using e
  · rw [List.getElem?_eq_none (by rw [splice_len]; omega), List.getElem?_eq_none (by omega)]

theorem s_storeF {t : TypeId} {k : Nat} {y : Operand} {my : MArg} {n : Nat} (hop : o.op = .store t (.tmp k) y) (hd : o.dst = none) (hy : argOf y = some my) (hz : szOf P t = some n) (hn0 : 0 < n)
    (h : RS N s a w A sp) (hv : vc1 P (.storeF k my n) s K) (hn : Next s w A sp N K next) : o.wp P a w next Q := by
  simp only [vc1] at hv
  split at hv
  · rename_i b hk
    split at hv
    · rename_i cs hb
      obtain ⟨hcs, hl, hc1, hv⟩ := hv
      -- first the store, then the freezing
      obtain ⟨y', hy'⟩ : ∃ y', y' = my.ev s.env := ⟨_, rfl⟩
      rw [← hy'] at hl hc1 hv
      let K' : St → Prop := fun s' => s' = s.new b (y'.cells.map AV.erase0)
      have hvs : vc1 P (.store (.t k) my n 0) s K' := by
        show storeK s (s.env k) (my.ev s.env) n 0 K'
        rw [← hy']
        simp only [storeK, hk, hb]
        refine ⟨by omega, hl, hc1, ?_⟩
        have hsp := splice_all (y'.cells.map AV.erase0) cs (by simp; omega)
        show _
        cases y' <;> simp only [or_true, if_true] <;> first
          | (show _ = _; rw [hsp])
          | (show St.new s b (splice cs 0 [AV.slice _ _ 0]) = St.new s b [AV.slice _ _ 0]; exact congrArg (St.new s b) hsp)
      refine s_store hop hd rfl hy hz hn0 h hvs fun s' a' w' A' sp' hk' hr hev => ?_
      subst hk'
      obtain ⟨f1, f2⟩ := hr.freeze (b := b) (k := k) (cs := y'.cells.map AV.erase0) hk (by simp [St.new, upd])
      have e1 : upd (s.new b (y'.cells.map AV.erase0)).loc b none = upd s.loc b none := by
        funext c; simp only [St.new, upd]; split <;> rfl
      rw [map_erase0, e1] at f1
      rw [e1] at f2
      exact hn _ _ _ _ _ hv f1 (hev.trans f2)
    · exact hv.elim
  · exact hv.elim

end
end Go.Avm
