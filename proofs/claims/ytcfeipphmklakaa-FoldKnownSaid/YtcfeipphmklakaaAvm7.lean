/- Each resolved operation is sound: those that make or write. -/
import Derived.Test.YtcfeipphmklakaaAvm6
namespace Go.Avm
open Go.RowKit

section
variable {P : Program} {N : Nat} {s : St} {a : Act} {w : World} {A : Area} {sp : Sp} {K : St → Prop} {next : Act → World → Prop} {Q : Exit → Act → World → Prop}
  {o : Oper} {d : Nat}

theorem Ev.same {L L' : Area} (h : ∀ b o, L' b o → L b o) : Ev w A L w A L' :=
  ⟨rfl, rfl, rfl, Nat.le_refl _, fun _ _ _ hl => ⟨rfl, fun h' => hl (h _ _ h')⟩, fun _ _ _ => rfl, fun _ _ h => h, fun _ _ h => .inl h⟩

theorem own_sp {sz : Nat} {xs : List AV} {r : Nat} (hr : r ≠ 0) {v : Value} (h : OwnOK sp (.slice sz xs r) v) (hv : RV w A (.slice sz xs r) v) :
    v = .slice none 0 0 ∨ ∃ b off cap, v = .slice (some ⟨b, off, none⟩) xs.length cap ∧ xs.length ≤ cap ∧ sp r = (b, off + xs.length * sz, off + cap * sz) := by
  cases hv with
  | nils => exact .inl rfl
  | slice _ _ _ b off cap vs hsz h1c hcap hlen hc hr' => exact .inr ⟨b, off, cap, rfl, hcap, h.resolve_left hr⟩

/-- The owner's mark goes from r to q. -/
theorem RS.rename (h : RS N s a w A sp) (r q : Nat) (hq : q ≠ 0) : RS N ((s.dem r).dem q) a w A (upd (upd (upd sp r (0, 0, 0)) q (0, 0, 0)) q (sp r)) := by
  have h2 := (h.dem r).dem q
  refine h2.newSpare q (dem_env_ne _ _ hq) (dem_loc_ne _ _ hq) (sp r).1 (sp r).2.1 (sp r).2.2 (fun hlt => ?_) (fun q' hne hlt hq' he => ?_) (fun o ho => ?_)
  · obtain ⟨h3, h4⟩ := h.spb r hlt
    exact ⟨h3, by simp [St.dem, h4]⟩
  · simp only [upd, hne, if_false] at hq' he ⊢
    by_cases e : q' = r
    · simp only [e, if_true] at hq'; omega
    · simp only [e, if_false] at hq' he ⊢
      exact h.spd q' r e hq' hlt he
  · have := (h.av _ _ ho).2
    by_cases e : o < (sp r).2.1 ∨ (sp r).2.2 ≤ o
    · exact e
    · exact absurd (.inr ⟨r, rfl, by omega, by omega⟩) this

theorem live_rename (r q : Nat) {b o : Nat} (h : live ((s.dem r).dem q).loc (upd (upd (upd sp r (0, 0, 0)) q (0, 0, 0)) q (sp r)) b o) : live s.loc sp b o := by
  rcases h with h | ⟨k, hk⟩
  · exact .inl (by intro hn; exact h (by simp [St.dem, hn]))
  · by_cases e : k = q
    · simp only [upd, e, if_true] at hk; exact .inr ⟨r, hk⟩
    · by_cases e2 : k = r
      · subst e2; simp only [upd, e, if_false, if_true] at hk; omega
      · simp only [upd, e, e2, if_false] at hk; exact .inr ⟨k, hk⟩

theorem s_asg {x : Operand} {m : MArg} (hop : o.op = .assign x) (hd : o.dst = some d) (hN : d < N) (hx : argOf x = some m)
    (h : RS N s a w A sp) (hv : K (asgSt s d (m.ev s.env))) (hn : Next s w A sp N K next) : o.wp P a w next Q := by
  have h1 := (argOf_sound h hx).1
  have h2 := (argOf_sound h hx).2
  have hrun : (execOp a.eval o).run P w = .ok (.value (a.eval x)) w := by simp [execOp, hop]
  cases hm : m.ev s.env with
  | slice sz xs r =>
    rw [hm] at h1 h2 hv
    simp only [asgSt] at hv
    split at hv
    · exact fin h hd hN hrun h1.own (.of_not (by intro _ _ _ hh; injection hh with _ _ hh; exact hh.symm)) hv hn
    · rename_i hr
      refine fin' (h.rename r (d + 1) (by omega)) (.same fun b o => live_rename r (d + 1)) hd hN hrun h1.own ?_ hv hn
      rcases own_sp hr h2 h1 with e | ⟨b, off, cap, e, _, e2⟩
      · rw [e]; trivial
      · rw [e]; exact .inr (by simp [upd, e2])
  | _ => rw [hm] at h1 h2 hv; exact fin h hd hN hrun h1 h2 hv hn

theorem s_asgNil {sz : Nat} (hop : o.op = .assign (.const (.slice none 0 0))) (hd : o.dst = some d) (hN : d < N)
    (h : RS N s a w A sp) (hv : vc1 P (.asgNil d sz) s K) (hn : Next s w A sp N K next) : o.wp P a w next Q :=
  fin' (h.dem (d + 1)) (Ev.dem (d + 1)) hd hN (by simp [execOp, hop, Act.eval]) (.nils _ _) trivial hv hn

theorem RV.cells_of {x : AV} {v : Value} (h : RV w A x v) (hx : x.cells ≠ []) :
    v.cells.size = x.cells.length ∧ ∀ i, RV w A (x.cells.getD i .any) (v.cells.getD i undef) := by
  have one : ∀ {x : AV} {v : Value}, RV w A x v → v.cells = #[v] → x.cells = [x] → v.cells.size = x.cells.length ∧ ∀ i, RV w A (x.cells.getD i .any) (v.cells.getD i undef) := by
    intro x v h e1 e2
    rw [e1, e2]
    refine ⟨rfl, fun i => ?_⟩
    cases i with
    | zero => simpa using h
    | succ i => simp; exact .any _
  cases h with
  | any => exact absurd rfl hx
  | ghost => exact absurd rfl hx
  | lit v hf => exact one (.lit v hf) (by cases v <;> first | rfl | cases hf) rfl
  | nils sz own => exact one (.nils sz own) rfl rfl
  | slice sz xs own b off cap vs hsz h1c hcap hlen hc hr => exact one (.slice sz xs own b off cap vs hsz h1c hcap hlen hc hr) rfl rfl
  | ref cs b off vs hc hr => exact one (.ref cs b off vs hc hr) rfl rfl
  | mref b off => exact one (.mref b off) rfl rfl
  | mapr b => exact one (.mapr b) rfl rfl
  | mslice b off len cap sz hl => exact one (.mslice b off len cap sz hl) rfl rfl
  | agg xs vs hs hr => exact ⟨hs, hr⟩
  | tuple xs vs hs hr => exact one (.tuple xs vs hs hr) rfl rfl
  | func fn fs cs vf vc hsf hsc hf hc => exact one (.func fn fs cs vf vc hsf hsc hf hc) rfl rfl

theorem newVar_run (e : TypeId) (v : Value) : (newVar e v).run P w = .ok ⟨w.heap.size, 0, none⟩ (w.alloc (.cells v.cells e)) := by
  simp [newVar, newRow]

/-- A row that is just made and never written again, by its cells. -/
theorem RV.new {cs : List AV} {vs : Array Value} (T : TypeId) (hs : vs.size = cs.length) (hA : ∀ b o, A b o → b < w.heap.size) (hr : ∀ i, RV w A (cs.getD i .any) (vs.getD i undef)) (k : Nat) (hk : cs.length ≤ k) :
    RV (w.alloc (.cells vs T)) (fun b o => A b o ∨ (b = w.heap.size ∧ o < k)) (.ref cs) (.pointer (some ⟨w.heap.size, 0, none⟩)) := by
  refine .ref _ _ _ (fun i => vs.getD i undef) (fun i hi => ⟨?_, .inr ⟨rfl, by omega⟩⟩) (fun i => (hr i).mono fun b o v ha hv => ⟨by rw [cell_alloc _ _ _ _ (hA b o ha)]; exact hv, .inl ha⟩)
  rw [Nat.zero_add, cell_alloc_new, Array.getD_eq_getD_getElem?, Array.getElem?_eq_getElem (by omega)]
  rfl

theorem s_boxI {e : TypeId} {x : Operand} {m : MArg} {n : Nat} (hop : o.op = .box e x) (hd : o.dst = some d) (hN : d < N) (hx : argOf x = some m) (hn0 : 0 < n)
    (h : RS N s a w A sp) (hv : vc1 P (.boxI d m n) s K) (hn : Next s w A sp N K next) : o.wp P a w next Q := by
  have h1 := (argOf_sound h hx).1
  simp only [vc1] at hv
  obtain ⟨hl, hv⟩ := hv
  obtain ⟨hs, hr⟩ := h1.cells_of (by intro e; rw [e] at hl; simp at hl; omega)
  refine fin' (h.alloc (a.eval x).cells e n (by omega)) (h.evAlloc _ n) hd hN ?_ (RV.new (cs := (m.ev s.env).cells.map AV.erase0) e (by simpa using hs) (fun b o ha => (h.av b o ha).1) (fun i => ?_) n (by simp; omega)) trivial hv hn
  · simp only [execOp, hop, Instr.box, Sem.run_bind, newVar_run, Result.andThen_ok, Sem.run_pure]
  · rw [getD_erase0]; exact (hr i).erase0

theorem RS.allocM (h : RS N s a w A sp) {cs : List AV} {vs : Array Value} (T : TypeId) (hs : vs.size = cs.length)
    (hr : ∀ i, RV w A (cs.getD i .any) (vs.getD i undef) ∧ OwnOK sp (cs.getD i .any) (vs.getD i undef)) :
    RS N (s.new w.heap.size cs) a (w.alloc (.cells vs T)) A sp := by
  have h1 := h.alloc vs T 0 (by omega)
  have hmono : ∀ {x v}, RV w A x v → RV (w.alloc (.cells vs T)) A x v := fun hx => hx.mono fun b o v ha hv => ⟨by rw [cell_alloc _ _ _ _ (h.av b o ha).1]; exact hv, ha⟩
  refine ⟨h.size, h.defers, fun d => ⟨hmono (h.env d).1, (h.env d).2⟩, fun b cs' hb => ?_, fun r hr' => ?_, h.spd, fun b o ha => ⟨by have := (h.av b o ha).1; rw [alloc_size]; omega, ?_⟩⟩
  · simp only [St.new, upd] at hb
    split at hb
    · rename_i e; subst e; injection hb with hb; subst hb
      exact ⟨vs, T, heap_alloc_at _ _, hs, fun i => ⟨hmono (hr i).1, (hr i).2⟩⟩
    · obtain ⟨vs', T', g1, g2, g3⟩ := h.loc b cs' hb
      exact ⟨vs', T', by rw [heap_alloc _ _ _ (lt_of_heap g1)]; exact g1, g2, fun i => ⟨hmono (g3 i).1, (g3 i).2⟩⟩
  · obtain ⟨⟨vs', T', g1, g2⟩, g3⟩ := h.spb r hr'
    refine ⟨⟨vs', T', by rw [heap_alloc _ _ _ (lt_of_heap g1)]; exact g1, g2⟩, ?_⟩
    simp only [St.new, upd]
    rw [if_neg (Nat.ne_of_lt (lt_of_heap g1))]
    exact g3
  · rintro (hl | hl)
    · simp only [St.new, upd] at hl
      split at hl
      · rename_i e; have := (h.av b o ha).1; omega
      · exact (h.av b o ha).2 (.inl hl)
    · exact (h.av b o ha).2 (.inr hl)

theorem RS.evAllocM (ob : Obj) (cs : List AV) : Ev w A (live s.loc sp) (w.alloc ob) A (live (s.new w.heap.size cs).loc sp) := by
  refine ⟨rfl, rfl, rfl, by rw [alloc_size]; omega, fun b o hb hl => ⟨cell_alloc _ _ _ _ hb, ?_⟩, fun b hb _ => heap_alloc _ _ _ hb, fun _ _ ha => ha, fun _ _ ha => .inl ha⟩
  rintro (hl' | hl')
  · simp only [St.new, upd] at hl'
    rw [if_neg (Nat.ne_of_lt hb)] at hl'
    exact hl (.inl hl')
  · exact hl (.inr hl')

theorem s_boxM {e : TypeId} {x : Operand} {m : MArg} {n : Nat} (hop : o.op = .box e x) (hd : o.dst = some d) (hN : d < N) (hx : argOf x = some m) (hn0 : 0 < n)
    (h : RS N s a w A sp) (hv : vc1 P (.boxM d m n) s K) (hn : Next s w A sp N K next) : o.wp P a w next Q := by
  have h1 := (argOf_sound h hx).1
  simp only [vc1] at hv
  obtain ⟨hl, hv⟩ := hv
  obtain ⟨hs, hr⟩ := h1.cells_of (by intro e; rw [e] at hl; simp at hl; omega)
  refine fin' (h.allocM (cs := (m.ev s.env).cells.map AV.erase0) e (by simpa using hs) (fun i => ?_)) (RS.evAllocM _ _) hd hN ?_ (.mref w.heap.size 0) trivial (hv _ h.fresh) hn
  · rw [getD_erase0]; exact ⟨(hr i).erase0, .erase0⟩
  · simp only [execOp, hop, Instr.box, Sem.run_bind, newVar_run, Result.andThen_ok, Sem.run_pure]

theorem okZero_sound {t : TypeId} {z : List AV} (h : okZero P t z = true) :
    ∃ i v, P.info? t = some i ∧ i.zero = some v ∧ v.cells.size = z.length ∧ z.length = i.size ∧ (∀ k, RV w A (z.getD k .any) (v.cells.getD k undef)) ∧ ∀ x ∈ z, x.cell1 = true ∧ x.erase = x := by
  unfold okZero at h
  split at h
  · rename_i i hi
    split at h
    · rename_i v hz
      simp only [Bool.and_eq_true, beq_iff_eq] at h
      obtain ⟨h1, h2, h3⟩ := zsOK_sound (w := w) (A := A) h.1
      refine ⟨i, v, hi, hz, by simpa using h1, h.2, fun k => ?_, h3⟩
      have := h2 k
      simpa [List.getD_eq_getElem?_getD, Array.getD_eq_getD_getElem?] using this
    · cases h
  · cases h

theorem getD_cell1 {z : List AV} (h : ∀ x ∈ z, x.cell1 = true ∧ x.erase = x) (k : Nat) {v : Value} : OwnOK sp (z.getD k .any) v := by
  by_cases hk : k < z.length
  · have := (h z[k] (by simp)).2
    rw [List.getD_eq_getElem?_getD, List.getElem?_eq_getElem hk, Option.getD_some, ← this]
    exact .erase
  · rw [List.getD_eq_getElem?_getD, List.getElem?_eq_none (by omega)]; trivial

theorem okZeroA_sound {t : TypeId} {z : List AV} (h : okZeroA P t z = true) :
    ∃ i v, P.info? t = some i ∧ i.zero = some v ∧ v.cells.size = z.length ∧ ∀ k, RV w A (z.getD k .any) (v.cells.getD k undef) ∧ OwnOK sp (z.getD k .any) (v.cells.getD k undef) := by
  unfold okZeroA at h
  split at h
  · rename_i i hi
    split at h
    · rename_i v hz
      simp only [Bool.and_eq_true, beq_iff_eq] at h
      obtain ⟨h1, h2⟩ := zsOKA_sound (w := w) (A := A) (sp := sp) h.1
      refine ⟨i, v, hi, hz, by simpa using h1, fun k => ?_⟩
      have := h2 k
      simpa [List.getD_eq_getElem?_getD, Array.getD_eq_getD_getElem?] using this
    · cases h
  · cases h

theorem s_alloc {e : TypeId} {z : List AV} (hop : o.op = .alloc e) (hd : o.dst = some d) (hN : d < N) (hz : okZeroA P e z = true)
    (h : RS N s a w A sp) (hv : vc1 P (.alloc d z) s K) (hn : Next s w A sp N K next) : o.wp P a w next Q := by
  obtain ⟨i, v, hi, hz, hs, hr⟩ := okZeroA_sound (w := w) (A := A) (sp := sp) hz
  simp only [vc1] at hv
  refine fin' (h.allocM (cs := z) e hs hr) (RS.evAllocM _ _) hd hN ?_ (.mref w.heap.size 0) trivial (hv _ h.fresh) hn
  simp only [execOp, hop, Instr.alloc, zeroValue, typeInfo, Sem.run_bind, run_program, Result.andThen_ok, hi, Sem.run_pure, hz, newVar_run]

theorem RV.oneCell {x : AV} {v : Value} (h : RV w A x v) (hx : x.cell1 = true) : v.oneCell' = true := by
  cases h <;> first | rfl | (cases hx; done) | skip
  rename_i hf; cases v <;> first | rfl | cases hf

theorem splice_len : ∀ (ys cs : List AV) (off : Nat), (splice cs off ys).length = cs.length
  | [], _, _ => rfl
  | y :: ys, cs, off => by rw [splice, splice_len ys]; simp

theorem splice_getD : ∀ (ys cs : List AV) (off i : Nat), off + ys.length ≤ cs.length →
    (splice cs off ys).getD i .any = if off ≤ i ∧ i < off + ys.length then ys.getD (i - off) .any else cs.getD i .any
  | [], cs, off, i, _ => by simp [splice]; intro h1 h2; omega
  | y :: ys, cs, off, i, h => by
    simp only [List.length_cons] at h
    rw [splice, splice_getD ys _ _ _ (by simp; omega)]
    by_cases h1 : off + 1 ≤ i ∧ i < off + 1 + ys.length
    · rw [if_pos h1, if_pos (by simp; omega)]
      have : i - off = (i - (off + 1)) + 1 := by omega
      rw [this]; simp
    · rw [if_neg h1]
      by_cases h2 : i = off
      · subst h2
        rw [if_pos (by simp)]
        simp only [List.getD_eq_getElem?_getD, Nat.sub_self, List.getElem?_cons_zero]
        rw [List.getElem?_set_self (by omega)]
      · rw [if_neg (by simp; omega)]
        simp only [List.getD_eq_getElem?_getD]
        rw [List.getElem?_set_ne (by omega)]

theorem row_getD (vs : Array Value) (us : List Value) (off i : Nat) (h : off + us.length ≤ vs.size) :
    (vs.toList.take off ++ us ++ vs.toList.drop (off + us.length)).toArray.getD i undef = if off ≤ i ∧ i < off + us.length then us.getD (i - off) undef else vs.getD i undef := by
  simp only [Array.getD_eq_getD_getElem?, List.getElem?_toArray, List.getD_eq_getElem?_getD]
  by_cases h1 : i < off
  · rw [if_neg (by omega), List.append_assoc, List.getElem?_append_left (by simp; omega), List.getElem?_take, if_pos h1]
    simp
  · by_cases h2 : i < off + us.length
    · rw [if_pos (by omega), List.append_assoc, List.getElem?_append_right (by simp; omega), List.getElem?_append_left (by simp; omega)]
      have : min off vs.toList.length = off := by simp; omega
      simp only [List.length_take, this]
    · rw [if_neg (by omega), List.getElem?_append_right (by simp; omega), List.getElem?_drop]
      have : min off vs.toList.length = off := by simp; omega
      simp only [List.length_append, List.length_take, this]
      rw [show off + us.length + (i - (off + us.length)) = i by omega]
      simp

theorem RS.setRow (h : RS N s a w A sp) {b : Nat} {cs0 cs : List AV} {vs0 vs : Array Value} {T : TypeId} (hb : s.loc b = some cs0) (hh : w.heap[b]? = some (.cells vs0 T (0, 0)))
    (hs : vs.size = cs.length) (hr : ∀ i, RV w A (cs.getD i .any) (vs.getD i undef) ∧ OwnOK sp (cs.getD i .any) (vs.getD i undef)) :
    RS N (s.new b cs) a (w.setRow b vs) A sp := by
  have hne : ∀ {c o}, A c o → c ≠ b := fun {c o} ha e => (h.av c o ha).2 (.inl (by rw [e, hb]; simp))
  have hmono : ∀ {x v}, RV w A x v → RV (w.setRow b vs) A x v := fun hx => hx.mono fun c o v ha hv => ⟨by rw [cell_setRow_other _ _ _ _ _ (hne ha)]; exact hv, ha⟩
  refine ⟨h.size, h.defers, fun d => ⟨hmono (h.env d).1, (h.env d).2⟩, fun c cs' hc => ?_, fun r hr' => ?_, h.spd, fun c o ha => ⟨by rw [size_setRow]; exact (h.av c o ha).1, ?_⟩⟩
  · simp only [St.new, upd] at hc
    split at hc
    · rename_i e; subst e; injection hc with hc; subst hc
      exact ⟨vs, T, setRow_heap _ _ _ _ _ _ hh, hs, fun i => ⟨hmono (hr i).1, (hr i).2⟩⟩
    · rename_i hcb
      obtain ⟨vs', T', g1, g2, g3⟩ := h.loc c cs' hc
      exact ⟨vs', T', by rw [setRow_other' _ _ _ _ hcb]; exact g1, g2, fun i => ⟨hmono (g3 i).1, (g3 i).2⟩⟩
  · obtain ⟨⟨vs', T', g1, g2⟩, g3⟩ := h.spb r hr'
    have hcb : (sp r).1 ≠ b := fun e => by rw [e, hb] at g3; cases g3
    refine ⟨⟨vs', T', by rw [setRow_other' _ _ _ _ hcb]; exact g1, g2⟩, ?_⟩
    simp only [St.new, upd]
    rw [if_neg hcb]; exact g3
  · rintro (hl | hl)
    · simp only [St.new, upd] at hl
      rw [if_neg (hne ha)] at hl
      exact (h.av c o ha).2 (.inl hl)
    · exact (h.av c o ha).2 (.inr hl)

theorem RS.evSetRow {b : Nat} {cs0 : List AV} (cs : List AV) (vs : Array Value) (hb : s.loc b = some cs0) : Ev w A (live s.loc sp) (w.setRow b vs) A (live (s.new b cs).loc sp) := by
  have hne : ∀ {c o}, ¬ live s.loc sp c o → c ≠ b := fun {c o} hl e => hl (.inl (by rw [e, hb]; simp))
  refine ⟨rfl, rfl, rfl, by rw [size_setRow]; exact Nat.le_refl _, fun c o hc hl => ⟨cell_setRow_other _ _ _ _ _ (hne hl), ?_⟩, fun c hc hl => setRow_other' _ _ _ _ (hne (hl 0)), fun _ _ ha => ha, fun _ _ ha => .inl ha⟩
  rintro (hl' | hl')
  · simp only [St.new, upd] at hl'
    rw [if_neg (hne hl)] at hl'
    exact hl (.inl hl')
  · exact hl (.inr hl')

theorem storeAt_run {t : TypeId} {n b off : Nat} {vs : Array Value} {T : TypeId} {v : Value} (hz : szOf P t = some n) (hh : w.heap[b]? = some (.cells vs T (0, 0)))
    (hv : v.cells.size = n) (hoff : off + n ≤ vs.size) (h1 : ∀ u ∈ v.cells.toList, u.oneCell' = true) :
    (Instr.storeAt t (.pointer (some ⟨b, off, none⟩)) v).run P w = .ok () (w.setRow b (vs.toList.take off ++ v.cells.toList ++ vs.toList.drop (off + n)).toArray) := by
  simp only [szOf, Option.map_eq_some_iff] at hz
  obtain ⟨i, hi, rfl⟩ := hz
  have hst := run_storeCells_at P b off T v.cells.toList 0 vs w hh (by simpa [hv] using hoff) h1
  simp only [Nat.add_zero, Array.length_toList, hv] at hst
  simp only [Instr.storeAt, Instr.sureAddr, Sem.run_bind, Sem.run_pure, Result.andThen_ok, storeVar, sizeOf, typeInfo, run_program, hi, hv, ne_eq, not_true, if_false, hst]

theorem fin0 {s1 : St} {w1 : World} {A1 : Area} {sp1 : Sp} (h : RS N s1 a w1 A1 sp1) (hev : Ev w A (live s.loc sp) w1 A1 (live s1.loc sp1)) (hd : o.dst = none)
    (hrun : (execOp a.eval o).run P w = .ok .skip w1) (hk : K s1) (hn : Next s w A sp N K next) : o.wp P a w next Q := by
  unfold Oper.wp
  rw [hrun, Oper.upon_skip, hd]
  exact hn _ _ _ _ _ hk h hev

end
end Go.Avm
