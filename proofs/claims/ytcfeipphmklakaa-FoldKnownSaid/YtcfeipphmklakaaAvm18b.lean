/- Operations on objects that are no cells: iterators over strings, maps. -/
import Derived.Test.YtcfeipphmklakaaAvm18
import Derived.Laws.RangeAny
namespace Go.Avm
open Go.RowKit

section
variable {P : Program} {C : Ctx P} {Pt : List (Nat × Obj)} {s : St} {a : Act} {w : World} {A Lx : Area} {sp : Sp} {o : Oper} {d : Nat} {K : St → Prop} {rest : Act → World → Prop} {Q : Exit → Act → World → Prop}

theorem wpIn_value {ro : Option Nat} {v : Value} {w' : World} (hnd : ∀ c, o.op ≠ .defer c) (hrun : (execOp a.eval o).run P w = .ok (.value v) w') (h : rest (a.put o.dst v) w') : o.wpIn (Fw ro) 0 P a w rest Q := by
  refine ⟨fun _ _ => trivial, ?_⟩
  rw [Oper.semAt_eq _ _ _ hnd, hrun, Oper.uponIn_value]
  exact h
theorem wpIn_skip0 {ro : Option Nat} {w' : World} (hnd : ∀ c, o.op ≠ .defer c) (hrun : (execOp a.eval o).run P w = .ok .skip w') (h : rest (a.put o.dst undef) w') : o.wpIn (Fw ro) 0 P a w rest Q := by
  refine ⟨fun _ _ => trivial, ?_⟩
  rw [Oper.semAt_eq _ _ _ hnd, hrun, Oper.uponIn_skip]
  exact h

/-- A slot that says nothing of the activation. -/
theorem RS.ghost {N : Nat} (h : RS N s a w A sp) (k : Nat) {x : AV} (hx : isG x = true) : RS N (s.set k x) a w A sp := by
  refine ⟨h.size, h.defers, fun d => ?_, h.loc, h.spb, h.spd, h.av⟩
  by_cases hd : d = k
  · subst hd
    rw [show (s.set d x).env d = x from upd_same _ _ _]
    cases x <;> first | (cases hx; done) | exact ⟨.any _, trivial⟩ | exact ⟨.ghost _ _ _ _, trivial⟩
  · rw [show (s.set k x).env d = s.env d from upd_ne _ _ hd]; exact h.env d

theorem gS_lt_oS (b : Nat) : gS < oS + b := by simp only [gS, oS]; omega

/-- An object turns, or is made; then a slot is written. -/
theorem GS.obj (h : GS C Pt s a w A Lx sp) {b : Nat} {x : AV} (hx : isG x = true) {w' : World}
    (hfr : s.env (oS + b) ≠ .any ∨ b = w.heap.size) (hle : w.heap.size ≤ w'.heap.size)
    (hos : w'.os = w.os ∧ w'.tape = w.tape ∧ w'.output = w.output) (hblk : ∀ c, c < w.heap.size → c ≠ b → w'.heap[c]? = w.heap[c]?) (hob : ObjOK w' A b x) :
    GS C Pt (s.set (oS + b) x) a w' A Lx sp ∧ Ev w A (join (held s sp) Lx) w' A (join (held (s.set (oS + b) x) sp) Lx) := by
  have hAb : ∀ o, ¬ A b o := by
    intro o ha
    rcases hfr with hf | hf
    · exact h.oa b o hf ha
    · exact absurd (h.rs.av b o ha).1 (by omega)
  have hlb : ∀ o, ¬ live s.loc sp b o := by
    intro o hl
    rcases hfr with hf | hf
    · obtain ⟨ob, h1, h2⟩ := h.obj_block (o := o) hf
      exact h.rs.not_live h1 h2 o hl
    · exact absurd (h.rs.live_lt hl) (by omega)
  have hxb : ∀ o, ¬ Lx b o := by
    intro o hl
    rcases hfr with hf | hf
    · exact h.ap b o o (.inr hf) hl
    · exact absurd (h.lt b o hl) (by omega)
  have hcell : ∀ c o v, A c o → w.cell? ⟨c, o, none⟩ = some v → w'.cell? ⟨c, o, none⟩ = some v := fun c o v ha hv =>
    (World.cell?_of_block (hblk c (h.rs.av c o ha).1 (fun e => hAb o (e ▸ ha)))).trans hv
  have hbl : ∀ c o, c < w.heap.size → live s.loc sp c o → w'.heap[c]? = w.heap[c]? := fun c o hc hl => hblk c hc (fun e => hlb o (e ▸ hl))
  have hrs : RS C.N s ⟨a.tmps, []⟩ w' A sp := by
    refine h.rs.world hcell (fun _ _ ha => ha) (fun c cs hc => hbl c 0 (h.rs.loc_lt hc) (.inl (by rw [hc]; exact fun e => by cases e))) (fun r hr => ?_) (fun c o ha => ⟨Nat.lt_of_lt_of_le (h.rs.av c o ha).1 hle, (h.rs.av c o ha).2⟩)
    obtain ⟨⟨vs, T, h1, h2⟩, _⟩ := h.rs.spb r hr
    exact ⟨vs, T, (hbl _ (sp r).2.1 (lt_of_heap h1) (.inr ⟨r, rfl, Nat.le_refl _, hr⟩)).trans h1, h2⟩
  have hrs2 := hrs.ghost (oS + b) hx
  have henv : ∀ c, c ≠ b → (s.set (oS + b) x).env (oS + c) = s.env (oS + c) := fun c hc => upd_ne _ _ (by omega)
  have hself : (s.set (oS + b) x).env (oS + b) = x := upd_same _ _ _
  have hev : Ev w A (held s sp) w' A (held (s.set (oS + b) x) sp) := by
    refine ⟨hos.1, hos.2.1, hos.2.2, hle, fun c o hc hl => ?_, fun c hc hl => ?_, fun _ _ ha => ha, fun _ _ ha => .inl ha⟩
    · have hcb : c ≠ b ∨ (c = b ∧ False) := by
        by_cases e : c = b
        · subst e
          rcases hfr with hf | hf
          · exact absurd (.inr hf) hl
          · omega
        · exact .inl e
      rcases hcb with hcb | ⟨_, hf⟩
      · refine ⟨World.cell?_of_block (hblk c hc hcb), fun hh => ?_⟩
        rcases hh with hh | hh
        · exact hl (.inl hh)
        · exact hl (.inr (by simp only [objs, henv c hcb] at hh; exact hh))
      · exact hf.elim
    · refine hblk c hc fun e => ?_
      subst e
      rcases hfr with hf | hf
      · exact hl 0 (.inr hf)
      · omega
  refine h.step (a' := a) hrs2 hev (fun k hk => ?_) ?_ (fun c => ?_) (fun c o hc ha => ?_) rfl
  · by_cases e : k = oS + b
    · subst e; rw [hself]; exact hx
    · rw [show (s.set (oS + b) x).env k = s.env k from upd_ne _ _ e]; exact h.ig k hk
  · exact upd_ne _ _ (Nat.ne_of_lt (gS_lt_oS b))
  · by_cases e : c = b
    · subst e; rw [hself]; exact hob
    · rw [henv c e]
      refine (h.ob c).mono (fun hne => ?_) fun b o v ha hv => ⟨hcell b o v ha hv, ha⟩
      obtain ⟨ob, g1, _⟩ := (h.ob c).block hne
      exact hblk c (lt_of_heap g1) e
  · by_cases e : c = b
    · subst e; exact hAb o ha
    · simp only [objs, henv c e] at hc; exact h.oa c o hc ha

theorem GS.put (h : GS C Pt s a w A Lx sp) {d : Nat} (hd : d < C.N) (hg : d < gS) {x : AV} {v : Value} (hr : RV w A x v) (ho : OwnOK sp x v) : GS C Pt (s.set d x) (a.put (some d) v) w A Lx sp := by
  have h1 : RS C.N (s.set d x) ⟨(a.put (some d) v).tmps, []⟩ w A sp := h.rs.put hd hr ho
  have h2 := (h.own (a' := a.put (some d) v) h1 (.refl _ _ _) (fun k hk => upd_ne _ _ (by omega)) rfl).1
  exact h2

theorem held_set {s : St} {d : Nat} (hd : d < gS) (x : AV) (sp : Sp) : held (s.set d x) sp = held s sp := by
  unfold held
  have : objs (s.set d x) = objs s := by funext b o; simp only [objs]; rw [show (s.set d x).env (oS + b) = s.env (oS + b) from upd_ne _ _ (by simp only [gS, oS] at *; omega)]
  rw [this]; rfl

theorem s_rngS {T : TypeId} {x : Operand} {mx : MArg} (hop : o.op = .range T x) (hd : o.dst = some d) (hN : d < C.N) (hCN : C.N ≤ gS) (ht : P.underlying T = some .string) (hx : argOf x = some mx)
    (h : GS C Pt s a w A Lx sp) (hv : vc1 P (.rngS d mx) s K) (hn : Goes C Pt s w A Lx sp a.defers K rest) : o.wpIn (Fw C.ro) 0 P a w rest Q := by
  have h1 : RV w A (mx.ev s.env) (a.eval x) := (argOf_sound h.rs hx).1
  simp only [vc1] at hv
  split at hv
  · rename_i t e1
    rw [e1] at h1
    have hfresh : s.env (oS + w.heap.size) = .any := Classical.byContradiction fun hne => by
      obtain ⟨ob, g1, _⟩ := (h.ob w.heap.size).block hne
      exact absurd (lt_of_heap g1) (Nat.lt_irrefl _)
    have hK := hv w.heap.size h.rs.fresh hfresh
    generalize hv0 : a.eval x = v0 at h1
    cases h1
    have hrun : (execOp a.eval o).run P w = .ok (.value (.pointer (some ⟨w.heap.size, 0, none⟩))) (w.alloc (.stringIter t 0)) := by
      simp [execOp, hop, hv0, Instr.range, run_underlying ht]
    refine wpIn_value (by rw [hop]; intro c e; cases e) hrun ?_
    obtain ⟨g1, g2⟩ := h.obj (b := w.heap.size) (x := itAV t 0) (w' := w.alloc (.stringIter t 0)) rfl (.inr rfl) (by rw [alloc_size]; omega) ⟨rfl, rfl, rfl⟩ (fun c hc _ => heap_alloc _ _ _ hc) (.iter t 0 (heap_alloc_at _ _))
    rw [hd]
    have hdg : d < gS := Nat.lt_of_lt_of_le hN hCN
    exact hn _ _ _ _ _ _ hK (g1.put hN hdg (.mref _ _) trivial) (by rw [held_set hdg]; exact g2) rfl
  · exact hv.elim

theorem s_nxtS {x : Operand} {mx : MArg} (hop : o.op = .next x true) (hd : o.dst = some d) (hN : d < C.N) (hCN : C.N ≤ gS) (hx : argOf x = some mx)
    (h : GS C Pt s a w A Lx sp) (hv : vc1 P (.nxtS d mx) s K) (hn : Goes C Pt s w A Lx sp a.defers K rest) : o.wpIn (Fw C.ro) 0 P a w rest Q := by
  have h1 : RV w A (mx.ev s.env) (a.eval x) := (argOf_sound h.rs hx).1
  have hdg : d < gS := Nat.lt_of_lt_of_le hN hCN
  simp only [vc1] at hv
  split at hv
  · rename_i b e1
    rw [e1] at h1
    obtain ⟨t, pos, e2, hv1, hv2⟩ := hv
    have hob := h.ob b
    rw [e2] at hob
    have hne : s.env (oS + b) ≠ .any := by rw [e2]; intro e; cases e
    generalize hv0 : a.eval x = v0 at h1
    cases h1
    have hheap : w.heap[b]? = some (.stringIter t pos) := by
      generalize hz : itAV t pos = z at hob
      cases hob with
      | any => cases hz
      | iter t' pos' hh => injection hz with z1 z2; injection z2 with z3; injection z3 with z4; injection z4 with z5; injection z5 with z6; rw [z1, z6]; exact hh
      | map => injection hz with _ _ z3; cases z3
    by_cases hp : pos < t.size
    · have hrun : (execOp a.eval o).run P w = .ok (.value (.tuple #[.bool true, .int .i64 pos, .int .i32 (Utf8.decode t pos).1])) (w.putObj b (.stringIter t (pos + (Utf8.decode t pos).2))) := by
        simp [execOp, hop, hv0, Instr.next, getObj, setObj, Sem.run, hheap, hp, Result.andThen, World.putObj, goInt]
      refine wpIn_value (by rw [hop]; intro c e; cases e) hrun ?_
      obtain ⟨g1, g2⟩ := h.obj (b := b) (x := itAV t (pos + (Utf8.decode t pos).2)) (w' := w.putObj b (.stringIter t (pos + (Utf8.decode t pos).2))) rfl (.inl hne) (by simp) ⟨rfl, rfl, rfl⟩ (fun c hc hcb => World.putObj_heap_other hcb) (.iter t _ (World.putObj_heap_same (lt_of_heap hheap)))
      rw [hd]
      refine hn _ _ _ _ _ _ (hv1 hp) (g1.put hN hdg (.tuple _ _ rfl fun i => ?_) trivial) (by rw [held_set hdg]; exact g2) rfl
      match i with
      | 0 => exact .lit _ rfl
      | 1 => exact .lit _ rfl
      | 2 => exact .lit _ rfl
      | i + 3 => simp; exact .any _
    · have hrun : (execOp a.eval o).run P w = .ok (.value (.tuple #[.bool false])) w := by
        simp [execOp, hop, hv0, Instr.next, getObj, Sem.run, hheap, hp, Result.andThen]
      refine wpIn_value (by rw [hop]; intro c e; cases e) hrun ?_
      rw [hd]
      refine hn _ _ _ _ _ _ (hv2 hp) (h.put hN hdg (.tuple _ _ rfl fun i => ?_) trivial) (by rw [held_set hdg]; exact .refl _ _ _) rfl
      match i with
      | 0 => exact .lit _ rfl
      | i + 1 => simp; exact .any _
  · exact hv.elim

theorem s_mkMap {T : TypeId} (hop : o.op = .makeMap T none) (hd : o.dst = some d) (hN : d < C.N) (hCN : C.N ≤ gS)
    (h : GS C Pt s a w A Lx sp) (hv : vc1 P (.mkMap d) s K) (hn : Goes C Pt s w A Lx sp a.defers K rest) : o.wpIn (Fw C.ro) 0 P a w rest Q := by
  simp only [vc1] at hv
  have hfresh : s.env (oS + w.heap.size) = .any := Classical.byContradiction fun hne => by
    obtain ⟨ob, g1, _⟩ := (h.ob w.heap.size).block hne
    exact absurd (lt_of_heap g1) (Nat.lt_irrefl _)
  have hK := hv w.heap.size h.rs.fresh hfresh
  have hrun : (execOp a.eval o).run P w = .ok (.value (.map (some w.heap.size))) (w.alloc (.map #[] 0)) := by
    simp [execOp, hop, Instr.makeMap]
  refine wpIn_value (by rw [hop]; intro c e; cases e) hrun ?_
  obtain ⟨g1, g2⟩ := h.obj (b := w.heap.size) (x := mapAV []) (w' := w.alloc (.map #[] 0)) rfl (.inr rfl) (by rw [alloc_size]; omega) ⟨rfl, rfl, rfl⟩ (fun c hc _ => heap_alloc _ _ _ hc) (.map [] #[] 0 (heap_alloc_at _ _) rfl (fun i e he => by simp at he))
  rw [hd]
  have hdg : d < gS := Nat.lt_of_lt_of_le hN hCN
  exact hn _ _ _ _ _ _ hK (g1.put hN hdg (.mapr _) trivial) (by rw [held_set hdg]; exact g2) rfl

end
end Go.Avm
