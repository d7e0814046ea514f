/- A loop over an iterator: its record, its rounds; an iterator's contract. -/
import Derived.Test.YtcfeipphmklakaaAvm19b
namespace Go.Avm
open Go.RowKit

/-- AN ITERATOR's CONTRACT: it yields xs, one after the other, till it is stopped. -/
def PSeq (P : Program) (f : FuncId) (first cap : List AV) (xs : List (List AV)) : Prop :=
  isFunc P f = true ∧ ∀ (X : AV → World → Area → Area → Prop) (l : Nat) (w : World) (A Lx : Area) (vs : Array Value), StLaw X → YLaw P X →
    (∀ b o, Lx b o → b < w.heap.size) → (∀ b o, A b o → b < w.heap.size ∧ ¬ Lx b o) →
    vs.size = (first ++ [AV.func (.yield l) [] []] ++ cap).length → (∀ i, RV w A ((first ++ [AV.func (.yield l) [] []] ++ cap).getD i .any) (vs.getD i undef)) →
    X (.ghost l xs false) w A Lx →
    Calls P f vs w fun e w' => ∃ v A' Lx' rest b, e = .returned v ∧ Ev w A Lx w' A' Lx' ∧ (∀ b o, Lx' b o → b < w'.heap.size) ∧ (∀ b o, A' b o → b < w'.heap.size ∧ ¬ Lx' b o) ∧
      X (.ghost l rest b) w' A' Lx' ∧ (b = true ∨ rest = [])

theorem callFunc_enter {P : Program} {f : FuncId} (h : isFunc P f = true) (vs : Array Value) (w : World) : (callFunc f vs).run P w = .ok (.enter f vs) w := by
  unfold isFunc at h
  split at h
  · rename_i fn hfn
    simp only [Bool.and_eq_true, bne_iff_ne, ne_eq] at h
    unfold callFunc
    simp only [Sem.run_bind, run_program, Result.andThen_ok, hfn]
    have hb : fn.body.isNone = false := by cases hfb : fn.body with
      | none => rw [hfb] at h; simp at h
      | some c => rfl
    have hnm : (fn.name == "runtime.NumGoroutine") = false := by simpa using h.1
    rw [hnm, hb]
    rfl
  · cases h

section
variable {P : Program} {C : Ctx P} {Pt : List (Nat × Obj)} {s : St} {a : Act} {w : World} {A Lx : Area} {sp : Sp}

/-- All that a party holds. -/
def full (s : St) (sp : Sp) (Lx : Area) (Pt : List (Nat × Obj)) : Area := join (join (held s sp) Lx) fun b _ => ∃ p ∈ Pt, b = p.1

theorem GS.full_lt (h : GS C Pt s a w A Lx sp) {b o : Nat} (hl : full s sp Lx Pt b o) : b < w.heap.size := by
  rcases hl with (hl | hl) | ⟨p, hp, rfl⟩
  · exact h.own_lt hl
  · exact h.lt b o hl
  · exact lt_of_heap (h.pt p hp).1

theorem GS.full_av (h : GS C Pt s a w A Lx sp) {b o : Nat} (ha : A b o) : b < w.heap.size ∧ ¬ full s sp Lx Pt b o := by
  refine ⟨(h.rs.av b o ha).1, ?_⟩
  rintro ((hl | hl) | ⟨p, hp, rfl⟩)
  · exact h.own_av ha hl
  · exact h.av b o ha hl
  · exact (h.pt p hp).2.2.2.1 o ha

/-- A block that is no cells turns. -/
theorem GS.putObj (h : GS C Pt s a w A Lx sp) {l : Nat} {ob ob' : Obj} (hl : (l, ob) ∈ Pt) {Pt' : List (Nat × Obj)} (hP : ∀ p ∈ Pt', (p = (l, ob') ∧ ob'.isCells = false) ∨ (p ∈ Pt ∧ p.1 ≠ l))
    (hd : ∀ d ∈ a.defers, ∃ D, C.B ≤ D ∧ d = ⟨.collected D, #[]⟩ ∧ (D, .deferred (some [])) ∈ Pt') (hr : ∀ l, C.ro = some l → ∃ r, (l, .loop r) ∈ Pt') : GS C Pt' s a (w.putObj l ob') A Lx sp := by
  obtain ⟨h1, h2, h3, h4, h5⟩ := h.pt _ hl
  have hk : ∀ L : Area, (∀ b o, L b o → held s sp b o ∨ Lx b o) → Keep w (w.putObj l ob') A A L := fun L hL =>
    Keep.putObj h1 h2 (fun o ho => by rcases hL l o ho with e | e; exact h.pt_dead hl o e; exact h3 o e) (fun b o ha => ⟨(h.rs.av b o ha).1, fun hb => by rcases hL b o hb with e | e; exact h.own_av ha e; exact h.av b o ha e⟩)
  refine ⟨h.rs.keep (hk (live s.loc sp) fun _ _ h => .inl (.inl h)) fun _ _ h => h, h.ig, fun b o hb => by simpa using h.lt b o hb, h.ap, h.av, C.st _ _ _ _ _ _ h.x (hk Lx fun _ _ h => .inr h), fun p hp => ?_, fun b => ?_, h.oa, by simpa using h.bs, h.dn, hd, hr⟩
  · rcases hP p hp with ⟨rfl, hc⟩ | ⟨hp, hne⟩
    · exact ⟨World.putObj_heap_same (lt_of_heap h1), hc, h3, h4, h5⟩
    · obtain ⟨g1, g2⟩ := h.pt p hp
      exact ⟨(World.putObj_heap_other hne).trans g1, g2⟩
  · have hk2 := hk (held s sp) fun _ _ h => .inl h
    exact (h.ob b).mono (fun hx => hk2.blk b 0 (.inr hx)) fun b o v ha hv => ⟨hk2.cell b o v ha hv, ha⟩

/-- A block that is no cells is laid. -/
theorem GS.lay (h : GS C Pt s a w A Lx sp) {ob : Obj} (hc : ob.isCells = false) : GS C ((w.heap.size, ob) :: Pt) s a (w.alloc ob) A Lx sp := by
  have hk : ∀ L : Area, (∀ b o, L b o → held s sp b o ∨ Lx b o) → Keep w (w.alloc ob) A A L := fun L hL =>
    Keep.alloc ob (fun b o ha => ⟨(h.rs.av b o ha).1, fun hb => by rcases hL b o hb with e | e; exact h.own_av ha e; exact h.av b o ha e⟩) (fun b o hb => by rcases hL b o hb with e | e; exact h.own_lt e; exact h.lt b o e)
  refine ⟨h.rs.keep (hk (live s.loc sp) fun _ _ h => .inl (.inl h)) fun _ _ h => h, h.ig, fun b o hb => by rw [alloc_size]; have := h.lt b o hb; omega, h.ap, h.av, C.st _ _ _ _ _ _ h.x (hk Lx fun _ _ h => .inr h), fun p hp => ?_, fun b => ?_, h.oa, by rw [alloc_size]; have := h.bs; omega, h.dn, fun d hd => ?_, fun l hl => ?_⟩
  · rcases List.mem_cons.1 hp with rfl | hp
    · refine ⟨heap_alloc_at _ _, hc, fun o hl => absurd (h.lt _ _ hl) (Nat.lt_irrefl _), fun o ha => absurd (h.rs.av _ _ ha).1 (Nat.lt_irrefl _), Classical.byContradiction fun hx => ?_⟩
      exact absurd (h.own_lt (o := 0) (.inr hx)) (Nat.lt_irrefl _)
    · obtain ⟨g1, g2⟩ := h.pt p hp
      exact ⟨(heap_alloc _ _ _ (lt_of_heap g1)).trans g1, g2⟩
  · have hk2 := hk (held s sp) fun _ _ h => .inl h
    exact (h.ob b).mono (fun hx => hk2.blk b 0 (.inr hx)) fun b o v ha hv => ⟨hk2.cell b o v ha hv, ha⟩
  · obtain ⟨D, d1, d2, d3⟩ := h.df d hd
    exact ⟨D, d1, d2, List.mem_cons_of_mem _ d3⟩
  · obtain ⟨r, hr⟩ := h.ro l hl
    exact ⟨r, List.mem_cons_of_mem _ hr⟩

theorem GS.evAlloc (h : GS C Pt s a w A Lx sp) (ob : Obj) (L : Area) (hL : ∀ b o, L b o → b < w.heap.size) (T : Area) (hT : ∀ b o, T b o → L b o ∨ b = w.heap.size) : Ev w A L (w.alloc ob) A T :=
  ⟨rfl, rfl, rfl, by rw [alloc_size]; omega, fun b o hb hl => ⟨cell_alloc _ _ _ _ hb, fun ht => by rcases hT b o ht with e | e; exact hl e; omega⟩, fun b hb _ => heap_alloc _ _ _ hb, fun _ _ ha => ha, fun _ _ ha => .inl ha⟩

/-- The parameters of a round. -/
def params (s : St) : List Nat → List AV → St
  | p :: ps, x :: xs => params (s.set p x.erase) ps xs
  | _, _ => s

theorem params_loc : ∀ (ps : List Nat) (xs : List AV) (s : St), (params s ps xs).loc = s.loc
  | [], _, _ => rfl
  | _ :: _, [], _ => rfl
  | p :: ps, x :: xs, s => params_loc ps xs (s.set p x.erase)

theorem params_g (k : Nat) (hk : gS ≤ k) : ∀ (ps : List Nat) (xs : List AV) (s : St), (∀ p ∈ ps, p < gS) → (params s ps xs).env k = s.env k
  | [], _, _, _ => rfl
  | _ :: _, [], _, _ => rfl
  | p :: ps, x :: xs, s, h => (params_g k hk ps xs (s.set p x.erase) (fun q hq => h q (List.mem_cons_of_mem _ hq))).trans (upd_ne _ _ (by have := h p (List.mem_cons_self ..); omega))

theorem RS.params {N : Nat} : ∀ (ps : List Nat) (xs : List AV) (vs : List Value) (s : St) (t : Array Value), RS N s ⟨t, []⟩ w A sp → (∀ p ∈ ps, p < N) → ps.length = xs.length → vs.length = xs.length →
    (∀ i, RV w A (xs.getD i .any) (vs.getD i undef)) → RS N (Avm.params s ps xs) ⟨(ps.zip vs).foldl (fun t (p, v) => t.setIfInBounds p v) t, []⟩ w A sp
  | [], _, _, _, _, h, _, _, _, _ => h
  | p :: ps, x :: xs, v :: vs, s, t, h, hp, h1, h2, hr => by
    refine RS.params ps xs vs (s.set p x.erase) (t.setIfInBounds p v) ?_ (fun q hq => hp q (List.mem_cons_of_mem _ hq)) (by simpa using h1) (by simpa using h2) (fun i => by simpa using hr (i + 1))
    exact h.put (hp p (List.mem_cons_self ..)) (by simpa using (hr 0).erase) .erase
  | _ :: _, [], _, _, _, _, _, h1, _, _ => by simp at h1
  | _ :: _, _ :: _, [], _, _, _, _, _, h2, _ => by simp at h2

theorem params_held (ps : List Nat) (xs : List AV) (s : St) (sp : Sp) (h : ∀ p ∈ ps, p < gS) : held (params s ps xs) sp = held s sp := by
  unfold held
  have : objs (params s ps xs) = objs s := by funext b o; simp only [objs]; rw [params_g _ (by simp only [gS, oS]; omega) ps xs s h]
  rw [this, params_loc]

/-- Behind a round the temporaries are again what they were at the loop's head. -/
def back (s s2 : St) : St := ⟨fun k => if gS ≤ k then s2.env k else (s.env k).erase, s2.loc⟩

theorem back_g (s s2 : St) {k : Nat} (hk : gS ≤ k) : (back s s2).env k = s2.env k := by simp [back, hk]
theorem back_o (s s2 : St) (b : Nat) : (back s s2).env (oS + b) = s2.env (oS + b) := back_g s s2 (by simp only [gS, oS]; omega)
theorem back_own (s s2 : St) (sp : Sp) : held (back s s2) sp = held s2 sp := by
  unfold held
  have : objs (back s s2) = objs s2 := by funext b o; simp only [objs, back_o]
  rw [this]; rfl
theorem back_objs (s s2 : St) : objs (back s s2) = objs s2 := by funext b o; simp only [objs, back_o]
theorem back_back (s s2 s3 : St) : back s (back s2 s3) = back s s3 := by
  simp only [back, St.mk.injEq, and_true]
  funext k
  split <;> simp_all

/-- Of a round's end and of the loop's head: the state behind the round. -/
theorem RS.back {N : Nat} {s0 s1 s2 : St} {t1 t2 : Array Value} {w1 w2 : World} {A1 A2 : Area} {sp1 sp2 : Sp} (h1 : RS N s1 ⟨t1, []⟩ w1 A1 sp1) (hs : s1 = Avm.back s0 s1) (h2 : RS N s2 ⟨t2, []⟩ w2 A2 sp2)
    (hk : ∀ b o v, A1 b o → w1.cell? ⟨b, o, none⟩ = some v → w2.cell? ⟨b, o, none⟩ = some v ∧ A2 b o) (hg : ∀ k, gS ≤ k → isG (s2.env k) = true) : RS N (Avm.back s0 s2) ⟨t1, []⟩ w2 A2 sp2 := by
  refine ⟨h1.size, rfl, fun d => ?_, h2.loc, h2.spb, h2.spd, h2.av⟩
  have h3 := (h1.env d).1
  by_cases hd : gS ≤ d
  · rw [back_g _ _ hd]
    have hg := hg d hd
    generalize s2.env d = x at hg
    cases x <;> first | (cases hg; done) | exact ⟨.any _, trivial⟩ | exact ⟨.ghost _ _ _ _, trivial⟩
  · rw [hs] at h3
    simp only [Avm.back, hd, if_false] at h3 ⊢
    exact ⟨h3.mono hk, .erase⟩

/-- The loop's head: what the temporaries held is forgotten. -/
theorem RS.forget {N : Nat} {t : Array Value} (h : RS N s ⟨t, []⟩ w A sp) : RS N (Avm.back s s) ⟨t, []⟩ w A sp := by
  refine ⟨h.size, rfl, fun d => ?_, h.loc, h.spb, h.spd, h.av⟩
  by_cases hd : gS ≤ d
  · rw [back_g _ _ hd]; exact h.env d
  · simp only [Avm.back, hd, if_false]; exact ⟨(h.env d).1.erase, .erase⟩
end
end Go.Avm
