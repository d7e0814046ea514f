/- A loop over an iterator: its record, its rounds; an iterator's contract. A block that is lent to a party for a round. Control, loops, and a function's contract. A function's results; contracts of functions and of iterators out of their resolved code. The contract of a call that is part of its caller's party, out of the function's resolved code. The rules by which a walk over resolved code goes: one head for each operation that looks at its operands. From a contract in the layer Avm to the row's own words. From a law's arguments, as the model reads them, to abstract values. A law's arguments: what they say, and that they read behind the call as they did. -/
import Derived.Test.YtiampdiobdianaaZB
import Derived.ProofKit
import Derived.OpenShut
import Derived.Carry
namespace Go.Avm
open Go.RowKit

def PSeq (P : Program) (f : FuncId) (first cap : List AV) (xs : List (List AV)) : Prop :=
  isFunc P f = true ∧ ∀ (X : AV → World → Area → Area → Prop) (l : Nat) (w : World) (A Lx : Area) (vs : Array Value), StLaw X → YLaw P X → YLaw2 P X →
    (∀ b o, Lx b o → b < w.heap.size) → (∀ b o, A b o → b < w.heap.size ∧ ¬ Lx b o) →
    vs.size = (first ++ [AV.func (.yield l) [] []] ++ cap).length → (∀ i, RV w A ((first ++ [AV.func (.yield l) [] []] ++ cap).getD i .any) (vs.getD i undef)) →
    X (.ghost l xs false) w A Lx →
    Calls P f vs w fun e w' => ∃ v A' Lx' rest b, e = .returned v ∧ Ev w A Lx w' A' Lx' ∧ (∀ b o, Lx' b o → b < w'.heap.size) ∧ (∀ b o, A' b o → b < w'.heap.size ∧ ¬ Lx' b o) ∧
      X (.ghost l rest b) w' A' Lx' ∧ (b = true ∨ rest = [])

section
variable {P : Program} {C : Ctx P} {Pt : List (Nat × Obj)} {s : St} {a : Act} {w : World} {A Lx : Area} {sp : Sp}

def full (s : St) (sp : Sp) (Lx : Area) (Pt : List (Nat × Obj)) : Area := join (join (held s sp) Lx) fun b _ => ∃ p ∈ Pt, b = p.1

theorem GS.full_lt (h : GS C Pt s a w A Lx sp) {b o : Nat} (hl : full s sp Lx Pt b o) : b < w.heap.size := by
  rcases hl with (hl | hl) | ⟨p, hp, rfl⟩
  · exact h.own_lt hl
  · exact h.lt b o hl
  · exact lt_of_heap (h.pt p hp).1

theorem GS.full_av (h : GS C Pt s a w A Lx sp) {b o : Nat} (ha : A b o) : b < w.heap.size ∧ ¬ full s sp Lx Pt b o := by
  refine ⟨(h.rs.av b o ha).1, ?_⟩
  rintro ((hl | hl) | ⟨p, hp, rfl⟩)
  · exact h.own_av ha hl
  · exact h.av b o ha hl
  · exact (h.pt p hp).2.2.2.1 o ha

theorem GS.putObj (h : GS C Pt s a w A Lx sp) {l : Nat} {ob ob' : Obj} (hl : (l, ob) ∈ Pt) {Pt' : List (Nat × Obj)} (hP : ∀ p ∈ Pt', (p = (l, ob') ∧ ob'.isCells = false) ∨ (p ∈ Pt ∧ p.1 ≠ l))
    (hd : ∀ d ∈ a.defers, ∃ D, C.B ≤ D ∧ d = ⟨.collected D, #[]⟩ ∧ (D, .deferred (some [])) ∈ Pt') (hr : ∀ l, C.ro = some l → ∃ r, (l, .loop r) ∈ Pt') : GS C Pt' s a (w.putObj l ob') A Lx sp := by
  obtain ⟨h1, h2, h3, h4, h5⟩ := h.pt _ hl
  have hk : ∀ L : Area, (∀ b o, L b o → held s sp b o ∨ Lx b o) → Keep w (w.putObj l ob') A A L := fun L hL =>
    Keep.putObj h1 h2 (fun o ho => by rcases hL l o ho with e | e; exact h.pt_dead hl o e; exact h3 o e) (fun b o ha => ⟨(h.rs.av b o ha).1, fun hb => by rcases hL b o hb with e | e; exact h.own_av ha e; exact h.av b o ha e⟩) h4
  refine ⟨h.rs.keep (hk (live s.loc sp) fun _ _ h => .inl (.inl h)) fun _ _ h => h, h.ig, fun b o hb => by simpa using h.lt b o hb, h.ap, h.av, C.st _ _ _ _ _ _ h.x (hk Lx fun _ _ h => .inr h), fun p hp => ?_, fun b => ?_, h.oa, by simpa using h.bs, h.dn, hd, hr⟩
  · rcases hP p hp with ⟨rfl, hc⟩ | ⟨hp, hne⟩
    · exact ⟨World.putObj_heap_same (lt_of_heap h1), hc, h3, h4, h5⟩
    · obtain ⟨g1, g2⟩ := h.pt p hp
      exact ⟨(World.putObj_heap_other hne).trans g1, g2⟩
  · have hk2 := hk (held s sp) fun _ _ h => .inl h
    exact (h.ob b).mono (fun hx => hk2.blk b 0 (.inr hx)) (fun b o v ha hv => ⟨hk2.cell b o v ha hv, ha⟩) hk2.obj

theorem GS.lay (h : GS C Pt s a w A Lx sp) {ob : Obj} (hc : ob.isCells = false) : GS C ((w.heap.size, ob) :: Pt) s a (w.alloc ob) A Lx sp := by
  have hk : ∀ L : Area, (∀ b o, L b o → held s sp b o ∨ Lx b o) → Keep w (w.alloc ob) A A L := fun L hL =>
    Keep.alloc ob (fun b o ha => ⟨(h.rs.av b o ha).1, fun hb => by rcases hL b o hb with e | e; exact h.own_av ha e; exact h.av b o ha e⟩) (fun b o hb => by rcases hL b o hb with e | e; exact h.own_lt e; exact h.lt b o e)
  refine ⟨h.rs.keep (hk (live s.loc sp) fun _ _ h => .inl (.inl h)) fun _ _ h => h, h.ig, fun b o hb => by rw [alloc_size]; have := h.lt b o hb; omega, h.ap, h.av, C.st _ _ _ _ _ _ h.x (hk Lx fun _ _ h => .inr h), fun p hp => ?_, fun b => ?_, h.oa, by rw [alloc_size]; have := h.bs; omega, h.dn, fun d hd => ?_, fun l hl => ?_⟩
  · rcases List.mem_cons.1 hp with rfl | hp
    · refine ⟨heap_alloc_at _ _, hc, fun o hl => absurd (h.lt _ _ hl) (Nat.lt_irrefl _), fun o ha => absurd (h.rs.av _ _ ha).1 (Nat.lt_irrefl _), Classical.byContradiction fun hx => ?_⟩
      exact absurd (h.own_lt (o := 0) (.inr hx)) (Nat.lt_irrefl _)
    · obtain ⟨g1, g2⟩ := h.pt p hp
      exact ⟨(heap_alloc _ _ _ (lt_of_heap g1)).trans g1, g2⟩
  · have hk2 := hk (held s sp) fun _ _ h => .inl h
    exact (h.ob b).mono (fun hx => hk2.blk b 0 (.inr hx)) (fun b o v ha hv => ⟨hk2.cell b o v ha hv, ha⟩) hk2.obj
  · obtain ⟨D, d1, d2, d3⟩ := h.df d hd
    exact ⟨D, d1, d2, List.mem_cons_of_mem _ d3⟩
  · obtain ⟨r, hr⟩ := h.ro l hl
    exact ⟨r, List.mem_cons_of_mem _ hr⟩

theorem GS.evAlloc (_ : GS C Pt s a w A Lx sp) (ob : Obj) (L : Area) (_ : ∀ b o, L b o → b < w.heap.size) (T : Area) (hT : ∀ b o, T b o → L b o ∨ b = w.heap.size) : Ev w A L (w.alloc ob) A T :=
  ⟨rfl, rfl, rfl, by rw [alloc_size]; omega, fun b o hb hl => ⟨cell_alloc _ _ _ _ hb, fun ht => by rcases hT b o ht with e | e; exact hl e; omega⟩, fun b hb _ => heap_alloc _ _ _ hb, fun _ _ ha => ha, fun _ _ ha => .inl ha⟩

def params (s : St) : List Nat → List AV → St
  | p :: ps, x :: xs => params (s.set p x.erase) ps xs
  | _, _ => s

theorem params_loc : ∀ (ps : List Nat) (xs : List AV) (s : St), (params s ps xs).loc = s.loc
  | [], _, _ => rfl
  | _ :: _, [], _ => rfl
  | p :: ps, x :: xs, s => params_loc ps xs (s.set p x.erase)

theorem params_g (k : Nat) (hk : gS ≤ k) : ∀ (ps : List Nat) (xs : List AV) (s : St), (∀ p ∈ ps, p < gS) → (params s ps xs).env k = s.env k
  | [], _, _, _ => rfl
  | _ :: _, [], _, _ => rfl
  | p :: ps, x :: xs, s, h => (params_g k hk ps xs (s.set p x.erase) (fun q hq => h q (List.mem_cons_of_mem _ hq))).trans (upd_ne _ _ (by have := h p (List.mem_cons_self ..); omega))

theorem RS.params {N : Nat} : ∀ (ps : List Nat) (xs : List AV) (vs : List Value) (s : St) (t : Array Value), RS N s ⟨t, []⟩ w A sp → (∀ p ∈ ps, p < N) → ps.length = xs.length → vs.length = xs.length →
    (∀ i, RV w A (xs.getD i .any) (vs.getD i undef)) → RS N (Avm.params s ps xs) ⟨(ps.zip vs).foldl (fun t (p, v) => t.setIfInBounds p v) t, []⟩ w A sp
  | [], _, _, _, _, h, _, _, _, _ => h
  | p :: ps, x :: xs, v :: vs, s, t, h, hp, h1, h2, hr => by
    refine RS.params ps xs vs (s.set p x.erase) (t.setIfInBounds p v) ?_ (fun q hq => hp q (List.mem_cons_of_mem _ hq)) (by simpa using h1) (by simpa using h2) (fun i => by simpa using hr (i + 1))
    exact h.put (hp p (List.mem_cons_self ..)) (by simpa using (hr 0).erase) .erase
  | _ :: _, [], _, _, _, _, _, h1, _, _ => by simp at h1
  | _ :: _, _ :: _, [], _, _, _, _, _, h2, _ => by simp at h2

theorem params_held (ps : List Nat) (xs : List AV) (s : St) (sp : Sp) (h : ∀ p ∈ ps, p < gS) : held (params s ps xs) sp = held s sp := by
  unfold held
  have : objs (params s ps xs) = objs s := by funext b o; simp only [objs]; rw [params_g _ (by simp only [gS, oS]; omega) ps xs s h]
  rw [this, params_loc]

def back (s s2 : St) : St := ⟨fun k => if gS ≤ k then s2.env k else (s.env k).erase, s2.loc⟩

theorem back_g (s s2 : St) {k : Nat} (hk : gS ≤ k) : (back s s2).env k = s2.env k := by simp [back, hk]
theorem back_o (s s2 : St) (b : Nat) : (back s s2).env (oS + b) = s2.env (oS + b) := back_g s s2 (by simp only [gS, oS]; omega)
theorem back_own (s s2 : St) (sp : Sp) : held (back s s2) sp = held s2 sp := by
  unfold held
  have : objs (back s s2) = objs s2 := by funext b o; simp only [objs, back_o]
  rw [this]; rfl
theorem back_objs (s s2 : St) : objs (back s s2) = objs s2 := by funext b o; simp only [objs, back_o]
theorem back_back (s s2 s3 : St) : back s (back s2 s3) = back s s3 := by
  simp only [back, St.mk.injEq, and_true]
  funext k
  split <;> simp_all

theorem RS.back {N : Nat} {s0 s1 s2 : St} {t1 t2 : Array Value} {w1 w2 : World} {A1 A2 : Area} {sp1 sp2 : Sp} (h1 : RS N s1 ⟨t1, []⟩ w1 A1 sp1) (hs : s1 = Avm.back s0 s1) (h2 : RS N s2 ⟨t2, []⟩ w2 A2 sp2)
    (hk : ∀ b o v, A1 b o → w1.cell? ⟨b, o, none⟩ = some v → w2.cell? ⟨b, o, none⟩ = some v ∧ A2 b o) (hob : ObjKept w1 w2 A1 A2) (hg : ∀ k, gS ≤ k → isG (s2.env k) = true) : RS N (Avm.back s0 s2) ⟨t1, []⟩ w2 A2 sp2 := by
  refine ⟨h1.size, rfl, fun d => ?_, h2.loc, h2.spb, h2.spd, h2.av⟩
  have h3 := (h1.env d).1
  by_cases hd : gS ≤ d
  · rw [back_g _ _ hd]
    have hg := hg d hd
    generalize s2.env d = x at hg
    cases x <;> first | (cases hg; done) | exact ⟨.any _, trivial⟩ | exact ⟨.ghost _ _ _ _, trivial⟩
  · rw [hs] at h3
    simp only [Avm.back, hd, if_false] at h3 ⊢
    exact ⟨h3.mono hk hob, .erase⟩

theorem RS.forget {N : Nat} {t : Array Value} (h : RS N s ⟨t, []⟩ w A sp) : RS N (Avm.back s s) ⟨t, []⟩ w A sp := by
  refine ⟨h.size, rfl, fun d => ?_, h.loc, h.spb, h.spd, h.av⟩
  by_cases hd : gS ≤ d
  · rw [back_g _ _ hd]; exact h.env d
  · simp only [Avm.back, hd, if_false]; exact ⟨(h.env d).1.erase, .erase⟩
end
end Go.Avm

namespace Go.Avm
open Go.RowKit

def St.del (s : St) (b : Nat) : St := ⟨s.env, upd s.loc b none⟩

theorem mark_inj {p q : Nat} (h : mark p = mark q) : p = q := by
  simp only [mark, AV.lit.injEq, Value.agg.injEq, Array.mk.injEq, List.cons.injEq, Value.int.injEq] at h
  have := h.1.2
  omega

section
variable {P : Program} {C : Ctx P} {Pt : List (Nat × Obj)} {s : St} {a : Act} {w : World} {A Lx : Area} {sp : Sp} {b : Nat} {cs : List AV}

theorem held_new (s : St) (sp : Sp) (b : Nat) (cs : List AV) : held (s.new b cs) sp = join (held s sp) (blkA b) := by
  funext c o
  apply propext
  constructor
  · rintro ((hl | hl) | hl)
    · by_cases e : c = b
      · exact .inr e
      · exact .inl (.inl (.inl (by simpa only [St.new, upd_ne _ _ e] using hl)))
    · exact .inl (.inl (.inr hl))
    · exact .inl (.inr hl)
  · rintro (((hl | hl) | hl) | hl)
    · refine .inl (.inl ?_)
      by_cases e : c = b
      · subst e; simp [St.new, upd]
      · simpa only [St.new, upd_ne _ _ e] using hl
    · exact .inl (.inr hl)
    · exact .inr hl
    · have hl' : c = b := hl
      subst hl'
      exact .inl (.inl (by simp [St.new, upd]))

theorem full_new (s : St) (sp : Sp) (b : Nat) (cs : List AV) (Lx : Area) (Pt : List (Nat × Obj)) : full (s.new b cs) sp Lx Pt = join (full s sp Lx Pt) (blkA b) := by
  unfold full
  rw [held_new]
  funext c o
  apply propext
  constructor
  · rintro (((h | h) | h) | h)
    · exact .inl (.inl (.inl h))
    · exact .inr h
    · exact .inl (.inl (.inr h))
    · exact .inl (.inr h)
  · rintro (((h | h) | h) | h)
    · exact .inl (.inl (.inl h))
    · exact .inl (.inr h)
    · exact .inr h
    · exact .inl (.inl (.inr h))

theorem full_del (sp : Sp) (Lx : Area) (Pt : List (Nat × Obj)) (hb : s.loc b = some cs) : full s sp Lx Pt = join (full (s.del b) sp Lx Pt) (blkA b) := by
  have h1 := full_new (s.del b) sp b cs Lx Pt
  have e : (s.del b).new b cs = s := by
    cases s with
    | mk env loc =>
      simp only [St.del, St.new, St.mk.injEq, true_and]
      funext c
      simp only [upd]
      split
      · rename_i e; subst e; exact hb.symm
      · rfl
  rw [e] at h1
  exact h1

theorem GS.lend (h : GS C Pt s a w A Lx sp) (hcs : cs.map AV.erase0 = cs) (hlent : Lent w A b cs) (hA : ∀ o, ¬ A b o) (hf : ∀ o, ¬ full s sp Lx Pt b o) : GS C Pt (s.new b cs) a w A Lx sp := by
  have hrs : RS C.N (s.new b cs) ⟨a.tmps, []⟩ w A sp := by
    refine ⟨h.rs.size, h.rs.defers, h.rs.env, fun c cs' hc => ?_, fun r hr => ⟨(h.rs.spb r hr).1, ?_⟩, h.rs.spd, fun c o ha => ⟨(h.rs.av c o ha).1, ?_⟩⟩
    · by_cases e : c = b
      · subst e
        simp only [St.new, upd_same] at hc
        injection hc with hc; subst hc
        obtain ⟨vs, T, g1, g2, g3⟩ := hlent
        exact ⟨vs, T, g1, g2, fun i => ⟨g3 i, .of_erase0 hcs i⟩⟩
      · simp only [St.new, upd_ne _ _ e] at hc
        exact h.rs.loc c cs' hc
    · have hne : (sp r).1 ≠ b := fun e => hf (sp r).2.1 (.inl (.inl (.inl (.inr ⟨r, e, Nat.le_refl _, hr⟩))))
      simp only [St.new, upd_ne _ _ hne]
      exact (h.rs.spb r hr).2
    · rintro (hl | hl)
      · by_cases e : c = b
        · subst e; exact hA o ha
        · simp only [St.new, upd_ne _ _ e] at hl
          exact (h.rs.av c o ha).2 (.inl hl)
      · exact (h.rs.av c o ha).2 (.inr hl)
  refine ⟨hrs, h.ig, h.lt, fun c o o' hl hx => ?_, h.av, h.x, h.pt, h.ob, h.oa, h.bs, h.dn, h.df, h.ro⟩
  rw [held_new] at hl
  rcases hl with hl | hl
  · exact h.ap c o o' hl hx
  · have hl' : c = b := hl
    subst hl'
    exact hf o' (.inl (.inr hx))

theorem GS.unlend (h : GS C Pt s a w A Lx sp) (b : Nat) : GS C Pt (s.del b) a w A Lx sp := by
  have hlive : ∀ c o, live (s.del b).loc sp c o → live s.loc sp c o := by
    rintro c o (hl | hl)
    · refine .inl fun e => hl ?_
      simp only [St.del, upd]
      split
      · rfl
      · exact e
    · exact .inr hl
  have hrs : RS C.N (s.del b) ⟨a.tmps, []⟩ w A sp := by
    refine ⟨h.rs.size, h.rs.defers, h.rs.env, fun c cs' hc => ?_, fun r hr => ⟨(h.rs.spb r hr).1, ?_⟩, h.rs.spd, fun c o ha => ⟨(h.rs.av c o ha).1, fun hl => (h.rs.av c o ha).2 (hlive c o hl)⟩⟩
    · simp only [St.del, upd] at hc
      split at hc
      · cases hc
      · exact h.rs.loc c cs' hc
    · simp only [St.del, upd]
      split
      · rfl
      · exact (h.rs.spb r hr).2
  exact ⟨hrs, h.ig, h.lt, fun c o o' hl hx => h.ap c o o' (hl.elim (fun hl => .inl (hlive c o hl)) .inr) hx, h.av, h.x, h.pt, h.ob, h.oa, h.bs, h.dn, h.df, h.ro⟩

theorem GS.handed (h : GS C Pt s a w A Lx sp) (hb : s.loc b = some cs) : Lent w A b cs ∧ (∀ o, ¬ A b o) ∧ ∀ o, ¬ full (s.del b) sp Lx Pt b o := by
  have hlive : ∀ o, live s.loc sp b o := fun o => .inl (by rw [hb]; exact fun e => by cases e)
  obtain ⟨vs, T, g1, g2, g3⟩ := h.rs.loc b cs hb
  refine ⟨⟨vs, T, g1, g2, fun i => (g3 i).1⟩, fun o ha => (h.rs.av b o ha).2 (hlive o), ?_⟩
  rintro o (((hl | hl) | hl) | ⟨p, hp, e⟩)
  · rcases hl with hl | ⟨r, h1, h2, h3⟩
    · exact hl (by simp [St.del, upd])
    · have := (h.rs.spb r (by omega)).2
      rw [h1, hb] at this; cases this
  · obtain ⟨ob, q1, q2⟩ := h.obj_block (b := b) (o := o) hl
    exact h.rs.not_live q1 q2 0 (hlive 0)
  · exact h.ap b o o (.inl (hlive o)) hl
  · exact h.pt_dead hp 0 (e ▸ .inl (hlive 0))
end
end Go.Avm

namespace Go.Avm
open Go.RowKit

inductive MCode where
  | skip
  | reg (ms : List MOp)
  | seq (x y : MCode)
  | cond (t : MArg) (x y : MCode)
  | block (id : Nat) (c : MCode)
  | loop (c : MCode)
  | exit (id : Nat)
  | ret
  | rangeF (x : MArg) (ps : List Nat) (assign body : MCode)
  | rangeL (x : MArg) (pos : Nat) (ps : List Nat) (assign body : MCode)
  deriving Inhabited

def Ent (s s1 : St) : Prop := (∀ k, gS ≤ k → s1.env k = s.env k) ∧ ∀ (N : Nat) (a : Act) (w : World) (A : Area) (sp : Sp), RS N s a w A sp → ∃ A1 sp1, RS N s1 a w A1 sp1 ∧ Ev w A (live s.loc sp) w A1 (live s1.loc sp1)

theorem Ent.refl (s : St) : Ent s s := ⟨fun _ _ => rfl, fun _ _ _ A sp h => ⟨A, sp, h, .refl _ _ _⟩⟩

def MLoop (body : (St → Prop) → St → Prop) (s : St) : Prop :=
  ∃ I : Nat → St → Prop, (∃ n s1, Ent s s1 ∧ I n s1) ∧ ∀ n s, I n s → body (fun s' => ∃ m s1, m < n ∧ Ent s' s1 ∧ I m s1) s

def MRange (P : Program) (f : FuncId) (first cap : List AV) (np : Nat) (s : St) (rnd : (Nat → St → Prop) → Nat → List AV → St → Prop) (kn : St → Prop) : Prop :=
  ∃ xs, PSeq P f first cap xs ∧ (∀ y ∈ xs, y.length = np ∧ noMark y = true) ∧ ∃ I : Nat → St → Prop, I 0 (back s s) ∧ (∀ k st, k < xs.length → st = back s st → I k st → rnd I k (xs.getD k []) st) ∧
    (∀ st, st = back s st → I xs.length st → kn st)

def MRangeL (P : Program) (f : FuncId) (first cap : List AV) (pos : Nat) (s : St) (rnd : (Nat → St → Prop) → Nat → AV → St → Prop) (kn : St → Prop) : Prop :=
  ∃ xs : List AV, PSeq P f first cap (xs.map fun x => [x, mark pos]) ∧ ∃ I : Nat → St → Prop, I 0 (back s s) ∧ (∀ k st, k < xs.length → st = back s st → I k st → rnd I k (xs.getD k .any) st) ∧
    (∀ st, st = back s st → I xs.length st → kn st)

def mwp (P : Program) : MCode → (St → Prop) → (Nat → St → Prop) → (St → Prop) → St → Prop
  | .skip, kn, _, _, s => kn s
  | .reg ms, kn, _, _, s => vcs P ms kn s
  | .seq x y, kn, ke, kr, s => mwp P x (mwp P y kn ke kr) ke kr s
  | .cond t x y, kn, ke, kr, s => match t.ev s.env with
    | .lit (.bool b) => (b = true → mwp P x kn ke kr s) ∧ (b = false → mwp P y kn ke kr s)
    | _ => False
  | .block id c, kn, ke, kr, s => mwp P c kn (fun i s => if i = id then kn s else ke i s) kr s
  | .loop c, _, ke, kr, s => MLoop (fun kn s => mwp P c kn ke kr s) s
  | .exit id, _, ke, _, s => ke id s
  | .ret, _, _, kr, s => kr s
  | .rangeF x ps assign body, kn, ke, kr, s => match x.ev s.env with
    | .func (.func f) first cap => MRange P f first cap ps.length s (fun I k y st =>
        mwp P assign (mwp P body (fun s2 => I (k + 1) (back s s2)) (fun i s2 => ke i (back s s2)) (fun s2 => kr (back s s2))) (fun _ _ => False) (fun _ => False) (params st ps y)) kn
    | _ => False
  | .rangeL x pos ps assign body, kn, ke, kr, s => match x.ev s.env with
    | .func (.func f) first cap => MRangeL P f first cap pos s (fun I k y st => ∀ b sz len cap cs, st.loc b = none → LentOK y pos sz len cap cs →
        mwp P assign (mwp P body (fun s2 => s2.loc b = some cs ∧ I (k + 1) (back s (s2.del b))) (fun i s2 => s2.loc b = some cs ∧ ke i (back s (s2.del b))) (fun s2 => s2.loc b = some cs ∧ kr (back s (s2.del b)))) (fun _ _ => False) (fun _ => False)
          (params (st.new b cs) ps [putAt y pos (.mslice b 0 len cap sz)])) kn
    | _ => False

def rlPos (ann : Ann) : Operand → Option Nat
  | .tmp t => match look ann.rl t 0 with
    | 0 => none
    | pos + 1 => some pos
  | _ => none

def trC (P : Program) (ann : Ann) (N : Nat) : Code → Option MCode
  | .skip => some .skip
  | .region id ops false => (trXList (trGd P ann N) P ann N ops ops.toList).map fun ms => .reg (ms ++ (fzs ann N id).map .frz)
  | .region id ops true => (trXDraw (trD P ann N) P ann N id ops).map fun ms => .reg (ms ++ (fzs ann N id).map .frz)
  | .seq x y => match trC P ann N x, trC P ann N y with
    | some x, some y => some (.seq x y)
    | _, _ => none
  | .cond t x y => match argOf t, trC P ann N x, trC P ann N y with
    | some t, some x, some y => some (.cond t x y)
    | _, _, _ => none
  | .block id c => (trC P ann N c).map (.block id)
  | .loop c => (trC P ann N c).map .loop
  | .exit id => some (.exit id)
  | .ret => some .ret
  | .scope c => trC P ann N c
  | .label _ => some .skip
  | .rangeFunc g ps assign body => match argOf g, trC P ann N assign, trC P ann N body with
    | some x, some y, some z => if ps.toList.all (· < N) then (match rlPos ann g with
      | some pos => if ps.toList.length = 1 then some (.rangeL x pos ps.toList y z) else none
      | none => some (.rangeF x ps.toList y z)) else none
    | _, _, _ => none
  | _ => none

def Ends (kn : St → Prop) (ke : Nat → St → Prop) (kr : St → Prop) : Exit → St → Prop
  | .normal, s => kn s
  | .exit i, s => ke i s
  | .ret, s => kr s
  | _, _ => False

section
variable {P : Program}

def PostX (C : Ctx P) (Pt : List (Nat × Obj)) (s : St) (ds : List Deferred) (w : World) (A Lx : Area) (sp : Sp) (kn : St → Prop) (ke : Nat → St → Prop) (kr : St → Prop) : Exit → Act → World → Prop := fun e a' w' =>
  ∃ s' A' Lx' sp' Pt', (∀ p ∈ Pt, p ∈ Pt') ∧ GS C Pt' s' a' w' A' Lx' sp' ∧ Ev w A (join (held s sp) Lx) w' A' (join (held s' sp') Lx') ∧ (C.ro.isSome = true → a'.defers = ds) ∧ Ends kn ke kr e s'

def CSound (P : Program) (ann : Ann) (c : Code) : Prop :=
  ∀ (C : Ctx P) (m : MCode) (kn : St → Prop) (ke : Nat → St → Prop) (kr : St → Prop) (Pt : List (Nat × Obj)) (s : St) (a : Act) (w : World) (A Lx : Area) (sp : Sp), C.N ≤ gS → trC P ann C.N c = some m →
    GS C Pt s a w A Lx sp → mwp P m kn ke kr s → c.wpIn (Fw C.ro) 0 P (PostX C Pt s a.defers w A Lx sp kn ke kr) a w

theorem stepR_scope {b : Frame} {a : Act} {k : List Item} {cs : List Frame} {w : World} {c : Code} : step P (lone (b.atR a (.code (.scope c) :: k)) cs w) = .next (lone (b.atR a (.code c :: .inScope c :: k)) cs w) :=
  step_lone_go (by simp [stepG, stepG.exec, Frame.atR])
theorem stepR_inScope {b : Frame} {a : Act} {k : List Item} {cs : List Frame} {w : World} {c : Code} : step P (lone (b.atR a (.inScope c :: k)) cs w) = .next (lone (b.atR a k) cs w) :=
  step_lone_go (by simp [stepG, stepG.exec, Frame.atR])

theorem wpIn_scope {F : Fence} {n : Nat} {Q : Exit → Act → World → Prop} {a : Act} {w : World} {c : Code} (hQ : ∀ l a w, ¬ Q (.goto l) a w) (h : c.wpIn F n P Q a w) : (Code.scope c).wpIn F n P Q a w := by
  intro b k cs hro hb hr
  have h0 : (lone (b.atR a (.code (.scope c) :: k)) cs w).fenced P F := fenced_calm hb hr rfl
  obtain ⟨e, a₁, w₁, hq, harr⟩ := h b (.inScope c :: k) cs hro hb hr
  cases e with
  | normal => exact ⟨.normal, a₁, w₁, hq, .head h0 stepR_scope (StepsIn.trans harr (.one (fenced_calm hb hr rfl) stepR_inScope))⟩
  | exit id =>
    have hx : exitTo id (.inScope c :: k) = exitTo id k := by simp [exitTo]
    exact ⟨.exit id, a₁, w₁, hq, fun k' hk => .head h0 stepR_scope (harr.1 k' (by rw [hx]; exact hk)), fun hr' hk => let ⟨k₁, h1, h2⟩ := harr.2 hr' (by rw [hx]; exact hk); ⟨k₁, h1, .head h0 stepR_scope h2⟩⟩
  | goto l => exact absurd hq (hQ l _ _)
  | ret => exact ⟨_, a₁, w₁, hq, .of_steps (.one h0 stepR_scope) harr⟩
  | panic ch => exact ⟨_, a₁, w₁, hq, .of_steps (.one h0 stepR_scope) harr⟩
  | outgrown => exact ⟨_, a₁, w₁, hq, .of_steps (.one h0 stepR_scope) harr⟩

abbrev mkRec (fn : FuncId) (t0 : Array Value) (ps : Array Tmp) (assign body : Code) (dl : Nat) (st : LoopState) (pe : Option Code) : Loop :=
  { state := st, pending := pe, fn, tmps := t0, params := ps, assign, body, defers := dl }

def LoopX (C : Ctx P) (s0 : St) (t0 : Array Value) (ds0 : List Deferred) (l : Nat) (rc : LoopState → Option Code → Loop) (Pm : List (Nat × Obj)) (xs : List (List AV)) (I : Nat → St → Prop) (ke : Nat → St → Prop) (kr : St → Prop) :
    AV → World → Area → Area → Prop
  | .ghost l' rest false, w, A, L => l' = l ∧ ∃ k, k ≤ xs.length ∧ rest = xs.drop k ∧ ∃ st sp Lx, GS C ((l, .loop (rc .ready none)) :: Pm) st ⟨t0, ds0⟩ w A Lx sp ∧ st = back s0 st ∧ I k st ∧
      L = full st sp Lx ((l, .loop (rc .ready none)) :: Pm)
  | .ghost l' _ true, w, A, L => l' = l ∧ ∃ c st sp Lx, GS C ((l, .loop (rc .done (some c))) :: Pm) st ⟨t0, ds0⟩ w A Lx sp ∧ st = back s0 st ∧ ((∃ i, c = .exit i ∧ ke i st) ∨ (c = .ret ∧ kr st)) ∧
      L = full st sp Lx ((l, .loop (rc .done (some c))) :: Pm)
  | _, _, _, _ => False

theorem loop_st {C : Ctx P} {s0 : St} {t0 : Array Value} {ds0 : List Deferred} {l : Nat} {rc : LoopState → Option Code → Loop} {Pm : List (Nat × Obj)} {xs : List (List AV)} {I : Nat → St → Prop} {ke : Nat → St → Prop} {kr : St → Prop} :
    StLaw (LoopX C s0 t0 ds0 l rc Pm xs I ke kr) := by
  intro gh w w' A A' L hx hk
  unfold LoopX at hx ⊢
  split at hx
  · obtain ⟨h1, k, h2, h3, st, sp, Lx, h4, h5, h6, rfl⟩ := hx
    exact ⟨h1, k, h2, h3, st, sp, Lx, h4.keep hk (fun _ _ h => .inl (.inl h)) (fun _ _ h => .inl (.inr h)) (fun p hp _ => .inr ⟨p, hp, rfl⟩), h5, h6, rfl⟩
  · obtain ⟨h1, c, st, sp, Lx, h4, h5, h6, rfl⟩ := hx
    exact ⟨h1, c, st, sp, Lx, h4.keep hk (fun _ _ h => .inl (.inl h)) (fun _ _ h => .inl (.inr h)) (fun p hp _ => .inr ⟨p, hp, rfl⟩), h5, h6, rfl⟩
  · exact hx.elim

theorem full_congr (s : St) (sp : Sp) (Lx : Area) (l : Nat) (o o' : Obj) (Pm : List (Nat × Obj)) : full s sp Lx ((l, o) :: Pm) = full s sp Lx ((l, o') :: Pm) := by
  simp [full]

theorem loop_yl {ann : Ann} {assign body : Code} (ihA : CSound P ann assign) (ihB : CSound P ann body) {C : Ctx P} {s0 : St} {t0 : Array Value} {ds0 : List Deferred} {l : Nat} {fn : FuncId} {ps : Array Tmp} {dl : Nat} {Pm : List (Nat × Obj)}
    {xs : List (List AV)} {I : Nat → St → Prop} {ke : Nat → St → Prop} {kr : St → Prop} {ma mb : MCode} (hCN : C.N ≤ gS) (hma : trC P ann C.N assign = some ma) (hmb : trC P ann C.N body = some mb) (hps : ∀ p ∈ ps.toList, p < C.N)
    (hne : ∀ p ∈ Pm, p.1 ≠ l) (hlen : ∀ y ∈ xs, y.length = ps.toList.length)
    (hdf : ∀ d ∈ ds0, ∃ D, C.B ≤ D ∧ d = ⟨.collected D, #[]⟩ ∧ (D, .deferred (some [])) ∈ Pm) (hro : ∀ l, C.ro = some l → ∃ r, (l, .loop r) ∈ Pm) (hdn : (ds0.map (·.target)).Nodup)
    (hround : ∀ k st, k < xs.length → st = back s0 st → I k st → mwp P ma (mwp P mb (fun s2 => I (k + 1) (back s0 s2)) (fun i s2 => ke i (back s0 s2)) (fun s2 => kr (back s0 s2))) (fun _ _ => False) (fun _ => False) (params st ps.toList (xs.getD k []))) :
    YLaw P (LoopX C s0 t0 ds0 l (mkRec fn t0 ps assign body dl) Pm xs I ke kr) := by
  intro l' y rest w A L vs hx hlt hav hs hr
  obtain ⟨rfl, k, hk, hrest, st, sp, Lx, hG, hst, hI, rfl⟩ := hx
  have hk' : k < xs.length := by
    rcases Nat.lt_or_ge k xs.length with h | h
    · exact h
    · rw [List.drop_of_length_le h] at hrest; cases hrest
  rw [List.drop_eq_getElem_cons hk'] at hrest
  injection hrest with hy hrest
  have hyk : xs.getD k [] = y := by rw [List.getD_eq_getElem?_getD, List.getElem?_eq_getElem hk', hy]; rfl
  have hylen : y.length = ps.toList.length := hlen y (by rw [hy]; exact List.getElem_mem _)
  have hl := (hG.pt _ (List.mem_cons_self ..)).1
  simp only at hl
  refine ⟨fn, _, assign, body, run_yield hl (by simp [hs, hylen]), roundIn_of_wpIn trivial ?_⟩
  let C' : Ctx P := { C with ro := some l' }
  have hzip : (ps.zip vs).foldl (fun tmps (x : Tmp × Value) => match x with | (t, a) => tmps.setIfInBounds t a) t0 = (ps.toList.zip vs.toList).foldl (fun t (p, v) => t.setIfInBounds p v) t0 := by
    rw [← Array.foldl_toList, Array.toList_zip]
  have hG' : GS C' ((l', .loop (mkRec fn t0 ps assign body dl .ready none)) :: Pm) (params st ps.toList y) ⟨(ps.zip vs).foldl (fun tmps (x : Tmp × Value) => match x with | (t, a) => tmps.setIfInBounds t a) t0, []⟩ w A Lx sp := by
    have hlt' : ∀ p ∈ ps.toList, p < gS := fun p hp => Nat.lt_of_lt_of_le (hps p hp) hCN
    have hg : ∀ k, gS ≤ k → (params st ps.toList y).env k = st.env k := fun k hk => params_g k hk _ _ _ hlt'
    have ho : ∀ b, (params st ps.toList y).env (oS + b) = st.env (oS + b) := fun b => hg _ (by simp only [gS, oS]; omega)
    refine ⟨?_, fun k hk => by rw [hg k hk]; exact hG.ig k hk, hG.lt, by rw [params_held _ _ _ _ hlt']; exact hG.ap, hG.av, by rw [hg gS (Nat.le_refl _)]; exact hG.x, fun p hp => by rw [ho]; exact hG.pt p hp, fun b => by rw [ho]; exact hG.ob b,
      fun b o hb => hG.oa b o (by simp only [objs, ho] at hb; exact hb), hG.bs, List.nodup_nil, by simp, fun l1 e => ?_⟩
    · rw [hzip]
      exact RS.params ps.toList y vs.toList st t0 hG.rs hps hylen.symm (by simpa using hs) (fun i => by have := hr i; simpa [List.getD_eq_getElem?_getD, Array.getD_eq_getD_getElem?] using this)
    · injection e with e; subst e; exact ⟨_, List.mem_cons_self ..⟩
  have hmw := hround k st hk' hst hI
  rw [hyk] at hmw
  refine wpIn_mono (ihA C' ma _ _ _ _ _ _ w A Lx sp hCN hma hG' hmw) ?_
  rintro e a1 w1 ⟨s1, A1, Lx1, sp1, Pt1, hsub, hG1, hev1, hd1, hq⟩
  cases e with
  | normal =>
    have hl1 := (hG1.pt _ (hsub _ (List.mem_cons_self ..))).1
    refine ⟨_, run_beginRound hl1 rfl, ?_⟩
    have hG2 : GS C' ((l', .loop (mkRec fn t0 ps assign body dl .busy none)) :: Pm) s1 a1 (w1.putObj l' (.loop (mkRec fn t0 ps assign body dl .busy none))) A1 Lx1 sp1 := by
      refine hG1.putObj (hsub _ (List.mem_cons_self ..)) (fun p hp => ?_) (fun d hd => by rw [hd1 rfl] at hd; cases hd) (fun l1 e => ?_)
      · rcases List.mem_cons.1 hp with rfl | hp
        · exact .inl ⟨rfl, rfl⟩
        · exact .inr ⟨hsub _ (List.mem_cons_of_mem _ hp), hne p hp⟩
      · injection e with e; subst e; exact ⟨_, List.mem_cons_self ..⟩
    refine wpIn_mono (ihB C' mb _ _ _ _ s1 a1 _ A1 Lx1 sp1 hCN hmb hG2 hq) ?_
    rintro e a3 w3 ⟨s3, A3, Lx3, sp3, Pt3, hsub3, hG3, hev3, hd3, hq3⟩
    have hl3 := (hG3.pt _ (hsub3 _ (List.mem_cons_self ..))).1
    have fin : ∀ jump : Option Code, GS C ((l', .loop (mkRec fn t0 ps assign body dl (if jump.isNone then .ready else .done) jump)) :: Pm) (back s0 s3) ⟨t0, ds0⟩ (w3.putObj l' (.loop (mkRec fn t0 ps assign body dl (if jump.isNone then .ready else .done) jump))) A3 Lx3 sp3 ∧
        Ev w A (full st sp Lx ((l', .loop (mkRec fn t0 ps assign body dl .ready none)) :: Pm)) (w3.putObj l' (.loop (mkRec fn t0 ps assign body dl (if jump.isNone then .ready else .done) jump))) A3
          (full (back s0 s3) sp3 Lx3 ((l', .loop (mkRec fn t0 ps assign body dl (if jump.isNone then .ready else .done) jump)) :: Pm)) := by
      intro jump
      have hG4 : GS C' ((l', .loop (mkRec fn t0 ps assign body dl (if jump.isNone then .ready else .done) jump)) :: Pm) s3 a3 (w3.putObj l' (.loop (mkRec fn t0 ps assign body dl (if jump.isNone then .ready else .done) jump))) A3 Lx3 sp3 := by
        refine hG3.putObj (hsub3 _ (List.mem_cons_self ..)) (fun p hp => ?_) (fun d hd => by rw [hd3 rfl, hd1 rfl] at hd; cases hd) (fun l1 e => ?_)
        · rcases List.mem_cons.1 hp with rfl | hp
          · exact .inl ⟨rfl, rfl⟩
          · exact .inr ⟨hsub3 _ (List.mem_cons_of_mem _ hp), hne p hp⟩
        · injection e with e; subst e; exact ⟨_, List.mem_cons_self ..⟩
      have hEv : Ev w A (full st sp Lx ((l', .loop (mkRec fn t0 ps assign body dl .ready none)) :: Pm)) (w3.putObj l' (.loop (mkRec fn t0 ps assign body dl (if jump.isNone then .ready else .done) jump))) A3
          (full s3 sp3 Lx3 ((l', .loop (mkRec fn t0 ps assign body dl (if jump.isNone then .ready else .done) jump)) :: Pm)) := by
        have e1 := hev1.wider (fun b _ => ∃ p ∈ ((l', Obj.loop (mkRec fn t0 ps assign body dl .ready none)) :: Pm), b = p.1)
        have e2 : Ev w1 A1 _ (w1.putObj l' (.loop (mkRec fn t0 ps assign body dl .busy none))) A1 _ := Ev.putObj w1 A1 (L := join (join (held s1 sp1) Lx1) (fun b _ => ∃ p ∈ ((l', Obj.loop (mkRec fn t0 ps assign body dl .ready none)) :: Pm), b = p.1)) (l := l') _ (fun o => .inr ⟨_, List.mem_cons_self .., rfl⟩)
        have e3 := hev3.wider (fun b _ => ∃ p ∈ ((l', Obj.loop (mkRec fn t0 ps assign body dl .ready none)) :: Pm), b = p.1)
        have e4 : Ev w3 A3 _ (w3.putObj l' (.loop (mkRec fn t0 ps assign body dl (if jump.isNone then .ready else .done) jump))) A3 _ := Ev.putObj w3 A3 (L := join (join (held s3 sp3) Lx3) (fun b _ => ∃ p ∈ ((l', Obj.loop (mkRec fn t0 ps assign body dl .ready none)) :: Pm), b = p.1)) (l := l') _ (fun o => .inr ⟨_, List.mem_cons_self .., rfl⟩)
        rw [params_held _ _ _ _ (fun p hp => Nat.lt_of_lt_of_le (hps p hp) hCN)] at e1
        have e5 := ((e1.trans e2).trans e3).trans e4
        rw [full_congr s3 sp3 Lx3 l' _ (.loop (mkRec fn t0 ps assign body dl .ready none))]
        exact e5
      have hbf : full (back s0 s3) sp3 Lx3 ((l', .loop (mkRec fn t0 ps assign body dl (if jump.isNone then .ready else .done) jump)) :: Pm) = full s3 sp3 Lx3 ((l', .loop (mkRec fn t0 ps assign body dl (if jump.isNone then .ready else .done) jump)) :: Pm) := by
        unfold full; rw [back_own]
      rw [hbf]
      refine ⟨⟨hG.rs.back hst hG4.rs (fun b o v ha hv => ⟨(hEv.cell b o (hG.full_av ha).1 (hG.full_av ha).2).1.trans hv, hEv.sub b o ha⟩) (hEv.kept fun b o ha => hG.full_av ha) hG4.ig, fun k hk => by rw [back_g _ _ hk]; exact hG4.ig k hk, hG4.lt, by rw [back_own]; exact hG4.ap, hG4.av, by rw [back_g _ _ (Nat.le_refl _)]; exact hG4.x, fun p hp => by rw [back_o]; exact hG4.pt p hp, fun b => by rw [back_o]; exact hG4.ob b, by rw [back_objs]; exact hG4.oa, hG4.bs, hdn, fun d hd => ?_, fun l1 e => ?_⟩, hEv⟩
      · obtain ⟨D, d1, d2, d3⟩ := hdf d hd
        exact ⟨D, d1, d2, List.mem_cons_of_mem _ d3⟩
      · obtain ⟨r, hr⟩ := hro l1 e
        exact ⟨r, List.mem_cons_of_mem _ hr⟩
    have hbb : back s0 s3 = back s0 (back s0 s3) := (back_back s0 s0 s3).symm
    cases e with
    | normal =>
      obtain ⟨f1, f2⟩ := fin none
      exact ⟨_, _, run_endRound none hl3, true, A3, _, rfl, f2, fun b o => f1.full_lt, fun b o => f1.full_av, rfl, k + 1, hk', hrest, back s0 s3, sp3, Lx3, f1, hbb, hq3, rfl⟩
    | exit i =>
      obtain ⟨f1, f2⟩ := fin (some (.exit i))
      exact ⟨_, _, run_endRound (some (.exit i)) hl3, false, A3, _, rfl, f2, fun b o => f1.full_lt, fun b o => f1.full_av, rfl, .exit i, back s0 s3, sp3, Lx3, f1, hbb, .inl ⟨i, rfl, hq3⟩, rfl⟩
    | ret =>
      obtain ⟨f1, f2⟩ := fin (some .ret)
      exact ⟨_, _, run_endRound (some .ret) hl3, false, A3, _, rfl, f2, fun b o => f1.full_lt, fun b o => f1.full_av, rfl, .ret, back s0 s3, sp3, Lx3, f1, hbb, .inr ⟨rfl, hq3⟩, rfl⟩
    | goto t => exact hq3.elim
    | panic ch => exact hq3.elim
    | outgrown => exact hq3.elim
  | exit i => exact hq.elim
  | ret => exact hq.elim
  | goto t => exact hq.elim
  | panic ch => exact hq.elim
  | outgrown => exact hq.elim

theorem loop_ylL {ann : Ann} {assign body : Code} (ihA : CSound P ann assign) (ihB : CSound P ann body) {C : Ctx P} {s0 : St} {t0 : Array Value} {ds0 : List Deferred} {l : Nat} {fn : FuncId} {ps : Array Tmp} {dl : Nat} {Pm : List (Nat × Obj)}
    {xs : List AV} {pos : Nat} {I : Nat → St → Prop} {ke : Nat → St → Prop} {kr : St → Prop} {ma mb : MCode} (hCN : C.N ≤ gS) (hma : trC P ann C.N assign = some ma) (hmb : trC P ann C.N body = some mb) (hps : ∀ p ∈ ps.toList, p < C.N)
    (hne : ∀ p ∈ Pm, p.1 ≠ l) (hlen : ps.toList.length = 1)
    (hdf : ∀ d ∈ ds0, ∃ D, C.B ≤ D ∧ d = ⟨.collected D, #[]⟩ ∧ (D, .deferred (some [])) ∈ Pm) (hro : ∀ l, C.ro = some l → ∃ r, (l, .loop r) ∈ Pm) (hdn : (ds0.map (·.target)).Nodup)
    (hround : ∀ k st, k < xs.length → st = back s0 st → I k st → ∀ b sz len cap cs, st.loc b = none → LentOK (xs.getD k .any) pos sz len cap cs → mwp P ma (mwp P mb (fun s2 => s2.loc b = some cs ∧ I (k + 1) (back s0 (s2.del b))) (fun i s2 => s2.loc b = some cs ∧ ke i (back s0 (s2.del b))) (fun s2 => s2.loc b = some cs ∧ kr (back s0 (s2.del b)))) (fun _ _ => False) (fun _ => False)
      (params (st.new b cs) ps.toList [putAt (xs.getD k .any) pos (.mslice b 0 len cap sz)])) :
    YLaw2 P (LoopX C s0 t0 ds0 l (mkRec fn t0 ps assign body dl) Pm (xs.map fun x => [x, mark pos]) I ke kr) := by
  intro l' x pos' rest w A L v g sz len cap cs hx hok hlt hav hrv hlent hgA hgL
  obtain ⟨rfl, k, hk, hrest, st, sp, Lx, hG0, hst, hI, rfl⟩ := hx
  rw [List.length_map] at hk
  have hk' : k < xs.length := by
    rcases Nat.lt_or_ge k xs.length with h | h
    · exact h
    · rw [List.drop_of_length_le (by simpa using h)] at hrest; cases hrest
  rw [List.drop_eq_getElem_cons (by simpa using hk')] at hrest
  injection hrest with hy hrest
  rw [List.getElem_map] at hy
  injection hy with hy1 hy2
  injection hy2 with hy2 _
  have hpp := mark_inj hy2
  subst hpp
  have hyk : xs.getD k .any = x := by rw [List.getD_eq_getElem?_getD, List.getElem?_eq_getElem hk', hy1]; rfl
  have hbn : st.loc g = none := by
    cases hb : st.loc g with
    | none => rfl
    | some c => exact absurd (.inl (.inl (.inl (.inl (by rw [hb]; exact fun e => by cases e))))) (hgL 0)
  have hG := hG0.lend hok.2.2.2.2.2 hlent hgA hgL
  obtain ⟨y, hyd⟩ : ∃ y, y = [putAt x pos' (.mslice g 0 len cap sz)] := ⟨_, rfl⟩
  have hylen : y.length = ps.toList.length := by rw [hyd, hlen]; rfl
  have hs : (#[v] : Array Value).size = y.length := by rw [hyd]; rfl
  have hr : ∀ i, RV w A (y.getD i .any) ((#[v] : Array Value).getD i undef) := fun i => by
    rw [hyd]
    cases i with
    | zero => exact hrv
    | succ i => simp; exact .any _
  obtain ⟨vs, hvs⟩ : ∃ vs, vs = (#[v] : Array Value) := ⟨_, rfl⟩
  rw [← hvs] at hs hr ⊢
  have hl := (hG.pt _ (List.mem_cons_self ..)).1
  simp only at hl
  refine ⟨fn, _, assign, body, run_yield hl (by simp [hs, hylen]), roundIn_of_wpIn trivial ?_⟩
  let C' : Ctx P := { C with ro := some l' }
  have hzip : (ps.zip vs).foldl (fun tmps (x : Tmp × Value) => match x with | (t, a) => tmps.setIfInBounds t a) t0 = (ps.toList.zip vs.toList).foldl (fun t (p, v) => t.setIfInBounds p v) t0 := by
    rw [← Array.foldl_toList, Array.toList_zip]
  have hG' : GS C' ((l', .loop (mkRec fn t0 ps assign body dl .ready none)) :: Pm) (params (st.new g cs) ps.toList y) ⟨(ps.zip vs).foldl (fun tmps (x : Tmp × Value) => match x with | (t, a) => tmps.setIfInBounds t a) t0, []⟩ w A Lx sp := by
    have hlt' : ∀ p ∈ ps.toList, p < gS := fun p hp => Nat.lt_of_lt_of_le (hps p hp) hCN
    have hg : ∀ k, gS ≤ k → (params (st.new g cs) ps.toList y).env k = st.env k := fun k hk => params_g k hk _ _ _ hlt'
    have ho : ∀ b, (params (st.new g cs) ps.toList y).env (oS + b) = st.env (oS + b) := fun b => hg _ (by simp only [gS, oS]; omega)
    refine ⟨?_, fun k hk => by rw [hg k hk]; exact hG.ig k hk, hG.lt, by rw [params_held _ _ _ _ hlt']; exact hG.ap, hG.av, by rw [hg gS (Nat.le_refl _)]; exact hG.x, fun p hp => by rw [ho]; exact hG.pt p hp, fun b => by rw [ho]; exact hG.ob b,
      fun b o hb => hG.oa b o (by simp only [objs, ho] at hb; exact hb), hG.bs, List.nodup_nil, by simp, fun l1 e => ?_⟩
    · rw [hzip]
      exact RS.params ps.toList y vs.toList (st.new g cs) t0 hG.rs hps hylen.symm (by simpa using hs) (fun i => by have := hr i; simpa [List.getD_eq_getElem?_getD, Array.getD_eq_getD_getElem?] using this)
    · injection e with e; subst e; exact ⟨_, List.mem_cons_self ..⟩
  have hmw := hround k st hk' hst hI g sz len cap cs hbn (by rw [hyk]; exact hok)
  rw [hyk, ← hyd] at hmw
  refine wpIn_mono (ihA C' ma _ _ _ _ _ _ w A Lx sp hCN hma hG' hmw) ?_
  rintro e a1 w1 ⟨s1, A1, Lx1, sp1, Pt1, hsub, hG1, hev1, hd1, hq⟩
  cases e with
  | normal =>
    have hl1 := (hG1.pt _ (hsub _ (List.mem_cons_self ..))).1
    refine ⟨_, run_beginRound hl1 rfl, ?_⟩
    have hG2 : GS C' ((l', .loop (mkRec fn t0 ps assign body dl .busy none)) :: Pm) s1 a1 (w1.putObj l' (.loop (mkRec fn t0 ps assign body dl .busy none))) A1 Lx1 sp1 := by
      refine hG1.putObj (hsub _ (List.mem_cons_self ..)) (fun p hp => ?_) (fun d hd => by rw [hd1 rfl] at hd; cases hd) (fun l1 e => ?_)
      · rcases List.mem_cons.1 hp with rfl | hp
        · exact .inl ⟨rfl, rfl⟩
        · exact .inr ⟨hsub _ (List.mem_cons_of_mem _ hp), hne p hp⟩
      · injection e with e; subst e; exact ⟨_, List.mem_cons_self ..⟩
    refine wpIn_mono (ihB C' mb _ _ _ _ s1 a1 _ A1 Lx1 sp1 hCN hmb hG2 hq) ?_
    rintro e a3 w3 ⟨s3, A3, Lx3, sp3, Pt3, hsub3, hG3, hev3, hd3, hq3⟩
    have hl3 := (hG3.pt _ (hsub3 _ (List.mem_cons_self ..))).1
    have fin : ∀ jump : Option Code, s3.loc g = some cs → GS C ((l', .loop (mkRec fn t0 ps assign body dl (if jump.isNone then .ready else .done) jump)) :: Pm) (back s0 (s3.del g)) ⟨t0, ds0⟩ (w3.putObj l' (.loop (mkRec fn t0 ps assign body dl (if jump.isNone then .ready else .done) jump))) A3 Lx3 sp3 ∧
        Ev w A (join (full st sp Lx ((l', .loop (mkRec fn t0 ps assign body dl .ready none)) :: Pm)) (blkA g)) (w3.putObj l' (.loop (mkRec fn t0 ps assign body dl (if jump.isNone then .ready else .done) jump))) A3
          (join (full (back s0 (s3.del g)) sp3 Lx3 ((l', .loop (mkRec fn t0 ps assign body dl (if jump.isNone then .ready else .done) jump)) :: Pm)) (blkA g)) ∧ Lent (w3.putObj l' (.loop (mkRec fn t0 ps assign body dl (if jump.isNone then .ready else .done) jump))) A3 g cs ∧ (∀ o, ¬ A3 g o) ∧ ∀ o, ¬ full (back s0 (s3.del g)) sp3 Lx3 ((l', .loop (mkRec fn t0 ps assign body dl (if jump.isNone then .ready else .done) jump)) :: Pm) g o := by
      intro jump hb3
      have hG4 : GS C' ((l', .loop (mkRec fn t0 ps assign body dl (if jump.isNone then .ready else .done) jump)) :: Pm) s3 a3 (w3.putObj l' (.loop (mkRec fn t0 ps assign body dl (if jump.isNone then .ready else .done) jump))) A3 Lx3 sp3 := by
        refine hG3.putObj (hsub3 _ (List.mem_cons_self ..)) (fun p hp => ?_) (fun d hd => by rw [hd3 rfl, hd1 rfl] at hd; cases hd) (fun l1 e => ?_)
        · rcases List.mem_cons.1 hp with rfl | hp
          · exact .inl ⟨rfl, rfl⟩
          · exact .inr ⟨hsub3 _ (List.mem_cons_of_mem _ hp), hne p hp⟩
        · injection e with e; subst e; exact ⟨_, List.mem_cons_self ..⟩
      have hEv : Ev w A (full (st.new g cs) sp Lx ((l', .loop (mkRec fn t0 ps assign body dl .ready none)) :: Pm)) (w3.putObj l' (.loop (mkRec fn t0 ps assign body dl (if jump.isNone then .ready else .done) jump))) A3
          (full s3 sp3 Lx3 ((l', .loop (mkRec fn t0 ps assign body dl (if jump.isNone then .ready else .done) jump)) :: Pm)) := by
        have e1 := hev1.wider (fun b _ => ∃ p ∈ ((l', Obj.loop (mkRec fn t0 ps assign body dl .ready none)) :: Pm), b = p.1)
        have e2 : Ev w1 A1 _ (w1.putObj l' (.loop (mkRec fn t0 ps assign body dl .busy none))) A1 _ := Ev.putObj w1 A1 (L := join (join (held s1 sp1) Lx1) (fun b _ => ∃ p ∈ ((l', Obj.loop (mkRec fn t0 ps assign body dl .ready none)) :: Pm), b = p.1)) (l := l') _ (fun o => .inr ⟨_, List.mem_cons_self .., rfl⟩)
        have e3 := hev3.wider (fun b _ => ∃ p ∈ ((l', Obj.loop (mkRec fn t0 ps assign body dl .ready none)) :: Pm), b = p.1)
        have e4 : Ev w3 A3 _ (w3.putObj l' (.loop (mkRec fn t0 ps assign body dl (if jump.isNone then .ready else .done) jump))) A3 _ := Ev.putObj w3 A3 (L := join (join (held s3 sp3) Lx3) (fun b _ => ∃ p ∈ ((l', Obj.loop (mkRec fn t0 ps assign body dl .ready none)) :: Pm), b = p.1)) (l := l') _ (fun o => .inr ⟨_, List.mem_cons_self .., rfl⟩)
        rw [params_held _ _ _ _ (fun p hp => Nat.lt_of_lt_of_le (hps p hp) hCN)] at e1
        have e5 := ((e1.trans e2).trans e3).trans e4
        rw [full_congr s3 sp3 Lx3 l' _ (.loop (mkRec fn t0 ps assign body dl .ready none))]
        exact e5
      have hbf : full (back s0 (s3.del g)) sp3 Lx3 ((l', .loop (mkRec fn t0 ps assign body dl (if jump.isNone then .ready else .done) jump)) :: Pm) = full (s3.del g) sp3 Lx3 ((l', .loop (mkRec fn t0 ps assign body dl (if jump.isNone then .ready else .done) jump)) :: Pm) := by
        unfold full; rw [back_own]
      obtain ⟨u1, u2, u3⟩ := hG4.handed hb3
      have hU := hG4.unlend g
      have hEv2 := hEv
      rw [full_new, full_del sp3 Lx3 _ hb3] at hEv2
      rw [hbf]
      refine ⟨⟨hG0.rs.back hst hU.rs (fun b o v ha hv => ⟨(hEv.cell b o (hG.full_av ha).1 (hG.full_av ha).2).1.trans hv, hEv.sub b o ha⟩) (hEv.kept fun b o ha => hG.full_av ha) hU.ig, fun k hk => by rw [back_g _ _ hk]; exact hU.ig k hk, hU.lt, by rw [back_own]; exact hU.ap, hU.av, by rw [back_g _ _ (Nat.le_refl _)]; exact hU.x, fun p hp => by rw [back_o]; exact hU.pt p hp, fun b => by rw [back_o]; exact hU.ob b, by rw [back_objs]; exact hU.oa, hU.bs, hdn, fun d hd => ?_, fun l1 e => ?_⟩, hEv2, u1, u2, u3⟩
      · obtain ⟨D, d1, d2, d3⟩ := hdf d hd
        exact ⟨D, d1, d2, List.mem_cons_of_mem _ d3⟩
      · obtain ⟨r, hr⟩ := hro l1 e
        exact ⟨r, List.mem_cons_of_mem _ hr⟩
    have hbb : back s0 (s3.del g) = back s0 (back s0 (s3.del g)) := (back_back s0 s0 (s3.del g)).symm
    cases e with
    | normal =>
      obtain ⟨f1, f2, f3, f4, f5⟩ := fin none hq3.1
      exact ⟨_, _, run_endRound none hl3, true, A3, _, rfl, f2, fun b o => f1.full_lt, fun b o => f1.full_av, f4, f5, f3, rfl, k + 1, by rw [List.length_map]; exact hk', hrest, back s0 (s3.del g), sp3, Lx3, f1, hbb, hq3.2, rfl⟩
    | exit i =>
      obtain ⟨f1, f2, f3, f4, f5⟩ := fin (some (.exit i)) hq3.1
      exact ⟨_, _, run_endRound (some (.exit i)) hl3, false, A3, _, rfl, f2, fun b o => f1.full_lt, fun b o => f1.full_av, f4, f5, f3, rfl, .exit i, back s0 (s3.del g), sp3, Lx3, f1, hbb, .inl ⟨i, rfl, hq3.2⟩, rfl⟩
    | ret =>
      obtain ⟨f1, f2, f3, f4, f5⟩ := fin (some .ret) hq3.1
      exact ⟨_, _, run_endRound (some .ret) hl3, false, A3, _, rfl, f2, fun b o => f1.full_lt, fun b o => f1.full_av, f4, f5, f3, rfl, .ret, back s0 (s3.del g), sp3, Lx3, f1, hbb, .inr ⟨rfl, hq3.2⟩, rfl⟩
    | goto t => exact hq3.elim
    | panic ch => exact hq3.elim
    | outgrown => exact hq3.elim
  | exit i => exact hq.elim
  | ret => exact hq.elim
  | goto t => exact hq.elim
  | panic ch => exact hq.elim
  | outgrown => exact hq.elim

theorem loop_ylV {C : Ctx P} {s0 : St} {t0 : Array Value} {ds0 : List Deferred} {l : Nat} {rc : LoopState → Option Code → Loop} {Pm : List (Nat × Obj)} {xs : List AV} {pos : Nat} {I : Nat → St → Prop} {ke : Nat → St → Prop} {kr : St → Prop} :
    YLaw P (LoopX C s0 t0 ds0 l rc Pm (xs.map fun x => [x, mark pos]) I ke kr) := by
  intro l' y rest w A L vs hx hlt hav hs hr
  obtain ⟨_, k, _, hrest, _⟩ := hx
  have hm : y ∈ xs.map fun x => [x, mark pos] := List.mem_of_mem_drop (by rw [← hrest]; exact List.mem_cons_self ..)
  obtain ⟨x, _, rfl⟩ := List.mem_map.1 hm
  have h1 := hr 1
  generalize vs.getD 1 undef = v at h1
  replace h1 : RV w A (mark pos) v := h1
  unfold mark at h1
  cases h1 with
  | lit _ hf => cases hf

theorem loop_yl2 {C : Ctx P} {s0 : St} {t0 : Array Value} {ds0 : List Deferred} {l : Nat} {rc : LoopState → Option Code → Loop} {Pm : List (Nat × Obj)} {xs : List (List AV)} {I : Nat → St → Prop} {ke : Nat → St → Prop} {kr : St → Prop}
    (hnm : ∀ y ∈ xs, noMark y = true) : YLaw2 P (LoopX C s0 t0 ds0 l rc Pm xs I ke kr) := by
  intro l' x pos rest w A L v b sz len cap cs hx
  obtain ⟨_, k, _, hrest, _⟩ := hx
  have hm : [x, mark pos] ∈ xs := List.mem_of_mem_drop (by rw [← hrest]; exact List.mem_cons_self ..)
  have := hnm _ hm
  simp [noMark, mark] at this

theorem GS.evDrop {C : Ctx P} {Pt Pt' : List (Nat × Obj)} {s s' : St} {a a' : Act} {w w' : World} {A A' Lx Lx' : Area} {sp sp' : Sp} (h : GS C Pt s a w A Lx sp) (h' : GS C Pt' s' a' w' A' Lx' sp')
    (hsub : ∀ p ∈ Pt, p ∈ Pt') (hev : Ev w A (full s sp Lx Pt) w' A' (full s' sp' Lx' Pt')) : Ev w A (join (held s sp) Lx) w' A' (join (held s' sp') Lx') := by
  refine ⟨hev.os, hev.tape, hev.output, hev.size, fun b o hb hl => ?_, fun b hb hl => ?_, hev.sub, fun b o ha => ?_⟩
  · by_cases hT : ∃ p ∈ Pt, b = p.1
    · obtain ⟨p, hp, rfl⟩ := hT
      obtain ⟨g1, g2, _⟩ := h.pt p hp
      obtain ⟨g3, _, g4, _⟩ := h'.pt p (hsub p hp)
      exact ⟨by rw [no_cell g1 g2, no_cell g3 g2], fun hj => by rcases hj with hj | hj; exact h'.pt_dead (hsub p hp) o hj; exact g4 o hj⟩
    · obtain ⟨g1, g2⟩ := hev.cell b o hb (fun hf => by rcases hf with hf | hf; exact hl hf; exact hT hf)
      exact ⟨g1, fun hj => g2 (.inl hj)⟩
  · by_cases hT : ∃ p ∈ Pt, b = p.1
    · obtain ⟨p, hp, rfl⟩ := hT
      exact (h'.pt p (hsub p hp)).1.trans (h.pt p hp).1.symm
    · exact hev.block b hb fun o hf => by rcases hf with hf | hf; exact hl o hf; exact hT hf
  · rcases hev.sup b o ha with g | g | g
    · exact .inl g
    · rcases g with g | ⟨p, hp, rfl⟩
      · exact .inr (.inl g)
      · exact absurd ha ((h'.pt p (hsub p hp)).2.2.2.1 o)
    · exact .inr (.inr g)
theorem loop_enter {C : Ctx P} {Pt : List (Nat × Obj)} {s : St} {a : Act} {w : World} {A Lx : Area} {sp : Sp} (h : GS C Pt s a w A Lx sp) (fn : FuncId) (ps : Array Tmp) (assign body : Code) :
    ∃ l mark dl Pm w1, (Instr.enterLoop fn a.tmps ps assign body C.ro).run P w = .ok (l, mark) w1 ∧ GS C ((l, .loop (mkRec fn a.tmps ps assign body dl .ready none)) :: Pm) s ⟨a.tmps, mark ++ a.defers⟩ w1 A Lx sp ∧
      (∀ p ∈ Pm, p.1 ≠ l) ∧ (∀ p ∈ Pt, p ∈ Pm) ∧ (∀ d ∈ mark ++ a.defers, ∃ D, C.B ≤ D ∧ d = ⟨.collected D, #[]⟩ ∧ (D, .deferred (some [])) ∈ Pm) ∧ (C.ro.isSome = true → mark = []) ∧ (∀ l, C.ro = some l → ∃ r, (l, .loop r) ∈ Pm) ∧
      Ev w A (full s sp Lx Pt) w1 A (full s sp Lx ((l, .loop (mkRec fn a.tmps ps assign body dl .ready none)) :: Pm)) := by
  cases hro : C.ro with
  | none =>
    refine ⟨w.heap.size + 1, [{ target := .collected w.heap.size, args := #[] }], w.heap.size, (w.heap.size, .deferred (some [])) :: Pt, _, run_enterLoop_outer fn a.tmps ps assign body, ?_, ?_, fun p hp => List.mem_cons_of_mem _ hp, ?_, fun e => by simp at e, fun l e => by simp at e, ?_⟩
    · have h1 := h.lay (ob := .deferred (some [])) rfl
      have h2 := h1.lay (ob := .loop (mkRec fn a.tmps ps assign body w.heap.size .ready none)) rfl
      rw [alloc_size] at h2
      refine ⟨h2.rs, h2.ig, h2.lt, h2.ap, h2.av, h2.x, h2.pt, h2.ob, h2.oa, h2.bs, ?_, fun d hd => ?_, h2.ro⟩
      · simp only [List.cons_append, List.nil_append, List.map_cons]
        refine List.nodup_cons.2 ⟨fun hm => ?_, h.dn⟩
        obtain ⟨d, hd, e⟩ := List.mem_map.1 hm
        obtain ⟨D, d1, d2, d3⟩ := h.df d hd
        rw [d2] at e
        injection e with e
        subst e
        exact absurd (lt_of_heap (h.pt _ d3).1) (Nat.lt_irrefl _)
      · rcases List.mem_cons.1 hd with rfl | hd
        · exact ⟨_, h.bs, rfl, List.mem_cons_of_mem _ (List.mem_cons_self ..)⟩
        · obtain ⟨D, d1, d2, d3⟩ := h.df d hd
          exact ⟨D, d1, d2, List.mem_cons_of_mem _ (List.mem_cons_of_mem _ d3)⟩
    · intro p hp
      rcases List.mem_cons.1 hp with rfl | hp
      · simp
      · have := lt_of_heap (h.pt p hp).1; omega
    · intro d hd
      rcases List.mem_cons.1 hd with rfl | hd
      · exact ⟨_, h.bs, rfl, List.mem_cons_self ..⟩
      · obtain ⟨D, d1, d2, d3⟩ := h.df d hd
        exact ⟨D, d1, d2, List.mem_cons_of_mem _ d3⟩
    · have e1 := h.evAlloc (.deferred (some [])) (full s sp Lx Pt) (fun b o hl => h.full_lt hl) (full s sp Lx ((w.heap.size, .deferred (some [])) :: Pt)) (fun b o ht => by
        rcases ht with ht | ⟨p, hp, rfl⟩
        · exact .inl (.inl ht)
        · rcases List.mem_cons.1 hp with rfl | hp
          · exact .inr rfl
          · exact .inl (.inr ⟨p, hp, rfl⟩))
      have h1 := h.lay (ob := .deferred (some [])) rfl
      have e2 := h1.evAlloc (.loop (mkRec fn a.tmps ps assign body w.heap.size .ready none)) (full s sp Lx ((w.heap.size, .deferred (some [])) :: Pt)) (fun b o hl => h1.full_lt hl)
        (full s sp Lx ((w.heap.size + 1, .loop (mkRec fn a.tmps ps assign body w.heap.size .ready none)) :: (w.heap.size, .deferred (some [])) :: Pt)) (fun b o ht => by
        rcases ht with ht | ⟨p, hp, rfl⟩
        · exact .inl (.inl ht)
        · rcases List.mem_cons.1 hp with rfl | hp
          · exact .inr (by rw [alloc_size])
          · exact .inl (.inr ⟨p, hp, rfl⟩))
      exact e1.trans e2
  | some l0 =>
    obtain ⟨r0, hr0⟩ := h.ro l0 hro
    refine ⟨w.heap.size, [], r0.defers, Pt, _, run_enterLoop_inner (h.pt _ hr0).1 fn a.tmps ps assign body, ?_, ?_, fun p hp => hp, h.df, fun _ => rfl, fun l e => by injection e with e; subst e; exact ⟨r0, hr0⟩, ?_⟩
    · exact h.lay rfl
    · intro p hp
      have := lt_of_heap (h.pt p hp).1; omega
    · exact h.evAlloc _ (full s sp Lx Pt) (fun b o hl => h.full_lt hl) _ (fun b o ht => by
        rcases ht with ht | ⟨p, hp, rfl⟩
        · exact .inl (.inl ht)
        · rcases List.mem_cons.1 hp with rfl | hp
          · exact .inr rfl
          · exact .inl (.inr ⟨p, hp, rfl⟩))

theorem code_sound {ann : Ann} : ∀ c : Code, CSound P ann c := by
  intro c
  induction c with
  | skip =>
    intro C m kn ke kr Pt s a w A Lx sp hCN hm h hv
    injection hm with hm; subst hm
    exact wpIn_skip ⟨s, A, Lx, sp, Pt, fun _ h => h, h, .refl _ _ _, fun _ => rfl, hv⟩
  | label l =>
    intro C m kn ke kr Pt s a w A Lx sp hCN hm h hv
    injection hm with hm; subst hm
    exact wpIn_label ⟨s, A, Lx, sp, Pt, fun _ h => h, h, .refl _ _ _, fun _ => rfl, hv⟩
  | scope c ih =>
    intro C m kn ke kr Pt s a w A Lx sp hCN hm h hv
    exact wpIn_scope (fun l a w hq => by obtain ⟨_, _, _, _, _, _, _, _, _, hq⟩ := hq; exact hq.elim) (ih C m kn ke kr Pt s a w A Lx sp hCN hm h hv)
  | region id ops draw =>
    intro C m kn ke kr Pt s a w A Lx sp hCN hm h hv
    have fin : ∀ s' a' w' A' Lx' sp', vcs P ((fzs ann C.N id).map .frz) kn s' → GS C Pt s' a' w' A' Lx' sp' → Ev w A (join (held s sp) Lx) w' A' (join (held s' sp') Lx') → a'.defers = a.defers → PostX C Pt s a.defers w A Lx sp kn ke kr .normal a' w' := by
      intro s' a' w' A' Lx' sp' hk hr hev hd
      obtain ⟨s2, A2, sp2, g1, g2, g3⟩ := frzs_sound (fzs ann C.N id) (fzs_lt hCN) hr hk
      exact ⟨s2, A2, Lx', sp2, Pt, fun _ h => h, g2, hev.trans g3, fun _ => hd, g1⟩
    cases draw with
    | true =>
      simp only [trC, Option.map_eq_some_iff] at hm
      obtain ⟨ms, hms, rfl⟩ := hm
      simp only [mwp, vcs_append] at hv
      exact xdraw_sound (up_draw ann C.N) hCN hms h hv fin
    | false =>
      simp only [trC, Option.map_eq_some_iff] at hm
      obtain ⟨ms, hms, rfl⟩ := hm
      simp only [mwp, vcs_append] at hv
      exact wpIn_region_list (xlist_sound (up_list ann C.N) hCN ops.toList ms s a w A Lx sp hms h hv fin)
  | seq x y ihx ihy =>
    intro C m kn ke kr Pt s a w A Lx sp hCN hm h hv
    simp only [trC] at hm
    split at hm
    · rename_i mx my h1 h2
      injection hm with hm; subst hm
      refine wpIn_seq (wpIn_mono (ihx C mx _ ke kr Pt s a w A Lx sp hCN h1 h hv) ?_)
      rintro e a' w' ⟨s', A', Lx', sp', Pt', hsub, hr, hev, hd, hq⟩
      cases e with
      | normal =>
        refine wpIn_mono (ihy C my kn ke kr Pt' s' a' w' A' Lx' sp' hCN h2 hr hq) ?_
        rintro e a2 w2 ⟨s2, A2, Lx2, sp2, Pt2, hsub2, hr2, hev2, hd2, hq2⟩
        exact ⟨s2, A2, Lx2, sp2, Pt2, fun p hp => hsub2 p (hsub p hp), hr2, hev.trans hev2, fun e => (hd2 e).trans (hd e), hq2⟩
      | exit i => exact ⟨s', A', Lx', sp', Pt', hsub, hr, hev, hd, hq⟩
      | ret => exact ⟨s', A', Lx', sp', Pt', hsub, hr, hev, hd, hq⟩
      | goto l => exact hq.elim
      | panic ch => exact hq.elim
      | outgrown => exact hq.elim
    · cases hm
  | cond t x y ihx ihy =>
    intro C m kn ke kr Pt s a w A Lx sp hCN hm h hv
    simp only [trC] at hm
    split at hm
    · rename_i t' mx my ht h1 h2
      injection hm with hm; subst hm
      have h3 := (argOf_sound h.rs ht).1
      simp only [mwp] at hv
      split at hv
      · rename_i b hb
        rw [hb] at h3
        have hbv : a.eval t = .bool b := h3.inv_bool
        cases b with
        | true => exact wpIn_cond_true hbv (ihx C mx kn ke kr Pt s a w A Lx sp hCN h1 h (hv.1 rfl))
        | false => exact wpIn_cond_false hbv (ihy C my kn ke kr Pt s a w A Lx sp hCN h2 h (hv.2 rfl))
      · exact hv.elim
    · cases hm
  | block id c ih =>
    intro C m kn ke kr Pt s a w A Lx sp hCN hm h hv
    simp only [trC, Option.map_eq_some_iff] at hm
    obtain ⟨mc, hmc, rfl⟩ := hm
    refine wpIn_block (wpIn_mono (ih C mc kn _ kr Pt s a w A Lx sp hCN hmc h hv) ?_)
    rintro e a' w' ⟨s', A', Lx', sp', Pt', hsub, hr, hev, hd, hq⟩
    cases e with
    | normal => exact ⟨s', A', Lx', sp', Pt', hsub, hr, hev, hd, hq⟩
    | exit i =>
      simp only [Exit.inBlock]
      simp only [Ends] at hq
      split at hq
      · rename_i e; rw [if_pos e]; exact ⟨s', A', Lx', sp', Pt', hsub, hr, hev, hd, hq⟩
      · rename_i e; rw [if_neg e]; exact ⟨s', A', Lx', sp', Pt', hsub, hr, hev, hd, hq⟩
    | ret => exact ⟨s', A', Lx', sp', Pt', hsub, hr, hev, hd, hq⟩
    | goto l => exact hq.elim
    | panic ch => exact hq.elim
    | outgrown => exact hq.elim
  | loop c ih =>
    intro C m kn ke kr Pt s a w A Lx sp hCN hm h hv
    simp only [trC, Option.map_eq_some_iff] at hm
    obtain ⟨mc, hmc, rfl⟩ := hm
    obtain ⟨I, ⟨n1, s1, hent, hI⟩, hround⟩ := hv
    have entS : ∀ {Pt : List (Nat × Obj)} {s s1 : St} {a : Act} {w : World} {A Lx : Area} {sp : Sp}, Ent s s1 → GS C Pt s a w A Lx sp → ∃ A1 sp1, GS C Pt s1 a w A1 Lx sp1 ∧ Ev w A (join (held s sp) Lx) w A1 (join (held s1 sp1) Lx) := by
      intro Pt s s1 a w A Lx sp he hg
      obtain ⟨A1, sp1, g1, g2⟩ := he.2 C.N ⟨a.tmps, []⟩ w A sp hg.rs
      obtain ⟨g3, g4⟩ := hg.own (a' := a) g1 g2 he.1 rfl
      exact ⟨A1, sp1, g3, g4⟩
    obtain ⟨A1, sp1, hr1, hev1⟩ := entS hent h
    intro b k cs hro hb hroom
    have key : ∀ n s2 a2 w2 A2 Lx2 sp2 Pt2, I n s2 → (∀ p ∈ Pt, p ∈ Pt2) → GS C Pt2 s2 a2 w2 A2 Lx2 sp2 → Ev w A (join (held s sp) Lx) w2 A2 (join (held s2 sp2) Lx2) → (C.ro.isSome = true → a2.defers = a.defers) →
        ∃ e a' w', PostX C Pt s a.defers w A Lx sp kn ke kr e a' w' ∧ ArrivesIn (Machine.fenced P (Fw C.ro)) P (lone (b.atR a2 (.code c :: .inLoop c :: k)) cs w2) b k cs e a' w' := by
      intro n
      induction n using Nat.strongRecOn with
      | _ n ihn =>
        intro s2 a2 w2 A2 Lx2 sp2 Pt2 hI2 hsub2 hr2 hev2 hd2
        obtain ⟨e, a3, w3, ⟨s3, A3, Lx3, sp3, Pt3, hsub3, hr3, hev3, hd3, hq3⟩, harr⟩ := ih C mc _ ke kr Pt2 s2 a2 w2 A2 Lx2 sp2 hCN hmc hr2 (hround n s2 hI2) b (.inLoop c :: k) cs hro hb hroom
        cases e with
        | normal =>
          obtain ⟨n4, s4, hlt, hent4, hI4⟩ := hq3
          obtain ⟨A4, sp4, hr4, hev4⟩ := entS hent4 hr3
          obtain ⟨e5, a5, w5, hq5, harr5⟩ := ihn n4 hlt s4 a3 w3 A4 Lx3 sp4 Pt3 hI4 (fun p hp => hsub3 p (hsub2 p hp)) hr4 ((hev2.trans hev3).trans hev4) (fun e => (hd3 e).trans (hd2 e))
          exact ⟨e5, a5, w5, hq5, .of_steps (StepsIn.trans harr (.one (fenced_calm hb hroom rfl) stepR_inLoop)) harr5⟩
        | exit id => exact ⟨.exit id, a3, w3, ⟨s3, A3, Lx3, sp3, Pt3, fun p hp => hsub3 p (hsub2 p hp), hr3, hev2.trans hev3, fun e => (hd3 e).trans (hd2 e), hq3⟩, .pass (x := .inLoop c) rfl (fun _ _ => .inl (by simp)) harr⟩
        | ret => exact ⟨.ret, a3, w3, ⟨s3, A3, Lx3, sp3, Pt3, fun p hp => hsub3 p (hsub2 p hp), hr3, hev2.trans hev3, fun e => (hd3 e).trans (hd2 e), hq3⟩, .pass (x := .inLoop c) rfl (fun _ _ => .inl (by simp)) harr⟩
        | goto l => exact hq3.elim
        | panic ch => exact hq3.elim
        | outgrown => exact hq3.elim
    obtain ⟨e, a', w', hq, harr⟩ := key n1 s1 a w A1 Lx sp1 Pt hI (fun _ h => h) hr1 hev1 (fun _ => rfl)
    exact ⟨e, a', w', hq, .of_steps (.one (fenced_calm hb hroom rfl) stepR_loop) harr⟩
  | exit id =>
    intro C m kn ke kr Pt s a w A Lx sp hCN hm h hv
    injection hm with hm; subst hm
    exact wpIn_exit ⟨s, A, Lx, sp, Pt, fun _ h => h, h, .refl _ _ _, fun _ => rfl, hv⟩
  | ret =>
    intro C m kn ke kr Pt s a w A Lx sp hCN hm h hv
    injection hm with hm; subst hm
    exact wpIn_ret ⟨s, A, Lx, sp, Pt, fun _ h => h, h, .refl _ _ _, fun _ => rfl, hv⟩
  | rangeFunc g ps assign body ihA ihB =>
    intro C m kn ke kr Pt s a w A Lx sp hCN hm h hv
    simp only [trC] at hm
    split at hm
    · rename_i x ma mb ht hma hmb
      split at hm
      · rename_i hps
        replace hps : ∀ p ∈ ps.toList, p < C.N := fun p hp => by have := (List.all_eq_true.1 hps) p hp; simpa using this
        have hg := (argOf_sound h.rs ht).1
        split at hm
        · rename_i pos hpos
          split at hm
          · rename_i hp1
            injection hm with hm; subst hm
            simp only [mwp] at hv
            split at hv
            · rename_i f first cap e1
              obtain ⟨xs0, ⟨hfn, hseq⟩, I, hI0, hround, hend⟩ := hv
              obtain ⟨xs, hxs⟩ : ∃ xs, xs = xs0.map fun x => [x, mark pos] := ⟨_, rfl⟩
              rw [← hxs] at hseq
              rw [e1] at hg
              replace hg : RV w A (.func (.func f) first cap) (a.eval g) := hg
              generalize hv0 : a.eval g = v0 at hg
              cases hg with
              | func _ _ _ vf vc hsf hsc hf hc =>
                refine wpIn_rangeFunc fun fn _ => ?_
                obtain ⟨l, mark, dl, Pm, w1, henter, hG1, hne, hsub, hdf, hmk, hro, hev1⟩ := loop_enter h fn ps assign body
                have hcell : ∀ b o v, A b o → w.cell? ⟨b, o, none⟩ = some v → w1.cell? ⟨b, o, none⟩ = some v ∧ A b o := fun b o v ha hv => ⟨(hev1.cell b o (h.full_av ha).1 (h.full_av ha).2).1.trans hv, ha⟩
                have hkeep : ObjKept w w1 A A := hev1.kept fun b o ha => h.full_av ha
                refine ⟨l, mark, w1, { target := .fn (.func f) vc, args := vf ++ #[.func (.yield l) #[] #[]] }, w1, f, (vf ++ #[.func (.yield l) #[] #[]]) ++ vc, w1, henter, ?_, fun _ _ => trivial, ?_, fun e => (by cases e), ?_⟩
                · have hgg : Act.eval a g = .func (.func f) vf vc := hv0
                  simp only [resolve, hgg]
                  simp [go_sem, Deferred.ofValue]
                · simp only [invoke]
                  exact callFunc_enter hfn _ _
                · have hG0 : GS C ((l, .loop (mkRec fn a.tmps ps assign body dl .ready none)) :: Pm) (back s s) ⟨a.tmps, mark ++ a.defers⟩ w1 A Lx sp :=
                    ⟨hG1.rs.forget, fun k hk => by rw [back_g _ _ hk]; exact hG1.ig k hk, hG1.lt, by rw [back_own]; exact hG1.ap, hG1.av, by rw [back_g _ _ (Nat.le_refl _)]; exact hG1.x, fun p hp => by rw [back_o]; exact hG1.pt p hp, fun b => by rw [back_o]; exact hG1.ob b, by rw [back_objs]; exact hG1.oa, hG1.bs, hG1.dn, hG1.df, hG1.ro⟩
                  refine callsIn_fw (Calls.mono (hseq (LoopX C s a.tmps (mark ++ a.defers) l (mkRec fn a.tmps ps assign body dl) Pm xs I ke kr) l w1 A (full (back s s) sp Lx ((l, .loop (mkRec fn a.tmps ps assign body dl .ready none)) :: Pm)) _ loop_st
                    (by rw [hxs]; exact loop_ylV) (by rw [hxs]; exact loop_ylL ihA ihB hCN hma hmb hps hne hp1 hdf hro hG1.dn hround) (fun b o => hG0.full_lt) (fun b o => hG0.full_av) (by simp only [Array.size_append, List.length_append, hsf, hsc]; rfl) (fun i => ?_) ⟨rfl, 0, Nat.zero_le _, rfl, back s s, sp, Lx, hG0, (back_back s s s).symm, hI0, rfl⟩) ?_)
                  · have hy : RV w1 A (AV.func (.yield l) [] []) (.func (.yield l) #[] #[]) := .func _ _ _ _ _ rfl rfl (fun i => by simp; exact .any _) (fun i => by simp; exact .any _)
                    have e2 := getD_append3 vf.toList [Value.func (.yield l) #[] #[]] vc.toList i undef
                    have e3 := getD_append3 first [AV.func (.yield l) [] []] cap i .any
                    have e4 : ((vf ++ #[Value.func (.yield l) #[] #[]]) ++ vc).getD i undef = (vf.toList ++ [Value.func (.yield l) #[] #[]] ++ vc.toList).getD i undef := by
                      simp only [List.getD_eq_getElem?_getD, Array.getD_eq_getD_getElem?, ← Array.getElem?_toList, Array.toList_append]
                    rw [e4, e2, e3]
                    simp only [Array.length_toList, hsf, List.length_singleton]
                    split
                    · have := (hf i).mono hcell hkeep
                      simpa [List.getD_eq_getElem?_getD, Array.getD_eq_getD_getElem?] using this
                    · split
                      · rename_i h1 h2
                        have h0 : i - first.length = 0 := by omega
                        rw [h0]; exact hy
                      · have := (hc (i - first.length - 1)).mono hcell hkeep
                        simpa [List.getD_eq_getElem?_getD, Array.getD_eq_getD_getElem?] using this
                  · rintro e w3 ⟨v, A3, L3, rest, b, rfl, hev3, hlt3, hav3, hX3, hb⟩
                    cases b with
                    | false =>
                      obtain ⟨-, k, hk, hrest, st, sp3, Lx3, hG3, hst, hI3, rfl⟩ := hX3
                      have hr0 : rest = [] := hb.resolve_left (by simp)
                      have hkx : k = xs.length := by
                        rw [hr0] at hrest
                        have := congrArg List.length hrest
                        simp at this; omega
                      rw [hxs, List.length_map] at hkx
                      subst hkx
                      have hl3 := (hG3.pt _ (List.mem_cons_self ..)).1
                      refine ⟨none, _, run_endLoop hl3 (by simp), ?_⟩
                      have hG4 : GS C Pm st ⟨a.tmps, mark ++ a.defers⟩ (w3.putObj l (.loop { mkRec fn a.tmps ps assign body dl .ready none with state := .exhausted })) A3 Lx3 sp3 :=
                        hG3.putObj (List.mem_cons_self ..) (fun p hp => .inr ⟨List.mem_cons_of_mem _ hp, hne p hp⟩) hdf hro
                      have hE : Ev w A (full s sp Lx Pt) (w3.putObj l (.loop { mkRec fn a.tmps ps assign body dl .ready none with state := .exhausted })) A3 (full st sp3 Lx3 Pm) := by
                        have q1 : Ev w1 A (full s sp Lx ((l, .loop (mkRec fn a.tmps ps assign body dl .ready none)) :: Pm)) w3 A3 (full st sp3 Lx3 ((l, .loop (mkRec fn a.tmps ps assign body dl .ready none)) :: Pm)) := by
                          have e0 : full (back s s) sp Lx ((l, .loop (mkRec fn a.tmps ps assign body dl .ready none)) :: Pm) = full s sp Lx ((l, .loop (mkRec fn a.tmps ps assign body dl .ready none)) :: Pm) := by unfold full; rw [back_own]
                          rw [← e0]; exact hev3
                        have q2 : Ev w3 A3 _ (w3.putObj l (.loop { mkRec fn a.tmps ps assign body dl .ready none with state := .exhausted })) A3 _ :=
                          Ev.putObj w3 A3 (L := full st sp3 Lx3 ((l, .loop (mkRec fn a.tmps ps assign body dl .ready none)) :: Pm)) _ (fun o => .inr ⟨_, List.mem_cons_self .., rfl⟩)
                        exact ((hev1.trans q1).trans q2).into (fun _ _ h => .inl h) (fun b o _ hm => .inr (by
                          rcases hm with hm | ⟨p, hp, rfl⟩
                          · exact .inl hm
                          · exact .inr ⟨p, List.mem_cons_of_mem _ hp, rfl⟩))
                      exact ⟨st, A3, Lx3, sp3, Pm, hsub, hG4, h.evDrop hG4 hsub hE, fun e => by simp [hmk e], hend st hst hI3⟩
                    | true =>
                      obtain ⟨-, c, st, sp3, Lx3, hG3, hst, hc3, rfl⟩ := hX3
                      have hl3 := (hG3.pt _ (List.mem_cons_self ..)).1
                      refine ⟨some c, _, run_endLoop hl3 (by simp), ?_⟩
                      have hG4 : GS C Pm st ⟨a.tmps, mark ++ a.defers⟩ (w3.putObj l (.loop { mkRec fn a.tmps ps assign body dl .done (some c) with state := .exhausted })) A3 Lx3 sp3 :=
                        hG3.putObj (List.mem_cons_self ..) (fun p hp => .inr ⟨List.mem_cons_of_mem _ hp, hne p hp⟩) hdf hro
                      have hE : Ev w A (full s sp Lx Pt) (w3.putObj l (.loop { mkRec fn a.tmps ps assign body dl .done (some c) with state := .exhausted })) A3 (full st sp3 Lx3 Pm) := by
                        have q1 : Ev w1 A (full s sp Lx ((l, .loop (mkRec fn a.tmps ps assign body dl .ready none)) :: Pm)) w3 A3 (full st sp3 Lx3 ((l, .loop (mkRec fn a.tmps ps assign body dl .done (some c))) :: Pm)) := by
                          have e0 : full (back s s) sp Lx ((l, .loop (mkRec fn a.tmps ps assign body dl .ready none)) :: Pm) = full s sp Lx ((l, .loop (mkRec fn a.tmps ps assign body dl .ready none)) :: Pm) := by unfold full; rw [back_own]
                          rw [← e0]; exact hev3
                        have q2 : Ev w3 A3 _ (w3.putObj l (.loop { mkRec fn a.tmps ps assign body dl .done (some c) with state := .exhausted })) A3 _ :=
                          Ev.putObj w3 A3 (L := full st sp3 Lx3 ((l, .loop (mkRec fn a.tmps ps assign body dl .done (some c))) :: Pm)) _ (fun o => .inr ⟨_, List.mem_cons_self .., rfl⟩)
                        exact ((hev1.trans q1).trans q2).into (fun _ _ h => .inl h) (fun b o _ hm => .inr (by
                          rcases hm with hm | ⟨p, hp, rfl⟩
                          · exact .inl hm
                          · exact .inr ⟨p, List.mem_cons_of_mem _ hp, rfl⟩))
                      rcases hc3 with ⟨i, rfl, hq⟩ | ⟨rfl, hq⟩
                      · exact wpIn_exit ⟨st, A3, Lx3, sp3, Pm, hsub, hG4, h.evDrop hG4 hsub hE, fun e => by simp [hmk e], hq⟩
                      · exact wpIn_ret ⟨st, A3, Lx3, sp3, Pm, hsub, hG4, h.evDrop hG4 hsub hE, fun e => by simp [hmk e], hq⟩
            · exact hv.elim
          · cases hm
        · injection hm with hm; subst hm
          simp only [mwp] at hv
          split at hv
          · rename_i f first cap e1
            obtain ⟨xs, ⟨hfn, hseq⟩, hlen, I, hI0, hround, hend⟩ := hv
            rw [e1] at hg
            replace hg : RV w A (.func (.func f) first cap) (a.eval g) := hg
            generalize hv0 : a.eval g = v0 at hg
            cases hg with
            | func _ _ _ vf vc hsf hsc hf hc =>
              refine wpIn_rangeFunc fun fn _ => ?_
              obtain ⟨l, mark, dl, Pm, w1, henter, hG1, hne, hsub, hdf, hmk, hro, hev1⟩ := loop_enter h fn ps assign body
              have hcell : ∀ b o v, A b o → w.cell? ⟨b, o, none⟩ = some v → w1.cell? ⟨b, o, none⟩ = some v ∧ A b o := fun b o v ha hv => ⟨(hev1.cell b o (h.full_av ha).1 (h.full_av ha).2).1.trans hv, ha⟩
              have hkeep : ObjKept w w1 A A := hev1.kept fun b o ha => h.full_av ha
              refine ⟨l, mark, w1, { target := .fn (.func f) vc, args := vf ++ #[.func (.yield l) #[] #[]] }, w1, f, (vf ++ #[.func (.yield l) #[] #[]]) ++ vc, w1, henter, ?_, fun _ _ => trivial, ?_, fun e => (by cases e), ?_⟩
              · have hgg : Act.eval a g = .func (.func f) vf vc := hv0
                simp only [resolve, hgg]
                simp [go_sem, Deferred.ofValue]
              · simp only [invoke]
                exact callFunc_enter hfn _ _
              · have hG0 : GS C ((l, .loop (mkRec fn a.tmps ps assign body dl .ready none)) :: Pm) (back s s) ⟨a.tmps, mark ++ a.defers⟩ w1 A Lx sp :=
                  ⟨hG1.rs.forget, fun k hk => by rw [back_g _ _ hk]; exact hG1.ig k hk, hG1.lt, by rw [back_own]; exact hG1.ap, hG1.av, by rw [back_g _ _ (Nat.le_refl _)]; exact hG1.x, fun p hp => by rw [back_o]; exact hG1.pt p hp, fun b => by rw [back_o]; exact hG1.ob b, by rw [back_objs]; exact hG1.oa, hG1.bs, hG1.dn, hG1.df, hG1.ro⟩
                refine callsIn_fw (Calls.mono (hseq (LoopX C s a.tmps (mark ++ a.defers) l (mkRec fn a.tmps ps assign body dl) Pm xs I ke kr) l w1 A (full (back s s) sp Lx ((l, .loop (mkRec fn a.tmps ps assign body dl .ready none)) :: Pm)) _ loop_st
                  (loop_yl ihA ihB hCN hma hmb hps hne (fun y hy => (hlen y hy).1) hdf hro hG1.dn hround) (loop_yl2 fun y hy => (hlen y hy).2) (fun b o => hG0.full_lt) (fun b o => hG0.full_av) (by simp only [Array.size_append, List.length_append, hsf, hsc]; rfl) (fun i => ?_) ⟨rfl, 0, Nat.zero_le _, rfl, back s s, sp, Lx, hG0, (back_back s s s).symm, hI0, rfl⟩) ?_)
                · have hy : RV w1 A (AV.func (.yield l) [] []) (.func (.yield l) #[] #[]) := .func _ _ _ _ _ rfl rfl (fun i => by simp; exact .any _) (fun i => by simp; exact .any _)
                  have e2 := getD_append3 vf.toList [Value.func (.yield l) #[] #[]] vc.toList i undef
                  have e3 := getD_append3 first [AV.func (.yield l) [] []] cap i .any
                  have e4 : ((vf ++ #[Value.func (.yield l) #[] #[]]) ++ vc).getD i undef = (vf.toList ++ [Value.func (.yield l) #[] #[]] ++ vc.toList).getD i undef := by
                    simp only [List.getD_eq_getElem?_getD, Array.getD_eq_getD_getElem?, ← Array.getElem?_toList, Array.toList_append]
                  rw [e4, e2, e3]
                  simp only [Array.length_toList, hsf, List.length_singleton]
                  split
                  · have := (hf i).mono hcell hkeep
                    simpa [List.getD_eq_getElem?_getD, Array.getD_eq_getD_getElem?] using this
                  · split
                    · rename_i h1 h2
                      have h0 : i - first.length = 0 := by omega
                      rw [h0]; exact hy
                    · have := (hc (i - first.length - 1)).mono hcell hkeep
                      simpa [List.getD_eq_getElem?_getD, Array.getD_eq_getD_getElem?] using this
                · rintro e w3 ⟨v, A3, L3, rest, b, rfl, hev3, hlt3, hav3, hX3, hb⟩
                  cases b with
                  | false =>
                    obtain ⟨-, k, hk, hrest, st, sp3, Lx3, hG3, hst, hI3, rfl⟩ := hX3
                    have hr0 : rest = [] := hb.resolve_left (by simp)
                    have hkx : k = xs.length := by
                      rw [hr0] at hrest
                      have := congrArg List.length hrest
                      simp at this; omega
                    subst hkx
                    have hl3 := (hG3.pt _ (List.mem_cons_self ..)).1
                    refine ⟨none, _, run_endLoop hl3 (by simp), ?_⟩
                    have hG4 : GS C Pm st ⟨a.tmps, mark ++ a.defers⟩ (w3.putObj l (.loop { mkRec fn a.tmps ps assign body dl .ready none with state := .exhausted })) A3 Lx3 sp3 :=
                      hG3.putObj (List.mem_cons_self ..) (fun p hp => .inr ⟨List.mem_cons_of_mem _ hp, hne p hp⟩) hdf hro
                    have hE : Ev w A (full s sp Lx Pt) (w3.putObj l (.loop { mkRec fn a.tmps ps assign body dl .ready none with state := .exhausted })) A3 (full st sp3 Lx3 Pm) := by
                      have q1 : Ev w1 A (full s sp Lx ((l, .loop (mkRec fn a.tmps ps assign body dl .ready none)) :: Pm)) w3 A3 (full st sp3 Lx3 ((l, .loop (mkRec fn a.tmps ps assign body dl .ready none)) :: Pm)) := by
                        have e0 : full (back s s) sp Lx ((l, .loop (mkRec fn a.tmps ps assign body dl .ready none)) :: Pm) = full s sp Lx ((l, .loop (mkRec fn a.tmps ps assign body dl .ready none)) :: Pm) := by unfold full; rw [back_own]
                        rw [← e0]; exact hev3
                      have q2 : Ev w3 A3 _ (w3.putObj l (.loop { mkRec fn a.tmps ps assign body dl .ready none with state := .exhausted })) A3 _ :=
                        Ev.putObj w3 A3 (L := full st sp3 Lx3 ((l, .loop (mkRec fn a.tmps ps assign body dl .ready none)) :: Pm)) _ (fun o => .inr ⟨_, List.mem_cons_self .., rfl⟩)
                      exact ((hev1.trans q1).trans q2).into (fun _ _ h => .inl h) (fun b o _ hm => .inr (by
                        rcases hm with hm | ⟨p, hp, rfl⟩
                        · exact .inl hm
                        · exact .inr ⟨p, List.mem_cons_of_mem _ hp, rfl⟩))
                    exact ⟨st, A3, Lx3, sp3, Pm, hsub, hG4, h.evDrop hG4 hsub hE, fun e => by simp [hmk e], hend st hst hI3⟩
                  | true =>
                    obtain ⟨-, c, st, sp3, Lx3, hG3, hst, hc3, rfl⟩ := hX3
                    have hl3 := (hG3.pt _ (List.mem_cons_self ..)).1
                    refine ⟨some c, _, run_endLoop hl3 (by simp), ?_⟩
                    have hG4 : GS C Pm st ⟨a.tmps, mark ++ a.defers⟩ (w3.putObj l (.loop { mkRec fn a.tmps ps assign body dl .done (some c) with state := .exhausted })) A3 Lx3 sp3 :=
                      hG3.putObj (List.mem_cons_self ..) (fun p hp => .inr ⟨List.mem_cons_of_mem _ hp, hne p hp⟩) hdf hro
                    have hE : Ev w A (full s sp Lx Pt) (w3.putObj l (.loop { mkRec fn a.tmps ps assign body dl .done (some c) with state := .exhausted })) A3 (full st sp3 Lx3 Pm) := by
                      have q1 : Ev w1 A (full s sp Lx ((l, .loop (mkRec fn a.tmps ps assign body dl .ready none)) :: Pm)) w3 A3 (full st sp3 Lx3 ((l, .loop (mkRec fn a.tmps ps assign body dl .done (some c))) :: Pm)) := by
                        have e0 : full (back s s) sp Lx ((l, .loop (mkRec fn a.tmps ps assign body dl .ready none)) :: Pm) = full s sp Lx ((l, .loop (mkRec fn a.tmps ps assign body dl .ready none)) :: Pm) := by unfold full; rw [back_own]
                        rw [← e0]; exact hev3
                      have q2 : Ev w3 A3 _ (w3.putObj l (.loop { mkRec fn a.tmps ps assign body dl .done (some c) with state := .exhausted })) A3 _ :=
                        Ev.putObj w3 A3 (L := full st sp3 Lx3 ((l, .loop (mkRec fn a.tmps ps assign body dl .done (some c))) :: Pm)) _ (fun o => .inr ⟨_, List.mem_cons_self .., rfl⟩)
                      exact ((hev1.trans q1).trans q2).into (fun _ _ h => .inl h) (fun b o _ hm => .inr (by
                        rcases hm with hm | ⟨p, hp, rfl⟩
                        · exact .inl hm
                        · exact .inr ⟨p, List.mem_cons_of_mem _ hp, rfl⟩))
                    rcases hc3 with ⟨i, rfl, hq⟩ | ⟨rfl, hq⟩
                    · exact wpIn_exit ⟨st, A3, Lx3, sp3, Pm, hsub, hG4, h.evDrop hG4 hsub hE, fun e => by simp [hmk e], hq⟩
                    · exact wpIn_ret ⟨st, A3, Lx3, sp3, Pm, hsub, hG4, h.evDrop hG4 hsub hE, fun e => by simp [hmk e], hq⟩
          · exact hv.elim
      · cases hm
    · cases hm
  | goto => intro C m kn ke kr Pt s a w A Lx sp hCN hm; cases hm
  | refuse => intro C m kn ke kr Pt s a w A Lx sp hCN hm; cases hm
end

end Go.Avm

namespace Go.Avm
open Go.RowKit

section
variable {P : Program} {N : Nat}

inductive MRes where
  | tmp (t : Nat)
  | cell (t : Nat) (n : Option Nat)

def trRes (P : Program) : List ResultVar → Option (List MRes)
  | [] => some []
  | .tmp t :: rs => (trRes P rs).map (.tmp t :: ·)
  | .cell t ty :: rs => match partN P ty, trRes P rs with
    | some n, some l => some (.cell t n :: l)
    | _, _ => none

def resK (s : St) : List MRes → (List AV → Prop) → Prop
  | [], K => K []
  | .tmp t :: rs, K => resK s rs fun vs => K ((s.env t).erase :: vs)
  | .cell t n :: rs, K => loadK s.loc (s.env t) n fun v => resK s rs fun vs => K (v.erase :: vs)

def resOf : List AV → AV
  | [x] => x
  | xs => .tuple xs

def initEnv (xs : List AV) : Nat → AV := fun k => (xs.getD k .any).erase

def noSp : Sp := fun _ => (0, 0, 0)

theorem live_none (b o : Nat) : ¬ live (fun _ => none) noSp b o := by
  rintro (h | ⟨r, h1, h2, h3⟩)
  · exact h rfl
  · simp [noSp] at h3

theorem loadK_sound {s : St} {a : Act} {w : World} {A : Area} {sp : Sp} {ty : TypeId} {n : Option Nat} {t : Nat} {k : AV → Prop} (hp : partN P ty = some n) (h : RS N s a w A sp) (hv : loadK s.loc (s.env t) n k) :
    ∃ x v, (do loadVar ty (← asAddr (a.tmps.getD t undef)) : Sem Value).run P w = .ok v w ∧ RV w A x v ∧ k x := by
  have h1 := (h.env t).1
  unfold loadK at hv
  split at hv
  · rename_i cs hcs
    rw [hcs] at h1
    generalize a.tmps.getD t undef = v0 at h1
    cases h1 with
    | ref _ b off vs hc hr =>
      cases n with
      | none =>
        simp only [partK] at hv
        have := loadVar_run hp w b off vs (fun i hi => (hc i (by simp at hi; omega)).1)
        exact ⟨_, vs 0, by simp only [Sem.run_bind, asAddr, Sem.run_pure, Result.andThen_ok, this], (hr 0).erase, hv.2⟩
      | some m =>
        simp only [partK, Nat.zero_add, List.drop_zero] at hv
        have := loadVar_run hp w b off vs (fun i hi => (hc i (by simp at hi; omega)).1)
        refine ⟨_, .agg ((Array.range m).map vs), by simp only [Sem.run_bind, asAddr, Sem.run_pure, Result.andThen_ok, this], ?_, hv.2⟩
        refine RV.erase (RV.erase (.agg _ _ (by simp; omega) fun i => ?_))
        by_cases hi : i < m
        · have := hr i
          simp only [List.getD_eq_getElem?_getD, List.getElem?_take, hi, if_true, Array.getD_eq_getD_getElem?, Array.getElem?_map] at this ⊢
          rw [Array.getElem?_eq_getElem (by simpa using hi)]
          simpa using this
        · simp only [List.getD_eq_getElem?_getD, List.getElem?_take, hi, if_false, Option.getD_none]
          exact .any _
  · rename_i b off hcs
    rw [hcs] at h1
    generalize a.tmps.getD t undef = v0 at h1
    cases h1
    split at hv
    · rename_i cs hb
      obtain ⟨vs, T, hh, hsz, hr⟩ := h.loc b cs hb
      have hcell : ∀ i, off + i < cs.length → w.cell? ⟨b, off + i, none⟩ = some (vs.getD (off + i) undef) := by
        intro i hi
        simp [World.cell?, hh, Array.getD_eq_getD_getElem?, Array.getElem?_eq_getElem (show off + i < vs.size by omega)]
      cases n with
      | none =>
        simp only [partK] at hv
        have := loadVar_run hp w b off (fun i => vs.getD (off + i) undef) (fun i hi => hcell i (by simp at hi; omega))
        exact ⟨_, vs.getD off undef, by simp only [Sem.run_bind, asAddr, Sem.run_pure, Result.andThen_ok, this, Nat.add_zero], (hr off).1, hv.2⟩
      | some m =>
        simp only [partK] at hv
        have := loadVar_run hp w b off (fun i => vs.getD (off + i) undef) (fun i hi => hcell i (by simp at hi; omega))
        refine ⟨_, .agg ((Array.range m).map fun i => vs.getD (off + i) undef), by simp only [Sem.run_bind, asAddr, Sem.run_pure, Result.andThen_ok, this], ?_, hv.2⟩
        refine RV.erase (.agg _ _ (by simp; omega) fun i => ?_)
        by_cases hi : i < m
        · have := (hr (off + i)).1
          simp only [List.getD_eq_getElem?_getD, List.getElem?_take, hi, if_true, List.getElem?_drop, Array.getD_eq_getD_getElem?, Array.getElem?_map] at this ⊢
          rw [Array.getElem?_eq_getElem (by simpa using hi)]
          simpa using this
        · simp only [List.getD_eq_getElem?_getD, List.getElem?_take, hi, if_false, Option.getD_none]
          exact .any _
    · exact hv.elim
  · exact hv.elim

theorem res_sound {s : St} {a : Act} {w : World} {A : Area} {sp : Sp} (h : RS N s a w A sp) (f : ResultVar → Sem Value) (f1 : ∀ t, f (.tmp t) = pure (a.tmps.getD t undef)) (f2 : ∀ b t, f (.cell b t) = (do loadVar t (← asAddr (a.tmps.getD b undef)))) : ∀ (rs : List ResultVar) (ms : List MRes) (k : List AV → Prop), trRes P rs = some ms → resK s ms k →
    ∃ xs vs, (rs.mapM f).run P w = .ok vs w ∧ vs.length = xs.length ∧ (∀ i, RV w A (xs.getD i .any) (vs.getD i undef)) ∧ k xs
  | [], ms, k, hm, hk => by injection hm with hm; subst hm; exact ⟨[], [], rfl, rfl, fun i => by simp; exact .any _, hk⟩
  | .tmp t :: rs, ms, k, hm, hk => by
    simp only [trRes, Option.map_eq_some_iff] at hm
    obtain ⟨l, hl, rfl⟩ := hm
    obtain ⟨xs, vs, g1, g2, g3, g4⟩ := res_sound h f f1 f2 rs l _ hl hk
    refine ⟨_ :: xs, a.tmps.getD t undef :: vs, ?_, by simp [g2], fun i => ?_, g4⟩
    · simp only [List.mapM_cons, f1, Sem.run_bind, Sem.run_pure, Result.andThen_ok, g1]
    · cases i with
      | zero => simpa using (h.env t).1.erase
      | succ i => simpa using g3 i
  | .cell t ty :: rs, ms, k, hm, hk => by
    simp only [trRes] at hm
    split at hm
    · rename_i n l hn hl
      injection hm with hm; subst hm
      obtain ⟨x, v, r1, r2, r3⟩ := loadK_sound hn h hk
      obtain ⟨xs, vs, g1, g2, g3, g4⟩ := res_sound h f f1 f2 rs l _ hl r3
      refine ⟨x.erase :: xs, v :: vs, ?_, by simp [g2], fun i => ?_, g4⟩
      · simp only [Sem.run_bind] at r1
        simp only [List.mapM_cons, f2, Sem.run_bind, r1, Result.andThen_ok, g1, Sem.run_pure]
      · cases i with
        | zero => simpa using r2.erase
        | succ i => simpa using g3 i
    · cases hm

theorem results_sound {s : St} {a : Act} {w : World} {A : Area} {sp : Sp} {fn : Func} {ms : List MRes} {r : AV} (h : RS N s a w A sp) (hm : trRes P fn.results.toList = some ms) (hk : resK s ms fun xs => r = resOf xs) :
    ∃ v, (results fn a.tmps).run P w = .ok v w ∧ RV w A r v := by
  have key : ∀ f : ResultVar → Sem Value, (∀ t, f (.tmp t) = pure (a.tmps.getD t undef)) → (∀ b t, f (.cell b t) = (do loadVar t (← asAddr (a.tmps.getD b undef)))) →
      ∃ v, (do let vs ← fn.results.mapM f; pure (if h : vs.size = 1 then vs[0] else .tuple vs) : Sem Value).run P w = .ok v w ∧ RV w A r v := by
    intro f f1 f2
    obtain ⟨xs, vs, g1, g2, g3, rfl⟩ := res_sound h f f1 f2 fn.results.toList ms _ hm hk
    rw [Sem.run_bind, Array.mapM_eq_mapM_toList, Sem.run_map, g1]
    refine ⟨if h : vs.toArray.size = 1 then vs.toArray[0] else .tuple vs.toArray, rfl, ?_⟩
    match xs, vs, g2 with
    | [], [], _ => exact .tuple [] _ rfl (fun i => by simp; exact .any _)
    | [x], [v], _ => simpa [resOf] using g3 0
    | x :: y :: xs, u :: v :: vs, g2 =>
      simp only [resOf, List.size_toArray, List.length_cons, Nat.add_eq_right, Nat.add_eq_zero_iff, Nat.one_ne_zero, and_false, dite_false]
      refine .tuple _ _ (by simpa using g2) (fun i => ?_)
      have := g3 i
      simpa [List.getD_eq_getElem?_getD, Array.getD_eq_getD_getElem?] using this
    | [], _ :: _, g2 => simp at g2
    | [_], [], g2 => simp at g2
    | [_], _ :: _ :: _, g2 => simp at g2
    | _ :: _ :: _, [], g2 => simp at g2
    | _ :: _ :: _, [_], g2 => simp at g2
  exact key _ (fun _ => rfl) (fun _ _ => rfl)

def Fits (x : AV) : Prop := ∃ w A v, RV w A x v

def Low (B : Nat) (w w' : World) : Prop := w'.os = w.os ∧ w'.tape = w.tape ∧ w'.output = w.output ∧ w.heap.size ≤ w'.heap.size ∧ ∀ b, b < B → w'.heap[b]? = w.heap[b]?

theorem Ev.low {w w1 w2 : World} {A L A1 L1 : Area} (h : Ev w A L w1 A1 L1) (k : Low w.heap.size w1 w2) : Ev w A L w2 A1 L1 := by
  obtain ⟨k1, k2, k3, k4, k5⟩ := k
  exact ⟨k1.trans h.os, k2.trans h.tape, k3.trans h.output, Nat.le_trans h.size k4, fun b o hb hl => ⟨(World.cell?_of_block (k5 b hb)).trans (h.cell b o hb hl).1, (h.cell b o hb hl).2⟩, fun b hb hl => (k5 b hb).trans (h.block b hb hl), h.sub, h.sup⟩

theorem unwind_marks {C : Ctx P} {s : St} {A Lx : Area} {sp : Sp} {fn : Func} {t : Array Value} {R : Ending → World → Prop} (hro : C.ro = none) : ∀ (ds : List Deferred) (Pt : List (Nat × Obj)) (w : World), GS C Pt s ⟨t, ds⟩ w A Lx sp →
    (∀ w' Pt', GS C Pt' s ⟨t, []⟩ w' A Lx sp → Low C.B w w' → ∃ v, (results fn t).run P w' = .ok v w' ∧ R (.returned v) w') → LeavesInM (Fw none) 0 P fn t R ds .returning w
  | [], Pt, w, h, hk => hk w Pt h ⟨rfl, rfl, rfl, Nat.le_refl _, fun _ _ => rfl⟩
  | d :: ds, Pt, w, h, hk => by
    obtain ⟨D, d1, d2, d3⟩ := h.df d (List.mem_cons_self ..)
    have hD := (h.pt _ d3).1
    refine ⟨fun e => (by cases e), .inl ⟨D, w.putObj D (.deferred none), by rw [d2], run_takeDeferred hD, ?_⟩⟩
    have hnd := h.dn
    simp only [List.map_cons, List.nodup_cons] at hnd
    have h1 : GS C Pt s ⟨t, ds⟩ w A Lx sp := ⟨h.rs, h.ig, h.lt, h.ap, h.av, h.x, h.pt, h.ob, h.oa, h.bs, hnd.2, fun e he => h.df e (List.mem_cons_of_mem _ he), h.ro⟩
    have h2 : GS C (Pt.filter fun p => p.1 != D) s ⟨t, ds⟩ (w.putObj D (.deferred none)) A Lx sp := by
      refine h1.putObj d3 (fun p hp => ?_) (fun e he => ?_) (fun l e => by rw [hro] at e; cases e)
      · obtain ⟨g1, g2⟩ := List.mem_filter.1 hp
        exact .inr ⟨g1, by simpa using g2⟩
      · obtain ⟨E, e1, e2, e3⟩ := h1.df e he
        refine ⟨E, e1, e2, List.mem_filter.2 ⟨e3, ?_⟩⟩
        have : E ≠ D := fun hh => hnd.1 (by rw [d2, ← hh]; exact List.mem_map.2 ⟨e, he, by rw [e2]⟩)
        simpa using this
    refine unwind_marks hro ds _ _ h2 fun w' Pt' g1 g2 => hk w' Pt' g1 ?_
    obtain ⟨k1, k2, k3, k4, k5⟩ := g2
    exact ⟨k1, k2, k3, by simpa using k4, fun b hb => (k5 b hb).trans (World.putObj_heap_other (by omega))⟩

def noX : AV → World → Area → Area → Prop := fun gh _ _ Lx => gh = .any ∧ ∀ b o, ¬ Lx b o

def ctx0 (P : Program) (N B : Nat) : Ctx P := { N := N, B := B, ro := none, X := noX, st := fun _ _ _ _ _ _ h _ => h, yl := fun _ _ _ _ _ _ _ h => (by cases h.1), yl2 := fun _ _ _ _ _ _ _ _ _ _ _ _ _ h => by cases h.1 }

theorem init_rs {xs : List AV} {n : Nat} {w : World} {A : Area} {vs : Array Value} (hlen : xs.length ≤ n) (hA : ∀ b o, A b o → b < w.heap.size) (hs : vs.size = xs.length) (hrv : ∀ i, RV w A (xs.getD i .any) (vs.getD i undef)) :
    RS n ⟨initEnv xs, fun _ => none⟩ ⟨vs ++ Array.replicate (n - vs.size) undef, []⟩ w A noSp := by
  refine ⟨by simp; omega, rfl, fun d => ?_, fun b cs hb => (by cases hb), fun r hr => by simp [noSp] at hr, fun r r' _ h1 => by simp [noSp] at h1, fun b o ha => ⟨hA b o ha, live_none b o⟩⟩
  by_cases hd : d < xs.length
  · have e : (vs ++ Array.replicate (n - vs.size) undef).getD d undef = vs.getD d undef := by
      simp only [Array.getD_eq_getD_getElem?]
      rw [Array.getElem?_append_left (by omega)]
    simp only [e]
    exact ⟨(hrv d).erase, .erase⟩
  · simp only [initEnv, List.getD_eq_getElem?_getD, List.getElem?_eq_none (Nat.le_of_not_lt hd), Option.getD_none]
    exact ⟨.any _, trivial⟩

theorem init_any {xs : List AV} (h : xs.length ≤ gS) (k : Nat) (hk : gS ≤ k) : initEnv xs k = .any := by
  simp only [initEnv, List.getD_eq_getElem?_getD, List.getElem?_eq_none (Nat.le_trans h hk), Option.getD_none]; rfl
theorem gS_oS (b : Nat) : gS ≤ oS + b := by simp only [gS, oS]; omega

theorem pcall_of {f : FuncId} {fn : Func} {c : Code} {ann : Ann} {m : MCode} {rs : List MRes} {xs : List AV} {r : AV} (hf : P.funcs[f]? = some fn) (hb : fn.body = some c)
    (hm : trC P ann fn.ntmps c = some m) (hr : trRes P fn.results.toList = some rs) (hfn : isFunc P f = true) (hlen : xs.length ≤ fn.ntmps) (hgS : fn.ntmps ≤ gS)
    (hv : (∀ i, Fits (xs.getD i .any)) → mwp P m (fun s => resK s rs fun ys => r = resOf ys) (fun _ _ => False) (fun s => resK s rs fun ys => r = resOf ys) ⟨initEnv xs, fun _ => none⟩) : PCall P f xs r := by
  refine ⟨hfn, fun w A vs hA hs hrv => ?_⟩
  have hg : ∀ k, gS ≤ k → initEnv xs k = .any := init_any (Nat.le_trans hlen hgS)
  have hh : ∀ b o, ¬ held ⟨initEnv xs, fun _ => none⟩ noSp b o := fun b o h => h.elim (live_none b o) fun h => h (hg _ (gS_oS b))
  have hinit : GS (ctx0 P fn.ntmps w.heap.size) [] ⟨initEnv xs, fun _ => none⟩ ⟨vs ++ Array.replicate (fn.ntmps - vs.size) undef, []⟩ w A (fun _ _ => False) noSp :=
    ⟨init_rs hlen hA hs hrv, fun k hk => by simp only [hg k hk]; rfl, fun _ _ h => h.elim, fun _ _ _ _ h => h, fun _ _ _ h => h, ⟨hg _ (Nat.le_refl _), fun _ _ h => h⟩, fun p hp => (by cases hp), fun b => by simp only [hg _ (gS_oS b)]; exact .any, fun b o h => absurd (.inr h) (hh b o), Nat.le_refl _, List.nodup_nil, fun d hd => (by cases hd), fun l e => (by cases e)⟩
  refine calls_fw (n := 0) (callsIn_of_wp_marks hf hb trivial (wpIn_mono (code_sound c (ctx0 P fn.ntmps w.heap.size) m _ _ _ _ _ _ w A _ noSp hgS hm hinit (hv fun i => ⟨w, A, _, hrv i⟩)) ?_))
  rintro e a' w' ⟨s', A', Lx', sp', Pt', -, hG, hev, -, hq⟩
  have fin : (resK s' rs fun ys => r = resOf ys) → LeavesInM (Fw none) 0 P fn a'.tmps (fun e w' => ∃ v A', e = .returned v ∧ Fr w w' ∧ (∀ b o, A b o → A' b o) ∧ (∀ b o, A' b o → A b o ∨ (w.heap.size ≤ b ∧ b < w'.heap.size)) ∧ RV w' A' r v) a'.defers .returning w' := by
    intro hq
    refine unwind_marks rfl a'.defers Pt' w' hG fun w2 Pt2 hG2 hlow => ?_
    obtain ⟨v, g1, g2⟩ := results_sound hG2.rs hr hq
    have hev2 := hev.low hlow
    have hno : ∀ b o, ¬ join (held ⟨initEnv xs, fun _ => none⟩ noSp) (fun _ _ => False) b o := fun b o h => h.elim (hh b o) id
    refine ⟨v, g1, v, A', rfl, ⟨hev2.os, hev2.tape, hev2.output, hev2.size, fun b hb => hev2.block b hb (hno b)⟩, hev2.sub, fun b o ha => ?_, g2⟩
    rcases hev2.sup b o ha with h1 | h1 | h1
    · exact .inl h1
    · exact absurd h1 (hno b o)
    · exact .inr ⟨h1, (hG2.rs.av b o ha).1⟩
  cases e with
  | normal => exact fin hq
  | ret => exact fin hq
  | exit i => exact hq.elim
  | goto l => exact hq.elim
  | panic ch => exact hq.elim
  | outgrown => exact hq.elim

theorem pcall {f : FuncId} {fn : Func} {ann : Ann} {m : MCode} {rs : List MRes} {xs : List AV} {r : AV} (hf : P.funcs[f]? = some fn) 
    (hm : fn.body.bind (trC P ann fn.ntmps) = some m) (hr : trRes P fn.results.toList = some rs) (hfn : isFunc P f = true) (hlen : xs.length ≤ fn.ntmps ∧ fn.ntmps ≤ 1000000)
    (hv : (∀ i, Fits (xs.getD i .any)) → mwp P m (fun s => resK s rs fun ys => r = resOf ys) (fun _ _ => False) (fun s => resK s rs fun ys => r = resOf ys) ⟨initEnv xs, fun _ => none⟩) : PCall P f xs r := by
  cases hb : fn.body with
  | none => rw [hb] at hm; cases hm
  | some c => rw [hb] at hm; exact pcall_of hf hb hm hr hfn hlen.1 (by simp only [gS]; exact hlen.2) hv

theorem pseq_of {f : FuncId} {fn : Func} {c : Code} {ann : Ann} {m : MCode} {first cap : List AV} {xs : List (List AV)} (hf : P.funcs[f]? = some fn) (hb : fn.body = some c)
    (hm : trC P ann fn.ntmps c = some m) (hr : trRes P fn.results.toList = some []) (hfn : isFunc P f = true) (hlen : first.length + 1 + cap.length ≤ fn.ntmps) (hgS : fn.ntmps ≤ gS)
    (hv : ∀ l, (∀ i, Fits ((first ++ [AV.func (.yield l) [] []] ++ cap).getD i .any)) → mwp P m (fun s => ∃ rest b, s.env gS = .ghost l rest b ∧ (b = true ∨ rest = [])) (fun _ _ => False) (fun s => ∃ rest b, s.env gS = .ghost l rest b ∧ (b = true ∨ rest = []))
      ((St.mk (initEnv (first ++ [AV.func (.yield l) [] []] ++ cap)) fun _ => none).set gS (.ghost l xs false))) : PSeq P f first cap xs := by
  refine ⟨hfn, fun X l w A Lx vs hst hyl hyl2 hlt hav hs hrv hx => ?_⟩
  have hlen' : (first ++ [AV.func (.yield l) [] []] ++ cap).length ≤ fn.ntmps := by simp only [List.length_append, List.length_singleton]; exact hlen
  let C : Ctx P := { N := fn.ntmps, B := w.heap.size, ro := none, X := X, st := hst, yl := hyl, yl2 := hyl2 }
  have hrs := init_rs hlen' (fun b o ha => (hav b o ha).1) hs hrv
  have hrs2 : RS fn.ntmps ((St.mk (initEnv (first ++ [AV.func (.yield l) [] []] ++ cap)) fun _ => none).set gS (.ghost l xs false)) ⟨vs ++ Array.replicate (fn.ntmps - vs.size) undef, []⟩ w A noSp := by
    refine ⟨hrs.size, rfl, fun d => ?_, hrs.loc, hrs.spb, hrs.spd, hrs.av⟩
    by_cases hd : d = gS
    · subst hd; rw [env_set_g]; exact ⟨.ghost _ _ _ _, trivial⟩
    · have e : ((St.mk (initEnv (first ++ [AV.func (.yield l) [] []] ++ cap)) fun _ => none).set gS (.ghost l xs false)).env d = initEnv (first ++ [AV.func (.yield l) [] []] ++ cap) d := upd_ne _ _ hd
      rw [e]; exact hrs.env d
  have hg : ∀ k, gS ≤ k → k ≠ gS → ((St.mk (initEnv (first ++ [AV.func (.yield l) [] []] ++ cap)) fun _ => none).set gS (.ghost l xs false)).env k = .any := fun k hk hne => (upd_ne _ _ hne).trans (init_any (Nat.le_trans hlen' hgS) k hk)
  have hoo : ∀ b, ((St.mk (initEnv (first ++ [AV.func (.yield l) [] []] ++ cap)) fun _ => none).set gS (.ghost l xs false)).env (oS + b) = .any := fun b => hg _ (gS_oS b) (by simp only [gS, oS]; omega)
  have hh : ∀ b o, ¬ held ((St.mk (initEnv (first ++ [AV.func (.yield l) [] []] ++ cap)) fun _ => none).set gS (.ghost l xs false)) noSp b o := fun b o h => h.elim (live_none b o) fun h => h (hoo b)
  have hinit : GS C [] ((St.mk (initEnv (first ++ [AV.func (.yield l) [] []] ++ cap)) fun _ => none).set gS (.ghost l xs false)) ⟨vs ++ Array.replicate (fn.ntmps - vs.size) undef, []⟩ w A Lx noSp :=
    ⟨hrs2, fun k hk => by
        by_cases e : k = gS
        · subst e; rw [env_set_g]; rfl
        · rw [hg k hk e]; rfl, hlt, fun b o o' hl => absurd hl (hh b o), fun b o ha => (hav b o ha).2, by rw [env_set_g]; exact hx, fun p hp => (by cases hp), fun b => by rw [hoo]; exact .any, fun b o h => absurd (.inr h) (hh b o), Nat.le_refl _, List.nodup_nil, fun d hd => (by cases hd), fun l e => (by cases e)⟩
  refine calls_fw (n := 0) (callsIn_of_wp_marks hf hb trivial (wpIn_mono (code_sound c C m _ _ _ _ _ _ w A _ noSp hgS hm hinit (hv l fun i => ⟨w, A, _, hrv i⟩)) ?_))
  rintro e a' w' ⟨s', A', Lx', sp', Pt', -, hG, hev, -, hq⟩
  have fin : (∃ rest b, s'.env gS = .ghost l rest b ∧ (b = true ∨ rest = [])) → LeavesInM (Fw none) 0 P fn a'.tmps (fun e w' => ∃ v A' Lx' rest b, e = .returned v ∧ Ev w A Lx w' A' Lx' ∧ (∀ b o, Lx' b o → b < w'.heap.size) ∧ (∀ b o, A' b o → b < w'.heap.size ∧ ¬ Lx' b o) ∧
      X (.ghost l rest b) w' A' Lx' ∧ (b = true ∨ rest = [])) a'.defers .returning w' := by
    rintro ⟨rest, b, hgh, hb⟩
    refine unwind_marks rfl a'.defers Pt' w' hG fun w2 Pt2 hG2 hlow => ?_
    obtain ⟨v, g1, g2⟩ := results_sound (r := .tuple []) hG2.rs hr rfl
    have hev2 := (hev.low hlow)
    have hx2 := hG2.x
    rw [hgh] at hx2
    refine ⟨v, g1, v, A', Lx', rest, b, rfl, hev2.into (fun b o h => h.elim (fun h => absurd h (hh b o)) .inl) (fun b o _ h => .inr (.inr h)), hG2.lt, fun b o ha => ⟨(hG2.rs.av b o ha).1, hG2.av b o ha⟩, hx2, hb⟩
  cases e with
  | normal => exact fin hq
  | ret => exact fin hq
  | exit i => exact hq.elim
  | goto l => exact hq.elim
  | panic ch => exact hq.elim
  | outgrown => exact hq.elim

theorem pseq {f : FuncId} {fn : Func} {ann : Ann} {m : MCode} {first cap : List AV} {xs : List (List AV)} (hf : P.funcs[f]? = some fn) 
    (hm : fn.body.bind (trC P ann fn.ntmps) = some m) (hr : trRes P fn.results.toList = some []) (hfn : isFunc P f = true) (hlen : first.length + 1 + cap.length ≤ fn.ntmps ∧ fn.ntmps ≤ 1000000)
    (hv : ∀ l, (∀ i, Fits ((first ++ [AV.func (.yield l) [] []] ++ cap).getD i .any)) → mwp P m (fun s => ∃ rest b, s.env gS = .ghost l rest b ∧ (b = true ∨ rest = [])) (fun _ _ => False) (fun s => ∃ rest b, s.env gS = .ghost l rest b ∧ (b = true ∨ rest = []))
      ((St.mk (initEnv (first ++ [AV.func (.yield l) [] []] ++ cap)) fun _ => none).set gS (.ghost l xs false))) : PSeq P f first cap xs := by
  cases hb : fn.body with
  | none => rw [hb] at hm; cases hm
  | some c => rw [hb] at hm; exact pseq_of hf hb hm hr hfn hlen.1 (by simp only [gS]; exact hlen.2) hv

end
end Go.Avm

namespace Go.Avm
open Go.RowKit

section
variable {P : Program} {N : Nat}

theorem partK_mn {cs : List AV} {off : Nat} {n : Option Nat} {k k' : AV → Prop} (hk : ∀ v, k v → k' v) (h : partK cs off n k) : partK cs off n k' := by
  cases n with
  | none => exact ⟨h.1, hk _ h.2⟩
  | some m => exact ⟨h.1, hk _ h.2⟩
theorem loadK_mn {loc : Nat → Option (List AV)} {x : AV} {n : Option Nat} {k k' : AV → Prop} (hk : ∀ v, k v → k' v) (h : loadK loc x n k) : loadK loc x n k' := by
  unfold loadK at h ⊢
  split at h
  · exact partK_mn (fun v hv => hk _ hv) h
  · split at h
    · exact partK_mn hk h
    · exact h.elim
  · exact h.elim
theorem resK_mn {s : St} : ∀ {rs : List MRes} {k k' : List AV → Prop}, (∀ ys, k ys → k' ys) → resK s rs k → resK s rs k'
  | [], _, _, hk, h => hk _ h
  | .tmp _ :: rs, _, _, hk, h => resK_mn (rs := rs) (fun _ hy => hk _ hy) h
  | .cell _ _ :: rs, _, _, hk, h => loadK_mn (fun _ hu => resK_mn (rs := rs) (fun _ hy => hk _ hy) hu) h
theorem partK_ex {cs : List AV} {off : Nat} {n : Option Nat} {k : AV → Prop} (h : partK cs off n k) : ∃ v, k v ∧ partK cs off n fun u => u = v := by
  cases n with
  | none => exact ⟨_, h.2, h.1, rfl⟩
  | some m => exact ⟨_, h.2, h.1, rfl⟩
theorem loadK_ex {loc : Nat → Option (List AV)} {x : AV} {n : Option Nat} {k : AV → Prop} (h : loadK loc x n k) : ∃ v, k v ∧ loadK loc x n fun u => u = v := by
  unfold loadK at h ⊢
  split at h
  · obtain ⟨v, h1, h2⟩ := partK_ex h
    exact ⟨v.erase, h1, partK_mn (fun u e => by rw [e]) h2⟩
  · split at h
    · exact partK_ex h
    · exact h.elim
  · exact h.elim
theorem resK_ex {s : St} : ∀ {rs : List MRes} {k : List AV → Prop}, resK s rs k → ∃ ys, k ys ∧ resK s rs fun zs => zs = ys
  | [], k, h => ⟨[], h, rfl⟩
  | .tmp t :: rs, k, h => by
    obtain ⟨ys, h1, h2⟩ := resK_ex (rs := rs) h
    exact ⟨_, h1, resK_mn (rs := rs) (fun zs e => by rw [e]) h2⟩
  | .cell t n :: rs, k, h => by
    obtain ⟨v, h1, h2⟩ := loadK_ex h
    obtain ⟨ys, h3, h4⟩ := resK_ex (rs := rs) h1
    exact ⟨_, h3, loadK_mn (fun u e => by subst e; exact resK_mn (rs := rs) (fun zs e => by rw [e]) h4) h2⟩

def resI (s : St) : List MRes → (AV → Prop) → Prop
  | [.tmp t], K => K (s.env t)
  | rs, K => resK s rs fun ys => K (resOf ys).erase

theorem resI_sound {s : St} {a : Act} {w : World} {A : Area} {sp : Sp} {fn : Func} {ms : List MRes} {k : AV → Prop} (h : RS N s a w A sp) (hm : trRes P fn.results.toList = some ms) (hk : resI s ms k) :
    ∃ r v, (results fn a.tmps).run P w = .ok v w ∧ RV w A r v ∧ OwnOK sp r v ∧ k r := by
  unfold resI at hk
  split at hk
  · rename_i t
    have hr : ∃ v, (results fn a.tmps).run P w = .ok v w ∧ v = a.tmps.getD t undef := by
      generalize hl : fn.results.toList = l at hm
      match l, hm with
      | [], hm => cases hm
      | .cell _ _ :: _, hm =>
        simp only [trRes] at hm
        split at hm <;> cases hm
      | .tmp t' :: rs, hm =>
        simp only [trRes, Option.map_eq_some_iff] at hm
        obtain ⟨l', hl', e⟩ := hm
        injection e with e1 e2
        injection e1 with e1
        subst e1 e2
        match rs, hl' with
        | [], _ =>
          have e : fn.results = #[.tmp t'] := by rw [← Array.toList_inj, hl]
          refine ⟨a.tmps.getD t' undef, ?_, rfl⟩
          unfold results
          rw [e, Sem.run_bind, Array.mapM_eq_mapM_toList, Sem.run_map]
          rfl
        | .tmp _ :: _, hl' =>
          simp only [trRes, Option.map_eq_some_iff] at hl'
          obtain ⟨_, _, e⟩ := hl'
          cases e
        | .cell _ _ :: _, hl' =>
          simp only [trRes] at hl'
          split at hl' <;> cases hl'
    obtain ⟨v, h1, rfl⟩ := hr
    exact ⟨_, _, h1, (h.env t).1, (h.env t).2, hk⟩
  · obtain ⟨ys, h1, h2⟩ := resK_ex hk
    obtain ⟨v, g1, g2⟩ := results_sound (r := resOf ys) h hm (resK_mn (fun zs e => by rw [e]) h2)
    exact ⟨(resOf ys).erase, v, g1, g2.erase, .erase, h1⟩

theorem back_env_lt (s s2 : St) {k : Nat} (hk : ¬ gS ≤ k) : (back s s2).env k = (s.env k).erase := by simp [back, hk]

abbrev ResLaw (P : Program) (fn : Func) (rs : List MRes) (R : St → List MRes → (AV → Prop) → Prop) : Prop :=
  ∀ {N : Nat} {s : St} {a : Act} {w : World} {A : Area} {sp : Sp} {k : AV → Prop}, RS N s a w A sp → R s rs k → ∃ r v, (results fn a.tmps).run P w = .ok v w ∧ RV w A r v ∧ OwnOK sp r v ∧ k r

def resD (s : St) (ms : List MRes) (K : AV → Prop) : Prop := match ms with
  | [.cell t (some n), .tmp u] => match s.env t with
    | .mref b off => match s.loc b with
      | some cs => off + n ≤ cs.length ∧ K (.deep (.tuple [.agg ((cs.drop off).take n), (s.env u).erase]))
      | none => False
    | _ => False
  | _ => False
theorem resD_sound {s : St} {a : Act} {w : World} {A : Area} {sp : Sp} {fn : Func} {ms : List MRes} {k : AV → Prop} (h : RS N s a w A sp) (hm : trRes P fn.results.toList = some ms) (hk : resD s ms k) :
    ∃ r v, (results fn a.tmps).run P w = .ok v w ∧ RV w A r v ∧ OwnOK sp r v ∧ k r := by
  unfold resD at hk
  split at hk
  · rename_i t n u
    split at hk
    · rename_i b off e1
      split at hk
      · rename_i cs hb
        obtain ⟨hoff, hk⟩ := hk
        obtain ⟨ty, hl, ht⟩ : ∃ ty, fn.results.toList = [.cell t ty, .tmp u] ∧ partN P ty = some (some n) := by
          generalize fn.results.toList = l at hm
          match l, hm with
          | [], hm => cases hm
          | .tmp _ :: _, hm =>
            simp only [trRes, Option.map_eq_some_iff] at hm
            obtain ⟨_, _, e⟩ := hm
            cases e
          | .cell t' ty :: rs, hm =>
            simp only [trRes] at hm
            split at hm
            · rename_i n' l' hn' hl'
              injection hm with hm
              injection hm with e2 e3
              injection e2 with e4 e5
              subst e4 e5 e3
              match rs, hl' with
              | [], hl' => cases hl'
              | .cell _ _ :: _, hl' =>
                simp only [trRes] at hl'
                split at hl' <;> cases hl'
              | .tmp u' :: rs', hl' =>
                simp only [trRes, Option.map_eq_some_iff] at hl'
                obtain ⟨l2, hl2, e⟩ := hl'
                injection e with e6 e7
                injection e6 with e6
                subst e6 e7
                match rs', hl2 with
                | [], _ => exact ⟨ty, rfl, hn'⟩
                | .tmp _ :: _, hl2 =>
                  simp only [trRes, Option.map_eq_some_iff] at hl2
                  obtain ⟨_, _, e⟩ := hl2
                  cases e
                | .cell _ _ :: _, hl2 =>
                  simp only [trRes] at hl2
                  split at hl2 <;> cases hl2
            · cases hm
        obtain ⟨vs, T, hh, hsz, hr⟩ := h.loc b cs hb
        have h1 := (h.env t).1
        rw [e1] at h1
        have hcell : ∀ i, off + i < cs.length → w.cell? ⟨b, off + i, none⟩ = some (vs.getD (off + i) undef) := by
          intro i hi
          simp [World.cell?, hh, Array.getD_eq_getD_getElem?, Array.getElem?_eq_getElem (show off + i < vs.size by omega)]
        have hld := loadVar_run ht w b off (fun i => vs.getD (off + i) undef) (fun i hi => hcell i (by simp at hi; omega))
        have hrow : ∀ i, RV w A (((cs.drop off).take n).getD i .any) (((Array.range n).map fun i => vs.getD (off + i) undef).getD i undef) ∧ Own1 sp (((cs.drop off).take n).getD i .any) (((Array.range n).map fun i => vs.getD (off + i) undef).getD i undef) := by
          intro i
          by_cases hi : i < n
          · have := hr (off + i)
            simp only [List.getD_eq_getElem?_getD, List.getElem?_take, hi, if_true, List.getElem?_drop, Array.getD_eq_getD_getElem?, Array.getElem?_map] at this ⊢
            rw [Array.getElem?_eq_getElem (by simpa using hi)]
            exact ⟨by simpa using this.1, Own1.of (by simpa using this.2)⟩
          · simp only [List.getD_eq_getElem?_getD, List.getElem?_take, hi, if_false, Option.getD_none]
            exact ⟨.any _, trivial⟩
        have key : ∀ f : ResultVar → Sem Value, (∀ t, f (.tmp t) = pure (a.tmps.getD t undef)) → (∀ b t, f (.cell b t) = (do loadVar t (← asAddr (a.tmps.getD b undef)))) →
            (do let vs ← fn.results.mapM f; pure (if h : vs.size = 1 then vs[0] else .tuple vs) : Sem Value).run P w = .ok (.tuple #[.agg ((Array.range n).map fun i => vs.getD (off + i) undef), a.tmps.getD u undef]) w := by
          intro f f1 f2
          have hc : (f (.cell t ty)).run P w = .ok (.agg ((Array.range n).map fun i => vs.getD (off + i) undef)) w := by
            rw [f2]
            generalize a.tmps.getD t undef = v0 at h1
            cases h1
            simp only [Sem.run_bind, asAddr, Sem.run_pure, Result.andThen_ok, hld]
          rw [Sem.run_bind, Array.mapM_eq_mapM_toList, Sem.run_map, hl]
          simp only [List.mapM_cons, List.mapM_nil, f1, Sem.run_bind, Sem.run_pure, hc, Result.andThen_ok]
          rfl
        refine ⟨_, _, key _ (fun _ => rfl) (fun _ _ => rfl), .deep _ _ (.tuple _ _ rfl fun i => ?_), fun i => ?_, hk⟩
        · match i with
          | 0 => exact .agg _ _ (by simp; omega) fun i => (hrow i).1
          | 1 => exact (h.env u).1.erase
          | i + 2 => exact .any _
        · match i with
          | 0 => exact fun i => (hrow i).2
          | 1 => exact Own2.erase
          | i + 2 => trivial
      · exact hk.elim
    · exact hk.elim
  · exact hk.elim

theorem icall_gen {R : St → List MRes → (AV → Prop) → Prop} {f : FuncId} {fn : Func} {c : Code} {ann : Ann} {m : MCode} {rs : List MRes} {xs : List AV} {s : St} {K : AV → St → Prop} (hf : P.funcs[f]? = some fn) (hb : fn.body = some c)
    (hm : trC P ann fn.ntmps c = some m) (hR : ResLaw P fn rs R) (hfn : isFunc P f = true) (hlen : xs.length ≤ fn.ntmps) (hgS : fn.ntmps ≤ gS)
    (hv : (∀ i, Fits (xs.getD i .any)) → mwp P m (fun s2 => R s2 rs fun r => K r (back s s2)) (fun _ _ => False) (fun s2 => R s2 rs fun r => K r (back s s2)) ⟨fun k => if gS ≤ k then s.env k else initEnv xs k, s.loc⟩) : ICall P f xs s K := by
  refine ⟨hfn, fun C Pt a w A Lx sp vs hCN hG hs hrv => ?_⟩
  let C' : Ctx P := { C with N := fn.ntmps, B := w.heap.size, ro := none }
  let s0 : St := ⟨fun k => if gS ≤ k then s.env k else initEnv xs k, s.loc⟩
  have hg : ∀ k, gS ≤ k → s0.env k = s.env k := fun k hk => by show (if gS ≤ k then s.env k else initEnv xs k) = _; rw [if_pos hk]
  have ho : ∀ b, s0.env (oS + b) = s.env (oS + b) := fun b => hg _ (gS_oS b)
  have hoo : objs s0 = objs s := by funext b o; simp only [objs, ho]
  have hh : held s0 sp = held s sp := by unfold held; rw [hoo]
  have hrs0 := init_rs (n := fn.ntmps) hlen (fun b o ha => (hG.rs.av b o ha).1) hs hrv
  have hrs : RS fn.ntmps s0 ⟨vs ++ Array.replicate (fn.ntmps - vs.size) undef, []⟩ w A sp := by
    refine ⟨hrs0.size, rfl, fun d => ?_, hG.rs.loc, hG.rs.spb, hG.rs.spd, hG.rs.av⟩
    by_cases hd : gS ≤ d
    · rw [hg d hd]
      have := hG.ig d hd
      generalize s.env d = x at this
      cases x <;> first | (cases this; done) | exact ⟨.any _, trivial⟩ | exact ⟨.ghost _ _ _ _, trivial⟩
    · have e : s0.env d = initEnv xs d := by show (if gS ≤ d then s.env d else initEnv xs d) = _; rw [if_neg hd]
      rw [e]
      refine ⟨(hrs0.env d).1, ?_⟩
      simp only [initEnv]
      exact .erase
  have hinit : GS C' Pt s0 ⟨vs ++ Array.replicate (fn.ntmps - vs.size) undef, []⟩ w A Lx sp :=
    ⟨hrs, fun k hk => by rw [hg k hk]; exact hG.ig k hk, hG.lt, by rw [hh]; exact hG.ap, hG.av, by rw [hg _ (Nat.le_refl _)]; exact hG.x, fun p hp => by rw [ho]; exact hG.pt p hp, fun b => by rw [ho]; exact hG.ob b,
      by rw [hoo]; exact hG.oa, Nat.le_refl _, List.nodup_nil, fun d hd => (by cases hd), fun l e => (by cases e)⟩
  refine calls_fw (n := 0) (callsIn_of_wp_marks hf hb trivial (wpIn_mono (code_sound c C' m _ _ _ _ _ _ w A _ sp hgS hm hinit (hv fun i => ⟨w, A, _, hrv i⟩)) ?_))
  rintro e a' w' ⟨s', A', Lx', sp', Pt', hsub, hG', hev, -, hq⟩
  have fin : (R s' rs fun r => K r (back s s')) → LeavesInM (Fw none) 0 P fn a'.tmps (fun e w' => ∃ r v s' A' Lx' sp', e = .returned v ∧ RV w' A' r v ∧ OwnOK sp' r v ∧ GS C Pt s' a w' A' Lx' sp' ∧ Ev w A (join (held s sp) Lx) w' A' (join (held s' sp') Lx') ∧ K r s') a'.defers .returning w' := by
    intro hq
    refine unwind_marks rfl a'.defers Pt' w' hG' fun w2 Pt2 hG2 hlow => ?_
    obtain ⟨r, v, g1, g2, g3, g4⟩ := hR hG2.rs hq
    have hev2 : Ev w A (join (held s sp) Lx) w2 A' (join (held s' sp') Lx') := by
      have := hev.low hlow
      rwa [hh] at this
    have hmono : ∀ b o v, A b o → w.cell? ⟨b, o, none⟩ = some v → w2.cell? ⟨b, o, none⟩ = some v ∧ A' b o := fun b o v ha hv =>
      ⟨(hev2.cell b o (hG.rs.av b o ha).1 (fun hl => by rcases hl with hl | hl; exact hG.own_av ha hl; exact hG.av b o ha hl)).1.trans hv, hev2.sub b o ha⟩
    have hrb : RS C.N (back s s') ⟨a.tmps, []⟩ w2 A' sp' := by
      refine ⟨hG.rs.size, rfl, fun d => ?_, hG2.rs.loc, hG2.rs.spb, hG2.rs.spd, hG2.rs.av⟩
      by_cases hd : gS ≤ d
      · rw [back_g _ _ hd]
        have := hG2.ig d hd
        generalize s'.env d = x at this
        cases x <;> first | (cases this; done) | exact ⟨.any _, trivial⟩ | exact ⟨.ghost _ _ _ _, trivial⟩
      · rw [back_env_lt _ _ hd]
        exact ⟨((hG.rs.env d).1.mono hmono (hev2.kept fun b o ha => ⟨(hG.rs.av b o ha).1, fun hl => by rcases hl with hl | hl; exact hG.own_av ha hl; exact hG.av b o ha hl⟩)).erase, .erase⟩
    refine ⟨v, g1, r, v, back s s', A', Lx', sp', rfl, g2, g3, ⟨hrb, fun k hk => by rw [back_g _ _ hk]; exact hG2.ig k hk, hG2.lt, by rw [back_own]; exact hG2.ap, hG2.av, by rw [back_g _ _ (Nat.le_refl _)]; exact hG2.x, fun p hp => ?_,
      fun b => by rw [back_o]; exact hG2.ob b, by rw [back_objs]; exact hG2.oa, Nat.le_trans hG.bs hev2.size, hG.dn, hG.df, hG.ro⟩, by rw [back_own]; exact hev2, g4⟩
    obtain ⟨p1, p2, p3, p4, p5⟩ := hG'.pt p (hsub p hp)
    have hlt := lt_of_heap (hG.pt p hp).1
    exact ⟨(hlow.2.2.2.2 p.1 hlt).trans p1, p2, p3, p4, by rw [back_o]; exact p5⟩
  cases e with
  | normal => exact fin hq
  | ret => exact fin hq
  | exit i => exact hq.elim
  | goto l => exact hq.elim
  | panic ch => exact hq.elim
  | outgrown => exact hq.elim

theorem icall_of {f : FuncId} {fn : Func} {c : Code} {ann : Ann} {m : MCode} {rs : List MRes} {xs : List AV} {s : St} {K : AV → St → Prop} (hf : P.funcs[f]? = some fn) (hb : fn.body = some c)
    (hm : trC P ann fn.ntmps c = some m) (hr : trRes P fn.results.toList = some rs) (hfn : isFunc P f = true) (hlen : xs.length ≤ fn.ntmps) (hgS : fn.ntmps ≤ gS)
    (hv : (∀ i, Fits (xs.getD i .any)) → mwp P m (fun s2 => resI s2 rs fun r => K r (back s s2)) (fun _ _ => False) (fun s2 => resI s2 rs fun r => K r (back s s2)) ⟨fun k => if gS ≤ k then s.env k else initEnv xs k, s.loc⟩) : ICall P f xs s K :=
  icall_gen hf hb hm (fun h hk => resI_sound h hr hk) hfn hlen hgS hv

theorem icall {f : FuncId} {fn : Func} {ann : Ann} {m : MCode} {rs : List MRes} {xs : List AV} {s : St} {K : AV → St → Prop} (hf : P.funcs[f]? = some fn)
    (hm : fn.body.bind (trC P ann fn.ntmps) = some m) (hr : trRes P fn.results.toList = some rs) (hfn : isFunc P f = true) (hlen : xs.length ≤ fn.ntmps ∧ fn.ntmps ≤ 1000000)
    (hv : (∀ i, Fits (xs.getD i .any)) → mwp P m (fun s2 => resI s2 rs fun r => K r (back s s2)) (fun _ _ => False) (fun s2 => resI s2 rs fun r => K r (back s s2)) ⟨fun k => if gS ≤ k then s.env k else initEnv xs k, s.loc⟩) : ICall P f xs s K := by
  cases hb : fn.body with
  | none => rw [hb] at hm; cases hm
  | some c => rw [hb] at hm; exact icall_of hf hb hm hr hfn hlen.1 (by simp only [gS]; exact hlen.2) hv

theorem icallD {f : FuncId} {fn : Func} {ann : Ann} {m : MCode} {rs : List MRes} {xs : List AV} {s : St} {K : AV → St → Prop} (hf : P.funcs[f]? = some fn)
    (hm : fn.body.bind (trC P ann fn.ntmps) = some m) (hr : trRes P fn.results.toList = some rs) (hfn : isFunc P f = true) (hlen : xs.length ≤ fn.ntmps ∧ fn.ntmps ≤ 1000000)
    (hv : (∀ i, Fits (xs.getD i .any)) → mwp P m (fun s2 => resD s2 rs fun r => K r (back s s2)) (fun _ _ => False) (fun s2 => resD s2 rs fun r => K r (back s s2)) ⟨fun k => if gS ≤ k then s.env k else initEnv xs k, s.loc⟩) : ICall P f xs s K := by
  cases hb : fn.body with
  | none => rw [hb] at hm; cases hm
  | some c => rw [hb] at hm; exact icall_gen hf hb hm (fun h hk => resD_sound h hr hk) hfn hlen.1 (by simp only [gS]; exact hlen.2) hv

end
end Go.Avm

namespace Go.Avm

section
variable (P : Program) (ms : List MOp) (K : St → Prop) (s : St)

theorem env_set (d k : Nat) (x : AV) : (s.set d x).env k = if k = d then x else s.env k := rfl
theorem loc_set (d : Nat) (x : AV) : (s.set d x).loc = s.loc := rfl
theorem env_new (b k : Nat) (cs : List AV) : (s.new b cs).env k = s.env k := rfl
theorem loc_new (b c : Nat) (cs : List AV) : (s.new b cs).loc c = if c = b then some cs else s.loc c := rfl
theorem env_dem (r k : Nat) : (s.dem r).env k = demote r (s.env k) := rfl
theorem loc_dem (r b : Nat) : (s.dem r).loc b = (s.loc b).map (·.map (demote r)) := rfl
def St.frz (s : St) (k b : Nat) (cs : List AV) : St := ⟨upd s.env k (.ref cs), upd s.loc b none⟩
theorem env_frz (k b j : Nat) (cs : List AV) : (s.frz k b cs).env j = if j = k then .ref cs else s.env j := rfl
theorem loc_frz (k b c : Nat) (cs : List AV) : (s.frz k b cs).loc c = if c = b then none else s.loc c := rfl
theorem ev_t (e : Nat → AV) (n : Nat) : MArg.ev e (.t n) = e n := rfl
theorem ev_c (e : Nat → AV) (x : AV) : MArg.ev e (.c x) = x := rfl
theorem env_mk (e : Nat → AV) (l : Nat → Option (List AV)) (k : Nat) : (St.mk e l).env k = e k := rfl
theorem loc_mk (e : Nat → AV) (l : Nat → Option (List AV)) : (St.mk e l).loc = l := rfl
theorem init_at (xs : List AV) (k : Nat) : initEnv xs k = (xs.getD k .any).erase := rfl
theorem erase_lit (v : Value) : (AV.lit v).erase = .lit v := rfl
theorem erase_slice (sz : Nat) (xs : List AV) (r : Nat) : (AV.slice sz xs r).erase = .slice sz xs 0 := rfl
theorem erase_agg (cs : List AV) : (AV.agg cs).erase = .agg (cs.map AV.erase0) := rfl
theorem erase_ref (cs : List AV) : (AV.ref cs).erase = .ref cs := rfl
theorem erase_mref (b o : Nat) : (AV.mref b o).erase = .mref b o := rfl
theorem erase_func (f : Fn) (a b : List AV) : (AV.func f a b).erase = .func f a b := rfl
theorem erase_tuple (a : List AV) : (AV.tuple a).erase = .tuple a := rfl
theorem erase_any : AV.any.erase = .any := rfl
theorem erase0_lit (v : Value) : (AV.lit v).erase0 = .lit v := rfl
theorem erase0_slice (sz : Nat) (xs : List AV) (r : Nat) : (AV.slice sz xs r).erase0 = .slice sz xs 0 := rfl
theorem erase0_ref (cs : List AV) : (AV.ref cs).erase0 = .ref cs := rfl
theorem erase0_mref (b o : Nat) : (AV.mref b o).erase0 = .mref b o := rfl
theorem erase0_func (f : Fn) (a b : List AV) : (AV.func f a b).erase0 = .func f a b := rfl
theorem dem_lit (r : Nat) (v : Value) : demote r (.lit v) = .lit v := rfl
theorem dem_slice (r sz : Nat) (xs : List AV) (q : Nat) : demote r (.slice sz xs q) = if q = r then .slice sz xs 0 else .slice sz xs q := rfl
theorem dem_ref (r : Nat) (cs : List AV) : demote r (.ref cs) = .ref cs := rfl
theorem dem_mref (r b o : Nat) : demote r (.mref b o) = .mref b o := rfl
theorem dem_agg (r : Nat) (cs : List AV) : demote r (.agg cs) = .agg cs := rfl
theorem dem_any (r : Nat) : demote r .any = .any := rfl
theorem dem_func (r : Nat) (f : Fn) (a b : List AV) : demote r (.func f a b) = .func f a b := rfl
theorem dem_tuple (r : Nat) (a : List AV) : demote r (.tuple a) = .tuple a := rfl
theorem cells_lit (v : Value) : (AV.lit v).cells = [.lit v] := rfl
theorem cells_slice (sz : Nat) (xs : List AV) (q : Nat) : (AV.slice sz xs q).cells = [.slice sz xs q] := rfl
theorem cells_agg (cs : List AV) : (AV.agg cs).cells = cs := rfl
theorem cells_ref (cs : List AV) : (AV.ref cs).cells = [.ref cs] := rfl
theorem cells_mref (b o : Nat) : (AV.mref b o).cells = [.mref b o] := rfl
theorem cells_func (f : Fn) (a b : List AV) : (AV.func f a b).cells = [.func f a b] := rfl
theorem splice_nil (cs : List AV) (o : Nat) : splice cs o [] = cs := rfl
theorem splice_cons (cs : List AV) (o : Nat) (v : AV) (vs : List AV) : splice cs o (v :: vs) = splice (cs.set o v) (o + 1) vs := rfl

theorem v_nil : vcs P [] K s = K s := rfl
theorem v_cpy (d : Nat) (x : MArg) : vcs P (.cpy d x :: ms) K s = vcs P ms K (s.set d (x.ev s.env)) := rfl
theorem v_asg (d : Nat) (x : MArg) : vcs P (.asg d x :: ms) K s = vcs P ms K (asgSt s d (x.ev s.env)) := rfl
theorem asg_lit (d : Nat) (v : Value) : asgSt s d (.lit v) = s.set d (.lit v) := rfl
theorem asg_agg (d : Nat) (cs : List AV) : asgSt s d (.agg cs) = s.set d (.agg cs) := rfl
theorem asg_ref (d : Nat) (cs : List AV) : asgSt s d (.ref cs) = s.set d (.ref cs) := rfl
theorem asg_func (d : Nat) (f : Fn) (a b : List AV) : asgSt s d (.func f a b) = s.set d (.func f a b) := rfl
theorem asg_sl0 (d sz : Nat) (xs : List AV) : asgSt s d (.slice sz xs 0) = s.set d (.slice sz xs 0) := rfl
theorem asg_sl (d sz : Nat) (xs : List AV) (r : Nat) : asgSt s d (.slice sz xs r) = if r = 0 then s.set d (.slice sz xs 0) else ((s.dem r).dem (d + 1)).set d (.slice sz xs (d + 1)) := rfl
theorem v_asgNil (d sz : Nat) : vcs P (.asgNil d sz :: ms) K s = vcs P ms K ((s.dem (d + 1)).set d (.slice sz [] (d + 1))) := rfl
theorem v_boxI (d n : Nat) (x : MArg) : vcs P (.boxI d x n :: ms) K s = ((x.ev s.env).cells.length = n ∧ vcs P ms K (s.set d (.ref ((x.ev s.env).cells.map AV.erase0)))) := rfl
theorem v_lenK (d n : Nat) : vcs P (.lenK d n :: ms) K s = vcs P ms K (s.set d (.lit (.int .i64 n))) := rfl
theorem v_mkfn (d : Nat) (fn : Fn) (a b : List MArg) : vcs P (.mkfn d fn a b :: ms) K s = vcs P ms K (s.set d (.func fn (a.map fun x => (x.ev s.env).erase) (b.map fun x => (x.ev s.env).erase))) := rfl

def vPart (d : Nat) (cs : List AV) (off : Nat) (e : Bool) : Option Nat → Prop
  | none => off < cs.length ∧ vcs P ms K (s.set d (if e then (cs.getD off .any).erase else cs.getD off .any))
  | some n => off + n ≤ cs.length ∧ vcs P ms K (s.set d (.agg (((cs.drop off).take n).map AV.erase0)))

theorem erase_erase (x : AV) : x.erase.erase = x.erase := by
  cases x <;> first | rfl | skip
  show AV.agg _ = AV.agg _
  rw [map_erase0]

def vLoadL (d : Nat) (off : Nat) (n : Option Nat) : Option (List AV) → Prop
  | some cs => vPart P ms K s d cs off false n
  | none => False

def vLoad (d : Nat) (n : Option Nat) : AV → Prop
  | .ref cs => vPart P ms K s d cs 0 true n
  | .mref b off => vLoadL P ms K s d off n (s.loc b)
  | _ => False

theorem v_load (d : Nat) (x : MArg) (n : Option Nat) : vcs P (.load d x n :: ms) K s = vLoad P ms K s d n (x.ev s.env) := by
  rw [show vcs P (.load d x n :: ms) K s = loadK s.loc (x.ev s.env) n (fun v => vcs P ms K (s.set d v)) from rfl]
  unfold loadK vLoad
  cases x.ev s.env <;> first | rfl | skip
  cases n with
  | none => rfl
  | some k => simp only [vPart, partK, erase_erase]; rfl
def vStoreL (off n oid : Nat) (b : Nat) (y : AV) : Option (List AV) → Prop
  | some cs => off + n ≤ cs.length ∧ y.cells.length = n ∧ y.cells.all AV.cell1 = true ∧
      match y with
      | .slice sz xs r => if r = 0 ∨ oid = 0 then vcs P ms K (s.new b (splice cs off [.slice sz xs 0]))
          else vcs P ms K (((s.dem r).dem oid).new b ((cs.map (fun x => demote oid (demote r x))).set off (.slice sz xs oid)))
      | y => vcs P ms K (s.new b (splice cs off (y.cells.map AV.erase0)))
  | none => False

def vStore (n oid : Nat) (y : AV) : AV → Prop
  | .mref b off => vStoreL P ms K s off n oid b y (s.loc b)
  | _ => False

theorem v_store (x y : MArg) (n oid : Nat) : vcs P (.store x y n oid :: ms) K s = vStore P ms K s n oid (y.ev s.env) (x.ev s.env) := by
  rw [show vcs P (.store x y n oid :: ms) K s = storeK s (x.ev s.env) (y.ev s.env) n oid (vcs P ms K) from rfl]
  unfold storeK vStore
  cases x.ev s.env <;> first | rfl | skip

def vStoreF (k n : Nat) (y : AV) : AV → Option (List AV) → Prop
  | .mref b 0, some cs => cs.length = n ∧ y.cells.length = n ∧ y.cells.all AV.cell1 = true ∧ vcs P ms K (s.frz k b (y.cells.map AV.erase0))
  | _, _ => False

def bOf : AV → Nat
  | .mref b _ => b
  | _ => 0

theorem v_storeF (k : Nat) (y : MArg) (n : Nat) : vcs P (.storeF k y n :: ms) K s = vStoreF P ms K s k n (y.ev s.env) (s.env k) (s.loc (bOf (s.env k))) := by
  show (match s.env k with | .mref b 0 => _ | _ => _) = _
  cases s.env k <;> first | rfl | skip
  rename_i b off
  cases off with
  | zero => simp only [bOf]; cases s.loc b <;> rfl
  | succ o => simp only [bOf]; cases s.loc b <;> rfl

def vAddr (d off : Nat) : AV → Prop
  | .ref cs => vcs P ms K (s.set d (.ref (cs.drop off)))
  | .mref b o => vcs P ms K (s.set d (.mref b (o + off)))
  | _ => False
theorem v_addr (d : Nat) (x : MArg) (off : Nat) : vcs P (.addr d x off :: ms) K s = vAddr P ms K s d off (x.ev s.env) := by
  show (match x.ev s.env with | .ref cs => _ | .mref b o => _ | _ => _) = _
  cases x.ev s.env <;> rfl

def vIdxS (d sz : Nat) : AV → AV → Prop
  | .slice sz' xs _, .lit (.int _ n) => sz' = sz ∧ 0 ≤ n ∧ n < xs.length ∧ vcs P ms K (s.set d (.ref (xs.getD n.toNat .any).cells))
  | .mslice b off len _ sz', .lit (.int _ n) => sz' = sz ∧ 0 ≤ n ∧ n < len ∧ vcs P ms K (s.set d (.mref b (off + n.toNat * sz)))
  | _, _ => False
theorem v_idxS (d : Nat) (x i : MArg) (sz : Nat) : vcs P (.idxS d x i sz :: ms) K s = vIdxS P ms K s d sz (x.ev s.env) (i.ev s.env) := by
  show (match x.ev s.env, i.ev s.env with | .slice sz' xs _, .lit (.int _ n) => _ | .mslice b off len _ sz', .lit (.int _ n) => _ | _, _ => _) = _
  unfold vIdxS; rfl

def vIdxA (d len sz : Nat) : AV → AV → Prop
  | .ref cs, .lit (.int _ n) => 0 ≤ n ∧ n < len ∧ vcs P ms K (s.set d (.ref (cs.drop (n.toNat * sz))))
  | .mref b off, .lit (.int _ n) => 0 ≤ n ∧ n < len ∧ vcs P ms K (s.set d (.mref b (off + n.toNat * sz)))
  | _, _ => False
theorem v_idxA (d : Nat) (x i : MArg) (len sz : Nat) : vcs P (.idxA d x i len sz :: ms) K s = vIdxA P ms K s d len sz (x.ev s.env) (i.ev s.env) := by
  unfold vIdxA; rfl

def vFld (d off : Nat) (n : Option Nat) : AV → Prop
  | .agg cs => vPart P ms K s d cs off true n
  | _ => False
theorem v_fld (d : Nat) (x : MArg) (off : Nat) (n : Option Nat) : vcs P (.fld d x off n :: ms) K s = vFld P ms K s d off n (x.ev s.env) := by
  show (match x.ev s.env with | .agg cs => _ | _ => _) = _
  cases x.ev s.env <;> first | rfl | skip
  cases n with
  | none => rfl
  | some k => simp only [vFld, vPart, partK, erase_erase]; rfl

def vIdxV (d len sz : Nat) (n : Option Nat) : AV → AV → Prop
  | .agg cs, .lit (.int _ j) => 0 ≤ j ∧ j < len ∧ vPart P ms K s d cs (j.toNat * sz) true n
  | _, _ => False
theorem v_idxV (d : Nat) (x i : MArg) (len sz : Nat) (n : Option Nat) : vcs P (.idxV d x i len sz n :: ms) K s = vIdxV P ms K s d len sz n (x.ev s.env) (i.ev s.env) := by
  show (match x.ev s.env, i.ev s.env with | .agg cs, .lit (.int _ j) => _ | _, _ => _) = _
  unfold vIdxV
  split
  · cases n with
    | none => rfl
    | some k => simp only [vPart, partK, erase_erase]; rfl
  · rfl

def vIdxStr (d : Nat) : AV → AV → Prop
  | .lit (.string t), .lit (.int _ j) => 0 ≤ j ∧ j < t.size ∧ vcs P ms K (s.set d (.lit (.int .u8 (t.data.toList.getD j.toNat 0).toNat)))
  | _, _ => False
theorem v_idxStr (d : Nat) (x i : MArg) : vcs P (.idxStr d x i :: ms) K s = vIdxStr P ms K s d (x.ev s.env) (i.ev s.env) := by unfold vIdxStr; rfl

def vLen (d : Nat) : AV → Prop
  | .slice _ xs _ => vcs P ms K (s.set d (.lit (.int .i64 xs.length)))
  | .mslice _ _ len _ _ => vcs P ms K (s.set d (.lit (.int .i64 len)))
  | .lit (.slice none 0 0) => vcs P ms K (s.set d (.lit (.int .i64 0)))
  | _ => False
theorem v_len (d : Nat) (x : MArg) : vcs P (.len d x :: ms) K s = vLen P ms K s d (x.ev s.env) := by unfold vLen; rfl

def vLenStr (d : Nat) : AV → Prop
  | .lit (.string t) => vcs P ms K (s.set d (.lit (.int .i64 t.size)))
  | _ => False
theorem v_lenStr (d : Nat) (x : MArg) : vcs P (.lenStr d x :: ms) K s = vLenStr P ms K s d (x.ev s.env) := by unfold vLenStr; rfl

def vCpyS (d : Nat) : AV → Prop
  | .lit (.string t) => vcs P ms K (s.set d (.lit (.string t)))
  | _ => False
theorem v_cpyS (d : Nat) (x : MArg) : vcs P (.cpyS d x :: ms) K s = vCpyS P ms K s d (x.ev s.env) := by unfold vCpyS; rfl

def vApp (d sz bytes : Nat) : AV → AV → Prop
  | .slice szx xs r, .slice szy ys _ => r ≠ 0 ∧ szx = sz ∧ (szy = sz ∨ ys = []) ∧ (xs.length + ys.length) * bytes ≤ 140737488355328 ∧ xs.length + ys.length ≤ 140737488355328 ∧
      vcs P ms K (((s.dem r).dem (d + 1)).set d (.slice sz (xs ++ ys) (d + 1)))
  | _, _ => False
theorem v_app (d : Nat) (x y : MArg) (sz bytes : Nat) : vcs P (.app d x y sz bytes :: ms) K s = vApp P ms K s d sz bytes (x.ev s.env) (y.ev s.env) := by unfold vApp; rfl

def vBin (d : Nat) (op : BinOp) (x y : AV) : Prop := binK op x y fun v => vcs P ms K (s.set d v)
theorem v_bin (d : Nat) (op : BinOp) (x y : MArg) : vcs P (.bin d op x y :: ms) K s = vBin P ms K s d op (x.ev s.env) (y.ev s.env) := rfl
section
variable (d : Nat) (k : IntKind) (a b : Int)
theorem bin_add : vBin P ms K s d .add (.lit (.int k a)) (.lit (.int k b)) = (inK k (a + b) ∧ vcs P ms K (s.set d (.lit (.int k (a + b))))) := by simp only [vBin, binK, binI, true_and]
theorem bin_sub : vBin P ms K s d .sub (.lit (.int k a)) (.lit (.int k b)) = (inK k (a - b) ∧ vcs P ms K (s.set d (.lit (.int k (a - b))))) := by simp only [vBin, binK, binI, true_and]
theorem bin_mul : vBin P ms K s d .mul (.lit (.int k a)) (.lit (.int k b)) = (inK k (a * b) ∧ vcs P ms K (s.set d (.lit (.int k (a * b))))) := by simp only [vBin, binK, binI, true_and]
theorem bin_quo : vBin P ms K s d .quo (.lit (.int k a)) (.lit (.int k b)) = (b ≠ 0 ∧ inK k (a.tdiv b) ∧ vcs P ms K (s.set d (.lit (.int k (a.tdiv b))))) := by simp only [vBin, binK, binI, true_and]
theorem bin_rem : vBin P ms K s d .rem (.lit (.int k a)) (.lit (.int k b)) = (b ≠ 0 ∧ vcs P ms K (s.set d (.lit (.int k (a.tmod b))))) := by simp only [vBin, binK, binI, true_and]
theorem bin_and : vBin P ms K s d .and (.lit (.int k a)) (.lit (.int k b)) = vcs P ms K (s.set d (.lit (.int k (bitI .and k a b)))) := by simp only [vBin, binK, binI, true_and]
theorem bin_or : vBin P ms K s d .or (.lit (.int k a)) (.lit (.int k b)) = vcs P ms K (s.set d (.lit (.int k (bitI .or k a b)))) := by simp only [vBin, binK, binI, true_and]
theorem bin_xor : vBin P ms K s d .xor (.lit (.int k a)) (.lit (.int k b)) = vcs P ms K (s.set d (.lit (.int k (bitI .xor k a b)))) := by simp only [vBin, binK, binI, true_and]
theorem bin_andNot : vBin P ms K s d .andNot (.lit (.int k a)) (.lit (.int k b)) = vcs P ms K (s.set d (.lit (.int k (bitI .andNot k a b)))) := by simp only [vBin, binK, binI, true_and]
theorem bin_shl (k' : IntKind) : vBin P ms K s d .shl (.lit (.int k a)) (.lit (.int k' b)) = (0 ≤ b ∧ vcs P ms K (s.set d (.lit (.int k (k.wrap (a * 2 ^ (min b.toNat k.bits))))))) := rfl
theorem bin_shr (k' : IntKind) : vBin P ms K s d .shr (.lit (.int k a)) (.lit (.int k' b)) = (0 ≤ b ∧ vcs P ms K (s.set d (.lit (.int k (a.fdiv (2 ^ (min b.toNat k.bits))))))) := rfl
theorem bin_eql : vBin P ms K s d .eql (.lit (.int k a)) (.lit (.int k b)) = vcs P ms K (s.set d (.lit (.bool (a == b)))) := by simp only [vBin, binK, binI, true_and]
theorem bin_neq : vBin P ms K s d .neq (.lit (.int k a)) (.lit (.int k b)) = vcs P ms K (s.set d (.lit (.bool (a != b)))) := by simp only [vBin, binK, binI, true_and]
theorem bin_lss : vBin P ms K s d .lss (.lit (.int k a)) (.lit (.int k b)) = vcs P ms K (s.set d (.lit (.bool (decide (a < b))))) := by simp only [vBin, binK, binI, true_and]
theorem bin_leq : vBin P ms K s d .leq (.lit (.int k a)) (.lit (.int k b)) = vcs P ms K (s.set d (.lit (.bool (decide (a ≤ b))))) := by simp only [vBin, binK, binI, true_and]
theorem bin_gtr : vBin P ms K s d .gtr (.lit (.int k a)) (.lit (.int k b)) = vcs P ms K (s.set d (.lit (.bool (decide (b < a))))) := by simp only [vBin, binK, binI, true_and, gt_iff_lt]
theorem bin_geq : vBin P ms K s d .geq (.lit (.int k a)) (.lit (.int k b)) = vcs P ms K (s.set d (.lit (.bool (decide (b ≤ a))))) := by simp only [vBin, binK, binI, true_and, ge_iff_le]
theorem bin_seql (p q : ByteArray) : vBin P ms K s d .eql (.lit (.string p)) (.lit (.string q)) = vcs P ms K (s.set d (.lit (.bool (p.toList == q.toList)))) := rfl
theorem bin_sneq (p q : ByteArray) : vBin P ms K s d .neq (.lit (.string p)) (.lit (.string q)) = vcs P ms K (s.set d (.lit (.bool (!(p.toList == q.toList))))) := rfl
end

def vBinB (d : Nat) (neg : Bool) : AV → AV → Prop
  | .lit (.bool a), .lit (.bool b) => vcs P ms K (s.set d (.lit (.bool (if neg then !(a == b) else a == b))))
  | _, _ => False
theorem v_binB (d : Nat) (neg : Bool) (x y : MArg) : vcs P (.binB d neg x y :: ms) K s = vBinB P ms K s d neg (x.ev s.env) (y.ev s.env) := by unfold vBinB; rfl

def vBinA (d : Nat) (neg : Bool) (n : List Bool) : AV → AV → Prop
  | .agg a, .agg b => a.length = n.length ∧ b.length = n.length ∧ ∃ q, eqCells n a b = some q ∧ vcs P ms K (s.set d (.lit (.bool (if neg then !q else q))))
  | _, _ => False
theorem v_binA (d : Nat) (neg : Bool) (n : List Bool) (x y : MArg) : vcs P (.binA d neg n x y :: ms) K s = vBinA P ms K s d neg n (x.ev s.env) (y.ev s.env) := by unfold vBinA; rfl

def vNot (d : Nat) : AV → Prop
  | .lit (.bool a) => vcs P ms K (s.set d (.lit (.bool (!a))))
  | _ => False
theorem v_not (d : Nat) (x : MArg) : vcs P (.not d x :: ms) K s = vNot P ms K s d (x.ev s.env) := by unfold vNot; rfl

def vNeg (d : Nat) : AV → Prop
  | .lit (.int k a) => inK k (0 - a) ∧ vcs P ms K (s.set d (.lit (.int k (0 - a))))
  | _ => False
theorem v_neg (d : Nat) (x : MArg) : vcs P (.neg d x :: ms) K s = vNeg P ms K s d (x.ev s.env) := by unfold vNeg; rfl

def vConv (d : Nat) (k : IntKind) : AV → Prop
  | .lit (.int _ a) => vcs P ms K (s.set d (.lit (.int k (k.wrap a))))
  | _ => False
theorem v_conv (d : Nat) (k : IntKind) (x : MArg) : vcs P (.conv d k x :: ms) K s = vConv P ms K s d k (x.ev s.env) := by unfold vConv; rfl

def vPick (d : Nat) (x y : AV) : AV → Prop
  | .lit (.bool b) => vcs P ms K (s.set d (if b then x else y))
  | _ => False
theorem v_pick (d : Nat) (c x y : MArg) : vcs P (.pick d c x y :: ms) K s = vPick P ms K s d (x.ev s.env) (y.ev s.env) (c.ev s.env) := by unfold vPick; rfl

def vExt (d i : Nat) : AV → Prop
  | .tuple vs => i < vs.length ∧ vcs P ms K (s.set d (vs.getD i .any).erase)
  | _ => False
theorem v_ext (d : Nat) (x : MArg) (i : Nat) : vcs P (.ext d x i :: ms) K s = vExt P ms K s d i (x.ev s.env) := by unfold vExt; rfl

def vMax (d : Nat) : AV → AV → Prop
  | .lit (.int k a), .lit (.int _ b) => vcs P ms K (s.set d (.lit (.int k (if b > a then b else a))))
  | _, _ => False
theorem v_max (d : Nat) (x y : MArg) : vcs P (.maxI d x y :: ms) K s = vMax P ms K s d (x.ev s.env) (y.ev s.env) := by unfold vMax; rfl

def vMin (d : Nat) : AV → AV → Prop
  | .lit (.int k a), .lit (.int _ b) => vcs P ms K (s.set d (.lit (.int k (if b < a then b else a))))
  | _, _ => False
theorem v_min (d : Nat) (x y : MArg) : vcs P (.minI d x y :: ms) K s = vMin P ms K s d (x.ev s.env) (y.ev s.env) := by unfold vMin; rfl

def vNil (d : Nat) : AV → Prop
  | .ref cs => vcs P ms K (s.set d (.ref cs))
  | .mref b o => vcs P ms K (s.set d (.mref b o))
  | _ => False
theorem v_nilchk (d : Nat) (x : MArg) : vcs P (.nilchk d x :: ms) K s = vNil P ms K s d (x.ev s.env) := by unfold vNil; rfl

def vHi (d sz : Nat) : AV → AV → Prop
  | .slice sz' xs _, .lit (.int _ n) => (sz' = sz ∨ xs = []) ∧ 0 ≤ n ∧ n ≤ xs.length ∧ vcs P ms K (s.set d (.slice sz (xs.take n.toNat) 0))
  | _, _ => False
theorem v_slcHi (d : Nat) (x h : MArg) (sz : Nat) : vcs P (.slcHi d x h sz :: ms) K s = vHi P ms K s d sz (x.ev s.env) (h.ev s.env) := by unfold vHi; rfl

def vLo (d sz : Nat) : AV → AV → Prop
  | .slice sz' xs _, .lit (.int _ n) => (sz' = sz ∨ xs = []) ∧ 0 ≤ n ∧ n ≤ xs.length ∧ vcs P ms K (s.set d (.slice sz (xs.drop n.toNat) 0))
  | _, _ => False
theorem v_slcLo (d : Nat) (x l : MArg) (sz : Nat) : vcs P (.slcLo d x l sz :: ms) K s = vLo P ms K s d sz (x.ev s.env) (l.ev s.env) := by unfold vLo; rfl

def vCall (d : Nat) (f : FuncId) (xs : List AV) : Prop := ∃ r, PCall P f xs r ∧ vcs P ms K (s.set d r.erase)
theorem v_call (d : Nat) (f : FuncId) (xs : List MArg) : vcs P (.call d f xs :: ms) K s = vCall P ms K s d f (xs.map fun x => (x.ev s.env).erase) := rfl
theorem vCall_of {P : Program} {ms : List MOp} {K : St → Prop} {s : St} {d : Nat} {f : FuncId} {xs : List AV} {r : AV} (h : PCall P f xs r) (hk : vcs P ms K (s.set d r.erase)) : vCall P ms K s d f xs := ⟨r, h, hk⟩

def vCallv (d : Nat) (xs : List AV) : AV → Prop
  | .func (.func f) first cap => vCall P ms K s d f (first ++ xs ++ cap)
  | _ => False
theorem v_callv (d : Nat) (x : MArg) (xs : List MArg) : vcs P (.callv d x xs :: ms) K s = vCallv P ms K s d (xs.map fun x => (x.ev s.env).erase) (x.ev s.env) := by
  show (match x.ev s.env with | .func (.func f) first cap => _ | _ => _) = _
  unfold vCallv vCall; rfl

def vGuard (want : Bool) (d : Option Nat) (m : MOp) : AV → Prop
  | .lit (.bool b) => (b = want → vcs P (m :: ms) K s) ∧ (b = (!want) → vcs P ms K (match d with | some d => s.set d (.tuple []) | none => s))
  | .tuple [] => vcs P ms K (match d with | some d => s.set d (.tuple []) | none => s)
  | _ => False
theorem v_guard (g : Nat) (want : Bool) (d : Option Nat) (m : MOp) : vcs P (.guard g want d m :: ms) K s = vGuard P ms K s want d m (s.env g) := by unfold vGuard; rfl
theorem guard_off (want : Bool) (d : Nat) (m : MOp) : vGuard P ms K s want (some d) m (.tuple []) = vcs P ms K (s.set d (.tuple [])) := rfl
theorem guard_tt (d : Option Nat) (m : MOp) : vGuard P ms K s true d m (.lit (.bool true)) = vcs P (m :: ms) K s := by simp [vGuard]
theorem guard_ff (d : Option Nat) (m : MOp) : vGuard P ms K s false d m (.lit (.bool false)) = vcs P (m :: ms) K s := by simp [vGuard]
theorem guard_tf (d : Nat) (m : MOp) : vGuard P ms K s true (some d) m (.lit (.bool false)) = vcs P ms K (s.set d (.tuple [])) := by simp [vGuard]
theorem guard_ft (d : Nat) (m : MOp) : vGuard P ms K s false (some d) m (.lit (.bool true)) = vcs P ms K (s.set d (.tuple [])) := by simp [vGuard]
end

section
variable (P : Program) (kn : St → Prop) (ke : Nat → St → Prop) (kr : St → Prop) (s : St)
theorem w_skip : mwp P .skip kn ke kr s = kn s := rfl
theorem w_reg (ms : List MOp) : mwp P (.reg ms) kn ke kr s = vcs P ms kn s := rfl
theorem w_seq (x y : MCode) : mwp P (.seq x y) kn ke kr s = mwp P x (mwp P y kn ke kr) ke kr s := rfl
theorem w_exit (i : Nat) : mwp P (.exit i) kn ke kr s = ke i s := rfl
theorem w_ret : mwp P .ret kn ke kr s = kr s := rfl
def blockE (kn : St → Prop) (ke : Nat → St → Prop) (id : Nat) : Nat → St → Prop := fun i s => if i = id then kn s else ke i s
theorem w_block (id : Nat) (c : MCode) : mwp P (.block id c) kn ke kr s = mwp P c kn (blockE kn ke id) kr s := rfl
theorem w_blockE (id i : Nat) : blockE kn ke id i s = if i = id then kn s else ke i s := rfl
def vCond (x y : MCode) : AV → Prop
  | .lit (.bool b) => (b = true → mwp P x kn ke kr s) ∧ (b = false → mwp P y kn ke kr s)
  | _ => False
theorem w_cond (t : MArg) (x y : MCode) : mwp P (.cond t x y) kn ke kr s = vCond P kn ke kr s x y (t.ev s.env) := by unfold vCond; rfl
theorem cond_t (x y : MCode) : vCond P kn ke kr s x y (.lit (.bool true)) = mwp P x kn ke kr s := by simp [vCond]
theorem cond_f (x y : MCode) : vCond P kn ke kr s x y (.lit (.bool false)) = mwp P y kn ke kr s := by simp [vCond]
end

theorem cond_dec {P : Program} {kn : St → Prop} {ke : Nat → St → Prop} {kr : St → Prop} {s : St} {x y : MCode} {p : Prop} [Decidable p]
    (h1 : p → mwp P x kn ke kr s) (h2 : ¬ p → mwp P y kn ke kr s) : vCond P kn ke kr s x y (.lit (.bool (decide p))) :=
  ⟨fun h => h1 (of_decide_eq_true h), fun h => h2 (of_decide_eq_false h)⟩
theorem cond_bool {P : Program} {kn : St → Prop} {ke : Nat → St → Prop} {kr : St → Prop} {s : St} {x y : MCode} {b : Bool}
    (h1 : b = true → mwp P x kn ke kr s) (h2 : b = false → mwp P y kn ke kr s) : vCond P kn ke kr s x y (.lit (.bool b)) := ⟨h1, h2⟩

def RoundOK (n : Nat) (I : Nat → St → Prop) (k : Nat) (s : St) : Prop := ∃ m s1, m < n - k ∧ Ent s s1 ∧ ∃ k', k' ≤ n ∧ m = n - k' ∧ I k' s1
theorem round_ok {n : Nat} {I : Nat → St → Prop} {k : Nat} {s : St} (h : k < n) (hI : I (k + 1) s) : RoundOK n I k s := ⟨n - (k + 1), s, by omega, .refl s, k + 1, h, rfl, hI⟩
theorem loop_up {P : Program} {c : MCode} {kn : St → Prop} {ke : Nat → St → Prop} {kr : St → Prop} {s : St} (n : Nat) (I : Nat → St → Prop)
    (h0 : I 0 s) (hr : ∀ k s, k ≤ n → I k s → mwp P c (RoundOK n I k) ke kr s) : mwp P (.loop c) kn ke kr s := by
  refine ⟨fun m s => ∃ k, k ≤ n ∧ m = n - k ∧ I k s, ⟨n, s, .refl s, 0, Nat.zero_le _, rfl, h0⟩, ?_⟩
  rintro m s ⟨k, hk, rfl, hI⟩
  exact hr k s hk hI

attribute [simp] env_set loc_set env_new loc_new env_dem loc_dem env_frz loc_frz ev_t ev_c env_mk loc_mk erase_lit erase_slice erase_agg erase_ref erase_mref erase_func erase_tuple erase_any erase0_lit erase0_slice erase0_ref erase0_mref erase0_func dem_lit dem_slice dem_ref dem_mref dem_agg dem_any dem_func dem_tuple cells_lit cells_slice cells_agg cells_ref cells_mref cells_func splice_nil splice_cons v_nil v_cpy v_asg asg_lit asg_agg asg_ref asg_func asg_sl0 asg_sl v_asgNil v_boxI v_lenK v_mkfn v_load v_store v_storeF v_addr v_idxS v_idxA v_fld v_idxV v_idxStr v_len v_lenStr v_cpyS v_app v_bin bin_add bin_sub bin_mul bin_quo bin_rem bin_and bin_or bin_xor bin_andNot bin_shl bin_shr bin_eql bin_neq bin_lss bin_leq bin_gtr bin_geq bin_seql bin_sneq v_binB v_binA v_not v_neg v_conv v_pick v_ext v_max v_min v_nilchk v_slcHi v_slcLo v_call v_callv v_guard guard_tt guard_ff guard_off guard_tf guard_ft w_skip w_reg w_seq w_exit w_ret w_block w_blockE w_cond cond_t cond_f vLoad vLoadL vPart vStoreL vStore vStoreF bOf vAddr vIdxS vIdxA vFld vIdxV vIdxStr vLen vLenStr vCpyS vApp vBinB vBinA vNot vNeg vConv vExt vMax vMin vNil vHi vLo vCallv resK resOf AV.cell1 fillK fillS eqCells init_at

theorem pick_t (P : Program) (ms : List MOp) (K : St → Prop) (s : St) (d : Nat) (x y : AV) : vPick P ms K s d x y (.lit (.bool true)) = vcs P ms K (s.set d x) := rfl
theorem pick_f (P : Program) (ms : List MOp) (K : St → Prop) (s : St) (d : Nat) (x y : AV) : vPick P ms K s d x y (.lit (.bool false)) = vcs P ms K (s.set d y) := rfl
attribute [simp] pick_t pick_f
theorem i64 {n : Int} (h1 : -9223372036854775808 ≤ n) (h2 : n ≤ 9223372036854775807) : inK .i64 n := ⟨h1, h2⟩

theorem v_build (P : Program) (ms : List MOp) (K : St → Prop) (s : St) (d : Nat) (z : List AV) (ps : List (Nat × Nat × MArg)) : vcs P (.build d z ps :: ms) K s = fillK s.env z ps (fun cs => vcs P ms K (s.set d (.agg cs))) := rfl
theorem v_mkS (P : Program) (ms : List MOp) (K : St → Prop) (s : St) (d n sz : Nat) (z : List AV) (ps : List (Nat × MArg)) : vcs P (.mkS d n sz z ps :: ms) K s =
    fillS s.env sz (List.replicate n (if sz = 1 then z.getD 0 .any else .agg z)) ps (fun xs => vcs P ms K ((s.dem (d + 1)).set d (.slice sz xs (d + 1)))) := rfl
theorem v_boxM (P : Program) (ms : List MOp) (K : St → Prop) (s : St) (d n : Nat) (x : MArg) : vcs P (.boxM d x n :: ms) K s =
    ((x.ev s.env).cells.length = n ∧ ∀ b, s.loc b = none → vcs P ms K ((s.new b ((x.ev s.env).cells.map AV.erase0)).set d (.mref b 0))) := rfl
theorem v_alloc (P : Program) (ms : List MOp) (K : St → Prop) (s : St) (d : Nat) (z : List AV) : vcs P (.alloc d z :: ms) K s =
    (∀ b, s.loc b = none → vcs P ms K ((s.new b z).set d (.mref b 0))) := rfl
theorem v_cpyE (P : Program) (ms : List MOp) (K : St → Prop) (s : St) (d : Nat) (x : MArg) : vcs P (.cpyE d x :: ms) K s = vcs P ms K (s.set d (x.ev s.env).erase) := rfl
theorem v_apart (P : Program) (ms : List MOp) (K : St → Prop) (s : St) (zs : List MArg) (x : MArg) (m : MOp) : vcs P (.apart zs x m :: ms) K s = ((∀ z ∈ zs, apartAV (z.ev s.env) (x.ev s.env)) ∧ vcs P (m :: ms) K s) := rfl
attribute [simp] v_build v_mkS v_boxM v_alloc v_cpyE v_apart apartAV

def vYld (P : Program) (ms : List MOp) (K : St → Prop) (s : St) (d : Nat) (xs : List AV) : AV → AV → Prop
  | .func (.yield l) [] [], .ghost l' (y :: rest) false => l = l' ∧ xs = y ∧ vcs P ms K ((s.set gS (.ghost l rest false)).set d (.lit (.bool true))) ∧ vcs P ms K ((s.set gS (.ghost l rest true)).set d (.lit (.bool false)))
  | _, _ => False
theorem v_yld (P : Program) (ms : List MOp) (K : St → Prop) (s : St) (d : Nat) (x : MArg) (xs : List MArg) : vcs P (.yld d x xs :: ms) K s = vYld P ms K s d (xs.map fun x => (x.ev s.env).erase) (x.ev s.env) (s.env gS) := by
  show (match x.ev s.env, s.env gS with | .func (.yield l) [] [], .ghost l' (y :: rest) false => _ | _, _ => False) = _
  unfold vYld; rfl
theorem yld_at {P : Program} {ms : List MOp} {K : St → Prop} {s : St} {d l : Nat} {xs y : List AV} {rest : List (List AV)} : vYld P ms K s d xs (.func (.yield l) [] []) (.ghost l (y :: rest) false) =
    (xs = y ∧ vcs P ms K ((s.set gS (.ghost l rest false)).set d (.lit (.bool true))) ∧ vcs P ms K ((s.set gS (.ghost l rest true)).set d (.lit (.bool false)))) := by simp [vYld]
theorem erase_ghost (l : Nat) (r : List (List AV)) (b : Bool) : (AV.ghost l r b).erase = .ghost l r b := rfl
theorem dem_ghost (q l : Nat) (r : List (List AV)) (b : Bool) : demote q (AV.ghost l r b) = .ghost l r b := rfl

def vRange (P : Program) (ps : List Nat) (a b : MCode) (kn : St → Prop) (ke : Nat → St → Prop) (kr : St → Prop) (s : St) : AV → Prop
  | .func (.func f) first cap => MRange P f first cap ps.length s (fun I k y st =>
        mwp P a (mwp P b (fun s2 => I (k + 1) (back s s2)) (fun i s2 => ke i (back s s2)) (fun s2 => kr (back s s2))) (fun _ _ => False) (fun _ => False) (params st ps y)) kn
  | _ => False
theorem w_range (P : Program) (kn : St → Prop) (ke : Nat → St → Prop) (kr : St → Prop) (s : St) (x : MArg) (ps : List Nat) (a b : MCode) : mwp P (.rangeF x ps a b) kn ke kr s = vRange P ps a b kn ke kr s (x.ev s.env) := by unfold vRange; rfl
theorem env_back (s s2 : St) (k : Nat) : (back s s2).env k = if gS ≤ k then s2.env k else (s.env k).erase := rfl
theorem loc_back (s s2 : St) : (back s s2).loc = s2.loc := rfl
theorem params_cons (s : St) (p : Nat) (ps : List Nat) (x : AV) (xs : List AV) : params s (p :: ps) (x :: xs) = params (s.set p x.erase) ps xs := rfl
theorem params_nil (s : St) (xs : List AV) : params s [] xs = s := rfl

@[simp] theorem noMark_agg (cs : List AV) : noMark [.agg cs] = true := rfl
@[simp] theorem noMark_str (s : ByteArray) : noMark [.lit (.string s)] = true := rfl
@[simp] theorem noMark_int (k : IntKind) (n : Int) : noMark [.lit (.int k n)] = true := rfl

theorem range_of {P : Program} {ps : List Nat} {a b : MCode} {kn : St → Prop} {ke : Nat → St → Prop} {kr : St → Prop} {s : St} {f : FuncId} {first cap : List AV} (xs : List (List AV)) (I : Nat → St → Prop) (h : PSeq P f first cap xs)
    (hl : ∀ y ∈ xs, y.length = ps.length ∧ noMark y = true) (h0 : I 0 (back s s))
    (hr : ∀ k st, k < xs.length → st = back s st → I k st → mwp P a (mwp P b (fun s2 => I (k + 1) (back s s2)) (fun i s2 => ke i (back s s2)) (fun s2 => kr (back s s2))) (fun _ _ => False) (fun _ => False) (params st ps (xs.getD k [])))
    (he : ∀ st, st = back s st → I xs.length st → kn st) : vRange P ps a b kn ke kr s (.func (.func f) first cap) := ⟨xs, h, hl, I, h0, hr, he⟩

theorem v_icall (P : Program) (ms : List MOp) (K : St → Prop) (s : St) (d : Nat) (f : FuncId) (xs : List MArg) : vcs P (.icall d f xs :: ms) K s = ICall P f (xs.map fun x => (x.ev s.env).erase) s (fun r s' => vcs P ms K (s'.set d r)) := rfl
def vIcallv (P : Program) (ms : List MOp) (K : St → Prop) (s : St) (d : Nat) (xs : List AV) : AV → Prop
  | .func (.func f) first cap => ICall P f (first ++ xs ++ cap) s (fun r s' => vcs P ms K (s'.set d r))
  | _ => False
theorem v_icallv (P : Program) (ms : List MOp) (K : St → Prop) (s : St) (d : Nat) (x : MArg) (xs : List MArg) : vcs P (.icallv d x xs :: ms) K s = vIcallv P ms K s d (xs.map fun x => (x.ev s.env).erase) (x.ev s.env) := by unfold vIcallv; rfl
def vYldL (P : Program) (ms : List MOp) (K : St → Prop) (s : St) (d pos : Nat) (y : AV) : AV → AV → Prop
  | .func (.yield l) [] [], .ghost l' (z :: rest) false => l = l' ∧ ∃ z0 b sz len cap cs, z = [z0, mark pos] ∧ y = putAt z0 pos (.mslice b 0 len cap sz) ∧ s.loc b = some cs ∧ LentOK z0 pos sz len cap cs ∧
        vcs P ms K ((s.set gS (.ghost l rest false)).set d (.lit (.bool true))) ∧ vcs P ms K ((s.set gS (.ghost l rest true)).set d (.lit (.bool false)))
  | _, _ => False
theorem v_yldL (P : Program) (ms : List MOp) (K : St → Prop) (s : St) (d pos : Nat) (x y : MArg) : vcs P (.yldL d x pos y :: ms) K s = vYldL P ms K s d pos (y.ev s.env).erase (x.ev s.env) (s.env gS) := by unfold vYldL; rfl
def vRangeL (P : Program) (pos : Nat) (ps : List Nat) (a b : MCode) (kn : St → Prop) (ke : Nat → St → Prop) (kr : St → Prop) (s : St) : AV → Prop
  | .func (.func f) first cap => MRangeL P f first cap pos s (fun I k y st => ∀ g sz len cap cs, st.loc g = none → LentOK y pos sz len cap cs →
        mwp P a (mwp P b (fun s2 => s2.loc g = some cs ∧ I (k + 1) (back s (s2.del g))) (fun i s2 => s2.loc g = some cs ∧ ke i (back s (s2.del g))) (fun s2 => s2.loc g = some cs ∧ kr (back s (s2.del g)))) (fun _ _ => False) (fun _ => False)
          (params (st.new g cs) ps [putAt y pos (.mslice g 0 len cap sz)])) kn
  | _ => False
theorem w_rangeL (P : Program) (kn : St → Prop) (ke : Nat → St → Prop) (kr : St → Prop) (s : St) (x : MArg) (pos : Nat) (ps : List Nat) (a b : MCode) : mwp P (.rangeL x pos ps a b) kn ke kr s = vRangeL P pos ps a b kn ke kr s (x.ev s.env) := by unfold vRangeL; rfl
theorem env_del (s : St) (b k : Nat) : (s.del b).env k = s.env k := rfl
theorem loc_del (s : St) (b c : Nat) : (s.del b).loc c = if c = b then none else s.loc c := rfl

theorem rangeL_of {P : Program} {pos : Nat} {ps : List Nat} {a b : MCode} {kn : St → Prop} {ke : Nat → St → Prop} {kr : St → Prop} {s : St} {f : FuncId} {first cap : List AV} (xs : List AV) (I : Nat → St → Prop) (h : PSeq P f first cap (xs.map fun x => [x, mark pos])) (h0 : I 0 (back s s))
    (hr : ∀ k st, k < xs.length → st = back s st → I k st → ∀ g sz len cap cs, st.loc g = none → LentOK (xs.getD k .any) pos sz len cap cs →
      mwp P a (mwp P b (fun s2 => s2.loc g = some cs ∧ I (k + 1) (back s (s2.del g))) (fun i s2 => s2.loc g = some cs ∧ ke i (back s (s2.del g))) (fun s2 => s2.loc g = some cs ∧ kr (back s (s2.del g)))) (fun _ _ => False) (fun _ => False)
        (params (st.new g cs) ps [putAt (xs.getD k .any) pos (.mslice g 0 len cap sz)]))
    (he : ∀ st, st = back s st → I xs.length st → kn st) : vRangeL P pos ps a b kn ke kr s (.func (.func f) first cap) := ⟨xs, h, I, h0, hr, he⟩

attribute [simp] v_icall v_icallv vIcallv v_yldL vYldL w_rangeL env_del loc_del
attribute [simp] v_yld yld_at erase_ghost dem_ghost w_range env_back loc_back params_cons params_nil gS oS

def vMkM (P : Program) (ms : List MOp) (K : St → Prop) (s : St) (d sz bytes : Nat) (zero : List AV) : AV → AV → Prop
  | .lit (.int .i64 n), .lit (.int .i64 c) => 0 ≤ n ∧ n ≤ c ∧ c * (bytes : Int) ≤ 140737488355328 ∧ c ≤ 140737488355328 ∧ c * (sz : Int) ≤ 140737488355328 ∧
      ∀ b, s.loc b = none → vcs P ms K ((s.new b (List.replicate c.toNat zero).flatten).set d (.mslice b 0 n.toNat c.toNat sz))
  | _, _ => False
theorem v_mkM (P : Program) (ms : List MOp) (K : St → Prop) (s : St) (d : Nat) (n c : MArg) (sz bytes : Nat) (zero : List AV) : vcs P (.mkM d n c sz bytes zero :: ms) K s = vMkM P ms K s d sz bytes zero (n.ev s.env) (c.ev s.env) := by unfold vMkM; rfl
def vCpyMML (P : Program) (ms : List MOp) (K : St → Prop) (s : St) (d sz b off len off2 len2 : Nat) : Option (List AV) → Option (List AV) → Prop
  | some cs, some cs2 => off + len * sz ≤ cs.length ∧ off2 + len2 * sz ≤ cs2.length ∧ cs2.all AV.cell1 = true ∧
      vcs P ms K ((s.new b (splice cs off (((cs2.drop off2).take (min len2 len * sz)).map AV.erase0))).set d (.lit (.int .i64 (min len2 len : Nat))))
  | _, _ => False
def vCpyMM (P : Program) (ms : List MOp) (K : St → Prop) (s : St) (d sz : Nat) : AV → AV → Prop
  | .mslice b off len _ sz', .mslice b2 off2 len2 _ sz2 => sz' = sz ∧ sz2 = sz ∧ vCpyMML P ms K s d sz b off len off2 len2 (s.loc b) (s.loc b2)
  | _, _ => False
theorem v_cpyMM (P : Program) (ms : List MOp) (K : St → Prop) (s : St) (d : Nat) (x y : MArg) (sz : Nat) : vcs P (.cpyMM d x y sz :: ms) K s = vCpyMM P ms K s d sz (x.ev s.env) (y.ev s.env) := by
  unfold vCpyMM
  show vc1 P (.cpyMM d x y sz) s (vcs P ms K) = _
  simp only [vc1]
  split
  · rename_i b off len c1 sz' b2 off2 len2 c2 sz2 e1 e2
    simp only [e1, e2]
    cases s.loc b with
    | none => simp [vCpyMML]
    | some cs => cases s.loc b2 with
      | none => simp [vCpyMML]
      | some cs2 => simp [vCpyMML]
  · rename_i hno
    split
    · rename_i e1 e2
      exact absurd e2 (hno _ _ _ _ _ _ _ _ _ _ e1)
    · rfl
attribute [simp] v_cpyMM vCpyMM vCpyMML
theorem callL_of {P : Program} {ms : List MOp} {K : St → Prop} {s : St} {d : Nat} {f : FuncId} {xs : List MArg} {ys : List AV} {u : Value} (hv : viewsAV s.loc (xs.map fun x => (x.ev s.env).erase) = some ys) (hu : flat u = true) (h : PCall P f ys (.lit u)) (hk : vcs P ms K (s.set d (.lit u))) : vcs P (.callL d f xs :: ms) K s := ⟨ys, u, hv, hu, h, hk⟩
def vCallvL (P : Program) (ms : List MOp) (K : St → Prop) (s : St) (d : Nat) (xs : List AV) : AV → Prop
  | .func (.func f) first cap => ∃ ys u, viewsAV s.loc (first ++ xs ++ cap) = some ys ∧ flat u = true ∧ PCall P f ys (.lit u) ∧ vcs P ms K (s.set d (.lit u))
  | _ => False
theorem v_callvL (P : Program) (ms : List MOp) (K : St → Prop) (s : St) (d : Nat) (x : MArg) (xs : List MArg) : vcs P (.callvL d x xs :: ms) K s = vCallvL P ms K s d (xs.map fun x => (x.ev s.env).erase) (x.ev s.env) := by
  show (match x.ev s.env with | .func (.func f) first cap => _ | _ => _) = _
  unfold vCallvL; rfl
attribute [simp] v_callvL
theorem vCallvL_of {P : Program} {ms : List MOp} {K : St → Prop} {s : St} {d : Nat} {f : FuncId} {first xs cap ys : List AV} {u : Value} (hv : viewsAV s.loc (first ++ xs ++ cap) = some ys) (hu : flat u = true) (h : PCall P f ys (.lit u)) (hk : vcs P ms K (s.set d (.lit u))) :
    vCallvL P ms K s d xs (.func (.func f) first cap) := ⟨ys, u, hv, hu, h, hk⟩
def vSlcZ (P : Program) (ms : List MOp) (K : St → Prop) (s : St) (d sz : Nat) : AV → AV → AV → Prop
  | .slice _ _ _, .lit (.int _ 0), .lit (.int _ 0) => vcs P ms K ((s.dem (d + 1)).set d (.slice sz [] (d + 1)))
  | _, _, _ => False
theorem v_slcZ (P : Program) (ms : List MOp) (K : St → Prop) (s : St) (d : Nat) (x hi mx : MArg) (sz : Nat) : vcs P (.slcZ d x hi mx sz :: ms) K s = vSlcZ P ms K s d sz (x.ev s.env) (hi.ev s.env) (mx.ev s.env) := by unfold vSlcZ; rfl
attribute [simp] v_slcZ vSlcZ
def vSlcZM (P : Program) (ms : List MOp) (K : St → Prop) (s : St) (d sz : Nat) : AV → AV → AV → Prop
  | .slice _ xs _, .lit (.int _ 0), .lit (.int _ 0) => (xs = [] → vcs P ms K (s.set d (.lit (.slice none 0 0)))) ∧ ∀ b off, vcs P ms K (s.set d (.mslice b off 0 0 sz))
  | _, _, _ => False
theorem v_slcZM (P : Program) (ms : List MOp) (K : St → Prop) (s : St) (d : Nat) (x hi mx : MArg) (sz : Nat) : vcs P (.slcZM d x hi mx sz :: ms) K s = vSlcZM P ms K s d sz (x.ev s.env) (hi.ev s.env) (mx.ev s.env) := by unfold vSlcZM; rfl
attribute [simp] v_slcZM vSlcZM
def vAppRL (P : Program) (ms : List MOp) (K : St → Prop) (s : St) (d sz b off len cap : Nat) (ys : List AV) : Option (List AV) → Prop
  | some cs => ys ≠ [] ∧ len + ys.length ≤ cap ∧ off + (len + ys.length) * sz ≤ cs.length ∧
      vcs P ms K ((s.new b (splice cs (off + len * sz) ((ys.flatMap AV.cells).map AV.erase0))).set d (.mslice b off (len + ys.length) cap sz))
  | none => False
def vAppR (P : Program) (ms : List MOp) (K : St → Prop) (s : St) (d sz : Nat) : AV → AV → Prop
  | .mslice b off len cap sz', .slice sz2 ys _ => sz' = sz ∧ sz2 = sz ∧ vAppRL P ms K s d sz b off len cap ys (s.loc b)
  | _, _ => False
theorem v_appR (P : Program) (ms : List MOp) (K : St → Prop) (s : St) (d : Nat) (x y : MArg) (sz : Nat) : vcs P (.appR d x y sz :: ms) K s = vAppR P ms K s d sz (x.ev s.env) (y.ev s.env) := by
  unfold vAppR
  show vc1 P (.appR d x y sz) s (vcs P ms K) = _
  simp only [vc1]
  split
  · rename_i b off len cap sz' sz2 ys r e1 e2
    simp only [e1, e2]
    cases s.loc b with
    | none => simp [vAppRL]
    | some cs => simp [vAppRL]
  · rename_i hno
    split
    · rename_i e1 e2
      exact absurd e2 (hno _ _ _ _ _ _ _ _ e1)
    · rfl
def vSlcM (P : Program) (ms : List MOp) (K : St → Prop) (s : St) (d sz : Nat) : AV → AV → Prop
  | .mslice b off _ cap sz', .lit (.int _ n) => sz' = sz ∧ 0 ≤ n ∧ n ≤ cap ∧ vcs P ms K (s.set d (.mslice b off n.toNat cap sz))
  | _, _ => False
theorem v_slcM (P : Program) (ms : List MOp) (K : St → Prop) (s : St) (d : Nat) (x hi : MArg) (sz : Nat) : vcs P (.slcM d x hi sz :: ms) K s = vSlcM P ms K s d sz (x.ev s.env) (hi.ev s.env) := by unfold vSlcM; rfl
attribute [simp] v_appR vAppR vAppRL v_slcM vSlcM
def vAppML (P : Program) (ms : List MOp) (K : St → Prop) (s : St) (d b off len cap sz : Nat) (ys : List AV) (zero : List AV) : Option (List AV) → Prop
  | some cs => off + cap * sz ≤ cs.length ∧
    (len + ys.length ≤ cap → vcs P ms K ((s.new b (splice cs (off + len * sz) ((ys.flatMap AV.cells).map AV.erase0))).set d (.mslice b off (len + ys.length) cap sz))) ∧
    (cap < len + ys.length → ∀ b' r, s.loc b' = none → vcs P ms K ((s.new b' (((cs.drop off).take (len * sz)).map AV.erase0 ++ ((ys.flatMap AV.cells).map AV.erase0 ++ (List.replicate r zero).flatten))).set d (.mslice b' 0 (len + ys.length) (len + ys.length + r) sz)))
  | none => False
def vAppM (P : Program) (ms : List MOp) (K : St → Prop) (s : St) (d sz bytes : Nat) (zero : List AV) : AV → AV → Prop
  | .mslice b off len cap sz', .slice sz2 ys _ => sz' = sz ∧ sz2 = sz ∧ ys ≠ [] ∧ (len + ys.length) * bytes ≤ 140737488355328 ∧ len + ys.length ≤ 140737488355328 ∧
      if cap = 0 then ∀ b r, s.loc b = none → vcs P ms K ((s.new b ((ys.flatMap AV.cells).map AV.erase0 ++ (List.replicate r zero).flatten)).set d (.mslice b 0 ys.length (ys.length + r) sz))
      else vAppML P ms K s d b off len cap sz ys zero (s.loc b)
  | .lit (.slice none 0 0), .slice sz2 ys _ => sz2 = sz ∧ ys ≠ [] ∧ ys.length * bytes ≤ 140737488355328 ∧ ys.length ≤ 140737488355328 ∧
      ∀ b r, s.loc b = none → vcs P ms K ((s.new b ((ys.flatMap AV.cells).map AV.erase0 ++ (List.replicate r zero).flatten)).set d (.mslice b 0 ys.length (ys.length + r) sz))
  | _, _ => False
theorem v_appM (P : Program) (ms : List MOp) (K : St → Prop) (s : St) (d : Nat) (x y : MArg) (sz bytes : Nat) (zero : List AV) : vcs P (.appM d x y sz bytes zero :: ms) K s = vAppM P ms K s d sz bytes zero (x.ev s.env) (y.ev s.env) := by unfold vAppM vAppML; rfl
def vCpyL (P : Program) (ms : List MOp) (K : St → Prop) (s : St) (d b off len sz' sz2 sz : Nat) (ys : List AV) : Option (List AV) → Prop
  | some cs => sz' = sz ∧ (sz2 = sz ∨ ys = []) ∧ off + len * sz ≤ cs.length ∧
      vcs P ms K ((s.new b (splice cs off (((ys.take (min ys.length len)).flatMap AV.cells).map AV.erase0))).set d (.lit (.int .i64 (min ys.length len : Nat))))
  | none => False
def vCpyM (P : Program) (ms : List MOp) (K : St → Prop) (s : St) (d sz : Nat) : AV → AV → Prop
  | .mslice b off len _ sz', .slice sz2 ys _ => vCpyL P ms K s d b off len sz' sz2 sz ys (s.loc b)
  | _, _ => False
theorem v_cpyM (P : Program) (ms : List MOp) (K : St → Prop) (s : St) (d : Nat) (x y : MArg) (sz : Nat) : vcs P (.cpyM d x y sz :: ms) K s = vCpyM P ms K s d sz (x.ev s.env) (y.ev s.env) := by unfold vCpyM vCpyL; rfl
def vRngS (P : Program) (ms : List MOp) (K : St → Prop) (s : St) (d : Nat) : AV → Prop
  | .lit (.string t) => ∀ b, s.loc b = none → s.env (oS + b) = .any → vcs P ms K ((s.set (oS + b) (itAV t 0)).set d (.mref b 0))
  | _ => False
theorem v_rngS (P : Program) (ms : List MOp) (K : St → Prop) (s : St) (d : Nat) (x : MArg) : vcs P (.rngS d x :: ms) K s = vRngS P ms K s d (x.ev s.env) := by unfold vRngS; rfl
def vNxtS (P : Program) (ms : List MOp) (K : St → Prop) (s : St) (d : Nat) : AV → Prop
  | .mref b 0 => ∃ t pos, s.env (oS + b) = itAV t pos ∧
        (pos < t.size → vcs P ms K ((s.set (oS + b) (itAV t (pos + (Utf8.decode t pos).2))).set d (.tuple [.lit (.bool true), .lit (.int .i64 pos), .lit (.int .i32 (Utf8.decode t pos).1)]))) ∧
        (¬ pos < t.size → vcs P ms K (s.set d (.tuple [.lit (.bool false)])))
  | _ => False
theorem v_nxtS (P : Program) (ms : List MOp) (K : St → Prop) (s : St) (d : Nat) (x : MArg) : vcs P (.nxtS d x :: ms) K s = vNxtS P ms K s d (x.ev s.env) := by unfold vNxtS; rfl
def vRngM (P : Program) (ms : List MOp) (K : St → Prop) (s : St) (d : Nat) : AV → Prop
  | .mapr b => ∃ es, s.env (oS + b) = mapAV es ∧ ∀ r, s.loc r = none → s.env (oS + r) = .any → vcs P ms K ((s.set (oS + r) (mitAV b es.length [])).set d (.mref r 0))
  | _ => False
theorem v_rngM (P : Program) (ms : List MOp) (K : St → Prop) (s : St) (d : Nat) (x : MArg) : vcs P (.rngM d x :: ms) K s = vRngM P ms K s d (x.ev s.env) := by unfold vRngM; rfl
def vNxtM (P : Program) (ms : List MOp) (K : St → Prop) (s : St) (d : Nat) : AV → Prop
  | .mref r 0 => ∃ b seen es, s.env (oS + r) = mitAV b es.length seen ∧ s.env (oS + b) = mapAV es ∧
        (∀ i, i < es.length → i ∉ seen → vcs P ms K ((s.set (oS + r) (mitAV b es.length (seen ++ [i]))).set d (.tuple [.lit (.bool true), ((es.getD i []).getD 0 .any).erase, ((es.getD i []).getD 1 .any).erase]))) ∧
        ((∀ i, i < es.length → i ∈ seen) → vcs P ms K (s.set d (.tuple [.lit (.bool false)])))
  | _ => False
theorem v_nxtM (P : Program) (ms : List MOp) (K : St → Prop) (s : St) (d : Nat) (x : MArg) : vcs P (.nxtM d x :: ms) K s = vNxtM P ms K s d (x.ev s.env) := by unfold vNxtM; rfl
attribute [simp] v_rngM vRngM v_nxtM vNxtM
theorem v_mkMap (P : Program) (ms : List MOp) (K : St → Prop) (s : St) (d : Nat) : vcs P (.mkMap d :: ms) K s = (∀ b, s.loc b = none → s.env (oS + b) = .any → vcs P ms K ((s.set (oS + b) (mapAV [])).set d (.mapr b))) := rfl
def vFrzL (P : Program) (ms : List MOp) (K : St → Prop) (s : St) (k b len sz : Nat) : Option (List AV) → Prop
  | some cs => len * sz ≤ cs.length ∧ cs.all AV.cell1 = true ∧ len ≤ 140737488355328 ∧ vcs P ms K ⟨upd s.env k (.slice sz (chunk sz cs len) 0), upd s.loc b none⟩
  | none => False
def vFrzN (P : Program) (ms : List MOp) (K : St → Prop) (s : St) (k b : Nat) : Option (List AV) → Prop
  | some cs => (∃ sz off, cs[off]? = some (.lit (.slice none 0 0)) ∧ vcs P ms K ((s.dem ((k + 1) * 1000 + off)).new b ((cs.map (demote ((k + 1) * 1000 + off))).set off (.slice sz [] ((k + 1) * 1000 + off))))) ∨
      (∃ off b2 len cap sz cs2, cs[off]? = some (.mslice b2 0 len cap sz) ∧ b2 ≠ b ∧ s.loc b2 = some cs2 ∧ len * sz ≤ cs2.length ∧ cs2.all AV.cell1 = true ∧ len ≤ 140737488355328 ∧ vcs P ms K ⟨s.env, upd (upd s.loc b (some (cs.set off (.slice sz (chunk sz cs2 len) 0)))) b2 none⟩) ∨
      (∃ off b2 es, cs[off]? = some (.mapr b2) ∧ s.env (oS + b2) = mapAV es ∧ vcs P ms K ⟨upd s.env (oS + b2) .any, upd s.loc b (some (cs.set off (.fmap es)))⟩) ∨
      vcs P ms K ⟨upd s.env k (.ref (cs.map AV.erase0)), upd s.loc b none⟩
  | none => False
def vFrz (P : Program) (ms : List MOp) (K : St → Prop) (s : St) (k : Nat) : AV → Prop
  | .mslice b 0 len _ sz => vFrzL P ms K s k b len sz (s.loc b)
  | .mref b 0 => vFrzN P ms K s k b (s.loc b)
  | .lit (.slice none 0 0) => ∃ sz, vcs P ms K ⟨upd s.env k (.slice sz [] 0), s.loc⟩
  | _ => False
theorem v_frz (P : Program) (ms : List MOp) (K : St → Prop) (s : St) (k : Nat) : vcs P (.frz k :: ms) K s = vFrz P ms K s k (s.env k) := by unfold vFrz vFrzL vFrzN; rfl
theorem frz_box {P : Program} {ms : List MOp} {K : St → Prop} {s : St} {k b : Nat} {cs : List AV} (off b2 len cap sz : Nat) {cs2 : List AV} (h0 : cs[off]? = some (.mslice b2 0 len cap sz)) (h1 : b2 ≠ b) (h2 : s.loc b2 = some cs2) (h3 : len * sz ≤ cs2.length) (h4 : cs2.all AV.cell1 = true) (h5 : len ≤ 140737488355328)
    (hk : vcs P ms K ⟨s.env, upd (upd s.loc b (some (cs.set off (.slice sz (chunk sz cs2 len) 0)))) b2 none⟩) : vFrzN P ms K s k b (some cs) := .inr (.inl ⟨off, b2, len, cap, sz, cs2, h0, h1, h2, h3, h4, h5, hk⟩)
theorem frz_map {P : Program} {ms : List MOp} {K : St → Prop} {s : St} {k b : Nat} {cs : List AV} (off b2 : Nat) (es : List (List AV)) (h0 : cs[off]? = some (.mapr b2)) (h1 : s.env (oS + b2) = mapAV es)
    (hk : vcs P ms K ⟨upd s.env (oS + b2) .any, upd s.loc b (some (cs.set off (.fmap es)))⟩) : vFrzN P ms K s k b (some cs) := .inr (.inr (.inl ⟨off, b2, es, h0, h1, hk⟩))
theorem frz_all {P : Program} {ms : List MOp} {K : St → Prop} {s : St} {k b : Nat} {cs : List AV} (hk : vcs P ms K ⟨upd s.env k (.ref (cs.map AV.erase0)), upd s.loc b none⟩) : vFrzN P ms K s k b (some cs) := .inr (.inr (.inr hk))
attribute [simp] v_appM vAppM vAppML v_mkM vMkM v_cpyM vCpyM vCpyL v_rngS vRngS v_nxtS vNxtS v_mkMap v_frz vFrz vFrzL

def vStrLo (P : Program) (ms : List MOp) (K : St → Prop) (s : St) (d : Nat) : AV → AV → Prop
  | .lit (.string t), .lit (.int _ n) => 0 ≤ n ∧ n ≤ t.size ∧ vcs P ms K (s.set d (.lit (.string (t.extract n.toNat t.size))))
  | _, _ => False
theorem v_strLo (P : Program) (ms : List MOp) (K : St → Prop) (s : St) (d : Nat) (x l : MArg) : vcs P (.strLo d x l :: ms) K s = vStrLo P ms K s d (x.ev s.env) (l.ev s.env) := by unfold vStrLo; rfl
def vLoadI (P : Program) (ms : List MOp) (K : St → Prop) (s : St) (d : Nat) (n : Option Nat) : AV → Prop
  | .ref cs => vPart P ms K s d cs 0 true n
  | _ => False
theorem v_loadI (P : Program) (ms : List MOp) (K : St → Prop) (s : St) (d : Nat) (x : MArg) (n : Option Nat) : vcs P (.loadI d x n :: ms) K s = vLoadI P ms K s d n (x.ev s.env) := by
  show (match x.ev s.env with | .ref cs => _ | _ => _) = _
  unfold vLoadI
  cases x.ev s.env <;> first | rfl | skip
  rename_i cs
  cases n with
  | none => rfl
  | some n => show (_ ∧ vcs P ms K (s.set d ((AV.agg ((cs.drop 0).take n)).erase).erase)) = _; rw [erase_erase]; rfl
attribute [simp] v_strLo vStrLo v_loadI vLoadI

theorem erase_deep (x : AV) : (AV.deep x).erase = .any := rfl
theorem erase0_deep (x : AV) : (AV.deep x).erase0 = .any := rfl
theorem dem_deep (r : Nat) (x : AV) : demote r (.deep x) = .any := rfl
theorem asg_deep (s : St) (d : Nat) (x : AV) : asgSt s d (.deep x) = s.set d (.deep x) := rfl
def vLoadD (P : Program) (ms : List MOp) (K : St → Prop) (s : St) (d n off : Nat) : Option (List AV) → Prop
  | some cs => off + n ≤ cs.length ∧ vcs P ms K (s.set d (.deep (.agg ((cs.drop off).take n))))
  | none => False
def vLoadDM (P : Program) (ms : List MOp) (K : St → Prop) (s : St) (d n : Nat) : AV → Prop
  | .mref b off => vLoadD P ms K s d n off (s.loc b)
  | _ => False
theorem v_loadD (P : Program) (ms : List MOp) (K : St → Prop) (s : St) (d n : Nat) (x : MArg) : vcs P (.loadD d x n :: ms) K s = vLoadDM P ms K s d n (x.ev s.env) := by unfold vLoadDM vLoadD; rfl
def vExtC (P : Program) (ms : List MOp) (K : St → Prop) (s : St) (d : Nat) : AV → Prop
  | .agg cs => vcs P ms K (s.set d (.deep (.agg cs)))
  | y => vcs P ms K (s.set d y.erase)
def vExtD (P : Program) (ms : List MOp) (K : St → Prop) (s : St) (d i : Nat) : AV → Prop
  | .deep (.tuple vs) => i < vs.length ∧ vExtC P ms K s d (vs.getD i .any)
  | _ => False
theorem v_extD (P : Program) (ms : List MOp) (K : St → Prop) (s : St) (d i : Nat) (x : MArg) : vcs P (.extD d x i :: ms) K s = vExtD P ms K s d i (x.ev s.env) := by unfold vExtD vExtC; rfl
def vStoreDY (P : Program) (ms : List MOp) (K : St → Prop) (s : St) (b off n : Nat) (cs : List AV) : AV → Prop
  | .deep (.agg ys) => ys.length = n ∧ ys.all AV.cell1 = true ∧ vcs P ms K (s.new b (splice cs off ys))
  | _ => False
def vStoreDL (P : Program) (ms : List MOp) (K : St → Prop) (s : St) (b off n : Nat) (y : AV) : Option (List AV) → Prop
  | some cs => off + n ≤ cs.length ∧ vStoreDY P ms K s b off n cs y
  | none => False
def vStoreD (P : Program) (ms : List MOp) (K : St → Prop) (s : St) (n : Nat) (y : AV) : AV → Prop
  | .mref b off => vStoreDL P ms K s b off n y (s.loc b)
  | _ => False
theorem v_storeD (P : Program) (ms : List MOp) (K : St → Prop) (s : St) (x y : MArg) (n : Nat) : vcs P (.storeD x y n :: ms) K s = vStoreD P ms K s n (y.ev s.env) (x.ev s.env) := by unfold vStoreD vStoreDL vStoreDY; rfl
attribute [simp] erase_deep erase0_deep dem_deep asg_deep v_loadD vLoadDM vLoadD v_extD vExtD vExtC v_storeD vStoreD vStoreDL vStoreDY

end Go.Avm

namespace Go.Avm
open Go.ChangeShapes Go.WideShapes Go.ChangeAt Go.RowKit

theorem Fr.kept {W W' : World} (h : Fr W W') (may : MemPlace → Prop) : W.keptBut W' may := by
  obtain ⟨h1, _, h3, h4, h5⟩ := h
  refine ⟨h1, h3, fun i hi => ?_⟩
  rw [h5 i hi]
  cases ho : W.heap[i]? with
  | none => trivial
  | some o => cases o <;> first | exact ⟨rfl, rfl, rfl, fun _ _ => rfl⟩ | exact .inr ⟨rfl, rfl⟩ | rfl

theorem Fr.frozen {W W' : World} (h : Fr W W') (a : Addr) (ha : a.block < W.heap.size) : W'.frozen? a = W.frozen? a := by
  unfold World.frozen?
  rw [h.2.2.2.2 a.block ha]

variable {H : Type} {enc : TypeId × Value → H} {P : Program}

theorem post_same {f : Func} {s : ChangeSpec} {apart fresh handsOn again : Bool} {W W' : World} {args : Array Value} {v : Value} {ds gs : List (DataW H)} {before pa pv : List MemPlace}
    (hW : DataW.Whole enc P f.params.toList s.vars apart W args.toList ds gs before)
    (hres : ∀ (b : Nat) (sp : Nat → Bool) (hd : Bool), DataW.TrodAll enc P W' b sp hd f.resultTypes.toList (v.resultList f.resultTypes.size) (s.fn H (ds ++ gs)).results [])
    (hargs : ∀ sp : Nat → Bool, (∀ p ∈ before, sp p.block = true) → DataW.TrodAll enc P W' 0 sp true f.params.toList args.toList (s.fn H (ds ++ gs)).args pa)
    (hvars : ∀ sp : Nat → Bool, (∀ p ∈ before, sp p.block = true) → DataW.TrodVars enc P W' sp s.vars (s.fn H (ds ++ gs)).vars pv)
    (hps : before = pa ++ pv) (hk : W.keptBut W' (· ∈ before)) (hfz : ∀ a : Addr, a.block < W.heap.size → W'.frozen? a = W.frozen? a)
    (hok : ∀ (j : Nat) (t : TypeId) (r : Value), f.resultTypes[j]? = some t → (v.resultList f.resultTypes.size)[j]? = some r → Value.okWide P W' .any 0 t r) :
    s.post enc P f apart fresh handsOn again W args v W' := by
  have hold : ∀ p ∈ before, (fun b => decide (b < W.heap.size)) p.block = true := fun p hp => by simpa using hW.lt p hp
  have hlt := hW.lt
  refine ⟨ds, gs, before, [], pa, pv, hW, hres _ _ _, hargs _ hold, hvars _ hold, World.keptBut_mono (fun p hp => ⟨hp, ?_⟩) hk, fun _ => ?_⟩
  · rw [hps, List.mem_append] at hp
    exact Or.inr hp
  · obtain ⟨_, _, _, _, _, hz, hn⟩ := hW
    refine ⟨hok, _, _, ([] ++ pa) ++ pv, ⟨[] ++ pa, pv, trodAll_append (hargs _ (fun _ _ => rfl)) (hres _ _ _), hvars _ (fun _ _ => rfl), rfl, ?_, ?_⟩, ?_⟩
    · intro b off hp
      have hp' : MemPlace.cell b off ∈ before := by rw [hps]; simpa using hp
      rw [hfz _ (hlt _ hp')]
      exact hz b off hp'
    · intro ha
      have := hn ha
      rw [hps] at this
      simpa using this
    · intro p hp _
      rw [hps]
      simpa using hp

end Go.Avm

namespace Go.Avm
open Go.ChangeShapes Go.WideShapes Go.ChangeAt Go.RowKit

def Old (w : World) : Area := fun b _ => b < w.heap.size

def Spots (cs : List Value) : Prop := ∀ (i : Nat) a len cap, cs[i]? = some (.slice (some a) len cap) → a.spot = none

structure Cs (w : World) (xs : List AV) (cs : List Value) : Prop where
  len : xs.length = cs.length
  one : xs.all AV.cell1 = true
  rv : ∀ i, RV w (Old w) (xs.getD i .any) (cs.getD i undef)

theorem Cs.nil (w : World) : Cs w [] [] := ⟨rfl, rfl, fun i => by simpa using .any _⟩

theorem Cs.single {w : World} {x : AV} {v : Value} (h : RV w (Old w) x v) (h1 : x.cell1 = true) : Cs w [x] [v] :=
  ⟨rfl, by rw [List.all_cons, h1]; rfl, fun i => by cases i with
    | zero => exact h
    | succ i => simpa using .any _⟩

theorem Cs.append {w : World} {xs ys : List AV} {cs ds : List Value} (h : Cs w xs cs) (k : Cs w ys ds) : Cs w (xs ++ ys) (cs ++ ds) where
  len := by simp [h.len, k.len]
  one := by simp [h.one, k.one]
  rv i := by
    simp only [List.getD_eq_getElem?_getD, List.getElem?_append, h.len]
    by_cases hi : i < cs.length
    · simp only [hi, if_true]
      have := h.rv i
      simpa only [List.getD_eq_getElem?_getD] using this
    · simp only [hi, if_false]
      have := k.rv (i - cs.length)
      simpa only [List.getD_eq_getElem?_getD] using this

def Rd (P : Program) (pl : Bool) (t : TypeId) {α : Type} (mk : α → AV) (ok : α → Prop) : Prop :=
  ∀ (H : Type) (enc : TypeId × Value → H) (w : World) (fuel : Nat) (cs : List Value) (d : DataW H) (ps : List MemPlace),
    DataW.trod enc P w 0 (fun _ => true) true fuel t cs = some (d, ps) → (∀ n ∈ d.weights P t, n ≤ reachBytes) → (pl = true ∨ Spots cs) →
    ∃ x, ok x ∧ Cs w (mk x).cells cs

theorem Rd.loose {P : Program} {t : TypeId} {α : Type} {mk : α → AV} {ok : α → Prop} (h : Rd P true t mk ok) : Rd P false t mk ok :=
  fun H enc w fuel cs d ps h1 h2 _ => h H enc w fuel cs d ps h1 h2 (.inl rfl)

theorem Rd.map {P : Program} {pl : Bool} {t : TypeId} {α β : Type} {mk : α → AV} {ok : α → Prop} (h : Rd P pl t mk ok) (e : α → β) {mk' : β → AV} {ok' : β → Prop}
    (hm : ∀ x, mk x = mk' (e x)) (ho : ∀ x, ok x → ok' (e x)) : Rd P pl t mk' ok' := fun H enc w fuel cs d ps h1 h2 h3 => by
  obtain ⟨x, hx, hc⟩ := h H enc w fuel cs d ps h1 h2 h3
  exact ⟨e x, ho x hx, hm x ▸ hc⟩

theorem Rd.bool {P : Program} {t : TypeId} (ht : P.underlying t = some .bool) : Rd P true t (fun b : Bool => .lit (.bool b)) (fun _ => True) := by
  intro H enc w fuel cs d ps h _ _
  cases fuel with
  | zero => simp [DataW.trod] at h
  | succ n =>
    unfold DataW.trod at h
    rw [ht] at h
    split at h
    all_goals first | (simp_all; done) | skip
    rename_i b _ _
    exact ⟨b, trivial, .single (.lit _ rfl) rfl⟩

theorem Rd.int {P : Program} {t : TypeId} {k : IntKind} (ht : P.underlying t = some (.int k)) : Rd P true t (fun n : Int => .lit (.int k n)) (fun n => k.min ≤ n ∧ n ≤ k.max) := by
  intro H enc w fuel cs d ps h _ _
  cases fuel with
  | zero => simp [DataW.trod] at h
  | succ n =>
    unfold DataW.trod at h
    rw [ht] at h
    split at h <;> simp_all
    exact ⟨_, by simpa [Lit.wf] using h.1.2, .single (.lit _ rfl) rfl⟩

theorem Rd.string {P : Program} {t : TypeId} (ht : P.underlying t = some .string) : Rd P true t (fun s : ByteArray => .lit (.string s)) (fun s => s.size ≤ 140737488355328) := by
  intro H enc w fuel cs d ps h hn _
  cases fuel with
  | zero => simp [DataW.trod] at h
  | succ n =>
    unfold DataW.trod at h
    rw [ht] at h
    split at h <;> simp_all
    obtain ⟨_, rfl, rfl⟩ := h
    refine ⟨_, ?_, .single (.lit _ rfl) rfl⟩
    simp [DataW.weights, reachBytes] at hn
    omega

def RdL (P : Program) (pl : Bool) (off : Nat) (fs : List Field) (tot : Nat) {α : Type} (mk : α → List AV) (ok : α → Prop) : Prop :=
  ∀ (H : Type) (enc : TypeId × Value → H) (w : World) (fuel : Nat) (cs : List Value) (xs : List (DataW H × List MemPlace)), cs.length = tot →
    (fs.mapM fun f => DataW.trod enc P w 0 (fun _ => true) true fuel f.type ((cs.drop f.offset).take (P.cellsOf f.type))) = some xs →
    (∀ n ∈ DataW.weightsEach P (fs.map (·.type)) (xs.map (·.1)), n ≤ reachBytes) → (pl = true ∨ Spots cs) →
    ∃ x, ok x ∧ Cs w (mk x) (cs.drop off)

theorem RdL.nil {P : Program} {pl : Bool} {tot : Nat} : RdL P pl tot [] tot (fun _ : Unit => []) (fun _ => True) := by
  intro H enc w fuel cs xs hl _ _ _
  refine ⟨(), trivial, ?_⟩
  rw [List.drop_of_length_le (by omega)]
  exact .nil w

theorem RdL.cons {P : Program} {pl : Bool} {off off' tot : Nat} {f : Field} {fs : List Field} {α β : Type} {mk : α → AV} {ok : α → Prop} {mks : β → List AV} {oks : β → Prop}
    (ho : f.offset = off) (ho' : off + P.cellsOf f.type = off') (h : Rd P pl f.type mk ok) (hs : RdL P pl off' fs tot mks oks) :
    RdL P pl off (f :: fs) tot (fun x : α × β => (mk x.1).cells ++ mks x.2) (fun x => ok x.1 ∧ oks x.2) := by
  intro H enc w fuel cs xs hl hm hw hp
  rw [List.mapM_cons] at hm
  cases hf : DataW.trod enc P w 0 (fun _ => true) true fuel f.type ((cs.drop f.offset).take (P.cellsOf f.type)) with
  | none => simp [hf] at hm
  | some y =>
    cases hr : fs.mapM fun f => DataW.trod enc P w 0 (fun _ => true) true fuel f.type ((cs.drop f.offset).take (P.cellsOf f.type)) with
    | none => simp [hf, hr] at hm
    | some ys =>
      simp [hf, hr] at hm
      subst hm
      obtain ⟨d, ps⟩ := y
      obtain ⟨x, hx, hc⟩ := h H enc w fuel _ d ps hf (fun n hn => hw n (by simp [DataW.weightsEach, hn])) (hp.imp_right fun hs i a len cap hi => by
        rw [List.getElem?_take] at hi
        split at hi
        · rw [List.getElem?_drop] at hi; exact hs _ a len cap hi
        · cases hi)
      obtain ⟨x', hx', hc'⟩ := hs H enc w fuel cs ys hl hr (fun n hn => hw n (by simp [DataW.weightsEach]; exact .inr (by simpa using hn))) hp
      refine ⟨(x, x'), ⟨hx, hx'⟩, ?_⟩
      rw [ho] at hc
      have e : cs.drop off = (cs.drop off).take (P.cellsOf f.type) ++ cs.drop off' := by
        rw [← ho', ← List.drop_drop, List.take_append_drop]
      rw [e]
      exact hc.append hc'

theorem Rd.struct {P : Program} {pl : Bool} {t : TypeId} {fs : Array Field} {l : List Field} {tot : Nat} (ht : P.underlying t = some (.struct fs)) (hl : fs.toList = l) (htot : P.cellsOf t = tot)
    {α : Type} {mk : α → List AV} {ok : α → Prop} (h : RdL P pl 0 l tot mk ok) : Rd P pl t (fun x => .agg (mk x)) ok := by
  intro H enc w fuel cs d ps hd hw hp
  cases fuel with
  | zero => simp [DataW.trod] at hd
  | succ n =>
    unfold DataW.trod at hd
    rw [ht] at hd
    simp only [htot, hl] at hd
    split at hd
    · rename_i hlen
      simp only [Option.map_eq_some_iff] at hd
      obtain ⟨xs, hxs, e⟩ := hd
      simp only [Prod.mk.injEq] at e
      obtain ⟨rfl, rfl⟩ := e
      simp only [DataW.weights, ht, hl] at hw
      obtain ⟨x, hx, hc⟩ := h H enc w n cs xs hlen hxs hw hp
      exact ⟨x, hx, by simpa using hc⟩
    · cases hd

theorem addr_add {a : Addr} (h : a.spot = none) (k : Nat) : a.add k = ⟨a.block, a.off + k, none⟩ := by
  unfold Addr.add
  split
  · rename_i h0; subst h0; cases a; simp_all
  · rfl

theorem flat_at (xs : List AV) (sz : Nat) (h : ∀ x ∈ xs, x.cells.length = sz) (q r : Nat) (hr : r < sz) : (xs.flatMap AV.cells).getD (q * sz + r) .any = ((xs.getD q .any).cells).getD r .any := by
  induction xs generalizing q with
  | nil => simp [AV.cells]
  | cons x xs ih =>
    have hx := h x (by simp)
    cases q with
    | zero =>
      simp only [List.flatMap_cons, List.getD_eq_getElem?_getD, List.getElem?_append, hx]
      simp [hr]
    | succ q =>
      have e : (q + 1) * sz + r = q * sz + r + sz := by rw [Nat.succ_mul]; omega
      have := ih (fun y hy => h y (by simp [hy])) q
      simp only [List.flatMap_cons, List.getD_eq_getElem?_getD, List.getElem?_append, hx] at this ⊢
      rw [e, if_neg (by omega), Nat.add_sub_cancel]
      simpa using this

theorem mem_weightsAll {H : Type} {P : Program} {e : TypeId} : ∀ {ds : List (DataW H)} {d : DataW H}, d ∈ ds → ∀ n ∈ d.weights P e, n ∈ DataW.weightsAll P e ds
  | _ :: _, _, .head _, n, hn => by simp [DataW.weightsAll, hn]
  | _ :: _, _, .tail _ h, n, hn => by
    have := mem_weightsAll h n hn
    simp [DataW.weightsAll, this]

theorem mapM_get {α β : Type} {f : α → Option β} : ∀ {l : List α} {r : List β}, l.mapM f = some r → r.length = l.length ∧ ∀ (i : Nat) x, l[i]? = some x → f x = r[i]?
  | [], r, h => by simp at h; subst h; simp
  | a :: l, r, h => by
    rw [List.mapM_cons] at h
    cases ha : f a with
    | none => simp [ha] at h
    | some b =>
      cases hl : l.mapM f with
      | none => simp [ha, hl] at h
      | some rs =>
        simp [ha, hl] at h
        subst h
        obtain ⟨h1, h2⟩ := mapM_get hl
        refine ⟨by simp [h1], fun i x hx => ?_⟩
        cases i with
        | zero => simp at hx; subst hx; simpa using ha
        | succ i => simp at hx; simpa using h2 i x hx

theorem Rd.sliceB {P : Program} {t e : TypeId} {sz : Nat} (ht : P.underlying t = some (.slice e)) (hb : 1 ≤ P.bytesOf e) (hsz : P.cellsOf e = sz) {α : Type} {mk : α → AV} {ok : α → Prop}
    (h : Rd P true e mk ok) : Rd P false t (fun xs : List α => .slice sz (xs.map mk) 0) (fun xs => xs.length ≤ 140737488355328 ∧ xs.length * P.bytesOf e ≤ 140737488351232 ∧ ∀ x ∈ xs, ok x) := by
  intro H enc w fuel cs d ps hd hw hp
  have hp : Spots cs := by simpa using hp
  cases fuel with
  | zero => simp [DataW.trod] at hd
  | succ n =>
    unfold DataW.trod at hd
    rw [ht] at hd
    split at hd
    all_goals first | (simp_all; done) | skip
    · exact ⟨[], by simp, .single (.nils sz 0) rfl⟩
    · rename_i e' a len cap he _
      have ee : e' = e := by simpa using he.symm
      subst ee
      simp only [hsz] at hd
      split at hd
      · rename_i hc
        simp only [Option.bind_eq_some_iff, Option.map_eq_some_iff] at hd
        obtain ⟨elems, hel, rest, _, e⟩ := hd
        simp only [Prod.mk.injEq] at e
        obtain ⟨rfl, rfl⟩ := e
        have hs := hp 0 a len cap rfl
        obtain ⟨h1, h2⟩ := mapM_get hel
        simp only [DataW.weights, ht] at hw
        have hlen : elems.length = len := by simpa using h1
        have hbig2 : len * P.bytesOf e' ≤ 140737488351232 := by
          have := hw _ (by simp; exact .inl rfl)
          simp only [hlen, reachBytes] at this
          rw [Nat.add_mul] at this
          omega
        have hbig : len ≤ 140737488355328 := by
          have := hw _ (by simp; exact .inl rfl)
          simp only [hlen, reachBytes] at this
          have h3 : (len + rest.length) * 1 ≤ (len + rest.length) * P.bytesOf e' := Nat.mul_le_mul_left _ hb
          omega
        have hx : ∀ i : Fin len, ∃ x : α, ok x ∧ ∃ cs', w.cells? 0 (a.add (i.1 * sz)) sz = some cs' ∧ Cs w (mk x).cells cs' := fun i => by
          have := h2 i.1 i.1 (by simp [i.2])
          have hi : i.1 < elems.length := by rw [hlen]; exact i.2
          rw [List.getElem?_eq_getElem hi] at this
          simp only [Option.bind_eq_some_iff] at this
          obtain ⟨cs', hcs', hd'⟩ := this
          obtain ⟨x, hx, hc'⟩ := h H enc w n cs' elems[i.1].1 elems[i.1].2 hd' (fun m hm => hw m (by
            simp only [List.mem_cons, List.mem_append]
            exact .inr (.inl (mem_weightsAll (List.mem_map.2 ⟨elems[i.1], List.getElem_mem hi, rfl⟩) m hm)))) (.inl rfl)
          exact ⟨x, hx, cs', hcs', hc'⟩
        obtain ⟨g, hg⟩ := Classical.axiomOfChoice hx
        have hz : ∃ zs : List α, zs.length = len ∧ ∀ i (hi : i < zs.length), ok zs[i] ∧ ∃ cs', w.cells? 0 (a.add (i * sz)) sz = some cs' ∧ Cs w (mk zs[i]).cells cs' :=
          ⟨List.ofFn g, by simp, fun i hi => by simpa using hg ⟨i, by simpa using hi⟩⟩
        clear hg g hx
        obtain ⟨zs, hzl, hz⟩ := hz
        refine ⟨zs, ⟨by omega, by rw [hzl]; exact hbig2, fun x hx => ?_⟩, ?_⟩
        · obtain ⟨i, hi, rfl⟩ := List.mem_iff_getElem.1 hx
          exact (hz i hi).1
        · have hcell : ∀ x ∈ zs.map mk, x.cells.length = sz := fun y hy => by
            obtain ⟨x, hx, rfl⟩ := List.mem_map.1 hy
            obtain ⟨i, hi, rfl⟩ := List.mem_iff_getElem.1 hx
            obtain ⟨_, cs', hcs', hc'⟩ := hz i hi
            rw [hc'.len, (World.cells?_some hcs').2.1]
          refine .single ?_ rfl
          have ea : a = ⟨a.block, a.off, none⟩ := by cases a; simp_all
          have hat : ∀ i, i < len * sz → ∃ v, w.cell? ⟨a.block, a.off + i, none⟩ = some v ∧ a.block < w.heap.size ∧ RV w (Old w) (((zs.map mk).flatMap AV.cells).getD i .any) v := fun i hi => by
            have hz0 : 0 < sz := by
              rcases Nat.eq_zero_or_pos sz with h0 | h0
              · rw [h0] at hi; omega
              · exact h0
            have hq : i / sz < zs.length := by rw [hzl]; exact Nat.div_lt_of_lt_mul (by rw [Nat.mul_comm]; exact hi)
            have hr : i % sz < sz := Nat.mod_lt _ hz0
            obtain ⟨_, cs', hcs', hc'⟩ := hz (i / sz) hq
            have hcl := (World.cells?_some hcs').2.1
            have hce := (World.cells?_some hcs').2.2 (i % sz) hr
            have eadd : (a.add (i / sz * sz)).add (i % sz) = ⟨a.block, a.off + i, none⟩ := by
              rw [addr_add hs, addr_add rfl]
              have := Nat.div_add_mod i sz
              rw [Nat.mul_comm] at this
              simp only [Addr.mk.injEq, and_true, true_and]
              omega
            rw [eadd, List.getElem?_eq_getElem (by omega)] at hce
            refine ⟨_, hce, ?_, ?_⟩
            · unfold World.cell? at hce
              by_cases hlt : a.block < w.heap.size
              · exact hlt
              · rw [Array.getElem?_eq_none (by simpa using hlt)] at hce
                cases hce
            · have e1 := flat_at (zs.map mk) sz hcell (i / sz) (i % sz) hr
              rw [show i / sz * sz + i % sz = i from by rw [Nat.mul_comm]; exact Nat.div_add_mod i sz] at e1
              rw [e1]
              have e2 : (zs.map mk).getD (i / sz) .any = mk zs[i / sz] := by
                simp [List.getD_eq_getElem?_getD, hq]
              rw [e2]
              have := hc'.rv (i % sz)
              rw [show cs'.getD (i % sz) undef = cs'[i % sz]'(by omega) from by simp [List.getD_eq_getElem?_getD, show i % sz < cs'.length by omega]] at this
              exact this
          have hl' : (zs.map mk).length = len := by simp [hzl]
          rw [ea, ← hl']
          refine .slice sz _ 0 a.block a.off cap (fun i => (w.cell? ⟨a.block, a.off + i, none⟩).getD undef) hcell (fun y hy => ?_) (by rw [hl']; omega) (by rw [hl']; exact hbig) (fun i hi => ?_) fun i => ?_
          · obtain ⟨x, hx, rfl⟩ := List.mem_map.1 hy
            obtain ⟨i, hi, rfl⟩ := List.mem_iff_getElem.1 hx
            obtain ⟨_, cs', hcs', hc'⟩ := hz i hi
            exact hc'.one
          · rw [hl'] at hi
            obtain ⟨v, hv, hb', _⟩ := hat i hi
            exact ⟨by rw [hv]; rfl, hb'⟩
          · by_cases hi : i < len * sz
            · obtain ⟨v, hv, _, hr⟩ := hat i hi
              rw [hv]
              exact hr
            · rw [List.getD_eq_getElem?_getD, List.getElem?_eq_none (by rw [flat_len sz _ hcell, hl']; omega)]
              exact .any _
      · cases hd

theorem Rd.row {P : Program} {pl : Bool} {e : TypeId} {sz : Nat} (hsz : P.cellsOf e = sz) {α : Type} {mk : α → AV} {ok : α → Prop} (h : Rd P pl e mk ok) {H : Type} {enc : TypeId × Value → H} {w : World} {fuel : Nat} {cs : List Value} (hp : pl = true ∨ Spots cs) :
    ∀ (n k : Nat) (xs : List (DataW H × List MemPlace)), cs.length = (k + n) * sz →
      ((List.range' k n).mapM fun i => DataW.trod enc P w 0 (fun _ => true) true fuel e ((cs.drop (i * sz)).take sz)) = some xs →
      (∀ m ∈ DataW.weightsAll P e (xs.map (·.1)), m ≤ reachBytes) →
      ∃ ys : List α, ys.length = n ∧ (∀ y ∈ ys, ok y) ∧ Cs w (ys.flatMap fun y => (mk y).cells) (cs.drop (k * sz))
  | 0, k, xs, hl, _, _ => ⟨[], rfl, by simp, by rw [List.drop_of_length_le (by rw [hl]; simp)]; exact .nil w⟩
  | n + 1, k, xs, hl, hm, hw => by
    rw [List.range'_succ, List.mapM_cons] at hm
    cases hf : DataW.trod enc P w 0 (fun _ => true) true fuel e ((cs.drop (k * sz)).take sz) with
    | none => simp [hf] at hm
    | some y =>
      cases hr : (List.range' (k + 1) n).mapM fun i => DataW.trod enc P w 0 (fun _ => true) true fuel e ((cs.drop (i * sz)).take sz) with
      | none => simp [hf, hr] at hm
      | some zs =>
        simp [hf, hr] at hm
        subst hm
        obtain ⟨d, ps⟩ := y
        obtain ⟨x, hx, hc⟩ := h H enc w fuel _ d ps hf (fun m hm => hw m (by simp [DataW.weightsAll, hm])) (hp.imp_right fun hs i a len cap hi => by
          rw [List.getElem?_take] at hi
          split at hi
          · rw [List.getElem?_drop] at hi; exact hs _ a len cap hi
          · cases hi)
        obtain ⟨ys, h1, h2, h3⟩ := Rd.row hsz h hp n (k + 1) zs (by rw [hl]; congr 1; omega) hr (fun m hm => hw m (by simp [DataW.weightsAll]; exact .inr (by simpa using hm)))
        refine ⟨x :: ys, by simp [h1], by simpa using ⟨hx, h2⟩, ?_⟩
        have e : cs.drop (k * sz) = (cs.drop (k * sz)).take sz ++ cs.drop ((k + 1) * sz) := by
          rw [Nat.succ_mul, ← List.drop_drop, List.take_append_drop]
        rw [e, List.flatMap_cons]
        exact hc.append h3

theorem Rd.slice {P : Program} {t e : TypeId} {sz : Nat} (ht : P.underlying t = some (.slice e)) (hb : 1 ≤ P.bytesOf e) (hsz : P.cellsOf e = sz) {α : Type} {mk : α → AV} {ok : α → Prop}
    (h : Rd P true e mk ok) : Rd P false t (fun xs : List α => .slice sz (xs.map mk) 0) (fun xs => xs.length ≤ 140737488355328 ∧ ∀ x ∈ xs, ok x) :=
  (Rd.sliceB ht hb hsz h).map id (fun _ => rfl) (fun _ h => ⟨h.1, h.2.2⟩)

theorem Rd.array {P : Program} {pl : Bool} {t e : TypeId} {n sz : Nat} (ht : P.underlying t = some (.array n e)) (hsz : P.cellsOf e = sz) (htot : P.cellsOf t = n * sz) {α : Type} {mk : α → AV} {ok : α → Prop}
    (h : Rd P pl e mk ok) : Rd P pl t (fun xs : List α => .agg (xs.flatMap fun y => (mk y).cells)) (fun xs => xs.length = n ∧ ∀ x ∈ xs, ok x) := by
  intro H enc w fuel cs d ps hd hw hp
  cases fuel with
  | zero => simp [DataW.trod] at hd
  | succ f =>
    unfold DataW.trod at hd
    rw [ht] at hd
    simp only [htot, hsz] at hd
    split at hd
    · rename_i hlen
      simp only [Option.map_eq_some_iff] at hd
      obtain ⟨xs, hxs, e⟩ := hd
      simp only [Prod.mk.injEq] at e
      obtain ⟨rfl, rfl⟩ := e
      simp only [DataW.weights, ht] at hw
      rw [List.range_eq_range'] at hxs
      obtain ⟨ys, h1, h2, h3⟩ := Rd.row hsz h hp n 0 xs (by simpa using hlen) hxs hw
      exact ⟨ys, ⟨h1, h2⟩, by simpa [AV.cells] using h3⟩
    · cases hd
end Go.Avm

namespace Go.Avm
open Go.ChangeShapes Go.WideShapes Go.ChangeAt Go.RowKit
variable {H : Type} {enc : TypeId × Value → H} {P : Program}

theorem Cell.spot {w : World} {b : Nat} {u : TypeId} {a : Addr} {len cap : Nat} (h : Cell.okWide P w .any b u (.slice (some a) len cap)) : a.spot = none := by
  unfold Cell.okWide at h
  split at h
  all_goals first | (simp_all; done) | skip
  unfold Cell.ok at h
  split at h
  all_goals first | (simp_all; done) | skip
  · rename_i he
    cases he
    exact h.2.2.2.1

theorem spots_of_row {w : World} {b : Nat} {t : TypeId} {cs : Array Value} (h : Row.okWide P w .any b t cs) : Spots cs.toList := by
  intro i a len cap hi
  obtain ⟨ts, _, _, hc⟩ := h
  obtain ⟨u, _, hu⟩ := hc i _ (by simpa using hi)
  exact Cell.spot hu

theorem arg_agg {w : World} {b : Nat} {t : TypeId} {v : Value} {d : DataW H} {ps : List MemPlace} (ht : (∃ fs, P.underlying t = some (.struct fs)) ∨ ∃ n e, P.underlying t = some (.array n e))
    (hval : Value.okWide P w .any b t v) (hd : DataW.Trod enc P w 0 (fun _ => true) true t v d ps) (hw : ∀ n ∈ d.weights P t, n ≤ reachBytes) {α : Type} {mk : α → List AV} {ok : α → Prop}
    (h : Rd P false t (fun x => .agg (mk x)) ok) : ∃ x, ok x ∧ RV w (Old w) (.agg (mk x)) v := by
  have hv : ∃ cs, v = .agg cs ∧ Row.okWide P w .any b t cs := by
    unfold Value.okWide at hval
    rcases ht with ⟨fs, ht⟩ | ⟨n, e, ht⟩
    all_goals
      rw [ht] at hval
      obtain ⟨cs, h1, _, h2⟩ := hval
      exact ⟨cs, h1, h2⟩
  obtain ⟨cs, rfl, hrow⟩ := hv
  obtain ⟨fuel, hd⟩ := hd
  obtain ⟨x, hx, hc⟩ := h H enc w fuel _ d ps hd hw (.inr (by simpa [Value.cells] using spots_of_row hrow))
  refine ⟨x, hx, .agg _ _ (by simpa [AV.cells, Value.cells] using hc.len.symm) fun i => ?_⟩
  have := hc.rv i
  simpa [AV.cells, Value.cells, Array.getD_eq_getD_getElem?, List.getD_eq_getElem?_getD] using this

theorem arg_one {w : World} {b : Nat} {t : TypeId} {v : Value} {d : DataW H} {ps : List MemPlace}
    (ht : P.underlying t = some .bool ∨ (∃ k, P.underlying t = some (.int k)) ∨ P.underlying t = some .string ∨ ∃ e, P.underlying t = some (.slice e))
    (hval : Value.okWide P w .any b t v) (hd : DataW.Trod enc P w 0 (fun _ => true) true t v d ps) (hw : ∀ n ∈ d.weights P t, n ≤ reachBytes) {α : Type} {mk : α → AV} {ok : α → Prop}
    (h : Rd P false t mk ok) (hmk : ∀ x, (mk x).cells = [mk x]) : ∃ x, ok x ∧ RV w (Old w) (mk x) v := by
  have hc : Cell.okWide P w .any b t v := by
    unfold Value.okWide at hval
    rcases ht with ht | ⟨k, ht⟩ | ht | ⟨e, ht⟩ <;> (rw [ht] at hval; exact hval)
  have hv : v.cells = #[v] := by
    cases v with
    | agg cs =>
      exfalso
      unfold Cell.okWide at hc
      split at hc
      all_goals first | (simp_all; done) | skip
      unfold Cell.ok at hc
      split at hc <;> simp_all
    | _ => rfl
  obtain ⟨fuel, hd⟩ := hd
  rw [hv] at hd
  obtain ⟨x, hx, hc'⟩ := h H enc w fuel _ d ps hd hw (.inr fun i a len cap hi => by
    cases i with
    | zero => simp at hi; subst hi; exact Cell.spot hc
    | succ i => simp at hi)
  refine ⟨x, hx, ?_⟩
  have := hc'.rv 0
  rw [hmk] at this
  exact this

theorem mem_weightsEach_head {t : TypeId} {ts : List TypeId} {d : DataW H} {ds : List (DataW H)} (h : (DataW.weightsEach P (t :: ts) (d :: ds)).all (· ≤ reachBytes) = true) :
    (∀ n ∈ d.weights P t, n ≤ reachBytes) ∧ (DataW.weightsEach P ts ds).all (· ≤ reachBytes) = true := by
  simp only [DataW.weightsEach, List.all_append, Bool.and_eq_true] at h
  exact ⟨fun n hn => by simpa using List.all_eq_true.1 h.1 n hn, h.2⟩

theorem Fr.same {W W' : World} (h : Fr W W') {p : MemPlace} (hp : p.block < W.heap.size) : W.sameAt W' p := by
  have hb := h.2.2.2.2 p.block hp
  cases p with
  | cell b off => simp only [MemPlace.block] at hb; simp only [World.sameAt, World.cell?, hb]
  | map b => exact hb

theorem trodAll_stays (hl : laidOutB P = true) {W W' : World} {sp : Nat → Bool} : ∀ {ts : List TypeId} {vs : List Value} {ds : List (DataW H)} {ps : List MemPlace},
    (∀ t ∈ ts, P.readableRec t = true ∧ t < P.types.size) → DataW.TrodAll enc P W 0 (fun _ => true) true ts vs ds ps → (∀ p ∈ ps, W.sameAt W' p) → (∀ p ∈ ps, sp p.block = true) →
    DataW.TrodAll enc P W' 0 sp true ts vs ds ps
  | [], vs, ds, ps, _, h, _, _ => by
    obtain ⟨rfl, rfl, rfl⟩ := trodAll_nil h
    exact trodAll_mk0
  | t :: ts, vs, ds, ps, ht, h, hs, hp => by
    obtain ⟨v, vs', d, ds', p, q, rfl, rfl, rfl, h1, h2⟩ := trodAll_cons h
    exact ⟨p, q, WideElems.Trod_stays hl (ht t (by simp)).1 (ht t (by simp)).2 h1 (fun x hx => hs x (by simp [hx])) (fun x hx => hp x (by simp [hx])),
      trodAll_stays hl (fun u hu => ht u (by simp [hu])) h2 (fun x hx => hs x (by simp [hx])) (fun x hx => hp x (by simp [hx])), rfl⟩

theorem post_true {f : Func} {s : ChangeSpec} {tb : TypeId} (hl : laidOutB P = true) (hb : P.underlying tb = some .bool) (hrt : f.resultTypes = #[tb]) (hts : ∀ t ∈ f.params.toList, P.readableRec t = true ∧ t < P.types.size) (hsv : s.vars = [])
    {W W' : World} {args : Array Value} {ds : List (DataW H)} {before : List MemPlace} (hfn : (s.fn H (ds ++ [])).results = [.lit (.bool true)] ∧ (s.fn H (ds ++ [])).args = ds ∧ (s.fn H (ds ++ [])).vars = [])
    (hW : DataW.Whole enc P f.params.toList s.vars false W args.toList ds [] before) (hF : Fr W W') :
    s.post enc P f false true false false W args (.bool true) W' := by
  have hlt := hW.lt
  have hW' := hW
  obtain ⟨p, q, hA, hV, rfl, hfz, hnd⟩ := hW'
  rw [hsv] at hV
  obtain ⟨_, rfl⟩ := trodVars_none hV
  refine post_same (pa := p) (pv := []) hW ?_ ?_ ?_ rfl (hF.kept _) hF.frozen ?_
  · intro b sp hd
    rw [hfn.1, hrt]
    exact trodAll_cons_mk (shut_bool hb _) trodAll_mk0
  · intro sp hsp
    rw [hfn.2.1]
    exact trodAll_stays hl hts hA (fun x hx => hF.same (hlt x (by simp [hx]))) (fun x hx => hsp x (by simp [hx]))
  · intro sp _
    rw [hfn.2.2, hsv]
    rfl
  · exact ok_one hrt rfl (okWide_bool_mk hb _)

theorem calls_of_pcall {f : FuncId} {xs : List AV} (h : PCall P f xs (.lit (.bool true))) {w : World} {args : Array Value} (hs : args.size = xs.length) (hr : ∀ i, RV w (Old w) (xs.getD i .any) (args.getD i undef)) :
    Calls P f args w fun e w' => e = .returned (.bool true) ∧ Fr w w' := by
  refine (h.2 w (Old w) args (fun _ _ h => h) hs hr).mono ?_
  rintro e w' ⟨v, A', rfl, hf, _, _, hr⟩
  exact ⟨by rw [hr.inv_bool], hf⟩
end Go.Avm
