/- Two parties over one world: what an outer party holds lasts while the inner one works. -/
import Derived.Test.YtcfeipphmklakaaAvm17
namespace Go.Avm
open Go.RowKit

/-- What is kept of a world for one who holds the blocks Lx and looks at A. -/
structure Keep (w w' : World) (A A' Lx : Area) : Prop where
  os : w'.os = w.os
  tape : w'.tape = w.tape
  output : w'.output = w.output
  size : w.heap.size ≤ w'.heap.size
  blk : ∀ b o, Lx b o → w'.heap[b]? = w.heap[b]?
  cell : ∀ b o v, A b o → w.cell? ⟨b, o, none⟩ = some v → w'.cell? ⟨b, o, none⟩ = some v
  sub : ∀ b o, A b o → A' b o
  disj : ∀ b o, A' b o → b < w'.heap.size ∧ ¬ Lx b o

def join (L M : Area) : Area := fun b o => L b o ∨ M b o

abbrev StLaw (X : AV → World → Area → Area → Prop) : Prop := ∀ gh w w' A A' Lx, X gh w A Lx → Keep w w' A A' Lx → X gh w' A' Lx

/-- What a call of yield does. -/
abbrev YLaw (P : Program) (X : AV → World → Area → Area → Prop) : Prop :=
  ∀ l y rest w A Lx vs, X (.ghost l (y :: rest) false) w A Lx → (∀ b o, Lx b o → b < w.heap.size) → (∀ b o, A b o → b < w.heap.size ∧ ¬ Lx b o) →
    vs.size = y.length → (∀ i, RV w A (y.getD i .any) (vs.getD i undef)) →
    ∃ fn tmps assign body, (Instr.yield l vs).run P w = .ok (.round l fn tmps assign body) w ∧
      RoundIn (Fw none) 0 P l fn tmps assign body w fun e w' => ∃ b A' Lx', e = .returned (.bool b) ∧ Ev w A Lx w' A' Lx' ∧ (∀ b o, Lx' b o → b < w'.heap.size) ∧
        (∀ b o, A' b o → b < w'.heap.size ∧ ¬ Lx' b o) ∧ X (.ghost l rest (!b)) w' A' Lx'

structure Ctx (P : Program) where
  N : Nat
  B : Nat
  ro : Option Nat
  X : AV → World → Area → Area → Prop
  st : StLaw X
  yl : YLaw P X

theorem Ev.wider {w w' : World} {A A' L L' : Area} (h : Ev w A L w' A' L') (T : Area) : Ev w A (join L T) w' A' (join L' T) := by
  refine ⟨h.os, h.tape, h.output, h.size, fun b o hb hl => ?_, fun b hb hl => h.block b hb fun o ho => hl o (.inl ho), h.sub, fun b o ha => ?_⟩
  · simp only [join, not_or] at hl
    obtain ⟨h1, h2⟩ := h.cell b o hb hl.1
    exact ⟨h1, by simp only [join, not_or]; exact ⟨h2, hl.2⟩⟩
  · rcases h.sup b o ha with h1 | h1 | h1
    · exact .inl h1
    · exact .inr (.inl (.inl h1))
    · exact .inr (.inr h1)

section
variable {w w' : World} {A A' L L' : Area}

/-- Another bound on what may be written. -/
theorem Ev.into (h : Ev w A L w' A' L') {M M' : Area} (h1 : ∀ b o, L b o → M b o ∨ w.heap.size ≤ b) (h2 : ∀ b o, b < w.heap.size → M' b o → M b o ∨ L' b o) : Ev w A M w' A' M' := by
  refine ⟨h.os, h.tape, h.output, h.size, fun b o hb hl => ?_, fun b hb hl => h.block b hb fun o ho => ?_, h.sub, fun b o ha => ?_⟩
  · have hL : ¬ L b o := fun hx => by rcases h1 b o hx with e | e; exact hl e; omega
    obtain ⟨g1, g2⟩ := h.cell b o hb hL
    exact ⟨g1, fun hm => by rcases h2 b o hb hm with e | e; exact hl e; exact g2 e⟩
  · rcases h1 b o ho with e | e
    · exact hl o e
    · omega
  · rcases h.sup b o ha with g | g | g
    · exact .inl g
    · rcases h1 b o g with e | e
      · exact .inr (.inl e)
      · exact .inr (.inr e)
    · exact .inr (.inr g)

theorem cell_putObj (w : World) {l b o : Nat} (ob : Obj) (h : b ≠ l) : (w.putObj l ob).cell? ⟨b, o, none⟩ = w.cell? ⟨b, o, none⟩ := World.cell?_of_block (World.putObj_heap_other h)

theorem Ev.putObj (w : World) (A : Area) {L : Area} {l : Nat} (ob : Obj) (hl : ∀ o, L l o) : Ev w A L (w.putObj l ob) A L := by
  refine ⟨rfl, rfl, rfl, by simp, fun b o hb h => ⟨cell_putObj w ob (fun e => h (e ▸ hl o)), h⟩, fun b hb h => World.putObj_heap_other (fun e => h 0 (e ▸ hl 0)), fun _ _ h => h, fun _ _ h => .inl h⟩

theorem no_cell {l o : Nat} {ob : Obj} (h : w.heap[l]? = some ob) (hc : ob.isCells = false) : w.cell? ⟨l, o, none⟩ = none := by
  cases ob <;> first | (cases hc; done) | simp [World.cell?, h]

theorem Keep.putObj {l : Nat} {ob ob' : Obj} (h : w.heap[l]? = some ob) (hc : ob.isCells = false) (hL : ∀ o, ¬ L l o) (hA : ∀ b o, A b o → b < w.heap.size ∧ ¬ L b o) : Keep w (w.putObj l ob') A A L := by
  refine ⟨rfl, rfl, rfl, by simp, fun b o hl => World.putObj_heap_other (fun e => hL o (e ▸ hl)), fun b o v ha hv => ?_, fun _ _ h => h, fun b o ha => ⟨by simpa using (hA b o ha).1, (hA b o ha).2⟩⟩
  rw [cell_putObj w ob' (fun e => by subst e; rw [no_cell h hc] at hv; cases hv)]
  exact hv

theorem Keep.alloc (ob : Obj) (hA : ∀ b o, A b o → b < w.heap.size ∧ ¬ L b o) (hL : ∀ b o, L b o → b < w.heap.size) : Keep w (w.alloc ob) A A L :=
  ⟨rfl, rfl, rfl, by rw [alloc_size]; omega, fun b o hl => heap_alloc _ _ _ (hL b o hl), fun b o v ha hv => by rw [cell_alloc _ _ _ _ (hA b o ha).1]; exact hv, fun _ _ h => h,
    fun b o ha => ⟨by rw [alloc_size]; have := (hA b o ha).1; omega, (hA b o ha).2⟩⟩
end

/-- An object that is no cells, as the state tells of it. -/
inductive ObjOK (w : World) (A : Area) (b : Nat) : AV → Prop
  | any : ObjOK w A b .any
  | iter (t : ByteArray) (pos : Nat) (h : w.heap[b]? = some (.stringIter t pos)) : ObjOK w A b (itAV t pos)
  | map (es : List (List AV)) (es' : Array MapEntry) (clock : Nat) (h : w.heap[b]? = some (.map es' clock)) (hs : es'.size = es.length)
      (hr : ∀ i e, es'[i]? = some e → RV w A ((es.getD i []).getD 0 .any) e.key ∧ RV w A ((es.getD i []).getD 1 .any) e.val) : ObjOK w A b (mapAV es)

theorem ObjOK.block {w : World} {A : Area} {b : Nat} {x : AV} (h : ObjOK w A b x) (hx : x ≠ .any) : ∃ ob, w.heap[b]? = some ob ∧ ob.isCells = false := by
  cases h with
  | any => exact absurd rfl hx
  | iter t pos h => exact ⟨_, h, rfl⟩
  | map es es' clock h _ _ => exact ⟨_, h, rfl⟩

theorem ObjOK.mono {w w' : World} {A A' : Area} {b : Nat} {x : AV} (h : ObjOK w A b x) (hb : x ≠ .any → w'.heap[b]? = w.heap[b]?) (hc : ∀ b o v, A b o → w.cell? ⟨b, o, none⟩ = some v → w'.cell? ⟨b, o, none⟩ = some v ∧ A' b o) : ObjOK w' A' b x := by
  cases h with
  | any => exact .any
  | iter t pos h => exact .iter t pos ((hb (fun e => by cases e)).trans h)
  | map es es' clock h hs hr => exact .map es es' clock ((hb (fun e => by cases e)).trans h) hs fun i e he => ⟨(hr i e he).1.mono hc, (hr i e he).2.mono hc⟩

def objs (s : St) : Area := fun b _ => s.env (oS + b) ≠ .any
def held (s : St) (sp : Sp) : Area := join (live s.loc sp) (objs s)

structure GS {P : Program} (C : Ctx P) (Pt : List (Nat × Obj)) (s : St) (a : Act) (w : World) (A Lx : Area) (sp : Sp) : Prop where
  rs : RS C.N s ⟨a.tmps, []⟩ w A sp
  ig : ∀ k, gS ≤ k → isG (s.env k) = true
  lt : ∀ b o, Lx b o → b < w.heap.size
  ap : ∀ b o o', held s sp b o → ¬ Lx b o'
  av : ∀ b o, A b o → ¬ Lx b o
  x : C.X (s.env gS) w A Lx
  pt : ∀ p ∈ Pt, w.heap[p.1]? = some p.2 ∧ p.2.isCells = false ∧ (∀ o, ¬ Lx p.1 o) ∧ (∀ o, ¬ A p.1 o) ∧ s.env (oS + p.1) = .any
  ob : ∀ b, ObjOK w A b (s.env (oS + b))
  oa : ∀ b o, objs s b o → ¬ A b o
  bs : C.B ≤ w.heap.size
  dn : (a.defers.map (·.target)).Nodup
  df : ∀ d ∈ a.defers, ∃ D, C.B ≤ D ∧ d = ⟨.collected D, #[]⟩ ∧ (D, .deferred (some [])) ∈ Pt
  ro : ∀ l, C.ro = some l → ∃ r, (l, .loop r) ∈ Pt

section
variable {P : Program} {C : Ctx P} {Pt : List (Nat × Obj)} {s : St} {a : Act} {w : World} {A Lx : Area} {sp : Sp}

theorem RS.live_cells {N : Nat} (h : RS N s a w A sp) {b o : Nat} (hl : live s.loc sp b o) : ∃ vs T, w.heap[b]? = some (.cells vs T (0, 0)) := by
  rcases hl with hl | ⟨r, h1, h2, h3⟩
  · cases hb : s.loc b with
    | none => exact absurd hb hl
    | some cs =>
      obtain ⟨vs, T, h1, _⟩ := h.loc b cs hb
      exact ⟨vs, T, h1⟩
  · obtain ⟨⟨vs, T, h4, _⟩, _⟩ := h.spb r (by omega)
    exact ⟨vs, T, h1 ▸ h4⟩

theorem RS.not_live {N : Nat} (h : RS N s a w A sp) {b : Nat} {ob : Obj} (hb : w.heap[b]? = some ob) (hc : ob.isCells = false) (o : Nat) : ¬ live s.loc sp b o := by
  intro hl
  obtain ⟨vs, T, h1⟩ := h.live_cells hl
  rw [h1] at hb; injection hb with hb; rw [← hb] at hc; cases hc

theorem GS.pt_dead (h : GS C Pt s a w A Lx sp) {p : Nat × Obj} (hp : p ∈ Pt) (o : Nat) : ¬ held s sp p.1 o := by
  obtain ⟨h2, h3, _, _, h4⟩ := h.pt p hp
  rintro (hl | hl)
  · exact h.rs.not_live h2 h3 o hl
  · exact hl h4

theorem GS.obj_block (h : GS C Pt s a w A Lx sp) {b o : Nat} (hb : objs s b o) : ∃ ob, w.heap[b]? = some ob ∧ ob.isCells = false := (h.ob b).block hb

theorem GS.own_lt (h : GS C Pt s a w A Lx sp) {b o : Nat} (hl : held s sp b o) : b < w.heap.size := by
  rcases hl with hl | hl
  · exact h.rs.live_lt hl
  · obtain ⟨ob, h1, _⟩ := h.obj_block hl
    exact lt_of_heap h1

theorem GS.own_av (h : GS C Pt s a w A Lx sp) {b o : Nat} (ha : A b o) : ¬ held s sp b o := by
  rintro (hl | hl)
  · exact (h.rs.av b o ha).2 hl
  · exact h.oa b o hl ha

theorem env_set_g (s : St) (gh : AV) : (s.set gS gh).env gS = gh := by simp [St.set, upd]
theorem env_set_o (s : St) (gh : AV) (b : Nat) : (s.set gS gh).env (oS + b) = s.env (oS + b) := upd_ne _ _ (by simp [gS, oS]; omega)

/-- A step of the party itself, in general. -/
theorem GS.step (h : GS C Pt s a w A Lx sp) {s' : St} {a' : Act} {w' : World} {A' : Area} {sp' : Sp} (hr : RS C.N s' ⟨a'.tmps, []⟩ w' A' sp')
    (hev : Ev w A (held s sp) w' A' (held s' sp')) (hi : ∀ k, gS ≤ k → isG (s'.env k) = true) (hg : s'.env gS = s.env gS) (ho : ∀ b, ObjOK w' A' b (s'.env (oS + b))) (hoa : ∀ b o, objs s' b o → ¬ A' b o) (hd : a'.defers = a.defers) :
    GS C Pt s' a' w' A' Lx sp' ∧ Ev w A (join (held s sp) Lx) w' A' (join (held s' sp') Lx) := by
  have hdead : ∀ b o, Lx b o → ∀ o', ¬ held s sp b o' := fun b o hl o' hl' => h.ap b o' o hl' hl
  have hav : ∀ b o, A' b o → ¬ Lx b o := by
    intro b o ha hl
    rcases hev.sup b o ha with h1 | h1 | h1
    · exact h.av b o h1 hl
    · exact h.ap b o o h1 hl
    · exact absurd (h.lt b o hl) (by omega)
  refine ⟨⟨hr, hi, fun b o hl => Nat.lt_of_lt_of_le (h.lt b o hl) hev.size, fun b o o' hl hx => ?_, hav, ?_, fun p hp => ?_, ho, hoa, Nat.le_trans h.bs hev.size, by rw [hd]; exact h.dn, by rw [hd]; exact h.df, h.ro⟩, hev.wider Lx⟩
  · exact (hev.cell b o (h.lt b o' hx) (hdead b o' hx o)).2 hl
  · rw [hg]
    exact C.st _ _ _ _ _ _ h.x ⟨hev.os, hev.tape, hev.output, hev.size, fun b o hl => hev.block b (h.lt b o hl) (hdead b o hl), fun b o v ha hc => (hev.cell b o (h.rs.av b o ha).1 (h.own_av ha)).1.trans hc, hev.sub, fun b o ha => ⟨(hr.av b o ha).1, hav b o ha⟩⟩
  · obtain ⟨h1, h2, h3⟩ := h.pt p hp
    refine ⟨(hev.block p.1 (lt_of_heap h1) (h.pt_dead hp)).trans h1, h2, h3.1, fun o ha => ?_, ?_⟩
    · rcases hev.sup _ o ha with h4 | h4 | h4
      · exact h3.2.1 o h4
      · exact h.pt_dead hp o h4
      · exact absurd (lt_of_heap h1) (by omega)
    · refine Classical.byContradiction fun hne => ?_
      exact (hev.cell p.1 0 (lt_of_heap h1) (h.pt_dead hp 0)).2 (.inr hne)

/-- The party's held step, where no object turns. -/
theorem GS.own (h : GS C Pt s a w A Lx sp) {s' : St} {a' : Act} {w' : World} {A' : Area} {sp' : Sp} (hr : RS C.N s' ⟨a'.tmps, []⟩ w' A' sp')
    (hev : Ev w A (live s.loc sp) w' A' (live s'.loc sp')) (hg : ∀ k, gS ≤ k → s'.env k = s.env k) (hd : a'.defers = a.defers) :
    GS C Pt s' a' w' A' Lx sp' ∧ Ev w A (join (held s sp) Lx) w' A' (join (held s' sp') Lx) := by
  have ho : ∀ b, s'.env (oS + b) = s.env (oS + b) := fun b => hg _ (by simp only [gS, oS]; omega)
  have hoo : objs s' = objs s := by funext b o; simp only [objs, ho]
  have hE : Ev w A (held s sp) w' A' (held s' sp') := by
    unfold held; rw [hoo]; exact hev.wider (objs s)
  refine h.step hr hE (fun k hk => by rw [hg k hk]; exact h.ig k hk) (hg gS (Nat.le_refl _)) (fun b => ?_) (fun b o hb ha => ?_) hd
  · rw [ho]
    refine (h.ob b).mono (fun hx => ?_) (fun b o v ha hv => ⟨((hev.cell b o (h.rs.av b o ha).1 (h.rs.av b o ha).2).1).trans hv, hev.sub b o ha⟩)
    obtain ⟨ob, h1, h2⟩ := (h.ob b).block hx
    exact hev.block b (lt_of_heap h1) (h.rs.not_live h1 h2)
  · rw [hoo] at hb
    obtain ⟨ob, h1, h2⟩ := h.obj_block hb
    rcases hev.sup b o ha with h3 | h3 | h3
    · exact h.oa b o hb h3
    · exact h.rs.not_live h1 h2 o h3
    · exact absurd (lt_of_heap h1) (by omega)

/-- A suspended party's state lasts. -/
theorem RS.keep {N : Nat} (h : RS N s a w A sp) {w' : World} {A' L : Area} (hk : Keep w w' A A' L) (hL : ∀ b o, live s.loc sp b o → L b o) : RS N s a w' A' sp := by
  refine h.world hk.cell hk.sub (fun b cs hb => hk.blk b 0 (hL b 0 (.inl (by rw [hb]; exact fun e => by cases e)))) (fun r hr => ?_) (fun b o ha => ⟨(hk.disj b o ha).1, fun hl => (hk.disj b o ha).2 (hL b o hl)⟩)
  obtain ⟨⟨vs, T, h1, h2⟩, _⟩ := h.spb r hr
  exact ⟨vs, T, (hk.blk _ _ (hL _ (sp r).2.1 (.inr ⟨r, rfl, Nat.le_refl _, hr⟩))).trans h1, h2⟩

theorem GS.keep (h : GS C Pt s a w A Lx sp) {w' : World} {A' L : Area} (hk : Keep w w' A A' L) (hL : ∀ b o, held s sp b o → L b o) (hX : ∀ b o, Lx b o → L b o) (hP : ∀ p ∈ Pt, ∀ o, L p.1 o) : GS C Pt s a w' A' Lx sp where
  rs := h.rs.keep hk fun b o hl => hL b o (.inl hl)
  ig := h.ig
  lt b o hl := Nat.lt_of_lt_of_le (h.lt b o hl) hk.size
  ap := h.ap
  av b o ha hl := (hk.disj b o ha).2 (hX b o hl)
  x := C.st _ _ _ _ _ _ h.x ⟨hk.os, hk.tape, hk.output, hk.size, fun b o hl => hk.blk b o (hX b o hl), hk.cell, hk.sub, fun b o ha => ⟨(hk.disj b o ha).1, fun hl => (hk.disj b o ha).2 (hX b o hl)⟩⟩
  pt p hp := ⟨(hk.blk p.1 0 (hP p hp 0)).trans (h.pt p hp).1, (h.pt p hp).2.1, (h.pt p hp).2.2.1, fun o ha => (hk.disj _ o ha).2 (hP p hp o), (h.pt p hp).2.2.2.2⟩
  ob b := (h.ob b).mono (fun hx => hk.blk b 0 (hL b 0 (.inr hx))) fun b o v ha hv => ⟨hk.cell b o v ha hv, hk.sub b o ha⟩
  oa b o hb ha := (hk.disj b o ha).2 (hL b o (.inr hb))
  bs := Nat.le_trans h.bs hk.size
  dn := h.dn
  df := h.df
  ro := h.ro

/-- The outer party's step. -/
theorem GS.other (h : GS C Pt s a w A Lx sp) {w' : World} {A' Lx' : Area} {gh : AV} (hgh : isG gh = true) (hev : Ev w A Lx w' A' Lx') (hlt : ∀ b o, Lx' b o → b < w'.heap.size)
    (hav : ∀ b o, A' b o → b < w'.heap.size ∧ ¬ Lx' b o) (hx : C.X gh w' A' Lx') :
    GS C Pt (s.set gS gh) a w' A' Lx' sp ∧ Ev w A (join (held s sp) Lx) w' A' (join (held (s.set gS gh) sp) Lx') := by
  have hap : ∀ b o o', held s sp b o → ¬ Lx' b o' := fun b o o' hl hx => (hev.cell b o' (h.own_lt hl) (h.ap b o o' hl)).2 hx
  have hblk : ∀ b o, held s sp b o → w'.heap[b]? = w.heap[b]? := fun b o hl => hev.block b (h.own_lt hl) (fun o' => h.ap b o o' hl)
  have hsup : ∀ b o, A' b o → ¬ held s sp b o := by
    intro b o ha hl
    rcases hev.sup b o ha with h1 | h1 | h1
    · exact h.own_av h1 hl
    · exact h.ap b o o hl h1
    · exact absurd (h.own_lt hl) (by omega)
  have hcell : ∀ b o v, A b o → w.cell? ⟨b, o, none⟩ = some v → w'.cell? ⟨b, o, none⟩ = some v := fun b o v ha hc => (hev.cell b o (h.rs.av b o ha).1 (h.av b o ha)).1.trans hc
  have hrs : RS C.N s ⟨a.tmps, []⟩ w' A' sp := by
    refine h.rs.world hcell hev.sub (fun b cs hb => hblk b 0 (.inl (.inl (by rw [hb]; exact fun e => by cases e)))) (fun r hr => ?_) (fun b o ha => ⟨(hav b o ha).1, fun hl => hsup b o ha (.inl hl)⟩)
    obtain ⟨⟨vs, T, h1, h2⟩, _⟩ := h.rs.spb r hr
    exact ⟨vs, T, (hblk _ (sp r).2.1 (.inl (.inr ⟨r, rfl, Nat.le_refl _, hr⟩))).trans h1, h2⟩
  have hrs2 : RS C.N (s.set gS gh) ⟨a.tmps, []⟩ w' A' sp := by
    refine ⟨hrs.size, hrs.defers, fun d => ?_, hrs.loc, hrs.spb, hrs.spd, hrs.av⟩
    by_cases hd : d = gS
    · subst hd
      rw [env_set_g]
      cases gh <;> first | (cases hgh; done) | exact ⟨.any _, trivial⟩ | exact ⟨.ghost _ _ _ _, trivial⟩
    · have e : (s.set gS gh).env d = s.env d := upd_ne _ _ hd
      rw [e]; exact hrs.env d
  have hoo : objs (s.set gS gh) = objs s := by funext b o; simp only [objs, env_set_o]
  have how : held (s.set gS gh) sp = held s sp := by unfold held; rw [hoo]; rfl
  refine ⟨⟨hrs2, fun k hk => ?_, hlt, by rw [how]; exact hap, fun b o ha => (hav b o ha).2, by rw [env_set_g]; exact hx, fun p hp => ?_, fun b => ?_, fun b o hb ha => ?_, Nat.le_trans h.bs hev.size, h.dn, h.df, h.ro⟩, ?_⟩
  · by_cases e : k = gS
    · subst e; rw [env_set_g]; exact hgh
    · rw [show (s.set gS gh).env k = s.env k from upd_ne _ _ e]; exact h.ig k hk
  · obtain ⟨h1, h2, h3⟩ := h.pt p hp
    refine ⟨(hev.block p.1 (lt_of_heap h1) h3.1).trans h1, h2, fun o hl => (hev.cell p.1 o (lt_of_heap h1) (h3.1 o)).2 hl, fun o ha => ?_, by rw [env_set_o]; exact h3.2.2⟩
    rcases hev.sup _ o ha with h4 | h4 | h4
    · exact h3.2.1 o h4
    · exact h3.1 o h4
    · exact absurd (lt_of_heap h1) (by omega)
  · rw [env_set_o]
    exact (h.ob b).mono (fun hx => hblk b 0 (.inr hx)) fun b o v ha hv => ⟨hcell b o v ha hv, hev.sub b o ha⟩
  · rw [hoo] at hb; exact hsup b o ha (.inr hb)
  · rw [how]
    refine ⟨hev.os, hev.tape, hev.output, hev.size, fun b o hb hl => ?_, fun b hb hl => hev.block b hb fun o ho => hl o (.inr ho), hev.sub, fun b o ha => ?_⟩
    · simp only [join, not_or] at hl
      obtain ⟨h1, h2⟩ := hev.cell b o hb hl.2
      exact ⟨h1, by simp only [join, not_or]; exact ⟨hl.1, h2⟩⟩
    · rcases hev.sup b o ha with h1 | h1 | h1
      · exact .inl h1
      · exact .inr (.inl (.inr h1))
      · exact .inr (.inr h1)

/-- What is to be shown of one operation of a region, inside the fence. -/
def StepIn (ro : Option Nat) (P : Program) (ops : Array Oper) (o : Oper) (a : Act) (w : World) (rest : Act → World → Prop) (Q : Exit → Act → World → Prop) : Prop :=
  if Region.wanted o (yielded ops a.tmps) = true then o.wpIn (Fw ro) 0 P a w rest Q else (∀ f, o.about P w a.eval = some f → (Fw ro).fn f) ∧ rest (a.put o.dst undef) w

/-- What goes on behind a step. -/
def Goes (C : Ctx P) (Pt : List (Nat × Obj)) (s : St) (w : World) (A Lx : Area) (sp : Sp) (ds : List Deferred) (K : St → Prop) (rest : Act → World → Prop) : Prop :=
  ∀ s' a' w' A' Lx' sp', K s' → GS C Pt s' a' w' A' Lx' sp' → Ev w A (join (held s sp) Lx) w' A' (join (held s' sp') Lx') → a'.defers = ds → rest a' w'

/-- An operation's step that is known outside of rounds. -/
theorem step_up {ops : Array Oper} {o : Oper} {m : MOp} {K : St → Prop} {rest : Act → World → Prop} {Q : Exit → Act → World → Prop} (h : GS C Pt s a w A Lx sp) (hnd : ∀ c, o.op ≠ .defer c) (hm : noG m = true)
    (hv : vc1 P m s K) (hs : ∀ (K : St → Prop) (rest : Act → World → Prop) (Q : Exit → Act → World → Prop), vc1 P m s K → Next s w A sp C.N K rest →
      (if Region.wanted o (yielded ops a.tmps) = true then o.wp P ⟨a.tmps, []⟩ w rest Q ∨ (o.asks P ⟨a.tmps, []⟩ w ∧ LetsOut Q) else rest ((⟨a.tmps, []⟩ : Act).put o.dst undef) w))
    (hn : Goes C Pt s w A Lx sp a.defers K rest) : StepIn C.ro P ops o a w rest Q := by
  have hv2 := vc1_keep hm h.ig hv
  have h1 := hs _ (fun a1 w1 => a1.defers = [] ∧ ∃ s' A' sp', K s' ∧ (∀ k, gS ≤ k → s'.env k = s.env k) ∧ RS C.N s' a1 w1 A' sp' ∧ Ev w A (live s.loc sp) w1 A' (live s'.loc sp')) (NQ fun _ _ => True) hv2
    (fun s' a' w' A' sp' hk hr hev => ⟨hr.defers, s', A', sp', hk.1, hk.2, hr, hev⟩)
  have fin : ∀ a' w', Lift a.defers (fun a1 w1 => a1.defers = [] ∧ ∃ s' A' sp', K s' ∧ (∀ k, gS ≤ k → s'.env k = s.env k) ∧ RS C.N s' a1 w1 A' sp' ∧ Ev w A (live s.loc sp) w1 A' (live s'.loc sp')) a' w' → rest a' w' := by
    rintro a' w' ⟨hd, -, s', A', sp', hk, hg, hr, hev⟩
    obtain ⟨g1, g2⟩ := h.own hr hev hg hd
    exact hn s' a' w' A' Lx sp' hk g1 g2 hd
  unfold StepIn
  split at h1
  · rename_i hw
    rw [if_pos hw]
    rcases h1 with h1 | ⟨_, _, _, h1⟩
    · exact Oper.wpIn_mono (K := Lift a.defers _) fin (oper_in (t := a.tmps) (ds := a.defers) hnd (fun _ _ hh => hh.1) h1)
    · exact h1.elim
  · rename_i hw
    rw [if_neg hw]
    refine ⟨fun _ _ => trivial, fin _ _ ?_⟩
    exact put_lift (t := a.tmps) h1

end
end Go.Avm
