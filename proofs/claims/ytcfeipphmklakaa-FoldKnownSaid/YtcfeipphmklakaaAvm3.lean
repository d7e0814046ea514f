/- How the state of the layer Avm stands to a world that is written, and the shape of one operation's proof. -/
import Derived.Test.YtcfeipphmklakaaAvm2
import Derived.WalkKit
namespace Go.Avm
open Go.RowKit

theorem wrap_inK {k : IntKind} {n : Int} (h : inK k n) : k.wrap n = n := by
  cases k <;> simp [inK] at h <;> simp [IntKind.wrap, IntKind.bits, IntKind.signed] <;> (try split) <;> omega

theorem cell_alloc (w : World) (o : Obj) (b off : Nat) (h : b < w.heap.size) : (w.alloc o).cell? ⟨b, off, none⟩ = w.cell? ⟨b, off, none⟩ := by
  show (match (w.heap.push o)[b]? with | some (.cells c _ _) => _ | _ => _) = _
  rw [Array.getElem?_push, if_neg (Nat.ne_of_lt h)]
  rfl

theorem cell_alloc_new (w : World) (vs : Array Value) (T : TypeId) (off : Nat) : (w.alloc (.cells vs T)).cell? ⟨w.heap.size, off, none⟩ = vs[off]? := by
  show (match (w.heap.push _)[w.heap.size]? with | some (.cells c _ _) => _ | _ => _) = _
  rw [Array.getElem?_push, if_pos rfl]
  rfl

theorem heap_alloc (w : World) (o : Obj) (b : Nat) (h : b < w.heap.size) : (w.alloc o).heap[b]? = w.heap[b]? := by
  show (w.heap.push o)[b]? = _
  rw [Array.getElem?_push, if_neg (Nat.ne_of_lt h)]

theorem heap_alloc_at (w : World) (o : Obj) : (w.alloc o).heap[w.heap.size]? = some o := by
  show (w.heap.push o)[w.heap.size]? = _
  rw [Array.getElem?_push, if_pos rfl]

theorem alloc_size (w : World) (o : Obj) : (w.alloc o).heap.size = w.heap.size + 1 := by
  show (w.heap.push o).size = _
  simp

theorem lt_of_heap {w : World} {b : Nat} {o : Obj} (h : w.heap[b]? = some o) : b < w.heap.size := (Array.getElem?_eq_some_iff.1 h).1

theorem cell_setRow_other (w : World) (g : Nat) (cs : Array Value) (b off : Nat) (h : b ≠ g) : (w.setRow g cs).cell? ⟨b, off, none⟩ = w.cell? ⟨b, off, none⟩ := by
  simp [World.cell?, setRow_other w g b cs h]

theorem size_setRow (w : World) (g : Nat) (cs : Array Value) : (w.setRow g cs).heap.size = w.heap.size := by simp [World.setRow]

theorem setRow_other' (w : World) (g k : Nat) (cs : Array Value) (h : k ≠ g) : (w.setRow g cs).heap[k]? = w.heap[k]? := setRow_other w g k cs h

variable {N : Nat} {s : St} {a : Act} {w : World} {A : Area} {sp : Sp}

theorem live_dem (r : Nat) {b o : Nat} (h : live (s.dem r).loc (upd sp r (0, 0, 0)) b o) : live s.loc sp b o := by
  rcases h with h | ⟨q, hq⟩
  · exact .inl (by intro hn; exact h (by simp [St.dem, hn]))
  · refine .inr ⟨q, ?_⟩
    simp only [upd] at hq; split at hq
    · dsimp only at hq; omega
    · exact hq

theorem OwnOK.dem (r : Nat) {x : AV} {v : Value} (h : OwnOK sp x v) : OwnOK (upd sp r (0, 0, 0)) (demote r x) v := by
  cases x with
  | slice sz xs r' =>
    simp only [demote]
    split
    · cases v with
      | slice a len cap => cases a with
        | some a => exact .inl rfl
        | none => trivial
      | _ => trivial
    · rename_i hne
      cases v with
      | slice a len cap => cases a with
        | some a => simpa [OwnOK, upd, hne] using h
        | none => trivial
      | _ => trivial
  | _ => trivial

theorem RS.dem (h : RS N s a w A sp) (r : Nat) : RS N (s.dem r) a w A (upd sp r (0, 0, 0)) where
  size := h.size
  defers := h.defers
  env d := ⟨(h.env d).1.demote r, (h.env d).2.dem r⟩
  loc b cs hb := by
    simp only [St.dem, Option.map_eq_some_iff] at hb
    obtain ⟨cs', hcs, rfl⟩ := hb
    obtain ⟨vs, T, h1, h2, h3⟩ := h.loc b cs' hcs
    refine ⟨vs, T, h1, by simpa using h2, fun i => ?_⟩
    by_cases hi : i < cs'.length
    · have := h3 i
      simp only [List.getD_eq_getElem?_getD, List.getElem?_map, List.getElem?_eq_getElem hi, Option.map_some, Option.getD_some] at this ⊢
      exact ⟨this.1.demote r, this.2.dem r⟩
    · simp only [List.getD_eq_getElem?_getD, List.getElem?_map, List.getElem?_eq_none (Nat.le_of_not_lt hi), Option.map_none, Option.getD_none]
      exact ⟨.any _, trivial⟩
  spb q hq := by
    simp only [upd] at hq ⊢
    split at hq
    · dsimp only at hq; omega
    · rename_i hne
      simp only [hne, if_false]
      obtain ⟨h1, h2⟩ := h.spb q hq
      exact ⟨h1, by simp [St.dem, h2]⟩
  spd q q' hqq h1 h2 := by
    simp only [upd] at h1 h2 ⊢
    split at h1
    · dsimp only at h1; omega
    · split at h2
      · dsimp only at h2; omega
      · rename_i n1 n2
        simp only [n1, n2, if_false]
        exact h.spd q q' hqq h1 h2
  av b o ha := ⟨(h.av b o ha).1, fun hl => (h.av b o ha).2 (live_dem r hl)⟩

theorem RS.disj (h : RS N s a w A sp) : ∀ b o, A b o → b < w.heap.size ∧ ¬ live s.loc sp b o := h.av

theorem Ev.dem (r : Nat) : Ev w A (live s.loc sp) w A (live (s.dem r).loc (upd sp r (0, 0, 0))) :=
  ⟨rfl, rfl, rfl, Nat.le_refl _, fun _ _ _ h => ⟨rfl, fun hl => h (live_dem r hl)⟩, fun _ _ _ => rfl, fun _ _ h => h, fun _ _ h => .inl h⟩

theorem RS.world (h : RS N s a w A sp) {w' : World} {A' : Area} (hc : ∀ b o v, A b o → w.cell? ⟨b, o, none⟩ = some v → w'.cell? ⟨b, o, none⟩ = some v)
    (hA : ∀ b o, A b o → A' b o) (hloc : ∀ b cs, s.loc b = some cs → w'.heap[b]? = w.heap[b]?)
    (hsp : ∀ r, (sp r).2.1 < (sp r).2.2 → ∃ vs T, w'.heap[(sp r).1]? = some (.cells vs T (0, 0)) ∧ (sp r).2.2 ≤ vs.size)
    (hav : ∀ b o, A' b o → b < w'.heap.size ∧ ¬ live s.loc sp b o) : RS N s a w' A' sp where
  size := h.size
  defers := h.defers
  env d := ⟨(h.env d).1.mono fun b o v ha hv => ⟨hc b o v ha hv, hA b o ha⟩, (h.env d).2⟩
  loc b cs hb := by
    obtain ⟨vs, T, h1, h2, h3⟩ := h.loc b cs hb
    exact ⟨vs, T, (hloc b cs hb).trans h1, h2, fun i => ⟨(h3 i).1.mono fun b o v ha hv => ⟨hc b o v ha hv, hA b o ha⟩, (h3 i).2⟩⟩
  spb r hr := ⟨hsp r hr, (h.spb r hr).2⟩
  spd := h.spd
  av := hav

theorem RS.loc_lt (h : RS N s a w A sp) {b : Nat} {cs : List AV} (hb : s.loc b = some cs) : b < w.heap.size := by
  obtain ⟨vs, T, h1, _⟩ := h.loc b cs hb
  exact lt_of_heap h1

theorem RS.fresh (h : RS N s a w A sp) : s.loc w.heap.size = none := by
  cases hb : s.loc w.heap.size with
  | none => rfl
  | some cs => exact absurd (h.loc_lt hb) (Nat.lt_irrefl _)

theorem RS.spare_lt (h : RS N s a w A sp) {b o : Nat} (hs : spare sp b o) : b < w.heap.size := by
  obtain ⟨r, h1, h2, h3⟩ := hs
  obtain ⟨⟨vs, T, hv, _⟩, _⟩ := h.spb r (by omega)
  exact h1 ▸ lt_of_heap hv

theorem RS.live_lt (h : RS N s a w A sp) {b o : Nat} (hs : live s.loc sp b o) : b < w.heap.size := by
  rcases hs with h1 | h1
  · cases hb : s.loc b with
    | none => exact absurd hb h1
    | some cs => exact h.loc_lt hb
  · exact h.spare_lt h1

/-- A new row of cells, the first k of which are never written again. -/
theorem RS.alloc (h : RS N s a w A sp) (vs : Array Value) (T : TypeId) (k : Nat) (hk : k ≤ vs.size) :
    RS N s a (w.alloc (.cells vs T)) (fun b o => A b o ∨ (b = w.heap.size ∧ o < k)) sp := by
  refine h.world (fun b o v ha hv => by rw [cell_alloc _ _ _ _ (h.av b o ha).1]; exact hv) (fun b o ha => .inl ha)
    (fun b cs hb => heap_alloc _ _ _ (h.loc_lt hb)) (fun r hr => ?_) ?_
  · obtain ⟨⟨vs, T, hv, hs⟩, _⟩ := h.spb r hr
    exact ⟨vs, T, by rw [heap_alloc _ _ _ (lt_of_heap hv)]; exact hv, hs⟩
  · rintro b o (ha | ⟨rfl, ho⟩)
    · exact ⟨by have := (h.av b o ha).1; rw [alloc_size]; omega, (h.av b o ha).2⟩
    · exact ⟨by rw [alloc_size]; omega, fun hl => absurd (h.live_lt hl) (Nat.lt_irrefl _)⟩

theorem RS.evAlloc (h : RS N s a w A sp) (o : Obj) (k : Nat) : Ev w A (live s.loc sp) (w.alloc o) (fun b o => A b o ∨ (b = w.heap.size ∧ o < k)) (live s.loc sp) :=
  ⟨rfl, rfl, rfl, by rw [alloc_size]; omega, fun b o hb hl => ⟨cell_alloc _ _ _ _ hb, hl⟩, fun b hb _ => heap_alloc _ _ _ hb, fun _ _ ha => .inl ha,
    fun b o ha => ha.elim .inl fun q => .inr (.inr (by omega))⟩

/-- A draw. -/
theorem RS.drew (h : RS N s a w A sp) : RS N s a w.drew A sp := h.world (fun _ _ _ _ hv => hv) (fun _ _ ha => ha) (fun _ _ _ => rfl) (fun r hr => (h.spb r hr).1) h.av
theorem Ev.drew (L : Area) : Ev w A L w.drew A L := ⟨rfl, rfl, rfl, Nat.le_refl _, fun _ _ _ h => ⟨rfl, h⟩, fun _ _ _ => rfl, fun _ _ h => h, fun _ _ h => .inl h⟩

/-- The last part of a new row becomes a spare. -/
theorem RS.newSpare (h : RS N s a w A sp) (r : Nat) (hrs : ∀ d sz xs, s.env d ≠ .slice sz xs r)
    (hrl : ∀ b cs, s.loc b = some cs → ∀ i sz xs, cs.getD i .any ≠ .slice sz xs r)
    (g lo hi : Nat) (hg : lo < hi → (∃ vs T, w.heap[g]? = some (.cells vs T (0, 0)) ∧ hi ≤ vs.size) ∧ s.loc g = none)
    (hd : ∀ q, q ≠ r → lo < hi → (sp q).2.1 < (sp q).2.2 → (sp q).1 = g → (sp q).2.2 ≤ lo ∨ hi ≤ (sp q).2.1) (hA : ∀ o, A g o → o < lo ∨ hi ≤ o) :
    RS N s a w A (upd sp r (g, lo, hi)) where
  size := h.size
  defers := h.defers
  env d := by
    refine ⟨(h.env d).1, ?_⟩
    have := (h.env d).2
    cases hx : s.env d with
    | slice sz xs q =>
      rw [hx] at this
      have hq : q ≠ r := fun e => hrs d sz xs (e ▸ hx)
      cases hv : a.tmps.getD d undef with
      | slice a len cap => cases a with
        | some a => rw [hv] at this; simpa [OwnOK, upd, hq] using this
        | none => trivial
      | _ => trivial
    | _ => trivial
  loc b cs hb := by
    obtain ⟨vs, T, h1, h2, h3⟩ := h.loc b cs hb
    refine ⟨vs, T, h1, h2, fun i => ⟨(h3 i).1, ?_⟩⟩
    have := (h3 i).2
    cases hx : cs.getD i .any with
    | slice sz xs q =>
      rw [hx] at this
      have hq : q ≠ r := fun e => hrl b cs hb i sz xs (e ▸ hx)
      cases hv : vs.getD i undef with
      | slice a len cap => cases a with
        | some a => rw [hv] at this; simpa [OwnOK, upd, hq] using this
        | none => trivial
      | _ => trivial
    | _ => trivial
  spb q hq := by
    simp only [upd] at hq ⊢
    split
    · rename_i he; simp only [he, if_true] at hq; exact hg hq
    · rename_i hne; simp only [hne, if_false] at hq; exact h.spb q hq
  spd q q' hqq h1 h2 h3 := by
    by_cases e1 : q = r <;> by_cases e2 : q' = r
    · exact absurd (e1.trans e2.symm) hqq
    · subst e1; simp only [upd, e2, if_true, if_false] at h1 h2 h3 ⊢
      have := hd q' e2 h1 h2 h3.symm; omega
    · subst e2; simp only [upd, e1, if_true, if_false] at h1 h2 h3 ⊢
      have := hd q e1 h2 h1 h3; omega
    · simp only [upd, e1, e2, if_false] at h1 h2 h3 ⊢
      exact h.spd q q' hqq h1 h2 h3
  av b o ha := by
    refine ⟨(h.av b o ha).1, ?_⟩
    rintro (hl' | ⟨q, hq⟩)
    · exact (h.av b o ha).2 (.inl hl')
    · simp only [upd] at hq
      split at hq
      · obtain ⟨rfl, hq1, hq2⟩ := hq
        have := hA o ha; simp only at hq1 hq2; omega
      · exact (h.av b o ha).2 (.inr ⟨q, hq⟩)

theorem dem_env_ne (s : St) (r : Nat) (hr : r ≠ 0) (d sz : Nat) (xs : List AV) : (s.dem r).env d ≠ .slice sz xs r := by
  intro h
  simp only [St.dem] at h
  cases hx : s.env d <;> rw [hx] at h <;> simp only [demote] at h <;> try exact AV.noConfusion h
  split at h
  · injection h with _ _ h; exact hr h.symm
  · injection h with _ _ h; contradiction

theorem dem_env_keep (s : St) (r q : Nat) (hr : r ≠ 0) (h : ∀ d sz xs, s.env d ≠ .slice sz xs r) (d sz : Nat) (xs : List AV) : (s.dem q).env d ≠ .slice sz xs r := by
  intro he
  simp only [St.dem] at he
  cases hx : s.env d <;> rw [hx] at he <;> simp only [demote] at he <;> try exact AV.noConfusion he
  split at he
  · injection he with _ _ he; exact hr he.symm
  · injection he with _ _ he; exact h d _ _ (by rw [hx, he])

theorem demote_ne {x : AV} (r : Nat) (hr : r ≠ 0) (sz : Nat) (xs : List AV) : demote r x ≠ .slice sz xs r := by
  intro h
  cases x <;> simp only [demote] at h <;> try exact AV.noConfusion h
  split at h
  · injection h with _ _ h; exact hr h.symm
  · injection h with _ _ h; contradiction

theorem demote_ne_keep {x : AV} (r q : Nat) (hr : r ≠ 0) (sz : Nat) (xs : List AV) (hx : ∀ sz xs, x ≠ .slice sz xs r) : demote q x ≠ .slice sz xs r := by
  intro h
  cases x with
  | slice sz' xs' r' =>
    simp only [demote] at h
    split at h
    · injection h with _ _ h; exact hr h.symm
    · injection h with _ _ h; exact hx sz' xs' (by rw [h])
  | _ => exact AV.noConfusion h

theorem dem_loc_ne (s : St) (r : Nat) (hr : r ≠ 0) (b : Nat) (cs : List AV) (hb : (s.dem r).loc b = some cs) (i sz : Nat) (xs : List AV) : cs.getD i .any ≠ .slice sz xs r := by
  simp only [St.dem, Option.map_eq_some_iff] at hb
  obtain ⟨cs', _, rfl⟩ := hb
  by_cases hi : i < cs'.length
  · simp only [List.getD_eq_getElem?_getD, List.getElem?_map, List.getElem?_eq_getElem hi, Option.map_some, Option.getD_some]
    exact demote_ne r hr sz xs
  · simp only [List.getD_eq_getElem?_getD, List.getElem?_map, List.getElem?_eq_none (Nat.le_of_not_lt hi), Option.map_none, Option.getD_none]
    exact fun h => AV.noConfusion h

/-- One operation: what is to be shown of it (vc) gives its own wp. -/
def Sound (P : Program) (N : Nat) (o : Oper) (m : MOp) : Prop :=
  ∀ (s : St) (a : Act) (w : World) (A : Area) (sp : Sp) (K : St → Prop) (next : Act → World → Prop) (Q : Exit → Act → World → Prop),
    RS N s a w A sp → vc1 P m s K →
    (∀ s' a' w' A' sp', K s' → RS N s' a' w' A' sp' → Ev w A (live s.loc sp) w' A' (live s'.loc sp') → next a' w') →
    o.wp P a w next Q

/-- An operation that leaves the world alone. -/
theorem fin {P : Program} {o : Oper} {K : St → Prop} {next : Act → World → Prop} {Q : Exit → Act → World → Prop} {d : Nat} {x : AV} {v : Value}
    (h : RS N s a w A sp) (hd : o.dst = some d) (hN : d < N) (hrun : (execOp a.eval o).run P w = .ok (.value v) w)
    (hr : RV w A x v) (ho : OwnOK sp x v) (hk : K (s.set d x))
    (hn : ∀ s' a' w' A' sp', K s' → RS N s' a' w' A' sp' → Ev w A (live s.loc sp) w' A' (live s'.loc sp') → next a' w') : o.wp P a w next Q := by
  unfold Oper.wp
  rw [hrun, Oper.upon_value, hd]
  exact hn _ _ _ _ _ hk (h.put hN hr ho) (.refl _ _ _)

/-- An operation that makes or writes. -/
theorem fin' {P : Program} {o : Oper} {K : St → Prop} {next : Act → World → Prop} {Q : Exit → Act → World → Prop} {d : Nat} {x : AV} {v : Value}
    {s1 : St} {w1 : World} {A1 : Area} {sp1 : Sp}
    (h : RS N s1 a w1 A1 sp1) (hev : Ev w A (live s.loc sp) w1 A1 (live s1.loc sp1)) (hd : o.dst = some d) (hN : d < N) (hrun : (execOp a.eval o).run P w = .ok (.value v) w1)
    (hr : RV w1 A1 x v) (ho : OwnOK sp1 x v) (hk : K (s1.set d x))
    (hn : ∀ s' a' w' A' sp', K s' → RS N s' a' w' A' sp' → Ev w A (live s.loc sp) w' A' (live s'.loc sp') → next a' w') : o.wp P a w next Q := by
  unfold Oper.wp
  rw [hrun, Oper.upon_value, hd]
  exact hn _ _ _ _ _ hk (h.put hN hr ho) hev

end Go.Avm
