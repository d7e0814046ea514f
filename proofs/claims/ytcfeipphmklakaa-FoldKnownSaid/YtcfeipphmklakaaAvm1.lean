/- The abstract values of the layer Avm, what they say of a world, and how they last. -/
import Derived.Calls
namespace Go.Avm

inductive AV where
  | any
  | lit (v : Value)
  | slice (sz : Nat) (xs : List AV) (own : Nat)
  | ref (cells : List AV)
  | mref (b off : Nat)
  | mslice (b off len cap sz : Nat)
  | agg (cells : List AV)
  | tuple (vs : List AV)
  | func (fn : Fn) (first cap : List AV)
  | ghost (l : Nat) (rest : List (List AV)) (stop : Bool)
  | mapr (b : Nat)
  deriving Inhabited

def AV.cells : AV → List AV
  | .agg cs => cs
  | .any => []
  | .ghost .. => []
  | v => [v]

def AV.cell1 : AV → Bool
  | .lit _ | .slice .. | .ref _ | .mref .. | .mslice .. | .func .. | .mapr _ => true
  | _ => false

def flat : Value → Bool
  | .bool _ | .int _ _ | .string _ | .pointer none | .nilFunc | .nilIface | .map none => true
  | _ => false

abbrev Area := Nat → Nat → Prop

inductive RV (w : World) (A : Area) : AV → Value → Prop
  | any (v : Value) : RV w A .any v
  | ghost (l : Nat) (rest : List (List AV)) (stop : Bool) (v : Value) : RV w A (.ghost l rest stop) v
  | lit (v : Value) (h : flat v = true) : RV w A (.lit v) v
  | nils (sz own : Nat) : RV w A (.slice sz [] own) (.slice none 0 0)
  | slice (sz : Nat) (xs : List AV) (own b off cap : Nat) (vs : Nat → Value)
      (hsz : ∀ x ∈ xs, x.cells.length = sz) (h1c : ∀ x ∈ xs, x.cells.all AV.cell1 = true) (hcap : xs.length ≤ cap) (hlen : xs.length ≤ 140737488355328)
      (hc : ∀ i, i < xs.length * sz → w.cell? ⟨b, off + i, none⟩ = some (vs i) ∧ A b (off + i))
      (hr : ∀ i, RV w A ((xs.flatMap AV.cells).getD i .any) (vs i)) :
      RV w A (.slice sz xs own) (.slice (some ⟨b, off, none⟩) xs.length cap)
  | ref (cs : List AV) (b off : Nat) (vs : Nat → Value)
      (hc : ∀ i, i < cs.length → w.cell? ⟨b, off + i, none⟩ = some (vs i) ∧ A b (off + i))
      (hr : ∀ i, RV w A (cs.getD i .any) (vs i)) : RV w A (.ref cs) (.pointer (some ⟨b, off, none⟩))
  | mref (b off : Nat) : RV w A (.mref b off) (.pointer (some ⟨b, off, none⟩))
  | mapr (b : Nat) : RV w A (.mapr b) (.map (some b))
  | mslice (b off len cap sz : Nat) (h : len ≤ cap) : RV w A (.mslice b off len cap sz) (.slice (some ⟨b, off, none⟩) len cap)
  | agg (xs : List AV) (vs : Array Value) (hs : vs.size = xs.length) (hr : ∀ i, RV w A (xs.getD i .any) (vs.getD i undef)) :
      RV w A (.agg xs) (.agg vs)
  | tuple (xs : List AV) (vs : Array Value) (hs : vs.size = xs.length) (hr : ∀ i, RV w A (xs.getD i .any) (vs.getD i undef)) :
      RV w A (.tuple xs) (.tuple vs)
  | func (fn : Fn) (fs cs : List AV) (vf vc : Array Value) (hsf : vf.size = fs.length) (hsc : vc.size = cs.length)
      (hf : ∀ i, RV w A (fs.getD i .any) (vf.getD i undef)) (hc : ∀ i, RV w A (cs.getD i .any) (vc.getD i undef)) :
      RV w A (.func fn fs cs) (.func fn vf vc)

theorem RV.mono {w w' : World} {A A' : Area} (h : ∀ b o v, A b o → w.cell? ⟨b, o, none⟩ = some v → w'.cell? ⟨b, o, none⟩ = some v ∧ A' b o)
    {x : AV} {v : Value} (hr : RV w A x v) : RV w' A' x v := by
  induction hr with
  | any v => exact .any v
  | ghost l rest stop v => exact .ghost l rest stop v
  | lit v hf => exact .lit v hf
  | nils sz own => exact .nils sz own
  | slice sz xs own b off cap vs hsz h1c hcap hlen hc _ ih =>
    exact .slice sz xs own b off cap vs hsz h1c hcap hlen (fun i hi => h _ _ _ (hc i hi).2 (hc i hi).1) ih
  | ref cs b off vs hc _ ih => exact .ref cs b off vs (fun i hi => h _ _ _ (hc i hi).2 (hc i hi).1) ih
  | mref b off => exact .mref b off
  | mapr b => exact .mapr b
  | mslice b off len cap sz hl => exact .mslice b off len cap sz hl
  | agg xs vs hs _ ih => exact .agg xs vs hs ih
  | tuple xs vs hs _ ih => exact .tuple xs vs hs ih
  | func fn fs cs vf vc hsf hsc _ _ ihf ihc => exact .func fn fs cs vf vc hsf hsc ihf ihc

/-- The owner's mark of a slice is no part of what it says. -/
theorem RV.own {w : World} {A : Area} {sz : Nat} {xs : List AV} {r r' : Nat} {v : Value} (h : RV w A (.slice sz xs r) v) : RV w A (.slice sz xs r') v := by
  cases h with
  | nils => exact .nils sz r'
  | slice _ _ _ b off cap vs hsz h1c hcap hlen hc hr => exact .slice sz xs r' b off cap vs hsz h1c hcap hlen hc hr

def demote (r : Nat) : AV → AV
  | .slice sz xs r' => if r' = r then .slice sz xs 0 else .slice sz xs r'
  | x => x

def AV.erase0 : AV → AV
  | .slice sz xs _ => .slice sz xs 0
  | x => x

def AV.erase : AV → AV
  | .slice sz xs _ => .slice sz xs 0
  | .agg cs => .agg (cs.map AV.erase0)
  | x => x

theorem RV.demote {w : World} {A : Area} {x : AV} {v : Value} (r : Nat) (h : RV w A x v) : RV w A (demote r x) v := by
  cases x with
  | slice sz xs r' => simp only [Avm.demote]; split; exact h.own; exact h
  | _ => exact h

theorem RV.erase0 {w : World} {A : Area} {x : AV} {v : Value} (h : RV w A x v) : RV w A x.erase0 v := by
  cases x with
  | slice sz xs r' => exact h.own
  | _ => exact h

theorem getD_erase0 (l : List AV) (i : Nat) : (l.map AV.erase0).getD i .any = (l.getD i .any).erase0 := by
  simp only [List.getD_eq_getElem?_getD, List.getElem?_map]
  cases l[i]? <;> rfl

theorem RV.erase {w : World} {A : Area} {x : AV} {v : Value} (h : RV w A x v) : RV w A x.erase v := by
  cases x with
  | slice sz xs r' => exact h.own
  | agg cs => cases h with
    | agg _ vs hs hr => exact .agg _ _ (by simpa using hs) fun i => by rw [getD_erase0]; exact (hr i).erase0
  | _ => exact h

theorem cells_erase (x : AV) : x.erase.cells = x.cells.map AV.erase0 := by cases x <;> rfl

abbrev Sp := Nat → Nat × Nat × Nat

def spare (sp : Sp) : Area := fun b o => ∃ r, (sp r).1 = b ∧ (sp r).2.1 ≤ o ∧ o < (sp r).2.2

structure St where
  env : Nat → AV
  loc : Nat → Option (List AV)

def live (loc : Nat → Option (List AV)) (sp : Sp) : Area := fun b o => loc b ≠ none ∨ spare sp b o

def OwnOK (sp : Sp) : AV → Value → Prop
  | .slice sz _ r, .slice (some a) len cap => r = 0 ∨ sp r = (a.block, a.off + len * sz, a.off + cap * sz)
  | _, _ => True

structure RS (N : Nat) (s : St) (a : Act) (w : World) (A : Area) (sp : Sp) : Prop where
  size : a.tmps.size = N
  defers : a.defers = []
  env : ∀ d, RV w A (s.env d) (a.tmps.getD d undef) ∧ OwnOK sp (s.env d) (a.tmps.getD d undef)
  loc : ∀ b cs, s.loc b = some cs → ∃ vs T, w.heap[b]? = some (.cells vs T (0, 0)) ∧ vs.size = cs.length ∧
    ∀ i, RV w A (cs.getD i .any) (vs.getD i undef) ∧ OwnOK sp (cs.getD i .any) (vs.getD i undef)
  spb : ∀ r, (sp r).2.1 < (sp r).2.2 → (∃ vs T, w.heap[(sp r).1]? = some (.cells vs T (0, 0)) ∧ (sp r).2.2 ≤ vs.size) ∧ s.loc (sp r).1 = none
  spd : ∀ r r', r ≠ r' → (sp r).2.1 < (sp r).2.2 → (sp r').2.1 < (sp r').2.2 → (sp r).1 = (sp r').1 → (sp r).2.2 ≤ (sp r').2.1 ∨ (sp r').2.2 ≤ (sp r).2.1
  av : ∀ b o, A b o → b < w.heap.size ∧ ¬ live s.loc sp b o

structure Ev (w : World) (A L : Area) (w' : World) (A' L' : Area) : Prop where
  os : w'.os = w.os
  tape : w'.tape = w.tape
  output : w'.output = w.output
  size : w.heap.size ≤ w'.heap.size
  cell : ∀ b o, b < w.heap.size → ¬ L b o → w'.cell? ⟨b, o, none⟩ = w.cell? ⟨b, o, none⟩ ∧ ¬ L' b o
  block : ∀ b, b < w.heap.size → (∀ o, ¬ L b o) → w'.heap[b]? = w.heap[b]?
  sub : ∀ b o, A b o → A' b o
  sup : ∀ b o, A' b o → A b o ∨ L b o ∨ w.heap.size ≤ b

theorem Ev.refl (w : World) (A L : Area) : Ev w A L w A L :=
  ⟨rfl, rfl, rfl, Nat.le_refl _, fun _ _ _ h => ⟨rfl, h⟩, fun _ _ _ => rfl, fun _ _ h => h, fun _ _ h => .inl h⟩

theorem Ev.trans {w w1 w2 : World} {A L A1 L1 A2 L2 : Area} (h : Ev w A L w1 A1 L1) (k : Ev w1 A1 L1 w2 A2 L2) : Ev w A L w2 A2 L2 where
  os := k.os.trans h.os
  tape := k.tape.trans h.tape
  output := k.output.trans h.output
  size := Nat.le_trans h.size k.size
  cell b o hb hl := by
    have h1 := h.cell b o hb hl
    have h2 := k.cell b o (Nat.lt_of_lt_of_le hb h.size) h1.2
    exact ⟨h2.1.trans h1.1, h2.2⟩
  block b hb hl := (k.block b (Nat.lt_of_lt_of_le hb h.size) fun o => (h.cell b o hb (hl o)).2).trans (h.block b hb hl)
  sub b o ha := k.sub b o (h.sub b o ha)
  sup b o ha := by
    rcases k.sup b o ha with h1 | h1 | h1
    · exact h.sup b o h1
    · by_cases hb : b < w.heap.size
      · by_cases hl : L b o
        · exact .inr (.inl hl)
        · exact absurd h1 (h.cell b o hb hl).2
      · exact .inr (.inr (by omega))
    · exact .inr (.inr (Nat.le_trans h.size h1))

/-- What is said of never-written cells lasts. -/
theorem Ev.mono {w w' : World} {A L A' L' : Area} (h : Ev w A L w' A' L') (hd : ∀ b o, A b o → b < w.heap.size ∧ ¬ L b o) {x : AV} {v : Value}
    (hr : RV w A x v) : RV w' A' x v :=
  hr.mono fun b o v ha hc => ⟨((h.cell b o (hd b o ha).1 (hd b o ha).2).1).trans hc, h.sub b o ha⟩

def upd {α : Type} (f : Nat → α) (d : Nat) (x : α) : Nat → α := fun k => if k = d then x else f k

theorem upd_same {α : Type} (f : Nat → α) (d : Nat) (x : α) : upd f d x d = x := by simp [upd]
theorem upd_ne {α : Type} (f : Nat → α) {d k : Nat} (x : α) (h : k ≠ d) : upd f d x k = f k := by simp [upd, h]

theorem upd_comm {α : Type} (f : Nat → α) {d d' : Nat} (x y : α) (h : d ≠ d') : upd (upd f d x) d' y = upd (upd f d' y) d x := by
  funext k; simp only [upd]; split <;> split <;> simp_all

theorem RS.put {N : Nat} {s : St} {a : Act} {w : World} {A : Area} {sp : Sp} (h : RS N s a w A sp) {d : Nat} (hd : d < N) {x : AV} {v : Value}
    (hr : RV w A x v) (ho : OwnOK sp x v) : RS N { s with env := upd s.env d x } (a.put (some d) v) w A sp where
  size := by simp [Act.put, h.size]
  defers := h.defers
  env k := by
    by_cases hk : k = d
    · subst hk
      have : (a.tmps.setIfInBounds k v).getD k undef = v := by
        simp [Array.getD_eq_getD_getElem?, h.size, hd]
      simp only [Act.put, this, upd_same]; exact ⟨hr, ho⟩
    · have : (a.tmps.setIfInBounds d v).getD k undef = a.tmps.getD k undef := by
        simp [Array.getD_eq_getD_getElem?, Array.getElem?_setIfInBounds, Ne.symm hk]
      simp only [Act.put, this, upd_ne _ _ hk]; exact h.env k
  loc := h.loc
  spb := h.spb
  spd := h.spd
  av := h.av

theorem OwnOK.of_not {sp : Sp} {x : AV} {v : Value} (h : ∀ sz xs r, x = .slice sz xs r → r = 0) : OwnOK sp x v := by
  cases x with
  | slice sz xs r => cases v with
    | slice a len cap => cases a with
      | some a => exact .inl (h _ _ _ rfl)
      | none => trivial
    | _ => trivial
  | _ => trivial

theorem OwnOK.erase {sp : Sp} {x : AV} {v : Value} : OwnOK sp x.erase v :=
  .of_not (by intro sz xs r h; cases x <;> simp_all [AV.erase])

theorem OwnOK.erase0 {sp : Sp} {x : AV} {v : Value} : OwnOK sp x.erase0 v :=
  .of_not (by intro sz xs r h; cases x <;> simp_all [AV.erase0])

end Go.Avm
