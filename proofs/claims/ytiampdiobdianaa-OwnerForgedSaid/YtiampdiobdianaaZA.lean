/- The abstract values of the layer Avm, what they say of a world, and how they last. Parties over one world; a call that is part of its caller's party. The resolved code of the layer Avm, and what is to be shown of it. How the state of the layer Avm stands to a world that is written, and the shape of one operation's proof. From the model's operations to the resolved ones. Each resolved operation is sound: those that leave the world alone. Each resolved operation is sound: arithmetic and the rest of those that leave the world alone. Each resolved operation is sound: those that make or write. Each resolved operation is sound: stores, literals, appends, calls. Each resolved operation is sound: appends, literals, calls. Each resolved operation is sound: appends. Each resolved operation is sound: literals, calls. Each resolved operation is sound: literals of slices, calls. Each resolved operation is sound: structs compared, calls, guards; a region in the text's order. Each resolved operation is sound: a slice is made; a slice is copied into a mutable one. Each resolved operation is sound: a slice with no room is made; what is appended to it makes a slice that may be written. Each resolved operation is sound: calls and copies that look at a mutable slice. The resolved operations are sound. -/
import Derived.Calls
import Derived.RangeFuncNested
import Derived.OrdersIn
import Derived.KernelRfl
import Derived.WalkKit
import Derived.Laws.StructEq
import Derived.ChangeKeysEq
import Derived.Laws.MakeOwn
import Derived.Laws.CopyRow
namespace Go.Avm

inductive AV where
  | any
  | lit (v : Value)
  | slice (sz : Nat) (xs : List AV) (own : Nat)
  | ref (cells : List AV)
  | mref (b off : Nat)
  | mslice (b off len cap sz : Nat)
  | agg (cells : List AV)
  | tuple (vs : List AV)
  | func (fn : Fn) (first cap : List AV)
  | ghost (l : Nat) (rest : List (List AV)) (stop : Bool)
  | mapr (b : Nat)
  | fmap (es : List (List AV))
  | deep (x : AV)
  deriving Inhabited

def AV.cells : AV → List AV
  | .agg cs => cs
  | .any => []
  | .deep _ => []
  | .ghost .. => []
  | v => [v]

def AV.cell1 : AV → Bool
  | .lit _ | .slice .. | .ref _ | .mref .. | .mslice .. | .func .. | .mapr _ | .fmap _ => true
  | _ => false

def flat : Value → Bool
  | .bool _ | .int _ _ | .string _ | .pointer none | .nilFunc | .nilIface | .map none | .slice none 0 0 => true
  | _ => false

abbrev Area := Nat → Nat → Prop

inductive RV (w : World) (A : Area) : AV → Value → Prop
  | any (v : Value) : RV w A .any v
  | ghost (l : Nat) (rest : List (List AV)) (stop : Bool) (v : Value) : RV w A (.ghost l rest stop) v
  | lit (v : Value) (h : flat v = true) : RV w A (.lit v) v
  | nils (sz own : Nat) : RV w A (.slice sz [] own) (.slice none 0 0)
  | slice (sz : Nat) (xs : List AV) (own b off cap : Nat) (vs : Nat → Value)
      (hsz : ∀ x ∈ xs, x.cells.length = sz) (h1c : ∀ x ∈ xs, x.cells.all AV.cell1 = true) (hcap : xs.length ≤ cap) (hlen : xs.length ≤ 140737488355328)
      (hc : ∀ i, i < xs.length * sz → w.cell? ⟨b, off + i, none⟩ = some (vs i) ∧ A b (off + i))
      (hr : ∀ i, RV w A ((xs.flatMap AV.cells).getD i .any) (vs i)) :
      RV w A (.slice sz xs own) (.slice (some ⟨b, off, none⟩) xs.length cap)
  | ref (cs : List AV) (b off : Nat) (vs : Nat → Value)
      (hc : ∀ i, i < cs.length → w.cell? ⟨b, off + i, none⟩ = some (vs i) ∧ A b (off + i))
      (hr : ∀ i, RV w A (cs.getD i .any) (vs i)) : RV w A (.ref cs) (.pointer (some ⟨b, off, none⟩))
  | mref (b off : Nat) : RV w A (.mref b off) (.pointer (some ⟨b, off, none⟩))
  | mapr (b : Nat) : RV w A (.mapr b) (.map (some b))
  | fmap (es : List (List AV)) (b : Nat) (es' : Array MapEntry) (clock : Nat) (h : w.heap[b]? = some (.map es' clock)) (ha : ∀ o, A b o) (hs : es'.size = es.length)
      (hk : ∀ i e, es'[i]? = some e → RV w A ((es.getD i []).getD 0 .any) e.key) (hv : ∀ i e, es'[i]? = some e → RV w A ((es.getD i []).getD 1 .any) e.val) : RV w A (.fmap es) (.map (some b))
  | mslice (b off len cap sz : Nat) (h : len ≤ cap) : RV w A (.mslice b off len cap sz) (.slice (some ⟨b, off, none⟩) len cap)
  | agg (xs : List AV) (vs : Array Value) (hs : vs.size = xs.length) (hr : ∀ i, RV w A (xs.getD i .any) (vs.getD i undef)) :
      RV w A (.agg xs) (.agg vs)
  | tuple (xs : List AV) (vs : Array Value) (hs : vs.size = xs.length) (hr : ∀ i, RV w A (xs.getD i .any) (vs.getD i undef)) :
      RV w A (.tuple xs) (.tuple vs)
  | func (fn : Fn) (fs cs : List AV) (vf vc : Array Value) (hsf : vf.size = fs.length) (hsc : vc.size = cs.length)
      (hf : ∀ i, RV w A (fs.getD i .any) (vf.getD i undef)) (hc : ∀ i, RV w A (cs.getD i .any) (vc.getD i undef)) :
      RV w A (.func fn fs cs) (.func fn vf vc)
  | deep (x : AV) (v : Value) (h : RV w A x v) : RV w A (.deep x) v

theorem lt_of_heap {w : World} {b : Nat} {o : Obj} (h : w.heap[b]? = some o) : b < w.heap.size := (Array.getElem?_eq_some_iff.1 h).1

def ObjKept (w w' : World) (A A' : Area) : Prop := ∀ b ob, (∀ o, A b o) → w.heap[b]? = some ob → w'.heap[b]? = some ob ∧ ∀ o, A' b o
theorem ObjKept.same {w : World} {A A' : Area} (h : ∀ b o, A b o → A' b o) : ObjKept w w A A' := fun b _ ha hb => ⟨hb, fun o => h b o (ha o)⟩
theorem ObjKept.blocks {w w' : World} {A A' : Area} (h : ∀ b o, A b o → A' b o) (hb : ∀ b, (∀ o, A b o) → b < w.heap.size → w'.heap[b]? = w.heap[b]?) : ObjKept w w' A A' := fun b _ ha hob =>
  ⟨(hb b ha (lt_of_heap hob)).trans hob, fun o => h b o (ha o)⟩

theorem RV.mono {w w' : World} {A A' : Area} (h : ∀ b o v, A b o → w.cell? ⟨b, o, none⟩ = some v → w'.cell? ⟨b, o, none⟩ = some v ∧ A' b o)
    (ho : ObjKept w w' A A') {x : AV} {v : Value} (hr : RV w A x v) : RV w' A' x v := by
  induction hr with
  | any v => exact .any v
  | ghost l rest stop v => exact .ghost l rest stop v
  | lit v hf => exact .lit v hf
  | nils sz own => exact .nils sz own
  | slice sz xs own b off cap vs hsz h1c hcap hlen hc _ ih =>
    exact .slice sz xs own b off cap vs hsz h1c hcap hlen (fun i hi => h _ _ _ (hc i hi).2 (hc i hi).1) ih
  | ref cs b off vs hc _ ih => exact .ref cs b off vs (fun i hi => h _ _ _ (hc i hi).2 (hc i hi).1) ih
  | mref b off => exact .mref b off
  | mapr b => exact .mapr b
  | fmap es b es' clock hb ha hs _ _ ihk ihv => exact .fmap es b es' clock (ho b _ ha hb).1 (ho b _ ha hb).2 hs ihk ihv
  | mslice b off len cap sz hl => exact .mslice b off len cap sz hl
  | agg xs vs hs _ ih => exact .agg xs vs hs ih
  | tuple xs vs hs _ ih => exact .tuple xs vs hs ih
  | func fn fs cs vf vc hsf hsc _ _ ihf ihc => exact .func fn fs cs vf vc hsf hsc ihf ihc
  | deep x v _ ih => exact .deep x v ih

theorem RV.own {w : World} {A : Area} {sz : Nat} {xs : List AV} {r r' : Nat} {v : Value} (h : RV w A (.slice sz xs r) v) : RV w A (.slice sz xs r') v := by
  cases h with
  | nils => exact .nils sz r'
  | slice _ _ _ b off cap vs hsz h1c hcap hlen hc hr => exact .slice sz xs r' b off cap vs hsz h1c hcap hlen hc hr

def demote (r : Nat) : AV → AV
  | .slice sz xs r' => if r' = r then .slice sz xs 0 else .slice sz xs r'
  | .deep _ => .any
  | x => x

def AV.erase0 : AV → AV
  | .slice sz xs _ => .slice sz xs 0
  | .deep _ => .any
  | x => x

def AV.erase : AV → AV
  | .slice sz xs _ => .slice sz xs 0
  | .agg cs => .agg (cs.map AV.erase0)
  | .deep _ => .any
  | x => x

theorem RV.demote {w : World} {A : Area} {x : AV} {v : Value} (r : Nat) (h : RV w A x v) : RV w A (demote r x) v := by
  cases x with
  | slice sz xs r' => simp only [Avm.demote]; split; exact h.own; exact h
  | deep x => exact .any _
  | _ => exact h

theorem RV.erase0 {w : World} {A : Area} {x : AV} {v : Value} (h : RV w A x v) : RV w A x.erase0 v := by
  cases x with
  | slice sz xs r' => exact h.own
  | deep x => exact .any _
  | _ => exact h

theorem getD_erase0 (l : List AV) (i : Nat) : (l.map AV.erase0).getD i .any = (l.getD i .any).erase0 := by
  simp only [List.getD_eq_getElem?_getD, List.getElem?_map]
  cases l[i]? <;> rfl

theorem RV.erase {w : World} {A : Area} {x : AV} {v : Value} (h : RV w A x v) : RV w A x.erase v := by
  cases x with
  | slice sz xs r' => exact h.own
  | agg cs => cases h with
    | agg _ vs hs hr => exact .agg _ _ (by simpa using hs) fun i => by rw [getD_erase0]; exact (hr i).erase0
  | deep x => exact .any _
  | _ => exact h

theorem cells_erase (x : AV) : x.erase.cells = x.cells.map AV.erase0 := by cases x <;> rfl

abbrev Sp := Nat → Nat × Nat × Nat

def spare (sp : Sp) : Area := fun b o => ∃ r, (sp r).1 = b ∧ (sp r).2.1 ≤ o ∧ o < (sp r).2.2

structure St where
  env : Nat → AV
  loc : Nat → Option (List AV)

def live (loc : Nat → Option (List AV)) (sp : Sp) : Area := fun b o => loc b ≠ none ∨ spare sp b o

def Own1 (sp : Sp) : AV → Value → Prop
  | .slice sz _ r, .slice (some a) len cap => r = 0 ∨ sp r = (a.block, a.off + len * sz, a.off + cap * sz)
  | _, _ => True
def Own2 (sp : Sp) : AV → Value → Prop
  | .agg xs, .agg vs => ∀ i, Own1 sp (xs.getD i .any) (vs.getD i undef)
  | x, v => Own1 sp x v
def OwnD (sp : Sp) : AV → Value → Prop
  | .tuple xs, .tuple vs => ∀ i, Own2 sp (xs.getD i .any) (vs.getD i undef)
  | x, v => Own2 sp x v
def OwnOK (sp : Sp) : AV → Value → Prop
  | .slice sz _ r, .slice (some a) len cap => r = 0 ∨ sp r = (a.block, a.off + len * sz, a.off + cap * sz)
  | .deep x, v => OwnD sp x v
  | _, _ => True

structure RS (N : Nat) (s : St) (a : Act) (w : World) (A : Area) (sp : Sp) : Prop where
  size : a.tmps.size = N
  defers : a.defers = []
  env : ∀ d, RV w A (s.env d) (a.tmps.getD d undef) ∧ OwnOK sp (s.env d) (a.tmps.getD d undef)
  loc : ∀ b cs, s.loc b = some cs → ∃ vs T, w.heap[b]? = some (.cells vs T (0, 0)) ∧ vs.size = cs.length ∧
    ∀ i, RV w A (cs.getD i .any) (vs.getD i undef) ∧ OwnOK sp (cs.getD i .any) (vs.getD i undef)
  spb : ∀ r, (sp r).2.1 < (sp r).2.2 → (∃ vs T, w.heap[(sp r).1]? = some (.cells vs T (0, 0)) ∧ (sp r).2.2 ≤ vs.size) ∧ s.loc (sp r).1 = none
  spd : ∀ r r', r ≠ r' → (sp r).2.1 < (sp r).2.2 → (sp r').2.1 < (sp r').2.2 → (sp r).1 = (sp r').1 → (sp r).2.2 ≤ (sp r').2.1 ∨ (sp r').2.2 ≤ (sp r).2.1
  av : ∀ b o, A b o → b < w.heap.size ∧ ¬ live s.loc sp b o

structure Ev (w : World) (A L : Area) (w' : World) (A' L' : Area) : Prop where
  os : w'.os = w.os
  tape : w'.tape = w.tape
  output : w'.output = w.output
  size : w.heap.size ≤ w'.heap.size
  cell : ∀ b o, b < w.heap.size → ¬ L b o → w'.cell? ⟨b, o, none⟩ = w.cell? ⟨b, o, none⟩ ∧ ¬ L' b o
  block : ∀ b, b < w.heap.size → (∀ o, ¬ L b o) → w'.heap[b]? = w.heap[b]?
  sub : ∀ b o, A b o → A' b o
  sup : ∀ b o, A' b o → A b o ∨ L b o ∨ w.heap.size ≤ b

theorem Ev.refl (w : World) (A L : Area) : Ev w A L w A L :=
  ⟨rfl, rfl, rfl, Nat.le_refl _, fun _ _ _ h => ⟨rfl, h⟩, fun _ _ _ => rfl, fun _ _ h => h, fun _ _ h => .inl h⟩

theorem Ev.trans {w w1 w2 : World} {A L A1 L1 A2 L2 : Area} (h : Ev w A L w1 A1 L1) (k : Ev w1 A1 L1 w2 A2 L2) : Ev w A L w2 A2 L2 where
  os := k.os.trans h.os
  tape := k.tape.trans h.tape
  output := k.output.trans h.output
  size := Nat.le_trans h.size k.size
  cell b o hb hl := by
    have h1 := h.cell b o hb hl
    have h2 := k.cell b o (Nat.lt_of_lt_of_le hb h.size) h1.2
    exact ⟨h2.1.trans h1.1, h2.2⟩
  block b hb hl := (k.block b (Nat.lt_of_lt_of_le hb h.size) fun o => (h.cell b o hb (hl o)).2).trans (h.block b hb hl)
  sub b o ha := k.sub b o (h.sub b o ha)
  sup b o ha := by
    rcases k.sup b o ha with h1 | h1 | h1
    · exact h.sup b o h1
    · by_cases hb : b < w.heap.size
      · by_cases hl : L b o
        · exact .inr (.inl hl)
        · exact absurd h1 (h.cell b o hb hl).2
      · exact .inr (.inr (by omega))
    · exact .inr (.inr (Nat.le_trans h.size h1))

theorem Ev.kept {w w' : World} {A L A' L' : Area} (h : Ev w A L w' A' L') (hd : ∀ b o, A b o → b < w.heap.size ∧ ¬ L b o) : ObjKept w w' A A' :=
  .blocks h.sub fun b ha hb => h.block b hb fun o => (hd b o (ha o)).2
theorem Ev.mono {w w' : World} {A L A' L' : Area} (h : Ev w A L w' A' L') (hd : ∀ b o, A b o → b < w.heap.size ∧ ¬ L b o) {x : AV} {v : Value}
    (hr : RV w A x v) : RV w' A' x v :=
  hr.mono (fun b o _ ha hc => ⟨((h.cell b o (hd b o ha).1 (hd b o ha).2).1).trans hc, h.sub b o ha⟩) (h.kept hd)

def upd {α : Type} (f : Nat → α) (d : Nat) (x : α) : Nat → α := fun k => if k = d then x else f k

theorem upd_same {α : Type} (f : Nat → α) (d : Nat) (x : α) : upd f d x d = x := by simp [upd]
theorem upd_ne {α : Type} (f : Nat → α) {d k : Nat} (x : α) (h : k ≠ d) : upd f d x k = f k := by simp [upd, h]

theorem upd_comm {α : Type} (f : Nat → α) {d d' : Nat} (x y : α) (h : d ≠ d') : upd (upd f d x) d' y = upd (upd f d' y) d x := by
  funext k; simp only [upd]; split <;> split <;> simp_all

theorem RS.put {N : Nat} {s : St} {a : Act} {w : World} {A : Area} {sp : Sp} (h : RS N s a w A sp) {d : Nat} (hd : d < N) {x : AV} {v : Value}
    (hr : RV w A x v) (ho : OwnOK sp x v) : RS N { s with env := upd s.env d x } (a.put (some d) v) w A sp where
  size := by simp [Act.put, h.size]
  defers := h.defers
  env k := by
    by_cases hk : k = d
    · subst hk
      have : (a.tmps.setIfInBounds k v).getD k undef = v := by
        simp [Array.getD_eq_getD_getElem?, h.size, hd]
      simp only [Act.put, this, upd_same]; exact ⟨hr, ho⟩
    · have : (a.tmps.setIfInBounds d v).getD k undef = a.tmps.getD k undef := by
        simp [Array.getD_eq_getD_getElem?, Ne.symm hk]
      simp only [Act.put, this, upd_ne _ _ hk]; exact h.env k
  loc := h.loc
  spb := h.spb
  spd := h.spd
  av := h.av

theorem OwnOK.of_not {sp : Sp} {x : AV} {v : Value} (h : ∀ sz xs r, x = .slice sz xs r → r = 0) (h2 : ∀ y, x ≠ .deep y := by intro y h; cases h) : OwnOK sp x v := by
  cases x with
  | slice sz xs r => cases v with
    | slice a len cap => cases a with
      | some a => exact .inl (h _ _ _ rfl)
      | none => trivial
    | _ => trivial
  | deep x => exact absurd rfl (h2 x)
  | _ => trivial
theorem Own1.of {sp : Sp} {x : AV} {v : Value} (h : OwnOK sp x v) : Own1 sp x v := by
  cases x with
  | slice sz xs r => cases v with
    | slice a len cap => cases a with
      | some a => exact h
      | none => trivial
    | _ => trivial
  | _ => trivial
theorem Own1.ok {sp : Sp} {x : AV} {v : Value} (h : Own1 sp x v) (hd : ∀ y, x ≠ .deep y) : OwnOK sp x v := by
  cases x with
  | slice sz xs r => cases v with
    | slice a len cap => cases a with
      | some a => exact h
      | none => trivial
    | _ => trivial
  | deep x => exact absurd rfl (hd x)
  | _ => trivial
theorem Own1.erase0 {sp : Sp} {x : AV} {v : Value} : Own1 sp x.erase0 v := by
  cases x with
  | slice sz xs r => cases v with
    | slice a len cap => cases a with
      | some a => exact .inl rfl
      | none => trivial
    | _ => trivial
  | _ => trivial
theorem Own2.erase {sp : Sp} {x : AV} {v : Value} : Own2 sp x.erase v := by
  cases x with
  | slice sz xs r => exact Own1.erase0 (x := .slice sz xs r)
  | agg cs => cases v with
    | agg vs => exact fun i => by rw [getD_erase0]; exact .erase0
    | _ => trivial
  | _ => trivial

theorem OwnOK.erase {sp : Sp} {x : AV} {v : Value} : OwnOK sp x.erase v :=
  .of_not (by intro sz xs r h; cases x <;> simp_all [AV.erase]) (by intro y h; cases x <;> simp_all [AV.erase])

theorem OwnOK.erase0 {sp : Sp} {x : AV} {v : Value} : OwnOK sp x.erase0 v :=
  .of_not (by intro sz xs r h; cases x <;> simp_all [AV.erase0]) (by intro y h; cases x <;> simp_all [AV.erase0])

end Go.Avm

namespace Go.Avm
open Go.RowKit

def isFunc (P : Program) (f : FuncId) : Bool :=
  match P.funcs[f]? with
  | some fn => fn.name != "runtime.NumGoroutine" && fn.body.isSome
  | none => false

@[irreducible] def gS : Nat := 1000000

@[irreducible] def oS : Nat := 1000001
def itAV (t : ByteArray) (pos : Nat) : AV := .ghost pos [[.lit (.string t)]] true
def mapAV (es : List (List AV)) : AV := .ghost 0 es false
def mitAV (b since : Nat) (seen : List Nat) : AV := .ghost b [[.lit (.int .i64 since)], seen.map fun (i : Nat) => .lit (.int .i64 i)] true

def isG : AV → Bool
  | .any => true
  | .ghost .. => true
  | _ => false

abbrev Fw (ro : Option Nat) : Fence := { Fence.wide with round := ro }

structure Keep (w w' : World) (A A' Lx : Area) : Prop where
  os : w'.os = w.os
  tape : w'.tape = w.tape
  output : w'.output = w.output
  size : w.heap.size ≤ w'.heap.size
  blk : ∀ b o, Lx b o → w'.heap[b]? = w.heap[b]?
  cell : ∀ b o v, A b o → w.cell? ⟨b, o, none⟩ = some v → w'.cell? ⟨b, o, none⟩ = some v
  sub : ∀ b o, A b o → A' b o
  disj : ∀ b o, A' b o → b < w'.heap.size ∧ ¬ Lx b o
  obj : ObjKept w w' A A'

def join (L M : Area) : Area := fun b o => L b o ∨ M b o

abbrev StLaw (X : AV → World → Area → Area → Prop) : Prop := ∀ gh w w' A A' Lx, X gh w A Lx → Keep w w' A A' Lx → X gh w' A' Lx

abbrev YLaw (P : Program) (X : AV → World → Area → Area → Prop) : Prop :=
  ∀ l y rest w A Lx vs, X (.ghost l (y :: rest) false) w A Lx → (∀ b o, Lx b o → b < w.heap.size) → (∀ b o, A b o → b < w.heap.size ∧ ¬ Lx b o) →
    vs.size = y.length → (∀ i, RV w A (y.getD i .any) (vs.getD i undef)) →
    ∃ fn tmps assign body, (Instr.yield l vs).run P w = .ok (.round l fn tmps assign body) w ∧
      RoundIn (Fw none) 0 P l fn tmps assign body w fun e w' => ∃ b A' Lx', e = .returned (.bool b) ∧ Ev w A Lx w' A' Lx' ∧ (∀ b o, Lx' b o → b < w'.heap.size) ∧
        (∀ b o, A' b o → b < w'.heap.size ∧ ¬ Lx' b o) ∧ X (.ghost l rest (!b)) w' A' Lx'

def mark (pos : Nat) : AV := .lit (.agg #[.int .i64 pos])
def noMark (y : List AV) : Bool := match y.getLast? with
  | some (.lit (.agg _)) => false
  | _ => true
def putAt (x : AV) (pos : Nat) (v : AV) : AV := match x, pos with
  | .agg cs, j + 1 => .agg (cs.set j v)
  | _, _ => v
def getAt (x : AV) (pos : Nat) : AV := match x, pos with
  | .agg cs, j + 1 => cs.getD j .any
  | x, _ => x
def chunk (sz : Nat) : List AV → Nat → List AV
  | _, 0 => []
  | cs, n + 1 => (if sz = 1 then (cs.getD 0 .any).erase0 else .agg ((cs.take sz).map AV.erase0)) :: chunk sz (cs.drop sz) n

def blkA (b : Nat) : Area := fun c _ => c = b
def Lent (w : World) (A : Area) (b : Nat) (cs : List AV) : Prop := ∃ vs T, w.heap[b]? = some (.cells vs T (0, 0)) ∧ vs.size = cs.length ∧ ∀ i, RV w A (cs.getD i .any) (vs.getD i undef)
def LentOK (x : AV) (pos sz len cap : Nat) (cs : List AV) : Prop := getAt x pos = .slice sz (chunk sz cs len) 0 ∧ len * sz ≤ cs.length ∧ len ≤ cap ∧ len ≤ 140737488355328 ∧ cs.all AV.cell1 = true ∧ cs.map AV.erase0 = cs

abbrev YLaw2 (P : Program) (X : AV → World → Area → Area → Prop) : Prop :=
  ∀ l x pos rest w A Lx v b sz len cap cs, X (.ghost l ([x, mark pos] :: rest) false) w A Lx → LentOK x pos sz len cap cs → (∀ b o, Lx b o → b < w.heap.size) → (∀ b o, A b o → b < w.heap.size ∧ ¬ Lx b o) →
    RV w A (putAt x pos (.mslice b 0 len cap sz)) v → Lent w A b cs → (∀ o, ¬ A b o) → (∀ o, ¬ Lx b o) →
    ∃ fn tmps assign body, (Instr.yield l #[v]).run P w = .ok (.round l fn tmps assign body) w ∧
      RoundIn (Fw none) 0 P l fn tmps assign body w fun e w' => ∃ bo A' Lx', e = .returned (.bool bo) ∧ Ev w A (join Lx (blkA b)) w' A' (join Lx' (blkA b)) ∧ (∀ b o, Lx' b o → b < w'.heap.size) ∧
        (∀ b o, A' b o → b < w'.heap.size ∧ ¬ Lx' b o) ∧ (∀ o, ¬ A' b o) ∧ (∀ o, ¬ Lx' b o) ∧ Lent w' A' b cs ∧ X (.ghost l rest (!bo)) w' A' Lx'

structure Ctx (P : Program) where
  N : Nat
  B : Nat
  ro : Option Nat
  X : AV → World → Area → Area → Prop
  st : StLaw X
  yl : YLaw P X
  yl2 : YLaw2 P X

inductive ObjOK (w : World) (A : Area) (b : Nat) : AV → Prop
  | any : ObjOK w A b .any
  | iter (t : ByteArray) (pos : Nat) (h : w.heap[b]? = some (.stringIter t pos)) : ObjOK w A b (itAV t pos)
  | map (es : List (List AV)) (es' : Array MapEntry) (clock : Nat) (h : w.heap[b]? = some (.map es' clock)) (hs : es'.size = es.length) (hc : clock = es'.size)
      (hr : ∀ i e, es'[i]? = some e → RV w A ((es.getD i []).getD 0 .any) e.key ∧ RV w A ((es.getD i []).getD 1 .any) e.val ∧ e.born = i) : ObjOK w A b (mapAV es)
  | miter (b' since : Nat) (seen : List Nat) (h : w.heap[b]? = some (.mapIter (some b') since seen.toArray since)) : ObjOK w A b (mitAV b' since seen)

def objs (s : St) : Area := fun b _ => s.env (oS + b) ≠ .any
def held (s : St) (sp : Sp) : Area := join (live s.loc sp) (objs s)

structure GS {P : Program} (C : Ctx P) (Pt : List (Nat × Obj)) (s : St) (a : Act) (w : World) (A Lx : Area) (sp : Sp) : Prop where
  rs : RS C.N s ⟨a.tmps, []⟩ w A sp
  ig : ∀ k, gS ≤ k → isG (s.env k) = true
  lt : ∀ b o, Lx b o → b < w.heap.size
  ap : ∀ b o o', held s sp b o → ¬ Lx b o'
  av : ∀ b o, A b o → ¬ Lx b o
  x : C.X (s.env gS) w A Lx
  pt : ∀ p ∈ Pt, w.heap[p.1]? = some p.2 ∧ p.2.isCells = false ∧ (∀ o, ¬ Lx p.1 o) ∧ (∀ o, ¬ A p.1 o) ∧ s.env (oS + p.1) = .any
  ob : ∀ b, ObjOK w A b (s.env (oS + b))
  oa : ∀ b o, objs s b o → ¬ A b o
  bs : C.B ≤ w.heap.size
  dn : (a.defers.map (·.target)).Nodup
  df : ∀ d ∈ a.defers, ∃ D, C.B ≤ D ∧ d = ⟨.collected D, #[]⟩ ∧ (D, .deferred (some [])) ∈ Pt
  ro : ∀ l, C.ro = some l → ∃ r, (l, .loop r) ∈ Pt

def ICall (P : Program) (f : FuncId) (xs : List AV) (s : St) (K : AV → St → Prop) : Prop :=
  isFunc P f = true ∧ ∀ (C : Ctx P) (Pt : List (Nat × Obj)) (a : Act) (w : World) (A Lx : Area) (sp : Sp) (vs : Array Value), C.N ≤ gS → GS C Pt s a w A Lx sp → vs.size = xs.length → (∀ i, RV w A (xs.getD i .any) (vs.getD i undef)) →
    Calls P f vs w fun e w' => ∃ r v s' A' Lx' sp', e = .returned v ∧ RV w' A' r v ∧ OwnOK sp' r v ∧ GS C Pt s' a w' A' Lx' sp' ∧ Ev w A (join (held s sp) Lx) w' A' (join (held s' sp') Lx') ∧ K r s'

theorem ICall.mono {P : Program} {f : FuncId} {xs : List AV} {s : St} {K K' : AV → St → Prop} (hk : ∀ r s', K r s' → K' r s') (h : ICall P f xs s K) : ICall P f xs s K' := by
  refine ⟨h.1, fun C Pt a w A Lx sp vs hN hG hs hr => (h.2 C Pt a w A Lx sp vs hN hG hs hr).mono ?_⟩
  rintro e w' ⟨r, v, s', A', Lx', sp', h1, h2, h3, h4, h5, h6⟩
  exact ⟨r, v, s', A', Lx', sp', h1, h2, h3, h4, h5, hk _ _ h6⟩
end Go.Avm

namespace Go.Avm

inductive MArg where
  | t (n : Nat)
  | c (x : AV)
  deriving Inhabited

def MArg.ev (e : Nat → AV) : MArg → AV
  | .t n => e n
  | .c x => x

inductive MOp where
  | cpy (d : Nat) (x : MArg)
  | cpyS (d : Nat) (x : MArg)
  | asg (d : Nat) (x : MArg)
  | asgNil (d sz : Nat)
  | boxI (d : Nat) (x : MArg) (n : Nat)
  | boxM (d : Nat) (x : MArg) (n : Nat)
  | alloc (d : Nat) (zero : List AV)
  | load (d : Nat) (x : MArg) (n : Option Nat)
  | store (x y : MArg) (n oid : Nat)
  | storeNil (x : MArg) (sz oid : Nat)
  | storeF (k : Nat) (y : MArg) (n : Nat)
  | addr (d : Nat) (x : MArg) (off : Nat)
  | idxS (d : Nat) (x i : MArg) (sz : Nat)
  | idxA (d : Nat) (x i : MArg) (len sz : Nat)
  | fld (d : Nat) (x : MArg) (off : Nat) (n : Option Nat)
  | idxV (d : Nat) (x i : MArg) (len sz : Nat) (n : Option Nat)
  | idxStr (d : Nat) (x i : MArg)
  | build (d : Nat) (zero : List AV) (parts : List (Nat × Nat × MArg))
  | mkS (d n sz : Nat) (zero : List AV) (parts : List (Nat × MArg))
  | len (d : Nat) (x : MArg)
  | lenStr (d : Nat) (x : MArg)
  | lenK (d n : Nat)
  | app (d : Nat) (x y : MArg) (sz bytes : Nat)
  | bin (d : Nat) (op : BinOp) (x y : MArg)
  | binB (d : Nat) (neg : Bool) (x y : MArg)
  | binA (d : Nat) (neg : Bool) (n : List Bool) (x y : MArg)
  | loadI (d : Nat) (x : MArg) (n : Option Nat)
  | loadD (d : Nat) (x : MArg) (n : Nat)
  | extD (d : Nat) (x : MArg) (i : Nat)
  | storeD (x y : MArg) (n : Nat)
  | not (d : Nat) (x : MArg)
  | neg (d : Nat) (x : MArg)
  | conv (d : Nat) (k : IntKind) (x : MArg)
  | pick (d : Nat) (c x y : MArg)
  | ext (d : Nat) (x : MArg) (i : Nat)
  | maxI (d : Nat) (x y : MArg)
  | minI (d : Nat) (x y : MArg)
  | call (d : Nat) (f : FuncId) (xs : List MArg)
  | callv (d : Nat) (x : MArg) (xs : List MArg)
  | mkfn (d : Nat) (fn : Fn) (first cap : List MArg)
  | nilchk (d : Nat) (x : MArg)
  | slcHi (d : Nat) (x hi : MArg) (sz : Nat)
  | slcLo (d : Nat) (x lo : MArg) (sz : Nat)
  | cpyE (d : Nat) (x : MArg)
  | apart (zs : List MArg) (x : MArg) (m : MOp)
  | guard (g : Nat) (want : Bool) (d : Option Nat) (m : MOp)
  | yld (d : Nat) (x : MArg) (xs : List MArg)
  | yldL (d : Nat) (x : MArg) (pos : Nat) (y : MArg)
  | icall (d : Nat) (f : FuncId) (xs : List MArg)
  | icallv (d : Nat) (x : MArg) (xs : List MArg)
  | mkM (d : Nat) (n c : MArg) (sz bytes : Nat) (zero : List AV)
  | cpyMM (d : Nat) (x y : MArg) (sz : Nat)
  | callL (d : Nat) (f : FuncId) (xs : List MArg)
  | callvL (d : Nat) (x : MArg) (xs : List MArg)
  | slcZ (d : Nat) (x hi mx : MArg) (sz : Nat)
  | slcZM (d : Nat) (x hi mx : MArg) (sz : Nat)
  | appR (d : Nat) (x y : MArg) (sz : Nat)
  | slcM (d : Nat) (x hi : MArg) (sz : Nat)
  | appM (d : Nat) (x y : MArg) (sz bytes : Nat) (zero : List AV)
  | cpyM (d : Nat) (x y : MArg) (sz : Nat)
  | rngS (d : Nat) (x : MArg)
  | nxtS (d : Nat) (x : MArg)
  | mkMap (d : Nat)
  | rngM (d : Nat) (x : MArg)
  | nxtM (d : Nat) (x : MArg)
  | mapUpd (x k v : MArg) (n : Option Nat)
  | mapEnt (d : Nat) (x k : MArg) (n : Option Nat) (zero : AV)
  | entSt (x st v : MArg)
  | entM (d : Nat) (x : MArg)
  | isNil (d : Nat) (neg : Bool) (x : MArg)
  | lookup (d : Nat) (x k : MArg) (n : Option Nat) (ok : Bool) (zero : AV)
  | frz (k : Nat)
  | strLo (d : Nat) (x lo : MArg)
  deriving Inhabited

def inK : IntKind → Int → Prop
  | .i8, n => -128 ≤ n ∧ n ≤ 127
  | .i16, n => -32768 ≤ n ∧ n ≤ 32767
  | .i32, n => -2147483648 ≤ n ∧ n ≤ 2147483647
  | .i64, n => -9223372036854775808 ≤ n ∧ n ≤ 9223372036854775807
  | .u8, n => 0 ≤ n ∧ n ≤ 255
  | .u16, n => 0 ≤ n ∧ n ≤ 65535
  | .u32, n => 0 ≤ n ∧ n ≤ 4294967295
  | .u64, n => 0 ≤ n ∧ n ≤ 18446744073709551615

def bitI (op : BinOp) (k : IntKind) (x y : Int) : Int :=
  let a := BitVec.ofInt k.bits x
  let b := BitVec.ofInt k.bits y
  match op with
  | .and => k.wrap (a &&& b).toNat
  | .or => k.wrap (a ||| b).toNat
  | .xor => k.wrap (a ^^^ b).toNat
  | _ => k.wrap (a &&& ~~~b).toNat

def binI (op : BinOp) (k : IntKind) (a b : Int) (K : AV → Prop) : Prop :=
  match op with
  | .add => inK k (a + b) ∧ K (.lit (.int k (a + b)))
  | .sub => inK k (a - b) ∧ K (.lit (.int k (a - b)))
  | .mul => inK k (a * b) ∧ K (.lit (.int k (a * b)))
  | .quo => b ≠ 0 ∧ inK k (a.tdiv b) ∧ K (.lit (.int k (a.tdiv b)))
  | .rem => b ≠ 0 ∧ K (.lit (.int k (a.tmod b)))
  | .and | .or | .xor | .andNot => K (.lit (.int k (bitI op k a b)))
  | .eql => K (.lit (.bool (a == b)))
  | .neq => K (.lit (.bool (a != b)))
  | .lss => K (.lit (.bool (decide (a < b))))
  | .leq => K (.lit (.bool (decide (a ≤ b))))
  | .gtr => K (.lit (.bool (decide (a > b))))
  | .geq => K (.lit (.bool (decide (a ≥ b))))
  | _ => False

def shI (op : BinOp) (k : IntKind) (a b : Int) (K : AV → Prop) : Prop :=
  match op with
  | .shl => 0 ≤ b ∧ K (.lit (.int k (k.wrap (a * 2 ^ (min b.toNat k.bits)))))
  | .shr => 0 ≤ b ∧ K (.lit (.int k (a.fdiv (2 ^ (min b.toNat k.bits)))))
  | _ => False

def binS (op : BinOp) (a b : ByteArray) (K : AV → Prop) : Prop :=
  match op with
  | .eql => K (.lit (.bool (a.toList == b.toList)))
  | .neq => K (.lit (.bool (!(a.toList == b.toList))))
  | .lss => K (.lit (.bool (Op.bytesLess a.toList b.toList)))
  | .leq => K (.lit (.bool (Op.bytesLess a.toList b.toList || a.toList == b.toList)))
  | .gtr => K (.lit (.bool (!(Op.bytesLess a.toList b.toList || a.toList == b.toList))))
  | .geq => K (.lit (.bool (!Op.bytesLess a.toList b.toList)))
  | _ => False

def binK (op : BinOp) (x y : AV) (K : AV → Prop) : Prop :=
  match x, y with
  | .lit (.int k a), .lit (.int k' b) => match op with
    | .shl => shI .shl k a b K
    | .shr => shI .shr k a b K
    | _ => k = k' ∧ binI op k a b K
  | .lit (.string a), .lit (.string b) => binS op a b K
  | _, _ => False

def St.dem (r : Nat) (s : St) : St := ⟨fun k => demote r (s.env k), fun b => (s.loc b).map (·.map (demote r))⟩
def St.set (s : St) (d : Nat) (x : AV) : St := ⟨upd s.env d x, s.loc⟩
def St.new (s : St) (b : Nat) (cs : List AV) : St := ⟨s.env, upd s.loc b (some cs)⟩

def asgSt (s : St) (d : Nat) : AV → St
  | .slice sz xs r => if r = 0 then s.set d (.slice sz xs 0) else ((s.dem r).dem (d + 1)).set d (.slice sz xs (d + 1))
  | x => s.set d x

def partK (cs : List AV) (off : Nat) (n : Option Nat) (K : AV → Prop) : Prop :=
  match n with
  | none => off < cs.length ∧ K (cs.getD off .any)
  | some n => off + n ≤ cs.length ∧ K (AV.agg ((cs.drop off).take n)).erase

def loadK (loc : Nat → Option (List AV)) (x : AV) (n : Option Nat) (K : AV → Prop) : Prop :=
  match x with
  | .ref cs => partK cs 0 n fun v => K v.erase
  | .mref b off => match loc b with
    | some cs => partK cs off n K
    | none => False
  | _ => False

def splice (cs : List AV) (off : Nat) : List AV → List AV
  | [] => cs
  | v :: vs => splice (cs.set off v) (off + 1) vs

def storeK (s : St) (x y : AV) (n oid : Nat) (K : St → Prop) : Prop :=
  match x with
  | .mref b off => match s.loc b with
    | some cs => off + n ≤ cs.length ∧ y.cells.length = n ∧ y.cells.all AV.cell1 = true ∧
      match y with
      | .slice sz xs r => if r = 0 ∨ oid = 0 then K (s.new b (splice cs off [.slice sz xs 0]))
          else K (((s.dem r).dem oid).new b ((cs.map (fun x => demote oid (demote r x))).set off (.slice sz xs oid)))
      | y => K (s.new b (splice cs off (y.cells.map AV.erase0)))
    | none => False
  | _ => False

def fillK (e : Nat → AV) (cs : List AV) : List (Nat × Nat × MArg) → (List AV → Prop) → Prop
  | [], K => K cs
  | (off, n, x) :: ps, K => (x.ev e).cells.length = n ∧ off + n ≤ cs.length ∧ fillK e (splice cs off ((x.ev e).cells.map AV.erase0)) ps K

def fillS (e : Nat → AV) (sz : Nat) (xs : List AV) : List (Nat × MArg) → (List AV → Prop) → Prop
  | [], K => K xs
  | (i, x) :: ps, K => (x.ev e).cells.length = sz ∧ (x.ev e).cells.all AV.cell1 = true ∧ i < xs.length ∧ fillS e sz (xs.set i (x.ev e).erase) ps K

def eqCells : List Bool → List AV → List AV → Option Bool
  | [], [], [] => some true
  | false :: ks, .lit (.int k a) :: xs, .lit (.int k' b) :: ys => if k = k' then (eqCells ks xs ys).map (a == b && ·) else none
  | true :: ks, .lit (.bool a) :: xs, .lit (.bool b) :: ys => (eqCells ks xs ys).map (a == b && ·)
  | _, _, _ => none

def Fr (w w' : World) : Prop := w'.os = w.os ∧ w'.tape = w.tape ∧ w'.output = w.output ∧ w.heap.size ≤ w'.heap.size ∧ ∀ b, b < w.heap.size → w'.heap[b]? = w.heap[b]?

def PCall (P : Program) (f : FuncId) (xs : List AV) (r : AV) : Prop :=
  isFunc P f = true ∧
  ∀ (w : World) (A : Area) (vs : Array Value), (∀ b o, A b o → b < w.heap.size) → vs.size = xs.length → (∀ i, RV w A (xs.getD i .any) (vs.getD i undef)) →
    Calls P f vs w fun e w' => ∃ v A', e = .returned v ∧ Fr w w' ∧ (∀ b o, A b o → A' b o) ∧ (∀ b o, A' b o → A b o ∨ (w.heap.size ≤ b ∧ b < w'.heap.size)) ∧ RV w' A' r v

def keyEq : AV → AV → Option Bool
  | .lit (.int k a), .lit (.int k' b) => if k = k' then some (a == b) else none
  | .lit (.string a), .lit (.string b) => some (a.toList == b.toList)
  | .agg xs, .agg ys => eqCells (List.replicate xs.length false) xs ys
  | _, _ => none

def keyOK : Option Nat → AV → Prop
  | none, .lit (.int _ _) => True
  | some 999, .lit (.string _) => True
  | some n, .agg xs => n ≠ 999 ∧ xs.length = n
  | _, _ => False

def keyAt (k : AV) : List (List AV) → Nat → Option (Option Nat)
  | [], _ => some none
  | e :: es, i => match keyEq k (e.getD 0 .any) with
    | some true => some (some i)
    | some false => keyAt k es (i + 1)
    | none => none

def apartAV : AV → AV → Prop
  | .mref b' _, .mref b _ => b' ≠ b
  | .ref _, .mref _ _ => True
  | _, _ => False

def viewAV (loc : Nat → Option (List AV)) : AV → Option AV
  | .mslice b off len _ sz => match loc b with
    | some cs => if decide (off + len * sz ≤ cs.length) && cs.all AV.cell1 && decide (len ≤ 140737488355328) then some (.slice sz (chunk sz (cs.drop off) len) 0) else none
    | none => none
  | x => some x
def viewsAV (loc : Nat → Option (List AV)) : List AV → Option (List AV)
  | [] => some []
  | x :: xs => match viewAV loc x, viewsAV loc xs with
    | some y, some ys => some (y :: ys)
    | _, _ => none

def vc1 (P : Program) : MOp → St → (St → Prop) → Prop
  | .cpy d x, s, K => K (s.set d (x.ev s.env))
  | .cpyS d x, s, K => match x.ev s.env with
    | .lit (.string t) => K (s.set d (.lit (.string t)))
    | _ => False
  | .asg d x, s, K => K (asgSt s d (x.ev s.env))
  | .asgNil d sz, s, K => K ((s.dem (d + 1)).set d (.slice sz [] (d + 1)))
  | .boxI d x n, s, K => (x.ev s.env).cells.length = n ∧ K (s.set d (.ref ((x.ev s.env).cells.map AV.erase0)))
  | .boxM d x n, s, K => (x.ev s.env).cells.length = n ∧ ∀ b, s.loc b = none → K ((s.new b ((x.ev s.env).cells.map AV.erase0)).set d (.mref b 0))
  | .alloc d zero, s, K => ∀ b, s.loc b = none → K ((s.new b zero).set d (.mref b 0))
  | .load d x n, s, K => loadK s.loc (x.ev s.env) n fun v => K (s.set d v)
  | .store x y n oid, s, K => storeK s (x.ev s.env) (y.ev s.env) n oid K
  | .storeNil x sz oid, s, K => match x.ev s.env with
    | .mref b off => match s.loc b with
      | some cs => off < cs.length ∧ K ((s.dem oid).new b ((cs.map (demote oid)).set off (.slice sz [] oid)))
      | none => False
    | _ => False
  | .storeF k y n, s, K => match s.env k with
    | .mref b 0 => match s.loc b with
      | some cs => cs.length = n ∧ (y.ev s.env).cells.length = n ∧ (y.ev s.env).cells.all AV.cell1 = true ∧ K ⟨upd s.env k (.ref ((y.ev s.env).cells.map AV.erase0)), upd s.loc b none⟩
      | none => False
    | _ => False
  | .addr d x off, s, K => match x.ev s.env with
    | .ref cs => K (s.set d (.ref (cs.drop off)))
    | .mref b o => K (s.set d (.mref b (o + off)))
    | _ => False
  | .idxS d x i sz, s, K => match x.ev s.env, i.ev s.env with
    | .slice sz' xs _, .lit (.int _ n) => sz' = sz ∧ 0 ≤ n ∧ n < xs.length ∧ K (s.set d (.ref (xs.getD n.toNat .any).cells))
    | .mslice b off len _ sz', .lit (.int _ n) => sz' = sz ∧ 0 ≤ n ∧ n < len ∧ K (s.set d (.mref b (off + n.toNat * sz)))
    | _, _ => False
  | .idxA d x i len sz, s, K => match x.ev s.env, i.ev s.env with
    | .ref cs, .lit (.int _ n) => 0 ≤ n ∧ n < len ∧ K (s.set d (.ref (cs.drop (n.toNat * sz))))
    | .mref b off, .lit (.int _ n) => 0 ≤ n ∧ n < len ∧ K (s.set d (.mref b (off + n.toNat * sz)))
    | _, _ => False
  | .fld d x off n, s, K => match x.ev s.env with
    | .agg cs => partK cs off n fun v => K (s.set d v.erase)
    | _ => False
  | .idxV d x i len sz n, s, K => match x.ev s.env, i.ev s.env with
    | .agg cs, .lit (.int _ j) => 0 ≤ j ∧ j < len ∧ partK cs (j.toNat * sz) n fun v => K (s.set d v.erase)
    | _, _ => False
  | .idxStr d x i, s, K => match x.ev s.env, i.ev s.env with
    | .lit (.string t), .lit (.int _ j) => 0 ≤ j ∧ j < t.size ∧ K (s.set d (.lit (.int .u8 (t.data.toList.getD j.toNat 0).toNat)))
    | _, _ => False
  | .build d zero ps, s, K => fillK s.env zero ps fun cs => K (s.set d (.agg cs))
  | .mkS d n sz zero ps, s, K => fillS s.env sz (List.replicate n (if sz = 1 then zero.getD 0 .any else .agg zero)) ps fun xs => K ((s.dem (d + 1)).set d (.slice sz xs (d + 1)))
  | .len d x, s, K => match x.ev s.env with
    | .slice _ xs _ => K (s.set d (.lit (.int .i64 xs.length)))
    | .mslice _ _ len _ _ => K (s.set d (.lit (.int .i64 len)))
    | .lit (.slice none 0 0) => K (s.set d (.lit (.int .i64 0)))
    | _ => False
  | .lenStr d x, s, K => match x.ev s.env with
    | .lit (.string t) => K (s.set d (.lit (.int .i64 t.size)))
    | _ => False
  | .lenK d n, s, K => K (s.set d (.lit (.int .i64 n)))
  | .app d x y sz bytes, s, K => match x.ev s.env, y.ev s.env with
    | .slice szx xs r, .slice szy ys _ => r ≠ 0 ∧ szx = sz ∧ (szy = sz ∨ ys = []) ∧ (xs.length + ys.length) * bytes ≤ 140737488355328 ∧ xs.length + ys.length ≤ 140737488355328 ∧
        K (((s.dem r).dem (d + 1)).set d (.slice sz (xs ++ ys) (d + 1)))
    | _, _ => False
  | .bin d op x y, s, K => binK op (x.ev s.env) (y.ev s.env) fun v => K (s.set d v)
  | .binB d neg x y, s, K => match x.ev s.env, y.ev s.env with
    | .lit (.bool a), .lit (.bool b) => K (s.set d (.lit (.bool (if neg then !(a == b) else a == b))))
    | _, _ => False
  | .binA d neg n x y, s, K => match x.ev s.env, y.ev s.env with
    | .agg a, .agg b => a.length = n.length ∧ b.length = n.length ∧ ∃ q, eqCells n a b = some q ∧ K (s.set d (.lit (.bool (if neg then !q else q))))
    | _, _ => False
  | .not d x, s, K => match x.ev s.env with
    | .lit (.bool a) => K (s.set d (.lit (.bool (!a))))
    | _ => False
  | .neg d x, s, K => match x.ev s.env with
    | .lit (.int k a) => inK k (0 - a) ∧ K (s.set d (.lit (.int k (0 - a))))
    | _ => False
  | .conv d k x, s, K => match x.ev s.env with
    | .lit (.int _ a) => K (s.set d (.lit (.int k (k.wrap a))))
    | _ => False
  | .pick d c x y, s, K => match c.ev s.env with
    | .lit (.bool b) => K (s.set d (if b then x.ev s.env else y.ev s.env))
    | _ => False
  | .ext d x i, s, K => match x.ev s.env with
    | .tuple vs => i < vs.length ∧ K (s.set d (vs.getD i .any).erase)
    | _ => False
  | .maxI d x y, s, K => match x.ev s.env, y.ev s.env with
    | .lit (.int k a), .lit (.int _ b) => K (s.set d (.lit (.int k (if b > a then b else a))))
    | _, _ => False
  | .minI d x y, s, K => match x.ev s.env, y.ev s.env with
    | .lit (.int k a), .lit (.int _ b) => K (s.set d (.lit (.int k (if b < a then b else a))))
    | _, _ => False
  | .call d f xs, s, K => ∃ r, PCall P f (xs.map fun x => (x.ev s.env).erase) r ∧ K (s.set d r.erase)
  | .callv d x xs, s, K => match x.ev s.env with
    | .func (.func f) first cap => ∃ r, PCall P f (first ++ (xs.map fun x => (x.ev s.env).erase) ++ cap) r ∧ K (s.set d r.erase)
    | _ => False
  | .mkfn d fn first cap, s, K => K (s.set d (.func fn (first.map fun x => (x.ev s.env).erase) (cap.map fun x => (x.ev s.env).erase)))
  | .nilchk d x, s, K => match x.ev s.env with
    | .ref cs => K (s.set d (.ref cs))
    | .mref b o => K (s.set d (.mref b o))
    | _ => False
  | .slcHi d x hi sz, s, K => match x.ev s.env, hi.ev s.env with
    | .slice sz' xs _, .lit (.int _ n) => (sz' = sz ∨ xs = []) ∧ 0 ≤ n ∧ n ≤ xs.length ∧ K (s.set d (.slice sz (xs.take n.toNat) 0))
    | _, _ => False
  | .slcLo d x lo sz, s, K => match x.ev s.env, lo.ev s.env with
    | .slice sz' xs _, .lit (.int _ n) => (sz' = sz ∨ xs = []) ∧ 0 ≤ n ∧ n ≤ xs.length ∧ K (s.set d (.slice sz (xs.drop n.toNat) 0))
    | _, _ => False
  | .cpyE d x, s, K => K (s.set d (x.ev s.env).erase)
  | .apart zs x m, s, K => (∀ z ∈ zs, apartAV (z.ev s.env) (x.ev s.env)) ∧ vc1 P m s K
  | .guard g want d m, s, K => match s.env g with
    | .lit (.bool b) => (b = want → vc1 P m s K) ∧ (b = (!want) → K (match d with | some d => s.set d (.tuple []) | none => s))
    | .tuple [] => K (match d with | some d => s.set d (.tuple []) | none => s)
    | _ => False
  | .yld d x xs, s, K => match x.ev s.env, s.env gS with
    | .func (.yield l) [] [], .ghost l' (y :: rest) false => l = l' ∧ (xs.map fun x => (x.ev s.env).erase) = y ∧
        K ((s.set gS (.ghost l rest false)).set d (.lit (.bool true))) ∧ K ((s.set gS (.ghost l rest true)).set d (.lit (.bool false)))
    | _, _ => False
  | .yldL d x pos y, s, K => match x.ev s.env, s.env gS with
    | .func (.yield l) [] [], .ghost l' (z :: rest) false => l = l' ∧ ∃ z0 b sz len cap cs, z = [z0, mark pos] ∧ (y.ev s.env).erase = putAt z0 pos (.mslice b 0 len cap sz) ∧ s.loc b = some cs ∧ LentOK z0 pos sz len cap cs ∧
        K ((s.set gS (.ghost l rest false)).set d (.lit (.bool true))) ∧ K ((s.set gS (.ghost l rest true)).set d (.lit (.bool false)))
    | _, _ => False
  | .mkM d n c sz bytes zero, s, K => match n.ev s.env, c.ev s.env with
    | .lit (.int .i64 n), .lit (.int .i64 c) => 0 ≤ n ∧ n ≤ c ∧ c * (bytes : Int) ≤ 140737488355328 ∧ c ≤ 140737488355328 ∧ c * (sz : Int) ≤ 140737488355328 ∧
        ∀ b, s.loc b = none → K ((s.new b (List.replicate c.toNat zero).flatten).set d (.mslice b 0 n.toNat c.toNat sz))
    | _, _ => False
  | .callL d f xs, s, K => ∃ ys u, viewsAV s.loc (xs.map fun x => (x.ev s.env).erase) = some ys ∧ flat u = true ∧ PCall P f ys (.lit u) ∧ K (s.set d (.lit u))
  | .callvL d x xs, s, K => match x.ev s.env with
    | .func (.func f) first cap => ∃ ys u, viewsAV s.loc (first ++ (xs.map fun x => (x.ev s.env).erase) ++ cap) = some ys ∧ flat u = true ∧ PCall P f ys (.lit u) ∧ K (s.set d (.lit u))
    | _ => False
  | .cpyMM d x y sz, s, K => match x.ev s.env, y.ev s.env with
    | .mslice b off len _ sz', .mslice b2 off2 len2 _ sz2 => match s.loc b, s.loc b2 with
      | some cs, some cs2 => sz' = sz ∧ sz2 = sz ∧ off + len * sz ≤ cs.length ∧ off2 + len2 * sz ≤ cs2.length ∧ cs2.all AV.cell1 = true ∧
          K ((s.new b (splice cs off (((cs2.drop off2).take (min len2 len * sz)).map AV.erase0))).set d (.lit (.int .i64 (min len2 len : Nat))))
      | _, _ => False
    | _, _ => False
  | .slcZ d x hi mx sz, s, K => match x.ev s.env, hi.ev s.env, mx.ev s.env with
    | .slice _ _ _, .lit (.int _ 0), .lit (.int _ 0) => K ((s.dem (d + 1)).set d (.slice sz [] (d + 1)))
    | _, _, _ => False
  | .slcZM d x hi mx sz, s, K => match x.ev s.env, hi.ev s.env, mx.ev s.env with
    | .slice _ xs _, .lit (.int _ 0), .lit (.int _ 0) => (xs = [] → K (s.set d (.lit (.slice none 0 0)))) ∧ ∀ b off, K (s.set d (.mslice b off 0 0 sz))
    | _, _, _ => False
  | .appR d x y sz, s, K => match x.ev s.env, y.ev s.env with
    | .mslice b off len cap sz', .slice sz2 ys _ => match s.loc b with
      | some cs => sz' = sz ∧ sz2 = sz ∧ ys ≠ [] ∧ len + ys.length ≤ cap ∧ off + (len + ys.length) * sz ≤ cs.length ∧
          K ((s.new b (splice cs (off + len * sz) ((ys.flatMap AV.cells).map AV.erase0))).set d (.mslice b off (len + ys.length) cap sz))
      | none => False
    | _, _ => False
  | .slcM d x hi sz, s, K => match x.ev s.env, hi.ev s.env with
    | .mslice b off _ cap sz', .lit (.int _ n) => sz' = sz ∧ 0 ≤ n ∧ n ≤ cap ∧ K (s.set d (.mslice b off n.toNat cap sz))
    | _, _ => False
  | .appM d x y sz bytes zero, s, K => match x.ev s.env, y.ev s.env with
    | .mslice b off len cap sz', .slice sz2 ys _ => sz' = sz ∧ sz2 = sz ∧ ys ≠ [] ∧ (len + ys.length) * bytes ≤ 140737488355328 ∧ len + ys.length ≤ 140737488355328 ∧
        if cap = 0 then ∀ b r, s.loc b = none → K ((s.new b ((ys.flatMap AV.cells).map AV.erase0 ++ (List.replicate r zero).flatten)).set d (.mslice b 0 ys.length (ys.length + r) sz))
        else match s.loc b with
          | some cs => off + cap * sz ≤ cs.length ∧
            (len + ys.length ≤ cap → K ((s.new b (splice cs (off + len * sz) ((ys.flatMap AV.cells).map AV.erase0))).set d (.mslice b off (len + ys.length) cap sz))) ∧
            (cap < len + ys.length → ∀ b' r, s.loc b' = none → K ((s.new b' (((cs.drop off).take (len * sz)).map AV.erase0 ++ ((ys.flatMap AV.cells).map AV.erase0 ++ (List.replicate r zero).flatten))).set d (.mslice b' 0 (len + ys.length) (len + ys.length + r) sz)))
          | none => False
    | .lit (.slice none 0 0), .slice sz2 ys _ => sz2 = sz ∧ ys ≠ [] ∧ ys.length * bytes ≤ 140737488355328 ∧ ys.length ≤ 140737488355328 ∧
        ∀ b r, s.loc b = none → K ((s.new b ((ys.flatMap AV.cells).map AV.erase0 ++ (List.replicate r zero).flatten)).set d (.mslice b 0 ys.length (ys.length + r) sz))
    | _, _ => False
  | .icall d f xs, s, K => ICall P f (xs.map fun x => (x.ev s.env).erase) s fun r s' => K (s'.set d r)
  | .icallv d x xs, s, K => match x.ev s.env with
    | .func (.func f) first cap => ICall P f (first ++ (xs.map fun x => (x.ev s.env).erase) ++ cap) s fun r s' => K (s'.set d r)
    | _ => False
  | .cpyM d x y sz, s, K => match x.ev s.env, y.ev s.env with
    | .mslice b off len _ sz', .slice sz2 ys _ => match s.loc b with
      | some cs => sz' = sz ∧ (sz2 = sz ∨ ys = []) ∧ off + len * sz ≤ cs.length ∧
          K ((s.new b (splice cs off (((ys.take (min ys.length len)).flatMap AV.cells).map AV.erase0))).set d (.lit (.int .i64 (min ys.length len : Nat))))
      | none => False
    | _, _ => False
  | .rngS d x, s, K => match x.ev s.env with
    | .lit (.string t) => ∀ b, s.loc b = none → s.env (oS + b) = .any → K ((s.set (oS + b) (itAV t 0)).set d (.mref b 0))
    | _ => False
  | .nxtS d x, s, K => match x.ev s.env with
    | .mref b 0 => ∃ t pos, s.env (oS + b) = itAV t pos ∧
        (pos < t.size → K ((s.set (oS + b) (itAV t (pos + (Utf8.decode t pos).2))).set d (.tuple [.lit (.bool true), .lit (.int .i64 pos), .lit (.int .i32 (Utf8.decode t pos).1)]))) ∧
        (¬ pos < t.size → K (s.set d (.tuple [.lit (.bool false)])))
    | _ => False
  | .mkMap d, s, K => ∀ b, s.loc b = none → s.env (oS + b) = .any → K ((s.set (oS + b) (mapAV [])).set d (.mapr b))
  | .rngM d x, s, K => match x.ev s.env with
    | .mapr b => ∃ es, s.env (oS + b) = mapAV es ∧ ∀ r, s.loc r = none → s.env (oS + r) = .any → K ((s.set (oS + r) (mitAV b es.length [])).set d (.mref r 0))
    | _ => False
  | .nxtM d x, s, K => match x.ev s.env with
    | .mref r 0 => ∃ b seen es, s.env (oS + r) = mitAV b es.length seen ∧ s.env (oS + b) = mapAV es ∧
        (∀ i, i < es.length → i ∉ seen → K ((s.set (oS + r) (mitAV b es.length (seen ++ [i]))).set d (.tuple [.lit (.bool true), ((es.getD i []).getD 0 .any).erase, ((es.getD i []).getD 1 .any).erase]))) ∧
        ((∀ i, i < es.length → i ∈ seen) → K (s.set d (.tuple [.lit (.bool false)])))
    | _ => False
  | .mapUpd x k v n, s, K => match x.ev s.env with
    | .mapr b => ∃ es, s.env (oS + b) = mapAV es ∧ keyOK n (k.ev s.env).erase ∧ match keyAt (k.ev s.env).erase es 0 with
      | some (some i) => K (s.set (oS + b) (mapAV (es.set i [(k.ev s.env).erase, (v.ev s.env).erase])))
      | some none => K (s.set (oS + b) (mapAV (es ++ [[(k.ev s.env).erase, (v.ev s.env).erase]])))
      | none => False
    | _ => False
  | .lookup d x k n ok zero, s, K => match x.ev s.env with
    | .mapr b => ∃ es, s.env (oS + b) = mapAV es ∧ keyOK n (k.ev s.env).erase ∧ match keyAt (k.ev s.env).erase es 0 with
      | some (some i) => K (s.set d (if ok then .tuple [((es.getD i []).getD 1 .any), .lit (.bool true)] else ((es.getD i []).getD 1 .any).erase))
      | some none => K (s.set d (if ok then .tuple [zero, .lit (.bool false)] else zero.erase))
      | none => False
    | .fmap es => keyOK n (k.ev s.env).erase ∧ match keyAt (k.ev s.env).erase es 0 with
      | some (some i) => K (s.set d (if ok then .tuple [((es.getD i []).getD 1 .any), .lit (.bool true)] else ((es.getD i []).getD 1 .any).erase))
      | some none => K (s.set d (if ok then .tuple [zero, .lit (.bool false)] else zero.erase))
      | none => False
    | _ => False
  | .mapEnt d x k n zero, s, K => match x.ev s.env with
    | .mapr b => ∃ es, s.env (oS + b) = mapAV es ∧ keyOK n (k.ev s.env).erase ∧ keyEq (k.ev s.env).erase (k.ev s.env).erase = some true ∧ match keyAt (k.ev s.env).erase es 0 with
      | some (some i) => K ((s.set (oS + b) (mapAV (es.set i [(k.ev s.env).erase, (es.getD i []).getD 1 .any]))).set d (.tuple [(es.getD i []).getD 1 .any, .lit (.int .i64 i)]))
      | some none => K ((s.set (oS + b) (mapAV (es ++ [[(k.ev s.env).erase, zero]]))).set d (.tuple [zero, .lit (.int .i64 es.length)]))
      | none => False
    | _ => False
  | .entSt x st v, s, K => match x.ev s.env, st.ev s.env with
    | .mapr b, .lit (.int _ i) => ∃ es, s.env (oS + b) = mapAV es ∧ 0 ≤ i ∧ i < es.length ∧ K (s.set (oS + b) (mapAV (es.set i.toNat [(es.getD i.toNat []).getD 0 .any, (v.ev s.env).erase])))
    | _, _ => False
  | .entM d x, s, K => match x.ev s.env with
    | .mref r 0 => ∃ b seen i es, s.env (oS + r) = mitAV b es.length (seen ++ [i]) ∧ s.env (oS + b) = mapAV es ∧ i < es.length ∧ K (s.set d (.tuple [((es.getD i []).getD 0 .any).erase, ((es.getD i []).getD 1 .any).erase]))
    | _ => False
  | .isNil d neg x, s, K => match x.ev s.env with
    | .slice _ xs _ => (xs = [] → K (s.set d (.lit (.bool (!neg))))) ∧ K (s.set d (.lit (.bool neg)))
    | .mslice _ _ _ _ _ => K (s.set d (.lit (.bool neg)))
    | _ => False
  | .loadI d x n, s, K => match x.ev s.env with
    | .ref cs => partK cs 0 n fun v => K (s.set d v.erase)
    | _ => False
  | .loadD d x n, s, K => match x.ev s.env with
    | .mref b off => match s.loc b with
      | some cs => off + n ≤ cs.length ∧ K (s.set d (.deep (.agg ((cs.drop off).take n))))
      | none => False
    | _ => False
  | .extD d x i, s, K => match x.ev s.env with
    | .deep (.tuple vs) => i < vs.length ∧ match vs.getD i .any with
      | .agg cs => K (s.set d (.deep (.agg cs)))
      | y => K (s.set d y.erase)
    | _ => False
  | .storeD x y n, s, K => match x.ev s.env with
    | .mref b off => match s.loc b with
      | some cs => off + n ≤ cs.length ∧ match y.ev s.env with
        | .deep (.agg ys) => ys.length = n ∧ ys.all AV.cell1 = true ∧ K (s.new b (splice cs off ys))
        | _ => False
      | none => False
    | _ => False
  | .strLo d x lo, s, K => match x.ev s.env, lo.ev s.env with
    | .lit (.string t), .lit (.int _ n) => 0 ≤ n ∧ n ≤ t.size ∧ K (s.set d (.lit (.string (t.extract n.toNat t.size))))
    | _, _ => False
  | .frz k, s, K => match s.env k with
    | .mslice b 0 len _ sz => match s.loc b with
      | some cs => len * sz ≤ cs.length ∧ cs.all AV.cell1 = true ∧ len ≤ 140737488355328 ∧ K ⟨upd s.env k (.slice sz (chunk sz cs len) 0), upd s.loc b none⟩
      | none => False
    | .mref b 0 => match s.loc b with
      | some cs => (∃ sz off, cs[off]? = some (.lit (.slice none 0 0)) ∧ K ((s.dem ((k + 1) * 1000 + off)).new b ((cs.map (demote ((k + 1) * 1000 + off))).set off (.slice sz [] ((k + 1) * 1000 + off))))) ∨
        (∃ off b2 len cap sz cs2, cs[off]? = some (.mslice b2 0 len cap sz) ∧ b2 ≠ b ∧ s.loc b2 = some cs2 ∧ len * sz ≤ cs2.length ∧ cs2.all AV.cell1 = true ∧ len ≤ 140737488355328 ∧ K ⟨s.env, upd (upd s.loc b (some (cs.set off (.slice sz (chunk sz cs2 len) 0)))) b2 none⟩) ∨
        (∃ off b2 es, cs[off]? = some (.mapr b2) ∧ s.env (oS + b2) = mapAV es ∧ K ⟨upd s.env (oS + b2) .any, upd s.loc b (some (cs.set off (.fmap es)))⟩) ∨
        K ⟨upd s.env k (.ref (cs.map AV.erase0)), upd s.loc b none⟩
      | none => False
    | .lit (.slice none 0 0) => ∃ sz, K ⟨upd s.env k (.slice sz [] 0), s.loc⟩
    | _ => False

def vcs (P : Program) : List MOp → (St → Prop) → St → Prop
  | [], K, s => K s
  | m :: ms, K, s => vc1 P m s (vcs P ms K)

end Go.Avm

namespace Go.Avm
open Go.RowKit

theorem wrap_inK {k : IntKind} {n : Int} (h : inK k n) : k.wrap n = n := by
  cases k <;> simp [inK] at h <;> simp [IntKind.wrap, IntKind.bits, IntKind.signed] <;> (try split) <;> omega

theorem cell_alloc (w : World) (o : Obj) (b off : Nat) (h : b < w.heap.size) : (w.alloc o).cell? ⟨b, off, none⟩ = w.cell? ⟨b, off, none⟩ := by
  show (match (w.heap.push o)[b]? with | some (.cells c _ _) => _ | _ => _) = _
  rw [Array.getElem?_push, if_neg (Nat.ne_of_lt h)]
  rfl

theorem cell_alloc_new (w : World) (vs : Array Value) (T : TypeId) (off : Nat) : (w.alloc (.cells vs T)).cell? ⟨w.heap.size, off, none⟩ = vs[off]? := by
  show (match (w.heap.push _)[w.heap.size]? with | some (.cells c _ _) => _ | _ => _) = _
  rw [Array.getElem?_push, if_pos rfl]
  rfl

theorem heap_alloc (w : World) (o : Obj) (b : Nat) (h : b < w.heap.size) : (w.alloc o).heap[b]? = w.heap[b]? := by
  show (w.heap.push o)[b]? = _
  rw [Array.getElem?_push, if_neg (Nat.ne_of_lt h)]

theorem heap_alloc_at (w : World) (o : Obj) : (w.alloc o).heap[w.heap.size]? = some o := by
  show (w.heap.push o)[w.heap.size]? = _
  rw [Array.getElem?_push, if_pos rfl]

theorem alloc_size (w : World) (o : Obj) : (w.alloc o).heap.size = w.heap.size + 1 := by
  show (w.heap.push o).size = _
  simp

theorem cell_setRow_other (w : World) (g : Nat) (cs : Array Value) (b off : Nat) (h : b ≠ g) : (w.setRow g cs).cell? ⟨b, off, none⟩ = w.cell? ⟨b, off, none⟩ := by
  simp [World.cell?, setRow_other w g b cs h]

theorem size_setRow (w : World) (g : Nat) (cs : Array Value) : (w.setRow g cs).heap.size = w.heap.size := by simp [World.setRow]

theorem setRow_other' (w : World) (g k : Nat) (cs : Array Value) (h : k ≠ g) : (w.setRow g cs).heap[k]? = w.heap[k]? := setRow_other w g k cs h

variable {N : Nat} {s : St} {a : Act} {w : World} {A : Area} {sp : Sp}

theorem live_dem (r : Nat) {b o : Nat} (h : live (s.dem r).loc (upd sp r (0, 0, 0)) b o) : live s.loc sp b o := by
  rcases h with h | ⟨q, hq⟩
  · exact .inl (by intro hn; exact h (by simp [St.dem, hn]))
  · refine .inr ⟨q, ?_⟩
    simp only [upd] at hq; split at hq
    · dsimp only at hq; omega
    · exact hq

def Free (r : Nat) (x : AV) : Prop := (∀ sz xs, x ≠ .slice sz xs r) ∧ ∀ y, x ≠ .deep y

theorem OwnOK.dem (r : Nat) {x : AV} {v : Value} (h : OwnOK sp x v) : OwnOK (upd sp r (0, 0, 0)) (demote r x) v := by
  cases x with
  | slice sz xs r' =>
    simp only [demote]
    split
    · cases v with
      | slice a len cap => cases a with
        | some a => exact .inl rfl
        | none => trivial
      | _ => trivial
    · rename_i hne
      cases v with
      | slice a len cap => cases a with
        | some a => simpa [OwnOK, upd, hne] using h
        | none => trivial
      | _ => trivial
  | _ => trivial

theorem RS.dem (h : RS N s a w A sp) (r : Nat) : RS N (s.dem r) a w A (upd sp r (0, 0, 0)) where
  size := h.size
  defers := h.defers
  env d := ⟨(h.env d).1.demote r, (h.env d).2.dem r⟩
  loc b cs hb := by
    simp only [St.dem, Option.map_eq_some_iff] at hb
    obtain ⟨cs', hcs, rfl⟩ := hb
    obtain ⟨vs, T, h1, h2, h3⟩ := h.loc b cs' hcs
    refine ⟨vs, T, h1, by simpa using h2, fun i => ?_⟩
    by_cases hi : i < cs'.length
    · have := h3 i
      simp only [List.getD_eq_getElem?_getD, List.getElem?_map, List.getElem?_eq_getElem hi, Option.map_some, Option.getD_some] at this ⊢
      exact ⟨this.1.demote r, this.2.dem r⟩
    · simp only [List.getD_eq_getElem?_getD, List.getElem?_map, List.getElem?_eq_none (Nat.le_of_not_lt hi), Option.map_none, Option.getD_none]
      exact ⟨.any _, trivial⟩
  spb q hq := by
    simp only [upd] at hq ⊢
    split at hq
    · dsimp only at hq; omega
    · rename_i hne
      simp only [hne, if_false]
      obtain ⟨h1, h2⟩ := h.spb q hq
      exact ⟨h1, by simp [St.dem, h2]⟩
  spd q q' hqq h1 h2 := by
    simp only [upd] at h1 h2 ⊢
    split at h1
    · dsimp only at h1; omega
    · split at h2
      · dsimp only at h2; omega
      · rename_i n1 n2
        simp only [n1, n2, if_false]
        exact h.spd q q' hqq h1 h2
  av b o ha := ⟨(h.av b o ha).1, fun hl => (h.av b o ha).2 (live_dem r hl)⟩

theorem RS.disj (h : RS N s a w A sp) : ∀ b o, A b o → b < w.heap.size ∧ ¬ live s.loc sp b o := h.av

theorem Ev.dem (r : Nat) : Ev w A (live s.loc sp) w A (live (s.dem r).loc (upd sp r (0, 0, 0))) :=
  ⟨rfl, rfl, rfl, Nat.le_refl _, fun _ _ _ h => ⟨rfl, fun hl => h (live_dem r hl)⟩, fun _ _ _ => rfl, fun _ _ h => h, fun _ _ h => .inl h⟩

theorem RS.world (h : RS N s a w A sp) {w' : World} {A' : Area} (hc : ∀ b o v, A b o → w.cell? ⟨b, o, none⟩ = some v → w'.cell? ⟨b, o, none⟩ = some v)
    (hA : ∀ b o, A b o → A' b o) (hob : ObjKept w w' A A') (hloc : ∀ b cs, s.loc b = some cs → w'.heap[b]? = w.heap[b]?)
    (hsp : ∀ r, (sp r).2.1 < (sp r).2.2 → ∃ vs T, w'.heap[(sp r).1]? = some (.cells vs T (0, 0)) ∧ (sp r).2.2 ≤ vs.size)
    (hav : ∀ b o, A' b o → b < w'.heap.size ∧ ¬ live s.loc sp b o) : RS N s a w' A' sp where
  size := h.size
  defers := h.defers
  env d := ⟨(h.env d).1.mono (fun b o v ha hv => ⟨hc b o v ha hv, hA b o ha⟩) hob, (h.env d).2⟩
  loc b cs hb := by
    obtain ⟨vs, T, h1, h2, h3⟩ := h.loc b cs hb
    exact ⟨vs, T, (hloc b cs hb).trans h1, h2, fun i => ⟨(h3 i).1.mono (fun b o v ha hv => ⟨hc b o v ha hv, hA b o ha⟩) hob, (h3 i).2⟩⟩
  spb r hr := ⟨hsp r hr, (h.spb r hr).2⟩
  spd := h.spd
  av := hav

theorem RS.loc_lt (h : RS N s a w A sp) {b : Nat} {cs : List AV} (hb : s.loc b = some cs) : b < w.heap.size := by
  obtain ⟨vs, T, h1, _⟩ := h.loc b cs hb
  exact lt_of_heap h1

theorem RS.fresh (h : RS N s a w A sp) : s.loc w.heap.size = none := by
  cases hb : s.loc w.heap.size with
  | none => rfl
  | some cs => exact absurd (h.loc_lt hb) (Nat.lt_irrefl _)

theorem RS.spare_lt (h : RS N s a w A sp) {b o : Nat} (hs : spare sp b o) : b < w.heap.size := by
  obtain ⟨r, h1, h2, h3⟩ := hs
  obtain ⟨⟨vs, T, hv, _⟩, _⟩ := h.spb r (by omega)
  exact h1 ▸ lt_of_heap hv

theorem RS.live_lt (h : RS N s a w A sp) {b o : Nat} (hs : live s.loc sp b o) : b < w.heap.size := by
  rcases hs with h1 | h1
  · cases hb : s.loc b with
    | none => exact absurd hb h1
    | some cs => exact h.loc_lt hb
  · exact h.spare_lt h1

theorem RS.alloc (h : RS N s a w A sp) (vs : Array Value) (T : TypeId) (k : Nat) (_ : k ≤ vs.size) :
    RS N s a (w.alloc (.cells vs T)) (fun b o => A b o ∨ (b = w.heap.size ∧ o < k)) sp := by
  refine h.world (fun b o v ha hv => by rw [cell_alloc _ _ _ _ (h.av b o ha).1]; exact hv) (fun b o ha => .inl ha) (.blocks (fun b o ha => .inl ha) fun b _ hb => heap_alloc _ _ _ hb)
    (fun b cs hb => heap_alloc _ _ _ (h.loc_lt hb)) (fun r hr => ?_) ?_
  · obtain ⟨⟨vs, T, hv, hs⟩, _⟩ := h.spb r hr
    exact ⟨vs, T, by rw [heap_alloc _ _ _ (lt_of_heap hv)]; exact hv, hs⟩
  · rintro b o (ha | ⟨rfl, ho⟩)
    · exact ⟨by have := (h.av b o ha).1; rw [alloc_size]; omega, (h.av b o ha).2⟩
    · exact ⟨by rw [alloc_size]; omega, fun hl => absurd (h.live_lt hl) (Nat.lt_irrefl _)⟩

theorem RS.evAlloc (_ : RS N s a w A sp) (o : Obj) (k : Nat) : Ev w A (live s.loc sp) (w.alloc o) (fun b o => A b o ∨ (b = w.heap.size ∧ o < k)) (live s.loc sp) :=
  ⟨rfl, rfl, rfl, by rw [alloc_size]; omega, fun b o hb hl => ⟨cell_alloc _ _ _ _ hb, hl⟩, fun b hb _ => heap_alloc _ _ _ hb, fun _ _ ha => .inl ha,
    fun b o ha => ha.elim .inl fun q => .inr (.inr (by omega))⟩

theorem RS.drew (h : RS N s a w A sp) : RS N s a w.drew A sp := h.world (fun _ _ _ _ hv => hv) (fun _ _ ha => ha) (.same fun _ _ ha => ha) (fun _ _ _ => rfl) (fun r hr => (h.spb r hr).1) h.av
theorem Ev.drew (L : Area) : Ev w A L w.drew A L := ⟨rfl, rfl, rfl, Nat.le_refl _, fun _ _ _ h => ⟨rfl, h⟩, fun _ _ _ => rfl, fun _ _ h => h, fun _ _ h => .inl h⟩

theorem RS.newSpare (h : RS N s a w A sp) (r : Nat) (hrs : ∀ d, Free r (s.env d))
    (hrl : ∀ b cs, s.loc b = some cs → ∀ i, Free r (cs.getD i .any))
    (g lo hi : Nat) (hg : lo < hi → (∃ vs T, w.heap[g]? = some (.cells vs T (0, 0)) ∧ hi ≤ vs.size) ∧ s.loc g = none)
    (hd : ∀ q, q ≠ r → lo < hi → (sp q).2.1 < (sp q).2.2 → (sp q).1 = g → (sp q).2.2 ≤ lo ∨ hi ≤ (sp q).2.1) (hA : ∀ o, A g o → o < lo ∨ hi ≤ o) :
    RS N s a w A (upd sp r (g, lo, hi)) where
  size := h.size
  defers := h.defers
  env d := by
    refine ⟨(h.env d).1, ?_⟩
    have := (h.env d).2
    cases hx : s.env d with
    | slice sz xs q =>
      rw [hx] at this
      have hq : q ≠ r := fun e => (hrs d).1 sz xs (e ▸ hx)
      cases hv : a.tmps.getD d undef with
      | slice a len cap => cases a with
        | some a => rw [hv] at this; simpa [OwnOK, upd, hq] using this
        | none => trivial
      | _ => trivial
    | deep y => exact absurd hx ((hrs d).2 y)
    | _ => trivial
  loc b cs hb := by
    obtain ⟨vs, T, h1, h2, h3⟩ := h.loc b cs hb
    refine ⟨vs, T, h1, h2, fun i => ⟨(h3 i).1, ?_⟩⟩
    have := (h3 i).2
    cases hx : cs.getD i .any with
    | slice sz xs q =>
      rw [hx] at this
      have hq : q ≠ r := fun e => (hrl b cs hb i).1 sz xs (e ▸ hx)
      cases hv : vs.getD i undef with
      | slice a len cap => cases a with
        | some a => rw [hv] at this; simpa [OwnOK, upd, hq] using this
        | none => trivial
      | _ => trivial
    | deep y => exact absurd hx ((hrl b cs hb i).2 y)
    | _ => trivial
  spb q hq := by
    simp only [upd] at hq ⊢
    split
    · rename_i he; simp only [he, if_true] at hq; exact hg hq
    · rename_i hne; simp only [hne, if_false] at hq; exact h.spb q hq
  spd q q' hqq h1 h2 h3 := by
    by_cases e1 : q = r <;> by_cases e2 : q' = r
    · exact absurd (e1.trans e2.symm) hqq
    · subst e1; simp only [upd, e2, if_true, if_false] at h1 h2 h3 ⊢
      have := hd q' e2 h1 h2 h3.symm; omega
    · subst e2; simp only [upd, e1, if_true, if_false] at h1 h2 h3 ⊢
      have := hd q e1 h2 h1 h3; omega
    · simp only [upd, e1, e2, if_false] at h1 h2 h3 ⊢
      exact h.spd q q' hqq h1 h2 h3
  av b o ha := by
    refine ⟨(h.av b o ha).1, ?_⟩
    rintro (hl' | ⟨q, hq⟩)
    · exact (h.av b o ha).2 (.inl hl')
    · simp only [upd] at hq
      split at hq
      · obtain ⟨rfl, hq1, hq2⟩ := hq
        have := hA o ha; simp only at hq1 hq2; omega
      · exact (h.av b o ha).2 (.inr ⟨q, hq⟩)

theorem demote_free {x : AV} (r : Nat) (hr : r ≠ 0) : Free r (demote r x) := by
  constructor
  · intro sz xs h
    cases x <;> simp only [demote] at h <;> try exact AV.noConfusion h
    split at h
    · injection h with _ _ h; exact hr h.symm
    · injection h with _ _ h; contradiction
  · intro y h
    cases x <;> simp only [demote] at h <;> try exact AV.noConfusion h
    split at h <;> exact AV.noConfusion h
theorem dem_env_ne (s : St) (r : Nat) (hr : r ≠ 0) (d : Nat) : Free r ((s.dem r).env d) := demote_free r hr

theorem dem_loc_ne (s : St) (r : Nat) (hr : r ≠ 0) (b : Nat) (cs : List AV) (hb : (s.dem r).loc b = some cs) (i : Nat) : Free r (cs.getD i .any) := by
  simp only [St.dem, Option.map_eq_some_iff] at hb
  obtain ⟨cs', _, rfl⟩ := hb
  by_cases hi : i < cs'.length
  · simp only [List.getD_eq_getElem?_getD, List.getElem?_map, List.getElem?_eq_getElem hi, Option.map_some, Option.getD_some]
    exact demote_free r hr
  · simp only [List.getD_eq_getElem?_getD, List.getElem?_map, List.getElem?_eq_none (Nat.le_of_not_lt hi), Option.map_none, Option.getD_none]
    exact ⟨fun _ _ h => AV.noConfusion h, fun _ h => AV.noConfusion h⟩

theorem fin {P : Program} {o : Oper} {K : St → Prop} {next : Act → World → Prop} {Q : Exit → Act → World → Prop} {d : Nat} {x : AV} {v : Value}
    (h : RS N s a w A sp) (hd : o.dst = some d) (hN : d < N) (hrun : (execOp a.eval o).run P w = .ok (.value v) w)
    (hr : RV w A x v) (ho : OwnOK sp x v) (hk : K (s.set d x))
    (hn : ∀ s' a' w' A' sp', K s' → RS N s' a' w' A' sp' → Ev w A (live s.loc sp) w' A' (live s'.loc sp') → next a' w') : o.wp P a w next Q := by
  unfold Oper.wp
  rw [hrun, Oper.upon_value, hd]
  exact hn _ _ _ _ _ hk (h.put hN hr ho) (.refl _ _ _)

theorem fin' {P : Program} {o : Oper} {K : St → Prop} {next : Act → World → Prop} {Q : Exit → Act → World → Prop} {d : Nat} {x : AV} {v : Value}
    {s1 : St} {w1 : World} {A1 : Area} {sp1 : Sp}
    (h : RS N s1 a w1 A1 sp1) (hev : Ev w A (live s.loc sp) w1 A1 (live s1.loc sp1)) (hd : o.dst = some d) (hN : d < N) (hrun : (execOp a.eval o).run P w = .ok (.value v) w1)
    (hr : RV w1 A1 x v) (ho : OwnOK sp1 x v) (hk : K (s1.set d x))
    (hn : ∀ s' a' w' A' sp', K s' → RS N s' a' w' A' sp' → Ev w A (live s.loc sp) w' A' (live s'.loc sp') → next a' w') : o.wp P a w next Q := by
  unfold Oper.wp
  rw [hrun, Oper.upon_value, hd]
  exact hn _ _ _ _ _ hk (h.put hN hr ho) hev

end Go.Avm

namespace Go.Avm
open Go.RowKit

structure Ann where
  muts : List Nat := []
  nilsz : List (Nat × Nat) := []
  oid : List (Nat × Nat) := []
  frz : List Nat := []
  ord : List (Nat × List Nat) := []
  ap : List (Nat × List MArg) := []
  own : List Nat := []
  zero : List (Nat × List AV) := []
  yl : List Nat := []
  fz : List (Nat × List Nat) := []
  imm : List Nat := []
  ic : List Nat := []
  cl : List Nat := []
  ylL : List (Nat × Nat) := []
  rl : List (Nat × Nat) := []
  dp : List Nat := []

def look {α : Type} (l : List (Nat × α)) (d : Nat) (z : α) : α := match l with
  | [] => z
  | (k, x) :: l => if k == d then x else look l d z

def ofFlat : Value → Option AV
  | .slice none 0 0 => some (.slice 0 [] 0)
  | .bool b => some (.lit (.bool b))
  | .int k n => some (.lit (.int k n))
  | .string s => some (.lit (.string s))
  | .pointer none => some (.lit (.pointer none))
  | .nilFunc => some (.lit .nilFunc)
  | .nilIface => some (.lit .nilIface)
  | .map none => some (.lit (.map none))
  | _ => none

def ofFlats : List Value → Option (List AV)
  | [] => some []
  | v :: vs => (ofFlat v).bind fun x => (ofFlats vs).map (x :: ·)
def ofVal : Value → Option AV
  | .agg vs => (ofFlats vs.toList).map .agg
  | v => ofFlat v

def argOf : Operand → Option MArg
  | .tmp t => some (.t t)
  | .const v => (ofVal v).map .c
  | .func f => some (.c (.func (.func f) [] []))
  | .global _ => none

def vEq : Value → Value → Bool
  | .bool a, .bool b => a == b
  | .int k a, .int k' b => k == k' && a == b
  | .string a, .string b => a.data == b.data
  | .pointer none, .pointer none => true
  | .nilFunc, .nilFunc => true
  | .nilIface, .nilIface => true
  | .map none, .map none => true
  | .slice none 0 0, .slice none 0 0 => true
  | _, _ => false

def zOK : AV → Value → Bool
  | .lit v, v' => vEq v v'
  | .slice _ [] 0, .slice none 0 0 => true
  | _, _ => false

def zsOK : List AV → List Value → Bool
  | [], [] => true
  | x :: xs, v :: vs => zOK x v && zsOK xs vs
  | _, _ => false

def zOKA : AV → Value → Bool
  | .lit v, v' => vEq v v'
  | .slice _ [] _, .slice none 0 0 => true
  | _, _ => false

def zsOKA : List AV → List Value → Bool
  | [], [] => true
  | x :: xs, v :: vs => zOKA x v && zsOKA xs vs
  | _, _ => false

def szOf (P : Program) (t : TypeId) : Option Nat := (P.info? t).map (·.size)

def partN (P : Program) (t : TypeId) : Option (Option Nat) :=
  match P.underlying t, P.info? t with
  | some d, some i => some (match d with
    | .struct _ => some i.size
    | .array _ _ => some i.size
    | _ => none)
  | _, _ => none

def zeroOf (P : Program) (t : TypeId) : Option Value := (P.info? t).bind (·.zero)

def okZero (P : Program) (t : TypeId) (z : List AV) : Bool :=
  match P.info? t with
  | some i => (match i.zero with
    | some v => zsOK z v.cells.toList && z.length == i.size
    | none => false)
  | none => false

def okZeroA (P : Program) (t : TypeId) (z : List AV) : Bool :=
  match P.info? t with
  | some i => (match i.zero with
    | some v => zsOKA z v.cells.toList && z.length == i.size
    | none => false)
  | none => false

def argOfT (P : Program) (t : TypeId) (x : Operand) : Option MArg :=
  match x with
  | .const (.slice none 0 0) => match P.underlying t with
    | some (.slice e) => (szOf P e).map fun n => .c (.slice n [] 0)
    | _ => argOf x
  | x => argOf x

def argsOfT (P : Program) : List Operand → List TypeId → Option (List MArg)
  | [], _ => some []
  | x :: xs, [] => match argOf x, argsOfT P xs [] with
    | some y, some ys => some (y :: ys)
    | _, _ => none
  | x :: xs, t :: ts => match argOfT P t x, argsOfT P xs ts with
    | some y, some ys => some (y :: ys)
    | _, _ => none

def argsOf : List Operand → Option (List MArg)
  | [] => some []
  | x :: xs => match argOf x, argsOf xs with
    | some y, some ys => some (y :: ys)
    | _, _ => none

def fieldsParts (P : Program) (fs : Array Field) : List (Nat × Operand) → Option (List (Nat × Nat × MArg))
  | [] => some []
  | (i, x) :: ps => match fs[i]?, fieldsParts P fs ps with
    | some f, some ys => match szOf P f.type, argOfT P f.type x with
      | some n, some y => if 0 < n then some ((f.offset, n, y) :: ys) else none
      | _, _ => none
    | _, _ => none

def arrParts (P : Program) (e : TypeId) (sz : Nat) : List (Nat × Operand) → Option (List (Nat × Nat × MArg))
  | [] => some []
  | (i, x) :: ps => match argOfT P e x, arrParts P e sz ps with
    | some y, some ys => some ((i * sz, sz, y) :: ys)
    | _, _ => none

def slcParts (P : Program) (e : TypeId) : List (Nat × Operand) → Option (List (Nat × MArg))
  | [] => some []
  | (i, x) :: ps => match argOfT P e x, slcParts P e ps with
    | some y, some ys => some ((i, y) :: ys)
    | _, _ => none

def trBuiltin (P : Program) (b : Builtin) (d : Nat) (args : List Operand) (ts : List TypeId) : Option MOp :=
  match b, args, ts with
  | .len, [x], [t] => match P.underlying t with
    | some (.array n _) => some (.lenK d n)
    | some (.slice _) => (argOf x).map (.len d ·)
    | some .string => (argOf x).map (.lenStr d ·)
    | some (.pointer e) => match P.underlying e with
      | some (.array n _) => some (.lenK d n)
      | _ => none
    | _ => none
  | .append, [x, y], [t, t'] => if t = t' then match P.underlying t with
    | some (.slice e) => match P.info? e, argOf x, argOf y with
      | some i, some x, some y => match i.zero with
        | some z => if z.cells.size = i.size ∧ 0 < i.size then some (.app d x y i.size i.bytes) else none
        | none => none
      | _, _, _ => none
    | _ => none else none
  | .copy, [x, y], [t, _] => match P.underlying t with
    | some (.slice e) => match P.info? e, argOf x, argOf y with
      | some i, some x, some y => some (.cpyM d x y i.size)
      | _, _, _ => none
    | _ => none
  | .max, [x, y], _ => match argOf x, argOf y with
    | some x, some y => some (.maxI d x y)
    | _, _ => none
  | .min, [x, y], _ => match argOf x, argOf y with
    | some x, some y => some (.minI d x y)
    | _, _ => none
  | _, _, _ => none

def trAppM (P : Program) (ann : Ann) (b : Builtin) (d : Nat) (args : List Operand) (ts : List TypeId) : Option MOp :=
  match b, args, ts with
  | .append, [x, y], [t, t'] => if t = t' then match P.underlying t with
    | some (.slice e) => match P.info? e, argOf x, argOf y with
      | some i, some x, some y => if (look ann.zero d []).isEmpty then some (.appR d x y i.size) else if okZero P e (look ann.zero d []) && decide (0 < i.size) then some (.appM d x y i.size i.bytes (look ann.zero d [])) else none
      | _, _, _ => none
    | _ => none else none
  | _, _, _ => none

def trCpyMM (P : Program) (b : Builtin) (d : Nat) (args : List Operand) (ts : List TypeId) : Option MOp :=
  match b, args, ts with
  | .copy, [x, y], [t, _] => match P.underlying t with
    | some (.slice e) => match P.info? e, argOf x, argOf y with
      | some i, some x, some y => some (.cpyMM d x y i.size)
      | _, _, _ => none
    | _ => none
  | _, _, _ => none

def trBin (P : Program) (d : Nat) (op : BinOp) (t : TypeId) (x y : MArg) : Option MOp :=
  match P.underlying t with
  | some (.int _) => some (.bin d op x y)
  | some .string => some (.bin d op x y)
  | some .bool => match op with
    | .eql => some (.binB d false x y)
    | .neq => some (.binB d true x y)
    | _ => none
  | _ => none

def trNil (P : Program) (d : Nat) (op : BinOp) (t : TypeId) (x : MArg) (y : Operand) : Option MOp :=
  match P.underlying t, op, y with
  | some (.slice _), .eql, .const (.slice none 0 0) => some (.isNil d false x)
  | some (.slice _), .neq, .const (.slice none 0 0) => some (.isNil d true x)
  | _, _, _ => none

def flatFields (P : Program) : List Bool → Nat → List Field → Bool
  | [], _, [] => true
  | q :: ks, k, f :: fs => f.name != "_" && f.offset == k && (match q, P.underlying f.type with | false, some (.int _) => true | true, some .bool => true | _, _ => false) && flatFields P ks (k + 1) fs
  | _, _, _ => false

def kindsOf (P : Program) (fs : List Field) : List Bool := fs.map fun f => match P.underlying f.type with | some .bool => true | _ => false

def eqStruct (P : Program) (t : TypeId) : Option (List Bool) :=
  match P.underlying t with
  | some (.struct fs) => if flatFields P (kindsOf P fs.toList) 0 fs.toList && !P.stoodInHeld t && !P.eqGuardType P.depth t then some (kindsOf P fs.toList) else none
  | _ => none
def intE (P : Program) (e : TypeId) : Bool := match P.underlying e, P.info? e with
  | some (.int _), some i => i.size == 1
  | _, _ => false
def eqKinds (P : Program) (t : TypeId) : Option (List Bool) :=
  match P.underlying t with
  | some (.array n e) => if intE P e && !P.eqGuardType P.depth t then some (List.replicate n false) else none
  | _ => eqStruct P t

def trDst (P : Program) (ann : Ann) (d : Nat) (op : Op) (_ : TypeId) : Option MOp :=
  match op with
  | .move x => (argOf x).map (.cpy d ·)
  | .assign (.const (.slice none 0 0)) => if ann.muts.contains d then some (.asg d (.c (.lit (.slice none 0 0)))) else some (.asgNil d (look ann.nilsz d 0))
  | .assign x => (argOf x).map (.asg d ·)
  | .pick c x y => match argOf c, argOf x, argOf y with
    | some c, some x, some y => some (.pick d c x y)
    | _, _, _ => none
  | .alloc e => if okZeroA P e (look ann.zero d []) then some (.alloc d (look ann.zero d [])) else none
  | .box e x => match szOf P e, argOf x with
    | some n, some x => if 0 < n then some (if ann.muts.contains d then .boxM d x n else .boxI d x n) else none
    | _, _ => none
  | .load t x => match partN P t, argOf x with
    | some n, some x => some (.load d x n)
    | _, _ => none
  | .fieldAddr t x f => match P.underlying t with
    | some (.struct fs) => match fs[f]?, argOf x with
      | some fd, some x => match szOf P fd.type with
        | some n => if n = 0 then none else some (.addr d x fd.offset)
        | none => none
      | _, _ => none
    | _ => none
  | .field t x f => match P.underlying t with
    | some (.struct fs) => match fs[f]?, argOf x with
      | some fd, some x => match partN P fd.type with
        | some n => some (.fld d x fd.offset n)
        | none => none
      | _, _ => none
    | _ => none
  | .indexAddr t x i => match P.underlying t, argOf x, argOf i with
    | some (.slice e), some x, some i => (szOf P e).map fun n => .idxS d x i n
    | some (.array len e), some x, some i => (szOf P e).map fun n => .idxA d x i len n
    | _, _, _ => none
  | .index t x i => match P.underlying t, argOf x, argOf i with
    | some .string, some x, some i => some (.idxStr d x i)
    | some (.array len e), some x, some i => match szOf P e, partN P e with
      | some sz, some n => some (.idxV d x i len sz n)
      | _, _ => none
    | _, _, _ => none
  | .build t ps => if okZero P t (look ann.zero d []) then match P.underlying t with
    | some (.struct fs) => if fs.toList.all fun f => (P.info? f.type).isSome then (fieldsParts P fs ps.toList).map fun ps => .build d (look ann.zero d []) ps else none
    | some (.array _ e) => match szOf P e with
      | some sz => if 0 < sz then (arrParts P e sz ps.toList).map fun ps => .build d (look ann.zero d []) ps else none
      | none => none
    | _ => none else none
  | .buildSlice t n ps => if ann.muts.contains d then (match P.underlying t with
    | some (.slice e) => match P.info? e with
      | some i => if okZero P e (look ann.zero d []) && n == 0 && ps.isEmpty then some (.mkM d (.c (.lit (.int .i64 0))) (.c (.lit (.int .i64 0))) i.size i.bytes (look ann.zero d [])) else none
      | _ => none
    | _ => none) else match P.underlying t with
    | some (.slice e) => match szOf P e, slcParts P e ps.toList with
      | some sz, some ps => if okZero P e (look ann.zero d []) && decide (0 < sz) && decide (n * sz ≤ 16777216) then some (.mkS d n sz (look ann.zero d []) ps) else none
      | _, _ => none
    | _ => none
  | .binOp op t x y0 _ => match argOf x, argOf y0 with
    | some x, some y => match trBin P d op t x y with
      | some m => some m
      | none => match eqKinds P t, op with
        | some n, .eql => some (.binA d false n x y)
        | some n, .neq => some (.binA d true n x y)
        | _, _ => trNil P d op t x y0
    | _, _ => none
  | .unOp .not _ x => (argOf x).map (.not d ·)
  | .unOp .neg _ x => (argOf x).map (.neg d ·)
  | .convert s t x => match P.underlying s, P.underlying t, argOf x with
    | some (.int _), some (.int k), some x => some (.conv d k x)
    | some .string, some .string, some x => some (.cpyS d x)
    | _, _, _ => none
  | .extract x i => (argOf x).map (.ext d · i)
  | .nilCheck x => (argOf x).map (.nilchk d ·)
  | .makeFunc fn first cap => match argsOf first.toList, argsOf cap.toList with
    | some f, some c => some (.mkfn d fn f c)
    | _, _ => none
  | .slice t x none (some hi) none => match P.underlying t with
    | some (.slice e) => match szOf P e, argOf x, argOf hi with
      | some sz, some x, some hi => some (if ann.muts.contains d then .slcM d x hi sz else .slcHi d x hi sz)
      | _, _, _ => none
    | _ => none
  | .slice t x none (some hi) (some mx) => match P.underlying t with
    | some (.slice e) => match szOf P e, argOf x, argOf hi, argOf mx with
      | some sz, some x, some hi, some mx => some (if ann.muts.contains d then .slcZM d x hi mx sz else .slcZ d x hi mx sz)
      | _, _, _, _ => none
    | _ => none
  | .slice t x (some lo) none none => match P.underlying t with
    | some (.slice e) => match szOf P e, argOf x, argOf lo with
      | some sz, some x, some lo => some (.slcLo d x lo sz)
      | _, _, _ => none
    | some .string => match argOf x, argOf lo with
      | some x, some lo => some (.strLo d x lo)
      | _, _ => none
    | _ => none
  | .makeSlice t l c => match P.underlying t with
    | some (.slice e) => match P.info? e, argOf l, argOf c with
      | some i, some l, some c => if okZero P e (look ann.zero d []) then some (.mkM d l c i.size i.bytes (look ann.zero d [])) else none
      | _, _, _ => none
    | _ => none
  | .call c => match c.callee with
    | .builtin b => if ann.muts.contains d then trAppM P ann b d c.args.toList c.argTypes.toList else if ann.cl.contains d then trCpyMM P b d c.args.toList c.argTypes.toList else trBuiltin P b d c.args.toList c.argTypes.toList
    | .value (.func f) => (argsOfT P c.args.toList c.argTypes.toList).map fun ms => if ann.cl.contains d then .callL d f ms else .call d f ms
    | .value (.tmp t) => (argsOfT P c.args.toList c.argTypes.toList).map fun ms => if ann.cl.contains d then .callvL d (.t t) ms else .callv d (.t t) ms
    | _ => none
  | _ => none

def trOp (P : Program) (ann : Ann) (N : Nat) (o : Oper) : Option MOp :=
  match o.dst with
  | some d => if d < N then trDst P ann d o.op o.type else none
  | none => match o.op with
    | .store t x (.const (.slice none 0 0)) => match x with
      | .tmp k => if szOf P t = some 1 ∧ look ann.oid k 0 ≠ 0 then some (.storeNil (.t k) (look ann.nilsz (1000000 + k) 0) (look ann.oid k 0)) else none
      | _ => none
    | .store t x y => match x, szOf P t, argOf y with
      | .tmp k, some n, some y => if 0 < n then (if ann.frz.contains k then some (.storeF k y n) else some (.store (.t k) y n (look ann.oid k 0))) else none
      | _, _, _ => none
    | _ => none

def trG (P : Program) (ann : Ann) (N : Nat) (ops : Array Oper) (o : Oper) : Option MOp :=
  match o.guard with
  | none => trOp P ann N o
  | some (j, want) => match (ops[j]?).bind (·.dst), trOp P ann N o with
    | some g, some m => if g < N then some (.guard g want o.dst m) else none
    | _, _ => none

section
variable {w : World} {A : Area} {sp : Sp}

theorem vEq_eq {v v' : Value} (h : vEq v v' = true) : v = v' ∧ flat v = true := by
  unfold vEq at h
  split at h
  · exact ⟨by rw [eq_of_beq h], rfl⟩
  · rw [Bool.and_eq_true] at h
    exact ⟨by rw [eq_of_beq h.1, eq_of_beq h.2], rfl⟩
  · rename_i a b
    cases a; cases b
    have h' := eq_of_beq h
    exact ⟨by simp only at h'; rw [h'], rfl⟩
  · exact ⟨rfl, rfl⟩
  · exact ⟨rfl, rfl⟩
  · exact ⟨rfl, rfl⟩
  · exact ⟨rfl, rfl⟩
  · exact ⟨rfl, rfl⟩
  · cases h

theorem zOK_sound {x : AV} {v : Value} (h : zOK x v = true) : RV w A x v ∧ x.cell1 = true ∧ x.erase = x := by
  unfold zOK at h
  split at h
  · obtain ⟨rfl, hf⟩ := vEq_eq h
    exact ⟨.lit _ hf, rfl, rfl⟩
  · exact ⟨.nils _ _, rfl, rfl⟩
  · cases h

theorem zsOK_sound : ∀ {xs : List AV} {vs : List Value}, zsOK xs vs = true →
    vs.length = xs.length ∧ (∀ i, RV w A (xs.getD i .any) (vs.getD i undef)) ∧ (∀ x ∈ xs, x.cell1 = true ∧ x.erase = x)
  | [], [], _ => ⟨rfl, fun _ => by simp; exact .any _, by simp⟩
  | x :: xs, v :: vs, h => by
    simp only [zsOK, Bool.and_eq_true] at h
    obtain ⟨h1, h2⟩ := h
    have hx := zOK_sound (w := w) (A := A) h1
    obtain ⟨i1, i2, i3⟩ := zsOK_sound (xs := xs) (vs := vs) h2
    refine ⟨by simp [i1], fun i => ?_, ?_⟩
    · cases i with
      | zero => simpa using hx.1
      | succ i => simpa using i2 i
    · intro y hy
      rcases List.mem_cons.1 hy with rfl | hy
      · exact hx.2
      · exact i3 y hy
  | [], _ :: _, h => by cases h
  | _ :: _, [], h => by cases h

theorem zOKA_sound {x : AV} {v : Value} (h : zOKA x v = true) : RV w A x v ∧ OwnOK sp x v := by
  unfold zOKA at h
  split at h
  · obtain ⟨rfl, hf⟩ := vEq_eq h
    exact ⟨.lit _ hf, trivial⟩
  · exact ⟨.nils _ _, trivial⟩
  · cases h

theorem zsOKA_sound : ∀ {xs : List AV} {vs : List Value}, zsOKA xs vs = true → vs.length = xs.length ∧ ∀ i, RV w A (xs.getD i .any) (vs.getD i undef) ∧ OwnOK sp (xs.getD i .any) (vs.getD i undef)
  | [], [], _ => ⟨rfl, fun _ => by simp; exact ⟨.any _, trivial⟩⟩
  | x :: xs, v :: vs, h => by
    simp only [zsOKA, Bool.and_eq_true] at h
    have hx := zOKA_sound (w := w) (A := A) (sp := sp) h.1
    obtain ⟨i1, i2⟩ := zsOKA_sound (xs := xs) (vs := vs) h.2
    refine ⟨by simp [i1], fun i => ?_⟩
    cases i with
    | zero => simpa using hx
    | succ i => simpa using i2 i
  | [], _ :: _, h => by cases h
  | _ :: _, [], h => by cases h

theorem ofFlat_sound {v : Value} {x : AV} (h : ofFlat v = some x) : RV w A x v ∧ OwnOK sp x v := by
  unfold ofFlat at h
  split at h <;> first | (injection h with h; subst h; first | exact ⟨.nils _ _, trivial⟩ | exact ⟨.lit _ rfl, trivial⟩) | cases h

theorem ofFlats_sound : ∀ {vs : List Value} {xs : List AV}, ofFlats vs = some xs → vs.length = xs.length ∧ ∀ i, RV w A (xs.getD i .any) (vs.getD i undef)
  | [], xs, h => by injection h with h; subst h; exact ⟨rfl, fun i => .any _⟩
  | v :: vs, xs, h => by
    simp only [ofFlats, Option.bind_eq_some_iff, Option.map_eq_some_iff] at h
    obtain ⟨x, hx, ys, hys, rfl⟩ := h
    obtain ⟨g1, g2⟩ := ofFlats_sound hys
    refine ⟨by simp [g1], fun i => ?_⟩
    cases i with
    | zero => exact (ofFlat_sound (sp := fun _ => (0, 0, 0)) hx).1
    | succ i => simpa using g2 i
theorem ofVal_sound {v : Value} {x : AV} (h : ofVal v = some x) : RV w A x v ∧ OwnOK sp x v := by
  unfold ofVal at h
  split at h
  · rename_i vs
    simp only [Option.map_eq_some_iff] at h
    obtain ⟨xs, hxs, rfl⟩ := h
    obtain ⟨g1, g2⟩ := ofFlats_sound (w := w) (A := A) hxs
    refine ⟨.agg _ _ (by simpa using g1) fun i => ?_, trivial⟩
    have := g2 i
    simpa [List.getD_eq_getElem?_getD, Array.getD_eq_getD_getElem?] using this
  · exact ofFlat_sound h

theorem argOf_sound {N : Nat} {s : St} {a : Act} (hs : RS N s a w A sp) {x : Operand} {m : MArg} (h : argOf x = some m) :
    RV w A (m.ev s.env) (a.eval x) ∧ OwnOK sp (m.ev s.env) (a.eval x) := by
  cases x with
  | tmp t => injection h with h; subst h; exact hs.env t
  | const v =>
    simp only [argOf, Option.map_eq_some_iff] at h
    obtain ⟨y, hy, rfl⟩ := h
    exact ofVal_sound hy
  | global g => cases h
  | func f =>
    injection h with h; subst h
    refine ⟨.func _ _ _ _ _ rfl rfl (fun i => ?_) (fun i => ?_), trivial⟩ <;> simp <;> exact .any _

theorem argOfT_sound {P : Program} {t : TypeId} {N : Nat} {s : St} {a : Act} (hs : RS N s a w A sp) {x : Operand} {m : MArg} (h : argOfT P t x = some m) :
    RV w A (m.ev s.env) (a.eval x) ∧ OwnOK sp (m.ev s.env) (a.eval x) := by
  unfold argOfT at h
  split at h
  · split at h
    · simp only [Option.map_eq_some_iff] at h
      obtain ⟨n, _, rfl⟩ := h
      exact ⟨.nils _ _, trivial⟩
    · exact argOf_sound hs h
  · exact argOf_sound hs h
end

end Go.Avm

namespace Go.Avm
open Go.RowKit

section
variable {w : World} {A : Area} {sp : Sp}

theorem RV.inv_int {k : IntKind} {n : Int} {v : Value} (h : RV w A (.lit (.int k n)) v) : v = .int k n := by cases h; rfl
theorem RV.inv_bool {b : Bool} {v : Value} (h : RV w A (.lit (.bool b)) v) : v = .bool b := by cases h; rfl
theorem RV.inv_str {t : ByteArray} {v : Value} (h : RV w A (.lit (.string t)) v) : v = .string t := by cases h; rfl

theorem RV.part {xs : List AV} {vs : Array Value} (hs : vs.size = xs.length) (hr : ∀ i, RV w A (xs.getD i .any) (vs.getD i undef)) (off n : Nat) (h : off + n ≤ xs.length) :
    RV w A (.agg ((xs.drop off).take n)) (.agg (vs.extract off (off + n))) := by
  refine .agg _ _ (by simp; omega) fun i => ?_
  by_cases hi : i < n
  · have := hr (off + i)
    simp only [List.getD_eq_getElem?_getD, Array.getD_eq_getD_getElem?, List.getElem?_take, hi, if_true, List.getElem?_drop, Array.getElem?_extract] at this ⊢
    rw [if_pos (by omega)]
    exact this
  · simp only [List.getD_eq_getElem?_getD, List.getElem?_take, hi, if_false, Option.getD_none]
    exact .any _
end

section
variable {P : Program} {N : Nat} {s : St} {a : Act} {w : World} {A : Area} {sp : Sp} {K : St → Prop} {next : Act → World → Prop} {Q : Exit → Act → World → Prop}
  {o : Oper} {d : Nat}

abbrev Next (s : St) (w : World) (A : Area) (sp : Sp) (N : Nat) (K : St → Prop) (next : Act → World → Prop) : Prop :=
  ∀ s' a' w' A' sp', K s' → RS N s' a' w' A' sp' → Ev w A (live s.loc sp) w' A' (live s'.loc sp') → next a' w'

theorem s_cpy {x : Operand} {m : MArg} (hop : o.op = .move x) (hd : o.dst = some d) (hN : d < N) (hx : argOf x = some m)
    (h : RS N s a w A sp) (hv : K (s.set d (m.ev s.env))) (hn : Next s w A sp N K next) : o.wp P a w next Q :=
  fin h hd hN (by simp [execOp, hop]) (argOf_sound h hx).1 (argOf_sound h hx).2 hv hn

theorem s_pick {c x y : Operand} {mc mx my : MArg} (hop : o.op = .pick c x y) (hd : o.dst = some d) (hN : d < N) (hc : argOf c = some mc) (hx : argOf x = some mx) (hy : argOf y = some my)
    (h : RS N s a w A sp) (hv : vc1 P (.pick d mc mx my) s K) (hn : Next s w A sp N K next) : o.wp P a w next Q := by
  have h1 := (argOf_sound h hc).1
  simp only [vc1] at hv
  split at hv
  · rename_i b hb
    rw [hb] at h1
    have hcv := h1.inv_bool
    refine fin (x := if b then mx.ev s.env else my.ev s.env) (v := if b then a.eval x else a.eval y) h hd hN (by simp [execOp, hop, hcv, asBool]) ?_ ?_ hv hn
    · cases b
      · exact (argOf_sound h hy).1
      · exact (argOf_sound h hx).1
    · cases b
      · exact (argOf_sound h hy).2
      · exact (argOf_sound h hx).2
  · exact hv.elim

theorem isAgg_run {t : TypeId} {n : Option Nat} (h : partN P t = some n) (w : World) :
    (isAgg t).run P w = .ok n.isSome w ∧ (∃ i, P.info? t = some i ∧ ∀ k, n = some k → i.size = k) := by
  unfold partN at h
  split at h
  · rename_i dd i hu hi
    injection h with h
    unfold isAgg
    rw [Sem.run_bind, run_underlying hu w]
    refine ⟨?_, i, hi, ?_⟩
    · cases dd <;> subst h <;> simp
    · intro k hk; subst h; cases dd <;> simp at hk <;> exact hk
  · cases h

theorem Addr.add_lit' (b off i : Nat) : (⟨b, off, none⟩ : Addr).add i = ⟨b, off + i, none⟩ := by unfold Addr.add; split <;> simp_all

theorem loadVar_run {t : TypeId} {n : Option Nat} (h : partN P t = some n) (w : World) (b off : Nat) (f : Nat → Value)
    (hc : ∀ i, i < n.getD 1 → w.cell? ⟨b, off + i, none⟩ = some (f i)) :
    (loadVar t ⟨b, off, none⟩).run P w = .ok (match n with | none => f 0 | some k => .agg ((Array.range k).map f)) w := by
  obtain ⟨h1, i, hi, hk⟩ := isAgg_run h w
  unfold loadVar
  rw [Sem.run_bind, h1]
  cases n with
  | none =>
    have := hc 0 (by simp)
    simp at this
    simp [run_load, this]
  | some k =>
    have hl := run_loadCells (P := P) w ⟨b, off, none⟩ k f (fun j hj => by rw [Addr.add_lit']; exact hc j (by simpa using hj))
    simp only [Sem.run_bind, sizeOf, typeInfo, Sem.run_pure, run_program, hi, hk k rfl, hl, Option.isSome, if_true, Result.andThen_ok]
    congr 2
    exact Array.ext' (by simp)

theorem s_load {t : TypeId} {x : Operand} {m : MArg} {n : Option Nat} (hop : o.op = .load t x) (hd : o.dst = some d) (hN : d < N) (hx : argOf x = some m) (ht : partN P t = some n)
    (h : RS N s a w A sp) (hv : vc1 P (.load d m n) s K) (hn : Next s w A sp N K next) : o.wp P a w next Q := by
  have h1 := (argOf_sound h hx).1
  simp only [vc1, loadK] at hv
  split at hv
  · rename_i cs hcs
    rw [hcs] at h1
    generalize hv0 : a.eval x = v0 at h1
    cases h1 with
    | ref _ b off vs hc hr =>
      cases n with
      | none =>
        simp only [partK] at hv
        refine fin (v := vs 0) (x := (cs.getD 0 .any).erase) h hd hN ?_ (hr 0).erase OwnOK.erase hv.2 hn
        have := loadVar_run ht w b off vs (fun i hi => (hc i (by simp at hi; omega)).1)
        simp only [execOp, hop, hv0, Instr.loadAt, Instr.sureAddr, Sem.run_bind, Sem.run_pure, Result.andThen_ok, this]
      | some k =>
        simp only [partK, Nat.zero_add, List.drop_zero] at hv
        have := loadVar_run ht w b off vs (fun i hi => (hc i (by simp at hi; omega)).1)
        refine fin (v := .agg ((Array.range k).map vs)) (x := (AV.agg (cs.take k)).erase.erase) h hd hN
          (by simp only [execOp, hop, hv0, Instr.loadAt, Instr.sureAddr, Sem.run_bind, Sem.run_pure, Result.andThen_ok, this]) ?_ OwnOK.erase hv.2 hn
        refine RV.erase (RV.erase (.agg _ _ (by simp; omega) fun i => ?_))
        by_cases hi : i < k
        · have := hr i
          simp only [List.getD_eq_getElem?_getD, List.getElem?_take, hi, if_true, Array.getD_eq_getD_getElem?, Array.getElem?_map] at this ⊢
          rw [Array.getElem?_eq_getElem (by simpa using hi)]
          simpa using this
        · simp only [List.getD_eq_getElem?_getD, List.getElem?_take, hi, if_false, Option.getD_none]
          exact .any _
  · rename_i b off hcs
    rw [hcs] at h1
    generalize hv0 : a.eval x = v0 at h1
    cases h1
    split at hv
    · rename_i cs hb
      obtain ⟨vs, T, hh, hsz, hr⟩ := h.loc b cs hb
      have hcell : ∀ i, off + i < cs.length → w.cell? ⟨b, off + i, none⟩ = some (vs.getD (off + i) undef) := by
        intro i hi
        simp [World.cell?, hh, Array.getD_eq_getD_getElem?, Array.getElem?_eq_getElem (show off + i < vs.size by omega)]
      cases n with
      | none =>
        simp only [partK] at hv
        have := loadVar_run ht w b off (fun i => vs.getD (off + i) undef) (fun i hi => hcell i (by simp at hi; omega))
        refine fin (v := vs.getD off undef) (x := cs.getD off .any) h hd hN ?_ (hr off).1 (hr off).2 hv.2 hn
        simp only [execOp, hop, hv0, Instr.loadAt, Instr.sureAddr, Sem.run_bind, Sem.run_pure, Result.andThen_ok, this, Nat.add_zero]
      | some k =>
        simp only [partK] at hv
        have := loadVar_run ht w b off (fun i => vs.getD (off + i) undef) (fun i hi => hcell i (by simp at hi; omega))
        refine fin (v := .agg ((Array.range k).map fun i => vs.getD (off + i) undef)) (x := (AV.agg ((cs.drop off).take k)).erase) h hd hN
          (by simp only [execOp, hop, hv0, Instr.loadAt, Instr.sureAddr, Sem.run_bind, Sem.run_pure, Result.andThen_ok, this]) ?_ OwnOK.erase hv.2 hn
        refine RV.erase (.agg _ _ (by simp; omega) fun i => ?_)
        by_cases hi : i < k
        · have := (hr (off + i)).1
          simp only [List.getD_eq_getElem?_getD, List.getElem?_take, hi, if_true, List.getElem?_drop, Array.getD_eq_getD_getElem?, Array.getElem?_map] at this ⊢
          rw [Array.getElem?_eq_getElem (by simpa using hi)]
          simpa using this
        · simp only [List.getD_eq_getElem?_getD, List.getElem?_take, hi, if_false, Option.getD_none]
          exact .any _
    · exact hv.elim
  · exact hv.elim

theorem RV.ref_drop {cs : List AV} {b off : Nat} (k : Nat) (h : RV w A (.ref cs) (.pointer (some ⟨b, off, none⟩))) : RV w A (.ref (cs.drop k)) (.pointer (some ⟨b, off + k, none⟩)) := by
  cases h with
  | ref _ _ _ vs hc hr =>
    refine .ref _ _ _ (fun i => vs (k + i)) (fun i hi => ?_) (fun i => ?_)
    · simp at hi
      rw [Nat.add_assoc]
      exact hc (k + i) (by omega)
    · have := hr (k + i)
      simpa [List.getD_eq_getElem?_getD] using this

theorem s_addr {t : TypeId} {x : Operand} {m : MArg} {f : Nat} {fs : Array Field} {fd : Field} {n : Nat} (hop : o.op = .fieldAddr t x f) (hd : o.dst = some d) (hN : d < N) (hx : argOf x = some m)
    (ht : P.underlying t = some (.struct fs)) (hf : fs[f]? = some fd) (hz : szOf P fd.type = some n) (hz0 : n ≠ 0)
    (h : RS N s a w A sp) (hv : vc1 P (.addr d m fd.offset) s K) (hn : Next s w A sp N K next) : o.wp P a w next Q := by
  have h1 := (argOf_sound h hx).1
  simp only [szOf, Option.map_eq_some_iff] at hz
  obtain ⟨i, hi, rfl⟩ := hz
  have hrun : ∀ b off, (Instr.fieldAt t (.pointer (some ⟨b, off, none⟩)) f).run P w = .ok (.pointer (some ⟨b, off + fd.offset, none⟩)) w := by
    intro b off
    simp [Instr.fieldAt, run_underlying ht, hf, Instr.sureAddr, fieldPlace, sizeOf, typeInfo, hi, hz0, Addr.add_lit']
  simp only [vc1] at hv
  split at hv
  · rename_i cs hcs
    rw [hcs] at h1
    generalize hv0 : a.eval x = v0 at h1
    cases h1 with
    | ref _ b off vs hc hr =>
      exact fin h hd hN (by simp only [execOp, hop, hv0, Sem.run_bind, hrun, Result.andThen_ok, Sem.run_pure]) (RV.ref_drop fd.offset (.ref _ b off vs hc hr)) trivial hv hn
  · rename_i b off hcs
    rw [hcs] at h1
    generalize hv0 : a.eval x = v0 at h1
    cases h1
    exact fin h hd hN (by simp only [execOp, hop, hv0, Sem.run_bind, hrun, Result.andThen_ok, Sem.run_pure]) (.mref _ _) trivial hv hn
  · exact hv.elim

theorem flatMap_at {α β : Type} (f : α → List β) (sz : Nat) : ∀ (xs : List α) (i : Nat), (∀ x ∈ xs, (f x).length = sz) → i < xs.length →
    ∀ j z x0, j < sz → (xs.flatMap f).getD (i * sz + j) z = ((f (xs.getD i x0)).getD j z)
  | [], i, _, hi => by simp at hi
  | x :: xs, 0, h, _ => by
    intro j z x0 hj
    have hx := h x (by simp)
    simp only [List.flatMap_cons, List.getD_eq_getElem?_getD, Nat.zero_mul, Nat.zero_add, List.getElem?_cons_zero, Option.getD_some]
    rw [List.getElem?_append_left (by omega)]
  | x :: xs, i + 1, h, hi => by
    intro j z x0 hj
    have hx := h x (by simp)
    have ih := flatMap_at f sz xs i (fun y hy => h y (by simp [hy])) (by simpa using hi) j z x0 hj
    have e : (i + 1) * sz + j = (f x).length + (i * sz + j) := by rw [hx, Nat.add_mul]; omega
    simp only [List.flatMap_cons, List.getD_eq_getElem?_getD, List.getElem?_cons_succ, e] at ih ⊢
    rw [List.getElem?_append_right (by omega), Nat.add_sub_cancel_left]
    exact ih

theorem RV.elem {sz : Nat} {xs : List AV} {own b off cap len : Nat} (h : RV w A (.slice sz xs own) (.slice (some ⟨b, off, none⟩) len cap)) (i : Nat) (hi : i < xs.length) :
    RV w A (.ref (xs.getD i .any).cells) (.pointer (some ⟨b, off + i * sz, none⟩)) := by
  cases h with
  | slice _ _ _ _ _ _ vs hsz h1c hcap hlen hc hr =>
    have hx : (xs.getD i .any).cells.length = sz := by
      rw [List.getD_eq_getElem?_getD, List.getElem?_eq_getElem hi]
      exact hsz _ (by simp)
    have hb : (i + 1) * sz ≤ xs.length * sz := Nat.mul_le_mul_right _ hi
    rw [Nat.add_mul, Nat.one_mul] at hb
    refine .ref _ _ _ (fun j => vs (i * sz + j)) (fun j hj => ?_) (fun j => ?_)
    · rw [Nat.add_assoc]; exact hc _ (by omega)
    · by_cases hj : j < sz
      · have := hr (i * sz + j)
        rw [flatMap_at AV.cells sz xs i hsz hi j .any .any hj] at this
        exact this
      · rw [List.getD_eq_getElem?_getD, List.getElem?_eq_none (by omega)]
        exact .any _

theorem s_idxS {t e : TypeId} {x i : Operand} {m mi : MArg} {sz : Nat} (hop : o.op = .indexAddr t x i) (hd : o.dst = some d) (hN : d < N) (hx : argOf x = some m) (hi : argOf i = some mi)
    (ht : P.underlying t = some (.slice e)) (hz : szOf P e = some sz)
    (h : RS N s a w A sp) (hv : vc1 P (.idxS d m mi sz) s K) (hn : Next s w A sp N K next) : o.wp P a w next Q := by
  have h1 := (argOf_sound h hx).1
  have h2 := (argOf_sound h hi).1
  simp only [szOf, Option.map_eq_some_iff] at hz
  obtain ⟨inf, hinf, rfl⟩ := hz
  simp only [vc1] at hv
  split at hv
  · rename_i sz' xs own k n hxs hint
    obtain ⟨rfl, h0, hl, hK⟩ := hv
    rw [hxs] at h1; rw [hint] at h2
    have e2 := h2.inv_int
    generalize hv0 : a.eval x = v0 at h1
    have hx' := h1
    cases h1 with
    | nils => simp at hl; omega
    | slice _ _ _ b off cap vs hsz h1c hcap hlen hc hr =>
      have hnn : n.toNat < xs.length := by omega
      refine fin h hd hN (v := .pointer (some ⟨b, off + n.toNat * inf.size, none⟩)) ?_ (hx'.elem n.toNat hnn) trivial hK hn
      simp [execOp, hop, hv0, e2, Instr.indexAt, asIntOf, run_underlying ht, h0, hl, sizeOf, typeInfo, hinf, Addr.add_lit']
  · rename_i b off len cap sz' k n hxs hint
    obtain ⟨rfl, h0, hl, hK⟩ := hv
    rw [hxs] at h1; rw [hint] at h2
    have e2 := h2.inv_int
    generalize hv0 : a.eval x = v0 at h1
    cases h1
    refine fin h hd hN (v := .pointer (some ⟨b, off + n.toNat * inf.size, none⟩)) ?_ (.mref _ _) trivial hK hn
    simp [execOp, hop, hv0, e2, Instr.indexAt, asIntOf, run_underlying ht, h0, hl, sizeOf, typeInfo, hinf, Addr.add_lit']
  · exact hv.elim

theorem s_idxA {t e : TypeId} {x i : Operand} {m mi : MArg} {len sz : Nat} (hop : o.op = .indexAddr t x i) (hd : o.dst = some d) (hN : d < N) (hx : argOf x = some m) (hi : argOf i = some mi)
    (ht : P.underlying t = some (.array len e)) (hz : szOf P e = some sz)
    (h : RS N s a w A sp) (hv : vc1 P (.idxA d m mi len sz) s K) (hn : Next s w A sp N K next) : o.wp P a w next Q := by
  have h1 := (argOf_sound h hx).1
  have h2 := (argOf_sound h hi).1
  simp only [szOf, Option.map_eq_some_iff] at hz
  obtain ⟨inf, hinf, rfl⟩ := hz
  simp only [vc1] at hv
  split at hv
  · rename_i cs k n hxs hint
    obtain ⟨h0, hl, hK⟩ := hv
    rw [hxs] at h1; rw [hint] at h2
    have e2 := h2.inv_int
    generalize hv0 : a.eval x = v0 at h1
    cases h1 with
    | ref _ b off vs hc hr =>
      refine fin h hd hN (v := .pointer (some ⟨b, off + n.toNat * inf.size, none⟩)) ?_ (RV.ref_drop (n.toNat * inf.size) (.ref _ b off vs hc hr)) trivial hK hn
      simp [execOp, hop, hv0, e2, Instr.indexAt, asIntOf, run_underlying ht, h0, hl, Instr.sureAddr, sizeOf, typeInfo, hinf, Addr.add_lit']
  · rename_i b off k n hxs hint
    obtain ⟨h0, hl, hK⟩ := hv
    rw [hxs] at h1; rw [hint] at h2
    have e2 := h2.inv_int
    generalize hv0 : a.eval x = v0 at h1
    cases h1
    refine fin h hd hN (v := .pointer (some ⟨b, off + n.toNat * inf.size, none⟩)) ?_ (.mref _ _) trivial hK hn
    simp [execOp, hop, hv0, e2, Instr.indexAt, asIntOf, run_underlying ht, h0, hl, Instr.sureAddr, sizeOf, typeInfo, hinf, Addr.add_lit']
  · exact hv.elim

theorem part_sound {t : TypeId} {cs : List AV} {vs : Array Value} {off : Nat} {n : Option Nat} {k : AV → Prop} (ht : partN P t = some n)
    (hs : vs.size = cs.length) (hr : ∀ i, RV w A (cs.getD i .any) (vs.getD i undef)) (hv : partK cs off n k) :
    ∃ x v, (part t vs off).run P w = .ok v w ∧ RV w A x v ∧ k x := by
  obtain ⟨h1, i, hi, hk⟩ := isAgg_run ht w
  cases n with
  | none =>
    simp only [partK] at hv
    refine ⟨_, vs.getD off undef, ?_, hr off, hv.2⟩
    have : vs[off]? = some (vs.getD off undef) := by
      rw [Array.getD_eq_getD_getElem?, Array.getElem?_eq_getElem (by omega)]; rfl
    generalize vs.getD off undef = v at this
    simp [part, Sem.run_bind, h1, this]
  | some m =>
    simp only [partK] at hv
    exact ⟨_, .agg (vs.extract off (off + m)), by simp [part, Sem.run_bind, h1, sizeOf, typeInfo, hi, hk m rfl], (RV.part hs hr off m hv.1).erase, hv.2⟩

theorem s_fld {t : TypeId} {x : Operand} {m : MArg} {f : Nat} {fs : Array Field} {fd : Field} {n : Option Nat} (hop : o.op = .field t x f) (hd : o.dst = some d) (hN : d < N) (hx : argOf x = some m)
    (ht : P.underlying t = some (.struct fs)) (hf : fs[f]? = some fd) (hz : partN P fd.type = some n)
    (h : RS N s a w A sp) (hv : vc1 P (.fld d m fd.offset n) s K) (hn : Next s w A sp N K next) : o.wp P a w next Q := by
  have h1 := (argOf_sound h hx).1
  simp only [vc1] at hv
  split at hv
  · rename_i cs hcs
    rw [hcs] at h1
    generalize hv0 : a.eval x = v0 at h1
    cases h1 with
    | agg _ vs hs hr =>
      obtain ⟨y, v, hrun, hy, hK⟩ := part_sound hz hs hr hv
      exact fin h hd hN (by simp [execOp, hop, hv0, Instr.field, run_underlying ht, hf, asAgg, hrun]) hy.erase .erase hK hn
  · exact hv.elim

theorem s_idxV {t e : TypeId} {x i : Operand} {m mi : MArg} {len sz : Nat} {n : Option Nat} (hop : o.op = .index t x i) (hd : o.dst = some d) (hN : d < N) (hx : argOf x = some m) (hi : argOf i = some mi)
    (ht : P.underlying t = some (.array len e)) (hz : szOf P e = some sz) (hp : partN P e = some n)
    (h : RS N s a w A sp) (hv : vc1 P (.idxV d m mi len sz n) s K) (hn : Next s w A sp N K next) : o.wp P a w next Q := by
  have h1 := (argOf_sound h hx).1
  have h2 := (argOf_sound h hi).1
  simp only [szOf, Option.map_eq_some_iff] at hz
  obtain ⟨inf, hinf, rfl⟩ := hz
  simp only [vc1] at hv
  split at hv
  · rename_i cs k j hcs hint
    obtain ⟨h0, hl, hv⟩ := hv
    rw [hcs] at h1; rw [hint] at h2
    have e2 := h2.inv_int
    generalize hv0 : a.eval x = v0 at h1
    cases h1 with
    | agg _ vs hs hr =>
      obtain ⟨y, v, hrun, hy, hK⟩ := part_sound hp hs hr hv
      exact fin h hd hN (by simp [execOp, hop, hv0, e2, Instr.index, asIntOf, run_underlying ht, h0, hl, sizeOf, typeInfo, hinf, hrun]) hy.erase .erase hK hn
  · exact hv.elim

theorem s_idxStr {t : TypeId} {x i : Operand} {m mi : MArg} (hop : o.op = .index t x i) (hd : o.dst = some d) (hN : d < N) (hx : argOf x = some m) (hi : argOf i = some mi)
    (ht : P.underlying t = some .string)
    (h : RS N s a w A sp) (hv : vc1 P (.idxStr d m mi) s K) (hn : Next s w A sp N K next) : o.wp P a w next Q := by
  have h1 := (argOf_sound h hx).1
  have h2 := (argOf_sound h hi).1
  simp only [vc1] at hv
  split at hv
  · rename_i st k j hcs hint
    obtain ⟨h0, hl, hv⟩ := hv
    rw [hcs] at h1; rw [hint] at h2
    have e1 := h1.inv_str
    have e2 := h2.inv_int
    have hb : st[j.toNat]? = some (st.data.toList.getD j.toNat 0) := by
      have hlt : j.toNat < st.size := by omega
      rw [getElem?_pos st j.toNat hlt]
      congr 1
      rw [List.getD_eq_getElem?_getD, List.getElem?_eq_getElem (by simpa using hlt)]
      rfl
    have hrun : (Instr.index t (.string st) (.int k j)).run P w = .ok (.int .u8 (st.data.toList.getD j.toNat 0).toNat) w := by
      generalize st.data.toList.getD j.toNat 0 = c at hb
      unfold Instr.index
      simp only [asIntOf, Sem.run_bind, Sem.run_pure, Result.andThen_ok, run_underlying ht, if_pos h0, hb]
    exact fin (v := .int .u8 (st.data.toList.getD j.toNat 0).toNat) h hd hN (by simp only [execOp, hop, e1, e2, Sem.run_bind, hrun, Result.andThen_ok, Sem.run_pure]) (.lit _ rfl) trivial hv hn
  · exact hv.elim

end
end Go.Avm

namespace Go.Avm
open Go.RowKit

section
variable {P : Program} {N : Nat} {s : St} {a : Act} {w : World} {A : Area} {sp : Sp} {K : St → Prop} {next : Act → World → Prop} {Q : Exit → Act → World → Prop}
  {o : Oper} {d : Nat}

theorem binI_sound {op : BinOp} {k : IntKind} {p q : Int} {f : AV → Prop} (hsh : op ≠ .shl ∧ op ≠ .shr) (t : TypeId) (h : binI op k p q f) :
    ∃ v, (binOp op t (.int k p) (.int k q)).run P w = .ok v w ∧ flat v = true ∧ f (.lit v) := by
  cases op with
  | shl => exact absurd rfl hsh.1
  | shr => exact absurd rfl hsh.2
  | add => exact ⟨.int k (p + q), by simp [binOp, Op.intArith, wrap_inK h.1], rfl, h.2⟩
  | sub => exact ⟨.int k (p - q), by simp [binOp, Op.intArith, wrap_inK h.1], rfl, h.2⟩
  | mul => exact ⟨.int k (p * q), by simp [binOp, Op.intArith, wrap_inK h.1], rfl, h.2⟩
  | quo => exact ⟨.int k (p.tdiv q), by simp [binOp, Op.intDiv, h.1, wrap_inK h.2.1], rfl, h.2.2⟩
  | rem => exact ⟨.int k (p.tmod q), by simp [binOp, Op.intDiv, h.1], rfl, h.2⟩
  | and => exact ⟨.int k (bitI .and k p q), by simp only [binOp, ne_eq, not_true, if_false]; rfl, rfl, h⟩
  | or => exact ⟨.int k (bitI .or k p q), by simp only [binOp, ne_eq, not_true, if_false]; rfl, rfl, h⟩
  | xor => exact ⟨.int k (bitI .xor k p q), by simp only [binOp, ne_eq, not_true, if_false]; rfl, rfl, h⟩
  | andNot => exact ⟨.int k (bitI .andNot k p q), by simp only [binOp, ne_eq, not_true, if_false]; rfl, rfl, h⟩
  | eql => exact ⟨.bool (p == q), by simp [binOp, Op.intCmp], rfl, h⟩
  | neq => exact ⟨.bool (p != q), by simp [binOp, Op.intCmp], rfl, h⟩
  | lss => exact ⟨.bool (decide (p < q)), by simp [binOp, Op.intCmp], rfl, h⟩
  | leq => exact ⟨.bool (decide (p ≤ q)), by simp [binOp, Op.intCmp], rfl, h⟩
  | gtr => exact ⟨.bool (decide (p > q)), by simp [binOp, Op.intCmp], rfl, h⟩
  | geq => exact ⟨.bool (decide (p ≥ q)), by simp [binOp, Op.intCmp], rfl, h⟩

theorem shI_sound {op : BinOp} {k k' : IntKind} {p q : Int} {f : AV → Prop} (t : TypeId) (h : shI op k p q f) :
    ∃ v, (binOp op t (.int k p) (.int k' q)).run P w = .ok v w ∧ flat v = true ∧ f (.lit v) := by
  cases op with
  | shl => exact ⟨.int k (k.wrap (p * 2 ^ (min q.toNat k.bits))), by simp [binOp, Op.shift, Int.not_lt.2 h.1], rfl, h.2⟩
  | shr => exact ⟨.int k (p.fdiv (2 ^ (min q.toNat k.bits))), by simp [binOp, Op.shift, Int.not_lt.2 h.1], rfl, h.2⟩
  | _ => exact h.elim

theorem binS_sound {op : BinOp} {p q : ByteArray} {f : AV → Prop} (t : TypeId) (h : binS op p q f) :
    ∃ v, (binOp op t (.string p) (.string q)).run P w = .ok v w ∧ flat v = true ∧ f (.lit v) := by
  cases op with
  | eql => exact ⟨.bool (p.toList == q.toList), rfl, rfl, h⟩
  | neq => exact ⟨.bool (!(p.toList == q.toList)), rfl, rfl, h⟩
  | lss => exact ⟨.bool (Op.bytesLess p.toList q.toList), rfl, rfl, h⟩
  | leq => exact ⟨.bool (Op.bytesLess p.toList q.toList || p.toList == q.toList), rfl, rfl, h⟩
  | gtr => exact ⟨.bool (!(Op.bytesLess p.toList q.toList || p.toList == q.toList)), rfl, rfl, h⟩
  | geq => exact ⟨.bool (!Op.bytesLess p.toList q.toList), rfl, rfl, h⟩
  | _ => exact h.elim

theorem eqGuard_lit {op : BinOp} {t : TypeId} {x y : Operand} {p q : Value} (h1 : flat p = true) (h2 : flat q = true) (h3 : p ≠ .nilIface) :
    (eqGuard op t x y p q).run P w = .ok () w := by
  unfold eqGuard
  cases op <;> first
    | rfl
    | (cases p <;> cases q <;> first | (cases h1; done) | (cases h2; done) | exact absurd rfl h3 | rfl)

theorem binK_sound {op : BinOp} {x y : AV} {p q : Value} {f : AV → Prop} (t : TypeId) (ox oy : Operand) (hx : RV w A x p) (hy : RV w A y q) (h : binK op x y f) :
    ∃ v, (do eqGuard op t ox oy p q; binOp op t p q : Sem Value).run P w = .ok v w ∧ flat v = true ∧ f (.lit v) := by
  unfold binK at h
  split at h
  · have e1 := hx.inv_int; have e2 := hy.inv_int
    subst e1; subst e2
    simp only [Sem.run_bind, eqGuard_lit (P := P) (w := w) (op := op) (t := t) (x := ox) (y := oy) (p := .int _ _) (q := .int _ _) rfl rfl (by simp), Result.andThen_ok]
    split at h
    · exact shI_sound t h
    · exact shI_sound t h
    · rename_i n1 n2
      obtain ⟨rfl, h⟩ := h
      exact binI_sound ⟨n1, n2⟩ t h
  · have e1 := hx.inv_str; have e2 := hy.inv_str
    subst e1; subst e2
    simp only [Sem.run_bind, eqGuard_lit (P := P) (w := w) (op := op) (t := t) (x := ox) (y := oy) (p := .string _) (q := .string _) rfl rfl (by simp), Result.andThen_ok]
    exact binS_sound t h
  · exact h.elim

theorem s_bin {t t' : TypeId} {op : BinOp} {x y : Operand} {mx my : MArg} (hop : o.op = .binOp op t x y t') (hd : o.dst = some d) (hN : d < N) (hx : argOf x = some mx) (hy : argOf y = some my)
    (h : RS N s a w A sp) (hv : vc1 P (.bin d op mx my) s K) (hn : Next s w A sp N K next) : o.wp P a w next Q := by
  have h1 := (argOf_sound h hx).1
  have h2 := (argOf_sound h hy).1
  simp only [vc1] at hv
  obtain ⟨v, hrun, hf, hK⟩ := binK_sound (P := P) t x y h1 h2 hv
  refine fin h hd hN ?_ (.lit v hf) (.of_not (by intro _ _ _ h; cases h)) hK hn
  simp only [Sem.run_bind] at hrun
  simp only [execOp, hop, Sem.run_bind, hrun, Result.andThen_ok, Sem.run_pure]

theorem equal_bool (t : TypeId) (ht : P.underlying t = some .bool) (p q : Bool) : (Op.equal t (.bool p) (.bool q)).run P w = .ok (p == q) w := by
  show (Op.equalIn (9999 + 1) t _ _).run P w = _
  unfold Op.equalIn
  simp only [Sem.run_bind, run_underlying ht, Result.andThen_ok, Sem.run_pure]

theorem s_binB {t t' : TypeId} {op : BinOp} {neg : Bool} {x y : Operand} {mx my : MArg} (hop : o.op = .binOp op t x y t') (hneg : op = (if neg then .neq else .eql)) (hd : o.dst = some d) (hN : d < N) (hx : argOf x = some mx) (hy : argOf y = some my)
    (ht : P.underlying t = some .bool)
    (h : RS N s a w A sp) (hv : vc1 P (.binB d neg mx my) s K) (hn : Next s w A sp N K next) : o.wp P a w next Q := by
  have h1 := (argOf_sound h hx).1
  have h2 := (argOf_sound h hy).1
  simp only [vc1] at hv
  split at hv
  · rename_i p q e1 e2
    rw [e1] at h1; rw [e2] at h2
    have v1 := h1.inv_bool; have v2 := h2.inv_bool
    refine fin h hd hN ?_ (.lit _ rfl) trivial hv hn
    subst hneg
    have hg := fun op => eqGuard_lit (P := P) (w := w) (op := op) (t := t) (x := x) (y := y) (p := .bool p) (q := .bool q) rfl rfl (by simp)
    cases neg <;> simp [execOp, hop, v1, v2, hg, binOp, equal_bool t ht]
  · exact hv.elim

theorem s_isNil {t t' e : TypeId} {op : BinOp} {neg : Bool} {x : Operand} {mx : MArg} (hop : o.op = .binOp op t x (.const (.slice none 0 0)) t') (hneg : op = (if neg then .neq else .eql)) (hd : o.dst = some d) (hN : d < N) (hx : argOf x = some mx)
    (ht : P.underlying t = some (.slice e))
    (h : RS N s a w A sp) (hv : vc1 P (.isNil d neg mx) s K) (hn : Next s w A sp N K next) : o.wp P a w next Q := by
  have h1 := (argOf_sound h hx).1
  have v2 : a.eval (.const (.slice none 0 0)) = .slice none 0 0 := rfl
  have goal : ∀ (b : Option Addr) (l c : Nat), a.eval x = .slice b l c → K (s.set d (.lit (.bool (if neg then !b.isNone else b.isNone)))) → o.wp P a w next Q := by
    intro b l c hb hK
    refine fin h hd hN ?_ (.lit _ rfl) trivial hK hn
    subst hneg
    have he : (Op.equal t (.slice b l c) (.slice none 0 0)).run P w = .ok b.isNone w := by
      show (Op.equalIn (9999 + 1) t _ _).run P w = _
      unfold Op.equalIn
      simp only [Sem.run_bind, run_underlying ht, Result.andThen_ok]
      cases b <;> rfl
    have hg : ∀ op, (eqGuard op t x (.const (.slice none 0 0)) (.slice b l c) (.slice none 0 0)).run P w = .ok () w := fun op => by
      unfold eqGuard
      cases op <;> rfl
    cases neg
    · simp only [execOp, hop, hb, v2, Sem.run_bind, hg, Result.andThen_ok, binOp, he, Sem.run_pure, if_false, Bool.false_eq_true]
    · simp only [execOp, hop, hb, v2, Sem.run_bind, hg, Result.andThen_ok, binOp, he, Sem.run_pure, if_true]
  simp only [vc1] at hv
  split at hv
  · rename_i e1
    rw [e1] at h1
    generalize hv0 : a.eval x = v0 at h1
    cases h1 with
    | nils => exact goal none 0 0 hv0 (by have := hv.1 rfl; cases neg <;> exact this)
    | slice => exact goal (some _) _ _ hv0 (by have := hv.2; cases neg <;> exact this)
  · rename_i e1
    rw [e1] at h1
    generalize hv0 : a.eval x = v0 at h1
    cases h1
    exact goal (some _) _ _ hv0 (by cases neg <;> exact hv)
  · exact hv.elim

theorem s_not {t : TypeId} {x : Operand} {mx : MArg} (hop : o.op = .unOp .not t x) (hd : o.dst = some d) (hN : d < N) (hx : argOf x = some mx)
    (h : RS N s a w A sp) (hv : vc1 P (.not d mx) s K) (hn : Next s w A sp N K next) : o.wp P a w next Q := by
  have h1 := (argOf_sound h hx).1
  simp only [vc1] at hv
  split at hv
  · rename_i p e1
    rw [e1] at h1
    exact fin h hd hN (by simp [execOp, hop, h1.inv_bool, Op.unary]) (.lit _ rfl) trivial hv hn
  · exact hv.elim

theorem s_neg {t : TypeId} {x : Operand} {mx : MArg} (hop : o.op = .unOp .neg t x) (hd : o.dst = some d) (hN : d < N) (hx : argOf x = some mx)
    (h : RS N s a w A sp) (hv : vc1 P (.neg d mx) s K) (hn : Next s w A sp N K next) : o.wp P a w next Q := by
  have h1 := (argOf_sound h hx).1
  simp only [vc1] at hv
  split at hv
  · rename_i k p e1
    rw [e1] at h1
    exact fin (v := .int k (0 - p)) h hd hN (by simp only [execOp, hop, h1.inv_int, Op.unary, Op.intArith, wrap_inK hv.1]; rfl) (.lit _ rfl) trivial hv.2 hn
  · exact hv.elim

theorem s_conv {ts td : TypeId} {k k' : IntKind} {x : Operand} {mx : MArg} (hop : o.op = .convert ts td x) (hd : o.dst = some d) (hN : d < N) (hx : argOf x = some mx)
    (hs : P.underlying ts = some (.int k')) (ht : P.underlying td = some (.int k))
    (h : RS N s a w A sp) (hv : vc1 P (.conv d k mx) s K) (hn : Next s w A sp N K next) : o.wp P a w next Q := by
  have h1 := (argOf_sound h hx).1
  simp only [vc1] at hv
  split at hv
  · rename_i q p e1
    rw [e1] at h1
    exact fin (v := .int k (k.wrap p)) h hd hN (by simp [execOp, hop, h1.inv_int, convert, run_underlying hs, run_underlying ht, Conv.intToInt]) (.lit _ rfl) trivial hv hn
  · exact hv.elim

theorem s_ext {x : Operand} {mx : MArg} {i : Nat} (hop : o.op = .extract x i) (hd : o.dst = some d) (hN : d < N) (hx : argOf x = some mx)
    (h : RS N s a w A sp) (hv : vc1 P (.ext d mx i) s K) (hn : Next s w A sp N K next) : o.wp P a w next Q := by
  have h1 := (argOf_sound h hx).1
  simp only [vc1] at hv
  split at hv
  · rename_i xs e1
    rw [e1] at h1
    generalize hv0 : a.eval x = v0 at h1
    cases h1 with
    | tuple _ vs hs hr =>
      have : vs[i]? = some (vs.getD i undef) := by
        rw [Array.getD_eq_getD_getElem?, Array.getElem?_eq_getElem (by omega)]; rfl
      have hrun : (Instr.extract (.tuple vs) i).run P w = .ok (vs.getD i undef) w := by
        generalize vs.getD i undef = v at this
        simp [Instr.extract, this]
      exact fin (v := vs.getD i undef) h hd hN (by simp only [execOp, hop, hv0, Sem.run_bind, hrun, Result.andThen_ok, Sem.run_pure]) (hr i).erase .erase hv.2 hn
  · exact hv.elim

theorem s_len {x : Operand} {mx : MArg} {t e : TypeId} (hop : o.op = .call { callee := .builtin .len, args := #[x], argTypes := #[t] }) (hd : o.dst = some d) (hN : d < N) (hx : argOf x = some mx)
    (ht : P.underlying t = some (.slice e))
    (h : RS N s a w A sp) (hv : vc1 P (.len d mx) s K) (hn : Next s w A sp N K next) : o.wp P a w next Q := by
  have h1 := (argOf_sound h hx).1
  simp only [vc1] at hv
  split at hv
  · rename_i sz xs own e1
    rw [e1] at h1
    generalize hv0 : a.eval x = v0 at h1
    cases h1 with
    | nils => exact fin (v := .int .i64 0) h hd hN (by simp [execOp, hop, resolve, invoke, builtin, hv0, Builtin.len_, run_underlying ht, goInt]) (.lit _ rfl) trivial hv hn
    | slice _ _ _ b off cap vs hsz h1c hcap hlen hc hr =>
      exact fin (v := .int .i64 xs.length) h hd hN (by simp [execOp, hop, resolve, invoke, builtin, hv0, Builtin.len_, run_underlying ht, goInt]) (.lit _ rfl) trivial hv hn
  · rename_i b off len cap sz e1
    rw [e1] at h1
    generalize hv0 : a.eval x = v0 at h1
    cases h1
    exact fin (v := .int .i64 len) h hd hN (by simp [execOp, hop, resolve, invoke, builtin, hv0, Builtin.len_, run_underlying ht, goInt]) (.lit _ rfl) trivial hv hn
  · rename_i e1
    rw [e1] at h1
    generalize hv0 : a.eval x = v0 at h1
    cases h1
    exact fin (v := .int .i64 0) h hd hN (by simp [execOp, hop, resolve, invoke, builtin, hv0, Builtin.len_, run_underlying ht, goInt]) (.lit _ rfl) trivial hv hn
  · exact hv.elim

theorem s_lenStr {x : Operand} {mx : MArg} {t : TypeId} (hop : o.op = .call { callee := .builtin .len, args := #[x], argTypes := #[t] }) (hd : o.dst = some d) (hN : d < N) (hx : argOf x = some mx)
    (ht : P.underlying t = some .string)
    (h : RS N s a w A sp) (hv : vc1 P (.lenStr d mx) s K) (hn : Next s w A sp N K next) : o.wp P a w next Q := by
  have h1 := (argOf_sound h hx).1
  simp only [vc1] at hv
  split at hv
  · rename_i st e1
    rw [e1] at h1
    exact fin (v := .int .i64 st.size) h hd hN (by simp [execOp, hop, resolve, invoke, builtin, h1.inv_str, Builtin.len_, run_underlying ht, goInt]) (.lit _ rfl) trivial hv hn
  · exact hv.elim

theorem s_lenK {x : Operand} {t e : TypeId} {n : Nat} (hop : o.op = .call { callee := .builtin .len, args := #[x], argTypes := #[t] }) (hd : o.dst = some d) (hN : d < N)
    (ht : P.underlying t = some (.array n e) ∨ ∃ t', P.underlying t = some (.pointer t') ∧ P.underlying t' = some (.array n e))
    (h : RS N s a w A sp) (hv : vc1 P (.lenK d n) s K) (hn : Next s w A sp N K next) : o.wp P a w next Q := by
  refine fin (v := .int .i64 n) h hd hN ?_ (.lit _ rfl) trivial hv hn
  have : (Builtin.len_ #[t] o.type #[a.eval x]).run P w = .ok (.int .i64 n) w := by
    rcases ht with ht | ⟨t', ht, ht'⟩
    · unfold Builtin.len_
      simp only [List.getElem?_toArray, List.getElem?_cons_zero, Sem.run_bind, run_underlying ht, Result.andThen_ok]
      cases a.eval x <;> rfl
    · unfold Builtin.len_
      simp only [List.getElem?_toArray, List.getElem?_cons_zero, Sem.run_bind, run_underlying ht, Result.andThen_ok]
      cases a.eval x <;> simp [run_underlying ht', goInt]
  simp [execOp, hop, resolve, invoke, builtin, this]

theorem s_max {x y : Operand} {mx my : MArg} {ts : Array TypeId} (hop : o.op = .call { callee := .builtin .max, args := #[x, y], argTypes := ts }) (hd : o.dst = some d) (hN : d < N) (hx : argOf x = some mx) (hy : argOf y = some my)
    (h : RS N s a w A sp) (hv : vc1 P (.maxI d mx my) s K) (hn : Next s w A sp N K next) : o.wp P a w next Q := by
  have h1 := (argOf_sound h hx).1
  have h2 := (argOf_sound h hy).1
  simp only [vc1] at hv
  split at hv
  · rename_i k p k' q e1 e2
    rw [e1] at h1; rw [e2] at h2
    exact fin (v := .int k (if q > p then q else p)) h hd hN (by simp [execOp, hop, resolve, invoke, builtin, h1.inv_int, h2.inv_int, Builtin.max_, Builtin.max2]) (.lit _ rfl) trivial hv hn
  · exact hv.elim

theorem s_min {x y : Operand} {mx my : MArg} {ts : Array TypeId} (hop : o.op = .call { callee := .builtin .min, args := #[x, y], argTypes := ts }) (hd : o.dst = some d) (hN : d < N) (hx : argOf x = some mx) (hy : argOf y = some my)
    (h : RS N s a w A sp) (hv : vc1 P (.minI d mx my) s K) (hn : Next s w A sp N K next) : o.wp P a w next Q := by
  have h1 := (argOf_sound h hx).1
  have h2 := (argOf_sound h hy).1
  simp only [vc1] at hv
  split at hv
  · rename_i k p k' q e1 e2
    rw [e1] at h1; rw [e2] at h2
    exact fin (v := .int k (if q < p then q else p)) h hd hN (by simp [execOp, hop, resolve, invoke, builtin, h1.inv_int, h2.inv_int, Builtin.min_, Builtin.min2]) (.lit _ rfl) trivial hv hn
  · exact hv.elim

theorem args_sound (h : RS N s a w A sp) : ∀ {xs : List Operand} {ms : List MArg}, argsOf xs = some ms →
    ms.length = xs.length ∧ ∀ i, RV w A (((ms.map fun x => (x.ev s.env).erase)).getD i .any) ((xs.map a.eval).getD i undef)
  | [], ms, hm => by injection hm with hm; subst hm; exact ⟨rfl, fun i => by simp; exact .any _⟩
  | x :: xs, ms, hm => by
    simp only [argsOf] at hm
    split at hm
    · rename_i y ys h1 h2
      injection hm with hm; subst hm
      obtain ⟨i1, i2⟩ := args_sound h h2
      refine ⟨by simp [i1], fun i => ?_⟩
      cases i with
      | zero => simpa using (argOf_sound h h1).1.erase
      | succ i => simpa using i2 i
    · cases hm

theorem argsT_sound (h : RS N s a w A sp) : ∀ {xs : List Operand} {ts : List TypeId} {ms : List MArg}, argsOfT P xs ts = some ms →
    ms.length = xs.length ∧ ∀ i, RV w A (((ms.map fun x => (x.ev s.env).erase)).getD i .any) ((xs.map a.eval).getD i undef)
  | [], _, ms, hm => by unfold argsOfT at hm; injection hm with hm; subst hm; exact ⟨rfl, fun i => by simp; exact .any _⟩
  | x :: xs, [], ms, hm => by
    simp only [argsOfT] at hm
    split at hm
    · rename_i y ys h1 h2
      injection hm with hm; subst hm
      obtain ⟨i1, i2⟩ := argsT_sound h h2
      refine ⟨by simp [i1], fun i => ?_⟩
      cases i with
      | zero => simpa using (argOf_sound h h1).1.erase
      | succ i => simpa using i2 i
    · cases hm
  | x :: xs, t :: ts, ms, hm => by
    simp only [argsOfT] at hm
    split at hm
    · rename_i y ys h1 h2
      injection hm with hm; subst hm
      obtain ⟨i1, i2⟩ := argsT_sound h h2
      refine ⟨by simp [i1], fun i => ?_⟩
      cases i with
      | zero => simpa using (argOfT_sound h h1).1.erase
      | succ i => simpa using i2 i
    · cases hm

theorem s_mkfn {fn : Fn} {xs ys : Array Operand} {ms ns : List MArg} (hop : o.op = .makeFunc fn xs ys) (hd : o.dst = some d) (hN : d < N) (hx : argsOf xs.toList = some ms) (hy : argsOf ys.toList = some ns)
    (h : RS N s a w A sp) (hv : vc1 P (.mkfn d fn ms ns) s K) (hn : Next s w A sp N K next) : o.wp P a w next Q := by
  obtain ⟨a1, a2⟩ := args_sound h hx
  obtain ⟨b1, b2⟩ := args_sound h hy
  refine fin (v := .func fn (xs.map a.eval) (ys.map a.eval)) h hd hN (by simp [execOp, hop, Instr.makeFunc]) (.func _ _ _ _ _ (by simp [a1]) (by simp [b1]) (fun i => ?_) (fun i => ?_)) trivial hv hn
  · have := a2 i
    simpa [List.getD_eq_getElem?_getD, Array.getD_eq_getD_getElem?] using this
  · have := b2 i
    simpa [List.getD_eq_getElem?_getD, Array.getD_eq_getD_getElem?] using this

theorem s_nilchk {x : Operand} {mx : MArg} (hop : o.op = .nilCheck x) (hd : o.dst = some d) (hN : d < N) (hx : argOf x = some mx)
    (h : RS N s a w A sp) (hv : vc1 P (.nilchk d mx) s K) (hn : Next s w A sp N K next) : o.wp P a w next Q := by
  have h1 := (argOf_sound h hx).1
  simp only [vc1] at hv
  split at hv
  · rename_i cs e1
    rw [e1] at h1
    generalize hv0 : a.eval x = v0 at h1
    have hh := h1
    cases h1
    exact fin h hd hN (by simp [execOp, hop, hv0]) hh trivial hv hn
  · rename_i b off e1
    rw [e1] at h1
    generalize hv0 : a.eval x = v0 at h1
    have hh := h1
    cases h1
    exact fin h hd hN (by simp [execOp, hop, hv0]) hh trivial hv hn
  · exact hv.elim

theorem flatMap_take {α β : Type} (f : α → List β) (sz : Nat) : ∀ (xs : List α) (n : Nat), (∀ x ∈ xs, (f x).length = sz) → (xs.take n).flatMap f = (xs.flatMap f).take (n * sz)
  | [], n, _ => by simp
  | x :: xs, 0, _ => by simp
  | x :: xs, n + 1, h => by
    have hx := h x (by simp)
    have ih := flatMap_take f sz xs n (fun y hy => h y (by simp [hy]))
    have e : (n + 1) * sz = (f x).length + n * sz := by rw [hx, Nat.add_mul]; omega
    simp only [List.take_succ_cons, List.flatMap_cons, ih, e]
    rw [List.take_append]
    congr 1
    · rw [List.take_of_length_le (by omega)]
    · congr 1; omega

theorem flatMap_drop {α β : Type} (f : α → List β) (sz : Nat) : ∀ (xs : List α) (n : Nat), (∀ x ∈ xs, (f x).length = sz) → (xs.drop n).flatMap f = (xs.flatMap f).drop (n * sz)
  | [], n, _ => by simp
  | x :: xs, 0, _ => by simp
  | x :: xs, n + 1, h => by
    have hx := h x (by simp)
    have ih := flatMap_drop f sz xs n (fun y hy => h y (by simp [hy]))
    have e : (n + 1) * sz = (f x).length + n * sz := by rw [hx, Nat.add_mul]; omega
    simp only [List.drop_succ_cons, List.flatMap_cons, ih, e]
    rw [List.drop_append, List.drop_eq_nil_of_le (as := f x) (by omega), List.nil_append]
    congr 1; omega

theorem s_slcHi {t e : TypeId} {x hi : Operand} {mx mh : MArg} {sz : Nat} (hop : o.op = .slice t x none (some hi) none) (hd : o.dst = some d) (hN : d < N) (hx : argOf x = some mx) (hy : argOf hi = some mh)
    (ht : P.underlying t = some (.slice e)) (hz : szOf P e = some sz)
    (h : RS N s a w A sp) (hv : vc1 P (.slcHi d mx mh sz) s K) (hn : Next s w A sp N K next) : o.wp P a w next Q := by
  have h1 := (argOf_sound h hx).1
  have h2 := (argOf_sound h hy).1
  simp only [szOf, Option.map_eq_some_iff] at hz
  obtain ⟨inf, hinf, rfl⟩ := hz
  simp only [vc1] at hv
  split at hv
  · rename_i sz' xs own k n e1 e2
    obtain ⟨hs, h0, hl, hK⟩ := hv
    rw [e1] at h1; rw [e2] at h2
    have v2 := h2.inv_int
    generalize hv0 : a.eval x = v0 at h1
    cases h1 with
    | nils =>
      have hn0 : n = 0 := by simp at hl; omega
      subst hn0
      refine fin (v := .slice none 0 0) h hd hN ?_ (by simp; exact .nils _ _) (by simp; trivial) hK hn
      simp [execOp, hop, hv0, v2, Instr.sliceAt, run_underlying ht, Instr.slice, Instr.sliceBounds, Instr.sliceBound, asIntOf, sizeOf, typeInfo, hinf]
    | slice _ _ _ b off cap vs hsz h1c hcap hlen hc hr =>
      have hnn : n.toNat ≤ xs.length := by omega
      have hnc : n ≤ (cap : Int) := by omega
      have hsz' : ∀ y ∈ xs.take n.toNat, y.cells.length = inf.size := by
        intro y hy
        rcases hs with rfl | rfl
        · exact hsz y (List.mem_of_mem_take hy)
        · simp at hy
      have hv' : RV w A (.slice inf.size (xs.take n.toNat) 0) (.slice (some ⟨b, off, none⟩) (xs.take n.toNat).length cap) := by
        refine .slice _ _ _ _ _ _ vs hsz' (fun y hy => h1c y (List.mem_of_mem_take hy)) (by simp; omega) (by simp; omega) (fun i hi => ?_) (fun i => ?_)
        · refine hc i ?_
          rcases hs with rfl | rfl
          · refine Nat.lt_of_lt_of_le hi (Nat.mul_le_mul_right _ ?_); simp; omega
          · simp at hi
        · rcases hs with rfl | rfl
          · rw [flatMap_take AV.cells _ xs _ hsz]
            by_cases hi : i < n.toNat * inf.size
            · have := hr i
              simp only [List.getD_eq_getElem?_getD, List.getElem?_take, hi, if_true] at this ⊢
              exact this
            · simp only [List.getD_eq_getElem?_getD, List.getElem?_take, hi, if_false, Option.getD_none]
              exact .any _
          · simp; exact .any _
      have e3 : (xs.take n.toNat).length = n.toNat := by simp; omega
      rw [e3] at hv'
      refine fin h hd hN ?_ hv' (.of_not (by intro _ _ _ hh; injection hh with _ _ hh; exact hh.symm)) hK hn
      simp [execOp, hop, hv0, v2, Instr.sliceAt, run_underlying ht, Instr.slice, Instr.sliceBounds, Instr.sliceBound, asIntOf, sizeOf, typeInfo, hinf, h0, hnc, Addr.add]
  · exact hv.elim

end
end Go.Avm

namespace Go.Avm
open Go.RowKit

section
variable {P : Program} {N : Nat} {s : St} {a : Act} {w : World} {A : Area} {sp : Sp} {K : St → Prop} {next : Act → World → Prop} {Q : Exit → Act → World → Prop}
  {o : Oper} {d : Nat}

theorem Ev.same {L L' : Area} (h : ∀ b o, L' b o → L b o) : Ev w A L w A L' :=
  ⟨rfl, rfl, rfl, Nat.le_refl _, fun _ _ _ hl => ⟨rfl, fun h' => hl (h _ _ h')⟩, fun _ _ _ => rfl, fun _ _ h => h, fun _ _ h => .inl h⟩

theorem own_sp {sz : Nat} {xs : List AV} {r : Nat} (hr : r ≠ 0) {v : Value} (h : OwnOK sp (.slice sz xs r) v) (hv : RV w A (.slice sz xs r) v) :
    v = .slice none 0 0 ∨ ∃ b off cap, v = .slice (some ⟨b, off, none⟩) xs.length cap ∧ xs.length ≤ cap ∧ sp r = (b, off + xs.length * sz, off + cap * sz) := by
  cases hv with
  | nils => exact .inl rfl
  | slice _ _ _ b off cap vs hsz h1c hcap hlen hc hr' => exact .inr ⟨b, off, cap, rfl, hcap, h.resolve_left hr⟩

theorem RS.rename (h : RS N s a w A sp) (r q : Nat) (hq : q ≠ 0) : RS N ((s.dem r).dem q) a w A (upd (upd (upd sp r (0, 0, 0)) q (0, 0, 0)) q (sp r)) := by
  have h2 := (h.dem r).dem q
  refine h2.newSpare q (dem_env_ne _ _ hq) (dem_loc_ne _ _ hq) (sp r).1 (sp r).2.1 (sp r).2.2 (fun hlt => ?_) (fun q' hne hlt hq' he => ?_) (fun o ho => ?_)
  · obtain ⟨h3, h4⟩ := h.spb r hlt
    exact ⟨h3, by simp [St.dem, h4]⟩
  · simp only [upd, hne, if_false] at hq' he ⊢
    by_cases e : q' = r
    · simp only [e, if_true] at hq'; omega
    · simp only [e, if_false] at hq' he ⊢
      exact h.spd q' r e hq' hlt he
  · have := (h.av _ _ ho).2
    by_cases e : o < (sp r).2.1 ∨ (sp r).2.2 ≤ o
    · exact e
    · exact absurd (.inr ⟨r, rfl, by omega, by omega⟩) this

theorem live_rename (r q : Nat) {b o : Nat} (h : live ((s.dem r).dem q).loc (upd (upd (upd sp r (0, 0, 0)) q (0, 0, 0)) q (sp r)) b o) : live s.loc sp b o := by
  rcases h with h | ⟨k, hk⟩
  · exact .inl (by intro hn; exact h (by simp [St.dem, hn]))
  · by_cases e : k = q
    · simp only [upd, e, if_true] at hk; exact .inr ⟨r, hk⟩
    · by_cases e2 : k = r
      · subst e2; simp only [upd, e, if_false, if_true] at hk; omega
      · simp only [upd, e, e2, if_false] at hk; exact .inr ⟨k, hk⟩

theorem s_asg {x : Operand} {m : MArg} (hop : o.op = .assign x) (hd : o.dst = some d) (hN : d < N) (hx : argOf x = some m)
    (h : RS N s a w A sp) (hv : K (asgSt s d (m.ev s.env))) (hn : Next s w A sp N K next) : o.wp P a w next Q := by
  have h1 := (argOf_sound h hx).1
  have h2 := (argOf_sound h hx).2
  have hrun : (execOp a.eval o).run P w = .ok (.value (a.eval x)) w := by simp [execOp, hop]
  cases hm : m.ev s.env with
  | slice sz xs r =>
    rw [hm] at h1 h2 hv
    simp only [asgSt] at hv
    split at hv
    · exact fin h hd hN hrun h1.own (.of_not (by intro _ _ _ hh; injection hh with _ _ hh; exact hh.symm)) hv hn
    · rename_i hr
      refine fin' (h.rename r (d + 1) (by omega)) (.same fun b o => live_rename r (d + 1)) hd hN hrun h1.own ?_ hv hn
      rcases own_sp hr h2 h1 with e | ⟨b, off, cap, e, _, e2⟩
      · rw [e]; trivial
      · rw [e]; exact .inr (by simp [upd, e2])
  | _ => rw [hm] at h1 h2 hv; exact fin h hd hN hrun h1 h2 hv hn

theorem s_asgNil {sz : Nat} (hop : o.op = .assign (.const (.slice none 0 0))) (hd : o.dst = some d) (hN : d < N)
    (h : RS N s a w A sp) (hv : vc1 P (.asgNil d sz) s K) (hn : Next s w A sp N K next) : o.wp P a w next Q :=
  fin' (h.dem (d + 1)) (Ev.dem (d + 1)) hd hN (by simp [execOp, hop, Act.eval]) (.nils _ _) trivial hv hn

theorem s_asgZ (hop : o.op = .assign (.const (.slice none 0 0))) (hd : o.dst = some d) (hN : d < N)
    (h : RS N s a w A sp) (hv : vc1 P (.asg d (.c (.lit (.slice none 0 0)))) s K) (hn : Next s w A sp N K next) : o.wp P a w next Q :=
  fin h hd hN (by simp [execOp, hop, Act.eval]) (.lit _ rfl) (.of_not (by intro _ _ _ hh; cases hh)) hv hn

theorem RV.cells_of {x : AV} {v : Value} (h : RV w A x v) (hx : x.cells ≠ []) :
    v.cells.size = x.cells.length ∧ ∀ i, RV w A (x.cells.getD i .any) (v.cells.getD i undef) := by
  have one : ∀ {x : AV} {v : Value}, RV w A x v → v.cells = #[v] → x.cells = [x] → v.cells.size = x.cells.length ∧ ∀ i, RV w A (x.cells.getD i .any) (v.cells.getD i undef) := by
    intro x v h e1 e2
    rw [e1, e2]
    refine ⟨rfl, fun i => ?_⟩
    cases i with
    | zero => simpa using h
    | succ i => simp; exact .any _
  cases h with
  | any => exact absurd rfl hx
  | ghost => exact absurd rfl hx
  | deep => exact absurd rfl hx
  | lit v hf => exact one (.lit v hf) (by cases v <;> first | rfl | cases hf) rfl
  | nils sz own => exact one (.nils sz own) rfl rfl
  | slice sz xs own b off cap vs hsz h1c hcap hlen hc hr => exact one (.slice sz xs own b off cap vs hsz h1c hcap hlen hc hr) rfl rfl
  | ref cs b off vs hc hr => exact one (.ref cs b off vs hc hr) rfl rfl
  | mref b off => exact one (.mref b off) rfl rfl
  | mapr b => exact one (.mapr b) rfl rfl
  | mslice b off len cap sz hl => exact one (.mslice b off len cap sz hl) rfl rfl
  | agg xs vs hs hr => exact ⟨hs, hr⟩
  | tuple xs vs hs hr => exact one (.tuple xs vs hs hr) rfl rfl
  | func fn fs cs vf vc hsf hsc hf hc => exact one (.func fn fs cs vf vc hsf hsc hf hc) rfl rfl
  | fmap es b es' clock hb ha hs hk hv => exact one (.fmap es b es' clock hb ha hs hk hv) rfl rfl

theorem newVar_run (e : TypeId) (v : Value) : (newVar e v).run P w = .ok ⟨w.heap.size, 0, none⟩ (w.alloc (.cells v.cells e)) := by
  simp [newVar, newRow]

theorem RV.new {cs : List AV} {vs : Array Value} (T : TypeId) (hs : vs.size = cs.length) (hA : ∀ b o, A b o → b < w.heap.size) (hr : ∀ i, RV w A (cs.getD i .any) (vs.getD i undef)) (k : Nat) (hk : cs.length ≤ k) :
    RV (w.alloc (.cells vs T)) (fun b o => A b o ∨ (b = w.heap.size ∧ o < k)) (.ref cs) (.pointer (some ⟨w.heap.size, 0, none⟩)) := by
  refine .ref _ _ _ (fun i => vs.getD i undef) (fun i hi => ⟨?_, .inr ⟨rfl, by omega⟩⟩) (fun i => (hr i).mono (fun b o v ha hv => ⟨by rw [cell_alloc _ _ _ _ (hA b o ha)]; exact hv, .inl ha⟩) (.blocks (fun _ _ ha => .inl ha) fun b _ hb => heap_alloc _ _ _ hb))
  rw [Nat.zero_add, cell_alloc_new, Array.getD_eq_getD_getElem?, Array.getElem?_eq_getElem (by omega)]
  rfl

theorem s_boxI {e : TypeId} {x : Operand} {m : MArg} {n : Nat} (hop : o.op = .box e x) (hd : o.dst = some d) (hN : d < N) (hx : argOf x = some m) (hn0 : 0 < n)
    (h : RS N s a w A sp) (hv : vc1 P (.boxI d m n) s K) (hn : Next s w A sp N K next) : o.wp P a w next Q := by
  have h1 := (argOf_sound h hx).1
  simp only [vc1] at hv
  obtain ⟨hl, hv⟩ := hv
  obtain ⟨hs, hr⟩ := h1.cells_of (by intro e; rw [e] at hl; simp at hl; omega)
  refine fin' (h.alloc (a.eval x).cells e n (by omega)) (h.evAlloc _ n) hd hN ?_ (RV.new (cs := (m.ev s.env).cells.map AV.erase0) e (by simpa using hs) (fun b o ha => (h.av b o ha).1) (fun i => ?_) n (by simp; omega)) trivial hv hn
  · simp only [execOp, hop, Instr.box, Sem.run_bind, newVar_run, Result.andThen_ok, Sem.run_pure]
  · rw [getD_erase0]; exact (hr i).erase0

theorem RS.allocM (h : RS N s a w A sp) {cs : List AV} {vs : Array Value} (T : TypeId) (hs : vs.size = cs.length)
    (hr : ∀ i, RV w A (cs.getD i .any) (vs.getD i undef) ∧ OwnOK sp (cs.getD i .any) (vs.getD i undef)) :
    RS N (s.new w.heap.size cs) a (w.alloc (.cells vs T)) A sp := by
  have h1 := h.alloc vs T 0 (by omega)
  have hmono : ∀ {x v}, RV w A x v → RV (w.alloc (.cells vs T)) A x v := fun hx => hx.mono (fun b o v ha hv => ⟨by rw [cell_alloc _ _ _ _ (h.av b o ha).1]; exact hv, ha⟩) (.blocks (fun _ _ ha => ha) fun b _ hb => heap_alloc _ _ _ hb)
  refine ⟨h.size, h.defers, fun d => ⟨hmono (h.env d).1, (h.env d).2⟩, fun b cs' hb => ?_, fun r hr' => ?_, h.spd, fun b o ha => ⟨by have := (h.av b o ha).1; rw [alloc_size]; omega, ?_⟩⟩
  · simp only [St.new, upd] at hb
    split at hb
    · rename_i e; subst e; injection hb with hb; subst hb
      exact ⟨vs, T, heap_alloc_at _ _, hs, fun i => ⟨hmono (hr i).1, (hr i).2⟩⟩
    · obtain ⟨vs', T', g1, g2, g3⟩ := h.loc b cs' hb
      exact ⟨vs', T', by rw [heap_alloc _ _ _ (lt_of_heap g1)]; exact g1, g2, fun i => ⟨hmono (g3 i).1, (g3 i).2⟩⟩
  · obtain ⟨⟨vs', T', g1, g2⟩, g3⟩ := h.spb r hr'
    refine ⟨⟨vs', T', by rw [heap_alloc _ _ _ (lt_of_heap g1)]; exact g1, g2⟩, ?_⟩
    simp only [St.new, upd]
    rw [if_neg (Nat.ne_of_lt (lt_of_heap g1))]
    exact g3
  · rintro (hl | hl)
    · simp only [St.new, upd] at hl
      split at hl
      · rename_i e; have := (h.av b o ha).1; omega
      · exact (h.av b o ha).2 (.inl hl)
    · exact (h.av b o ha).2 (.inr hl)

theorem RS.evAllocM (ob : Obj) (cs : List AV) : Ev w A (live s.loc sp) (w.alloc ob) A (live (s.new w.heap.size cs).loc sp) := by
  refine ⟨rfl, rfl, rfl, by rw [alloc_size]; omega, fun b o hb hl => ⟨cell_alloc _ _ _ _ hb, ?_⟩, fun b hb _ => heap_alloc _ _ _ hb, fun _ _ ha => ha, fun _ _ ha => .inl ha⟩
  rintro (hl' | hl')
  · simp only [St.new, upd] at hl'
    rw [if_neg (Nat.ne_of_lt hb)] at hl'
    exact hl (.inl hl')
  · exact hl (.inr hl')

theorem s_boxM {e : TypeId} {x : Operand} {m : MArg} {n : Nat} (hop : o.op = .box e x) (hd : o.dst = some d) (hN : d < N) (hx : argOf x = some m) (hn0 : 0 < n)
    (h : RS N s a w A sp) (hv : vc1 P (.boxM d m n) s K) (hn : Next s w A sp N K next) : o.wp P a w next Q := by
  have h1 := (argOf_sound h hx).1
  simp only [vc1] at hv
  obtain ⟨hl, hv⟩ := hv
  obtain ⟨hs, hr⟩ := h1.cells_of (by intro e; rw [e] at hl; simp at hl; omega)
  refine fin' (h.allocM (cs := (m.ev s.env).cells.map AV.erase0) e (by simpa using hs) (fun i => ?_)) (RS.evAllocM _ _) hd hN ?_ (.mref w.heap.size 0) trivial (hv _ h.fresh) hn
  · rw [getD_erase0]; exact ⟨(hr i).erase0, .erase0⟩
  · simp only [execOp, hop, Instr.box, Sem.run_bind, newVar_run, Result.andThen_ok, Sem.run_pure]

theorem okZero_sound {t : TypeId} {z : List AV} (h : okZero P t z = true) :
    ∃ i v, P.info? t = some i ∧ i.zero = some v ∧ v.cells.size = z.length ∧ z.length = i.size ∧ (∀ k, RV w A (z.getD k .any) (v.cells.getD k undef)) ∧ ∀ x ∈ z, x.cell1 = true ∧ x.erase = x := by
  unfold okZero at h
  split at h
  · rename_i i hi
    split at h
    · rename_i v hz
      simp only [Bool.and_eq_true, beq_iff_eq] at h
      obtain ⟨h1, h2, h3⟩ := zsOK_sound (w := w) (A := A) h.1
      refine ⟨i, v, hi, hz, by simpa using h1, h.2, fun k => ?_, h3⟩
      have := h2 k
      simpa [List.getD_eq_getElem?_getD, Array.getD_eq_getD_getElem?] using this
    · cases h
  · cases h

theorem getD_cell1 {z : List AV} (h : ∀ x ∈ z, x.cell1 = true ∧ x.erase = x) (k : Nat) {v : Value} : OwnOK sp (z.getD k .any) v := by
  by_cases hk : k < z.length
  · have := (h z[k] (by simp)).2
    rw [List.getD_eq_getElem?_getD, List.getElem?_eq_getElem hk, Option.getD_some, ← this]
    exact .erase
  · rw [List.getD_eq_getElem?_getD, List.getElem?_eq_none (by omega)]; trivial

theorem okZeroA_sound {t : TypeId} {z : List AV} (h : okZeroA P t z = true) :
    ∃ i v, P.info? t = some i ∧ i.zero = some v ∧ v.cells.size = z.length ∧ ∀ k, RV w A (z.getD k .any) (v.cells.getD k undef) ∧ OwnOK sp (z.getD k .any) (v.cells.getD k undef) := by
  unfold okZeroA at h
  split at h
  · rename_i i hi
    split at h
    · rename_i v hz
      simp only [Bool.and_eq_true, beq_iff_eq] at h
      obtain ⟨h1, h2⟩ := zsOKA_sound (w := w) (A := A) (sp := sp) h.1
      refine ⟨i, v, hi, hz, by simpa using h1, fun k => ?_⟩
      have := h2 k
      simpa [List.getD_eq_getElem?_getD, Array.getD_eq_getD_getElem?] using this
    · cases h
  · cases h

theorem s_alloc {e : TypeId} {z : List AV} (hop : o.op = .alloc e) (hd : o.dst = some d) (hN : d < N) (hz : okZeroA P e z = true)
    (h : RS N s a w A sp) (hv : vc1 P (.alloc d z) s K) (hn : Next s w A sp N K next) : o.wp P a w next Q := by
  obtain ⟨i, v, hi, hz, hs, hr⟩ := okZeroA_sound (w := w) (A := A) (sp := sp) hz
  simp only [vc1] at hv
  refine fin' (h.allocM (cs := z) e hs hr) (RS.evAllocM _ _) hd hN ?_ (.mref w.heap.size 0) trivial (hv _ h.fresh) hn
  simp only [execOp, hop, Instr.alloc, zeroValue, typeInfo, Sem.run_bind, run_program, Result.andThen_ok, hi, Sem.run_pure, hz, newVar_run]

theorem RV.oneCell {x : AV} {v : Value} (h : RV w A x v) (hx : x.cell1 = true) : v.oneCell' = true := by
  cases h <;> first | rfl | (cases hx; done) | skip
  rename_i hf; cases v <;> first | rfl | cases hf

theorem splice_len : ∀ (ys cs : List AV) (off : Nat), (splice cs off ys).length = cs.length
  | [], _, _ => rfl
  | y :: ys, cs, off => by rw [splice, splice_len ys]; simp

theorem splice_getD : ∀ (ys cs : List AV) (off i : Nat), off + ys.length ≤ cs.length →
    (splice cs off ys).getD i .any = if off ≤ i ∧ i < off + ys.length then ys.getD (i - off) .any else cs.getD i .any
  | [], cs, off, i, _ => by simp [splice]; intro h1 h2; omega
  | y :: ys, cs, off, i, h => by
    simp only [List.length_cons] at h
    rw [splice, splice_getD ys _ _ _ (by simp; omega)]
    by_cases h1 : off + 1 ≤ i ∧ i < off + 1 + ys.length
    · rw [if_pos h1, if_pos (by simp; omega)]
      have : i - off = (i - (off + 1)) + 1 := by omega
      rw [this]; simp
    · rw [if_neg h1]
      by_cases h2 : i = off
      · subst h2
        rw [if_pos (by simp)]
        simp only [List.getD_eq_getElem?_getD, Nat.sub_self, List.getElem?_cons_zero]
        rw [List.getElem?_set_self (by omega)]
      · rw [if_neg (by simp; omega)]
        simp only [List.getD_eq_getElem?_getD]
        rw [List.getElem?_set_ne (by omega)]

theorem row_getD (vs : Array Value) (us : List Value) (off i : Nat) (h : off + us.length ≤ vs.size) :
    (vs.toList.take off ++ us ++ vs.toList.drop (off + us.length)).toArray.getD i undef = if off ≤ i ∧ i < off + us.length then us.getD (i - off) undef else vs.getD i undef := by
  simp only [Array.getD_eq_getD_getElem?, List.getElem?_toArray, List.getD_eq_getElem?_getD]
  by_cases h1 : i < off
  · rw [if_neg (by omega), List.append_assoc, List.getElem?_append_left (by simp; omega), List.getElem?_take, if_pos h1]
    simp
  · by_cases h2 : i < off + us.length
    · rw [if_pos (by omega), List.append_assoc, List.getElem?_append_right (by simp; omega), List.getElem?_append_left (by simp; omega)]
      have : min off vs.toList.length = off := by simp; omega
      simp only [List.length_take, this]
    · rw [if_neg (by omega), List.getElem?_append_right (by simp; omega), List.getElem?_drop]
      have : min off vs.toList.length = off := by simp; omega
      simp only [List.length_append, List.length_take, this]
      rw [show off + us.length + (i - (off + us.length)) = i by omega]
      simp

theorem RS.setRow (h : RS N s a w A sp) {b : Nat} {cs0 cs : List AV} {vs0 vs : Array Value} {T : TypeId} (hb : s.loc b = some cs0) (hh : w.heap[b]? = some (.cells vs0 T (0, 0)))
    (hs : vs.size = cs.length) (hr : ∀ i, RV w A (cs.getD i .any) (vs.getD i undef) ∧ OwnOK sp (cs.getD i .any) (vs.getD i undef)) :
    RS N (s.new b cs) a (w.setRow b vs) A sp := by
  have hne : ∀ {c o}, A c o → c ≠ b := fun {c o} ha e => (h.av c o ha).2 (.inl (by rw [e, hb]; simp))
  have hmono : ∀ {x v}, RV w A x v → RV (w.setRow b vs) A x v := fun hx => hx.mono (fun c o v ha hv => ⟨by rw [cell_setRow_other _ _ _ _ _ (hne ha)]; exact hv, ha⟩) (.blocks (fun _ _ ha => ha) fun c ha _ => setRow_other' _ _ _ _ (hne (ha 0)))
  refine ⟨h.size, h.defers, fun d => ⟨hmono (h.env d).1, (h.env d).2⟩, fun c cs' hc => ?_, fun r hr' => ?_, h.spd, fun c o ha => ⟨by rw [size_setRow]; exact (h.av c o ha).1, ?_⟩⟩
  · simp only [St.new, upd] at hc
    split at hc
    · rename_i e; subst e; injection hc with hc; subst hc
      exact ⟨vs, T, setRow_heap _ _ _ _ _ _ hh, hs, fun i => ⟨hmono (hr i).1, (hr i).2⟩⟩
    · rename_i hcb
      obtain ⟨vs', T', g1, g2, g3⟩ := h.loc c cs' hc
      exact ⟨vs', T', by rw [setRow_other' _ _ _ _ hcb]; exact g1, g2, fun i => ⟨hmono (g3 i).1, (g3 i).2⟩⟩
  · obtain ⟨⟨vs', T', g1, g2⟩, g3⟩ := h.spb r hr'
    have hcb : (sp r).1 ≠ b := fun e => by rw [e, hb] at g3; cases g3
    refine ⟨⟨vs', T', by rw [setRow_other' _ _ _ _ hcb]; exact g1, g2⟩, ?_⟩
    simp only [St.new, upd]
    rw [if_neg hcb]; exact g3
  · rintro (hl | hl)
    · simp only [St.new, upd] at hl
      rw [if_neg (hne ha)] at hl
      exact (h.av c o ha).2 (.inl hl)
    · exact (h.av c o ha).2 (.inr hl)

theorem RS.evSetRow {b : Nat} {cs0 : List AV} (cs : List AV) (vs : Array Value) (hb : s.loc b = some cs0) : Ev w A (live s.loc sp) (w.setRow b vs) A (live (s.new b cs).loc sp) := by
  have hne : ∀ {c o}, ¬ live s.loc sp c o → c ≠ b := fun {c o} hl e => hl (.inl (by rw [e, hb]; simp))
  refine ⟨rfl, rfl, rfl, by rw [size_setRow]; exact Nat.le_refl _, fun c o hc hl => ⟨cell_setRow_other _ _ _ _ _ (hne hl), ?_⟩, fun c hc hl => setRow_other' _ _ _ _ (hne (hl 0)), fun _ _ ha => ha, fun _ _ ha => .inl ha⟩
  rintro (hl' | hl')
  · simp only [St.new, upd] at hl'
    rw [if_neg (hne hl)] at hl'
    exact hl (.inl hl')
  · exact hl (.inr hl')

theorem storeAt_run {t : TypeId} {n b off : Nat} {vs : Array Value} {T : TypeId} {v : Value} (hz : szOf P t = some n) (hh : w.heap[b]? = some (.cells vs T (0, 0)))
    (hv : v.cells.size = n) (hoff : off + n ≤ vs.size) (h1 : ∀ u ∈ v.cells.toList, u.oneCell' = true) :
    (Instr.storeAt t (.pointer (some ⟨b, off, none⟩)) v).run P w = .ok () (w.setRow b (vs.toList.take off ++ v.cells.toList ++ vs.toList.drop (off + n)).toArray) := by
  simp only [szOf, Option.map_eq_some_iff] at hz
  obtain ⟨i, hi, rfl⟩ := hz
  have hst := run_storeCells_at P b off T v.cells.toList 0 vs w hh (by simpa [hv] using hoff) h1
  simp only [Nat.add_zero, Array.length_toList, hv] at hst
  simp only [Instr.storeAt, Instr.sureAddr, Sem.run_bind, Sem.run_pure, Result.andThen_ok, storeVar, sizeOf, typeInfo, run_program, hi, hv, ne_eq, not_true, if_false, hst]

theorem fin0 {s1 : St} {w1 : World} {A1 : Area} {sp1 : Sp} (h : RS N s1 a w1 A1 sp1) (hev : Ev w A (live s.loc sp) w1 A1 (live s1.loc sp1)) (hd : o.dst = none)
    (hrun : (execOp a.eval o).run P w = .ok .skip w1) (hk : K s1) (hn : Next s w A sp N K next) : o.wp P a w next Q := by
  unfold Oper.wp
  rw [hrun, Oper.upon_skip, hd]
  exact hn _ _ _ _ _ hk h hev

end
end Go.Avm

namespace Go.Avm
open Go.RowKit

section
variable {P : Program} {N : Nat} {s : St} {a : Act} {w : World} {A : Area} {sp : Sp} {K : St → Prop} {next : Act → World → Prop} {Q : Exit → Act → World → Prop}
  {o : Oper} {d : Nat}

theorem cells_oneCell {x : AV} {v : Value} (hr : ∀ i, RV w A (x.cells.getD i .any) (v.cells.getD i undef)) (hs : v.cells.size = x.cells.length) (hc : x.cells.all AV.cell1 = true) :
    ∀ u ∈ v.cells.toList, u.oneCell' = true := by
  intro u hu
  obtain ⟨i, hi, rfl⟩ := List.getElem_of_mem hu
  have hi' : i < x.cells.length := by simpa [hs] using hi
  have h1 := hr i
  rw [List.getD_eq_getElem?_getD, List.getElem?_eq_getElem hi', Array.getD_eq_getD_getElem?, Array.getElem?_eq_getElem (by simpa using hi)] at h1
  exact h1.oneCell ((List.all_eq_true.1 hc) _ (by simp))

theorem s_store {t : TypeId} {x y : Operand} {mx my : MArg} {n oid : Nat} (hop : o.op = .store t x y) (hd : o.dst = none) (hx : argOf x = some mx) (hy : argOf y = some my) (hz : szOf P t = some n) (hn0 : 0 < n)
    (h : RS N s a w A sp) (hv : vc1 P (.store mx my n oid) s K) (hn : Next s w A sp N K next) : o.wp P a w next Q := by
  have h1 := (argOf_sound h hx).1
  have h2 := argOf_sound h hy
  simp only [vc1, storeK] at hv
  generalize hmy : my.ev s.env = y' at h2 hv
  split at hv
  · rename_i b off e1
    rw [e1] at h1
    generalize hv0 : a.eval x = v0 at h1
    cases h1
    split at hv
    · rename_i cs hb
      obtain ⟨hoff, hl, hc1, hv⟩ := hv
      obtain ⟨vs, T, hh, hsz, hr⟩ := h.loc b cs hb
      obtain ⟨hs2, hr2⟩ := h2.1.cells_of (by intro e; rw [e] at hl; simp at hl; omega)
      have hrun := storeAt_run (P := P) (w := w) hz hh (v := a.eval y) (off := off) (by omega) (by omega) (cells_oneCell hr2 hs2 hc1)
      have hrow : ∀ (sp' : Sp) (cs' ys : List AV), cs'.length = cs.length → (∀ i, RV w A (cs'.getD i .any) (vs.getD i undef) ∧ OwnOK sp' (cs'.getD i .any) (vs.getD i undef)) →
          ys.length = n → (∀ i, RV w A (ys.getD i .any) ((a.eval y).cells.getD i undef) ∧ OwnOK sp' (ys.getD i .any) ((a.eval y).cells.getD i undef)) →
          ∀ i, RV w A ((splice cs' off ys).getD i .any) ((vs.toList.take off ++ (a.eval y).cells.toList ++ vs.toList.drop (off + n)).toArray.getD i undef) ∧
            OwnOK sp' ((splice cs' off ys).getD i .any) ((vs.toList.take off ++ (a.eval y).cells.toList ++ vs.toList.drop (off + n)).toArray.getD i undef) := by
        intro sp' cs' ys hcs' hr' hys hry i
        have e := row_getD vs (a.eval y).cells.toList off i (by simp; omega)
        simp only [Array.length_toList, hs2, hl] at e
        rw [e, splice_getD _ _ _ _ (by omega), hys]
        split
        · have := hry (i - off)
          simpa [List.getD_eq_getElem?_getD, Array.getD_eq_getD_getElem?] using this
        · exact hr' i
      have hrun' : (execOp a.eval o).run P w = .ok .skip (w.setRow b (vs.toList.take off ++ (a.eval y).cells.toList ++ vs.toList.drop (off + n)).toArray) := by
        simp only [execOp, hop, hv0, Sem.run_bind, hrun, Result.andThen_ok, Sem.run_pure]
      have hsize : ∀ cs' : List AV, cs'.length = cs.length → ((vs.toList.take off ++ (a.eval y).cells.toList ++ vs.toList.drop (off + n)).toArray).size = cs'.length := by
        intro cs' hcs'
        simp only [List.size_toArray, List.length_append, List.length_take, List.length_drop, Array.length_toList]
        omega
      have plain : K (s.new b (splice cs off (y'.cells.map AV.erase0))) → o.wp P a w next Q := by
        intro hk
        refine fin0 (h.setRow hb hh (hsize _ (splice_len _ _ _)) (hrow sp cs _ rfl hr (by simpa using hl) (fun i => ?_))) (RS.evSetRow _ _ hb) hd hrun' hk hn
        rw [getD_erase0]
        exact ⟨(hr2 i).erase0, .erase0⟩
      split at hv
      · rename_i sz xs r
        split at hv
        · exact plain hv
        · rename_i hro
          have hr0 : r ≠ 0 := fun e => hro (.inl e)
          have ho0 : oid ≠ 0 := fun e => hro (.inr e)
          have h' := h.rename r oid ho0
          have hb' : ((s.dem r).dem oid).loc b = some (cs.map fun x => demote oid (demote r x)) := by simp [St.dem, hb]
          obtain ⟨vs', T', hh', hsz', hr'⟩ := h'.loc b _ hb'
          rw [hh] at hh'; injection hh' with hh'; injection hh' with e1 e2 e3; subst e1
          have hl1 : n = 1 := hl.symm
          refine fin0 (h'.setRow (cs := (cs.map fun x => demote oid (demote r x)).set off (.slice sz xs oid)) hb' hh (hsize _ (by simp)) (hrow _ (cs.map fun x => demote oid (demote r x)) [.slice sz xs oid] (by simp) hr' (by simp [hl1]) (fun i => ?_))) ?_ hd hrun' hv hn
          · have e5 : (a.eval y).cells.getD i undef = if i = 0 then a.eval y else undef := by
              have h3 := h2.1
              generalize a.eval y = vy at h3 ⊢
              cases h3 <;> cases i <;> rfl
            rw [e5]
            cases i with
            | zero =>
              refine ⟨h2.1.own, ?_⟩
              rcases own_sp hr0 h2.2 h2.1 with e | ⟨b', off', cap, e, _, e4⟩
              · rw [if_pos rfl, e]; trivial
              · rw [if_pos rfl, e]; exact .inr (by simp [upd, e4])
            | succ i => exact ⟨.any _, trivial⟩
          · exact (Ev.same fun b o => live_rename r oid).trans (RS.evSetRow _ _ hb')
      · exact plain hv
    · exact hv.elim
  · exact hv.elim

theorem s_storeNil {t : TypeId} {x : Operand} {mx : MArg} {sz oid : Nat} (hop : o.op = .store t x (.const (.slice none 0 0))) (hd : o.dst = none) (hx : argOf x = some mx) (hz : szOf P t = some 1) (_ : oid ≠ 0)
    (h : RS N s a w A sp) (hv : vc1 P (.storeNil mx sz oid) s K) (hn : Next s w A sp N K next) : o.wp P a w next Q := by
  have h1 := (argOf_sound h hx).1
  simp only [vc1] at hv
  split at hv
  · rename_i b off e1
    rw [e1] at h1
    generalize hv0 : a.eval x = v0 at h1
    cases h1
    split at hv
    · rename_i cs hb
      obtain ⟨hoff, hv⟩ := hv
      have h' := h.dem oid
      have hb' : (s.dem oid).loc b = some (cs.map (demote oid)) := by simp [St.dem, hb]
      obtain ⟨vs, T, hh, hsz, hr⟩ := h'.loc b _ hb'
      rw [List.length_map] at hsz
      have hrun := storeAt_run (P := P) (w := w) hz hh (v := .slice none 0 0) (off := off) rfl (by omega) (by intro u hu; simp [Value.cells] at hu; rw [hu]; rfl)
      refine fin0 (h'.setRow hb' hh (vs := (vs.toList.take off ++ (Value.slice none 0 0).cells.toList ++ vs.toList.drop (off + 1)).toArray) ?_ (fun i => ?_)) ((Ev.dem oid).trans (RS.evSetRow _ _ hb')) hd
        (by have hcv : a.eval (.const (.slice none 0 0)) = .slice none 0 0 := rfl
            simp only [execOp, hop, hv0, hcv, Sem.run_bind, hrun, Result.andThen_ok, Sem.run_pure]) hv hn
      · simp [Value.cells]; omega
      · have e := row_getD vs [.slice none 0 0] off i (by simp; omega)
        simp only [List.length_singleton] at e
        show RV w A (((cs.map (demote oid)).set off (.slice sz [] oid)).getD i .any) ((vs.toList.take off ++ [Value.slice none 0 0] ++ vs.toList.drop (off + 1)).toArray.getD i undef) ∧ _
        have e2 := splice_getD [.slice sz [] oid] (cs.map (demote oid)) off i (by simp; omega)
        simp only [splice, List.length_singleton] at e2
        simp only [Value.cells] 
        rw [e2]
        show _ ∧ OwnOK _ _ ((vs.toList.take off ++ [Value.slice none 0 0] ++ vs.toList.drop (off + 1)).toArray.getD i undef)
        rw [e]
        split
        · have : i - off = 0 := by omega
          rw [this]
          exact ⟨.nils _ _, trivial⟩
        · exact hr i
    · exact hv.elim
  · exact hv.elim

theorem RS.freeze (h : RS N s a w A sp) {b k : Nat} {cs : List AV} (hk : s.env k = .mref b 0) (hb : s.loc b = some cs) :
    RS N ⟨upd s.env k (.ref (cs.map AV.erase0)), upd s.loc b none⟩ a w (fun c o => A c o ∨ (c = b ∧ o < cs.length)) sp ∧
      Ev w A (live s.loc sp) w (fun c o => A c o ∨ (c = b ∧ o < cs.length)) (live (upd s.loc b none) sp) := by
  obtain ⟨vs, T, hh, hsz, hr⟩ := h.loc b cs hb
  have hlive : ∀ {c o}, live (upd s.loc b none) sp c o → live s.loc sp c o := by
    rintro c o (hl | hl)
    · refine .inl fun hn => hl ?_
      simp only [upd]
      split
      · rfl
      · exact hn
    · exact .inr hl
  have hm : ∀ {x v}, RV w A x v → RV w (fun c o => A c o ∨ (c = b ∧ o < cs.length)) x v := fun hx => hx.mono (fun _ _ _ ha hv => ⟨hv, .inl ha⟩) (.same fun _ _ ha => .inl ha)
  have hspare : ∀ o, ¬ spare sp b o := by
    rintro o ⟨r, h1, h2, h3⟩
    have := (h.spb r (by omega)).2
    rw [h1, hb] at this; cases this
  refine ⟨⟨h.size, h.defers, fun d => ?_, fun c cs' hc => ?_, fun r hr' => ?_, h.spd, fun c o ha => ?_⟩, rfl, rfl, rfl, Nat.le_refl _, fun c o _ hl => ⟨rfl, fun hl' => hl (hlive hl')⟩, fun _ _ _ => rfl, fun _ _ ha => .inl ha, fun c o ha => ?_⟩
  · by_cases e : d = k
    · subst e
      simp only [upd_same]
      have := (h.env d).1
      rw [hk] at this
      generalize a.tmps.getD d undef = v at this
      cases this
      refine ⟨.ref _ _ _ (fun i => vs.getD i undef) (fun i hi => ⟨?_, .inr ⟨rfl, by simpa using hi⟩⟩) (fun i => by rw [getD_erase0]; exact hm (hr i).1.erase0), trivial⟩
      simp at hi
      simp [World.cell?, hh, Array.getD_eq_getD_getElem?, Array.getElem?_eq_getElem (show i < vs.size by omega)]
    · simp only [upd_ne _ _ e]; exact ⟨hm (h.env d).1, (h.env d).2⟩
  · simp only [upd] at hc
    split at hc
    · cases hc
    · obtain ⟨vs', T', g1, g2, g3⟩ := h.loc c cs' hc
      exact ⟨vs', T', g1, g2, fun i => ⟨hm (g3 i).1, (g3 i).2⟩⟩
  · obtain ⟨g1, g2⟩ := h.spb r hr'
    refine ⟨g1, ?_⟩
    simp only [upd]
    split
    · rfl
    · exact g2
  · rcases ha with ha | ⟨rfl, ho⟩
    · exact ⟨(h.av c o ha).1, fun hl => (h.av c o ha).2 (hlive hl)⟩
    · refine ⟨lt_of_heap hh, ?_⟩
      rintro (hl | hl)
      · exact hl (by simp [upd])
      · exact hspare o hl
  · rcases ha with ha | ⟨rfl, ho⟩
    · exact .inl ha
    · exact .inr (.inl (.inl (by rw [hb]; simp)))

theorem map_erase0 (l : List AV) : (l.map AV.erase0).map AV.erase0 = l.map AV.erase0 := by
  rw [List.map_map]
  congr 1
  funext x
  cases x <;> rfl

theorem splice_all : ∀ (ys cs : List AV), ys.length = cs.length → splice cs 0 ys = ys := by
  intro ys cs h
  apply List.ext_getElem?
  intro i
  by_cases hi : i < ys.length
  · have e : (splice cs 0 ys).getD i .any = ys.getD i .any := by rw [splice_getD _ _ _ _ (by omega), if_pos (by omega), Nat.sub_zero]
    rw [List.getD_eq_getElem?_getD, List.getD_eq_getElem?_getD, List.getElem?_eq_getElem (by rw [splice_len]; omega), List.getElem?_eq_getElem hi] at e
    rw [List.getElem?_eq_getElem (by rw [splice_len]; omega), List.getElem?_eq_getElem hi]
    simpa using e
  · rw [List.getElem?_eq_none (by rw [splice_len]; omega), List.getElem?_eq_none (by omega)]

theorem s_storeF {t : TypeId} {k : Nat} {y : Operand} {my : MArg} {n : Nat} (hop : o.op = .store t (.tmp k) y) (hd : o.dst = none) (hy : argOf y = some my) (hz : szOf P t = some n) (hn0 : 0 < n)
    (h : RS N s a w A sp) (hv : vc1 P (.storeF k my n) s K) (hn : Next s w A sp N K next) : o.wp P a w next Q := by
  simp only [vc1] at hv
  split at hv
  · rename_i b hk
    split at hv
    · rename_i cs hb
      obtain ⟨hcs, hl, hc1, hv⟩ := hv
      -- first the store, then the freezing
      obtain ⟨y', hy'⟩ : ∃ y', y' = my.ev s.env := ⟨_, rfl⟩
      rw [← hy'] at hl hc1 hv
      let K' : St → Prop := fun s' => s' = s.new b (y'.cells.map AV.erase0)
      have hvs : vc1 P (.store (.t k) my n 0) s K' := by
        show storeK s (s.env k) (my.ev s.env) n 0 K'
        rw [← hy']
        simp only [storeK, hk, hb]
        refine ⟨by omega, hl, hc1, ?_⟩
        have hsp := splice_all (y'.cells.map AV.erase0) cs (by simp; omega)
        show _
        cases y' <;> simp only [or_true, if_true] <;> first
          | (show _ = _; rw [hsp])
          | (show St.new s b (splice cs 0 [AV.slice _ _ 0]) = St.new s b [AV.slice _ _ 0]; exact congrArg (St.new s b) hsp)
      refine s_store hop hd rfl hy hz hn0 h hvs fun s' a' w' A' sp' hk' hr hev => ?_
      subst hk'
      obtain ⟨f1, f2⟩ := hr.freeze (b := b) (k := k) (cs := y'.cells.map AV.erase0) hk (by simp [St.new, upd])
      have e1 : upd (s.new b (y'.cells.map AV.erase0)).loc b none = upd s.loc b none := by
        funext c; simp only [St.new, upd]; split <;> rfl
      rw [map_erase0, e1] at f1
      rw [e1] at f2
      exact hn _ _ _ _ _ hv f1 (hev.trans f2)
    · exact hv.elim
  · exact hv.elim

end
end Go.Avm

namespace Go.Avm
open Go.RowKit

section
variable {P : Program} {N : Nat} {s : St} {a : Act} {w : World} {A : Area} {sp : Sp} {K : St → Prop} {next : Act → World → Prop} {Q : Exit → Act → World → Prop}
  {o : Oper} {d : Nat}

theorem run_append_zero (t e ty : TypeId) (i : TypeInfo) (ht : P.underlying t = some (.slice e)) (hi : P.info? e = some i) (base yb : Option Addr) (n cap c : Nat) (h : n ≤ cap) :
    (Builtin.append_ #[t, t] ty #[.slice base n cap, .slice yb 0 c]).run P w = .ok (.slice base n cap) w := by
  cases base <;> cases yb <;> simp [Builtin.append_, run_underlying ht, sizeOf, typeInfo, hi, Builtin.lenOf, h, Builtin.firstCells, loadCells, loadCellsFrom, storeCells]

theorem run_append_room' (t ty e : TypeId) (i : TypeInfo) (ht : P.underlying t = some (.slice e)) (hi : P.info? e = some i)
    (g off sLen sCap : Nat) (cur : Array Value) (T : TypeId) (hg : w.heap[g]? = some (.cells cur T (0, 0)))
    (a : Addr) (m c : Nat) (news : List Value) (hl : news.length = m * i.size) (hnews : ∀ j u, news[j]? = some u → w.cell? (a.add j) = some u) (h1 : ∀ u ∈ news, u.oneCell' = true)
    (hroom : sLen + m ≤ sCap) (hfit : off + sLen * i.size + news.length ≤ cur.size) :
    (Builtin.append_ #[t, t] ty #[.slice (some ⟨g, off, none⟩) sLen sCap, .slice (some a) m c]).run P w =
      .ok (.slice (some ⟨g, off, none⟩) (sLen + m) sCap) (w.setRow g (cur.toList.take (off + sLen * i.size) ++ news ++ cur.toList.drop (off + sLen * i.size + news.length)).toArray) := by
  have hf := run_firstCells_some (P := P) w i.size m a m c news hl hnews
  have hst := run_storeCells_at P g (off + sLen * i.size) T news 0 cur w hg (by simpa using hfit) h1
  simp only [Nat.add_zero] at hst
  simp [Builtin.append_, run_underlying ht, sizeOf, typeInfo, hi, Builtin.lenOf, hroom, hf, Addr.add_lit', hst]

theorem flat_len (sz : Nat) : ∀ (xs : List AV), (∀ x ∈ xs, x.cells.length = sz) → (xs.flatMap AV.cells).length = xs.length * sz
  | [], _ => by simp
  | x :: xs, h => by
    rw [List.flatMap_cons, List.length_append, h x (by simp), flat_len sz xs (fun y hy => h y (by simp [hy])), List.length_cons, Nat.add_mul]; omega

theorem range_getElem (f : Nat → Value) (n j : Nat) (v : Value) (h : ((List.range n).map f)[j]? = some v) : j < n ∧ f j = v := by
  simp only [List.getElem?_map, Option.map_eq_some_iff] at h
  obtain ⟨k, hk, rfl⟩ := h
  rw [List.getElem?_eq_some_iff] at hk
  obtain ⟨h1, h2⟩ := hk
  simp at h1 h2
  exact ⟨h1, by rw [h2]⟩

theorem append_getD (xs ys : List AV) (i : Nat) : ((xs ++ ys).flatMap AV.cells).getD i .any =
    if i < (xs.flatMap AV.cells).length then (xs.flatMap AV.cells).getD i .any else (ys.flatMap AV.cells).getD (i - (xs.flatMap AV.cells).length) .any := by
  rw [List.flatMap_append]
  simp only [List.getD_eq_getElem?_getD]
  split
  · rw [List.getElem?_append_left ‹_›]
  · rw [List.getElem?_append_right (by omega)]

theorem app_new (h : RS N s a w A sp) {sz : Nat} {xs ys : List AV} (T : TypeId) (olds news rest : List Value) (q cap : Nat) (_ : q ≠ 0)
    (hq1 : ∀ d, Free q (s.env d)) (hq2 : ∀ b cs, s.loc b = some cs → ∀ i, Free q (cs.getD i .any))
    (hsx : ∀ x ∈ xs, x.cells.length = sz) (hsy : ∀ x ∈ ys, x.cells.length = sz) (hcx : ∀ x ∈ xs, x.cells.all AV.cell1 = true) (hcy : ∀ x ∈ ys, x.cells.all AV.cell1 = true) (hox : olds.length = xs.length * sz) (hny : news.length = ys.length * sz)
    (hrx : ∀ i, RV w A ((xs.flatMap AV.cells).getD i .any) (olds.getD i undef)) (hry : ∀ i, RV w A ((ys.flatMap AV.cells).getD i .any) (news.getD i undef))
    (hcap : xs.length + ys.length ≤ cap) (hrest : rest.length = (cap - (xs.length + ys.length)) * sz) (hlen : xs.length + ys.length ≤ 140737488355328) :
    ∃ A' sp', RS N s a (w.alloc (.cells (olds ++ news ++ rest).toArray T)) A' sp' ∧ Ev w A (live s.loc sp) (w.alloc (.cells (olds ++ news ++ rest).toArray T)) A' (live s.loc sp') ∧
      RV (w.alloc (.cells (olds ++ news ++ rest).toArray T)) A' (.slice sz (xs ++ ys) q) (.slice (some ⟨w.heap.size, 0, none⟩) (xs.length + ys.length) cap) ∧
      OwnOK sp' (.slice sz (xs ++ ys) q) (.slice (some ⟨w.heap.size, 0, none⟩) (xs.length + ys.length) cap) := by
  have hmul : (xs.length + ys.length) * sz ≤ cap * sz := Nat.mul_le_mul_right _ hcap
  have hk : (xs.length + ys.length) * sz = xs.length * sz + ys.length * sz := Nat.add_mul _ _ _
  have hrl : rest.length = cap * sz - (xs.length + ys.length) * sz := by rw [hrest, Nat.sub_mul]
  have hsize : ((olds ++ news ++ rest).toArray).size = cap * sz := by simp; omega
  have h1 := h.alloc (olds ++ news ++ rest).toArray T ((xs.length + ys.length) * sz) (by omega)
  have h2 := h1.newSpare q hq1 hq2 w.heap.size ((xs.length + ys.length) * sz) (cap * sz)
    (fun _ => ⟨⟨_, T, heap_alloc_at _ _, by omega⟩, h.fresh⟩)
    (fun q' _ _ hlt he => absurd (he ▸ h.spare_lt ⟨q', rfl, Nat.le_refl _, hlt⟩) (Nat.lt_irrefl _))
    (fun o ho => by
      rcases ho with ho | ho
      · exact absurd (h.av _ _ ho).1 (Nat.lt_irrefl _)
      · omega)
  refine ⟨_, _, h2, ?_, ?_, .inr (by simp [upd])⟩
  · refine ⟨rfl, rfl, rfl, by rw [alloc_size]; omega, fun b o hb hl => ⟨cell_alloc _ _ _ _ hb, ?_⟩, fun b hb _ => heap_alloc _ _ _ hb, fun _ _ ha => .inl ha, fun b o ha => ha.elim .inl fun e => .inr (.inr (by omega))⟩
    rintro (hl' | ⟨r, hr⟩)
    · exact hl (.inl hl')
    · simp only [upd] at hr
      split at hr
      · have := hr.1; simp only at this; omega
      · exact hl (.inr ⟨r, hr⟩)
  · have hxl := flat_len sz xs hsx
    have hyl := flat_len sz ys hsy
    have hcat : ∀ i, RV w A (((xs ++ ys).flatMap AV.cells).getD i .any) (if i < olds.length then olds.getD i undef else news.getD (i - olds.length) undef) := by
      intro i
      rw [append_getD, hxl, hox]
      split
      · exact hrx i
      · exact hry _
    have := RV.slice (w := w.alloc (.cells (olds ++ news ++ rest).toArray T)) (A := fun b o => A b o ∨ (b = w.heap.size ∧ o < (xs.length + ys.length) * sz)) sz (xs ++ ys) q w.heap.size 0 cap
      (fun i => if i < olds.length then olds.getD i undef else news.getD (i - olds.length) undef)
      (fun x hx => (List.mem_append.1 hx).elim (hsx x) (hsy x)) (fun x hx => (List.mem_append.1 hx).elim (hcx x) (hcy x)) (by simpa using hcap) (by simpa using hlen)
      (fun i hi => ⟨?_, .inr ⟨rfl, by simpa using hi⟩⟩) (fun i => (hcat i).mono (fun b o v ha hv => ⟨by rw [cell_alloc _ _ _ _ (h.av b o ha).1]; exact hv, .inl ha⟩) (.blocks (fun _ _ ha => .inl ha) fun b _ hb => heap_alloc _ _ _ hb))
    · rw [List.length_append] at this; exact this
    · rw [List.length_append] at hi
      rw [Nat.zero_add, cell_alloc_new]
      simp only [List.getElem?_toArray, List.append_assoc, List.getD_eq_getElem?_getD]
      split
      · rw [List.getElem?_append_left ‹_›, List.getElem?_eq_getElem ‹_›]; rfl
      · rw [List.getElem?_append_right (by omega), List.getElem?_append_left (by omega), List.getElem?_eq_getElem (by omega)]; rfl

end
end Go.Avm

namespace Go.Avm
open Go.RowKit

section
variable {P : Program} {N : Nat} {s : St} {a : Act} {w : World} {A : Area} {sp : Sp} {K : St → Prop} {next : Act → World → Prop} {Q : Exit → Act → World → Prop}
  {o : Oper} {d : Nat}

theorem RV.cellsOf {sz : Nat} {xs : List AV} {own b off cap len : Nat} (h : RV w A (.slice sz xs own) (.slice (some ⟨b, off, none⟩) len cap)) :
    (∀ x ∈ xs, x.cells.length = sz) ∧ (∀ x ∈ xs, x.cells.all AV.cell1 = true) ∧ len = xs.length ∧ xs.length ≤ cap ∧ xs.length ≤ 140737488355328 ∧ ∃ us : List Value, us.length = xs.length * sz ∧ (∀ j u, us[j]? = some u → w.cell? ⟨b, off + j, none⟩ = some u ∧ A b (off + j)) ∧
      (∀ i, RV w A ((xs.flatMap AV.cells).getD i .any) (us.getD i undef)) := by
  cases h with
  | slice _ _ _ _ _ _ vs hsz h1c hcap hlen hc hr =>
    refine ⟨hsz, h1c, rfl, hcap, hlen, (List.range (xs.length * sz)).map vs, by simp, fun j u hj => ?_, fun i => ?_⟩
    · obtain ⟨h1, rfl⟩ := range_getElem _ _ _ _ hj
      exact hc j h1
    · by_cases hi : i < xs.length * sz
      · have := hr i
        rw [List.getD_eq_getElem?_getD (l := (List.range (xs.length * sz)).map vs), List.getElem?_map, List.getElem?_range hi]
        exact this
      · rw [List.getD_eq_getElem?_getD, List.getElem?_eq_none (by rw [flat_len sz xs hsz]; omega)]
        exact .any _

theorem RV.slice_of {sz : Nat} {xs : List AV} {own b off cap : Nat} (us : List Value) (hsz : ∀ x ∈ xs, x.cells.length = sz) (h1c : ∀ x ∈ xs, x.cells.all AV.cell1 = true) (hcap : xs.length ≤ cap) (hlen : xs.length ≤ 140737488355328)
    (hu : us.length = xs.length * sz) (hc : ∀ j u, us[j]? = some u → w.cell? ⟨b, off + j, none⟩ = some u ∧ A b (off + j)) (hr : ∀ i, RV w A ((xs.flatMap AV.cells).getD i .any) (us.getD i undef)) :
    RV w A (.slice sz xs own) (.slice (some ⟨b, off, none⟩) xs.length cap) := by
  refine .slice _ _ _ _ _ _ (fun i => us.getD i undef) hsz h1c hcap hlen (fun i hi => ?_) hr
  rw [List.getD_eq_getElem?_getD, List.getElem?_eq_getElem (by omega)]
  exact hc i _ (by rw [List.getElem?_eq_getElem (by omega)]; rfl)

theorem RV.slice_sz {sz sz' : Nat} {xs : List AV} {own : Nat} {v : Value} (h : RV w A (.slice sz xs own) v) (hs : sz = sz' ∨ xs = []) : RV w A (.slice sz' xs own) v := by
  rcases hs with rfl | rfl
  · exact h
  · cases h with
    | nils => exact .nils _ _
    | slice _ _ _ b off cap vs hsz h1c hcap hlen hc hr =>
      exact .slice _ _ _ _ _ _ vs (by simp) (by simp) hcap hlen (fun i hi => by simp at hi) hr

theorem flat_all (xs : List AV) (h : ∀ x ∈ xs, x.cells.all AV.cell1 = true) : ∀ c ∈ xs.flatMap AV.cells, c.cell1 = true := by
  intro c hc
  obtain ⟨x, hx, hcx⟩ := List.mem_flatMap.1 hc
  exact (List.all_eq_true.1 (h x hx)) c hcx

theorem app_room (h : RS N s a w A sp) {sz : Nat} {xs ys : List AV} {g off cap : Nat} {r : Nat} (q : Nat) (hq : q ≠ 0)
    (hx : RV w A (.slice sz xs r) (.slice (some ⟨g, off, none⟩) xs.length cap)) (hspr : sp r = (g, off + xs.length * sz, off + cap * sz))
    (news : List Value) (hsy : ∀ x ∈ ys, x.cells.length = sz) (hcy : ∀ x ∈ ys, x.cells.all AV.cell1 = true) (hny : news.length = ys.length * sz) (hne : 0 < ys.length * sz)
    (hry : ∀ i, RV w A ((ys.flatMap AV.cells).getD i .any) (news.getD i undef))
    (hcap : xs.length + ys.length ≤ cap) (hlen : xs.length + ys.length ≤ 140737488355328) :
    ∃ cur T A' sp', w.heap[g]? = some (.cells cur T (0, 0)) ∧ off + xs.length * sz + news.length ≤ cur.size ∧
      (∀ w', w' = w.setRow g (cur.toList.take (off + xs.length * sz) ++ news ++ cur.toList.drop (off + xs.length * sz + news.length)).toArray →
      RS N ((s.dem r).dem q) a w' A' sp' ∧ Ev w A (live s.loc sp) w' A' (live ((s.dem r).dem q).loc sp') ∧
      RV w' A' (.slice sz (xs ++ ys) q) (.slice (some ⟨g, off, none⟩) (xs.length + ys.length) cap) ∧
      OwnOK sp' (.slice sz (xs ++ ys) q) (.slice (some ⟨g, off, none⟩) (xs.length + ys.length) cap)) := by
  have hmul : (xs.length + ys.length) * sz ≤ cap * sz := Nat.mul_le_mul_right _ hcap
  have hk : (xs.length + ys.length) * sz = xs.length * sz + ys.length * sz := Nat.add_mul _ _ _
  have hlt : (sp r).2.1 < (sp r).2.2 := by rw [hspr]; dsimp only; omega
  obtain ⟨⟨cur, T, hg, hcs⟩, hlg⟩ := h.spb r hlt
  rw [hspr] at hg hcs hlg
  dsimp only at hg hcs hlg
  have hfit : off + xs.length * sz + news.length ≤ cur.size := by omega
  refine ⟨cur, T, fun b o => A b o ∨ (b = g ∧ off + xs.length * sz ≤ o ∧ o < off + (xs.length + ys.length) * sz), upd (upd (upd sp r (0, 0, 0)) q (0, 0, 0)) q (g, off + (xs.length + ys.length) * sz, off + cap * sz), hg, hfit, fun w' hw' => ?_⟩
  have hcell : ∀ o, ¬ (off + xs.length * sz ≤ o ∧ o < off + (xs.length + ys.length) * sz) → w'.cell? ⟨g, o, none⟩ = w.cell? ⟨g, o, none⟩ := by
    intro o ho
    rw [hw', cell_setRow_same w g o cur _ T (0, 0) hg]
    have e := row_getD cur news (off + xs.length * sz) o hfit
    rw [if_neg (by omega)] at e
    simp only [Array.getD_eq_getD_getElem?] at e
    simp only [World.cell?, hg]
    by_cases ho2 : o < cur.size
    · rw [Array.getElem?_eq_getElem (by simp; omega), Array.getElem?_eq_getElem ho2] at e
      simp only [Option.getD_some] at e
      rw [Array.getElem?_eq_getElem (by simp; omega), Array.getElem?_eq_getElem ho2, e]; rfl
    · rw [Array.getElem?_eq_none (by simp; omega), Array.getElem?_eq_none (by omega)]; rfl
  have hnew : ∀ j u, news[j]? = some u → w'.cell? ⟨g, off + xs.length * sz + j, none⟩ = some u := by
    intro j u hj
    have hj' := (List.getElem?_eq_some_iff.1 hj).1
    rw [hw', cell_setRow_same w g _ cur _ T (0, 0) hg]
    simp only [List.getElem?_toArray]
    rw [List.append_assoc, List.getElem?_append_right (by simp; omega), List.getElem?_append_left (by simp; omega)]
    have : min (off + xs.length * sz) cur.size = off + xs.length * sz := by omega
    simp only [List.length_take, Array.length_toList, this, Nat.add_sub_cancel_left]
    exact hj
  have hA : ∀ o, A g o → ¬ (off + xs.length * sz ≤ o ∧ o < off + cap * sz) := fun o ho hh => (h.av g o ho).2 (.inr ⟨r, by rw [hspr]; exact ⟨rfl, hh⟩⟩)
  have hcellA : ∀ b o v, A b o → w.cell? ⟨b, o, none⟩ = some v → w'.cell? ⟨b, o, none⟩ = some v := by
    intro b o v ha hv
    by_cases e : b = g
    · subst e
      have := hA o ha
      rw [hcell o (by omega)]; exact hv
    · rw [hw', cell_setRow_other _ _ _ _ _ e]; exact hv
  have hother : ∀ b, b ≠ g → w'.heap[b]? = w.heap[b]? := fun b hb => by rw [hw', setRow_other' _ _ _ _ hb]
  have hsame : w'.heap[g]? = some (.cells (cur.toList.take (off + xs.length * sz) ++ news ++ cur.toList.drop (off + xs.length * sz + news.length)).toArray T (0, 0)) := by
    rw [hw']; exact setRow_heap _ _ _ _ _ _ hg
  have hsize' : ((cur.toList.take (off + xs.length * sz) ++ news ++ cur.toList.drop (off + xs.length * sz + news.length)).toArray).size = cur.size := by
    simp only [List.size_toArray, List.length_append, List.length_take, List.length_drop, Array.length_toList]; omega
  have hws : w'.heap.size = w.heap.size := by rw [hw', size_setRow]
  have hobj : ObjKept w w' A (fun b o => A b o ∨ (b = g ∧ off + xs.length * sz ≤ o ∧ o < off + (xs.length + ys.length) * sz)) := .blocks (fun _ _ ha => .inl ha) fun b ha _ => by
    by_cases e : b = g
    · subst e
      exact absurd ⟨Nat.le_refl (off + xs.length * sz), by omega⟩ (hA _ (ha _))
    · exact hother b e
  have h2 := (h.dem r).dem q
  have hq1 : ∀ k, k ≠ q → k ≠ r → upd (upd sp r (0, 0, 0)) q (0, 0, 0) k = sp k := fun k e1 e2 => by simp [upd, e1, e2]
  have hsp2 : ∀ k, (upd (upd sp r (0, 0, 0)) q (0, 0, 0) k).2.1 < (upd (upd sp r (0, 0, 0)) q (0, 0, 0) k).2.2 → k ≠ q ∧ k ≠ r := by
    intro k hk
    refine ⟨fun e => ?_, fun e => ?_⟩
    · subst e; simp [upd] at hk
    · subst e; simp only [upd] at hk; split at hk <;> simp at hk
  have h3 := h2.world (w' := w') (A' := fun b o => A b o ∨ (b = g ∧ off + xs.length * sz ≤ o ∧ o < off + (xs.length + ys.length) * sz)) hcellA (fun b o ha => .inl ha) hobj
    (fun b cs hb => hother b (fun e => by subst e; simp [St.dem, hlg] at hb)) (fun k hk => by
      obtain ⟨⟨vs, T', g1, g2⟩, _⟩ := h2.spb k hk
      by_cases e : (upd (upd sp r (0, 0, 0)) q (0, 0, 0) k).1 = g
      · rw [e] at g1 ⊢
        rw [hg] at g1; injection g1 with g1; injection g1 with g1 _ _; subst g1
        exact ⟨_, T, hsame, by omega⟩
      · exact ⟨vs, T', (hother _ e).trans g1, g2⟩) (fun b o ha => by
      rcases ha with ha | ⟨rfl, h4, h5⟩
      · exact ⟨by rw [hws]; exact (h2.av b o ha).1, (h2.av b o ha).2⟩
      · refine ⟨by rw [hws]; exact lt_of_heap hg, ?_⟩
        rintro (hl | ⟨k, hk1, hk2, hk3⟩)
        · exact hl (by simp [St.dem, hlg])
        · obtain ⟨e1, e2⟩ := hsp2 k (by omega)
          rw [hq1 k e1 e2] at hk1 hk2 hk3
          have := h.spd k r e2 (by omega) hlt (by rw [hk1, hspr])
          rw [hspr] at this; dsimp only at this; omega)
  have h4 := h3.newSpare q (dem_env_ne _ _ hq) (dem_loc_ne _ _ hq) g (off + (xs.length + ys.length) * sz) (off + cap * sz)
    (fun _ => ⟨⟨_, T, hsame, by omega⟩, by simp [St.dem, hlg]⟩)
    (fun k hkq hlt' hk he => by
      obtain ⟨e1, e2⟩ := hsp2 k hk
      rw [hq1 k e1 e2] at hk he ⊢
      have := h.spd k r e2 hk hlt (by rw [he, hspr])
      rw [hspr] at this; dsimp only at this; omega)
    (fun o ho => by
      rcases ho with ho | ho
      · have := hA o ho; omega
      · omega)
  refine ⟨h4, ?_, ?_, .inr (by simp [upd])⟩
  · refine ⟨by rw [hw']; rfl, by rw [hw']; rfl, by rw [hw']; rfl, by rw [hws]; exact Nat.le_refl _, fun b o hb hl => ⟨?_, fun hl' => hl ?_⟩, fun b hb hl => ?_, fun _ _ ha => .inl ha, fun b o ha => ?_⟩
    · by_cases e : b = g
      · subst e
        refine hcell o (fun hh => hl (.inr ⟨r, by rw [hspr]; dsimp only; omega⟩))
      · rw [hw', cell_setRow_other _ _ _ _ _ e]
    · rcases hl' with hl' | ⟨k, hk⟩
      · exact .inl (by intro hn; exact hl' (by simp [St.dem, hn]))
      · by_cases e : k = q
        · subst e; simp only [upd, if_true] at hk
          exact .inr ⟨r, by rw [hspr]; dsimp only; omega⟩
        · simp only [upd, e, if_false] at hk
          split at hk
          · dsimp only at hk; omega
          · exact .inr ⟨k, hk⟩
    · by_cases e : b = g
      · subst e; exact absurd (.inr ⟨r, by rw [hspr]; dsimp only; exact ⟨rfl, Nat.le_refl _, by omega⟩⟩) (hl (off + xs.length * sz))
      · exact hother b e
    · rcases ha with ha | ⟨rfl, h5, h6⟩
      · exact .inl ha
      · exact .inr (.inl (.inr ⟨r, by rw [hspr]; dsimp only; omega⟩))
  · obtain ⟨hsx, hcx, _, _, _, us, hul, huc, hur⟩ := hx.cellsOf
    have hm : ∀ {x v}, RV w A x v → RV w' (fun b o => A b o ∨ (b = g ∧ off + xs.length * sz ≤ o ∧ o < off + (xs.length + ys.length) * sz)) x v :=
      fun hx => hx.mono (fun b o v ha hv => ⟨hcellA b o v ha hv, .inl ha⟩) hobj
    have := RV.slice_of (w := w') (A := fun b o => A b o ∨ (b = g ∧ off + xs.length * sz ≤ o ∧ o < off + (xs.length + ys.length) * sz)) (sz := sz) (xs := xs ++ ys) (own := q) (b := g) (off := off) (cap := cap) (us ++ news)
      (fun x hx => (List.mem_append.1 hx).elim (hsx x) (hsy x)) (fun x hx => (List.mem_append.1 hx).elim (hcx x) (hcy x)) (by simpa using hcap) (by simpa using hlen) (by simp; omega) (fun j u hj => ?_) (fun i => ?_)
    · rw [List.length_append] at this; exact this
    · by_cases hjl : j < us.length
      · rw [List.getElem?_append_left hjl] at hj
        have := huc j u hj
        exact ⟨hcellA _ _ _ this.2 this.1, .inl this.2⟩
      · rw [List.getElem?_append_right (by omega)] at hj
        have hj' := (List.getElem?_eq_some_iff.1 hj).1
        have := hnew _ u hj
        rw [hul] at this
        have e : off + xs.length * sz + (j - xs.length * sz) = off + j := by omega
        rw [e] at this
        exact ⟨this, .inr ⟨rfl, by omega, by omega⟩⟩
    · rw [append_getD, flat_len sz xs hsx]
      split
      · have := hm (hur i)
        rw [List.getD_eq_getElem?_getD (l := us ++ news), List.getElem?_append_left (by omega)]
        rw [List.getD_eq_getElem?_getD (l := us)] at this
        exact this
      · have := hm (hry (i - xs.length * sz))
        rw [List.getD_eq_getElem?_getD (l := us ++ news), List.getElem?_append_right (by omega), hul]
        rw [List.getD_eq_getElem?_getD (l := news)] at this
        exact this

theorem RV.drew {x : AV} {v : Value} (h : RV w A x v) : RV w.drew A x v := RV.mono (w := w) (w' := w.drew) (A := A) (A' := A) (fun _ _ _ ha hv => ⟨hv, ha⟩) (fun _ _ ha hb => ⟨hb, ha⟩) h

theorem RV.oneCells {ys : List AV} (hcy : ∀ x ∈ ys, x.cells.all AV.cell1 = true) {news : List Value} (hl : news.length = (ys.flatMap AV.cells).length)
    (hry : ∀ i, RV w A ((ys.flatMap AV.cells).getD i .any) (news.getD i undef)) : ∀ u ∈ news, u.oneCell' = true := by
  intro u hu
  obtain ⟨i, hi, rfl⟩ := List.getElem_of_mem hu
  have h1 := hry i
  rw [List.getD_eq_getElem?_getD, List.getD_eq_getElem?_getD, List.getElem?_eq_getElem (by omega), List.getElem?_eq_getElem hi] at h1
  exact h1.oneCell (flat_all ys hcy _ (by simp))

theorem s_app {t e : TypeId} {i : TypeInfo} {z : Value} {x y : Operand} {mx my : MArg} (hop : o.op = .call { callee := .builtin .append, args := #[x, y], argTypes := #[t, t] }) (hd : o.dst = some d) (hN : d < N)
    (hx : argOf x = some mx) (hy : argOf y = some my) (ht : P.underlying t = some (.slice e)) (hi : P.info? e = some i) (hz : i.zero = some z) (hzs : z.cells.size = i.size) (hs0 : 0 < i.size)
    (h : RS N s a w A sp) (hv : vc1 P (.app d mx my i.size i.bytes) s K) (hn : Next s w A sp N K next) : o.wp P a w next Q := by
  have h1 := argOf_sound h hx
  have h2 := (argOf_sound h hy).1
  have hex : ∀ v w', (Builtin.append_ #[t, t] o.type #[a.eval x, a.eval y]).run P w = .ok v w' → (execOp a.eval o).run P w = .ok (.value v) w' := by
    intro v w' hr
    simp [execOp, hop, resolve, invoke, builtin, hr]
  simp only [vc1] at hv
  split at hv
  · rename_i szx xs r szy ys r2 e1 e2
    obtain ⟨hr0, hsx, hsy, hbytes, hlen, hK⟩ := hv
    rw [e1] at h1; rw [e2] at h2
    subst hsx
    have hY := h2.slice_sz hsy
    have hq : d + 1 ≠ 0 := by omega
    have hev2 : Ev w A (live s.loc sp) w A (live ((s.dem r).dem (d + 1)).loc (upd (upd sp r (0, 0, 0)) (d + 1) (0, 0, 0))) := (Ev.dem r).trans (Ev.dem (d + 1))
    have hR := (h.dem r).dem (d + 1)
    have hbig : ∀ n : Nat, n ≤ 140737488355328 → n ≤ maxLen := by unfold maxLen; omega
    -- nothing is appended
    have hzero : ∀ base yb n cap c, a.eval x = .slice base n cap → a.eval y = .slice yb 0 c → n ≤ cap → ys = [] → o.wp P a w next Q := by
      intro base yb n cap c ex ey hnc hys
      subst hys
      rw [List.append_nil] at hK
      refine fin' (h.rename r (d + 1) hq) (.same fun b o => live_rename r (d + 1)) hd hN (hex _ _ (by rw [ex, ey]; exact run_append_zero t e o.type i ht hi base yb n cap c hnc)) (x := .slice i.size xs (d + 1)) ?_ ?_ hK hn
      · rw [← ex]; exact h1.1.own
      · rcases own_sp hr0 h1.2 h1.1 with e3 | ⟨b, off, cap', e3, _, e4⟩
        · rw [ex] at e3; injection e3 with e3 e5 e6; subst e3; trivial
        · rw [ex] at e3; injection e3 with e3 e5 e6; subst e3; subst e5; subst e6
          exact .inr (by simp [upd, e4])
    generalize hvy : a.eval y = vy at hY hzero
    cases hY with
    | nils =>
      rcases own_sp hr0 h1.2 h1.1 with e3 | ⟨b, off, cap, e3, hc, _⟩
      · exact hzero _ _ _ _ _ e3 rfl (Nat.le_refl _) rfl
      · exact hzero _ _ _ _ _ e3 rfl hc rfl
    | slice _ _ _ b' off' cap' vs' hszy h1cy hcapy hleny hcy hry =>
      have hYc := (RV.slice (w := w) (A := A) i.size ys r2 b' off' cap' vs' hszy h1cy hcapy hleny hcy hry).cellsOf
      obtain ⟨_, _, _, _, _, news, hnl, hnc, hnr⟩ := hYc
      by_cases hys : ys = []
      · subst hys
        rcases own_sp hr0 h1.2 h1.1 with e3 | ⟨b, off, cap, e3, hc, _⟩
        · exact hzero _ _ _ _ _ e3 rfl (Nat.le_refl _) rfl
        · exact hzero _ _ _ _ _ e3 rfl hc rfl
      · have hyl : 0 < ys.length := List.length_pos_iff.2 hys
        have hne : 0 < ys.length * i.size := Nat.mul_pos hyl hs0
        have hone := RV.oneCells h1cy (by rw [hnl, flat_len i.size ys hszy]) hnr
        have hnews : ∀ j u, news[j]? = some u → w.cell? ((⟨b', off', none⟩ : Addr).add j) = some u := fun j u hj => by rw [Addr.add_lit']; exact (hnc j u hj).1
        rcases own_sp hr0 h1.2 h1.1 with e3 | ⟨b, off, cap, e3, hc, hsp⟩
        · -- a nil slice: a new row
          have hxs : xs = [] := by
            have := h1.1; rw [e3] at this; cases this; rfl
          subst hxs
          have hrun := run_append_nil (P := P) w t o.type e i z ht hi hz ⟨b', off', none⟩ ys.length cap' news hnl hnews hyl (by simp at hlen; omega) (by simp at hbytes; omega)
          obtain ⟨A', sp', g1, g2, g3, g4⟩ := app_new hR.drew (xs := []) (ys := ys) (sz := i.size) e [] news (Builtin.zeroCells z.cells (grownCap w ys.length 0 e - ys.length)).toList (d + 1) (grownCap w ys.length 0 e) hq
            (dem_env_ne _ _ hq) (dem_loc_ne _ _ hq) (by simp) hszy (by simp) h1cy (by simp) hnl (by simp; exact .any _) (fun k => (hnr k).drew) (by simp; exact grownCap_ge w _ _ _) (by simp [Builtin.zeroCells, hzs]) (by simpa using hlen)
          simp only [List.length_nil, Nat.zero_add, List.nil_append] at g1 g2 g3 g4 hK
          refine fin' g1 ((hev2.trans (Ev.drew _)).trans g2) hd hN (hex _ _ ?_) g3 g4 hK hn
          rw [e3, hvy, hrun]
          congr 2
          rw [← Array.toList_inj.1 (show (news ++ (Builtin.zeroCells z.cells (grownCap w ys.length 0 e - ys.length)).toList).toArray.toList = (news.toArray ++ Builtin.zeroCells z.cells (grownCap w ys.length 0 e - ys.length)).toList by simp)]
        · by_cases hroom : xs.length + ys.length ≤ cap
          · -- in place
            have hX := h1.1
            rw [e3] at hX
            obtain ⟨cur, T, A', sp', g1, g2, g3⟩ := app_room h (d + 1) hq hX hsp news hszy h1cy hnl hne hnr hroom hlen
            have hrun := run_append_room' (P := P) (w := w) t o.type e i ht hi b off xs.length cap cur T g1 ⟨b', off', none⟩ ys.length cap' news hnl hnews hone hroom g2
            obtain ⟨g4, g5, g6, g7⟩ := g3 _ rfl
            exact fin' g4 g5 hd hN (hex _ _ (by rw [e3, hvy]; exact hrun)) g6 g7 hK hn
          · -- a new row
            have hX := h1.1
            rw [e3] at hX
            obtain ⟨hszx, h1cx, _, _, _, olds, hol, hoc, hor⟩ := hX.cellsOf
            have holds : ∀ j u, olds[j]? = some u → w.cell? ((⟨b, off, none⟩ : Addr).add j) = some u := fun j u hj => by rw [Addr.add_lit']; exact (hoc j u hj).1
            have hrun := run_append_grow (P := P) w t o.type e i z ht hi hz ⟨b, off, none⟩ xs.length cap olds hol holds ⟨b', off', none⟩ ys.length cap' news hnl hnews (by omega) (by omega) (growslice_fits (by omega) hbytes)
            obtain ⟨A', sp', g1, g2, g3, g4⟩ := app_new hR.drew (xs := xs) (ys := ys) (sz := i.size) e olds news (Builtin.zeroCells z.cells (grownCap w (xs.length + ys.length) cap e - (xs.length + ys.length))).toList (d + 1) (grownCap w (xs.length + ys.length) cap e) hq
              (dem_env_ne _ _ hq) (dem_loc_ne _ _ hq) hszx hszy h1cx h1cy hol hnl (fun k => (hor k).drew) (fun k => (hnr k).drew) (grownCap_ge w _ _ _) (by simp [Builtin.zeroCells, hzs]) hlen
            refine fin' g1 ((hev2.trans (Ev.drew _)).trans g2) hd hN (hex _ _ ?_) g3 g4 hK hn
            rw [e3, hvy, hrun]
            congr 2
            rw [← Array.toList_inj.1 (show (olds ++ news ++ (Builtin.zeroCells z.cells (grownCap w (xs.length + ys.length) cap e - (xs.length + ys.length))).toList).toArray.toList = (olds.toArray ++ news.toArray ++ Builtin.zeroCells z.cells (grownCap w (xs.length + ys.length) cap e - (xs.length + ys.length))).toList by simp)]
  · exact hv.elim

end
end Go.Avm

namespace Go.Avm
open Go.RowKit

section
variable {P : Program} {N : Nat} {s : St} {a : Act} {w : World} {A : Area} {sp : Sp} {K : St → Prop} {next : Act → World → Prop} {Q : Exit → Act → World → Prop}
  {o : Oper} {d : Nat}

theorem foldl_set (us : List Value) : ∀ (k off : Nat) (cs : Array Value), 
    (us.zipIdx k).foldl (fun (cs : Array Value) (p : Value × Nat) => cs.setIfInBounds (off + p.2) p.1) cs =
      (us.zipIdx 0).foldl (fun (cs : Array Value) (p : Value × Nat) => cs.setIfInBounds (off + k + p.2) p.1) cs := by
  induction us with
  | nil => intro k off cs; rfl
  | cons u us ih =>
    intro k off cs
    simp only [List.zipIdx_cons, List.foldl_cons]
    rw [ih (k + 1) off, ih 1 (off + k)]
    simp only [Nat.add_zero, Nat.add_assoc]

theorem fill_row : ∀ (us : List Value) (off : Nat) (cs : Array Value), off + us.length ≤ cs.size →
    ((us.zipIdx 0).foldl (fun (cs : Array Value) (p : Value × Nat) => cs.setIfInBounds (off + p.2) p.1) cs).size = cs.size ∧
    ∀ i, ((us.zipIdx 0).foldl (fun (cs : Array Value) (p : Value × Nat) => cs.setIfInBounds (off + p.2) p.1) cs).getD i undef = if off ≤ i ∧ i < off + us.length then us.getD (i - off) undef else cs.getD i undef
  | [], off, cs, _ => ⟨rfl, fun i => by simp; intro h1 h2; omega⟩
  | u :: us, off, cs, h => by
    simp only [List.length_cons] at h
    simp only [List.zipIdx_cons, List.foldl_cons, Nat.zero_add, Nat.add_zero]
    rw [foldl_set us 1 off]
    obtain ⟨h1, h2⟩ := fill_row us (off + 1) (cs.setIfInBounds off u) (by simp; omega)
    refine ⟨by rw [h1]; simp, fun i => ?_⟩
    rw [h2]
    by_cases e : off + 1 ≤ i ∧ i < off + 1 + us.length
    · rw [if_pos e, if_pos (by simp; omega)]
      have : i - off = (i - (off + 1)) + 1 := by omega
      rw [this]; simp
    · rw [if_neg e]
      by_cases e2 : i = off
      · subst e2
        rw [if_pos (by simp)]
        simp only [Nat.sub_self, List.getD_eq_getElem?_getD, List.getElem?_cons_zero, Array.getD_eq_getD_getElem?]
        rw [Array.getElem?_setIfInBounds_self_of_lt (by omega)]
      · rw [if_neg (by simp; omega)]
        simp only [Array.getD_eq_getD_getElem?]
        rw [Array.getElem?_setIfInBounds_ne (by omega)]

def ArgS (x : Operand) (m : MArg) : Prop := ∀ (N : Nat) (s : St) (a : Act) (w : World) (A : Area) (sp : Sp), RS N s a w A sp → RV w A (m.ev s.env) (a.eval x)
theorem argS_of {P : Program} {t : TypeId} {x : Operand} {m : MArg} (h : argOfT P t x = some m) : ArgS x m := fun _ _ _ _ _ _ hs => (argOfT_sound hs h).1

def PartsOK (place : Nat → Option (Nat × Nat)) : List (Nat × Operand) → List (Nat × Nat × MArg) → Prop
  | [], [] => True
  | (i, x) :: ps, (off, n, m) :: qs => ArgS x m ∧ place i = some (off, n) ∧ 0 < n ∧ PartsOK place ps qs
  | _, _ => False

theorem fill_sound (h : RS N s a w A sp) (place : Nat → Option (Nat × Nat)) : ∀ (ps : List (Nat × Operand)) (qs : List (Nat × Nat × MArg)) (cs : List AV) (vs : Array Value) (k : List AV → Prop),
    PartsOK place ps qs → vs.size = cs.length → (∀ i, RV w A (cs.getD i .any) (vs.getD i undef)) → fillK s.env cs qs k →
    ∃ cs' vs', Instr.fill place vs (ps.map fun p => (p.1, a.eval p.2)) = some vs' ∧ vs'.size = cs'.length ∧ (∀ i, RV w A (cs'.getD i .any) (vs'.getD i undef)) ∧ k cs'
  | [], [], cs, vs, k, _, hs, hr, hk => ⟨cs, vs, rfl, hs, hr, hk⟩
  | (i, x) :: ps, (off, n, m) :: qs, cs, vs, k, hp, hs, hr, hk => by
    obtain ⟨hx, hpl, hn0, hp⟩ := hp
    obtain ⟨hl, hoff, hk⟩ := hk
    have h1 := hx _ _ _ _ _ _ h
    obtain ⟨c1, c2⟩ := h1.cells_of (by intro e; rw [e] at hl; simp at hl; omega)
    obtain ⟨f1, f2⟩ := fill_row (a.eval x).cells.toList off vs (by simp; omega)
    have hfold : (a.eval x).cells.zipIdx.foldl (fun cs (c, j) => cs.setIfInBounds (off + j) c) vs = ((a.eval x).cells.toList.zipIdx 0).foldl (fun (cs : Array Value) (p : Value × Nat) => cs.setIfInBounds (off + p.2) p.1) vs := by
      rw [← Array.foldl_toList]; simp
    obtain ⟨cs', vs', g1, g2, g3, g4⟩ := fill_sound h place ps qs (splice cs off ((m.ev s.env).cells.map AV.erase0)) _ k hp (by rw [f1, splice_len]; exact hs) (fun j => by
      rw [f2, splice_getD _ _ _ _ (by simp; omega)]
      simp only [List.length_map, Array.length_toList, c1]
      split
      · rw [getD_erase0]
        have := (c2 (j - off)).erase0
        simpa [List.getD_eq_getElem?_getD, Array.getD_eq_getD_getElem?] using this
      · exact hr j) hk
    refine ⟨cs', vs', ?_, g2, g3, g4⟩
    rw [List.map_cons, Instr.fill]
    simp only [hpl]
    rw [if_neg (by simp; omega), hfold]
    exact g1
  | [], _ :: _, _, _, _, hp, _, _, _ => hp.elim
  | _ :: _, [], _, _, _, hp, _, _, _ => hp.elim

theorem run_mapM_fields {P : Program} {w : World} : ∀ (fs : List Field) , (∀ f ∈ fs, ∃ i, P.info? f.type = some i) →
    (fs.mapM fun f => (do pure (f.offset, ← sizeOf f.type) : Sem (Nat × Nat))).run P w = .ok (fs.map fun f => (f.offset, P.cellsOf f.type)) w
  | [], _ => rfl
  | f :: fs, h => by
    obtain ⟨i, hi⟩ := h f (by simp)
    have ih := run_mapM_fields (w := w) fs (fun g hg => h g (by simp [hg]))
    simp only [List.mapM_cons, Sem.run_bind, sizeOf, typeInfo, run_program, Result.andThen_ok, hi, Sem.run_pure, List.map_cons, Program.cellsOf, Option.map_some, Option.getD_some] at ih ⊢
    rw [ih]
    rfl

theorem fieldsParts_ok {fs : Array Field} (place : Nat → Option (Nat × Nat)) (hpl : ∀ i f n, fs[i]? = some f → szOf P f.type = some n → place i = some (f.offset, n)) : ∀ (ps : List (Nat × Operand)) (qs : List (Nat × Nat × MArg)), fieldsParts P fs ps = some qs → PartsOK place ps qs
  | [], qs, h => by injection h with h; subst h; trivial
  | (i, x) :: ps, qs, h => by
    simp only [fieldsParts] at h
    split at h
    · rename_i f ys h1 h3
      split at h
      · rename_i n y hn h2
        split at h
        · injection h with h; subst h
          exact ⟨argS_of h2, hpl i f n h1 hn, by omega, fieldsParts_ok place hpl ps ys h3⟩
        · cases h
      · cases h
    · cases h

theorem arrParts_ok {e : TypeId} {sz : Nat} (h0 : 0 < sz) : ∀ (ps : List (Nat × Operand)) (qs : List (Nat × Nat × MArg)), arrParts P e sz ps = some qs → PartsOK (fun i => some (i * sz, sz)) ps qs
  | [], qs, h => by injection h with h; subst h; trivial
  | (i, x) :: ps, qs, h => by
    simp only [arrParts] at h
    split at h
    · rename_i y ys h1 h2
      injection h with h; subst h
      exact ⟨argS_of h1, rfl, h0, arrParts_ok h0 ps ys h2⟩
    · cases h

theorem s_buildS {t : TypeId} {ps : Array (Nat × Operand)} {qs : List (Nat × Nat × MArg)} {z : List AV} {fs : Array Field} (hop : o.op = .build t ps) (hd : o.dst = some d) (hN : d < N)
    (hz : okZero P t z = true) (ht : P.underlying t = some (.struct fs)) (hfs : ∀ f ∈ fs.toList, ∃ i, P.info? f.type = some i) (hq : fieldsParts P fs ps.toList = some qs)
    (h : RS N s a w A sp) (hv : vc1 P (.build d z qs) s K) (hn : Next s w A sp N K next) : o.wp P a w next Q := by
  obtain ⟨i, v, hi, hz, hs, _, hr, hc⟩ := okZero_sound (w := w) (A := A) hz
  have hm := run_mapM_fields (P := P) (w := w) fs.toList hfs
  have hok := fieldsParts_ok (P := P) (fs := fs) (fun i => (fs.map fun f => (f.offset, P.cellsOf f.type))[i]?) (fun i f n h1 h2 => by
    simp only [szOf, Option.map_eq_some_iff] at h2
    obtain ⟨j, hj, rfl⟩ := h2
    simp [h1, Program.cellsOf, hj]) ps.toList qs hq
  obtain ⟨cs', vs', g1, g2, g3, g4⟩ := fill_sound h _ ps.toList qs z v.cells _ hok hs hr hv
  refine fin (v := .agg vs') h hd hN ?_ (.agg _ _ g2 g3) trivial g4 hn
  have hmA : (fs.mapM fun f => (do pure (f.offset, ← sizeOf f.type) : Sem (Nat × Nat))).run P w = .ok (fs.map fun f => (f.offset, P.cellsOf f.type)) w := by
    rw [Array.mapM_eq_mapM_toList, Sem.run_map, hm]
    simp only [Result.andThen_ok]
    congr 1
    exact Array.ext' (by simp)
  have hpe : (ps.map fun x => (x.1, a.eval x.2)).toList = ps.toList.map fun p => (p.1, a.eval p.2) := by simp
  simp only [execOp, hop, Instr.build, zeroValue, typeInfo, Sem.run_bind, run_program, Result.andThen_ok, hi, Sem.run_pure, hz, run_underlying ht, hmA, hpe, g1]

theorem s_buildA {t e : TypeId} {len sz : Nat} {ps : Array (Nat × Operand)} {qs : List (Nat × Nat × MArg)} {z : List AV} (hop : o.op = .build t ps) (hd : o.dst = some d) (hN : d < N)
    (hz : okZero P t z = true) (ht : P.underlying t = some (.array len e)) (hsz : szOf P e = some sz) (h0 : 0 < sz) (hq : arrParts P e sz ps.toList = some qs)
    (h : RS N s a w A sp) (hv : vc1 P (.build d z qs) s K) (hn : Next s w A sp N K next) : o.wp P a w next Q := by
  obtain ⟨i, v, hi, hz, hs, _, hr, hc⟩ := okZero_sound (w := w) (A := A) hz
  simp only [szOf, Option.map_eq_some_iff] at hsz
  obtain ⟨inf, hinf, rfl⟩ := hsz
  obtain ⟨cs', vs', g1, g2, g3, g4⟩ := fill_sound h _ ps.toList qs z v.cells _ (arrParts_ok h0 _ _ hq) hs hr hv
  refine fin (v := .agg vs') h hd hN ?_ (.agg _ _ g2 g3) trivial g4 hn
  have hpe : (ps.map fun x => (x.1, a.eval x.2)).toList = ps.toList.map fun p => (p.1, a.eval p.2) := by simp
  simp only [execOp, hop, Instr.build, zeroValue, sizeOf, typeInfo, Sem.run_bind, run_program, Result.andThen_ok, hi, hinf, Sem.run_pure, hz, run_underlying ht, hpe, g1]

end
end Go.Avm

namespace Go.Avm
open Go.RowKit

section
variable {P : Program} {N : Nat} {s : St} {a : Act} {w : World} {A : Area} {sp : Sp} {K : St → Prop} {next : Act → World → Prop} {Q : Exit → Act → World → Prop}
  {o : Oper} {d : Nat}

theorem flatMap_set (sz : Nat) (xs : List AV) (i : Nat) (y : AV) (h : ∀ x ∈ xs, x.cells.length = sz) (hy : y.cells.length = sz) (hi : i < xs.length) :
    (xs.set i y).flatMap AV.cells = splice (xs.flatMap AV.cells) (i * sz) y.cells := by
  have hset : ∀ x ∈ xs.set i y, x.cells.length = sz := by
    intro x hx
    rcases List.mem_or_eq_of_mem_set hx with hx | rfl
    · exact h x hx
    · exact hy
  have hmul : (i + 1) * sz ≤ xs.length * sz := Nat.mul_le_mul_right _ hi
  rw [Nat.add_mul, Nat.one_mul] at hmul
  have hl1 := flat_len sz xs h
  have hl2 := flat_len sz _ hset
  rw [List.length_set] at hl2
  apply List.ext_getElem?
  intro j
  by_cases hj : j < xs.length * sz
  · have key : ((xs.set i y).flatMap AV.cells).getD j .any = (splice (xs.flatMap AV.cells) (i * sz) y.cells).getD j .any := by
      rw [splice_getD _ _ _ _ (by omega), hy]
      have hsz0 : 0 < sz := by
        rcases Nat.eq_zero_or_pos sz with e | e
        · subst e; simp at hj
        · exact e
      have ej : j = j / sz * sz + j % sz := by rw [Nat.mul_comm]; exact (Nat.div_add_mod j sz).symm
      have hq : j / sz < xs.length := Nat.div_lt_of_lt_mul (by rw [Nat.mul_comm]; exact hj)
      have hm := Nat.mod_lt j hsz0
      have e1 := flatMap_at AV.cells sz (xs.set i y) (j / sz) hset (by simpa using hq) (j % sz) .any .any hm
      have e2 := flatMap_at AV.cells sz xs (j / sz) h hq (j % sz) .any .any hm
      rw [← ej] at e1 e2
      rw [e1]
      by_cases hji : j / sz = i
      · rw [if_pos (by rw [← hji]; omega)]
        have e3 : (xs.set i y).getD (j / sz) .any = y := by rw [List.getD_eq_getElem?_getD, hji, List.getElem?_set_self hi]; rfl
        have e4 : j - i * sz = j % sz := by rw [← hji]; omega
        rw [e3, e4]
      · have hni : ¬ (i * sz ≤ j ∧ j < i * sz + sz) := by
          rintro ⟨h1, h2⟩
          have h3 : i ≤ j / sz := (Nat.le_div_iff_mul_le hsz0).2 h1
          have h4 : j / sz < i + 1 := Nat.div_lt_of_lt_mul (by rw [Nat.mul_comm, Nat.add_mul, Nat.one_mul]; exact h2)
          omega
        rw [if_neg hni, e2]
        have e3 : (xs.set i y).getD (j / sz) .any = xs.getD (j / sz) .any := by
          rw [List.getD_eq_getElem?_getD, List.getElem?_set_ne (by omega), List.getD_eq_getElem?_getD]
        rw [e3]
    simp only [List.getD_eq_getElem?_getD] at key
    rw [List.getElem?_eq_getElem (by omega), List.getElem?_eq_getElem (by rw [splice_len]; omega)] at key ⊢
    simpa using key
  · rw [List.getElem?_eq_none (by omega), List.getElem?_eq_none (by rw [splice_len]; omega)]

theorem fillS_fillK (e : Nat → AV) (sz : Nat) : ∀ (ps : List (Nat × MArg)) (xs : List AV) (k : List AV → Prop), (∀ x ∈ xs, x.cells.length = sz) → (∀ x ∈ xs, x.cells.all AV.cell1 = true) → fillS e sz xs ps k →
    fillK e (xs.flatMap AV.cells) (ps.map fun p => (p.1 * sz, sz, p.2)) (fun cs => ∃ xs', cs = xs'.flatMap AV.cells ∧ xs'.length = xs.length ∧ (∀ x ∈ xs', x.cells.length = sz) ∧ (∀ x ∈ xs', x.cells.all AV.cell1 = true) ∧ k xs')
  | [], xs, k, h1, h2, hk => ⟨xs, rfl, rfl, h1, h2, hk⟩
  | (i, m) :: ps, xs, k, h1, h2, hk => by
    obtain ⟨hl, hc, hi, hk⟩ := hk
    have hmul : (i + 1) * sz ≤ xs.length * sz := Nat.mul_le_mul_right _ hi
    rw [Nat.add_mul, Nat.one_mul] at hmul
    have hy : (m.ev e).erase.cells.length = sz := by rw [cells_erase]; simpa using hl
    have hyc : (m.ev e).erase.cells.all AV.cell1 = true := by
      rw [cells_erase, List.all_map]
      refine List.all_eq_true.2 fun x hx => ?_
      have := (List.all_eq_true.1 hc) x hx
      cases x <;> first | exact this | rfl
    refine ⟨hl, by rw [flat_len sz xs h1]; omega, ?_⟩
    have := fillS_fillK e sz ps (xs.set i (m.ev e).erase) k (fun x hx => (List.mem_or_eq_of_mem_set hx).elim (h1 x) (fun e => e ▸ hy)) (fun x hx => (List.mem_or_eq_of_mem_set hx).elim (h2 x) (fun e => e ▸ hyc)) hk
    rw [flatMap_set sz xs i _ h1 hy hi, cells_erase] at this
    simpa using this

theorem slcParts_ok {e : TypeId} {sz : Nat} (h0 : 0 < sz) : ∀ (ps : List (Nat × Operand)) (qs : List (Nat × MArg)), slcParts P e ps = some qs → PartsOK (fun i => some (i * sz, sz)) ps (qs.map fun p => (p.1 * sz, sz, p.2))
  | [], qs, h => by injection h with h; subst h; trivial
  | (i, x) :: ps, qs, h => by
    simp only [slcParts] at h
    split at h
    · rename_i y ys h1 h2
      injection h with h; subst h
      exact ⟨argS_of h1, rfl, h0, slcParts_ok h0 ps ys h2⟩
    · cases h

theorem rep_getD (z : List Value) (hz : 0 < z.length) (n i : Nat) (hi : i < n * z.length) : (Array.map (fun k => (z.toArray)[k % z.toArray.size]!) (Array.range (n * z.length))).getD i undef = z.getD (i % z.length) undef := by
  have hm := Nat.mod_lt i hz
  simp only [Array.getD_eq_getD_getElem?]
  rw [Array.getElem?_eq_getElem (by simpa using hi)]
  simp [hm, List.getD_eq_getElem?_getD]

theorem s_mkS {t e : TypeId} {len sz : Nat} {ps : Array (Nat × Operand)} {qs : List (Nat × MArg)} {z : List AV} (hop : o.op = .buildSlice t len ps) (hd : o.dst = some d) (hN : d < N)
    (hz : okZero P e z = true) (ht : P.underlying t = some (.slice e)) (hsz : szOf P e = some sz) (h0 : 0 < sz) (hbig : len * sz ≤ 16777216) (hq : slcParts P e ps.toList = some qs)
    (h : RS N s a w A sp) (hv : vc1 P (.mkS d len sz z qs) s K) (hn : Next s w A sp N K next) : o.wp P a w next Q := by
  obtain ⟨i, v, hi, hz, hs, hzl, hr, hc⟩ := okZero_sound (w := w) (A := A) hz
  simp only [szOf, Option.map_eq_some_iff] at hsz
  obtain ⟨inf, hinf, rfl⟩ := hsz
  rw [hi] at hinf; injection hinf with hinf; subst hinf
  -- the zero element
  have hz1 : (if i.size = 1 then z.getD 0 .any else .agg z).cells = z := by
    split
    · rename_i e1
      match z, (show z.length = 1 by omega), hc with
      | [x], _, hc =>
        have := (hc x (by simp)).1
        simp only [List.getD_eq_getElem?_getD, List.getElem?_cons_zero, Option.getD_some]
        cases x <;> first | rfl | cases this
    · rfl
  generalize hze : (if i.size = 1 then z.getD 0 AV.any else AV.agg z) = ze at hz1
  have hzc : ze.cells.all AV.cell1 = true := by rw [hz1]; exact List.all_eq_true.2 fun x hx => (hc x hx).1
  simp only [vc1, hze] at hv
  have hrep1 : ∀ x ∈ List.replicate len ze, x.cells.length = i.size := by intro x hx; rw [List.eq_of_mem_replicate hx, hz1, hzl]
  have hrep2 : ∀ x ∈ List.replicate len ze, x.cells.all AV.cell1 = true := by intro x hx; rw [List.eq_of_mem_replicate hx]; exact hzc
  have hk := fillS_fillK s.env i.size qs (List.replicate len ze) _ hrep1 hrep2 hv
  -- the cells before the parts are laid
  have hvz : v.cells.size = i.size := by omega
  have hflat : ((List.replicate len ze).flatMap AV.cells).length = len * i.size := by rw [flat_len i.size _ hrep1]; simp
  have hcell0 : ∀ k, RV w A (((List.replicate len ze).flatMap AV.cells).getD k .any) ((Array.map (fun k => v.cells[k % v.cells.size]!) (Array.range (len * i.size))).getD k undef) := by
    intro k
    by_cases hk : k < len * i.size
    · have hkd : k / i.size < len := Nat.div_lt_of_lt_mul (by rw [Nat.mul_comm]; exact hk)
      have e1 := flatMap_at AV.cells i.size (List.replicate len ze) (k / i.size) hrep1 (by simpa using hkd) (k % i.size) .any .any (Nat.mod_lt _ h0)
      have ek : k / i.size * i.size + k % i.size = k := by rw [Nat.mul_comm]; exact Nat.div_add_mod k i.size
      rw [ek] at e1
      rw [e1]
      have e2 : (List.replicate len ze).getD (k / i.size) .any = ze := by
        rw [List.getD_eq_getElem?_getD, List.getElem?_replicate, if_pos hkd]; rfl
      rw [e2, hz1]
      have e3 := rep_getD v.cells.toList (by simpa [hvz] using h0) len k (by simpa [hvz] using hk)
      simp only [Array.length_toList, Array.toArray_toList, hvz] at e3
      rw [hvz, e3]
      have := hr (k % i.size)
      simpa [List.getD_eq_getElem?_getD, Array.getD_eq_getD_getElem?] using this
    · rw [List.getD_eq_getElem?_getD, List.getElem?_eq_none (by omega)]; exact .any _
  obtain ⟨cs', vs', g1, g2, g3, xs', rfl, gl, gs, gc, gk⟩ := fill_sound h _ ps.toList _ ((List.replicate len ze).flatMap AV.cells) (Array.map (fun k => v.cells[k % v.cells.size]!) (Array.range (len * i.size))) _ (slcParts_ok h0 _ _ hq) (by simp [hflat]) hcell0 hk
  rw [List.length_replicate] at gl
  have hfl := flat_len i.size xs' gs
  have hq0 : d + 1 ≠ 0 := by omega
  obtain ⟨A', sp', k1, k2, k3, k4⟩ := app_new (h.dem (d + 1)) (xs := xs') (ys := []) (sz := i.size) e vs'.toList [] [] (d + 1) len hq0 (dem_env_ne _ _ hq0) (dem_loc_ne _ _ hq0) gs (by simp) gc (by simp)
    (by simp; omega) (by simp) (fun j => by have := g3 j; simpa [List.getD_eq_getElem?_getD, Array.getD_eq_getD_getElem?] using this) (by simp; exact .any _) (by simp; omega) (by simp [gl]) (by
      simp only [List.length_nil, Nat.add_zero, gl]
      have : len * 1 ≤ len * i.size := Nat.mul_le_mul_left _ h0
      omega)
  simp only [List.append_nil, Array.toArray_toList, List.length_nil, Nat.add_zero] at k1 k2 k3 k4
  rw [gl] at k3 k4
  refine fin' k1 ((Ev.dem (d + 1)).trans k2) hd hN ?_ k3 k4 gk hn
  have hpe : (ps.map fun x => (x.1, a.eval x.2)).toList = ps.toList.map fun p => (p.1, a.eval p.2) := by simp
  have hnb : ¬ (len * i.size > 2 ^ 24) := by omega
  by_cases hl0 : len * i.size = 0
  · have hl00 : len = 0 := by rcases Nat.mul_eq_zero.1 hl0 with e | e; exact e; omega
    subst hl00
    have e0 : Array.map (fun k => v.cells[k % v.cells.size]!) (Array.range (0 * i.size)) = #[] := by simp
    rw [e0] at g1
    have hb : (Instr.buildSlice t 0 (ps.map fun x => (x.1, a.eval x.2))).run P w = .ok (.slice (some ⟨w.heap.size, 0, none⟩) 0 0) (w.alloc (.cells vs' e)) := by
      unfold Instr.buildSlice
      simp only [sizeOf, typeInfo, Sem.run_bind, run_program, Result.andThen_ok, hi, Sem.run_pure, run_underlying ht, hpe, Nat.zero_mul, Nat.not_lt_zero, gt_iff_lt, if_false, if_true]
      have e1 : Array.map (fun k => (#[] : Array Value)[k % (#[] : Array Value).size]!) (Array.range 0) = #[] := by simp
      rw [e1, g1]
      rfl
    simp only [execOp, hop, Sem.run_bind, hb, Result.andThen_ok, Sem.run_pure]
  · simp only [execOp, hop, Instr.buildSlice, zeroValue, sizeOf, typeInfo, Sem.run_bind, run_program, Result.andThen_ok, hi, hz, Sem.run_pure, run_underlying ht, hpe, hnb, if_false, hl0, g1, newRow, run_newObj]
    rfl

end
end Go.Avm

namespace Go.Avm
open Go.RowKit

section
variable {P : Program} {N : Nat} {s : St} {a : Act} {w : World} {A : Area} {sp : Sp} {K : St → Prop} {next : Act → World → Prop} {Q : Exit → Act → World → Prop}
  {o : Oper} {d : Nat}

theorem eqFields_run (depth : Nat) (xs ys : Array Value) (as bs : List AV) (hx : xs.size = as.length) (hy : ys.size = bs.length)
    (hrx : ∀ i, RV w A (as.getD i .any) (xs.getD i undef)) (hry : ∀ i, RV w A (bs.getD i .any) (ys.getD i undef)) : ∀ (fs : List Field) (ks : List Bool) (k : Nat) (q : Bool),
    flatFields P ks k fs = true → as.length = k + fs.length → bs.length = k + fs.length → eqCells ks (as.drop k) (bs.drop k) = some q →
    (Op.eqFields (depth + 1) xs ys fs).run P w = .ok q w
  | [], [], k, q, _, h1, h2, he => by
    rw [List.drop_of_length_le (by simp at h1; omega), List.drop_of_length_le (by simp at h2; omega)] at he
    injection he with he; subst he; rfl
  | [], _ :: _, _, _, hf, _, _, _ => by cases hf
  | _ :: _, [], _, _, hf, _, _, _ => by cases hf
  | f :: fs, kq :: ks, k, q, hf, h1, h2, he => by
    simp only [List.length_cons] at h1 h2
    simp only [flatFields, Bool.and_eq_true, bne_iff_ne, beq_iff_eq] at hf
    obtain ⟨⟨⟨hn, hoff⟩, ht⟩, hfs⟩ := hf
    have hk1 : k < as.length := by omega
    have hk2 : k < bs.length := by omega
    rw [List.drop_eq_getElem_cons hk1, List.drop_eq_getElem_cons hk2] at he
    have r1 := hrx k
    have r2 := hry k
    rw [List.getD_eq_getElem?_getD, List.getElem?_eq_getElem hk1, Option.getD_some] at r1
    rw [List.getD_eq_getElem?_getD, List.getElem?_eq_getElem hk2, Option.getD_some] at r2
    have e1 : xs[k]? = some (xs.getD k undef) := by rw [Array.getD_eq_getD_getElem?, Array.getElem?_eq_getElem (by omega)]; rfl
    have e2 : ys[k]? = some (ys.getD k undef) := by rw [Array.getD_eq_getD_getElem?, Array.getElem?_eq_getElem (by omega)]; rfl
    have hagg : (isAgg f.type).run P w = .ok false w := by
      unfold isAgg
      cases hu : P.underlying f.type with
      | none => rw [hu] at ht; cases kq <;> cases ht
      | some dd => rw [hu] at ht; rw [Sem.run_bind, run_underlying hu]; cases kq <;> cases dd <;> first | rfl | cases ht
    have p1 : (part f.type xs f.offset).run P w = .ok (xs.getD k undef) w := by
      generalize xs.getD k undef = v at e1
      simp [part, Sem.run_bind, hagg, hoff, e1]
    have p2 : (part f.type ys f.offset).run P w = .ok (ys.getD k undef) w := by
      generalize ys.getD k undef = v at e2
      simp [part, Sem.run_bind, hagg, hoff, e2]
    have rec' := eqFields_run depth xs ys as bs hx hy hrx hry fs ks (k + 1)
    generalize as[k] = x at r1 he
    generalize bs[k] = y at r2 he
    simp only [Op.eqFields, hn, ne_eq, not_false_eq_true, if_true, Sem.run_bind, p1, p2, Result.andThen_ok]
    generalize xs.getD k undef = vx at r1
    generalize ys.getD k undef = vy at r2
    cases hu : P.underlying f.type with
    | none => rw [hu] at ht; cases kq <;> cases ht
    | some dd =>
      rw [hu] at ht
      unfold eqCells at he
      split at he
      · rename_i e _ _; cases e
      · rename_i ks' kk p xs' kk' p' ys' e2 e3 e4
        injection e2 with e2 e7; injection e3 with e3 e5; injection e4 with e4 e6
        subst e2 e3 e4 e5 e6 e7
        have v1 := r1.inv_int; have v2 := r2.inv_int
        subst v1 v2
        split at he
        · rename_i hkk
          subst hkk
          simp only [Option.map_eq_some_iff] at he
          obtain ⟨q', hq', rfl⟩ := he
          have := rec' q' hfs (by omega) (by omega) hq'
          have he' : (Op.equalIn (depth + 1) f.type (.int kk p) (.int kk p')).run P w = .ok (p == p') w := by
            cases dd <;> first | (cases ht; done) | skip
            exact run_equalIn_int w depth f.type kk _ p p' hu
          rw [he', Result.andThen_ok]
          cases hpp : (p == p') <;> simp [this]
        · cases he
      · rename_i ks' p xs' p' ys' e2 e3 e4
        injection e2 with e2 e7; injection e3 with e3 e5; injection e4 with e4 e6
        subst e2 e3 e4 e5 e6 e7
        have v1 := r1.inv_bool; have v2 := r2.inv_bool
        subst v1 v2
        simp only [Option.map_eq_some_iff] at he
        obtain ⟨q', hq', rfl⟩ := he
        have := rec' q' hfs (by omega) (by omega) hq'
        have he' : (Op.equalIn (depth + 1) f.type (.bool p) (.bool p')).run P w = .ok (p == p') w := by
          cases dd <;> first | (cases ht; done) | skip
          exact run_equalIn_bool w depth f.type p p' hu
        rw [he', Result.andThen_ok]
        cases hpp : (p == p') <;> simp [this]
      · cases he

theorem eqCells_len : ∀ {ks : List Bool} {as bs : List AV} {q : Bool}, eqCells ks as bs = some q → as.length = bs.length ∧ as.length = ks.length := by
  intro ks as bs q h
  induction ks generalizing as bs q with
  | nil =>
    unfold eqCells at h
    split at h
    · exact ⟨rfl, rfl⟩
    · rename_i e; cases e
    · rename_i e; cases e
    · cases h
  | cons k ks ih =>
    unfold eqCells at h
    split at h
    · rename_i e; cases e
    · rename_i ks' _ _ _ _ _ _ e
      injection e with _ e; subst e
      split at h
      · simp only [Option.map_eq_some_iff] at h
        obtain ⟨q', hq', _⟩ := h
        have := ih hq'
        simp [this.1, ← this.2]
      · cases h
    · rename_i ks' _ _ _ _ e
      injection e with _ e; subst e
      simp only [Option.map_eq_some_iff] at h
      obtain ⟨q', hq', _⟩ := h
      have := ih hq'
      simp [this.1, ← this.2]
    · cases h

theorem intE_spec {e : TypeId} (h : intE P e = true) : ∃ kd i, P.underlying e = some (.int kd) ∧ P.info? e = some i ∧ P.cellsOf e = 1 := by
  unfold intE at h
  split at h
  · rename_i kd i h1 h2
    exact ⟨kd, i, h1, h2, by simpa [Program.cellsOf, h2] using h⟩
  · cases h

theorem eqItems_run {e : TypeId} {kd : IntKind} (d : Nat) (he : P.underlying e = some (.int kd)) (vxs vys : Array Value) (xs ys : List AV) (hs1 : vxs.size = xs.length) (hs2 : vys.size = ys.length)
    (hr1 : ∀ i, RV w A (xs.getD i .any) (vxs.getD i undef)) (hr2 : ∀ i, RV w A (ys.getD i .any) (vys.getD i undef)) : ∀ (m j : Nat) (q : Bool), j + m = xs.length → ys.length = xs.length → eqCells (List.replicate m false) (xs.drop j) (ys.drop j) = some q →
    (Op.eqItems (d + 1) e 1 vxs vys (List.range' j m)).run P w = .ok q w
  | 0, j, q, h1, h2, h => by
    rw [List.drop_of_length_le (by omega), List.drop_of_length_le (by omega)] at h
    simp only [List.replicate, eqCells] at h
    injection h with h; subst h
    rfl
  | m + 1, j, q, h1, h2, h => by
    have hj : j < xs.length := by omega
    have hj2 : j < ys.length := by omega
    rw [List.drop_eq_getElem_cons hj, List.drop_eq_getElem_cons hj2, List.replicate_succ] at h
    have g1 := hr1 j; have g2 := hr2 j
    rw [List.getD_eq_getElem?_getD, List.getElem?_eq_getElem hj, Option.getD_some] at g1
    rw [List.getD_eq_getElem?_getD, List.getElem?_eq_getElem hj2, Option.getD_some] at g2
    have e1 : vxs[j]? = some (vxs.getD j undef) := by rw [Array.getD_eq_getD_getElem?, Array.getElem?_eq_getElem (by omega)]; rfl
    have e2 : vys[j]? = some (vys.getD j undef) := by rw [Array.getD_eq_getD_getElem?, Array.getElem?_eq_getElem (by omega)]; rfl
    have hagg : (isAgg e).run P w = .ok false w := by
      unfold isAgg
      rw [Sem.run_bind, run_underlying he]
      rfl
    have p1 : (part e vxs (j * 1)).run P w = .ok (vxs.getD j undef) w := by simp only [part, Sem.run_bind, hagg, Nat.mul_one, e1, Result.andThen_ok]; rfl
    have p2 : (part e vys (j * 1)).run P w = .ok (vys.getD j undef) w := by simp only [part, Sem.run_bind, hagg, Nat.mul_one, e2, Result.andThen_ok]; rfl
    generalize xs[j] = x at *
    generalize ys[j] = y at *
    unfold eqCells at h
    split at h
    · rename_i e; cases e
    · rename_i ks k a xs' k' b ys' e3 e4 e5
      injection e3 with _ e3
      injection e4 with e4 e6
      injection e5 with e5 e7
      subst e3 e4 e5 e6 e7
      split at h
      · rename_i hk; subst hk
        simp only [Option.map_eq_some_iff] at h
        obtain ⟨q', hq', rfl⟩ := h
        have v1 := g1.inv_int; have v2 := g2.inv_int
        rw [v1] at p1; rw [v2] at p2
        have heq := run_equalIn_int w d e k kd a b he
        have ih := eqItems_run d he vxs vys xs ys hs1 hs2 hr1 hr2 m (j + 1) q' (by omega) h2 hq'
        rw [List.range'_succ]
        simp only [Op.eqItems, Sem.run_bind, p1, p2, Result.andThen_ok, heq]
        cases hab : (a == b)
        · simp
        · simpa using ih
      · cases h
    · rename_i e3 _ _; injection e3 with e3; cases e3
    · cases h

theorem eqArray_run {k e : TypeId} {n : Nat} (hu : P.underlying k = some (.array n e)) (hE : intE P e = true) {xs ys : List AV} {vxs vys : Array Value} (hn : xs.length = n) (hs1 : vxs.size = xs.length) (hs2 : vys.size = ys.length)
    (hr1 : ∀ i, RV w A (xs.getD i .any) (vxs.getD i undef)) (hr2 : ∀ i, RV w A (ys.getD i .any) (vys.getD i undef)) {q : Bool} (he : eqCells (List.replicate xs.length false) xs ys = some q) : (Op.equal k (.agg vxs) (.agg vys)).run P w = .ok q w := by
  obtain ⟨kd, i, h1, h2, h3⟩ := intE_spec hE
  show (Op.equalIn (9999 + 1) k _ _).run P w = _
  rw [run_equalIn_array (w := w) 9999 vxs vys hu h2, h3, List.range_eq_range']
  have hl := (eqCells_len he).1
  rw [← hn]
  exact eqItems_run 9998 h1 vxs vys xs ys hs1 hs2 hr1 hr2 xs.length 0 q (by omega) hl.symm (by simpa using he)

theorem s_binA {t t' : TypeId} {op : BinOp} {neg : Bool} {n : List Bool} {x y : Operand} {mx my : MArg} (hop : o.op = .binOp op t x y t') (hneg : op = (if neg then .neq else .eql)) (hd : o.dst = some d) (hN : d < N)
    (hx : argOf x = some mx) (hy : argOf y = some my) (ht : eqKinds P t = some n)
    (h : RS N s a w A sp) (hv : vc1 P (.binA d neg n mx my) s K) (hn : Next s w A sp N K next) : o.wp P a w next Q := by
  have h1 := (argOf_sound h hx).1
  have h2 := (argOf_sound h hy).1
  have arr : ∀ (m : Nat) (e : TypeId), P.underlying t = some (.array m e) → intE P e = true → P.eqGuardType P.depth t = false → List.replicate m false = n → o.wp P a w next Q := by
    intro m e hu hE hg ht
    simp only [vc1] at hv
    split at hv
    · rename_i as bs e1 e2
      obtain ⟨l1, l2, q, hq, hK⟩ := hv
      rw [e1] at h1; rw [e2] at h2
      generalize hv1 : a.eval x = v1 at h1
      generalize hv2 : a.eval y = v2 at h2
      cases h1 with
      | agg _ xs hs1 hr1 => cases h2 with
        | agg _ ys hs2 hr2 =>
          have hl : as.length = m := by rw [l1, ← ht]; simp
          have heq := eqArray_run (w := w) hu hE hl hs1 hs2 hr1 hr2 (q := q) (by rw [hl, ht]; exact hq)
          have hgu : (eqGuard op t x y (.agg xs) (.agg ys)).run P w = .ok () w := by
            unfold eqGuard
            subst hneg
            cases neg <;> simp [hg]
          refine fin (v := .bool (if neg then !q else q)) h hd hN ?_ (.lit _ rfl) trivial hK hn
          subst hneg
          cases neg <;> simp only [Bool.false_eq_true, if_false, if_true] at hgu hop <;> simp [execOp, hop, hv1, hv2, hgu, binOp, heq]
    · exact hv.elim
  unfold eqKinds at ht
  split at ht
  · rename_i m e hu
    split at ht
    · rename_i hc
      injection ht with ht
      simp only [Bool.and_eq_true, Bool.not_eq_true'] at hc
      exact arr m e hu hc.1 hc.2 ht
    · cases ht
  unfold eqStruct at ht
  split at ht
  · rename_i fs hu
    split at ht
    · rename_i hc
      injection ht with ht
      simp only [Bool.and_eq_true, Bool.not_eq_true'] at hc
      obtain ⟨⟨hf, hst⟩, hg⟩ := hc
      simp only [vc1] at hv
      split at hv
      · rename_i as bs e1 e2
        obtain ⟨l1, l2, q, hq, hK⟩ := hv
        rw [e1] at h1; rw [e2] at h2
        generalize hv1 : a.eval x = v1 at h1
        generalize hv2 : a.eval y = v2 at h2
        cases h1 with
        | agg _ xs hs1 hr1 => cases h2 with
          | agg _ ys hs2 hr2 =>
            have hfo : P.fieldsOf t = fs := by simp [Program.fieldsOf, hu]
            have heq : (Op.equal t (.agg xs) (.agg ys)).run P w = .ok q w := by
              show (Op.equalIn (9999 + 1) t _ _).run P w = _
              rw [run_equalIn_struct w 9999 t xs ys (by rw [hfo]; exact hu) hst, hfo]
              exact eqFields_run (P := P) (w := w) 9998 xs ys as bs hs1 hs2 hr1 hr2 fs.toList (kindsOf P fs.toList) 0 q hf (by rw [l1, ← ht]; simp [kindsOf]) (by rw [l2, ← ht]; simp [kindsOf]) (by rw [ht]; simpa using hq)
            have hgu : (eqGuard op t x y (.agg xs) (.agg ys)).run P w = .ok () w := by
              unfold eqGuard
              subst hneg
              cases neg <;> simp [hg]
            refine fin (v := .bool (if neg then !q else q)) h hd hN ?_ (.lit _ rfl) trivial hK hn
            subst hneg
            cases neg <;> simp only [Bool.false_eq_true, if_false, if_true] at hgu hop <;> simp [execOp, hop, hv1, hv2, hgu, binOp, heq]
      · exact hv.elim
    · cases ht
  · cases ht

theorem RS.call (h : RS N s a w A sp) {w' : World} {A' : Area} (hf : Fr w w') (h1 : ∀ b o, A b o → A' b o) (h2 : ∀ b o, A' b o → A b o ∨ (w.heap.size ≤ b ∧ b < w'.heap.size)) :
    RS N s a w' A' sp ∧ Ev w A (live s.loc sp) w' A' (live s.loc sp) := by
  obtain ⟨f1, f2, f3, f4, f5⟩ := hf
  have hcell : ∀ b o, b < w.heap.size → w'.cell? ⟨b, o, none⟩ = w.cell? ⟨b, o, none⟩ := fun b o hb => World.cell?_of_block (f5 b hb)
  refine ⟨h.world (fun b o v ha hv => (hcell b o (h.av b o ha).1).trans hv) h1 (.blocks h1 fun b _ hb => f5 b hb) (fun b cs hb => f5 b (h.loc_lt hb)) (fun r hr => ?_) (fun b o ha => ?_), f1, f2, f3, f4, fun b o hb hl => ⟨hcell b o hb, hl⟩, fun b hb _ => f5 b hb, h1, fun b o ha => (h2 b o ha).elim .inl fun e => .inr (.inr e.1)⟩
  · obtain ⟨⟨vs, T, hv, hs⟩, _⟩ := h.spb r hr
    exact ⟨vs, T, (f5 _ (lt_of_heap hv)).trans hv, hs⟩
  · rcases h2 b o ha with e | e
    · exact ⟨Nat.lt_of_lt_of_le (h.av b o e).1 f4, (h.av b o e).2⟩
    · exact ⟨e.2, fun hl => by have := h.live_lt hl; omega⟩

theorem call_sound {f : FuncId} {vs : Array Value} {xs : List AV} {r : AV} (hp : PCall P f xs r) (h : RS N s a w A sp) (hd : o.dst = some d) (hN : d < N)
    (hs : vs.size = xs.length) (hr : ∀ i, RV w A (xs.getD i .any) (vs.getD i undef)) (hrun : (execOp a.eval o).run P w = (callFunc f vs).run P w)
    (hK : K (s.set d r.erase)) (hn : Next s w A sp N K next) : o.wp P a w next Q := by
  unfold Oper.wp
  have hcf : (callFunc f vs).run P w = .ok (.enter f vs) w := by
    have := hp.1
    unfold isFunc at this
    split at this
    · rename_i fn hfn
      simp only [Bool.and_eq_true, bne_iff_ne, ne_eq] at this
      unfold callFunc
      simp only [Sem.run_bind, run_program, Result.andThen_ok, hfn]
      have hb : fn.body.isNone = false := by cases hfb : fn.body with
        | none => rw [hfb] at this; simp at this
        | some c => rfl
      have hnm : (fn.name == "runtime.NumGoroutine") = false := by simpa using this.1
      rw [hnm, hb]
      rfl
    · cases this
  rw [hrun, hcf, Oper.upon_enter]
  refine (hp.2 w A vs (fun b o ha => (h.av b o ha).1) hs hr).mono ?_
  rintro e w' ⟨v, A', rfl, hf, g1, g2, g3⟩
  obtain ⟨k1, k2⟩ := h.call hf g1 g2
  rw [hd]
  exact hn _ _ _ _ _ hK (k1.put hN g3.erase .erase) k2

theorem s_call {f : FuncId} {xs : Array Operand} {ts : Array TypeId} {ms : List MArg} (hop : o.op = .call { callee := .value (.func f), args := xs, argTypes := ts }) (hd : o.dst = some d) (hN : d < N) (hx : argsOfT P xs.toList ts.toList = some ms)
    (h : RS N s a w A sp) (hv : vc1 P (.call d f ms) s K) (hn : Next s w A sp N K next) : o.wp P a w next Q := by
  obtain ⟨a1, a2⟩ := argsT_sound h hx
  obtain ⟨r, hp, hK⟩ := hv
  refine call_sound (vs := xs.map a.eval) hp h hd hN (by simp [a1]) (fun i => ?_) ?_ hK hn
  · have := a2 i
    simpa [List.getD_eq_getElem?_getD, Array.getD_eq_getD_getElem?] using this
  · simp [execOp, hop, resolve, Act.eval, Deferred.ofValue, invoke]

theorem getD_append3 {α : Type} (x y z : List α) (i : Nat) (d : α) : (x ++ y ++ z).getD i d = if i < x.length then x.getD i d else if i - x.length < y.length then y.getD (i - x.length) d else z.getD (i - x.length - y.length) d := by
  simp only [List.getD_eq_getElem?_getD]
  split
  · rw [List.append_assoc, List.getElem?_append_left ‹_›]
  · split
    · rw [List.append_assoc, List.getElem?_append_right (by omega), List.getElem?_append_left ‹_›]
    · rw [List.getElem?_append_right (by simp; omega)]
      simp only [List.length_append]
      rw [Nat.sub_sub]

theorem s_callv {t : Tmp} {xs : Array Operand} {ts : Array TypeId} {ms : List MArg} (hop : o.op = .call { callee := .value (.tmp t), args := xs, argTypes := ts }) (hd : o.dst = some d) (hN : d < N) (hx : argsOfT P xs.toList ts.toList = some ms)
    (h : RS N s a w A sp) (hv : vc1 P (.callv d (.t t) ms) s K) (hn : Next s w A sp N K next) : o.wp P a w next Q := by
  obtain ⟨a1, a2⟩ := argsT_sound h hx
  have h1 := (h.env t).1
  simp only [vc1] at hv
  split at hv
  · rename_i f fs cs e1
    obtain ⟨r, hp, hK⟩ := hv
    replace e1 : s.env t = .func (.func f) fs cs := e1
    rw [e1] at h1
    generalize hv0 : a.tmps.getD t undef = v0 at h1
    cases h1 with
    | func _ _ _ vf vc hsf hsc hf hc =>
      refine call_sound (vs := vf ++ xs.map a.eval ++ vc) hp h hd hN (by simp [a1, hsf, hsc]) (fun i => ?_) ?_ hK hn
      · have e2 := getD_append3 vf.toList (xs.map a.eval).toList vc.toList i undef
        have e3 := getD_append3 fs (ms.map fun x => (x.ev s.env).erase) cs i .any
        have e4 : (vf ++ xs.map a.eval ++ vc).getD i undef = (vf.toList ++ (xs.map a.eval).toList ++ vc.toList).getD i undef := by
          simp [List.getD_eq_getElem?_getD, Array.getD_eq_getD_getElem?, Array.getElem?_append, List.getElem?_append]
        rw [e4, e2, e3]
        simp only [Array.length_toList, hsf, Array.size_map, List.length_map, a1]
        split
        · have := hf i
          simpa [List.getD_eq_getElem?_getD, Array.getD_eq_getD_getElem?] using this
        · split
          · have := a2 (i - fs.length)
            simpa [List.getD_eq_getElem?_getD, Array.getD_eq_getD_getElem?] using this
          · have := hc (i - fs.length - xs.size)
            simpa [List.getD_eq_getElem?_getD, Array.getD_eq_getD_getElem?] using this
      · simp [execOp, hop, resolve, Act.eval, hv0, Deferred.ofValue, invoke]
  · exact hv.elim

end
end Go.Avm

namespace Go.Avm
open Go.RowKit

section
variable {P : Program} {N : Nat} {s : St} {a : Act} {w : World} {A : Area} {sp : Sp} {K : St → Prop} {next : Act → World → Prop} {Q : Exit → Act → World → Prop}
  {o : Oper} {d : Nat}

theorem flat_rep (z : List AV) : ∀ (n i : Nat), (List.replicate n z).flatten.getD i .any = if i < n * z.length then z.getD (i % z.length) .any else .any
  | 0, i => by simp
  | n + 1, i => by
    rw [List.replicate_succ, List.flatten_cons]
    by_cases h : i < z.length
    · rw [if_pos (by rw [Nat.add_mul]; omega), Nat.mod_eq_of_lt h]
      simp only [List.getD_eq_getElem?_getD]
      rw [List.getElem?_append_left h]
    · have h' : z.length ≤ i := by omega
      have := flat_rep z n (i - z.length)
      simp only [List.getD_eq_getElem?_getD] at this ⊢
      rw [List.getElem?_append_right h', this]
      have e1 : (i - z.length) % z.length = i % z.length := by
        conv => rhs; rw [← Nat.sub_add_cancel h', Nat.add_mod_right]
      rw [e1]
      by_cases h2 : i < (n + 1) * z.length
      · rw [if_pos h2, if_pos (by rw [Nat.add_mul] at h2; omega)]
      · rw [if_neg h2, if_neg (by rw [Nat.add_mul] at h2; omega)]

theorem flat_rep_len (z : List AV) (n : Nat) : (List.replicate n z).flatten.length = n * z.length := by
  induction n with
  | zero => simp
  | succ n ih => rw [List.replicate_succ, List.flatten_cons, List.length_append, ih, Nat.add_mul]; omega

theorem s_mkM {t e : TypeId} {l c : Operand} {ml mc : MArg} {i : TypeInfo} {z : List AV} (hop : o.op = .makeSlice t l c) (hd : o.dst = some d) (hN : d < N) (ht : P.underlying t = some (.slice e)) (hi : P.info? e = some i)
    (hl : argOf l = some ml) (hc : argOf c = some mc) (hz : okZero P e z = true)
    (h : RS N s a w A sp) (hv : vc1 P (.mkM d ml mc i.size i.bytes z) s K) (hn : Next s w A sp N K next) : o.wp P a w next Q := by
  obtain ⟨i', v, hi', hzv, hs, hsz, hr, hc1⟩ := okZero_sound (w := w) (A := A) hz
  rw [hi] at hi'; injection hi' with hi'; subst hi'
  have h1 := (argOf_sound h hl).1
  have h2 := (argOf_sound h hc).1
  simp only [vc1] at hv
  split at hv
  · rename_i n c e1 e2
    obtain ⟨c1, c2, c3, c4, c5, hK⟩ := hv
    rw [e1] at h1; rw [e2] at h2
    have v1 := h1.inv_int; have v2 := h2.inv_int
    have hcell : ∀ k, RV w A ((List.replicate c.toNat z).flatten.getD k .any) ((madeCells v.cells (c.toNat * i.size)).getD k undef) ∧ OwnOK sp ((List.replicate c.toNat z).flatten.getD k .any) ((madeCells v.cells (c.toNat * i.size)).getD k undef) := by
      intro k
      rw [flat_rep]
      split
      · rename_i hk
        have hz0 : 0 < z.length := by
          rcases Nat.eq_zero_or_pos z.length with e | e
          · rw [e] at hk; simp at hk
          · exact e
        have e3 : (madeCells v.cells (c.toNat * i.size)).getD k undef = v.cells.getD (k % z.length) undef := by
          have hm : k % z.length < v.cells.size := by rw [hs]; exact Nat.mod_lt _ hz0
          unfold madeCells
          rw [Array.getD_eq_getD_getElem?, Array.getElem?_map, Array.getElem?_range, if_pos (by rw [← hsz]; exact hk)]
          simp only [Option.map_some, Option.getD_some]
          rw [Array.getD_eq_getD_getElem?, ← hs, Array.getElem?_eq_getElem (by rw [hs]; rw [hs] at hm; exact hm), getElem!_pos _ _ (by rw [hs]; rw [hs] at hm; exact hm)]
          rfl
        rw [e3]
        exact ⟨hr _, getD_cell1 hc1 _⟩
      · exact ⟨.any _, trivial⟩
    refine fin' (h.allocM (cs := (List.replicate c.toNat z).flatten) e (by rw [size_madeCells, flat_rep_len, hsz]) hcell) (RS.evAllocM _ _) hd hN ?_ (.mslice w.heap.size 0 n.toNat c.toNat i.size (by omega)) trivial (hK _ h.fresh) hn
    have := run_make (P := P) w t e i v ht hi hzv .i64 .i64 n c c1 c2 (by rw [Int.mul_comm]; omega) (by omega)
    simp [execOp, hop, v1, v2, this]
  · exact hv.elim

theorem copy_run {dT sT ty e : TypeId} {i : TypeInfo} {b off dLen dCap : Nat} {sb : Option Addr} {sLen sCap : Nat} {cur : Array Value} {T : TypeId} {cs : List Value} (ht : P.underlying dT = some (.slice e)) (hi : P.info? e = some i)
    (hg : w.heap[b]? = some (.cells cur T (0, 0))) (hn : cs.length = Nat.min sLen dLen * i.size) (hsrc : ∀ q, sb = some q → ∀ j v, cs[j]? = some v → w.cell? (q.add j) = some v) (hsb : sb = none → cs = [])
    (hfit : off + cs.length ≤ cur.size) (h1 : ∀ v ∈ cs, v.oneCell' = true) :
    (Builtin.copy_ #[dT, sT] ty #[.slice (some ⟨b, off, none⟩) dLen dCap, .slice sb sLen sCap]).run P w = .ok (goInt (Nat.min sLen dLen)) (w.setRow b (cur.toList.take off ++ cs ++ cur.toList.drop (off + cs.length)).toArray) := by
  have hst := run_storeCells_at P b off T cs 0 cur w hg (by simpa using hfit) h1
  simp only [Nat.add_zero] at hst
  cases sb with
  | none =>
    have := hsb rfl
    subst this
    simp only [List.append_nil, List.length_nil, Nat.add_zero] at hst hn ⊢
    have hcap : ∀ c, (Builtin.firstCells i.size (Nat.min sLen dLen) (.slice none sLen c)).run P w = .ok #[] w := by
      intro c; simp [Builtin.firstCells]
    simp [Builtin.copy_, run_underlying ht, Builtin.lenOf, sizeOf, typeInfo, hi, hcap, hst]
  | some q =>
    have hl := run_firstCells_some (P := P) w i.size (Nat.min sLen dLen) q sLen sCap cs hn (hsrc q rfl)
    simp [Builtin.copy_, run_underlying ht, Builtin.lenOf, sizeOf, typeInfo, hi, hl, hst]

theorem s_cpyM {t t' e : TypeId} {i : TypeInfo} {x y : Operand} {mx my : MArg} (hop : o.op = .call { callee := .builtin .copy, args := #[x, y], argTypes := #[t, t'] }) (hd : o.dst = some d) (hN : d < N)
    (hx : argOf x = some mx) (hy : argOf y = some my) (ht : P.underlying t = some (.slice e)) (hi : P.info? e = some i)
    (h : RS N s a w A sp) (hv : vc1 P (.cpyM d mx my i.size) s K) (hn : Next s w A sp N K next) : o.wp P a w next Q := by
  have h1 := (argOf_sound h hx).1
  have h2 := (argOf_sound h hy).1
  have hex : ∀ v w', (Builtin.copy_ #[t, t'] o.type #[a.eval x, a.eval y]).run P w = .ok v w' → (execOp a.eval o).run P w = .ok (.value v) w' := by
    intro v w' hr
    simp [execOp, hop, resolve, invoke, builtin, hr]
  simp only [vc1] at hv
  split at hv
  · rename_i b off len cap sz' sz2 ys r e1 e2
    split at hv
    · rename_i cs hb
      obtain ⟨rfl, hs2, hoff, hK⟩ := hv
      rw [e1] at h1; rw [e2] at h2
      obtain ⟨vs, T, hh, hsz, hr⟩ := h.loc b cs hb
      generalize hv0 : a.eval x = v0 at h1 hex
      cases h1 with
      | mslice _ _ _ _ _ hlc =>
        have hY := h2.slice_sz hs2
        generalize hv1 : a.eval y = v1 at hY hex
        -- what is copied
        have main : ∀ (sb : Option Addr) (cp : Nat) (us : List Value), us.length = ys.length * i.size → (∀ q, sb = some q → ∀ j v, us[j]? = some v → w.cell? (q.add j) = some v) → (sb = none → us = []) →
            (∀ j, RV w A ((ys.flatMap AV.cells).getD j .any) (us.getD j undef)) → (∀ x ∈ ys, x.cells.length = i.size) → (∀ x ∈ ys, x.cells.all AV.cell1 = true) → v1 = .slice sb ys.length cp → o.wp P a w next Q := by
          intro sb cp us hul husrc husb hur hysz hy1 he
          subst he
          have hmin : Nat.min ys.length len ≤ ys.length := Nat.min_le_left _ _
          have hmul : Nat.min ys.length len * i.size ≤ ys.length * i.size := Nat.mul_le_mul_right _ hmin
          have hmul2 : Nat.min ys.length len * i.size ≤ len * i.size := Nat.mul_le_mul_right _ (Nat.min_le_right _ _)
          have hcl : (us.take (Nat.min ys.length len * i.size)).length = Nat.min ys.length len * i.size := by simp; omega
          have hfl : ((ys.take (min ys.length len)).flatMap AV.cells) = (ys.flatMap AV.cells).take (min ys.length len * i.size) := flatMap_take AV.cells i.size ys _ hysz
          have hyl : (ys.flatMap AV.cells).length = ys.length * i.size := flat_len _ _ hysz
          have hyc : ((ys.take (min ys.length len)).flatMap AV.cells).length = Nat.min ys.length len * i.size := by rw [hfl, List.length_take, hyl]; exact Nat.min_eq_left hmul
          have h1c : ∀ v ∈ us.take (Nat.min ys.length len * i.size), v.oneCell' = true := by
            intro v hv
            obtain ⟨k, hk, rfl⟩ := List.getElem_of_mem (List.mem_of_mem_take hv)
            have hk' : k < (ys.flatMap AV.cells).length := by omega
            have h3 := hur k
            rw [List.getD_eq_getElem?_getD, List.getElem?_eq_getElem hk', List.getD_eq_getElem?_getD, List.getElem?_eq_getElem hk] at h3
            refine h3.oneCell ?_
            obtain ⟨z, hz, hz2⟩ := List.mem_flatMap.1 (List.getElem_mem hk')
            exact (List.all_eq_true.1 (hy1 z hz)) _ hz2
          have hrun := copy_run (P := P) (w := w) (dT := t) (sT := t') (ty := o.type) (dLen := len) (dCap := cap) (sb := sb) (sLen := ys.length) (sCap := cp) (off := off) ht hi hh hcl
            (fun q hq j v hj => by
              rw [List.getElem?_take] at hj
              split at hj
              · exact husrc q hq j v hj
              · cases hj) (fun hn => by rw [husb hn]; simp) (by rw [hcl]; omega) h1c
          rw [hcl] at hrun
          have hrow : ∀ k, RV w A ((splice cs off (((ys.take (min ys.length len)).flatMap AV.cells).map AV.erase0)).getD k .any) ((vs.toList.take off ++ us.take (Nat.min ys.length len * i.size) ++ vs.toList.drop (off + Nat.min ys.length len * i.size)).toArray.getD k undef) ∧
              OwnOK sp ((splice cs off (((ys.take (min ys.length len)).flatMap AV.cells).map AV.erase0)).getD k .any) ((vs.toList.take off ++ us.take (Nat.min ys.length len * i.size) ++ vs.toList.drop (off + Nat.min ys.length len * i.size)).toArray.getD k undef) := by
            intro k
            have e := row_getD vs (us.take (Nat.min ys.length len * i.size)) off k (by rw [hcl]; omega)
            rw [hcl] at e
            rw [e, splice_getD _ _ _ _ (by rw [List.length_map, hyc]; omega), List.length_map, hyc]
            split
            · rename_i hk
              rw [getD_erase0, hfl]
              have h3 := hur (k - off)
              have hk2 : k - off < min ys.length len * i.size := by have : min ys.length len = Nat.min ys.length len := rfl; rw [this]; omega
              have e3 : ((ys.flatMap AV.cells).take (min ys.length len * i.size)).getD (k - off) .any = (ys.flatMap AV.cells).getD (k - off) .any := by
                simp only [List.getD_eq_getElem?_getD, List.getElem?_take, hk2, if_true]
              have e4 : (us.take (Nat.min ys.length len * i.size)).getD (k - off) undef = us.getD (k - off) undef := by
                have hk3 : k - off < Nat.min ys.length len * i.size := hk2
                simp only [List.getD_eq_getElem?_getD, List.getElem?_take, hk3, if_true]
              rw [e3, e4]
              exact ⟨h3.erase0, .erase0⟩
            · exact hr k
          refine fin' (h.setRow hb hh ?_ hrow) (RS.evSetRow _ _ hb) hd hN (hex _ _ hrun) (.lit _ rfl) trivial hK hn
          rw [splice_len]
          simp only [List.size_toArray, List.length_append, List.length_take, List.length_drop, Array.length_toList]
          have := hcl
          simp only [List.length_take] at this
          omega
        cases hY with
        | nils => exact main none 0 [] (by simp) (fun q hq => by cases hq) (fun _ => rfl) (fun j => by simp; exact .any _) (by simp) (by simp) rfl
        | slice _ _ _ b' off' cap' vs' hszy h1cy hcapy hleny hcy hry =>
          obtain ⟨g1, g2, _, _, _, us, g3, g4, g5⟩ := (RV.slice (w := w) (A := A) i.size ys r b' off' cap' vs' hszy h1cy hcapy hleny hcy hry).cellsOf
          exact main (some ⟨b', off', none⟩) cap' us g3 (fun q hq j v hj => by injection hq with hq; subst hq; rw [Addr.add_lit']; exact (g4 j v hj).1) (fun e => by cases e) g5 g1 g2 rfl
    · exact hv.elim
  · exact hv.elim

end
end Go.Avm

namespace Go.Avm
open Go.RowKit

section
variable {P : Program} {N : Nat} {s : St} {a : Act} {w : World} {A : Area} {sp : Sp} {K : St → Prop} {next : Act → World → Prop} {Q : Exit → Act → World → Prop}
  {o : Oper} {d : Nat}

theorem s_mkM0 {t e : TypeId} {n : Nat} {ps : Array (Nat × Operand)} {i : TypeInfo} {z : List AV} (hop : o.op = .buildSlice t n ps) (hd : o.dst = some d) (hN : d < N) (ht : P.underlying t = some (.slice e)) (hi : P.info? e = some i)
    (hz : okZero P e z = true) (hn0 : n = 0) (hps : ps.isEmpty = true)
    (h : RS N s a w A sp) (hv : vc1 P (.mkM d (.c (.lit (.int .i64 0))) (.c (.lit (.int .i64 0))) i.size i.bytes z) s K) (hn : Next s w A sp N K next) : o.wp P a w next Q := by
  obtain ⟨i', v, hi', hzv, hs, hsz, hr, hc1⟩ := okZero_sound (w := w) (A := A) hz
  rw [hi] at hi'; injection hi' with hi'; subst hi'
  subst hn0
  have hps' : ps = #[] := by simpa using hps
  subst hps'
  have hK : ∀ b, s.loc b = none → K ((s.new b []).set d (.mslice b 0 0 0 i.size)) := fun b hb => hv.2.2.2.2.2 b hb
  have hb : (Instr.buildSlice t 0 #[]).run P w = .ok (.slice (some ⟨w.heap.size, 0, none⟩) 0 0) (w.alloc (.cells #[] e)) := by
    unfold Instr.buildSlice
    simp only [sizeOf, typeInfo, Sem.run_bind, run_program, Result.andThen_ok, hi, Sem.run_pure, run_underlying ht, Nat.zero_mul, Nat.not_lt_zero, gt_iff_lt, if_false, if_true]
    have e1 : Array.map (fun k => (#[] : Array Value)[k % (#[] : Array Value).size]!) (Array.range 0) = #[] := by simp
    rw [e1]
    rfl
  refine fin' (h.allocM (cs := []) (vs := #[]) e rfl (fun k => ⟨by simp; exact .any _, trivial⟩)) (RS.evAllocM _ _) hd hN ?_ (.mslice w.heap.size 0 0 0 i.size (Nat.le_refl _)) trivial (hK _ h.fresh) hn
  have hpe : ((#[] : Array (Nat × Operand)).map fun x => (x.1, a.eval x.2)) = #[] := by simp
  simp only [execOp, hop, hpe, Sem.run_bind, hb, Result.andThen_ok, Sem.run_pure]

theorem zero_rep {v : Value} {z : List AV} {n : Nat} (hs : v.cells.size = z.length) (hr : ∀ k, RV w A (z.getD k .any) (v.cells.getD k undef)) (k : Nat) :
    RV w A ((List.replicate n z).flatten.getD k .any) ((Builtin.zeroCells v.cells n).toList.getD k undef) := by
  rw [flat_rep]
  split
  · rename_i hk
    have hz0 : 0 < z.length := by
      rcases Nat.eq_zero_or_pos z.length with e | e
      · rw [e] at hk; simp at hk
      · exact e
    have hm : k % z.length < v.cells.size := by rw [hs]; exact Nat.mod_lt _ hz0
    have e3 : (Builtin.zeroCells v.cells n).toList.getD k undef = v.cells.getD (k % z.length) undef := by
      unfold Builtin.zeroCells
      rw [List.getD_eq_getElem?_getD, Array.getElem?_toList, Array.getElem?_map, Array.getElem?_range, if_pos (by rw [hs]; exact hk)]
      simp only [Option.map_some, Option.getD_some]
      rw [Array.getD_eq_getD_getElem?, Array.getElem?_eq_getElem hm]
      rw [getElem!_pos _ _ (by rw [hs]; rw [hs] at hm; exact hm)]
      simp only [hs, Option.getD_some]
    rw [e3]
    exact hr _
  · exact .any _

theorem zeroCells_len (v : Value) (n : Nat) : (Builtin.zeroCells v.cells n).toList.length = n * v.cells.size := by simp [Builtin.zeroCells]

theorem s_appM {t e : TypeId} {i : TypeInfo} {z : List AV} {x y : Operand} {mx my : MArg} (hop : o.op = .call { callee := .builtin .append, args := #[x, y], argTypes := #[t, t] }) (hd : o.dst = some d) (hN : d < N)
    (hx : argOf x = some mx) (hy : argOf y = some my) (ht : P.underlying t = some (.slice e)) (hi : P.info? e = some i) (hz : okZero P e z = true)
    (h : RS N s a w A sp) (hv : vc1 P (.appM d mx my i.size i.bytes z) s K) (hn : Next s w A sp N K next) : o.wp P a w next Q := by
  obtain ⟨i', v, hi', hzv, hs, hsz, hrz, hc1⟩ := okZero_sound (w := w) (A := A) hz
  rw [hi] at hi'; injection hi' with hi'; subst hi'
  have h1 := (argOf_sound h hx).1
  have h2 := (argOf_sound h hy).1
  have hex : ∀ v w', (Builtin.append_ #[t, t] o.type #[a.eval x, a.eval y]).run P w = .ok v w' → (execOp a.eval o).run P w = .ok (.value v) w' := by
    intro v w' hr
    simp [execOp, hop, resolve, invoke, builtin, hr]
  -- a new row: of the old cells and the new ones
  have grow : ∀ (b : Nat) (os : List AV) (olds : List Value) (ys : List AV) (news : List Value) (n q : Nat), olds.length = os.length → (∀ k, RV w A (os.getD k .any) (olds.getD k undef)) →
      news.length = (ys.flatMap AV.cells).length → (∀ k, RV w A ((ys.flatMap AV.cells).getD k .any) (news.getD k undef)) →
      (Builtin.append_ #[t, t] o.type #[a.eval x, a.eval y]).run P w = .ok (.slice (some ⟨w.heap.size, 0, none⟩) n (n + q)) (w.drew.alloc (.cells (olds.toArray ++ news.toArray ++ Builtin.zeroCells v.cells q) e)) →
      K ((s.new w.heap.size (os.map AV.erase0 ++ ((ys.flatMap AV.cells).map AV.erase0 ++ (List.replicate q z).flatten))).set d (.mslice w.heap.size 0 n (n + q) i.size)) → o.wp P a w next Q := by
    intro b os olds ys news n q hol hor hnl hnr hrun hK
    have hcell : ∀ k, RV w.drew A ((os.map AV.erase0 ++ ((ys.flatMap AV.cells).map AV.erase0 ++ (List.replicate q z).flatten)).getD k .any) ((olds.toArray ++ news.toArray ++ Builtin.zeroCells v.cells q).getD k undef) ∧
        OwnOK sp ((os.map AV.erase0 ++ ((ys.flatMap AV.cells).map AV.erase0 ++ (List.replicate q z).flatten)).getD k .any) ((olds.toArray ++ news.toArray ++ Builtin.zeroCells v.cells q).getD k undef) := by
      intro k
      have e3 : (olds.toArray ++ news.toArray ++ Builtin.zeroCells v.cells q).getD k undef = if k < olds.length then olds.getD k undef else if k - olds.length < news.length then news.getD (k - olds.length) undef else (Builtin.zeroCells v.cells q).toList.getD (k - olds.length - news.length) undef := by
        rw [Array.getD_eq_getD_getElem?, ← Array.getElem?_toList]
        simp only [Array.toList_append, List.append_assoc, List.getD_eq_getElem?_getD]
        split
        · rw [List.getElem?_append_left ‹_›]
        · rw [List.getElem?_append_right (by omega)]
          split
          · rw [List.getElem?_append_left ‹_›]
          · rw [List.getElem?_append_right (by omega)]
      rw [e3, List.getD_eq_getElem?_getD]
      by_cases hk : k < olds.length
      · rw [if_pos hk, List.getElem?_append_left (by rw [List.length_map]; omega), ← List.getD_eq_getElem?_getD, getD_erase0]
        exact ⟨(hor k).drew.erase0, .erase0⟩
      · rw [if_neg hk, List.getElem?_append_right (by rw [List.length_map]; omega), List.length_map, ← hol]
        by_cases hk2 : k - olds.length < news.length
        · rw [if_pos hk2, List.getElem?_append_left (by rw [List.length_map]; omega), ← List.getD_eq_getElem?_getD, getD_erase0]
          exact ⟨(hnr _).drew.erase0, .erase0⟩
        · rw [if_neg hk2, List.getElem?_append_right (by rw [List.length_map]; omega), ← List.getD_eq_getElem?_getD]
          simp only [List.length_map, ← hnl]
          refine ⟨(zero_rep hs hrz _).drew, ?_⟩
          rw [flat_rep]
          split
          · exact getD_cell1 hc1 _
          · trivial
    refine fin' (h.drew.allocM (cs := os.map AV.erase0 ++ ((ys.flatMap AV.cells).map AV.erase0 ++ (List.replicate q z).flatten)) e ?_ hcell) ((Ev.drew _).trans (RS.evAllocM _ _)) hd hN (hex _ _ hrun) (.mslice w.heap.size 0 n (n + q) i.size (by omega)) trivial hK hn
    rw [← Array.length_toList]
    simp only [Array.toList_append, List.length_append, zeroCells_len, flat_rep_len, List.length_map, hs, hnl, hol]
    omega
  simp only [vc1] at hv
  split at hv
  · rename_i b off len cap sz' sz2 ys r2 e1 e2
    obtain ⟨hs1, hs2, hne, hbytes, hlen, hK⟩ := hv
    rw [e1] at h1; rw [e2] at h2
    subst hs2
    have hyl : 0 < ys.length := List.length_pos_iff.2 hne
    generalize hvx : a.eval x = vx at h1 hex grow
    cases h1 with
    | mslice _ _ _ _ _ hlc =>
      generalize hvy : a.eval y = vy at h2 hex grow
      cases h2 with
      | nils => exact absurd rfl hne
      | slice _ _ _ b' off' cap' vs' hszy h1cy hcapy hleny hcy hry =>
        have hYc := (RV.slice (w := w) (A := A) i.size ys r2 b' off' cap' vs' hszy h1cy hcapy hleny hcy hry).cellsOf
        obtain ⟨_, _, _, _, _, news, hnl, hnc, hnr⟩ := hYc
        have hnews : ∀ j u, news[j]? = some u → w.cell? ((⟨b', off', none⟩ : Addr).add j) = some u := fun j u hj => by rw [Addr.add_lit']; exact (hnc j u hj).1
        have hyc := flat_len i.size ys hszy
        by_cases hcap : cap = 0
        · rw [if_pos hcap] at hK
          obtain rfl : len = 0 := by omega
          subst hcap
          have hrun := run_append_grow (P := P) w t o.type e i v ht hi hzv ⟨b, off, none⟩ 0 0 [] (by simp) (by simp) ⟨b', off', none⟩ ys.length cap' news hnl hnews (by omega) (by omega) (growslice_fits (by omega) (by simpa using hbytes))
          rw [Nat.zero_add] at hrun
          have hge := grownCap_ge w ys.length 0 e
          obtain ⟨r, hr⟩ : ∃ r, grownCap w ys.length 0 e = ys.length + r := ⟨grownCap w ys.length 0 e - ys.length, by omega⟩
          rw [hr, Nat.add_sub_cancel_left] at hrun
          refine grow b [] [] ys news ys.length r rfl (fun k => by simp; exact .any _) (by rw [hnl, hyc]) hnr hrun ?_
          rw [hs1] at *
          exact hK w.heap.size r h.fresh
        · rw [if_neg hcap] at hK
          split at hK
          · rename_i cs hb
            obtain ⟨hfit, hin, hout⟩ := hK
            obtain ⟨vs, T, hh, hsz, hr⟩ := h.loc b cs hb
            have hk : (len + ys.length) * i.size = len * i.size + ys.length * i.size := Nat.add_mul _ _ _
            by_cases hroom : len + ys.length ≤ cap
            · have hin := hin hroom
              have hmul : (len + ys.length) * i.size ≤ cap * i.size := Nat.mul_le_mul_right _ hroom
              have hone := RV.oneCells h1cy (by rw [hnl, hyc]) hnr
              have hrun := run_append_room' (P := P) (w := w) t o.type e i ht hi b off len cap vs T hh ⟨b', off', none⟩ ys.length cap' news hnl hnews hone hroom (by omega)
              have hrow : ∀ k, RV w A ((splice cs (off + len * i.size) ((ys.flatMap AV.cells).map AV.erase0)).getD k .any) ((vs.toList.take (off + len * i.size) ++ news ++ vs.toList.drop (off + len * i.size + news.length)).toArray.getD k undef) ∧
                  OwnOK sp ((splice cs (off + len * i.size) ((ys.flatMap AV.cells).map AV.erase0)).getD k .any) ((vs.toList.take (off + len * i.size) ++ news ++ vs.toList.drop (off + len * i.size + news.length)).toArray.getD k undef) := by
                intro k
                rw [row_getD vs news (off + len * i.size) k (by omega), splice_getD _ _ _ _ (by rw [List.length_map, hyc]; omega), List.length_map, hyc, ← hnl]
                split
                · rw [getD_erase0]
                  exact ⟨(hnr _).erase0, .erase0⟩
                · exact hr k
              refine fin' (h.setRow hb hh ?_ hrow) (RS.evSetRow _ _ hb) hd hN (hex _ _ hrun) (.mslice b off (len + ys.length) cap sz' hroom) trivial ?_ hn
              · rw [splice_len]
                simp only [List.size_toArray, List.length_append, List.length_take, List.length_drop, Array.length_toList]
                omega
              · rw [hs1]
                exact hin
            · have hout := hout (by omega)
              have hmul : len * i.size ≤ cap * i.size := Nat.mul_le_mul_right _ hlc
              have hol : ((vs.toList.drop off).take (len * i.size)).length = len * i.size := by rw [List.length_take, List.length_drop, Array.length_toList]; omega
              have holds : ∀ j u, ((vs.toList.drop off).take (len * i.size))[j]? = some u → w.cell? ((⟨b, off, none⟩ : Addr).add j) = some u := fun j u hj => by
                rw [Addr.add_lit']
                have hjl := (List.getElem?_eq_some_iff.1 hj).1
                rw [List.getElem?_take_of_lt (by omega), List.getElem?_drop] at hj
                simp only [World.cell?, hh]
                simpa using hj
              have hrun := run_append_grow (P := P) w t o.type e i v ht hi hzv ⟨b, off, none⟩ len cap _ hol holds ⟨b', off', none⟩ ys.length cap' news hnl hnews (by omega) (by omega) (growslice_fits (by omega) hbytes)
              have hge := grownCap_ge w (len + ys.length) cap e
              obtain ⟨r, hr'⟩ : ∃ r, grownCap w (len + ys.length) cap e = len + ys.length + r := ⟨grownCap w (len + ys.length) cap e - (len + ys.length), by omega⟩
              rw [hr', Nat.add_sub_cancel_left] at hrun
              refine grow b ((cs.drop off).take (len * i.size)) _ ys news (len + ys.length) r (by rw [hol, List.length_take, List.length_drop]; omega) (fun k => ?_) (by rw [hnl, hyc]) hnr hrun ?_
              · by_cases hk2 : k < len * i.size
                · have g := (hr (off + k)).1
                  have e3 : ((cs.drop off).take (len * i.size)).getD k .any = cs.getD (off + k) .any := by
                    simp only [List.getD_eq_getElem?_getD]
                    rw [List.getElem?_take_of_lt hk2, List.getElem?_drop]
                  have e4 : ((vs.toList.drop off).take (len * i.size)).getD k undef = vs.getD (off + k) undef := by
                    simp only [List.getD_eq_getElem?_getD, Array.getD_eq_getD_getElem?]
                    rw [List.getElem?_take_of_lt hk2, List.getElem?_drop, Array.getElem?_toList]
                  rw [e3, e4]
                  exact g
                · have e3 : ((cs.drop off).take (len * i.size)).getD k .any = .any := by
                    simp only [List.getD_eq_getElem?_getD]
                    rw [List.getElem?_eq_none (by rw [List.length_take]; omega)]
                    rfl
                  rw [e3]
                  exact .any _
              · rw [hs1] at *
                exact hout w.heap.size r h.fresh
          · exact hK.elim
  · rename_i sz2 ys r2 e1 e2
    obtain ⟨hs2, hne, hbytes, hlen, hK⟩ := hv
    rw [e1] at h1; rw [e2] at h2
    subst hs2
    have hyl : 0 < ys.length := List.length_pos_iff.2 hne
    generalize hvx : a.eval x = vx at h1 hex grow
    cases h1 with
    | lit _ _ =>
      generalize hvy : a.eval y = vy at h2 hex grow
      cases h2 with
      | nils => exact absurd rfl hne
      | slice _ _ _ b' off' cap' vs' hszy h1cy hcapy hleny hcy hry =>
        have hYc := (RV.slice (w := w) (A := A) i.size ys r2 b' off' cap' vs' hszy h1cy hcapy hleny hcy hry).cellsOf
        obtain ⟨_, _, _, _, _, news, hnl, hnc, hnr⟩ := hYc
        have hnews : ∀ j u, news[j]? = some u → w.cell? ((⟨b', off', none⟩ : Addr).add j) = some u := fun j u hj => by rw [Addr.add_lit']; exact (hnc j u hj).1
        have hyc := flat_len i.size ys hszy
        have hrun := run_append_nil (P := P) w t o.type e i v ht hi hzv ⟨b', off', none⟩ ys.length cap' news hnl hnews hyl (by omega) (by omega)
        have hge := grownCap_ge w ys.length 0 e
        obtain ⟨r, hr⟩ : ∃ r, grownCap w ys.length 0 e = ys.length + r := ⟨grownCap w ys.length 0 e - ys.length, by omega⟩
        rw [hr, Nat.add_sub_cancel_left] at hrun
        exact grow 0 [] [] ys news ys.length r rfl (fun k => by simp; exact .any _) (by rw [hnl, hyc]) hnr (by rw [hrun, show ([] : List Value).toArray ++ news.toArray = news.toArray by simp]) (hK w.heap.size r h.fresh)
  · exact hv.elim

theorem s_appR {t e : TypeId} {i : TypeInfo} {x y : Operand} {mx my : MArg} (hop : o.op = .call { callee := .builtin .append, args := #[x, y], argTypes := #[t, t] }) (hd : o.dst = some d) (hN : d < N)
    (hx : argOf x = some mx) (hy : argOf y = some my) (ht : P.underlying t = some (.slice e)) (hi : P.info? e = some i)
    (h : RS N s a w A sp) (hv : vc1 P (.appR d mx my i.size) s K) (hn : Next s w A sp N K next) : o.wp P a w next Q := by
  have h1 := (argOf_sound h hx).1
  have h2 := (argOf_sound h hy).1
  have hex : ∀ v w', (Builtin.append_ #[t, t] o.type #[a.eval x, a.eval y]).run P w = .ok v w' → (execOp a.eval o).run P w = .ok (.value v) w' := by
    intro v w' hr
    simp [execOp, hop, resolve, invoke, builtin, hr]
  simp only [vc1] at hv
  split at hv
  · rename_i b off len cap sz' sz2 ys r2 e1 e2
    split at hv
    · rename_i cs hb
      obtain ⟨hs1, hs2, hne, hroom, hfit, hK⟩ := hv
      rw [e1] at h1; rw [e2] at h2
      subst hs2
      obtain ⟨vs, T, hh, hsz, hr⟩ := h.loc b cs hb
      generalize hvx : a.eval x = vx at h1 hex
      cases h1 with
      | mslice _ _ _ _ _ hlc =>
        generalize hvy : a.eval y = vy at h2 hex
        cases h2 with
        | nils => exact absurd rfl hne
        | slice _ _ _ b' off' cap' vs' hszy h1cy hcapy hleny hcy hry =>
          obtain ⟨_, _, _, _, _, news, hnl, hnc, hnr⟩ := (RV.slice (w := w) (A := A) i.size ys r2 b' off' cap' vs' hszy h1cy hcapy hleny hcy hry).cellsOf
          have hnews : ∀ j u, news[j]? = some u → w.cell? ((⟨b', off', none⟩ : Addr).add j) = some u := fun j u hj => by rw [Addr.add_lit']; exact (hnc j u hj).1
          have hone := RV.oneCells h1cy (by rw [hnl, flat_len i.size ys hszy]) hnr
          have hk : (len + ys.length) * i.size = len * i.size + ys.length * i.size := Nat.add_mul _ _ _
          have hyc := flat_len i.size ys hszy
          have hrun := run_append_room' (P := P) (w := w) t o.type e i ht hi b off len cap vs T hh ⟨b', off', none⟩ ys.length cap' news hnl hnews hone hroom (by omega)
          have hrow : ∀ k, RV w A ((splice cs (off + len * i.size) ((ys.flatMap AV.cells).map AV.erase0)).getD k .any) ((vs.toList.take (off + len * i.size) ++ news ++ vs.toList.drop (off + len * i.size + news.length)).toArray.getD k undef) ∧
              OwnOK sp ((splice cs (off + len * i.size) ((ys.flatMap AV.cells).map AV.erase0)).getD k .any) ((vs.toList.take (off + len * i.size) ++ news ++ vs.toList.drop (off + len * i.size + news.length)).toArray.getD k undef) := by
            intro k
            rw [row_getD vs news (off + len * i.size) k (by omega), splice_getD _ _ _ _ (by rw [List.length_map, hyc]; omega), List.length_map, hyc, ← hnl]
            split
            · rw [getD_erase0]
              exact ⟨(hnr _).erase0, .erase0⟩
            · exact hr k
          refine fin' (h.setRow hb hh ?_ hrow) (RS.evSetRow _ _ hb) hd hN (hex _ _ hrun) (.mslice b off (len + ys.length) cap sz' hroom) trivial ?_ hn
          · rw [splice_len]
            simp only [List.size_toArray, List.length_append, List.length_take, List.length_drop, Array.length_toList]
            omega
          · rw [hs1]
            exact hK
    · exact hv.elim
  · exact hv.elim

theorem s_slcM {t e : TypeId} {x hi : Operand} {mx mh : MArg} {sz : Nat} (hop : o.op = .slice t x none (some hi) none) (hd : o.dst = some d) (hN : d < N) (hx : argOf x = some mx) (hy : argOf hi = some mh)
    (ht : P.underlying t = some (.slice e)) (hz : szOf P e = some sz)
    (h : RS N s a w A sp) (hv : vc1 P (.slcM d mx mh sz) s K) (hn : Next s w A sp N K next) : o.wp P a w next Q := by
  have h1 := (argOf_sound h hx).1
  have h2 := (argOf_sound h hy).1
  simp only [szOf, Option.map_eq_some_iff] at hz
  obtain ⟨inf, hinf, rfl⟩ := hz
  simp only [vc1] at hv
  split at hv
  · rename_i b off len cap sz' k n e1 e2
    obtain ⟨hs, h0, hl, hK⟩ := hv
    rw [e1] at h1; rw [e2] at h2
    have v2 := h2.inv_int
    generalize hv0 : a.eval x = v0 at h1
    cases h1 with
    | mslice _ _ _ _ _ hlc =>
      refine fin (v := .slice (some ⟨b, off, none⟩) n.toNat cap) h hd hN ?_ (.mslice b off n.toNat cap inf.size (by omega)) trivial hK hn
      have h3 : ¬ (n < 0) := by omega
      have h4 : ¬ ((cap : Int) < n) := by omega
      simp [execOp, hop, hv0, v2, Instr.sliceAt, run_underlying ht, Instr.slice, Instr.sliceBounds, Instr.sliceBound, asIntOf, sizeOf, typeInfo, hinf, h0, hl, Addr.add]
  · exact hv.elim
end
end Go.Avm

namespace Go.Avm
open Go.RowKit

theorem chunk_len (sz : Nat) : ∀ (n : Nat) (cs : List AV), (chunk sz cs n).length = n
  | 0, _ => rfl
  | n + 1, cs => by rw [chunk, List.length_cons, chunk_len sz n]

theorem erase0_cell1 {x : AV} (h : x.cell1 = true) : x.erase0.cells = [x.erase0] ∧ x.erase0.cell1 = true := by
  cases x <;> first | (cases h; done) | exact ⟨rfl, rfl⟩

theorem chunk_mem (sz : Nat) : ∀ (n : Nat) (cs : List AV), n * sz ≤ cs.length → cs.all AV.cell1 = true → ∀ x ∈ chunk sz cs n, x.cells.length = sz ∧ x.cells.all AV.cell1 = true
  | 0, _, _, _ => by simp [chunk]
  | n + 1, cs, h, hc => by
    intro x hx
    rw [Nat.add_mul, Nat.one_mul] at h
    rcases List.mem_cons.1 hx with rfl | hx
    · split
      · rename_i e; subst e
        have hlt : 0 < cs.length := by omega
        have hg : (cs.getD 0 .any).cell1 = true := by
          rw [List.getD_eq_getElem?_getD, List.getElem?_eq_getElem hlt]
          exact (List.all_eq_true.1 hc) _ (List.getElem_mem _)
        obtain ⟨e1, e2⟩ := erase0_cell1 hg
        rw [e1]; exact ⟨rfl, by simp only [List.all_cons, List.all_nil, Bool.and_true]; exact e2⟩
      · refine ⟨by simp [AV.cells]; omega, List.all_eq_true.2 fun y hy => ?_⟩
        obtain ⟨z, hz, rfl⟩ := List.mem_map.1 hy
        exact (erase0_cell1 ((List.all_eq_true.1 hc) z (List.mem_of_mem_take hz))).2
    · exact chunk_mem sz n (cs.drop sz) (by simp; omega) (List.all_eq_true.2 fun y hy => (List.all_eq_true.1 hc) y (List.mem_of_mem_drop hy)) x hx

theorem chunk_flat (sz : Nat) : ∀ (n : Nat) (cs : List AV), n * sz ≤ cs.length → cs.all AV.cell1 = true → (chunk sz cs n).flatMap AV.cells = (cs.take (n * sz)).map AV.erase0
  | 0, cs, _, _ => by simp [chunk]
  | n + 1, cs, h, hc => by
    rw [Nat.add_mul, Nat.one_mul] at h
    rw [chunk, List.flatMap_cons, chunk_flat sz n (cs.drop sz) (by simp; omega) (List.all_eq_true.2 fun y hy => (List.all_eq_true.1 hc) y (List.mem_of_mem_drop hy))]
    have e : (n + 1) * sz = sz + n * sz := by rw [Nat.add_mul, Nat.one_mul, Nat.add_comm]
    rw [e, List.take_add, List.map_append]
    congr 1
    split
    · rename_i e; subst e
      have hlt : 0 < cs.length := by omega
      have hg : (cs.getD 0 .any).cell1 = true := by
        rw [List.getD_eq_getElem?_getD, List.getElem?_eq_getElem hlt]
        exact (List.all_eq_true.1 hc) _ (List.getElem_mem _)
      rw [(erase0_cell1 hg).1]
      cases cs with
      | nil => simp at hlt
      | cons x xs => simp
    · rfl

section
variable {P : Program} {N : Nat} {s : St} {a : Act} {w : World} {A : Area} {sp : Sp} {K : St → Prop} {next : Act → World → Prop} {Q : Exit → Act → World → Prop}
  {o : Oper} {d : Nat}

def allA (A : Area) (loc : Nat → Option (List AV)) : Area := fun b o => A b o ∨ ∃ cs, loc b = some cs ∧ o < cs.length

theorem view_sound (h : RS N s a w A sp) {x y : AV} {v : Value} (hx : RV w A x v) (hv : viewAV s.loc x = some y) : RV w (allA A s.loc) y v := by
  have hmono : ∀ {x : AV} {v : Value}, RV w A x v → RV w (allA A s.loc) x v := fun hx => hx.mono (fun c o v ha hv => ⟨hv, .inl ha⟩) (.same fun _ _ ha => .inl ha)
  unfold viewAV at hv
  split at hv
  · rename_i b off len cap sz
    split at hv
    · rename_i cs hb
      split at hv
      · rename_i hc
        injection hv with hv; subst hv
        simp only [Bool.and_eq_true, decide_eq_true_eq] at hc
        obtain ⟨⟨h1, h2⟩, h3⟩ := hc
        obtain ⟨vs, T, hh, hsz, hr⟩ := h.loc b cs hb
        cases hx with
        | mslice _ _ _ _ _ hlc =>
          have hd1 : len * sz ≤ (cs.drop off).length := by simp; omega
          have hd2 : (cs.drop off).all AV.cell1 = true := List.all_eq_true.2 fun z hz => (List.all_eq_true.1 h2) z (List.mem_of_mem_drop hz)
          have := RV.slice (w := w) (A := allA A s.loc) sz (chunk sz (cs.drop off) len) 0 b off cap (fun i => vs.getD (off + i) undef) (fun x hx => (chunk_mem sz len _ hd1 hd2 x hx).1) (fun x hx => (chunk_mem sz len _ hd1 hd2 x hx).2) (by rw [chunk_len]; exact hlc) (by rw [chunk_len]; exact h3)
            (fun i hi => ?_) (fun i => ?_)
          · rw [chunk_len] at this; exact this
          · rw [chunk_len] at hi
            refine ⟨?_, .inr ⟨cs, hb, by omega⟩⟩
            simp [World.cell?, hh, Array.getD_eq_getD_getElem?, Array.getElem?_eq_getElem (show off + i < vs.size by omega)]
          · rw [chunk_flat sz len _ hd1 hd2, getD_erase0]
            by_cases hi : i < len * sz
            · have e3 : ((cs.drop off).take (len * sz)).getD i .any = cs.getD (off + i) .any := by simp only [List.getD_eq_getElem?_getD, List.getElem?_take, hi, if_true, List.getElem?_drop]
              rw [e3]
              exact (hmono (hr (off + i)).1).erase0
            · have e3 : ((cs.drop off).take (len * sz)).getD i .any = .any := by simp only [List.getD_eq_getElem?_getD, List.getElem?_take, hi, if_false, Option.getD_none]
              rw [e3]
              exact .any _
      · cases hv
    · cases hv
  · injection hv with hv; subst hv; exact hmono hx

theorem views_sound (h : RS N s a w A sp) : ∀ {xs ys : List AV} {vs : List Value}, vs.length = xs.length → (∀ i, RV w A (xs.getD i .any) (vs.getD i undef)) → viewsAV s.loc xs = some ys → ys.length = xs.length ∧ ∀ i, RV w (allA A s.loc) (ys.getD i .any) (vs.getD i undef)
  | [], ys, vs, _, _, hv => by injection hv with hv; subst hv; exact ⟨rfl, fun i => by simp; exact .any _⟩
  | x :: xs, ys, [], hl, _, _ => by simp at hl
  | x :: xs, ys, v :: vs, hl, hr, hv => by
    unfold viewsAV at hv
    split at hv
    · rename_i y ys' h1 h2
      injection hv with hv; subst hv
      obtain ⟨g1, g2⟩ := views_sound h (xs := xs) (vs := vs) (by simpa using hl) (fun i => by simpa using hr (i + 1)) h2
      have h0 := view_sound h (hr 0) h1
      refine ⟨by simp [g1], fun i => ?_⟩
      cases i with
      | zero => exact h0
      | succ i => simpa using g2 i
    · cases hv

theorem callL_sound {f : FuncId} {vs : Array Value} {zs ys : List AV} {u : Value} (hd : o.dst = some d) (hN : d < N) (hlen : vs.size = zs.length) (hz : ∀ i, RV w A (zs.getD i .any) (vs.getD i undef))
    (hrun : (execOp a.eval o).run P w = (callFunc f vs).run P w)
    (h : RS N s a w A sp) (hvs : viewsAV s.loc zs = some ys) (hfl : flat u = true) (hp : PCall P f ys (.lit u)) (hK : K (s.set d (.lit u))) (hn : Next s w A sp N K next) : o.wp P a w next Q := by
  obtain ⟨g1, g2⟩ := views_sound h (xs := zs) (vs := vs.toList) (by simp [hlen]) (fun i => by
    have := hz i
    simpa [List.getD_eq_getElem?_getD, Array.getD_eq_getD_getElem?] using this) hvs
  unfold Oper.wp
  have hcf : (callFunc f vs).run P w = .ok (.enter f vs) w := by
    have := hp.1
    unfold isFunc at this
    split at this
    · rename_i fn hfn
      simp only [Bool.and_eq_true, bne_iff_ne, ne_eq] at this
      unfold callFunc
      simp only [Sem.run_bind, run_program, Result.andThen_ok, hfn]
      have hb : fn.body.isNone = false := by cases hfb : fn.body with
        | none => rw [hfb] at this; simp at this
        | some c => rfl
      have hnm : (fn.name == "runtime.NumGoroutine") = false := by simpa using this.1
      rw [hnm, hb]
      rfl
    · cases this
  rw [hrun, hcf, Oper.upon_enter]
  refine (hp.2 w (allA A s.loc) vs (fun b o ha => ?_) (by rw [g1]; simp [hlen]) (fun i => ?_)).mono ?_
  · rcases ha with ha | ⟨cs, hb, _⟩
    · exact (h.av b o ha).1
    · exact h.loc_lt hb
  · have := g2 i
    simpa [List.getD_eq_getElem?_getD, Array.getD_eq_getD_getElem?] using this
  · rintro e w' ⟨v, A', rfl, hf, q1, q2, q3⟩
    obtain ⟨k1, k2⟩ := h.call (A' := A) hf (fun _ _ ha => ha) (fun _ _ ha => .inl ha)
    rw [hd]
    have hvu : v = u := by cases q3 with | lit _ _ => rfl
    subst hvu
    exact hn _ _ _ _ _ hK (k1.put hN (.lit v hfl) trivial) k2

theorem s_callL {f : FuncId} {xs : Array Operand} {ts : Array TypeId} {ms : List MArg} (hop : o.op = .call { callee := .value (.func f), args := xs, argTypes := ts }) (hd : o.dst = some d) (hN : d < N) (hx : argsOfT P xs.toList ts.toList = some ms)
    (h : RS N s a w A sp) (hv : vc1 P (.callL d f ms) s K) (hn : Next s w A sp N K next) : o.wp P a w next Q := by
  obtain ⟨a1, a2⟩ := argsT_sound h hx
  obtain ⟨ys, u, hvs, hfl, hp, hK⟩ := hv
  refine callL_sound (vs := xs.map a.eval) hd hN (by simp [a1]) (fun i => ?_) ?_ h hvs hfl hp hK hn
  · have := a2 i
    simpa [List.getD_eq_getElem?_getD, Array.getD_eq_getD_getElem?] using this
  · simp [execOp, hop, resolve, Act.eval, Deferred.ofValue, invoke]

theorem s_callvL {t : Tmp} {xs : Array Operand} {ts : Array TypeId} {ms : List MArg} (hop : o.op = .call { callee := .value (.tmp t), args := xs, argTypes := ts }) (hd : o.dst = some d) (hN : d < N) (hx : argsOfT P xs.toList ts.toList = some ms)
    (h : RS N s a w A sp) (hv : vc1 P (.callvL d (.t t) ms) s K) (hn : Next s w A sp N K next) : o.wp P a w next Q := by
  obtain ⟨a1, a2⟩ := argsT_sound h hx
  have h1 := (h.env t).1
  simp only [vc1] at hv
  split at hv
  · rename_i f fs cs e1
    obtain ⟨ys, u, hvs, hfl, hp, hK⟩ := hv
    replace e1 : s.env t = .func (.func f) fs cs := e1
    rw [e1] at h1
    generalize hv0 : a.tmps.getD t undef = v0 at h1
    cases h1 with
    | func _ _ _ vf vc hsf hsc hf hc =>
      refine callL_sound (vs := vf ++ xs.map a.eval ++ vc) hd hN (by simp [a1, hsf, hsc]) (fun i => ?_) ?_ h hvs hfl hp hK hn
      · have e2 := getD_append3 vf.toList (xs.map a.eval).toList vc.toList i undef
        have e3 := getD_append3 fs (ms.map fun x => (x.ev s.env).erase) cs i .any
        have e4 : (vf ++ xs.map a.eval ++ vc).getD i undef = (vf.toList ++ (xs.map a.eval).toList ++ vc.toList).getD i undef := by
          simp [List.getD_eq_getElem?_getD, Array.getD_eq_getD_getElem?, Array.getElem?_append, List.getElem?_append]
        rw [e4, e2, e3]
        simp only [Array.length_toList, hsf, Array.size_map, List.length_map, a1]
        split
        · have := hf i
          simpa [List.getD_eq_getElem?_getD, Array.getD_eq_getD_getElem?] using this
        · split
          · have := a2 (i - fs.length)
            simpa [List.getD_eq_getElem?_getD, Array.getD_eq_getD_getElem?] using this
          · have := hc (i - fs.length - xs.size)
            simpa [List.getD_eq_getElem?_getD, Array.getD_eq_getD_getElem?] using this
      · simp [execOp, hop, resolve, Act.eval, hv0, Deferred.ofValue, invoke]
  · exact hv.elim
theorem s_cpyMM {t t' e : TypeId} {i : TypeInfo} {x y : Operand} {mx my : MArg} (hop : o.op = .call { callee := .builtin .copy, args := #[x, y], argTypes := #[t, t'] }) (hd : o.dst = some d) (hN : d < N)
    (hx : argOf x = some mx) (hy : argOf y = some my) (ht : P.underlying t = some (.slice e)) (hi : P.info? e = some i)
    (h : RS N s a w A sp) (hv : vc1 P (.cpyMM d mx my i.size) s K) (hn : Next s w A sp N K next) : o.wp P a w next Q := by
  have h1 := (argOf_sound h hx).1
  have h2 := (argOf_sound h hy).1
  have hex : ∀ v w', (Builtin.copy_ #[t, t'] o.type #[a.eval x, a.eval y]).run P w = .ok v w' → (execOp a.eval o).run P w = .ok (.value v) w' := by
    intro v w' hr
    simp [execOp, hop, resolve, invoke, builtin, hr]
  simp only [vc1] at hv
  split at hv
  · rename_i b off len cap sz' b2 off2 len2 cap2 sz2 e1 e2
    split at hv
    · rename_i cs cs2 hb hb2
      obtain ⟨hs1, hs2, hoff, hoff2, h1c, hK⟩ := hv
      rw [e1] at h1; rw [e2] at h2
      subst hs2
      obtain ⟨vs, T, hh, hsz, hr⟩ := h.loc b cs hb
      obtain ⟨vs2, T2, hh2, hsz2, hr2⟩ := h.loc b2 cs2 hb2
      generalize hv0 : a.eval x = v0 at h1 hex
      cases h1 with
      | mslice _ _ _ _ _ hlc =>
        generalize hv1 : a.eval y = v1 at h2 hex
        cases h2 with
        | mslice _ _ _ _ _ hlc2 =>
          obtain ⟨k, hk⟩ : ∃ k, k = Nat.min len2 len * i.size := ⟨_, rfl⟩
          have hk1 : k ≤ len2 * i.size := by rw [hk]; exact Nat.mul_le_mul_right _ (Nat.min_le_left _ _)
          have hk2 : k ≤ len * i.size := by rw [hk]; exact Nat.mul_le_mul_right _ (Nat.min_le_right _ _)
          have hcl : ((vs2.toList.drop off2).take k).length = k := by simp; omega
          have hyc : (((cs2.drop off2).take k).map AV.erase0).length = k := by simp; omega
          have hu : ∀ j, j < k → ((vs2.toList.drop off2).take k).getD j undef = vs2.getD (off2 + j) undef := fun j hj => by
            simp only [List.getD_eq_getElem?_getD, List.getElem?_take, hj, if_true, List.getElem?_drop, Array.getD_eq_getD_getElem?, Array.getElem?_toList]
          have hone : ∀ v ∈ (vs2.toList.drop off2).take k, v.oneCell' = true := by
            intro v hv
            obtain ⟨j, hj, rfl⟩ := List.getElem_of_mem hv
            have hj' : j < k := by omega
            have h3 := (hr2 (off2 + j)).1
            have hget := hu j hj'
            rw [List.getD_eq_getElem?_getD, List.getElem?_eq_getElem hj, Option.getD_some] at hget
            rw [List.getD_eq_getElem?_getD, List.getElem?_eq_getElem (show off2 + j < cs2.length by omega), ← hget] at h3
            exact h3.oneCell ((List.all_eq_true.1 h1c) _ (List.getElem_mem _))
          have hrun := copy_run (P := P) (w := w) (dT := t) (sT := t') (ty := o.type) (dLen := len) (dCap := cap) (sb := some ⟨b2, off2, none⟩) (sLen := len2) (sCap := cap2) (off := off) (cs := (vs2.toList.drop off2).take k) ht hi hh (by rw [hcl, hk])
            (fun q hq j v hj => by
              injection hq with hq; subst hq
              rw [Addr.add_lit']
              have hj' : j < k := by have := (List.getElem?_eq_some_iff.1 hj).1; omega
              rw [List.getElem?_take, if_pos hj', List.getElem?_drop, Array.getElem?_toList] at hj
              simp only [World.cell?, hh2, hj]; rfl) (fun hn => by cases hn) (by rw [hcl]; omega) hone
          rw [hcl] at hrun
          have hrow : ∀ q, RV w A ((splice cs off (((cs2.drop off2).take k).map AV.erase0)).getD q .any) ((vs.toList.take off ++ (vs2.toList.drop off2).take k ++ vs.toList.drop (off + k)).toArray.getD q undef) ∧
              OwnOK sp ((splice cs off (((cs2.drop off2).take k).map AV.erase0)).getD q .any) ((vs.toList.take off ++ (vs2.toList.drop off2).take k ++ vs.toList.drop (off + k)).toArray.getD q undef) := by
            intro q
            have e := row_getD vs ((vs2.toList.drop off2).take k) off q (by rw [hcl]; omega)
            rw [hcl] at e
            rw [e, splice_getD _ _ _ _ (by rw [hyc]; omega), hyc]
            split
            · rename_i hq
              have hj : q - off < k := by omega
              rw [getD_erase0, hu _ hj]
              have e3 : ((cs2.drop off2).take k).getD (q - off) .any = cs2.getD (off2 + (q - off)) .any := by
                simp only [List.getD_eq_getElem?_getD, List.getElem?_take, hj, if_true, List.getElem?_drop]
              rw [e3]
              exact ⟨(hr2 _).1.erase0, .erase0⟩
            · exact hr q
          refine fin' (h.setRow hb hh ?_ hrow) (RS.evSetRow _ _ hb) hd hN (hex _ _ hrun) (.lit _ rfl) trivial ?_ hn
          · rw [splice_len]
            simp only [List.size_toArray, List.length_append, List.length_take, List.length_drop, Array.length_toList]
            omega
          · rw [hk]
            exact hK
    · exact hv.elim
  · exact hv.elim

theorem s_slcZM {t e : TypeId} {x hi mx : Operand} {ax ah am : MArg} {sz : Nat} (hop : o.op = .slice t x none (some hi) (some mx)) (hd : o.dst = some d) (hN : d < N) (hx : argOf x = some ax) (hy : argOf hi = some ah) (hm : argOf mx = some am)
    (ht : P.underlying t = some (.slice e)) (hz : szOf P e = some sz)
    (h : RS N s a w A sp) (hv : vc1 P (.slcZM d ax ah am sz) s K) (hn : Next s w A sp N K next) : o.wp P a w next Q := by
  have h1 := (argOf_sound h hx).1
  have h2 := (argOf_sound h hy).1
  have h3 := (argOf_sound h hm).1
  simp only [szOf, Option.map_eq_some_iff] at hz
  obtain ⟨inf, hinf, rfl⟩ := hz
  simp only [vc1] at hv
  split at hv
  · rename_i sz' xs own k k' e1 e2 e3
    rw [e1] at h1; rw [e2] at h2; rw [e3] at h3
    have v2 := h2.inv_int
    have v3 := h3.inv_int
    generalize hv0 : a.eval x = v0 at h1
    cases h1 with
    | nils =>
      refine fin (v := .slice none 0 0) h hd hN ?_ (.lit _ rfl) trivial (hv.1 rfl) hn
      simp [execOp, hop, hv0, v2, v3, Instr.sliceAt, run_underlying ht, Instr.slice, Instr.sliceBounds, Instr.sliceBound, asIntOf, sizeOf, typeInfo, hinf]
    | slice _ _ _ b off cap vs hsz h1c hcap hlen hc hr =>
      refine fin (v := .slice (some ⟨b, off, none⟩) 0 0) h hd hN ?_ (.mslice b off 0 0 inf.size (Nat.le_refl _)) trivial (hv.2 b off) hn
      have h5 : (0 : Int) ≤ cap := by omega
      simp [execOp, hop, hv0, v2, v3, Instr.sliceAt, run_underlying ht, Instr.slice, Instr.sliceBounds, Instr.sliceBound, asIntOf, sizeOf, typeInfo, hinf, Addr.add]
  · exact hv.elim

theorem s_slcZ {t e : TypeId} {x hi mx : Operand} {ax ah am : MArg} {sz : Nat} (hop : o.op = .slice t x none (some hi) (some mx)) (hd : o.dst = some d) (hN : d < N) (hx : argOf x = some ax) (hy : argOf hi = some ah) (hm : argOf mx = some am)
    (ht : P.underlying t = some (.slice e)) (hz : szOf P e = some sz)
    (h : RS N s a w A sp) (hv : vc1 P (.slcZ d ax ah am sz) s K) (hn : Next s w A sp N K next) : o.wp P a w next Q := by
  have h1 := (argOf_sound h hx).1
  have h2 := (argOf_sound h hy).1
  have h3 := (argOf_sound h hm).1
  simp only [szOf, Option.map_eq_some_iff] at hz
  obtain ⟨inf, hinf, rfl⟩ := hz
  have hq0 : d + 1 ≠ 0 := by omega
  simp only [vc1] at hv
  split at hv
  · rename_i sz' xs own k k' e1 e2 e3
    rw [e1] at h1; rw [e2] at h2; rw [e3] at h3
    have v2 := h2.inv_int
    have v3 := h3.inv_int
    generalize hv0 : a.eval x = v0 at h1
    cases h1 with
    | nils =>
      refine fin' (h.dem (d + 1)) (Ev.dem (d + 1)) hd hN (v := .slice none 0 0) ?_ (.nils _ _) trivial hv hn
      simp [execOp, hop, hv0, v2, v3, Instr.sliceAt, run_underlying ht, Instr.slice, Instr.sliceBounds, Instr.sliceBound, asIntOf, sizeOf, typeInfo, hinf]
    | slice _ _ _ b off cap vs hsz h1c hcap hlen hc hr =>
      have h4 := (h.dem (d + 1)).newSpare (d + 1) (dem_env_ne _ _ hq0) (dem_loc_ne _ _ hq0) b off off (fun hlt => absurd hlt (Nat.lt_irrefl _)) (fun _ _ hlt => absurd hlt (Nat.lt_irrefl _)) (fun o' _ => by omega)
      refine fin' h4 ?_ hd hN (v := .slice (some ⟨b, off, none⟩) 0 0) ?_ (RV.slice inf.size [] (d + 1) b off 0 (fun _ => undef) (by simp) (by simp) (Nat.le_refl _) (by simp) (fun i hi => by simp at hi) (fun i => by simp; exact .any _)) (.inr (by simp [upd])) hv hn
      · refine (Ev.dem (d + 1)).trans (.same fun c o' hl => ?_)
        rcases hl with hl | ⟨r, q1, q2, q3⟩
        · exact .inl hl
        · refine .inr ⟨r, ?_⟩
          simp only [upd] at q1 q2 q3 ⊢
          split at q2
          · rename_i e; simp only [e, if_true] at q3; dsimp only at q2 q3; omega
          · rename_i e; simp only [e, if_false] at q1 q3 ⊢; exact ⟨q1, q2, q3⟩
      · have h5 : (0 : Int) ≤ cap := by omega
        simp [execOp, hop, hv0, v2, v3, Instr.sliceAt, run_underlying ht, Instr.slice, Instr.sliceBounds, Instr.sliceBound, asIntOf, sizeOf, typeInfo, hinf, Addr.add]
  · exact hv.elim
end
end Go.Avm

namespace Go.Avm
open Go.RowKit

section
variable {P : Program} {N : Nat} {s : St} {a : Act} {w : World} {A : Area} {sp : Sp} {K : St → Prop} {next : Act → World → Prop} {Q : Exit → Act → World → Prop}
  {o : Oper} {d : Nat}

theorem s_slcLo {t e : TypeId} {x lo : Operand} {mx mh : MArg} {sz : Nat} (hop : o.op = .slice t x (some lo) none none) (hd : o.dst = some d) (hN : d < N) (hx : argOf x = some mx) (hy : argOf lo = some mh)
    (ht : P.underlying t = some (.slice e)) (hz : szOf P e = some sz)
    (h : RS N s a w A sp) (hv : vc1 P (.slcLo d mx mh sz) s K) (hn : Next s w A sp N K next) : o.wp P a w next Q := by
  have h1 := (argOf_sound h hx).1
  have h2 := (argOf_sound h hy).1
  simp only [szOf, Option.map_eq_some_iff] at hz
  obtain ⟨inf, hinf, rfl⟩ := hz
  simp only [vc1] at hv
  split at hv
  · rename_i sz' xs own k n e1 e2
    obtain ⟨hs, h0, hl, hK⟩ := hv
    rw [e1] at h1; rw [e2] at h2
    have v2 := h2.inv_int
    have hX := h1.slice_sz hs
    generalize hv0 : a.eval x = v0 at hX
    cases hX with
    | nils =>
      have hn0 : n = 0 := by simp at hl; omega
      subst hn0
      refine fin (v := .slice none 0 0) h hd hN ?_ (by simp; exact .nils _ _) (by simp; trivial) hK hn
      simp [execOp, hop, hv0, v2, Instr.sliceAt, run_underlying ht, Instr.slice, Instr.sliceBounds, Instr.sliceBound, asIntOf, sizeOf, typeInfo, hinf]
    | slice _ _ _ b off cap vs hsz h1c hcap hlen hc hr =>
      have hnn : n.toNat ≤ xs.length := by omega
      have hmul : n.toNat * inf.size ≤ xs.length * inf.size := Nat.mul_le_mul_right _ hnn
      have hfl : (xs.drop n.toNat).length = xs.length - n.toNat := by simp
      have hrun : ∃ a', (execOp a.eval o).run P w = .ok (.value (.slice (some a') (xs.length - n.toNat) (cap - n.toNat))) w ∧ (n.toNat < cap → a' = ⟨b, off + n.toNat * inf.size, none⟩) ∧ ∃ off', a' = ⟨b, off', none⟩ := by
        refine ⟨if cap = n.toNat then ⟨b, off, none⟩ else (⟨b, off, none⟩ : Addr).add (n.toNat * inf.size), ?_, fun hlt => by rw [if_neg (by omega), Addr.add_lit'], ?_⟩
        · by_cases hcn : cap = n.toNat <;> simp [execOp, hop, hv0, v2, Instr.sliceAt, run_underlying ht, Instr.slice, Instr.sliceBounds, Instr.sliceBound, asIntOf, sizeOf, typeInfo, hinf, h0, hl, hcn]
        · split
          · exact ⟨off, rfl⟩
          · exact ⟨_, Addr.add_lit' _ _ _⟩
      obtain ⟨a', hrun, ha1, off', ha2⟩ := hrun
      refine fin h hd hN hrun ?_ (.of_not (by intro _ _ _ hh; injection hh with _ _ hh; exact hh.symm)) hK hn
      rw [ha2, ← hfl]
      refine .slice _ _ _ _ _ _ (fun i => vs (n.toNat * inf.size + i)) (fun y hy => hsz y (List.mem_of_mem_drop hy)) (fun y hy => h1c y (List.mem_of_mem_drop hy)) (by omega) (by omega) (fun i hi => ?_) (fun i => ?_)
      · rw [hfl, Nat.sub_mul] at hi
        have hlt : n.toNat < cap := by
          rcases Nat.lt_or_ge n.toNat xs.length with h5 | h5
          · omega
          · have := Nat.mul_le_mul_right inf.size h5; omega
        have e5 := ha1 hlt
        rw [ha2] at e5; injection e5 with _ e5 _
        rw [e5, Nat.add_assoc]
        exact hc _ (by omega)
      · rw [flatMap_drop AV.cells _ xs _ hsz]
        have := hr (n.toNat * inf.size + i)
        simpa [List.getD_eq_getElem?_getD] using this
  · exact hv.elim

theorem s_strLo {t : TypeId} {x lo : Operand} {mx ml : MArg} (hop : o.op = .slice t x (some lo) none none) (hd : o.dst = some d) (hN : d < N) (ht : P.underlying t = some .string) (hx : argOf x = some mx) (hl : argOf lo = some ml)
    (h : RS N s a w A sp) (hv : vc1 P (.strLo d mx ml) s K) (hn : Next s w A sp N K next) : o.wp P a w next Q := by
  have h1 := (argOf_sound h hx).1
  have h2 := (argOf_sound h hl).1
  simp only [vc1] at hv
  split at hv
  · rename_i u k n e1 e2
    obtain ⟨c1, c2, hK⟩ := hv
    rw [e1] at h1; rw [e2] at h2
    have v2 := h2.inv_int
    generalize hv0 : a.eval x = v0 at h1
    cases h1
    refine fin (v := .string (u.extract n.toNat u.size)) h hd hN ?_ (.lit _ rfl) trivial hK hn
    simp [execOp, hop, hv0, v2, Instr.sliceAt, run_underlying ht, Instr.slice, Instr.sliceBounds, Instr.sliceBound, asIntOf, c1, c2]
  · exact hv.elim

theorem s_cpyS {ts td : TypeId} {x : Operand} {mx : MArg} (hop : o.op = .convert ts td x) (hd : o.dst = some d) (hN : d < N) (hs : P.underlying ts = some .string) (ht : P.underlying td = some .string) (hx : argOf x = some mx)
    (h : RS N s a w A sp) (hv : vc1 P (.cpyS d mx) s K) (hn : Next s w A sp N K next) : o.wp P a w next Q := by
  have h1 := (argOf_sound h hx).1
  simp only [vc1] at hv
  split at hv
  · rename_i st e1
    rw [e1] at h1
    exact fin (v := .string st) h hd hN (by simp [execOp, hop, h1.inv_str, convert, run_underlying hs, run_underlying ht]) (.lit _ rfl) trivial hv hn
  · exact hv.elim

theorem appM_sound {ann : Ann} {b : Builtin} {xs : Array Operand} {ts : Array TypeId} {m : MOp} (hop : o.op = .call { callee := .builtin b, args := xs, argTypes := ts }) (hd : o.dst = some d) (hN : d < N)
    (hm : trAppM P ann b d xs.toList ts.toList = some m) (h : RS N s a w A sp) (hv : vc1 P m s K) (hn : Next s w A sp N K next) : o.wp P a w next Q := by
  obtain ⟨xs⟩ := xs
  obtain ⟨ts⟩ := ts
  simp only [] at hm
  unfold trAppM at hm
  split at hm
  · split at hm
    · rename_i e; subst e
      split at hm
      · split at hm
        · split at hm
          · injection hm with hm; subst hm
            exact s_appR hop hd hN ‹_› ‹_› ‹_› ‹_› h hv hn
          · split at hm
            · rename_i hc
              injection hm with hm; subst hm
              simp only [Bool.and_eq_true] at hc
              exact s_appM hop hd hN ‹_› ‹_› ‹_› ‹_› hc.1 h hv hn
            · cases hm
        · cases hm
      · cases hm
    · cases hm
  · cases hm

theorem cpyMM_sound {b : Builtin} {xs : Array Operand} {ts : Array TypeId} {m : MOp} (hop : o.op = .call { callee := .builtin b, args := xs, argTypes := ts }) (hd : o.dst = some d) (hN : d < N)
    (hm : trCpyMM P b d xs.toList ts.toList = some m) (h : RS N s a w A sp) (hv : vc1 P m s K) (hn : Next s w A sp N K next) : o.wp P a w next Q := by
  obtain ⟨xs⟩ := xs
  obtain ⟨ts⟩ := ts
  simp only [] at hm
  unfold trCpyMM at hm
  split at hm
  · split at hm
    · split at hm
      · injection hm with hm; subst hm
        exact s_cpyMM hop hd hN ‹_› ‹_› ‹_› ‹_› h hv hn
      · cases hm
    · cases hm
  · cases hm

theorem builtin_sound {b : Builtin} {xs : Array Operand} {ts : Array TypeId} {m : MOp} (hop : o.op = .call { callee := .builtin b, args := xs, argTypes := ts }) (hd : o.dst = some d) (hN : d < N)
    (hm : trBuiltin P b d xs.toList ts.toList = some m) (h : RS N s a w A sp) (hv : vc1 P m s K) (hn : Next s w A sp N K next) : o.wp P a w next Q := by
  obtain ⟨xs⟩ := xs
  obtain ⟨ts⟩ := ts
  simp only [] at hm
  unfold trBuiltin at hm
  split at hm
  · -- len
    split at hm
    · injection hm with hm; subst hm
      exact s_lenK hop hd hN (.inl ‹_›) h hv hn
    · simp only [Option.map_eq_some_iff] at hm
      obtain ⟨y, hy, rfl⟩ := hm
      exact s_len hop hd hN hy ‹_› h hv hn
    · simp only [Option.map_eq_some_iff] at hm
      obtain ⟨y, hy, rfl⟩ := hm
      exact s_lenStr hop hd hN hy ‹_› h hv hn
    · split at hm
      · injection hm with hm; subst hm
        exact s_lenK hop hd hN (.inr ⟨_, ‹_›, ‹_›⟩) h hv hn
      · cases hm
    · cases hm
  · -- append
    split at hm
    · rename_i e; subst e
      split at hm
      · split at hm
        · split at hm
          · split at hm
            · rename_i hc
              injection hm with hm; subst hm
              exact s_app hop hd hN ‹_› ‹_› ‹_› ‹_› ‹_› hc.1 hc.2 h hv hn
            · cases hm
          · cases hm
        · cases hm
      · cases hm
    · cases hm
  · -- copy
    split at hm
    · split at hm
      · injection hm with hm; subst hm
        exact s_cpyM hop hd hN ‹_› ‹_› ‹_› ‹_› h hv hn
      · cases hm
    · cases hm
  · split at hm
    · injection hm with hm; subst hm
      exact s_max hop hd hN ‹_› ‹_› h hv hn
    · cases hm
  · split at hm
    · injection hm with hm; subst hm
      exact s_min hop hd hN ‹_› ‹_› h hv hn
    · cases hm
  · cases hm

theorem bin_sound {op : BinOp} {t t' : TypeId} {x y : Operand} {mx my : MArg} {mm : MOp} (hop : o.op = .binOp op t x y t') (hd : o.dst = some d) (hN : d < N) (hx : argOf x = some mx) (hy : argOf y = some my)
    (hm : trBin P d op t mx my = some mm) (h : RS N s a w A sp) (hv : vc1 P mm s K) (hn : Next s w A sp N K next) : o.wp P a w next Q := by
  unfold trBin at hm
  split at hm
  · injection hm with hm; subst hm; exact s_bin hop hd hN hx hy h hv hn
  · injection hm with hm; subst hm; exact s_bin hop hd hN hx hy h hv hn
  · split at hm
    · injection hm with hm; subst hm; exact s_binB hop rfl hd hN hx hy ‹_› h hv hn
    · injection hm with hm; subst hm; exact s_binB hop rfl hd hN hx hy ‹_› h hv hn
    · cases hm
  · cases hm

theorem dst_sound {ann : Ann} {op : Op} {ty : TypeId} {m : MOp} (hop : o.op = op) (hd : o.dst = some d) (hN : d < N)
    (hm : trDst P ann d op ty = some m) (h : RS N s a w A sp) (hv : vc1 P m s K) (hn : Next s w A sp N K next) : o.wp P a w next Q := by
  unfold trDst at hm
  split at hm
  · -- move
    simp only [Option.map_eq_some_iff] at hm
    obtain ⟨y, hy, rfl⟩ := hm
    exact s_cpy hop hd hN hy h hv hn
  · -- assign nil
    split at hm
    · injection hm with hm; subst hm
      exact s_asgZ hop hd hN h hv hn
    · injection hm with hm; subst hm
      exact s_asgNil hop hd hN h hv hn
  · -- assign
    simp only [Option.map_eq_some_iff] at hm
    obtain ⟨y, hy, rfl⟩ := hm
    exact s_asg hop hd hN hy h hv hn
  · -- pick
    split at hm
    · injection hm with hm; subst hm
      exact s_pick hop hd hN ‹_› ‹_› ‹_› h hv hn
    · cases hm
  · -- alloc
    split at hm
    · injection hm with hm; subst hm
      exact s_alloc hop hd hN ‹_› h hv hn
    · cases hm
  · -- box
    split at hm
    · split at hm
      · injection hm with hm; subst hm
        split at hv
        · exact s_boxM hop hd hN ‹_› ‹_› h hv hn
        · exact s_boxI hop hd hN ‹_› ‹_› h hv hn
      · cases hm
    · cases hm
  · -- load
    split at hm
    · injection hm with hm; subst hm
      exact s_load hop hd hN ‹_› ‹_› h hv hn
    · cases hm
  · -- fieldAddr
    split at hm
    · split at hm
      · split at hm
        · split at hm
          · cases hm
          · injection hm with hm; subst hm
            exact s_addr hop hd hN ‹_› ‹_› ‹_› ‹_› ‹_› h hv hn
        · cases hm
      · cases hm
    · cases hm
  · -- field
    split at hm
    · split at hm
      · split at hm
        · injection hm with hm; subst hm
          exact s_fld hop hd hN ‹_› ‹_› ‹_› ‹_› h hv hn
        · cases hm
      · cases hm
    · cases hm
  · -- indexAddr
    split at hm
    · simp only [Option.map_eq_some_iff] at hm
      obtain ⟨n, hnn, rfl⟩ := hm
      exact s_idxS hop hd hN ‹_› ‹_› ‹_› hnn h hv hn
    · simp only [Option.map_eq_some_iff] at hm
      obtain ⟨n, hnn, rfl⟩ := hm
      exact s_idxA hop hd hN ‹_› ‹_› ‹_› hnn h hv hn
    · cases hm
  · -- index
    split at hm
    · injection hm with hm; subst hm
      exact s_idxStr hop hd hN ‹_› ‹_› ‹_› h hv hn
    · split at hm
      · injection hm with hm; subst hm
        exact s_idxV hop hd hN ‹_› ‹_› ‹_› ‹_› ‹_› h hv hn
      · cases hm
    · cases hm
  · -- build
    split at hm
    · split at hm
      · split at hm
        · rename_i hall
          simp only [Option.map_eq_some_iff] at hm
          obtain ⟨qs, hq, rfl⟩ := hm
          refine s_buildS hop hd hN ‹_› ‹_› (fun f hf => ?_) hq h hv hn
          have := (List.all_eq_true.1 hall) f hf
          exact Option.isSome_iff_exists.1 this
        · cases hm
      · split at hm
        · split at hm
          · simp only [Option.map_eq_some_iff] at hm
            obtain ⟨qs, hq, rfl⟩ := hm
            exact s_buildA hop hd hN ‹_› ‹_› ‹_› ‹_› hq h hv hn
          · cases hm
        · cases hm
      · cases hm
    · cases hm
  · -- buildSlice
    split at hm
    · split at hm
      · split at hm
        · split at hm
          · rename_i hc
            injection hm with hm; subst hm
            simp only [Bool.and_eq_true, beq_iff_eq] at hc
            exact s_mkM0 hop hd hN ‹_› ‹_› hc.1.1 hc.1.2 hc.2 h hv hn
          · cases hm
        · cases hm
      · cases hm
    split at hm
    · split at hm
      · split at hm
        · rename_i hc
          injection hm with hm; subst hm
          simp only [Bool.and_eq_true, decide_eq_true_eq] at hc
          exact s_mkS hop hd hN hc.1.1 ‹_› ‹_› hc.1.2 hc.2 ‹_› h hv hn
        · cases hm
      · cases hm
    · cases hm
  · -- binOp
    split at hm
    · split at hm
      · injection hm with hm; subst hm
        exact bin_sound hop hd hN ‹_› ‹_› ‹_› h hv hn
      · split at hm
        · injection hm with hm; subst hm
          exact s_binA hop rfl hd hN ‹_› ‹_› ‹_› h hv hn
        · injection hm with hm; subst hm
          exact s_binA hop rfl hd hN ‹_› ‹_› ‹_› h hv hn
        · unfold trNil at hm
          split at hm
          · injection hm with hm; subst hm
            exact s_isNil hop rfl hd hN ‹_› ‹_› h hv hn
          · injection hm with hm; subst hm
            exact s_isNil hop rfl hd hN ‹_› ‹_› h hv hn
          · cases hm
    · cases hm
  · simp only [Option.map_eq_some_iff] at hm
    obtain ⟨y, hy, rfl⟩ := hm
    exact s_not hop hd hN hy h hv hn
  · simp only [Option.map_eq_some_iff] at hm
    obtain ⟨y, hy, rfl⟩ := hm
    exact s_neg hop hd hN hy h hv hn
  · -- convert
    split at hm
    · injection hm with hm; subst hm
      exact s_conv hop hd hN ‹_› ‹_› ‹_› h hv hn
    · injection hm with hm; subst hm
      exact s_cpyS hop hd hN ‹_› ‹_› ‹_› h hv hn
    · cases hm
  · simp only [Option.map_eq_some_iff] at hm
    obtain ⟨y, hy, rfl⟩ := hm
    exact s_ext hop hd hN hy h hv hn
  · simp only [Option.map_eq_some_iff] at hm
    obtain ⟨y, hy, rfl⟩ := hm
    exact s_nilchk hop hd hN hy h hv hn
  · -- makeFunc
    split at hm
    · injection hm with hm; subst hm
      exact s_mkfn hop hd hN ‹_› ‹_› h hv hn
    · cases hm
  · split at hm
    · split at hm
      · injection hm with hm
        split at hm
        · subst hm
          exact s_slcM hop hd hN ‹_› ‹_› ‹_› ‹_› h hv hn
        · subst hm
          exact s_slcHi hop hd hN ‹_› ‹_› ‹_› ‹_› h hv hn
      · cases hm
    · cases hm
  · split at hm
    · split at hm
      · injection hm with hm
        split at hm
        · subst hm
          exact s_slcZM hop hd hN ‹_› ‹_› ‹_› ‹_› ‹_› h hv hn
        · subst hm
          exact s_slcZ hop hd hN ‹_› ‹_› ‹_› ‹_› ‹_› h hv hn
      · cases hm
    · cases hm
  · split at hm
    · split at hm
      · injection hm with hm; subst hm
        exact s_slcLo hop hd hN ‹_› ‹_› ‹_› ‹_› h hv hn
      · cases hm
    · split at hm
      · injection hm with hm; subst hm
        exact s_strLo hop hd hN ‹_› ‹_› ‹_› h hv hn
      · cases hm
    · cases hm
  · -- makeSlice
    split at hm
    · split at hm
      · split at hm
        · injection hm with hm; subst hm
          exact s_mkM hop hd hN ‹_› ‹_› ‹_› ‹_› ‹_› h hv hn
        · cases hm
      · cases hm
    · cases hm
  · -- call
    rename_i c
    obtain ⟨callee, args, argTypes⟩ := c
    simp only [] at hm
    split at hm
    · split at hm
      · exact appM_sound hop hd hN hm h hv hn
      · split at hm
        · exact cpyMM_sound hop hd hN hm h hv hn
        · exact builtin_sound hop hd hN hm h hv hn
    · simp only [Option.map_eq_some_iff] at hm
      obtain ⟨ms, hms, hm⟩ := hm
      split at hm
      · subst hm
        exact s_callL hop hd hN hms h hv hn
      · subst hm
        exact s_call hop hd hN hms h hv hn
    · simp only [Option.map_eq_some_iff] at hm
      obtain ⟨ms, hms, hm⟩ := hm
      split at hm
      · subst hm
        exact s_callvL hop hd hN hms h hv hn
      · subst hm
        exact s_callv hop hd hN hms h hv hn
    · cases hm
  · cases hm

end
end Go.Avm
