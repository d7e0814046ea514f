/- From the model's operations to the resolved ones. -/
import Derived.Test.YtcfeipphmklakaaAvm3
namespace Go.Avm
open Go.RowKit

structure Ann where
  muts : List Nat := []
  nilsz : List (Nat × Nat) := []
  oid : List (Nat × Nat) := []
  frz : List Nat := []
  ord : List (Nat × List Nat) := []
  ap : List (Nat × List MArg) := []
  own : List Nat := []
  zero : List (Nat × List AV) := []
  yl : List Nat := []
  fz : List (Nat × List Nat) := []
  imm : List Nat := []

def look {α : Type} (l : List (Nat × α)) (d : Nat) (z : α) : α := match l with
  | [] => z
  | (k, x) :: l => if k == d then x else look l d z

def ofVal : Value → Option AV
  | .slice none 0 0 => some (.slice 0 [] 0)
  | .bool b => some (.lit (.bool b))
  | .int k n => some (.lit (.int k n))
  | .string s => some (.lit (.string s))
  | .pointer none => some (.lit (.pointer none))
  | .nilFunc => some (.lit .nilFunc)
  | .nilIface => some (.lit .nilIface)
  | .map none => some (.lit (.map none))
  | _ => none

def argOf : Operand → Option MArg
  | .tmp t => some (.t t)
  | .const v => (ofVal v).map .c
  | .func f => some (.c (.func (.func f) [] []))
  | .global _ => none

def vEq : Value → Value → Bool
  | .bool a, .bool b => a == b
  | .int k a, .int k' b => k == k' && a == b
  | .string a, .string b => a.data == b.data
  | .pointer none, .pointer none => true
  | .nilFunc, .nilFunc => true
  | .nilIface, .nilIface => true
  | .map none, .map none => true
  | _, _ => false

def zOK : AV → Value → Bool
  | .lit v, v' => vEq v v'
  | .slice _ [] 0, .slice none 0 0 => true
  | _, _ => false

def zsOK : List AV → List Value → Bool
  | [], [] => true
  | x :: xs, v :: vs => zOK x v && zsOK xs vs
  | _, _ => false

/-- A nil slice may be owned from the first. -/
def zOKA : AV → Value → Bool
  | .lit v, v' => vEq v v'
  | .slice _ [] _, .slice none 0 0 => true
  | _, _ => false

def zsOKA : List AV → List Value → Bool
  | [], [] => true
  | x :: xs, v :: vs => zOKA x v && zsOKA xs vs
  | _, _ => false

def szOf (P : Program) (t : TypeId) : Option Nat := (P.info? t).map (·.size)

/-- One cell, or a row of so many. -/
def partN (P : Program) (t : TypeId) : Option (Option Nat) :=
  match P.underlying t, P.info? t with
  | some d, some i => some (match d with
    | .struct _ => some i.size
    | .array _ _ => some i.size
    | _ => none)
  | _, _ => none

def zeroOf (P : Program) (t : TypeId) : Option Value := (P.info? t).bind (·.zero)

def okZero (P : Program) (t : TypeId) (z : List AV) : Bool :=
  match P.info? t with
  | some i => (match i.zero with
    | some v => zsOK z v.cells.toList && z.length == i.size
    | none => false)
  | none => false

def okZeroA (P : Program) (t : TypeId) (z : List AV) : Bool :=
  match P.info? t with
  | some i => (match i.zero with
    | some v => zsOKA z v.cells.toList && z.length == i.size
    | none => false)
  | none => false

/-- An operand where a value of type t is wanted: nil knows its elements' size. -/
def argOfT (P : Program) (t : TypeId) (x : Operand) : Option MArg :=
  match x with
  | .const (.slice none 0 0) => match P.underlying t with
    | some (.slice e) => (szOf P e).map fun n => .c (.slice n [] 0)
    | _ => argOf x
  | x => argOf x

def argsOfT (P : Program) : List Operand → List TypeId → Option (List MArg)
  | [], _ => some []
  | x :: xs, [] => match argOf x, argsOfT P xs [] with
    | some y, some ys => some (y :: ys)
    | _, _ => none
  | x :: xs, t :: ts => match argOfT P t x, argsOfT P xs ts with
    | some y, some ys => some (y :: ys)
    | _, _ => none

def argsOf : List Operand → Option (List MArg)
  | [] => some []
  | x :: xs => match argOf x, argsOf xs with
    | some y, some ys => some (y :: ys)
    | _, _ => none

def fieldsParts (P : Program) (fs : Array Field) : List (Nat × Operand) → Option (List (Nat × Nat × MArg))
  | [] => some []
  | (i, x) :: ps => match fs[i]?, fieldsParts P fs ps with
    | some f, some ys => match szOf P f.type, argOfT P f.type x with
      | some n, some y => if 0 < n then some ((f.offset, n, y) :: ys) else none
      | _, _ => none
    | _, _ => none

def arrParts (P : Program) (e : TypeId) (sz : Nat) : List (Nat × Operand) → Option (List (Nat × Nat × MArg))
  | [] => some []
  | (i, x) :: ps => match argOfT P e x, arrParts P e sz ps with
    | some y, some ys => some ((i * sz, sz, y) :: ys)
    | _, _ => none

def slcParts (P : Program) (e : TypeId) : List (Nat × Operand) → Option (List (Nat × MArg))
  | [] => some []
  | (i, x) :: ps => match argOfT P e x, slcParts P e ps with
    | some y, some ys => some ((i, y) :: ys)
    | _, _ => none

def trBuiltin (P : Program) (b : Builtin) (d : Nat) (args : List Operand) (ts : List TypeId) : Option MOp :=
  match b, args, ts with
  | .len, [x], [t] => match P.underlying t with
    | some (.array n _) => some (.lenK d n)
    | some (.slice _) => (argOf x).map (.len d ·)
    | some .string => (argOf x).map (.lenStr d ·)
    | some (.pointer e) => match P.underlying e with
      | some (.array n _) => some (.lenK d n)
      | _ => none
    | _ => none
  | .append, [x, y], [t, t'] => if t = t' then match P.underlying t with
    | some (.slice e) => match P.info? e, argOf x, argOf y with
      | some i, some x, some y => match i.zero with
        | some z => if z.cells.size = i.size ∧ 0 < i.size then some (.app d x y i.size i.bytes) else none
        | none => none
      | _, _, _ => none
    | _ => none else none
  | .copy, [x, y], [t, _] => match P.underlying t with
    | some (.slice e) => match P.info? e, argOf x, argOf y with
      | some i, some x, some y => some (.cpyM d x y i.size)
      | _, _, _ => none
    | _ => none
  | .max, [x, y], _ => match argOf x, argOf y with
    | some x, some y => some (.maxI d x y)
    | _, _ => none
  | .min, [x, y], _ => match argOf x, argOf y with
    | some x, some y => some (.minI d x y)
    | _, _ => none
  | _, _, _ => none

def trBin (P : Program) (d : Nat) (op : BinOp) (t : TypeId) (x y : MArg) : Option MOp :=
  match P.underlying t with
  | some (.int _) => some (.bin d op x y)
  | some .string => some (.bin d op x y)
  | some .bool => match op with
    | .eql => some (.binB d false x y)
    | .neq => some (.binB d true x y)
    | _ => none
  | _ => none

/-- Fields that are booleans and integers, one after the other. -/
def flatFields (P : Program) : List Bool → Nat → List Field → Bool
  | [], _, [] => true
  | q :: ks, k, f :: fs => f.name != "_" && f.offset == k && (match q, P.underlying f.type with | false, some (.int _) => true | true, some .bool => true | _, _ => false) && flatFields P ks (k + 1) fs
  | _, _, _ => false

def kindsOf (P : Program) (fs : List Field) : List Bool := fs.map fun f => match P.underlying f.type with | some .bool => true | _ => false

def eqStruct (P : Program) (t : TypeId) : Option (List Bool) :=
  match P.underlying t with
  | some (.struct fs) => if flatFields P (kindsOf P fs.toList) 0 fs.toList && !P.stoodInHeld t && !P.eqGuardType P.depth t then some (kindsOf P fs.toList) else none
  | _ => none

def trDst (P : Program) (ann : Ann) (d : Nat) (op : Op) (type : TypeId) : Option MOp :=
  match op with
  | .move x => (argOf x).map (.cpy d ·)
  | .assign (.const (.slice none 0 0)) => some (.asgNil d (look ann.nilsz d 0))
  | .assign x => (argOf x).map (.asg d ·)
  | .pick c x y => match argOf c, argOf x, argOf y with
    | some c, some x, some y => some (.pick d c x y)
    | _, _, _ => none
  | .alloc e => if okZeroA P e (look ann.zero d []) then some (.alloc d (look ann.zero d [])) else none
  | .box e x => match szOf P e, argOf x with
    | some n, some x => if 0 < n then some (if ann.muts.contains d then .boxM d x n else .boxI d x n) else none
    | _, _ => none
  | .load t x => match partN P t, argOf x with
    | some n, some x => some (.load d x n)
    | _, _ => none
  | .fieldAddr t x f => match P.underlying t with
    | some (.struct fs) => match fs[f]?, argOf x with
      | some fd, some x => match szOf P fd.type with
        | some n => if n = 0 then none else some (.addr d x fd.offset)
        | none => none
      | _, _ => none
    | _ => none
  | .field t x f => match P.underlying t with
    | some (.struct fs) => match fs[f]?, argOf x with
      | some fd, some x => match partN P fd.type with
        | some n => some (.fld d x fd.offset n)
        | none => none
      | _, _ => none
    | _ => none
  | .indexAddr t x i => match P.underlying t, argOf x, argOf i with
    | some (.slice e), some x, some i => (szOf P e).map fun n => .idxS d x i n
    | some (.array len e), some x, some i => (szOf P e).map fun n => .idxA d x i len n
    | _, _, _ => none
  | .index t x i => match P.underlying t, argOf x, argOf i with
    | some .string, some x, some i => some (.idxStr d x i)
    | some (.array len e), some x, some i => match szOf P e, partN P e with
      | some sz, some n => some (.idxV d x i len sz n)
      | _, _ => none
    | _, _, _ => none
  | .build t ps => if okZero P t (look ann.zero d []) then match P.underlying t with
    | some (.struct fs) => if fs.toList.all fun f => (P.info? f.type).isSome then (fieldsParts P fs ps.toList).map fun ps => .build d (look ann.zero d []) ps else none
    | some (.array _ e) => match szOf P e with
      | some sz => if 0 < sz then (arrParts P e sz ps.toList).map fun ps => .build d (look ann.zero d []) ps else none
      | none => none
    | _ => none else none
  | .buildSlice t n ps => match P.underlying t with
    | some (.slice e) => match szOf P e, slcParts P e ps.toList with
      | some sz, some ps => if okZero P e (look ann.zero d []) && decide (0 < sz) && decide (n * sz ≤ 16777216) then some (.mkS d n sz (look ann.zero d []) ps) else none
      | _, _ => none
    | _ => none
  | .binOp op t x y _ => match argOf x, argOf y with
    | some x, some y => match trBin P d op t x y with
      | some m => some m
      | none => match eqStruct P t, op with
        | some n, .eql => some (.binA d false n x y)
        | some n, .neq => some (.binA d true n x y)
        | _, _ => none
    | _, _ => none
  | .unOp .not _ x => (argOf x).map (.not d ·)
  | .unOp .neg _ x => (argOf x).map (.neg d ·)
  | .convert s t x => match P.underlying s, P.underlying t, argOf x with
    | some (.int _), some (.int k), some x => some (.conv d k x)
    | some .string, some .string, some x => some (.cpyS d x)
    | _, _, _ => none
  | .extract x i => (argOf x).map (.ext d · i)
  | .nilCheck x => (argOf x).map (.nilchk d ·)
  | .makeFunc fn first cap => match argsOf first.toList, argsOf cap.toList with
    | some f, some c => some (.mkfn d fn f c)
    | _, _ => none
  | .slice t x none (some hi) none => match P.underlying t with
    | some (.slice e) => match szOf P e, argOf x, argOf hi with
      | some sz, some x, some hi => some (.slcHi d x hi sz)
      | _, _, _ => none
    | _ => none
  | .slice t x (some lo) none none => match P.underlying t with
    | some (.slice e) => match szOf P e, argOf x, argOf lo with
      | some sz, some x, some lo => some (.slcLo d x lo sz)
      | _, _, _ => none
    | some .string => match argOf x, argOf lo with
      | some x, some lo => some (.strLo d x lo)
      | _, _ => none
    | _ => none
  | .makeSlice t l c => match P.underlying t with
    | some (.slice e) => match P.info? e, argOf l, argOf c with
      | some i, some l, some c => if okZero P e (look ann.zero d []) then some (.mkM d l c i.size i.bytes (look ann.zero d [])) else none
      | _, _, _ => none
    | _ => none
  | .call c => match c.callee with
    | .builtin b => trBuiltin P b d c.args.toList c.argTypes.toList
    | .value (.func f) => (argsOfT P c.args.toList c.argTypes.toList).map (.call d f ·)
    | .value (.tmp t) => (argsOfT P c.args.toList c.argTypes.toList).map (.callv d (.t t) ·)
    | _ => none
  | _ => none

def trOp (P : Program) (ann : Ann) (N : Nat) (o : Oper) : Option MOp :=
  match o.dst with
  | some d => if d < N then trDst P ann d o.op o.type else none
  | none => match o.op with
    | .store t x (.const (.slice none 0 0)) => match x with
      | .tmp k => if szOf P t = some 1 ∧ look ann.oid k 0 ≠ 0 then some (.storeNil (.t k) (look ann.nilsz (1000000 + k) 0) (look ann.oid k 0)) else none
      | _ => none
    | .store t x y => match x, szOf P t, argOf y with
      | .tmp k, some n, some y => if 0 < n then (if ann.frz.contains k then some (.storeF k y n) else some (.store (.t k) y n (look ann.oid k 0))) else none
      | _, _, _ => none
    | _ => none

def trG (P : Program) (ann : Ann) (N : Nat) (ops : Array Oper) (o : Oper) : Option MOp :=
  match o.guard with
  | none => trOp P ann N o
  | some (j, want) => match (ops[j]?).bind (·.dst), trOp P ann N o with
    | some g, some m => if g < N then some (.guard g want o.dst m) else none
    | _, _ => none

theorem look_nil {α : Type} (d : Nat) (z : α) : look [] d z = z := rfl

section
variable {w : World} {A : Area} {sp : Sp}

theorem vEq_eq {v v' : Value} (h : vEq v v' = true) : v = v' ∧ flat v = true := by
  cases v <;> cases v' <;> simp [vEq, flat] at h ⊢ <;> try exact h
  all_goals first
    | (obtain ⟨h1, h2⟩ := h; exact ⟨h1, h2⟩)
    | (rename_i a b; cases a <;> cases b <;> simp_all)
    | skip
  all_goals (rename_i a b; cases a; cases b; simp_all)

theorem zOK_sound {x : AV} {v : Value} (h : zOK x v = true) : RV w A x v ∧ x.cell1 = true ∧ x.erase = x := by
  unfold zOK at h
  split at h
  · obtain ⟨rfl, hf⟩ := vEq_eq h
    exact ⟨.lit _ hf, rfl, rfl⟩
  · exact ⟨.nils _ _, rfl, rfl⟩
  · cases h

theorem zsOK_sound : ∀ {xs : List AV} {vs : List Value}, zsOK xs vs = true →
    vs.length = xs.length ∧ (∀ i, RV w A (xs.getD i .any) (vs.getD i undef)) ∧ (∀ x ∈ xs, x.cell1 = true ∧ x.erase = x)
  | [], [], _ => ⟨rfl, fun _ => by simp; exact .any _, by simp⟩
  | x :: xs, v :: vs, h => by
    simp only [zsOK, Bool.and_eq_true] at h
    obtain ⟨h1, h2⟩ := h
    have hx := zOK_sound (w := w) (A := A) h1
    obtain ⟨i1, i2, i3⟩ := zsOK_sound (xs := xs) (vs := vs) h2
    refine ⟨by simp [i1], fun i => ?_, ?_⟩
    · cases i with
      | zero => simpa using hx.1
      | succ i => simpa using i2 i
    · intro y hy
      rcases List.mem_cons.1 hy with rfl | hy
      · exact hx.2
      · exact i3 y hy
  | [], _ :: _, h => by cases h
  | _ :: _, [], h => by cases h

theorem zOKA_sound {x : AV} {v : Value} (h : zOKA x v = true) : RV w A x v ∧ OwnOK sp x v := by
  unfold zOKA at h
  split at h
  · obtain ⟨rfl, hf⟩ := vEq_eq h
    exact ⟨.lit _ hf, trivial⟩
  · exact ⟨.nils _ _, trivial⟩
  · cases h

theorem zsOKA_sound : ∀ {xs : List AV} {vs : List Value}, zsOKA xs vs = true → vs.length = xs.length ∧ ∀ i, RV w A (xs.getD i .any) (vs.getD i undef) ∧ OwnOK sp (xs.getD i .any) (vs.getD i undef)
  | [], [], _ => ⟨rfl, fun _ => by simp; exact ⟨.any _, trivial⟩⟩
  | x :: xs, v :: vs, h => by
    simp only [zsOKA, Bool.and_eq_true] at h
    have hx := zOKA_sound (w := w) (A := A) (sp := sp) h.1
    obtain ⟨i1, i2⟩ := zsOKA_sound (xs := xs) (vs := vs) h.2
    refine ⟨by simp [i1], fun i => ?_⟩
    cases i with
    | zero => simpa using hx
    | succ i => simpa using i2 i
  | [], _ :: _, h => by cases h
  | _ :: _, [], h => by cases h

theorem ofVal_sound {v : Value} {x : AV} (h : ofVal v = some x) : RV w A x v ∧ OwnOK sp x v := by
  unfold ofVal at h
  split at h <;> first | (injection h with h; subst h; first | exact ⟨.nils _ _, trivial⟩ | exact ⟨.lit _ rfl, trivial⟩) | cases h

theorem argOf_sound {N : Nat} {s : St} {a : Act} (hs : RS N s a w A sp) {x : Operand} {m : MArg} (h : argOf x = some m) :
    RV w A (m.ev s.env) (a.eval x) ∧ OwnOK sp (m.ev s.env) (a.eval x) := by
  cases x with
  | tmp t => injection h with h; subst h; exact hs.env t
  | const v =>
    simp only [argOf, Option.map_eq_some_iff] at h
    obtain ⟨y, hy, rfl⟩ := h
    exact ofVal_sound hy
  | global g => cases h
  | func f =>
    injection h with h; subst h
    refine ⟨.func _ _ _ _ _ rfl rfl (fun i => ?_) (fun i => ?_), trivial⟩ <;> simp <;> exact .any _

theorem argOfT_sound {P : Program} {t : TypeId} {N : Nat} {s : St} {a : Act} (hs : RS N s a w A sp) {x : Operand} {m : MArg} (h : argOfT P t x = some m) :
    RV w A (m.ev s.env) (a.eval x) ∧ OwnOK sp (m.ev s.env) (a.eval x) := by
  unfold argOfT at h
  split at h
  · split at h
    · simp only [Option.map_eq_some_iff] at h
      obtain ⟨n, _, rfl⟩ := h
      exact ⟨.nils _ _, trivial⟩
    · exact argOf_sound hs h
  · exact argOf_sound hs h
end

end Go.Avm
