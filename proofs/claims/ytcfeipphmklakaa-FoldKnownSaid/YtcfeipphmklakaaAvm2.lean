/- The resolved code of the layer Avm, and what is to be shown of it. -/
import Derived.Test.YtcfeipphmklakaaAvm1
import Derived.KernelRfl
namespace Go.Avm

inductive MArg where
  | t (n : Nat)
  | c (x : AV)
  deriving Inhabited

def MArg.ev (e : Nat → AV) : MArg → AV
  | .t n => e n
  | .c x => x

inductive MOp where
  | cpy (d : Nat) (x : MArg)
  | cpyS (d : Nat) (x : MArg)
  | asg (d : Nat) (x : MArg)
  | asgNil (d sz : Nat)
  | boxI (d : Nat) (x : MArg) (n : Nat)
  | boxM (d : Nat) (x : MArg) (n : Nat)
  | alloc (d : Nat) (zero : List AV)
  | load (d : Nat) (x : MArg) (n : Option Nat)
  | store (x y : MArg) (n oid : Nat)
  | storeNil (x : MArg) (sz oid : Nat)
  | storeF (k : Nat) (y : MArg) (n : Nat)
  | addr (d : Nat) (x : MArg) (off : Nat)
  | idxS (d : Nat) (x i : MArg) (sz : Nat)
  | idxA (d : Nat) (x i : MArg) (len sz : Nat)
  | fld (d : Nat) (x : MArg) (off : Nat) (n : Option Nat)
  | idxV (d : Nat) (x i : MArg) (len sz : Nat) (n : Option Nat)
  | idxStr (d : Nat) (x i : MArg)
  | build (d : Nat) (zero : List AV) (parts : List (Nat × Nat × MArg))
  | mkS (d n sz : Nat) (zero : List AV) (parts : List (Nat × MArg))
  | len (d : Nat) (x : MArg)
  | lenStr (d : Nat) (x : MArg)
  | lenK (d n : Nat)
  | app (d : Nat) (x y : MArg) (sz bytes : Nat)
  | bin (d : Nat) (op : BinOp) (x y : MArg)
  | binB (d : Nat) (neg : Bool) (x y : MArg)
  | binA (d : Nat) (neg : Bool) (n : List Bool) (x y : MArg)
  | loadI (d : Nat) (x : MArg) (n : Option Nat)
  | not (d : Nat) (x : MArg)
  | neg (d : Nat) (x : MArg)
  | conv (d : Nat) (k : IntKind) (x : MArg)
  | pick (d : Nat) (c x y : MArg)
  | ext (d : Nat) (x : MArg) (i : Nat)
  | maxI (d : Nat) (x y : MArg)
  | minI (d : Nat) (x y : MArg)
  | call (d : Nat) (f : FuncId) (xs : List MArg)
  | callv (d : Nat) (x : MArg) (xs : List MArg)
  | mkfn (d : Nat) (fn : Fn) (first cap : List MArg)
  | nilchk (d : Nat) (x : MArg)
  | slcHi (d : Nat) (x hi : MArg) (sz : Nat)
  | slcLo (d : Nat) (x lo : MArg) (sz : Nat)
  | cpyE (d : Nat) (x : MArg)
  | apart (zs : List MArg) (x : MArg) (m : MOp)
  | guard (g : Nat) (want : Bool) (d : Option Nat) (m : MOp)
  | yld (d : Nat) (x : MArg) (xs : List MArg)
  | mkM (d : Nat) (n c : MArg) (sz bytes : Nat) (zero : List AV)
  | cpyM (d : Nat) (x y : MArg) (sz : Nat)
  | rngS (d : Nat) (x : MArg)
  | nxtS (d : Nat) (x : MArg)
  | mkMap (d : Nat)
  | mapUpd (x k v : MArg) (n : Option Nat)
  | lookup (d : Nat) (x k : MArg) (n : Option Nat) (ok : Bool) (zero : AV)
  | frz (k : Nat)
  | strLo (d : Nat) (x lo : MArg)
  deriving Inhabited

def inK : IntKind → Int → Prop
  | .i8, n => -128 ≤ n ∧ n ≤ 127
  | .i16, n => -32768 ≤ n ∧ n ≤ 32767
  | .i32, n => -2147483648 ≤ n ∧ n ≤ 2147483647
  | .i64, n => -9223372036854775808 ≤ n ∧ n ≤ 9223372036854775807
  | .u8, n => 0 ≤ n ∧ n ≤ 255
  | .u16, n => 0 ≤ n ∧ n ≤ 65535
  | .u32, n => 0 ≤ n ∧ n ≤ 4294967295
  | .u64, n => 0 ≤ n ∧ n ≤ 18446744073709551615

def bitI (op : BinOp) (k : IntKind) (x y : Int) : Int :=
  let a := BitVec.ofInt k.bits x
  let b := BitVec.ofInt k.bits y
  match op with
  | .and => k.wrap (a &&& b).toNat
  | .or => k.wrap (a ||| b).toNat
  | .xor => k.wrap (a ^^^ b).toNat
  | _ => k.wrap (a &&& ~~~b).toNat

def binI (op : BinOp) (k : IntKind) (a b : Int) (K : AV → Prop) : Prop :=
  match op with
  | .add => inK k (a + b) ∧ K (.lit (.int k (a + b)))
  | .sub => inK k (a - b) ∧ K (.lit (.int k (a - b)))
  | .mul => inK k (a * b) ∧ K (.lit (.int k (a * b)))
  | .quo => b ≠ 0 ∧ inK k (a.tdiv b) ∧ K (.lit (.int k (a.tdiv b)))
  | .rem => b ≠ 0 ∧ K (.lit (.int k (a.tmod b)))
  | .and | .or | .xor | .andNot => K (.lit (.int k (bitI op k a b)))
  | .eql => K (.lit (.bool (a == b)))
  | .neq => K (.lit (.bool (a != b)))
  | .lss => K (.lit (.bool (decide (a < b))))
  | .leq => K (.lit (.bool (decide (a ≤ b))))
  | .gtr => K (.lit (.bool (decide (a > b))))
  | .geq => K (.lit (.bool (decide (a ≥ b))))
  | _ => False

def shI (op : BinOp) (k : IntKind) (a b : Int) (K : AV → Prop) : Prop :=
  match op with
  | .shl => 0 ≤ b ∧ K (.lit (.int k (k.wrap (a * 2 ^ (min b.toNat k.bits)))))
  | .shr => 0 ≤ b ∧ K (.lit (.int k (a.fdiv (2 ^ (min b.toNat k.bits)))))
  | _ => False

def binS (op : BinOp) (a b : ByteArray) (K : AV → Prop) : Prop :=
  match op with
  | .eql => K (.lit (.bool (a.toList == b.toList)))
  | .neq => K (.lit (.bool (!(a.toList == b.toList))))
  | .lss => K (.lit (.bool (Op.bytesLess a.toList b.toList)))
  | .leq => K (.lit (.bool (Op.bytesLess a.toList b.toList || a.toList == b.toList)))
  | .gtr => K (.lit (.bool (!(Op.bytesLess a.toList b.toList || a.toList == b.toList))))
  | .geq => K (.lit (.bool (!Op.bytesLess a.toList b.toList)))
  | _ => False

def binK (op : BinOp) (x y : AV) (K : AV → Prop) : Prop :=
  match x, y with
  | .lit (.int k a), .lit (.int k' b) => match op with
    | .shl => shI .shl k a b K
    | .shr => shI .shr k a b K
    | _ => k = k' ∧ binI op k a b K
  | .lit (.string a), .lit (.string b) => binS op a b K
  | _, _ => False

def St.dem (r : Nat) (s : St) : St := ⟨fun k => demote r (s.env k), fun b => (s.loc b).map (·.map (demote r))⟩
def St.set (s : St) (d : Nat) (x : AV) : St := ⟨upd s.env d x, s.loc⟩
def St.new (s : St) (b : Nat) (cs : List AV) : St := ⟨s.env, upd s.loc b (some cs)⟩

def asgSt (s : St) (d : Nat) : AV → St
  | .slice sz xs r => if r = 0 then s.set d (.slice sz xs 0) else ((s.dem r).dem (d + 1)).set d (.slice sz xs (d + 1))
  | x => s.set d x

/-- A part of some cells, as a value. -/
def partK (cs : List AV) (off : Nat) (n : Option Nat) (K : AV → Prop) : Prop :=
  match n with
  | none => off < cs.length ∧ K (cs.getD off .any)
  | some n => off + n ≤ cs.length ∧ K (AV.agg ((cs.drop off).take n)).erase

def loadK (loc : Nat → Option (List AV)) (x : AV) (n : Option Nat) (K : AV → Prop) : Prop :=
  match x with
  | .ref cs => partK cs 0 n fun v => K v.erase
  | .mref b off => match loc b with
    | some cs => partK cs off n K
    | none => False
  | _ => False


def splice (cs : List AV) (off : Nat) : List AV → List AV
  | [] => cs
  | v :: vs => splice (cs.set off v) (off + 1) vs

def storeK (s : St) (x y : AV) (n oid : Nat) (K : St → Prop) : Prop :=
  match x with
  | .mref b off => match s.loc b with
    | some cs => off + n ≤ cs.length ∧ y.cells.length = n ∧ y.cells.all AV.cell1 = true ∧
      match y with
      | .slice sz xs r => if r = 0 ∨ oid = 0 then K (s.new b (splice cs off [.slice sz xs 0]))
          else K (((s.dem r).dem oid).new b ((cs.map (fun x => demote oid (demote r x))).set off (.slice sz xs oid)))
      | y => K (s.new b (splice cs off (y.cells.map AV.erase0)))
    | none => False
  | _ => False

def fillK (e : Nat → AV) (cs : List AV) : List (Nat × Nat × MArg) → (List AV → Prop) → Prop
  | [], K => K cs
  | (off, n, x) :: ps, K => (x.ev e).cells.length = n ∧ off + n ≤ cs.length ∧ fillK e (splice cs off ((x.ev e).cells.map AV.erase0)) ps K

def fillS (e : Nat → AV) (sz : Nat) (xs : List AV) : List (Nat × MArg) → (List AV → Prop) → Prop
  | [], K => K xs
  | (i, x) :: ps, K => (x.ev e).cells.length = sz ∧ (x.ev e).cells.all AV.cell1 = true ∧ i < xs.length ∧ fillS e sz (xs.set i (x.ev e).erase) ps K

/-- Are these cells the same? true: a boolean, false: an integer. -/
def eqCells : List Bool → List AV → List AV → Option Bool
  | [], [], [] => some true
  | false :: ks, .lit (.int k a) :: xs, .lit (.int k' b) :: ys => if k = k' then (eqCells ks xs ys).map (a == b && ·) else none
  | true :: ks, .lit (.bool a) :: xs, .lit (.bool b) :: ys => (eqCells ks xs ys).map (a == b && ·)
  | _, _, _ => none

def asBig (n : Nat) : Prop := n ≤ 140737488355328

/-- What f hands back, of arguments that are never written, when it writes nothing that was there. -/
def Fr (w w' : World) : Prop := w'.os = w.os ∧ w'.tape = w.tape ∧ w'.output = w.output ∧ w.heap.size ≤ w'.heap.size ∧ ∀ b, b < w.heap.size → w'.heap[b]? = w.heap[b]?

def isFunc (P : Program) (f : FuncId) : Bool :=
  match P.funcs[f]? with
  | some fn => fn.name != "runtime.NumGoroutine" && fn.body.isSome
  | none => false

def PCall (P : Program) (f : FuncId) (xs : List AV) (r : AV) : Prop :=
  isFunc P f = true ∧
  ∀ (w : World) (A : Area) (vs : Array Value), (∀ b o, A b o → b < w.heap.size) → vs.size = xs.length → (∀ i, RV w A (xs.getD i .any) (vs.getD i undef)) →
    Calls P f vs w fun e w' => ∃ v A', e = .returned v ∧ Fr w w' ∧ (∀ b o, A b o → A' b o) ∧ (∀ b o, A' b o → A b o ∨ (w.heap.size ≤ b ∧ b < w'.heap.size)) ∧ RV w' A' r v

/-- The slot of the ghost: what an iterator has still to yield. -/
@[irreducible] def gS : Nat := 1000000

/-- The slots of the objects that are no cells: of block b, the slot oS + b. -/
@[irreducible] def oS : Nat := 1000001
def itAV (t : ByteArray) (pos : Nat) : AV := .ghost pos [[.lit (.string t)]] true
def mapAV (es : List (List AV)) : AV := .ghost 0 es false

/-- Are two keys the same? -/
def keyEq : AV → AV → Option Bool
  | .lit (.int k a), .lit (.int k' b) => if k = k' then some (a == b) else none
  | .agg xs, .agg ys => eqCells (List.replicate xs.length false) xs ys
  | _, _ => none

/-- The elements of a row of cells. -/
def chunk (sz : Nat) : List AV → Nat → List AV
  | _, 0 => []
  | cs, n + 1 => (if sz = 1 then (cs.getD 0 .any).erase0 else .agg ((cs.take sz).map AV.erase0)) :: chunk sz (cs.drop sz) n

/-- A key of a map whose keys are integers, or structs of n integers. -/
def keyOK : Option Nat → AV → Prop
  | none, .lit (.int _ _) => True
  | some n, .agg xs => xs.length = n
  | _, _ => False

/-- Where a key stands among entries. -/
def keyAt (k : AV) : List (List AV) → Nat → Option (Option Nat)
  | [], _ => some none
  | e :: es, i => match keyEq k (e.getD 0 .any) with
    | some true => some (some i)
    | some false => keyAt k es (i + 1)
    | none => none

def apartAV : AV → AV → Prop
  | .mref b' _, .mref b _ => b' ≠ b
  | .ref _, .mref _ _ => True
  | _, _ => False

def vc1 (P : Program) : MOp → St → (St → Prop) → Prop
  | .cpy d x, s, K => K (s.set d (x.ev s.env))
  | .cpyS d x, s, K => match x.ev s.env with
    | .lit (.string t) => K (s.set d (.lit (.string t)))
    | _ => False
  | .asg d x, s, K => K (asgSt s d (x.ev s.env))
  | .asgNil d sz, s, K => K ((s.dem (d + 1)).set d (.slice sz [] (d + 1)))
  | .boxI d x n, s, K => (x.ev s.env).cells.length = n ∧ K (s.set d (.ref ((x.ev s.env).cells.map AV.erase0)))
  | .boxM d x n, s, K => (x.ev s.env).cells.length = n ∧ ∀ b, s.loc b = none → K ((s.new b ((x.ev s.env).cells.map AV.erase0)).set d (.mref b 0))
  | .alloc d zero, s, K => ∀ b, s.loc b = none → K ((s.new b zero).set d (.mref b 0))
  | .load d x n, s, K => loadK s.loc (x.ev s.env) n fun v => K (s.set d v)
  | .store x y n oid, s, K => storeK s (x.ev s.env) (y.ev s.env) n oid K
  | .storeNil x sz oid, s, K => match x.ev s.env with
    | .mref b off => match s.loc b with
      | some cs => off < cs.length ∧ K ((s.dem oid).new b ((cs.map (demote oid)).set off (.slice sz [] oid)))
      | none => False
    | _ => False
  | .storeF k y n, s, K => match s.env k with
    | .mref b 0 => match s.loc b with
      | some cs => cs.length = n ∧ (y.ev s.env).cells.length = n ∧ (y.ev s.env).cells.all AV.cell1 = true ∧ K ⟨upd s.env k (.ref ((y.ev s.env).cells.map AV.erase0)), upd s.loc b none⟩
      | none => False
    | _ => False
  | .addr d x off, s, K => match x.ev s.env with
    | .ref cs => K (s.set d (.ref (cs.drop off)))
    | .mref b o => K (s.set d (.mref b (o + off)))
    | _ => False
  | .idxS d x i sz, s, K => match x.ev s.env, i.ev s.env with
    | .slice sz' xs _, .lit (.int _ n) => sz' = sz ∧ 0 ≤ n ∧ n < xs.length ∧ K (s.set d (.ref (xs.getD n.toNat .any).cells))
    | .mslice b off len _ sz', .lit (.int _ n) => sz' = sz ∧ 0 ≤ n ∧ n < len ∧ K (s.set d (.mref b (off + n.toNat * sz)))
    | _, _ => False
  | .idxA d x i len sz, s, K => match x.ev s.env, i.ev s.env with
    | .ref cs, .lit (.int _ n) => 0 ≤ n ∧ n < len ∧ K (s.set d (.ref (cs.drop (n.toNat * sz))))
    | .mref b off, .lit (.int _ n) => 0 ≤ n ∧ n < len ∧ K (s.set d (.mref b (off + n.toNat * sz)))
    | _, _ => False
  | .fld d x off n, s, K => match x.ev s.env with
    | .agg cs => partK cs off n fun v => K (s.set d v.erase)
    | _ => False
  | .idxV d x i len sz n, s, K => match x.ev s.env, i.ev s.env with
    | .agg cs, .lit (.int _ j) => 0 ≤ j ∧ j < len ∧ partK cs (j.toNat * sz) n fun v => K (s.set d v.erase)
    | _, _ => False
  | .idxStr d x i, s, K => match x.ev s.env, i.ev s.env with
    | .lit (.string t), .lit (.int _ j) => 0 ≤ j ∧ j < t.size ∧ K (s.set d (.lit (.int .u8 (t.data.toList.getD j.toNat 0).toNat)))
    | _, _ => False
  | .build d zero ps, s, K => fillK s.env zero ps fun cs => K (s.set d (.agg cs))
  | .mkS d n sz zero ps, s, K => fillS s.env sz (List.replicate n (if sz = 1 then zero.getD 0 .any else .agg zero)) ps fun xs => K ((s.dem (d + 1)).set d (.slice sz xs (d + 1)))
  | .len d x, s, K => match x.ev s.env with
    | .slice _ xs _ => K (s.set d (.lit (.int .i64 xs.length)))
    | .mslice _ _ len _ _ => K (s.set d (.lit (.int .i64 len)))
    | _ => False
  | .lenStr d x, s, K => match x.ev s.env with
    | .lit (.string t) => K (s.set d (.lit (.int .i64 t.size)))
    | _ => False
  | .lenK d n, s, K => K (s.set d (.lit (.int .i64 n)))
  | .app d x y sz bytes, s, K => match x.ev s.env, y.ev s.env with
    | .slice szx xs r, .slice szy ys _ => r ≠ 0 ∧ szx = sz ∧ (szy = sz ∨ ys = []) ∧ (xs.length + ys.length) * bytes ≤ 140737488355328 ∧ xs.length + ys.length ≤ 140737488355328 ∧
        K (((s.dem r).dem (d + 1)).set d (.slice sz (xs ++ ys) (d + 1)))
    | _, _ => False
  | .bin d op x y, s, K => binK op (x.ev s.env) (y.ev s.env) fun v => K (s.set d v)
  | .binB d neg x y, s, K => match x.ev s.env, y.ev s.env with
    | .lit (.bool a), .lit (.bool b) => K (s.set d (.lit (.bool (if neg then !(a == b) else a == b))))
    | _, _ => False
  | .binA d neg n x y, s, K => match x.ev s.env, y.ev s.env with
    | .agg a, .agg b => a.length = n.length ∧ b.length = n.length ∧ ∃ q, eqCells n a b = some q ∧ K (s.set d (.lit (.bool (if neg then !q else q))))
    | _, _ => False
  | .not d x, s, K => match x.ev s.env with
    | .lit (.bool a) => K (s.set d (.lit (.bool (!a))))
    | _ => False
  | .neg d x, s, K => match x.ev s.env with
    | .lit (.int k a) => inK k (0 - a) ∧ K (s.set d (.lit (.int k (0 - a))))
    | _ => False
  | .conv d k x, s, K => match x.ev s.env with
    | .lit (.int _ a) => K (s.set d (.lit (.int k (k.wrap a))))
    | _ => False
  | .pick d c x y, s, K => match c.ev s.env with
    | .lit (.bool b) => K (s.set d (if b then x.ev s.env else y.ev s.env))
    | _ => False
  | .ext d x i, s, K => match x.ev s.env with
    | .tuple vs => i < vs.length ∧ K (s.set d (vs.getD i .any).erase)
    | _ => False
  | .maxI d x y, s, K => match x.ev s.env, y.ev s.env with
    | .lit (.int k a), .lit (.int _ b) => K (s.set d (.lit (.int k (if b > a then b else a))))
    | _, _ => False
  | .minI d x y, s, K => match x.ev s.env, y.ev s.env with
    | .lit (.int k a), .lit (.int _ b) => K (s.set d (.lit (.int k (if b < a then b else a))))
    | _, _ => False
  | .call d f xs, s, K => ∃ r, PCall P f (xs.map fun x => (x.ev s.env).erase) r ∧ K (s.set d r.erase)
  | .callv d x xs, s, K => match x.ev s.env with
    | .func (.func f) first cap => ∃ r, PCall P f (first ++ (xs.map fun x => (x.ev s.env).erase) ++ cap) r ∧ K (s.set d r.erase)
    | _ => False
  | .mkfn d fn first cap, s, K => K (s.set d (.func fn (first.map fun x => (x.ev s.env).erase) (cap.map fun x => (x.ev s.env).erase)))
  | .nilchk d x, s, K => match x.ev s.env with
    | .ref cs => K (s.set d (.ref cs))
    | .mref b o => K (s.set d (.mref b o))
    | _ => False
  | .slcHi d x hi sz, s, K => match x.ev s.env, hi.ev s.env with
    | .slice sz' xs _, .lit (.int _ n) => (sz' = sz ∨ xs = []) ∧ 0 ≤ n ∧ n ≤ xs.length ∧ K (s.set d (.slice sz (xs.take n.toNat) 0))
    | _, _ => False
  | .slcLo d x lo sz, s, K => match x.ev s.env, lo.ev s.env with
    | .slice sz' xs _, .lit (.int _ n) => (sz' = sz ∨ xs = []) ∧ 0 ≤ n ∧ n ≤ xs.length ∧ K (s.set d (.slice sz (xs.drop n.toNat) 0))
    | _, _ => False
  | .cpyE d x, s, K => K (s.set d (x.ev s.env).erase)
  | .apart zs x m, s, K => (∀ z ∈ zs, apartAV (z.ev s.env) (x.ev s.env)) ∧ vc1 P m s K
  | .guard g want d m, s, K => match s.env g with
    | .lit (.bool b) => (b = want → vc1 P m s K) ∧ (b = (!want) → K (match d with | some d => s.set d (.tuple []) | none => s))
    | .tuple [] => K (match d with | some d => s.set d (.tuple []) | none => s)
    | _ => False
  | .yld d x xs, s, K => match x.ev s.env, s.env gS with
    | .func (.yield l) [] [], .ghost l' (y :: rest) false => l = l' ∧ (xs.map fun x => (x.ev s.env).erase) = y ∧
        K ((s.set gS (.ghost l rest false)).set d (.lit (.bool true))) ∧ K ((s.set gS (.ghost l rest true)).set d (.lit (.bool false)))
    | _, _ => False
  | .mkM d n c sz bytes zero, s, K => match n.ev s.env, c.ev s.env with
    | .lit (.int .i64 n), .lit (.int .i64 c) => 0 ≤ n ∧ n ≤ c ∧ c * (bytes : Int) ≤ 140737488355328 ∧ c ≤ 140737488355328 ∧ c * (sz : Int) ≤ 140737488355328 ∧
        ∀ b, s.loc b = none → K ((s.new b (List.replicate c.toNat zero).flatten).set d (.mslice b 0 n.toNat c.toNat sz))
    | _, _ => False
  | .cpyM d x y sz, s, K => match x.ev s.env, y.ev s.env with
    | .mslice b off len _ sz', .slice sz2 ys _ => match s.loc b with
      | some cs => sz' = sz ∧ (sz2 = sz ∨ ys = []) ∧ off + len * sz ≤ cs.length ∧
          K ((s.new b (splice cs off (((ys.take (min ys.length len)).flatMap AV.cells).map AV.erase0))).set d (.lit (.int .i64 (min ys.length len : Nat))))
      | none => False
    | _, _ => False
  | .rngS d x, s, K => match x.ev s.env with
    | .lit (.string t) => ∀ b, s.loc b = none → s.env (oS + b) = .any → K ((s.set (oS + b) (itAV t 0)).set d (.mref b 0))
    | _ => False
  | .nxtS d x, s, K => match x.ev s.env with
    | .mref b 0 => ∃ t pos, s.env (oS + b) = itAV t pos ∧
        (pos < t.size → K ((s.set (oS + b) (itAV t (pos + (Utf8.decode t pos).2))).set d (.tuple [.lit (.bool true), .lit (.int .i64 pos), .lit (.int .i32 (Utf8.decode t pos).1)]))) ∧
        (¬ pos < t.size → K (s.set d (.tuple [.lit (.bool false)])))
    | _ => False
  | .mkMap d, s, K => ∀ b, s.loc b = none → s.env (oS + b) = .any → K ((s.set (oS + b) (mapAV [])).set d (.mapr b))
  | .mapUpd x k v n, s, K => match x.ev s.env with
    | .mapr b => ∃ es, s.env (oS + b) = mapAV es ∧ keyOK n (k.ev s.env).erase ∧ match keyAt (k.ev s.env).erase es 0 with
      | some (some i) => K (s.set (oS + b) (mapAV (es.set i [(k.ev s.env).erase, (v.ev s.env).erase])))
      | some none => K (s.set (oS + b) (mapAV (es ++ [[(k.ev s.env).erase, (v.ev s.env).erase]])))
      | none => False
    | _ => False
  | .lookup d x k n ok zero, s, K => match x.ev s.env with
    | .mapr b => ∃ es, s.env (oS + b) = mapAV es ∧ keyOK n (k.ev s.env).erase ∧ match keyAt (k.ev s.env).erase es 0 with
      | some (some i) => K (s.set d (if ok then .tuple [((es.getD i []).getD 1 .any), .lit (.bool true)] else ((es.getD i []).getD 1 .any).erase))
      | some none => K (s.set d (if ok then .tuple [zero, .lit (.bool false)] else zero.erase))
      | none => False
    | _ => False
  | .loadI d x n, s, K => match x.ev s.env with
    | .ref cs => partK cs 0 n fun v => K (s.set d v.erase)
    | _ => False
  | .strLo d x lo, s, K => match x.ev s.env, lo.ev s.env with
    | .lit (.string t), .lit (.int _ n) => 0 ≤ n ∧ n ≤ t.size ∧ K (s.set d (.lit (.string (t.extract n.toNat t.size))))
    | _, _ => False
  | .frz k, s, K => match s.env k with
    | .mslice b 0 len _ sz => match s.loc b with
      | some cs => len * sz ≤ cs.length ∧ cs.all AV.cell1 = true ∧ len ≤ 140737488355328 ∧ K ⟨upd s.env k (.slice sz (chunk sz cs len) 0), upd s.loc b none⟩
      | none => False
    | _ => False

def vcs (P : Program) : List MOp → (St → Prop) → St → Prop
  | [], K, s => K s
  | m :: ms, K, s => vc1 P m s (vcs P ms K)

end Go.Avm
