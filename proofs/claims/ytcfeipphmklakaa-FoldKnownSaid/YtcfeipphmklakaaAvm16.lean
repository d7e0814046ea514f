/- The rules by which a walk over resolved code goes: one head for each operation that looks at its operands. -/
import Derived.Test.YtcfeipphmklakaaAvm15b
namespace Go.Avm

section
variable (P : Program) (ms : List MOp) (K : St → Prop) (s : St)

theorem env_set (d k : Nat) (x : AV) : (s.set d x).env k = if k = d then x else s.env k := rfl
theorem loc_set (d : Nat) (x : AV) : (s.set d x).loc = s.loc := rfl
theorem env_new (b k : Nat) (cs : List AV) : (s.new b cs).env k = s.env k := rfl
theorem loc_new (b c : Nat) (cs : List AV) : (s.new b cs).loc c = if c = b then some cs else s.loc c := rfl
theorem env_dem (r k : Nat) : (s.dem r).env k = demote r (s.env k) := rfl
theorem loc_dem (r b : Nat) : (s.dem r).loc b = (s.loc b).map (·.map (demote r)) := rfl
def St.frz (s : St) (k b : Nat) (cs : List AV) : St := ⟨upd s.env k (.ref cs), upd s.loc b none⟩
theorem env_frz (k b j : Nat) (cs : List AV) : (s.frz k b cs).env j = if j = k then .ref cs else s.env j := rfl
theorem loc_frz (k b c : Nat) (cs : List AV) : (s.frz k b cs).loc c = if c = b then none else s.loc c := rfl
theorem ev_t (e : Nat → AV) (n : Nat) : MArg.ev e (.t n) = e n := rfl
theorem ev_c (e : Nat → AV) (x : AV) : MArg.ev e (.c x) = x := rfl
theorem env_mk (e : Nat → AV) (l : Nat → Option (List AV)) (k : Nat) : (St.mk e l).env k = e k := rfl
theorem loc_mk (e : Nat → AV) (l : Nat → Option (List AV)) : (St.mk e l).loc = l := rfl
theorem init_at (xs : List AV) (k : Nat) : initEnv xs k = (xs.getD k .any).erase := rfl
theorem erase_lit (v : Value) : (AV.lit v).erase = .lit v := rfl
theorem erase_slice (sz : Nat) (xs : List AV) (r : Nat) : (AV.slice sz xs r).erase = .slice sz xs 0 := rfl
theorem erase_agg (cs : List AV) : (AV.agg cs).erase = .agg (cs.map AV.erase0) := rfl
theorem erase_ref (cs : List AV) : (AV.ref cs).erase = .ref cs := rfl
theorem erase_mref (b o : Nat) : (AV.mref b o).erase = .mref b o := rfl
theorem erase_func (f : Fn) (a b : List AV) : (AV.func f a b).erase = .func f a b := rfl
theorem erase_tuple (a : List AV) : (AV.tuple a).erase = .tuple a := rfl
theorem erase_any : AV.any.erase = .any := rfl
theorem erase0_lit (v : Value) : (AV.lit v).erase0 = .lit v := rfl
theorem erase0_slice (sz : Nat) (xs : List AV) (r : Nat) : (AV.slice sz xs r).erase0 = .slice sz xs 0 := rfl
theorem erase0_ref (cs : List AV) : (AV.ref cs).erase0 = .ref cs := rfl
theorem erase0_mref (b o : Nat) : (AV.mref b o).erase0 = .mref b o := rfl
theorem erase0_func (f : Fn) (a b : List AV) : (AV.func f a b).erase0 = .func f a b := rfl
theorem dem_lit (r : Nat) (v : Value) : demote r (.lit v) = .lit v := rfl
theorem dem_slice (r sz : Nat) (xs : List AV) (q : Nat) : demote r (.slice sz xs q) = if q = r then .slice sz xs 0 else .slice sz xs q := rfl
theorem dem_ref (r : Nat) (cs : List AV) : demote r (.ref cs) = .ref cs := rfl
theorem dem_mref (r b o : Nat) : demote r (.mref b o) = .mref b o := rfl
theorem dem_agg (r : Nat) (cs : List AV) : demote r (.agg cs) = .agg cs := rfl
theorem dem_any (r : Nat) : demote r .any = .any := rfl
theorem dem_func (r : Nat) (f : Fn) (a b : List AV) : demote r (.func f a b) = .func f a b := rfl
theorem dem_tuple (r : Nat) (a : List AV) : demote r (.tuple a) = .tuple a := rfl
theorem cells_lit (v : Value) : (AV.lit v).cells = [.lit v] := rfl
theorem cells_slice (sz : Nat) (xs : List AV) (q : Nat) : (AV.slice sz xs q).cells = [.slice sz xs q] := rfl
theorem cells_agg (cs : List AV) : (AV.agg cs).cells = cs := rfl
theorem cells_ref (cs : List AV) : (AV.ref cs).cells = [.ref cs] := rfl
theorem cells_mref (b o : Nat) : (AV.mref b o).cells = [.mref b o] := rfl
theorem cells_func (f : Fn) (a b : List AV) : (AV.func f a b).cells = [.func f a b] := rfl
theorem splice_nil (cs : List AV) (o : Nat) : splice cs o [] = cs := rfl
theorem splice_cons (cs : List AV) (o : Nat) (v : AV) (vs : List AV) : splice cs o (v :: vs) = splice (cs.set o v) (o + 1) vs := rfl

theorem v_nil : vcs P [] K s = K s := rfl
theorem v_cpy (d : Nat) (x : MArg) : vcs P (.cpy d x :: ms) K s = vcs P ms K (s.set d (x.ev s.env)) := rfl
theorem v_asg (d : Nat) (x : MArg) : vcs P (.asg d x :: ms) K s = vcs P ms K (asgSt s d (x.ev s.env)) := rfl
theorem asg_lit (d : Nat) (v : Value) : asgSt s d (.lit v) = s.set d (.lit v) := rfl
theorem asg_agg (d : Nat) (cs : List AV) : asgSt s d (.agg cs) = s.set d (.agg cs) := rfl
theorem asg_ref (d : Nat) (cs : List AV) : asgSt s d (.ref cs) = s.set d (.ref cs) := rfl
theorem asg_func (d : Nat) (f : Fn) (a b : List AV) : asgSt s d (.func f a b) = s.set d (.func f a b) := rfl
theorem asg_sl0 (d sz : Nat) (xs : List AV) : asgSt s d (.slice sz xs 0) = s.set d (.slice sz xs 0) := rfl
theorem asg_sl (d sz : Nat) (xs : List AV) (r : Nat) : asgSt s d (.slice sz xs r) = if r = 0 then s.set d (.slice sz xs 0) else ((s.dem r).dem (d + 1)).set d (.slice sz xs (d + 1)) := rfl
theorem v_asgNil (d sz : Nat) : vcs P (.asgNil d sz :: ms) K s = vcs P ms K ((s.dem (d + 1)).set d (.slice sz [] (d + 1))) := rfl
theorem v_boxI (d n : Nat) (x : MArg) : vcs P (.boxI d x n :: ms) K s = ((x.ev s.env).cells.length = n ∧ vcs P ms K (s.set d (.ref ((x.ev s.env).cells.map AV.erase0)))) := rfl
theorem v_lenK (d n : Nat) : vcs P (.lenK d n :: ms) K s = vcs P ms K (s.set d (.lit (.int .i64 n))) := rfl
theorem v_mkfn (d : Nat) (fn : Fn) (a b : List MArg) : vcs P (.mkfn d fn a b :: ms) K s = vcs P ms K (s.set d (.func fn (a.map fun x => (x.ev s.env).erase) (b.map fun x => (x.ev s.env).erase))) := rfl

/-- A part of cells, loaded. -/
def vPart (d : Nat) (cs : List AV) (off : Nat) (e : Bool) : Option Nat → Prop
  | none => off < cs.length ∧ vcs P ms K (s.set d (if e then (cs.getD off .any).erase else cs.getD off .any))
  | some n => off + n ≤ cs.length ∧ vcs P ms K (s.set d (.agg (((cs.drop off).take n).map AV.erase0)))

theorem erase_erase (x : AV) : x.erase.erase = x.erase := by
  cases x <;> first | rfl | skip
  show AV.agg _ = AV.agg _
  rw [map_erase0]

def vLoadL (d : Nat) (off : Nat) (n : Option Nat) : Option (List AV) → Prop
  | some cs => vPart P ms K s d cs off false n
  | none => False

def vLoad (d : Nat) (n : Option Nat) : AV → Prop
  | .ref cs => vPart P ms K s d cs 0 true n
  | .mref b off => vLoadL P ms K s d off n (s.loc b)
  | _ => False

theorem v_load (d : Nat) (x : MArg) (n : Option Nat) : vcs P (.load d x n :: ms) K s = vLoad P ms K s d n (x.ev s.env) := by
  rw [show vcs P (.load d x n :: ms) K s = loadK s.loc (x.ev s.env) n (fun v => vcs P ms K (s.set d v)) from rfl]
  unfold loadK vLoad
  cases x.ev s.env <;> first | rfl | skip
  cases n with
  | none => rfl
  | some k => simp only [vPart, partK, erase_erase]; rfl
def vStoreL (off n oid : Nat) (b : Nat) (y : AV) : Option (List AV) → Prop
  | some cs => off + n ≤ cs.length ∧ y.cells.length = n ∧ y.cells.all AV.cell1 = true ∧
      match y with
      | .slice sz xs r => if r = 0 ∨ oid = 0 then vcs P ms K (s.new b (splice cs off [.slice sz xs 0]))
          else vcs P ms K (((s.dem r).dem oid).new b ((cs.map (fun x => demote oid (demote r x))).set off (.slice sz xs oid)))
      | y => vcs P ms K (s.new b (splice cs off (y.cells.map AV.erase0)))
  | none => False

def vStore (n oid : Nat) (y : AV) : AV → Prop
  | .mref b off => vStoreL P ms K s off n oid b y (s.loc b)
  | _ => False

theorem v_store (x y : MArg) (n oid : Nat) : vcs P (.store x y n oid :: ms) K s = vStore P ms K s n oid (y.ev s.env) (x.ev s.env) := by
  rw [show vcs P (.store x y n oid :: ms) K s = storeK s (x.ev s.env) (y.ev s.env) n oid (vcs P ms K) from rfl]
  unfold storeK vStore
  cases x.ev s.env <;> first | rfl | skip

def vStoreF (k n : Nat) (y : AV) : AV → Option (List AV) → Prop
  | .mref b 0, some cs => cs.length = n ∧ y.cells.length = n ∧ y.cells.all AV.cell1 = true ∧ vcs P ms K (s.frz k b (y.cells.map AV.erase0))
  | _, _ => False

def bOf : AV → Nat
  | .mref b _ => b
  | _ => 0

theorem v_storeF (k : Nat) (y : MArg) (n : Nat) : vcs P (.storeF k y n :: ms) K s = vStoreF P ms K s k n (y.ev s.env) (s.env k) (s.loc (bOf (s.env k))) := by
  show (match s.env k with | .mref b 0 => _ | _ => _) = _
  cases s.env k <;> first | rfl | skip
  rename_i b off
  cases off with
  | zero => simp only [bOf]; cases s.loc b <;> rfl
  | succ o => simp only [bOf]; cases s.loc b <;> rfl

def vAddr (d off : Nat) : AV → Prop
  | .ref cs => vcs P ms K (s.set d (.ref (cs.drop off)))
  | .mref b o => vcs P ms K (s.set d (.mref b (o + off)))
  | _ => False
theorem v_addr (d : Nat) (x : MArg) (off : Nat) : vcs P (.addr d x off :: ms) K s = vAddr P ms K s d off (x.ev s.env) := by
  show (match x.ev s.env with | .ref cs => _ | .mref b o => _ | _ => _) = _
  cases x.ev s.env <;> rfl

def vIdxS (d sz : Nat) : AV → AV → Prop
  | .slice sz' xs _, .lit (.int _ n) => sz' = sz ∧ 0 ≤ n ∧ n < xs.length ∧ vcs P ms K (s.set d (.ref (xs.getD n.toNat .any).cells))
  | .mslice b off len _ sz', .lit (.int _ n) => sz' = sz ∧ 0 ≤ n ∧ n < len ∧ vcs P ms K (s.set d (.mref b (off + n.toNat * sz)))
  | _, _ => False
theorem v_idxS (d : Nat) (x i : MArg) (sz : Nat) : vcs P (.idxS d x i sz :: ms) K s = vIdxS P ms K s d sz (x.ev s.env) (i.ev s.env) := by
  show (match x.ev s.env, i.ev s.env with | .slice sz' xs _, .lit (.int _ n) => _ | .mslice b off len _ sz', .lit (.int _ n) => _ | _, _ => _) = _
  unfold vIdxS; rfl

def vIdxA (d len sz : Nat) : AV → AV → Prop
  | .ref cs, .lit (.int _ n) => 0 ≤ n ∧ n < len ∧ vcs P ms K (s.set d (.ref (cs.drop (n.toNat * sz))))
  | .mref b off, .lit (.int _ n) => 0 ≤ n ∧ n < len ∧ vcs P ms K (s.set d (.mref b (off + n.toNat * sz)))
  | _, _ => False
theorem v_idxA (d : Nat) (x i : MArg) (len sz : Nat) : vcs P (.idxA d x i len sz :: ms) K s = vIdxA P ms K s d len sz (x.ev s.env) (i.ev s.env) := by
  unfold vIdxA; rfl

def vFld (d off : Nat) (n : Option Nat) : AV → Prop
  | .agg cs => vPart P ms K s d cs off true n
  | _ => False
theorem v_fld (d : Nat) (x : MArg) (off : Nat) (n : Option Nat) : vcs P (.fld d x off n :: ms) K s = vFld P ms K s d off n (x.ev s.env) := by
  show (match x.ev s.env with | .agg cs => _ | _ => _) = _
  cases x.ev s.env <;> first | rfl | skip
  cases n with
  | none => rfl
  | some k => simp only [vFld, vPart, partK, erase_erase]; rfl

def vIdxV (d len sz : Nat) (n : Option Nat) : AV → AV → Prop
  | .agg cs, .lit (.int _ j) => 0 ≤ j ∧ j < len ∧ vPart P ms K s d cs (j.toNat * sz) true n
  | _, _ => False
theorem v_idxV (d : Nat) (x i : MArg) (len sz : Nat) (n : Option Nat) : vcs P (.idxV d x i len sz n :: ms) K s = vIdxV P ms K s d len sz n (x.ev s.env) (i.ev s.env) := by
  show (match x.ev s.env, i.ev s.env with | .agg cs, .lit (.int _ j) => _ | _, _ => _) = _
  unfold vIdxV
  split
  · cases n with
    | none => rfl
    | some k => simp only [vPart, partK, erase_erase]; rfl
  · rfl

def vIdxStr (d : Nat) : AV → AV → Prop
  | .lit (.string t), .lit (.int _ j) => 0 ≤ j ∧ j < t.size ∧ vcs P ms K (s.set d (.lit (.int .u8 (t.data.toList.getD j.toNat 0).toNat)))
  | _, _ => False
theorem v_idxStr (d : Nat) (x i : MArg) : vcs P (.idxStr d x i :: ms) K s = vIdxStr P ms K s d (x.ev s.env) (i.ev s.env) := by unfold vIdxStr; rfl

def vLen (d : Nat) : AV → Prop
  | .slice _ xs _ => vcs P ms K (s.set d (.lit (.int .i64 xs.length)))
  | .mslice _ _ len _ _ => vcs P ms K (s.set d (.lit (.int .i64 len)))
  | _ => False
theorem v_len (d : Nat) (x : MArg) : vcs P (.len d x :: ms) K s = vLen P ms K s d (x.ev s.env) := by unfold vLen; rfl

def vLenStr (d : Nat) : AV → Prop
  | .lit (.string t) => vcs P ms K (s.set d (.lit (.int .i64 t.size)))
  | _ => False
theorem v_lenStr (d : Nat) (x : MArg) : vcs P (.lenStr d x :: ms) K s = vLenStr P ms K s d (x.ev s.env) := by unfold vLenStr; rfl

def vCpyS (d : Nat) : AV → Prop
  | .lit (.string t) => vcs P ms K (s.set d (.lit (.string t)))
  | _ => False
theorem v_cpyS (d : Nat) (x : MArg) : vcs P (.cpyS d x :: ms) K s = vCpyS P ms K s d (x.ev s.env) := by unfold vCpyS; rfl

def vApp (d sz bytes : Nat) : AV → AV → Prop
  | .slice szx xs r, .slice szy ys _ => r ≠ 0 ∧ szx = sz ∧ (szy = sz ∨ ys = []) ∧ (xs.length + ys.length) * bytes ≤ 140737488355328 ∧ xs.length + ys.length ≤ 140737488355328 ∧
      vcs P ms K (((s.dem r).dem (d + 1)).set d (.slice sz (xs ++ ys) (d + 1)))
  | _, _ => False
theorem v_app (d : Nat) (x y : MArg) (sz bytes : Nat) : vcs P (.app d x y sz bytes :: ms) K s = vApp P ms K s d sz bytes (x.ev s.env) (y.ev s.env) := by unfold vApp; rfl

def vBin (d : Nat) (op : BinOp) (x y : AV) : Prop := binK op x y fun v => vcs P ms K (s.set d v)
theorem v_bin (d : Nat) (op : BinOp) (x y : MArg) : vcs P (.bin d op x y :: ms) K s = vBin P ms K s d op (x.ev s.env) (y.ev s.env) := rfl
section
variable (d : Nat) (k : IntKind) (a b : Int)
theorem bin_add : vBin P ms K s d .add (.lit (.int k a)) (.lit (.int k b)) = (inK k (a + b) ∧ vcs P ms K (s.set d (.lit (.int k (a + b))))) := by simp only [vBin, binK, binI, true_and]
theorem bin_sub : vBin P ms K s d .sub (.lit (.int k a)) (.lit (.int k b)) = (inK k (a - b) ∧ vcs P ms K (s.set d (.lit (.int k (a - b))))) := by simp only [vBin, binK, binI, true_and]
theorem bin_mul : vBin P ms K s d .mul (.lit (.int k a)) (.lit (.int k b)) = (inK k (a * b) ∧ vcs P ms K (s.set d (.lit (.int k (a * b))))) := by simp only [vBin, binK, binI, true_and]
theorem bin_quo : vBin P ms K s d .quo (.lit (.int k a)) (.lit (.int k b)) = (b ≠ 0 ∧ inK k (a.tdiv b) ∧ vcs P ms K (s.set d (.lit (.int k (a.tdiv b))))) := by simp only [vBin, binK, binI, true_and]
theorem bin_rem : vBin P ms K s d .rem (.lit (.int k a)) (.lit (.int k b)) = (b ≠ 0 ∧ vcs P ms K (s.set d (.lit (.int k (a.tmod b))))) := by simp only [vBin, binK, binI, true_and]
theorem bin_and : vBin P ms K s d .and (.lit (.int k a)) (.lit (.int k b)) = vcs P ms K (s.set d (.lit (.int k (bitI .and k a b)))) := by simp only [vBin, binK, binI, true_and]
theorem bin_or : vBin P ms K s d .or (.lit (.int k a)) (.lit (.int k b)) = vcs P ms K (s.set d (.lit (.int k (bitI .or k a b)))) := by simp only [vBin, binK, binI, true_and]
theorem bin_xor : vBin P ms K s d .xor (.lit (.int k a)) (.lit (.int k b)) = vcs P ms K (s.set d (.lit (.int k (bitI .xor k a b)))) := by simp only [vBin, binK, binI, true_and]
theorem bin_andNot : vBin P ms K s d .andNot (.lit (.int k a)) (.lit (.int k b)) = vcs P ms K (s.set d (.lit (.int k (bitI .andNot k a b)))) := by simp only [vBin, binK, binI, true_and]
theorem bin_shl (k' : IntKind) : vBin P ms K s d .shl (.lit (.int k a)) (.lit (.int k' b)) = (0 ≤ b ∧ vcs P ms K (s.set d (.lit (.int k (k.wrap (a * 2 ^ (min b.toNat k.bits))))))) := rfl
theorem bin_shr (k' : IntKind) : vBin P ms K s d .shr (.lit (.int k a)) (.lit (.int k' b)) = (0 ≤ b ∧ vcs P ms K (s.set d (.lit (.int k (a.fdiv (2 ^ (min b.toNat k.bits))))))) := rfl
theorem bin_eql : vBin P ms K s d .eql (.lit (.int k a)) (.lit (.int k b)) = vcs P ms K (s.set d (.lit (.bool (a == b)))) := by simp only [vBin, binK, binI, true_and]
theorem bin_neq : vBin P ms K s d .neq (.lit (.int k a)) (.lit (.int k b)) = vcs P ms K (s.set d (.lit (.bool (a != b)))) := by simp only [vBin, binK, binI, true_and]
theorem bin_lss : vBin P ms K s d .lss (.lit (.int k a)) (.lit (.int k b)) = vcs P ms K (s.set d (.lit (.bool (decide (a < b))))) := by simp only [vBin, binK, binI, true_and]
theorem bin_leq : vBin P ms K s d .leq (.lit (.int k a)) (.lit (.int k b)) = vcs P ms K (s.set d (.lit (.bool (decide (a ≤ b))))) := by simp only [vBin, binK, binI, true_and]
theorem bin_gtr : vBin P ms K s d .gtr (.lit (.int k a)) (.lit (.int k b)) = vcs P ms K (s.set d (.lit (.bool (decide (b < a))))) := by simp only [vBin, binK, binI, true_and, gt_iff_lt]
theorem bin_geq : vBin P ms K s d .geq (.lit (.int k a)) (.lit (.int k b)) = vcs P ms K (s.set d (.lit (.bool (decide (b ≤ a))))) := by simp only [vBin, binK, binI, true_and, ge_iff_le]
theorem bin_seql (p q : ByteArray) : vBin P ms K s d .eql (.lit (.string p)) (.lit (.string q)) = vcs P ms K (s.set d (.lit (.bool (p.toList == q.toList)))) := rfl
theorem bin_sneq (p q : ByteArray) : vBin P ms K s d .neq (.lit (.string p)) (.lit (.string q)) = vcs P ms K (s.set d (.lit (.bool (!(p.toList == q.toList))))) := rfl
end

def vBinB (d : Nat) (neg : Bool) : AV → AV → Prop
  | .lit (.bool a), .lit (.bool b) => vcs P ms K (s.set d (.lit (.bool (if neg then !(a == b) else a == b))))
  | _, _ => False
theorem v_binB (d : Nat) (neg : Bool) (x y : MArg) : vcs P (.binB d neg x y :: ms) K s = vBinB P ms K s d neg (x.ev s.env) (y.ev s.env) := by unfold vBinB; rfl

def vBinA (d : Nat) (neg : Bool) (n : List Bool) : AV → AV → Prop
  | .agg a, .agg b => a.length = n.length ∧ b.length = n.length ∧ ∃ q, eqCells n a b = some q ∧ vcs P ms K (s.set d (.lit (.bool (if neg then !q else q))))
  | _, _ => False
theorem v_binA (d : Nat) (neg : Bool) (n : List Bool) (x y : MArg) : vcs P (.binA d neg n x y :: ms) K s = vBinA P ms K s d neg n (x.ev s.env) (y.ev s.env) := by unfold vBinA; rfl

def vNot (d : Nat) : AV → Prop
  | .lit (.bool a) => vcs P ms K (s.set d (.lit (.bool (!a))))
  | _ => False
theorem v_not (d : Nat) (x : MArg) : vcs P (.not d x :: ms) K s = vNot P ms K s d (x.ev s.env) := by unfold vNot; rfl

def vNeg (d : Nat) : AV → Prop
  | .lit (.int k a) => inK k (0 - a) ∧ vcs P ms K (s.set d (.lit (.int k (0 - a))))
  | _ => False
theorem v_neg (d : Nat) (x : MArg) : vcs P (.neg d x :: ms) K s = vNeg P ms K s d (x.ev s.env) := by unfold vNeg; rfl

def vConv (d : Nat) (k : IntKind) : AV → Prop
  | .lit (.int _ a) => vcs P ms K (s.set d (.lit (.int k (k.wrap a))))
  | _ => False
theorem v_conv (d : Nat) (k : IntKind) (x : MArg) : vcs P (.conv d k x :: ms) K s = vConv P ms K s d k (x.ev s.env) := by unfold vConv; rfl

def vPick (d : Nat) (x y : AV) : AV → Prop
  | .lit (.bool b) => vcs P ms K (s.set d (if b then x else y))
  | _ => False
theorem v_pick (d : Nat) (c x y : MArg) : vcs P (.pick d c x y :: ms) K s = vPick P ms K s d (x.ev s.env) (y.ev s.env) (c.ev s.env) := by unfold vPick; rfl

def vExt (d i : Nat) : AV → Prop
  | .tuple vs => i < vs.length ∧ vcs P ms K (s.set d (vs.getD i .any).erase)
  | _ => False
theorem v_ext (d : Nat) (x : MArg) (i : Nat) : vcs P (.ext d x i :: ms) K s = vExt P ms K s d i (x.ev s.env) := by unfold vExt; rfl

def vMax (d : Nat) : AV → AV → Prop
  | .lit (.int k a), .lit (.int _ b) => vcs P ms K (s.set d (.lit (.int k (if b > a then b else a))))
  | _, _ => False
theorem v_max (d : Nat) (x y : MArg) : vcs P (.maxI d x y :: ms) K s = vMax P ms K s d (x.ev s.env) (y.ev s.env) := by unfold vMax; rfl

def vMin (d : Nat) : AV → AV → Prop
  | .lit (.int k a), .lit (.int _ b) => vcs P ms K (s.set d (.lit (.int k (if b < a then b else a))))
  | _, _ => False
theorem v_min (d : Nat) (x y : MArg) : vcs P (.minI d x y :: ms) K s = vMin P ms K s d (x.ev s.env) (y.ev s.env) := by unfold vMin; rfl

def vNil (d : Nat) : AV → Prop
  | .ref cs => vcs P ms K (s.set d (.ref cs))
  | .mref b o => vcs P ms K (s.set d (.mref b o))
  | _ => False
theorem v_nilchk (d : Nat) (x : MArg) : vcs P (.nilchk d x :: ms) K s = vNil P ms K s d (x.ev s.env) := by unfold vNil; rfl

def vHi (d sz : Nat) : AV → AV → Prop
  | .slice sz' xs _, .lit (.int _ n) => (sz' = sz ∨ xs = []) ∧ 0 ≤ n ∧ n ≤ xs.length ∧ vcs P ms K (s.set d (.slice sz (xs.take n.toNat) 0))
  | _, _ => False
theorem v_slcHi (d : Nat) (x h : MArg) (sz : Nat) : vcs P (.slcHi d x h sz :: ms) K s = vHi P ms K s d sz (x.ev s.env) (h.ev s.env) := by unfold vHi; rfl

def vLo (d sz : Nat) : AV → AV → Prop
  | .slice sz' xs _, .lit (.int _ n) => (sz' = sz ∨ xs = []) ∧ 0 ≤ n ∧ n ≤ xs.length ∧ vcs P ms K (s.set d (.slice sz (xs.drop n.toNat) 0))
  | _, _ => False
theorem v_slcLo (d : Nat) (x l : MArg) (sz : Nat) : vcs P (.slcLo d x l sz :: ms) K s = vLo P ms K s d sz (x.ev s.env) (l.ev s.env) := by unfold vLo; rfl

def vCall (d : Nat) (f : FuncId) (xs : List AV) : Prop := ∃ r, PCall P f xs r ∧ vcs P ms K (s.set d r.erase)
theorem v_call (d : Nat) (f : FuncId) (xs : List MArg) : vcs P (.call d f xs :: ms) K s = vCall P ms K s d f (xs.map fun x => (x.ev s.env).erase) := rfl
theorem vCall_of {P : Program} {ms : List MOp} {K : St → Prop} {s : St} {d : Nat} {f : FuncId} {xs : List AV} {r : AV} (h : PCall P f xs r) (hk : vcs P ms K (s.set d r.erase)) : vCall P ms K s d f xs := ⟨r, h, hk⟩

def vCallv (d : Nat) (xs : List AV) : AV → Prop
  | .func (.func f) first cap => vCall P ms K s d f (first ++ xs ++ cap)
  | _ => False
theorem v_callv (d : Nat) (x : MArg) (xs : List MArg) : vcs P (.callv d x xs :: ms) K s = vCallv P ms K s d (xs.map fun x => (x.ev s.env).erase) (x.ev s.env) := by
  show (match x.ev s.env with | .func (.func f) first cap => _ | _ => _) = _
  unfold vCallv vCall; rfl

def vGuard (want : Bool) (d : Option Nat) (m : MOp) : AV → Prop
  | .lit (.bool b) => (b = want → vcs P (m :: ms) K s) ∧ (b = (!want) → vcs P ms K (match d with | some d => s.set d (.tuple []) | none => s))
  | .tuple [] => vcs P ms K (match d with | some d => s.set d (.tuple []) | none => s)
  | _ => False
theorem v_guard (g : Nat) (want : Bool) (d : Option Nat) (m : MOp) : vcs P (.guard g want d m :: ms) K s = vGuard P ms K s want d m (s.env g) := by unfold vGuard; rfl
theorem guard_off (want : Bool) (d : Nat) (m : MOp) : vGuard P ms K s want (some d) m (.tuple []) = vcs P ms K (s.set d (.tuple [])) := rfl
theorem guard_tt (d : Option Nat) (m : MOp) : vGuard P ms K s true d m (.lit (.bool true)) = vcs P (m :: ms) K s := by simp [vGuard]
theorem guard_ff (d : Option Nat) (m : MOp) : vGuard P ms K s false d m (.lit (.bool false)) = vcs P (m :: ms) K s := by simp [vGuard]
theorem guard_tf (d : Nat) (m : MOp) : vGuard P ms K s true (some d) m (.lit (.bool false)) = vcs P ms K (s.set d (.tuple [])) := by simp [vGuard]
theorem guard_ft (d : Nat) (m : MOp) : vGuard P ms K s false (some d) m (.lit (.bool true)) = vcs P ms K (s.set d (.tuple [])) := by simp [vGuard]
end

section
variable (P : Program) (kn : St → Prop) (ke : Nat → St → Prop) (kr : St → Prop) (s : St)
theorem w_skip : mwp P .skip kn ke kr s = kn s := rfl
theorem w_reg (ms : List MOp) : mwp P (.reg ms) kn ke kr s = vcs P ms kn s := rfl
theorem w_seq (x y : MCode) : mwp P (.seq x y) kn ke kr s = mwp P x (mwp P y kn ke kr) ke kr s := rfl
theorem w_exit (i : Nat) : mwp P (.exit i) kn ke kr s = ke i s := rfl
theorem w_ret : mwp P .ret kn ke kr s = kr s := rfl
def blockE (kn : St → Prop) (ke : Nat → St → Prop) (id : Nat) : Nat → St → Prop := fun i s => if i = id then kn s else ke i s
theorem w_block (id : Nat) (c : MCode) : mwp P (.block id c) kn ke kr s = mwp P c kn (blockE kn ke id) kr s := rfl
theorem w_blockE (id i : Nat) : blockE kn ke id i s = if i = id then kn s else ke i s := rfl
def vCond (x y : MCode) : AV → Prop
  | .lit (.bool b) => (b = true → mwp P x kn ke kr s) ∧ (b = false → mwp P y kn ke kr s)
  | _ => False
theorem w_cond (t : MArg) (x y : MCode) : mwp P (.cond t x y) kn ke kr s = vCond P kn ke kr s x y (t.ev s.env) := by unfold vCond; rfl
theorem cond_t (x y : MCode) : vCond P kn ke kr s x y (.lit (.bool true)) = mwp P x kn ke kr s := by simp [vCond]
theorem cond_f (x y : MCode) : vCond P kn ke kr s x y (.lit (.bool false)) = mwp P y kn ke kr s := by simp [vCond]
end

theorem cond_dec {P : Program} {kn : St → Prop} {ke : Nat → St → Prop} {kr : St → Prop} {s : St} {x y : MCode} {p : Prop} [Decidable p]
    (h1 : p → mwp P x kn ke kr s) (h2 : ¬ p → mwp P y kn ke kr s) : vCond P kn ke kr s x y (.lit (.bool (decide p))) :=
  ⟨fun h => h1 (of_decide_eq_true h), fun h => h2 (of_decide_eq_false h)⟩
theorem cond_bool {P : Program} {kn : St → Prop} {ke : Nat → St → Prop} {kr : St → Prop} {s : St} {x y : MCode} {b : Bool}
    (h1 : b = true → mwp P x kn ke kr s) (h2 : b = false → mwp P y kn ke kr s) : vCond P kn ke kr s x y (.lit (.bool b)) := ⟨h1, h2⟩

/-- The end of a round of a loop whose rounds are counted up to n. -/
def RoundOK (n : Nat) (I : Nat → St → Prop) (k : Nat) (s : St) : Prop := ∃ m s1, m < n - k ∧ Ent s s1 ∧ ∃ k', k' ≤ n ∧ m = n - k' ∧ I k' s1
theorem round_ok {n : Nat} {I : Nat → St → Prop} {k : Nat} {s : St} (h : k < n) (hI : I (k + 1) s) : RoundOK n I k s := ⟨n - (k + 1), s, by omega, .refl s, k + 1, h, rfl, hI⟩
theorem round_ent {n : Nat} {I : Nat → St → Prop} {k : Nat} {s s1 : St} (h : k < n) (he : Ent s s1) (hI : I (k + 1) s1) : RoundOK n I k s := ⟨n - (k + 1), s1, by omega, he, k + 1, h, rfl, hI⟩

/-- A loop whose rounds are counted up to n. -/
theorem loop_up {P : Program} {c : MCode} {kn : St → Prop} {ke : Nat → St → Prop} {kr : St → Prop} {s : St} (n : Nat) (I : Nat → St → Prop)
    (h0 : I 0 s) (hr : ∀ k s, k ≤ n → I k s → mwp P c (RoundOK n I k) ke kr s) : mwp P (.loop c) kn ke kr s := by
  refine ⟨fun m s => ∃ k, k ≤ n ∧ m = n - k ∧ I k s, ⟨n, s, .refl s, 0, Nat.zero_le _, rfl, h0⟩, ?_⟩
  rintro m s ⟨k, hk, rfl, hI⟩
  exact hr k s hk hI

attribute [simp] env_set loc_set env_new loc_new env_dem loc_dem env_frz loc_frz ev_t ev_c env_mk loc_mk erase_lit erase_slice erase_agg erase_ref erase_mref erase_func erase_tuple erase_any erase0_lit erase0_slice erase0_ref erase0_mref erase0_func dem_lit dem_slice dem_ref dem_mref dem_agg dem_any dem_func dem_tuple cells_lit cells_slice cells_agg cells_ref cells_mref cells_func splice_nil splice_cons v_nil v_cpy v_asg asg_lit asg_agg asg_ref asg_func asg_sl0 asg_sl v_asgNil v_boxI v_lenK v_mkfn v_load v_store v_storeF v_addr v_idxS v_idxA v_fld v_idxV v_idxStr v_len v_lenStr v_cpyS v_app v_bin bin_add bin_sub bin_mul bin_quo bin_rem bin_and bin_or bin_xor bin_andNot bin_shl bin_shr bin_eql bin_neq bin_lss bin_leq bin_gtr bin_geq bin_seql bin_sneq v_binB v_binA v_not v_neg v_conv v_pick v_ext v_max v_min v_nilchk v_slcHi v_slcLo v_call v_callv v_guard guard_tt guard_ff guard_off guard_tf guard_ft w_skip w_reg w_seq w_exit w_ret w_block w_blockE w_cond cond_t cond_f vLoad vLoadL vPart vStoreL vStore vStoreF bOf vAddr vIdxS vIdxA vFld vIdxV vIdxStr vLen vLenStr vCpyS vApp vBinB vBinA vNot vNeg vConv vExt vMax vMin vNil vHi vLo vCallv resK resOf AV.cell1 fillK fillS eqCells init_at

theorem pick_t (P : Program) (ms : List MOp) (K : St → Prop) (s : St) (d : Nat) (x y : AV) : vPick P ms K s d x y (.lit (.bool true)) = vcs P ms K (s.set d x) := rfl
theorem pick_f (P : Program) (ms : List MOp) (K : St → Prop) (s : St) (d : Nat) (x y : AV) : vPick P ms K s d x y (.lit (.bool false)) = vcs P ms K (s.set d y) := rfl
attribute [simp] pick_t pick_f
theorem pick_bool {P : Program} {ms : List MOp} {K : St → Prop} {s : St} {d : Nat} {x y : AV} {b : Bool} (h1 : b = true → vcs P ms K (s.set d x)) (h2 : b = false → vcs P ms K (s.set d y)) : vPick P ms K s d x y (.lit (.bool b)) := by
  cases b
  · exact h2 rfl
  · exact h1 rfl
theorem guard_bool {P : Program} {ms : List MOp} {K : St → Prop} {s : St} {w : Bool} {d : Option Nat} {m : MOp} {b : Bool} (h1 : b = w → vcs P (m :: ms) K s) (h2 : b = (!w) → vcs P ms K (match d with | some d => s.set d (.tuple []) | none => s)) : vGuard P ms K s w d m (.lit (.bool b)) := ⟨h1, h2⟩

theorem i64 {n : Int} (h1 : -9223372036854775808 ≤ n) (h2 : n ≤ 9223372036854775807) : inK .i64 n := ⟨h1, h2⟩

theorem v_build (P : Program) (ms : List MOp) (K : St → Prop) (s : St) (d : Nat) (z : List AV) (ps : List (Nat × Nat × MArg)) : vcs P (.build d z ps :: ms) K s = fillK s.env z ps (fun cs => vcs P ms K (s.set d (.agg cs))) := rfl
theorem v_mkS (P : Program) (ms : List MOp) (K : St → Prop) (s : St) (d n sz : Nat) (z : List AV) (ps : List (Nat × MArg)) : vcs P (.mkS d n sz z ps :: ms) K s =
    fillS s.env sz (List.replicate n (if sz = 1 then z.getD 0 .any else .agg z)) ps (fun xs => vcs P ms K ((s.dem (d + 1)).set d (.slice sz xs (d + 1)))) := rfl
theorem v_boxM (P : Program) (ms : List MOp) (K : St → Prop) (s : St) (d n : Nat) (x : MArg) : vcs P (.boxM d x n :: ms) K s =
    ((x.ev s.env).cells.length = n ∧ ∀ b, s.loc b = none → vcs P ms K ((s.new b ((x.ev s.env).cells.map AV.erase0)).set d (.mref b 0))) := rfl
theorem v_alloc (P : Program) (ms : List MOp) (K : St → Prop) (s : St) (d : Nat) (z : List AV) : vcs P (.alloc d z :: ms) K s =
    (∀ b, s.loc b = none → vcs P ms K ((s.new b z).set d (.mref b 0))) := rfl
theorem v_cpyE (P : Program) (ms : List MOp) (K : St → Prop) (s : St) (d : Nat) (x : MArg) : vcs P (.cpyE d x :: ms) K s = vcs P ms K (s.set d (x.ev s.env).erase) := rfl
theorem v_apart (P : Program) (ms : List MOp) (K : St → Prop) (s : St) (zs : List MArg) (x : MArg) (m : MOp) : vcs P (.apart zs x m :: ms) K s = ((∀ z ∈ zs, apartAV (z.ev s.env) (x.ev s.env)) ∧ vcs P (m :: ms) K s) := rfl
attribute [simp] v_build v_mkS v_boxM v_alloc v_cpyE v_apart apartAV


def vYld (P : Program) (ms : List MOp) (K : St → Prop) (s : St) (d : Nat) (xs : List AV) : AV → AV → Prop
  | .func (.yield l) [] [], .ghost l' (y :: rest) false => l = l' ∧ xs = y ∧ vcs P ms K ((s.set gS (.ghost l rest false)).set d (.lit (.bool true))) ∧ vcs P ms K ((s.set gS (.ghost l rest true)).set d (.lit (.bool false)))
  | _, _ => False
theorem v_yld (P : Program) (ms : List MOp) (K : St → Prop) (s : St) (d : Nat) (x : MArg) (xs : List MArg) : vcs P (.yld d x xs :: ms) K s = vYld P ms K s d (xs.map fun x => (x.ev s.env).erase) (x.ev s.env) (s.env gS) := by
  show (match x.ev s.env, s.env gS with | .func (.yield l) [] [], .ghost l' (y :: rest) false => _ | _, _ => False) = _
  unfold vYld; rfl
theorem yld_at {P : Program} {ms : List MOp} {K : St → Prop} {s : St} {d l : Nat} {xs y : List AV} {rest : List (List AV)} : vYld P ms K s d xs (.func (.yield l) [] []) (.ghost l (y :: rest) false) =
    (xs = y ∧ vcs P ms K ((s.set gS (.ghost l rest false)).set d (.lit (.bool true))) ∧ vcs P ms K ((s.set gS (.ghost l rest true)).set d (.lit (.bool false)))) := by simp [vYld]
theorem erase_ghost (l : Nat) (r : List (List AV)) (b : Bool) : (AV.ghost l r b).erase = .ghost l r b := rfl
theorem dem_ghost (q l : Nat) (r : List (List AV)) (b : Bool) : demote q (AV.ghost l r b) = .ghost l r b := rfl

def vRange (P : Program) (ps : List Nat) (a b : MCode) (kn : St → Prop) (ke : Nat → St → Prop) (kr : St → Prop) (s : St) : AV → Prop
  | .func (.func f) first cap => MRange P f first cap ps.length s (fun I k y st =>
        mwp P a (mwp P b (fun s2 => I (k + 1) (back s s2)) (fun i s2 => ke i (back s s2)) (fun s2 => kr (back s s2))) (fun _ _ => False) (fun _ => False) (params st ps y)) kn
  | _ => False
theorem w_range (P : Program) (kn : St → Prop) (ke : Nat → St → Prop) (kr : St → Prop) (s : St) (x : MArg) (ps : List Nat) (a b : MCode) : mwp P (.rangeF x ps a b) kn ke kr s = vRange P ps a b kn ke kr s (x.ev s.env) := by unfold vRange; rfl
theorem env_back (s s2 : St) (k : Nat) : (back s s2).env k = if gS ≤ k then s2.env k else (s.env k).erase := rfl
theorem loc_back (s s2 : St) : (back s s2).loc = s2.loc := rfl
theorem params_cons (s : St) (p : Nat) (ps : List Nat) (x : AV) (xs : List AV) : params s (p :: ps) (x :: xs) = params (s.set p x.erase) ps xs := rfl
theorem params_nil (s : St) (xs : List AV) : params s [] xs = s := rfl

/-- A loop over an iterator. -/
theorem range_of {P : Program} {ps : List Nat} {a b : MCode} {kn : St → Prop} {ke : Nat → St → Prop} {kr : St → Prop} {s : St} {f : FuncId} {first cap : List AV} (xs : List (List AV)) (I : Nat → St → Prop) (h : PSeq P f first cap xs)
    (hl : ∀ y ∈ xs, y.length = ps.length) (h0 : I 0 (back s s))
    (hr : ∀ k st, k < xs.length → st = back s st → I k st → mwp P a (mwp P b (fun s2 => I (k + 1) (back s s2)) (fun i s2 => ke i (back s s2)) (fun s2 => kr (back s s2))) (fun _ _ => False) (fun _ => False) (params st ps (xs.getD k [])))
    (he : ∀ st, st = back s st → I xs.length st → kn st) : vRange P ps a b kn ke kr s (.func (.func f) first cap) := ⟨xs, h, hl, I, h0, hr, he⟩

attribute [simp] v_yld yld_at erase_ghost dem_ghost w_range env_back loc_back params_cons params_nil gS oS


def vMkM (P : Program) (ms : List MOp) (K : St → Prop) (s : St) (d sz bytes : Nat) (zero : List AV) : AV → AV → Prop
  | .lit (.int .i64 n), .lit (.int .i64 c) => 0 ≤ n ∧ n ≤ c ∧ c * (bytes : Int) ≤ 140737488355328 ∧ c ≤ 140737488355328 ∧ c * (sz : Int) ≤ 140737488355328 ∧
      ∀ b, s.loc b = none → vcs P ms K ((s.new b (List.replicate c.toNat zero).flatten).set d (.mslice b 0 n.toNat c.toNat sz))
  | _, _ => False
theorem v_mkM (P : Program) (ms : List MOp) (K : St → Prop) (s : St) (d : Nat) (n c : MArg) (sz bytes : Nat) (zero : List AV) : vcs P (.mkM d n c sz bytes zero :: ms) K s = vMkM P ms K s d sz bytes zero (n.ev s.env) (c.ev s.env) := by unfold vMkM; rfl
def vCpyL (P : Program) (ms : List MOp) (K : St → Prop) (s : St) (d b off len sz' sz2 sz : Nat) (ys : List AV) : Option (List AV) → Prop
  | some cs => sz' = sz ∧ (sz2 = sz ∨ ys = []) ∧ off + len * sz ≤ cs.length ∧
      vcs P ms K ((s.new b (splice cs off (((ys.take (min ys.length len)).flatMap AV.cells).map AV.erase0))).set d (.lit (.int .i64 (min ys.length len : Nat))))
  | none => False
def vCpyM (P : Program) (ms : List MOp) (K : St → Prop) (s : St) (d sz : Nat) : AV → AV → Prop
  | .mslice b off len _ sz', .slice sz2 ys _ => vCpyL P ms K s d b off len sz' sz2 sz ys (s.loc b)
  | _, _ => False
theorem v_cpyM (P : Program) (ms : List MOp) (K : St → Prop) (s : St) (d : Nat) (x y : MArg) (sz : Nat) : vcs P (.cpyM d x y sz :: ms) K s = vCpyM P ms K s d sz (x.ev s.env) (y.ev s.env) := by unfold vCpyM vCpyL; rfl
def vRngS (P : Program) (ms : List MOp) (K : St → Prop) (s : St) (d : Nat) : AV → Prop
  | .lit (.string t) => ∀ b, s.loc b = none → s.env (oS + b) = .any → vcs P ms K ((s.set (oS + b) (itAV t 0)).set d (.mref b 0))
  | _ => False
theorem v_rngS (P : Program) (ms : List MOp) (K : St → Prop) (s : St) (d : Nat) (x : MArg) : vcs P (.rngS d x :: ms) K s = vRngS P ms K s d (x.ev s.env) := by unfold vRngS; rfl
def vNxtS (P : Program) (ms : List MOp) (K : St → Prop) (s : St) (d : Nat) : AV → Prop
  | .mref b 0 => ∃ t pos, s.env (oS + b) = itAV t pos ∧
        (pos < t.size → vcs P ms K ((s.set (oS + b) (itAV t (pos + (Utf8.decode t pos).2))).set d (.tuple [.lit (.bool true), .lit (.int .i64 pos), .lit (.int .i32 (Utf8.decode t pos).1)]))) ∧
        (¬ pos < t.size → vcs P ms K (s.set d (.tuple [.lit (.bool false)])))
  | _ => False
theorem v_nxtS (P : Program) (ms : List MOp) (K : St → Prop) (s : St) (d : Nat) (x : MArg) : vcs P (.nxtS d x :: ms) K s = vNxtS P ms K s d (x.ev s.env) := by unfold vNxtS; rfl
theorem v_mkMap (P : Program) (ms : List MOp) (K : St → Prop) (s : St) (d : Nat) : vcs P (.mkMap d :: ms) K s = (∀ b, s.loc b = none → s.env (oS + b) = .any → vcs P ms K ((s.set (oS + b) (mapAV [])).set d (.mapr b))) := rfl
def vFrzL (P : Program) (ms : List MOp) (K : St → Prop) (s : St) (k b len sz : Nat) : Option (List AV) → Prop
  | some cs => len * sz ≤ cs.length ∧ cs.all AV.cell1 = true ∧ len ≤ 140737488355328 ∧ vcs P ms K ⟨upd s.env k (.slice sz (chunk sz cs len) 0), upd s.loc b none⟩
  | none => False
def vFrz (P : Program) (ms : List MOp) (K : St → Prop) (s : St) (k : Nat) : AV → Prop
  | .mslice b 0 len _ sz => vFrzL P ms K s k b len sz (s.loc b)
  | _ => False
theorem v_frz (P : Program) (ms : List MOp) (K : St → Prop) (s : St) (k : Nat) : vcs P (.frz k :: ms) K s = vFrz P ms K s k (s.env k) := by unfold vFrz vFrzL; rfl
attribute [simp] v_mkM vMkM v_cpyM vCpyM vCpyL v_rngS vRngS v_nxtS vNxtS v_mkMap v_frz vFrz vFrzL

def vStrLo (P : Program) (ms : List MOp) (K : St → Prop) (s : St) (d : Nat) : AV → AV → Prop
  | .lit (.string t), .lit (.int _ n) => 0 ≤ n ∧ n ≤ t.size ∧ vcs P ms K (s.set d (.lit (.string (t.extract n.toNat t.size))))
  | _, _ => False
theorem v_strLo (P : Program) (ms : List MOp) (K : St → Prop) (s : St) (d : Nat) (x l : MArg) : vcs P (.strLo d x l :: ms) K s = vStrLo P ms K s d (x.ev s.env) (l.ev s.env) := by unfold vStrLo; rfl
def vLoadI (P : Program) (ms : List MOp) (K : St → Prop) (s : St) (d : Nat) (n : Option Nat) : AV → Prop
  | .ref cs => vPart P ms K s d cs 0 true n
  | _ => False
theorem v_loadI (P : Program) (ms : List MOp) (K : St → Prop) (s : St) (d : Nat) (x : MArg) (n : Option Nat) : vcs P (.loadI d x n :: ms) K s = vLoadI P ms K s d n (x.ev s.env) := by
  show (match x.ev s.env with | .ref cs => _ | _ => _) = _
  unfold vLoadI
  cases x.ev s.env <;> first | rfl | skip
  rename_i cs
  cases n with
  | none => rfl
  | some n => show (_ ∧ vcs P ms K (s.set d ((AV.agg ((cs.drop 0).take n)).erase).erase)) = _; rw [erase_erase]; rfl
attribute [simp] v_strLo vStrLo v_loadI vLoadI

end Go.Avm
