/- Running resolved code: all operations. -/
import Derived.Test.YtcfeipphmklakaaEv6
namespace Go.Avm

mutual
def eqvA : AV → AV → Bool
  | .lit v, .lit v' => vEq v v'
  | .slice sz xs r, .slice sz' ys r' => Nat.beq sz sz' && Nat.beq r r' && eqvL xs ys
  | .ref xs, .ref ys => eqvL xs ys
  | .agg xs, .agg ys => eqvL xs ys
  | .tuple xs, .tuple ys => eqvL xs ys
  | _, _ => false
def eqvL : List AV → List AV → Bool
  | [], [] => true
  | x :: xs, y :: ys => eqvA x y && eqvL xs ys
  | _, _ => false
end

mutual
theorem eqvA_ok : ∀ (x y : AV), eqvA x y = true → x = y
  | .lit v, y, h => by cases y <;> simp only [eqvA] at h <;> first | (cases h; done) | rw [(vEq_eq h).1]
  | .slice sz xs r, y, h => by
    cases y <;> simp only [eqvA] at h <;> first | (cases h; done) | skip
    simp only [Bool.and_eq_true] at h
    rw [Nat.eq_of_beq_eq_true h.1.1, Nat.eq_of_beq_eq_true h.1.2, eqvL_ok xs _ h.2]
  | .ref xs, y, h => by cases y <;> simp only [eqvA] at h <;> first | (cases h; done) | rw [eqvL_ok xs _ h]
  | .agg xs, y, h => by cases y <;> simp only [eqvA] at h <;> first | (cases h; done) | rw [eqvL_ok xs _ h]
  | .tuple xs, y, h => by cases y <;> simp only [eqvA] at h <;> first | (cases h; done) | rw [eqvL_ok xs _ h]
  | .any, _, h => by simp [eqvA] at h
  | .mref _ _, _, h => by simp [eqvA] at h
  | .mslice .., _, h => by simp [eqvA] at h
  | .func .., _, h => by simp [eqvA] at h
  | .ghost .., _, h => by simp [eqvA] at h
  | .mapr _, _, h => by simp [eqvA] at h
theorem eqvL_ok : ∀ (xs ys : List AV), eqvL xs ys = true → xs = ys
  | [], [], _ => rfl
  | x :: xs, y :: ys, h => by
    simp only [eqvL, Bool.and_eq_true] at h
    rw [eqvA_ok x y h.1, eqvL_ok xs ys h.2]
  | [], _ :: _, h => by simp [eqvL] at h
  | _ :: _, [], h => by simp [eqvL] at h
end

section
variable {R : Type} (col : Bool) (call : Nat → FuncId → List AV → Option AV) (amb : R → R → R) (fail : R)

def apartB (e : ES) (x z : MArg) : Bool := match (argK e none z some : Option AV), (argK e none x some : Option AV) with
  | some (.mref b' _), some (.mref b _) => !(Nat.beq b' b) && (e.loc.get b').isSome && (e.loc.get b).isSome
  | some (.ref _), some (.mref _ _) => true
  | _, _ => false

def fillSE (e : ES) (sz : Nat) (xs : List AV) : List (Nat × MArg) → (List AV → R) → R
  | [], k => k xs
  | (i, x) :: ps, k => argK e fail x fun x => bif Nat.beq x.cells.length sz && x.cells.all AV.cell1 && Nat.blt i xs.length then eK x fun x => fL (xs.set i x) fun xs => fillSE e sz xs ps k else fail

def asgK (e : ES) (d : Nat) (x : AV) (k : ES → R) : R := match x with
  | .slice sz xs r => bif Nat.beq r 0 then putK e fail d (.slice sz xs 0) k else demS e r fun e => demS e (d + 1) fun e => putK e fail d (.slice sz xs (d + 1)) k
  | x => putK e fail d x k

def storE (e : ES) (b off n oid : Nat) (cs : List AV) (y : AV) (k : ES → R) : R :=
  bif Nat.ble (off + n) cs.length && Nat.beq y.cells.length n && y.cells.all AV.cell1 then match y with
    | .slice sz xs r => bif Nat.beq r 0 || Nat.beq oid 0 then fL (splice cs off [.slice sz xs 0]) fun cs => locK e fail b (some cs) k
        else demS e r fun e => demS e oid fun e => fL ((cs.map (fun x => demote oid (demote r x))).set off (.slice sz xs oid)) fun cs => locK e fail b (some cs) k
    | y => fL (splice cs off (y.cells.map AV.erase0)) fun cs => locK e fail b (some cs) k
  else fail

def skipK (e : ES) (d : Option Nat) (k : ES → R) : R := match d with
  | some d => putK e fail d (.tuple []) k
  | none => k e

def keyOKb : Option Nat → AV → Bool
  | none, .lit (.int _ _) => true
  | some n, .agg xs => Nat.beq xs.length n
  | _, _ => false

def oK_asg (d : Nat) (x : MArg) (e : ES) (k : ES → R) : R := argK e fail x fun x => asgK fail e d x k
def oK_asgNil (d : Nat) (sz : Nat) (e : ES) (k : ES → R) : R := demS e (d + 1) fun e => putK e fail d (.slice sz [] (d + 1)) k
def oK_boxM (d : Nat) (x : MArg) (n : Nat) (e : ES) (k : ES → R) : R := argK e fail x fun x => bif Nat.beq x.cells.length n then fL (x.cells.map AV.erase0) fun cs => newK e fail cs fun b e => putK e fail d (.mref b 0) k else fail
def oK_alloc (d : Nat) (z : List AV) (e : ES) (k : ES → R) : R := bif belowL 0 z then newK e fail z fun b e => putK e fail d (.mref b 0) k else fail
def oK_store (x : MArg) (y : MArg) (n : Nat) (oid : Nat) (e : ES) (k : ES → R) : R := argK e fail x fun x => argK e fail y fun y => match x with
    | .mref b off => match e.loc.get b with
      | some cs => storE fail e b off n oid cs y k
      | none => fail
    | _ => fail
def oK_storeNil (x : MArg) (sz : Nat) (oid : Nat) (e : ES) (k : ES → R) : R := argK e fail x fun x => match x with
    | .mref b off => match e.loc.get b with
      | some cs => bif Nat.blt off cs.length then demS e oid fun e => fL ((cs.map (demote oid)).set off (.slice sz [] oid)) fun cs => locK e fail b (some cs) k else fail
      | none => fail
    | _ => fail
def oK_storeF (q : Nat) (y : MArg) (n : Nat) (e : ES) (k : ES → R) : R := argK e fail (.t q) fun x => argK e fail y fun y => match x with
    | .mref b 0 => match e.loc.get b with
      | some cs => bif Nat.beq cs.length n && Nat.beq y.cells.length n && y.cells.all AV.cell1 then locK e fail b none fun e => fL (y.cells.map AV.erase0) fun cs => putK e fail q (.ref cs) k else fail
      | none => fail
    | _ => fail
def oK_mkS (d : Nat) (n : Nat) (sz : Nat) (z : List AV) (ps : List (Nat × MArg)) (e : ES) (k : ES → R) : R := bif belowL 0 z then fL (List.replicate n (if sz = 1 then z.getD 0 .any else .agg z)) fun xs => fillSE fail e sz xs ps fun xs => demS e (d + 1) fun e => putK e fail d (.slice sz xs (d + 1)) k else fail
def oK_app (d : Nat) (x : MArg) (y : MArg) (sz : Nat) (bytes : Nat) (e : ES) (k : ES → R) : R := argK e fail x fun x => argK e fail y fun y => match x, y with
    | .slice szx xs r, .slice szy ys _ => bif !(Nat.beq r 0) && Nat.beq szx sz && (Nat.beq szy sz || ys.isEmpty) && Nat.ble ((xs.length + ys.length) * bytes) 140737488355328 && Nat.ble (xs.length + ys.length) 140737488355328 then
        demS e r fun e => demS e (d + 1) fun e => fL (xs ++ ys) fun zs => putK e fail d (.slice sz zs (d + 1)) k else fail
    | _, _ => fail
def oK_call (d : Nat) (f : FuncId) (xs : List MArg) (e : ES) (k : ES → R) : R := argsK e fail xs fun xs => match call e.nx f xs with
    | some r => bif below e.nx r then eK r fun r => putK e fail d r k else fail
    | none => fail
def oK_callv (d : Nat) (x : MArg) (xs : List MArg) (e : ES) (k : ES → R) : R := argK e fail x fun x => argsK e fail xs fun xs => match x with
    | .func (.func f) first cap => match call e.nx f (first ++ xs ++ cap) with
      | some r => bif below e.nx r then eK r fun r => putK e fail d r k else fail
      | none => fail
    | _ => fail
def oK_yld (d : Nat) (x : MArg) (xs : List MArg) (e : ES) (k : ES → R) : R := argK e fail x fun x => argsK e fail xs fun xs => match x, e.gh with
    | .func (.yield l) [] [], .ghost l' (y :: rest) false => bif Nat.beq l l' && belowL 0 xs && eqvL xs y then
        amb (putK ⟨e.env, e.loc, e.obj, .ghost l rest false, e.nx⟩ fail d (.lit (.bool true)) k) (putK ⟨e.env, e.loc, e.obj, .ghost l rest true, e.nx⟩ fail d (.lit (.bool false)) k) else fail
    | .func (.yield l) [] [], .ghost l' acc true => bif col then putK ⟨e.env, e.loc, e.obj, .ghost l' (acc ++ [xs]) true, e.nx⟩ fail d (.lit (.bool true)) k else fail
    | _, _ => fail
def oK_mkM (d : Nat) (n : MArg) (c : MArg) (sz : Nat) (bytes : Nat) (z : List AV) (e : ES) (k : ES → R) : R := argK e fail n fun n => argK e fail c fun c => match n, c with
    | .lit (.int .i64 (.ofNat n)), .lit (.int .i64 (.ofNat c)) => bif belowL 0 z && Nat.ble n c && Nat.ble (c * bytes) 140737488355328 && Nat.ble c 140737488355328 && Nat.ble (c * sz) 140737488355328 then
        fL (List.replicate c z).flatten fun cs => newK e fail cs fun b e => putK e fail d (.mslice b 0 n c sz) k else fail
    | _, _ => fail
def oK_cpyM (d : Nat) (x : MArg) (y : MArg) (sz : Nat) (e : ES) (k : ES → R) : R := argK e fail x fun x => argK e fail y fun y => match x, y with
    | .mslice b off len _ sz', .slice sz2 ys _ => match e.loc.get b with
      | some cs => bif Nat.beq sz' sz && (Nat.beq sz2 sz || ys.isEmpty) && Nat.ble (off + len * sz) cs.length then
          fL (splice cs off (((ys.take (min ys.length len)).flatMap AV.cells).map AV.erase0)) fun cs => locK e fail b (some cs) fun e => fN (min ys.length len) fun n => putK e fail d (.lit (.int .i64 n)) k else fail
      | none => fail
    | _, _ => fail
def oK_rngS (d : Nat) (x : MArg) (e : ES) (k : ES → R) : R := argK e fail x fun x => match x with
    | .lit (.string u) => newO e fail (itAV u 0) fun b e => putK e fail d (.mref b 0) k
    | _ => fail
def oK_nxtS (d : Nat) (x : MArg) (e : ES) (k : ES → R) : R := argK e fail x fun x => match x with
    | .mref b 0 => match e.obj.get b with
      | some (.ghost pos [[.lit (.string u)]] true) => bif Nat.blt pos u.size then
          fN (pos + (Utf8.decode u pos).2) fun pos' => fN (Utf8.decode u pos).1 fun c => objK e fail b (itAV u pos') fun e => putK e fail d (.tuple [.lit (.bool true), .lit (.int .i64 pos), .lit (.int .i32 c)]) k
          else putK e fail d (.tuple [.lit (.bool false)]) k
      | _ => fail
    | _ => fail
def oK_mkMap (d : Nat) (e : ES) (k : ES → R) : R := newO e fail (mapAV []) fun b e => putK e fail d (.mapr b) k
def oK_mapUpd (x : MArg) (q : MArg) (v : MArg) (n : Option Nat) (e : ES) (k : ES → R) : R := argK e fail x fun x => argK e fail q fun q => argK e fail v fun v => match x with
    | .mapr b => match e.obj.get b with
      | some (.ghost 0 es false) => eK q fun q => eK v fun v => bif keyOKb n q && below 0 q && below 0 v then (match keyAt q es 0 with
        | some (some i) => objK e fail b (mapAV (es.set i [q, v])) k
        | some none => objK e fail b (mapAV (es ++ [[q, v]])) k
        | none => fail) else fail
      | _ => fail
    | _ => fail
def oK_lookup (d : Nat) (x : MArg) (q : MArg) (n : Option Nat) (ok : Bool) (zero : AV) (e : ES) (k : ES → R) : R := argK e fail x fun x => argK e fail q fun q => match x with
    | .mapr b => match e.obj.get b with
      | some (.ghost 0 es false) => eK q fun q => bif keyOKb n q && below 0 q && below 0 zero then (match keyAt q es 0 with
        | some (some i) => fA ((es.getD i []).getD 1 .any) fun u => bif below 0 u then eK u fun u' => putK e fail d (if ok then .tuple [u, .lit (.bool true)] else u') k else fail
        | some none => eK zero fun u' => putK e fail d (if ok then .tuple [zero, .lit (.bool false)] else u') k
        | none => fail) else fail
      | _ => fail
    | _ => fail
def oK_frz (q : Nat) (e : ES) (k : ES → R) : R := argK e fail (.t q) fun x => match x with
    | .mslice b 0 len _ sz => match e.loc.get b with
      | some cs => bif Nat.ble (len * sz) cs.length && cs.all AV.cell1 && Nat.ble len 140737488355328 then locK e fail b none fun e => fL (chunk sz cs len) fun xs => putK e fail q (.slice sz xs 0) k else fail
      | none => fail
    | _ => fail

def evO : MOp → ES → (ES → R) → R
  | .asg d x, e, k => oK_asg fail d x e k
  | .asgNil d sz, e, k => oK_asgNil fail d sz e k
  | .boxM d x n, e, k => oK_boxM fail d x n e k
  | .alloc d z, e, k => oK_alloc fail d z e k
  | .store x y n oid, e, k => oK_store fail x y n oid e k
  | .storeNil x sz oid, e, k => oK_storeNil fail x sz oid e k
  | .storeF q y n, e, k => oK_storeF fail q y n e k
  | .mkS d n sz z ps, e, k => oK_mkS fail d n sz z ps e k
  | .app d x y sz bytes, e, k => oK_app fail d x y sz bytes e k
  | .call d f xs, e, k => oK_call call fail d f xs e k
  | .callv d x xs, e, k => oK_callv call fail d x xs e k
  | .apart zs x m, e, k => bif zs.all (apartB e x) then evO m e k else fail
  | .guard g want d m, e, k => argK e fail (.t g) fun v => match v with
    | .lit (.bool b) => bif b == want then evO m e k else skipK fail e d k
    | .tuple [] => skipK fail e d k
    | _ => fail
  | .yld d x xs, e, k => oK_yld col amb fail d x xs e k
  | .mkM d n c sz bytes z, e, k => oK_mkM fail d n c sz bytes z e k
  | .cpyM d x y sz, e, k => oK_cpyM fail d x y sz e k
  | .rngS d x, e, k => oK_rngS fail d x e k
  | .nxtS d x, e, k => oK_nxtS fail d x e k
  | .mkMap d, e, k => oK_mkMap fail d e k
  | .mapUpd x q v n, e, k => oK_mapUpd fail x q v n e k
  | .lookup d x q n ok zero, e, k => oK_lookup fail d x q n ok zero e k
  | .frz q, e, k => oK_frz fail q e k
  | m, e, k => valK e fail m fun d v => fA v fun v => putK e fail d v k
end
end Go.Avm
