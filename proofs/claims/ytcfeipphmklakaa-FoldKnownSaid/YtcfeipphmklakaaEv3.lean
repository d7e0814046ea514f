/- Running resolved code: operations. -/
import Derived.Test.YtcfeipphmklakaaEv2
namespace Go.Avm

section
variable {R : Type}
def fN (m : Nat) (k : Nat → R) : R := match m with
  | 0 => k 0
  | m + 1 => k (m + 1)
def fI (n : Int) (k : Int → R) : R := match n with
  | .ofNat m => fN m fun m => k (.ofNat m)
  | .negSucc m => fN m fun m => k (.negSucc m)
def fB (b : Bool) (k : Bool → R) : R := match b with
  | true => k true
  | false => k false
def fV (v : Value) (k : Value → R) : R := match v with
  | .int kd n => fI n fun n => k (.int kd n)
  | .bool b => fB b fun b => k (.bool b)
  | v => k v
def fA (x : AV) (k : AV → R) : R := match x with
  | .any => k .any
  | .lit v => fV v fun v => k (.lit v)
  | .slice sz xs r => k (.slice sz xs r)
  | .ref cs => k (.ref cs)
  | .mref b o => fN o fun o => k (.mref b o)
  | .mslice b o l c sz => fN o fun o => fN l fun l => k (.mslice b o l c sz)
  | .agg cs => k (.agg cs)
  | .tuple vs => k (.tuple vs)
  | .func fn a b => k (.func fn a b)
  | .ghost l r s => k (.ghost l r s)
  | .mapr b => k (.mapr b)
def fL : List AV → (List AV → R) → R
  | [], k => k []
  | x :: xs, k => fA x fun x => fL xs fun xs => k (x :: xs)
theorem fN_eq (m : Nat) (k : Nat → R) : fN m k = k m := by cases m <;> rfl
theorem fI_eq (n : Int) (k : Int → R) : fI n k = k n := by cases n <;> simp only [fI, fN_eq]
theorem fB_eq (b : Bool) (k : Bool → R) : fB b k = k b := by cases b <;> rfl
theorem fV_eq (v : Value) (k : Value → R) : fV v k = k v := by
  unfold fV; split <;> simp only [fI_eq, fB_eq]
theorem fA_eq (x : AV) (k : AV → R) : fA x k = k x := by cases x <;> simp only [fA, fV_eq, fN_eq]
theorem fL_eq : ∀ (xs : List AV) (k : List AV → R), fL xs k = k xs
  | [], _ => rfl
  | x :: xs, k => by simp only [fL, fA_eq, fL_eq xs]

def setK {α : Type} : Nat → T α → Nat → Option α → (T α → R) → R
  | 0, t, _, _, k => k t
  | _ + 1, .nil, 0, x, k => k (.node x .nil .nil)
  | _ + 1, .node _ l r, 0, x, k => k (.node x l r)
  | f + 1, .nil, n + 1, x, k => bif Nat.beq (n % 2) 0 then setK f .nil (n / 2) x (fun t => k (.node none t .nil)) else setK f .nil (n / 2) x (fun t => k (.node none .nil t))
  | f + 1, .node v l r, n + 1, x, k => bif Nat.beq (n % 2) 0 then setK f l (n / 2) x (fun t => k (.node v t r)) else setK f r (n / 2) x (fun t => k (.node v l t))
theorem setK_eq {α : Type} : ∀ (f : Nat) (t : T α) (n : Nat) (x : Option α) (k : T α → R), setK f t n x k = k (T.set f t n x)
  | 0, _, _, _, _ => rfl
  | _ + 1, .nil, 0, _, _ => rfl
  | _ + 1, .node _ _ _, 0, _, _ => rfl
  | f + 1, .nil, n + 1, x, k => by simp only [setK, T.set, setK_eq f]; cases Nat.beq (n % 2) 0 <;> rfl
  | f + 1, .node v l r, n + 1, x, k => by simp only [setK, T.set, setK_eq f]; cases Nat.beq (n % 2) 0 <;> rfl

def demK (r : Nat) : T AV → (T AV → R) → R
  | .nil, k => k .nil
  | .node none a b, k => demK r a fun a => demK r b fun b => k (.node none a b)
  | .node (some x) a b, k => fA (demote r x) fun x => demK r a fun a => demK r b fun b => k (.node (some x) a b)
theorem demK_eq (r : Nat) : ∀ (t : T AV) (k : T AV → R), demK r t k = k (t.map (demote r))
  | .nil, _ => rfl
  | .node none a b, k => by simp only [demK, demK_eq r a, demK_eq r b]; rfl
  | .node (some x) a b, k => by simp only [demK, fA_eq, demK_eq r a, demK_eq r b]; rfl
def demLK (r : Nat) : T (List AV) → (T (List AV) → R) → R
  | .nil, k => k .nil
  | .node none a b, k => demLK r a fun a => demLK r b fun b => k (.node none a b)
  | .node (some x) a b, k => fL (x.map (demote r)) fun x => demLK r a fun a => demLK r b fun b => k (.node (some x) a b)
theorem demLK_eq (r : Nat) : ∀ (t : T (List AV)) (k : T (List AV) → R), demLK r t k = k (t.map (·.map (demote r)))
  | .nil, _ => rfl
  | .node none a b, k => by simp only [demLK, demLK_eq r a, demLK_eq r b]; rfl
  | .node (some x) a b, k => by simp only [demLK, fL_eq, demLK_eq r a, demLK_eq r b]; rfl
end

def inKb : IntKind → Int → Bool
  | .i8, n => decide (-128 ≤ n) && decide (n ≤ 127)
  | .i16, n => decide (-32768 ≤ n) && decide (n ≤ 32767)
  | .i32, n => decide (-2147483648 ≤ n) && decide (n ≤ 2147483647)
  | .i64, n => decide (-9223372036854775808 ≤ n) && decide (n ≤ 9223372036854775807)
  | .u8, n => decide (0 ≤ n) && decide (n ≤ 255)
  | .u16, n => decide (0 ≤ n) && decide (n ≤ 65535)
  | .u32, n => decide (0 ≤ n) && decide (n ≤ 4294967295)
  | .u64, n => decide (0 ≤ n) && decide (n ≤ 18446744073709551615)
theorem inKb_ok {k : IntKind} {n : Int} (h : inKb k n = true) : inK k n := by
  cases k <;> simpa [inKb, inK] using h

def strEq (a b : ByteArray) : Bool := a.data.toList == b.data.toList

def binIb (op : BinOp) (k : IntKind) (a b : Int) : Option AV :=
  match op with
  | .add => bif inKb k (a + b) then some (.lit (.int k (a + b))) else none
  | .sub => bif inKb k (a - b) then some (.lit (.int k (a - b))) else none
  | .mul => bif inKb k (a * b) then some (.lit (.int k (a * b))) else none
  | .quo => bif b != 0 && inKb k (a.tdiv b) then some (.lit (.int k (a.tdiv b))) else none
  | .rem => bif b != 0 then some (.lit (.int k (a.tmod b))) else none
  | .and | .or | .xor | .andNot => some (.lit (.int k (bitI op k a b)))
  | .eql => some (.lit (.bool (a == b)))
  | .neq => some (.lit (.bool (a != b)))
  | .lss => some (.lit (.bool (decide (a < b))))
  | .leq => some (.lit (.bool (decide (a ≤ b))))
  | .gtr => some (.lit (.bool (decide (a > b))))
  | .geq => some (.lit (.bool (decide (a ≥ b))))
  | _ => none
theorem binIb_ok {op : BinOp} {k : IntKind} {a b : Int} {v : AV} (h : binIb op k a b = some v) {K : AV → Prop} (hk : K v) : binI op k a b K := by
  cases op <;> simp only [binIb, Bool.cond_eq_ite] at h <;> simp only [binI] <;> first
    | (cases h; done)
    | (injection h with h; rw [h]; exact hk)
    | (split at h
       · rename_i hc; injection h with h; rw [h]
         first
           | exact ⟨inKb_ok hc, hk⟩
           | (simp only [Bool.and_eq_true, bne_iff_ne] at hc; exact ⟨hc.1, inKb_ok hc.2, hk⟩)
           | exact ⟨by simpa using hc, hk⟩
       · cases h)

def shIb (op : BinOp) (k : IntKind) (a b : Int) : Option AV :=
  match op, b with
  | .shl, .ofNat m => some (.lit (.int k (k.wrap (a * 2 ^ (min m k.bits)))))
  | .shr, .ofNat m => some (.lit (.int k (a.fdiv (2 ^ (min m k.bits)))))
  | _, _ => none
theorem shIb_ok {op : BinOp} {k : IntKind} {a b : Int} {v : AV} (h : shIb op k a b = some v) {K : AV → Prop} (hk : K v) : shI op k a b K := by
  unfold shIb at h
  split at h
  · injection h with h; subst h; exact ⟨Int.natCast_nonneg _, hk⟩
  · injection h with h; subst h; exact ⟨Int.natCast_nonneg _, hk⟩
  · cases h

def binSb (op : BinOp) (a b : ByteArray) : Option AV :=
  match op with
  | .eql => some (.lit (.bool (strEq a b)))
  | .neq => some (.lit (.bool (!strEq a b)))
  | _ => none
theorem toList_data (a : ByteArray) : a.toList = a.data.toList := by
  have key : ∀ (n i : Nat) (r : List UInt8), a.size - i = n → ByteArray.toList.loop a i r = r.reverse ++ a.data.toList.drop i := by
    intro n
    induction n with
    | zero =>
      intro i r h
      unfold ByteArray.toList.loop
      rw [if_neg (by omega)]
      have : a.data.toList.length ≤ i := by simp; have : a.size = a.data.size := rfl; omega
      rw [List.drop_of_length_le this, List.append_nil]
    | succ n ih =>
      intro i r h
      unfold ByteArray.toList.loop
      have hlt : i < a.size := by omega
      rw [if_pos hlt, ih (i + 1) _ (by omega)]
      have hl : i < a.data.toList.length := by simp; exact hlt
      rw [List.drop_eq_getElem_cons hl]
      simp [ByteArray.get!, getElem!_pos a.data i hlt]
  have := key a.size 0 [] (by omega)
  simpa [ByteArray.toList] using this
theorem binSb_ok {op : BinOp} {a b : ByteArray} {v : AV} (h : binSb op a b = some v) {K : AV → Prop} (hk : K v) : binS op a b K := by
  cases op <;> simp only [binSb, strEq] at h <;> first | (cases h; done) | skip
  all_goals (injection h with h; subst h; simp only [binS, toList_data]; exact hk)

def binKb (op : BinOp) (x y : AV) : Option AV :=
  match x, y with
  | .lit (.int k a), .lit (.int k' b) => match op with
    | .shl => shIb .shl k a b
    | .shr => shIb .shr k a b
    | _ => if k = k' then binIb op k a b else none
  | .lit (.string a), .lit (.string b) => binSb op a b
  | _, _ => none
theorem binKb_ok {op : BinOp} {x y v : AV} (h : binKb op x y = some v) {K : AV → Prop} (hk : K v) : binK op x y K := by
  unfold binKb at h
  split at h
  · rename_i k a k' b
    simp only [binK]
    split at h
    · exact shIb_ok h hk
    · exact shIb_ok h hk
    · split at h
      · rename_i hkk
        split
        · rename_i hne _; exact absurd rfl hne
        · rename_i hne; exact absurd rfl hne
        · exact ⟨hkk, binIb_ok h hk⟩
      · cases h
  · exact binSb_ok h hk
  · cases h
theorem binKb_ren {op : BinOp} {x y v : AV} (h : binKb op x y = some v) (ρ : Nat → Nat) : ren ρ x = x ∧ ren ρ y = y := by
  unfold binKb at h
  split at h
  · exact ⟨rfl, rfl⟩
  · exact ⟨rfl, rfl⟩
  · cases h
end Go.Avm
