/- Each resolved operation is sound: arithmetic and the rest of those that leave the world alone. -/
import Derived.Test.YtcfeipphmklakaaAvm5
namespace Go.Avm
open Go.RowKit

section
variable {P : Program} {N : Nat} {s : St} {a : Act} {w : World} {A : Area} {sp : Sp} {K : St → Prop} {next : Act → World → Prop} {Q : Exit → Act → World → Prop}
  {o : Oper} {d : Nat}

theorem wrap_self {k : IntKind} {n : Int} (h : inK k n) : IntKind.wrap k n = n := wrap_inK h

theorem binI_sound {op : BinOp} {k : IntKind} {p q : Int} {f : AV → Prop} (hsh : op ≠ .shl ∧ op ≠ .shr) (t : TypeId) (h : binI op k p q f) :
    ∃ v, (binOp op t (.int k p) (.int k q)).run P w = .ok v w ∧ flat v = true ∧ f (.lit v) := by
  cases op with
  | shl => exact absurd rfl hsh.1
  | shr => exact absurd rfl hsh.2
  | add => exact ⟨.int k (p + q), by simp [binOp, Op.intArith, wrap_inK h.1], rfl, h.2⟩
  | sub => exact ⟨.int k (p - q), by simp [binOp, Op.intArith, wrap_inK h.1], rfl, h.2⟩
  | mul => exact ⟨.int k (p * q), by simp [binOp, Op.intArith, wrap_inK h.1], rfl, h.2⟩
  | quo => exact ⟨.int k (p.tdiv q), by simp [binOp, Op.intDiv, h.1, wrap_inK h.2.1], rfl, h.2.2⟩
  | rem => exact ⟨.int k (p.tmod q), by simp [binOp, Op.intDiv, h.1], rfl, h.2⟩
  | and => exact ⟨.int k (bitI .and k p q), by simp only [binOp, ne_eq, not_true, if_false]; rfl, rfl, h⟩
  | or => exact ⟨.int k (bitI .or k p q), by simp only [binOp, ne_eq, not_true, if_false]; rfl, rfl, h⟩
  | xor => exact ⟨.int k (bitI .xor k p q), by simp only [binOp, ne_eq, not_true, if_false]; rfl, rfl, h⟩
  | andNot => exact ⟨.int k (bitI .andNot k p q), by simp only [binOp, ne_eq, not_true, if_false]; rfl, rfl, h⟩
  | eql => exact ⟨.bool (p == q), by simp [binOp, Op.intCmp], rfl, h⟩
  | neq => exact ⟨.bool (p != q), by simp [binOp, Op.intCmp], rfl, h⟩
  | lss => exact ⟨.bool (decide (p < q)), by simp [binOp, Op.intCmp], rfl, h⟩
  | leq => exact ⟨.bool (decide (p ≤ q)), by simp [binOp, Op.intCmp], rfl, h⟩
  | gtr => exact ⟨.bool (decide (p > q)), by simp [binOp, Op.intCmp], rfl, h⟩
  | geq => exact ⟨.bool (decide (p ≥ q)), by simp [binOp, Op.intCmp], rfl, h⟩

theorem shI_sound {op : BinOp} {k k' : IntKind} {p q : Int} {f : AV → Prop} (t : TypeId) (h : shI op k p q f) :
    ∃ v, (binOp op t (.int k p) (.int k' q)).run P w = .ok v w ∧ flat v = true ∧ f (.lit v) := by
  cases op with
  | shl => exact ⟨.int k (k.wrap (p * 2 ^ (min q.toNat k.bits))), by simp [binOp, Op.shift, Int.not_lt.2 h.1], rfl, h.2⟩
  | shr => exact ⟨.int k (p.fdiv (2 ^ (min q.toNat k.bits))), by simp [binOp, Op.shift, Int.not_lt.2 h.1], rfl, h.2⟩
  | _ => exact h.elim

theorem binS_sound {op : BinOp} {p q : ByteArray} {f : AV → Prop} (t : TypeId) (h : binS op p q f) :
    ∃ v, (binOp op t (.string p) (.string q)).run P w = .ok v w ∧ flat v = true ∧ f (.lit v) := by
  cases op with
  | eql => exact ⟨.bool (p.toList == q.toList), rfl, rfl, h⟩
  | neq => exact ⟨.bool (!(p.toList == q.toList)), rfl, rfl, h⟩
  | lss => exact ⟨.bool (Op.bytesLess p.toList q.toList), rfl, rfl, h⟩
  | leq => exact ⟨.bool (Op.bytesLess p.toList q.toList || p.toList == q.toList), rfl, rfl, h⟩
  | gtr => exact ⟨.bool (!(Op.bytesLess p.toList q.toList || p.toList == q.toList)), rfl, rfl, h⟩
  | geq => exact ⟨.bool (!Op.bytesLess p.toList q.toList), rfl, rfl, h⟩
  | _ => exact h.elim

theorem eqGuard_lit {op : BinOp} {t : TypeId} {x y : Operand} {p q : Value} (h1 : flat p = true) (h2 : flat q = true) (h3 : p ≠ .nilIface) :
    (eqGuard op t x y p q).run P w = .ok () w := by
  unfold eqGuard
  cases op <;> first
    | rfl
    | (cases p <;> cases q <;> first | (cases h1; done) | (cases h2; done) | exact absurd rfl h3 | rfl)

theorem binK_sound {op : BinOp} {x y : AV} {p q : Value} {f : AV → Prop} (t : TypeId) (ox oy : Operand) (hx : RV w A x p) (hy : RV w A y q) (h : binK op x y f) :
    ∃ v, (do eqGuard op t ox oy p q; binOp op t p q : Sem Value).run P w = .ok v w ∧ flat v = true ∧ f (.lit v) := by
  unfold binK at h
  split at h
  · have e1 := hx.inv_int; have e2 := hy.inv_int
    subst e1; subst e2
    simp only [Sem.run_bind, eqGuard_lit (P := P) (w := w) (op := op) (t := t) (x := ox) (y := oy) (p := .int _ _) (q := .int _ _) rfl rfl (by simp), Result.andThen_ok]
    split at h
    · exact shI_sound t h
    · exact shI_sound t h
    · rename_i n1 n2
      obtain ⟨rfl, h⟩ := h
      exact binI_sound ⟨n1, n2⟩ t h
  · have e1 := hx.inv_str; have e2 := hy.inv_str
    subst e1; subst e2
    simp only [Sem.run_bind, eqGuard_lit (P := P) (w := w) (op := op) (t := t) (x := ox) (y := oy) (p := .string _) (q := .string _) rfl rfl (by simp), Result.andThen_ok]
    exact binS_sound t h
  · exact h.elim

theorem s_bin {t t' : TypeId} {op : BinOp} {x y : Operand} {mx my : MArg} (hop : o.op = .binOp op t x y t') (hd : o.dst = some d) (hN : d < N) (hx : argOf x = some mx) (hy : argOf y = some my)
    (h : RS N s a w A sp) (hv : vc1 P (.bin d op mx my) s K) (hn : Next s w A sp N K next) : o.wp P a w next Q := by
  have h1 := (argOf_sound h hx).1
  have h2 := (argOf_sound h hy).1
  simp only [vc1] at hv
  obtain ⟨v, hrun, hf, hK⟩ := binK_sound (P := P) t x y h1 h2 hv
  refine fin h hd hN ?_ (.lit v hf) (.of_not (by intro _ _ _ h; cases h)) hK hn
  simp only [Sem.run_bind] at hrun
  simp only [execOp, hop, Sem.run_bind, hrun, Result.andThen_ok, Sem.run_pure]

theorem equal_bool (t : TypeId) (ht : P.underlying t = some .bool) (p q : Bool) : (Op.equal t (.bool p) (.bool q)).run P w = .ok (p == q) w := by
  show (Op.equalIn (9999 + 1) t _ _).run P w = _
  unfold Op.equalIn
  simp only [Sem.run_bind, run_underlying ht, Result.andThen_ok, Sem.run_pure]

theorem s_binB {t t' : TypeId} {op : BinOp} {neg : Bool} {x y : Operand} {mx my : MArg} (hop : o.op = .binOp op t x y t') (hneg : op = (if neg then .neq else .eql)) (hd : o.dst = some d) (hN : d < N) (hx : argOf x = some mx) (hy : argOf y = some my)
    (ht : P.underlying t = some .bool)
    (h : RS N s a w A sp) (hv : vc1 P (.binB d neg mx my) s K) (hn : Next s w A sp N K next) : o.wp P a w next Q := by
  have h1 := (argOf_sound h hx).1
  have h2 := (argOf_sound h hy).1
  simp only [vc1] at hv
  split at hv
  · rename_i p q e1 e2
    rw [e1] at h1; rw [e2] at h2
    have v1 := h1.inv_bool; have v2 := h2.inv_bool
    refine fin h hd hN ?_ (.lit _ rfl) trivial hv hn
    subst hneg
    have hg := fun op => eqGuard_lit (P := P) (w := w) (op := op) (t := t) (x := x) (y := y) (p := .bool p) (q := .bool q) rfl rfl (by simp)
    cases neg <;> simp [execOp, hop, v1, v2, hg, binOp, equal_bool t ht]
  · exact hv.elim

theorem s_not {t : TypeId} {x : Operand} {mx : MArg} (hop : o.op = .unOp .not t x) (hd : o.dst = some d) (hN : d < N) (hx : argOf x = some mx)
    (h : RS N s a w A sp) (hv : vc1 P (.not d mx) s K) (hn : Next s w A sp N K next) : o.wp P a w next Q := by
  have h1 := (argOf_sound h hx).1
  simp only [vc1] at hv
  split at hv
  · rename_i p e1
    rw [e1] at h1
    exact fin h hd hN (by simp [execOp, hop, h1.inv_bool, Op.unary]) (.lit _ rfl) trivial hv hn
  · exact hv.elim

theorem s_neg {t : TypeId} {x : Operand} {mx : MArg} (hop : o.op = .unOp .neg t x) (hd : o.dst = some d) (hN : d < N) (hx : argOf x = some mx)
    (h : RS N s a w A sp) (hv : vc1 P (.neg d mx) s K) (hn : Next s w A sp N K next) : o.wp P a w next Q := by
  have h1 := (argOf_sound h hx).1
  simp only [vc1] at hv
  split at hv
  · rename_i k p e1
    rw [e1] at h1
    exact fin (v := .int k (0 - p)) h hd hN (by simp only [execOp, hop, h1.inv_int, Op.unary, Op.intArith, wrap_inK hv.1]; rfl) (.lit _ rfl) trivial hv.2 hn
  · exact hv.elim

theorem s_conv {ts td : TypeId} {k k' : IntKind} {x : Operand} {mx : MArg} (hop : o.op = .convert ts td x) (hd : o.dst = some d) (hN : d < N) (hx : argOf x = some mx)
    (hs : P.underlying ts = some (.int k')) (ht : P.underlying td = some (.int k))
    (h : RS N s a w A sp) (hv : vc1 P (.conv d k mx) s K) (hn : Next s w A sp N K next) : o.wp P a w next Q := by
  have h1 := (argOf_sound h hx).1
  simp only [vc1] at hv
  split at hv
  · rename_i q p e1
    rw [e1] at h1
    exact fin (v := .int k (k.wrap p)) h hd hN (by simp [execOp, hop, h1.inv_int, convert, run_underlying hs, run_underlying ht, Conv.intToInt]) (.lit _ rfl) trivial hv hn
  · exact hv.elim

theorem s_ext {x : Operand} {mx : MArg} {i : Nat} (hop : o.op = .extract x i) (hd : o.dst = some d) (hN : d < N) (hx : argOf x = some mx)
    (h : RS N s a w A sp) (hv : vc1 P (.ext d mx i) s K) (hn : Next s w A sp N K next) : o.wp P a w next Q := by
  have h1 := (argOf_sound h hx).1
  simp only [vc1] at hv
  split at hv
  · rename_i xs e1
    rw [e1] at h1
    generalize hv0 : a.eval x = v0 at h1
    cases h1 with
    | tuple _ vs hs hr =>
      have : vs[i]? = some (vs.getD i undef) := by
        rw [Array.getD_eq_getD_getElem?, Array.getElem?_eq_getElem (by omega)]; rfl
      have hrun : (Instr.extract (.tuple vs) i).run P w = .ok (vs.getD i undef) w := by
        generalize vs.getD i undef = v at this
        simp [Instr.extract, this]
      exact fin (v := vs.getD i undef) h hd hN (by simp only [execOp, hop, hv0, Sem.run_bind, hrun, Result.andThen_ok, Sem.run_pure]) (hr i).erase .erase hv.2 hn
  · exact hv.elim

theorem s_len {x : Operand} {mx : MArg} {t e : TypeId} (hop : o.op = .call { callee := .builtin .len, args := #[x], argTypes := #[t] }) (hd : o.dst = some d) (hN : d < N) (hx : argOf x = some mx)
    (ht : P.underlying t = some (.slice e))
    (h : RS N s a w A sp) (hv : vc1 P (.len d mx) s K) (hn : Next s w A sp N K next) : o.wp P a w next Q := by
  have h1 := (argOf_sound h hx).1
  simp only [vc1] at hv
  split at hv
  · rename_i sz xs own e1
    rw [e1] at h1
    generalize hv0 : a.eval x = v0 at h1
    cases h1 with
    | nils => exact fin (v := .int .i64 0) h hd hN (by simp [execOp, hop, resolve, invoke, builtin, hv0, Builtin.len_, run_underlying ht, goInt]) (.lit _ rfl) trivial hv hn
    | slice _ _ _ b off cap vs hsz h1c hcap hlen hc hr =>
      exact fin (v := .int .i64 xs.length) h hd hN (by simp [execOp, hop, resolve, invoke, builtin, hv0, Builtin.len_, run_underlying ht, goInt]) (.lit _ rfl) trivial hv hn
  · rename_i b off len cap sz e1
    rw [e1] at h1
    generalize hv0 : a.eval x = v0 at h1
    cases h1
    exact fin (v := .int .i64 len) h hd hN (by simp [execOp, hop, resolve, invoke, builtin, hv0, Builtin.len_, run_underlying ht, goInt]) (.lit _ rfl) trivial hv hn
  · exact hv.elim

theorem s_lenStr {x : Operand} {mx : MArg} {t : TypeId} (hop : o.op = .call { callee := .builtin .len, args := #[x], argTypes := #[t] }) (hd : o.dst = some d) (hN : d < N) (hx : argOf x = some mx)
    (ht : P.underlying t = some .string)
    (h : RS N s a w A sp) (hv : vc1 P (.lenStr d mx) s K) (hn : Next s w A sp N K next) : o.wp P a w next Q := by
  have h1 := (argOf_sound h hx).1
  simp only [vc1] at hv
  split at hv
  · rename_i st e1
    rw [e1] at h1
    exact fin (v := .int .i64 st.size) h hd hN (by simp [execOp, hop, resolve, invoke, builtin, h1.inv_str, Builtin.len_, run_underlying ht, goInt]) (.lit _ rfl) trivial hv hn
  · exact hv.elim

theorem s_lenK {x : Operand} {t e : TypeId} {n : Nat} (hop : o.op = .call { callee := .builtin .len, args := #[x], argTypes := #[t] }) (hd : o.dst = some d) (hN : d < N)
    (ht : P.underlying t = some (.array n e) ∨ ∃ t', P.underlying t = some (.pointer t') ∧ P.underlying t' = some (.array n e))
    (h : RS N s a w A sp) (hv : vc1 P (.lenK d n) s K) (hn : Next s w A sp N K next) : o.wp P a w next Q := by
  refine fin (v := .int .i64 n) h hd hN ?_ (.lit _ rfl) trivial hv hn
  have : (Builtin.len_ #[t] o.type #[a.eval x]).run P w = .ok (.int .i64 n) w := by
    rcases ht with ht | ⟨t', ht, ht'⟩
    · unfold Builtin.len_
      simp only [List.getElem?_toArray, List.getElem?_cons_zero, Sem.run_bind, run_underlying ht, Result.andThen_ok]
      cases a.eval x <;> rfl
    · unfold Builtin.len_
      simp only [List.getElem?_toArray, List.getElem?_cons_zero, Sem.run_bind, run_underlying ht, Result.andThen_ok]
      cases a.eval x <;> simp [run_underlying ht', goInt]
  simp [execOp, hop, resolve, invoke, builtin, this]

theorem s_max {x y : Operand} {mx my : MArg} {ts : Array TypeId} (hop : o.op = .call { callee := .builtin .max, args := #[x, y], argTypes := ts }) (hd : o.dst = some d) (hN : d < N) (hx : argOf x = some mx) (hy : argOf y = some my)
    (h : RS N s a w A sp) (hv : vc1 P (.maxI d mx my) s K) (hn : Next s w A sp N K next) : o.wp P a w next Q := by
  have h1 := (argOf_sound h hx).1
  have h2 := (argOf_sound h hy).1
  simp only [vc1] at hv
  split at hv
  · rename_i k p k' q e1 e2
    rw [e1] at h1; rw [e2] at h2
    exact fin (v := .int k (if q > p then q else p)) h hd hN (by simp [execOp, hop, resolve, invoke, builtin, h1.inv_int, h2.inv_int, Builtin.max_, Builtin.max2]) (.lit _ rfl) trivial hv hn
  · exact hv.elim

theorem s_min {x y : Operand} {mx my : MArg} {ts : Array TypeId} (hop : o.op = .call { callee := .builtin .min, args := #[x, y], argTypes := ts }) (hd : o.dst = some d) (hN : d < N) (hx : argOf x = some mx) (hy : argOf y = some my)
    (h : RS N s a w A sp) (hv : vc1 P (.minI d mx my) s K) (hn : Next s w A sp N K next) : o.wp P a w next Q := by
  have h1 := (argOf_sound h hx).1
  have h2 := (argOf_sound h hy).1
  simp only [vc1] at hv
  split at hv
  · rename_i k p k' q e1 e2
    rw [e1] at h1; rw [e2] at h2
    exact fin (v := .int k (if q < p then q else p)) h hd hN (by simp [execOp, hop, resolve, invoke, builtin, h1.inv_int, h2.inv_int, Builtin.min_, Builtin.min2]) (.lit _ rfl) trivial hv hn
  · exact hv.elim

theorem args_sound (h : RS N s a w A sp) : ∀ {xs : List Operand} {ms : List MArg}, argsOf xs = some ms →
    ms.length = xs.length ∧ ∀ i, RV w A (((ms.map fun x => (x.ev s.env).erase)).getD i .any) ((xs.map a.eval).getD i undef)
  | [], ms, hm => by injection hm with hm; subst hm; exact ⟨rfl, fun i => by simp; exact .any _⟩
  | x :: xs, ms, hm => by
    simp only [argsOf] at hm
    split at hm
    · rename_i y ys h1 h2
      injection hm with hm; subst hm
      obtain ⟨i1, i2⟩ := args_sound h h2
      refine ⟨by simp [i1], fun i => ?_⟩
      cases i with
      | zero => simpa using (argOf_sound h h1).1.erase
      | succ i => simpa using i2 i
    · cases hm

theorem argsT_sound (h : RS N s a w A sp) : ∀ {xs : List Operand} {ts : List TypeId} {ms : List MArg}, argsOfT P xs ts = some ms →
    ms.length = xs.length ∧ ∀ i, RV w A (((ms.map fun x => (x.ev s.env).erase)).getD i .any) ((xs.map a.eval).getD i undef)
  | [], _, ms, hm => by unfold argsOfT at hm; injection hm with hm; subst hm; exact ⟨rfl, fun i => by simp; exact .any _⟩
  | x :: xs, [], ms, hm => by
    simp only [argsOfT] at hm
    split at hm
    · rename_i y ys h1 h2
      injection hm with hm; subst hm
      obtain ⟨i1, i2⟩ := argsT_sound h h2
      refine ⟨by simp [i1], fun i => ?_⟩
      cases i with
      | zero => simpa using (argOf_sound h h1).1.erase
      | succ i => simpa using i2 i
    · cases hm
  | x :: xs, t :: ts, ms, hm => by
    simp only [argsOfT] at hm
    split at hm
    · rename_i y ys h1 h2
      injection hm with hm; subst hm
      obtain ⟨i1, i2⟩ := argsT_sound h h2
      refine ⟨by simp [i1], fun i => ?_⟩
      cases i with
      | zero => simpa using (argOfT_sound h h1).1.erase
      | succ i => simpa using i2 i
    · cases hm

theorem s_mkfn {fn : Fn} {xs ys : Array Operand} {ms ns : List MArg} (hop : o.op = .makeFunc fn xs ys) (hd : o.dst = some d) (hN : d < N) (hx : argsOf xs.toList = some ms) (hy : argsOf ys.toList = some ns)
    (h : RS N s a w A sp) (hv : vc1 P (.mkfn d fn ms ns) s K) (hn : Next s w A sp N K next) : o.wp P a w next Q := by
  obtain ⟨a1, a2⟩ := args_sound h hx
  obtain ⟨b1, b2⟩ := args_sound h hy
  refine fin (v := .func fn (xs.map a.eval) (ys.map a.eval)) h hd hN (by simp [execOp, hop, Instr.makeFunc]) (.func _ _ _ _ _ (by simp [a1]) (by simp [b1]) (fun i => ?_) (fun i => ?_)) trivial hv hn
  · have := a2 i
    simpa [List.getD_eq_getElem?_getD, Array.getD_eq_getD_getElem?] using this
  · have := b2 i
    simpa [List.getD_eq_getElem?_getD, Array.getD_eq_getD_getElem?] using this

theorem s_nilchk {x : Operand} {mx : MArg} (hop : o.op = .nilCheck x) (hd : o.dst = some d) (hN : d < N) (hx : argOf x = some mx)
    (h : RS N s a w A sp) (hv : vc1 P (.nilchk d mx) s K) (hn : Next s w A sp N K next) : o.wp P a w next Q := by
  have h1 := (argOf_sound h hx).1
  simp only [vc1] at hv
  split at hv
  · rename_i cs e1
    rw [e1] at h1
    generalize hv0 : a.eval x = v0 at h1
    have hh := h1
    cases h1
    exact fin h hd hN (by simp [execOp, hop, hv0]) hh trivial hv hn
  · rename_i b off e1
    rw [e1] at h1
    generalize hv0 : a.eval x = v0 at h1
    have hh := h1
    cases h1
    exact fin h hd hN (by simp [execOp, hop, hv0]) hh trivial hv hn
  · exact hv.elim

theorem flatMap_take {α β : Type} (f : α → List β) (sz : Nat) : ∀ (xs : List α) (n : Nat), (∀ x ∈ xs, (f x).length = sz) → (xs.take n).flatMap f = (xs.flatMap f).take (n * sz)
  | [], n, _ => by simp
  | x :: xs, 0, _ => by simp
  | x :: xs, n + 1, h => by
    have hx := h x (by simp)
    have ih := flatMap_take f sz xs n (fun y hy => h y (by simp [hy]))
    have e : (n + 1) * sz = (f x).length + n * sz := by rw [hx, Nat.add_mul]; omega
    simp only [List.take_succ_cons, List.flatMap_cons, ih, e]
    rw [List.take_append]
    congr 1
    · rw [List.take_of_length_le (by omega)]
    · congr 1; omega

theorem flatMap_drop {α β : Type} (f : α → List β) (sz : Nat) : ∀ (xs : List α) (n : Nat), (∀ x ∈ xs, (f x).length = sz) → (xs.drop n).flatMap f = (xs.flatMap f).drop (n * sz)
  | [], n, _ => by simp
  | x :: xs, 0, _ => by simp
  | x :: xs, n + 1, h => by
    have hx := h x (by simp)
    have ih := flatMap_drop f sz xs n (fun y hy => h y (by simp [hy]))
    have e : (n + 1) * sz = (f x).length + n * sz := by rw [hx, Nat.add_mul]; omega
    simp only [List.drop_succ_cons, List.flatMap_cons, ih, e]
    rw [List.drop_append, List.drop_eq_nil_of_le (as := f x) (by omega), List.nil_append]
    congr 1; omega

theorem s_slcHi {t e : TypeId} {x hi : Operand} {mx mh : MArg} {sz : Nat} (hop : o.op = .slice t x none (some hi) none) (hd : o.dst = some d) (hN : d < N) (hx : argOf x = some mx) (hy : argOf hi = some mh)
    (ht : P.underlying t = some (.slice e)) (hz : szOf P e = some sz)
    (h : RS N s a w A sp) (hv : vc1 P (.slcHi d mx mh sz) s K) (hn : Next s w A sp N K next) : o.wp P a w next Q := by
  have h1 := (argOf_sound h hx).1
  have h2 := (argOf_sound h hy).1
  simp only [szOf, Option.map_eq_some_iff] at hz
  obtain ⟨inf, hinf, rfl⟩ := hz
  simp only [vc1] at hv
  split at hv
  · rename_i sz' xs own k n e1 e2
    obtain ⟨hs, h0, hl, hK⟩ := hv
    rw [e1] at h1; rw [e2] at h2
    have v2 := h2.inv_int
    generalize hv0 : a.eval x = v0 at h1
    cases h1 with
    | nils =>
      have hn0 : n = 0 := by simp at hl; omega
      subst hn0
      refine fin (v := .slice none 0 0) h hd hN ?_ (by simp; exact .nils _ _) (by simp; trivial) hK hn
      simp [execOp, hop, hv0, v2, Instr.sliceAt, run_underlying ht, Instr.slice, Instr.sliceBounds, Instr.sliceBound, asIntOf, sizeOf, typeInfo, hinf]
    | slice _ _ _ b off cap vs hsz h1c hcap hlen hc hr =>
      have hnn : n.toNat ≤ xs.length := by omega
      have hnc : n ≤ (cap : Int) := by omega
      have hsz' : ∀ y ∈ xs.take n.toNat, y.cells.length = inf.size := by
        intro y hy
        rcases hs with rfl | rfl
        · exact hsz y (List.mem_of_mem_take hy)
        · simp at hy
      have hv' : RV w A (.slice inf.size (xs.take n.toNat) 0) (.slice (some ⟨b, off, none⟩) (xs.take n.toNat).length cap) := by
        refine .slice _ _ _ _ _ _ vs hsz' (fun y hy => h1c y (List.mem_of_mem_take hy)) (by simp; omega) (by simp; omega) (fun i hi => ?_) (fun i => ?_)
        · refine hc i ?_
          rcases hs with rfl | rfl
          · refine Nat.lt_of_lt_of_le hi (Nat.mul_le_mul_right _ ?_); simp; omega
          · simp at hi
        · rcases hs with rfl | rfl
          · rw [flatMap_take AV.cells _ xs _ hsz]
            by_cases hi : i < n.toNat * inf.size
            · have := hr i
              simp only [List.getD_eq_getElem?_getD, List.getElem?_take, hi, if_true] at this ⊢
              exact this
            · simp only [List.getD_eq_getElem?_getD, List.getElem?_take, hi, if_false, Option.getD_none]
              exact .any _
          · simp; exact .any _
      have e3 : (xs.take n.toNat).length = n.toNat := by simp; omega
      rw [e3] at hv'
      refine fin h hd hN ?_ hv' (.of_not (by intro _ _ _ hh; injection hh with _ _ hh; exact hh.symm)) hK hn
      simp [execOp, hop, hv0, v2, Instr.sliceAt, run_underlying ht, Instr.slice, Instr.sliceBounds, Instr.sliceBound, asIntOf, sizeOf, typeInfo, hinf, h0, hnc, Addr.add]
  · exact hv.elim

end
end Go.Avm
