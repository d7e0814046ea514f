/- Each resolved operation is sound: those that leave the world alone. -/
import Derived.Test.YtcfeipphmklakaaAvm4
namespace Go.Avm
open Go.RowKit

section
variable {w : World} {A : Area} {sp : Sp}

theorem RV.any' {v : Value} : RV w A .any v := .any v

theorem RV.inv_int {k : IntKind} {n : Int} {v : Value} (h : RV w A (.lit (.int k n)) v) : v = .int k n := by cases h; rfl
theorem RV.inv_bool {b : Bool} {v : Value} (h : RV w A (.lit (.bool b)) v) : v = .bool b := by cases h; rfl
theorem RV.inv_str {t : ByteArray} {v : Value} (h : RV w A (.lit (.string t)) v) : v = .string t := by cases h; rfl

theorem RV.part {xs : List AV} {vs : Array Value} (hs : vs.size = xs.length) (hr : ∀ i, RV w A (xs.getD i .any) (vs.getD i undef)) (off n : Nat) (h : off + n ≤ xs.length) :
    RV w A (.agg ((xs.drop off).take n)) (.agg (vs.extract off (off + n))) := by
  refine .agg _ _ (by simp; omega) fun i => ?_
  by_cases hi : i < n
  · have := hr (off + i)
    simp only [List.getD_eq_getElem?_getD, Array.getD_eq_getD_getElem?, List.getElem?_take, hi, if_true, List.getElem?_drop, Array.getElem?_extract] at this ⊢
    rw [if_pos (by omega)]
    exact this
  · simp only [List.getD_eq_getElem?_getD, List.getElem?_take, hi, if_false, Option.getD_none]
    exact .any _
end

section
variable {P : Program} {N : Nat} {s : St} {a : Act} {w : World} {A : Area} {sp : Sp} {K : St → Prop} {next : Act → World → Prop} {Q : Exit → Act → World → Prop}
  {o : Oper} {d : Nat}

abbrev Next (s : St) (w : World) (A : Area) (sp : Sp) (N : Nat) (K : St → Prop) (next : Act → World → Prop) : Prop :=
  ∀ s' a' w' A' sp', K s' → RS N s' a' w' A' sp' → Ev w A (live s.loc sp) w' A' (live s'.loc sp') → next a' w'

theorem s_cpy {x : Operand} {m : MArg} (hop : o.op = .move x) (hd : o.dst = some d) (hN : d < N) (hx : argOf x = some m)
    (h : RS N s a w A sp) (hv : K (s.set d (m.ev s.env))) (hn : Next s w A sp N K next) : o.wp P a w next Q :=
  fin h hd hN (by simp [execOp, hop]) (argOf_sound h hx).1 (argOf_sound h hx).2 hv hn

theorem s_pick {c x y : Operand} {mc mx my : MArg} (hop : o.op = .pick c x y) (hd : o.dst = some d) (hN : d < N) (hc : argOf c = some mc) (hx : argOf x = some mx) (hy : argOf y = some my)
    (h : RS N s a w A sp) (hv : vc1 P (.pick d mc mx my) s K) (hn : Next s w A sp N K next) : o.wp P a w next Q := by
  have h1 := (argOf_sound h hc).1
  simp only [vc1] at hv
  split at hv
  · rename_i b hb
    rw [hb] at h1
    have hcv := h1.inv_bool
    refine fin (x := if b then mx.ev s.env else my.ev s.env) (v := if b then a.eval x else a.eval y) h hd hN (by simp [execOp, hop, hcv, asBool]) ?_ ?_ hv hn
    · cases b
      · exact (argOf_sound h hy).1
      · exact (argOf_sound h hx).1
    · cases b
      · exact (argOf_sound h hy).2
      · exact (argOf_sound h hx).2
  · exact hv.elim

theorem isAgg_run {t : TypeId} {n : Option Nat} (h : partN P t = some n) (w : World) :
    (isAgg t).run P w = .ok n.isSome w ∧ (∃ i, P.info? t = some i ∧ ∀ k, n = some k → i.size = k) := by
  unfold partN at h
  split at h
  · rename_i dd i hu hi
    injection h with h
    unfold isAgg
    rw [Sem.run_bind, run_underlying hu w]
    refine ⟨?_, i, hi, ?_⟩
    · cases dd <;> subst h <;> simp
    · intro k hk; subst h; cases dd <;> simp at hk <;> exact hk
  · cases h

theorem Addr.add_lit' (b off i : Nat) : (⟨b, off, none⟩ : Addr).add i = ⟨b, off + i, none⟩ := by unfold Addr.add; split <;> simp_all

theorem loadVar_run {t : TypeId} {n : Option Nat} (h : partN P t = some n) (w : World) (b off : Nat) (f : Nat → Value)
    (hc : ∀ i, i < n.getD 1 → w.cell? ⟨b, off + i, none⟩ = some (f i)) :
    (loadVar t ⟨b, off, none⟩).run P w = .ok (match n with | none => f 0 | some k => .agg ((Array.range k).map f)) w := by
  obtain ⟨h1, i, hi, hk⟩ := isAgg_run h w
  unfold loadVar
  rw [Sem.run_bind, h1]
  cases n with
  | none =>
    have := hc 0 (by simp)
    simp at this
    simp [run_load, this]
  | some k =>
    have hl := run_loadCells (P := P) w ⟨b, off, none⟩ k f (fun j hj => by rw [Addr.add_lit']; exact hc j (by simpa using hj))
    simp only [Sem.run_bind, sizeOf, typeInfo, Sem.run_pure, run_program, hi, hk k rfl, hl, Option.isSome, if_true, Result.andThen_ok]
    congr 2
    exact Array.ext' (by simp)

theorem s_load {t : TypeId} {x : Operand} {m : MArg} {n : Option Nat} (hop : o.op = .load t x) (hd : o.dst = some d) (hN : d < N) (hx : argOf x = some m) (ht : partN P t = some n)
    (h : RS N s a w A sp) (hv : vc1 P (.load d m n) s K) (hn : Next s w A sp N K next) : o.wp P a w next Q := by
  have h1 := (argOf_sound h hx).1
  simp only [vc1, loadK] at hv
  split at hv
  · rename_i cs hcs
    rw [hcs] at h1
    generalize hv0 : a.eval x = v0 at h1
    cases h1 with
    | ref _ b off vs hc hr =>
      cases n with
      | none =>
        simp only [partK] at hv
        refine fin (v := vs 0) (x := (cs.getD 0 .any).erase) h hd hN ?_ (hr 0).erase OwnOK.erase hv.2 hn
        have := loadVar_run ht w b off vs (fun i hi => (hc i (by simp at hi; omega)).1)
        simp only [execOp, hop, hv0, Instr.loadAt, Instr.sureAddr, Sem.run_bind, Sem.run_pure, Result.andThen_ok, this]
      | some k =>
        simp only [partK, Nat.zero_add, List.drop_zero] at hv
        have := loadVar_run ht w b off vs (fun i hi => (hc i (by simp at hi; omega)).1)
        refine fin (v := .agg ((Array.range k).map vs)) (x := (AV.agg (cs.take k)).erase.erase) h hd hN
          (by simp only [execOp, hop, hv0, Instr.loadAt, Instr.sureAddr, Sem.run_bind, Sem.run_pure, Result.andThen_ok, this]) ?_ OwnOK.erase hv.2 hn
        refine RV.erase (RV.erase (.agg _ _ (by simp; omega) fun i => ?_))
        by_cases hi : i < k
        · have := hr i
          simp only [List.getD_eq_getElem?_getD, List.getElem?_take, hi, if_true, Array.getD_eq_getD_getElem?, Array.getElem?_map] at this ⊢
          rw [Array.getElem?_eq_getElem (by simpa using hi)]
          simpa using this
        · simp only [List.getD_eq_getElem?_getD, List.getElem?_take, hi, if_false, Option.getD_none]
          exact .any _
  · rename_i b off hcs
    rw [hcs] at h1
    generalize hv0 : a.eval x = v0 at h1
    cases h1
    split at hv
    · rename_i cs hb
      obtain ⟨vs, T, hh, hsz, hr⟩ := h.loc b cs hb
      have hcell : ∀ i, off + i < cs.length → w.cell? ⟨b, off + i, none⟩ = some (vs.getD (off + i) undef) := by
        intro i hi
        simp [World.cell?, hh, Array.getD_eq_getD_getElem?, Array.getElem?_eq_getElem (show off + i < vs.size by omega)]
      cases n with
      | none =>
        simp only [partK] at hv
        have := loadVar_run ht w b off (fun i => vs.getD (off + i) undef) (fun i hi => hcell i (by simp at hi; omega))
        refine fin (v := vs.getD off undef) (x := cs.getD off .any) h hd hN ?_ (hr off).1 (hr off).2 hv.2 hn
        simp only [execOp, hop, hv0, Instr.loadAt, Instr.sureAddr, Sem.run_bind, Sem.run_pure, Result.andThen_ok, this, Nat.add_zero]
      | some k =>
        simp only [partK] at hv
        have := loadVar_run ht w b off (fun i => vs.getD (off + i) undef) (fun i hi => hcell i (by simp at hi; omega))
        refine fin (v := .agg ((Array.range k).map fun i => vs.getD (off + i) undef)) (x := (AV.agg ((cs.drop off).take k)).erase) h hd hN
          (by simp only [execOp, hop, hv0, Instr.loadAt, Instr.sureAddr, Sem.run_bind, Sem.run_pure, Result.andThen_ok, this]) ?_ OwnOK.erase hv.2 hn
        refine RV.erase (.agg _ _ (by simp; omega) fun i => ?_)
        by_cases hi : i < k
        · have := (hr (off + i)).1
          simp only [List.getD_eq_getElem?_getD, List.getElem?_take, hi, if_true, List.getElem?_drop, Array.getD_eq_getD_getElem?, Array.getElem?_map] at this ⊢
          rw [Array.getElem?_eq_getElem (by simpa using hi)]
          simpa using this
        · simp only [List.getD_eq_getElem?_getD, List.getElem?_take, hi, if_false, Option.getD_none]
          exact .any _
    · exact hv.elim
  · exact hv.elim

theorem RV.ref_drop {cs : List AV} {b off : Nat} (k : Nat) (h : RV w A (.ref cs) (.pointer (some ⟨b, off, none⟩))) : RV w A (.ref (cs.drop k)) (.pointer (some ⟨b, off + k, none⟩)) := by
  cases h with
  | ref _ _ _ vs hc hr =>
    refine .ref _ _ _ (fun i => vs (k + i)) (fun i hi => ?_) (fun i => ?_)
    · simp at hi
      rw [Nat.add_assoc]
      exact hc (k + i) (by omega)
    · have := hr (k + i)
      simpa [List.getD_eq_getElem?_getD] using this

theorem s_addr {t : TypeId} {x : Operand} {m : MArg} {f : Nat} {fs : Array Field} {fd : Field} {n : Nat} (hop : o.op = .fieldAddr t x f) (hd : o.dst = some d) (hN : d < N) (hx : argOf x = some m)
    (ht : P.underlying t = some (.struct fs)) (hf : fs[f]? = some fd) (hz : szOf P fd.type = some n) (hz0 : n ≠ 0)
    (h : RS N s a w A sp) (hv : vc1 P (.addr d m fd.offset) s K) (hn : Next s w A sp N K next) : o.wp P a w next Q := by
  have h1 := (argOf_sound h hx).1
  simp only [szOf, Option.map_eq_some_iff] at hz
  obtain ⟨i, hi, rfl⟩ := hz
  have hrun : ∀ b off, (Instr.fieldAt t (.pointer (some ⟨b, off, none⟩)) f).run P w = .ok (.pointer (some ⟨b, off + fd.offset, none⟩)) w := by
    intro b off
    simp [Instr.fieldAt, run_underlying ht, hf, Instr.sureAddr, fieldPlace, sizeOf, typeInfo, hi, hz0, Addr.add_lit']
  simp only [vc1] at hv
  split at hv
  · rename_i cs hcs
    rw [hcs] at h1
    generalize hv0 : a.eval x = v0 at h1
    cases h1 with
    | ref _ b off vs hc hr =>
      exact fin h hd hN (by simp only [execOp, hop, hv0, Sem.run_bind, hrun, Result.andThen_ok, Sem.run_pure]) (RV.ref_drop fd.offset (.ref _ b off vs hc hr)) trivial hv hn
  · rename_i b off hcs
    rw [hcs] at h1
    generalize hv0 : a.eval x = v0 at h1
    cases h1
    exact fin h hd hN (by simp only [execOp, hop, hv0, Sem.run_bind, hrun, Result.andThen_ok, Sem.run_pure]) (.mref _ _) trivial hv hn
  · exact hv.elim


theorem flatMap_at {α β : Type} (f : α → List β) (sz : Nat) : ∀ (xs : List α) (i : Nat), (∀ x ∈ xs, (f x).length = sz) → i < xs.length →
    ∀ j z x0, j < sz → (xs.flatMap f).getD (i * sz + j) z = ((f (xs.getD i x0)).getD j z)
  | [], i, _, hi => by simp at hi
  | x :: xs, 0, h, _ => by
    intro j z x0 hj
    have hx := h x (by simp)
    simp only [List.flatMap_cons, List.getD_eq_getElem?_getD, Nat.zero_mul, Nat.zero_add, List.getElem?_cons_zero, Option.getD_some]
    rw [List.getElem?_append_left (by omega)]
  | x :: xs, i + 1, h, hi => by
    intro j z x0 hj
    have hx := h x (by simp)
    have ih := flatMap_at f sz xs i (fun y hy => h y (by simp [hy])) (by simpa using hi) j z x0 hj
    have e : (i + 1) * sz + j = (f x).length + (i * sz + j) := by rw [hx, Nat.add_mul]; omega
    simp only [List.flatMap_cons, List.getD_eq_getElem?_getD, List.getElem?_cons_succ, e] at ih ⊢
    rw [List.getElem?_append_right (by omega), Nat.add_sub_cancel_left]
    exact ih

theorem RV.elem {sz : Nat} {xs : List AV} {own b off cap len : Nat} (h : RV w A (.slice sz xs own) (.slice (some ⟨b, off, none⟩) len cap)) (i : Nat) (hi : i < xs.length) :
    RV w A (.ref (xs.getD i .any).cells) (.pointer (some ⟨b, off + i * sz, none⟩)) := by
  cases h with
  | slice _ _ _ _ _ _ vs hsz h1c hcap hlen hc hr =>
    have hx : (xs.getD i .any).cells.length = sz := by
      rw [List.getD_eq_getElem?_getD, List.getElem?_eq_getElem hi]
      exact hsz _ (by simp)
    have hb : (i + 1) * sz ≤ xs.length * sz := Nat.mul_le_mul_right _ hi
    rw [Nat.add_mul, Nat.one_mul] at hb
    refine .ref _ _ _ (fun j => vs (i * sz + j)) (fun j hj => ?_) (fun j => ?_)
    · rw [Nat.add_assoc]; exact hc _ (by omega)
    · by_cases hj : j < sz
      · have := hr (i * sz + j)
        rw [flatMap_at AV.cells sz xs i hsz hi j .any .any hj] at this
        exact this
      · rw [List.getD_eq_getElem?_getD, List.getElem?_eq_none (by omega)]
        exact .any _

theorem s_idxS {t e : TypeId} {x i : Operand} {m mi : MArg} {sz : Nat} (hop : o.op = .indexAddr t x i) (hd : o.dst = some d) (hN : d < N) (hx : argOf x = some m) (hi : argOf i = some mi)
    (ht : P.underlying t = some (.slice e)) (hz : szOf P e = some sz)
    (h : RS N s a w A sp) (hv : vc1 P (.idxS d m mi sz) s K) (hn : Next s w A sp N K next) : o.wp P a w next Q := by
  have h1 := (argOf_sound h hx).1
  have h2 := (argOf_sound h hi).1
  simp only [szOf, Option.map_eq_some_iff] at hz
  obtain ⟨inf, hinf, rfl⟩ := hz
  simp only [vc1] at hv
  split at hv
  · rename_i sz' xs own k n hxs hint
    obtain ⟨rfl, h0, hl, hK⟩ := hv
    rw [hxs] at h1; rw [hint] at h2
    have e2 := h2.inv_int
    generalize hv0 : a.eval x = v0 at h1
    have hx' := h1
    cases h1 with
    | nils => simp at hl; omega
    | slice _ _ _ b off cap vs hsz h1c hcap hlen hc hr =>
      have hnn : n.toNat < xs.length := by omega
      refine fin h hd hN (v := .pointer (some ⟨b, off + n.toNat * inf.size, none⟩)) ?_ (hx'.elem n.toNat hnn) trivial hK hn
      simp [execOp, hop, hv0, e2, Instr.indexAt, asIntOf, run_underlying ht, h0, hl, sizeOf, typeInfo, hinf, Addr.add_lit']
  · rename_i b off len cap sz' k n hxs hint
    obtain ⟨rfl, h0, hl, hK⟩ := hv
    rw [hxs] at h1; rw [hint] at h2
    have e2 := h2.inv_int
    generalize hv0 : a.eval x = v0 at h1
    cases h1
    refine fin h hd hN (v := .pointer (some ⟨b, off + n.toNat * inf.size, none⟩)) ?_ (.mref _ _) trivial hK hn
    simp [execOp, hop, hv0, e2, Instr.indexAt, asIntOf, run_underlying ht, h0, hl, sizeOf, typeInfo, hinf, Addr.add_lit']
  · exact hv.elim

theorem s_idxA {t e : TypeId} {x i : Operand} {m mi : MArg} {len sz : Nat} (hop : o.op = .indexAddr t x i) (hd : o.dst = some d) (hN : d < N) (hx : argOf x = some m) (hi : argOf i = some mi)
    (ht : P.underlying t = some (.array len e)) (hz : szOf P e = some sz)
    (h : RS N s a w A sp) (hv : vc1 P (.idxA d m mi len sz) s K) (hn : Next s w A sp N K next) : o.wp P a w next Q := by
  have h1 := (argOf_sound h hx).1
  have h2 := (argOf_sound h hi).1
  simp only [szOf, Option.map_eq_some_iff] at hz
  obtain ⟨inf, hinf, rfl⟩ := hz
  simp only [vc1] at hv
  split at hv
  · rename_i cs k n hxs hint
    obtain ⟨h0, hl, hK⟩ := hv
    rw [hxs] at h1; rw [hint] at h2
    have e2 := h2.inv_int
    generalize hv0 : a.eval x = v0 at h1
    cases h1 with
    | ref _ b off vs hc hr =>
      refine fin h hd hN (v := .pointer (some ⟨b, off + n.toNat * inf.size, none⟩)) ?_ (RV.ref_drop (n.toNat * inf.size) (.ref _ b off vs hc hr)) trivial hK hn
      simp [execOp, hop, hv0, e2, Instr.indexAt, asIntOf, run_underlying ht, h0, hl, Instr.sureAddr, sizeOf, typeInfo, hinf, Addr.add_lit']
  · rename_i b off k n hxs hint
    obtain ⟨h0, hl, hK⟩ := hv
    rw [hxs] at h1; rw [hint] at h2
    have e2 := h2.inv_int
    generalize hv0 : a.eval x = v0 at h1
    cases h1
    refine fin h hd hN (v := .pointer (some ⟨b, off + n.toNat * inf.size, none⟩)) ?_ (.mref _ _) trivial hK hn
    simp [execOp, hop, hv0, e2, Instr.indexAt, asIntOf, run_underlying ht, h0, hl, Instr.sureAddr, sizeOf, typeInfo, hinf, Addr.add_lit']
  · exact hv.elim

theorem part_sound {t : TypeId} {cs : List AV} {vs : Array Value} {off : Nat} {n : Option Nat} {k : AV → Prop} (ht : partN P t = some n)
    (hs : vs.size = cs.length) (hr : ∀ i, RV w A (cs.getD i .any) (vs.getD i undef)) (hv : partK cs off n k) :
    ∃ x v, (part t vs off).run P w = .ok v w ∧ RV w A x v ∧ k x := by
  obtain ⟨h1, i, hi, hk⟩ := isAgg_run ht w
  cases n with
  | none =>
    simp only [partK] at hv
    refine ⟨_, vs.getD off undef, ?_, hr off, hv.2⟩
    have : vs[off]? = some (vs.getD off undef) := by
      rw [Array.getD_eq_getD_getElem?, Array.getElem?_eq_getElem (by omega)]; rfl
    generalize vs.getD off undef = v at this
    simp [part, Sem.run_bind, h1, this]
  | some m =>
    simp only [partK] at hv
    exact ⟨_, .agg (vs.extract off (off + m)), by simp [part, Sem.run_bind, h1, sizeOf, typeInfo, hi, hk m rfl], (RV.part hs hr off m hv.1).erase, hv.2⟩

theorem s_fld {t : TypeId} {x : Operand} {m : MArg} {f : Nat} {fs : Array Field} {fd : Field} {n : Option Nat} (hop : o.op = .field t x f) (hd : o.dst = some d) (hN : d < N) (hx : argOf x = some m)
    (ht : P.underlying t = some (.struct fs)) (hf : fs[f]? = some fd) (hz : partN P fd.type = some n)
    (h : RS N s a w A sp) (hv : vc1 P (.fld d m fd.offset n) s K) (hn : Next s w A sp N K next) : o.wp P a w next Q := by
  have h1 := (argOf_sound h hx).1
  simp only [vc1] at hv
  split at hv
  · rename_i cs hcs
    rw [hcs] at h1
    generalize hv0 : a.eval x = v0 at h1
    cases h1 with
    | agg _ vs hs hr =>
      obtain ⟨y, v, hrun, hy, hK⟩ := part_sound hz hs hr hv
      exact fin h hd hN (by simp [execOp, hop, hv0, Instr.field, run_underlying ht, hf, asAgg, hrun]) hy.erase .erase hK hn
  · exact hv.elim

theorem s_idxV {t e : TypeId} {x i : Operand} {m mi : MArg} {len sz : Nat} {n : Option Nat} (hop : o.op = .index t x i) (hd : o.dst = some d) (hN : d < N) (hx : argOf x = some m) (hi : argOf i = some mi)
    (ht : P.underlying t = some (.array len e)) (hz : szOf P e = some sz) (hp : partN P e = some n)
    (h : RS N s a w A sp) (hv : vc1 P (.idxV d m mi len sz n) s K) (hn : Next s w A sp N K next) : o.wp P a w next Q := by
  have h1 := (argOf_sound h hx).1
  have h2 := (argOf_sound h hi).1
  simp only [szOf, Option.map_eq_some_iff] at hz
  obtain ⟨inf, hinf, rfl⟩ := hz
  simp only [vc1] at hv
  split at hv
  · rename_i cs k j hcs hint
    obtain ⟨h0, hl, hv⟩ := hv
    rw [hcs] at h1; rw [hint] at h2
    have e2 := h2.inv_int
    generalize hv0 : a.eval x = v0 at h1
    cases h1 with
    | agg _ vs hs hr =>
      obtain ⟨y, v, hrun, hy, hK⟩ := part_sound hp hs hr hv
      exact fin h hd hN (by simp [execOp, hop, hv0, e2, Instr.index, asIntOf, run_underlying ht, h0, hl, sizeOf, typeInfo, hinf, hrun]) hy.erase .erase hK hn
  · exact hv.elim

theorem s_idxStr {t : TypeId} {x i : Operand} {m mi : MArg} (hop : o.op = .index t x i) (hd : o.dst = some d) (hN : d < N) (hx : argOf x = some m) (hi : argOf i = some mi)
    (ht : P.underlying t = some .string)
    (h : RS N s a w A sp) (hv : vc1 P (.idxStr d m mi) s K) (hn : Next s w A sp N K next) : o.wp P a w next Q := by
  have h1 := (argOf_sound h hx).1
  have h2 := (argOf_sound h hi).1
  simp only [vc1] at hv
  split at hv
  · rename_i st k j hcs hint
    obtain ⟨h0, hl, hv⟩ := hv
    rw [hcs] at h1; rw [hint] at h2
    have e1 := h1.inv_str
    have e2 := h2.inv_int
    have hb : st[j.toNat]? = some (st.data.toList.getD j.toNat 0) := by
      have hlt : j.toNat < st.size := by omega
      rw [getElem?_pos st j.toNat hlt]
      congr 1
      rw [List.getD_eq_getElem?_getD, List.getElem?_eq_getElem (by simpa using hlt)]
      rfl
    have hrun : (Instr.index t (.string st) (.int k j)).run P w = .ok (.int .u8 (st.data.toList.getD j.toNat 0).toNat) w := by
      generalize st.data.toList.getD j.toNat 0 = c at hb
      unfold Instr.index
      simp only [asIntOf, Sem.run_bind, Sem.run_pure, Result.andThen_ok, run_underlying ht, if_pos h0, hb]
    exact fin (v := .int .u8 (st.data.toList.getD j.toNat 0).toNat) h hd hN (by simp only [execOp, hop, e1, e2, Sem.run_bind, hrun, Result.andThen_ok, Sem.run_pure]) (.lit _ rfl) trivial hv hn
  · exact hv.elim

end
end Go.Avm
