/- Maps whose keys are integers, or structs of integers. -/
import Derived.Test.YtcfeipphmklakaaAvm18b
namespace Go.Avm
open Go.RowKit

section
variable {P : Program} {w : World} {A : Area}

theorem eqStruct_run {t : TypeId} {n : List Bool} {as bs : List AV} {xs ys : Array Value} {q : Bool} (ht : eqStruct P t = some n) (l1 : as.length = n.length) (l2 : bs.length = n.length) (hs1 : xs.size = as.length) (hs2 : ys.size = bs.length)
    (hr1 : ∀ i, RV w A (as.getD i .any) (xs.getD i undef)) (hr2 : ∀ i, RV w A (bs.getD i .any) (ys.getD i undef)) (hq : eqCells n as bs = some q) : (Op.equal t (.agg xs) (.agg ys)).run P w = .ok q w := by
  unfold eqStruct at ht
  split at ht
  · rename_i fs hu
    split at ht
    · rename_i hc
      injection ht with ht
      simp only [Bool.and_eq_true, Bool.not_eq_true'] at hc
      obtain ⟨⟨hf, hst⟩, hg⟩ := hc
      have hfo : P.fieldsOf t = fs := by simp [Program.fieldsOf, hu]
      show (Op.equalIn (9999 + 1) t _ _).run P w = _
      rw [run_equalIn_struct w 9999 t xs ys (by rw [hfo]; exact hu) hst, hfo]
      exact eqFields_run (P := P) (w := w) 9998 xs ys as bs hs1 hs2 hr1 hr2 fs.toList (kindsOf P fs.toList) 0 q hf (by rw [l1, ← ht]; simp [kindsOf]) (by rw [l2, ← ht]; simp [kindsOf]) (by rw [ht]; simpa using hq)
    · cases ht
  · cases ht

theorem eqCells_len : ∀ {ks : List Bool} {as bs : List AV} {q : Bool}, eqCells ks as bs = some q → as.length = bs.length ∧ as.length = ks.length := by
  intro ks as bs q h
  induction ks generalizing as bs q with
  | nil =>
    unfold eqCells at h
    split at h
    · exact ⟨rfl, rfl⟩
    · rename_i e; cases e
    · rename_i e; cases e
    · cases h
  | cons k ks ih =>
    unfold eqCells at h
    split at h
    · rename_i e; cases e
    · rename_i ks' _ _ _ _ _ _ e
      injection e with _ e; subst e
      split at h
      · simp only [Option.map_eq_some_iff] at h
        obtain ⟨q', hq', _⟩ := h
        have := ih hq'
        simp [this.1, ← this.2]
      · cases h
    · rename_i ks' _ _ _ _ e
      injection e with _ e; subst e
      simp only [Option.map_eq_some_iff] at h
      obtain ⟨q', hq', _⟩ := h
      have := ih hq'
      simp [this.1, ← this.2]
    · cases h

/-- The type of keys that is covered: integers; structs of n integers. -/
def keyTy (P : Program) (k : TypeId) (key : AV) : Bool :=
  match P.underlying k, key with
  | some (.int _), .lit (.int _ _) => true
  | some (.struct _), .agg xs => match eqStruct P k with
    | some n => decide (n = List.replicate xs.length false)
    | none => false
  | _, _ => false

theorem keyEq_run {k : TypeId} {x y : AV} {vx vy : Value} {q : Bool} (hk : keyTy P k x = true) (hx : RV w A x vx) (hy : RV w A y vy) (he : keyEq x y = some q) :
    ((∃ fs, P.underlying k = some (.struct fs)) ∨ ∃ kd, P.underlying k = some (.int kd) ∧ Instr.sameNow (.int kd) vx vy = some q) ∧ (Op.equal k vx vy).run P w = .ok q w := by
  unfold keyTy at hk
  split at hk
  · rename_i kd kk n hu
    cases y with
    | lit v =>
      cases v with
      | int k' b =>
        simp only [keyEq] at he
        split at he
        · rename_i e; subst e
          injection he with he; subst he
          have e1 := hx.inv_int; have e2 := hy.inv_int
          subst e1 e2
          refine ⟨.inr ⟨kd, hu, by simp [Instr.sameNow]⟩, ?_⟩
          show (Op.equalIn (9999 + 1) k _ _).run P w = _
          exact run_equalIn_int w 9999 k kk kd n b hu
        · cases he
      | _ => simp [keyEq] at he
    | _ => simp [keyEq] at he
  · rename_i fs xs hu
    split at hk
    · rename_i n hn
      have hl : n = List.replicate xs.length false := of_decide_eq_true hk
      cases y with
      | agg ys =>
        simp only [keyEq] at he
        cases hx with
        | agg _ vxs hs1 hr1 => cases hy with
          | agg _ vys hs2 hr2 =>
            exact ⟨.inl ⟨fs, hu⟩, eqStruct_run hn (by rw [hl]; simp) (by rw [hl, ← (eqCells_len he).1]; simp) hs1 hs2 hr1 hr2 (by rw [hl]; exact he)⟩
      | _ => simp [keyEq] at he
    · cases hk
  · cases hk


theorem findAsking_run {k : TypeId} {x : AV} {vx : Value} (hk : keyTy P k x = true) (hx : RV w A x vx) : ∀ (es : List (List AV)) (es' : List MapEntry) (i : Nat) (r : Option Nat), es'.length = es.length →
    (∀ j e, es'[j]? = some e → RV w A ((es.getD j []).getD 0 .any) e.key) → keyAt x es i = some r →
    (Instr.findAsking k vx es' i).run P w = .ok (r.bind fun j => (es'[j - i]?).map fun e => (j, e.val)) w ∧ ∀ j, r = some j → i ≤ j ∧ j < i + es.length
  | [], [], i, r, _, _, h => by injection h with h; subst h; exact ⟨rfl, fun j e => by cases e⟩
  | e :: es, e' :: es', i, r, hl, hr, h => by
    have h0 := hr 0 e' rfl
    simp only [keyAt] at h
    simp only [Instr.findAsking]
    split at h
    · rename_i hq
      injection h with h; subst h
      have := (keyEq_run hk hx (by simpa using h0) hq).2
      refine ⟨by simp [Sem.run_bind, this], fun j e => by injection e with e; subst e; simp⟩
    · rename_i hq
      have h1 := (keyEq_run hk hx (by simpa using h0) hq).2
      obtain ⟨g1, g2⟩ := findAsking_run hk hx es es' (i + 1) r (by simpa using hl) (fun j e he => by have := hr (j + 1) e (by simpa using he); simpa using this) h
      refine ⟨?_, fun j e => by have := g2 j e; simp; omega⟩
      simp only [Sem.run_bind, h1, Result.andThen_ok, Bool.false_eq_true, if_false, g1]
      cases r with
      | none => rfl
      | some j =>
        have := g2 j rfl
        have e : j - i = (j - (i + 1)) + 1 := by omega
        simp only [Option.bind_some, e, List.getElem?_cons_succ]
    · cases h
  | [], _ :: _, _, _, h, _, _ => by simp at h
  | _ :: _, [], _, _, h, _, _ => by simp at h

theorem findNow_run {k : TypeId} {kd : IntKind} (hu : P.underlying k = some (.int kd)) {x : AV} {vx : Value} (hk : keyTy P k x = true) (hx : RV w A x vx) : ∀ (es : List (List AV)) (es' : List MapEntry) (i : Nat) (r : Option Nat), es'.length = es.length →
    (∀ j e, es'[j]? = some e → RV w A ((es.getD j []).getD 0 .any) e.key) → keyAt x es i = some r →
    Instr.findNow (.int kd) vx es' i = some (r.bind fun j => (es'[j - i]?).map fun e => (j, e.val)) ∧ ∀ j, r = some j → i ≤ j ∧ j < i + es.length
  | [], [], i, r, _, _, h => by injection h with h; subst h; exact ⟨rfl, fun j e => by cases e⟩
  | e :: es, e' :: es', i, r, hl, hr, h => by
    have h0 := hr 0 e' rfl
    have hs : ∀ q, keyEq x (e.getD 0 .any) = some q → Instr.sameNow (.int kd) vx e'.key = some q := by
      intro q hq
      rcases (keyEq_run hk hx (by simpa using h0) hq).1 with ⟨fs, h1⟩ | ⟨kd', h1, h2⟩
      · rw [hu] at h1; cases h1
      · rw [hu] at h1; injection h1 with h1; injection h1 with h1; subst h1; exact h2
    simp only [keyAt] at h
    simp only [Instr.findNow]
    split at h
    · rename_i hq
      injection h with h; subst h
      rw [hs _ hq]
      refine ⟨by simp, fun j e => by injection e with e; subst e; simp⟩
    · rename_i hq
      rw [hs _ hq]
      obtain ⟨g1, g2⟩ := findNow_run hu hk hx es es' (i + 1) r (by simpa using hl) (fun j e he => by have := hr (j + 1) e (by simpa using he); simpa using this) h
      refine ⟨?_, fun j e => by have := g2 j e; simp; omega⟩
      simp only [g1]
      cases r with
      | none => rfl
      | some j =>
        have := g2 j rfl
        have e : j - i = (j - (i + 1)) + 1 := by omega
        simp only [Option.bind_some, e, List.getElem?_cons_succ]
    · cases h
  | [], _ :: _, _, _, h, _, _ => by simp at h
  | _ :: _, [], _, _, h, _, _ => by simp at h

theorem findKey_run {k : TypeId} {x : AV} {vx : Value} (hk : keyTy P k x = true) (hx : RV w A x vx) {es : List (List AV)} {es' : List MapEntry} {r : Option Nat} (hl : es'.length = es.length)
    (hr : ∀ j e, es'[j]? = some e → RV w A ((es.getD j []).getD 0 .any) e.key) (h : keyAt x es 0 = some r) :
    (Instr.findKey k vx es').run P w = .ok (r.bind fun j => (es'[j]?).map fun e => (j, e.val)) w ∧ ∀ j, r = some j → j < es.length := by
  unfold Instr.findKey
  cases hu : P.underlying k with
  | none => unfold keyTy at hk; rw [hu] at hk; cases hk
  | some dd =>
    rw [Sem.run_bind, run_underlying hu, Result.andThen_ok]
    have hask := findAsking_run hk hx es es' 0 r hl hr h
    simp only [Nat.sub_zero, Nat.zero_add] at hask
    cases dd with
    | int kd =>
      obtain ⟨g1, g2⟩ := findNow_run hu hk hx es es' 0 r hl hr h
      simp only [g1, Nat.sub_zero, Nat.zero_add] at g1 g2 ⊢
      exact ⟨rfl, fun j e => (g2 j e).2⟩
    | struct fs =>
      refine ⟨?_, fun j e => (hask.2 j e).2⟩
      cases es' with
      | nil =>
        have : es = [] := List.eq_nil_of_length_eq_zero (by simpa using hl.symm)
        subst this
        injection h with h; subst h
        rfl
      | cons e' es' => simp only [Instr.findNow, Instr.sameNow]; exact hask.1
    | _ => unfold keyTy at hk; rw [hu] at hk; cases hk

theorem checkFields_run (em : Bool) (n : Nat) (vxs : Array Value) (xs : List AV) (hs : vxs.size = xs.length) : ∀ (fs : List Field) (ks : List Bool) (k : Nat), flatFields P ks k fs = true → k + fs.length ≤ xs.length →
    (forIn fs PUnit.unit (fun f (_ : PUnit) => do
      if f.name ≠ "_" then Instr.checkKey em (n + 1) f.type (← part f.type vxs f.offset)
      pure (ForInStep.yield PUnit.unit)) : Sem PUnit).run P w = .ok PUnit.unit w
  | [], _, _, _, _ => rfl
  | _ :: _, [], _, hf, _ => by cases hf
  | f :: fs, kq :: ks, k, hf, hl => by
    simp only [List.length_cons] at hl
    simp only [flatFields, Bool.and_eq_true, bne_iff_ne, beq_iff_eq] at hf
    obtain ⟨⟨⟨hn, hoff⟩, ht⟩, hfs⟩ := hf
    have ih := checkFields_run em n vxs xs hs fs ks (k + 1) hfs (by omega)
    have e1 : vxs[k]? = some (vxs.getD k undef) := by rw [Array.getD_eq_getD_getElem?, Array.getElem?_eq_getElem (by omega)]; rfl
    have hagg : (isAgg f.type).run P w = .ok false w := by
      unfold isAgg
      cases hu : P.underlying f.type with
      | none => rw [hu] at ht; cases kq <;> cases ht
      | some dd => rw [hu] at ht; rw [Sem.run_bind, run_underlying hu]; cases kq <;> cases dd <;> first | rfl | cases ht
    have p1 : (part f.type vxs f.offset).run P w = .ok (vxs.getD k undef) w := by
      generalize vxs.getD k undef = v at e1
      simp [part, Sem.run_bind, hagg, hoff, e1]
    have c1 : ∀ v, (Instr.checkKey em (n + 1) f.type v).run P w = .ok () w := by
      intro v
      cases hu : P.underlying f.type with
      | none => rw [hu] at ht; cases kq <;> cases ht
      | some dd =>
        rw [hu] at ht
        simp only [Instr.checkKey, Sem.run_bind, run_underlying hu, Result.andThen_ok]
        cases kq <;> cases dd <;> first | rfl | cases ht
    simp only [List.forIn_cons, hn, ne_eq, not_false_eq_true, if_true, Sem.run_bind, p1, c1, Result.andThen_ok, Sem.run_pure]
    exact ih

theorem checkKey_int (em : Bool) (n : Nat) {k : TypeId} {kd kk : IntKind} {m : Int} (hu : P.underlying k = some (.int kd)) : (Instr.checkKey em (n + 1) k (.int kk m)).run P w = .ok () w := by
  simp only [Instr.checkKey, Sem.run_bind, run_underlying hu, Result.andThen_ok]
  rfl

theorem checkKey_struct (em : Bool) (n : Nat) {k : TypeId} {fs : Array Field} (hu : P.underlying k = some (.struct fs)) {xs : List AV} {vxs : Array Value} (hs : vxs.size = xs.length) {ks : List Bool} (hf : flatFields P ks 0 fs.toList = true) (hl : fs.size ≤ xs.length) :
    (Instr.checkKey em (n + 2) k (.agg vxs)).run P w = .ok () w := by
  have := checkFields_run (w := w) em n vxs xs hs fs.toList ks 0 hf (by simp; omega)
  rw [show n + 2 = (n + 1) + 1 from rfl]
  unfold Instr.checkKey
  simp only [Sem.run_bind, run_underlying hu, Result.andThen_ok]
  rw [← Array.forIn_toList, this]
  rfl

theorem checkKey_run (em : Bool) {k : TypeId} {x : AV} {vx : Value} (hk : keyTy P k x = true) (hx : RV w A x vx) : (Instr.checkKey em 10000 k vx).run P w = .ok () w := by
  unfold keyTy at hk
  split at hk
  · rename_i kd kk n hu
    have e1 := hx.inv_int
    subst e1
    exact checkKey_int em 9999 hu
  · rename_i fs xs hu
    split at hk
    · rename_i n hn
      have hl : n = List.replicate xs.length false := of_decide_eq_true hk
      cases hx with
      | agg _ vxs hs1 hr1 =>
        unfold eqStruct at hn
        rw [hu] at hn
        simp only at hn
        split at hn
        · rename_i hc
          injection hn with hn
          simp only [Bool.and_eq_true] at hc
          exact checkKey_struct em 9998 hu hs1 hc.1.1 (by have := congrArg List.length (hn.trans hl); simp [kindsOf] at this; omega)
        · cases hn
    · cases hk
  · cases hk


theorem eqCells_same : ∀ {n : Nat} {as bs : List AV}, eqCells (List.replicate n false) as bs = some true → as = bs ∧ ∀ x ∈ as, ∃ k n, x = .lit (.int k n) := by
  intro n
  induction n with
  | zero =>
    intro as bs h
    obtain ⟨h1, h2⟩ := eqCells_len h
    have e1 : as = [] := List.eq_nil_of_length_eq_zero (by simpa using h2)
    subst e1
    have e2 : bs = [] := List.eq_nil_of_length_eq_zero (by simpa using h1.symm)
    subst e2
    exact ⟨rfl, by simp⟩
  | succ n ih =>
    intro as bs h
    rw [List.replicate_succ] at h
    unfold eqCells at h
    split at h
    · rename_i e; cases e
    · rename_i ks' k p xs' k' p' ys' e
      injection e with _ e; subst e
      split at h
      · rename_i hk; subst hk
        simp only [Option.map_eq_some_iff, Bool.and_eq_true, beq_iff_eq] at h
        obtain ⟨q', hq', rfl, rfl⟩ := h
        obtain ⟨rfl, g⟩ := ih hq'
        refine ⟨rfl, fun z hz => ?_⟩
        rcases List.mem_cons.1 hz with rfl | hz
        · exact ⟨_, _, rfl⟩
        · exact g z hz
      · cases h
    · rename_i e; cases e
    · cases h

theorem sameBits_list (n : Nat) : ∀ (xs : List AV) (us vs : List Value), us.length = xs.length → vs.length = xs.length → (∀ x ∈ xs, ∃ k m, x = AV.lit (.int k m)) → (∀ i, RV w A (xs.getD i .any) (us.getD i undef)) → (∀ i, RV w A (xs.getD i .any) (vs.getD i undef)) →
    ((us.zip vs).all fun (x, y) => Instr.sameBits n x y) = true
  | [], us, vs, h1, h2, _, _, _ => by
    have : us = [] := List.eq_nil_of_length_eq_zero h1
    subst this; rfl
  | x :: xs, u :: us, v :: vs, h1, h2, hx, hu, hv => by
    obtain ⟨k, m, rfl⟩ := hx x (List.mem_cons_self ..)
    have e1 := (hu 0); have e2 := (hv 0)
    simp only [List.getD_eq_getElem?_getD, List.getElem?_cons_zero, Option.getD_some] at e1 e2
    have e1 := e1.inv_int; have e2 := e2.inv_int
    subst e1 e2
    have ih := sameBits_list n xs us vs (by simpa using h1) (by simpa using h2) (fun y hy => hx y (List.mem_cons_of_mem _ hy)) (fun i => by simpa using hu (i + 1)) (fun i => by simpa using hv (i + 1))
    simp only [List.zip_cons_cons, List.all_cons, ih, Bool.and_true]
    cases n <;> simp [Instr.sameBits]
  | _ :: _, [], _, h, _, _, _, _ => by simp at h
  | _ :: _, _ :: _, [], _, h, _, _, _ => by simp at h

theorem stays_run {x y : AV} {vx vy : Value} (hx : RV w A x vx) (hy : RV w A y vy) (he : keyEq x y = some true) : (Instr.keyThatStays vy vx).run P w = .ok vx w := by
  have hs : Instr.sameBits (9999 + 1) vy vx = true := by
    unfold keyEq at he
    split at he
    · split at he
      · rename_i hk; subst hk
        injection he with he
        have e1 := hx.inv_int; have e2 := hy.inv_int
        subst e1 e2
        simp only [Instr.sameBits, beq_self_eq_true, Bool.true_and]
        simp only [beq_iff_eq] at he ⊢
        exact he.symm
      · cases he
    · rename_i xs ys
      obtain ⟨rfl, hall⟩ := eqCells_same he
      cases hx with
      | agg _ vxs hs1 hr1 => cases hy with
        | agg _ vys hs2 hr2 =>
          have := sameBits_list (w := w) (A := A) 9999 xs vys.toList vxs.toList (by simpa using hs2) (by simpa using hs1) hall (fun i => by have := hr2 i; simpa [List.getD_eq_getElem?_getD, Array.getD_eq_getD_getElem?] using this) (fun i => by have := hr1 i; simpa [List.getD_eq_getElem?_getD, Array.getD_eq_getD_getElem?] using this)
          simp only [Instr.sameBits, hs1, hs2, beq_self_eq_true, Bool.true_and]
          exact this
    · cases he
  unfold Instr.keyThatStays
  rw [if_pos hs]
  rfl

theorem keyAt_eq : ∀ {es : List (List AV)} {x : AV} {i j : Nat}, keyAt x es i = some (some j) → i ≤ j ∧ keyEq x ((es.getD (j - i) []).getD 0 .any) = some true
  | [], x, i, j, h => by simp [keyAt] at h
  | e :: es, x, i, j, h => by
    simp only [keyAt] at h
    split at h
    · rename_i hq
      injection h with h; injection h with h; subst h
      exact ⟨Nat.le_refl _, by simpa using hq⟩
    · obtain ⟨g1, g2⟩ := keyAt_eq h
      refine ⟨by omega, ?_⟩
      rw [show j - i = (j - (i + 1)) + 1 by omega]
      simpa using g2
    · cases h

def keyN (P : Program) (kt : TypeId) : Option (Option Nat) :=
  match P.underlying kt with
  | some (.int _) => some none
  | some (.struct _) => (eqStruct P kt).bind fun ks => if ks = List.replicate ks.length false then some (some ks.length) else none
  | _ => none

theorem keyTy_of {kt : TypeId} {n : Option Nat} {x : AV} (h : keyN P kt = some n) (hx : keyOK n x) : keyTy P kt x = true := by
  unfold keyN at h
  unfold keyTy
  split at h
  · rename_i kd hu
    injection h with h; subst h
    unfold keyOK at hx
    split at hx
    · rw [hu]
    · rename_i e; cases e
    · exact hx.elim
  · rename_i fs hu
    simp only [Option.bind_eq_some_iff] at h
    obtain ⟨m, hm, h⟩ := h
    split at h
    case isFalse => cases h
    rename_i hmr
    injection h with h; subst h
    unfold keyOK at hx
    split at hx
    · rename_i e; cases e
    · rename_i n xs e
      injection e with e; subst e
      rw [hu]; simp only [hm]; exact decide_eq_true (by rw [hx]; exact hmr)
    · exact hx.elim
  · cases h

end

section
variable {P : Program} {C : Ctx P} {Pt : List (Nat × Obj)} {s : St} {a : Act} {w : World} {A Lx : Area} {sp : Sp} {o : Oper} {d : Nat} {K : St → Prop} {rest : Act → World → Prop} {Q : Exit → Act → World → Prop}

theorem GS.map_at (h : GS C Pt s a w A Lx sp) {b : Nat} {es : List (List AV)} (he : s.env (oS + b) = mapAV es) :
    ∃ es' clock, w.heap[b]? = some (.map es' clock) ∧ es'.size = es.length ∧ (∀ i e, es'[i]? = some e → RV w A ((es.getD i []).getD 0 .any) e.key ∧ RV w A ((es.getD i []).getD 1 .any) e.val) := by
  have hob := h.ob b
  rw [he] at hob
  generalize hz : mapAV es = z at hob
  cases hob with
  | any => cases hz
  | iter t pos hh => injection hz with _ _ z3; cases z3
  | map es2 es' clock hh hs hr => injection hz with _ z2; subst z2; exact ⟨es', clock, hh, hs, hr⟩

theorem s_lookup {T kt et : TypeId} {x k : Operand} {mx mk : MArg} {n : Option Nat} {ok : Bool} {z : Value} {za : AV} (hop : o.op = .lookup T x k ok) (hd : o.dst = some d) (hN : d < C.N) (hCN : C.N ≤ gS) (ht : P.underlying T = some (.map kt et))
    (hkn : keyN P kt = some n) (hz : zeroOf P et = some z) (hza : ofVal z = some za) (hx : argOf x = some mx) (hk : argOf k = some mk)
    (h : GS C Pt s a w A Lx sp) (hv : vc1 P (.lookup d mx mk n ok za) s K) (hn : Goes C Pt s w A Lx sp a.defers K rest) : o.wpIn (Fw C.ro) 0 P a w rest Q := by
  have h1 : RV w A (mx.ev s.env) (a.eval x) := (argOf_sound h.rs hx).1
  have h2 : RV w A (mk.ev s.env).erase (a.eval k) := (argOf_sound h.rs hk).1.erase
  have hdg : d < gS := Nat.lt_of_lt_of_le hN hCN
  simp only [vc1] at hv
  split at hv
  · rename_i b e1
    rw [e1] at h1
    obtain ⟨es, he, hok, hv⟩ := hv
    obtain ⟨es', clock, hheap, hs, hr⟩ := h.map_at he
    have hkt := keyTy_of hkn hok
    generalize hv0 : a.eval x = v0 at h1
    cases h1
    have hck := checkKey_run (P := P) (w := w) es'.isEmpty hkt h2
    have hzr : (zeroValue et).run P w = .ok z w := by
      simp only [zeroOf, Option.bind_eq_some_iff] at hz
      obtain ⟨i, hi, hz⟩ := hz
      simp [zeroValue, typeInfo, Sem.run_bind, hi, hz]
    have hget : (getObj b).run P w = .ok (.map es' clock) w := by simp [getObj, Sem.run, hheap]
    have goal : ∀ (r : Option Nat) (x : AV) (v : Value) (q : Bool), keyAt (mk.ev s.env).erase es 0 = some r → (match r.bind fun j => (es'.toList[j]?).map fun e => (j, e.val) with | some (_, u) => (u, true) | none => (z, false)) = (v, q) → RV w A x v →
        K (s.set d (if ok then .tuple [x, .lit (.bool q)] else x.erase)) → o.wpIn (Fw C.ro) 0 P a w rest Q := by
      intro r x v q hka hrv hx hK
      have hfind := (findKey_run (P := P) (w := w) (A := A) hkt h2 (es := es) (es' := es'.toList) (r := r) (by simpa using hs) (fun j e he => (hr j e (by simpa using he)).1) hka).1
      have hrun : (execOp a.eval o).run P w = .ok (.value (if ok then .tuple #[v, .bool q] else v)) w := by
        simp only [execOp, hop, hv0, Instr.lookup, Sem.run_bind, run_underlying ht, Result.andThen_ok, hget, Sem.run_pure, hck, hfind]
        cases hrr : (r.bind fun j => (es'.toList[j]?).map fun e => (j, e.val)) with
        | none =>
          rw [hrr] at hrv
          injection hrv with q1 q2; subst q1 q2
          simp only [Sem.run_bind, hzr, Result.andThen_ok, Sem.run_pure]
          skip
        | some p =>
          rw [hrr] at hrv
          injection hrv with q1 q2; subst q1 q2
          cases ok <;> rfl
      refine wpIn_value (by rw [hop]; intro c e; cases e) hrun ?_
      rw [hd]
      refine hn _ _ _ _ _ _ hK (h.put hN hdg ?_ ?_) (by rw [held_set hdg]; exact .refl _ _ _) rfl
      · cases ok with
        | false => exact hx.erase
        | true =>
          refine .tuple _ _ rfl fun i => ?_
          match i with
          | 0 => exact hx
          | 1 => exact .lit _ rfl
          | i + 2 => simp; exact .any _
      · cases ok with
        | false => exact .erase
        | true => trivial
    split at hv
    · rename_i j hka
      obtain ⟨-, hlt⟩ := findKey_run (P := P) (w := w) (A := A) hkt h2 (es := es) (es' := es'.toList) (r := some j) (by simpa using hs) (fun j e he => (hr j e (by simpa using he)).1) hka
      have hj := hlt j rfl
      have hj' : j < es'.size := by omega
      refine goal (some j) _ (es'[j]).val true hka (by simp [hj']) (hr j _ (Array.getElem?_eq_getElem hj')).2 (by cases ok <;> exact hv)
    · rename_i hka
      refine goal none za z false hka rfl (ofVal_sound (sp := sp) hza).1 (by cases ok <;> exact hv)
    · exact hv.elim
  · exact hv.elim

theorem s_mapUpd {T kt et : TypeId} {x k y : Operand} {mx mk my : MArg} {n : Option Nat} (hop : o.op = .mapUpdate T x k y) (hd : o.dst = none) (ht : P.underlying T = some (.map kt et))
    (hkn : keyN P kt = some n) (hx : argOf x = some mx) (hk : argOf k = some mk) (hy : argOf y = some my)
    (h : GS C Pt s a w A Lx sp) (hv : vc1 P (.mapUpd mx mk my n) s K) (hn : Goes C Pt s w A Lx sp a.defers K rest) : o.wpIn (Fw C.ro) 0 P a w rest Q := by
  have h1 : RV w A (mx.ev s.env) (a.eval x) := (argOf_sound h.rs hx).1
  have h2 : RV w A (mk.ev s.env).erase (a.eval k) := (argOf_sound h.rs hk).1.erase
  have h3 : RV w A (my.ev s.env).erase (a.eval y) := (argOf_sound h.rs hy).1.erase
  simp only [vc1] at hv
  split at hv
  · rename_i b e1
    rw [e1] at h1
    obtain ⟨es, he, hok, hv⟩ := hv
    obtain ⟨es', clock, hheap, hs, hr⟩ := h.map_at he
    have hne : s.env (oS + b) ≠ .any := by rw [he]; intro e; cases e
    have hkt := keyTy_of hkn hok
    generalize hv0 : a.eval x = v0 at h1
    cases h1
    have hck := checkKey_run (P := P) (w := w) false hkt h2
    have hget : (getObj b).run P w = .ok (.map es' clock) w := by simp [getObj, Sem.run, hheap]
    have hset : ∀ ob, (setObj b ob).run P w = .ok () (w.putObj b ob) := fun ob => by simp [setObj, Sem.run, hheap, World.putObj]
    have hmono : ∀ ob {x : AV} {v : Value}, RV w A x v → RV (w.putObj b ob) A x v := fun ob x v hx => hx.mono fun c o v ha hv => ⟨by rw [cell_putObj w ob (fun e => by subst e; exact h.oa _ o hne ha)]; exact hv, ha⟩
    have goal : ∀ (es2 : List (List AV)) (ob : Obj), (execOp a.eval o).run P w = .ok .skip (w.putObj b ob) → ObjOK (w.putObj b ob) A b (mapAV es2) → K (s.set (oS + b) (mapAV es2)) → o.wpIn (Fw C.ro) 0 P a w rest Q := by
      intro es2 ob hrun hob hK
      refine wpIn_skip0 (by rw [hop]; intro c e; cases e) hrun ?_
      obtain ⟨g1, g2⟩ := h.obj (b := b) (x := mapAV es2) (w' := w.putObj b ob) rfl (.inl hne) (by simp) ⟨rfl, rfl, rfl⟩ (fun c hc hcb => World.putObj_heap_other hcb) hob
      rw [hd, put_none]
      exact hn _ _ _ _ _ _ hK g1 g2 rfl
    split at hv
    · rename_i j hka
      obtain ⟨hfind, hlt⟩ := findKey_run (P := P) (w := w) (A := A) hkt h2 (es := es) (es' := es'.toList) (r := some j) (by simpa using hs) (fun j e he => (hr j e (by simpa using he)).1) hka
      have hj := hlt j rfl
      have hj' : j < es'.size := by omega
      have hst := stays_run (P := P) h2 (hr j _ (Array.getElem?_eq_getElem hj')).1 (by have := (keyAt_eq hka).2; simpa using this)
      refine goal _ (.map (es'.modify j fun e => { e with key := a.eval k, val := a.eval y }) clock) ?_ ?_ hv
      · simp only [execOp, hop, hv0, Instr.mapUpdate, Sem.run_bind, run_underlying ht, Result.andThen_ok, hget, hck, hfind, Option.bind_some, Array.getElem?_toList, Array.getElem?_eq_getElem hj', Option.map_some, Option.getD_some, hst, hset, Sem.run_pure]
      · refine .map _ _ clock (World.putObj_heap_same (lt_of_heap hheap)) (by simpa using hs) fun i e hi => ?_
        rw [Array.getElem?_modify] at hi
        split at hi
        · rename_i e0; subst e0
          rw [Array.getElem?_eq_getElem hj'] at hi
          injection hi with hi; subst hi
          simp only [List.getD_eq_getElem?_getD, List.getElem?_set_self hj, Option.getD_some]
          exact ⟨hmono _ h2, hmono _ h3⟩
        · rename_i e0
          simp only [List.getD_eq_getElem?_getD, List.getElem?_set_ne e0]
          have := hr i e hi
          simp only [List.getD_eq_getElem?_getD] at this
          exact ⟨hmono _ this.1, hmono _ this.2⟩
    · rename_i hka
      obtain ⟨hfind, -⟩ := findKey_run (P := P) (w := w) (A := A) hkt h2 (es := es) (es' := es'.toList) (r := none) (by simpa using hs) (fun j e he => (hr j e (by simpa using he)).1) hka
      refine goal _ (.map (es'.push { key := a.eval k, val := a.eval y, born := clock }) (clock + 1)) ?_ ?_ hv
      · simp only [execOp, hop, hv0, Instr.mapUpdate, Sem.run_bind, run_underlying ht, Result.andThen_ok, hget, hck, hfind, Option.bind_none, hset, Sem.run_pure]
      · refine .map _ _ (clock + 1) (World.putObj_heap_same (lt_of_heap hheap)) (by simp [hs]) fun i e hi => ?_
        rw [Array.getElem?_push] at hi
        split at hi
        · rename_i e0
          injection hi with hi; subst hi
          have : i = es.length := by omega
          subst this
          simp only [List.getD_eq_getElem?_getD, List.getElem?_append_right (Nat.le_refl _), Nat.sub_self, List.getElem?_cons_zero, Option.getD_some]
          exact ⟨hmono _ h2, hmono _ h3⟩
        · have hlt := (Array.getElem?_eq_some_iff.1 hi).1
          have := hr i e hi
          simp only [List.getD_eq_getElem?_getD] at this ⊢
          rw [List.getElem?_append_left (by omega)]
          exact ⟨hmono _ this.1, hmono _ this.2⟩
    · exact hv.elim
  · exact hv.elim

end
end Go.Avm
