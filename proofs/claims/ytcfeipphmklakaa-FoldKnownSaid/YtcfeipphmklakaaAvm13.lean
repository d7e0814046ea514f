/- Each resolved operation is sound: structs compared, calls, guards; a region in the text's order. -/
import Derived.Test.YtcfeipphmklakaaAvm12
import Derived.Laws.StructEq
namespace Go.Avm
open Go.RowKit

section
variable {P : Program} {N : Nat} {s : St} {a : Act} {w : World} {A : Area} {sp : Sp} {K : St → Prop} {next : Act → World → Prop} {Q : Exit → Act → World → Prop}
  {o : Oper} {d : Nat}

theorem eqFields_run (depth : Nat) (xs ys : Array Value) (as bs : List AV) (hx : xs.size = as.length) (hy : ys.size = bs.length)
    (hrx : ∀ i, RV w A (as.getD i .any) (xs.getD i undef)) (hry : ∀ i, RV w A (bs.getD i .any) (ys.getD i undef)) : ∀ (fs : List Field) (ks : List Bool) (k : Nat) (q : Bool),
    flatFields P ks k fs = true → as.length = k + fs.length → bs.length = k + fs.length → eqCells ks (as.drop k) (bs.drop k) = some q →
    (Op.eqFields (depth + 1) xs ys fs).run P w = .ok q w
  | [], [], k, q, _, h1, h2, he => by
    rw [List.drop_of_length_le (by simp at h1; omega), List.drop_of_length_le (by simp at h2; omega)] at he
    injection he with he; subst he; rfl
  | [], _ :: _, _, _, hf, _, _, _ => by cases hf
  | _ :: _, [], _, _, hf, _, _, _ => by cases hf
  | f :: fs, kq :: ks, k, q, hf, h1, h2, he => by
    simp only [List.length_cons] at h1 h2
    simp only [flatFields, Bool.and_eq_true, bne_iff_ne, beq_iff_eq] at hf
    obtain ⟨⟨⟨hn, hoff⟩, ht⟩, hfs⟩ := hf
    have hk1 : k < as.length := by omega
    have hk2 : k < bs.length := by omega
    rw [List.drop_eq_getElem_cons hk1, List.drop_eq_getElem_cons hk2] at he
    have r1 := hrx k
    have r2 := hry k
    rw [List.getD_eq_getElem?_getD, List.getElem?_eq_getElem hk1, Option.getD_some] at r1
    rw [List.getD_eq_getElem?_getD, List.getElem?_eq_getElem hk2, Option.getD_some] at r2
    have e1 : xs[k]? = some (xs.getD k undef) := by rw [Array.getD_eq_getD_getElem?, Array.getElem?_eq_getElem (by omega)]; rfl
    have e2 : ys[k]? = some (ys.getD k undef) := by rw [Array.getD_eq_getD_getElem?, Array.getElem?_eq_getElem (by omega)]; rfl
    have hagg : (isAgg f.type).run P w = .ok false w := by
      unfold isAgg
      cases hu : P.underlying f.type with
      | none => rw [hu] at ht; cases kq <;> cases ht
      | some dd => rw [hu] at ht; rw [Sem.run_bind, run_underlying hu]; cases kq <;> cases dd <;> first | rfl | cases ht
    have p1 : (part f.type xs f.offset).run P w = .ok (xs.getD k undef) w := by
      generalize xs.getD k undef = v at e1
      simp [part, Sem.run_bind, hagg, hoff, e1]
    have p2 : (part f.type ys f.offset).run P w = .ok (ys.getD k undef) w := by
      generalize ys.getD k undef = v at e2
      simp [part, Sem.run_bind, hagg, hoff, e2]
    have rec' := eqFields_run depth xs ys as bs hx hy hrx hry fs ks (k + 1)
    generalize as[k] = x at r1 he
    generalize bs[k] = y at r2 he
    simp only [Op.eqFields, hn, ne_eq, not_false_eq_true, if_true, Sem.run_bind, p1, p2, Result.andThen_ok]
    generalize xs.getD k undef = vx at r1
    generalize ys.getD k undef = vy at r2
    cases hu : P.underlying f.type with
    | none => rw [hu] at ht; cases kq <;> cases ht
    | some dd =>
      rw [hu] at ht
      unfold eqCells at he
      split at he
      · rename_i e _ _; cases e
      · rename_i ks' kk p xs' kk' p' ys' e2 e3 e4
        injection e2 with e2 e7; injection e3 with e3 e5; injection e4 with e4 e6
        subst e2 e3 e4 e5 e6 e7
        have v1 := r1.inv_int; have v2 := r2.inv_int
        subst v1 v2
        split at he
        · rename_i hkk
          subst hkk
          simp only [Option.map_eq_some_iff] at he
          obtain ⟨q', hq', rfl⟩ := he
          have := rec' q' hfs (by omega) (by omega) hq'
          have he' : (Op.equalIn (depth + 1) f.type (.int kk p) (.int kk p')).run P w = .ok (p == p') w := by
            cases dd <;> first | (cases ht; done) | skip
            exact run_equalIn_int w depth f.type kk _ p p' hu
          rw [he', Result.andThen_ok]
          cases hpp : (p == p') <;> simp [this]
        · cases he
      · rename_i ks' p xs' p' ys' e2 e3 e4
        injection e2 with e2 e7; injection e3 with e3 e5; injection e4 with e4 e6
        subst e2 e3 e4 e5 e6 e7
        have v1 := r1.inv_bool; have v2 := r2.inv_bool
        subst v1 v2
        simp only [Option.map_eq_some_iff] at he
        obtain ⟨q', hq', rfl⟩ := he
        have := rec' q' hfs (by omega) (by omega) hq'
        have he' : (Op.equalIn (depth + 1) f.type (.bool p) (.bool p')).run P w = .ok (p == p') w := by
          cases dd <;> first | (cases ht; done) | skip
          exact run_equalIn_bool w depth f.type p p' hu
        rw [he', Result.andThen_ok]
        cases hpp : (p == p') <;> simp [this]
      · cases he

theorem s_binA {t t' : TypeId} {op : BinOp} {neg : Bool} {n : List Bool} {x y : Operand} {mx my : MArg} (hop : o.op = .binOp op t x y t') (hneg : op = (if neg then .neq else .eql)) (hd : o.dst = some d) (hN : d < N)
    (hx : argOf x = some mx) (hy : argOf y = some my) (ht : eqStruct P t = some n)
    (h : RS N s a w A sp) (hv : vc1 P (.binA d neg n mx my) s K) (hn : Next s w A sp N K next) : o.wp P a w next Q := by
  have h1 := (argOf_sound h hx).1
  have h2 := (argOf_sound h hy).1
  unfold eqStruct at ht
  split at ht
  · rename_i fs hu
    split at ht
    · rename_i hc
      injection ht with ht
      simp only [Bool.and_eq_true, Bool.not_eq_true'] at hc
      obtain ⟨⟨hf, hst⟩, hg⟩ := hc
      simp only [vc1] at hv
      split at hv
      · rename_i as bs e1 e2
        obtain ⟨l1, l2, q, hq, hK⟩ := hv
        rw [e1] at h1; rw [e2] at h2
        generalize hv1 : a.eval x = v1 at h1
        generalize hv2 : a.eval y = v2 at h2
        cases h1 with
        | agg _ xs hs1 hr1 => cases h2 with
          | agg _ ys hs2 hr2 =>
            have hfo : P.fieldsOf t = fs := by simp [Program.fieldsOf, hu]
            have heq : (Op.equal t (.agg xs) (.agg ys)).run P w = .ok q w := by
              show (Op.equalIn (9999 + 1) t _ _).run P w = _
              rw [run_equalIn_struct w 9999 t xs ys (by rw [hfo]; exact hu) hst, hfo]
              exact eqFields_run (P := P) (w := w) 9998 xs ys as bs hs1 hs2 hr1 hr2 fs.toList (kindsOf P fs.toList) 0 q hf (by rw [l1, ← ht]; simp [kindsOf]) (by rw [l2, ← ht]; simp [kindsOf]) (by rw [ht]; simpa using hq)
            have hgu : (eqGuard op t x y (.agg xs) (.agg ys)).run P w = .ok () w := by
              unfold eqGuard
              subst hneg
              cases neg <;> simp [hg]
            refine fin (v := .bool (if neg then !q else q)) h hd hN ?_ (.lit _ rfl) trivial hK hn
            subst hneg
            cases neg <;> simp only [Bool.false_eq_true, if_false, if_true] at hgu hop <;> simp [execOp, hop, hv1, hv2, hgu, binOp, heq]
      · exact hv.elim
    · cases ht
  · cases ht

theorem RS.call (h : RS N s a w A sp) {w' : World} {A' : Area} (hf : Fr w w') (h1 : ∀ b o, A b o → A' b o) (h2 : ∀ b o, A' b o → A b o ∨ (w.heap.size ≤ b ∧ b < w'.heap.size)) :
    RS N s a w' A' sp ∧ Ev w A (live s.loc sp) w' A' (live s.loc sp) := by
  obtain ⟨f1, f2, f3, f4, f5⟩ := hf
  have hcell : ∀ b o, b < w.heap.size → w'.cell? ⟨b, o, none⟩ = w.cell? ⟨b, o, none⟩ := fun b o hb => World.cell?_of_block (f5 b hb)
  refine ⟨h.world (fun b o v ha hv => (hcell b o (h.av b o ha).1).trans hv) h1 (fun b cs hb => f5 b (h.loc_lt hb)) (fun r hr => ?_) (fun b o ha => ?_), f1, f2, f3, f4, fun b o hb hl => ⟨hcell b o hb, hl⟩, fun b hb _ => f5 b hb, h1, fun b o ha => (h2 b o ha).elim .inl fun e => .inr (.inr e.1)⟩
  · obtain ⟨⟨vs, T, hv, hs⟩, _⟩ := h.spb r hr
    exact ⟨vs, T, (f5 _ (lt_of_heap hv)).trans hv, hs⟩
  · rcases h2 b o ha with e | e
    · exact ⟨Nat.lt_of_lt_of_le (h.av b o e).1 f4, (h.av b o e).2⟩
    · exact ⟨e.2, fun hl => by have := h.live_lt hl; omega⟩

theorem call_sound {f : FuncId} {vs : Array Value} {xs : List AV} {r : AV} (hp : PCall P f xs r) (h : RS N s a w A sp) (hd : o.dst = some d) (hN : d < N)
    (hs : vs.size = xs.length) (hr : ∀ i, RV w A (xs.getD i .any) (vs.getD i undef)) (hrun : (execOp a.eval o).run P w = (callFunc f vs).run P w)
    (hK : K (s.set d r.erase)) (hn : Next s w A sp N K next) : o.wp P a w next Q := by
  unfold Oper.wp
  have hcf : (callFunc f vs).run P w = .ok (.enter f vs) w := by
    have := hp.1
    unfold isFunc at this
    split at this
    · rename_i fn hfn
      simp only [Bool.and_eq_true, bne_iff_ne, ne_eq] at this
      unfold callFunc
      simp only [Sem.run_bind, run_program, Result.andThen_ok, hfn]
      have hb : fn.body.isNone = false := by cases hfb : fn.body with
        | none => rw [hfb] at this; simp at this
        | some c => rfl
      have hnm : (fn.name == "runtime.NumGoroutine") = false := by simpa using this.1
      rw [hnm, hb]
      rfl
    · cases this
  rw [hrun, hcf, Oper.upon_enter]
  refine (hp.2 w A vs (fun b o ha => (h.av b o ha).1) hs hr).mono ?_
  rintro e w' ⟨v, A', rfl, hf, g1, g2, g3⟩
  obtain ⟨k1, k2⟩ := h.call hf g1 g2
  rw [hd]
  exact hn _ _ _ _ _ hK (k1.put hN g3.erase .erase) k2

theorem s_call {f : FuncId} {xs : Array Operand} {ts : Array TypeId} {ms : List MArg} (hop : o.op = .call { callee := .value (.func f), args := xs, argTypes := ts }) (hd : o.dst = some d) (hN : d < N) (hx : argsOfT P xs.toList ts.toList = some ms)
    (h : RS N s a w A sp) (hv : vc1 P (.call d f ms) s K) (hn : Next s w A sp N K next) : o.wp P a w next Q := by
  obtain ⟨a1, a2⟩ := argsT_sound h hx
  obtain ⟨r, hp, hK⟩ := hv
  refine call_sound (vs := xs.map a.eval) hp h hd hN (by simp [a1]) (fun i => ?_) ?_ hK hn
  · have := a2 i
    simpa [List.getD_eq_getElem?_getD, Array.getD_eq_getD_getElem?] using this
  · simp [execOp, hop, resolve, Act.eval, Deferred.ofValue, invoke]

theorem getD_append3 {α : Type} (x y z : List α) (i : Nat) (d : α) : (x ++ y ++ z).getD i d = if i < x.length then x.getD i d else if i - x.length < y.length then y.getD (i - x.length) d else z.getD (i - x.length - y.length) d := by
  simp only [List.getD_eq_getElem?_getD]
  split
  · rw [List.append_assoc, List.getElem?_append_left ‹_›]
  · split
    · rw [List.append_assoc, List.getElem?_append_right (by omega), List.getElem?_append_left ‹_›]
    · rw [List.getElem?_append_right (by simp; omega)]
      simp only [List.length_append]
      rw [Nat.sub_sub]

theorem s_callv {t : Tmp} {xs : Array Operand} {ts : Array TypeId} {ms : List MArg} (hop : o.op = .call { callee := .value (.tmp t), args := xs, argTypes := ts }) (hd : o.dst = some d) (hN : d < N) (hx : argsOfT P xs.toList ts.toList = some ms)
    (h : RS N s a w A sp) (hv : vc1 P (.callv d (.t t) ms) s K) (hn : Next s w A sp N K next) : o.wp P a w next Q := by
  obtain ⟨a1, a2⟩ := argsT_sound h hx
  have h1 := (h.env t).1
  simp only [vc1] at hv
  split at hv
  · rename_i f fs cs e1
    obtain ⟨r, hp, hK⟩ := hv
    replace e1 : s.env t = .func (.func f) fs cs := e1
    rw [e1] at h1
    generalize hv0 : a.tmps.getD t undef = v0 at h1
    cases h1 with
    | func _ _ _ vf vc hsf hsc hf hc =>
      refine call_sound (vs := vf ++ xs.map a.eval ++ vc) hp h hd hN (by simp [a1, hsf, hsc]) (fun i => ?_) ?_ hK hn
      · have e2 := getD_append3 vf.toList (xs.map a.eval).toList vc.toList i undef
        have e3 := getD_append3 fs (ms.map fun x => (x.ev s.env).erase) cs i .any
        have e4 : (vf ++ xs.map a.eval ++ vc).getD i undef = (vf.toList ++ (xs.map a.eval).toList ++ vc.toList).getD i undef := by
          simp [List.getD_eq_getElem?_getD, Array.getD_eq_getD_getElem?, Array.getElem?_append, List.getElem?_append]
        rw [e4, e2, e3]
        simp only [Array.length_toList, hsf, Array.size_map, List.length_map, a1]
        split
        · have := hf i
          simpa [List.getD_eq_getElem?_getD, Array.getD_eq_getD_getElem?] using this
        · split
          · have := a2 (i - fs.length)
            simpa [List.getD_eq_getElem?_getD, Array.getD_eq_getD_getElem?] using this
          · have := hc (i - fs.length - xs.size)
            simpa [List.getD_eq_getElem?_getD, Array.getD_eq_getD_getElem?] using this
      · simp [execOp, hop, resolve, Act.eval, hv0, Deferred.ofValue, invoke]
  · exact hv.elim

end
end Go.Avm
