/- Each resolved operation is sound: literals, calls. -/
import Derived.Test.YtcfeipphmklakaaAvm10
namespace Go.Avm
open Go.RowKit

section
variable {P : Program} {N : Nat} {s : St} {a : Act} {w : World} {A : Area} {sp : Sp} {K : St → Prop} {next : Act → World → Prop} {Q : Exit → Act → World → Prop}
  {o : Oper} {d : Nat}

theorem foldl_set (us : List Value) : ∀ (k off : Nat) (cs : Array Value), 
    (us.zipIdx k).foldl (fun (cs : Array Value) (p : Value × Nat) => cs.setIfInBounds (off + p.2) p.1) cs =
      (us.zipIdx 0).foldl (fun (cs : Array Value) (p : Value × Nat) => cs.setIfInBounds (off + k + p.2) p.1) cs := by
  induction us with
  | nil => intro k off cs; rfl
  | cons u us ih =>
    intro k off cs
    simp only [List.zipIdx_cons, List.foldl_cons]
    rw [ih (k + 1) off, ih 1 (off + k)]
    simp only [Nat.add_zero, Nat.add_assoc]

theorem fill_row : ∀ (us : List Value) (off : Nat) (cs : Array Value), off + us.length ≤ cs.size →
    ((us.zipIdx 0).foldl (fun (cs : Array Value) (p : Value × Nat) => cs.setIfInBounds (off + p.2) p.1) cs).size = cs.size ∧
    ∀ i, ((us.zipIdx 0).foldl (fun (cs : Array Value) (p : Value × Nat) => cs.setIfInBounds (off + p.2) p.1) cs).getD i undef = if off ≤ i ∧ i < off + us.length then us.getD (i - off) undef else cs.getD i undef
  | [], off, cs, _ => ⟨rfl, fun i => by simp; intro h1 h2; omega⟩
  | u :: us, off, cs, h => by
    simp only [List.length_cons] at h
    simp only [List.zipIdx_cons, List.foldl_cons, Nat.zero_add, Nat.add_zero]
    rw [foldl_set us 1 off]
    obtain ⟨h1, h2⟩ := fill_row us (off + 1) (cs.setIfInBounds off u) (by simp; omega)
    refine ⟨by rw [h1]; simp, fun i => ?_⟩
    rw [h2]
    by_cases e : off + 1 ≤ i ∧ i < off + 1 + us.length
    · rw [if_pos e, if_pos (by simp; omega)]
      have : i - off = (i - (off + 1)) + 1 := by omega
      rw [this]; simp
    · rw [if_neg e]
      by_cases e2 : i = off
      · subst e2
        rw [if_pos (by simp)]
        simp only [Nat.sub_self, List.getD_eq_getElem?_getD, List.getElem?_cons_zero, Array.getD_eq_getD_getElem?]
        rw [Array.getElem?_setIfInBounds_self_of_lt (by omega)]
      · rw [if_neg (by simp; omega)]
        simp only [Array.getD_eq_getD_getElem?]
        rw [Array.getElem?_setIfInBounds_ne (by omega)]

def ArgS (x : Operand) (m : MArg) : Prop := ∀ (N : Nat) (s : St) (a : Act) (w : World) (A : Area) (sp : Sp), RS N s a w A sp → RV w A (m.ev s.env) (a.eval x)
theorem argS_of {P : Program} {t : TypeId} {x : Operand} {m : MArg} (h : argOfT P t x = some m) : ArgS x m := fun _ _ _ _ _ _ hs => (argOfT_sound hs h).1

def PartsOK (place : Nat → Option (Nat × Nat)) : List (Nat × Operand) → List (Nat × Nat × MArg) → Prop
  | [], [] => True
  | (i, x) :: ps, (off, n, m) :: qs => ArgS x m ∧ place i = some (off, n) ∧ 0 < n ∧ PartsOK place ps qs
  | _, _ => False

theorem fill_sound (h : RS N s a w A sp) (place : Nat → Option (Nat × Nat)) : ∀ (ps : List (Nat × Operand)) (qs : List (Nat × Nat × MArg)) (cs : List AV) (vs : Array Value) (k : List AV → Prop),
    PartsOK place ps qs → vs.size = cs.length → (∀ i, RV w A (cs.getD i .any) (vs.getD i undef)) → fillK s.env cs qs k →
    ∃ cs' vs', Instr.fill place vs (ps.map fun p => (p.1, a.eval p.2)) = some vs' ∧ vs'.size = cs'.length ∧ (∀ i, RV w A (cs'.getD i .any) (vs'.getD i undef)) ∧ k cs'
  | [], [], cs, vs, k, _, hs, hr, hk => ⟨cs, vs, rfl, hs, hr, hk⟩
  | (i, x) :: ps, (off, n, m) :: qs, cs, vs, k, hp, hs, hr, hk => by
    obtain ⟨hx, hpl, hn0, hp⟩ := hp
    obtain ⟨hl, hoff, hk⟩ := hk
    have h1 := hx _ _ _ _ _ _ h
    obtain ⟨c1, c2⟩ := h1.cells_of (by intro e; rw [e] at hl; simp at hl; omega)
    obtain ⟨f1, f2⟩ := fill_row (a.eval x).cells.toList off vs (by simp; omega)
    have hfold : (a.eval x).cells.zipIdx.foldl (fun cs (c, j) => cs.setIfInBounds (off + j) c) vs = ((a.eval x).cells.toList.zipIdx 0).foldl (fun (cs : Array Value) (p : Value × Nat) => cs.setIfInBounds (off + p.2) p.1) vs := by
      rw [← Array.foldl_toList]; simp
    obtain ⟨cs', vs', g1, g2, g3, g4⟩ := fill_sound h place ps qs (splice cs off ((m.ev s.env).cells.map AV.erase0)) _ k hp (by rw [f1, splice_len]; exact hs) (fun j => by
      rw [f2, splice_getD _ _ _ _ (by simp; omega)]
      simp only [List.length_map, Array.length_toList, c1]
      split
      · rw [getD_erase0]
        have := (c2 (j - off)).erase0
        simpa [List.getD_eq_getElem?_getD, Array.getD_eq_getD_getElem?] using this
      · exact hr j) hk
    refine ⟨cs', vs', ?_, g2, g3, g4⟩
    rw [List.map_cons, Instr.fill]
    simp only [hpl]
    rw [if_neg (by simp; omega), hfold]
    exact g1
  | [], _ :: _, _, _, _, hp, _, _, _ => hp.elim
  | _ :: _, [], _, _, _, hp, _, _, _ => hp.elim

theorem run_mapM_fields {P : Program} {w : World} : ∀ (fs : List Field) , (∀ f ∈ fs, ∃ i, P.info? f.type = some i) →
    (fs.mapM fun f => (do pure (f.offset, ← sizeOf f.type) : Sem (Nat × Nat))).run P w = .ok (fs.map fun f => (f.offset, P.cellsOf f.type)) w
  | [], _ => rfl
  | f :: fs, h => by
    obtain ⟨i, hi⟩ := h f (by simp)
    have ih := run_mapM_fields (w := w) fs (fun g hg => h g (by simp [hg]))
    simp only [List.mapM_cons, Sem.run_bind, sizeOf, typeInfo, run_program, Result.andThen_ok, hi, Sem.run_pure, List.map_cons, Program.cellsOf, Option.map_some, Option.getD_some] at ih ⊢
    rw [ih]
    rfl

theorem fieldsParts_ok {fs : Array Field} (place : Nat → Option (Nat × Nat)) (hpl : ∀ i f n, fs[i]? = some f → szOf P f.type = some n → place i = some (f.offset, n)) : ∀ (ps : List (Nat × Operand)) (qs : List (Nat × Nat × MArg)), fieldsParts P fs ps = some qs → PartsOK place ps qs
  | [], qs, h => by injection h with h; subst h; trivial
  | (i, x) :: ps, qs, h => by
    simp only [fieldsParts] at h
    split at h
    · rename_i f ys h1 h3
      split at h
      · rename_i n y hn h2
        split at h
        · injection h with h; subst h
          exact ⟨argS_of h2, hpl i f n h1 hn, by omega, fieldsParts_ok place hpl ps ys h3⟩
        · cases h
      · cases h
    · cases h

theorem arrParts_ok {e : TypeId} {sz : Nat} (h0 : 0 < sz) : ∀ (ps : List (Nat × Operand)) (qs : List (Nat × Nat × MArg)), arrParts P e sz ps = some qs → PartsOK (fun i => some (i * sz, sz)) ps qs
  | [], qs, h => by injection h with h; subst h; trivial
  | (i, x) :: ps, qs, h => by
    simp only [arrParts] at h
    split at h
    · rename_i y ys h1 h2
      injection h with h; subst h
      exact ⟨argS_of h1, rfl, h0, arrParts_ok h0 ps ys h2⟩
    · cases h

theorem s_buildS {t : TypeId} {ps : Array (Nat × Operand)} {qs : List (Nat × Nat × MArg)} {z : List AV} {fs : Array Field} (hop : o.op = .build t ps) (hd : o.dst = some d) (hN : d < N)
    (hz : okZero P t z = true) (ht : P.underlying t = some (.struct fs)) (hfs : ∀ f ∈ fs.toList, ∃ i, P.info? f.type = some i) (hq : fieldsParts P fs ps.toList = some qs)
    (h : RS N s a w A sp) (hv : vc1 P (.build d z qs) s K) (hn : Next s w A sp N K next) : o.wp P a w next Q := by
  obtain ⟨i, v, hi, hz, hs, _, hr, hc⟩ := okZero_sound (w := w) (A := A) hz
  have hm := run_mapM_fields (P := P) (w := w) fs.toList hfs
  have hok := fieldsParts_ok (P := P) (fs := fs) (fun i => (fs.map fun f => (f.offset, P.cellsOf f.type))[i]?) (fun i f n h1 h2 => by
    simp only [szOf, Option.map_eq_some_iff] at h2
    obtain ⟨j, hj, rfl⟩ := h2
    simp [h1, Program.cellsOf, hj]) ps.toList qs hq
  obtain ⟨cs', vs', g1, g2, g3, g4⟩ := fill_sound h _ ps.toList qs z v.cells _ hok hs hr hv
  refine fin (v := .agg vs') h hd hN ?_ (.agg _ _ g2 g3) trivial g4 hn
  have hmA : (fs.mapM fun f => (do pure (f.offset, ← sizeOf f.type) : Sem (Nat × Nat))).run P w = .ok (fs.map fun f => (f.offset, P.cellsOf f.type)) w := by
    rw [Array.mapM_eq_mapM_toList, Sem.run_map, hm]
    simp only [Result.andThen_ok]
    congr 1
    exact Array.ext' (by simp)
  have hpe : (ps.map fun x => (x.1, a.eval x.2)).toList = ps.toList.map fun p => (p.1, a.eval p.2) := by simp
  simp only [execOp, hop, Instr.build, zeroValue, typeInfo, Sem.run_bind, run_program, Result.andThen_ok, hi, Sem.run_pure, hz, run_underlying ht, hmA, hpe, g1]

theorem s_buildA {t e : TypeId} {len sz : Nat} {ps : Array (Nat × Operand)} {qs : List (Nat × Nat × MArg)} {z : List AV} (hop : o.op = .build t ps) (hd : o.dst = some d) (hN : d < N)
    (hz : okZero P t z = true) (ht : P.underlying t = some (.array len e)) (hsz : szOf P e = some sz) (h0 : 0 < sz) (hq : arrParts P e sz ps.toList = some qs)
    (h : RS N s a w A sp) (hv : vc1 P (.build d z qs) s K) (hn : Next s w A sp N K next) : o.wp P a w next Q := by
  obtain ⟨i, v, hi, hz, hs, _, hr, hc⟩ := okZero_sound (w := w) (A := A) hz
  simp only [szOf, Option.map_eq_some_iff] at hsz
  obtain ⟨inf, hinf, rfl⟩ := hsz
  obtain ⟨cs', vs', g1, g2, g3, g4⟩ := fill_sound h _ ps.toList qs z v.cells _ (arrParts_ok h0 _ _ hq) hs hr hv
  refine fin (v := .agg vs') h hd hN ?_ (.agg _ _ g2 g3) trivial g4 hn
  have hpe : (ps.map fun x => (x.1, a.eval x.2)).toList = ps.toList.map fun p => (p.1, a.eval p.2) := by simp
  simp only [execOp, hop, Instr.build, zeroValue, sizeOf, typeInfo, Sem.run_bind, run_program, Result.andThen_ok, hi, hinf, Sem.run_pure, hz, run_underlying ht, hpe, g1]

end
end Go.Avm
