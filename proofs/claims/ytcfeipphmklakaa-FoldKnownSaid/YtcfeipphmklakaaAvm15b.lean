/- A function's results; contracts of functions and of iterators out of their resolved code. -/
import Derived.Test.YtcfeipphmklakaaAvm15
namespace Go.Avm
open Go.RowKit

section
variable {P : Program} {N : Nat}

inductive MRes where
  | tmp (t : Nat)
  | cell (t : Nat) (n : Option Nat)

def trRes (P : Program) : List ResultVar → Option (List MRes)
  | [] => some []
  | .tmp t :: rs => (trRes P rs).map (.tmp t :: ·)
  | .cell t ty :: rs => match partN P ty, trRes P rs with
    | some n, some l => some (.cell t n :: l)
    | _, _ => none

def resK (s : St) : List MRes → (List AV → Prop) → Prop
  | [], K => K []
  | .tmp t :: rs, K => resK s rs fun vs => K ((s.env t).erase :: vs)
  | .cell t n :: rs, K => loadK s.loc (s.env t) n fun v => resK s rs fun vs => K (v.erase :: vs)

def resOf : List AV → AV
  | [x] => x
  | xs => .tuple xs

def initEnv (xs : List AV) : Nat → AV := fun k => (xs.getD k .any).erase

def noSp : Sp := fun _ => (0, 0, 0)

theorem live_none (b o : Nat) : ¬ live (fun _ => none) noSp b o := by
  rintro (h | ⟨r, h1, h2, h3⟩)
  · exact h rfl
  · simp [noSp] at h3

theorem loadK_sound {s : St} {a : Act} {w : World} {A : Area} {sp : Sp} {ty : TypeId} {n : Option Nat} {t : Nat} {k : AV → Prop} (hp : partN P ty = some n) (h : RS N s a w A sp) (hv : loadK s.loc (s.env t) n k) :
    ∃ x v, (do loadVar ty (← asAddr (a.tmps.getD t undef)) : Sem Value).run P w = .ok v w ∧ RV w A x v ∧ k x := by
  have h1 := (h.env t).1
  unfold loadK at hv
  split at hv
  · rename_i cs hcs
    rw [hcs] at h1
    generalize a.tmps.getD t undef = v0 at h1
    cases h1 with
    | ref _ b off vs hc hr =>
      cases n with
      | none =>
        simp only [partK] at hv
        have := loadVar_run hp w b off vs (fun i hi => (hc i (by simp at hi; omega)).1)
        exact ⟨_, vs 0, by simp only [Sem.run_bind, asAddr, Sem.run_pure, Result.andThen_ok, this], (hr 0).erase, hv.2⟩
      | some m =>
        simp only [partK, Nat.zero_add, List.drop_zero] at hv
        have := loadVar_run hp w b off vs (fun i hi => (hc i (by simp at hi; omega)).1)
        refine ⟨_, .agg ((Array.range m).map vs), by simp only [Sem.run_bind, asAddr, Sem.run_pure, Result.andThen_ok, this], ?_, hv.2⟩
        refine RV.erase (RV.erase (.agg _ _ (by simp; omega) fun i => ?_))
        by_cases hi : i < m
        · have := hr i
          simp only [List.getD_eq_getElem?_getD, List.getElem?_take, hi, if_true, Array.getD_eq_getD_getElem?, Array.getElem?_map] at this ⊢
          rw [Array.getElem?_eq_getElem (by simpa using hi)]
          simpa using this
        · simp only [List.getD_eq_getElem?_getD, List.getElem?_take, hi, if_false, Option.getD_none]
          exact .any _
  · rename_i b off hcs
    rw [hcs] at h1
    generalize a.tmps.getD t undef = v0 at h1
    cases h1
    split at hv
    · rename_i cs hb
      obtain ⟨vs, T, hh, hsz, hr⟩ := h.loc b cs hb
      have hcell : ∀ i, off + i < cs.length → w.cell? ⟨b, off + i, none⟩ = some (vs.getD (off + i) undef) := by
        intro i hi
        simp [World.cell?, hh, Array.getD_eq_getD_getElem?, Array.getElem?_eq_getElem (show off + i < vs.size by omega)]
      cases n with
      | none =>
        simp only [partK] at hv
        have := loadVar_run hp w b off (fun i => vs.getD (off + i) undef) (fun i hi => hcell i (by simp at hi; omega))
        exact ⟨_, vs.getD off undef, by simp only [Sem.run_bind, asAddr, Sem.run_pure, Result.andThen_ok, this, Nat.add_zero], (hr off).1, hv.2⟩
      | some m =>
        simp only [partK] at hv
        have := loadVar_run hp w b off (fun i => vs.getD (off + i) undef) (fun i hi => hcell i (by simp at hi; omega))
        refine ⟨_, .agg ((Array.range m).map fun i => vs.getD (off + i) undef), by simp only [Sem.run_bind, asAddr, Sem.run_pure, Result.andThen_ok, this], ?_, hv.2⟩
        refine RV.erase (.agg _ _ (by simp; omega) fun i => ?_)
        by_cases hi : i < m
        · have := (hr (off + i)).1
          simp only [List.getD_eq_getElem?_getD, List.getElem?_take, hi, if_true, List.getElem?_drop, Array.getD_eq_getD_getElem?, Array.getElem?_map] at this ⊢
          rw [Array.getElem?_eq_getElem (by simpa using hi)]
          simpa using this
        · simp only [List.getD_eq_getElem?_getD, List.getElem?_take, hi, if_false, Option.getD_none]
          exact .any _
    · exact hv.elim
  · exact hv.elim

theorem res_sound {s : St} {a : Act} {w : World} {A : Area} {sp : Sp} (h : RS N s a w A sp) (f : ResultVar → Sem Value) (f1 : ∀ t, f (.tmp t) = pure (a.tmps.getD t undef)) (f2 : ∀ b t, f (.cell b t) = (do loadVar t (← asAddr (a.tmps.getD b undef)))) : ∀ (rs : List ResultVar) (ms : List MRes) (k : List AV → Prop), trRes P rs = some ms → resK s ms k →
    ∃ xs vs, (rs.mapM f).run P w = .ok vs w ∧ vs.length = xs.length ∧ (∀ i, RV w A (xs.getD i .any) (vs.getD i undef)) ∧ k xs
  | [], ms, k, hm, hk => by injection hm with hm; subst hm; exact ⟨[], [], rfl, rfl, fun i => by simp; exact .any _, hk⟩
  | .tmp t :: rs, ms, k, hm, hk => by
    simp only [trRes, Option.map_eq_some_iff] at hm
    obtain ⟨l, hl, rfl⟩ := hm
    obtain ⟨xs, vs, g1, g2, g3, g4⟩ := res_sound h f f1 f2 rs l _ hl hk
    refine ⟨_ :: xs, a.tmps.getD t undef :: vs, ?_, by simp [g2], fun i => ?_, g4⟩
    · simp only [List.mapM_cons, f1, Sem.run_bind, Sem.run_pure, Result.andThen_ok, g1]
    · cases i with
      | zero => simpa using (h.env t).1.erase
      | succ i => simpa using g3 i
  | .cell t ty :: rs, ms, k, hm, hk => by
    simp only [trRes] at hm
    split at hm
    · rename_i n l hn hl
      injection hm with hm; subst hm
      obtain ⟨x, v, r1, r2, r3⟩ := loadK_sound hn h hk
      obtain ⟨xs, vs, g1, g2, g3, g4⟩ := res_sound h f f1 f2 rs l _ hl r3
      refine ⟨x.erase :: xs, v :: vs, ?_, by simp [g2], fun i => ?_, g4⟩
      · simp only [Sem.run_bind] at r1
        simp only [List.mapM_cons, f2, Sem.run_bind, r1, Result.andThen_ok, g1, Sem.run_pure]
      · cases i with
        | zero => simpa using r2.erase
        | succ i => simpa using g3 i
    · cases hm

theorem results_sound {s : St} {a : Act} {w : World} {A : Area} {sp : Sp} {fn : Func} {ms : List MRes} {r : AV} (h : RS N s a w A sp) (hm : trRes P fn.results.toList = some ms) (hk : resK s ms fun xs => r = resOf xs) :
    ∃ v, (results fn a.tmps).run P w = .ok v w ∧ RV w A r v := by
  have key : ∀ f : ResultVar → Sem Value, (∀ t, f (.tmp t) = pure (a.tmps.getD t undef)) → (∀ b t, f (.cell b t) = (do loadVar t (← asAddr (a.tmps.getD b undef)))) →
      ∃ v, (do let vs ← fn.results.mapM f; pure (if h : vs.size = 1 then vs[0] else .tuple vs) : Sem Value).run P w = .ok v w ∧ RV w A r v := by
    intro f f1 f2
    obtain ⟨xs, vs, g1, g2, g3, rfl⟩ := res_sound h f f1 f2 fn.results.toList ms _ hm hk
    rw [Sem.run_bind, Array.mapM_eq_mapM_toList, Sem.run_map, g1]
    refine ⟨if h : vs.toArray.size = 1 then vs.toArray[0] else .tuple vs.toArray, rfl, ?_⟩
    match xs, vs, g2 with
    | [], [], _ => exact .tuple [] _ rfl (fun i => by simp; exact .any _)
    | [x], [v], _ => simpa [resOf] using g3 0
    | x :: y :: xs, u :: v :: vs, g2 =>
      simp only [resOf, List.size_toArray, List.length_cons, Nat.add_eq_right, Nat.add_eq_zero_iff, Nat.one_ne_zero, and_false, dite_false]
      refine .tuple _ _ (by simpa using g2) (fun i => ?_)
      have := g3 i
      simpa [List.getD_eq_getElem?_getD, Array.getD_eq_getD_getElem?] using this
    | [], _ :: _, g2 => simp at g2
    | [_], [], g2 => simp at g2
    | [_], _ :: _ :: _, g2 => simp at g2
    | _ :: _ :: _, [], g2 => simp at g2
    | _ :: _ :: _, [_], g2 => simp at g2
  exact key _ (fun _ => rfl) (fun _ _ => rfl)

/-- What can be read at all. -/
def Fits (x : AV) : Prop := ∃ w A v, RV w A x v


/-- What lies below B is as it was. -/
def Low (B : Nat) (w w' : World) : Prop := w'.os = w.os ∧ w'.tape = w.tape ∧ w'.output = w.output ∧ w.heap.size ≤ w'.heap.size ∧ ∀ b, b < B → w'.heap[b]? = w.heap[b]?

theorem Ev.low {w w1 w2 : World} {A L A1 L1 : Area} (h : Ev w A L w1 A1 L1) (k : Low w.heap.size w1 w2) : Ev w A L w2 A1 L1 := by
  obtain ⟨k1, k2, k3, k4, k5⟩ := k
  exact ⟨k1.trans h.os, k2.trans h.tape, k3.trans h.output, Nat.le_trans h.size k4, fun b o hb hl => ⟨(World.cell?_of_block (k5 b hb)).trans (h.cell b o hb hl).1, (h.cell b o hb hl).2⟩, fun b hb hl => (k5 b hb).trans (h.block b hb hl), h.sub, h.sup⟩

/-- The marks are come to, one after the other. -/
theorem unwind_marks {C : Ctx P} {s : St} {A Lx : Area} {sp : Sp} {fn : Func} {t : Array Value} {R : Ending → World → Prop} (hro : C.ro = none) : ∀ (ds : List Deferred) (Pt : List (Nat × Obj)) (w : World), GS C Pt s ⟨t, ds⟩ w A Lx sp →
    (∀ w' Pt', GS C Pt' s ⟨t, []⟩ w' A Lx sp → Low C.B w w' → ∃ v, (results fn t).run P w' = .ok v w' ∧ R (.returned v) w') → LeavesInM (Fw none) 0 P fn t R ds .returning w
  | [], Pt, w, h, hk => hk w Pt h ⟨rfl, rfl, rfl, Nat.le_refl _, fun _ _ => rfl⟩
  | d :: ds, Pt, w, h, hk => by
    obtain ⟨D, d1, d2, d3⟩ := h.df d (List.mem_cons_self ..)
    have hD := (h.pt _ d3).1
    refine ⟨fun e => (by cases e), .inl ⟨D, w.putObj D (.deferred none), by rw [d2], run_takeDeferred hD, ?_⟩⟩
    have hnd := h.dn
    simp only [List.map_cons, List.nodup_cons] at hnd
    have h1 : GS C Pt s ⟨t, ds⟩ w A Lx sp := ⟨h.rs, h.ig, h.lt, h.ap, h.av, h.x, h.pt, h.ob, h.oa, h.bs, hnd.2, fun e he => h.df e (List.mem_cons_of_mem _ he), h.ro⟩
    have h2 : GS C (Pt.filter fun p => p.1 != D) s ⟨t, ds⟩ (w.putObj D (.deferred none)) A Lx sp := by
      refine h1.putObj d3 (fun p hp => ?_) (fun e he => ?_) (fun l e => by rw [hro] at e; cases e)
      · obtain ⟨g1, g2⟩ := List.mem_filter.1 hp
        exact .inr ⟨g1, by simpa using g2⟩
      · obtain ⟨E, e1, e2, e3⟩ := h1.df e he
        refine ⟨E, e1, e2, List.mem_filter.2 ⟨e3, ?_⟩⟩
        have : E ≠ D := fun hh => hnd.1 (by rw [d2, ← hh]; exact List.mem_map.2 ⟨e, he, by rw [e2]⟩)
        simpa using this
    refine unwind_marks hro ds _ _ h2 fun w' Pt' g1 g2 => hk w' Pt' g1 ?_
    obtain ⟨k1, k2, k3, k4, k5⟩ := g2
    exact ⟨k1, k2, k3, by simpa using k4, fun b hb => (k5 b hb).trans (World.putObj_heap_other (by omega))⟩

def noX : AV → World → Area → Area → Prop := fun gh _ _ Lx => gh = .any ∧ ∀ b o, ¬ Lx b o

def ctx0 (P : Program) (N B : Nat) : Ctx P := { N := N, B := B, ro := none, X := noX, st := fun _ _ _ _ _ _ h _ => h, yl := fun _ _ _ _ _ _ _ h => by cases h.1 }

theorem init_rs {xs : List AV} {n : Nat} {w : World} {A : Area} {vs : Array Value} (hlen : xs.length ≤ n) (hA : ∀ b o, A b o → b < w.heap.size) (hs : vs.size = xs.length) (hrv : ∀ i, RV w A (xs.getD i .any) (vs.getD i undef)) :
    RS n ⟨initEnv xs, fun _ => none⟩ ⟨vs ++ Array.replicate (n - vs.size) undef, []⟩ w A noSp := by
  refine ⟨by simp; omega, rfl, fun d => ?_, fun b cs hb => (by cases hb), fun r hr => by simp [noSp] at hr, fun r r' _ h1 => by simp [noSp] at h1, fun b o ha => ⟨hA b o ha, live_none b o⟩⟩
  by_cases hd : d < xs.length
  · have e : (vs ++ Array.replicate (n - vs.size) undef).getD d undef = vs.getD d undef := by
      simp only [Array.getD_eq_getD_getElem?]
      rw [Array.getElem?_append_left (by omega)]
    simp only [e]
    exact ⟨(hrv d).erase, .erase⟩
  · simp only [initEnv, List.getD_eq_getElem?_getD, List.getElem?_eq_none (Nat.le_of_not_lt hd), Option.getD_none]
    exact ⟨.any _, trivial⟩

theorem init_any {xs : List AV} (h : xs.length ≤ gS) (k : Nat) (hk : gS ≤ k) : initEnv xs k = .any := by
  simp only [initEnv, List.getD_eq_getElem?_getD, List.getElem?_eq_none (Nat.le_trans h hk), Option.getD_none]; rfl
theorem gS_oS (b : Nat) : gS ≤ oS + b := by simp only [gS, oS]; omega

/-- A FUNCTION's CONTRACT, out of its resolved code. -/
theorem pcall_of {f : FuncId} {fn : Func} {c : Code} {ann : Ann} {m : MCode} {rs : List MRes} {xs : List AV} {r : AV} (hf : P.funcs[f]? = some fn) (hb : fn.body = some c)
    (hm : trC P ann fn.ntmps c = some m) (hr : trRes P fn.results.toList = some rs) (hfn : isFunc P f = true) (hlen : xs.length ≤ fn.ntmps) (hgS : fn.ntmps ≤ gS)
    (hv : (∀ i, Fits (xs.getD i .any)) → mwp P m (fun s => resK s rs fun ys => r = resOf ys) (fun _ _ => False) (fun s => resK s rs fun ys => r = resOf ys) ⟨initEnv xs, fun _ => none⟩) : PCall P f xs r := by
  refine ⟨hfn, fun w A vs hA hs hrv => ?_⟩
  have hg : ∀ k, gS ≤ k → initEnv xs k = .any := init_any (Nat.le_trans hlen hgS)
  have hh : ∀ b o, ¬ held ⟨initEnv xs, fun _ => none⟩ noSp b o := fun b o h => h.elim (live_none b o) fun h => h (hg _ (gS_oS b))
  have hinit : GS (ctx0 P fn.ntmps w.heap.size) [] ⟨initEnv xs, fun _ => none⟩ ⟨vs ++ Array.replicate (fn.ntmps - vs.size) undef, []⟩ w A (fun _ _ => False) noSp :=
    ⟨init_rs hlen hA hs hrv, fun k hk => by simp only [hg k hk]; rfl, fun _ _ h => h.elim, fun _ _ _ _ h => h, fun _ _ _ h => h, ⟨hg _ (Nat.le_refl _), fun _ _ h => h⟩, fun p hp => (by cases hp), fun b => by simp only [hg _ (gS_oS b)]; exact .any, fun b o h => absurd (.inr h) (hh b o), Nat.le_refl _, List.nodup_nil, fun d hd => (by cases hd), fun l e => (by cases e)⟩
  refine calls_fw (n := 0) (callsIn_of_wp_marks hf hb trivial (wpIn_mono (code_sound c (ctx0 P fn.ntmps w.heap.size) m _ _ _ _ _ _ w A _ noSp hgS hm hinit (hv fun i => ⟨w, A, _, hrv i⟩)) ?_))
  rintro e a' w' ⟨s', A', Lx', sp', Pt', -, hG, hev, -, hq⟩
  have fin : (resK s' rs fun ys => r = resOf ys) → LeavesInM (Fw none) 0 P fn a'.tmps (fun e w' => ∃ v A', e = .returned v ∧ Fr w w' ∧ (∀ b o, A b o → A' b o) ∧ (∀ b o, A' b o → A b o ∨ (w.heap.size ≤ b ∧ b < w'.heap.size)) ∧ RV w' A' r v) a'.defers .returning w' := by
    intro hq
    refine unwind_marks rfl a'.defers Pt' w' hG fun w2 Pt2 hG2 hlow => ?_
    obtain ⟨v, g1, g2⟩ := results_sound hG2.rs hr hq
    have hev2 := hev.low hlow
    have hno : ∀ b o, ¬ join (held ⟨initEnv xs, fun _ => none⟩ noSp) (fun _ _ => False) b o := fun b o h => h.elim (hh b o) id
    refine ⟨v, g1, v, A', rfl, ⟨hev2.os, hev2.tape, hev2.output, hev2.size, fun b hb => hev2.block b hb (hno b)⟩, hev2.sub, fun b o ha => ?_, g2⟩
    rcases hev2.sup b o ha with h1 | h1 | h1
    · exact .inl h1
    · exact absurd h1 (hno b o)
    · exact .inr ⟨h1, (hG2.rs.av b o ha).1⟩
  cases e with
  | normal => exact fin hq
  | ret => exact fin hq
  | exit i => exact hq.elim
  | goto l => exact hq.elim
  | panic ch => exact hq.elim
  | outgrown => exact hq.elim

/-- The same, of the function's held body. -/
theorem pcall {f : FuncId} {fn : Func} {ann : Ann} {m : MCode} {rs : List MRes} {xs : List AV} {r : AV} (hf : P.funcs[f]? = some fn) 
    (hm : fn.body.bind (trC P ann fn.ntmps) = some m) (hr : trRes P fn.results.toList = some rs) (hfn : isFunc P f = true) (hlen : xs.length ≤ fn.ntmps ∧ fn.ntmps ≤ 1000000)
    (hv : (∀ i, Fits (xs.getD i .any)) → mwp P m (fun s => resK s rs fun ys => r = resOf ys) (fun _ _ => False) (fun s => resK s rs fun ys => r = resOf ys) ⟨initEnv xs, fun _ => none⟩) : PCall P f xs r := by
  cases hb : fn.body with
  | none => rw [hb] at hm; cases hm
  | some c => rw [hb] at hm; exact pcall_of hf hb hm hr hfn hlen.1 (by simp only [gS]; exact hlen.2) hv

def Done : St → Prop := fun s => ∃ l rest b, s.env gS = .ghost l rest b ∧ (b = true ∨ rest = [])

/-- AN ITERATOR's CONTRACT, out of its resolved code. -/
theorem pseq_of {f : FuncId} {fn : Func} {c : Code} {ann : Ann} {m : MCode} {first cap : List AV} {xs : List (List AV)} (hf : P.funcs[f]? = some fn) (hb : fn.body = some c)
    (hm : trC P ann fn.ntmps c = some m) (hr : trRes P fn.results.toList = some []) (hfn : isFunc P f = true) (hlen : first.length + 1 + cap.length ≤ fn.ntmps) (hgS : fn.ntmps ≤ gS)
    (hv : ∀ l, (∀ i, Fits ((first ++ [AV.func (.yield l) [] []] ++ cap).getD i .any)) → mwp P m (fun s => ∃ rest b, s.env gS = .ghost l rest b ∧ (b = true ∨ rest = [])) (fun _ _ => False) (fun s => ∃ rest b, s.env gS = .ghost l rest b ∧ (b = true ∨ rest = []))
      ((St.mk (initEnv (first ++ [AV.func (.yield l) [] []] ++ cap)) fun _ => none).set gS (.ghost l xs false))) : PSeq P f first cap xs := by
  refine ⟨hfn, fun X l w A Lx vs hst hyl hlt hav hs hrv hx => ?_⟩
  have hlen' : (first ++ [AV.func (.yield l) [] []] ++ cap).length ≤ fn.ntmps := by simp only [List.length_append, List.length_singleton]; exact hlen
  let C : Ctx P := { N := fn.ntmps, B := w.heap.size, ro := none, X := X, st := hst, yl := hyl }
  have hrs := init_rs hlen' (fun b o ha => (hav b o ha).1) hs hrv
  have hrs2 : RS fn.ntmps ((St.mk (initEnv (first ++ [AV.func (.yield l) [] []] ++ cap)) fun _ => none).set gS (.ghost l xs false)) ⟨vs ++ Array.replicate (fn.ntmps - vs.size) undef, []⟩ w A noSp := by
    refine ⟨hrs.size, rfl, fun d => ?_, hrs.loc, hrs.spb, hrs.spd, hrs.av⟩
    by_cases hd : d = gS
    · subst hd; rw [env_set_g]; exact ⟨.ghost _ _ _ _, trivial⟩
    · have e : ((St.mk (initEnv (first ++ [AV.func (.yield l) [] []] ++ cap)) fun _ => none).set gS (.ghost l xs false)).env d = initEnv (first ++ [AV.func (.yield l) [] []] ++ cap) d := upd_ne _ _ hd
      rw [e]; exact hrs.env d
  have hg : ∀ k, gS ≤ k → k ≠ gS → ((St.mk (initEnv (first ++ [AV.func (.yield l) [] []] ++ cap)) fun _ => none).set gS (.ghost l xs false)).env k = .any := fun k hk hne => (upd_ne _ _ hne).trans (init_any (Nat.le_trans hlen' hgS) k hk)
  have hoo : ∀ b, ((St.mk (initEnv (first ++ [AV.func (.yield l) [] []] ++ cap)) fun _ => none).set gS (.ghost l xs false)).env (oS + b) = .any := fun b => hg _ (gS_oS b) (by simp only [gS, oS]; omega)
  have hh : ∀ b o, ¬ held ((St.mk (initEnv (first ++ [AV.func (.yield l) [] []] ++ cap)) fun _ => none).set gS (.ghost l xs false)) noSp b o := fun b o h => h.elim (live_none b o) fun h => h (hoo b)
  have hinit : GS C [] ((St.mk (initEnv (first ++ [AV.func (.yield l) [] []] ++ cap)) fun _ => none).set gS (.ghost l xs false)) ⟨vs ++ Array.replicate (fn.ntmps - vs.size) undef, []⟩ w A Lx noSp :=
    ⟨hrs2, fun k hk => by
        by_cases e : k = gS
        · subst e; rw [env_set_g]; rfl
        · rw [hg k hk e]; rfl, hlt, fun b o o' hl => absurd hl (hh b o), fun b o ha => (hav b o ha).2, by rw [env_set_g]; exact hx, fun p hp => (by cases hp), fun b => by rw [hoo]; exact .any, fun b o h => absurd (.inr h) (hh b o), Nat.le_refl _, List.nodup_nil, fun d hd => (by cases hd), fun l e => (by cases e)⟩
  refine calls_fw (n := 0) (callsIn_of_wp_marks hf hb trivial (wpIn_mono (code_sound c C m _ _ _ _ _ _ w A _ noSp hgS hm hinit (hv l fun i => ⟨w, A, _, hrv i⟩)) ?_))
  rintro e a' w' ⟨s', A', Lx', sp', Pt', -, hG, hev, -, hq⟩
  have fin : (∃ rest b, s'.env gS = .ghost l rest b ∧ (b = true ∨ rest = [])) → LeavesInM (Fw none) 0 P fn a'.tmps (fun e w' => ∃ v A' Lx' rest b, e = .returned v ∧ Ev w A Lx w' A' Lx' ∧ (∀ b o, Lx' b o → b < w'.heap.size) ∧ (∀ b o, A' b o → b < w'.heap.size ∧ ¬ Lx' b o) ∧
      X (.ghost l rest b) w' A' Lx' ∧ (b = true ∨ rest = [])) a'.defers .returning w' := by
    rintro ⟨rest, b, hgh, hb⟩
    refine unwind_marks rfl a'.defers Pt' w' hG fun w2 Pt2 hG2 hlow => ?_
    obtain ⟨v, g1, g2⟩ := results_sound (r := .tuple []) hG2.rs hr rfl
    have hev2 := (hev.low hlow)
    have hx2 := hG2.x
    rw [hgh] at hx2
    refine ⟨v, g1, v, A', Lx', rest, b, rfl, hev2.into (fun b o h => h.elim (fun h => absurd h (hh b o)) .inl) (fun b o _ h => .inr (.inr h)), hG2.lt, fun b o ha => ⟨(hG2.rs.av b o ha).1, hG2.av b o ha⟩, hx2, hb⟩
  cases e with
  | normal => exact fin hq
  | ret => exact fin hq
  | exit i => exact hq.elim
  | goto l => exact hq.elim
  | panic ch => exact hq.elim
  | outgrown => exact hq.elim

theorem pseq {f : FuncId} {fn : Func} {ann : Ann} {m : MCode} {first cap : List AV} {xs : List (List AV)} (hf : P.funcs[f]? = some fn) 
    (hm : fn.body.bind (trC P ann fn.ntmps) = some m) (hr : trRes P fn.results.toList = some []) (hfn : isFunc P f = true) (hlen : first.length + 1 + cap.length ≤ fn.ntmps ∧ fn.ntmps ≤ 1000000)
    (hv : ∀ l, (∀ i, Fits ((first ++ [AV.func (.yield l) [] []] ++ cap).getD i .any)) → mwp P m (fun s => ∃ rest b, s.env gS = .ghost l rest b ∧ (b = true ∨ rest = [])) (fun _ _ => False) (fun s => ∃ rest b, s.env gS = .ghost l rest b ∧ (b = true ∨ rest = []))
      ((St.mk (initEnv (first ++ [AV.func (.yield l) [] []] ++ cap)) fun _ => none).set gS (.ghost l xs false))) : PSeq P f first cap xs := by
  cases hb : fn.body with
  | none => rw [hb] at hm; cases hm
  | some c => rw [hb] at hm; exact pseq_of hf hb hm hr hfn hlen.1 (by simp only [gS]; exact hlen.2) hv

end
end Go.Avm
