/- Control, loops, and a function's contract. -/
import Derived.Test.YtcfeipphmklakaaAvm20
namespace Go.Avm
open Go.RowKit

inductive MCode where
  | skip
  | reg (ms : List MOp)
  | seq (x y : MCode)
  | cond (t : MArg) (x y : MCode)
  | block (id : Nat) (c : MCode)
  | loop (c : MCode)
  | exit (id : Nat)
  | ret
  | rangeF (x : MArg) (ps : List Nat) (assign body : MCode)
  deriving Inhabited

/-- What holds of every world of s holds of one of s1. -/
def Ent (s s1 : St) : Prop := (∀ k, gS ≤ k → s1.env k = s.env k) ∧ ∀ (N : Nat) (a : Act) (w : World) (A : Area) (sp : Sp), RS N s a w A sp → ∃ A1 sp1, RS N s1 a w A1 sp1 ∧ Ev w A (live s.loc sp) w A1 (live s1.loc sp1)

theorem Ent.refl (s : St) : Ent s s := ⟨fun _ _ => rfl, fun _ _ _ A sp h => ⟨A, sp, h, .refl _ _ _⟩⟩

/-- A loop: what holds at its head, and what goes down. -/
def MLoop (body : (St → Prop) → St → Prop) (s : St) : Prop :=
  ∃ I : Nat → St → Prop, (∃ n s1, Ent s s1 ∧ I n s1) ∧ ∀ n s, I n s → body (fun s' => ∃ m s1, m < n ∧ Ent s' s1 ∧ I m s1) s

/-- A loop over an iterator: what it yields, and what holds at the k-th round. -/
def MRange (P : Program) (f : FuncId) (first cap : List AV) (np : Nat) (s : St) (rnd : (Nat → St → Prop) → Nat → List AV → St → Prop) (kn : St → Prop) : Prop :=
  ∃ xs, PSeq P f first cap xs ∧ (∀ y ∈ xs, y.length = np) ∧ ∃ I : Nat → St → Prop, I 0 (back s s) ∧ (∀ k st, k < xs.length → st = back s st → I k st → rnd I k (xs.getD k []) st) ∧
    (∀ st, st = back s st → I xs.length st → kn st)

def mwp (P : Program) : MCode → (St → Prop) → (Nat → St → Prop) → (St → Prop) → St → Prop
  | .skip, kn, _, _, s => kn s
  | .reg ms, kn, _, _, s => vcs P ms kn s
  | .seq x y, kn, ke, kr, s => mwp P x (mwp P y kn ke kr) ke kr s
  | .cond t x y, kn, ke, kr, s => match t.ev s.env with
    | .lit (.bool b) => (b = true → mwp P x kn ke kr s) ∧ (b = false → mwp P y kn ke kr s)
    | _ => False
  | .block id c, kn, ke, kr, s => mwp P c kn (fun i s => if i = id then kn s else ke i s) kr s
  | .loop c, _, ke, kr, s => MLoop (fun kn s => mwp P c kn ke kr s) s
  | .exit id, _, ke, _, s => ke id s
  | .ret, _, _, kr, s => kr s
  | .rangeF x ps assign body, kn, ke, kr, s => match x.ev s.env with
    | .func (.func f) first cap => MRange P f first cap ps.length s (fun I k y st =>
        mwp P assign (mwp P body (fun s2 => I (k + 1) (back s s2)) (fun i s2 => ke i (back s s2)) (fun s2 => kr (back s s2))) (fun _ _ => False) (fun _ => False) (params st ps y)) kn
    | _ => False

def trC (P : Program) (ann : Ann) (N : Nat) : Code → Option MCode
  | .skip => some .skip
  | .region id ops false => (trXList (trG P ann N) P ann N ops ops.toList).map fun ms => .reg (ms ++ (fzs ann N id).map .frz)
  | .region id ops true => (trXDraw (trD P ann N) P ann N id ops).map fun ms => .reg (ms ++ (fzs ann N id).map .frz)
  | .seq x y => match trC P ann N x, trC P ann N y with
    | some x, some y => some (.seq x y)
    | _, _ => none
  | .cond t x y => match argOf t, trC P ann N x, trC P ann N y with
    | some t, some x, some y => some (.cond t x y)
    | _, _, _ => none
  | .block id c => (trC P ann N c).map (.block id)
  | .loop c => (trC P ann N c).map .loop
  | .exit id => some (.exit id)
  | .ret => some .ret
  | .scope c => trC P ann N c
  | .label _ => some .skip
  | .rangeFunc g ps assign body => match argOf g, trC P ann N assign, trC P ann N body with
    | some x, some y, some z => if ps.toList.all (· < N) then some (.rangeF x ps.toList y z) else none
    | _, _, _ => none
  | _ => none

def Ends (kn : St → Prop) (ke : Nat → St → Prop) (kr : St → Prop) : Exit → St → Prop
  | .normal, s => kn s
  | .exit i, s => ke i s
  | .ret, s => kr s
  | _, _ => False

section
variable {P : Program}

def PostX (C : Ctx P) (Pt : List (Nat × Obj)) (s : St) (ds : List Deferred) (w : World) (A Lx : Area) (sp : Sp) (kn : St → Prop) (ke : Nat → St → Prop) (kr : St → Prop) : Exit → Act → World → Prop := fun e a' w' =>
  ∃ s' A' Lx' sp' Pt', (∀ p ∈ Pt, p ∈ Pt') ∧ GS C Pt' s' a' w' A' Lx' sp' ∧ Ev w A (join (held s sp) Lx) w' A' (join (held s' sp') Lx') ∧ (C.ro.isSome = true → a'.defers = ds) ∧ Ends kn ke kr e s'

def CSound (P : Program) (ann : Ann) (c : Code) : Prop :=
  ∀ (C : Ctx P) (m : MCode) (kn : St → Prop) (ke : Nat → St → Prop) (kr : St → Prop) (Pt : List (Nat × Obj)) (s : St) (a : Act) (w : World) (A Lx : Area) (sp : Sp), C.N ≤ gS → trC P ann C.N c = some m →
    GS C Pt s a w A Lx sp → mwp P m kn ke kr s → c.wpIn (Fw C.ro) 0 P (PostX C Pt s a.defers w A Lx sp kn ke kr) a w

theorem stepR_scope {b : Frame} {a : Act} {k : List Item} {cs : List Frame} {w : World} {c : Code} : step P (lone (b.atR a (.code (.scope c) :: k)) cs w) = .next (lone (b.atR a (.code c :: .inScope c :: k)) cs w) :=
  step_lone_go (by simp [stepG, stepG.exec, Frame.atR])
theorem stepR_inScope {b : Frame} {a : Act} {k : List Item} {cs : List Frame} {w : World} {c : Code} : step P (lone (b.atR a (.inScope c :: k)) cs w) = .next (lone (b.atR a k) cs w) :=
  step_lone_go (by simp [stepG, stepG.exec, Frame.atR])

/-- A scope through which the run goes without a goto. -/
theorem wpIn_scope {F : Fence} {n : Nat} {Q : Exit → Act → World → Prop} {a : Act} {w : World} {c : Code} (hQ : ∀ l a w, ¬ Q (.goto l) a w) (h : c.wpIn F n P Q a w) : (Code.scope c).wpIn F n P Q a w := by
  intro b k cs hro hb hr
  have h0 : (lone (b.atR a (.code (.scope c) :: k)) cs w).fenced P F := fenced_calm hb hr rfl
  obtain ⟨e, a₁, w₁, hq, harr⟩ := h b (.inScope c :: k) cs hro hb hr
  cases e with
  | normal => exact ⟨.normal, a₁, w₁, hq, .head h0 stepR_scope (StepsIn.trans harr (.one (fenced_calm hb hr rfl) stepR_inScope))⟩
  | exit id =>
    have hx : exitTo id (.inScope c :: k) = exitTo id k := by simp [exitTo]
    exact ⟨.exit id, a₁, w₁, hq, fun k' hk => .head h0 stepR_scope (harr.1 k' (by rw [hx]; exact hk)), fun hr' hk => let ⟨k₁, h1, h2⟩ := harr.2 hr' (by rw [hx]; exact hk); ⟨k₁, h1, .head h0 stepR_scope h2⟩⟩
  | goto l => exact absurd hq (hQ l _ _)
  | ret => exact ⟨_, a₁, w₁, hq, .of_steps (.one h0 stepR_scope) harr⟩
  | panic ch => exact ⟨_, a₁, w₁, hq, .of_steps (.one h0 stepR_scope) harr⟩
  | outgrown => exact ⟨_, a₁, w₁, hq, .of_steps (.one h0 stepR_scope) harr⟩

/-- The record of a loop. -/
abbrev mkRec (fn : FuncId) (t0 : Array Value) (ps : Array Tmp) (assign body : Code) (dl : Nat) (st : LoopState) (pe : Option Code) : Loop :=
  { state := st, pending := pe, fn, tmps := t0, params := ps, assign, body, defers := dl }

/-- What the party that loops holds while the iterator runs. -/
def LoopX (C : Ctx P) (s0 : St) (t0 : Array Value) (ds0 : List Deferred) (l : Nat) (rc : LoopState → Option Code → Loop) (Pm : List (Nat × Obj)) (xs : List (List AV)) (I : Nat → St → Prop) (ke : Nat → St → Prop) (kr : St → Prop) :
    AV → World → Area → Area → Prop
  | .ghost l' rest false, w, A, L => l' = l ∧ ∃ k, k ≤ xs.length ∧ rest = xs.drop k ∧ ∃ st sp Lx, GS C ((l, .loop (rc .ready none)) :: Pm) st ⟨t0, ds0⟩ w A Lx sp ∧ st = back s0 st ∧ I k st ∧
      L = full st sp Lx ((l, .loop (rc .ready none)) :: Pm)
  | .ghost l' _ true, w, A, L => l' = l ∧ ∃ c st sp Lx, GS C ((l, .loop (rc .done (some c))) :: Pm) st ⟨t0, ds0⟩ w A Lx sp ∧ st = back s0 st ∧ ((∃ i, c = .exit i ∧ ke i st) ∨ (c = .ret ∧ kr st)) ∧
      L = full st sp Lx ((l, .loop (rc .done (some c))) :: Pm)
  | _, _, _, _ => False

theorem loop_st {C : Ctx P} {s0 : St} {t0 : Array Value} {ds0 : List Deferred} {l : Nat} {rc : LoopState → Option Code → Loop} {Pm : List (Nat × Obj)} {xs : List (List AV)} {I : Nat → St → Prop} {ke : Nat → St → Prop} {kr : St → Prop} :
    StLaw (LoopX C s0 t0 ds0 l rc Pm xs I ke kr) := by
  intro gh w w' A A' L hx hk
  unfold LoopX at hx ⊢
  split at hx
  · obtain ⟨h1, k, h2, h3, st, sp, Lx, h4, h5, h6, rfl⟩ := hx
    exact ⟨h1, k, h2, h3, st, sp, Lx, h4.keep hk (fun _ _ h => .inl (.inl h)) (fun _ _ h => .inl (.inr h)) (fun p hp _ => .inr ⟨p, hp, rfl⟩), h5, h6, rfl⟩
  · obtain ⟨h1, c, st, sp, Lx, h4, h5, h6, rfl⟩ := hx
    exact ⟨h1, c, st, sp, Lx, h4.keep hk (fun _ _ h => .inl (.inl h)) (fun _ _ h => .inl (.inr h)) (fun p hp _ => .inr ⟨p, hp, rfl⟩), h5, h6, rfl⟩
  · exact hx.elim

theorem full_congr (s : St) (sp : Sp) (Lx : Area) (l : Nat) (o o' : Obj) (Pm : List (Nat × Obj)) : full s sp Lx ((l, o) :: Pm) = full s sp Lx ((l, o') :: Pm) := by
  simp [full]

/-- ONE ROUND. -/
theorem loop_yl {ann : Ann} {assign body : Code} (ihA : CSound P ann assign) (ihB : CSound P ann body) {C : Ctx P} {s0 : St} {t0 : Array Value} {ds0 : List Deferred} {l : Nat} {fn : FuncId} {ps : Array Tmp} {dl : Nat} {Pm : List (Nat × Obj)}
    {xs : List (List AV)} {I : Nat → St → Prop} {ke : Nat → St → Prop} {kr : St → Prop} {ma mb : MCode} (hCN : C.N ≤ gS) (hma : trC P ann C.N assign = some ma) (hmb : trC P ann C.N body = some mb) (hps : ∀ p ∈ ps.toList, p < C.N)
    (hne : ∀ p ∈ Pm, p.1 ≠ l) (hlen : ∀ y ∈ xs, y.length = ps.toList.length)
    (hdf : ∀ d ∈ ds0, ∃ D, C.B ≤ D ∧ d = ⟨.collected D, #[]⟩ ∧ (D, .deferred (some [])) ∈ Pm) (hro : ∀ l, C.ro = some l → ∃ r, (l, .loop r) ∈ Pm) (hdn : (ds0.map (·.target)).Nodup)
    (hround : ∀ k st, k < xs.length → st = back s0 st → I k st → mwp P ma (mwp P mb (fun s2 => I (k + 1) (back s0 s2)) (fun i s2 => ke i (back s0 s2)) (fun s2 => kr (back s0 s2))) (fun _ _ => False) (fun _ => False) (params st ps.toList (xs.getD k []))) :
    YLaw P (LoopX C s0 t0 ds0 l (mkRec fn t0 ps assign body dl) Pm xs I ke kr) := by
  intro l' y rest w A L vs hx hlt hav hs hr
  obtain ⟨rfl, k, hk, hrest, st, sp, Lx, hG, hst, hI, rfl⟩ := hx
  have hk' : k < xs.length := by
    rcases Nat.lt_or_ge k xs.length with h | h
    · exact h
    · rw [List.drop_of_length_le h] at hrest; cases hrest
  rw [List.drop_eq_getElem_cons hk'] at hrest
  injection hrest with hy hrest
  have hyk : xs.getD k [] = y := by rw [List.getD_eq_getElem?_getD, List.getElem?_eq_getElem hk', hy]; rfl
  have hylen : y.length = ps.toList.length := hlen y (by rw [hy]; exact List.getElem_mem _)
  have hl := (hG.pt _ (List.mem_cons_self ..)).1
  simp only at hl
  refine ⟨fn, _, assign, body, run_yield hl (by simp [hs, hylen]), roundIn_of_wpIn trivial ?_⟩
  let C' : Ctx P := { C with ro := some l' }
  have hzip : (ps.zip vs).foldl (fun tmps (x : Tmp × Value) => match x with | (t, a) => tmps.setIfInBounds t a) t0 = (ps.toList.zip vs.toList).foldl (fun t (p, v) => t.setIfInBounds p v) t0 := by
    rw [← Array.foldl_toList, Array.toList_zip]
  have hG' : GS C' ((l', .loop (mkRec fn t0 ps assign body dl .ready none)) :: Pm) (params st ps.toList y) ⟨(ps.zip vs).foldl (fun tmps (x : Tmp × Value) => match x with | (t, a) => tmps.setIfInBounds t a) t0, []⟩ w A Lx sp := by
    have hlt' : ∀ p ∈ ps.toList, p < gS := fun p hp => Nat.lt_of_lt_of_le (hps p hp) hCN
    have hg : ∀ k, gS ≤ k → (params st ps.toList y).env k = st.env k := fun k hk => params_g k hk _ _ _ hlt'
    have ho : ∀ b, (params st ps.toList y).env (oS + b) = st.env (oS + b) := fun b => hg _ (by simp only [gS, oS]; omega)
    refine ⟨?_, fun k hk => by rw [hg k hk]; exact hG.ig k hk, hG.lt, by rw [params_held _ _ _ _ hlt']; exact hG.ap, hG.av, by rw [hg gS (Nat.le_refl _)]; exact hG.x, fun p hp => by rw [ho]; exact hG.pt p hp, fun b => by rw [ho]; exact hG.ob b,
      fun b o hb => hG.oa b o (by simp only [objs, ho] at hb; exact hb), hG.bs, List.nodup_nil, by simp, fun l1 e => ?_⟩
    · rw [hzip]
      exact RS.params ps.toList y vs.toList st t0 hG.rs hps hylen.symm (by simpa using hs) (fun i => by have := hr i; simpa [List.getD_eq_getElem?_getD, Array.getD_eq_getD_getElem?] using this)
    · injection e with e; subst e; exact ⟨_, List.mem_cons_self ..⟩
  have hmw := hround k st hk' hst hI
  rw [hyk] at hmw
  refine wpIn_mono (ihA C' ma _ _ _ _ _ _ w A Lx sp hCN hma hG' hmw) ?_
  rintro e a1 w1 ⟨s1, A1, Lx1, sp1, Pt1, hsub, hG1, hev1, hd1, hq⟩
  cases e with
  | normal =>
    have hl1 := (hG1.pt _ (hsub _ (List.mem_cons_self ..))).1
    refine ⟨_, run_beginRound hl1 rfl, ?_⟩
    have hG2 : GS C' ((l', .loop (mkRec fn t0 ps assign body dl .busy none)) :: Pm) s1 a1 (w1.putObj l' (.loop (mkRec fn t0 ps assign body dl .busy none))) A1 Lx1 sp1 := by
      refine hG1.putObj (hsub _ (List.mem_cons_self ..)) (fun p hp => ?_) (fun d hd => by rw [hd1 rfl] at hd; cases hd) (fun l1 e => ?_)
      · rcases List.mem_cons.1 hp with rfl | hp
        · exact .inl ⟨rfl, rfl⟩
        · exact .inr ⟨hsub _ (List.mem_cons_of_mem _ hp), hne p hp⟩
      · injection e with e; subst e; exact ⟨_, List.mem_cons_self ..⟩
    refine wpIn_mono (ihB C' mb _ _ _ _ s1 a1 _ A1 Lx1 sp1 hCN hmb hG2 hq) ?_
    rintro e a3 w3 ⟨s3, A3, Lx3, sp3, Pt3, hsub3, hG3, hev3, hd3, hq3⟩
    have hl3 := (hG3.pt _ (hsub3 _ (List.mem_cons_self ..))).1
    have fin : ∀ jump : Option Code, GS C ((l', .loop (mkRec fn t0 ps assign body dl (if jump.isNone then .ready else .done) jump)) :: Pm) (back s0 s3) ⟨t0, ds0⟩ (w3.putObj l' (.loop (mkRec fn t0 ps assign body dl (if jump.isNone then .ready else .done) jump))) A3 Lx3 sp3 ∧
        Ev w A (full st sp Lx ((l', .loop (mkRec fn t0 ps assign body dl .ready none)) :: Pm)) (w3.putObj l' (.loop (mkRec fn t0 ps assign body dl (if jump.isNone then .ready else .done) jump))) A3
          (full (back s0 s3) sp3 Lx3 ((l', .loop (mkRec fn t0 ps assign body dl (if jump.isNone then .ready else .done) jump)) :: Pm)) := by
      intro jump
      have hG4 : GS C' ((l', .loop (mkRec fn t0 ps assign body dl (if jump.isNone then .ready else .done) jump)) :: Pm) s3 a3 (w3.putObj l' (.loop (mkRec fn t0 ps assign body dl (if jump.isNone then .ready else .done) jump))) A3 Lx3 sp3 := by
        refine hG3.putObj (hsub3 _ (List.mem_cons_self ..)) (fun p hp => ?_) (fun d hd => by rw [hd3 rfl, hd1 rfl] at hd; cases hd) (fun l1 e => ?_)
        · rcases List.mem_cons.1 hp with rfl | hp
          · exact .inl ⟨rfl, rfl⟩
          · exact .inr ⟨hsub3 _ (List.mem_cons_of_mem _ hp), hne p hp⟩
        · injection e with e; subst e; exact ⟨_, List.mem_cons_self ..⟩
      have hEv : Ev w A (full st sp Lx ((l', .loop (mkRec fn t0 ps assign body dl .ready none)) :: Pm)) (w3.putObj l' (.loop (mkRec fn t0 ps assign body dl (if jump.isNone then .ready else .done) jump))) A3
          (full s3 sp3 Lx3 ((l', .loop (mkRec fn t0 ps assign body dl (if jump.isNone then .ready else .done) jump)) :: Pm)) := by
        have e1 := hev1.wider (fun b _ => ∃ p ∈ ((l', Obj.loop (mkRec fn t0 ps assign body dl .ready none)) :: Pm), b = p.1)
        have e2 : Ev w1 A1 _ (w1.putObj l' (.loop (mkRec fn t0 ps assign body dl .busy none))) A1 _ := Ev.putObj w1 A1 (L := join (join (held s1 sp1) Lx1) (fun b _ => ∃ p ∈ ((l', Obj.loop (mkRec fn t0 ps assign body dl .ready none)) :: Pm), b = p.1)) (l := l') _ (fun o => .inr ⟨_, List.mem_cons_self .., rfl⟩)
        have e3 := hev3.wider (fun b _ => ∃ p ∈ ((l', Obj.loop (mkRec fn t0 ps assign body dl .ready none)) :: Pm), b = p.1)
        have e4 : Ev w3 A3 _ (w3.putObj l' (.loop (mkRec fn t0 ps assign body dl (if jump.isNone then .ready else .done) jump))) A3 _ := Ev.putObj w3 A3 (L := join (join (held s3 sp3) Lx3) (fun b _ => ∃ p ∈ ((l', Obj.loop (mkRec fn t0 ps assign body dl .ready none)) :: Pm), b = p.1)) (l := l') _ (fun o => .inr ⟨_, List.mem_cons_self .., rfl⟩)
        rw [params_held _ _ _ _ (fun p hp => Nat.lt_of_lt_of_le (hps p hp) hCN)] at e1
        have e5 := ((e1.trans e2).trans e3).trans e4
        rw [full_congr s3 sp3 Lx3 l' _ (.loop (mkRec fn t0 ps assign body dl .ready none))]
        exact e5
      have hbf : full (back s0 s3) sp3 Lx3 ((l', .loop (mkRec fn t0 ps assign body dl (if jump.isNone then .ready else .done) jump)) :: Pm) = full s3 sp3 Lx3 ((l', .loop (mkRec fn t0 ps assign body dl (if jump.isNone then .ready else .done) jump)) :: Pm) := by
        unfold full; rw [back_own]
      rw [hbf]
      refine ⟨⟨hG.rs.back hst hG4.rs (fun b o v ha hv => ⟨(hEv.cell b o (hG.full_av ha).1 (hG.full_av ha).2).1.trans hv, hEv.sub b o ha⟩) hG4.ig, fun k hk => by rw [back_g _ _ hk]; exact hG4.ig k hk, hG4.lt, by rw [back_own]; exact hG4.ap, hG4.av, by rw [back_g _ _ (Nat.le_refl _)]; exact hG4.x, fun p hp => by rw [back_o]; exact hG4.pt p hp, fun b => by rw [back_o]; exact hG4.ob b, by rw [back_objs]; exact hG4.oa, hG4.bs, hdn, fun d hd => ?_, fun l1 e => ?_⟩, hEv⟩
      · obtain ⟨D, d1, d2, d3⟩ := hdf d hd
        exact ⟨D, d1, d2, List.mem_cons_of_mem _ d3⟩
      · obtain ⟨r, hr⟩ := hro l1 e
        exact ⟨r, List.mem_cons_of_mem _ hr⟩
    have hbb : back s0 s3 = back s0 (back s0 s3) := (back_back s0 s0 s3).symm
    cases e with
    | normal =>
      obtain ⟨f1, f2⟩ := fin none
      exact ⟨_, _, run_endRound none hl3, true, A3, _, rfl, f2, fun b o => f1.full_lt, fun b o => f1.full_av, rfl, k + 1, hk', hrest, back s0 s3, sp3, Lx3, f1, hbb, hq3, rfl⟩
    | exit i =>
      obtain ⟨f1, f2⟩ := fin (some (.exit i))
      exact ⟨_, _, run_endRound (some (.exit i)) hl3, false, A3, _, rfl, f2, fun b o => f1.full_lt, fun b o => f1.full_av, rfl, .exit i, back s0 s3, sp3, Lx3, f1, hbb, .inl ⟨i, rfl, hq3⟩, rfl⟩
    | ret =>
      obtain ⟨f1, f2⟩ := fin (some .ret)
      exact ⟨_, _, run_endRound (some .ret) hl3, false, A3, _, rfl, f2, fun b o => f1.full_lt, fun b o => f1.full_av, rfl, .ret, back s0 s3, sp3, Lx3, f1, hbb, .inr ⟨rfl, hq3⟩, rfl⟩
    | goto t => exact hq3.elim
    | panic ch => exact hq3.elim
    | outgrown => exact hq3.elim
  | exit i => exact hq.elim
  | ret => exact hq.elim
  | goto t => exact hq.elim
  | panic ch => exact hq.elim
  | outgrown => exact hq.elim

/-- Blocks that lie as they lay need not be spoken of. -/
theorem GS.evDrop {C : Ctx P} {Pt Pt' : List (Nat × Obj)} {s s' : St} {a a' : Act} {w w' : World} {A A' Lx Lx' : Area} {sp sp' : Sp} (h : GS C Pt s a w A Lx sp) (h' : GS C Pt' s' a' w' A' Lx' sp')
    (hsub : ∀ p ∈ Pt, p ∈ Pt') (hev : Ev w A (full s sp Lx Pt) w' A' (full s' sp' Lx' Pt')) : Ev w A (join (held s sp) Lx) w' A' (join (held s' sp') Lx') := by
  refine ⟨hev.os, hev.tape, hev.output, hev.size, fun b o hb hl => ?_, fun b hb hl => ?_, hev.sub, fun b o ha => ?_⟩
  · by_cases hT : ∃ p ∈ Pt, b = p.1
    · obtain ⟨p, hp, rfl⟩ := hT
      obtain ⟨g1, g2, _⟩ := h.pt p hp
      obtain ⟨g3, _, g4, _⟩ := h'.pt p (hsub p hp)
      exact ⟨by rw [no_cell g1 g2, no_cell g3 g2], fun hj => by rcases hj with hj | hj; exact h'.pt_dead (hsub p hp) o hj; exact g4 o hj⟩
    · obtain ⟨g1, g2⟩ := hev.cell b o hb (fun hf => by rcases hf with hf | hf; exact hl hf; exact hT hf)
      exact ⟨g1, fun hj => g2 (.inl hj)⟩
  · by_cases hT : ∃ p ∈ Pt, b = p.1
    · obtain ⟨p, hp, rfl⟩ := hT
      exact (h'.pt p (hsub p hp)).1.trans (h.pt p hp).1.symm
    · exact hev.block b hb fun o hf => by rcases hf with hf | hf; exact hl o hf; exact hT hf
  · rcases hev.sup b o ha with g | g | g
    · exact .inl g
    · rcases g with g | ⟨p, hp, rfl⟩
      · exact .inr (.inl g)
      · exact absurd ha ((h'.pt p (hsub p hp)).2.2.2.1 o)
    · exact .inr (.inr g)
/-- A loop's head: the record is laid. -/
theorem loop_enter {C : Ctx P} {Pt : List (Nat × Obj)} {s : St} {a : Act} {w : World} {A Lx : Area} {sp : Sp} (h : GS C Pt s a w A Lx sp) (fn : FuncId) (ps : Array Tmp) (assign body : Code) :
    ∃ l mark dl Pm w1, (Instr.enterLoop fn a.tmps ps assign body C.ro).run P w = .ok (l, mark) w1 ∧ GS C ((l, .loop (mkRec fn a.tmps ps assign body dl .ready none)) :: Pm) s ⟨a.tmps, mark ++ a.defers⟩ w1 A Lx sp ∧
      (∀ p ∈ Pm, p.1 ≠ l) ∧ (∀ p ∈ Pt, p ∈ Pm) ∧ (∀ d ∈ mark ++ a.defers, ∃ D, C.B ≤ D ∧ d = ⟨.collected D, #[]⟩ ∧ (D, .deferred (some [])) ∈ Pm) ∧ (C.ro.isSome = true → mark = []) ∧ (∀ l, C.ro = some l → ∃ r, (l, .loop r) ∈ Pm) ∧
      Ev w A (full s sp Lx Pt) w1 A (full s sp Lx ((l, .loop (mkRec fn a.tmps ps assign body dl .ready none)) :: Pm)) := by
  cases hro : C.ro with
  | none =>
    refine ⟨w.heap.size + 1, [{ target := .collected w.heap.size, args := #[] }], w.heap.size, (w.heap.size, .deferred (some [])) :: Pt, _, run_enterLoop_outer fn a.tmps ps assign body, ?_, ?_, fun p hp => List.mem_cons_of_mem _ hp, ?_, fun e => by simp at e, fun l e => by simp at e, ?_⟩
    · have h1 := h.lay (ob := .deferred (some [])) rfl
      have h2 := h1.lay (ob := .loop (mkRec fn a.tmps ps assign body w.heap.size .ready none)) rfl
      rw [alloc_size] at h2
      refine ⟨h2.rs, h2.ig, h2.lt, h2.ap, h2.av, h2.x, h2.pt, h2.ob, h2.oa, h2.bs, ?_, fun d hd => ?_, h2.ro⟩
      · simp only [List.cons_append, List.nil_append, List.map_cons]
        refine List.nodup_cons.2 ⟨fun hm => ?_, h.dn⟩
        obtain ⟨d, hd, e⟩ := List.mem_map.1 hm
        obtain ⟨D, d1, d2, d3⟩ := h.df d hd
        rw [d2] at e
        injection e with e
        subst e
        exact absurd (lt_of_heap (h.pt _ d3).1) (Nat.lt_irrefl _)
      · rcases List.mem_cons.1 hd with rfl | hd
        · exact ⟨_, h.bs, rfl, List.mem_cons_of_mem _ (List.mem_cons_self ..)⟩
        · obtain ⟨D, d1, d2, d3⟩ := h.df d hd
          exact ⟨D, d1, d2, List.mem_cons_of_mem _ (List.mem_cons_of_mem _ d3)⟩
    · intro p hp
      rcases List.mem_cons.1 hp with rfl | hp
      · simp
      · have := lt_of_heap (h.pt p hp).1; omega
    · intro d hd
      rcases List.mem_cons.1 hd with rfl | hd
      · exact ⟨_, h.bs, rfl, List.mem_cons_self ..⟩
      · obtain ⟨D, d1, d2, d3⟩ := h.df d hd
        exact ⟨D, d1, d2, List.mem_cons_of_mem _ d3⟩
    · have e1 := h.evAlloc (.deferred (some [])) (full s sp Lx Pt) (fun b o hl => h.full_lt hl) (full s sp Lx ((w.heap.size, .deferred (some [])) :: Pt)) (fun b o ht => by
        rcases ht with ht | ⟨p, hp, rfl⟩
        · exact .inl (.inl ht)
        · rcases List.mem_cons.1 hp with rfl | hp
          · exact .inr rfl
          · exact .inl (.inr ⟨p, hp, rfl⟩))
      have h1 := h.lay (ob := .deferred (some [])) rfl
      have e2 := h1.evAlloc (.loop (mkRec fn a.tmps ps assign body w.heap.size .ready none)) (full s sp Lx ((w.heap.size, .deferred (some [])) :: Pt)) (fun b o hl => h1.full_lt hl)
        (full s sp Lx ((w.heap.size + 1, .loop (mkRec fn a.tmps ps assign body w.heap.size .ready none)) :: (w.heap.size, .deferred (some [])) :: Pt)) (fun b o ht => by
        rcases ht with ht | ⟨p, hp, rfl⟩
        · exact .inl (.inl ht)
        · rcases List.mem_cons.1 hp with rfl | hp
          · exact .inr (by rw [alloc_size])
          · exact .inl (.inr ⟨p, hp, rfl⟩))
      exact e1.trans e2
  | some l0 =>
    obtain ⟨r0, hr0⟩ := h.ro l0 hro
    refine ⟨w.heap.size, [], r0.defers, Pt, _, run_enterLoop_inner (h.pt _ hr0).1 fn a.tmps ps assign body, ?_, ?_, fun p hp => hp, h.df, fun _ => rfl, fun l e => by injection e with e; subst e; exact ⟨r0, hr0⟩, ?_⟩
    · exact h.lay rfl
    · intro p hp
      have := lt_of_heap (h.pt p hp).1; omega
    · exact h.evAlloc _ (full s sp Lx Pt) (fun b o hl => h.full_lt hl) _ (fun b o ht => by
        rcases ht with ht | ⟨p, hp, rfl⟩
        · exact .inl (.inl ht)
        · rcases List.mem_cons.1 hp with rfl | hp
          · exact .inr rfl
          · exact .inl (.inr ⟨p, hp, rfl⟩))

theorem code_sound {ann : Ann} : ∀ c : Code, CSound P ann c := by
  intro c
  induction c with
  | skip =>
    intro C m kn ke kr Pt s a w A Lx sp hCN hm h hv
    injection hm with hm; subst hm
    exact wpIn_skip ⟨s, A, Lx, sp, Pt, fun _ h => h, h, .refl _ _ _, fun _ => rfl, hv⟩
  | label l =>
    intro C m kn ke kr Pt s a w A Lx sp hCN hm h hv
    injection hm with hm; subst hm
    exact wpIn_label ⟨s, A, Lx, sp, Pt, fun _ h => h, h, .refl _ _ _, fun _ => rfl, hv⟩
  | scope c ih =>
    intro C m kn ke kr Pt s a w A Lx sp hCN hm h hv
    exact wpIn_scope (fun l a w hq => by obtain ⟨_, _, _, _, _, _, _, _, _, hq⟩ := hq; exact hq.elim) (ih C m kn ke kr Pt s a w A Lx sp hCN hm h hv)
  | region id ops draw =>
    intro C m kn ke kr Pt s a w A Lx sp hCN hm h hv
    have fin : ∀ s' a' w' A' Lx' sp', vcs P ((fzs ann C.N id).map .frz) kn s' → GS C Pt s' a' w' A' Lx' sp' → Ev w A (join (held s sp) Lx) w' A' (join (held s' sp') Lx') → a'.defers = a.defers → PostX C Pt s a.defers w A Lx sp kn ke kr .normal a' w' := by
      intro s' a' w' A' Lx' sp' hk hr hev hd
      obtain ⟨s2, A2, g1, g2, g3⟩ := frzs_sound (fzs ann C.N id) (fzs_lt hCN) hr hk
      exact ⟨s2, A2, Lx', sp', Pt, fun _ h => h, g2, hev.trans g3, fun _ => hd, g1⟩
    cases draw with
    | true =>
      simp only [trC, Option.map_eq_some_iff] at hm
      obtain ⟨ms, hms, rfl⟩ := hm
      simp only [mwp, vcs_append] at hv
      exact xdraw_sound (up_draw ann C.N) hCN hms h hv fin
    | false =>
      simp only [trC, Option.map_eq_some_iff] at hm
      obtain ⟨ms, hms, rfl⟩ := hm
      simp only [mwp, vcs_append] at hv
      exact wpIn_region_list (xlist_sound (up_list ann C.N) hCN ops.toList ms s a w A Lx sp hms h hv fin)
  | seq x y ihx ihy =>
    intro C m kn ke kr Pt s a w A Lx sp hCN hm h hv
    simp only [trC] at hm
    split at hm
    · rename_i mx my h1 h2
      injection hm with hm; subst hm
      refine wpIn_seq (wpIn_mono (ihx C mx _ ke kr Pt s a w A Lx sp hCN h1 h hv) ?_)
      rintro e a' w' ⟨s', A', Lx', sp', Pt', hsub, hr, hev, hd, hq⟩
      cases e with
      | normal =>
        refine wpIn_mono (ihy C my kn ke kr Pt' s' a' w' A' Lx' sp' hCN h2 hr hq) ?_
        rintro e a2 w2 ⟨s2, A2, Lx2, sp2, Pt2, hsub2, hr2, hev2, hd2, hq2⟩
        exact ⟨s2, A2, Lx2, sp2, Pt2, fun p hp => hsub2 p (hsub p hp), hr2, hev.trans hev2, fun e => (hd2 e).trans (hd e), hq2⟩
      | exit i => exact ⟨s', A', Lx', sp', Pt', hsub, hr, hev, hd, hq⟩
      | ret => exact ⟨s', A', Lx', sp', Pt', hsub, hr, hev, hd, hq⟩
      | goto l => exact hq.elim
      | panic ch => exact hq.elim
      | outgrown => exact hq.elim
    · cases hm
  | cond t x y ihx ihy =>
    intro C m kn ke kr Pt s a w A Lx sp hCN hm h hv
    simp only [trC] at hm
    split at hm
    · rename_i t' mx my ht h1 h2
      injection hm with hm; subst hm
      have h3 := (argOf_sound h.rs ht).1
      simp only [mwp] at hv
      split at hv
      · rename_i b hb
        rw [hb] at h3
        have hbv : a.eval t = .bool b := h3.inv_bool
        cases b with
        | true => exact wpIn_cond_true hbv (ihx C mx kn ke kr Pt s a w A Lx sp hCN h1 h (hv.1 rfl))
        | false => exact wpIn_cond_false hbv (ihy C my kn ke kr Pt s a w A Lx sp hCN h2 h (hv.2 rfl))
      · exact hv.elim
    · cases hm
  | block id c ih =>
    intro C m kn ke kr Pt s a w A Lx sp hCN hm h hv
    simp only [trC, Option.map_eq_some_iff] at hm
    obtain ⟨mc, hmc, rfl⟩ := hm
    refine wpIn_block (wpIn_mono (ih C mc kn _ kr Pt s a w A Lx sp hCN hmc h hv) ?_)
    rintro e a' w' ⟨s', A', Lx', sp', Pt', hsub, hr, hev, hd, hq⟩
    cases e with
    | normal => exact ⟨s', A', Lx', sp', Pt', hsub, hr, hev, hd, hq⟩
    | exit i =>
      simp only [Exit.inBlock]
      simp only [Ends] at hq
      split at hq
      · rename_i e; rw [if_pos e]; exact ⟨s', A', Lx', sp', Pt', hsub, hr, hev, hd, hq⟩
      · rename_i e; rw [if_neg e]; exact ⟨s', A', Lx', sp', Pt', hsub, hr, hev, hd, hq⟩
    | ret => exact ⟨s', A', Lx', sp', Pt', hsub, hr, hev, hd, hq⟩
    | goto l => exact hq.elim
    | panic ch => exact hq.elim
    | outgrown => exact hq.elim
  | loop c ih =>
    intro C m kn ke kr Pt s a w A Lx sp hCN hm h hv
    simp only [trC, Option.map_eq_some_iff] at hm
    obtain ⟨mc, hmc, rfl⟩ := hm
    obtain ⟨I, ⟨n1, s1, hent, hI⟩, hround⟩ := hv
    have entS : ∀ {Pt : List (Nat × Obj)} {s s1 : St} {a : Act} {w : World} {A Lx : Area} {sp : Sp}, Ent s s1 → GS C Pt s a w A Lx sp → ∃ A1 sp1, GS C Pt s1 a w A1 Lx sp1 ∧ Ev w A (join (held s sp) Lx) w A1 (join (held s1 sp1) Lx) := by
      intro Pt s s1 a w A Lx sp he hg
      obtain ⟨A1, sp1, g1, g2⟩ := he.2 C.N ⟨a.tmps, []⟩ w A sp hg.rs
      obtain ⟨g3, g4⟩ := hg.own (a' := a) g1 g2 he.1 rfl
      exact ⟨A1, sp1, g3, g4⟩
    obtain ⟨A1, sp1, hr1, hev1⟩ := entS hent h
    intro b k cs hro hb hroom
    have key : ∀ n s2 a2 w2 A2 Lx2 sp2 Pt2, I n s2 → (∀ p ∈ Pt, p ∈ Pt2) → GS C Pt2 s2 a2 w2 A2 Lx2 sp2 → Ev w A (join (held s sp) Lx) w2 A2 (join (held s2 sp2) Lx2) → (C.ro.isSome = true → a2.defers = a.defers) →
        ∃ e a' w', PostX C Pt s a.defers w A Lx sp kn ke kr e a' w' ∧ ArrivesIn (Machine.fenced P (Fw C.ro)) P (lone (b.atR a2 (.code c :: .inLoop c :: k)) cs w2) b k cs e a' w' := by
      intro n
      induction n using Nat.strongRecOn with
      | _ n ihn =>
        intro s2 a2 w2 A2 Lx2 sp2 Pt2 hI2 hsub2 hr2 hev2 hd2
        obtain ⟨e, a3, w3, ⟨s3, A3, Lx3, sp3, Pt3, hsub3, hr3, hev3, hd3, hq3⟩, harr⟩ := ih C mc _ ke kr Pt2 s2 a2 w2 A2 Lx2 sp2 hCN hmc hr2 (hround n s2 hI2) b (.inLoop c :: k) cs hro hb hroom
        cases e with
        | normal =>
          obtain ⟨n4, s4, hlt, hent4, hI4⟩ := hq3
          obtain ⟨A4, sp4, hr4, hev4⟩ := entS hent4 hr3
          obtain ⟨e5, a5, w5, hq5, harr5⟩ := ihn n4 hlt s4 a3 w3 A4 Lx3 sp4 Pt3 hI4 (fun p hp => hsub3 p (hsub2 p hp)) hr4 ((hev2.trans hev3).trans hev4) (fun e => (hd3 e).trans (hd2 e))
          exact ⟨e5, a5, w5, hq5, .of_steps (StepsIn.trans harr (.one (fenced_calm hb hroom rfl) stepR_inLoop)) harr5⟩
        | exit id => exact ⟨.exit id, a3, w3, ⟨s3, A3, Lx3, sp3, Pt3, fun p hp => hsub3 p (hsub2 p hp), hr3, hev2.trans hev3, fun e => (hd3 e).trans (hd2 e), hq3⟩, .pass (x := .inLoop c) rfl (fun _ _ => .inl (by simp)) harr⟩
        | ret => exact ⟨.ret, a3, w3, ⟨s3, A3, Lx3, sp3, Pt3, fun p hp => hsub3 p (hsub2 p hp), hr3, hev2.trans hev3, fun e => (hd3 e).trans (hd2 e), hq3⟩, .pass (x := .inLoop c) rfl (fun _ _ => .inl (by simp)) harr⟩
        | goto l => exact hq3.elim
        | panic ch => exact hq3.elim
        | outgrown => exact hq3.elim
    obtain ⟨e, a', w', hq, harr⟩ := key n1 s1 a w A1 Lx sp1 Pt hI (fun _ h => h) hr1 hev1 (fun _ => rfl)
    exact ⟨e, a', w', hq, .of_steps (.one (fenced_calm hb hroom rfl) stepR_loop) harr⟩
  | exit id =>
    intro C m kn ke kr Pt s a w A Lx sp hCN hm h hv
    injection hm with hm; subst hm
    exact wpIn_exit ⟨s, A, Lx, sp, Pt, fun _ h => h, h, .refl _ _ _, fun _ => rfl, hv⟩
  | ret =>
    intro C m kn ke kr Pt s a w A Lx sp hCN hm h hv
    injection hm with hm; subst hm
    exact wpIn_ret ⟨s, A, Lx, sp, Pt, fun _ h => h, h, .refl _ _ _, fun _ => rfl, hv⟩
  | rangeFunc g ps assign body ihA ihB =>
    intro C m kn ke kr Pt s a w A Lx sp hCN hm h hv
    simp only [trC] at hm
    split at hm
    · rename_i x ma mb ht hma hmb
      split at hm
      · rename_i hps
        injection hm with hm; subst hm
        replace hps : ∀ p ∈ ps.toList, p < C.N := fun p hp => by have := (List.all_eq_true.1 hps) p hp; simpa using this
        have hg := (argOf_sound h.rs ht).1
        simp only [mwp] at hv
        split at hv
        · rename_i f first cap e1
          obtain ⟨xs, ⟨hfn, hseq⟩, hlen, I, hI0, hround, hend⟩ := hv
          rw [e1] at hg
          replace hg : RV w A (.func (.func f) first cap) (a.eval g) := hg
          generalize hv0 : a.eval g = v0 at hg
          cases hg with
          | func _ _ _ vf vc hsf hsc hf hc =>
            refine wpIn_rangeFunc fun fn _ => ?_
            obtain ⟨l, mark, dl, Pm, w1, henter, hG1, hne, hsub, hdf, hmk, hro, hev1⟩ := loop_enter h fn ps assign body
            have hcell : ∀ b o v, A b o → w.cell? ⟨b, o, none⟩ = some v → w1.cell? ⟨b, o, none⟩ = some v ∧ A b o := fun b o v ha hv => ⟨(hev1.cell b o (h.full_av ha).1 (h.full_av ha).2).1.trans hv, ha⟩
            refine ⟨l, mark, w1, { target := .fn (.func f) vc, args := vf ++ #[.func (.yield l) #[] #[]] }, w1, f, (vf ++ #[.func (.yield l) #[] #[]]) ++ vc, w1, henter, ?_, fun _ _ => trivial, ?_, fun e => (by cases e), ?_⟩
            · have hgg : Act.eval a g = .func (.func f) vf vc := hv0
              simp only [resolve, hgg]
              simp [go_sem, Deferred.ofValue]
            · simp only [invoke]
              exact callFunc_enter hfn _ _
            · have hG0 : GS C ((l, .loop (mkRec fn a.tmps ps assign body dl .ready none)) :: Pm) (back s s) ⟨a.tmps, mark ++ a.defers⟩ w1 A Lx sp :=
                ⟨hG1.rs.forget, fun k hk => by rw [back_g _ _ hk]; exact hG1.ig k hk, hG1.lt, by rw [back_own]; exact hG1.ap, hG1.av, by rw [back_g _ _ (Nat.le_refl _)]; exact hG1.x, fun p hp => by rw [back_o]; exact hG1.pt p hp, fun b => by rw [back_o]; exact hG1.ob b, by rw [back_objs]; exact hG1.oa, hG1.bs, hG1.dn, hG1.df, hG1.ro⟩
              refine callsIn_fw (Calls.mono (hseq (LoopX C s a.tmps (mark ++ a.defers) l (mkRec fn a.tmps ps assign body dl) Pm xs I ke kr) l w1 A (full (back s s) sp Lx ((l, .loop (mkRec fn a.tmps ps assign body dl .ready none)) :: Pm)) _ loop_st
                (loop_yl ihA ihB hCN hma hmb hps hne hlen hdf hro hG1.dn hround) (fun b o => hG0.full_lt) (fun b o => hG0.full_av) (by simp only [Array.size_append, List.length_append, hsf, hsc]; rfl) (fun i => ?_) ⟨rfl, 0, Nat.zero_le _, rfl, back s s, sp, Lx, hG0, (back_back s s s).symm, hI0, rfl⟩) ?_)
              · have hy : RV w1 A (AV.func (.yield l) [] []) (.func (.yield l) #[] #[]) := .func _ _ _ _ _ rfl rfl (fun i => by simp; exact .any _) (fun i => by simp; exact .any _)
                have e2 := getD_append3 vf.toList [Value.func (.yield l) #[] #[]] vc.toList i undef
                have e3 := getD_append3 first [AV.func (.yield l) [] []] cap i .any
                have e4 : ((vf ++ #[Value.func (.yield l) #[] #[]]) ++ vc).getD i undef = (vf.toList ++ [Value.func (.yield l) #[] #[]] ++ vc.toList).getD i undef := by
                  simp only [List.getD_eq_getElem?_getD, Array.getD_eq_getD_getElem?, ← Array.getElem?_toList, Array.toList_append]
                rw [e4, e2, e3]
                simp only [Array.length_toList, hsf, List.length_singleton]
                split
                · have := (hf i).mono hcell
                  simpa [List.getD_eq_getElem?_getD, Array.getD_eq_getD_getElem?] using this
                · split
                  · rename_i h1 h2
                    have h0 : i - first.length = 0 := by omega
                    rw [h0]; exact hy
                  · have := (hc (i - first.length - 1)).mono hcell
                    simpa [List.getD_eq_getElem?_getD, Array.getD_eq_getD_getElem?] using this
              · rintro e w3 ⟨v, A3, L3, rest, b, rfl, hev3, hlt3, hav3, hX3, hb⟩
                cases b with
                | false =>
                  obtain ⟨-, k, hk, hrest, st, sp3, Lx3, hG3, hst, hI3, rfl⟩ := hX3
                  have hr0 : rest = [] := hb.resolve_left (by simp)
                  have hkx : k = xs.length := by
                    rw [hr0] at hrest
                    have := congrArg List.length hrest
                    simp at this; omega
                  subst hkx
                  have hl3 := (hG3.pt _ (List.mem_cons_self ..)).1
                  refine ⟨none, _, run_endLoop hl3 (by simp), ?_⟩
                  have hG4 : GS C Pm st ⟨a.tmps, mark ++ a.defers⟩ (w3.putObj l (.loop { mkRec fn a.tmps ps assign body dl .ready none with state := .exhausted })) A3 Lx3 sp3 :=
                    hG3.putObj (List.mem_cons_self ..) (fun p hp => .inr ⟨List.mem_cons_of_mem _ hp, hne p hp⟩) hdf hro
                  have hE : Ev w A (full s sp Lx Pt) (w3.putObj l (.loop { mkRec fn a.tmps ps assign body dl .ready none with state := .exhausted })) A3 (full st sp3 Lx3 Pm) := by
                    have q1 : Ev w1 A (full s sp Lx ((l, .loop (mkRec fn a.tmps ps assign body dl .ready none)) :: Pm)) w3 A3 (full st sp3 Lx3 ((l, .loop (mkRec fn a.tmps ps assign body dl .ready none)) :: Pm)) := by
                      have e0 : full (back s s) sp Lx ((l, .loop (mkRec fn a.tmps ps assign body dl .ready none)) :: Pm) = full s sp Lx ((l, .loop (mkRec fn a.tmps ps assign body dl .ready none)) :: Pm) := by unfold full; rw [back_own]
                      rw [← e0]; exact hev3
                    have q2 : Ev w3 A3 _ (w3.putObj l (.loop { mkRec fn a.tmps ps assign body dl .ready none with state := .exhausted })) A3 _ :=
                      Ev.putObj w3 A3 (L := full st sp3 Lx3 ((l, .loop (mkRec fn a.tmps ps assign body dl .ready none)) :: Pm)) _ (fun o => .inr ⟨_, List.mem_cons_self .., rfl⟩)
                    exact ((hev1.trans q1).trans q2).into (fun _ _ h => .inl h) (fun b o _ hm => .inr (by
                      rcases hm with hm | ⟨p, hp, rfl⟩
                      · exact .inl hm
                      · exact .inr ⟨p, List.mem_cons_of_mem _ hp, rfl⟩))
                  exact ⟨st, A3, Lx3, sp3, Pm, hsub, hG4, h.evDrop hG4 hsub hE, fun e => by simp [hmk e], hend st hst hI3⟩
                | true =>
                  obtain ⟨-, c, st, sp3, Lx3, hG3, hst, hc3, rfl⟩ := hX3
                  have hl3 := (hG3.pt _ (List.mem_cons_self ..)).1
                  refine ⟨some c, _, run_endLoop hl3 (by simp), ?_⟩
                  have hG4 : GS C Pm st ⟨a.tmps, mark ++ a.defers⟩ (w3.putObj l (.loop { mkRec fn a.tmps ps assign body dl .done (some c) with state := .exhausted })) A3 Lx3 sp3 :=
                    hG3.putObj (List.mem_cons_self ..) (fun p hp => .inr ⟨List.mem_cons_of_mem _ hp, hne p hp⟩) hdf hro
                  have hE : Ev w A (full s sp Lx Pt) (w3.putObj l (.loop { mkRec fn a.tmps ps assign body dl .done (some c) with state := .exhausted })) A3 (full st sp3 Lx3 Pm) := by
                    have q1 : Ev w1 A (full s sp Lx ((l, .loop (mkRec fn a.tmps ps assign body dl .ready none)) :: Pm)) w3 A3 (full st sp3 Lx3 ((l, .loop (mkRec fn a.tmps ps assign body dl .done (some c))) :: Pm)) := by
                      have e0 : full (back s s) sp Lx ((l, .loop (mkRec fn a.tmps ps assign body dl .ready none)) :: Pm) = full s sp Lx ((l, .loop (mkRec fn a.tmps ps assign body dl .ready none)) :: Pm) := by unfold full; rw [back_own]
                      rw [← e0]; exact hev3
                    have q2 : Ev w3 A3 _ (w3.putObj l (.loop { mkRec fn a.tmps ps assign body dl .done (some c) with state := .exhausted })) A3 _ :=
                      Ev.putObj w3 A3 (L := full st sp3 Lx3 ((l, .loop (mkRec fn a.tmps ps assign body dl .done (some c))) :: Pm)) _ (fun o => .inr ⟨_, List.mem_cons_self .., rfl⟩)
                    exact ((hev1.trans q1).trans q2).into (fun _ _ h => .inl h) (fun b o _ hm => .inr (by
                      rcases hm with hm | ⟨p, hp, rfl⟩
                      · exact .inl hm
                      · exact .inr ⟨p, List.mem_cons_of_mem _ hp, rfl⟩))
                  rcases hc3 with ⟨i, rfl, hq⟩ | ⟨rfl, hq⟩
                  · exact wpIn_exit ⟨st, A3, Lx3, sp3, Pm, hsub, hG4, h.evDrop hG4 hsub hE, fun e => by simp [hmk e], hq⟩
                  · exact wpIn_ret ⟨st, A3, Lx3, sp3, Pm, hsub, hG4, h.evDrop hG4 hsub hE, fun e => by simp [hmk e], hq⟩
        · exact hv.elim
      · cases hm
    · cases hm
  | goto => intro C m kn ke kr Pt s a w A Lx sp hCN hm; cases hm
  | refuse => intro C m kn ke kr Pt s a w A Lx sp hCN hm; cases hm
end

end Go.Avm
