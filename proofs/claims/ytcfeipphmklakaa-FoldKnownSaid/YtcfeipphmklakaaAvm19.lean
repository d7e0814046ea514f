/- Regions inside the fence, with yields. -/
import Derived.Test.YtcfeipphmklakaaAvm18c
namespace Go.Avm
open Go.RowKit

section
variable {P : Program} {C : Ctx P} {Pt : List (Nat × Obj)} {s : St} {a : Act} {w : World} {A Lx : Area} {sp : Sp}

theorem yld_step {o : Oper} {d : Nat} {t : Tmp} {xs : Array Operand} {ts : Array TypeId} {ms : List MArg} {K : St → Prop} {rest : Act → World → Prop} {Q : Exit → Act → World → Prop}
    (h : GS C Pt s a w A Lx sp) (hCN : C.N ≤ gS) (hop : o.op = .call { callee := .value (.tmp t), args := xs, argTypes := ts }) (hd : o.dst = some d) (hN : d < C.N)
    (hx : argsOfT P xs.toList ts.toList = some ms) (hv : vc1 P (.yld d (.t t) ms) s K) (hn : Goes C Pt s w A Lx sp a.defers K rest) : o.wpIn (Fw C.ro) 0 P a w rest Q := by
  obtain ⟨a1, a2⟩ := argsT_sound h.rs hx
  have h1 := (h.rs.env t).1
  simp only [vc1] at hv
  split at hv
  · rename_i l l' y rs e1 e2
    obtain ⟨rfl, hy, hk1, hk2⟩ := hv
    replace e1 : s.env t = .func (.yield l) [] [] := e1
    rw [e1] at h1
    have hx0 := h.x
    rw [e2] at hx0
    have hev : (⟨a.tmps, []⟩ : Act).eval = a.eval := rfl
    rw [hev] at a2
    obtain ⟨fn, tmps, assign, body, hrun, hround⟩ := C.yl l y rs w A Lx (xs.map a.eval) hx0 h.lt (fun b o ha => ⟨(h.rs.av b o ha).1, h.av b o ha⟩) (by rw [← hy]; simp [a1]) (fun i => by
      rw [← hy]
      have := a2 i
      simpa [List.getD_eq_getElem?_getD, Array.getD_eq_getD_getElem?] using this)
    replace h1 : RV w A (.func (.yield l) [] []) (a.tmps.getD t undef) := h1
    generalize hv0 : a.tmps.getD t undef = v0 at h1
    cases h1 with
    | func _ _ _ vf vc hsf hsc hf hc =>
      have hf0 : vf = #[] := Array.eq_empty_of_size_eq_zero (by simpa using hsf)
      subst hf0
      have hrun2 : (Oper.semAt C.ro a.eval o).run P w = .ok (.round l fn tmps assign body) w := by
        rw [Oper.semAt_eq _ _ _ (by rw [hop]; intro c e; cases e)]
        rw [← hrun]
        simp [execOp, hop, resolve, Act.eval, hv0, Deferred.ofValue, invoke]
      refine ⟨fun _ _ => trivial, ?_⟩
      rw [hrun2, Oper.uponIn_round]
      refine ⟨fun e => (by cases e), ?_⟩
      refine RoundIn.mono (F := Fw none) (n := 0) hround ?_
      rintro e w' ⟨b, A', Lx', rfl, hev', hlt', hav', hX'⟩
      obtain ⟨g1, g2⟩ := h.other (gh := .ghost l rs (!b)) rfl hev' hlt' hav' hX'
      rw [hd]
      have hdg : d < gS := Nat.lt_of_lt_of_le hN hCN
      have hoo : held ((s.set gS (.ghost l rs (!b))).set d (.lit (.bool b))) sp = held (s.set gS (.ghost l rs (!b))) sp := held_set hdg _ _
      refine hn _ _ _ _ _ _ ?_ (g1.put hN hdg (.lit (.bool b) rfl) trivial) (by rw [hoo]; exact g2) rfl
      cases b
      · exact hk2
      · exact hk1
  · exact hv.elim

/-- A guarded operation. -/
theorem guard_step {ops : Array Oper} {o : Oper} {g j : Nat} {want : Bool} {m : MOp} {K : St → Prop} {rest : Act → World → Prop} {Q : Exit → Act → World → Prop} (h : GS C Pt s a w A Lx sp)
    (hg : o.guard = some (j, want)) (hj : (ops[j]?).bind (·.dst) = some g) (hgN : g < C.N) (hdN : ∀ d, o.dst = some d → d < C.N ∧ d < gS) (hv : vc1 P (.guard g want o.dst m) s K)
    (hs : vc1 P m s K → o.wpIn (Fw C.ro) 0 P a w rest Q) (hn : Goes C Pt s w A Lx sp a.defers K rest) : StepIn C.ro P ops o a w rest Q := by
  have skip : (K (match o.dst with | some d => s.set d (.tuple []) | none => s)) → rest (a.put o.dst undef) w := by
    intro hk
    cases hd : o.dst with
    | none =>
      rw [hd] at hk
      rw [put_none]
      exact hn _ _ _ _ _ _ hk h (.refl _ _ _) rfl
    | some d =>
      rw [hd] at hk
      exact hn _ _ _ _ _ _ hk (h.put (hdN d hd).1 (hdN d hd).2 undef_rv trivial) (by rw [held_set (hdN d hd).2]; exact .refl _ _ _) rfl
  simp only [vc1] at hv
  split at hv
  · rename_i b hb
    have he := (h.rs.env g).1
    rw [hb] at he
    have heb := he.inv_bool
    have hyl : yielded ops a.tmps j = some b := by
      unfold yielded
      rw [hj]
      have : a.tmps[g]? = some (.bool b) := by
        have hlt : g < a.tmps.size := by have := h.rs.size; simp only at this; omega
        rw [Array.getD_eq_getD_getElem?, Array.getElem?_eq_getElem hlt] at heb
        rw [Array.getElem?_eq_getElem hlt]
        simpa using heb
      simp [this]
    have hw : Region.wanted o (yielded ops a.tmps) = (b == want) := by
      simp [Region.wanted, hg, hyl]
    unfold StepIn
    by_cases hbw : b = want
    · rw [hw, if_pos (by simpa using hbw)]
      exact hs (hv.1 hbw)
    · rw [hw, if_neg (by simpa using hbw)]
      exact ⟨fun _ _ => trivial, skip (hv.2 (by cases b <;> cases want <;> simp_all))⟩
  · rename_i hb
    have he := (h.rs.env g).1
    rw [hb] at he
    have heb : a.tmps.getD g undef = .tuple #[] := by
      replace he : RV w A (.tuple []) (a.tmps.getD g undef) := he
      generalize a.tmps.getD g undef = v at he
      cases he with
      | tuple _ vs hs hr =>
        have hv0 : vs = #[] := Array.eq_empty_of_size_eq_zero (by simpa using hs)
        rw [hv0]
    have hyl : yielded ops a.tmps j = none := by
      unfold yielded
      rw [hj]
      have : a.tmps[g]? = some (.tuple #[]) := by
        have hlt : g < a.tmps.size := by have := h.rs.size; simp only at this; omega
        rw [Array.getD_eq_getD_getElem?, Array.getElem?_eq_getElem hlt] at heb
        rw [Array.getElem?_eq_getElem hlt]
        simpa using heb
      simp [this]
    have hw : Region.wanted o (yielded ops a.tmps) = false := by
      simp [Region.wanted, hg, hyl]
    unfold StepIn
    rw [if_neg (by rw [hw]; simp)]
    exact ⟨fun _ _ => trivial, skip hv⟩
  · exact hv.elim

end

def trY (P : Program) (N : Nat) (o : Oper) : Option MOp :=
  match o.dst, o.op with
  | some d, .call c => match c.callee with
    | .value (.tmp t) => if d < N then (argsOfT P c.args.toList c.argTypes.toList).map (.yld d (.t t) ·) else none
    | _ => none
  | _, _ => none

/-- Operations on objects that are no cells. -/
def trO (P : Program) (N : Nat) (o : Oper) : Option MOp :=
  match o.dst, o.op with
  | some d, .range T x => if d < N then match P.underlying T, argOf x with
    | some .string, some x => some (.rngS d x)
    | _, _ => none else none
  | some d, .next x true => if d < N then (argOf x).map (.nxtS d ·) else none
  | some d, .makeMap _ none => if d < N then some (.mkMap d) else none
  | none, .mapUpdate T x k y => match P.underlying T with
    | some (.map kt _) => match keyN P kt, argOf x, argOf k, argOf y with
      | some n, some x, some k, some y => some (.mapUpd x k y n)
      | _, _, _, _ => none
    | _ => none
  | some d, .lookup T x k ok => if d < N then match P.underlying T with
    | some (.map kt et) => match keyN P kt, (zeroOf P et).bind ofVal, argOf x, argOf k with
      | some n, some z, some x, some k => some (.lookup d x k n ok z)
      | _, _, _, _ => none
    | _ => none else none
  | _, _ => none

/-- Those that more than one party's world knows of. -/
def trYO (P : Program) (yl : Bool) (N : Nat) (o : Oper) : Option MOp := if yl then trY P N o else trO P N o

def isYl (ann : Ann) (o : Oper) : Bool := match o.dst with
  | some d => ann.yl.contains d
  | none => false

def ndB (o : Oper) : Bool := match o.op with
  | .defer _ => false
  | _ => true

/-- A region's operation; f: how those that yield nothing are resolved. -/
def trX (f : Array Oper → Oper → Option MOp) (P : Program) (ann : Ann) (N : Nat) (ops : Array Oper) (o : Oper) : Option MOp :=
  match f ops o with
  | some m => if !isYl ann o && noG m && ndB o then some m else trX2
  | none => trX2
where trX2 : Option MOp := match o.guard with
  | none => trYO P (isYl ann o) N o
  | some (j, want) => match (ops[j]?).bind (·.dst), trYO P (isYl ann o) N o with
    | some g, some m => if g < N then some (.guard g want o.dst m) else none
    | _, _ => none

section
variable {P : Program} {C : Ctx P} {Pt : List (Nat × Obj)} {s : St} {a : Act} {w : World} {A Lx : Area} {sp : Sp} {K : St → Prop} {rest : Act → World → Prop} {Q : Exit → Act → World → Prop} {o : Oper}

theorem trY_spec {N : Nat} {m : MOp} (h : trY P N o = some m) : ∃ d t xs ts ms, o.dst = some d ∧ d < N ∧ o.op = .call { callee := .value (.tmp t), args := xs, argTypes := ts } ∧ argsOfT P xs.toList ts.toList = some ms ∧ m = .yld d (.t t) ms := by
  unfold trY at h
  split at h
  · rename_i d c hd hop
    split at h
    · rename_i t hc
      split at h
      · rename_i hN
        simp only [Option.map_eq_some_iff] at h
        obtain ⟨ms, hms, rfl⟩ := h
        refine ⟨d, t, c.args, c.argTypes, ms, hd, hN, ?_, hms, rfl⟩
        rw [hop, ← hc]
      · cases h
    · cases h
  · cases h

/-- How those that yield nothing step outside of rounds. -/
def StepsUp (P : Program) (N : Nat) (f : Array Oper → Oper → Option MOp) : Prop :=
  ∀ {ops : Array Oper} {o : Oper} {m : MOp} {s : St} {a : Act} {w : World} {A : Area} {sp : Sp} {K : St → Prop} {rest : Act → World → Prop} {Q : Exit → Act → World → Prop}, f ops o = some m → RS N s a w A sp → vc1 P m s K → Next s w A sp N K rest →
    (if Region.wanted o (yielded ops a.tmps) = true then o.wp P a w rest Q ∨ (o.asks P a w ∧ LetsOut Q) else rest (a.put o.dst undef) w)

theorem yo_step {yl : Bool} {m : MOp} (hCN : C.N ≤ gS) (hm : trYO P yl C.N o = some m) (h : GS C Pt s a w A Lx sp) (hv : vc1 P m s K) (hn : Goes C Pt s w A Lx sp a.defers K rest) :
    o.wpIn (Fw C.ro) 0 P a w rest Q ∧ ∀ d, o.dst = some d → d < C.N ∧ d < gS := by
  unfold trYO at hm
  split at hm
  · obtain ⟨d, t, xs, ts, ms, hd, hN, hop, hms, rfl⟩ := trY_spec hm
    exact ⟨yld_step h hCN hop hd hN hms hv hn, fun d' hd' => by rw [hd] at hd'; injection hd' with hd'; subst hd'; exact ⟨hN, Nat.lt_of_lt_of_le hN hCN⟩⟩
  · unfold trO at hm
    split at hm
    · rename_i d T x hd hop
      split at hm
      · rename_i hN
        split at hm
        · injection hm with hm; subst hm
          exact ⟨s_rngS hop hd hN hCN ‹_› ‹_› h hv hn, fun d' hd' => by rw [hd] at hd'; injection hd' with hd'; subst hd'; exact ⟨hN, Nat.lt_of_lt_of_le hN hCN⟩⟩
        · cases hm
      · cases hm
    · rename_i d x hd hop
      split at hm
      · rename_i hN
        simp only [Option.map_eq_some_iff] at hm
        obtain ⟨y, hy, rfl⟩ := hm
        exact ⟨s_nxtS hop hd hN hCN hy h hv hn, fun d' hd' => by rw [hd] at hd'; injection hd' with hd'; subst hd'; exact ⟨hN, Nat.lt_of_lt_of_le hN hCN⟩⟩
      · cases hm
    · rename_i d T hd hop
      split at hm
      · rename_i hN
        injection hm with hm; subst hm
        exact ⟨s_mkMap hop hd hN hCN h hv hn, fun d' hd' => by rw [hd] at hd'; injection hd' with hd'; subst hd'; exact ⟨hN, Nat.lt_of_lt_of_le hN hCN⟩⟩
      · cases hm
    · rename_i T x k y hd hop
      split at hm
      · split at hm
        · injection hm with hm; subst hm
          exact ⟨s_mapUpd hop hd ‹_› ‹_› ‹_› ‹_› ‹_› h hv hn, fun d' hd' => by rw [hd] at hd'; cases hd'⟩
        · cases hm
      · cases hm
    · rename_i d T x k ok hd hop
      split at hm
      · rename_i hN
        split at hm
        · split at hm
          · rename_i hz _ _
            simp only [Option.bind_eq_some_iff] at hz
            obtain ⟨z, hz1, hz2⟩ := hz
            injection hm with hm; subst hm
            exact ⟨s_lookup hop hd hN hCN ‹_› ‹_› hz1 hz2 ‹_› ‹_› h hv hn, fun d' hd' => by rw [hd] at hd'; injection hd' with hd'; subst hd'; exact ⟨hN, Nat.lt_of_lt_of_le hN hCN⟩⟩
          · cases hm
        · cases hm
      · cases hm
    · cases hm

theorem yo_dst {yl : Bool} {N : Nat} {m : MOp} (hm : trYO P yl N o = some m) : ∀ d, o.dst = some d → d < N := by
  intro d hd
  unfold trYO at hm
  split at hm
  · obtain ⟨d', t, xs, ts, ms, hd', hN, _⟩ := trY_spec hm
    rw [hd] at hd'; injection hd' with hd'; subst hd'; exact hN
  · unfold trO at hm
    split at hm <;> rename_i hd' hop <;> rw [hd] at hd' <;> first | (cases hd'; done) | skip
    all_goals first
      | (injection hd' with hd'; subst hd'; split at hm <;> first | assumption | cases hm)
      | cases hm

theorem step_x {f : Array Oper → Oper → Option MOp} (hf : StepsUp P C.N f) {ann : Ann} {ops : Array Oper} {m : MOp} (hCN : C.N ≤ gS) (hm : trX f P ann C.N ops o = some m) (h : GS C Pt s a w A Lx sp) (hv : vc1 P m s K)
    (hn : Goes C Pt s w A Lx sp a.defers K rest) : StepIn C.ro P ops o a w rest Q := by
  have alt : trX.trX2 P ann C.N ops o = some m → StepIn C.ro P ops o a w rest Q := by
    intro hm
    unfold trX.trX2 at hm
    split at hm
    · rename_i hg
      unfold StepIn
      rw [if_pos (by simp [Region.wanted, hg])]
      exact (yo_step hCN hm h hv hn).1
    · rename_i j want hg
      split at hm
      · rename_i g m' hj hm'
        split at hm
        · rename_i hgN
          injection hm with hm; subst hm
          exact guard_step h hg hj hgN (fun d hd => ⟨yo_dst hm' d hd, Nat.lt_of_lt_of_le (yo_dst hm' d hd) hCN⟩) hv (fun hv' => (yo_step hCN hm' h hv' hn).1) hn
        · cases hm
      · cases hm
  unfold trX at hm
  split at hm
  · rename_i m' hm'
    split at hm
    · rename_i hc
      injection hm with hm; subst hm
      simp only [Bool.and_eq_true] at hc
      exact step_up h (fun c e => by have := hc.2; simp [ndB, e] at this) hc.1.2 hv (fun K rest Q hv' hn' => hf hm' h.rs hv' hn') hn
    · exact alt hm
  · exact alt hm

def trXList (f : Array Oper → Oper → Option MOp) (P : Program) (ann : Ann) (N : Nat) (ops : Array Oper) : List Oper → Option (List MOp)
  | [] => some []
  | o :: os => match trX f P ann N ops o, trXList f P ann N ops os with
    | some m, some ms => some (m :: ms)
    | _, _ => none

theorem xlist_sound {f : Array Oper → Oper → Option MOp} (hf : StepsUp P C.N f) {ann : Ann} {ops : Array Oper} (hCN : C.N ≤ gS) : ∀ (os : List Oper) (ms : List MOp) (s : St) (a : Act) (w : World) (A Lx : Area) (sp : Sp), trXList f P ann C.N ops os = some ms →
    GS C Pt s a w A Lx sp → vcs P ms K s → Goes C Pt s w A Lx sp a.defers K (Q .normal) → wpListIn (Fw C.ro) 0 P ops Q os a w
  | [], ms, s, a, w, A, Lx, sp, hm, h, hv, hn => by
    injection hm with hm; subst hm
    exact hn _ _ _ _ _ _ hv h (.refl _ _ _) rfl
  | o :: os, ms, s, a, w, A, Lx, sp, hm, h, hv, hn => by
    simp only [trXList] at hm
    split at hm
    · rename_i m ms' h1 h2
      injection hm with hm; subst hm
      exact step_x hf hCN h1 h hv fun s' a' w' A' Lx' sp' hk hr hev hd =>
        xlist_sound hf hCN os ms' s' a' w' A' Lx' sp' h2 hr hk fun s2 a2 w2 A2 Lx2 sp2 hk2 hr2 hev2 hd2 => hn s2 a2 w2 A2 Lx2 sp2 hk2 hr2 (hev.trans hev2) (hd2.trans hd)
    · cases hm

def trXEach (f : Array Oper → Oper → Option MOp) (P : Program) (ann : Ann) (N : Nat) (ops : Array Oper) : List Nat → Option (List (Nat × MOp))
  | [] => some []
  | i :: is => match ops[i]? with
    | some o => match trX f P ann N ops o, trXEach f P ann N ops is with
      | some m, some l => some ((i, m) :: l)
      | _, _ => none
    | none => none

def trXDraw (f : Array Oper → Oper → Option MOp) (P : Program) (ann : Ann) (N : Nat) (id : Nat) (ops : Array Oper) : Option (List MOp) :=
  let ord := look ann.ord id []
  match trXEach f P ann N ops ord with
  | some l => if P.follows .mixedOrders && fwdB ops && decide (ord.length = ops.size) && nodupB ord && ((List.range ops.size).all fun i => ord.contains i) && orderOK (Region.before ops) l then some (l.map (·.2)) else none
  | none => none

theorem trXEach_spec {f : Array Oper → Oper → Option MOp} {ann : Ann} {N : Nat} {ops : Array Oper} : ∀ (is : List Nat) (l : List (Nat × MOp)), trXEach f P ann N ops is = some l → l.map (·.1) = is ∧ ∀ p ∈ l, ∃ o, ops[p.1]? = some o ∧ trX f P ann N ops o = some p.2
  | [], l, h => by injection h with h; subst h; exact ⟨rfl, by simp⟩
  | i :: is, l, h => by
    simp only [trXEach] at h
    split at h
    · rename_i o ho
      split at h
      · rename_i m l' hm hl
        injection h with h; subst h
        obtain ⟨h1, h2⟩ := trXEach_spec is l' hl
        refine ⟨by simp [h1], fun p hp => ?_⟩
        rcases List.mem_cons.1 hp with rfl | hp
        · exact ⟨o, ho, hm⟩
        · exact h2 p hp
      · cases h
    · cases h

theorem xgame {f : Array Oper → Oper → Option MOp} (hf : StepsUp P C.N f) {ann : Ann} {ops : Array Oper} (hCN : C.N ≤ gS) (hfwd : fwdB ops = true) : ∀ (n : Nat) (rem : List (Nat × MOp)) (listed : Array Bool) (s : St) (a : Act) (w : World) (A Lx : Area) (sp : Sp),
    rem.length = n → listed.size = ops.size → (rem.map (·.1)).Nodup → (∀ i, i < ops.size → (listed.getD i true = false ↔ i ∈ rem.map (·.1))) →
    (∀ p ∈ rem, ∃ o, ops[p.1]? = some o ∧ trX f P ann C.N ops o = some p.2) → orderOK (Region.before ops) rem = true →
    (∀ i o, listed.getD i true = true → i < ops.size → ops[i]? = some o → o.after.all (fun e => !Region.binds .any e || listed.getD e.on false) = true) →
    GS C Pt s a w A Lx sp → vcs P (rem.map (·.2)) K s → Goes C Pt s w A Lx sp a.defers K (Q .normal) →
    wpAnyIn (Fw C.ro) 0 P .any ops Q n listed a w := by
  intro n
  induction n with
  | zero =>
    intro rem listed s a w A Lx sp hlen hls hnd hin htr hord hcl h hv hn
    have hrem : rem = [] := List.eq_nil_of_length_eq_zero hlen
    subst hrem
    refine ⟨?_, hn _ _ _ _ _ _ hv h (.refl _ _ _) rfl⟩
    rw [Region.ready, List.filter_eq_nil_iff]
    intro i hi
    have hi' : i < ops.size := by simpa using hi
    have := (hin i hi')
    simp only [List.map_nil, List.not_mem_nil, iff_false, Bool.not_eq_false] at this
    simp [this]
  | succ n ih =>
    intro rem listed s a w A Lx sp hlen hls hnd hin htr hord hcl h hv hn
    have hmem : ∀ i, i ∈ Region.ready .any ops listed → i < ops.size ∧ listed.getD i true = false ∧ ∃ o, ops[i]? = some o ∧ o.after.all (fun e => !Region.binds .any e || listed.getD e.on false) = true := by
      intro i hi
      rw [Region.ready, List.mem_filter] at hi
      obtain ⟨h1, h2⟩ := hi
      have h1 : i < ops.size := by simpa using h1
      simp only [Bool.and_eq_true, Bool.not_eq_true'] at h2
      refine ⟨h1, h2.1, ops[i], Array.getElem?_eq_getElem h1, ?_⟩
      have := h2.2
      rw [Array.getElem?_eq_getElem h1] at this
      exact this
    refine ⟨fun hnil => ?_, fun i hi => ?_⟩
    · exfalso
      have hne : rem.map (·.1) ≠ [] := by
        intro e
        have : rem.length = 0 := by simpa using congrArg List.length e
        omega
      have hex : ∃ i, i ∈ rem.map (·.1) ∧ ∀ j, j ∈ rem.map (·.1) → i ≤ j := by
        generalize rem.map (·.1) = l at hne
        induction l with
        | nil => exact absurd rfl hne
        | cons x l ihl =>
          by_cases hl : l = []
          · subst hl; exact ⟨x, by simp, by simp⟩
          · obtain ⟨i, h1, h2⟩ := ihl hl
            by_cases hx : x ≤ i
            · exact ⟨x, by simp, fun j hj => by rcases List.mem_cons.1 hj with rfl | hj; exact Nat.le_refl _; exact Nat.le_trans hx (h2 j hj)⟩
            · exact ⟨i, by simp [h1], fun j hj => by rcases List.mem_cons.1 hj with rfl | hj; omega; exact h2 j hj⟩
      obtain ⟨i, hi1, hi2⟩ := hex
      obtain ⟨p, hp, rfl⟩ := List.mem_map.1 hi1
      obtain ⟨o, ho, _⟩ := htr p hp
      have hlt := (Array.getElem?_eq_some_iff.1 ho).1
      have hready : p.1 ∈ Region.ready .any ops listed := by
        rw [Region.ready, List.mem_filter]
        refine ⟨by simpa using hlt, ?_⟩
        have hl : listed.getD p.1 true = false := (hin _ hlt).2 hi1
        simp only [hl, Bool.not_false, Bool.true_and, ho, Option.map_some, Option.getD_some]
        refine Array.all_eq_true_iff_forall_mem.2 fun e he => ?_
        cases hb : Region.binds .any e
        · rfl
        · have hf := (List.all_eq_true.1 hfwd) p.1 (by simpa using hlt)
          rw [ho] at hf
          have hf := (Array.all_eq_true_iff_forall_mem.1 hf) e he
          simp only [hb, Bool.not_true, Bool.false_or, decide_eq_true_eq] at hf
          have hnot : e.on ∉ rem.map (·.1) := fun hm => by have := hi2 _ hm; omega
          have hlo : e.on < ops.size := by omega
          have := mt (hin e.on hlo).1 hnot
          rw [Bool.not_eq_false] at this
          rw [Array.getD_eq_getD_getElem?, Array.getElem?_eq_getElem (by omega)] at this
          simp only [Bool.not_true, Bool.false_or]
          rw [Array.getD_eq_getD_getElem?, Array.getElem?_eq_getElem (by omega)]
          exact this
      rw [hnil] at hready
      cases hready
    · obtain ⟨hlt, hnl, o, ho, hall⟩ := hmem i hi
      have hir : i ∈ rem.map (·.1) := (hin i hlt).1 hnl
      obtain ⟨p, hp, rfl⟩ := List.mem_map.1 hir
      obtain ⟨pre, post, rfl⟩ := List.append_of_mem hp
      obtain ⟨ho1, ho2⟩ := orderOK_drop pre hord
      obtain ⟨o', ho', htr'⟩ := htr p hp
      rw [ho] at ho'; injection ho' with ho'; subst ho'
      have hcomm : ∀ y ∈ pre.map (·.2), commB y p.2 = true := by
        intro y hy
        obtain ⟨q, hq, rfl⟩ := List.mem_map.1 hy
        have := ho2 q hq
        cases hw : ((Region.before ops).getD p.1 0).testBit q.1
        · rw [hw, Bool.false_or] at this; exact this
        · exfalso
          have h1 := ready_waits hcl hls (before_reach ops _ _ hw) o ho hall
          obtain ⟨oq, hoq, _⟩ := htr q (List.mem_append_left _ hq)
          have hqlt := (Array.getElem?_eq_some_iff.1 hoq).1
          have h2 := (hin q.1 hqlt).2 (List.mem_map.2 ⟨q, List.mem_append_left _ hq, rfl⟩)
          rw [Array.getD_eq_getD_getElem?, Array.getElem?_eq_getElem (by omega)] at h1 h2
          rw [Option.getD_some] at h1 h2
          rw [h1] at h2; cases h2
      rw [List.map_append, List.map_cons] at hv
      have hv2 := move_front (pre.map (·.2)) hcomm s hv
      rw [← List.map_append] at hv2
      unfold wpOpIn
      simp only [ho]
      refine step_x hf hCN htr' h hv2 fun s' a' w' A' Lx' sp' hk hr hev hd => ?_
      have hset : ∀ j, j < ops.size → (listed.setIfInBounds p.1 true).getD j true = if j = p.1 then true else listed.getD j true := by
        intro j hj
        simp only [Array.getD_eq_getD_getElem?]
        by_cases e : j = p.1
        · subst e; rw [Array.getElem?_setIfInBounds_self_of_lt (by omega)]; simp
        · rw [Array.getElem?_setIfInBounds_ne (Ne.symm e), if_neg e]
      refine ih (pre ++ post) (listed.setIfInBounds p.1 true) s' a' w' A' Lx' sp' (by simp at hlen ⊢; omega) (by simpa using hls) ?_ (fun j hj => ?_) (fun q hq => htr q ?_) ho1 (fun j oj hj hjlt hoj => ?_) hr hk (fun s2 a2 w2 A2 Lx2 sp2 hk2 hr2 hev2 hd2 => hn s2 a2 w2 A2 Lx2 sp2 hk2 hr2 (hev.trans hev2) (hd2.trans hd))
      · rw [List.map_append, List.map_cons] at hnd
        rw [List.map_append]
        exact hnd.sublist (List.Sublist.append_left (List.sublist_cons_self _ _) _)
      · rw [hset j hj]
        rw [List.map_append, List.map_cons] at hnd hin
        rw [List.map_append]
        by_cases e : j = p.1
        · subst e
          simp only [if_true, Bool.true_eq_false, false_iff, List.mem_append, not_or]
          have := List.nodup_append.1 hnd
          refine ⟨fun hm => (this.2.2 _ hm _ (List.mem_cons_self ..)) rfl, fun hm => ?_⟩
          exact (List.nodup_cons.1 this.2.1).1 hm
        · rw [if_neg e, hin j hj]
          simp only [List.mem_append, List.mem_cons, e, false_or]
      · rcases List.mem_append.1 hq with hq | hq
        · exact List.mem_append_left _ hq
        · exact List.mem_append_right _ (List.mem_cons_of_mem _ hq)
      · have hmon : ∀ k, listed.getD k false = true → (listed.setIfInBounds p.1 true).getD k false = true := by
          intro k hk
          simp only [Array.getD_eq_getD_getElem?] at hk ⊢
          by_cases e : k = p.1
          · subst e; rw [Array.getElem?_setIfInBounds_self_of_lt (by omega)]; rfl
          · rw [Array.getElem?_setIfInBounds_ne (Ne.symm e)]; exact hk
        have hprev : oj.after.all (fun e => !Region.binds .any e || listed.getD e.on false) = true := by
          rw [hset j hjlt] at hj
          by_cases e : j = p.1
          · subst e; rw [ho] at hoj; injection hoj with hoj; subst hoj; exact hall
          · rw [if_neg e] at hj; exact hcl j oj hj hjlt hoj
        refine Array.all_eq_true_iff_forall_mem.2 fun e he => ?_
        have := (Array.all_eq_true_iff_forall_mem.1 hprev) e he
        cases hb : Region.binds .any e
        · rfl
        · simp only [hb, Bool.not_true, Bool.false_or] at this ⊢
          exact hmon _ this

theorem GS.drew (h : GS C Pt s a w A Lx sp) : GS C Pt s a w.drew A Lx sp := (h.own (a' := a) h.rs.drew (Ev.drew _) (fun _ _ => rfl) rfl).1

theorem xdraw_sound {f : Array Oper → Oper → Option MOp} (hf : StepsUp P C.N f) {ann : Ann} {id : Nat} {ops : Array Oper} {ms : List MOp} (hCN : C.N ≤ gS)
    (hm : trXDraw f P ann C.N id ops = some ms) (h : GS C Pt s a w A Lx sp) (hv : vcs P ms K s) (hn : Goes C Pt s w A Lx sp a.defers K (Q .normal)) :
    (Code.region id ops true).wpIn (Fw C.ro) 0 P Q a w := by
  unfold trXDraw at hm
  simp only at hm
  split at hm
  · rename_i l hl
    split at hm
    · rename_i hc
      injection hm with hm; subst hm
      simp only [Bool.and_eq_true, decide_eq_true_eq] at hc
      obtain ⟨⟨⟨⟨⟨hfol, hfwd⟩, hlen⟩, hnodup⟩, hall⟩, hord⟩ := hc
      obtain ⟨h1, h2⟩ := trXEach_spec _ l hl
      have hlen' : l.length = ops.size := by rw [← hlen, ← h1]; simp
      have hin : ∀ i, i < ops.size → i ∈ l.map (·.1) := by
        intro i hi
        have := (List.all_eq_true.1 hall) i (by simpa using hi)
        rw [h1]; simpa using this
      refine wpIn_region_any hfol ?_
      have hnd : (l.map (·.1)).Nodup := by rw [h1]; exact nodupB_spec _ hnodup
      have hr0 : (Array.replicate ops.size false).size = ops.size := by simp
      rw [← hlen']
      rw [hlen']
      refine xgame hf hCN hfwd ops.size l (Array.replicate ops.size false) s a _ A Lx sp hlen' hr0 hnd (fun i hi => ⟨fun _ => hin i hi, fun _ => by simp [Array.getD_eq_getD_getElem?, hi]⟩) h2 hord (fun i o hi hlt _ => ?_) h.drew hv (fun s' a' w' A' Lx' sp' hk hr hev => hn s' a' w' A' Lx' sp' hk hr ((Ev.drew _).trans hev))
      simp [Array.getD_eq_getD_getElem?, hlt] at hi
    · cases hm
  · cases hm

theorem up_list (ann : Ann) (N : Nat) : StepsUp P N (trG P ann N) := fun hm h hv hn => step_sound hm h hv hn
theorem up_draw (ann : Ann) (N : Nat) : StepsUp P N (trD P ann N) := fun hm h hv hn => stepD_sound hm h hv hn
end
end Go.Avm
