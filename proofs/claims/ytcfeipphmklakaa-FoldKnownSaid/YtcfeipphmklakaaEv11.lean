/- Running resolved code: functions and iterators by their numbers. -/
import Derived.Test.YtcfeipphmklakaaEv10
namespace Go.Avm

abbrev Row := Nat × Nat × MCode × List MRes

def RowOK (P : Program) (x : Row) : Prop := ∃ fn ann, P.funcs[x.1]? = some fn ∧ fn.body.bind (trC P ann fn.ntmps) = some x.2.2.1 ∧ trRes P fn.results.toList = some x.2.2.2 ∧ isFunc P x.1 = true ∧ fn.ntmps = x.2.1 ∧ fn.ntmps ≤ 1000000

inductive Tab (P : Program) : List Row → Prop
  | nil : Tab P []
  | cons {x : Row} {l : List Row} (h : RowOK P x) (t : Tab P l) : Tab P (x :: l)

theorem RowOK.mk {P : Program} {f N : Nat} {m : MCode} {rs : List MRes} {fn : Func} {ann : Ann} (h1 : P.funcs[f]? = some fn) (h2 : fn.body.bind (trC P ann fn.ntmps) = some m) (h3 : trRes P fn.results.toList = some rs) (h4 : isFunc P f = true)
    (h5 : fn.ntmps = N) (h6 : Nat.ble N 1000000 = true) : RowOK P (f, N, m, rs) := ⟨fn, ann, h1, h2, h3, h4, h5, by rw [h5]; simpa using h6⟩

def findT : List Row → Nat → Option Row
  | [], _ => none
  | x :: l, f => bif Nat.beq x.1 f then some x else findT l f

theorem findT_ok {P : Program} {l : List Row} (h : Tab P l) {f : Nat} {x : Row} (hx : findT l f = some x) : RowOK P x ∧ x.1 = f := by
  induction h with
  | nil => cases hx
  | cons h t ih =>
    simp only [findT] at hx
    cases hb : Nat.beq _ f with
    | true => rw [hb] at hx; injection hx with hx; subst hx; exact ⟨h, Nat.eq_of_beq_eq_true hb⟩
    | false => rw [hb] at hx; exact ih hx

section
variable {R : Type}
def initK : Nat → List AV → T AV → (T AV → R) → R
  | _, [], env, k => k env
  | i, x :: xs, env, k => eK x fun x => setK 24 env i (some x) fun env => fN (i + 1) fun i => initK i xs env k

theorem initK_ok {t : R} : ∀ (xs : List AV) (i : Nat) (env : T AV) (k : T AV → R), initK i xs env k = t → i + xs.length + 1 < 2 ^ 24 →
    ∃ env', k env' = t ∧ ∀ q, env'.get q = if i ≤ q ∧ q < i + xs.length then some (xs.getD (q - i) .any).erase else env.get q
  | [], i, env, k, h, _ => ⟨env, h, fun q => by rw [if_neg (by simp)]⟩
  | x :: xs, i, env, k, h, hl => by
    simp only [List.length_cons] at hl
    simp only [initK, eK_eq, setK_eq, fN_eq] at h
    obtain ⟨env', h1, h2⟩ := initK_ok xs (i + 1) _ k h (by omega)
    refine ⟨env', h1, fun q => ?_⟩
    rw [h2, T.get_set 24 _ _ _ _ (by omega)]
    simp only [List.length_cons]
    by_cases h3 : q = i
    · subst h3
      rw [if_neg (by omega), if_pos rfl, if_pos (by omega)]
      simp
    · by_cases h4 : i + 1 ≤ q ∧ q < i + 1 + xs.length
      · rw [if_pos h4, if_pos (by omega)]
        have : q - i = (q - (i + 1)) + 1 := by omega
        rw [this]; simp
      · rw [if_neg h4, if_neg h3, if_neg (by omega)]
end

theorem init_rel {ρ : Nat → Nat} {n : Nat} {xs : List AV} {env : T AV} (hb : belowL n xs = true) (hl : xs.length ≤ gS) (henv : ∀ q, env.get q = if 0 ≤ q ∧ q < 0 + xs.length then some (xs.getD (q - 0) .any).erase else T.nil.get q) :
    Rel ρ ⟨env, .nil, .nil, .any, n⟩ ⟨initEnv (xs.map (ren ρ)), fun _ => none⟩ := by
  have hat : ∀ q, ES.at ⟨env, .nil, .nil, .any, n⟩ q = (xs.getD q .any).erase := by
    intro q
    simp only [ES.at, henv, Nat.zero_le, true_and, Nat.zero_add, Nat.sub_zero]
    split
    · rfl
    · rename_i h
      rw [T.get_nil, List.getD_eq_getElem?_getD, List.getElem?_eq_none (by omega)]; rfl
  refine ⟨fun q hq => ?_, fun q => ?_, ?_, rfl, fun b cs h => ?_, fun b b' h => ?_, fun b x h => ?_, fun b b' h => ?_, fun b x h => ?_, rfl⟩
  · rw [hat]; show ((xs.map (ren ρ)).getD q .any).erase = _; rw [ren_getD, ren_erase]
  · rw [hat]; exact below_erase (below_getD q hb)
  · exact init_any (by simpa using hl) _ (Nat.le_refl _)
  · simp only [T.get_nil] at h; cases h
  · simp only [T.get_nil] at h; exact absurd rfl h
  · simp only [T.get_nil] at h; cases h
  · simp only [T.get_nil] at h; exact absurd rfl h
  · simp only [T.get_nil] at h; cases h

/-- The results. -/
def resE (e : ES) : List MRes → (List AV → Option AV) → Option AV
  | [], k => k []
  | .tmp q :: rs, k => argK e none (.t q) fun x => eK x fun x => resE e rs fun xs => k (x :: xs)
  | .cell q n :: rs, k => argK e none (.t q) fun x => match x with
    | .ref cs => partE none cs 0 n fun v => eK v fun v => resE e rs fun xs => k (v :: xs)
    | .mref b off => match e.loc.get b with
      | some cs => partE none cs off n fun v => eK v fun v => resE e rs fun xs => k (v :: xs)
      | none => none
    | _ => none

def resF (xs : List AV) : Option AV := some (resOf xs)

theorem resOf_ren (ρ : Nat → Nat) (xs : List AV) : ren ρ (resOf xs) = resOf (xs.map (ren ρ)) := by
  match xs with
  | [] => simp only [resOf, List.map_nil, ren, renL]
  | [x] => rfl
  | x :: y :: xs => simp only [resOf, ren, renL_map, List.map_cons]

theorem resE_ok {e : ES} {ρ : Nat → Nat} {s : St} {r : AV} (hr : Rel ρ e s) : ∀ (rs : List MRes) (k : List AV → Option AV) (K : List AV → Prop), resE e rs k = some r → (∀ xs, k xs = some r → K (xs.map (ren ρ))) → resK s rs K
  | [], k, K, h, hk => hk [] h
  | .tmp q :: rs, k, K, h, hk => by
    obtain ⟨x, h1, h2, h3⟩ := argK_ok h (by simp) hr
    rw [eK_eq] at h3
    replace h1 : s.env q = ren ρ x := h1
    simp only [resK, h1, ren_erase]
    exact resE_ok hr rs _ _ h3 fun xs hx => hk _ hx
  | .cell q n :: rs, k, K, h, hk => by
    obtain ⟨x, h1, h2, h3⟩ := argK_ok h (by simp) hr
    replace h1 : s.env q = ren ρ x := h1
    simp only [resK, h1]
    split at h3
    · simp only [below] at h2
      obtain ⟨v, g1, g2, g3⟩ := partE_ok h3 (by simp) h2
      rw [eK_eq] at g2
      simp only [ren, loadK, renL_map]
      refine g3 _ ?_
      have : ((ren ρ v).erase).erase = ren ρ v.erase := by rw [erase_erase, ren_erase]
      rw [this]
      exact resE_ok hr rs _ _ g2 fun xs hx => hk _ hx
    · split at h3
      · rename_i b off _ cs hcs
        obtain ⟨l1, l2, l3⟩ := hr.loc b cs hcs
        obtain ⟨v, g1, g2, g3⟩ := partE_ok h3 (by simp) l3
        rw [eK_eq] at g2
        simp only [ren, loadK, l2]
        refine g3 _ ?_
        rw [ren_erase]
        exact resE_ok hr rs _ _ g2 fun xs hx => hk _ hx
      · cases h3
    · cases h3

def accOf (e : ES) : Option (List (List AV)) := match e.gh with
  | .ghost _ acc _ => some acc
  | _ => none
def doneB (n : Nat) (e : ES) : Bool := match e.gh with
  | .ghost l rest b => Nat.beq l n && (b || rest.isEmpty)
  | _ => false

/-- How deep a run may go. -/
def evFuel : Nat := 1000000

def evAll (tab : List Row) : Nat → (Nat → FuncId → List AV → Option AV) × (Nat → FuncId → List AV → List AV → Option (List (List AV)))
  | 0 => (fun _ _ _ => none, fun _ _ _ _ => none)
  | g + 1 =>
    (fun n f xs => match findT tab f with
      | some (_, N, m, rs) => bif Nat.ble xs.length N then initK 0 xs .nil fun env =>
          evC false (evAll tab g).1 (evAll tab g).2 (fun _ _ => none) none evFuel m ⟨env, .nil, .nil, .any, n⟩ (fun e => resE e rs resF) (fun _ _ => none) (fun e => resE e rs resF) else none
      | none => none,
     fun n f first cap => match findT tab f with
      | some (_, N, m, []) => bif Nat.ble (first.length + 1 + cap.length) N then initK 0 (first ++ [AV.func (.yield n) [] []] ++ cap) .nil fun env =>
          match evC true (evAll tab g).1 (evAll tab g).2 (fun _ _ => none) none evFuel m ⟨env, .nil, .nil, .ghost n [] true, n + 1⟩ accOf (fun _ _ => none) accOf with
          | some xs => bif evC false (evAll tab g).1 (evAll tab g).2 (fun a b => a && b) false evFuel m ⟨env, .nil, .nil, .ghost n xs false, n + 1⟩ (doneB n) (fun _ _ => false) (doneB n) then some xs else none
          | none => none else none
      | _ => none)

theorem evAll_ok {P : Program} {tab : List Row} (hT : Tab P tab) : ∀ g, CallOK P (evAll tab g).1 ∧ CollOK P (evAll tab g).2
  | 0 => ⟨fun n f xs r h => (by cases h), fun n f first cap xs h => (by cases h)⟩
  | g + 1 => by
    obtain ⟨ihc, ihl⟩ := evAll_ok hT g
    constructor
    · intro n f xs r h hb hbr ρ
      dsimp only [evAll] at h
      split at h
      · rename_i f' N m rs hf
        obtain ⟨⟨fn, ann, r1, r2, r3, r4, r5, r6⟩, rfl⟩ := findT_ok hT hf
        dsimp only at r1 r2 r3 r4 r5
        cases hl : Nat.ble xs.length N with
        | false => rw [hl] at h; cases h
        | true =>
          rw [hl, cond_true] at h
          have hlen : xs.length ≤ fn.ntmps := by rw [r5]; simpa using hl
          obtain ⟨env, h1, h2⟩ := initK_ok xs 0 .nil _ h (by omega)
          have hgl : xs.length ≤ gS := by simp only [gS]; omega
          have hrel := init_rel (ρ := ρ) hb hgl h2
          have hres : ∀ ρ' e' s', Rel ρ' e' s' → Ext ρ ⟨env, .nil, .nil, .any, n⟩ ρ' e' → resE e' rs resF = some r → resK s' rs fun ys => ren ρ r = resOf ys := by
            intro ρ' e' s' hr' hx' hk'
            refine resE_ok hr' rs _ _ hk' fun xs hxs => ?_
            injection hxs with hxs
            rw [← resOf_ren, hxs]
            exact (ren_below hx'.2 _ hbr).symm
          exact pcall r1 r2 r3 r4 ⟨by simpa using hlen, r6⟩ fun _ =>
            evC_ok (fail := none) (t := some r) ihc ihl (fun a b hab => by cases hab) (by simp) evFuel m _ _ _ _ _ ρ _ _ _ h1 hrel hres (fun i ρ' e' s' hr' hx' hk' => by cases hk') hres
      · cases h
    · intro n f first cap xs h hb1 hb2 ρ
      dsimp only [evAll] at h
      split at h
      · rename_i f' N m hf
        obtain ⟨⟨fn, ann, r1, r2, r3, r4, r5, r6⟩, rfl⟩ := findT_ok hT hf
        dsimp only at r1 r2 r3 r4 r5
        cases hl : Nat.ble (first.length + 1 + cap.length) N with
        | false => rw [hl] at h; cases h
        | true =>
          rw [hl, cond_true] at h
          have hlen : first.length + 1 + cap.length ≤ fn.ntmps := by rw [r5]; simpa using hl
          have hlen2 : (first ++ [AV.func (.yield n) [] []] ++ cap).length = first.length + 1 + cap.length := by simp only [List.length_append, List.length_singleton]
          obtain ⟨env, h1, h2⟩ := initK_ok (first ++ [AV.func (.yield n) [] []] ++ cap) 0 .nil _ h (by omega)
          split at h1
          · rename_i xs' _
            have hdone : evC false (evAll tab g).1 (evAll tab g).2 (fun a b => a && b) false evFuel m ⟨env, .nil, .nil, .ghost n xs' false, n + 1⟩ (doneB n) (fun _ _ => false) (doneB n) = true ∧ xs' = xs := by
              cases hq : evC false (evAll tab g).1 (evAll tab g).2 (fun a b => a && b) false evFuel m ⟨env, .nil, .nil, .ghost n xs' false, n + 1⟩ (doneB n) (fun _ _ => false) (doneB n) with
              | false => rw [hq] at h1; cases h1
              | true => rw [hq] at h1; injection h1 with h1; exact ⟨rfl, h1⟩
            obtain ⟨hq, rfl⟩ := hdone
            refine pseq r1 r2 r3 r4 ⟨by simpa using hlen, r6⟩ fun l _ => ?_
            have hbL : belowL (n + 1) (first ++ [AV.func (.yield n) [] []] ++ cap) = true :=
              belowL_app (belowL_app (belowL_mono (Nat.le_succ _) _ hb1) (by simp [belowL, below, belowF, Nat.blt])) (belowL_mono (Nat.le_succ _) _ hb2)
            have hgl : (first ++ [AV.func (.yield n) [] []] ++ cap).length ≤ gS := by simp only [gS]; omega
            have hrel := init_rel (ρ := upd ρ n l) hbL hgl h2
            have hmap : ∀ zs : List AV, belowL n zs = true → zs.map (ren (upd ρ n l)) = zs.map (ren ρ) := fun zs hz => List.map_congr_left fun x hx => ren_below upd_below x (belowL_iff.1 hz x hx)
            have hargs : (first ++ [AV.func (.yield n) [] []] ++ cap).map (ren (upd ρ n l)) = first.map (ren ρ) ++ [AV.func (.yield l) [] []] ++ cap.map (ren ρ) := by
              simp only [List.map_append, hmap _ hb1, hmap _ hb2, List.map_cons, List.map_nil, ren, renF, renL, upd_same]
            rw [hargs] at hrel
            have hrel2 : Rel (upd ρ n l) ⟨env, .nil, .nil, .ghost n xs' false, n + 1⟩ ((St.mk (initEnv (first.map (ren ρ) ++ [AV.func (.yield l) [] []] ++ cap.map (ren ρ))) fun _ => none).set gS (.ghost l xs' false)) :=
              ⟨fun q hq => (upd_ne _ _ (by omega)).trans (hrel.env q hq), hrel.bnd, by rw [env_set_g]; simp only [ren, upd_same], by simp [below, Nat.blt], hrel.loc, hrel.linj, fun b x hb => (by simp only [T.get_nil] at hb; cases hb), hrel.oinj, hrel.og, rfl⟩
            have hpost : ∀ ρ' e' s', Rel ρ' e' s' → Ext (upd ρ n l) ⟨env, .nil, .nil, .ghost n xs' false, n + 1⟩ ρ' e' → doneB n e' = true → ∃ rest b, s'.env gS = .ghost l rest b ∧ (b = true ∨ rest = []) := by
              intro ρ' e' s' hr' hx' hd
              unfold doneB at hd
              split at hd
              · rename_i l0 rest b hg
                simp only [Bool.and_eq_true, Bool.or_eq_true, List.isEmpty_iff] at hd
                have e0 := Nat.eq_of_beq_eq_true hd.1
                subst e0
                refine ⟨rest, b, ?_, hd.2⟩
                rw [hr'.gh, hg]
                simp only [ren]
                rw [hx'.2 l0 (Nat.lt_succ_self _), upd_same]
              · cases hd
            exact evC_ok (fail := false) (t := true) ihc ihl (fun a b hab => by simpa using hab) (by simp) evFuel m _ _ _ _ _ (upd ρ n l) _ _ _ hq hrel2 hpost (fun i ρ' e' s' hr' hx' hk' => by cases hk') hpost
          · cases h1
      · cases h

/-- A call of closed arguments, run. -/
theorem run_call {P : Program} {tab : List Row} (hT : Tab P tab) {f : FuncId} {xs : List AV} {r : AV} (g : Nat) (h : (evAll tab g).1 0 f xs = some r) (hx : belowL 0 xs = true) (hr : below 0 r = true) : PCall P f xs r := by
  have := (evAll_ok hT g).1 0 f xs r h hx hr id
  have e1 : xs.map (ren id) = xs := by
    have := List.map_congr_left (f := ren id) (g := id) (l := xs) fun x hx' => ren_id (belowL_iff.1 hx x hx')
    rw [this, List.map_id]
  rwa [e1, ren_id hr] at this
end Go.Avm
