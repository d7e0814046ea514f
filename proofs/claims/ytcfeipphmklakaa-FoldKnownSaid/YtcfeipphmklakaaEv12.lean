/- Running resolved code: calls that are known already. -/
import Derived.Test.YtcfeipphmklakaaEv11
namespace Go.Avm

abbrev Known := Nat × List AV × AV

inductive KnownOK (P : Program) : List Known → Prop
  | nil : KnownOK P []
  | cons {f : FuncId} {xs : List AV} {r : AV} {l : List Known} (h : PCall P f xs r) (hx : belowL 0 xs = true) (hr : below 0 r = true) (t : KnownOK P l) : KnownOK P ((f, xs, r) :: l)

def findK : List Known → Nat → List AV → Option AV
  | [], _, _ => none
  | (f', xs', r) :: l, f, xs => bif Nat.beq f' f && eqvL xs.reverse xs'.reverse then some r else findK l f xs

theorem findK_ok {P : Program} {l : List Known} (h : KnownOK P l) {f : Nat} {xs : List AV} {r : AV} (hx : findK l f xs = some r) : PCall P f xs r ∧ belowL 0 xs = true ∧ below 0 r = true := by
  induction h with
  | nil => cases hx
  | @cons f' xs' r' l h hx' hr t ih =>
    simp only [findK] at hx
    cases hb : Nat.beq f' f && eqvL xs.reverse xs'.reverse with
    | true =>
      rw [hb] at hx; injection hx with hx; subst hx
      simp only [Bool.and_eq_true] at hb
      have e1 := Nat.eq_of_beq_eq_true hb.1
      have e2 : xs = xs' := by have := congrArg List.reverse (eqvL_ok _ _ hb.2); simpa using this
      subst e1 e2
      exact ⟨h, hx', hr⟩
    | false => rw [hb] at hx; exact ih hx

def evM (tab : List Row) (mem : List Known) : Nat → (Nat → FuncId → List AV → Option AV) × (Nat → FuncId → List AV → List AV → Option (List (List AV)))
  | 0 => (fun _ _ _ => none, fun _ _ _ _ => none)
  | g + 1 =>
    (fun n f xs => match findK mem f xs with
      | some r => some r
      | none => match findT tab f with
        | some (_, N, m, rs) => bif Nat.ble xs.length N then initK 0 xs .nil fun env =>
            evC false (evM tab mem g).1 (evM tab mem g).2 (fun _ _ => none) none evFuel m ⟨env, .nil, .nil, .any, n⟩ (fun e => resE e rs resF) (fun _ _ => none) (fun e => resE e rs resF) else none
        | none => none,
     fun n f first cap => match findT tab f with
      | some (_, N, m, []) => bif Nat.ble (first.length + 1 + cap.length) N then initK 0 (first ++ [AV.func (.yield n) [] []] ++ cap) .nil fun env =>
          match evC true (evM tab mem g).1 (evM tab mem g).2 (fun _ _ => none) none evFuel m ⟨env, .nil, .nil, .ghost n [] true, n + 1⟩ accOf (fun _ _ => none) accOf with
          | some xs => bif evC false (evM tab mem g).1 (evM tab mem g).2 (fun a b => a && b) false evFuel m ⟨env, .nil, .nil, .ghost n xs false, n + 1⟩ (doneB n) (fun _ _ => false) (doneB n) then some xs else none
          | none => none else none
      | _ => none)

theorem evM_ok {P : Program} {tab : List Row} (hT : Tab P tab) {mem : List Known} (hM : KnownOK P mem) : ∀ g, CallOK P (evM tab mem g).1 ∧ CollOK P (evM tab mem g).2
  | 0 => ⟨fun n f xs r h => (by cases h), fun n f first cap xs h => (by cases h)⟩
  | g + 1 => by
    obtain ⟨ihc, ihl⟩ := evM_ok hT hM g
    constructor
    · intro n f xs r h hb hbr ρ
      dsimp only [evM] at h
      split at h
      · rename_i r' hk
        injection h with h; subst h
        obtain ⟨k1, k2, k3⟩ := findK_ok hM hk
        have e1 : xs.map (ren ρ) = xs := by
          have := List.map_congr_left (f := ren ρ) (g := id) (l := xs) fun x hx' => ren_id (belowL_iff.1 k2 x hx')
          rw [this, List.map_id]
        rw [e1, ren_id k3]
        exact k1
      split at h
      · rename_i f' N m rs hf
        obtain ⟨⟨fn, ann, r1, r2, r3, r4, r5, r6⟩, rfl⟩ := findT_ok hT hf
        dsimp only at r1 r2 r3 r4 r5
        cases hl : Nat.ble xs.length N with
        | false => rw [hl] at h; cases h
        | true =>
          rw [hl, cond_true] at h
          have hlen : xs.length ≤ fn.ntmps := by rw [r5]; simpa using hl
          obtain ⟨env, h1, h2⟩ := initK_ok xs 0 .nil _ h (by omega)
          have hgl : xs.length ≤ gS := by simp only [gS]; omega
          have hrel := init_rel (ρ := ρ) hb hgl h2
          have hres : ∀ ρ' e' s', Rel ρ' e' s' → Ext ρ ⟨env, .nil, .nil, .any, n⟩ ρ' e' → resE e' rs resF = some r → resK s' rs fun ys => ren ρ r = resOf ys := by
            intro ρ' e' s' hr' hx' hk'
            refine resE_ok hr' rs _ _ hk' fun xs hxs => ?_
            injection hxs with hxs
            rw [← resOf_ren, hxs]
            exact (ren_below hx'.2 _ hbr).symm
          exact pcall r1 r2 r3 r4 ⟨by simpa using hlen, r6⟩ fun _ =>
            evC_ok (fail := none) (t := some r) ihc ihl (fun a b hab => by cases hab) (by simp) evFuel m _ _ _ _ _ ρ _ _ _ h1 hrel hres (fun i ρ' e' s' hr' hx' hk' => by cases hk') hres
      · cases h
    · intro n f first cap xs h hb1 hb2 ρ
      dsimp only [evM] at h
      split at h
      · rename_i f' N m hf
        obtain ⟨⟨fn, ann, r1, r2, r3, r4, r5, r6⟩, rfl⟩ := findT_ok hT hf
        dsimp only at r1 r2 r3 r4 r5
        cases hl : Nat.ble (first.length + 1 + cap.length) N with
        | false => rw [hl] at h; cases h
        | true =>
          rw [hl, cond_true] at h
          have hlen : first.length + 1 + cap.length ≤ fn.ntmps := by rw [r5]; simpa using hl
          have hlen2 : (first ++ [AV.func (.yield n) [] []] ++ cap).length = first.length + 1 + cap.length := by simp only [List.length_append, List.length_singleton]
          obtain ⟨env, h1, h2⟩ := initK_ok (first ++ [AV.func (.yield n) [] []] ++ cap) 0 .nil _ h (by omega)
          split at h1
          · rename_i xs' _
            have hdone : evC false (evM tab mem g).1 (evM tab mem g).2 (fun a b => a && b) false evFuel m ⟨env, .nil, .nil, .ghost n xs' false, n + 1⟩ (doneB n) (fun _ _ => false) (doneB n) = true ∧ xs' = xs := by
              cases hq : evC false (evM tab mem g).1 (evM tab mem g).2 (fun a b => a && b) false evFuel m ⟨env, .nil, .nil, .ghost n xs' false, n + 1⟩ (doneB n) (fun _ _ => false) (doneB n) with
              | false => rw [hq] at h1; cases h1
              | true => rw [hq] at h1; injection h1 with h1; exact ⟨rfl, h1⟩
            obtain ⟨hq, rfl⟩ := hdone
            refine pseq r1 r2 r3 r4 ⟨by simpa using hlen, r6⟩ fun l _ => ?_
            have hbL : belowL (n + 1) (first ++ [AV.func (.yield n) [] []] ++ cap) = true :=
              belowL_app (belowL_app (belowL_mono (Nat.le_succ _) _ hb1) (by simp [belowL, below, belowF, Nat.blt])) (belowL_mono (Nat.le_succ _) _ hb2)
            have hgl : (first ++ [AV.func (.yield n) [] []] ++ cap).length ≤ gS := by simp only [gS]; omega
            have hrel := init_rel (ρ := upd ρ n l) hbL hgl h2
            have hmap : ∀ zs : List AV, belowL n zs = true → zs.map (ren (upd ρ n l)) = zs.map (ren ρ) := fun zs hz => List.map_congr_left fun x hx => ren_below upd_below x (belowL_iff.1 hz x hx)
            have hargs : (first ++ [AV.func (.yield n) [] []] ++ cap).map (ren (upd ρ n l)) = first.map (ren ρ) ++ [AV.func (.yield l) [] []] ++ cap.map (ren ρ) := by
              simp only [List.map_append, hmap _ hb1, hmap _ hb2, List.map_cons, List.map_nil, ren, renF, renL, upd_same]
            rw [hargs] at hrel
            have hrel2 : Rel (upd ρ n l) ⟨env, .nil, .nil, .ghost n xs' false, n + 1⟩ ((St.mk (initEnv (first.map (ren ρ) ++ [AV.func (.yield l) [] []] ++ cap.map (ren ρ))) fun _ => none).set gS (.ghost l xs' false)) :=
              ⟨fun q hq => (upd_ne _ _ (by omega)).trans (hrel.env q hq), hrel.bnd, by rw [env_set_g]; simp only [ren, upd_same], by simp [below, Nat.blt], hrel.loc, hrel.linj, fun b x hb => (by simp only [T.get_nil] at hb; cases hb), hrel.oinj, hrel.og, rfl⟩
            have hpost : ∀ ρ' e' s', Rel ρ' e' s' → Ext (upd ρ n l) ⟨env, .nil, .nil, .ghost n xs' false, n + 1⟩ ρ' e' → doneB n e' = true → ∃ rest b, s'.env gS = .ghost l rest b ∧ (b = true ∨ rest = []) := by
              intro ρ' e' s' hr' hx' hd
              unfold doneB at hd
              split at hd
              · rename_i l0 rest b hg
                simp only [Bool.and_eq_true, Bool.or_eq_true, List.isEmpty_iff] at hd
                have e0 := Nat.eq_of_beq_eq_true hd.1
                subst e0
                refine ⟨rest, b, ?_, hd.2⟩
                rw [hr'.gh, hg]
                simp only [ren]
                rw [hx'.2 l0 (Nat.lt_succ_self _), upd_same]
              · cases hd
            exact evC_ok (fail := false) (t := true) ihc ihl (fun a b hab => by simpa using hab) (by simp) evFuel m _ _ _ _ _ (upd ρ n l) _ _ _ hq hrel2 hpost (fun i ρ' e' s' hr' hx' hk' => by cases hk') hpost
          · cases h1
      · cases h

/-- A call of closed arguments, run. -/
theorem run_known {P : Program} {tab : List Row} (hT : Tab P tab) {mem : List Known} (hM : KnownOK P mem) {f : FuncId} {xs : List AV} {r : AV} (g : Nat) (h : (evM tab mem g).1 0 f xs = some r) (hx : belowL 0 xs = true) (hr : below 0 r = true) : PCall P f xs r := by
  have := (evM_ok hT hM g).1 0 f xs r h hx hr id
  have e1 : xs.map (ren id) = xs := by
    have := List.map_congr_left (f := ren id) (g := id) (l := xs) fun x hx' => ren_id (belowL_iff.1 hx x hx')
    rw [this, List.map_id]
  rwa [e1, ren_id hr] at this
end Go.Avm
