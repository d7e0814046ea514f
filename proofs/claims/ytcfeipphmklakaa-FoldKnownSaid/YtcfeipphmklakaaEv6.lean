/- Running resolved code: the state's own steps. -/
import Derived.Test.YtcfeipphmklakaaEv5
namespace Go.Avm

section
variable {R : Type} (e : ES) (fail : R)

def putK (d : Nat) (x : AV) (k : ES → R) : R := bif Nat.blt d 1000000 then setK 24 e.env d (some x) fun t => k ⟨t, e.loc, e.obj, e.gh, e.nx⟩ else fail
def demS (r : Nat) (k : ES → R) : R := demK r e.env fun env => demLK r e.loc fun loc => k ⟨env, loc, e.obj, e.gh, e.nx⟩
def newK (cs : List AV) (k : Nat → ES → R) : R := bif Nat.blt e.nx 16000000 then setK 24 e.loc e.nx (some cs) fun loc => fN (e.nx + 1) fun nx => k e.nx ⟨e.env, loc, e.obj, e.gh, nx⟩ else fail
def locK (b : Nat) (cs : Option (List AV)) (k : ES → R) : R := bif Nat.blt b 16000000 then setK 24 e.loc b cs fun loc => k ⟨e.env, loc, e.obj, e.gh, e.nx⟩ else fail
def newO (x : AV) (k : Nat → ES → R) : R := bif Nat.blt e.nx 16000000 then setK 24 e.obj e.nx (some x) fun obj => fN (e.nx + 1) fun nx => k e.nx ⟨e.env, e.loc, obj, e.gh, nx⟩ else fail
def objK (b : Nat) (x : AV) (k : ES → R) : R := bif Nat.blt b 16000000 then setK 24 e.obj b (some x) fun obj => k ⟨e.env, e.loc, obj, e.gh, e.nx⟩ else fail
end

def Nx {R : Type} (ρ : Nat → Nat) (e : ES) (k : ES → R) (t : R) (s' : St) : Prop := ∃ ρ' e', Rel ρ' e' s' ∧ e.nx ≤ e'.nx ∧ (∀ b, b < e.nx → ρ' b = ρ b) ∧ k e' = t

section
variable {R : Type} {e : ES} {fail t : R} {ρ : Nat → Nat} {s : St}

theorem Nx.of (h : Rel ρ e s) {k : ES → R} (hk : k e = t) : Nx ρ e k t s := ⟨ρ, e, h, Nat.le_refl _, fun _ _ => rfl, hk⟩

theorem small {d : Nat} (h : Nat.blt d 1000000 = true) : d < gS ∧ d + 1 < 2 ^ 24 := by
  have : d < 1000000 := Nat.lt_of_succ_le (by simpa [Nat.blt] using h)
  simp only [gS]; omega
theorem small' {d : Nat} (h : Nat.blt d 16000000 = true) : d + 1 < 2 ^ 24 := by
  have : d < 16000000 := Nat.lt_of_succ_le (by simpa [Nat.blt] using h)
  omega

theorem at_set {k d : Nat} (x : AV) (h : d + 1 < 2 ^ 24) : ES.at ⟨T.set 24 e.env d (some x), e.loc, e.obj, e.gh, e.nx⟩ k = if k = d then x else e.at k := by
  simp only [ES.at, T.get_set 24 _ _ _ _ h]
  split <;> rfl

theorem put_ok {d : Nat} {x : AV} {k : ES → R} (h : putK e fail d x k = t) (ht : t ≠ fail) (hr : Rel ρ e s) (hx : below e.nx x = true) : ∃ e', Rel ρ e' (s.set d (ren ρ x)) ∧ e'.nx = e.nx ∧ k e' = t := by
  obtain ⟨h1, h2⟩ := cond_ok h ht
  obtain ⟨g1, g2⟩ := small h1
  rw [setK_eq] at h2
  refine ⟨⟨T.set 24 e.env d (some x), e.loc, e.obj, e.gh, e.nx⟩, ⟨fun q hq => ?_, fun q => ?_, ?_, hr.gb, hr.loc, hr.linj, fun b x hb => ?_, hr.oinj, hr.og, hr.gg⟩, rfl, h2⟩
  · rw [at_set x g2]
    by_cases e1 : q = d
    · rw [if_pos e1, e1]; exact upd_same _ _ _
    · rw [if_neg e1]; exact (upd_ne _ _ e1).trans (hr.env q hq)
  · rw [at_set x g2]
    split
    · exact hx
    · exact hr.bnd q
  · exact (upd_ne _ _ (by omega)).trans hr.gh
  · obtain ⟨o1, o2, o3⟩ := hr.obj b x hb
    exact ⟨o1, (upd_ne _ _ (by have := gS_lt_oS (ρ b); omega)).trans o2, o3⟩

theorem isGo {x : AV} (h : isG x = true) (r : Nat) : demote r x = x := isG_dem h r

theorem demS_ok {r : Nat} {k : ES → R} (h : demS e r k = t) (hr : Rel ρ e s) :
    ∃ e', Rel ρ e' (s.dem r) ∧ e'.nx = e.nx ∧ e'.gh = e.gh ∧ e'.obj = e.obj ∧ k e' = t ∧ ∀ b cs, e.loc.get b = some cs → e'.loc.get b = some (cs.map (demote r)) := by
  unfold demS at h
  rw [demK_eq, demLK_eq] at h
  have hat : ∀ q, ES.at ⟨e.env.map (demote r), e.loc.map (·.map (demote r)), e.obj, e.gh, e.nx⟩ q = demote r (e.at q) := by
    intro q
    simp only [ES.at, T.get_map]
    cases e.env.get q <;> rfl
  refine ⟨⟨e.env.map (demote r), e.loc.map (·.map (demote r)), e.obj, e.gh, e.nx⟩, ⟨fun q hq => ?_, fun q => ?_, ?_, hr.gb, fun b cs hb => ?_, fun b b' h1 h2 => ?_, fun b x hb => ?_, hr.oinj, hr.og, hr.gg⟩, rfl, rfl, rfl, h, fun b cs hb => by simp only [T.get_map, hb]; rfl⟩
  · rw [hat, ← ren_demote]
    show demote r (s.env q) = _
    rw [hr.env q hq]
  · rw [hat]; exact below_demote r (hr.bnd q)
  · show demote r (s.env gS) = _
    rw [hr.gh, ren_demote, isG_dem hr.gg r]
  · simp only [T.get_map, Option.map_eq_some_iff] at hb
    obtain ⟨cs', hcs, rfl⟩ := hb
    obtain ⟨l1, l2, l3⟩ := hr.loc b cs' hcs
    refine ⟨l1, ?_, belowL_demote r l3⟩
    simp only [St.dem, l2, Option.map_some, List.map_map]
    congr 1
    exact List.map_congr_left fun x _ => ren_demote ρ r x
  · simp only [T.get_map, ne_eq, Option.map_eq_none_iff] at h1 h2
    exact hr.linj b b' h1 h2
  · obtain ⟨o1, o2, o3⟩ := hr.obj b x hb
    refine ⟨o1, ?_, o3⟩
    show demote r (s.env (oS + ρ b)) = x
    rw [o2]; exact isG_dem (hr.og b x hb) r

theorem upd_below {n B : Nat} : ∀ b, b < n → upd ρ n B b = ρ b := fun b hb => upd_ne _ _ (by omega)

/-- A new block. -/
theorem new_ok {cs : List AV} {k : Nat → ES → R} (h : newK e fail cs k = t) (ht : t ≠ fail) (hr : Rel ρ e s) (hc : belowL e.nx cs = true) {B : Nat} (hB : s.loc B = none) :
    ∃ e', Rel (upd ρ e.nx B) e' (s.new B (cs.map (ren ρ))) ∧ e'.nx = e.nx + 1 ∧ e'.gh = e.gh ∧ k e.nx e' = t := by
  obtain ⟨h1, h2⟩ := cond_ok h ht
  have g2 := small' h1
  rw [setK_eq, fN_eq] at h2
  have hren : ∀ x, below e.nx x = true → ren (upd ρ e.nx B) x = ren ρ x := fun x hx => ren_below upd_below x hx
  have hmap : ∀ xs, belowL e.nx xs = true → xs.map (ren (upd ρ e.nx B)) = xs.map (ren ρ) := fun xs hxs => List.map_congr_left fun x hx => hren x (belowL_iff.1 hxs x hx)
  refine ⟨⟨e.env, T.set 24 e.loc e.nx (some cs), e.obj, e.gh, e.nx + 1⟩, ⟨fun q hq => ?_, fun q => below_mono (Nat.le_succ _) _ (hr.bnd q), hr.gh.trans (hren _ hr.gb).symm, below_mono (Nat.le_succ _) _ hr.gb, fun b cs' hb => ?_, fun b b' h3 h4 h5 => ?_, fun b x hb => ?_, fun b b' h3 h4 h5 => ?_, hr.og, hr.gg⟩, rfl, rfl, h2⟩
  · show s.env q = _
    rw [hr.env q hq]
    exact (hren _ (hr.bnd q)).symm
  · simp only [T.get_set 24 _ _ _ _ g2] at hb
    split at hb
    · rename_i e1
      injection hb with hb; subst hb; subst e1
      refine ⟨Nat.lt_succ_self _, ?_, belowL_mono (Nat.le_succ _) _ hc⟩
      rw [upd_same, hmap _ hc]
      exact upd_same _ _ _
    · rename_i e1
      obtain ⟨l1, l2, l3⟩ := hr.loc b cs' hb
      refine ⟨Nat.lt_succ_of_lt l1, ?_, belowL_mono (Nat.le_succ _) _ l3⟩
      rw [upd_ne _ _ e1, hmap _ l3]
      exact (upd_ne _ _ (by intro e2; rw [e2, hB] at l2; cases l2)).trans l2
  · simp only [T.get_set 24 _ _ _ _ g2] at h3 h4
    by_cases e1 : b = e.nx <;> by_cases e2 : b' = e.nx
    · rw [e1, e2]
    · rw [if_neg e2] at h4
      rw [e1, upd_same, upd_ne _ _ e2] at h5
      cases hl : e.loc.get b' with
      | none => exact absurd hl h4
      | some cs' => have := (hr.loc b' cs' hl).2.1; rw [← h5, hB] at this; cases this
    · rw [if_neg e1] at h3
      rw [e2, upd_same, upd_ne _ _ e1] at h5
      cases hl : e.loc.get b with
      | none => exact absurd hl h3
      | some cs' => have := (hr.loc b cs' hl).2.1; rw [h5, hB] at this; cases this
    · rw [if_neg e1] at h3; rw [if_neg e2] at h4
      rw [upd_ne _ _ e1, upd_ne _ _ e2] at h5
      exact hr.linj b b' h3 h4 h5
  · obtain ⟨o1, o2, o3⟩ := hr.obj b x hb
    exact ⟨Nat.lt_succ_of_lt o1, by rw [upd_ne _ _ (by omega)]; exact o2, o3⟩
  · cases hl : e.obj.get b with
    | none => exact absurd hl h3
    | some x => cases hl' : e.obj.get b' with
      | none => exact absurd hl' h4
      | some x' =>
        have b1 := (hr.obj b x hl).1; have b2 := (hr.obj b' x' hl').1
        rw [upd_ne _ _ (by omega), upd_ne _ _ (by omega)] at h5
        exact hr.oinj b b' h3 h4 h5

/-- A block's cells turn. -/
theorem loc_ok {b : Nat} {cs0 : List AV} {cs : Option (List AV)} {k : ES → R} (h : locK e fail b cs k = t) (ht : t ≠ fail) (hr : Rel ρ e s) (h0 : e.loc.get b = some cs0) (hc : ∀ x, cs = some x → belowL e.nx x = true) :
    ∃ e', Rel ρ e' ⟨s.env, upd s.loc (ρ b) (cs.map (·.map (ren ρ)))⟩ ∧ e'.nx = e.nx ∧ e'.gh = e.gh ∧ k e' = t ∧ e'.at = e.at := by
  obtain ⟨h1, h2⟩ := cond_ok h ht
  have g2 := small' h1
  rw [setK_eq] at h2
  refine ⟨⟨e.env, T.set 24 e.loc b cs, e.obj, e.gh, e.nx⟩, ⟨hr.env, hr.bnd, hr.gh, hr.gb, fun c cs' hb => ?_, fun c c' h3 h4 h5 => ?_, hr.obj, hr.oinj, hr.og, hr.gg⟩, rfl, rfl, h2, rfl⟩
  · simp only [T.get_set 24 _ _ _ _ g2] at hb
    split at hb
    · rename_i e1
      subst hb; subst e1
      exact ⟨(hr.loc _ _ h0).1, upd_same _ _ _, hc _ rfl⟩
    · rename_i e1
      obtain ⟨l1, l2, l3⟩ := hr.loc c cs' hb
      refine ⟨l1, (upd_ne _ _ ?_).trans l2, l3⟩
      intro e2
      exact e1 (hr.linj c b (by rw [hb]; simp) (by rw [h0]; simp) e2)
  · simp only [T.get_set 24 _ _ _ _ g2] at h3 h4
    refine hr.linj c c' ?_ ?_ h5
    · by_cases e1 : c = b
      · rw [e1, h0]; simp
      · rw [if_neg e1] at h3; exact h3
    · by_cases e1 : c' = b
      · rw [e1, h0]; simp
      · rw [if_neg e1] at h4; exact h4

theorem newO_ok {x : AV} {k : Nat → ES → R} (h : newO e fail x k = t) (ht : t ≠ fail) (hr : Rel ρ e s) (hx : x ≠ .any) (hG : isG x = true) {B : Nat} (hB : s.env (oS + B) = .any) :
    ∃ e', Rel (upd ρ e.nx B) e' (s.set (oS + B) x) ∧ e'.nx = e.nx + 1 ∧ e'.gh = e.gh ∧ k e.nx e' = t := by
  obtain ⟨h1, h2⟩ := cond_ok h ht
  have g2 := small' h1
  rw [setK_eq, fN_eq] at h2
  have hren : ∀ x, below e.nx x = true → ren (upd ρ e.nx B) x = ren ρ x := fun x hx => ren_below upd_below x hx
  have hmap : ∀ xs, belowL e.nx xs = true → xs.map (ren (upd ρ e.nx B)) = xs.map (ren ρ) := fun xs hxs => List.map_congr_left fun x hx => hren x (belowL_iff.1 hxs x hx)
  have hS := gS_lt_oS B
  refine ⟨⟨e.env, e.loc, T.set 24 e.obj e.nx (some x), e.gh, e.nx + 1⟩, ⟨fun q hq => ?_, fun q => below_mono (Nat.le_succ _) _ (hr.bnd q), ?_, below_mono (Nat.le_succ _) _ hr.gb, fun b cs' hb => ?_, fun b b' h3 h4 h5 => ?_, fun b y hb => ?_, fun b b' h3 h4 h5 => ?_, fun b y hb => ?_, hr.gg⟩, rfl, rfl, h2⟩
  · refine (upd_ne _ _ (by omega)).trans ?_
    rw [hr.env q hq]
    exact (hren _ (hr.bnd q)).symm
  · exact (upd_ne _ _ (by omega)).trans (hr.gh.trans (hren _ hr.gb).symm)
  · obtain ⟨l1, l2, l3⟩ := hr.loc b cs' hb
    refine ⟨Nat.lt_succ_of_lt l1, ?_, belowL_mono (Nat.le_succ _) _ l3⟩
    rw [upd_ne _ _ (by omega), hmap _ l3]
    exact l2
  · cases hl : e.loc.get b with
    | none => exact absurd hl h3
    | some x => cases hl' : e.loc.get b' with
      | none => exact absurd hl' h4
      | some x' =>
        have b1 := (hr.loc b x hl).1; have b2 := (hr.loc b' x' hl').1
        rw [upd_ne _ _ (by omega), upd_ne _ _ (by omega)] at h5
        exact hr.linj b b' h3 h4 h5
  · simp only [T.get_set 24 _ _ _ _ g2] at hb
    split at hb
    · rename_i e1
      injection hb with hb; subst hb; subst e1
      exact ⟨Nat.lt_succ_self _, by rw [upd_same]; exact upd_same _ _ _, hx⟩
    · rename_i e1
      obtain ⟨o1, o2, o3⟩ := hr.obj b y hb
      refine ⟨Nat.lt_succ_of_lt o1, ?_, o3⟩
      rw [upd_ne _ _ e1]
      refine (upd_ne _ _ ?_).trans o2
      intro e2
      have e3 : ρ b = B := by omega
      rw [e3, hB] at o2
      exact o3 o2.symm
  · simp only [T.get_set 24 _ _ _ _ g2] at h3 h4
    by_cases e1 : b = e.nx <;> by_cases e2 : b' = e.nx
    · rw [e1, e2]
    · rw [if_neg e2] at h4
      rw [e1, upd_same, upd_ne _ _ e2] at h5
      cases hl : e.obj.get b' with
      | none => exact absurd hl h4
      | some y => have := hr.obj b' y hl; rw [← h5, hB] at this; exact absurd this.2.1.symm this.2.2
    · rw [if_neg e1] at h3
      rw [e2, upd_same, upd_ne _ _ e1] at h5
      cases hl : e.obj.get b with
      | none => exact absurd hl h3
      | some y => have := hr.obj b y hl; rw [h5, hB] at this; exact absurd this.2.1.symm this.2.2
    · rw [if_neg e1] at h3; rw [if_neg e2] at h4
      rw [upd_ne _ _ e1, upd_ne _ _ e2] at h5
      exact hr.oinj b b' h3 h4 h5
  · simp only [T.get_set 24 _ _ _ _ g2] at hb
    split at hb
    · injection hb with hb; subst hb; exact hG
    · exact hr.og b y hb

theorem objK_ok {b : Nat} {x0 x : AV} {k : ES → R} (h : objK e fail b x k = t) (ht : t ≠ fail) (hr : Rel ρ e s) (h0 : e.obj.get b = some x0) (hx : x ≠ .any) (hG : isG x = true) :
    ∃ e', Rel ρ e' (s.set (oS + ρ b) x) ∧ e'.nx = e.nx ∧ e'.gh = e.gh ∧ k e' = t := by
  obtain ⟨h1, h2⟩ := cond_ok h ht
  have g2 := small' h1
  rw [setK_eq] at h2
  have hS := gS_lt_oS (ρ b)
  refine ⟨⟨e.env, e.loc, T.set 24 e.obj b (some x), e.gh, e.nx⟩, ⟨fun q hq => (upd_ne _ _ (by omega)).trans (hr.env q hq), hr.bnd, (upd_ne _ _ (by omega)).trans hr.gh, hr.gb, hr.loc, hr.linj, fun c y hb => ?_, fun c c' h3 h4 h5 => ?_, fun c y hb => ?_, hr.gg⟩, rfl, rfl, h2⟩
  · simp only [T.get_set 24 _ _ _ _ g2] at hb
    split at hb
    · rename_i e1
      injection hb with hb; subst hb; subst e1
      exact ⟨(hr.obj _ _ h0).1, upd_same _ _ _, hx⟩
    · rename_i e1
      obtain ⟨o1, o2, o3⟩ := hr.obj c y hb
      refine ⟨o1, (upd_ne _ _ ?_).trans o2, o3⟩
      intro e2
      exact e1 (hr.oinj c b (by rw [hb]; simp) (by rw [h0]; simp) (by omega))
  · simp only [T.get_set 24 _ _ _ _ g2] at h3 h4
    refine hr.oinj c c' ?_ ?_ h5
    · by_cases e1 : c = b
      · rw [e1, h0]; simp
      · rw [if_neg e1] at h3; exact h3
    · by_cases e1 : c' = b
      · rw [e1, h0]; simp
      · rw [if_neg e1] at h4; exact h4
  · simp only [T.get_set 24 _ _ _ _ g2] at hb
    split at hb
    · injection hb with hb; subst hb; exact hG
    · exact hr.og c y hb
end
end Go.Avm
