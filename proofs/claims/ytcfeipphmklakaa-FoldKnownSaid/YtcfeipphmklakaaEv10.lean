/- Running resolved code: control. -/
import Derived.Test.YtcfeipphmklakaaEv9
namespace Go.Avm

section
variable {P : Program}
theorem vc1_imp : ∀ {m : MOp} {s : St} {K K' : St → Prop}, (∀ s, K s → K' s) → vc1 P m s K → vc1 P m s K' := by
  intro m
  induction m with
  | apart zs x m ih => intro s K K' hk h; exact ⟨h.1, ih hk h.2⟩
  | guard g want d m ih =>
    intro s K K' hk h
    simp only [vc1] at h ⊢
    split at h
    · exact ⟨fun e => ih hk (h.1 e), fun e => hk _ (h.2 e)⟩
    · exact hk _ h
    · exact h.elim
  | load d x n => intro s K K' hk h; exact loadK_imp (fun v => hk _) h
  | loadI d x n =>
    intro s K K' hk h
    simp only [vc1] at h ⊢
    split at h
    · exact partK_imp (fun v => hk _) h
    · exact h.elim
  | store x y n oid =>
    intro s K K' hk h
    simp only [vc1, storeK] at h ⊢
    split at h
    · split at h
      · refine ⟨h.1, h.2.1, h.2.2.1, ?_⟩
        have h := h.2.2.2
        split at h
        · split at h
          · rename_i h0; rw [if_pos h0]; exact hk _ h
          · rename_i h0; rw [if_neg h0]; exact hk _ h
        · exact hk _ h
      · exact h.elim
    · exact h.elim
  | build d z ps => intro s K K' hk h; exact fillK_imp (fun v => hk _) h
  | mkS d n sz z ps => intro s K K' hk h; exact fillS_imp (fun v => hk _) h
  | bin d op x y => intro s K K' hk h; exact binK_imp (fun v => hk _) h
  | fld d x off n =>
    intro s K K' hk h
    simp only [vc1] at h ⊢
    split at h
    · exact partK_imp (fun v => hk _) h
    · exact h.elim
  | idxV d x i len sz n =>
    intro s K K' hk h
    simp only [vc1] at h ⊢
    split at h
    · exact ⟨h.1, h.2.1, partK_imp (fun v => hk _) h.2.2⟩
    · exact h.elim
  | binA d neg n x y =>
    intro s K K' hk h
    simp only [vc1] at h ⊢
    split at h
    · obtain ⟨h1, h2, q, hq, h⟩ := h
      exact ⟨h1, h2, q, hq, hk _ h⟩
    · exact h.elim
  | call d f xs => intro s K K' hk h; obtain ⟨r, h1, h2⟩ := h; exact ⟨r, h1, hk _ h2⟩
  | callv d x xs =>
    intro s K K' hk h
    simp only [vc1] at h ⊢
    split at h
    · obtain ⟨r, h1, h2⟩ := h; exact ⟨r, h1, hk _ h2⟩
    · exact h.elim
  | boxM d x n => intro s K K' hk h; exact ⟨h.1, fun b hb => hk _ (h.2 b hb)⟩
  | alloc d z => intro s K K' hk h; exact fun b hb => hk _ (h b hb)
  | mkM d n c sz bytes zero =>
    intro s K K' hk h
    simp only [vc1] at h ⊢
    split at h
    · exact ⟨h.1, h.2.1, h.2.2.1, h.2.2.2.1, h.2.2.2.2.1, fun b hb => hk _ (h.2.2.2.2.2 b hb)⟩
    · exact h.elim
  | cpyM d x y sz =>
    intro s K K' hk h
    simp only [vc1] at h ⊢
    split at h
    · split at h
      · exact ⟨h.1, h.2.1, h.2.2.1, hk _ h.2.2.2⟩
      · exact h.elim
    · exact h.elim
  | storeNil x sz oid =>
    intro s K K' hk h
    simp only [vc1] at h ⊢
    split at h
    · split at h
      · exact ⟨h.1, hk _ h.2⟩
      · exact h.elim
    · exact h.elim
  | storeF q y n =>
    intro s K K' hk h
    simp only [vc1] at h ⊢
    split at h
    · split at h
      · exact ⟨h.1, h.2.1, h.2.2.1, hk _ h.2.2.2⟩
      · exact h.elim
    · exact h.elim
  | app d x y sz b =>
    intro s K K' hk h
    simp only [vc1] at h ⊢
    split at h
    · exact ⟨h.1, h.2.1, h.2.2.1, h.2.2.2.1, h.2.2.2.2.1, hk _ h.2.2.2.2.2⟩
    · exact h.elim
  | yld d x xs =>
    intro s K K' hk h
    simp only [vc1] at h ⊢
    split at h
    · exact ⟨h.1, h.2.1, hk _ h.2.2.1, hk _ h.2.2.2⟩
    · exact h.elim
  | rngS d x =>
    intro s K K' hk h
    simp only [vc1] at h ⊢
    split at h
    · exact fun b h1 h2 => hk _ (h b h1 h2)
    · exact h.elim
  | mkMap d => intro s K K' hk h; exact fun b h1 h2 => hk _ (h b h1 h2)
  | nxtS d x =>
    intro s K K' hk h
    simp only [vc1] at h ⊢
    split at h
    · obtain ⟨u, pos, h1, h2, h3⟩ := h
      exact ⟨u, pos, h1, fun hp => hk _ (h2 hp), fun hp => hk _ (h3 hp)⟩
    · exact h.elim
  | mapUpd x q v n =>
    intro s K K' hk h
    simp only [vc1] at h ⊢
    split at h
    · obtain ⟨es, h1, h2, h3⟩ := h
      refine ⟨es, h1, h2, ?_⟩
      split at h3
      · exact hk _ h3
      · exact hk _ h3
      · exact h3.elim
    · exact h.elim
  | lookup d x q n ok zero =>
    intro s K K' hk h
    simp only [vc1] at h ⊢
    split at h
    · obtain ⟨es, h1, h2, h3⟩ := h
      refine ⟨es, h1, h2, ?_⟩
      split at h3
      · exact hk _ h3
      · exact hk _ h3
      · exact h3.elim
    · exact h.elim
  | frz q =>
    intro s K K' hk h
    simp only [vc1] at h ⊢
    split at h
    · split at h
      · exact ⟨h.1, h.2.1, h.2.2.1, hk _ h.2.2.2⟩
      · exact h.elim
    · exact h.elim
  | _ =>
    intro s K K' hk h
    simp only [vc1] at h ⊢
    first
      | exact hk _ h
      | exact ⟨h.1, hk _ h.2⟩
      | (split at h <;> first | exact hk _ h | exact ⟨h.1, hk _ h.2⟩ | exact ⟨h.1, h.2.1, hk _ h.2.2⟩ | exact ⟨h.1, h.2.1, h.2.2.1, hk _ h.2.2.2⟩ | exact h.elim)
end

section
variable {R : Type} (col : Bool) (call : Nat → FuncId → List AV → Option AV) (coll : Nat → FuncId → List AV → List AV → Option (List (List AV))) (amb : R → R → R) (fail : R)

def evL : List MOp → ES → (ES → R) → R
  | [], e, k => k e
  | m :: ms, e, k => evO col call amb fail m e fun e => evL ms e k

def eraK : T AV → (T AV → R) → R
  | .nil, k => k .nil
  | .node none a b, k => eraK a fun a => eraK b fun b => k (.node none a b)
  | .node (some x) a b, k => eK x fun x => eraK a fun a => eraK b fun b => k (.node (some x) a b)

def parK : List Nat → List AV → ES → (ES → R) → R
  | p :: ps, x :: xs, e, k => eK x fun x => putK e fail p x fun e => parK ps xs e k
  | _, _, e, k => k e

/-- The rounds of a loop over an iterator. -/
def evRs (E0 : T AV) (ps : List Nat) (ra : ES → (ES → R) → R) (rb : ES → (ES → R) → (Nat → ES → R) → (ES → R) → R) (kn : ES → R) (ke : Nat → ES → R) (kr : ES → R) : List (List AV) → ES → R
  | [], e => kn e
  | y :: ys, e => parK fail ps y e fun e => ra e fun e => rb e (fun e => evRs E0 ps ra rb kn ke kr ys ⟨E0, e.loc, e.obj, e.gh, e.nx⟩) (fun i e => ke i ⟨E0, e.loc, e.obj, e.gh, e.nx⟩) (fun e => kr ⟨E0, e.loc, e.obj, e.gh, e.nx⟩)

def evC : Nat → MCode → ES → (ES → R) → (Nat → ES → R) → (ES → R) → R
  | 0, _, _, _, _, _ => fail
  | f + 1, c, e, kn, ke, kr => match c with
    | .skip => kn e
    | .reg ms => evL col call amb fail ms e kn
    | .seq x y => evC f x e (fun e => evC f y e kn ke kr) ke kr
    | .cond t x y => argK e fail t fun v => match v with
      | .lit (.bool true) => evC f x e kn ke kr
      | .lit (.bool false) => evC f y e kn ke kr
      | _ => fail
    | .block id c => evC f c e kn (fun i e => bif Nat.beq i id then kn e else ke i e) kr
    | .loop c => evC f c e (fun e => evC f (.loop c) e kn ke kr) ke kr
    | .exit i => ke i e
    | .ret => kr e
    | .rangeF x ps a b => argK e fail x fun v => match v with
      | .func (.func g) first cap => match coll e.nx g first cap with
        | some xs => bif xs.all (fun y => Nat.beq y.length ps.length && belowL 0 y) then eraK e.env fun E0 =>
            evRs fail E0 ps (fun e k => evC f a e k (fun _ _ => fail) (fun _ => fail)) (fun e kn ke kr => evC f b e kn ke kr) kn ke kr xs ⟨E0, e.loc, e.obj, e.gh, e.nx⟩ else fail
        | none => fail
      | _ => fail
end

section
variable {R : Type} {P : Program} {call : Nat → FuncId → List AV → Option AV} {coll : Nat → FuncId → List AV → List AV → Option (List (List AV))} {amb : R → R → R} {fail t : R}

def CollOK (P : Program) (coll : Nat → FuncId → List AV → List AV → Option (List (List AV))) : Prop := ∀ n f first cap xs, coll n f first cap = some xs → belowL n first = true → belowL n cap = true → ∀ ρ, PSeq P f (first.map (ren ρ)) (cap.map (ren ρ)) xs

/-- A step on from a state. -/
def Ext (ρ : Nat → Nat) (e : ES) (ρ' : Nat → Nat) (e' : ES) : Prop := e.nx ≤ e'.nx ∧ ∀ b, b < e.nx → ρ' b = ρ b
theorem Ext.refl (ρ : Nat → Nat) (e : ES) : Ext ρ e ρ e := ⟨Nat.le_refl _, fun _ _ => rfl⟩
theorem Ext.trans {ρ ρ1 ρ2 : Nat → Nat} {e e1 e2 : ES} (h : Ext ρ e ρ1 e1) (k : Ext ρ1 e1 ρ2 e2) : Ext ρ e ρ2 e2 :=
  ⟨Nat.le_trans h.1 k.1, fun b hb => (k.2 b (Nat.lt_of_lt_of_le hb h.1)).trans (h.2 b hb)⟩

def To (ρ : Nat → Nat) (e : ES) (k : ES → R) (t : R) (K : St → Prop) : Prop := ∀ ρ' e' s', Rel ρ' e' s' → Ext ρ e ρ' e' → k e' = t → K s'
theorem To.from {ρ ρ1 : Nat → Nat} {e e1 : ES} {k : ES → R} {K : St → Prop} (h : To ρ e k t K) (hx : Ext ρ e ρ1 e1) : To ρ1 e1 k t K := fun ρ' e' s' hr hx' hk => h ρ' e' s' hr (hx.trans hx') hk

theorem evL_ok (hcall : CallOK P call) (hamb : ∀ a b, amb a b = t → a = t ∧ b = t) (ht : t ≠ fail) : ∀ (ms : List MOp) (e : ES) (k : ES → R) (s : St) (ρ : Nat → Nat) (K : St → Prop), evL false call amb fail ms e k = t → Rel ρ e s → To ρ e k t K → vcs P ms K s
  | [], e, k, s, ρ, K, h, hr, hK => hK ρ e s hr (.refl _ _) h
  | m :: ms, e, k, s, ρ, K, h, hr, hK => by
    refine vc1_imp (fun s' hs => ?_) (evO_ok hcall hamb ht m e _ s ρ h hr)
    obtain ⟨ρ', e', g1, g2, g3, g4⟩ := hs
    exact evL_ok hcall hamb ht ms e' k s' ρ' K g4 g1 (hK.from ⟨g2, g3⟩)

theorem eraK_eq : ∀ (u : T AV) (k : T AV → R), eraK u k = k (u.map AV.erase)
  | .nil, _ => rfl
  | .node none a b, k => by simp only [eraK, eraK_eq a, eraK_eq b]; rfl
  | .node (some x) a b, k => by simp only [eraK, eK_eq, eraK_eq a, eraK_eq b]; rfl

theorem parK_ok (ht : t ≠ fail) : ∀ (ps : List Nat) (xs : List AV) (e : ES) (k : ES → R) (s : St) (ρ : Nat → Nat), parK fail ps xs e k = t → Rel ρ e s → belowL 0 xs = true → ∃ e', Rel ρ e' (params s ps xs) ∧ e'.nx = e.nx ∧ k e' = t
  | [], xs, e, k, s, ρ, h, hr, _ => ⟨e, by cases xs <;> exact hr, rfl, h⟩
  | p :: ps, [], e, k, s, ρ, h, hr, _ => ⟨e, hr, rfl, h⟩
  | p :: ps, x :: xs, e, k, s, ρ, h, hr, hb => by
    simp only [belowL, Bool.and_eq_true] at hb
    simp only [parK, eK_eq] at h
    obtain ⟨e1, a1, a2, a3⟩ := put_ok h ht hr (below_mono (Nat.zero_le _) _ (below_erase hb.1))
    rw [ren_id (below_erase hb.1)] at a1
    obtain ⟨e2, b1, b2, b3⟩ := parK_ok ht ps xs e1 k _ ρ a3 a1 hb.2
    exact ⟨e2, b1, b2.trans a2, b3⟩

/-- Behind a round. -/
theorem back_rel {ρ0 ρ : Nat → Nat} {e0 e : ES} {s0 s : St} (h0 : Rel ρ0 e0 s0) (h : Rel ρ e s) (hx : Ext ρ0 e0 ρ e) : Rel ρ ⟨e0.env.map AV.erase, e.loc, e.obj, e.gh, e.nx⟩ (back s0 s) := by
  have hat : ∀ q, ES.at ⟨e0.env.map AV.erase, e.loc, e.obj, e.gh, e.nx⟩ q = (e0.at q).erase := by
    intro q
    simp only [ES.at, T.get_map]
    cases e0.env.get q <;> rfl
  refine ⟨fun q hq => ?_, fun q => ?_, ?_, h.gb, h.loc, h.linj, fun b x hb => ?_, h.oinj, h.og, h.gg⟩
  · rw [hat]
    show (if gS ≤ q then s.env q else (s0.env q).erase) = _
    rw [if_neg (by omega), h0.env q hq, ren_erase]
    exact (ren_below hx.2 _ (below_erase (h0.bnd q))).symm
  · rw [hat]; exact below_mono hx.1 _ (below_erase (h0.bnd q))
  · rw [back_g _ _ (Nat.le_refl _)]; exact h.gh
  · obtain ⟨o1, o2, o3⟩ := h.obj b x hb
    exact ⟨o1, by rw [back_o]; exact o2, o3⟩

theorem evC_ok (hcall : CallOK P call) (hcoll : CollOK P coll) (hamb : ∀ a b, amb a b = t → a = t ∧ b = t) (ht : t ≠ fail) : ∀ (f : Nat) (c : MCode) (e : ES) (kn : ES → R) (ke : Nat → ES → R) (kr : ES → R) (s : St) (ρ : Nat → Nat) (Kn : St → Prop) (Ke : Nat → St → Prop) (Kr : St → Prop),
    evC false call coll amb fail f c e kn ke kr = t → Rel ρ e s → To ρ e kn t Kn → (∀ i, To ρ e (ke i) t (Ke i)) → To ρ e kr t Kr → mwp P c Kn Ke Kr s := by
  intro f
  induction f using Nat.strongRecOn with
  | _ f0 ih0 =>
  cases f0 with
  | zero => intro c e kn ke kr s ρ Kn Ke Kr h; exact absurd h.symm ht
  | succ f =>
    have ih := ih0 f (Nat.lt_succ_self f)
    intro c e kn ke kr s ρ Kn Ke Kr h hr hn he hq
    cases c with
    | skip => exact hn ρ e s hr (.refl _ _) h
    | reg ms => exact evL_ok hcall hamb ht ms e kn s ρ Kn h hr hn
    | seq x y => exact ih x e _ ke kr s ρ _ Ke Kr h hr (fun ρ' e' s' hr' hx' hk' => ih y e' kn ke kr s' ρ' Kn Ke Kr hk' hr' (hn.from hx') (fun i => (he i).from hx') (hq.from hx')) he hq
    | cond u x y =>
      dsimp only [evC] at h
      obtain ⟨v, h1, h2, h3⟩ := argK_ok h ht hr
      simp only [mwp, h1]
      split at h3
      · simp only [ren]; exact ⟨fun _ => ih x e kn ke kr s ρ Kn Ke Kr h3 hr hn he hq, fun e => by cases e⟩
      · simp only [ren]; exact ⟨fun e0 => (by cases e0), fun _ => ih y e kn ke kr s ρ Kn Ke Kr h3 hr hn he hq⟩
      · exact absurd h3.symm ht
    | block id c =>
      refine ih c e kn _ kr s ρ Kn _ Kr h hr hn (fun i ρ' e' s' hr' hx' hk' => ?_) hq
      cases hb : Nat.beq i id with
      | true =>
        rw [hb] at hk'
        rw [if_pos (Nat.eq_of_beq_eq_true hb)]
        exact hn ρ' e' s' hr' hx' hk'
      | false =>
        rw [hb] at hk'
        rw [if_neg (fun e0 => by rw [e0] at hb; simp at hb)]
        exact he i ρ' e' s' hr' hx' hk'
    | loop c =>
      refine ⟨fun g s' => ∃ ρ' e', Rel ρ' e' s' ∧ Ext ρ e ρ' e' ∧ g ≤ f + 1 ∧ evC false call coll amb fail g (.loop c) e' kn ke kr = t, ⟨f + 1, s, .refl s, ρ, e, hr, .refl _ _, Nat.le_refl _, h⟩, ?_⟩
      rintro g s' ⟨ρ', e', hr', hx', hg, hk'⟩
      cases g with
      | zero => exact absurd hk'.symm ht
      | succ g =>
        exact ih0 g (by omega) c e' _ ke kr s' ρ' _ Ke Kr hk' hr' (fun ρ2 e2 s2 hr2 hx2 hk2 => ⟨g, s2, Nat.lt_succ_self _, .refl s2, ρ2, e2, hr2, hx'.trans hx2, by omega, hk2⟩) (fun i => (he i).from hx') (hq.from hx')
    | exit i => exact he i ρ e s hr (.refl _ _) h
    | ret => exact hq ρ e s hr (.refl _ _) h
    | rangeF x ps a b =>
      dsimp only [evC] at h
      obtain ⟨v, h1, h2, h3⟩ := argK_ok h ht hr
      split at h3
      · rename_i g first cap
        split at h3
        · rename_i xs hxs
          obtain ⟨c1, c2⟩ := cond_ok h3 ht
          rw [eraK_eq] at c2
          simp only [below, Bool.and_eq_true] at h2
          have hseq := hcoll _ _ _ _ _ hxs h2.1.2 h2.2 ρ
          simp only [mwp, h1, ren, renF, renL_map]
          have hlen : ∀ y ∈ xs, y.length = ps.length ∧ belowL 0 y = true := fun y hy => by
            have := (List.all_eq_true.1 c1) y hy
            simp only [Bool.and_eq_true] at this
            exact ⟨Nat.eq_of_beq_eq_true this.1, this.2⟩
          refine ⟨xs, hseq, fun y hy => (hlen y hy).1, fun k st => ∃ ρ' e', Rel ρ' e' st ∧ Ext ρ e ρ' e' ∧ e'.env = e.env.map AV.erase ∧
            evRs fail (e.env.map AV.erase) ps (fun e k => evC false call coll amb fail f a e k (fun _ _ => fail) (fun _ => fail)) (fun e kn ke kr => evC false call coll amb fail f b e kn ke kr) kn ke kr (xs.drop k) e' = t, ?_, ?_, ?_⟩
          · exact ⟨ρ, ⟨e.env.map AV.erase, e.loc, e.obj, e.gh, e.nx⟩, back_rel hr hr (.refl _ _), ⟨Nat.le_refl _, fun _ _ => rfl⟩, rfl, c2⟩
          · rintro k st hk hst ⟨ρ', e', hr', hx', henv, hk'⟩
            rw [List.drop_eq_getElem_cons hk] at hk'
            have hy : xs.getD k [] = xs[k] := by rw [List.getD_eq_getElem?_getD, List.getElem?_eq_getElem hk]; rfl
            rw [hy]
            obtain ⟨e1, a1, a2, a3⟩ := parK_ok ht ps xs[k] e' _ st ρ' hk' hr' (hlen _ (List.getElem_mem hk)).2
            have hx1 : Ext ρ e ρ' e1 := ⟨by rw [a2]; exact hx'.1, hx'.2⟩
            refine ih a e1 _ _ _ _ ρ' _ _ _ a3 a1 (fun ρ2 e2 s2 hr2 hx2 hk2 => ?_) (fun i ρ2 e2 s2 hr2 hx2 hk2 => absurd hk2.symm ht) (fun ρ2 e2 s2 hr2 hx2 hk2 => absurd hk2.symm ht)
            have hx12 := hx1.trans hx2
            refine ih b e2 _ _ _ s2 ρ2 _ _ _ hk2 hr2 (fun ρ3 e3 s3 hr3 hx3 hk3 => ?_) (fun i ρ3 e3 s3 hr3 hx3 hk3 => ?_) (fun ρ3 e3 s3 hr3 hx3 hk3 => ?_)
            · have hx13 := hx12.trans hx3
              exact ⟨ρ3, _, back_rel hr hr3 hx13, ⟨hx13.1, hx13.2⟩, rfl, hk3⟩
            · have hx13 := hx12.trans hx3
              exact he i ρ3 _ _ (back_rel hr hr3 hx13) ⟨hx13.1, hx13.2⟩ hk3
            · have hx13 := hx12.trans hx3
              exact hq ρ3 _ _ (back_rel hr hr3 hx13) ⟨hx13.1, hx13.2⟩ hk3
          · rintro st hst ⟨ρ', e', hr', hx', henv, hk'⟩
            rw [List.drop_length] at hk'
            exact hn ρ' e' st hr' hx' hk'
        · exact absurd h3.symm ht
      · exact absurd h3.symm ht

end
end Go.Avm
