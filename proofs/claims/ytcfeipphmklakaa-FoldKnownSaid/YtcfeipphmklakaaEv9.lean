/- Running resolved code: all operations are run soundly, joined. -/
import Derived.Test.YtcfeipphmklakaaEv8
namespace Go.Avm

section
variable {R : Type} {P : Program} {call : Nat → FuncId → List AV → Option AV} {amb : R → R → R} {fail t : R}

theorem blt_ok {a b : Nat} (h : Nat.blt a b = true) : a < b := Nat.lt_of_succ_le (by simpa [Nat.blt] using h)
theorem blt_no {a b : Nat} (h : Nat.blt a b = false) : ¬ a < b := fun hlt => by
  have : Nat.blt a b = true := by rw [Nat.blt, Nat.ble_eq]; exact hlt
  rw [h] at this; cases this

theorem evO_ok (hcall : CallOK P call) (hamb : ∀ a b, amb a b = t → a = t ∧ b = t) (ht : t ≠ fail) : ∀ (m : MOp) (e : ES) (k : ES → R) (s : St) (ρ : Nat → Nat), evO false call amb fail m e k = t → Rel ρ e s → vc1 P m s (Nx ρ e k t) := by
  have callr : ∀ {e : ES} {ρ : Nat → Nat} {s : St} {d : Nat} {f : FuncId} {xs : List AV} {k : ES → R}, Rel ρ e s → belowL e.nx xs = true → (match call e.nx f xs with | some r => bif below e.nx r then eK r fun r => putK e fail d r k else fail | none => fail) = t →
      ∃ r, PCall P f (xs.map (ren ρ)) r ∧ Nx ρ e k t (s.set d r.erase) := by
    intro e ρ s d f xs k hr hx h
    split at h
    · rename_i r hc
      obtain ⟨g2, h⟩ := cond_ok h ht
      have g1 := hcall _ _ _ _ hc hx g2 ρ
      rw [eK_eq] at h
      refine ⟨_, g1, ?_⟩
      rw [ren_erase]
      exact put_nx h ht hr (below_erase g2)
    · exact absurd h.symm ht
  have pure : ∀ {m : MOp} {e : ES} {k : ES → R} {s : St} {ρ : Nat → Nat}, valK e fail m (fun d v => fA v fun v => putK e fail d v k) = t → Rel ρ e s → vc1 P m s (Nx ρ e k t) := by
    intro m e k s ρ h hr
    obtain ⟨d, v, h1, h2, h3⟩ := valK_ok P h ht hr
    rw [fA_eq] at h2
    exact h3 _ (put_nx h2 ht hr h1)
  intro m
  induction m with
  | asg d x =>
    intro e k s ρ h hr
    dsimp only [evO, oK_asg] at h
    obtain ⟨x, h1, h2, h3⟩ := argK_ok h ht hr
    simp only [vc1, h1]
    exact asg_nx h3 ht hr h2
  | asgNil d sz =>
    intro e k s ρ h hr
    dsimp only [evO, oK_asgNil] at h
    obtain ⟨e1, a1, a2, a3, a4, a5, _⟩ := demS_ok h hr
    obtain ⟨e2, b1, b2, b3⟩ := put_ok (x := .slice sz [] (d + 1)) a5 ht a1 rfl
    exact ⟨ρ, e2, by simpa only [ren, renL] using b1, by omega, fun _ _ => rfl, b3⟩
  | boxM d x n =>
    intro e k s ρ h hr
    dsimp only [evO, oK_boxM] at h
    obtain ⟨x, h1, h2, h3⟩ := argK_ok h ht hr
    obtain ⟨h4, h5⟩ := cond_ok h3 ht
    rw [fL_eq] at h5
    simp only [vc1, h1, ren_cells, map_len, ren_mapE0]
    refine ⟨Nat.eq_of_beq_eq_true h4, fun B hB => ?_⟩
    have := new_nx (x := fun b => .mref b 0) h5 ht hr (belowL_e0 (below_cells h2)) (by simp [below, Nat.blt]) hB
    simpa only [ren, upd_same] using this
  | alloc d z =>
    intro e k s ρ h hr
    dsimp only [evO, oK_alloc] at h
    obtain ⟨h4, h5⟩ := cond_ok h ht
    simp only [vc1]
    intro B hB
    have hz : z.map (ren ρ) = z := by
      have := List.map_congr_left (f := ren ρ) (g := id) (l := z) fun x hx => ren_id (belowL_iff.1 h4 x hx)
      rw [this, List.map_id]
    have := new_nx (x := fun b => .mref b 0) h5 ht hr (belowL_mono (Nat.zero_le _) _ h4) (by simp [below, Nat.blt]) hB
    simpa only [ren, upd_same, hz] using this
  | store x y n oid =>
    intro e k s ρ h hr
    dsimp only [evO, oK_store] at h
    obtain ⟨x, h1, h2, h3⟩ := argK_ok h ht hr
    obtain ⟨y, h4, h5, h6⟩ := argK_ok h3 ht hr
    simp only [vc1, h1, h4]
    split at h6
    · split at h6
      · rename_i cs hcs
        have := stor_nx h6 ht hr hcs h5
        simpa only [ren] using this
      · exact absurd h6.symm ht
    · exact absurd h6.symm ht
  | storeNil x sz oid =>
    intro e k s ρ h hr
    dsimp only [evO, oK_storeNil] at h
    obtain ⟨x, h1, h2, h3⟩ := argK_ok h ht hr
    split at h3
    · rename_i b off
      split at h3
      · rename_i cs hcs
        obtain ⟨l1, l2, l3⟩ := hr.loc b cs hcs
        obtain ⟨c1, c2⟩ := cond_ok h3 ht
        simp only [vc1, h1, ren, l2, map_len]
        refine ⟨Nat.lt_of_succ_le (by simpa [Nat.blt] using c1), ?_⟩
        obtain ⟨e1, a1, a2, a3, a4, a5, a6⟩ := demS_ok c2 hr
        rw [fL_eq] at a5
        have hb : belowL e1.nx ((cs.map (demote oid)).set off (.slice sz [] oid)) = true := by
          rw [a2]; exact belowL_set off (belowL_demote oid l3) rfl
        obtain ⟨e3, c1, c2, c3, c4, _⟩ := loc_ok a5 ht a1 (a6 b _ hcs) (fun x hx => by injection hx with hx; subst hx; exact hb)
        refine ⟨ρ, e3, ?_, by omega, fun _ _ => rfl, c4⟩
        have e4 : ((cs.map (ren ρ)).map (demote oid)).set off (.slice sz [] oid) = ((cs.map (demote oid)).set off (.slice sz [] oid)).map (ren ρ) := by
          rw [List.map_set, List.map_map, List.map_map]
          simp only [ren, renL]
          congr 1
          exact List.map_congr_left fun x _ => by simp only [Function.comp_apply, ren_demote]
        rw [e4]; exact c1
      · exact absurd h3.symm ht
    · exact absurd h3.symm ht
  | storeF q y n =>
    intro e k s ρ h hr
    dsimp only [evO, oK_storeF] at h
    obtain ⟨x, h1, h2, h3⟩ := argK_ok h ht hr
    obtain ⟨y, h4, h5, h6⟩ := argK_ok h3 ht hr
    split at h6
    · rename_i b
      split at h6
      · rename_i cs hcs
        obtain ⟨l1, l2, l3⟩ := hr.loc b cs hcs
        obtain ⟨c1, c2⟩ := cond_ok h6 ht
        simp only [Bool.and_eq_true] at c1
        obtain ⟨e1, a1, a2, a3, a4, _⟩ := loc_ok c2 ht hr hcs (fun x hx => by cases hx)
        rw [fL_eq] at a4
        obtain ⟨e2, b1, b2, b3⟩ := put_ok (x := .ref (y.cells.map AV.erase0)) a4 ht a1 (by rw [a2]; simp only [below]; exact belowL_e0 (below_cells h5))
        simp only [ren] at h1
        replace h1 : s.env q = .mref (ρ b) 0 := h1
        simp only [vc1, h1, l2, h4, map_len, ren_cells, ren_allc1, ren_mapE0]
        refine ⟨Nat.eq_of_beq_eq_true c1.1.1, Nat.eq_of_beq_eq_true c1.1.2, c1.2, ρ, e2, ?_, by omega, fun _ _ => rfl, b3⟩
        simp only [ren, renL_map] at b1
        exact b1
      · exact absurd h6.symm ht
    · exact absurd h6.symm ht
  | mkS d n sz z ps =>
    intro e k s ρ h hr
    dsimp only [evO, oK_mkS] at h
    obtain ⟨h4, h5⟩ := cond_ok h ht
    rw [fL_eq] at h5
    have hz : ren ρ (if sz = 1 then z.getD 0 .any else .agg z) = (if sz = 1 then z.getD 0 .any else .agg z) := by
      refine ren_id ?_
      split
      · exact below_getD 0 h4
      · exact h4
    have hb0 : belowL e.nx (List.replicate n (if sz = 1 then z.getD 0 .any else .agg z)) = true := by
      refine belowL_rep n (below_mono (Nat.zero_le _) _ ?_)
      split
      · exact below_getD 0 h4
      · exact h4
    obtain ⟨v, g1, g2, g3⟩ := fillSE_ok ht hr h5 hb0
    rw [List.map_replicate, hz] at g3
    simp only [vc1]
    refine g3 (fun xs => Nx ρ e k t ((s.dem (d + 1)).set d (.slice sz xs (d + 1)))) ?_
    obtain ⟨e1, a1, a2, a3, a4, a5, _⟩ := demS_ok g2 hr
    obtain ⟨e2, b1, b2, b3⟩ := put_ok (x := .slice sz v (d + 1)) a5 ht a1 (by rw [a2]; exact g1)
    exact ⟨ρ, e2, by simpa only [ren, renL_map] using b1, by omega, fun _ _ => rfl, b3⟩
  | app d x y sz bytes =>
    intro e k s ρ h hr
    dsimp only [evO, oK_app] at h
    obtain ⟨x, h1, h2, h3⟩ := argK_ok h ht hr
    obtain ⟨y, h4, h5, h6⟩ := argK_ok h3 ht hr
    split at h6
    · rename_i szx xs r szy ys r2
      obtain ⟨c1, c2⟩ := cond_ok h6 ht
      simp only [Bool.and_eq_true, Bool.not_eq_true', Nat.ble_eq] at c1
      simp only [vc1, h1, h4, ren, renL_map, map_len]
      refine ⟨fun e0 => ?_, Nat.eq_of_beq_eq_true c1.1.1.1.2, isEmpty_ren c1.1.1.2, c1.1.2, c1.2, ?_⟩
      · have := c1.1.1.1.1; rw [e0] at this; cases this
      · obtain ⟨e1, a1, a2, a3, a4, a5, _⟩ := demS_ok c2 hr
        obtain ⟨e2, b1, b2, b3, b4, b5, _⟩ := demS_ok a5 a1
        rw [fL_eq] at b5
        obtain ⟨e3, c1, c2, c3⟩ := put_ok (x := .slice sz (xs ++ ys) (d + 1)) b5 ht b1 (by rw [b2, a2]; simp only [below] at h2 h5 ⊢; exact belowL_app h2 h5)
        exact ⟨ρ, e3, by simpa only [ren, renL_map, List.map_append] using c1, by omega, fun _ _ => rfl, c3⟩
    · exact absurd h6.symm ht
  | call d f xs =>
    intro e k s ρ h hr
    dsimp only [evO, oK_call] at h
    obtain ⟨xs, h1, h2, h3⟩ := argsK_ok ht hr h
    simp only [vc1, h1]
    exact callr hr h2 h3
  | callv d x xs =>
    intro e k s ρ h hr
    dsimp only [evO, oK_callv] at h
    obtain ⟨x, h1, h2, h3⟩ := argK_ok h ht hr
    obtain ⟨ys, h4, h5, h6⟩ := argsK_ok ht hr h3
    split at h6
    · rename_i f first cap
      simp only [below, Bool.and_eq_true] at h2
      simp only [vc1, h1, ren, renF, renL_map, h4]
      obtain ⟨r, g1, g2⟩ := callr hr (belowL_app (belowL_app h2.1.2 h5) h2.2) h6
      exact ⟨r, by simpa only [List.map_append] using g1, g2⟩
    · exact absurd h6.symm ht
  | apart zs x m ih =>
    intro e k s ρ h hr
    obtain ⟨h1, h2⟩ := cond_ok h ht
    exact ⟨fun z hz => apartB_ok hr ((List.all_eq_true.1 h1) z hz), ih e k s ρ h2 hr⟩
  | guard g want d m ih =>
    intro e k s ρ h hr
    obtain ⟨v, h1, h2, h3⟩ := argK_ok h ht hr
    replace h1 : s.env g = ren ρ v := h1
    split at h3
    · rename_i b
      replace h3 : (bif b == want then evO false call amb fail m e k else skipK fail e d k) = t := h3
      simp only [vc1, h1, ren]
      by_cases hb : b = want
      · subst hb
        rw [beq_self_eq_true, cond_true] at h3
        exact ⟨fun _ => ih e k s ρ h3 hr, fun hh => by cases b <;> cases hh⟩
      · have : (b == want) = false := by simpa using hb
        rw [this, cond_false] at h3
        exact ⟨fun hh => absurd hh hb, fun _ => by
          cases d with
          | none => exact .of hr h3
          | some d => have := put_nx (x := .tuple []) h3 ht hr rfl; simpa only [ren, renL] using this⟩
    · simp only [vc1, h1, ren, renL]
      cases d with
      | none => exact .of hr h3
      | some d => have := put_nx (x := .tuple []) h3 ht hr rfl; simpa only [ren, renL] using this
    · exact absurd h3.symm ht
  | yld d x xs =>
    intro e k s ρ h hr
    dsimp only [evO, oK_yld] at h
    obtain ⟨x, h1, h2, h3⟩ := argK_ok h ht hr
    obtain ⟨ys, h4, h5, h6⟩ := argsK_ok ht hr h3
    split at h6
    · rename_i l l' y rest hg
      obtain ⟨c1, c2⟩ := cond_ok h6 ht
      simp only [Bool.and_eq_true] at c1
      have hgh := hr.gh
      rw [hg] at hgh
      have hgb := hr.gb
      rw [hg] at hgb
      have hll : l = l' := Nat.eq_of_beq_eq_true c1.1.1
      subst hll
      simp only [ren] at hgh
      obtain ⟨d1, d2⟩ := hamb _ _ c2
      have hys : ys.map (ren ρ) = ys := by
        have := List.map_congr_left (f := ren ρ) (g := id) (l := ys) fun x hx => ren_id (belowL_iff.1 c1.1.2 x hx)
        rw [this, List.map_id]
      simp only [vc1, h1, ren, renF, renL, hgh, h4, hys]
      have gho : ∀ q : Bool, Rel ρ ⟨e.env, e.loc, e.obj, .ghost l rest q, e.nx⟩ (s.set gS (.ghost (ρ l) rest q)) := fun q =>
        ⟨fun j hj => (upd_ne _ _ (by omega)).trans (hr.env j hj), hr.bnd, by rw [env_set_g]; simp only [ren], hgb, hr.loc, hr.linj, fun b x hb => by
          obtain ⟨o1, o2, o3⟩ := hr.obj b x hb
          exact ⟨o1, (upd_ne _ _ (Nat.ne_of_gt (gS_lt_oS _))).trans o2, o3⟩, hr.oinj, hr.og, rfl⟩
      have go : ∀ q : Bool, putK ⟨e.env, e.loc, e.obj, .ghost l rest q, e.nx⟩ fail d (.lit (.bool (!q))) k = t → Nx ρ e k t ((s.set gS (.ghost (ρ l) rest q)).set d (.lit (.bool (!q)))) := by
        intro q hq
        obtain ⟨e2, b1, b2, b3⟩ := put_ok hq ht (gho q) rfl
        exact ⟨ρ, e2, by simpa only [ren] using b1, by rw [b2]; exact Nat.le_refl _, fun _ _ => rfl, b3⟩
      exact ⟨trivial, eqvL_ok _ _ c1.2, go false d1, go true d2⟩
    · exact absurd h6.symm ht
    · exact absurd h6.symm ht
  | mkM d n c sz bytes z =>
    intro e k s ρ h hr
    dsimp only [evO, oK_mkM] at h
    obtain ⟨n, h1, h2, h3⟩ := argK_ok h ht hr
    obtain ⟨c, h4, h5, h6⟩ := argK_ok h3 ht hr
    split at h6
    · rename_i n c
      obtain ⟨c1, c2⟩ := cond_ok h6 ht
      simp only [Bool.and_eq_true, Nat.ble_eq] at c1
      rw [fL_eq] at c2
      simp only [vc1, h1, h4, ren, Int.ofNat_eq_natCast, Int.toNat_natCast]
      have hz : (List.replicate c z).flatten.map (ren ρ) = (List.replicate c z).flatten := by
        have := List.map_congr_left (f := ren ρ) (g := id) (l := (List.replicate c z).flatten) fun x hx => ren_id (by
          obtain ⟨l, hl, hx⟩ := List.mem_flatten.1 hx
          rw [(List.mem_replicate.1 hl).2] at hx
          exact belowL_iff.1 c1.1.1.1.1 x hx)
        rw [this, List.map_id]
      have hzb : belowL e.nx (List.replicate c z).flatten = true := by
        rw [belowL_iff]
        intro x hx
        obtain ⟨l, hl, hx⟩ := List.mem_flatten.1 hx
        rw [(List.mem_replicate.1 hl).2] at hx
        exact below_mono (Nat.zero_le _) _ (belowL_iff.1 c1.1.1.1.1 x hx)
      refine ⟨by omega, by omega, by have := c1.1.1.2; rw [← Int.natCast_mul]; omega, by omega, by have := c1.2; rw [← Int.natCast_mul]; omega, fun B hB => ?_⟩
      have := new_nx (x := fun b => .mslice b 0 n c sz) c2 ht hr hzb (by simp [below, Nat.blt]) hB
      simpa only [ren, upd_same, hz] using this
    · exact absurd h6.symm ht
  | cpyM d x y sz =>
    intro e k s ρ h hr
    dsimp only [evO, oK_cpyM] at h
    obtain ⟨x, h1, h2, h3⟩ := argK_ok h ht hr
    obtain ⟨y, h4, h5, h6⟩ := argK_ok h3 ht hr
    split at h6
    · rename_i b off len cap sz' sz2 ys r
      split at h6
      · rename_i cs hcs
        obtain ⟨l1, l2, l3⟩ := hr.loc b cs hcs
        obtain ⟨c1, c2⟩ := cond_ok h6 ht
        simp only [Bool.and_eq_true, Nat.ble_eq] at c1
        rw [fL_eq] at c2
        simp only [vc1, h1, h4, ren, renL_map, l2, map_len]
        refine ⟨Nat.eq_of_beq_eq_true c1.1.1, isEmpty_ren c1.1.2, c1.2, ?_⟩
        have hb : belowL e.nx (splice cs off (((ys.take (min ys.length len)).flatMap AV.cells).map AV.erase0)) = true :=
          belowL_splice _ _ _ l3 (belowL_e0 (belowL_flat (belowL_take _ (by simpa only [below] using h5))))
        obtain ⟨e3, d1, d2, d3, d4, _⟩ := loc_ok c2 ht hr hcs (fun x hx => by injection hx with hx; subst hx; exact hb)
        rw [fN_eq] at d4
        obtain ⟨e4, f1, f2, f3⟩ := put_ok d4 ht d1 rfl
        refine ⟨ρ, e4, ?_, by omega, fun _ _ => rfl, f3⟩
        rw [← List.map_take, ren_flat, ren_mapE0, ren_splice]
        simp only [ren] at f1
        exact f1
      · exact absurd h6.symm ht
    · exact absurd h6.symm ht
  | rngS d x =>
    intro e k s ρ h hr
    dsimp only [evO, oK_rngS] at h
    obtain ⟨x, h1, h2, h3⟩ := argK_ok h ht hr
    split at h3
    · simp only [vc1, h1, ren]
      intro B hB hB2
      obtain ⟨e1, a1, a2, a3, a4⟩ := newO_ok h3 ht hr (by intro e; cases e) rfl hB2
      obtain ⟨e2, b1, b2, b3⟩ := put_ok (x := .mref e.nx 0) a4 ht a1 (by rw [a2]; simp [below, Nat.blt])
      exact ⟨_, e2, by simpa only [ren, upd_same] using b1, by omega, upd_below, b3⟩
    · exact absurd h3.symm ht
  | nxtS d x =>
    intro e k s ρ h hr
    dsimp only [evO, oK_nxtS] at h
    obtain ⟨x, h1, h2, h3⟩ := argK_ok h ht hr
    split at h3
    · rename_i b
      split at h3
      · rename_i pos u hob
        obtain ⟨o1, o2, o3⟩ := hr.obj b _ hob
        simp only [vc1, h1, ren]
        refine ⟨u, pos, o2, fun hp => ?_, fun hp => ?_⟩
        · have hb : Nat.blt pos u.size = true := by cases hq : Nat.blt pos u.size; exact absurd hp (blt_no hq); rfl
          rw [hb, cond_true, fN_eq, fN_eq] at h3
          obtain ⟨e1, a1, a2, a3, a4⟩ := objK_ok h3 ht hr hob (by intro e; cases e) rfl
          obtain ⟨e2, b1, b2, b3⟩ := put_ok a4 ht a1 rfl
          exact ⟨ρ, e2, by simpa only [ren, renL] using b1, by omega, fun _ _ => rfl, b3⟩
        · have hb : Nat.blt pos u.size = false := by cases hq : Nat.blt pos u.size; rfl; exact absurd (blt_ok hq) hp
          rw [hb, cond_false] at h3
          have := put_nx (x := .tuple [.lit (.bool false)]) h3 ht hr rfl
          simpa only [ren, renL] using this
      · exact absurd h3.symm ht
    · exact absurd h3.symm ht
  | mkMap d =>
    intro e k s ρ h hr
    dsimp only [evO, oK_mkMap] at h
    simp only [vc1]
    intro B hB hB2
    obtain ⟨e1, a1, a2, a3, a4⟩ := newO_ok h ht hr (by intro e; cases e) rfl hB2
    obtain ⟨e2, b1, b2, b3⟩ := put_ok (x := .mapr e.nx) a4 ht a1 (by rw [a2]; simp [below, Nat.blt])
    exact ⟨_, e2, by simpa only [ren, upd_same] using b1, by omega, upd_below, b3⟩
  | mapUpd x q v n =>
    intro e k s ρ h hr
    dsimp only [evO, oK_mapUpd] at h
    obtain ⟨x, h1, h2, h3⟩ := argK_ok h ht hr
    obtain ⟨q, h4, h5, h6⟩ := argK_ok h3 ht hr
    obtain ⟨v, h7, h8, h9⟩ := argK_ok h6 ht hr
    split at h9
    · rename_i b
      split at h9
      · rename_i es hob
        obtain ⟨o1, o2, o3⟩ := hr.obj b _ hob
        rw [eK_eq, eK_eq] at h9
        obtain ⟨c1, c2⟩ := cond_ok h9 ht
        simp only [Bool.and_eq_true] at c1
        simp only [vc1, h1, h4, h7, ren, ren_erase, ren_id c1.1.2, ren_id c1.2]
        refine ⟨es, o2, keyOKb_ok c1.1.1, ?_⟩
        split at c2
        · rename_i i hka
          obtain ⟨e1, a1, a2, a3, a4⟩ := objK_ok c2 ht hr hob (by intro e; cases e) rfl
          rw [hka]
          exact ⟨ρ, e1, a1, by omega, fun _ _ => rfl, a4⟩
        · rename_i hka
          obtain ⟨e1, a1, a2, a3, a4⟩ := objK_ok c2 ht hr hob (by intro e; cases e) rfl
          rw [hka]
          exact ⟨ρ, e1, a1, by omega, fun _ _ => rfl, a4⟩
        · exact absurd c2.symm ht
      · exact absurd h9.symm ht
    · exact absurd h9.symm ht
  | lookup d x q n ok zero =>
    intro e k s ρ h hr
    dsimp only [evO, oK_lookup] at h
    obtain ⟨x, h1, h2, h3⟩ := argK_ok h ht hr
    obtain ⟨q, h4, h5, h6⟩ := argK_ok h3 ht hr
    split at h6
    · rename_i b
      split at h6
      · rename_i es hob
        obtain ⟨o1, o2, o3⟩ := hr.obj b _ hob
        rw [eK_eq] at h6
        obtain ⟨c1, c2⟩ := cond_ok h6 ht
        simp only [Bool.and_eq_true] at c1
        simp only [vc1, h1, h4, ren, ren_erase, ren_id c1.1.2]
        refine ⟨es, o2, keyOKb_ok c1.1.1, ?_⟩
        split at c2
        · rename_i i hka
          rw [hka]
          rw [fA_eq] at c2
          obtain ⟨d1, d2⟩ := cond_ok c2 ht
          rw [eK_eq] at d2
          have hb2 : below 0 (if ok = true then AV.tuple [(es.getD i []).getD 1 .any, .lit (.bool true)] else ((es.getD i []).getD 1 .any).erase) = true := by
            split
            · simp only [below, belowL, d1, Bool.and_self]
            · exact below_erase d1
          have := put_nx d2 ht hr (below_mono (Nat.zero_le _) _ hb2)
          rwa [ren_id hb2] at this
        · rename_i hka
          rw [hka]
          rw [eK_eq] at c2
          have hb2 : below 0 (if ok = true then AV.tuple [zero, .lit (.bool false)] else zero.erase) = true := by
            split
            · simp only [below, belowL, c1.2, Bool.and_self]
            · exact below_erase c1.2
          have := put_nx c2 ht hr (below_mono (Nat.zero_le _) _ hb2)
          rwa [ren_id hb2] at this
        · exact absurd c2.symm ht
      · exact absurd h6.symm ht
    · exact absurd h6.symm ht
  | frz q =>
    intro e k s ρ h hr
    dsimp only [evO, oK_frz] at h
    obtain ⟨x, h1, h2, h3⟩ := argK_ok h ht hr
    split at h3
    · rename_i b len cap sz
      split at h3
      · rename_i cs hcs
        obtain ⟨l1, l2, l3⟩ := hr.loc b cs hcs
        obtain ⟨c1, c2⟩ := cond_ok h3 ht
        simp only [Bool.and_eq_true, Nat.ble_eq] at c1
        simp only [ren] at h1
        replace h1 : s.env q = .mslice (ρ b) 0 len cap sz := h1
        simp only [vc1, h1, l2, map_len, ren_allc1, ren_chunk]
        refine ⟨c1.1.1, c1.1.2, c1.2, ?_⟩
        obtain ⟨e1, a1, a2, a3, a4, _⟩ := loc_ok c2 ht hr hcs (fun x hx => by cases hx)
        rw [fL_eq] at a4
        obtain ⟨e2, b1, b2, b3⟩ := put_ok (x := .slice sz (chunk sz cs len) 0) a4 ht a1 (by rw [a2]; simp only [below]; exact belowL_chunk sz len cs l3)
        refine ⟨ρ, e2, ?_, by omega, fun _ _ => rfl, b3⟩
        simp only [ren, renL_map] at b1
        exact b1
      · exact absurd h3.symm ht
    · exact absurd h3.symm ht
  | _ => intro e k s ρ h hr; exact pure h hr

end
end Go.Avm
