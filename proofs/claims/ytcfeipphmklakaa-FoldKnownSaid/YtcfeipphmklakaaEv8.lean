/- Running resolved code: all operations are run soundly. -/
import Derived.Test.YtcfeipphmklakaaEv7
namespace Go.Avm

section
variable {R : Type} {P : Program} {call : Nat → FuncId → List AV → Option AV} {amb : R → R → R} {fail t : R}

def CallOK (P : Program) (call : Nat → FuncId → List AV → Option AV) : Prop := ∀ n f xs r, call n f xs = some r → belowL n xs = true → below n r = true → ∀ ρ, PCall P f (xs.map (ren ρ)) (ren ρ r)

theorem put_nx {e : ES} {ρ : Nat → Nat} {s : St} {d : Nat} {x : AV} {k : ES → R} (h : putK e fail d x k = t) (ht : t ≠ fail) (hr : Rel ρ e s) (hx : below e.nx x = true) : Nx ρ e k t (s.set d (ren ρ x)) := by
  obtain ⟨e', g1, g2, g3⟩ := put_ok h ht hr hx
  exact ⟨ρ, e', g1, by omega, fun _ _ => rfl, g3⟩

theorem skip_nx {e : ES} {ρ : Nat → Nat} {s : St} {d : Option Nat} {k : ES → R} (h : skipK fail e d k = t) (ht : t ≠ fail) (hr : Rel ρ e s) : Nx ρ e k t (match d with | some d => s.set d (.tuple []) | none => s) := by
  cases d with
  | none => exact .of hr h
  | some d => exact put_nx (x := .tuple []) h ht hr rfl

theorem asg_nx {e : ES} {ρ : Nat → Nat} {s : St} {d : Nat} {x : AV} {k : ES → R} (h : asgK fail e d x k = t) (ht : t ≠ fail) (hr : Rel ρ e s) (hx : below e.nx x = true) : Nx ρ e k t (asgSt s d (ren ρ x)) := by
  unfold asgK at h
  split at h
  · rename_i sz xs r
    simp only [ren, asgSt]
    cases hb : Nat.beq r 0 with
    | true =>
      rw [hb] at h
      rw [if_pos (Nat.eq_of_beq_eq_true hb)]
      have := put_nx (x := .slice sz xs 0) h ht hr (by simpa only [below] using hx)
      simpa only [ren] using this
    | false =>
      rw [hb, cond_false] at h
      rw [if_neg (fun e0 => by rw [e0] at hb; cases hb)]
      obtain ⟨e1, a1, a2, a3, a4, a5, _⟩ := demS_ok h hr
      obtain ⟨e2, b1, b2, b3, b4, b5, _⟩ := demS_ok a5 a1
      obtain ⟨e3, c1, c2, c3⟩ := put_ok (x := .slice sz xs (d + 1)) b5 ht b1 (by rw [b2, a2]; simpa only [below] using hx)
      exact ⟨ρ, e3, by simpa only [ren] using c1, by omega, fun _ _ => rfl, c3⟩
  · have : asgSt s d (ren ρ x) = s.set d (ren ρ x) := by
      rename_i hne
      cases x <;> first | rfl | exact absurd rfl (hne _ _ _)
    rw [this]; exact put_nx h ht hr hx

theorem new_nx {e : ES} {ρ : Nat → Nat} {s : St} {d : Nat} {cs : List AV} {x : Nat → AV} {k : ES → R} (h : newK e fail cs (fun b e => putK e fail d (x b) k) = t) (ht : t ≠ fail) (hr : Rel ρ e s) (hc : belowL e.nx cs = true)
    (hx : below (e.nx + 1) (x e.nx) = true) {B : Nat} (hB : s.loc B = none) : Nx ρ e k t ((s.new B (cs.map (ren ρ))).set d (ren (upd ρ e.nx B) (x e.nx))) := by
  obtain ⟨e1, a1, a2, a3, a4⟩ := new_ok h ht hr hc hB
  obtain ⟨e2, b1, b2, b3⟩ := put_ok a4 ht a1 (by rw [a2]; exact hx)
  exact ⟨_, e2, b1, by omega, upd_below, b3⟩

theorem isEmpty_ren {xs : List AV} {ρ : Nat → Nat} {sz sz' : Nat} (h : (Nat.beq sz' sz || xs.isEmpty) = true) : sz' = sz ∨ xs.map (ren ρ) = [] := by
  rcases Bool.or_eq_true _ _ ▸ h with h | h
  · exact .inl (Nat.eq_of_beq_eq_true h)
  · exact .inr (by rw [List.isEmpty_iff.1 h]; rfl)

theorem fillSE_ok (ht : t ≠ fail) {e : ES} {ρ : Nat → Nat} {s : St} (hr : Rel ρ e s) {sz : Nat} : ∀ {ps : List (Nat × MArg)} {xs : List AV} {k : List AV → R}, fillSE fail e sz xs ps k = t → belowL e.nx xs = true →
    ∃ v, belowL e.nx v = true ∧ k v = t ∧ ∀ K : List AV → Prop, K (v.map (ren ρ)) → fillS s.env sz (xs.map (ren ρ)) ps K
  | [], xs, k, h, hb => ⟨xs, hb, h, fun K hK => hK⟩
  | (i, x) :: ps, xs, k, h, hb => by
    obtain ⟨x', h1, h2, h3⟩ := argK_ok h ht hr
    obtain ⟨h4, h5⟩ := cond_ok h3 ht
    simp only [Bool.and_eq_true] at h4
    rw [eK_eq, fL_eq] at h5
    obtain ⟨v, g1, g2, g3⟩ := fillSE_ok ht hr h5 (belowL_set i hb (below_erase h2))
    refine ⟨v, g1, g2, fun K hK => ⟨by rw [h1, ren_cells, map_len]; exact Nat.eq_of_beq_eq_true h4.1.1, by rw [h1, ren_cells, ren_allc1]; exact h4.1.2, by rw [map_len]; exact Nat.lt_of_succ_le (by simpa [Nat.blt] using h4.2), ?_⟩⟩
    rw [h1, ren_erase, ← List.map_set]
    exact g3 K hK

theorem keyOKb_ok {n : Option Nat} {x : AV} (h : keyOKb n x = true) : keyOK n x := by
  unfold keyOKb at h
  split at h
  · trivial
  · exact Nat.eq_of_beq_eq_true h
  · cases h

theorem apartB_ok {e : ES} {ρ : Nat → Nat} {s : St} (hr : Rel ρ e s) {x z : MArg} (h : apartB e x z = true) : apartAV (z.ev s.env) (x.ev s.env) := by
  unfold apartB at h
  split at h
  · rename_i b' o' b o h1 h2
    obtain ⟨x1, a1, a2, a3⟩ := argK_ok h1 (by simp) hr
    obtain ⟨x2, b1, b2, b3⟩ := argK_ok h2 (by simp) hr
    injection a3 with a3; injection b3 with b3
    subst a3 b3
    rw [a1, b1]
    simp only [ren, apartAV]
    simp only [Bool.and_eq_true, Bool.not_eq_true', Option.isSome_iff_ne_none] at h
    intro hh
    have := hr.linj b' b h.1.2 h.2 hh
    subst this
    have h0 := h.1.1
    simp at h0
  · rename_i h1 h2
    obtain ⟨x1, a1, a2, a3⟩ := argK_ok h1 (by simp) hr
    obtain ⟨x2, b1, b2, b3⟩ := argK_ok h2 (by simp) hr
    injection a3 with a3; injection b3 with b3
    subst a3 b3
    rw [a1, b1]
    simp only [ren, apartAV]
  · cases h

theorem stor_nx {e : ES} {ρ : Nat → Nat} {s : St} {b off n oid : Nat} {cs : List AV} {y : AV} {k : ES → R} (h : storE fail e b off n oid cs y k = t) (ht : t ≠ fail) (hr : Rel ρ e s) (hb : e.loc.get b = some cs) (hy : below e.nx y = true) :
    storeK s (.mref (ρ b) off) (ren ρ y) n oid (Nx ρ e k t) := by
  obtain ⟨l1, l2, l3⟩ := hr.loc b cs hb
  obtain ⟨h1, h2⟩ := cond_ok h ht
  simp only [Bool.and_eq_true, Nat.ble_eq] at h1
  simp only [storeK, l2, map_len, ren_cells, ren_allc1]
  refine ⟨h1.1.1, Nat.eq_of_beq_eq_true h1.1.2, h1.2, ?_⟩
  have plain : ∀ zs : List AV, belowL e.nx zs = true → locK e fail b (some (splice cs off zs)) k = t → Nx ρ e k t (s.new (ρ b) (splice (cs.map (ren ρ)) off (zs.map (ren ρ)))) := by
    intro zs hz hl
    obtain ⟨e1, a1, a2, a3, a4, _⟩ := loc_ok hl ht hr hb (fun x hx => by injection hx with hx; subst hx; exact belowL_splice _ _ _ l3 hz)
    rw [ren_splice]
    exact ⟨ρ, e1, a1, by omega, fun _ _ => rfl, a4⟩
  split at h2
  · rename_i sz xs r
    simp only [ren, renL_map]
    cases hc : (Nat.beq r 0 || Nat.beq oid 0) with
    | true =>
      rw [hc] at h2
      rw [if_pos (by rcases Bool.or_eq_true _ _ ▸ hc with q | q; exact .inl (Nat.eq_of_beq_eq_true q); exact .inr (Nat.eq_of_beq_eq_true q))]
      rw [cond_true, fL_eq] at h2
      have := plain [.slice sz xs 0] (by simp only [belowL, Bool.and_true]; simpa only [below] using hy) h2
      simpa only [List.map_cons, List.map_nil, ren, renL_map] using this
    | false =>
      rw [hc] at h2
      rw [if_neg (by
        rintro (q | q)
        · rw [q] at hc; simp at hc
        · rw [q] at hc; simp at hc)]
      rw [cond_false] at h2
      obtain ⟨e1, a1, a2, a3, a4, a5, a6⟩ := demS_ok h2 hr
      obtain ⟨e2, b1, b2, b3, b4, b5, b6⟩ := demS_ok a5 a1
      rw [fL_eq] at b5
      have hcs : belowL e2.nx ((cs.map (fun x => demote oid (demote r x))).set off (.slice sz xs oid)) = true := by
        rw [b2, a2]
        refine belowL_set off ?_ (by simpa only [below] using hy)
        have := belowL_demote oid (belowL_demote r l3)
        rwa [List.map_map] at this
      obtain ⟨e3, c1, c2, c3, c4, _⟩ := loc_ok b5 ht b1 (b6 b _ (a6 b _ hb)) (fun x hx => by injection hx with hx; subst hx; exact hcs)
      refine ⟨ρ, e3, ?_, by omega, fun _ _ => rfl, c4⟩
      have e4 : ((cs.map (ren ρ)).map (fun x => demote oid (demote r x))).set off (.slice sz (xs.map (ren ρ)) oid) = ((cs.map (fun x => demote oid (demote r x))).set off (.slice sz xs oid)).map (ren ρ) := by
        rw [List.map_set, List.map_map, List.map_map]
        simp only [ren, renL_map]
        congr 1
        exact List.map_congr_left fun x _ => by simp only [Function.comp_apply, ren_demote]
      rw [e4]; exact c1
  · have hne : ∀ sz xs r, ren ρ y ≠ .slice sz xs r := by
      rename_i hne
      intro sz xs r hh
      cases y <;> simp only [ren] at hh <;> first | (cases hh; done) | exact hne _ _ _ rfl
    rw [fL_eq] at h2
    have := plain _ (belowL_e0 (below_cells hy)) h2
    rw [← ren_mapE0] at this
    generalize hq : ren ρ y = y' at hne
    cases y' <;> first | exact absurd rfl (hne _ _ _) | (rw [← ren_cells, hq] at this; exact this)

end
end Go.Avm
