/- Running resolved code: operations that hand back a value are run soundly. -/
import Derived.Test.YtcfeipphmklakaaEv4
namespace Go.Avm

section
variable {R : Type} {e : ES} {fail t : R} {ρ : Nat → Nat} {s : St} (P : Program)

theorem map_len (xs : List AV) : (xs.map (ren ρ)).length = xs.length := by simp

theorem valK_ok {m : MOp} {k : Nat → AV → R} (h : valK e fail m k = t) (ht : t ≠ fail) (hr : Rel ρ e s) :
    ∃ d v, below e.nx v = true ∧ k d v = t ∧ ∀ K : St → Prop, K (s.set d (ren ρ v)) → vc1 P m s K := by
  cases m with
  | cpy d x =>
    dsimp only [valK] at h
    obtain ⟨x, h1, h2, h3⟩ := argK_ok h ht hr
    exact ⟨d, x, h2, h3, fun K hK => by simp only [vc1, h1]; exact hK⟩
  | cpyE d x =>
    dsimp only [valK] at h
    obtain ⟨x, h1, h2, h3⟩ := argK_ok h ht hr
    rw [eK_eq] at h3
    exact ⟨d, x.erase, below_erase h2, h3, fun K hK => by simp only [vc1, h1, ren_erase]; exact hK⟩
  | cpyS d x =>
    dsimp only [valK] at h
    obtain ⟨x, h1, h2, h3⟩ := argK_ok h ht hr
    split at h3
    · exact ⟨d, _, rfl, h3, fun K hK => by simp only [vc1, h1, ren]; simpa only [ren] using hK⟩
    · exact absurd h3.symm ht
  | boxI d x n =>
    dsimp only [valK] at h
    obtain ⟨x, h1, h2, h3⟩ := argK_ok h ht hr
    obtain ⟨h4, h5⟩ := cond_ok h3 ht
    rw [fL_eq] at h5
    refine ⟨d, _, by simp only [below]; exact belowL_e0 (below_cells h2), h5, fun K hK => ?_⟩
    simp only [vc1, h1, ren_cells, ren_mapE0]
    simp only [ren, renL_map] at hK
    exact ⟨by simpa using h4, hK⟩
  | load d x n =>
    dsimp only [valK] at h
    obtain ⟨x, h1, h2, h3⟩ := argK_ok h ht hr
    split at h3
    · simp only [below] at h2
      obtain ⟨v, g1, g2, g3⟩ := partE_ok h3 ht h2
      rw [eK_eq] at g2
      refine ⟨d, v.erase, below_erase g1, g2, fun K hK => ?_⟩
      simp only [vc1, h1, ren, loadK, renL_map]
      exact g3 _ (by rw [ren_erase]; exact hK)
    · rename_i b off
      split at h3
      · rename_i cs hcs
        obtain ⟨l1, l2, l3⟩ := hr.loc b cs hcs
        obtain ⟨v, g1, g2, g3⟩ := partE_ok h3 ht l3
        refine ⟨d, v, g1, g2, fun K hK => ?_⟩
        simp only [vc1, h1, ren, loadK, l2]
        exact g3 _ hK
      · exact absurd h3.symm ht
    · exact absurd h3.symm ht
  | loadI d x n =>
    dsimp only [valK] at h
    obtain ⟨x, h1, h2, h3⟩ := argK_ok h ht hr
    split at h3
    · simp only [below] at h2
      obtain ⟨v, g1, g2, g3⟩ := partE_ok h3 ht h2
      rw [eK_eq] at g2
      refine ⟨d, v.erase, below_erase g1, g2, fun K hK => ?_⟩
      simp only [vc1, h1, ren, renL_map]
      exact g3 _ (by rw [ren_erase]; exact hK)
    · exact absurd h3.symm ht
  | addr d x off =>
    dsimp only [valK] at h
    obtain ⟨x, h1, h2, h3⟩ := argK_ok h ht hr
    split at h3
    · rw [fL_eq] at h3
      simp only [below] at h2
      refine ⟨d, _, by simp only [below]; exact belowL_drop off h2, h3, fun K hK => ?_⟩
      simp only [vc1, h1, ren, renL_map]
      simpa only [ren, renL_map, List.map_drop] using hK
    · exact ⟨d, _, by simpa only [below] using h2, h3, fun K hK => by simp only [vc1, h1, ren]; simpa only [ren] using hK⟩
    · exact absurd h3.symm ht
  | idxS d x i sz =>
    dsimp only [valK] at h
    obtain ⟨x, h1, h2, h3⟩ := argK_ok h ht hr
    obtain ⟨i, h4, h5, h6⟩ := argK_ok h3 ht hr
    split at h6
    · rename_i sz' xs r q n
      obtain ⟨c1, c2⟩ := cond_ok h6 ht
      simp only [Bool.and_eq_true] at c1
      obtain ⟨q1, q2, q3⟩ := inR_ok c1.2
      rw [fL_eq] at c2
      simp only [below] at h2
      refine ⟨d, _, by simp only [below]; exact below_cells (below_getD _ h2), c2, fun K hK => ?_⟩
      simp only [vc1, h1, h4, ren, renL_map, map_len, ren_getD, ren_cells]
      simp only [ren, renL_map] at hK
      exact ⟨Nat.eq_of_beq_eq_true c1.1, q1, q2, hK⟩
    · rename_i b off len cap sz' q n
      obtain ⟨c1, c2⟩ := cond_ok h6 ht
      simp only [Bool.and_eq_true] at c1
      obtain ⟨q1, q2, q3⟩ := inR_ok c1.2
      refine ⟨d, _, by simpa only [below] using h2, c2, fun K hK => ?_⟩
      simp only [vc1, h1, h4, ren]
      exact ⟨Nat.eq_of_beq_eq_true c1.1, q1, q2, by simpa only [ren] using hK⟩
    · exact absurd h6.symm ht
  | idxA d x i len sz =>
    dsimp only [valK] at h
    obtain ⟨x, h1, h2, h3⟩ := argK_ok h ht hr
    obtain ⟨i, h4, h5, h6⟩ := argK_ok h3 ht hr
    split at h6
    · obtain ⟨c1, c2⟩ := cond_ok h6 ht
      obtain ⟨q1, q2, q3⟩ := inR_ok c1
      rw [fL_eq] at c2
      simp only [below] at h2
      refine ⟨d, _, by simp only [below]; exact belowL_drop _ h2, c2, fun K hK => ?_⟩
      simp only [vc1, h1, h4, ren, renL_map]
      exact ⟨q1, q2, by simpa only [ren, renL_map, List.map_drop] using hK⟩
    · obtain ⟨c1, c2⟩ := cond_ok h6 ht
      obtain ⟨q1, q2, q3⟩ := inR_ok c1
      refine ⟨d, _, by simpa only [below] using h2, c2, fun K hK => ?_⟩
      simp only [vc1, h1, h4, ren]
      exact ⟨q1, q2, by simpa only [ren] using hK⟩
    · exact absurd h6.symm ht
  | fld d x off n =>
    dsimp only [valK] at h
    obtain ⟨x, h1, h2, h3⟩ := argK_ok h ht hr
    split at h3
    · simp only [below] at h2
      obtain ⟨v, g1, g2, g3⟩ := partE_ok h3 ht h2
      rw [eK_eq] at g2
      refine ⟨d, v.erase, below_erase g1, g2, fun K hK => ?_⟩
      simp only [vc1, h1, ren, renL_map]
      exact g3 _ (by rw [ren_erase]; exact hK)
    · exact absurd h3.symm ht
  | idxV d x i len sz n =>
    dsimp only [valK] at h
    obtain ⟨x, h1, h2, h3⟩ := argK_ok h ht hr
    obtain ⟨i, h4, h5, h6⟩ := argK_ok h3 ht hr
    split at h6
    · obtain ⟨c1, c2⟩ := cond_ok h6 ht
      obtain ⟨q1, q2, q3⟩ := inR_ok c1
      simp only [below] at h2
      obtain ⟨v, g1, g2, g3⟩ := partE_ok c2 ht h2
      rw [eK_eq] at g2
      refine ⟨d, v.erase, below_erase g1, g2, fun K hK => ?_⟩
      simp only [vc1, h1, h4, ren, renL_map]
      exact ⟨q1, q2, g3 _ (by rw [ren_erase]; exact hK)⟩
    · exact absurd h6.symm ht
  | idxStr d x i =>
    dsimp only [valK] at h
    obtain ⟨x, h1, h2, h3⟩ := argK_ok h ht hr
    obtain ⟨i, h4, h5, h6⟩ := argK_ok h3 ht hr
    split at h6
    · obtain ⟨c1, c2⟩ := cond_ok h6 ht
      obtain ⟨q1, q2, q3⟩ := inR_ok c1
      refine ⟨d, _, rfl, c2, fun K hK => ?_⟩
      simp only [vc1, h1, h4, ren]
      exact ⟨q1, q2, by simpa only [ren] using hK⟩
    · exact absurd h6.symm ht
  | len d x =>
    dsimp only [valK] at h
    obtain ⟨x, h1, h2, h3⟩ := argK_ok h ht hr
    split at h3
    · exact ⟨d, _, rfl, h3, fun K hK => by simp only [vc1, h1, ren, renL_map, map_len]; simpa only [ren] using hK⟩
    · exact ⟨d, _, rfl, h3, fun K hK => by simp only [vc1, h1, ren]; simpa only [ren] using hK⟩
    · exact absurd h3.symm ht
  | lenStr d x =>
    dsimp only [valK] at h
    obtain ⟨x, h1, h2, h3⟩ := argK_ok h ht hr
    split at h3
    · exact ⟨d, _, rfl, h3, fun K hK => by simp only [vc1, h1, ren]; simpa only [ren] using hK⟩
    · exact absurd h3.symm ht
  | lenK d n =>
    dsimp only [valK] at h
    exact ⟨d, _, rfl, h, fun K hK => by simp only [vc1]; simpa only [ren] using hK⟩
  | bin d op x y =>
    dsimp only [valK] at h
    obtain ⟨x, h1, h2, h3⟩ := argK_ok h ht hr
    obtain ⟨y, h4, h5, h6⟩ := argK_ok h3 ht hr
    split at h6
    · rename_i v hv
      obtain ⟨e1, e2⟩ := binKb_ren hv ρ
      refine ⟨d, _, rfl, h6, fun K hK => ?_⟩
      simp only [vc1, h1, h4, e1, e2]
      exact binKb_ok hv (by simpa only [ren] using hK)
    · exact absurd h6.symm ht
  | binB d neg x y =>
    dsimp only [valK] at h
    obtain ⟨x, h1, h2, h3⟩ := argK_ok h ht hr
    obtain ⟨y, h4, h5, h6⟩ := argK_ok h3 ht hr
    split at h6
    · exact ⟨d, _, rfl, h6, fun K hK => by simp only [vc1, h1, h4, ren]; simpa only [ren] using hK⟩
    · exact absurd h6.symm ht
  | build d z ps =>
    dsimp only [valK] at h
    obtain ⟨h1, h2⟩ := cond_ok h ht
    obtain ⟨v, g1, g2, g3⟩ := fillE_ok ht hr h2 (belowL_mono (Nat.zero_le _) z h1)
    refine ⟨d, _, by simp only [below]; exact g1, g2, fun K hK => ?_⟩
    have hz : z.map (ren ρ) = z := by
      have := List.map_congr_left (f := ren ρ) (g := id) (l := z) fun x hx => ren_id (belowL_iff.1 h1 x hx)
      rw [this, List.map_id]
    simp only [vc1]
    have := g3 (fun cs => K (s.set d (.agg cs))) (by simpa only [ren, renL_map] using hK)
    rw [hz] at this
    exact this
  | binA d neg n x y =>
    dsimp only [valK] at h
    obtain ⟨x, h1, h2, h3⟩ := argK_ok h ht hr
    obtain ⟨y, h4, h5, h6⟩ := argK_ok h3 ht hr
    split at h6
    · obtain ⟨c1, c2⟩ := cond_ok h6 ht
      simp only [Bool.and_eq_true] at c1
      split at c2
      · rename_i q hq
        refine ⟨d, _, rfl, c2, fun K hK => ?_⟩
        simp only [vc1, h1, h4, ren, renL_map, map_len, ren_eqCells]
        exact ⟨Nat.eq_of_beq_eq_true c1.1, Nat.eq_of_beq_eq_true c1.2, q, hq, by simpa only [ren] using hK⟩
      · exact absurd c2.symm ht
    · exact absurd h6.symm ht
  | not d x =>
    dsimp only [valK] at h
    obtain ⟨x, h1, h2, h3⟩ := argK_ok h ht hr
    split at h3
    · exact ⟨d, _, rfl, h3, fun K hK => by simp only [vc1, h1, ren]; simpa only [ren] using hK⟩
    · exact absurd h3.symm ht
  | neg d x =>
    dsimp only [valK] at h
    obtain ⟨x, h1, h2, h3⟩ := argK_ok h ht hr
    split at h3
    · obtain ⟨c1, c2⟩ := cond_ok h3 ht
      exact ⟨d, _, rfl, c2, fun K hK => by simp only [vc1, h1, ren]; exact ⟨inKb_ok c1, by simpa only [ren] using hK⟩⟩
    · exact absurd h3.symm ht
  | conv d q x =>
    dsimp only [valK] at h
    obtain ⟨x, h1, h2, h3⟩ := argK_ok h ht hr
    split at h3
    · exact ⟨d, _, rfl, h3, fun K hK => by simp only [vc1, h1, ren]; simpa only [ren] using hK⟩
    · exact absurd h3.symm ht
  | pick d c x y =>
    dsimp only [valK] at h
    obtain ⟨c, h1, h2, h3⟩ := argK_ok h ht hr
    split at h3
    · obtain ⟨x, h4, h5, h6⟩ := argK_ok h3 ht hr
      exact ⟨d, x, h5, h6, fun K hK => by simp only [vc1, h1, ren, if_true, h4]; exact hK⟩
    · obtain ⟨y, h4, h5, h6⟩ := argK_ok h3 ht hr
      exact ⟨d, y, h5, h6, fun K hK => by simp only [vc1, h1, ren, Bool.false_eq_true, if_false, h4]; exact hK⟩
    · exact absurd h3.symm ht
  | ext d x i =>
    dsimp only [valK] at h
    obtain ⟨x, h1, h2, h3⟩ := argK_ok h ht hr
    split at h3
    · obtain ⟨c1, c2⟩ := cond_ok h3 ht
      rw [eK_eq] at c2
      simp only [below] at h2
      refine ⟨d, _, below_erase (below_getD i h2), c2, fun K hK => ?_⟩
      simp only [vc1, h1, ren, renL_map, map_len, ren_getD, ren_erase]
      exact ⟨Nat.lt_of_succ_le (by simpa [Nat.blt] using c1), hK⟩
    · exact absurd h3.symm ht
  | maxI d x y =>
    dsimp only [valK] at h
    obtain ⟨x, h1, h2, h3⟩ := argK_ok h ht hr
    obtain ⟨y, h4, h5, h6⟩ := argK_ok h3 ht hr
    split at h6
    · exact ⟨d, _, rfl, h6, fun K hK => by simp only [vc1, h1, h4, ren]; simpa only [ren] using hK⟩
    · exact absurd h6.symm ht
  | minI d x y =>
    dsimp only [valK] at h
    obtain ⟨x, h1, h2, h3⟩ := argK_ok h ht hr
    obtain ⟨y, h4, h5, h6⟩ := argK_ok h3 ht hr
    split at h6
    · exact ⟨d, _, rfl, h6, fun K hK => by simp only [vc1, h1, h4, ren]; simpa only [ren] using hK⟩
    · exact absurd h6.symm ht
  | nilchk d x =>
    dsimp only [valK] at h
    obtain ⟨x, h1, h2, h3⟩ := argK_ok h ht hr
    split at h3
    · exact ⟨d, _, h2, h3, fun K hK => by simp only [vc1, h1, ren]; simpa only [ren] using hK⟩
    · exact ⟨d, _, h2, h3, fun K hK => by simp only [vc1, h1, ren]; simpa only [ren] using hK⟩
    · exact absurd h3.symm ht
  | slcHi d x hi sz =>
    dsimp only [valK] at h
    obtain ⟨x, h1, h2, h3⟩ := argK_ok h ht hr
    obtain ⟨i, h4, h5, h6⟩ := argK_ok h3 ht hr
    split at h6
    · rename_i sz' xs r q n
      obtain ⟨c1, c2⟩ := cond_ok h6 ht
      simp only [Bool.and_eq_true, Bool.or_eq_true, List.isEmpty_iff] at c1
      obtain ⟨q1, q2⟩ := inR'_ok c1.2
      rw [fL_eq] at c2
      simp only [below] at h2
      refine ⟨d, _, by simp only [below]; exact belowL_take _ h2, c2, fun K hK => ?_⟩
      simp only [vc1, h1, h4, ren, renL_map, map_len]
      exact ⟨c1.1.imp Nat.eq_of_beq_eq_true (fun e => by rw [e]; rfl), q1, q2, by simpa only [ren, renL_map, List.map_take] using hK⟩
    · exact absurd h6.symm ht
  | slcLo d x lo sz =>
    dsimp only [valK] at h
    obtain ⟨x, h1, h2, h3⟩ := argK_ok h ht hr
    obtain ⟨i, h4, h5, h6⟩ := argK_ok h3 ht hr
    split at h6
    · rename_i sz' xs r q n
      obtain ⟨c1, c2⟩ := cond_ok h6 ht
      simp only [Bool.and_eq_true, Bool.or_eq_true, List.isEmpty_iff] at c1
      obtain ⟨q1, q2⟩ := inR'_ok c1.2
      rw [fL_eq] at c2
      simp only [below] at h2
      refine ⟨d, _, by simp only [below]; exact belowL_drop _ h2, c2, fun K hK => ?_⟩
      simp only [vc1, h1, h4, ren, renL_map, map_len]
      exact ⟨c1.1.imp Nat.eq_of_beq_eq_true (fun e => by rw [e]; rfl), q1, q2, by simpa only [ren, renL_map, List.map_drop] using hK⟩
    · exact absurd h6.symm ht
  | strLo d x lo =>
    dsimp only [valK] at h
    obtain ⟨x, h1, h2, h3⟩ := argK_ok h ht hr
    obtain ⟨i, h4, h5, h6⟩ := argK_ok h3 ht hr
    split at h6
    · obtain ⟨c1, c2⟩ := cond_ok h6 ht
      obtain ⟨q1, q2⟩ := inR'_ok c1
      exact ⟨d, _, rfl, c2, fun K hK => by simp only [vc1, h1, h4, ren]; exact ⟨q1, by omega, by simpa only [ren] using hK⟩⟩
    · exact absurd h6.symm ht
  | mkfn d fn a b =>
    dsimp only [valK] at h
    obtain ⟨h0, h⟩ := cond_ok h ht
    obtain ⟨xs, h1, h2, h3⟩ := argsK_ok ht hr h
    obtain ⟨ys, h4, h5, h6⟩ := argsK_ok ht hr h3
    have hf : below e.nx (.func fn [] []) = true := below_mono (Nat.zero_le _) (.func fn [] []) (by simp only [below, belowL, h0, Bool.and_self])
    simp only [below, belowL, Bool.and_true] at hf
    refine ⟨d, _, by simp only [below, h2, h5, hf, Bool.and_self], h6, fun K hK => ?_⟩
    have hrf : renF ρ fn = fn := by cases fn <;> first | rfl | (cases h0)
    simp only [vc1, h1, h4]
    simpa only [ren, renL_map, hrf] using hK
  | _ => exact absurd (show t = fail from h.symm) ht

end
end Go.Avm
