/- A mutable slice that is written no more. -/
import Derived.Test.YtcfeipphmklakaaAvm19
namespace Go.Avm
open Go.RowKit

theorem chunk_len (sz : Nat) : ∀ (n : Nat) (cs : List AV), (chunk sz cs n).length = n
  | 0, _ => rfl
  | n + 1, cs => by rw [chunk, List.length_cons, chunk_len sz n]

theorem erase0_cell1 {x : AV} (h : x.cell1 = true) : x.erase0.cells = [x.erase0] ∧ x.erase0.cell1 = true := by
  cases x <;> first | (cases h; done) | exact ⟨rfl, rfl⟩

theorem chunk_mem (sz : Nat) : ∀ (n : Nat) (cs : List AV), n * sz ≤ cs.length → cs.all AV.cell1 = true → ∀ x ∈ chunk sz cs n, x.cells.length = sz ∧ x.cells.all AV.cell1 = true
  | 0, _, _, _ => by simp [chunk]
  | n + 1, cs, h, hc => by
    intro x hx
    rw [Nat.add_mul, Nat.one_mul] at h
    rcases List.mem_cons.1 hx with rfl | hx
    · split
      · rename_i e; subst e
        have hlt : 0 < cs.length := by omega
        have hg : (cs.getD 0 .any).cell1 = true := by
          rw [List.getD_eq_getElem?_getD, List.getElem?_eq_getElem hlt]
          exact (List.all_eq_true.1 hc) _ (List.getElem_mem _)
        obtain ⟨e1, e2⟩ := erase0_cell1 hg
        rw [e1]; exact ⟨rfl, by simp only [List.all_cons, List.all_nil, Bool.and_true]; exact e2⟩
      · refine ⟨by simp [AV.cells]; omega, List.all_eq_true.2 fun y hy => ?_⟩
        obtain ⟨z, hz, rfl⟩ := List.mem_map.1 hy
        exact (erase0_cell1 ((List.all_eq_true.1 hc) z (List.mem_of_mem_take hz))).2
    · exact chunk_mem sz n (cs.drop sz) (by simp; omega) (List.all_eq_true.2 fun y hy => (List.all_eq_true.1 hc) y (List.mem_of_mem_drop hy)) x hx

theorem chunk_flat (sz : Nat) : ∀ (n : Nat) (cs : List AV), n * sz ≤ cs.length → cs.all AV.cell1 = true → (chunk sz cs n).flatMap AV.cells = (cs.take (n * sz)).map AV.erase0
  | 0, cs, _, _ => by simp [chunk]
  | n + 1, cs, h, hc => by
    rw [Nat.add_mul, Nat.one_mul] at h
    rw [chunk, List.flatMap_cons, chunk_flat sz n (cs.drop sz) (by simp; omega) (List.all_eq_true.2 fun y hy => (List.all_eq_true.1 hc) y (List.mem_of_mem_drop hy))]
    have e : (n + 1) * sz = sz + n * sz := by rw [Nat.add_mul, Nat.one_mul, Nat.add_comm]
    rw [e, List.take_add, List.map_append]
    congr 1
    split
    · rename_i e; subst e
      have hlt : 0 < cs.length := by omega
      have hg : (cs.getD 0 .any).cell1 = true := by
        rw [List.getD_eq_getElem?_getD, List.getElem?_eq_getElem hlt]
        exact (List.all_eq_true.1 hc) _ (List.getElem_mem _)
      rw [(erase0_cell1 hg).1]
      cases cs with
      | nil => simp at hlt
      | cons x xs => simp
    · rfl

section
variable {P : Program} {C : Ctx P} {Pt : List (Nat × Obj)} {s : St} {a : Act} {w : World} {A Lx : Area} {sp : Sp} {K : St → Prop}

theorem frz_sound {k : Nat} (hk : k < gS) (h : GS C Pt s a w A Lx sp) (hv : vc1 P (.frz k) s K) : ∃ s' A', K s' ∧ GS C Pt s' a w A' Lx sp ∧ Ev w A (join (held s sp) Lx) w A' (join (held s' sp) Lx) := by
  simp only [vc1] at hv
  split at hv
  · rename_i b len cap sz e1
    split at hv
    · rename_i cs hb
      obtain ⟨h1, h2, h3, hK⟩ := hv
      obtain ⟨vs, T, hh, hsz, hr⟩ := h.rs.loc b cs hb
      let A' : Area := fun c o => A c o ∨ (c = b ∧ o < cs.length)
      have hmono : ∀ {x : AV} {v : Value}, RV w A x v → RV w A' x v := fun hx => hx.mono fun c o v ha hv => ⟨hv, .inl ha⟩
      have hspb : ∀ r, (sp r).2.1 < (sp r).2.2 → (sp r).1 ≠ b := fun r hr' e => by
        have := (h.rs.spb r hr').2
        rw [e, hb] at this; cases this
      have hrs : RS C.N ⟨upd s.env k (.slice sz (chunk sz cs len) 0), upd s.loc b none⟩ ⟨a.tmps, []⟩ w A' sp := by
        refine ⟨h.rs.size, rfl, fun d => ?_, fun c cs' hc => ?_, fun r hr' => ⟨(h.rs.spb r hr').1, ?_⟩, h.rs.spd, fun c o ha => ⟨?_, fun hl => ?_⟩⟩
        · show RV w A' (upd s.env k (AV.slice sz (chunk sz cs len) 0) d) (a.tmps.getD d undef) ∧ OwnOK sp (upd s.env k (AV.slice sz (chunk sz cs len) 0) d) (a.tmps.getD d undef)
          by_cases hd : d = k
          · subst hd
            rw [show upd s.env d (AV.slice sz (chunk sz cs len) 0) d = AV.slice sz (chunk sz cs len) 0 from upd_same _ _ _]
            have g := (h.rs.env d).1
            rw [e1] at g
            generalize a.tmps.getD d undef = v0 at g
            cases g with
            | mslice _ _ _ _ _ hlc =>
              refine ⟨?_, .inl rfl⟩
              have := RV.slice (w := w) (A := A') sz (chunk sz cs len) 0 b 0 cap (fun i => vs.getD i undef) (fun x hx => (chunk_mem sz len cs h1 h2 x hx).1) (fun x hx => (chunk_mem sz len cs h1 h2 x hx).2) (by rw [chunk_len]; exact hlc) (by rw [chunk_len]; exact h3)
                (fun i hi => ?_) (fun i => ?_)
              · rw [chunk_len] at this; exact this
              · rw [chunk_len] at hi
                refine ⟨?_, .inr ⟨rfl, by omega⟩⟩
                rw [Nat.zero_add]
                simp [World.cell?, hh, Array.getD_eq_getD_getElem?, Array.getElem?_eq_getElem (show i < vs.size by omega)]
              · rw [chunk_flat sz len cs h1 h2, getD_erase0]
                by_cases hi : i < len * sz
                · have e3 : (cs.take (len * sz)).getD i .any = cs.getD i .any := by simp only [List.getD_eq_getElem?_getD, List.getElem?_take, hi, if_true]
                  rw [e3]
                  exact (hmono (hr i).1).erase0
                · have e3 : (cs.take (len * sz)).getD i .any = .any := by simp only [List.getD_eq_getElem?_getD, List.getElem?_take, hi, if_false, Option.getD_none]
                  rw [e3]
                  exact .any _
          · rw [show upd s.env k (AV.slice sz (chunk sz cs len) 0) d = s.env d from upd_ne _ _ hd]
            exact ⟨hmono (h.rs.env d).1, (h.rs.env d).2⟩
        · simp only [upd] at hc
          split at hc
          · cases hc
          · obtain ⟨vs', T', g1, g2, g3⟩ := h.rs.loc c cs' hc
            exact ⟨vs', T', g1, g2, fun i => ⟨hmono (g3 i).1, (g3 i).2⟩⟩
        · simp only [upd]; rw [if_neg (hspb r hr')]; exact (h.rs.spb r hr').2
        · rcases ha with ha | ⟨rfl, _⟩
          · exact (h.rs.av c o ha).1
          · exact lt_of_heap hh
        · rcases ha with ha | ⟨rfl, ho⟩
          · refine (h.rs.av c o ha).2 ?_
            rcases hl with hl | hl
            · simp only [upd] at hl
              split at hl
              · exact absurd rfl hl
              · exact .inl hl
            · exact .inr hl
          · rcases hl with hl | ⟨r, q1, q2, q3⟩
            · simp [upd] at hl
            · exact hspb r (by omega) q1
      have hlive : ∀ c o, live (upd s.loc b none) sp c o → live s.loc sp c o := by
        rintro c o (hl | hl)
        · simp only [upd] at hl
          split at hl
          · exact absurd rfl hl
          · exact .inl hl
        · exact .inr hl
      have hev : Ev w A (live s.loc sp) w A' (live (upd s.loc b none) sp) := by
        refine ⟨rfl, rfl, rfl, Nat.le_refl _, fun c o _ hl => ⟨rfl, fun hh => hl (hlive c o hh)⟩, fun _ _ _ => rfl, fun _ _ ha => .inl ha, fun c o ha => ?_⟩
        rcases ha with ha | ⟨rfl, _⟩
        · exact .inl ha
        · exact .inr (.inl (.inl (by rw [hb]; exact fun e => by cases e)))
      obtain ⟨g1, g2⟩ := h.own (a' := a) hrs hev (fun q hq => upd_ne _ _ (by omega)) rfl
      exact ⟨_, A', hK, g1, g2⟩
    · exact hv.elim
  · exact hv.elim

theorem frzs_sound : ∀ (ks : List Nat) {s : St} {A : Area}, (∀ k ∈ ks, k < gS) → GS C Pt s a w A Lx sp → vcs P (ks.map .frz) K s → ∃ s' A', K s' ∧ GS C Pt s' a w A' Lx sp ∧ Ev w A (join (held s sp) Lx) w A' (join (held s' sp) Lx)
  | [], s, A, _, h, hv => ⟨s, A, hv, h, .refl _ _ _⟩
  | k :: ks, s, A, hk, h, hv => by
    obtain ⟨s1, A1, g1, g2, g3⟩ := frz_sound (hk k (List.mem_cons_self ..)) h hv
    obtain ⟨s2, A2, g4, g5, g6⟩ := frzs_sound ks (fun q hq => hk q (List.mem_cons_of_mem _ hq)) g2 g1
    exact ⟨s2, A2, g4, g5, g3.trans g6⟩

theorem vcs_append (ys : List MOp) (K : St → Prop) : ∀ (xs : List MOp), vcs P (xs ++ ys) K = vcs P xs (vcs P ys K)
  | [] => rfl
  | x :: xs => by
    funext s
    show vc1 P x s (vcs P (xs ++ ys) K) = vc1 P x s (vcs P xs (vcs P ys K))
    rw [vcs_append ys K xs]
end

def fzs (ann : Ann) (N id : Nat) : List Nat := (look ann.fz id []).filter (· < N)
theorem fzs_lt {ann : Ann} {N id : Nat} (h : N ≤ gS) : ∀ k ∈ fzs ann N id, k < gS := fun k hk => by
  have := (List.mem_filter.1 hk).2
  exact Nat.lt_of_lt_of_le (by simpa using this) h

end Go.Avm
