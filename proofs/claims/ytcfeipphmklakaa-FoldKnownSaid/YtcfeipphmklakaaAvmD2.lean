/- Operations whose order does not matter: against those that make or write. -/
import Derived.Test.YtcfeipphmklakaaAvmD1
namespace Go.Avm

def loadAddrs : MOp → List MArg
  | .load _ x _ => [x]
  | .guard _ _ _ m => loadAddrs m
  | _ => []

theorem pv_loc (P : Program) (e : MArg → AV) (l l' : Loc) : ∀ (m : MOp), (∀ z ∈ loadAddrs m, ∀ b o, e z = .mref b o → l' b = l b) → ∀ K, pv P e l m K = pv P e l' m K := by
  intro m
  induction m with
  | guard g want d m ih =>
    intro h K
    cases d with
    | none => rfl
    | some d => simp only [pv, ih h K]
  | load d x n =>
    intro h K
    have h := h x (by simp [loadAddrs])
    simp only [pv]
    unfold loadK
    cases hx : e x with
    | mref b o => simp only [h b o hx]
    | _ => rfl
  | _ => intro h K; rfl

/-- A new block changes nothing that was seen. -/
theorem pv_new (P : Program) (e : MArg → AV) (l : Loc) (b : Nat) (cs : List AV) (hb : l b = none) : ∀ (m : MOp) (K : AV → Prop), pv P e l m K → pv P e (upd l b (some cs)) m K := by
  intro m
  induction m with
  | guard g want d m ih =>
    intro K hv
    cases d with
    | none => exact hv
    | some d =>
      simp only [pv] at hv ⊢
      split at hv
      · exact ⟨fun h => ih K (hv.1 h), hv.2⟩
      · exact hv
      · exact hv
  | load d x n =>
    intro K hv
    simp only [pv] at hv ⊢
    unfold loadK at hv ⊢
    cases hx : e x with
    | mref b' o =>
      rw [hx] at hv
      simp only at hv ⊢
      by_cases hbb : b' = b
      · subst hbb; rw [hb] at hv; exact hv.elim
      · rw [upd_ne _ _ hbb]; exact hv
    | ref cs => rw [hx] at hv; exact hv
    | _ => rw [hx] at hv; exact hv.elim
  | _ => intro K hv; exact hv

def demL (r : Nat) (l : Loc) : Loc := fun b => (l b).map (·.map (demote r))

theorem demote_any (r : Nat) : demote r .any = .any := rfl
theorem demote_erase (r : Nat) (x : AV) : demote r x.erase = x.erase := by
  cases x <;> first | rfl | skip
  simp only [AV.erase, demote]; split <;> rfl
theorem erase_demote (r : Nat) (x : AV) : (demote r x).erase = x.erase := by
  cases x <;> first | rfl | skip
  simp only [demote]; split <;> rfl
theorem erase0_demote (r : Nat) (x : AV) : (demote r x).erase0 = x.erase0 := by
  cases x <;> first | rfl | skip
  simp only [demote]; split <;> rfl
theorem demote_cells (r : Nat) (x : AV) : (demote r x).cells.map AV.erase0 = x.cells.map AV.erase0 := by
  cases x <;> first | rfl | skip
  simp only [demote]; split <;> rfl
theorem demote_len (r : Nat) (x : AV) : (demote r x).cells.length = x.cells.length := by
  cases x <;> first | rfl | skip
  simp only [demote]; split <;> rfl
theorem demote_c1 (r : Nat) (x : AV) : (demote r x).cells.all AV.cell1 = x.cells.all AV.cell1 := by
  cases x <;> first | rfl | skip
  simp only [demote]; split <;> rfl
theorem demote_slice (r sz : Nat) (xs : List AV) (q : Nat) : ∃ q', demote r (.slice sz xs q) = .slice sz xs q' ∧ (q = 0 → q' = 0) := by
  simp only [demote]; split
  · exact ⟨0, rfl, fun _ => rfl⟩
  · exact ⟨q, rfl, id⟩
theorem demote_sl0 (r sz : Nat) (xs : List AV) : demote r (.slice sz xs 0) = .slice sz xs 0 := by
  simp only [demote]; split <;> rfl

theorem partK_demE {cs : List AV} {off : Nat} {n : Option Nat} {v : AV} (r : Nat) (hv : partK cs off n (fun u => u.erase = v)) :
    partK cs off n (fun u => u.erase = demote r v) := by
  cases n with
  | none => exact ⟨hv.1, by rw [← hv.2, demote_erase]⟩
  | some n => exact ⟨hv.1, by rw [← hv.2, demote_erase]⟩

theorem pv_dem (P : Program) (e e' : MArg → AV) (l : Loc) (r : Nat) : ∀ (m : MOp) (d : Nat) (rd : List MArg), pureOf m = some (d, rd) → (∀ x ∈ rd, e' x = demote r (e x)) → ∀ v, pv P e l m (· = v) →
    pv P e' (demL r l) m (· = demote r v) := by
  intro m
  induction m with
  | guard g want d m ih =>
    intro d' rd h he v hv
    cases d with
    | none => exact hv
    | some d =>
      simp only [pureOf] at h
      split at h
      · rename_i d2 xs hm
        split at h
        · injection h with h; injection h with h1 h2; subst h2
          simp only [pv] at hv ⊢
          rw [he (.t g) (by simp)]
          split at hv
          · rename_i b hb
            rw [hb]
            exact ⟨fun h => ih d2 xs hm (fun x hx => he x (by simp [hx])) v (hv.1 h), fun h => by rw [← hv.2 h]; rfl⟩
          · rename_i hb
            rw [hb, ← hv]; rfl
          · exact hv.elim
        · cases h
      · cases h
  | call d f xs =>
    intro d' rd h he v ⟨q, h1, h2⟩
    injection h with h; injection h with h3 h4; subst h4
    have : xs.map (fun x => (e' x).erase) = xs.map (fun x => (e x).erase) := List.map_congr_left fun x hx => by rw [he x hx, erase_demote]
    refine ⟨q, by rw [this]; exact h1, ?_⟩
    rw [← h2, demote_erase]
  | build d z ps =>
    intro d' rd h he v hv
    injection h with h; injection h with h3 h4; subst h4
    have := fillKM_env e e' ps z (fun cs => AV.agg cs = demote r v) (fun x hx => by rw [he x hx, demote_len, demote_cells]; exact ⟨rfl, rfl⟩)
    show fillKM e' z ps _
    rw [← this]
    exact fillKM_mono e ps z _ _ (fun cs h => by rw [← h]; rfl) hv
  | binA d neg n x y =>
    intro d' rd h he v hv; injection h with h; injection h with h3 h4; subst h4
    simp only [pv] at hv ⊢
    rw [he x (by simp), he y (by simp)]
    split at hv
    · rename_i a b e1 e2
      obtain ⟨h1, h2, q, h5, h6⟩ := hv
      rw [e1, e2, ← h6]
      exact ⟨h1, h2, q, h5, rfl⟩
    · exact hv.elim
  | load d x n =>
    intro d' rd h he v hv
    injection h with h; injection h with h3 h4; subst h4
    simp only [pv] at hv ⊢
    rw [he x (by simp)]
    cases hx : e x with
    | ref cs => rw [hx] at hv; exact partK_demE r hv
    | mref b o =>
      rw [hx] at hv
      show loadK (demL r l) (.mref b o) n _
      simp only [loadK, demL] at hv ⊢
      cases hl : l b with
      | none => rw [hl] at hv; exact hv.elim
      | some cs =>
        rw [hl] at hv
        simp only [Option.map_some] at hv ⊢
        cases n with
        | none =>
          refine ⟨by simpa using hv.1, ?_⟩
          rw [← hv.2]
          have := hv.1
          simp only [List.getD_eq_getElem?_getD, List.getElem?_map, List.getElem?_eq_getElem this, Option.map_some, Option.getD_some]
        | some k =>
          refine ⟨by simpa using hv.1, ?_⟩
          rw [← hv.2, demote_erase]
          simp only [AV.erase, ← List.map_drop, ← List.map_take, List.map_map]
          congr 1
          refine List.map_congr_left fun x _ => ?_
          exact erase0_demote r x
    | _ => rw [hx] at hv; exact hv.elim
  | cpy d x => intro d' rd h he v hv; injection h with h; injection h with h3 h4; subst h4; simp only [pv] at hv ⊢; rw [he x (by simp), hv]
  | cpyE d x => intro d' rd h he v hv; injection h with h; injection h with h3 h4; subst h4; simp only [pv] at hv ⊢; rw [he x (by simp), erase_demote, ← hv, demote_erase]
  | boxI d x n => intro d' rd h he v hv; injection h with h; injection h with h3 h4; subst h4; simp only [pv] at hv ⊢; rw [he x (by simp), demote_cells, demote_len, ← hv.2]; exact ⟨hv.1, rfl⟩
  | pick d c x y =>
    intro d' rd h he v hv; injection h with h; injection h with h3 h4; subst h4
    simp only [pv] at hv ⊢
    rw [he c (by simp), he x (by simp), he y (by simp)]
    split at hv
    · rename_i b hb
      rw [hb, ← hv]
      cases b <;> rfl
    · exact hv.elim
  | ext d x i =>
    intro d' rd h he v hv; injection h with h; injection h with h3 h4; subst h4
    simp only [pv] at hv ⊢
    rw [he x (by simp)]
    split at hv
    · rename_i vs hb
      rw [hb, ← hv.2, demote_erase]
      exact ⟨hv.1, rfl⟩
    · exact hv.elim
  | idxS d x i sz =>
    intro d' rd h he v hv; injection h with h; injection h with h3 h4; subst h4
    simp only [pv] at hv ⊢
    rw [he x (by simp), he i (by simp)]
    split at hv
    · rename_i sz' xs q k n e1 e2
      obtain ⟨q', h5, _⟩ := demote_slice r sz' xs q
      rw [e1, e2, h5, ← hv.2.2.2]
      exact ⟨hv.1, hv.2.1, hv.2.2.1, rfl⟩
    · rename_i b off len cap sz' k n e1 e2
      rw [e1, e2, ← hv.2.2.2]
      exact ⟨hv.1, hv.2.1, hv.2.2.1, rfl⟩
    · exact hv.elim
  | len d x =>
    intro d' rd h he v hv; injection h with h; injection h with h3 h4; subst h4
    simp only [pv] at hv ⊢
    rw [he x (by simp)]
    split at hv
    · rename_i sz' xs q e1
      obtain ⟨q', h5, _⟩ := demote_slice r sz' xs q
      rw [e1, h5, ← hv]; rfl
    · rename_i e1
      rw [e1, ← hv]; rfl
    · exact hv.elim
  | slcHi d x i sz =>
    intro d' rd h he v hv; injection h with h; injection h with h3 h4; subst h4
    simp only [pv] at hv ⊢
    rw [he x (by simp), he i (by simp)]
    split at hv
    · rename_i sz' xs q k n e1 e2
      obtain ⟨q', h5, _⟩ := demote_slice r sz' xs q
      rw [e1, e2, h5, ← hv.2.2.2, demote_sl0]
      exact ⟨hv.1, hv.2.1, hv.2.2.1, rfl⟩
    · exact hv.elim
  | slcLo d x i sz =>
    intro d' rd h he v hv; injection h with h; injection h with h3 h4; subst h4
    simp only [pv] at hv ⊢
    rw [he x (by simp), he i (by simp)]
    split at hv
    · rename_i sz' xs q k n e1 e2
      obtain ⟨q', h5, _⟩ := demote_slice r sz' xs q
      rw [e1, e2, h5, ← hv.2.2.2, demote_sl0]
      exact ⟨hv.1, hv.2.1, hv.2.2.1, rfl⟩
    · exact hv.elim
  | loadI d x n =>
    intro d' rd h he v hv; injection h with h; injection h with h3 h4; subst h4
    simp only [pv] at hv ⊢
    rw [he x (by simp)]
    split at hv
    · rename_i cs e1; rw [e1]; exact partK_demE r hv
    · exact hv.elim
  | fld d x off n =>
    intro d' rd h he v hv; injection h with h; injection h with h3 h4; subst h4
    simp only [pv] at hv ⊢
    rw [he x (by simp)]
    split at hv
    · rename_i cs e1; rw [e1]; exact partK_demE r hv
    · exact hv.elim
  | idxV d x i len sz n =>
    intro d' rd h he v hv; injection h with h; injection h with h3 h4; subst h4
    simp only [pv] at hv ⊢
    rw [he x (by simp), he i (by simp)]
    split at hv
    · rename_i cs k j e1 e2; rw [e1, e2]; exact ⟨hv.1, hv.2.1, partK_demE r hv.2.2⟩
    · exact hv.elim
  | bin d op x y =>
    intro d' rd h he v hv; injection h with h; injection h with h3 h4; subst h4
    simp only [pv] at hv ⊢
    rw [he x (by simp), he y (by simp)]
    obtain ⟨u, h5, h6⟩ := binK_det hv
    have h6 : u = v := h6
    subst h6
    have hlit : ∃ val, u = .lit val := by
      have := binK_det hv
      unfold binK at hv
      split at hv
      · split at hv
        · exact ⟨_, hv.2.symm⟩
        · exact ⟨_, hv.2.symm⟩
        · rename_i n1 n2
          have hv := hv.2
          cases op <;> simp only [binI] at hv <;> first
            | exact hv.elim
            | exact ⟨_, hv.2.2.symm⟩
            | exact ⟨_, hv.2.symm⟩
            | exact ⟨_, hv.symm⟩
            | exact (n1 rfl).elim
            | exact (n2 rfl).elim
      · cases op <;> simp only [binS] at hv <;> first
          | exact hv.elim
          | exact ⟨_, hv.symm⟩
      · exact hv.elim
    obtain ⟨val, rfl⟩ := hlit
    have hxy : binK op (demote r (e x)) (demote r (e y)) = binK op (e x) (e y) := by
      unfold binK at hv
      split at hv
      · rename_i e1 e2; rw [e1, e2]; rfl
      · rename_i e1 e2; rw [e1, e2]; rfl
      · exact hv.elim
    rw [hxy]
    exact h5
  | addr d x off =>
    intro d' rd h he v hv; injection h with h; injection h with h3 h4; subst h4
    simp only [pv] at hv ⊢
    rw [he x (by simp)]
    split at hv <;> first | exact hv.elim | (rename_i e1; rw [e1, ← hv]; rfl)
  | idxA d x i len sz =>
    intro d' rd h he v hv; injection h with h; injection h with h3 h4; subst h4
    simp only [pv] at hv ⊢
    rw [he x (by simp), he i (by simp)]
    split at hv <;> first | exact hv.elim | (rename_i e1 e2; rw [e1, e2, ← hv.2.2]; exact ⟨hv.1, hv.2.1, rfl⟩)
  | idxStr d x i =>
    intro d' rd h he v hv; injection h with h; injection h with h3 h4; subst h4
    simp only [pv] at hv ⊢
    rw [he x (by simp), he i (by simp)]
    split at hv <;> first | exact hv.elim | (rename_i e1 e2; rw [e1, e2, ← hv.2.2]; exact ⟨hv.1, hv.2.1, rfl⟩)
  | lenK d n => intro d' rd h he v hv; simp only [pv] at hv ⊢; rw [← hv]; rfl
  | cpyS d x | lenStr d x | not d x | conv d k x | nilchk d x =>
    intro d' rd h he v hv; injection h with h; injection h with h3 h4; subst h4
    simp only [pv] at hv ⊢
    rw [he x (by simp)]
    split at hv <;> first | exact hv.elim | (rename_i e1; rw [e1, ← hv]; rfl)
  | binB d neg x y | maxI d x y | minI d x y =>
    intro d' rd h he v hv; injection h with h; injection h with h3 h4; subst h4
    simp only [pv] at hv ⊢
    rw [he x (by simp), he y (by simp)]
    split at hv <;> first | exact hv.elim | (rename_i e1 e2; rw [e1, e2, ← hv]; rfl)
  | _ => intro d' rd h; cases h

end Go.Avm
