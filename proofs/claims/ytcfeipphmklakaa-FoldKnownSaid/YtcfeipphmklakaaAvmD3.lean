/- A region that draws its order. -/
import Derived.Test.YtcfeipphmklakaaAvmD2
import Derived.Orders
namespace Go.Avm
open Go.RowKit

def slotIs (k : Nat) : MArg → Bool
  | .t n => n == k
  | _ => false

def freshIn (d : Nat) (xs : List MArg) : Bool := xs.all fun x => !slotIs d x
def okArgs (xs : List MArg) : Bool := xs.all okC

theorem ev_set {s : St} {d : Nat} {v : AV} {x : MArg} (h : slotIs d x = false) : x.ev (s.set d v).env = x.ev s.env := by
  cases x with
  | t n => simp [slotIs] at h; simp [MArg.ev, St.set, upd, h]
  | c y => rfl

theorem ev_dem {s : St} {r : Nat} {x : MArg} (h : okC x = true) : x.ev (s.dem r).env = demote r (x.ev s.env) := by
  cases x with
  | t n => rfl
  | c y =>
    cases y <;> first | rfl | skip
    simp [okC] at h
    subst h
    exact (demote_sl0 r _ _).symm

theorem fresh_mem {d : Nat} {xs : List MArg} (h : freshIn d xs = true) {x : MArg} (hx : x ∈ xs) : slotIs d x = false := by
  have := (List.all_eq_true.1 h) x hx; simpa using this

theorem set_comm (s : St) {d k : Nat} (x y : AV) (h : d ≠ k) : (s.set d x).set k y = (s.set k y).set d x := by
  simp only [St.set]; rw [upd_comm _ _ _ h]

theorem dem_set (s : St) (r d : Nat) (x : AV) : (s.set d x).dem r = (s.dem r).set d (demote r x) := by
  simp only [St.set, St.dem]
  congr 1
  funext k
  simp only [upd]; split <;> rfl

theorem new_set (s : St) (b d : Nat) (cs : List AV) (x : AV) : (s.set d x).new b cs = (s.new b cs).set d x := rfl

theorem loadAddrs_sub : ∀ (y : MOp) (d : Nat) (rd : List MArg), pureOf y = some (d, rd) → ∀ z ∈ loadAddrs y, z ∈ rd := by
  intro y
  induction y with
  | guard g want d m ih =>
    intro d' rd h z hz
    cases d with
    | none => cases h
    | some d =>
      simp only [pureOf] at h
      split at h
      · rename_i d2 xs hm
        split at h
        · injection h with h; injection h with h1 h2; subst h2
          exact List.mem_cons_of_mem _ (ih d2 xs hm z hz)
        · cases h
      · cases h
  | load d x n => intro d' rd h z hz; injection h with h; injection h with h1 h2; subst h2; simpa [loadAddrs] using hz
  | _ => intro d' rd h z hz; simp [loadAddrs] at hz

variable {P : Program}

/-- What goes before a pure operation, may go behind it: two pure ones. -/
theorem swap_pp {y i : MOp} {dy di : Nat} {ry ri : List MArg} (hy : pureOf y = some (dy, ry)) (hi : pureOf i = some (di, ri)) (hd : dy ≠ di) (h1 : freshIn dy ri = true) (h2 : freshIn di ry = true)
    {s : St} {K : St → Prop} (h : vc1 P y s (fun s1 => vc1 P i s1 K)) : vc1 P i s (fun s1 => vc1 P y s1 K) := by
  rw [pv_vc1 P y dy ry hy] at h
  rw [pv_vc1 P i di ri hi]
  obtain ⟨v, hv, hk⟩ := pv_det P _ _ y _ h
  rw [pv_vc1 P i di ri hi, pv_env P (fun x => x.ev (s.set dy v).env) (fun x => x.ev s.env) _ i di ri hi (fun x hx => ev_set (fresh_mem h1 hx))] at hk
  refine pv_mono P _ _ i _ _ (fun u hu => ?_) hk
  rw [pv_vc1 P y dy ry hy, pv_env P (fun x => x.ev (s.set di u).env) (fun x => x.ev s.env) _ y dy ry hy (fun x hx => ev_set (fresh_mem h2 hx))]
  refine pv_mono P _ _ y _ _ (fun w hw => ?_) hv
  subst hw
  rw [set_comm s u w (Ne.symm hd)]
  exact hu

/-- A pure operation behind a state that is demoted, extended by a block, and written at another slot. -/
theorem pure_after {y : MOp} {dy : Nat} {ry : List MArg} (hy : pureOf y = some (dy, ry)) (hok : okArgs ry = true) {s : St} {v : AV} (hv : pv P (fun x => x.ev s.env) s.loc y (· = v)) (r : Nat) :
    pv P (fun x => x.ev (s.dem r).env) (s.dem r).loc y (· = demote r v) :=
  pv_dem P _ _ s.loc r y dy ry hy (fun x hx => ev_dem ((List.all_eq_true.1 hok) x hx)) v hv

theorem pure_set {y : MOp} {dy : Nat} {ry : List MArg} (hy : pureOf y = some (dy, ry)) {d : Nat} (hf : freshIn d ry = true) {s : St} {w : AV} {K : AV → Prop} (hv : pv P (fun x => x.ev s.env) s.loc y K) :
    pv P (fun x => x.ev (s.set d w).env) (s.set d w).loc y K := by
  rw [pv_env P (fun x => x.ev (s.set d w).env) (fun x => x.ev s.env) _ y dy ry hy (fun x hx => ev_set (fresh_mem hf hx))]
  exact hv

theorem swap_alloc {y : MOp} {dy di : Nat} {ry : List MArg} {z : List AV} (hy : pureOf y = some (dy, ry)) (hd : dy ≠ di) (h2 : freshIn di ry = true)
    {s : St} {K : St → Prop} (h : vc1 P y s (fun s1 => vc1 P (.alloc di z) s1 K)) : vc1 P (.alloc di z) s (fun s1 => vc1 P y s1 K) := by
  rw [pv_vc1 P y dy ry hy] at h
  obtain ⟨v, hv, hk⟩ := pv_det P _ _ y _ h
  intro b hb
  rw [pv_vc1 P y dy ry hy]
  have h3 := pv_new P _ _ b z hb y _ hv
  have h4 := pure_set (P := P) hy (d := di) h2 (s := s.new b z) (w := .mref b 0) h3
  refine pv_mono P _ _ y _ _ (fun w hw => ?_) h4
  subst hw
  have := hk b hb
  rw [new_set, set_comm _ w _ hd] at this
  exact this

theorem swap_alloc2 {d1 d2 : Nat} {z1 z2 : List AV} (hd : d1 ≠ d2) {s : St} {K : St → Prop} (h : vc1 P (.alloc d1 z1) s (fun s1 => vc1 P (.alloc d2 z2) s1 K)) : vc1 P (.alloc d2 z2) s (fun s1 => vc1 P (.alloc d1 z1) s1 K) := by
  intro b2 hb2 b1 hb1
  simp only [St.set, St.new] at hb1
  by_cases e : b1 = b2
  · subst e; simp [upd] at hb1
  · rw [upd_ne _ _ e] at hb1
    have := h b1 hb1 b2 (by simp only [St.set, St.new]; rw [upd_ne _ _ (Ne.symm e)]; exact hb2)
    have e2 : (((s.new b2 z2).set d2 (.mref b2 0)).new b1 z1).set d1 (.mref b1 0) = (((s.new b1 z1).set d1 (.mref b1 0)).new b2 z2).set d2 (.mref b2 0) := by
      simp only [St.set, St.new]
      rw [upd_comm _ _ _ hd, upd_comm _ _ _ e]
    rw [e2]; exact this

theorem fillS_mono (e : Nat → AV) (sz : Nat) : ∀ (ps : List (Nat × MArg)) (xs : List AV) (K K' : List AV → Prop), (∀ v, K v → K' v) → fillS e sz xs ps K → fillS e sz xs ps K'
  | [], _, _, _, h, hv => h _ hv
  | _ :: ps, _, K, K', h, hv => ⟨hv.1, hv.2.1, hv.2.2.1, fillS_mono e sz ps _ K K' h hv.2.2.2⟩
theorem fillS_env (e e' : Nat → AV) (sz : Nat) : ∀ (ps : List (Nat × MArg)) (xs : List AV) (K : List AV → Prop), (∀ x ∈ ps.map (·.2), (x.ev e).cells.length = (x.ev e').cells.length ∧ (x.ev e).cells.all AV.cell1 = (x.ev e').cells.all AV.cell1 ∧ (x.ev e).erase = (x.ev e').erase) → fillS e sz xs ps K = fillS e' sz xs ps K
  | [], _, _, _ => rfl
  | (i, x) :: ps, xs, K, h => by
    obtain ⟨h1, h2, h3⟩ := h x (by simp)
    simp only [fillS, h1, h2, h3, fillS_env e e' sz ps _ K (fun y hy => h y (by simp at hy ⊢; exact .inr hy))]

theorem swap_mkS {y : MOp} {dy di n sz : Nat} {ry : List MArg} {z : List AV} {ps : List (Nat × MArg)} (hy : pureOf y = some (dy, ry)) (hd : dy ≠ di) (h1 : freshIn dy (ps.map (·.2)) = true) (h2 : freshIn di ry = true) (hok : okArgs ry = true)
    {s : St} {K : St → Prop} (h : vc1 P y s (fun s1 => vc1 P (.mkS di n sz z ps) s1 K)) : vc1 P (.mkS di n sz z ps) s (fun s1 => vc1 P y s1 K) := by
  rw [pv_vc1 P y dy ry hy] at h
  obtain ⟨v, hv, hk⟩ := pv_det P _ _ y _ h
  simp only [vc1] at hk ⊢
  rw [fillS_env (s.set dy v).env s.env sz ps _ _ (fun x hx => by rw [ev_set (fresh_mem h1 hx)]; exact ⟨rfl, rfl, rfl⟩)] at hk
  refine fillS_mono _ _ ps _ _ _ (fun xs hxs => ?_) hk
  rw [pv_vc1 P y dy ry hy]
  have h4 := pure_set (P := P) hy (d := di) h2 (s := s.dem (di + 1)) (w := .slice sz xs (di + 1)) (pure_after hy hok hv (di + 1))
  refine pv_mono P _ _ y _ _ (fun w hw => ?_) h4
  subst hw
  rw [dem_set, set_comm _ _ _ hd] at hxs
  exact hxs

theorem swap_app {y : MOp} {dy di sz bytes : Nat} {ry : List MArg} {x x' : MArg} (hy : pureOf y = some (dy, ry)) (hd : dy ≠ di) (h1 : freshIn dy [x, x'] = true) (h2 : freshIn di ry = true) (hok : okArgs ry = true)
    {s : St} {K : St → Prop} (h : vc1 P y s (fun s1 => vc1 P (.app di x x' sz bytes) s1 K)) : vc1 P (.app di x x' sz bytes) s (fun s1 => vc1 P y s1 K) := by
  rw [pv_vc1 P y dy ry hy] at h
  obtain ⟨v, hv, hk⟩ := pv_det P _ _ y _ h
  simp only [vc1] at hk ⊢
  rw [ev_set (fresh_mem h1 (x := x) (by simp)), ev_set (fresh_mem h1 (x := x') (by simp))] at hk
  split at hk
  · rename_i szx xs r szy ys r2 e1 e2
    obtain ⟨g1, g2, g3, g4, g5, hk⟩ := hk
    refine ⟨g1, g2, g3, g4, g5, ?_⟩
    rw [pv_vc1 P y dy ry hy]
    have h4 := pure_set (P := P) hy (d := di) h2 (s := (s.dem r).dem (di + 1)) (w := .slice sz (xs ++ ys) (di + 1)) (pure_after hy hok (pure_after hy hok hv r) (di + 1))
    refine pv_mono P _ _ y _ _ (fun w hw => ?_) h4
    subst hw
    rw [dem_set, dem_set, set_comm _ _ _ hd] at hk
    exact hk
  · exact hk.elim

theorem swap_store {y : MOp} {dy n oid : Nat} {ry zs : List MArg} {x x' : MArg} (hy : pureOf y = some (dy, ry)) (h1 : freshIn dy (x :: x' :: zs) = true) (hok : okArgs ry = true) (hz : ∀ z ∈ loadAddrs y, z ∈ zs)
    {s : St} {K : St → Prop} (h : vc1 P y s (fun s1 => vc1 P (.apart zs x (.store x x' n oid)) s1 K)) : vc1 P (.apart zs x (.store x x' n oid)) s (fun s1 => vc1 P y s1 K) := by
  rw [pv_vc1 P y dy ry hy] at h
  obtain ⟨v, hv, hk⟩ := pv_det P _ _ y _ h
  have e1 : x.ev (s.set dy v).env = x.ev s.env := ev_set (fresh_mem h1 (by simp))
  have e2 : x'.ev (s.set dy v).env = x'.ev s.env := ev_set (fresh_mem h1 (by simp))
  simp only [vc1] at hk ⊢
  obtain ⟨hap, hk⟩ := hk
  have hap' : ∀ z ∈ zs, apartAV (z.ev s.env) (x.ev s.env) := by
    intro z hz'
    have := hap z hz'
    rw [e1, ev_set (fresh_mem h1 (by simp [hz']))] at this
    exact this
  refine ⟨hap', ?_⟩
  rw [e1, e2] at hk
  unfold storeK at hk ⊢
  generalize hxe : x.ev s.env = xe at hk hap' ⊢
  cases xe with
  | mref b off =>
    simp only at hk ⊢
    have hloc : (s.set dy v).loc = s.loc := rfl
    rw [hloc] at hk
    cases hb : s.loc b with
    | none => rw [hb] at hk; exact hk.elim
    | some cs =>
      rw [hb] at hk
      simp only at hk ⊢
      obtain ⟨g1, g2, g3, hk⟩ := hk
      refine ⟨g1, g2, g3, ?_⟩
      -- the pure one behind the store
      have after : ∀ (s2 : St) (u : AV) (cs' : List AV), pv P (fun x => x.ev s2.env) s2.loc y (· = u) → (∀ z ∈ loadAddrs y, ∀ b' o, z.ev s2.env = .mref b' o → b' ≠ b) → K ((s2.set dy u).new b cs') → vc1 P y (s2.new b cs') K := by
        intro s2 u cs' hu hne hK
        rw [pv_vc1 P y dy ry hy]
        have : pv P (fun x => x.ev (s2.new b cs').env) (s2.new b cs').loc y (· = u) := by
          show pv P (fun x => x.ev s2.env) (s2.new b cs').loc y (· = u)
          rw [← pv_loc P (fun x => x.ev s2.env) s2.loc (s2.new b cs').loc y (fun z hz' b' o hzz => by
            simp only [St.new]; rw [upd_ne _ _ (hne z hz' b' o hzz)])]
          exact hu
        refine pv_mono P _ _ y _ _ (fun w hw => ?_) this
        subst hw
        exact hK
      have hne0 : ∀ z ∈ loadAddrs y, ∀ b' o, z.ev s.env = .mref b' o → b' ≠ b := by
        intro z hz' b' o hzz
        have := hap' z (hz z hz')
        rw [hzz] at this
        exact this
      have hokz : ∀ z ∈ loadAddrs y, okC z = true := by
        intro z hz'
        have : z ∈ ry := loadAddrs_sub y dy ry hy z hz'
        exact (List.all_eq_true.1 hok) z this
      have hdemne : ∀ (s2 : St) (r : Nat), (∀ z ∈ loadAddrs y, ∀ b' o, z.ev s2.env = .mref b' o → b' ≠ b) → ∀ z ∈ loadAddrs y, ∀ b' o, z.ev (s2.dem r).env = .mref b' o → b' ≠ b := by
        intro s2 r hh z hz' b' o hzz
        rw [ev_dem (hokz z hz')] at hzz
        refine hh z hz' b' o ?_
        cases hq : z.ev s2.env <;> rw [hq] at hzz <;> simp only [demote] at hzz <;> first | exact hzz | (cases hzz; done) | (split at hzz <;> cases hzz)
      split at hk
      · rename_i sz xs r he
        split at hk
        · rename_i hro; rw [if_pos hro]; exact after s v _ hv hne0 hk
        · rename_i hro
          rw [if_neg hro]
          refine after _ (demote oid (demote r v)) _ (pure_after hy hok (pure_after hy hok hv r) oid) (hdemne _ _ (hdemne _ _ hne0)) ?_
          rw [dem_set, dem_set] at hk
          exact hk
      · exact after s v _ hv hne0 hk
  | _ => exact hk.elim

end Go.Avm
