/- A region that draws its order: the game over all orders, and its rule. -/
import Derived.Test.YtcfeipphmklakaaAvmD3
namespace Go.Avm
open Go.RowKit

variable {P : Program}

theorem fillS_det (e : Nat → AV) (sz : Nat) : ∀ (ps : List (Nat × MArg)) (xs : List AV) (K : List AV → Prop), fillS e sz xs ps K → ∃ v, fillS e sz xs ps (· = v) ∧ K v
  | [], xs, _, hv => ⟨xs, rfl, hv⟩
  | _ :: ps, _, K, hv => by
    obtain ⟨v, h1, h2⟩ := fillS_det e sz ps _ K hv.2.2.2
    exact ⟨v, ⟨hv.1, hv.2.1, hv.2.2.1, h1⟩, h2⟩

theorem demote_comm (a b : Nat) (x : AV) : demote a (demote b x) = demote b (demote a x) := by
  cases x with
  | slice sz xs q =>
    by_cases h1 : q = b
    · subst h1
      by_cases h2 : q = a
      · subst h2; rfl
      · have e1 : demote q (.slice sz xs q) = .slice sz xs 0 := by simp [demote]
        have e2 : demote a (.slice sz xs q) = .slice sz xs q := by simp [demote, h2]
        rw [e1, e2, e1, demote_sl0]
    · by_cases h2 : q = a
      · subst h2
        have e1 : demote q (.slice sz xs q) = .slice sz xs 0 := by simp [demote]
        have e2 : demote b (.slice sz xs q) = .slice sz xs q := by simp [demote, h1]
        rw [e1, e2, e1, demote_sl0]
      · have e1 : demote a (.slice sz xs q) = .slice sz xs q := by simp [demote, h2]
        have e2 : demote b (.slice sz xs q) = .slice sz xs q := by simp [demote, h1]
        rw [e1, e2, e1]
  | _ => rfl

theorem dem_comm (s : St) (a b : Nat) : (s.dem a).dem b = (s.dem b).dem a := by
  simp only [St.dem, Option.map_map]
  congr 1
  · funext k; exact demote_comm b a _
  · funext c
    congr 1
    funext l
    simp only [Function.comp, List.map_map]
    refine List.map_congr_left fun x _ => ?_
    exact demote_comm b a x

theorem demote_own {r q sz : Nat} {xs : List AV} (h : q ≠ r) : demote r (.slice sz xs q) = .slice sz xs q := by simp [demote, h]

theorem demote_inv {r sz q : Nat} {xs : List AV} {x : AV} (h : demote r x = .slice sz xs q) (hq : q ≠ 0) : x = .slice sz xs q ∧ q ≠ r := by
  cases x <;> simp only [demote] at h <;> first | (cases h; done) | skip
  split at h
  · injection h with h1 h2 h3; exact absurd h3.symm hq
  · injection h with h1 h2 h3; subst h1 h2 h3; exact ⟨rfl, ‹_›⟩

theorem demote_inv' {r sz q : Nat} {xs : List AV} {x : AV} (h : demote r x = .slice sz xs q) : ∃ q', x = .slice sz xs q' := by
  cases x <;> simp only [demote] at h <;> first | (cases h; done) | skip
  split at h <;> (injection h with h1 h2 h3; subst h1 h2; exact ⟨_, rfl⟩)

theorem parts_env {s s' : St} {ps : List (Nat × MArg)} (h : ∀ x ∈ ps.map (·.2), ∃ f : AV → AV, (∀ y, (f y).cells.length = y.cells.length ∧ (f y).cells.all AV.cell1 = y.cells.all AV.cell1 ∧ (f y).erase = y.erase) ∧ x.ev s'.env = f (x.ev s.env)) (sz : Nat) (xs : List AV) (K : List AV → Prop) :
    fillS s'.env sz xs ps K = fillS s.env sz xs ps K :=
  fillS_env _ _ _ _ _ _ fun x hx => by obtain ⟨f, hf, e⟩ := h x hx; rw [e]; exact hf _

theorem dem_ok (r : Nat) (y : AV) : (demote r y).cells.length = y.cells.length ∧ (demote r y).cells.all AV.cell1 = y.cells.all AV.cell1 ∧ (demote r y).erase = y.erase := ⟨demote_len r y, demote_c1 r y, erase_demote r y⟩

theorem swap_mkS_app {d1 n1 sz1 d2 sz2 by2 : Nat} {z1 : List AV} {p1 : List (Nat × MArg)} {x x' : MArg} (hd : d1 ≠ d2) (h1 : freshIn d1 [x, x'] = true) (h2 : freshIn d2 (p1.map (·.2)) = true) (k1 : okArgs (p1.map (·.2)) = true) (k2 : okArgs [x, x'] = true)
    {s : St} {K : St → Prop} (h : vc1 P (.mkS d1 n1 sz1 z1 p1) s (fun s1 => vc1 P (.app d2 x x' sz2 by2) s1 K)) : vc1 P (.app d2 x x' sz2 by2) s (fun s1 => vc1 P (.mkS d1 n1 sz1 z1 p1) s1 K) := by
  simp only [vc1] at h ⊢
  obtain ⟨us, hus, hk⟩ := fillS_det _ _ _ _ _ h
  have ex : ∀ y ∈ [x, x'], y.ev ((s.dem (d1 + 1)).set d1 (.slice sz1 us (d1 + 1))).env = demote (d1 + 1) (y.ev s.env) := fun y hy => by
    rw [ev_set (fresh_mem h1 hy), ev_dem ((List.all_eq_true.1 k2) y hy)]
  rw [ex x (by simp), ex x' (by simp)] at hk
  split at hk
  · rename_i szx xs r szy ys r2 e1 e2
    obtain ⟨g1, g2, g3, g4, g5, hk⟩ := hk
    obtain ⟨e3, hr⟩ := demote_inv e1 g1
    obtain ⟨r3, e4⟩ := demote_inv' e2
    rw [e3, e4]
    refine ⟨g1, g2, g3, g4, g5, ?_⟩
    rw [parts_env (s := s) (s' := ((s.dem r).dem (d2 + 1)).set d2 (.slice sz2 (xs ++ ys) (d2 + 1))) (fun y hy => ⟨fun v => demote (d2 + 1) (demote r v), fun v => ⟨by rw [demote_len, demote_len], by rw [demote_c1, demote_c1], by rw [erase_demote, erase_demote]⟩, by
      rw [ev_set (fresh_mem h2 hy), ev_dem ((List.all_eq_true.1 k1) y hy), ev_dem ((List.all_eq_true.1 k1) y hy)]⟩)]
    refine fillS_mono _ _ _ _ _ _ (fun v hv => ?_) hus
    subst hv
    have hq : d1 + 1 ≠ d2 + 1 := by omega
    rw [dem_set, dem_set, demote_own (Ne.symm hr), demote_own hq, set_comm _ _ _ hd] at hk
    rw [dem_set, demote_own (Ne.symm hq)]
    rw [dem_comm (s.dem r) (d2 + 1) (d1 + 1), dem_comm s r (d1 + 1)]
    exact hk
  · exact hk.elim

theorem swap_mkS2 {d1 n1 sz1 d2 n2 sz2 : Nat} {z1 z2 : List AV} {p1 p2 : List (Nat × MArg)} (hd : d1 ≠ d2) (h1 : freshIn d1 (p2.map (·.2)) = true) (h2 : freshIn d2 (p1.map (·.2)) = true) (k1 : okArgs (p1.map (·.2)) = true) (k2 : okArgs (p2.map (·.2)) = true)
    {s : St} {K : St → Prop} (h : vc1 P (.mkS d1 n1 sz1 z1 p1) s (fun s1 => vc1 P (.mkS d2 n2 sz2 z2 p2) s1 K)) : vc1 P (.mkS d2 n2 sz2 z2 p2) s (fun s1 => vc1 P (.mkS d1 n1 sz1 z1 p1) s1 K) := by
  simp only [vc1] at h ⊢
  obtain ⟨us, hus, hk⟩ := fillS_det _ _ _ _ _ h
  rw [parts_env (s := s) (fun y hy => ⟨demote (d1 + 1), dem_ok _, by rw [ev_set (fresh_mem h1 hy), ev_dem ((List.all_eq_true.1 k2) y hy)]⟩)] at hk
  refine fillS_mono _ _ _ _ _ _ (fun v hv => ?_) hk
  rw [parts_env (s := s) (fun y hy => ⟨demote (d2 + 1), dem_ok _, by rw [ev_set (fresh_mem h2 hy), ev_dem ((List.all_eq_true.1 k1) y hy)]⟩)]
  refine fillS_mono _ _ _ _ _ _ (fun u hu => ?_) hus
  subst hu
  have hq : d1 + 1 ≠ d2 + 1 := by omega
  rw [dem_set, demote_own hq, set_comm _ _ _ hd, dem_comm] at hv
  rw [dem_set, demote_own (Ne.symm hq)]
  exact hv

theorem swap_gmkS {y : MOp} {dy di n sz g : Nat} {w : Bool} {ry : List MArg} {z : List AV} {ps : List (Nat × MArg)} (hy : pureOf y = some (dy, ry)) (hd : dy ≠ di) (h1 : freshIn dy (.t g :: ps.map (·.2)) = true) (h2 : freshIn di ry = true) (hok : okArgs ry = true)
    {s : St} {K : St → Prop} (h : vc1 P y s (fun s1 => vc1 P (.guard g w (some di) (.mkS di n sz z ps)) s1 K)) : vc1 P (.guard g w (some di) (.mkS di n sz z ps)) s (fun s1 => vc1 P y s1 K) := by
  rw [pv_vc1 P y dy ry hy] at h
  obtain ⟨v, hv, hk⟩ := pv_det P _ _ y _ h
  have hg : (s.set dy v).env g = s.env g := ev_set (x := .t g) (fresh_mem h1 (by simp))
  have h1' : freshIn dy (ps.map (·.2)) = true := by simp only [freshIn, List.all_cons, Bool.and_eq_true] at h1 ⊢; exact h1.2
  rw [vc1, hg] at hk
  rw [vc1]
  split at hk
  · rename_i b hb
    refine ⟨fun e => swap_mkS hy hd h1' h2 hok ?_, fun e => ?_⟩
    · rw [pv_vc1 P y dy ry hy]
      exact pv_mono P _ _ y _ _ (fun u hu => by subst hu; exact hk.1 e) hv
    · rw [pv_vc1 P y dy ry hy]
      refine pv_mono P _ _ y _ _ (fun u hu => ?_) (pure_set (P := P) hy (d := di) h2 (w := .tuple []) hv)
      subst hu
      have := hk.2 e
      rw [set_comm _ _ _ hd] at this
      exact this
  · rw [pv_vc1 P y dy ry hy]
    refine pv_mono P _ _ y _ _ (fun u hu => ?_) (pure_set (P := P) hy (d := di) h2 (w := .tuple []) hv)
    subst hu
    rw [set_comm _ _ _ hd] at hk
    exact hk
  · exact hk.elim

theorem demote_bool {r : Nat} {x : AV} {b : Bool} (h : demote r x = .lit (.bool b)) : x = .lit (.bool b) := by
  cases x <;> simp only [demote] at h <;> first | exact h | (cases h; done) | (split at h <;> cases h)

theorem guard_mkS {d n sz g : Nat} {w : Bool} {z : List AV} {ps : List (Nat × MArg)} {s : St} {K : St → Prop} (hg : s.env g = .lit (.bool w)) (h : vc1 P (.mkS d n sz z ps) s K) : vc1 P (.guard g w (some d) (.mkS d n sz z ps)) s K := by
  rw [vc1, hg]
  exact ⟨fun _ => h, fun e => (by cases w <;> cases e)⟩

def Off (w : Bool) (x : AV) : Prop := x = .lit (.bool (!w)) ∨ x = .tuple []
theorem Off.demote {w : Bool} {x : AV} (r : Nat) (h : Off w x) : Off w (Avm.demote r x) := by rcases h with rfl | rfl; exact .inl rfl; exact .inr rfl
theorem Off.undem {w : Bool} {x : AV} {r : Nat} (h : Off w (Avm.demote r x)) : Off w x := by
  rcases h with h | h
  · exact .inl (demote_bool h)
  · refine .inr ?_
    cases x <;> simp only [Avm.demote] at h <;> first | exact h | (cases h; done) | (split at h <;> cases h)
theorem guard_skip {d g : Nat} {w : Bool} {m : MOp} {s : St} {K : St → Prop} (hg : Off w (s.env g)) (h : K (s.set d (.tuple []))) : vc1 P (.guard g w (some d) m) s K := by
  rcases hg with hg | hg
  · rw [vc1, hg]
    exact ⟨fun e => (by cases w <;> cases e), fun _ => h⟩
  · rw [vc1, hg]
    exact h

theorem guard_inv {d g : Nat} {w : Bool} {m : MOp} {s : St} {K : St → Prop} (h : vc1 P (.guard g w (some d) m) s K) : (s.env g = .lit (.bool w) ∧ vc1 P m s K) ∨ (Off w (s.env g) ∧ K (s.set d (.tuple []))) := by
  rw [vc1] at h
  split at h
  · rename_i b hb
    by_cases e : b = w
    · subst e; exact .inl ⟨hb, h.1 rfl⟩
    · have e2 : b = !w := by revert e; cases b <;> cases w <;> decide
      exact .inr ⟨.inl (by rw [hb, e2]), h.2 e2⟩
  · rename_i hb
    exact .inr ⟨.inr hb, h⟩
  · exact h.elim

theorem swap_gg {d1 n1 sz1 d2 n2 sz2 g1 g2 : Nat} {w1 w2 : Bool} {z1 z2 : List AV} {p1 p2 : List (Nat × MArg)} (hd : d1 ≠ d2) (e1 : d1 ≠ g2) (e2 : d2 ≠ g1) (h1 : freshIn d1 (p2.map (·.2)) = true) (h2 : freshIn d2 (p1.map (·.2)) = true) (k1 : okArgs (p1.map (·.2)) = true) (k2 : okArgs (p2.map (·.2)) = true)
    {s : St} {K : St → Prop} (h : vc1 P (.guard g1 w1 (some d1) (.mkS d1 n1 sz1 z1 p1)) s (fun s1 => vc1 P (.guard g2 w2 (some d2) (.mkS d2 n2 sz2 z2 p2)) s1 K)) :
    vc1 P (.guard g2 w2 (some d2) (.mkS d2 n2 sz2 z2 p2)) s (fun s1 => vc1 P (.guard g1 w1 (some d1) (.mkS d1 n1 sz1 z1 p1)) s1 K) := by
  have hset : ∀ (s : St) (d g : Nat) (x : AV), d ≠ g → (s.set d x).env g = s.env g := fun s d g x e => by simp [St.set, upd, Ne.symm e]
  rcases guard_inv h with ⟨ha, h⟩ | ⟨ha, h⟩
  · have h' := h
    rw [vc1] at h'
    obtain ⟨us, hus, hk⟩ := fillS_det _ _ _ _ _ h'
    rcases guard_inv hk with ⟨hb, hk⟩ | ⟨hb, hk⟩
    · rw [hset _ _ _ _ e1] at hb
      have hb' := demote_bool (show demote (d1 + 1) (s.env g2) = _ from hb)
      refine guard_mkS hb' ?_
      have hm : vc1 P (.mkS d1 n1 sz1 z1 p1) s (fun s1 => vc1 P (.mkS d2 n2 sz2 z2 p2) s1 K) := by
        rw [vc1]
        exact fillS_mono _ _ _ _ _ _ (fun u hu => by subst hu; exact hk) hus
      have hsw := swap_mkS2 hd h1 h2 k1 k2 hm
      rw [vc1] at hsw ⊢
      refine fillS_mono _ _ _ _ _ _ (fun u hu => guard_mkS ?_ hu) hsw
      rw [hset _ _ _ _ e2]
      show demote (d2 + 1) (s.env g1) = _
      rw [ha]; rfl
    · rw [hset _ _ _ _ e1] at hb
      have hb' := Off.undem (r := d1 + 1) (show Off w2 (demote (d1 + 1) (s.env g2)) from hb)
      refine guard_skip hb' (guard_mkS (by rw [hset _ _ _ _ e2]; exact ha) ?_)
      rw [vc1, fillS_env (s.set d2 (.tuple [])).env s.env _ _ _ _ (fun x hx => by rw [ev_set (fresh_mem h2 hx)]; exact ⟨rfl, rfl, rfl⟩)]
      refine fillS_mono _ _ _ _ _ _ (fun u hu => ?_) hus
      subst hu
      rw [set_comm _ _ _ hd] at hk
      rw [dem_set]
      exact hk
  · rcases guard_inv h with ⟨hb, hk⟩ | ⟨hb, hk⟩
    · rw [hset _ _ _ _ e1] at hb
      refine guard_mkS hb ?_
      rw [vc1, fillS_env (s.set d1 (.tuple [])).env s.env _ _ _ _ (fun x hx => by rw [ev_set (fresh_mem h1 hx)]; exact ⟨rfl, rfl, rfl⟩)] at hk
      rw [vc1]
      refine fillS_mono _ _ _ _ _ _ (fun u hu => guard_skip ?_ ?_) hk
      · rw [hset _ _ _ _ e2]
        exact ha.demote (d2 + 1)
      · rw [dem_set, set_comm _ _ _ hd] at hu
        exact hu
    · rw [hset _ _ _ _ e1] at hb
      refine guard_skip hb (guard_skip (by rw [hset _ _ _ _ e2]; exact ha) ?_)
      rw [set_comm _ _ _ (Ne.symm hd)]
      exact hk

def sameT : MArg → MArg → Bool
  | .t a, .t b => a == b
  | _, _ => false

theorem sameT_eq {x y : MArg} (h : sameT x y = true) : x = y := by
  cases x <;> cases y <;> simp [sameT] at h <;> first | (rw [h]; done) | skip

/-- The first may also go behind the second. -/
def commB (y i : MOp) : Bool :=
  match pureOf y with
  | some (dy, ry) => match pureOf i with
    | some (di, ri) => dy != di && freshIn dy ri && freshIn di ry
    | none => match i with
      | .alloc di _ => dy != di && freshIn di ry
      | .mkS di _ _ _ ps => dy != di && freshIn dy (ps.map (·.2)) && freshIn di ry && okArgs ry
      | .app di x x' _ _ => dy != di && freshIn dy [x, x'] && freshIn di ry && okArgs ry
      | .guard g _ (some d) (.mkS di _ _ _ ps) => d == di && dy != di && freshIn dy (.t g :: ps.map (·.2)) && freshIn di ry && okArgs ry
      | .apart zs x (.store x1 x' _ _) => sameT x x1 && freshIn dy (x :: x' :: zs) && okArgs ry && (loadAddrs y).all fun z => zs.any (sameT z)
      | _ => false
  | none => match y, i with
    | .alloc d1 _, .alloc d2 _ => d1 != d2
    | .mkS d1 _ _ _ p1, .mkS d2 _ _ _ p2 => d1 != d2 && freshIn d1 (p2.map (·.2)) && freshIn d2 (p1.map (·.2)) && okArgs (p1.map (·.2)) && okArgs (p2.map (·.2))
    | .guard g1 _ (some c1) (.mkS d1 _ _ _ p1), .guard g2 _ (some c2) (.mkS d2 _ _ _ p2) => c1 == d1 && c2 == d2 && d1 != d2 && d1 != g2 && d2 != g1 && freshIn d1 (p2.map (·.2)) && freshIn d2 (p1.map (·.2)) && okArgs (p1.map (·.2)) && okArgs (p2.map (·.2))
    | .mkS d1 _ _ _ p1, .app d2 x x' _ _ => d1 != d2 && freshIn d1 [x, x'] && freshIn d2 (p1.map (·.2)) && okArgs (p1.map (·.2)) && okArgs [x, x']
    | _, _ => false

theorem comm_swap {y i : MOp} (h : commB y i = true) {s : St} {K : St → Prop} (hv : vc1 P y s (fun s1 => vc1 P i s1 K)) : vc1 P i s (fun s1 => vc1 P y s1 K) := by
  unfold commB at h
  split at h
  · rename_i dy ry hy
    split at h
    · rename_i di ri hi
      simp only [Bool.and_eq_true, bne_iff_ne] at h
      exact swap_pp hy hi h.1.1 h.1.2 h.2 hv
    · split at h
      · simp only [Bool.and_eq_true, bne_iff_ne] at h
        exact swap_alloc hy h.1 h.2 hv
      · simp only [Bool.and_eq_true, bne_iff_ne] at h
        exact swap_mkS hy h.1.1.1 h.1.1.2 h.1.2 h.2 hv
      · simp only [Bool.and_eq_true, bne_iff_ne] at h
        exact swap_app hy h.1.1.1 h.1.1.2 h.1.2 h.2 hv
      · simp only [Bool.and_eq_true, bne_iff_ne, beq_iff_eq] at h
        obtain ⟨⟨⟨⟨rfl, g1⟩, g2⟩, g3⟩, g4⟩ := h
        exact swap_gmkS hy g1 g2 g3 g4 hv
      · rename_i zs x x1 x' n oid hni
        simp only [Bool.and_eq_true] at h
        obtain ⟨⟨⟨h1, h2⟩, h3⟩, h4⟩ := h
        have e := sameT_eq h1
        subst e
        refine swap_store hy h2 h3 (fun z hz => ?_) hv
        have := (List.all_eq_true.1 h4) z hz
        obtain ⟨w, hw, e⟩ := List.any_eq_true.1 this
        rw [sameT_eq e]; exact hw
      · cases h
  · split at h
    · simp only [bne_iff_ne] at h
      exact swap_alloc2 h hv
    · simp only [Bool.and_eq_true, bne_iff_ne] at h
      exact swap_mkS2 h.1.1.1.1 h.1.1.1.2 h.1.1.2 h.1.2 h.2 hv
    · simp only [Bool.and_eq_true, bne_iff_ne, beq_iff_eq] at h
      obtain ⟨⟨⟨⟨⟨⟨⟨⟨rfl, rfl⟩, g1⟩, g2⟩, g3⟩, g4⟩, g5⟩, g6⟩, g7⟩ := h
      exact swap_gg g1 g2 g3 g4 g5 g6 g7 hv
    · simp only [Bool.and_eq_true, bne_iff_ne] at h
      exact swap_mkS_app h.1.1.1.1 h.1.1.1.2 h.1.1.2 h.1.2 h.2 hv
    · cases h

/-- The first of a pair that may be turned is monotone. -/
theorem comm_mono {y i : MOp} (h : commB y i = true) {s : St} {K K' : St → Prop} (hk : ∀ s, K s → K' s) (hv : vc1 P y s K) : vc1 P y s K' := by
  unfold commB at h
  split at h
  · rename_i dy ry hy
    rw [pv_vc1 P y dy ry hy] at hv ⊢
    exact pv_mono P _ _ y _ _ (fun v => hk _) hv
  · split at h
    · exact fun b hb => hk _ (hv b hb)
    · exact fillS_mono _ _ _ _ _ _ (fun v => hk _) hv
    · simp only [Bool.and_eq_true, beq_iff_eq] at h
      rcases guard_inv hv with ⟨ha, hv⟩ | ⟨ha, hv⟩
      · have e := h.1.1.1.1.1.1.1.1
        subst e
        exact guard_mkS ha (fillS_mono _ _ _ _ _ _ (fun v => hk _) hv)
      · exact guard_skip ha (hk _ hv)
    · exact fillS_mono _ _ _ _ _ _ (fun v => hk _) hv
    · cases h

theorem move_front {i : MOp} {post : List MOp} {K : St → Prop} : ∀ (pre : List MOp), (∀ y ∈ pre, commB y i = true) → ∀ s, vcs P (pre ++ i :: post) K s → vc1 P i s (vcs P (pre ++ post) K)
  | [], _, s, h => h
  | y :: pre, hc, s, h => by
    have hy := hc y (by simp)
    refine comm_swap hy (comm_mono hy (fun s1 h1 => ?_) h)
    exact move_front pre (fun z hz => hc z (by simp [hz])) s1 h1

/-- What an operation waits for, through others. -/
inductive Reach (ops : Array Oper) : Nat → Nat → Prop
  | one {i : Nat} {o : Oper} {e : Edge} (ho : ops[i]? = some o) (he : e ∈ o.after) (hb : Region.binds .any e = true) : Reach ops i e.on
  | more {i y : Nat} {o : Oper} {e : Edge} (ho : ops[i]? = some o) (he : e ∈ o.after) (hb : Region.binds .any e = true) (h : Reach ops e.on y) : Reach ops i y

/-- In this order every pair that may come the other way round may be turned. -/
def orderOK (bs : Array Nat) : List (Nat × MOp) → Bool
  | [] => true
  | (y, my) :: rest => (rest.all fun p => (bs.getD p.1 0).testBit y || commB my p.2) && orderOK bs rest

theorem mask_fold (ops : Array Oper) (acc : Array Nat) (i : Nat) (o : Oper) (ho : ops[i]? = some o) (hacc : ∀ j y, (acc.getD j 0).testBit y = true → Reach ops j y) : ∀ (es : List Edge), (∀ e ∈ es, e ∈ o.after) → ∀ (s0 : Nat),
    (∀ y, s0.testBit y = true → Reach ops i y) → ∀ y, (es.foldl (fun s e => if Region.binds .any e then s ||| 2 ^ e.on ||| acc.getD e.on 0 else s) s0).testBit y = true → Reach ops i y
  | [], _, s0, h0, y, h => h0 y h
  | e :: es, hes, s0, h0, y, h => by
    refine mask_fold ops acc i o ho hacc es (fun e he => hes e (List.mem_cons_of_mem _ he)) _ (fun z hz => ?_) y h
    dsimp only at hz
    split at hz
    · rename_i hb
      simp only [Nat.testBit_or, Bool.or_eq_true, Nat.testBit_two_pow, decide_eq_true_eq] at hz
      rcases hz with (hz | hz) | hz
      · exact h0 z hz
      · rw [← hz]; exact .one ho (hes e (List.mem_cons_self ..)) hb
      · exact .more ho (hes e (List.mem_cons_self ..)) hb (hacc _ _ hz)
    · exact h0 z hz

theorem before_reach (ops : Array Oper) : ∀ j y, ((Region.before ops).getD j 0).testBit y = true → Reach ops j y := by
  have key : ∀ (l : List Oper) (acc : Array Nat), (∀ k, l[k]? = ops[acc.size + k]?) → (∀ j y, (acc.getD j 0).testBit y = true → Reach ops j y) →
      ∀ j y, ((l.foldl (fun (acc : Array Nat) o => acc.push (o.after.foldl (fun s e => if Region.binds .any e then s ||| 2 ^ e.on ||| acc.getD e.on 0 else s) 0)) acc).getD j 0).testBit y = true → Reach ops j y := by
    intro l
    induction l with
    | nil => intro acc _ h; exact h
    | cons o l ih =>
      intro acc hl h
      have ho : ops[acc.size]? = some o := by have := hl 0; simpa using this.symm
      refine ih _ (fun k => ?_) (fun j y hj => ?_)
      · have := hl (k + 1)
        rw [Array.size_push]
        simpa [Nat.add_assoc, Nat.add_comm 1 k] using this
      · by_cases hjj : j < acc.size
        · refine h j y ?_
          simp only [Array.getD_eq_getD_getElem?, Array.getElem?_push] at hj ⊢
          rw [if_neg (by omega)] at hj
          exact hj
        · by_cases hje : j = acc.size
          · subst hje
            have e1 : ∀ M : Nat, (acc.push M).getD acc.size 0 = M := fun M => by simp
            rw [e1, ← Array.foldl_toList] at hj
            exact mask_fold ops acc acc.size o ho h o.after.toList (fun e he => by simpa using he) 0 (fun z hz => by simp at hz) y hj
          · simp only [Array.getD_eq_getD_getElem?, Array.getElem?_push] at hj
            rw [if_neg hje, Array.getElem?_eq_none (by omega)] at hj
            simp at hj
  intro j y h
  unfold Region.before at h
  rw [← Array.foldl_toList] at h
  exact key ops.toList #[] (fun k => by simp) (fun j y hj => by simp at hj) j y h

theorem ready_waits {ops : Array Oper} {listed : Array Bool} (hcl : ∀ i o, listed.getD i true = true → i < ops.size → ops[i]? = some o → o.after.all (fun e => !Region.binds .any e || listed.getD e.on false) = true) (hls : listed.size = ops.size) {i y : Nat} (h : Reach ops i y) :
    ∀ o, ops[i]? = some o → o.after.all (fun e => !Region.binds .any e || listed.getD e.on false) = true → listed.getD y false = true := by
  induction h with
  | one ho he hb =>
    intro o ho' hall
    rw [ho] at ho'; injection ho' with ho'; subst ho'
    have hl := (Array.all_eq_true_iff_forall_mem.1 hall) _ he
    simpa [hb] using hl
  | @more i y o e ho he hb h ih =>
    intro o' ho' hall
    rw [ho] at ho'; injection ho' with ho'; subst ho'
    have hl := (Array.all_eq_true_iff_forall_mem.1 hall) _ he
    simp only [hb, Bool.not_true, Bool.false_or] at hl
    have hlt : e.on < listed.size := by
      rcases Nat.lt_or_ge e.on listed.size with h3 | h3
      · exact h3
      · simp [Array.getD_eq_getD_getElem?, Array.getElem?_eq_none h3] at hl
    have ho2 : ops[e.on]? = some ops[e.on] := Array.getElem?_eq_getElem (by omega)
    refine ih _ ho2 (hcl e.on _ ?_ (by omega) ho2)
    rw [Array.getD_eq_getD_getElem?, Array.getElem?_eq_getElem hlt] at hl ⊢
    exact hl

end Go.Avm
