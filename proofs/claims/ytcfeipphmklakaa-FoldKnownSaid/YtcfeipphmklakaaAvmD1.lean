/- Operations whose order does not matter: those that hand back one value. -/
import Derived.Test.YtcfeipphmklakaaAvm15a
namespace Go.Avm

abbrev Loc := Nat → Option (List AV)

def fillKM (e : MArg → AV) (cs : List AV) : List (Nat × Nat × MArg) → (List AV → Prop) → Prop
  | [], K => K cs
  | (off, n, x) :: ps, K => (e x).cells.length = n ∧ off + n ≤ cs.length ∧ fillKM e (splice cs off ((e x).cells.map AV.erase0)) ps K

theorem fillKM_eq (e : Nat → AV) : ∀ (ps : List (Nat × Nat × MArg)) (cs : List AV) (K : List AV → Prop), fillK e cs ps K = fillKM (fun x => x.ev e) cs ps K
  | [], _, _ => rfl
  | (off, n, x) :: ps, cs, K => by simp only [fillK, fillKM, fillKM_eq e ps]
theorem fillKM_mono (e : MArg → AV) : ∀ (ps : List (Nat × Nat × MArg)) (cs : List AV) (K K' : List AV → Prop), (∀ v, K v → K' v) → fillKM e cs ps K → fillKM e cs ps K'
  | [], _, _, _, h, hv => h _ hv
  | _ :: ps, _, K, K', h, hv => ⟨hv.1, hv.2.1, fillKM_mono e ps _ K K' h hv.2.2⟩
theorem fillKM_det (e : MArg → AV) : ∀ (ps : List (Nat × Nat × MArg)) (cs : List AV) (K : List AV → Prop), fillKM e cs ps K → ∃ v, fillKM e cs ps (· = v) ∧ K v
  | [], cs, K, hv => ⟨cs, rfl, hv⟩
  | (off, n, x) :: ps, cs, K, hv => by
    obtain ⟨v, h1, h2⟩ := fillKM_det e ps _ K hv.2.2
    exact ⟨v, ⟨hv.1, hv.2.1, h1⟩, h2⟩
theorem fillKM_env (e e' : MArg → AV) : ∀ (ps : List (Nat × Nat × MArg)) (cs : List AV) (K : List AV → Prop), (∀ x ∈ ps.map (·.2.2), (e x).cells.length = (e' x).cells.length ∧ (e x).cells.map AV.erase0 = (e' x).cells.map AV.erase0) → fillKM e cs ps K = fillKM e' cs ps K
  | [], _, _, _ => rfl
  | (off, n, x) :: ps, cs, K, h => by
    obtain ⟨h1, h2⟩ := h x (by simp)
    simp only [fillKM, h1, h2, fillKM_env e e' ps _ K (fun y hy => h y (by simp at hy ⊢; exact .inr hy))]

/-- The value of an operation that only looks. -/
def pv (P : Program) (e : MArg → AV) (l : Loc) : MOp → (AV → Prop) → Prop
  | .cpy _ x, K => K (e x)
  | .cpyE _ x, K => K (e x).erase
  | .cpyS _ x, K => match e x with
    | .lit (.string t) => K (.lit (.string t))
    | _ => False
  | .boxI _ x n, K => (e x).cells.length = n ∧ K (.ref ((e x).cells.map AV.erase0))
  | .load _ x n, K => loadK l (e x) n K
  | .addr _ x off, K => match e x with
    | .ref cs => K (.ref (cs.drop off))
    | .mref b o => K (.mref b (o + off))
    | _ => False
  | .idxS _ x i sz, K => match e x, e i with
    | .slice sz' xs _, .lit (.int _ n) => sz' = sz ∧ 0 ≤ n ∧ n < xs.length ∧ K (.ref (xs.getD n.toNat .any).cells)
    | .mslice b off len _ sz', .lit (.int _ n) => sz' = sz ∧ 0 ≤ n ∧ n < len ∧ K (.mref b (off + n.toNat * sz))
    | _, _ => False
  | .idxA _ x i len sz, K => match e x, e i with
    | .ref cs, .lit (.int _ n) => 0 ≤ n ∧ n < len ∧ K (.ref (cs.drop (n.toNat * sz)))
    | .mref b off, .lit (.int _ n) => 0 ≤ n ∧ n < len ∧ K (.mref b (off + n.toNat * sz))
    | _, _ => False
  | .loadI _ x n, K => match e x with
    | .ref cs => partK cs 0 n fun v => K v.erase
    | _ => False
  | .fld _ x off n, K => match e x with
    | .agg cs => partK cs off n fun v => K v.erase
    | _ => False
  | .idxV _ x i len sz n, K => match e x, e i with
    | .agg cs, .lit (.int _ j) => 0 ≤ j ∧ j < len ∧ partK cs (j.toNat * sz) n fun v => K v.erase
    | _, _ => False
  | .idxStr _ x i, K => match e x, e i with
    | .lit (.string t), .lit (.int _ j) => 0 ≤ j ∧ j < t.size ∧ K (.lit (.int .u8 (t.data.toList.getD j.toNat 0).toNat))
    | _, _ => False
  | .len _ x, K => match e x with
    | .slice _ xs _ => K (.lit (.int .i64 xs.length))
    | .mslice _ _ len _ _ => K (.lit (.int .i64 len))
    | _ => False
  | .lenStr _ x, K => match e x with
    | .lit (.string t) => K (.lit (.int .i64 t.size))
    | _ => False
  | .lenK _ n, K => K (.lit (.int .i64 n))
  | .bin _ op x y, K => binK op (e x) (e y) K
  | .binB _ neg x y, K => match e x, e y with
    | .lit (.bool a), .lit (.bool b) => K (.lit (.bool (if neg then !(a == b) else a == b)))
    | _, _ => False
  | .build _ z ps, K => fillKM e z ps fun cs => K (.agg cs)
  | .binA _ neg n x y, K => match e x, e y with
    | .agg a, .agg b => a.length = n.length ∧ b.length = n.length ∧ ∃ q, eqCells n a b = some q ∧ K (.lit (.bool (if neg then !q else q)))
    | _, _ => False
  | .not _ x, K => match e x with
    | .lit (.bool a) => K (.lit (.bool (!a)))
    | _ => False
  | .conv _ k x, K => match e x with
    | .lit (.int _ a) => K (.lit (.int k (k.wrap a)))
    | _ => False
  | .pick _ c x y, K => match e c with
    | .lit (.bool b) => K (if b then e x else e y)
    | _ => False
  | .ext _ x i, K => match e x with
    | .tuple vs => i < vs.length ∧ K (vs.getD i .any).erase
    | _ => False
  | .maxI _ x y, K => match e x, e y with
    | .lit (.int k a), .lit (.int _ b) => K (.lit (.int k (if b > a then b else a)))
    | _, _ => False
  | .minI _ x y, K => match e x, e y with
    | .lit (.int k a), .lit (.int _ b) => K (.lit (.int k (if b < a then b else a)))
    | _, _ => False
  | .call _ f xs, K => ∃ r, PCall P f (xs.map fun x => (e x).erase) r ∧ K r.erase
  | .nilchk _ x, K => match e x with
    | .ref cs => K (.ref cs)
    | .mref b o => K (.mref b o)
    | _ => False
  | .slcHi _ x hi sz, K => match e x, e hi with
    | .slice sz' xs _, .lit (.int _ n) => (sz' = sz ∨ xs = []) ∧ 0 ≤ n ∧ n ≤ xs.length ∧ K (.slice sz (xs.take n.toNat) 0)
    | _, _ => False
  | .slcLo _ x lo sz, K => match e x, e lo with
    | .slice sz' xs _, .lit (.int _ n) => (sz' = sz ∨ xs = []) ∧ 0 ≤ n ∧ n ≤ xs.length ∧ K (.slice sz (xs.drop n.toNat) 0)
    | _, _ => False
  | .guard g want (some _) m, K => match e (.t g) with
    | .lit (.bool b) => (b = want → pv P e l m K) ∧ (b = (!want) → K (.tuple []))
    | .tuple [] => K (.tuple [])
    | _ => False
  | _, _ => False

def okC : MArg → Bool
  | .t _ => true
  | .c (.slice _ _ r) => r == 0
  | .c _ => true

/-- Its slot, and the operands that it looks at. -/
def pureOf : MOp → Option (Nat × List MArg)
  | .cpy d x | .cpyE d x | .cpyS d x | .boxI d x _ | .load d x _ | .loadI d x _ | .addr d x _ | .fld d x _ _ | .len d x | .lenStr d x | .not d x | .conv d _ x | .ext d x _ | .nilchk d x => some (d, [x])
  | .idxS d x y _ | .idxA d x y _ _ | .idxV d x y _ _ _ | .idxStr d x y | .bin d _ x y | .binB d _ x y | .maxI d x y | .minI d x y | .slcHi d x y _ | .slcLo d x y _ | .binA d _ _ x y => some (d, [x, y])
  | .build d _ ps => some (d, ps.map (·.2.2))
  | .lenK d _ => some (d, [])
  | .pick d c x y => some (d, [c, x, y])
  | .call d _ xs => some (d, xs)
  | .guard g _ (some d) m => match pureOf m with
    | some (d', xs) => if d' = d then some (d, .t g :: xs) else none
    | none => none
  | _ => none

theorem pv_vc1 (P : Program) : ∀ (m : MOp) (d : Nat) (rd : List MArg), pureOf m = some (d, rd) → ∀ (s : St) (K : St → Prop),
    vc1 P m s K = pv P (fun x => x.ev s.env) s.loc m (fun v => K (s.set d v)) := by
  intro m
  induction m with
  | guard g want d m ih =>
    intro d' rd h s K
    cases d with
    | none => cases h
    | some d =>
      simp only [pureOf] at h
      split at h
      · rename_i d2 xs hm
        split at h
        · rename_i e
          subst e
          injection h with h; injection h with h1 h2; subst h1
          have hg : MArg.ev s.env (.t g) = s.env g := rfl
          simp only [vc1, pv, hg]
          cases s.env g <;> first | rfl | skip
          · rename_i v
            cases v <;> first | rfl | skip
            simp only [ih d2 xs hm s K]
          · rename_i vs
            cases vs <;> rfl
        · cases h
      · cases h
  | build d z ps => intro d' rd h s K; injection h with h; injection h with h1 h2; subst h1; exact fillKM_eq _ _ _ _
  | _ => intro d rd h s K; first | (cases h; done) | (injection h with h; injection h with h1 h2; subst h1; first | rfl | (simp only [vc1, pv]; rfl))

theorem partK_mono {cs : List AV} {off : Nat} {n : Option Nat} {K K' : AV → Prop} (h : ∀ v, K v → K' v) (hv : partK cs off n K) : partK cs off n K' := by
  cases n <;> exact ⟨hv.1, h _ hv.2⟩
theorem partK_det {cs : List AV} {off : Nat} {n : Option Nat} {K : AV → Prop} (hv : partK cs off n K) : ∃ v, partK cs off n (· = v) ∧ K v := by
  cases n <;> exact ⟨_, ⟨hv.1, rfl⟩, hv.2⟩
theorem loadK_mono {l : Loc} {x : AV} {n : Option Nat} {K K' : AV → Prop} (h : ∀ v, K v → K' v) (hv : loadK l x n K) : loadK l x n K' := by
  cases x with
  | ref cs => exact partK_mono (fun v => h _) hv
  | mref b off =>
    simp only [loadK] at hv ⊢
    cases hl : l b with
    | none => rw [hl] at hv; exact hv.elim
    | some cs => rw [hl] at hv; exact partK_mono h hv
  | _ => exact hv.elim
theorem loadK_det {l : Loc} {x : AV} {n : Option Nat} {K : AV → Prop} (hv : loadK l x n K) : ∃ v, loadK l x n (· = v) ∧ K v := by
  cases x with
  | ref cs =>
    obtain ⟨v, h1, h2⟩ := partK_det (K := fun v => K v.erase) hv
    exact ⟨_, show partK cs 0 n (fun u => u.erase = v.erase) from partK_mono (fun u e => by rw [e]) h1, h2⟩
  | mref b off =>
    simp only [loadK] at hv ⊢
    cases hl : l b with
    | none => rw [hl] at hv; exact hv.elim
    | some cs => rw [hl] at hv; exact partK_det hv
  | _ => exact hv.elim
theorem binK_det {op : BinOp} {x y : AV} {K : AV → Prop} (hv : binK op x y K) : ∃ v, binK op x y (· = v) ∧ K v := by
  unfold binK at *
  split at hv
  · split at hv
    · exact ⟨_, ⟨hv.1, rfl⟩, hv.2⟩
    · exact ⟨_, ⟨hv.1, rfl⟩, hv.2⟩
    · obtain ⟨hk, hv⟩ := hv
      rename_i n1 n2
      cases op <;> simp only [binI] at hv ⊢ <;> first
        | exact hv.elim
        | exact ⟨_, ⟨hk, hv.1, hv.2.1, rfl⟩, hv.2.2⟩
        | exact ⟨_, ⟨hk, hv.1, rfl⟩, hv.2⟩
        | exact ⟨_, ⟨hk, rfl⟩, hv⟩
        | exact (n1 rfl).elim
        | exact (n2 rfl).elim
  · cases op <;> simp only [binS] at hv ⊢ <;> first
      | exact hv.elim
      | exact ⟨_, rfl, hv⟩
  · exact hv.elim
theorem binK_mono {op : BinOp} {x y : AV} {K K' : AV → Prop} (h : ∀ v, K v → K' v) (hv : binK op x y K) : binK op x y K' := by
  unfold binK at *
  split at hv
  · split at hv
    · exact ⟨hv.1, h _ hv.2⟩
    · exact ⟨hv.1, h _ hv.2⟩
    · refine ⟨hv.1, ?_⟩
      have hv := hv.2
      rename_i n1 n2
      cases op <;> simp only [binI] at hv ⊢ <;> first
        | exact hv.elim
        | exact ⟨hv.1, hv.2.1, h _ hv.2.2⟩
        | exact ⟨hv.1, h _ hv.2⟩
        | exact h _ hv
        | exact (n1 rfl).elim
        | exact (n2 rfl).elim
  · cases op <;> simp only [binS] at hv ⊢ <;> first
      | exact hv.elim
      | exact h _ hv
  · exact hv.elim

theorem pv_mono (P : Program) (e : MArg → AV) (l : Loc) : ∀ (m : MOp) (K K' : AV → Prop), (∀ v, K v → K' v) → pv P e l m K → pv P e l m K' := by
  intro m
  induction m with
  | guard g want d m ih =>
    intro K K' h hv
    cases d with
    | none => exact hv
    | some d =>
      simp only [pv] at hv ⊢
      split at hv
      · exact ⟨fun hb => ih K K' h (hv.1 hb), fun hb => h _ (hv.2 hb)⟩
      · exact h _ hv
      · exact hv
  | load d x n => intro K K' h hv; exact loadK_mono h hv
  | bin d op x y => intro K K' h hv; exact binK_mono h hv
  | call d f xs => intro K K' h ⟨r, h1, h2⟩; exact ⟨r, h1, h _ h2⟩
  | build d z ps => intro K K' h hv; exact fillKM_mono e ps z _ _ (fun _ => h _) hv
  | binA d neg n x y =>
    intro K K' h hv; simp only [pv] at hv ⊢; split at hv
    · obtain ⟨h1, h2, q, h3, h4⟩ := hv; exact ⟨h1, h2, q, h3, h _ h4⟩
    · exact hv
  | loadI d x n =>
    intro K K' h hv; simp only [pv] at hv ⊢; split at hv
    · exact partK_mono (fun v => h _) hv
    · exact hv
  | fld d x off n =>
    intro K K' h hv; simp only [pv] at hv ⊢; split at hv
    · exact partK_mono (fun v => h _) hv
    · exact hv
  | idxV d x i len sz n =>
    intro K K' h hv; simp only [pv] at hv ⊢; split at hv
    · exact ⟨hv.1, hv.2.1, partK_mono (fun v => h _) hv.2.2⟩
    · exact hv
  | _ =>
    intro K K' h hv
    simp only [pv] at hv ⊢ <;> first
      | exact h _ hv
      | exact ⟨hv.1, h _ hv.2⟩
      | (split at hv <;> first | exact hv | exact h _ hv | exact ⟨hv.1, h _ hv.2⟩ | exact ⟨hv.1, hv.2.1, h _ hv.2.2⟩ | exact ⟨hv.1, hv.2.1, hv.2.2.1, h _ hv.2.2.2⟩)
      | exact hv

theorem pv_det (P : Program) (e : MArg → AV) (l : Loc) : ∀ (m : MOp) (K : AV → Prop), pv P e l m K → ∃ v, pv P e l m (· = v) ∧ K v := by
  intro m
  induction m with
  | guard g want d m ih =>
    intro K hv
    cases d with
    | none => exact hv.elim
    | some d =>
      simp only [pv] at hv ⊢
      split at hv
      · rename_i b hb
        by_cases h1 : b = want
        · obtain ⟨v, h2, h3⟩ := ih K (hv.1 h1)
          exact ⟨v, ⟨fun _ => h2, fun h4 => absurd (h1.symm.trans h4) (by cases want <;> decide)⟩, h3⟩
        · have h4 : b = !want := by revert h1; cases b <;> cases want <;> decide
          exact ⟨.tuple [], ⟨fun h5 => absurd h5 h1, fun _ => rfl⟩, hv.2 h4⟩
      · exact ⟨_, rfl, hv⟩
      · exact hv.elim
  | load d x n => intro K hv; exact loadK_det hv
  | bin d op x y => intro K hv; exact binK_det hv
  | call d f xs => intro K ⟨r, h1, h2⟩; exact ⟨_, ⟨r, h1, rfl⟩, h2⟩
  | build d z ps =>
    intro K hv
    obtain ⟨cs, h1, h2⟩ := fillKM_det e ps z _ hv
    exact ⟨.agg cs, fillKM_mono e ps z _ _ (fun _ h => by rw [h]) h1, h2⟩
  | binA d neg n x y =>
    intro K hv; simp only [pv] at hv ⊢; split at hv
    · obtain ⟨h1, h2, q, h3, h4⟩ := hv; exact ⟨_, ⟨h1, h2, q, h3, rfl⟩, h4⟩
    · exact hv.elim
  | loadI d x n =>
    intro K hv; simp only [pv] at hv ⊢; split at hv
    · obtain ⟨v, h1, h2⟩ := partK_det hv
      exact ⟨_, partK_mono (fun u e => by rw [e]) h1, h2⟩
    · exact hv.elim
  | fld d x off n =>
    intro K hv; simp only [pv] at hv ⊢; split at hv
    · obtain ⟨v, h1, h2⟩ := partK_det hv
      exact ⟨_, partK_mono (fun u e => by rw [e]) h1, h2⟩
    · exact hv.elim
  | idxV d x i len sz n =>
    intro K hv; simp only [pv] at hv ⊢; split at hv
    · obtain ⟨v, h1, h2⟩ := partK_det hv.2.2
      exact ⟨_, ⟨hv.1, hv.2.1, partK_mono (fun u e => by rw [e]) h1⟩, h2⟩
    · exact hv.elim
  | _ =>
    intro K hv
    simp only [pv] at hv ⊢ <;> first
      | exact ⟨_, rfl, hv⟩
      | exact ⟨_, ⟨hv.1, rfl⟩, hv.2⟩
      | (split at hv <;> first | exact hv.elim | exact ⟨_, rfl, hv⟩ | exact ⟨_, ⟨hv.1, rfl⟩, hv.2⟩ | exact ⟨_, ⟨hv.1, hv.2.1, rfl⟩, hv.2.2⟩ | exact ⟨_, ⟨hv.1, hv.2.1, hv.2.2.1, rfl⟩, hv.2.2.2⟩)
      | exact hv.elim

/-- Only its operands count. -/
theorem pv_env (P : Program) (e e' : MArg → AV) (l : Loc) : ∀ (m : MOp) (d : Nat) (rd : List MArg), pureOf m = some (d, rd) → (∀ x ∈ rd, e x = e' x) → ∀ K, pv P e l m K = pv P e' l m K := by
  intro m
  induction m with
  | guard g want d m ih =>
    intro d' rd h he K
    cases d with
    | none => cases h
    | some d =>
      simp only [pureOf] at h
      split at h
      · rename_i d2 xs hm
        split at h
        · injection h with h; injection h with h1 h2; subst h2
          simp only [pv, he (.t g) (by simp), ih d2 xs hm (fun x hx => he x (by simp [hx])) K]
        · cases h
      · cases h
  | build d z ps =>
    intro d' rd h he K
    injection h with h; injection h with h1 h2; subst h2
    exact fillKM_env e e' ps z _ (fun x hx => by rw [he x hx]; exact ⟨rfl, rfl⟩)
  | call d f xs =>
    intro d' rd h he K
    injection h with h; injection h with h1 h2; subst h2
    have : xs.map (fun x => (e x).erase) = xs.map (fun x => (e' x).erase) := List.map_congr_left fun x hx => by rw [he x hx]
    simp only [pv, this]
  | _ =>
    intro d' rd h he K
    first
      | (cases h; done)
      | (injection h with h; injection h with h1 h2; subst h2; simp only [pv, he _ (List.mem_cons_self ..), he _ (List.mem_cons_of_mem _ (List.mem_cons_self ..)), he _ (List.mem_cons_of_mem _ (List.mem_cons_of_mem _ (List.mem_cons_self ..)))]; done)
      | (injection h with h; injection h with h1 h2; subst h2; simp only [pv, he _ (List.mem_cons_self ..), he _ (List.mem_cons_of_mem _ (List.mem_cons_self ..))]; done)
      | (injection h with h; injection h with h1 h2; subst h2; simp only [pv, he _ (List.mem_cons_self ..)]; done)
      | (injection h with h; injection h with h1 h2; subst h2; simp only [pv]; done)

end Go.Avm
