/- Running resolved code: states, and values. -/
import Derived.Test.YtcfeipphmklakaaEv1
namespace Go.Avm

inductive T (α : Type) where
  | nil
  | node (v : Option α) (l r : T α)

def T.get {α : Type} : T α → Nat → Option α
  | .nil, _ => none
  | .node v _ _, 0 => v
  | .node _ l r, n + 1 => bif Nat.beq (n % 2) 0 then l.get (n / 2) else r.get (n / 2)

def T.set {α : Type} : Nat → T α → Nat → Option α → T α
  | 0, t, _, _ => t
  | _ + 1, .nil, 0, x => .node x .nil .nil
  | _ + 1, .node _ l r, 0, x => .node x l r
  | f + 1, .nil, n + 1, x => bif Nat.beq (n % 2) 0 then .node none (T.set f .nil (n / 2) x) .nil else .node none .nil (T.set f .nil (n / 2) x)
  | f + 1, .node v l r, n + 1, x => bif Nat.beq (n % 2) 0 then .node v (T.set f l (n / 2) x) r else .node v l (T.set f r (n / 2) x)

def T.map {α : Type} (g : α → α) : T α → T α
  | .nil => .nil
  | .node v l r => .node (v.map g) (l.map g) (r.map g)

theorem T.get_nil {α : Type} (n : Nat) : (T.nil : T α).get n = none := by cases n <;> rfl

theorem T.get_map {α : Type} (g : α → α) : ∀ (t : T α) (n : Nat), (t.map g).get n = (t.get n).map g
  | .nil, n => by rw [T.map, T.get_nil]; rfl
  | .node v l r, 0 => rfl
  | .node v l r, n + 1 => by
    simp only [T.map, T.get, T.get_map g l, T.get_map g r]
    cases Nat.beq (n % 2) 0 <;> rfl

theorem half_eq {n k : Nat} (h1 : Nat.beq (n % 2) 0 = Nat.beq (k % 2) 0) (h2 : n / 2 = k / 2) : n = k := by
  rcases Nat.mod_two_eq_zero_or_one n with h | h <;> rcases Nat.mod_two_eq_zero_or_one k with h' | h' <;> rw [h, h'] at h1 <;> first | omega | simp [Nat.beq] at h1

theorem T.get_set {α : Type} : ∀ (f : Nat) (t : T α) (n : Nat) (x : Option α) (k : Nat), n + 1 < 2 ^ f → (T.set f t n x).get k = if k = n then x else t.get k
  | 0, _, n, _, _, h => by simp at h
  | f + 1, .nil, 0, x, k, _ => by cases k with
    | zero => rfl
    | succ k =>
      rw [if_neg (by omega)]
      simp only [T.set, T.get, T.get_nil]
      cases Nat.beq (k % 2) 0 <;> rfl
  | f + 1, .node v l r, 0, x, k, _ => by cases k with
    | zero => rfl
    | succ k => rw [if_neg (by omega)]; rfl
  | f + 1, .nil, n + 1, x, k, h => by
    have h2 : n / 2 + 1 < 2 ^ f := by rw [Nat.pow_succ] at h; omega
    have ih := T.get_set f .nil (n / 2) x
    cases k with
    | zero =>
      rw [if_neg (by omega)]
      simp only [T.set]
      cases Nat.beq (n % 2) 0 <;> rfl
    | succ k =>
      simp only [T.set, T.get_nil]
      cases hn : Nat.beq (n % 2) 0 <;> cases hk : Nat.beq (k % 2) 0 <;> simp only [cond_true, cond_false, T.get, hk, ih _ h2, T.get_nil]
      · by_cases e : k = n
        · subst e; simp
        · rw [if_neg (fun e2 => e (half_eq (hk.trans hn.symm) e2)), if_neg (by omega)]
      · rw [if_neg (by intro e; have : k = n := by omega
                       subst this; rw [hn] at hk; cases hk)]
      · rw [if_neg (by intro e; have : k = n := by omega
                       subst this; rw [hn] at hk; cases hk)]
      · by_cases e : k = n
        · subst e; simp
        · rw [if_neg (fun e2 => e (half_eq (hk.trans hn.symm) e2)), if_neg (by omega)]
  | f + 1, .node v l r, n + 1, x, k, h => by
    have h2 : n / 2 + 1 < 2 ^ f := by rw [Nat.pow_succ] at h; omega
    have ihl := T.get_set f l (n / 2) x
    have ihr := T.get_set f r (n / 2) x
    cases k with
    | zero =>
      rw [if_neg (by omega)]
      simp only [T.set]
      cases Nat.beq (n % 2) 0 <;> rfl
    | succ k =>
      simp only [T.set]
      cases hn : Nat.beq (n % 2) 0 <;> cases hk : Nat.beq (k % 2) 0 <;> simp only [cond_true, cond_false, T.get, hk, ihl _ h2, ihr _ h2]
      · by_cases e : k = n
        · subst e; simp
        · rw [if_neg (fun e2 => e (half_eq (hk.trans hn.symm) e2)), if_neg (by omega)]
      · rw [if_neg (by intro e; have : k = n := by omega
                       subst this; rw [hn] at hk; cases hk)]
      · rw [if_neg (by intro e; have : k = n := by omega
                       subst this; rw [hn] at hk; cases hk)]
      · by_cases e : k = n
        · subst e; simp
        · rw [if_neg (fun e2 => e (half_eq (hk.trans hn.symm) e2)), if_neg (by omega)]

structure ES where
  env : T AV
  loc : T (List AV)
  obj : T AV
  gh : AV
  nx : Nat

def ES.at (e : ES) (k : Nat) : AV := (e.env.get k).getD .any

structure Rel (ρ : Nat → Nat) (e : ES) (s : St) : Prop where
  env : ∀ k, k < gS → s.env k = ren ρ (e.at k)
  bnd : ∀ k, below e.nx (e.at k) = true
  gh : s.env gS = ren ρ e.gh
  gb : below e.nx e.gh = true
  loc : ∀ b cs, e.loc.get b = some cs → b < e.nx ∧ s.loc (ρ b) = some (cs.map (ren ρ)) ∧ belowL e.nx cs = true
  linj : ∀ b b', e.loc.get b ≠ none → e.loc.get b' ≠ none → ρ b = ρ b' → b = b'
  obj : ∀ b x, e.obj.get b = some x → b < e.nx ∧ s.env (oS + ρ b) = x ∧ x ≠ .any
  oinj : ∀ b b', e.obj.get b ≠ none → e.obj.get b' ≠ none → ρ b = ρ b' → b = b'
  og : ∀ b x, e.obj.get b = some x → isG x = true
  gg : isG e.gh = true

mutual
theorem below_mono {n m : Nat} (h : n ≤ m) : ∀ x : AV, below n x = true → below m x = true
  | .any, _ => rfl
  | .lit _, _ => rfl
  | .slice _ xs _, hb => by simp only [below] at hb ⊢; exact belowL_mono h xs hb
  | .ref cs, hb => by simp only [below] at hb ⊢; exact belowL_mono h cs hb
  | .mref b o, hb => by simp only [below, Nat.blt, Nat.ble_eq] at hb ⊢; omega
  | .mslice b _ _ _ _, hb => by simp only [below, Nat.blt, Nat.ble_eq] at hb ⊢; omega
  | .agg cs, hb => by simp only [below] at hb ⊢; exact belowL_mono h cs hb
  | .tuple vs, hb => by simp only [below] at hb ⊢; exact belowL_mono h vs hb
  | .func f a b, hb => by
    simp only [below, Bool.and_eq_true] at hb ⊢
    refine ⟨⟨?_, belowL_mono h a hb.1.2⟩, belowL_mono h b hb.2⟩
    have hb := hb.1.1
    cases f <;> simp only [belowF, Nat.blt, Nat.ble_eq] at hb ⊢
    omega
  | .ghost _ _ _, hb => by simp only [below, Nat.blt, Nat.ble_eq] at hb ⊢; omega
  | .mapr b, hb => by simp only [below, Nat.blt, Nat.ble_eq] at hb ⊢; omega
theorem belowL_mono {n m : Nat} (h : n ≤ m) : ∀ xs : List AV, belowL n xs = true → belowL m xs = true
  | [], _ => rfl
  | x :: xs, hb => by
    simp only [belowL, Bool.and_eq_true] at hb ⊢
    exact ⟨below_mono h x hb.1, belowL_mono h xs hb.2⟩
end

theorem ren_id {ρ : Nat → Nat} {x : AV} (h : below 0 x = true) : ren ρ x = x := by
  have h1 : ren ρ x = ren id x := ren_below (n := 0) (fun b hb => by omega) x h
  rw [h1]; exact ren_self x
where
  ren_self (x : AV) : ren id x = x := by
    exact (go x)
  go : ∀ x : AV, ren id x = x
    | .any => rfl
    | .lit _ => rfl
    | .slice sz xs r => by simp only [ren, goL xs]
    | .ref cs => by simp only [ren, goL cs]
    | .mref b o => by simp only [ren, id]
    | .mslice .. => by simp only [ren, id]
    | .agg cs => by simp only [ren, goL cs]
    | .tuple vs => by simp only [ren, goL vs]
    | .func f a b => by simp only [ren, goL a, goL b]; cases f <;> simp only [renF, id]
    | .ghost .. => by simp only [ren, id]
    | .mapr _ => by simp only [ren, id]
  goL : ∀ xs : List AV, renL id xs = xs
    | [] => rfl
    | x :: xs => by simp only [renL, go x, goL xs]

section
variable {n : Nat}
theorem belowL_iff {xs : List AV} : belowL n xs = true ↔ ∀ x ∈ xs, below n x = true := by
  induction xs with
  | nil => simp [belowL]
  | cons x xs ih => simp [belowL, ih]
theorem below_cells {x : AV} (h : below n x = true) : belowL n x.cells = true := by
  cases x <;> simp only [AV.cells, belowL, below, Bool.and_true, Bool.and_eq_true] at h ⊢ <;> first | exact h | exact ⟨h, rfl⟩ | (try exact h)
theorem below_erase0 {x : AV} (h : below n x = true) : below n x.erase0 = true := by cases x <;> exact h
theorem belowL_e0 {xs : List AV} (h : belowL n xs = true) : belowL n (xs.map AV.erase0) = true := by
  rw [belowL_iff] at h ⊢
  intro y hy
  obtain ⟨z, hz, rfl⟩ := List.mem_map.1 hy
  exact below_erase0 (h z hz)
theorem below_erase {x : AV} (h : below n x = true) : below n x.erase = true := by
  cases x <;> first | exact h | (simp only [AV.erase, below] at h ⊢; exact belowL_e0 h)
theorem below_demote {x : AV} (r : Nat) (h : below n x = true) : below n (demote r x) = true := by
  cases x <;> first | exact h | (simp only [demote]; split <;> exact h)
theorem belowL_demote {xs : List AV} (r : Nat) (h : belowL n xs = true) : belowL n (xs.map (demote r)) = true := by
  rw [belowL_iff] at h ⊢
  intro y hy
  obtain ⟨z, hz, rfl⟩ := List.mem_map.1 hy
  exact below_demote r (h z hz)
theorem below_getD {xs : List AV} (i : Nat) (h : belowL n xs = true) : below n (xs.getD i .any) = true := by
  rw [belowL_iff] at h
  rw [List.getD_eq_getElem?_getD]
  cases hx : xs[i]? with
  | none => rfl
  | some x => exact h x (List.mem_of_getElem? hx)
theorem belowL_take {xs : List AV} (i : Nat) (h : belowL n xs = true) : belowL n (xs.take i) = true := by
  rw [belowL_iff] at h ⊢; exact fun x hx => h x (List.mem_of_mem_take hx)
theorem belowL_drop {xs : List AV} (i : Nat) (h : belowL n xs = true) : belowL n (xs.drop i) = true := by
  rw [belowL_iff] at h ⊢; exact fun x hx => h x (List.mem_of_mem_drop hx)
theorem belowL_set {xs : List AV} {x : AV} (i : Nat) (h : belowL n xs = true) (hx : below n x = true) : belowL n (xs.set i x) = true := by
  rw [belowL_iff] at h ⊢
  intro y hy
  rcases List.mem_or_eq_of_mem_set hy with h1 | rfl
  · exact h y h1
  · exact hx
theorem belowL_app {xs ys : List AV} (h : belowL n xs = true) (h' : belowL n ys = true) : belowL n (xs ++ ys) = true := by
  rw [belowL_iff] at h h' ⊢
  intro y hy
  rcases List.mem_append.1 hy with h1 | h1
  · exact h y h1
  · exact h' y h1
theorem belowL_splice : ∀ (ys cs : List AV) (off : Nat), belowL n cs = true → belowL n ys = true → belowL n (splice cs off ys) = true
  | [], _, _, h, _ => h
  | y :: ys, cs, off, h, h' => by
    simp only [belowL, Bool.and_eq_true] at h'
    exact belowL_splice ys _ _ (belowL_set off h h'.1) h'.2
theorem belowL_flat {xs : List AV} (h : belowL n xs = true) : belowL n (xs.flatMap AV.cells) = true := by
  rw [belowL_iff] at h ⊢
  intro y hy
  obtain ⟨z, hz, hy⟩ := List.mem_flatMap.1 hy
  exact belowL_iff.1 (below_cells (h z hz)) y hy
theorem belowL_chunk (sz : Nat) : ∀ (k : Nat) (cs : List AV), belowL n cs = true → belowL n (chunk sz cs k) = true
  | 0, _, _ => rfl
  | k + 1, cs, h => by
    simp only [chunk, belowL, Bool.and_eq_true]
    refine ⟨?_, belowL_chunk sz k _ (belowL_drop sz h)⟩
    split
    · exact below_erase0 (below_getD 0 h)
    · simp only [below]; exact belowL_e0 (belowL_take sz h)
theorem belowL_rep {x : AV} (k : Nat) (h : below n x = true) : belowL n (List.replicate k x) = true := by
  rw [belowL_iff]; intro y hy; rw [(List.mem_replicate.1 hy).2]; exact h
end
end Go.Avm
