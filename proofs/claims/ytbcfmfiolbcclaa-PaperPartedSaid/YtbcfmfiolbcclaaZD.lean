/- Running resolved code: renamings of blocks. Running resolved code: states, and values. Running resolved code: operations. Running resolved code: operations that hand back a value. Running resolved code: operations that hand back a value are run soundly. Running resolved code: the state's own steps. Running resolved code: all operations. Running resolved code: all operations are run soundly. Running resolved code: all operations are run soundly, joined. Running resolved code: control. Running resolved code: functions and iterators by their numbers. Running resolved code: calls that are known already. -/
import Derived.Test.YtbcfmfiolbcclaaZC
namespace Go.Avm

def renF (ρ : Nat → Nat) : Fn → Fn
  | .yield l => .yield (ρ l)
  | f => f
def belowF (n : Nat) : Fn → Bool
  | .yield l => Nat.blt l n
  | _ => true
theorem renF_below {n : Nat} {ρ ρ' : Nat → Nat} (h : ∀ b, b < n → ρ' b = ρ b) (f : Fn) (hb : belowF n f = true) : renF ρ' f = renF ρ f := by
  cases f <;> first | rfl | (simp only [renF]; rw [h _ (Nat.lt_of_succ_le (by simpa [belowF, Nat.blt] using hb))])

mutual
def ren (ρ : Nat → Nat) : AV → AV
  | .any => .any
  | .lit v => .lit v
  | .slice sz xs r => .slice sz (renL ρ xs) r
  | .ref cs => .ref (renL ρ cs)
  | .mref b o => .mref (ρ b) o
  | .mslice b o l c sz => .mslice (ρ b) o l c sz
  | .agg cs => .agg (renL ρ cs)
  | .tuple vs => .tuple (renL ρ vs)
  | .func fn a b => .func (renF ρ fn) (renL ρ a) (renL ρ b)
  | .ghost l r b => .ghost (ρ l) r b
  | .mapr b => .mapr (ρ b)
def renL (ρ : Nat → Nat) : List AV → List AV
  | [] => []
  | x :: xs => ren ρ x :: renL ρ xs
end

mutual
/-- Its blocks, if it tells of any, are below n. -/
def below (n : Nat) : AV → Bool
  | .any => true
  | .lit _ => true
  | .slice _ xs _ => belowL n xs
  | .ref cs => belowL n cs
  | .mref b _ => Nat.blt b n
  | .mslice b _ _ _ _ => Nat.blt b n
  | .agg cs => belowL n cs
  | .tuple vs => belowL n vs
  | .func f a b => belowF n f && belowL n a && belowL n b
  | .ghost l _ _ => Nat.blt l n
  | .mapr b => Nat.blt b n
def belowL (n : Nat) : List AV → Bool
  | [] => true
  | x :: xs => below n x && belowL n xs
end

theorem renL_map (ρ : Nat → Nat) : ∀ xs : List AV, renL ρ xs = xs.map (ren ρ)
  | [] => rfl
  | x :: xs => by rw [renL, renL_map ρ xs]; rfl

mutual
theorem ren_below {n : Nat} {ρ ρ' : Nat → Nat} (h : ∀ b, b < n → ρ' b = ρ b) : ∀ x : AV, below n x = true → ren ρ' x = ren ρ x
  | .any, _ => rfl
  | .lit _, _ => rfl
  | .slice sz xs r, hb => by simp only [ren]; rw [renL_below h xs hb]
  | .ref cs, hb => by simp only [ren]; rw [renL_below h cs hb]
  | .mref b o, hb => by simp only [ren]; rw [h b (Nat.lt_of_succ_le (by simpa [below, Nat.blt] using hb))]
  | .mslice b _ _ _ _, hb => by simp only [ren]; rw [h b (Nat.lt_of_succ_le (by simpa [below, Nat.blt] using hb))]
  | .agg cs, hb => by simp only [ren]; rw [renL_below h cs hb]
  | .tuple vs, hb => by simp only [ren]; rw [renL_below h vs hb]
  | .func f a b, hb => by
    simp only [below, Bool.and_eq_true] at hb
    simp only [ren]; rw [renF_below h f hb.1.1, renL_below h a hb.1.2, renL_below h b hb.2]
  | .ghost b _ _, hb => by simp only [ren]; rw [h b (Nat.lt_of_succ_le (by simpa [below, Nat.blt] using hb))]
  | .mapr b, hb => by simp only [ren]; rw [h b (Nat.lt_of_succ_le (by simpa [below, Nat.blt] using hb))]
theorem renL_below {n : Nat} {ρ ρ' : Nat → Nat} (h : ∀ b, b < n → ρ' b = ρ b) : ∀ xs : List AV, belowL n xs = true → renL ρ' xs = renL ρ xs
  | [], _ => rfl
  | x :: xs, hb => by
    simp only [belowL, Bool.and_eq_true] at hb
    simp only [renL]; rw [ren_below h x hb.1, renL_below h xs hb.2]
end

section
variable (ρ : Nat → Nat)

theorem ren_cells (x : AV) : (ren ρ x).cells = x.cells.map (ren ρ) := by
  cases x <;> simp only [ren, AV.cells, renL_map, List.map_cons, List.map_nil]
theorem ren_cell1 (x : AV) : (ren ρ x).cell1 = x.cell1 := by cases x <;> simp only [ren, AV.cell1]
theorem ren_erase0 (x : AV) : (ren ρ x).erase0 = ren ρ x.erase0 := by cases x <;> simp only [ren, AV.erase0]
theorem ren_erase (x : AV) : (ren ρ x).erase = ren ρ x.erase := by
  cases x <;> simp only [ren, AV.erase, renL_map, List.map_map]
  congr 1
  exact List.map_congr_left fun y _ => ren_erase0 ρ y
theorem ren_demote (r : Nat) (x : AV) : demote r (ren ρ x) = ren ρ (demote r x) := by
  cases x <;> simp only [ren, demote]
  split <;> simp only [ren]
theorem ren_getD (xs : List AV) (i : Nat) : (xs.map (ren ρ)).getD i .any = ren ρ (xs.getD i .any) := by
  simp only [List.getD_eq_getElem?_getD, List.getElem?_map]
  cases xs[i]? <;> simp [ren]
theorem ren_splice : ∀ (ys cs : List AV) (off : Nat), splice (cs.map (ren ρ)) off (ys.map (ren ρ)) = (splice cs off ys).map (ren ρ)
  | [], _, _ => rfl
  | y :: ys, cs, off => by
    simp only [List.map_cons, splice]
    rw [← List.map_set, ren_splice ys]
theorem ren_mapE0 (xs : List AV) : (xs.map (ren ρ)).map AV.erase0 = (xs.map AV.erase0).map (ren ρ) := by
  simp only [List.map_map]
  exact List.map_congr_left fun y _ => ren_erase0 ρ y
theorem ren_allc1 (xs : List AV) : (xs.map (ren ρ)).all AV.cell1 = xs.all AV.cell1 := by
  induction xs with
  | nil => rfl
  | cons x xs ih => simp only [List.map_cons, List.all_cons, ren_cell1, ih]
theorem ren_flat (xs : List AV) : (xs.map (ren ρ)).flatMap AV.cells = (xs.flatMap AV.cells).map (ren ρ) := by
  induction xs with
  | nil => rfl
  | cons x xs ih => simp only [List.map_cons, List.flatMap_cons, ih, ren_cells, List.map_append]
theorem ren_chunk (sz : Nat) : ∀ (n : Nat) (cs : List AV), chunk sz (cs.map (ren ρ)) n = (chunk sz cs n).map (ren ρ)
  | 0, _ => rfl
  | n + 1, cs => by
    simp only [chunk, List.map_cons]
    rw [← List.map_drop, ren_chunk sz n]
    congr 1
    split
    · rw [ren_getD, ren_erase0]
    · simp only [ren, renL_map, ← List.map_take, ren_mapE0]
theorem ren_eqCells : ∀ (ks : List Bool) (xs ys : List AV), eqCells ks (xs.map (ren ρ)) (ys.map (ren ρ)) = eqCells ks xs ys
  | [], [], [] => rfl
  | [], [], _ :: _ => by simp [eqCells]
  | [], _ :: _, _ => by simp [eqCells]
  | k :: ks, [], _ => by cases k <;> simp [eqCells]
  | k :: ks, x :: xs, [] => by cases k <;> simp [eqCells]
  | k :: ks, x :: xs, y :: ys => by
    have ih := ren_eqCells ks xs ys
    simp only [List.map_cons]
    cases k <;> cases x <;> simp only [ren, eqCells]
    all_goals
      rename_i v
      cases v <;> (try simp only [eqCells])
      all_goals
        cases y <;> (try simp only [ren, eqCells])
        all_goals
          rename_i u
          cases u <;> (try simp only [eqCells, ih])
end
end Go.Avm

namespace Go.Avm

inductive T (α : Type) where
  | nil
  | node (v : Option α) (l r : T α)

def T.get {α : Type} : T α → Nat → Option α
  | .nil, _ => none
  | .node v _ _, 0 => v
  | .node _ l r, n + 1 => bif Nat.beq (n % 2) 0 then l.get (n / 2) else r.get (n / 2)

def T.set {α : Type} : Nat → T α → Nat → Option α → T α
  | 0, t, _, _ => t
  | _ + 1, .nil, 0, x => .node x .nil .nil
  | _ + 1, .node _ l r, 0, x => .node x l r
  | f + 1, .nil, n + 1, x => bif Nat.beq (n % 2) 0 then .node none (T.set f .nil (n / 2) x) .nil else .node none .nil (T.set f .nil (n / 2) x)
  | f + 1, .node v l r, n + 1, x => bif Nat.beq (n % 2) 0 then .node v (T.set f l (n / 2) x) r else .node v l (T.set f r (n / 2) x)

def T.map {α : Type} (g : α → α) : T α → T α
  | .nil => .nil
  | .node v l r => .node (v.map g) (l.map g) (r.map g)

theorem T.get_nil {α : Type} (n : Nat) : (T.nil : T α).get n = none := by cases n <;> rfl

theorem T.get_map {α : Type} (g : α → α) : ∀ (t : T α) (n : Nat), (t.map g).get n = (t.get n).map g
  | .nil, n => by rw [T.map, T.get_nil]; rfl
  | .node v l r, 0 => rfl
  | .node v l r, n + 1 => by
    simp only [T.map, T.get, T.get_map g l, T.get_map g r]
    cases Nat.beq (n % 2) 0 <;> rfl

theorem half_eq {n k : Nat} (h1 : Nat.beq (n % 2) 0 = Nat.beq (k % 2) 0) (h2 : n / 2 = k / 2) : n = k := by
  rcases Nat.mod_two_eq_zero_or_one n with h | h <;> rcases Nat.mod_two_eq_zero_or_one k with h' | h' <;> rw [h, h'] at h1 <;> first | omega | simp [Nat.beq] at h1

theorem T.get_set {α : Type} : ∀ (f : Nat) (t : T α) (n : Nat) (x : Option α) (k : Nat), n + 1 < 2 ^ f → (T.set f t n x).get k = if k = n then x else t.get k
  | 0, _, n, _, _, h => by simp at h
  | f + 1, .nil, 0, x, k, _ => by cases k with
    | zero => rfl
    | succ k =>
      rw [if_neg (by omega)]
      simp only [T.set, T.get]
      cases Nat.beq (k % 2) 0 <;> rfl
  | f + 1, .node v l r, 0, x, k, _ => by cases k with
    | zero => rfl
    | succ k => rw [if_neg (by omega)]; rfl
  | f + 1, .nil, n + 1, x, k, h => by
    have h2 : n / 2 + 1 < 2 ^ f := by rw [Nat.pow_succ] at h; omega
    have ih := T.get_set f .nil (n / 2) x
    cases k with
    | zero =>
      rw [if_neg (by omega)]
      simp only [T.set]
      cases Nat.beq (n % 2) 0 <;> rfl
    | succ k =>
      simp only [T.set, T.get_nil]
      cases hn : Nat.beq (n % 2) 0 <;> cases hk : Nat.beq (k % 2) 0 <;> simp only [cond_true, cond_false, T.get, hk, ih _ h2]
      · by_cases e : k = n
        · subst e; simp
        · rw [if_neg (fun e2 => e (half_eq (hk.trans hn.symm) e2)), if_neg (by omega)]
      · rw [if_neg (by intro e; have : k = n := by omega
                       subst this; rw [hn] at hk; cases hk)]
      · rw [if_neg (by intro e; have : k = n := by omega
                       subst this; rw [hn] at hk; cases hk)]
      · by_cases e : k = n
        · subst e; simp
        · rw [if_neg (fun e2 => e (half_eq (hk.trans hn.symm) e2)), if_neg (by omega)]
  | f + 1, .node v l r, n + 1, x, k, h => by
    have h2 : n / 2 + 1 < 2 ^ f := by rw [Nat.pow_succ] at h; omega
    have ihl := T.get_set f l (n / 2) x
    have ihr := T.get_set f r (n / 2) x
    cases k with
    | zero =>
      rw [if_neg (by omega)]
      simp only [T.set]
      cases Nat.beq (n % 2) 0 <;> rfl
    | succ k =>
      simp only [T.set]
      cases hn : Nat.beq (n % 2) 0 <;> cases hk : Nat.beq (k % 2) 0 <;> simp only [cond_true, cond_false, T.get, hk, ihl _ h2, ihr _ h2]
      · by_cases e : k = n
        · subst e; simp
        · rw [if_neg (fun e2 => e (half_eq (hk.trans hn.symm) e2)), if_neg (by omega)]
      · rw [if_neg (by intro e; have : k = n := by omega
                       subst this; rw [hn] at hk; cases hk)]
      · rw [if_neg (by intro e; have : k = n := by omega
                       subst this; rw [hn] at hk; cases hk)]
      · by_cases e : k = n
        · subst e; simp
        · rw [if_neg (fun e2 => e (half_eq (hk.trans hn.symm) e2)), if_neg (by omega)]

structure ES where
  env : T AV
  loc : T (List AV)
  obj : T AV
  gh : AV
  nx : Nat

def ES.at (e : ES) (k : Nat) : AV := (e.env.get k).getD .any

structure Rel (ρ : Nat → Nat) (e : ES) (s : St) : Prop where
  env : ∀ k, k < gS → s.env k = ren ρ (e.at k)
  bnd : ∀ k, below e.nx (e.at k) = true
  gh : s.env gS = ren ρ e.gh
  gb : below e.nx e.gh = true
  loc : ∀ b cs, e.loc.get b = some cs → b < e.nx ∧ s.loc (ρ b) = some (cs.map (ren ρ)) ∧ belowL e.nx cs = true
  linj : ∀ b b', e.loc.get b ≠ none → e.loc.get b' ≠ none → ρ b = ρ b' → b = b'
  obj : ∀ b x, e.obj.get b = some x → b < e.nx ∧ s.env (oS + ρ b) = x ∧ x ≠ .any
  oinj : ∀ b b', e.obj.get b ≠ none → e.obj.get b' ≠ none → ρ b = ρ b' → b = b'
  og : ∀ b x, e.obj.get b = some x → isG x = true
  gg : isG e.gh = true

mutual
theorem below_mono {n m : Nat} (h : n ≤ m) : ∀ x : AV, below n x = true → below m x = true
  | .any, _ => rfl
  | .lit _, _ => rfl
  | .slice _ xs _, hb => by simp only [below] at hb ⊢; exact belowL_mono h xs hb
  | .ref cs, hb => by simp only [below] at hb ⊢; exact belowL_mono h cs hb
  | .mref b o, hb => by simp only [below, Nat.blt, Nat.ble_eq] at hb ⊢; omega
  | .mslice b _ _ _ _, hb => by simp only [below, Nat.blt, Nat.ble_eq] at hb ⊢; omega
  | .agg cs, hb => by simp only [below] at hb ⊢; exact belowL_mono h cs hb
  | .tuple vs, hb => by simp only [below] at hb ⊢; exact belowL_mono h vs hb
  | .func f a b, hb => by
    simp only [below, Bool.and_eq_true] at hb ⊢
    refine ⟨⟨?_, belowL_mono h a hb.1.2⟩, belowL_mono h b hb.2⟩
    have hb := hb.1.1
    cases f <;> simp only [belowF, Nat.blt, Nat.ble_eq] at hb ⊢
    omega
  | .ghost _ _ _, hb => by simp only [below, Nat.blt, Nat.ble_eq] at hb ⊢; omega
  | .mapr b, hb => by simp only [below, Nat.blt, Nat.ble_eq] at hb ⊢; omega
theorem belowL_mono {n m : Nat} (h : n ≤ m) : ∀ xs : List AV, belowL n xs = true → belowL m xs = true
  | [], _ => rfl
  | x :: xs, hb => by
    simp only [belowL, Bool.and_eq_true] at hb ⊢
    exact ⟨below_mono h x hb.1, belowL_mono h xs hb.2⟩
end

theorem ren_id {ρ : Nat → Nat} {x : AV} (h : below 0 x = true) : ren ρ x = x := by
  have h1 : ren ρ x = ren id x := ren_below (n := 0) (fun b hb => by omega) x h
  rw [h1]; exact ren_self x
where
  ren_self (x : AV) : ren id x = x := by
    exact (go x)
  go : ∀ x : AV, ren id x = x
    | .any => rfl
    | .lit _ => rfl
    | .slice sz xs r => by simp only [ren, goL xs]
    | .ref cs => by simp only [ren, goL cs]
    | .mref b o => by simp only [ren, id]
    | .mslice .. => by simp only [ren, id]
    | .agg cs => by simp only [ren, goL cs]
    | .tuple vs => by simp only [ren, goL vs]
    | .func f a b => by simp only [ren, goL a, goL b]; cases f <;> simp only [renF, id]
    | .ghost .. => by simp only [ren, id]
    | .mapr _ => by simp only [ren, id]
  goL : ∀ xs : List AV, renL id xs = xs
    | [] => rfl
    | x :: xs => by simp only [renL, go x, goL xs]

section
variable {n : Nat}
theorem belowL_iff {xs : List AV} : belowL n xs = true ↔ ∀ x ∈ xs, below n x = true := by
  induction xs with
  | nil => simp [belowL]
  | cons x xs ih => simp [belowL, ih]
theorem below_cells {x : AV} (h : below n x = true) : belowL n x.cells = true := by
  cases x <;> simp only [AV.cells, belowL, below, Bool.and_true, Bool.and_eq_true] at h ⊢ <;> first | exact h | exact ⟨h, rfl⟩ | (try exact h)
theorem below_erase0 {x : AV} (h : below n x = true) : below n x.erase0 = true := by cases x <;> exact h
theorem belowL_e0 {xs : List AV} (h : belowL n xs = true) : belowL n (xs.map AV.erase0) = true := by
  rw [belowL_iff] at h ⊢
  intro y hy
  obtain ⟨z, hz, rfl⟩ := List.mem_map.1 hy
  exact below_erase0 (h z hz)
theorem below_erase {x : AV} (h : below n x = true) : below n x.erase = true := by
  cases x <;> first | exact h | (simp only [AV.erase, below] at h ⊢; exact belowL_e0 h)
theorem below_demote {x : AV} (r : Nat) (h : below n x = true) : below n (demote r x) = true := by
  cases x <;> first | exact h | (simp only [demote]; split <;> exact h)
theorem belowL_demote {xs : List AV} (r : Nat) (h : belowL n xs = true) : belowL n (xs.map (demote r)) = true := by
  rw [belowL_iff] at h ⊢
  intro y hy
  obtain ⟨z, hz, rfl⟩ := List.mem_map.1 hy
  exact below_demote r (h z hz)
theorem below_getD {xs : List AV} (i : Nat) (h : belowL n xs = true) : below n (xs.getD i .any) = true := by
  rw [belowL_iff] at h
  rw [List.getD_eq_getElem?_getD]
  cases hx : xs[i]? with
  | none => rfl
  | some x => exact h x (List.mem_of_getElem? hx)
theorem belowL_take {xs : List AV} (i : Nat) (h : belowL n xs = true) : belowL n (xs.take i) = true := by
  rw [belowL_iff] at h ⊢; exact fun x hx => h x (List.mem_of_mem_take hx)
theorem belowL_drop {xs : List AV} (i : Nat) (h : belowL n xs = true) : belowL n (xs.drop i) = true := by
  rw [belowL_iff] at h ⊢; exact fun x hx => h x (List.mem_of_mem_drop hx)
theorem belowL_set {xs : List AV} {x : AV} (i : Nat) (h : belowL n xs = true) (hx : below n x = true) : belowL n (xs.set i x) = true := by
  rw [belowL_iff] at h ⊢
  intro y hy
  rcases List.mem_or_eq_of_mem_set hy with h1 | rfl
  · exact h y h1
  · exact hx
theorem belowL_app {xs ys : List AV} (h : belowL n xs = true) (h' : belowL n ys = true) : belowL n (xs ++ ys) = true := by
  rw [belowL_iff] at h h' ⊢
  intro y hy
  rcases List.mem_append.1 hy with h1 | h1
  · exact h y h1
  · exact h' y h1
theorem belowL_splice : ∀ (ys cs : List AV) (off : Nat), belowL n cs = true → belowL n ys = true → belowL n (splice cs off ys) = true
  | [], _, _, h, _ => h
  | y :: ys, cs, off, h, h' => by
    simp only [belowL, Bool.and_eq_true] at h'
    exact belowL_splice ys _ _ (belowL_set off h h'.1) h'.2
theorem belowL_flat {xs : List AV} (h : belowL n xs = true) : belowL n (xs.flatMap AV.cells) = true := by
  rw [belowL_iff] at h ⊢
  intro y hy
  obtain ⟨z, hz, hy⟩ := List.mem_flatMap.1 hy
  exact belowL_iff.1 (below_cells (h z hz)) y hy
theorem belowL_chunk (sz : Nat) : ∀ (k : Nat) (cs : List AV), belowL n cs = true → belowL n (chunk sz cs k) = true
  | 0, _, _ => rfl
  | k + 1, cs, h => by
    simp only [chunk, belowL, Bool.and_eq_true]
    refine ⟨?_, belowL_chunk sz k _ (belowL_drop sz h)⟩
    split
    · exact below_erase0 (below_getD 0 h)
    · simp only [below]; exact belowL_e0 (belowL_take sz h)
theorem belowL_rep {x : AV} (k : Nat) (h : below n x = true) : belowL n (List.replicate k x) = true := by
  rw [belowL_iff]; intro y hy; rw [(List.mem_replicate.1 hy).2]; exact h
end
end Go.Avm

namespace Go.Avm

section
variable {R : Type}
def fN (m : Nat) (k : Nat → R) : R := match m with
  | 0 => k 0
  | m + 1 => k (m + 1)
def fI (n : Int) (k : Int → R) : R := match n with
  | .ofNat m => fN m fun m => k (.ofNat m)
  | .negSucc m => fN m fun m => k (.negSucc m)
def fB (b : Bool) (k : Bool → R) : R := match b with
  | true => k true
  | false => k false
def fV (v : Value) (k : Value → R) : R := match v with
  | .int kd n => fI n fun n => k (.int kd n)
  | .bool b => fB b fun b => k (.bool b)
  | v => k v
def fA (x : AV) (k : AV → R) : R := match x with
  | .any => k .any
  | .lit v => fV v fun v => k (.lit v)
  | .slice sz xs r => k (.slice sz xs r)
  | .ref cs => k (.ref cs)
  | .mref b o => fN o fun o => k (.mref b o)
  | .mslice b o l c sz => fN o fun o => fN l fun l => k (.mslice b o l c sz)
  | .agg cs => k (.agg cs)
  | .tuple vs => k (.tuple vs)
  | .func fn a b => k (.func fn a b)
  | .ghost l r s => k (.ghost l r s)
  | .mapr b => k (.mapr b)
def fL : List AV → (List AV → R) → R
  | [], k => k []
  | x :: xs, k => fA x fun x => fL xs fun xs => k (x :: xs)
theorem fN_eq (m : Nat) (k : Nat → R) : fN m k = k m := by cases m <;> rfl
theorem fI_eq (n : Int) (k : Int → R) : fI n k = k n := by cases n <;> simp only [fI, fN_eq]
theorem fB_eq (b : Bool) (k : Bool → R) : fB b k = k b := by cases b <;> rfl
theorem fV_eq (v : Value) (k : Value → R) : fV v k = k v := by
  unfold fV; split <;> simp only [fI_eq, fB_eq]
theorem fA_eq (x : AV) (k : AV → R) : fA x k = k x := by cases x <;> simp only [fA, fV_eq, fN_eq]
theorem fL_eq : ∀ (xs : List AV) (k : List AV → R), fL xs k = k xs
  | [], _ => rfl
  | x :: xs, k => by simp only [fL, fA_eq, fL_eq xs]

def setK {α : Type} : Nat → T α → Nat → Option α → (T α → R) → R
  | 0, t, _, _, k => k t
  | _ + 1, .nil, 0, x, k => k (.node x .nil .nil)
  | _ + 1, .node _ l r, 0, x, k => k (.node x l r)
  | f + 1, .nil, n + 1, x, k => bif Nat.beq (n % 2) 0 then setK f .nil (n / 2) x (fun t => k (.node none t .nil)) else setK f .nil (n / 2) x (fun t => k (.node none .nil t))
  | f + 1, .node v l r, n + 1, x, k => bif Nat.beq (n % 2) 0 then setK f l (n / 2) x (fun t => k (.node v t r)) else setK f r (n / 2) x (fun t => k (.node v l t))
theorem setK_eq {α : Type} : ∀ (f : Nat) (t : T α) (n : Nat) (x : Option α) (k : T α → R), setK f t n x k = k (T.set f t n x)
  | 0, _, _, _, _ => rfl
  | _ + 1, .nil, 0, _, _ => rfl
  | _ + 1, .node _ _ _, 0, _, _ => rfl
  | f + 1, .nil, n + 1, x, k => by simp only [setK, T.set, setK_eq f]; cases Nat.beq (n % 2) 0 <;> rfl
  | f + 1, .node v l r, n + 1, x, k => by simp only [setK, T.set, setK_eq f]; cases Nat.beq (n % 2) 0 <;> rfl

def demK (r : Nat) : T AV → (T AV → R) → R
  | .nil, k => k .nil
  | .node none a b, k => demK r a fun a => demK r b fun b => k (.node none a b)
  | .node (some x) a b, k => fA (demote r x) fun x => demK r a fun a => demK r b fun b => k (.node (some x) a b)
theorem demK_eq (r : Nat) : ∀ (t : T AV) (k : T AV → R), demK r t k = k (t.map (demote r))
  | .nil, _ => rfl
  | .node none a b, k => by simp only [demK, demK_eq r a, demK_eq r b]; rfl
  | .node (some x) a b, k => by simp only [demK, fA_eq, demK_eq r a, demK_eq r b]; rfl
def demLK (r : Nat) : T (List AV) → (T (List AV) → R) → R
  | .nil, k => k .nil
  | .node none a b, k => demLK r a fun a => demLK r b fun b => k (.node none a b)
  | .node (some x) a b, k => fL (x.map (demote r)) fun x => demLK r a fun a => demLK r b fun b => k (.node (some x) a b)
theorem demLK_eq (r : Nat) : ∀ (t : T (List AV)) (k : T (List AV) → R), demLK r t k = k (t.map (·.map (demote r)))
  | .nil, _ => rfl
  | .node none a b, k => by simp only [demLK, demLK_eq r a, demLK_eq r b]; rfl
  | .node (some x) a b, k => by simp only [demLK, fL_eq, demLK_eq r a, demLK_eq r b]; rfl
end

def inKb : IntKind → Int → Bool
  | .i8, n => decide (-128 ≤ n) && decide (n ≤ 127)
  | .i16, n => decide (-32768 ≤ n) && decide (n ≤ 32767)
  | .i32, n => decide (-2147483648 ≤ n) && decide (n ≤ 2147483647)
  | .i64, n => decide (-9223372036854775808 ≤ n) && decide (n ≤ 9223372036854775807)
  | .u8, n => decide (0 ≤ n) && decide (n ≤ 255)
  | .u16, n => decide (0 ≤ n) && decide (n ≤ 65535)
  | .u32, n => decide (0 ≤ n) && decide (n ≤ 4294967295)
  | .u64, n => decide (0 ≤ n) && decide (n ≤ 18446744073709551615)
theorem inKb_ok {k : IntKind} {n : Int} (h : inKb k n = true) : inK k n := by
  cases k <;> simpa [inKb, inK] using h

def strEq (a b : ByteArray) : Bool := a.data.toList == b.data.toList

def binIb (op : BinOp) (k : IntKind) (a b : Int) : Option AV :=
  match op with
  | .add => bif inKb k (a + b) then some (.lit (.int k (a + b))) else none
  | .sub => bif inKb k (a - b) then some (.lit (.int k (a - b))) else none
  | .mul => bif inKb k (a * b) then some (.lit (.int k (a * b))) else none
  | .quo => bif b != 0 && inKb k (a.tdiv b) then some (.lit (.int k (a.tdiv b))) else none
  | .rem => bif b != 0 then some (.lit (.int k (a.tmod b))) else none
  | .and | .or | .xor | .andNot => some (.lit (.int k (bitI op k a b)))
  | .eql => some (.lit (.bool (a == b)))
  | .neq => some (.lit (.bool (a != b)))
  | .lss => some (.lit (.bool (decide (a < b))))
  | .leq => some (.lit (.bool (decide (a ≤ b))))
  | .gtr => some (.lit (.bool (decide (a > b))))
  | .geq => some (.lit (.bool (decide (a ≥ b))))
  | _ => none
theorem binIb_ok {op : BinOp} {k : IntKind} {a b : Int} {v : AV} (h : binIb op k a b = some v) {K : AV → Prop} (hk : K v) : binI op k a b K := by
  cases op <;> simp only [binIb, Bool.cond_eq_ite] at h <;> simp only [binI] <;> first
    | (cases h; done)
    | (injection h with h; rw [h]; exact hk)
    | (split at h
       · rename_i hc; injection h with h; rw [h]
         first
           | exact ⟨inKb_ok hc, hk⟩
           | (simp only [Bool.and_eq_true, bne_iff_ne] at hc; exact ⟨hc.1, inKb_ok hc.2, hk⟩)
           | exact ⟨by simpa using hc, hk⟩
       · cases h)

def shIb (op : BinOp) (k : IntKind) (a b : Int) : Option AV :=
  match op, b with
  | .shl, .ofNat m => some (.lit (.int k (k.wrap (a * 2 ^ (min m k.bits)))))
  | .shr, .ofNat m => some (.lit (.int k (a.fdiv (2 ^ (min m k.bits)))))
  | _, _ => none
theorem shIb_ok {op : BinOp} {k : IntKind} {a b : Int} {v : AV} (h : shIb op k a b = some v) {K : AV → Prop} (hk : K v) : shI op k a b K := by
  unfold shIb at h
  split at h
  · injection h with h; subst h; exact ⟨Int.natCast_nonneg _, hk⟩
  · injection h with h; subst h; exact ⟨Int.natCast_nonneg _, hk⟩
  · cases h

def binSb (op : BinOp) (a b : ByteArray) : Option AV :=
  match op with
  | .eql => some (.lit (.bool (strEq a b)))
  | .neq => some (.lit (.bool (!strEq a b)))
  | _ => none
theorem toList_data (a : ByteArray) : a.toList = a.data.toList := by
  have key : ∀ (n i : Nat) (r : List UInt8), a.size - i = n → ByteArray.toList.loop a i r = r.reverse ++ a.data.toList.drop i := by
    intro n
    induction n with
    | zero =>
      intro i r h
      unfold ByteArray.toList.loop
      rw [if_neg (by omega)]
      have : a.data.toList.length ≤ i := by simp; have : a.size = a.data.size := rfl; omega
      rw [List.drop_of_length_le this, List.append_nil]
    | succ n ih =>
      intro i r h
      unfold ByteArray.toList.loop
      have hlt : i < a.size := by omega
      rw [if_pos hlt, ih (i + 1) _ (by omega)]
      have hl : i < a.data.toList.length := by simp; exact hlt
      rw [List.drop_eq_getElem_cons hl]
      simp [ByteArray.get!, getElem!_pos a.data i hlt]
  have := key a.size 0 [] (by omega)
  simpa [ByteArray.toList] using this
theorem binSb_ok {op : BinOp} {a b : ByteArray} {v : AV} (h : binSb op a b = some v) {K : AV → Prop} (hk : K v) : binS op a b K := by
  cases op <;> simp only [binSb, strEq] at h <;> first | (cases h; done) | skip
  all_goals (injection h with h; subst h; simp only [binS, toList_data]; exact hk)

def binKb (op : BinOp) (x y : AV) : Option AV :=
  match x, y with
  | .lit (.int k a), .lit (.int k' b) => match op with
    | .shl => shIb .shl k a b
    | .shr => shIb .shr k a b
    | _ => if k = k' then binIb op k a b else none
  | .lit (.string a), .lit (.string b) => binSb op a b
  | _, _ => none
theorem binKb_ok {op : BinOp} {x y v : AV} (h : binKb op x y = some v) {K : AV → Prop} (hk : K v) : binK op x y K := by
  unfold binKb at h
  split at h
  · rename_i k a k' b
    simp only [binK]
    split at h
    · exact shIb_ok h hk
    · exact shIb_ok h hk
    · split at h
      · rename_i hkk
        split
        · rename_i hne _; exact absurd rfl hne
        · rename_i hne; exact absurd rfl hne
        · exact ⟨hkk, binIb_ok h hk⟩
      · cases h
  · exact binSb_ok h hk
  · cases h
theorem binKb_ren {op : BinOp} {x y v : AV} (h : binKb op x y = some v) (ρ : Nat → Nat) : ren ρ x = x ∧ ren ρ y = y := by
  unfold binKb at h
  split at h
  · exact ⟨rfl, rfl⟩
  · exact ⟨rfl, rfl⟩
  · cases h
end Go.Avm

namespace Go.Avm

section
variable {R : Type} (e : ES) (fail : R)

def argK (a : MArg) (k : AV → R) : R := match a with
  | .t n => bif Nat.blt n 1000000 then k (e.at n) else fail
  | .c x => bif below 0 x then k x else fail

def eK (x : AV) (k : AV → R) : R := match x with
  | .slice sz xs _ => k (.slice sz xs 0)
  | .agg cs => fL (cs.map AV.erase0) fun cs => k (.agg cs)
  | x => k x
theorem eK_eq (x : AV) (k : AV → R) : eK x k = k x.erase := by
  cases x <;> simp only [eK, fL_eq, AV.erase]

def argsK : List MArg → (List AV → R) → R
  | [], k => k []
  | a :: as, k => argK e fail a fun x => eK x fun x => argsK as fun xs => k (x :: xs)

/-- Part of some cells. -/
def partE (cs : List AV) (off : Nat) (n : Option Nat) (k : AV → R) : R := match n with
  | none => bif Nat.blt off cs.length then k (cs.getD off .any) else fail
  | some n => bif Nat.ble (off + n) cs.length then fL (((cs.drop off).take n).map AV.erase0) fun c => k (.agg c) else fail

def inR (n : Int) (len : Nat) : Bool := match n with
  | .ofNat m => Nat.blt m len
  | .negSucc _ => false
def inR' (n : Int) (len : Nat) : Bool := match n with
  | .ofNat m => Nat.ble m len
  | .negSucc _ => false
theorem inR_ok {n : Int} {len : Nat} (h : inR n len = true) : 0 ≤ n ∧ n < len ∧ n.toNat < len := by
  cases n with
  | ofNat m =>
    have h1 : m < len := Nat.lt_of_succ_le (by simpa [inR, Nat.blt] using h)
    simp only [Int.ofNat_eq_natCast, Int.toNat_natCast]; omega
  | negSucc m => cases h
theorem inR'_ok {n : Int} {len : Nat} (h : inR' n len = true) : 0 ≤ n ∧ n ≤ len := by
  cases n with
  | ofNat m =>
    have h1 : m ≤ len := by simpa [inR'] using h
    simp only [Int.ofNat_eq_natCast]; omega
  | negSucc m => cases h

def fillE (cs : List AV) : List (Nat × Nat × MArg) → (List AV → R) → R
  | [], k => k cs
  | (off, n, x) :: ps, k => argK e fail x fun x => bif Nat.beq x.cells.length n && Nat.ble (off + n) cs.length then fL (splice cs off (x.cells.map AV.erase0)) fun cs => fillE cs ps k else fail

def vK_cpy (d : Nat) (x : MArg) (k : Nat → AV → R) : R := argK e fail x fun x => k d x
def vK_cpyE (d : Nat) (x : MArg) (k : Nat → AV → R) : R := argK e fail x fun x => eK x fun x => k d x
def vK_cpyS (d : Nat) (x : MArg) (k : Nat → AV → R) : R := argK e fail x fun x => match x with
    | .lit (.string u) => k d (.lit (.string u))
    | _ => fail
def vK_boxI (d : Nat) (x : MArg) (n : Nat) (k : Nat → AV → R) : R := argK e fail x fun x => bif Nat.beq x.cells.length n then fL (x.cells.map AV.erase0) fun cs => k d (.ref cs) else fail
def vK_load (d : Nat) (x : MArg) (n : Option Nat) (k : Nat → AV → R) : R := argK e fail x fun x => match x with
    | .ref cs => partE fail cs 0 n fun v => eK v fun v => k d v
    | .mref b off => match e.loc.get b with
      | some cs => partE fail cs off n fun v => k d v
      | none => fail
    | _ => fail
def vK_loadI (d : Nat) (x : MArg) (n : Option Nat) (k : Nat → AV → R) : R := argK e fail x fun x => match x with
    | .ref cs => partE fail cs 0 n fun v => eK v fun v => k d v
    | _ => fail
def vK_addr (d : Nat) (x : MArg) (off : Nat) (k : Nat → AV → R) : R := argK e fail x fun x => match x with
    | .ref cs => fL (cs.drop off) fun cs => k d (.ref cs)
    | .mref b o => k d (.mref b (o + off))
    | _ => fail
def vK_idxS (d : Nat) (x : MArg) (i : MArg) (sz : Nat) (k : Nat → AV → R) : R := argK e fail x fun x => argK e fail i fun i => match x, i with
    | .slice sz' xs _, .lit (.int _ n) => bif Nat.beq sz' sz && inR n xs.length then fL (xs.getD n.toNat .any).cells fun cs => k d (.ref cs) else fail
    | .mslice b off len _ sz', .lit (.int _ n) => bif Nat.beq sz' sz && inR n len then k d (.mref b (off + n.toNat * sz)) else fail
    | _, _ => fail
def vK_idxA (d : Nat) (x : MArg) (i : MArg) (len : Nat) (sz : Nat) (k : Nat → AV → R) : R := argK e fail x fun x => argK e fail i fun i => match x, i with
    | .ref cs, .lit (.int _ n) => bif inR n len then fL (cs.drop (n.toNat * sz)) fun cs => k d (.ref cs) else fail
    | .mref b off, .lit (.int _ n) => bif inR n len then k d (.mref b (off + n.toNat * sz)) else fail
    | _, _ => fail
def vK_fld (d : Nat) (x : MArg) (off : Nat) (n : Option Nat) (k : Nat → AV → R) : R := argK e fail x fun x => match x with
    | .agg cs => partE fail cs off n fun v => eK v fun v => k d v
    | _ => fail
def vK_idxV (d : Nat) (x : MArg) (i : MArg) (len : Nat) (sz : Nat) (n : Option Nat) (k : Nat → AV → R) : R := argK e fail x fun x => argK e fail i fun i => match x, i with
    | .agg cs, .lit (.int _ j) => bif inR j len then partE fail cs (j.toNat * sz) n fun v => eK v fun v => k d v else fail
    | _, _ => fail
def vK_idxStr (d : Nat) (x : MArg) (i : MArg) (k : Nat → AV → R) : R := argK e fail x fun x => argK e fail i fun i => match x, i with
    | .lit (.string u), .lit (.int _ j) => bif inR j u.size then k d (.lit (.int .u8 (u.data.toList.getD j.toNat 0).toNat)) else fail
    | _, _ => fail
def vK_len (d : Nat) (x : MArg) (k : Nat → AV → R) : R := argK e fail x fun x => match x with
    | .slice _ xs _ => k d (.lit (.int .i64 xs.length))
    | .mslice _ _ len _ _ => k d (.lit (.int .i64 len))
    | _ => fail
def vK_lenStr (d : Nat) (x : MArg) (k : Nat → AV → R) : R := argK e fail x fun x => match x with
    | .lit (.string u) => k d (.lit (.int .i64 u.size))
    | _ => fail
def vK_bin (d : Nat) (op : BinOp) (x : MArg) (y : MArg) (k : Nat → AV → R) : R := argK e fail x fun x => argK e fail y fun y => match binKb op x y with
    | some (.lit v) => k d (.lit v)
    | _ => fail
def vK_binB (d : Nat) (neg : Bool) (x : MArg) (y : MArg) (k : Nat → AV → R) : R := argK e fail x fun x => argK e fail y fun y => match x, y with
    | .lit (.bool a), .lit (.bool b) => k d (.lit (.bool (if neg then !(a == b) else a == b)))
    | _, _ => fail
def vK_build (d : Nat) (z : List AV) (ps : List (Nat × Nat × MArg)) (k : Nat → AV → R) : R := bif belowL 0 z then fillE e fail z ps fun cs => k d (.agg cs) else fail
def vK_binA (d : Nat) (neg : Bool) (n : List Bool) (x : MArg) (y : MArg) (k : Nat → AV → R) : R := argK e fail x fun x => argK e fail y fun y => match x, y with
    | .agg a, .agg b => bif Nat.beq a.length n.length && Nat.beq b.length n.length then (match eqCells n a b with
      | some q => k d (.lit (.bool (if neg then !q else q)))
      | none => fail) else fail
    | _, _ => fail
def vK_not (d : Nat) (x : MArg) (k : Nat → AV → R) : R := argK e fail x fun x => match x with
    | .lit (.bool a) => k d (.lit (.bool (!a)))
    | _ => fail
def vK_neg (d : Nat) (x : MArg) (k : Nat → AV → R) : R := argK e fail x fun x => match x with
    | .lit (.int q a) => bif inKb q (0 - a) then k d (.lit (.int q (0 - a))) else fail
    | _ => fail
def vK_conv (d : Nat) (q : IntKind) (x : MArg) (k : Nat → AV → R) : R := argK e fail x fun x => match x with
    | .lit (.int _ a) => k d (.lit (.int q (q.wrap a)))
    | _ => fail
def vK_pick (d : Nat) (c : MArg) (x : MArg) (y : MArg) (k : Nat → AV → R) : R := argK e fail c fun c => match c with
    | .lit (.bool true) => argK e fail x fun x => k d x
    | .lit (.bool false) => argK e fail y fun y => k d y
    | _ => fail
def vK_ext (d : Nat) (x : MArg) (i : Nat) (k : Nat → AV → R) : R := argK e fail x fun x => match x with
    | .tuple vs => bif Nat.blt i vs.length then eK (vs.getD i .any) fun v => k d v else fail
    | _ => fail
def vK_maxI (d : Nat) (x : MArg) (y : MArg) (k : Nat → AV → R) : R := argK e fail x fun x => argK e fail y fun y => match x, y with
    | .lit (.int q a), .lit (.int _ b) => k d (.lit (.int q (if b > a then b else a)))
    | _, _ => fail
def vK_minI (d : Nat) (x : MArg) (y : MArg) (k : Nat → AV → R) : R := argK e fail x fun x => argK e fail y fun y => match x, y with
    | .lit (.int q a), .lit (.int _ b) => k d (.lit (.int q (if b < a then b else a)))
    | _, _ => fail
def vK_nilchk (d : Nat) (x : MArg) (k : Nat → AV → R) : R := argK e fail x fun x => match x with
    | .ref cs => k d (.ref cs)
    | .mref b o => k d (.mref b o)
    | _ => fail
def vK_slcHi (d : Nat) (x : MArg) (hi : MArg) (sz : Nat) (k : Nat → AV → R) : R := argK e fail x fun x => argK e fail hi fun hi => match x, hi with
    | .slice sz' xs _, .lit (.int _ n) => bif (Nat.beq sz' sz || xs.isEmpty) && inR' n xs.length then fL (xs.take n.toNat) fun xs => k d (.slice sz xs 0) else fail
    | _, _ => fail
def vK_slcLo (d : Nat) (x : MArg) (lo : MArg) (sz : Nat) (k : Nat → AV → R) : R := argK e fail x fun x => argK e fail lo fun lo => match x, lo with
    | .slice sz' xs _, .lit (.int _ n) => bif (Nat.beq sz' sz || xs.isEmpty) && inR' n xs.length then fL (xs.drop n.toNat) fun xs => k d (.slice sz xs 0) else fail
    | _, _ => fail
def vK_strLo (d : Nat) (x : MArg) (lo : MArg) (k : Nat → AV → R) : R := argK e fail x fun x => argK e fail lo fun lo => match x, lo with
    | .lit (.string u), .lit (.int _ n) => bif inR' n u.size then k d (.lit (.string (u.extract n.toNat u.size))) else fail
    | _, _ => fail
def vK_mkfn (d : Nat) (fn : Fn) (a : List MArg) (b : List MArg) (k : Nat → AV → R) : R := bif belowF 0 fn then argsK e fail a fun a => argsK e fail b fun b => k d (.func fn a b) else fail

/-- The slot and the value of an operation that only looks. -/
def valK (m : MOp) (k : Nat → AV → R) : R := match m with
  | .cpy d x => vK_cpy e fail d x k
  | .cpyE d x => vK_cpyE e fail d x k
  | .cpyS d x => vK_cpyS e fail d x k
  | .boxI d x n => vK_boxI e fail d x n k
  | .load d x n => vK_load e fail d x n k
  | .loadI d x n => vK_loadI e fail d x n k
  | .addr d x off => vK_addr e fail d x off k
  | .idxS d x i sz => vK_idxS e fail d x i sz k
  | .idxA d x i len sz => vK_idxA e fail d x i len sz k
  | .fld d x off n => vK_fld e fail d x off n k
  | .idxV d x i len sz n => vK_idxV e fail d x i len sz n k
  | .idxStr d x i => vK_idxStr e fail d x i k
  | .len d x => vK_len e fail d x k
  | .lenStr d x => vK_lenStr e fail d x k
  | .lenK d n => k d (.lit (.int .i64 n))
  | .bin d op x y => vK_bin e fail d op x y k
  | .binB d neg x y => vK_binB e fail d neg x y k
  | .build d z ps => vK_build e fail d z ps k
  | .binA d neg n x y => vK_binA e fail d neg n x y k
  | .not d x => vK_not e fail d x k
  | .neg d x => vK_neg e fail d x k
  | .conv d q x => vK_conv e fail d q x k
  | .pick d c x y => vK_pick e fail d c x y k
  | .ext d x i => vK_ext e fail d x i k
  | .maxI d x y => vK_maxI e fail d x y k
  | .minI d x y => vK_minI e fail d x y k
  | .nilchk d x => vK_nilchk e fail d x k
  | .slcHi d x hi sz => vK_slcHi e fail d x hi sz k
  | .slcLo d x lo sz => vK_slcLo e fail d x lo sz k
  | .strLo d x lo => vK_strLo e fail d x lo k
  | .mkfn d fn a b => vK_mkfn e fail d fn a b k
  | _ => fail
end

section
variable {R : Type} {e : ES} {fail t : R} {ρ : Nat → Nat} {s : St}

theorem cond_ok {b : Bool} {x : R} (h : (bif b then x else fail) = t) (ht : t ≠ fail) : b = true ∧ x = t := by
  cases b with
  | true => exact ⟨rfl, h⟩
  | false => exact absurd h.symm ht

theorem argK_ok {a : MArg} {k : AV → R} (h : argK e fail a k = t) (ht : t ≠ fail) (hr : Rel ρ e s) : ∃ x, a.ev s.env = ren ρ x ∧ below e.nx x = true ∧ k x = t := by
  cases a with
  | t n =>
    obtain ⟨h1, h2⟩ := cond_ok h ht
    have hn : n < gS := by simp only [gS]; exact Nat.lt_of_succ_le (by simpa [Nat.blt] using h1)
    exact ⟨_, hr.env n hn, hr.bnd n, h2⟩
  | c x =>
    obtain ⟨h1, h2⟩ := cond_ok h ht
    exact ⟨x, (ren_id h1).symm, below_mono (Nat.zero_le _) x h1, h2⟩

theorem argsK_ok (ht : t ≠ fail) (hr : Rel ρ e s) : ∀ {as : List MArg} {k : List AV → R}, argsK e fail as k = t →
    ∃ xs, (as.map fun x => (x.ev s.env).erase) = xs.map (ren ρ) ∧ belowL e.nx xs = true ∧ k xs = t
  | [], k, h => ⟨[], rfl, rfl, h⟩
  | a :: as, k, h => by
    obtain ⟨x, h1, h2, h3⟩ := argK_ok h ht hr
    rw [eK_eq] at h3
    obtain ⟨xs, h4, h5, h6⟩ := argsK_ok ht hr h3
    exact ⟨x.erase :: xs, by simp only [List.map_cons, h1, ren_erase, h4], by simp only [belowL, below_erase h2, h5, Bool.and_self], h6⟩

theorem partE_ok {cs : List AV} {off : Nat} {n : Option Nat} {k : AV → R} (h : partE fail cs off n k = t) (ht : t ≠ fail) (hb : belowL e.nx cs = true) :
    ∃ v, below e.nx v = true ∧ k v = t ∧ ∀ K : AV → Prop, K (ren ρ v) → partK (cs.map (ren ρ)) off n K := by
  cases n with
  | none =>
    obtain ⟨h1, h2⟩ := cond_ok h ht
    have hlt : off < cs.length := Nat.lt_of_succ_le (by simpa [Nat.blt] using h1)
    exact ⟨_, below_getD off hb, h2, fun K hK => ⟨by simpa using hlt, by rw [ren_getD]; exact hK⟩⟩
  | some n =>
    obtain ⟨h1, h2⟩ := cond_ok h ht
    rw [fL_eq] at h2
    refine ⟨_, ?_, h2, fun K hK => ⟨by simpa using h1, ?_⟩⟩
    · simp only [below]; exact belowL_e0 (belowL_take _ (belowL_drop _ hb))
    · have e1 : (AV.agg (((cs.map (ren ρ)).drop off).take n)).erase = ren ρ (.agg (((cs.drop off).take n).map AV.erase0)) := by
        simp only [AV.erase, ren, renL_map, ← List.map_drop, ← List.map_take, ren_mapE0]
      rw [e1]; exact hK

theorem fillE_ok (ht : t ≠ fail) (hr : Rel ρ e s) : ∀ {ps : List (Nat × Nat × MArg)} {cs : List AV} {k : List AV → R}, fillE e fail cs ps k = t → belowL e.nx cs = true →
    ∃ v, belowL e.nx v = true ∧ k v = t ∧ ∀ K : List AV → Prop, K (v.map (ren ρ)) → fillK s.env (cs.map (ren ρ)) ps K
  | [], cs, k, h, hb => ⟨cs, hb, h, fun K hK => hK⟩
  | (off, n, x) :: ps, cs, k, h, hb => by
    obtain ⟨x', h1, h2, h3⟩ := argK_ok h ht hr
    obtain ⟨h4, h5⟩ := cond_ok h3 ht
    simp only [Bool.and_eq_true, Nat.ble_eq] at h4
    rw [fL_eq] at h5
    obtain ⟨v, g1, g2, g3⟩ := fillE_ok ht hr h5 (belowL_splice _ _ _ hb (belowL_e0 (below_cells h2)))
    refine ⟨v, g1, g2, fun K hK => ⟨by rw [h1, ren_cells]; simpa using h4.1, by simpa using h4.2, ?_⟩⟩
    rw [h1, ren_cells, ren_mapE0, ren_splice]
    exact g3 K hK

end
end Go.Avm

namespace Go.Avm

section
variable {R : Type} {e : ES} {fail t : R} {ρ : Nat → Nat} {s : St} (P : Program)

theorem map_len (xs : List AV) : (xs.map (ren ρ)).length = xs.length := by simp

theorem valK_ok {m : MOp} {k : Nat → AV → R} (h : valK e fail m k = t) (ht : t ≠ fail) (hr : Rel ρ e s) :
    ∃ d v, below e.nx v = true ∧ k d v = t ∧ ∀ K : St → Prop, K (s.set d (ren ρ v)) → vc1 P m s K := by
  cases m with
  | cpy d x =>
    dsimp only [valK] at h
    obtain ⟨x, h1, h2, h3⟩ := argK_ok h ht hr
    exact ⟨d, x, h2, h3, fun K hK => by simp only [vc1, h1]; exact hK⟩
  | cpyE d x =>
    dsimp only [valK] at h
    obtain ⟨x, h1, h2, h3⟩ := argK_ok h ht hr
    rw [eK_eq] at h3
    exact ⟨d, x.erase, below_erase h2, h3, fun K hK => by simp only [vc1, h1, ren_erase]; exact hK⟩
  | cpyS d x =>
    dsimp only [valK] at h
    obtain ⟨x, h1, h2, h3⟩ := argK_ok h ht hr
    split at h3
    · exact ⟨d, _, rfl, h3, fun K hK => by simp only [vc1, h1, ren]; simpa only [ren] using hK⟩
    · exact absurd h3.symm ht
  | boxI d x n =>
    dsimp only [valK] at h
    obtain ⟨x, h1, h2, h3⟩ := argK_ok h ht hr
    obtain ⟨h4, h5⟩ := cond_ok h3 ht
    rw [fL_eq] at h5
    refine ⟨d, _, by simp only [below]; exact belowL_e0 (below_cells h2), h5, fun K hK => ?_⟩
    simp only [vc1, h1, ren_cells, ren_mapE0]
    simp only [ren, renL_map] at hK
    exact ⟨by simpa using h4, hK⟩
  | load d x n =>
    dsimp only [valK] at h
    obtain ⟨x, h1, h2, h3⟩ := argK_ok h ht hr
    split at h3
    · simp only [below] at h2
      obtain ⟨v, g1, g2, g3⟩ := partE_ok h3 ht h2
      rw [eK_eq] at g2
      refine ⟨d, v.erase, below_erase g1, g2, fun K hK => ?_⟩
      simp only [vc1, h1, ren, loadK, renL_map]
      exact g3 _ (by rw [ren_erase]; exact hK)
    · rename_i b off
      split at h3
      · rename_i cs hcs
        obtain ⟨l1, l2, l3⟩ := hr.loc b cs hcs
        obtain ⟨v, g1, g2, g3⟩ := partE_ok h3 ht l3
        refine ⟨d, v, g1, g2, fun K hK => ?_⟩
        simp only [vc1, h1, ren, loadK, l2]
        exact g3 _ hK
      · exact absurd h3.symm ht
    · exact absurd h3.symm ht
  | loadI d x n =>
    dsimp only [valK] at h
    obtain ⟨x, h1, h2, h3⟩ := argK_ok h ht hr
    split at h3
    · simp only [below] at h2
      obtain ⟨v, g1, g2, g3⟩ := partE_ok h3 ht h2
      rw [eK_eq] at g2
      refine ⟨d, v.erase, below_erase g1, g2, fun K hK => ?_⟩
      simp only [vc1, h1, ren, renL_map]
      exact g3 _ (by rw [ren_erase]; exact hK)
    · exact absurd h3.symm ht
  | addr d x off =>
    dsimp only [valK] at h
    obtain ⟨x, h1, h2, h3⟩ := argK_ok h ht hr
    split at h3
    · rw [fL_eq] at h3
      simp only [below] at h2
      refine ⟨d, _, by simp only [below]; exact belowL_drop off h2, h3, fun K hK => ?_⟩
      simp only [vc1, h1, ren, renL_map]
      simpa only [ren, renL_map, List.map_drop] using hK
    · exact ⟨d, _, by simpa only [below] using h2, h3, fun K hK => by simp only [vc1, h1, ren]; simpa only [ren] using hK⟩
    · exact absurd h3.symm ht
  | idxS d x i sz =>
    dsimp only [valK] at h
    obtain ⟨x, h1, h2, h3⟩ := argK_ok h ht hr
    obtain ⟨i, h4, h5, h6⟩ := argK_ok h3 ht hr
    split at h6
    · rename_i sz' xs r q n
      obtain ⟨c1, c2⟩ := cond_ok h6 ht
      simp only [Bool.and_eq_true] at c1
      obtain ⟨q1, q2, q3⟩ := inR_ok c1.2
      rw [fL_eq] at c2
      simp only [below] at h2
      refine ⟨d, _, by simp only [below]; exact below_cells (below_getD _ h2), c2, fun K hK => ?_⟩
      simp only [vc1, h1, h4, ren, renL_map, map_len, ren_getD, ren_cells]
      simp only [ren, renL_map] at hK
      exact ⟨Nat.eq_of_beq_eq_true c1.1, q1, q2, hK⟩
    · rename_i b off len cap sz' q n
      obtain ⟨c1, c2⟩ := cond_ok h6 ht
      simp only [Bool.and_eq_true] at c1
      obtain ⟨q1, q2, q3⟩ := inR_ok c1.2
      refine ⟨d, _, by simpa only [below] using h2, c2, fun K hK => ?_⟩
      simp only [vc1, h1, h4, ren]
      exact ⟨Nat.eq_of_beq_eq_true c1.1, q1, q2, by simpa only [ren] using hK⟩
    · exact absurd h6.symm ht
  | idxA d x i len sz =>
    dsimp only [valK] at h
    obtain ⟨x, h1, h2, h3⟩ := argK_ok h ht hr
    obtain ⟨i, h4, h5, h6⟩ := argK_ok h3 ht hr
    split at h6
    · obtain ⟨c1, c2⟩ := cond_ok h6 ht
      obtain ⟨q1, q2, q3⟩ := inR_ok c1
      rw [fL_eq] at c2
      simp only [below] at h2
      refine ⟨d, _, by simp only [below]; exact belowL_drop _ h2, c2, fun K hK => ?_⟩
      simp only [vc1, h1, h4, ren, renL_map]
      exact ⟨q1, q2, by simpa only [ren, renL_map, List.map_drop] using hK⟩
    · obtain ⟨c1, c2⟩ := cond_ok h6 ht
      obtain ⟨q1, q2, q3⟩ := inR_ok c1
      refine ⟨d, _, by simpa only [below] using h2, c2, fun K hK => ?_⟩
      simp only [vc1, h1, h4, ren]
      exact ⟨q1, q2, by simpa only [ren] using hK⟩
    · exact absurd h6.symm ht
  | fld d x off n =>
    dsimp only [valK] at h
    obtain ⟨x, h1, h2, h3⟩ := argK_ok h ht hr
    split at h3
    · simp only [below] at h2
      obtain ⟨v, g1, g2, g3⟩ := partE_ok h3 ht h2
      rw [eK_eq] at g2
      refine ⟨d, v.erase, below_erase g1, g2, fun K hK => ?_⟩
      simp only [vc1, h1, ren, renL_map]
      exact g3 _ (by rw [ren_erase]; exact hK)
    · exact absurd h3.symm ht
  | idxV d x i len sz n =>
    dsimp only [valK] at h
    obtain ⟨x, h1, h2, h3⟩ := argK_ok h ht hr
    obtain ⟨i, h4, h5, h6⟩ := argK_ok h3 ht hr
    split at h6
    · obtain ⟨c1, c2⟩ := cond_ok h6 ht
      obtain ⟨q1, q2, q3⟩ := inR_ok c1
      simp only [below] at h2
      obtain ⟨v, g1, g2, g3⟩ := partE_ok c2 ht h2
      rw [eK_eq] at g2
      refine ⟨d, v.erase, below_erase g1, g2, fun K hK => ?_⟩
      simp only [vc1, h1, h4, ren, renL_map]
      exact ⟨q1, q2, g3 _ (by rw [ren_erase]; exact hK)⟩
    · exact absurd h6.symm ht
  | idxStr d x i =>
    dsimp only [valK] at h
    obtain ⟨x, h1, h2, h3⟩ := argK_ok h ht hr
    obtain ⟨i, h4, h5, h6⟩ := argK_ok h3 ht hr
    split at h6
    · obtain ⟨c1, c2⟩ := cond_ok h6 ht
      obtain ⟨q1, q2, q3⟩ := inR_ok c1
      refine ⟨d, _, rfl, c2, fun K hK => ?_⟩
      simp only [vc1, h1, h4, ren]
      exact ⟨q1, q2, by simpa only [ren] using hK⟩
    · exact absurd h6.symm ht
  | len d x =>
    dsimp only [valK] at h
    obtain ⟨x, h1, h2, h3⟩ := argK_ok h ht hr
    split at h3
    · exact ⟨d, _, rfl, h3, fun K hK => by simp only [vc1, h1, ren, renL_map, map_len]; simpa only [ren] using hK⟩
    · exact ⟨d, _, rfl, h3, fun K hK => by simp only [vc1, h1, ren]; simpa only [ren] using hK⟩
    · exact absurd h3.symm ht
  | lenStr d x =>
    dsimp only [valK] at h
    obtain ⟨x, h1, h2, h3⟩ := argK_ok h ht hr
    split at h3
    · exact ⟨d, _, rfl, h3, fun K hK => by simp only [vc1, h1, ren]; simpa only [ren] using hK⟩
    · exact absurd h3.symm ht
  | lenK d n =>
    dsimp only [valK] at h
    exact ⟨d, _, rfl, h, fun K hK => by simp only [vc1]; simpa only [ren] using hK⟩
  | bin d op x y =>
    dsimp only [valK] at h
    obtain ⟨x, h1, h2, h3⟩ := argK_ok h ht hr
    obtain ⟨y, h4, h5, h6⟩ := argK_ok h3 ht hr
    split at h6
    · rename_i v hv
      obtain ⟨e1, e2⟩ := binKb_ren hv ρ
      refine ⟨d, _, rfl, h6, fun K hK => ?_⟩
      simp only [vc1, h1, h4, e1, e2]
      exact binKb_ok hv (by simpa only [ren] using hK)
    · exact absurd h6.symm ht
  | binB d neg x y =>
    dsimp only [valK] at h
    obtain ⟨x, h1, h2, h3⟩ := argK_ok h ht hr
    obtain ⟨y, h4, h5, h6⟩ := argK_ok h3 ht hr
    split at h6
    · exact ⟨d, _, rfl, h6, fun K hK => by simp only [vc1, h1, h4, ren]; simpa only [ren] using hK⟩
    · exact absurd h6.symm ht
  | build d z ps =>
    dsimp only [valK] at h
    obtain ⟨h1, h2⟩ := cond_ok h ht
    obtain ⟨v, g1, g2, g3⟩ := fillE_ok ht hr h2 (belowL_mono (Nat.zero_le _) z h1)
    refine ⟨d, _, by simp only [below]; exact g1, g2, fun K hK => ?_⟩
    have hz : z.map (ren ρ) = z := by
      have := List.map_congr_left (f := ren ρ) (g := id) (l := z) fun x hx => ren_id (belowL_iff.1 h1 x hx)
      rw [this, List.map_id]
    simp only [vc1]
    have := g3 (fun cs => K (s.set d (.agg cs))) (by simpa only [ren, renL_map] using hK)
    rw [hz] at this
    exact this
  | binA d neg n x y =>
    dsimp only [valK] at h
    obtain ⟨x, h1, h2, h3⟩ := argK_ok h ht hr
    obtain ⟨y, h4, h5, h6⟩ := argK_ok h3 ht hr
    split at h6
    · obtain ⟨c1, c2⟩ := cond_ok h6 ht
      simp only [Bool.and_eq_true] at c1
      split at c2
      · rename_i q hq
        refine ⟨d, _, rfl, c2, fun K hK => ?_⟩
        simp only [vc1, h1, h4, ren, renL_map, map_len, ren_eqCells]
        exact ⟨Nat.eq_of_beq_eq_true c1.1, Nat.eq_of_beq_eq_true c1.2, q, hq, by simpa only [ren] using hK⟩
      · exact absurd c2.symm ht
    · exact absurd h6.symm ht
  | not d x =>
    dsimp only [valK] at h
    obtain ⟨x, h1, h2, h3⟩ := argK_ok h ht hr
    split at h3
    · exact ⟨d, _, rfl, h3, fun K hK => by simp only [vc1, h1, ren]; simpa only [ren] using hK⟩
    · exact absurd h3.symm ht
  | neg d x =>
    dsimp only [valK] at h
    obtain ⟨x, h1, h2, h3⟩ := argK_ok h ht hr
    split at h3
    · obtain ⟨c1, c2⟩ := cond_ok h3 ht
      exact ⟨d, _, rfl, c2, fun K hK => by simp only [vc1, h1, ren]; exact ⟨inKb_ok c1, by simpa only [ren] using hK⟩⟩
    · exact absurd h3.symm ht
  | conv d q x =>
    dsimp only [valK] at h
    obtain ⟨x, h1, h2, h3⟩ := argK_ok h ht hr
    split at h3
    · exact ⟨d, _, rfl, h3, fun K hK => by simp only [vc1, h1, ren]; simpa only [ren] using hK⟩
    · exact absurd h3.symm ht
  | pick d c x y =>
    dsimp only [valK] at h
    obtain ⟨c, h1, h2, h3⟩ := argK_ok h ht hr
    split at h3
    · obtain ⟨x, h4, h5, h6⟩ := argK_ok h3 ht hr
      exact ⟨d, x, h5, h6, fun K hK => by simp only [vc1, h1, ren, if_true, h4]; exact hK⟩
    · obtain ⟨y, h4, h5, h6⟩ := argK_ok h3 ht hr
      exact ⟨d, y, h5, h6, fun K hK => by simp only [vc1, h1, ren, Bool.false_eq_true, if_false, h4]; exact hK⟩
    · exact absurd h3.symm ht
  | ext d x i =>
    dsimp only [valK] at h
    obtain ⟨x, h1, h2, h3⟩ := argK_ok h ht hr
    split at h3
    · obtain ⟨c1, c2⟩ := cond_ok h3 ht
      rw [eK_eq] at c2
      simp only [below] at h2
      refine ⟨d, _, below_erase (below_getD i h2), c2, fun K hK => ?_⟩
      simp only [vc1, h1, ren, renL_map, map_len, ren_getD, ren_erase]
      exact ⟨Nat.lt_of_succ_le (by simpa [Nat.blt] using c1), hK⟩
    · exact absurd h3.symm ht
  | maxI d x y =>
    dsimp only [valK] at h
    obtain ⟨x, h1, h2, h3⟩ := argK_ok h ht hr
    obtain ⟨y, h4, h5, h6⟩ := argK_ok h3 ht hr
    split at h6
    · exact ⟨d, _, rfl, h6, fun K hK => by simp only [vc1, h1, h4, ren]; simpa only [ren] using hK⟩
    · exact absurd h6.symm ht
  | minI d x y =>
    dsimp only [valK] at h
    obtain ⟨x, h1, h2, h3⟩ := argK_ok h ht hr
    obtain ⟨y, h4, h5, h6⟩ := argK_ok h3 ht hr
    split at h6
    · exact ⟨d, _, rfl, h6, fun K hK => by simp only [vc1, h1, h4, ren]; simpa only [ren] using hK⟩
    · exact absurd h6.symm ht
  | nilchk d x =>
    dsimp only [valK] at h
    obtain ⟨x, h1, h2, h3⟩ := argK_ok h ht hr
    split at h3
    · exact ⟨d, _, h2, h3, fun K hK => by simp only [vc1, h1, ren]; simpa only [ren] using hK⟩
    · exact ⟨d, _, h2, h3, fun K hK => by simp only [vc1, h1, ren]; simpa only [ren] using hK⟩
    · exact absurd h3.symm ht
  | slcHi d x hi sz =>
    dsimp only [valK] at h
    obtain ⟨x, h1, h2, h3⟩ := argK_ok h ht hr
    obtain ⟨i, h4, h5, h6⟩ := argK_ok h3 ht hr
    split at h6
    · rename_i sz' xs r q n
      obtain ⟨c1, c2⟩ := cond_ok h6 ht
      simp only [Bool.and_eq_true, Bool.or_eq_true, List.isEmpty_iff] at c1
      obtain ⟨q1, q2⟩ := inR'_ok c1.2
      rw [fL_eq] at c2
      simp only [below] at h2
      refine ⟨d, _, by simp only [below]; exact belowL_take _ h2, c2, fun K hK => ?_⟩
      simp only [vc1, h1, h4, ren, renL_map, map_len]
      exact ⟨c1.1.imp Nat.eq_of_beq_eq_true (fun e => by rw [e]; rfl), q1, q2, by simpa only [ren, renL_map, List.map_take] using hK⟩
    · exact absurd h6.symm ht
  | slcLo d x lo sz =>
    dsimp only [valK] at h
    obtain ⟨x, h1, h2, h3⟩ := argK_ok h ht hr
    obtain ⟨i, h4, h5, h6⟩ := argK_ok h3 ht hr
    split at h6
    · rename_i sz' xs r q n
      obtain ⟨c1, c2⟩ := cond_ok h6 ht
      simp only [Bool.and_eq_true, Bool.or_eq_true, List.isEmpty_iff] at c1
      obtain ⟨q1, q2⟩ := inR'_ok c1.2
      rw [fL_eq] at c2
      simp only [below] at h2
      refine ⟨d, _, by simp only [below]; exact belowL_drop _ h2, c2, fun K hK => ?_⟩
      simp only [vc1, h1, h4, ren, renL_map, map_len]
      exact ⟨c1.1.imp Nat.eq_of_beq_eq_true (fun e => by rw [e]; rfl), q1, q2, by simpa only [ren, renL_map, List.map_drop] using hK⟩
    · exact absurd h6.symm ht
  | strLo d x lo =>
    dsimp only [valK] at h
    obtain ⟨x, h1, h2, h3⟩ := argK_ok h ht hr
    obtain ⟨i, h4, h5, h6⟩ := argK_ok h3 ht hr
    split at h6
    · obtain ⟨c1, c2⟩ := cond_ok h6 ht
      obtain ⟨q1, q2⟩ := inR'_ok c1
      exact ⟨d, _, rfl, c2, fun K hK => by simp only [vc1, h1, h4, ren]; exact ⟨q1, by omega, by simpa only [ren] using hK⟩⟩
    · exact absurd h6.symm ht
  | mkfn d fn a b =>
    dsimp only [valK] at h
    obtain ⟨h0, h⟩ := cond_ok h ht
    obtain ⟨xs, h1, h2, h3⟩ := argsK_ok ht hr h
    obtain ⟨ys, h4, h5, h6⟩ := argsK_ok ht hr h3
    have hf : below e.nx (.func fn [] []) = true := below_mono (Nat.zero_le _) (.func fn [] []) (by simp only [below, belowL, h0, Bool.and_self])
    simp only [below, belowL, Bool.and_true] at hf
    refine ⟨d, _, by simp only [below, h2, h5, hf, Bool.and_self], h6, fun K hK => ?_⟩
    have hrf : renF ρ fn = fn := by cases fn <;> first | rfl | (cases h0)
    simp only [vc1, h1, h4]
    simpa only [ren, renL_map, hrf] using hK
  | _ => exact absurd (show t = fail from h.symm) ht

end
end Go.Avm

namespace Go.Avm

section
variable {R : Type} (e : ES) (fail : R)

def putK (d : Nat) (x : AV) (k : ES → R) : R := bif Nat.blt d 1000000 then setK 24 e.env d (some x) fun t => k ⟨t, e.loc, e.obj, e.gh, e.nx⟩ else fail
def demS (r : Nat) (k : ES → R) : R := demK r e.env fun env => demLK r e.loc fun loc => k ⟨env, loc, e.obj, e.gh, e.nx⟩
def newK (cs : List AV) (k : Nat → ES → R) : R := bif Nat.blt e.nx 16000000 then setK 24 e.loc e.nx (some cs) fun loc => fN (e.nx + 1) fun nx => k e.nx ⟨e.env, loc, e.obj, e.gh, nx⟩ else fail
def locK (b : Nat) (cs : Option (List AV)) (k : ES → R) : R := bif Nat.blt b 16000000 then setK 24 e.loc b cs fun loc => k ⟨e.env, loc, e.obj, e.gh, e.nx⟩ else fail
def newO (x : AV) (k : Nat → ES → R) : R := bif Nat.blt e.nx 16000000 then setK 24 e.obj e.nx (some x) fun obj => fN (e.nx + 1) fun nx => k e.nx ⟨e.env, e.loc, obj, e.gh, nx⟩ else fail
def objK (b : Nat) (x : AV) (k : ES → R) : R := bif Nat.blt b 16000000 then setK 24 e.obj b (some x) fun obj => k ⟨e.env, e.loc, obj, e.gh, e.nx⟩ else fail
end

def Nx {R : Type} (ρ : Nat → Nat) (e : ES) (k : ES → R) (t : R) (s' : St) : Prop := ∃ ρ' e', Rel ρ' e' s' ∧ e.nx ≤ e'.nx ∧ (∀ b, b < e.nx → ρ' b = ρ b) ∧ k e' = t

section
variable {R : Type} {e : ES} {fail t : R} {ρ : Nat → Nat} {s : St}

theorem Nx.of (h : Rel ρ e s) {k : ES → R} (hk : k e = t) : Nx ρ e k t s := ⟨ρ, e, h, Nat.le_refl _, fun _ _ => rfl, hk⟩

theorem small {d : Nat} (h : Nat.blt d 1000000 = true) : d < gS ∧ d + 1 < 2 ^ 24 := by
  have : d < 1000000 := Nat.lt_of_succ_le (by simpa [Nat.blt] using h)
  simp only [gS]; omega
theorem small' {d : Nat} (h : Nat.blt d 16000000 = true) : d + 1 < 2 ^ 24 := by
  have : d < 16000000 := Nat.lt_of_succ_le (by simpa [Nat.blt] using h)
  omega

theorem at_set {k d : Nat} (x : AV) (h : d + 1 < 2 ^ 24) : ES.at ⟨T.set 24 e.env d (some x), e.loc, e.obj, e.gh, e.nx⟩ k = if k = d then x else e.at k := by
  simp only [ES.at, T.get_set 24 _ _ _ _ h]
  split <;> rfl

theorem put_ok {d : Nat} {x : AV} {k : ES → R} (h : putK e fail d x k = t) (ht : t ≠ fail) (hr : Rel ρ e s) (hx : below e.nx x = true) : ∃ e', Rel ρ e' (s.set d (ren ρ x)) ∧ e'.nx = e.nx ∧ k e' = t := by
  obtain ⟨h1, h2⟩ := cond_ok h ht
  obtain ⟨g1, g2⟩ := small h1
  rw [setK_eq] at h2
  refine ⟨⟨T.set 24 e.env d (some x), e.loc, e.obj, e.gh, e.nx⟩, ⟨fun q hq => ?_, fun q => ?_, ?_, hr.gb, hr.loc, hr.linj, fun b x hb => ?_, hr.oinj, hr.og, hr.gg⟩, rfl, h2⟩
  · rw [at_set x g2]
    by_cases e1 : q = d
    · rw [if_pos e1, e1]; exact upd_same _ _ _
    · rw [if_neg e1]; exact (upd_ne _ _ e1).trans (hr.env q hq)
  · rw [at_set x g2]
    split
    · exact hx
    · exact hr.bnd q
  · exact (upd_ne _ _ (by omega)).trans hr.gh
  · obtain ⟨o1, o2, o3⟩ := hr.obj b x hb
    exact ⟨o1, (upd_ne _ _ (by have := gS_lt_oS (ρ b); omega)).trans o2, o3⟩

theorem demS_ok {r : Nat} {k : ES → R} (h : demS e r k = t) (hr : Rel ρ e s) :
    ∃ e', Rel ρ e' (s.dem r) ∧ e'.nx = e.nx ∧ e'.gh = e.gh ∧ e'.obj = e.obj ∧ k e' = t ∧ ∀ b cs, e.loc.get b = some cs → e'.loc.get b = some (cs.map (demote r)) := by
  unfold demS at h
  rw [demK_eq, demLK_eq] at h
  have hat : ∀ q, ES.at ⟨e.env.map (demote r), e.loc.map (·.map (demote r)), e.obj, e.gh, e.nx⟩ q = demote r (e.at q) := by
    intro q
    simp only [ES.at, T.get_map]
    cases e.env.get q <;> rfl
  refine ⟨⟨e.env.map (demote r), e.loc.map (·.map (demote r)), e.obj, e.gh, e.nx⟩, ⟨fun q hq => ?_, fun q => ?_, ?_, hr.gb, fun b cs hb => ?_, fun b b' h1 h2 => ?_, fun b x hb => ?_, hr.oinj, hr.og, hr.gg⟩, rfl, rfl, rfl, h, fun b cs hb => by simp only [T.get_map, hb]; rfl⟩
  · rw [hat, ← ren_demote]
    show demote r (s.env q) = _
    rw [hr.env q hq]
  · rw [hat]; exact below_demote r (hr.bnd q)
  · show demote r (s.env gS) = _
    rw [hr.gh, ren_demote, isG_dem hr.gg r]
  · simp only [T.get_map, Option.map_eq_some_iff] at hb
    obtain ⟨cs', hcs, rfl⟩ := hb
    obtain ⟨l1, l2, l3⟩ := hr.loc b cs' hcs
    refine ⟨l1, ?_, belowL_demote r l3⟩
    simp only [St.dem, l2, Option.map_some, List.map_map]
    congr 1
    exact List.map_congr_left fun x _ => ren_demote ρ r x
  · simp only [T.get_map, ne_eq, Option.map_eq_none_iff] at h1 h2
    exact hr.linj b b' h1 h2
  · obtain ⟨o1, o2, o3⟩ := hr.obj b x hb
    refine ⟨o1, ?_, o3⟩
    show demote r (s.env (oS + ρ b)) = x
    rw [o2]; exact isG_dem (hr.og b x hb) r

theorem upd_below {n B : Nat} : ∀ b, b < n → upd ρ n B b = ρ b := fun b hb => upd_ne _ _ (by omega)

/-- A new block. -/
theorem new_ok {cs : List AV} {k : Nat → ES → R} (h : newK e fail cs k = t) (ht : t ≠ fail) (hr : Rel ρ e s) (hc : belowL e.nx cs = true) {B : Nat} (hB : s.loc B = none) :
    ∃ e', Rel (upd ρ e.nx B) e' (s.new B (cs.map (ren ρ))) ∧ e'.nx = e.nx + 1 ∧ e'.gh = e.gh ∧ k e.nx e' = t := by
  obtain ⟨h1, h2⟩ := cond_ok h ht
  have g2 := small' h1
  rw [setK_eq, fN_eq] at h2
  have hren : ∀ x, below e.nx x = true → ren (upd ρ e.nx B) x = ren ρ x := fun x hx => ren_below upd_below x hx
  have hmap : ∀ xs, belowL e.nx xs = true → xs.map (ren (upd ρ e.nx B)) = xs.map (ren ρ) := fun xs hxs => List.map_congr_left fun x hx => hren x (belowL_iff.1 hxs x hx)
  refine ⟨⟨e.env, T.set 24 e.loc e.nx (some cs), e.obj, e.gh, e.nx + 1⟩, ⟨fun q hq => ?_, fun q => below_mono (Nat.le_succ _) _ (hr.bnd q), hr.gh.trans (hren _ hr.gb).symm, below_mono (Nat.le_succ _) _ hr.gb, fun b cs' hb => ?_, fun b b' h3 h4 h5 => ?_, fun b x hb => ?_, fun b b' h3 h4 h5 => ?_, hr.og, hr.gg⟩, rfl, rfl, h2⟩
  · show s.env q = _
    rw [hr.env q hq]
    exact (hren _ (hr.bnd q)).symm
  · simp only [T.get_set 24 _ _ _ _ g2] at hb
    split at hb
    · rename_i e1
      injection hb with hb; subst hb; subst e1
      refine ⟨Nat.lt_succ_self _, ?_, belowL_mono (Nat.le_succ _) _ hc⟩
      rw [upd_same, hmap _ hc]
      exact upd_same _ _ _
    · rename_i e1
      obtain ⟨l1, l2, l3⟩ := hr.loc b cs' hb
      refine ⟨Nat.lt_succ_of_lt l1, ?_, belowL_mono (Nat.le_succ _) _ l3⟩
      rw [upd_ne _ _ e1, hmap _ l3]
      exact (upd_ne _ _ (by intro e2; rw [e2, hB] at l2; cases l2)).trans l2
  · simp only [T.get_set 24 _ _ _ _ g2] at h3 h4
    by_cases e1 : b = e.nx <;> by_cases e2 : b' = e.nx
    · rw [e1, e2]
    · rw [if_neg e2] at h4
      rw [e1, upd_same, upd_ne _ _ e2] at h5
      cases hl : e.loc.get b' with
      | none => exact absurd hl h4
      | some cs' => have := (hr.loc b' cs' hl).2.1; rw [← h5, hB] at this; cases this
    · rw [if_neg e1] at h3
      rw [e2, upd_same, upd_ne _ _ e1] at h5
      cases hl : e.loc.get b with
      | none => exact absurd hl h3
      | some cs' => have := (hr.loc b cs' hl).2.1; rw [h5, hB] at this; cases this
    · rw [if_neg e1] at h3; rw [if_neg e2] at h4
      rw [upd_ne _ _ e1, upd_ne _ _ e2] at h5
      exact hr.linj b b' h3 h4 h5
  · obtain ⟨o1, o2, o3⟩ := hr.obj b x hb
    exact ⟨Nat.lt_succ_of_lt o1, by rw [upd_ne _ _ (by omega)]; exact o2, o3⟩
  · cases hl : e.obj.get b with
    | none => exact absurd hl h3
    | some x => cases hl' : e.obj.get b' with
      | none => exact absurd hl' h4
      | some x' =>
        have b1 := (hr.obj b x hl).1; have b2 := (hr.obj b' x' hl').1
        rw [upd_ne _ _ (by omega), upd_ne _ _ (by omega)] at h5
        exact hr.oinj b b' h3 h4 h5

/-- A block's cells turn. -/
theorem loc_ok {b : Nat} {cs0 : List AV} {cs : Option (List AV)} {k : ES → R} (h : locK e fail b cs k = t) (ht : t ≠ fail) (hr : Rel ρ e s) (h0 : e.loc.get b = some cs0) (hc : ∀ x, cs = some x → belowL e.nx x = true) :
    ∃ e', Rel ρ e' ⟨s.env, upd s.loc (ρ b) (cs.map (·.map (ren ρ)))⟩ ∧ e'.nx = e.nx ∧ e'.gh = e.gh ∧ k e' = t ∧ e'.at = e.at := by
  obtain ⟨h1, h2⟩ := cond_ok h ht
  have g2 := small' h1
  rw [setK_eq] at h2
  refine ⟨⟨e.env, T.set 24 e.loc b cs, e.obj, e.gh, e.nx⟩, ⟨hr.env, hr.bnd, hr.gh, hr.gb, fun c cs' hb => ?_, fun c c' h3 h4 h5 => ?_, hr.obj, hr.oinj, hr.og, hr.gg⟩, rfl, rfl, h2, rfl⟩
  · simp only [T.get_set 24 _ _ _ _ g2] at hb
    split at hb
    · rename_i e1
      subst hb; subst e1
      exact ⟨(hr.loc _ _ h0).1, upd_same _ _ _, hc _ rfl⟩
    · rename_i e1
      obtain ⟨l1, l2, l3⟩ := hr.loc c cs' hb
      refine ⟨l1, (upd_ne _ _ ?_).trans l2, l3⟩
      intro e2
      exact e1 (hr.linj c b (by rw [hb]; simp) (by rw [h0]; simp) e2)
  · simp only [T.get_set 24 _ _ _ _ g2] at h3 h4
    refine hr.linj c c' ?_ ?_ h5
    · by_cases e1 : c = b
      · rw [e1, h0]; simp
      · rw [if_neg e1] at h3; exact h3
    · by_cases e1 : c' = b
      · rw [e1, h0]; simp
      · rw [if_neg e1] at h4; exact h4

theorem newO_ok {x : AV} {k : Nat → ES → R} (h : newO e fail x k = t) (ht : t ≠ fail) (hr : Rel ρ e s) (hx : x ≠ .any) (hG : isG x = true) {B : Nat} (hB : s.env (oS + B) = .any) :
    ∃ e', Rel (upd ρ e.nx B) e' (s.set (oS + B) x) ∧ e'.nx = e.nx + 1 ∧ e'.gh = e.gh ∧ k e.nx e' = t := by
  obtain ⟨h1, h2⟩ := cond_ok h ht
  have g2 := small' h1
  rw [setK_eq, fN_eq] at h2
  have hren : ∀ x, below e.nx x = true → ren (upd ρ e.nx B) x = ren ρ x := fun x hx => ren_below upd_below x hx
  have hmap : ∀ xs, belowL e.nx xs = true → xs.map (ren (upd ρ e.nx B)) = xs.map (ren ρ) := fun xs hxs => List.map_congr_left fun x hx => hren x (belowL_iff.1 hxs x hx)
  have hS := gS_lt_oS B
  refine ⟨⟨e.env, e.loc, T.set 24 e.obj e.nx (some x), e.gh, e.nx + 1⟩, ⟨fun q hq => ?_, fun q => below_mono (Nat.le_succ _) _ (hr.bnd q), ?_, below_mono (Nat.le_succ _) _ hr.gb, fun b cs' hb => ?_, fun b b' h3 h4 h5 => ?_, fun b y hb => ?_, fun b b' h3 h4 h5 => ?_, fun b y hb => ?_, hr.gg⟩, rfl, rfl, h2⟩
  · refine (upd_ne _ _ (by omega)).trans ?_
    rw [hr.env q hq]
    exact (hren _ (hr.bnd q)).symm
  · exact (upd_ne _ _ (by omega)).trans (hr.gh.trans (hren _ hr.gb).symm)
  · obtain ⟨l1, l2, l3⟩ := hr.loc b cs' hb
    refine ⟨Nat.lt_succ_of_lt l1, ?_, belowL_mono (Nat.le_succ _) _ l3⟩
    rw [upd_ne _ _ (by omega), hmap _ l3]
    exact l2
  · cases hl : e.loc.get b with
    | none => exact absurd hl h3
    | some x => cases hl' : e.loc.get b' with
      | none => exact absurd hl' h4
      | some x' =>
        have b1 := (hr.loc b x hl).1; have b2 := (hr.loc b' x' hl').1
        rw [upd_ne _ _ (by omega), upd_ne _ _ (by omega)] at h5
        exact hr.linj b b' h3 h4 h5
  · simp only [T.get_set 24 _ _ _ _ g2] at hb
    split at hb
    · rename_i e1
      injection hb with hb; subst hb; subst e1
      exact ⟨Nat.lt_succ_self _, by rw [upd_same]; exact upd_same _ _ _, hx⟩
    · rename_i e1
      obtain ⟨o1, o2, o3⟩ := hr.obj b y hb
      refine ⟨Nat.lt_succ_of_lt o1, ?_, o3⟩
      rw [upd_ne _ _ e1]
      refine (upd_ne _ _ ?_).trans o2
      intro e2
      have e3 : ρ b = B := by omega
      rw [e3, hB] at o2
      exact o3 o2.symm
  · simp only [T.get_set 24 _ _ _ _ g2] at h3 h4
    by_cases e1 : b = e.nx <;> by_cases e2 : b' = e.nx
    · rw [e1, e2]
    · rw [if_neg e2] at h4
      rw [e1, upd_same, upd_ne _ _ e2] at h5
      cases hl : e.obj.get b' with
      | none => exact absurd hl h4
      | some y => have := hr.obj b' y hl; rw [← h5, hB] at this; exact absurd this.2.1.symm this.2.2
    · rw [if_neg e1] at h3
      rw [e2, upd_same, upd_ne _ _ e1] at h5
      cases hl : e.obj.get b with
      | none => exact absurd hl h3
      | some y => have := hr.obj b y hl; rw [h5, hB] at this; exact absurd this.2.1.symm this.2.2
    · rw [if_neg e1] at h3; rw [if_neg e2] at h4
      rw [upd_ne _ _ e1, upd_ne _ _ e2] at h5
      exact hr.oinj b b' h3 h4 h5
  · simp only [T.get_set 24 _ _ _ _ g2] at hb
    split at hb
    · injection hb with hb; subst hb; exact hG
    · exact hr.og b y hb

theorem objK_ok {b : Nat} {x0 x : AV} {k : ES → R} (h : objK e fail b x k = t) (ht : t ≠ fail) (hr : Rel ρ e s) (h0 : e.obj.get b = some x0) (hx : x ≠ .any) (hG : isG x = true) :
    ∃ e', Rel ρ e' (s.set (oS + ρ b) x) ∧ e'.nx = e.nx ∧ e'.gh = e.gh ∧ k e' = t := by
  obtain ⟨h1, h2⟩ := cond_ok h ht
  have g2 := small' h1
  rw [setK_eq] at h2
  have hS := gS_lt_oS (ρ b)
  refine ⟨⟨e.env, e.loc, T.set 24 e.obj b (some x), e.gh, e.nx⟩, ⟨fun q hq => (upd_ne _ _ (by omega)).trans (hr.env q hq), hr.bnd, (upd_ne _ _ (by omega)).trans hr.gh, hr.gb, hr.loc, hr.linj, fun c y hb => ?_, fun c c' h3 h4 h5 => ?_, fun c y hb => ?_, hr.gg⟩, rfl, rfl, h2⟩
  · simp only [T.get_set 24 _ _ _ _ g2] at hb
    split at hb
    · rename_i e1
      injection hb with hb; subst hb; subst e1
      exact ⟨(hr.obj _ _ h0).1, upd_same _ _ _, hx⟩
    · rename_i e1
      obtain ⟨o1, o2, o3⟩ := hr.obj c y hb
      refine ⟨o1, (upd_ne _ _ ?_).trans o2, o3⟩
      intro e2
      exact e1 (hr.oinj c b (by rw [hb]; simp) (by rw [h0]; simp) (by omega))
  · simp only [T.get_set 24 _ _ _ _ g2] at h3 h4
    refine hr.oinj c c' ?_ ?_ h5
    · by_cases e1 : c = b
      · rw [e1, h0]; simp
      · rw [if_neg e1] at h3; exact h3
    · by_cases e1 : c' = b
      · rw [e1, h0]; simp
      · rw [if_neg e1] at h4; exact h4
  · simp only [T.get_set 24 _ _ _ _ g2] at hb
    split at hb
    · injection hb with hb; subst hb; exact hG
    · exact hr.og c y hb
end
end Go.Avm

namespace Go.Avm

mutual
def eqvA : AV → AV → Bool
  | .lit v, .lit v' => vEq v v'
  | .slice sz xs r, .slice sz' ys r' => Nat.beq sz sz' && Nat.beq r r' && eqvL xs ys
  | .ref xs, .ref ys => eqvL xs ys
  | .agg xs, .agg ys => eqvL xs ys
  | .tuple xs, .tuple ys => eqvL xs ys
  | _, _ => false
def eqvL : List AV → List AV → Bool
  | [], [] => true
  | x :: xs, y :: ys => eqvA x y && eqvL xs ys
  | _, _ => false
end

mutual
theorem eqvA_ok : ∀ (x y : AV), eqvA x y = true → x = y
  | .lit v, y, h => by cases y <;> simp only [eqvA] at h <;> first | (cases h; done) | rw [(vEq_eq h).1]
  | .slice sz xs r, y, h => by
    cases y <;> simp only [eqvA] at h <;> first | (cases h; done) | skip
    simp only [Bool.and_eq_true] at h
    rw [Nat.eq_of_beq_eq_true h.1.1, Nat.eq_of_beq_eq_true h.1.2, eqvL_ok xs _ h.2]
  | .ref xs, y, h => by cases y <;> simp only [eqvA] at h <;> first | (cases h; done) | rw [eqvL_ok xs _ h]
  | .agg xs, y, h => by cases y <;> simp only [eqvA] at h <;> first | (cases h; done) | rw [eqvL_ok xs _ h]
  | .tuple xs, y, h => by cases y <;> simp only [eqvA] at h <;> first | (cases h; done) | rw [eqvL_ok xs _ h]
  | .any, _, h => by simp [eqvA] at h
  | .mref _ _, _, h => by simp [eqvA] at h
  | .mslice .., _, h => by simp [eqvA] at h
  | .func .., _, h => by simp [eqvA] at h
  | .ghost .., _, h => by simp [eqvA] at h
  | .mapr _, _, h => by simp [eqvA] at h
theorem eqvL_ok : ∀ (xs ys : List AV), eqvL xs ys = true → xs = ys
  | [], [], _ => rfl
  | x :: xs, y :: ys, h => by
    simp only [eqvL, Bool.and_eq_true] at h
    rw [eqvA_ok x y h.1, eqvL_ok xs ys h.2]
  | [], _ :: _, h => by simp [eqvL] at h
  | _ :: _, [], h => by simp [eqvL] at h
end

section
variable {R : Type} (col : Bool) (call : Nat → FuncId → List AV → Option AV) (amb : R → R → R) (fail : R)

def apartB (e : ES) (x z : MArg) : Bool := match (argK e none z some : Option AV), (argK e none x some : Option AV) with
  | some (.mref b' _), some (.mref b _) => !(Nat.beq b' b) && (e.loc.get b').isSome && (e.loc.get b).isSome
  | some (.ref _), some (.mref _ _) => true
  | _, _ => false

def fillSE (e : ES) (sz : Nat) (xs : List AV) : List (Nat × MArg) → (List AV → R) → R
  | [], k => k xs
  | (i, x) :: ps, k => argK e fail x fun x => bif Nat.beq x.cells.length sz && x.cells.all AV.cell1 && Nat.blt i xs.length then eK x fun x => fL (xs.set i x) fun xs => fillSE e sz xs ps k else fail

def asgK (e : ES) (d : Nat) (x : AV) (k : ES → R) : R := match x with
  | .slice sz xs r => bif Nat.beq r 0 then putK e fail d (.slice sz xs 0) k else demS e r fun e => demS e (d + 1) fun e => putK e fail d (.slice sz xs (d + 1)) k
  | x => putK e fail d x k

def storE (e : ES) (b off n oid : Nat) (cs : List AV) (y : AV) (k : ES → R) : R :=
  bif Nat.ble (off + n) cs.length && Nat.beq y.cells.length n && y.cells.all AV.cell1 then match y with
    | .slice sz xs r => bif Nat.beq r 0 || Nat.beq oid 0 then fL (splice cs off [.slice sz xs 0]) fun cs => locK e fail b (some cs) k
        else demS e r fun e => demS e oid fun e => fL ((cs.map (fun x => demote oid (demote r x))).set off (.slice sz xs oid)) fun cs => locK e fail b (some cs) k
    | y => fL (splice cs off (y.cells.map AV.erase0)) fun cs => locK e fail b (some cs) k
  else fail

def skipK (e : ES) (d : Option Nat) (k : ES → R) : R := match d with
  | some d => putK e fail d (.tuple []) k
  | none => k e

def keyOKb : Option Nat → AV → Bool
  | none, .lit (.int _ _) => true
  | some n, .agg xs => Nat.beq xs.length n
  | _, _ => false

def oK_asg (d : Nat) (x : MArg) (e : ES) (k : ES → R) : R := argK e fail x fun x => asgK fail e d x k
def oK_asgNil (d : Nat) (sz : Nat) (e : ES) (k : ES → R) : R := demS e (d + 1) fun e => putK e fail d (.slice sz [] (d + 1)) k
def oK_boxM (d : Nat) (x : MArg) (n : Nat) (e : ES) (k : ES → R) : R := argK e fail x fun x => bif Nat.beq x.cells.length n then fL (x.cells.map AV.erase0) fun cs => newK e fail cs fun b e => putK e fail d (.mref b 0) k else fail
def oK_alloc (d : Nat) (z : List AV) (e : ES) (k : ES → R) : R := bif belowL 0 z then newK e fail z fun b e => putK e fail d (.mref b 0) k else fail
def oK_store (x : MArg) (y : MArg) (n : Nat) (oid : Nat) (e : ES) (k : ES → R) : R := argK e fail x fun x => argK e fail y fun y => match x with
    | .mref b off => match e.loc.get b with
      | some cs => storE fail e b off n oid cs y k
      | none => fail
    | _ => fail
def oK_storeNil (x : MArg) (sz : Nat) (oid : Nat) (e : ES) (k : ES → R) : R := argK e fail x fun x => match x with
    | .mref b off => match e.loc.get b with
      | some cs => bif Nat.blt off cs.length then demS e oid fun e => fL ((cs.map (demote oid)).set off (.slice sz [] oid)) fun cs => locK e fail b (some cs) k else fail
      | none => fail
    | _ => fail
def oK_storeF (q : Nat) (y : MArg) (n : Nat) (e : ES) (k : ES → R) : R := argK e fail (.t q) fun x => argK e fail y fun y => match x with
    | .mref b 0 => match e.loc.get b with
      | some cs => bif Nat.beq cs.length n && Nat.beq y.cells.length n && y.cells.all AV.cell1 then locK e fail b none fun e => fL (y.cells.map AV.erase0) fun cs => putK e fail q (.ref cs) k else fail
      | none => fail
    | _ => fail
def oK_mkS (d : Nat) (n : Nat) (sz : Nat) (z : List AV) (ps : List (Nat × MArg)) (e : ES) (k : ES → R) : R := bif belowL 0 z then fL (List.replicate n (if sz = 1 then z.getD 0 .any else .agg z)) fun xs => fillSE fail e sz xs ps fun xs => demS e (d + 1) fun e => putK e fail d (.slice sz xs (d + 1)) k else fail
def oK_app (d : Nat) (x : MArg) (y : MArg) (sz : Nat) (bytes : Nat) (e : ES) (k : ES → R) : R := argK e fail x fun x => argK e fail y fun y => match x, y with
    | .slice szx xs r, .slice szy ys _ => bif !(Nat.beq r 0) && Nat.beq szx sz && (Nat.beq szy sz || ys.isEmpty) && Nat.ble ((xs.length + ys.length) * bytes) 140737488355328 && Nat.ble (xs.length + ys.length) 140737488355328 then
        demS e r fun e => demS e (d + 1) fun e => fL (xs ++ ys) fun zs => putK e fail d (.slice sz zs (d + 1)) k else fail
    | _, _ => fail
def oK_call (d : Nat) (f : FuncId) (xs : List MArg) (e : ES) (k : ES → R) : R := argsK e fail xs fun xs => match call e.nx f xs with
    | some r => bif below e.nx r then eK r fun r => putK e fail d r k else fail
    | none => fail
def oK_callv (d : Nat) (x : MArg) (xs : List MArg) (e : ES) (k : ES → R) : R := argK e fail x fun x => argsK e fail xs fun xs => match x with
    | .func (.func f) first cap => match call e.nx f (first ++ xs ++ cap) with
      | some r => bif below e.nx r then eK r fun r => putK e fail d r k else fail
      | none => fail
    | _ => fail
def oK_yld (d : Nat) (x : MArg) (xs : List MArg) (e : ES) (k : ES → R) : R := argK e fail x fun x => argsK e fail xs fun xs => match x, e.gh with
    | .func (.yield l) [] [], .ghost l' (y :: rest) false => bif Nat.beq l l' && belowL 0 xs && eqvL xs y then
        amb (putK ⟨e.env, e.loc, e.obj, .ghost l rest false, e.nx⟩ fail d (.lit (.bool true)) k) (putK ⟨e.env, e.loc, e.obj, .ghost l rest true, e.nx⟩ fail d (.lit (.bool false)) k) else fail
    | .func (.yield _) [] [], .ghost l' acc true => bif col then putK ⟨e.env, e.loc, e.obj, .ghost l' (acc ++ [xs]) true, e.nx⟩ fail d (.lit (.bool true)) k else fail
    | _, _ => fail
def oK_mkM (d : Nat) (n : MArg) (c : MArg) (sz : Nat) (bytes : Nat) (z : List AV) (e : ES) (k : ES → R) : R := argK e fail n fun n => argK e fail c fun c => match n, c with
    | .lit (.int .i64 (.ofNat n)), .lit (.int .i64 (.ofNat c)) => bif belowL 0 z && Nat.ble n c && Nat.ble (c * bytes) 140737488355328 && Nat.ble c 140737488355328 && Nat.ble (c * sz) 140737488355328 then
        fL (List.replicate c z).flatten fun cs => newK e fail cs fun b e => putK e fail d (.mslice b 0 n c sz) k else fail
    | _, _ => fail
def oK_cpyM (d : Nat) (x : MArg) (y : MArg) (sz : Nat) (e : ES) (k : ES → R) : R := argK e fail x fun x => argK e fail y fun y => match x, y with
    | .mslice b off len _ sz', .slice sz2 ys _ => match e.loc.get b with
      | some cs => bif Nat.beq sz' sz && (Nat.beq sz2 sz || ys.isEmpty) && Nat.ble (off + len * sz) cs.length then
          fL (splice cs off (((ys.take (min ys.length len)).flatMap AV.cells).map AV.erase0)) fun cs => locK e fail b (some cs) fun e => fN (min ys.length len) fun n => putK e fail d (.lit (.int .i64 n)) k else fail
      | none => fail
    | _, _ => fail
def oK_rngS (d : Nat) (x : MArg) (e : ES) (k : ES → R) : R := argK e fail x fun x => match x with
    | .lit (.string u) => newO e fail (itAV u 0) fun b e => putK e fail d (.mref b 0) k
    | _ => fail
def oK_nxtS (d : Nat) (x : MArg) (e : ES) (k : ES → R) : R := argK e fail x fun x => match x with
    | .mref b 0 => match e.obj.get b with
      | some (.ghost pos [[.lit (.string u)]] true) => bif Nat.blt pos u.size then
          fN (pos + (Utf8.decode u pos).2) fun pos' => fN (Utf8.decode u pos).1 fun c => objK e fail b (itAV u pos') fun e => putK e fail d (.tuple [.lit (.bool true), .lit (.int .i64 pos), .lit (.int .i32 c)]) k
          else putK e fail d (.tuple [.lit (.bool false)]) k
      | _ => fail
    | _ => fail
def oK_mkMap (d : Nat) (e : ES) (k : ES → R) : R := newO e fail (mapAV []) fun b e => putK e fail d (.mapr b) k
def oK_mapUpd (x : MArg) (q : MArg) (v : MArg) (n : Option Nat) (e : ES) (k : ES → R) : R := argK e fail x fun x => argK e fail q fun q => argK e fail v fun v => match x with
    | .mapr b => match e.obj.get b with
      | some (.ghost 0 es false) => eK q fun q => eK v fun v => bif keyOKb n q && below 0 q && below 0 v then (match keyAt q es 0 with
        | some (some i) => objK e fail b (mapAV (es.set i [q, v])) k
        | some none => objK e fail b (mapAV (es ++ [[q, v]])) k
        | none => fail) else fail
      | _ => fail
    | _ => fail
def oK_lookup (d : Nat) (x : MArg) (q : MArg) (n : Option Nat) (ok : Bool) (zero : AV) (e : ES) (k : ES → R) : R := argK e fail x fun x => argK e fail q fun q => match x with
    | .mapr b => match e.obj.get b with
      | some (.ghost 0 es false) => eK q fun q => bif keyOKb n q && below 0 q && below 0 zero then (match keyAt q es 0 with
        | some (some i) => fA ((es.getD i []).getD 1 .any) fun u => bif below 0 u then eK u fun u' => putK e fail d (if ok then .tuple [u, .lit (.bool true)] else u') k else fail
        | some none => eK zero fun u' => putK e fail d (if ok then .tuple [zero, .lit (.bool false)] else u') k
        | none => fail) else fail
      | _ => fail
    | _ => fail
def oK_frz (q : Nat) (e : ES) (k : ES → R) : R := argK e fail (.t q) fun x => match x with
    | .mslice b 0 len _ sz => match e.loc.get b with
      | some cs => bif Nat.ble (len * sz) cs.length && cs.all AV.cell1 && Nat.ble len 140737488355328 then locK e fail b none fun e => fL (chunk sz cs len) fun xs => putK e fail q (.slice sz xs 0) k else fail
      | none => fail
    | _ => fail

def evO : MOp → ES → (ES → R) → R
  | .asg d x, e, k => oK_asg fail d x e k
  | .asgNil d sz, e, k => oK_asgNil fail d sz e k
  | .boxM d x n, e, k => oK_boxM fail d x n e k
  | .alloc d z, e, k => oK_alloc fail d z e k
  | .store x y n oid, e, k => oK_store fail x y n oid e k
  | .storeNil x sz oid, e, k => oK_storeNil fail x sz oid e k
  | .storeF q y n, e, k => oK_storeF fail q y n e k
  | .mkS d n sz z ps, e, k => oK_mkS fail d n sz z ps e k
  | .app d x y sz bytes, e, k => oK_app fail d x y sz bytes e k
  | .call d f xs, e, k => oK_call call fail d f xs e k
  | .callv d x xs, e, k => oK_callv call fail d x xs e k
  | .apart zs x m, e, k => bif zs.all (apartB e x) then evO m e k else fail
  | .guard g want d m, e, k => argK e fail (.t g) fun v => match v with
    | .lit (.bool b) => bif b == want then evO m e k else skipK fail e d k
    | .tuple [] => skipK fail e d k
    | _ => fail
  | .yld d x xs, e, k => oK_yld col amb fail d x xs e k
  | .mkM d n c sz bytes z, e, k => oK_mkM fail d n c sz bytes z e k
  | .cpyM d x y sz, e, k => oK_cpyM fail d x y sz e k
  | .rngS d x, e, k => oK_rngS fail d x e k
  | .nxtS d x, e, k => oK_nxtS fail d x e k
  | .mkMap d, e, k => oK_mkMap fail d e k
  | .mapUpd x q v n, e, k => oK_mapUpd fail x q v n e k
  | .lookup d x q n ok zero, e, k => oK_lookup fail d x q n ok zero e k
  | .frz q, e, k => oK_frz fail q e k
  | m, e, k => valK e fail m fun d v => fA v fun v => putK e fail d v k
end
end Go.Avm

namespace Go.Avm

section
variable {R : Type} {P : Program} {call : Nat → FuncId → List AV → Option AV} {amb : R → R → R} {fail t : R}

def CallOK (P : Program) (call : Nat → FuncId → List AV → Option AV) : Prop := ∀ n f xs r, call n f xs = some r → belowL n xs = true → below n r = true → ∀ ρ, PCall P f (xs.map (ren ρ)) (ren ρ r)

theorem put_nx {e : ES} {ρ : Nat → Nat} {s : St} {d : Nat} {x : AV} {k : ES → R} (h : putK e fail d x k = t) (ht : t ≠ fail) (hr : Rel ρ e s) (hx : below e.nx x = true) : Nx ρ e k t (s.set d (ren ρ x)) := by
  obtain ⟨e', g1, g2, g3⟩ := put_ok h ht hr hx
  exact ⟨ρ, e', g1, by omega, fun _ _ => rfl, g3⟩

theorem asg_nx {e : ES} {ρ : Nat → Nat} {s : St} {d : Nat} {x : AV} {k : ES → R} (h : asgK fail e d x k = t) (ht : t ≠ fail) (hr : Rel ρ e s) (hx : below e.nx x = true) : Nx ρ e k t (asgSt s d (ren ρ x)) := by
  unfold asgK at h
  split at h
  · rename_i sz xs r
    simp only [ren, asgSt]
    cases hb : Nat.beq r 0 with
    | true =>
      rw [hb] at h
      rw [if_pos (Nat.eq_of_beq_eq_true hb)]
      have := put_nx (x := .slice sz xs 0) h ht hr (by simpa only [below] using hx)
      simpa only [ren] using this
    | false =>
      rw [hb, cond_false] at h
      rw [if_neg (fun e0 => by rw [e0] at hb; cases hb)]
      obtain ⟨e1, a1, a2, a3, a4, a5, _⟩ := demS_ok h hr
      obtain ⟨e2, b1, b2, b3, b4, b5, _⟩ := demS_ok a5 a1
      obtain ⟨e3, c1, c2, c3⟩ := put_ok (x := .slice sz xs (d + 1)) b5 ht b1 (by rw [b2, a2]; simpa only [below] using hx)
      exact ⟨ρ, e3, by simpa only [ren] using c1, by omega, fun _ _ => rfl, c3⟩
  · have : asgSt s d (ren ρ x) = s.set d (ren ρ x) := by
      rename_i hne
      cases x <;> first | rfl | exact absurd rfl (hne _ _ _)
    rw [this]; exact put_nx h ht hr hx

theorem new_nx {e : ES} {ρ : Nat → Nat} {s : St} {d : Nat} {cs : List AV} {x : Nat → AV} {k : ES → R} (h : newK e fail cs (fun b e => putK e fail d (x b) k) = t) (ht : t ≠ fail) (hr : Rel ρ e s) (hc : belowL e.nx cs = true)
    (hx : below (e.nx + 1) (x e.nx) = true) {B : Nat} (hB : s.loc B = none) : Nx ρ e k t ((s.new B (cs.map (ren ρ))).set d (ren (upd ρ e.nx B) (x e.nx))) := by
  obtain ⟨e1, a1, a2, a3, a4⟩ := new_ok h ht hr hc hB
  obtain ⟨e2, b1, b2, b3⟩ := put_ok a4 ht a1 (by rw [a2]; exact hx)
  exact ⟨_, e2, b1, by omega, upd_below, b3⟩

theorem isEmpty_ren {xs : List AV} {ρ : Nat → Nat} {sz sz' : Nat} (h : (Nat.beq sz' sz || xs.isEmpty) = true) : sz' = sz ∨ xs.map (ren ρ) = [] := by
  rcases Bool.or_eq_true _ _ ▸ h with h | h
  · exact .inl (Nat.eq_of_beq_eq_true h)
  · exact .inr (by rw [List.isEmpty_iff.1 h]; rfl)

theorem fillSE_ok (ht : t ≠ fail) {e : ES} {ρ : Nat → Nat} {s : St} (hr : Rel ρ e s) {sz : Nat} : ∀ {ps : List (Nat × MArg)} {xs : List AV} {k : List AV → R}, fillSE fail e sz xs ps k = t → belowL e.nx xs = true →
    ∃ v, belowL e.nx v = true ∧ k v = t ∧ ∀ K : List AV → Prop, K (v.map (ren ρ)) → fillS s.env sz (xs.map (ren ρ)) ps K
  | [], xs, k, h, hb => ⟨xs, hb, h, fun K hK => hK⟩
  | (i, x) :: ps, xs, k, h, hb => by
    obtain ⟨x', h1, h2, h3⟩ := argK_ok h ht hr
    obtain ⟨h4, h5⟩ := cond_ok h3 ht
    simp only [Bool.and_eq_true] at h4
    rw [eK_eq, fL_eq] at h5
    obtain ⟨v, g1, g2, g3⟩ := fillSE_ok ht hr h5 (belowL_set i hb (below_erase h2))
    refine ⟨v, g1, g2, fun K hK => ⟨by rw [h1, ren_cells, map_len]; exact Nat.eq_of_beq_eq_true h4.1.1, by rw [h1, ren_cells, ren_allc1]; exact h4.1.2, by rw [map_len]; exact Nat.lt_of_succ_le (by simpa [Nat.blt] using h4.2), ?_⟩⟩
    rw [h1, ren_erase, ← List.map_set]
    exact g3 K hK

theorem keyOKb_ok {n : Option Nat} {x : AV} (h : keyOKb n x = true) : keyOK n x := by
  unfold keyOKb at h
  split at h
  · trivial
  · exact Nat.eq_of_beq_eq_true h
  · cases h

theorem apartB_ok {e : ES} {ρ : Nat → Nat} {s : St} (hr : Rel ρ e s) {x z : MArg} (h : apartB e x z = true) : apartAV (z.ev s.env) (x.ev s.env) := by
  unfold apartB at h
  split at h
  · rename_i b' o' b o h1 h2
    obtain ⟨x1, a1, a2, a3⟩ := argK_ok h1 (by simp) hr
    obtain ⟨x2, b1, b2, b3⟩ := argK_ok h2 (by simp) hr
    injection a3 with a3; injection b3 with b3
    subst a3 b3
    rw [a1, b1]
    simp only [ren, apartAV]
    simp only [Bool.and_eq_true, Bool.not_eq_true', Option.isSome_iff_ne_none] at h
    intro hh
    have := hr.linj b' b h.1.2 h.2 hh
    subst this
    have h0 := h.1.1
    simp at h0
  · rename_i h1 h2
    obtain ⟨x1, a1, a2, a3⟩ := argK_ok h1 (by simp) hr
    obtain ⟨x2, b1, b2, b3⟩ := argK_ok h2 (by simp) hr
    injection a3 with a3; injection b3 with b3
    subst a3 b3
    rw [a1, b1]
    simp only [ren, apartAV]
  · cases h

theorem stor_nx {e : ES} {ρ : Nat → Nat} {s : St} {b off n oid : Nat} {cs : List AV} {y : AV} {k : ES → R} (h : storE fail e b off n oid cs y k = t) (ht : t ≠ fail) (hr : Rel ρ e s) (hb : e.loc.get b = some cs) (hy : below e.nx y = true) :
    storeK s (.mref (ρ b) off) (ren ρ y) n oid (Nx ρ e k t) := by
  obtain ⟨l1, l2, l3⟩ := hr.loc b cs hb
  obtain ⟨h1, h2⟩ := cond_ok h ht
  simp only [Bool.and_eq_true, Nat.ble_eq] at h1
  simp only [storeK, l2, map_len, ren_cells, ren_allc1]
  refine ⟨h1.1.1, Nat.eq_of_beq_eq_true h1.1.2, h1.2, ?_⟩
  have plain : ∀ zs : List AV, belowL e.nx zs = true → locK e fail b (some (splice cs off zs)) k = t → Nx ρ e k t (s.new (ρ b) (splice (cs.map (ren ρ)) off (zs.map (ren ρ)))) := by
    intro zs hz hl
    obtain ⟨e1, a1, a2, a3, a4, _⟩ := loc_ok hl ht hr hb (fun x hx => by injection hx with hx; subst hx; exact belowL_splice _ _ _ l3 hz)
    rw [ren_splice]
    exact ⟨ρ, e1, a1, by omega, fun _ _ => rfl, a4⟩
  split at h2
  · rename_i sz xs r
    simp only [ren, renL_map]
    cases hc : (Nat.beq r 0 || Nat.beq oid 0) with
    | true =>
      rw [hc] at h2
      rw [if_pos (by rcases Bool.or_eq_true _ _ ▸ hc with q | q; exact .inl (Nat.eq_of_beq_eq_true q); exact .inr (Nat.eq_of_beq_eq_true q))]
      rw [cond_true, fL_eq] at h2
      have := plain [.slice sz xs 0] (by simp only [belowL, Bool.and_true]; simpa only [below] using hy) h2
      simpa only [List.map_cons, List.map_nil, ren, renL_map] using this
    | false =>
      rw [hc] at h2
      rw [if_neg (by
        rintro (q | q)
        · rw [q] at hc; simp at hc
        · rw [q] at hc; simp at hc)]
      rw [cond_false] at h2
      obtain ⟨e1, a1, a2, a3, a4, a5, a6⟩ := demS_ok h2 hr
      obtain ⟨e2, b1, b2, b3, b4, b5, b6⟩ := demS_ok a5 a1
      rw [fL_eq] at b5
      have hcs : belowL e2.nx ((cs.map (fun x => demote oid (demote r x))).set off (.slice sz xs oid)) = true := by
        rw [b2, a2]
        refine belowL_set off ?_ (by simpa only [below] using hy)
        have := belowL_demote oid (belowL_demote r l3)
        rwa [List.map_map] at this
      obtain ⟨e3, c1, c2, c3, c4, _⟩ := loc_ok b5 ht b1 (b6 b _ (a6 b _ hb)) (fun x hx => by injection hx with hx; subst hx; exact hcs)
      refine ⟨ρ, e3, ?_, by omega, fun _ _ => rfl, c4⟩
      have e4 : ((cs.map (ren ρ)).map (fun x => demote oid (demote r x))).set off (.slice sz (xs.map (ren ρ)) oid) = ((cs.map (fun x => demote oid (demote r x))).set off (.slice sz xs oid)).map (ren ρ) := by
        rw [List.map_set, List.map_map, List.map_map]
        simp only [ren, renL_map]
        congr 1
        exact List.map_congr_left fun x _ => by simp only [Function.comp_apply, ren_demote]
      rw [e4]; exact c1
  · have hne : ∀ sz xs r, ren ρ y ≠ .slice sz xs r := by
      rename_i hne
      intro sz xs r hh
      cases y <;> simp only [ren] at hh <;> first | (cases hh; done) | exact hne _ _ _ rfl
    rw [fL_eq] at h2
    have := plain _ (belowL_e0 (below_cells hy)) h2
    rw [← ren_mapE0] at this
    generalize hq : ren ρ y = y' at hne
    cases y' <;> first | exact absurd rfl (hne _ _ _) | (rw [← ren_cells, hq] at this; exact this)

end
end Go.Avm

namespace Go.Avm

section
variable {R : Type} {P : Program} {call : Nat → FuncId → List AV → Option AV} {amb : R → R → R} {fail t : R}

theorem blt_ok {a b : Nat} (h : Nat.blt a b = true) : a < b := Nat.lt_of_succ_le (by simpa [Nat.blt] using h)
theorem blt_no {a b : Nat} (h : Nat.blt a b = false) : ¬ a < b := fun hlt => by
  have : Nat.blt a b = true := by rw [Nat.blt, Nat.ble_eq]; exact hlt
  rw [h] at this; cases this

theorem evO_ok (hcall : CallOK P call) (hamb : ∀ a b, amb a b = t → a = t ∧ b = t) (ht : t ≠ fail) : ∀ (m : MOp) (e : ES) (k : ES → R) (s : St) (ρ : Nat → Nat), evO false call amb fail m e k = t → Rel ρ e s → vc1 P m s (Nx ρ e k t) := by
  have callr : ∀ {e : ES} {ρ : Nat → Nat} {s : St} {d : Nat} {f : FuncId} {xs : List AV} {k : ES → R}, Rel ρ e s → belowL e.nx xs = true → (match call e.nx f xs with | some r => bif below e.nx r then eK r fun r => putK e fail d r k else fail | none => fail) = t →
      ∃ r, PCall P f (xs.map (ren ρ)) r ∧ Nx ρ e k t (s.set d r.erase) := by
    intro e ρ s d f xs k hr hx h
    split at h
    · rename_i r hc
      obtain ⟨g2, h⟩ := cond_ok h ht
      have g1 := hcall _ _ _ _ hc hx g2 ρ
      rw [eK_eq] at h
      refine ⟨_, g1, ?_⟩
      rw [ren_erase]
      exact put_nx h ht hr (below_erase g2)
    · exact absurd h.symm ht
  have pure : ∀ {m : MOp} {e : ES} {k : ES → R} {s : St} {ρ : Nat → Nat}, valK e fail m (fun d v => fA v fun v => putK e fail d v k) = t → Rel ρ e s → vc1 P m s (Nx ρ e k t) := by
    intro m e k s ρ h hr
    obtain ⟨d, v, h1, h2, h3⟩ := valK_ok P h ht hr
    rw [fA_eq] at h2
    exact h3 _ (put_nx h2 ht hr h1)
  intro m
  induction m with
  | asg d x =>
    intro e k s ρ h hr
    dsimp only [evO, oK_asg] at h
    obtain ⟨x, h1, h2, h3⟩ := argK_ok h ht hr
    simp only [vc1, h1]
    exact asg_nx h3 ht hr h2
  | asgNil d sz =>
    intro e k s ρ h hr
    dsimp only [evO, oK_asgNil] at h
    obtain ⟨e1, a1, a2, a3, a4, a5, _⟩ := demS_ok h hr
    obtain ⟨e2, b1, b2, b3⟩ := put_ok (x := .slice sz [] (d + 1)) a5 ht a1 rfl
    exact ⟨ρ, e2, by simpa only [ren, renL] using b1, by omega, fun _ _ => rfl, b3⟩
  | boxM d x n =>
    intro e k s ρ h hr
    dsimp only [evO, oK_boxM] at h
    obtain ⟨x, h1, h2, h3⟩ := argK_ok h ht hr
    obtain ⟨h4, h5⟩ := cond_ok h3 ht
    rw [fL_eq] at h5
    simp only [vc1, h1, ren_cells, map_len, ren_mapE0]
    refine ⟨Nat.eq_of_beq_eq_true h4, fun B hB => ?_⟩
    have := new_nx (x := fun b => .mref b 0) h5 ht hr (belowL_e0 (below_cells h2)) (by simp [below, Nat.blt]) hB
    simpa only [ren, upd_same] using this
  | alloc d z =>
    intro e k s ρ h hr
    dsimp only [evO, oK_alloc] at h
    obtain ⟨h4, h5⟩ := cond_ok h ht
    simp only [vc1]
    intro B hB
    have hz : z.map (ren ρ) = z := by
      have := List.map_congr_left (f := ren ρ) (g := id) (l := z) fun x hx => ren_id (belowL_iff.1 h4 x hx)
      rw [this, List.map_id]
    have := new_nx (x := fun b => .mref b 0) h5 ht hr (belowL_mono (Nat.zero_le _) _ h4) (by simp [below, Nat.blt]) hB
    simpa only [ren, upd_same, hz] using this
  | store x y n oid =>
    intro e k s ρ h hr
    dsimp only [evO, oK_store] at h
    obtain ⟨x, h1, h2, h3⟩ := argK_ok h ht hr
    obtain ⟨y, h4, h5, h6⟩ := argK_ok h3 ht hr
    simp only [vc1, h1, h4]
    split at h6
    · split at h6
      · rename_i cs hcs
        have := stor_nx h6 ht hr hcs h5
        simpa only [ren] using this
      · exact absurd h6.symm ht
    · exact absurd h6.symm ht
  | storeNil x sz oid =>
    intro e k s ρ h hr
    dsimp only [evO, oK_storeNil] at h
    obtain ⟨x, h1, h2, h3⟩ := argK_ok h ht hr
    split at h3
    · rename_i b off
      split at h3
      · rename_i cs hcs
        obtain ⟨l1, l2, l3⟩ := hr.loc b cs hcs
        obtain ⟨c1, c2⟩ := cond_ok h3 ht
        simp only [vc1, h1, ren, l2, map_len]
        refine ⟨Nat.lt_of_succ_le (by simpa [Nat.blt] using c1), ?_⟩
        obtain ⟨e1, a1, a2, a3, a4, a5, a6⟩ := demS_ok c2 hr
        rw [fL_eq] at a5
        have hb : belowL e1.nx ((cs.map (demote oid)).set off (.slice sz [] oid)) = true := by
          rw [a2]; exact belowL_set off (belowL_demote oid l3) rfl
        obtain ⟨e3, c1, c2, c3, c4, _⟩ := loc_ok a5 ht a1 (a6 b _ hcs) (fun x hx => by injection hx with hx; subst hx; exact hb)
        refine ⟨ρ, e3, ?_, by omega, fun _ _ => rfl, c4⟩
        have e4 : ((cs.map (ren ρ)).map (demote oid)).set off (.slice sz [] oid) = ((cs.map (demote oid)).set off (.slice sz [] oid)).map (ren ρ) := by
          rw [List.map_set, List.map_map, List.map_map]
          simp only [ren, renL]
          congr 1
          exact List.map_congr_left fun x _ => by simp only [Function.comp_apply, ren_demote]
        rw [e4]; exact c1
      · exact absurd h3.symm ht
    · exact absurd h3.symm ht
  | storeF q y n =>
    intro e k s ρ h hr
    dsimp only [evO, oK_storeF] at h
    obtain ⟨x, h1, h2, h3⟩ := argK_ok h ht hr
    obtain ⟨y, h4, h5, h6⟩ := argK_ok h3 ht hr
    split at h6
    · rename_i b
      split at h6
      · rename_i cs hcs
        obtain ⟨l1, l2, l3⟩ := hr.loc b cs hcs
        obtain ⟨c1, c2⟩ := cond_ok h6 ht
        simp only [Bool.and_eq_true] at c1
        obtain ⟨e1, a1, a2, a3, a4, _⟩ := loc_ok c2 ht hr hcs (fun x hx => by cases hx)
        rw [fL_eq] at a4
        obtain ⟨e2, b1, b2, b3⟩ := put_ok (x := .ref (y.cells.map AV.erase0)) a4 ht a1 (by rw [a2]; simp only [below]; exact belowL_e0 (below_cells h5))
        simp only [ren] at h1
        replace h1 : s.env q = .mref (ρ b) 0 := h1
        simp only [vc1, h1, l2, h4, map_len, ren_cells, ren_allc1, ren_mapE0]
        refine ⟨Nat.eq_of_beq_eq_true c1.1.1, Nat.eq_of_beq_eq_true c1.1.2, c1.2, ρ, e2, ?_, by omega, fun _ _ => rfl, b3⟩
        simp only [ren, renL_map] at b1
        exact b1
      · exact absurd h6.symm ht
    · exact absurd h6.symm ht
  | mkS d n sz z ps =>
    intro e k s ρ h hr
    dsimp only [evO, oK_mkS] at h
    obtain ⟨h4, h5⟩ := cond_ok h ht
    rw [fL_eq] at h5
    have hz : ren ρ (if sz = 1 then z.getD 0 .any else .agg z) = (if sz = 1 then z.getD 0 .any else .agg z) := by
      refine ren_id ?_
      split
      · exact below_getD 0 h4
      · exact h4
    have hb0 : belowL e.nx (List.replicate n (if sz = 1 then z.getD 0 .any else .agg z)) = true := by
      refine belowL_rep n (below_mono (Nat.zero_le _) _ ?_)
      split
      · exact below_getD 0 h4
      · exact h4
    obtain ⟨v, g1, g2, g3⟩ := fillSE_ok ht hr h5 hb0
    rw [List.map_replicate, hz] at g3
    simp only [vc1]
    refine g3 (fun xs => Nx ρ e k t ((s.dem (d + 1)).set d (.slice sz xs (d + 1)))) ?_
    obtain ⟨e1, a1, a2, a3, a4, a5, _⟩ := demS_ok g2 hr
    obtain ⟨e2, b1, b2, b3⟩ := put_ok (x := .slice sz v (d + 1)) a5 ht a1 (by rw [a2]; exact g1)
    exact ⟨ρ, e2, by simpa only [ren, renL_map] using b1, by omega, fun _ _ => rfl, b3⟩
  | app d x y sz bytes =>
    intro e k s ρ h hr
    dsimp only [evO, oK_app] at h
    obtain ⟨x, h1, h2, h3⟩ := argK_ok h ht hr
    obtain ⟨y, h4, h5, h6⟩ := argK_ok h3 ht hr
    split at h6
    · rename_i szx xs r szy ys r2
      obtain ⟨c1, c2⟩ := cond_ok h6 ht
      simp only [Bool.and_eq_true, Bool.not_eq_true', Nat.ble_eq] at c1
      simp only [vc1, h1, h4, ren, renL_map, map_len]
      refine ⟨fun e0 => ?_, Nat.eq_of_beq_eq_true c1.1.1.1.2, isEmpty_ren c1.1.1.2, c1.1.2, c1.2, ?_⟩
      · have := c1.1.1.1.1; rw [e0] at this; cases this
      · obtain ⟨e1, a1, a2, a3, a4, a5, _⟩ := demS_ok c2 hr
        obtain ⟨e2, b1, b2, b3, b4, b5, _⟩ := demS_ok a5 a1
        rw [fL_eq] at b5
        obtain ⟨e3, c1, c2, c3⟩ := put_ok (x := .slice sz (xs ++ ys) (d + 1)) b5 ht b1 (by rw [b2, a2]; simp only [below] at h2 h5 ⊢; exact belowL_app h2 h5)
        exact ⟨ρ, e3, by simpa only [ren, renL_map, List.map_append] using c1, by omega, fun _ _ => rfl, c3⟩
    · exact absurd h6.symm ht
  | call d f xs =>
    intro e k s ρ h hr
    dsimp only [evO, oK_call] at h
    obtain ⟨xs, h1, h2, h3⟩ := argsK_ok ht hr h
    simp only [vc1, h1]
    exact callr hr h2 h3
  | callv d x xs =>
    intro e k s ρ h hr
    dsimp only [evO, oK_callv] at h
    obtain ⟨x, h1, h2, h3⟩ := argK_ok h ht hr
    obtain ⟨ys, h4, h5, h6⟩ := argsK_ok ht hr h3
    split at h6
    · rename_i f first cap
      simp only [below, Bool.and_eq_true] at h2
      simp only [vc1, h1, ren, renF, renL_map, h4]
      obtain ⟨r, g1, g2⟩ := callr hr (belowL_app (belowL_app h2.1.2 h5) h2.2) h6
      exact ⟨r, by simpa only [List.map_append] using g1, g2⟩
    · exact absurd h6.symm ht
  | apart zs x m ih =>
    intro e k s ρ h hr
    obtain ⟨h1, h2⟩ := cond_ok h ht
    exact ⟨fun z hz => apartB_ok hr ((List.all_eq_true.1 h1) z hz), ih e k s ρ h2 hr⟩
  | guard g want d m ih =>
    intro e k s ρ h hr
    obtain ⟨v, h1, h2, h3⟩ := argK_ok h ht hr
    replace h1 : s.env g = ren ρ v := h1
    split at h3
    · rename_i b
      replace h3 : (bif b == want then evO false call amb fail m e k else skipK fail e d k) = t := h3
      simp only [vc1, h1, ren]
      by_cases hb : b = want
      · subst hb
        rw [beq_self_eq_true, cond_true] at h3
        exact ⟨fun _ => ih e k s ρ h3 hr, fun hh => by cases b <;> cases hh⟩
      · have : (b == want) = false := by simpa using hb
        rw [this, cond_false] at h3
        exact ⟨fun hh => absurd hh hb, fun _ => by
          cases d with
          | none => exact .of hr h3
          | some d => have := put_nx (x := .tuple []) h3 ht hr rfl; simpa only [ren, renL] using this⟩
    · simp only [vc1, h1, ren, renL]
      cases d with
      | none => exact .of hr h3
      | some d => have := put_nx (x := .tuple []) h3 ht hr rfl; simpa only [ren, renL] using this
    · exact absurd h3.symm ht
  | yld d x xs =>
    intro e k s ρ h hr
    dsimp only [evO, oK_yld] at h
    obtain ⟨x, h1, h2, h3⟩ := argK_ok h ht hr
    obtain ⟨ys, h4, h5, h6⟩ := argsK_ok ht hr h3
    split at h6
    · rename_i l l' y rest hg
      obtain ⟨c1, c2⟩ := cond_ok h6 ht
      simp only [Bool.and_eq_true] at c1
      have hgh := hr.gh
      rw [hg] at hgh
      have hgb := hr.gb
      rw [hg] at hgb
      have hll : l = l' := Nat.eq_of_beq_eq_true c1.1.1
      subst hll
      simp only [ren] at hgh
      obtain ⟨d1, d2⟩ := hamb _ _ c2
      have hys : ys.map (ren ρ) = ys := by
        have := List.map_congr_left (f := ren ρ) (g := id) (l := ys) fun x hx => ren_id (belowL_iff.1 c1.1.2 x hx)
        rw [this, List.map_id]
      simp only [vc1, h1, ren, renF, renL, hgh, h4, hys]
      have gho : ∀ q : Bool, Rel ρ ⟨e.env, e.loc, e.obj, .ghost l rest q, e.nx⟩ (s.set gS (.ghost (ρ l) rest q)) := fun q =>
        ⟨fun j hj => (upd_ne _ _ (by omega)).trans (hr.env j hj), hr.bnd, by rw [env_set_g]; simp only [ren], hgb, hr.loc, hr.linj, fun b x hb => by
          obtain ⟨o1, o2, o3⟩ := hr.obj b x hb
          exact ⟨o1, (upd_ne _ _ (Nat.ne_of_gt (gS_lt_oS _))).trans o2, o3⟩, hr.oinj, hr.og, rfl⟩
      have go : ∀ q : Bool, putK ⟨e.env, e.loc, e.obj, .ghost l rest q, e.nx⟩ fail d (.lit (.bool (!q))) k = t → Nx ρ e k t ((s.set gS (.ghost (ρ l) rest q)).set d (.lit (.bool (!q)))) := by
        intro q hq
        obtain ⟨e2, b1, b2, b3⟩ := put_ok hq ht (gho q) rfl
        exact ⟨ρ, e2, by simpa only [ren] using b1, by rw [b2]; exact Nat.le_refl _, fun _ _ => rfl, b3⟩
      exact ⟨trivial, eqvL_ok _ _ c1.2, go false d1, go true d2⟩
    · exact absurd h6.symm ht
    · exact absurd h6.symm ht
  | mkM d n c sz bytes z =>
    intro e k s ρ h hr
    dsimp only [evO, oK_mkM] at h
    obtain ⟨n, h1, h2, h3⟩ := argK_ok h ht hr
    obtain ⟨c, h4, h5, h6⟩ := argK_ok h3 ht hr
    split at h6
    · rename_i n c
      obtain ⟨c1, c2⟩ := cond_ok h6 ht
      simp only [Bool.and_eq_true, Nat.ble_eq] at c1
      rw [fL_eq] at c2
      simp only [vc1, h1, h4, ren, Int.ofNat_eq_natCast, Int.toNat_natCast]
      have hz : (List.replicate c z).flatten.map (ren ρ) = (List.replicate c z).flatten := by
        have := List.map_congr_left (f := ren ρ) (g := id) (l := (List.replicate c z).flatten) fun x hx => ren_id (by
          obtain ⟨l, hl, hx⟩ := List.mem_flatten.1 hx
          rw [(List.mem_replicate.1 hl).2] at hx
          exact belowL_iff.1 c1.1.1.1.1 x hx)
        rw [this, List.map_id]
      have hzb : belowL e.nx (List.replicate c z).flatten = true := by
        rw [belowL_iff]
        intro x hx
        obtain ⟨l, hl, hx⟩ := List.mem_flatten.1 hx
        rw [(List.mem_replicate.1 hl).2] at hx
        exact below_mono (Nat.zero_le _) _ (belowL_iff.1 c1.1.1.1.1 x hx)
      refine ⟨by omega, by omega, by have := c1.1.1.2; rw [← Int.natCast_mul]; omega, by omega, by have := c1.2; rw [← Int.natCast_mul]; omega, fun B hB => ?_⟩
      have := new_nx (x := fun b => .mslice b 0 n c sz) c2 ht hr hzb (by simp [below, Nat.blt]) hB
      simpa only [ren, upd_same, hz] using this
    · exact absurd h6.symm ht
  | cpyM d x y sz =>
    intro e k s ρ h hr
    dsimp only [evO, oK_cpyM] at h
    obtain ⟨x, h1, h2, h3⟩ := argK_ok h ht hr
    obtain ⟨y, h4, h5, h6⟩ := argK_ok h3 ht hr
    split at h6
    · rename_i b off len cap sz' sz2 ys r
      split at h6
      · rename_i cs hcs
        obtain ⟨l1, l2, l3⟩ := hr.loc b cs hcs
        obtain ⟨c1, c2⟩ := cond_ok h6 ht
        simp only [Bool.and_eq_true, Nat.ble_eq] at c1
        rw [fL_eq] at c2
        simp only [vc1, h1, h4, ren, renL_map, l2, map_len]
        refine ⟨Nat.eq_of_beq_eq_true c1.1.1, isEmpty_ren c1.1.2, c1.2, ?_⟩
        have hb : belowL e.nx (splice cs off (((ys.take (min ys.length len)).flatMap AV.cells).map AV.erase0)) = true :=
          belowL_splice _ _ _ l3 (belowL_e0 (belowL_flat (belowL_take _ (by simpa only [below] using h5))))
        obtain ⟨e3, d1, d2, d3, d4, _⟩ := loc_ok c2 ht hr hcs (fun x hx => by injection hx with hx; subst hx; exact hb)
        rw [fN_eq] at d4
        obtain ⟨e4, f1, f2, f3⟩ := put_ok d4 ht d1 rfl
        refine ⟨ρ, e4, ?_, by omega, fun _ _ => rfl, f3⟩
        rw [← List.map_take, ren_flat, ren_mapE0, ren_splice]
        simp only [ren] at f1
        exact f1
      · exact absurd h6.symm ht
    · exact absurd h6.symm ht
  | rngS d x =>
    intro e k s ρ h hr
    dsimp only [evO, oK_rngS] at h
    obtain ⟨x, h1, h2, h3⟩ := argK_ok h ht hr
    split at h3
    · simp only [vc1, h1, ren]
      intro B hB hB2
      obtain ⟨e1, a1, a2, a3, a4⟩ := newO_ok h3 ht hr (by intro e; cases e) rfl hB2
      obtain ⟨e2, b1, b2, b3⟩ := put_ok (x := .mref e.nx 0) a4 ht a1 (by rw [a2]; simp [below, Nat.blt])
      exact ⟨_, e2, by simpa only [ren, upd_same] using b1, by omega, upd_below, b3⟩
    · exact absurd h3.symm ht
  | nxtS d x =>
    intro e k s ρ h hr
    dsimp only [evO, oK_nxtS] at h
    obtain ⟨x, h1, h2, h3⟩ := argK_ok h ht hr
    split at h3
    · rename_i b
      split at h3
      · rename_i pos u hob
        obtain ⟨o1, o2, o3⟩ := hr.obj b _ hob
        simp only [vc1, h1, ren]
        refine ⟨u, pos, o2, fun hp => ?_, fun hp => ?_⟩
        · have hb : Nat.blt pos u.size = true := by cases hq : Nat.blt pos u.size; exact absurd hp (blt_no hq); rfl
          rw [hb, cond_true, fN_eq, fN_eq] at h3
          obtain ⟨e1, a1, a2, a3, a4⟩ := objK_ok h3 ht hr hob (by intro e; cases e) rfl
          obtain ⟨e2, b1, b2, b3⟩ := put_ok a4 ht a1 rfl
          exact ⟨ρ, e2, by simpa only [ren, renL] using b1, by omega, fun _ _ => rfl, b3⟩
        · have hb : Nat.blt pos u.size = false := by cases hq : Nat.blt pos u.size; rfl; exact absurd (blt_ok hq) hp
          rw [hb, cond_false] at h3
          have := put_nx (x := .tuple [.lit (.bool false)]) h3 ht hr rfl
          simpa only [ren, renL] using this
      · exact absurd h3.symm ht
    · exact absurd h3.symm ht
  | mkMap d =>
    intro e k s ρ h hr
    dsimp only [evO, oK_mkMap] at h
    simp only [vc1]
    intro B hB hB2
    obtain ⟨e1, a1, a2, a3, a4⟩ := newO_ok h ht hr (by intro e; cases e) rfl hB2
    obtain ⟨e2, b1, b2, b3⟩ := put_ok (x := .mapr e.nx) a4 ht a1 (by rw [a2]; simp [below, Nat.blt])
    exact ⟨_, e2, by simpa only [ren, upd_same] using b1, by omega, upd_below, b3⟩
  | mapUpd x q v n =>
    intro e k s ρ h hr
    dsimp only [evO, oK_mapUpd] at h
    obtain ⟨x, h1, h2, h3⟩ := argK_ok h ht hr
    obtain ⟨q, h4, h5, h6⟩ := argK_ok h3 ht hr
    obtain ⟨v, h7, h8, h9⟩ := argK_ok h6 ht hr
    split at h9
    · rename_i b
      split at h9
      · rename_i es hob
        obtain ⟨o1, o2, o3⟩ := hr.obj b _ hob
        rw [eK_eq, eK_eq] at h9
        obtain ⟨c1, c2⟩ := cond_ok h9 ht
        simp only [Bool.and_eq_true] at c1
        simp only [vc1, h1, h4, h7, ren, ren_erase, ren_id c1.1.2, ren_id c1.2]
        refine ⟨es, o2, keyOKb_ok c1.1.1, ?_⟩
        split at c2
        · rename_i i hka
          obtain ⟨e1, a1, a2, a3, a4⟩ := objK_ok c2 ht hr hob (by intro e; cases e) rfl
          rw [hka]
          exact ⟨ρ, e1, a1, by omega, fun _ _ => rfl, a4⟩
        · rename_i hka
          obtain ⟨e1, a1, a2, a3, a4⟩ := objK_ok c2 ht hr hob (by intro e; cases e) rfl
          rw [hka]
          exact ⟨ρ, e1, a1, by omega, fun _ _ => rfl, a4⟩
        · exact absurd c2.symm ht
      · exact absurd h9.symm ht
    · exact absurd h9.symm ht
  | lookup d x q n ok zero =>
    intro e k s ρ h hr
    dsimp only [evO, oK_lookup] at h
    obtain ⟨x, h1, h2, h3⟩ := argK_ok h ht hr
    obtain ⟨q, h4, h5, h6⟩ := argK_ok h3 ht hr
    split at h6
    · rename_i b
      split at h6
      · rename_i es hob
        obtain ⟨o1, o2, o3⟩ := hr.obj b _ hob
        rw [eK_eq] at h6
        obtain ⟨c1, c2⟩ := cond_ok h6 ht
        simp only [Bool.and_eq_true] at c1
        simp only [vc1, h1, h4, ren, ren_erase, ren_id c1.1.2]
        refine ⟨es, o2, keyOKb_ok c1.1.1, ?_⟩
        split at c2
        · rename_i i hka
          rw [hka]
          rw [fA_eq] at c2
          obtain ⟨d1, d2⟩ := cond_ok c2 ht
          rw [eK_eq] at d2
          have hb2 : below 0 (if ok = true then AV.tuple [(es.getD i []).getD 1 .any, .lit (.bool true)] else ((es.getD i []).getD 1 .any).erase) = true := by
            split
            · simp only [below, belowL, d1, Bool.and_self]
            · exact below_erase d1
          have := put_nx d2 ht hr (below_mono (Nat.zero_le _) _ hb2)
          rwa [ren_id hb2] at this
        · rename_i hka
          rw [hka]
          rw [eK_eq] at c2
          have hb2 : below 0 (if ok = true then AV.tuple [zero, .lit (.bool false)] else zero.erase) = true := by
            split
            · simp only [below, belowL, c1.2, Bool.and_self]
            · exact below_erase c1.2
          have := put_nx c2 ht hr (below_mono (Nat.zero_le _) _ hb2)
          rwa [ren_id hb2] at this
        · exact absurd c2.symm ht
      · exact absurd h6.symm ht
    · exact absurd h6.symm ht
  | frz q =>
    intro e k s ρ h hr
    dsimp only [evO, oK_frz] at h
    obtain ⟨x, h1, h2, h3⟩ := argK_ok h ht hr
    split at h3
    · rename_i b len cap sz
      split at h3
      · rename_i cs hcs
        obtain ⟨l1, l2, l3⟩ := hr.loc b cs hcs
        obtain ⟨c1, c2⟩ := cond_ok h3 ht
        simp only [Bool.and_eq_true, Nat.ble_eq] at c1
        simp only [ren] at h1
        replace h1 : s.env q = .mslice (ρ b) 0 len cap sz := h1
        simp only [vc1, h1, l2, map_len, ren_allc1, ren_chunk]
        refine ⟨c1.1.1, c1.1.2, c1.2, ?_⟩
        obtain ⟨e1, a1, a2, a3, a4, _⟩ := loc_ok c2 ht hr hcs (fun x hx => by cases hx)
        rw [fL_eq] at a4
        obtain ⟨e2, b1, b2, b3⟩ := put_ok (x := .slice sz (chunk sz cs len) 0) a4 ht a1 (by rw [a2]; simp only [below]; exact belowL_chunk sz len cs l3)
        refine ⟨ρ, e2, ?_, by omega, fun _ _ => rfl, b3⟩
        simp only [ren, renL_map] at b1
        exact b1
      · exact absurd h3.symm ht
    · exact absurd h3.symm ht
  | _ => intro e k s ρ h hr; exact pure h hr

end
end Go.Avm

namespace Go.Avm

section
variable {P : Program}
theorem vc1_imp : ∀ {m : MOp} {s : St} {K K' : St → Prop}, (∀ s, K s → K' s) → vc1 P m s K → vc1 P m s K' := by
  intro m
  induction m with
  | apart zs x m ih => intro s K K' hk h; exact ⟨h.1, ih hk h.2⟩
  | guard g want d m ih =>
    intro s K K' hk h
    simp only [vc1] at h ⊢
    split at h
    · exact ⟨fun e => ih hk (h.1 e), fun e => hk _ (h.2 e)⟩
    · exact hk _ h
    · exact h.elim
  | load d x n => intro s K K' hk h; exact loadK_imp (fun v => hk _) h
  | loadI d x n =>
    intro s K K' hk h
    simp only [vc1] at h ⊢
    split at h
    · exact partK_imp (fun v => hk _) h
    · exact h.elim
  | store x y n oid =>
    intro s K K' hk h
    simp only [vc1, storeK] at h ⊢
    split at h
    · split at h
      · refine ⟨h.1, h.2.1, h.2.2.1, ?_⟩
        have h := h.2.2.2
        split at h
        · split at h
          · rename_i h0; rw [if_pos h0]; exact hk _ h
          · rename_i h0; rw [if_neg h0]; exact hk _ h
        · exact hk _ h
      · exact h.elim
    · exact h.elim
  | build d z ps => intro s K K' hk h; exact fillK_imp (fun v => hk _) h
  | mkS d n sz z ps => intro s K K' hk h; exact fillS_imp (fun v => hk _) h
  | bin d op x y => intro s K K' hk h; exact binK_imp (fun v => hk _) h
  | fld d x off n =>
    intro s K K' hk h
    simp only [vc1] at h ⊢
    split at h
    · exact partK_imp (fun v => hk _) h
    · exact h.elim
  | idxV d x i len sz n =>
    intro s K K' hk h
    simp only [vc1] at h ⊢
    split at h
    · exact ⟨h.1, h.2.1, partK_imp (fun v => hk _) h.2.2⟩
    · exact h.elim
  | binA d neg n x y =>
    intro s K K' hk h
    simp only [vc1] at h ⊢
    split at h
    · obtain ⟨h1, h2, q, hq, h⟩ := h
      exact ⟨h1, h2, q, hq, hk _ h⟩
    · exact h.elim
  | call d f xs => intro s K K' hk h; obtain ⟨r, h1, h2⟩ := h; exact ⟨r, h1, hk _ h2⟩
  | callv d x xs =>
    intro s K K' hk h
    simp only [vc1] at h ⊢
    split at h
    · obtain ⟨r, h1, h2⟩ := h; exact ⟨r, h1, hk _ h2⟩
    · exact h.elim
  | boxM d x n => intro s K K' hk h; exact ⟨h.1, fun b hb => hk _ (h.2 b hb)⟩
  | alloc d z => intro s K K' hk h; exact fun b hb => hk _ (h b hb)
  | mkM d n c sz bytes zero =>
    intro s K K' hk h
    simp only [vc1] at h ⊢
    split at h
    · exact ⟨h.1, h.2.1, h.2.2.1, h.2.2.2.1, h.2.2.2.2.1, fun b hb => hk _ (h.2.2.2.2.2 b hb)⟩
    · exact h.elim
  | icall d f xs => intro s K K' hk h; exact ICall.mono (fun r s' hh => hk _ hh) h
  | icallv d x xs =>
    intro s K K' hk h
    simp only [vc1] at h ⊢
    split at h
    · exact ICall.mono (fun r s' hh => hk _ hh) h
    · exact h.elim
  | callL d f xs => intro s K K' hk h; obtain ⟨ys, u, h1, h2, h3, h4⟩ := h; exact ⟨ys, u, h1, h2, h3, hk _ h4⟩
  | cpyMM d x y sz =>
    intro s K K' hk h
    simp only [vc1] at h ⊢
    split at h
    · split at h
      · exact ⟨h.1, h.2.1, h.2.2.1, h.2.2.2.1, h.2.2.2.2.1, hk _ h.2.2.2.2.2⟩
      · exact h.elim
    · exact h.elim
  | entM d x =>
    intro s K K' hk h
    simp only [vc1] at h ⊢
    split at h
    · obtain ⟨b, seen, i, es, h1, h2, h3, h4⟩ := h
      exact ⟨b, seen, i, es, h1, h2, h3, hk _ h4⟩
    · exact h.elim
  | isNil d neg x =>
    intro s K K' hk h
    simp only [vc1] at h ⊢
    split at h
    · exact ⟨fun e => hk _ (h.1 e), hk _ h.2⟩
    · exact hk _ h
    · exact h.elim
  | mapEnt d x q n zero =>
    intro s K K' hk h
    simp only [vc1] at h ⊢
    split at h
    · obtain ⟨es, h1, h2, h4, h3⟩ := h
      refine ⟨es, h1, h2, h4, ?_⟩
      split at h3
      · exact hk _ h3
      · exact hk _ h3
      · exact h3.elim
    · exact h.elim
  | entSt x st v =>
    intro s K K' hk h
    simp only [vc1] at h ⊢
    split at h
    · obtain ⟨es, h1, h2, h3, h4⟩ := h
      exact ⟨es, h1, h2, h3, hk _ h4⟩
    · exact h.elim
  | slcZ d x hi mx sz =>
    intro s K K' hk h
    simp only [vc1] at h ⊢
    split at h
    · exact hk _ h
    · exact h.elim
  | appR d x y sz =>
    intro s K K' hk h
    simp only [vc1] at h ⊢
    split at h
    · split at h
      · exact ⟨h.1, h.2.1, h.2.2.1, h.2.2.2.1, h.2.2.2.2.1, hk _ h.2.2.2.2.2⟩
      · exact h.elim
    · exact h.elim
  | slcM d x hi sz =>
    intro s K K' hk h
    simp only [vc1] at h ⊢
    split at h
    · exact ⟨h.1, h.2.1, h.2.2.1, hk _ h.2.2.2⟩
    · exact h.elim
  | appM d x y sz bytes zero =>
    intro s K K' hk h
    simp only [vc1] at h ⊢
    split at h
    · exact ⟨h.1, h.2.1, h.2.2.1, h.2.2.2.1, h.2.2.2.2.1, fun b r hb => hk _ (h.2.2.2.2.2 b r hb)⟩
    · exact h.elim
  | cpyM d x y sz =>
    intro s K K' hk h
    simp only [vc1] at h ⊢
    split at h
    · split at h
      · exact ⟨h.1, h.2.1, h.2.2.1, hk _ h.2.2.2⟩
      · exact h.elim
    · exact h.elim
  | storeNil x sz oid =>
    intro s K K' hk h
    simp only [vc1] at h ⊢
    split at h
    · split at h
      · exact ⟨h.1, hk _ h.2⟩
      · exact h.elim
    · exact h.elim
  | storeF q y n =>
    intro s K K' hk h
    simp only [vc1] at h ⊢
    split at h
    · split at h
      · exact ⟨h.1, h.2.1, h.2.2.1, hk _ h.2.2.2⟩
      · exact h.elim
    · exact h.elim
  | app d x y sz b =>
    intro s K K' hk h
    simp only [vc1] at h ⊢
    split at h
    · exact ⟨h.1, h.2.1, h.2.2.1, h.2.2.2.1, h.2.2.2.2.1, hk _ h.2.2.2.2.2⟩
    · exact h.elim
  | yldL d x pos y =>
    intro s K K' hk h
    simp only [vc1] at h ⊢
    split at h
    · obtain ⟨h1, z0, b, sz, len, cap, cs, h2, h3, h4, h5, h6, h7⟩ := h
      exact ⟨h1, z0, b, sz, len, cap, cs, h2, h3, h4, h5, hk _ h6, hk _ h7⟩
    · exact h.elim
  | yld d x xs =>
    intro s K K' hk h
    simp only [vc1] at h ⊢
    split at h
    · exact ⟨h.1, h.2.1, hk _ h.2.2.1, hk _ h.2.2.2⟩
    · exact h.elim
  | rngS d x =>
    intro s K K' hk h
    simp only [vc1] at h ⊢
    split at h
    · exact fun b h1 h2 => hk _ (h b h1 h2)
    · exact h.elim
  | rngM d x =>
    intro s K K' hk h
    simp only [vc1] at h ⊢
    split at h
    · obtain ⟨es, h1, h2⟩ := h
      exact ⟨es, h1, fun r q1 q2 => hk _ (h2 r q1 q2)⟩
    · exact h.elim
  | nxtM d x =>
    intro s K K' hk h
    simp only [vc1] at h ⊢
    split at h
    · obtain ⟨b, seen, es, h1, h2, h3, h4⟩ := h
      exact ⟨b, seen, es, h1, h2, fun i q1 q2 => hk _ (h3 i q1 q2), fun q => hk _ (h4 q)⟩
    · exact h.elim
  | mkMap d => intro s K K' hk h; exact fun b h1 h2 => hk _ (h b h1 h2)
  | nxtS d x =>
    intro s K K' hk h
    simp only [vc1] at h ⊢
    split at h
    · obtain ⟨u, pos, h1, h2, h3⟩ := h
      exact ⟨u, pos, h1, fun hp => hk _ (h2 hp), fun hp => hk _ (h3 hp)⟩
    · exact h.elim
  | mapUpd x q v n =>
    intro s K K' hk h
    simp only [vc1] at h ⊢
    split at h
    · obtain ⟨es, h1, h2, h3⟩ := h
      refine ⟨es, h1, h2, ?_⟩
      split at h3
      · exact hk _ h3
      · exact hk _ h3
      · exact h3.elim
    · exact h.elim
  | lookup d x q n ok zero =>
    intro s K K' hk h
    simp only [vc1] at h ⊢
    split at h
    · obtain ⟨es, h1, h2, h3⟩ := h
      refine ⟨es, h1, h2, ?_⟩
      split at h3
      · exact hk _ h3
      · exact hk _ h3
      · exact h3.elim
    · exact h.elim
  | frz q =>
    intro s K K' hk h
    simp only [vc1] at h ⊢
    split at h
    · split at h
      · exact ⟨h.1, h.2.1, h.2.2.1, hk _ h.2.2.2⟩
      · exact h.elim
    · split at h
      · rcases h with ⟨sz, off, h1, h2⟩ | ⟨off, b2, len, cap, sz, cs2, h1, h2, h3, h4, h5, h6, h7⟩
        · exact .inl ⟨sz, off, h1, hk _ h2⟩
        · exact .inr ⟨off, b2, len, cap, sz, cs2, h1, h2, h3, h4, h5, h6, hk _ h7⟩
      · exact h.elim
    · exact h.elim
  | _ =>
    intro s K K' hk h
    simp only [vc1] at h ⊢
    first
      | exact hk _ h
      | exact ⟨h.1, hk _ h.2⟩
      | (split at h <;> first | exact hk _ h | exact ⟨h.1, hk _ h.2⟩ | exact ⟨h.1, h.2.1, hk _ h.2.2⟩ | exact ⟨h.1, h.2.1, h.2.2.1, hk _ h.2.2.2⟩ | exact h.elim)
end

section
variable {R : Type} (col : Bool) (call : Nat → FuncId → List AV → Option AV) (coll : Nat → FuncId → List AV → List AV → Option (List (List AV))) (amb : R → R → R) (fail : R)

def evL : List MOp → ES → (ES → R) → R
  | [], e, k => k e
  | m :: ms, e, k => evO col call amb fail m e fun e => evL ms e k

def eraK : T AV → (T AV → R) → R
  | .nil, k => k .nil
  | .node none a b, k => eraK a fun a => eraK b fun b => k (.node none a b)
  | .node (some x) a b, k => eK x fun x => eraK a fun a => eraK b fun b => k (.node (some x) a b)

def parK : List Nat → List AV → ES → (ES → R) → R
  | p :: ps, x :: xs, e, k => eK x fun x => putK e fail p x fun e => parK ps xs e k
  | _, _, e, k => k e

/-- The rounds of a loop over an iterator. -/
def evRs (E0 : T AV) (ps : List Nat) (ra : ES → (ES → R) → R) (rb : ES → (ES → R) → (Nat → ES → R) → (ES → R) → R) (kn : ES → R) (ke : Nat → ES → R) (kr : ES → R) : List (List AV) → ES → R
  | [], e => kn e
  | y :: ys, e => parK fail ps y e fun e => ra e fun e => rb e (fun e => evRs E0 ps ra rb kn ke kr ys ⟨E0, e.loc, e.obj, e.gh, e.nx⟩) (fun i e => ke i ⟨E0, e.loc, e.obj, e.gh, e.nx⟩) (fun e => kr ⟨E0, e.loc, e.obj, e.gh, e.nx⟩)

def evC : Nat → MCode → ES → (ES → R) → (Nat → ES → R) → (ES → R) → R
  | 0, _, _, _, _, _ => fail
  | f + 1, c, e, kn, ke, kr => match c with
    | .skip => kn e
    | .reg ms => evL col call amb fail ms e kn
    | .seq x y => evC f x e (fun e => evC f y e kn ke kr) ke kr
    | .cond t x y => argK e fail t fun v => match v with
      | .lit (.bool true) => evC f x e kn ke kr
      | .lit (.bool false) => evC f y e kn ke kr
      | _ => fail
    | .block id c => evC f c e kn (fun i e => bif Nat.beq i id then kn e else ke i e) kr
    | .loop c => evC f c e (fun e => evC f (.loop c) e kn ke kr) ke kr
    | .exit i => ke i e
    | .ret => kr e
    | .rangeL _ _ _ _ _ => fail
    | .rangeF x ps a b => argK e fail x fun v => match v with
      | .func (.func g) first cap => match coll e.nx g first cap with
        | some xs => bif xs.all (fun y => Nat.beq y.length ps.length && belowL 0 y && noMark y) then eraK e.env fun E0 =>
            evRs fail E0 ps (fun e k => evC f a e k (fun _ _ => fail) (fun _ => fail)) (fun e kn ke kr => evC f b e kn ke kr) kn ke kr xs ⟨E0, e.loc, e.obj, e.gh, e.nx⟩ else fail
        | none => fail
      | _ => fail
end

section
variable {R : Type} {P : Program} {call : Nat → FuncId → List AV → Option AV} {coll : Nat → FuncId → List AV → List AV → Option (List (List AV))} {amb : R → R → R} {fail t : R}

def CollOK (P : Program) (coll : Nat → FuncId → List AV → List AV → Option (List (List AV))) : Prop := ∀ n f first cap xs, coll n f first cap = some xs → belowL n first = true → belowL n cap = true → ∀ ρ, PSeq P f (first.map (ren ρ)) (cap.map (ren ρ)) xs

/-- A step on from a state. -/
def Ext (ρ : Nat → Nat) (e : ES) (ρ' : Nat → Nat) (e' : ES) : Prop := e.nx ≤ e'.nx ∧ ∀ b, b < e.nx → ρ' b = ρ b
theorem Ext.refl (ρ : Nat → Nat) (e : ES) : Ext ρ e ρ e := ⟨Nat.le_refl _, fun _ _ => rfl⟩
theorem Ext.trans {ρ ρ1 ρ2 : Nat → Nat} {e e1 e2 : ES} (h : Ext ρ e ρ1 e1) (k : Ext ρ1 e1 ρ2 e2) : Ext ρ e ρ2 e2 :=
  ⟨Nat.le_trans h.1 k.1, fun b hb => (k.2 b (Nat.lt_of_lt_of_le hb h.1)).trans (h.2 b hb)⟩

def To (ρ : Nat → Nat) (e : ES) (k : ES → R) (t : R) (K : St → Prop) : Prop := ∀ ρ' e' s', Rel ρ' e' s' → Ext ρ e ρ' e' → k e' = t → K s'
theorem To.from {ρ ρ1 : Nat → Nat} {e e1 : ES} {k : ES → R} {K : St → Prop} (h : To ρ e k t K) (hx : Ext ρ e ρ1 e1) : To ρ1 e1 k t K := fun ρ' e' s' hr hx' hk => h ρ' e' s' hr (hx.trans hx') hk

theorem evL_ok (hcall : CallOK P call) (hamb : ∀ a b, amb a b = t → a = t ∧ b = t) (ht : t ≠ fail) : ∀ (ms : List MOp) (e : ES) (k : ES → R) (s : St) (ρ : Nat → Nat) (K : St → Prop), evL false call amb fail ms e k = t → Rel ρ e s → To ρ e k t K → vcs P ms K s
  | [], e, k, s, ρ, K, h, hr, hK => hK ρ e s hr (.refl _ _) h
  | m :: ms, e, k, s, ρ, K, h, hr, hK => by
    refine vc1_imp (fun s' hs => ?_) (evO_ok hcall hamb ht m e _ s ρ h hr)
    obtain ⟨ρ', e', g1, g2, g3, g4⟩ := hs
    exact evL_ok hcall hamb ht ms e' k s' ρ' K g4 g1 (hK.from ⟨g2, g3⟩)

theorem eraK_eq : ∀ (u : T AV) (k : T AV → R), eraK u k = k (u.map AV.erase)
  | .nil, _ => rfl
  | .node none a b, k => by simp only [eraK, eraK_eq a, eraK_eq b]; rfl
  | .node (some x) a b, k => by simp only [eraK, eK_eq, eraK_eq a, eraK_eq b]; rfl

theorem parK_ok (ht : t ≠ fail) : ∀ (ps : List Nat) (xs : List AV) (e : ES) (k : ES → R) (s : St) (ρ : Nat → Nat), parK fail ps xs e k = t → Rel ρ e s → belowL 0 xs = true → ∃ e', Rel ρ e' (params s ps xs) ∧ e'.nx = e.nx ∧ k e' = t
  | [], xs, e, k, s, ρ, h, hr, _ => ⟨e, by cases xs <;> exact hr, rfl, h⟩
  | p :: ps, [], e, k, s, ρ, h, hr, _ => ⟨e, hr, rfl, h⟩
  | p :: ps, x :: xs, e, k, s, ρ, h, hr, hb => by
    simp only [belowL, Bool.and_eq_true] at hb
    simp only [parK, eK_eq] at h
    obtain ⟨e1, a1, a2, a3⟩ := put_ok h ht hr (below_mono (Nat.zero_le _) _ (below_erase hb.1))
    rw [ren_id (below_erase hb.1)] at a1
    obtain ⟨e2, b1, b2, b3⟩ := parK_ok ht ps xs e1 k _ ρ a3 a1 hb.2
    exact ⟨e2, b1, b2.trans a2, b3⟩

/-- Behind a round. -/
theorem back_rel {ρ0 ρ : Nat → Nat} {e0 e : ES} {s0 s : St} (h0 : Rel ρ0 e0 s0) (h : Rel ρ e s) (hx : Ext ρ0 e0 ρ e) : Rel ρ ⟨e0.env.map AV.erase, e.loc, e.obj, e.gh, e.nx⟩ (back s0 s) := by
  have hat : ∀ q, ES.at ⟨e0.env.map AV.erase, e.loc, e.obj, e.gh, e.nx⟩ q = (e0.at q).erase := by
    intro q
    simp only [ES.at, T.get_map]
    cases e0.env.get q <;> rfl
  refine ⟨fun q hq => ?_, fun q => ?_, ?_, h.gb, h.loc, h.linj, fun b x hb => ?_, h.oinj, h.og, h.gg⟩
  · rw [hat]
    show (if gS ≤ q then s.env q else (s0.env q).erase) = _
    rw [if_neg (by omega), h0.env q hq, ren_erase]
    exact (ren_below hx.2 _ (below_erase (h0.bnd q))).symm
  · rw [hat]; exact below_mono hx.1 _ (below_erase (h0.bnd q))
  · rw [back_g _ _ (Nat.le_refl _)]; exact h.gh
  · obtain ⟨o1, o2, o3⟩ := h.obj b x hb
    exact ⟨o1, by rw [back_o]; exact o2, o3⟩

theorem evC_ok (hcall : CallOK P call) (hcoll : CollOK P coll) (hamb : ∀ a b, amb a b = t → a = t ∧ b = t) (ht : t ≠ fail) : ∀ (f : Nat) (c : MCode) (e : ES) (kn : ES → R) (ke : Nat → ES → R) (kr : ES → R) (s : St) (ρ : Nat → Nat) (Kn : St → Prop) (Ke : Nat → St → Prop) (Kr : St → Prop),
    evC false call coll amb fail f c e kn ke kr = t → Rel ρ e s → To ρ e kn t Kn → (∀ i, To ρ e (ke i) t (Ke i)) → To ρ e kr t Kr → mwp P c Kn Ke Kr s := by
  intro f
  induction f using Nat.strongRecOn with
  | _ f0 ih0 =>
  cases f0 with
  | zero => intro c e kn ke kr s ρ Kn Ke Kr h; exact absurd h.symm ht
  | succ f =>
    have ih := ih0 f (Nat.lt_succ_self f)
    intro c e kn ke kr s ρ Kn Ke Kr h hr hn he hq
    cases c with
    | skip => exact hn ρ e s hr (.refl _ _) h
    | reg ms => exact evL_ok hcall hamb ht ms e kn s ρ Kn h hr hn
    | seq x y => exact ih x e _ ke kr s ρ _ Ke Kr h hr (fun ρ' e' s' hr' hx' hk' => ih y e' kn ke kr s' ρ' Kn Ke Kr hk' hr' (hn.from hx') (fun i => (he i).from hx') (hq.from hx')) he hq
    | cond u x y =>
      dsimp only [evC] at h
      obtain ⟨v, h1, h2, h3⟩ := argK_ok h ht hr
      simp only [mwp, h1]
      split at h3
      · simp only [ren]; exact ⟨fun _ => ih x e kn ke kr s ρ Kn Ke Kr h3 hr hn he hq, fun e => by cases e⟩
      · simp only [ren]; exact ⟨fun e0 => (by cases e0), fun _ => ih y e kn ke kr s ρ Kn Ke Kr h3 hr hn he hq⟩
      · exact absurd h3.symm ht
    | block id c =>
      refine ih c e kn _ kr s ρ Kn _ Kr h hr hn (fun i ρ' e' s' hr' hx' hk' => ?_) hq
      cases hb : Nat.beq i id with
      | true =>
        rw [hb] at hk'
        rw [if_pos (Nat.eq_of_beq_eq_true hb)]
        exact hn ρ' e' s' hr' hx' hk'
      | false =>
        rw [hb] at hk'
        rw [if_neg (fun e0 => by rw [e0] at hb; simp at hb)]
        exact he i ρ' e' s' hr' hx' hk'
    | loop c =>
      refine ⟨fun g s' => ∃ ρ' e', Rel ρ' e' s' ∧ Ext ρ e ρ' e' ∧ g ≤ f + 1 ∧ evC false call coll amb fail g (.loop c) e' kn ke kr = t, ⟨f + 1, s, .refl s, ρ, e, hr, .refl _ _, Nat.le_refl _, h⟩, ?_⟩
      rintro g s' ⟨ρ', e', hr', hx', hg, hk'⟩
      cases g with
      | zero => exact absurd hk'.symm ht
      | succ g =>
        exact ih0 g (by omega) c e' _ ke kr s' ρ' _ Ke Kr hk' hr' (fun ρ2 e2 s2 hr2 hx2 hk2 => ⟨g, s2, Nat.lt_succ_self _, .refl s2, ρ2, e2, hr2, hx'.trans hx2, by omega, hk2⟩) (fun i => (he i).from hx') (hq.from hx')
    | exit i => exact he i ρ e s hr (.refl _ _) h
    | ret => exact hq ρ e s hr (.refl _ _) h
    | rangeL x pos ps a b => exact absurd (show fail = t from h).symm ht
    | rangeF x ps a b =>
      dsimp only [evC] at h
      obtain ⟨v, h1, h2, h3⟩ := argK_ok h ht hr
      split at h3
      · rename_i g first cap
        split at h3
        · rename_i xs hxs
          obtain ⟨c1, c2⟩ := cond_ok h3 ht
          rw [eraK_eq] at c2
          simp only [below, Bool.and_eq_true] at h2
          have hseq := hcoll _ _ _ _ _ hxs h2.1.2 h2.2 ρ
          simp only [mwp, h1, ren, renF, renL_map]
          have hlen0 : ∀ y ∈ xs, (y.length = ps.length ∧ belowL 0 y = true) ∧ noMark y = true := fun y hy => by
            have := (List.all_eq_true.1 c1) y hy
            simp only [Bool.and_eq_true] at this
            exact ⟨⟨Nat.eq_of_beq_eq_true this.1.1, this.1.2⟩, this.2⟩
          have hlen := fun y hy => (hlen0 y hy).1
          refine ⟨xs, hseq, fun y hy => ⟨(hlen y hy).1, (hlen0 y hy).2⟩, fun k st => ∃ ρ' e', Rel ρ' e' st ∧ Ext ρ e ρ' e' ∧ e'.env = e.env.map AV.erase ∧
            evRs fail (e.env.map AV.erase) ps (fun e k => evC false call coll amb fail f a e k (fun _ _ => fail) (fun _ => fail)) (fun e kn ke kr => evC false call coll amb fail f b e kn ke kr) kn ke kr (xs.drop k) e' = t, ?_, ?_, ?_⟩
          · exact ⟨ρ, ⟨e.env.map AV.erase, e.loc, e.obj, e.gh, e.nx⟩, back_rel hr hr (.refl _ _), ⟨Nat.le_refl _, fun _ _ => rfl⟩, rfl, c2⟩
          · rintro k st hk hst ⟨ρ', e', hr', hx', henv, hk'⟩
            rw [List.drop_eq_getElem_cons hk] at hk'
            have hy : xs.getD k [] = xs[k] := by rw [List.getD_eq_getElem?_getD, List.getElem?_eq_getElem hk]; rfl
            rw [hy]
            obtain ⟨e1, a1, a2, a3⟩ := parK_ok ht ps xs[k] e' _ st ρ' hk' hr' (hlen _ (List.getElem_mem hk)).2
            have hx1 : Ext ρ e ρ' e1 := ⟨by rw [a2]; exact hx'.1, hx'.2⟩
            refine ih a e1 _ _ _ _ ρ' _ _ _ a3 a1 (fun ρ2 e2 s2 hr2 hx2 hk2 => ?_) (fun i ρ2 e2 s2 hr2 hx2 hk2 => absurd hk2.symm ht) (fun ρ2 e2 s2 hr2 hx2 hk2 => absurd hk2.symm ht)
            have hx12 := hx1.trans hx2
            refine ih b e2 _ _ _ s2 ρ2 _ _ _ hk2 hr2 (fun ρ3 e3 s3 hr3 hx3 hk3 => ?_) (fun i ρ3 e3 s3 hr3 hx3 hk3 => ?_) (fun ρ3 e3 s3 hr3 hx3 hk3 => ?_)
            · have hx13 := hx12.trans hx3
              exact ⟨ρ3, _, back_rel hr hr3 hx13, ⟨hx13.1, hx13.2⟩, rfl, hk3⟩
            · have hx13 := hx12.trans hx3
              exact he i ρ3 _ _ (back_rel hr hr3 hx13) ⟨hx13.1, hx13.2⟩ hk3
            · have hx13 := hx12.trans hx3
              exact hq ρ3 _ _ (back_rel hr hr3 hx13) ⟨hx13.1, hx13.2⟩ hk3
          · rintro st hst ⟨ρ', e', hr', hx', henv, hk'⟩
            rw [List.drop_length] at hk'
            exact hn ρ' e' st hr' hx' hk'
        · exact absurd h3.symm ht
      · exact absurd h3.symm ht

end
end Go.Avm

namespace Go.Avm

abbrev Row := Nat × Nat × MCode × List MRes

def RowOK (P : Program) (x : Row) : Prop := ∃ fn ann, P.funcs[x.1]? = some fn ∧ fn.body.bind (trC P ann fn.ntmps) = some x.2.2.1 ∧ trRes P fn.results.toList = some x.2.2.2 ∧ isFunc P x.1 = true ∧ fn.ntmps = x.2.1 ∧ fn.ntmps ≤ 1000000

inductive Tab (P : Program) : List Row → Prop
  | nil : Tab P []
  | cons {x : Row} {l : List Row} (h : RowOK P x) (t : Tab P l) : Tab P (x :: l)

theorem RowOK.mk {P : Program} {f N : Nat} {m : MCode} {rs : List MRes} {fn : Func} {ann : Ann} (h1 : P.funcs[f]? = some fn) (h2 : fn.body.bind (trC P ann fn.ntmps) = some m) (h3 : trRes P fn.results.toList = some rs) (h4 : isFunc P f = true)
    (h5 : fn.ntmps = N) (h6 : Nat.ble N 1000000 = true) : RowOK P (f, N, m, rs) := ⟨fn, ann, h1, h2, h3, h4, h5, by rw [h5]; simpa using h6⟩

def findT : List Row → Nat → Option Row
  | [], _ => none
  | x :: l, f => bif Nat.beq x.1 f then some x else findT l f

theorem findT_ok {P : Program} {l : List Row} (h : Tab P l) {f : Nat} {x : Row} (hx : findT l f = some x) : RowOK P x ∧ x.1 = f := by
  induction h with
  | nil => cases hx
  | cons h t ih =>
    simp only [findT] at hx
    cases hb : Nat.beq _ f with
    | true => rw [hb] at hx; injection hx with hx; subst hx; exact ⟨h, Nat.eq_of_beq_eq_true hb⟩
    | false => rw [hb] at hx; exact ih hx

section
variable {R : Type}
def initK : Nat → List AV → T AV → (T AV → R) → R
  | _, [], env, k => k env
  | i, x :: xs, env, k => eK x fun x => setK 24 env i (some x) fun env => fN (i + 1) fun i => initK i xs env k

theorem initK_ok {t : R} : ∀ (xs : List AV) (i : Nat) (env : T AV) (k : T AV → R), initK i xs env k = t → i + xs.length + 1 < 2 ^ 24 →
    ∃ env', k env' = t ∧ ∀ q, env'.get q = if i ≤ q ∧ q < i + xs.length then some (xs.getD (q - i) .any).erase else env.get q
  | [], i, env, k, h, _ => ⟨env, h, fun q => by rw [if_neg (by simp)]⟩
  | x :: xs, i, env, k, h, hl => by
    simp only [List.length_cons] at hl
    simp only [initK, eK_eq, setK_eq, fN_eq] at h
    obtain ⟨env', h1, h2⟩ := initK_ok xs (i + 1) _ k h (by omega)
    refine ⟨env', h1, fun q => ?_⟩
    rw [h2, T.get_set 24 _ _ _ _ (by omega)]
    simp only [List.length_cons]
    by_cases h3 : q = i
    · subst h3
      rw [if_neg (by omega), if_pos rfl, if_pos (by omega)]
      simp
    · by_cases h4 : i + 1 ≤ q ∧ q < i + 1 + xs.length
      · rw [if_pos h4, if_pos (by omega)]
        have : q - i = (q - (i + 1)) + 1 := by omega
        rw [this]; simp
      · rw [if_neg h4, if_neg h3, if_neg (by omega)]
end

theorem init_rel {ρ : Nat → Nat} {n : Nat} {xs : List AV} {env : T AV} (hb : belowL n xs = true) (hl : xs.length ≤ gS) (henv : ∀ q, env.get q = if 0 ≤ q ∧ q < 0 + xs.length then some (xs.getD (q - 0) .any).erase else T.nil.get q) :
    Rel ρ ⟨env, .nil, .nil, .any, n⟩ ⟨initEnv (xs.map (ren ρ)), fun _ => none⟩ := by
  have hat : ∀ q, ES.at ⟨env, .nil, .nil, .any, n⟩ q = (xs.getD q .any).erase := by
    intro q
    simp only [ES.at, henv, Nat.zero_le, true_and, Nat.zero_add, Nat.sub_zero]
    split
    · rfl
    · rename_i h
      rw [T.get_nil, List.getD_eq_getElem?_getD, List.getElem?_eq_none (by omega)]; rfl
  refine ⟨fun q hq => ?_, fun q => ?_, ?_, rfl, fun b cs h => ?_, fun b b' h => ?_, fun b x h => ?_, fun b b' h => ?_, fun b x h => ?_, rfl⟩
  · rw [hat]; show ((xs.map (ren ρ)).getD q .any).erase = _; rw [ren_getD, ren_erase]
  · rw [hat]; exact below_erase (below_getD q hb)
  · exact init_any (by simpa using hl) _ (Nat.le_refl _)
  · simp only [T.get_nil] at h; cases h
  · simp only [T.get_nil] at h; exact absurd rfl h
  · simp only [T.get_nil] at h; cases h
  · simp only [T.get_nil] at h; exact absurd rfl h
  · simp only [T.get_nil] at h; cases h

/-- The results. -/
def resE (e : ES) : List MRes → (List AV → Option AV) → Option AV
  | [], k => k []
  | .tmp q :: rs, k => argK e none (.t q) fun x => eK x fun x => resE e rs fun xs => k (x :: xs)
  | .cell q n :: rs, k => argK e none (.t q) fun x => match x with
    | .ref cs => partE none cs 0 n fun v => eK v fun v => resE e rs fun xs => k (v :: xs)
    | .mref b off => match e.loc.get b with
      | some cs => partE none cs off n fun v => eK v fun v => resE e rs fun xs => k (v :: xs)
      | none => none
    | _ => none

def resF (xs : List AV) : Option AV := some (resOf xs)

theorem resOf_ren (ρ : Nat → Nat) (xs : List AV) : ren ρ (resOf xs) = resOf (xs.map (ren ρ)) := by
  match xs with
  | [] => simp only [resOf, List.map_nil, ren, renL]
  | [x] => rfl
  | x :: y :: xs => simp only [resOf, ren, renL_map, List.map_cons]

theorem resE_ok {e : ES} {ρ : Nat → Nat} {s : St} {r : AV} (hr : Rel ρ e s) : ∀ (rs : List MRes) (k : List AV → Option AV) (K : List AV → Prop), resE e rs k = some r → (∀ xs, k xs = some r → K (xs.map (ren ρ))) → resK s rs K
  | [], k, K, h, hk => hk [] h
  | .tmp q :: rs, k, K, h, hk => by
    obtain ⟨x, h1, h2, h3⟩ := argK_ok h (by simp) hr
    rw [eK_eq] at h3
    replace h1 : s.env q = ren ρ x := h1
    simp only [resK, h1, ren_erase]
    exact resE_ok hr rs _ _ h3 fun xs hx => hk _ hx
  | .cell q n :: rs, k, K, h, hk => by
    obtain ⟨x, h1, h2, h3⟩ := argK_ok h (by simp) hr
    replace h1 : s.env q = ren ρ x := h1
    simp only [resK, h1]
    split at h3
    · simp only [below] at h2
      obtain ⟨v, g1, g2, g3⟩ := partE_ok h3 (by simp) h2
      rw [eK_eq] at g2
      simp only [ren, loadK, renL_map]
      refine g3 _ ?_
      have : ((ren ρ v).erase).erase = ren ρ v.erase := by rw [erase_erase, ren_erase]
      rw [this]
      exact resE_ok hr rs _ _ g2 fun xs hx => hk _ hx
    · split at h3
      · rename_i b off _ cs hcs
        obtain ⟨l1, l2, l3⟩ := hr.loc b cs hcs
        obtain ⟨v, g1, g2, g3⟩ := partE_ok h3 (by simp) l3
        rw [eK_eq] at g2
        simp only [ren, loadK, l2]
        refine g3 _ ?_
        rw [ren_erase]
        exact resE_ok hr rs _ _ g2 fun xs hx => hk _ hx
      · cases h3
    · cases h3

def accOf (e : ES) : Option (List (List AV)) := match e.gh with
  | .ghost _ acc _ => some acc
  | _ => none
def doneB (n : Nat) (e : ES) : Bool := match e.gh with
  | .ghost l rest b => Nat.beq l n && (b || rest.isEmpty)
  | _ => false

/-- How deep a run may go. -/
def evFuel : Nat := 1000000

def evAll (tab : List Row) : Nat → (Nat → FuncId → List AV → Option AV) × (Nat → FuncId → List AV → List AV → Option (List (List AV)))
  | 0 => (fun _ _ _ => none, fun _ _ _ _ => none)
  | g + 1 =>
    (fun n f xs => match findT tab f with
      | some (_, N, m, rs) => bif Nat.ble xs.length N then initK 0 xs .nil fun env =>
          evC false (evAll tab g).1 (evAll tab g).2 (fun _ _ => none) none evFuel m ⟨env, .nil, .nil, .any, n⟩ (fun e => resE e rs resF) (fun _ _ => none) (fun e => resE e rs resF) else none
      | none => none,
     fun n f first cap => match findT tab f with
      | some (_, N, m, []) => bif Nat.ble (first.length + 1 + cap.length) N then initK 0 (first ++ [AV.func (.yield n) [] []] ++ cap) .nil fun env =>
          match evC true (evAll tab g).1 (evAll tab g).2 (fun _ _ => none) none evFuel m ⟨env, .nil, .nil, .ghost n [] true, n + 1⟩ accOf (fun _ _ => none) accOf with
          | some xs => bif evC false (evAll tab g).1 (evAll tab g).2 (fun a b => a && b) false evFuel m ⟨env, .nil, .nil, .ghost n xs false, n + 1⟩ (doneB n) (fun _ _ => false) (doneB n) then some xs else none
          | none => none else none
      | _ => none)

theorem evAll_ok {P : Program} {tab : List Row} (hT : Tab P tab) : ∀ g, CallOK P (evAll tab g).1 ∧ CollOK P (evAll tab g).2
  | 0 => ⟨fun n f xs r h => (by cases h), fun n f first cap xs h => (by cases h)⟩
  | g + 1 => by
    obtain ⟨ihc, ihl⟩ := evAll_ok hT g
    constructor
    · intro n f xs r h hb hbr ρ
      dsimp only [evAll] at h
      split at h
      · rename_i f' N m rs hf
        obtain ⟨⟨fn, ann, r1, r2, r3, r4, r5, r6⟩, rfl⟩ := findT_ok hT hf
        dsimp only at r1 r2 r3 r4 r5
        cases hl : Nat.ble xs.length N with
        | false => rw [hl] at h; cases h
        | true =>
          rw [hl, cond_true] at h
          have hlen : xs.length ≤ fn.ntmps := by rw [r5]; simpa using hl
          obtain ⟨env, h1, h2⟩ := initK_ok xs 0 .nil _ h (by omega)
          have hgl : xs.length ≤ gS := by simp only [gS]; omega
          have hrel := init_rel (ρ := ρ) hb hgl h2
          have hres : ∀ ρ' e' s', Rel ρ' e' s' → Ext ρ ⟨env, .nil, .nil, .any, n⟩ ρ' e' → resE e' rs resF = some r → resK s' rs fun ys => ren ρ r = resOf ys := by
            intro ρ' e' s' hr' hx' hk'
            refine resE_ok hr' rs _ _ hk' fun xs hxs => ?_
            injection hxs with hxs
            rw [← resOf_ren, hxs]
            exact (ren_below hx'.2 _ hbr).symm
          exact pcall r1 r2 r3 r4 ⟨by simpa using hlen, r6⟩ fun _ =>
            evC_ok (fail := none) (t := some r) ihc ihl (fun a b hab => by cases hab) (by simp) evFuel m _ _ _ _ _ ρ _ _ _ h1 hrel hres (fun i ρ' e' s' hr' hx' hk' => by cases hk') hres
      · cases h
    · intro n f first cap xs h hb1 hb2 ρ
      dsimp only [evAll] at h
      split at h
      · rename_i f' N m hf
        obtain ⟨⟨fn, ann, r1, r2, r3, r4, r5, r6⟩, rfl⟩ := findT_ok hT hf
        dsimp only at r1 r2 r3 r4 r5
        cases hl : Nat.ble (first.length + 1 + cap.length) N with
        | false => rw [hl] at h; cases h
        | true =>
          rw [hl, cond_true] at h
          have hlen : first.length + 1 + cap.length ≤ fn.ntmps := by rw [r5]; simpa using hl
          have hlen2 : (first ++ [AV.func (.yield n) [] []] ++ cap).length = first.length + 1 + cap.length := by simp only [List.length_append, List.length_singleton]
          obtain ⟨env, h1, h2⟩ := initK_ok (first ++ [AV.func (.yield n) [] []] ++ cap) 0 .nil _ h (by omega)
          split at h1
          · rename_i xs' _
            have hdone : evC false (evAll tab g).1 (evAll tab g).2 (fun a b => a && b) false evFuel m ⟨env, .nil, .nil, .ghost n xs' false, n + 1⟩ (doneB n) (fun _ _ => false) (doneB n) = true ∧ xs' = xs := by
              cases hq : evC false (evAll tab g).1 (evAll tab g).2 (fun a b => a && b) false evFuel m ⟨env, .nil, .nil, .ghost n xs' false, n + 1⟩ (doneB n) (fun _ _ => false) (doneB n) with
              | false => rw [hq] at h1; cases h1
              | true => rw [hq] at h1; injection h1 with h1; exact ⟨rfl, h1⟩
            obtain ⟨hq, rfl⟩ := hdone
            refine pseq r1 r2 r3 r4 ⟨by simpa using hlen, r6⟩ fun l _ => ?_
            have hbL : belowL (n + 1) (first ++ [AV.func (.yield n) [] []] ++ cap) = true :=
              belowL_app (belowL_app (belowL_mono (Nat.le_succ _) _ hb1) (by simp [belowL, below, belowF, Nat.blt])) (belowL_mono (Nat.le_succ _) _ hb2)
            have hgl : (first ++ [AV.func (.yield n) [] []] ++ cap).length ≤ gS := by simp only [gS]; omega
            have hrel := init_rel (ρ := upd ρ n l) hbL hgl h2
            have hmap : ∀ zs : List AV, belowL n zs = true → zs.map (ren (upd ρ n l)) = zs.map (ren ρ) := fun zs hz => List.map_congr_left fun x hx => ren_below upd_below x (belowL_iff.1 hz x hx)
            have hargs : (first ++ [AV.func (.yield n) [] []] ++ cap).map (ren (upd ρ n l)) = first.map (ren ρ) ++ [AV.func (.yield l) [] []] ++ cap.map (ren ρ) := by
              simp only [List.map_append, hmap _ hb1, hmap _ hb2, List.map_cons, List.map_nil, ren, renF, renL, upd_same]
            rw [hargs] at hrel
            have hrel2 : Rel (upd ρ n l) ⟨env, .nil, .nil, .ghost n xs' false, n + 1⟩ ((St.mk (initEnv (first.map (ren ρ) ++ [AV.func (.yield l) [] []] ++ cap.map (ren ρ))) fun _ => none).set gS (.ghost l xs' false)) :=
              ⟨fun q hq => (upd_ne _ _ (by omega)).trans (hrel.env q hq), hrel.bnd, by rw [env_set_g]; simp only [ren, upd_same], by simp [below, Nat.blt], hrel.loc, hrel.linj, fun b x hb => (by simp only [T.get_nil] at hb; cases hb), hrel.oinj, hrel.og, rfl⟩
            have hpost : ∀ ρ' e' s', Rel ρ' e' s' → Ext (upd ρ n l) ⟨env, .nil, .nil, .ghost n xs' false, n + 1⟩ ρ' e' → doneB n e' = true → ∃ rest b, s'.env gS = .ghost l rest b ∧ (b = true ∨ rest = []) := by
              intro ρ' e' s' hr' hx' hd
              unfold doneB at hd
              split at hd
              · rename_i l0 rest b hg
                simp only [Bool.and_eq_true, Bool.or_eq_true, List.isEmpty_iff] at hd
                have e0 := Nat.eq_of_beq_eq_true hd.1
                subst e0
                refine ⟨rest, b, ?_, hd.2⟩
                rw [hr'.gh, hg]
                simp only [ren]
                rw [hx'.2 l0 (Nat.lt_succ_self _), upd_same]
              · cases hd
            exact evC_ok (fail := false) (t := true) ihc ihl (fun a b hab => by simpa using hab) (by simp) evFuel m _ _ _ _ _ (upd ρ n l) _ _ _ hq hrel2 hpost (fun i ρ' e' s' hr' hx' hk' => by cases hk') hpost
          · cases h1
      · cases h

/-- A call of closed arguments, run. -/
theorem run_call {P : Program} {tab : List Row} (hT : Tab P tab) {f : FuncId} {xs : List AV} {r : AV} (g : Nat) (h : (evAll tab g).1 0 f xs = some r) (hx : belowL 0 xs = true) (hr : below 0 r = true) : PCall P f xs r := by
  have := (evAll_ok hT g).1 0 f xs r h hx hr id
  have e1 : xs.map (ren id) = xs := by
    have := List.map_congr_left (f := ren id) (g := id) (l := xs) fun x hx' => ren_id (belowL_iff.1 hx x hx')
    rw [this, List.map_id]
  rwa [e1, ren_id hr] at this
end Go.Avm

namespace Go.Avm

abbrev Known := Nat × List AV × AV

inductive KnownOK (P : Program) : List Known → Prop
  | nil : KnownOK P []
  | cons {f : FuncId} {xs : List AV} {r : AV} {l : List Known} (h : PCall P f xs r) (hx : belowL 0 xs = true) (hr : below 0 r = true) (t : KnownOK P l) : KnownOK P ((f, xs, r) :: l)

end Go.Avm

