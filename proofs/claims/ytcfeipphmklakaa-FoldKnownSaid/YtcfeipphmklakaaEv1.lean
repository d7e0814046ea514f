/- Running resolved code: renamings of blocks. -/
import Derived.Test.YtcfeipphmklakaaAvm16
namespace Go.Avm

def renF (ρ : Nat → Nat) : Fn → Fn
  | .yield l => .yield (ρ l)
  | f => f
def belowF (n : Nat) : Fn → Bool
  | .yield l => Nat.blt l n
  | _ => true
theorem renF_below {n : Nat} {ρ ρ' : Nat → Nat} (h : ∀ b, b < n → ρ' b = ρ b) (f : Fn) (hb : belowF n f = true) : renF ρ' f = renF ρ f := by
  cases f <;> first | rfl | (simp only [renF]; rw [h _ (Nat.lt_of_succ_le (by simpa [belowF, Nat.blt] using hb))])

mutual
def ren (ρ : Nat → Nat) : AV → AV
  | .any => .any
  | .lit v => .lit v
  | .slice sz xs r => .slice sz (renL ρ xs) r
  | .ref cs => .ref (renL ρ cs)
  | .mref b o => .mref (ρ b) o
  | .mslice b o l c sz => .mslice (ρ b) o l c sz
  | .agg cs => .agg (renL ρ cs)
  | .tuple vs => .tuple (renL ρ vs)
  | .func fn a b => .func (renF ρ fn) (renL ρ a) (renL ρ b)
  | .ghost l r b => .ghost (ρ l) r b
  | .mapr b => .mapr (ρ b)
def renL (ρ : Nat → Nat) : List AV → List AV
  | [] => []
  | x :: xs => ren ρ x :: renL ρ xs
end

mutual
/-- Its blocks, if it tells of any, are below n. -/
def below (n : Nat) : AV → Bool
  | .any => true
  | .lit _ => true
  | .slice _ xs _ => belowL n xs
  | .ref cs => belowL n cs
  | .mref b _ => Nat.blt b n
  | .mslice b _ _ _ _ => Nat.blt b n
  | .agg cs => belowL n cs
  | .tuple vs => belowL n vs
  | .func f a b => belowF n f && belowL n a && belowL n b
  | .ghost l _ _ => Nat.blt l n
  | .mapr b => Nat.blt b n
def belowL (n : Nat) : List AV → Bool
  | [] => true
  | x :: xs => below n x && belowL n xs
end

theorem renL_map (ρ : Nat → Nat) : ∀ xs : List AV, renL ρ xs = xs.map (ren ρ)
  | [] => rfl
  | x :: xs => by rw [renL, renL_map ρ xs]; rfl

mutual
theorem ren_below {n : Nat} {ρ ρ' : Nat → Nat} (h : ∀ b, b < n → ρ' b = ρ b) : ∀ x : AV, below n x = true → ren ρ' x = ren ρ x
  | .any, _ => rfl
  | .lit _, _ => rfl
  | .slice sz xs r, hb => by simp only [ren]; rw [renL_below h xs hb]
  | .ref cs, hb => by simp only [ren]; rw [renL_below h cs hb]
  | .mref b o, hb => by simp only [ren]; rw [h b (Nat.lt_of_succ_le (by simpa [below, Nat.blt] using hb))]
  | .mslice b _ _ _ _, hb => by simp only [ren]; rw [h b (Nat.lt_of_succ_le (by simpa [below, Nat.blt] using hb))]
  | .agg cs, hb => by simp only [ren]; rw [renL_below h cs hb]
  | .tuple vs, hb => by simp only [ren]; rw [renL_below h vs hb]
  | .func f a b, hb => by
    simp only [below, Bool.and_eq_true] at hb
    simp only [ren]; rw [renF_below h f hb.1.1, renL_below h a hb.1.2, renL_below h b hb.2]
  | .ghost b _ _, hb => by simp only [ren]; rw [h b (Nat.lt_of_succ_le (by simpa [below, Nat.blt] using hb))]
  | .mapr b, hb => by simp only [ren]; rw [h b (Nat.lt_of_succ_le (by simpa [below, Nat.blt] using hb))]
theorem renL_below {n : Nat} {ρ ρ' : Nat → Nat} (h : ∀ b, b < n → ρ' b = ρ b) : ∀ xs : List AV, belowL n xs = true → renL ρ' xs = renL ρ xs
  | [], _ => rfl
  | x :: xs, hb => by
    simp only [belowL, Bool.and_eq_true] at hb
    simp only [renL]; rw [ren_below h x hb.1, renL_below h xs hb.2]
end

section
variable (ρ : Nat → Nat)

theorem ren_cells (x : AV) : (ren ρ x).cells = x.cells.map (ren ρ) := by
  cases x <;> simp only [ren, AV.cells, renL_map, List.map_cons, List.map_nil]
theorem ren_cell1 (x : AV) : (ren ρ x).cell1 = x.cell1 := by cases x <;> simp only [ren, AV.cell1]
theorem ren_erase0 (x : AV) : (ren ρ x).erase0 = ren ρ x.erase0 := by cases x <;> simp only [ren, AV.erase0]
theorem ren_erase (x : AV) : (ren ρ x).erase = ren ρ x.erase := by
  cases x <;> simp only [ren, AV.erase, renL_map, List.map_map]
  congr 1
  exact List.map_congr_left fun y _ => ren_erase0 ρ y
theorem ren_demote (r : Nat) (x : AV) : demote r (ren ρ x) = ren ρ (demote r x) := by
  cases x <;> simp only [ren, demote]
  split <;> simp only [ren]
theorem ren_getD (xs : List AV) (i : Nat) : (xs.map (ren ρ)).getD i .any = ren ρ (xs.getD i .any) := by
  simp only [List.getD_eq_getElem?_getD, List.getElem?_map]
  cases xs[i]? <;> simp [ren]
theorem ren_splice : ∀ (ys cs : List AV) (off : Nat), splice (cs.map (ren ρ)) off (ys.map (ren ρ)) = (splice cs off ys).map (ren ρ)
  | [], _, _ => rfl
  | y :: ys, cs, off => by
    simp only [List.map_cons, splice]
    rw [← List.map_set, ren_splice ys]
theorem ren_mapE0 (xs : List AV) : (xs.map (ren ρ)).map AV.erase0 = (xs.map AV.erase0).map (ren ρ) := by
  simp only [List.map_map]
  exact List.map_congr_left fun y _ => ren_erase0 ρ y
theorem ren_allc1 (xs : List AV) : (xs.map (ren ρ)).all AV.cell1 = xs.all AV.cell1 := by
  induction xs with
  | nil => rfl
  | cons x xs ih => simp only [List.map_cons, List.all_cons, ren_cell1, ih]
theorem ren_flat (xs : List AV) : (xs.map (ren ρ)).flatMap AV.cells = (xs.flatMap AV.cells).map (ren ρ) := by
  induction xs with
  | nil => rfl
  | cons x xs ih => simp only [List.map_cons, List.flatMap_cons, ih, ren_cells, List.map_append]
theorem ren_chunk (sz : Nat) : ∀ (n : Nat) (cs : List AV), chunk sz (cs.map (ren ρ)) n = (chunk sz cs n).map (ren ρ)
  | 0, _ => rfl
  | n + 1, cs => by
    simp only [chunk, List.map_cons]
    rw [← List.map_drop, ren_chunk sz n]
    congr 1
    split
    · rw [ren_getD, ren_erase0]
    · simp only [ren, renL_map, ← List.map_take, ren_mapE0]
theorem ren_eqCells : ∀ (ks : List Bool) (xs ys : List AV), eqCells ks (xs.map (ren ρ)) (ys.map (ren ρ)) = eqCells ks xs ys
  | [], [], [] => rfl
  | [], [], _ :: _ => by simp [eqCells]
  | [], _ :: _, _ => by simp [eqCells]
  | k :: ks, [], _ => by cases k <;> simp [eqCells]
  | k :: ks, x :: xs, [] => by cases k <;> simp [eqCells]
  | k :: ks, x :: xs, y :: ys => by
    have ih := ren_eqCells ks xs ys
    simp only [List.map_cons]
    cases k <;> cases x <;> simp only [ren, eqCells]
    all_goals
      rename_i v
      cases v <;> (try simp only [eqCells])
      all_goals
        cases y <;> (try simp only [ren, eqCells])
        all_goals
          rename_i u
          cases u <;> (try simp only [eqCells, ih])
end
end Go.Avm
