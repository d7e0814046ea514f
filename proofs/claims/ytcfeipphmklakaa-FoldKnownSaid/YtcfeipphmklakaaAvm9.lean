/- Each resolved operation is sound: appends, literals, calls. -/
import Derived.Test.YtcfeipphmklakaaAvm8
namespace Go.Avm
open Go.RowKit

section
variable {P : Program} {N : Nat} {s : St} {a : Act} {w : World} {A : Area} {sp : Sp} {K : St → Prop} {next : Act → World → Prop} {Q : Exit → Act → World → Prop}
  {o : Oper} {d : Nat}

theorem run_append_zero (t e ty : TypeId) (i : TypeInfo) (ht : P.underlying t = some (.slice e)) (hi : P.info? e = some i) (base yb : Option Addr) (n cap c : Nat) (h : n ≤ cap) :
    (Builtin.append_ #[t, t] ty #[.slice base n cap, .slice yb 0 c]).run P w = .ok (.slice base n cap) w := by
  cases base <;> cases yb <;> simp [Builtin.append_, run_underlying ht, sizeOf, typeInfo, hi, Builtin.lenOf, h, Builtin.firstCells, loadCells, loadCellsFrom, storeCells]

theorem run_append_room' (t ty e : TypeId) (i : TypeInfo) (ht : P.underlying t = some (.slice e)) (hi : P.info? e = some i)
    (g off sLen sCap : Nat) (cur : Array Value) (T : TypeId) (hg : w.heap[g]? = some (.cells cur T (0, 0)))
    (a : Addr) (m c : Nat) (news : List Value) (hl : news.length = m * i.size) (hnews : ∀ j u, news[j]? = some u → w.cell? (a.add j) = some u) (h1 : ∀ u ∈ news, u.oneCell' = true)
    (hroom : sLen + m ≤ sCap) (hfit : off + sLen * i.size + news.length ≤ cur.size) :
    (Builtin.append_ #[t, t] ty #[.slice (some ⟨g, off, none⟩) sLen sCap, .slice (some a) m c]).run P w =
      .ok (.slice (some ⟨g, off, none⟩) (sLen + m) sCap) (w.setRow g (cur.toList.take (off + sLen * i.size) ++ news ++ cur.toList.drop (off + sLen * i.size + news.length)).toArray) := by
  have hf := run_firstCells_some (P := P) w i.size m a m c news hl hnews
  have hst := run_storeCells_at P g (off + sLen * i.size) T news 0 cur w hg (by simpa using hfit) h1
  simp only [Nat.add_zero] at hst
  simp [Builtin.append_, run_underlying ht, sizeOf, typeInfo, hi, Builtin.lenOf, hroom, hf, Addr.add_lit', hst]

theorem flat_len (sz : Nat) : ∀ (xs : List AV), (∀ x ∈ xs, x.cells.length = sz) → (xs.flatMap AV.cells).length = xs.length * sz
  | [], _ => by simp
  | x :: xs, h => by
    rw [List.flatMap_cons, List.length_append, h x (by simp), flat_len sz xs (fun y hy => h y (by simp [hy])), List.length_cons, Nat.add_mul]; omega

theorem range_getElem (f : Nat → Value) (n j : Nat) (v : Value) (h : ((List.range n).map f)[j]? = some v) : j < n ∧ f j = v := by
  simp only [List.getElem?_map, Option.map_eq_some_iff] at h
  obtain ⟨k, hk, rfl⟩ := h
  rw [List.getElem?_eq_some_iff] at hk
  obtain ⟨h1, h2⟩ := hk
  simp at h1 h2
  exact ⟨h1, by rw [h2]⟩

theorem append_getD (xs ys : List AV) (i : Nat) : ((xs ++ ys).flatMap AV.cells).getD i .any =
    if i < (xs.flatMap AV.cells).length then (xs.flatMap AV.cells).getD i .any else (ys.flatMap AV.cells).getD (i - (xs.flatMap AV.cells).length) .any := by
  rw [List.flatMap_append]
  simp only [List.getD_eq_getElem?_getD]
  split
  · rw [List.getElem?_append_left ‹_›]
  · rw [List.getElem?_append_right (by omega)]

/-- A new row of some cells with room behind them: a slice that owns it. -/
theorem app_new (h : RS N s a w A sp) {sz : Nat} {xs ys : List AV} (T : TypeId) (olds news rest : List Value) (q cap : Nat) (hq : q ≠ 0)
    (hq1 : ∀ d sz xs, s.env d ≠ .slice sz xs q) (hq2 : ∀ b cs, s.loc b = some cs → ∀ i sz xs, cs.getD i .any ≠ .slice sz xs q)
    (hsx : ∀ x ∈ xs, x.cells.length = sz) (hsy : ∀ x ∈ ys, x.cells.length = sz) (hcx : ∀ x ∈ xs, x.cells.all AV.cell1 = true) (hcy : ∀ x ∈ ys, x.cells.all AV.cell1 = true) (hox : olds.length = xs.length * sz) (hny : news.length = ys.length * sz)
    (hrx : ∀ i, RV w A ((xs.flatMap AV.cells).getD i .any) (olds.getD i undef)) (hry : ∀ i, RV w A ((ys.flatMap AV.cells).getD i .any) (news.getD i undef))
    (hcap : xs.length + ys.length ≤ cap) (hrest : rest.length = (cap - (xs.length + ys.length)) * sz) (hlen : xs.length + ys.length ≤ 140737488355328) :
    ∃ A' sp', RS N s a (w.alloc (.cells (olds ++ news ++ rest).toArray T)) A' sp' ∧ Ev w A (live s.loc sp) (w.alloc (.cells (olds ++ news ++ rest).toArray T)) A' (live s.loc sp') ∧
      RV (w.alloc (.cells (olds ++ news ++ rest).toArray T)) A' (.slice sz (xs ++ ys) q) (.slice (some ⟨w.heap.size, 0, none⟩) (xs.length + ys.length) cap) ∧
      OwnOK sp' (.slice sz (xs ++ ys) q) (.slice (some ⟨w.heap.size, 0, none⟩) (xs.length + ys.length) cap) := by
  have hmul : (xs.length + ys.length) * sz ≤ cap * sz := Nat.mul_le_mul_right _ hcap
  have hk : (xs.length + ys.length) * sz = xs.length * sz + ys.length * sz := Nat.add_mul _ _ _
  have hrl : rest.length = cap * sz - (xs.length + ys.length) * sz := by rw [hrest, Nat.sub_mul]
  have hsize : ((olds ++ news ++ rest).toArray).size = cap * sz := by simp; omega
  have h1 := h.alloc (olds ++ news ++ rest).toArray T ((xs.length + ys.length) * sz) (by omega)
  have h2 := h1.newSpare q hq1 hq2 w.heap.size ((xs.length + ys.length) * sz) (cap * sz)
    (fun _ => ⟨⟨_, T, heap_alloc_at _ _, by omega⟩, h.fresh⟩)
    (fun q' _ _ hlt he => absurd (he ▸ h.spare_lt ⟨q', rfl, Nat.le_refl _, hlt⟩) (Nat.lt_irrefl _))
    (fun o ho => by
      rcases ho with ho | ho
      · exact absurd (h.av _ _ ho).1 (Nat.lt_irrefl _)
      · omega)
  refine ⟨_, _, h2, ?_, ?_, .inr (by simp [upd])⟩
  · refine ⟨rfl, rfl, rfl, by rw [alloc_size]; omega, fun b o hb hl => ⟨cell_alloc _ _ _ _ hb, ?_⟩, fun b hb _ => heap_alloc _ _ _ hb, fun _ _ ha => .inl ha, fun b o ha => ha.elim .inl fun e => .inr (.inr (by omega))⟩
    rintro (hl' | ⟨r, hr⟩)
    · exact hl (.inl hl')
    · simp only [upd] at hr
      split at hr
      · have := hr.1; simp only at this; omega
      · exact hl (.inr ⟨r, hr⟩)
  · have hxl := flat_len sz xs hsx
    have hyl := flat_len sz ys hsy
    have hcat : ∀ i, RV w A (((xs ++ ys).flatMap AV.cells).getD i .any) (if i < olds.length then olds.getD i undef else news.getD (i - olds.length) undef) := by
      intro i
      rw [append_getD, hxl, hox]
      split
      · exact hrx i
      · exact hry _
    have := RV.slice (w := w.alloc (.cells (olds ++ news ++ rest).toArray T)) (A := fun b o => A b o ∨ (b = w.heap.size ∧ o < (xs.length + ys.length) * sz)) sz (xs ++ ys) q w.heap.size 0 cap
      (fun i => if i < olds.length then olds.getD i undef else news.getD (i - olds.length) undef)
      (fun x hx => (List.mem_append.1 hx).elim (hsx x) (hsy x)) (fun x hx => (List.mem_append.1 hx).elim (hcx x) (hcy x)) (by simpa using hcap) (by simpa using hlen)
      (fun i hi => ⟨?_, .inr ⟨rfl, by simpa using hi⟩⟩) (fun i => (hcat i).mono fun b o v ha hv => ⟨by rw [cell_alloc _ _ _ _ (h.av b o ha).1]; exact hv, .inl ha⟩)
    · rw [List.length_append] at this; exact this
    · rw [List.length_append] at hi
      rw [Nat.zero_add, cell_alloc_new]
      simp only [List.getElem?_toArray, List.append_assoc, List.getD_eq_getElem?_getD]
      split
      · rw [List.getElem?_append_left ‹_›, List.getElem?_eq_getElem ‹_›]; rfl
      · rw [List.getElem?_append_right (by omega), List.getElem?_append_left (by omega), List.getElem?_eq_getElem (by omega)]; rfl

end
end Go.Avm
