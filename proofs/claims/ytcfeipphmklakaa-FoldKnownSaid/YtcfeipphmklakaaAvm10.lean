/- Each resolved operation is sound: appends. -/
import Derived.Test.YtcfeipphmklakaaAvm9
namespace Go.Avm
open Go.RowKit

section
variable {P : Program} {N : Nat} {s : St} {a : Act} {w : World} {A : Area} {sp : Sp} {K : St → Prop} {next : Act → World → Prop} {Q : Exit → Act → World → Prop}
  {o : Oper} {d : Nat}

/-- The cells that a slice reads, as a list. -/
theorem RV.cellsOf {sz : Nat} {xs : List AV} {own b off cap len : Nat} (h : RV w A (.slice sz xs own) (.slice (some ⟨b, off, none⟩) len cap)) :
    (∀ x ∈ xs, x.cells.length = sz) ∧ (∀ x ∈ xs, x.cells.all AV.cell1 = true) ∧ len = xs.length ∧ xs.length ≤ cap ∧ xs.length ≤ 140737488355328 ∧ ∃ us : List Value, us.length = xs.length * sz ∧ (∀ j u, us[j]? = some u → w.cell? ⟨b, off + j, none⟩ = some u ∧ A b (off + j)) ∧
      (∀ i, RV w A ((xs.flatMap AV.cells).getD i .any) (us.getD i undef)) := by
  cases h with
  | slice _ _ _ _ _ _ vs hsz h1c hcap hlen hc hr =>
    refine ⟨hsz, h1c, rfl, hcap, hlen, (List.range (xs.length * sz)).map vs, by simp, fun j u hj => ?_, fun i => ?_⟩
    · obtain ⟨h1, rfl⟩ := range_getElem _ _ _ _ hj
      exact hc j h1
    · by_cases hi : i < xs.length * sz
      · have := hr i
        rw [List.getD_eq_getElem?_getD (l := (List.range (xs.length * sz)).map vs), List.getElem?_map, List.getElem?_range hi]
        exact this
      · rw [List.getD_eq_getElem?_getD, List.getElem?_eq_none (by rw [flat_len sz xs hsz]; omega)]
        exact .any _

theorem RV.slice_of {sz : Nat} {xs : List AV} {own b off cap : Nat} (us : List Value) (hsz : ∀ x ∈ xs, x.cells.length = sz) (h1c : ∀ x ∈ xs, x.cells.all AV.cell1 = true) (hcap : xs.length ≤ cap) (hlen : xs.length ≤ 140737488355328)
    (hu : us.length = xs.length * sz) (hc : ∀ j u, us[j]? = some u → w.cell? ⟨b, off + j, none⟩ = some u ∧ A b (off + j)) (hr : ∀ i, RV w A ((xs.flatMap AV.cells).getD i .any) (us.getD i undef)) :
    RV w A (.slice sz xs own) (.slice (some ⟨b, off, none⟩) xs.length cap) := by
  refine .slice _ _ _ _ _ _ (fun i => us.getD i undef) hsz h1c hcap hlen (fun i hi => ?_) hr
  rw [List.getD_eq_getElem?_getD, List.getElem?_eq_getElem (by omega)]
  exact hc i _ (by rw [List.getElem?_eq_getElem (by omega)]; rfl)

theorem RV.slice_sz {sz sz' : Nat} {xs : List AV} {own : Nat} {v : Value} (h : RV w A (.slice sz xs own) v) (hs : sz = sz' ∨ xs = []) : RV w A (.slice sz' xs own) v := by
  rcases hs with rfl | rfl
  · exact h
  · cases h with
    | nils => exact .nils _ _
    | slice _ _ _ b off cap vs hsz h1c hcap hlen hc hr =>
      exact .slice _ _ _ _ _ _ vs (by simp) (by simp) hcap hlen (fun i hi => by simp at hi) hr

theorem flat_all (xs : List AV) (h : ∀ x ∈ xs, x.cells.all AV.cell1 = true) : ∀ c ∈ xs.flatMap AV.cells, c.cell1 = true := by
  intro c hc
  obtain ⟨x, hx, hcx⟩ := List.mem_flatMap.1 hc
  exact (List.all_eq_true.1 (h x hx)) c hcx

/-- The last part of a row that is owned is written, and owned on. -/
theorem app_room (h : RS N s a w A sp) {sz : Nat} {xs ys : List AV} {g off cap : Nat} {r : Nat} (q : Nat) (hq : q ≠ 0)
    (hx : RV w A (.slice sz xs r) (.slice (some ⟨g, off, none⟩) xs.length cap)) (hspr : sp r = (g, off + xs.length * sz, off + cap * sz))
    (news : List Value) (hsy : ∀ x ∈ ys, x.cells.length = sz) (hcy : ∀ x ∈ ys, x.cells.all AV.cell1 = true) (hny : news.length = ys.length * sz) (hne : 0 < ys.length * sz)
    (hry : ∀ i, RV w A ((ys.flatMap AV.cells).getD i .any) (news.getD i undef))
    (hcap : xs.length + ys.length ≤ cap) (hlen : xs.length + ys.length ≤ 140737488355328) :
    ∃ cur T A' sp', w.heap[g]? = some (.cells cur T (0, 0)) ∧ off + xs.length * sz + news.length ≤ cur.size ∧
      (∀ w', w' = w.setRow g (cur.toList.take (off + xs.length * sz) ++ news ++ cur.toList.drop (off + xs.length * sz + news.length)).toArray →
      RS N ((s.dem r).dem q) a w' A' sp' ∧ Ev w A (live s.loc sp) w' A' (live ((s.dem r).dem q).loc sp') ∧
      RV w' A' (.slice sz (xs ++ ys) q) (.slice (some ⟨g, off, none⟩) (xs.length + ys.length) cap) ∧
      OwnOK sp' (.slice sz (xs ++ ys) q) (.slice (some ⟨g, off, none⟩) (xs.length + ys.length) cap)) := by
  have hmul : (xs.length + ys.length) * sz ≤ cap * sz := Nat.mul_le_mul_right _ hcap
  have hk : (xs.length + ys.length) * sz = xs.length * sz + ys.length * sz := Nat.add_mul _ _ _
  have hlt : (sp r).2.1 < (sp r).2.2 := by rw [hspr]; dsimp only; omega
  obtain ⟨⟨cur, T, hg, hcs⟩, hlg⟩ := h.spb r hlt
  rw [hspr] at hg hcs hlg
  dsimp only at hg hcs hlg
  have hfit : off + xs.length * sz + news.length ≤ cur.size := by omega
  refine ⟨cur, T, fun b o => A b o ∨ (b = g ∧ off + xs.length * sz ≤ o ∧ o < off + (xs.length + ys.length) * sz), upd (upd (upd sp r (0, 0, 0)) q (0, 0, 0)) q (g, off + (xs.length + ys.length) * sz, off + cap * sz), hg, hfit, fun w' hw' => ?_⟩
  have hcell : ∀ o, ¬ (off + xs.length * sz ≤ o ∧ o < off + (xs.length + ys.length) * sz) → w'.cell? ⟨g, o, none⟩ = w.cell? ⟨g, o, none⟩ := by
    intro o ho
    rw [hw', cell_setRow_same w g o cur _ T (0, 0) hg]
    have e := row_getD cur news (off + xs.length * sz) o hfit
    rw [if_neg (by omega)] at e
    simp only [Array.getD_eq_getD_getElem?] at e
    simp only [World.cell?, hg]
    by_cases ho2 : o < cur.size
    · rw [Array.getElem?_eq_getElem (by simp; omega), Array.getElem?_eq_getElem ho2] at e
      simp only [Option.getD_some] at e
      rw [Array.getElem?_eq_getElem (by simp; omega), Array.getElem?_eq_getElem ho2, e]; rfl
    · rw [Array.getElem?_eq_none (by simp; omega), Array.getElem?_eq_none (by omega)]; rfl
  have hnew : ∀ j u, news[j]? = some u → w'.cell? ⟨g, off + xs.length * sz + j, none⟩ = some u := by
    intro j u hj
    have hj' := (List.getElem?_eq_some_iff.1 hj).1
    rw [hw', cell_setRow_same w g _ cur _ T (0, 0) hg]
    simp only [List.getElem?_toArray]
    rw [List.append_assoc, List.getElem?_append_right (by simp; omega), List.getElem?_append_left (by simp; omega)]
    have : min (off + xs.length * sz) cur.size = off + xs.length * sz := by omega
    simp only [List.length_take, Array.length_toList, this, Nat.add_sub_cancel_left]
    exact hj
  have hA : ∀ o, A g o → ¬ (off + xs.length * sz ≤ o ∧ o < off + cap * sz) := fun o ho hh => (h.av g o ho).2 (.inr ⟨r, by rw [hspr]; exact ⟨rfl, hh⟩⟩)
  have hcellA : ∀ b o v, A b o → w.cell? ⟨b, o, none⟩ = some v → w'.cell? ⟨b, o, none⟩ = some v := by
    intro b o v ha hv
    by_cases e : b = g
    · subst e
      have := hA o ha
      rw [hcell o (by omega)]; exact hv
    · rw [hw', cell_setRow_other _ _ _ _ _ e]; exact hv
  have hother : ∀ b, b ≠ g → w'.heap[b]? = w.heap[b]? := fun b hb => by rw [hw', setRow_other' _ _ _ _ hb]
  have hsame : w'.heap[g]? = some (.cells (cur.toList.take (off + xs.length * sz) ++ news ++ cur.toList.drop (off + xs.length * sz + news.length)).toArray T (0, 0)) := by
    rw [hw']; exact setRow_heap _ _ _ _ _ _ hg
  have hsize' : ((cur.toList.take (off + xs.length * sz) ++ news ++ cur.toList.drop (off + xs.length * sz + news.length)).toArray).size = cur.size := by
    simp only [List.size_toArray, List.length_append, List.length_take, List.length_drop, Array.length_toList]; omega
  have hws : w'.heap.size = w.heap.size := by rw [hw', size_setRow]
  have h2 := (h.dem r).dem q
  have hq1 : ∀ k, k ≠ q → k ≠ r → upd (upd sp r (0, 0, 0)) q (0, 0, 0) k = sp k := fun k e1 e2 => by simp [upd, e1, e2]
  have hsp2 : ∀ k, (upd (upd sp r (0, 0, 0)) q (0, 0, 0) k).2.1 < (upd (upd sp r (0, 0, 0)) q (0, 0, 0) k).2.2 → k ≠ q ∧ k ≠ r := by
    intro k hk
    refine ⟨fun e => ?_, fun e => ?_⟩
    · subst e; simp [upd] at hk
    · subst e; simp only [upd] at hk; split at hk <;> simp at hk
  have h3 := h2.world (w' := w') (A' := fun b o => A b o ∨ (b = g ∧ off + xs.length * sz ≤ o ∧ o < off + (xs.length + ys.length) * sz)) hcellA (fun b o ha => .inl ha)
    (fun b cs hb => hother b (fun e => by subst e; simp [St.dem, hlg] at hb)) (fun k hk => by
      obtain ⟨⟨vs, T', g1, g2⟩, _⟩ := h2.spb k hk
      by_cases e : (upd (upd sp r (0, 0, 0)) q (0, 0, 0) k).1 = g
      · rw [e] at g1 ⊢
        rw [hg] at g1; injection g1 with g1; injection g1 with g1 _ _; subst g1
        exact ⟨_, T, hsame, by omega⟩
      · exact ⟨vs, T', (hother _ e).trans g1, g2⟩) (fun b o ha => by
      rcases ha with ha | ⟨rfl, h4, h5⟩
      · exact ⟨by rw [hws]; exact (h2.av b o ha).1, (h2.av b o ha).2⟩
      · refine ⟨by rw [hws]; exact lt_of_heap hg, ?_⟩
        rintro (hl | ⟨k, hk1, hk2, hk3⟩)
        · exact hl (by simp [St.dem, hlg])
        · obtain ⟨e1, e2⟩ := hsp2 k (by omega)
          rw [hq1 k e1 e2] at hk1 hk2 hk3
          have := h.spd k r e2 (by omega) hlt (by rw [hk1, hspr])
          rw [hspr] at this; dsimp only at this; omega)
  have h4 := h3.newSpare q (dem_env_ne _ _ hq) (dem_loc_ne _ _ hq) g (off + (xs.length + ys.length) * sz) (off + cap * sz)
    (fun _ => ⟨⟨_, T, hsame, by omega⟩, by simp [St.dem, hlg]⟩)
    (fun k hkq hlt' hk he => by
      obtain ⟨e1, e2⟩ := hsp2 k hk
      rw [hq1 k e1 e2] at hk he ⊢
      have := h.spd k r e2 hk hlt (by rw [he, hspr])
      rw [hspr] at this; dsimp only at this; omega)
    (fun o ho => by
      rcases ho with ho | ho
      · have := hA o ho; omega
      · omega)
  refine ⟨h4, ?_, ?_, .inr (by simp [upd])⟩
  · refine ⟨by rw [hw']; rfl, by rw [hw']; rfl, by rw [hw']; rfl, by rw [hws]; exact Nat.le_refl _, fun b o hb hl => ⟨?_, fun hl' => hl ?_⟩, fun b hb hl => ?_, fun _ _ ha => .inl ha, fun b o ha => ?_⟩
    · by_cases e : b = g
      · subst e
        refine hcell o (fun hh => hl (.inr ⟨r, by rw [hspr]; dsimp only; omega⟩))
      · rw [hw', cell_setRow_other _ _ _ _ _ e]
    · rcases hl' with hl' | ⟨k, hk⟩
      · exact .inl (by intro hn; exact hl' (by simp [St.dem, hn]))
      · by_cases e : k = q
        · subst e; simp only [upd, if_true] at hk
          exact .inr ⟨r, by rw [hspr]; dsimp only; omega⟩
        · simp only [upd, e, if_false] at hk
          split at hk
          · dsimp only at hk; omega
          · exact .inr ⟨k, hk⟩
    · by_cases e : b = g
      · subst e; exact absurd (.inr ⟨r, by rw [hspr]; dsimp only; exact ⟨rfl, Nat.le_refl _, by omega⟩⟩) (hl (off + xs.length * sz))
      · exact hother b e
    · rcases ha with ha | ⟨rfl, h5, h6⟩
      · exact .inl ha
      · exact .inr (.inl (.inr ⟨r, by rw [hspr]; dsimp only; omega⟩))
  · obtain ⟨hsx, hcx, _, _, _, us, hul, huc, hur⟩ := hx.cellsOf
    have hm : ∀ {x v}, RV w A x v → RV w' (fun b o => A b o ∨ (b = g ∧ off + xs.length * sz ≤ o ∧ o < off + (xs.length + ys.length) * sz)) x v :=
      fun hx => hx.mono fun b o v ha hv => ⟨hcellA b o v ha hv, .inl ha⟩
    have := RV.slice_of (w := w') (A := fun b o => A b o ∨ (b = g ∧ off + xs.length * sz ≤ o ∧ o < off + (xs.length + ys.length) * sz)) (sz := sz) (xs := xs ++ ys) (own := q) (b := g) (off := off) (cap := cap) (us ++ news)
      (fun x hx => (List.mem_append.1 hx).elim (hsx x) (hsy x)) (fun x hx => (List.mem_append.1 hx).elim (hcx x) (hcy x)) (by simpa using hcap) (by simpa using hlen) (by simp; omega) (fun j u hj => ?_) (fun i => ?_)
    · rw [List.length_append] at this; exact this
    · by_cases hjl : j < us.length
      · rw [List.getElem?_append_left hjl] at hj
        have := huc j u hj
        exact ⟨hcellA _ _ _ this.2 this.1, .inl this.2⟩
      · rw [List.getElem?_append_right (by omega)] at hj
        have hj' := (List.getElem?_eq_some_iff.1 hj).1
        have := hnew _ u hj
        rw [hul] at this
        have e : off + xs.length * sz + (j - xs.length * sz) = off + j := by omega
        rw [e] at this
        exact ⟨this, .inr ⟨rfl, by omega, by omega⟩⟩
    · rw [append_getD, flat_len sz xs hsx]
      split
      · have := hm (hur i)
        rw [List.getD_eq_getElem?_getD (l := us ++ news), List.getElem?_append_left (by omega)]
        rw [List.getD_eq_getElem?_getD (l := us)] at this
        exact this
      · have := hm (hry (i - xs.length * sz))
        rw [List.getD_eq_getElem?_getD (l := us ++ news), List.getElem?_append_right (by omega), hul]
        rw [List.getD_eq_getElem?_getD (l := news)] at this
        exact this

theorem RV.drew {x : AV} {v : Value} (h : RV w A x v) : RV w.drew A x v := RV.mono (w := w) (w' := w.drew) (A := A) (A' := A) (fun _ _ _ ha hv => ⟨hv, ha⟩) h

theorem RV.oneCells {ys : List AV} (hcy : ∀ x ∈ ys, x.cells.all AV.cell1 = true) {news : List Value} (hl : news.length = (ys.flatMap AV.cells).length)
    (hry : ∀ i, RV w A ((ys.flatMap AV.cells).getD i .any) (news.getD i undef)) : ∀ u ∈ news, u.oneCell' = true := by
  intro u hu
  obtain ⟨i, hi, rfl⟩ := List.getElem_of_mem hu
  have h1 := hry i
  rw [List.getD_eq_getElem?_getD, List.getD_eq_getElem?_getD, List.getElem?_eq_getElem (by omega), List.getElem?_eq_getElem hi] at h1
  exact h1.oneCell (flat_all ys hcy _ (by simp))

theorem s_app {t e : TypeId} {i : TypeInfo} {z : Value} {x y : Operand} {mx my : MArg} (hop : o.op = .call { callee := .builtin .append, args := #[x, y], argTypes := #[t, t] }) (hd : o.dst = some d) (hN : d < N)
    (hx : argOf x = some mx) (hy : argOf y = some my) (ht : P.underlying t = some (.slice e)) (hi : P.info? e = some i) (hz : i.zero = some z) (hzs : z.cells.size = i.size) (hs0 : 0 < i.size)
    (h : RS N s a w A sp) (hv : vc1 P (.app d mx my i.size i.bytes) s K) (hn : Next s w A sp N K next) : o.wp P a w next Q := by
  have h1 := argOf_sound h hx
  have h2 := (argOf_sound h hy).1
  have hex : ∀ v w', (Builtin.append_ #[t, t] o.type #[a.eval x, a.eval y]).run P w = .ok v w' → (execOp a.eval o).run P w = .ok (.value v) w' := by
    intro v w' hr
    simp [execOp, hop, resolve, invoke, builtin, hr]
  simp only [vc1] at hv
  split at hv
  · rename_i szx xs r szy ys r2 e1 e2
    obtain ⟨hr0, hsx, hsy, hbytes, hlen, hK⟩ := hv
    rw [e1] at h1; rw [e2] at h2
    subst hsx
    have hY := h2.slice_sz hsy
    have hq : d + 1 ≠ 0 := by omega
    have hev2 : Ev w A (live s.loc sp) w A (live ((s.dem r).dem (d + 1)).loc (upd (upd sp r (0, 0, 0)) (d + 1) (0, 0, 0))) := (Ev.dem r).trans (Ev.dem (d + 1))
    have hR := (h.dem r).dem (d + 1)
    have hbig : ∀ n : Nat, n ≤ 140737488355328 → n ≤ maxLen := by unfold maxLen; omega
    -- nothing is appended
    have hzero : ∀ base yb n cap c, a.eval x = .slice base n cap → a.eval y = .slice yb 0 c → n ≤ cap → ys = [] → o.wp P a w next Q := by
      intro base yb n cap c ex ey hnc hys
      subst hys
      rw [List.append_nil] at hK
      refine fin' (h.rename r (d + 1) hq) (.same fun b o => live_rename r (d + 1)) hd hN (hex _ _ (by rw [ex, ey]; exact run_append_zero t e o.type i ht hi base yb n cap c hnc)) (x := .slice i.size xs (d + 1)) ?_ ?_ hK hn
      · rw [← ex]; exact h1.1.own
      · rcases own_sp hr0 h1.2 h1.1 with e3 | ⟨b, off, cap', e3, _, e4⟩
        · rw [ex] at e3; injection e3 with e3 e5 e6; subst e3; trivial
        · rw [ex] at e3; injection e3 with e3 e5 e6; subst e3; subst e5; subst e6
          exact .inr (by simp [upd, e4])
    generalize hvy : a.eval y = vy at hY hzero
    cases hY with
    | nils =>
      rcases own_sp hr0 h1.2 h1.1 with e3 | ⟨b, off, cap, e3, hc, _⟩
      · exact hzero _ _ _ _ _ e3 rfl (Nat.le_refl _) rfl
      · exact hzero _ _ _ _ _ e3 rfl hc rfl
    | slice _ _ _ b' off' cap' vs' hszy h1cy hcapy hleny hcy hry =>
      have hYc := (RV.slice (w := w) (A := A) i.size ys r2 b' off' cap' vs' hszy h1cy hcapy hleny hcy hry).cellsOf
      obtain ⟨_, _, _, _, _, news, hnl, hnc, hnr⟩ := hYc
      by_cases hys : ys = []
      · subst hys
        rcases own_sp hr0 h1.2 h1.1 with e3 | ⟨b, off, cap, e3, hc, _⟩
        · exact hzero _ _ _ _ _ e3 rfl (Nat.le_refl _) rfl
        · exact hzero _ _ _ _ _ e3 rfl hc rfl
      · have hyl : 0 < ys.length := List.length_pos_iff.2 hys
        have hne : 0 < ys.length * i.size := Nat.mul_pos hyl hs0
        have hone := RV.oneCells h1cy (by rw [hnl, flat_len i.size ys hszy]) hnr
        have hnews : ∀ j u, news[j]? = some u → w.cell? ((⟨b', off', none⟩ : Addr).add j) = some u := fun j u hj => by rw [Addr.add_lit']; exact (hnc j u hj).1
        rcases own_sp hr0 h1.2 h1.1 with e3 | ⟨b, off, cap, e3, hc, hsp⟩
        · -- a nil slice: a new row
          have hxs : xs = [] := by
            have := h1.1; rw [e3] at this; cases this; rfl
          subst hxs
          have hrun := run_append_nil (P := P) w t o.type e i z ht hi hz ⟨b', off', none⟩ ys.length cap' news hnl hnews hyl (by simp at hlen; omega) (by simp at hbytes; omega)
          obtain ⟨A', sp', g1, g2, g3, g4⟩ := app_new hR.drew (xs := []) (ys := ys) (sz := i.size) e [] news (Builtin.zeroCells z.cells (grownCap w ys.length 0 e - ys.length)).toList (d + 1) (grownCap w ys.length 0 e) hq
            (dem_env_ne _ _ hq) (dem_loc_ne _ _ hq) (by simp) hszy (by simp) h1cy (by simp) hnl (by simp; exact .any _) (fun k => (hnr k).drew) (by simp; exact grownCap_ge w _ _ _) (by simp [Builtin.zeroCells, hzs]) (by simpa using hlen)
          simp only [List.length_nil, Nat.zero_add, List.nil_append] at g1 g2 g3 g4 hK
          refine fin' g1 ((hev2.trans (Ev.drew _)).trans g2) hd hN (hex _ _ ?_) g3 g4 hK hn
          rw [e3, hvy, hrun]
          congr 2
          rw [← Array.toList_inj.1 (show (news ++ (Builtin.zeroCells z.cells (grownCap w ys.length 0 e - ys.length)).toList).toArray.toList = (news.toArray ++ Builtin.zeroCells z.cells (grownCap w ys.length 0 e - ys.length)).toList by simp)]
        · by_cases hroom : xs.length + ys.length ≤ cap
          · -- in place
            have hX := h1.1
            rw [e3] at hX
            obtain ⟨cur, T, A', sp', g1, g2, g3⟩ := app_room h (d + 1) hq hX hsp news hszy h1cy hnl hne hnr hroom hlen
            have hrun := run_append_room' (P := P) (w := w) t o.type e i ht hi b off xs.length cap cur T g1 ⟨b', off', none⟩ ys.length cap' news hnl hnews hone hroom g2
            obtain ⟨g4, g5, g6, g7⟩ := g3 _ rfl
            exact fin' g4 g5 hd hN (hex _ _ (by rw [e3, hvy]; exact hrun)) g6 g7 hK hn
          · -- a new row
            have hX := h1.1
            rw [e3] at hX
            obtain ⟨hszx, h1cx, _, _, _, olds, hol, hoc, hor⟩ := hX.cellsOf
            have holds : ∀ j u, olds[j]? = some u → w.cell? ((⟨b, off, none⟩ : Addr).add j) = some u := fun j u hj => by rw [Addr.add_lit']; exact (hoc j u hj).1
            have hrun := run_append_grow (P := P) w t o.type e i z ht hi hz ⟨b, off, none⟩ xs.length cap olds hol holds ⟨b', off', none⟩ ys.length cap' news hnl hnews (by omega) (by omega) (growslice_fits (by omega) hbytes)
            obtain ⟨A', sp', g1, g2, g3, g4⟩ := app_new hR.drew (xs := xs) (ys := ys) (sz := i.size) e olds news (Builtin.zeroCells z.cells (grownCap w (xs.length + ys.length) cap e - (xs.length + ys.length))).toList (d + 1) (grownCap w (xs.length + ys.length) cap e) hq
              (dem_env_ne _ _ hq) (dem_loc_ne _ _ hq) hszx hszy h1cx h1cy hol hnl (fun k => (hor k).drew) (fun k => (hnr k).drew) (grownCap_ge w _ _ _) (by simp [Builtin.zeroCells, hzs]) hlen
            refine fin' g1 ((hev2.trans (Ev.drew _)).trans g2) hd hN (hex _ _ ?_) g3 g4 hK hn
            rw [e3, hvy, hrun]
            congr 2
            rw [← Array.toList_inj.1 (show (olds ++ news ++ (Builtin.zeroCells z.cells (grownCap w (xs.length + ys.length) cap e - (xs.length + ys.length))).toList).toArray.toList = (olds.toArray ++ news.toArray ++ Builtin.zeroCells z.cells (grownCap w (xs.length + ys.length) cap e - (xs.length + ys.length))).toList by simp)]
  · exact hv.elim

end
end Go.Avm
