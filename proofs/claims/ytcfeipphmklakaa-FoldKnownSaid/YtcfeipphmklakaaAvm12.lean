/- Each resolved operation is sound: literals of slices, calls. -/
import Derived.Test.YtcfeipphmklakaaAvm11
namespace Go.Avm
open Go.RowKit

section
variable {P : Program} {N : Nat} {s : St} {a : Act} {w : World} {A : Area} {sp : Sp} {K : St → Prop} {next : Act → World → Prop} {Q : Exit → Act → World → Prop}
  {o : Oper} {d : Nat}

theorem flatMap_set (sz : Nat) (xs : List AV) (i : Nat) (y : AV) (h : ∀ x ∈ xs, x.cells.length = sz) (hy : y.cells.length = sz) (hi : i < xs.length) :
    (xs.set i y).flatMap AV.cells = splice (xs.flatMap AV.cells) (i * sz) y.cells := by
  have hset : ∀ x ∈ xs.set i y, x.cells.length = sz := by
    intro x hx
    rcases List.mem_or_eq_of_mem_set hx with hx | rfl
    · exact h x hx
    · exact hy
  have hmul : (i + 1) * sz ≤ xs.length * sz := Nat.mul_le_mul_right _ hi
  rw [Nat.add_mul, Nat.one_mul] at hmul
  have hl1 := flat_len sz xs h
  have hl2 := flat_len sz _ hset
  rw [List.length_set] at hl2
  apply List.ext_getElem?
  intro j
  by_cases hj : j < xs.length * sz
  · have key : ((xs.set i y).flatMap AV.cells).getD j .any = (splice (xs.flatMap AV.cells) (i * sz) y.cells).getD j .any := by
      rw [splice_getD _ _ _ _ (by omega), hy]
      have hsz0 : 0 < sz := by
        rcases Nat.eq_zero_or_pos sz with e | e
        · subst e; simp at hj
        · exact e
      have ej : j = j / sz * sz + j % sz := by rw [Nat.mul_comm]; exact (Nat.div_add_mod j sz).symm
      have hq : j / sz < xs.length := Nat.div_lt_of_lt_mul (by rw [Nat.mul_comm]; exact hj)
      have hm := Nat.mod_lt j hsz0
      have e1 := flatMap_at AV.cells sz (xs.set i y) (j / sz) hset (by simpa using hq) (j % sz) .any .any hm
      have e2 := flatMap_at AV.cells sz xs (j / sz) h hq (j % sz) .any .any hm
      rw [← ej] at e1 e2
      rw [e1]
      by_cases hji : j / sz = i
      · rw [if_pos (by rw [← hji]; omega)]
        have e3 : (xs.set i y).getD (j / sz) .any = y := by rw [List.getD_eq_getElem?_getD, hji, List.getElem?_set_self hi]; rfl
        have e4 : j - i * sz = j % sz := by rw [← hji]; omega
        rw [e3, e4]
      · have hni : ¬ (i * sz ≤ j ∧ j < i * sz + sz) := by
          rintro ⟨h1, h2⟩
          have h3 : i ≤ j / sz := (Nat.le_div_iff_mul_le hsz0).2 h1
          have h4 : j / sz < i + 1 := Nat.div_lt_of_lt_mul (by rw [Nat.mul_comm, Nat.add_mul, Nat.one_mul]; exact h2)
          omega
        rw [if_neg hni, e2]
        have e3 : (xs.set i y).getD (j / sz) .any = xs.getD (j / sz) .any := by
          rw [List.getD_eq_getElem?_getD, List.getElem?_set_ne (by omega), List.getD_eq_getElem?_getD]
        rw [e3]
    simp only [List.getD_eq_getElem?_getD] at key
    rw [List.getElem?_eq_getElem (by omega), List.getElem?_eq_getElem (by rw [splice_len]; omega)] at key ⊢
    simpa using key
  · rw [List.getElem?_eq_none (by omega), List.getElem?_eq_none (by rw [splice_len]; omega)]

theorem fillS_fillK (e : Nat → AV) (sz : Nat) : ∀ (ps : List (Nat × MArg)) (xs : List AV) (k : List AV → Prop), (∀ x ∈ xs, x.cells.length = sz) → (∀ x ∈ xs, x.cells.all AV.cell1 = true) → fillS e sz xs ps k →
    fillK e (xs.flatMap AV.cells) (ps.map fun p => (p.1 * sz, sz, p.2)) (fun cs => ∃ xs', cs = xs'.flatMap AV.cells ∧ xs'.length = xs.length ∧ (∀ x ∈ xs', x.cells.length = sz) ∧ (∀ x ∈ xs', x.cells.all AV.cell1 = true) ∧ k xs')
  | [], xs, k, h1, h2, hk => ⟨xs, rfl, rfl, h1, h2, hk⟩
  | (i, m) :: ps, xs, k, h1, h2, hk => by
    obtain ⟨hl, hc, hi, hk⟩ := hk
    have hmul : (i + 1) * sz ≤ xs.length * sz := Nat.mul_le_mul_right _ hi
    rw [Nat.add_mul, Nat.one_mul] at hmul
    have hy : (m.ev e).erase.cells.length = sz := by rw [cells_erase]; simpa using hl
    have hyc : (m.ev e).erase.cells.all AV.cell1 = true := by
      rw [cells_erase, List.all_map]
      refine List.all_eq_true.2 fun x hx => ?_
      have := (List.all_eq_true.1 hc) x hx
      cases x <;> first | exact this | rfl
    refine ⟨hl, by rw [flat_len sz xs h1]; omega, ?_⟩
    have := fillS_fillK e sz ps (xs.set i (m.ev e).erase) k (fun x hx => (List.mem_or_eq_of_mem_set hx).elim (h1 x) (fun e => e ▸ hy)) (fun x hx => (List.mem_or_eq_of_mem_set hx).elim (h2 x) (fun e => e ▸ hyc)) hk
    rw [flatMap_set sz xs i _ h1 hy hi, cells_erase] at this
    simpa using this

theorem slcParts_ok {e : TypeId} {sz : Nat} (h0 : 0 < sz) : ∀ (ps : List (Nat × Operand)) (qs : List (Nat × MArg)), slcParts P e ps = some qs → PartsOK (fun i => some (i * sz, sz)) ps (qs.map fun p => (p.1 * sz, sz, p.2))
  | [], qs, h => by injection h with h; subst h; trivial
  | (i, x) :: ps, qs, h => by
    simp only [slcParts] at h
    split at h
    · rename_i y ys h1 h2
      injection h with h; subst h
      exact ⟨argS_of h1, rfl, h0, slcParts_ok h0 ps ys h2⟩
    · cases h

theorem replicate_flat (n : Nat) (z : AV) : (List.replicate n z).flatMap AV.cells = (List.replicate n z.cells).flatten := by
  induction n with
  | zero => rfl
  | succ n ih => simp [List.replicate_succ, ih]

theorem rep_getD (z : List Value) (hz : 0 < z.length) (n i : Nat) (hi : i < n * z.length) : (Array.map (fun k => (z.toArray)[k % z.toArray.size]!) (Array.range (n * z.length))).getD i undef = z.getD (i % z.length) undef := by
  have hm := Nat.mod_lt i hz
  simp only [Array.getD_eq_getD_getElem?]
  rw [Array.getElem?_eq_getElem (by simpa using hi)]
  simp [hm, List.getD_eq_getElem?_getD]

theorem s_mkS {t e : TypeId} {len sz : Nat} {ps : Array (Nat × Operand)} {qs : List (Nat × MArg)} {z : List AV} (hop : o.op = .buildSlice t len ps) (hd : o.dst = some d) (hN : d < N)
    (hz : okZero P e z = true) (ht : P.underlying t = some (.slice e)) (hsz : szOf P e = some sz) (h0 : 0 < sz) (hbig : len * sz ≤ 16777216) (hq : slcParts P e ps.toList = some qs)
    (h : RS N s a w A sp) (hv : vc1 P (.mkS d len sz z qs) s K) (hn : Next s w A sp N K next) : o.wp P a w next Q := by
  obtain ⟨i, v, hi, hz, hs, hzl, hr, hc⟩ := okZero_sound (w := w) (A := A) hz
  simp only [szOf, Option.map_eq_some_iff] at hsz
  obtain ⟨inf, hinf, rfl⟩ := hsz
  rw [hi] at hinf; injection hinf with hinf; subst hinf
  -- the zero element
  have hz1 : (if i.size = 1 then z.getD 0 .any else .agg z).cells = z := by
    split
    · rename_i e1
      match z, (show z.length = 1 by omega), hc with
      | [x], _, hc =>
        have := (hc x (by simp)).1
        simp only [List.getD_eq_getElem?_getD, List.getElem?_cons_zero, Option.getD_some]
        cases x <;> first | rfl | cases this
    · rfl
  generalize hze : (if i.size = 1 then z.getD 0 AV.any else AV.agg z) = ze at hz1
  have hzc : ze.cells.all AV.cell1 = true := by rw [hz1]; exact List.all_eq_true.2 fun x hx => (hc x hx).1
  simp only [vc1, hze] at hv
  have hrep1 : ∀ x ∈ List.replicate len ze, x.cells.length = i.size := by intro x hx; rw [List.eq_of_mem_replicate hx, hz1, hzl]
  have hrep2 : ∀ x ∈ List.replicate len ze, x.cells.all AV.cell1 = true := by intro x hx; rw [List.eq_of_mem_replicate hx]; exact hzc
  have hk := fillS_fillK s.env i.size qs (List.replicate len ze) _ hrep1 hrep2 hv
  -- the cells before the parts are laid
  have hvz : v.cells.size = i.size := by omega
  have hflat : ((List.replicate len ze).flatMap AV.cells).length = len * i.size := by rw [flat_len i.size _ hrep1]; simp
  have hcell0 : ∀ k, RV w A (((List.replicate len ze).flatMap AV.cells).getD k .any) ((Array.map (fun k => v.cells[k % v.cells.size]!) (Array.range (len * i.size))).getD k undef) := by
    intro k
    by_cases hk : k < len * i.size
    · have hkd : k / i.size < len := Nat.div_lt_of_lt_mul (by rw [Nat.mul_comm]; exact hk)
      have e1 := flatMap_at AV.cells i.size (List.replicate len ze) (k / i.size) hrep1 (by simpa using hkd) (k % i.size) .any .any (Nat.mod_lt _ h0)
      have ek : k / i.size * i.size + k % i.size = k := by rw [Nat.mul_comm]; exact Nat.div_add_mod k i.size
      rw [ek] at e1
      rw [e1]
      have e2 : (List.replicate len ze).getD (k / i.size) .any = ze := by
        rw [List.getD_eq_getElem?_getD, List.getElem?_replicate, if_pos hkd]; rfl
      rw [e2, hz1]
      have e3 := rep_getD v.cells.toList (by simpa [hvz] using h0) len k (by simpa [hvz] using hk)
      simp only [Array.length_toList, Array.toArray_toList, hvz] at e3
      rw [hvz, e3]
      have := hr (k % i.size)
      simpa [List.getD_eq_getElem?_getD, Array.getD_eq_getD_getElem?] using this
    · rw [List.getD_eq_getElem?_getD, List.getElem?_eq_none (by omega)]; exact .any _
  obtain ⟨cs', vs', g1, g2, g3, xs', rfl, gl, gs, gc, gk⟩ := fill_sound h _ ps.toList _ ((List.replicate len ze).flatMap AV.cells) (Array.map (fun k => v.cells[k % v.cells.size]!) (Array.range (len * i.size))) _ (slcParts_ok h0 _ _ hq) (by simp [hflat]) hcell0 hk
  rw [List.length_replicate] at gl
  have hfl := flat_len i.size xs' gs
  have hq0 : d + 1 ≠ 0 := by omega
  obtain ⟨A', sp', k1, k2, k3, k4⟩ := app_new (h.dem (d + 1)) (xs := xs') (ys := []) (sz := i.size) e vs'.toList [] [] (d + 1) len hq0 (dem_env_ne _ _ hq0) (dem_loc_ne _ _ hq0) gs (by simp) gc (by simp)
    (by simp; omega) (by simp) (fun j => by have := g3 j; simpa [List.getD_eq_getElem?_getD, Array.getD_eq_getD_getElem?] using this) (by simp; exact .any _) (by simp; omega) (by simp [gl]) (by
      simp only [List.length_nil, Nat.add_zero, gl]
      have : len * 1 ≤ len * i.size := Nat.mul_le_mul_left _ h0
      omega)
  simp only [List.append_nil, Array.toArray_toList, List.length_nil, Nat.add_zero] at k1 k2 k3 k4
  rw [gl] at k3 k4
  refine fin' k1 ((Ev.dem (d + 1)).trans k2) hd hN ?_ k3 k4 gk hn
  have hpe : (ps.map fun x => (x.1, a.eval x.2)).toList = ps.toList.map fun p => (p.1, a.eval p.2) := by simp
  have hnb : ¬ (len * i.size > 2 ^ 24) := by omega
  by_cases hl0 : len * i.size = 0
  · have hl00 : len = 0 := by rcases Nat.mul_eq_zero.1 hl0 with e | e; exact e; omega
    subst hl00
    have e0 : Array.map (fun k => v.cells[k % v.cells.size]!) (Array.range (0 * i.size)) = #[] := by simp
    rw [e0] at g1
    have hb : (Instr.buildSlice t 0 (ps.map fun x => (x.1, a.eval x.2))).run P w = .ok (.slice (some ⟨w.heap.size, 0, none⟩) 0 0) (w.alloc (.cells vs' e)) := by
      unfold Instr.buildSlice
      simp only [sizeOf, typeInfo, Sem.run_bind, run_program, Result.andThen_ok, hi, Sem.run_pure, run_underlying ht, hpe, Nat.zero_mul, Nat.not_lt_zero, gt_iff_lt, if_false, if_true]
      have e1 : Array.map (fun k => (#[] : Array Value)[k % (#[] : Array Value).size]!) (Array.range 0) = #[] := by simp
      rw [e1, g1]
      rfl
    simp only [execOp, hop, Sem.run_bind, hb, Result.andThen_ok, Sem.run_pure]
  · simp only [execOp, hop, Instr.buildSlice, zeroValue, sizeOf, typeInfo, Sem.run_bind, run_program, Result.andThen_ok, hi, hz, Sem.run_pure, run_underlying ht, hpe, hnb, if_false, hl0, g1, newRow, run_newObj]
    rfl

end
end Go.Avm
