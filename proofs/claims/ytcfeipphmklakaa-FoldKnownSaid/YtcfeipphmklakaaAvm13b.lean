/- Each resolved operation is sound: a slice is made; a slice is copied into a mutable one. -/
import Derived.Test.YtcfeipphmklakaaAvm13
import Derived.Laws.MakeOwn
import Derived.Laws.CopyRow
namespace Go.Avm
open Go.RowKit

section
variable {P : Program} {N : Nat} {s : St} {a : Act} {w : World} {A : Area} {sp : Sp} {K : St → Prop} {next : Act → World → Prop} {Q : Exit → Act → World → Prop}
  {o : Oper} {d : Nat}

theorem flat_rep (z : List AV) : ∀ (n i : Nat), (List.replicate n z).flatten.getD i .any = if i < n * z.length then z.getD (i % z.length) .any else .any
  | 0, i => by simp
  | n + 1, i => by
    rw [List.replicate_succ, List.flatten_cons]
    by_cases h : i < z.length
    · rw [if_pos (by rw [Nat.add_mul]; omega), Nat.mod_eq_of_lt h]
      simp only [List.getD_eq_getElem?_getD]
      rw [List.getElem?_append_left h]
    · have h' : z.length ≤ i := by omega
      have := flat_rep z n (i - z.length)
      simp only [List.getD_eq_getElem?_getD] at this ⊢
      rw [List.getElem?_append_right h', this]
      have e1 : (i - z.length) % z.length = i % z.length := by
        conv => rhs; rw [← Nat.sub_add_cancel h', Nat.add_mod_right]
      rw [e1]
      by_cases h2 : i < (n + 1) * z.length
      · rw [if_pos h2, if_pos (by rw [Nat.add_mul] at h2; omega)]
      · rw [if_neg h2, if_neg (by rw [Nat.add_mul] at h2; omega)]

theorem flat_rep_len (z : List AV) (n : Nat) : (List.replicate n z).flatten.length = n * z.length := by
  induction n with
  | zero => simp
  | succ n ih => rw [List.replicate_succ, List.flatten_cons, List.length_append, ih, Nat.add_mul]; omega

theorem s_mkM {t e : TypeId} {l c : Operand} {ml mc : MArg} {i : TypeInfo} {z : List AV} (hop : o.op = .makeSlice t l c) (hd : o.dst = some d) (hN : d < N) (ht : P.underlying t = some (.slice e)) (hi : P.info? e = some i)
    (hl : argOf l = some ml) (hc : argOf c = some mc) (hz : okZero P e z = true)
    (h : RS N s a w A sp) (hv : vc1 P (.mkM d ml mc i.size i.bytes z) s K) (hn : Next s w A sp N K next) : o.wp P a w next Q := by
  obtain ⟨i', v, hi', hzv, hs, hsz, hr, hc1⟩ := okZero_sound (w := w) (A := A) hz
  rw [hi] at hi'; injection hi' with hi'; subst hi'
  have h1 := (argOf_sound h hl).1
  have h2 := (argOf_sound h hc).1
  simp only [vc1] at hv
  split at hv
  · rename_i n c e1 e2
    obtain ⟨c1, c2, c3, c4, c5, hK⟩ := hv
    rw [e1] at h1; rw [e2] at h2
    have v1 := h1.inv_int; have v2 := h2.inv_int
    have hcell : ∀ k, RV w A ((List.replicate c.toNat z).flatten.getD k .any) ((madeCells v.cells (c.toNat * i.size)).getD k undef) ∧ OwnOK sp ((List.replicate c.toNat z).flatten.getD k .any) ((madeCells v.cells (c.toNat * i.size)).getD k undef) := by
      intro k
      rw [flat_rep]
      split
      · rename_i hk
        have hz0 : 0 < z.length := by
          rcases Nat.eq_zero_or_pos z.length with e | e
          · rw [e] at hk; simp at hk
          · exact e
        have e3 : (madeCells v.cells (c.toNat * i.size)).getD k undef = v.cells.getD (k % z.length) undef := by
          have hm : k % z.length < v.cells.size := by rw [hs]; exact Nat.mod_lt _ hz0
          unfold madeCells
          rw [Array.getD_eq_getD_getElem?, Array.getElem?_map, Array.getElem?_range, if_pos (by rw [← hsz]; exact hk)]
          simp only [Option.map_some, Option.getD_some]
          rw [Array.getD_eq_getD_getElem?, ← hs, Array.getElem?_eq_getElem (by rw [hs]; rw [hs] at hm; exact hm), getElem!_pos _ _ (by rw [hs]; rw [hs] at hm; exact hm)]
          rfl
        rw [e3]
        exact ⟨hr _, getD_cell1 hc1 _⟩
      · exact ⟨.any _, trivial⟩
    refine fin' (h.allocM (cs := (List.replicate c.toNat z).flatten) e (by rw [size_madeCells, flat_rep_len, hsz]) hcell) (RS.evAllocM _ _) hd hN ?_ (.mslice w.heap.size 0 n.toNat c.toNat i.size (by omega)) trivial (hK _ h.fresh) hn
    have := run_make (P := P) w t e i v ht hi hzv .i64 .i64 n c c1 c2 (by rw [Int.mul_comm]; omega) (by omega)
    simp [execOp, hop, v1, v2, this]
  · exact hv.elim

theorem copy_run {dT sT ty e : TypeId} {i : TypeInfo} {b off dLen dCap : Nat} {sb : Option Addr} {sLen sCap : Nat} {cur : Array Value} {T : TypeId} {cs : List Value} (ht : P.underlying dT = some (.slice e)) (hi : P.info? e = some i)
    (hg : w.heap[b]? = some (.cells cur T (0, 0))) (hn : cs.length = Nat.min sLen dLen * i.size) (hsrc : ∀ q, sb = some q → ∀ j v, cs[j]? = some v → w.cell? (q.add j) = some v) (hsb : sb = none → cs = [])
    (hfit : off + cs.length ≤ cur.size) (h1 : ∀ v ∈ cs, v.oneCell' = true) :
    (Builtin.copy_ #[dT, sT] ty #[.slice (some ⟨b, off, none⟩) dLen dCap, .slice sb sLen sCap]).run P w = .ok (goInt (Nat.min sLen dLen)) (w.setRow b (cur.toList.take off ++ cs ++ cur.toList.drop (off + cs.length)).toArray) := by
  have hst := run_storeCells_at P b off T cs 0 cur w hg (by simpa using hfit) h1
  simp only [Nat.add_zero] at hst
  cases sb with
  | none =>
    have := hsb rfl
    subst this
    simp only [List.append_nil, List.length_nil, Nat.add_zero] at hst hn ⊢
    have hcap : ∀ c, (Builtin.firstCells i.size (Nat.min sLen dLen) (.slice none sLen c)).run P w = .ok #[] w := by
      intro c; simp [Builtin.firstCells]
    simp [Builtin.copy_, run_underlying ht, Builtin.lenOf, sizeOf, typeInfo, hi, hcap, hst]
  | some q =>
    have hl := run_firstCells_some (P := P) w i.size (Nat.min sLen dLen) q sLen sCap cs hn (hsrc q rfl)
    simp [Builtin.copy_, run_underlying ht, Builtin.lenOf, sizeOf, typeInfo, hi, hl, hst]

theorem s_cpyM {t t' e : TypeId} {i : TypeInfo} {x y : Operand} {mx my : MArg} (hop : o.op = .call { callee := .builtin .copy, args := #[x, y], argTypes := #[t, t'] }) (hd : o.dst = some d) (hN : d < N)
    (hx : argOf x = some mx) (hy : argOf y = some my) (ht : P.underlying t = some (.slice e)) (hi : P.info? e = some i)
    (h : RS N s a w A sp) (hv : vc1 P (.cpyM d mx my i.size) s K) (hn : Next s w A sp N K next) : o.wp P a w next Q := by
  have h1 := (argOf_sound h hx).1
  have h2 := (argOf_sound h hy).1
  have hex : ∀ v w', (Builtin.copy_ #[t, t'] o.type #[a.eval x, a.eval y]).run P w = .ok v w' → (execOp a.eval o).run P w = .ok (.value v) w' := by
    intro v w' hr
    simp [execOp, hop, resolve, invoke, builtin, hr]
  simp only [vc1] at hv
  split at hv
  · rename_i b off len cap sz' sz2 ys r e1 e2
    split at hv
    · rename_i cs hb
      obtain ⟨rfl, hs2, hoff, hK⟩ := hv
      rw [e1] at h1; rw [e2] at h2
      obtain ⟨vs, T, hh, hsz, hr⟩ := h.loc b cs hb
      generalize hv0 : a.eval x = v0 at h1 hex
      cases h1 with
      | mslice _ _ _ _ _ hlc =>
        have hY := h2.slice_sz hs2
        generalize hv1 : a.eval y = v1 at hY hex
        -- what is copied
        have main : ∀ (sb : Option Addr) (cp : Nat) (us : List Value), us.length = ys.length * i.size → (∀ q, sb = some q → ∀ j v, us[j]? = some v → w.cell? (q.add j) = some v) → (sb = none → us = []) →
            (∀ j, RV w A ((ys.flatMap AV.cells).getD j .any) (us.getD j undef)) → (∀ x ∈ ys, x.cells.length = i.size) → (∀ x ∈ ys, x.cells.all AV.cell1 = true) → v1 = .slice sb ys.length cp → o.wp P a w next Q := by
          intro sb cp us hul husrc husb hur hysz hy1 he
          subst he
          have hmin : Nat.min ys.length len ≤ ys.length := Nat.min_le_left _ _
          have hmul : Nat.min ys.length len * i.size ≤ ys.length * i.size := Nat.mul_le_mul_right _ hmin
          have hmul2 : Nat.min ys.length len * i.size ≤ len * i.size := Nat.mul_le_mul_right _ (Nat.min_le_right _ _)
          have hcl : (us.take (Nat.min ys.length len * i.size)).length = Nat.min ys.length len * i.size := by simp; omega
          have hfl : ((ys.take (min ys.length len)).flatMap AV.cells) = (ys.flatMap AV.cells).take (min ys.length len * i.size) := flatMap_take AV.cells i.size ys _ hysz
          have hyl : (ys.flatMap AV.cells).length = ys.length * i.size := flat_len _ _ hysz
          have hyc : ((ys.take (min ys.length len)).flatMap AV.cells).length = Nat.min ys.length len * i.size := by rw [hfl, List.length_take, hyl]; exact Nat.min_eq_left hmul
          have h1c : ∀ v ∈ us.take (Nat.min ys.length len * i.size), v.oneCell' = true := by
            intro v hv
            obtain ⟨k, hk, rfl⟩ := List.getElem_of_mem (List.mem_of_mem_take hv)
            have hk' : k < (ys.flatMap AV.cells).length := by omega
            have h3 := hur k
            rw [List.getD_eq_getElem?_getD, List.getElem?_eq_getElem hk', List.getD_eq_getElem?_getD, List.getElem?_eq_getElem hk] at h3
            refine h3.oneCell ?_
            obtain ⟨z, hz, hz2⟩ := List.mem_flatMap.1 (List.getElem_mem hk')
            exact (List.all_eq_true.1 (hy1 z hz)) _ hz2
          have hrun := copy_run (P := P) (w := w) (dT := t) (sT := t') (ty := o.type) (dLen := len) (dCap := cap) (sb := sb) (sLen := ys.length) (sCap := cp) (off := off) ht hi hh hcl
            (fun q hq j v hj => by
              rw [List.getElem?_take] at hj
              split at hj
              · exact husrc q hq j v hj
              · cases hj) (fun hn => by rw [husb hn]; simp) (by rw [hcl]; omega) h1c
          rw [hcl] at hrun
          have hrow : ∀ k, RV w A ((splice cs off (((ys.take (min ys.length len)).flatMap AV.cells).map AV.erase0)).getD k .any) ((vs.toList.take off ++ us.take (Nat.min ys.length len * i.size) ++ vs.toList.drop (off + Nat.min ys.length len * i.size)).toArray.getD k undef) ∧
              OwnOK sp ((splice cs off (((ys.take (min ys.length len)).flatMap AV.cells).map AV.erase0)).getD k .any) ((vs.toList.take off ++ us.take (Nat.min ys.length len * i.size) ++ vs.toList.drop (off + Nat.min ys.length len * i.size)).toArray.getD k undef) := by
            intro k
            have e := row_getD vs (us.take (Nat.min ys.length len * i.size)) off k (by rw [hcl]; omega)
            rw [hcl] at e
            rw [e, splice_getD _ _ _ _ (by rw [List.length_map, hyc]; omega), List.length_map, hyc]
            split
            · rename_i hk
              rw [getD_erase0, hfl]
              have h3 := hur (k - off)
              have hk2 : k - off < min ys.length len * i.size := by have : min ys.length len = Nat.min ys.length len := rfl; rw [this]; omega
              have e3 : ((ys.flatMap AV.cells).take (min ys.length len * i.size)).getD (k - off) .any = (ys.flatMap AV.cells).getD (k - off) .any := by
                simp only [List.getD_eq_getElem?_getD, List.getElem?_take, hk2, if_true]
              have e4 : (us.take (Nat.min ys.length len * i.size)).getD (k - off) undef = us.getD (k - off) undef := by
                have hk3 : k - off < Nat.min ys.length len * i.size := hk2
                simp only [List.getD_eq_getElem?_getD, List.getElem?_take, hk3, if_true]
              rw [e3, e4]
              exact ⟨h3.erase0, .erase0⟩
            · exact hr k
          refine fin' (h.setRow hb hh ?_ hrow) (RS.evSetRow _ _ hb) hd hN (hex _ _ hrun) (.lit _ rfl) trivial hK hn
          rw [splice_len]
          simp only [List.size_toArray, List.length_append, List.length_take, List.length_drop, Array.length_toList]
          have := hcl
          simp only [List.length_take] at this
          omega
        cases hY with
        | nils => exact main none 0 [] (by simp) (fun q hq => by cases hq) (fun _ => rfl) (fun j => by simp; exact .any _) (by simp) (by simp) rfl
        | slice _ _ _ b' off' cap' vs' hszy h1cy hcapy hleny hcy hry =>
          obtain ⟨g1, g2, _, _, _, us, g3, g4, g5⟩ := (RV.slice (w := w) (A := A) i.size ys r b' off' cap' vs' hszy h1cy hcapy hleny hcy hry).cellsOf
          exact main (some ⟨b', off', none⟩) cap' us g3 (fun q hq j v hj => by injection hq with hq; subst hq; rw [Addr.add_lit']; exact (g4 j v hj).1) (fun e => by cases e) g5 g1 g2 rfl
    · exact hv.elim
  · exact hv.elim

end
end Go.Avm
