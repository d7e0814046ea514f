/- The resolved operations are sound. -/
import Derived.Test.YtcfeipphmklakaaAvm13b
namespace Go.Avm
open Go.RowKit

section
variable {P : Program} {N : Nat} {s : St} {a : Act} {w : World} {A : Area} {sp : Sp} {K : St → Prop} {next : Act → World → Prop} {Q : Exit → Act → World → Prop}
  {o : Oper} {d : Nat}

theorem s_slcLo {t e : TypeId} {x lo : Operand} {mx mh : MArg} {sz : Nat} (hop : o.op = .slice t x (some lo) none none) (hd : o.dst = some d) (hN : d < N) (hx : argOf x = some mx) (hy : argOf lo = some mh)
    (ht : P.underlying t = some (.slice e)) (hz : szOf P e = some sz)
    (h : RS N s a w A sp) (hv : vc1 P (.slcLo d mx mh sz) s K) (hn : Next s w A sp N K next) : o.wp P a w next Q := by
  have h1 := (argOf_sound h hx).1
  have h2 := (argOf_sound h hy).1
  simp only [szOf, Option.map_eq_some_iff] at hz
  obtain ⟨inf, hinf, rfl⟩ := hz
  simp only [vc1] at hv
  split at hv
  · rename_i sz' xs own k n e1 e2
    obtain ⟨hs, h0, hl, hK⟩ := hv
    rw [e1] at h1; rw [e2] at h2
    have v2 := h2.inv_int
    have hX := h1.slice_sz hs
    generalize hv0 : a.eval x = v0 at hX
    cases hX with
    | nils =>
      have hn0 : n = 0 := by simp at hl; omega
      subst hn0
      refine fin (v := .slice none 0 0) h hd hN ?_ (by simp; exact .nils _ _) (by simp; trivial) hK hn
      simp [execOp, hop, hv0, v2, Instr.sliceAt, run_underlying ht, Instr.slice, Instr.sliceBounds, Instr.sliceBound, asIntOf, sizeOf, typeInfo, hinf]
    | slice _ _ _ b off cap vs hsz h1c hcap hlen hc hr =>
      have hnn : n.toNat ≤ xs.length := by omega
      have hmul : n.toNat * inf.size ≤ xs.length * inf.size := Nat.mul_le_mul_right _ hnn
      have hfl : (xs.drop n.toNat).length = xs.length - n.toNat := by simp
      have hrun : ∃ a', (execOp a.eval o).run P w = .ok (.value (.slice (some a') (xs.length - n.toNat) (cap - n.toNat))) w ∧ (n.toNat < cap → a' = ⟨b, off + n.toNat * inf.size, none⟩) ∧ ∃ off', a' = ⟨b, off', none⟩ := by
        refine ⟨if cap = n.toNat then ⟨b, off, none⟩ else (⟨b, off, none⟩ : Addr).add (n.toNat * inf.size), ?_, fun hlt => by rw [if_neg (by omega), Addr.add_lit'], ?_⟩
        · by_cases hcn : cap = n.toNat <;> simp [execOp, hop, hv0, v2, Instr.sliceAt, run_underlying ht, Instr.slice, Instr.sliceBounds, Instr.sliceBound, asIntOf, sizeOf, typeInfo, hinf, h0, hl, hcn]
        · split
          · exact ⟨off, rfl⟩
          · exact ⟨_, Addr.add_lit' _ _ _⟩
      obtain ⟨a', hrun, ha1, off', ha2⟩ := hrun
      refine fin h hd hN hrun ?_ (.of_not (by intro _ _ _ hh; injection hh with _ _ hh; exact hh.symm)) hK hn
      rw [ha2, ← hfl]
      refine .slice _ _ _ _ _ _ (fun i => vs (n.toNat * inf.size + i)) (fun y hy => hsz y (List.mem_of_mem_drop hy)) (fun y hy => h1c y (List.mem_of_mem_drop hy)) (by omega) (by omega) (fun i hi => ?_) (fun i => ?_)
      · rw [hfl, Nat.sub_mul] at hi
        have hlt : n.toNat < cap := by
          rcases Nat.lt_or_ge n.toNat xs.length with h5 | h5
          · omega
          · have := Nat.mul_le_mul_right inf.size h5; omega
        have e5 := ha1 hlt
        rw [ha2] at e5; injection e5 with _ e5 _
        rw [e5, Nat.add_assoc]
        exact hc _ (by omega)
      · rw [flatMap_drop AV.cells _ xs _ hsz]
        have := hr (n.toNat * inf.size + i)
        simpa [List.getD_eq_getElem?_getD] using this
  · exact hv.elim

theorem s_strLo {t : TypeId} {x lo : Operand} {mx ml : MArg} (hop : o.op = .slice t x (some lo) none none) (hd : o.dst = some d) (hN : d < N) (ht : P.underlying t = some .string) (hx : argOf x = some mx) (hl : argOf lo = some ml)
    (h : RS N s a w A sp) (hv : vc1 P (.strLo d mx ml) s K) (hn : Next s w A sp N K next) : o.wp P a w next Q := by
  have h1 := (argOf_sound h hx).1
  have h2 := (argOf_sound h hl).1
  simp only [vc1] at hv
  split at hv
  · rename_i u k n e1 e2
    obtain ⟨c1, c2, hK⟩ := hv
    rw [e1] at h1; rw [e2] at h2
    have v2 := h2.inv_int
    generalize hv0 : a.eval x = v0 at h1
    cases h1
    refine fin (v := .string (u.extract n.toNat u.size)) h hd hN ?_ (.lit _ rfl) trivial hK hn
    simp [execOp, hop, hv0, v2, Instr.sliceAt, run_underlying ht, Instr.slice, Instr.sliceBounds, Instr.sliceBound, asIntOf, c1, c2]
  · exact hv.elim

theorem s_cpyS {ts td : TypeId} {x : Operand} {mx : MArg} (hop : o.op = .convert ts td x) (hd : o.dst = some d) (hN : d < N) (hs : P.underlying ts = some .string) (ht : P.underlying td = some .string) (hx : argOf x = some mx)
    (h : RS N s a w A sp) (hv : vc1 P (.cpyS d mx) s K) (hn : Next s w A sp N K next) : o.wp P a w next Q := by
  have h1 := (argOf_sound h hx).1
  simp only [vc1] at hv
  split at hv
  · rename_i st e1
    rw [e1] at h1
    exact fin (v := .string st) h hd hN (by simp [execOp, hop, h1.inv_str, convert, run_underlying hs, run_underlying ht]) (.lit _ rfl) trivial hv hn
  · exact hv.elim

theorem builtin_sound {b : Builtin} {xs : Array Operand} {ts : Array TypeId} {m : MOp} (hop : o.op = .call { callee := .builtin b, args := xs, argTypes := ts }) (hd : o.dst = some d) (hN : d < N)
    (hm : trBuiltin P b d xs.toList ts.toList = some m) (h : RS N s a w A sp) (hv : vc1 P m s K) (hn : Next s w A sp N K next) : o.wp P a w next Q := by
  obtain ⟨xs⟩ := xs
  obtain ⟨ts⟩ := ts
  simp only [] at hm
  unfold trBuiltin at hm
  split at hm
  · -- len
    split at hm
    · injection hm with hm; subst hm
      exact s_lenK hop hd hN (.inl ‹_›) h hv hn
    · simp only [Option.map_eq_some_iff] at hm
      obtain ⟨y, hy, rfl⟩ := hm
      exact s_len hop hd hN hy ‹_› h hv hn
    · simp only [Option.map_eq_some_iff] at hm
      obtain ⟨y, hy, rfl⟩ := hm
      exact s_lenStr hop hd hN hy ‹_› h hv hn
    · split at hm
      · injection hm with hm; subst hm
        exact s_lenK hop hd hN (.inr ⟨_, ‹_›, ‹_›⟩) h hv hn
      · cases hm
    · cases hm
  · -- append
    split at hm
    · rename_i e; subst e
      split at hm
      · split at hm
        · split at hm
          · split at hm
            · rename_i hc
              injection hm with hm; subst hm
              exact s_app hop hd hN ‹_› ‹_› ‹_› ‹_› ‹_› hc.1 hc.2 h hv hn
            · cases hm
          · cases hm
        · cases hm
      · cases hm
    · cases hm
  · -- copy
    split at hm
    · split at hm
      · injection hm with hm; subst hm
        exact s_cpyM hop hd hN ‹_› ‹_› ‹_› ‹_› h hv hn
      · cases hm
    · cases hm
  · split at hm
    · injection hm with hm; subst hm
      exact s_max hop hd hN ‹_› ‹_› h hv hn
    · cases hm
  · split at hm
    · injection hm with hm; subst hm
      exact s_min hop hd hN ‹_› ‹_› h hv hn
    · cases hm
  · cases hm

theorem bin_sound {op : BinOp} {t t' : TypeId} {x y : Operand} {mx my : MArg} {mm : MOp} (hop : o.op = .binOp op t x y t') (hd : o.dst = some d) (hN : d < N) (hx : argOf x = some mx) (hy : argOf y = some my)
    (hm : trBin P d op t mx my = some mm) (h : RS N s a w A sp) (hv : vc1 P mm s K) (hn : Next s w A sp N K next) : o.wp P a w next Q := by
  unfold trBin at hm
  split at hm
  · injection hm with hm; subst hm; exact s_bin hop hd hN hx hy h hv hn
  · injection hm with hm; subst hm; exact s_bin hop hd hN hx hy h hv hn
  · split at hm
    · injection hm with hm; subst hm; exact s_binB hop rfl hd hN hx hy ‹_› h hv hn
    · injection hm with hm; subst hm; exact s_binB hop rfl hd hN hx hy ‹_› h hv hn
    · cases hm
  · cases hm

theorem dst_sound {ann : Ann} {op : Op} {ty : TypeId} {m : MOp} (hop : o.op = op) (hd : o.dst = some d) (hN : d < N)
    (hm : trDst P ann d op ty = some m) (h : RS N s a w A sp) (hv : vc1 P m s K) (hn : Next s w A sp N K next) : o.wp P a w next Q := by
  unfold trDst at hm
  split at hm
  · -- move
    simp only [Option.map_eq_some_iff] at hm
    obtain ⟨y, hy, rfl⟩ := hm
    exact s_cpy hop hd hN hy h hv hn
  · -- assign nil
    injection hm with hm; subst hm
    exact s_asgNil hop hd hN h hv hn
  · -- assign
    simp only [Option.map_eq_some_iff] at hm
    obtain ⟨y, hy, rfl⟩ := hm
    exact s_asg hop hd hN hy h hv hn
  · -- pick
    split at hm
    · injection hm with hm; subst hm
      exact s_pick hop hd hN ‹_› ‹_› ‹_› h hv hn
    · cases hm
  · -- alloc
    split at hm
    · injection hm with hm; subst hm
      exact s_alloc hop hd hN ‹_› h hv hn
    · cases hm
  · -- box
    split at hm
    · split at hm
      · injection hm with hm; subst hm
        split at hv
        · exact s_boxM hop hd hN ‹_› ‹_› h hv hn
        · exact s_boxI hop hd hN ‹_› ‹_› h hv hn
      · cases hm
    · cases hm
  · -- load
    split at hm
    · injection hm with hm; subst hm
      exact s_load hop hd hN ‹_› ‹_› h hv hn
    · cases hm
  · -- fieldAddr
    split at hm
    · split at hm
      · split at hm
        · split at hm
          · cases hm
          · injection hm with hm; subst hm
            exact s_addr hop hd hN ‹_› ‹_› ‹_› ‹_› ‹_› h hv hn
        · cases hm
      · cases hm
    · cases hm
  · -- field
    split at hm
    · split at hm
      · split at hm
        · injection hm with hm; subst hm
          exact s_fld hop hd hN ‹_› ‹_› ‹_› ‹_› h hv hn
        · cases hm
      · cases hm
    · cases hm
  · -- indexAddr
    split at hm
    · simp only [Option.map_eq_some_iff] at hm
      obtain ⟨n, hnn, rfl⟩ := hm
      exact s_idxS hop hd hN ‹_› ‹_› ‹_› hnn h hv hn
    · simp only [Option.map_eq_some_iff] at hm
      obtain ⟨n, hnn, rfl⟩ := hm
      exact s_idxA hop hd hN ‹_› ‹_› ‹_› hnn h hv hn
    · cases hm
  · -- index
    split at hm
    · injection hm with hm; subst hm
      exact s_idxStr hop hd hN ‹_› ‹_› ‹_› h hv hn
    · split at hm
      · injection hm with hm; subst hm
        exact s_idxV hop hd hN ‹_› ‹_› ‹_› ‹_› ‹_› h hv hn
      · cases hm
    · cases hm
  · -- build
    split at hm
    · split at hm
      · split at hm
        · rename_i hall
          simp only [Option.map_eq_some_iff] at hm
          obtain ⟨qs, hq, rfl⟩ := hm
          refine s_buildS hop hd hN ‹_› ‹_› (fun f hf => ?_) hq h hv hn
          have := (List.all_eq_true.1 hall) f hf
          exact Option.isSome_iff_exists.1 this
        · cases hm
      · split at hm
        · split at hm
          · simp only [Option.map_eq_some_iff] at hm
            obtain ⟨qs, hq, rfl⟩ := hm
            exact s_buildA hop hd hN ‹_› ‹_› ‹_› ‹_› hq h hv hn
          · cases hm
        · cases hm
      · cases hm
    · cases hm
  · -- buildSlice
    split at hm
    · split at hm
      · split at hm
        · rename_i hc
          injection hm with hm; subst hm
          simp only [Bool.and_eq_true, decide_eq_true_eq] at hc
          exact s_mkS hop hd hN hc.1.1 ‹_› ‹_› hc.1.2 hc.2 ‹_› h hv hn
        · cases hm
      · cases hm
    · cases hm
  · -- binOp
    split at hm
    · split at hm
      · injection hm with hm; subst hm
        exact bin_sound hop hd hN ‹_› ‹_› ‹_› h hv hn
      · split at hm
        · injection hm with hm; subst hm
          exact s_binA hop rfl hd hN ‹_› ‹_› ‹_› h hv hn
        · injection hm with hm; subst hm
          exact s_binA hop rfl hd hN ‹_› ‹_› ‹_› h hv hn
        · cases hm
    · cases hm
  · simp only [Option.map_eq_some_iff] at hm
    obtain ⟨y, hy, rfl⟩ := hm
    exact s_not hop hd hN hy h hv hn
  · simp only [Option.map_eq_some_iff] at hm
    obtain ⟨y, hy, rfl⟩ := hm
    exact s_neg hop hd hN hy h hv hn
  · -- convert
    split at hm
    · injection hm with hm; subst hm
      exact s_conv hop hd hN ‹_› ‹_› ‹_› h hv hn
    · injection hm with hm; subst hm
      exact s_cpyS hop hd hN ‹_› ‹_› ‹_› h hv hn
    · cases hm
  · simp only [Option.map_eq_some_iff] at hm
    obtain ⟨y, hy, rfl⟩ := hm
    exact s_ext hop hd hN hy h hv hn
  · simp only [Option.map_eq_some_iff] at hm
    obtain ⟨y, hy, rfl⟩ := hm
    exact s_nilchk hop hd hN hy h hv hn
  · -- makeFunc
    split at hm
    · injection hm with hm; subst hm
      exact s_mkfn hop hd hN ‹_› ‹_› h hv hn
    · cases hm
  · split at hm
    · split at hm
      · injection hm with hm; subst hm
        exact s_slcHi hop hd hN ‹_› ‹_› ‹_› ‹_› h hv hn
      · cases hm
    · cases hm
  · split at hm
    · split at hm
      · injection hm with hm; subst hm
        exact s_slcLo hop hd hN ‹_› ‹_› ‹_› ‹_› h hv hn
      · cases hm
    · split at hm
      · injection hm with hm; subst hm
        exact s_strLo hop hd hN ‹_› ‹_› ‹_› h hv hn
      · cases hm
    · cases hm
  · -- makeSlice
    split at hm
    · split at hm
      · split at hm
        · injection hm with hm; subst hm
          exact s_mkM hop hd hN ‹_› ‹_› ‹_› ‹_› ‹_› h hv hn
        · cases hm
      · cases hm
    · cases hm
  · -- call
    rename_i c
    obtain ⟨callee, args, argTypes⟩ := c
    simp only [] at hm
    split at hm
    · exact builtin_sound hop hd hN hm h hv hn
    · simp only [Option.map_eq_some_iff] at hm
      obtain ⟨ms, hms, rfl⟩ := hm
      exact s_call hop hd hN hms h hv hn
    · simp only [Option.map_eq_some_iff] at hm
      obtain ⟨ms, hms, rfl⟩ := hm
      exact s_callv hop hd hN hms h hv hn
    · cases hm
  · cases hm

end
end Go.Avm
