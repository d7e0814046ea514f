/- Regions in the text's order. -/
import Derived.Test.YtcfeipphmklakaaAvm14
namespace Go.Avm
open Go.RowKit

section
variable {P : Program} {N : Nat} {s : St} {a : Act} {w : World} {A : Area} {sp : Sp} {K : St → Prop} {next : Act → World → Prop} {Q : Exit → Act → World → Prop}
  {o : Oper} {d : Nat}

theorem op_sound {ann : Ann} {m : MOp} (hm : trOp P ann N o = some m) (h : RS N s a w A sp) (hv : vc1 P m s K) (hn : Next s w A sp N K next) : o.wp P a w next Q := by
  unfold trOp at hm
  split at hm
  · rename_i d hd
    split at hm
    · exact dst_sound rfl hd ‹_› hm h hv hn
    · cases hm
  · rename_i hd
    split at hm
    · rename_i t x hop
      split at hm
      · split at hm
        · rename_i hc
          injection hm with hm; subst hm
          exact s_storeNil hop hd rfl hc.1 hc.2 h hv hn
        · cases hm
      · cases hm
    · rename_i t x y hne hop
      split at hm
      · split at hm
        · rename_i k n y' hz hy hn0
          split at hm
          · injection hm with hm; subst hm
            exact s_storeF hop hd hy hz hn0 h hv hn
          · injection hm with hm; subst hm
            exact s_store hop hd rfl hy hz hn0 h hv hn
        · cases hm
      · cases hm
    · cases hm

theorem undef_rv {w : World} {A : Area} : RV w A (.tuple []) undef := .tuple [] #[] rfl (fun i => by simp; exact .any _)

theorem put_none (a : Act) (v : Value) : a.put none v = a := rfl

/-- One step of a region's list: the operation, if its guard wants it. -/
theorem step_sound {ann : Ann} {ops : Array Oper} {m : MOp} {rest : Act → World → Prop} (hm : trG P ann N ops o = some m) (h : RS N s a w A sp) (hv : vc1 P m s K) (hn : Next s w A sp N K rest) :
    (if Region.wanted o (yielded ops a.tmps) = true then o.wp P a w rest Q ∨ (o.asks P a w ∧ LetsOut Q) else rest (a.put o.dst undef) w) := by
  unfold trG at hm
  split at hm
  · rename_i hg
    have hw : Region.wanted o (yielded ops a.tmps) = true := by simp [Region.wanted, hg]
    rw [if_pos hw]
    exact .inl (op_sound hm h hv hn)
  · rename_i j want hg
    split at hm
    · rename_i g m' hj hm'
      split at hm
      · rename_i hgN
        injection hm with hm; subst hm
        simp only [vc1] at hv
        split at hv
        · rename_i b hb
          have he := (h.env g).1
          rw [hb] at he
          have heb := he.inv_bool
          have hyl : yielded ops a.tmps j = some b := by
            unfold yielded
            rw [hj]
            have : a.tmps[g]? = some (.bool b) := by
              have hlt : g < a.tmps.size := by rw [h.size]; exact hgN
              rw [Array.getD_eq_getD_getElem?, Array.getElem?_eq_getElem hlt] at heb
              rw [Array.getElem?_eq_getElem hlt]
              simpa using heb
            simp [this]
          have hw : Region.wanted o (yielded ops a.tmps) = (b == want) := by
            simp [Region.wanted, hg, hyl]
          by_cases hbw : b = want
          · rw [hw, if_pos (by simpa using hbw)]
            exact .inl (op_sound hm' h (hv.1 hbw) hn)
          · rw [hw, if_neg (by simpa using hbw)]
            have hk := hv.2 (by cases b <;> cases want <;> simp_all)
            cases hd : o.dst with
            | none =>
              rw [hd] at hk
              rw [put_none]
              exact hn _ _ _ _ _ hk h (.refl _ _ _)
            | some d =>
              rw [hd] at hk
              have hdN : d < N := by
                unfold trOp at hm'
                rw [hd] at hm'
                simp only [] at hm'
                split at hm'
                · assumption
                · cases hm'
              exact hn _ _ _ _ _ hk (h.put hdN undef_rv trivial) (.refl _ _ _)
        · rename_i hb
          have he := (h.env g).1
          rw [hb] at he
          have heb : a.tmps.getD g undef = .tuple #[] := by
            generalize a.tmps.getD g undef = v at he
            cases he with
            | tuple _ vs hs hr =>
              have hv0 : vs = #[] := Array.eq_empty_of_size_eq_zero (by simpa using hs)
              rw [hv0]
          have hyl : yielded ops a.tmps j = none := by
            unfold yielded
            rw [hj]
            have : a.tmps[g]? = some (.tuple #[]) := by
              have hlt : g < a.tmps.size := by rw [h.size]; exact hgN
              rw [Array.getD_eq_getD_getElem?, Array.getElem?_eq_getElem hlt] at heb
              rw [Array.getElem?_eq_getElem hlt]
              simpa using heb
            simp [this]
          have hw : Region.wanted o (yielded ops a.tmps) = false := by
            simp [Region.wanted, hg, hyl]
          rw [if_neg (by rw [hw]; simp)]
          cases hd : o.dst with
          | none =>
            rw [hd] at hv
            rw [put_none]
            exact hn _ _ _ _ _ hv h (.refl _ _ _)
          | some d =>
            rw [hd] at hv
            have hdN : d < N := by
              unfold trOp at hm'
              rw [hd] at hm'
              simp only [] at hm'
              split at hm'
              · assumption
              · cases hm'
            exact hn _ _ _ _ _ hv (h.put hdN undef_rv trivial) (.refl _ _ _)
        · exact hv.elim
      · cases hm
    · cases hm

def trList (P : Program) (ann : Ann) (N : Nat) (ops : Array Oper) : List Oper → Option (List MOp)
  | [] => some []
  | o :: os => match trG P ann N ops o, trList P ann N ops os with
    | some m, some ms => some (m :: ms)
    | _, _ => none

theorem list_sound {ann : Ann} {ops : Array Oper} : ∀ (os : List Oper) (ms : List MOp) (s : St) (a : Act) (w : World) (A : Area) (sp : Sp), trList P ann N ops os = some ms →
    RS N s a w A sp → vcs P ms K s → (∀ s' a' w' A' sp', K s' → RS N s' a' w' A' sp' → Ev w A (live s.loc sp) w' A' (live s'.loc sp') → Q .normal a' w') → wpList P ops Q os a w
  | [], ms, s, a, w, A, sp, hm, h, hv, hn => by
    injection hm with hm; subst hm
    exact hn _ _ _ _ _ hv h (.refl _ _ _)
  | o :: os, ms, s, a, w, A, sp, hm, h, hv, hn => by
    simp only [trList] at hm
    split at hm
    · rename_i m ms' h1 h2
      injection hm with hm; subst hm
      exact step_sound h1 h hv fun s' a' w' A' sp' hk hr hev =>
        list_sound os ms' s' a' w' A' sp' h2 hr hk fun s2 a2 w2 A2 sp2 hk2 hr2 hev2 => hn s2 a2 w2 A2 sp2 hk2 hr2 (hev.trans hev2)
    · cases hm
end

end Go.Avm
