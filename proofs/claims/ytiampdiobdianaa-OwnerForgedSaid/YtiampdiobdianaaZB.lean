/- Regions in the text's order. Operations whose order does not matter: those that hand back one value. Operations whose order does not matter: against those that make or write. A region that draws its order. A region that draws its order: the game over all orders, and its rule. A region that draws its order: its rule. What an operation leaves alone: the ghost. Operations inside a round, and beside deferred marks. Two parties over one world: what an outer party holds lasts while the inner one works. Operations on objects that are no cells: iterators over strings, maps. Maps whose keys are integers, or structs of integers. Regions inside the fence, with yields. A mutable slice that is written no more. -/
import Derived.Test.YtiampdiobdianaaZA
import Derived.Orders
import Derived.RangeFuncNested
import Derived.OrdersIn
import Derived.TacticsIn
import Derived.Laws.RangeAny
import Derived.ChangeKeysEq
import Derived.Laws.IdiomRangeMap
namespace Go.Avm
open Go.RowKit

section
variable {P : Program} {N : Nat} {s : St} {a : Act} {w : World} {A : Area} {sp : Sp} {K : St → Prop} {next : Act → World → Prop} {Q : Exit → Act → World → Prop}
  {o : Oper} {d : Nat}

theorem op_sound {ann : Ann} {m : MOp} (hm : trOp P ann N o = some m) (h : RS N s a w A sp) (hv : vc1 P m s K) (hn : Next s w A sp N K next) : o.wp P a w next Q := by
  unfold trOp at hm
  split at hm
  · rename_i d hd
    split at hm
    · exact dst_sound rfl hd ‹_› hm h hv hn
    · cases hm
  · rename_i hd
    split at hm
    · rename_i t x hop
      split at hm
      · split at hm
        · rename_i hc
          injection hm with hm; subst hm
          exact s_storeNil hop hd rfl hc.1 hc.2 h hv hn
        · cases hm
      · cases hm
    · rename_i t x y hne hop
      split at hm
      · split at hm
        · rename_i k n y' hz hy hn0
          split at hm
          · injection hm with hm; subst hm
            exact s_storeF hop hd hy hz hn0 h hv hn
          · injection hm with hm; subst hm
            exact s_store hop hd rfl hy hz hn0 h hv hn
        · cases hm
      · cases hm
    · cases hm

theorem undef_rv {w : World} {A : Area} : RV w A (.tuple []) undef := .tuple [] #[] rfl (fun i => by simp; exact .any _)

theorem put_none (a : Act) (v : Value) : a.put none v = a := rfl

theorem step_sound {ann : Ann} {ops : Array Oper} {m : MOp} {rest : Act → World → Prop} (hm : trG P ann N ops o = some m) (h : RS N s a w A sp) (hv : vc1 P m s K) (hn : Next s w A sp N K rest) :
    (if Region.wanted o (yielded ops a.tmps) = true then o.wp P a w rest Q ∨ (o.asks P a w ∧ LetsOut Q) else rest (a.put o.dst undef) w) := by
  unfold trG at hm
  split at hm
  · rename_i hg
    have hw : Region.wanted o (yielded ops a.tmps) = true := by simp [Region.wanted, hg]
    rw [if_pos hw]
    exact .inl (op_sound hm h hv hn)
  · rename_i j want hg
    split at hm
    · rename_i g m' hj hm'
      split at hm
      · rename_i hgN
        injection hm with hm; subst hm
        simp only [vc1] at hv
        split at hv
        · rename_i b hb
          have he := (h.env g).1
          rw [hb] at he
          have heb := he.inv_bool
          have hyl : yielded ops a.tmps j = some b := by
            unfold yielded
            rw [hj]
            have : a.tmps[g]? = some (.bool b) := by
              have hlt : g < a.tmps.size := by rw [h.size]; exact hgN
              rw [Array.getD_eq_getD_getElem?, Array.getElem?_eq_getElem hlt] at heb
              rw [Array.getElem?_eq_getElem hlt]
              simpa using heb
            simp [this]
          have hw : Region.wanted o (yielded ops a.tmps) = (b == want) := by
            simp [Region.wanted, hg, hyl]
          by_cases hbw : b = want
          · rw [hw, if_pos (by simpa using hbw)]
            exact .inl (op_sound hm' h (hv.1 hbw) hn)
          · rw [hw, if_neg (by simpa using hbw)]
            have hk := hv.2 (by cases b <;> cases want <;> simp_all)
            cases hd : o.dst with
            | none =>
              rw [hd] at hk
              rw [put_none]
              exact hn _ _ _ _ _ hk h (.refl _ _ _)
            | some d =>
              rw [hd] at hk
              have hdN : d < N := by
                unfold trOp at hm'
                rw [hd] at hm'
                simp only [] at hm'
                split at hm'
                · assumption
                · cases hm'
              exact hn _ _ _ _ _ hk (h.put hdN undef_rv trivial) (.refl _ _ _)
        · rename_i hb
          have he := (h.env g).1
          rw [hb] at he
          have heb : a.tmps.getD g undef = .tuple #[] := by
            generalize a.tmps.getD g undef = v at he
            cases he with
            | tuple _ vs hs hr =>
              have hv0 : vs = #[] := Array.eq_empty_of_size_eq_zero (by simpa using hs)
              rw [hv0]
          have hyl : yielded ops a.tmps j = none := by
            unfold yielded
            rw [hj]
            have : a.tmps[g]? = some (.tuple #[]) := by
              have hlt : g < a.tmps.size := by rw [h.size]; exact hgN
              rw [Array.getD_eq_getD_getElem?, Array.getElem?_eq_getElem hlt] at heb
              rw [Array.getElem?_eq_getElem hlt]
              simpa using heb
            simp [this]
          have hw : Region.wanted o (yielded ops a.tmps) = false := by
            simp [Region.wanted, hg, hyl]
          rw [if_neg (by rw [hw]; simp)]
          cases hd : o.dst with
          | none =>
            rw [hd] at hv
            rw [put_none]
            exact hn _ _ _ _ _ hv h (.refl _ _ _)
          | some d =>
            rw [hd] at hv
            have hdN : d < N := by
              unfold trOp at hm'
              rw [hd] at hm'
              simp only [] at hm'
              split at hm'
              · assumption
              · cases hm'
            exact hn _ _ _ _ _ hv (h.put hdN undef_rv trivial) (.refl _ _ _)
        · exact hv.elim
      · cases hm
    · cases hm

end

end Go.Avm

namespace Go.Avm

abbrev Loc := Nat → Option (List AV)

def fillKM (e : MArg → AV) (cs : List AV) : List (Nat × Nat × MArg) → (List AV → Prop) → Prop
  | [], K => K cs
  | (off, n, x) :: ps, K => (e x).cells.length = n ∧ off + n ≤ cs.length ∧ fillKM e (splice cs off ((e x).cells.map AV.erase0)) ps K

theorem fillKM_eq (e : Nat → AV) : ∀ (ps : List (Nat × Nat × MArg)) (cs : List AV) (K : List AV → Prop), fillK e cs ps K = fillKM (fun x => x.ev e) cs ps K
  | [], _, _ => rfl
  | (off, n, x) :: ps, cs, K => by simp only [fillK, fillKM, fillKM_eq e ps]
theorem fillKM_mono (e : MArg → AV) : ∀ (ps : List (Nat × Nat × MArg)) (cs : List AV) (K K' : List AV → Prop), (∀ v, K v → K' v) → fillKM e cs ps K → fillKM e cs ps K'
  | [], _, _, _, h, hv => h _ hv
  | _ :: ps, _, K, K', h, hv => ⟨hv.1, hv.2.1, fillKM_mono e ps _ K K' h hv.2.2⟩
theorem fillKM_det (e : MArg → AV) : ∀ (ps : List (Nat × Nat × MArg)) (cs : List AV) (K : List AV → Prop), fillKM e cs ps K → ∃ v, fillKM e cs ps (· = v) ∧ K v
  | [], cs, K, hv => ⟨cs, rfl, hv⟩
  | (off, n, x) :: ps, cs, K, hv => by
    obtain ⟨v, h1, h2⟩ := fillKM_det e ps _ K hv.2.2
    exact ⟨v, ⟨hv.1, hv.2.1, h1⟩, h2⟩
theorem fillKM_env (e e' : MArg → AV) : ∀ (ps : List (Nat × Nat × MArg)) (cs : List AV) (K : List AV → Prop), (∀ x ∈ ps.map (·.2.2), (e x).cells.length = (e' x).cells.length ∧ (e x).cells.map AV.erase0 = (e' x).cells.map AV.erase0) → fillKM e cs ps K = fillKM e' cs ps K
  | [], _, _, _ => rfl
  | (off, n, x) :: ps, cs, K, h => by
    obtain ⟨h1, h2⟩ := h x (by simp)
    simp only [fillKM, h1, h2, fillKM_env e e' ps _ K (fun y hy => h y (by simp at hy ⊢; exact .inr hy))]

def pv (P : Program) (e : MArg → AV) (l : Loc) : MOp → (AV → Prop) → Prop
  | .cpy _ x, K => K (e x)
  | .cpyE _ x, K => K (e x).erase
  | .cpyS _ x, K => match e x with
    | .lit (.string t) => K (.lit (.string t))
    | _ => False
  | .boxI _ x n, K => (e x).cells.length = n ∧ K (.ref ((e x).cells.map AV.erase0))
  | .load _ x n, K => loadK l (e x) n K
  | .addr _ x off, K => match e x with
    | .ref cs => K (.ref (cs.drop off))
    | .mref b o => K (.mref b (o + off))
    | _ => False
  | .idxS _ x i sz, K => match e x, e i with
    | .slice sz' xs _, .lit (.int _ n) => sz' = sz ∧ 0 ≤ n ∧ n < xs.length ∧ K (.ref (xs.getD n.toNat .any).cells)
    | .mslice b off len _ sz', .lit (.int _ n) => sz' = sz ∧ 0 ≤ n ∧ n < len ∧ K (.mref b (off + n.toNat * sz))
    | _, _ => False
  | .idxA _ x i len sz, K => match e x, e i with
    | .ref cs, .lit (.int _ n) => 0 ≤ n ∧ n < len ∧ K (.ref (cs.drop (n.toNat * sz)))
    | .mref b off, .lit (.int _ n) => 0 ≤ n ∧ n < len ∧ K (.mref b (off + n.toNat * sz))
    | _, _ => False
  | .loadI _ x n, K => match e x with
    | .ref cs => partK cs 0 n fun v => K v.erase
    | _ => False
  | .fld _ x off n, K => match e x with
    | .agg cs => partK cs off n fun v => K v.erase
    | _ => False
  | .idxV _ x i len sz n, K => match e x, e i with
    | .agg cs, .lit (.int _ j) => 0 ≤ j ∧ j < len ∧ partK cs (j.toNat * sz) n fun v => K v.erase
    | _, _ => False
  | .idxStr _ x i, K => match e x, e i with
    | .lit (.string t), .lit (.int _ j) => 0 ≤ j ∧ j < t.size ∧ K (.lit (.int .u8 (t.data.toList.getD j.toNat 0).toNat))
    | _, _ => False
  | .len _ x, K => match e x with
    | .slice _ xs _ => K (.lit (.int .i64 xs.length))
    | .mslice _ _ len _ _ => K (.lit (.int .i64 len))
    | .lit (.slice none 0 0) => K (.lit (.int .i64 0))
    | _ => False
  | .lenStr _ x, K => match e x with
    | .lit (.string t) => K (.lit (.int .i64 t.size))
    | _ => False
  | .lenK _ n, K => K (.lit (.int .i64 n))
  | .bin _ op x y, K => binK op (e x) (e y) K
  | .binB _ neg x y, K => match e x, e y with
    | .lit (.bool a), .lit (.bool b) => K (.lit (.bool (if neg then !(a == b) else a == b)))
    | _, _ => False
  | .build _ z ps, K => fillKM e z ps fun cs => K (.agg cs)
  | .binA _ neg n x y, K => match e x, e y with
    | .agg a, .agg b => a.length = n.length ∧ b.length = n.length ∧ ∃ q, eqCells n a b = some q ∧ K (.lit (.bool (if neg then !q else q)))
    | _, _ => False
  | .not _ x, K => match e x with
    | .lit (.bool a) => K (.lit (.bool (!a)))
    | _ => False
  | .neg _ x, K => match e x with
    | .lit (.int k a) => inK k (0 - a) ∧ K (.lit (.int k (0 - a)))
    | _ => False
  | .conv _ k x, K => match e x with
    | .lit (.int _ a) => K (.lit (.int k (k.wrap a)))
    | _ => False
  | .pick _ c x y, K => match e c with
    | .lit (.bool b) => K (if b then e x else e y)
    | _ => False
  | .ext _ x i, K => match e x with
    | .tuple vs => i < vs.length ∧ K (vs.getD i .any).erase
    | _ => False
  | .maxI _ x y, K => match e x, e y with
    | .lit (.int k a), .lit (.int _ b) => K (.lit (.int k (if b > a then b else a)))
    | _, _ => False
  | .minI _ x y, K => match e x, e y with
    | .lit (.int k a), .lit (.int _ b) => K (.lit (.int k (if b < a then b else a)))
    | _, _ => False
  | .call _ f xs, K => ∃ r, PCall P f (xs.map fun x => (e x).erase) r ∧ K r.erase
  | .callv _ x xs, K => match e x with
    | .func (.func f) first cap => ∃ r, PCall P f (first ++ (xs.map fun x => (e x).erase) ++ cap) r ∧ K r.erase
    | _ => False
  | .nilchk _ x, K => match e x with
    | .ref cs => K (.ref cs)
    | .mref b o => K (.mref b o)
    | _ => False
  | .slcHi _ x hi sz, K => match e x, e hi with
    | .slice sz' xs _, .lit (.int _ n) => (sz' = sz ∨ xs = []) ∧ 0 ≤ n ∧ n ≤ xs.length ∧ K (.slice sz (xs.take n.toNat) 0)
    | _, _ => False
  | .slcLo _ x lo sz, K => match e x, e lo with
    | .slice sz' xs _, .lit (.int _ n) => (sz' = sz ∨ xs = []) ∧ 0 ≤ n ∧ n ≤ xs.length ∧ K (.slice sz (xs.drop n.toNat) 0)
    | _, _ => False
  | .guard g want (some _) m, K => match e (.t g) with
    | .lit (.bool b) => (b = want → pv P e l m K) ∧ (b = (!want) → K (.tuple []))
    | .tuple [] => K (.tuple [])
    | _ => False
  | _, _ => False

def okC : MArg → Bool
  | .t _ => true
  | .c (.slice _ _ r) => r == 0
  | .c (.deep _) => false
  | .c _ => true

def pureOf : MOp → Option (Nat × List MArg)
  | .cpy d x | .cpyE d x | .cpyS d x | .boxI d x _ | .load d x _ | .loadI d x _ | .addr d x _ | .fld d x _ _ | .len d x | .lenStr d x | .not d x | .neg d x | .conv d _ x | .ext d x _ | .nilchk d x => some (d, [x])
  | .idxS d x y _ | .idxA d x y _ _ | .idxV d x y _ _ _ | .idxStr d x y | .bin d _ x y | .binB d _ x y | .maxI d x y | .minI d x y | .slcHi d x y _ | .slcLo d x y _ | .binA d _ _ x y => some (d, [x, y])
  | .build d _ ps => some (d, ps.map (·.2.2))
  | .lenK d _ => some (d, [])
  | .pick d c x y => some (d, [c, x, y])
  | .call d _ xs => some (d, xs)
  | .callv d x xs => some (d, x :: xs)
  | .guard g _ (some d) m => match pureOf m with
    | some (d', xs) => if d' = d then some (d, .t g :: xs) else none
    | none => none
  | _ => none

theorem pv_vc1 (P : Program) : ∀ (m : MOp) (d : Nat) (rd : List MArg), pureOf m = some (d, rd) → ∀ (s : St) (K : St → Prop),
    vc1 P m s K = pv P (fun x => x.ev s.env) s.loc m (fun v => K (s.set d v)) := by
  intro m
  induction m with
  | guard g want d m ih =>
    intro d' rd h s K
    cases d with
    | none => cases h
    | some d =>
      simp only [pureOf] at h
      split at h
      · rename_i d2 xs hm
        split at h
        · rename_i e
          subst e
          injection h with h; injection h with h1 h2; subst h1
          have hg : MArg.ev s.env (.t g) = s.env g := rfl
          simp only [vc1, pv, hg]
          cases s.env g <;> first | rfl | skip
          · rename_i v
            cases v <;> first | rfl | skip
            simp only [ih d2 xs hm s K]
          · rename_i vs
            cases vs <;> rfl
        · cases h
      · cases h
  | build d z ps => intro d' rd h s K; injection h with h; injection h with h1 h2; subst h1; exact fillKM_eq _ _ _ _
  | _ => intro d rd h s K; first | (cases h; done) | (injection h with h; injection h with h1 h2; subst h1; first | rfl | (simp only [vc1, pv]; rfl))

theorem partK_mono {cs : List AV} {off : Nat} {n : Option Nat} {K K' : AV → Prop} (h : ∀ v, K v → K' v) (hv : partK cs off n K) : partK cs off n K' := by
  cases n <;> exact ⟨hv.1, h _ hv.2⟩
theorem partK_det {cs : List AV} {off : Nat} {n : Option Nat} {K : AV → Prop} (hv : partK cs off n K) : ∃ v, partK cs off n (· = v) ∧ K v := by
  cases n <;> exact ⟨_, ⟨hv.1, rfl⟩, hv.2⟩
theorem loadK_mono {l : Loc} {x : AV} {n : Option Nat} {K K' : AV → Prop} (h : ∀ v, K v → K' v) (hv : loadK l x n K) : loadK l x n K' := by
  cases x with
  | ref cs => exact partK_mono (fun v => h _) hv
  | mref b off =>
    simp only [loadK] at hv ⊢
    cases hl : l b with
    | none => rw [hl] at hv; exact hv.elim
    | some cs => rw [hl] at hv; exact partK_mono h hv
  | _ => exact hv.elim
theorem loadK_det {l : Loc} {x : AV} {n : Option Nat} {K : AV → Prop} (hv : loadK l x n K) : ∃ v, loadK l x n (· = v) ∧ K v := by
  cases x with
  | ref cs =>
    obtain ⟨v, h1, h2⟩ := partK_det (K := fun v => K v.erase) hv
    exact ⟨_, show partK cs 0 n (fun u => u.erase = v.erase) from partK_mono (fun u e => by rw [e]) h1, h2⟩
  | mref b off =>
    simp only [loadK] at hv ⊢
    cases hl : l b with
    | none => rw [hl] at hv; exact hv.elim
    | some cs => rw [hl] at hv; exact partK_det hv
  | _ => exact hv.elim
theorem binK_det {op : BinOp} {x y : AV} {K : AV → Prop} (hv : binK op x y K) : ∃ v, binK op x y (· = v) ∧ K v := by
  unfold binK at *
  split at hv
  · split at hv
    · exact ⟨_, ⟨hv.1, rfl⟩, hv.2⟩
    · exact ⟨_, ⟨hv.1, rfl⟩, hv.2⟩
    · obtain ⟨hk, hv⟩ := hv
      rename_i n1 n2
      cases op <;> simp only [binI] at hv ⊢ <;> first
        | exact hv.elim
        | exact ⟨_, ⟨hk, hv.1, hv.2.1, rfl⟩, hv.2.2⟩
        | exact ⟨_, ⟨hk, hv.1, rfl⟩, hv.2⟩
        | exact ⟨_, ⟨hk, rfl⟩, hv⟩
        | exact (n1 rfl).elim
        | exact (n2 rfl).elim
  · cases op <;> simp only [binS] at hv ⊢ <;> first
      | exact hv.elim
      | exact ⟨_, rfl, hv⟩
  · exact hv.elim
theorem binK_mono {op : BinOp} {x y : AV} {K K' : AV → Prop} (h : ∀ v, K v → K' v) (hv : binK op x y K) : binK op x y K' := by
  unfold binK at *
  split at hv
  · split at hv
    · exact ⟨hv.1, h _ hv.2⟩
    · exact ⟨hv.1, h _ hv.2⟩
    · refine ⟨hv.1, ?_⟩
      have hv := hv.2
      rename_i n1 n2
      cases op <;> simp only [binI] at hv ⊢ <;> first
        | exact hv.elim
        | exact ⟨hv.1, hv.2.1, h _ hv.2.2⟩
        | exact ⟨hv.1, h _ hv.2⟩
        | exact h _ hv
        | exact (n1 rfl).elim
        | exact (n2 rfl).elim
  · cases op <;> simp only [binS] at hv ⊢ <;> first
      | exact hv.elim
      | exact h _ hv
  · exact hv.elim

theorem pv_mono (P : Program) (e : MArg → AV) (l : Loc) : ∀ (m : MOp) (K K' : AV → Prop), (∀ v, K v → K' v) → pv P e l m K → pv P e l m K' := by
  intro m
  induction m with
  | guard g want d m ih =>
    intro K K' h hv
    cases d with
    | none => exact hv
    | some d =>
      simp only [pv] at hv ⊢
      split at hv
      · exact ⟨fun hb => ih K K' h (hv.1 hb), fun hb => h _ (hv.2 hb)⟩
      · exact h _ hv
      · exact hv
  | load d x n => intro K K' h hv; exact loadK_mono h hv
  | bin d op x y => intro K K' h hv; exact binK_mono h hv
  | call d f xs => intro K K' h ⟨r, h1, h2⟩; exact ⟨r, h1, h _ h2⟩
  | callv d x xs =>
    intro K K' h hv; simp only [pv] at hv ⊢; split at hv
    · obtain ⟨r, h1, h2⟩ := hv; exact ⟨r, h1, h _ h2⟩
    · exact hv
  | build d z ps => intro K K' h hv; exact fillKM_mono e ps z _ _ (fun _ => h _) hv
  | binA d neg n x y =>
    intro K K' h hv; simp only [pv] at hv ⊢; split at hv
    · obtain ⟨h1, h2, q, h3, h4⟩ := hv; exact ⟨h1, h2, q, h3, h _ h4⟩
    · exact hv
  | loadI d x n =>
    intro K K' h hv; simp only [pv] at hv ⊢; split at hv
    · exact partK_mono (fun v => h _) hv
    · exact hv
  | fld d x off n =>
    intro K K' h hv; simp only [pv] at hv ⊢; split at hv
    · exact partK_mono (fun v => h _) hv
    · exact hv
  | idxV d x i len sz n =>
    intro K K' h hv; simp only [pv] at hv ⊢; split at hv
    · exact ⟨hv.1, hv.2.1, partK_mono (fun v => h _) hv.2.2⟩
    · exact hv
  | _ =>
    intro K K' h hv
    simp only [pv] at hv ⊢ <;> first
      | exact h _ hv
      | exact ⟨hv.1, h _ hv.2⟩
      | (split at hv <;> first | exact hv | exact h _ hv | exact ⟨hv.1, h _ hv.2⟩ | exact ⟨hv.1, hv.2.1, h _ hv.2.2⟩ | exact ⟨hv.1, hv.2.1, hv.2.2.1, h _ hv.2.2.2⟩)
      | exact hv

theorem pv_det (P : Program) (e : MArg → AV) (l : Loc) : ∀ (m : MOp) (K : AV → Prop), pv P e l m K → ∃ v, pv P e l m (· = v) ∧ K v := by
  intro m
  induction m with
  | guard g want d m ih =>
    intro K hv
    cases d with
    | none => exact hv.elim
    | some d =>
      simp only [pv] at hv ⊢
      split at hv
      · rename_i b hb
        by_cases h1 : b = want
        · obtain ⟨v, h2, h3⟩ := ih K (hv.1 h1)
          exact ⟨v, ⟨fun _ => h2, fun h4 => absurd (h1.symm.trans h4) (by cases want <;> decide)⟩, h3⟩
        · have h4 : b = !want := by revert h1; cases b <;> cases want <;> decide
          exact ⟨.tuple [], ⟨fun h5 => absurd h5 h1, fun _ => rfl⟩, hv.2 h4⟩
      · exact ⟨_, rfl, hv⟩
      · exact hv.elim
  | load d x n => intro K hv; exact loadK_det hv
  | bin d op x y => intro K hv; exact binK_det hv
  | call d f xs => intro K ⟨r, h1, h2⟩; exact ⟨_, ⟨r, h1, rfl⟩, h2⟩
  | callv d x xs =>
    intro K hv; simp only [pv] at hv ⊢; split at hv
    · obtain ⟨r, h1, h2⟩ := hv; exact ⟨_, ⟨r, h1, rfl⟩, h2⟩
    · exact hv.elim
  | build d z ps =>
    intro K hv
    obtain ⟨cs, h1, h2⟩ := fillKM_det e ps z _ hv
    exact ⟨.agg cs, fillKM_mono e ps z _ _ (fun _ h => by rw [h]) h1, h2⟩
  | binA d neg n x y =>
    intro K hv; simp only [pv] at hv ⊢; split at hv
    · obtain ⟨h1, h2, q, h3, h4⟩ := hv; exact ⟨_, ⟨h1, h2, q, h3, rfl⟩, h4⟩
    · exact hv.elim
  | loadI d x n =>
    intro K hv; simp only [pv] at hv ⊢; split at hv
    · obtain ⟨v, h1, h2⟩ := partK_det hv
      exact ⟨_, partK_mono (fun u e => by rw [e]) h1, h2⟩
    · exact hv.elim
  | fld d x off n =>
    intro K hv; simp only [pv] at hv ⊢; split at hv
    · obtain ⟨v, h1, h2⟩ := partK_det hv
      exact ⟨_, partK_mono (fun u e => by rw [e]) h1, h2⟩
    · exact hv.elim
  | idxV d x i len sz n =>
    intro K hv; simp only [pv] at hv ⊢; split at hv
    · obtain ⟨v, h1, h2⟩ := partK_det hv.2.2
      exact ⟨_, ⟨hv.1, hv.2.1, partK_mono (fun u e => by rw [e]) h1⟩, h2⟩
    · exact hv.elim
  | _ =>
    intro K hv
    simp only [pv] at hv ⊢ <;> first
      | exact ⟨_, rfl, hv⟩
      | exact ⟨_, ⟨hv.1, rfl⟩, hv.2⟩
      | (split at hv <;> first | exact hv.elim | exact ⟨_, rfl, hv⟩ | exact ⟨_, ⟨hv.1, rfl⟩, hv.2⟩ | exact ⟨_, ⟨hv.1, hv.2.1, rfl⟩, hv.2.2⟩ | exact ⟨_, ⟨hv.1, hv.2.1, hv.2.2.1, rfl⟩, hv.2.2.2⟩)
      | exact hv.elim

theorem pv_env (P : Program) (e e' : MArg → AV) (l : Loc) : ∀ (m : MOp) (d : Nat) (rd : List MArg), pureOf m = some (d, rd) → (∀ x ∈ rd, e x = e' x) → ∀ K, pv P e l m K = pv P e' l m K := by
  intro m
  induction m with
  | guard g want d m ih =>
    intro d' rd h he K
    cases d with
    | none => cases h
    | some d =>
      simp only [pureOf] at h
      split at h
      · rename_i d2 xs hm
        split at h
        · injection h with h; injection h with h1 h2; subst h2
          simp only [pv, he (.t g) (by simp), ih d2 xs hm (fun x hx => he x (by simp [hx])) K]
        · cases h
      · cases h
  | build d z ps =>
    intro d' rd h he K
    injection h with h; injection h with h1 h2; subst h2
    exact fillKM_env e e' ps z _ (fun x hx => by rw [he x hx]; exact ⟨rfl, rfl⟩)
  | call d f xs =>
    intro d' rd h he K
    injection h with h; injection h with h1 h2; subst h2
    have : xs.map (fun x => (e x).erase) = xs.map (fun x => (e' x).erase) := List.map_congr_left fun x hx => by rw [he x hx]
    simp only [pv, this]
  | callv d x xs =>
    intro d' rd h he K
    injection h with h; injection h with h1 h2; subst h2
    have : xs.map (fun x => (e x).erase) = xs.map (fun x => (e' x).erase) := List.map_congr_left fun y hy => by rw [he y (List.mem_cons_of_mem _ hy)]
    simp only [pv, this, he x (List.mem_cons_self ..)]
  | _ =>
    intro d' rd h he K
    first
      | (cases h; done)
      | (injection h with h; injection h with h1 h2; subst h2; simp only [pv, he _ (List.mem_cons_self ..), he _ (List.mem_cons_of_mem _ (List.mem_cons_self ..)), he _ (List.mem_cons_of_mem _ (List.mem_cons_of_mem _ (List.mem_cons_self ..)))]; done)
      | (injection h with h; injection h with h1 h2; subst h2; simp only [pv, he _ (List.mem_cons_self ..), he _ (List.mem_cons_of_mem _ (List.mem_cons_self ..))]; done)
      | (injection h with h; injection h with h1 h2; subst h2; simp only [pv, he _ (List.mem_cons_self ..)]; done)
      | (injection h with h; injection h with h1 h2; subst h2; simp only [pv]; done)

end Go.Avm

namespace Go.Avm

def loadAddrs : MOp → List MArg
  | .load _ x _ => [x]
  | .guard _ _ _ m => loadAddrs m
  | _ => []

theorem pv_loc (P : Program) (e : MArg → AV) (l l' : Loc) : ∀ (m : MOp), (∀ z ∈ loadAddrs m, ∀ b o, e z = .mref b o → l' b = l b) → ∀ K, pv P e l m K = pv P e l' m K := by
  intro m
  induction m with
  | guard g want d m ih =>
    intro h K
    cases d with
    | none => rfl
    | some d => simp only [pv, ih h K]
  | load d x n =>
    intro h K
    have h := h x (by simp [loadAddrs])
    simp only [pv]
    unfold loadK
    cases hx : e x with
    | mref b o => simp only [h b o hx]
    | _ => rfl
  | _ => intro h K; rfl

theorem pv_new (P : Program) (e : MArg → AV) (l : Loc) (b : Nat) (cs : List AV) (hb : l b = none) : ∀ (m : MOp) (K : AV → Prop), pv P e l m K → pv P e (upd l b (some cs)) m K := by
  intro m
  induction m with
  | guard g want d m ih =>
    intro K hv
    cases d with
    | none => exact hv
    | some d =>
      simp only [pv] at hv ⊢
      split at hv
      · exact ⟨fun h => ih K (hv.1 h), hv.2⟩
      · exact hv
      · exact hv
  | load d x n =>
    intro K hv
    simp only [pv] at hv ⊢
    unfold loadK at hv ⊢
    cases hx : e x with
    | mref b' o =>
      rw [hx] at hv
      simp only at hv ⊢
      by_cases hbb : b' = b
      · subst hbb; rw [hb] at hv; exact hv.elim
      · rw [upd_ne _ _ hbb]; exact hv
    | ref cs => rw [hx] at hv; exact hv
    | _ => rw [hx] at hv; exact hv.elim
  | _ => intro K hv; exact hv

def demL (r : Nat) (l : Loc) : Loc := fun b => (l b).map (·.map (demote r))

theorem demote_erase (r : Nat) (x : AV) : demote r x.erase = x.erase := by
  cases x <;> first | rfl | skip
  simp only [AV.erase, demote]; split <;> rfl
theorem erase_demote (r : Nat) (x : AV) : (demote r x).erase = x.erase := by
  cases x <;> first | rfl | skip
  simp only [demote]; split <;> rfl
theorem erase0_demote (r : Nat) (x : AV) : (demote r x).erase0 = x.erase0 := by
  cases x <;> first | rfl | skip
  simp only [demote]; split <;> rfl
theorem demote_cells (r : Nat) (x : AV) : (demote r x).cells.map AV.erase0 = x.cells.map AV.erase0 := by
  cases x <;> first | rfl | skip
  simp only [demote]; split <;> rfl
theorem demote_len (r : Nat) (x : AV) : (demote r x).cells.length = x.cells.length := by
  cases x <;> first | rfl | skip
  simp only [demote]; split <;> rfl
theorem demote_c1 (r : Nat) (x : AV) : (demote r x).cells.all AV.cell1 = x.cells.all AV.cell1 := by
  cases x <;> first | rfl | skip
  simp only [demote]; split <;> rfl
theorem demote_slice (r sz : Nat) (xs : List AV) (q : Nat) : ∃ q', demote r (.slice sz xs q) = .slice sz xs q' ∧ (q = 0 → q' = 0) := by
  simp only [demote]; split
  · exact ⟨0, rfl, fun _ => rfl⟩
  · exact ⟨q, rfl, id⟩
theorem demote_sl0 (r sz : Nat) (xs : List AV) : demote r (.slice sz xs 0) = .slice sz xs 0 := by
  simp only [demote]; split <;> rfl

theorem partK_demE {cs : List AV} {off : Nat} {n : Option Nat} {v : AV} (r : Nat) (hv : partK cs off n (fun u => u.erase = v)) :
    partK cs off n (fun u => u.erase = demote r v) := by
  cases n with
  | none => exact ⟨hv.1, by rw [← hv.2, demote_erase]⟩
  | some n => exact ⟨hv.1, by rw [← hv.2, demote_erase]⟩

theorem pv_dem (P : Program) (e e' : MArg → AV) (l : Loc) (r : Nat) : ∀ (m : MOp) (d : Nat) (rd : List MArg), pureOf m = some (d, rd) → (∀ x ∈ rd, e' x = demote r (e x)) → ∀ v, pv P e l m (· = v) →
    pv P e' (demL r l) m (· = demote r v) := by
  intro m
  induction m with
  | guard g want d m ih =>
    intro d' rd h he v hv
    cases d with
    | none => exact hv
    | some d =>
      simp only [pureOf] at h
      split at h
      · rename_i d2 xs hm
        split at h
        · injection h with h; injection h with h1 h2; subst h2
          simp only [pv] at hv ⊢
          rw [he (.t g) (by simp)]
          split at hv
          · rename_i b hb
            rw [hb]
            exact ⟨fun h => ih d2 xs hm (fun x hx => he x (by simp [hx])) v (hv.1 h), fun h => by rw [← hv.2 h]; rfl⟩
          · rename_i hb
            rw [hb, ← hv]; rfl
          · exact hv.elim
        · cases h
      · cases h
  | call d f xs =>
    intro d' rd h he v ⟨q, h1, h2⟩
    injection h with h; injection h with h3 h4; subst h4
    have : xs.map (fun x => (e' x).erase) = xs.map (fun x => (e x).erase) := List.map_congr_left fun x hx => by rw [he x hx, erase_demote]
    refine ⟨q, by rw [this]; exact h1, ?_⟩
    rw [← h2, demote_erase]
  | callv d x xs =>
    intro d' rd h he v hv
    injection h with h; injection h with h3 h4; subst h4
    have : xs.map (fun x => (e' x).erase) = xs.map (fun x => (e x).erase) := List.map_congr_left fun y hy => by rw [he y (List.mem_cons_of_mem _ hy), erase_demote]
    simp only [pv] at hv ⊢
    rw [he x (List.mem_cons_self ..)]
    split at hv
    · rename_i f first cap hx
      obtain ⟨q, h1, h2⟩ := hv
      rw [hx]
      refine ⟨q, by rw [this]; exact h1, ?_⟩
      rw [← h2, demote_erase]
    · exact hv.elim
  | build d z ps =>
    intro d' rd h he v hv
    injection h with h; injection h with h3 h4; subst h4
    have := fillKM_env e e' ps z (fun cs => AV.agg cs = demote r v) (fun x hx => by rw [he x hx, demote_len, demote_cells]; exact ⟨rfl, rfl⟩)
    show fillKM e' z ps _
    rw [← this]
    exact fillKM_mono e ps z _ _ (fun cs h => by rw [← h]; rfl) hv
  | binA d neg n x y =>
    intro d' rd h he v hv; injection h with h; injection h with h3 h4; subst h4
    simp only [pv] at hv ⊢
    rw [he x (by simp), he y (by simp)]
    split at hv
    · rename_i a b e1 e2
      obtain ⟨h1, h2, q, h5, h6⟩ := hv
      rw [e1, e2, ← h6]
      exact ⟨h1, h2, q, h5, rfl⟩
    · exact hv.elim
  | load d x n =>
    intro d' rd h he v hv
    injection h with h; injection h with h3 h4; subst h4
    simp only [pv] at hv ⊢
    rw [he x (by simp)]
    cases hx : e x with
    | ref cs => rw [hx] at hv; exact partK_demE r hv
    | mref b o =>
      rw [hx] at hv
      show loadK (demL r l) (.mref b o) n _
      simp only [loadK, demL] at hv ⊢
      cases hl : l b with
      | none => rw [hl] at hv; exact hv.elim
      | some cs =>
        rw [hl] at hv
        simp only [Option.map_some] at hv ⊢
        cases n with
        | none =>
          refine ⟨by simpa using hv.1, ?_⟩
          rw [← hv.2]
          have := hv.1
          simp only [List.getD_eq_getElem?_getD, List.getElem?_map, List.getElem?_eq_getElem this, Option.map_some, Option.getD_some]
        | some k =>
          refine ⟨by simpa using hv.1, ?_⟩
          rw [← hv.2, demote_erase]
          simp only [AV.erase, ← List.map_drop, ← List.map_take, List.map_map]
          congr 1
          refine List.map_congr_left fun x _ => ?_
          exact erase0_demote r x
    | _ => rw [hx] at hv; exact hv.elim
  | cpy d x => intro d' rd h he v hv; injection h with h; injection h with h3 h4; subst h4; simp only [pv] at hv ⊢; rw [he x (by simp), hv]
  | cpyE d x => intro d' rd h he v hv; injection h with h; injection h with h3 h4; subst h4; simp only [pv] at hv ⊢; rw [he x (by simp), erase_demote, ← hv, demote_erase]
  | boxI d x n => intro d' rd h he v hv; injection h with h; injection h with h3 h4; subst h4; simp only [pv] at hv ⊢; rw [he x (by simp), demote_cells, demote_len, ← hv.2]; exact ⟨hv.1, rfl⟩
  | pick d c x y =>
    intro d' rd h he v hv; injection h with h; injection h with h3 h4; subst h4
    simp only [pv] at hv ⊢
    rw [he c (by simp), he x (by simp), he y (by simp)]
    split at hv
    · rename_i b hb
      rw [hb, ← hv]
      cases b <;> rfl
    · exact hv.elim
  | ext d x i =>
    intro d' rd h he v hv; injection h with h; injection h with h3 h4; subst h4
    simp only [pv] at hv ⊢
    rw [he x (by simp)]
    split at hv
    · rename_i vs hb
      rw [hb, ← hv.2, demote_erase]
      exact ⟨hv.1, rfl⟩
    · exact hv.elim
  | idxS d x i sz =>
    intro d' rd h he v hv; injection h with h; injection h with h3 h4; subst h4
    simp only [pv] at hv ⊢
    rw [he x (by simp), he i (by simp)]
    split at hv
    · rename_i sz' xs q k n e1 e2
      obtain ⟨q', h5, _⟩ := demote_slice r sz' xs q
      rw [e1, e2, h5, ← hv.2.2.2]
      exact ⟨hv.1, hv.2.1, hv.2.2.1, rfl⟩
    · rename_i b off len cap sz' k n e1 e2
      rw [e1, e2, ← hv.2.2.2]
      exact ⟨hv.1, hv.2.1, hv.2.2.1, rfl⟩
    · exact hv.elim
  | len d x =>
    intro d' rd h he v hv; injection h with h; injection h with h3 h4; subst h4
    simp only [pv] at hv ⊢
    rw [he x (by simp)]
    split at hv
    · rename_i sz' xs q e1
      obtain ⟨q', h5, _⟩ := demote_slice r sz' xs q
      rw [e1, h5, ← hv]; rfl
    · rename_i e1
      rw [e1, ← hv]; rfl
    · rename_i e1
      rw [e1, ← hv]; rfl
    · exact hv.elim
  | slcHi d x i sz =>
    intro d' rd h he v hv; injection h with h; injection h with h3 h4; subst h4
    simp only [pv] at hv ⊢
    rw [he x (by simp), he i (by simp)]
    split at hv
    · rename_i sz' xs q k n e1 e2
      obtain ⟨q', h5, _⟩ := demote_slice r sz' xs q
      rw [e1, e2, h5, ← hv.2.2.2, demote_sl0]
      exact ⟨hv.1, hv.2.1, hv.2.2.1, rfl⟩
    · exact hv.elim
  | slcLo d x i sz =>
    intro d' rd h he v hv; injection h with h; injection h with h3 h4; subst h4
    simp only [pv] at hv ⊢
    rw [he x (by simp), he i (by simp)]
    split at hv
    · rename_i sz' xs q k n e1 e2
      obtain ⟨q', h5, _⟩ := demote_slice r sz' xs q
      rw [e1, e2, h5, ← hv.2.2.2, demote_sl0]
      exact ⟨hv.1, hv.2.1, hv.2.2.1, rfl⟩
    · exact hv.elim
  | loadI d x n =>
    intro d' rd h he v hv; injection h with h; injection h with h3 h4; subst h4
    simp only [pv] at hv ⊢
    rw [he x (by simp)]
    split at hv
    · rename_i cs e1; rw [e1]; exact partK_demE r hv
    · exact hv.elim
  | fld d x off n =>
    intro d' rd h he v hv; injection h with h; injection h with h3 h4; subst h4
    simp only [pv] at hv ⊢
    rw [he x (by simp)]
    split at hv
    · rename_i cs e1; rw [e1]; exact partK_demE r hv
    · exact hv.elim
  | idxV d x i len sz n =>
    intro d' rd h he v hv; injection h with h; injection h with h3 h4; subst h4
    simp only [pv] at hv ⊢
    rw [he x (by simp), he i (by simp)]
    split at hv
    · rename_i cs k j e1 e2; rw [e1, e2]; exact ⟨hv.1, hv.2.1, partK_demE r hv.2.2⟩
    · exact hv.elim
  | bin d op x y =>
    intro d' rd h he v hv; injection h with h; injection h with h3 h4; subst h4
    simp only [pv] at hv ⊢
    rw [he x (by simp), he y (by simp)]
    obtain ⟨u, h5, h6⟩ := binK_det hv
    have h6 : u = v := h6
    subst h6
    have hlit : ∃ val, u = .lit val := by
      have := binK_det hv
      unfold binK at hv
      split at hv
      · split at hv
        · exact ⟨_, hv.2.symm⟩
        · exact ⟨_, hv.2.symm⟩
        · rename_i n1 n2
          have hv := hv.2
          cases op <;> simp only [binI] at hv <;> first
            | exact hv.elim
            | exact ⟨_, hv.2.2.symm⟩
            | exact ⟨_, hv.2.symm⟩
            | exact ⟨_, hv.symm⟩
            | exact (n1 rfl).elim
            | exact (n2 rfl).elim
      · cases op <;> simp only [binS] at hv <;> first
          | exact hv.elim
          | exact ⟨_, hv.symm⟩
      · exact hv.elim
    obtain ⟨val, rfl⟩ := hlit
    have hxy : binK op (demote r (e x)) (demote r (e y)) = binK op (e x) (e y) := by
      unfold binK at hv
      split at hv
      · rename_i e1 e2; rw [e1, e2]; rfl
      · rename_i e1 e2; rw [e1, e2]; rfl
      · exact hv.elim
    rw [hxy]
    exact h5
  | addr d x off =>
    intro d' rd h he v hv; injection h with h; injection h with h3 h4; subst h4
    simp only [pv] at hv ⊢
    rw [he x (by simp)]
    split at hv <;> first | exact hv.elim | (rename_i e1; rw [e1, ← hv]; rfl)
  | idxA d x i len sz =>
    intro d' rd h he v hv; injection h with h; injection h with h3 h4; subst h4
    simp only [pv] at hv ⊢
    rw [he x (by simp), he i (by simp)]
    split at hv <;> first | exact hv.elim | (rename_i e1 e2; rw [e1, e2, ← hv.2.2]; exact ⟨hv.1, hv.2.1, rfl⟩)
  | idxStr d x i =>
    intro d' rd h he v hv; injection h with h; injection h with h3 h4; subst h4
    simp only [pv] at hv ⊢
    rw [he x (by simp), he i (by simp)]
    split at hv <;> first | exact hv.elim | (rename_i e1 e2; rw [e1, e2, ← hv.2.2]; exact ⟨hv.1, hv.2.1, rfl⟩)
  | lenK d n => intro d' rd h he v hv; simp only [pv] at hv ⊢; rw [← hv]; rfl
  | neg d x =>
    intro d' rd h he v hv; injection h with h; injection h with h3 h4; subst h4
    simp only [pv] at hv ⊢
    rw [he x (by simp)]
    split at hv <;> first | exact hv.elim | (rename_i e1; rw [e1, ← hv.2]; exact ⟨hv.1, rfl⟩)
  | cpyS d x | lenStr d x | not d x | conv d k x | nilchk d x =>
    intro d' rd h he v hv; injection h with h; injection h with h3 h4; subst h4
    simp only [pv] at hv ⊢
    rw [he x (by simp)]
    split at hv <;> first | exact hv.elim | (rename_i e1; rw [e1, ← hv]; rfl)
  | binB d neg x y | maxI d x y | minI d x y =>
    intro d' rd h he v hv; injection h with h; injection h with h3 h4; subst h4
    simp only [pv] at hv ⊢
    rw [he x (by simp), he y (by simp)]
    split at hv <;> first | exact hv.elim | (rename_i e1 e2; rw [e1, e2, ← hv]; rfl)
  | _ => intro d' rd h; cases h

end Go.Avm

namespace Go.Avm
open Go.RowKit

def slotIs (k : Nat) : MArg → Bool
  | .t n => n == k
  | _ => false

def freshIn (d : Nat) (xs : List MArg) : Bool := xs.all fun x => !slotIs d x
def okArgs (xs : List MArg) : Bool := xs.all okC

theorem ev_set {s : St} {d : Nat} {v : AV} {x : MArg} (h : slotIs d x = false) : x.ev (s.set d v).env = x.ev s.env := by
  cases x with
  | t n => simp [slotIs] at h; simp [MArg.ev, St.set, upd, h]
  | c y => rfl

theorem ev_dem {s : St} {r : Nat} {x : MArg} (h : okC x = true) : x.ev (s.dem r).env = demote r (x.ev s.env) := by
  cases x with
  | t n => rfl
  | c y =>
    cases y <;> first | rfl | skip
    · simp [okC] at h
      subst h
      exact (demote_sl0 r _ _).symm
    · simp [okC] at h

theorem fresh_mem {d : Nat} {xs : List MArg} (h : freshIn d xs = true) {x : MArg} (hx : x ∈ xs) : slotIs d x = false := by
  have := (List.all_eq_true.1 h) x hx; simpa using this

theorem set_comm (s : St) {d k : Nat} (x y : AV) (h : d ≠ k) : (s.set d x).set k y = (s.set k y).set d x := by
  simp only [St.set]; rw [upd_comm _ _ _ h]

theorem dem_set (s : St) (r d : Nat) (x : AV) : (s.set d x).dem r = (s.dem r).set d (demote r x) := by
  simp only [St.set, St.dem]
  congr 1
  funext k
  simp only [upd]; split <;> rfl

theorem new_set (s : St) (b d : Nat) (cs : List AV) (x : AV) : (s.set d x).new b cs = (s.new b cs).set d x := rfl

theorem loadAddrs_sub : ∀ (y : MOp) (d : Nat) (rd : List MArg), pureOf y = some (d, rd) → ∀ z ∈ loadAddrs y, z ∈ rd := by
  intro y
  induction y with
  | guard g want d m ih =>
    intro d' rd h z hz
    cases d with
    | none => cases h
    | some d =>
      simp only [pureOf] at h
      split at h
      · rename_i d2 xs hm
        split at h
        · injection h with h; injection h with h1 h2; subst h2
          exact List.mem_cons_of_mem _ (ih d2 xs hm z hz)
        · cases h
      · cases h
  | load d x n => intro d' rd h z hz; injection h with h; injection h with h1 h2; subst h2; simpa [loadAddrs] using hz
  | _ => intro d' rd h z hz; simp [loadAddrs] at hz

variable {P : Program}

theorem swap_pp {y i : MOp} {dy di : Nat} {ry ri : List MArg} (hy : pureOf y = some (dy, ry)) (hi : pureOf i = some (di, ri)) (hd : dy ≠ di) (h1 : freshIn dy ri = true) (h2 : freshIn di ry = true)
    {s : St} {K : St → Prop} (h : vc1 P y s (fun s1 => vc1 P i s1 K)) : vc1 P i s (fun s1 => vc1 P y s1 K) := by
  rw [pv_vc1 P y dy ry hy] at h
  rw [pv_vc1 P i di ri hi]
  obtain ⟨v, hv, hk⟩ := pv_det P _ _ y _ h
  rw [pv_vc1 P i di ri hi, pv_env P (fun x => x.ev (s.set dy v).env) (fun x => x.ev s.env) _ i di ri hi (fun x hx => ev_set (fresh_mem h1 hx))] at hk
  refine pv_mono P _ _ i _ _ (fun u hu => ?_) hk
  rw [pv_vc1 P y dy ry hy, pv_env P (fun x => x.ev (s.set di u).env) (fun x => x.ev s.env) _ y dy ry hy (fun x hx => ev_set (fresh_mem h2 hx))]
  refine pv_mono P _ _ y _ _ (fun w hw => ?_) hv
  subst hw
  rw [set_comm s u w (Ne.symm hd)]
  exact hu

theorem pure_after {y : MOp} {dy : Nat} {ry : List MArg} (hy : pureOf y = some (dy, ry)) (hok : okArgs ry = true) {s : St} {v : AV} (hv : pv P (fun x => x.ev s.env) s.loc y (· = v)) (r : Nat) :
    pv P (fun x => x.ev (s.dem r).env) (s.dem r).loc y (· = demote r v) :=
  pv_dem P _ _ s.loc r y dy ry hy (fun x hx => ev_dem ((List.all_eq_true.1 hok) x hx)) v hv

theorem pure_set {y : MOp} {dy : Nat} {ry : List MArg} (hy : pureOf y = some (dy, ry)) {d : Nat} (hf : freshIn d ry = true) {s : St} {w : AV} {K : AV → Prop} (hv : pv P (fun x => x.ev s.env) s.loc y K) :
    pv P (fun x => x.ev (s.set d w).env) (s.set d w).loc y K := by
  rw [pv_env P (fun x => x.ev (s.set d w).env) (fun x => x.ev s.env) _ y dy ry hy (fun x hx => ev_set (fresh_mem hf hx))]
  exact hv

theorem swap_alloc {y : MOp} {dy di : Nat} {ry : List MArg} {z : List AV} (hy : pureOf y = some (dy, ry)) (hd : dy ≠ di) (h2 : freshIn di ry = true)
    {s : St} {K : St → Prop} (h : vc1 P y s (fun s1 => vc1 P (.alloc di z) s1 K)) : vc1 P (.alloc di z) s (fun s1 => vc1 P y s1 K) := by
  rw [pv_vc1 P y dy ry hy] at h
  obtain ⟨v, hv, hk⟩ := pv_det P _ _ y _ h
  intro b hb
  rw [pv_vc1 P y dy ry hy]
  have h3 := pv_new P _ _ b z hb y _ hv
  have h4 := pure_set (P := P) hy (d := di) h2 (s := s.new b z) (w := .mref b 0) h3
  refine pv_mono P _ _ y _ _ (fun w hw => ?_) h4
  subst hw
  have := hk b hb
  rw [new_set, set_comm _ w _ hd] at this
  exact this

theorem swap_alloc2 {d1 d2 : Nat} {z1 z2 : List AV} (hd : d1 ≠ d2) {s : St} {K : St → Prop} (h : vc1 P (.alloc d1 z1) s (fun s1 => vc1 P (.alloc d2 z2) s1 K)) : vc1 P (.alloc d2 z2) s (fun s1 => vc1 P (.alloc d1 z1) s1 K) := by
  intro b2 hb2 b1 hb1
  simp only [St.set, St.new] at hb1
  by_cases e : b1 = b2
  · subst e; simp [upd] at hb1
  · rw [upd_ne _ _ e] at hb1
    have := h b1 hb1 b2 (by simp only [St.set, St.new]; rw [upd_ne _ _ (Ne.symm e)]; exact hb2)
    have e2 : (((s.new b2 z2).set d2 (.mref b2 0)).new b1 z1).set d1 (.mref b1 0) = (((s.new b1 z1).set d1 (.mref b1 0)).new b2 z2).set d2 (.mref b2 0) := by
      simp only [St.set, St.new]
      rw [upd_comm _ _ _ hd, upd_comm _ _ _ e]
    rw [e2]; exact this

theorem fillS_mono (e : Nat → AV) (sz : Nat) : ∀ (ps : List (Nat × MArg)) (xs : List AV) (K K' : List AV → Prop), (∀ v, K v → K' v) → fillS e sz xs ps K → fillS e sz xs ps K'
  | [], _, _, _, h, hv => h _ hv
  | _ :: ps, _, K, K', h, hv => ⟨hv.1, hv.2.1, hv.2.2.1, fillS_mono e sz ps _ K K' h hv.2.2.2⟩
theorem fillS_env (e e' : Nat → AV) (sz : Nat) : ∀ (ps : List (Nat × MArg)) (xs : List AV) (K : List AV → Prop), (∀ x ∈ ps.map (·.2), (x.ev e).cells.length = (x.ev e').cells.length ∧ (x.ev e).cells.all AV.cell1 = (x.ev e').cells.all AV.cell1 ∧ (x.ev e).erase = (x.ev e').erase) → fillS e sz xs ps K = fillS e' sz xs ps K
  | [], _, _, _ => rfl
  | (i, x) :: ps, xs, K, h => by
    obtain ⟨h1, h2, h3⟩ := h x (by simp)
    simp only [fillS, h1, h2, h3, fillS_env e e' sz ps _ K (fun y hy => h y (by simp at hy ⊢; exact .inr hy))]

theorem swap_mkS {y : MOp} {dy di n sz : Nat} {ry : List MArg} {z : List AV} {ps : List (Nat × MArg)} (hy : pureOf y = some (dy, ry)) (hd : dy ≠ di) (h1 : freshIn dy (ps.map (·.2)) = true) (h2 : freshIn di ry = true) (hok : okArgs ry = true)
    {s : St} {K : St → Prop} (h : vc1 P y s (fun s1 => vc1 P (.mkS di n sz z ps) s1 K)) : vc1 P (.mkS di n sz z ps) s (fun s1 => vc1 P y s1 K) := by
  rw [pv_vc1 P y dy ry hy] at h
  obtain ⟨v, hv, hk⟩ := pv_det P _ _ y _ h
  simp only [vc1] at hk ⊢
  rw [fillS_env (s.set dy v).env s.env sz ps _ _ (fun x hx => by rw [ev_set (fresh_mem h1 hx)]; exact ⟨rfl, rfl, rfl⟩)] at hk
  refine fillS_mono _ _ ps _ _ _ (fun xs hxs => ?_) hk
  rw [pv_vc1 P y dy ry hy]
  have h4 := pure_set (P := P) hy (d := di) h2 (s := s.dem (di + 1)) (w := .slice sz xs (di + 1)) (pure_after hy hok hv (di + 1))
  refine pv_mono P _ _ y _ _ (fun w hw => ?_) h4
  subst hw
  rw [dem_set, set_comm _ _ _ hd] at hxs
  exact hxs

theorem swap_app {y : MOp} {dy di sz bytes : Nat} {ry : List MArg} {x x' : MArg} (hy : pureOf y = some (dy, ry)) (hd : dy ≠ di) (h1 : freshIn dy [x, x'] = true) (h2 : freshIn di ry = true) (hok : okArgs ry = true)
    {s : St} {K : St → Prop} (h : vc1 P y s (fun s1 => vc1 P (.app di x x' sz bytes) s1 K)) : vc1 P (.app di x x' sz bytes) s (fun s1 => vc1 P y s1 K) := by
  rw [pv_vc1 P y dy ry hy] at h
  obtain ⟨v, hv, hk⟩ := pv_det P _ _ y _ h
  simp only [vc1] at hk ⊢
  rw [ev_set (fresh_mem h1 (x := x) (by simp)), ev_set (fresh_mem h1 (x := x') (by simp))] at hk
  split at hk
  · rename_i szx xs r szy ys r2 e1 e2
    obtain ⟨g1, g2, g3, g4, g5, hk⟩ := hk
    refine ⟨g1, g2, g3, g4, g5, ?_⟩
    rw [pv_vc1 P y dy ry hy]
    have h4 := pure_set (P := P) hy (d := di) h2 (s := (s.dem r).dem (di + 1)) (w := .slice sz (xs ++ ys) (di + 1)) (pure_after hy hok (pure_after hy hok hv r) (di + 1))
    refine pv_mono P _ _ y _ _ (fun w hw => ?_) h4
    subst hw
    rw [dem_set, dem_set, set_comm _ _ _ hd] at hk
    exact hk
  · exact hk.elim

theorem swap_store {y : MOp} {dy n oid : Nat} {ry zs : List MArg} {x x' : MArg} (hy : pureOf y = some (dy, ry)) (h1 : freshIn dy (x :: x' :: zs) = true) (hok : okArgs ry = true) (hz : ∀ z ∈ loadAddrs y, z ∈ zs)
    {s : St} {K : St → Prop} (h : vc1 P y s (fun s1 => vc1 P (.apart zs x (.store x x' n oid)) s1 K)) : vc1 P (.apart zs x (.store x x' n oid)) s (fun s1 => vc1 P y s1 K) := by
  rw [pv_vc1 P y dy ry hy] at h
  obtain ⟨v, hv, hk⟩ := pv_det P _ _ y _ h
  have e1 : x.ev (s.set dy v).env = x.ev s.env := ev_set (fresh_mem h1 (by simp))
  have e2 : x'.ev (s.set dy v).env = x'.ev s.env := ev_set (fresh_mem h1 (by simp))
  simp only [vc1] at hk ⊢
  obtain ⟨hap, hk⟩ := hk
  have hap' : ∀ z ∈ zs, apartAV (z.ev s.env) (x.ev s.env) := by
    intro z hz'
    have := hap z hz'
    rw [e1, ev_set (fresh_mem h1 (by simp [hz']))] at this
    exact this
  refine ⟨hap', ?_⟩
  rw [e1, e2] at hk
  unfold storeK at hk ⊢
  generalize hxe : x.ev s.env = xe at hk hap' ⊢
  cases xe with
  | mref b off =>
    simp only at hk ⊢
    have hloc : (s.set dy v).loc = s.loc := rfl
    rw [hloc] at hk
    cases hb : s.loc b with
    | none => rw [hb] at hk; exact hk.elim
    | some cs =>
      rw [hb] at hk
      simp only at hk ⊢
      obtain ⟨g1, g2, g3, hk⟩ := hk
      refine ⟨g1, g2, g3, ?_⟩
      -- the pure one behind the store
      have after : ∀ (s2 : St) (u : AV) (cs' : List AV), pv P (fun x => x.ev s2.env) s2.loc y (· = u) → (∀ z ∈ loadAddrs y, ∀ b' o, z.ev s2.env = .mref b' o → b' ≠ b) → K ((s2.set dy u).new b cs') → vc1 P y (s2.new b cs') K := by
        intro s2 u cs' hu hne hK
        rw [pv_vc1 P y dy ry hy]
        have : pv P (fun x => x.ev (s2.new b cs').env) (s2.new b cs').loc y (· = u) := by
          show pv P (fun x => x.ev s2.env) (s2.new b cs').loc y (· = u)
          rw [← pv_loc P (fun x => x.ev s2.env) s2.loc (s2.new b cs').loc y (fun z hz' b' o hzz => by
            simp only [St.new]; rw [upd_ne _ _ (hne z hz' b' o hzz)])]
          exact hu
        refine pv_mono P _ _ y _ _ (fun w hw => ?_) this
        subst hw
        exact hK
      have hne0 : ∀ z ∈ loadAddrs y, ∀ b' o, z.ev s.env = .mref b' o → b' ≠ b := by
        intro z hz' b' o hzz
        have := hap' z (hz z hz')
        rw [hzz] at this
        exact this
      have hokz : ∀ z ∈ loadAddrs y, okC z = true := by
        intro z hz'
        have : z ∈ ry := loadAddrs_sub y dy ry hy z hz'
        exact (List.all_eq_true.1 hok) z this
      have hdemne : ∀ (s2 : St) (r : Nat), (∀ z ∈ loadAddrs y, ∀ b' o, z.ev s2.env = .mref b' o → b' ≠ b) → ∀ z ∈ loadAddrs y, ∀ b' o, z.ev (s2.dem r).env = .mref b' o → b' ≠ b := by
        intro s2 r hh z hz' b' o hzz
        rw [ev_dem (hokz z hz')] at hzz
        refine hh z hz' b' o ?_
        cases hq : z.ev s2.env <;> rw [hq] at hzz <;> simp only [demote] at hzz <;> first | exact hzz | (cases hzz; done) | (split at hzz <;> cases hzz)
      split at hk
      · rename_i sz xs r he
        split at hk
        · rename_i hro; rw [if_pos hro]; exact after s v _ hv hne0 hk
        · rename_i hro
          rw [if_neg hro]
          refine after _ (demote oid (demote r v)) _ (pure_after hy hok (pure_after hy hok hv r) oid) (hdemne _ _ (hdemne _ _ hne0)) ?_
          rw [dem_set, dem_set] at hk
          exact hk
      · exact after s v _ hv hne0 hk
  | _ => exact hk.elim

end Go.Avm

namespace Go.Avm
open Go.RowKit

variable {P : Program}

theorem fillS_det (e : Nat → AV) (sz : Nat) : ∀ (ps : List (Nat × MArg)) (xs : List AV) (K : List AV → Prop), fillS e sz xs ps K → ∃ v, fillS e sz xs ps (· = v) ∧ K v
  | [], xs, _, hv => ⟨xs, rfl, hv⟩
  | _ :: ps, _, K, hv => by
    obtain ⟨v, h1, h2⟩ := fillS_det e sz ps _ K hv.2.2.2
    exact ⟨v, ⟨hv.1, hv.2.1, hv.2.2.1, h1⟩, h2⟩

theorem demote_comm (a b : Nat) (x : AV) : demote a (demote b x) = demote b (demote a x) := by
  cases x with
  | slice sz xs q =>
    by_cases h1 : q = b
    · subst h1
      by_cases h2 : q = a
      · subst h2; rfl
      · have e1 : demote q (.slice sz xs q) = .slice sz xs 0 := by simp [demote]
        have e2 : demote a (.slice sz xs q) = .slice sz xs q := by simp [demote, h2]
        rw [e1, e2, e1, demote_sl0]
    · by_cases h2 : q = a
      · subst h2
        have e1 : demote q (.slice sz xs q) = .slice sz xs 0 := by simp [demote]
        have e2 : demote b (.slice sz xs q) = .slice sz xs q := by simp [demote, h1]
        rw [e1, e2, e1, demote_sl0]
      · have e1 : demote a (.slice sz xs q) = .slice sz xs q := by simp [demote, h2]
        have e2 : demote b (.slice sz xs q) = .slice sz xs q := by simp [demote, h1]
        rw [e1, e2, e1]
  | _ => rfl

theorem dem_comm (s : St) (a b : Nat) : (s.dem a).dem b = (s.dem b).dem a := by
  simp only [St.dem, Option.map_map]
  congr 1
  · funext k; exact demote_comm b a _
  · funext c
    congr 1
    funext l
    simp only [Function.comp, List.map_map]
    refine List.map_congr_left fun x _ => ?_
    exact demote_comm b a x

theorem demote_own {r q sz : Nat} {xs : List AV} (h : q ≠ r) : demote r (.slice sz xs q) = .slice sz xs q := by simp [demote, h]

theorem demote_inv {r sz q : Nat} {xs : List AV} {x : AV} (h : demote r x = .slice sz xs q) (hq : q ≠ 0) : x = .slice sz xs q ∧ q ≠ r := by
  cases x <;> simp only [demote] at h <;> first | (cases h; done) | skip
  split at h
  · injection h with h1 h2 h3; exact absurd h3.symm hq
  · injection h with h1 h2 h3; subst h1 h2 h3; exact ⟨rfl, ‹_›⟩

theorem demote_inv' {r sz q : Nat} {xs : List AV} {x : AV} (h : demote r x = .slice sz xs q) : ∃ q', x = .slice sz xs q' := by
  cases x <;> simp only [demote] at h <;> first | (cases h; done) | skip
  split at h <;> (injection h with h1 h2 h3; subst h1 h2; exact ⟨_, rfl⟩)

theorem parts_env {s s' : St} {ps : List (Nat × MArg)} (h : ∀ x ∈ ps.map (·.2), ∃ f : AV → AV, (∀ y, (f y).cells.length = y.cells.length ∧ (f y).cells.all AV.cell1 = y.cells.all AV.cell1 ∧ (f y).erase = y.erase) ∧ x.ev s'.env = f (x.ev s.env)) (sz : Nat) (xs : List AV) (K : List AV → Prop) :
    fillS s'.env sz xs ps K = fillS s.env sz xs ps K :=
  fillS_env _ _ _ _ _ _ fun x hx => by obtain ⟨f, hf, e⟩ := h x hx; rw [e]; exact hf _

theorem dem_ok (r : Nat) (y : AV) : (demote r y).cells.length = y.cells.length ∧ (demote r y).cells.all AV.cell1 = y.cells.all AV.cell1 ∧ (demote r y).erase = y.erase := ⟨demote_len r y, demote_c1 r y, erase_demote r y⟩

theorem swap_mkS_app {d1 n1 sz1 d2 sz2 by2 : Nat} {z1 : List AV} {p1 : List (Nat × MArg)} {x x' : MArg} (hd : d1 ≠ d2) (h1 : freshIn d1 [x, x'] = true) (h2 : freshIn d2 (p1.map (·.2)) = true) (k1 : okArgs (p1.map (·.2)) = true) (k2 : okArgs [x, x'] = true)
    {s : St} {K : St → Prop} (h : vc1 P (.mkS d1 n1 sz1 z1 p1) s (fun s1 => vc1 P (.app d2 x x' sz2 by2) s1 K)) : vc1 P (.app d2 x x' sz2 by2) s (fun s1 => vc1 P (.mkS d1 n1 sz1 z1 p1) s1 K) := by
  simp only [vc1] at h ⊢
  obtain ⟨us, hus, hk⟩ := fillS_det _ _ _ _ _ h
  have ex : ∀ y ∈ [x, x'], y.ev ((s.dem (d1 + 1)).set d1 (.slice sz1 us (d1 + 1))).env = demote (d1 + 1) (y.ev s.env) := fun y hy => by
    rw [ev_set (fresh_mem h1 hy), ev_dem ((List.all_eq_true.1 k2) y hy)]
  rw [ex x (by simp), ex x' (by simp)] at hk
  split at hk
  · rename_i szx xs r szy ys r2 e1 e2
    obtain ⟨g1, g2, g3, g4, g5, hk⟩ := hk
    obtain ⟨e3, hr⟩ := demote_inv e1 g1
    obtain ⟨r3, e4⟩ := demote_inv' e2
    rw [e3, e4]
    refine ⟨g1, g2, g3, g4, g5, ?_⟩
    rw [parts_env (s := s) (s' := ((s.dem r).dem (d2 + 1)).set d2 (.slice sz2 (xs ++ ys) (d2 + 1))) (fun y hy => ⟨fun v => demote (d2 + 1) (demote r v), fun v => ⟨by rw [demote_len, demote_len], by rw [demote_c1, demote_c1], by rw [erase_demote, erase_demote]⟩, by
      rw [ev_set (fresh_mem h2 hy), ev_dem ((List.all_eq_true.1 k1) y hy), ev_dem ((List.all_eq_true.1 k1) y hy)]⟩)]
    refine fillS_mono _ _ _ _ _ _ (fun v hv => ?_) hus
    subst hv
    have hq : d1 + 1 ≠ d2 + 1 := by omega
    rw [dem_set, dem_set, demote_own (Ne.symm hr), demote_own hq, set_comm _ _ _ hd] at hk
    rw [dem_set, demote_own (Ne.symm hq)]
    rw [dem_comm (s.dem r) (d2 + 1) (d1 + 1), dem_comm s r (d1 + 1)]
    exact hk
  · exact hk.elim

theorem swap_mkS2 {d1 n1 sz1 d2 n2 sz2 : Nat} {z1 z2 : List AV} {p1 p2 : List (Nat × MArg)} (hd : d1 ≠ d2) (h1 : freshIn d1 (p2.map (·.2)) = true) (h2 : freshIn d2 (p1.map (·.2)) = true) (k1 : okArgs (p1.map (·.2)) = true) (k2 : okArgs (p2.map (·.2)) = true)
    {s : St} {K : St → Prop} (h : vc1 P (.mkS d1 n1 sz1 z1 p1) s (fun s1 => vc1 P (.mkS d2 n2 sz2 z2 p2) s1 K)) : vc1 P (.mkS d2 n2 sz2 z2 p2) s (fun s1 => vc1 P (.mkS d1 n1 sz1 z1 p1) s1 K) := by
  simp only [vc1] at h ⊢
  obtain ⟨us, hus, hk⟩ := fillS_det _ _ _ _ _ h
  rw [parts_env (s := s) (fun y hy => ⟨demote (d1 + 1), dem_ok _, by rw [ev_set (fresh_mem h1 hy), ev_dem ((List.all_eq_true.1 k2) y hy)]⟩)] at hk
  refine fillS_mono _ _ _ _ _ _ (fun v hv => ?_) hk
  rw [parts_env (s := s) (fun y hy => ⟨demote (d2 + 1), dem_ok _, by rw [ev_set (fresh_mem h2 hy), ev_dem ((List.all_eq_true.1 k1) y hy)]⟩)]
  refine fillS_mono _ _ _ _ _ _ (fun u hu => ?_) hus
  subst hu
  have hq : d1 + 1 ≠ d2 + 1 := by omega
  rw [dem_set, demote_own hq, set_comm _ _ _ hd, dem_comm] at hv
  rw [dem_set, demote_own (Ne.symm hq)]
  exact hv

theorem swap_gmkS {y : MOp} {dy di n sz g : Nat} {w : Bool} {ry : List MArg} {z : List AV} {ps : List (Nat × MArg)} (hy : pureOf y = some (dy, ry)) (hd : dy ≠ di) (h1 : freshIn dy (.t g :: ps.map (·.2)) = true) (h2 : freshIn di ry = true) (hok : okArgs ry = true)
    {s : St} {K : St → Prop} (h : vc1 P y s (fun s1 => vc1 P (.guard g w (some di) (.mkS di n sz z ps)) s1 K)) : vc1 P (.guard g w (some di) (.mkS di n sz z ps)) s (fun s1 => vc1 P y s1 K) := by
  rw [pv_vc1 P y dy ry hy] at h
  obtain ⟨v, hv, hk⟩ := pv_det P _ _ y _ h
  have hg : (s.set dy v).env g = s.env g := ev_set (x := .t g) (fresh_mem h1 (by simp))
  have h1' : freshIn dy (ps.map (·.2)) = true := by simp only [freshIn, List.all_cons, Bool.and_eq_true] at h1 ⊢; exact h1.2
  rw [vc1, hg] at hk
  rw [vc1]
  split at hk
  · rename_i b hb
    refine ⟨fun e => swap_mkS hy hd h1' h2 hok ?_, fun e => ?_⟩
    · rw [pv_vc1 P y dy ry hy]
      exact pv_mono P _ _ y _ _ (fun u hu => by subst hu; exact hk.1 e) hv
    · rw [pv_vc1 P y dy ry hy]
      refine pv_mono P _ _ y _ _ (fun u hu => ?_) (pure_set (P := P) hy (d := di) h2 (w := .tuple []) hv)
      subst hu
      have := hk.2 e
      rw [set_comm _ _ _ hd] at this
      exact this
  · rw [pv_vc1 P y dy ry hy]
    refine pv_mono P _ _ y _ _ (fun u hu => ?_) (pure_set (P := P) hy (d := di) h2 (w := .tuple []) hv)
    subst hu
    rw [set_comm _ _ _ hd] at hk
    exact hk
  · exact hk.elim

theorem demote_bool {r : Nat} {x : AV} {b : Bool} (h : demote r x = .lit (.bool b)) : x = .lit (.bool b) := by
  cases x <;> simp only [demote] at h <;> first | exact h | (cases h; done) | (split at h <;> cases h)

theorem guard_mkS {d n sz g : Nat} {w : Bool} {z : List AV} {ps : List (Nat × MArg)} {s : St} {K : St → Prop} (hg : s.env g = .lit (.bool w)) (h : vc1 P (.mkS d n sz z ps) s K) : vc1 P (.guard g w (some d) (.mkS d n sz z ps)) s K := by
  rw [vc1, hg]
  exact ⟨fun _ => h, fun e => (by cases w <;> cases e)⟩

def Off (w : Bool) (x : AV) : Prop := x = .lit (.bool (!w)) ∨ x = .tuple []
theorem Off.demote {w : Bool} {x : AV} (r : Nat) (h : Off w x) : Off w (Avm.demote r x) := by rcases h with rfl | rfl; exact .inl rfl; exact .inr rfl
theorem Off.undem {w : Bool} {x : AV} {r : Nat} (h : Off w (Avm.demote r x)) : Off w x := by
  rcases h with h | h
  · exact .inl (demote_bool h)
  · refine .inr ?_
    cases x <;> simp only [Avm.demote] at h <;> first | exact h | (cases h; done) | (split at h <;> cases h)
theorem guard_skip {d g : Nat} {w : Bool} {m : MOp} {s : St} {K : St → Prop} (hg : Off w (s.env g)) (h : K (s.set d (.tuple []))) : vc1 P (.guard g w (some d) m) s K := by
  rcases hg with hg | hg
  · rw [vc1, hg]
    exact ⟨fun e => (by cases w <;> cases e), fun _ => h⟩
  · rw [vc1, hg]
    exact h

theorem guard_inv {d g : Nat} {w : Bool} {m : MOp} {s : St} {K : St → Prop} (h : vc1 P (.guard g w (some d) m) s K) : (s.env g = .lit (.bool w) ∧ vc1 P m s K) ∨ (Off w (s.env g) ∧ K (s.set d (.tuple []))) := by
  rw [vc1] at h
  split at h
  · rename_i b hb
    by_cases e : b = w
    · subst e; exact .inl ⟨hb, h.1 rfl⟩
    · have e2 : b = !w := by revert e; cases b <;> cases w <;> decide
      exact .inr ⟨.inl (by rw [hb, e2]), h.2 e2⟩
  · rename_i hb
    exact .inr ⟨.inr hb, h⟩
  · exact h.elim

theorem swap_gg {d1 n1 sz1 d2 n2 sz2 g1 g2 : Nat} {w1 w2 : Bool} {z1 z2 : List AV} {p1 p2 : List (Nat × MArg)} (hd : d1 ≠ d2) (e1 : d1 ≠ g2) (e2 : d2 ≠ g1) (h1 : freshIn d1 (p2.map (·.2)) = true) (h2 : freshIn d2 (p1.map (·.2)) = true) (k1 : okArgs (p1.map (·.2)) = true) (k2 : okArgs (p2.map (·.2)) = true)
    {s : St} {K : St → Prop} (h : vc1 P (.guard g1 w1 (some d1) (.mkS d1 n1 sz1 z1 p1)) s (fun s1 => vc1 P (.guard g2 w2 (some d2) (.mkS d2 n2 sz2 z2 p2)) s1 K)) :
    vc1 P (.guard g2 w2 (some d2) (.mkS d2 n2 sz2 z2 p2)) s (fun s1 => vc1 P (.guard g1 w1 (some d1) (.mkS d1 n1 sz1 z1 p1)) s1 K) := by
  have hset : ∀ (s : St) (d g : Nat) (x : AV), d ≠ g → (s.set d x).env g = s.env g := fun s d g x e => by simp [St.set, upd, Ne.symm e]
  rcases guard_inv h with ⟨ha, h⟩ | ⟨ha, h⟩
  · have h' := h
    rw [vc1] at h'
    obtain ⟨us, hus, hk⟩ := fillS_det _ _ _ _ _ h'
    rcases guard_inv hk with ⟨hb, hk⟩ | ⟨hb, hk⟩
    · rw [hset _ _ _ _ e1] at hb
      have hb' := demote_bool (show demote (d1 + 1) (s.env g2) = _ from hb)
      refine guard_mkS hb' ?_
      have hm : vc1 P (.mkS d1 n1 sz1 z1 p1) s (fun s1 => vc1 P (.mkS d2 n2 sz2 z2 p2) s1 K) := by
        rw [vc1]
        exact fillS_mono _ _ _ _ _ _ (fun u hu => by subst hu; exact hk) hus
      have hsw := swap_mkS2 hd h1 h2 k1 k2 hm
      rw [vc1] at hsw ⊢
      refine fillS_mono _ _ _ _ _ _ (fun u hu => guard_mkS ?_ hu) hsw
      rw [hset _ _ _ _ e2]
      show demote (d2 + 1) (s.env g1) = _
      rw [ha]; rfl
    · rw [hset _ _ _ _ e1] at hb
      have hb' := Off.undem (r := d1 + 1) (show Off w2 (demote (d1 + 1) (s.env g2)) from hb)
      refine guard_skip hb' (guard_mkS (by rw [hset _ _ _ _ e2]; exact ha) ?_)
      rw [vc1, fillS_env (s.set d2 (.tuple [])).env s.env _ _ _ _ (fun x hx => by rw [ev_set (fresh_mem h2 hx)]; exact ⟨rfl, rfl, rfl⟩)]
      refine fillS_mono _ _ _ _ _ _ (fun u hu => ?_) hus
      subst hu
      rw [set_comm _ _ _ hd] at hk
      rw [dem_set]
      exact hk
  · rcases guard_inv h with ⟨hb, hk⟩ | ⟨hb, hk⟩
    · rw [hset _ _ _ _ e1] at hb
      refine guard_mkS hb ?_
      rw [vc1, fillS_env (s.set d1 (.tuple [])).env s.env _ _ _ _ (fun x hx => by rw [ev_set (fresh_mem h1 hx)]; exact ⟨rfl, rfl, rfl⟩)] at hk
      rw [vc1]
      refine fillS_mono _ _ _ _ _ _ (fun u hu => guard_skip ?_ ?_) hk
      · rw [hset _ _ _ _ e2]
        exact ha.demote (d2 + 1)
      · rw [dem_set, set_comm _ _ _ hd] at hu
        exact hu
    · rw [hset _ _ _ _ e1] at hb
      refine guard_skip hb (guard_skip (by rw [hset _ _ _ _ e2]; exact ha) ?_)
      rw [set_comm _ _ _ (Ne.symm hd)]
      exact hk

def sameT : MArg → MArg → Bool
  | .t a, .t b => a == b
  | _, _ => false

theorem sameT_eq {x y : MArg} (h : sameT x y = true) : x = y := by
  cases x <;> cases y <;> simp [sameT] at h <;> first | (rw [h]; done) | skip

def FinS (s : St) : Prop := ∃ n, ∀ b, n ≤ b → s.loc b = none

theorem FinS.set {s : St} (h : FinS s) (d : Nat) (x : AV) : FinS (s.set d x) := h
theorem FinS.dem {s : St} (h : FinS s) (r : Nat) : FinS (s.dem r) := by
  obtain ⟨n, h⟩ := h
  exact ⟨n, fun b hb => by simp only [St.dem, h b hb, Option.map_none]⟩
theorem FinS.new {s : St} (h : FinS s) (b : Nat) (cs : List AV) : FinS (s.new b cs) := by
  obtain ⟨n, h⟩ := h
  refine ⟨max n (b + 1), fun b' hb => ?_⟩
  have h1 : n ≤ b' := Nat.le_trans (Nat.le_max_left ..) hb
  have h2 : b + 1 ≤ b' := Nat.le_trans (Nat.le_max_right ..) hb
  simp only [St.new]
  rw [upd_ne _ _ (by omega)]
  exact h b' h1
theorem FinS.but {s : St} (h : FinS s) (b : Nat) : ∃ b', b' ≠ b ∧ s.loc b' = none := by
  obtain ⟨n, h⟩ := h
  refine ⟨max n (b + 1), ?_, h _ (Nat.le_max_left ..)⟩
  have : b + 1 ≤ max n (b + 1) := Nat.le_max_right ..
  omega

theorem new_comm (s : St) {b1 b2 : Nat} (c1 c2 : List AV) (h : b1 ≠ b2) : (s.new b1 c1).new b2 c2 = (s.new b2 c2).new b1 c1 := by
  simp only [St.new]; rw [upd_comm _ _ _ h]

theorem storeK0 {s : St} {x y : AV} {n : Nat} {K : St → Prop} : storeK s x y n 0 K ↔ ∃ b off cs, x = .mref b off ∧ s.loc b = some cs ∧ off + n ≤ cs.length ∧ y.cells.length = n ∧ y.cells.all AV.cell1 = true ∧ K (s.new b (splice cs off (y.cells.map AV.erase0))) := by
  unfold storeK
  cases x with
  | mref b off =>
    simp only
    cases hb : s.loc b with
    | none =>
      simp only [false_iff]
      rintro ⟨b', off', cs, e, h, _⟩
      injection e with e1 e2
      subst e1
      rw [hb] at h; cases h
    | some cs =>
      simp only
      constructor
      · rintro ⟨h1, h2, h3, h4⟩
        refine ⟨b, off, cs, rfl, hb, h1, h2, h3, ?_⟩
        cases y <;> first | exact h4 | skip
        simpa [AV.cells, AV.erase0] using h4
      · rintro ⟨b', off', cs', e, h, h1, h2, h3, h4⟩
        injection e with e1 e2
        subst e1 e2
        rw [hb] at h; injection h with h; subst h
        refine ⟨h1, h2, h3, ?_⟩
        cases y <;> first | exact h4 | skip
        simpa [AV.cells, AV.erase0] using h4
  | _ => simp

theorem storeK0_mono {s : St} {x y : AV} {n : Nat} {K K' : St → Prop} (h : ∀ b cs, K (s.new b cs) → K' (s.new b cs)) (hv : storeK s x y n 0 K) : storeK s x y n 0 K' := by
  obtain ⟨b, off, cs, h1, h2, h3, h4, h5, h6⟩ := storeK0.1 hv
  exact storeK0.2 ⟨b, off, cs, h1, h2, h3, h4, h5, h _ _ h6⟩

theorem swap_alloc_store {d n : Nat} {z : List AV} {zs : List MArg} {x x' : MArg} (h1 : freshIn d (x :: x' :: zs) = true)
    {s : St} {K : St → Prop} (hf : FinS s) (h : vc1 P (.alloc d z) s (fun s1 => vc1 P (.apart zs x (.store x x' n 0)) s1 K)) : vc1 P (.apart zs x (.store x x' n 0)) s (fun s1 => vc1 P (.alloc d z) s1 K) := by
  have ex : ∀ b, x.ev ((s.new b z).set d (.mref b 0)).env = x.ev s.env := fun b => ev_set (s := s.new b z) (fresh_mem h1 (by simp))
  have ex' : ∀ b, x'.ev ((s.new b z).set d (.mref b 0)).env = x'.ev s.env := fun b => ev_set (s := s.new b z) (fresh_mem h1 (by simp))
  have ez : ∀ b, ∀ w ∈ zs, w.ev ((s.new b z).set d (.mref b 0)).env = w.ev s.env := fun b w hw => ev_set (s := s.new b z) (fresh_mem h1 (by simp [hw]))
  have hh : ∀ b0, s.loc b0 = none → (∀ w ∈ zs, apartAV (w.ev s.env) (x.ev s.env)) ∧ storeK ((s.new b0 z).set d (.mref b0 0)) (x.ev s.env) (x'.ev s.env) n 0 K := by
    intro b0 hb0
    obtain ⟨g1, g2⟩ := h b0 hb0
    rw [vc1, ex, ex'] at g2
    refine ⟨fun w hw => ?_, g2⟩
    have := g1 w hw
    rw [ez b0 w hw, ex] at this
    exact this
  obtain ⟨b0, _, hb0⟩ := hf.but 0
  obtain ⟨hap, hs0⟩ := hh b0 hb0
  obtain ⟨b, off, _, hx, _, _⟩ := storeK0.1 hs0
  obtain ⟨b1, hne, hb1⟩ := hf.but b
  obtain ⟨b', off', cs, hx', hl, g1, g2, g3, _⟩ := storeK0.1 (hh b1 hb1).2
  rw [hx] at hx'; injection hx' with e1 e2; subst e1 e2
  have hl : s.loc b = some cs := by
    simp only [St.set, St.new] at hl
    rw [upd_ne _ _ (Ne.symm hne)] at hl
    exact hl
  refine ⟨hap, ?_⟩
  rw [vc1]
  refine storeK0.2 ⟨b, off, cs, hx, hl, g1, g2, g3, ?_⟩
  intro b2 hb2
  have hne2 : b2 ≠ b := by
    intro e; subst e; simp [St.new, upd] at hb2
  have hb2' : s.loc b2 = none := by
    simp only [St.new] at hb2
    rw [upd_ne _ _ hne2] at hb2
    exact hb2
  obtain ⟨b', off', cs', hx', hl', _, _, _, hk⟩ := storeK0.1 (hh b2 hb2').2
  rw [hx] at hx'; injection hx' with e1 e2; subst e1 e2
  have hl' : s.loc b = some cs' := by
    simp only [St.set, St.new] at hl'
    rw [upd_ne _ _ (Ne.symm hne2)] at hl'
    exact hl'
  rw [hl] at hl'; injection hl' with e; subst e
  rw [new_set, new_comm _ _ _ hne2] at hk
  exact hk

theorem swap_store2 {n1 n2 : Nat} {zs1 zs2 : List MArg} {x1 y1 x2 y2 : MArg} (hz : x1 ∈ zs2)
    {s : St} {K : St → Prop} (h : vc1 P (.apart zs1 x1 (.store x1 y1 n1 0)) s (fun s1 => vc1 P (.apart zs2 x2 (.store x2 y2 n2 0)) s1 K)) : vc1 P (.apart zs2 x2 (.store x2 y2 n2 0)) s (fun s1 => vc1 P (.apart zs1 x1 (.store x1 y1 n1 0)) s1 K) := by
  obtain ⟨ha1, h⟩ := h
  rw [vc1] at h
  obtain ⟨b1, o1, c1, hx1, hl1, g1, g2, g3, ha2, h⟩ := storeK0.1 h
  rw [vc1] at h
  obtain ⟨b2, o2, c2, hx2, hl2, k1, k2, k3, hk⟩ := storeK0.1 h
  have henv : ∀ b cs, (s.new b cs).env = s.env := fun _ _ => rfl
  rw [henv] at hx2 k2 k3 hk
  have hne : b1 ≠ b2 := by
    have := ha2 x1 hz
    rw [henv, hx1, hx2] at this
    exact this
  have hl2' : s.loc b2 = some c2 := by
    simp only [St.new] at hl2
    rw [upd_ne _ _ (Ne.symm hne)] at hl2
    exact hl2
  refine ⟨fun z hz' => ha2 z hz', ?_⟩
  rw [vc1]
  refine storeK0.2 ⟨b2, o2, c2, hx2, hl2', k1, k2, k3, ha1, ?_⟩
  rw [vc1]
  refine storeK0.2 ⟨b1, o1, c1, hx1, ?_, g1, g2, g3, ?_⟩
  · simp only [St.new]
    rw [upd_ne _ _ hne]
    exact hl1
  · rw [henv, new_comm _ _ _ (Ne.symm hne)]
    exact hk

theorem swap_store_pure {i : MOp} {di n : Nat} {ri zs : List MArg} {x x' : MArg} (hi : pureOf i = some (di, ri)) (h1 : freshIn di (x :: x' :: zs) = true) (hz : ∀ z ∈ loadAddrs i, z ∈ zs)
    {s : St} {K : St → Prop} (h : vc1 P (.apart zs x (.store x x' n 0)) s (fun s1 => vc1 P i s1 K)) : vc1 P i s (fun s1 => vc1 P (.apart zs x (.store x x' n 0)) s1 K) := by
  obtain ⟨ha, h⟩ := h
  rw [vc1] at h
  obtain ⟨b, off, cs, hx, hl, g1, g2, g3, hk⟩ := storeK0.1 h
  rw [pv_vc1 P i di ri hi] at hk ⊢
  have e : pv P (fun x => x.ev s.env) s.loc i = pv P (fun x => x.ev s.env) (s.new b (splice cs off ((x'.ev s.env).cells.map AV.erase0))).loc i := by
    funext K'
    refine pv_loc P (fun x => x.ev s.env) s.loc _ i (fun z hz' b' o hzz => ?_) K'
    have := ha z (hz z hz')
    rw [hzz, hx] at this
    simp only [St.new]
    rw [upd_ne _ _ this]
  rw [e]
  refine pv_mono P _ _ i _ _ (fun v hv => ?_) hk
  refine ⟨fun z hz' => ?_, ?_⟩
  · rw [ev_set (fresh_mem h1 (by simp [hz'])), ev_set (fresh_mem h1 (by simp))]
    exact ha z hz'
  · rw [vc1, ev_set (fresh_mem h1 (by simp)), ev_set (fresh_mem h1 (by simp))]
    exact storeK0.2 ⟨b, off, cs, hx, hl, g1, g2, g3, hv⟩

def lowB (xs : List MArg) : Bool := xs.all fun | .t n => decide (n < gS) | .c _ => true
theorem low_fresh {xs : List MArg} (h : lowB xs = true) (b : Nat) : freshIn (oS + b) xs = true := by
  unfold freshIn
  rw [List.all_eq_true]
  intro x hx
  have := (List.all_eq_true.1 h) x hx
  cases x with
  | t n =>
    have hn : n < gS := by simpa using this
    have : (n == oS + b) = false := by have : gS < oS := by simp [gS, oS]
                                       simp; omega
    simp [slotIs, this]
  | c y => rfl

theorem keyAt_set {k v : AV} : ∀ {es : List (List AV)} {i j : Nat}, keyAt k es i = some (some j) → keyEq k k = some true → keyAt k (es.set (j - i) [k, v]) i = some (some j)
  | [], _, _, h, _ => by simp [keyAt] at h
  | e :: es, i, j, h, hk => by
    simp only [keyAt] at h
    split at h
    · injection h with h; injection h with h; subst h
      rw [Nat.sub_self, List.set_cons_zero]
      simp [keyAt, hk]
    · rename_i hq
      have ih := keyAt_set (v := v) h hk
      have hij : i + 1 ≤ j := by
        have : ∀ {es : List (List AV)} {i j : Nat}, keyAt k es i = some (some j) → i ≤ j := by
          intro es
          induction es with
          | nil => intro i j h; simp [keyAt] at h
          | cons e es ih =>
            intro i j h
            simp only [keyAt] at h
            split at h
            · injection h with h; injection h with h; omega
            · have := ih h; omega
            · cases h
        exact this h
      rw [show j - i = (j - (i + 1)) + 1 by omega, List.set_cons_succ]
      simp only [keyAt, hq]
      exact ih
    · cases h
theorem keyAt_app {k v : AV} : ∀ {es : List (List AV)} {i : Nat}, keyAt k es i = some none → keyEq k k = some true → keyAt k (es ++ [[k, v]]) i = some (some (i + es.length))
  | [], i, _, hk => by simp [keyAt, hk]
  | e :: es, i, h, hk => by
    simp only [keyAt] at h
    split at h
    · injection h with h; cases h
    · rename_i hq
      have ih := keyAt_app (v := v) h hk
      simp only [List.cons_append, keyAt, hq, List.length_cons]
      rw [ih]; congr 2; omega
    · cases h
theorem keyAt_lt {k : AV} : ∀ {es : List (List AV)} {i j : Nat}, keyAt k es i = some (some j) → j < i + es.length
  | [], _, _, h => by simp [keyAt] at h
  | e :: es, i, j, h => by
    simp only [keyAt] at h
    split at h
    · injection h with h; injection h with h; simp; omega
    · have := keyAt_lt h; simp at this ⊢; omega
    · cases h

theorem oS_set {s : St} {d b : Nat} {v : AV} (h : d < gS) : (s.set d v).env (oS + b) = s.env (oS + b) := by
  have : gS < oS := by simp [gS, oS]
  simp only [St.set]
  exact upd_ne _ _ (by omega)

theorem swap_p_ent {y : MOp} {dy di : Nat} {ry : List MArg} {x k : MArg} {n : Option Nat} {z : AV} (hy : pureOf y = some (dy, ry)) (hd : dy ≠ di) (h1 : freshIn dy [x, k] = true) (h2 : freshIn di ry = true) (hl : lowB ry = true) (hdl : dy < gS)
    {s : St} {K : St → Prop} (h : vc1 P y s (fun s1 => vc1 P (.mapEnt di x k n z) s1 K)) : vc1 P (.mapEnt di x k n z) s (fun s1 => vc1 P y s1 K) := by
  rw [pv_vc1 P y dy ry hy] at h
  obtain ⟨v, hv, hk⟩ := pv_det P _ _ y _ h
  simp only [vc1] at hk ⊢
  rw [ev_set (fresh_mem h1 (x := x) (by simp)), ev_set (fresh_mem h1 (x := k) (by simp))] at hk
  have hb0 : gS < oS := by simp [gS, oS]
  split at hk
  · rename_i b e1
    obtain ⟨es, he, hok, hkk, hk⟩ := hk
    rw [oS_set hdl] at he
    refine ⟨es, he, hok, hkk, ?_⟩
    have fin : ∀ M T, K (((s.set dy v).set (oS + b) M).set di T) → vc1 P y ((s.set (oS + b) M).set di T) K := by
      intro M T hK
      rw [pv_vc1 P y dy ry hy]
      have h4 := pure_set (P := P) hy (d := di) h2 (s := s.set (oS + b) M) (w := T) (pure_set (P := P) hy (d := oS + b) (low_fresh hl b) (s := s) (w := M) hv)
      refine pv_mono P _ _ y _ _ (fun w hw => ?_) h4
      subst hw
      rw [set_comm s w M (show dy ≠ oS + b by omega), set_comm _ w T hd] at hK
      exact hK
    split at hk
    · exact fin _ _ hk
    · exact fin _ _ hk
    · exact hk.elim
  · exact hk.elim

theorem swap_lk_p {i : MOp} {d1 di : Nat} {ri : List MArg} {x k : MArg} {n : Option Nat} {z : AV} (hi : pureOf i = some (di, ri)) (hd : d1 ≠ di) (h1 : freshIn d1 ri = true) (h2 : freshIn di [x, k] = true) (hdl : di < gS)
    {s : St} {K : St → Prop} (h : vc1 P (.lookup d1 x k n false z) s (fun s1 => vc1 P i s1 K)) : vc1 P i s (fun s1 => vc1 P (.lookup d1 x k n false z) s1 K) := by
  rw [pv_vc1 P i di ri hi]
  simp only [vc1, Bool.false_eq_true, if_false] at h
  have fin : ∀ u, vc1 P i (s.set d1 u) K → (∀ v, K ((s.set d1 u).set di v) → vc1 P (.lookup d1 x k n false z) (s.set di v) K) → pv P (fun x => x.ev s.env) s.loc i fun v => vc1 P (.lookup d1 x k n false z) (s.set di v) K := by
    intro u hk hf
    rw [pv_vc1 P i di ri hi, pv_env P (fun x => x.ev (s.set d1 u).env) (fun x => x.ev s.env) _ i di ri hi (fun x hx => ev_set (fresh_mem h1 hx))] at hk
    exact pv_mono P _ _ i _ _ (fun v hv => hf v hv) hk
  split at h
  · rename_i b e1
    obtain ⟨es, he, hok, h⟩ := h
    have back : ∀ (v : AV), (x.ev (s.set di v).env = .mapr b) ∧ (s.set di v).env (oS + b) = mapAV es ∧ (k.ev (s.set di v).env).erase = (k.ev s.env).erase := fun v => ⟨by rw [ev_set (fresh_mem h2 (x := x) (by simp))]; exact e1, by rw [oS_set hdl]; exact he, by rw [ev_set (fresh_mem h2 (x := k) (by simp))]⟩
    split at h
    · rename_i j hka
      refine fin _ h fun v hv => ?_
      obtain ⟨b1, b2, b3⟩ := back v
      simp only [vc1, b1, b3]
      refine ⟨es, b2, hok, ?_⟩
      rw [hka]
      simp only [Bool.false_eq_true, if_false]
      rw [set_comm _ _ _ hd] at hv
      exact hv
    · rename_i hka
      refine fin _ h fun v hv => ?_
      obtain ⟨b1, b2, b3⟩ := back v
      simp only [vc1, b1, b3]
      refine ⟨es, b2, hok, ?_⟩
      rw [hka]
      simp only [Bool.false_eq_true, if_false]
      rw [set_comm _ _ _ hd] at hv
      exact hv
    · exact h.elim
  · rename_i es e1
    obtain ⟨hok, h⟩ := h
    have back : ∀ (v : AV), (x.ev (s.set di v).env = .fmap es) ∧ (k.ev (s.set di v).env).erase = (k.ev s.env).erase := fun v => ⟨by rw [ev_set (fresh_mem h2 (x := x) (by simp))]; exact e1, by rw [ev_set (fresh_mem h2 (x := k) (by simp))]⟩
    split at h
    · rename_i j hka
      refine fin _ h fun v hv => ?_
      obtain ⟨b1, b3⟩ := back v
      simp only [vc1, b1, b3]
      refine ⟨hok, ?_⟩
      rw [hka]
      simp only [Bool.false_eq_true, if_false]
      rw [set_comm _ _ _ hd] at hv
      exact hv
    · rename_i hka
      refine fin _ h fun v hv => ?_
      obtain ⟨b1, b3⟩ := back v
      simp only [vc1, b1, b3]
      refine ⟨hok, ?_⟩
      rw [hka]
      simp only [Bool.false_eq_true, if_false]
      rw [set_comm _ _ _ hd] at hv
      exact hv
    · exact h.elim
  · exact h.elim

theorem swap_lk_alloc {d1 d2 : Nat} {x k : MArg} {n : Option Nat} {z : AV} {c : List AV} (hd : d1 ≠ d2) (h2 : freshIn d2 [x, k] = true) (hl : d2 < gS)
    {s : St} {K : St → Prop} (h : vc1 P (.lookup d1 x k n false z) s (fun s1 => vc1 P (.alloc d2 c) s1 K)) : vc1 P (.alloc d2 c) s (fun s1 => vc1 P (.lookup d1 x k n false z) s1 K) := by
  intro b hb
  have ex : x.ev ((s.new b c).set d2 (.mref b 0)).env = x.ev s.env := ev_set (s := s.new b c) (fresh_mem h2 (x := x) (by simp))
  have ek : k.ev ((s.new b c).set d2 (.mref b 0)).env = k.ev s.env := ev_set (s := s.new b c) (fresh_mem h2 (x := k) (by simp))
  have eo : ∀ b', ((s.new b c).set d2 (.mref b 0)).env (oS + b') = s.env (oS + b') := fun b' => oS_set (s := s.new b c) hl
  have fin : ∀ u, vc1 P (.alloc d2 c) (s.set d1 u) K → K (((s.new b c).set d2 (.mref b 0)).set d1 u) := fun u hu => by
    have := hu b hb
    rw [new_set, set_comm _ u _ hd] at this
    exact this
  simp only [vc1, Bool.false_eq_true, if_false] at h
  show vc1 P (.lookup d1 x k n false z) _ K
  simp only [vc1, ex, ek, eo, Bool.false_eq_true, if_false]
  split at h
  · rename_i b' e1
    obtain ⟨es, he, hok, h⟩ := h
    refine ⟨es, he, hok, ?_⟩
    split at h
    · exact fin _ h
    · exact fin _ h
    · exact h.elim
  · obtain ⟨hok, h⟩ := h
    refine ⟨hok, ?_⟩
    split at h
    · exact fin _ h
    · exact fin _ h
    · exact h.elim
  · exact h.elim

theorem mapAV_inj {es es' : List (List AV)} (h : mapAV es = mapAV es') : es = es' := by
  unfold mapAV at h; injection h

theorem swap_lk_ent {d1 d2 : Nat} {x k : MArg} {n n' : Option Nat} {z : AV} (hd : d1 ≠ d2) (h1 : freshIn d1 [x, k] = true) (h2 : freshIn d2 [x, k] = true) (hl : lowB [x, k] = true) (hd1 : d1 < gS) (hd2 : d2 < gS)
    {s : St} {K : St → Prop} (h : vc1 P (.lookup d1 x k n false z) s (fun s1 => vc1 P (.mapEnt d2 x k n' z) s1 K)) : vc1 P (.mapEnt d2 x k n' z) s (fun s1 => vc1 P (.lookup d1 x k n false z) s1 K) := by
  have hb0 : gS < oS := by simp [gS, oS]
  simp only [vc1, Bool.false_eq_true, if_false] at h ⊢
  split at h
  · rename_i b e1
    obtain ⟨es, he, hok, h⟩ := h
    rw [e1]
    have ex : ∀ v w M, x.ev (((s.set (oS + b) M).set d2 w).set d1 v).env = .mapr b := fun v w M => by
      rw [ev_set (fresh_mem h1 (x := x) (by simp)), ev_set (fresh_mem h2 (x := x) (by simp)), ev_set (fresh_mem (low_fresh hl b) (x := x) (by simp))]; exact e1
    have ex2 : ∀ w M, x.ev ((s.set (oS + b) M).set d2 w).env = .mapr b := fun w M => by
      rw [ev_set (fresh_mem h2 (x := x) (by simp)), ev_set (fresh_mem (low_fresh hl b) (x := x) (by simp))]; exact e1
    have ek2 : ∀ w M, k.ev ((s.set (oS + b) M).set d2 w).env = k.ev s.env := fun w M => by
      rw [ev_set (fresh_mem h2 (x := k) (by simp)), ev_set (fresh_mem (low_fresh hl b) (x := k) (by simp))]
    have eo2 : ∀ w M, ((s.set (oS + b) M).set d2 w).env (oS + b) = M := fun w M => by
      rw [oS_set hd2]; exact upd_same _ _ _
    have inner : ∀ u, vc1 P (.mapEnt d2 x k n' z) (s.set d1 u) K → keyOK n' (k.ev s.env).erase ∧ keyEq (k.ev s.env).erase (k.ev s.env).erase = some true ∧ (∀ i, keyAt (k.ev s.env).erase es 0 = some (some i) → K (((s.set d1 u).set (oS + b) (mapAV (es.set i [(k.ev s.env).erase, (es.getD i []).getD 1 .any]))).set d2 (.tuple [(es.getD i []).getD 1 .any, .lit (.int .i64 i)]))) ∧
        (keyAt (k.ev s.env).erase es 0 = some none → K (((s.set d1 u).set (oS + b) (mapAV (es ++ [[(k.ev s.env).erase, z]]))).set d2 (.tuple [z, .lit (.int .i64 es.length)]))) := by
      intro u hu
      simp only [vc1] at hu
      rw [ev_set (fresh_mem h1 (x := x) (by simp)), ev_set (fresh_mem h1 (x := k) (by simp)), e1] at hu
      obtain ⟨es2, he2, hok2, hkk, hu⟩ := hu
      rw [oS_set hd1, he] at he2
      have := mapAV_inj he2
      subst this
      refine ⟨hok2, hkk, fun i hi => ?_, fun hi => ?_⟩
      · rw [hi] at hu; exact hu
      · rw [hi] at hu; exact hu
    have out : ∀ (es' : List (List AV)) (T u : AV) (i : Nat), K (((s.set d1 u).set (oS + b) (mapAV es')).set d2 T) → keyAt (k.ev s.env).erase es' 0 = some (some i) → ((es'.getD i []).getD 1 .any).erase = u → vc1 P (.lookup d1 x k n false z) ((s.set (oS + b) (mapAV es')).set d2 T) K := by
      intro es' T u i hK hka hu
      simp only [vc1, ex2, ek2, eo2]
      refine ⟨es', rfl, hok, ?_⟩
      rw [hka]
      simp only [Bool.false_eq_true, if_false, hu]
      rw [set_comm s u _ (show d1 ≠ oS + b by omega), set_comm _ u T hd] at hK
      exact hK
    split at h
    · rename_i i hka
      obtain ⟨g1, g2, g3, -⟩ := inner _ h
      have hlt := keyAt_lt hka
      refine ⟨es, he, g1, g2, ?_⟩
      rw [hka]
      refine out _ _ _ i (g3 i hka) (by have := keyAt_set (v := (es.getD i []).getD 1 .any) hka g2; simpa using this) ?_
      simp only [List.getD_eq_getElem?_getD, List.getElem?_set_self (show i < es.length by omega)]
      rfl
    · rename_i hka
      obtain ⟨g1, g2, -, g4⟩ := inner _ h
      refine ⟨es, he, g1, g2, ?_⟩
      rw [hka]
      refine out _ _ _ es.length (g4 hka) (by have := keyAt_app (v := z) hka g2; simpa using this) ?_
      simp
    · exact h.elim
  · rename_i es e1
    obtain ⟨hok, h⟩ := h
    have no : ∀ u, ¬ vc1 P (.mapEnt d2 x k n' z) (s.set d1 u) K := by
      intro u hu
      simp only [vc1] at hu
      rw [ev_set (fresh_mem h1 (x := x) (by simp)), e1] at hu
      exact hu
    split at h
    · exact absurd h (no _)
    · exact absurd h (no _)
    · exact h.elim
  · exact h.elim

theorem lookup_mono {d : Nat} {x k : MArg} {n : Option Nat} {ok : Bool} {z : AV} {s : St} {K K' : St → Prop} (hf : FinS s) (hk : ∀ s, FinS s → K s → K' s) (h : vc1 P (.lookup d x k n ok z) s K) : vc1 P (.lookup d x k n ok z) s K' := by
  simp only [vc1] at h ⊢
  split at h
  · obtain ⟨es, h1, h2, h3⟩ := h
    refine ⟨es, h1, h2, ?_⟩
    split at h3
    · exact hk _ (hf.set _ _) h3
    · exact hk _ (hf.set _ _) h3
    · exact h3.elim
  · obtain ⟨h2, h3⟩ := h
    refine ⟨h2, ?_⟩
    split at h3
    · exact hk _ (hf.set _ _) h3
    · exact hk _ (hf.set _ _) h3
    · exact h3.elim
  · exact h.elim

def sameZ : AV → AV → Bool
  | .lit (.int k a), .lit (.int k' b) => k == k' && a == b
  | _, _ => false
theorem sameZ_eq {x y : AV} (h : sameZ x y = true) : x = y := by
  unfold sameZ at h
  split at h
  · simp only [Bool.and_eq_true, beq_iff_eq] at h
    rw [h.1, h.2]
  · cases h

def commB (y i : MOp) : Bool :=
  match pureOf y with
  | some (dy, ry) => match pureOf i with
    | some (di, ri) => dy != di && freshIn dy ri && freshIn di ry
    | none => match i with
      | .alloc di _ => dy != di && freshIn di ry
      | .mkS di _ _ _ ps => dy != di && freshIn dy (ps.map (·.2)) && freshIn di ry && okArgs ry
      | .app di x x' _ _ => dy != di && freshIn dy [x, x'] && freshIn di ry && okArgs ry
      | .guard g _ (some d) (.mkS di _ _ _ ps) => d == di && dy != di && freshIn dy (.t g :: ps.map (·.2)) && freshIn di ry && okArgs ry
      | .apart zs x (.store x1 x' _ _) => sameT x x1 && freshIn dy (x :: x' :: zs) && okArgs ry && (loadAddrs y).all fun z => zs.any (sameT z)
      | .mapEnt di x k _ _ => dy != di && freshIn dy [x, k] && freshIn di ry && lowB ry && decide (dy < gS)
      | _ => false
  | none => match y, i with
    | .alloc d1 _, .alloc d2 _ => d1 != d2
    | .alloc d1 _, .apart zs x (.store x1 x' _ o2) => o2 == 0 && sameT x x1 && freshIn d1 (x :: x' :: zs)
    | .apart _ x (.store x1 _ _ o1), .apart zs x2 (.store x3 _ _ o2) => o1 == 0 && o2 == 0 && sameT x x1 && sameT x2 x3 && zs.any (sameT x)
    | .apart zs x (.store x1 x' _ o1), m => o1 == 0 && sameT x x1 && match pureOf m with
      | some (di, _) => freshIn di (x :: x' :: zs) && (loadAddrs m).all fun z => zs.any (sameT z)
      | none => false
    | .mkS d1 _ _ _ p1, .mkS d2 _ _ _ p2 => d1 != d2 && freshIn d1 (p2.map (·.2)) && freshIn d2 (p1.map (·.2)) && okArgs (p1.map (·.2)) && okArgs (p2.map (·.2))
    | .guard g1 _ (some c1) (.mkS d1 _ _ _ p1), .guard g2 _ (some c2) (.mkS d2 _ _ _ p2) => c1 == d1 && c2 == d2 && d1 != d2 && d1 != g2 && d2 != g1 && freshIn d1 (p2.map (·.2)) && freshIn d2 (p1.map (·.2)) && okArgs (p1.map (·.2)) && okArgs (p2.map (·.2))
    | .mkS d1 _ _ _ p1, .app d2 x x' _ _ => d1 != d2 && freshIn d1 [x, x'] && freshIn d2 (p1.map (·.2)) && okArgs (p1.map (·.2)) && okArgs [x, x']
    | .lookup d1 x k _ false z, .mapEnt d2 x2 k2 _ z2 => sameT x x2 && sameT k k2 && sameZ z z2 && d1 != d2 && freshIn d1 [x, k] && freshIn d2 [x, k] && lowB [x, k] && decide (d1 < gS) && decide (d2 < gS)
    | .lookup d1 x k _ false _, .alloc d2 _ => d1 != d2 && freshIn d2 [x, k] && decide (d2 < gS)
    | .lookup d1 x k _ false _, m => match pureOf m with
      | some (di, ri) => d1 != di && freshIn d1 ri && freshIn di [x, k] && decide (di < gS)
      | none => false
    | _, _ => false

theorem comm_swap {y i : MOp} (h : commB y i = true) {s : St} {K : St → Prop} (hf : FinS s) (hv : vc1 P y s (fun s1 => vc1 P i s1 K)) : vc1 P i s (fun s1 => vc1 P y s1 K) := by
  unfold commB at h
  split at h
  · rename_i dy ry hy
    split at h
    · rename_i di ri hi
      simp only [Bool.and_eq_true, bne_iff_ne] at h
      exact swap_pp hy hi h.1.1 h.1.2 h.2 hv
    · split at h
      · simp only [Bool.and_eq_true, bne_iff_ne] at h
        exact swap_alloc hy h.1 h.2 hv
      · simp only [Bool.and_eq_true, bne_iff_ne] at h
        exact swap_mkS hy h.1.1.1 h.1.1.2 h.1.2 h.2 hv
      · simp only [Bool.and_eq_true, bne_iff_ne] at h
        exact swap_app hy h.1.1.1 h.1.1.2 h.1.2 h.2 hv
      · simp only [Bool.and_eq_true, bne_iff_ne, beq_iff_eq] at h
        obtain ⟨⟨⟨⟨rfl, g1⟩, g2⟩, g3⟩, g4⟩ := h
        exact swap_gmkS hy g1 g2 g3 g4 hv
      · rename_i zs x x1 x' n oid hni
        simp only [Bool.and_eq_true] at h
        obtain ⟨⟨⟨h1, h2⟩, h3⟩, h4⟩ := h
        have e := sameT_eq h1
        subst e
        refine swap_store hy h2 h3 (fun z hz => ?_) hv
        have := (List.all_eq_true.1 h4) z hz
        obtain ⟨w, hw, e⟩ := List.any_eq_true.1 this
        rw [sameT_eq e]; exact hw
      · simp only [Bool.and_eq_true, bne_iff_ne, decide_eq_true_eq] at h
        exact swap_p_ent hy h.1.1.1.1 h.1.1.1.2 h.1.1.2 h.1.2 h.2 hv
      · cases h
  · split at h
    · simp only [bne_iff_ne] at h
      exact swap_alloc2 h hv
    · simp only [Bool.and_eq_true, beq_iff_eq] at h
      obtain ⟨⟨h1, h2⟩, h3⟩ := h
      have e := sameT_eq h2
      subst e h1
      exact swap_alloc_store h3 hf hv
    · simp only [Bool.and_eq_true, beq_iff_eq] at h
      obtain ⟨⟨⟨⟨h1, h2⟩, h3⟩, h4⟩, h5⟩ := h
      have e := sameT_eq h3
      have e' := sameT_eq h4
      subst e e' h1 h2
      obtain ⟨w, hw, e⟩ := List.any_eq_true.1 h5
      rw [← sameT_eq e] at hw
      exact swap_store2 hw hv
    · simp only [Bool.and_eq_true, beq_iff_eq] at h
      obtain ⟨⟨h1, h2⟩, h3⟩ := h
      have e := sameT_eq h2
      subst e h1
      split at h3
      · rename_i di ri hi
        simp only [Bool.and_eq_true] at h3
        refine swap_store_pure hi h3.1 (fun z hz => ?_) hv
        obtain ⟨w, hw, e⟩ := List.any_eq_true.1 ((List.all_eq_true.1 h3.2) z hz)
        rw [sameT_eq e]; exact hw
      · cases h3
    · simp only [Bool.and_eq_true, bne_iff_ne] at h
      exact swap_mkS2 h.1.1.1.1 h.1.1.1.2 h.1.1.2 h.1.2 h.2 hv
    · simp only [Bool.and_eq_true, bne_iff_ne, beq_iff_eq] at h
      obtain ⟨⟨⟨⟨⟨⟨⟨⟨rfl, rfl⟩, g1⟩, g2⟩, g3⟩, g4⟩, g5⟩, g6⟩, g7⟩ := h
      exact swap_gg g1 g2 g3 g4 g5 g6 g7 hv
    · simp only [Bool.and_eq_true, bne_iff_ne] at h
      exact swap_mkS_app h.1.1.1.1 h.1.1.1.2 h.1.1.2 h.1.2 h.2 hv
    · simp only [Bool.and_eq_true, bne_iff_ne, decide_eq_true_eq] at h
      obtain ⟨⟨⟨⟨⟨⟨⟨⟨g1, g2⟩, g3⟩, g4⟩, g5⟩, g6⟩, g7⟩, g8⟩, g9⟩ := h
      have e1 := sameT_eq g1
      have e2 := sameT_eq g2
      have e3 := sameZ_eq g3
      subst e1 e2 e3
      exact swap_lk_ent g4 g5 g6 g7 g8 g9 hv
    · simp only [Bool.and_eq_true, bne_iff_ne, decide_eq_true_eq] at h
      exact swap_lk_alloc h.1.1 h.1.2 h.2 hv
    · split at h
      · rename_i di ri hi
        simp only [Bool.and_eq_true, bne_iff_ne, decide_eq_true_eq] at h
        exact swap_lk_p hi h.1.1.1 h.1.1.2 h.1.2 h.2 hv
      · cases h
    · cases h

theorem comm_mono {y i : MOp} (h : commB y i = true) {s : St} {K K' : St → Prop} (hf : FinS s) (hk : ∀ s, FinS s → K s → K' s) (hv : vc1 P y s K) : vc1 P y s K' := by
  unfold commB at h
  split at h
  · rename_i dy ry hy
    rw [pv_vc1 P y dy ry hy] at hv ⊢
    exact pv_mono P _ _ y _ _ (fun v => hk _ (hf.set _ _)) hv
  · split at h
    · exact fun b hb => hk _ ((hf.new _ _).set _ _) (hv b hb)
    · exact fun b hb => hk _ ((hf.new _ _).set _ _) (hv b hb)
    · simp only [Bool.and_eq_true, beq_iff_eq] at h
      have e := h.1.1.1.1
      subst e
      obtain ⟨ha, hv⟩ := hv
      exact ⟨ha, storeK0_mono (fun b cs => hk _ (hf.new _ _)) hv⟩
    · simp only [Bool.and_eq_true, beq_iff_eq] at h
      have e := h.1.1
      subst e
      obtain ⟨ha, hv⟩ := hv
      exact ⟨ha, storeK0_mono (fun b cs => hk _ (hf.new _ _)) hv⟩
    · exact fillS_mono _ _ _ _ _ _ (fun v => hk _ ((hf.dem _).set _ _)) hv
    · simp only [Bool.and_eq_true, beq_iff_eq] at h
      rcases guard_inv hv with ⟨ha, hv⟩ | ⟨ha, hv⟩
      · have e := h.1.1.1.1.1.1.1.1
        subst e
        exact guard_mkS ha (fillS_mono _ _ _ _ _ _ (fun v => hk _ ((hf.dem _).set _ _)) hv)
      · exact guard_skip ha (hk _ (hf.set _ _) hv)
    · exact fillS_mono _ _ _ _ _ _ (fun v => hk _ ((hf.dem _).set _ _)) hv
    · exact lookup_mono hf hk hv
    · exact lookup_mono hf hk hv
    · exact lookup_mono hf hk hv
    · cases h

theorem move_front {i : MOp} {post : List MOp} {K : St → Prop} : ∀ (pre : List MOp), (∀ y ∈ pre, commB y i = true) → ∀ s, FinS s → vcs P (pre ++ i :: post) K s → vc1 P i s (vcs P (pre ++ post) K)
  | [], _, s, _, h => h
  | y :: pre, hc, s, hf, h => by
    have hy := hc y (by simp)
    refine comm_swap hy hf (comm_mono hy hf (fun s1 hf1 h1 => ?_) h)
    exact move_front pre (fun z hz => hc z (by simp [hz])) s1 hf1 h1

inductive Reach (ops : Array Oper) : Nat → Nat → Prop
  | one {i : Nat} {o : Oper} {e : Edge} (ho : ops[i]? = some o) (he : e ∈ o.after) (hb : Region.binds .any e = true) : Reach ops i e.on
  | more {i y : Nat} {o : Oper} {e : Edge} (ho : ops[i]? = some o) (he : e ∈ o.after) (hb : Region.binds .any e = true) (h : Reach ops e.on y) : Reach ops i y

def orderOK (bs : Array Nat) : List (Nat × MOp) → Bool
  | [] => true
  | (y, my) :: rest => (rest.all fun p => (bs.getD p.1 0).testBit y || commB my p.2) && orderOK bs rest

theorem mask_fold (ops : Array Oper) (acc : Array Nat) (i : Nat) (o : Oper) (ho : ops[i]? = some o) (hacc : ∀ j y, (acc.getD j 0).testBit y = true → Reach ops j y) : ∀ (es : List Edge), (∀ e ∈ es, e ∈ o.after) → ∀ (s0 : Nat),
    (∀ y, s0.testBit y = true → Reach ops i y) → ∀ y, (es.foldl (fun s e => if Region.binds .any e then s ||| 2 ^ e.on ||| acc.getD e.on 0 else s) s0).testBit y = true → Reach ops i y
  | [], _, s0, h0, y, h => h0 y h
  | e :: es, hes, s0, h0, y, h => by
    refine mask_fold ops acc i o ho hacc es (fun e he => hes e (List.mem_cons_of_mem _ he)) _ (fun z hz => ?_) y h
    dsimp only at hz
    split at hz
    · rename_i hb
      simp only [Nat.testBit_or, Bool.or_eq_true, Nat.testBit_two_pow, decide_eq_true_eq] at hz
      rcases hz with (hz | hz) | hz
      · exact h0 z hz
      · rw [← hz]; exact .one ho (hes e (List.mem_cons_self ..)) hb
      · exact .more ho (hes e (List.mem_cons_self ..)) hb (hacc _ _ hz)
    · exact h0 z hz

theorem before_reach (ops : Array Oper) : ∀ j y, ((Region.before ops).getD j 0).testBit y = true → Reach ops j y := by
  have key : ∀ (l : List Oper) (acc : Array Nat), (∀ k, l[k]? = ops[acc.size + k]?) → (∀ j y, (acc.getD j 0).testBit y = true → Reach ops j y) →
      ∀ j y, ((l.foldl (fun (acc : Array Nat) o => acc.push (o.after.foldl (fun s e => if Region.binds .any e then s ||| 2 ^ e.on ||| acc.getD e.on 0 else s) 0)) acc).getD j 0).testBit y = true → Reach ops j y := by
    intro l
    induction l with
    | nil => intro acc _ h; exact h
    | cons o l ih =>
      intro acc hl h
      have ho : ops[acc.size]? = some o := by have := hl 0; simpa using this.symm
      refine ih _ (fun k => ?_) (fun j y hj => ?_)
      · have := hl (k + 1)
        rw [Array.size_push]
        simpa [Nat.add_assoc, Nat.add_comm 1 k] using this
      · by_cases hjj : j < acc.size
        · refine h j y ?_
          simp only [Array.getD_eq_getD_getElem?, Array.getElem?_push] at hj ⊢
          rw [if_neg (by omega)] at hj
          exact hj
        · by_cases hje : j = acc.size
          · subst hje
            have e1 : ∀ M : Nat, (acc.push M).getD acc.size 0 = M := fun M => by simp
            rw [e1, ← Array.foldl_toList] at hj
            exact mask_fold ops acc acc.size o ho h o.after.toList (fun e he => by simpa using he) 0 (fun z hz => by simp at hz) y hj
          · simp only [Array.getD_eq_getD_getElem?, Array.getElem?_push] at hj
            rw [if_neg hje, Array.getElem?_eq_none (by omega)] at hj
            simp at hj
  intro j y h
  unfold Region.before at h
  rw [← Array.foldl_toList] at h
  exact key ops.toList #[] (fun k => by simp) (fun j y hj => by simp at hj) j y h

theorem ready_waits {ops : Array Oper} {listed : Array Bool} (hcl : ∀ i o, listed.getD i true = true → i < ops.size → ops[i]? = some o → o.after.all (fun e => !Region.binds .any e || listed.getD e.on false) = true) (hls : listed.size = ops.size) {i y : Nat} (h : Reach ops i y) :
    ∀ o, ops[i]? = some o → o.after.all (fun e => !Region.binds .any e || listed.getD e.on false) = true → listed.getD y false = true := by
  induction h with
  | one ho he hb =>
    intro o ho' hall
    rw [ho] at ho'; injection ho' with ho'; subst ho'
    have hl := (Array.all_eq_true_iff_forall_mem.1 hall) _ he
    simpa [hb] using hl
  | @more i y o e ho he hb h ih =>
    intro o' ho' hall
    rw [ho] at ho'; injection ho' with ho'; subst ho'
    have hl := (Array.all_eq_true_iff_forall_mem.1 hall) _ he
    simp only [hb, Bool.not_true, Bool.false_or] at hl
    have hlt : e.on < listed.size := by
      rcases Nat.lt_or_ge e.on listed.size with h3 | h3
      · exact h3
      · simp [Array.getD_eq_getD_getElem?, Array.getElem?_eq_none h3] at hl
    have ho2 : ops[e.on]? = some ops[e.on] := Array.getElem?_eq_getElem (by omega)
    refine ih _ ho2 (hcl e.on _ ?_ (by omega) ho2)
    rw [Array.getD_eq_getD_getElem?, Array.getElem?_eq_getElem hlt] at hl ⊢
    exact hl

end Go.Avm

namespace Go.Avm
open Go.RowKit

def isNilC : Operand → Bool
  | .const (.slice none 0 0) => true
  | _ => false

def trD (P : Program) (ann : Ann) (N : Nat) (ops : Array Oper) (o : Oper) : Option MOp :=
  match o.guard, o.dst, o.op with
  | none, some d, .assign x => if isNilC x || ann.own.contains d then trG P ann N ops o else if d < N then (argOf x).map (.cpyE d ·) else none
  | none, some d, .load _ _ => match trG P ann N ops o with
    | some (.load d' x n) => if ann.imm.contains d then some (.loadI d' x n) else some (.load d' x n)
    | m => m
  | none, none, .store _ (.tmp k) _ => match trG P ann N ops o with
    | some (.store x y n oid) => some (.apart (look ann.ap k []) x (.store x y n oid))
    | m => m
  | _, _, _ => trG P ann N ops o

section
variable {P : Program} {N : Nat} {s : St} {a : Act} {w : World} {A : Area} {sp : Sp} {K : St → Prop} {Q : Exit → Act → World → Prop} {o : Oper}

theorem stepD_sound {ann : Ann} {ops : Array Oper} {m : MOp} {rest : Act → World → Prop} (hm : trD P ann N ops o = some m) (h : RS N s a w A sp) (hv : vc1 P m s K) (hn : Next s w A sp N K rest) :
    (if Region.wanted o (yielded ops a.tmps) = true then o.wp P a w rest Q ∨ (o.asks P a w ∧ LetsOut Q) else rest (a.put o.dst undef) w) := by
  unfold trD at hm
  split at hm
  · rename_i d x hg hd hop
    split at hm
    · exact step_sound hm h hv hn
    · split at hm
      · rename_i hN
        simp only [Option.map_eq_some_iff] at hm
        obtain ⟨y, hy, rfl⟩ := hm
        have hw : Region.wanted o (yielded ops a.tmps) = true := by simp [Region.wanted, hg]
        rw [if_pos hw]
        exact .inl (fin h hd hN (by simp [execOp, hop]) (argOf_sound h hy).1.erase .erase hv hn)
      · cases hm
  · split at hm
    · rename_i d' x n hm'
      split at hm
      · injection hm with hm; subst hm
        refine step_sound hm' h ?_ hn
        simp only [vc1] at hv ⊢
        split at hv
        · rename_i e1; rw [e1]; exact hv
        · exact hv.elim
      · injection hm with hm; subst hm
        exact step_sound hm' h hv hn
    · exact step_sound hm h hv hn
  · split at hm
    · rename_i hm'
      injection hm with hm; subst hm
      exact step_sound hm' h hv.2 hn
    · exact step_sound hm h hv hn
  · exact step_sound hm h hv hn
end

section
variable {P : Program} {N : Nat} {s : St} {a : Act} {w : World} {A : Area} {sp : Sp} {K : St → Prop} {next : Act → World → Prop} {Q : Exit → Act → World → Prop} {o : Oper} {d : Nat}

theorem s_loadD {t : TypeId} {x : Operand} {m : MArg} {n : Nat} (hop : o.op = .load t x) (hd : o.dst = some d) (hN : d < N) (hx : argOf x = some m) (ht : partN P t = some (some n))
    (h : RS N s a w A sp) (hv : vc1 P (.loadD d m n) s K) (hn : Next s w A sp N K next) : o.wp P a w next Q := by
  have h1 := (argOf_sound h hx).1
  simp only [vc1] at hv
  split at hv
  · rename_i b off hcs
    rw [hcs] at h1
    generalize hv0 : a.eval x = v0 at h1
    cases h1
    split at hv
    · rename_i cs hb
      obtain ⟨vs, T, hh, hsz, hr⟩ := h.loc b cs hb
      have hcell : ∀ i, off + i < cs.length → w.cell? ⟨b, off + i, none⟩ = some (vs.getD (off + i) undef) := by
        intro i hi
        simp [World.cell?, hh, Array.getD_eq_getD_getElem?, Array.getElem?_eq_getElem (show off + i < vs.size by omega)]
      have := loadVar_run ht w b off (fun i => vs.getD (off + i) undef) (fun i hi => hcell i (by simp at hi; omega))
      have hrow : ∀ i, RV w A (((cs.drop off).take n).getD i .any) (((Array.range n).map fun i => vs.getD (off + i) undef).getD i undef) ∧ Own1 sp (((cs.drop off).take n).getD i .any) (((Array.range n).map fun i => vs.getD (off + i) undef).getD i undef) := by
        intro i
        by_cases hi : i < n
        · have := hr (off + i)
          simp only [List.getD_eq_getElem?_getD, List.getElem?_take, hi, if_true, List.getElem?_drop, Array.getD_eq_getD_getElem?, Array.getElem?_map] at this ⊢
          rw [Array.getElem?_eq_getElem (by simpa using hi)]
          exact ⟨by simpa using this.1, Own1.of (by simpa using this.2)⟩
        · simp only [List.getD_eq_getElem?_getD, List.getElem?_take, hi, if_false, Option.getD_none]
          exact ⟨.any _, trivial⟩
      exact fin (v := .agg ((Array.range n).map fun i => vs.getD (off + i) undef)) (x := .deep (.agg ((cs.drop off).take n))) h hd hN
        (by simp only [execOp, hop, hv0, Instr.loadAt, Instr.sureAddr, Sem.run_bind, Sem.run_pure, Result.andThen_ok, this])
        (.deep _ _ (.agg _ _ (by simp; omega) fun i => (hrow i).1)) (fun i => (hrow i).2) hv.2 hn
    · exact hv.elim
  · exact hv.elim

theorem s_extD {x : Operand} {mx : MArg} {i : Nat} (hop : o.op = .extract x i) (hd : o.dst = some d) (hN : d < N) (hx : argOf x = some mx)
    (h : RS N s a w A sp) (hv : vc1 P (.extD d mx i) s K) (hn : Next s w A sp N K next) : o.wp P a w next Q := by
  obtain ⟨h1, h2⟩ := argOf_sound h hx
  simp only [vc1] at hv
  split at hv
  · rename_i xs e1
    rw [e1] at h1 h2
    generalize hv0 : a.eval x = v0 at h1 h2
    cases h1 with
    | deep _ _ h1 =>
    cases h1 with
    | tuple _ vs hs hr =>
      have : vs[i]? = some (vs.getD i undef) := by
        rw [Array.getD_eq_getD_getElem?, Array.getElem?_eq_getElem (by omega)]; rfl
      have hrun : (Instr.extract (.tuple vs) i).run P w = .ok (vs.getD i undef) w := by
        generalize vs.getD i undef = v at this
        simp [Instr.extract, this]
      have hrun2 : (execOp a.eval o).run P w = .ok (.value (vs.getD i undef)) w := by simp only [execOp, hop, hv0, Sem.run_bind, hrun, Result.andThen_ok, Sem.run_pure]
      have h3 : Own2 sp (xs.getD i .any) (vs.getD i undef) := h2 i
      have h4 := hr i
      have hv := hv.2
      split at hv
      · rename_i cs e2
        rw [e2] at h3 h4
        exact fin (v := vs.getD i undef) h hd hN hrun2 (.deep _ _ h4) h3 hv hn
      · exact fin (v := vs.getD i undef) h hd hN hrun2 h4.erase .erase hv hn
  · exact hv.elim

theorem s_storeD {t : TypeId} {x y : Operand} {mx my : MArg} {n : Nat} (hop : o.op = .store t x y) (hd : o.dst = none) (hx : argOf x = some mx) (hy : argOf y = some my) (hz : szOf P t = some n) (hn0 : 0 < n)
    (h : RS N s a w A sp) (hv : vc1 P (.storeD mx my n) s K) (hn : Next s w A sp N K next) : o.wp P a w next Q := by
  have h1 := (argOf_sound h hx).1
  obtain ⟨h2, h3⟩ := argOf_sound h hy
  simp only [vc1] at hv
  split at hv
  · rename_i b off e1
    rw [e1] at h1
    generalize hv0 : a.eval x = v0 at h1
    cases h1
    split at hv
    · rename_i cs hb
      obtain ⟨hoff, hv⟩ := hv
      split at hv
      · rename_i ys e2
        rw [e2] at h2 h3
        obtain ⟨hl, hc1, hv⟩ := hv
        obtain ⟨vs, T, hh, hsz, hr⟩ := h.loc b cs hb
        generalize hvy : a.eval y = vy at h2 h3
        cases h2 with
        | deep _ _ h2 =>
        cases h2 with
        | agg _ us hs2 hr2 =>
        have hr3 : ∀ i, Own1 sp (ys.getD i .any) (us.getD i undef) := h3
        have hry : ∀ i, RV w A (ys.getD i .any) (us.getD i undef) ∧ OwnOK sp (ys.getD i .any) (us.getD i undef) := fun i => by
          refine ⟨hr2 i, (hr3 i).ok fun z hz => ?_⟩
          by_cases hi : i < ys.length
          · rw [List.getD_eq_getElem?_getD, List.getElem?_eq_getElem hi, Option.getD_some] at hz
            have := (List.all_eq_true.1 hc1) _ (List.getElem_mem hi)
            rw [hz] at this; cases this
          · rw [List.getD_eq_getElem?_getD, List.getElem?_eq_none (by omega)] at hz
            cases hz
        have hrun := storeAt_run (P := P) (w := w) hz hh (v := .agg us) (off := off) (by show us.size = n; omega) (by omega)
          (cells_oneCell (x := .agg ys) (v := .agg us) hr2 hs2 hc1)
        have hrun' : (execOp a.eval o).run P w = .ok .skip (w.setRow b (vs.toList.take off ++ us.toList ++ vs.toList.drop (off + n)).toArray) := by
          simp only [execOp, hop, hv0, hvy, Sem.run_bind, hrun, Result.andThen_ok, Sem.run_pure]; rfl
        refine fin0 (h.setRow hb hh ?_ (fun i => ?_)) (RS.evSetRow _ _ hb) hd hrun' hv hn
        · rw [splice_len]
          simp only [List.size_toArray, List.length_append, List.length_take, List.length_drop, Array.length_toList]
          omega
        · have e := row_getD vs us.toList off i (by simp; omega)
          simp only [Array.length_toList, hs2, hl] at e
          rw [e, splice_getD _ _ _ _ (by omega), hl]
          split
          · have := hry (i - off)
            simpa [List.getD_eq_getElem?_getD, Array.getD_eq_getD_getElem?] using this
          · exact hr i
      · exact hv.elim
    · exact hv.elim
  · exact hv.elim
end

def trGd (P : Program) (ann : Ann) (N : Nat) (ops : Array Oper) (o : Oper) : Option MOp :=
  match o.guard, o.dst, o.op with
  | none, some d, .load t x => if ann.dp.contains d then (match partN P t, argOf x with
    | some (some n), some x => if d < N then some (.loadD d x n) else none
    | _, _ => none) else trG P ann N ops o
  | none, some d, .extract x i => if ann.dp.contains d then (match argOf x with
    | some x => if d < N then some (.extD d x i) else none
    | none => none) else trG P ann N ops o
  | none, none, .store t (.tmp k) y => if ann.dp.contains k then (match szOf P t, argOf y with
    | some n, some y => if 0 < n then some (.storeD (.t k) y n) else none
    | _, _ => none) else trG P ann N ops o
  | _, _, _ => trG P ann N ops o

section
variable {P : Program} {N : Nat} {s : St} {a : Act} {w : World} {A : Area} {sp : Sp} {K : St → Prop} {Q : Exit → Act → World → Prop} {o : Oper}

theorem stepGd_sound {ann : Ann} {ops : Array Oper} {m : MOp} {rest : Act → World → Prop} (hm : trGd P ann N ops o = some m) (h : RS N s a w A sp) (hv : vc1 P m s K) (hn : Next s w A sp N K rest) :
    (if Region.wanted o (yielded ops a.tmps) = true then o.wp P a w rest Q ∨ (o.asks P a w ∧ LetsOut Q) else rest (a.put o.dst undef) w) := by
  unfold trGd at hm
  split at hm
  · rename_i d t x hg hd hop
    have hw : Region.wanted o (yielded ops a.tmps) = true := by simp [Region.wanted, hg]
    split at hm
    · split at hm
      · rename_i n mx ht hx
        split at hm
        · rename_i hN
          injection hm with hm; subst hm
          rw [if_pos hw]
          exact .inl (s_loadD hop hd hN hx ht h hv hn)
        · cases hm
      · cases hm
    · exact step_sound hm h hv hn
  · rename_i d x i hg hd hop
    have hw : Region.wanted o (yielded ops a.tmps) = true := by simp [Region.wanted, hg]
    split at hm
    · split at hm
      · rename_i mx hx
        split at hm
        · rename_i hN
          injection hm with hm; subst hm
          rw [if_pos hw]
          exact .inl (s_extD hop hd hN hx h hv hn)
        · cases hm
      · cases hm
    · exact step_sound hm h hv hn
  · rename_i t k y hg hd hop
    have hw : Region.wanted o (yielded ops a.tmps) = true := by simp [Region.wanted, hg]
    split at hm
    · split at hm
      · rename_i n my hz hy
        split at hm
        · rename_i hn0
          injection hm with hm; subst hm
          rw [if_pos hw]
          exact .inl (s_storeD hop hd rfl hy hz hn0 h hv hn)
        · cases hm
      · cases hm
    · exact step_sound hm h hv hn
  · exact step_sound hm h hv hn
end

def fwdB (ops : Array Oper) : Bool := (List.range ops.size).all fun i => match ops[i]? with
  | some o => o.after.all fun e => !Region.binds .any e || decide (e.on < i)
  | none => true

def nodupB : List Nat → Bool
  | [] => true
  | x :: xs => !xs.contains x && nodupB xs

theorem nodupB_spec : ∀ (l : List Nat), nodupB l = true → l.Nodup
  | [], _ => List.nodup_nil
  | x :: xs, h => by
    simp only [nodupB, Bool.and_eq_true, Bool.not_eq_true'] at h
    exact List.nodup_cons.2 ⟨by simpa using h.1, nodupB_spec xs h.2⟩

theorem orderOK_drop {bs : Array Nat} {x : Nat × MOp} {post : List (Nat × MOp)} : ∀ (pre : List (Nat × MOp)), orderOK bs (pre ++ x :: post) = true → orderOK bs (pre ++ post) = true ∧ ∀ y ∈ pre, ((bs.getD x.1 0).testBit y.1 || commB y.2 x.2) = true
  | [], h => by
    simp only [List.nil_append, orderOK, Bool.and_eq_true] at h
    exact ⟨h.2, by simp⟩
  | (y, my) :: pre, h => by
    simp only [List.cons_append, orderOK, Bool.and_eq_true] at h
    obtain ⟨h1, h2⟩ := orderOK_drop pre h.2
    refine ⟨?_, fun z hz => ?_⟩
    · simp only [List.cons_append, orderOK, Bool.and_eq_true]
      refine ⟨List.all_eq_true.2 fun p hp => (List.all_eq_true.1 h.1) p ?_, h1⟩
      rcases List.mem_append.1 hp with hp | hp
      · exact List.mem_append_left _ hp
      · exact List.mem_append_right _ (List.mem_cons_of_mem _ hp)
    · rcases List.mem_cons.1 hz with rfl | hz
      · exact (List.all_eq_true.1 h.1) x (List.mem_append_right _ (List.mem_cons_self ..))
      · exact h2 z hz

theorem game {P : Program} {ann : Ann} {N : Nat} {ops : Array Oper} {K : St → Prop} {Q : Exit → Act → World → Prop} (hfwd : fwdB ops = true) : ∀ (n : Nat) (rem : List (Nat × MOp)) (listed : Array Bool) (s : St) (a : Act) (w : World) (A : Area) (sp : Sp),
    rem.length = n → listed.size = ops.size → (rem.map (·.1)).Nodup → (∀ i, i < ops.size → (listed.getD i true = false ↔ i ∈ rem.map (·.1))) →
    (∀ p ∈ rem, ∃ o, ops[p.1]? = some o ∧ trD P ann N ops o = some p.2) → orderOK (Region.before ops) rem = true →
    (∀ i o, listed.getD i true = true → i < ops.size → ops[i]? = some o → o.after.all (fun e => !Region.binds .any e || listed.getD e.on false) = true) →
    RS N s a w A sp → vcs P (rem.map (·.2)) K s → (∀ s' a' w' A' sp', K s' → RS N s' a' w' A' sp' → Ev w A (live s.loc sp) w' A' (live s'.loc sp') → Q .normal a' w') →
    wpAny P .any ops Q n listed a w := by
  intro n
  induction n with
  | zero =>
    intro rem listed s a w A sp hlen hls hnd hin htr hord hcl h hv hn
    have hrem : rem = [] := List.eq_nil_of_length_eq_zero hlen
    subst hrem
    refine ⟨?_, hn _ _ _ _ _ hv h (.refl _ _ _)⟩
    rw [Region.ready, List.filter_eq_nil_iff]
    intro i hi
    have hi' : i < ops.size := by simpa using hi
    have := (hin i hi')
    simp only [List.map_nil, List.not_mem_nil, iff_false, Bool.not_eq_false] at this
    simp [this]
  | succ n ih =>
    intro rem listed s a w A sp hlen hls hnd hin htr hord hcl h hv hn
    have hmem : ∀ i, i ∈ Region.ready .any ops listed → i < ops.size ∧ listed.getD i true = false ∧ ∃ o, ops[i]? = some o ∧ o.after.all (fun e => !Region.binds .any e || listed.getD e.on false) = true := by
      intro i hi
      rw [Region.ready, List.mem_filter] at hi
      obtain ⟨h1, h2⟩ := hi
      have h1 : i < ops.size := by simpa using h1
      simp only [Bool.and_eq_true, Bool.not_eq_true'] at h2
      refine ⟨h1, h2.1, ops[i], Array.getElem?_eq_getElem h1, ?_⟩
      have := h2.2
      rw [Array.getElem?_eq_getElem h1] at this
      exact this
    refine ⟨fun hnil => ?_, fun i hi => ?_⟩
    · -- something is always ready
      exfalso
      have hne : rem.map (·.1) ≠ [] := by
        intro e
        have : rem.length = 0 := by simpa using congrArg List.length e
        omega
      -- the least that remains
      have hex : ∃ i, i ∈ rem.map (·.1) ∧ ∀ j, j ∈ rem.map (·.1) → i ≤ j := by
        generalize rem.map (·.1) = l at hne
        induction l with
        | nil => exact absurd rfl hne
        | cons x l ihl =>
          by_cases hl : l = []
          · subst hl; exact ⟨x, by simp, by simp⟩
          · obtain ⟨i, h1, h2⟩ := ihl hl
            by_cases hx : x ≤ i
            · exact ⟨x, by simp, fun j hj => by rcases List.mem_cons.1 hj with rfl | hj; exact Nat.le_refl _; exact Nat.le_trans hx (h2 j hj)⟩
            · exact ⟨i, by simp [h1], fun j hj => by rcases List.mem_cons.1 hj with rfl | hj; omega; exact h2 j hj⟩
      obtain ⟨i, hi1, hi2⟩ := hex
      obtain ⟨p, hp, rfl⟩ := List.mem_map.1 hi1
      obtain ⟨o, ho, _⟩ := htr p hp
      have hlt := (Array.getElem?_eq_some_iff.1 ho).1
      have hready : p.1 ∈ Region.ready .any ops listed := by
        rw [Region.ready, List.mem_filter]
        refine ⟨by simpa using hlt, ?_⟩
        have hl : listed.getD p.1 true = false := (hin _ hlt).2 hi1
        simp only [hl, Bool.not_false, Bool.true_and, ho, Option.map_some, Option.getD_some]
        refine Array.all_eq_true_iff_forall_mem.2 fun e he => ?_
        cases hb : Region.binds .any e
        · rfl
        · have hf := (List.all_eq_true.1 hfwd) p.1 (by simpa using hlt)
          rw [ho] at hf
          have hf := (Array.all_eq_true_iff_forall_mem.1 hf) e he
          simp only [hb, Bool.not_true, Bool.false_or, decide_eq_true_eq] at hf
          have hnot : e.on ∉ rem.map (·.1) := fun hm => by have := hi2 _ hm; omega
          have hlo : e.on < ops.size := by omega
          have := mt (hin e.on hlo).1 hnot
          rw [Bool.not_eq_false] at this
          rw [Array.getD_eq_getD_getElem?, Array.getElem?_eq_getElem (by omega)] at this
          simp only [Bool.not_true, Bool.false_or]
          rw [Array.getD_eq_getD_getElem?, Array.getElem?_eq_getElem (by omega)]
          exact this
      rw [hnil] at hready
      cases hready
    · obtain ⟨hlt, hnl, o, ho, hall⟩ := hmem i hi
      have hir : i ∈ rem.map (·.1) := (hin i hlt).1 hnl
      obtain ⟨p, hp, rfl⟩ := List.mem_map.1 hir
      obtain ⟨pre, post, rfl⟩ := List.append_of_mem hp
      obtain ⟨ho1, ho2⟩ := orderOK_drop pre hord
      obtain ⟨o', ho', htr'⟩ := htr p hp
      rw [ho] at ho'; injection ho' with ho'; subst ho'
      have hcomm : ∀ y ∈ pre.map (·.2), commB y p.2 = true := by
        intro y hy
        obtain ⟨q, hq, rfl⟩ := List.mem_map.1 hy
        have := ho2 q hq
        cases hw : ((Region.before ops).getD p.1 0).testBit q.1
        · rw [hw, Bool.false_or] at this; exact this
        · exfalso
          have h1 := ready_waits hcl hls (before_reach ops _ _ hw) o ho hall
          obtain ⟨oq, hoq, _⟩ := htr q (List.mem_append_left _ hq)
          have hqlt := (Array.getElem?_eq_some_iff.1 hoq).1
          have h2 := (hin q.1 hqlt).2 (List.mem_map.2 ⟨q, List.mem_append_left _ hq, rfl⟩)
          rw [Array.getD_eq_getD_getElem?, Array.getElem?_eq_getElem (by omega)] at h1 h2
          rw [Option.getD_some] at h1 h2
          rw [h1] at h2; cases h2
      rw [List.map_append, List.map_cons] at hv
      have hfin : FinS s := ⟨w.heap.size, fun b hb => by
        cases hl : s.loc b with
        | none => rfl
        | some cs =>
          obtain ⟨vs, T, h1, _⟩ := h.loc b cs hl
          have := (Array.getElem?_eq_some_iff.1 h1).1
          omega⟩
      have hv2 := move_front (pre.map (·.2)) hcomm s hfin hv
      rw [← List.map_append] at hv2
      unfold wpOp
      simp only [ho]
      refine stepD_sound htr' h hv2 fun s' a' w' A' sp' hk hr hev => ?_
      have hset : ∀ j, j < ops.size → (listed.setIfInBounds p.1 true).getD j true = if j = p.1 then true else listed.getD j true := by
        intro j hj
        simp only [Array.getD_eq_getD_getElem?]
        by_cases e : j = p.1
        · subst e; rw [Array.getElem?_setIfInBounds_self_of_lt (by omega)]; simp
        · rw [Array.getElem?_setIfInBounds_ne (Ne.symm e), if_neg e]
      refine ih (pre ++ post) (listed.setIfInBounds p.1 true) s' a' w' A' sp' (by simp at hlen ⊢; omega) (by simpa using hls) ?_ (fun j hj => ?_) (fun q hq => htr q ?_) ho1 (fun j oj hj hjlt hoj => ?_) hr hk (fun s2 a2 w2 A2 sp2 hk2 hr2 hev2 => hn s2 a2 w2 A2 sp2 hk2 hr2 (hev.trans hev2))
      · rw [List.map_append, List.map_cons] at hnd
        rw [List.map_append]
        exact hnd.sublist (List.Sublist.append_left (List.sublist_cons_self _ _) _)
      · rw [hset j hj]
        rw [List.map_append, List.map_cons] at hnd hin
        rw [List.map_append]
        by_cases e : j = p.1
        · subst e
          simp only [if_true, Bool.true_eq_false, false_iff, List.mem_append, not_or]
          have := List.nodup_append.1 hnd
          refine ⟨fun hm => (this.2.2 _ hm _ (List.mem_cons_self ..)) rfl, fun hm => ?_⟩
          exact (List.nodup_cons.1 this.2.1).1 hm
        · rw [if_neg e, hin j hj]
          simp only [List.mem_append, List.mem_cons, e, false_or]
      · rcases List.mem_append.1 hq with hq | hq
        · exact List.mem_append_left _ hq
        · exact List.mem_append_right _ (List.mem_cons_of_mem _ hq)
      · have hmon : ∀ k, listed.getD k false = true → (listed.setIfInBounds p.1 true).getD k false = true := by
          intro k hk
          simp only [Array.getD_eq_getD_getElem?] at hk ⊢
          by_cases e : k = p.1
          · subst e; rw [Array.getElem?_setIfInBounds_self_of_lt (by omega)]; rfl
          · rw [Array.getElem?_setIfInBounds_ne (Ne.symm e)]; exact hk
        have hprev : oj.after.all (fun e => !Region.binds .any e || listed.getD e.on false) = true := by
          rw [hset j hjlt] at hj
          by_cases e : j = p.1
          · subst e; rw [ho] at hoj; injection hoj with hoj; subst hoj; exact hall
          · rw [if_neg e] at hj; exact hcl j oj hj hjlt hoj
        refine Array.all_eq_true_iff_forall_mem.2 fun e he => ?_
        have := (Array.all_eq_true_iff_forall_mem.1 hprev) e he
        cases hb : Region.binds .any e
        · rfl
        · simp only [hb, Bool.not_true, Bool.false_or] at this ⊢
          exact hmon _ this

end Go.Avm

namespace Go.Avm
open Go.RowKit

theorem isG_dem {x : AV} (h : isG x = true) (r : Nat) : demote r x = x := by cases x <;> first | rfl | cases h
def noG : MOp → Bool
  | .cpy d _ | .cpyS d _ | .asg d _ | .asgNil d _ | .boxI d _ _ | .boxM d _ _ | .alloc d _ | .load d _ _ | .loadI d _ _ | .loadD d _ _ | .extD d _ _ | .addr d _ _ | .idxS d _ _ _ | .idxA d _ _ _ _ | .fld d _ _ _
  | .idxV d _ _ _ _ _ | .idxStr d _ _ | .build d _ _ | .mkS d _ _ _ _ | .len d _ | .lenStr d _ | .lenK d _ | .app d _ _ _ _ | .bin d _ _ _ | .binB d _ _ _ | .binA d _ _ _ _
  | .not d _ | .neg d _ | .conv d _ _ | .pick d _ _ _ | .ext d _ _ | .maxI d _ _ | .minI d _ _ | .call d _ _ | .callv d _ _ | .mkfn d _ _ _ | .nilchk d _ | .slcHi d _ _ _ | .slcLo d _ _ _ | .cpyE d _ | .isNil d _ _
  | .mkM d _ _ _ _ _ | .cpyMM d _ _ _ | .callL d _ _ | .callvL d _ _ | .slcZ d _ _ _ _ | .slcZM d _ _ _ _ | .appR d _ _ _ | .slcM d _ _ _ | .appM d _ _ _ _ _ | .cpyM d _ _ _ | .strLo d _ _ => decide (d < gS)
  | .store .. | .storeD .. | .storeNil .. => true
  | .storeF k _ _ => decide (k < gS)
  | .apart _ _ m => noG m
  | .guard _ _ d m => (match d with | some d => decide (d < gS) | none => true) && noG m
  | .icall .. | .icallv .. | .yld .. | .yldL .. | .rngS .. | .nxtS .. | .mkMap .. | .rngM .. | .nxtM .. | .mapUpd .. | .mapEnt .. | .entSt .. | .entM .. | .lookup .. | .frz _ => false

section
variable {P : Program} {s : St}

theorem set_g {d : Nat} {x : AV} (h : decide (d < gS) = true) (k : Nat) (hk : gS ≤ k) : (s.set d x).env k = s.env k := upd_ne _ _ (by intro e; have := of_decide_eq_true h; omega)
theorem dem_g {r : Nat} (h : ∀ k, gS ≤ k → isG (s.env k) = true) (k : Nat) (hk : gS ≤ k) : (s.dem r).env k = s.env k := isG_dem (h k hk) r
theorem dem2_g {r q : Nat} (h : ∀ k, gS ≤ k → isG (s.env k) = true) (k : Nat) (hk : gS ≤ k) : ((s.dem r).dem q).env k = s.env k := by
  rw [dem_g (fun k hk => by rw [dem_g h k hk]; exact h k hk) k hk, dem_g h k hk]
theorem asg_g {d : Nat} {x : AV} (hd : decide (d < gS) = true) (h : ∀ k, gS ≤ k → isG (s.env k) = true) (k : Nat) (hk : gS ≤ k) : (asgSt s d x).env k = s.env k := by
  unfold asgSt
  split
  · split
    · exact set_g hd k hk
    · rw [set_g hd k hk]; exact dem2_g h k hk
  · exact set_g hd k hk

theorem partK_imp {cs : List AV} {off : Nat} {n : Option Nat} {K K' : AV → Prop} (h : ∀ v, K v → K' v) (hv : partK cs off n K) : partK cs off n K' := by
  cases n with
  | none => exact ⟨hv.1, h _ hv.2⟩
  | some n => exact ⟨hv.1, h _ hv.2⟩
theorem loadK_imp {l : Loc} {x : AV} {n : Option Nat} {K K' : AV → Prop} (h : ∀ v, K v → K' v) (hv : loadK l x n K) : loadK l x n K' := by
  unfold loadK at hv ⊢
  split at hv
  · exact partK_imp (fun v => h _) hv
  · split at hv
    · exact partK_imp h hv
    · exact hv.elim
  · exact hv.elim
theorem binI_imp {op : BinOp} {k : IntKind} {a b : Int} {K K' : AV → Prop} (h : ∀ v, K v → K' v) (hv : binI op k a b K) : binI op k a b K' := by
  cases op <;> simp only [binI] at hv ⊢ <;> first | exact h _ hv | exact ⟨hv.1, h _ hv.2⟩ | exact ⟨hv.1, hv.2.1, h _ hv.2.2⟩ | exact hv.elim
theorem binS_imp {op : BinOp} {a b : ByteArray} {K K' : AV → Prop} (h : ∀ v, K v → K' v) (hv : binS op a b K) : binS op a b K' := by
  cases op <;> simp only [binS] at hv ⊢ <;> first | exact h _ hv | exact hv.elim
theorem shI_imp {op : BinOp} {k : IntKind} {a b : Int} {K K' : AV → Prop} (h : ∀ v, K v → K' v) (hv : shI op k a b K) : shI op k a b K' := by
  cases op <;> simp only [shI] at hv ⊢ <;> first | exact ⟨hv.1, h _ hv.2⟩ | exact hv.elim
theorem binK_imp {op : BinOp} {x y : AV} {K K' : AV → Prop} (h : ∀ v, K v → K' v) (hv : binK op x y K) : binK op x y K' := by
  unfold binK at hv ⊢
  split at hv
  · split at hv
    · exact shI_imp h hv
    · exact shI_imp h hv
    · exact ⟨hv.1, binI_imp h hv.2⟩
  · exact binS_imp h hv
  · exact hv.elim
theorem fillK_imp {e : Nat → AV} : ∀ {ps : List (Nat × Nat × MArg)} {cs : List AV} {K K' : List AV → Prop}, (∀ v, K v → K' v) → fillK e cs ps K → fillK e cs ps K'
  | [], _, _, _, h, hv => h _ hv
  | _ :: _, _, _, _, h, hv => ⟨hv.1, hv.2.1, fillK_imp h hv.2.2⟩
theorem fillS_imp {e : Nat → AV} {sz : Nat} : ∀ {ps : List (Nat × MArg)} {xs : List AV} {K K' : List AV → Prop}, (∀ v, K v → K' v) → fillS e sz xs ps K → fillS e sz xs ps K'
  | [], _, _, _, h, hv => h _ hv
  | _ :: _, _, _, _, h, hv => ⟨hv.1, hv.2.1, hv.2.2.1, fillS_imp h hv.2.2.2⟩

theorem vc1_keep : ∀ {m : MOp} {s : St} {K : St → Prop}, noG m = true → (∀ k, gS ≤ k → isG (s.env k) = true) → vc1 P m s K → vc1 P m s (fun s' => K s' ∧ ∀ k, gS ≤ k → s'.env k = s.env k) := by
  intro m
  induction m with
  | apart zs x m ih => intro s K hm hg h; exact ⟨h.1, ih hm hg h.2⟩
  | guard g want d m ih =>
    intro s K hm hg h
    simp only [noG, Bool.and_eq_true] at hm
    cases d with
    | none =>
      simp only [vc1] at h ⊢
      split at h
      · exact ⟨fun e => ih hm.2 hg (h.1 e), fun e => ⟨h.2 e, fun _ _ => by first | rfl | trivial⟩⟩
      · exact ⟨h, fun _ _ => by first | rfl | trivial⟩
      · exact h.elim
    | some d =>
      simp only [vc1] at h ⊢
      split at h
      · exact ⟨fun e => ih hm.2 hg (h.1 e), fun e => ⟨h.2 e, set_g hm.1⟩⟩
      · exact ⟨h, set_g hm.1⟩
      · exact h.elim
  | yld => intro s K hm; cases hm
  | rngS => intro s K hm; cases hm
  | nxtS => intro s K hm; cases hm
  | mkMap => intro s K hm; cases hm
  | mapUpd => intro s K hm; cases hm
  | mapEnt => intro s K hm; cases hm
  | entSt => intro s K hm; cases hm
  | entM => intro s K hm; cases hm
  | lookup => intro s K hm; cases hm
  | frz => intro s K hm; cases hm
  | icall => intro s K hm; cases hm
  | icallv => intro s K hm; cases hm
  | yldL => intro s K hm; cases hm
  | rngM => intro s K hm; cases hm
  | nxtM => intro s K hm; cases hm
  | asg d x => intro s K hm hg h; exact ⟨h, asg_g hm hg⟩
  | asgNil d sz => intro s K hm hg h; exact ⟨h, fun k hk => by rw [set_g hm k hk]; exact dem_g hg k hk⟩
  | boxM d x n => intro s K hm hg h; exact ⟨h.1, fun b hb => ⟨h.2 b hb, set_g (s := s.new b _) hm⟩⟩
  | alloc d z => intro s K hm hg h; exact fun b hb => ⟨h b hb, set_g (s := s.new b _) hm⟩
  | load d x n => intro s K hm hg h; exact loadK_imp (fun v hv => ⟨hv, set_g hm⟩) h
  | loadI d x n =>
    intro s K hm hg h
    simp only [vc1] at h ⊢
    split at h
    · exact partK_imp (fun v hv => ⟨hv, set_g hm⟩) h
    · exact h.elim
  | loadD d x n =>
    intro s K hm hg h
    simp only [vc1] at h ⊢
    split at h
    · split at h
      · exact ⟨h.1, h.2, set_g hm⟩
      · exact h.elim
    · exact h.elim
  | extD d x i =>
    intro s K hm hg h
    simp only [vc1] at h ⊢
    split at h
    · refine ⟨h.1, ?_⟩
      have h := h.2
      split at h
      · exact ⟨h, set_g hm⟩
      · exact ⟨h, set_g hm⟩
    · exact h.elim
  | storeD x y n =>
    intro s K hm hg h
    simp only [vc1] at h ⊢
    split at h
    · split at h
      · refine ⟨h.1, ?_⟩
        have h := h.2
        split at h
        · exact ⟨h.1, h.2.1, h.2.2, fun _ _ => by first | rfl | trivial⟩
        · exact h.elim
      · exact h.elim
    · exact h.elim
  | store x y n oid =>
    intro s K hm hg h
    simp only [vc1, storeK] at h ⊢
    split at h
    · split at h
      · refine ⟨h.1, h.2.1, h.2.2.1, ?_⟩
        have h := h.2.2.2
        split at h
        · split at h
          · rename_i h0; rw [if_pos h0]; exact ⟨h, fun _ _ => by first | rfl | trivial⟩
          · rename_i h0; rw [if_neg h0]; exact ⟨h, dem2_g hg⟩
        · exact ⟨h, fun _ _ => by first | rfl | trivial⟩
      · exact h.elim
    · exact h.elim
  | storeNil x sz oid =>
    intro s K hm hg h
    simp only [vc1] at h ⊢
    split at h
    · split at h
      · exact ⟨h.1, h.2, dem_g hg⟩
      · exact h.elim
    · exact h.elim
  | storeF k y n =>
    intro s K hm hg h
    simp only [vc1] at h ⊢
    split at h
    · split at h
      · exact ⟨h.1, h.2.1, h.2.2.1, h.2.2.2, fun q hq => upd_ne _ _ (by intro e; have := of_decide_eq_true hm; omega)⟩
      · exact h.elim
    · exact h.elim
  | build d z ps => intro s K hm hg h; exact fillK_imp (fun v hv => ⟨hv, set_g hm⟩) h
  | mkS d n sz z ps => intro s K hm hg h; exact fillS_imp (fun v hv => ⟨hv, fun k hk => by rw [set_g hm k hk]; exact dem_g hg k hk⟩) h
  | app d x y sz b =>
    intro s K hm hg h
    simp only [vc1] at h ⊢
    split at h
    · exact ⟨h.1, h.2.1, h.2.2.1, h.2.2.2.1, h.2.2.2.2.1, h.2.2.2.2.2, fun k hk => by rw [set_g hm k hk]; exact dem2_g hg k hk⟩
    · exact h.elim
  | bin d op x y => intro s K hm hg h; exact binK_imp (fun v hv => ⟨hv, set_g hm⟩) h
  | fld d x off n =>
    intro s K hm hg h
    simp only [vc1] at h ⊢
    split at h
    · exact partK_imp (fun v hv => ⟨hv, set_g hm⟩) h
    · exact h.elim
  | idxV d x i len sz n =>
    intro s K hm hg h
    simp only [vc1] at h ⊢
    split at h
    · exact ⟨h.1, h.2.1, partK_imp (fun v hv => ⟨hv, set_g hm⟩) h.2.2⟩
    · exact h.elim
  | binA d neg n x y =>
    intro s K hm hg h
    simp only [vc1] at h ⊢
    split at h
    · obtain ⟨h1, h2, q, hq, hk⟩ := h
      exact ⟨h1, h2, q, hq, hk, set_g hm⟩
    · exact h.elim
  | mkM d n c sz bytes zero =>
    intro s K hm hg h
    simp only [vc1] at h ⊢
    split at h
    · exact ⟨h.1, h.2.1, h.2.2.1, h.2.2.2.1, h.2.2.2.2.1, fun b hb => ⟨h.2.2.2.2.2 b hb, set_g (s := s.new b _) hm⟩⟩
    · exact h.elim
  | callL d f xs => intro s K hm hg h; obtain ⟨ys, u, h1, h2, h3, h4⟩ := h; exact ⟨ys, u, h1, h2, h3, h4, set_g hm⟩
  | callvL d x xs =>
    intro s K hm hg h
    simp only [vc1] at h ⊢
    split at h
    · obtain ⟨ys, u, h1, h2, h3, h4⟩ := h; exact ⟨ys, u, h1, h2, h3, h4, set_g hm⟩
    · exact h.elim
  | cpyMM d x y sz =>
    intro s K hm hg h
    simp only [vc1] at h ⊢
    split at h
    · split at h
      · exact ⟨h.1, h.2.1, h.2.2.1, h.2.2.2.1, h.2.2.2.2.1, h.2.2.2.2.2, set_g (s := s.new _ _) hm⟩
      · exact h.elim
    · exact h.elim
  | isNil d neg x =>
    intro s K hm hg h
    simp only [vc1] at h ⊢
    split at h
    · exact ⟨fun e => ⟨h.1 e, set_g hm⟩, h.2, set_g hm⟩
    · exact ⟨h, set_g hm⟩
    · exact h.elim
  | slcZ d x hi mx sz =>
    intro s K hm hg h
    simp only [vc1] at h ⊢
    split at h
    · exact ⟨h, fun k hk => by rw [set_g hm k hk]; exact dem_g hg k hk⟩
    · exact h.elim
  | slcZM d x hi mx sz =>
    intro s K hm hg h
    simp only [vc1] at h ⊢
    split at h
    · exact ⟨fun hx => ⟨h.1 hx, set_g (s := s) hm⟩, fun b off => ⟨h.2 b off, set_g (s := s) hm⟩⟩
    · exact h.elim
  | appR d x y sz =>
    intro s K hm hg h
    simp only [vc1] at h ⊢
    split at h
    · split at h
      · exact ⟨h.1, h.2.1, h.2.2.1, h.2.2.2.1, h.2.2.2.2.1, h.2.2.2.2.2, set_g (s := s.new _ _) hm⟩
      · exact h.elim
    · exact h.elim
  | appM d x y sz bytes zero =>
    intro s K hm hg h
    simp only [vc1] at h ⊢
    split at h
    · refine ⟨h.1, h.2.1, h.2.2.1, h.2.2.2.1, h.2.2.2.2.1, ?_⟩
      have h := h.2.2.2.2.2
      split at h
      · rename_i hc
        rw [if_pos hc]
        exact fun b r hb => ⟨h b r hb, set_g (s := s.new b _) hm⟩
      · rename_i hc
        rw [if_neg hc]
        split at h
        · exact ⟨h.1, fun hr => ⟨h.2.1 hr, set_g (s := s.new _ _) hm⟩, fun hr b r hb => ⟨h.2.2 hr b r hb, set_g (s := s.new b _) hm⟩⟩
        · exact h.elim
    · exact ⟨h.1, h.2.1, h.2.2.1, h.2.2.2.1, fun b r hb => ⟨h.2.2.2.2 b r hb, set_g (s := s.new b _) hm⟩⟩
    · exact h.elim
  | cpyM d x y sz =>
    intro s K hm hg h
    simp only [vc1] at h ⊢
    split at h
    · split at h
      · exact ⟨h.1, h.2.1, h.2.2.1, h.2.2.2, set_g (s := s.new _ _) hm⟩
      · exact h.elim
    · exact h.elim
  | call d f xs => intro s K hm hg h; obtain ⟨r, h1, h2⟩ := h; exact ⟨r, h1, h2, set_g hm⟩
  | callv d x xs =>
    intro s K hm hg h
    simp only [vc1] at h ⊢
    split at h
    · obtain ⟨r, h1, h2⟩ := h; exact ⟨r, h1, h2, set_g hm⟩
    · exact h.elim
  | _ =>
    intro s K hm hg h
    simp only [vc1] at h ⊢
    first
      | exact ⟨h, set_g hm⟩
      | exact ⟨h.1, h.2, set_g hm⟩
      | (split at h <;> first | exact ⟨h, set_g hm⟩ | exact ⟨h.1, h.2, set_g hm⟩ | exact ⟨h.1, h.2.1, h.2.2, set_g hm⟩ | exact ⟨h.1, h.2.1, h.2.2.1, h.2.2.2, set_g hm⟩ | exact h.elim)
end

theorem callsIn_fw {ro : Option Nat} {n : Nat} {P : Program} {f : FuncId} {args : Array Value} {w : World} {R : Ending → World → Prop} (h : Calls P f args w R) : CallsIn (Fw ro) n P f args w R :=
  (callsIn_wide (n := n)).2 h

theorem calls_fw {ro : Option Nat} {n : Nat} {P : Program} {f : FuncId} {args : Array Value} {w : World} {R : Ending → World → Prop} (h : CallsIn (Fw ro) n P f args w R) : Calls P f args w R :=
  (callsIn_wide (n := n)).1 h

def NQ (K : Act → World → Prop) : Exit → Act → World → Prop
  | .normal, a, w => K a w
  | _, _, _ => False

def Lift (ds : List Deferred) (K : Act → World → Prop) : Act → World → Prop := fun a w => a.defers = ds ∧ K ⟨a.tmps, []⟩ w

theorem put_tmps (t : Array Value) (d1 d2 : List Deferred) (d : Option Tmp) (v : Value) : ((⟨t, d1⟩ : Act).put d v).tmps = ((⟨t, d2⟩ : Act).put d v).tmps ∧ ((⟨t, d1⟩ : Act).put d v).defers = d1 := by
  cases d <;> exact ⟨rfl, rfl⟩

theorem put_lift {t : Array Value} {ds : List Deferred} {d : Option Tmp} {v : Value} {w : World} {next : Act → World → Prop} (h : next ((⟨t, []⟩ : Act).put d v) w) : Lift ds next ((⟨t, ds⟩ : Act).put d v) w := by
  cases d <;> exact ⟨rfl, h⟩

theorem oper_in {P : Program} {o : Oper} {t : Array Value} {ds : List Deferred} {w : World} {next : Act → World → Prop} {K : Act → World → Prop} {Q' : Exit → Act → World → Prop} {ro : Option Nat} {n : Nat}
    (hnd : ∀ c, o.op ≠ .defer c) (hd : ∀ a w, next a w → a.defers = []) (h : o.wp P ⟨t, []⟩ w next (NQ K)) : o.wpIn (Fw ro) n P ⟨t, ds⟩ w (Lift ds next) Q' := by
  refine ⟨fun _ _ => trivial, ?_⟩
  rw [Oper.semAt_eq _ _ _ hnd]
  unfold Oper.wp at h
  have he : (⟨t, ds⟩ : Act).eval = (⟨t, []⟩ : Act).eval := rfl
  rw [he]
  generalize (execOp (⟨t, []⟩ : Act).eval o).run P w = r at h ⊢
  cases r with
  | ok x w' =>
    cases x with
    | value v => exact put_lift h
    | skip => exact put_lift h
    | defer d =>
      have := hd _ _ h
      rw [(put_tmps t [d] [] o.dst undef).2] at this
      cases this
    | enter f args =>
      refine ⟨fun e => (by cases e), callsIn_fw (Calls.mono h fun e w'' he => ?_)⟩
      cases e with
      | returned v => exact put_lift he
      | panicked c => exact he.elim
      | outgrown => obtain ⟨_, _, he⟩ := he; exact he.elim
    | row row args => 
      refine ⟨fun e => (by cases e), fun c cs _ => ?_⟩
      obtain ⟨v, w2, h1, h2⟩ := h c cs
      exact ⟨v, w2, put_lift h1, stepsIn_wide.2 h2⟩
    | _ => exact h.elim
  | halt x w' => cases x <;> exact h.elim

end Go.Avm

namespace Go.Avm
open Go.RowKit

theorem Ev.wider {w w' : World} {A A' L L' : Area} (h : Ev w A L w' A' L') (T : Area) : Ev w A (join L T) w' A' (join L' T) := by
  refine ⟨h.os, h.tape, h.output, h.size, fun b o hb hl => ?_, fun b hb hl => h.block b hb fun o ho => hl o (.inl ho), h.sub, fun b o ha => ?_⟩
  · simp only [join, not_or] at hl
    obtain ⟨h1, h2⟩ := h.cell b o hb hl.1
    exact ⟨h1, by simp only [join, not_or]; exact ⟨h2, hl.2⟩⟩
  · rcases h.sup b o ha with h1 | h1 | h1
    · exact .inl h1
    · exact .inr (.inl (.inl h1))
    · exact .inr (.inr h1)

section
variable {w w' : World} {A A' L L' : Area}

theorem Ev.into (h : Ev w A L w' A' L') {M M' : Area} (h1 : ∀ b o, L b o → M b o ∨ w.heap.size ≤ b) (h2 : ∀ b o, b < w.heap.size → M' b o → M b o ∨ L' b o) : Ev w A M w' A' M' := by
  refine ⟨h.os, h.tape, h.output, h.size, fun b o hb hl => ?_, fun b hb hl => h.block b hb fun o ho => ?_, h.sub, fun b o ha => ?_⟩
  · have hL : ¬ L b o := fun hx => by rcases h1 b o hx with e | e; exact hl e; omega
    obtain ⟨g1, g2⟩ := h.cell b o hb hL
    exact ⟨g1, fun hm => by rcases h2 b o hb hm with e | e; exact hl e; exact g2 e⟩
  · rcases h1 b o ho with e | e
    · exact hl o e
    · omega
  · rcases h.sup b o ha with g | g | g
    · exact .inl g
    · rcases h1 b o g with e | e
      · exact .inr (.inl e)
      · exact .inr (.inr e)
    · exact .inr (.inr g)

theorem cell_putObj (w : World) {l b o : Nat} (ob : Obj) (h : b ≠ l) : (w.putObj l ob).cell? ⟨b, o, none⟩ = w.cell? ⟨b, o, none⟩ := World.cell?_of_block (World.putObj_heap_other h)

theorem Ev.putObj (w : World) (A : Area) {L : Area} {l : Nat} (ob : Obj) (hl : ∀ o, L l o) : Ev w A L (w.putObj l ob) A L := by
  refine ⟨rfl, rfl, rfl, by simp, fun b o hb h => ⟨cell_putObj w ob (fun e => h (e ▸ hl o)), h⟩, fun b hb h => World.putObj_heap_other (fun e => h 0 (e ▸ hl 0)), fun _ _ h => h, fun _ _ h => .inl h⟩

theorem no_cell {l o : Nat} {ob : Obj} (h : w.heap[l]? = some ob) (hc : ob.isCells = false) : w.cell? ⟨l, o, none⟩ = none := by
  cases ob <;> first | (cases hc; done) | simp [World.cell?, h]

theorem Keep.putObj {l : Nat} {ob ob' : Obj} (h : w.heap[l]? = some ob) (hc : ob.isCells = false) (hL : ∀ o, ¬ L l o) (hA : ∀ b o, A b o → b < w.heap.size ∧ ¬ L b o) (hl : ∀ o, ¬ A l o) : Keep w (w.putObj l ob') A A L := by
  refine ⟨rfl, rfl, rfl, by simp, fun b o hl => World.putObj_heap_other (fun e => hL o (e ▸ hl)), fun b o v ha hv => ?_, fun _ _ h => h, fun b o ha => ⟨by simpa using (hA b o ha).1, (hA b o ha).2⟩, .blocks (fun _ _ h => h) fun b ha _ => World.putObj_heap_other fun e => hl 0 (e ▸ ha 0)⟩
  rw [cell_putObj w ob' (fun e => by subst e; rw [no_cell h hc] at hv; cases hv)]
  exact hv

theorem Keep.alloc (ob : Obj) (hA : ∀ b o, A b o → b < w.heap.size ∧ ¬ L b o) (hL : ∀ b o, L b o → b < w.heap.size) : Keep w (w.alloc ob) A A L :=
  ⟨rfl, rfl, rfl, by rw [alloc_size]; omega, fun b o hl => heap_alloc _ _ _ (hL b o hl), fun b o v ha hv => by rw [cell_alloc _ _ _ _ (hA b o ha).1]; exact hv, fun _ _ h => h,
    fun b o ha => ⟨by rw [alloc_size]; have := (hA b o ha).1; omega, (hA b o ha).2⟩, .blocks (fun _ _ h => h) fun b _ hb => heap_alloc _ _ _ hb⟩
end

theorem ObjOK.block {w : World} {A : Area} {b : Nat} {x : AV} (h : ObjOK w A b x) (hx : x ≠ .any) : ∃ ob, w.heap[b]? = some ob ∧ ob.isCells = false := by
  cases h with
  | any => exact absurd rfl hx
  | iter t pos h => exact ⟨_, h, rfl⟩
  | map es es' clock h _ _ _ => exact ⟨_, h, rfl⟩
  | miter b' since seen h => exact ⟨_, h, rfl⟩

theorem ObjOK.mono {w w' : World} {A A' : Area} {b : Nat} {x : AV} (h : ObjOK w A b x) (hb : x ≠ .any → w'.heap[b]? = w.heap[b]?) (hc : ∀ b o v, A b o → w.cell? ⟨b, o, none⟩ = some v → w'.cell? ⟨b, o, none⟩ = some v ∧ A' b o) (hob : ObjKept w w' A A') : ObjOK w' A' b x := by
  cases h with
  | any => exact .any
  | iter t pos h => exact .iter t pos ((hb (fun e => by cases e)).trans h)
  | map es es' clock h hs hcl hr => exact .map es es' clock ((hb (fun e => by cases e)).trans h) hs hcl fun i e he => ⟨(hr i e he).1.mono hc hob, (hr i e he).2.1.mono hc hob, (hr i e he).2.2⟩
  | miter b' since seen h => exact .miter b' since seen ((hb (fun e => by cases e)).trans h)

section
variable {P : Program} {C : Ctx P} {Pt : List (Nat × Obj)} {s : St} {a : Act} {w : World} {A Lx : Area} {sp : Sp}

theorem RS.live_cells {N : Nat} (h : RS N s a w A sp) {b o : Nat} (hl : live s.loc sp b o) : ∃ vs T, w.heap[b]? = some (.cells vs T (0, 0)) := by
  rcases hl with hl | ⟨r, h1, h2, h3⟩
  · cases hb : s.loc b with
    | none => exact absurd hb hl
    | some cs =>
      obtain ⟨vs, T, h1, _⟩ := h.loc b cs hb
      exact ⟨vs, T, h1⟩
  · obtain ⟨⟨vs, T, h4, _⟩, _⟩ := h.spb r (by omega)
    exact ⟨vs, T, h1 ▸ h4⟩

theorem RS.not_live {N : Nat} (h : RS N s a w A sp) {b : Nat} {ob : Obj} (hb : w.heap[b]? = some ob) (hc : ob.isCells = false) (o : Nat) : ¬ live s.loc sp b o := by
  intro hl
  obtain ⟨vs, T, h1⟩ := h.live_cells hl
  rw [h1] at hb; injection hb with hb; rw [← hb] at hc; cases hc

theorem GS.pt_dead (h : GS C Pt s a w A Lx sp) {p : Nat × Obj} (hp : p ∈ Pt) (o : Nat) : ¬ held s sp p.1 o := by
  obtain ⟨h2, h3, _, _, h4⟩ := h.pt p hp
  rintro (hl | hl)
  · exact h.rs.not_live h2 h3 o hl
  · exact hl h4

theorem GS.obj_block (h : GS C Pt s a w A Lx sp) {b o : Nat} (hb : objs s b o) : ∃ ob, w.heap[b]? = some ob ∧ ob.isCells = false := (h.ob b).block hb

theorem GS.own_lt (h : GS C Pt s a w A Lx sp) {b o : Nat} (hl : held s sp b o) : b < w.heap.size := by
  rcases hl with hl | hl
  · exact h.rs.live_lt hl
  · obtain ⟨ob, h1, _⟩ := h.obj_block hl
    exact lt_of_heap h1

theorem GS.own_av (h : GS C Pt s a w A Lx sp) {b o : Nat} (ha : A b o) : ¬ held s sp b o := by
  rintro (hl | hl)
  · exact (h.rs.av b o ha).2 hl
  · exact h.oa b o hl ha

theorem env_set_g (s : St) (gh : AV) : (s.set gS gh).env gS = gh := by simp [St.set, upd]
theorem env_set_o (s : St) (gh : AV) (b : Nat) : (s.set gS gh).env (oS + b) = s.env (oS + b) := upd_ne _ _ (by simp [gS, oS]; omega)

theorem GS.step (h : GS C Pt s a w A Lx sp) {s' : St} {a' : Act} {w' : World} {A' : Area} {sp' : Sp} (hr : RS C.N s' ⟨a'.tmps, []⟩ w' A' sp')
    (hev : Ev w A (held s sp) w' A' (held s' sp')) (hi : ∀ k, gS ≤ k → isG (s'.env k) = true) (hg : s'.env gS = s.env gS) (ho : ∀ b, ObjOK w' A' b (s'.env (oS + b))) (hoa : ∀ b o, objs s' b o → ¬ A' b o) (hd : a'.defers = a.defers) :
    GS C Pt s' a' w' A' Lx sp' ∧ Ev w A (join (held s sp) Lx) w' A' (join (held s' sp') Lx) := by
  have hdead : ∀ b o, Lx b o → ∀ o', ¬ held s sp b o' := fun b o hl o' hl' => h.ap b o' o hl' hl
  have hav : ∀ b o, A' b o → ¬ Lx b o := by
    intro b o ha hl
    rcases hev.sup b o ha with h1 | h1 | h1
    · exact h.av b o h1 hl
    · exact h.ap b o o h1 hl
    · exact absurd (h.lt b o hl) (by omega)
  refine ⟨⟨hr, hi, fun b o hl => Nat.lt_of_lt_of_le (h.lt b o hl) hev.size, fun b o o' hl hx => ?_, hav, ?_, fun p hp => ?_, ho, hoa, Nat.le_trans h.bs hev.size, by rw [hd]; exact h.dn, by rw [hd]; exact h.df, h.ro⟩, hev.wider Lx⟩
  · exact (hev.cell b o (h.lt b o' hx) (hdead b o' hx o)).2 hl
  · rw [hg]
    exact C.st _ _ _ _ _ _ h.x ⟨hev.os, hev.tape, hev.output, hev.size, fun b o hl => hev.block b (h.lt b o hl) (hdead b o hl), fun b o v ha hc => (hev.cell b o (h.rs.av b o ha).1 (h.own_av ha)).1.trans hc, hev.sub, fun b o ha => ⟨(hr.av b o ha).1, hav b o ha⟩, hev.kept fun b o ha => ⟨(h.rs.av b o ha).1, h.own_av ha⟩⟩
  · obtain ⟨h1, h2, h3⟩ := h.pt p hp
    refine ⟨(hev.block p.1 (lt_of_heap h1) (h.pt_dead hp)).trans h1, h2, h3.1, fun o ha => ?_, ?_⟩
    · rcases hev.sup _ o ha with h4 | h4 | h4
      · exact h3.2.1 o h4
      · exact h.pt_dead hp o h4
      · exact absurd (lt_of_heap h1) (by omega)
    · refine Classical.byContradiction fun hne => ?_
      exact (hev.cell p.1 0 (lt_of_heap h1) (h.pt_dead hp 0)).2 (.inr hne)

theorem GS.own (h : GS C Pt s a w A Lx sp) {s' : St} {a' : Act} {w' : World} {A' : Area} {sp' : Sp} (hr : RS C.N s' ⟨a'.tmps, []⟩ w' A' sp')
    (hev : Ev w A (live s.loc sp) w' A' (live s'.loc sp')) (hg : ∀ k, gS ≤ k → s'.env k = s.env k) (hd : a'.defers = a.defers) :
    GS C Pt s' a' w' A' Lx sp' ∧ Ev w A (join (held s sp) Lx) w' A' (join (held s' sp') Lx) := by
  have ho : ∀ b, s'.env (oS + b) = s.env (oS + b) := fun b => hg _ (by simp only [gS, oS]; omega)
  have hoo : objs s' = objs s := by funext b o; simp only [objs, ho]
  have hE : Ev w A (held s sp) w' A' (held s' sp') := by
    unfold held; rw [hoo]; exact hev.wider (objs s)
  refine h.step hr hE (fun k hk => by rw [hg k hk]; exact h.ig k hk) (hg gS (Nat.le_refl _)) (fun b => ?_) (fun b o hb ha => ?_) hd
  · rw [ho]
    refine (h.ob b).mono (fun hx => ?_) (fun b o v ha hv => ⟨((hev.cell b o (h.rs.av b o ha).1 (h.rs.av b o ha).2).1).trans hv, hev.sub b o ha⟩) (hev.kept h.rs.av)
    obtain ⟨ob, h1, h2⟩ := (h.ob b).block hx
    exact hev.block b (lt_of_heap h1) (h.rs.not_live h1 h2)
  · rw [hoo] at hb
    obtain ⟨ob, h1, h2⟩ := h.obj_block hb
    rcases hev.sup b o ha with h3 | h3 | h3
    · exact h.oa b o hb h3
    · exact h.rs.not_live h1 h2 o h3
    · exact absurd (lt_of_heap h1) (by omega)

theorem RS.keep {N : Nat} (h : RS N s a w A sp) {w' : World} {A' L : Area} (hk : Keep w w' A A' L) (hL : ∀ b o, live s.loc sp b o → L b o) : RS N s a w' A' sp := by
  refine h.world hk.cell hk.sub hk.obj (fun b cs hb => hk.blk b 0 (hL b 0 (.inl (by rw [hb]; exact fun e => by cases e)))) (fun r hr => ?_) (fun b o ha => ⟨(hk.disj b o ha).1, fun hl => (hk.disj b o ha).2 (hL b o hl)⟩)
  obtain ⟨⟨vs, T, h1, h2⟩, _⟩ := h.spb r hr
  exact ⟨vs, T, (hk.blk _ _ (hL _ (sp r).2.1 (.inr ⟨r, rfl, Nat.le_refl _, hr⟩))).trans h1, h2⟩

theorem GS.keep (h : GS C Pt s a w A Lx sp) {w' : World} {A' L : Area} (hk : Keep w w' A A' L) (hL : ∀ b o, held s sp b o → L b o) (hX : ∀ b o, Lx b o → L b o) (hP : ∀ p ∈ Pt, ∀ o, L p.1 o) : GS C Pt s a w' A' Lx sp where
  rs := h.rs.keep hk fun b o hl => hL b o (.inl hl)
  ig := h.ig
  lt b o hl := Nat.lt_of_lt_of_le (h.lt b o hl) hk.size
  ap := h.ap
  av b o ha hl := (hk.disj b o ha).2 (hX b o hl)
  x := C.st _ _ _ _ _ _ h.x ⟨hk.os, hk.tape, hk.output, hk.size, fun b o hl => hk.blk b o (hX b o hl), hk.cell, hk.sub, fun b o ha => ⟨(hk.disj b o ha).1, fun hl => (hk.disj b o ha).2 (hX b o hl)⟩, hk.obj⟩
  pt p hp := ⟨(hk.blk p.1 0 (hP p hp 0)).trans (h.pt p hp).1, (h.pt p hp).2.1, (h.pt p hp).2.2.1, fun o ha => (hk.disj _ o ha).2 (hP p hp o), (h.pt p hp).2.2.2.2⟩
  ob b := (h.ob b).mono (fun hx => hk.blk b 0 (hL b 0 (.inr hx))) (fun b o v ha hv => ⟨hk.cell b o v ha hv, hk.sub b o ha⟩) hk.obj
  oa b o hb ha := (hk.disj b o ha).2 (hL b o (.inr hb))
  bs := Nat.le_trans h.bs hk.size
  dn := h.dn
  df := h.df
  ro := h.ro

theorem GS.other (h : GS C Pt s a w A Lx sp) {w' : World} {A' Lx' : Area} {gh : AV} (hgh : isG gh = true) (hev : Ev w A Lx w' A' Lx') (hlt : ∀ b o, Lx' b o → b < w'.heap.size)
    (hav : ∀ b o, A' b o → b < w'.heap.size ∧ ¬ Lx' b o) (hx : C.X gh w' A' Lx') :
    GS C Pt (s.set gS gh) a w' A' Lx' sp ∧ Ev w A (join (held s sp) Lx) w' A' (join (held (s.set gS gh) sp) Lx') := by
  have hap : ∀ b o o', held s sp b o → ¬ Lx' b o' := fun b o o' hl hx => (hev.cell b o' (h.own_lt hl) (h.ap b o o' hl)).2 hx
  have hblk : ∀ b o, held s sp b o → w'.heap[b]? = w.heap[b]? := fun b o hl => hev.block b (h.own_lt hl) (fun o' => h.ap b o o' hl)
  have hsup : ∀ b o, A' b o → ¬ held s sp b o := by
    intro b o ha hl
    rcases hev.sup b o ha with h1 | h1 | h1
    · exact h.own_av h1 hl
    · exact h.ap b o o hl h1
    · exact absurd (h.own_lt hl) (by omega)
  have hcell : ∀ b o v, A b o → w.cell? ⟨b, o, none⟩ = some v → w'.cell? ⟨b, o, none⟩ = some v := fun b o v ha hc => (hev.cell b o (h.rs.av b o ha).1 (h.av b o ha)).1.trans hc
  have hobj : ObjKept w w' A A' := hev.kept fun b o ha => ⟨(h.rs.av b o ha).1, h.av b o ha⟩
  have hrs : RS C.N s ⟨a.tmps, []⟩ w' A' sp := by
    refine h.rs.world hcell hev.sub hobj (fun b cs hb => hblk b 0 (.inl (.inl (by rw [hb]; exact fun e => by cases e)))) (fun r hr => ?_) (fun b o ha => ⟨(hav b o ha).1, fun hl => hsup b o ha (.inl hl)⟩)
    obtain ⟨⟨vs, T, h1, h2⟩, _⟩ := h.rs.spb r hr
    exact ⟨vs, T, (hblk _ (sp r).2.1 (.inl (.inr ⟨r, rfl, Nat.le_refl _, hr⟩))).trans h1, h2⟩
  have hrs2 : RS C.N (s.set gS gh) ⟨a.tmps, []⟩ w' A' sp := by
    refine ⟨hrs.size, hrs.defers, fun d => ?_, hrs.loc, hrs.spb, hrs.spd, hrs.av⟩
    by_cases hd : d = gS
    · subst hd
      rw [env_set_g]
      cases gh <;> first | (cases hgh; done) | exact ⟨.any _, trivial⟩ | exact ⟨.ghost _ _ _ _, trivial⟩
    · have e : (s.set gS gh).env d = s.env d := upd_ne _ _ hd
      rw [e]; exact hrs.env d
  have hoo : objs (s.set gS gh) = objs s := by funext b o; simp only [objs, env_set_o]
  have how : held (s.set gS gh) sp = held s sp := by unfold held; rw [hoo]; rfl
  refine ⟨⟨hrs2, fun k hk => ?_, hlt, by rw [how]; exact hap, fun b o ha => (hav b o ha).2, by rw [env_set_g]; exact hx, fun p hp => ?_, fun b => ?_, fun b o hb ha => ?_, Nat.le_trans h.bs hev.size, h.dn, h.df, h.ro⟩, ?_⟩
  · by_cases e : k = gS
    · subst e; rw [env_set_g]; exact hgh
    · rw [show (s.set gS gh).env k = s.env k from upd_ne _ _ e]; exact h.ig k hk
  · obtain ⟨h1, h2, h3⟩ := h.pt p hp
    refine ⟨(hev.block p.1 (lt_of_heap h1) h3.1).trans h1, h2, fun o hl => (hev.cell p.1 o (lt_of_heap h1) (h3.1 o)).2 hl, fun o ha => ?_, by rw [env_set_o]; exact h3.2.2⟩
    rcases hev.sup _ o ha with h4 | h4 | h4
    · exact h3.2.1 o h4
    · exact h3.1 o h4
    · exact absurd (lt_of_heap h1) (by omega)
  · rw [env_set_o]
    exact (h.ob b).mono (fun hx => hblk b 0 (.inr hx)) (fun b o v ha hv => ⟨hcell b o v ha hv, hev.sub b o ha⟩) hobj
  · rw [hoo] at hb; exact hsup b o ha (.inr hb)
  · rw [how]
    refine ⟨hev.os, hev.tape, hev.output, hev.size, fun b o hb hl => ?_, fun b hb hl => hev.block b hb fun o ho => hl o (.inr ho), hev.sub, fun b o ha => ?_⟩
    · simp only [join, not_or] at hl
      obtain ⟨h1, h2⟩ := hev.cell b o hb hl.2
      exact ⟨h1, by simp only [join, not_or]; exact ⟨hl.1, h2⟩⟩
    · rcases hev.sup b o ha with h1 | h1 | h1
      · exact .inl h1
      · exact .inr (.inl (.inr h1))
      · exact .inr (.inr h1)

theorem OwnOK.of_erase0 {cs : List AV} (h : cs.map AV.erase0 = cs) (i : Nat) {v : Value} : OwnOK sp (cs.getD i .any) v := by
  rw [← h, getD_erase0]; exact .erase0

theorem GS.other2 (h : GS C Pt s a w A Lx sp) {g : Nat} {cs : List AV} (hg : s.loc g = some cs) (hcs : cs.map AV.erase0 = cs) {w' : World} {A' Lx' : Area} {gh : AV} (hgh : isG gh = true) (hev : Ev w A (join Lx (blkA g)) w' A' (join Lx' (blkA g)))
    (hlt : ∀ b o, Lx' b o → b < w'.heap.size) (hav : ∀ b o, A' b o → b < w'.heap.size ∧ ¬ Lx' b o) (hA : ∀ o, ¬ A' g o) (hL : ∀ o, ¬ Lx' g o) (hlent : Lent w' A' g cs) (hx : C.X gh w' A' Lx') :
    GS C Pt (s.set gS gh) a w' A' Lx' sp ∧ Ev w A (join (held s sp) Lx) w' A' (join (held (s.set gS gh) sp) Lx') := by
  have hglive : ∀ o, live s.loc sp g o := fun o => .inl (by rw [hg]; exact fun e => by cases e)
  have hgA : ∀ o, ¬ A g o := fun o ha => (h.rs.av g o ha).2 (hglive o)
  have hgLx : ∀ o, ¬ Lx g o := fun o hl => h.ap g o o (.inl (hglive o)) hl
  have hnot : ∀ b o, b ≠ g → ¬ Lx b o → ¬ join Lx (blkA g) b o := fun b o e hl hj => hj.elim hl e
  have hap : ∀ b o o', held s sp b o → ¬ Lx' b o' := fun b o o' hl hx => by
    by_cases e : b = g
    · subst e; exact hL o' hx
    · exact (hev.cell b o' (h.own_lt hl) (hnot b o' e (h.ap b o o' hl))).2 (.inl hx)
  have hblk : ∀ b o, b ≠ g → held s sp b o → w'.heap[b]? = w.heap[b]? := fun b o e hl => hev.block b (h.own_lt hl) (fun o' => hnot b o' e (h.ap b o o' hl))
  have hsup : ∀ b o, A' b o → ¬ held s sp b o := by
    intro b o ha hl
    rcases hev.sup b o ha with h1 | h1 | h1
    · exact h.own_av h1 hl
    · rcases h1 with h1 | h1
      · exact h.ap b o o hl h1
      · subst h1; exact hA o ha
    · exact absurd (h.own_lt hl) (by omega)
  have hcell : ∀ b o v, A b o → w.cell? ⟨b, o, none⟩ = some v → w'.cell? ⟨b, o, none⟩ = some v := fun b o v ha hc =>
    (hev.cell b o (h.rs.av b o ha).1 (hnot b o (fun e => hgA o (e ▸ ha)) (h.av b o ha))).1.trans hc
  have hobj : ObjKept w w' A A' := .blocks hev.sub fun b ha hb => hev.block b hb fun o => hnot b o (fun e => hgA 0 (e ▸ ha 0)) (h.av b o (ha o))
  have hmono : ∀ {x : AV} {v : Value}, RV w A x v → RV w' A' x v := fun hx => hx.mono (fun b o v ha hv => ⟨hcell b o v ha hv, hev.sub b o ha⟩) hobj
  have hsb : ∀ r, (sp r).2.1 < (sp r).2.2 → (sp r).1 ≠ g := fun r hr e => by
    have := (h.rs.spb r hr).2
    rw [e, hg] at this; cases this
  have hrs : RS C.N s ⟨a.tmps, []⟩ w' A' sp := by
    refine ⟨h.rs.size, h.rs.defers, fun d => ⟨hmono (h.rs.env d).1, (h.rs.env d).2⟩, fun b cs' hb => ?_, fun r hr => ⟨?_, (h.rs.spb r hr).2⟩, h.rs.spd, fun b o ha => ⟨(hav b o ha).1, fun hl => hsup b o ha (.inl hl)⟩⟩
    · by_cases e : b = g
      · subst e
        rw [hg] at hb; injection hb with hb; subst hb
        obtain ⟨vs, T, g1, g2, g3⟩ := hlent
        exact ⟨vs, T, g1, g2, fun i => ⟨g3 i, .of_erase0 hcs i⟩⟩
      · obtain ⟨vs, T, g1, g2, g3⟩ := h.rs.loc b cs' hb
        exact ⟨vs, T, (hblk b 0 e (.inl (.inl (by rw [hb]; exact fun e => by cases e)))).trans g1, g2, fun i => ⟨hmono (g3 i).1, (g3 i).2⟩⟩
    · obtain ⟨⟨vs, T, h1, h2⟩, _⟩ := h.rs.spb r hr
      exact ⟨vs, T, (hblk _ (sp r).2.1 (hsb r hr) (.inl (.inr ⟨r, rfl, Nat.le_refl _, hr⟩))).trans h1, h2⟩
  have hrs2 : RS C.N (s.set gS gh) ⟨a.tmps, []⟩ w' A' sp := by
    refine ⟨hrs.size, hrs.defers, fun d => ?_, hrs.loc, hrs.spb, hrs.spd, hrs.av⟩
    by_cases hd : d = gS
    · subst hd
      rw [env_set_g]
      cases gh <;> first | (cases hgh; done) | exact ⟨.any _, trivial⟩ | exact ⟨.ghost _ _ _ _, trivial⟩
    · have e : (s.set gS gh).env d = s.env d := upd_ne _ _ hd
      rw [e]; exact hrs.env d
  have hoo : objs (s.set gS gh) = objs s := by funext b o; simp only [objs, env_set_o]
  have how : held (s.set gS gh) sp = held s sp := by unfold held; rw [hoo]; rfl
  refine ⟨⟨hrs2, fun k hk => ?_, hlt, by rw [how]; exact hap, fun b o ha => (hav b o ha).2, by rw [env_set_g]; exact hx, fun p hp => ?_, fun b => ?_, fun b o hb ha => ?_, Nat.le_trans h.bs hev.size, h.dn, h.df, h.ro⟩, ?_⟩
  · by_cases e : k = gS
    · subst e; rw [env_set_g]; exact hgh
    · rw [show (s.set gS gh).env k = s.env k from upd_ne _ _ e]; exact h.ig k hk
  · obtain ⟨h1, h2, h3⟩ := h.pt p hp
    have hpg : p.1 ≠ g := fun e => h.pt_dead hp 0 (by rw [e]; exact .inl (hglive 0))
    refine ⟨(hev.block p.1 (lt_of_heap h1) fun o => hnot _ o hpg (h3.1 o)).trans h1, h2, fun o hl => (hev.cell p.1 o (lt_of_heap h1) (hnot _ o hpg (h3.1 o))).2 (.inl hl), fun o ha => ?_, by rw [env_set_o]; exact h3.2.2⟩
    rcases hev.sup _ o ha with h4 | h4 | h4
    · exact h3.2.1 o h4
    · rcases h4 with h4 | h4
      · exact h3.1 o h4
      · exact hpg h4
    · exact absurd (lt_of_heap h1) (by omega)
  · rw [env_set_o]
    refine (h.ob b).mono (fun hx => ?_) (fun b o v ha hv => ⟨hcell b o v ha hv, hev.sub b o ha⟩) hobj
    have hbg : b ≠ g := fun e => by
      obtain ⟨ob, q1, q2⟩ := h.obj_block (b := b) (o := 0) hx
      exact h.rs.not_live q1 q2 0 (e ▸ hglive 0)
    exact hblk b 0 hbg (.inr hx)
  · rw [hoo] at hb; exact hsup b o ha (.inr hb)
  · rw [how]
    have hgj : ∀ o, join (held s sp) Lx g o := fun o => .inl (.inl (hglive o))
    refine ⟨hev.os, hev.tape, hev.output, hev.size, fun b o hb hl => ?_, fun b hb hl => hev.block b hb fun o ho => ?_, hev.sub, fun b o ha => ?_⟩
    · have hbg : b ≠ g := fun e => hl (e ▸ hgj o)
      simp only [join, not_or] at hl
      obtain ⟨h1, h2⟩ := hev.cell b o hb (hnot b o hbg hl.2)
      exact ⟨h1, by simp only [join, not_or] at h2 ⊢; exact ⟨hl.1, h2.1⟩⟩
    · rcases ho with ho | ho
      · exact hl o (.inr ho)
      · subst ho; exact hl o (hgj o)
    · rcases hev.sup b o ha with h1 | h1 | h1
      · exact .inl h1
      · rcases h1 with h1 | h1
        · exact .inr (.inl (.inr h1))
        · subst h1; exact .inr (.inl (hgj o))
      · exact .inr (.inr h1)

def StepIn (ro : Option Nat) (P : Program) (ops : Array Oper) (o : Oper) (a : Act) (w : World) (rest : Act → World → Prop) (Q : Exit → Act → World → Prop) : Prop :=
  if Region.wanted o (yielded ops a.tmps) = true then o.wpIn (Fw ro) 0 P a w rest Q else (∀ f, o.about P w a.eval = some f → (Fw ro).fn f) ∧ rest (a.put o.dst undef) w

def Goes (C : Ctx P) (Pt : List (Nat × Obj)) (s : St) (w : World) (A Lx : Area) (sp : Sp) (ds : List Deferred) (K : St → Prop) (rest : Act → World → Prop) : Prop :=
  ∀ s' a' w' A' Lx' sp', K s' → GS C Pt s' a' w' A' Lx' sp' → Ev w A (join (held s sp) Lx) w' A' (join (held s' sp') Lx') → a'.defers = ds → rest a' w'

theorem step_up {ops : Array Oper} {o : Oper} {m : MOp} {K : St → Prop} {rest : Act → World → Prop} {Q : Exit → Act → World → Prop} (h : GS C Pt s a w A Lx sp) (hnd : ∀ c, o.op ≠ .defer c) (hm : noG m = true)
    (hv : vc1 P m s K) (hs : ∀ (K : St → Prop) (rest : Act → World → Prop) (Q : Exit → Act → World → Prop), vc1 P m s K → Next s w A sp C.N K rest →
      (if Region.wanted o (yielded ops a.tmps) = true then o.wp P ⟨a.tmps, []⟩ w rest Q ∨ (o.asks P ⟨a.tmps, []⟩ w ∧ LetsOut Q) else rest ((⟨a.tmps, []⟩ : Act).put o.dst undef) w))
    (hn : Goes C Pt s w A Lx sp a.defers K rest) : StepIn C.ro P ops o a w rest Q := by
  have hv2 := vc1_keep hm h.ig hv
  have h1 := hs _ (fun a1 w1 => a1.defers = [] ∧ ∃ s' A' sp', K s' ∧ (∀ k, gS ≤ k → s'.env k = s.env k) ∧ RS C.N s' a1 w1 A' sp' ∧ Ev w A (live s.loc sp) w1 A' (live s'.loc sp')) (NQ fun _ _ => True) hv2
    (fun s' a' w' A' sp' hk hr hev => ⟨hr.defers, s', A', sp', hk.1, hk.2, hr, hev⟩)
  have fin : ∀ a' w', Lift a.defers (fun a1 w1 => a1.defers = [] ∧ ∃ s' A' sp', K s' ∧ (∀ k, gS ≤ k → s'.env k = s.env k) ∧ RS C.N s' a1 w1 A' sp' ∧ Ev w A (live s.loc sp) w1 A' (live s'.loc sp')) a' w' → rest a' w' := by
    rintro a' w' ⟨hd, -, s', A', sp', hk, hg, hr, hev⟩
    obtain ⟨g1, g2⟩ := h.own hr hev hg hd
    exact hn s' a' w' A' Lx sp' hk g1 g2 hd
  unfold StepIn
  split at h1
  · rename_i hw
    rw [if_pos hw]
    rcases h1 with h1 | ⟨_, _, _, h1⟩
    · exact Oper.wpIn_mono (K := Lift a.defers _) fin (oper_in (t := a.tmps) (ds := a.defers) hnd (fun _ _ hh => hh.1) h1)
    · exact h1.elim
  · rename_i hw
    rw [if_neg hw]
    refine ⟨fun _ _ => trivial, fin _ _ ?_⟩
    exact put_lift (t := a.tmps) h1

end
end Go.Avm

namespace Go.Avm
open Go.RowKit

section
variable {P : Program} {C : Ctx P} {Pt : List (Nat × Obj)} {s : St} {a : Act} {w : World} {A Lx : Area} {sp : Sp} {o : Oper} {d : Nat} {K : St → Prop} {rest : Act → World → Prop} {Q : Exit → Act → World → Prop}

theorem wpIn_value {ro : Option Nat} {v : Value} {w' : World} (hnd : ∀ c, o.op ≠ .defer c) (hrun : (execOp a.eval o).run P w = .ok (.value v) w') (h : rest (a.put o.dst v) w') : o.wpIn (Fw ro) 0 P a w rest Q := by
  refine ⟨fun _ _ => trivial, ?_⟩
  rw [Oper.semAt_eq _ _ _ hnd, hrun, Oper.uponIn_value]
  exact h
theorem wpIn_skip0 {ro : Option Nat} {w' : World} (hnd : ∀ c, o.op ≠ .defer c) (hrun : (execOp a.eval o).run P w = .ok .skip w') (h : rest (a.put o.dst undef) w') : o.wpIn (Fw ro) 0 P a w rest Q := by
  refine ⟨fun _ _ => trivial, ?_⟩
  rw [Oper.semAt_eq _ _ _ hnd, hrun, Oper.uponIn_skip]
  exact h

theorem RS.ghost {N : Nat} (h : RS N s a w A sp) (k : Nat) {x : AV} (hx : isG x = true) : RS N (s.set k x) a w A sp := by
  refine ⟨h.size, h.defers, fun d => ?_, h.loc, h.spb, h.spd, h.av⟩
  by_cases hd : d = k
  · subst hd
    rw [show (s.set d x).env d = x from upd_same _ _ _]
    cases x <;> first | (cases hx; done) | exact ⟨.any _, trivial⟩ | exact ⟨.ghost _ _ _ _, trivial⟩
  · rw [show (s.set k x).env d = s.env d from upd_ne _ _ hd]; exact h.env d

theorem gS_lt_oS (b : Nat) : gS < oS + b := by simp only [gS, oS]; omega

theorem GS.obj (h : GS C Pt s a w A Lx sp) {b : Nat} {x : AV} (hx : isG x = true) {w' : World}
    (hfr : s.env (oS + b) ≠ .any ∨ b = w.heap.size) (hle : w.heap.size ≤ w'.heap.size)
    (hos : w'.os = w.os ∧ w'.tape = w.tape ∧ w'.output = w.output) (hblk : ∀ c, c < w.heap.size → c ≠ b → w'.heap[c]? = w.heap[c]?) (hob : ObjOK w' A b x) :
    GS C Pt (s.set (oS + b) x) a w' A Lx sp ∧ Ev w A (join (held s sp) Lx) w' A (join (held (s.set (oS + b) x) sp) Lx) := by
  have hAb : ∀ o, ¬ A b o := by
    intro o ha
    rcases hfr with hf | hf
    · exact h.oa b o hf ha
    · exact absurd (h.rs.av b o ha).1 (by omega)
  have hlb : ∀ o, ¬ live s.loc sp b o := by
    intro o hl
    rcases hfr with hf | hf
    · obtain ⟨ob, h1, h2⟩ := h.obj_block (o := o) hf
      exact h.rs.not_live h1 h2 o hl
    · exact absurd (h.rs.live_lt hl) (by omega)
  have hxb : ∀ o, ¬ Lx b o := by
    intro o hl
    rcases hfr with hf | hf
    · exact h.ap b o o (.inr hf) hl
    · exact absurd (h.lt b o hl) (by omega)
  have hcell : ∀ c o v, A c o → w.cell? ⟨c, o, none⟩ = some v → w'.cell? ⟨c, o, none⟩ = some v := fun c o v ha hv =>
    (World.cell?_of_block (hblk c (h.rs.av c o ha).1 (fun e => hAb o (e ▸ ha)))).trans hv
  have hobj : ObjKept w w' A A := .blocks (fun _ _ ha => ha) fun c ha hc => hblk c hc fun e => hAb 0 (e ▸ ha 0)
  have hbl : ∀ c o, c < w.heap.size → live s.loc sp c o → w'.heap[c]? = w.heap[c]? := fun c o hc hl => hblk c hc (fun e => hlb o (e ▸ hl))
  have hrs : RS C.N s ⟨a.tmps, []⟩ w' A sp := by
    refine h.rs.world hcell (fun _ _ ha => ha) hobj (fun c cs hc => hbl c 0 (h.rs.loc_lt hc) (.inl (by rw [hc]; exact fun e => by cases e))) (fun r hr => ?_) (fun c o ha => ⟨Nat.lt_of_lt_of_le (h.rs.av c o ha).1 hle, (h.rs.av c o ha).2⟩)
    obtain ⟨⟨vs, T, h1, h2⟩, _⟩ := h.rs.spb r hr
    exact ⟨vs, T, (hbl _ (sp r).2.1 (lt_of_heap h1) (.inr ⟨r, rfl, Nat.le_refl _, hr⟩)).trans h1, h2⟩
  have hrs2 := hrs.ghost (oS + b) hx
  have henv : ∀ c, c ≠ b → (s.set (oS + b) x).env (oS + c) = s.env (oS + c) := fun c hc => upd_ne _ _ (by omega)
  have hself : (s.set (oS + b) x).env (oS + b) = x := upd_same _ _ _
  have hev : Ev w A (held s sp) w' A (held (s.set (oS + b) x) sp) := by
    refine ⟨hos.1, hos.2.1, hos.2.2, hle, fun c o hc hl => ?_, fun c hc hl => ?_, fun _ _ ha => ha, fun _ _ ha => .inl ha⟩
    · have hcb : c ≠ b ∨ (c = b ∧ False) := by
        by_cases e : c = b
        · subst e
          rcases hfr with hf | hf
          · exact absurd (.inr hf) hl
          · omega
        · exact .inl e
      rcases hcb with hcb | ⟨_, hf⟩
      · refine ⟨World.cell?_of_block (hblk c hc hcb), fun hh => ?_⟩
        rcases hh with hh | hh
        · exact hl (.inl hh)
        · exact hl (.inr (by simp only [objs, henv c hcb] at hh; exact hh))
      · exact hf.elim
    · refine hblk c hc fun e => ?_
      subst e
      rcases hfr with hf | hf
      · exact hl 0 (.inr hf)
      · omega
  refine h.step (a' := a) hrs2 hev (fun k hk => ?_) ?_ (fun c => ?_) (fun c o hc ha => ?_) rfl
  · by_cases e : k = oS + b
    · subst e; rw [hself]; exact hx
    · rw [show (s.set (oS + b) x).env k = s.env k from upd_ne _ _ e]; exact h.ig k hk
  · exact upd_ne _ _ (Nat.ne_of_lt (gS_lt_oS b))
  · by_cases e : c = b
    · subst e; rw [hself]; exact hob
    · rw [henv c e]
      refine (h.ob c).mono (fun hne => ?_) (fun b o v ha hv => ⟨hcell b o v ha hv, ha⟩) hobj
      obtain ⟨ob, g1, _⟩ := (h.ob c).block hne
      exact hblk c (lt_of_heap g1) e
  · by_cases e : c = b
    · subst e; exact hAb o ha
    · simp only [objs, henv c e] at hc; exact h.oa c o hc ha

theorem GS.put (h : GS C Pt s a w A Lx sp) {d : Nat} (hd : d < C.N) (hg : d < gS) {x : AV} {v : Value} (hr : RV w A x v) (ho : OwnOK sp x v) : GS C Pt (s.set d x) (a.put (some d) v) w A Lx sp := by
  have h1 : RS C.N (s.set d x) ⟨(a.put (some d) v).tmps, []⟩ w A sp := h.rs.put hd hr ho
  have h2 := (h.own (a' := a.put (some d) v) h1 (.refl _ _ _) (fun k hk => upd_ne _ _ (by omega)) rfl).1
  exact h2

theorem held_set {s : St} {d : Nat} (hd : d < gS) (x : AV) (sp : Sp) : held (s.set d x) sp = held s sp := by
  unfold held
  have : objs (s.set d x) = objs s := by funext b o; simp only [objs]; rw [show (s.set d x).env (oS + b) = s.env (oS + b) from upd_ne _ _ (by simp only [gS, oS] at *; omega)]
  rw [this]; rfl

theorem s_rngS {T : TypeId} {x : Operand} {mx : MArg} (hop : o.op = .range T x) (hd : o.dst = some d) (hN : d < C.N) (hCN : C.N ≤ gS) (ht : P.underlying T = some .string) (hx : argOf x = some mx)
    (h : GS C Pt s a w A Lx sp) (hv : vc1 P (.rngS d mx) s K) (hn : Goes C Pt s w A Lx sp a.defers K rest) : o.wpIn (Fw C.ro) 0 P a w rest Q := by
  have h1 : RV w A (mx.ev s.env) (a.eval x) := (argOf_sound h.rs hx).1
  simp only [vc1] at hv
  split at hv
  · rename_i t e1
    rw [e1] at h1
    have hfresh : s.env (oS + w.heap.size) = .any := Classical.byContradiction fun hne => by
      obtain ⟨ob, g1, _⟩ := (h.ob w.heap.size).block hne
      exact absurd (lt_of_heap g1) (Nat.lt_irrefl _)
    have hK := hv w.heap.size h.rs.fresh hfresh
    generalize hv0 : a.eval x = v0 at h1
    cases h1
    have hrun : (execOp a.eval o).run P w = .ok (.value (.pointer (some ⟨w.heap.size, 0, none⟩))) (w.alloc (.stringIter t 0)) := by
      simp [execOp, hop, hv0, Instr.range, run_underlying ht]
    refine wpIn_value (by rw [hop]; intro c e; cases e) hrun ?_
    obtain ⟨g1, g2⟩ := h.obj (b := w.heap.size) (x := itAV t 0) (w' := w.alloc (.stringIter t 0)) rfl (.inr rfl) (by rw [alloc_size]; omega) ⟨rfl, rfl, rfl⟩ (fun c hc _ => heap_alloc _ _ _ hc) (.iter t 0 (heap_alloc_at _ _))
    rw [hd]
    have hdg : d < gS := Nat.lt_of_lt_of_le hN hCN
    exact hn _ _ _ _ _ _ hK (g1.put hN hdg (.mref _ _) trivial) (by rw [held_set hdg]; exact g2) rfl
  · exact hv.elim

theorem s_nxtS {x : Operand} {mx : MArg} (hop : o.op = .next x true) (hd : o.dst = some d) (hN : d < C.N) (hCN : C.N ≤ gS) (hx : argOf x = some mx)
    (h : GS C Pt s a w A Lx sp) (hv : vc1 P (.nxtS d mx) s K) (hn : Goes C Pt s w A Lx sp a.defers K rest) : o.wpIn (Fw C.ro) 0 P a w rest Q := by
  have h1 : RV w A (mx.ev s.env) (a.eval x) := (argOf_sound h.rs hx).1
  have hdg : d < gS := Nat.lt_of_lt_of_le hN hCN
  simp only [vc1] at hv
  split at hv
  · rename_i b e1
    rw [e1] at h1
    obtain ⟨t, pos, e2, hv1, hv2⟩ := hv
    have hob := h.ob b
    rw [e2] at hob
    have hne : s.env (oS + b) ≠ .any := by rw [e2]; intro e; cases e
    generalize hv0 : a.eval x = v0 at h1
    cases h1
    have hheap : w.heap[b]? = some (.stringIter t pos) := by
      generalize hz : itAV t pos = z at hob
      cases hob with
      | any => cases hz
      | iter t' pos' hh => injection hz with z1 z2; injection z2 with z3; injection z3 with z4; injection z4 with z5; injection z5 with z6; rw [z1, z6]; exact hh
      | map => injection hz with _ _ z3; cases z3
      | miter => injection hz with _ z2; injection z2 with z3; injection z3 with z4; injection z4 with z5; cases z5
    by_cases hp : pos < t.size
    · have hrun : (execOp a.eval o).run P w = .ok (.value (.tuple #[.bool true, .int .i64 pos, .int .i32 (Utf8.decode t pos).1])) (w.putObj b (.stringIter t (pos + (Utf8.decode t pos).2))) := by
        simp [execOp, hop, hv0, Instr.next, getObj, setObj, Sem.run, hheap, hp, Result.andThen, World.putObj, goInt]
      refine wpIn_value (by rw [hop]; intro c e; cases e) hrun ?_
      obtain ⟨g1, g2⟩ := h.obj (b := b) (x := itAV t (pos + (Utf8.decode t pos).2)) (w' := w.putObj b (.stringIter t (pos + (Utf8.decode t pos).2))) rfl (.inl hne) (by simp) ⟨rfl, rfl, rfl⟩ (fun c hc hcb => World.putObj_heap_other hcb) (.iter t _ (World.putObj_heap_same (lt_of_heap hheap)))
      rw [hd]
      refine hn _ _ _ _ _ _ (hv1 hp) (g1.put hN hdg (.tuple _ _ rfl fun i => ?_) trivial) (by rw [held_set hdg]; exact g2) rfl
      match i with
      | 0 => exact .lit _ rfl
      | 1 => exact .lit _ rfl
      | 2 => exact .lit _ rfl
      | i + 3 => simp; exact .any _
    · have hrun : (execOp a.eval o).run P w = .ok (.value (.tuple #[.bool false])) w := by
        simp [execOp, hop, hv0, Instr.next, getObj, Sem.run, hheap, hp, Result.andThen]
      refine wpIn_value (by rw [hop]; intro c e; cases e) hrun ?_
      rw [hd]
      refine hn _ _ _ _ _ _ (hv2 hp) (h.put hN hdg (.tuple _ _ rfl fun i => ?_) trivial) (by rw [held_set hdg]; exact .refl _ _ _) rfl
      match i with
      | 0 => exact .lit _ rfl
      | i + 1 => simp; exact .any _
  · exact hv.elim

theorem s_mkMap {T : TypeId} (hop : o.op = .makeMap T none) (hd : o.dst = some d) (hN : d < C.N) (hCN : C.N ≤ gS)
    (h : GS C Pt s a w A Lx sp) (hv : vc1 P (.mkMap d) s K) (hn : Goes C Pt s w A Lx sp a.defers K rest) : o.wpIn (Fw C.ro) 0 P a w rest Q := by
  simp only [vc1] at hv
  have hfresh : s.env (oS + w.heap.size) = .any := Classical.byContradiction fun hne => by
    obtain ⟨ob, g1, _⟩ := (h.ob w.heap.size).block hne
    exact absurd (lt_of_heap g1) (Nat.lt_irrefl _)
  have hK := hv w.heap.size h.rs.fresh hfresh
  have hrun : (execOp a.eval o).run P w = .ok (.value (.map (some w.heap.size))) (w.alloc (.map #[] 0)) := by
    simp [execOp, hop, Instr.makeMap]
  refine wpIn_value (by rw [hop]; intro c e; cases e) hrun ?_
  obtain ⟨g1, g2⟩ := h.obj (b := w.heap.size) (x := mapAV []) (w' := w.alloc (.map #[] 0)) rfl (.inr rfl) (by rw [alloc_size]; omega) ⟨rfl, rfl, rfl⟩ (fun c hc _ => heap_alloc _ _ _ hc) (.map [] #[] 0 (heap_alloc_at _ _) rfl rfl (fun i e he => by simp at he))
  rw [hd]
  have hdg : d < gS := Nat.lt_of_lt_of_le hN hCN
  exact hn _ _ _ _ _ _ hK (g1.put hN hdg (.mapr _) trivial) (by rw [held_set hdg]; exact g2) rfl

end
end Go.Avm

namespace Go.Avm
open Go.RowKit

section
variable {P : Program} {w : World} {A : Area}

theorem eqStruct_run {t : TypeId} {n : List Bool} {as bs : List AV} {xs ys : Array Value} {q : Bool} (ht : eqStruct P t = some n) (l1 : as.length = n.length) (l2 : bs.length = n.length) (hs1 : xs.size = as.length) (hs2 : ys.size = bs.length)
    (hr1 : ∀ i, RV w A (as.getD i .any) (xs.getD i undef)) (hr2 : ∀ i, RV w A (bs.getD i .any) (ys.getD i undef)) (hq : eqCells n as bs = some q) : (Op.equal t (.agg xs) (.agg ys)).run P w = .ok q w := by
  unfold eqStruct at ht
  split at ht
  · rename_i fs hu
    split at ht
    · rename_i hc
      injection ht with ht
      simp only [Bool.and_eq_true, Bool.not_eq_true'] at hc
      obtain ⟨⟨hf, hst⟩, hg⟩ := hc
      have hfo : P.fieldsOf t = fs := by simp [Program.fieldsOf, hu]
      show (Op.equalIn (9999 + 1) t _ _).run P w = _
      rw [run_equalIn_struct w 9999 t xs ys (by rw [hfo]; exact hu) hst, hfo]
      exact eqFields_run (P := P) (w := w) 9998 xs ys as bs hs1 hs2 hr1 hr2 fs.toList (kindsOf P fs.toList) 0 q hf (by rw [l1, ← ht]; simp [kindsOf]) (by rw [l2, ← ht]; simp [kindsOf]) (by rw [ht]; simpa using hq)
    · cases ht
  · cases ht

def keyTy (P : Program) (k : TypeId) (key : AV) : Bool :=
  match P.underlying k, key with
  | some (.int _), .lit (.int _ _) => true
  | some .string, .lit (.string _) => true
  | some (.array n e), .agg xs => decide (xs.length = n) && intE P e
  | some (.struct _), .agg xs => match eqStruct P k with
    | some n => decide (n = List.replicate xs.length false)
    | none => false
  | _, _ => false

theorem bl_loop (s : ByteArray) : ∀ (n i : Nat) (r : List UInt8), s.size - i = n → ByteArray.toList.loop s i r = r.reverse ++ s.data.toList.drop i
  | 0, i, r, h => by
    unfold ByteArray.toList.loop
    have : ¬ i < s.size := by omega
    rw [if_neg this, List.drop_of_length_le (by simpa using (by omega : s.size ≤ i)), List.append_nil]
  | n + 1, i, r, h => by
    unfold ByteArray.toList.loop
    have hi : i < s.size := by omega
    rw [if_pos hi, bl_loop s n (i + 1) _ (by omega)]
    have e : s.data.toList.drop i = s.get! i :: s.data.toList.drop (i + 1) := by
      rw [List.drop_eq_getElem_cons (by simpa using hi)]
      congr 1
      cases s with
      | mk a =>
        have hi' : i < a.size := hi
        simp [ByteArray.get!, hi']
    rw [e]
    simp
theorem bl_data (s : ByteArray) : s.toList = s.data.toList := by
  unfold ByteArray.toList
  rw [bl_loop s _ 0 [] rfl]; simp
theorem bytes_beq (a b : ByteArray) : (a == b) = (a.toList == b.toList) := by
  rw [show (a == b) = (a.data == b.data) from rfl, bl_data, bl_data, Bool.eq_iff_iff]
  simp

theorem keyEq_run {k : TypeId} {x y : AV} {vx vy : Value} {q : Bool} (hk : keyTy P k x = true) (hx : RV w A x vx) (hy : RV w A y vy) (he : keyEq x y = some q) :
    (((∃ fs, P.underlying k = some (.struct fs)) ∨ ∃ n e, P.underlying k = some (.array n e)) ∨ ∃ dd, P.underlying k = some dd ∧ Instr.sameNow dd vx vy = some q) ∧ (Op.equal k vx vy).run P w = .ok q w := by
  unfold keyTy at hk
  split at hk
  · rename_i kd kk n hu
    cases y with
    | lit v =>
      cases v with
      | int k' b =>
        simp only [keyEq] at he
        split at he
        · rename_i e; subst e
          injection he with he; subst he
          have e1 := hx.inv_int; have e2 := hy.inv_int
          subst e1 e2
          refine ⟨.inr ⟨.int kd, hu, by simp [Instr.sameNow]⟩, ?_⟩
          show (Op.equalIn (9999 + 1) k _ _).run P w = _
          exact run_equalIn_int w 9999 k kk kd n b hu
        · cases he
      | _ => simp [keyEq] at he
    | _ => simp [keyEq] at he
  · rename_i p hu
    cases y with
    | lit v =>
      cases v with
      | string p2 =>
        simp only [keyEq] at he
        injection he with he; subst he
        cases hx with
        | lit _ _ => cases hy with
          | lit _ _ =>
            refine ⟨.inr ⟨.string, hu, by simp only [Instr.sameNow, bytes_beq]⟩, ?_⟩
            show (Op.equalIn (9999 + 1) k _ _).run P w = _
            exact run_equalIn_string w 9999 k p p2 hu
      | _ => simp [keyEq] at he
    | _ => simp [keyEq] at he
  · rename_i n e xs hu
    simp only [Bool.and_eq_true, decide_eq_true_eq] at hk
    cases y with
    | agg ys =>
      simp only [keyEq] at he
      cases hx with
      | agg _ vxs hs1 hr1 => cases hy with
        | agg _ vys hs2 hr2 => exact ⟨.inl (.inr ⟨n, e, hu⟩), eqArray_run hu hk.2 hk.1 hs1 hs2 hr1 hr2 he⟩
    | _ => simp [keyEq] at he
  · rename_i fs xs hu
    split at hk
    · rename_i n hn
      have hl : n = List.replicate xs.length false := of_decide_eq_true hk
      cases y with
      | agg ys =>
        simp only [keyEq] at he
        cases hx with
        | agg _ vxs hs1 hr1 => cases hy with
          | agg _ vys hs2 hr2 =>
            exact ⟨.inl (.inl ⟨fs, hu⟩), eqStruct_run hn (by rw [hl]; simp) (by rw [hl, ← (eqCells_len he).1]; simp) hs1 hs2 hr1 hr2 (by rw [hl]; exact he)⟩
      | _ => simp [keyEq] at he
    · cases hk
  · cases hk

theorem findAsking_run {k : TypeId} {x : AV} {vx : Value} (hk : keyTy P k x = true) (hx : RV w A x vx) : ∀ (es : List (List AV)) (es' : List MapEntry) (i : Nat) (r : Option Nat), es'.length = es.length →
    (∀ j e, es'[j]? = some e → RV w A ((es.getD j []).getD 0 .any) e.key) → keyAt x es i = some r →
    (Instr.findAsking k vx es' i).run P w = .ok (r.bind fun j => (es'[j - i]?).map fun e => (j, e.val)) w ∧ ∀ j, r = some j → i ≤ j ∧ j < i + es.length
  | [], [], i, r, _, _, h => by injection h with h; subst h; exact ⟨rfl, fun j e => by cases e⟩
  | e :: es, e' :: es', i, r, hl, hr, h => by
    have h0 := hr 0 e' rfl
    simp only [keyAt] at h
    simp only [Instr.findAsking]
    split at h
    · rename_i hq
      injection h with h; subst h
      have := (keyEq_run hk hx (by simpa using h0) hq).2
      refine ⟨by simp [Sem.run_bind, this], fun j e => by injection e with e; subst e; simp⟩
    · rename_i hq
      have h1 := (keyEq_run hk hx (by simpa using h0) hq).2
      obtain ⟨g1, g2⟩ := findAsking_run hk hx es es' (i + 1) r (by simpa using hl) (fun j e he => by have := hr (j + 1) e (by simpa using he); simpa using this) h
      refine ⟨?_, fun j e => by have := g2 j e; simp; omega⟩
      simp only [Sem.run_bind, h1, Result.andThen_ok, Bool.false_eq_true, if_false, g1]
      cases r with
      | none => rfl
      | some j =>
        have := g2 j rfl
        have e : j - i = (j - (i + 1)) + 1 := by omega
        simp only [Option.bind_some, e, List.getElem?_cons_succ]
    · cases h
  | [], _ :: _, _, _, h, _, _ => by simp at h
  | _ :: _, [], _, _, h, _, _ => by simp at h

theorem findNow_run {k : TypeId} {dd : TypeDesc} (hu : P.underlying k = some dd) (hns : ∀ fs, dd ≠ .struct fs) (hna : ∀ n e, dd ≠ .array n e) {x : AV} {vx : Value} (hk : keyTy P k x = true) (hx : RV w A x vx) : ∀ (es : List (List AV)) (es' : List MapEntry) (i : Nat) (r : Option Nat), es'.length = es.length →
    (∀ j e, es'[j]? = some e → RV w A ((es.getD j []).getD 0 .any) e.key) → keyAt x es i = some r →
    Instr.findNow dd vx es' i = some (r.bind fun j => (es'[j - i]?).map fun e => (j, e.val)) ∧ ∀ j, r = some j → i ≤ j ∧ j < i + es.length
  | [], [], i, r, _, _, h => by injection h with h; subst h; exact ⟨rfl, fun j e => by cases e⟩
  | e :: es, e' :: es', i, r, hl, hr, h => by
    have h0 := hr 0 e' rfl
    have hs : ∀ q, keyEq x (e.getD 0 .any) = some q → Instr.sameNow dd vx e'.key = some q := by
      intro q hq
      rcases (keyEq_run hk hx (by simpa using h0) hq).1 with (⟨fs, h1⟩ | ⟨n, e, h1⟩) | ⟨dd', h1, h2⟩
      · rw [hu] at h1; injection h1 with h1; exact absurd h1 (hns fs)
      · rw [hu] at h1; injection h1 with h1; exact absurd h1 (hna n e)
      · rw [hu] at h1; injection h1 with h1; subst h1; exact h2
    simp only [keyAt] at h
    simp only [Instr.findNow]
    split at h
    · rename_i hq
      injection h with h; subst h
      rw [hs _ hq]
      refine ⟨by simp, fun j e => by injection e with e; subst e; simp⟩
    · rename_i hq
      rw [hs _ hq]
      obtain ⟨g1, g2⟩ := findNow_run hu hns hna hk hx es es' (i + 1) r (by simpa using hl) (fun j e he => by have := hr (j + 1) e (by simpa using he); simpa using this) h
      refine ⟨?_, fun j e => by have := g2 j e; simp; omega⟩
      simp only [g1]
      cases r with
      | none => rfl
      | some j =>
        have := g2 j rfl
        have e : j - i = (j - (i + 1)) + 1 := by omega
        simp only [Option.bind_some, e, List.getElem?_cons_succ]
    · cases h
  | [], _ :: _, _, _, h, _, _ => by simp at h
  | _ :: _, [], _, _, h, _, _ => by simp at h

theorem findKey_run {k : TypeId} {x : AV} {vx : Value} (hk : keyTy P k x = true) (hx : RV w A x vx) {es : List (List AV)} {es' : List MapEntry} {r : Option Nat} (hl : es'.length = es.length)
    (hr : ∀ j e, es'[j]? = some e → RV w A ((es.getD j []).getD 0 .any) e.key) (h : keyAt x es 0 = some r) :
    (Instr.findKey k vx es').run P w = .ok (r.bind fun j => (es'[j]?).map fun e => (j, e.val)) w ∧ ∀ j, r = some j → j < es.length := by
  unfold Instr.findKey
  cases hu : P.underlying k with
  | none => unfold keyTy at hk; rw [hu] at hk; cases hk
  | some dd =>
    rw [Sem.run_bind, run_underlying hu, Result.andThen_ok]
    have hask := findAsking_run hk hx es es' 0 r hl hr h
    simp only [Nat.sub_zero, Nat.zero_add] at hask
    cases dd with
    | int kd =>
      obtain ⟨g1, g2⟩ := findNow_run hu (fun _ e => by cases e) (fun _ _ e => by cases e) hk hx es es' 0 r hl hr h
      simp only [g1, Nat.sub_zero, Nat.zero_add] at g1 g2 ⊢
      exact ⟨rfl, fun j e => (g2 j e).2⟩
    | string =>
      obtain ⟨g1, g2⟩ := findNow_run hu (fun _ e => by cases e) (fun _ _ e => by cases e) hk hx es es' 0 r hl hr h
      simp only [g1, Nat.sub_zero, Nat.zero_add] at g1 g2 ⊢
      exact ⟨rfl, fun j e => (g2 j e).2⟩
    | array n e =>
      refine ⟨?_, fun j e => (hask.2 j e).2⟩
      cases es' with
      | nil =>
        have : es = [] := List.eq_nil_of_length_eq_zero (by simpa using hl.symm)
        subst this
        injection h with h; subst h
        rfl
      | cons e' es' => simp only [Instr.findNow, Instr.sameNow]; exact hask.1
    | struct fs =>
      refine ⟨?_, fun j e => (hask.2 j e).2⟩
      cases es' with
      | nil =>
        have : es = [] := List.eq_nil_of_length_eq_zero (by simpa using hl.symm)
        subst this
        injection h with h; subst h
        rfl
      | cons e' es' => simp only [Instr.findNow, Instr.sameNow]; exact hask.1
    | _ => unfold keyTy at hk; rw [hu] at hk; cases hk

theorem checkFields_run (em : Bool) (n : Nat) (vxs : Array Value) (xs : List AV) (hs : vxs.size = xs.length) : ∀ (fs : List Field) (ks : List Bool) (k : Nat), flatFields P ks k fs = true → k + fs.length ≤ xs.length →
    (forIn fs PUnit.unit (fun f (_ : PUnit) => do
      if f.name ≠ "_" then Instr.checkKey em (n + 1) f.type (← part f.type vxs f.offset)
      pure (ForInStep.yield PUnit.unit)) : Sem PUnit).run P w = .ok PUnit.unit w
  | [], _, _, _, _ => rfl
  | _ :: _, [], _, hf, _ => by cases hf
  | f :: fs, kq :: ks, k, hf, hl => by
    simp only [List.length_cons] at hl
    simp only [flatFields, Bool.and_eq_true, bne_iff_ne, beq_iff_eq] at hf
    obtain ⟨⟨⟨hn, hoff⟩, ht⟩, hfs⟩ := hf
    have ih := checkFields_run em n vxs xs hs fs ks (k + 1) hfs (by omega)
    have e1 : vxs[k]? = some (vxs.getD k undef) := by rw [Array.getD_eq_getD_getElem?, Array.getElem?_eq_getElem (by omega)]; rfl
    have hagg : (isAgg f.type).run P w = .ok false w := by
      unfold isAgg
      cases hu : P.underlying f.type with
      | none => rw [hu] at ht; cases kq <;> cases ht
      | some dd => rw [hu] at ht; rw [Sem.run_bind, run_underlying hu]; cases kq <;> cases dd <;> first | rfl | cases ht
    have p1 : (part f.type vxs f.offset).run P w = .ok (vxs.getD k undef) w := by
      generalize vxs.getD k undef = v at e1
      simp [part, Sem.run_bind, hagg, hoff, e1]
    have c1 : ∀ v, (Instr.checkKey em (n + 1) f.type v).run P w = .ok () w := by
      intro v
      cases hu : P.underlying f.type with
      | none => rw [hu] at ht; cases kq <;> cases ht
      | some dd =>
        rw [hu] at ht
        simp only [Instr.checkKey, Sem.run_bind, run_underlying hu, Result.andThen_ok]
        cases kq <;> cases dd <;> first | rfl | cases ht
    simp only [List.forIn_cons, hn, ne_eq, not_false_eq_true, if_true, Sem.run_bind, p1, c1, Result.andThen_ok, Sem.run_pure]
    exact ih

theorem checkKey_int (em : Bool) (n : Nat) {k : TypeId} {kd kk : IntKind} {m : Int} (hu : P.underlying k = some (.int kd)) : (Instr.checkKey em (n + 1) k (.int kk m)).run P w = .ok () w := by
  simp only [Instr.checkKey, Sem.run_bind, run_underlying hu, Result.andThen_ok]
  rfl

theorem checkKey_str (em : Bool) (n : Nat) {k : TypeId} {s : ByteArray} (hu : P.underlying k = some .string) : (Instr.checkKey em (n + 1) k (.string s)).run P w = .ok () w := by
  simp only [Instr.checkKey, Sem.run_bind, run_underlying hu, Result.andThen_ok]
  rfl

theorem checkKey_struct (em : Bool) (n : Nat) {k : TypeId} {fs : Array Field} (hu : P.underlying k = some (.struct fs)) {xs : List AV} {vxs : Array Value} (hs : vxs.size = xs.length) {ks : List Bool} (hf : flatFields P ks 0 fs.toList = true) (hl : fs.size ≤ xs.length) :
    (Instr.checkKey em (n + 2) k (.agg vxs)).run P w = .ok () w := by
  have := checkFields_run (w := w) em n vxs xs hs fs.toList ks 0 hf (by simp; omega)
  rw [show n + 2 = (n + 1) + 1 from rfl]
  unfold Instr.checkKey
  simp only [Sem.run_bind, run_underlying hu, Result.andThen_ok]
  rw [← Array.forIn_toList, this]
  rfl

theorem checkKey_array (em : Bool) (m : Nat) {k e : TypeId} {n : Nat} (hu : P.underlying k = some (.array n e)) (hE : intE P e = true) {vxs : Array Value} (hs : vxs.size = n) : (Instr.checkKey em (m + 2) k (.agg vxs)).run P w = .ok () w := by
  obtain ⟨kd, i, h1, h2, h3⟩ := intE_spec hE
  have hsz : i.size = 1 := by simpa [Program.cellsOf, h2] using h3
  have hagg : (isAgg e).run P w = .ok false w := by
    unfold isAgg
    rw [Sem.run_bind, run_underlying h1]
    rfl
  have hso : (sizeOf e).run P w = .ok 1 w := by simp [sizeOf, typeInfo, h2, hsz]
  have c1 : ∀ v, (Instr.checkKey em (m + 1) e v).run P w = .ok () w := by
    intro v
    simp only [Instr.checkKey, Sem.run_bind, run_underlying h1, Result.andThen_ok]
    rfl
  rw [show m + 2 = (m + 1) + 1 from rfl]
  unfold Instr.checkKey
  simp only [Sem.run_bind, run_underlying hu, Result.andThen_ok]
  simp only [Std.Legacy.Range.forIn_eq_forIn_range', Std.Legacy.Range.size, Nat.sub_zero, Nat.add_one_sub_one, Nat.div_one]
  have key : ∀ (l : List Nat), (∀ j ∈ l, j < n) → (forIn l PUnit.unit (fun i (_ : PUnit) => do
      Instr.checkKey em (m + 1) e (← part e vxs (i * (← sizeOf e)))
      pure (ForInStep.yield PUnit.unit)) : Sem PUnit).run P w = .ok PUnit.unit w := by
    intro l
    induction l with
    | nil => intro _; rfl
    | cons j l ih =>
      intro hl
      have hj := hl j (List.mem_cons_self ..)
      have e1 : vxs[j]? = some (vxs.getD j undef) := by rw [Array.getD_eq_getD_getElem?, Array.getElem?_eq_getElem (by omega)]; rfl
      have p1 : (part e vxs (j * 1)).run P w = .ok (vxs.getD j undef) w := by simp only [part, Sem.run_bind, hagg, Nat.mul_one, e1, Result.andThen_ok]; rfl
      simp only [List.forIn_cons, Sem.run_bind, hso, Result.andThen_ok, p1, c1, Sem.run_pure]
      exact ih fun i hi => hl i (List.mem_cons_of_mem _ hi)
  rw [key (List.range' 0 n) fun j hj => by obtain ⟨i, h4, h5⟩ := List.mem_range'.1 hj; omega]
  rfl

theorem checkKey_run (em : Bool) {k : TypeId} {x : AV} {vx : Value} (hk : keyTy P k x = true) (hx : RV w A x vx) : (Instr.checkKey em 10000 k vx).run P w = .ok () w := by
  unfold keyTy at hk
  split at hk
  · rename_i kd kk n hu
    have e1 := hx.inv_int
    subst e1
    exact checkKey_int em 9999 hu
  · rename_i p hu
    cases hx with
    | lit _ _ => exact checkKey_str em 9999 hu
  · rename_i n e xs hu
    simp only [Bool.and_eq_true, decide_eq_true_eq] at hk
    cases hx with
    | agg _ vxs hs1 hr1 => exact checkKey_array em 9998 hu hk.2 (hs1.trans hk.1)
  · rename_i fs xs hu
    split at hk
    · rename_i n hn
      have hl : n = List.replicate xs.length false := of_decide_eq_true hk
      cases hx with
      | agg _ vxs hs1 hr1 =>
        unfold eqStruct at hn
        rw [hu] at hn
        simp only at hn
        split at hn
        · rename_i hc
          injection hn with hn
          simp only [Bool.and_eq_true] at hc
          exact checkKey_struct em 9998 hu hs1 hc.1.1 (by have := congrArg List.length (hn.trans hl); simp [kindsOf] at this; omega)
        · cases hn
    · cases hk
  · cases hk

theorem eqCells_same : ∀ {n : Nat} {as bs : List AV}, eqCells (List.replicate n false) as bs = some true → as = bs ∧ ∀ x ∈ as, ∃ k n, x = .lit (.int k n) := by
  intro n
  induction n with
  | zero =>
    intro as bs h
    obtain ⟨h1, h2⟩ := eqCells_len h
    have e1 : as = [] := List.eq_nil_of_length_eq_zero (by simpa using h2)
    subst e1
    have e2 : bs = [] := List.eq_nil_of_length_eq_zero (by simpa using h1.symm)
    subst e2
    exact ⟨rfl, by simp⟩
  | succ n ih =>
    intro as bs h
    rw [List.replicate_succ] at h
    unfold eqCells at h
    split at h
    · rename_i e; cases e
    · rename_i ks' k p xs' k' p' ys' e
      injection e with _ e; subst e
      split at h
      · rename_i hk; subst hk
        simp only [Option.map_eq_some_iff, Bool.and_eq_true, beq_iff_eq] at h
        obtain ⟨q', hq', rfl, rfl⟩ := h
        obtain ⟨rfl, g⟩ := ih hq'
        refine ⟨rfl, fun z hz => ?_⟩
        rcases List.mem_cons.1 hz with rfl | hz
        · exact ⟨_, _, rfl⟩
        · exact g z hz
      · cases h
    · rename_i e; cases e
    · cases h

theorem sameBits_list (n : Nat) : ∀ (xs : List AV) (us vs : List Value), us.length = xs.length → vs.length = xs.length → (∀ x ∈ xs, ∃ k m, x = AV.lit (.int k m)) → (∀ i, RV w A (xs.getD i .any) (us.getD i undef)) → (∀ i, RV w A (xs.getD i .any) (vs.getD i undef)) →
    ((us.zip vs).all fun (x, y) => Instr.sameBits n x y) = true
  | [], us, vs, h1, h2, _, _, _ => by
    have : us = [] := List.eq_nil_of_length_eq_zero h1
    subst this; rfl
  | x :: xs, u :: us, v :: vs, h1, h2, hx, hu, hv => by
    obtain ⟨k, m, rfl⟩ := hx x (List.mem_cons_self ..)
    have e1 := (hu 0); have e2 := (hv 0)
    simp only [List.getD_eq_getElem?_getD, List.getElem?_cons_zero, Option.getD_some] at e1 e2
    have e1 := e1.inv_int; have e2 := e2.inv_int
    subst e1 e2
    have ih := sameBits_list n xs us vs (by simpa using h1) (by simpa using h2) (fun y hy => hx y (List.mem_cons_of_mem _ hy)) (fun i => by simpa using hu (i + 1)) (fun i => by simpa using hv (i + 1))
    simp only [List.zip_cons_cons, List.all_cons, ih, Bool.and_true]
    cases n <;> simp [Instr.sameBits]
  | _ :: _, [], _, h, _, _, _, _ => by simp at h
  | _ :: _, _ :: _, [], _, h, _, _, _ => by simp at h

theorem stays_run {x y : AV} {vx vy : Value} (hx : RV w A x vx) (hy : RV w A y vy) (he : keyEq x y = some true) : (Instr.keyThatStays vy vx).run P w = .ok vx w := by
  have hs : Instr.sameBits (9999 + 1) vy vx = true := by
    unfold keyEq at he
    split at he
    · split at he
      · rename_i hk; subst hk
        injection he with he
        have e1 := hx.inv_int; have e2 := hy.inv_int
        subst e1 e2
        simp only [Instr.sameBits, beq_self_eq_true, Bool.true_and]
        simp only [beq_iff_eq] at he ⊢
        exact he.symm
      · cases he
    · injection he with he
      cases hx with
      | lit _ _ => cases hy with
        | lit _ _ =>
          simp only [Instr.sameBits, bytes_beq]
          simp only [beq_iff_eq] at he ⊢
          exact he.symm
    · rename_i xs ys
      obtain ⟨rfl, hall⟩ := eqCells_same he
      cases hx with
      | agg _ vxs hs1 hr1 => cases hy with
        | agg _ vys hs2 hr2 =>
          have := sameBits_list (w := w) (A := A) 9999 xs vys.toList vxs.toList (by simpa using hs2) (by simpa using hs1) hall (fun i => by have := hr2 i; simpa [List.getD_eq_getElem?_getD, Array.getD_eq_getD_getElem?] using this) (fun i => by have := hr1 i; simpa [List.getD_eq_getElem?_getD, Array.getD_eq_getD_getElem?] using this)
          simp only [Instr.sameBits, hs1, hs2, beq_self_eq_true, Bool.true_and]
          exact this
    · cases he
  unfold Instr.keyThatStays
  rw [if_pos hs]
  rfl

theorem keyAt_eq : ∀ {es : List (List AV)} {x : AV} {i j : Nat}, keyAt x es i = some (some j) → i ≤ j ∧ keyEq x ((es.getD (j - i) []).getD 0 .any) = some true
  | [], x, i, j, h => by simp [keyAt] at h
  | e :: es, x, i, j, h => by
    simp only [keyAt] at h
    split at h
    · rename_i hq
      injection h with h; injection h with h; subst h
      exact ⟨Nat.le_refl _, by simpa using hq⟩
    · obtain ⟨g1, g2⟩ := keyAt_eq h
      refine ⟨by omega, ?_⟩
      rw [show j - i = (j - (i + 1)) + 1 by omega]
      simpa using g2
    · cases h

def keyN (P : Program) (kt : TypeId) : Option (Option Nat) :=
  match P.underlying kt with
  | some (.int _) => some none
  | some .string => some (some 999)
  | some (.array n e) => if intE P e && n != 999 then some (some n) else none
  | some (.struct _) => (eqStruct P kt).bind fun ks => if ks = List.replicate ks.length false ∧ ks.length ≠ 999 then some (some ks.length) else none
  | _ => none

theorem keyOK_int {x : AV} (h : keyOK none x) : ∃ k n, x = .lit (.int k n) := by
  unfold keyOK at h
  split at h <;> first | exact h.elim | exact ⟨_, _, rfl⟩ | (rename_i e; cases e)
theorem keyOK_str {x : AV} (h : keyOK (some 999) x) : ∃ s, x = .lit (.string s) := by
  unfold keyOK at h
  split at h <;> first | exact h.elim | exact ⟨_, rfl⟩ | (rename_i e; cases e; done) | skip
  rename_i hno e
  injection e with e
  exact absurd e.symm h.1
theorem keyOK_agg {n : Nat} (hn : n ≠ 999) {x : AV} (h : keyOK (some n) x) : ∃ xs, x = .agg xs ∧ xs.length = n := by
  unfold keyOK at h
  split at h
  · rename_i e; cases e
  · rename_i e; injection e with e; exact absurd e hn
  · rename_i m xs e; injection e with e; subst e; exact ⟨_, rfl, h.2⟩
  · exact h.elim

theorem keyTy_of {kt : TypeId} {n : Option Nat} {x : AV} (h : keyN P kt = some n) (hx : keyOK n x) : keyTy P kt x = true := by
  unfold keyN at h
  unfold keyTy
  split at h
  · rename_i kd hu
    injection h with h; subst h
    obtain ⟨k, m, rfl⟩ := keyOK_int hx
    rw [hu]
  · rename_i hu
    injection h with h; subst h
    obtain ⟨s, rfl⟩ := keyOK_str hx
    rw [hu]
  · rename_i n e hu
    split at h
    case isFalse => cases h
    rename_i hE
    injection h with h; subst h
    simp only [Bool.and_eq_true, bne_iff_ne, ne_eq] at hE
    obtain ⟨xs, rfl, hl⟩ := keyOK_agg hE.2 hx
    rw [hu]
    simp only [hl, hE.1, decide_true, Bool.and_self]
  · rename_i fs hu
    simp only [Option.bind_eq_some_iff] at h
    obtain ⟨m, hm, h⟩ := h
    split at h
    case isFalse => cases h
    rename_i hmr
    injection h with h; subst h
    obtain ⟨xs, rfl, hl⟩ := keyOK_agg hmr.2 hx
    rw [hu]; simp only [hm]; exact decide_eq_true (by rw [hl]; exact hmr.1)
  · cases h

end

section
variable {P : Program} {C : Ctx P} {Pt : List (Nat × Obj)} {s : St} {a : Act} {w : World} {A Lx : Area} {sp : Sp} {o : Oper} {d : Nat} {K : St → Prop} {rest : Act → World → Prop} {Q : Exit → Act → World → Prop}

theorem GS.map_at (h : GS C Pt s a w A Lx sp) {b : Nat} {es : List (List AV)} (he : s.env (oS + b) = mapAV es) :
    ∃ es' clock, w.heap[b]? = some (.map es' clock) ∧ es'.size = es.length ∧ (∀ i e, es'[i]? = some e → RV w A ((es.getD i []).getD 0 .any) e.key ∧ RV w A ((es.getD i []).getD 1 .any) e.val) ∧ clock = es'.size ∧ ∀ (i : Nat) (e : MapEntry), es'[i]? = some e → e.born = i := by
  have hob := h.ob b
  rw [he] at hob
  generalize hz : mapAV es = z at hob
  cases hob with
  | any => cases hz
  | iter t pos hh => injection hz with _ _ z3; cases z3
  | map es2 es' clock hh hs hc hr => injection hz with _ z2; subst z2; exact ⟨es', clock, hh, hs, fun i e he => ⟨(hr i e he).1, (hr i e he).2.1⟩, hc, fun i e he => (hr i e he).2.2⟩
  | miter => injection hz with _ _ z3; cases z3

theorem s_lookup {T kt et : TypeId} {x k : Operand} {mx mk : MArg} {n : Option Nat} {ok : Bool} {z : Value} {za : AV} (hop : o.op = .lookup T x k ok) (hd : o.dst = some d) (hN : d < C.N) (hCN : C.N ≤ gS) (ht : P.underlying T = some (.map kt et))
    (hkn : keyN P kt = some n) (hz : zeroOf P et = some z) (hza : ofVal z = some za) (hx : argOf x = some mx) (hk : argOf k = some mk)
    (h : GS C Pt s a w A Lx sp) (hv : vc1 P (.lookup d mx mk n ok za) s K) (hn : Goes C Pt s w A Lx sp a.defers K rest) : o.wpIn (Fw C.ro) 0 P a w rest Q := by
  have h1 : RV w A (mx.ev s.env) (a.eval x) := (argOf_sound h.rs hx).1
  have h2 : RV w A (mk.ev s.env).erase (a.eval k) := (argOf_sound h.rs hk).1.erase
  have hdg : d < gS := Nat.lt_of_lt_of_le hN hCN
  have main : ∀ (b : Nat) (es : List (List AV)) (es' : Array MapEntry) (clock : Nat), a.eval x = .map (some b) → w.heap[b]? = some (.map es' clock) → es'.size = es.length →
      (∀ i e, es'[i]? = some e → RV w A ((es.getD i []).getD 0 .any) e.key ∧ RV w A ((es.getD i []).getD 1 .any) e.val) → keyOK n (mk.ev s.env).erase →
      (match keyAt (mk.ev s.env).erase es 0 with
      | some (some i) => K (s.set d (if ok then .tuple [((es.getD i []).getD 1 .any), .lit (.bool true)] else ((es.getD i []).getD 1 .any).erase))
      | some none => K (s.set d (if ok then .tuple [za, .lit (.bool false)] else za.erase))
      | none => False) → o.wpIn (Fw C.ro) 0 P a w rest Q := by
    intro b es es' clock hv0 hheap hs hr hok hv
    have hkt := keyTy_of hkn hok
    have hck := checkKey_run (P := P) (w := w) es'.isEmpty hkt h2
    have hzr : (zeroValue et).run P w = .ok z w := by
      simp only [zeroOf, Option.bind_eq_some_iff] at hz
      obtain ⟨i, hi, hz⟩ := hz
      simp [zeroValue, typeInfo, Sem.run_bind, hi, hz]
    have hget : (getObj b).run P w = .ok (.map es' clock) w := by simp [getObj, Sem.run, hheap]
    have goal : ∀ (r : Option Nat) (x : AV) (v : Value) (q : Bool), keyAt (mk.ev s.env).erase es 0 = some r → (match r.bind fun j => (es'.toList[j]?).map fun e => (j, e.val) with | some (_, u) => (u, true) | none => (z, false)) = (v, q) → RV w A x v →
        K (s.set d (if ok then .tuple [x, .lit (.bool q)] else x.erase)) → o.wpIn (Fw C.ro) 0 P a w rest Q := by
      intro r x v q hka hrv hx hK
      have hfind := (findKey_run (P := P) (w := w) (A := A) hkt h2 (es := es) (es' := es'.toList) (r := r) (by simpa using hs) (fun j e he => (hr j e (by simpa using he)).1) hka).1
      have hrun : (execOp a.eval o).run P w = .ok (.value (if ok then .tuple #[v, .bool q] else v)) w := by
        simp only [execOp, hop, hv0, Instr.lookup, Sem.run_bind, run_underlying ht, Result.andThen_ok, hget, Sem.run_pure, hck, hfind]
        cases hrr : (r.bind fun j => (es'.toList[j]?).map fun e => (j, e.val)) with
        | none =>
          rw [hrr] at hrv
          injection hrv with q1 q2; subst q1 q2
          simp only [Sem.run_bind, hzr, Result.andThen_ok, Sem.run_pure]
          skip
        | some p =>
          rw [hrr] at hrv
          injection hrv with q1 q2; subst q1 q2
          cases ok <;> rfl
      refine wpIn_value (by rw [hop]; intro c e; cases e) hrun ?_
      rw [hd]
      refine hn _ _ _ _ _ _ hK (h.put hN hdg ?_ ?_) (by rw [held_set hdg]; exact .refl _ _ _) rfl
      · cases ok with
        | false => exact hx.erase
        | true =>
          refine .tuple _ _ rfl fun i => ?_
          match i with
          | 0 => exact hx
          | 1 => exact .lit _ rfl
          | i + 2 => simp; exact .any _
      · cases ok with
        | false => exact .erase
        | true => trivial
    split at hv
    · rename_i j hka
      obtain ⟨-, hlt⟩ := findKey_run (P := P) (w := w) (A := A) hkt h2 (es := es) (es' := es'.toList) (r := some j) (by simpa using hs) (fun j e he => (hr j e (by simpa using he)).1) hka
      have hj := hlt j rfl
      have hj' : j < es'.size := by omega
      refine goal (some j) _ (es'[j]).val true hka (by simp [hj']) (hr j _ (Array.getElem?_eq_getElem hj')).2 (by cases ok <;> exact hv)
    · rename_i hka
      refine goal none za z false hka rfl (ofVal_sound (sp := sp) hza).1 (by cases ok <;> exact hv)
    · exact hv.elim
  simp only [vc1] at hv
  split at hv
  · rename_i b e1
    rw [e1] at h1
    obtain ⟨es, he, hok, hv⟩ := hv
    obtain ⟨es', clock, hheap, hs, hr, hcl, hbo⟩ := h.map_at he
    generalize hv0 : a.eval x = v0 at h1
    cases h1
    exact main b es es' clock hv0 hheap hs hr hok hv
  · rename_i es e1
    rw [e1] at h1
    obtain ⟨hok, hv⟩ := hv
    generalize hv0 : a.eval x = v0 at h1
    cases h1 with
    | fmap _ b es' clock hheap ha hs hk2 hv2 => exact main b es es' clock hv0 hheap hs (fun i e he => ⟨hk2 i e he, hv2 i e he⟩) hok hv
  · exact hv.elim

theorem s_mapUpd {T kt et : TypeId} {x k y : Operand} {mx mk my : MArg} {n : Option Nat} (hop : o.op = .mapUpdate T x k y) (hd : o.dst = none) (ht : P.underlying T = some (.map kt et))
    (hkn : keyN P kt = some n) (hx : argOf x = some mx) (hk : argOf k = some mk) (hy : argOf y = some my)
    (h : GS C Pt s a w A Lx sp) (hv : vc1 P (.mapUpd mx mk my n) s K) (hn : Goes C Pt s w A Lx sp a.defers K rest) : o.wpIn (Fw C.ro) 0 P a w rest Q := by
  have h1 : RV w A (mx.ev s.env) (a.eval x) := (argOf_sound h.rs hx).1
  have h2 : RV w A (mk.ev s.env).erase (a.eval k) := (argOf_sound h.rs hk).1.erase
  have h3 : RV w A (my.ev s.env).erase (a.eval y) := (argOf_sound h.rs hy).1.erase
  simp only [vc1] at hv
  split at hv
  · rename_i b e1
    rw [e1] at h1
    obtain ⟨es, he, hok, hv⟩ := hv
    obtain ⟨es', clock, hheap, hs, hr, hcl, hbo⟩ := h.map_at he
    have hne : s.env (oS + b) ≠ .any := by rw [he]; intro e; cases e
    have hkt := keyTy_of hkn hok
    generalize hv0 : a.eval x = v0 at h1
    cases h1
    have hck := checkKey_run (P := P) (w := w) false hkt h2
    have hget : (getObj b).run P w = .ok (.map es' clock) w := by simp [getObj, Sem.run, hheap]
    have hset : ∀ ob, (setObj b ob).run P w = .ok () (w.putObj b ob) := fun ob => by simp [setObj, Sem.run, hheap, World.putObj]
    have hmono : ∀ ob {x : AV} {v : Value}, RV w A x v → RV (w.putObj b ob) A x v := fun ob x v hx => hx.mono (fun c o v ha hv => ⟨by rw [cell_putObj w ob (fun e => by subst e; exact h.oa _ o hne ha)]; exact hv, ha⟩) (.blocks (fun _ _ ha => ha) fun c ha _ => World.putObj_heap_other fun e => by subst e; exact h.oa _ 0 hne (ha 0))
    have goal : ∀ (es2 : List (List AV)) (ob : Obj), (execOp a.eval o).run P w = .ok .skip (w.putObj b ob) → ObjOK (w.putObj b ob) A b (mapAV es2) → K (s.set (oS + b) (mapAV es2)) → o.wpIn (Fw C.ro) 0 P a w rest Q := by
      intro es2 ob hrun hob hK
      refine wpIn_skip0 (by rw [hop]; intro c e; cases e) hrun ?_
      obtain ⟨g1, g2⟩ := h.obj (b := b) (x := mapAV es2) (w' := w.putObj b ob) rfl (.inl hne) (by simp) ⟨rfl, rfl, rfl⟩ (fun c hc hcb => World.putObj_heap_other hcb) hob
      rw [hd, put_none]
      exact hn _ _ _ _ _ _ hK g1 g2 rfl
    split at hv
    · rename_i j hka
      obtain ⟨hfind, hlt⟩ := findKey_run (P := P) (w := w) (A := A) hkt h2 (es := es) (es' := es'.toList) (r := some j) (by simpa using hs) (fun j e he => (hr j e (by simpa using he)).1) hka
      have hj := hlt j rfl
      have hj' : j < es'.size := by omega
      have hst := stays_run (P := P) h2 (hr j _ (Array.getElem?_eq_getElem hj')).1 (by have := (keyAt_eq hka).2; simpa using this)
      refine goal _ (.map (es'.modify j fun e => { e with key := a.eval k, val := a.eval y }) clock) ?_ ?_ hv
      · simp only [execOp, hop, hv0, Instr.mapUpdate, Sem.run_bind, run_underlying ht, Result.andThen_ok, hget, hck, hfind, Option.bind_some, Array.getElem?_toList, Array.getElem?_eq_getElem hj', Option.map_some, Option.getD_some, hst, hset, Sem.run_pure]
      · refine .map _ _ clock (World.putObj_heap_same (lt_of_heap hheap)) (by simpa using hs) (by simpa using hcl) fun i e hi => ?_
        rw [Array.getElem?_modify] at hi
        split at hi
        · rename_i e0; subst e0
          rw [Array.getElem?_eq_getElem hj'] at hi
          injection hi with hi; subst hi
          simp only [List.getD_eq_getElem?_getD, List.getElem?_set_self hj, Option.getD_some]
          exact ⟨hmono _ h2, hmono _ h3, hbo _ _ (Array.getElem?_eq_getElem hj')⟩
        · rename_i e0
          simp only [List.getD_eq_getElem?_getD, List.getElem?_set_ne e0]
          have := hr i e hi
          simp only [List.getD_eq_getElem?_getD] at this
          exact ⟨hmono _ this.1, hmono _ this.2, hbo i e hi⟩
    · rename_i hka
      obtain ⟨hfind, -⟩ := findKey_run (P := P) (w := w) (A := A) hkt h2 (es := es) (es' := es'.toList) (r := none) (by simpa using hs) (fun j e he => (hr j e (by simpa using he)).1) hka
      refine goal _ (.map (es'.push { key := a.eval k, val := a.eval y, born := clock }) (clock + 1)) ?_ ?_ hv
      · simp only [execOp, hop, hv0, Instr.mapUpdate, Sem.run_bind, run_underlying ht, Result.andThen_ok, hget, hck, hfind, Option.bind_none, hset, Sem.run_pure]
      · refine .map _ _ (clock + 1) (World.putObj_heap_same (lt_of_heap hheap)) (by simp [hs]) (by simp [hcl]) fun i e hi => ?_
        rw [Array.getElem?_push] at hi
        split at hi
        · rename_i e0
          injection hi with hi; subst hi
          have : i = es.length := by omega
          subst this
          simp only [List.getD_eq_getElem?_getD, List.getElem?_append_right (Nat.le_refl _), Nat.sub_self, List.getElem?_cons_zero, Option.getD_some]
          exact ⟨hmono _ h2, hmono _ h3, by show clock = es.length; omega⟩
        · have hlt := (Array.getElem?_eq_some_iff.1 hi).1
          have := hr i e hi
          simp only [List.getD_eq_getElem?_getD] at this ⊢
          rw [List.getElem?_append_left (by omega)]
          exact ⟨hmono _ this.1, hmono _ this.2, hbo i e hi⟩
    · exact hv.elim
  · exact hv.elim

theorem find_born {es' : Array MapEntry} (hbo : ∀ (i : Nat) (e : MapEntry), es'[i]? = some e → e.born = i) {i : Nat} (hi : i < es'.size) : es'.findIdx? (fun e => (e.born : Int) == (i : Int)) = some i := by
  rw [Array.findIdx?_eq_some_iff_getElem]
  refine ⟨hi, ?_, fun j hj => ?_⟩
  · rw [hbo i _ (Array.getElem?_eq_getElem hi)]; simp
  · rw [hbo j _ (Array.getElem?_eq_getElem (by omega))]; simp; omega

theorem s_mapEnt {T kt et : TypeId} {x k : Operand} {mx mk : MArg} {n : Option Nat} {z : Value} {za : AV} (hop : o.op = .mapEntry T x k) (hd : o.dst = some d) (hN : d < C.N) (hCN : C.N ≤ gS) (ht : P.underlying T = some (.map kt et))
    (hkn : keyN P kt = some n) (hz : zeroOf P et = some z) (hza : ofVal z = some za) (hx : argOf x = some mx) (hk : argOf k = some mk)
    (h : GS C Pt s a w A Lx sp) (hv : vc1 P (.mapEnt d mx mk n za) s K) (hn : Goes C Pt s w A Lx sp a.defers K rest) : o.wpIn (Fw C.ro) 0 P a w rest Q := by
  have h1 : RV w A (mx.ev s.env) (a.eval x) := (argOf_sound h.rs hx).1
  have h2 : RV w A (mk.ev s.env).erase (a.eval k) := (argOf_sound h.rs hk).1.erase
  have hdg : d < gS := Nat.lt_of_lt_of_le hN hCN
  simp only [vc1] at hv
  split at hv
  · rename_i b e1
    rw [e1] at h1
    obtain ⟨es, he, hok, -, hv⟩ := hv
    obtain ⟨es', clock, hheap, hs, hr, hcl, hbo⟩ := h.map_at he
    have hne : s.env (oS + b) ≠ .any := by rw [he]; intro e; cases e
    have hkt := keyTy_of hkn hok
    generalize hv0 : a.eval x = v0 at h1
    cases h1
    have hck := checkKey_run (P := P) (w := w) false hkt h2
    have hzr : (zeroValue et).run P w = .ok z w := by
      simp only [zeroOf, Option.bind_eq_some_iff] at hz
      obtain ⟨i, hi, hz⟩ := hz
      simp [zeroValue, typeInfo, Sem.run_bind, hi, hz]
    have hget : (getObj b).run P w = .ok (.map es' clock) w := by simp [getObj, Sem.run, hheap]
    have hset : ∀ ob, (setObj b ob).run P w = .ok () (w.putObj b ob) := fun ob => by simp [setObj, Sem.run, hheap, World.putObj]
    have hmono : ∀ ob {x : AV} {v : Value}, RV w A x v → RV (w.putObj b ob) A x v := fun ob x v hx => hx.mono (fun c o v ha hv => ⟨by rw [cell_putObj w ob (fun e => by subst e; exact h.oa _ o hne ha)]; exact hv, ha⟩) (.blocks (fun _ _ ha => ha) fun c ha _ => World.putObj_heap_other fun e => by subst e; exact h.oa _ 0 hne (ha 0))
    have goal : ∀ (es2 : List (List AV)) (ob : Obj) (u : AV) (v : Value) (i : Nat), (execOp a.eval o).run P w = .ok (.value (.tuple #[v, .int .i64 i])) (w.putObj b ob) → RV w A u v → ObjOK (w.putObj b ob) A b (mapAV es2) →
        K ((s.set (oS + b) (mapAV es2)).set d (.tuple [u, .lit (.int .i64 i)])) → o.wpIn (Fw C.ro) 0 P a w rest Q := by
      intro es2 ob u v i hrun hu hob hK
      obtain ⟨g1, g2⟩ := h.obj (b := b) (x := mapAV es2) (w' := w.putObj b ob) rfl (.inl hne) (by simp) ⟨rfl, rfl, rfl⟩ (fun c hc hcb => World.putObj_heap_other hcb) hob
      refine wpIn_value (by rw [hop]; intro c e; cases e) hrun ?_
      rw [hd]
      refine hn _ _ _ _ _ _ hK (g1.put hN hdg ?_ trivial) (by rw [held_set hdg]; exact g2) rfl
      refine .tuple _ _ rfl fun j => ?_
      match j with
      | 0 => exact hmono _ hu
      | 1 => exact .lit _ rfl
      | j + 2 => simp; exact .any _
    split at hv
    · rename_i j hka
      obtain ⟨hfind, hlt⟩ := findKey_run (P := P) (w := w) (A := A) hkt h2 (es := es) (es' := es'.toList) (r := some j) (by simpa using hs) (fun j e he => (hr j e (by simpa using he)).1) hka
      have hj := hlt j rfl
      have hj' : j < es'.size := by omega
      have hst := stays_run (P := P) h2 (hr j _ (Array.getElem?_eq_getElem hj')).1 (by have := (keyAt_eq hka).2; simpa using this)
      have hval := (hr j _ (Array.getElem?_eq_getElem hj')).2
      have hbj := hbo j _ (Array.getElem?_eq_getElem hj')
      refine goal _ (.map (es'.modify j fun e => { e with key := a.eval k }) clock) _ (es'[j]).val j ?_ hval ?_ hv
      · simp only [execOp, hop, hv0, Instr.mapEntry, Sem.run_bind, run_underlying ht, Result.andThen_ok, hget, hck, hfind, Option.bind_some, Array.getElem?_toList, Array.getElem?_eq_getElem hj', Option.map_some, Option.getD_some, hst, hset, Sem.run_pure, hbj]
        rfl
      · refine .map _ _ clock (World.putObj_heap_same (lt_of_heap hheap)) (by simpa using hs) (by simpa using hcl) fun i e hi => ?_
        rw [Array.getElem?_modify] at hi
        split at hi
        · rename_i e0; subst e0
          rw [Array.getElem?_eq_getElem hj'] at hi
          injection hi with hi; subst hi
          simp only [List.getD_eq_getElem?_getD, List.getElem?_set_self hj, Option.getD_some]
          simp only [List.getD_eq_getElem?_getD] at hval
          exact ⟨hmono _ h2, hmono _ hval, hbj⟩
        · rename_i e0
          simp only [List.getD_eq_getElem?_getD, List.getElem?_set_ne e0]
          have := hr i e hi
          simp only [List.getD_eq_getElem?_getD] at this
          exact ⟨hmono _ this.1, hmono _ this.2, hbo i e hi⟩
    · rename_i hka
      obtain ⟨hfind, -⟩ := findKey_run (P := P) (w := w) (A := A) hkt h2 (es := es) (es' := es'.toList) (r := none) (by simpa using hs) (fun j e he => (hr j e (by simpa using he)).1) hka
      have hzv := (ofVal_sound (w := w) (A := A) (sp := sp) hza).1
      refine goal _ (.map (es'.push { key := a.eval k, val := z, born := clock }) (clock + 1)) _ z es.length ?_ hzv ?_ hv
      · simp only [execOp, hop, hv0, Instr.mapEntry, Sem.run_bind, run_underlying ht, Result.andThen_ok, hget, hck, hfind, Option.bind_none, hzr, hset, Sem.run_pure]
        rw [show es.length = clock by omega]
        rfl
      · refine .map _ _ (clock + 1) (World.putObj_heap_same (lt_of_heap hheap)) (by simp [hs]) (by simp [hcl]) fun i e hi => ?_
        rw [Array.getElem?_push] at hi
        split at hi
        · rename_i e0
          injection hi with hi; subst hi
          have : i = es.length := by omega
          subst this
          simp only [List.getD_eq_getElem?_getD, List.getElem?_append_right (Nat.le_refl _), Nat.sub_self, List.getElem?_cons_zero, Option.getD_some]
          exact ⟨hmono _ h2, hmono _ hzv, by show clock = es.length; omega⟩
        · have hlt := (Array.getElem?_eq_some_iff.1 hi).1
          have := hr i e hi
          simp only [List.getD_eq_getElem?_getD] at this ⊢
          rw [List.getElem?_append_left (by omega)]
          exact ⟨hmono _ this.1, hmono _ this.2, hbo i e hi⟩
    · exact hv.elim
  · exact hv.elim

theorem s_entSt {T : TypeId} {x st y : Operand} {mx mst my : MArg} (hop : o.op = .entryStore T x st y) (hd : o.dst = none) (hx : argOf x = some mx) (hst : argOf st = some mst) (hy : argOf y = some my)
    (h : GS C Pt s a w A Lx sp) (hv : vc1 P (.entSt mx mst my) s K) (hn : Goes C Pt s w A Lx sp a.defers K rest) : o.wpIn (Fw C.ro) 0 P a w rest Q := by
  have h1 : RV w A (mx.ev s.env) (a.eval x) := (argOf_sound h.rs hx).1
  have h2 : RV w A (mst.ev s.env) (a.eval st) := (argOf_sound h.rs hst).1
  have h3 : RV w A (my.ev s.env).erase (a.eval y) := (argOf_sound h.rs hy).1.erase
  simp only [vc1] at hv
  split at hv
  · rename_i b kd j e1 e2
    rw [e1] at h1; rw [e2] at h2
    obtain ⟨es, he, hj0, hj1, hK⟩ := hv
    obtain ⟨j, rfl⟩ := Int.eq_ofNat_of_zero_le hj0
    obtain ⟨es', clock, hheap, hs, hr, hcl, hbo⟩ := h.map_at he
    have hne : s.env (oS + b) ≠ .any := by rw [he]; intro e; cases e
    have v2 := h2.inv_int
    generalize hv0 : a.eval x = v0 at h1
    cases h1
    have hget : (getObj b).run P w = .ok (.map es' clock) w := by simp [getObj, Sem.run, hheap]
    have hset : ∀ ob, (setObj b ob).run P w = .ok () (w.putObj b ob) := fun ob => by simp [setObj, Sem.run, hheap, World.putObj]
    have hmono : ∀ ob {x : AV} {v : Value}, RV w A x v → RV (w.putObj b ob) A x v := fun ob x v hx => hx.mono (fun c o v ha hv => ⟨by rw [cell_putObj w ob (fun e => by subst e; exact h.oa _ o hne ha)]; exact hv, ha⟩) (.blocks (fun _ _ ha => ha) fun c ha _ => World.putObj_heap_other fun e => by subst e; exact h.oa _ 0 hne (ha 0))
    have hjs : j < es'.size := by omega
    have hjl : j < es.length := by omega
    have hfb := find_born hbo hjs
    have hkey := (hr j _ (Array.getElem?_eq_getElem hjs)).1
    refine wpIn_skip0 (w' := w.putObj b (.map (es'.modify j fun e => { e with val := a.eval y }) clock)) (by rw [hop]; intro c e; cases e) ?_ ?_
    · simp only [execOp, hop, hv0, v2, Instr.entryStore, Sem.run_bind, Result.andThen_ok, hget, asInt, asIntOf, Sem.run_pure, hfb, hset]
    · have hob : ObjOK (w.putObj b (.map (es'.modify j fun e => { e with val := a.eval y }) clock)) A b (mapAV (es.set j [(es.getD j []).getD 0 .any, (my.ev s.env).erase])) := by
        refine .map _ _ clock (World.putObj_heap_same (lt_of_heap hheap)) (by simpa using hs) (by simpa using hcl) fun i e hi => ?_
        rw [Array.getElem?_modify] at hi
        split at hi
        · rename_i e0; subst e0
          rw [Array.getElem?_eq_getElem hjs] at hi
          injection hi with hi; subst hi
          simp only [List.getD_eq_getElem?_getD, List.getElem?_set_self hjl, Option.getD_some]
          simp only [List.getD_eq_getElem?_getD] at hkey
          exact ⟨hmono _ hkey, hmono _ h3, hbo _ _ (Array.getElem?_eq_getElem hjs)⟩
        · rename_i e0
          simp only [List.getD_eq_getElem?_getD, List.getElem?_set_ne e0]
          have := hr i e hi
          simp only [List.getD_eq_getElem?_getD] at this
          exact ⟨hmono _ this.1, hmono _ this.2, hbo i e hi⟩
      obtain ⟨g1, g2⟩ := h.obj (b := b) (x := mapAV (es.set j [(es.getD j []).getD 0 .any, (my.ev s.env).erase])) (w' := w.putObj b (.map (es'.modify j fun e => { e with val := a.eval y }) clock)) rfl (.inl hne) (by simp) ⟨rfl, rfl, rfl⟩ (fun c hc hcb => World.putObj_heap_other hcb) hob
      rw [hd, put_none]
      exact hn _ _ _ _ _ _ hK g1 g2 rfl
  · exact hv.elim

theorem mitAV_inj {b b' n n' : Nat} {l l' : List Nat} (h : mitAV b n l = mitAV b' n' l') : b = b' ∧ n = n' ∧ l = l' := by
  unfold mitAV at h
  injection h with h1 h2
  injection h2 with h2 h3
  injection h2 with h2 _
  injection h2 with h2
  injection h2 with _ h2
  injection h3 with h3 _
  refine ⟨h1, by omega, ?_⟩
  have := congrArg (List.map fun x : AV => match x with | .lit (.int _ n) => n.toNat | _ => 0) h3
  simpa [List.map_map, Function.comp_def] using this

theorem GS.mit_at (h : GS C Pt s a w A Lx sp) {r b n : Nat} {seen : List Nat} (he : s.env (oS + r) = mitAV b n seen) : w.heap[r]? = some (.mapIter (some b) n seen.toArray n) := by
  have hob := h.ob r
  rw [he] at hob
  generalize hz : mitAV b n seen = z at hob
  cases hob with
  | any => cases hz
  | iter t pos hh => unfold mitAV itAV at hz; injection hz with _ z2; injection z2 with z3; injection z3 with z4; injection z4 with z5; cases z5
  | map => unfold mitAV mapAV at hz; injection hz with _ _ z3; cases z3
  | miter b' n' seen' hh => obtain ⟨rfl, rfl, rfl⟩ := mitAV_inj hz; exact hh

theorem s_rngM {T kt et : TypeId} {x : Operand} {mx : MArg} (hop : o.op = .range T x) (hd : o.dst = some d) (hN : d < C.N) (hCN : C.N ≤ gS) (ht : P.underlying T = some (.map kt et)) (hx : argOf x = some mx)
    (h : GS C Pt s a w A Lx sp) (hv : vc1 P (.rngM d mx) s K) (hn : Goes C Pt s w A Lx sp a.defers K rest) : o.wpIn (Fw C.ro) 0 P a w rest Q := by
  have h1 : RV w A (mx.ev s.env) (a.eval x) := (argOf_sound h.rs hx).1
  simp only [vc1] at hv
  split at hv
  · rename_i b e1
    rw [e1] at h1
    obtain ⟨es, he, hv⟩ := hv
    obtain ⟨es', clock, hheap, hs, hr, hcl, hbo⟩ := h.map_at he
    have hfresh : s.env (oS + w.heap.size) = .any := Classical.byContradiction fun hne => by
      obtain ⟨ob, g1, _⟩ := (h.ob w.heap.size).block hne
      exact absurd (lt_of_heap g1) (Nat.lt_irrefl _)
    have hK := hv w.heap.size h.rs.fresh hfresh
    generalize hv0 : a.eval x = v0 at h1
    cases h1
    have hrun : (execOp a.eval o).run P w = .ok (.value (.pointer (some ⟨w.heap.size, 0, none⟩))) (w.alloc (.mapIter (some b) clock #[] clock)) := by
      have := run_range_map (P := P) w T kt et b es' clock ht hheap
      simp [execOp, hop, hv0, this]
    refine wpIn_value (by rw [hop]; intro c e; cases e) hrun ?_
    have hc2 : clock = es.length := by omega
    obtain ⟨g1, g2⟩ := h.obj (b := w.heap.size) (x := mitAV b es.length []) (w' := w.alloc (.mapIter (some b) clock #[] clock)) rfl (.inr rfl) (by rw [alloc_size]; omega) ⟨rfl, rfl, rfl⟩ (fun c hc _ => heap_alloc _ _ _ hc) (.miter b es.length [] (by rw [heap_alloc_at, hc2]))
    rw [hd]
    have hdg : d < gS := Nat.lt_of_lt_of_le hN hCN
    exact hn _ _ _ _ _ _ hK (g1.put hN hdg (.mref _ _) trivial) (by rw [held_set hdg]; exact g2) rfl
  · exact hv.elim

theorem next_map_run {w : World} {r b n : Nat} {seen : List Nat} {es : Array MapEntry} (hr : w.heap[r]? = some (.mapIter (some b) n seen.toArray n)) (hb : w.heap[b]? = some (.map es n)) (hn : n = es.size) (hbo : ∀ (i : Nat) (e : MapEntry), es[i]? = some e → e.born = i) (ty : TypeId) :
    ((∀ i, i < n → i ∈ seen) ∧ (Instr.next (.pointer (some ⟨r, 0, none⟩)) false ty).run P w = .ok (.tuple #[.bool false]) w) ∨
    ∃ i e w1, i < n ∧ i ∉ seen ∧ es[i]? = some e ∧ (w1 = w ∨ w1 = w.drew) ∧ (Instr.next (.pointer (some ⟨r, 0, none⟩)) false ty).run P w = .ok (.tuple #[.bool true, e.key, e.val]) (w1.putObj r (.mapIter (some b) n (seen ++ [i]).toArray n)) := by
  have hold : ∀ x ∈ es.toList, x.born < n := fun x hx => by
    obtain ⟨i, hi, rfl⟩ := List.getElem_of_mem hx
    have hi' : i < es.size := by simpa using hi
    have := hbo i es[i] (Array.getElem?_eq_getElem hi')
    simp only [Array.getElem_toList]
    omega
  have hall := next_test_false seen.toArray es n n hold (Nat.le_refl _)
  obtain ⟨L, hL⟩ : ∃ L, L = Array.filter (fun e => !seen.toArray.contains e.born) es := ⟨_, rfl⟩
  have hmem : ∀ x ∈ L.toList, x.born < n := fun x hx => hold x (by rw [hL] at hx; simp at hx ⊢; exact hx.1)
  have e1 : L.filter (fun x => decide (x.born < n)) = L := Array.filter_eq_self.2 (fun x hx => by simpa using hmem x (by simpa using hx))
  have e2 : L.filter (fun x => decide (x.born ≥ n)) = #[] := by
    rw [Array.filter_eq_empty_iff]
    intro x hx
    have := hmem x (by simpa using hx)
    simp
    omega
  by_cases h0 : L.size = 0
  · left
    have hLe : L = #[] := Array.eq_empty_of_size_eq_zero h0
    refine ⟨fun i hi => ?_, ?_⟩
    · have hi' : i < es.size := by omega
      have h3 := hL.symm.trans hLe
      rw [Array.filter_eq_empty_iff] at h3
      have h4 := h3 es[i] (Array.getElem_mem hi')
      have h5 := hbo i es[i] (Array.getElem?_eq_getElem hi')
      rw [h5] at h4
      simpa using h4
    · simp only [Instr.next, getObj, Sem.run_bind, Sem.run, hr, hb, Result.andThen, hall, Bool.false_eq_true, if_false, ← hL, hLe]
      simp [choose, Sem.run, Question.forced]
  · right
    have hne : L.isEmpty = false := by simp [Array.isEmpty, h0]
    have hch : ∃ (j : Nat) (w1 : World), j < L.size ∧ (w1 = w ∨ w1 = w.drew) ∧ (choose (Question.mapNext L.size)).run P w = .ok j w1 := by
      by_cases hf : L.size ≤ 1
      · exact ⟨0, w, by omega, .inl rfl, by simp [choose, Sem.run, Question.forced, hf]⟩
      · exact ⟨_, w.drew, Nat.mod_lt _ (by omega), .inr rfl, by
          simp only [choose, Sem.run, Question.forced, decide_eq_true_eq, hf, if_false, Question.cut]
          rfl⟩
    obtain ⟨j, w1, hj, hw1, hrun⟩ := hch
    have hmL : L[j] ∈ L := Array.getElem_mem hj
    have hme : L[j] ∈ es ∧ (!seen.toArray.contains L[j].born) = true := by
      have : L[j] ∈ Array.filter (fun e => !seen.toArray.contains e.born) es := hL ▸ hmL
      simpa using this
    obtain ⟨i, hi, hie⟩ := Array.getElem_of_mem hme.1
    have hbi := hbo i es[i] (Array.getElem?_eq_getElem hi)
    rw [hie] at hbi
    have hns : i ∉ seen := by
      have := hme.2
      rw [hbi] at this
      simpa using this
    refine ⟨i, L[j], w1, by omega, hns, by rw [Array.getElem?_eq_getElem hi, hie], hw1, ?_⟩
    have hr1 : w1.heap[r]? = some (.mapIter (some b) n seen.toArray n) := by rcases hw1 with rfl | rfl <;> exact hr
    have hset : ∀ o', (setObj r o').run P w1 = .ok () (w1.putObj r o') := fun o' => by simp [setObj, Sem.run, hr1, World.putObj]
    simp only [Instr.next, getObj, Sem.run_bind, Sem.run, hr, hb, Result.andThen, hall, Bool.false_eq_true, if_false, ← hL, e1, e2, Array.append_empty, hne, Array.empty_append, Array.size_map, hrun, Array.getElem?_map, Array.getElem?_eq_getElem hj, Option.map_some, hset, hbi]
    simp

theorem s_nxtM {x : Operand} {mx : MArg} (hop : o.op = .next x false) (hd : o.dst = some d) (hN : d < C.N) (hCN : C.N ≤ gS) (hx : argOf x = some mx)
    (h : GS C Pt s a w A Lx sp) (hv : vc1 P (.nxtM d mx) s K) (hn : Goes C Pt s w A Lx sp a.defers K rest) : o.wpIn (Fw C.ro) 0 P a w rest Q := by
  have h1 : RV w A (mx.ev s.env) (a.eval x) := (argOf_sound h.rs hx).1
  have hdg : d < gS := Nat.lt_of_lt_of_le hN hCN
  simp only [vc1] at hv
  split at hv
  · rename_i r e1
    rw [e1] at h1
    obtain ⟨b, seen, es, e2, e3, hv1, hv2⟩ := hv
    have hne : s.env (oS + r) ≠ .any := by rw [e2]; intro e; cases e
    generalize hv0 : a.eval x = v0 at h1
    cases h1
    have hr := h.mit_at e2
    obtain ⟨es', clock, hb, hs, hrv, hcl, hbo⟩ := h.map_at e3
    rw [← hs] at hr
    rw [hcl] at hb
    rcases next_map_run (P := P) hr hb rfl hbo o.type with ⟨hall, hrun⟩ | ⟨i, e, w1, hi, hns, hie, hw1, hrun⟩
    · have hrun' : (execOp a.eval o).run P w = .ok (.value (.tuple #[.bool false])) w := by simp [execOp, hop, hv0, hrun]
      refine wpIn_value (by rw [hop]; intro c e; cases e) hrun' ?_
      rw [hd]
      refine hn _ _ _ _ _ _ (hv2 (by rw [← hs]; exact hall)) (h.put hN hdg (.tuple _ _ rfl fun i => ?_) trivial) (by rw [held_set hdg]; exact .refl _ _ _) rfl
      match i with
      | 0 => exact .lit _ rfl
      | i + 1 => simp; exact .any _
    · have hrun' : (execOp a.eval o).run P w = .ok (.value (.tuple #[.bool true, e.key, e.val])) (w1.putObj r (.mapIter (some b) es'.size (seen ++ [i]).toArray es'.size)) := by simp [execOp, hop, hv0, hrun]
      refine wpIn_value (by rw [hop]; intro c e; cases e) hrun' ?_
      have hh : w1.heap = w.heap := by rcases hw1 with rfl | rfl <;> rfl
      have hos : w1.os = w.os ∧ w1.tape = w.tape ∧ w1.output = w.output := by rcases hw1 with rfl | rfl <;> exact ⟨rfl, rfl, rfl⟩
      have hlt : r < w1.heap.size := by rw [hh]; exact lt_of_heap hr
      obtain ⟨g1, g2⟩ := h.obj (b := r) (x := mitAV b es.length (seen ++ [i])) (w' := w1.putObj r (.mapIter (some b) es'.size (seen ++ [i]).toArray es'.size)) rfl (.inl hne) (by simp [hh]) hos
        (fun c hc hcb => by rw [World.putObj_heap_other hcb, hh]) (.miter b es.length (seen ++ [i]) (by rw [World.putObj_heap_same hlt, hs]))
      rw [hd]
      have hkv := hrv i e hie
      have hmono : ∀ {x : AV} {v : Value}, RV w A x v → RV (w1.putObj r (.mapIter (some b) es'.size (seen ++ [i]).toArray es'.size)) A x v := fun hx => hx.mono (fun c o v ha hc => ⟨by
        have hcr : c ≠ r := fun e => by subst e; exact h.oa _ o hne ha
        rw [cell_putObj w1 _ hcr]
        simp only [World.cell?, hh] at hc ⊢
        exact hc, ha⟩) (.blocks (fun _ _ ha => ha) fun c ha _ => by rw [World.putObj_heap_other fun e => by subst e; exact h.oa _ 0 hne (ha 0), hh])
      refine hn _ _ _ _ _ _ (hv1 i (by omega) hns) (g1.put hN hdg (.tuple _ _ rfl fun i => ?_) trivial) (by rw [held_set hdg]; exact g2) rfl
      match i with
      | 0 => exact .lit _ rfl
      | 1 => exact (hmono hkv.1).erase
      | 2 => exact (hmono hkv.2).erase
      | i + 3 => simp; exact .any _
  · exact hv.elim

theorem find_born2 {es' : Array MapEntry} (hbo : ∀ (i : Nat) (e : MapEntry), es'[i]? = some e → e.born = i) {i : Nat} (hi : i < es'.size) : es'.find? (fun e => e.born == i) = some es'[i] := by
  rw [Array.find?_eq_some_iff_getElem]
  refine ⟨by rw [hbo i _ (Array.getElem?_eq_getElem hi)]; simp, i, hi, rfl, fun j hj => ?_⟩
  rw [hbo j _ (Array.getElem?_eq_getElem (by omega))]; simp; omega

theorem s_entM {x : Operand} {mx : MArg} (hop : o.op = .entry x) (hd : o.dst = some d) (hN : d < C.N) (hCN : C.N ≤ gS) (hx : argOf x = some mx)
    (h : GS C Pt s a w A Lx sp) (hv : vc1 P (.entM d mx) s K) (hn : Goes C Pt s w A Lx sp a.defers K rest) : o.wpIn (Fw C.ro) 0 P a w rest Q := by
  have h1 : RV w A (mx.ev s.env) (a.eval x) := (argOf_sound h.rs hx).1
  have hdg : d < gS := Nat.lt_of_lt_of_le hN hCN
  simp only [vc1] at hv
  split at hv
  · rename_i r e1
    rw [e1] at h1
    obtain ⟨b, seen, i, es, e2, e3, hi, hK⟩ := hv
    generalize hv0 : a.eval x = v0 at h1
    cases h1
    have hr := h.mit_at e2
    obtain ⟨es', clock, hb, hs, hrv, hcl, hbo⟩ := h.map_at e3
    have hi' : i < es'.size := by omega
    have hcl2 : clock = es.length := by omega
    subst hcl2
    have hrun : (execOp a.eval o).run P w = .ok (.value (.tuple #[(es'[i]).key, (es'[i]).val])) w := by
      have hbk : (seen ++ [i]).toArray.back? = some i := by simp
      have hg1 : (getObj r).run P w = .ok (.mapIter (some b) es.length (seen ++ [i]).toArray es.length) w := by simp [getObj, Sem.run, hr]
      have hg2 : (getObj b).run P w = .ok (.map es' es.length) w := by simp [getObj, Sem.run, hb]
      simp only [execOp, hop, hv0, Instr.entry, Sem.run_bind, hg1, hg2, hbk, Result.andThen_ok, bne_self_eq_false, Bool.false_eq_true, if_false, find_born2 hbo hi', Sem.run_pure]
    refine wpIn_value (by rw [hop]; intro c e; cases e) hrun ?_
    rw [hd]
    have hkv := hrv i _ (Array.getElem?_eq_getElem hi')
    refine hn _ _ _ _ _ _ hK (h.put hN hdg (.tuple _ _ rfl fun j => ?_) trivial) (by rw [held_set hdg]; exact .refl _ _ _) rfl
    match j with
    | 0 => exact hkv.1.erase
    | 1 => exact hkv.2.erase
    | j + 2 => simp; exact .any _
  · exact hv.elim
end
end Go.Avm

namespace Go.Avm
open Go.RowKit

section
variable {P : Program} {C : Ctx P} {Pt : List (Nat × Obj)} {s : St} {a : Act} {w : World} {A Lx : Area} {sp : Sp}

theorem yld_step {o : Oper} {d : Nat} {t : Tmp} {xs : Array Operand} {ts : Array TypeId} {ms : List MArg} {K : St → Prop} {rest : Act → World → Prop} {Q : Exit → Act → World → Prop}
    (h : GS C Pt s a w A Lx sp) (hCN : C.N ≤ gS) (hop : o.op = .call { callee := .value (.tmp t), args := xs, argTypes := ts }) (hd : o.dst = some d) (hN : d < C.N)
    (hx : argsOfT P xs.toList ts.toList = some ms) (hv : vc1 P (.yld d (.t t) ms) s K) (hn : Goes C Pt s w A Lx sp a.defers K rest) : o.wpIn (Fw C.ro) 0 P a w rest Q := by
  obtain ⟨a1, a2⟩ := argsT_sound h.rs hx
  have h1 := (h.rs.env t).1
  simp only [vc1] at hv
  split at hv
  · rename_i l l' y rs e1 e2
    obtain ⟨rfl, hy, hk1, hk2⟩ := hv
    replace e1 : s.env t = .func (.yield l) [] [] := e1
    rw [e1] at h1
    have hx0 := h.x
    rw [e2] at hx0
    have hev : (⟨a.tmps, []⟩ : Act).eval = a.eval := rfl
    rw [hev] at a2
    obtain ⟨fn, tmps, assign, body, hrun, hround⟩ := C.yl l y rs w A Lx (xs.map a.eval) hx0 h.lt (fun b o ha => ⟨(h.rs.av b o ha).1, h.av b o ha⟩) (by rw [← hy]; simp [a1]) (fun i => by
      rw [← hy]
      have := a2 i
      simpa [List.getD_eq_getElem?_getD, Array.getD_eq_getD_getElem?] using this)
    replace h1 : RV w A (.func (.yield l) [] []) (a.tmps.getD t undef) := h1
    generalize hv0 : a.tmps.getD t undef = v0 at h1
    cases h1 with
    | func _ _ _ vf vc hsf hsc hf hc =>
      have hf0 : vf = #[] := Array.eq_empty_of_size_eq_zero (by simpa using hsf)
      subst hf0
      have hrun2 : (Oper.semAt C.ro a.eval o).run P w = .ok (.round l fn tmps assign body) w := by
        rw [Oper.semAt_eq _ _ _ (by rw [hop]; intro c e; cases e)]
        rw [← hrun]
        simp [execOp, hop, resolve, Act.eval, hv0, Deferred.ofValue, invoke]
      refine ⟨fun _ _ => trivial, ?_⟩
      rw [hrun2, Oper.uponIn_round]
      refine ⟨fun e => (by cases e), ?_⟩
      refine RoundIn.mono (F := Fw none) (n := 0) hround ?_
      rintro e w' ⟨b, A', Lx', rfl, hev', hlt', hav', hX'⟩
      obtain ⟨g1, g2⟩ := h.other (gh := .ghost l rs (!b)) rfl hev' hlt' hav' hX'
      rw [hd]
      have hdg : d < gS := Nat.lt_of_lt_of_le hN hCN
      have hoo : held ((s.set gS (.ghost l rs (!b))).set d (.lit (.bool b))) sp = held (s.set gS (.ghost l rs (!b))) sp := held_set hdg _ _
      refine hn _ _ _ _ _ _ ?_ (g1.put hN hdg (.lit (.bool b) rfl) trivial) (by rw [hoo]; exact g2) rfl
      cases b
      · exact hk2
      · exact hk1
  · exact hv.elim

theorem yldL_step {o : Oper} {d pos : Nat} {t : Tmp} {x : Operand} {ty : TypeId} {m : MArg} {K : St → Prop} {rest : Act → World → Prop} {Q : Exit → Act → World → Prop}
    (h : GS C Pt s a w A Lx sp) (hCN : C.N ≤ gS) (hop : o.op = .call { callee := .value (.tmp t), args := #[x], argTypes := #[ty] }) (hd : o.dst = some d) (hN : d < C.N)
    (hx : argOfT P ty x = some m) (hv : vc1 P (.yldL d (.t t) pos m) s K) (hn : Goes C Pt s w A Lx sp a.defers K rest) : o.wpIn (Fw C.ro) 0 P a w rest Q := by
  have a2 := (argOfT_sound h.rs hx).1.erase
  have h1 := (h.rs.env t).1
  simp only [vc1] at hv
  split at hv
  · rename_i l l' z rs e1 e2
    obtain ⟨rfl, z0, b, sz, len, cap, cs, rfl, hy, hb, hok, hk1, hk2⟩ := hv
    replace e1 : s.env t = .func (.yield l) [] [] := e1
    rw [e1] at h1
    have hx0 := h.x
    rw [e2] at hx0
    have hev : (⟨a.tmps, []⟩ : Act).eval = a.eval := rfl
    rw [hev, hy] at a2
    have hlive : ∀ o, live s.loc sp b o := fun o => .inl (by rw [hb]; exact fun e => by cases e)
    obtain ⟨vs, T, g1, g2, g3⟩ := h.rs.loc b cs hb
    obtain ⟨fn, tmps, assign, body, hrun, hround⟩ := C.yl2 l z0 pos rs w A Lx (a.eval x) b sz len cap cs hx0 hok h.lt (fun b o ha => ⟨(h.rs.av b o ha).1, h.av b o ha⟩) a2 ⟨vs, T, g1, g2, fun i => (g3 i).1⟩
      (fun o ha => (h.rs.av b o ha).2 (hlive o)) (fun o hl => h.ap b o o (.inl (hlive o)) hl)
    replace h1 : RV w A (.func (.yield l) [] []) (a.tmps.getD t undef) := h1
    generalize hv0 : a.tmps.getD t undef = v0 at h1
    cases h1 with
    | func _ _ _ vf vc hsf hsc hf hc =>
      have hf0 : vf = #[] := Array.eq_empty_of_size_eq_zero (by simpa using hsf)
      subst hf0
      have hrun2 : (Oper.semAt C.ro a.eval o).run P w = .ok (.round l fn tmps assign body) w := by
        rw [Oper.semAt_eq _ _ _ (by rw [hop]; intro c e; cases e)]
        rw [← hrun]
        simp [execOp, hop, resolve, Act.eval, hv0, Deferred.ofValue, invoke]
      refine ⟨fun _ _ => trivial, ?_⟩
      rw [hrun2, Oper.uponIn_round]
      refine ⟨fun e => (by cases e), ?_⟩
      refine RoundIn.mono (F := Fw none) (n := 0) hround ?_
      rintro e w' ⟨bo, A', Lx', rfl, hev', hlt', hav', hA', hL', hl', hX'⟩
      obtain ⟨q1, q2⟩ := h.other2 hb hok.2.2.2.2.2 (gh := .ghost l rs (!bo)) rfl hev' hlt' hav' hA' hL' hl' hX'
      rw [hd]
      have hdg : d < gS := Nat.lt_of_lt_of_le hN hCN
      have hoo : held ((s.set gS (.ghost l rs (!bo))).set d (.lit (.bool bo))) sp = held (s.set gS (.ghost l rs (!bo))) sp := held_set hdg _ _
      refine hn _ _ _ _ _ _ ?_ (q1.put hN hdg (.lit (.bool bo) rfl) trivial) (by rw [hoo]; exact q2) rfl
      cases bo
      · exact hk2
      · exact hk1
  · exact hv.elim

theorem guard_step {ops : Array Oper} {o : Oper} {g j : Nat} {want : Bool} {m : MOp} {K : St → Prop} {rest : Act → World → Prop} {Q : Exit → Act → World → Prop} (h : GS C Pt s a w A Lx sp)
    (hg : o.guard = some (j, want)) (hj : (ops[j]?).bind (·.dst) = some g) (hgN : g < C.N) (hdN : ∀ d, o.dst = some d → d < C.N ∧ d < gS) (hv : vc1 P (.guard g want o.dst m) s K)
    (hs : vc1 P m s K → o.wpIn (Fw C.ro) 0 P a w rest Q) (hn : Goes C Pt s w A Lx sp a.defers K rest) : StepIn C.ro P ops o a w rest Q := by
  have skip : (K (match o.dst with | some d => s.set d (.tuple []) | none => s)) → rest (a.put o.dst undef) w := by
    intro hk
    cases hd : o.dst with
    | none =>
      rw [hd] at hk
      rw [put_none]
      exact hn _ _ _ _ _ _ hk h (.refl _ _ _) rfl
    | some d =>
      rw [hd] at hk
      exact hn _ _ _ _ _ _ hk (h.put (hdN d hd).1 (hdN d hd).2 undef_rv trivial) (by rw [held_set (hdN d hd).2]; exact .refl _ _ _) rfl
  simp only [vc1] at hv
  split at hv
  · rename_i b hb
    have he := (h.rs.env g).1
    rw [hb] at he
    have heb := he.inv_bool
    have hyl : yielded ops a.tmps j = some b := by
      unfold yielded
      rw [hj]
      have : a.tmps[g]? = some (.bool b) := by
        have hlt : g < a.tmps.size := by have := h.rs.size; simp only at this; omega
        rw [Array.getD_eq_getD_getElem?, Array.getElem?_eq_getElem hlt] at heb
        rw [Array.getElem?_eq_getElem hlt]
        simpa using heb
      simp [this]
    have hw : Region.wanted o (yielded ops a.tmps) = (b == want) := by
      simp [Region.wanted, hg, hyl]
    unfold StepIn
    by_cases hbw : b = want
    · rw [hw, if_pos (by simpa using hbw)]
      exact hs (hv.1 hbw)
    · rw [hw, if_neg (by simpa using hbw)]
      exact ⟨fun _ _ => trivial, skip (hv.2 (by cases b <;> cases want <;> simp_all))⟩
  · rename_i hb
    have he := (h.rs.env g).1
    rw [hb] at he
    have heb : a.tmps.getD g undef = .tuple #[] := by
      replace he : RV w A (.tuple []) (a.tmps.getD g undef) := he
      generalize a.tmps.getD g undef = v at he
      cases he with
      | tuple _ vs hs hr =>
        have hv0 : vs = #[] := Array.eq_empty_of_size_eq_zero (by simpa using hs)
        rw [hv0]
    have hyl : yielded ops a.tmps j = none := by
      unfold yielded
      rw [hj]
      have : a.tmps[g]? = some (.tuple #[]) := by
        have hlt : g < a.tmps.size := by have := h.rs.size; simp only at this; omega
        rw [Array.getD_eq_getD_getElem?, Array.getElem?_eq_getElem hlt] at heb
        rw [Array.getElem?_eq_getElem hlt]
        simpa using heb
      simp [this]
    have hw : Region.wanted o (yielded ops a.tmps) = false := by
      simp [Region.wanted, hg, hyl]
    unfold StepIn
    rw [if_neg (by rw [hw]; simp)]
    exact ⟨fun _ _ => trivial, skip hv⟩
  · exact hv.elim

end

def trY (P : Program) (N : Nat) (o : Oper) : Option MOp :=
  match o.dst, o.op with
  | some d, .call c => match c.callee with
    | .value (.tmp t) => if d < N then (argsOfT P c.args.toList c.argTypes.toList).map (.yld d (.t t) ·) else none
    | _ => none
  | _, _ => none

def trYL (P : Program) (pos N : Nat) (o : Oper) : Option MOp :=
  match o.dst, o.op with
  | some d, .call c => match c.callee, c.args.toList, c.argTypes.toList with
    | .value (.tmp t), [x], [ty] => if d < N then (argOfT P ty x).map (.yldL d (.t t) pos ·) else none
    | _, _, _ => none
  | _, _ => none

def trI (P : Program) (N : Nat) (o : Oper) : Option MOp :=
  match o.dst, o.op with
  | some d, .call c => match c.callee with
    | .value (.func f) => if d < N then (argsOfT P c.args.toList c.argTypes.toList).map (.icall d f ·) else none
    | .value (.tmp t) => if d < N then (argsOfT P c.args.toList c.argTypes.toList).map (.icallv d (.t t) ·) else none
    | _ => none
  | _, _ => none

def trO (P : Program) (N : Nat) (o : Oper) : Option MOp :=
  match o.dst, o.op with
  | some d, .range T x => if d < N then match P.underlying T, argOf x with
    | some .string, some x => some (.rngS d x)
    | some (.map _ _), some x => some (.rngM d x)
    | _, _ => none else none
  | some d, .next x true => if d < N then (argOf x).map (.nxtS d ·) else none
  | some d, .next x false => if d < N then (argOf x).map (.nxtM d ·) else none
  | some d, .entry x => if d < N then (argOf x).map (.entM d ·) else none
  | some d, .makeMap _ none => if d < N then some (.mkMap d) else none
  | none, .mapUpdate T x k y => match P.underlying T with
    | some (.map kt _) => match keyN P kt, argOf x, argOf k, argOf y with
      | some n, some x, some k, some y => some (.mapUpd x k y n)
      | _, _, _, _ => none
    | _ => none
  | some d, .mapEntry T x k => if d < N then match P.underlying T with
    | some (.map kt et) => match keyN P kt, (zeroOf P et).bind ofVal, argOf x, argOf k with
      | some n, some z, some x, some k => some (.mapEnt d x k n z)
      | _, _, _, _ => none
    | _ => none else none
  | none, .entryStore _ x st y => match argOf x, argOf st, argOf y with
    | some x, some st, some y => some (.entSt x st y)
    | _, _, _ => none
  | some d, .lookup T x k ok => if d < N then match P.underlying T with
    | some (.map kt et) => match keyN P kt, (zeroOf P et).bind ofVal, argOf x, argOf k with
      | some n, some z, some x, some k => some (.lookup d x k n ok z)
      | _, _, _, _ => none
    | _ => none else none
  | _, _ => none

def trYO (P : Program) (yl : Nat) (N : Nat) (o : Oper) : Option MOp := if yl = 1 then trY P N o else if yl = 2 then trI P N o else if 3 ≤ yl then trYL P (yl - 3) N o else trO P N o

def kindX (ann : Ann) (o : Oper) : Nat := match o.dst with
  | some d => if ann.yl.contains d then 1 else if ann.ic.contains d then 2 else look ann.ylL d 0
  | none => 0

def ndB (o : Oper) : Bool := match o.op with
  | .defer _ => false
  | _ => true

theorem callFunc_enter {P : Program} {f : FuncId} (h : isFunc P f = true) (vs : Array Value) (w : World) : (callFunc f vs).run P w = .ok (.enter f vs) w := by
  unfold isFunc at h
  split at h
  · rename_i fn hfn
    simp only [Bool.and_eq_true, bne_iff_ne, ne_eq] at h
    unfold callFunc
    simp only [Sem.run_bind, run_program, Result.andThen_ok, hfn]
    have hb : fn.body.isNone = false := by cases hfb : fn.body with
      | none => rw [hfb] at h; simp at h
      | some c => rfl
    have hnm : (fn.name == "runtime.NumGoroutine") = false := by simpa using h.1
    rw [hnm, hb]
    rfl
  · cases h

def trX (f : Array Oper → Oper → Option MOp) (P : Program) (ann : Ann) (N : Nat) (ops : Array Oper) (o : Oper) : Option MOp :=
  match f ops o with
  | some m => if kindX ann o == 0 && noG m && ndB o then some m else trX2
  | none => trX2
where trX2 : Option MOp := match o.guard with
  | none => trYO P (kindX ann o) N o
  | some (j, want) => match (ops[j]?).bind (·.dst), trYO P (kindX ann o) N o with
    | some g, some m => if g < N then some (.guard g want o.dst m) else none
    | _, _ => none

section
variable {P : Program} {C : Ctx P} {Pt : List (Nat × Obj)} {s : St} {a : Act} {w : World} {A Lx : Area} {sp : Sp} {K : St → Prop} {rest : Act → World → Prop} {Q : Exit → Act → World → Prop} {o : Oper}

theorem trY_spec {N : Nat} {m : MOp} (h : trY P N o = some m) : ∃ d t xs ts ms, o.dst = some d ∧ d < N ∧ o.op = .call { callee := .value (.tmp t), args := xs, argTypes := ts } ∧ argsOfT P xs.toList ts.toList = some ms ∧ m = .yld d (.t t) ms := by
  unfold trY at h
  split at h
  · rename_i d c hd hop
    split at h
    · rename_i t hc
      split at h
      · rename_i hN
        simp only [Option.map_eq_some_iff] at h
        obtain ⟨ms, hms, rfl⟩ := h
        refine ⟨d, t, c.args, c.argTypes, ms, hd, hN, ?_, hms, rfl⟩
        rw [hop, ← hc]
      · cases h
    · cases h
  · cases h

theorem icall_go {f : FuncId} {vs : Array Value} {xs : List AV} {d : Nat} (hp : ICall P f xs s fun r s' => K (s'.set d r)) (hCN : C.N ≤ gS) (h : GS C Pt s a w A Lx sp) (hd : o.dst = some d) (hN : d < C.N) (hs : vs.size = xs.length) (hr : ∀ i, RV w A (xs.getD i .any) (vs.getD i undef))
    (hrun : (Oper.semAt C.ro a.eval o).run P w = (callFunc f vs).run P w) (hn : Goes C Pt s w A Lx sp a.defers K rest) : o.wpIn (Fw C.ro) 0 P a w rest Q := by
  have hdg : d < gS := Nat.lt_of_lt_of_le hN hCN
  refine ⟨fun _ _ => trivial, ?_⟩
  rw [hrun, callFunc_enter hp.1, Oper.uponIn_enter]
  refine ⟨fun e => (by cases e), callsIn_fw (Calls.mono (hp.2 C Pt a w A Lx sp vs hCN h hs hr) ?_)⟩
  rintro e w' ⟨r, v, s', A', Lx', sp', rfl, h2, h3, h4, h5, h6⟩
  show rest (a.put o.dst v) w'
  rw [hd]
  exact hn _ _ _ _ _ _ h6 (h4.put hN hdg h2 h3) (by rw [held_set hdg]; exact h5) rfl

theorem icall_step {f : FuncId} {d : Nat} {xs : Array Operand} {ts : Array TypeId} {ms : List MArg} (hop : o.op = .call { callee := .value (.func f), args := xs, argTypes := ts }) (hd : o.dst = some d) (hN : d < C.N) (hx : argsOfT P xs.toList ts.toList = some ms)
    (hCN : C.N ≤ gS) (h : GS C Pt s a w A Lx sp) (hv : vc1 P (.icall d f ms) s K) (hn : Goes C Pt s w A Lx sp a.defers K rest) : o.wpIn (Fw C.ro) 0 P a w rest Q := by
  obtain ⟨a1, a2⟩ := argsT_sound h.rs hx
  have hev : (⟨a.tmps, []⟩ : Act).eval = a.eval := rfl
  rw [hev] at a2
  refine icall_go (vs := xs.map a.eval) hv hCN h hd hN (by simp [a1]) (fun i => ?_) ?_ hn
  · have := a2 i
    simpa [List.getD_eq_getElem?_getD, Array.getD_eq_getD_getElem?] using this
  · rw [Oper.semAt_eq _ _ _ (by rw [hop]; intro c e; cases e)]
    simp [execOp, hop, resolve, Act.eval, Deferred.ofValue, invoke]

theorem icallv_step {t : Tmp} {d : Nat} {xs : Array Operand} {ts : Array TypeId} {ms : List MArg} (hop : o.op = .call { callee := .value (.tmp t), args := xs, argTypes := ts }) (hd : o.dst = some d) (hN : d < C.N) (hx : argsOfT P xs.toList ts.toList = some ms)
    (hCN : C.N ≤ gS) (h : GS C Pt s a w A Lx sp) (hv : vc1 P (.icallv d (.t t) ms) s K) (hn : Goes C Pt s w A Lx sp a.defers K rest) : o.wpIn (Fw C.ro) 0 P a w rest Q := by
  obtain ⟨a1, a2⟩ := argsT_sound h.rs hx
  have hev : (⟨a.tmps, []⟩ : Act).eval = a.eval := rfl
  rw [hev] at a2
  have h1 := (h.rs.env t).1
  simp only [vc1] at hv
  split at hv
  · rename_i f fs cs e1
    replace e1 : s.env t = .func (.func f) fs cs := e1
    rw [e1] at h1
    replace h1 : RV w A (.func (.func f) fs cs) (a.tmps.getD t undef) := h1
    generalize hv0 : a.tmps.getD t undef = v0 at h1
    cases h1 with
    | func _ _ _ vf vc hsf hsc hf hc =>
      refine icall_go (vs := vf ++ xs.map a.eval ++ vc) hv hCN h hd hN (by simp [a1, hsf, hsc]) (fun i => ?_) ?_ hn
      · have e2 := getD_append3 vf.toList (xs.map a.eval).toList vc.toList i undef
        have e3 := getD_append3 fs (ms.map fun x => (x.ev s.env).erase) cs i .any
        have e4 : (vf ++ xs.map a.eval ++ vc).getD i undef = (vf.toList ++ (xs.map a.eval).toList ++ vc.toList).getD i undef := by
          simp [List.getD_eq_getElem?_getD, Array.getD_eq_getD_getElem?, Array.getElem?_append, List.getElem?_append]
        rw [e4, e2, e3]
        simp only [Array.length_toList, hsf, Array.size_map, List.length_map, a1]
        split
        · have := hf i
          simpa [List.getD_eq_getElem?_getD, Array.getD_eq_getD_getElem?] using this
        · split
          · have := a2 (i - fs.length)
            simpa [List.getD_eq_getElem?_getD, Array.getD_eq_getD_getElem?] using this
          · have := hc (i - fs.length - xs.size)
            simpa [List.getD_eq_getElem?_getD, Array.getD_eq_getD_getElem?] using this
      · rw [Oper.semAt_eq _ _ _ (by rw [hop]; intro c e; cases e)]
        simp [execOp, hop, resolve, Act.eval, hv0, Deferred.ofValue, invoke]
  · exact hv.elim

theorem trI_spec {N : Nat} {m : MOp} (h : trI P N o = some m) : ∃ d xs ts ms, o.dst = some d ∧ d < N ∧ argsOfT P xs.toList ts.toList = some ms ∧
    ((∃ f, o.op = .call { callee := .value (.func f), args := xs, argTypes := ts } ∧ m = .icall d f ms) ∨ ∃ t, o.op = .call { callee := .value (.tmp t), args := xs, argTypes := ts } ∧ m = .icallv d (.t t) ms) := by
  unfold trI at h
  split at h
  · rename_i d c hd hop
    split at h
    · rename_i f hc
      split at h
      · rename_i hN
        simp only [Option.map_eq_some_iff] at h
        obtain ⟨ms, hms, rfl⟩ := h
        exact ⟨d, c.args, c.argTypes, ms, hd, hN, hms, .inl ⟨f, by rw [hop, ← hc], rfl⟩⟩
      · cases h
    · rename_i t hc
      split at h
      · rename_i hN
        simp only [Option.map_eq_some_iff] at h
        obtain ⟨ms, hms, rfl⟩ := h
        exact ⟨d, c.args, c.argTypes, ms, hd, hN, hms, .inr ⟨t, by rw [hop, ← hc], rfl⟩⟩
      · cases h
    · cases h
  · cases h

theorem trYL_spec {pos N : Nat} {m : MOp} (h : trYL P pos N o = some m) : ∃ d t x ty y, o.dst = some d ∧ d < N ∧ o.op = .call { callee := .value (.tmp t), args := #[x], argTypes := #[ty] } ∧ argOfT P ty x = some y ∧ m = .yldL d (.t t) pos y := by
  unfold trYL at h
  split at h
  · rename_i d c hd hop
    split at h
    · rename_i t x ty hc hxs hts
      split at h
      · rename_i hN
        simp only [Option.map_eq_some_iff] at h
        obtain ⟨y, hy, rfl⟩ := h
        have e1 : c.args = #[x] := by rw [← Array.toList_inj, hxs]
        have e2 : c.argTypes = #[ty] := by rw [← Array.toList_inj, hts]
        refine ⟨d, t, x, ty, y, hd, hN, ?_, hy, rfl⟩
        rw [hop, ← hc, ← e1, ← e2]
      · cases h
    · cases h
  · cases h

def StepsUp (P : Program) (N : Nat) (f : Array Oper → Oper → Option MOp) : Prop :=
  ∀ {ops : Array Oper} {o : Oper} {m : MOp} {s : St} {a : Act} {w : World} {A : Area} {sp : Sp} {K : St → Prop} {rest : Act → World → Prop} {Q : Exit → Act → World → Prop}, f ops o = some m → RS N s a w A sp → vc1 P m s K → Next s w A sp N K rest →
    (if Region.wanted o (yielded ops a.tmps) = true then o.wp P a w rest Q ∨ (o.asks P a w ∧ LetsOut Q) else rest (a.put o.dst undef) w)

theorem yo_step {yl : Nat} {m : MOp} (hCN : C.N ≤ gS) (hm : trYO P yl C.N o = some m) (h : GS C Pt s a w A Lx sp) (hv : vc1 P m s K) (hn : Goes C Pt s w A Lx sp a.defers K rest) :
    o.wpIn (Fw C.ro) 0 P a w rest Q ∧ ∀ d, o.dst = some d → d < C.N ∧ d < gS := by
  unfold trYO at hm
  split at hm
  · obtain ⟨d, t, xs, ts, ms, hd, hN, hop, hms, rfl⟩ := trY_spec hm
    exact ⟨yld_step h hCN hop hd hN hms hv hn, fun d' hd' => by rw [hd] at hd'; injection hd' with hd'; subst hd'; exact ⟨hN, Nat.lt_of_lt_of_le hN hCN⟩⟩
  split at hm
  · obtain ⟨d, xs, ts, ms, hd, hN, hms, ⟨f, hop, rfl⟩ | ⟨t, hop, rfl⟩⟩ := trI_spec hm
    · exact ⟨icall_step hop hd hN hms hCN h hv hn, fun d' hd' => by rw [hd] at hd'; injection hd' with hd'; subst hd'; exact ⟨hN, Nat.lt_of_lt_of_le hN hCN⟩⟩
    · exact ⟨icallv_step hop hd hN hms hCN h hv hn, fun d' hd' => by rw [hd] at hd'; injection hd' with hd'; subst hd'; exact ⟨hN, Nat.lt_of_lt_of_le hN hCN⟩⟩
  split at hm
  · obtain ⟨d, t, x, ty, y, hd, hN, hop, hy, rfl⟩ := trYL_spec hm
    exact ⟨yldL_step h hCN hop hd hN hy hv hn, fun d' hd' => by rw [hd] at hd'; injection hd' with hd'; subst hd'; exact ⟨hN, Nat.lt_of_lt_of_le hN hCN⟩⟩
  · unfold trO at hm
    split at hm
    · rename_i d T x hd hop
      split at hm
      · rename_i hN
        split at hm
        · injection hm with hm; subst hm
          exact ⟨s_rngS hop hd hN hCN ‹_› ‹_› h hv hn, fun d' hd' => by rw [hd] at hd'; injection hd' with hd'; subst hd'; exact ⟨hN, Nat.lt_of_lt_of_le hN hCN⟩⟩
        · injection hm with hm; subst hm
          exact ⟨s_rngM hop hd hN hCN ‹_› ‹_› h hv hn, fun d' hd' => by rw [hd] at hd'; injection hd' with hd'; subst hd'; exact ⟨hN, Nat.lt_of_lt_of_le hN hCN⟩⟩
        · cases hm
      · cases hm
    · rename_i d x hd hop
      split at hm
      · rename_i hN
        simp only [Option.map_eq_some_iff] at hm
        obtain ⟨y, hy, rfl⟩ := hm
        exact ⟨s_nxtS hop hd hN hCN hy h hv hn, fun d' hd' => by rw [hd] at hd'; injection hd' with hd'; subst hd'; exact ⟨hN, Nat.lt_of_lt_of_le hN hCN⟩⟩
      · cases hm
    · rename_i d x hd hop
      split at hm
      · rename_i hN
        simp only [Option.map_eq_some_iff] at hm
        obtain ⟨y, hy, rfl⟩ := hm
        exact ⟨s_nxtM hop hd hN hCN hy h hv hn, fun d' hd' => by rw [hd] at hd'; injection hd' with hd'; subst hd'; exact ⟨hN, Nat.lt_of_lt_of_le hN hCN⟩⟩
      · cases hm
    · rename_i d x hd hop
      split at hm
      · rename_i hN
        simp only [Option.map_eq_some_iff] at hm
        obtain ⟨y, hy, rfl⟩ := hm
        exact ⟨s_entM hop hd hN hCN hy h hv hn, fun d' hd' => by rw [hd] at hd'; injection hd' with hd'; subst hd'; exact ⟨hN, Nat.lt_of_lt_of_le hN hCN⟩⟩
      · cases hm
    · rename_i d T hd hop
      split at hm
      · rename_i hN
        injection hm with hm; subst hm
        exact ⟨s_mkMap hop hd hN hCN h hv hn, fun d' hd' => by rw [hd] at hd'; injection hd' with hd'; subst hd'; exact ⟨hN, Nat.lt_of_lt_of_le hN hCN⟩⟩
      · cases hm
    · rename_i T x k y hd hop
      split at hm
      · split at hm
        · injection hm with hm; subst hm
          exact ⟨s_mapUpd hop hd ‹_› ‹_› ‹_› ‹_› ‹_› h hv hn, fun d' hd' => by rw [hd] at hd'; cases hd'⟩
        · cases hm
      · cases hm
    · rename_i d T x k hd hop
      split at hm
      · rename_i hN
        split at hm
        · split at hm
          · rename_i hz _ _
            simp only [Option.bind_eq_some_iff] at hz
            obtain ⟨z, hz1, hz2⟩ := hz
            injection hm with hm; subst hm
            exact ⟨s_mapEnt hop hd hN hCN ‹_› ‹_› hz1 hz2 ‹_› ‹_› h hv hn, fun d' hd' => by rw [hd] at hd'; injection hd' with hd'; subst hd'; exact ⟨hN, Nat.lt_of_lt_of_le hN hCN⟩⟩
          · cases hm
        · cases hm
      · cases hm
    · rename_i T x st y hd hop
      split at hm
      · injection hm with hm; subst hm
        exact ⟨s_entSt hop hd ‹_› ‹_› ‹_› h hv hn, fun d' hd' => by rw [hd] at hd'; cases hd'⟩
      · cases hm
    · rename_i d T x k ok hd hop
      split at hm
      · rename_i hN
        split at hm
        · split at hm
          · rename_i hz _ _
            simp only [Option.bind_eq_some_iff] at hz
            obtain ⟨z, hz1, hz2⟩ := hz
            injection hm with hm; subst hm
            exact ⟨s_lookup hop hd hN hCN ‹_› ‹_› hz1 hz2 ‹_› ‹_› h hv hn, fun d' hd' => by rw [hd] at hd'; injection hd' with hd'; subst hd'; exact ⟨hN, Nat.lt_of_lt_of_le hN hCN⟩⟩
          · cases hm
        · cases hm
      · cases hm
    · cases hm

theorem yo_dst {yl : Nat} {N : Nat} {m : MOp} (hm : trYO P yl N o = some m) : ∀ d, o.dst = some d → d < N := by
  intro d hd
  unfold trYO at hm
  split at hm
  · obtain ⟨d', t, xs, ts, ms, hd', hN, _⟩ := trY_spec hm
    rw [hd] at hd'; injection hd' with hd'; subst hd'; exact hN
  split at hm
  · obtain ⟨d', xs, ts, ms, hd', hN, _⟩ := trI_spec hm
    rw [hd] at hd'; injection hd' with hd'; subst hd'; exact hN
  split at hm
  · obtain ⟨d', t, x, ty, y, hd', hN, _⟩ := trYL_spec hm
    rw [hd] at hd'; injection hd' with hd'; subst hd'; exact hN
  · unfold trO at hm
    split at hm <;> rename_i hd' hop <;> rw [hd] at hd' <;> first | (cases hd'; done) | skip
    all_goals first
      | (injection hd' with hd'; subst hd'; split at hm <;> first | assumption | cases hm)
      | cases hm

theorem step_x {f : Array Oper → Oper → Option MOp} (hf : StepsUp P C.N f) {ann : Ann} {ops : Array Oper} {m : MOp} (hCN : C.N ≤ gS) (hm : trX f P ann C.N ops o = some m) (h : GS C Pt s a w A Lx sp) (hv : vc1 P m s K)
    (hn : Goes C Pt s w A Lx sp a.defers K rest) : StepIn C.ro P ops o a w rest Q := by
  have alt : trX.trX2 P ann C.N ops o = some m → StepIn C.ro P ops o a w rest Q := by
    intro hm
    unfold trX.trX2 at hm
    split at hm
    · rename_i hg
      unfold StepIn
      rw [if_pos (by simp [Region.wanted, hg])]
      exact (yo_step hCN hm h hv hn).1
    · rename_i j want hg
      split at hm
      · rename_i g m' hj hm'
        split at hm
        · rename_i hgN
          injection hm with hm; subst hm
          exact guard_step h hg hj hgN (fun d hd => ⟨yo_dst hm' d hd, Nat.lt_of_lt_of_le (yo_dst hm' d hd) hCN⟩) hv (fun hv' => (yo_step hCN hm' h hv' hn).1) hn
        · cases hm
      · cases hm
  unfold trX at hm
  split at hm
  · rename_i m' hm'
    split at hm
    · rename_i hc
      injection hm with hm; subst hm
      simp only [Bool.and_eq_true] at hc
      exact step_up h (fun c e => by have := hc.2; simp [ndB, e] at this) hc.1.2 hv (fun K rest Q hv' hn' => hf hm' h.rs hv' hn') hn
    · exact alt hm
  · exact alt hm

def trXList (f : Array Oper → Oper → Option MOp) (P : Program) (ann : Ann) (N : Nat) (ops : Array Oper) : List Oper → Option (List MOp)
  | [] => some []
  | o :: os => match trX f P ann N ops o, trXList f P ann N ops os with
    | some m, some ms => some (m :: ms)
    | _, _ => none

theorem xlist_sound {f : Array Oper → Oper → Option MOp} (hf : StepsUp P C.N f) {ann : Ann} {ops : Array Oper} (hCN : C.N ≤ gS) : ∀ (os : List Oper) (ms : List MOp) (s : St) (a : Act) (w : World) (A Lx : Area) (sp : Sp), trXList f P ann C.N ops os = some ms →
    GS C Pt s a w A Lx sp → vcs P ms K s → Goes C Pt s w A Lx sp a.defers K (Q .normal) → wpListIn (Fw C.ro) 0 P ops Q os a w
  | [], ms, s, a, w, A, Lx, sp, hm, h, hv, hn => by
    injection hm with hm; subst hm
    exact hn _ _ _ _ _ _ hv h (.refl _ _ _) rfl
  | o :: os, ms, s, a, w, A, Lx, sp, hm, h, hv, hn => by
    simp only [trXList] at hm
    split at hm
    · rename_i m ms' h1 h2
      injection hm with hm; subst hm
      exact step_x hf hCN h1 h hv fun s' a' w' A' Lx' sp' hk hr hev hd =>
        xlist_sound hf hCN os ms' s' a' w' A' Lx' sp' h2 hr hk fun s2 a2 w2 A2 Lx2 sp2 hk2 hr2 hev2 hd2 => hn s2 a2 w2 A2 Lx2 sp2 hk2 hr2 (hev.trans hev2) (hd2.trans hd)
    · cases hm

def trXEach (f : Array Oper → Oper → Option MOp) (P : Program) (ann : Ann) (N : Nat) (ops : Array Oper) : List Nat → Option (List (Nat × MOp))
  | [] => some []
  | i :: is => match ops[i]? with
    | some o => match trX f P ann N ops o, trXEach f P ann N ops is with
      | some m, some l => some ((i, m) :: l)
      | _, _ => none
    | none => none

def trXDraw (f : Array Oper → Oper → Option MOp) (P : Program) (ann : Ann) (N : Nat) (id : Nat) (ops : Array Oper) : Option (List MOp) :=
  let ord := look ann.ord id []
  match trXEach f P ann N ops ord with
  | some l => if P.follows .mixedOrders && fwdB ops && decide (ord.length = ops.size) && nodupB ord && ((List.range ops.size).all fun i => ord.contains i) && orderOK (Region.before ops) l then some (l.map (·.2)) else none
  | none => none

theorem trXEach_spec {f : Array Oper → Oper → Option MOp} {ann : Ann} {N : Nat} {ops : Array Oper} : ∀ (is : List Nat) (l : List (Nat × MOp)), trXEach f P ann N ops is = some l → l.map (·.1) = is ∧ ∀ p ∈ l, ∃ o, ops[p.1]? = some o ∧ trX f P ann N ops o = some p.2
  | [], l, h => by injection h with h; subst h; exact ⟨rfl, by simp⟩
  | i :: is, l, h => by
    simp only [trXEach] at h
    split at h
    · rename_i o ho
      split at h
      · rename_i m l' hm hl
        injection h with h; subst h
        obtain ⟨h1, h2⟩ := trXEach_spec is l' hl
        refine ⟨by simp [h1], fun p hp => ?_⟩
        rcases List.mem_cons.1 hp with rfl | hp
        · exact ⟨o, ho, hm⟩
        · exact h2 p hp
      · cases h
    · cases h

theorem xgame {f : Array Oper → Oper → Option MOp} (hf : StepsUp P C.N f) {ann : Ann} {ops : Array Oper} (hCN : C.N ≤ gS) (hfwd : fwdB ops = true) : ∀ (n : Nat) (rem : List (Nat × MOp)) (listed : Array Bool) (s : St) (a : Act) (w : World) (A Lx : Area) (sp : Sp),
    rem.length = n → listed.size = ops.size → (rem.map (·.1)).Nodup → (∀ i, i < ops.size → (listed.getD i true = false ↔ i ∈ rem.map (·.1))) →
    (∀ p ∈ rem, ∃ o, ops[p.1]? = some o ∧ trX f P ann C.N ops o = some p.2) → orderOK (Region.before ops) rem = true →
    (∀ i o, listed.getD i true = true → i < ops.size → ops[i]? = some o → o.after.all (fun e => !Region.binds .any e || listed.getD e.on false) = true) →
    GS C Pt s a w A Lx sp → vcs P (rem.map (·.2)) K s → Goes C Pt s w A Lx sp a.defers K (Q .normal) →
    wpAnyIn (Fw C.ro) 0 P .any ops Q n listed a w := by
  intro n
  induction n with
  | zero =>
    intro rem listed s a w A Lx sp hlen hls hnd hin htr hord hcl h hv hn
    have hrem : rem = [] := List.eq_nil_of_length_eq_zero hlen
    subst hrem
    refine ⟨?_, hn _ _ _ _ _ _ hv h (.refl _ _ _) rfl⟩
    rw [Region.ready, List.filter_eq_nil_iff]
    intro i hi
    have hi' : i < ops.size := by simpa using hi
    have := (hin i hi')
    simp only [List.map_nil, List.not_mem_nil, iff_false, Bool.not_eq_false] at this
    simp [this]
  | succ n ih =>
    intro rem listed s a w A Lx sp hlen hls hnd hin htr hord hcl h hv hn
    have hmem : ∀ i, i ∈ Region.ready .any ops listed → i < ops.size ∧ listed.getD i true = false ∧ ∃ o, ops[i]? = some o ∧ o.after.all (fun e => !Region.binds .any e || listed.getD e.on false) = true := by
      intro i hi
      rw [Region.ready, List.mem_filter] at hi
      obtain ⟨h1, h2⟩ := hi
      have h1 : i < ops.size := by simpa using h1
      simp only [Bool.and_eq_true, Bool.not_eq_true'] at h2
      refine ⟨h1, h2.1, ops[i], Array.getElem?_eq_getElem h1, ?_⟩
      have := h2.2
      rw [Array.getElem?_eq_getElem h1] at this
      exact this
    refine ⟨fun hnil => ?_, fun i hi => ?_⟩
    · exfalso
      have hne : rem.map (·.1) ≠ [] := by
        intro e
        have : rem.length = 0 := by simpa using congrArg List.length e
        omega
      have hex : ∃ i, i ∈ rem.map (·.1) ∧ ∀ j, j ∈ rem.map (·.1) → i ≤ j := by
        generalize rem.map (·.1) = l at hne
        induction l with
        | nil => exact absurd rfl hne
        | cons x l ihl =>
          by_cases hl : l = []
          · subst hl; exact ⟨x, by simp, by simp⟩
          · obtain ⟨i, h1, h2⟩ := ihl hl
            by_cases hx : x ≤ i
            · exact ⟨x, by simp, fun j hj => by rcases List.mem_cons.1 hj with rfl | hj; exact Nat.le_refl _; exact Nat.le_trans hx (h2 j hj)⟩
            · exact ⟨i, by simp [h1], fun j hj => by rcases List.mem_cons.1 hj with rfl | hj; omega; exact h2 j hj⟩
      obtain ⟨i, hi1, hi2⟩ := hex
      obtain ⟨p, hp, rfl⟩ := List.mem_map.1 hi1
      obtain ⟨o, ho, _⟩ := htr p hp
      have hlt := (Array.getElem?_eq_some_iff.1 ho).1
      have hready : p.1 ∈ Region.ready .any ops listed := by
        rw [Region.ready, List.mem_filter]
        refine ⟨by simpa using hlt, ?_⟩
        have hl : listed.getD p.1 true = false := (hin _ hlt).2 hi1
        simp only [hl, Bool.not_false, Bool.true_and, ho, Option.map_some, Option.getD_some]
        refine Array.all_eq_true_iff_forall_mem.2 fun e he => ?_
        cases hb : Region.binds .any e
        · rfl
        · have hf := (List.all_eq_true.1 hfwd) p.1 (by simpa using hlt)
          rw [ho] at hf
          have hf := (Array.all_eq_true_iff_forall_mem.1 hf) e he
          simp only [hb, Bool.not_true, Bool.false_or, decide_eq_true_eq] at hf
          have hnot : e.on ∉ rem.map (·.1) := fun hm => by have := hi2 _ hm; omega
          have hlo : e.on < ops.size := by omega
          have := mt (hin e.on hlo).1 hnot
          rw [Bool.not_eq_false] at this
          rw [Array.getD_eq_getD_getElem?, Array.getElem?_eq_getElem (by omega)] at this
          simp only [Bool.not_true, Bool.false_or]
          rw [Array.getD_eq_getD_getElem?, Array.getElem?_eq_getElem (by omega)]
          exact this
      rw [hnil] at hready
      cases hready
    · obtain ⟨hlt, hnl, o, ho, hall⟩ := hmem i hi
      have hir : i ∈ rem.map (·.1) := (hin i hlt).1 hnl
      obtain ⟨p, hp, rfl⟩ := List.mem_map.1 hir
      obtain ⟨pre, post, rfl⟩ := List.append_of_mem hp
      obtain ⟨ho1, ho2⟩ := orderOK_drop pre hord
      obtain ⟨o', ho', htr'⟩ := htr p hp
      rw [ho] at ho'; injection ho' with ho'; subst ho'
      have hcomm : ∀ y ∈ pre.map (·.2), commB y p.2 = true := by
        intro y hy
        obtain ⟨q, hq, rfl⟩ := List.mem_map.1 hy
        have := ho2 q hq
        cases hw : ((Region.before ops).getD p.1 0).testBit q.1
        · rw [hw, Bool.false_or] at this; exact this
        · exfalso
          have h1 := ready_waits hcl hls (before_reach ops _ _ hw) o ho hall
          obtain ⟨oq, hoq, _⟩ := htr q (List.mem_append_left _ hq)
          have hqlt := (Array.getElem?_eq_some_iff.1 hoq).1
          have h2 := (hin q.1 hqlt).2 (List.mem_map.2 ⟨q, List.mem_append_left _ hq, rfl⟩)
          rw [Array.getD_eq_getD_getElem?, Array.getElem?_eq_getElem (by omega)] at h1 h2
          rw [Option.getD_some] at h1 h2
          rw [h1] at h2; cases h2
      rw [List.map_append, List.map_cons] at hv
      have hfin : FinS s := ⟨w.heap.size, fun b hb => by
        cases hl : s.loc b with
        | none => rfl
        | some cs =>
          obtain ⟨vs, T, h1, _⟩ := h.rs.loc b cs hl
          have := (Array.getElem?_eq_some_iff.1 h1).1
          omega⟩
      have hv2 := move_front (pre.map (·.2)) hcomm s hfin hv
      rw [← List.map_append] at hv2
      unfold wpOpIn
      simp only [ho]
      refine step_x hf hCN htr' h hv2 fun s' a' w' A' Lx' sp' hk hr hev hd => ?_
      have hset : ∀ j, j < ops.size → (listed.setIfInBounds p.1 true).getD j true = if j = p.1 then true else listed.getD j true := by
        intro j hj
        simp only [Array.getD_eq_getD_getElem?]
        by_cases e : j = p.1
        · subst e; rw [Array.getElem?_setIfInBounds_self_of_lt (by omega)]; simp
        · rw [Array.getElem?_setIfInBounds_ne (Ne.symm e), if_neg e]
      refine ih (pre ++ post) (listed.setIfInBounds p.1 true) s' a' w' A' Lx' sp' (by simp at hlen ⊢; omega) (by simpa using hls) ?_ (fun j hj => ?_) (fun q hq => htr q ?_) ho1 (fun j oj hj hjlt hoj => ?_) hr hk (fun s2 a2 w2 A2 Lx2 sp2 hk2 hr2 hev2 hd2 => hn s2 a2 w2 A2 Lx2 sp2 hk2 hr2 (hev.trans hev2) (hd2.trans hd))
      · rw [List.map_append, List.map_cons] at hnd
        rw [List.map_append]
        exact hnd.sublist (List.Sublist.append_left (List.sublist_cons_self _ _) _)
      · rw [hset j hj]
        rw [List.map_append, List.map_cons] at hnd hin
        rw [List.map_append]
        by_cases e : j = p.1
        · subst e
          simp only [if_true, Bool.true_eq_false, false_iff, List.mem_append, not_or]
          have := List.nodup_append.1 hnd
          refine ⟨fun hm => (this.2.2 _ hm _ (List.mem_cons_self ..)) rfl, fun hm => ?_⟩
          exact (List.nodup_cons.1 this.2.1).1 hm
        · rw [if_neg e, hin j hj]
          simp only [List.mem_append, List.mem_cons, e, false_or]
      · rcases List.mem_append.1 hq with hq | hq
        · exact List.mem_append_left _ hq
        · exact List.mem_append_right _ (List.mem_cons_of_mem _ hq)
      · have hmon : ∀ k, listed.getD k false = true → (listed.setIfInBounds p.1 true).getD k false = true := by
          intro k hk
          simp only [Array.getD_eq_getD_getElem?] at hk ⊢
          by_cases e : k = p.1
          · subst e; rw [Array.getElem?_setIfInBounds_self_of_lt (by omega)]; rfl
          · rw [Array.getElem?_setIfInBounds_ne (Ne.symm e)]; exact hk
        have hprev : oj.after.all (fun e => !Region.binds .any e || listed.getD e.on false) = true := by
          rw [hset j hjlt] at hj
          by_cases e : j = p.1
          · subst e; rw [ho] at hoj; injection hoj with hoj; subst hoj; exact hall
          · rw [if_neg e] at hj; exact hcl j oj hj hjlt hoj
        refine Array.all_eq_true_iff_forall_mem.2 fun e he => ?_
        have := (Array.all_eq_true_iff_forall_mem.1 hprev) e he
        cases hb : Region.binds .any e
        · rfl
        · simp only [hb, Bool.not_true, Bool.false_or] at this ⊢
          exact hmon _ this

theorem GS.drew (h : GS C Pt s a w A Lx sp) : GS C Pt s a w.drew A Lx sp := (h.own (a' := a) h.rs.drew (Ev.drew _) (fun _ _ => rfl) rfl).1

theorem xdraw_sound {f : Array Oper → Oper → Option MOp} (hf : StepsUp P C.N f) {ann : Ann} {id : Nat} {ops : Array Oper} {ms : List MOp} (hCN : C.N ≤ gS)
    (hm : trXDraw f P ann C.N id ops = some ms) (h : GS C Pt s a w A Lx sp) (hv : vcs P ms K s) (hn : Goes C Pt s w A Lx sp a.defers K (Q .normal)) :
    (Code.region id ops true).wpIn (Fw C.ro) 0 P Q a w := by
  unfold trXDraw at hm
  simp only at hm
  split at hm
  · rename_i l hl
    split at hm
    · rename_i hc
      injection hm with hm; subst hm
      simp only [Bool.and_eq_true, decide_eq_true_eq] at hc
      obtain ⟨⟨⟨⟨⟨hfol, hfwd⟩, hlen⟩, hnodup⟩, hall⟩, hord⟩ := hc
      obtain ⟨h1, h2⟩ := trXEach_spec _ l hl
      have hlen' : l.length = ops.size := by rw [← hlen, ← h1]; simp
      have hin : ∀ i, i < ops.size → i ∈ l.map (·.1) := by
        intro i hi
        have := (List.all_eq_true.1 hall) i (by simpa using hi)
        rw [h1]; simpa using this
      refine wpIn_region_any hfol ?_
      have hnd : (l.map (·.1)).Nodup := by rw [h1]; exact nodupB_spec _ hnodup
      have hr0 : (Array.replicate ops.size false).size = ops.size := by simp
      rw [← hlen']
      rw [hlen']
      refine xgame hf hCN hfwd ops.size l (Array.replicate ops.size false) s a _ A Lx sp hlen' hr0 hnd (fun i hi => ⟨fun _ => hin i hi, fun _ => by simp [Array.getD_eq_getD_getElem?, hi]⟩) h2 hord (fun i o hi hlt _ => ?_) h.drew hv (fun s' a' w' A' Lx' sp' hk hr hev => hn s' a' w' A' Lx' sp' hk hr ((Ev.drew _).trans hev))
      simp [Array.getD_eq_getD_getElem?, hlt] at hi
    · cases hm
  · cases hm

theorem up_list (ann : Ann) (N : Nat) : StepsUp P N (trGd P ann N) := fun hm h hv hn => stepGd_sound hm h hv hn
theorem up_draw (ann : Ann) (N : Nat) : StepsUp P N (trD P ann N) := fun hm h hv hn => stepD_sound hm h hv hn
end
end Go.Avm

namespace Go.Avm
open Go.RowKit

section
variable {P : Program} {C : Ctx P} {Pt : List (Nat × Obj)} {s : St} {a : Act} {w : World} {A Lx : Area} {sp : Sp} {K : St → Prop}

theorem frz_sound {k : Nat} (hk : k < gS) (h : GS C Pt s a w A Lx sp) (hv : vc1 P (.frz k) s K) : ∃ s' A' sp', K s' ∧ GS C Pt s' a w A' Lx sp' ∧ Ev w A (join (held s sp) Lx) w A' (join (held s' sp') Lx) := by
  simp only [vc1] at hv
  split at hv
  · rename_i b len cap sz e1
    split at hv
    · rename_i cs hb
      obtain ⟨h1, h2, h3, hK⟩ := hv
      obtain ⟨vs, T, hh, hsz, hr⟩ := h.rs.loc b cs hb
      let A' : Area := fun c o => A c o ∨ (c = b ∧ o < cs.length)
      have hmono : ∀ {x : AV} {v : Value}, RV w A x v → RV w A' x v := fun hx => hx.mono (fun c o v ha hv => ⟨hv, .inl ha⟩) (.same fun _ _ ha => .inl ha)
      have hspb : ∀ r, (sp r).2.1 < (sp r).2.2 → (sp r).1 ≠ b := fun r hr' e => by
        have := (h.rs.spb r hr').2
        rw [e, hb] at this; cases this
      have hrs : RS C.N ⟨upd s.env k (.slice sz (chunk sz cs len) 0), upd s.loc b none⟩ ⟨a.tmps, []⟩ w A' sp := by
        refine ⟨h.rs.size, rfl, fun d => ?_, fun c cs' hc => ?_, fun r hr' => ⟨(h.rs.spb r hr').1, ?_⟩, h.rs.spd, fun c o ha => ⟨?_, fun hl => ?_⟩⟩
        · show RV w A' (upd s.env k (AV.slice sz (chunk sz cs len) 0) d) (a.tmps.getD d undef) ∧ OwnOK sp (upd s.env k (AV.slice sz (chunk sz cs len) 0) d) (a.tmps.getD d undef)
          by_cases hd : d = k
          · subst hd
            rw [show upd s.env d (AV.slice sz (chunk sz cs len) 0) d = AV.slice sz (chunk sz cs len) 0 from upd_same _ _ _]
            have g := (h.rs.env d).1
            rw [e1] at g
            generalize a.tmps.getD d undef = v0 at g
            cases g with
            | mslice _ _ _ _ _ hlc =>
              refine ⟨?_, .inl rfl⟩
              have := RV.slice (w := w) (A := A') sz (chunk sz cs len) 0 b 0 cap (fun i => vs.getD i undef) (fun x hx => (chunk_mem sz len cs h1 h2 x hx).1) (fun x hx => (chunk_mem sz len cs h1 h2 x hx).2) (by rw [chunk_len]; exact hlc) (by rw [chunk_len]; exact h3)
                (fun i hi => ?_) (fun i => ?_)
              · rw [chunk_len] at this; exact this
              · rw [chunk_len] at hi
                refine ⟨?_, .inr ⟨rfl, by omega⟩⟩
                rw [Nat.zero_add]
                simp [World.cell?, hh, Array.getD_eq_getD_getElem?, Array.getElem?_eq_getElem (show i < vs.size by omega)]
              · rw [chunk_flat sz len cs h1 h2, getD_erase0]
                by_cases hi : i < len * sz
                · have e3 : (cs.take (len * sz)).getD i .any = cs.getD i .any := by simp only [List.getD_eq_getElem?_getD, List.getElem?_take, hi, if_true]
                  rw [e3]
                  exact (hmono (hr i).1).erase0
                · have e3 : (cs.take (len * sz)).getD i .any = .any := by simp only [List.getD_eq_getElem?_getD, List.getElem?_take, hi, if_false, Option.getD_none]
                  rw [e3]
                  exact .any _
          · rw [show upd s.env k (AV.slice sz (chunk sz cs len) 0) d = s.env d from upd_ne _ _ hd]
            exact ⟨hmono (h.rs.env d).1, (h.rs.env d).2⟩
        · simp only [upd] at hc
          split at hc
          · cases hc
          · obtain ⟨vs', T', g1, g2, g3⟩ := h.rs.loc c cs' hc
            exact ⟨vs', T', g1, g2, fun i => ⟨hmono (g3 i).1, (g3 i).2⟩⟩
        · simp only [upd]; rw [if_neg (hspb r hr')]; exact (h.rs.spb r hr').2
        · rcases ha with ha | ⟨rfl, _⟩
          · exact (h.rs.av c o ha).1
          · exact lt_of_heap hh
        · rcases ha with ha | ⟨rfl, ho⟩
          · refine (h.rs.av c o ha).2 ?_
            rcases hl with hl | hl
            · simp only [upd] at hl
              split at hl
              · exact absurd rfl hl
              · exact .inl hl
            · exact .inr hl
          · rcases hl with hl | ⟨r, q1, q2, q3⟩
            · simp [upd] at hl
            · exact hspb r (by omega) q1
      have hlive : ∀ c o, live (upd s.loc b none) sp c o → live s.loc sp c o := by
        rintro c o (hl | hl)
        · simp only [upd] at hl
          split at hl
          · exact absurd rfl hl
          · exact .inl hl
        · exact .inr hl
      have hev : Ev w A (live s.loc sp) w A' (live (upd s.loc b none) sp) := by
        refine ⟨rfl, rfl, rfl, Nat.le_refl _, fun c o _ hl => ⟨rfl, fun hh => hl (hlive c o hh)⟩, fun _ _ _ => rfl, fun _ _ ha => .inl ha, fun c o ha => ?_⟩
        rcases ha with ha | ⟨rfl, _⟩
        · exact .inl ha
        · exact .inr (.inl (.inl (by rw [hb]; exact fun e => by cases e)))
      obtain ⟨g1, g2⟩ := h.own (a' := a) hrs hev (fun q hq => upd_ne _ _ (by omega)) rfl
      exact ⟨_, A', sp, hK, g1, g2⟩
    · exact hv.elim
  · rename_i b e1
    split at hv
    · rename_i cs hb
      rcases hv with ⟨sz, off, hc, hK⟩ | ⟨off, b2, len, cap, sz, cs2, hc, hne, hb2, h1, h2, h3, hK⟩ | ⟨off, b2, es, hc, hob, hK⟩ | hK
      · have hr0 := h.rs.dem ((k + 1) * 1000 + off)
        have hb' : (s.dem ((k + 1) * 1000 + off)).loc b = some (cs.map (demote ((k + 1) * 1000 + off))) := by simp [St.dem, hb]
        have hlt : off < cs.length := by
          by_cases hl : off < cs.length
          · exact hl
          · rw [List.getElem?_eq_none (by omega)] at hc; cases hc
        obtain ⟨vs, T, hh, hsz, hr⟩ := hr0.loc b _ hb'
        have hcell : RV w A (.lit (.slice none 0 0)) (vs.getD off undef) := by
          have := (hr off).1
          rw [List.getD_eq_getElem?_getD, List.getElem?_map, hc] at this
          exact this
        have hget : ∀ i, ((cs.map (demote ((k + 1) * 1000 + off))).set off (.slice sz [] ((k + 1) * 1000 + off))).getD i .any = if i = off then .slice sz [] ((k + 1) * 1000 + off) else (cs.map (demote ((k + 1) * 1000 + off))).getD i .any := fun i => by
          simp only [List.getD_eq_getElem?_getD, List.getElem?_set]
          by_cases e : off = i
          · subst e; simp [hlt]
          · simp [e, Ne.symm e]
        have hlive : ∀ c o, live ((s.dem ((k + 1) * 1000 + off)).new b ((cs.map (demote ((k + 1) * 1000 + off))).set off (.slice sz [] ((k + 1) * 1000 + off)))).loc (upd sp ((k + 1) * 1000 + off) (0, 0, 0)) c o → live (s.dem ((k + 1) * 1000 + off)).loc (upd sp ((k + 1) * 1000 + off) (0, 0, 0)) c o := by
          rintro c o (hl | hl)
          · refine .inl fun e => ?_
            by_cases ec : c = b
            · subst ec; rw [hb'] at e; cases e
            · exact hl (by simp only [St.new, upd_ne _ _ ec]; exact e)
          · exact .inr hl
        have hrs : RS C.N ((s.dem ((k + 1) * 1000 + off)).new b ((cs.map (demote ((k + 1) * 1000 + off))).set off (.slice sz [] ((k + 1) * 1000 + off)))) ⟨a.tmps, []⟩ w A (upd sp ((k + 1) * 1000 + off) (0, 0, 0)) := by
          refine ⟨hr0.size, rfl, hr0.env, fun c cs' hc' => ?_, fun r hr' => ⟨(hr0.spb r hr').1, ?_⟩, hr0.spd, fun c o ha => ⟨(hr0.av c o ha).1, fun hl => (hr0.av c o ha).2 (hlive c o hl)⟩⟩
          · by_cases ec : c = b
            · subst ec
              simp only [St.new, upd_same] at hc'
              injection hc' with hc'
              subst hc'
              refine ⟨vs, T, hh, by rw [List.length_set]; exact hsz, fun i => ?_⟩
              rw [hget i]
              by_cases ei : i = off
              · subst ei
                rw [if_pos rfl]
                generalize vs.getD i undef = v0 at hcell
                cases hcell with
                | lit _ _ => exact ⟨.nils _ _, trivial⟩
              · rw [if_neg ei]; exact hr i
            · simp only [St.new, upd_ne _ _ ec] at hc'
              exact hr0.loc c cs' hc'
          · have g := (hr0.spb r hr').2
            by_cases ec : ((upd sp ((k + 1) * 1000 + off) (0, 0, 0)) r).1 = b
            · rw [ec, hb'] at g; cases g
            · simp only [St.new, upd_ne _ _ ec]; exact g
        have hev : Ev w A (live s.loc sp) w A (live ((s.dem ((k + 1) * 1000 + off)).new b ((cs.map (demote ((k + 1) * 1000 + off))).set off (.slice sz [] ((k + 1) * 1000 + off)))).loc (upd sp ((k + 1) * 1000 + off) (0, 0, 0))) :=
          .same fun c o hl => live_dem _ (hlive c o hl)
        obtain ⟨g1, g2⟩ := h.own (a' := a) hrs hev (fun q hq => dem_g h.ig q hq) rfl
        exact ⟨_, A, _, hK, g1, g2⟩
      · have hlt : off < cs.length := by
          by_cases hl : off < cs.length
          · exact hl
          · rw [List.getElem?_eq_none (by omega)] at hc; cases hc
        obtain ⟨vs, T, hh, hsz, hr⟩ := h.rs.loc b cs hb
        obtain ⟨vs2, T2, hh2, hsz2, hr2⟩ := h.rs.loc b2 cs2 hb2
        have hcell : RV w A (.mslice b2 0 len cap sz) (vs.getD off undef) := by
          have := (hr off).1
          rw [List.getD_eq_getElem?_getD, hc] at this
          exact this
        let A' : Area := fun c o => A c o ∨ (c = b2 ∧ o < cs2.length)
        have hmono : ∀ {x : AV} {v : Value}, RV w A x v → RV w A' x v := fun hx => hx.mono (fun c o v ha hv => ⟨hv, .inl ha⟩) (.same fun _ _ ha => .inl ha)
        have hslice : RV w A' (.slice sz (chunk sz cs2 len) 0) (vs.getD off undef) ∧ OwnOK sp (.slice sz (chunk sz cs2 len) 0) (vs.getD off undef) := by
          generalize vs.getD off undef = v0 at hcell
          cases hcell with
          | mslice _ _ _ _ _ hlc =>
            refine ⟨?_, .inl rfl⟩
            have := RV.slice (w := w) (A := A') sz (chunk sz cs2 len) 0 b2 0 cap (fun i => vs2.getD i undef) (fun x hx => (chunk_mem sz len cs2 h1 h2 x hx).1) (fun x hx => (chunk_mem sz len cs2 h1 h2 x hx).2) (by rw [chunk_len]; exact hlc) (by rw [chunk_len]; exact h3)
              (fun i hi => ?_) (fun i => ?_)
            · rw [chunk_len] at this; exact this
            · rw [chunk_len] at hi
              refine ⟨?_, .inr ⟨rfl, by omega⟩⟩
              rw [Nat.zero_add]
              simp [World.cell?, hh2, Array.getD_eq_getD_getElem?, Array.getElem?_eq_getElem (show i < vs2.size by omega)]
            · rw [chunk_flat sz len cs2 h1 h2, getD_erase0]
              by_cases hi : i < len * sz
              · have e3 : (cs2.take (len * sz)).getD i .any = cs2.getD i .any := by simp only [List.getD_eq_getElem?_getD, List.getElem?_take, hi, if_true]
                rw [e3]
                exact (hmono (hr2 i).1).erase0
              · have e3 : (cs2.take (len * sz)).getD i .any = .any := by simp only [List.getD_eq_getElem?_getD, List.getElem?_take, hi, if_false, Option.getD_none]
                rw [e3]
                exact .any _
        have hspb : ∀ r, (sp r).2.1 < (sp r).2.2 → (sp r).1 ≠ b2 := fun r hr' e => by
          have := (h.rs.spb r hr').2
          rw [e, hb2] at this; cases this
        have hspb1 : ∀ r, (sp r).2.1 < (sp r).2.2 → (sp r).1 ≠ b := fun r hr' e => by
          have := (h.rs.spb r hr').2
          rw [e, hb] at this; cases this
        have hget : ∀ i, (cs.set off (AV.slice sz (chunk sz cs2 len) 0)).getD i .any = if i = off then .slice sz (chunk sz cs2 len) 0 else cs.getD i .any := fun i => by
          simp only [List.getD_eq_getElem?_getD, List.getElem?_set]
          by_cases e : off = i
          · subst e; simp [hlt]
          · simp [e, Ne.symm e]
        have hlive : ∀ c o, live (upd (upd s.loc b (some (cs.set off (AV.slice sz (chunk sz cs2 len) 0)))) b2 none) sp c o → live s.loc sp c o := by
          rintro c o (hl | hl)
          · by_cases e2 : c = b2
            · subst e2; simp [upd] at hl
            · by_cases e1 : c = b
              · subst e1; exact .inl (by rw [hb]; exact fun e => by cases e)
              · simp only [upd, if_neg e1, if_neg e2] at hl
                exact .inl hl
          · exact .inr hl
        have hrs : RS C.N ⟨s.env, upd (upd s.loc b (some (cs.set off (AV.slice sz (chunk sz cs2 len) 0)))) b2 none⟩ ⟨a.tmps, []⟩ w A' sp := by
          refine ⟨h.rs.size, rfl, fun d => ⟨hmono (h.rs.env d).1, (h.rs.env d).2⟩, fun c cs' hc => ?_, fun r hr' => ⟨(h.rs.spb r hr').1, ?_⟩, h.rs.spd, fun c o ha => ⟨?_, fun hl => ?_⟩⟩
          · simp only at hc
            by_cases e2 : c = b2
            · subst e2; simp [upd] at hc
            · rw [upd_ne _ _ e2] at hc
              by_cases e1 : c = b
              · subst e1
                rw [upd_same] at hc
                injection hc with hc
                subst hc
                refine ⟨vs, T, hh, by rw [List.length_set]; exact hsz, fun i => ?_⟩
                rw [hget i]
                by_cases ei : i = off
                · subst ei
                  rw [if_pos rfl]
                  exact hslice
                · rw [if_neg ei]; exact ⟨hmono (hr i).1, (hr i).2⟩
              · rw [upd_ne _ _ e1] at hc
                obtain ⟨vs', T', g1, g2, g3⟩ := h.rs.loc c cs' hc
                exact ⟨vs', T', g1, g2, fun i => ⟨hmono (g3 i).1, (g3 i).2⟩⟩
          · simp only
            rw [upd_ne _ _ (hspb r hr'), upd_ne _ _ (hspb1 r hr')]
            exact (h.rs.spb r hr').2
          · rcases ha with ha | ⟨rfl, _⟩
            · exact (h.rs.av c o ha).1
            · exact lt_of_heap hh2
          · rcases ha with ha | ⟨rfl, ho⟩
            · exact (h.rs.av c o ha).2 (hlive c o hl)
            · rcases hl with hl | ⟨r, q1, q2, q3⟩
              · simp [upd] at hl
              · exact hspb r (by omega) q1
        have hev : Ev w A (live s.loc sp) w A' (live (upd (upd s.loc b (some (cs.set off (AV.slice sz (chunk sz cs2 len) 0)))) b2 none) sp) := by
          refine ⟨rfl, rfl, rfl, Nat.le_refl _, fun c o _ hl => ⟨rfl, fun hh => hl (hlive c o hh)⟩, fun _ _ _ => rfl, fun _ _ ha => .inl ha, fun c o ha => ?_⟩
          rcases ha with ha | ⟨rfl, _⟩
          · exact .inl ha
          · exact .inr (.inl (.inl (by rw [hb2]; exact fun e => by cases e)))
        obtain ⟨g1, g2⟩ := h.own (a' := a) hrs hev (fun q hq => rfl) rfl
        exact ⟨_, A', sp, hK, g1, g2⟩
      · have hlt : off < cs.length := by
          by_cases hl : off < cs.length
          · exact hl
          · rw [List.getElem?_eq_none (by omega)] at hc; cases hc
        obtain ⟨vs, T, hh, hsz, hr⟩ := h.rs.loc b cs hb
        obtain ⟨es', clock, hheap, hes, hent, -, -⟩ := h.map_at hob
        have hcell : RV w A (.mapr b2) (vs.getD off undef) := by
          have := (hr off).1
          rw [List.getD_eq_getElem?_getD, hc] at this
          exact this
        have hobj : objs s b2 0 := by simp only [objs, hob]; intro e; cases e
        have hlt2 := lt_of_heap hheap
        let A' : Area := fun c o => A c o ∨ c = b2
        have hmono : ∀ {x : AV} {v : Value}, RV w A x v → RV w A' x v := fun hx => hx.mono (fun c o v ha hv => ⟨hv, .inl ha⟩) (.same fun _ _ ha => .inl ha)
        have hmap : RV w A' (.fmap es) (vs.getD off undef) ∧ OwnOK sp (.fmap es) (vs.getD off undef) := by
          generalize vs.getD off undef = v0 at hcell
          cases hcell with
          | mapr _ => exact ⟨.fmap es b2 es' clock hheap (fun o => .inr rfl) hes (fun i e he => hmono (hent i e he).1) (fun i e he => hmono (hent i e he).2), trivial⟩
        have hget : ∀ i, (cs.set off (AV.fmap es)).getD i .any = if i = off then .fmap es else cs.getD i .any := fun i => by
          simp only [List.getD_eq_getElem?_getD, List.getElem?_set]
          by_cases e : off = i
          · subst e; simp [hlt]
          · simp [e, Ne.symm e]
        have henv : ∀ d, d ≠ oS + b2 → upd s.env (oS + b2) .any d = s.env d := fun d hd => upd_ne _ _ hd
        have hheld : ∀ c o, held ⟨upd s.env (oS + b2) .any, upd s.loc b (some (cs.set off (AV.fmap es)))⟩ sp c o → held s sp c o := by
          rintro c o ((hl | hl) | hl)
          · by_cases e1 : c = b
            · subst e1; exact .inl (.inl (by rw [hb]; exact fun e => by cases e))
            · simp only [upd, if_neg e1] at hl
              exact .inl (.inl hl)
          · exact .inl (.inr hl)
          · by_cases e1 : c = b2
            · subst e1; exact .inr hobj
            · simp only [objs] at hl
              rw [henv _ (by omega)] at hl
              exact .inr hl
        have hrs : RS C.N ⟨upd s.env (oS + b2) .any, upd s.loc b (some (cs.set off (AV.fmap es)))⟩ ⟨a.tmps, []⟩ w A' sp := by
          refine ⟨h.rs.size, rfl, fun d => ?_, fun c cs' hc => ?_, fun r hr' => ⟨(h.rs.spb r hr').1, ?_⟩, h.rs.spd, fun c o ha => ⟨?_, fun hl => ?_⟩⟩
          · by_cases hd : d = oS + b2
            · subst hd
              rw [show (St.mk (upd s.env (oS + b2) .any) (upd s.loc b (some (cs.set off (AV.fmap es))))).env (oS + b2) = .any from upd_same _ _ _]
              exact ⟨.any _, trivial⟩
            · rw [show (St.mk (upd s.env (oS + b2) .any) (upd s.loc b (some (cs.set off (AV.fmap es))))).env d = s.env d from henv d hd]
              exact ⟨hmono (h.rs.env d).1, (h.rs.env d).2⟩
          · simp only at hc
            by_cases e1 : c = b
            · subst e1
              rw [upd_same] at hc
              injection hc with hc
              subst hc
              refine ⟨vs, T, hh, by rw [List.length_set]; exact hsz, fun i => ?_⟩
              rw [hget i]
              by_cases ei : i = off
              · subst ei
                rw [if_pos rfl]
                exact hmap
              · rw [if_neg ei]; exact ⟨hmono (hr i).1, (hr i).2⟩
            · rw [upd_ne _ _ e1] at hc
              obtain ⟨vs', T', g1, g2, g3⟩ := h.rs.loc c cs' hc
              exact ⟨vs', T', g1, g2, fun i => ⟨hmono (g3 i).1, (g3 i).2⟩⟩
          · have g := (h.rs.spb r hr').2
            by_cases ec : (sp r).1 = b
            · rw [ec, hb] at g; cases g
            · simp only
              rw [upd_ne _ _ ec]; exact g
          · rcases ha with ha | rfl
            · exact (h.rs.av c o ha).1
            · exact hlt2
          · have hl' : live s.loc sp c o := by
              rcases hl with hl | hl
              · by_cases e1 : c = b
                · subst e1; exact .inl (by rw [hb]; exact fun e => by cases e)
                · simp only [upd, if_neg e1] at hl
                  exact .inl hl
              · exact .inr hl
            rcases ha with ha | rfl
            · exact (h.rs.av c o ha).2 hl'
            · exact h.rs.not_live hheap rfl o hl'
        have hev : Ev w A (held s sp) w A' (held ⟨upd s.env (oS + b2) .any, upd s.loc b (some (cs.set off (AV.fmap es)))⟩ sp) := by
          refine ⟨rfl, rfl, rfl, Nat.le_refl _, fun c o _ hl => ⟨rfl, fun hh => hl (hheld c o hh)⟩, fun _ _ _ => rfl, fun _ _ ha => .inl ha, fun c o ha => ?_⟩
          rcases ha with ha | rfl
          · exact .inl ha
          · exact .inr (.inl (.inr hobj))
        have hig : ∀ q, gS ≤ q → isG ((upd s.env (oS + b2) .any) q) = true := fun q hq => by
          by_cases hd : q = oS + b2
          · subst hd
            rw [upd_same]; rfl
          · rw [henv q hd]
            exact h.ig q hq
        have hoo : ∀ c, ObjOK w A' c ((upd s.env (oS + b2) .any) (oS + c)) := fun c => by
          by_cases e1 : c = b2
          · subst e1
            rw [upd_same]
            exact .any
          · rw [henv _ (by omega)]
            exact (h.ob c).mono (fun _ => rfl) (fun c o v ha hv => ⟨hv, .inl ha⟩) (.same fun _ _ ha => .inl ha)
        have hoa : ∀ c o, objs ⟨upd s.env (oS + b2) .any, upd s.loc b (some (cs.set off (AV.fmap es)))⟩ c o → ¬ A' c o := fun c o hc ha => by
          have e1 : c ≠ b2 := by
            rintro rfl
            exact hc (upd_same _ _ _)
          simp only [objs] at hc
          rw [henv _ (by omega)] at hc
          rcases ha with ha | rfl
          · exact h.oa c o hc ha
          · exact e1 rfl
        obtain ⟨g1, g2⟩ := h.step (a' := a) hrs hev hig (upd_ne _ _ (Nat.ne_of_lt (gS_lt_oS b2))) hoo hoa rfl
        exact ⟨_, A', sp, hK, g1, g2⟩
      · obtain ⟨vs, T, hh, hsz, hr⟩ := h.rs.loc b cs hb
        let A' : Area := fun c o => A c o ∨ (c = b ∧ o < cs.length)
        have hmono : ∀ {x : AV} {v : Value}, RV w A x v → RV w A' x v := fun hx => hx.mono (fun c o v ha hv => ⟨hv, .inl ha⟩) (.same fun _ _ ha => .inl ha)
        have hspb : ∀ r, (sp r).2.1 < (sp r).2.2 → (sp r).1 ≠ b := fun r hr' e => by
          have := (h.rs.spb r hr').2
          rw [e, hb] at this; cases this
        have hlive : ∀ c o, live (upd s.loc b none) sp c o → live s.loc sp c o := by
          rintro c o (hl | hl)
          · simp only [upd] at hl
            split at hl
            · exact absurd rfl hl
            · exact .inl hl
          · exact .inr hl
        have hrs : RS C.N ⟨upd s.env k (.ref (cs.map AV.erase0)), upd s.loc b none⟩ ⟨a.tmps, []⟩ w A' sp := by
          refine ⟨h.rs.size, rfl, fun d => ?_, fun c cs' hc => ?_, fun r hr' => ⟨(h.rs.spb r hr').1, ?_⟩, h.rs.spd, fun c o ha => ⟨?_, fun hl => ?_⟩⟩
          · show RV w A' (upd s.env k (AV.ref (cs.map AV.erase0)) d) (a.tmps.getD d undef) ∧ OwnOK sp (upd s.env k (AV.ref (cs.map AV.erase0)) d) (a.tmps.getD d undef)
            by_cases hd : d = k
            · subst hd
              rw [show upd s.env d (AV.ref (cs.map AV.erase0)) d = AV.ref (cs.map AV.erase0) from upd_same _ _ _]
              have g := (h.rs.env d).1
              rw [e1] at g
              generalize a.tmps.getD d undef = v0 at g
              cases g with
              | mref _ _ =>
                refine ⟨.ref _ b 0 (fun i => vs.getD i undef) (fun i hi => ?_) (fun i => ?_), trivial⟩
                · rw [List.length_map] at hi
                  refine ⟨?_, .inr ⟨rfl, by omega⟩⟩
                  rw [Nat.zero_add]
                  simp [World.cell?, hh, Array.getD_eq_getD_getElem?, Array.getElem?_eq_getElem (show i < vs.size by omega)]
                · rw [getD_erase0]; exact (hmono (hr i).1).erase0
            · rw [show upd s.env k (AV.ref (cs.map AV.erase0)) d = s.env d from upd_ne _ _ hd]
              exact ⟨hmono (h.rs.env d).1, (h.rs.env d).2⟩
          · simp only [upd] at hc
            split at hc
            · cases hc
            · obtain ⟨vs', T', g1, g2, g3⟩ := h.rs.loc c cs' hc
              exact ⟨vs', T', g1, g2, fun i => ⟨hmono (g3 i).1, (g3 i).2⟩⟩
          · simp only [upd]; rw [if_neg (hspb r hr')]; exact (h.rs.spb r hr').2
          · rcases ha with ha | ⟨rfl, _⟩
            · exact (h.rs.av c o ha).1
            · exact lt_of_heap hh
          · rcases ha with ha | ⟨rfl, ho⟩
            · exact (h.rs.av c o ha).2 (hlive c o hl)
            · rcases hl with hl | ⟨r, q1, q2, q3⟩
              · simp [upd] at hl
              · exact hspb r (by omega) q1
        have hev : Ev w A (live s.loc sp) w A' (live (upd s.loc b none) sp) := by
          refine ⟨rfl, rfl, rfl, Nat.le_refl _, fun c o _ hl => ⟨rfl, fun hh => hl (hlive c o hh)⟩, fun _ _ _ => rfl, fun _ _ ha => .inl ha, fun c o ha => ?_⟩
          rcases ha with ha | ⟨rfl, _⟩
          · exact .inl ha
          · exact .inr (.inl (.inl (by rw [hb]; exact fun e => by cases e)))
        obtain ⟨g1, g2⟩ := h.own (a' := a) hrs hev (fun q hq => upd_ne _ _ (by omega)) rfl
        exact ⟨_, A', sp, hK, g1, g2⟩
    · exact hv.elim
  · rename_i e1
    obtain ⟨sz, hK⟩ := hv
    have hrs : RS C.N ⟨upd s.env k (.slice sz [] 0), s.loc⟩ ⟨a.tmps, []⟩ w A sp := by
      refine ⟨h.rs.size, rfl, fun d => ?_, h.rs.loc, h.rs.spb, h.rs.spd, h.rs.av⟩
      show RV w A (upd s.env k (AV.slice sz [] 0) d) (a.tmps.getD d undef) ∧ OwnOK sp (upd s.env k (AV.slice sz [] 0) d) (a.tmps.getD d undef)
      by_cases hd : d = k
      · subst hd
        rw [show upd s.env d (AV.slice sz [] 0) d = AV.slice sz [] 0 from upd_same _ _ _]
        have g := (h.rs.env d).1
        rw [e1] at g
        generalize a.tmps.getD d undef = v0 at g
        cases g
        exact ⟨.nils _ _, trivial⟩
      · rw [show upd s.env k (AV.slice sz [] 0) d = s.env d from upd_ne _ _ hd]
        exact h.rs.env d
    obtain ⟨g1, g2⟩ := h.own (a' := a) hrs (.same fun _ _ h => h) (fun q hq => upd_ne _ _ (by omega)) rfl
    exact ⟨_, A, sp, hK, g1, g2⟩
  · exact hv.elim

theorem frzs_sound : ∀ (ks : List Nat) {s : St} {A : Area} {sp : Sp}, (∀ k ∈ ks, k < gS) → GS C Pt s a w A Lx sp → vcs P (ks.map .frz) K s → ∃ s' A' sp', K s' ∧ GS C Pt s' a w A' Lx sp' ∧ Ev w A (join (held s sp) Lx) w A' (join (held s' sp') Lx)
  | [], s, A, sp, _, h, hv => ⟨s, A, sp, hv, h, .refl _ _ _⟩
  | k :: ks, s, A, sp, hk, h, hv => by
    obtain ⟨s1, A1, sp1, g1, g2, g3⟩ := frz_sound (hk k (List.mem_cons_self ..)) h hv
    obtain ⟨s2, A2, sp2, g4, g5, g6⟩ := frzs_sound ks (fun q hq => hk q (List.mem_cons_of_mem _ hq)) g2 g1
    exact ⟨s2, A2, sp2, g4, g5, g3.trans g6⟩

theorem vcs_append (ys : List MOp) (K : St → Prop) : ∀ (xs : List MOp), vcs P (xs ++ ys) K = vcs P xs (vcs P ys K)
  | [] => rfl
  | x :: xs => by
    funext s
    show vc1 P x s (vcs P (xs ++ ys) K) = vc1 P x s (vcs P xs (vcs P ys K))
    rw [vcs_append ys K xs]
end

def fzs (ann : Ann) (N id : Nat) : List Nat := (look ann.fz id []).filter (· < N)
theorem fzs_lt {ann : Ann} {N id : Nat} (h : N ≤ gS) : ∀ k ∈ fzs ann N id, k < gS := fun k hk => by
  have := (List.mem_filter.1 hk).2
  exact Nat.lt_of_lt_of_le (by simpa using this) h

end Go.Avm
