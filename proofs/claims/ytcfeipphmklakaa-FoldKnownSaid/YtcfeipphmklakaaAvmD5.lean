/- A region that draws its order: its rule. -/
import Derived.Test.YtcfeipphmklakaaAvmD4
namespace Go.Avm
open Go.RowKit

def isNilC : Operand → Bool
  | .const (.slice none 0 0) => true
  | _ => false

def trD (P : Program) (ann : Ann) (N : Nat) (ops : Array Oper) (o : Oper) : Option MOp :=
  match o.guard, o.dst, o.op with
  | none, some d, .assign x => if isNilC x || ann.own.contains d then trG P ann N ops o else if d < N then (argOf x).map (.cpyE d ·) else none
  | none, some d, .load _ _ => match trG P ann N ops o with
    | some (.load d' x n) => if ann.imm.contains d then some (.loadI d' x n) else some (.load d' x n)
    | m => m
  | none, none, .store _ (.tmp k) _ => match trG P ann N ops o with
    | some (.store x y n oid) => some (.apart (look ann.ap k []) x (.store x y n oid))
    | m => m
  | _, _, _ => trG P ann N ops o

section
variable {P : Program} {N : Nat} {s : St} {a : Act} {w : World} {A : Area} {sp : Sp} {K : St → Prop} {Q : Exit → Act → World → Prop} {o : Oper}

theorem stepD_sound {ann : Ann} {ops : Array Oper} {m : MOp} {rest : Act → World → Prop} (hm : trD P ann N ops o = some m) (h : RS N s a w A sp) (hv : vc1 P m s K) (hn : Next s w A sp N K rest) :
    (if Region.wanted o (yielded ops a.tmps) = true then o.wp P a w rest Q ∨ (o.asks P a w ∧ LetsOut Q) else rest (a.put o.dst undef) w) := by
  unfold trD at hm
  split at hm
  · rename_i d x hg hd hop
    split at hm
    · exact step_sound hm h hv hn
    · split at hm
      · rename_i hN
        simp only [Option.map_eq_some_iff] at hm
        obtain ⟨y, hy, rfl⟩ := hm
        have hw : Region.wanted o (yielded ops a.tmps) = true := by simp [Region.wanted, hg]
        rw [if_pos hw]
        exact .inl (fin h hd hN (by simp [execOp, hop]) (argOf_sound h hy).1.erase .erase hv hn)
      · cases hm
  · split at hm
    · rename_i d' x n hm'
      split at hm
      · injection hm with hm; subst hm
        refine step_sound hm' h ?_ hn
        simp only [vc1] at hv ⊢
        split at hv
        · rename_i e1; rw [e1]; exact hv
        · exact hv.elim
      · injection hm with hm; subst hm
        exact step_sound hm' h hv hn
    · exact step_sound hm h hv hn
  · split at hm
    · rename_i hm'
      injection hm with hm; subst hm
      exact step_sound hm' h hv.2 hn
    · exact step_sound hm h hv hn
  · exact step_sound hm h hv hn
end

def fwdB (ops : Array Oper) : Bool := (List.range ops.size).all fun i => match ops[i]? with
  | some o => o.after.all fun e => !Region.binds .any e || decide (e.on < i)
  | none => true

def trEach (P : Program) (ann : Ann) (N : Nat) (ops : Array Oper) : List Nat → Option (List (Nat × MOp))
  | [] => some []
  | i :: is => match ops[i]? with
    | some o => match trD P ann N ops o, trEach P ann N ops is with
      | some m, some l => some ((i, m) :: l)
      | _, _ => none
    | none => none

def nodupB : List Nat → Bool
  | [] => true
  | x :: xs => !xs.contains x && nodupB xs

theorem nodupB_spec : ∀ (l : List Nat), nodupB l = true → l.Nodup
  | [], _ => List.nodup_nil
  | x :: xs, h => by
    simp only [nodupB, Bool.and_eq_true, Bool.not_eq_true'] at h
    exact List.nodup_cons.2 ⟨by simpa using h.1, nodupB_spec xs h.2⟩

def trDraw (P : Program) (ann : Ann) (N : Nat) (id : Nat) (ops : Array Oper) : Option (List MOp) :=
  let ord := look ann.ord id []
  match trEach P ann N ops ord with
  | some l => if P.follows .mixedOrders && fwdB ops && decide (ord.length = ops.size) && nodupB ord && ((List.range ops.size).all fun i => ord.contains i) && orderOK (Region.before ops) l then some (l.map (·.2)) else none
  | none => none

theorem trEach_spec {P : Program} {ann : Ann} {N : Nat} {ops : Array Oper} : ∀ (is : List Nat) (l : List (Nat × MOp)), trEach P ann N ops is = some l → l.map (·.1) = is ∧ ∀ p ∈ l, ∃ o, ops[p.1]? = some o ∧ trD P ann N ops o = some p.2
  | [], l, h => by injection h with h; subst h; exact ⟨rfl, by simp⟩
  | i :: is, l, h => by
    simp only [trEach] at h
    split at h
    · rename_i o ho
      split at h
      · rename_i m l' hm hl
        injection h with h; subst h
        obtain ⟨h1, h2⟩ := trEach_spec is l' hl
        refine ⟨by simp [h1], fun p hp => ?_⟩
        rcases List.mem_cons.1 hp with rfl | hp
        · exact ⟨o, ho, hm⟩
        · exact h2 p hp
      · cases h
    · cases h

theorem orderOK_drop {bs : Array Nat} {x : Nat × MOp} {post : List (Nat × MOp)} : ∀ (pre : List (Nat × MOp)), orderOK bs (pre ++ x :: post) = true → orderOK bs (pre ++ post) = true ∧ ∀ y ∈ pre, ((bs.getD x.1 0).testBit y.1 || commB y.2 x.2) = true
  | [], h => by
    simp only [List.nil_append, orderOK, Bool.and_eq_true] at h
    exact ⟨h.2, by simp⟩
  | (y, my) :: pre, h => by
    simp only [List.cons_append, orderOK, Bool.and_eq_true] at h
    obtain ⟨h1, h2⟩ := orderOK_drop pre h.2
    refine ⟨?_, fun z hz => ?_⟩
    · simp only [List.cons_append, orderOK, Bool.and_eq_true]
      refine ⟨List.all_eq_true.2 fun p hp => (List.all_eq_true.1 h.1) p ?_, h1⟩
      rcases List.mem_append.1 hp with hp | hp
      · exact List.mem_append_left _ hp
      · exact List.mem_append_right _ (List.mem_cons_of_mem _ hp)
    · rcases List.mem_cons.1 hz with rfl | hz
      · exact (List.all_eq_true.1 h.1) x (List.mem_append_right _ (List.mem_cons_self ..))
      · exact h2 z hz

theorem game {P : Program} {ann : Ann} {N : Nat} {ops : Array Oper} {K : St → Prop} {Q : Exit → Act → World → Prop} (hfwd : fwdB ops = true) : ∀ (n : Nat) (rem : List (Nat × MOp)) (listed : Array Bool) (s : St) (a : Act) (w : World) (A : Area) (sp : Sp),
    rem.length = n → listed.size = ops.size → (rem.map (·.1)).Nodup → (∀ i, i < ops.size → (listed.getD i true = false ↔ i ∈ rem.map (·.1))) →
    (∀ p ∈ rem, ∃ o, ops[p.1]? = some o ∧ trD P ann N ops o = some p.2) → orderOK (Region.before ops) rem = true →
    (∀ i o, listed.getD i true = true → i < ops.size → ops[i]? = some o → o.after.all (fun e => !Region.binds .any e || listed.getD e.on false) = true) →
    RS N s a w A sp → vcs P (rem.map (·.2)) K s → (∀ s' a' w' A' sp', K s' → RS N s' a' w' A' sp' → Ev w A (live s.loc sp) w' A' (live s'.loc sp') → Q .normal a' w') →
    wpAny P .any ops Q n listed a w := by
  intro n
  induction n with
  | zero =>
    intro rem listed s a w A sp hlen hls hnd hin htr hord hcl h hv hn
    have hrem : rem = [] := List.eq_nil_of_length_eq_zero hlen
    subst hrem
    refine ⟨?_, hn _ _ _ _ _ hv h (.refl _ _ _)⟩
    rw [Region.ready, List.filter_eq_nil_iff]
    intro i hi
    have hi' : i < ops.size := by simpa using hi
    have := (hin i hi')
    simp only [List.map_nil, List.not_mem_nil, iff_false, Bool.not_eq_false] at this
    simp [this]
  | succ n ih =>
    intro rem listed s a w A sp hlen hls hnd hin htr hord hcl h hv hn
    have hmem : ∀ i, i ∈ Region.ready .any ops listed → i < ops.size ∧ listed.getD i true = false ∧ ∃ o, ops[i]? = some o ∧ o.after.all (fun e => !Region.binds .any e || listed.getD e.on false) = true := by
      intro i hi
      rw [Region.ready, List.mem_filter] at hi
      obtain ⟨h1, h2⟩ := hi
      have h1 : i < ops.size := by simpa using h1
      simp only [Bool.and_eq_true, Bool.not_eq_true'] at h2
      refine ⟨h1, h2.1, ops[i], Array.getElem?_eq_getElem h1, ?_⟩
      have := h2.2
      rw [Array.getElem?_eq_getElem h1] at this
      exact this
    refine ⟨fun hnil => ?_, fun i hi => ?_⟩
    · -- something is always ready
      exfalso
      have hne : rem.map (·.1) ≠ [] := by
        intro e
        have : rem.length = 0 := by simpa using congrArg List.length e
        omega
      -- the least that remains
      have hex : ∃ i, i ∈ rem.map (·.1) ∧ ∀ j, j ∈ rem.map (·.1) → i ≤ j := by
        generalize rem.map (·.1) = l at hne
        induction l with
        | nil => exact absurd rfl hne
        | cons x l ihl =>
          by_cases hl : l = []
          · subst hl; exact ⟨x, by simp, by simp⟩
          · obtain ⟨i, h1, h2⟩ := ihl hl
            by_cases hx : x ≤ i
            · exact ⟨x, by simp, fun j hj => by rcases List.mem_cons.1 hj with rfl | hj; exact Nat.le_refl _; exact Nat.le_trans hx (h2 j hj)⟩
            · exact ⟨i, by simp [h1], fun j hj => by rcases List.mem_cons.1 hj with rfl | hj; omega; exact h2 j hj⟩
      obtain ⟨i, hi1, hi2⟩ := hex
      obtain ⟨p, hp, rfl⟩ := List.mem_map.1 hi1
      obtain ⟨o, ho, _⟩ := htr p hp
      have hlt := (Array.getElem?_eq_some_iff.1 ho).1
      have hready : p.1 ∈ Region.ready .any ops listed := by
        rw [Region.ready, List.mem_filter]
        refine ⟨by simpa using hlt, ?_⟩
        have hl : listed.getD p.1 true = false := (hin _ hlt).2 hi1
        simp only [hl, Bool.not_false, Bool.true_and, ho, Option.map_some, Option.getD_some]
        refine Array.all_eq_true_iff_forall_mem.2 fun e he => ?_
        cases hb : Region.binds .any e
        · rfl
        · have hf := (List.all_eq_true.1 hfwd) p.1 (by simpa using hlt)
          rw [ho] at hf
          have hf := (Array.all_eq_true_iff_forall_mem.1 hf) e he
          simp only [hb, Bool.not_true, Bool.false_or, decide_eq_true_eq] at hf
          have hnot : e.on ∉ rem.map (·.1) := fun hm => by have := hi2 _ hm; omega
          have hlo : e.on < ops.size := by omega
          have := mt (hin e.on hlo).1 hnot
          rw [Bool.not_eq_false] at this
          rw [Array.getD_eq_getD_getElem?, Array.getElem?_eq_getElem (by omega)] at this
          simp only [Bool.not_true, Bool.false_or]
          rw [Array.getD_eq_getD_getElem?, Array.getElem?_eq_getElem (by omega)]
          exact this
      rw [hnil] at hready
      cases hready
    · obtain ⟨hlt, hnl, o, ho, hall⟩ := hmem i hi
      have hir : i ∈ rem.map (·.1) := (hin i hlt).1 hnl
      obtain ⟨p, hp, rfl⟩ := List.mem_map.1 hir
      obtain ⟨pre, post, rfl⟩ := List.append_of_mem hp
      obtain ⟨ho1, ho2⟩ := orderOK_drop pre hord
      obtain ⟨o', ho', htr'⟩ := htr p hp
      rw [ho] at ho'; injection ho' with ho'; subst ho'
      have hcomm : ∀ y ∈ pre.map (·.2), commB y p.2 = true := by
        intro y hy
        obtain ⟨q, hq, rfl⟩ := List.mem_map.1 hy
        have := ho2 q hq
        cases hw : ((Region.before ops).getD p.1 0).testBit q.1
        · rw [hw, Bool.false_or] at this; exact this
        · exfalso
          have h1 := ready_waits hcl hls (before_reach ops _ _ hw) o ho hall
          obtain ⟨oq, hoq, _⟩ := htr q (List.mem_append_left _ hq)
          have hqlt := (Array.getElem?_eq_some_iff.1 hoq).1
          have h2 := (hin q.1 hqlt).2 (List.mem_map.2 ⟨q, List.mem_append_left _ hq, rfl⟩)
          rw [Array.getD_eq_getD_getElem?, Array.getElem?_eq_getElem (by omega)] at h1 h2
          rw [Option.getD_some] at h1 h2
          rw [h1] at h2; cases h2
      rw [List.map_append, List.map_cons] at hv
      have hv2 := move_front (pre.map (·.2)) hcomm s hv
      rw [← List.map_append] at hv2
      unfold wpOp
      simp only [ho]
      refine stepD_sound htr' h hv2 fun s' a' w' A' sp' hk hr hev => ?_
      have hset : ∀ j, j < ops.size → (listed.setIfInBounds p.1 true).getD j true = if j = p.1 then true else listed.getD j true := by
        intro j hj
        simp only [Array.getD_eq_getD_getElem?]
        by_cases e : j = p.1
        · subst e; rw [Array.getElem?_setIfInBounds_self_of_lt (by omega)]; simp
        · rw [Array.getElem?_setIfInBounds_ne (Ne.symm e), if_neg e]
      refine ih (pre ++ post) (listed.setIfInBounds p.1 true) s' a' w' A' sp' (by simp at hlen ⊢; omega) (by simpa using hls) ?_ (fun j hj => ?_) (fun q hq => htr q ?_) ho1 (fun j oj hj hjlt hoj => ?_) hr hk (fun s2 a2 w2 A2 sp2 hk2 hr2 hev2 => hn s2 a2 w2 A2 sp2 hk2 hr2 (hev.trans hev2))
      · rw [List.map_append, List.map_cons] at hnd
        rw [List.map_append]
        exact hnd.sublist (List.Sublist.append_left (List.sublist_cons_self _ _) _)
      · rw [hset j hj]
        rw [List.map_append, List.map_cons] at hnd hin
        rw [List.map_append]
        by_cases e : j = p.1
        · subst e
          simp only [if_true, Bool.true_eq_false, false_iff, List.mem_append, not_or]
          have := List.nodup_append.1 hnd
          refine ⟨fun hm => (this.2.2 _ hm _ (List.mem_cons_self ..)) rfl, fun hm => ?_⟩
          exact (List.nodup_cons.1 this.2.1).1 hm
        · rw [if_neg e, hin j hj]
          simp only [List.mem_append, List.mem_cons, e, false_or]
      · rcases List.mem_append.1 hq with hq | hq
        · exact List.mem_append_left _ hq
        · exact List.mem_append_right _ (List.mem_cons_of_mem _ hq)
      · have hmon : ∀ k, listed.getD k false = true → (listed.setIfInBounds p.1 true).getD k false = true := by
          intro k hk
          simp only [Array.getD_eq_getD_getElem?] at hk ⊢
          by_cases e : k = p.1
          · subst e; rw [Array.getElem?_setIfInBounds_self_of_lt (by omega)]; rfl
          · rw [Array.getElem?_setIfInBounds_ne (Ne.symm e)]; exact hk
        have hprev : oj.after.all (fun e => !Region.binds .any e || listed.getD e.on false) = true := by
          rw [hset j hjlt] at hj
          by_cases e : j = p.1
          · subst e; rw [ho] at hoj; injection hoj with hoj; subst hoj; exact hall
          · rw [if_neg e] at hj; exact hcl j oj hj hjlt hoj
        refine Array.all_eq_true_iff_forall_mem.2 fun e he => ?_
        have := (Array.all_eq_true_iff_forall_mem.1 hprev) e he
        cases hb : Region.binds .any e
        · rfl
        · simp only [hb, Bool.not_true, Bool.false_or] at this ⊢
          exact hmon _ this

theorem draw_sound {P : Program} {ann : Ann} {N id : Nat} {ops : Array Oper} {ms : List MOp} {K : St → Prop} {Q : Exit → Act → World → Prop} {s : St} {a : Act} {w : World} {A : Area} {sp : Sp}
    (hm : trDraw P ann N id ops = some ms) (h : RS N s a w A sp) (hv : vcs P ms K s) (hn : ∀ s' a' w' A' sp', K s' → RS N s' a' w' A' sp' → Ev w A (live s.loc sp) w' A' (live s'.loc sp') → Q .normal a' w') :
    (Code.region id ops true).wp P Q a w := by
  unfold trDraw at hm
  simp only at hm
  split at hm
  · rename_i l hl
    split at hm
    · rename_i hc
      injection hm with hm; subst hm
      simp only [Bool.and_eq_true, decide_eq_true_eq] at hc
      obtain ⟨⟨⟨⟨⟨hfol, hfwd⟩, hlen⟩, hnodup⟩, hall⟩, hord⟩ := hc
      obtain ⟨h1, h2⟩ := trEach_spec _ l hl
      have hlen' : l.length = ops.size := by rw [← hlen, ← h1]; simp
      have hin : ∀ i, i < ops.size → i ∈ l.map (·.1) := by
        intro i hi
        have := (List.all_eq_true.1 hall) i (by simpa using hi)
        rw [h1]; simpa using this
      refine wp_region_any hfol ?_
      have hnd : (l.map (·.1)).Nodup := by rw [h1]; exact nodupB_spec _ hnodup
      have hr0 : (Array.replicate ops.size false).size = ops.size := by simp
      rw [← hlen']
      rw [hlen']
      refine game hfwd ops.size l (Array.replicate ops.size false) s a _ A sp hlen' hr0 hnd (fun i hi => ⟨fun _ => hin i hi, fun _ => by simp [Array.getD_eq_getD_getElem?, hi]⟩) h2 hord (fun i o hi hlt _ => ?_) h.drew hv (fun s' a' w' A' sp' hk hr hev => hn s' a' w' A' sp' hk hr ((Ev.drew _).trans hev))
      simp [Array.getD_eq_getD_getElem?, hlt] at hi
    · cases hm
  · cases hm

end Go.Avm
