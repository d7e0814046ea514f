/- What an operation leaves alone: the ghost. Operations inside a round, and beside deferred marks. -/
import Derived.Test.YtcfeipphmklakaaAvmD5
import Derived.RangeFuncNested
import Derived.OrdersIn
import Derived.TacticsIn
namespace Go.Avm
open Go.RowKit

/-- The ghost, or nothing. -/
def isG : AV → Bool
  | .any => true
  | .ghost .. => true
  | _ => false

theorem isG_dem {x : AV} (h : isG x = true) (r : Nat) : demote r x = x := by cases x <;> first | rfl | cases h
theorem isG_erase {x : AV} (h : isG x = true) : x.erase = x := by cases x <;> first | rfl | cases h

def noG : MOp → Bool
  | .cpy d _ | .cpyS d _ | .asg d _ | .asgNil d _ | .boxI d _ _ | .boxM d _ _ | .alloc d _ | .load d _ _ | .loadI d _ _ | .addr d _ _ | .idxS d _ _ _ | .idxA d _ _ _ _ | .fld d _ _ _
  | .idxV d _ _ _ _ _ | .idxStr d _ _ | .build d _ _ | .mkS d _ _ _ _ | .len d _ | .lenStr d _ | .lenK d _ | .app d _ _ _ _ | .bin d _ _ _ | .binB d _ _ _ | .binA d _ _ _ _
  | .not d _ | .neg d _ | .conv d _ _ | .pick d _ _ _ | .ext d _ _ | .maxI d _ _ | .minI d _ _ | .call d _ _ | .callv d _ _ | .mkfn d _ _ _ | .nilchk d _ | .slcHi d _ _ _ | .slcLo d _ _ _ | .cpyE d _
  | .mkM d _ _ _ _ _ | .cpyM d _ _ _ | .strLo d _ _ => decide (d < gS)
  | .store .. | .storeNil .. => true
  | .storeF k _ _ => decide (k < gS)
  | .apart _ _ m => noG m
  | .guard _ _ d m => (match d with | some d => decide (d < gS) | none => true) && noG m
  | .yld .. | .rngS .. | .nxtS .. | .mkMap .. | .mapUpd .. | .lookup .. | .frz _ => false

section
variable {P : Program} {s : St}

theorem set_g {d : Nat} {x : AV} (h : decide (d < gS) = true) (k : Nat) (hk : gS ≤ k) : (s.set d x).env k = s.env k := upd_ne _ _ (by intro e; have := of_decide_eq_true h; omega)
theorem dem_g {r : Nat} (h : ∀ k, gS ≤ k → isG (s.env k) = true) (k : Nat) (hk : gS ≤ k) : (s.dem r).env k = s.env k := isG_dem (h k hk) r
theorem dem2_g {r q : Nat} (h : ∀ k, gS ≤ k → isG (s.env k) = true) (k : Nat) (hk : gS ≤ k) : ((s.dem r).dem q).env k = s.env k := by
  rw [dem_g (fun k hk => by rw [dem_g h k hk]; exact h k hk) k hk, dem_g h k hk]
theorem asg_g {d : Nat} {x : AV} (hd : decide (d < gS) = true) (h : ∀ k, gS ≤ k → isG (s.env k) = true) (k : Nat) (hk : gS ≤ k) : (asgSt s d x).env k = s.env k := by
  unfold asgSt
  split
  · split
    · exact set_g hd k hk
    · rw [set_g hd k hk]; exact dem2_g h k hk
  · exact set_g hd k hk

theorem partK_imp {cs : List AV} {off : Nat} {n : Option Nat} {K K' : AV → Prop} (h : ∀ v, K v → K' v) (hv : partK cs off n K) : partK cs off n K' := by
  cases n with
  | none => exact ⟨hv.1, h _ hv.2⟩
  | some n => exact ⟨hv.1, h _ hv.2⟩
theorem loadK_imp {l : Loc} {x : AV} {n : Option Nat} {K K' : AV → Prop} (h : ∀ v, K v → K' v) (hv : loadK l x n K) : loadK l x n K' := by
  unfold loadK at hv ⊢
  split at hv
  · exact partK_imp (fun v => h _) hv
  · split at hv
    · exact partK_imp h hv
    · exact hv.elim
  · exact hv.elim
theorem binI_imp {op : BinOp} {k : IntKind} {a b : Int} {K K' : AV → Prop} (h : ∀ v, K v → K' v) (hv : binI op k a b K) : binI op k a b K' := by
  cases op <;> simp only [binI] at hv ⊢ <;> first | exact h _ hv | exact ⟨hv.1, h _ hv.2⟩ | exact ⟨hv.1, hv.2.1, h _ hv.2.2⟩ | exact hv.elim
theorem binS_imp {op : BinOp} {a b : ByteArray} {K K' : AV → Prop} (h : ∀ v, K v → K' v) (hv : binS op a b K) : binS op a b K' := by
  cases op <;> simp only [binS] at hv ⊢ <;> first | exact h _ hv | exact hv.elim
theorem shI_imp {op : BinOp} {k : IntKind} {a b : Int} {K K' : AV → Prop} (h : ∀ v, K v → K' v) (hv : shI op k a b K) : shI op k a b K' := by
  cases op <;> simp only [shI] at hv ⊢ <;> first | exact ⟨hv.1, h _ hv.2⟩ | exact hv.elim
theorem binK_imp {op : BinOp} {x y : AV} {K K' : AV → Prop} (h : ∀ v, K v → K' v) (hv : binK op x y K) : binK op x y K' := by
  unfold binK at hv ⊢
  split at hv
  · split at hv
    · exact shI_imp h hv
    · exact shI_imp h hv
    · exact ⟨hv.1, binI_imp h hv.2⟩
  · exact binS_imp h hv
  · exact hv.elim
theorem fillK_imp {e : Nat → AV} : ∀ {ps : List (Nat × Nat × MArg)} {cs : List AV} {K K' : List AV → Prop}, (∀ v, K v → K' v) → fillK e cs ps K → fillK e cs ps K'
  | [], _, _, _, h, hv => h _ hv
  | _ :: _, _, _, _, h, hv => ⟨hv.1, hv.2.1, fillK_imp h hv.2.2⟩
theorem fillS_imp {e : Nat → AV} {sz : Nat} : ∀ {ps : List (Nat × MArg)} {xs : List AV} {K K' : List AV → Prop}, (∀ v, K v → K' v) → fillS e sz xs ps K → fillS e sz xs ps K'
  | [], _, _, _, h, hv => h _ hv
  | _ :: _, _, _, _, h, hv => ⟨hv.1, hv.2.1, hv.2.2.1, fillS_imp h hv.2.2.2⟩

theorem vc1_keep : ∀ {m : MOp} {s : St} {K : St → Prop}, noG m = true → (∀ k, gS ≤ k → isG (s.env k) = true) → vc1 P m s K → vc1 P m s (fun s' => K s' ∧ ∀ k, gS ≤ k → s'.env k = s.env k) := by
  intro m
  induction m with
  | apart zs x m ih => intro s K hm hg h; exact ⟨h.1, ih hm hg h.2⟩
  | guard g want d m ih =>
    intro s K hm hg h
    simp only [noG, Bool.and_eq_true] at hm
    cases d with
    | none =>
      simp only [vc1] at h ⊢
      split at h
      · exact ⟨fun e => ih hm.2 hg (h.1 e), fun e => ⟨h.2 e, fun _ _ => by first | rfl | trivial⟩⟩
      · exact ⟨h, fun _ _ => by first | rfl | trivial⟩
      · exact h.elim
    | some d =>
      simp only [vc1] at h ⊢
      split at h
      · exact ⟨fun e => ih hm.2 hg (h.1 e), fun e => ⟨h.2 e, set_g hm.1⟩⟩
      · exact ⟨h, set_g hm.1⟩
      · exact h.elim
  | yld => intro s K hm; cases hm
  | rngS => intro s K hm; cases hm
  | nxtS => intro s K hm; cases hm
  | mkMap => intro s K hm; cases hm
  | mapUpd => intro s K hm; cases hm
  | lookup => intro s K hm; cases hm
  | frz => intro s K hm; cases hm
  | asg d x => intro s K hm hg h; exact ⟨h, asg_g hm hg⟩
  | asgNil d sz => intro s K hm hg h; exact ⟨h, fun k hk => by rw [set_g hm k hk]; exact dem_g hg k hk⟩
  | boxM d x n => intro s K hm hg h; exact ⟨h.1, fun b hb => ⟨h.2 b hb, set_g (s := s.new b _) hm⟩⟩
  | alloc d z => intro s K hm hg h; exact fun b hb => ⟨h b hb, set_g (s := s.new b _) hm⟩
  | load d x n => intro s K hm hg h; exact loadK_imp (fun v hv => ⟨hv, set_g hm⟩) h
  | loadI d x n =>
    intro s K hm hg h
    simp only [vc1] at h ⊢
    split at h
    · exact partK_imp (fun v hv => ⟨hv, set_g hm⟩) h
    · exact h.elim
  | store x y n oid =>
    intro s K hm hg h
    simp only [vc1, storeK] at h ⊢
    split at h
    · split at h
      · refine ⟨h.1, h.2.1, h.2.2.1, ?_⟩
        have h := h.2.2.2
        split at h
        · split at h
          · rename_i h0; rw [if_pos h0]; exact ⟨h, fun _ _ => by first | rfl | trivial⟩
          · rename_i h0; rw [if_neg h0]; exact ⟨h, dem2_g hg⟩
        · exact ⟨h, fun _ _ => by first | rfl | trivial⟩
      · exact h.elim
    · exact h.elim
  | storeNil x sz oid =>
    intro s K hm hg h
    simp only [vc1] at h ⊢
    split at h
    · split at h
      · exact ⟨h.1, h.2, dem_g hg⟩
      · exact h.elim
    · exact h.elim
  | storeF k y n =>
    intro s K hm hg h
    simp only [vc1] at h ⊢
    split at h
    · split at h
      · exact ⟨h.1, h.2.1, h.2.2.1, h.2.2.2, fun q hq => upd_ne _ _ (by intro e; have := of_decide_eq_true hm; omega)⟩
      · exact h.elim
    · exact h.elim
  | build d z ps => intro s K hm hg h; exact fillK_imp (fun v hv => ⟨hv, set_g hm⟩) h
  | mkS d n sz z ps => intro s K hm hg h; exact fillS_imp (fun v hv => ⟨hv, fun k hk => by rw [set_g hm k hk]; exact dem_g hg k hk⟩) h
  | app d x y sz b =>
    intro s K hm hg h
    simp only [vc1] at h ⊢
    split at h
    · exact ⟨h.1, h.2.1, h.2.2.1, h.2.2.2.1, h.2.2.2.2.1, h.2.2.2.2.2, fun k hk => by rw [set_g hm k hk]; exact dem2_g hg k hk⟩
    · exact h.elim
  | bin d op x y => intro s K hm hg h; exact binK_imp (fun v hv => ⟨hv, set_g hm⟩) h
  | fld d x off n =>
    intro s K hm hg h
    simp only [vc1] at h ⊢
    split at h
    · exact partK_imp (fun v hv => ⟨hv, set_g hm⟩) h
    · exact h.elim
  | idxV d x i len sz n =>
    intro s K hm hg h
    simp only [vc1] at h ⊢
    split at h
    · exact ⟨h.1, h.2.1, partK_imp (fun v hv => ⟨hv, set_g hm⟩) h.2.2⟩
    · exact h.elim
  | binA d neg n x y =>
    intro s K hm hg h
    simp only [vc1] at h ⊢
    split at h
    · obtain ⟨h1, h2, q, hq, hk⟩ := h
      exact ⟨h1, h2, q, hq, hk, set_g hm⟩
    · exact h.elim
  | mkM d n c sz bytes zero =>
    intro s K hm hg h
    simp only [vc1] at h ⊢
    split at h
    · exact ⟨h.1, h.2.1, h.2.2.1, h.2.2.2.1, h.2.2.2.2.1, fun b hb => ⟨h.2.2.2.2.2 b hb, set_g (s := s.new b _) hm⟩⟩
    · exact h.elim
  | cpyM d x y sz =>
    intro s K hm hg h
    simp only [vc1] at h ⊢
    split at h
    · split at h
      · exact ⟨h.1, h.2.1, h.2.2.1, h.2.2.2, set_g (s := s.new _ _) hm⟩
      · exact h.elim
    · exact h.elim
  | call d f xs => intro s K hm hg h; obtain ⟨r, h1, h2⟩ := h; exact ⟨r, h1, h2, set_g hm⟩
  | callv d x xs =>
    intro s K hm hg h
    simp only [vc1] at h ⊢
    split at h
    · obtain ⟨r, h1, h2⟩ := h; exact ⟨r, h1, h2, set_g hm⟩
    · exact h.elim
  | _ =>
    intro s K hm hg h
    simp only [vc1] at h ⊢
    first
      | exact ⟨h, set_g hm⟩
      | exact ⟨h.1, h.2, set_g hm⟩
      | (split at h <;> first | exact ⟨h, set_g hm⟩ | exact ⟨h.1, h.2, set_g hm⟩ | exact ⟨h.1, h.2.1, h.2.2, set_g hm⟩ | exact ⟨h.1, h.2.1, h.2.2.1, h.2.2.2, set_g hm⟩ | exact h.elim)
end

abbrev Fw (ro : Option Nat) : Fence := { Fence.wide with round := ro }

theorem callsIn_fw {ro : Option Nat} {n : Nat} {P : Program} {f : FuncId} {args : Array Value} {w : World} {R : Ending → World → Prop} (h : Calls P f args w R) : CallsIn (Fw ro) n P f args w R :=
  (callsIn_wide (n := n)).2 h

theorem calls_fw {ro : Option Nat} {n : Nat} {P : Program} {f : FuncId} {args : Array Value} {w : World} {R : Ending → World → Prop} (h : CallsIn (Fw ro) n P f args w R) : Calls P f args w R :=
  (callsIn_wide (n := n)).1 h

def NQ (K : Act → World → Prop) : Exit → Act → World → Prop
  | .normal, a, w => K a w
  | _, _, _ => False

def Lift (ds : List Deferred) (K : Act → World → Prop) : Act → World → Prop := fun a w => a.defers = ds ∧ K ⟨a.tmps, []⟩ w

theorem put_tmps (t : Array Value) (d1 d2 : List Deferred) (d : Option Tmp) (v : Value) : ((⟨t, d1⟩ : Act).put d v).tmps = ((⟨t, d2⟩ : Act).put d v).tmps ∧ ((⟨t, d1⟩ : Act).put d v).defers = d1 := by
  cases d <;> exact ⟨rfl, rfl⟩

theorem put_lift {t : Array Value} {ds : List Deferred} {d : Option Tmp} {v : Value} {w : World} {next : Act → World → Prop} (h : next ((⟨t, []⟩ : Act).put d v) w) : Lift ds next ((⟨t, ds⟩ : Act).put d v) w := by
  cases d <;> exact ⟨rfl, h⟩

/-- An operation that is no defer, inside a round, and beside deferred calls. -/
theorem oper_in {P : Program} {o : Oper} {t : Array Value} {ds : List Deferred} {w : World} {next : Act → World → Prop} {K : Act → World → Prop} {Q' : Exit → Act → World → Prop} {ro : Option Nat} {n : Nat}
    (hnd : ∀ c, o.op ≠ .defer c) (hd : ∀ a w, next a w → a.defers = []) (h : o.wp P ⟨t, []⟩ w next (NQ K)) : o.wpIn (Fw ro) n P ⟨t, ds⟩ w (Lift ds next) Q' := by
  refine ⟨fun _ _ => trivial, ?_⟩
  rw [Oper.semAt_eq _ _ _ hnd]
  unfold Oper.wp at h
  have he : (⟨t, ds⟩ : Act).eval = (⟨t, []⟩ : Act).eval := rfl
  rw [he]
  generalize (execOp (⟨t, []⟩ : Act).eval o).run P w = r at h ⊢
  cases r with
  | ok x w' =>
    cases x with
    | value v => exact put_lift h
    | skip => exact put_lift h
    | defer d =>
      have := hd _ _ h
      rw [(put_tmps t [d] [] o.dst undef).2] at this
      cases this
    | enter f args =>
      refine ⟨fun e => (by cases e), callsIn_fw (Calls.mono h fun e w'' he => ?_)⟩
      cases e with
      | returned v => exact put_lift he
      | panicked c => exact he.elim
      | outgrown => obtain ⟨_, _, he⟩ := he; exact he.elim
    | row row args => 
      refine ⟨fun e => (by cases e), fun c cs _ => ?_⟩
      obtain ⟨v, w2, h1, h2⟩ := h c cs
      exact ⟨v, w2, put_lift h1, stepsIn_wide.2 h2⟩
    | _ => exact h.elim
  | halt x w' => cases x <;> exact h.elim

end Go.Avm
