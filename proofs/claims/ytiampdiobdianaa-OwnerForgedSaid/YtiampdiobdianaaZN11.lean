/- Forged names the fewest marks: the law OwnerForged returns true for any case, chain and marks. -/
import Derived.Test.YtiampdiobdianaaRows
import Derived.Test.YtiampdiobdianaaZM11
import Derived.Test.YtiampdiobdianaaZK
import Derived.SizedLaws
import Derived.WalkKit
namespace Go.Proofs.Ytiampdiobdianaa
open Go.ChangeShapes Go.WideShapes Go.ChangeAt Go.RowKit
set_option linter.unusedVariables false

theorem ownerForged_own : ownKnob Try.prog.godebug = none := by kernel_rfl

set_option maxRecDepth 100000 in
theorem ownerForged_lifted (os : Os) (started : os.Started) (H : Type) (enc : TypeId × Value → H) :
    ReturnsInHanded {} Try.checked os 11 .any (Rows.ownerForgedSpec.pre6 enc Try.prog Try.f11 Rows.ownerForgedRow.domain false) (Rows.ownerForgedSpec.post enc Try.prog Try.f11 false true false false) := by
  refine returnsInHanded_of_change_sized (C := Try.checked) ownerForged_own started (by kernel_rfl) Try.func11
    (ChangeSpec.witness6 (enc := enc) (C := Try.checked) false ⟨#[], #[.agg #[.int .i64 0, .int .i64 0, .slice none 0 0, .slice none 0 0, .slice none 0 0], .agg #[.slice none 0 0, .slice none 0 0, .slice none 0 0, .slice none 0 0], .int .u8 0], []⟩ 8 (by kernel_rfl) (by kernel_rfl) (by kernel_rfl) (by kernel_rfl)) ?_
  intro W base args ds gs before hval0 hW hcnd hwt0 _
  have hval : ∀ (j : Nat) t v, Try.f11.params[j]? = some t → args[j]? = some v → Value.okWide Try.prog W .any base t v := hval0
  have hW' := hW
  obtain ⟨p, q, hA0, hV, rfl, hfz, hnd⟩ := hW
  obtain ⟨rfl, rfl⟩ := trodVars_none hV
  have hwt : (DataW.weightsEach Try.prog (Try.f11.params.toList ++ []) (ds ++ [])).all (· ≤ reachBytes) = true := hwt0
  have hA : DataW.TrodAll enc Try.prog W 0 (fun _ => true) true Try.f11.params.toList args.toList ds p := hA0
  rw [Try.params11] at hA hval hwt
  obtain ⟨v1, vs1, d1, ds1, p1, q1, ea, rfl, rfl, h1, hA⟩ := trodAll_cons hA
  obtain ⟨v2, vs2, d2, ds2, p2, q2, rfl, rfl, rfl, h2, hA⟩ := trodAll_cons hA
  obtain ⟨v3, vs3, d3, ds3, p3, q3, rfl, rfl, rfl, h3, hA⟩ := trodAll_cons hA
  obtain ⟨rfl, rfl, rfl⟩ := trodAll_nil hA
  have hs : args.size = 3 := by rw [← Array.length_toList, ea]; rfl
  have ha1 : args[0]? = some v1 := by rw [← Array.getElem?_toList, ea]; rfl
  have ha2 : args[1]? = some v2 := by rw [← Array.getElem?_toList, ea]; rfl
  have ha3 : args[2]? = some v3 := by rw [← Array.getElem?_toList, ea]; rfl
  obtain ⟨w1, hwt⟩ := Go.Avm.mem_weightsEach_head hwt
  obtain ⟨w2, hwt⟩ := Go.Avm.mem_weightsEach_head hwt
  obtain ⟨w3, hwt⟩ := Go.Avm.mem_weightsEach_head hwt
  obtain ⟨x1, o1, r1⟩ := Go.Avm.arg_agg (.inl ⟨_, Try.underlying26⟩) (hval 0 26 v1 rfl ha1) h1 w1 rdCase
  obtain ⟨x2, o2, r2⟩ := Go.Avm.arg_agg (.inl ⟨_, Try.underlying71⟩) (hval 1 71 v2 rfl ha2) h2 w2 rdPast
  obtain ⟨x3, o3, r3⟩ := Go.Avm.arg_one (.inr (.inl ⟨_, Try.underlying5⟩)) (hval 2 5 v3 rfl ha3) h3 w3 rdV (fun _ => rfl)
  refine (Go.Avm.calls_of_pcall (ownerForged_ok x1 x2 x3 o1 o2 o3) hs (fun i => ?_)).mono fun e W' ⟨he, hg⟩ => ?_
  · rcases i with _ | _ | _ | i
    · rw [Array.getD_eq_getD_getElem?, ha1]; exact r1
    · rw [Array.getD_eq_getD_getElem?, ha2]; exact r2
    · rw [Array.getD_eq_getD_getElem?, ha3]; exact r3
    · simpa using .any _
  · subst he
    exact ⟨_, rfl, Go.Avm.post_true (by kernel_rfl) Try.underlying4 (by kernel_rfl) (fun t ht => by
      rw [Try.params11] at ht
      simp at ht
      rcases ht with rfl | rfl | rfl
      · exact ⟨by kernel_rfl, of_decide_eq_true (by kernel_rfl)⟩
      · exact ⟨by kernel_rfl, of_decide_eq_true (by kernel_rfl)⟩
      · exact ⟨by kernel_rfl, of_decide_eq_true (by kernel_rfl)⟩) rfl ⟨rfl, rfl, rfl⟩ hW' hg⟩

theorem ownerForged_over : Rows.ownerForgedRow.holds Try.pinned (OpenSpec.ofChange Rows.ownerForgedSpec) :=
  OpenClaim.holds_of_wide 11 Try.f11 rfl rfl rfl rfl rfl rfl rfl ⟨rfl, rfl, rfl, rfl, rfl⟩ rfl rfl rfl rfl rfl (by kernel_rfl) Try.func11 (by kernel_rfl)
    (of_decide_eq_true (by kernel_rfl)) (by unfold Func.isWrapper; first | (rw [if_pos (by decide +kernel)]; kernel_rfl) | (rw [if_neg (by decide +kernel)]; exact ⟨rfl, rfl⟩))
    (fun os started H enc _ => ownerForged_lifted os started H enc)

theorem ownerForged_holds : Rows.OwnerForgedSaid := ownerForged_over
#print axioms ownerForged_holds
end Go.Proofs.Ytiampdiobdianaa
