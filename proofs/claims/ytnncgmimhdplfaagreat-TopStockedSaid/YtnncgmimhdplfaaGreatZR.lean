/- If each stock is a paper of a press, the stock of a gathering is among the papers that agree, and the true order is one of Orders: the law TopStocked returns true for any press, case, truth and way of making. -/
import Derived.Test.YtnncgmimhdplfaaGreatRows
import Derived.Test.YtnncgmimhdplfaaGreatZQ
import Derived.SizedLaws
import Derived.WalkKit
namespace Go.Proofs.YtnncgmimhdplfaaGreat
open Go.ChangeShapes Go.WideShapes Go.ChangeAt Go.RowKit
set_option linter.unusedVariables false
theorem adD:ownKnob Tryz.prog.godebug=none:=by kernel_rfl
set_option maxRecDepth 100000 in
theorem adE(os:Os)(started:os.Started)(H:Type)(enc:TypeId×Value→H):ReturnsInHanded {} Tryz.checked os 3 .any (Rows.topStockedSpec.pre6 enc Tryz.prog Tryz.f3 Rows.topStockedRow.domain false) (Rows.topStockedSpec.post enc Tryz.prog Tryz.f3 false true false false):=by
 refine returnsInHanded_of_change_sized (C:=Tryz.checked) adD started (by kernel_rfl) Tryz.func3 (ChangeSpec.witness6 (enc:=enc) (C:=Tryz.checked) false ⟨#[],#[.agg #[.slice none 0 0,.slice none 0 0,.int .i64 0,.int .i64 0],.agg #[.int .i64 0,.slice none 0 0,.slice none 0 0,.int .i64 0,.slice none 0 0],.agg #[.slice none 0 0,.slice none 0 0,.slice none 0 0,.slice none 0 0,.slice none 0 0,.slice none 0 0,.slice none 0 0,.int .u16 0,.int .u16 0]],[]⟩ 8 (by kernel_rfl) (by kernel_rfl) (by kernel_rfl) (by kernel_rfl)) ?_
 intro W base args ds gs before adF hW ad' adG _
 have hval:∀(j:Nat) t v,Tryz.f3.params[j]? =some t→args[j]? =some v→Value.okWide Tryz.prog W .any base t v:=adF
 have Cx:=hW
 obtain⟨p,q,hA0,hV,rfl,hfz,dZ⟩:=hW
 obtain⟨rfl,rfl⟩:=trodVars_none hV
 have qU:(DataW.weightsEach Tryz.prog (Tryz.f3.params.toList++[]) (ds++[])).all (· ≤reachBytes)=true:=adG
 have hA:DataW.TrodAll enc Tryz.prog W 0 (fun _=>true) true Tryz.f3.params.toList args.toList ds p:=hA0
 rw[Tryz.params3] at hA hval qU
 obtain⟨v1,vs1,d1,ds1,p1,q1,ea,rfl,rfl,h1,hA⟩:=trodAll_cons hA
 obtain⟨v2,j4,d2,ds2,p2,q2,rfl,rfl,rfl,h2,hA⟩:=trodAll_cons hA
 obtain⟨v3,vs3,d3,ds3,p3,q3,rfl,rfl,rfl,h3,hA⟩:=trodAll_cons hA
 obtain⟨rfl,rfl,rfl⟩:=trodAll_nil hA
 have hs:args.size=3:=by rw[←Array.length_toList,ea];rfl
 have ha1:args[0]? =some v1:=by rw[←Array.getElem?_toList,ea];rfl
 have om:args[1]? =some v2:=by rw[←Array.getElem?_toList,ea];rfl
 have PJ:args[2]? =some v3:=by rw[←Array.getElem?_toList,ea];rfl
 obtain⟨w1,qU⟩:=Go.aq.Cw qU
 obtain⟨w2,qU⟩:=Go.aq.Cw qU
 obtain⟨w3,qU⟩:=Go.aq.Cw qU
 obtain⟨x1,o1,r1⟩:=Go.aq.Cv (.inl ⟨_,Tryz.underlying25⟩) (hval 0 25 v1 rfl ha1) h1 w1 F.Zr
 obtain⟨x2,o2,r2⟩:=Go.aq.Cv (.inl ⟨_,Tryz.underlying30⟩) (hval 1 30 v2 rfl om) h2 w2 P.ade
 obtain⟨x3,o3,r3⟩:=Go.aq.Cv (.inl ⟨_,Tryz.underlying39⟩) (hval 2 39 v3 rfl PJ) h3 w3 adB
 refine(Go.aq.VN (adC x1 x2 x3 o1 o2 o3) hs (fun i=> ?_)).mono fun e W' ⟨he,hg⟩=> ?_
 ·rcases i with _|_|_|i
  ·rw[Array.getD_eq_getD_getElem?,ha1];exact r1
  ·rw[Array.getD_eq_getD_getElem?,om];exact r2
  ·rw[Array.getD_eq_getD_getElem?,PJ];exact r3
  ·simpa using .any _
 ·subst he
  exact⟨_,rfl,Go.aq.VM (by kernel_rfl) Tryz.underlying4 (by kernel_rfl) (fun t ht=>by
   rw[Tryz.params3] at ht
   simp at ht
   rcases ht with rfl|rfl|rfl
   ·exact⟨by kernel_rfl,of_decide_eq_true (by kernel_rfl)⟩
   ·exact⟨by kernel_rfl,of_decide_eq_true (by kernel_rfl)⟩
   ·exact⟨by kernel_rfl,of_decide_eq_true (by kernel_rfl)⟩) rfl ⟨rfl,rfl,rfl⟩ Cx hg⟩
theorem adH:Rows.topStockedRow.holds Tryz.pinned (OpenSpec.ofChange Rows.topStockedSpec):=
 OpenClaim.holds_of_wide 3 Tryz.f3 rfl rfl rfl rfl rfl rfl rfl ⟨rfl,rfl,rfl,rfl,rfl⟩ rfl rfl rfl rfl rfl (by kernel_rfl) Tryz.func3 (by kernel_rfl)
  (of_decide_eq_true (by kernel_rfl)) (by unfold Func.isWrapper;first|(rw[if_pos (by decide+kernel)];kernel_rfl)|(rw[if_neg (by decide+kernel)];exact⟨rfl,rfl⟩))
  (fun os started H enc _=>adE os started H enc)
theorem topStocked_holds:Rows.TopStockedSaid:=adH
#print axioms topStocked_holds
end Go.Proofs.YtnncgmimhdplfaaGreat
