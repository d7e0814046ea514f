/- If a copy was a lot of a sale in some year, its buyer is the same, whoever was in a ring, and has it from this year in the chain of owners: the law TopSold returns true for any sale, case, lot, owner, year and ring. -/
import Derived.Test.YtpeikknjbnnnnaaGreatRows
import Derived.Test.YtpeikknjbnnnnaaGreatZI
import Derived.SizedLaws
import Derived.WalkKit
namespace Go.Proofs.YtpeikknjbnnnnaaGreat
open Go.ChangeShapes Go.WideShapes Go.ChangeAt Go.RowKit
set_option linter.unusedVariables false
theorem Xc:ownKnob Tryz.prog.godebug=none:=by kernel_rfl
set_option maxRecDepth 100000 in
theorem Xd(os:Os)(started:os.Started)(H:Type)(enc:TypeId×Value→H):ReturnsInHanded {} Tryz.checked os 3 .any (Rows.topSoldSpec.pre6 enc Tryz.prog Tryz.f3 Rows.topSoldRow.domain false) (Rows.topSoldSpec.post enc Tryz.prog Tryz.f3 false true false false):=by
 refine returnsInHanded_of_change_sized (C:=Tryz.checked) Xc started (by kernel_rfl) Tryz.func3 (ChangeSpec.witness6 (enc:=enc) (C:=Tryz.checked) false ⟨#[],#[.agg #[.slice none 0 0,.int .i64 0,.int .i64 0,.int .i64 0,.slice none 0 0,.slice none 0 0,.slice none 0 0,.slice none 0 0],.agg #[.int .i64 0,.int .i64 0,.slice none 0 0,.slice none 0 0,.slice none 0 0],.agg #[.int .u16 0,.int .u16 0,.int .u16 0,.int .u16 0]],[]⟩ 8 (by kernel_rfl) (by kernel_rfl) (by kernel_rfl) (by kernel_rfl)) ?_
 intro W base args ds gs before Xe hW Yh Xf _
 have hval:∀(j:Nat) t v,Tryz.f3.params[j]? =some t→args[j]? =some v→Value.okWide Tryz.prog W .any base t v:=Xe
 have Ah:=hW
 obtain⟨p,q,Xg,hV,rfl,hfz,YG⟩:=hW
 obtain⟨rfl,rfl⟩:=trodVars_none hV
 have qh:(DataW.weightsEach Tryz.prog (Tryz.f3.params.toList++[]) (ds++[])).all (· ≤reachBytes)=true:=Xf
 have hA:DataW.TrodAll enc Tryz.prog W 0 (fun _=>true) true Tryz.f3.params.toList args.toList ds p:=Xg
 rw[Tryz.params3] at hA hval qh
 obtain⟨v1,Yi,d1,Yj,p1,q1,ea,rfl,rfl,h1,hA⟩:=trodAll_cons hA
 obtain⟨v2,Zs,d2,ds2,p2,q2,rfl,rfl,rfl,h2,hA⟩:=trodAll_cons hA
 obtain⟨v3,Yl,d3,Ym,p3,q3,rfl,rfl,rfl,h3,hA⟩:=trodAll_cons hA
 obtain⟨rfl,rfl,rfl⟩:=trodAll_nil hA
 have hs:args.size=3:=by rw[←Array.length_toList,ea];rfl
 have qE:args[0]? =some v1:=by rw[←Array.getElem?_toList,ea];rfl
 have nZ:args[1]? =some v2:=by rw[←Array.getElem?_toList,ea];rfl
 have Le:args[2]? =some v3:=by rw[←Array.getElem?_toList,ea];rfl
 obtain⟨w1,qh⟩:=Go.az.Ag qh
 obtain⟨w2,qh⟩:=Go.az.Ag qh
 obtain⟨w3,qh⟩:=Go.az.Ag qh
 obtain⟨x1,o1,r1⟩:=Go.az.Af (.inl ⟨_,Tryz.underlying27⟩) (hval 0 27 v1 rfl qE) h1 w1 A.W9
 obtain⟨x2,o2,r2⟩:=Go.az.Af (.inl ⟨_,Tryz.underlying32⟩) (hval 1 32 v2 rfl nZ) h2 w2 O.Uy
 obtain⟨x3,o3,r3⟩:=Go.az.Af (.inr ⟨_,_,Tryz.underlying34⟩) (hval 2 34 v3 rfl Le) h3 w3 A.Xa
 refine(Go.az.RG (A.Xb x1 x2 x3 o1 o2 o3) hs (fun i=> ?_)).mono fun e W' ⟨he,hg⟩=> ?_
 ·rcases i with _|_|_|i
  ·rw[Array.getD_eq_getD_getElem?,qE];exact r1
  ·rw[Array.getD_eq_getD_getElem?,nZ];exact r2
  ·rw[Array.getD_eq_getD_getElem?,Le];exact r3
  ·simpa using .any _
 ·subst he
  exact⟨_,rfl,Go.az.RF (by kernel_rfl) Tryz.underlying4 (by kernel_rfl) (fun t ht=>by
   rw[Tryz.params3] at ht
   simp at ht
   rcases ht with rfl|rfl|rfl
   ·exact⟨by kernel_rfl,of_decide_eq_true (by kernel_rfl)⟩
   ·exact⟨by kernel_rfl,of_decide_eq_true (by kernel_rfl)⟩
   ·exact⟨by kernel_rfl,of_decide_eq_true (by kernel_rfl)⟩) rfl ⟨rfl,rfl,rfl⟩ Ah hg⟩
theorem Xh:Rows.topSoldRow.holds Tryz.pinned (OpenSpec.ofChange Rows.topSoldSpec):=
 OpenClaim.holds_of_wide 3 Tryz.f3 rfl rfl rfl rfl rfl rfl rfl ⟨rfl,rfl,rfl,rfl,rfl⟩ rfl rfl rfl rfl rfl (by kernel_rfl) Tryz.func3 (by kernel_rfl)
  (of_decide_eq_true (by kernel_rfl)) (by unfold Func.isWrapper;first|(rw[if_pos (by decide+kernel)];kernel_rfl)|(rw[if_neg (by decide+kernel)];exact⟨rfl,rfl⟩))
  (fun os started H enc _=>Xd os started H enc)
theorem topSold_holds:Rows.TopSoldSaid:=Xh
#print axioms topSold_holds
end Go.Proofs.YtpeikknjbnnnnaaGreat
