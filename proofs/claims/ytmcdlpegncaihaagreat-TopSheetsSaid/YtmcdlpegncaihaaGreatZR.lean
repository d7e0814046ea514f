/- If whole sheets of a gathering are lost, what is left has half as many faults as leaves are lost, and none is loose; if one leaf of a sheet is left alone, its mates are lost, and it is loose: the law TopSheets returns true for any press, way of making, sheets and leaf. -/
import Derived.Test.YtmcdlpegncaihaaGreatRows
import Derived.Test.YtmcdlpegncaihaaGreatZO
import Derived.SizedLaws
import Derived.WalkKit
namespace Go.Proofs.YtmcdlpegncaihaaGreat
open Go.ChangeShapes Go.WideShapes Go.ChangeAt Go.RowKit
set_option linter.unusedVariables false
theorem Y_:ownKnob Tryz.prog.godebug=none:=by kernel_rfl
set_option maxRecDepth 100000 in
theorem Za(os:Os)(started:os.Started)(H:Type)(enc:TypeId×Value→H):ReturnsInHanded {} Tryz.checked os 3 .any (Rows.topSheetsSpec.pre6 enc Tryz.prog Tryz.f3 Rows.topSheetsRow.domain false) (Rows.topSheetsSpec.post enc Tryz.prog Tryz.f3 false true false false):=by
 refine returnsInHanded_of_change_sized (C:=Tryz.checked) Y_ started (by kernel_rfl) Tryz.func3 (ChangeSpec.witness6 (enc:=enc) (C:=Tryz.checked) false ⟨#[],#[.agg #[.slice none 0 0,.slice none 0 0,.int .i64 0,.int .i64 0],.agg #[.int .u16 0,.int .u16 0],.int .u8 0],[]⟩ 8 (by kernel_rfl) (by kernel_rfl) (by kernel_rfl) (by kernel_rfl)) ?_
 intro W base args ds gs before Zb hW ZW Zc _
 have hval:∀(j:Nat) t v,Tryz.f3.params[j]? =some t→args[j]? =some v→Value.okWide Tryz.prog W .any base t v:=Zb
 have Ag:=hW
 obtain⟨p,q,Zd,hV,rfl,hfz,dU⟩:=hW
 obtain⟨rfl,rfl⟩:=trodVars_none hV
 have pZ:(DataW.weightsEach Tryz.prog (Tryz.f3.params.toList++[]) (ds++[])).all (· ≤reachBytes)=true:=Zc
 have hA:DataW.TrodAll enc Tryz.prog W 0 (fun _=>true) true Tryz.f3.params.toList args.toList ds p:=Zd
 rw[Tryz.params3] at hA hval pZ
 obtain⟨v1,ZX,d1,ZY,p1,q1,ea,rfl,rfl,h1,hA⟩:=trodAll_cons hA
 obtain⟨v2,jM,d2,iX,p2,q2,rfl,rfl,rfl,h2,hA⟩:=trodAll_cons hA
 obtain⟨v3,ZZ,d3,Z0,p3,q3,rfl,rfl,rfl,h3,hA⟩:=trodAll_cons hA
 obtain⟨rfl,rfl,rfl⟩:=trodAll_nil hA
 have hs:args.size=3:=by rw[←Array.length_toList,ea];rfl
 have nF:args[0]? =some v1:=by rw[←Array.getElem?_toList,ea];rfl
 have jN:args[1]? =some v2:=by rw[←Array.getElem?_toList,ea];rfl
 have Lz:args[2]? =some v3:=by rw[←Array.getElem?_toList,ea];rfl
 obtain⟨w1,pZ⟩:=Go.Z4.Af pZ
 obtain⟨w2,pZ⟩:=Go.Z4.Af pZ
 obtain⟨w3,pZ⟩:=Go.Z4.Af pZ
 obtain⟨x1,o1,r1⟩:=Go.Z4.EZ (.inl ⟨_,Tryz.underlying25⟩) (hval 0 25 v1 rfl nF) h1 w1 F.VL
 obtain⟨x2,o2,r2⟩:=Go.Z4.EZ (.inr ⟨_,_,Tryz.underlying27⟩) (hval 1 27 v2 rfl jN) h2 w2 F.V3
 obtain⟨x3,o3,r3⟩:=Go.Z4.R7 (.inr (.inl ⟨_,Tryz.underlying5⟩)) (hval 2 5 v3 rfl Lz) h3 w3 C.Y8 (fun _=>rfl)
 refine(Go.Z4.R9 (C.Y9 x1 x2 x3 o1 o2 o3) hs (fun i=> ?_)).mono fun e W' ⟨he,hg⟩=> ?_
 ·rcases i with _|_|_|i
  ·rw[Array.getD_eq_getD_getElem?,nF];exact r1
  ·rw[Array.getD_eq_getD_getElem?,jN];exact r2
  ·rw[Array.getD_eq_getD_getElem?,Lz];exact r3
  ·simpa using .any _
 ·subst he
  exact⟨_,rfl,Go.Z4.R8 (by kernel_rfl) Tryz.underlying4 (by kernel_rfl) (fun t ht=>by
   rw[Tryz.params3] at ht
   simp at ht
   rcases ht with rfl|rfl|rfl
   ·exact⟨by kernel_rfl,of_decide_eq_true (by kernel_rfl)⟩
   ·exact⟨by kernel_rfl,of_decide_eq_true (by kernel_rfl)⟩
   ·exact⟨by kernel_rfl,of_decide_eq_true (by kernel_rfl)⟩) rfl ⟨rfl,rfl,rfl⟩ Ag hg⟩
theorem Ze:Rows.topSheetsRow.holds Tryz.pinned (OpenSpec.ofChange Rows.topSheetsSpec):=
 OpenClaim.holds_of_wide 3 Tryz.f3 rfl rfl rfl rfl rfl rfl rfl ⟨rfl,rfl,rfl,rfl,rfl⟩ rfl rfl rfl rfl rfl (by kernel_rfl) Tryz.func3 (by kernel_rfl)
  (of_decide_eq_true (by kernel_rfl)) (by unfold Func.isWrapper;first|(rw[if_pos (by decide+kernel)];kernel_rfl)|(rw[if_neg (by decide+kernel)];exact⟨rfl,rfl⟩))
  (fun os started H enc _=>Za os started H enc)
theorem topSheets_holds:Rows.TopSheetsSaid:=Ze
#print axioms topSheets_holds
end Go.Proofs.YtmcdlpegncaihaaGreat
