/- What the program returns of each of all folds: the leaves of a sheet, run by the kernel. -/
import Derived.Test.YtmcdlpegncaihaaGreatZH
namespace Go.Proofs.YtmcdlpegncaihaaGreat.F
open Go.Z4
def fq(a:Nat):Bool:=((pM.drop (4*a)).take 4).all fun x=>qN tab [] 73 [S (wA x.1),B x.2] (LL (js x.1 x.2))
theorem Vb:fq 0=true:=by kernel_rfl
theorem Vc:fq 1=true:=by kernel_rfl
theorem Vd:fq 2=true:=by kernel_rfl
theorem Ve:fq 3=true:=by kernel_rfl
theorem Vf:fq 4=true:=by kernel_rfl
theorem Vg:fq 5=true:=by kernel_rfl
theorem Vh:fq 6=true:=by kernel_rfl
theorem Vi:fq 7=true:=by kernel_rfl
theorem Vj:fq 8=true:=by kernel_rfl
theorem Vk:fq 9=true:=by kernel_rfl
theorem Vl:fq 10=true:=by kernel_rfl
theorem Vm:fq 11=true:=by kernel_rfl
theorem Vn:fq 12=true:=by kernel_rfl
theorem Vo:fq 13=true:=by kernel_rfl
theorem Vp:fq 14=true:=by kernel_rfl
theorem Vq:∀x∈pM,aG Tryz.prog 73 [S (wA x.1),B x.2] (LL (js x.1 x.2)):=S_ A5 (Va (c:=4) (n:=15) (by decide) (by decide) fun a ha=>by
 match a,ha with
 |0,_=>exact Vb
 |1,_=>exact Vc
 |2,_=>exact Vd
 |3,_=>exact Ve
 |4,_=>exact Vf
 |5,_=>exact Vg
 |6,_=>exact Vh
 |7,_=>exact Vi
 |8,_=>exact Vj
 |9,_=>exact Vk
 |10,_=>exact Vl
 |11,_=>exact Vm
 |12,_=>exact Vn
 |13,_=>exact Vo
 |14,_=>exact Vp)
end Go.Proofs.YtmcdlpegncaihaaGreat.F
