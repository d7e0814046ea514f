/- What the program returns of each of all folds: the leaves of a sheet, run by the kernel. -/
import Derived.Test.YtnncgmimhdplfaaGreatZH
namespace Go.Proofs.YtnncgmimhdplfaaGreat.F
open Go.aq
def fq(a:Nat):Bool:=((mz.drop (4*a)).take 4).all fun x=>nr cR [] 102 [S (mo x.1),B x.2] (LL (aff x.1 x.2))
theorem Y_:fq 0=true:=by kernel_rfl
theorem Za:fq 1=true:=by kernel_rfl
theorem Zb:fq 2=true:=by kernel_rfl
theorem Zc:fq 3=true:=by kernel_rfl
theorem Zd:fq 4=true:=by kernel_rfl
theorem Ze:fq 5=true:=by kernel_rfl
theorem Zf:fq 6=true:=by kernel_rfl
theorem Zg:fq 7=true:=by kernel_rfl
theorem Zh:fq 8=true:=by kernel_rfl
theorem Zi:fq 9=true:=by kernel_rfl
theorem Zj:fq 10=true:=by kernel_rfl
theorem Zk:fq 11=true:=by kernel_rfl
theorem Zl:fq 12=true:=by kernel_rfl
theorem Zm:fq 13=true:=by kernel_rfl
theorem Zn:fq 14=true:=by kernel_rfl
theorem Zo:∀x∈mz,aed Tryz.prog 102 [S (mo x.1),B x.2] (LL (aff x.1 x.2)):=afK oK (yT (c:=4) (n:=15) (by decide) (by decide) fun a ha=>by
 match a,ha with
 |0,_=>exact Y_
 |1,_=>exact Za
 |2,_=>exact Zb
 |3,_=>exact Zc
 |4,_=>exact Zd
 |5,_=>exact Ze
 |6,_=>exact Zf
 |7,_=>exact Zg
 |8,_=>exact Zh
 |9,_=>exact Zi
 |10,_=>exact Zj
 |11,_=>exact Zk
 |12,_=>exact Zl
 |13,_=>exact Zm
 |14,_=>exact Zn)
end Go.Proofs.YtnncgmimhdplfaaGreat.F
