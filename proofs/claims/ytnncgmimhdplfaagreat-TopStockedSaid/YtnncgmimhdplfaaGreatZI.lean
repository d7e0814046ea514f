/- What the reference returns of each of all folds: the pile of leaves, run by the kernel. -/
import Derived.Test.YtnncgmimhdplfaaGreatZH
namespace Go.Proofs.YtnncgmimhdplfaaGreat.F
open Go.aq
def pq(a:Nat):Bool:=((mz.drop (4*a)).take 4).all fun x=>nr MB [] 85 [S (mo x.1),B x.2] (PL (ny x.1 x.2))
theorem YU:pq 0=true:=by kernel_rfl
theorem YV:pq 1=true:=by kernel_rfl
theorem YW:pq 2=true:=by kernel_rfl
theorem YX:pq 3=true:=by kernel_rfl
theorem YY:pq 4=true:=by kernel_rfl
theorem YZ:pq 5=true:=by kernel_rfl
theorem Y0:pq 6=true:=by kernel_rfl
theorem Y1:pq 7=true:=by kernel_rfl
theorem Y2:pq 8=true:=by kernel_rfl
theorem Y3:pq 9=true:=by kernel_rfl
theorem Y4:pq 10=true:=by kernel_rfl
theorem Y5:pq 11=true:=by kernel_rfl
theorem Y6:pq 12=true:=by kernel_rfl
theorem Y7:pq 13=true:=by kernel_rfl
theorem Y8:pq 14=true:=by kernel_rfl
theorem Y9:∀x∈mz,aed Tryz.prog 85 [S (mo x.1),B x.2] (PL (ny x.1 x.2)):=afK D9 (yT (c:=4) (n:=15) (by decide) (by decide) fun a ha=>by
 match a,ha with
 |0,_=>exact YU
 |1,_=>exact YV
 |2,_=>exact YW
 |3,_=>exact YX
 |4,_=>exact YY
 |5,_=>exact YZ
 |6,_=>exact Y0
 |7,_=>exact Y1
 |8,_=>exact Y2
 |9,_=>exact Y3
 |10,_=>exact Y4
 |11,_=>exact Y5
 |12,_=>exact Y6
 |13,_=>exact Y7
 |14,_=>exact Y8)
end Go.Proofs.YtnncgmimhdplfaaGreat.F
