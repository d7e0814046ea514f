/- Sets as bits: what the program's functions on bits return, run by the kernel. -/
import Derived.Test.YtnncgmimhdplfaaGreatZE
import Derived.Test.YtnncgmimhdplfaaGreatZK
namespace Go.Proofs.YtnncgmimhdplfaaGreat.F
open Go.aq
def bJ(n:Nat):List Int:=bu (fun i=>n.testBit i) 11
def eF(n:Nat):Nat:=((List.range 12).find? fun i=>n<2^i).getD 12
def lq(a:Nat):Bool:=(((List.range 2048).drop (256*a)).take 256).all fun n=>nr cR [] 107 [.lit (.int .u64 n)] (I (eF n:Nat))
def oq(a:Nat):Bool:=(((List.range 2048).drop (256*a)).take 256).all fun n=>nr cR [] 105 [.lit (.int .u64 n)] (I (bJ n).length)
theorem ZV:lq 0=true:=by kernel_rfl
theorem ZW:lq 1=true:=by kernel_rfl
theorem ZX:lq 2=true:=by kernel_rfl
theorem ZY:lq 3=true:=by kernel_rfl
theorem ZZ:lq 4=true:=by kernel_rfl
theorem Z0:lq 5=true:=by kernel_rfl
theorem Z1:lq 6=true:=by kernel_rfl
theorem Z2:lq 7=true:=by kernel_rfl
theorem Z3:oq 0=true:=by kernel_rfl
theorem Z4:oq 1=true:=by kernel_rfl
theorem Z5:oq 2=true:=by kernel_rfl
theorem oq3:oq 3=true:=by kernel_rfl
theorem oq4:oq 4=true:=by kernel_rfl
theorem Z8:oq 5=true:=by kernel_rfl
theorem Z9:oq 6=true:=by kernel_rfl
theorem Z_:oq 7=true:=by kernel_rfl
theorem oR(n:Nat)(h:n<2048):aed Tryz.prog 107 [.lit (.int .u64 n)] (I (eF n:Nat)):=
 afK (l:=List.range 2048) (xs:=fun n=>[.lit (.int .u64 n)]) (r:=fun n=>I (eF n:Nat)) oK (yT (c:=256) (n:=8) (by simp) (by simp) fun a ha=>by
  match a,ha with
  |0,_=>exact ZV
  |1,_=>exact ZW
  |2,_=>exact ZX
  |3,_=>exact ZY
  |4,_=>exact ZZ
  |5,_=>exact Z0
  |6,_=>exact Z1
  |7,_=>exact Z2) n (by simpa using h)
theorem sC(n:Nat)(h:n<2048):aed Tryz.prog 105 [.lit (.int .u64 n)] (I (bJ n).length):=
 afK (l:=List.range 2048) (xs:=fun n=>[.lit (.int .u64 n)]) (r:=fun n=>I (bJ n).length) oK (yT (c:=256) (n:=8) (by simp) (by simp) fun a ha=>by
  match a,ha with
  |0,_=>exact Z3
  |1,_=>exact Z4
  |2,_=>exact Z5
  |3,_=>exact oq3
  |4,_=>exact oq4
  |5,_=>exact Z8
  |6,_=>exact Z9
  |7,_=>exact Z_) n (by simpa using h)
end Go.Proofs.YtnncgmimhdplfaaGreat.F
