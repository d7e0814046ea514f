/- What the functions return of each of all folds, run by the kernel: columns and rows, the pile of leaves, the leaves of a sheet. -/
import Derived.Test.YtnncgmimhdplfaaGreatZE
import Derived.Test.YtnncgmimhdplfaaGreatZF
namespace Go.Proofs.YtnncgmimhdplfaaGreat.F
open Go.aq
def MB:List Row:=[(84,21,KL,KM),(85,72,KN,r85),(110,87,Lc,Ld),(134,34,Lw,ahO)]
theorem D9:lE Tryz.prog MB:=.cons (bN t84) (.cons (bN t85) (.cons (bN t110) (.cons (bN t134) (.nil))))
def mz:List (List Nat×Bool):=jL.map (fun w=>(w,false))++(words 2++words 3++words 4).map (fun w=>(w,true))
abbrev PL(l:List Ln):AV:=.slice 4 (l.map Ln.av) 0
theorem YQ:∀w∈jL,aed Tryz.prog 84 [S (mo w),.lit (.int .u8 120)] (I (cS w 120)):=afK D9 (by kernel_rfl)
theorem YR:∀w∈jL,aed Tryz.prog 84 [S (mo w),.lit (.int .u8 121)] (I (cS w 121)):=afK D9 (by kernel_rfl)
theorem YS:∀w∈jL,aed Tryz.prog 67 [S (mo w)] (.tuple [I (cS w 120),I (cS w 121)]):=afK oK (by kernel_rfl)
theorem YT:∀w∈jL,aed Tryz.prog 91 [S (mo w)] (B (w.getLastD 0==120)):=afK oK (by kernel_rfl)
theorem yT{α:Type}{l:List α}{p:α→Bool}{c n:Nat}(hl:l.length≤c*n)(hc:0<c)(h:∀a<n,((l.drop (c*a)).take c).all p=true):l.all p=true:=by
 refine List.all_eq_true.2 fun x hx=> ?_
 obtain⟨i,hi,rfl⟩:=List.mem_iff_getElem.1 hx
 have e:=Nat.div_add_mod i c
 have hm:=Nat.mod_lt i hc
 refine List.all_eq_true.1 (h (i / c) (Nat.div_lt_of_lt_mul (by omega))) _ (List.mem_iff_getElem.2 ⟨i%c,by simp;omega,?_⟩)
 rw[List.getElem_take,List.getElem_drop]
 congr 1
end Go.Proofs.YtnncgmimhdplfaaGreat.F
