/- What the functions return of each of all folds, run by the kernel: columns and rows, the pile of leaves, the leaves of a sheet. -/
import Derived.Test.YtmcdlpegncaihaaGreatZE
import Derived.Test.YtmcdlpegncaihaaGreatZF
namespace Go.Proofs.YtmcdlpegncaihaaGreat.F
open Go.Z4
def pM:List (List Nat×Bool):=n_.map (fun w=>(w,false))++(words 2++words 3++words 4).map (fun w=>(w,true))
theorem Va{α:Type}{l:List α}{p:α→Bool}{c n:Nat}(hl:l.length≤c*n)(hc:0<c)(h:∀a<n,((l.drop (c*a)).take c).all p=true):l.all p=true:=by
 refine List.all_eq_true.2 fun x hx=> ?_
 obtain⟨i,hi,rfl⟩:=List.mem_iff_getElem.1 hx
 have e:=Nat.div_add_mod i c
 have hm:=Nat.mod_lt i hc
 refine List.all_eq_true.1 (h (i / c) (Nat.div_lt_of_lt_mul (by omega))) _ (List.mem_iff_getElem.2 ⟨i%c,by simp;omega,?_⟩)
 rw[List.getElem_take,List.getElem_drop]
 congr 1
end Go.Proofs.YtmcdlpegncaihaaGreat.F
