/- General parts: lists, maps of numbers, blocks. Layers 1 and 4 as plain data; maps of counts; small contracts. Contracts of layer 1 (quire): Check. Contracts of layer 1 (quire): Check and open. Contracts of layer 1 (quire): leaves and mates. Contracts of layer 1 (quire): Leaves and Mate. Values that are appended, one by one, to a block of the walk's own. Contracts of layer 4 (copy): open. Contracts of layer 4 (copy): the truths of a case. Contracts of layer 4 (copy): truths, there, lost, loose. Contracts of layer 4 (copy): loose, moved. Contracts of layer 4 (copy): moved. -/
import Derived.Test.YtmcdlpegncaihaaGreatZK
import Derived.Test.YtmcdlpegncaihaaGreatZE
import Derived.Test.YtmcdlpegncaihaaGreatZC
namespace Go.Proofs.YtmcdlpegncaihaaGreat.C
open Go.Z4
abbrev I(n:Int):AV:=.lit (.int .i64 n)
abbrev B(b:Bool):AV:=.lit (.bool b)
abbrev S(s:ByteArray):AV:=.lit (.string s)
abbrev IL(l:List Int):AV:=.slice 1 (l.map I) 0
abbrev ILL(l:List (List Int)):AV:=.slice 1 (l.map IL) 0
theorem dW{α:Type}{l:List α}{k:Nat}(h:k<l.length):l.take (k+1)=l.take k++[l[k]]:=List.take_succ_eq_append_getElem h
def aS(q:Nat→Bool)(n:Nat):List Int:=((List.range n).filter q).map fun s:Nat=>(s:Int)
theorem Iu(q:Nat→Bool):aS q 0=[]:=rfl
theorem tH(q:Nat→Bool)(n:Nat):aS q (n+1)=aS q n++if q n then [(n:Int)] else []:=by
 unfold aS
 rw[List.range_succ,List.filter_append,List.map_append]
 congr 1
 cases h:q n<;>simp[h]
theorem kP{q:Nat→Bool}{n:Nat}(h:q n=true):aS q (n+1)=aS q n++[(n:Int)]:=by rw[tH,h];rfl
theorem j0{q:Nat→Bool}{n:Nat}(h:q n=false):aS q (n+1)=aS q n:=by rw[tH,h];simp
theorem aaB(q:Nat→Bool)(n:Nat):(aS q n).length≤n:=by
 unfold aS
 rw[List.length_map]
 exact Nat.le_trans (List.length_filter_le _ _) (by simp)
theorem BD{q r:Nat→Bool}{n:Nat}(h:∀j<n,q j=r j):aS q n=aS r n:=by
 unfold aS
 rw[List.filter_congr (fun x hx=>h x (List.mem_range.1 hx))]
theorem Kb{q:Nat→Bool}{n j:Nat}:((j:Int)∈aS q n)↔j<n∧q j=true:=by
 unfold aS
 simp only[List.mem_map,List.mem_filter,List.mem_range]
 constructor
 ·rintro⟨i,hi,e⟩
  obtain rfl:i=j:=by omega
  exact hi
 ·intro h
  exact⟨j,h,rfl⟩
theorem wM{q:Nat→Bool}{n:Nat}{x:Int}(h:x∈aS q n):∃j:Nat,x=j∧j<n∧q j=true:=by
 unfold aS at h
 rw[List.mem_map] at h
 obtain⟨j,hj,rfl⟩:=h
 exact⟨j,rfl,by simpa using hj⟩
theorem aaJ{sz:Nat}{xs:List AV}{r:Nat}(h:Fits (.slice sz xs r)):xs.length≤140737488355328:=by
 obtain⟨w,A,v,h⟩:=h
 cases h with
 |cH=>simp
 |slice _ _ _ b off cap vs hsz h1c hcap hlen hc hr=>exact hlen
@[simp] theorem Ta (b k:Nat) (h:k<1000001):(1000001+b=k)=False:=by simp;omega
@[simp] theorem Tb (b k:Nat) (h:k<1000001):(k=1000001+b)=False:=by simp;omega
@[simp] theorem Tc (b:Nat):(1000000≤1000001+b)=True:=by simp;omega
theorem A6(loc:Nat→Option (List AV))(cs:List AV)(K:AV→Prop):cN loc (.ref cs) none K=(0<cs.length∧K (cs.getD 0 .any).erase):=rfl
theorem A7(loc:Nat→Option (List AV))(cs:List AV)(n:Nat)(K:AV→Prop):cN loc (.ref cs) (some n) K=(0+n≤cs.length∧K (AV.agg ((cs.drop 0).take n)).erase.erase):=rfl
theorem A8(loc:Nat→Option (List AV))(b o:Nat)(n:Option Nat)(K:AV→Prop):cN loc (.aj b o) n K=(match loc b with|some cs=>cz cs o n K|none=>False):=rfl
theorem A9(cs:List AV)(o:Nat)(K:AV→Prop):cz cs o none K=(o<cs.length∧K (cs.getD o .any)):=rfl
theorem A_(cs:List AV)(o n:Nat)(K:AV→Prop):cz cs o (some n) K=(o+n≤cs.length∧K (AV.agg ((cs.drop o).take n)).erase):=rfl
attribute [simp] A6 A7 A8 A9 A_
def firstAt{α:Type}(p:α→Bool)(l:List α):Int:=match l.findIdx? p with
 |some i=>i
 |none=> -1
theorem n6{α:Type}{p:α→Bool}{l:List α}{k:Nat}(hk:k<l.length)(h:p l[k]=true)(hno:∀x∈l.take k,p x=false):firstAt p l=k:=by
 have:l.findIdx? p=some k:=by
  rw[List.findIdx?_eq_some_iff_getElem]
  refine⟨hk,h,fun j hj=> ?_⟩
  have:=hno l[j] (List.mem_take_iff_getElem.2 ⟨j,by omega,rfl⟩)
  simp[this]
 simp[firstAt,this]
theorem pF{α:Type}{p:α→Bool}{l:List α}(hno:∀x∈l,p x=false):firstAt p l= -1:=by
 have:l.findIdx? p=none:=by rw[List.findIdx?_eq_none_iff];simpa using hno
 simp[firstAt,this]
theorem qS{α:Type}(p:α→Bool)(l:List α):decide (0≤firstAt p l)=l.any p:=by
 unfold firstAt
 cases h:l.findIdx? p with
 |none=>
  rw[List.findIdx?_eq_none_iff] at h
  simpa using h
 |some i=>
  obtain⟨hi,hp,_⟩:=List.findIdx?_eq_some_iff_getElem.1 h
  simp
  exact⟨_,List.getElem_mem hi,hp⟩
theorem Bd{cs:List AV}(h:Fits (.ref cs))(i:Nat):Fits (cs.getD i .any):=by
 obtain⟨w,A,v,h⟩:=h
 cases h with
 |ref _ b off vs hc hr=>exact⟨w,A,_,hr i⟩
theorem pG{cs:List AV}(h:Fits (.agg cs))(i:Nat):Fits (cs.getD i .any):=by
 obtain⟨w,A,v,h⟩:=h
 cases h with
 |agg _ vs hs hr=>exact⟨w,A,_,hr i⟩
theorem drop_cons{α:Type}{l:List α}{k:Nat}(h:k<l.length):l.drop k=l[k]::l.drop (k+1):=List.drop_eq_getElem_cons h
theorem ay{P:Program}{kn:St→Prop}{ke:Nat→St→Prop}{kr:St→Prop}{s:St}{x y:aA}(J:St→Prop)(hx:∀k:St→Prop,(∀s',J s'→k s')→br P x k ke kr s)(h:∀s',J s'→br P y kn ke kr s'):br P (.seq x y) kn ke kr s:=hx _ h
abbrev T3(x:Int×Int×Int):AV:=.tuple [I x.1,I x.2.1,I x.2.2]
theorem q6{P:Program}{kn:St→Prop}{ke:Nat→St→Prop}{kr:St→Prop}{s:St}{x:aA}(J:St→Prop)(hx:∀k:St→Prop,(∀s',J s'→k s')→br P x k ke kr s)(h:∀s',J s'→kn s'):br P x kn ke kr s:=hx kn h
abbrev T2(x:Int×Int):AV:=.tuple [I x.1,I x.2]
def rows(V:Nat→AV)(n:Nat):List (List AV):=(List.range n).map fun o:Nat=>[I o,V o]
theorem V7(V:Nat→AV)(n:Nat):rows V (n+1)=rows V n++[[I n,V n]]:=by simp[rows,List.range_succ]
theorem Kc(V:Nat→AV)(o:Nat):∀(n f i:Nat),Z8 (I o) (((List.range' f n).map fun j:Nat=>[I j,V j])) i=some (if f≤o∧o<f+n then some (i+(o - f)) else none)
 |0,f,i=>by
  have:¬(f≤o∧o<f+0):=by omega
  rw[if_neg this];rfl
 |n+1,f,i=>by
  rw[List.range'_succ,List.map_cons,Z8]
  have hk:dj (I o) ([I f,V f].getD 0 .any)=some ((o:Int)==(f:Int)):=by simp[dj]
  rw[hk]
  by_cases e:o=f
  ·subst e
   have h1:((o:Int)==(o:Int))=true:=by simp
   rw[h1]
   simp
  ·have h1:((o:Int)==(f:Int))=false:=by simp;omega
   rw[h1]
   simp only
   rw[Kc V o n (f+1) (i+1)]
   congr 1
   by_cases h:f+1≤o∧o<f+1+n
   ·rw[if_pos h,if_pos (by omega)]
    congr 1;omega
   ·rw[if_neg h,if_neg (by omega)]
theorem V8(V:Nat→AV)(n o:Nat):Z8 (I o) (rows V n) 0=some (if o<n then some o else none):=by
 have:=Kc V o n 0 0
 rw[←List.range_eq_range'] at this
 unfold rows
 rw[this]
 simp
def od(P:Program)(ms:List au)(K:St→Prop)(s:St)(d:Nat)(k:AV)(n:Option Nat)(ok:Bool)(zero:AV):AV→Prop
 |.aZ b=>∃es,s.env (oS+b)=a_ es∧eL n k∧match Z8 k es 0 with
   |some (some i)=>vcs P ms K (s.set d (if ok then .tuple [((es.getD i []).getD 1 .any),.lit (.bool true)] else ((es.getD i []).getD 1 .any).erase))
   |some none=>vcs P ms K (s.set d (if ok then .tuple [zero,.lit (.bool false)] else zero.erase))
   |none=>False
 |.fmap es=>eL n k∧match Z8 k es 0 with
   |some (some i)=>vcs P ms K (s.set d (if ok then .tuple [((es.getD i []).getD 1 .any),.lit (.bool true)] else ((es.getD i []).getD 1 .any).erase))
   |some none=>vcs P ms K (s.set d (if ok then .tuple [zero,.lit (.bool false)] else zero.erase))
   |none=>False
 |_=>False
theorem Bj(P:Program)(ms:List au)(K:St→Prop)(s:St)(d:Nat)(x k:ai)(n:Option Nat)(ok:Bool)(zero:AV):vcs P (.lookup d x k n ok zero::ms) K s=od P ms K s d (k.ev s.env).erase n ok zero (x.ev s.env):=by unfold od;rfl
def oc(P:Program)(ms:List au)(K:St→Prop)(s:St)(k v:AV)(n:Option Nat):AV→Prop
 |.aZ b=>∃es,s.env (oS+b)=a_ es∧eL n k∧match Z8 k es 0 with
   |some (some i)=>vcs P ms K (s.set (oS+b) (a_ (es.set i [k,v])))
   |some none=>vcs P ms K (s.set (oS+b) (a_ (es++[[k,v]])))
   |none=>False
 |_=>False
theorem Bi(P:Program)(ms:List au)(K:St→Prop)(s:St)(x k v:ai)(n:Option Nat):vcs P (.gG x k v n::ms) K s=oc P ms K s (k.ev s.env).erase (v.ev s.env).erase n (x.ev s.env):=by unfold oc;rfl
@[simp] theorem HD (s:St) (d b o:Nat):aap s d (.aj b o)=s.set d (.aj b o):=rfl
@[simp] theorem HF (s:St) (d b:Nat):aap s d (.aZ b)=s.set d (.aZ b):=rfl
@[simp] theorem HG (r b:Nat):az r (.aZ b)=.aZ b:=rfl
@[simp] theorem HH (b:Nat):(AV.aZ b).erase=.aZ b:=rfl
@[simp] theorem Zz (b:Nat):(AV.aZ b).erase0=.aZ b:=rfl
@[simp] theorem HI (b:Nat):(AV.aZ b).cells=[.aZ b]:=rfl
@[simp] theorem ZA (s:St) (d:Nat) (es:List (List AV)):aap s d (.fmap es)=s.set d (.fmap es):=rfl
@[simp] theorem ZB (r:Nat) (es:List (List AV)):az r (.fmap es)=.fmap es:=rfl
@[simp] theorem ZC (es:List (List AV)):(AV.fmap es).erase=.fmap es:=rfl
@[simp] theorem ZD (es:List (List AV)):(AV.fmap es).erase0=.fmap es:=rfl
@[simp] theorem ZE (es:List (List AV)):(AV.fmap es).cells=[.fmap es]:=rfl
attribute [simp] Bj Bi
theorem ads:oS=1000001:=by simp[oS]
theorem VH{P:Program}{ms:List au}{K:St→Prop}{s:St}{n b:Nat}{V:Nat→AV}(em:s.env (1000001+b)=a_ (rows V n))(h:vcs P ms K (s.set (1000001+b) (a_ (rows V (n+1))))):oc P ms K s (I n) (V n) none (.aZ b):=by
 refine⟨_,by rw[ads];exact em,trivial,?_⟩
 rw[V8,if_neg (by omega)]
 simp only
 rw[←V7,ads];exact h
theorem fP{P:Program}{kn:St→Prop}{ke wN:Nat→St→Prop}{kr wO:St→Prop}{s:St}{x y:aA}{i:Nat}(h:br P x (br P y kn ke kr) (abW (br P y kn ke kr) ke i) kr s):br P .skip (br P (.seq (.block i x) y) kn ke kr) wN wO s:=h
def cl(n:Nat)(F:Nat→Int):List AV:=(List.range n).map fun g=>I (F g)
theorem jx(n:Nat)(F:Nat→Int):(cl n F).length=n:=by simp[cl]
theorem lP{n g:Nat}(F:Nat→Int)(h:g<(cl n F).length):(cl n F)[g]=I (F g):=by simp[cl]
theorem tK(n g:Nat)(F:Nat→Int)(v:Int):(cl n F).set g (I v)=cl n fun j=>if j=g then v else F j:=by
 apply List.ext_getElem?
 intro j
 simp only[List.getElem?_set,cl,List.getElem?_map,List.length_map,List.length_range]
 by_cases hj:g=j
 ·subst hj
  by_cases hg:g<n<;>simp[hg]
 ·have:¬j=g:=fun e=>hj e.symm
  by_cases hg:j<n<;>simp[hg,hj,this]
theorem tL{n:Nat}{F G:Nat→Int}(h:∀g<n,F g=G g):cl n F=cl n G:=by
 unfold cl
 exact List.map_congr_left fun g hg=>by rw[h g (by simpa using hg)]
theorem V9(n:Nat)(F:Nat→Int):(cl n F).map AV.erase0=cl n F:=by simp[cl]
theorem V_(n:Nat)(F:Nat→Int):(cl n F).all AV.bE=true:=by
 rw[List.all_eq_true]
 intro x hx
 unfold cl at hx
 rw[List.mem_map] at hx
 obtain⟨g,_,rfl⟩:=hx
 rfl
theorem uK:∀(xs ys:List AV) (o:Nat),o+ys.length=xs.length→splice xs o ys=xs.take o++ys
 |xs,[],o,h=>by simp at h;simp[splice,h]
 |xs,y::ys,o,h=>by
  simp only[List.length_cons] at h
  rw[zB,uK _ ys (o+1) (by simp;omega)]
  have ho:o<xs.length:=by omega
  rw[List.take_set,List.take_succ_eq_append_getElem ho,List.set_append_right _ _ (by simp;omega)]
  simp[Nat.min_eq_left (Nat.le_of_lt ho)]
theorem Wa(n:Nat)(F:Nat→Int):(cl n F).take n=cl n F:=List.take_of_length_le (by rw[jx];exact Nat.le_refl _)
@[simp] theorem ZF (b off len cap sz:Nat):(AV.aq b off len cap sz).cells=[.aq b off len cap sz]:=rfl
@[simp] theorem ZG (b off len cap sz:Nat):(AV.aq b off len cap sz).erase=.aq b off len cap sz:=rfl
@[simp] theorem ZH (b off len cap sz:Nat):(AV.aq b off len cap sz).erase0=.aq b off len cap sz:=rfl
theorem wP(r n:Nat)(F:Nat→Int):(cl n F).map (az r)=cl n F:=by simp[cl]
theorem BE:∀(n:Nat) (l:List AV),n≤l.length→(∀x∈l,∃m,x=I m)→chunk 1 l n=l.take n
 |0,l,_,_=>by simp[chunk]
 |n+1,[],h,_=>by simp at h
 |n+1,x::l,h,hx=>by
  obtain⟨m,rfl⟩:=hx x (by simp)
  have:=BE n l (by simpa using h) (fun y hy=>hx y (by simp[hy]))
  unfold chunk
  simp[this]
theorem Kf{cs:List AV}(h:∀x∈cs,∃m,x=I m):cs.map AV.erase0=cs:=by
 calc cs.map AV.erase0=cs.map id:=List.map_congr_left fun x hx=>by obtain⟨m,rfl⟩:=h x hx;rfl
  _=cs:=by simp
theorem Wb{cs:List AV}(h:∀x∈cs,∃m,x=I m):cs.all AV.bE=true:=by
 rw[List.all_eq_true]
 intro x hx
 obtain⟨m,rfl⟩:=h x hx
 rfl
theorem Kg:∀(ys xs:List AV) (o:Nat),o+ys.length≤xs.length→splice xs o ys=xs.take o++(ys++xs.drop (o+ys.length))
 |[],xs,o,_=>by simp[splice]
 |y::ys,xs,o,h=>by
  simp only[List.length_cons] at h
  have ho:o<xs.length:=by omega
  rw[splice,Kg ys _ (o+1) (by simp;omega),List.take_set,List.take_succ_eq_append_getElem ho,List.set_append_right _ _ (by simp;omega),List.drop_set_of_lt (by omega)]
  simp[Nat.min_eq_left (Nat.le_of_lt ho)]
  congr 1
  omega
structure Old (s0 s:St):Prop where
 l:∀c cs,s0.loc c=some cs→cs.map AV.erase0=cs→s.loc c=some cs
 g:∀l es q,s0.env 1000000=.ghost l es q→s.env 1000000=.ghost l es q
theorem Old.ext{s0 s s':St}(h:Old s0 s)(he:s'.env 1000000=s.env 1000000)(hl:∀c,s.loc c≠none→s'.loc c=s.loc c):Old s0 s':=⟨fun c cs h1 h2=>by rw[hl c (by rw[h.l c cs h1 h2];simp)];exact h.l c cs h1 h2,fun l es q hg=>by rw[he];exact h.g l es q hg⟩
def eZ(s0:St)(b:Nat):Prop:=∀cs,s0.loc b=some cs→cs.map AV.erase0≠cs
theorem Old.new{s0 s:St}(h:Old s0 s){b:Nat}(hb:s.loc b=none):eZ s0 b:=fun cs h1 h2=>by rw[h.l b cs h1 h2] at hb;cases hb
theorem Old.put{s0 s s':St}(h:Old s0 s)(he:s'.env 1000000=s.env 1000000){b:Nat}(hb:eZ s0 b)(hl:∀c,c≠b→s'.loc c=s.loc c):Old s0 s':=⟨fun c cs h1 h2=>by rw[hl c (by rintro rfl;exact hb cs h1 h2)];exact h.l c cs h1 h2,fun l es q hg=>by rw[he];exact h.g l es q hg⟩
@[simp] theorem ZI (r b off len cap sz:Nat):az r (.aq b off len cap sz)=.aq b off len cap sz:=rfl
end Go.Proofs.YtmcdlpegncaihaaGreat.C
namespace Go.Proofs.YtmcdlpegncaihaaGreat.C
open Go.Z4
theorem Ba(l:List Int)(f:FuncId)(caps:List AV)(p:Int→Bool)(hp:∀x∈l,aG Tryz.prog f (I x::caps) (B (p x))):aG Tryz.prog 121 [IL l,.func (.func f) [] caps] (I (firstAt p l)):=by
 refine pc t121 (by simp) fun hfit=> ?_
 have hl:=aaJ (hfit 0)
 simp only[List.length_map] at hl
 simp -implicitDefEqProofs [wh]
 refine bP l.length (fun k s=>s.env 0=IL l∧s.env 1=.func (.func f) [] caps∧s.env 7=I l.length∧s.env 8=I k∧∀x∈l.take k,p x=false) ?_ ?_
 ·simp
 ·rintro k s hk ⟨e0,e1,e7,e8,hno⟩
  simp -implicitDefEqProofs [e7,e8]
  refine bY (fun hlt=> ?_) (fun hge=> ?_)
  ·simp -implicitDefEqProofs [e0,e1,e8,hlt,abV]
   refine aL (hp l[k] (List.getElem_mem _)) ?_
   simp -implicitDefEqProofs
   refine c8 (fun he=> ?_) (fun he=> ?_)
   ·have hc:=n6 hlt he hno
    simp -implicitDefEqProofs [qR,hc]
   ·simp -implicitDefEqProofs [e8]
    refine⟨i64 (by omega) (by omega),bz hlt ⟨by simp[e0],by simp[e1],by simp[e7],by simp,?_⟩⟩
    intro x hx
    rw[dW hlt,List.mem_append,List.mem_singleton] at hx
    rcases hx with hx|rfl
    ·exact hno x hx
    ·exact he
  ·obtain rfl:k=l.length:=by omega
   rw[List.take_length] at hno
   have hc:=pF hno
   simp -implicitDefEqProofs [qR,hc]
theorem Bb(n lo hi:Int):aG Tryz.prog 119 [I n,.ref [I lo],.ref [I hi]] (B (decide (n<lo)||decide (hi<n))):=by
 refine pc t119 (by simp) fun _=> ?_
 by_cases h:n<lo<;>simp -implicitDefEqProofs [JJ,JK,h,qD,jU]
theorem wj(l:List Int)(f:FuncId)(caps:List AV)(p:Int→Bool)(hp:∀x∈l,aG Tryz.prog f (I x::caps) (B (p x))):aG Tryz.prog 83 [IL l,.func (.func f) [] caps] (B (l.any p)):=by
 refine pc t83 (by simp) fun _=> ?_
 simp -implicitDefEqProofs [v8]
 refine aL (Ba l f caps p hp) ?_
 simp -implicitDefEqProofs [v9,qS]
def out(lo hi:Int)(l:List Int):Bool:=l.any fun n=>decide (n<lo)||decide (hi<n)
theorem jW(lo hi:Int)(l:List Int):aG Tryz.prog 76 [I lo,I hi,IL l] (B (out lo hi l)):=by
 refine pc t76 (by simp) fun _=> ?_
 simp -implicitDefEqProofs [JB]
 refine aL (wj l 119 [.ref [I lo],.ref [I hi]] _ fun x _=>Bb x lo hi) ?_
 simp -implicitDefEqProofs [JC,out]
theorem Wc(n lo hi:Int):aG Tryz.prog 138 [I n,.ref [I lo],.ref [I hi]] (B (decide (n<lo)||decide (hi<n))):=by
 refine pc t138 (by simp) fun _=> ?_
 by_cases h:n<lo<;>simp -implicitDefEqProofs [I8,I9,h,qD,jU]
theorem q7(lo hi:Int)(l:List Int):aG Tryz.prog 107 [I lo,I hi,IL l] (B (out lo hi l)):=by
 refine pc t107 (by simp) fun _=> ?_
 simp -implicitDefEqProofs [IN]
 refine aL (wj l 138 [.ref [I lo],.ref [I hi]] _ fun x _=>Wc x lo hi) ?_
 simp -implicitDefEqProofs [IP,out]
def aT(ns:List Nat):List (Nat×Nat):=(List.range ns.length).flatMap fun i=>(List.range (ns.getD i 0)).map fun k=>(i,k+1)
def kQ(l:List (Nat×Nat))(x:Nat×Nat):Int:=firstAt (fun y=>y==x) l
def lQ(ns:List Nat)(n:Nat):Int:=
 let x:=(aT ns).getD n (0,0)
 let i:=kQ (aT ns) (x.1,ns.getD x.1 0+1 - x.2)
 if 0≤i∧i≠n then i else -1
def bw(ns:List Nat):List Int:=(List.range (aT ns).length).map fun n=>lQ ns n
structure OKb (ns:List Nat):Prop where
 pos:1≤ns.length
 len:ns.length≤10
 each:∀n∈ns,2≤n∧n≤12∧n%2=0
abbrev BF(i n:Nat):AV:=.agg [I 1,I i,I n,.slice 3 [] 0]
def aar(ns:List Nat):List AV:=(List.range ns.length).map fun i=>BF i (ns.getD i 0)
abbrev cy(ns:List Nat):List AV:=[I 0,.slice 4 (aar ns) 0]
abbrev j3(x:Nat×Nat):AV:=.agg [I x.1,I x.2,I 0,I 0]
abbrev LV(l:List (Nat×Nat)):AV:=.slice 4 (l.map j3) 0
abbrev bO(ns:List Nat)(cs:List (List Int)):List AV:=cy ns++[ILL cs]
abbrev xC(ns:List Nat)(cs:List (List Int)):List AV:=bO ns cs++[LV (aT ns),IL (bw ns)]
abbrev aN(ns:List Nat)(cs:List (List Int)):AV:=.ref (xC ns cs)
structure eP (ns:List Nat) (cs:List (List Int)):Prop extends OKb ns where
 items:cs.length≤120
 wQ:∀c∈cs,c.length≤4∧(∀x∈c,0≤x∧x<(aT ns).length)∧c.Pairwise (· < ·)
 Wd:(cs.filter fun c=>decide (1<c.length)).length≤3
theorem q8(ns:List Nat):(aar ns).length=ns.length:=by simp[aar]
theorem Kh(ns:List Nat):(aT ns).length=ns.sum:=by
 unfold aT
 rw[List.length_flatMap]
 simp only[List.length_map,List.length_range]
 congr 1
 apply List.ext_getElem
 ·simp
 ·intro i h1 h2
  simp at h1
  simp[List.getD_eq_getElem?_getD,h1]
theorem Ki:∀(l:List Nat),(∀n∈l,n≤12)→l.sum≤12*l.length
 |[],_=>by simp
 |a::l,h=>by
  have:=Ki l fun n hn=>h n (by simp[hn])
  have:=h a (by simp)
  simp;omega
theorem OKb.leaves{ns:List Nat}(h:OKb ns):(aT ns).length≤120:=by
 rw[Kh]
 have:=Ki ns fun n hn=>(h.each n hn).2.1
 have:=h.len
 omega
theorem We{ns:List Nat}{x:Nat×Nat}(hx:x∈aT ns):x.1<ns.length∧1≤x.2∧x.2≤ns.getD x.1 0:=by
 unfold aT at hx
 simp only[List.mem_flatMap,List.mem_range,List.mem_map] at hx
 obtain⟨i,hi,k,hk,rfl⟩:=hx
 exact⟨hi,by simp,hk⟩
theorem Kj(l:List (Nat×Nat))(x:Nat×Nat): -1≤kQ l x∧kQ l x<l.length:=by
 unfold kQ firstAt
 cases h:l.findIdx? (fun y=>y==x) with
 |none=>simp only;omega
 |some i=>
  have:=(List.findIdx?_eq_some_iff_getElem.1 h).1
  simp only;omega
theorem Wf(ns:List Nat)(n:Nat): -1≤lQ ns n∧lQ ns n<(aT ns).length:=by
 have:=Kj (aT ns) (((aT ns).getD n (0,0)).1,ns.getD ((aT ns).getD n (0,0)).1 0+1 - ((aT ns).getD n (0,0)).2)
 unfold lQ
 simp only
 split<;>omega
def bR(kv:List (Int×Int)):List (List AV):=kv.map fun p=>[I p.1,I p.2]
def bQ(kv:List (Int×Int))(n:Int):Int:=match kv.find? fun p=>p.1==n with
 |some p=>p.2
 |none=>0
def iS:List (Int×Int)→Int→List (Int×Int)
 |[],n=>[(n,1)]
 |p::kv,n=>if p.1=n then (p.1,p.2+1)::kv else p::iS kv n
def cQ(t:List Int):List (Int×Int):=t.foldl iS []
@[simp] theorem HE (s:St) (d b o l c sz:Nat):aap s d (.aq b o l c sz)=s.set d (.aq b o l c sz):=rfl
theorem Wg(a b:Int):dj (I a) (I b)=some (a==b):=by simp[dj]
theorem wR(n:Int):∀(kv:List (Int×Int)) (i:Nat),Z8 (I n) (bR kv) i=some ((kv.findIdx? fun p=>p.1==n).map (· +i))
 |[],i=>rfl
 |p::kv,i=>by
  show(match dj (I n) (I p.1) with|some true=>some (some i)|some false=>Z8 (I n) (bR kv) (i+1)|none=>none)=_
  rw[Wg,List.findIdx?_cons]
  by_cases h:p.1=n
  ·simp[h]
  ·have h1:(n==p.1)=false:=by simp;exact fun e=>h e.symm
   have h2:(p.1==n)=false:=by simp[h]
   rw[h1,h2]
   simp only
   rw[wR n kv (i+1)]
   cases kv.findIdx? (fun p=>p.1==n)<;>simp;omega
theorem Kk{kv:List (Int×Int)}{n:Int}{i:Nat}(h:kv.findIdx? (fun p=>p.1==n)=some i):∃hi:i<kv.length,kv[i].1=n∧bQ kv n=kv[i].2:=by
 obtain⟨hi,h1,h2⟩:=List.findIdx?_eq_some_iff_getElem.1 h
 have hf:kv.find? (fun p=>p.1==n)=some kv[i]:=by
  rw[List.find?_eq_some_iff_getElem]
  exact⟨h1,i,hi,rfl,fun j hj=>by have:=h2 j hj;simpa using this⟩
 exact⟨hi,by simpa using h1,by unfold bQ;rw[hf]⟩
theorem BG{kv:List (Int×Int)}{n:Int}(h:kv.findIdx? (fun p=>p.1==n)=none):bQ kv n=0:=by
 have:kv.find? (fun p=>p.1==n)=none:=by
  rw[List.findIdx?_eq_none_iff] at h
  rw[List.find?_eq_none]
  intro x hx;simpa using h x hx
 unfold bQ;rw[this]
theorem Wh{kv:List (Int×Int)}{n:Int}:∀{i:Nat},kv.findIdx? (fun p=>p.1==n)=some i→(bR kv).set i [I n,I (bQ kv n+1)]=bR (iS kv n):=by
 induction kv with
 |nil=>intro i h;cases h
 |cons p kv ih=>
  intro i h
  rw[List.findIdx?_cons] at h
  by_cases hp:p.1=n
  ·have h2:(p.1==n)=true:=by simp[hp]
   rw[h2] at h
   simp only[if_true,Option.some.injEq] at h
   subst h
   have hv:bQ (p::kv) n=p.2:=by unfold bQ;rw[List.find?_cons,h2]
   rw[hv]
   simp[bR,iS,hp]
  ·have h2:(p.1==n)=false:=by simp[hp]
   rw[h2] at h
   simp only[Bool.false_eq_true,if_false,Option.map_eq_some_iff] at h
   obtain⟨j,hj,rfl⟩:=h
   have hv:bQ (p::kv) n=bQ kv n:=by unfold bQ;rw[List.find?_cons,h2]
   rw[hv]
   have:=ih hj
   simp only[bR,iS,if_neg hp,List.map_cons,List.set_cons_succ] at this⊢
   rw[this]
theorem Wi{kv:List (Int×Int)}{n:Int}(h:kv.findIdx? (fun p=>p.1==n)=none):bR kv++[[I n,I 1]]=bR (iS kv n):=by
 induction kv with
 |nil=>rfl
 |cons p kv ih=>
  rw[List.findIdx?_cons] at h
  by_cases hp:p.1=n
  ·simp[hp] at h
  ·have h2:(p.1==n)=false:=by simp[hp]
   rw[h2] at h
   simp only[Bool.false_eq_true,if_false,Option.map_eq_none_iff] at h
   have:=ih h
   simp only[bR,iS,if_neg hp,List.map_cons,List.cons_append] at this⊢
   rw[this]
theorem Wj(kv:List (Int×Int))(n m:Int):bQ (iS kv n) m=bQ kv m+if m=n then 1 else 0:=by
 induction kv with
 |nil=>
  unfold iS bQ
  by_cases h:m=n
  ·simp[h]
  ·simp[h,Ne.symm h]
 |cons p kv ih=>
  unfold iS
  by_cases hp:p.1=n
  ·rw[if_pos hp]
   unfold bQ
   rw[List.find?_cons,List.find?_cons]
   by_cases hm:p.1=m
   ·have:m=n:=by omega
    simp[hm,this]
   ·have h1:¬m=n:=by omega
    have h2:(p.1==m)=false:=by simp[hm]
    simp only[h2,if_neg h1,Int.add_zero]
  ·rw[if_neg hp]
   unfold bQ at ih⊢
   rw[List.find?_cons,List.find?_cons]
   by_cases hm:p.1=m
   ·have h1:¬m=n:=by omega
    have h2:(p.1==m)=true:=by simp[hm]
    simp only[h2,if_neg h1,Int.add_zero]
   ·have h2:(p.1==m)=false:=by simp[hm]
    simp only[h2]
    exact ih
theorem BH(t:List Int)(n:Int):cQ (t++[n])=iS (cQ t) n:=by simp[cQ,List.foldl_append]
theorem Kl(m:Int):∀(t:List Int) (kv:List (Int×Int)),bQ (t.foldl iS kv) m=bQ kv m+t.count m
 |[],kv=>by simp
 |n::t,kv=>by
  rw[List.foldl_cons,Kl m t,Wj,List.count_cons]
  by_cases h:m=n
  ·subst h;simp;omega
  ·have:(n==m)=false:=by simp;exact fun e=>h e.symm
   simp[h,this]
theorem kR(t:List Int)(m:Int):bQ (cQ t) m=t.count m:=by
 unfold cQ
 rw[Kl]
 simp[bQ]
theorem q9{P:Program}{ms:List au}{K:St→Prop}{s:St}{d b:Nat}{kv:List (Int×Int)}{n:Int}(hb:s.env (oS+b)=a_ (bR kv))(h:vcs P ms K (s.set d (I (bQ kv n)))):od P ms K s d (I n) none false (I 0) (.aZ b):=by
 refine⟨_,hb,trivial,?_⟩
 rw[wR]
 cases hf:kv.findIdx? (fun p=>p.1==n) with
 |none=>rw[BG hf] at h;exact h
 |some i=>
  obtain⟨hi,_,hv⟩:=Kk hf
  rw[hv] at h
  simpa[bR,List.getD_eq_getElem?_getD,hi] using h
theorem pQ{P:Program}{ms:List au}{K:St→Prop}{s:St}{d:Nat}{kv:List (Int×Int)}{n:Int}(h:vcs P ms K (s.set d (I (bQ kv n)))):od P ms K s d (I n) none false (I 0) (.fmap (bR kv)):=by
 refine⟨trivial,?_⟩
 rw[wR]
 cases hf:kv.findIdx? (fun p=>p.1==n) with
 |none=>rw[BG hf] at h;exact h
 |some i=>
  obtain⟨hi,_,hv⟩:=Kk hf
  rw[hv] at h
  simpa[bR,List.getD_eq_getElem?_getD,hi] using h
theorem BI{P:Program}{ms:List au}{K:St→Prop}{s:St}{b:Nat}{kv:List (Int×Int)}{n:Int}(hb:s.env (oS+b)=a_ (bR kv))(h:vcs P ms K (s.set (oS+b) (a_ (bR (iS kv n))))):oc P ms K s (I n) (I (bQ kv n+1)) none (.aZ b):=by
 refine⟨_,hb,trivial,?_⟩
 rw[wR]
 cases hf:kv.findIdx? (fun p=>p.1==n) with
 |none=>rw[BG hf,←Wi hf] at*;exact h
 |some i=>rw[←Wh hf] at h;simpa using h
theorem wS(kv:List (Int×Int)):l6 (.fmap (bR kv))=true:=by simp[l6,bR,isLit,flat]
end Go.Proofs.YtmcdlpegncaihaaGreat.C
namespace Go.Proofs.YtmcdlpegncaihaaGreat.C
open Go.Z4
def BJ(P:Program)(ms:List au)(K:St→Prop)(s:St)(d:Nat)(k:AV)(n:Option Nat)(zero:AV):AV→Prop
 |.aZ b=>∃es,s.env (oS+b)=a_ es∧eL n k∧dj k k=some true∧match Z8 k es 0 with
   |some (some i)=>vcs P ms K ((s.set (oS+b) (a_ (es.set i [k,(es.getD i []).getD 1 .any]))).set d (.tuple [(es.getD i []).getD 1 .any,.lit (.int .i64 i)]))
   |some none=>vcs P ms K ((s.set (oS+b) (a_ (es++[[k,zero]]))).set d (.tuple [zero,.lit (.int .i64 es.length)]))
   |none=>False
 |_=>False
theorem Wk(P:Program)(ms:List au)(K:St→Prop)(s:St)(d:Nat)(x k:ai)(n:Option Nat)(zero:AV):vcs P (.gH d x k n zero::ms) K s=BJ P ms K s d (k.ev s.env).erase n zero (x.ev s.env):=by unfold BJ;rfl
def BK(P:Program)(ms:List au)(K:St→Prop)(s:St)(v:AV):AV→AV→Prop
 |.aZ b,.lit (.int _ i)=>∃es,s.env (oS+b)=a_ es∧0≤i∧i<es.length∧vcs P ms K (s.set (oS+b) (a_ (es.set i.toNat [(es.getD i.toNat []).getD 0 .any,v])))
 |_,_=>False
theorem Wl(P:Program)(ms:List au)(K:St→Prop)(s:St)(x st v:ai):vcs P (.nw x st v::ms) K s=BK P ms K s (v.ev s.env).erase (x.ev s.env) (st.ev s.env):=by unfold BK;rfl
attribute [simp] Wk Wl
abbrev fH(i:Nat):AV:=.agg [I 1,I i]
def fm(k:Nat):List (List AV):=(List.range k).map fun j=>[fH j,I 1]
theorem tM(k:Nat):(fm k).length=k:=by simp[fm]
theorem Wm(k:Nat):fm (k+1)=fm k++[[fH k,I 1]]:=by simp[fm,List.range_succ]
theorem Km(i j:Nat):dj (fH i) (fH j)=some (decide (i=j)):=by
 by_cases h:i=j
 ·subst h;simp[dj,cD]
 ·have h1:((i:Int)==(j:Int))=false:=beq_eq_false_iff_ne.2 (by omega)
  have h2:¬(i:Int)=(j:Int):=by omega
  simp[dj,cD,h,h2]
theorem adt(i:Nat):∀(n f p:Nat),Z8 (fH i) ((List.range' f n).map fun j=>[fH j,I 1]) p=some (if f≤i∧i<f+n then some (p+(i - f)) else none)
 |0,f,p=>by
  rw[if_neg (by omega)];rfl
 |n+1,f,p=>by
  rw[List.range'_succ,List.map_cons]
  show(match dj (fH i) (fH f) with|some true=>some (some p)|some false=>Z8 (fH i) ((List.range' (f+1) n).map fun j=>[fH j,I 1]) (p+1)|none=>none)=_
  rw[Km]
  by_cases h:i=f
  ·subst h;simp
  ·rw[decide_eq_false h]
   simp only
   rw[adt i n (f+1) (p+1)]
   congr 1
   by_cases h2:f+1≤i∧i<f+1+n
   ·rw[if_pos h2,if_pos (by omega)]
    congr 1;omega
   ·rw[if_neg h2,if_neg (by omega)]
theorem Ko(i k:Nat):Z8 (fH i) (fm k) 0=some (if i<k then some i else none):=by
 have:=adt i k 0 0
 rw[←List.range_eq_range'] at this
 unfold fm
 rw[this]
 simp
theorem Kq{P:Program}{ms:List au}{K:St→Prop}{s:St}{d b i k:Nat}(hb:s.env (oS+b)=a_ (fm k))(h:vcs P ms K (s.set d (I (if i<k then 1 else 0)))):od P ms K s d (fH i) (some 2) false (I 0) (.aZ b):=by
 refine⟨_,hb,⟨by decide,rfl⟩,?_⟩
 rw[Ko]
 by_cases hk:i<k
 ·rw[if_pos hk] at h⊢
  simpa[fm,List.getD_eq_getElem?_getD,hk] using h
 ·rw[if_neg hk] at h⊢
  exact h
theorem Wn{P:Program}{ms:List au}{K:St→Prop}{s:St}{d b k:Nat}(hb:s.env (oS+b)=a_ (fm k))(h:vcs P ms K ((s.set (oS+b) (a_ (fm k++[[fH k,I 0]]))).set d (.tuple [I 0,I k]))):BJ P ms K s d (fH k) (some 2) (I 0) (.aZ b):=by
 refine⟨_,hb,⟨by decide,rfl⟩,by rw[Km];simp,?_⟩
 rw[Ko,if_neg (by omega)]
 simpa[tM] using h
theorem Wo{P:Program}{ms:List au}{K:St→Prop}{s:St}{b k:Nat}(hb:s.env (oS+b)=a_ (fm k++[[fH k,I 0]]))(h:vcs P ms K (s.set (oS+b) (a_ (fm (k+1))))):BK P ms K s (I 1) (.aZ b) (I k):=by
 refine⟨_,hb,by omega,by simp[tM];omega,?_⟩
 have e:(fm k++[[fH k,I 0]]).set k [fH k,I 1]=fm (k+1):=by
  rw[List.set_append_right _ _ (by rw[tM];omega),tM,Wm]
  simp
 simpa[List.getD_eq_getElem?_getD,tM,e] using h
theorem q_(lo hi n:Int)(h:lo≤n)(h2:n≤hi):out lo hi [n]=false:=by
 unfold out
 simp;omega
theorem Wp{i:Nat}(h:i≤9):aG Tryz.prog 110 [fH i] (B false):=by
 refine pc t110 (by simp) fun _=> ?_
 have c1:=q7 1 3 [1]
 have c2:=q7 0 24 [(i:Int)]
 rw[q_ _ _ _ (by decide) (by decide)] at c1
 rw[q_ _ _ _ (by omega) (by omega)] at c2
 simp -implicitDefEqProofs [IV]
 refine aL c1 ?_
 simp -implicitDefEqProofs
 refine aL c2 ?_
 simp -implicitDefEqProofs [IW]
theorem Wq{i:Nat}(h:i≤9):aG Tryz.prog 111 [fH i] (B true):=by
 refine pc t111 (by simp) fun _=> ?_
 have:(i:Int)<23:=by omega
 simp -implicitDefEqProofs [IX,IY,this]
theorem Wr{i:Nat}{a b:Int}(h:a=0∨(a=1∧b≤i)):aG Tryz.prog 112 [fH i,.agg [I a,I b]] (B false):=by
 refine pc t112 (by simp) fun _=> ?_
 rcases h with rfl|⟨rfl,h⟩
 ·simp -implicitDefEqProofs [Bt,Bu]
 ·have h1:¬(i:Int)<b:=by omega
  simp -implicitDefEqProofs [Bt,Bu,h1]
theorem Ws(f:AV):aG Tryz.prog 113 [.slice 3 [] 0,f] (.tuple [I 0,I 0]):=by
 refine pc t113 (by simp) fun _=> ?_
 simp -implicitDefEqProofs [IZ]
 refine bP 0 (fun k s=>s.env 10=I 0∧s.env 11=I 0) ?_ ?_
 ·simp
 rintro k s hk ⟨aH,aE⟩
 simp -implicitDefEqProofs [aH,aE,I0]
end Go.Proofs.YtmcdlpegncaihaaGreat.C
namespace Go.Proofs.YtmcdlpegncaihaaGreat.C
open Go.Z4
@[simp] theorem ZJ (r:Nat) (es:List (List AV)):az r (a_ es)=a_ es:=rfl
structure wT (s:St) (bm bl M k:Nat):Prop where
 m:s.loc bm=some [.aZ M]
 o:s.env (1000001+M)=a_ (fm k)
 l:∃a b:Int,s.loc bl=some [I a,I b]∧(a=0∨(a=1∧b≤k))
theorem BL(ns:List Nat){i:Nat}(h:i<ns.length):(aar ns)[i]? =some (BF i ns[i]):=by simp[aar,List.getD_eq_getElem?_getD,h]
theorem Wt{n:Nat}(h:n%2=0):((n:Int).tmod 2==1)=false:=by
 have:(n:Int).tmod 2=((n%2:Nat):Int):=by rw[Int.tmod_eq_emod_of_nonneg (by omega)];rfl
 rw[this,h];rfl
theorem Be{bm bl M i n:Nat}(hi:i≤9)(hn:2≤n∧n≤12∧n%2=0)(hml:bm≠bl){s:St}{K:AV→St→Prop}(h:wT s bm bl M i)(hK:∀s2,wT s2 bm bl M (i+1)→K (I 0) (back s s2)):d_ Tryz.prog 109 [I i,BF i n,.aj bm 0,.aj bl 0] s K:=by
 refine ic t109 (by simp) fun _=> ?_
 obtain⟨hm,ho,a,b,hl,hab⟩:=h
 have c1:=Wp hi
 have c2:=Wq hi
 have c3:=Wr (i:=i) (a:=a) (b:=b) hab
 have c4:=q7 2 12 [(n:Int)]
 rw[q_ _ _ _ (by omega) (by omega)] at c4
 have c5:=Ws (.func (.func 114) [] [.ref [I 1,I i,I n,.slice 3 [] 0]])
 have wU:oS=1000001:=by simp[oS]
 have dc:1000000≤1000001+M:=by omega
 have ev:=Wt hn.2.2
 have Ds:((n:Int) != 1)=true:=by simp;omega
 simp -implicitDefEqProofs only[IT]
 refine ay (fun st=>st.env 2=.aj bm 0∧st.env 3=.aj bl 0∧st.env 5=.ref [I 1,I i,I n,.slice 3 [] 0]∧st.loc bm=some [.aZ M]∧st.env (1000001+M)=a_ (fm i)∧st.loc bl=some [I a,I b]) ?_ ?_
 ·intro k hk
  simp -implicitDefEqProofs
  exact hk _ (by simp[hm,ho,hl,dc])
 rintro st ⟨e2,e3,e5,l1,o1,l2⟩
 refine ay (fun st=>st.env 2=.aj bm 0∧st.env 3=.aj bl 0∧st.env 5=.ref [I 1,I i,I n,.slice 3 [] 0]∧st.loc bm=some [.aZ M]∧st.env (1000001+M)=a_ (fm (i+1))∧st.loc bl=some [I a,I b]) ?_ ?_
 ·intro k hk
  simp -implicitDefEqProofs [e2,e5,l1]
  refine Kq (i:=i) (k:=i) ?_ ?_
  ·simp[o1]
  simp -implicitDefEqProofs
  refine⟨i64 (by decide) (by decide),?_⟩
  refine Wn (k:=i) ?_ ?_
  ·simp[o1]
  simp -implicitDefEqProofs
  refine Wo (k:=i) ?_ ?_
  ·simp
  exact hk _ (by simp[e2,e3,e5,l1,l2])
 clear e2 e3 e5 l1 o1 l2
 rintro st ⟨e2,e3,e5,l1,o1,l2⟩
 refine ay (fun st=>st.env 3=.aj bl 0∧st.env 5=.ref [I 1,I i,I n,.slice 3 [] 0]∧st.loc bm=some [.aZ M]∧st.env (1000001+M)=a_ (fm (i+1))∧st.loc bl=some [I a,I b]) ?_ ?_
 ·intro k hk
  simp -implicitDefEqProofs [e5]
  refine aL c1 ?_
  simp -implicitDefEqProofs [e2,e5,l1]
  refine Kq (i:=i) (k:=i+1) ?_ ?_
  ·simp[o1]
  simp -implicitDefEqProofs [e5]
  refine aL c2 ?_
  simp -implicitDefEqProofs [e3,e5,l2]
  refine aL c3 ?_
  simp -implicitDefEqProofs [e5,Ds]
  refine aL c4 ?_
  simp -implicitDefEqProofs [e5,ev]
  exact hk _ (by simp[e3,e5,l1,o1,l2])
 clear e2 e3 e5 l1 o1 l2
 rintro st ⟨e3,e5,l1,o1,l2⟩
 refine ay (fun st=>st.env 5=.ref [I 1,I i,I n,.slice 3 [] 0]∧st.loc bm=some [.aZ M]∧st.env (1000001+M)=a_ (fm (i+1))∧st.loc bl=some [I 1,I i]) ?_ ?_
 ·intro k hk
  simp -implicitDefEqProofs [e5]
  refine aL c2 ?_
  simp -implicitDefEqProofs [e3,e5,l2]
  exact hk _ (by simp[e5,l1,o1,hml])
 clear e3 e5 l1 o1 l2
 rintro st ⟨e5,l1,o1,l2⟩
 simp -implicitDefEqProofs [e5]
 refine aL c5 ?_
 simp -implicitDefEqProofs [eN,IU]
 exact hK _ ⟨by simp[l1],by simp[o1],1,i,by simp[l2],.inr ⟨rfl,by omega⟩⟩
theorem Wu{ns:List Nat}(h:OKb ns){bm bl M:Nat}(hml:bm≠bl){s:St}{K:AV→St→Prop}(hc:wT s bm bl M 0)(hK:∀s2,K (.tuple [I 0,I 0]) (back s s2)):d_ Tryz.prog 108 [.slice 4 (aar ns) 0,.func (.func 109) [] [.aj bm 0,.aj bl 0]] s K:=by
 refine ic t108 (by simp) fun _=> ?_
 have hlen:=h.len
 simp -implicitDefEqProofs [IQ]
 refine bP ns.length (fun k st=>st.env 1=.func (.func 109) [] [.aj bm 0,.aj bl 0]∧st.env 9=.slice 4 (aar ns) 0∧st.env 10=I ns.length∧st.env 11=I k∧wT st bm bl M k) ?_ ?_
 ·refine⟨by simp,by simp,by simp[q8],by simp,⟨by simp[hc.m],by simp[hc.o],?_⟩⟩
  obtain⟨a,b,h1,h2⟩:=hc.l
  exact⟨a,b,by simp[h1],h2⟩
 rintro k st hk ⟨e1,e9,aH,aE,ec⟩
 simp -implicitDefEqProofs [aH,aE]
 refine bY (fun hlt=> ?_) (fun hge=> ?_)
 ·have hat:=BL ns hlt
  have aJ:=h.each ns[k] (List.getElem_mem _)
  have BM:(k:Int)<(aar ns).length:=by rw[q8];omega
  simp -implicitDefEqProofs [e9,aE,BM,hat]
  intro b hb
  simp -implicitDefEqProofs [e1]
  have hbm:bm≠b:=by rintro rfl;rw[ec.m] at hb;cases hb
  have hbl:bl≠b:=by obtain⟨a,c,h1,_⟩:=ec.l;rintro rfl;rw[h1] at hb;cases hb
  refine Be (by omega) aJ hml (M:=M) ⟨by simp[hbm,ec.m],by simp[ec.o],?_⟩ ?_
  ·obtain⟨a,c,h1,h2⟩:=ec.l
   exact⟨a,c,by simp[hbl,h1],h2⟩
  ·intro s2 c2
   simp -implicitDefEqProofs [aE]
   refine⟨i64 (by omega) (by omega),bz hlt ⟨by simp[e1],by simp[e9],by simp[aH],by simp,⟨by simp[c2.m],by simp[c2.o],?_⟩⟩⟩
   obtain⟨a,c,h1,h2⟩:=c2.l
   exact⟨a,c,by simp[h1],h2⟩
 ·simp -implicitDefEqProofs [eN,IS]
  exact hK _
theorem Ks{ns:List Nat}(h:OKb ns):aG Tryz.prog 74 [.agg (cy ns)] (T3 (0,0,0)):=by
 refine pc t74 (by simp) fun _=> ?_
 have hlen:=h.len
 have hpos:=h.pos
 have c1:=q7 0 12 [0]
 rw[q_ _ _ _ (by decide) (by decide)] at c1
 have c2:=q7 1 30 [(ns.length:Int)]
 rw[q_ _ _ _ (by omega) (by omega)] at c2
 have wU:oS=1000001:=by simp[oS]
 simp -implicitDefEqProofs only[m74]
 refine ay (fun st=>st.env 1=.ref (cy ns)) ?_ ?_
 ·intro k hk
  simp -implicitDefEqProofs
  exact hk _ (by simp)
 rintro st e1
 refine ay (fun st=>st.env 1=.ref (cy ns)) ?_ ?_
 ·intro k hk
  simp -implicitDefEqProofs [e1]
  refine aL c1 ?_
  simp -implicitDefEqProofs [e1,q8]
  refine aL c2 ?_
  simp -implicitDefEqProofs
  exact hk _ (by simp[e1])
 clear e1
 rintro st e1
 simp -implicitDefEqProofs
 intro M BN Kt bm hbm bl hbl
 have hml:bm≠bl:=by rintro rfl;simp at hbl
 simp -implicitDefEqProofs [e1]
 refine Wu h hml (M:=M) ⟨by simp[hml],by simp[fm],0,0,by simp,.inl rfl⟩ fun s2=> ?_
 simp -implicitDefEqProofs [IM]
end Go.Proofs.YtmcdlpegncaihaaGreat.C
namespace Go.Proofs.YtmcdlpegncaihaaGreat.C
open Go.Z4
theorem Wv{ns:List Nat}(h:OKb ns):aG Tryz.prog 116 [.agg (cy ns)] (.tuple [.agg (cy ns),I 0]):=by
 refine pc t116 (by simp) fun _=> ?_
 simp -implicitDefEqProofs [I1]
 intro b
 refine aL (Ks h) ?_
 simp -implicitDefEqProofs [I2]
def lvR(ns:List Nat)(i n:Nat):List (Nat×Nat):=((List.range (ns.getD i 0)).drop n).map (fun k=>(i,k+1))++((List.range ns.length).drop (i+1)).flatMap fun i=>(List.range (ns.getD i 0)).map fun k=>(i,k+1)
theorem Ww(ns:List Nat):∀i,i<ns.length→((List.range ns.length).drop i).flatMap (fun i=>(List.range (ns.getD i 0)).map fun k=>(i,k+1))=lvR ns i 0:=fun i hi=>by
 rw[drop_cons (l:=List.range ns.length) (k:=i) (by simpa using hi)]
 simp[lvR]
theorem Wx(ns:List Nat)(i n:Nat)(h:n<ns.getD i 0):lvR ns i n=(i,n+1)::lvR ns i (n+1):=by
 unfold lvR
 rw[drop_cons (l:=List.range (ns.getD i 0)) (k:=n) (by simpa using h)]
 simp
theorem Wy(ns:List Nat)(i n:Nat)(h:ns.getD i 0≤n):lvR ns i n=((List.range ns.length).drop (i+1)).flatMap fun i=>(List.range (ns.getD i 0)).map fun k=>(i,k+1):=by
 unfold lvR
 rw[List.drop_of_length_le (by simpa using h)]
 rfl
abbrev fo(x:Nat×Nat):List AV:=[j3 x]
theorem Wz{ns:List Nat}(h:OKb ns):aa4 Tryz.prog 140 [] [.ref (cy ns)] ((aT ns).map fo):=by
 refine ps t140 (by simp) fun l hfit=> ?_
 have hlen:=h.len
 simp -implicitDefEqProofs only[Jb]
 refine ay (fun st=>st.env 0=.func (.yield l) [] []∧st.env 16=.slice 4 (aar ns) 0∧st.env 17=I ns.length∧st.env 18=I (0:Nat)∧st.env 1000000=.ghost l ((aT ns).map fo) false) ?_ ?_
 ·intro k hk
  simp -implicitDefEqProofs
  exact hk _ (by simp[q8])
 rintro st ⟨e0,bh,aY,bg,eg⟩
 simp -implicitDefEqProofs
 refine bP ns.length (fun k st=>st.env 0=.func (.yield l) [] []∧st.env 16=.slice 4 (aar ns) 0∧st.env 17=I ns.length∧st.env 18=I k∧st.env 1000000=.ghost l ((((List.range ns.length).drop k).flatMap fun i=>(List.range (ns.getD i 0)).map fun k=>(i,k+1)).map fo) false) ?_ ?_
 ·exact⟨e0,bh,aY,bg,eg⟩
 clear e0 bh aY bg eg st
 rintro i st hi ⟨e0,bh,aY,bg,eg⟩
 simp -implicitDefEqProofs only[cK]
 simp -implicitDefEqProofs [aY,bg]
 refine bY (fun hlt=> ?_) (fun hge=> ?_)
 ·rw[Ww ns i hlt] at eg
  have hat:=BL ns hlt
  have aJ:=h.each ns[i] (List.getElem_mem _)
  have hgd:ns.getD i 0=ns[i]:=by simp[List.getD_eq_getElem?_getD,hlt]
  obtain⟨N,hN⟩:∃N,N=ns[i]:=⟨_,rfl⟩
  rw[←hN] at hat aJ hgd
  refine fP ?_
  refine ay (fun st=>st.env 0=.func (.yield l) [] []∧st.env 3=I i∧st.env 4=.ref [I 1,I i,I N,.slice 3 [] 0]∧st.env 16=.slice 4 (aar ns) 0∧st.env 17=I ns.length∧st.env 18=I i∧st.env 1000000=.ghost l ((lvR ns i 0).map fo) false) ?_ ?_
  ·intro k hk
   have BM:(i:Int)<(aar ns).length:=by rw[q8];omega
   simp -implicitDefEqProofs [bh,bg,BM,hat]
   intro b hb
   exact hk _ (by simp[e0,bh,aY,bg,eg])
  clear e0 bh aY bg eg
  rintro st ⟨e0,e3,e4,bh,aY,bg,eg⟩
  refine ay (fun st=>st.env 0=.func (.yield l) [] []∧st.env 3=I i∧st.env 4=.ref [I 1,I i,I N,.slice 3 [] 0]∧(∃b,st.env 5=.aq b 0 0 0 3∧st.loc b=some [])∧st.env 16=.slice 4 (aar ns) 0∧st.env 17=I ns.length∧st.env 18=I i∧st.env 1000000=.ghost l ((lvR ns i 0).map fo) false) ?_ ?_
  ·intro k hk
   simp -implicitDefEqProofs [e4]
   intro b hb
   exact hk _ (by simp[e0,e3,e4,bh,aY,bg,eg])
  clear e0 e3 e4 bh aY bg eg
  rintro st ⟨e0,e3,e4,⟨b5,e5,l5⟩,bh,aY,bg,eg⟩
  refine ay (fun st=>st.env 0=.func (.yield l) [] []∧st.env 3=I i∧st.env 4=.ref [I 1,I i,I N,.slice 3 [] 0]∧st.env 5=.aq b5 0 0 0 3∧st.env 16=.slice 4 (aar ns) 0∧st.env 17=I ns.length∧st.env 18=I i∧st.env 1000000=.ghost l ((lvR ns i 0).map fo) false) ?_ ?_
  ·intro k hk
   simp -implicitDefEqProofs [e4,e5,l5]
   exact hk _ (by simp[e0,e3,e4,e5,bh,aY,bg,eg])
  clear e0 e3 e4 e5 l5 bh aY bg eg
  rintro st ⟨e0,e3,e4,e5,bh,aY,bg,eg⟩
  refine ay (fun st=>st.env 0=.func (.yield l) [] []∧st.env 3=I i∧st.env 5=.aq b5 0 0 0 3∧st.env 16=.slice 4 (aar ns) 0∧st.env 17=I ns.length∧st.env 18=I i∧st.env 33=I (N+1:Nat)∧st.env 34=I (0:Nat)∧st.env 1000000=.ghost l ((lvR ns i 0).map fo) false) ?_ ?_
  ·intro k hk
   simp -implicitDefEqProofs [e4]
   exact⟨i64 (by omega) (by omega),hk _ (by simp[e0,e3,e5,bh,aY,bg,eg])⟩
  clear e0 e3 e4 e5 bh aY bg eg
  rintro st ⟨e0,e3,e5,bh,aY,bg,cr,cC,eg⟩
  simp -implicitDefEqProofs only[gO]
  refine bP (N+1) (fun n st=>st.env 0=.func (.yield l) [] []∧st.env 3=I i∧st.env 5=.aq b5 0 0 0 3∧st.env 16=.slice 4 (aar ns) 0∧st.env 17=I ns.length∧st.env 18=I i∧st.env 33=I (N+1:Nat)∧st.env 34=I n∧st.env 1000000=.ghost l ((lvR ns i (n - 1)).map fo) false) ?_ ?_
  ·exact⟨e0,e3,e5,bh,aY,bg,cr,cC,eg⟩
  clear e0 e3 e5 bh aY bg cr cC eg st
  rintro n st hn ⟨e0,e3,e5,bh,aY,bg,cr,cC,eg⟩
  simp -implicitDefEqProofs only[cK]
  simp -implicitDefEqProofs [cr,cC]
  refine bY (fun cq=> ?_) (fun hge=> ?_)
  ·refine fP ?_
   refine ay (fun st=>st.env 0=.func (.yield l) [] []∧st.env 3=I i∧st.env 5=.aq b5 0 0 0 3∧st.env 6=I n∧st.env 16=.slice 4 (aar ns) 0∧st.env 17=I ns.length∧st.env 18=I i∧st.env 33=I (N+1:Nat)∧st.env 34=I n∧st.env 1000000=.ghost l ((lvR ns i (n - 1)).map fo) false) ?_ ?_
   ·intro k hk
    simp -implicitDefEqProofs [cC]
    exact hk _ (by simp[e0,e3,e5,bh,aY,bg,cr,cC,eg])
   clear e0 e3 e5 bh aY bg cr cC eg
   rintro st ⟨e0,e3,e5,e6,bh,aY,bg,cr,cC,eg⟩
   refine ay (fun st=>st.env 0=.func (.yield l) [] []∧st.env 3=I i∧st.env 5=.aq b5 0 0 0 3∧st.env 6=I n∧(∃b,st.env 7=.aj b 0∧st.loc b=some [I i,I n,I 0,I 0])∧st.env 16=.slice 4 (aar ns) 0∧st.env 17=I ns.length∧st.env 18=I i∧st.env 33=I (N+1:Nat)∧st.env 34=I n∧st.env 1000000=.ghost l ((lvR ns i (n - 1)).map fo) false) ?_ ?_
   ·intro k hk
    simp -implicitDefEqProofs [e3,e6]
    intro b hb
    exact hk _ (by simp[e0,e3,e5,e6,bh,aY,bg,cr,cC,eg])
   clear e0 e3 e5 e6 bh aY bg cr cC eg
   rintro st ⟨e0,e3,e5,e6,⟨b7,e7,l7⟩,bh,aY,bg,cr,cC,eg⟩
   refine ay (fun st=>st.env 0=.func (.yield l) [] []∧st.env 3=I i∧st.env 5=.aq b5 0 0 0 3∧st.env 6=I n∧st.env 7=.aj b7 0∧st.loc b7=some [I i,I n,I 0,I 0]∧st.env 8=B (decide (0<n))∧st.env 9=I 0∧st.env 16=.slice 4 (aar ns) 0∧st.env 17=I ns.length∧st.env 18=I i∧st.env 33=I (N+1:Nat)∧st.env 34=I n∧st.env 1000000=.ghost l ((lvR ns i (n - 1)).map fo) false) ?_ ?_
   ·intro k hk
    simp -implicitDefEqProofs [e6]
    exact hk _ (by simp[e0,e3,e5,e6,e7,l7,bh,aY,bg,cr,cC,eg])
   clear e0 e3 e5 e6 e7 l7 bh aY bg cr cC eg
   rintro st ⟨e0,e3,e5,e6,e7,l7,e8,e9,bh,aY,bg,cr,cC,eg⟩
   refine ay (fun st=>st.env 0=.func (.yield l) [] []∧st.env 3=I i∧st.env 5=.aq b5 0 0 0 3∧st.env 7=.aj b7 0∧st.loc b7=some [I i,I n,I 0,I 0]∧st.env 8=B (decide (0<n))∧st.env 9=I 0∧st.env 16=.slice 4 (aar ns) 0∧st.env 17=I ns.length∧st.env 18=I i∧st.env 33=I (N+1:Nat)∧st.env 34=I n∧st.env 1000000=.ghost l ((lvR ns i (n - 1)).map fo) false) ?_ ?_
   ·intro k hk
    simp -implicitDefEqProofs only[gO]
    refine bP 0 (fun _ st=>st.env 0=.func (.yield l) [] []∧st.env 3=I i∧st.env 5=.aq b5 0 0 0 3∧st.env 6=I n∧st.env 7=.aj b7 0∧st.loc b7=some [I i,I n,I 0,I 0]∧st.env 8=B (decide (0<n))∧st.env 9=I 0∧st.env 16=.slice 4 (aar ns) 0∧st.env 17=I ns.length∧st.env 18=I i∧st.env 33=I (N+1:Nat)∧st.env 34=I n∧st.env 1000000=.ghost l ((lvR ns i (n - 1)).map fo) false) ?_ ?_
    ·exact⟨e0,e3,e5,e6,e7,l7,e8,e9,bh,aY,bg,cr,cC,eg⟩
    clear e0 e3 e5 e6 e7 l7 e8 e9 bh aY bg cr cC eg st
    rintro _ st _ ⟨e0,e3,e5,e6,e7,l7,e8,e9,bh,aY,bg,cr,cC,eg⟩
    simp -implicitDefEqProofs [e5]
    exact hk _ (by simp[e0,e3,e5,e7,l7,e8,e9,bh,aY,bg,cr,cC,eg])
   clear e0 e3 e5 e6 e7 l7 e8 e9 bh aY bg cr cC eg
   rintro st ⟨e0,e3,e5,e7,l7,e8,e9,bh,aY,bg,cr,cC,eg⟩
   refine ay (fun st=>st.env 0=.func (.yield l) [] []∧st.env 3=I i∧st.env 5=.aq b5 0 0 0 3∧st.env 9=I 0∧st.env 16=.slice 4 (aar ns) 0∧st.env 17=I ns.length∧st.env 18=I i∧st.env 33=I (N+1:Nat)∧st.env 34=I n∧st.env 1000000=.ghost l ((lvR ns i n).map fo) false) ?_ ?_
   ·intro k hk
    cases n with
    |zero=>
     have BO:st.env 8=B false:=by simpa using e8
     simp -implicitDefEqProofs [BO]
     exact hk _ (by simpa[e0,e3,e5,e9,bh,aY,bg,cr,cC] using eg)
    |succ n=>
     have BO:st.env 8=B true:=by simpa using e8
     rw[show n+1 - 1=n from rfl,Wx ns i n (by omega)] at eg
     simp only[List.map_cons] at eg
     simp -implicitDefEqProofs [BO,e0,e7,l7,eg]
     exact hk _ (by simp[e0,e3,e5,e9,bh,aY,bg,cr,cC])
   clear e0 e3 e5 e7 l7 e8 e9 bh aY bg cr cC eg
   rintro st ⟨e0,e3,e5,e9,bh,aY,bg,cr,cC,eg⟩
   refine ay (fun st=>st.env 0=.func (.yield l) [] []∧st.env 3=I i∧st.env 5=.aq b5 0 0 0 3∧st.env 16=.slice 4 (aar ns) 0∧st.env 17=I ns.length∧st.env 18=I i∧st.env 33=I (N+1:Nat)∧st.env 34=I n∧st.env 78=I 0∧st.env 79=I 0∧st.env 1000000=.ghost l ((lvR ns i n).map fo) false) ?_ ?_
   ·intro k hk
    simp -implicitDefEqProofs [e9]
    exact hk _ (by simp[e0,e3,e5,bh,aY,bg,cr,cC,eg])
   clear e0 e3 e5 e9 bh aY bg cr cC eg
   rintro st ⟨e0,e3,e5,bh,aY,bg,cr,cC,pL,jZ,eg⟩
   simp -implicitDefEqProofs only[gO]
   refine bP 0 (fun _ st=>st.env 0=.func (.yield l) [] []∧st.env 3=I i∧st.env 5=.aq b5 0 0 0 3∧st.env 16=.slice 4 (aar ns) 0∧st.env 17=I ns.length∧st.env 18=I i∧st.env 33=I (N+1:Nat)∧st.env 34=I n∧st.env 78=I 0∧st.env 79=I 0∧st.env 1000000=.ghost l ((lvR ns i n).map fo) false) ?_ ?_
   ·exact⟨e0,e3,e5,bh,aY,bg,cr,cC,pL,jZ,eg⟩
   clear e0 e3 e5 bh aY bg cr cC pL jZ eg st
   rintro _ st _ ⟨e0,e3,e5,bh,aY,bg,cr,cC,pL,jZ,eg⟩
   simp -implicitDefEqProofs [pL,jZ,cC]
   exact⟨i64 (by omega) (by omega),bz (by omega) (by simp[e0,e3,e5,bh,aY,bg,cr,eg])⟩
  ·obtain rfl:n=N+1:=by omega
   rw[show N+1 - 1=N from rfl,Wy ns i N (by omega)] at eg
   simp -implicitDefEqProofs [bg]
   exact⟨i64 (by omega) (by omega),bz hlt (by simp[e0,bh,aY,eg])⟩
 ·obtain rfl:i=ns.length:=by omega
  simp -implicitDefEqProofs
  rw[List.drop_of_length_le (by simp)] at eg
  exact⟨[],.inl ⟨by simpa using eg,rfl⟩⟩
end Go.Proofs.YtmcdlpegncaihaaGreat.C
namespace Go.Proofs.YtmcdlpegncaihaaGreat.C
open Go.Z4
theorem WA(ns:List Nat):aG Tryz.prog 118 [.agg (cy ns)] (.func (.func 140) [] [.ref (cy ns)]):=by
 refine pc t118 (by simp) fun _=> ?_
 simp -implicitDefEqProofs [I5,I6]
theorem WB{f:FuncId}{caps:List AV}{l:List (Nat×Nat)}(hf:aa4 Tryz.prog f [] caps (l.map fo))(hl:l.length≤1000):aG Tryz.prog 139 [.lit (.slice none 0 0),.func (.func f) [] caps] (LV l):=by
 refine pc t139 (by simp) fun _=> ?_
 simp -implicitDefEqProofs only[I_]
 refine ay (fun st=>st.env 1=.func (.func f) [] caps∧∃b,st.env 2=.aj b 0∧st.loc b=some [.slice 4 [] 3000]) ?_ ?_
 ·intro k hk
  simp -implicitDefEqProofs
  intro b
  refine .inl ⟨4,0,rfl,?_⟩
  exact hk _ (by simp)
 rintro st ⟨e1,b,e2,l2⟩
 refine ay (fun st=>st.env 2=.aj b 0∧st.loc b=some [.slice 4 (l.map j3) 3000]) ?_ ?_
 ·intro k hk
  refine ay (fun st=>st.env 6=.func (.func f) [] caps∧st.env 2=.aj b 0∧st.loc b=some [.slice 4 [] 3000]) ?_ ?_
  ·intro k2 hk2
   simp -implicitDefEqProofs [e1]
   exact hk2 _ (by simp[e2,l2])
  clear e1 e2 l2
  rintro st ⟨e6,e2,l2⟩
  simp -implicitDefEqProofs [e6]
  have E2:=e2
  refine EN (l.map fo) (fun j st=>st.env 2=.aj b 0∧st.loc b=some [.slice 4 ((l.take j).map j3) 3000]) ?_ ?_ ?_ ?_ ?_
  ·exact hf
  ·intro y hy
   obtain⟨x,_,rfl⟩:=List.mem_map.1 hy
   exact⟨rfl,rfl⟩
  ·simp[e2,l2]
  ·rintro j st hj hb ⟨e2,l2⟩
   have hj:j<l.length:=by simpa using hj
   have hg:(l.map fo).getD j []=fo l[j]:=by simp[List.getD_eq_getElem?_getD,hj]
   have ht:=dW (l:=l.map j3) (k:=j) (by simpa using hj)
   rw[hg]
   simp -implicitDefEqProofs [e2,l2]
   intro b5 gY
   have hO:¬b=b5:=by rintro rfl;rw[l2] at gY;cases gY
   simp -implicitDefEqProofs [hO]
   refine⟨by omega,by omega,?_⟩
   simp[E2]
   rw[ht]
   simp
  ·rintro st hb ⟨e2,l2⟩
   refine hk _ ⟨e2,?_⟩
   rw[l2]
   simp[List.take_of_length_le]
 clear e1 e2 l2
 rintro st ⟨e2,l2⟩
 simp -implicitDefEqProofs [e2,l2,Ja]
theorem WC{f:FuncId}{caps:List AV}{l:List (Nat×Nat)}(hf:aa4 Tryz.prog f [] caps (l.map fo))(hl:l.length≤1000):aG Tryz.prog 117 [.func (.func f) [] caps] (LV l):=by
 refine pc t117 (by simp) fun _=> ?_
 simp -implicitDefEqProofs [I3]
 refine aL (WB hf hl) ?_
 simp -implicitDefEqProofs [I4]
theorem Ku{ns:List Nat}(h:OKb ns):aG Tryz.prog 75 [.agg (cy ns)] (.tuple [LV (aT ns),I 0]):=by
 refine pc t75 (by simp) fun _=> ?_
 have hl:=h.leaves
 simp -implicitDefEqProofs [Jc]
 refine aL (Wv h) ?_
 simp -implicitDefEqProofs
 intro b
 refine aL (WA ns) ?_
 simp -implicitDefEqProofs
 refine aL (WC (Wz h) (by omega)) ?_
 simp -implicitDefEqProofs [Jd]
theorem ace(a b:Nat):((a:Int)==(b:Int))=(a==b):=by
 by_cases h:a=b
 ·subst h;simp
 ·rw[beq_eq_false_iff_ne.2 h,beq_eq_false_iff_ne.2 (by omega)]
theorem WD(x y:Nat×Nat):cD [false,false,false,false] (j3 x).cells (j3 y).cells=some (x==y):=by
 obtain⟨a,b⟩:=x
 obtain⟨c,d⟩:=y
 simp[cD,ace]
 rfl
theorem WE(l:List (Nat×Nat))(x:Nat×Nat):aG Tryz.prog 120 [LV l,j3 x] (I (kQ l x)):=by
 refine pc t120 (by simp) fun hfit=> ?_
 have hl:=aaJ (hfit 0)
 simp only[List.length_map] at hl
 simp -implicitDefEqProofs only[I7]
 refine ay (fun st=>st.env 0=LV l∧st.env 3=.ref (j3 x).cells) ?_ ?_
 ·intro k hk
  simp -implicitDefEqProofs
  exact hk _ (by simp)
 rintro st ⟨e0,e3⟩
 simp -implicitDefEqProofs only[cK]
 simp -implicitDefEqProofs [e0]
 refine bP l.length (fun k st=>st.env 0=LV l∧st.env 3=.ref (j3 x).cells∧st.env 7=I l.length∧st.env 8=I k∧∀y∈l.take k,(y==x)=false) ?_ ?_
 ·simp[e0,e3]
 clear e0 e3 st
 rintro k st hk ⟨e0,e3,e7,e8,hno⟩
 simp -implicitDefEqProofs [e7,e8]
 refine bY (fun hlt=> ?_) (fun hge=> ?_)
 ·have hq:=WD x l[k]
  simp only[AV.cells] at hq
  have hbc:((x.1:Int)==(l[k].1:Int)&&(x.2:Int)==(l[k].2:Int))=(x==l[k]):=by rw[ace,ace];rfl
  refine fP ?_
  refine ay (fun st=>st.env 0=LV l∧st.env 3=.ref (j3 x).cells∧st.env 5=I k∧st.env 7=I l.length∧st.env 8=I k) ?_ ?_
  ·intro k1 bq
   simp -implicitDefEqProofs [e8]
   exact bq _ (by simp[e0,e3,e7,e8])
  clear e0 e3 e7 e8
  rintro st ⟨e0,e3,e5,e7,e8⟩
  simp -implicitDefEqProofs [e0,e3,e5,hlt]
  refine c8 (fun he=> ?_) (fun he=> ?_)
  ·rw[hbc] at he
   have he:l[k]=x:=(beq_iff_eq.1 he).symm
   have hc:kQ l x=k:=n6 hlt (by simp[he]) hno
   simp -implicitDefEqProofs [e5,Bv,hc]
  ·rw[hbc] at he
   have he:(l[k]==x)=false:=by rw[beq_eq_false_iff_ne] at he⊢;exact fun e=>he e.symm
   simp -implicitDefEqProofs [e8]
   refine⟨i64 (by omega) (by omega),bz hlt ⟨by simp[e0],by simp[e3],by simp[e7],by simp,?_⟩⟩
   intro y1 y2 hy
   rw[dW hlt,List.mem_append,List.mem_singleton] at hy
   rcases hy with hy|hy
   ·have:=hno _ hy
    simpa using this
   ·rw[hy]
    simpa using he
 ·obtain rfl:k=l.length:=by omega
  rw[List.take_length] at hno
  have hc:kQ l x= -1:=pF hno
  simp -implicitDefEqProofs [Bv,hc]
theorem WG{ns:List Nat}(h:OKb ns){n:Nat}(hn:n<(aT ns).length):aG Tryz.prog 77 [.agg (cy ns),I n] (.tuple (if 0≤lQ ns n then [I (lQ ns n),I 0] else [I 0,I 4])):=by
 refine pc t77 (by simp) fun _=> ?_
 have hL:=h.leaves
 have c1:=Ku h
 have c2:=q7 0 (((aT ns).length:Int) - 1) [(n:Int)]
 rw[q_ _ _ _ (by omega) (by omega)] at c2
 obtain⟨⟨g,q⟩,hx⟩:∃x,x=(aT ns)[n]:=⟨_,rfl⟩
 have hm:=We (ns:=ns) (x:=(g,q)) (by rw[hx];exact List.getElem_mem _)
 simp only at hm
 have hgd:ns.getD g 0=ns[g]'hm.1:=by simp[List.getD_eq_getElem?_getD,hm.1]
 obtain⟨N,hN⟩:∃N,N=ns[g]'hm.1:=⟨_,rfl⟩
 have hG:=BL ns hm.1
 have aJ:=h.each (ns[g]'hm.1) (List.getElem_mem _)
 rw[←hN] at hG aJ hgd
 have Z9:lQ ns n=if 0≤kQ (aT ns) (g,N+1 - q)∧kQ (aT ns) (g,N+1 - q)≠n then kQ (aT ns) (g,N+1 - q) else -1:=by
  unfold lQ
  have:(aT ns).getD n (0,0)=(g,q):=by simp[List.getD_eq_getElem?_getD,hn,hx]
  simp only[this,hgd]
 have c3:=WE (aT ns) (g,N+1 - q)
 have hp:=Kj (aT ns) (g,N+1 - q)
 obtain⟨p,WH⟩:∃p,p=kQ (aT ns) (g,N+1 - q):=⟨_,rfl⟩
 rw[←WH] at c3 Z9 hp
 have hcast:((N+1 - q:Nat):Int)=(N:Int)+1 - q:=by omega
 rw[show j3 (g,N+1 - q)=.agg [I g,I ((N:Int)+1 - q),I 0,I 0] by simp[hcast]] at c3
 obtain⟨L,iT⟩:∃L,L=aT ns:=⟨_,rfl⟩
 rw[←iT] at c1 c2 c3
 simp only[←iT] at hx hn hL hp
 simp -implicitDefEqProofs only[Je]
 refine ay (fun st=>st.env 1=I n∧st.env 2=.ref (cy ns)) ?_ ?_
 ·intro k hk
  simp -implicitDefEqProofs
  exact hk _ (by simp)
 rintro st ⟨e1,e2⟩
 refine ay (fun st=>st.env 1=I n∧st.env 2=.ref (cy ns)∧st.env 6=LV L∧st.env 7=I 0) ?_ ?_
 ·intro k hk
  simp -implicitDefEqProofs [e2]
  refine aL c1 ?_
  simp -implicitDefEqProofs
  exact hk _ (by simp[e1,e2])
 clear e1 e2
 rintro st ⟨e1,e2,e6,e7⟩
 refine ay (fun st=>st.env 1=I n∧st.env 2=.ref (cy ns)∧st.env 6=LV L) ?_ ?_
 ·intro k hk
  simp -implicitDefEqProofs [e1,e6,e7]
  refine⟨i64 (by omega) (by omega),?_⟩
  refine aL c2 ?_
  simp -implicitDefEqProofs
  exact hk _ (by simp[e1,e2,e6])
 clear e1 e2 e6 e7
 rintro st ⟨e1,e2,e6⟩
 refine ay (fun st=>st.env 1=I n∧st.env 2=.ref (cy ns)∧st.env 6=LV L∧∃b,st.env 8=.aj b 0∧st.loc b=some [I g,I q,I 0,I 0]) ?_ ?_
 ·intro k hk
  simp -implicitDefEqProofs [e1,e6,hn,←hx]
  intro b hb
  exact hk _ (by simp[e1,e2,e6])
 clear e1 e2 e6
 rintro st ⟨e1,e2,e6,b8,e8,l8⟩
 refine ay (fun st=>st.env 1=I n∧st.env 6=LV L∧∃b,st.env 8=.aj b 0∧st.loc b=some [I g,I ((N:Int)+1 - q),I 0,I 0]) ?_ ?_
 ·intro k hk
  have hgl:(g:Int)<(aar ns).length:=by rw[q8];omega
  simp -implicitDefEqProofs [e2,e8,l8,hgl,hG]
  refine⟨i64 (by omega) (by omega),i64 (by omega) (by omega),?_⟩
  exact hk _ (by simp[e1,e6,e8])
 clear e1 e2 e6 e8 l8
 rintro st ⟨e1,e6,b8,e8,l8⟩
 rw[cK]
 refine ay (fun st=>st.env 1=I n∧st.env 9=I p∧∃b c d e,st.env 8=.aj b 0∧st.loc b=some [I c,I d,I e,I 0]) ?_ ?_
 ·intro k hk
  simp -implicitDefEqProofs [e6,e8,l8]
  refine aL c3 ?_
  simp -implicitDefEqProofs
  refine hk _ ?_
  exact⟨by simp[e1],by simp,b8,g,(N:Int)+1 - q,0,by simp[e8],by simp[l8]⟩
 clear e1 e6 e8 l8
 rintro st ⟨e1,e9,b,c,d,e,e8,l8⟩
 by_cases hc:0≤p∧p≠n
 ·rw[if_pos hc] at Z9
  have h1:=hc.1
  have h3:(p != (n:Int))=true:=by simp[hc.2]
  rw[Z9,if_pos hc.1]
  simp -implicitDefEqProofs [e1,e9,e8,l8,h1,h3,wJ]
 ·rw[if_neg hc] at Z9
  rw[Z9,if_neg (by omega)]
  by_cases h1:0≤p
  ·have h2:p=n:=by
    by_cases h2:p=n
    ·exact h2
    ·exact absurd ⟨h1,h2⟩ hc
   have h3:(p != (n:Int))=false:=by simp[h2]
   simp -implicitDefEqProofs [e1,e9,e8,l8,h1,h3,wJ]
  ·simp -implicitDefEqProofs [e9,e8,l8,h1,wJ]
end Go.Proofs.YtmcdlpegncaihaaGreat.C
namespace Go.Proofs.YtmcdlpegncaihaaGreat.C
open Go.Z4
theorem WI{x:AV}(h:x.erase0=x)(r:Nat):az r x=x:=by
 cases x<;>first|rfl|skip
 rename_i sz xs q
 simp at h
 subst h
 simp
theorem jy{cs:List AV}(h:cs.map AV.erase0=cs)(r:Nat):cs.map (az r)=cs:=by
 have e:∀x∈cs,az r x=x:=fun x hx=>by
  obtain⟨i,hi,rfl⟩:=List.getElem_of_mem hx
  apply WI
  have:=congrArg (fun l=>l[i]?) h
  simpa[hi] using this
 calc cs.map (az r)=cs.map id:=List.map_congr_left e
  _=cs:=by simp
def One(x:AV):Prop:=x.cells=[x]∧x.erase0=x∧x.bE=true
structure j4 (cs l:List AV) (cap:Nat):Prop where
 le:l.length≤cap
 len:cs.length=cap
 cells:cs.take l.length=l
 one:∀x∈cs,One x
def aah(s0:St)(loc:Nat→Option (List AV))(v:AV)(l:List AV):Prop:=(l=[]∧v=.lit (.slice none 0 0))∨∃b cap cs,l≠[]∧v=.aq b 0 l.length cap 1∧loc b=some cs∧j4 cs l cap∧eZ s0 b
theorem j4.erase{cs l:List AV}{cap:Nat}(h:j4 cs l cap):cs.map AV.erase0=cs:=by
 calc cs.map AV.erase0=cs.map id:=List.map_congr_left fun x hx=>(h.one x hx).2.1
  _=cs:=by simp
theorem aah.pR{s0:St}{loc loc':Nat→Option (List AV)}{v:AV}{l:List AV}(h:aah s0 loc v l)(hl:∀c cs,loc c=some cs→cs.map AV.erase0=cs→loc' c=some cs):aah s0 loc' v l:=by
 rcases h with h|⟨b,cap,cs,h1,h2,h3,h4,h5⟩
 ·exact .inl h
 ·exact .inr ⟨b,cap,cs,h1,h2,hl b cs h3 h4.erase,h4,h5⟩
theorem aah.aB{s0:St}{loc:Nat→Option (List AV)}{v:AV}{l:List AV}(h:aah s0 loc v l)(r:Nat):az r v=v:=by rcases h with ⟨_,rfl⟩|⟨b,cap,cs,h1,rfl,_⟩<;>rfl
theorem aah.erase{s0:St}{loc:Nat→Option (List AV)}{v:AV}{l:List AV}(h:aah s0 loc v l):v.erase=v:=by rcases h with ⟨_,rfl⟩|⟨b,cap,cs,h1,rfl,_⟩<;>rfl
theorem aah.erase0{s0:St}{loc:Nat→Option (List AV)}{v:AV}{l:List AV}(h:aah s0 loc v l):v.erase0=v:=by rcases h with ⟨_,rfl⟩|⟨b,cap,cs,h1,rfl,_⟩<;>rfl
theorem aah.ag{s0:St}{loc:Nat→Option (List AV)}{v:AV}{l:List AV}(h:aah s0 loc v l)(s:St)(d:Nat):aap s d v=s.set d v:=by rcases h with ⟨_,rfl⟩|⟨b,cap,cs,h1,rfl,_⟩<;>rfl
theorem BP{y:AV}(hy:One y):(List.flatMap AV.cells [y]).map AV.erase0=[y]:=by simp[hy.1,hy.2.1]
theorem Kv(r:Nat)(z:AV):(List.replicate r [z]).flatten=List.replicate r z:=by
 induction r with
 |zero=>rfl
 |succ r ih=>rw[List.replicate_succ,List.flatten_cons,ih];rfl
theorem BQ{P:Program}{ms:List au}{K:St→Prop}{s0 s:St}{d bytes q:Nat}{v y z:AV}{l:List AV}(h:aah s0 s.loc v l)(hnew:∀b,s.loc b=none→eZ s0 b)(hl:l.length≤1000)(hy:One y)(hz:One z)(hb:bytes≤1000)
  (hK:∀b cs n cap,eZ s0 b→aah s0 (s.new b cs).loc (.aq b 0 n cap 1) (l++[y])→(s.loc b=none∨∃o len cap sz,v=.aq b o len cap sz)→vcs P ms K ((s.new b cs).set d (.aq b 0 n cap 1))):
  iJ P ms K s d 1 bytes [z] v (.slice 1 [y] q):=by
 have hmul:∀n,n≤1001→n*bytes≤140737488355328:=fun n hn=>Nat.le_trans (Nat.mul_le_mul hn hb) (by decide)
 have Kw:∀r,j4 ([y]++List.replicate r z) [y] (1+r):=fun r=>⟨by simp,by simp;omega,by simp,fun x hx=>by
  rcases List.mem_append.1 hx with hx|hx
  ·rw[List.mem_singleton.1 hx];exact hy
  ·rw[(List.mem_replicate.1 hx).2];exact hz⟩
 rcases h with ⟨rfl,rfl⟩|⟨b,cap,cs,h1,rfl,h3,h4,h5⟩
 ·refine⟨rfl,by simp,hmul _ (by simp),by simp,fun b r hbn=> ?_⟩
  rw[BP hy,Kv]
  exact hK b _ _ _ (hnew b hbn) (.inr ⟨b,1+r,_,by simp,by simp,by rw[jm,if_pos rfl],by simpa using Kw r,hnew b hbn⟩) (.inl hbn)
 ·have hle:=h4.le
  have hlen:=h4.len
  have h0:¬cap=0:=by rintro rfl;have:=List.length_pos_iff.2 h1;omega
  refine⟨rfl,rfl,by simp,hmul _ (by simp;omega),by simp;omega,?_⟩
  rw[if_neg h0,h3]
  refine⟨by omega,fun hr=> ?_,fun hr b' r hbn=> ?_⟩
  ·simp only[List.length_cons,List.length_nil] at hr
   rw[BP hy,Nat.zero_add,Nat.mul_one]
   refine hK b _ _ _ h5 (.inr ⟨b,cap,_,by simp,by simp,by rw[jm,if_pos rfl],⟨by simp;omega,?_,?_,fun x hx=> ?_⟩,h5⟩) (.inr ⟨_,_,_,_,rfl⟩)
   ·show(cs.set l.length y).length=cap
    rw[List.length_set];exact hlen
   ·show(cs.set l.length y).take (l++[y]).length=l++[y]
    rw[List.length_append,List.length_singleton,List.take_succ_eq_append_getElem (by rw[List.length_set];omega),List.take_set_of_le (Nat.le_refl _),h4.cells]
    simp
   ·replace hx:x∈cs.set l.length y:=hx
    rcases List.mem_or_eq_of_mem_set hx with hx|rfl
    ·exact h4.one x hx
    ·exact hy
  ·rw[BP hy,Kv,Nat.mul_one,List.drop_zero,h4.cells]
   have WJ:l.map AV.erase0=l:=by
    have:∀x∈l,One x:=fun x hx=>by
     have hx':x∈cs.take l.length:=by rw[h4.cells];exact hx
     exact h4.one x (List.mem_of_mem_take hx')
    calc l.map AV.erase0=l.map id:=List.map_congr_left fun x hx=>(this x hx).2.1
     _=l:=by simp
   rw[WJ]
   refine hK b' _ _ _ (hnew b' hbn) (.inr ⟨b',l.length+1+r,_,by simp,by simp,by rw[jm,if_pos rfl],⟨by simp,by simp;omega,?_,fun x hx=> ?_⟩,hnew b' hbn⟩) (.inl hbn)
   ·rw[←List.append_assoc,List.take_append_of_le_length (by simp)]
    rw[List.take_of_length_le (by simp)]
   ·rcases List.mem_append.1 hx with hx|hx
    ·have hx':x∈cs.take l.length:=by rw[h4.cells];exact hx
     exact h4.one x (List.mem_of_mem_take hx')
    ·exact(Kw r).one x hx
theorem tN:∀(n:Nat) (cs:List AV),n≤cs.length→(∀x∈cs,x.erase0=x)→chunk 1 cs n=cs.take n
 |0,_,_,_=>rfl
 |n+1,[],h,_=>by simp at h
 |n+1,c::cs,h,hx=>by
  have ih:=tN n cs (by simpa using h) fun x h=>hx x (List.mem_cons_of_mem _ h)
  have hc:=hx c (List.mem_cons_self ..)
  show(if 1=1 then ((c::cs).getD 0 .any).erase0 else _)::chunk 1 ((c::cs).drop 1) n=_
  rw[if_pos rfl]
  simp[hc,ih]
theorem j4.chunk{cs l:List AV}{cap:Nat}(h:j4 cs l cap):chunk 1 cs l.length=l:=by
 rw[tN _ _ (by have:=h.le;have:=h.len;omega) fun x hx=>(h.one x hx).2.1]
 exact h.cells
theorem j4.c1{cs l:List AV}{cap:Nat}(h:j4 cs l cap):cs.all AV.bE=true:=List.all_eq_true.2 fun x hx=>(h.one x hx).2.2
theorem wV{P:Program}{ms:List au}{K:St→Prop}{s0 s:St}{k:Nat}{l:List AV}(h:aah s0 s.loc (s.env k) l)(hl:l.length≤1000)(hK:∀loc',(∀c cs,s0.loc c=some cs→cs.map AV.erase0=cs→loc' c=s.loc c)→vcs P ms K ⟨ak s.env k (.slice 1 l 0),loc'⟩):mI P ms K s k (s.env k):=by
 rcases h with ⟨rfl,hv⟩|⟨b,cap,cs,h1,hv,h3,h4,h5⟩
 ·rw[hv]
  exact⟨1,hK _ fun _ _ _ _=>rfl⟩
 ·rw[hv]
  have hle:=h4.le
  have hlen:=h4.len
  show nS P ms K s k b l.length 1 (s.loc b)
  rw[h3]
  refine⟨by omega,h4.c1,by omega,?_⟩
  rw[h4.chunk]
  exact hK _ fun c cs' h6 h7=>Z5 _ _ (by rintro rfl;exact h5 cs' h6 h7)
def sB(B:Nat):St:=⟨fun _=>.any,fun c=>if c=B then some [] else none⟩
theorem WK{B b:Nat}(h:b≠B):eZ (sB B) b:=fun cs h1 _=>by simp[sB,h] at h1
theorem aah.kS{s0:St}{loc loc':Nat→Option (List AV)}{v:AV}{l:List AV}(h:aah s0 loc v l)(hl:∀c cs,eZ s0 c→loc c=some cs→cs.map AV.erase0=cs→loc' c=some cs):aah s0 loc' v l:=by
 rcases h with h|⟨b,cap,cs,h1,h2,h3,h4,h5⟩
 ·exact .inl h
 ·exact .inr ⟨b,cap,cs,h1,h2,hl b cs h5 h3 h4.erase,h4,h5⟩
theorem BR{B b:Nat}(h:eZ (sB B) b):b≠B:=by rintro rfl;exact h [] (by simp[sB]) rfl
end Go.Proofs.YtmcdlpegncaihaaGreat.C
namespace Go.Proofs.YtmcdlpegncaihaaGreat.C
open Go.Z4
theorem WL(lo hi:Int)(l:List Int)(h:∀x∈l,lo≤x∧x≤hi):out lo hi l=false:=by
 unfold out
 rw[List.any_eq_false]
 intro x hx
 have:=h x hx
 simp;omega
theorem WM{c:List Int}(h:c.Pairwise (· < ·)){k:Nat}(hk:k<c.length)(h0:0<k):c[k - 1]<c[k]:=(List.pairwise_iff_getElem.1 h) (k - 1) k (by omega) hk (by omega)
def kT(cs:List (List Int))(k:Nat):Nat:=((cs.take k).filter fun c=>decide (1<c.length)).length
theorem WN(cs:List (List Int)){k:Nat}(h:k<cs.length):kT cs (k+1)=kT cs k+if 1<cs[k].length then 1 else 0:=by
 unfold kT
 rw[dW h,List.filter_append,List.length_append]
 by_cases hl:1<cs[k].length<;>simp[hl]
theorem WO(cs:List (List Int))(k:Nat):kT cs k≤(cs.filter fun c=>decide (1<c.length)).length:=by
 unfold kT
 exact(List.Sublist.filter _ (List.take_sublist k cs)).length_le
abbrev rj(ns:List Nat)(cs:List (List Int))(v:AV):List AV:=bO ns cs++[LV (aT ns),v]
theorem rm{ns:List Nat}{cs:List (List Int)}(h:eP ns cs):aG Tryz.prog 44 [.agg (bO ns cs)] (.tuple [aN ns cs,I 0,I 0,I 0]):=by
 refine pc t44 (by simp) fun _=> ?_
 have hb:=h.toOKb
 have hL:=hb.leaves
 have c1:=Ks hb
 have c2:=Ku hb
 have hi:=h.items
 obtain⟨L,iT⟩:∃L,L=aT ns:=⟨_,rfl⟩
 have hc:=h.wQ
 have hd:=h.Wd
 simp only[←iT] at hL hc
 simp -implicitDefEqProofs only[Jl]
 refine ay (fun st=>st.env 1=.ref (bO ns cs)) ?_ ?_
 ·intro k hk
  simp -implicitDefEqProofs
  exact hk _ (by simp)
 rintro st e1
 refine ay (fun st=>st.env 1=.ref (bO ns cs)) ?_ ?_
 ·intro k hk
  simp -implicitDefEqProofs [e1]
  refine aL c1 ?_
  simp -implicitDefEqProofs
  exact hk _ (by simp[e1])
 clear e1
 rintro st e1
 refine ay (fun st=>st.env 1=.ref (bO ns cs)∧st.env 6=LV L) ?_ ?_
 ·intro k hk
  simp -implicitDefEqProofs [e1]
  refine aL c2 ?_
  simp -implicitDefEqProofs
  exact hk _ (by simp[e1,iT])
 clear e1
 rintro st ⟨e1,e6⟩
 refine ay (fun st=>st.env 1=.ref (bO ns cs)∧st.env 6=LV L) ?_ ?_
 ·intro k hk
  have:¬(120:Int)<L.length:=by omega
  simp -implicitDefEqProofs [e6,this]
  exact hk _ (by simp[e1,e6])
 clear e1 e6
 rintro st ⟨e1,e6⟩
 refine ay (fun st=>st.env 1=.ref (bO ns cs)∧st.env 6=LV L) ?_ ?_
 ·intro k hk
  have:¬(120:Int)<cs.length:=by omega
  simp -implicitDefEqProofs [e1,this]
  exact hk _ (by simp[e1,e6])
 clear e1 e6
 rintro st ⟨e1,e6⟩
 refine ay (fun st=>st.env 1=.ref (bO ns cs)∧st.env 6=LV L) ?_ ?_
 ·intro k0 bM
  simp -implicitDefEqProofs only[cK]
  simp -implicitDefEqProofs [e1]
  refine bP cs.length (fun k st=>st.env 1=.ref (bO ns cs)∧st.env 6=LV L∧st.env 42=ILL cs∧st.env 43=I cs.length∧st.env 44=I k) ?_ ?_
  ·simp[e1,e6]
  clear e1 e6 st
  rintro k st hk ⟨e1,e6,eW,eX,eH⟩
  simp -implicitDefEqProofs [eX,eH]
  refine bY (fun hlt=> ?_) (fun hge=> ?_)
  ·obtain⟨c,hcd⟩:∃c,c=cs[k]:=⟨_,rfl⟩
   have kA:=hc c (by rw[hcd];exact List.getElem_mem _)
   have c3:=jW 0 ((L.length:Int) - 1) c
   rw[WL _ _ _ (fun x hx=>by have:=kA.2.1 x hx;omega)] at c3
   have h4:¬(4:Int)<c.length:=by have:=kA.1;omega
   refine fP ?_
   refine ay (fun st=>st.env 1=.ref (bO ns cs)∧st.env 6=LV L∧st.env 9=.ref [IL c]∧st.env 42=ILL cs∧st.env 43=I cs.length∧st.env 44=I k) ?_ ?_
   ·intro k1 bq
    simp -implicitDefEqProofs [eW,eH,hlt,←hcd]
    intro b hb
    exact bq _ (by simp[e1,e6,eW,eX,eH])
   clear e1 e6 eW eX eH
   rintro st ⟨e1,e6,e9,eW,eX,eH⟩
   refine ay (fun st=>st.env 1=.ref (bO ns cs)∧st.env 6=LV L∧st.env 9=.ref [IL c]∧st.env 42=ILL cs∧st.env 43=I cs.length∧st.env 44=I k) ?_ ?_
   ·intro k1 bq
    simp -implicitDefEqProofs [e9,e6,h4]
    refine⟨i64 (by omega) (by omega),?_⟩
    refine aL c3 ?_
    simp -implicitDefEqProofs
    exact bq _ (by simp[e1,e6,e9,eW,eX,eH])
   clear e1 e6 e9 eW eX eH
   rintro st ⟨e1,e6,e9,eW,eX,eH⟩
   simp -implicitDefEqProofs only[cK]
   simp -implicitDefEqProofs [e9]
   refine bP c.length (fun j st=>st.env 1=.ref (bO ns cs)∧st.env 6=LV L∧st.env 9=.ref [IL c]∧st.env 42=ILL cs∧st.env 43=I cs.length∧st.env 44=I k∧st.env 64=IL c∧st.env 65=I c.length∧st.env 66=I j) ?_ ?_
   ·simp[e1,e6,e9,eW,eX,eH]
   clear e1 e6 e9 eW eX eH st
   rintro j st hj ⟨e1,e6,e9,eW,eX,eH,mY,mZ,lN⟩
   simp -implicitDefEqProofs [mZ,lN]
   refine bY (fun cq=> ?_) (fun wC=> ?_)
   ·refine fP ?_
    refine ay (fun st=>st.env 1=.ref (bO ns cs)∧st.env 6=LV L∧st.env 9=.ref [IL c]∧st.env 10=I j∧st.env 11=I c[j]∧st.env 42=ILL cs∧st.env 43=I cs.length∧st.env 44=I k∧st.env 64=IL c∧st.env 65=I c.length∧st.env 66=I j) ?_ ?_
    ·intro k1 bq
     simp -implicitDefEqProofs [mY,lN,cq]
     exact bq _ (by simp[e1,e6,e9,eW,eX,eH,mY,mZ,lN])
    clear e1 e6 e9 eW eX eH mY mZ lN
    rintro st ⟨e1,e6,e9,aH,aE,eW,eX,eH,mY,mZ,lN⟩
    have hroom:fJ .i64 ((j:Int)+1):=i64 (by omega) (by omega)
    by_cases h0:j=0
    ·subst h0
     simp -implicitDefEqProofs [aH,lN]
     refine⟨i64 (by decide) (by decide),bz cq ?_⟩
     simp[e1,e6,e9,eW,eX,eH,mY,mZ]
    ·have hp:=WM kA.2.2 cq (by omega)
     have h1:0<j:=by omega
     have h2:((j:Int) - 1).toNat=j - 1:=by omega
     have h3:j - 1<c.length:=by omega
     have h5:¬c[j]≤c[j - 1]:=by omega
     simp -implicitDefEqProofs [e9,aH,aE,lN,h1,h2,h3,h5,hroom]
     exact⟨i64 (by omega) (by omega),by omega,by omega,bz cq (by simp[e1,e6,e9,eW,eX,eH,mY,mZ])⟩
   ·simp -implicitDefEqProofs [eH]
    exact⟨i64 (by omega) (by omega),bz hlt (by simp[e1,e6,eW,eX])⟩
  ·simp -implicitDefEqProofs
   exact bM _ (by simp[e1,e6])
 clear e1 e6
 rintro st ⟨e1,e6⟩
 refine ay (fun st=>st.env 1=.ref (bO ns cs)∧st.env 6=LV L∧st.env 12=I (kT cs 0)) ?_ ?_
 ·intro k hk
  simp -implicitDefEqProofs
  exact hk _ (by simp[e1,e6,kT])
 clear e1 e6
 rintro st ⟨e1,e6,aQ⟩
 refine ay (fun st=>st.env 1=.ref (bO ns cs)∧st.env 6=LV L) ?_ ?_
 ·intro k0 bM
  simp -implicitDefEqProofs only[cK]
  simp -implicitDefEqProofs [e1]
  refine bP cs.length (fun k st=>st.env 1=.ref (bO ns cs)∧st.env 6=LV L∧st.env 12=I (kT cs k)∧st.env 87=ILL cs∧st.env 88=I cs.length∧st.env 89=I k) ?_ ?_
  ·simp[e1,e6,aQ]
  clear e1 e6 aQ st
  rintro k st hk ⟨e1,e6,aQ,m0,e88,lR⟩
  simp -implicitDefEqProofs [e88,lR]
  refine bY (fun hlt=> ?_) (fun hge=> ?_)
  ·obtain⟨c,hcd⟩:∃c,c=cs[k]:=⟨_,rfl⟩
   have hds:=WN cs hlt
   have jh:=WO cs (k+1)
   rw[←hcd] at hds
   refine fP ?_
   refine ay (fun st=>st.env 1=.ref (bO ns cs)∧st.env 6=LV L∧st.env 12=I (kT cs k)∧st.env 14=.ref [IL c]∧st.env 87=ILL cs∧st.env 88=I cs.length∧st.env 89=I k) ?_ ?_
   ·intro k1 bq
    simp -implicitDefEqProofs [m0,lR,hlt,←hcd]
    intro b hb
    exact bq _ (by simp[e1,e6,aQ,m0,e88,lR])
   clear e1 e6 aQ m0 e88 lR
   rintro st ⟨e1,e6,aQ,Z_,m0,e88,lR⟩
   refine ay (fun st=>st.env 1=.ref (bO ns cs)∧st.env 6=LV L∧st.env 12=I (kT cs (k+1))∧st.env 87=ILL cs∧st.env 88=I cs.length∧st.env 89=I k) ?_ ?_
   ·intro k1 bq
    simp -implicitDefEqProofs [Z_]
    by_cases hl:1<c.length
    ·rw[if_pos hl] at hds
     have hl':(1:Int)<c.length:=by omega
     simp -implicitDefEqProofs [hl',aQ]
     exact⟨i64 (by omega) (by omega),bq _ (by simp[e1,e6,m0,e88,lR,hds])⟩
    ·rw[if_neg hl] at hds
     have hl':¬(1:Int)<c.length:=by omega
     simp -implicitDefEqProofs [hl']
     exact bq _ (by simp[e1,e6,aQ,m0,e88,lR,hds])
   clear e1 e6 aQ Z_ m0 e88 lR
   rintro st ⟨e1,e6,aQ,m0,e88,lR⟩
   have h3:¬(3:Int)<kT cs (k+1):=by omega
   simp -implicitDefEqProofs [aQ,lR,h3]
   exact⟨i64 (by omega) (by omega),bz hlt (by simp[e1,e6,aQ,m0,e88])⟩
  ·simp -implicitDefEqProofs
   exact bM _ (by simp[e1,e6])
 clear e1 e6 aQ
 rintro st ⟨e1,e6⟩
 refine ay (fun st=>st.env 1=.ref (bO ns cs)∧st.env 6=LV L∧∃b,st.env 2=.aj b 0∧st.loc b=some (rj ns cs (.lit (.slice none 0 0)))) ?_ ?_
 ·intro k hk
  simp -implicitDefEqProofs [e1,e6]
  intro b hb
  exact hk _ (by simp[e1,e6,iT])
 clear e1 e6
 rintro st ⟨e1,e6,b,e2,l2⟩
 refine ay (fun st=>st.env 2=.aj b 0∧∃v,st.loc b=some (rj ns cs v)∧aah (sB b) st.loc v ((bw ns).map I)) ?_ ?_
 ·intro k0 bM
  simp -implicitDefEqProofs only[cK]
  simp -implicitDefEqProofs [e6]
  refine bP L.length (fun k st=>st.env 1=.ref (bO ns cs)∧st.env 2=.aj b 0∧st.env 109=I L.length∧st.env 110=I k∧∃v,st.loc b=some (rj ns cs v)∧aah (sB b) st.loc v (((bw ns).take k).map I)) ?_ ?_
  ·exact⟨by simp[e1],by simp[e2],by simp,by simp,_,by simp[l2],.inl ⟨rfl,rfl⟩⟩
  clear e1 e2 e6 l2 st
  rintro k st hk ⟨e1,e2,jz,iU,v,lb,hacc⟩
  simp -implicitDefEqProofs [jz,iU]
  refine bY (fun hlt=> ?_) (fun hge=> ?_)
  ·have c3:=WG hb (n:=k) (by rw[←iT];exact hlt)
   have hml:(bw ns).length=L.length:=by simp[bw,iT]
   have hmk:(bw ns)[k]'(by omega)=lQ ns k:=by simp[bw]
   have lS:=dW (l:=bw ns) (k:=k) (by omega)
   rw[hmk] at lS
   have hmb:=Wf ns k
   obtain⟨M,hM⟩:∃M,M=lQ ns k:=⟨_,rfl⟩
   rw[←hM] at c3 lS hmb
   refine fP ?_
   refine ay (fun st=>st.env 1=.ref (bO ns cs)∧st.env 2=.aj b 0∧st.env 15=I k∧st.env 109=I L.length∧st.env 110=I k∧∃v,st.loc b=some (rj ns cs v)∧aah (sB b) st.loc v (((bw ns).take k).map I)) ?_ ?_
   ·intro k1 bq
    simp -implicitDefEqProofs [iU]
    exact bq _ ⟨by simp[e1],by simp[e2],by simp,by simp[jz],by simp[iU],v,by simp[lb],by simpa using hacc⟩
   clear e1 e2 jz iU lb hacc v
   rintro st ⟨e1,e2,bN,jz,iU,v,lb,hacc⟩
   refine ay (fun st=>st.env 1=.ref (bO ns cs)∧st.env 2=.aj b 0∧st.env 16=I (if 0≤M then M else 0)∧st.env 17=I (if 0≤M then 0 else 4)∧st.env 109=I L.length∧st.env 110=I k∧∃v,st.loc b=some (rj ns cs v)∧aah (sB b) st.loc v (((bw ns).take k).map I)) ?_ ?_
   ·intro k1 bq
    simp -implicitDefEqProofs [e1,bN]
    refine aL c3 ?_
    by_cases hM0:0≤M
    ·simp -implicitDefEqProofs [hM0]
     exact bq _ ⟨by simp[e1],by simp[e2],by simp[hM0],by simp[hM0],by simp[jz],by simp[iU],v,by simp[lb],by simpa using hacc⟩
    ·simp -implicitDefEqProofs [hM0]
     exact bq _ ⟨by simp[e1],by simp[e2],by simp[hM0],by simp[hM0],by simp[jz],by simp[iU],v,by simp[lb],by simpa using hacc⟩
   clear e1 e2 bN jz iU lb hacc v
   rintro st ⟨e1,e2,bh,aY,jz,iU,v,lb,hacc⟩
   refine ay (fun st=>st.env 1=.ref (bO ns cs)∧st.env 2=.aj b 0∧st.env 16=I M∧st.env 109=I L.length∧st.env 110=I k∧∃v,st.loc b=some (rj ns cs v)∧aah (sB b) st.loc v (((bw ns).take k).map I)) ?_ ?_
   ·intro k1 bq
    by_cases hM0:0≤M
    ·rw[if_pos hM0] at bh aY
     simp -implicitDefEqProofs [aY]
     exact bq _ ⟨by simp[e1],by simp[e2],by simp[bh],by simp[jz],by simp[iU],v,by simp[lb],by simpa using hacc⟩
    ·rw[if_neg hM0] at bh aY
     have:M= -1:=by omega
     simp -implicitDefEqProofs [aY]
     exact bq _ ⟨by simp[e1],by simp[e2],by simp[this],by simp[jz],by simp[iU],v,by simp[lb],by simpa using hacc⟩
   clear e1 e2 bh aY jz iU lb hacc v
   rintro st ⟨e1,e2,bh,jz,iU,v,lb,hacc⟩
   simp -implicitDefEqProofs [-iJ,-kG,e2,lb,bh,hacc.aB]
   refine BQ (s0:=sB b) (l:=((bw ns).take k).map I) (hacc.pR fun c cs h3 h4=>by simp[h3,jy h4]) (fun b' hb'=>WK (by rintro rfl;simp[lb] at hb')) (by simp;omega) ⟨rfl,rfl,rfl⟩ ⟨rfl,rfl,rfl⟩ (by decide) fun b5 rq n5 kU hnb wW _=> ?_
   have gY:¬b=b5:=fun e=>BR hnb e.symm
   simp -implicitDefEqProofs [lb,gY,iU]
   refine⟨i64 (by omega) (by omega),bz hlt ⟨by simp[e1],by simp[e2],by simp[jz],by simp,.aq b5 0 n5 kU 1,by simp,?_⟩⟩
   have WQ:List.take (k+1) (List.map I (bw ns))=List.take k (List.map I (bw ns))++[I M]:=by rw[←List.map_take,lS];simp
   rw[WQ,←List.map_take]
   refine wW.kS fun c cs' hn h3 h4=> ?_
   have hcb:=BR hn
   simp[hcb] at h3⊢
   exact h3
  ·obtain rfl:k=L.length:=by omega
   have hml:(bw ns).length=L.length:=by simp[bw,iT]
   rw[List.take_of_length_le (by omega)] at hacc
   simp -implicitDefEqProofs
   exact bM _ ⟨by simp[e2],v,by simp[lb],by simpa using hacc⟩
 clear e1 e2 e6 l2
 rintro st ⟨e2,v,lb,hacc⟩
 have hne:(bw ns).map I≠[]:=by
  intro e
  have hp:=hb.pos
  obtain⟨n,rest,mC⟩:∃n rest,ns=n::rest:=by
   cases ns with
   |nil=>simp at hp
   |cons n rest=>exact⟨n,rest,rfl⟩
  have hn:=(hb.each n (by rw[mC];simp)).1
  have h1:(bw ns).length=ns.sum:=by simp[bw,Kh]
  have h2:ns.sum=n+rest.sum:=by rw[mC];simp
  have h3:(bw ns).length=0:=by have:=congrArg List.length e;simpa using this
  omega
 rcases hacc with ⟨e,_⟩|⟨b5,cap,rq,h1,rfl,h3,h4,h5⟩
 ·exact absurd e hne
 have hO:=BR h5
 have hle:=h4.le
 have hlen:=h4.len
 have hml:(bw ns).length≤120:=by simp[bw,←iT];exact hL
 have hch:=h4.chunk
 simp only[List.length_map] at hle hch
 simp -implicitDefEqProofs [e2,lb]
 refine vG 4 b5 _ cap 1 rfl hO (by simpa using h3) (by omega) h4.c1 (by omega) ?_
 simp -implicitDefEqProofs [ak,Ne.symm hO]
 refine ER ?_
 simp -implicitDefEqProofs [ak,Jm,hch]
end Go.Proofs.YtmcdlpegncaihaaGreat.C
namespace Go.Proofs.YtmcdlpegncaihaaGreat.C
open Go.Z4
def ir(F:Nat→Int)(o:List Int):Prop:=∀i (h:i<o.length),F i=o[i]
theorem Kx{F:Nat→Int}{o:List Int}{x:Int}(h:ir F o):ir (fun i=>if i=o.length then x else F i) (o++[x]):=fun i hi=>by
 by_cases he:i=o.length
 ·subst he;simp
 ·have hi':i<o.length:=by simp at hi;omega
  simp[he,h i hi',List.getElem_append_left hi']
theorem BS{F:Nat→Int}{o:List Int}{x:Int}(h:ir F (o++[x])):ir F o:=fun i hi=>by
 have:=h i (by simp;omega)
 rwa [List.getElem_append_left hi] at this
theorem WR{F:Nat→Int}{o:List Int}(h:ir F o):cl o.length F=o.map I:=by
 apply List.ext_getElem (by simp[cl])
 intro i h1 h2
 have hi:i<o.length:=by simpa using h2
 rw[lP]
 simp[h i hi]
abbrev iV(o:List Int):List AV:=[IL o,Go.Z4.mark 0]
theorem WS{g:Nat}{F:Nat→Int}{o:List Int}(h:ir F o)(hl:o.length=g)(hg:g≤1000):kZ (IL o) 0 1 g g (cl g F):=by
 subst hl
 refine⟨?_,by rw[jx];omega,Nat.le_refl _,by omega,V_ _ _,V9 _ _⟩
 rw[BE _ _ (by rw[jx];exact Nat.le_refl _) (fun x hx=>by unfold cl at hx;rw[List.mem_map] at hx;obtain⟨i,_,rfl⟩:=hx;exact⟨_,rfl⟩),Wa,WR h]
 rfl
theorem BT(n:Nat):List.replicate n (I 0)=cl n fun _=>0:=by
 apply List.ext_getElem (by simp[cl])
 intro i h1 h2
 rw[lP];simp
def bG:List (List Int)→List (List Int)
 |[]=>[[]]
 |c::cs=>(if c=[] then [-1] else c).flatMap fun n=>(bG cs).map (n:: ·)
def abq(c:List Int)(cs:List (List Int))(o:List Int)(j:Nat):List (List Int):=(c.drop j).flatMap fun n=>(bG cs).map fun t=>o++n::t
theorem WT(c:List Int)(cs:List (List Int))(o:List Int):abq c cs o c.length=[]:=by unfold abq;rw[List.drop_of_length_le (Nat.le_refl _)];rfl
theorem WU{c:List Int}(cs:List (List Int))(o:List Int){j:Nat}(hj:j<c.length):abq c cs o j=(bG cs).map (fun t=>(o++[c[j]])++t)++abq c cs o (j+1):=by
 unfold abq
 rw[drop_cons hj,List.flatMap_cons]
 simp
theorem WV{c:List Int}(cs:List (List Int))(o:List Int)(h:c≠[]):(bG (c::cs)).map (o++ ·)=abq c cs o 0:=by
 unfold bG abq
 rw[if_neg h,List.map_flatMap,List.drop_zero]
 congr 1
 funext n
 rw[List.map_map]
 rfl
theorem WW(cs:List (List Int))(o:List Int):(bG ([]::cs)).map (o++ ·)=(bG cs).map (fun t=>(o++[-1])++t):=by simp[bG]
abbrev abE(l B1 B2:Nat)(x:AV):AV:=.func (.func 79) [] [.aj B1 0,.ref [.func (.yield l) [] []],.ref [x],.aj B2 0]
theorem BU{ns:List Nat}{cs:List (List Int)}{g:Nat}(hg:cs.length=g)(Ky:g≤120)(BV:∀c∈cs,c.length≤4){l B1 B2 D:Nat}(h12:B1≠B2)(wX:B1≠D)(jA:B2≠D):
  ∀(k:Nat) (o:List Int) (rest:List (List Int)) (F:Nat→Int) (s:St) (K:AV→St→Prop) (q:Int),q=o.length→o.length+k=g→ir F o→
   s.loc B1=some [.aq D 0 g g 1]→s.loc B2=some [abE l B1 B2 (aN ns cs)]→s.loc D=some (cl g F)→s.env 1000000=.ghost l (((bG (cs.drop o.length)).map (o++ ·)++rest).map iV) false→
   (∀s2 F2,ir F2 o→s2.loc B1=some [.aq D 0 g g 1]→s2.loc B2=some [abE l B1 B2 (aN ns cs)]→s2.loc D=some (cl g F2)→s2.env 1000000=.ghost l (rest.map iV) false→K (B true) (back s s2))→
   (∀s2 r,s2.env 1000000=.ghost l r true→K (B false) (back s s2))→
   d_ Tryz.prog 79 [I q,.aj B1 0,.ref [.func (.yield l) [] []],.ref [aN ns cs],.aj B2 0] s K
 |0=>by
  rintro o rest F s K q rfl hlen hF l1 l2 lD eg wY wZ
  refine ic t79 (by simp) fun _=> ?_
  have jf:o.length=g:=by omega
  have hLO:=WS hF jf (by omega)
  rw[List.drop_of_length_le (by omega)] at eg
  simp only[bG,List.map_cons,List.map_nil,List.append_nil,List.singleton_append] at eg
  simp -implicitDefEqProofs [Bw,l1,jf,eg]
  refine⟨D,1,g,g,rfl,cl g F,lD,hLO,?_,?_⟩
  ·simp -implicitDefEqProofs [eN,pP]
   exact wY _ F hF (by simp[l1]) (by simp[l2]) (by simp[lD]) (by simp)
  ·simp -implicitDefEqProofs [eN,pP]
   exact wZ _ (rest.map iV) (by simp)
 |k+1=>by
  rintro o rest F s K q rfl hlen hF l1 l2 lD eg wY wZ
  refine ic t79 (by simp) fun _=> ?_
  have jf:((o.length:Int)==(g:Int))=false:=by simp;omega
  have hlt:o.length<g:=by omega
  have hlc:o.length<cs.length:=by omega
  obtain⟨c,hcd⟩:∃c,c=cs[o.length]:=⟨_,rfl⟩
  have cw:=BV c (by rw[hcd];exact List.getElem_mem _)
  have WX:cs.drop o.length=c::cs.drop (o.length+1):=by rw[hcd];exact drop_cons hlc
  rw[WX] at eg
  simp -implicitDefEqProofs only[Bw]
  refine ay (fun s=>s.env 0=I o.length∧s.env 1=.aj B1 0∧s.env 2=.ref [.func (.yield l) [] []]∧s.env 3=.ref [aN ns cs]∧s.env 4=.aj B2 0∧s.loc B1=some [.aq D 0 g g 1]∧s.loc B2=some [abE l B1 B2 (aN ns cs)]∧s.loc D=some (cl g F)∧s.env 1000000=.ghost l (((bG (c::cs.drop (o.length+1))).map (o++ ·)++rest).map iV) false) ?_ ?_
  ·intro k0 bM
   simp -implicitDefEqProofs
   exact bM _ (by simp[l1,l2,lD,eg])
  clear l1 l2 lD eg
  rintro st ⟨e0,e1,e2,e3,e4,l1,l2,lD,eg⟩
  refine ay (fun s=>s.env 0=I o.length∧s.env 1=.aj B1 0∧s.env 2=.ref [.func (.yield l) [] []]∧s.env 3=.ref [aN ns cs]∧s.env 4=.aj B2 0∧s.loc B1=some [.aq D 0 g g 1]∧s.loc B2=some [abE l B1 B2 (aN ns cs)]∧s.loc D=some (cl g F)∧s.env 1000000=.ghost l (((bG (c::cs.drop (o.length+1))).map (o++ ·)++rest).map iV) false) ?_ ?_
  ·intro k0 bM
   simp -implicitDefEqProofs [e0,e1,l1,jf]
   exact bM _ (by simp[e0,e1,e2,e3,e4,l1,l2,lD,eg])
  clear e0 e1 e2 e3 e4 l1 l2 lD eg
  rintro st ⟨e0,e1,e2,e3,e4,l1,l2,lD,eg⟩
  rw[cK]
  refine ay (fun s=>s.env 0=I o.length∧s.env 1=.aj B1 0∧s.env 2=.ref [.func (.yield l) [] []]∧s.env 3=.ref [aN ns cs]∧s.env 4=.aj B2 0∧s.loc B1=some [.aq D 0 g g 1]∧s.loc B2=some [abE l B1 B2 (aN ns cs)]∧s.loc D=some (cl g fun i=>if i=o.length then -1 else F i)∧s.env 1000000=.ghost l (((bG (c::cs.drop (o.length+1))).map (o++ ·)++rest).map iV) false) ?_ ?_
  ·intro k0 bM
   simp -implicitDefEqProofs [e0,e1,l1,lD,hlt,tK,jx]
   exact⟨by omega,bM _ (by simp[e0,e1,e2,e3,e4,l1,l2,eg,wX,jA])⟩
  have ru:=Kx (x:= -1) hF
  clear e0 e1 e2 e3 e4 l1 l2 lD eg
  rintro st ⟨e0,e1,e2,e3,e4,l1,l2,lD,eg⟩
  have hroom:fJ .i64 ((o.length:Int)+1):=i64 (by omega) (by omega)
  by_cases hc:c=[]
  ·rw[hc,WW] at eg
   rw[hc] at hcd
   simp -implicitDefEqProofs [e0,e3,hlc,←hcd,e4,l2,hroom]
   have ih:=BU (ns:=ns) (l:=l) hg Ky BV h12 wX jA k (o++[-1]) rest (fun i=>if i=o.length then -1 else F i)
   refine ih _ _ _ (by simp) (by simp;omega) ru (by simp[l1]) (by simp[l2]) (by simp[lD]) (by simpa using eg) ?_ ?_
   ·intro s2 F2 BW k1 k2 kD kg
    simp -implicitDefEqProofs [eN,pP]
    exact wY _ F2 (BS BW) (by simp[k1]) (by simp[k2]) (by simp[kD]) (by simp[kg])
   ·intro s2 r kg
    simp -implicitDefEqProofs [eN,pP]
    exact wZ _ r (by simp[kg])
  ·have hc0:((c.length:Int)==0)=false:=by simp;exact hc
   rw[WV _ _ hc] at eg
   refine q6 (fun s=>s.env 0=I o.length∧s.env 1=.aj B1 0∧s.env 2=.ref [.func (.yield l) [] []]∧s.env 3=.ref [aN ns cs]∧s.env 4=.aj B2 0∧s.loc B1=some [.aq D 0 g g 1]∧s.loc B2=some [abE l B1 B2 (aN ns cs)]∧(∃F,ir F o∧s.loc D=some (cl g F))∧s.env 1000000=.ghost l ((abq c (cs.drop (o.length+1)) o 0++rest).map iV) false) ?_ ?_
   ·intro k0 bM
    have:∃F',ir F' o∧cl g (fun i=>if i=o.length then -1 else F i)=cl g F':=⟨_,BS ru,rfl⟩
    simp -implicitDefEqProofs [e0,e3,hlc,←hcd,hc0]
    exact bM _ (by simpa[e0,e1,e2,e3,e4,l1,l2,lD,eg] using this)
   clear e0 e1 e2 e3 e4 l1 l2 lD eg
   rintro st ⟨e0,e1,e2,e3,e4,l1,l2,⟨F,hF,lD⟩,eg⟩
   refine ay (fun s=>s.env 0=I o.length∧s.env 1=.aj B1 0∧s.env 2=.ref [.func (.yield l) [] []]∧s.env 3=.ref [aN ns cs]∧s.env 4=.aj B2 0∧s.loc B1=some [.aq D 0 g g 1]∧s.loc B2=some [abE l B1 B2 (aN ns cs)]∧(∃F,ir F o∧s.loc D=some (cl g F))∧s.env 1000000=.ghost l (rest.map iV) false) ?_ ?_
   ·intro k0 bM
    simp -implicitDefEqProofs only[cK]
    simp -implicitDefEqProofs [e0,e3,hlc,←hcd]
    refine bP c.length (fun j s=>s.env 0=I o.length∧s.env 1=.aj B1 0∧s.env 2=.ref [.func (.yield l) [] []]∧s.env 3=.ref [aN ns cs]∧s.env 4=.aj B2 0∧s.loc B1=some [.aq D 0 g g 1]∧s.loc B2=some [abE l B1 B2 (aN ns cs)]∧s.env 42=IL c∧s.env 43=I c.length∧s.env 44=I j∧(∃F,ir F o∧s.loc D=some (cl g F))∧s.env 1000000=.ghost l ((abq c (cs.drop (o.length+1)) o j++rest).map iV) false) ?_ ?_
    ·have:∃F',ir F' o∧cl g F=cl g F':=⟨_,hF,rfl⟩
     simpa[e0,e1,e2,e3,e4,l1,l2,lD,eg] using this
    clear e0 e1 e2 e3 e4 l1 l2 lD eg hF ru st
    rintro j st hj ⟨e0,e1,e2,e3,e4,l1,l2,eW,eX,eH,⟨F,hF,lD⟩,eg⟩
    simp -implicitDefEqProofs [eX,eH]
    refine bY (fun hjl=> ?_) (fun hge=> ?_)
    ·have ru:=Kx (x:=c[j]) hF
     rw[WU _ _ hjl,List.append_assoc] at eg
     simp -implicitDefEqProofs [eW,eH,hjl,e0,e1,l1,lD,hlt,tK,jx,e4,l2,jA,hroom]
     refine⟨by omega,?_⟩
     have ih:=BU (ns:=ns) (l:=l) hg Ky BV h12 wX jA k (o++[c[j]]) (abq c (cs.drop (o.length+1)) o (j+1)++rest) (fun i=>if i=o.length then c[j] else F i)
     refine ih _ _ _ (by simp) (by simp;omega) ru (by simp[l1,wX]) (by simp[l2,jA]) (by simp) (by simpa using eg) ?_ ?_
     ·intro s2 F2 BW k1 k2 kD kg
      simp -implicitDefEqProofs [eH]
      refine⟨i64 (by omega) (by omega),bz hjl ?_⟩
      have:∃F',ir F' o∧cl g F2=cl g F':=⟨_,BS BW,rfl⟩
      simpa[e0,e1,e2,e3,e4,eW,eX,k1,k2,kD,kg] using this
     ·intro s2 r kg
      simp -implicitDefEqProofs [eN,pP]
      exact wZ _ r (by simp[kg])
    ·obtain rfl:j=c.length:=by omega
     rw[WT] at eg
     have:∃F',ir F' o∧cl g F=cl g F':=⟨_,hF,rfl⟩
     simp -implicitDefEqProofs
     exact bM _ (by simpa[e0,e1,e2,e3,e4,l1,l2,lD,eg] using this)
   clear e0 e1 e2 e3 e4 l1 l2 lD eg hF ru F
   rintro st ⟨e0,e1,e2,e3,e4,l1,l2,⟨F,hF,lD⟩,eg⟩
   simp -implicitDefEqProofs [eN,pP]
   exact wY _ F hF (by simp[l1]) (by simp[l2]) (by simp[lD]) (by simp[eg])
end Go.Proofs.YtmcdlpegncaihaaGreat.C
namespace Go.Proofs.YtmcdlpegncaihaaGreat.C
open Go.Z4
theorem tO{ns:List Nat}{cs:List (List Int)}(h:eP ns cs):aa4 Tryz.prog 78 [] [.ref [aN ns cs]] ((bG cs).map iV):=by
 refine ps t78 (by simp) fun l hfit=> ?_
 have hi:=h.items
 simp -implicitDefEqProofs only[JD]
 refine ay (fun st=>st.env 1=.ref [aN ns cs]∧st.env 2=.ref [.func (.yield l) [] []]∧st.loc=(fun _=>none)∧st.env 1000000=.ghost l ((bG cs).map iV) false) ?_ ?_
 ·intro k hk
  simp -implicitDefEqProofs
  exact hk _ (by simp)
 rintro st ⟨e1,e2,el,eg⟩
 refine ay (fun st=>st.env 1=.ref [aN ns cs]∧st.env 2=.ref [.func (.yield l) [] []]∧(∃B1 D,B1≠D∧st.env 3=.aj B1 0∧st.loc B1=some [.aq D 0 cs.length cs.length 1]∧st.loc D=some (cl cs.length fun _=>0))∧st.env 1000000=.ghost l ((bG cs).map iV) false) ?_ ?_
 ·intro k hk
  simp -implicitDefEqProofs [e1]
  refine⟨by omega,by omega,?_⟩
  intro D hD B1 hB
  have hne:¬B1=D:=by rintro rfl;simp at hB
  exact hk _ ⟨by simp[e1],by simp[e2],⟨B1,D,hne,by simp,by simp,by simp[Ne.symm hne,←BT]⟩,by simp[eg]⟩
 clear e1 e2 el eg
 rintro st ⟨e1,e2,⟨B1,D,hne,e3,l1,lD⟩,eg⟩
 refine ay (fun st=>st.env 1=.ref [aN ns cs]∧st.env 2=.ref [.func (.yield l) [] []]∧st.env 3=.aj B1 0∧st.loc B1=some [.aq D 0 cs.length cs.length 1]∧st.loc D=some (cl cs.length fun _=>0)∧(∃B2,B1≠B2∧B2≠D∧st.env 4=.aj B2 0∧st.loc B2=some [.lit .nilFunc])∧st.env 1000000=.ghost l ((bG cs).map iV) false) ?_ ?_
 ·intro k hk
  simp -implicitDefEqProofs
  intro B2 hB
  have h1:¬B1=B2:=by rintro rfl;rw[l1] at hB;cases hB
  have h2:¬B2=D:=by rintro rfl;rw[lD] at hB;cases hB
  exact hk _ ⟨by simp[e1],by simp[e2],by simp[e3],by simp[h1,l1],by simp[Ne.symm h2,lD],⟨B2,h1,h2,by simp,by simp⟩,by simp[eg]⟩
 clear e1 e2 e3 l1 lD eg
 rintro st ⟨e1,e2,e3,l1,lD,⟨B2,h12,jA,e4,l2⟩,eg⟩
 refine ay (fun st=>st.env 4=.aj B2 0∧st.loc B1=some [.aq D 0 cs.length cs.length 1]∧st.loc D=some (cl cs.length fun _=>0)∧st.loc B2=some [abE l B1 B2 (aN ns cs)]∧st.env 1000000=.ghost l ((bG cs).map iV) false) ?_ ?_
 ·intro k hk
  simp -implicitDefEqProofs [e1,e2,e3,e4,l2]
  exact hk _ (by simp[e4,l1,lD,eg,h12,Ne.symm jA])
 clear e1 e2 e3 l1 lD e4 l2 eg
 rintro st ⟨e4,l1,lD,l2,eg⟩
 simp -implicitDefEqProofs [e4,l2]
 refine BU (cs:=cs) (ns:=ns) (l:=l) rfl hi (fun c hc=>(h.wQ c hc).1) h12 hne jA cs.length [] [] (fun _=>0) _ _ 0 (by simp) (by simp) (fun i h=>absurd h (by simp)) (by simp[l1]) (by simp[l2]) (by simp[lD]) (by simpa using eg) ?_ ?_
 ·intro s2 F2 _ _ _ _ kg
  simp -implicitDefEqProofs
  exact⟨[],.inl ⟨by simp[kg],rfl⟩⟩
 ·intro s2 r kg
  simp -implicitDefEqProofs
  exact⟨r,.inr (by simp[kg])⟩
theorem tP(c:List AV):aG Tryz.prog 45 [.ref c] (.func (.func 78) [] [.ref [.ref c]]):=by
 refine pc t45 (by simp) fun _=> ?_
 simp -implicitDefEqProofs [Jn,Jo]
theorem w4(x:AV)(t:List Int)(ht:t.length≤1000):aG Tryz.prog 69 [x,IL t] (.fmap (bR (cQ t))):=by
 refine pc t69 (by simp) fun _=> ?_
 have wU:oS=1000001:=by simp[oS]
 simp -implicitDefEqProofs [Jz]
 intro M BN
 have dc:1000000≤1000001+M:=by omega
 refine bP t.length (fun k st=>st.env 5=.aZ M∧st.env 9=IL t∧st.env 10=I t.length∧st.env 11=I k∧st.env (1000001+M)=a_ (bR (cQ (t.take k)))) ?_ ?_
 ·simp[cQ,bR]
 rintro k st hk ⟨e5,e9,aH,aE,eM⟩
 simp -implicitDefEqProofs [aH,aE]
 refine bY (fun hlt=> ?_) (fun hge=> ?_)
 ·have hs:=BH (t.take k) t[k]
  rw[←dW hlt] at hs
  have hv:=kR (t.take k) t[k]
  have cw:(t.take k).count t[k]≤k:=Nat.le_trans List.count_le_length (by simp;omega)
  simp -implicitDefEqProofs [e9,aE,hlt,e5]
  refine q9 (kv:=cQ (t.take k)) ?_ ?_
  ·simp[eM]
  simp -implicitDefEqProofs
  refine⟨i64 (by omega) (by omega),?_⟩
  refine BI ?_ ?_
  ·simp[eM]
  simp -implicitDefEqProofs [aE]
  exact⟨i64 (by omega) (by omega),bz hlt (by simp[e5,e9,aH,hs])⟩
 ·obtain rfl:k=t.length:=by omega
  rw[List.take_length] at eM
  simp -implicitDefEqProofs [e5]
  refine⟨bR (cQ t),by simp[eM],?_⟩
  simp -implicitDefEqProofs [JA,cI]
theorem Old.set{s0 s:St}(h:Old s0 s)(d:Nat)(x:AV)(hd:d<1000000):Old s0 (s.set d x):=h.ext (by simp;omega) (fun c hc=>rfl)
theorem Old.aB{s0 s:St}(h:Old s0 s)(r:Nat):Old s0 (s.aB r):=⟨fun c cs h1 h2=>by rw[zA,h.l c cs h1 h2,Option.map_some,jy h2],fun l es q hg=>by rw[zz,h.g l es q hg];rfl⟩
theorem Old.refl(s:St):Old s s:=⟨fun _ _ h _=>h,fun _ _ _ h=>h⟩
theorem Old.trans{a b c:St}(h:Old a b)(h2:Old b c):Old a c:=⟨fun x cs h3 h4=>h2.l x cs (h.l x cs h3 h4) h4,fun l es q hg=>h2.g l es q (h.g l es q hg)⟩
theorem Old.back{s0 st s2:St}(h:Old s0 st)(h2:Old st s2):Old s0 (back st s2):=⟨fun c cs h3 h4=>by simp;exact h2.l c cs (h.l c cs h3 h4) h4,fun l es q hg=>by simp;exact h2.g l es q (h.g l es q hg)⟩
structure Z3 (R:Nat→Prop) (s0 s:St):Prop where
 l:∀c cs,s0.loc c=some cs→(∀r,R r→cs.map (az r)=cs)→s.loc c=some cs
 g:∀l es q,s0.env 1000000=.ghost l es q→s.env 1000000=.ghost l es q
section
variable {R:Nat→Prop} {s0 s:St}
theorem Z3.old(h:Z3 R s0 s):Old s0 s:=⟨fun c cs h1 h2=>h.l c cs h1 fun r _=>jy h2 r,h.g⟩
theorem Z3.ext{s':St}(h:Z3 R s0 s)(he:s'.env 1000000=s.env 1000000)(hl:∀c,s.loc c≠none→s'.loc c=s.loc c):Z3 R s0 s':=⟨fun c cs h1 h2=>by rw[hl c (by rw[h.l c cs h1 h2];simp)];exact h.l c cs h1 h2,fun l es q hg=>by rw[he];exact h.g l es q hg⟩
theorem Z3.set(h:Z3 R s0 s)(d:Nat)(x:AV)(hd:d<1000000):Z3 R s0 (s.set d x):=h.ext (by simp;omega) (fun c hc=>rfl)
theorem Z3.aB(h:Z3 R s0 s){r:Nat}(hr:R r):Z3 R s0 (s.aB r):=⟨fun c cs h1 h2=>by rw[zA,h.l c cs h1 h2,Option.map_some,h2 r hr],fun l es q hg=>by rw[zz,h.g l es q hg];rfl⟩
theorem Z3.back{st s2:St}(h:Z3 R s0 st)(h2:Z3 R st s2):Z3 R s0 (back st s2):=⟨fun c cs h3 h4=>by simp;exact h2.l c cs (h.l c cs h3 h4) h4,fun l es q hg=>by simp;exact h2.g l es q (h.g l es q hg)⟩
theorem Z3.mono{Q:Nat→Prop}(h:Z3 R s0 s)(hq:∀r,R r→Q r):Z3 Q s0 s:=⟨fun c cs h1 h2=>h.l c cs h1 fun r hr=>h2 r (hq r hr),h.g⟩
theorem Z3.new{b:Nat}{cs:List AV}(h:Z3 R s0 s)(hb:s.loc b=none):Z3 R s0 (s.new b cs):=h.ext rfl (fun c hc=>by rw[jm,if_neg (by rintro rfl;exact hc hb)])
theorem Z3.put{b:Nat}{cs:List AV}(h:Z3 R s0 s)(hb:s0.loc b=none):Z3 R s0 (s.new b cs):=⟨fun c cs' h1 h2=>by rw[jm,if_neg (by rintro rfl;rw[hb] at h1;cases h1)];exact h.l c cs' h1 h2,fun l es q hg=>h.g l es q hg⟩
end
abbrev R1(r:Nat):Prop:=r<1000
def dA(s:St)(v:AV)(t:List Int):Prop:=∃D cap cs,v=.aq D 0 t.length cap 1∧s.loc D=some cs∧kZ (IL t) 0 1 t.length cap cs
theorem dA.old{s0 s:St}{v:AV}{t:List Int}(h:dA s0 v t)(ho:Old s0 s):dA s v t:=by
 obtain⟨D,cap,cs,h1,h2,h3⟩:=h
 exact⟨D,cap,cs,h1,ho.l D cs h2 h3.2.2.2.2.2,h3⟩
theorem dA.view{s:St}{v:AV}{t:List Int}(h:dA s v t):p6 s.loc v=some (IL t):=by
 obtain⟨D,cap,cs,rfl,h2,h3,h4,h5,h6,h7,h8⟩:=h
 show(match s.loc D with|some cs=>_|none=>_)=_
 rw[h2]
 have n9:IL t=.slice 1 (chunk 1 cs t.length) 0:=h3
 simp only[Nat.zero_add,h4,h6,h7,decide_true,Bool.and_self,if_true,List.drop_zero]
 rw[←n9]
theorem dA.views{s:St}{v:AV}{t:List Int}{x:List AV}(h:dA s v t):abr s.loc [.ref x,v]=some [.ref x,IL t]:=by
 show(match p6 s.loc (.ref x),(match p6 s.loc v,some [] with|some y,some ys=>some (y::ys)|_,_=>none) with|some y,some ys=>some (y::ys)|_,_=>none)=_
 rw[h.view]
 rfl
theorem dA.erase{s:St}{v:AV}{t:List Int}(h:dA s v t):v.erase=v:=by obtain⟨D,cap,cs,rfl,_⟩:=h;rfl
theorem dA.aB{s:St}{v:AV}{t:List Int}(h:dA s v t)(r:Nat):az r v=v:=by obtain⟨D,cap,cs,rfl,_⟩:=h;rfl
def dX(L:Nat)(t:List Int):List Int:=aS (fun n=>t.count (n:Int)==0) L
theorem Kz{ns:List Nat}{cs:List (List Int)}(hL:(aT ns).length≤120){s:St}{v:AV}{t:List Int}{K:AV→St→Prop}(hv:dA s v t)(ht:t.length≤1000)(hK:∀s2,Z3 R1 s s2→K (.slice 1 ((dX (aT ns).length t).map I) 5) (back s s2)):d_ Tryz.prog 50 [aN ns cs,v] s K:=by
 refine ic t50 (by simp) fun _=> ?_
 simp -implicitDefEqProofs only[Jv]
 refine ay (fun st=>st.env 0=aN ns cs∧st.env 1=v∧st.env 4=.slice 1 [] 5∧Z3 R1 s st) ?_ ?_
 ·intro k hk
  simp -implicitDefEqProofs
  have ho:Z3 R1 s ⟨fun k=>if 1000000≤k then s.env k else cO [aN ns cs,v] k,s.loc⟩:=⟨fun _ _ h _=>h,fun _ _ _ h=>by simpa using h⟩
  exact hk _ ⟨by simp,by simp[hv.erase,hv.aB],by simp,(ho.aB (by decide)).set _ _ (by decide)⟩
 rintro st ⟨e0,e1,e4,ho⟩
 refine ay (fun st=>st.env 0=aN ns cs∧st.env 4=.slice 1 [] 5∧st.env 5=.fmap (bR (cQ t))∧Z3 R1 s st) ?_ ?_
 ·intro k hk
  simp -implicitDefEqProofs [e0,e1]
  refine vD (ys:=[aN ns cs,IL t]) ?_ (wS _) (w4 _ t ht) ?_
  ·simp -implicitDefEqProofs [hv.erase]
   exact(hv.old ho.old).views
  simp -implicitDefEqProofs
  exact hk _ ⟨by simp[e0],by simp[e4],by simp,(((ho.set _ _ (by decide)).set _ _ (by decide)).set _ _ (by decide)).set _ _ (by decide)⟩
 clear e0 e1 e4 ho
 rintro st ⟨e0,e4,e5,ho⟩
 refine ay (fun st=>st.env 4=.slice 1 ((dX (aT ns).length t).map I) 5∧Z3 R1 s st) ?_ ?_
 ·intro k0 bM
  simp -implicitDefEqProofs only[cK]
  simp -implicitDefEqProofs [e0]
  refine bP (aT ns).length (fun k st=>st.env 4=.slice 1 ((dX k t).map I) 5∧st.env 5=.fmap (bR (cQ t))∧st.env 14=I (aT ns).length∧st.env 15=I k∧Z3 R1 s st) ?_ ?_
  ·refine⟨by simp[e4,dX,aS],by simp[e5],by simp,by simp,?_⟩
   repeat (first|exact ho|refine Z3.set ?_ _ _ (by decide))
  clear e0 e4 e5 ho st
  rintro k st hk ⟨e4,e5,Z_,bN,ho⟩
  simp -implicitDefEqProofs [Z_,bN]
  refine bY (fun hlt=> ?_) (fun hge=> ?_)
  ·have hlen:(dX k t).length≤k:=aaB _ _
   simp -implicitDefEqProofs [bN,e5]
   refine pQ ?_
   rw[kR]
   by_cases hc:t.count (k:Int)=0
   ·have hs:dX (k+1) t=dX k t++[(k:Int)]:=kP (by simp[hc])
    simp -implicitDefEqProofs [hc,e4,bN]
    refine⟨by omega,by omega,i64 (by omega) (by omega),bz hlt ⟨by simp[hs],by simp[e5],by simp[Z_],by simp,?_⟩⟩
    repeat (first|exact ho|refine Z3.set ?_ _ _ (by decide)|refine Z3.aB ?_ (by decide))
   ·have hs:dX (k+1) t=dX k t:=j0 (by simp[hc])
    have eV:(((t.count (k:Int):Nat):Int)==0)=false:=by simp;omega
    simp -implicitDefEqProofs [eV,bN]
    refine⟨i64 (by omega) (by omega),bz hlt ⟨by simp[hs,e4],by simp[e5],by simp[Z_],by simp,?_⟩⟩
    repeat (first|exact ho|refine Z3.set ?_ _ _ (by decide)|refine Z3.aB ?_ (by decide))
  ·obtain rfl:k=(aT ns).length:=by omega
   simp -implicitDefEqProofs
   refine bM _ ⟨by simp[e4],?_⟩
   repeat (first|exact ho|refine Z3.set ?_ _ _ (by decide))
 clear e0 e4 e5 ho
 rintro st ⟨e4,ho⟩
 simp -implicitDefEqProofs [e4,eN,Jw]
 refine hK _ ?_
 repeat (first|exact ho|refine Z3.set ?_ _ _ (by decide)|refine Z3.aB ?_ (by decide))
end Go.Proofs.YtmcdlpegncaihaaGreat.C
namespace Go.Proofs.YtmcdlpegncaihaaGreat.C
open Go.Z4
def iW(ms t:List Int)(n:Nat):Bool:=decide (0<t.count (n:Int))&&(decide (0≤ms.getD n (-1))&&t.count (ms.getD n (-1))==0)
def ga(ms t:List Int):List Int:=aS (iW ms t) ms.length
theorem WY{ns:List Nat}{cs:List (List Int)}(hL:(aT ns).length≤120){s:St}{v:AV}{t:List Int}{K:AV→St→Prop}(hv:dA s v t)(ht:t.length≤1000)(hK:∀s2,Z3 R1 s s2→K (.slice 1 ((ga (bw ns) t).map I) 5) (back s s2)):d_ Tryz.prog 48 [aN ns cs,v] s K:=by
 refine ic t48 (by simp) fun _=> ?_
 have hML:(bw ns).length≤120:=by simp[bw];exact hL
 obtain⟨ms,Z9⟩:∃ms,ms=bw ns:=⟨_,rfl⟩
 rw[←Z9] at hML hK
 simp -implicitDefEqProofs only[Jt]
 refine ay (fun st=>st.env 0=aN ns cs∧st.env 1=v∧st.env 4=.slice 1 [] 5∧Z3 R1 s st) ?_ ?_
 ·intro k hk
  simp -implicitDefEqProofs
  have ho:Z3 R1 s ⟨fun k=>if 1000000≤k then s.env k else cO [aN ns cs,v] k,s.loc⟩:=⟨fun _ _ h _=>h,fun _ _ _ h=>by simpa using h⟩
  exact hk _ ⟨by simp,by simp[hv.erase,hv.aB],by simp,(ho.aB (by decide)).set _ _ (by decide)⟩
 rintro st ⟨e0,e1,e4,ho⟩
 refine ay (fun st=>st.env 0=aN ns cs∧st.env 4=.slice 1 [] 5∧st.env 5=.fmap (bR (cQ t))∧Z3 R1 s st) ?_ ?_
 ·intro k hk
  simp -implicitDefEqProofs [e0,e1]
  refine vD (ys:=[aN ns cs,IL t]) ?_ (wS _) (w4 _ t ht) ?_
  ·simp -implicitDefEqProofs [hv.erase]
   exact(hv.old ho.old).views
  simp -implicitDefEqProofs
  refine hk _ ⟨by simp[e0],by simp[e4],by simp,?_⟩
  repeat (first|exact ho|refine Z3.set ?_ _ _ (by decide))
 clear e0 e1 e4 ho
 rintro st ⟨e0,e4,e5,ho⟩
 refine ay (fun st=>st.env 4=.slice 1 ((ga ms t).map I) 5∧Z3 R1 s st) ?_ ?_
 ·intro k0 bM
  simp -implicitDefEqProofs only[cK]
  simp -implicitDefEqProofs [e0,←Z9]
  refine bP ms.length (fun k st=>st.env 4=.slice 1 ((aS (iW ms t) k).map I) 5∧st.env 5=.fmap (bR (cQ t))∧st.env 14=IL ms∧st.env 15=I ms.length∧st.env 16=I k∧Z3 R1 s st) ?_ ?_
  ·refine⟨by simp[e4,aS],by simp[e5],by simp,by simp,by simp,?_⟩
   repeat (first|exact ho|refine Z3.set ?_ _ _ (by decide))
  clear e0 e4 e5 ho st
  rintro k st hk ⟨e4,e5,Z_,bN,bh,ho⟩
  simp -implicitDefEqProofs [bN,bh]
  refine bY (fun hlt=> ?_) (fun hge=> ?_)
  ·have hlen:(aS (iW ms t) k).length≤k:=aaB _ _
   have hgd:ms.getD k (-1)=ms[k]:=by simp[List.getD_eq_getElem?_getD,hlt]
   refine fP ?_
   refine ay (fun st=>st.env 4=.slice 1 ((aS (iW ms t) k).map I) 5∧st.env 5=.fmap (bR (cQ t))∧st.env 6=I k∧st.env 7=I ms[k]∧st.env 14=IL ms∧st.env 15=I ms.length∧st.env 16=I k∧Z3 R1 s st) ?_ ?_
   ·intro k1 bq
    simp -implicitDefEqProofs [Z_,bh,hlt]
    refine bq _ ⟨by simp[e4],by simp[e5],by simp,by simp,by simp[Z_],by simp[bN],by simp[bh],?_⟩
    repeat (first|exact ho|refine Z3.set ?_ _ _ (by decide))
   clear e4 e5 Z_ bN bh ho
   rintro st ⟨e4,e5,e6,e7,Z_,bN,bh,ho⟩
   refine ay (fun st=>st.env 4=.slice 1 ((aS (iW ms t) k).map I) 5∧st.env 5=.fmap (bR (cQ t))∧st.env 6=I k∧st.env 14=IL ms∧st.env 15=I ms.length∧st.env 16=I k∧st.env 34=B (iW ms t k)∧Z3 R1 s st) ?_ ?_
   ·intro k1 bq
    simp -implicitDefEqProofs [e5,e6]
    refine pQ ?_
    rw[kR]
    by_cases eB:(k:Int)∈t
    ·have h1:0<t.count (k:Int):=List.count_pos_iff.2 eB
     by_cases h2:0≤ms[k]
     ·simp -implicitDefEqProofs [e5,e7,eB,h2]
      refine pQ ?_
      rw[kR]
      have hq:(((t.count ms[k]:Nat):Int)==0)=iW ms t k:=by
       unfold iW
       rw[hgd]
       simp only[h1,h2,decide_true,Bool.true_and]
       exact ace _ 0
      simp -implicitDefEqProofs [hq]
      refine bq _ ⟨by simp[e4],by simp[e5],by simp[e6],by simp[Z_],by simp[bN],by simp[bh],by simp,?_⟩
      repeat (first|exact ho|refine Z3.set ?_ _ _ (by decide))
     ·have hq:iW ms t k=false:=by unfold iW;rw[hgd];simp[h2]
      simp -implicitDefEqProofs [e7,eB,h2]
      refine bq _ ⟨by simp[e4],by simp[e5],by simp[e6],by simp[Z_],by simp[bN],by simp[bh],by simp[hq],?_⟩
      repeat (first|exact ho|refine Z3.set ?_ _ _ (by decide))
    ·have hq:iW ms t k=false:=by unfold iW;simp[eB]
     simp -implicitDefEqProofs [eB]
     refine bq _ ⟨by simp[e4],by simp[e5],by simp[e6],by simp[Z_],by simp[bN],by simp[bh],by simp[hq],?_⟩
     repeat (first|exact ho|refine Z3.set ?_ _ _ (by decide))
   clear e4 e5 e6 e7 Z_ bN bh ho
   rintro st ⟨e4,e5,e6,Z_,bN,bh,cC,ho⟩
   cases hq:iW ms t k with
   |true=>
    rw[hq] at cC
    have hs:=kP hq
    simp -implicitDefEqProofs [cC,e4,e6,bh]
    refine⟨by omega,by omega,i64 (by omega) (by omega),bz hlt ⟨by simp[hs],by simp[e5],by simp[Z_],by simp[bN],by simp,?_⟩⟩
    repeat (first|exact ho|refine Z3.set ?_ _ _ (by decide)|refine Z3.aB ?_ (by decide))
   |false=>
    rw[hq] at cC
    have hs:=j0 hq
    simp -implicitDefEqProofs [cC,bh]
    refine⟨i64 (by omega) (by omega),bz hlt ⟨by simp[hs,e4],by simp[e5],by simp[Z_],by simp[bN],by simp,?_⟩⟩
    repeat (first|exact ho|refine Z3.set ?_ _ _ (by decide)|refine Z3.aB ?_ (by decide))
  ·obtain rfl:k=ms.length:=by omega
   simp -implicitDefEqProofs
   refine bM _ ⟨by simp[e4,ga],?_⟩
   repeat (first|exact ho|refine Z3.set ?_ _ _ (by decide))
 clear e0 e4 e5 ho
 rintro st ⟨e4,ho⟩
 simp -implicitDefEqProofs [e4,eN,Ju]
 refine hK _ ?_
 repeat (first|exact ho|refine Z3.set ?_ _ _ (by decide)|refine Z3.aB ?_ (by decide))
end Go.Proofs.YtmcdlpegncaihaaGreat.C
namespace Go.Proofs.YtmcdlpegncaihaaGreat.C
open Go.Z4
structure ck where
 item:Int
 fst:Int
 dY:Int
 deriving DecidableEq
abbrev jB(r:ck):AV:=.agg [I r.item,I r.fst,I r.dY]
abbrev RL(l:List ck):AV:=.slice 3 (l.map jB) 0
abbrev r0:ck:=⟨0,0,0⟩
abbrev rN:ck:=⟨-1,-1,-1⟩
def gZ(l:List ck)(G:Nat→Int)(i:Nat):Nat→Int
 |0=>0
 |d+1=>if (l.getD i r0).dY<(l.getD (i+1+d) r0).fst then max (gZ l G i d) (G (i+1+d)) else gZ l G i d
def mF(l:List ck):Nat→Nat→Int
 |0,_=>0
 |p+1,j=>if j=l.length - 1 - p then gZ l (mF l p) (l.length - 1 - p) p+1 else mF l p j
def bF(l:List ck):Nat→Int
 |0=>0
 |p+1=>max (bF l p) (mF l (p+1) (l.length - 1 - p))
def acf(G:Nat→Int)(s:ck×Int×List Int)(i:Nat)(x:ck):ck×Int×List Int:=if G i=s.2.1∧(s.1=rN∨s.1.dY<x.fst) then (x,s.2.1 - 1,s.2.2) else (s.1,s.2.1,s.2.2++[x.item])
def aaS(l:List ck):Nat→ck×Int×List Int
 |0=>(rN,bF l l.length,[])
 |k+1=>acf (mF l l.length) (aaS l k) k (l.getD k r0)
def abF(l:List ck):List Int:=(aaS l l.length).2.2
theorem w6{l:List ck}{G:Nat→Int}{b:Int}(hG:∀j,0≤G j∧G j≤b)(hb:0≤b)(i:Nat):∀d,0≤gZ l G i d∧gZ l G i d≤b
 |0=>⟨by simp[gZ],by simpa[gZ] using hb⟩
 |d+1=>by
  have ih:=w6 (l:=l) hG hb i d
  have:=hG (i+1+d)
  unfold gZ
  split<;>omega
theorem tQ(l:List ck):∀p j,0≤mF l p j∧mF l p j≤p
 |0,j=>⟨by simp[mF],by simp[mF]⟩
 |p+1,j=>by
  have ih:=tQ l p
  have:=w6 (l:=l) ih (by omega) (l.length - 1 - p) p
  have:=ih j
  unfold mF
  split<;>omega
theorem BX(l:List ck):∀p,0≤bF l p∧bF l p≤p
 |0=>⟨by simp[bF],by simp[bF]⟩
 |p+1=>by
  have ih:=BX l p
  have:=tQ l (p+1) (l.length - 1 - p)
  unfold bF
  omega
theorem BY(l:List ck):∀k,k≤l.length→ -(k:Int)≤(aaS l k).2.1∧(aaS l k).2.1≤l.length∧(aaS l k).2.2.length≤k
 |0,_=>by
  have:=BX l l.length
  simp[aaS];omega
 |k+1,h=>by
  have ih:=BY l k (by omega)
  unfold aaS acf
  split
  ·simp only;omega
  ·simp;omega
theorem KA(l:List ck):∀p j,p≤l.length→j<l.length - p→mF l p j=0
 |0,_,_,_=>rfl
 |p+1,j,hp,h=>by
  unfold mF
  rw[if_neg (by omega)]
  exact KA l p j (by omega) (by omega)
theorem KB(a b:Int):(if a<b then b else a)=max a b:=by split<;>omega
theorem run_eq(a b:ck):cD [false,false,false] (jB a).cells (jB b).cells=some (decide (a=b)):=by
 obtain⟨x,y,z⟩:=a
 obtain⟨p,q,r⟩:=b
 by_cases h1:x=p<;>by_cases h2:y=q<;>by_cases h3:z=r<;>simp[cD,h1,h2,h3]
theorem WZ(l:List ck)(hl:l.length≤120):aG Tryz.prog 80 [RL l] (IL (abF l)):=by
 refine pc t80 (by simp) fun _=> ?_
 have W0:zs 120=cl 120 fun _=>0:=BT 120
 simp -implicitDefEqProofs only[JE,W0]
 refine ay (fun st=>st.env 0=RL l∧st.env 2=.slice 1 [] 3) ?_ ?_
 ·intro k hk
  simp -implicitDefEqProofs
  exact hk _ (by simp)
 rintro st ⟨e0,e2⟩
 refine ay (fun st=>st.env 0=RL l∧st.env 2=.slice 1 [] 3∧∃b,st.env 3=.aj b 0∧st.loc b=some (cl 120 (mF l 0))) ?_ ?_
 ·intro k hk
  simp -implicitDefEqProofs
  intro b hb
  exact hk _ ⟨by simp[e0],by simp[e2],b,by simp,by simp;rfl⟩
 clear e0 e2
 rintro st ⟨e0,e2,b,e3,l3⟩
 refine ay (fun st=>st.env 0=RL l∧st.env 2=.slice 1 [] 3∧st.env 3=.aj b 0∧st.env 4=I (bF l 0)∧st.loc b=some (cl 120 (mF l 0))) ?_ ?_
 ·intro k hk
  simp -implicitDefEqProofs
  exact hk _ (by simp[e0,e2,e3,l3,bF])
 clear e0 e2 e3 l3
 rintro st ⟨e0,e2,e3,e4,l3⟩
 refine ay (fun st=>st.env 0=RL l∧st.env 2=.slice 1 [] 3∧st.env 3=.aj b 0∧st.env 4=I (bF l l.length)∧st.loc b=some (cl 120 (mF l l.length))) ?_ ?_
 ·intro k0 bM
  simp -implicitDefEqProofs only[cK]
  simp -implicitDefEqProofs [e0]
  refine⟨i64 (by omega) (by omega),?_⟩
  refine bP l.length (fun p st=>st.env 0=RL l∧st.env 2=.slice 1 [] 3∧st.env 3=.aj b 0∧st.env 4=I (bF l p)∧st.env 5=I ((l.length:Int) - 1 - p)∧st.loc b=some (cl 120 (mF l p))) ?_ ?_
  ·simp[e0,e2,e3,e4,l3]
  clear e0 e2 e3 e4 l3 st
  rintro p st hp ⟨e0,e2,e3,e4,e5,l3⟩
  by_cases hlt:p<l.length
  ·obtain⟨i,hi⟩:∃i:Nat,i=l.length - 1 - p:=⟨_,rfl⟩
   have tR:st.env 5=I i:=by rw[e5];congr 2;omega
   have w7:i<l.length:=by omega
   simp -implicitDefEqProofs only[cK]
   have hge:(0:Int)≤i:=by omega
   simp -implicitDefEqProofs [tR,hge]
   refine⟨i64 (by omega) (by omega),?_⟩
   have hz:mF l p i=0:=KA l p i (by omega) (by omega)
   refine bP p (fun d st=>st.env 0=RL l∧st.env 2=.slice 1 [] 3∧st.env 3=.aj b 0∧st.env 4=I (bF l p)∧st.env 5=I i∧st.env 6=I ((i:Int)+1+d)∧st.loc b=some (cl 120 fun j=>if j=i then gZ l (mF l p) i d else mF l p j)) ?_ ?_
   ·refine⟨by simp[e0],by simp[e2],by simp[e3],by simp[e4],by simp[tR],by simp,?_⟩
    have:cl 120 (fun j=>if j=i then gZ l (mF l p) i 0 else mF l p j)=cl 120 (mF l p):=tL fun j _=>by
     split
     ·rename_i h;rw[h,hz];rfl
     ·rfl
    rw[this]
    simp[l3]
   clear e0 e2 e3 e4 e5 tR l3 st
   rintro d st hd ⟨e0,e2,e3,e4,e5,e6,l3⟩
   by_cases jh:d<p
   ·have hk:i+1+d<l.length:=by omega
    have bq:(i:Int)+1+d<(l.length:Int):=by omega
    have wk:(0:Int)≤(i:Int)+1+d:=by omega
    have hkn:((i:Int)+1+d).toNat=i+1+d:=by omega
    have hki:¬i+1+d=i:=by omega
    have rz:(i:Int)+1+d<120:=by omega
    have tS:(i:Int)<120:=by omega
    have hin:i<120:=by omega
    have W1:i+1+d<120:=by omega
    have g1:l.getD i r0=l[i]:=by simp[List.getD_eq_getElem?_getD,w7]
    have g2:l.getD (i+1+d) r0=l[i+1+d]:=by simp[List.getD_eq_getElem?_getD,hk]
    have ZK:=tQ l p (i+1+d)
    have hm2:=w6 (l:=l) (tQ l p) (by omega) i d
    refine ay (fun st=>st.env 0=RL l∧st.env 2=.slice 1 [] 3∧st.env 3=.aj b 0∧st.env 4=I (bF l p)∧st.env 5=I i∧st.env 6=I ((i:Int)+1+d)∧st.loc b=some (cl 120 fun j=>if j=i then gZ l (mF l p) i d else mF l p j)) ?_ ?_
    ·intro k1 hk2
     simp -implicitDefEqProofs only[cK]
     simp -implicitDefEqProofs [e0,e6,bq]
     exact hk2 _ (by simp[e0,e2,e3,e4,e5,e6,l3])
    clear e0 e2 e3 e4 e5 e6 l3
    rintro st ⟨e0,e2,e3,e4,e5,e6,l3⟩
    have w8:gZ l (mF l p) i (d+1)=if l[i].dY<l[i+1+d].fst then max (gZ l (mF l p) i d) (mF l p (i+1+d)) else gZ l (mF l p) i d:=by
     show(if (l.getD i r0).dY<(l.getD (i+1+d) r0).fst then _ else _)=_
     rw[g1,g2]
    by_cases cq:l[i].dY<l[i+1+d].fst
    ·rw[if_pos cq] at w8
     simp -implicitDefEqProofs [e0,e3,e5,e6,wk,bq,hkn,hk,w7,cq,rz,tS,l3,jx,hin,W1,hki,KB,tK,lP]
     refine⟨by omega,i64 (by omega) (by omega),bz jh ⟨by simp[e0],by simp[e2],by simp[e3],by simp[e4],by simp[e5],by simp;omega,?_⟩⟩
     simp
     refine tL fun j _=> ?_
     rw[w8]
     split<;>rfl
    ·rw[if_neg cq] at w8
     simp -implicitDefEqProofs [e0,e5,e6,wk,bq,hkn,hk,w7,cq]
     refine⟨i64 (by omega) (by omega),bz jh ⟨by simp[e0],by simp[e2],by simp[e3],by simp[e4],by simp[e5],by simp;omega,?_⟩⟩
     rw[w8]
     simp[l3]
   ·obtain rfl:d=p:=by omega
    have bq:¬(i:Int)+1+d<(l.length:Int):=by omega
    have tS:(i:Int)<120:=by omega
    have hin:i<120:=by omega
    have hm2:=w6 (l:=l) (tQ l d) (by omega) i d
    have cF:=BX l d
    have KC:∀j,mF l (d+1) j=if j=i then gZ l (mF l d) i d+1 else mF l d j:=fun j=>by rw[hi];rfl
    have sI:bF l (d+1)=max (bF l d) (gZ l (mF l d) i d+1):=by
     show max (bF l d) (mF l (d+1) (l.length - 1 - d))=_
     rw[←hi,KC i,if_pos rfl]
    simp -implicitDefEqProofs [e0,e6,bq]
    simp -implicitDefEqProofs [e3,e4,e5,l3,tS,hin,jx,lP,tK,KB]
    refine⟨i64 (by omega) (by omega),by omega,i64 (by omega) (by omega),bz hlt ⟨by simp[e0],by simp[e2],by simp[e3],by simp[sI],by simp;omega,?_⟩⟩
    simp
    refine tL fun j _=> ?_
    rw[KC j]
    split<;>rfl
  ·obtain rfl:p=l.length:=by omega
   have tR:st.env 5=I (-1):=by rw[e5];congr 2;omega
   simp -implicitDefEqProofs [tR]
   exact bM _ (by simp[e0,e2,e3,e4,l3])
 clear e0 e2 e3 e4 l3
 rintro st ⟨e0,e2,e3,e4,l3⟩
 refine ay (fun st=>st.env 0=RL l∧st.env 2=.slice 1 [] 3∧st.env 3=.aj b 0∧st.env 4=I (bF l l.length)∧st.loc b=some (cl 120 (mF l l.length))∧∃c,c≠b∧st.env 7=.aj c 0∧st.loc c=some (jB rN).cells) ?_ ?_
 ·intro k hk
  simp -implicitDefEqProofs
  intro c hc
  have hne:¬b=c:=by rintro rfl;rw[l3] at hc;cases hc
  exact hk _ ⟨by simp[e0],by simp[e2],by simp[e3],by simp[e4],by simp[hne,l3],c,Ne.symm hne,by simp,by simp⟩
 clear e0 e2 e3 e4 l3
 rintro st ⟨e0,e2,e3,e4,l3,c,hne,e7,l7⟩
 refine ay (fun st=>∃q,st.env 2=.slice 1 ((abF l).map I) q) ?_ ?_
 ·intro k0 bM
  simp -implicitDefEqProofs only[cK]
  simp -implicitDefEqProofs [e0]
  refine bP l.length (fun k st=>st.env 2=.slice 1 ((aaS l k).2.2.map I) 3∧st.env 3=.aj b 0∧st.env 4=I (aaS l k).2.1∧st.env 7=.aj c 0∧st.env 56=RL l∧st.env 57=I l.length∧st.env 58=I k∧st.loc b=some (cl 120 (mF l l.length))∧st.loc c=some (jB (aaS l k).1).cells) ?_ ?_
  ·simp[e2,e3,e4,e7,l3,l7,aaS]
  clear e0 e2 e3 e4 l3 e7 l7 st
  rintro k st hk ⟨e2,e3,e4,e7,ij,gB,gW,l3,l7⟩
  simp -implicitDefEqProofs [gB,gW]
  refine bY (fun hlt=> ?_) (fun hge=> ?_)
  ·have oJ:=BY l k (by omega)
   have w9:aaS l (k+1)=acf (mF l l.length) (aaS l k) k l[k]:=by
    show acf _ _ _ (l.getD k r0)=_
    simp[List.getD_eq_getElem?_getD,hlt]
   obtain⟨⟨la,be,it⟩,hs⟩:∃s,s=aaS l k:=⟨_,rfl⟩
   rw[←hs] at oJ w9 e2 e4 l7
   simp only at oJ e2 e4 l7
   obtain⟨x,hx⟩:∃x,x=l[k]:=⟨_,rfl⟩
   rw[←hx] at w9
   have rz:k<120:=by omega
   have hki:(k:Int)<120:=by omega
   refine fP ?_
   refine ay (fun st=>st.env 2=.slice 1 (it.map I) 3∧st.env 3=.aj b 0∧st.env 4=I be∧st.env 7=.aj c 0∧st.env 8=I k∧st.env 9=.ref (jB x).cells∧st.env 56=RL l∧st.env 57=I l.length∧st.env 58=I k∧st.loc b=some (cl 120 (mF l l.length))∧st.loc c=some (jB la).cells) ?_ ?_
   ·intro k1 bq
    simp -implicitDefEqProofs [ij,gW,hlt,←hx]
    intro d hd
    have h1:¬b=d:=by rintro rfl;rw[l3] at hd;cases hd
    have h2:¬c=d:=by rintro rfl;rw[l7] at hd;cases hd
    exact bq _ ⟨by simp[e2],by simp[e3],by simp[e4],by simp[e7],by simp,by simp,by simp[ij],by simp[gB],by simp[gW],by simp[h1,l3],by simp[h2,l7]⟩
   clear e2 e3 e4 e7 ij gB gW l3 l7
   rintro st ⟨e2,e3,e4,e7,e8,e9,ij,gB,gW,l3,l7⟩
   have W2:∀(hA:Bool),hA=decide (mF l l.length k=be∧(la=rN∨la.dY<x.fst))→True:=fun _ _=>trivial
   refine ay (fun st=>st.env 2=.slice 1 (it.map I) 3∧st.env 3=.aj b 0∧st.env 4=I be∧st.env 7=.aj c 0∧st.env 9=.ref (jB x).cells∧st.env 56=RL l∧st.env 57=I l.length∧st.env 58=I k∧st.env 79=B (decide (mF l l.length k=be∧(la=rN∨la.dY<x.fst)))∧st.loc b=some (cl 120 (mF l l.length))∧st.loc c=some (jB la).cells) ?_ ?_
   ·intro k1 bq
    have hq:=run_eq la rN
    simp only[AV.cells] at hq
    by_cases h1:mF l l.length k=be
    ·by_cases h2:la=rN
     ·simp -implicitDefEqProofs [e3,e4,e7,e8,l3,l7,rz,hki,jx,lP,h1,h2]
      exact bq _ ⟨by simp[e2],by simp[e3],by simp[e4],by simp[e7],by simp[e9],by simp[ij],by simp[gB],by simp[gW],by simp[h1,h2],by simp[l3],by simp[l7,h2]⟩
     ·have jJ:(la.item== -1&&(la.fst== -1&&la.dY== -1))=false:=by
       have:(la.item== -1&&(la.fst== -1&&la.dY== -1))=decide (la=rN):=by simpa[cD] using hq
       rw[this,decide_eq_false h2]
      by_cases h3:la.dY<x.fst
      ·simp -implicitDefEqProofs [e3,e4,e7,e8,e9,l3,l7,rz,hki,jx,lP,h1,jJ,h3]
       exact bq _ ⟨by simp[e2],by simp[e3],by simp[e4],by simp[e7],by simp[e9],by simp[ij],by simp[gB],by simp[gW],by simp[h1,h3],by simp[l3],by simp[l7]⟩
      ·simp -implicitDefEqProofs [e3,e4,e7,e8,e9,l3,l7,rz,hki,jx,lP,h1,jJ,h3]
       exact bq _ ⟨by simp[e2],by simp[e3],by simp[e4],by simp[e7],by simp[e9],by simp[ij],by simp[gB],by simp[gW],by simp[h2,h3],by simp[l3],by simp[l7]⟩
    ·have eB:(mF l l.length k==be)=false:=by simp[h1]
     simp -implicitDefEqProofs [e3,e4,e8,l3,rz,hki,jx,lP,eB]
     exact bq _ ⟨by simp[e2],by simp[e3],by simp[e4],by simp[e7],by simp[e9],by simp[ij],by simp[gB],by simp[gW],by simp[h1],by simp[l3],by simp[l7]⟩
   clear e2 e3 e4 e7 e8 e9 ij gB gW l3 l7 W2
   rintro st ⟨e2,e3,e4,e7,e9,ij,gB,gW,jZ,l3,l7⟩
   have hcb:¬b=c:=fun e=>hne e.symm
   by_cases hA:mF l l.length k=be∧(la=rN∨la.dY<x.fst)
   ·have Z9:aaS l (k+1)=(x,be - 1,it):=by rw[w9];unfold acf;exact if_pos hA
    rw[decide_eq_true hA] at jZ
    simp -implicitDefEqProofs [jZ,e9,e7,l7,e4,gW]
    exact⟨i64 (by omega) (by omega),i64 (by omega) (by omega),bz hlt ⟨by simp[Z9,e2],by simp[e3],by simp[Z9],by simp[e7],by simp[ij],by simp[gB],by simp,by simp[hcb,l3],by simp[Z9]⟩⟩
   ·have Z9:aaS l (k+1)=(la,be,it++[x.item]):=by rw[w9];unfold acf;exact if_neg hA
    rw[decide_eq_false hA] at jZ
    simp -implicitDefEqProofs [jZ,e2,e9,gW]
    exact⟨by omega,by omega,i64 (by omega) (by omega),bz hlt ⟨by simp[Z9],by simp[e3],by simp[Z9,e4],by simp[e7],by simp[ij],by simp[gB],by simp,by simp[l3,wP],by simp[Z9,l7]⟩⟩
  ·obtain rfl:k=l.length:=by omega
   simp -implicitDefEqProofs
   exact bM _ ⟨3,by simp[e2,abF]⟩
 rintro st ⟨q,e2⟩
 by_cases hq:q=0
 ·subst hq
  simp -implicitDefEqProofs [e2,Bx]
 ·simp -implicitDefEqProofs [e2,Bx,hq]
end Go.Proofs.YtmcdlpegncaihaaGreat.C
