/- The case of the layer owner as plain data; lists of orders, sets. Contracts of small functions: outside, names. Sets as bits. Contracts of small functions of the reference. The checks of a case, as plain data; the program's Check. The reference's Check; what a case without an error is. What sales say of each owner: the program's map; look and enter. The rules of an order: complete, beside, layered. The chain of an order as plain data; cells of arrays and of holds. The chain of an order: the program's solve. -/
import Derived.Test.YtpeikknjbnnnnaaGreatZC
import Derived.Test.YtpeikknjbnnnnaaGreatZE
namespace Go.Proofs.YtpeikknjbnnnnaaGreat.O
open Go.az
abbrev I(n:Int):AV:=.lit (.int .i64 n)
abbrev B(b:Bool):AV:=.lit (.bool b)
abbrev S(s:ByteArray):AV:=.lit (.string s)
abbrev IL(l:List Int):AV:=.slice 1 (l.map I) 0
abbrev SL(l:List ByteArray):AV:=.slice 1 (l.map S) 0
abbrev pE(lo hi:Int):AV:=.agg [I lo,I hi]
structure fV where
 name:ByteArray
 born:Int
 YE:Int
structure Mk where
 owner:Int
 lo:Int
 hi:Int
 upon:Int
structure aB where
 year:Int
 src:Int
 dst:Int
structure Case where
 printed:Int
 now:Int
 an:List fV
 marks:List Mk
 ak:List aB
abbrev fK(o:fV):AV:=.agg [S o.name,I o.born,I o.YE]
abbrev cT(m:Mk):AV:=.agg [I m.owner,I m.lo,I m.hi,I m.upon]
abbrev bQ(s:aB):AV:=.agg [I s.year,I s.src,I s.dst]
abbrev cU(c:Case):List AV:=[I c.printed,I c.now,.slice 3 (c.an.map fK) 0,.slice 4 (c.marks.map cT) 0,.slice 3 (c.ak.map bQ) 0]
abbrev fc(c:Case):AV:=.agg (cU c)
abbrev bI(c:Case):AV:=.ref (cU c)
structure Case.OK (c:Case):Prop where
 years:1450≤c.printed∧c.printed≤c.now∧c.now≤1850
 jF:c.an.length≤6
 an:∀o∈c.an,0≤o.born∧o.born≤o.YE∧o.YE≤9999
 oh:c.marks.length≤9
 marks:∀m∈c.marks,0≤m.owner∧m.owner<c.an.length∧c.printed≤m.lo∧m.lo≤m.hi∧m.hi≤c.now
 upon:∀i (h:i<c.marks.length),-1≤c.marks[i].upon∧c.marks[i].upon<i
 aav:c.ak.length≤4
 ak:∀s∈c.ak,c.printed≤s.year∧s.year≤c.now∧ -1≤s.src∧s.src<c.an.length∧ -1≤s.dst∧s.dst<c.an.length∧s.src≠s.dst
theorem cV{α:Type}{l:List α}{k:Nat}(h:k<l.length):l.take (k+1)=l.take k++[l[k]]:=List.take_succ_eq_append_getElem h
def grow(m:Nat)(o:List Int):List (List Int):=((List.range m).filter fun n:Nat=> !decide ((n:Int)∈o)).map fun n:Nat=>o++[(n:Int)]
def fe(m:Nat):Nat→List (List Int)
 |0=>[[]]
 |i+1=>(fe m i).flatMap (grow m)
def lZ(m:Nat):Nat→List Int→List (List Int)
 |0,o=>[o]
 |k+1,o=>(grow m o).flatMap (lZ m k)
theorem HD(m:Nat):∀(k i:Nat),(fe m i).flatMap (lZ m k)=fe m (i+k)
 |0,i=>by
  have:∀l:List (List Int),l.flatMap (lZ m 0)=l:=fun l=>by
   induction l with
   |nil=>rfl
   |cons a l ih=>rw[List.flatMap_cons,ih];rfl
  exact this _
 |k+1,i=>by
  rw[show i+(k+1)=(i+1)+k by omega,←HD m k (i+1),fe,List.flatMap_assoc]
  rfl
theorem RL(m:Nat)(o:List Int):(grow m o).length≤m:=by
 unfold grow
 rw[List.length_map]
 exact Nat.le_trans (List.length_filter_le _ _) (by simp)
theorem HE(m:Nat):∀(l:List (List Int)),(l.flatMap (grow m)).length≤l.length*m
 |[]=>by simp
 |o::l=>by
  have h1:=RL m o
  have h2:=HE m l
  simp only[List.flatMap_cons,List.length_append,List.length_cons,Nat.add_mul]
  omega
theorem HF(m:Nat):∀i,(fe m i).length≤m^i
 |0=>by simp[fe]
 |i+1=>by
  have h:=HF m i
  rw[fe,Nat.pow_succ]
  exact Nat.le_trans (HE m _) (Nat.mul_le_mul_right _ h)
theorem HG(m:Nat):∀i,∀o∈fe m i,o.length=i∧o.Nodup∧∀x∈o,0≤x∧x<m
 |0=>by simp[fe]
 |i+1=>by
  intro o ho
  rw[fe,List.mem_flatMap] at ho
  obtain⟨p,hp,ho⟩:=ho
  obtain⟨h1,h2,h3⟩:=HG m i p hp
  unfold grow at ho
  rw[List.mem_map] at ho
  obtain⟨n,hn,rfl⟩:=ho
  simp only[List.mem_filter,List.mem_range,Bool.not_eq_true',decide_eq_false_iff_not] at hn
  refine⟨by simp[h1],?_,fun x hx=> ?_⟩
  ·rw[List.nodup_append]
   refine⟨h2,by simp,fun a ha b hb e=> ?_⟩
   rw[List.mem_singleton] at hb
   subst hb;subst e
   exact hn.2 ha
  ·rcases List.mem_append.1 hx with hx|hx
   ·exact h3 x hx
   ·rw[List.mem_singleton] at hx;omega
theorem HH(m:Nat):∀i o,o.length=i→o.Nodup→(∀x∈o,0≤x∧x<(m:Int))→o∈fe m i
 |0,o,h,_,_=>by rw[List.length_eq_zero_iff] at h;simp[h,fe]
 |i+1,o,h,h2,h3=>by
  have hne:o≠[]:=by rintro rfl;simp at h
  have e:o=o.dropLast++[o.getLast hne]:=(List.dropLast_concat_getLast hne).symm
  have hm:=h3 (o.getLast hne) (List.getLast_mem hne)
  rw[e,List.nodup_append] at h2
  rw[fe,List.mem_flatMap]
  refine⟨o.dropLast,HH m i _ (by simp[h]) h2.1 (fun x hx=>h3 x (List.dropLast_subset _ hx)),?_⟩
  unfold grow
  rw[List.mem_map]
  refine⟨(o.getLast hne).toNat,?_,?_⟩
  ·simp only[List.mem_filter,List.mem_range,Bool.not_eq_true',decide_eq_false_iff_not]
   refine⟨by omega,fun hin=> ?_⟩
   rw[Int.toNat_of_nonneg hm.1] at hin
   exact h2.2.2 _ hin _ (by simp) rfl
  ·rw[Int.toNat_of_nonneg hm.1];exact e.symm
def dL(q:Nat→Bool)(n:Nat):List Int:=((List.range n).filter q).map fun s:Nat=>(s:Int)
theorem abr(q:Nat→Bool):dL q 0=[]:=rfl
theorem abd(q:Nat→Bool)(n:Nat):dL q (n+1)=dL q n++if q n then [(n:Int)] else []:=by
 unfold dL
 rw[List.range_succ,List.filter_append,List.map_append]
 congr 1
 cases h:q n<;>simp[h]
theorem HJ{q:Nat→Bool}{n:Nat}(h:q n=true):dL q (n+1)=dL q n++[(n:Int)]:=by rw[abd,h];rfl
theorem abe{q:Nat→Bool}{n:Nat}(h:q n=false):dL q (n+1)=dL q n:=by rw[abd,h];simp
theorem aaw(q:Nat→Bool)(n:Nat):(dL q n).length≤n:=by
 unfold dL
 rw[List.length_map]
 exact Nat.le_trans (List.length_filter_le _ _) (by simp)
theorem abf{q:Nat→Bool}{n j:Nat}:((j:Int)∈dL q n)↔j<n∧q j=true:=by
 unfold dL
 simp only[List.mem_map,List.mem_filter,List.mem_range]
 constructor
 ·rintro⟨i,hi,e⟩
  obtain rfl:i=j:=by omega
  exact hi
 ·intro h
  exact⟨j,h,rfl⟩
theorem HK{q:Nat→Bool}{n:Nat}{x:Int}(h:x∈dL q n):∃j:Nat,x=j∧j<n∧q j=true:=by
 unfold dL at h
 rw[List.mem_map] at h
 obtain⟨j,hj,rfl⟩:=h
 exact⟨j,rfl,by simpa using hj⟩
def bq(n:Nat):List Int:=dL (fun i=>n.testBit i) 8
def iw(n:Nat):Nat:=((List.range 9).find? fun i=>n<2^i).getD 9
theorem A5{a b:Nat}(ha:a<256)(hb:b<256)(h:bq a=bq b):a=b:=by
 apply Nat.eq_of_testBit_eq
 intro i
 by_cases hi:i<8
 ·have e:((i:Int)∈bq a)↔((i:Int)∈bq b):=by rw[h]
  unfold bq at e
  rw[abf,abf] at e
  simp only[hi,true_and] at e
  exact Bool.eq_iff_iff.2 e
 ·rw[Nat.testBit_lt_two_pow (Nat.lt_of_lt_of_le (m:=2^8) ha (Nat.pow_le_pow_right (by omega) (by omega))),Nat.testBit_lt_two_pow (Nat.lt_of_lt_of_le (m:=2^8) hb (Nat.pow_le_pow_right (by omega) (by omega)))]
def Zb:List Int→List Int→Bool
 |x::xs,y::ys=>if x=y then Zb xs ys else decide (x<y)
 |_,_=>false
def Zc:List Int→List Int→Int
 |x::xs,y::ys=>if x<y then -1 else if y<x then 1 else Zc xs ys
 |_,_=>0
def gr(a b:List Int):Bool:=if a.length≠b.length then decide (a.length<b.length) else Zb a b
theorem abt:∀(a b:List Int),decide (Zc a b<0)=Zb a b
 |[],[]=>rfl
 |[],_::_=>rfl
 |_::_,[]=>rfl
 |x::xs,y::ys=>by
  unfold Zc Zb
  by_cases h1:x<y
  ·have h2:¬x=y:=by omega
   simp[h1,h2]
  ·by_cases h3:y<x
   ·have h2:¬x=y:=by omega
    simp[h1,h2,h3]
   ·have h2:x=y:=by omega
    simp[h2,abt xs ys]
theorem HM:∀{a b:List Int},a.length=b.length→a≠b→Zb a b=false→Zb b a=true
 |[],[],_,h,_=>absurd rfl h
 |x::xs,y::ys,hl,h,hf=>by
  unfold Zb at hf⊢
  by_cases e:x=y
  ·subst e
   rw[if_pos rfl] at hf⊢
   exact HM (by simpa using hl) (fun e=>h (by rw[e])) hf
  ·rw[if_neg e] at hf
   rw[if_neg (fun h=>e h.symm)]
   simp at hf⊢
   omega
theorem HN:∀{a b c:List Int},Zb a b=true→Zb b c=true→Zb a c=true
 |[],_,_,h,_=>by simp[Zb] at h
 |_::_,[],_,h,_=>by simp[Zb] at h
 |_::_,_::_,[],_,h=>by simp[Zb] at h
 |x::xs,y::ys,z::zs,h1,h2=>by
  unfold Zb at h1 h2⊢
  by_cases e1:x=y
  ·subst e1
   rw[if_pos rfl] at h1
   by_cases e2:x=z
   ·subst e2
    rw[if_pos rfl] at h2⊢
    exact HN h1 h2
   ·rw[if_neg e2] at h2⊢
    exact h2
  ·rw[if_neg e1] at h1
   simp only[decide_eq_true_eq] at h1
   by_cases e2:y=z
   ·subst e2
    rw[if_neg e1]
    simpa using h1
   ·rw[if_neg e2] at h2
    simp only[decide_eq_true_eq] at h2
    rw[if_neg (by omega)]
    simp;omega
theorem RM{a b:List Int}(h:a≠b)(hf:gr a b=false):gr b a=true:=by
 unfold gr at hf⊢
 by_cases e:a.length=b.length
 ·rw[if_neg (not_not_intro e)] at hf
  rw[if_neg (not_not_intro e.symm)]
  exact HM e h hf
 ·rw[if_pos e] at hf
  rw[if_pos (fun h=>e h.symm)]
  simp at hf⊢
  omega
theorem RN{a b c:List Int}(h1:gr a b=true)(h2:gr b c=true):gr a c=true:=by
 unfold gr at h1 h2⊢
 split at h1<;>split at h2
 ·rw[decide_eq_true_eq] at h1 h2;rw[if_pos (by omega)];simp;omega
 ·rw[decide_eq_true_eq] at h1;rw[if_pos (by omega)];simp;omega
 ·rw[decide_eq_true_eq] at h2;rw[if_pos (by omega)];simp;omega
 ·rw[if_neg (by omega)];exact HN h1 h2
def cO(q:Nat→Bool):Nat→Option Nat
 |0=>none
 |k+1=>match cO q k with
  |none=>if q k then some k else none
  |some b=>if gr (bq k) (bq b)&&q k then some k else some b
theorem HO(q:Nat→Bool):∀k,k≤256→match cO q k with
  |none=>∀j<k,q j=false
  |some b=>b<k∧q b=true∧∀j<k,q j=true→j=b∨gr (bq b) (bq j)=true
 |0,_=>by simp[cO]
 |k+1,hk=>by
  have ih:=HO q k (by omega)
  unfold cO
  generalize cO q k=o at ih
  cases o with
  |none=>
   simp only at ih⊢
   cases hq:q k with
   |true=>
    refine⟨by omega,hq,fun j hj pF=> ?_⟩
    by_cases e:j=k
    ·exact .inl e
    ·rw[ih j (by omega)] at pF;cases pF
   |false=>
    intro j hj
    by_cases e:j=k
    ·rw[e,hq]
    ·exact ih j (by omega)
  |some b=>
   obtain⟨h1,h2,h3⟩:=ih
   show(match (if gr (bq k) (bq b)&&q k then some k else some b:Option Nat) with|none=>_|some b=>_)
   cases hl:gr (bq k) (bq b)&&q k with
   |true=>
    rw[Bool.and_eq_true] at hl
    show k<k+1∧_
    refine⟨by omega,hl.2,fun j hj pF=> ?_⟩
    by_cases e:j=k
    ·exact .inl e
    ·rcases h3 j (by omega) pF with rfl|h
     ·exact .inr hl.1
     ·exact .inr (RN hl.1 h)
   |false=>
    show b<k+1∧_
    refine⟨by omega,h2,fun j hj pF=> ?_⟩
    by_cases e:j=k
    ·subst e
     rw[pF,Bool.and_true] at hl
     exact .inr (RM (fun e=>by have:=A5 (by omega) (by omega) e;omega) hl)
    ·exact h3 j (by omega) pF
def chain:List (List Int)→Bool
 |a::b::l=>gr a b&&chain (b::l)
 |_=>true
end Go.Proofs.YtpeikknjbnnnnaaGreat.O
namespace Go.Proofs.YtpeikknjbnnnnaaGreat.O
open Go.az
theorem cP{sz:Nat}{xs:List AV}{r:Nat}(h:Fits (.slice sz xs r)):xs.length≤140737488355328:=by
 obtain⟨w,A,v,h⟩:=h
 cases h with
 |cS=>simp
 |slice _ _ _ b off cap vs hsz h1c hcap hlen hc hr=>exact hlen
@[simp] theorem Xw (b k:Nat) (h:k<1000001):(1000001+b=k)=False:=by simp;omega
@[simp] theorem Xx (b k:Nat) (h:k<1000001):(k=1000001+b)=False:=by simp;omega
@[simp] theorem Xy (b:Nat):(1000000≤1000001+b)=True:=by simp;omega
theorem RO(loc:Nat→Option (List AV))(cs:List AV)(K:AV→Prop):dr loc (.ref cs) none K=(0<cs.length∧K (cs.getD 0 .any).erase):=rfl
theorem RP(loc:Nat→Option (List AV))(cs:List AV)(n:Nat)(K:AV→Prop):dr loc (.ref cs) (some n) K=(0+n≤cs.length∧K (AV.agg ((cs.drop 0).take n)).erase.erase):=rfl
theorem RQ(loc:Nat→Option (List AV))(b o:Nat)(n:Option Nat)(K:AV→Prop):dr loc (.Yq b o) n K=(match loc b with|some cs=>cC cs o n K|none=>False):=rfl
theorem RR(cs:List AV)(o:Nat)(K:AV→Prop):cC cs o none K=(o<cs.length∧K (cs.getD o .any)):=rfl
theorem abK(cs:List AV)(o n:Nat)(K:AV→Prop):cC cs o (some n) K=(o+n≤cs.length∧K (AV.agg ((cs.drop o).take n)).erase):=rfl
attribute [simp] RO RP RQ RR abK
def firstAt{α:Type}(p:α→Bool)(l:List α):Int:=match l.findIdx? p with
 |some i=>i
 |none=> -1
theorem pG{α:Type}{p:α→Bool}{l:List α}{k:Nat}(hk:k<l.length)(h:p l[k]=true)(hno:∀x∈l.take k,p x=false):firstAt p l=k:=by
 have:l.findIdx? p=some k:=by
  rw[List.findIdx?_eq_some_iff_getElem]
  refine⟨hk,h,fun j hj=> ?_⟩
  have:=hno l[j] (List.mem_take_iff_getElem.2 ⟨j,by omega,rfl⟩)
  simp[this]
 simp[firstAt,this]
theorem aax{α:Type}{p:α→Bool}{l:List α}(hno:∀x∈l,p x=false):firstAt p l= -1:=by
 have:l.findIdx? p=none:=by rw[List.findIdx?_eq_none_iff];simpa using hno
 simp[firstAt,this]
theorem RT(l:List Int)(f:FuncId)(caps:List AV)(p:Int→Bool)(hp:∀x∈l,aA Tryz.prog f (I x::caps) (B (p x))):aA Tryz.prog 103 [IL l,.func (.func f) [] caps] (I (firstAt p l)):=by
 refine pc t103 (by simp) fun hfit=> ?_
 have hl:=cP (hfit 0)
 simp only[List.length_map] at hl
 simp -implicitDefEqProofs [Gl]
 refine bw l.length (fun k s=>s.env 0=IL l∧s.env 1=.func (.func f) [] caps∧s.env 7=I l.length∧s.env 8=I k∧∀x∈l.take k,p x=false) ?_ ?_
 ·simp
 ·rintro k s hk ⟨e0,e1,e7,e8,hno⟩
  simp -implicitDefEqProofs [e7,e8]
  refine bu (fun hlt=> ?_) (fun hge=> ?_)
  ·simp -implicitDefEqProofs [e0,e1,e8,hlt,m_]
   refine aj (hp l[k] (List.getElem_mem _)) ?_
   simp -implicitDefEqProofs
   refine e_ (fun he=> ?_) (fun he=> ?_)
   ·have hc:=pG hlt he hno
    simp -implicitDefEqProofs [AB,hc]
   ·simp -implicitDefEqProofs [e8]
    refine⟨i64 (by omega) (by omega),aN hlt ⟨by simp[e0],by simp[e1],by simp[e7],by simp,?_⟩⟩
    intro x hx
    rw[cV hlt,List.mem_append,List.mem_singleton] at hx
    rcases hx with hx|rfl
    ·exact hno x hx
    ·exact he
  ·obtain rfl:k=l.length:=by omega
   rw[List.take_length] at hno
   have hc:=aax hno
   simp -implicitDefEqProofs [AB,hc]
theorem aay{α:Type}(p:α→Bool)(l:List α):decide (0≤firstAt p l)=l.any p:=by
 unfold firstAt
 cases h:l.findIdx? p with
 |none=>
  rw[List.findIdx?_eq_none_iff] at h
  simpa using h
 |some i=>
  obtain⟨hi,hp,_⟩:=List.findIdx?_eq_some_iff_getElem.1 h
  simp
  exact⟨_,List.getElem_mem hi,hp⟩
theorem A6(n lo hi:Int):aA Tryz.prog 81 [I n,.ref [I lo],.ref [I hi]] (B (decide (n<lo)||decide (hi<n))):=by
 refine pc t81 (by simp) fun _=> ?_
 by_cases h:n<lo<;>simp -implicitDefEqProofs [F1,r81,h,s9,kW]
theorem HP(l:List Int)(f:FuncId)(caps:List AV)(p:Int→Bool)(hp:∀x∈l,aA Tryz.prog f (I x::caps) (B (p x))):aA Tryz.prog 80 [IL l,.func (.func f) [] caps] (B (l.any p)):=by
 refine pc t80 (by simp) fun _=> ?_
 simp -implicitDefEqProofs [FZ]
 refine aj (RT l f caps p hp) ?_
 simp -implicitDefEqProofs [F0,aay]
def out(lo hi:Int)(l:List Int):Bool:=l.any fun n=>decide (n<lo)||decide (hi<n)
theorem Zv(lo hi:Int)(l:List Int):aA Tryz.prog 50 [I lo,I hi,IL l] (B (out lo hi l)):=by
 refine pc t50 (by simp) fun _=> ?_
 simp -implicitDefEqProofs [FB]
 refine aj (HP l 81 [.ref [I lo],.ref [I hi]] _ fun x _=>A6 x lo hi) ?_
 simp -implicitDefEqProofs [FC,out]
theorem A7(n lo hi:Int):aA Tryz.prog 15 [I n,I lo,I hi] (B (decide (lo≤n∧n≤hi))):=by
 refine pc t15 (by simp) fun _=> ?_
 by_cases h:lo≤n<;>simp -implicitDefEqProofs [E8,E9,h]
def bt(s:ByteArray)(k:Nat):Nat:=(s.data.toList.getD k 0).toNat
theorem A8(s:ByteArray)(k:Nat)(h:k<s.data.size):(s.data[k]'h).toNat=bt s k:=by
 have:s.data[k]? =some (s.data[k]'h):=Array.getElem?_eq_getElem h
 simp[bt,List.getD_eq_getElem?_getD,this]
theorem HQ(s:ByteArray){k:Nat}(h:k<s.size):(s.get! k).toNat=bt s k:=by
 cases s with
 |mk a=>
  have h':k<a.size:=h
  simp[ByteArray.get!,bt,List.getD_eq_getElem?_getD,h']
theorem RU{s:ByteArray}{k:Nat}(h:k<s.size)(hb:bt s k<128):Utf8.decode s k=(bt s k,1):=by
 have e:=HQ s h
 unfold Utf8.decode
 simp only[Nat.add_zero,e,hb,if_true]
theorem abL{s:ByteArray}{k:Nat}(h:k<s.size)(hb:¬bt s k<128):128≤(Utf8.decode s k).1:=by
 have e:=HQ s h
 unfold Utf8.decode
 simp only[Nat.add_zero,e,hb,if_false]
 repeat' split
 all_goals simp_all [Utf8.runeError]
 all_goals omega
def iV(c:Nat):Bool:=decide (97≤c∧c≤122)
def isDigit(c:Nat):Bool:=decide (48≤c∧c≤57)
def dm(k c:Nat):Bool:=iV c||(decide (0<k)&&(isDigit c||decide (c=46)))
def gu(s:ByteArray):Bool:=decide (0<s.size∧s.size≤16∧∀k<s.size,dm k (bt s k)=true)
theorem RW(c:Nat):aA Tryz.prog 78 [.lit (.int .u8 c)] (B (iV c)):=by
 refine pc t78 (by simp) fun _=> ?_
 by_cases h:97≤c
 ·have h':(97:Int)≤(c:Int):=by omega
  have e:iV c=decide ((c:Int)≤122):=by unfold iV;rw[decide_eq_decide];omega
  simp -implicitDefEqProofs [Ar,As,h',e]
 ·have h':¬(97:Int)≤(c:Int):=by omega
  have e:iV c=false:=by unfold iV;simp;omega
  simp -implicitDefEqProofs [Ar,As,h',e]
theorem RX(c:Nat):aA Tryz.prog 79 [.lit (.int .u8 c)] (B (isDigit c)):=by
 refine pc t79 (by simp) fun _=> ?_
 by_cases h:48≤c
 ·have h':(48:Int)≤(c:Int):=by omega
  have e:isDigit c=decide ((c:Int)≤57):=by unfold isDigit;rw[decide_eq_decide];omega
  simp -implicitDefEqProofs [At,Au,h',e]
 ·have h':¬(48:Int)≤(c:Int):=by omega
  have e:isDigit c=false:=by unfold isDigit;simp;omega
  simp -implicitDefEqProofs [At,Au,h',e]
theorem abu(s:ByteArray):aA Tryz.prog 49 [S s] (B (gu s)):=by
 refine pc t49 (by simp) fun _=> ?_
 by_cases h0:s.size=0
 ·have e:gu s=false:=decide_eq_false fun h=>by obtain⟨_,_,_⟩:=h;omega
  simp -implicitDefEqProofs [vL,r49,h0,e]
 by_cases h1:(16:Int)<s.size
 ·have e:gu s=false:=decide_eq_false fun h=>by obtain⟨_,_,_⟩:=h;omega
  have eE:((s.size:Int)==0)=false:=beq_eq_false_iff_ne.2 (by omega)
  simp -implicitDefEqProofs [vL,r49,eE,h1,e]
 have eE:((s.size:Int)==0)=false:=beq_eq_false_iff_ne.2 (by omega)
 simp -implicitDefEqProofs [vL,eE,h1]
 refine bw s.size (fun k st=>st.env 0=S s∧st.env 3=I k∧∀j<k,dm j (bt s j)=true) ?_ ?_
 ·simp
 ·rintro k st hk ⟨e0,e3,hno⟩
  simp -implicitDefEqProofs [e0,e3]
  refine bu (fun hlt=> ?_) (fun hge=> ?_)
  ·have hlt':k<s.size:=by omega
   simp -implicitDefEqProofs [e0,e3,hlt',A8]
   refine aj (RW (bt s k)) ?_
   have next:dm k (bt s k)=true→∀j<k+1,dm j (bt s j)=true:=fun h j hj=>by
    rcases Nat.lt_succ_iff_lt_or_eq.1 hj with hj|rfl
    ·exact hno j hj
    ·exact h
   have bad:dm k (bt s k)=false→gu s=false:=fun h=>by
    unfold gu
    simp only[decide_eq_false_iff_not]
    rintro⟨_,_,h'⟩
    rw[h' k hlt'] at h
    cases h
   cases hL:iV (bt s k) with
   |true=>
    simp -implicitDefEqProofs [e3]
    exact⟨i64 (by omega) (by omega),aN hlt' ⟨by simp[e0],by simp,next (by simp[dm,hL])⟩⟩
   |false=>
    by_cases aX:k=0
    ·subst aX
     simp -implicitDefEqProofs [e3]
     simp -implicitDefEqProofs [r49,bad (by simp[dm,hL])]
    ·have RY:((k:Int)==0)=false:=beq_eq_false_iff_ne.2 (by omega)
     simp -implicitDefEqProofs [e0,e3,RY,hlt',A8]
     refine aj (RX (bt s k)) ?_
     cases hD:isDigit (bt s k) with
     |true=>
      simp -implicitDefEqProofs [e3]
      exact⟨i64 (by omega) (by omega),aN hlt' ⟨by simp[e0],by simp,next (by simp[dm,hL,hD];omega)⟩⟩
     |false=>
      simp -implicitDefEqProofs [e0,e3,hlt',A8]
      refine e_ (fun he=> ?_) (fun he=> ?_)
      ·simp -implicitDefEqProofs [r49]
       refine bad ?_
       have:bt s k≠46:=by simp at he;omega
       simp[dm,hL,hD,this]
      ·simp -implicitDefEqProofs [e3]
       refine⟨i64 (by omega) (by omega),aN hlt' ⟨by simp[e0],by simp,next ?_⟩⟩
       have:bt s k=46:=by simp at he;omega
       simp[dm,this];omega
  ·obtain rfl:k=s.size:=by omega
   have e:gu s=true:=by unfold gu;simp;exact⟨by omega,by omega,hno⟩
   simp -implicitDefEqProofs [r49,e]
theorem abv{k c:Nat}(h:dm k c=true):c<128:=by
 simp[dm,iV,isDigit] at h
 omega
theorem RZ{s:ByteArray}{k:Nat}(h:k<s.size):dm k (Utf8.decode s k).1=dm k (bt s k)∧(dm k (Utf8.decode s k).1=true→(Utf8.decode s k).2=1):=by
 by_cases hb:bt s k<128
 ·rw[RU h hb];exact⟨rfl,fun _=>rfl⟩
 ·have h1:=abL h hb
  have e1:dm k (Utf8.decode s k).1=false:=by
   cases e:dm k (Utf8.decode s k).1 with
   |false=>rfl
   |true=>have:=abv e;omega
  have e2:dm k (bt s k)=false:=by
   cases e:dm k (bt s k) with
   |false=>rfl
   |true=>have:=abv e;omega
  rw[e1,e2];exact⟨rfl,fun h=>by cases h⟩
theorem HT(s:ByteArray):∀(n i:Nat) (r:List UInt8),s.size - i=n→ByteArray.toList.loop s i r=r.reverse++s.data.toList.drop i
 |0,i,r,h=>by
  unfold ByteArray.toList.loop
  have:¬i<s.size:=by omega
  rw[if_neg this,List.drop_of_length_le (by simpa using(by omega:s.size≤i)),List.append_nil]
 |n+1,i,r,h=>by
  unfold ByteArray.toList.loop
  have hi:i<s.size:=by omega
  rw[if_pos hi,HT s n (i+1) _ (by omega)]
  have e:s.data.toList.drop i=s.get! i::s.data.toList.drop (i+1):=by
   rw[List.drop_eq_getElem_cons (by simpa using hi)]
   congr 1
   cases s with
   |mk a=>
    have hi':i<a.size:=hi
    simp[ByteArray.get!,hi']
  rw[e]
  simp
theorem A9(s:ByteArray):s.toList=s.data.toList:=by
 unfold ByteArray.toList
 rw[HT s _ 0 [] rfl];simp
theorem R1(s:ByteArray):s.toList.isEmpty=decide (s.size=0):=by
 rw[A9]
 have:s.size=s.data.toList.length:=by simp
 rw[this]
 cases s.data.toList<;>simp
theorem A_(s:ByteArray):aA Tryz.prog 97 [S s] (B (gu s)):=by
 refine pc t97 (by simp) fun _=> ?_
 simp -implicitDefEqProofs [Gd]
 intro b
 refine bw s.size (fun k st=>st.env 0=S s∧st.env 6=.Yq b 0∧st.env (oS+b)=jT s k∧∀j<k,dm j (bt s j)=true) ?_ ?_
 ·simp
 ·rintro k st hk ⟨e0,e6,eo,hno⟩
  simp -implicitDefEqProofs [e6]
  refine⟨s,k,by simpa using eo,fun hlt=> ?_,fun hge=> ?_⟩
  ·obtain⟨d1,d2⟩:=RZ hlt
   generalize hr:(Utf8.decode s k).1=r at d1 d2
   have good:dm k r=true→(Utf8.decode s k).2=1∧∀j<k+1,dm j (bt s j)=true:=fun h=>⟨d2 h,fun j hj=>by
    rcases Nat.lt_succ_iff_lt_or_eq.1 hj with hj|rfl
    ·exact hno j hj
    ·rw[←d1];exact h⟩
   have bad:dm k r=false→gu s=false:=fun h=>decide_eq_false fun h'=>by
    have:=h'.2.2 k hlt
    rw[←d1,h] at this
    cases this
   by_cases c1:(97:Int)≤(r:Int)
   ·by_cases c2:(r:Int)≤122
    ·simp -implicitDefEqProofs [c1,c2]
     have hg:=good (by simp[dm,iV];omega)
     rw[hg.1]
     exact aN hlt ⟨by simp[e0],by simp[e6],by simp,hg.2⟩
    ·simp -implicitDefEqProofs [c1,c2]
     by_cases c3:0<k
     ·have c4:(48:Int)≤(r:Int):=by omega
      have c5:¬(r:Int)≤57:=by omega
      have c6:((r:Int)==46)=false:=beq_eq_false_iff_ne.2 (by omega)
      simp -implicitDefEqProofs [c3,c4,c5,c6]
      simp -implicitDefEqProofs [og,bad (by simp[dm,iV,isDigit];omega)]
     ·simp -implicitDefEqProofs [c3]
      simp -implicitDefEqProofs [og,bad (by simp[dm,iV,c3];omega)]
   ·simp -implicitDefEqProofs [c1]
    by_cases c3:0<k
    ·by_cases c4:(48:Int)≤(r:Int)
     ·by_cases c5:(r:Int)≤57
      ·simp -implicitDefEqProofs [c3,c4,c5]
       have hg:=good (by simp[dm,isDigit,c3];omega)
       rw[hg.1]
       exact aN hlt ⟨by simp[e0],by simp[e6],by simp,hg.2⟩
      ·have c6:((r:Int)==46)=false:=beq_eq_false_iff_ne.2 (by omega)
       simp -implicitDefEqProofs [c3,c4,c5,c6]
       simp -implicitDefEqProofs [og,bad (by simp[dm,iV,isDigit];omega)]
     ·simp -implicitDefEqProofs [c3,c4]
      refine e_ (fun he=> ?_) (fun he=> ?_)
      ·have hr:(r:Int)=46:=by simpa using he
       have hg:=good (by simp[dm,c3];omega)
       simp -implicitDefEqProofs
       rw[hg.1]
       exact aN hlt ⟨by simp[e0],by simp[e6],by simp,hg.2⟩
      ·have hr:(r:Int)≠46:=by simpa using he
       simp -implicitDefEqProofs [og,bad (by simp[dm,iV,isDigit];omega)]
    ·simp -implicitDefEqProofs [c3]
     simp -implicitDefEqProofs [og,bad (by simp[dm,iV,c3];omega)]
  ·obtain rfl:k=s.size:=by omega
   simp -implicitDefEqProofs [e0]
   rw[R1]
   by_cases h0:s.size=0
   ·have e:gu s=false:=decide_eq_false fun h=>by obtain⟨_,_,_⟩:=h;omega
    simp -implicitDefEqProofs [h0,og,e]
   ·simp -implicitDefEqProofs [h0,og,e0]
    by_cases h1:s.size≤16
    ·have e:gu s=true:=decide_eq_true ⟨by omega,h1,hno⟩
     rw[e];simp;omega
    ·have e:gu s=false:=decide_eq_false fun h=>by obtain⟨_,_,_⟩:=h;omega
     rw[e];simp;omega
def bD(p q:ByteArray):Bool:=p.toList==q.toList
theorem tv(p q:ByteArray):bD p q=bD q p:=by unfold bD;rw[Bool.beq_comm]
theorem abM(l:List ByteArray)(x:ByteArray):aA Tryz.prog 48 [SL l,S x] (I (firstAt (fun y=>bD y x) l)):=by
 refine pc t48 (by simp) fun hfit=> ?_
 have hl:=cP (hfit 0)
 simp only[List.length_map] at hl
 simp -implicitDefEqProofs [FA]
 refine⟨i64 (by omega) (by omega),?_⟩
 refine bw l.length (fun k s=>s.env 0=SL l∧s.env 1=S x∧(∃i:Int,i=l.length - 1 - k∧s.env 5=I i)∧∀j (hj:j<l.length),l.length<j+1+k→bD l[j] x=false) ?_ ?_
 ·simp
  intro j hj h;omega
 ·rintro k s hk ⟨e0,e1,⟨i,hi,e5⟩,hno⟩
  simp -implicitDefEqProofs [e5]
  by_cases hlt:k<l.length
  ·have h0:0≤i:=by omega
   obtain⟨n,rfl⟩:∃n:Nat,i=n:=⟨i.toNat,by omega⟩
   have hn:n<l.length:=by omega
   simp -implicitDefEqProofs [e0,e1,e5,hn]
   refine e_ (fun he=> ?_) (fun he=> ?_)
   ·simp -implicitDefEqProofs [e5]
    refine⟨i64 (by omega) (by omega),aN hlt ⟨by simp[e0],by simp[e1],by simp;omega,?_⟩⟩
    intro j hj Xz
    by_cases Ny:n<j
    ·exact hno j hj (by omega)
    ·obtain rfl:j=n:=by omega
     simpa[bD] using he
   ·have hx:bD l[n] x=true:=by simpa[bD] using he
    simp -implicitDefEqProofs
    refine bw n (fun j s=>s.env 0=SL l∧s.env 1=S x∧s.env 5=I n∧s.env 6=I j∧∀y∈l.take j,bD y x=false) ?_ ?_
    ·simp[e0,e1,e5]
    ·rintro j s hj ⟨e0,e1,e5,e6,Ba⟩
     simp -implicitDefEqProofs [e5,e6]
     refine bu (fun hlt=> ?_) (fun hge=> ?_)
     ·have hjl:j<l.length:=by omega
      simp -implicitDefEqProofs [e0,e1,e6,hjl]
      refine e_ (fun he=> ?_) (fun he=> ?_)
      ·have hc:=pG (p:=fun y=>bD y x) hjl (by simpa[bD] using he) Ba
       simp -implicitDefEqProofs [vK,e6,hc]
      ·simp -implicitDefEqProofs [e6]
       refine⟨i64 (by omega) (by omega),aN (by omega) ⟨by simp[e0],by simp[e1],by simp[e5],by simp,?_⟩⟩
       intro y hy
       rw[cV hjl,List.mem_append,List.mem_singleton] at hy
       rcases hy with hy|rfl
       ·exact Ba y hy
       ·simpa[bD] using he
     ·obtain rfl:j=n:=by omega
      have hc:=pG (p:=fun y=>bD y x) hn hx Ba
      simp -implicitDefEqProofs [vK,e5,hc]
  ·obtain rfl:k=l.length:=by omega
   have h0:¬0≤i:=by omega
   have h1:i= -1:=by omega
   subst h1
   simp -implicitDefEqProofs
   have hc:=aax (p:=fun y=>bD y x) (l:=l) (fun y hy=>by
    obtain⟨j,hj,rfl⟩:=List.mem_iff_getElem.1 hy
    exact hno j hj (by omega))
   refine bw 0 (fun j s=>s.env 5=I (-1)∧s.env 6=I 0) ?_ ?_
   ·simp[e5]
   ·rintro j s hj ⟨e5,e6⟩
    simp -implicitDefEqProofs [e5,e6,vK,hc]
def ew(name:ByteArray)(before:List ByteArray):Int:=if gu name then (if before.any fun s=>bD s name then 5 else 0) else 6
theorem Bb(name:ByteArray)(l:List ByteArray):aA Tryz.prog 16 [S name,SL l] (I (ew name l)):=by
 refine pc t16 (by simp) fun hfit=> ?_
 simp -implicitDefEqProofs [E_]
 refine aj (abM l name) ?_
 have e:=aay (fun y=>bD y name) l
 cases h:l.any fun y=>bD y name with
 |true=>
  rw[h] at e
  have e':0≤firstAt (fun y=>bD y name) l:=of_decide_eq_true e
  simp -implicitDefEqProofs [e']
  refine aj (abu name) ?_
  cases hn:gu name<;>simp -implicitDefEqProofs [Aj,ew,hn,h]
 |false=>
  rw[h] at e
  have e':¬0≤firstAt (fun y=>bD y name) l:=of_decide_eq_false e
  simp -implicitDefEqProofs [e']
  refine aj (abu name) ?_
  cases hn:gu name<;>simp -implicitDefEqProofs [Aj,ew,hn,h]
theorem iy{cs:List AV}(h:Fits (.agg cs))(i:Nat):Fits (cs.getD i .any):=by
 obtain⟨w,A,v,h⟩:=h
 cases h with
 |agg _ vs hs hr=>exact⟨w,A,_,hr i⟩
theorem drop_cons{α:Type}{l:List α}{k:Nat}(h:k<l.length):l.drop k=l[k]::l.drop (k+1):=List.drop_eq_getElem_cons h
end Go.Proofs.YtpeikknjbnnnnaaGreat.O
namespace Go.Proofs.YtpeikknjbnnnnaaGreat.O
open Go.az
theorem HU{a:Nat}(h:a<1099511627776):IntKind.wrap .i64 (a:Int)=a:=by
 simp[IntKind.wrap,IntKind.bits,IntKind.signed]
 omega
theorem Bc{a:Nat}(h:a<1099511627776):IntKind.wrap .u64 (a:Int)=a:=by
 simp[IntKind.wrap,IntKind.bits,IntKind.signed]
 omega
theorem HV(a:Nat):BitVec.ofInt 64 (a:Int)=BitVec.ofNat 64 a:=by simp
theorem HW{a:Nat}(ha:a<1099511627776):d_ .and .i64 (a:Int) 1=((a%2:Nat):Int):=by
 have e:((BitVec.ofInt (IntKind.bits .i64) (a:Int)) &&& (BitVec.ofInt (IntKind.bits .i64) 1)).toNat=a%2:=by
  show(BitVec.ofInt 64 (a:Int) &&& BitVec.ofInt 64 ((1:Nat):Int)).toNat=_
  rw[HV,HV,BitVec.toNat_and,BitVec.toNat_ofNat,BitVec.toNat_ofNat,Nat.mod_eq_of_lt (by omega),Nat.mod_eq_of_lt (by omega)]
  exact Nat.and_one_is_mod a
 unfold d_
 show IntKind.wrap .i64 _=_
 rw[e]
 exact HU (by omega)
theorem vY{n i:Nat}(hn:n<256):(d_ .and .i64 (Int.fdiv (n:Int) (2^(min i 64))) 1==1)=n.testBit i∨64<i:=by
 by_cases hi:64<i
 ·exact .inr hi
 left
 rw[Nat.min_eq_left (by omega)]
 have e:Int.fdiv (n:Int) (2^i)=((n / 2^i:Nat):Int):=by
  rw[Int.fdiv_eq_ediv_of_nonneg _ (by exact Int.pow_nonneg (by omega))]
  simp
 rw[e,HW (Nat.lt_of_le_of_lt (Nat.div_le_self _ _) (by omega)),Nat.testBit_eq_decide_div_mod_eq]
 rcases Nat.mod_two_eq_zero_or_one (n / 2^i) with h|h<;>rw[h]<;>rfl
theorem HX{n:Nat}(h:n<256):iw n≤8∧n<2^iw n:=by
 unfold iw
 cases hf:(List.range 9).find? fun i=>n<2^i with
 |none=>
  rw[List.find?_eq_none] at hf
  have:=hf 8 (by simp)
  simp at this;omega
 |some i=>
  have h1:=List.find?_some hf
  have h2:=List.mem_of_find?_eq_some hf
  simp at h1 h2
  simp
  omega
theorem Bd{n L:Nat}(h:n<2^L):∀d,dL (fun i=>n.testBit i) (L+d)=dL (fun i=>n.testBit i) L
 |0=>rfl
 |d+1=>by
  have hf:(fun i=>n.testBit i) (L+d)=false:=Nat.testBit_lt_two_pow (Nat.lt_of_lt_of_le h (Nat.pow_le_pow_right (by omega) (by omega)))
  rw[show L+(d+1)=(L+d)+1 from rfl,abe hf,Bd h d]
set_option maxRecDepth 8000 in
theorem abN(n:Nat)(h:n<256):aA Tryz.prog 87 [.lit (.int .u64 n)] (I (bq n).length):=by
 refine pc t87 (by simp) fun hx=> ?_
 simp -implicitDefEqProofs [F9,F_]
 clear hx
 revert n
 simp only[gX]
 decide+kernel
set_option maxRecDepth 8000 in
theorem R4(n:Nat)(h:n<256):aA Tryz.prog 105 [.lit (.int .u64 n)] (I (iw n:Nat)):=by
 refine pc t105 (by simp) fun hx=> ?_
 have h1:¬(4294967296:Int)≤n:=by omega
 have h2:¬(65536:Int)≤n:=by omega
 have h3:¬(256:Int)≤n:=by omega
 simp -implicitDefEqProofs [Gm,Gn,h1,h2,h3]
 clear hx h1 h2 h3
 revert n
 simp only[gX]
 decide+kernel
theorem HY(n:Nat)(h:n<256):aA Tryz.prog 88 [.lit (.int .u64 n)] (I (iw n:Nat)):=by
 refine pc t88 (by simp) fun _=> ?_
 simp -implicitDefEqProofs [Ga]
 refine aj (R4 n h) ?_
 simp -implicitDefEqProofs [Gb]
theorem R5(n:Nat)(h:n<256):aA Tryz.prog 57 [.lit (.int .u64 n)] (I (bq n).length):=by
 refine pc t57 (by simp) fun _=> ?_
 simp -implicitDefEqProofs [FL]
 refine aj (abN n h) ?_
 simp -implicitDefEqProofs [FM]
theorem R6{n:Nat}(hn:n<256):aA Tryz.prog 58 [I n] (IL (bq n)):=by
 refine pc t58 (by simp) fun hfit=> ?_
 have c:=HY n hn
 have hl:=HX hn
 have hw:=Bc (a:=n) (by omega)
 have hres:bq n=dL (fun i=>n.testBit i) (iw n):=by
  unfold bq
  have:=Bd hl.2 (8 - iw n)
  rwa [show iw n+(8 - iw n)=8 by omega] at this
 rw[hres]
 generalize iw n=L at*
 simp -implicitDefEqProofs [FN,hw]
 refine aj c ?_
 simp -implicitDefEqProofs
 refine bw L (fun k s=>s.env 0=I n∧s.env 2=.slice 1 ((dL (fun i=>n.testBit i) k).map I) 3∧s.env 6=I L∧s.env 7=I k) ?_ ?_
 ·simp[abr]
 rintro k s hk ⟨e0,e2,e6,e7⟩
 simp -implicitDefEqProofs [e6,e7]
 refine bu (fun hlt=> ?_) (fun hge=> ?_)
 ·have hlt:k<L:=by omega
  have pH:=aaw (fun i=>n.testBit i) k
  have hb:(d_ .and .i64 (Int.fdiv (n:Int) (2^(min k 64))) 1==1)=n.testBit k:=by
   rcases vY (i:=k) hn with h|h
   ·exact h
   ·omega
  simp -implicitDefEqProofs [e0,e7]
  have hb':(d_ .and .i64 (Int.fdiv (n:Int) (2^(min k (IntKind.bits .i64)))) 1==1)=n.testBit k:=hb
  rw[hb']
  refine e_ (fun he=> ?_) (fun he=> ?_)
  ·simp -implicitDefEqProofs [e2,e7]
   refine⟨by omega,by omega,i64 (by omega) (by omega),aN hlt ⟨by simp[e0],by simp[HJ (q:=fun i=>n.testBit i) he],by simp[e6],by simp⟩⟩
  ·simp -implicitDefEqProofs [e7]
   refine⟨i64 (by omega) (by omega),aN hlt ⟨by simp[e0],by simp[e2,abe (q:=fun i=>n.testBit i) he],by simp[e6],by simp⟩⟩
 ·obtain rfl:k=L:=by omega
  simp -implicitDefEqProofs [e2,FO]
theorem HZ(x:Int):aA Tryz.prog 106 [I x] (B false):=by
 refine pc t106 (by simp) fun hfit=> ?_
 simp -implicitDefEqProofs [Gp,Gq]
theorem R7(x y:Int):aA Tryz.prog 89 [I x,I y] (I (if x<y then -1 else if y<x then 1 else 0)):=by
 refine pc t89 (by simp) fun hfit=> ?_
 simp -implicitDefEqProofs [Gc]
 refine aj (HZ x) ?_
 simp -implicitDefEqProofs
 refine aj (HZ y) ?_
 by_cases h1:x<y
 ·simp -implicitDefEqProofs [h1,Az]
 ·by_cases h2:y<x<;>simp -implicitDefEqProofs [h1,h2,Az]
theorem Be(a b:List Int)(h:a.length=b.length):aA Tryz.prog 59 [IL a,IL b] (I (Zc a b)):=by
 refine pc t59 (by simp) fun hfit=> ?_
 have hl:=cP (hfit 0)
 simp only[List.length_map] at hl
 obtain⟨R,hR⟩:∃R,R=Zc a b:=⟨_,rfl⟩
 rw[←hR]
 simp -implicitDefEqProofs [FP]
 refine bw a.length (fun k s=>s.env 0=IL a∧s.env 1=IL b∧s.env 9=IL a∧s.env 10=I a.length∧s.env 11=I k∧R=Zc (a.drop k) (b.drop k)) ?_ ?_
 ·simp[hR]
 rintro k s hk ⟨e0,e1,e9,bF,aV,hc⟩
 simp -implicitDefEqProofs [bF,aV]
 refine bu (fun hlt=> ?_) (fun hge=> ?_)
 ·have hlt:k<a.length:=by omega
  have YH:k<b.length:=by omega
  have hge:¬(b.length:Int)≤(k:Int):=by omega
  rw[drop_cons hlt,drop_cons YH] at hc
  unfold Zc at hc
  have c:=R7 a[k] b[k]
  simp -implicitDefEqProofs [e1,e9,aV,hlt,YH,hge]
  refine aj c ?_
  by_cases h1:a[k]<b[k]
  ·rw[if_pos h1] at hc
   simp -implicitDefEqProofs [h1,vN,hc]
  ·rw[if_neg h1] at hc
   by_cases h2:b[k]<a[k]
   ·rw[if_pos h2] at hc
    simp -implicitDefEqProofs [h1,h2,vN,hc]
   ·rw[if_neg h2] at hc
    simp -implicitDefEqProofs [h1,h2,aV]
    exact⟨i64 (by omega) (by omega),aN hlt ⟨by simp[e0],by simp[e1],by simp[e9],by simp[bF],by simp,hc⟩⟩
 ·obtain rfl:k=a.length:=by omega
  rw[List.drop_length,h,List.drop_length] at hc
  have hc:R=0:=hc
  simp -implicitDefEqProofs [e0,e1,h,vN,hc]
end Go.Proofs.YtpeikknjbnnnnaaGreat.O
namespace Go.Proofs.YtpeikknjbnnnnaaGreat.O
open Go.az
def bU(l:List Int)(x:Int):Int:=match l.idxOf? x with
 |some i=>i
 |none=> -1
theorem ni(a b:List Int):aA Tryz.prog 30 [IL a,IL b] (B (decide (a=b))):=by
 refine pc t30 (by simp) fun hfit=> ?_
 have ha:=cP (hfit 0)
 have hb:=cP (hfit 1)
 simp only[List.length_map] at ha hb
 simp -implicitDefEqProofs [Fu]
 refine bw a.length (fun k s=>s.env 0=IL a∧s.env 1=IL b∧s.env 6=I k∧s.env 5=B (decide (a.length=b.length∧a.take k=b.take k))) ?_ ?_
 ·by_cases h:a.length=b.length
  ·simp[h]
  ·simp[h];omega
 ·rintro k s hk ⟨e0,e1,e6,e5⟩
  by_cases hsame:a.length=b.length∧a.take k=b.take k
  ·have pI:s.env 5=B true:=by rw[e5];simp only[hsame,and_self,decide_true]
   by_cases hlt:k<a.length
   ·have YH:k<b.length:=by omega
    simp -implicitDefEqProofs [e0,e1,pI,e6,hlt,YH]
    refine⟨i64 (by omega) (by omega),aN hlt ⟨by simp[e0],by simp[e1],by simp,?_⟩⟩
    simp
    rw[cV hlt,hsame.2,Bool.eq_iff_iff]
    simp[hsame.1,cV YH,-List.take_append_getElem]
   ·obtain rfl:k=a.length:=by omega
    have hab:a=b:=by
     have:=hsame.2
     rw[List.take_length,hsame.1,List.take_length] at this
     exact this
    simp -implicitDefEqProofs [e0,pI,e6,Ak,hab]
  ·have hne:a≠b:=fun h=>hsame (by rw[h];exact⟨rfl,rfl⟩)
   have pI:s.env 5=B false:=by rw[e5,decide_eq_false hsame]
   simp -implicitDefEqProofs [pI,Ak,hne]
theorem au{P:Program}{kn:St→Prop}{ke:Nat→St→Prop}{kr:St→Prop}{s:St}{x y:aC}(J:St→Prop)(hx:∀k:St→Prop,(∀s',J s'→k s')→bz P x k ke kr s)(h:∀s',J s'→bz P y kn ke kr s'):bz P (.seq x y) kn ke kr s:=hx _ h
theorem kY(lo hi n:Int):out lo hi [n]= !decide (lo≤n∧n≤hi):=by
 simp only[out,List.any_cons,List.any_nil,Bool.or_false]
 by_cases h:n<lo
 ·have:¬(lo≤n∧n≤hi):=by omega
  simp[h,this]
 ·by_cases h2:hi<n
  ·have:¬(lo≤n∧n≤hi):=by omega
   simp[h,h2,this]
  ·have:lo≤n∧n≤hi:=by omega
   simp[h,h2,this]
theorem pJ(lo hi n m:Int):out lo hi [n,m]= !(decide (lo≤n∧n≤hi)&&decide (lo≤m∧m≤hi)):=by
 have h1:=kY lo hi n
 have h2:=kY lo hi m
 simp only[out,List.any_cons,List.any_nil,Bool.or_false] at h1 h2⊢
 rw[h1,h2,Bool.not_and]
def eZ(a b lo hi:Int):Int:=if a<lo∨b<lo∨hi<a∨hi<b then 7 else if b<a then 2 else 0
theorem R8(a b lo hi:Int):aA Tryz.prog 17 [pE a b,I lo,I hi] (I (eZ a b lo hi)):=by
 refine pc t17 (by simp) fun _=> ?_
 unfold eZ
 by_cases h:b<a
 ·have h':¬a<b:=by omega
  by_cases h1:b<lo
  ·simp -implicitDefEqProofs [nc,ng,h,h1]
  ·by_cases h2:hi<a
   ·simp -implicitDefEqProofs [nc,ng,h,h',h1,h2]
   ·have h3:¬a<lo:=by omega
    have h4:¬hi<b:=by omega
    simp -implicitDefEqProofs [nc,ng,h,h',h1,h2,h3,h4]
 ·by_cases h1:a<lo
  ·simp -implicitDefEqProofs [nc,ng,h,h1]
  ·by_cases he:a<b
   ·by_cases h2:hi<b
    ·simp -implicitDefEqProofs [nc,ng,h,he,h1,h2]
    ·have h3:¬b<lo:=by omega
     have h4:¬hi<a:=by omega
     simp -implicitDefEqProofs [nc,ng,h,he,h1,h2,h3,h4]
   ·have e:b=a:=by omega
    by_cases h2:hi<a
    ·simp -implicitDefEqProofs [nc,ng,h1,h2,e]
    ·simp -implicitDefEqProofs [nc,ng,h1,h2,e]
theorem H6(a b lo hi:Int):(out lo hi [a,b]=true→eZ a b lo hi=7)∧(out lo hi [a,b]=false→eZ a b lo hi=if b<a then 2 else 0):=by
 rw[pJ]
 unfold eZ
 constructor
 ·intro h
  rw[if_pos]
  simp only[Bool.not_eq_true',Bool.and_eq_false_iff,decide_eq_false_iff_not] at h
  omega
 ·intro h
  rw[if_neg]
  simp only[Bool.not_eq_false',Bool.and_eq_true,decide_eq_true_eq] at h
  omega
def errs(f:Nat→Int)(n:Nat):Option (Nat×Int):=(List.range n).findSome? fun i=>if f i=0 then none else some (i,f i)
theorem ZQ{f:Nat→Int}{n:Nat}(h:∀j<n,f j=0):errs f n=none:=by
 unfold errs
 rw[List.findSome?_eq_none_iff]
 intro x hx
 rw[if_pos (h x (by simpa using hx))]
theorem vZ{f:Nat→Int}{n k:Nat}(hk:k<n)(h:∀j<k,f j=0)(hf:f k≠0):errs f n=some (k,f k):=by
 unfold errs
 rw[List.findSome?_eq_some_iff]
 refine⟨List.range k,k,(List.range (n - (k+1))).map (k+1+ ·),?_,by rw[if_neg hf],fun x hx=>by rw[if_pos (h x (by simpa using hx))]⟩
 conv=>lhs;rw[show n=(k+1)+(n - (k+1)) by omega,List.range_add,List.range_succ]
 simp
theorem R9{f:Nat→Int}{n:Nat}(h:errs f n=none):∀j<n,f j=0:=by
 unfold errs at h
 rw[List.findSome?_eq_none_iff] at h
 intro j hj
 have:=h j (by simpa using hj)
 by_cases hf:f j=0
 ·exact hf
 ·rw[if_neg hf] at this;cases this
theorem R_{f:Nat→Int}{n i:Nat}{e:Int}(h:errs f n=some (i,e)):e≠0:=by
 unfold errs at h
 obtain⟨x,hx⟩:=List.exists_of_findSome?_eq_some h
 obtain⟨_,hx⟩:=hx
 split at hx
 ·cases hx
 ·rename_i hf;injection hx with hx;injection hx with h1 h2;rw[←h2];exact hf
abbrev T3(x:Int×Int×Int):AV:=.tuple [I x.1,I x.2.1,I x.2.2]
@[simp] theorem XA (s:St) (d b o l c z:Nat):Y4 s d (.aP b o l c z)=s.set d (.aP b o l c z):=rfl
theorem gm(sz:Nat):∀(n:Nat) (cs:List AV),(chunk sz cs n).length=n
 |0,_=>rfl
 |n+1,cs=>by unfold chunk;simp[gm sz n]
theorem H7:∀(n:Nat) (cs:List AV) (i:Nat) (h:i<(chunk 1 cs n).length),(chunk 1 cs n)[i]=(cs.getD i .any).erase0
 |0,_,_,h=>by simp[chunk] at h
 |n+1,cs,0,h=>by simp[chunk]
 |n+1,cs,i+1,h=>by
  have:=H7 n (cs.drop 1) i (by simpa[chunk] using h)
  simp only[chunk,if_pos,List.getElem_cons_succ,this]
  congr 1
  simp
theorem H8{x:AV}{o:List Int}{pos sz len cap:Nat}{cs:List AV}(hx:CO x pos=IL o)(h:ZK x pos sz len cap cs):sz=1∧len=o.length∧o.length≤cs.length∧len≤cap∧∀i (hi:i<o.length),cs.getD i .any=I o[i]:=by
 obtain⟨h1,h2,h3,h4,h5,h6⟩:=h
 rw[hx] at h1
 injection h1 with e1 e2 e3
 subst e1
 have hl:o.length=len:=by have:=congrArg List.length e2;simpa[gm] using this
 subst hl
 have h2:o.length≤cs.length:=by omega
 refine⟨rfl,rfl,h2,h3,fun i hi=> ?_⟩
 have hc:=H7 o.length cs i (by rw[gm];exact hi)
 have hic:i<cs.length:=by omega
 have e6:(cs.getD i .any).erase0=cs.getD i .any:=by
  have:=congrArg (fun l=>l.getD i .any) h6
  simpa[hic] using this
 rw[←e6,←hc]
 have:(chunk 1 cs o.length)[i]'(by rw[gm];exact hi)=(o.map I)[i]'(by simpa using hi):=by simp only[←e2]
 rw[this];simp
theorem pK(l:List Int)(x:Int):aA Tryz.prog 53 [IL l,I x] (I (bU l x)):=by
 refine pc t53 (by simp) fun hfit=> ?_
 have hl:l.length≤140737488355328:=by simpa using cP (hfit 0)
 simp -implicitDefEqProofs [FG]
 refine bw l.length (fun k s=>s.env 0=IL l∧s.env 1=I x∧s.env 7=I l.length∧s.env 8=I k∧x∉l.take k) ?_ ?_
 ·simp
 ·rintro k s hk ⟨e0,e1,e7,e8,hno⟩
  simp -implicitDefEqProofs [e7,e8]
  refine bu (fun hlt=> ?_) (fun hge=> ?_)
  ·simp -implicitDefEqProofs [e0,e1,e8,hlt]
   refine e_ (fun he=> ?_) (fun he=> ?_)
   ·have hc:bU l x=k:=by
     have hx:l[k]=x:=by have:x=l[k]:=by simpa using he
                        exact this.symm
     have:l.idxOf? x=some k:=by
      rw[List.idxOf?_eq_some_iff]
      refine⟨hlt,hx,fun j hj=> ?_⟩
      intro e
      exact hno (List.mem_take_iff_getElem.2 ⟨j,by omega,e⟩)
     simp[bU,this]
    simp -implicitDefEqProofs [Ao,hc]
   ·simp -implicitDefEqProofs [e8]
    refine⟨i64 (by omega) (by omega),aN hlt ⟨by simp[e0],by simp[e1],by simp[e7],by simp,?_⟩⟩
    have hne:¬x=l[k]:=by simpa using he
    rw[cV hlt,List.mem_append,List.mem_singleton]
    exact fun h=>h.elim hno fun h=>hne h
  ·obtain rfl:k=l.length:=by omega
   rw[List.take_length] at hno
   have hc:bU l x= -1:=by
    have:l.idxOf? x=none:=by rw[List.idxOf?_eq_none_iff];exact hno
    simp[bU,this]
   simp -implicitDefEqProofs [Ao,hc]
def Bf(P:Program)(ms:List Yr)(K:St→Prop)(s:St)(d:Nat)(neg:Bool):AV→Prop
 |.slice _ xs _=>(xs=[]→vcs P ms K (s.set d (.lit (.bool (!neg)))))∧vcs P ms K (s.set d (.lit (.bool neg)))
 |.aP _ _ _ _ _=>vcs P ms K (s.set d (.lit (.bool neg)))
 |_=>False
theorem Sa(P:Program)(ms:List Yr)(K:St→Prop)(s:St)(d:Nat)(neg:Bool)(x:ai):vcs P (.isNil d neg x::ms) K s=Bf P ms K s d neg (x.ev s.env):=by unfold Bf;rfl
attribute [simp] Sa Bf
theorem Sb{x:AV}(h:x.erase0=x)(r:Nat):aG r x=x:=by
 cases x<;>first|rfl|skip
 rename_i sz xs q
 simp at h
 subst h
 simp
theorem fW{cs:List AV}(h:cs.map AV.erase0=cs)(r:Nat):cs.map (aG r)=cs:=by
 have e:∀x∈cs,aG r x=x:=fun x hx=>by
  obtain⟨i,hi,rfl⟩:=List.getElem_of_mem hx
  apply Sb
  have:=congrArg (fun l=>l[i]?) h
  simpa[hi] using this
 calc cs.map (aG r)=cs.map id:=List.map_congr_left e
  _=cs:=by simp
theorem H9(a b:Int):aA Tryz.prog 29 [I a,I b] (pE a b):=by
 refine pc t29 (by simp) fun _=> ?_
 simp -implicitDefEqProofs [Fs,Ft]
theorem v5(a b c:Int):aA Tryz.prog 28 [I a,I b,I c] (.agg [I a,I b,I c]):=by
 refine pc t28 (by simp) fun _=> ?_
 simp -implicitDefEqProofs [Fp,Fq]
theorem tw(l:List Int)(x:Int):aA Tryz.prog 51 [IL l,I x] (B (decide (x∈l))):=by
 refine pc t51 (by simp) fun _=> ?_
 have hd:decide (0≤bU l x)=decide (x∈l):=by
  unfold bU
  cases h:l.idxOf? x with
  |none=>rw[List.idxOf?_eq_none_iff] at h;simp[h]
  |some i=>
   have:x∈l:=by
    rcases Classical.em (x∈l) with h2|h2
    ·exact h2
    ·rw[←List.idxOf?_eq_none_iff] at h2;rw[h2] at h;cases h
   simp[this]
 simp -implicitDefEqProofs [FD]
 refine aj (pK l x) ?_
 simp -implicitDefEqProofs [FE,hd]
theorem v7(o lo hi u:Int):aA Tryz.prog 26 [I o,I lo,I hi,I u] (cT ⟨o,lo,hi,u⟩):=by
 refine pc t26 (by simp) fun _=> ?_
 simp -implicitDefEqProofs [Fl]
 intro b
 refine aj (H9 lo hi) ?_
 simp -implicitDefEqProofs [Fm]
theorem H_(a b c d:Int):aA Tryz.prog 100 [pE a b,pE c d] (pE (max a c) (min b d)):=by
 refine pc t100 (by simp) fun _=> ?_
 simp -implicitDefEqProofs [Gi,Gj]
 constructor<;>split<;>omega
end Go.Proofs.YtpeikknjbnnnnaaGreat.O
namespace Go.Proofs.YtpeikknjbnnnnaaGreat.O
open Go.az
def om:fV:=⟨.empty,0,0⟩
def dF:Mk:=⟨0,0,0,0⟩
def Ia:aB:=⟨0,0,0⟩
def YI(c:Case)(i:Nat):Int:=
 let o:=c.an.getD i om
 let e:=ew o.name ((c.an.take i).map fV.name)
 if e≠0 then e else eZ o.born o.YE 0 9999
def YT(c:Case)(i:Nat):Int:=
 let m:=c.marks.getD i dF
 if¬((0≤m.owner∧m.owner≤(c.an.length:Int) - 1)∧(-1≤m.upon∧m.upon≤(i:Int) - 1)) then 4 else
  let e:=eZ m.lo m.hi c.printed c.now
  if e≠0 then e else if m.lo+40<m.hi then 2 else 0
def c8(c:Case)(i:Nat):Int:=
 let s:=c.ak.getD i Ia
 if¬(c.printed≤s.year∧s.year≤c.now) then 7 else
 if¬((-1≤s.src∧s.src≤(c.an.length:Int) - 1)∧(-1≤s.dst∧s.dst≤(c.an.length:Int) - 1)) then 4 else
 if s.src=s.dst then 2 else 0
def YP(c:Case):Int×Int×Int:=
 if¬((1450≤c.printed∧c.printed≤1850)∧(1450≤c.now∧c.now≤1850)) then (1,0,7) else
 if c.now<c.printed then (1,0,2) else
 if (6:Int)<c.an.length then (2,0,3) else
 match errs (YI c) c.an.length with
 |some (i,e)=>(2,i,e)
 |none=>
 if (8:Int)<c.marks.length then (3,0,3) else
 match errs (YT c) c.marks.length with
 |some (i,e)=>(3,i,e)
 |none=>
 if (4:Int)<c.ak.length then (4,0,3) else
 match errs (c8 c) c.ak.length with
 |some (i,e)=>(4,i,e)
 |none=>(0,0,0)
theorem pL{c:Case}{i:Nat}(hi:i<c.an.length):c.an.getD i om=c.an[i]:=by simp[hi]
theorem eF{c:Case}{i:Nat}(hi:i<c.marks.length):c.marks.getD i dF=c.marks[i]:=by simp[hi]
theorem Bg{c:Case}{i:Nat}(hi:i<c.ak.length):c.ak.getD i Ia=c.ak[i]:=by simp[hi]
structure Part1 (c:Case):Prop where
 h1:(1450≤c.printed∧c.printed≤1850)∧(1450≤c.now∧c.now≤1850)
 h2:¬c.now<c.printed
 h3:¬(6:Int)<c.an.length
structure Part2 (c:Case):Prop extends Part1 c where
 h4:∀j<c.an.length,YI c j=0
 h5:¬(8:Int)<c.marks.length
structure aaz (c:Case):Prop extends Part2 c where
 h6:∀j<c.marks.length,YT c j=0
 h7:¬(4:Int)<c.ak.length
theorem v8{c:Case}(h:¬((1450≤c.printed∧c.printed≤1850)∧(1450≤c.now∧c.now≤1850))):YP c=(1,0,7):=by unfold YP;rw[if_pos h]
theorem Bh{c:Case}(h1:(1450≤c.printed∧c.printed≤1850)∧(1450≤c.now∧c.now≤1850))(h:c.now<c.printed):YP c=(1,0,2):=by unfold YP;rw[if_neg (not_not_intro h1),if_pos h]
theorem Bi{c:Case}(h1:(1450≤c.printed∧c.printed≤1850)∧(1450≤c.now∧c.now≤1850))(h2:¬c.now<c.printed)(h:(6:Int)<c.an.length):YP c=(2,0,3):=by unfold YP;rw[if_neg (not_not_intro h1),if_neg h2,if_pos h]
theorem nj{c:Case}(h:Part1 c){i:Nat}(hi:i<c.an.length)(hb:∀j<i,YI c j=0)(hn:YI c i≠0):YP c=(2,(i:Int),YI c i):=by unfold YP;rw[if_neg (not_not_intro h.h1),if_neg h.h2,if_neg h.h3,vZ hi hb hn]
theorem Bj{c:Case}(h:Part1 c)(h4:∀j<c.an.length,YI c j=0)(h5:(8:Int)<c.marks.length):YP c=(3,0,3):=by unfold YP;rw[if_neg (not_not_intro h.h1),if_neg h.h2,if_neg h.h3,ZQ h4];simp only;rw[if_pos h5]
theorem kZ{c:Case}(h:Part2 c){i:Nat}(hi:i<c.marks.length)(hb:∀j<i,YT c j=0)(hn:YT c i≠0):YP c=(3,(i:Int),YT c i):=by unfold YP;rw[if_neg (not_not_intro h.h1),if_neg h.h2,if_neg h.h3,ZQ h.h4];simp only;rw[if_neg h.h5,vZ hi hb hn]
theorem Bk{c:Case}(h:Part2 c)(h6:∀j<c.marks.length,YT c j=0)(h7:(4:Int)<c.ak.length):YP c=(4,0,3):=by unfold YP;rw[if_neg (not_not_intro h.h1),if_neg h.h2,if_neg h.h3,ZQ h.h4];simp only;rw[if_neg h.h5,ZQ h6];simp only;rw[if_pos h7]
theorem ki{c:Case}(h:aaz c){i:Nat}(hi:i<c.ak.length)(hb:∀j<i,c8 c j=0)(hn:c8 c i≠0):YP c=(4,(i:Int),c8 c i):=by unfold YP;rw[if_neg (not_not_intro h.h1),if_neg h.h2,if_neg h.h3,ZQ h.h4];simp only;rw[if_neg h.h5,ZQ h.h6];simp only;rw[if_neg h.h7,vZ hi hb hn]
theorem tA{c:Case}(h:aaz c)(hb:∀j<c.ak.length,c8 c j=0):YP c=(0,0,0):=by unfold YP;rw[if_neg (not_not_intro h.h1),if_neg h.h2,if_neg h.h3,ZQ h.h4];simp only;rw[if_neg h.h5,ZQ h.h6];simp only;rw[if_neg h.h7,ZQ hb]
theorem fq{f:Nat→Int}{k:Nat}(h:∀j<k,f j=0)(hf:f k=0):∀j<k+1,f j=0:=fun j hj=>by
 by_cases e:j=k
 ·rw[e];exact hf
 ·exact h j (by omega)
theorem Zd(lo hi:Int)(l:List Int)(b:Bool)(h:out lo hi l=b):aA Tryz.prog 50 [I lo,I hi,IL l] (B b):=h▸Zv lo hi l
theorem fu(n lo hi:Int)(b:Bool)(h:decide (lo≤n∧n≤hi)=b):aA Tryz.prog 15 [I n,I lo,I hi] (B b):=h▸A7 n lo hi
theorem Sc(l:List fV)(f:FuncId)(caps:List AV)(p:fV→Bool)(hp:∀x∈l,aA Tryz.prog f (fK x::caps) (B (p x))):aA Tryz.prog 119 [.slice 3 (l.map fK) 0,.func (.func f) [] caps] (I (firstAt p l)):=by
 refine pc t119 (by simp) fun hfit=> ?_
 have hl:=cP (hfit 0)
 simp only[List.length_map] at hl
 simp -implicitDefEqProofs [Gr]
 refine bw l.length (fun k s=>s.env 0=.slice 3 (l.map fK) 0∧s.env 1=.func (.func f) [] caps∧s.env 7=I l.length∧s.env 8=I k∧∀x∈l.take k,p x=false) ?_ ?_
 ·simp
 ·rintro k s hk ⟨e0,e1,e7,e8,hno⟩
  simp -implicitDefEqProofs [e7,e8]
  refine bu (fun hlt=> ?_) (fun hge=> ?_)
  ·simp -implicitDefEqProofs [e0,e1,e8,hlt,m_]
   refine aj (hp l[k] (List.getElem_mem _)) ?_
   simp -implicitDefEqProofs
   refine e_ (fun he=> ?_) (fun he=> ?_)
   ·have hc:=pG hlt he hno
    simp -implicitDefEqProofs [AD,hc]
   ·simp -implicitDefEqProofs [e8]
    refine⟨i64 (by omega) (by omega),aN hlt ⟨by simp[e0],by simp[e1],by simp[e7],by simp,?_⟩⟩
    intro x hx
    rw[cV hlt,List.mem_append,List.mem_singleton] at hx
    rcases hx with hx|rfl
    ·exact hno x hx
    ·exact he
  ·obtain rfl:k=l.length:=by omega
   rw[List.take_length] at hno
   have hc:=aax hno
   simp -implicitDefEqProofs [AD,hc]
theorem Sd(l:List fV)(f:FuncId)(caps:List AV)(p:fV→Bool)(hp:∀x∈l,aA Tryz.prog f (fK x::caps) (B (p x))):aA Tryz.prog 98 [.slice 3 (l.map fK) 0,.func (.func f) [] caps] (B (l.any p)):=by
 refine pc t98 (by simp) fun _=> ?_
 simp -implicitDefEqProofs [Ge]
 refine aj (Sc l f caps p hp) ?_
 simp -implicitDefEqProofs [Gf,aay]
theorem Se(x s:fV):aA Tryz.prog 99 [fK x,.ref [S s.name,I s.born,I s.YE]] (B (bD x.name s.name)):=by
 refine pc t99 (by simp) fun _=> ?_
 simp -implicitDefEqProofs [Gg,Gh,bD]
theorem Ib(c:Case):aA Tryz.prog 74 [fc c] (T3 (YP c)):=by
 refine pc t74 (by simp) fun hfit=> ?_
 have lS:=cP (iy (hfit 0) 2)
 have lR:=cP (iy (hfit 0) 3)
 have lX:=cP (iy (hfit 0) 4)
 simp only[List.length_map] at lS lR lX
 obtain⟨R,hR⟩:∃R,R=YP c:=⟨_,rfl⟩
 rw[←hR]
 simp -implicitDefEqProofs only[FT]
 refine au (fun st=>st.env 1=bI c) ?_ ?_
 ·intro k hk
  simp -implicitDefEqProofs
  exact hk _ rfl
 intro s e1;clear hfit
 by_cases h1:(1450≤c.printed∧c.printed≤1850)∧(1450≤c.now∧c.now≤1850)
 case neg=>
  have o1:out 1450 1850 [c.printed,c.now]=true:=by rw[pJ,←Bool.decide_and,decide_eq_false h1];rfl
  simp -implicitDefEqProofs [e1]
  refine aj (Zd 1450 1850 [c.printed,c.now] _ o1) ?_
  simp -implicitDefEqProofs [gq,hR,v8 h1]
 have o1:out 1450 1850 [c.printed,c.now]=false:=by rw[pJ,←Bool.decide_and,decide_eq_true h1];rfl
 by_cases h2:c.now<c.printed
 case pos=>
  simp -implicitDefEqProofs [e1]
  refine aj (Zd 1450 1850 [c.printed,c.now] _ o1) ?_
  simp -implicitDefEqProofs [e1,h2,gq,hR,Bh h1 h2]
 by_cases h3:(6:Int)<c.an.length
 case pos=>
  simp -implicitDefEqProofs [e1]
  refine aj (Zd 1450 1850 [c.printed,c.now] _ o1) ?_
  simp -implicitDefEqProofs [e1,h2,h3,gq,hR,Bi h1 h2 h3]
 refine au (fun st=>st.env 1=bI c) ?_ ?_
 ·intro k hk
  simp -implicitDefEqProofs [e1]
  refine aj (Zd 1450 1850 [c.printed,c.now] _ o1) ?_
  simp -implicitDefEqProofs [e1,h2,h3]
  exact hk _ (by simp[e1])
 intro s e1
 have p1:Part1 c:=⟨h1,h2,h3⟩
 refine au (fun st=>st.env 1=bI c∧∀j<c.an.length,YI c j=0) ?_ ?_
 ·intro k0 aX
  simp -implicitDefEqProofs [e1]
  refine bw c.an.length (fun k s=>s.env 1=bI c∧s.env 30=.slice 3 (c.an.map fK) 0∧s.env 31=I c.an.length∧s.env 32=I k∧∀j<k,YI c j=0) ?_ ?_
  ·simp[e1]
  ·rintro k s hk ⟨e1,cz,YK,gv,hno⟩
   simp -implicitDefEqProofs [YK,gv]
   refine bu (fun hlt=> ?_) (fun hge=> ?_)
   ·have hst:=pL hlt
    simp -implicitDefEqProofs [cz,gv,hlt]
    intro b hb
    refine aj (A_ c.an[k].name) ?_
    have hE:YI c k=if ew c.an[k].name ((c.an.take k).map fV.name)≠0 then ew c.an[k].name ((c.an.take k).map fV.name) else eZ c.an[k].born c.an[k].YE 0 9999:=by unfold YI;rw[hst]
    unfold ew at hE
    cases hn:gu c.an[k].name with
    |false=>
     rw[hn] at hE
     have bp:YI c k=6:=by rw[hE];simp
     have hr:=nj p1 hlt hno (by rw[bp];decide)
     rw[bp] at hr
     simp -implicitDefEqProofs [gq,hR,hr]
    |true=>
     rw[hn] at hE
     have Ic:=Sd (c.an.take k) 99 [.ref [S c.an[k].name,I c.an[k].born,I c.an[k].YE]] (fun x=>bD x.name c.an[k].name) (fun x _=>Se x _)
     have Bl:((c.an.take k).map fV.name).any (fun s=>bD s c.an[k].name)=(c.an.take k).any fun x=>bD x.name c.an[k].name:=by rw[List.any_map];rfl
     rw[Bl] at hE
     rw[List.map_take] at Ic
     generalize (c.an.take k).any (fun x=>bD x.name c.an[k].name)=bb at*
     simp -implicitDefEqProofs [e1]
     refine⟨by omega,aj Ic ?_⟩
     cases bb with
     |true=>
      have bp:YI c k=5:=by rw[hE];simp
      have hr:=nj p1 hlt hno (by rw[bp];decide)
      rw[bp] at hr
      simp -implicitDefEqProofs [gq,hR,hr]
     |false=>
      have Ie:YI c k=eZ c.an[k].born c.an[k].YE 0 9999:=by rw[hE];simp
      obtain⟨g1,g2⟩:=H6 c.an[k].born c.an[k].YE 0 9999
      have hout:=Zv 0 9999 [c.an[k].born,c.an[k].YE]
      generalize out 0 9999 [c.an[k].born,c.an[k].YE]=oo at*
      simp -implicitDefEqProofs
      refine aj hout ?_
      cases oo with
      |true=>
       have bp:YI c k=7:=by rw[Ie,g1 rfl]
       have hr:=nj p1 hlt hno (by rw[bp];decide)
       rw[bp] at hr
       simp -implicitDefEqProofs [gq,hR,hr]
      |false=>
       have Ig:=Ie.trans (g2 rfl)
       simp -implicitDefEqProofs
       refine bu (fun hc=> ?_) (fun hc=> ?_)
       ·have bp:YI c k=2:=by rw[Ig,if_pos hc]
        have hr:=nj p1 hlt hno (by rw[bp];decide)
        rw[bp] at hr
        simp -implicitDefEqProofs [gq,hR,hr]
       ·have bp:YI c k=0:=by rw[Ig,if_neg hc]
        simp -implicitDefEqProofs [gv]
        exact⟨i64 (by omega) (by omega),aN hlt ⟨by simp[e1],by simp[cz],by simp[YK],by simp,fq hno bp⟩⟩
   ·obtain rfl:k=c.an.length:=by omega
    simp -implicitDefEqProofs
    exact aX _ ⟨e1,hno⟩
 rintro s ⟨e1,h4⟩
 by_cases h5:(8:Int)<c.marks.length
 case pos=>simp -implicitDefEqProofs [e1,h5,gq,hR,Bj p1 h4 h5]
 have p2:Part2 c:=⟨p1,h4,h5⟩
 refine au (fun st=>st.env 1=bI c) ?_ ?_
 ·intro k hk
  simp -implicitDefEqProofs [e1,h5]
  exact hk _ (by simp[e1])
 intro s e1
 refine au (fun st=>st.env 1=bI c∧∀j<c.marks.length,YT c j=0) ?_ ?_
 ·intro k0 aX
  simp -implicitDefEqProofs [e1]
  refine bw c.marks.length (fun k s=>s.env 1=bI c∧s.env 72=.slice 4 (c.marks.map cT) 0∧s.env 73=I c.marks.length∧s.env 74=I k∧∀j<k,YT c j=0) ?_ ?_
  ·simp[e1]
  ·rintro k s hk ⟨e1,Ih,Ii,Bm,hno⟩
   simp -implicitDefEqProofs [Ii,Bm]
   refine bu (fun hlt=> ?_) (fun hge=> ?_)
   ·have hst:=eF hlt
    have hE:YT c k=if¬((0≤c.marks[k].owner∧c.marks[k].owner≤(c.an.length:Int) - 1)∧(-1≤c.marks[k].upon∧c.marks[k].upon≤(k:Int) - 1)) then 4 else if eZ c.marks[k].lo c.marks[k].hi c.printed c.now≠0 then eZ c.marks[k].lo c.marks[k].hi c.printed c.now else if c.marks[k].lo+40<c.marks[k].hi then 2 else 0:=by unfold YT;rw[hst]
    generalize hm:c.marks[k]=m at*
    have hme:cT m=.agg [I m.owner,I m.lo,I m.hi,I m.upon]:=rfl
    simp -implicitDefEqProofs [e1,Ih,Bm,hlt,hm]
    intro b hb
    refine⟨i64 (by omega) (by omega),?_⟩
    by_cases ha:0≤m.owner∧m.owner≤(c.an.length:Int) - 1
    case neg=>
     refine aj (Zd 0 ((c.an.length:Int) - 1) [m.owner] true (by rw[kY,decide_eq_false ha];rfl)) ?_
     have bp:YT c k=4:=by rw[hE,if_pos (fun h=>ha h.1)]
     have hr:=kZ p2 hlt hno (by rw[bp];decide)
     rw[bp] at hr
     simp -implicitDefEqProofs [gq,hR,hr]
    refine aj (Zd 0 ((c.an.length:Int) - 1) [m.owner] false (by rw[kY,decide_eq_true ha];rfl)) ?_
    simp -implicitDefEqProofs
    refine⟨i64 (by omega) (by omega),?_⟩
    by_cases hb: -1≤m.upon∧m.upon≤(k:Int) - 1
    case neg=>
     refine aj (Zd (-1) ((k:Int) - 1) [m.upon] true (by rw[kY,decide_eq_false hb];rfl)) ?_
     have bp:YT c k=4:=by rw[hE,if_pos (fun h=>hb h.2)]
     have hr:=kZ p2 hlt hno (by rw[bp];decide)
     rw[bp] at hr
     simp -implicitDefEqProofs [gq,hR,hr]
    refine aj (Zd (-1) ((k:Int) - 1) [m.upon] false (by rw[kY,decide_eq_true hb];rfl)) ?_
    rw[if_neg (not_not_intro ⟨ha,hb⟩)] at hE
    obtain⟨g1,g2⟩:=H6 m.lo m.hi c.printed c.now
    simp -implicitDefEqProofs [e1]
    cases ho:out c.printed c.now [m.lo,m.hi] with
    |true=>
     refine aj (Zd c.printed c.now [m.lo,m.hi] true ho) ?_
     have bp:YT c k=7:=by rw[hE,g1 ho];simp
     have hr:=kZ p2 hlt hno (by rw[bp];decide)
     rw[bp] at hr
     simp -implicitDefEqProofs [gq,hR,hr]
    |false=>
     have YL:=ho
     rw[pJ] at YL
     simp only[Bool.not_eq_false',Bool.and_eq_true,decide_eq_true_eq] at YL
     rw[g2 ho] at hE
     refine aj (Zd c.printed c.now [m.lo,m.hi] false ho) ?_
     simp -implicitDefEqProofs
     refine⟨i64 (by omega) (by omega),?_⟩
     by_cases hc:m.lo≤m.hi∧m.hi≤m.lo+40
     ·have bp:YT c k=0:=by rw[hE,if_neg (by omega:¬m.hi<m.lo),if_neg (by simp),if_neg (by omega)]
      refine aj (Zd m.lo (m.lo+40) [m.hi] false (by rw[kY,decide_eq_true hc];rfl)) ?_
      simp -implicitDefEqProofs [Bm]
      exact⟨i64 (by omega) (by omega),aN hlt ⟨by simp[e1],by simp[Ih],by simp[Ii],by simp,fq hno bp⟩⟩
     ·have bp:YT c k=2:=by
       rw[hE]
       by_cases hq:m.hi<m.lo
       ·rw[if_pos hq,if_pos (by decide)]
       ·rw[if_neg hq,if_neg (by simp),if_pos (by omega)]
      have hr:=kZ p2 hlt hno (by rw[bp];decide)
      rw[bp] at hr
      refine aj (Zd m.lo (m.lo+40) [m.hi] true (by rw[kY,decide_eq_false hc];rfl)) ?_
      simp -implicitDefEqProofs [gq,hR,hr]
   ·obtain rfl:k=c.marks.length:=by omega
    simp -implicitDefEqProofs
    exact aX _ ⟨e1,hno⟩
 rintro s ⟨e1,h6⟩
 by_cases h7:(4:Int)<c.ak.length
 case pos=>simp -implicitDefEqProofs [e1,h7,gq,hR,Bk p2 h6 h7]
 have p3:aaz c:=⟨p2,h6,h7⟩
 refine au (fun st=>st.env 1=bI c) ?_ ?_
 ·intro k hk
  simp -implicitDefEqProofs [e1,h7]
  exact hk _ (by simp[e1])
 intro s e1
 refine au (fun st=>∀j<c.ak.length,c8 c j=0) ?_ ?_
 ·intro k0 aX
  simp -implicitDefEqProofs [e1]
  refine bw c.ak.length (fun k s=>s.env 1=bI c∧s.env 131=.slice 3 (c.ak.map bQ) 0∧s.env 132=I c.ak.length∧s.env 133=I k∧∀j<k,c8 c j=0) ?_ ?_
  ·simp[e1]
  ·rintro k s hk ⟨e1,Ij,Ik,Bn,hno⟩
   simp -implicitDefEqProofs [Ik,Bn]
   refine bu (fun hlt=> ?_) (fun hge=> ?_)
   ·have hst:=Bg hlt
    have hE:c8 c k=if¬(c.printed≤c.ak[k].year∧c.ak[k].year≤c.now) then 7 else
     if¬((-1≤c.ak[k].src∧c.ak[k].src≤(c.an.length:Int) - 1)∧(-1≤c.ak[k].dst∧c.ak[k].dst≤(c.an.length:Int) - 1)) then 4 else
     if c.ak[k].src=c.ak[k].dst then 2 else 0:=by unfold c8;rw[hst]
    generalize hm:c.ak[k]=m at*
    simp -implicitDefEqProofs [e1,Ij,Bn,hlt,hm]
    intro b hb
    by_cases ha:c.printed≤m.year∧m.year≤c.now
    case neg=>
     refine aj (Zd c.printed c.now [m.year] true (by rw[kY,decide_eq_false ha];rfl)) ?_
     have bp:c8 c k=7:=by rw[hE,if_pos ha]
     have hr:=ki p3 hlt hno (by rw[bp];decide)
     rw[bp] at hr
     simp -implicitDefEqProofs [gq,hR,hr]
    refine aj (Zd c.printed c.now [m.year] false (by rw[kY,decide_eq_true ha];rfl)) ?_
    rw[if_neg (not_not_intro ha)] at hE
    simp -implicitDefEqProofs [e1]
    refine⟨i64 (by omega) (by omega),?_⟩
    by_cases hb:(-1≤m.src∧m.src≤(c.an.length:Int) - 1)∧(-1≤m.dst∧m.dst≤(c.an.length:Int) - 1)
    case neg=>
     refine aj (Zd (-1) ((c.an.length:Int) - 1) [m.src,m.dst] true (by rw[pJ,←Bool.decide_and,decide_eq_false hb];rfl)) ?_
     have bp:c8 c k=4:=by rw[hE,if_pos hb]
     have hr:=ki p3 hlt hno (by rw[bp];decide)
     rw[bp] at hr
     simp -implicitDefEqProofs [gq,hR,hr]
    refine aj (Zd (-1) ((c.an.length:Int) - 1) [m.src,m.dst] false (by rw[pJ,←Bool.decide_and,decide_eq_true hb];rfl)) ?_
    rw[if_neg (not_not_intro hb)] at hE
    by_cases hc:m.src=m.dst
    ·have bp:c8 c k=2:=by rw[hE,if_pos hc]
     have hr:=ki p3 hlt hno (by rw[bp];decide)
     rw[bp] at hr
     have cj:(m.src==m.dst)=true:=by simp[hc]
     simp -implicitDefEqProofs [cj,gq,hR,hr]
    ·have bp:c8 c k=0:=by rw[hE,if_neg hc]
     have cj:(m.src==m.dst)=false:=by simp[hc]
     simp -implicitDefEqProofs [cj,Bn]
     exact⟨i64 (by omega) (by omega),aN hlt ⟨by simp[e1],by simp[Ij],by simp[Ik],by simp,fq hno bp⟩⟩
   ·obtain rfl:k=c.ak.length:=by omega
    simp -implicitDefEqProofs
    exact aX _ hno
 rintro s h8
 simp -implicitDefEqProofs [gq,hR,tA p3 h8]
end Go.Proofs.YtpeikknjbnnnnaaGreat.O
namespace Go.Proofs.YtpeikknjbnnnnaaGreat.O
open Go.az
def ZB(c:Case)(k:Nat):List ByteArray:=(c.an.take k).map fV.name
theorem Il(c:Case):aA Tryz.prog 5 [fc c] (T3 (YP c)):=by
 refine pc t5 (by simp) fun hfit=> ?_
 have lS:=cP (iy (hfit 0) 2)
 have lR:=cP (iy (hfit 0) 3)
 have lX:=cP (iy (hfit 0) 4)
 simp only[List.length_map] at lS lR lX
 obtain⟨R,hR⟩:∃R,R=YP c:=⟨_,rfl⟩
 rw[←hR]
 simp -implicitDefEqProofs only[m5]
 refine au (fun st=>st.env 1=bI c) ?_ ?_
 ·intro k hk
  simp -implicitDefEqProofs
  exact hk _ rfl
 intro s e1;clear hfit
 by_cases h1:(1450≤c.printed∧c.printed≤1850)∧(1450≤c.now∧c.now≤1850)
 case neg=>
  simp -implicitDefEqProofs [e1]
  by_cases ha:1450≤c.printed∧c.printed≤1850
  ·have hb:¬(1450≤c.now∧c.now≤1850):=fun h=>h1 ⟨ha,h⟩
   refine aj (fu _ _ _ true (decide_eq_true ha)) ?_
   simp -implicitDefEqProofs [e1]
   refine aj (fu _ _ _ false (decide_eq_false hb)) ?_
   simp -implicitDefEqProofs [r5,hR,v8 h1]
  ·refine aj (fu _ _ _ false (decide_eq_false ha)) ?_
   simp -implicitDefEqProofs [r5,hR,v8 h1]
 refine au (fun st=>st.env 1=bI c) ?_ ?_
 ·intro k hk
  simp -implicitDefEqProofs [e1]
  refine aj (fu _ _ _ true (decide_eq_true h1.1)) ?_
  simp -implicitDefEqProofs [e1]
  refine aj (fu _ _ _ true (decide_eq_true h1.2)) ?_
  simp -implicitDefEqProofs
  exact hk _ (by simp[e1])
 intro s e1
 by_cases h2:c.now<c.printed
 case pos=>simp -implicitDefEqProofs [e1,h2,r5,hR,Bh h1 h2]
 refine au (fun st=>st.env 1=bI c) ?_ ?_
 ·intro k hk
  simp -implicitDefEqProofs [e1,h2]
  exact hk _ (by simp[e1])
 intro s e1
 by_cases h3:(6:Int)<c.an.length
 case pos=>simp -implicitDefEqProofs [e1,h3,r5,hR,Bi h1 h2 h3]
 refine au (fun st=>st.env 1=bI c) ?_ ?_
 ·intro k hk
  simp -implicitDefEqProofs [e1,h3]
  exact hk _ (by simp[e1])
 intro s e1
 have p1:Part1 c:=⟨h1,h2,h3⟩
 refine au (fun st=>st.env 1=bI c∧st.env 5=.slice 1 [] 6) ?_ ?_
 ·intro k hk
  simp -implicitDefEqProofs
  exact hk _ (by simp[e1])
 rintro s ⟨e1,e5⟩
 refine au (fun st=>st.env 1=bI c∧∀j<c.an.length,YI c j=0) ?_ ?_
 ·intro k0 aX
  simp -implicitDefEqProofs
  refine bw c.an.length (fun k s=>s.env 1=bI c∧s.env 5=.slice 1 ((ZB c k).map S) 6∧s.env 6=I k∧∀j<k,YI c j=0) ?_ ?_
  ·simp[e1,e5,ZB]
  ·rintro k s hk ⟨e1,e5,e6,hno⟩
   simp -implicitDefEqProofs [e1,e6]
   refine bu (fun hlt=> ?_) (fun hge=> ?_)
   ·have hlt:k<c.an.length:=by omega
    have hst:=pL hlt
    have hE:YI c k=if ew c.an[k].name (ZB c k)≠0 then ew c.an[k].name (ZB c k) else eZ c.an[k].born c.an[k].YE 0 9999:=by unfold YI;rw[hst];rfl
    have hf:=Bb c.an[k].name (ZB c k)
    have hl:(ZB c k).length=k:=by simp[ZB];omega
    have cm:ZB c (k+1)=ZB c k++[c.an[k].name]:=by unfold ZB;rw[cV hlt,List.map_append];rfl
    generalize ZB c k=nm at*
    generalize ew c.an[k].name nm=e at*
    simp -implicitDefEqProofs [e1,e5,e6,hlt]
    intro b hb
    refine aj hf ?_
    simp -implicitDefEqProofs [e5]
    refine⟨by omega,by omega,?_⟩
    by_cases he:e=0
    ·have he':(e==0)=true:=by simp[he]
     rw[if_neg (not_not_intro he)] at hE
     simp -implicitDefEqProofs [he']
     by_cases ha:0≤c.an[k].born∧c.an[k].born≤9999
     case neg=>
      refine aj (fu _ _ _ false (decide_eq_false ha)) ?_
      have hE:YI c k=7:=by rw[hE];unfold eZ;rw[if_pos (by omega)]
      have hr:=nj p1 hlt hno (by rw[hE];decide)
      rw[hE] at hr
      simp -implicitDefEqProofs [e6,r5,hR,hr]
     refine aj (fu _ _ _ true (decide_eq_true ha)) ?_
     simp -implicitDefEqProofs
     by_cases hb:0≤c.an[k].YE∧c.an[k].YE≤9999
     case neg=>
      refine aj (fu _ _ _ false (decide_eq_false hb)) ?_
      have hE:YI c k=7:=by rw[hE];unfold eZ;rw[if_pos (by omega)]
      have hr:=nj p1 hlt hno (by rw[hE];decide)
      rw[hE] at hr
      simp -implicitDefEqProofs [e6,r5,hR,hr]
     refine aj (fu _ _ _ true (decide_eq_true hb)) ?_
     have hE:YI c k=if c.an[k].YE<c.an[k].born then 2 else 0:=by rw[hE];unfold eZ;rw[if_neg (by omega)]
     simp -implicitDefEqProofs [he']
     refine bu (fun hc=> ?_) (fun hc=> ?_)
     ·have hE:YI c k=2:=by rw[hE,if_pos hc]
      have hr:=nj p1 hlt hno (by rw[hE];decide)
      rw[hE] at hr
      simp -implicitDefEqProofs [e6,r5,hR,hr]
     ·have hE:YI c k=0:=by rw[hE,if_neg hc]
      have lQ:(e != 0)=false:=by simp[he]
      simp -implicitDefEqProofs [e6,lQ]
      exact⟨i64 (by omega) (by omega),aN hlt ⟨by simp[e1],by simp[cm],by simp,fq hno hE⟩⟩
    ·have he':(e==0)=false:=by simp[he]
     have lQ:(e != 0)=true:=by simp[he]
     rw[if_pos he] at hE
     have hr:=nj p1 hlt hno (by rw[hE];exact he)
     rw[hE] at hr
     simp -implicitDefEqProofs [e6,he',lQ,r5,hR,hr]
   ·obtain rfl:k=c.an.length:=by omega
    simp -implicitDefEqProofs
    exact aX _ ⟨by simp[e1],hno⟩
 rintro s ⟨e1,h4⟩
 by_cases h5:(8:Int)<c.marks.length
 case pos=>simp -implicitDefEqProofs [e1,h5,r5,hR,Bj p1 h4 h5]
 have p2:Part2 c:=⟨p1,h4,h5⟩
 refine au (fun st=>st.env 1=bI c) ?_ ?_
 ·intro k hk
  simp -implicitDefEqProofs [e1,h5]
  exact hk _ (by simp[e1])
 intro s e1
 refine au (fun st=>st.env 1=bI c∧∀j<c.marks.length,YT c j=0) ?_ ?_
 ·intro k0 aX
  simp -implicitDefEqProofs
  refine bw c.marks.length (fun k s=>s.env 1=bI c∧s.env 9=I k∧∀j<k,YT c j=0) ?_ ?_
  ·simp[e1]
  ·rintro k s hk ⟨e1,e9,hno⟩
   simp -implicitDefEqProofs [e1,e9]
   refine bu (fun hlt=> ?_) (fun hge=> ?_)
   ·have hlt:k<c.marks.length:=by omega
    have hst:=eF hlt
    have hE:YT c k=if¬((0≤c.marks[k].owner∧c.marks[k].owner≤(c.an.length:Int) - 1)∧(-1≤c.marks[k].upon∧c.marks[k].upon≤(k:Int) - 1)) then 4 else if eZ c.marks[k].lo c.marks[k].hi c.printed c.now≠0 then eZ c.marks[k].lo c.marks[k].hi c.printed c.now else if c.marks[k].lo+40<c.marks[k].hi then 2 else 0:=by unfold YT;rw[hst]
    generalize hm:c.marks[k]=m at*
    simp -implicitDefEqProofs [e1,e9,hlt,hm]
    intro b hb
    refine⟨i64 (by omega) (by omega),?_⟩
    by_cases ha:0≤m.owner∧m.owner≤(c.an.length:Int) - 1
    case neg=>
     refine aj (fu _ _ _ false (decide_eq_false ha)) ?_
     have bp:YT c k=4:=by rw[hE,if_pos (fun h=>ha h.1)]
     have hr:=kZ p2 hlt hno (by rw[bp];decide)
     rw[bp] at hr
     simp -implicitDefEqProofs [e9,r5,hR,hr]
    refine aj (fu _ _ _ true (decide_eq_true ha)) ?_
    have go:∀(K:aC→Prop),True:=fun _=>trivial
    have dO:=R8 m.lo m.hi c.printed c.now
    have hin:eZ m.lo m.hi c.printed c.now=0→c.printed≤m.lo∧m.lo≤c.now:=fun h=>by
     unfold eZ at h
     split at h
     ·cases h
     ·omega
    generalize eZ m.lo m.hi c.printed c.now=q at*
    have bad:m.upon≠ -1→¬(0≤m.upon∧m.upon≤(k:Int) - 1)→YT c k=4:=fun h0 h=>by rw[hE,if_pos (fun h'=>h (by omega))]
    have good:m.upon= -1∨(0≤m.upon∧m.upon≤(k:Int) - 1)→YT c k=if q≠0 then q else if m.lo+40<m.hi then 2 else 0:=fun h=>by rw[hE,if_neg (not_not_intro ⟨ha,by omega⟩)]
    clear hE
    by_cases h0:m.upon= -1
    ·have hE:=good (.inl h0)
     simp -implicitDefEqProofs [h0]
     simp -implicitDefEqProofs [e1]
     refine aj dO ?_
     by_cases hq:q=0
     ·have ck:(q==0)=true:=by simp[hq]
      have gi:(q != 0)=false:=by simp[hq]
      rw[if_neg (not_not_intro hq)] at hE
      have hin:=hin hq
      simp -implicitDefEqProofs [ck]
      refine⟨i64 (by omega) (by omega),?_⟩
      by_cases hc:m.lo+40<m.hi
      ·rw[if_pos hc] at hE
       have hr:=kZ p2 hlt hno (by rw[hE];decide)
       rw[hE] at hr
       simp -implicitDefEqProofs [hc,e9,r5,hR,hr]
      ·rw[if_neg hc] at hE
       simp -implicitDefEqProofs [hc,e9,gi]
       exact⟨i64 (by omega) (by omega),aN hlt ⟨by simp[e1],by simp,fq hno hE⟩⟩
     ·have ck:(q==0)=false:=by simp[hq]
      have gi:(q != 0)=true:=by simp[hq]
      rw[if_pos hq] at hE
      have hr:=kZ p2 hlt hno (by rw[hE];exact hq)
      rw[hE] at hr
      simp -implicitDefEqProofs [e9,ck,gi,r5,hR,hr]
    ·have eE:(m.upon != -1)=true:=by simp[h0]
     simp -implicitDefEqProofs [eE,e9]
     refine⟨i64 (by omega) (by omega),?_⟩
     by_cases hb:0≤m.upon∧m.upon≤(k:Int) - 1
     case neg=>
      have bp:=bad h0 hb
      refine aj (fu _ _ _ false (decide_eq_false hb)) ?_
      have hr:=kZ p2 hlt hno (by rw[bp];decide)
      rw[bp] at hr
      simp -implicitDefEqProofs [e9,r5,hR,hr]
     refine aj (fu _ _ _ true (decide_eq_true hb)) ?_
     have hE:=good (.inr hb)
     simp -implicitDefEqProofs [e1]
     refine aj dO ?_
     by_cases hq:q=0
     ·have ck:(q==0)=true:=by simp[hq]
      have gi:(q != 0)=false:=by simp[hq]
      rw[if_neg (not_not_intro hq)] at hE
      have hin:=hin hq
      simp -implicitDefEqProofs [ck]
      refine⟨i64 (by omega) (by omega),?_⟩
      by_cases hc:m.lo+40<m.hi
      ·rw[if_pos hc] at hE
       have hr:=kZ p2 hlt hno (by rw[hE];decide)
       rw[hE] at hr
       simp -implicitDefEqProofs [hc,e9,r5,hR,hr]
      ·rw[if_neg hc] at hE
       simp -implicitDefEqProofs [hc,e9,gi]
       exact⟨i64 (by omega) (by omega),aN hlt ⟨by simp[e1],by simp,fq hno hE⟩⟩
     ·have ck:(q==0)=false:=by simp[hq]
      have gi:(q != 0)=true:=by simp[hq]
      rw[if_pos hq] at hE
      have hr:=kZ p2 hlt hno (by rw[hE];exact hq)
      rw[hE] at hr
      simp -implicitDefEqProofs [e9,ck,gi,r5,hR,hr]
   ·obtain rfl:k=c.marks.length:=by omega
    simp -implicitDefEqProofs
    exact aX _ ⟨by simp[e1],hno⟩
 rintro s ⟨e1,h6⟩
 by_cases h7:(4:Int)<c.ak.length
 case pos=>simp -implicitDefEqProofs [e1,h7,r5,hR,Bk p2 h6 h7]
 have p3:aaz c:=⟨p2,h6,h7⟩
 refine au (fun st=>st.env 1=bI c) ?_ ?_
 ·intro k hk
  simp -implicitDefEqProofs [e1,h7]
  exact hk _ (by simp[e1])
 intro s e1
 refine au (fun st=>∀j<c.ak.length,c8 c j=0) ?_ ?_
 ·intro k0 aX
  simp -implicitDefEqProofs
  refine bw c.ak.length (fun k s=>s.env 1=bI c∧s.env 12=I k∧∀j<k,c8 c j=0) ?_ ?_
  ·simp[e1]
  ·rintro k s hk ⟨e1,aQ,hno⟩
   simp -implicitDefEqProofs [e1,aQ]
   refine bu (fun hlt=> ?_) (fun hge=> ?_)
   ·have hlt:k<c.ak.length:=by omega
    have hst:=Bg hlt
    have hE:c8 c k=if¬(c.printed≤c.ak[k].year∧c.ak[k].year≤c.now) then 7 else
     if¬((-1≤c.ak[k].src∧c.ak[k].src≤(c.an.length:Int) - 1)∧(-1≤c.ak[k].dst∧c.ak[k].dst≤(c.an.length:Int) - 1)) then 4 else
     if c.ak[k].src=c.ak[k].dst then 2 else 0:=by unfold c8;rw[hst]
    generalize hm:c.ak[k]=m at*
    simp -implicitDefEqProofs [e1,aQ,hlt,hm]
    intro b hb
    by_cases ha:c.printed≤m.year∧m.year≤c.now
    case neg=>
     refine aj (fu _ _ _ false (decide_eq_false ha)) ?_
     have bp:c8 c k=7:=by rw[hE,if_pos ha]
     have hr:=ki p3 hlt hno (by rw[bp];decide)
     rw[bp] at hr
     simp -implicitDefEqProofs [aQ,r5,hR,hr]
    refine aj (fu _ _ _ true (decide_eq_true ha)) ?_
    rw[if_neg (not_not_intro ha)] at hE
    by_cases hs0:m.src= -1
    ·have hs':(m.src != -1)=false:=by simp[hs0]
     simp -implicitDefEqProofs [hs']
     by_cases tB:m.dst= -1
     ·have hd':(m.dst != -1)=false:=by simp[tB]
      simp -implicitDefEqProofs [hd']
      have same:m.src=m.dst→c8 c k=2:=fun h=>by rw[hE,if_neg (by omega),if_pos h]
      have pM:m.src≠m.dst→c8 c k=0:=fun h=>by rw[hE,if_neg (by omega),if_neg h]
      by_cases hc:m.src=m.dst
      ·have bp:=same hc
       have hr:=ki p3 hlt hno (by rw[bp];decide)
       rw[bp] at hr
       have cj:(m.src==m.dst)=true:=by simp[hc]
       first
        |simp -implicitDefEqProofs [cj,aQ,r5,hR,hr]
        |omega
      ·have bp:=pM hc
       have cj:(m.src==m.dst)=false:=by simp[hc]
       simp -implicitDefEqProofs [cj,aQ]
       exact⟨i64 (by omega) (by omega),aN hlt ⟨by simp[e1],by simp,fq hno bp⟩⟩
     have hd':(m.dst != -1)=true:=by simp[tB]
     simp -implicitDefEqProofs [hd',e1]
     refine⟨i64 (by omega) (by omega),?_⟩
     by_cases hd:0≤m.dst∧m.dst≤(c.an.length:Int) - 1
     case neg=>
      refine aj (fu _ _ _ false (decide_eq_false hd)) ?_
      have bp:c8 c k=4:=by rw[hE,if_pos (by omega)]
      have hr:=ki p3 hlt hno (by rw[bp];decide)
      rw[bp] at hr
      simp -implicitDefEqProofs [aQ,r5,hR,hr]
     refine aj (fu _ _ _ true (decide_eq_true hd)) ?_
     simp -implicitDefEqProofs
     have same:m.src=m.dst→c8 c k=2:=fun h=>by rw[hE,if_neg (by omega),if_pos h]
     have pM:m.src≠m.dst→c8 c k=0:=fun h=>by rw[hE,if_neg (by omega),if_neg h]
     by_cases hc:m.src=m.dst
     ·have bp:=same hc
      have hr:=ki p3 hlt hno (by rw[bp];decide)
      rw[bp] at hr
      have cj:(m.src==m.dst)=true:=by simp[hc]
      first
       |simp -implicitDefEqProofs [cj,aQ,r5,hR,hr]
       |omega
     ·have bp:=pM hc
      have cj:(m.src==m.dst)=false:=by simp[hc]
      simp -implicitDefEqProofs [cj,aQ]
      exact⟨i64 (by omega) (by omega),aN hlt ⟨by simp[e1],by simp,fq hno bp⟩⟩
    have hs':(m.src != -1)=true:=by simp[hs0]
    simp -implicitDefEqProofs [hs',e1]
    refine⟨i64 (by omega) (by omega),?_⟩
    by_cases hs:0≤m.src∧m.src≤(c.an.length:Int) - 1
    case neg=>
     refine aj (fu _ _ _ false (decide_eq_false hs)) ?_
     have bp:c8 c k=4:=by rw[hE,if_pos (by omega)]
     have hr:=ki p3 hlt hno (by rw[bp];decide)
     rw[bp] at hr
     simp -implicitDefEqProofs [aQ,r5,hR,hr]
    refine aj (fu _ _ _ true (decide_eq_true hs)) ?_
    simp -implicitDefEqProofs
    by_cases tB:m.dst= -1
    ·have hd':(m.dst != -1)=false:=by simp[tB]
     simp -implicitDefEqProofs [hd']
     have same:m.src=m.dst→c8 c k=2:=fun h=>by rw[hE,if_neg (by omega),if_pos h]
     have pM:m.src≠m.dst→c8 c k=0:=fun h=>by rw[hE,if_neg (by omega),if_neg h]
     by_cases hc:m.src=m.dst
     ·have bp:=same hc
      have hr:=ki p3 hlt hno (by rw[bp];decide)
      rw[bp] at hr
      have cj:(m.src==m.dst)=true:=by simp[hc]
      first
       |simp -implicitDefEqProofs [cj,aQ,r5,hR,hr]
       |omega
     ·have bp:=pM hc
      have cj:(m.src==m.dst)=false:=by simp[hc]
      simp -implicitDefEqProofs [cj,aQ]
      exact⟨i64 (by omega) (by omega),aN hlt ⟨by simp[e1],by simp,fq hno bp⟩⟩
    have hd':(m.dst != -1)=true:=by simp[tB]
    simp -implicitDefEqProofs [hd',e1]
    refine⟨i64 (by omega) (by omega),?_⟩
    by_cases hd:0≤m.dst∧m.dst≤(c.an.length:Int) - 1
    case neg=>
     refine aj (fu _ _ _ false (decide_eq_false hd)) ?_
     have bp:c8 c k=4:=by rw[hE,if_pos (by omega)]
     have hr:=ki p3 hlt hno (by rw[bp];decide)
     rw[bp] at hr
     simp -implicitDefEqProofs [aQ,r5,hR,hr]
    refine aj (fu _ _ _ true (decide_eq_true hd)) ?_
    simp -implicitDefEqProofs
    have same:m.src=m.dst→c8 c k=2:=fun h=>by rw[hE,if_neg (by omega),if_pos h]
    have pM:m.src≠m.dst→c8 c k=0:=fun h=>by rw[hE,if_neg (by omega),if_neg h]
    by_cases hc:m.src=m.dst
    ·have bp:=same hc
     have hr:=ki p3 hlt hno (by rw[bp];decide)
     rw[bp] at hr
     have cj:(m.src==m.dst)=true:=by simp[hc]
     first
      |simp -implicitDefEqProofs [cj,aQ,r5,hR,hr]
      |omega
    ·have bp:=pM hc
     have cj:(m.src==m.dst)=false:=by simp[hc]
     simp -implicitDefEqProofs [cj,aQ]
     exact⟨i64 (by omega) (by omega),aN hlt ⟨by simp[e1],by simp,fq hno bp⟩⟩
   ·obtain rfl:k=c.ak.length:=by omega
    simp -implicitDefEqProofs
    exact aX _ hno
 rintro s h8
 simp -implicitDefEqProofs [r5,hR,tA p3 h8]
end Go.Proofs.YtpeikknjbnnnnaaGreat.O
namespace Go.Proofs.YtpeikknjbnnnnaaGreat.O
open Go.az
abbrev bC(c:Case):Int:=(YP c).2.2
theorem Im{a b lo hi:Int}(h:eZ a b lo hi=0):lo≤a∧a≤b∧b≤hi:=by
 unfold eZ at h
 split at h
 ·cases h
 ·split at h
  ·cases h
  ·omega
theorem pN{c:Case}(h:bC c=0):aaz c∧∀j<c.ak.length,c8 c j=0:=by
 unfold bC at h
 by_cases h1:(1450≤c.printed∧c.printed≤1850)∧(1450≤c.now∧c.now≤1850)
 case neg=>rw[v8 h1] at h;cases h
 by_cases h2:c.now<c.printed
 case pos=>rw[Bh h1 h2] at h;cases h
 by_cases h3:(6:Int)<c.an.length
 case pos=>rw[Bi h1 h2 h3] at h;cases h
 have p1:Part1 c:=⟨h1,h2,h3⟩
 have first:∀(f:Nat→Int) (n:Nat),(∀j<n,f j=0)∨∃i,i<n∧(∀j<i,f j=0)∧f i≠0:=fun f n=>by
  induction n with
  |zero=>exact .inl (by simp)
  |succ n ih=>
   rcases ih with ih|⟨i,hi,hb,hn⟩
   ·by_cases e:f n=0
    ·exact .inl (fq ih e)
    ·exact .inr ⟨n,by omega,ih,e⟩
   ·exact .inr ⟨i,by omega,hb,hn⟩
 rcases first (YI c) c.an.length with h4|⟨i,hi,hb,hn⟩
 case inr=>rw[nj p1 hi hb hn] at h;exact absurd h hn
 by_cases h5:(8:Int)<c.marks.length
 case pos=>rw[Bj p1 h4 h5] at h;cases h
 have p2:Part2 c:=⟨p1,h4,h5⟩
 rcases first (YT c) c.marks.length with h6|⟨i,hi,hb,hn⟩
 case inr=>rw[kZ p2 hi hb hn] at h;exact absurd h hn
 by_cases h7:(4:Int)<c.ak.length
 case pos=>rw[Bk p2 h6 h7] at h;cases h
 have p3:aaz c:=⟨p2,h6,h7⟩
 rcases first (c8 c) c.ak.length with h8|⟨i,hi,hb,hn⟩
 case inr=>rw[ki p3 hi hb hn] at h;exact absurd h hn
 exact⟨p3,h8⟩
theorem v9{c:Case}{i:Nat}(hi:i<c.marks.length):YT c i=0↔(0≤c.marks[i].owner∧c.marks[i].owner<c.an.length)∧(-1≤c.marks[i].upon∧c.marks[i].upon<i)∧c.printed≤c.marks[i].lo∧c.marks[i].lo≤c.marks[i].hi∧c.marks[i].hi≤c.now∧c.marks[i].hi≤c.marks[i].lo+40:=by
 unfold YT
 rw[eF hi]
 generalize c.marks[i]=m
 simp only
 constructor
 ·intro h
  split at h
  ·cases h
  rename_i h1
  split at h
  ·rename_i h2;exact absurd h h2
  rename_i h2
  have:=Im (Decidable.not_not.1 h2)
  split at h
  ·cases h
  omega
 ·rintro⟨h1,h2,h3,h4,h5,h6⟩
  rw[if_neg (by omega),if_neg (by unfold eZ;rw[if_neg (by omega),if_neg (by omega)];simp),if_neg (by omega)]
theorem Bo{c:Case}{i:Nat}(hi:i<c.ak.length):c8 c i=0↔c.printed≤c.ak[i].year∧c.ak[i].year≤c.now∧ -1≤c.ak[i].src∧c.ak[i].src<c.an.length∧ -1≤c.ak[i].dst∧c.ak[i].dst<c.an.length∧c.ak[i].src≠c.ak[i].dst:=by
 unfold c8
 rw[Bg hi]
 generalize c.ak[i]=m
 simp only
 constructor
 ·intro h
  split at h
  ·cases h
  split at h
  ·cases h
  split at h
  ·cases h
  omega
 ·rintro⟨h1,h2,h3,h4,h5,h6,h7⟩
  rw[if_neg (by omega),if_neg (by omega),if_neg h7]
theorem Sf{c:Case}{i:Nat}(hi:i<c.an.length)(h:YI c i=0):0≤c.an[i].born∧c.an[i].born≤c.an[i].YE∧c.an[i].YE≤9999:=by
 unfold YI at h
 rw[pL hi] at h
 simp only at h
 split at h
 ·rename_i h1;exact absurd h h1
 ·exact Im h
theorem Case.ok{c:Case}(he:bC c=0):c.OK:=by
 obtain⟨p,h8⟩:=pN he
 have h1:=p.h1
 have h2:=p.h2
 have h3:=p.h3
 have h5:=p.h5
 have h7:=p.h7
 refine⟨by omega,by omega,fun o ho=> ?_,by omega,fun m hm=> ?_,fun i hi=> ?_,by omega,fun s hs=> ?_⟩
 ·obtain⟨i,hi,rfl⟩:=List.getElem_of_mem ho
  exact Sf hi (p.h4 i hi)
 ·obtain⟨i,hi,rfl⟩:=List.getElem_of_mem hm
  have:=(v9 hi).1 (p.h6 i hi)
  omega
 ·have:=(v9 hi).1 (p.h6 i hi)
  omega
 ·obtain⟨i,hi,rfl⟩:=List.getElem_of_mem hs
  have:=(Bo hi).1 (h8 i hi)
  omega
def cW(c:Case)(o:Nat):fV:=c.an.getD o om
def cc(c:Case)(l:List aB)(o:Nat):Int:=l.foldl (fun a s=>if s.dst=(o:Int) then max a s.year else a) (max c.printed (cW c o).born)
def YU(c:Case)(l:List aB)(o:Nat):Int:=l.foldl (fun a s=>if s.dst=(o:Int) then min a s.year else a) c.now
def YQ(c:Case)(l:List aB)(o:Nat):Int:=l.foldl (fun a s=>if s.src=(o:Int) then max a s.year else a) (cW c o).born
def Yx(c:Case)(l:List aB)(o:Nat):Int:=l.foldl (fun a s=>if s.src=(o:Int) then min a s.year else a) (min (cW c o).YE c.now)
abbrev dR(c:Case)(l:List aB)(o:Nat):AV:=.agg [I (cc c l o),I (YU c l o),I (YQ c l o),I (Yx c l o)]
def rows(V:Nat→AV)(n:Nat):List (List AV):=(List.range n).map fun o:Nat=>[I o,V o]
abbrev pO(c:Case):List (List AV):=rows (dR c c.ak) c.an.length
abbrev v_(c:Case):List AV:=cU c++[.fmap (pO c)]
abbrev aZ(c:Case):AV:=.ref (v_ c)
theorem Sg(V:Nat→AV)(n:Nat):rows V (n+1)=rows V n++[[I n,V n]]:=by simp[rows,List.range_succ]
theorem Io(V:Nat→AV){n o:Nat}(h:o<n):(rows V n).getD o []=[I o,V o]:=by simp[rows,h]
theorem tC{V W:Nat→AV}{n:Nat}(h:∀o<n,V o=W o):rows V n=rows W n:=by
 unfold rows
 apply List.map_congr_left
 intro o ho
 rw[h o (by simpa using ho)]
theorem Sh(V:Nat→AV)(n o:Nat)(v:AV):(rows V n).set o [I o,v]=rows (fun j=>if j=o then v else V j) n:=by
 apply List.ext_getElem (by simp[rows])
 intro i h1 h2
 rw[List.getElem_set]
 simp only[rows,List.getElem_map,List.getElem_range]
 by_cases e:o=i
 ·subst e;simp
 ·have e':¬i=o:=fun h=>e h.symm
  rw[if_neg e,if_neg e']
theorem Ip(V:Nat→AV)(o:Nat):∀(n f i:Nat),b_ (I o) (((List.range' f n).map fun j:Nat=>[I j,V j])) i=some (if f≤o∧o<f+n then some (i+(o - f)) else none)
 |0,f,i=>by
  have:¬(f≤o∧o<f+0):=by omega
  rw[if_neg this];rfl
 |n+1,f,i=>by
  rw[List.range'_succ,List.map_cons,b_]
  have hk:eM (I o) ([I f,V f].getD 0 .any)=some ((o:Int)==(f:Int)):=by simp[eM]
  rw[hk]
  by_cases e:o=f
  ·subst e
   have h1:((o:Int)==(o:Int))=true:=by simp
   rw[h1]
   simp
  ·have h1:((o:Int)==(f:Int))=false:=by simp;omega
   rw[h1]
   simp only
   rw[Ip V o n (f+1) (i+1)]
   congr 1
   by_cases h:f+1≤o∧o<f+1+n
   ·rw[if_pos h,if_pos (by omega)]
    congr 1;omega
   ·rw[if_neg h,if_neg (by omega)]
theorem we(V:Nat→AV)(n o:Nat):b_ (I o) (rows V n) 0=some (if o<n then some o else none):=by
 have:=Ip V o n 0 0
 rw[←List.range_eq_range'] at this
 unfold rows
 rw[this]
 simp
def tD(P:Program)(ms:List Yr)(K:St→Prop)(s:St)(d:Nat)(k:AV)(n:Option Nat)(ok:Bool)(zero:AV):AV→Prop
 |.bL b=>∃es,s.env (oS+b)=aS es∧gZ n k∧match b_ k es 0 with
   |some (some i)=>vcs P ms K (s.set d (if ok then .tuple [((es.getD i []).getD 1 .any),.lit (.bool true)] else ((es.getD i []).getD 1 .any).erase))
   |some none=>vcs P ms K (s.set d (if ok then .tuple [zero,.lit (.bool false)] else zero.erase))
   |none=>False
 |.fmap es=>gZ n k∧match b_ k es 0 with
   |some (some i)=>vcs P ms K (s.set d (if ok then .tuple [((es.getD i []).getD 1 .any),.lit (.bool true)] else ((es.getD i []).getD 1 .any).erase))
   |some none=>vcs P ms K (s.set d (if ok then .tuple [zero,.lit (.bool false)] else zero.erase))
   |none=>False
 |_=>False
theorem Si(P:Program)(ms:List Yr)(K:St→Prop)(s:St)(d:Nat)(x k:ai)(n:Option Nat)(ok:Bool)(zero:AV):vcs P (.lookup d x k n ok zero::ms) K s=tD P ms K s d (k.ev s.env).erase n ok zero (x.ev s.env):=by unfold tD;rfl
def tE(P:Program)(ms:List Yr)(K:St→Prop)(s:St)(k v:AV)(n:Option Nat):AV→Prop
 |.bL b=>∃es,s.env (oS+b)=aS es∧gZ n k∧match b_ k es 0 with
   |some (some i)=>vcs P ms K (s.set (oS+b) (aS (es.set i [k,v])))
   |some none=>vcs P ms K (s.set (oS+b) (aS (es++[[k,v]])))
   |none=>False
 |_=>False
theorem Sj(P:Program)(ms:List Yr)(K:St→Prop)(s:St)(x k v:ai)(n:Option Nat):vcs P (.kJ x k v n::ms) K s=tE P ms K s (k.ev s.env).erase (v.ev s.env).erase n (x.ev s.env):=by unfold tE;rfl
@[simp] theorem XB (s:St) (d b o:Nat):Y4 s d (.Yq b o)=s.set d (.Yq b o):=rfl
@[simp] theorem XC (s:St) (d b:Nat):Y4 s d (.bL b)=s.set d (.bL b):=rfl
@[simp] theorem XD (r b:Nat):aG r (.bL b)=.bL b:=rfl
@[simp] theorem XE (b:Nat):(AV.bL b).erase=.bL b:=rfl
@[simp] theorem XF (b:Nat):(AV.bL b).erase0=.bL b:=rfl
@[simp] theorem XG (b:Nat):(AV.bL b).cells=[.bL b]:=rfl
@[simp] theorem XH (s:St) (d:Nat) (es:List (List AV)):Y4 s d (.fmap es)=s.set d (.fmap es):=rfl
@[simp] theorem XI (r:Nat) (es:List (List AV)):aG r (.fmap es)=.fmap es:=rfl
@[simp] theorem abY (es:List (List AV)):(AV.fmap es).erase=.fmap es:=rfl
@[simp] theorem XK (es:List (List AV)):(AV.fmap es).erase0=.fmap es:=rfl
@[simp] theorem XL (es:List (List AV)):(AV.fmap es).cells=[.fmap es]:=rfl
attribute [simp] Si Sj
theorem ZR:oS=1000001:=by simp[oS]
theorem Sk{P:Program}{ms:List Yr}{K:St→Prop}{s:St}{d o n:Nat}{V:Nat→AV}{z:AV}(ho:o<n)(h:vcs P ms K (s.set d (V o).erase)):tD P ms K s d (I o) none false z (.fmap (rows V n)):=by
 refine⟨trivial,?_⟩
 rw[we,if_pos ho]
 simp only[Io V ho]
 exact h
theorem Iq{P:Program}{ms:List Yr}{K:St→Prop}{s:St}{d o n b:Nat}{V:Nat→AV}{z:AV}(em:s.env (1000001+b)=aS (rows V n))(ho:o<n)(h:vcs P ms K (s.set d (V o).erase)):tD P ms K s d (I o) none false z (.bL b):=by
 refine⟨_,by rw[ZR];exact em,trivial,?_⟩
 rw[we,if_pos ho]
 simp only[Io V ho]
 exact h
theorem Ir{P:Program}{ms:List Yr}{K:St→Prop}{s:St}{o n b:Nat}{V:Nat→AV}{v:AV}(em:s.env (1000001+b)=aS (rows V n))(ho:o<n)(h:vcs P ms K (s.set (1000001+b) (aS (rows (fun j=>if j=o then v else V j) n)))):tE P ms K s (I o) v none (.bL b):=by
 refine⟨_,by rw[ZR];exact em,trivial,?_⟩
 rw[we,if_pos ho]
 simp only[Sh]
 rw[ZR];exact h
theorem Sl{P:Program}{ms:List Yr}{K:St→Prop}{s:St}{n b:Nat}{V:Nat→AV}(em:s.env (1000001+b)=aS (rows V n))(h:vcs P ms K (s.set (1000001+b) (aS (rows V (n+1))))):tE P ms K s (I n) (V n) none (.bL b):=by
 refine⟨_,by rw[ZR];exact em,trivial,?_⟩
 rw[we,if_neg (by omega)]
 simp only
 rw[←Sg,ZR];exact h
theorem aaA(c:Case)(l:List aB)(s:aB)(o:Nat):cc c (l++[s]) o=if s.dst=(o:Int) then max (cc c l o) s.year else cc c l o:=by simp[cc]
theorem q_(c:Case)(l:List aB)(s:aB)(o:Nat):YU c (l++[s]) o=if s.dst=(o:Int) then min (YU c l o) s.year else YU c l o:=by simp[YU]
theorem aaB(c:Case)(l:List aB)(s:aB)(o:Nat):YQ c (l++[s]) o=if s.src=(o:Int) then max (YQ c l o) s.year else YQ c l o:=by simp[YQ]
theorem rj(c:Case)(l:List aB)(s:aB)(o:Nat):Yx c (l++[s]) o=if s.src=(o:Int) then min (Yx c l o) s.year else Yx c l o:=by simp[Yx]
theorem Sm(c:Case)(l:List aB)(s:aB)(o:Nat):dR c (l++[s]++[s]) o=dR c (l++[s]) o:=by
 have e1:cc c (l++[s]++[s]) o=cc c (l++[s]) o:=by rw[aaA,aaA];split<;>omega
 have e2:YU c (l++[s]++[s]) o=YU c (l++[s]) o:=by rw[q_,q_];split<;>omega
 have e3:YQ c (l++[s]++[s]) o=YQ c (l++[s]) o:=by rw[aaB,aaB];split<;>omega
 have e4:Yx c (l++[s]++[s]) o=Yx c (l++[s]) o:=by rw[rj,rj];split<;>omega
 rw[dR,e1,e2,e3,e4]
abbrev iW(c:Case)(l:List aB)(s:aB)(o:Nat):AV:=.agg [I (cc c (l++[s]) o),I (YU c (l++[s]) o),I (YQ c l o),I (Yx c l o)]
theorem kj{P:Program}{kn:St→Prop}{ke Sn:Nat→St→Prop}{kr So:St→Prop}{s:St}{x y:aC}{i:Nat}(h:bz P x (bz P y kn ke kr) (zT (bz P y kn ke kr) ke i) kr s):bz P .skip (bz P (.seq (.block i x) y) kn ke kr) Sn So s:=h
theorem look_ok{c:Case}(h:c.OK):aA Tryz.prog 75 [fc c] (aZ c):=by
 refine pc t75 (by simp) fun hfit=> ?_
 simp -implicitDefEqProofs only[FU]
 refine au (fun st=>st.env 1=bI c) ?_ ?_
 ·intro k hk
  simp -implicitDefEqProofs
  exact hk _ rfl
 intro s e1
 refine au (fun st=>st.env 1=bI c∧∃b mb,st.env 3=.Yq b 0∧st.loc b=some (cU c++[.bL mb])∧st.env (1000001+mb)=aS (rows (dR c []) 0)) ?_ ?_
 ·intro k hk
  simp -implicitDefEqProofs [e1]
  intro mb rm hm2 b hb
  refine hk _ ⟨by simp[e1],b,mb,by simp,by simp,?_⟩
  simp[rows]
 rintro s ⟨e1,b,mb,e3,lb,em⟩
 refine au (fun st=>st.env 1=bI c∧st.env 3=.Yq b 0∧st.loc b=some (cU c++[.bL mb])∧st.env (1000001+mb)=aS (rows (dR c []) c.an.length)) ?_ ?_
 ·intro k0 aX
  simp -implicitDefEqProofs [e1]
  refine bw c.an.length (fun k s=>s.env 1=bI c∧s.env 3=.Yq b 0∧s.loc b=some (cU c++[.bL mb])∧s.env (1000001+mb)=aS (rows (dR c []) k)∧s.env 16=.slice 3 (c.an.map fK) 0∧s.env 17=I c.an.length∧s.env 18=I k) ?_ ?_
  ·simp[e1,e3,lb,em]
  rintro k s hk ⟨e1,e3,lb,em,cJ,bZ,dS⟩
  simp -implicitDefEqProofs [bZ,dS]
  refine bu (fun hlt=> ?_) (fun hge=> ?_)
  ·have hlt:k<c.an.length:=by omega
   have eC:=h.jF
   have fo:cW c k=c.an[k]:=by simp[cW,hlt]
   have hV:dR c [] k=.agg [I (max c.printed c.an[k].born),I c.now,I c.an[k].born,I (min c.an[k].YE c.now)]:=by simp only[dR,cc,YU,YQ,Yx,List.foldl_nil,fo]
   simp -implicitDefEqProofs [e1,e3,cJ,dS,lb,hlt]
   generalize c.an[k]=o at*
   intro b5 h5
   have hne:¬b=b5:=by rintro rfl;rw[lb] at h5;cases h5
   simp -implicitDefEqProofs [hne]
   have m1:(if c.printed<o.born then o.born else c.printed)=max c.printed o.born:=by split<;>omega
   have m2:(if c.now<o.YE then c.now else o.YE)=min o.YE c.now:=by split<;>omega
   rw[m1,m2,←hV]
   refine Sl (by simp[em]) ?_
   simp -implicitDefEqProofs [dS]
   refine⟨i64 (by omega) (by omega),aN hlt ?_⟩
   simp[e1,e3,cJ,bZ,lb,hne]
  ·obtain rfl:k=c.an.length:=by omega
   simp -implicitDefEqProofs
   exact aX _ ⟨by simp[e1],by simp[e3],by simp[lb],by simp[em]⟩
 rintro s ⟨e1,e3,lb,em⟩
 refine au (fun st=>st.env 3=.Yq b 0∧st.loc b=some (cU c++[.bL mb])∧st.env (1000001+mb)=aS (pO c)) ?_ ?_
 ·intro k0 aX
  simp -implicitDefEqProofs [e1]
  refine bw c.ak.length (fun k s=>s.env 1=bI c∧s.env 3=.Yq b 0∧s.loc b=some (cU c++[.bL mb])∧s.env (1000001+mb)=aS (rows (dR c (c.ak.take k)) c.an.length)∧s.env 47=.slice 3 (c.ak.map bQ) 0∧s.env 48=I c.ak.length∧s.env 49=I k) ?_ ?_
  ·simp[e1,e3,lb,em]
  rintro k s hk ⟨e1,e3,lb,em,iX,iY,iz⟩
  simp -implicitDefEqProofs [iY,iz]
  refine bu (fun hlt=> ?_) (fun hge=> ?_)
  ·have hlt:k<c.ak.length:=by omega
   have eC:=h.aav
   have dG:=cV hlt
   have pH:=h.ak _ (List.getElem_mem hlt)
   have Sq:∀(hk:k - 1<c.ak.length),0<k→c.ak[k]=c.ak[k - 1]→∀o,dR c (c.ak.take (k+1)) o=dR c (c.ak.take k) o:=by
    intro hk h0 e o
    have h1:c.ak.take k=c.ak.take (k - 1)++[c.ak[k]]:=by rw[e,←cV hk,show k - 1+1=k by omega]
    rw[dG,h1]
    exact Sm c _ _ o
   refine kj ?_
   refine au (fun st=>st.env 1=bI c∧st.env 3=.Yq b 0∧st.loc b=some (cU c++[.bL mb])∧st.env (1000001+mb)=aS (rows (dR c (c.ak.take k)) c.an.length)∧st.env 47=.slice 3 (c.ak.map bQ) 0∧st.env 48=I c.ak.length∧st.env 49=I k∧st.env 6=I k∧st.env 7=.ref [I c.ak[k].year,I c.ak[k].src,I c.ak[k].dst]) ?_ ?_
   ·intro k1 aF
    simp -implicitDefEqProofs [iX,iz,hlt]
    intro b7 h7
    have hne:¬b=b7:=by rintro rfl;rw[lb] at h7;cases h7
    exact aF _ (by simp[e1,e3,lb,em,iX,iY,iz,hne])
   rintro s ⟨e1,e3,lb,em,iX,iY,iz,e6,e7⟩
   refine au (fun st=>st.env 1=bI c∧st.env 3=.Yq b 0∧st.loc b=some (cU c++[.bL mb])∧st.env (1000001+mb)=aS (rows (dR c (c.ak.take k)) c.an.length)∧st.env 47=.slice 3 (c.ak.map bQ) 0∧st.env 48=I c.ak.length∧st.env 49=I k∧st.env 6=I k∧st.env 7=.ref [I c.ak[k].year,I c.ak[k].src,I c.ak[k].dst]) ?_ ?_
   ·intro k1 aF
    by_cases h0:0<k
    ·obtain⟨p,rfl⟩:∃p,k=p+1:=⟨k - 1,by omega⟩
     have hp:p<c.ak.length:=by omega
     have hd:=Sq hp h0
     simp only[Nat.add_sub_cancel] at hd
     simp -implicitDefEqProofs [e1,e6,e7,hp]
     refine⟨i64 (by omega) (by omega),e_ (fun he=> ?_) (fun he=> ?_)⟩
     ·simp only[Bool.and_eq_true,beq_iff_eq] at he
      have he:c.ak[p+1]=c.ak[p]:=by
       cases h1:c.ak[p+1];cases h2:c.ak[p]
       rw[h1,h2] at he
       simp at he
       simp[he]
      have hrc:rows (dR c (c.ak.take (p+1))) c.an.length=rows (dR c (c.ak.take (p+1+1))) c.an.length:=tC fun o _=>(hd he o).symm
      simp -implicitDefEqProofs [iz]
      refine⟨i64 (by omega) (by omega),aN hlt ?_⟩
      rw[hrc] at em
      simp[e1,e3,lb,em,iX,iY]
     ·simp -implicitDefEqProofs
      exact aF _ (by simp[e1,e3,lb,em,iX,iY,iz,e6,e7])
    ·have Is:k=0:=by omega
     simp -implicitDefEqProofs [e6,Is]
     exact aF _ (by simp[e1,e3,lb,em,iX,iY,iz,e6,e7,Is])
   rintro s ⟨e1,e3,lb,em,iX,iY,iz,e6,e7⟩
   generalize hs:c.ak[k]=x at*
   obtain⟨l,hl⟩:∃l,l=c.ak.take k:=⟨_,rfl⟩
   rw[←hl] at em dG
   refine au (fun st=>st.env 1=bI c∧st.env 3=.Yq b 0∧st.loc b=some (cU c++[.bL mb])∧st.env (1000001+mb)=aS (rows (dR c l) c.an.length)∧st.env 47=.slice 3 (c.ak.map bQ) 0∧st.env 48=I c.ak.length∧st.env 49=I k∧st.env 7=.ref [I x.year,I x.src,I x.dst]∧st.env 8=.ref [I x.year,I x.year]) ?_ ?_
   ·intro k1 aF
    simp -implicitDefEqProofs [e7]
    intro b8 h8
    have hne:¬b=b8:=by rintro rfl;rw[lb] at h8;cases h8
    exact aF _ (by simp[e1,e3,lb,em,iX,iY,iz,e7,hne])
   rintro s ⟨e1,e3,lb,em,iX,iY,iz,e7,e8⟩
   refine au (fun st=>st.env 1=bI c∧st.env 3=.Yq b 0∧st.loc b=some (cU c++[.bL mb])∧st.env (1000001+mb)=aS (rows (iW c l x) c.an.length)∧st.env 47=.slice 3 (c.ak.map bQ) 0∧st.env 48=I c.ak.length∧st.env 49=I k∧st.env 7=.ref [I x.year,I x.src,I x.dst]∧st.env 8=.ref [I x.year,I x.year]) ?_ ?_
   ·intro k1 aF
    simp -implicitDefEqProofs [e7]
    refine e_ (fun he=> ?_) (fun he=> ?_)
    ·have he:x.dst≠ -1:=by simpa using he
     obtain⟨o,ho⟩:∃o:Nat,x.dst=o:=⟨x.dst.toNat,by omega⟩
     have iZ:o<c.an.length:=by omega
     have hR:rows (fun j=>if j=o then iW c l x o else dR c l j) c.an.length=rows (iW c l x) c.an.length:=tC fun j _=>by
      by_cases e:j=o
      ·rw[if_pos e,e]
      ·rw[if_neg e,iW,aaA,q_,if_neg (by omega),if_neg (by omega)]
     have hV:iW c l x o=.agg [I (max (cc c l o) x.year),I (min (YU c l o) x.year),I (YQ c l o),I (Yx c l o)]:=by rw[iW,aaA,q_,if_pos ho,if_pos ho]
     have cb:=H_ (cc c l o) (YU c l o) x.year x.year
     simp -implicitDefEqProofs [e3,e7,lb,ho]
     refine Iq (V:=dR c l) (by simp[em]) iZ ?_
     simp -implicitDefEqProofs
     intro b9 h9
     have hne:¬b=b9:=by rintro rfl;rw[lb] at h9;cases h9
     simp -implicitDefEqProofs [e8]
     refine aj cb ?_
     simp -implicitDefEqProofs [e3,e7,lb,hne,ho]
     rw[←hV]
     refine Ir (V:=dR c l) (by simp[em]) iZ ?_
     rw[hR]
     simp -implicitDefEqProofs
     exact aF _ (by simp[e1,e3,lb,iX,iY,iz,e7,e8,hne,ho])
    ·have he:x.dst= -1:=by simpa using he
     have hR:rows (dR c l) c.an.length=rows (iW c l x) c.an.length:=tC fun j _=>by rw[iW,aaA,q_,if_neg (by omega),if_neg (by omega)]
     rw[hR] at em
     simp -implicitDefEqProofs
     exact aF _ (by simp[e1,e3,lb,em,iX,iY,iz,e7,e8])
   rintro s ⟨e1,e3,lb,em,iX,iY,iz,e7,e8⟩
   simp -implicitDefEqProofs [e7]
   refine e_ (fun he=> ?_) (fun he=> ?_)
   ·have he:x.src≠ -1:=by simpa using he
    obtain⟨o,ho⟩:∃o:Nat,x.src=o:=⟨x.src.toNat,by omega⟩
    have iZ:o<c.an.length:=by omega
    have hR:rows (fun j=>if j=o then dR c (l++[x]) o else iW c l x j) c.an.length=rows (dR c (l++[x])) c.an.length:=tC fun j _=>by
     by_cases e:j=o
     ·rw[if_pos e,e]
     ·rw[if_neg e,iW,dR,aaB,rj,if_neg (by omega),if_neg (by omega)]
    have hV:dR c (l++[x]) o=.agg [I (cc c (l++[x]) o),I (YU c (l++[x]) o),I (max (YQ c l o) x.year),I (min (Yx c l o) x.year)]:=by rw[dR,aaB,rj,if_pos ho,if_pos ho]
    have cb:=H_ (YQ c l o) (Yx c l o) x.year x.year
    simp -implicitDefEqProofs [e3,e7,lb,ho]
    refine Iq (V:=iW c l x) (by simp[em]) iZ ?_
    simp -implicitDefEqProofs
    intro b9 h9
    have hne:¬b=b9:=by rintro rfl;rw[lb] at h9;cases h9
    simp -implicitDefEqProofs [e8]
    refine aj cb ?_
    simp -implicitDefEqProofs [e3,e7,lb,hne,ho]
    rw[←hV]
    refine Ir (V:=iW c l x) (by simp[em]) iZ ?_
    rw[hR]
    simp -implicitDefEqProofs [iz]
    refine⟨i64 (by omega) (by omega),aN hlt ?_⟩
    rw[dG]
    simp[e1,e3,lb,iX,iY,hne]
   ·have he:x.src= -1:=by simpa using he
    have hR:rows (iW c l x) c.an.length=rows (dR c (l++[x])) c.an.length:=tC fun j _=>by rw[iW,dR,aaB,rj,if_neg (by omega),if_neg (by omega)]
    rw[hR] at em
    simp -implicitDefEqProofs [iz]
    refine⟨i64 (by omega) (by omega),aN hlt ?_⟩
    rw[dG]
    simp[e1,e3,lb,em,iX,iY]
  ·obtain rfl:k=c.ak.length:=by omega
   rw[List.take_length] at em
   simp -implicitDefEqProofs
   exact aX _ ⟨by simp[e3],by simp[lb],by simp[em]⟩
 rintro s ⟨e3,lb,em⟩
 simp -implicitDefEqProofs [e3,lb,FV]
 refine Rx 5 mb (pO c) rfl (by simp[em]) ?_
 simp -implicitDefEqProofs [aq]
 refine tg ?_
 simp -implicitDefEqProofs [aq]
theorem aae{c:Case}(he:bC c=0):aA Tryz.prog 44 [fc c] (.tuple [aZ c,I 0]):=by
 refine pc t44 (by simp) fun _=> ?_
 have hc:=Ib c
 have hl:=look_ok (Case.ok he)
 unfold bC at*
 generalize YP c=R at*
 have he':(R.2.2 != 0)=false:=by simp[he]
 simp -implicitDefEqProofs [Al]
 refine aj hc ?_
 simp -implicitDefEqProofs [he']
 refine aj hl ?_
 simp -implicitDefEqProofs [Am]
theorem aaf{c:Case}(he:bC c≠0):aA Tryz.prog 44 [fc c] (.tuple [.lit (.pointer none),I (bC c)]):=by
 refine pc t44 (by simp) fun _=> ?_
 have hc:=Ib c
 unfold bC at*
 generalize YP c=R at*
 have he':(R.2.2 != 0)=true:=by simp[he]
 simp -implicitDefEqProofs [Al]
 refine aj hc ?_
 simp -implicitDefEqProofs [he',Am]
end Go.Proofs.YtpeikknjbnnnnaaGreat.O
namespace Go.Proofs.YtpeikknjbnnnnaaGreat.O
open Go.az
def Zw(order:List Int)(o:Int):Bool:=decide (o= -1)||decide (o∈order)
def ot(order:List Int)(m:Mk):Bool:=decide (m.owner∈order)
def ZS(order:List Int)(s:aB):Bool:=Zw order s.src&&Zw order s.dst
def iA(c:Case)(order:List Int):Bool:=c.marks.all (ot order)&&c.ak.all (ZS order)
def tF(order:List Int)(s:aB):Bool:=decide (s.src= -1)||(decide (s.dst= -1)||decide (bU order s.dst=bU order s.src+1))
def ZC(c:Case)(order:List Int):Bool:=c.ak.all (tF order)
def under(c:Case)(order:List Int)(m:Mk):Bool:=decide (m.upon= -1)|| !decide (bU order m.owner<bU order (c.marks.getD m.upon.toNat dF).owner)
def Ze(c:Case)(order:List Int):Bool:=c.marks.all (under c order)
theorem wg{α:Type}{l:List α}{p:α→Bool}{k:Nat}(hk:k<l.length)(h:p l[k]=false):l.all p=false:=by
 rw[List.all_eq_false]
 exact⟨_,List.getElem_mem hk,by simp[h]⟩
theorem wh{α:Type}{l:List α}{p:α→Bool}(h:∀x∈l.take l.length,p x=true):l.all p=true:=by
 rw[List.take_length] at h
 exact List.all_eq_true.2 h
theorem tG{α:Type}{l:List α}{p:α→Bool}{k:Nat}(hk:k<l.length)(h:∀x∈l.take k,p x=true)(h1:p l[k]=true):∀x∈l.take (k+1),p x=true:=by
 intro x hx
 rw[cV hk,List.mem_append,List.mem_singleton] at hx
 rcases hx with hx|rfl
 ·exact h x hx
 ·exact h1
theorem at_len(l:List Int)(x:Int): -1≤bU l x∧bU l x<l.length:=by
 unfold bU
 cases h:l.idxOf? x with
 |none=>simp;omega
 |some i=>
  rw[List.idxOf?_eq_some_iff] at h
  obtain⟨h1,_⟩:=h
  simp;omega
theorem Sr(c:Case)(order:List Int)(h:c.OK):aA Tryz.prog 82 [aZ c,IL order] (B (iA c order)):=by
 refine pc t82 (by simp) fun hfit=> ?_
 have pP:=h.oh
 have It:=h.aav
 obtain⟨R,hR⟩:∃R,R=iA c order:=⟨_,rfl⟩
 rw[←hR]
 unfold iA at hR
 simp -implicitDefEqProofs only[F3]
 refine au (fun st=>st.env 0=aZ c∧st.env 1=IL order) ?_ ?_
 ·intro k hk
  simp -implicitDefEqProofs
  exact hk _ (by simp)
 rintro s ⟨e0,e1⟩
 refine au (fun st=>st.env 0=aZ c∧st.env 1=IL order∧c.marks.all (ot order)=true) ?_ ?_
 ·intro k0 aX
  simp -implicitDefEqProofs [e0]
  refine bw c.marks.length (fun k s=>s.env 0=aZ c∧s.env 1=IL order∧s.env 15=.slice 4 (c.marks.map cT) 0∧s.env 16=I c.marks.length∧s.env 17=I k∧∀m∈c.marks.take k,ot order m=true) ?_ ?_
  ·simp[e0,e1]
  rintro k s hk ⟨e0,e1,Yv,cJ,bZ,hall⟩
  simp -implicitDefEqProofs [cJ,bZ]
  refine bu (fun hlt=> ?_) (fun hge=> ?_)
  ·have hlt:k<c.marks.length:=by omega
   have ZD:=tG hlt hall
   have hno:=wg (p:=ot order) hlt
   have hq:ot order c.marks[k]=decide (c.marks[k].owner∈order):=rfl
   simp -implicitDefEqProofs [e1,Yv,bZ,hlt]
   intro b hb
   refine aj (tw order c.marks[k].owner) ?_
   generalize decide (c.marks[k].owner∈order)=q at*
   simp -implicitDefEqProofs
   refine e_ (fun he=> ?_) (fun he=> ?_)
   ·have he:q=false:=by simpa using he
    rw[hno (hq.trans he),Bool.false_and] at hR
    simp -implicitDefEqProofs [vO,hR]
   ·have he:q=true:=by simpa using he
    simp -implicitDefEqProofs [bZ]
    exact⟨i64 (by omega) (by omega),aN hlt ⟨by simp[e0],by simp[e1],by simp[Yv],by simp[cJ],by simp,ZD (hq.trans he)⟩⟩
  ·obtain rfl:k=c.marks.length:=by omega
   simp -implicitDefEqProofs
   exact aX _ ⟨by simp[e0],by simp[e1],wh hall⟩
 rintro s ⟨e0,e1,hma⟩
 rw[hma,Bool.true_and] at hR
 refine au (fun st=>c.ak.all (ZS order)=true) ?_ ?_
 ·intro k0 aX
  simp -implicitDefEqProofs [e0]
  refine bw c.ak.length (fun k s=>s.env 0=aZ c∧s.env 1=IL order∧s.env 31=.slice 3 (c.ak.map bQ) 0∧s.env 32=I c.ak.length∧s.env 33=I k∧∀s∈c.ak.take k,ZS order s=true) ?_ ?_
  ·simp[e0,e1]
  rintro k s hk ⟨e0,e1,i_,gw,eG,hall⟩
  simp -implicitDefEqProofs [gw,eG]
  refine bu (fun hlt=> ?_) (fun hge=> ?_)
  ·have hlt:k<c.ak.length:=by omega
   have ZD:=tG hlt hall
   have hno:=wg (p:=ZS order) hlt
   obtain⟨x,hx⟩:∃x,x=c.ak[k]:=⟨_,rfl⟩
   rw[←hx] at ZD hno
   obtain⟨l,hl⟩:∃l,l=[x.src,x.dst]:=⟨_,rfl⟩
   have iB:l.length=2:=by simp[hl]
   have Bl:∀j (hj:j<l.length),Zw order l[j]=false→ZS order x=false:=by
    intro j hj hf
    subst hl
    unfold ZS
    rcases j with _|_|j
    ·have:Zw order x.src=false:=hf
     simp[this]
    ·have:Zw order x.dst=false:=hf
     simp[this]
    ·simp at hj;omega
   have Ss:(∀y∈l.take 2,Zw order y=true)→ZS order x=true:=by intro h;subst hl;simp at h;simp[ZS,h]
   refine kj ?_
   refine au (fun st=>st.env 0=aZ c∧st.env 1=IL order∧st.env 31=.slice 3 (c.ak.map bQ) 0∧st.env 32=I c.ak.length∧st.env 33=I k∧st.env 8=.ref [I x.year,I x.src,I x.dst]) ?_ ?_
   ·intro k1 aF
    simp -implicitDefEqProofs [i_,eG,hlt]
    rw[←hx]
    intro b hb
    exact aF _ (by simp[e0,e1,i_,gw,eG])
   rintro s ⟨e0,e1,i_,gw,eG,e8⟩
   refine au (fun st=>st.env 0=aZ c∧st.env 1=IL order∧st.env 31=.slice 3 (c.ak.map bQ) 0∧st.env 32=I c.ak.length∧st.env 33=I k∧st.env 41=.slice 1 (l.map I) 42∧st.env 42=I 2∧st.env 43=I 0) ?_ ?_
   ·intro k1 aF
    simp -implicitDefEqProofs [e8]
    exact aF _ (by simp[e0,e1,i_,gw,eG,hl])
   rintro s ⟨e0,e1,i_,gw,eG,tH,tI,dU⟩
   simp -implicitDefEqProofs
   refine bw 2 (fun j st=>st.env 0=aZ c∧st.env 1=IL order∧st.env 31=.slice 3 (c.ak.map bQ) 0∧st.env 32=I c.ak.length∧st.env 33=I k∧st.env 41=.slice 1 (l.map I) 42∧st.env 42=I 2∧st.env 43=I j∧∀y∈l.take j,Zw order y=true) ?_ ?_
   ·simp[e0,e1,i_,gw,eG,tH,tI,dU]
   rintro j s hj ⟨e0,e1,i_,gw,eG,tH,tI,dU,Iu⟩
   simp -implicitDefEqProofs [tI,dU]
   refine bu (fun YH=> ?_) (fun abO=> ?_)
   ·have YH:j<l.length:=by omega
    have Iv:=tG YH Iu
    have ZT:=Bl j YH
    generalize hy:l[j]=y at*
    simp -implicitDefEqProofs [tH,dU,YH,hy]
    by_cases h0:y= -1
    ·have eE:(y != -1)=false:=by simp[h0]
     simp -implicitDefEqProofs [eE,dU]
     exact⟨i64 (by omega) (by omega),aN (by omega) ⟨by simp[e0],by simp[e1],by simp[i_],by simp[gw],by simp[eG],by simp[tH],by simp[tI],by simp,Iv (by simp[Zw,h0])⟩⟩
    ·have eE:(y != -1)=true:=by simp[h0]
     simp -implicitDefEqProofs [eE,e1]
     refine aj (tw order y) ?_
     have hq:Zw order y=decide (y∈order):=by simp[Zw,h0]
     generalize decide (y∈order)=q at*
     simp -implicitDefEqProofs
     refine e_ (fun he=> ?_) (fun he=> ?_)
     ·have he:q=false:=by simpa using he
      have hF:=hno (ZT (hq.trans he))
      rw[hF] at hR
      simp -implicitDefEqProofs [vO,hR]
     ·have he:q=true:=by simpa using he
      simp -implicitDefEqProofs [dU]
      exact⟨i64 (by omega) (by omega),aN (by omega) ⟨by simp[e0],by simp[e1],by simp[i_],by simp[gw],by simp[eG],by simp[tH],by simp[tI],by simp,Iv (hq.trans he)⟩⟩
   ·obtain rfl:j=2:=by omega
    simp -implicitDefEqProofs [eG]
    exact⟨i64 (by omega) (by omega),aN hlt ⟨by simp[e0],by simp[e1],by simp[i_],by simp[gw],by simp,ZD (Ss Iu)⟩⟩
  ·obtain rfl:k=c.ak.length:=by omega
   simp -implicitDefEqProofs
   exact aX _ (wh hall)
 rintro s Su
 simp -implicitDefEqProofs [vO,hR,Su]
theorem Sv(c:Case)(order:List Int)(h:c.OK)(ho:order.length≤100):aA Tryz.prog 83 [aZ c,IL order] (B (ZC c order)):=by
 refine pc t83 (by simp) fun hfit=> ?_
 have It:=h.aav
 obtain⟨R,hR⟩:∃R,R=ZC c order:=⟨_,rfl⟩
 rw[←hR]
 unfold ZC at hR
 simp -implicitDefEqProofs [F4]
 refine bw c.ak.length (fun k s=>s.env 1=IL order∧s.env 11=.slice 3 (c.ak.map bQ) 0∧s.env 12=I c.ak.length∧s.env 13=I k∧∀s∈c.ak.take k,tF order s=true) ?_ ?_
 ·simp
 rintro k s hk ⟨e1,aV,aQ,aR,hall⟩
 simp -implicitDefEqProofs [aQ,aR]
 refine bu (fun hlt=> ?_) (fun hge=> ?_)
 ·have hlt:k<c.ak.length:=by omega
  have ZD:=tG hlt hall
  have hno:=wg (p:=tF order) hlt
  generalize hx:c.ak[k]=x at*
  have hN:tF order x=(decide (x.src= -1)||(decide (x.dst= -1)||decide (bU order x.dst=bU order x.src+1))):=rfl
  refine kj ?_
  refine au (fun st=>st.env 1=IL order∧st.env 11=.slice 3 (c.ak.map bQ) 0∧st.env 12=I c.ak.length∧st.env 13=I k∧st.env 6=.ref [I x.year,I x.src,I x.dst]) ?_ ?_
  ·intro k1 aF
   simp -implicitDefEqProofs [aV,aR,hlt]
   rw[hx]
   intro b hb
   exact aF _ (by simp[e1,aV,aQ,aR])
  rintro s ⟨e1,aV,aQ,aR,e6⟩
  by_cases h0:x.src= -1
  ·have eE:(x.src != -1)=false:=by simp[h0]
   simp -implicitDefEqProofs [e6,eE,aR]
   exact⟨i64 (by omega) (by omega),aN hlt ⟨by simp[e1],by simp[aV],by simp[aQ],by simp,ZD (by simp[hN,h0])⟩⟩
  have eE:(x.src != -1)=true:=by simp[h0]
  by_cases h1:x.dst= -1
  ·have fT:(x.dst != -1)=false:=by simp[h1]
   simp -implicitDefEqProofs [e6,eE,fT,aR]
   exact⟨i64 (by omega) (by omega),aN hlt ⟨by simp[e1],by simp[aV],by simp[aQ],by simp,ZD (by simp[hN,h1])⟩⟩
  have fT:(x.dst != -1)=true:=by simp[h1]
  have l1:=at_len order x.src
  simp -implicitDefEqProofs [e1,e6,eE,fT]
  refine aj (pK order x.dst) ?_
  simp -implicitDefEqProofs [e1,e6]
  refine aj (pK order x.src) ?_
  simp -implicitDefEqProofs
  refine⟨i64 (by omega) (by omega),e_ (fun he=> ?_) (fun he=> ?_)⟩
  ·have he:bU order x.dst≠bU order x.src+1:=by simpa using he
   have hF:=hno (by rw[hN];simp[h0,h1,he])
   rw[hF] at hR
   simp -implicitDefEqProofs [Av,hR]
  ·have he:bU order x.dst=bU order x.src+1:=by simpa using he
   simp -implicitDefEqProofs [aR]
   exact⟨i64 (by omega) (by omega),aN hlt ⟨by simp[e1],by simp[aV],by simp[aQ],by simp,ZD (by simp[hN,he])⟩⟩
 ·obtain rfl:k=c.ak.length:=by omega
  rw[wh hall] at hR
  simp -implicitDefEqProofs [Av,hR]
theorem Sw(c:Case)(order:List Int)(h:c.OK):aA Tryz.prog 84 [aZ c,IL order] (B (Ze c order)):=by
 refine pc t84 (by simp) fun hfit=> ?_
 have pP:=h.oh
 obtain⟨R,hR⟩:∃R,R=Ze c order:=⟨_,rfl⟩
 rw[←hR]
 unfold Ze at hR
 simp -implicitDefEqProofs [F5]
 refine bw c.marks.length (fun k s=>s.env 0=aZ c∧s.env 1=IL order∧s.env 11=.slice 4 (c.marks.map cT) 0∧s.env 12=I c.marks.length∧s.env 13=I k∧∀m∈c.marks.take k,under c order m=true) ?_ ?_
 ·simp
 rintro k s hk ⟨e0,e1,aV,aQ,aR,hall⟩
 simp -implicitDefEqProofs [aQ,aR]
 refine bu (fun hlt=> ?_) (fun hge=> ?_)
 ·have hlt:k<c.marks.length:=by omega
  have ZD:=tG hlt hall
  have hno:=wg (p:=under c order) hlt
  have hu:=h.upon k hlt
  generalize hx:c.marks[k]=x at*
  have hN:under c order x=(decide (x.upon= -1)|| !decide (bU order x.owner<bU order (c.marks.getD x.upon.toNat dF).owner)):=rfl
  refine kj ?_
  refine au (fun st=>st.env 0=aZ c∧st.env 1=IL order∧st.env 11=.slice 4 (c.marks.map cT) 0∧st.env 12=I c.marks.length∧st.env 13=I k∧st.env 6=.ref [I x.owner,I x.lo,I x.hi,I x.upon]) ?_ ?_
  ·intro k1 aF
   simp -implicitDefEqProofs [aV,aR,hlt]
   rw[hx]
   intro b hb
   exact aF _ (by simp[e0,e1,aV,aQ,aR])
  rintro s ⟨e0,e1,aV,aQ,aR,e6⟩
  by_cases h0:x.upon= -1
  ·have eE:(x.upon != -1)=false:=by simp[h0]
   simp -implicitDefEqProofs [e6,eE,aR]
   exact⟨i64 (by omega) (by omega),aN hlt ⟨by simp[e0],by simp[e1],by simp[aV],by simp[aQ],by simp,ZD (by simp[hN,h0])⟩⟩
  have eE:(x.upon != -1)=true:=by simp[h0]
  obtain⟨u,Iw⟩:∃u:Nat,x.upon=u:=⟨x.upon.toNat,by omega⟩
  have Y_:u<c.marks.length:=by omega
  have fo:c.marks.getD x.upon.toNat dF=c.marks[u]:=by rw[Iw,Int.toNat_natCast];exact eF Y_
  rw[fo] at hN
  have XM:¬((u:Int)<0):=by omega
  simp -implicitDefEqProofs [e1,e6,eE]
  refine aj (pK order x.owner) ?_
  simp -implicitDefEqProofs [e0,e1,e6,Iw,Y_]
  refine aj (pK order c.marks[u].owner) ?_
  simp -implicitDefEqProofs
  refine bu (fun he=> ?_) (fun he=> ?_)
  ·have hF:=hno (by rw[hN];simp[h0,he])
   rw[hF] at hR
   simp -implicitDefEqProofs [Aw,hR]
  ·simp -implicitDefEqProofs [aR]
   exact⟨i64 (by omega) (by omega),aN hlt ⟨by simp[e0],by simp[e1],by simp[aV],by simp[aQ],by simp,ZD (by simp[hN];exact .inr (by omega))⟩⟩
 ·obtain rfl:k=c.marks.length:=by omega
  rw[wh hall] at hR
  simp -implicitDefEqProofs [Aw,hR]
end Go.Proofs.YtpeikknjbnnnnaaGreat.O
namespace Go.Proofs.YtpeikknjbnnnnaaGreat.O
open Go.az
def cl(n:Nat)(F:Nat→Int):List AV:=(List.range n).map fun g=>I (F g)
theorem iC(n:Nat)(F:Nat→Int):(cl n F).length=n:=by simp[cl]
theorem pQ{n g:Nat}(F:Nat→Int)(h:g<(cl n F).length):(cl n F)[g]=I (F g):=by simp[cl]
theorem tJ(n g:Nat)(F:Nat→Int)(v:Int):(cl n F).set g (I v)=cl n fun j=>if j=g then v else F j:=by
 apply List.ext_getElem?
 intro j
 simp only[List.getElem?_set,cl,List.getElem?_map,List.length_map,List.length_range]
 by_cases hj:g=j
 ·subst hj
  by_cases hg:g<n<;>simp[hg]
 ·have:¬j=g:=fun e=>hj e.symm
  by_cases hg:j<n<;>simp[hg,hj,this]
theorem Sx{n:Nat}{F G:Nat→Int}(h:∀g<n,F g=G g):cl n F=cl n G:=by
 unfold cl
 exact List.map_congr_left fun g hg=>by rw[h g (by simpa using hg)]
theorem Sy(n:Nat)(F:Nat→Int):(cl n F).map AV.erase0=cl n F:=by simp[cl]
theorem Iy(n:Nat)(F:Nat→Int):(cl n F).all AV.bH=true:=by
 rw[List.all_eq_true]
 intro x hx
 unfold cl at hx
 rw[List.mem_map] at hx
 obtain⟨g,_,rfl⟩:=hx
 rfl
theorem sg:∀(xs ys:List AV) (o:Nat),o+ys.length=xs.length→splice xs o ys=xs.take o++ys
 |xs,[],o,h=>by simp at h;simp[splice,h]
 |xs,y::ys,o,h=>by
  simp only[List.length_cons] at h
  rw[ET,sg _ ys (o+1) (by simp;omega)]
  have ho:o<xs.length:=by omega
  rw[List.take_set,List.take_succ_eq_append_getElem ho,List.set_append_right _ _ (by simp;omega)]
  simp[Nat.min_eq_left (Nat.le_of_lt ho)]
theorem Sz(n:Nat)(F:Nat→Int):(cl n F).take n=cl n F:=List.take_of_length_le (by rw[iC];exact Nat.le_refl _)
@[simp] theorem XN (b off len cap sz:Nat):(AV.aP b off len cap sz).cells=[.aP b off len cap sz]:=rfl
@[simp] theorem XO (b off len cap sz:Nat):(AV.aP b off len cap sz).erase=.aP b off len cap sz:=rfl
@[simp] theorem XP (b off len cap sz:Nat):(AV.aP b off len cap sz).erase0=.aP b off len cap sz:=rfl
theorem Bp(r n:Nat)(F:Nat→Int):(cl n F).map (aG r)=cl n F:=by simp[cl]
theorem tK:∀(n:Nat) (l:List AV),n≤l.length→(∀x∈l,∃m,x=I m)→chunk 1 l n=l.take n
 |0,l,_,_=>by simp[chunk]
 |n+1,[],h,_=>by simp at h
 |n+1,x::l,h,hx=>by
  obtain⟨m,rfl⟩:=hx x (by simp)
  have:=tK n l (by simpa using h) (fun y hy=>hx y (by simp[hy]))
  unfold chunk
  simp[this]
structure aY where
 who:Int
 src:Int
 cw:Int
abbrev Iz(h:aY):AV:=.agg [I h.who,I h.src,I h.cw]
abbrev HL(l:List aY):AV:=.slice 3 (l.map Iz) 0
def rq(c:Case)(Y:Nat→Int)(f:Int)(k:Nat):Int:=if (c.marks.getD k dF).upon= -1 then max (c.marks.getD k dF).lo f else max (max (c.marks.getD k dF).lo f) (Y (c.marks.getD k dF).upon.toNat)
def eA(Y:Nat→Int)(k:Nat)(y:Int):Nat→Int:=fun j=>if j=k then y else Y j
def l9(c:Case)(o:Nat)(f:Int)(k:Nat)(x:(Nat→Int)×Int):Option ((Nat→Int)×Int):=
 if (c.marks.getD k dF).owner≠(o:Int) then some x else
 if (c.marks.getD k dF).hi<rq c x.1 f k then none else some (eA x.1 k (rq c x.1 f k),max x.2 (rq c x.1 f k))
def gN(c:Case)(o:Nat)(f:Int)(Y0:Nat→Int)(t0:Int):Nat→Option ((Nat→Int)×Int)
 |0=>some (Y0,t0)
 |k+1=>(gN c o f Y0 t0 k).bind (l9 c o f k)
structure pR where
 years:Nat→Int
 since:Int
 raw:List aY
def jG(c:Case)(o:Nat)(x:pR):Option pR:=(gN c o (max x.since (cc c c.ak o)) x.years (max (max x.since (cc c c.ak o)) (YQ c c.ak o)) c.marks.length).bind fun y=>if YU c c.ak o<max x.since (cc c c.ak o)∨Yx c c.ak o<y.2 then none else some ⟨y.1,y.2,x.raw++[⟨o,max x.since (cc c c.ak o),Yx c c.ak o⟩]⟩
def fX(c:Case)(order:List Int):Nat→Option pR
 |0=>some ⟨fun _=>0,c.printed,[]⟩
 |i+1=>(fX c order i).bind (jG c (order.getD i 0).toNat)
def fY(c:Case)(order:List Int):Bool:=iA c order&&(ZC c order&&Ze c order)
def cX(c:Case)(order:List Int):Option (List aY):=if fY c order then (fX c order order.length).map pR.raw else none
def cut(h:aY)(f:Int):aY:=⟨h.who,h.src,min h.cw f⟩
def dV:List aY→Int→List aY
 |[],_=>[]
 |[a],f=>[cut a f]
 |a::b::l,f=>cut a b.src::dV (b::l) f
def Yy:List aY→List aY
 |[]=>[]
 |[a]=>[a]
 |a::b::l=>cut a b.src::Yy (b::l)
def pS(p:Int):List aY→Int
 |[]=>p
 |a::l=>pS a.cw l
def cQ(p:Int):List aY→Int
 |[]=>0
 |a::l=>(if p<a.src then 1 else 0)+cQ a.cw l
def dH(c:Case)(l:List aY):Int:=if l=[] then 1 else cQ c.printed l+if pS c.printed l<c.now then 1 else 0
theorem IA(a:aY)(f:Int):∀l:List aY,dV (l++[a]) f=dV l a.src++[cut a f]
 |[]=>rfl
 |[b]=>rfl
 |b::d::l=>by
  have:=IA a f (d::l)
  show cut b d.src::dV (d::l++[a]) f=cut b d.src::(dV (d::l) a.src++[cut a f])
  rw[this]
theorem tL(a:aY):∀l:List aY,Yy (l++[a])=dV l a.src++[a]
 |[]=>rfl
 |[b]=>rfl
 |b::d::l=>by
  have:=tL a (d::l)
  show cut b d.src::Yy (d::l++[a])=cut b d.src::(dV (d::l) a.src++[a])
  rw[this]
theorem ou:∀(l:List aY) (f:Int),(dV l f).length=l.length
 |[],_=>rfl
 |[a],_=>rfl
 |a::b::l,f=>by
  have:=ou (b::l) f
  show(dV (b::l) f).length+1=_
  rw[this];rfl
theorem tM(l:List aY):(Yy l).length=l.length:=by
 rcases List.eq_nil_or_concat l with rfl|⟨l,a,rfl⟩
 ·rfl
 ·rw[List.concat_eq_append,tL];simp[ou]
theorem Bq(a:aY):∀(p:Int) (l:List aY),cQ p (l++[a])=cQ p l+if pS p l<a.src then 1 else 0
 |p,[]=>by simp only[List.nil_append,cQ,pS];omega
 |p,b::l=>by
  have:=Bq a b.cw l
  simp only[List.cons_append,cQ,pS,this]
  omega
theorem wj(a:aY):∀(p:Int) (l:List aY),pS p (l++[a])=a.cw
 |_,[]=>rfl
 |_,b::l=>wj a b.cw l
theorem aaS:∀(p:Int) (l:List aY),0≤cQ p l∧cQ p l≤l.length
 |p,[]=>by simp[cQ]
 |p,b::l=>by
  have:=aaS b.cw l
  simp only[cQ,List.length_cons]
  split<;>omega
theorem IB{c:Case}{o:Nat}{f:Int}{Y:Nat→Int}{t:Int}{k:Nat}(h:gN c o f Y t k=none):∀d,gN c o f Y t (k+d)=none
 |0=>h
 |d+1=>by rw[←Nat.add_assoc,gN,IB h d];rfl
theorem IC{c:Case}{order:List Int}{i:Nat}(h:fX c order i=none):∀d,fX c order (i+d)=none
 |0=>h
 |d+1=>by rw[←Nat.add_assoc,fX,IC h d];rfl
theorem SA{c:Case}{order:List Int}{i:Nat}(hi:i≤order.length)(h:fX c order i=none):cX c order=none:=by
 have:=IC h (order.length - i)
 rw[show i+(order.length - i)=order.length by omega] at this
 unfold cX
 rw[this]
 split<;>rfl
theorem Br(q:aB→Bool)(lo hi:Int):∀(l:List aB) (a:Int),lo≤a→a≤hi→(∀s∈l,lo≤s.year∧s.year≤hi)→lo≤l.foldl (fun a s=>if q s then max a s.year else a) a∧l.foldl (fun a s=>if q s then max a s.year else a) a≤hi
 |[],a,h1,h2,_=>⟨h1,h2⟩
 |s::l,a,h1,h2,h=>by
  rw[List.foldl_cons]
  have hs:=h s (by simp)
  refine Br q lo hi l _ ?_ ?_ (fun x hx=>h x (by simp[hx]))<;>split<;>omega
theorem Bs(q:aB→Bool)(lo hi:Int):∀(l:List aB) (a:Int),lo≤a→a≤hi→(∀s∈l,lo≤s.year∧s.year≤hi)→lo≤l.foldl (fun a s=>if q s then min a s.year else a) a∧l.foldl (fun a s=>if q s then min a s.year else a) a≤hi
 |[],a,h1,h2,_=>⟨h1,h2⟩
 |s::l,a,h1,h2,h=>by
  rw[List.foldl_cons]
  have hs:=h s (by simp)
  refine Bs q lo hi l _ ?_ ?_ (fun x hx=>h x (by simp[hx]))<;>split<;>omega
theorem SB{c:Case}(h:c.OK)(o:Nat):0≤(cW c o).born∧(cW c o).born≤9999∧0≤(cW c o).YE∧(cW c o).YE≤9999:=by
 unfold cW
 by_cases ho:o<c.an.length
 ·rw[pL ho]
  have:=h.an _ (List.getElem_mem ho)
  omega
 ·rw[List.getD_eq_getElem?_getD,List.getElem?_eq_none (by omega)]
  simp[om]
theorem SC{c:Case}(h:c.OK)(o:Nat):(0≤cc c c.ak o∧cc c c.ak o≤9999)∧(0≤YU c c.ak o∧YU c c.ak o≤9999)∧(0≤YQ c c.ak o∧YQ c c.ak o≤9999)∧(0≤Yx c c.ak o∧Yx c c.ak o≤9999):=by
 have ho:=SB h o
 have hy:=h.years
 have hs:∀s∈c.ak,0≤s.year∧s.year≤9999:=fun s hs=>by have:=h.ak s hs;omega
 have a1:=Br (fun s=>decide (s.dst=(o:Int))) 0 9999 c.ak (max c.printed (cW c o).born) (by omega) (by omega) hs
 have a2:=Bs (fun s=>decide (s.dst=(o:Int))) 0 9999 c.ak c.now (by omega) (by omega) hs
 have a3:=Br (fun s=>decide (s.src=(o:Int))) 0 9999 c.ak (cW c o).born (by omega) (by omega) hs
 have a4:=Bs (fun s=>decide (s.src=(o:Int))) 0 9999 c.ak (min (cW c o).YE c.now) (by omega) (by omega) hs
 simp only[decide_eq_true_eq] at a1 a2 a3 a4
 exact⟨a1,a2,a3,a4⟩
def fZ(l:List aY):List AV:=l.flatMap fun h=>[I h.who,I h.src,I h.cw]
theorem k6(l:List aY):(fZ l).length=3*l.length:=by
 induction l with
 |nil=>rfl
 |cons a l ih=>simp only[fZ,List.flatMap_cons,List.length_append,List.length_cons,List.length_nil] at ih⊢;omega
theorem tN(l m:List aY):fZ (l++m)=fZ l++fZ m:=by simp[fZ]
structure Zx (cs:List AV) (l:List aY) (cap:Nat):Prop where
 le:l.length≤cap
 len:cs.length=3*cap
 cells:cs.take (3*l.length)=fZ l
 num:∀x∈cs,∃m,x=I m
theorem ov{cs:List AV}(h:∀x∈cs,∃m,x=I m):cs.map AV.erase0=cs:=by
 calc cs.map AV.erase0=cs.map id:=List.map_congr_left fun x hx=>by obtain⟨m,rfl⟩:=h x hx;rfl
  _=cs:=by simp
theorem Bt{cs:List AV}(h:∀x∈cs,∃m,x=I m):cs.all AV.bH=true:=by
 rw[List.all_eq_true]
 intro x hx
 obtain⟨m,rfl⟩:=h x hx
 rfl
theorem Bu(l:List aY):∀x∈fZ l,∃m,x=I m:=by
 intro x hx
 simp only[fZ,List.mem_flatMap] at hx
 obtain⟨h,_,hx⟩:=hx
 simp at hx
 rcases hx with rfl|rfl|rfl<;>exact⟨_,rfl⟩
theorem ID:∀(l:List aY) (cs:List AV),cs.take (3*l.length)=fZ l→chunk 3 cs l.length=l.map Iz
 |[],_,_=>rfl
 |a::l,cs,h=>by
  have hl:(fZ (a::l)).length=3*l.length+3:=by rw[k6];simp;omega
  have e:cs.take 3=[I a.who,I a.src,I a.cw]:=by
   have:=congrArg (List.take 3) h
   rw[List.take_take,Nat.min_eq_left (by simp;omega)] at this
   rw[this];rfl
  have e2:(cs.drop 3).take (3*l.length)=fZ l:=by
   have:=congrArg (List.drop 3) h
   rw[List.drop_take] at this
   rw[show 3*(a::l).length - 3=3*l.length by simp;omega] at this
   rw[this];rfl
  have ih:=ID l (cs.drop 3) e2
  simp only[List.length_cons,chunk,e,ih,List.map_cons]
  rfl
theorem IE(h:aY)(r:Nat):Zx ([I h.who,I h.src,I h.cw]++(List.replicate r [I 0,I 0,I 0]).flatten) [h] (1+r):=by
 refine⟨by simp,by simp;omega,by simp[fZ],fun x hx=> ?_⟩
 simp only[List.mem_append,List.mem_flatten,List.mem_replicate] at hx
 rcases hx with hx|⟨l,⟨_,rfl⟩,hx⟩
 ·simp at hx
  rcases hx with rfl|rfl|rfl<;>exact⟨_,rfl⟩
 ·simp at hx
  subst hx
  exact⟨_,rfl⟩
theorem SD{cs:List AV}{l:List aY}{cap:Nat}(hb:Zx cs l cap)(h:aY)(r:Nat):Zx ((cs.take (l.length*3)).map AV.erase0++([I h.who,I h.src,I h.cw]++(List.replicate r [I 0,I 0,I 0]).flatten)) (l++[h]) (l.length+1+r):=by
 have hn:=IE h r
 have e:cs.take (l.length*3)=fZ l:=by rw[Nat.mul_comm];exact hb.cells
 rw[e,ov (Bu l)]
 refine⟨by simp,?_,?_,fun x hx=> ?_⟩
 ·rw[List.length_append,hn.len,k6];omega
 ·have e3:3*(l++[h]).length=3*l.length+3:=by simp;omega
  rw[e3,tN,List.take_append,k6,List.take_of_length_le (by rw[k6];omega)]
  rw[show 3*l.length+3 - 3*l.length=3 by omega]
  rfl
 ·rcases List.mem_append.1 hx with hx|hx
  ·exact Bu l x hx
  ·exact hn.num x hx
theorem Bv:∀(ys xs:List AV) (o:Nat),o+ys.length≤xs.length→splice xs o ys=xs.take o++(ys++xs.drop (o+ys.length))
 |[],xs,o,_=>by simp[splice]
 |y::ys,xs,o,h=>by
  simp only[List.length_cons] at h
  have ho:o<xs.length:=by omega
  rw[splice,Bv ys _ (o+1) (by simp;omega),List.take_set,List.take_succ_eq_append_getElem ho,List.set_append_right _ _ (by simp;omega),List.drop_set_of_lt (by omega)]
  simp[Nat.min_eq_left (Nat.le_of_lt ho)]
  congr 1
  omega
theorem SE{cs:List AV}{l:List aY}{cap:Nat}(hb:Zx cs l cap)(h:aY)(hr:l.length+1≤cap):Zx (splice cs (l.length*3) [I h.who,I h.src,I h.cw]) (l++[h]) cap:=by
 have hlen:=hb.len
 have e:cs.take (l.length*3)=fZ l:=by rw[Nat.mul_comm];exact hb.cells
 rw[Bv _ _ _ (by simp;omega),e]
 refine⟨by simp;omega,?_,?_,fun x hx=> ?_⟩
 ·simp only[List.length_append,k6,List.length_drop,List.length_cons,List.length_nil];omega
 ·have e3:3*(l++[h]).length=3*l.length+3:=by simp;omega
  rw[e3,tN,List.take_append,k6,List.take_of_length_le (by rw[k6];omega)]
  rw[show 3*l.length+3 - 3*l.length=3 by omega]
  rfl
 ·rcases List.mem_append.1 hx with hx|hx
  ·exact Bu l x hx
  rcases List.mem_append.1 hx with hx|hx
  ·simp at hx
   rcases hx with rfl|rfl|rfl<;>exact⟨_,rfl⟩
  ·exact hb.num x (List.mem_of_mem_drop hx)
theorem SF{cs:List AV}{l:List aY}{a:aY}{cap:Nat}(hb:Zx cs (l++[a]) cap)(v:Int):Zx (cs.set (l.length*3+2) (I v)) (l++[⟨a.who,a.src,v⟩]) cap:=by
 have hle:=hb.le
 refine⟨by simpa using hle,by rw[List.length_set];exact hb.len,?_,fun x hx=> ?_⟩
 ·have e3:3*(l++[(⟨a.who,a.src,v⟩:aY)]).length=3*(l++[a]).length:=by simp
  rw[e3,List.take_set,hb.cells,tN,tN,List.set_append_right _ _ (by rw[k6];omega),k6]
  rw[show l.length*3+2 - 3*l.length=2 by omega]
  rfl
 ·rcases List.mem_or_eq_of_mem_set hx with hx|rfl
  ·exact hb.num x hx
  ·exact⟨_,rfl⟩
theorem IF{cs:List AV}{l:List aY}{a:aY}{cap:Nat}(hb:Zx cs (l++[a]) cap):l.length*3+2<cs.length∧cs[l.length*3+2]? =some (I a.cw):=by
 have hle:=hb.le
 have hlen:=hb.len
 simp only[List.length_append,List.length_cons,List.length_nil] at hle
 refine⟨by omega,?_⟩
 have:=congrArg (fun x=>x[l.length*3+2]?) hb.cells
 simp only[List.length_append,List.length_cons,List.length_nil] at this
 rw[List.getElem?_take_of_lt (by omega),tN,List.getElem?_append_right (by rw[k6];omega),k6,show l.length*3+2 - 3*l.length=2 by omega] at this
 exact this
end Go.Proofs.YtpeikknjbnnnnaaGreat.O
namespace Go.Proofs.YtpeikknjbnnnnaaGreat.O
open Go.az
def ow(s:St)(v:AV)(order:List Int):Prop:=v=IL order∨∃d cap cs,v=.aP d 0 order.length cap 1∧s.loc d=some cs∧ZK (IL order) 0 1 order.length cap cs
structure Old (s0 s:St):Prop where
 l:∀c cs,s0.loc c=some cs→cs.map AV.erase0=cs→s.loc c=some cs
 g:∀l es q,s0.env 1000000=.ghost l es q→s.env 1000000=.ghost l es q
theorem Old.ext{s0 s s':St}(h:Old s0 s)(he:s'.env 1000000=s.env 1000000)(hl:∀c,s.loc c≠none→s'.loc c=s.loc c):Old s0 s':=⟨fun c cs h1 h2=>by rw[hl c (by rw[h.l c cs h1 h2];simp)];exact h.l c cs h1 h2,fun l es q hg=>by rw[he];exact h.g l es q hg⟩
theorem Old.aK{s0 s:St}(h:Old s0 s)(r:Nat):Old s0 (s.aK r):=⟨fun c cs h1 h2=>by rw[ER,h.l c cs h1 h2,Option.map_some,fW h2],fun l es q hg=>by rw[EP,h.g l es q hg];rfl⟩
def fL(s0:St)(b:Nat):Prop:=∀cs,s0.loc b=some cs→cs.map AV.erase0≠cs
theorem Old.new{s0 s:St}(h:Old s0 s){b:Nat}(hb:s.loc b=none):fL s0 b:=fun cs h1 h2=>by rw[h.l b cs h1 h2] at hb;cases hb
theorem Old.put{s0 s s':St}(h:Old s0 s)(he:s'.env 1000000=s.env 1000000){b:Nat}(hb:fL s0 b)(hl:∀c,c≠b→s'.loc c=s.loc c):Old s0 s':=⟨fun c cs h1 h2=>by rw[hl c (by rintro rfl;exact hb cs h1 h2)];exact h.l c cs h1 h2,fun l es q hg=>by rw[he];exact h.g l es q hg⟩
theorem ow.old{s0 s:St}{v:AV}{order:List Int}(h:ow s0 v order)(ho:Old s0 s):ow s v order:=by
 rcases h with h|⟨d,cap,cs,h1,h2,h3⟩
 ·exact .inl h
 ·exact .inr ⟨d,cap,cs,h1,ho.l d cs h2 h3.2.2.2.2.2,h3⟩
theorem ow.view{s:St}{v:AV}{order:List Int}(h:ow s v order):nS s.loc v=some (IL order):=by
 rcases h with rfl|⟨d,cap,cs,rfl,h2,h3,h4,h5,h6,h7,h8⟩
 ·rfl
 ·show(match s.loc d with|some cs=>_|none=>_)=_
  rw[h2]
  have h3':IL order=.slice 1 (chunk 1 cs order.length) 0:=h3
  simp only[Nat.zero_add,h4,h6,h7,decide_true,Bool.and_self,if_true,List.drop_zero]
  rw[←h3']
theorem ow.views{s:St}{v:AV}{order:List Int}{c:Case}(h:ow s v order):jv s.loc ([aZ c]++[v.erase]++[])=some [aZ c,IL order]:=by
 have e:v.erase=v:=by rcases h with rfl|⟨d,cap,cs,rfl,_⟩<;>rfl
 rw[e]
 show(match nS s.loc (aZ c),(match nS s.loc v,some [] with|some y,some ys=>some (y::ys)|_,_=>none) with|some y,some ys=>some (y::ys)|_,_=>none)=_
 rw[h.view]
 rfl
def HS(s0:St)(b4 b8:Nat)(u:Int)(l:List aY)(loc:Nat→Option (List AV)):Prop:=(l=[]∧loc b4=some [.lit (.slice none 0 0),I u])∨∃hb cap cs,l≠[]∧loc b4=some [.aP hb 0 l.length cap 3,I u]∧loc hb=some cs∧Zx cs l cap∧hb≠b4∧hb≠b8∧fL s0 hb
structure SJ (c:Case) (s0:St) (v:AV) (order:List Int) (b4 b8 i:Nat) (Y:Nat→Int) (u:Int) (l:List aY) (s:St):Prop where
 e:s.env 0=aZ c∧s.env 1=v∧s.env 4=.Yq b4 0∧s.env 8=.Yq b8 0∧s.env 43=v∧s.env 44=I order.length∧s.env 45=I i
 l8:s.loc b8=some (cl 9 Y)
 hs:HS s0 b4 b8 u l s.loc
 old:Old s0 s
theorem HS.ext{s0:St}{b4 b8:Nat}{u:Int}{l:List aY}{loc loc':Nat→Option (List AV)}(h:HS s0 b4 b8 u l loc)(hl:∀c,loc c≠none→loc' c=loc c):HS s0 b4 b8 u l loc':=by
 rcases h with ⟨h1,h2⟩|⟨hb,cap,cs,h1,h2,h3,h4⟩
 ·exact .inl ⟨h1,by rw[hl b4 (by rw[h2];simp)];exact h2⟩
 ·exact .inr ⟨hb,cap,cs,h1,by rw[hl b4 (by rw[h2];simp)];exact h2,by rw[hl hb (by rw[h3];simp)];exact h3,h4⟩
theorem SJ.ext{c:Case}{s0:St}{v:AV}{order:List Int}{b4 b8 i:Nat}{Y:Nat→Int}{u:Int}{l:List aY}{s s':St}(h:SJ c s0 v order b4 b8 i Y u l s)(he:∀k∈[0,1,4,8,43,44,45,1000000],s'.env k=s.env k)(hl:∀c,s.loc c≠none→s'.loc c=s.loc c):SJ c s0 v order b4 b8 i Y u l s':=by
 simp only[List.mem_cons,List.not_mem_nil,or_false,forall_eq_or_imp,forall_eq] at he
 obtain⟨a0,a1,a4,a8,Bw,Bx,By,ag⟩:=he
 obtain⟨e0,e1,e4,e8,dU,gx,fM⟩:=h.e
 exact⟨⟨a0.trans e0,a1.trans e1,a4.trans e4,a8.trans e8,Bw.trans dU,Bx.trans gx,By.trans fM⟩,by rw[hl b8 (by rw[h.l8];simp)];exact h.l8,h.hs.ext hl,h.old.ext ag hl⟩
theorem HS.put{s0:St}{b4 b8:Nat}{u:Int}{l:List aY}{loc loc':Nat→Option (List AV)}(h:HS s0 b4 b8 u l loc)(hl:∀c,c≠b8→loc' c=loc c)(h48:b8≠b4):HS s0 b4 b8 u l loc':=by
 rcases h with ⟨h1,h2⟩|⟨hb,cap,cs,h1,h2,h3,h4,h5,h6,h7⟩
 ·exact .inl ⟨h1,by rw[hl b4 (fun e=>h48 e.symm)];exact h2⟩
 ·exact .inr ⟨hb,cap,cs,h1,by rw[hl b4 (fun e=>h48 e.symm)];exact h2,by rw[hl hb h6];exact h3,h4,h5,h6,h7⟩
theorem SJ.years{c:Case}{s0:St}{v:AV}{order:List Int}{b4 b8 i:Nat}{Y Y':Nat→Int}{u:Int}{l:List aY}{s s':St}(h:SJ c s0 v order b4 b8 i Y u l s)(h48:b8≠b4)(n8:fL s0 b8)(he:∀k∈[0,1,4,8,43,44,45,1000000],s'.env k=s.env k)(hl:∀c,c≠b8→s'.loc c=s.loc c)(h8:s'.loc b8=some (cl 9 Y')):SJ c s0 v order b4 b8 i Y' u l s':=by
 simp only[List.mem_cons,List.not_mem_nil,or_false,forall_eq_or_imp,forall_eq] at he
 obtain⟨a0,a1,a4,a8,Bw,Bx,By,ag⟩:=he
 obtain⟨e0,e1,e4,e8,dU,gx,fM⟩:=h.e
 exact⟨⟨a0.trans e0,a1.trans e1,a4.trans e4,a8.trans e8,Bw.trans dU,Bx.trans gx,By.trans fM⟩,h8,h.hs.put hl h48,h.old.put ag n8 hl⟩
theorem wm{s0 s:St}{K:AV→St→Prop}{kn:St→Prop}{ke:Nat→St→Prop}{b4 b8:Nat}{u:Int}{l:List aY}{q:Bool}{a:Nat}(ha:a≠4∧a≠5∧a<1000000)(e4:s.env 4=.Yq b4 0)(hs:HS s0 b4 b8 u l s.loc)(hO:Old s0 s)(n4:fL s0 b4)(hl:l.length≤1000)
  (hK:∀s2,Old s0 s2→K (.tuple [.agg [HL l,I u],B q]) (back s0 s2)):
  bz Tryz.prog (.seq (.af [.load a (.t 4) (some 2),.store (.t 4) (.t a) 2 0,.Yo 5 (.c (.lit (.bool q))),.Yu 4]) .ret) kn ke (fun s2=>dj s2 vM fun r=>K r (back s0 s2)) s:=by
 obtain⟨a1,a2,a3⟩:=ha
 have wo:¬4=a:=fun e=>a1 e.symm
 have XQ:¬5=a:=fun e=>a2 e.symm
 have a4:¬1000000=a:=by omega
 rcases hs with ⟨rfl,l4⟩|⟨hb,cap,cs,hne,l4,lh,dz,h4,h8,hn⟩
 ·simp -implicitDefEqProofs [e4,l4,wo]
  refine .inl ⟨3,0,rfl,?_⟩
  simp -implicitDefEqProofs [dj,vM,wo,e4]
  refine hK _ ?_
  exact(hO.aK 5000).put (by simp[a4]) n4 (fun c hc=>by simp[hc])
 ·have hle:=dz.le
  have hlen:=dz.len
  simp -implicitDefEqProofs [e4,l4,wo]
  refine vH 0 hb l.length cap 3 rfl h4 (by simp[h4];exact lh) (by omega) (Bt dz.num) (by omega) ?_
  rw[ID l cs dz.cells]
  have l_:¬b4=hb:=fun e=>h4 e.symm
  simp -implicitDefEqProofs [dj,vM,wo,e4,aq,l_]
  refine hK _ ⟨fun c cs' h1 h2=> ?_,fun l' es q' hg=> ?_⟩
  ·have c4:¬c=b4:=by rintro rfl;exact n4 cs' h1 h2
   have ch:¬c=hb:=by rintro rfl;exact hn cs' h1 h2
   simp[aq,c4,ch,hO.l c cs' h1 h2]
  ·simp[a4,hO.g l' es q' hg]
theorem Bz{c:Case}{order:List Int}:∀(i:Nat) (x:pR),fX c order i=some x→x.raw.length=i
 |0,x,h=>by injection h with h;rw[←h];rfl
 |i+1,x,h=>by
  have h:(fX c order i).bind (jG c (order.getD i 0).toNat)=some x:=h
  rw[Option.bind_eq_some_iff] at h
  obtain⟨y,hy,h⟩:=h
  have ih:=Bz i y hy
  unfold jG at h
  rw[Option.bind_eq_some_iff] at h
  obtain⟨z,-,h⟩:=h
  split at h
  ·cases h
  ·injection h with h;rw[←h];simp[ih]
@[simp] theorem XR (r b off len cap sz:Nat):aG r (.aP b off len cap sz)=.aP b off len cap sz:=rfl
def ru(c:Case):List AV:=[.func (.func 82) [aZ c] [],.func (.func 83) [aZ c] [],.func (.func 84) [aZ c] []]
theorem BA(c:Case):(ru c).length=3:=rfl
theorem IG{c:Case}(h:c.OK){order:List Int}(ho:∀x∈order,0≤x∧x<c.an.length)(eC:order.length≤100){s0:St}{v:AV}(hv:ow s0 v order){K:AV→St→Prop}
  (hY:∀s2 l,cX c order=some l→Old s0 s2→K (.tuple [.agg [HL (Yy l),I (dH c l)],B true]) (back s0 s2))
  (hN:∀s2 l u,cX c order=none→Old s0 s2→K (.tuple [.agg [HL l,I u],B false]) (back s0 s2)):
  YZ Tryz.prog 52 [aZ c,v] s0 K:=by
 refine ic t52 (by simp) fun _=> ?_
 have SG:v.erase=v:=by rcases hv with rfl|⟨d,cap,cs,rfl,_⟩<;>rfl
 have pT:∀r,aG r v=v:=by
  intro r
  rcases hv with rfl|⟨d,cap,cs,rfl,_⟩
  ·simp
  ·rfl
 have c1:=Sr c order h
 have c2:=Sv c order h eC
 have c3:=Sw c order h
 simp -implicitDefEqProofs only[FF]
 refine au (fun st=>st.env 0=aZ c∧st.env 1=v∧Old s0 st∧∃b4,st.env 4=.Yq b4 0∧st.loc b4=some [.lit (.slice none 0 0),I 0]∧fL s0 b4) ?_ ?_
 ·intro k hk
  simp -implicitDefEqProofs
  intro b hb
  have hO:Old s0 s0:=⟨fun _ _ h _=>h,fun _ _ _ h=>h⟩
  refine hk _ ⟨by simp,by simp[SG],hO.ext (by simp) (fun c hc=> ?_),b,by simp,by simp,hO.new hb⟩
  have:¬c=b:=by rintro rfl;exact hc hb
  simp[this]
 rintro s ⟨e0,e1,hO,b4,e4,l4,n4⟩
 have XS:∀(s:St),cX c order=none→Old s0 s→s.env 4=.Yq b4 0→s.loc b4=some [.lit (.slice none 0 0),I 0]→True:=fun _ _ _ _ _=>trivial
 refine au (fun st=>st.env 0=aZ c∧st.env 1=v∧Old s0 st∧st.env 4=.Yq b4 0∧st.loc b4=some [.lit (.slice none 0 0),I 0]∧fY c order=true) ?_ ?_
 ·intro k0 aX
  simp -implicitDefEqProofs [e0]
  refine bw 3 (fun k st=>st.env 0=aZ c∧st.env 1=v∧Old s0 st∧st.env 4=.Yq b4 0∧st.loc b4=some [.lit (.slice none 0 0),I 0]∧st.env 26=.slice 1 (ru c) 27∧st.env 27=I 3∧st.env 28=I k∧(0<k→iA c order=true)∧(1<k→ZC c order=true)∧(2<k→Ze c order=true)) ?_ ?_
  ·refine⟨by simp[e0],by simp[e1,pT],(hO.aK 27).ext (by simp) (by simp),by simp[e4],by simp[l4],by simp[ru],by simp,by simp,by omega,by omega,by omega⟩
  rintro k s hk ⟨e0,e1,hO,e4,l4,k7,k8,dg,r1,r2,r3⟩
  simp -implicitDefEqProofs [k8,dg]
  refine bu (fun hlt=> ?_) (fun hge=> ?_)
  ·have SH:∃f q,aA Tryz.prog f [aZ c,IL order] (B q)∧(q=false→cX c order=none)∧(q=true→(0<k+1→iA c order=true)∧(1<k+1→ZC c order=true)∧(2<k+1→Ze c order=true))∧∃hk:k<(ru c).length,(ru c)[k]=.func (.func f) [aZ c] []:=by
    have jy:k<3:=by omega
    match k,jy,r1,r2 with
    |0,_,_,_=>exact⟨82,_,c1,fun e=>by simp[cX,fY,e],fun e=>⟨fun _=>e,by omega,by omega⟩,by rw[BA];omega,rfl⟩
    |1,_,r1,_=>exact⟨83,_,c2,fun e=>by simp[cX,fY,e],fun e=>⟨fun _=>r1 (by omega),fun _=>e,by omega⟩,by rw[BA];omega,rfl⟩
    |2,_,r1,r2=>exact⟨84,_,c3,fun e=>by simp[cX,fY,e],fun e=>⟨fun _=>r1 (by omega),fun _=>r2 (by omega),fun _=>e⟩,by rw[BA];omega,rfl⟩
   obtain⟨f,q,hc,SI,hqt,jy,fo⟩:=SH
   refine kj ?_
   refine au (fun st=>st.env 0=aZ c∧st.env 1=v∧Old s0 st∧st.env 4=.Yq b4 0∧st.loc b4=some [.lit (.slice none 0 0),I 0]∧st.env 26=.slice 1 (ru c) 27∧st.env 27=I 3∧st.env 28=I k∧st.env 7=.func (.func f) [aZ c] []) ?_ ?_
   ·intro k1 aF
    simp -implicitDefEqProofs [k7,dg,jy,fo]
    exact aF _ ⟨by simp[e0],by simp[e1],hO.ext (by simp) (by simp),by simp[e4],by simp[l4],by simp[k7],by simp[k8],by simp[dg],by simp⟩
   rintro s ⟨e0,e1,hO,e4,l4,k7,k8,dg,e7⟩
   simp -implicitDefEqProofs [e1,e7]
   refine Rl (by rw[show∀st:St,st.loc=st.loc from fun _=>rfl];exact((hv.old hO).views)) rfl hc ?_
   simp -implicitDefEqProofs
   refine e_ (fun he=> ?_) (fun he=> ?_)
   ·refine wm (by omega) (by simp[e4]) (b8:=b4) (u:=0) (l:=[]) (.inl ⟨rfl,by simp[l4]⟩) (hO.ext (by simp) (by simp)) n4 (by simp) fun s2 h2=> ?_
    exact hN _ _ _ (SI (by simpa using he)) h2
   ·have hq:=hqt (by simpa using he)
    simp -implicitDefEqProofs [dg]
    refine⟨i64 (by omega) (by omega),aN (by omega) ⟨by simp[e0],by simp[e1],hO.ext (by simp) (by simp),by simp[e4],by simp[l4],by simp[k7],by simp[k8],by simp,hq⟩⟩
  ·obtain rfl:k=3:=by omega
   have hR:fY c order=true:=by simp[fY,r1,r2,r3]
   simp -implicitDefEqProofs
   exact aX _ ⟨by simp[e0],by simp[e1],hO.ext (by simp) (by simp),by simp[e4],by simp[l4],hR⟩
 rintro s ⟨e0,e1,hO,e4,l4,hR⟩
 refine au (fun st=>st.env 0=aZ c∧st.env 1=v∧Old s0 st∧st.env 4=.Yq b4 0∧st.loc b4=some [.lit (.slice none 0 0),I 0]∧∃b8,st.env 8=.Yq b8 0∧st.loc b8=some (cl 9 fun _=>0)∧b8≠b4∧fL s0 b8) ?_ ?_
 ·intro k hk
  simp -implicitDefEqProofs
  intro b hb
  have II:¬b4=b:=by rintro rfl;rw[l4] at hb;cases hb
  have pU:¬b=b4:=fun e=>II e.symm
  refine hk _ ⟨by simp[e0],by simp[e1],hO.ext (by simp) (fun c hc=> ?_),by simp[e4],by simp[l4,II],b,by simp,by simp[cl,List.range_succ],pU,hO.new hb⟩
  have:¬c=b:=by rintro rfl;exact hc hb
  simp[this]
 rintro s ⟨e0,e1,hO,e4,l4,b8,e8,l8,pV,n8⟩
 refine au (fun st=>st.env 0=aZ c∧st.env 1=v∧Old s0 st∧st.env 4=.Yq b4 0∧st.loc b4=some [.lit (.slice none 0 0),I 0]∧st.env 8=.Yq b8 0∧st.loc b8=some (cl 9 fun _=>0)∧st.env 9=I c.printed) ?_ ?_
 ·intro k hk
  simp -implicitDefEqProofs [e0]
  exact hk _ ⟨by simp[e0],by simp[e1],hO.ext (by simp) (by simp),by simp[e4],by simp[l4],by simp[e8],by simp[l8],by simp⟩
 rintro s ⟨e0,e1,hO,e4,l4,e8,l8,e9⟩
 refine au (fun st=>∃x,fX c order order.length=some x∧SJ c s0 v order b4 b8 order.length x.years (cQ c.printed x.raw) (Yy x.raw) st) ?_ ?_
 ·intro k0 aX
  refine au (fun st=>SJ c s0 v order b4 b8 0 (fun _=>0) 0 [] st∧st.env 9=I c.printed) ?_ ?_
  ·intro k1 aF
   rcases hv with rfl|⟨d,cap,cs,rfl,hd,hlo⟩
   ·simp -implicitDefEqProofs [e1]
    exact aF _ ⟨⟨⟨by simp[e0],by simp[e1],by simp[e4],by simp[e8],by simp,by simp,by simp⟩,by simp[l8],.inl ⟨rfl,by simp[l4]⟩,hO.ext (by simp) (by simp)⟩,by simp[e9]⟩
   ·simp -implicitDefEqProofs [e1]
    exact aF _ ⟨⟨⟨by simp[e0],by simp[e1],by simp[e4],by simp[e8],by simp,by simp,by simp⟩,by simp[l8],.inl ⟨rfl,by simp[l4]⟩,hO.ext (by simp) (by simp)⟩,by simp[e9]⟩
  rintro s ⟨hJ,e9⟩
  simp -implicitDefEqProofs
  refine bw order.length (fun i st=>∃x,fX c order i=some x∧SJ c s0 v order b4 b8 i x.years (cQ c.printed x.raw) (Yy x.raw) st∧st.env 9=I x.since) ?_ ?_
  ·exact⟨_,rfl,hJ,e9⟩
  rintro i s hi ⟨x,hx,hJ,e9⟩
  obtain⟨e0,e1,e4,e8,dU,gx,fM⟩:=hJ.e
  simp -implicitDefEqProofs [gx,fM]
  refine bu (fun hlt=> ?_) (fun hge=> ?_)
  ·have hlt:i<order.length:=by omega
   have XT:=ho _ (List.getElem_mem hlt)
   obtain⟨o,eP⟩:∃o:Nat,order[i]=o:=⟨order[i].toNat,by omega⟩
   have iZ:o<c.an.length:=by omega
   have hstep:fX c order (i+1)=jG c o x:=by
    show(fX c order i).bind _=_
    rw[hx,Option.bind_some]
    congr 1
    rw[List.getD_eq_getElem?_getD,List.getElem?_eq_getElem hlt,Option.getD_some,eP,Int.toNat_natCast]
   have hrl:x.raw.length=i:=Bz _ _ hx
   have IJ:jG c o x=none→cX c order=none:=fun e=>SA (i:=i+1) (by omega) (hstep.trans e)
   have pP:=h.oh
   have hin:=SC h o
   refine kj ?_
   refine au (fun st=>SJ c s0 v order b4 b8 i x.years (cQ c.printed x.raw) (Yy x.raw) st∧st.env 9=I x.since∧st.env 11=I o) ?_ ?_
   ·intro k1 aF
    rcases hv.old hJ.old with BB|⟨d,cap,cs,BB,hd,hlo⟩
    ·rw[BB] at dU
     simp -implicitDefEqProofs [dU,fM,hlt,eP]
     exact aF _ ⟨hJ.ext (by simp) (by simp),by simp[e9],by simp⟩
    ·rw[BB] at dU
     obtain⟨_,_,hcs,_,fo⟩:=H8 rfl hlo
     have j0:i<cs.length:=by omega
     have yQ:cs[i]=I o:=by
      have:=fo i hlt
      rw[List.getD_eq_getElem?_getD,List.getElem?_eq_getElem j0,Option.getD_some,eP] at this
      exact this
     simp -implicitDefEqProofs [dU,fM,hlt,hd,j0,yQ]
     exact aF _ ⟨hJ.ext (by simp) (by simp),by simp[e9],by simp⟩
   rintro s ⟨hJ,e9,aV⟩
   refine au (fun st=>SJ c s0 v order b4 b8 i x.years (cQ c.printed x.raw) (Yy x.raw) st∧st.env 9=I x.since∧st.env 11=I o∧st.env 12=.ref [I (cc c c.ak o),I (YU c c.ak o),I (YQ c c.ak o),I (Yx c c.ak o)]) ?_ ?_
   ·intro k1 aF
    obtain⟨e0,-⟩:=hJ.e
    simp -implicitDefEqProofs [e0,aV]
    refine Sk iZ ?_
    simp -implicitDefEqProofs
    intro b hb
    refine aF _ ⟨hJ.ext (by simp) (fun c hc=> ?_),by simp[e9],by simp[aV],by simp⟩
    have:¬c=b:=by rintro rfl;exact hc hb
    simp[this]
   rintro s ⟨hJ,e9,aV,aQ⟩
   obtain⟨bl,Z_⟩:∃n,n=cc c c.ak o:=⟨_,rfl⟩
   obtain⟨bh,IK⟩:∃n,n=YU c c.ak o:=⟨_,rfl⟩
   obtain⟨gl,nk⟩:∃n,n=YQ c c.ak o:=⟨_,rfl⟩
   obtain⟨gh,ZM⟩:∃n,n=Yx c c.ak o:=⟨_,rfl⟩
   rw[←Z_,←IK,←nk,←ZM] at aQ
   obtain⟨f,hf⟩:∃f,f=max x.since bl:=⟨_,rfl⟩
   have abw:jG c o x=(gN c o f x.years (max f gl) c.marks.length).bind fun y=>if bh<f∨gh<y.2 then none else some ⟨y.1,y.2,x.raw++[⟨o,f,gh⟩]⟩:=by rw[hf,Z_,IK,nk,ZM];rfl
   refine au (fun st=>SJ c s0 v order b4 b8 i x.years (cQ c.printed x.raw) (Yy x.raw) st∧st.env 11=I o∧st.env 12=.ref [I bl,I bh,I gl,I gh]∧st.env 13=I f) ?_ ?_
   ·intro k1 aF
    have m1:(if x.since<bl then bl else x.since)=f:=by rw[hf];split<;>omega
    simp -implicitDefEqProofs [e9,aQ,m1]
    exact aF _ ⟨hJ.ext (by simp) (by simp),by simp[aV],by simp[aQ],by simp⟩
   rintro s ⟨hJ,aV,aQ,aR⟩
   refine au (fun st=>SJ c s0 v order b4 b8 i x.years (cQ c.printed x.raw) (Yy x.raw) st∧st.env 11=I o∧st.env 12=.ref [I bl,I bh,I gl,I gh]∧st.env 13=I f∧st.env 14=I (max f gl)) ?_ ?_
   ·intro k1 aF
    have m1:(if f<gl then gl else f)=max f gl:=by split<;>omega
    simp -implicitDefEqProofs [aR,aQ,m1]
    exact aF _ ⟨hJ.ext (by simp) (by simp),by simp[aV],by simp[aQ],by simp[aR],by simp⟩
   rintro s ⟨hJ,aV,aQ,aR,bf⟩
   refine au (fun st=>∃Yk tk,gN c o f x.years (max f gl) c.marks.length=some (Yk,tk)∧SJ c s0 v order b4 b8 i Yk (cQ c.printed x.raw) (Yy x.raw) st∧st.env 11=I o∧st.env 12=.ref [I bl,I bh,I gl,I gh]∧st.env 13=I f∧st.env 14=I tk) ?_ ?_
   ·intro k1 aF
    obtain⟨e0,-⟩:=hJ.e
    simp -implicitDefEqProofs [e0]
    refine bw c.marks.length (fun k st=>∃Yk tk,gN c o f x.years (max f gl) k=some (Yk,tk)∧SJ c s0 v order b4 b8 i Yk (cQ c.printed x.raw) (Yy x.raw) st∧st.env 11=I o∧st.env 12=.ref [I bl,I bh,I gl,I gh]∧st.env 13=I f∧st.env 14=I tk∧st.env 69=.slice 4 (c.marks.map cT) 0∧st.env 70=I c.marks.length∧st.env 71=I k) ?_ ?_
    ·exact⟨_,_,rfl,hJ.ext (by simp) (by simp),by simp[aV],by simp[aQ],by simp[aR],by simp[bf],by simp,by simp,by simp⟩
    rintro k s hk ⟨Yk,tk,hy,hJ,aV,aQ,aR,bf,ja,jb,iD⟩
    simp -implicitDefEqProofs [jb,iD]
    refine bu (fun YH=> ?_) (fun abO=> ?_)
    ·have YH:k<c.marks.length:=by omega
     have hgd:=eF YH
     have hup:=h.upon k YH
     have iE:gN c o f x.years (max f gl) (k+1)=l9 c o f k (Yk,tk):=by
      show(gN c o f x.years (max f gl) k).bind _=_
      rw[hy,Option.bind_some]
     have hno:l9 c o f k (Yk,tk)=none→cX c order=none:=fun e=>IJ (by
      have:=IB (iE.trans e) (c.marks.length - (k+1))
      rw[show k+1+(c.marks.length - (k+1))=c.marks.length by omega] at this
      rw[abw,this];rfl)
     unfold l9 rq at iE hno
     rw[hgd] at iE hno
     generalize hm:c.marks[k]=m at*
     refine kj ?_
     refine au (fun st=>SJ c s0 v order b4 b8 i Yk (cQ c.printed x.raw) (Yy x.raw) st∧st.env 11=I o∧st.env 12=.ref [I bl,I bh,I gl,I gh]∧st.env 13=I f∧st.env 14=I tk∧st.env 69=.slice 4 (c.marks.map cT) 0∧st.env 70=I c.marks.length∧st.env 71=I k∧st.env 15=I k∧st.env 16=.ref [I m.owner,I m.lo,I m.hi,I m.upon]) ?_ ?_
     ·intro k2 hk2
      simp -implicitDefEqProofs [ja,iD,YH]
      rw[hm]
      intro b hb
      refine hk2 _ ⟨hJ.ext (by simp) (fun c hc=> ?_),by simp[aV],by simp[aQ],by simp[aR],by simp[bf],by simp[ja],by simp[jb],by simp[iD],by simp,by simp⟩
      have:¬c=b:=by rintro rfl;exact hc hb
      simp[this]
     rintro s ⟨hJ,aV,aQ,aR,bf,ja,jb,iD,Yv,cJ⟩
     by_cases hmo:m.owner≠(o:Int)
     ·rw[if_pos hmo] at iE
      have BC:(m.owner != (o:Int))=true:=by simp[hmo]
      simp -implicitDefEqProofs [aV,cJ,BC,iD]
      refine⟨i64 (by omega) (by omega),aN YH ⟨Yk,tk,iE,hJ.ext (by simp) (by simp),by simp[aV],by simp[aQ],by simp[aR],by simp[bf],by simp[ja],by simp[jb],by simp⟩⟩
     rw[if_neg hmo] at iE hno
     have BC:(m.owner != (o:Int))=false:=by simpa using hmo
     refine au (fun st=>SJ c s0 v order b4 b8 i Yk (cQ c.printed x.raw) (Yy x.raw) st∧st.env 11=I o∧st.env 12=.ref [I bl,I bh,I gl,I gh]∧st.env 13=I f∧st.env 14=I tk∧st.env 69=.slice 4 (c.marks.map cT) 0∧st.env 70=I c.marks.length∧st.env 71=I k∧st.env 15=I k∧st.env 16=.ref [I m.owner,I m.lo,I m.hi,I m.upon]) ?_ ?_
     ·intro k2 hk2
      simp -implicitDefEqProofs [aV,cJ,BC]
      exact hk2 _ ⟨hJ.ext (by simp) (by simp),by simp[aV],by simp[aQ],by simp[aR],by simp[bf],by simp[ja],by simp[jb],by simp[iD],by simp[Yv],by simp[cJ]⟩
     rintro s ⟨hJ,aV,aQ,aR,bf,ja,jb,iD,Yv,cJ⟩
     have BD:k<9:=by omega
     refine au (fun st=>SJ c s0 v order b4 b8 i (eA Yk k (max m.lo f)) (cQ c.printed x.raw) (Yy x.raw) st∧st.env 11=I o∧st.env 12=.ref [I bl,I bh,I gl,I gh]∧st.env 13=I f∧st.env 14=I tk∧st.env 69=.slice 4 (c.marks.map cT) 0∧st.env 70=I c.marks.length∧st.env 71=I k∧st.env 15=I k∧st.env 16=.ref [I m.owner,I m.lo,I m.hi,I m.upon]) ?_ ?_
     ·intro k2 hk2
      obtain⟨-,-,-,e8,-⟩:=hJ.e
      have l8:=hJ.l8
      have m1:(if m.lo<f then f else m.lo)=max m.lo f:=by split<;>omega
      simp -implicitDefEqProofs [e8,aR,Yv,cJ,l8,iC,m1,tJ]
      refine⟨by omega,by omega,?_⟩
      exact hk2 _ ⟨hJ.years pV n8 (by simp) (fun c hc=>by simp[hc]) (by simp;rfl),by simp[aV],by simp[aQ],by simp[aR],by simp[bf],by simp[ja],by simp[jb],by simp[iD],by simp[Yv],by simp[cJ]⟩
     rintro s ⟨hJ,aV,aQ,aR,bf,ja,jb,iD,Yv,cJ⟩
     obtain⟨z,hz⟩:∃z,z=if m.upon= -1 then max m.lo f else max (max m.lo f) (Yk m.upon.toNat):=⟨_,rfl⟩
     rw[←hz] at iE hno
     refine au (fun st=>SJ c s0 v order b4 b8 i (eA Yk k z) (cQ c.printed x.raw) (Yy x.raw) st∧st.env 11=I o∧st.env 12=.ref [I bl,I bh,I gl,I gh]∧st.env 13=I f∧st.env 14=I tk∧st.env 69=.slice 4 (c.marks.map cT) 0∧st.env 70=I c.marks.length∧st.env 71=I k∧st.env 15=I k∧st.env 16=.ref [I m.owner,I m.lo,I m.hi,I m.upon]) ?_ ?_
     ·intro k2 hk2
      obtain⟨-,-,-,e8,-⟩:=hJ.e
      have l8:=hJ.l8
      by_cases h0:m.upon= -1
      ·rw[if_pos h0] at hz
       rw[←hz] at hJ
       have eE:(m.upon != -1)=false:=by simp[h0]
       simp -implicitDefEqProofs [cJ,eE]
       exact hk2 _ ⟨hJ.ext (by simp) (by simp),by simp[aV],by simp[aQ],by simp[aR],by simp[bf],by simp[ja],by simp[jb],by simp[iD],by simp[Yv],by simp[cJ]⟩
      ·rw[if_neg h0] at hz
       have eE:(m.upon != -1)=true:=by simp[h0]
       obtain⟨n,hn⟩:∃n:Nat,m.upon=n:=⟨m.upon.toNat,by omega⟩
       have hnk:n<k:=by omega
       have SK:n<9:=by omega
       have abQ:¬n=k:=by omega
       rw[hn,Int.toNat_natCast] at hz
       have m1:(if max m.lo f<Yk n then Yk n else max m.lo f)=z:=by rw[hz];split<;>omega
       have m2:eA Yk k (max m.lo f) k=max m.lo f:=by simp[eA]
       have m3:eA Yk k (max m.lo f) n=Yk n:=by simp[eA,abQ]
       have m4:(fun j=>if j=k then z else eA Yk k (max m.lo f) j)=eA Yk k z:=by
        funext j
        by_cases e:j=k<;>simp[eA,e]
       rw[hn] at eE
       simp -implicitDefEqProofs [e8,Yv,cJ,hn,eE,l8,BD,SK,iC,pQ,m1,m2,m3,tJ,nR,m4]
       repeat refine⟨by omega,?_⟩
       exact hk2 _ ⟨hJ.years pV n8 (by simp) (fun c hc=>by simp[hc]) (by simp),by simp[aV],by simp[aQ],by simp[aR],by simp[bf],by simp[ja],by simp[jb],by simp[iD],by simp[Yv],by simp[cJ,hn]⟩
     rintro s ⟨hJ,aV,aQ,aR,bf,ja,jb,iD,Yv,cJ⟩
     have mz:eA Yk k z k=z:=by simp[eA]
     refine au (fun st=>SJ c s0 v order b4 b8 i (eA Yk k z) (cQ c.printed x.raw) (Yy x.raw) st∧st.env 11=I o∧st.env 12=.ref [I bl,I bh,I gl,I gh]∧st.env 13=I f∧st.env 14=I tk∧st.env 69=.slice 4 (c.marks.map cT) 0∧st.env 70=I c.marks.length∧st.env 71=I k∧st.env 15=I k∧¬m.hi<z) ?_ ?_
     ·intro k2 hk2
      obtain⟨-,-,e4,e8,-⟩:=hJ.e
      have l8:=hJ.l8
      simp -implicitDefEqProofs [e8,Yv,cJ,l8,BD,iC,pQ,mz]
      refine⟨by omega,?_⟩
      refine bu (fun hb=> ?_) (fun hb=> ?_)
      ·refine wm (by omega) (by simp[e4]) (b8:=b8) (u:=cQ c.printed x.raw) (l:=Yy x.raw) (hJ.hs.ext (by simp)) (hJ.old.ext (by simp) (by simp)) n4 (by rw[tM];omega) fun s2 h2=> ?_
       exact hN _ _ _ (hno (by rw[if_pos hb])) h2
      ·simp -implicitDefEqProofs
       exact hk2 _ ⟨hJ.ext (by simp) (by simp),by simp[aV],by simp[aQ],by simp[aR],by simp[bf],by simp[ja],by simp[jb],by simp[iD],by simp[Yv],hb⟩
     rintro s ⟨hJ,aV,aQ,aR,bf,ja,jb,iD,Yv,oT⟩
     rw[if_neg oT] at iE
     obtain⟨-,-,e4,e8,-⟩:=hJ.e
     have l8:=hJ.l8
     have m1:(if tk<z then z else tk)=max tk z:=by split<;>omega
     simp -implicitDefEqProofs [e8,bf,Yv,l8,BD,iC,pQ,mz,m1,iD]
     refine⟨by omega,i64 (by omega) (by omega),aN YH ⟨_,_,iE,hJ.ext (by simp) (by simp),by simp[aV],by simp[aQ],by simp[aR],by simp,by simp[ja],by simp[jb],by simp⟩⟩
    ·obtain rfl:k=c.marks.length:=by omega
     simp -implicitDefEqProofs
     exact aF _ ⟨Yk,tk,hy,hJ.ext (by simp) (by simp),by simp[aV],by simp[aQ],by simp[aR],by simp[bf]⟩
   rintro s ⟨Yk,tk,hy,hJ,aV,aQ,aR,bf⟩
   have wq:jG c o x=if bh<f∨gh<tk then none else some ⟨Yk,tk,x.raw++[⟨o,f,gh⟩]⟩:=by rw[abw,hy,Option.bind_some]
   refine au (fun st=>SJ c s0 v order b4 b8 i Yk (cQ c.printed x.raw) (Yy x.raw) st∧st.env 11=I o∧st.env 12=.ref [I bl,I bh,I gl,I gh]∧st.env 13=I f∧st.env 14=I tk∧¬(bh<f∨gh<tk)) ?_ ?_
   ·intro k1 aF
    have bad:(bh<f∨gh<tk)→cX c order=none:=fun e=>IJ (by rw[wq,if_pos e])
    refine au (fun st=>SJ c s0 v order b4 b8 i Yk (cQ c.printed x.raw) (Yy x.raw) st∧st.env 11=I o∧st.env 12=.ref [I bl,I bh,I gl,I gh]∧st.env 13=I f∧st.env 14=I tk∧st.env 125=B (decide (bh<f∨gh<tk))) ?_ ?_
    ·intro k2 hk2
     by_cases dQ:bh<f
     ·simp -implicitDefEqProofs [aQ,aR,dQ]
      exact hk2 _ ⟨hJ.ext (by simp) (by simp),by simp[aV],by simp[aQ],by simp[aR],by simp[bf],by simp[dQ]⟩
     ·simp -implicitDefEqProofs [aQ,aR,bf,dQ]
      exact hk2 _ ⟨hJ.ext (by simp) (by simp),by simp[aV],by simp[aQ],by simp[aR],by simp[bf],by simp[dQ]⟩
    rintro s ⟨hJ,aV,aQ,aR,bf,SM⟩
    simp -implicitDefEqProofs only[EY,ES,SM]
    refine bu (fun hb=> ?_) (fun hb=> ?_)
    ·obtain⟨-,-,e4,-⟩:=hJ.e
     exact wm (by omega) e4 hJ.hs hJ.old n4 (by rw[tM];omega) fun s2 h2=>hN _ _ _ (bad hb) h2
    ·exact aF _ ⟨hJ,aV,aQ,aR,bf,hb⟩
   rintro s ⟨hJ,aV,aQ,aR,bf,tO⟩
   rw[if_neg tO] at wq
   obtain⟨new,hnew⟩:∃n:aY,n=⟨o,f,gh⟩:=⟨_,rfl⟩
   rw[←hnew] at wq
   have sX:=aaS c.printed x.raw
   have jc:=Bq new c.printed x.raw
   have hnf:new.src=f:=by rw[hnew]
   rw[hnf] at jc
   refine au (fun st=>SJ c s0 v order b4 b8 i Yk (cQ c.printed (x.raw++[new])) (dV x.raw f) st∧st.env 11=I o∧st.env 12=.ref [I bl,I bh,I gl,I gh]∧st.env 13=I f∧st.env 14=I tk) ?_ ?_
   ·intro k1 aF
    obtain⟨e0,e1,e4,e8,dU,gx,fM⟩:=hJ.e
    rcases List.eq_nil_or_concat x.raw with hr|⟨init,a,hr⟩
    ·rw[hr] at hJ jc aF
     have l4:s.loc b4=some [.lit (.slice none 0 0),I 0]:=by
      rcases hJ.hs with ⟨_,l4⟩|⟨hb,cap,cs,hne,_⟩
      ·exact l4
      ·exact absurd rfl hne
     have jc:cQ c.printed ([]++[new])=0+if c.printed<f then 1 else 0:=jc
     simp -implicitDefEqProofs [e4,l4,e0,aR]
     refine bu (fun hc=> ?_) (fun hc=> ?_)
     ·rw[if_pos hc] at jc
      simp -implicitDefEqProofs [e4,l4]
      refine⟨i64 (by omega) (by omega),?_⟩
      refine aF _ ⟨⟨⟨by simp[e0],by simp[e1],by simp[e4],by simp[e8],by simp[dU],by simp[gx],by simp[fM]⟩,by simp[hJ.l8,pV],.inl ⟨rfl,?_⟩,hJ.old.put (by simp) n4 (fun c hc=>by simp[hc])⟩,by simp[aV],by simp[aQ],by simp[aR],by simp[bf]⟩
      rw[jc];simp
     ·rw[if_neg hc] at jc
      simp -implicitDefEqProofs
      refine aF _ ⟨⟨⟨by simp[e0],by simp[e1],by simp[e4],by simp[e8],by simp[dU],by simp[gx],by simp[fM]⟩,by simp[hJ.l8],.inl ⟨rfl,?_⟩,hJ.old.ext (by simp) (by simp)⟩,by simp[aV],by simp[aQ],by simp[aR],by simp[bf]⟩
      rw[jc];simp[l4]
    ·rw[List.concat_eq_append] at hr
     rw[hr] at hJ jc hrl aF
     rw[tL] at hJ
     rw[wj] at jc
     simp only[List.length_append,List.length_cons,List.length_nil] at hrl
     obtain⟨hb,cap,cs,hne,l4,lh,dz,h4,h8,hn⟩:∃hb cap cs,dV init a.src++[a]≠[]∧s.loc b4=some [.aP hb 0 (dV init a.src++[a]).length cap 3,I (cQ c.printed (init++[a]))]∧s.loc hb=some cs∧Zx cs (dV init a.src++[a]) cap∧hb≠b4∧hb≠b8∧fL s0 hb:=by
      rcases hJ.hs with ⟨he,_⟩|h
      ·simp at he
      ·exact h
     have fG:(dV init a.src++[a]).length=i:=by simp[ou];omega
     obtain⟨k9,jH⟩:=IF dz
     have wu:=SF dz (min a.cw f)
     rw[ou] at k9 jH wu
     have SN:dV init a.src++[⟨a.who,a.src,min a.cw f⟩]=dV (init++[a]) f:=(IA a f init).symm
     rw[SN] at wu
     have XU:init.length+1=i:=by omega
     have hge:cs[init.length*3+2]=I a.cw:=by
      rw[List.getElem?_eq_getElem k9] at jH
      exact Option.some.inj jH
     rw[fG] at l4
     have l_:¬b4=hb:=fun e=>h4 e.symm
     have wv:¬b8=hb:=fun e=>h8 e.symm
     have ZL:0<i:=by omega
     have hi1:(i:Int) - 1=(init.length:Nat):=by omega
     have m1:(if f<a.cw then f else a.cw)=min a.cw f:=by split<;>omega
     have iB:(dV (init++[a]) f).length=i:=by rw[ou];simp;omega
     refine au (fun st=>SJ c s0 v order b4 b8 i Yk (cQ c.printed (init++[a])) (dV init a.src++[a]) st∧st.loc b4=some [.aP hb 0 i cap 3,I (cQ c.printed (init++[a]))]∧st.loc hb=some cs∧st.env 11=I o∧st.env 12=.ref [I bl,I bh,I gl,I gh]∧st.env 13=I f∧st.env 14=I tk∧st.env 17=I i) ?_ ?_
     ·intro k2 hk2
      simp -implicitDefEqProofs [e4,l4]
      exact hk2 _ ⟨hJ.ext (by simp) (by simp),by simp[l4],by simp[lh],by simp[aV],by simp[aQ],by simp[aR],by simp[bf],by simp⟩
     rintro s ⟨hJ,l4,lh,aV,aQ,aR,bf,bZ⟩
     obtain⟨e0,e1,e4,e8,dU,gx,fM⟩:=hJ.e
     have yS:=aaS c.printed (init++[a])
     simp only[List.length_append,List.length_cons,List.length_nil] at yS
     simp -implicitDefEqProofs [e4,aR,bZ,l4,lh,ZL,hi1,k9,hge]
     refine⟨i64 (by omega) (by omega),by omega,?_⟩
     refine bu (fun hc=> ?_) (fun hc=> ?_)
     ·rw[if_pos hc] at jc
      simp -implicitDefEqProofs [e4,aR,l4,lh,k9,hge,h4,m1]
      refine⟨i64 (by omega) (by omega),by omega,?_⟩
      refine aF _ ⟨⟨⟨by simp[e0],by simp[e1],by simp[e4],by simp[e8],by simp[dU],by simp[gx],by simp[fM]⟩,by simp[hJ.l8,pV,wv],.inr ⟨hb,cap,_,?_,?_,by simp,wu,h4,h8,hn⟩,?_⟩,by simp[aV],by simp[aQ],by simp[aR],by simp[bf]⟩
      ·intro e;rw[e] at iB;simp at iB;omega
      ·rw[iB,jc];simp[l_]
      ·refine⟨fun c' cs' q1 q2=> ?_,fun l es q hg=>by simp[hJ.old.g l es q hg]⟩
       have c4:¬c'=b4:=by rintro rfl;exact n4 cs' q1 q2
       have ch:¬c'=hb:=by rintro rfl;exact hn cs' q1 q2
       simp[c4,ch,hJ.old.l c' cs' q1 q2]
     ·rw[if_neg hc] at jc
      simp -implicitDefEqProofs [aR,lh,k9,hge,m1]
      refine⟨by omega,?_⟩
      refine aF _ ⟨⟨⟨by simp[e0],by simp[e1],by simp[e4],by simp[e8],by simp[dU],by simp[gx],by simp[fM]⟩,by simp[hJ.l8,wv],.inr ⟨hb,cap,_,?_,?_,by simp,wu,h4,h8,hn⟩,?_⟩,by simp[aV],by simp[aQ],by simp[aR],by simp[bf]⟩
      ·intro e;rw[e] at iB;simp at iB;omega
      ·rw[iB,jc];simp[l_,l4]
      ·refine⟨fun c' cs' q1 q2=> ?_,fun l es q hg=>by simp[hJ.old.g l es q hg]⟩
       have ch:¬c'=hb:=by rintro rfl;exact hn cs' q1 q2
       simp[ch,hJ.old.l c' cs' q1 q2]
   rintro s ⟨hJ,aV,aQ,aR,bf⟩
   have cu:Yy (x.raw++[new])=dV x.raw f++[new]:=by rw[tL,hnf]
   refine au (fun st=>SJ c s0 v order b4 b8 i Yk (cQ c.printed (x.raw++[new])) (Yy (x.raw++[new])) st∧st.env 14=I tk) ?_ ?_
   ·intro k1 aF
    rw[cu] at aF
    obtain⟨e0,e1,e4,e8,dU,gx,fM⟩:=hJ.e
    have l8:=hJ.l8
    have tP:(cl 9 Yk).map (aG 176)=cl 9 Yk:=Bp _ _ _
    have BE:=hJ.old.aK 176
    have IM:∀r:Nat,(AV.lit (Value.int IntKind.i64 ↑o)::AV.lit (Value.int IntKind.i64 f)::AV.lit (Value.int IntKind.i64 gh)::(List.replicate r [AV.lit (Value.int IntKind.i64 0),AV.lit (Value.int IntKind.i64 0),AV.lit (Value.int IntKind.i64 0)]).flatten)=[I new.who,I new.src,I new.cw]++(List.replicate r [I 0,I 0,I 0]).flatten:=fun r=>by rw[hnew];rfl
    rcases hJ.hs with ⟨qI,l4⟩|⟨hb,cap,cs,hne,l4,lh,dz,h4,h8,hn⟩
    ·simp -implicitDefEqProofs [e4,l4,aV,aQ,aR]
     intro b r hb
     have hne:¬b4=b:=by rintro rfl;rw[l4] at hb;cases hb
     have jI:¬b=b4:=fun e=>hne e.symm
     have tQ:¬b8=b:=by rintro rfl;rw[l8] at hb;cases hb
     have BF:¬b=b8:=fun e=>tQ e.symm
     simp -implicitDefEqProofs [hne]
     refine aF _ ⟨⟨⟨by simp[e0],by simp[e1,pT],by simp[e4],by simp[e8],by simp[dU,pT],by simp[gx],by simp[fM]⟩,?_,.inr ⟨b,1+r,[I new.who,I new.src,I new.cw]++(List.replicate r [I 0,I 0,I 0]).flatten,by simp,?_,?_,?_,jI,BF,hJ.old.new hb⟩,?_⟩,by simp[bf]⟩
     ·simp[l8,pV,tQ,tP]
     ·rw[qI];simp
     ·rw[IM];simp[jI]
     ·rw[qI];exact IE new r
     ·refine⟨fun c' cs' q1 q2=> ?_,fun l es q hg=>by simp[hJ.old.g l es q hg]⟩
      have c4:¬c'=b4:=by rintro rfl;exact n4 cs' q1 q2
      have ch:¬c'=b:=by rintro rfl;exact hJ.old.new hb cs' q1 q2
      simp[c4,ch,hJ.old.l c' cs' q1 q2,fW q2]
    ·have l_:¬b4=hb:=fun e=>h4 e.symm
     have wv:¬b8=hb:=fun e=>h8 e.symm
     have hle:=dz.le
     have hlen:=dz.len
     have XV:(dV x.raw f).length=x.raw.length:=ou _ _
     have hdc:cs.map (aG 176)=cs:=fW (ov dz.num) 176
     have hcap:¬cap=0:=by
      intro e
      have:(dV x.raw f).length=0:=by omega
      exact hne (List.length_eq_zero_iff.1 this)
     simp -implicitDefEqProofs [e4,l4,aV,aQ,aR,lh,hcap,hdc]
     refine⟨by omega,by omega,by omega,fun hroom=> ?_,fun hgrow b r eD=> ?_⟩
     ·simp -implicitDefEqProofs [l_]
      refine aF _ ⟨⟨⟨by simp[e0],by simp[e1,pT],by simp[e4],by simp[e8],by simp[dU,pT],by simp[gx],by simp[fM]⟩,?_,.inr ⟨hb,cap,splice cs ((dV x.raw f).length*3) [I new.who,I new.src,I new.cw],by simp,?_,?_,SE dz new hroom,h4,h8,hn⟩,?_⟩,by simp[bf]⟩
      ·simp[l8,pV,wv,tP]
      ·simp
      ·simp[h4,hnew]
      ·refine⟨fun c' cs' q1 q2=> ?_,fun l es q hg=>by simp[hJ.old.g l es q hg]⟩
       have c4:¬c'=b4:=by rintro rfl;exact n4 cs' q1 q2
       have ch:¬c'=hb:=by rintro rfl;exact hn cs' q1 q2
       simp[c4,ch,hJ.old.l c' cs' q1 q2,fW q2]
     ·have mX:¬b4=b:=by rintro rfl;rw[l4] at eD;cases eD
      have jI:¬b=b4:=fun e=>mX e.symm
      have tQ:¬b8=b:=by rintro rfl;rw[l8] at eD;cases eD
      have BF:¬b=b8:=fun e=>tQ e.symm
      simp -implicitDefEqProofs [mX]
      refine aF _ ⟨⟨⟨by simp[e0],by simp[e1,pT],by simp[e4],by simp[e8],by simp[dU,pT],by simp[gx],by simp[fM]⟩,?_,.inr ⟨b,(dV x.raw f).length+1+r,(cs.take ((dV x.raw f).length*3)).map AV.erase0++([I new.who,I new.src,I new.cw]++(List.replicate r [I 0,I 0,I 0]).flatten),by simp,?_,?_,SD dz new r,jI,BF,hJ.old.new eD⟩,?_⟩,by simp[bf]⟩
      ·simp[l8,pV,tQ,tP]
      ·simp
      ·rw[←IM];simp[jI]
      ·refine⟨fun c' cs' q1 q2=> ?_,fun l es q hg=>by simp[hJ.old.g l es q hg]⟩
       have c4:¬c'=b4:=by rintro rfl;exact n4 cs' q1 q2
       have ch:¬c'=b:=by rintro rfl;exact hJ.old.new eD cs' q1 q2
       simp[c4,ch,hJ.old.l c' cs' q1 q2,fW q2]
   rintro s ⟨hJ,bf⟩
   obtain⟨e0,e1,e4,e8,dU,gx,fM⟩:=hJ.e
   simp -implicitDefEqProofs [bf,fM]
   refine⟨i64 (by omega) (by omega),aN hlt ⟨_,hstep.trans wq,⟨⟨by simp[e0],by simp[e1],by simp[e4],by simp[e8],by simp[dU],by simp[gx],by simp⟩,by simp[hJ.l8],by simpa using hJ.hs,hJ.old.ext (by simp) (by simp)⟩,by simp⟩⟩
  ·obtain rfl:i=order.length:=by omega
   simp -implicitDefEqProofs
   exact aX _ ⟨x,hx,hJ.ext (by simp) (by simp)⟩
 rintro s ⟨x,hx,hJ⟩
 have hrl:x.raw.length=order.length:=Bz _ _ hx
 have SO:cX c order=some x.raw:=by unfold cX;rw[if_pos hR,hx];rfl
 have sX:=aaS c.printed x.raw
 refine au (fun st=>st.env 4=.Yq b4 0∧HS s0 b4 b8 (dH c x.raw) (Yy x.raw) st.loc∧Old s0 st) ?_ ?_
 ·intro k1 aF
  obtain⟨e0,e1,e4,e8,dU,gx,fM⟩:=hJ.e
  rcases List.eq_nil_or_concat x.raw with hr|⟨init,a,hr⟩
  ·rw[hr] at hJ aF
   have l4:s.loc b4=some [.lit (.slice none 0 0),I 0]:=by
    rcases hJ.hs with ⟨_,l4⟩|⟨hb,cap,cs,hne,_⟩
    ·exact l4
    ·exact absurd rfl hne
   simp -implicitDefEqProofs [e4,l4]
   refine⟨i64 (by omega) (by omega),?_⟩
   refine aF _ ⟨by simp[e4],.inl ⟨rfl,by simp[dH]⟩,hJ.old.put (by simp) n4 (fun c hc=>by simp[hc])⟩
  ·rw[List.concat_eq_append] at hr
   rw[hr] at hJ aF sX
   rw[tL] at hJ aF
   have hun:dH c (init++[a])=cQ c.printed (init++[a])+if a.cw<c.now then 1 else 0:=by unfold dH;rw[if_neg (by simp),wj]
   obtain⟨hb,cap,cs,hne,l4,lh,dz,h4,h8,hn⟩:∃hb cap cs,dV init a.src++[a]≠[]∧s.loc b4=some [.aP hb 0 (dV init a.src++[a]).length cap 3,I (cQ c.printed (init++[a]))]∧s.loc hb=some cs∧Zx cs (dV init a.src++[a]) cap∧hb≠b4∧hb≠b8∧fL s0 hb:=by
    rcases hJ.hs with ⟨he,_⟩|h
    ·simp at he
    ·exact h
   have fG:(dV init a.src++[a]).length=init.length+1:=by simp[ou]
   obtain⟨k9,jH⟩:=IF dz
   rw[ou] at k9 jH
   have hge:cs[init.length*3+2]=I a.cw:=by
    rw[List.getElem?_eq_getElem k9] at jH
    exact Option.some.inj jH
   have pW:=l4
   rw[fG] at pW
   simp only[List.length_append,List.length_cons,List.length_nil] at sX
   rw[hr] at hrl
   simp only[List.length_append,List.length_cons,List.length_nil] at hrl
   have hz:((init.length:Int)+1==0)=false:=by simp;omega
   have l_:¬hb=b4:=h4
   simp -implicitDefEqProofs [e0,e4,pW,lh,hz,k9,hge]
   refine⟨i64 (by omega) (by omega),by omega,bu (fun hc=> ?_) (fun hc=> ?_)⟩
   ·rw[if_pos hc] at hun
    simp -implicitDefEqProofs [e4,pW]
    refine⟨i64 (by omega) (by omega),aF _ ⟨by simp[e4],.inr ⟨hb,cap,cs,hne,?_,?_,dz,h4,h8,hn⟩,hJ.old.put (by simp) n4 (fun c hc=>by simp[hc])⟩⟩
    ·rw[fG,hun];simp
    ·simp[l_,lh]
   ·rw[if_neg hc] at hun
    simp -implicitDefEqProofs
    refine aF _ ⟨by simp[e4],.inr ⟨hb,cap,cs,hne,?_,?_,dz,h4,h8,hn⟩,hJ.old.ext (by simp) (by simp)⟩
    ·rw[fG,hun];simp[pW]
    ·simp[lh]
 rintro s ⟨e4,hs,hO⟩
 exact wm (by omega) e4 hs hO n4 (by rw[tM];omega) fun s2 h2=>hY _ _ SO h2
end Go.Proofs.YtpeikknjbnnnnaaGreat.O
