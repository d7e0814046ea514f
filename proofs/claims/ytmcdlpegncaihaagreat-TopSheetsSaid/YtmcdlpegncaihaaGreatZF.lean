/- Contracts of small functions: outside, the reference's in. Contracts on names: the program's and the reference's. Contracts on names that are met twice. Presses and books, as the program's values; the closures of Check. Contracts on spans, and the functions that look for a first error. Contracts: the first thing with an error; the closures of Check and CheckBook. Check and CheckBook of the program return what is said in plain words. Check and CheckBook of the reference return the same plain words. How the leaves of a sheet lie, in plain words. Ways of making, and what makes a press right; the program's check, enter and folds. Rows of cells that are written, element by element; maps. The leaves of a gathering: the program's walk. -/
import Derived.Test.YtmcdlpegncaihaaGreatZE
namespace Go.Proofs.YtmcdlpegncaihaaGreat.F
open Go.Z4
abbrev I(n:Int):AV:=.lit (.int .i64 n)
abbrev B(b:Bool):AV:=.lit (.bool b)
abbrev S(s:ByteArray):AV:=.lit (.string s)
abbrev IL(l:List Int):AV:=.slice 1 (l.map I) 0
theorem aaJ{sz:Nat}{xs:List AV}{r:Nat}(h:Fits (.slice sz xs r)):xs.length≤140737488355328:=by
 obtain⟨w,A,v,h⟩:=h
 cases h with
 |cH=>simp
 |slice _ _ _ b off cap vs hsz h1c hcap hlen hc hr=>exact hlen
theorem dW{α:Type}{l:List α}{k:Nat}(h:k<l.length):l.take (k+1)=l.take k++[l[k]]:=List.take_succ_eq_append_getElem h
@[simp] theorem Ta (b k:Nat) (h:k<1000001):(1000001+b=k)=False:=by simp;omega
@[simp] theorem Tb (b k:Nat) (h:k<1000001):(k=1000001+b)=False:=by simp;omega
@[simp] theorem Tc (b:Nat):(1000000≤1000001+b)=True:=by simp;omega
theorem A6(loc:Nat→Option (List AV))(cs:List AV)(K:AV→Prop):cN loc (.ref cs) none K=(0<cs.length∧K (cs.getD 0 .any).erase):=rfl
theorem A7(loc:Nat→Option (List AV))(cs:List AV)(n:Nat)(K:AV→Prop):cN loc (.ref cs) (some n) K=(0+n≤cs.length∧K (AV.agg ((cs.drop 0).take n)).erase.erase):=rfl
theorem A8(loc:Nat→Option (List AV))(b o:Nat)(n:Option Nat)(K:AV→Prop):cN loc (.aj b o) n K=(match loc b with|some cs=>cz cs o n K|none=>False):=rfl
theorem A9(cs:List AV)(o:Nat)(K:AV→Prop):cz cs o none K=(o<cs.length∧K (cs.getD o .any)):=rfl
theorem A_(cs:List AV)(o n:Nat)(K:AV→Prop):cz cs o (some n) K=(o+n≤cs.length∧K (AV.agg ((cs.drop o).take n)).erase):=rfl
attribute [simp] A6 A7 A8 A9 A_
def firstAt{α:Type}(p:α→Bool)(l:List α):Int:=match l.findIdx? p with
 |some i=>i
 |none=> -1
theorem n6{α:Type}{p:α→Bool}{l:List α}{k:Nat}(hk:k<l.length)(h:p l[k]=true)(hno:∀x∈l.take k,p x=false):firstAt p l=k:=by
 have:l.findIdx? p=some k:=by
  rw[List.findIdx?_eq_some_iff_getElem]
  refine⟨hk,h,fun j hj=> ?_⟩
  have:=hno l[j] (List.mem_take_iff_getElem.2 ⟨j,by omega,rfl⟩)
  simp[this]
 simp[firstAt,this]
theorem pF{α:Type}{p:α→Bool}{l:List α}(hno:∀x∈l,p x=false):firstAt p l= -1:=by
 have:l.findIdx? p=none:=by rw[List.findIdx?_eq_none_iff];simpa using hno
 simp[firstAt,this]
theorem Ba(l:List Int)(f:FuncId)(caps:List AV)(p:Int→Bool)(hp:∀x∈l,aG Tryz.prog f (I x::caps) (B (p x))):aG Tryz.prog 121 [IL l,.func (.func f) [] caps] (I (firstAt p l)):=by
 refine pc t121 (by simp) fun hfit=> ?_
 have hl:=aaJ (hfit 0)
 simp only[List.length_map] at hl
 simp -implicitDefEqProofs [wh]
 refine bP l.length (fun k s=>s.env 0=IL l∧s.env 1=.func (.func f) [] caps∧s.env 7=I l.length∧s.env 8=I k∧∀x∈l.take k,p x=false) ?_ ?_
 ·simp
 ·rintro k s hk ⟨e0,e1,e7,e8,hno⟩
  simp -implicitDefEqProofs [e7,e8]
  refine bY (fun hlt=> ?_) (fun hge=> ?_)
  ·simp -implicitDefEqProofs [e0,e1,e8,hlt,abV]
   refine aL (hp l[k] (List.getElem_mem _)) ?_
   simp -implicitDefEqProofs
   refine c8 (fun he=> ?_) (fun he=> ?_)
   ·have hc:=n6 hlt he hno
    simp -implicitDefEqProofs [qR,hc]
   ·simp -implicitDefEqProofs [e8]
    refine⟨i64 (by omega) (by omega),bz hlt ⟨by simp[e0],by simp[e1],by simp[e7],by simp,?_⟩⟩
    intro x hx
    rw[dW hlt,List.mem_append,List.mem_singleton] at hx
    rcases hx with hx|rfl
    ·exact hno x hx
    ·exact he
  ·obtain rfl:k=l.length:=by omega
   rw[List.take_length] at hno
   have hc:=pF hno
   simp -implicitDefEqProofs [qR,hc]
theorem qS{α:Type}(p:α→Bool)(l:List α):decide (0≤firstAt p l)=l.any p:=by
 unfold firstAt
 cases h:l.findIdx? p with
 |none=>
  rw[List.findIdx?_eq_none_iff] at h
  simpa using h
 |some i=>
  obtain⟨hi,hp,_⟩:=List.findIdx?_eq_some_iff_getElem.1 h
  simp
  exact⟨_,List.getElem_mem hi,hp⟩
theorem Bb(n lo hi:Int):aG Tryz.prog 84 [I n,.ref [I lo],.ref [I hi]] (B (decide (n<lo)||decide (hi<n))):=by
 refine pc t84 (by simp) fun _=> ?_
 by_cases h:n<lo<;>simp -implicitDefEqProofs [AQ,AR,h,qD,jU]
theorem wj(l:List Int)(f:FuncId)(caps:List AV)(p:Int→Bool)(hp:∀x∈l,aG Tryz.prog f (I x::caps) (B (p x))):aG Tryz.prog 83 [IL l,.func (.func f) [] caps] (B (l.any p)):=by
 refine pc t83 (by simp) fun _=> ?_
 simp -implicitDefEqProofs [v8]
 refine aL (Ba l f caps p hp) ?_
 simp -implicitDefEqProofs [v9,qS]
def out(lo hi:Int)(l:List Int):Bool:=l.any fun n=>decide (n<lo)||decide (hi<n)
theorem jW(lo hi:Int)(l:List Int):aG Tryz.prog 49 [I lo,I hi,IL l] (B (out lo hi l)):=by
 refine pc t49 (by simp) fun _=> ?_
 simp -implicitDefEqProofs [AK]
 refine aL (wj l 84 [.ref [I lo],.ref [I hi]] _ fun x _=>Bb x lo hi) ?_
 simp -implicitDefEqProofs [AL,out]
theorem abN(n lo hi:Int):aG Tryz.prog 17 [I n,I lo,I hi] (B (decide (lo≤n∧n≤hi))):=by
 refine pc t17 (by simp) fun _=> ?_
 by_cases h:lo≤n<;>simp -implicitDefEqProofs [FR,FT,h]
end Go.Proofs.YtmcdlpegncaihaaGreat.F
namespace Go.Proofs.YtmcdlpegncaihaaGreat.F
open Go.Z4
def bt(s:ByteArray)(k:Nat):Nat:=(s.data.toList.getD k 0).toNat
theorem tj(s:ByteArray)(k:Nat)(h:k<s.data.size):(s.data[k]'h).toNat=bt s k:=by
 have:s.data[k]? =some (s.data[k]'h):=Array.getElem?_eq_getElem h
 simp[bt,List.getD_eq_getElem?_getD,this]
theorem Hi(s:ByteArray){k:Nat}(h:k<s.size):(s.get! k).toNat=bt s k:=by
 cases s with
 |mk a=>
  have h':k<a.size:=h
  simp[ByteArray.get!,bt,List.getD_eq_getElem?_getD,h']
theorem Hj{s:ByteArray}{k:Nat}(h:k<s.size)(hb:bt s k<128):Utf8.decode s k=(bt s k,1):=by
 have e:=Hi s h
 unfold Utf8.decode
 simp only[Nat.add_zero,e,hb,if_true]
theorem Hl{s:ByteArray}{k:Nat}(h:k<s.size)(hb:¬bt s k<128):128≤(Utf8.decode s k).1:=by
 have e:=Hi s h
 unfold Utf8.decode
 simp only[Nat.add_zero,e,hb,if_false]
 repeat' split
 all_goals simp_all [Utf8.runeError]
 all_goals omega
def iO(c:Nat):Bool:=decide (97≤c∧c≤122)
def isDigit(c:Nat):Bool:=decide (48≤c∧c≤57)
def dg(k c:Nat):Bool:=iO c||(decide (0<k)&&(isDigit c||decide (c=46)))
def gT(s:ByteArray):Bool:=decide (0<s.size∧s.size≤16∧∀k<s.size,dg k (bt s k)=true)
theorem Td(c:Nat):aG Tryz.prog 85 [.lit (.int .u8 c)] (B (iO c)):=by
 refine pc t85 (by simp) fun _=> ?_
 by_cases h:97≤c
 ·have h':(97:Int)≤(c:Int):=by omega
  have e:iO c=decide ((c:Int)≤122):=by unfold iO;rw[decide_eq_decide];omega
  simp -implicitDefEqProofs [AS,AT,h',e]
 ·have h':¬(97:Int)≤(c:Int):=by omega
  have e:iO c=false:=by unfold iO;simp;omega
  simp -implicitDefEqProofs [AS,AT,h',e]
theorem Te(c:Nat):aG Tryz.prog 86 [.lit (.int .u8 c)] (B (isDigit c)):=by
 refine pc t86 (by simp) fun _=> ?_
 by_cases h:48≤c
 ·have h':(48:Int)≤(c:Int):=by omega
  have e:isDigit c=decide ((c:Int)≤57):=by unfold isDigit;rw[decide_eq_decide];omega
  simp -implicitDefEqProofs [AU,r86,h',e]
 ·have h':¬(48:Int)≤(c:Int):=by omega
  have e:isDigit c=false:=by unfold isDigit;simp;omega
  simp -implicitDefEqProofs [AU,r86,h',e]
theorem Ho(s:ByteArray):aG Tryz.prog 52 [S s] (B (gT s)):=by
 refine pc t52 (by simp) fun _=> ?_
 by_cases h0:s.size=0
 ·have e:gT s=false:=decide_eq_false fun h=>by obtain⟨_,_,_⟩:=h;omega
  simp -implicitDefEqProofs [v7,qP,h0,e]
 by_cases h1:(16:Int)<s.size
 ·have e:gT s=false:=decide_eq_false fun h=>by obtain⟨_,_,_⟩:=h;omega
  have mU:((s.size:Int)==0)=false:=beq_eq_false_iff_ne.2 (by omega)
  simp -implicitDefEqProofs [v7,qP,mU,h1,e]
 have mU:((s.size:Int)==0)=false:=beq_eq_false_iff_ne.2 (by omega)
 simp -implicitDefEqProofs [v7,mU,h1]
 refine bP s.size (fun k st=>st.env 0=S s∧st.env 3=I k∧∀j<k,dg j (bt s j)=true) ?_ ?_
 ·simp
 ·rintro k st hk ⟨e0,e3,hno⟩
  simp -implicitDefEqProofs [e0,e3]
  refine bY (fun hlt=> ?_) (fun hge=> ?_)
  ·have hlt':k<s.size:=by omega
   simp -implicitDefEqProofs [e0,e3,hlt',tj]
   refine aL (Td (bt s k)) ?_
   have next:dg k (bt s k)=true→∀j<k+1,dg j (bt s j)=true:=fun h j hj=>by
    rcases Nat.lt_succ_iff_lt_or_eq.1 hj with hj|rfl
    ·exact hno j hj
    ·exact h
   have bad:dg k (bt s k)=false→gT s=false:=fun h=>by
    unfold gT
    simp only[decide_eq_false_iff_not]
    rintro⟨_,_,h'⟩
    rw[h' k hlt'] at h
    cases h
   cases hL:iO (bt s k) with
   |true=>
    simp -implicitDefEqProofs [e3]
    exact⟨i64 (by omega) (by omega),bz hlt' ⟨by simp[e0],by simp,next (by simp[dg,hL])⟩⟩
   |false=>
    by_cases bM:k=0
    ·subst bM
     simp -implicitDefEqProofs [e3]
     simp -implicitDefEqProofs [qP,bad (by simp[dg,hL])]
    ·have wk:((k:Int)==0)=false:=beq_eq_false_iff_ne.2 (by omega)
     simp -implicitDefEqProofs [e0,e3,wk,hlt',tj]
     refine aL (Te (bt s k)) ?_
     cases hD:isDigit (bt s k) with
     |true=>
      simp -implicitDefEqProofs [e3]
      exact⟨i64 (by omega) (by omega),bz hlt' ⟨by simp[e0],by simp,next (by simp[dg,hL,hD];omega)⟩⟩
     |false=>
      simp -implicitDefEqProofs [e0,e3,hlt',tj]
      refine c8 (fun he=> ?_) (fun he=> ?_)
      ·simp -implicitDefEqProofs [qP]
       refine bad ?_
       have:bt s k≠46:=by simp at he;omega
       simp[dg,hL,hD,this]
      ·simp -implicitDefEqProofs [e3]
       refine⟨i64 (by omega) (by omega),bz hlt' ⟨by simp[e0],by simp,next ?_⟩⟩
       have:bt s k=46:=by simp at he;omega
       simp[dg,this];omega
  ·obtain rfl:k=s.size:=by omega
   have e:gT s=true:=by unfold gT;simp;exact⟨by omega,by omega,hno⟩
   simp -implicitDefEqProofs [qP,e]
theorem Hp{k c:Nat}(h:dg k c=true):c<128:=by
 simp[dg,iO,isDigit] at h
 omega
theorem Tf{s:ByteArray}{k:Nat}(h:k<s.size):dg k (Utf8.decode s k).1=dg k (bt s k)∧(dg k (Utf8.decode s k).1=true→(Utf8.decode s k).2=1):=by
 by_cases hb:bt s k<128
 ·rw[Hj h hb];exact⟨rfl,fun _=>rfl⟩
 ·have h1:=Hl h hb
  have e1:dg k (Utf8.decode s k).1=false:=by
   cases e:dg k (Utf8.decode s k).1 with
   |false=>rfl
   |true=>have:=Hp e;omega
  have e2:dg k (bt s k)=false:=by
   cases e:dg k (bt s k) with
   |false=>rfl
   |true=>have:=Hp e;omega
  rw[e1,e2];exact⟨rfl,fun h=>by cases h⟩
theorem Hq(s:ByteArray):∀(n i:Nat) (r:List UInt8),s.size - i=n→ByteArray.toList.loop s i r=r.reverse++s.data.toList.drop i
 |0,i,r,h=>by
  unfold ByteArray.toList.loop
  have:¬i<s.size:=by omega
  rw[if_neg this,List.drop_of_length_le (by simpa using(by omega:s.size≤i)),List.append_nil]
 |n+1,i,r,h=>by
  unfold ByteArray.toList.loop
  have hi:i<s.size:=by omega
  rw[if_pos hi,Hq s n (i+1) _ (by omega)]
  have e:s.data.toList.drop i=s.get! i::s.data.toList.drop (i+1):=by
   rw[List.drop_eq_getElem_cons (by simpa using hi)]
   congr 1
   cases s with
   |mk a=>
    have hi':i<a.size:=hi
    simp[ByteArray.get!,hi']
  rw[e]
  simp
theorem Am(s:ByteArray):s.toList=s.data.toList:=by
 unfold ByteArray.toList
 rw[Hq s _ 0 [] rfl];simp
theorem Tg(s:ByteArray):s.toList.isEmpty=decide (s.size=0):=by
 rw[Am]
 have:s.size=s.data.toList.length:=by simp
 rw[this]
 cases s.data.toList<;>simp
theorem Th(s:ByteArray):aG Tryz.prog 137 [S s] (B (gT s)):=by
 refine pc t137 (by simp) fun _=> ?_
 simp -implicitDefEqProofs [ac4]
 intro b
 refine bP s.size (fun k st=>st.env 0=S s∧st.env 6=.aj b 0∧st.env (oS+b)=aaU s k∧∀j<k,dg j (bt s j)=true) ?_ ?_
 ·simp
 ·rintro k st hk ⟨e0,e6,eo,hno⟩
  simp -implicitDefEqProofs [e6]
  refine⟨s,k,by simpa using eo,fun hlt=> ?_,fun hge=> ?_⟩
  ·obtain⟨d1,d2⟩:=Tf hlt
   generalize hr:(Utf8.decode s k).1=r at d1 d2
   have good:dg k r=true→(Utf8.decode s k).2=1∧∀j<k+1,dg j (bt s j)=true:=fun h=>⟨d2 h,fun j hj=>by
    rcases Nat.lt_succ_iff_lt_or_eq.1 hj with hj|rfl
    ·exact hno j hj
    ·rw[←d1];exact h⟩
   have bad:dg k r=false→gT s=false:=fun h=>decide_eq_false fun h'=>by
    have:=h'.2.2 k hlt
    rw[←d1,h] at this
    cases this
   by_cases c1:(97:Int)≤(r:Int)
   ·by_cases c2:(r:Int)≤122
    ·simp -implicitDefEqProofs [c1,c2]
     have hg:=good (by simp[dg,iO];omega)
     rw[hg.1]
     exact bz hlt ⟨by simp[e0],by simp[e6],by simp,hg.2⟩
    ·simp -implicitDefEqProofs [c1,c2]
     by_cases c3:0<k
     ·have c4:(48:Int)≤(r:Int):=by omega
      have c5:¬(r:Int)≤57:=by omega
      have c6:((r:Int)==46)=false:=beq_eq_false_iff_ne.2 (by omega)
      simp -implicitDefEqProofs [c3,c4,c5,c6]
      simp -implicitDefEqProofs [mT,bad (by simp[dg,iO,isDigit];omega)]
     ·simp -implicitDefEqProofs [c3]
      simp -implicitDefEqProofs [mT,bad (by simp[dg,iO,c3];omega)]
   ·simp -implicitDefEqProofs [c1]
    by_cases c3:0<k
    ·by_cases c4:(48:Int)≤(r:Int)
     ·by_cases c5:(r:Int)≤57
      ·simp -implicitDefEqProofs [c3,c4,c5]
       have hg:=good (by simp[dg,isDigit,c3];omega)
       rw[hg.1]
       exact bz hlt ⟨by simp[e0],by simp[e6],by simp,hg.2⟩
      ·have c6:((r:Int)==46)=false:=beq_eq_false_iff_ne.2 (by omega)
       simp -implicitDefEqProofs [c3,c4,c5,c6]
       simp -implicitDefEqProofs [mT,bad (by simp[dg,iO,isDigit];omega)]
     ·simp -implicitDefEqProofs [c3,c4]
      refine c8 (fun he=> ?_) (fun he=> ?_)
      ·have hr:(r:Int)=46:=by simpa using he
       have hg:=good (by simp[dg,c3];omega)
       simp -implicitDefEqProofs
       rw[hg.1]
       exact bz hlt ⟨by simp[e0],by simp[e6],by simp,hg.2⟩
      ·have hr:(r:Int)≠46:=by simpa using he
       simp -implicitDefEqProofs [mT,bad (by simp[dg,iO,isDigit];omega)]
    ·simp -implicitDefEqProofs [c3]
     simp -implicitDefEqProofs [mT,bad (by simp[dg,iO,c3];omega)]
  ·obtain rfl:k=s.size:=by omega
   simp -implicitDefEqProofs [e0]
   rw[Tg]
   by_cases h0:s.size=0
   ·have e:gT s=false:=decide_eq_false fun h=>by obtain⟨_,_,_⟩:=h;omega
    simp -implicitDefEqProofs [h0,mT,e]
   ·simp -implicitDefEqProofs [h0,mT,e0]
    by_cases h1:s.size≤16
    ·have e:gT s=true:=decide_eq_true ⟨by omega,h1,hno⟩
     rw[e];simp;omega
    ·have e:gT s=false:=decide_eq_false fun h=>by obtain⟨_,_,_⟩:=h;omega
     rw[e];simp;omega
end Go.Proofs.YtmcdlpegncaihaaGreat.F
namespace Go.Proofs.YtmcdlpegncaihaaGreat.F
open Go.Z4
abbrev SL(l:List ByteArray):AV:=.slice 1 (l.map S) 0
def fh(p q:ByteArray):Bool:=p.toList==q.toList
theorem Ti(l:List ByteArray)(x:ByteArray):aG Tryz.prog 51 [SL l,S x] (I (firstAt (fun y=>fh y x) l)):=by
 refine pc t51 (by simp) fun hfit=> ?_
 have hl:=aaJ (hfit 0)
 simp only[List.length_map] at hl
 simp -implicitDefEqProofs [Gk]
 refine⟨i64 (by omega) (by omega),?_⟩
 refine bP l.length (fun k s=>s.env 0=SL l∧s.env 1=S x∧(∃i:Int,i=l.length - 1 - k∧s.env 5=I i)∧∀j (hj:j<l.length),l.length<j+1+k→fh l[j] x=false) ?_ ?_
 ·simp
  intro j hj h;omega
 ·rintro k s hk ⟨e0,e1,⟨i,hi,e5⟩,hno⟩
  simp -implicitDefEqProofs [e5]
  by_cases hlt:k<l.length
  ·have h0:0≤i:=by omega
   obtain⟨n,rfl⟩:∃n:Nat,i=n:=⟨i.toNat,by omega⟩
   have hn:n<l.length:=by omega
   simp -implicitDefEqProofs [e0,e1,e5,hn]
   refine c8 (fun he=> ?_) (fun he=> ?_)
   ·simp -implicitDefEqProofs [e5]
    refine⟨i64 (by omega) (by omega),bz hlt ⟨by simp[e0],by simp[e1],by simp;omega,?_⟩⟩
    intro j hj tn
    by_cases N5:n<j
    ·exact hno j hj (by omega)
    ·obtain rfl:j=n:=by omega
     simpa[fh] using he
   ·have hx:fh l[n] x=true:=by simpa[fh] using he
    simp -implicitDefEqProofs
    refine bP n (fun j s=>s.env 0=SL l∧s.env 1=S x∧s.env 5=I n∧s.env 6=I j∧∀y∈l.take j,fh y x=false) ?_ ?_
    ·simp[e0,e1,e5]
    ·rintro j s hj ⟨e0,e1,e5,e6,Bc⟩
     simp -implicitDefEqProofs [e5,e6]
     refine bY (fun hlt=> ?_) (fun hge=> ?_)
     ·have hjl:j<l.length:=by omega
      simp -implicitDefEqProofs [e0,e1,e6,hjl]
      refine c8 (fun he=> ?_) (fun he=> ?_)
      ·have hc:=n6 (p:=fun y=>fh y x) hjl (by simpa[fh] using he) Bc
       simp -implicitDefEqProofs [v5,e6,hc]
      ·simp -implicitDefEqProofs [e6]
       refine⟨i64 (by omega) (by omega),bz (by omega) ⟨by simp[e0],by simp[e1],by simp[e5],by simp,?_⟩⟩
       intro y hy
       rw[dW hjl,List.mem_append,List.mem_singleton] at hy
       rcases hy with hy|rfl
       ·exact Bc y hy
       ·simpa[fh] using he
     ·obtain rfl:j=n:=by omega
      have hc:=n6 (p:=fun y=>fh y x) hn hx Bc
      simp -implicitDefEqProofs [v5,e5,hc]
  ·obtain rfl:k=l.length:=by omega
   have h0:¬0≤i:=by omega
   have h1:i= -1:=by omega
   subst h1
   simp -implicitDefEqProofs
   have hc:=pF (p:=fun y=>fh y x) (l:=l) (fun y hy=>by
    obtain⟨j,hj,rfl⟩:=List.mem_iff_getElem.1 hy
    exact hno j hj (by omega))
   refine bP 0 (fun j s=>s.env 5=I (-1)∧s.env 6=I 0) ?_ ?_
   ·simp[e5]
   ·rintro j s hj ⟨e5,e6⟩
    simp -implicitDefEqProofs [e5,e6,v5,hc]
def fM(name:ByteArray)(before:List ByteArray):Int:=if gT name then (if before.any fun s=>fh s name then 5 else 0) else 6
theorem Hr(name:ByteArray)(l:List ByteArray):aG Tryz.prog 18 [S name,SL l] (I (fM name l)):=by
 refine pc t18 (by simp) fun hfit=> ?_
 simp -implicitDefEqProofs [FU]
 refine aL (Ti l name) ?_
 have e:=qS (fun y=>fh y name) l
 cases h:l.any fun y=>fh y name with
 |true=>
  rw[h] at e
  have e':0≤firstAt (fun y=>fh y name) l:=of_decide_eq_true e
  simp -implicitDefEqProofs [e']
  refine aL (Ho name) ?_
  cases hn:gT name<;>simp -implicitDefEqProofs [AG,fM,hn,h]
 |false=>
  rw[h] at e
  have e':¬0≤firstAt (fun y=>fh y name) l:=of_decide_eq_false e
  simp -implicitDefEqProofs [e']
  refine aL (Ho name) ?_
  cases hn:gT name<;>simp -implicitDefEqProofs [AG,fM,hn,h]
theorem Hs(name:ByteArray)(l:List ByteArray)(f:FuncId)(caps:List AV)(h:aa4 Tryz.prog f [] caps (l.map fun s=>[S s])):aG Tryz.prog 100 [S name,.func (.func f) [] caps] (I (fM name l)):=by
 refine pc t100 (by simp) fun hfit=> ?_
 simp -implicitDefEqProofs [AY]
 intro b
 refine aL (Th name) ?_
 cases hn:gT name with
 |false=>
  simp -implicitDefEqProofs [vw,zC]
  simp -implicitDefEqProofs [tg,fM,hn]
 |true=>
  simp -implicitDefEqProofs
  refine EN _ (fun k s=>s.env 2=.ref [S name]∧s.env 4=.aj b 0∧s.loc b=some [I 0]∧∀y∈l.take k,fh y name=false) h (by simp) ?_ ?_ ?_
  ·simp
  ·rintro k st hk hb ⟨e2,e4,el,hno⟩
   have hk':k<l.length:=by simpa using hk
   simp -implicitDefEqProofs [hk',e2]
   refine c8 (fun he=> ?_) (fun he=> ?_)
   ·simp -implicitDefEqProofs [e4,el]
    have hc:(l.any fun s=>fh s name)=true:=List.any_eq_true.2 ⟨l[k],List.getElem_mem _,by simpa[fh] using he⟩
    simp -implicitDefEqProofs [tg,fM,hn,hc]
   ·simp -implicitDefEqProofs [el]
    intro y hy
    rw[dW hk',List.mem_append,List.mem_singleton] at hy
    rcases hy with hy|rfl
    ·exact hno y hy
    ·simpa[fh] using he
  ·rintro st hb ⟨e2,e4,el,hno⟩
   have hc:(l.any fun s=>fh s name)=false:=by
    rw[List.any_eq_false]
    intro y hy
    have:=hno y (by simpa using hy)
    simp[this]
   simp -implicitDefEqProofs [e4,el,tg,fM,hn,hc]
end Go.Proofs.YtmcdlpegncaihaaGreat.F
namespace Go.Proofs.YtmcdlpegncaihaaGreat.F
open Go.Z4
structure Fmt where
 name:ByteArray
 aam:ByteArray
structure jr where
 lo:Int
 hi:Int
structure f_ where
 name:ByteArray
 wide:jr
 high:jr
structure bA where
 Z6:List Fmt
 bu:List f_
 trim:Int
 Z7:Int
abbrev Fmt.cs(f:Fmt):List AV:=[S f.name,S f.aam]
abbrev Fmt.av(f:Fmt):AV:=.agg f.cs
abbrev jr.av(s:jr):AV:=.agg [I s.lo,I s.hi]
abbrev f_.cs(p:f_):List AV:=[S p.name,I p.wide.lo,I p.wide.hi,I p.high.lo,I p.high.hi]
abbrev f_.av(p:f_):AV:=.agg p.cs
abbrev bA.cs(p:bA):List AV:=[.slice 2 (p.Z6.map Fmt.av) 0,.slice 5 (p.bu.map f_.av) 0,I p.trim,I p.Z7]
abbrev bA.av(p:bA):AV:=.agg p.cs
abbrev iP(p:bA):AV:=.ref p.cs
abbrev wm(i:Int):AV:=.ref [I i]
theorem Bd{cs:List AV}(h:Fits (.ref cs))(i:Nat):Fits (cs.getD i .any):=by
 obtain⟨w,A,v,h⟩:=h
 cases h with
 |ref _ b off vs hc hr=>exact⟨w,A,_,hr i⟩
theorem pG{cs:List AV}(h:Fits (.agg cs))(i:Nat):Fits (cs.getD i .any):=by
 obtain⟨w,A,v,h⟩:=h
 cases h with
 |agg _ vs hs hr=>exact⟨w,A,_,hr i⟩
theorem drop_cons{α:Type}{l:List α}{k:Nat}(h:k<l.length):l.drop k=l[k]::l.drop (k+1):=List.drop_eq_getElem_cons h
theorem Tj(p:bA)(i:Nat)(hi:i≤p.Z6.length):aa4 Tryz.prog 101 [] [iP p,wm i] (((p.Z6.take i).map Fmt.name).map fun s=>[S s]):=by
 refine ps t101 (by simp) fun l hfit=> ?_
 have hl:p.Z6.length≤140737488355328:=by simpa using aaJ (Bd (hfit 1) 0)
 simp -implicitDefEqProofs [AZ]
 refine⟨hi,?_⟩
 refine bP i (fun k s=>s.env 0=.func (.yield l) [] []∧s.env 9=.slice 2 ((p.Z6.take i).map Fmt.av) 0∧s.env 10=I i∧s.env 11=I k∧s.env gS=.ghost l (((p.Z6.take i).drop k).map fun f=>[S f.name]) false) ?_ ?_
 ·simp[List.map_take];refine⟨by omega,?_⟩;rfl
 ·rintro k s hk ⟨e0,e9,aH,aE,eg⟩
  simp -implicitDefEqProofs [aH,aE]
  refine bY (fun hlt=> ?_) (fun hge=> ?_)
  ·have hlt':k<(p.Z6.take i).length:=by simp;omega
   have cq:k<p.Z6.length:=by omega
   rw[drop_cons hlt'] at eg
   simp at eg
   simp -implicitDefEqProofs [e0,e9,aE,hlt,cq,eg]
   refine⟨by omega,fun b hb=>⟨i64 (by omega) (by omega),bz (by omega) ⟨by simp[e0],by simp[e9,List.map_take],by simp[aH],by simp,by simp⟩⟩⟩
  ·obtain rfl:k=i:=by omega
   simp at eg
   simp -implicitDefEqProofs [eg]
theorem Tk(p:bA)(i:Nat)(hi:i≤p.bu.length):aa4 Tryz.prog 104 [] [iP p,wm i] (((p.bu.take i).map f_.name).map fun s=>[S s]):=by
 refine ps t104 (by simp) fun l hfit=> ?_
 have hl:p.bu.length≤140737488355328:=by simpa using aaJ (Bd (hfit 1) 1)
 simp -implicitDefEqProofs [ac2]
 refine⟨hi,?_⟩
 refine bP i (fun k s=>s.env 0=.func (.yield l) [] []∧s.env 9=.slice 5 ((p.bu.take i).map f_.av) 0∧s.env 10=I i∧s.env 11=I k∧s.env gS=.ghost l (((p.bu.take i).drop k).map fun f=>[S f.name]) false) ?_ ?_
 ·simp[List.map_take];refine⟨by omega,?_⟩;rfl
 ·rintro k s hk ⟨e0,e9,aH,aE,eg⟩
  simp -implicitDefEqProofs [aH,aE]
  refine bY (fun hlt=> ?_) (fun hge=> ?_)
  ·have hlt':k<(p.bu.take i).length:=by simp;omega
   have cq:k<p.bu.length:=by omega
   rw[drop_cons hlt'] at eg
   simp at eg
   simp -implicitDefEqProofs [e0,e9,aE,hlt,cq,eg]
   refine⟨by omega,fun b hb=>⟨i64 (by omega) (by omega),bz (by omega) ⟨by simp[e0],by simp[e9,List.map_take],by simp[aH],by simp,by simp⟩⟩⟩
  ·obtain rfl:k=i:=by omega
   simp at eg
   simp -implicitDefEqProofs [eg]
def eE(c:Nat):Bool:=decide (c=120)||decide (c=121)
def gx(s:ByteArray):Int:=if 1≤s.size∧s.size≤4 then (if∀k<s.size,eE (bt s k)=true then 0 else 6) else 3
theorem Tl{s:ByteArray}{k:Nat}(h:k<s.size):eE (Utf8.decode s k).1=eE (bt s k)∧(eE (Utf8.decode s k).1=true→(Utf8.decode s k).2=1):=by
 by_cases hb:bt s k<128
 ·rw[Hj h hb];exact⟨rfl,fun _=>rfl⟩
 ·have h1:=Hl h hb
  have e1:eE (Utf8.decode s k).1=false:=by simp[eE];omega
  have e2:eE (bt s k)=false:=by simp[eE];omega
  rw[e1,e2];exact⟨rfl,fun h=>by cases h⟩
def qT(f:Fmt)(before:List Fmt):Int:=if fM f.name (before.map Fmt.name)=0 then gx f.aam else fM f.name (before.map Fmt.name)
theorem wo(lo hi n:Int):out lo hi [n]= !decide (lo≤n∧n≤hi):=by
 simp only[out,List.any_cons,List.any_nil,Bool.or_false]
 by_cases h1:lo≤n<;>by_cases h2:n≤hi<;>simp[h1,h2]<;>omega
theorem Be(p:bA)(i:Nat)(hi:i<p.Z6.length):aG Tryz.prog 99 [I i,p.Z6[i].av,iP p] (I (qT p.Z6[i] (p.Z6.take i))):=by
 refine pc t99 (by simp) fun hfit=> ?_
 have c:=Hs p.Z6[i].name _ 101 [iP p,wm i] (Tj p i (by omega))
 generalize p.Z6[i]=f at*
 unfold qT
 generalize fM f.name ((p.Z6.take i).map Fmt.name)=e at*
 simp -implicitDefEqProofs [AX]
 refine aL c ?_
 simp -implicitDefEqProofs
 refine c8 (fun he=> ?_) (fun he=> ?_)
 ·have h0:¬e=0:=by simpa using he
  simp -implicitDefEqProofs [h0,qQ]
 ·have h0:e=0:=by simpa using he
  subst h0
  simp -implicitDefEqProofs
  have co:=jW 1 4 [(f.aam.size:Int)]
  rw[wo] at co
  by_cases hs:1≤f.aam.size∧f.aam.size≤4
  ·rw[decide_eq_true (by omega)] at co
   refine aL co ?_
   simp -implicitDefEqProofs
   intro b _
   refine bP f.aam.size (fun k st=>st.env 25=.aj b 0∧st.env (oS+b)=aaU f.aam k∧∀j<k,eE (bt f.aam j)=true) ?_ ?_
   ·simp
   ·rintro k st hk ⟨e6,eo,hno⟩
    simp -implicitDefEqProofs [e6]
    refine⟨f.aam,k,by simpa using eo,fun hlt=> ?_,fun hge=> ?_⟩
    ·obtain⟨d1,d2⟩:=Tl hlt
     generalize hr:(Utf8.decode f.aam k).1=r at d1 d2
     have good:eE r=true→(Utf8.decode f.aam k).2=1∧∀j<k+1,eE (bt f.aam j)=true:=fun h=>⟨d2 h,fun j hj=>by
      rcases Nat.lt_succ_iff_lt_or_eq.1 hj with hj|rfl
      ·exact hno j hj
      ·rw[←d1];exact h⟩
     have bad:eE r=false→gx f.aam=6:=fun h=>by
      unfold gx
      rw[if_pos hs,if_neg]
      intro h'
      have:=h' k hlt
      rw[←d1,h] at this
      cases this
     by_cases c1:(r:Int)=120
     ·have pH:((r:Int) != 120)=false:=by simp[c1]
      simp -implicitDefEqProofs [pH]
      have hg:=good (by simp[eE];omega)
      rw[hg.1]
      exact bz hlt ⟨by simp[e6],by simp,hg.2⟩
     ·have pH:((r:Int) != 120)=true:=by simp[c1]
      simp -implicitDefEqProofs [pH]
      refine c8 (fun he=> ?_) (fun he=> ?_)
      ·have c2:¬(r:Int)=121:=by simpa using he
       simp -implicitDefEqProofs [qQ,bad (by simp[eE];omega)]
      ·have c2:(r:Int)=121:=by simpa using he
       simp -implicitDefEqProofs
       have hg:=good (by simp[eE];omega)
       rw[hg.1]
       exact bz hlt ⟨by simp[e6],by simp,hg.2⟩
    ·obtain rfl:k=f.aam.size:=by omega
     have e:gx f.aam=0:=by unfold gx;rw[if_pos hs,if_pos hno]
     simp -implicitDefEqProofs [qQ,e]
  ·rw[decide_eq_false (by omega)] at co
   refine aL co ?_
   have e:gx f.aam=3:=by unfold gx;rw[if_neg hs]
   simp -implicitDefEqProofs [qQ,e]
end Go.Proofs.YtmcdlpegncaihaaGreat.F
namespace Go.Proofs.YtmcdlpegncaihaaGreat.F
open Go.Z4
def n8(lo hi:Int)(a b:jr):Int:=if out lo hi [a.lo,a.hi,b.lo,b.hi] then 7 else if b.hi<b.lo∨a.hi<a.lo then 2 else 0
theorem Tm(lo hi:Int)(a b:jr):aG Tryz.prog 105 [I lo,I hi,a.av,b.av] (I (n8 lo hi a b)):=by
 refine pc t105 (by simp) fun _=> ?_
 simp -implicitDefEqProofs [ac3]
 refine aL (jW lo hi [a.lo,a.hi,b.lo,b.hi]) ?_
 unfold n8
 generalize out lo hi [a.lo,a.hi,b.lo,b.hi]=o
 cases o with
 |true=>simp -implicitDefEqProofs [th]
 |false=>
  simp -implicitDefEqProofs
  by_cases h1:a.hi<a.lo
  ·simp -implicitDefEqProofs [h1,th]
  ·by_cases h2:b.hi<b.lo<;>simp -implicitDefEqProofs [h1,h2,th]
def lH(s:jr)(lo hi:Int):Int:=if s.lo<lo∨s.hi<lo∨hi<s.lo∨hi<s.hi then 7 else if s.hi<s.lo then 2 else 0
theorem Ht(s:jr)(lo hi:Int):aG Tryz.prog 53 [s.av,I lo,I hi] (I (lH s lo hi)):=by
 refine pc t53 (by simp) fun _=> ?_
 unfold lH
 by_cases h:s.hi<s.lo
 ·have h':¬s.lo<s.hi:=by omega
  by_cases h1:s.hi<lo
  ·simp -implicitDefEqProofs [mO,mP,h,h1]
  ·by_cases h2:hi<s.lo
   ·simp -implicitDefEqProofs [mO,mP,h,h',h1,h2]
   ·have h3:¬s.lo<lo:=by omega
    have h4:¬hi<s.hi:=by omega
    simp -implicitDefEqProofs [mO,mP,h,h',h1,h2,h3,h4]
 ·by_cases h1:s.lo<lo
  ·simp -implicitDefEqProofs [mO,mP,h,h1]
  ·by_cases he:s.lo<s.hi
   ·by_cases h2:hi<s.hi
    ·simp -implicitDefEqProofs [mO,mP,h,he,h1,h2]
    ·have h3:¬s.hi<lo:=by omega
     have h4:¬hi<s.lo:=by omega
     simp -implicitDefEqProofs [mO,mP,h,he,h1,h2,h3,h4]
   ·have e:s.hi=s.lo:=by omega
    by_cases h2:hi<s.lo
    ·simp -implicitDefEqProofs [mO,mP,h1,h2,e]
    ·simp -implicitDefEqProofs [mO,mP,h1,h2,e]
theorem Tn(lo hi:Int)(a b:jr):n8 lo hi a b=if lH a lo hi=7∨lH b lo hi=7 then 7 else if lH a lo hi≠0 then lH a lo hi else lH b lo hi:=by
 unfold n8 lH
 simp only[out,List.any_cons,List.any_nil,Bool.or_false,Bool.or_eq_true,decide_eq_true_eq]
 repeat' split
 all_goals first|rfl|omega
theorem adT(a b:jr)(lo hi:Int):aG Tryz.prog 20 [a.av,b.av,I lo,I hi] (I (n8 lo hi a b)):=by
 refine pc t20 (by simp) fun _=> ?_
 rw[Tn]
 have ha:=Ht a lo hi
 have hb:=Ht b lo hi
 generalize lH a lo hi=x at*
 generalize lH b lo hi=y at*
 simp -implicitDefEqProofs [FW]
 refine aL ha ?_
 simp -implicitDefEqProofs
 refine aL hb ?_
 by_cases h1:x=7
 ·subst h1
  simp -implicitDefEqProofs [tf]
 ·have eB:(x==7)=false:=beq_eq_false_iff_ne.2 h1
  by_cases h2:y=7
  ·subst h2
   simp -implicitDefEqProofs [tf,eB]
  ·have pI:(y==7)=false:=beq_eq_false_iff_ne.2 h2
   by_cases h3:x=0
   ·subst h3
    simp -implicitDefEqProofs [tf,pI,h2]
   ·have n9:(x != 0)=true:=by simp[h3]
    simp -implicitDefEqProofs [tf,eB,pI,n9,h1,h2,h3]
theorem Tp(s:ByteArray):aG Tryz.prog 19 [S s] (I (gx s)):=by
 refine pc t19 (by simp) fun _=> ?_
 have ci:=abN s.size 1 4
 simp -implicitDefEqProofs [FV]
 refine aL ci ?_
 by_cases hs:1≤s.size∧s.size≤4
 ·have hs':(1≤(s.size:Int)∧(s.size:Int)≤4):=by omega
  rw[decide_eq_true hs']
  simp -implicitDefEqProofs
  refine bP s.size (fun k st=>st.env 0=S s∧st.env 3=I k∧∀j<k,eE (bt s j)=true) ?_ ?_
  ·simp
  ·rintro k st hk ⟨e0,e3,hno⟩
   simp -implicitDefEqProofs [e0,e3]
   refine bY (fun hlt=> ?_) (fun hge=> ?_)
   ·have hlt':k<s.size:=by omega
    have good:eE (bt s k)=true→∀j<k+1,eE (bt s j)=true:=fun h j hj=>by
     rcases Nat.lt_succ_iff_lt_or_eq.1 hj with hj|rfl
     ·exact hno j hj
     ·exact h
    have bad:eE (bt s k)=false→gx s=6:=fun h=>by
     unfold gx
     rw[if_pos hs,if_neg]
     intro h'
     have:=h' k hlt'
     rw[h] at this
     cases this
    by_cases c1:(bt s k:Int)=120
    ·have pH:((bt s k:Int) != 120)=false:=by simp[c1]
     simp -implicitDefEqProofs [e0,e3,hlt',tj,pH]
     exact⟨i64 (by omega) (by omega),bz hlt' ⟨by simp[e0],by simp,good (by simp[eE];omega)⟩⟩
    ·have pH:((bt s k:Int) != 120)=true:=by simp[c1]
     simp -implicitDefEqProofs [e0,e3,hlt',tj,pH]
     refine c8 (fun he=> ?_) (fun he=> ?_)
     ·have c2:¬(bt s k:Int)=121:=by simpa using he
      simp -implicitDefEqProofs [vY,bad (by simp[eE];omega)]
     ·have c2:(bt s k:Int)=121:=by simpa using he
      simp -implicitDefEqProofs [e3]
      exact⟨i64 (by omega) (by omega),bz hlt' ⟨by simp[e0],by simp,good (by simp[eE];omega)⟩⟩
   ·obtain rfl:k=s.size:=by omega
    have e:gx s=0:=by unfold gx;rw[if_pos hs,if_pos hno]
    simp -implicitDefEqProofs [vY,e]
 ·have hs':¬(1≤(s.size:Int)∧(s.size:Int)≤4):=by omega
  rw[decide_eq_false hs']
  have e:gx s=3:=by unfold gx;rw[if_neg hs]
  simp -implicitDefEqProofs [vY,e]
end Go.Proofs.YtmcdlpegncaihaaGreat.F
namespace Go.Proofs.YtmcdlpegncaihaaGreat.F
open Go.Z4
def fG(n:Nat)(e:Nat→Int):Int×Int:=match (List.range n).find? fun i=>e i != 0 with
 |some i=>(i,e i)
 |none=>(0,0)
theorem wq{n:Nat}{e:Nat→Int}{k:Nat}(hk:k<n)(h:e k≠0)(hno:∀j<k,e j=0):fG n e=((k:Int),e k):=by
 have:(List.range n).find? (fun i=>e i != 0)=some k:=by
  rw[List.find?_eq_some_iff_getElem]
  refine⟨by simpa using h,k,by simpa using hk,by simp,fun j hj=> ?_⟩
  simp[hno j hj]
 simp[fG,this]
theorem wu{n:Nat}{e:Nat→Int}(hno:∀j<n,e j=0):fG n e=(0,0):=by
 have:(List.range n).find? (fun i=>e i != 0)=none:=by
  rw[List.find?_eq_none]
  intro x hx
  simp[hno x (by simpa using hx)]
 simp[fG,this]
structure qU where
 leaf:Int
 seen:Bool
abbrev qU.cs(m:qU):List AV:=[I m.leaf,B m.seen]
abbrev qU.av(m:qU):AV:=.agg m.cs
structure wv where
 leaves:Int
 chain:Int
 wide:jr
 high:jr
 marks:List qU
abbrev wv.cs(b:wv):List AV:=[I b.leaves,I b.chain,I b.wide.lo,I b.wide.hi,I b.high.lo,I b.high.hi,.slice 2 (b.marks.map qU.av) 0]
abbrev wv.av(b:wv):AV:=.agg b.cs
theorem Tq(l:List Fmt)(f:FuncId)(caps:List AV)(e:Nat→Int)(h:∀i (hi:i<l.length),aG Tryz.prog f (I i::l[i].av::caps) (I (e i))):aG Tryz.prog 98 [.slice 2 (l.map Fmt.av) 0,.func (.func f) [] caps] (.tuple [I (fG l.length e).1,I (fG l.length e).2]):=by
 refine pc t98 (by simp) fun hfit=> ?_
 have hl:=aaJ (hfit 0)
 simp only[List.length_map] at hl
 simp -implicitDefEqProofs [AW]
 refine bP l.length (fun k s=>s.env 1=.func (.func f) [] caps∧s.env 9=.slice 2 (l.map Fmt.av) 0∧s.env 10=I l.length∧s.env 11=I k∧∀j<k,e j=0) ?_ ?_
 ·simp
 ·rintro k s hk ⟨e1,e9,aH,aE,hno⟩
  simp -implicitDefEqProofs [aH,aE]
  refine bY (fun hlt=> ?_) (fun hge=> ?_)
  ·simp -implicitDefEqProofs [e1,e9,aE,hlt,abV]
   intro b hb
   refine aL (h k hlt) ?_
   simp -implicitDefEqProofs
   refine c8 (fun he=> ?_) (fun he=> ?_)
   ·have he':e k≠0:=by simpa using he
    have hc:=wq hlt he' hno
    simp -implicitDefEqProofs [v_,hc]
   ·simp -implicitDefEqProofs [aE]
    refine⟨i64 (by omega) (by omega),bz hlt ⟨by simp[e1],by simp[e9],by simp[aH],by simp,fun j hj=> ?_⟩⟩
    rcases Nat.lt_succ_iff_lt_or_eq.1 hj with hj|rfl
    ·exact hno j hj
    ·simpa using he
  ·obtain rfl:k=l.length:=by omega
   have hc:=wu hno
   simp -implicitDefEqProofs [v_,hc]
theorem Tr(l:List f_)(f:FuncId)(caps:List AV)(e:Nat→Int)(h:∀i (hi:i<l.length),aG Tryz.prog f (I i::l[i].av::caps) (I (e i))):aG Tryz.prog 102 [.slice 5 (l.map f_.av) 0,.func (.func f) [] caps] (.tuple [I (fG l.length e).1,I (fG l.length e).2]):=by
 refine pc t102 (by simp) fun hfit=> ?_
 have hl:=aaJ (hfit 0)
 simp only[List.length_map] at hl
 simp -implicitDefEqProofs [A0]
 refine bP l.length (fun k s=>s.env 1=.func (.func f) [] caps∧s.env 9=.slice 5 (l.map f_.av) 0∧s.env 10=I l.length∧s.env 11=I k∧∀j<k,e j=0) ?_ ?_
 ·simp
 ·rintro k s hk ⟨e1,e9,aH,aE,hno⟩
  simp -implicitDefEqProofs [aH,aE]
  refine bY (fun hlt=> ?_) (fun hge=> ?_)
  ·simp -implicitDefEqProofs [e1,e9,aE,hlt,abV]
   intro b hb
   refine aL (h k hlt) ?_
   simp -implicitDefEqProofs
   refine c8 (fun he=> ?_) (fun he=> ?_)
   ·have he':e k≠0:=by simpa using he
    have hc:=wq hlt he' hno
    simp -implicitDefEqProofs [we,hc]
   ·simp -implicitDefEqProofs [aE]
    refine⟨i64 (by omega) (by omega),bz hlt ⟨by simp[e1],by simp[e9],by simp[aH],by simp,fun j hj=> ?_⟩⟩
    rcases Nat.lt_succ_iff_lt_or_eq.1 hj with hj|rfl
    ·exact hno j hj
    ·simpa using he
  ·obtain rfl:k=l.length:=by omega
   have hc:=wu hno
   simp -implicitDefEqProofs [we,hc]
def qV(p:f_)(before:List f_):Int:=if fM p.name (before.map f_.name)=0 then n8 1 2000 p.wide p.high else fM p.name (before.map f_.name)
theorem Ts(p:bA)(i:Nat)(hi:i<p.bu.length):aG Tryz.prog 103 [I i,p.bu[i].av,iP p] (I (qV p.bu[i] (p.bu.take i))):=by
 refine pc t103 (by simp) fun hfit=> ?_
 have c:=Hs p.bu[i].name _ 104 [iP p,wm i] (Tk p i (by omega))
 generalize p.bu[i]=f at*
 unfold qV
 generalize fM f.name ((p.bu.take i).map f_.name)=e at*
 simp -implicitDefEqProofs [ac1]
 refine aL c ?_
 simp -implicitDefEqProofs
 refine c8 (fun he=> ?_) (fun he=> ?_)
 ·have h0:¬e=0:=by simpa using he
  simp -implicitDefEqProofs [h0,wg]
 ·have h0:e=0:=by simpa using he
  subst h0
  simp -implicitDefEqProofs
  refine aL (Tm 1 2000 f.wide f.high) ?_
  simp -implicitDefEqProofs [wg]
end Go.Proofs.YtmcdlpegncaihaaGreat.F
namespace Go.Proofs.YtmcdlpegncaihaaGreat.F
open Go.Z4
def fE(p:bA)(i:Nat):Int:=if h:i<p.Z6.length then qT p.Z6[i] (p.Z6.take i) else 0
def pE(p:bA)(i:Nat):Int:=if h:i<p.bu.length then qV p.bu[i] (p.bu.take i) else 0
def lI(p:bA):Int×Int×Int:=
 if¬(1≤p.Z6.length∧p.Z6.length≤6) then (1,0,3)
 else if (fG p.Z6.length (fE p)).2≠0 then (1,(fG p.Z6.length (fE p)).1,(fG p.Z6.length (fE p)).2)
 else if¬(1≤p.bu.length∧p.bu.length≤4) then (2,0,3)
 else if (fG p.bu.length (pE p)).2≠0 then (2,(fG p.bu.length (pE p)).1,(fG p.bu.length (pE p)).2)
 else if¬(0≤p.trim∧p.trim≤60)∨¬(1≤p.Z7∧p.Z7≤4) then (3,0,7)
 else (0,0,0)
abbrev T3(x:Int×Int×Int):AV:=.tuple [I x.1,I x.2.1,I x.2.2]
theorem Tt(p:bA):aG Tryz.prog 71 [p.av] (T3 (lI p)):=by
 refine pc t71 (by simp) fun hfit=> ?_
 have c1:=jW 1 6 [(p.Z6.length:Int)]
 have c2:=Tq p.Z6 99 [iP p] (fE p) (fun i hi=>by rw[fE,dif_pos hi];exact Be p i hi)
 have c3:=jW 1 4 [(p.bu.length:Int)]
 have c4:=Tr p.bu 103 [iP p] (pE p) (fun i hi=>by rw[pE,dif_pos hi];exact Ts p i hi)
 have c5:=jW 0 60 [p.trim]
 have c6:=jW 1 4 [p.Z7]
 rw[wo] at c1 c3 c5 c6
 obtain⟨R,hR⟩:∃R,R=lI p:=⟨_,rfl⟩
 rw[←hR]
 unfold lI at hR
 generalize fG p.Z6.length (fE p)=e at*
 generalize fG p.bu.length (pE p)=g at*
 simp -implicitDefEqProofs [AO]
 refine aL c1 ?_
 by_cases h1:1≤p.Z6.length∧p.Z6.length≤6
 case neg=>
  rw[if_pos h1] at hR
  rw[decide_eq_false (by omega)]
  simp -implicitDefEqProofs [mR,hR]
 rw[if_neg (not_not_intro h1)] at hR
 rw[decide_eq_true (by omega)]
 simp -implicitDefEqProofs
 refine aL c2 ?_
 simp -implicitDefEqProofs
 refine c8 (fun he=> ?_) (fun he=> ?_)
 ·have h0:e.2≠0:=by simpa using he
  rw[if_pos h0] at hR
  simp -implicitDefEqProofs [mR,hR]
 have h0:e.2=0:=by simpa using he
 rw[if_neg (not_not_intro h0)] at hR
 simp -implicitDefEqProofs
 refine aL c3 ?_
 by_cases h2:1≤p.bu.length∧p.bu.length≤4
 case neg=>
  rw[if_pos h2] at hR
  rw[decide_eq_false (by omega)]
  simp -implicitDefEqProofs [mR,hR]
 rw[if_neg (not_not_intro h2)] at hR
 rw[decide_eq_true (by omega)]
 simp -implicitDefEqProofs
 refine aL c4 ?_
 simp -implicitDefEqProofs
 refine c8 (fun he=> ?_) (fun he=> ?_)
 ·have h0:g.2≠0:=by simpa using he
  rw[if_pos h0] at hR
  simp -implicitDefEqProofs [mR,hR]
 have mU:g.2=0:=by simpa using he
 rw[if_neg (not_not_intro mU)] at hR
 simp -implicitDefEqProofs
 refine aL c5 ?_
 by_cases h3:0≤p.trim∧p.trim≤60
 case neg=>
  rw[if_pos (.inl h3)] at hR
  rw[decide_eq_false h3]
  simp -implicitDefEqProofs [mR,hR]
 rw[decide_eq_true h3]
 simp -implicitDefEqProofs
 refine aL c6 ?_
 by_cases h4:1≤p.Z7∧p.Z7≤4
 case neg=>
  rw[if_pos (.inr h4)] at hR
  rw[decide_eq_false h4]
  simp -implicitDefEqProofs [mR,hR]
 rw[if_neg (fun h=>h.elim (fun h=>h h3) fun h=>h h4)] at hR
 rw[decide_eq_true h4]
 simp -implicitDefEqProofs [mR,hR]
end Go.Proofs.YtmcdlpegncaihaaGreat.F
namespace Go.Proofs.YtmcdlpegncaihaaGreat.F
open Go.Z4
def kM(p:bA)(k:Nat):List ByteArray:=(p.Z6.take k).map Fmt.name
def kN(p:bA)(k:Nat):List ByteArray:=(p.bu.take k).map f_.name
theorem Tu(p:bA):kM p 0=[]:=rfl
theorem Tv(p:bA):kN p 0=[]:=rfl
theorem Tw(p:bA)(k:Nat)(h:k<p.Z6.length):kM p (k+1)=kM p k++[p.Z6[k].name]:=by unfold kM;rw[dW h,List.map_append];rfl
theorem Tx(p:bA)(k:Nat)(h:k<p.bu.length):kN p (k+1)=kN p k++[p.bu[k].name]:=by unfold kN;rw[dW h,List.map_append];rfl
theorem Ty(p:bA)(k:Nat)(h:k<p.Z6.length):(kM p k).length=k:=by simp[kM];omega
theorem Tz(p:bA)(k:Nat)(h:k<p.bu.length):(kN p k).length=k:=by simp[kN];omega
theorem Hu(p:bA):aG Tryz.prog 4 [p.av] (T3 (lI p)):=by
 refine pc t4 (by simp) fun hfit=> ?_
 have jd:p.Z6.length≤140737488355328:=by simpa using aaJ (pG (hfit 0) 0)
 have gu:p.bu.length≤140737488355328:=by simpa using aaJ (pG (hfit 0) 1)
 have c1:=abN p.Z6.length 1 6
 have c3:=abN p.bu.length 1 4
 have c5:=abN p.trim 0 60
 have c6:=abN p.Z7 1 4
 obtain⟨R,hR⟩:∃R,R=lI p:=⟨_,rfl⟩
 rw[←hR]
 unfold lI at hR
 simp -implicitDefEqProofs [m4]
 refine aL c1 ?_
 by_cases h1:1≤p.Z6.length∧p.Z6.length≤6
 case neg=>
  rw[if_pos h1] at hR
  rw[decide_eq_false (by omega)]
  simp -implicitDefEqProofs [r4,hR]
 rw[if_neg (not_not_intro h1)] at hR
 rw[decide_eq_true (by omega)]
 simp -implicitDefEqProofs
 refine bP p.Z6.length (fun k st=>st.env 1=iP p∧st.env 5=.slice 1 ((kM p k).map S) 6∧st.env 6=I k∧∀j<k,fE p j=0) ?_ ?_
 ·simp[Tu]
 rintro k st hk ⟨e1,e5,e6,hno⟩
 simp -implicitDefEqProofs [e1,e6]
 refine bY (fun hlt=> ?_) (fun hge=> ?_)
 ·have hlt:k<p.Z6.length:=by omega
  have hf:fE p k=qT p.Z6[k] (p.Z6.take k):=by rw[fE,dif_pos hlt]
  have Bf:=Tw p k hlt
  have hlen:=Ty p k hlt
  have tq:fE p k≠0→fG p.Z6.length (fE p)=((k:Int),fE p k):=fun h=>wq hlt h hno
  unfold qT at hf
  change fE p k=if fM p.Z6[k].name (kM p k)=0 then _ else fM p.Z6[k].name (kM p k) at hf
  have c:=Hr p.Z6[k].name (kM p k)
  have cf:=Tp p.Z6[k].aam
  generalize fM p.Z6[k].name (kM p k)=e at*
  generalize gx p.Z6[k].aam=g at*
  simp -implicitDefEqProofs [e1,e5,e6,hlt]
  refine aL c ?_
  simp -implicitDefEqProofs [e1,e5,e6,hlt]
  refine⟨by omega,by omega,?_⟩
  refine c8 (fun he=> ?_) (fun he=> ?_)
  ·have h0:e=0:=by simpa using he
   subst h0
   rw[if_pos rfl] at hf
   simp -implicitDefEqProofs [e1,e6,hlt]
   refine aL cf ?_
   simp -implicitDefEqProofs
   refine c8 (fun he=> ?_) (fun he=> ?_)
   ·have hg:g≠0:=by simpa using he
    have hx:=tq (by rw[hf];exact hg)
    rw[hx,hf,if_pos hg] at hR
    simp -implicitDefEqProofs [r4,hR,e6]
   ·have hg:g=0:=by simpa using he
    simp -implicitDefEqProofs [e6]
    refine⟨i64 (by omega) (by omega),bz hlt ⟨by simp[e1],by simp[Bf],by simp,fun j hj=> ?_⟩⟩
    rcases Nat.lt_succ_iff_lt_or_eq.1 hj with hj|rfl
    ·exact hno j hj
    ·rw[hf,hg]
  ·have h0:e≠0:=by simpa using he
   rw[if_neg h0] at hf
   have mU:(e != 0)=true:=by simp[h0]
   have hx:=tq (by rw[hf];exact h0)
   rw[hx,hf,if_pos h0] at hR
   simp -implicitDefEqProofs [mU,r4,hR,e6]
 obtain rfl:k=p.Z6.length:=by omega
 have hz:=wu hno
 rw[hz,if_neg (by simp)] at hR
 simp -implicitDefEqProofs [e1]
 refine aL c3 ?_
 by_cases h2:1≤p.bu.length∧p.bu.length≤4
 case neg=>
  rw[if_pos h2] at hR
  rw[decide_eq_false (by omega)]
  simp -implicitDefEqProofs [r4,hR]
 rw[if_neg (not_not_intro h2)] at hR
 rw[decide_eq_true (by omega)]
 clear hno hz hge e5 e6
 simp -implicitDefEqProofs
 refine bP p.bu.length (fun k st=>st.env 1=iP p∧st.env 5=.slice 1 ((kN p k).map S) 6∧st.env 8=I k∧∀j<k,pE p j=0) ?_ ?_
 ·simp[Tv,e1]
 rintro k st hk ⟨e1,e5,e8,hno⟩
 simp -implicitDefEqProofs [e1,e8]
 refine bY (fun hlt=> ?_) (fun hge=> ?_)
 ·have hlt:k<p.bu.length:=by omega
  have hf:pE p k=qV p.bu[k] (p.bu.take k):=by rw[pE,dif_pos hlt]
  have Bf:=Tx p k hlt
  have hlen:=Tz p k hlt
  have tq:pE p k≠0→fG p.bu.length (pE p)=((k:Int),pE p k):=fun h=>wq hlt h hno
  unfold qV at hf
  change pE p k=if fM p.bu[k].name (kN p k)=0 then _ else fM p.bu[k].name (kN p k) at hf
  have c:=Hr p.bu[k].name (kN p k)
  have cf:=adT p.bu[k].wide p.bu[k].high 1 2000
  generalize fM p.bu[k].name (kN p k)=e at*
  generalize n8 1 2000 p.bu[k].wide p.bu[k].high=g at*
  simp -implicitDefEqProofs [e1,e5,e8,hlt]
  refine aL c ?_
  simp -implicitDefEqProofs [e1,e5,e8,hlt]
  refine⟨by omega,by omega,?_⟩
  refine c8 (fun he=> ?_) (fun he=> ?_)
  ·have h0:e=0:=by simpa using he
   subst h0
   rw[if_pos rfl] at hf
   simp -implicitDefEqProofs [e1,e8,hlt]
   refine aL cf ?_
   simp -implicitDefEqProofs
   refine c8 (fun he=> ?_) (fun he=> ?_)
   ·have hg:g≠0:=by simpa using he
    have hx:=tq (by rw[hf];exact hg)
    rw[hx,hf,if_pos hg] at hR
    simp -implicitDefEqProofs [r4,hR,e8]
   ·have hg:g=0:=by simpa using he
    simp -implicitDefEqProofs [e8]
    refine⟨i64 (by omega) (by omega),bz hlt ⟨by simp[e1],by simp[Bf],by simp,fun j hj=> ?_⟩⟩
    rcases Nat.lt_succ_iff_lt_or_eq.1 hj with hj|rfl
    ·exact hno j hj
    ·rw[hf,hg]
  ·have h0:e≠0:=by simpa using he
   rw[if_neg h0] at hf
   have mU:(e != 0)=true:=by simp[h0]
   have hx:=tq (by rw[hf];exact h0)
   rw[hx,hf,if_pos h0] at hR
   simp -implicitDefEqProofs [mU,r4,hR,e8]
 obtain rfl:k=p.bu.length:=by omega
 have hz:=wu hno
 rw[hz,if_neg (by simp)] at hR
 simp -implicitDefEqProofs [e1]
 refine aL c5 ?_
 by_cases h3:0≤p.trim∧p.trim≤60
 case neg=>
  rw[if_pos (.inl h3)] at hR
  rw[decide_eq_false h3]
  simp -implicitDefEqProofs [r4,hR]
 rw[decide_eq_true h3]
 simp -implicitDefEqProofs [e1]
 refine aL c6 ?_
 by_cases h4:1≤p.Z7∧p.Z7≤4
 case neg=>
  rw[if_pos (.inr h4)] at hR
  rw[decide_eq_false h4]
  simp -implicitDefEqProofs [r4,hR]
 rw[if_neg (fun h=>h.elim (fun h=>h h3) fun h=>h h4)] at hR
 rw[decide_eq_true h4]
 simp -implicitDefEqProofs [r4,hR]
end Go.Proofs.YtmcdlpegncaihaaGreat.F
namespace Go.Proofs.YtmcdlpegncaihaaGreat.F
open Go.Z4
structure Lf where
 dO:Int
 col:Int
 row:Int
 inner:Bool
 Bg:Bool
deriving DecidableEq
abbrev Lf.cs(x:Lf):List AV:=[I x.dO,I x.col,I x.row,B x.inner,B x.Bg]
abbrev Lf.av(x:Lf):AV:=.agg x.cs
abbrev LL(l:List Lf):AV:=.slice 5 (l.map Lf.av) 0
structure Mk where
 format:Int
 jX:Int
 Z7:Int
 half:Bool
deriving DecidableEq
abbrev Mk.cs(m:Mk):List AV:=[I m.format,I m.jX,I m.Z7,B m.half]
abbrev Mk.av(m:Mk):AV:=.agg m.cs
structure Ln where
 col:Nat
 row:Nat
 x:Nat
 y:Nat
abbrev Ln.av(l:Ln):AV:=.agg [I l.col,I l.row,I l.x,I l.y]
def Hv(c:Nat)(p:List Ln):List Ln:=p.reverse.map fun l=>if c=120 then {l with x:=l.x+1} else {l with y:=l.y+1}
def TA(ps:List (List (List Ln)))(c:Nat):List (List (List Ln)):=
 if c=120 then ps.map fun row=>(List.range (row.length / 2)).map fun k=>row.getD k []++Hv c (row.getD (row.length - 1 - k) [])
 else (List.range (ps.length / 2)).map fun r=>(List.range (ps.getD r []).length).map fun k=>(ps.getD r []).getD k []++Hv c ((ps.getD (ps.length - 1 - r) []).getD k [])
def wz(f:List Nat)(c:Nat):Nat:=2^f.count c
def TB(f:List Nat)(half:Bool):List Ln:=
 let rows:=if half&&f.headD 0==121 then wz f 121 / 2 else wz f 121
 let TC:=if half&&f.headD 0==120 then wz f 120 / 2 else wz f 120
 let start:=(List.range rows).map fun r=>(List.range TC).map fun c=>[⟨c,r,0,0⟩]
 (((if half then f.tail else f).foldl TA start).getD 0 []).getD 0 []
def TD(f:List Nat)(s:Int)(l:Ln):Lf:=⟨s,l.col,l.row,(l.x+l.y)%2==1,(if f.getLastD 0==120 then l.y else l.x)%2==1⟩
def js(f:List Nat)(half:Bool):List Lf:=(TB f half).map (TD f 0)
def words:Nat→List (List Nat)
 |0=>[[]]
 |n+1=>(words n).map (120:: ·)++(words n).map (121:: ·)
def n_:List (List Nat):=words 1++words 2++words 3++words 4
def codes(s:ByteArray):List Nat:=s.data.toList.map UInt8.toNat
def wA(w:List Nat):ByteArray:=⟨(w.map UInt8.ofNat).toArray⟩
theorem Hw:∀(n:Nat) (w:List Nat),w.length=n→(∀c∈w,c=120∨c=121)→w∈words n
 |0,[],_,_=>by simp[words]
 |n+1,c::w,hl,hc=>by
  have h:=Hw n w (by simpa using hl) (fun d hd=>hc d (by simp[hd]))
  rcases hc c (by simp) with rfl|rfl<;>simp[words,h]
theorem TE(s:ByteArray):wA (codes s)=s:=by
 cases s with
 |mk a=>
  unfold wA codes
  rw[List.map_map]
  have:(UInt8.ofNat∘UInt8.toNat)=id:=by funext x;simp
  rw[this,List.map_id]
theorem TF(s:ByteArray)(k:Nat):bt s k=(codes s).getD k 0:=by
 unfold bt codes
 simp only[List.getD_eq_getElem?_getD,List.getElem?_map]
 cases s.data.toList[k]? <;>simp
theorem TG{s:ByteArray}(h:gx s=0):codes s∈n_:=by
 unfold gx at h
 by_cases h1:1≤s.size∧s.size≤4
 case neg=>rw[if_neg h1] at h;cases h
 rw[if_pos h1] at h
 by_cases h2:∀k<s.size,eE (bt s k)=true
 case neg=>rw[if_neg h2] at h;cases h
 have hl:(codes s).length=s.size:=by simp[codes]
 have hc:∀c∈codes s,c=120∨c=121:=fun c hc=>by
  obtain⟨k,hk,rfl⟩:=List.mem_iff_getElem.1 hc
  have:=h2 k (by omega)
  rw[TF,List.getD_eq_getElem?_getD,List.getElem?_eq_getElem hk] at this
  simpa[eE] using this
 have hm:=Hw _ (codes s) rfl hc
 unfold n_
 simp only[List.mem_append]
 have:(codes s).length=1∨(codes s).length=2∨(codes s).length=3∨(codes s).length=4:=by omega
 rcases this with e|e|e|e<;>rw[e] at hm<;>simp[hm]
end Go.Proofs.YtmcdlpegncaihaaGreat.F
namespace Go.Proofs.YtmcdlpegncaihaaGreat.F
open Go.Z4
def gy(p:bA)(m:Mk):ByteArray:=(p.Z6.map Fmt.aam).getD m.format.toNat ⟨#[]⟩
def lJ(p:bA)(m:Mk):Int:=
 if¬(0≤m.format∧m.format≤(p.Z6.length:Int) - 1)∨¬(0≤m.jX∧m.jX≤(p.bu.length:Int) - 1) then 4
 else if¬(1≤m.Z7∧m.Z7≤p.Z7) then 7
 else if m.half=true∧(m.Z7≠1∨(gy p m).size<2) then 2 else 0
def gU(p:bA):Int:=(lI p).2.2
def ew(p:bA)(m:Mk):Int:=if gU p≠0 then gU p else lJ p m
def Hx:bA:=⟨[],[],0,0⟩
def pOr(p:bA):bA:=if gU p≠0 then Hx else p
theorem Hy{n:Nat}{e:Nat→Int}(h:(fG n e).2=0):∀i<n,e i=0:=by
 intro i hi
 unfold fG at h
 cases hf:(List.range n).find? fun i=>e i != 0 with
 |some j=>
  rw[hf] at h
  have:=List.find?_some hf
  simp at this h
  exact(this h).elim
 |none=>
  rw[List.find?_eq_none] at hf
  simpa using hf i (by simpa using hi)
structure jt (p:bA):Prop where
 Z6:1≤p.Z6.length∧p.Z6.length≤6
 aam:∀i (h:i<p.Z6.length),codes p.Z6[i].aam∈n_
 bu:1≤p.bu.length∧p.bu.length≤4
 wide:∀i (h:i<p.bu.length),n8 1 2000 p.bu[i].wide p.bu[i].high=0
 trim:0≤p.trim∧p.trim≤60
 Z7:1≤p.Z7∧p.Z7≤4
theorem abP{p:bA}(h:gU p=0):jt p:=by
 unfold gU lI at h
 split at h
 ·cases h
 rename_i h1
 split at h
 ·rename_i h2;exact(h2 h).elim
 rename_i h2
 split at h
 ·cases h
 rename_i h3
 split at h
 ·rename_i h4;exact(h4 h).elim
 rename_i h4
 split at h
 ·cases h
 rename_i h5
 refine⟨Decidable.of_not_not h1,fun i hi=> ?_,Decidable.of_not_not h3,fun i hi=> ?_,Decidable.of_not_not fun h=>h5 (.inl h),Decidable.of_not_not fun h=>h5 (.inr h)⟩
 ·have:=Hy (Decidable.of_not_not h2) i hi
  unfold fE at this
  rw[dif_pos hi] at this
  unfold qT at this
  split at this
  ·exact TG this
  ·rename_i h;exact(h this).elim
 ·have:=Hy (Decidable.of_not_not h4) i hi
  unfold pE at this
  rw[dif_pos hi] at this
  unfold qV at this
  split at this
  ·exact this
  ·rename_i h;exact(h this).elim
structure kO (p:bA) (m:Mk):Prop where
 fmt:0≤m.format∧m.format≤(p.Z6.length:Int) - 1
 Zu:0≤m.jX∧m.jX≤(p.bu.length:Int) - 1
 Z7:1≤m.Z7∧m.Z7≤p.Z7
 half:m.half=true→m.Z7=1∧2≤(gy p m).size
theorem tr{p:bA}{m:Mk}(h:lJ p m=0):kO p m:=by
 unfold lJ at h
 split at h
 ·cases h
 rename_i h1
 split at h
 ·cases h
 rename_i h2
 split at h
 ·cases h
 rename_i h3
 exact⟨Decidable.of_not_not fun h=>h1 (.inl h),Decidable.of_not_not fun h=>h1 (.inr h),Decidable.of_not_not h2,fun hh=>by
  have:¬(m.Z7≠1∨(gy p m).size<2):=fun h=>h3 ⟨hh,h⟩
  omega⟩
theorem lK{p:bA}{m:Mk}(h:ew p m=0):gU p=0∧lJ p m=0:=by
 unfold ew at h
 split at h
 ·rename_i h1;exact(h1 h).elim
 ·rename_i h1;exact⟨Decidable.of_not_not h1,h⟩
theorem Bh{p:bA}{m:Mk}{k:Nat}(hk:m.format=k)(h:k<p.Z6.length):gy p m=p.Z6[k].aam:=by
 unfold gy
 rw[hk]
 simp[List.getD_eq_getElem?_getD,h]
theorem TH{p:bA}{m:Mk}(hp:jt p)(h:kO p m):codes (gy p m)∈n_:=by
 obtain⟨k,hk⟩:∃k:Nat,m.format=k:=⟨m.format.toNat,by have:=h.fmt;omega⟩
 have hl:k<p.Z6.length:=by have:=h.fmt;omega
 rw[Bh hk hl]
 exact hp.aam k hl
theorem Hz(p:bA)(m:Mk)(h:0≤m.format∧m.format≤(p.Z6.length:Int) - 1):aG Tryz.prog 55 [p.av,m.av] (S (gy p m)):=by
 refine pc t55 (by simp) fun hfit=> ?_
 obtain⟨k,hk⟩:∃k:Nat,m.format=k:=⟨m.format.toNat,by omega⟩
 have hl:k<p.Z6.length:=by omega
 rw[Bh hk hl]
 simp -implicitDefEqProofs [AM,hk,hl,AN]
theorem TI(p:bA)(m:Mk):aG Tryz.prog 72 [p.av,m.av] (I (lJ p m)):=by
 refine pc t72 (by simp) fun hfit=> ?_
 have jd:p.Z6.length≤140737488355328:=by simpa using aaJ (pG (hfit 0) 0)
 have gu:p.bu.length≤140737488355328:=by simpa using aaJ (pG (hfit 0) 1)
 have c1:=jW 0 ((p.Z6.length:Int) - 1) [m.format]
 have c2:=jW 0 ((p.bu.length:Int) - 1) [m.jX]
 have c3:=jW 1 p.Z7 [m.Z7]
 rw[wo] at c1 c2 c3
 obtain⟨R,hR⟩:∃R,R=lJ p m:=⟨_,rfl⟩
 rw[←hR]
 unfold lJ at hR
 simp -implicitDefEqProofs [AP]
 refine⟨i64 (by omega) (by omega),?_⟩
 refine aL c1 ?_
 by_cases h1:0≤m.format∧m.format≤(p.Z6.length:Int) - 1
 case neg=>
  rw[if_pos (.inl h1)] at hR
  rw[decide_eq_false h1]
  simp -implicitDefEqProofs [mS,hR]
 rw[decide_eq_true h1]
 simp -implicitDefEqProofs
 refine⟨i64 (by omega) (by omega),?_⟩
 refine aL c2 ?_
 by_cases h2:0≤m.jX∧m.jX≤(p.bu.length:Int) - 1
 case neg=>
  rw[if_pos (.inr h2)] at hR
  rw[decide_eq_false h2]
  simp -implicitDefEqProofs [mS,hR]
 rw[if_neg (fun h=>h.elim (fun h=>h h1) fun h=>h h2)] at hR
 rw[decide_eq_true h2]
 simp -implicitDefEqProofs
 refine aL c3 ?_
 by_cases h3:1≤m.Z7∧m.Z7≤p.Z7
 case neg=>
  rw[if_pos h3] at hR
  rw[decide_eq_false h3]
  simp -implicitDefEqProofs [mS,hR]
 rw[if_neg (not_not_intro h3)] at hR
 rw[decide_eq_true h3]
 simp -implicitDefEqProofs
 have c4:=Hz p m h1
 generalize gy p m=f at*
 cases hh:m.half with
 |false=>
  rw[hh,if_neg (by simp)] at hR
  simp -implicitDefEqProofs [mS,hR]
 |true=>
  rw[hh] at hR
  by_cases h4:m.Z7=1
  ·have pJ:(m.Z7 != 1)=false:=by simp[h4]
   simp -implicitDefEqProofs [pJ]
   have TJ:aG Tryz.prog 55 [p.av,.agg [I m.format,I m.jX,I m.Z7,B true]] (S f):=by rw[←hh];exact c4
   refine aL TJ ?_
   by_cases h5:f.size<2
   ·rw[if_pos ⟨rfl,.inr h5⟩] at hR
    have pK:(f.size:Int)<2:=by omega
    simp -implicitDefEqProofs [mS,hR,pK]
   ·rw[if_neg (by simp[h4,h5])] at hR
    have pK:¬(f.size:Int)<2:=by omega
    simp -implicitDefEqProofs [mS,hR,pK]
  ·have pJ:(m.Z7 != 1)=true:=by simp[h4]
   rw[if_pos ⟨rfl,.inl h4⟩] at hR
   simp -implicitDefEqProofs [pJ,mS,hR]
theorem HA(p:bA)(m:Mk):aG Tryz.prog 42 [p.av,m.av] (.tuple [(pOr p).av,I (ew p m)]):=by
 refine pc t42 (by simp) fun hfit=> ?_
 have c1:=Tt p
 have c2:=TI p m
 unfold pOr ew gU
 generalize lI p=e at*
 generalize lJ p m=g at*
 simp -implicitDefEqProofs [AH]
 intro b1
 refine aL c1 ?_
 simp -implicitDefEqProofs
 refine c8 (fun he=> ?_) (fun he=> ?_)
 ·have h0:e.2.2≠0:=by simpa using he
  simp -implicitDefEqProofs [h0,vZ,Hx]
 ·have h0:e.2.2=0:=by simpa using he
  simp -implicitDefEqProofs
  intro b2 cF
  have vq:¬b1=b2:=fun h=>cF h.symm
  refine aL c2 ?_
  simp -implicitDefEqProofs [h0,vZ,vq]
end Go.Proofs.YtmcdlpegncaihaaGreat.F
namespace Go.Proofs.YtmcdlpegncaihaaGreat.F
open Go.Z4
theorem TK(l r y:List AV)(o:Nat)(h:l.length=o):∀(z:List AV),y.length=z.length→splice (l++(z++r)) o y=l++(y++r):=by
 induction y generalizing l o with
 |nil=>intro z hz;have:z=[]:=List.length_eq_zero_iff.1 hz.symm;subst this;rfl
 |cons v y ih=>
  intro z hz
  cases z with
  |nil=>simp at hz
  |cons w z=>
   have:=ih (l++[v]) (o+1) (by simp[h]) z (by simpa using hz)
   rw[zB]
   have e:(l++(w::z++r)).set o v=(l++[v])++(z++r):=by
    subst h
    simp
   rw[e,this]
   simp
theorem TL{n:Nat}(y:List AV)(hy:y.length=n):∀(ls:List (List AV)) (j:Nat),(∀l∈ls,l.length=n)→j<ls.length→splice ls.flatten (j*n) y=(ls.set j y).flatten:=by
 intro ls j hl hj
 have e:ls.flatten=(ls.take j).flatten++(ls[j]++(ls.drop (j+1)).flatten):=by
  have e0:ls.flatten=(ls.take j++ls.drop j).flatten:=by rw[List.take_append_drop]
  rw[e0,List.drop_eq_getElem_cons hj,List.flatten_append,List.flatten_cons]
 have h1:(ls.take j).flatten.length=j*n:=by
  rw[List.length_flatten]
  have:∀(m:List (List AV)),(∀l∈m,l.length=n)→(m.map List.length).sum=m.length*n:=by
   intro m hm
   induction m with
   |nil=>simp
   |cons a m ih=>simp[ih fun l hl=>hm l (by simp[hl]),hm a (by simp),Nat.succ_mul,Nat.add_comm]
  rw[this _ fun l h=>hl l (List.mem_of_mem_take h)]
  rw[List.length_take,Nat.min_eq_left (by omega)]
 rw[e,TK _ _ _ _ h1 _ (by rw[hy,hl _ (List.getElem_mem hj)])]
 rw[List.set_eq_take_append_cons_drop,if_pos hj]
 simp
def tu:Lf:=⟨0,0,0,false,false⟩
def ie(xs:List Lf):List AV:=(xs.map Lf.cs).flatten
@[simp] theorem Zv (xs:List Lf):(ie xs).length=xs.length*5:=by
 induction xs with
 |nil=>rfl
 |cons x xs ih=>
  have:ie (x::xs)=x.cs++ie xs:=rfl
  rw[this,List.length_append,ih]
  show 5+xs.length*5=(xs.length+1)*5
  omega
theorem HB(xs:List Lf)(j:Nat)(x:Lf)(h:j<xs.length):splice (ie xs) (j*5) x.cs=ie (xs.set j x):=by
 unfold ie
 have:=TL (n:=5) x.cs rfl (xs.map Lf.cs) j (fun l hl=>by obtain⟨y,_,rfl⟩:=List.mem_map.1 hl;rfl) (by simpa using h)
 rw[this,←List.map_set]
theorem HC:∀(xs:List Lf),chunk 5 (ie xs) xs.length=xs.map Lf.av
 |[]=>rfl
 |x::xs=>by
  have ih:=HC xs
  simp only[List.length_cons,chunk]
  rw[show(ie (x::xs)).drop 5=ie xs from rfl,ih]
  rfl
theorem TM(xs:List Lf):(ie xs).all AV.bE=true:=by
 induction xs with
 |nil=>rfl
 |cons x xs ih=>
  have:ie (x::xs)=x.cs++ie xs:=rfl
  rw[this,List.all_append,ih];rfl
theorem HD(s:St)(d b o:Nat):aap s d (.aj b o)=s.set d (.aj b o):=rfl
theorem HE(s:St)(d b o l c z:Nat):aap s d (.aq b o l c z)=s.set d (.aq b o l c z):=rfl
theorem HF(s:St)(d b:Nat):aap s d (.aZ b)=s.set d (.aZ b):=rfl
theorem TN(s:St)(d:Nat):aap s d .any=s.set d .any:=rfl
theorem TO(r b o l c z:Nat):az r (.aq b o l c z)=.aq b o l c z:=rfl
theorem HG(r b:Nat):az r (.aZ b)=.aZ b:=rfl
theorem TP(b o l c z:Nat):(AV.aq b o l c z).erase=.aq b o l c z:=rfl
theorem HH(b:Nat):(AV.aZ b).erase=.aZ b:=rfl
theorem TQ(b o l c z:Nat):(AV.aq b o l c z).cells=[.aq b o l c z]:=rfl
theorem HI(b:Nat):(AV.aZ b).cells=[.aZ b]:=rfl
attribute [simp] HD HE HF TN TO HG TP HH TQ HI
def oc(P:Program)(ms:List au)(K:St→Prop)(s:St)(k v:AV)(n:Option Nat):AV→Prop
 |.aZ b=>∃es,s.env (oS+b)=a_ es∧eL n k∧match Z8 k es 0 with
   |some (some i)=>vcs P ms K (s.set (oS+b) (a_ (es.set i [k,v])))
   |some none=>vcs P ms K (s.set (oS+b) (a_ (es++[[k,v]])))
   |none=>False
 |_=>False
theorem Bi(P:Program)(ms:List au)(K:St→Prop)(s:St)(x k v:ai)(n:Option Nat):vcs P (.gG x k v n::ms) K s=oc P ms K s (k.ev s.env).erase (v.ev s.env).erase n (x.ev s.env):=by unfold oc;rfl
def od(P:Program)(ms:List au)(K:St→Prop)(s:St)(d:Nat)(k:AV)(n:Option Nat)(ok:Bool)(zero:AV):AV→Prop
 |.aZ b=>∃es,s.env (oS+b)=a_ es∧eL n k∧match Z8 k es 0 with
   |some (some i)=>vcs P ms K (s.set d (if ok then .tuple [((es.getD i []).getD 1 .any),.lit (.bool true)] else ((es.getD i []).getD 1 .any).erase))
   |some none=>vcs P ms K (s.set d (if ok then .tuple [zero,.lit (.bool false)] else zero.erase))
   |none=>False
 |.fmap es=>eL n k∧match Z8 k es 0 with
   |some (some i)=>vcs P ms K (s.set d (if ok then .tuple [((es.getD i []).getD 1 .any),.lit (.bool true)] else ((es.getD i []).getD 1 .any).erase))
   |some none=>vcs P ms K (s.set d (if ok then .tuple [zero,.lit (.bool false)] else zero.erase))
   |none=>False
 |_=>False
theorem Bj(P:Program)(ms:List au)(K:St→Prop)(s:St)(d:Nat)(x k:ai)(n:Option Nat)(ok:Bool)(zero:AV):vcs P (.lookup d x k n ok zero::ms) K s=od P ms K s d (k.ev s.env).erase n ok zero (x.ev s.env):=by unfold od;rfl
attribute [simp] Bi Bj
end Go.Proofs.YtmcdlpegncaihaaGreat.F
namespace Go.Proofs.YtmcdlpegncaihaaGreat.F
open Go.Z4
def tv(n N s i:Nat):Nat:=if i<n then s*n+i else N - (s+2)*n+i
def acz(L:List Lf)(N s:Nat)(xs:List Lf)(i:Nat):List Lf:=xs.set (tv (L.length / 2) N s i) {L.getD i tu with dO:=(s:Int)}
def jY(L:List Lf)(N s k:Nat)(xs:List Lf):List Lf:=(List.range k).foldl (acz L N s) xs
def aa8(L:List Lf)(N k:Nat):List Lf:=(List.range k).foldl (fun xs s=>jY L N s L.length xs) (List.replicate N tu)
theorem TR(L:List Lf)(N s:Nat)(xs:List Lf):jY L N s 0 xs=xs:=rfl
theorem Bk(L:List Lf)(N s k:Nat)(xs:List Lf):jY L N s (k+1) xs=acz L N s (jY L N s k xs) k:=by unfold jY;rw[List.range_succ,List.foldl_append];rfl
theorem HJ(L:List Lf)(N k:Nat):aa8 L N (k+1)=jY L N k L.length (aa8 L N k):=by unfold aa8;rw[List.range_succ,List.foldl_append];rfl
theorem tA(L:List Lf)(N s k:Nat)(xs:List Lf):(jY L N s k xs).length=xs.length:=by
 induction k with
 |zero=>rfl
 |succ k ih=>rw[Bk];unfold acz;rw[List.length_set,ih]
theorem qW(L:List Lf)(N k:Nat):(aa8 L N k).length=N:=by
 induction k with
 |zero=>simp[aa8]
 |succ k ih=>rw[HJ,tA,ih]
theorem TS{S n s i:Nat}(hs:s<S)(hi:n≤i)(hi2:i<2*n):(s+2)*n≤S*(2*n)∧(s+2)*n≤S*(2*n)+n∧s*n≤S*n∧S*(2*n) - (s+2)*n+i<S*(2*n)∧n≤S*n:=by
 obtain⟨d,rfl⟩:∃d,S=s+1+d:=⟨S - s - 1,by omega⟩
 have e1:(s+1+d)*(2*n)=2*(s*n)+2*n+2*(d*n):=by rw[Nat.add_mul,Nat.add_mul,Nat.mul_left_comm s,Nat.mul_left_comm d];omega
 have e2:(s+1+d)*n=s*n+n+d*n:=by rw[Nat.add_mul,Nat.add_mul];omega
 have e3:(s+2)*n=s*n+2*n:=Nat.add_mul ..
 omega
theorem TT(p:bA)(m:Mk)(S n:Nat)(L:List Lf)(hf:0≤m.format∧m.format≤(p.Z6.length:Int) - 1)(hm:m.Z7=S)(hS:1≤S∧S≤4)(hL:L.length=2*n)(hn:n≤8)(wB:aG Tryz.prog 73 [YtmcdlpegncaihaaGreat.F.S (gy p m),B m.half] (LL L)):aG Tryz.prog 43 [p.av,m.av] (LL (aa8 L (S*L.length) S)):=by
 refine pc t43 (by simp) fun hfit=> ?_
 have c1:=Hz p m hf
 generalize gy p m=f at*
 have Zw:S*n≤32:=Nat.le_trans (Nat.mul_le_mul hS.2 hn) (by omega)
 have hN:S*L.length=2*(S*n):=by rw[hL,Nat.mul_left_comm]
 have TU:(S:Int)*(L.length:Int)=((S*L.length:Nat):Int):=by simp
 obtain⟨mf,mp,ms,mh⟩:=m
 obtain rfl:ms=(S:Int):=hm
 simp -implicitDefEqProofs [AI]
 refine aL c1 ?_
 simp -implicitDefEqProofs
 refine aL wB ?_
 have hq:((L.length:Int)).tdiv 2=(n:Int):=by rw[hL,Int.tdiv_eq_ediv_of_nonneg (by omega)];omega
 simp -implicitDefEqProofs [hq]
 rw[TU]
 generalize TV:S*L.length=N at*
 refine⟨i64 (by omega) (by omega),i64 (by omega) (by omega),by omega,by omega,by omega,by omega,?_⟩
 intro b
 refine bP S (fun k s=>s.env 5=LL L∧s.env 6=I n∧s.env 7=.aq b 0 N N 5∧s.loc b=some (ie (aa8 L N k))∧s.env 27=I S∧s.env 28=I k) ?_ ?_
 ·simp[aa8,tu,ie]
 rintro k s hk ⟨e5,e6,e7,el,bJ,gz⟩
 simp -implicitDefEqProofs [bJ,gz]
 refine bY (fun hlt=> ?_) (fun hge=> ?_)
 ·have hlt:k<S:=by omega
  simp -implicitDefEqProofs [gz,e5]
  refine bP L.length (fun j s=>s.env 5=LL L∧s.env 6=I n∧s.env 7=.aq b 0 N N 5∧s.loc b=some (ie (jY L N k j (aa8 L N k)))∧s.env 27=I S∧s.env 28=I k∧s.env 8=I k∧s.env 31=LL L∧s.env 32=I L.length∧s.env 33=I j) ?_ ?_
  ·simp[e5,e6,e7,el,bJ,gz,TR]
  clear el e5 e6 e7 bJ gz
  rintro j s hj ⟨e5,e6,e7,el,bJ,gz,e8,gA,iQ,cr⟩
  simp -implicitDefEqProofs [iQ,cr]
  refine bY (fun cq=> ?_) (fun wC=> ?_)
  ·have cq:j<L.length:=by omega
   simp -implicitDefEqProofs [e5,e6,e7,el,bJ,gz,e8,gA,iQ,cr,cq]
   intro b2 cF
   have hb:¬b2=b:=fun h=>by subst h;rw[el] at cF;cases cF
   have hb':¬b=b2:=fun h=>hb h.symm
   refine bY (fun vr=> ?_) (fun Zx=> ?_)
   ·simp -implicitDefEqProofs [e5,e6,e7,el,bJ,gz,e8,gA,iQ,cr,cq,hb,hb']
    obtain⟨a,ha⟩:∃a:Nat,a=k*n:=⟨_,rfl⟩
    have Bl:(k:Int)*(n:Int)=(a:Int):=by rw[ha];simp
    rw[Bl]
    have hkn:a+n≤S*n:=by
     have:=Nat.mul_le_mul_right n (show k+1≤S by omega)
     rw[Nat.succ_mul] at this
     omega
    have hp:tv (L.length / 2) N k j=a+j:=by rw[hL,Nat.mul_div_cancel_left _ (by omega)];unfold tv;rw[if_pos (by omega),ha]
    have hj2:((a:Int)+(j:Int)).toNat=a+j:=by omega
    rw[tA,qW]
    refine⟨i64 (by omega) (by omega),i64 (by omega) (by omega),by omega,by omega,by omega,i64 (by omega) (by omega),bz cq ?_⟩
    have hput:jY L N k (j+1) (aa8 L N k)=(jY L N k j (aa8 L N k)).set (a+j) {L[j] with dO:=(k:Int)}:=by rw[Bk];unfold acz;rw[hp];simp[List.getD_eq_getElem?_getD,cq]
    rw[hput,←HB _ _ _ (by rw[tA,qW];omega)]
    refine⟨by simp[e5],by simp[e6],by simp[e7],?_,by simp[bJ],by simp[gz],by simp[e8],by simp[gA],by simp[iQ],by simp⟩
    simp[hj2,hb,hb',el]
   ·simp -implicitDefEqProofs [e5,e6,e7,el,bJ,gz,e8,gA,iQ,cr,cq,hb,hb']
    obtain⟨a,ha⟩:∃a:Nat,a=(k+2)*n:=⟨_,rfl⟩
    have Bl:((k:Int)+2)*(n:Int)=(a:Int):=by rw[ha];simp
    rw[Bl]
    have hpf:=TS (S:=S) (n:=n) (s:=k) (i:=j) hlt (by omega) (by omega)
    rw[←hL,TV,←ha] at hpf
    have hd:L.length / 2=n:=by omega
    have TW:¬j<n:=by omega
    have hp:tv (L.length / 2) N k j=N - a+j:=by rw[hd];unfold tv;rw[if_neg TW,ha]
    have hj2:((N:Int) - (a:Int)+(j:Int)).toNat=N - a+j:=by omega
    rw[tA,qW]
    refine⟨i64 (by omega) (by omega),i64 (by omega) (by omega),i64 (by omega) (by omega),i64 (by omega) (by omega),by omega,by omega,by omega,i64 (by omega) (by omega),bz cq ?_⟩
    have hput:jY L N k (j+1) (aa8 L N k)=(jY L N k j (aa8 L N k)).set (N - a+j) {L[j] with dO:=(k:Int)}:=by rw[Bk];unfold acz;rw[hp];simp[List.getD_eq_getElem?_getD,cq]
    rw[hput,←HB _ _ _ (by rw[tA,qW];omega)]
    refine⟨by simp[e5],by simp[e6],by simp[e7],?_,by simp[bJ],by simp[gz],by simp[e8],by simp[gA],by simp[iQ],by simp⟩
    simp[hj2,hb,hb',el]
  ·obtain rfl:j=L.length:=by omega
   rw[←HJ] at el
   simp -implicitDefEqProofs [gz]
   exact⟨i64 (by omega) (by omega),bz hlt ⟨by simp[e5],by simp[e6],by simp[e7],by simp[el],by simp[bJ],by simp⟩⟩
 ·obtain rfl:k=S:=by omega
  simp -implicitDefEqProofs [e7,el,TM]
  have hch:=HC (aa8 L N k)
  rw[qW] at hch
  simp -implicitDefEqProofs [qW,hch,AJ]
  exact⟨by omega,rfl⟩
end Go.Proofs.YtmcdlpegncaihaaGreat.F
