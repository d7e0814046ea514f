/- Contracts of small functions: outside, the reference's in. Contracts on names: the program's and the reference's. Contracts on names that are met twice. Presses and books, as the program's values; the closures of Check. Contracts on spans, and the functions that look for a first error. Contracts: the first thing with an error; the closures of Check and CheckBook. Check and CheckBook of the program return what is said in plain words. Check and CheckBook of the reference return the same plain words. How the leaves of a sheet lie, in plain words. Ways of making, and what makes a press right; the program's check, enter and folds. Rows of cells that are written, element by element; maps. The leaves of a gathering: the program's walk. -/
import Derived.Test.YtnncgmimhdplfaaGreatZE
namespace Go.Proofs.YtnncgmimhdplfaaGreat.F
open Go.aq
abbrev I(n:Int):AV:=.lit (.int .i64 n)
abbrev B(b:Bool):AV:=.lit (.bool b)
abbrev S(s:ByteArray):AV:=.lit (.string s)
abbrev IL(l:List Int):AV:=.slice 1 (l.map I) 0
theorem cY{sz:Nat}{xs:List AV}{r:Nat}(h:Fits (.slice sz xs r)):xs.length≤140737488355328:=by
 obtain⟨w,A,v,h⟩:=h
 cases h with
 |de=>simp
 |slice _ _ _ b off cap vs hsz h1c hcap hlen hc hr=>exact hlen
theorem ael{α:Type}{l:List α}{k:Nat}(h:k<l.length):l.take (k+1)=l.take k++[l[k]]:=List.take_succ_eq_append_getElem h
@[simp] theorem WR (b k:Nat) (h:k<1000001):(1000001+b=k)=False:=by simp;omega
@[simp] theorem WS (b k:Nat) (h:k<1000001):(k=1000001+b)=False:=by simp;omega
@[simp] theorem WT (b:Nat):(1000000≤1000001+b)=True:=by simp;omega
theorem DL(loc:Nat→Option (List AV))(cs:List AV)(K:AV→Prop):cJ loc (.ref cs) none K=(0<cs.length∧K (cs.getD 0 .any).erase):=rfl
theorem DM(loc:Nat→Option (List AV))(cs:List AV)(n:Nat)(K:AV→Prop):cJ loc (.ref cs) (some n) K=(0+n≤cs.length∧K (AV.agg ((cs.drop 0).take n)).erase.erase):=rfl
theorem DN(loc:Nat→Option (List AV))(b o:Nat)(n:Option Nat)(K:AV→Prop):cJ loc (.au b o) n K=(match loc b with|some cs=>cx cs o n K|none=>False):=rfl
theorem DO(cs:List AV)(o:Nat)(K:AV→Prop):cx cs o none K=(o<cs.length∧K (cs.getD o .any)):=rfl
theorem DP(cs:List AV)(o n:Nat)(K:AV→Prop):cx cs o (some n) K=(o+n≤cs.length∧K (AV.agg ((cs.drop o).take n)).erase):=rfl
attribute [simp] DL DM DN DO DP
def firstAt{α:Type}(p:α→Bool)(l:List α):Int:=match l.findIdx? p with
 |some i=>i
 |none=> -1
theorem oL{α:Type}{p:α→Bool}{l:List α}{k:Nat}(hk:k<l.length)(h:p l[k]=true)(hno:∀x∈l.take k,p x=false):firstAt p l=k:=by
 have:l.findIdx? p=some k:=by
  rw[List.findIdx?_eq_some_iff_getElem]
  refine⟨hk,h,fun j hj=> ?_⟩
  have:=hno l[j] (List.mem_take_iff_getElem.2 ⟨j,by omega,rfl⟩)
  simp[this]
 simp[firstAt,this]
theorem agx{α:Type}{p:α→Bool}{l:List α}(hno:∀x∈l,p x=false):firstAt p l= -1:=by
 have:l.findIdx? p=none:=by rw[List.findIdx?_eq_none_iff];simpa using hno
 simp[firstAt,this]
theorem DQ(l:List Int)(f:FuncId)(caps:List AV)(p:Int→Bool)(hp:∀x∈l,aed Tryz.prog f (I x::caps) (B (p x))):aed Tryz.prog 128 [IL l,.func (.func f) [] caps] (I (firstAt p l)):=by
 refine pc t128 (by simp) fun hfit=> ?_
 have hl:=cY (hfit 0)
 simp only[List.length_map] at hl
 simp -implicitDefEqProofs [yG]
 refine aef l.length (fun k s=>s.env 0=IL l∧s.env 1=.func (.func f) [] caps∧s.env 7=I l.length∧s.env 8=I k∧∀x∈l.take k,p x=false) ?_ ?_
 ·simp
 ·rintro k s hk ⟨e0,e1,e7,e8,hno⟩
  simp -implicitDefEqProofs [e7,e8]
  refine bA (fun hlt=> ?_) (fun hge=> ?_)
  ·simp -implicitDefEqProofs [e0,e1,e8,hlt,ng]
   refine aj (hp l[k] (List.getElem_mem _)) ?_
   simp -implicitDefEqProofs
   refine bR (fun he=> ?_) (fun he=> ?_)
   ·have hc:=oL hlt he hno
    simp -implicitDefEqProofs [rZ,hc]
   ·simp -implicitDefEqProofs [e8]
    refine⟨i64 (by omega) (by omega),aQ hlt ⟨by simp[e0],by simp[e1],by simp[e7],by simp,?_⟩⟩
    intro x hx
    rw[ael hlt,List.mem_append,List.mem_singleton] at hx
    rcases hx with hx|rfl
    ·exact hno x hx
    ·exact he
  ·obtain rfl:k=l.length:=by omega
   rw[List.take_length] at hno
   have hc:=agx hno
   simp -implicitDefEqProofs [rZ,hc]
theorem agy{α:Type}(p:α→Bool)(l:List α):decide (0≤firstAt p l)=l.any p:=by
 unfold firstAt
 cases h:l.findIdx? p with
 |none=>
  rw[List.findIdx?_eq_none_iff] at h
  simpa using h
 |some i=>
  obtain⟨hi,hp,_⟩:=List.findIdx?_eq_some_iff_getElem.1 h
  simp
  exact⟨_,List.getElem_mem hi,hp⟩
theorem DR(n lo hi:Int):aed Tryz.prog 104 [I n,.ref [I lo],.ref [I hi]] (B (decide (n<lo)||decide (hi<n))):=by
 refine pc t104 (by simp) fun _=> ?_
 by_cases h:n<lo<;>simp -implicitDefEqProofs [Dx,Dy,h,uG,lp]
theorem DS(l:List Int)(f:FuncId)(caps:List AV)(p:Int→Bool)(hp:∀x∈l,aed Tryz.prog f (I x::caps) (B (p x))):aed Tryz.prog 103 [IL l,.func (.func f) [] caps] (B (l.any p)):=by
 refine pc t103 (by simp) fun _=> ?_
 simp -implicitDefEqProofs [yx]
 refine aj (DQ l f caps p hp) ?_
 simp -implicitDefEqProofs [yy,agy]
def out(lo hi:Int)(l:List Int):Bool:=l.any fun n=>decide (n<lo)||decide (hi<n)
theorem aet(lo hi:Int)(l:List Int):aed Tryz.prog 66 [I lo,I hi,IL l] (B (out lo hi l)):=by
 refine pc t66 (by simp) fun _=> ?_
 simp -implicitDefEqProofs [m66]
 refine aj (DS l 104 [.ref [I lo],.ref [I hi]] _ fun x _=>DR x lo hi) ?_
 simp -implicitDefEqProofs [Da,out]
theorem afp(n lo hi:Int):aed Tryz.prog 17 [I n,I lo,I hi] (B (decide (lo≤n∧n≤hi))):=by
 refine pc t17 (by simp) fun _=> ?_
 by_cases h:lo≤n<;>simp -implicitDefEqProofs [JB,JC,h]
end Go.Proofs.YtnncgmimhdplfaaGreat.F
namespace Go.Proofs.YtnncgmimhdplfaaGreat.F
open Go.aq
def bt(s:ByteArray)(k:Nat):Nat:=(s.data.toList.getD k 0).toNat
theorem afU(s:ByteArray)(k:Nat)(h:k<s.data.size):(s.data[k]'h).toNat=bt s k:=by
 have:s.data[k]? =some (s.data[k]'h):=Array.getElem?_eq_getElem h
 simp[bt,List.getD_eq_getElem?_getD,this]
theorem WU(s:ByteArray)(k:Nat):bt s k<256:=UInt8.toNat_lt _
theorem vi(s:ByteArray){k:Nat}(h:k<s.size):(s.get! k).toNat=bt s k:=by
 cases s with
 |mk a=>
  have h':k<a.size:=h
  simp[ByteArray.get!,bt,List.getD_eq_getElem?_getD,h']
theorem yK{s:ByteArray}{k:Nat}(h:k<s.size)(hb:bt s k<128):Utf8.decode s k=(bt s k,1):=by
 have e:=vi s h
 unfold Utf8.decode
 simp only[Nat.add_zero,e,hb,if_true]
theorem yL{s:ByteArray}{k:Nat}(h:k<s.size)(hb:¬bt s k<128):128≤(Utf8.decode s k).1:=by
 have e:=vi s h
 unfold Utf8.decode
 simp only[Nat.add_zero,e,hb,if_false]
 repeat' split
 all_goals simp_all [Utf8.runeError]
 all_goals omega
def dK(c:Nat):Bool:=decide (97≤c∧c≤122)
def isDigit(c:Nat):Bool:=decide (48≤c∧c≤57)
def bO(k c:Nat):Bool:=dK c||(decide (0<k)&&(isDigit c||decide (c=46)))
def c_(s:ByteArray):Bool:=decide (0<s.size∧s.size≤16∧∀k<s.size,bO k (bt s k)=true)
theorem DT(c:Nat):aed Tryz.prog 99 [.lit (.int .u8 c)] (B (dK c)):=by
 refine pc t99 (by simp) fun _=> ?_
 by_cases h:97≤c
 ·have h':(97:Int)≤(c:Int):=by omega
  have e:dK c=decide ((c:Int)≤122):=by unfold dK;rw[decide_eq_decide];omega
  simp -implicitDefEqProofs [va,vb,h',e]
 ·have h':¬(97:Int)≤(c:Int):=by omega
  have e:dK c=false:=by unfold dK;simp;omega
  simp -implicitDefEqProofs [va,vb,h',e]
theorem DU(c:Nat):aed Tryz.prog 100 [.lit (.int .u8 c)] (B (isDigit c)):=by
 refine pc t100 (by simp) fun _=> ?_
 by_cases h:48≤c
 ·have h':(48:Int)≤(c:Int):=by omega
  have e:isDigit c=decide ((c:Int)≤57):=by unfold isDigit;rw[decide_eq_decide];omega
  simp -implicitDefEqProofs [agR,ve,h',e]
 ·have h':¬(48:Int)≤(c:Int):=by omega
  have e:isDigit c=false:=by unfold isDigit;simp;omega
  simp -implicitDefEqProofs [agR,ve,h',e]
theorem vj(s:ByteArray):aed Tryz.prog 63 [S s] (B (c_ s)):=by
 refine pc t63 (by simp) fun _=> ?_
 by_cases h0:s.size=0
 ·have e:c_ s=false:=decide_eq_false fun h=>by obtain⟨_,_,_⟩:=h;omega
  simp -implicitDefEqProofs [qn,lF,h0,e]
 by_cases h1:(16:Int)<s.size
 ·have e:c_ s=false:=decide_eq_false fun h=>by obtain⟨_,_,_⟩:=h;omega
  have jI:((s.size:Int)==0)=false:=beq_eq_false_iff_ne.2 (by omega)
  simp -implicitDefEqProofs [qn,lF,jI,h1,e]
 have jI:((s.size:Int)==0)=false:=beq_eq_false_iff_ne.2 (by omega)
 simp -implicitDefEqProofs [qn,jI,h1]
 refine aef s.size (fun k st=>st.env 0=S s∧st.env 3=I k∧∀j<k,bO j (bt s j)=true) ?_ ?_
 ·simp
 ·rintro k st hk ⟨e0,e3,hno⟩
  simp -implicitDefEqProofs [e0,e3]
  refine bA (fun hlt=> ?_) (fun hge=> ?_)
  ·have hlt':k<s.size:=by omega
   simp -implicitDefEqProofs [e0,e3,hlt',afU]
   refine aj (DT (bt s k)) ?_
   have next:bO k (bt s k)=true→∀j<k+1,bO j (bt s j)=true:=fun h j hj=>by
    rcases Nat.lt_succ_iff_lt_or_eq.1 hj with hj|rfl
    ·exact hno j hj
    ·exact h
   have bad:bO k (bt s k)=false→c_ s=false:=fun h=>by
    unfold c_
    simp only[decide_eq_false_iff_not]
    rintro⟨_,_,h'⟩
    rw[h' k hlt'] at h
    cases h
   cases hL:dK (bt s k) with
   |true=>
    simp -implicitDefEqProofs [e3]
    exact⟨i64 (by omega) (by omega),aQ hlt' ⟨by simp[e0],by simp,next (by simp[bO,hL])⟩⟩
   |false=>
    by_cases gQ:k=0
    ·subst gQ
     simp -implicitDefEqProofs [e3]
     simp -implicitDefEqProofs [lF,bad (by simp[bO,hL])]
    ·have DV:((k:Int)==0)=false:=beq_eq_false_iff_ne.2 (by omega)
     simp -implicitDefEqProofs [e0,e3,DV,hlt',afU]
     refine aj (DU (bt s k)) ?_
     cases hD:isDigit (bt s k) with
     |true=>
      simp -implicitDefEqProofs [e3]
      exact⟨i64 (by omega) (by omega),aQ hlt' ⟨by simp[e0],by simp,next (by simp[bO,hL,hD];omega)⟩⟩
     |false=>
      simp -implicitDefEqProofs [e0,e3,hlt',afU]
      refine bR (fun he=> ?_) (fun he=> ?_)
      ·simp -implicitDefEqProofs [lF]
       refine bad ?_
       have:bt s k≠46:=by simp at he;omega
       simp[bO,hL,hD,this]
      ·simp -implicitDefEqProofs [e3]
       refine⟨i64 (by omega) (by omega),aQ hlt' ⟨by simp[e0],by simp,next ?_⟩⟩
       have:bt s k=46:=by simp at he;omega
       simp[bO,this];omega
  ·obtain rfl:k=s.size:=by omega
   have e:c_ s=true:=by unfold c_;simp;exact⟨by omega,by omega,hno⟩
   simp -implicitDefEqProofs [lF,e]
theorem vk{k c:Nat}(h:bO k c=true):c<128:=by
 simp[bO,dK,isDigit] at h
 omega
theorem DW{s:ByteArray}{k:Nat}(h:k<s.size):bO k (Utf8.decode s k).1=bO k (bt s k)∧(bO k (Utf8.decode s k).1=true→(Utf8.decode s k).2=1):=by
 by_cases hb:bt s k<128
 ·rw[yK h hb];exact⟨rfl,fun _=>rfl⟩
 ·have h1:=yL h hb
  have e1:bO k (Utf8.decode s k).1=false:=by
   cases e:bO k (Utf8.decode s k).1 with
   |false=>rfl
   |true=>have:=vk e;omega
  have e2:bO k (bt s k)=false:=by
   cases e:bO k (bt s k) with
   |false=>rfl
   |true=>have:=vk e;omega
  rw[e1,e2];exact⟨rfl,fun h=>by cases h⟩
theorem vl(s:ByteArray):∀(n i:Nat) (r:List UInt8),s.size - i=n→ByteArray.toList.loop s i r=r.reverse++s.data.toList.drop i
 |0,i,r,h=>by
  unfold ByteArray.toList.loop
  have:¬i<s.size:=by omega
  rw[if_neg this,List.drop_of_length_le (by simpa using(by omega:s.size≤i)),List.append_nil]
 |n+1,i,r,h=>by
  unfold ByteArray.toList.loop
  have hi:i<s.size:=by omega
  rw[if_pos hi,vl s n (i+1) _ (by omega)]
  have e:s.data.toList.drop i=s.get! i::s.data.toList.drop (i+1):=by
   rw[List.drop_eq_getElem_cons (by simpa using hi)]
   congr 1
   cases s with
   |mk a=>
    have hi':i<a.size:=hi
    simp[ByteArray.get!,hi']
  rw[e]
  simp
theorem qe(s:ByteArray):s.toList=s.data.toList:=by
 unfold ByteArray.toList
 rw[vl s _ 0 [] rfl];simp
theorem DX(s:ByteArray):s.toList.isEmpty=decide (s.size=0):=by
 rw[qe]
 have:s.size=s.data.toList.length:=by simp
 rw[this]
 cases s.data.toList<;>simp
theorem DY(s:ByteArray):aed Tryz.prog 114 [S s] (B (c_ s)):=by
 refine pc t114 (by simp) fun _=> ?_
 simp -implicitDefEqProofs [yC]
 intro b
 refine aef s.size (fun k st=>st.env 0=S s∧st.env 6=.au b 0∧st.env (oS+b)=ae4 s k∧∀j<k,bO j (bt s j)=true) ?_ ?_
 ·simp
 ·rintro k st hk ⟨e0,e6,eo,hno⟩
  simp -implicitDefEqProofs [e6]
  refine⟨s,k,by simpa using eo,fun hlt=> ?_,fun hge=> ?_⟩
  ·obtain⟨d1,d2⟩:=DW hlt
   generalize hr:(Utf8.decode s k).1=r at d1 d2
   have good:bO k r=true→(Utf8.decode s k).2=1∧∀j<k+1,bO j (bt s j)=true:=fun h=>⟨d2 h,fun j hj=>by
    rcases Nat.lt_succ_iff_lt_or_eq.1 hj with hj|rfl
    ·exact hno j hj
    ·rw[←d1];exact h⟩
   have bad:bO k r=false→c_ s=false:=fun h=>decide_eq_false fun h'=>by
    have:=h'.2.2 k hlt
    rw[←d1,h] at this
    cases this
   by_cases c1:(97:Int)≤(r:Int)
   ·by_cases c2:(r:Int)≤122
    ·simp -implicitDefEqProofs [c1,c2]
     have hg:=good (by simp[bO,dK];omega)
     rw[hg.1]
     exact aQ hlt ⟨by simp[e0],by simp[e6],by simp,hg.2⟩
    ·simp -implicitDefEqProofs [c1,c2]
     by_cases c3:0<k
     ·have c4:(48:Int)≤(r:Int):=by omega
      have c5:¬(r:Int)≤57:=by omega
      have c6:((r:Int)==46)=false:=beq_eq_false_iff_ne.2 (by omega)
      simp -implicitDefEqProofs [c3,c4,c5,c6]
      simp -implicitDefEqProofs [afd,bad (by simp[bO,dK,isDigit];omega)]
     ·simp -implicitDefEqProofs [c3]
      simp -implicitDefEqProofs [afd,bad (by simp[bO,dK,c3];omega)]
   ·simp -implicitDefEqProofs [c1]
    by_cases c3:0<k
    ·by_cases c4:(48:Int)≤(r:Int)
     ·by_cases c5:(r:Int)≤57
      ·simp -implicitDefEqProofs [c3,c4,c5]
       have hg:=good (by simp[bO,isDigit,c3];omega)
       rw[hg.1]
       exact aQ hlt ⟨by simp[e0],by simp[e6],by simp,hg.2⟩
      ·have c6:((r:Int)==46)=false:=beq_eq_false_iff_ne.2 (by omega)
       simp -implicitDefEqProofs [c3,c4,c5,c6]
       simp -implicitDefEqProofs [afd,bad (by simp[bO,dK,isDigit];omega)]
     ·simp -implicitDefEqProofs [c3,c4]
      refine bR (fun he=> ?_) (fun he=> ?_)
      ·have hr:(r:Int)=46:=by simpa using he
       have hg:=good (by simp[bO,c3];omega)
       simp -implicitDefEqProofs
       rw[hg.1]
       exact aQ hlt ⟨by simp[e0],by simp[e6],by simp,hg.2⟩
      ·have hr:(r:Int)≠46:=by simpa using he
       simp -implicitDefEqProofs [afd,bad (by simp[bO,dK,isDigit];omega)]
    ·simp -implicitDefEqProofs [c3]
     simp -implicitDefEqProofs [afd,bad (by simp[bO,dK,c3];omega)]
  ·obtain rfl:k=s.size:=by omega
   simp -implicitDefEqProofs [e0]
   rw[DX]
   by_cases h0:s.size=0
   ·have e:c_ s=false:=decide_eq_false fun h=>by obtain⟨_,_,_⟩:=h;omega
    simp -implicitDefEqProofs [h0,afd,e]
   ·simp -implicitDefEqProofs [h0,afd,e0]
    by_cases h1:s.size≤16
    ·have e:c_ s=true:=decide_eq_true ⟨by omega,h1,hno⟩
     rw[e];simp;omega
    ·have e:c_ s=false:=decide_eq_false fun h=>by obtain⟨_,_,_⟩:=h;omega
     rw[e];simp;omega
end Go.Proofs.YtnncgmimhdplfaaGreat.F
namespace Go.Proofs.YtnncgmimhdplfaaGreat.F
open Go.aq
abbrev SL(l:List ByteArray):AV:=.slice 1 (l.map S) 0
def sEq(p q:ByteArray):Bool:=p.toList==q.toList
theorem WV(p q:ByteArray):sEq p q=sEq q p:=by unfold sEq;rw[Bool.beq_comm]
theorem DZ(l:List ByteArray)(x:ByteArray):aed Tryz.prog 62 [SL l,S x] (I (firstAt (fun y=>sEq y x) l)):=by
 refine pc t62 (by simp) fun hfit=> ?_
 have hl:=cY (hfit 0)
 simp only[List.length_map] at hl
 simp -implicitDefEqProofs [C8]
 refine⟨i64 (by omega) (by omega),?_⟩
 refine aef l.length (fun k s=>s.env 0=SL l∧s.env 1=S x∧(∃i:Int,i=l.length - 1 - k∧s.env 5=I i)∧∀j (hj:j<l.length),l.length<j+1+k→sEq l[j] x=false) ?_ ?_
 ·simp
  intro j hj h;omega
 ·rintro k s hk ⟨e0,e1,⟨i,hi,e5⟩,hno⟩
  simp -implicitDefEqProofs [e5]
  by_cases hlt:k<l.length
  ·have h0:0≤i:=by omega
   obtain⟨n,rfl⟩:∃n:Nat,i=n:=⟨i.toNat,by omega⟩
   have hn:n<l.length:=by omega
   simp -implicitDefEqProofs [e0,e1,e5,hn]
   refine bR (fun he=> ?_) (fun he=> ?_)
   ·simp -implicitDefEqProofs [e5]
    refine⟨i64 (by omega) (by omega),aQ hlt ⟨by simp[e0],by simp[e1],by simp;omega,?_⟩⟩
    intro j hj WW
    by_cases Ht:n<j
    ·exact hno j hj (by omega)
    ·obtain rfl:j=n:=by omega
     simpa[sEq] using he
   ·have hx:sEq l[n] x=true:=by simpa[sEq] using he
    simp -implicitDefEqProofs
    refine aef n (fun j s=>s.env 0=SL l∧s.env 1=S x∧s.env 5=I n∧s.env 6=I j∧∀y∈l.take j,sEq y x=false) ?_ ?_
    ·simp[e0,e1,e5]
    ·rintro j s hj ⟨e0,e1,e5,e6,qo⟩
     simp -implicitDefEqProofs [e5,e6]
     refine bA (fun hlt=> ?_) (fun hge=> ?_)
     ·have hjl:j<l.length:=by omega
      simp -implicitDefEqProofs [e0,e1,e6,hjl]
      refine bR (fun he=> ?_) (fun he=> ?_)
      ·have hc:=oL (p:=fun y=>sEq y x) hjl (by simpa[sEq] using he) qo
       simp -implicitDefEqProofs [qm,e6,hc]
      ·simp -implicitDefEqProofs [e6]
       refine⟨i64 (by omega) (by omega),aQ (by omega) ⟨by simp[e0],by simp[e1],by simp[e5],by simp,?_⟩⟩
       intro y hy
       rw[ael hjl,List.mem_append,List.mem_singleton] at hy
       rcases hy with hy|rfl
       ·exact qo y hy
       ·simpa[sEq] using he
     ·obtain rfl:j=n:=by omega
      have hc:=oL (p:=fun y=>sEq y x) hn hx qo
      simp -implicitDefEqProofs [qm,e5,hc]
  ·obtain rfl:k=l.length:=by omega
   have h0:¬0≤i:=by omega
   have h1:i= -1:=by omega
   subst h1
   simp -implicitDefEqProofs
   have hc:=agx (p:=fun y=>sEq y x) (l:=l) (fun y hy=>by
    obtain⟨j,hj,rfl⟩:=List.mem_iff_getElem.1 hy
    exact hno j hj (by omega))
   refine aef 0 (fun j s=>s.env 5=I (-1)∧s.env 6=I 0) ?_ ?_
   ·simp[e5]
   ·rintro j s hj ⟨e5,e6⟩
    simp -implicitDefEqProofs [e5,e6,qm,hc]
def dx(name:ByteArray)(before:List ByteArray):Int:=if c_ name then (if before.any fun s=>sEq s name then 5 else 0) else 6
theorem yM(name:ByteArray)(l:List ByteArray):aed Tryz.prog 18 [S name,SL l] (I (dx name l)):=by
 refine pc t18 (by simp) fun hfit=> ?_
 simp -implicitDefEqProofs [CV]
 refine aj (DZ l name) ?_
 have e:=agy (fun y=>sEq y name) l
 cases h:l.any fun y=>sEq y name with
 |true=>
  rw[h] at e
  have e':0≤firstAt (fun y=>sEq y name) l:=of_decide_eq_true e
  simp -implicitDefEqProofs [e']
  refine aj (vj name) ?_
  cases hn:c_ name<;>simp -implicitDefEqProofs [uX,dx,hn,h]
 |false=>
  rw[h] at e
  have e':¬0≤firstAt (fun y=>sEq y name) l:=of_decide_eq_false e
  simp -implicitDefEqProofs [e']
  refine aj (vj name) ?_
  cases hn:c_ name<;>simp -implicitDefEqProofs [uX,dx,hn,h]
theorem Lz(name:ByteArray)(l:List ByteArray)(f:FuncId)(caps:List AV)(h:iF Tryz.prog f [] caps (l.map fun s=>[S s])):aed Tryz.prog 122 [S name,.func (.func f) [] caps] (I (dx name l)):=by
 refine pc t122 (by simp) fun hfit=> ?_
 simp -implicitDefEqProofs [DF]
 intro b
 refine aj (DY name) ?_
 cases hn:c_ name with
 |false=>
  simp -implicitDefEqProofs [xN,BT]
  simp -implicitDefEqProofs [vh,dx,hn]
 |true=>
  simp -implicitDefEqProofs
  refine xS _ (fun k s=>s.env 2=.ref [S name]∧s.env 4=.au b 0∧s.loc b=some [I 0]∧∀y∈l.take k,sEq y name=false) h (by simp) ?_ ?_ ?_
  ·simp
  ·rintro k st hk hb ⟨e2,e4,el,hno⟩
   have hk':k<l.length:=by simpa using hk
   simp -implicitDefEqProofs [hk',e2]
   refine bR (fun he=> ?_) (fun he=> ?_)
   ·simp -implicitDefEqProofs [e4,el]
    have hc:(l.any fun s=>sEq s name)=true:=List.any_eq_true.2 ⟨l[k],List.getElem_mem _,by simpa[sEq] using he⟩
    simp -implicitDefEqProofs [vh,dx,hn,hc]
   ·simp -implicitDefEqProofs [el]
    intro y hy
    rw[ael hk',List.mem_append,List.mem_singleton] at hy
    rcases hy with hy|rfl
    ·exact hno y hy
    ·simpa[sEq] using he
  ·rintro st hb ⟨e2,e4,el,hno⟩
   have hc:(l.any fun s=>sEq s name)=false:=by
    rw[List.any_eq_false]
    intro y hy
    have:=hno y (by simpa using hy)
    simp[this]
   simp -implicitDefEqProofs [e4,el,vh,dx,hn,hc]
end Go.Proofs.YtnncgmimhdplfaaGreat.F
namespace Go.Proofs.YtnncgmimhdplfaaGreat.F
open Go.aq
structure Fmt where
 name:ByteArray
 aer:ByteArray
structure Spn where
 lo:Int
 hi:Int
structure Ppr where
 name:ByteArray
 wide:Spn
 high:Spn
structure aL where
 aX:List Fmt
 aR:List Ppr
 trim:Int
 aW:Int
abbrev Fmt.cs(f:Fmt):List AV:=[S f.name,S f.aer]
abbrev Fmt.av(f:Fmt):AV:=.agg f.cs
abbrev Spn.av(s:Spn):AV:=.agg [I s.lo,I s.hi]
abbrev Ppr.cs(p:Ppr):List AV:=[S p.name,I p.wide.lo,I p.wide.hi,I p.high.lo,I p.high.hi]
abbrev Ppr.av(p:Ppr):AV:=.agg p.cs
abbrev aL.cs(p:aL):List AV:=[.slice 2 (p.aX.map Fmt.av) 0,.slice 5 (p.aR.map Ppr.av) 0,I p.trim,I p.aW]
abbrev aL.av(p:aL):AV:=.agg p.cs
abbrev aem(p:aL):AV:=.ref p.cs
abbrev yN(i:Int):AV:=.ref [I i]
theorem D0{cs:List AV}(h:Fits (.ref cs))(i:Nat):Fits (cs.getD i .any):=by
 obtain⟨w,A,v,h⟩:=h
 cases h with
 |ref _ b off vs hc hr=>exact⟨w,A,_,hr i⟩
theorem jJ{cs:List AV}(h:Fits (.agg cs))(i:Nat):Fits (cs.getD i .any):=by
 obtain⟨w,A,v,h⟩:=h
 cases h with
 |agg _ vs hs hr=>exact⟨w,A,_,hr i⟩
theorem drop_cons{α:Type}{l:List α}{k:Nat}(h:k<l.length):l.drop k=l[k]::l.drop (k+1):=List.drop_eq_getElem_cons h
theorem WX(p:aL)(i:Nat)(hi:i≤p.aX.length):iF Tryz.prog 123 [] [aem p,yN i] (((p.aX.take i).map Fmt.name).map fun s=>[S s]):=by
 refine ps t123 (by simp) fun l hfit=> ?_
 have hl:p.aX.length≤140737488355328:=by simpa using cY (D0 (hfit 1) 0)
 simp -implicitDefEqProofs [DG]
 refine⟨hi,?_⟩
 refine aef i (fun k s=>s.env 0=.func (.yield l) [] []∧s.env 9=.slice 2 ((p.aX.take i).map Fmt.av) 0∧s.env 10=I i∧s.env 11=I k∧s.env gS=.ghost l (((p.aX.take i).drop k).map fun f=>[S f.name]) false) ?_ ?_
 ·simp[List.map_take];refine⟨by omega,?_⟩;rfl
 ·rintro k s hk ⟨e0,e9,bC,bf,eg⟩
  simp -implicitDefEqProofs [bC,bf]
  refine bA (fun hlt=> ?_) (fun hge=> ?_)
  ·have hlt':k<(p.aX.take i).length:=by simp;omega
   have br:k<p.aX.length:=by omega
   rw[drop_cons hlt'] at eg
   simp at eg
   simp -implicitDefEqProofs [e0,e9,bf,hlt,br,eg]
   refine⟨by omega,fun b hb=>⟨i64 (by omega) (by omega),aQ (by omega) ⟨by simp[e0],by simp[e9,List.map_take],by simp[bC],by simp,by simp⟩⟩⟩
  ·obtain rfl:k=i:=by omega
   simp at eg
   simp -implicitDefEqProofs [eg]
theorem WY(p:aL)(i:Nat)(hi:i≤p.aR.length):iF Tryz.prog 126 [] [aem p,yN i] (((p.aR.take i).map Ppr.name).map fun s=>[S s]):=by
 refine ps t126 (by simp) fun l hfit=> ?_
 have hl:p.aR.length≤140737488355328:=by simpa using cY (D0 (hfit 1) 1)
 simp -implicitDefEqProofs [DJ]
 refine⟨hi,?_⟩
 refine aef i (fun k s=>s.env 0=.func (.yield l) [] []∧s.env 9=.slice 5 ((p.aR.take i).map Ppr.av) 0∧s.env 10=I i∧s.env 11=I k∧s.env gS=.ghost l (((p.aR.take i).drop k).map fun f=>[S f.name]) false) ?_ ?_
 ·simp[List.map_take];refine⟨by omega,?_⟩;rfl
 ·rintro k s hk ⟨e0,e9,bC,bf,eg⟩
  simp -implicitDefEqProofs [bC,bf]
  refine bA (fun hlt=> ?_) (fun hge=> ?_)
  ·have hlt':k<(p.aR.take i).length:=by simp;omega
   have br:k<p.aR.length:=by omega
   rw[drop_cons hlt'] at eg
   simp at eg
   simp -implicitDefEqProofs [e0,e9,bf,hlt,br,eg]
   refine⟨by omega,fun b hb=>⟨i64 (by omega) (by omega),aQ (by omega) ⟨by simp[e0],by simp[e9,List.map_take],by simp[bC],by simp,by simp⟩⟩⟩
  ·obtain rfl:k=i:=by omega
   simp at eg
   simp -implicitDefEqProofs [eg]
def eL(c:Nat):Bool:=decide (c=120)||decide (c=121)
def gR(s:ByteArray):Int:=if 1≤s.size∧s.size≤4 then (if∀k<s.size,eL (bt s k)=true then 0 else 6) else 3
theorem WZ{s:ByteArray}{k:Nat}(h:k<s.size):eL (Utf8.decode s k).1=eL (bt s k)∧(eL (Utf8.decode s k).1=true→(Utf8.decode s k).2=1):=by
 by_cases hb:bt s k<128
 ·rw[yK h hb];exact⟨rfl,fun _=>rfl⟩
 ·have h1:=yL h hb
  have e1:eL (Utf8.decode s k).1=false:=by simp[eL];omega
  have e2:eL (bt s k)=false:=by simp[eL];omega
  rw[e1,e2];exact⟨rfl,fun h=>by cases h⟩
def agz(f:Fmt)(before:List Fmt):Int:=if dx f.name (before.map Fmt.name)=0 then gR f.aer else dx f.name (before.map Fmt.name)
theorem aeC(lo hi n:Int):out lo hi [n]= !decide (lo≤n∧n≤hi):=by
 simp only[out,List.any_cons,List.any_nil,Bool.or_false]
 by_cases h1:lo≤n<;>by_cases h2:n≤hi<;>simp[h1,h2]<;>omega
theorem W0(p:aL)(i:Nat)(hi:i<p.aX.length):aed Tryz.prog 121 [I i,p.aX[i].av,aem p] (I (agz p.aX[i] (p.aX.take i))):=by
 refine pc t121 (by simp) fun hfit=> ?_
 have c:=Lz p.aX[i].name _ 123 [aem p,yN i] (WX p i (by omega))
 generalize p.aX[i]=f at*
 unfold agz
 generalize dx f.name ((p.aX.take i).map Fmt.name)=e at*
 simp -implicitDefEqProofs [DE]
 refine aj c ?_
 simp -implicitDefEqProofs
 refine bR (fun he=> ?_) (fun he=> ?_)
 ·have h0:¬e=0:=by simpa using he
  simp -implicitDefEqProofs [h0,rY]
 ·have h0:e=0:=by simpa using he
  subst h0
  simp -implicitDefEqProofs
  have co:=aet 1 4 [(f.aer.size:Int)]
  rw[aeC] at co
  by_cases hs:1≤f.aer.size∧f.aer.size≤4
  ·rw[decide_eq_true (by omega)] at co
   refine aj co ?_
   simp -implicitDefEqProofs
   intro b _
   refine aef f.aer.size (fun k st=>st.env 25=.au b 0∧st.env (oS+b)=ae4 f.aer k∧∀j<k,eL (bt f.aer j)=true) ?_ ?_
   ·simp
   ·rintro k st hk ⟨e6,eo,hno⟩
    simp -implicitDefEqProofs [e6]
    refine⟨f.aer,k,by simpa using eo,fun hlt=> ?_,fun hge=> ?_⟩
    ·obtain⟨d1,d2⟩:=WZ hlt
     generalize hr:(Utf8.decode f.aer k).1=r at d1 d2
     have good:eL r=true→(Utf8.decode f.aer k).2=1∧∀j<k+1,eL (bt f.aer j)=true:=fun h=>⟨d2 h,fun j hj=>by
      rcases Nat.lt_succ_iff_lt_or_eq.1 hj with hj|rfl
      ·exact hno j hj
      ·rw[←d1];exact h⟩
     have bad:eL r=false→gR f.aer=6:=fun h=>by
      unfold gR
      rw[if_pos hs,if_neg]
      intro h'
      have:=h' k hlt
      rw[←d1,h] at this
      cases this
     by_cases c1:(r:Int)=120
     ·have qp:((r:Int) != 120)=false:=by simp[c1]
      simp -implicitDefEqProofs [qp]
      have hg:=good (by simp[eL];omega)
      rw[hg.1]
      exact aQ hlt ⟨by simp[e6],by simp,hg.2⟩
     ·have qp:((r:Int) != 120)=true:=by simp[c1]
      simp -implicitDefEqProofs [qp]
      refine bR (fun he=> ?_) (fun he=> ?_)
      ·have c2:¬(r:Int)=121:=by simpa using he
       simp -implicitDefEqProofs [rY,bad (by simp[eL];omega)]
      ·have c2:(r:Int)=121:=by simpa using he
       simp -implicitDefEqProofs
       have hg:=good (by simp[eL];omega)
       rw[hg.1]
       exact aQ hlt ⟨by simp[e6],by simp,hg.2⟩
    ·obtain rfl:k=f.aer.size:=by omega
     have e:gR f.aer=0:=by unfold gR;rw[if_pos hs,if_pos hno]
     simp -implicitDefEqProofs [rY,e]
  ·rw[decide_eq_false (by omega)] at co
   refine aj co ?_
   have e:gR f.aer=3:=by unfold gR;rw[if_neg hs]
   simp -implicitDefEqProofs [rY,e]
end Go.Proofs.YtnncgmimhdplfaaGreat.F
namespace Go.Proofs.YtnncgmimhdplfaaGreat.F
open Go.aq
def ae3(lo hi:Int)(a b:Spn):Int:=if out lo hi [a.lo,a.hi,b.lo,b.hi] then 7 else if b.hi<b.lo∨a.hi<a.lo then 2 else 0
theorem LA(lo hi:Int)(a b:Spn):aed Tryz.prog 111 [I lo,I hi,a.av,b.av] (I (ae3 lo hi a b)):=by
 refine pc t111 (by simp) fun _=> ?_
 simp -implicitDefEqProofs [Dz]
 refine aj (aet lo hi [a.lo,a.hi,b.lo,b.hi]) ?_
 unfold ae3
 generalize out lo hi [a.lo,a.hi,b.lo,b.hi]=o
 cases o with
 |true=>simp -implicitDefEqProofs [agS]
 |false=>
  simp -implicitDefEqProofs
  by_cases h1:a.hi<a.lo
  ·simp -implicitDefEqProofs [h1,agS]
  ·by_cases h2:b.hi<b.lo<;>simp -implicitDefEqProofs [h1,h2,agS]
def aew(s:Spn)(lo hi:Int):Int:=if s.lo<lo∨s.hi<lo∨hi<s.lo∨hi<s.hi then 7 else if s.hi<s.lo then 2 else 0
theorem vm(s:Spn)(lo hi:Int):aed Tryz.prog 22 [s.av,I lo,I hi] (I (aew s lo hi)):=by
 refine pc t22 (by simp) fun _=> ?_
 unfold aew
 by_cases h:s.hi<s.lo
 ·have h':¬s.lo<s.hi:=by omega
  by_cases h1:s.hi<lo
  ·simp -implicitDefEqProofs [gO,gP,h,h1]
  ·by_cases h2:hi<s.lo
   ·simp -implicitDefEqProofs [gO,gP,h,h',h1,h2]
   ·have h3:¬s.lo<lo:=by omega
    have h4:¬hi<s.hi:=by omega
    simp -implicitDefEqProofs [gO,gP,h,h',h1,h2,h3,h4]
 ·by_cases h1:s.lo<lo
  ·simp -implicitDefEqProofs [gO,gP,h,h1]
  ·by_cases he:s.lo<s.hi
   ·by_cases h2:hi<s.hi
    ·simp -implicitDefEqProofs [gO,gP,h,he,h1,h2]
    ·have h3:¬s.hi<lo:=by omega
     have h4:¬hi<s.lo:=by omega
     simp -implicitDefEqProofs [gO,gP,h,he,h1,h2,h3,h4]
   ·have e:s.hi=s.lo:=by omega
    by_cases h2:hi<s.lo
    ·simp -implicitDefEqProofs [gO,gP,h1,h2,e]
    ·simp -implicitDefEqProofs [gO,gP,h1,h2,e]
theorem W1(lo hi:Int)(a b:Spn):ae3 lo hi a b=if aew a lo hi=7∨aew b lo hi=7 then 7 else if aew a lo hi≠0 then aew a lo hi else aew b lo hi:=by
 unfold ae3 aew
 simp only[out,List.any_cons,List.any_nil,Bool.or_false,Bool.or_eq_true,decide_eq_true_eq]
 repeat' split
 all_goals first|rfl|omega
theorem W2(a b:Spn)(lo hi:Int):aed Tryz.prog 20 [a.av,b.av,I lo,I hi] (I (ae3 lo hi a b)):=by
 refine pc t20 (by simp) fun _=> ?_
 rw[W1]
 have ha:=vm a lo hi
 have hb:=vm b lo hi
 generalize aew a lo hi=x at*
 generalize aew b lo hi=y at*
 simp -implicitDefEqProofs [JE]
 refine aj ha ?_
 simp -implicitDefEqProofs
 refine aj hb ?_
 by_cases h1:x=7
 ·subst h1
  simp -implicitDefEqProofs [uY]
 ·have jc:(x==7)=false:=beq_eq_false_iff_ne.2 h1
  by_cases h2:y=7
  ·subst h2
   simp -implicitDefEqProofs [uY,jc]
  ·have oM:(y==7)=false:=beq_eq_false_iff_ne.2 h2
   by_cases h3:x=0
   ·subst h3
    simp -implicitDefEqProofs [uY,oM,h2]
   ·have yO:(x != 0)=true:=by simp[h3]
    simp -implicitDefEqProofs [uY,jc,oM,yO,h1,h2,h3]
theorem W3(s:ByteArray):aed Tryz.prog 19 [S s] (I (gR s)):=by
 refine pc t19 (by simp) fun _=> ?_
 have ci:=afp s.size 1 4
 simp -implicitDefEqProofs [JD]
 refine aj ci ?_
 by_cases hs:1≤s.size∧s.size≤4
 ·have hs':(1≤(s.size:Int)∧(s.size:Int)≤4):=by omega
  rw[decide_eq_true hs']
  simp -implicitDefEqProofs
  refine aef s.size (fun k st=>st.env 0=S s∧st.env 3=I k∧∀j<k,eL (bt s j)=true) ?_ ?_
  ·simp
  ·rintro k st hk ⟨e0,e3,hno⟩
   simp -implicitDefEqProofs [e0,e3]
   refine bA (fun hlt=> ?_) (fun hge=> ?_)
   ·have hlt':k<s.size:=by omega
    have good:eL (bt s k)=true→∀j<k+1,eL (bt s j)=true:=fun h j hj=>by
     rcases Nat.lt_succ_iff_lt_or_eq.1 hj with hj|rfl
     ·exact hno j hj
     ·exact h
    have bad:eL (bt s k)=false→gR s=6:=fun h=>by
     unfold gR
     rw[if_pos hs,if_neg]
     intro h'
     have:=h' k hlt'
     rw[h] at this
     cases this
    by_cases c1:(bt s k:Int)=120
    ·have qp:((bt s k:Int) != 120)=false:=by simp[c1]
     simp -implicitDefEqProofs [e0,e3,hlt',afU,qp]
     exact⟨i64 (by omega) (by omega),aQ hlt' ⟨by simp[e0],by simp,good (by simp[eL];omega)⟩⟩
    ·have qp:((bt s k:Int) != 120)=true:=by simp[c1]
     simp -implicitDefEqProofs [e0,e3,hlt',afU,qp]
     refine bR (fun he=> ?_) (fun he=> ?_)
     ·have c2:¬(bt s k:Int)=121:=by simpa using he
      simp -implicitDefEqProofs [yf,bad (by simp[eL];omega)]
     ·have c2:(bt s k:Int)=121:=by simpa using he
      simp -implicitDefEqProofs [e3]
      exact⟨i64 (by omega) (by omega),aQ hlt' ⟨by simp[e0],by simp,good (by simp[eL];omega)⟩⟩
   ·obtain rfl:k=s.size:=by omega
    have e:gR s=0:=by unfold gR;rw[if_pos hs,if_pos hno]
    simp -implicitDefEqProofs [yf,e]
 ·have hs':¬(1≤(s.size:Int)∧(s.size:Int)≤4):=by omega
  rw[decide_eq_false hs']
  have e:gR s=3:=by unfold gR;rw[if_neg hs]
  simp -implicitDefEqProofs [yf,e]
end Go.Proofs.YtnncgmimhdplfaaGreat.F
namespace Go.Proofs.YtnncgmimhdplfaaGreat.F
open Go.aq
def ep(n:Nat)(e:Nat→Int):Int×Int:=match (List.range n).find? fun i=>e i != 0 with
 |some i=>(i,e i)
 |none=>(0,0)
theorem vn{n:Nat}{e:Nat→Int}{k:Nat}(hk:k<n)(h:e k≠0)(hno:∀j<k,e j=0):ep n e=((k:Int),e k):=by
 have:(List.range n).find? (fun i=>e i != 0)=some k:=by
  rw[List.find?_eq_some_iff_getElem]
  refine⟨by simpa using h,k,by simpa using hk,by simp,fun j hj=> ?_⟩
  simp[hno j hj]
 simp[ep,this]
theorem agA{n:Nat}{e:Nat→Int}(hno:∀j<n,e j=0):ep n e=(0,0):=by
 have:(List.range n).find? (fun i=>e i != 0)=none:=by
  rw[List.find?_eq_none]
  intro x hx
  simp[hno x (by simpa using hx)]
 simp[ep,this]
structure Mrk where
 leaf:Int
 seen:Bool
abbrev Mrk.cs(m:Mrk):List AV:=[I m.leaf,B m.seen]
abbrev Mrk.av(m:Mrk):AV:=.agg m.cs
structure cN where
 leaves:Int
 chain:Int
 wide:Spn
 high:Spn
 marks:List Mrk
abbrev cN.cs(b:cN):List AV:=[I b.leaves,I b.chain,I b.wide.lo,I b.wide.hi,I b.high.lo,I b.high.hi,.slice 2 (b.marks.map Mrk.av) 0]
abbrev cN.av(b:cN):AV:=.agg b.cs
abbrev lG(b:cN):AV:=.ref b.cs
theorem W4(l:List Fmt)(f:FuncId)(caps:List AV)(e:Nat→Int)(h:∀i (hi:i<l.length),aed Tryz.prog f (I i::l[i].av::caps) (I (e i))):aed Tryz.prog 120 [.slice 2 (l.map Fmt.av) 0,.func (.func f) [] caps] (.tuple [I (ep l.length e).1,I (ep l.length e).2]):=by
 refine pc t120 (by simp) fun hfit=> ?_
 have hl:=cY (hfit 0)
 simp only[List.length_map] at hl
 simp -implicitDefEqProofs [DD]
 refine aef l.length (fun k s=>s.env 1=.func (.func f) [] caps∧s.env 9=.slice 2 (l.map Fmt.av) 0∧s.env 10=I l.length∧s.env 11=I k∧∀j<k,e j=0) ?_ ?_
 ·simp
 ·rintro k s hk ⟨e1,e9,bC,bf,hno⟩
  simp -implicitDefEqProofs [bC,bf]
  refine bA (fun hlt=> ?_) (fun hge=> ?_)
  ·simp -implicitDefEqProofs [e1,e9,bf,hlt,ng]
   intro b hb
   refine aj (h k hlt) ?_
   simp -implicitDefEqProofs
   refine bR (fun he=> ?_) (fun he=> ?_)
   ·have he':e k≠0:=by simpa using he
    have hc:=vn hlt he' hno
    simp -implicitDefEqProofs [yD,hc]
   ·simp -implicitDefEqProofs [bf]
    refine⟨i64 (by omega) (by omega),aQ hlt ⟨by simp[e1],by simp[e9],by simp[bC],by simp,fun j hj=> ?_⟩⟩
    rcases Nat.lt_succ_iff_lt_or_eq.1 hj with hj|rfl
    ·exact hno j hj
    ·simpa using he
  ·obtain rfl:k=l.length:=by omega
   have hc:=agA hno
   simp -implicitDefEqProofs [yD,hc]
theorem W5(l:List Ppr)(f:FuncId)(caps:List AV)(e:Nat→Int)(h:∀i (hi:i<l.length),aed Tryz.prog f (I i::l[i].av::caps) (I (e i))):aed Tryz.prog 124 [.slice 5 (l.map Ppr.av) 0,.func (.func f) [] caps] (.tuple [I (ep l.length e).1,I (ep l.length e).2]):=by
 refine pc t124 (by simp) fun hfit=> ?_
 have hl:=cY (hfit 0)
 simp only[List.length_map] at hl
 simp -implicitDefEqProofs [DH]
 refine aef l.length (fun k s=>s.env 1=.func (.func f) [] caps∧s.env 9=.slice 5 (l.map Ppr.av) 0∧s.env 10=I l.length∧s.env 11=I k∧∀j<k,e j=0) ?_ ?_
 ·simp
 ·rintro k s hk ⟨e1,e9,bC,bf,hno⟩
  simp -implicitDefEqProofs [bC,bf]
  refine bA (fun hlt=> ?_) (fun hge=> ?_)
  ·simp -implicitDefEqProofs [e1,e9,bf,hlt,ng]
   intro b hb
   refine aj (h k hlt) ?_
   simp -implicitDefEqProofs
   refine bR (fun he=> ?_) (fun he=> ?_)
   ·have he':e k≠0:=by simpa using he
    have hc:=vn hlt he' hno
    simp -implicitDefEqProofs [yE,hc]
   ·simp -implicitDefEqProofs [bf]
    refine⟨i64 (by omega) (by omega),aQ hlt ⟨by simp[e1],by simp[e9],by simp[bC],by simp,fun j hj=> ?_⟩⟩
    rcases Nat.lt_succ_iff_lt_or_eq.1 hj with hj|rfl
    ·exact hno j hj
    ·simpa using he
  ·obtain rfl:k=l.length:=by omega
   have hc:=agA hno
   simp -implicitDefEqProofs [yE,hc]
theorem W6(l:List Mrk)(f:FuncId)(caps:List AV)(e:Nat→Int)(h:∀i (hi:i<l.length),aed Tryz.prog f (I i::l[i].av::caps) (I (e i))):aed Tryz.prog 112 [.slice 2 (l.map Mrk.av) 0,.func (.func f) [] caps] (.tuple [I (ep l.length e).1,I (ep l.length e).2]):=by
 refine pc t112 (by simp) fun hfit=> ?_
 have hl:=cY (hfit 0)
 simp only[List.length_map] at hl
 simp -implicitDefEqProofs [DA]
 refine aef l.length (fun k s=>s.env 1=.func (.func f) [] caps∧s.env 9=.slice 2 (l.map Mrk.av) 0∧s.env 10=I l.length∧s.env 11=I k∧∀j<k,e j=0) ?_ ?_
 ·simp
 ·rintro k s hk ⟨e1,e9,bC,bf,hno⟩
  simp -implicitDefEqProofs [bC,bf]
  refine bA (fun hlt=> ?_) (fun hge=> ?_)
  ·simp -implicitDefEqProofs [e1,e9,bf,hlt,ng]
   intro b hb
   refine aj (h k hlt) ?_
   simp -implicitDefEqProofs
   refine bR (fun he=> ?_) (fun he=> ?_)
   ·have he':e k≠0:=by simpa using he
    have hc:=vn hlt he' hno
    simp -implicitDefEqProofs [yA,hc]
   ·simp -implicitDefEqProofs [bf]
    refine⟨i64 (by omega) (by omega),aQ hlt ⟨by simp[e1],by simp[e9],by simp[bC],by simp,fun j hj=> ?_⟩⟩
    rcases Nat.lt_succ_iff_lt_or_eq.1 hj with hj|rfl
    ·exact hno j hj
    ·simpa using he
  ·obtain rfl:k=l.length:=by omega
   have hc:=agA hno
   simp -implicitDefEqProofs [yA,hc]
def agB(p:Ppr)(before:List Ppr):Int:=if dx p.name (before.map Ppr.name)=0 then ae3 1 2000 p.wide p.high else dx p.name (before.map Ppr.name)
theorem W7(p:aL)(i:Nat)(hi:i<p.aR.length):aed Tryz.prog 125 [I i,p.aR[i].av,aem p] (I (agB p.aR[i] (p.aR.take i))):=by
 refine pc t125 (by simp) fun hfit=> ?_
 have c:=Lz p.aR[i].name _ 126 [aem p,yN i] (WY p i (by omega))
 generalize p.aR[i]=f at*
 unfold agB
 generalize dx f.name ((p.aR.take i).map Ppr.name)=e at*
 simp -implicitDefEqProofs [DI]
 refine aj c ?_
 simp -implicitDefEqProofs
 refine bR (fun he=> ?_) (fun he=> ?_)
 ·have h0:¬e=0:=by simpa using he
  simp -implicitDefEqProofs [h0,yF]
 ·have h0:e=0:=by simpa using he
  subst h0
  simp -implicitDefEqProofs
  refine aj (LA 1 2000 f.wide f.high) ?_
  simp -implicitDefEqProofs [yF]
def vo(leaves:Int)(m:Mrk):Int:=if 0≤m.leaf∧m.leaf≤leaves - 1 then 0 else 4
theorem W8(b:cN)(hb:1≤b.leaves)(hb2:b.leaves≤64)(i:Nat)(m:Mrk):aed Tryz.prog 113 [I i,m.av,lG b] (I (vo b.leaves m)):=by
 refine pc t113 (by simp) fun hfit=> ?_
 simp -implicitDefEqProofs [DB]
 refine⟨i64 (by omega) (by omega),?_⟩
 refine aj (aet 0 (b.leaves - 1) [m.leaf]) ?_
 rw[aeC]
 unfold vo
 by_cases h:0≤m.leaf∧m.leaf≤b.leaves - 1
 ·rw[decide_eq_true h,if_pos h]
  simp -implicitDefEqProofs [yB]
 ·rw[decide_eq_false h,if_neg h]
  simp -implicitDefEqProofs [yB]
end Go.Proofs.YtnncgmimhdplfaaGreat.F
namespace Go.Proofs.YtnncgmimhdplfaaGreat.F
open Go.aq
def fE(p:aL)(i:Nat):Int:=if h:i<p.aX.length then agz p.aX[i] (p.aX.take i) else 0
def pE(p:aL)(i:Nat):Int:=if h:i<p.aR.length then agB p.aR[i] (p.aR.take i) else 0
def afe(p:aL):Int×Int×Int:=
 if¬(1≤p.aX.length∧p.aX.length≤6) then (1,0,3)
 else if (ep p.aX.length (fE p)).2≠0 then (1,(ep p.aX.length (fE p)).1,(ep p.aX.length (fE p)).2)
 else if¬(1≤p.aR.length∧p.aR.length≤4) then (2,0,3)
 else if (ep p.aR.length (pE p)).2≠0 then (2,(ep p.aR.length (pE p)).1,(ep p.aR.length (pE p)).2)
 else if¬(0≤p.trim∧p.trim≤60)∨¬(1≤p.aW∧p.aW≤4) then (3,0,7)
 else (0,0,0)
abbrev T3(x:Int×Int×Int):AV:=.tuple [I x.1,I x.2.1,I x.2.2]
theorem yP(p:aL):aed Tryz.prog 101 [p.av] (T3 (afe p)):=by
 refine pc t101 (by simp) fun hfit=> ?_
 have c1:=aet 1 6 [(p.aX.length:Int)]
 have c2:=W4 p.aX 121 [aem p] (fE p) (fun i hi=>by rw[fE,dif_pos hi];exact W0 p i hi)
 have c3:=aet 1 4 [(p.aR.length:Int)]
 have c4:=W5 p.aR 125 [aem p] (pE p) (fun i hi=>by rw[pE,dif_pos hi];exact W7 p i hi)
 have c5:=aet 0 60 [p.trim]
 have c6:=aet 1 4 [p.aW]
 rw[aeC] at c1 c3 c5 c6
 obtain⟨R,hR⟩:∃R,R=afe p:=⟨_,rfl⟩
 rw[←hR]
 unfold afe at hR
 generalize ep p.aX.length (fE p)=e at*
 generalize ep p.aR.length (pE p)=g at*
 simp -implicitDefEqProofs [Dw]
 refine aj c1 ?_
 by_cases h1:1≤p.aX.length∧p.aX.length≤6
 case neg=>
  rw[if_pos h1] at hR
  rw[decide_eq_false (by omega)]
  simp -implicitDefEqProofs [nw,hR]
 rw[if_neg (not_not_intro h1)] at hR
 rw[decide_eq_true (by omega)]
 simp -implicitDefEqProofs
 refine aj c2 ?_
 simp -implicitDefEqProofs
 refine bR (fun he=> ?_) (fun he=> ?_)
 ·have h0:e.2≠0:=by simpa using he
  rw[if_pos h0] at hR
  simp -implicitDefEqProofs [nw,hR]
 have h0:e.2=0:=by simpa using he
 rw[if_neg (not_not_intro h0)] at hR
 simp -implicitDefEqProofs
 refine aj c3 ?_
 by_cases h2:1≤p.aR.length∧p.aR.length≤4
 case neg=>
  rw[if_pos h2] at hR
  rw[decide_eq_false (by omega)]
  simp -implicitDefEqProofs [nw,hR]
 rw[if_neg (not_not_intro h2)] at hR
 rw[decide_eq_true (by omega)]
 simp -implicitDefEqProofs
 refine aj c4 ?_
 simp -implicitDefEqProofs
 refine bR (fun he=> ?_) (fun he=> ?_)
 ·have h0:g.2≠0:=by simpa using he
  rw[if_pos h0] at hR
  simp -implicitDefEqProofs [nw,hR]
 have jI:g.2=0:=by simpa using he
 rw[if_neg (not_not_intro jI)] at hR
 simp -implicitDefEqProofs
 refine aj c5 ?_
 by_cases h3:0≤p.trim∧p.trim≤60
 case neg=>
  rw[if_pos (.inl h3)] at hR
  rw[decide_eq_false h3]
  simp -implicitDefEqProofs [nw,hR]
 rw[decide_eq_true h3]
 simp -implicitDefEqProofs
 refine aj c6 ?_
 by_cases h4:1≤p.aW∧p.aW≤4
 case neg=>
  rw[if_pos (.inr h4)] at hR
  rw[decide_eq_false h4]
  simp -implicitDefEqProofs [nw,hR]
 rw[if_neg (fun h=>h.elim (fun h=>h h3) fun h=>h h4)] at hR
 rw[decide_eq_true h4]
 simp -implicitDefEqProofs [nw,hR]
def mE(b:cN)(i:Nat):Int:=if h:i<b.marks.length then vo b.leaves b.marks[i] else 0
def oN(p:aL)(b:cN):Int×Int×Int:=
 if (afe p).2.2≠0 then (0,0,(afe p).2.2)
 else if¬(1≤b.leaves∧b.leaves≤64) then (1,0,7)
 else if¬(0≤b.chain∧b.chain≤2) then (2,0,2)
 else if ae3 0 2000 b.wide b.high≠0 then (3,0,ae3 0 2000 b.wide b.high)
 else if 8<b.marks.length then (4,0,3)
 else if (ep b.marks.length (mE b)).2≠0 then (4,(ep b.marks.length (mE b)).1,(ep b.marks.length (mE b)).2)
 else (0,0,0)
theorem W9(p:aL)(b:cN):aed Tryz.prog 88 [p.av,b.av] (T3 (oN p b)):=by
 refine pc t88 (by simp) fun hfit=> ?_
 have c0:=yP p
 obtain⟨R,hR⟩:∃R,R=oN p b:=⟨_,rfl⟩
 rw[←hR]
 unfold oN at hR
 generalize afe p=x at*
 simp -implicitDefEqProofs [Dp]
 refine aj c0 ?_
 simp -implicitDefEqProofs
 refine bR (fun he=> ?_) (fun he=> ?_)
 ·have h0:x.2.2≠0:=by simpa using he
  rw[if_pos h0] at hR
  simp -implicitDefEqProofs [nu,hR]
 have h0:x.2.2=0:=by simpa using he
 rw[if_neg (not_not_intro h0)] at hR
 have c1:=aet 1 64 [b.leaves]
 have c2:=aet 0 2 [b.chain]
 have c3:=LA 0 2000 b.wide b.high
 rw[aeC] at c1 c2
 generalize ae3 0 2000 b.wide b.high=y at*
 simp -implicitDefEqProofs
 refine aj c1 ?_
 by_cases h1:1≤b.leaves∧b.leaves≤64
 case neg=>
  rw[if_pos h1] at hR
  rw[decide_eq_false h1]
  simp -implicitDefEqProofs [nu,hR]
 rw[if_neg (not_not_intro h1)] at hR
 rw[decide_eq_true h1]
 simp -implicitDefEqProofs
 refine aj c2 ?_
 by_cases h2:0≤b.chain∧b.chain≤2
 case neg=>
  rw[if_pos h2] at hR
  rw[decide_eq_false h2]
  simp -implicitDefEqProofs [nu,hR]
 rw[if_neg (not_not_intro h2)] at hR
 rw[decide_eq_true h2]
 simp -implicitDefEqProofs
 refine aj c3 ?_
 simp -implicitDefEqProofs
 refine bR (fun he=> ?_) (fun he=> ?_)
 ·have h0:y≠0:=by simpa using he
  rw[if_pos h0] at hR
  simp -implicitDefEqProofs [nu,hR]
 have hy:y=0:=by simpa using he
 rw[if_neg (not_not_intro hy)] at hR
 simp -implicitDefEqProofs
 have c4:=W6 b.marks 113 [lG b] (mE b) (fun i hi=>by rw[mE,dif_pos hi];exact W8 b h1.1 h1.2 i _)
 generalize ep b.marks.length (mE b)=z at*
 refine bA (fun h3=> ?_) (fun h3=> ?_)
 ·rw[if_pos (by omega)] at hR
  simp -implicitDefEqProofs [nu,hR]
 rw[if_neg (by omega)] at hR
 simp -implicitDefEqProofs
 refine aj c4 ?_
 simp -implicitDefEqProofs
 refine bR (fun he=> ?_) (fun he=> ?_)
 ·have h0:z.2≠0:=by simpa using he
  rw[if_pos h0] at hR
  simp -implicitDefEqProofs [nu,hR]
 have hz:z.2=0:=by simpa using he
 rw[if_neg (not_not_intro hz)] at hR
 simp -implicitDefEqProofs [nu,hR]
end Go.Proofs.YtnncgmimhdplfaaGreat.F
namespace Go.Proofs.YtnncgmimhdplfaaGreat.F
open Go.aq
def lH(p:aL)(k:Nat):List ByteArray:=(p.aX.take k).map Fmt.name
def lI(p:aL)(k:Nat):List ByteArray:=(p.aR.take k).map Ppr.name
theorem W_(p:aL):lH p 0=[]:=rfl
theorem Xa(p:aL):lI p 0=[]:=rfl
theorem Xb(p:aL)(k:Nat)(h:k<p.aX.length):lH p (k+1)=lH p k++[p.aX[k].name]:=by unfold lH;rw[ael h,List.map_append];rfl
theorem Xc(p:aL)(k:Nat)(h:k<p.aR.length):lI p (k+1)=lI p k++[p.aR[k].name]:=by unfold lI;rw[ael h,List.map_append];rfl
theorem Xd(p:aL)(k:Nat)(h:k<p.aX.length):(lH p k).length=k:=by simp[lH];omega
theorem Xe(p:aL)(k:Nat)(h:k<p.aR.length):(lI p k).length=k:=by simp[lI];omega
theorem yQ(p:aL):aed Tryz.prog 4 [p.av] (T3 (afe p)):=by
 refine pc t4 (by simp) fun hfit=> ?_
 have kV:p.aX.length≤140737488355328:=by simpa using cY (jJ (hfit 0) 0)
 have m0:p.aR.length≤140737488355328:=by simpa using cY (jJ (hfit 0) 1)
 have c1:=afp p.aX.length 1 6
 have c3:=afp p.aR.length 1 4
 have c5:=afp p.trim 0 60
 have c6:=afp p.aW 1 4
 obtain⟨R,hR⟩:∃R,R=afe p:=⟨_,rfl⟩
 rw[←hR]
 unfold afe at hR
 simp -implicitDefEqProofs [m4]
 refine aj c1 ?_
 by_cases h1:1≤p.aX.length∧p.aX.length≤6
 case neg=>
  rw[if_pos h1] at hR
  rw[decide_eq_false (by omega)]
  simp -implicitDefEqProofs [r4,hR]
 rw[if_neg (not_not_intro h1)] at hR
 rw[decide_eq_true (by omega)]
 simp -implicitDefEqProofs
 refine aef p.aX.length (fun k st=>st.env 1=aem p∧st.env 5=.slice 1 ((lH p k).map S) 6∧st.env 6=I k∧∀j<k,fE p j=0) ?_ ?_
 ·simp[W_]
 rintro k st hk ⟨e1,e5,e6,hno⟩
 simp -implicitDefEqProofs [e1,e6]
 refine bA (fun hlt=> ?_) (fun hge=> ?_)
 ·have hlt:k<p.aX.length:=by omega
  have hf:fE p k=agz p.aX[k] (p.aX.take k):=by rw[fE,dif_pos hlt]
  have jK:=Xb p k hlt
  have hlen:=Xd p k hlt
  have vp:fE p k≠0→ep p.aX.length (fE p)=((k:Int),fE p k):=fun h=>vn hlt h hno
  unfold agz at hf
  change fE p k=if dx p.aX[k].name (lH p k)=0 then _ else dx p.aX[k].name (lH p k) at hf
  have c:=yM p.aX[k].name (lH p k)
  have cf:=W3 p.aX[k].aer
  generalize dx p.aX[k].name (lH p k)=e at*
  generalize gR p.aX[k].aer=g at*
  simp -implicitDefEqProofs [e1,e5,e6,hlt]
  refine aj c ?_
  simp -implicitDefEqProofs [e1,e5,e6,hlt]
  refine⟨by omega,by omega,?_⟩
  refine bR (fun he=> ?_) (fun he=> ?_)
  ·have h0:e=0:=by simpa using he
   subst h0
   rw[if_pos rfl] at hf
   simp -implicitDefEqProofs [e1,e6,hlt]
   refine aj cf ?_
   simp -implicitDefEqProofs
   refine bR (fun he=> ?_) (fun he=> ?_)
   ·have hg:g≠0:=by simpa using he
    have hx:=vp (by rw[hf];exact hg)
    rw[hx,hf,if_pos hg] at hR
    simp -implicitDefEqProofs [r4,hR,e6]
   ·have hg:g=0:=by simpa using he
    simp -implicitDefEqProofs [e6]
    refine⟨i64 (by omega) (by omega),aQ hlt ⟨by simp[e1],by simp[jK],by simp,fun j hj=> ?_⟩⟩
    rcases Nat.lt_succ_iff_lt_or_eq.1 hj with hj|rfl
    ·exact hno j hj
    ·rw[hf,hg]
  ·have h0:e≠0:=by simpa using he
   rw[if_neg h0] at hf
   have jI:(e != 0)=true:=by simp[h0]
   have hx:=vp (by rw[hf];exact h0)
   rw[hx,hf,if_pos h0] at hR
   simp -implicitDefEqProofs [jI,r4,hR,e6]
 obtain rfl:k=p.aX.length:=by omega
 have hz:=agA hno
 rw[hz,if_neg (by simp)] at hR
 simp -implicitDefEqProofs [e1]
 refine aj c3 ?_
 by_cases h2:1≤p.aR.length∧p.aR.length≤4
 case neg=>
  rw[if_pos h2] at hR
  rw[decide_eq_false (by omega)]
  simp -implicitDefEqProofs [r4,hR]
 rw[if_neg (not_not_intro h2)] at hR
 rw[decide_eq_true (by omega)]
 clear hno hz hge e5 e6
 simp -implicitDefEqProofs
 refine aef p.aR.length (fun k st=>st.env 1=aem p∧st.env 5=.slice 1 ((lI p k).map S) 6∧st.env 8=I k∧∀j<k,pE p j=0) ?_ ?_
 ·simp[Xa,e1]
 rintro k st hk ⟨e1,e5,e8,hno⟩
 simp -implicitDefEqProofs [e1,e8]
 refine bA (fun hlt=> ?_) (fun hge=> ?_)
 ·have hlt:k<p.aR.length:=by omega
  have hf:pE p k=agB p.aR[k] (p.aR.take k):=by rw[pE,dif_pos hlt]
  have jK:=Xc p k hlt
  have hlen:=Xe p k hlt
  have vp:pE p k≠0→ep p.aR.length (pE p)=((k:Int),pE p k):=fun h=>vn hlt h hno
  unfold agB at hf
  change pE p k=if dx p.aR[k].name (lI p k)=0 then _ else dx p.aR[k].name (lI p k) at hf
  have c:=yM p.aR[k].name (lI p k)
  have cf:=W2 p.aR[k].wide p.aR[k].high 1 2000
  generalize dx p.aR[k].name (lI p k)=e at*
  generalize ae3 1 2000 p.aR[k].wide p.aR[k].high=g at*
  simp -implicitDefEqProofs [e1,e5,e8,hlt]
  refine aj c ?_
  simp -implicitDefEqProofs [e1,e5,e8,hlt]
  refine⟨by omega,by omega,?_⟩
  refine bR (fun he=> ?_) (fun he=> ?_)
  ·have h0:e=0:=by simpa using he
   subst h0
   rw[if_pos rfl] at hf
   simp -implicitDefEqProofs [e1,e8,hlt]
   refine aj cf ?_
   simp -implicitDefEqProofs
   refine bR (fun he=> ?_) (fun he=> ?_)
   ·have hg:g≠0:=by simpa using he
    have hx:=vp (by rw[hf];exact hg)
    rw[hx,hf,if_pos hg] at hR
    simp -implicitDefEqProofs [r4,hR,e8]
   ·have hg:g=0:=by simpa using he
    simp -implicitDefEqProofs [e8]
    refine⟨i64 (by omega) (by omega),aQ hlt ⟨by simp[e1],by simp[jK],by simp,fun j hj=> ?_⟩⟩
    rcases Nat.lt_succ_iff_lt_or_eq.1 hj with hj|rfl
    ·exact hno j hj
    ·rw[hf,hg]
  ·have h0:e≠0:=by simpa using he
   rw[if_neg h0] at hf
   have jI:(e != 0)=true:=by simp[h0]
   have hx:=vp (by rw[hf];exact h0)
   rw[hx,hf,if_pos h0] at hR
   simp -implicitDefEqProofs [jI,r4,hR,e8]
 obtain rfl:k=p.aR.length:=by omega
 have hz:=agA hno
 rw[hz,if_neg (by simp)] at hR
 simp -implicitDefEqProofs [e1]
 refine aj c5 ?_
 by_cases h3:0≤p.trim∧p.trim≤60
 case neg=>
  rw[if_pos (.inl h3)] at hR
  rw[decide_eq_false h3]
  simp -implicitDefEqProofs [r4,hR]
 rw[decide_eq_true h3]
 simp -implicitDefEqProofs [e1]
 refine aj c6 ?_
 by_cases h4:1≤p.aW∧p.aW≤4
 case neg=>
  rw[if_pos (.inr h4)] at hR
  rw[decide_eq_false h4]
  simp -implicitDefEqProofs [r4,hR]
 rw[if_neg (fun h=>h.elim (fun h=>h h3) fun h=>h h4)] at hR
 rw[decide_eq_true h4]
 simp -implicitDefEqProofs [r4,hR]
end Go.Proofs.YtnncgmimhdplfaaGreat.F
namespace Go.Proofs.YtnncgmimhdplfaaGreat.F
open Go.aq
structure Lf where
 aeS:Int
 col:Int
 row:Int
 inner:Bool
 LB:Bool
deriving DecidableEq
abbrev Lf.cs(x:Lf):List AV:=[I x.aeS,I x.col,I x.row,B x.inner,B x.LB]
abbrev Lf.av(x:Lf):AV:=.agg x.cs
abbrev LL(l:List Lf):AV:=.slice 5 (l.map Lf.av) 0
structure Mk where
 format:Int
 b_:Int
 aW:Int
 half:Bool
deriving DecidableEq
abbrev Mk.cs(m:Mk):List AV:=[I m.format,I m.b_,I m.aW,B m.half]
abbrev Mk.av(m:Mk):AV:=.agg m.cs
structure Ln where
 col:Nat
 row:Nat
 x:Nat
 y:Nat
abbrev Ln.av(l:Ln):AV:=.agg [I l.col,I l.row,I l.x,I l.y]
def LC(c:Nat)(p:List Ln):List Ln:=p.reverse.map fun l=>if c=120 then {l with x:=l.x+1} else {l with y:=l.y+1}
def Xf(ps:List (List (List Ln)))(c:Nat):List (List (List Ln)):=
 if c=120 then ps.map fun row=>(List.range (row.length / 2)).map fun k=>row.getD k []++LC c (row.getD (row.length - 1 - k) [])
 else (List.range (ps.length / 2)).map fun r=>(List.range (ps.getD r []).length).map fun k=>(ps.getD r []).getD k []++LC c ((ps.getD (ps.length - 1 - r) []).getD k [])
def cS(f:List Nat)(c:Nat):Nat:=2^f.count c
def ny(f:List Nat)(half:Bool):List Ln:=
 let rows:=if half&&f.headD 0==121 then cS f 121 / 2 else cS f 121
 let oO:=if half&&f.headD 0==120 then cS f 120 / 2 else cS f 120
 let start:=(List.range rows).map fun r=>(List.range oO).map fun c=>[⟨c,r,0,0⟩]
 (((if half then f.tail else f).foldl Xf start).getD 0 []).getD 0 []
def agT(f:List Nat)(s:Int)(l:Ln):Lf:=⟨s,l.col,l.row,(l.x+l.y)%2==1,(if f.getLastD 0==120 then l.y else l.x)%2==1⟩
def aff(f:List Nat)(half:Bool):List Lf:=(ny f half).map (agT f 0)
def words:Nat→List (List Nat)
 |0=>[[]]
 |n+1=>(words n).map (120:: ·)++(words n).map (121:: ·)
def jL:List (List Nat):=words 1++words 2++words 3++words 4
def codes(s:ByteArray):List Nat:=s.data.toList.map UInt8.toNat
def mo(w:List Nat):ByteArray:=⟨(w.map UInt8.ofNat).toArray⟩
theorem LD:∀(n:Nat) (w:List Nat),w.length=n→(∀c∈w,c=120∨c=121)→w∈words n
 |0,[],_,_=>by simp[words]
 |n+1,c::w,hl,hc=>by
  have h:=LD n w (by simpa using hl) (fun d hd=>hc d (by simp[hd]))
  rcases hc c (by simp) with rfl|rfl<;>simp[words,h]
theorem agC(s:ByteArray):mo (codes s)=s:=by
 cases s with
 |mk a=>
  unfold mo codes
  rw[List.map_map]
  have:(UInt8.ofNat∘UInt8.toNat)=id:=by funext x;simp
  rw[this,List.map_id]
theorem D1(s:ByteArray)(k:Nat):bt s k=(codes s).getD k 0:=by
 unfold bt codes
 simp only[List.getD_eq_getElem?_getD,List.getElem?_map]
 cases s.data.toList[k]? <;>simp
theorem Xg{s:ByteArray}(h:gR s=0):codes s∈jL:=by
 unfold gR at h
 by_cases h1:1≤s.size∧s.size≤4
 case neg=>rw[if_neg h1] at h;cases h
 rw[if_pos h1] at h
 by_cases h2:∀k<s.size,eL (bt s k)=true
 case neg=>rw[if_neg h2] at h;cases h
 have hl:(codes s).length=s.size:=by simp[codes]
 have hc:∀c∈codes s,c=120∨c=121:=fun c hc=>by
  obtain⟨k,hk,rfl⟩:=List.mem_iff_getElem.1 hc
  have:=h2 k (by omega)
  rw[D1,List.getD_eq_getElem?_getD,List.getElem?_eq_getElem hk] at this
  simpa[eL] using this
 have hm:=LD _ (codes s) rfl hc
 unfold jL
 simp only[List.mem_append]
 have:(codes s).length=1∨(codes s).length=2∨(codes s).length=3∨(codes s).length=4:=by omega
 rcases this with e|e|e|e<;>rw[e] at hm<;>simp[hm]
end Go.Proofs.YtnncgmimhdplfaaGreat.F
namespace Go.Proofs.YtnncgmimhdplfaaGreat.F
open Go.aq
def aY(p:aL)(m:Mk):ByteArray:=(p.aX.map Fmt.aer).getD m.format.toNat ⟨#[]⟩
def jM(p:aL)(m:Mk):Int:=
 if¬(0≤m.format∧m.format≤(p.aX.length:Int) - 1)∨¬(0≤m.b_∧m.b_≤(p.aR.length:Int) - 1) then 4
 else if¬(1≤m.aW∧m.aW≤p.aW) then 7
 else if m.half=true∧(m.aW≠1∨(aY p m).size<2) then 2 else 0
def bh(p:aL):Int:=(afe p).2.2
def jN(p:aL)(m:Mk):Int:=if bh p≠0 then bh p else jM p m
def LF:aL:=⟨[],[],0,0⟩
def LG(p:aL):aL:=if bh p≠0 then LF else p
theorem D2{n:Nat}{e:Nat→Int}(h:(ep n e).2=0):∀i<n,e i=0:=by
 intro i hi
 unfold ep at h
 cases hf:(List.range n).find? fun i=>e i != 0 with
 |some j=>
  rw[hf] at h
  have:=List.find?_some hf
  simp at this h
  exact(this h).elim
 |none=>
  rw[List.find?_eq_none] at hf
  simpa using hf i (by simpa using hi)
structure eM (p:aL):Prop where
 aX:1≤p.aX.length∧p.aX.length≤6
 aer:∀i (h:i<p.aX.length),codes p.aX[i].aer∈jL
 aR:1≤p.aR.length∧p.aR.length≤4
 wide:∀i (h:i<p.aR.length),ae3 1 2000 p.aR[i].wide p.aR[i].high=0
 trim:0≤p.trim∧p.trim≤60
 aW:1≤p.aW∧p.aW≤4
theorem afL{p:aL}(h:bh p=0):eM p:=by
 unfold bh afe at h
 split at h
 ·cases h
 rename_i h1
 split at h
 ·rename_i h2;exact(h2 h).elim
 rename_i h2
 split at h
 ·cases h
 rename_i h3
 split at h
 ·rename_i h4;exact(h4 h).elim
 rename_i h4
 split at h
 ·cases h
 rename_i h5
 refine⟨Decidable.of_not_not h1,fun i hi=> ?_,Decidable.of_not_not h3,fun i hi=> ?_,Decidable.of_not_not fun h=>h5 (.inl h),Decidable.of_not_not fun h=>h5 (.inr h)⟩
 ·have:=D2 (Decidable.of_not_not h2) i hi
  unfold fE at this
  rw[dif_pos hi] at this
  unfold agz at this
  split at this
  ·exact Xg this
  ·rename_i h;exact(h this).elim
 ·have:=D2 (Decidable.of_not_not h4) i hi
  unfold pE at this
  rw[dif_pos hi] at this
  unfold agB at this
  split at this
  ·exact this
  ·rename_i h;exact(h this).elim
structure eu (p:aL) (m:Mk):Prop where
 fmt:0≤m.format∧m.format≤(p.aX.length:Int) - 1
 ppr:0≤m.b_∧m.b_≤(p.aR.length:Int) - 1
 aW:1≤m.aW∧m.aW≤p.aW
 half:m.half=true→m.aW=1∧2≤(aY p m).size
theorem Xh{p:aL}{m:Mk}(h:jM p m=0):eu p m:=by
 unfold jM at h
 split at h
 ·cases h
 rename_i h1
 split at h
 ·cases h
 rename_i h2
 split at h
 ·cases h
 rename_i h3
 exact⟨Decidable.of_not_not fun h=>h1 (.inl h),Decidable.of_not_not fun h=>h1 (.inr h),Decidable.of_not_not h2,fun hh=>by
  have:¬(m.aW≠1∨(aY p m).size<2):=fun h=>h3 ⟨hh,h⟩
  omega⟩
theorem Xi{p:aL}{m:Mk}(h:jN p m=0):bh p=0∧jM p m=0:=by
 unfold jN at h
 split at h
 ·rename_i h1;exact(h1 h).elim
 ·rename_i h1;exact⟨Decidable.of_not_not h1,h⟩
theorem qq{p:aL}{m:Mk}{k:Nat}(hk:m.format=k)(h:k<p.aX.length):aY p m=p.aX[k].aer:=by
 unfold aY
 rw[hk]
 simp[List.getD_eq_getElem?_getD,h]
theorem afq{p:aL}{m:Mk}(hp:eM p)(h:eu p m):codes (aY p m)∈jL:=by
 obtain⟨k,hk⟩:∃k:Nat,m.format=k:=⟨m.format.toNat,by have:=h.fmt;omega⟩
 have hl:k<p.aX.length:=by have:=h.fmt;omega
 rw[qq hk hl]
 exact hp.aer k hl
theorem yR(p:aL)(m:Mk)(h:0≤m.format∧m.format≤(p.aX.length:Int) - 1):aed Tryz.prog 68 [p.av,m.av] (S (aY p m)):=by
 refine pc t68 (by simp) fun hfit=> ?_
 obtain⟨k,hk⟩:∃k:Nat,m.format=k:=⟨m.format.toNat,by omega⟩
 have hl:k<p.aX.length:=by omega
 rw[qq hk hl]
 simp -implicitDefEqProofs [u_,hk,hl,Db]
theorem LH(p:aL)(m:Mk):aed Tryz.prog 90 [p.av,m.av] (I (jM p m)):=by
 refine pc t90 (by simp) fun hfit=> ?_
 have kV:p.aX.length≤140737488355328:=by simpa using cY (jJ (hfit 0) 0)
 have m0:p.aR.length≤140737488355328:=by simpa using cY (jJ (hfit 0) 1)
 have c1:=aet 0 ((p.aX.length:Int) - 1) [m.format]
 have c2:=aet 0 ((p.aR.length:Int) - 1) [m.b_]
 have c3:=aet 1 p.aW [m.aW]
 rw[aeC] at c1 c2 c3
 obtain⟨R,hR⟩:∃R,R=jM p m:=⟨_,rfl⟩
 rw[←hR]
 unfold jM at hR
 simp -implicitDefEqProofs [Dr]
 refine⟨i64 (by omega) (by omega),?_⟩
 refine aj c1 ?_
 by_cases h1:0≤m.format∧m.format≤(p.aX.length:Int) - 1
 case neg=>
  rw[if_pos (.inl h1)] at hR
  rw[decide_eq_false h1]
  simp -implicitDefEqProofs [nv,hR]
 rw[decide_eq_true h1]
 simp -implicitDefEqProofs
 refine⟨i64 (by omega) (by omega),?_⟩
 refine aj c2 ?_
 by_cases h2:0≤m.b_∧m.b_≤(p.aR.length:Int) - 1
 case neg=>
  rw[if_pos (.inr h2)] at hR
  rw[decide_eq_false h2]
  simp -implicitDefEqProofs [nv,hR]
 rw[if_neg (fun h=>h.elim (fun h=>h h1) fun h=>h h2)] at hR
 rw[decide_eq_true h2]
 simp -implicitDefEqProofs
 refine aj c3 ?_
 by_cases h3:1≤m.aW∧m.aW≤p.aW
 case neg=>
  rw[if_pos h3] at hR
  rw[decide_eq_false h3]
  simp -implicitDefEqProofs [nv,hR]
 rw[if_neg (not_not_intro h3)] at hR
 rw[decide_eq_true h3]
 simp -implicitDefEqProofs
 have c4:=yR p m h1
 generalize aY p m=f at*
 cases hh:m.half with
 |false=>
  rw[hh,if_neg (by simp)] at hR
  simp -implicitDefEqProofs [nv,hR]
 |true=>
  rw[hh] at hR
  by_cases h4:m.aW=1
  ·have h4':(m.aW != 1)=false:=by simp[h4]
   simp -implicitDefEqProofs [h4']
   have Xj:aed Tryz.prog 68 [p.av,.agg [I m.format,I m.b_,I m.aW,B true]] (S f):=by rw[←hh];exact c4
   refine aj Xj ?_
   by_cases h5:f.size<2
   ·rw[if_pos ⟨rfl,.inr h5⟩] at hR
    have qt:(f.size:Int)<2:=by omega
    simp -implicitDefEqProofs [nv,hR,qt]
   ·rw[if_neg (by simp[h4,h5])] at hR
    have qt:¬(f.size:Int)<2:=by omega
    simp -implicitDefEqProofs [nv,hR,qt]
  ·have h4':(m.aW != 1)=true:=by simp[h4]
   rw[if_pos ⟨rfl,.inl h4⟩] at hR
   simp -implicitDefEqProofs [h4',nv,hR]
theorem oP(p:aL)(m:Mk):aed Tryz.prog 64 [p.av,m.av] (.tuple [(LG p).av,I (jN p m)]):=by
 refine pc t64 (by simp) fun hfit=> ?_
 have c1:=yP p
 have c2:=LH p m
 unfold LG jN bh
 generalize afe p=e at*
 generalize jM p m=g at*
 simp -implicitDefEqProofs [m64]
 intro b1
 refine aj c1 ?_
 simp -implicitDefEqProofs
 refine bR (fun he=> ?_) (fun he=> ?_)
 ·have h0:e.2.2≠0:=by simpa using he
  simp -implicitDefEqProofs [h0,r64,LF]
 ·have h0:e.2.2=0:=by simpa using he
  simp -implicitDefEqProofs
  intro b2 hb2
  have xJ:¬b1=b2:=fun h=>hb2 h.symm
  refine aj c2 ?_
  simp -implicitDefEqProofs [h0,r64,xJ]
end Go.Proofs.YtnncgmimhdplfaaGreat.F
namespace Go.Proofs.YtnncgmimhdplfaaGreat.F
open Go.aq
theorem Xk(l r y:List AV)(o:Nat)(h:l.length=o):∀(z:List AV),y.length=z.length→splice (l++(z++r)) o y=l++(y++r):=by
 induction y generalizing l o with
 |nil=>intro z hz;have:z=[]:=List.length_eq_zero_iff.1 hz.symm;subst this;rfl
 |cons v y ih=>
  intro z hz
  cases z with
  |nil=>simp at hz
  |cons w z=>
   have:=ih (l++[v]) (o+1) (by simp[h]) z (by simpa using hz)
   rw[BR]
   have e:(l++(w::z++r)).set o v=(l++[v])++(z++r):=by
    subst h
    simp
   rw[e,this]
   simp
theorem Xl{n:Nat}(y:List AV)(hy:y.length=n):∀(ls:List (List AV)) (j:Nat),(∀l∈ls,l.length=n)→j<ls.length→splice ls.flatten (j*n) y=(ls.set j y).flatten:=by
 intro ls j hl hj
 have e:ls.flatten=(ls.take j).flatten++(ls[j]++(ls.drop (j+1)).flatten):=by
  have e0:ls.flatten=(ls.take j++ls.drop j).flatten:=by rw[List.take_append_drop]
  rw[e0,List.drop_eq_getElem_cons hj,List.flatten_append,List.flatten_cons]
 have h1:(ls.take j).flatten.length=j*n:=by
  rw[List.length_flatten]
  have:∀(m:List (List AV)),(∀l∈m,l.length=n)→(m.map List.length).sum=m.length*n:=by
   intro m hm
   induction m with
   |nil=>simp
   |cons a m ih=>simp[ih fun l hl=>hm l (by simp[hl]),hm a (by simp),Nat.succ_mul,Nat.add_comm]
  rw[this _ fun l h=>hl l (List.mem_of_mem_take h)]
  rw[List.length_take,Nat.min_eq_left (by omega)]
 rw[e,Xk _ _ _ _ h1 _ (by rw[hy,hl _ (List.getElem_mem hj)])]
 rw[List.set_eq_take_append_cons_drop,if_pos hj]
 simp
def mu:Lf:=⟨0,0,0,false,false⟩
def iL(xs:List Lf):List AV:=(xs.map Lf.cs).flatten
@[simp] theorem adR (xs:List Lf):(iL xs).length=xs.length*5:=by
 induction xs with
 |nil=>rfl
 |cons x xs ih=>
  have:iL (x::xs)=x.cs++iL xs:=rfl
  rw[this,List.length_append,ih]
  show 5+xs.length*5=(xs.length+1)*5
  omega
theorem LI(xs:List Lf)(j:Nat)(x:Lf)(h:j<xs.length):splice (iL xs) (j*5) x.cs=iL (xs.set j x):=by
 unfold iL
 have:=Xl (n:=5) x.cs rfl (xs.map Lf.cs) j (fun l hl=>by obtain⟨y,_,rfl⟩:=List.mem_map.1 hl;rfl) (by simpa using h)
 rw[this,←List.map_set]
theorem LJ:∀(xs:List Lf),chunk 5 (iL xs) xs.length=xs.map Lf.av
 |[]=>rfl
 |x::xs=>by
  have ih:=LJ xs
  simp only[List.length_cons,chunk]
  rw[show(iL (x::xs)).drop 5=iL xs from rfl,ih]
  rfl
theorem Xm(xs:List Lf):(iL xs).all AV.bK=true:=by
 induction xs with
 |nil=>rfl
 |cons x xs ih=>
  have:iL (x::xs)=x.cs++iL xs:=rfl
  rw[this,List.all_append,ih];rfl
theorem Xn(s:St)(d b o:Nat):fh s d (.au b o)=s.set d (.au b o):=rfl
theorem Xo(s:St)(d b o l c z:Nat):fh s d (.aV b o l c z)=s.set d (.aV b o l c z):=rfl
theorem LK(s:St)(d b:Nat):fh s d (.bQ b)=s.set d (.bQ b):=rfl
theorem Xp(s:St)(d:Nat):fh s d .any=s.set d .any:=rfl
theorem Xq(r b o l c z:Nat):aC r (.aV b o l c z)=.aV b o l c z:=rfl
theorem ahP(r b:Nat):aC r (.bQ b)=.bQ b:=rfl
theorem Xr(b o l c z:Nat):(AV.aV b o l c z).erase=.aV b o l c z:=rfl
theorem LM(b:Nat):(AV.bQ b).erase=.bQ b:=rfl
theorem Xs(b o l c z:Nat):(AV.aV b o l c z).cells=[.aV b o l c z]:=rfl
theorem LN(b:Nat):(AV.bQ b).cells=[.bQ b]:=rfl
attribute [simp] Xn Xo LK Xp Xq ahP Xr LM Xs LN
def LO(P:Program)(ms:List MOp)(K:St→Prop)(s:St)(k v:AV)(n:Option Nat):AV→Prop
 |.bQ b=>∃es,s.env (oS+b)=bI es∧jr n k∧match aen k es 0 with
   |some (some i)=>vcs P ms K (s.set (oS+b) (bI (es.set i [k,v])))
   |some none=>vcs P ms K (s.set (oS+b) (bI (es++[[k,v]])))
   |none=>False
 |_=>False
theorem Xt(P:Program)(ms:List MOp)(K:St→Prop)(s:St)(x k v:ai)(n:Option Nat):vcs P (.lY x k v n::ms) K s=LO P ms K s (k.ev s.env).erase (v.ev s.env).erase n (x.ev s.env):=by unfold LO;rfl
def agD(P:Program)(ms:List MOp)(K:St→Prop)(s:St)(d:Nat)(k:AV)(n:Option Nat)(ok:Bool)(zero:AV):AV→Prop
 |.bQ b=>∃es,s.env (oS+b)=bI es∧jr n k∧match aen k es 0 with
   |some (some i)=>vcs P ms K (s.set d (if ok then .tuple [((es.getD i []).getD 1 .any),.lit (.bool true)] else ((es.getD i []).getD 1 .any).erase))
   |some none=>vcs P ms K (s.set d (if ok then .tuple [zero,.lit (.bool false)] else zero.erase))
   |none=>False
 |_=>False
theorem D3(P:Program)(ms:List MOp)(K:St→Prop)(s:St)(d:Nat)(x k:ai)(n:Option Nat)(ok:Bool)(zero:AV):vcs P (.lookup d x k n ok zero::ms) K s=agD P ms K s d (k.ev s.env).erase n ok zero (x.ev s.env):=by unfold agD;rfl
attribute [simp] Xt D3
end Go.Proofs.YtnncgmimhdplfaaGreat.F
namespace Go.Proofs.YtnncgmimhdplfaaGreat.F
open Go.aq
def vt(n N s i:Nat):Nat:=if i<n then s*n+i else N - (s+2)*n+i
def vu(L:List Lf)(N s:Nat)(xs:List Lf)(i:Nat):List Lf:=xs.set (vt (L.length / 2) N s i) {L.getD i mu with aeS:=(s:Int)}
def afr(L:List Lf)(N s k:Nat)(xs:List Lf):List Lf:=(List.range k).foldl (vu L N s) xs
def iM(L:List Lf)(N k:Nat):List Lf:=(List.range k).foldl (fun xs s=>afr L N s L.length xs) (List.replicate N mu)
theorem Xu(L:List Lf)(N s:Nat)(xs:List Lf):afr L N s 0 xs=xs:=rfl
theorem D4(L:List Lf)(N s k:Nat)(xs:List Lf):afr L N s (k+1) xs=vu L N s (afr L N s k xs) k:=by unfold afr;rw[List.range_succ,List.foldl_append];rfl
theorem LP(L:List Lf)(N k:Nat):iM L N (k+1)=afr L N k L.length (iM L N k):=by unfold iM;rw[List.range_succ,List.foldl_append];rfl
theorem agV(L:List Lf)(N s k:Nat)(xs:List Lf):(afr L N s k xs).length=xs.length:=by
 induction k with
 |zero=>rfl
 |succ k ih=>rw[D4];unfold vu;rw[List.length_set,ih]
theorem r_(L:List Lf)(N k:Nat):(iM L N k).length=N:=by
 induction k with
 |zero=>simp[iM]
 |succ k ih=>rw[LP,agV,ih]
theorem Xv{S n s i:Nat}(hs:s<S)(hi:n≤i)(hi2:i<2*n):(s+2)*n≤S*(2*n)∧(s+2)*n≤S*(2*n)+n∧s*n≤S*n∧S*(2*n) - (s+2)*n+i<S*(2*n)∧n≤S*n:=by
 obtain⟨d,rfl⟩:∃d,S=s+1+d:=⟨S - s - 1,by omega⟩
 have e1:(s+1+d)*(2*n)=2*(s*n)+2*n+2*(d*n):=by rw[Nat.add_mul,Nat.add_mul,Nat.mul_left_comm s,Nat.mul_left_comm d];omega
 have e2:(s+1+d)*n=s*n+n+d*n:=by rw[Nat.add_mul,Nat.add_mul];omega
 have e3:(s+2)*n=s*n+2*n:=Nat.add_mul ..
 omega
theorem Xw(p:aL)(m:Mk)(S n:Nat)(L:List Lf)(hf:0≤m.format∧m.format≤(p.aX.length:Int) - 1)(hm:m.aW=S)(hS:1≤S∧S≤4)(hL:L.length=2*n)(hn:n≤8)(yS:aed Tryz.prog 102 [YtnncgmimhdplfaaGreat.F.S (aY p m),B m.half] (LL L)):aed Tryz.prog 65 [p.av,m.av] (LL (iM L (S*L.length) S)):=by
 refine pc t65 (by simp) fun hfit=> ?_
 have c1:=yR p m hf
 generalize aY p m=f at*
 have Xx:S*n≤32:=Nat.le_trans (Nat.mul_le_mul hS.2 hn) (by omega)
 have hN:S*L.length=2*(S*n):=by rw[hL,Nat.mul_left_comm]
 have Xy:(S:Int)*(L.length:Int)=((S*L.length:Nat):Int):=by simp
 obtain⟨mf,mp,ms,mh⟩:=m
 obtain rfl:ms=(S:Int):=hm
 simp -implicitDefEqProofs [C9]
 refine aj c1 ?_
 simp -implicitDefEqProofs
 refine aj yS ?_
 have hq:((L.length:Int)).tdiv 2=(n:Int):=by rw[hL,Int.tdiv_eq_ediv_of_nonneg (by omega)];omega
 simp -implicitDefEqProofs [hq]
 rw[Xy]
 generalize Xz:S*L.length=N at*
 refine⟨i64 (by omega) (by omega),i64 (by omega) (by omega),by omega,by omega,by omega,by omega,?_⟩
 intro b
 refine aef S (fun k s=>s.env 5=LL L∧s.env 6=I n∧s.env 7=.aV b 0 N N 5∧s.loc b=some (iL (iM L N k))∧s.env 27=I S∧s.env 28=I k) ?_ ?_
 ·simp[iM,mu,iL]
 rintro k s hk ⟨e5,e6,e7,el,fC,fD⟩
 simp -implicitDefEqProofs [fC,fD]
 refine bA (fun hlt=> ?_) (fun hge=> ?_)
 ·have hlt:k<S:=by omega
  simp -implicitDefEqProofs [fD,e5]
  refine aef L.length (fun j s=>s.env 5=LL L∧s.env 6=I n∧s.env 7=.aV b 0 N N 5∧s.loc b=some (iL (afr L N k j (iM L N k)))∧s.env 27=I S∧s.env 28=I k∧s.env 8=I k∧s.env 31=LL L∧s.env 32=I L.length∧s.env 33=I j) ?_ ?_
  ·simp[e5,e6,e7,el,fC,fD,Xu]
  clear el e5 e6 e7 fC fD
  rintro j s hj ⟨e5,e6,e7,el,fC,fD,e8,e31,gT,qu⟩
  simp -implicitDefEqProofs [gT,qu]
  refine bA (fun br=> ?_) (fun nA=> ?_)
  ·have br:j<L.length:=by omega
   simp -implicitDefEqProofs [e5,e6,e7,el,fC,fD,e8,e31,gT,qu,br]
   intro b2 hb2
   have hb:¬b2=b:=fun h=>by subst h;rw[el] at hb2;cases hb2
   have hb':¬b=b2:=fun h=>hb h.symm
   refine bA (fun aeY=> ?_) (fun D5=> ?_)
   ·simp -implicitDefEqProofs [e5,e6,e7,el,fC,fD,e8,e31,gT,qu,br,hb,hb']
    obtain⟨a,ha⟩:∃a:Nat,a=k*n:=⟨_,rfl⟩
    have D6:(k:Int)*(n:Int)=(a:Int):=by rw[ha];simp
    rw[D6]
    have hkn:a+n≤S*n:=by
     have:=Nat.mul_le_mul_right n (show k+1≤S by omega)
     rw[Nat.succ_mul] at this
     omega
    have hp:vt (L.length / 2) N k j=a+j:=by rw[hL,Nat.mul_div_cancel_left _ (by omega)];unfold vt;rw[if_pos (by omega),ha]
    have hj2:((a:Int)+(j:Int)).toNat=a+j:=by omega
    rw[agV,r_]
    refine⟨i64 (by omega) (by omega),i64 (by omega) (by omega),by omega,by omega,by omega,i64 (by omega) (by omega),aQ br ?_⟩
    have hput:afr L N k (j+1) (iM L N k)=(afr L N k j (iM L N k)).set (a+j) {L[j] with aeS:=(k:Int)}:=by rw[D4];unfold vu;rw[hp];simp[List.getD_eq_getElem?_getD,br]
    rw[hput,←LI _ _ _ (by rw[agV,r_];omega)]
    refine⟨by simp[e5],by simp[e6],by simp[e7],?_,by simp[fC],by simp[fD],by simp[e8],by simp[e31],by simp[gT],by simp⟩
    simp[hj2,hb,hb',el]
   ·simp -implicitDefEqProofs [e5,e6,e7,el,fC,fD,e8,e31,gT,qu,br,hb,hb']
    obtain⟨a,ha⟩:∃a:Nat,a=(k+2)*n:=⟨_,rfl⟩
    have D6:((k:Int)+2)*(n:Int)=(a:Int):=by rw[ha];simp
    rw[D6]
    have hpf:=Xv (S:=S) (n:=n) (s:=k) (i:=j) hlt (by omega) (by omega)
    rw[←hL,Xz,←ha] at hpf
    have hd:L.length / 2=n:=by omega
    have XA:¬j<n:=by omega
    have hp:vt (L.length / 2) N k j=N - a+j:=by rw[hd];unfold vt;rw[if_neg XA,ha]
    have hj2:((N:Int) - (a:Int)+(j:Int)).toNat=N - a+j:=by omega
    rw[agV,r_]
    refine⟨i64 (by omega) (by omega),i64 (by omega) (by omega),i64 (by omega) (by omega),i64 (by omega) (by omega),by omega,by omega,by omega,i64 (by omega) (by omega),aQ br ?_⟩
    have hput:afr L N k (j+1) (iM L N k)=(afr L N k j (iM L N k)).set (N - a+j) {L[j] with aeS:=(k:Int)}:=by rw[D4];unfold vu;rw[hp];simp[List.getD_eq_getElem?_getD,br]
    rw[hput,←LI _ _ _ (by rw[agV,r_];omega)]
    refine⟨by simp[e5],by simp[e6],by simp[e7],?_,by simp[fC],by simp[fD],by simp[e8],by simp[e31],by simp[gT],by simp⟩
    simp[hj2,hb,hb',el]
  ·obtain rfl:j=L.length:=by omega
   rw[←LP] at el
   simp -implicitDefEqProofs [fD]
   exact⟨i64 (by omega) (by omega),aQ hlt ⟨by simp[e5],by simp[e6],by simp[e7],by simp[el],by simp[fC],by simp⟩⟩
 ·obtain rfl:k=S:=by omega
  simp -implicitDefEqProofs [e7,el,Xm]
  have hch:=LJ (iM L N k)
  rw[r_] at hch
  simp -implicitDefEqProofs [r_,hch,C_]
  exact⟨by omega,rfl⟩
end Go.Proofs.YtnncgmimhdplfaaGreat.F
