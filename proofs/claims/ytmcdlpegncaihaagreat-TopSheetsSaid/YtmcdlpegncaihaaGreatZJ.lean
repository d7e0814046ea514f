/- All ways of making come to a few cases; what holds in each of them. The leaves of a gathering: the reference's walk. The leaves of a gathering: the program's and the reference's are the same; Leaves. Lists that are compared: Same and Ints of the reference. The leaves of a gathering are at places of their own, and not too many. The leaves of one sheet: Mates, of the program and of the reference. Where the watermark is: mark, Has and Marked, of the program and of the reference. Marked, of the program and of the reference. The pages of a forme: the reference's search, the program's map. The pages of a forme: the program's walk. What a law's arguments of layer 2 say: presses, gatherings, ways of making, and lists of numbers. The law FoldLeaves returns true. All ways of making, in order: the reference's walk. Helpers of the outright laws: valid, Made, turn, halves, Has. What the laws on leaves need: arguments, and what holds of the mates in all cases. -/
import Derived.Test.YtmcdlpegncaihaaGreatZF
import Derived.Test.YtmcdlpegncaihaaGreatZH
import Derived.Test.YtmcdlpegncaihaaGreatZI
import Derived.Test.YtmcdlpegncaihaaGreatZE
import Derived.Test.YtmcdlpegncaihaaGreatZC
namespace Go.Proofs.YtmcdlpegncaihaaGreat.F
open Go.Z4
theorem Iq:∀(n:Nat) (w:List Nat),w∈words n→w.length=n
 |0,w,h=>by simp[words] at h;simp[h]
 |n+1,w,h=>by
  simp only[words,List.mem_append,List.mem_map] at h
  rcases h with ⟨v,hv,rfl⟩|⟨v,hv,rfl⟩<;>simp[Iq n v hv]
theorem Vr{w:List Nat}(h:w∈n_):w∈words w.length∧1≤w.length∧w.length≤4:=by
 simp only[n_,List.mem_append] at h
 rcases h with ((h|h)|h)|h<;>(have e:=Iq _ _ h;rw[e];exact⟨h,by omega,by omega⟩)
theorem Vs{w:List Nat}{half:Bool}(h:w∈n_)(hh:half=true→2≤w.length):(w,half)∈pM:=by
 unfold pM
 rw[List.mem_append]
 cases half with
 |false=>exact .inl (List.mem_map.2 ⟨w,h,rfl⟩)
 |true=>
  right
  refine List.mem_map.2 ⟨w,?_,rfl⟩
  obtain⟨h1,h2,h3⟩:=Vr h
  have hl:=hh rfl
  simp only[List.mem_append]
  have:w.length=2∨w.length=3∨w.length=4:=by omega
  rcases this with e|e|e<;>rw[e] at h1<;>simp[h1]
def pN:List (List Nat×Bool×Nat):=pM.flatMap fun x=>if x.2 then [(x.1,x.2,1)] else [(x.1,x.2,1),(x.1,x.2,2),(x.1,x.2,3),(x.1,x.2,4)]
def tF(p:bA)(m:Mk):List Nat×Bool×Nat:=(codes (gy p m),m.half,m.Z7.toNat)
def lvM(x:List Nat×Bool×Nat):List Lf:=aa8 (js x.1 x.2.1) (x.2.2*(js x.1 x.2.1).length) x.2.2
theorem Vt(s:ByteArray):(codes s).length=s.size:=by simp[codes]
theorem wE{p:bA}{m:Mk}(hp:jt p)(hm:kO p m):(codes (gy p m),m.half)∈pM:=Vs (TH hp hm) fun h=>by rw[Vt];exact(hm.half h).2
theorem Vu{p:bA}{m:Mk}(hp:jt p)(hm:kO p m):tF p m∈pN:=by
 unfold pN tF
 rw[List.mem_flatMap]
 refine⟨_,wE hp hm,?_⟩
 have h1:=hm.Z7
 have h2:=hp.Z7
 cases hh:m.half with
 |true=>
  have:=(hm.half hh).1
  simp[this]
 |false=>
  have:m.Z7=1∨m.Z7=2∨m.Z7=3∨m.Z7=4:=by omega
  rcases this with e|e|e|e<;>simp[e]
theorem Ir:∀x∈pM,(js x.1 x.2).length%2=0∧2≤(js x.1 x.2).length∧(js x.1 x.2).length≤16:=by decide+kernel
theorem wF{q:List Nat×Bool×Nat→Bool}(h:pN.all q=true){p:bA}{m:Mk}(hp:jt p)(hm:kO p m):q (tF p m)=true:=List.all_eq_true.1 h _ (Vu hp hm)
end Go.Proofs.YtmcdlpegncaihaaGreat.F
namespace Go.Proofs.YtmcdlpegncaihaaGreat.F
open Go.Z4
end Go.Proofs.YtmcdlpegncaihaaGreat.F
namespace Go.Proofs.YtmcdlpegncaihaaGreat.F
open Go.Z4
def cj(p:bA)(m:Mk):List Lf:=lvM (tF p m)
theorem wG{p:bA}{m:Mk}(hp:jt p)(hm:kO p m):m.Z7=(m.Z7.toNat:Int)∧1≤m.Z7.toNat∧m.Z7.toNat≤4:=by
 have h1:=hm.Z7
 have h2:=hp.Z7
 omega
theorem Is{p:bA}{m:Mk}(hp:jt p)(hm:kO p m):aG Tryz.prog 43 [p.av,m.av] (LL (cj p m)):=by
 have wB:=Vq _ (wE hp hm)
 rw[TE] at wB
 have hl:=Ir _ (wE hp hm)
 have hs:=wG hp hm
 have hl':(js (codes (gy p m)) m.half).length=2*((js (codes (gy p m)) m.half).length / 2):=by simp only at hl;omega
 exact TT p m m.Z7.toNat ((js (codes (gy p m)) m.half).length / 2) (js (codes (gy p m)) m.half) hm.fmt hs.1 hs.2 hl' (by simp only at hl;omega) wB
theorem Vv(p:bA)(m:Mk):aG Tryz.prog 70 [p.av,m.av] (I (ew p m)):=by
 refine pc t70 (by simp) fun hfit=> ?_
 have jd:p.Z6.length≤140737488355328:=by simpa using aaJ (pG (hfit 0) 0)
 have gu:p.bu.length≤140737488355328:=by simpa using aaJ (pG (hfit 0) 1)
 have c0:=Hu p
 have c1:=abN m.format 0 ((p.Z6.length:Int) - 1)
 have c2:=abN m.jX 0 ((p.bu.length:Int) - 1)
 have c3:=abN m.Z7 1 p.Z7
 obtain⟨R,hR⟩:∃R,R=ew p m:=⟨_,rfl⟩
 rw[←hR]
 unfold ew gU at hR
 generalize lI p=e at*
 simp -implicitDefEqProofs [GA]
 refine aL c0 ?_
 simp -implicitDefEqProofs
 refine c8 (fun he=> ?_) (fun he=> ?_)
 ·have h0:e.2.2≠0:=by simpa using he
  rw[if_pos h0] at hR
  simp -implicitDefEqProofs [mQ,hR]
 have h0:e.2.2=0:=by simpa using he
 rw[if_neg (not_not_intro h0)] at hR
 unfold lJ at hR
 simp -implicitDefEqProofs
 refine⟨i64 (by omega) (by omega),?_⟩
 refine aL c1 ?_
 by_cases h1:0≤m.format∧m.format≤(p.Z6.length:Int) - 1
 case neg=>
  rw[if_pos (.inl h1)] at hR
  rw[decide_eq_false h1]
  simp -implicitDefEqProofs [mQ,hR]
 rw[decide_eq_true h1]
 simp -implicitDefEqProofs
 refine⟨i64 (by omega) (by omega),?_⟩
 refine aL c2 ?_
 by_cases h2:0≤m.jX∧m.jX≤(p.bu.length:Int) - 1
 case neg=>
  rw[if_pos (.inr h2)] at hR
  rw[decide_eq_false h2]
  simp -implicitDefEqProofs [mQ,hR]
 rw[if_neg (fun h=>h.elim (fun h=>h h1) fun h=>h h2)] at hR
 rw[decide_eq_true h2]
 simp -implicitDefEqProofs
 refine aL c3 ?_
 by_cases h3:1≤m.Z7∧m.Z7≤p.Z7
 case neg=>
  rw[if_pos h3] at hR
  rw[decide_eq_false h3]
  simp -implicitDefEqProofs [mQ,hR]
 rw[if_neg (not_not_intro h3)] at hR
 rw[decide_eq_true h3]
 simp -implicitDefEqProofs
 obtain⟨g,hg⟩:∃g:Nat,m.format=g:=⟨m.format.toNat,by omega⟩
 have hgl:g<p.Z6.length:=by omega
 rw[Bh hg hgl] at hR
 cases hh:m.half with
 |false=>
  rw[hh,if_neg (by simp)] at hR
  simp -implicitDefEqProofs [mQ,hR]
 |true=>
  rw[hh] at hR
  by_cases h4:m.Z7=1
  ·have pJ:(m.Z7 != 1)=false:=by simp[h4]
   simp -implicitDefEqProofs [pJ,hg,hgl]
   by_cases h5:p.Z6[g].aam.size<2
   ·rw[if_pos ⟨rfl,.inr h5⟩] at hR
    have pK:(p.Z6[g].aam.size:Int)<2:=by omega
    simp -implicitDefEqProofs [mQ,hR,pK]
   ·rw[if_neg (by simp[h4,h5])] at hR
    have pK:¬(p.Z6[g].aam.size:Int)<2:=by omega
    simp -implicitDefEqProofs [mQ,hR,pK]
  ·have pJ:(m.Z7 != 1)=true:=by simp[h4]
   rw[if_pos ⟨rfl,.inl h4⟩] at hR
   simp -implicitDefEqProofs [pJ,mQ,hR]
def tG(p:bA)(m:Mk):List Lf:=if ew p m=0 then cj p m else []
theorem It{p:bA}{m:Mk}(h:ew p m=0):pOr p=p:=by unfold pOr;rw[if_neg];simpa using(lK h).1
theorem Vw(p:bA)(m:Mk):aG Tryz.prog 8 [p.av,m.av] (.tuple [LL (tG p m),I (ew p m)]):=by
 refine pc t8 (by simp) fun hfit=> ?_
 have c1:=HA p m
 have c2:ew p m=0→aG Tryz.prog 43 [p.av,m.av] (LL (cj p m)):=fun h=>Is (abP (lK h).1) (tr (lK h).2)
 have hq:ew p m=0→pOr p=p:=It
 obtain⟨R,hR⟩:∃R,R=tG p m:=⟨_,rfl⟩
 rw[←hR]
 unfold tG at hR
 generalize cj p m=l at*
 generalize ew p m=e at*
 generalize pOr p=po at*
 simp -implicitDefEqProofs [m8]
 refine aL c1 ?_
 simp -implicitDefEqProofs
 intro b
 refine c8 (fun he=> ?_) (fun he=> ?_)
 ·have h0:e≠0:=by simpa using he
  rw[if_neg h0] at hR
  simp -implicitDefEqProofs [r8,hR]
 ·have h0:e=0:=by simpa using he
  rw[if_pos h0] at hR
  have c2:=c2 h0
  obtain rfl:=hq h0
  simp -implicitDefEqProofs
  refine aL c2 ?_
  simp -implicitDefEqProofs [r8,hR,h0]
end Go.Proofs.YtmcdlpegncaihaaGreat.F
namespace Go.Proofs.YtmcdlpegncaihaaGreat.F
open Go.Z4
def Vx(a b:List Int)(k:Nat)(s:St):Prop:=∃q:Bool,s.env 5=B q∧(q=false→a≠b)∧s.env 6=I k∧(q=true→a.take k=b.take k)
theorem Bo(a b:List Int):aG Tryz.prog 13 [IL a,IL b] (B (a==b)):=by
 refine pc t13 (by simp) fun hfit=> ?_
 have hl:=aaJ (hfit 0)
 simp only[List.length_map] at hl
 simp -implicitDefEqProofs [vX]
 by_cases h:a.length=b.length
 ·have h':((a.length:Int)==b.length)=true:=by simp[h]
  refine bP a.length (fun k s=>s.env 0=IL a∧s.env 1=IL b∧Vx a b k s) ?_ ?_
  ·simp;exact⟨true,by simp[h],by simp,by simp,by simp⟩
  ·rintro k s hk ⟨e0,e1,q,e5,hq,e6,ht⟩
   simp -implicitDefEqProofs [e0,e5]
   cases q with
   |false=>
    have hne:(a==b)=false:=by simpa using hq rfl
    simp -implicitDefEqProofs [qO,e5,hne]
   |true=>
    simp -implicitDefEqProofs [e0,e6]
    refine bY (fun hlt=> ?_) (fun hge=> ?_)
    ·have hlt:k<a.length:=by omega
     have cq:k<b.length:=by omega
     simp -implicitDefEqProofs [e0,e1,e6,hlt,cq]
     refine⟨i64 (by omega) (by omega),bz hlt ⟨by simp[e0],by simp[e1],⟨a[k]==b[k],by simp,fun hx=> ?_,by simp,fun hx=> ?_⟩⟩⟩
     ·intro hab;subst hab;simp at hx
     ·have hx':a[k]=b[k]:=by simpa using hx
      rw[dW hlt,dW cq,ht rfl,hx']
    ·have hk':k=a.length:=by omega
     have hab:a=b:=by
      have:=ht rfl
      rw[hk',List.take_length] at this
      rw[this,h,List.take_length]
     have hne:(a==b)=true:=by simpa using hab
     simp -implicitDefEqProofs [qO,e5,hne]
 ·have h':((a.length:Int)==b.length)=false:=beq_eq_false_iff_ne.2 (by omega)
  have hne:(a==b)=false:=by
   simp
   intro hab;exact h (by rw[hab])
  refine bP 0 (fun k s=>s.env 5=B false) ?_ ?_
  ·simp[h']
  ·rintro k s hk e5
   simp -implicitDefEqProofs [qO,e5,hne]
end Go.Proofs.YtmcdlpegncaihaaGreat.F
namespace Go.Proofs.YtmcdlpegncaihaaGreat.F
open Go.Z4
def aS(q:Nat→Bool)(n:Nat):List Int:=((List.range n).filter q).map Int.ofNat
theorem Iu(q:Nat→Bool):aS q 0=[]:=rfl
theorem tH(q:Nat→Bool)(n:Nat):aS q (n+1)=aS q n++if q n then [(n:Int)] else []:=by
 unfold aS
 rw[List.range_succ,List.filter_append,List.map_append]
 congr 1
 cases h:q n<;>simp[h]
theorem kP{q:Nat→Bool}{n:Nat}(h:q n=true):aS q (n+1)=aS q n++[(n:Int)]:=by rw[tH,h];rfl
theorem j0{q:Nat→Bool}{n:Nat}(h:q n=false):aS q (n+1)=aS q n:=by rw[tH,h];simp
theorem aaB(q:Nat→Bool)(n:Nat):(aS q n).length≤n:=by
 unfold aS
 rw[List.length_map]
 exact Nat.le_trans (List.length_filter_le _ _) (by simp)
def wH(x:Lf):Int×Int×Int:=(x.dO,x.col,x.row)
set_option maxRecDepth 100000 in
theorem Vy:pN.all (fun x=>decide ((lvM x).map wH).Nodup)=true:=by decide+kernel
set_option maxRecDepth 100000 in
theorem Vz:pN.all (fun x=>decide ((lvM x).length=x.2.2*(js x.1 x.2.1).length))=true:=by decide+kernel
theorem VA{p:bA}{m:Mk}(hp:jt p)(hm:kO p m):((cj p m).map wH).Nodup:=by
 have:=wF Vy hp hm
 exact of_decide_eq_true this
theorem Iv{p:bA}{m:Mk}(hp:jt p)(hm:kO p m):2≤(cj p m).length∧(cj p m).length≤64:=by
 have h1:=of_decide_eq_true (wF Vz hp hm)
 have h2:=Ir _ (wE hp hm)
 have h3:=wG hp hm
 have h4:(cj p m).length=m.Z7.toNat*(js (codes (gy p m)) m.half).length:=h1
 simp only at h2
 rw[h4]
 have h5:=Nat.mul_le_mul h3.2.2 h2.2.2
 have h6:=Nat.mul_le_mul h3.2.1 h2.2.1
 omega
theorem VB{p:bA}{m:Mk}(hp:jt p)(hm:kO p m){i j:Nat}(hi:i<(cj p m).length)(hj:j<(cj p m).length)(h:wH (cj p m)[i]=wH (cj p m)[j]):i=j:=by
 have hn:=VA hp hm
 rw[List.Nodup,List.pairwise_iff_getElem] at hn
 rcases Nat.lt_trichotomy i j with hij|hij|hij
 ·exact(hn i j (by simpa using hi) (by simpa using hj) hij (by simpa using h)).elim
 ·exact hij
 ·exact(hn j i (by simpa using hj) (by simpa using hi) hij (by simpa using h.symm)).elim
end Go.Proofs.YtmcdlpegncaihaaGreat.F
namespace Go.Proofs.YtmcdlpegncaihaaGreat.F
open Go.Z4
theorem VC(x y:Lf):cD [false,false,false,true,true] [I x.dO,I x.col,I x.row,B x.inner,B x.Bg] [I y.dO,I y.col,I y.row,B y.inner,B y.Bg]=some (decide (x=y)):=by
 obtain⟨a,b,c,d,e⟩:=x
 obtain⟨a',b',c',d',e'⟩:=y
 simp only[cD,if_true,Option.map_some,Lf.mk.injEq,Option.some.injEq]
 by_cases h1:a=a'<;>by_cases h2:b=b'<;>by_cases h3:c=c'<;>by_cases h4:d=d'<;>by_cases h5:e=e'<;>simp[h1,h2,h3,h4,h5]
def iR(l:List Lf)(k i:Nat):Bool:=(i != k)&&(l.getD i tu).dO==(l.getD k tu).dO
def pO(p:bA)(m:Mk)(leaf:Int):List Int×Int×Int:=
 if ew p m≠0 then ([],0,ew p m)
 else if¬(0≤leaf∧leaf≤(cj p m).length - 1) then ([],0,4)
 else (aS (iR (cj p m) leaf.toNat) (cj p m).length,(cj p m).length - 1 - leaf,0)
theorem VD(p:bA)(m:Mk)(leaf:Int):aG Tryz.prog 14 [p.av,m.av,I leaf] (.tuple [IL (pO p m leaf).1,I (pO p m leaf).2.1,I (pO p m leaf).2.2]):=by
 refine pc t14 (by simp) fun hfit=> ?_
 have c1:=HA p m
 have c2:ew p m=0→aG Tryz.prog 43 [p.av,m.av] (LL (cj p m)):=fun h=>Is (abP (lK h).1) (tr (lK h).2)
 have hn:ew p m=0→∀(i j:Nat) (hi:i<(cj p m).length) (hj:j<(cj p m).length),(cj p m)[i]=(cj p m)[j]→i=j:=fun h i j hi hj e=>VB (abP (lK h).1) (tr (lK h).2) hi hj (by rw[e])
 have hlen:ew p m=0→2≤(cj p m).length∧(cj p m).length≤64:=fun h=>Iv (abP (lK h).1) (tr (lK h).2)
 have hq:ew p m=0→pOr p=p:=It
 obtain⟨R,hR⟩:∃R,R=pO p m leaf:=⟨_,rfl⟩
 rw[←hR]
 unfold pO at hR
 generalize cj p m=l at*
 generalize ew p m=e at*
 generalize pOr p=po at*
 simp -implicitDefEqProofs [AE]
 refine aL c1 ?_
 simp -implicitDefEqProofs
 intro b
 refine c8 (fun he=> ?_) (fun he=> ?_)
 ·have h0:e≠0:=by simpa using he
  rw[if_pos h0] at hR
  simp -implicitDefEqProofs [r14,hR]
 have h0:e=0:=by simpa using he
 rw[if_neg (not_not_intro h0)] at hR
 have c2:=c2 h0
 have hn:=hn h0
 have hlen:=hlen h0
 obtain rfl:=hq h0
 simp -implicitDefEqProofs
 refine aL c2 ?_
 simp -implicitDefEqProofs
 refine⟨i64 (by omega) (by omega),?_⟩
 have c3:=jW 0 ((l.length:Int) - 1) [leaf]
 rw[wo] at c3
 refine aL c3 ?_
 by_cases h1:0≤leaf∧leaf≤(l.length:Int) - 1
 case neg=>
  rw[if_pos h1] at hR
  rw[decide_eq_false h1]
  simp -implicitDefEqProofs [r14,hR]
 rw[if_neg (not_not_intro h1)] at hR
 rw[decide_eq_true h1]
 obtain⟨k,rfl⟩:∃k:Nat,leaf=k:=⟨leaf.toNat,by omega⟩
 have hk:k<l.length:=by omega
 simp -implicitDefEqProofs
 refine bP l.length (fun j s=>s.env 2=I k∧s.env 6=.slice 1 ((aS (iR l k) j).map I) 7∧s.env 10=LL l∧s.env 31=LL l∧s.env 32=I l.length∧s.env 33=I j) ?_ ?_
 ·simp[Iu]
 rintro j s hj ⟨e2,e6,aH,gA,iQ,cr⟩
 simp -implicitDefEqProofs [iQ,cr]
 refine bY (fun hlt=> ?_) (fun hge=> ?_)
 ·have hlt:j<l.length:=by omega
  have tI:=aaB (iR l k) j
  simp -implicitDefEqProofs [e2,aH,gA,cr,hlt,hk]
  intro b2 cF
  by_cases hs:l[j].dO=l[k].dO
  ·have hs':(l[j].dO==l[k].dO)=true:=by simp[hs]
   simp -implicitDefEqProofs [hs',e2,aH,gA,cr,hlt,hk,-cD,VC]
   refine c8 (fun he=> ?_) (fun he=> ?_)
   ·have hne:l[j]≠l[k]:=by simpa using he
    have tn:j≠k:=fun h=>by subst h;exact hne rfl
    have hf:iR l k j=true:=by simp[iR,List.getD_eq_getElem?_getD,hlt,hk,hs,tn]
    simp -implicitDefEqProofs [e6,cr]
    refine⟨by omega,by omega,i64 (by omega) (by omega),bz hlt ⟨by simp[e2],by simp[kP hf],by simp[aH],by simp[gA],by simp[iQ],by simp⟩⟩
   ·have heq:l[j]=l[k]:=by simpa using he
    have tn:j=k:=hn j k hlt hk heq
    have hf:iR l k j=false:=by simp[iR,tn]
    simp -implicitDefEqProofs [cr]
    refine⟨i64 (by omega) (by omega),bz hlt ⟨by simp[e2],by simp[e6,j0 hf],by simp[aH],by simp[gA],by simp[iQ],by simp⟩⟩
  ·have hs':(l[j].dO==l[k].dO)=false:=by simp[hs]
   have hf:iR l k j=false:=by simp[iR,List.getD_eq_getElem?_getD,hlt,hk,hs']
   simp -implicitDefEqProofs [hs',e2,aH,gA,cr,hlt,hk]
   refine⟨i64 (by omega) (by omega),bz hlt ⟨by simp[e2],by simp[e6,j0 hf],by simp[aH],by simp[gA],by simp[iQ],by simp⟩⟩
 ·obtain rfl:j=l.length:=by omega
  simp -implicitDefEqProofs [e2,e6,aH]
  refine⟨i64 (by omega) (by omega),i64 (by omega) (by omega),?_⟩
  simp -implicitDefEqProofs [r14,hR]
end Go.Proofs.YtmcdlpegncaihaaGreat.F
namespace Go.Proofs.YtmcdlpegncaihaaGreat.F
open Go.Z4
def VE(s:Nat)(x:Lf):Bool:=decide (0≤x.dO∧x.dO<s∧0≤x.col∧x.col<16∧0≤x.row∧x.row<16)
set_option maxRecDepth 100000 in
theorem VF:pN.all (fun x=>(lvM x).all (VE x.2.2))=true:=by decide+kernel
theorem VG{p:bA}{m:Mk}(hp:jt p)(hm:kO p m){x:Lf}(hx:x∈cj p m):0≤x.dO∧x.dO<m.Z7∧0≤x.col∧x.col<16∧0≤x.row∧x.row<16:=by
 have:=of_decide_eq_true (List.all_eq_true.1 (wF VF hp hm) x hx)
 have hs:=wG hp hm
 have e:((tF p m).2.2:Int)=m.Z7:=hs.1.symm
 omega
end Go.Proofs.YtmcdlpegncaihaaGreat.F
namespace Go.Proofs.YtmcdlpegncaihaaGreat.F
open Go.Z4
end Go.Proofs.YtmcdlpegncaihaaGreat.F
namespace Go.Proofs.YtmcdlpegncaihaaGreat.F
open Go.Z4
end Go.Proofs.YtmcdlpegncaihaaGreat.F
namespace Go.Proofs.YtmcdlpegncaihaaGreat.F
open Go.Z4
def entry(q:Lf×Int):List AV:=[.agg [I q.1.dO,I q.1.col,I q.1.row],I q.2]
theorem VH{P:Program}{ms:List au}{K:St→Prop}{s:St}{k v:AV}{n:Option Nat}{b:Nat}{es:List (List AV)}(he:s.env (oS+b)=a_ es)(hk:eL n k)(ha:Z8 k es 0=some none)(h:vcs P ms K (s.set (oS+b) (a_ (es++[[k,v]])))):oc P ms K s k v n (.aZ b):=⟨es,he,hk,by rw[ha];exact h⟩
end Go.Proofs.YtmcdlpegncaihaaGreat.F
namespace Go.Proofs.YtmcdlpegncaihaaGreat.F
open Go.Z4
abbrev VI(n:Int):Prop:=IntKind.min .i64≤n∧n≤IntKind.max .i64
theorem wI{pl:Bool}:Rd Tryz.prog pl 3 I VI:=by
 cases pl
 ·exact(Rd.int Tryz.underlying3).loose
 ·exact Rd.int Tryz.underlying3
theorem Bp{pl:Bool}:Rd Tryz.prog pl 9 S (fun s=>s.size≤140737488355328):=by
 cases pl
 ·exact(Rd.string Tryz.underlying9).loose
 ·exact Rd.string Tryz.underlying9
theorem VJ:Rd Tryz.prog true 65 Fmt.av (fun _=>True):=(Rd.struct (tot:=2) Tryz.underlying65 rfl (by kernel_rfl) (fe.cons rfl (by kernel_rfl) Bp (fe.cons rfl (by kernel_rfl) Bp fe.nil))).map (fun x=>⟨x.1,x.2.1⟩) (fun _=>rfl) (fun _ _=>trivial)
theorem Iw{pl:Bool}:Rd Tryz.prog pl 68 jr.av (fun _=>True):=(Rd.struct (tot:=2) Tryz.underlying68 rfl (by kernel_rfl) (fe.cons rfl (by kernel_rfl) wI (fe.cons rfl (by kernel_rfl) wI fe.nil))).map (fun x=>⟨x.1,x.2.1⟩) (fun _=>rfl) (fun _ _=>trivial)
theorem VK:Rd Tryz.prog true 70 f_.av (fun _=>True):=(Rd.struct (tot:=5) Tryz.underlying70 rfl (by kernel_rfl) (fe.cons rfl (by kernel_rfl) Bp (fe.cons rfl (by kernel_rfl) Iw (fe.cons rfl (by kernel_rfl) Iw fe.nil)))).map (fun x=>⟨x.1,x.2.1,x.2.2.1⟩) (fun _=>rfl) (fun _ _=>trivial)
theorem VL:Rd Tryz.prog false 25 bA.av (fun _=>True):=
 (Rd.struct (tot:=4) Tryz.underlying25 rfl (by kernel_rfl) (fe.cons rfl (by kernel_rfl) (Rd.slice Tryz.underlying22 (of_decide_eq_true (by kernel_rfl)) (by kernel_rfl) VJ)
   (fe.cons rfl (by kernel_rfl) (Rd.slice Tryz.underlying23 (of_decide_eq_true (by kernel_rfl)) (by kernel_rfl) VK)
   (fe.cons rfl (by kernel_rfl) wI (fe.cons rfl (by kernel_rfl) wI fe.nil))))).map (fun x=>⟨x.1,x.2.1,x.2.2.1,x.2.2.2.1⟩) (fun _=>rfl) (fun _ _=>trivial)
end Go.Proofs.YtmcdlpegncaihaaGreat.F
namespace Go.Proofs.YtmcdlpegncaihaaGreat.F
open Go.Z4
structure Ask where
 dO:Int
 leaf:Int
 inner:Bool
 VM:List Int
abbrev Ask.cs(x:Ask):List AV:=[I x.dO,I x.leaf,B x.inner,.slice 1 (x.VM.map I) 0]
abbrev Ask.av(x:Ask):AV:=.agg x.cs
end Go.Proofs.YtmcdlpegncaihaaGreat.F
namespace Go.Proofs.YtmcdlpegncaihaaGreat.F
open Go.Z4
abbrev ML(l:List Mk):AV:=.slice 4 (l.map Mk.av) 0
def ju(p:bA)(m:Mk):Bool:=ew p m==0
def iq(f i:Nat)(s:Int)(h:Nat):List Mk:=(List.range h).map fun(k:Nat)=>(⟨f,i,s,(k:Int)==1⟩:Mk)
def jv(f i s:Nat):List Mk:=(List.range s).flatMap fun(k:Nat)=>iq f i ((k:Int)+1) 2
def jw(S f i:Nat):List Mk:=(List.range i).flatMap fun i=>jv f i S
def lO(P S f:Nat):List Mk:=(List.range f).flatMap fun f=>jw S f P
theorem Iy(f i:Nat)(s:Int)(h:Nat):iq f i s (h+1)=iq f i s h++[⟨f,i,s,(h:Int)==1⟩]:=by unfold iq;rw[List.range_succ];simp
theorem Iz(f i s:Nat):jv f i (s+1)=jv f i s++iq f i ((s:Int)+1) 2:=by unfold jv;rw[List.range_succ,List.flatMap_append];simp
theorem IA(S f i:Nat):jw S f (i+1)=jw S f i++jv f i S:=by unfold jw;rw[List.range_succ,List.flatMap_append];simp
theorem IB(P S f:Nat):lO P S (f+1)=lO P S f++jw S f P:=by unfold lO;rw[List.range_succ,List.flatMap_append];simp
theorem IC(f i:Nat)(s:Int)(h:Nat):(iq f i s h).length=h:=by simp[iq]
theorem Bq(f i:Nat):∀s,(jv f i s).length=2*s
 |0=>rfl
 |s+1=>by rw[Iz,List.length_append,Bq f i s,IC];omega
theorem Br(S f:Nat):∀i,(jw S f i).length=i*(2*S)
 |0=>by simp[jw]
 |i+1=>by rw[IA,List.length_append,Br S f i,Bq];exact(Nat.succ_mul ..).symm
theorem ID(P S:Nat):∀f,(lO P S f).length=f*(P*(2*S))
 |0=>by simp[lO]
 |f+1=>by rw[IB,List.length_append,ID P S f,Br];exact(Nat.succ_mul ..).symm
def gX(p:bA):List Mk:=(lO p.bu.length p.Z7.toNat p.Z6.length).filter (ju p)
theorem VN{p:bA}{l:List Mk}{m:Mk}(h:ju p m=true):(l++[m]).filter (ju p)=l.filter (ju p)++[m]:=by rw[List.filter_append];simp[h]
theorem VO{p:bA}{l:List Mk}{m:Mk}(h:ju p m=false):(l++[m]).filter (ju p)=l.filter (ju p):=by rw[List.filter_append];simp[h]
def aaq(p:bA)(P S f i s h:Nat):List Mk:=(lO P S f++jw S f i++jv f i s++iq f i ((s:Int)+1) h).filter (ju p)
theorem IE{p:bA}{P S f i s h:Nat}(hP:P≤4)(hS:S≤4)(hf:f≤6)(hi:i≤4)(hs:s≤4)(hh:h≤2):(aaq p P S f i s h).length≤1000:=by
 refine Nat.le_trans (List.length_filter_le _ _) ?_
 rw[List.length_append,List.length_append,List.length_append,ID,Br,Bq,IC]
 have h1:P*(2*S)≤4*8:=Nat.mul_le_mul hP (by omega)
 have h2:f*(P*(2*S))≤6*32:=Nat.mul_le_mul hf h1
 have h3:i*(2*S)≤4*8:=Nat.mul_le_mul hi (by omega)
 omega
theorem VP(p:bA)(P S f i s:Nat):aaq p P S f i s 2=aaq p P S f i (s+1) 0:=by unfold aaq;rw[Iz];simp[iq,List.append_assoc]
theorem VQ(p:bA)(P S f i:Nat):aaq p P S f i S 0=aaq p P S f (i+1) 0 0:=by unfold aaq;rw[IA];simp[iq,jv,List.append_assoc]
theorem VR(p:bA)(P S f:Nat):aaq p P S f P 0 0=aaq p P S (f+1) 0 0 0:=by unfold aaq;rw[IB];simp[iq,jv,jw,List.append_assoc]
theorem VS{p:bA}{P S f i s h:Nat}(ho:ju p ⟨f,i,(s:Int)+1,(h:Int)==1⟩=true):aaq p P S f i s (h+1)=aaq p P S f i s h++[⟨f,i,(s:Int)+1,(h:Int)==1⟩]:=by unfold aaq;rw[Iy,←List.append_assoc,VN ho]
theorem VT{p:bA}{P S f i s h:Nat}(ho:ju p ⟨f,i,(s:Int)+1,(h:Int)==1⟩=false):aaq p P S f i s (h+1)=aaq p P S f i s h:=by unfold aaq;rw[Iy,←List.append_assoc,VO ho]
theorem VU(p:bA)(hp:jt p):aG Tryz.prog 41 [p.av] (ML (gX p)):=by
 refine pc t41 (by simp) fun hfit=> ?_
 have hF:=hp.Z6
 have hP:=hp.bu
 obtain⟨S,hS⟩:∃S:Nat,p.Z7=S:=⟨p.Z7.toNat,by have:=hp.Z7;omega⟩
 have Zy:=hp.Z7
 have hres:gX p=aaq p p.bu.length S p.Z6.length 0 0 0:=by unfold gX aaq;rw[hS];simp[jw,jv,iq]
 rw[hres]
 simp -implicitDefEqProofs [Gi]
 refine bP p.Z6.length (fun f s=>s.env 1=iP p∧s.env 3=.slice 4 ((aaq p p.bu.length S f 0 0 0).map Mk.av) 4∧s.env 4=I f) ?_ ?_
 ·simp[aaq,lO,jw,jv,iq]
 rintro f s hf ⟨e1,e3,e4⟩
 simp -implicitDefEqProofs [e1,e4]
 refine bY (fun hlt=> ?_) (fun hge=> ?_)
 case refine_2=>
  obtain rfl:f=p.Z6.length:=by omega
  simp -implicitDefEqProofs [e3,Gj]
 have VV:f<p.Z6.length:=by omega
 simp -implicitDefEqProofs
 refine bP p.bu.length (fun i s=>s.env 1=iP p∧s.env 3=.slice 4 ((aaq p p.bu.length S f i 0 0).map Mk.av) 4∧s.env 4=I f∧s.env 5=I i) ?_ ?_
 ·simp[e1,e3,e4]
 clear e1 e3 e4
 rintro i s hi ⟨e1,e3,e4,e5⟩
 simp -implicitDefEqProofs [e1,e5]
 refine bY (fun hlt=> ?_) (fun hge=> ?_)
 case refine_2=>
  obtain rfl:i=p.bu.length:=by omega
  rw[VR] at e3
  simp -implicitDefEqProofs [e4]
  exact⟨i64 (by omega) (by omega),bz VV ⟨by simp[e1],by simp[e3],by simp⟩⟩
 have cq:i<p.bu.length:=by omega
 simp -implicitDefEqProofs
 refine bP S (fun k s=>s.env 1=iP p∧s.env 3=.slice 4 ((aaq p p.bu.length S f i k 0).map Mk.av) 4∧s.env 4=I f∧s.env 5=I i∧s.env 6=I ((k:Int)+1)) ?_ ?_
 ·simp[e1,e3,e4,e5]
 clear e1 e3 e4 e5
 rintro k s hk ⟨e1,e3,e4,e5,e6⟩
 simp -implicitDefEqProofs [e1,e6,hS]
 refine bY (fun hlt=> ?_) (fun hge=> ?_)
 case refine_2=>
  obtain rfl:k=S:=by omega
  rw[VQ] at e3
  simp -implicitDefEqProofs [e5]
  exact⟨i64 (by omega) (by omega),bz cq ⟨by simp[e1],by simp[e3],by simp[e4],by simp⟩⟩
 have vr:k<S:=by omega
 simp -implicitDefEqProofs
 refine bP 2 (fun h s=>s.env 1=iP p∧s.env 3=.slice 4 ((aaq p p.bu.length S f i k h).map Mk.av) 4∧s.env 4=I f∧s.env 5=I i∧s.env 6=I ((k:Int)+1)∧s.env 7=I h) ?_ ?_
 ·simp[e1,e3,e4,e5,e6]
 clear e1 e3 e4 e5 e6
 rintro h s hh ⟨e1,e3,e4,e5,e6,e7⟩
 simp -implicitDefEqProofs [e7]
 refine bY (fun hlt=> ?_) (fun hge=> ?_)
 case refine_2=>
  obtain rfl:h=2:=by omega
  rw[VP] at e3
  simp -implicitDefEqProofs [e6]
  exact⟨i64 (by omega) (by omega),bz vr ⟨by simp[e1],by simp[e3],by simp[e4],by simp[e5],by simp⟩⟩
 have IF:h<2:=by omega
 have c:=Vv p ⟨f,i,(k:Int)+1,(h:Int)==1⟩
 have hlen:=IE (p:=p) (P:=p.bu.length) (S:=S) (f:=f) (i:=i) (s:=k) (h:=h) (by omega) (by omega) (by omega) (by omega) (by omega) (by omega)
 have ht:=VS (p:=p) (P:=p.bu.length) (S:=S) (f:=f) (i:=i) (s:=k) (h:=h)
 have IG:=VT (p:=p) (P:=p.bu.length) (S:=S) (f:=f) (i:=i) (s:=k) (h:=h)
 unfold ju at ht IG
 generalize ew p ⟨f,i,(k:Int)+1,(h:Int)==1⟩=e at*
 simp -implicitDefEqProofs [e4,e5,e6,e7]
 intro b hb
 simp -implicitDefEqProofs [e1]
 refine aL c ?_
 simp -implicitDefEqProofs
 refine c8 (fun he=> ?_) (fun he=> ?_)
 ·simp -implicitDefEqProofs [e3,e7]
  refine⟨by omega,by omega,i64 (by omega) (by omega),bz IF ⟨by simp[e1],by simp[ht he],by simp[e4],by simp[e5],by simp[e6],by simp⟩⟩
 ·simp -implicitDefEqProofs [e7]
  refine⟨i64 (by omega) (by omega),bz IF ⟨by simp[e1],by simp[e3,IG he],by simp[e4],by simp[e5],by simp[e6],by simp⟩⟩
end Go.Proofs.YtmcdlpegncaihaaGreat.F
namespace Go.Proofs.YtmcdlpegncaihaaGreat.F
open Go.Z4
theorem II(l:List Int)(n:Int):aG Tryz.prog 15 [IL l,I n] (B (decide (n∈l))):=by
 refine pc t15 (by simp) fun hfit=> ?_
 have hl:=aaJ (hfit 0)
 simp only[List.length_map] at hl
 simp -implicitDefEqProofs [FQ]
 refine bP l.length (fun k s=>s.env 0=IL l∧s.env 1=I n∧s.env 5=I k∧∀x∈l.take k,x≠n) ?_ ?_
 ·simp
 ·rintro k s hk ⟨e0,e1,e5,hno⟩
  simp -implicitDefEqProofs [e0,e5]
  refine bY (fun hlt=> ?_) (fun hge=> ?_)
  ·have hlt:k<l.length:=by omega
   simp -implicitDefEqProofs [e0,e1,e5,hlt]
   refine c8 (fun he=> ?_) (fun he=> ?_)
   ·have hx:l[k]=n:=by simpa using he
    have hm:n∈l:=by rw[←hx];exact List.getElem_mem _
    simp -implicitDefEqProofs [AF,hm]
   ·have hx:l[k]≠n:=by simpa using he
    simp -implicitDefEqProofs [e5]
    refine⟨i64 (by omega) (by omega),bz hlt ⟨by simp[e0],by simp[e1],by simp,fun x hx'=> ?_⟩⟩
    rw[dW hlt,List.mem_append,List.mem_singleton] at hx'
    rcases hx' with hx'|rfl
    ·exact hno x hx'
    ·exact hx
  ·obtain rfl:k=l.length:=by omega
   rw[List.take_length] at hno
   have hm:n∉l:=fun h=>hno n h rfl
   simp -implicitDefEqProofs [AF,hm]
theorem VW{p:bA}{m:Mk}(h:m∈gX p):ew p m=0:=by
 have:=(List.mem_filter.1 h).2
 simpa[ju] using this
theorem VX{P S F f i s h:Nat}(hf:f<F)(hi:i<P)(hs:s<S)(hh:h<2):(⟨f,i,(s:Int)+1,(h:Int)==1⟩:Mk)∈lO P S F:=by
 unfold lO jw jv iq
 simp only[List.mem_flatMap,List.mem_map,List.mem_range]
 exact⟨f,hf,i,hi,s,hs,h,hh,rfl⟩
theorem IJ{p:bA}(h:gU p=0):1≤(gX p).length:=by
 have hp:=abP h
 have h1:=hp.Z6
 have h2:=hp.bu
 have h3:=hp.Z7
 have hm:(⟨0,0,1,false⟩:Mk)∈gX p:=by
  refine List.mem_filter.2 ⟨VX (f:=0) (i:=0) (s:=0) (h:=0) (by omega) (by omega) (by omega) (by omega),?_⟩
  unfold ju ew lJ
  rw[if_neg (by simp[h]),if_neg,if_neg (by simp;omega),if_neg (by simp)]
  ·rfl
  ·simp;omega
 exact List.length_pos_of_mem hm
theorem VY{p:bA}(hp:jt p):(gX p).length≤1000:=by
 have h1:=hp.Z6
 have h2:=hp.bu
 have h3:=hp.Z7
 have:=IE (p:=p) (P:=p.bu.length) (S:=p.Z7.toNat) (f:=p.Z6.length) (i:=0) (s:=0) (h:=0) (by omega) (by omega) (by omega) (by omega) (by omega) (by omega)
 have e:gX p=aaq p p.bu.length p.Z7.toNat p.Z6.length 0 0 0:=by unfold gX aaq;simp[jw,jv,iq]
 rwa [e]
def VZ:Mk:=⟨0,0,0,false⟩
def tJ(p:bA)(n:Nat):Mk:=(gX p).getD (n%(gX p).length) VZ
theorem V0{p:bA}(h:gU p=0)(n:Nat):ew p (tJ p n)=0:=by
 have hl:=IJ h
 have hlt:n%(gX p).length<(gX p).length:=Nat.mod_lt _ (by omega)
 refine VW ?_
 unfold tJ
 rw[List.getD_eq_getElem?_getD,List.getElem?_eq_getElem hlt]
 exact List.getElem_mem _
theorem IK(a b:Nat):((a:Int).tmod (b:Int))=((a%b:Nat):Int):=by rw[Int.tmod_eq_emod_of_nonneg (by omega)];rfl
theorem V1{p:bA}(h:gU p=0)(n:Nat):aG Tryz.prog 7 [p.av,I n] (tJ p n).av:=by
 refine pc t7 (by simp) fun hfit=> ?_
 have hl:=IJ h
 have gu:=VY (abP h)
 have c:=VU p (abP h)
 have hlt:n%(gX p).length<(gX p).length:=Nat.mod_lt _ (by omega)
 unfold tJ
 generalize gX p=l at*
 have ht:=IK n l.length
 generalize hk:n%l.length=k at*
 simp -implicitDefEqProofs [m7]
 intro b
 refine aL c ?_
 have hne:¬l=[]:=fun h=>by subst h;simp at hl
 simp -implicitDefEqProofs [ht,hlt,hne,r7]
abbrev U(n:Int):AV:=.lit (.int .u16 n)
theorem wrap_i64{a:Int}(h:0≤a∧a≤65535):IntKind.wrap .i64 a=a:=by
 obtain⟨k,rfl⟩:∃k:Nat,a=k:=⟨a.toNat,by omega⟩
 simp[IntKind.wrap,IntKind.bits,IntKind.signed]
 omega
end Go.Proofs.YtmcdlpegncaihaaGreat.F
namespace Go.Proofs.YtmcdlpegncaihaaGreat.F
open Go.Z4
theorem V2{pl:Bool}:Rd Tryz.prog pl 26 U (fun n=>0≤n∧n≤65535):=by
 have h:Rd Tryz.prog true 26 U (fun n=>0≤n∧n≤65535):=(Rd.int Tryz.underlying26).map id (fun _=>rfl) (fun _ h=>h)
 cases pl
 ·exact h.loose
 ·exact h
theorem V3:Rd Tryz.prog false 27 (fun xs:List Int=>.agg (xs.flatMap fun y=>(U y).cells)) (fun xs=>xs.length=2∧∀x∈xs,0≤x∧x≤65535):=Rd.array (sz:=1) Tryz.underlying27 (by kernel_rfl) (by kernel_rfl) V2
theorem ay{P:Program}{kn:St→Prop}{ke:Nat→St→Prop}{kr:St→Prop}{s:St}{x y:aA}(J:St→Prop)(hx:∀k:St→Prop,(∀s',J s'→k s')→br P x k ke kr s)(h:∀s',J s'→br P y kn ke kr s'):br P (.seq x y) kn ke kr s:=hx _ h
end Go.Proofs.YtmcdlpegncaihaaGreat.F
