/- Sets as bits, and the order of lists of pieces. What is seen and is not true of a way of making: marks and sizes. Marks that are not true, of the program and of the reference. The pieces that are wrong of a way of making: the program's walk. The pieces that are wrong of a way of making: the reference's walk. All ways of making, handed over one by one: the program's iterator. Agree and Wrong, of the program and of the reference. Wrong, of the program and of the reference. Together, of the program and of the reference. What holds of all ways of making when there is one more mark. What holds of a press and a gathering that are wider. What the laws on leaves need: arguments, and what holds of the mates in all cases. What is seen of a gathering that was made so: what Told's own functions return. What is seen of a gathering that was made so agrees with this way, but for the marks that are told wrong. What the laws' own small functions return. What is seen of a gathering that was made so: what Told returns. What is seen of a gathering agrees with the way in which it was made: the law FoldTrue. What is seen of a gathering agrees with the way in which it was made: the law FoldTrue. Plain: from each number on there is a way of making of a paper; what is seen of it agrees with it. -/
import Derived.Test.YtnncgmimhdplfaaGreatZK
import Derived.Test.YtnncgmimhdplfaaGreatZL
import Derived.Test.YtnncgmimhdplfaaGreatZE
namespace Go.Proofs.YtnncgmimhdplfaaGreat.F
open Go.aq
theorem vK{a:Nat}(h:a<1099511627776):IntKind.wrap .i64 (a:Int)=a:=by
 simp[IntKind.wrap,IntKind.bits,IntKind.signed]
 omega
theorem qx{a:Nat}(h:a<1099511627776):IntKind.wrap .u64 (a:Int)=a:=by
 simp[IntKind.wrap,IntKind.bits,IntKind.signed]
 omega
theorem qy(a:Nat):BitVec.ofInt 64 (a:Int)=BitVec.ofNat 64 a:=by simp
theorem ahb{a b:Nat}(ha:a<1099511627776)(hb:b<1099511627776):cP .or .i64 (a:Int) (b:Int)=((a ||| b:Nat):Int):=by
 have e:((BitVec.ofInt (IntKind.bits .i64) (a:Int)) ||| (BitVec.ofInt (IntKind.bits .i64) (b:Int))).toNat=a ||| b:=by
  show(BitVec.ofInt 64 (a:Int) ||| BitVec.ofInt 64 (b:Int)).toNat=_
  rw[qy,qy,BitVec.toNat_or,BitVec.toNat_ofNat,BitVec.toNat_ofNat,Nat.mod_eq_of_lt (by omega),Nat.mod_eq_of_lt (by omega)]
 unfold cP
 show IntKind.wrap .i64 _=_
 rw[e]
 exact vK (Nat.or_lt_two_pow (n:=40) ha hb)
theorem ahc{a:Nat}(ha:a<1099511627776):cP .and .i64 (a:Int) 1=((a%2:Nat):Int):=by
 have e:((BitVec.ofInt (IntKind.bits .i64) (a:Int)) &&& (BitVec.ofInt (IntKind.bits .i64) 1)).toNat=a%2:=by
  show(BitVec.ofInt 64 (a:Int) &&& BitVec.ofInt 64 ((1:Nat):Int)).toNat=_
  rw[qy,qy,BitVec.toNat_and,BitVec.toNat_ofNat,BitVec.toNat_ofNat,Nat.mod_eq_of_lt (by omega),Nat.mod_eq_of_lt (by omega)]
  exact Nat.and_one_is_mod a
 unfold cP
 show IntKind.wrap .i64 _=_
 rw[e]
 exact vK (by omega)
theorem ahd{n i:Nat}(hn:n<2048):(cP .and .i64 (Int.fdiv (n:Int) (2^(min i 64))) 1==1)=n.testBit i∨64<i:=by
 by_cases hi:64<i
 ·exact .inr hi
 left
 rw[Nat.min_eq_left (by omega)]
 have e:Int.fdiv (n:Int) (2^i)=((n / 2^i:Nat):Int):=by
  rw[Int.fdiv_eq_ediv_of_nonneg _ (by exact Int.pow_nonneg (by omega))]
  simp
 rw[e,ahc (Nat.lt_of_le_of_lt (Nat.div_le_self _ _) (by omega)),Nat.testBit_eq_decide_div_mod_eq]
 rcases Nat.mod_two_eq_zero_or_one (n / 2^i) with h|h<;>rw[h]<;>rfl
theorem En{n:Nat}(h:n<2048):eF n≤11∧n<2^eF n:=by
 unfold eF
 cases hf:(List.range 12).find? fun i=>n<2^i with
 |none=>
  rw[List.find?_eq_none] at hf
  have:=hf 11 (by simp)
  simp at this;omega
 |some i=>
  have h1:=List.find?_some hf
  have h2:=List.mem_of_find?_eq_some hf
  simp at h1 h2
  simp
  omega
theorem vL{n L:Nat}(h:n<2^L):∀d,bu (fun i=>n.testBit i) (L+d)=bu (fun i=>n.testBit i) L
 |0=>rfl
 |d+1=>by
  have hf:(fun i=>n.testBit i) (L+d)=false:=Nat.testBit_lt_two_pow (Nat.lt_of_lt_of_le h (Nat.pow_le_pow_right (by omega) (by omega)))
  rw[show L+(d+1)=(L+d)+1 from rfl,oQ hf,vL h d]
theorem M4(oR:∀n:Nat,n<2048→aed Tryz.prog 107 [.lit (.int .u64 n)] (I (eF n:Nat))){n:Nat}(hn:n<2048):aed Tryz.prog 71 [I n] (IL (bJ n)):=by
 refine pc t71 (by simp) fun hfit=> ?_
 have c:=oR n hn
 have hl:=En hn
 have hw:=qx (a:=n) (by omega)
 have hres:bJ n=bu (fun i=>n.testBit i) (eF n):=by
  unfold bJ
  have:=vL hl.2 (11 - eF n)
  rwa [show eF n+(11 - eF n)=11 by omega] at this
 rw[hres]
 generalize eF n=L at*
 simp -implicitDefEqProofs [De,hw]
 refine aj c ?_
 simp -implicitDefEqProofs
 refine aef L (fun k s=>s.env 0=I n∧s.env 2=.slice 1 ((bu (fun i=>n.testBit i) k).map I) 3∧s.env 6=I L∧s.env 7=I k) ?_ ?_
 ·simp[Ee]
 rintro k s hk ⟨e0,e2,e6,e7⟩
 simp -implicitDefEqProofs [e6,e7]
 refine bA (fun hlt=> ?_) (fun hge=> ?_)
 ·have hlt:k<L:=by omega
  have M5:=nH (fun i=>n.testBit i) k
  have hb:(cP .and .i64 (Int.fdiv (n:Int) (2^(min k 64))) 1==1)=n.testBit k:=by
   rcases ahd (i:=k) hn with h|h
   ·exact h
   ·omega
  simp -implicitDefEqProofs [e0,e7]
  have hb':(cP .and .i64 (Int.fdiv (n:Int) (2^(min k (IntKind.bits .i64)))) 1==1)=n.testBit k:=hb
  rw[hb']
  refine bR (fun he=> ?_) (fun he=> ?_)
  ·simp -implicitDefEqProofs [e2,e7]
   refine⟨by omega,by omega,i64 (by omega) (by omega),aQ hlt ⟨by simp[e0],by simp[Ef (q:=fun i=>n.testBit i) he],by simp[e6],by simp⟩⟩
  ·simp -implicitDefEqProofs [e7]
   refine⟨i64 (by omega) (by omega),aQ hlt ⟨by simp[e0],by simp[e2,oQ (q:=fun i=>n.testBit i) he],by simp[e6],by simp⟩⟩
 ·obtain rfl:k=L:=by omega
  simp -implicitDefEqProofs [e2,Df]
def ae1:List Int→List Int→Bool
 |x::xs,y::ys=>if x=y then ae1 xs ys else decide (x<y)
 |_,_=>false
def iO:List Int→List Int→Int
 |x::xs,y::ys=>if x<y then -1 else if y<x then 1 else iO xs ys
 |_,_=>0
def dz(a b:List Int):Bool:=if a.length≠b.length then decide (a.length<b.length) else ae1 a b
theorem vM:∀(a b:List Int),decide (iO a b<0)=ae1 a b
 |[],[]=>rfl
 |[],_::_=>rfl
 |_::_,[]=>rfl
 |x::xs,y::ys=>by
  unfold iO ae1
  by_cases h1:x<y
  ·have h2:¬x=y:=by omega
   simp[h1,h2]
  ·by_cases h3:y<x
   ·have h2:¬x=y:=by omega
    simp[h1,h2,h3]
   ·have h2:x=y:=by omega
    simp[h1,h2,h3,vM xs ys]
theorem vN(x:Int):aed Tryz.prog 136 [I x] (B false):=by
 refine pc t136 (by simp) fun hfit=> ?_
 simp -implicitDefEqProofs [yI,yJ]
theorem aaa(x y:Int):aed Tryz.prog 131 [I x,I y] (I (if x<y then -1 else if y<x then 1 else 0)):=by
 refine pc t131 (by simp) fun hfit=> ?_
 simp -implicitDefEqProofs [yH]
 refine aj (vN x) ?_
 simp -implicitDefEqProofs
 refine aj (vN y) ?_
 by_cases h1:x<y
 ·simp -implicitDefEqProofs [h1,agw]
 ·by_cases h2:y<x<;>simp -implicitDefEqProofs [h1,h2,agw]
theorem Eo(a b:List Int)(h:a.length=b.length):aed Tryz.prog 106 [IL a,IL b] (I (iO a b)):=by
 refine pc t106 (by simp) fun hfit=> ?_
 have hl:=cY (hfit 0)
 simp only[List.length_map] at hl
 obtain⟨R,hR⟩:∃R,R=iO a b:=⟨_,rfl⟩
 rw[←hR]
 simp -implicitDefEqProofs [yz]
 refine aef a.length (fun k s=>s.env 0=IL a∧s.env 1=IL b∧s.env 9=IL a∧s.env 10=I a.length∧s.env 11=I k∧R=iO (a.drop k) (b.drop k)) ?_ ?_
 ·simp[hR]
 rintro k s hk ⟨e0,e1,e9,bC,bf,hc⟩
 simp -implicitDefEqProofs [bC,bf]
 refine bA (fun hlt=> ?_) (fun hge=> ?_)
 ·have hlt:k<a.length:=by omega
  have br:k<b.length:=by omega
  have hge:¬(b.length:Int)≤(k:Int):=by omega
  rw[drop_cons hlt,drop_cons br] at hc
  unfold iO at hc
  have c:=aaa a[k] b[k]
  simp -implicitDefEqProofs [e1,e9,bf,hlt,br,hge]
  refine aj c ?_
  by_cases h1:a[k]<b[k]
  ·rw[if_pos h1] at hc
   simp -implicitDefEqProofs [h1,oJ,hc]
  ·rw[if_neg h1] at hc
   by_cases h2:b[k]<a[k]
   ·rw[if_pos h2] at hc
    simp -implicitDefEqProofs [h1,h2,oJ,hc]
   ·rw[if_neg h2] at hc
    simp -implicitDefEqProofs [h1,h2,bf]
    exact⟨i64 (by omega) (by omega),aQ hlt ⟨by simp[e0],by simp[e1],by simp[e9],by simp[bC],by simp,hc⟩⟩
 ·obtain rfl:k=a.length:=by omega
  rw[List.drop_length,h,List.drop_length] at hc
  have hc:R=0:=hc
  simp -implicitDefEqProofs [e0,e1,h,oJ,hc]
theorem aab(oR:∀n:Nat,n<2048→aed Tryz.prog 107 [.lit (.int .u64 n)] (I (eF n:Nat)))(sC:∀n:Nat,n<2048→aed Tryz.prog 105 [.lit (.int .u64 n)] (I (bJ n).length)){a b:Nat}(ha:a<2048)(hb:b<2048):aed Tryz.prog 70 [I a,I b] (B (dz (bJ a) (bJ b))):=by
 refine pc t70 (by simp) fun hfit=> ?_
 have c1:=M4 oR ha
 have c2:=M4 oR hb
 have c3:=sC a ha
 have c4:=sC b hb
 have vO:=qx (a:=a) (by omega)
 have vP:=qx (a:=b) (by omega)
 have l1:(bJ a).length≤11:=nH _ _
 have l2:(bJ b).length≤11:=nH _ _
 generalize bJ a=x at*
 generalize bJ b=y at*
 obtain⟨R,hR⟩:∃R,R=dz x y:=⟨_,rfl⟩
 rw[←hR]
 unfold dz at hR
 simp -implicitDefEqProofs [Dd,vO]
 refine aj c3 ?_
 simp -implicitDefEqProofs [vP]
 refine aj c4 ?_
 simp -implicitDefEqProofs
 refine⟨i64 (by omega) (by omega),?_⟩
 by_cases h:x.length=y.length
 case neg=>
  have h':((x.length:Int) - (y.length:Int) != 0)=true:=by simp;omega
  rw[if_pos h] at hR
  simp -implicitDefEqProofs [h',yu,hR]
  omega
 have h':((x.length:Int) - (y.length:Int) != 0)=false:=by simp;omega
 rw[if_neg (not_not_intro h)] at hR
 simp -implicitDefEqProofs [h']
 refine aj c1 ?_
 simp -implicitDefEqProofs
 refine aj c2 ?_
 simp -implicitDefEqProofs
 refine aj (Eo x y h) ?_
 rw[←vM] at hR
 simp -implicitDefEqProofs [yu,hR]
end Go.Proofs.YtnncgmimhdplfaaGreat.F
namespace Go.Proofs.YtnncgmimhdplfaaGreat.F
open Go.aq
def setOf(q:Nat→Bool):Nat→Nat
 |0=>0
 |n+1=>setOf q n ||| (if q n then 2^n else 0)
theorem af7(q:Nat→Bool):∀n j,(setOf q n).testBit j=(decide (j<n)&&q j)
 |0,j=>by simp[setOf]
 |n+1,j=>by
  unfold setOf
  rw[Nat.testBit_or,af7 q n j]
  cases hq:q n with
  |true=>
   rw[if_pos rfl,Nat.testBit_two_pow]
   by_cases h1:j<n
   ·have h2:¬n=j:=by omega
    have h3:j<n+1:=by omega
    simp[h1,h2,h3]
   ·by_cases h2:n=j
    ·subst h2;simp[hq]
    ·have h3:¬j<n+1:=by omega
     simp[h1,h2,h3]
  |false=>
   simp only[Bool.false_eq_true,if_false,Nat.zero_testBit,Bool.or_false]
   by_cases h1:j<n
   ·have h3:j<n+1:=by omega
    simp[h1,h3]
   ·by_cases h2:j=n
    ·subst h2;simp[hq]
    ·have h3:¬j<n+1:=by omega
     simp[h1,h3]
theorem vQ(q:Nat→Bool):∀n,setOf q n<2^n
 |0=>by simp[setOf]
 |n+1=>by
  unfold setOf
  refine Nat.or_lt_two_pow (Nat.lt_of_lt_of_le (vQ q n) (Nat.pow_le_pow_right (by omega) (by omega))) ?_
  split
  ·exact Nat.pow_lt_pow_right (by omega) (by omega)
  ·exact Nat.pow_pos (by omega)
theorem ahe{q r:Nat→Bool}{n:Nat}(h:∀j<n,q j=r j):bu q n=bu r n:=by
 unfold bu
 congr 1
 exact List.filter_congr fun j hj=>h j (by simpa using hj)
theorem M6(q:Nat→Bool):bJ (setOf q 11)=bu q 11:=ahe fun j hj=>by rw[af7];simp[hj]
theorem Ep{q r:Nat→Bool}{n m:Nat}(h:∀j,(decide (j<n)&&q j)=(decide (j<m)&&r j)):setOf q n=setOf r m:=Nat.eq_of_testBit_eq fun j=>by rw[af7,af7];exact h j
theorem aac(q r:Nat→Bool)(n:Nat):setOf q n ||| setOf r n=setOf (fun j=>q j||r j) n:=Nat.eq_of_testBit_eq fun j=>by rw[Nat.testBit_or,af7,af7,af7];cases decide (j<n)<;>rfl
structure sD (b:cN):Prop where
 leaves:1≤b.leaves∧b.leaves≤64
 chain:0≤b.chain∧b.chain≤2
 aad:ae3 0 2000 b.wide b.high=0
 marks:b.marks.length≤8
 at_:∀i (h:i<b.marks.length),0≤b.marks[i].leaf∧b.marks[i].leaf≤b.leaves - 1
theorem Er{lo hi:Int}{a b:Spn}(h:ae3 lo hi a b=0):(lo≤a.lo∧a.hi≤hi∧a.lo≤a.hi)∧lo≤b.lo∧b.hi≤hi∧b.lo≤b.hi:=by
 unfold ae3 at h
 split at h
 ·cases h
 rename_i h1
 split at h
 ·cases h
 rename_i h2
 simp[out] at h1
 omega
theorem aae{p:aL}{b:cN}(h:(oN p b).2.2=0):bh p=0∧sD b:=by
 unfold oN at h
 split at h
 ·rename_i h0;exact(h0 h).elim
 rename_i h0
 split at h
 ·cases h
 rename_i h1
 split at h
 ·cases h
 rename_i h2
 split at h
 ·rename_i h3;exact(h3 h).elim
 rename_i h3
 split at h
 ·cases h
 rename_i h4
 split at h
 ·rename_i h5;exact(h5 h).elim
 rename_i h5
 refine⟨Decidable.of_not_not h0,Decidable.of_not_not h1,Decidable.of_not_not h2,Decidable.of_not_not h3,by omega,fun i hi=> ?_⟩
 have:=D2 (Decidable.of_not_not h5) i hi
 unfold mE at this
 rw[dif_pos hi] at this
 unfold vo at this
 split at this
 ·rename_i h6;exact h6
 ·cases this
def qz(lo hi less:Int)(s:Spn):Bool:=decide (lo - less≤s.hi)&&decide (s.lo≤hi)
theorem M7(lo hi less:Int)(s:Spn)(h:0≤lo∧lo≤100000∧0≤less∧less≤100000):aed Tryz.prog 92 [I lo,I hi,I less,s.av] (B (qz lo hi less s)):=by
 refine pc t92 (by simp) fun hfit=> ?_
 unfold qz
 simp -implicitDefEqProofs [Ds]
 refine⟨i64 (by omega) (by omega),?_⟩
 by_cases h1:lo - less≤s.hi<;>simp -implicitDefEqProofs [h1,Dt]
def dM(w:List Nat)(wide high:Int):Int×Int:=if w.getLastD 0=120 then (wide.tdiv (cS w 120:Int),high.tdiv (cS w 121:Int)) else (high.tdiv (cS w 121:Int),wide.tdiv (cS w 120:Int))
theorem sE{a:Int}{n:Nat}(ha:0≤a∧a≤100000)(hn:1≤n):0≤a.tdiv n∧a.tdiv n≤100000:=by
 rw[Int.tdiv_eq_ediv_of_nonneg ha.1]
 exact⟨Int.ediv_nonneg ha.1 (by omega),Int.le_trans (Int.ediv_le_self _ ha.1) ha.2⟩
theorem M8{f:ByteArray}(h:1≤f.size):bt f (f.size - 1)=(codes f).getLastD 0:=by rw[D1,List.getLastD_eq_getLast?,List.getLast?_eq_getElem?,List.getD_eq_getElem?_getD,yV]
theorem aaf{p:aL}{m:Mk}(hp:eM p)(hm:eu p m)(wide high:Int)(hw:0≤wide∧wide≤100000)(hh:0≤high∧high≤100000):aed Tryz.prog 53 [p.av,m.av,I wide,I high] (.tuple [I (dM (codes (aY p m)) wide high).1,I (dM (codes (aY p m)) wide high).2]):=by
 refine pc t53 (by simp) fun hfit=> ?_
 have c1:=MN hp hm
 have c2:=MO hp hm
 have ht:=sA _ (afq hp hm)
 have hs:=Ed hp hm
 have hla:=M8 hs.1
 obtain⟨R,hR⟩:∃R,R=dM (codes (aY p m)) wide high:=⟨_,rfl⟩
 rw[←hR]
 unfold dM at hR
 generalize cS (codes (aY p m)) 120=a at*
 generalize cS (codes (aY p m)) 121=b at*
 generalize (codes (aY p m)).getLastD 0=la at*
 obtain⟨g,hg⟩:∃g:Nat,m.format=g:=⟨m.format.toNat,by have:=hm.fmt;omega⟩
 have hgl:g<p.aX.length:=by have:=hm.fmt;omega
 rw[qq hg hgl] at c1 c2 hs hla
 have hq:((p.aX[g].aer.size:Int) - 1).toNat=p.aX[g].aer.size - 1:=by omega
 have hlt:p.aX[g].aer.size - 1<p.aX[g].aer.data.size:=by show _<p.aX[g].aer.size;omega
 have d1:=sE hw (n:=a) (by omega)
 have d2:=sE hh (n:=b) (by omega)
 have ha0:¬a=0:=by omega
 have hb0:¬b=0:=by omega
 have hlb:(p.aX[g].aer.data.toList.getD (p.aX[g].aer.size - 1) 0).toNat=la:=hla
 rw[List.getD_eq_getElem?_getD] at hlb
 simp at hlb
 simp -implicitDefEqProofs [Ki,hg,hgl]
 refine aj c1 ?_
 simp -implicitDefEqProofs [ha0]
 refine⟨i64 (by omega) (by omega),?_⟩
 refine aj c2 ?_
 simp -implicitDefEqProofs [hb0,hq]
 refine⟨i64 (by omega) (by omega),i64 (by omega) (by omega),by omega,by omega,?_⟩
 rw[hlb]
 by_cases h:la=120
 ·have h':((la:Int)==120)=true:=by simp[h]
  rw[if_pos h] at hR
  simp -implicitDefEqProofs [h',C2,hR]
 ·have h':((la:Int)==120)=false:=by simp;omega
  rw[if_neg h] at hR
  simp -implicitDefEqProofs [h',C2,hR]
end Go.Proofs.YtnncgmimhdplfaaGreat.F
namespace Go.Proofs.YtnncgmimhdplfaaGreat.F
open Go.aq
def ct(w:List Nat)(l:List Lf)(ms:List Mrk)(s h:Int)(j:Nat):Bool:=decide (3≤j)&&match ms[j - 3]? with
 |some q=>((l.getD q.leaf.toNat mu).aeS==s)&&(kz w (l.getD q.leaf.toNat mu) h != q.seen)
 |none=>false
theorem aag(w:List Nat)(l:List Lf)(ms:List Mrk)(s h:Int){j:Nat}(hj:j<3):ct w l ms s h j=false:=by unfold ct;simp;omega
theorem aah(w:List Nat)(l:List Lf)(ms:List Mrk)(s h:Int){j:Nat}(hj:3+ms.length≤j):ct w l ms s h j=false:=by
 unfold ct
 rw[List.getElem?_eq_none (by omega)];simp
theorem aai(w:List Nat)(l:List Lf)(ms:List Mrk)(s h:Int){k t:Nat}(hk:k<ms.length)(ht:ms[k].leaf=t)(hl:t<l.length):ct w l ms s h (3+k)=((l[t].aeS==s)&&(kz w l[t] h != ms[k].seen)):=by
 unfold ct
 have e:3+k - 3=k:=by omega
 rw[e,List.getElem?_eq_getElem hk]
 simp[ht,List.getD_eq_getElem?_getD,hl]
theorem y8{q:Nat→Bool}:∀{n:Nat},(∀j<n,q j=false)→bu q n=[]
 |0,_=>rfl
 |n+1,h=>by rw[oQ (h n (by omega)),y8 fun j hj=>h j (by omega)]
theorem M9{q:Nat→Bool}{n:Nat}(h:∀j<n,q j=false):setOf q n=0:=by
 have:setOf q n=setOf (fun _=>false) 0:=Ep fun j=>by by_cases hj:j<n<;>simp[hj,h]
 rw[this];rfl
theorem Es{q:Nat→Bool}{n:Nat}(h:∀j,n≤j→q j=false):∀d,bu q (n+d)=bu q n
 |0=>rfl
 |d+1=>by rw[show n+(d+1)=(n+d)+1 from rfl,oQ (h _ (by omega)),Es h d]
theorem aaj{q:Nat→Bool}{n:Nat}(h:∀j,n≤j→q j=false){m:Nat}(hm:n≤m):setOf q m=setOf q n:=
 Ep fun j=>by
  by_cases hj:j<n
  ·have:j<m:=by omega
   simp[hj,this]
  ·simp[hj,h j (by omega)]
def M_(l:List Lf):Prop:=∀x∈l,0≤x.col∧x.col<16∧0≤x.row∧x.row<16
theorem aak{k:Nat}(hk:k≤8):IntKind.wrap .i64 (8*2^(min k (IntKind.bits .i64)))=((2^(3+k):Nat):Int):=by
 have e:min k (IntKind.bits .i64)=k:=Nat.min_eq_left (by show k≤64;omega)
 rw[e]
 have e2:(8*2^k:Int)=((2^(3+k):Nat):Int):=by rw[Nat.pow_add];simp
 rw[e2]
 exact vK (Nat.lt_of_le_of_lt (Nat.pow_le_pow_right (by omega) (show 3+k≤11 by omega)) (by decide))
theorem aal{p:aL}{m:Mk}(hp:eM p)(hm:eu p m)(b:cN)(hb:sD b)(l:List Lf)(hl:(l.length:Int)=b.leaves)(hok:M_ l)(s h:Int)(hh:0≤h∧h≤1):aed Tryz.prog 93 [I h,lG b,.ref [LL l],.ref [I s],aem p,.ref m.cs] (I (setOf (ct (codes (aY p m)) l b.marks s h) 11:Nat)):=by
 refine pc t93 (by simp) fun hfit=> ?_
 have hn:=hb.marks
 have hres:setOf (ct (codes (aY p m)) l b.marks s h) 11=setOf (ct (codes (aY p m)) l b.marks s h) (3+b.marks.length):=aaj (fun j hj=>aah _ _ _ _ _ hj) (by omega)
 rw[hres]
 have c:∀x:Lf,(0≤x.col∧x.col<16∧0≤x.row∧x.row<16)→aed Tryz.prog 69 [p.av,m.av,x.av,I h] (B (kz (codes (aY p m)) x h)):=fun x hx=>ZI hp hm x hx h hh
 generalize codes (aY p m)=w at*
 clear hres
 simp -implicitDefEqProofs [Du]
 refine aef b.marks.length (fun k st=>st.env 0=I h∧st.env 2=.ref [LL l]∧st.env 3=.ref [I s]∧st.env 4=aem p∧st.env 5=.ref m.cs∧st.env 7=I (setOf (ct w l b.marks s h) (3+k):Nat)∧st.env 11=.slice 2 (b.marks.map Mrk.av) 0∧st.env 12=I b.marks.length∧st.env 13=I k) ?_ ?_
 ·simp
  rw[M9 fun j hj=>aag _ _ _ _ _ hj];rfl
 rintro k st hk ⟨e0,e2,e3,e4,e5,e7,bf,bF,aP⟩
 simp -implicitDefEqProofs [bF,aP]
 refine bA (fun hlt=> ?_) (fun hge=> ?_)
 ·have hlt:k<b.marks.length:=by omega
  have gd:=hb.at_ k hlt
  obtain⟨t,ht⟩:∃t:Nat,b.marks[k].leaf=t:=⟨b.marks[k].leaf.toNat,by omega⟩
  have vR:t<l.length:=by omega
  have hu:=aai w l b.marks s h hlt ht vR
  have c:=c l[t] (hok _ (List.getElem_mem vR))
  have hst:setOf (ct w l b.marks s h) (3+(k+1))=setOf (ct w l b.marks s h) (3+k) ||| (if ct w l b.marks s h (3+k) then 2^(3+k) else 0):=rfl
  have aam:setOf (ct w l b.marks s h) (3+k)<1099511627776:=Nat.lt_of_lt_of_le (vQ _ _) (Nat.le_trans (Nat.pow_le_pow_right (by omega) (show 3+k≤11 by omega)) (by decide))
  have aan:2^(3+k)<1099511627776:=Nat.lt_of_le_of_lt (Nat.pow_le_pow_right (by omega) (show 3+k≤11 by omega)) (by decide)
  have eY:=ahb aam aan
  have hsh:=aak (k:=k) (by omega)
  obtain⟨P,hP⟩:∃P:Nat,P=2^(3+k):=⟨_,rfl⟩
  rw[←hP] at hst eY hsh
  obtain⟨n,hnn⟩:∃n:Nat,n=setOf (ct w l b.marks s h) (3+k):=⟨_,rfl⟩
  rw[←hnn] at hst eY e7
  simp -implicitDefEqProofs [e2,e3,bf,aP,hlt,ht,vR]
  intro b2 hb2
  by_cases hs:l[t].aeS=s
  ·have hs':(l[t].aeS==s)=true:=by simp[hs]
   rw[hs',Bool.true_and] at hu
   simp -implicitDefEqProofs [e0,e2,e4,e5,hs',vR]
   refine aj c ?_
   simp -implicitDefEqProofs
   refine bR (fun he=> ?_) (fun he=> ?_)
   ·have he':ct w l b.marks s h (3+k)=true:=by rw[hu];exact he
    rw[he',if_pos rfl] at hst
    simp -implicitDefEqProofs [e7,aP,hsh,eY]
    exact⟨i64 (by omega) (by omega),aQ hlt ⟨by simp[e0],by simp[e2],by simp[e3],by simp[e4],by simp[e5],by simp[hst],by simp[bf],by simp[bF],by simp⟩⟩
   ·have he':ct w l b.marks s h (3+k)=false:=by rw[hu];exact he
    rw[he',if_neg (by simp),Nat.or_zero] at hst
    simp -implicitDefEqProofs [aP]
    exact⟨i64 (by omega) (by omega),aQ hlt ⟨by simp[e0],by simp[e2],by simp[e3],by simp[e4],by simp[e5],by simp[e7,hst],by simp[bf],by simp[bF],by simp⟩⟩
  ·have hs':(l[t].aeS==s)=false:=by simp[hs]
   rw[hs',Bool.false_and] at hu
   rw[hu,if_neg (by simp),Nat.or_zero] at hst
   simp -implicitDefEqProofs [hs',aP]
   exact⟨i64 (by omega) (by omega),aQ hlt ⟨by simp[e0],by simp[e2],by simp[e3],by simp[e4],by simp[e5],by simp[e7,hst],by simp[bf],by simp[bF],by simp⟩⟩
 ·obtain rfl:k=b.marks.length:=by omega
  simp -implicitDefEqProofs [e7,Dv]
end Go.Proofs.YtnncgmimhdplfaaGreat.F
namespace Go.Proofs.YtnncgmimhdplfaaGreat.F
open Go.aq
theorem aao{P:Program}{kn:St→Prop}{ke:Nat→St→Prop}{kr:St→Prop}{s:St}{x y:ay}{b:Bool}(J:St→Prop)(h:∀s',J s'→kn s')(hx:∀k:St→Prop,(∀s',J s'→k s')→b=true→bz P x k ke kr s)(hy:∀k:St→Prop,(∀s',J s'→k s')→b=false→bz P y k ke kr s):lz P kn ke kr s x y (.lit (.bool b)):=⟨hx kn h,hy kn h⟩
theorem Et{P:Program}{kn:St→Prop}{ke:Nat→St→Prop}{kr:St→Prop}{s:St}{x y:ay}(J:St→Prop)(hx:∀k:St→Prop,(∀s',J s'→k s')→bz P x k ke kr s)(h:∀s',J s'→bz P y kn ke kr s'):bz P (.seq x y) kn ke kr s:=hx _ h
def qA(w:List Nat)(l:List Lf)(ms:List Mrk)(s:Int):Int:=if dz (bu (ct w l ms s 1) 11) (bu (ct w l ms s 0) 11) then 1 else 0
def oT(w:List Nat)(l:List Lf)(ms:List Mrk)(k j:Nat):Bool:=(List.range k).any fun(s:Nat)=>ct w l ms s (qA w l ms s) j
def nI(w:List Nat)(b:cN):Bool:=decide (b.chain≠0∧b.chain≠(if w.getLastD 0=120 then 1 else 2))
def sF(w:List Nat)(q:Ppr)(trim:Int)(b:cN):Bool:= !qz (dM w q.wide.lo q.high.lo).1 (dM w q.wide.hi q.high.hi).1 trim b.wide
def sG(w:List Nat)(q:Ppr)(trim:Int)(b:cN):Bool:= !qz (dM w q.wide.lo q.high.lo).2 (dM w q.wide.hi q.high.hi).2 (2*trim) b.high
def aeM(w:List Nat)(q:Ppr)(trim:Int)(b:cN):Nat→Bool
 |0=>nI w b
 |1=>sF w q trim b
 |2=>sG w q trim b
 |_=>false
def mA(w:List Nat)(q:Ppr)(trim:Int)(l:List Lf)(b:cN)(S j:Nat):Bool:=aeM w q trim b j||oT w l b.marks S j
def nJ:Ppr:=⟨⟨#[]⟩,⟨0,0⟩,⟨0,0⟩⟩
def mB(p:aL)(m:Mk)(b:cN):Bool:=decide (((bT p m).length:Int)=b.leaves)
def ji(p:aL)(m:Mk)(b:cN):Nat→Bool:=mA (codes (aY p m)) (p.aR.getD m.b_.toNat nJ) p.trim (bT p m) b m.aW.toNat
theorem aap(w:List Nat)(l:List Lf)(ms:List Mrk)(k j:Nat):oT w l ms (k+1) j=(oT w l ms k j||ct w l ms k (qA w l ms k) j):=by unfold oT;rw[List.range_succ,List.any_append];simp
theorem Eu(q:Nat→Bool):setOf q 11<2048:=vQ q 11
theorem aaq(oR:∀n:Nat,n<2048→aed Tryz.prog 107 [.lit (.int .u64 n)] (I (eF n:Nat)))(sC:∀n:Nat,n<2048→aed Tryz.prog 105 [.lit (.int .u64 n)] (I (bJ n).length)){p:aL}{m:Mk}(hp:eM p)(hm:eu p m)(b:cN)(hb:sD b):aed Tryz.prog 59 [p.av,m.av,b.av] (I (if mB p m b then (setOf (ji p m b) 11:Nat) else -1)):=by
 refine pc t59 (by simp) fun hfit=> ?_
 have c1:=ZB hp hm
 have c2:=yR p m hm.fmt
 have c3:=MM hp hm
 have c4:aed Tryz.prog 91 [S (aY p m)] (B ((codes (aY p m)).getLastD 0==120)):=by
  have:=YT _ (afq hp hm)
  rwa [agC] at this
 have ht:=sA _ (afq hp hm)
 have hok:M_ (bT p m):=fun x hx=>by have:=ahU hp hm hx;exact⟨this.2.2.1,this.2.2.2.1,this.2.2.2.2⟩
 have hlen:=Eg hp hm
 have jK:=sx hp hm
 have kf:=hp.trim
 have c5:(((bT p m).length:Int)=b.leaves)→∀(s h:Int),0≤h∧h≤1→aed Tryz.prog 93 [I h,lG b,.ref [LL (bT p m)],.ref [I s],aem p,.ref m.cs] (I (setOf (ct (codes (aY p m)) (bT p m) b.marks s h) 11:Nat)):=fun hl s h hh=>aal hp hm b hb (bT p m) hl hok s h hh
 obtain⟨g,hg⟩:∃g:Nat,m.b_=g:=⟨m.b_.toNat,by have:=hm.ppr;omega⟩
 have hgl:g<p.aR.length:=by have:=hm.ppr;omega
 have hq:p.aR.getD m.b_.toNat nJ=p.aR[g]:=by rw[hg];simp[List.getD_eq_getElem?_getD,hgl]
 have hsp:=Er (hp.wide g hgl)
 obtain⟨R,hR⟩:∃R:Int,R=if mB p m b then ((setOf (ji p m b) 11:Nat):Int) else -1:=⟨_,rfl⟩
 rw[←hR]
 unfold mB ji at hR
 rw[hq] at hR
 have mC:dM (codes (aY p m)) p.aR[g].wide.lo p.aR[g].high.lo=_:=rfl
 have nK:dM (codes (aY p m)) p.aR[g].wide.hi p.aR[g].high.hi=_:=rfl
 obtain⟨pp,j3⟩:∃pp,pp=p.aR[g]:=⟨_,rfl⟩
 rw[←j3] at hR hsp mC nK
 conv at mC=>rhs;unfold dM
 conv at nK=>rhs;unfold dM
 have adS:cS (codes (aY p m)) 120=cS (codes (aY p m)) 120:=rfl
 have adT:cS (codes (aY p m)) 121=cS (codes (aY p m)) 121:=rfl
 have adU:(codes (aY p m)).getLastD 0=(codes (aY p m)).getLastD 0:=rfl
 generalize adV:cS (codes (aY p m)) 120=oO at*
 generalize adW:cS (codes (aY p m)) 121=rows at*
 generalize hla:(codes (aY p m)).getLastD 0=la at*
 generalize codes (aY p m)=w at*
 generalize aY p m=f at*
 generalize bT p m=l at*
 have kB:0≤m.b_:=by omega
 have p0:m.b_<(p.aR.length:Int):=by omega
 have hg2:m.b_.toNat=g:=by omega
 simp -implicitDefEqProofs [C7]
 refine aj c1 ?_
 simp -implicitDefEqProofs
 intro b7
 refine bR (fun he=> ?_) (fun he=> ?_)
 ·have hl:¬(l.length:Int)=b.leaves:=by simpa using he
  rw[if_neg (by simpa using hl)] at hR
  simp -implicitDefEqProofs [yq,hR]
 have hl:(l.length:Int)=b.leaves:=by simpa using he
 replace c5:=c5 hl
 rw[if_pos (by simpa using hl)] at hR
 simp -implicitDefEqProofs
 refine aj c2 ?_
 simp -implicitDefEqProofs [kB,p0,hg2,hgl,←j3]
 intro b9
 refine aj c3 ?_
 have hc0:¬(oO:Int)=0:=by omega
 have hr0:¬(rows:Int)=0:=by omega
 have d1:=sE (a:=pp.wide.lo) (n:=oO) (by omega) (by omega)
 have d2:=sE (a:=pp.wide.hi) (n:=oO) (by omega) (by omega)
 have d3:=sE (a:=pp.high.lo) (n:=rows) (by omega) (by omega)
 have d4:=sE (a:=pp.high.hi) (n:=rows) (by omega) (by omega)
 have hc0:¬oO=0:=by omega
 have hr0:¬rows=0:=by omega
 simp -implicitDefEqProofs [hc0,hr0]
 refine⟨i64 (by omega) (by omega),i64 (by omega) (by omega),fun lM aar=>⟨i64 (by omega) (by omega),i64 (by omega) (by omega),fun cT Na=> ?_⟩⟩
 have sH:¬cT=lM:=fun h=>by simp[h] at Na
 have vS:¬lM=cT:=fun h=>sH h.symm
 clear aar Na
 refine aj c4 ?_
 generalize pp.wide.lo.tdiv oO=x1 at*
 generalize pp.wide.hi.tdiv oO=x2 at*
 generalize pp.high.lo.tdiv rows=y1 at*
 generalize pp.high.hi.tdiv rows=y2 at*
 obtain⟨z1,j0⟩:∃z,z=dM w pp.wide.lo pp.high.lo:=⟨_,rfl⟩
 obtain⟨z2,hz2⟩:∃z,z=dM w pp.wide.hi pp.high.hi:=⟨_,rfl⟩
 rw[←j0] at mC
 rw[←hz2] at nK
 obtain⟨ch,hch⟩:∃ch:Int,ch=if la=120 then 1 else 2:=⟨_,rfl⟩
 simp -implicitDefEqProofs
 refine aao (fun st=>st.env 3=aem p∧st.env 4=.ref m.cs∧st.env 5=lG b∧st.env 6=I 0∧st.env 7=.ref [LL l]∧st.env 12=.au lM 0∧st.env 13=.au cT 0∧st.loc lM=some [I z1.1,I z2.1]∧st.loc cT=some [I z1.2,I z2.2]∧st.env 14=I ch) ?_ ?_ ?_
 case refine_2=>
  intro k hk he
  have ahA:¬la=120:=by simpa using he
  rw[if_neg ahA] at mC nK hch
  simp -implicitDefEqProofs [sH,vS]
  refine hk _ ⟨by simp,by simp,by simp,by simp,by simp,by simp,by simp,by simp[sH,vS,mC,nK],by simp[sH,vS,mC,nK],by simp[hch]⟩
 case refine_3=>
  intro k hk he
  have ahA:la=120:=by simpa using he
  rw[if_pos ahA] at mC nK hch
  simp -implicitDefEqProofs
  refine hk _ ⟨by simp,by simp,by simp,by simp,by simp,by simp,by simp,by simp[sH,vS,mC,nK],by simp[sH,vS,mC,nK],by simp[hch]⟩
 rintro st ⟨e3,e4,e5,e6,e7,bF,aP,jQ,cZ,e14⟩
 have hb0:setOf (aeM w pp p.trim b) 1=if nI w b then 1 else 0:=by simp[setOf,aeM]
 have jb:setOf (aeM w pp p.trim b) 2=setOf (aeM w pp p.trim b) 1 ||| (if sF w pp p.trim b then 2 else 0):=rfl
 have hb2:setOf (aeM w pp p.trim b) 3=setOf (aeM w pp p.trim b) 2 ||| (if sG w pp p.trim b then 4 else 0):=rfl
 have eB:setOf (aeM w pp p.trim b) 1<1099511627776:=Nat.lt_trans (vQ _ 1) (by decide)
 have dX:setOf (aeM w pp p.trim b) 2<1099511627776:=Nat.lt_trans (vQ _ 2) (by decide)
 have ho1:cP .or .i64 ((setOf (aeM w pp p.trim b) 1:Nat):Int) 2=((setOf (aeM w pp p.trim b) 1 ||| 2:Nat):Int):=ahb (b:=2) eB (by decide)
 have kX:cP .or .i64 ((setOf (aeM w pp p.trim b) 2:Nat):Int) 4=((setOf (aeM w pp p.trim b) 2 ||| 4:Nat):Int):=ahb (b:=4) dX (by decide)
 have Ao:cP .or .i64 0 1=1:=by decide
 have hz3:setOf (aeM w pp p.trim b) 3=setOf (aeM w pp p.trim b) 11:=Ep fun j=>by
  by_cases hj:j<3
  ·have:j<11:=by omega
   simp[hj,this]
  ·have:aeM w pp p.trim b j=false:=by unfold aeM;split<;>first|omega|rfl
   simp[this]
 have xu:0≤z1.1∧z1.1≤100000∧0≤z1.2∧z1.2≤100000:=by rw[mC];split<;>simp<;>omega
 refine Et (fun st=>st.env 3=aem p∧st.env 4=.ref m.cs∧st.env 5=lG b∧st.env 6=I (setOf (aeM w pp p.trim b) 1:Nat)∧st.env 7=.ref [LL l]∧st.env 12=.au lM 0∧st.env 13=.au cT 0∧st.loc lM=some [I z1.1,I z2.1]∧st.loc cT=some [I z1.2,I z2.2]) ?_ ?_
 ·intro k hk
  have lN:nI w b=decide (b.chain≠0∧b.chain≠ch):=by unfold nI;rw[hla,hch]
  simp -implicitDefEqProofs [e5]
  by_cases h1:b.chain=0
  ·have jc:(b.chain != 0)=false:=by simp[h1]
   have hf:nI w b=false:=by rw[lN];simp[h1]
   rw[hf,if_neg (by simp)] at hb0
   simp -implicitDefEqProofs [jc]
   exact hk _ ⟨by simp[e3],by simp[e4],by simp[e5],by simp[e6,hb0],by simp[e7],by simp[bF],by simp[aP],by simp[jQ],by simp[cZ]⟩
  ·have jc:(b.chain != 0)=true:=by simp[h1]
   simp -implicitDefEqProofs [e5,e14,jc]
   refine bR (fun he=> ?_) (fun he=> ?_)
   ·have h2:b.chain≠ch:=by simpa using he
    have hf:nI w b=true:=by rw[lN];simp[h1,h2]
    rw[hf,if_pos rfl] at hb0
    simp -implicitDefEqProofs [e6,Ao]
    exact hk _ ⟨by simp[e3],by simp[e4],by simp[e5],by simp[hb0],by simp[e7],by simp[bF],by simp[aP],by simp[jQ],by simp[cZ]⟩
   ·have h2:b.chain=ch:=by simpa using he
    have hf:nI w b=false:=by rw[lN];simp[h2]
    rw[hf,if_neg (by simp)] at hb0
    exact hk _ ⟨by simp[e3],by simp[e4],by simp[e5],by simp[e6,hb0],by simp[e7],by simp[bF],by simp[aP],by simp[jQ],by simp[cZ]⟩
 clear e3 e4 e5 e6 e7 bF aP jQ cZ e14
 rintro st ⟨e3,e4,e5,e6,e7,bF,aP,jQ,cZ⟩
 refine Et (fun st=>st.env 3=aem p∧st.env 4=.ref m.cs∧st.env 5=lG b∧st.env 6=I (setOf (aeM w pp p.trim b) 2:Nat)∧st.env 7=.ref [LL l]∧st.env 12=.au lM 0∧st.env 13=.au cT 0∧st.loc lM=some [I z1.1,I z2.1]∧st.loc cT=some [I z1.2,I z2.2]) ?_ ?_
 ·intro k hk
  have c6:=M7 z1.1 z2.1 p.trim b.wide (by omega)
  have lN:sF w pp p.trim b= !qz z1.1 z2.1 p.trim b.wide:=by unfold sF;rw[←j0,←hz2]
  simp -implicitDefEqProofs [e3,e5,bF,jQ]
  refine aj c6 ?_
  simp -implicitDefEqProofs
  refine bR (fun he=> ?_) (fun he=> ?_)
  ·rw[lN,he,if_pos rfl] at jb
   simp -implicitDefEqProofs [e6,ho1]
   exact hk _ ⟨by simp[e3],by simp[e4],by simp[e5],by simp[jb],by simp[e7],by simp[bF],by simp[aP],by simp[jQ],by simp[cZ]⟩
  ·rw[lN,he,if_neg (by simp),Nat.or_zero] at jb
   exact hk _ ⟨by simp[e3],by simp[e4],by simp[e5],by simp[e6,jb],by simp[e7],by simp[bF],by simp[aP],by simp[jQ],by simp[cZ]⟩
 clear e3 e4 e5 e6 e7 bF aP jQ cZ
 rintro st ⟨e3,e4,e5,e6,e7,bF,aP,jQ,cZ⟩
 refine Et (fun st=>st.env 3=aem p∧st.env 4=.ref m.cs∧st.env 5=lG b∧st.env 6=I (setOf (aeM w pp p.trim b) 3:Nat)∧st.env 7=.ref [LL l]∧st.env 12=.au lM 0∧st.env 13=.au cT 0∧st.loc lM=some [I z1.1,I z2.1]∧st.loc cT=some [I z1.2,I z2.2]) ?_ ?_
 ·intro k hk
  have c6:=M7 z1.2 z2.2 (2*p.trim) b.high (by omega)
  have lN:sG w pp p.trim b= !qz z1.2 z2.2 (2*p.trim) b.high:=by unfold sG;rw[←j0,←hz2]
  simp -implicitDefEqProofs [e3,e5,aP,cZ]
  refine⟨i64 (by omega) (by omega),?_⟩
  refine aj c6 ?_
  simp -implicitDefEqProofs
  refine bR (fun he=> ?_) (fun he=> ?_)
  ·rw[lN,he,if_pos rfl] at hb2
   simp -implicitDefEqProofs [e6,kX]
   exact hk _ ⟨by simp[e3],by simp[e4],by simp[e5],by simp[hb2],by simp[e7],by simp[bF],by simp[aP],by simp[jQ],by simp[cZ]⟩
  ·rw[lN,he,if_neg (by simp),Nat.or_zero] at hb2
   exact hk _ ⟨by simp[e3],by simp[e4],by simp[e5],by simp[e6,hb2],by simp[e7],by simp[bF],by simp[aP],by simp[jQ],by simp[cZ]⟩
 clear e3 e4 e5 e6 e7 bF aP jQ cZ
 rintro st ⟨e3,e4,e5,e6,e7,_,_,_,_⟩
 rw[hz3] at e6
 have aas:mA w pp p.trim l b 0=aeM w pp p.trim b:=by funext j;simp[mA,oT]
 obtain⟨S,hS,Ek⟩:∃S:Nat,m.aW=S∧m.aW.toNat=S:=⟨m.aW.toNat,jK.1,rfl⟩
 rw[Ek] at hR
 simp -implicitDefEqProofs [e4,hS]
 refine aef S (fun k st=>st.env 3=aem p∧st.env 4=.ref m.cs∧st.env 5=lG b∧st.env 6=I (setOf (mA w pp p.trim l b k) 11:Nat)∧st.env 7=.ref [LL l]∧st.env 108=I S∧st.env 109=I k) ?_ ?_
 ·simp[e3,e4,e5,e6,e7,aas]
 clear e3 e4 e5 e6 e7
 rintro k st hk ⟨e3,e4,e5,e6,e7,Ew,ahf⟩
 simp -implicitDefEqProofs [Ew,ahf]
 refine bA (fun hlt=> ?_) (fun hge=> ?_)
 ·have hlt:k<S:=by omega
  have d0:=c5 k 0 (by omega)
  have d1':=c5 k 1 (by omega)
  have hs0:=Eu (ct w l b.marks k 0)
  have Nb:=Eu (ct w l b.marks k 1)
  have df:=aab oR sC Nb hs0
  rw[M6,M6] at df
  have hnext:setOf (mA w pp p.trim l b k) 11 ||| setOf (ct w l b.marks k (qA w l b.marks k)) 11=setOf (mA w pp p.trim l b (k+1)) 11:=by
   rw[aac]
   congr 1
   funext j
   unfold mA
   rw[aap,Bool.or_assoc]
  have y_:qA w l b.marks k=if dz (bu (ct w l b.marks k 1) 11) (bu (ct w l b.marks k 0) 11) then 1 else 0:=rfl
  have Nc:∀n:Nat,n<2048→cP .or .i64 ((setOf (mA w pp p.trim l b k) 11:Nat):Int) (n:Int)=((setOf (mA w pp p.trim l b k) 11 ||| n:Nat):Int):=fun n hn=>ahb (Nat.lt_trans (Eu _) (by decide)) (Nat.lt_trans hn (by decide))
  generalize dz (bu (ct w l b.marks k 1) 11) (bu (ct w l b.marks k 0) 11)=q at*
  simp -implicitDefEqProofs [e3,e4,e5,e7,ahf]
  intro b15 adY
  refine aj d0 ?_
  simp -implicitDefEqProofs
  refine aj d1' ?_
  simp -implicitDefEqProofs
  refine aj df ?_
  simp -implicitDefEqProofs
  cases q with
  |true=>
   rw[if_pos rfl] at y_
   rw[y_,] at hnext
   have vT:=Nc _ Nb
   rw[hnext] at vT
   simp -implicitDefEqProofs [e6,ahf,vT]
   exact⟨i64 (by omega) (by omega),aQ hlt ⟨by simp[e3],by simp[e4],by simp[e5],by simp,by simp[e7],by simp[Ew],by simp⟩⟩
  |false=>
   rw[if_neg (by simp)] at y_
   rw[y_] at hnext
   have vT:=Nc _ hs0
   rw[hnext] at vT
   simp -implicitDefEqProofs [e6,ahf,vT]
   exact⟨i64 (by omega) (by omega),aQ hlt ⟨by simp[e3],by simp[e4],by simp[e5],by simp,by simp[e7],by simp[Ew],by simp⟩⟩
 ·obtain rfl:k=S:=by omega
  simp -implicitDefEqProofs [e6,yq,hR]
end Go.Proofs.YtnncgmimhdplfaaGreat.F
namespace Go.Proofs.YtnncgmimhdplfaaGreat.F
open Go.aq
theorem ahg{q:Nat→Bool}{n j:Nat}:((j:Int)∈bu q n)↔j<n∧q j=true:=by
 unfold bu
 simp only[List.mem_map,List.mem_filter,List.mem_range]
 constructor
 ·rintro⟨i,⟨h1,h2⟩,h3⟩
  have:i=j:=Int.ofNat_inj.1 h3
  subst this;exact⟨h1,h2⟩
 ·rintro⟨h1,h2⟩
  exact⟨j,⟨h1,h2⟩,rfl⟩
end Go.Proofs.YtnncgmimhdplfaaGreat.F
namespace Go.Proofs.YtnncgmimhdplfaaGreat.F
open Go.aq
def mD(P S n:Nat):Mk:=⟨(n / (2*S) / P:Nat),(n / (2*S)%P:Nat),((n / 2%S:Nat):Int)+1,((n%2:Nat):Int)==1⟩
set_option maxRecDepth 100000 in
theorem aat:((List.range 7).all fun F=>(List.range 5).all fun P=>(List.range 5).all fun S=>decide ((List.range (F*P*S*2)).map (mD P S)=kA P S F))=true:=by decide+kernel
theorem aau{F P S:Nat}(hF:F≤6)(hP:P≤4)(hS:S≤4):(List.range (F*P*S*2)).map (mD P S)=kA P S F:=by
 have h1:=List.all_eq_true.1 aat F (List.mem_range.2 (by omega))
 have h2:=List.all_eq_true.1 h1 P (List.mem_range.2 (by omega))
 have h3:=List.all_eq_true.1 h2 S (List.mem_range.2 (by omega))
 exact of_decide_eq_true h3
theorem vU(a b:Nat):((a:Int).tdiv (b:Int))=((a / b:Nat):Int):=by rw[Int.tdiv_eq_ediv_of_nonneg (by omega)];rfl
def afM(p:aL)(P S N n:Nat):List (List AV):=((((List.range N).drop n).map (mD P S)).filter (fO p)).map fun m=>[m.av]
theorem aav{p:aL}{P S N n:Nat}(hn:n<N)(h:fO p (mD P S n)=true):afM p P S N n=[(mD P S n).av]::afM p P S N (n+1):=by
 unfold afM
 rw[drop_cons (l:=List.range N) (k:=n) (by simpa using hn)]
 simp[h]
theorem aaw{p:aL}{P S N n:Nat}(hn:n<N)(h:fO p (mD P S n)=false):afM p P S N n=afM p P S N (n+1):=by
 unfold afM
 rw[drop_cons (l:=List.range N) (k:=n) (by simpa using hn)]
 simp[h]
theorem aax(p:aL)(P S N:Nat):afM p P S N N=[]:=by unfold afM;rw[List.drop_of_length_le (by simp)];rfl
theorem aay(p:aL)(he:bh p=0):iF Tryz.prog 89 [] [aem p] ((cq p).map fun m=>[m.av]):=by
 have hp:=afL he
 have hF:=hp.aX
 have hP:=hp.aR
 obtain⟨S,hS⟩:∃S:Nat,p.aW=S:=⟨p.aW.toNat,by have:=hp.aW;omega⟩
 have Ek:=hp.aW
 have hok:∀m,fO p m=(jM p m==0):=fun m=>by unfold fO jN;rw[if_neg (by simp[he])]
 have hm0:cq p=((List.range (p.aX.length*p.aR.length*S*2)).map (mD p.aR.length S)).filter (fO p):=by
  unfold cq
  rw[hS,Int.toNat_natCast,aau (by omega) (by omega) (by omega)]
 have Ex:((cq p).map fun m=>[m.av])=afM p p.aR.length S (p.aX.length*p.aR.length*S*2) 0:=by rw[hm0];rfl
 rw[Ex]
 clear hm0 Ex
 refine ps t89 (by simp) fun l hfit=> ?_
 obtain⟨F,zb⟩:∃F,F=p.aX.length:=⟨_,rfl⟩
 obtain⟨P,sI⟩:∃P,P=p.aR.length:=⟨_,rfl⟩
 rw[←zb,←sI]
 rw[←zb] at hF
 rw[←sI] at hP
 have hFP:F*P≤6*4:=Nat.mul_le_mul hF.2 hP.2
 have adZ:F*P*S≤24*4:=Nat.mul_le_mul hFP (by omega)
 obtain⟨N,hN⟩:∃N,N=F*P*S*2:=⟨_,rfl⟩
 rw[←hN]
 have q1:(F:Int)*(P:Int)=((F*P:Nat):Int):=by simp
 have q2:((F*P:Nat):Int)*(S:Int)=((F*P*S:Nat):Int):=by simp
 have q3:((F*P*S:Nat):Int)*2=(N:Int):=by rw[hN];simp
 generalize F*P*S=FPS at*
 generalize F*P=FP at*
 simp -implicitDefEqProofs [Dq,←zb,←sI,hS]
 rw[q1,q2,q3]
 refine⟨i64 (by omega) (by omega),i64 (by omega) (by omega),i64 (by omega) (by omega),?_⟩
 refine aef N (fun n s=>s.env 0=.func (.yield l) [] []∧s.env 1=aem p∧s.env 18=I N∧s.env 19=I n∧s.env gS=.ghost l (afM p P S N n) false) ?_ ?_
 ·simp
 rintro n s hn ⟨e0,e1,eU,dL,eg⟩
 simp -implicitDefEqProofs [eU,dL]
 refine bA (fun hlt=> ?_) (fun hge=> ?_)
 ·have hlt:n<N:=by omega
  have c:=LH p (mD P S n)
  have ht:=aav (p:=p) (P:=P) (S:=S) hlt
  have hf:=aaw (p:=p) (P:=P) (S:=S) hlt
  rw[hok] at ht hf
  generalize jM p (mD P S n)=e at*
  have u1:(n:Int).tdiv 2=((n / 2:Nat):Int):=vU n 2
  have u2:=gE (n / 2) S
  have u3:(n:Int).tmod 2=((n%2:Nat):Int):=gE n 2
  have u4:(2:Int)*(S:Int)=((2*S:Nat):Int):=by simp
  have u5:=vU n (2*S)
  have u6:=gE (n / (2*S)) P
  have u7:=vU (n / (2*S)) P
  have v5:(n:Int) / ((2*S:Nat):Int)=((n / (2*S):Nat):Int):=rfl
  have v6:((n / (2*S):Nat):Int)%(P:Int)=((n / (2*S)%P:Nat):Int):=rfl
  have v7:((n / (2*S):Nat):Int) / (P:Int)=((n / (2*S) / P:Nat):Int):=rfl
  have aaz:¬p.aR=[]:=fun h=>by rw[h] at sI;simp at sI;omega
  have b1:n / 2≤n:=Nat.div_le_self _ _
  have b2:n / 2%S<S:=Nat.mod_lt _ (by omega)
  have b3:n / (2*S)≤n:=Nat.div_le_self _ _
  have b4:n / (2*S) / P≤n / (2*S):=Nat.div_le_self _ _
  have b5:n%2<2:=Nat.mod_lt _ (by omega)
  have hS0:¬S=0:=by omega
  have Ey:¬P=0:=by omega
  have hD0:¬2*S=0:=by omega
  have Nd:mD P S n=⟨(n / (2*S) / P:Nat),(n / (2*S)%P:Nat),((n / 2%S:Nat):Int)+1,((n%2:Nat):Int)==1⟩:=rfl
  rw[Nd] at c ht
  have b6:2*S≤8:=by omega
  clear Nd hN
  generalize n / 2=x1 at*
  generalize x1%S=x2 at*
  generalize n%2=x3 at*
  generalize 2*S=D at*
  generalize n / D=x4 at*
  generalize x4%P=x5 at*
  generalize x4 / P=x6 at*
  simp -implicitDefEqProofs [e1,dL,hS,hS0,u1,u2,u3]
  refine⟨i64 (by omega) (by omega),i64 (by omega) (by omega),fun b hb=> ?_⟩
  rw[u4]
  simp -implicitDefEqProofs [e1,←zb,←sI,hS,hD0,Ey,u5,u6,u7,v5,v6,v7,aaz]
  refine⟨i64 (by omega) (by omega),i64 (by omega) (by omega),i64 (by omega) (by omega),?_⟩
  have c':aed Tryz.prog 90 [.agg [.slice 2 (p.aX.map Fmt.av) 0,.slice 5 (p.aR.map Ppr.av) 0,I p.trim,I S],(⟨x6,x5,(x2:Int)+1,(x3:Int)==1⟩:Mk).av] (I e):=by rw[←hS];exact c
  refine aj c' ?_
  cases hz:(e==0) with
  |true=>
   rw[ht hz] at eg
   simp -implicitDefEqProofs [hz,e0]
   simp at eg
   simp -implicitDefEqProofs [eg,dL]
   exact⟨i64 (by omega) (by omega),aQ hlt ⟨by simp[e0],by simp[e1],by simp[eU],by simp,by simp⟩⟩
  |false=>
   rw[hf hz] at eg
   simp -implicitDefEqProofs [hz,dL]
   refine⟨i64 (by omega) (by omega),aQ hlt ⟨by simp[e0],by simp[e1],by simp[eU],by simp,?_⟩⟩
   simpa using eg
 ·obtain rfl:n=N:=by omega
  rw[aax] at eg
  simp at eg
  simp -implicitDefEqProofs [eg]
end Go.Proofs.YtnncgmimhdplfaaGreat.F
namespace Go.Proofs.YtnncgmimhdplfaaGreat.F
open Go.aq
def Ez(P:Program)(ms:List MOp)(K:St→Prop)(s:St)(b off sz aO:Nat):Option (List AV)→Prop
 |some cs=>off<cs.length∧vcs P ms K ((s.aT aO).new b ((cs.map (aC aO)).set off (.slice sz [] aO)))
 |none=>False
def qB(P:Program)(ms:List MOp)(K:St→Prop)(s:St)(sz aO:Nat):AV→Prop
 |.au b off=>Ez P ms K s b off sz aO (s.loc b)
 |_=>False
theorem EA(P:Program)(ms:List MOp)(K:St→Prop)(s:St)(x:ai)(sz aO:Nat):vcs P (.jV x sz aO::ms) K s=qB P ms K s sz aO (x.ev s.env):=by unfold qB Ez;rfl
attribute [simp] EA qB Ez
theorem aaA(p:aL):aed Tryz.prog 58 [p.av] (.func (.func 89) [] [aem p]):=by
 refine pc t58 (by simp) fun hfit=> ?_
 simp -implicitDefEqProofs [C5,C6]
def mF(p:aL)(b:cN):Int:=(oN p b).2.2
theorem aaB(p:aL)(b:cN):aed Tryz.prog 57 [p.av,b.av] (.tuple [p.av,I (mF p b)]):=by
 refine pc t57 (by simp) fun hfit=> ?_
 have c:=W9 p b
 unfold mF
 generalize oN p b=e at*
 simp -implicitDefEqProofs [C3]
 intro b4
 refine aj c ?_
 simp -implicitDefEqProofs [C4]
theorem Nf{q:Nat→Bool}{n:Nat}:setOf q n=0↔∀j<n,q j=false:=by
 constructor
 ·intro h j hj
  have:=af7 q n j
  rw[h] at this
  simpa[hj] using this.symm
 ·exact M9
theorem aaC{q:Nat→Bool}{n:Nat}:(bu q n).length=0↔∀j<n,q j=false:=by
 constructor
 ·intro h j hj
  cases hq:q j with
  |false=>rfl
  |true=>
   have:=ahg.2 ⟨hj,hq⟩
   rw[List.length_eq_zero_iff.1 h] at this
   cases this
 ·intro h;rw[y8 h];rfl
def sJ(q:Nat→Bool):Bool:=(List.range 11).all fun j=> !q j
theorem EB{q:Nat→Bool}:sJ q=true↔∀j<11,q j=false:=by
 unfold sJ
 rw[List.all_eq_true]
 constructor
 ·intro h j hj;simpa using h j (by simpa using hj)
 ·intro h j hj;simp[h j (by simpa using hj)]
def fits(p:aL)(b:cN)(m:Mk):Bool:=mB p m b&&sJ (ji p m b)
def qC(p:aL)(b:cN):List Mk:=(cq p).filter (fits p b)
def kC(p:aL)(b:cN)(k:Nat):List Mk:=((cq p).take k).filter (fits p b)
theorem aaD{p:aL}{b:cN}{k:Nat}(hk:k<(cq p).length)(h:fits p b (cq p)[k]=true):kC p b (k+1)=kC p b k++[(cq p)[k]]:=by unfold kC;rw[ael hk,List.filter_append];simp[h]
theorem aaE{p:aL}{b:cN}{k:Nat}(hk:k<(cq p).length)(h:fits p b (cq p)[k]=false):kC p b (k+1)=kC p b k:=by unfold kC;rw[ael hk,List.filter_append];simp[h]
theorem aaF(p:aL)(b:cN)(k:Nat):(kC p b k).length≤k:=by
 unfold kC
 exact Nat.le_trans (List.length_filter_le _ _) (by simp;omega)
theorem aaG(p:aL)(b:cN):kC p b (cq p).length=qC p b:=by unfold kC qC;rw[List.take_length]
def sK(p:aL)(b:cN):List Mk×Int:=if mF p b≠0 then ([],mF p b) else (qC p b,0)
theorem Ng{p:aL}(he:bh p=0){m:Mk}(hm:m∈cq p):eu p m:=Xh (Xi (ZR hm)).2
theorem aaH(p:aL)(b:cN):aed Tryz.prog 11 [p.av,b.av] (.tuple [ML (sK p b).1,I (sK p b).2]):=by
 refine pc t11 (by simp) fun hfit=> ?_
 have c1:=aaB p b
 have c0:=aaA p
 have aaI:mF p b=0→bh p=0∧sD b:=aae
 obtain⟨R,hR⟩:∃R,R=sK p b:=⟨_,rfl⟩
 rw[←hR]
 unfold sK at hR
 generalize mF p b=e at*
 simp -implicitDefEqProofs [CS]
 intro b4
 refine aj c1 ?_
 simp -implicitDefEqProofs
 intro b6 EC
 refine bR (fun he=> ?_) (fun he=> ?_)
 ·have h0:e≠0:=by simpa using he
  rw[if_pos h0] at hR
  have h46:¬b4=b6:=fun h=>EC h.symm
  simp -implicitDefEqProofs [yc,hR,EC,h46]
 have h0:e=0:=by simpa using he
 rw[if_neg (not_not_intro h0)] at hR
 obtain⟨ED,hb⟩:=aaI h0
 have hp:=afL ED
 have hl:=Em hp
 have hr:∀m∈cq p,eu p m:=fun m hm=>Ng ED hm
 have c2:∀m∈cq p,_:=fun m hm=>aaq oR sC hp (hr m hm) b hb
 have hfl:=aaF p b
 have jR:= @aaD p b
 have yZ:= @aaE p b
 have qD:=aay p ED
 rw[←aaG] at hR
 have h0:kC p b 0=[]:=rfl
 generalize kC p b=ft at*
 generalize cq p=l at*
 have h46:¬b4=b6:=fun h=>EC h.symm
 simp -implicitDefEqProofs
 refine aj c0 ?_
 simp -implicitDefEqProofs
 refine xS _ (fun k st=>st.env 3=lG b∧st.env 4=.au b4 0∧st.env 6=aem p∧st.loc b4=some [.slice 4 ((ft k).map Mk.av) 5000]) qD (by simp) ?_ ?_ ?_
 ·simp[h0,h46]
 ·rintro k st hk hb ⟨e3,e4,e6,el⟩
  have hk':k<l.length:=by simpa using hk
  have c3:=c2 l[k] (List.getElem_mem hk')
  have hkl:=hfl k
  have ht:=jR hk'
  have hf:=yZ hk'
  unfold fits at ht hf
  simp -implicitDefEqProofs [hk',e3,e6]
  intro b7 Nh
  have zc:¬b4=b7:=fun h=>by subst h;rw[el] at Nh;cases Nh
  have EE:¬b7=b4:=fun h=>zc h.symm
  generalize hq:ji p l[k] b=q at*
  generalize mB p l[k] b=ob at*
  refine aj c3 ?_
  cases ob with
  |false=>
   have:=hf (by simp)
   simp -implicitDefEqProofs [el,this,zc]
  |true=>
   simp -implicitDefEqProofs
   refine bR (fun he=> ?_) (fun he=> ?_)
   ·have hz:sJ q=true:=EB.2 (Nf.1 (by simpa using he))
    have:=ht (by simpa using hz)
    simp -implicitDefEqProofs [e4,el,this,zc,EE]
    omega
   ·have hz:sJ q=false:=by
     cases h:sJ q with
     |false=>rfl
     |true=>
      have:=Nf.2 (EB.1 h)
      simp[this] at he
    have:=hf (by simpa using hz)
    simp -implicitDefEqProofs [el,this,zc]
 ·rintro st hb ⟨e3,e4,e6,el⟩
  simp at el
  simp -implicitDefEqProofs [e4,el,yc,hR]
end Go.Proofs.YtnncgmimhdplfaaGreat.F
namespace Go.Proofs.YtnncgmimhdplfaaGreat.F
open Go.aq
def aaJ(p:aL)(b:cN)(best:Option Nat)(m:Mk):Option Nat:=
 if mB p m b then (match best with
  |none=>some (setOf (ji p m b) 11)
  |some s=>if dz (bJ (setOf (ji p m b) 11)) (bJ s) then some (setOf (ji p m b) 11) else some s)
 else best
def aaK(p:aL)(b:cN):Option Nat:=(cq p).foldl (aaJ p b) none
def oU:Option Nat→Int
 |none=> -1
 |some s=>s
def aaL(p:aL)(b:cN):List Int×Int:=if mF p b≠0 then ([],mF p b) else match aaK p b with
 |none=>([],9)
 |some s=>(bJ s,0)
end Go.Proofs.YtnncgmimhdplfaaGreat.F
namespace Go.Proofs.YtnncgmimhdplfaaGreat.F
open Go.aq
def aaM(p:aL)(l:List Mk)(t k i:Nat):Nat:=((l.take k).filter fun m=>ZF (bT p m) t i).length
def Ni(p:aL)(l:List Mk)(t i:Nat):Bool:=decide (0<aaM p l t l.length i)
theorem EF{q:Nat→Bool}{n:Nat}{x:Int}(h:x∈bu q n):∃j:Nat,x=j∧j<n∧q j=true:=by
 unfold bu at h
 obtain⟨j,hj,rfl⟩:=List.mem_map.1 h
 obtain⟨h1,h2⟩:=List.mem_filter.1 hj
 exact⟨j,rfl,by simpa using h1,h2⟩
end Go.Proofs.YtnncgmimhdplfaaGreat.F
namespace Go.Proofs.YtnncgmimhdplfaaGreat.F
open Go.aq
theorem aaN{p:aL}{b:cN}(he:bh p=0)(h:sD b):mF p b=0:=by
 have hm:∀j<b.marks.length,mE b j=0:=fun j hj=>by
  unfold mE
  rw[dif_pos hj]
  unfold vo
  rw[if_pos (h.at_ j hj)]
 have h8:¬8<b.marks.length:=by have:=h.marks;omega
 unfold mF oN
 have rq:¬(afe p).2.2≠0:=not_not_intro he
 rw[if_neg rq,if_neg (not_not_intro h.leaves),if_neg (not_not_intro h.chain),if_neg (not_not_intro h.aad),if_neg h8,agA hm,if_neg (not_not_intro rfl)]
end Go.Proofs.YtnncgmimhdplfaaGreat.F
namespace Go.Proofs.YtnncgmimhdplfaaGreat.F
open Go.aq
def mx(a b:Int):Int:=if b>a then b else a
def mn(a b:Int):Int:=if b<a then b else a
theorem aaO{lo hi:Int}{a b:Spn}(h:(lo≤a.lo∧a.hi≤hi∧a.lo≤a.hi)∧lo≤b.lo∧b.hi≤hi∧b.lo≤b.hi):ae3 lo hi a b=0:=by
 have ho:out lo hi [a.lo,a.hi,b.lo,b.hi]=false:=by simp[out];omega
 unfold ae3
 rw[ho,if_neg (by simp),if_neg (by omega)]
theorem sL(a b:Int):a≤mx a b∧b≤mx a b∧(mx a b=a∨mx a b=b):=by unfold mx;split<;>omega
theorem ahh(a b:Int):mn a b≤a∧mn a b≤b∧(mn a b=a∨mn a b=b):=by unfold mn;split<;>omega
section
variable {b0 b1 b2 b3:Int} (h0:0≤b0) (h1:0≤b1) (h2:0≤b2) (h3:0≤b3)
include h0 h1 h2
include h3
omit h3
omit h0 h1 h2 in
theorem Nj{a b:Int}{n:Nat}(hn:1≤n)(ha:0≤a)(hab:a≤b):a.tdiv n≤b.tdiv n:=by
 rw[Int.tdiv_eq_ediv_of_nonneg ha,Int.tdiv_eq_ediv_of_nonneg (by omega)]
 exact Int.ediv_le_ediv (by omega) hab
end
theorem Nk{p:aL}{m:Mk}(hp:eM p)(hm:eu p m){a b a' b':Int}(ha:0≤a)(hb:0≤b)(haa:a≤a')(j6:b≤b'):(dM (codes (aY p m)) a b).1≤(dM (codes (aY p m)) a' b').1∧(dM (codes (aY p m)) a b).2≤(dM (codes (aY p m)) a' b').2:=by
 have ht:=sA _ (afq hp hm)
 have d1:=Nj ht.1 ha haa
 have d2:=Nj ht.2.2.1 hb j6
 unfold dM
 split
 ·exact⟨d1,d2⟩
 ·exact⟨d2,d1⟩
theorem Nl{q r:Nat→Bool}(h:∀j,q j=true→r j=true):∀n,(bu q n).length≤(bu r n).length
 |0=>by simp[bu]
 |n+1=>by
  have ih:=Nl h n
  rw[lK,lK,List.length_append,List.length_append]
  cases hq:q n with
  |true=>rw[h n hq];simp;exact ih
  |false=>simp;omega
theorem Nm{a b:List Int}:(dz a b=true→a.length≤b.length)∧(dz a b=false→b.length≤a.length):=by
 unfold dz
 split
 ·constructor<;>(intro h;simp at h;omega)
 ·constructor<;>(intro _;omega)
end Go.Proofs.YtnncgmimhdplfaaGreat.F
namespace Go.Proofs.YtnncgmimhdplfaaGreat.F
open Go.aq
theorem zf{pl:Bool}:Rd Tryz.prog pl 36 U (fun n=>0≤n∧n≤65535):=by
 have h:Rd Tryz.prog true 36 U (fun n=>0≤n∧n≤65535):=(Rd.int Tryz.underlying36).map id (fun _=>rfl) (fun _ h=>h)
 cases pl
 ·exact h.loose
 ·exact h
theorem aaP:Rd Tryz.prog false 37 (fun xs:List Int=>.agg (xs.flatMap fun y=>(U y).cells)) (fun xs=>xs.length=2∧∀x∈xs,0≤x∧x≤65535):=Rd.array (sz:=1) Tryz.underlying37 (by kernel_rfl) (by kernel_rfl) zf
theorem oV:Rd Tryz.prog false 31 US gW:=(Rd.slice Tryz.underlying31 (of_decide_eq_true (by kernel_rfl)) (by kernel_rfl) zf).map id (fun _=>rfl) (fun _ h=>h.2)
theorem Nn{P:Program}{kn:St→Prop}{ke:Nat→St→Prop}{kr:St→Prop}{s:St}{x y:ay}{b:Bool}(J:St→Prop)(h:∀s',J s'→kn s')(hx:∀k:St→Prop,(∀s',J s'→k s')→b=true→bz P x k ke kr s)(hy:∀k:St→Prop,(∀s',J s'→k s')→b=false→bz P y k ke kr s):lz P kn ke kr s x y (.lit (.bool b)):=⟨hx kn h,hy kn h⟩
theorem bX{P:Program}{kn:St→Prop}{ke:Nat→St→Prop}{kr:St→Prop}{s:St}{x y:ay}(J:St→Prop)(hx:∀k:St→Prop,(∀s',J s'→k s')→bz P x k ke kr s)(h:∀s',J s'→bz P y kn ke kr s'):bz P (.seq x y) kn ke kr s:=hx _ h
end Go.Proofs.YtnncgmimhdplfaaGreat.F
namespace Go.Proofs.YtnncgmimhdplfaaGreat.F
open Go.aq
theorem gm{a b:Int}(ha:0≤a)(hb:0<b):0≤a.tmod b∧a.tmod b<b:=by
 rw[Int.tmod_eq_emod_of_nonneg ha]
 exact⟨Int.emod_nonneg _ (by omega),Int.emod_lt_of_pos _ hb⟩
def afi(s:Spn)(n:Int):Int:=s.lo+n.tmod (s.hi - s.lo+1)
theorem vV{s:Spn}{n:Int}(hs:s.lo≤s.hi)(hn:0≤n):s.lo≤afi s n∧afi s n≤s.hi:=by
 have:=gm hn (show 0<s.hi - s.lo+1 by omega)
 unfold afi
 omega
theorem No(s:Spn)(n:Int)(hs:0≤s.lo∧s.lo≤s.hi∧s.hi≤2000)(hn:0≤n∧n≤65535):aed Tryz.prog 54 [s.av,I n] (I (afi s n)):=by
 refine pc t54 (by simp) fun hfit=> ?_
 have h:=vV hs.2.1 hn.1
 obtain⟨R,hR⟩:∃R,R=afi s n:=⟨_,rfl⟩
 rw[←hR] at h⊢
 unfold afi at hR
 have h0:¬s.hi - s.lo+1=0:=by omega
 simp -implicitDefEqProofs [Kj,h0,Kk,←hR]
 exact⟨i64 (by omega) (by omega),i64 (by omega) (by omega),i64 (by omega) (by omega)⟩
theorem aaQ{p:aL}{m:Mk}(hp:eM p)(hm:eu p m)(i:Nat)(hi:i<(bT p m).length){x:List Int}(hx:gW x):aed Tryz.prog 56 [p.av,m.av,I i,US x] (B (sB (codes (aY p m)) (bT p m) (aeL x m.aW.toNat) i)):=by
 refine pc t56 (by simp) fun hfit=> ?_
 have c1:=yX hp hm
 have jK:=sx hp hm
 have c2:=ZU m hx (by omega)
 have hok:=ahU hp hm (List.getElem_mem hi)
 have hhl:=M1 x m.aW.toNat
 obtain⟨t,ht⟩:∃t:Nat,(bT p m)[i].aeS=t:=⟨(bT p m)[i].aeS.toNat,by omega⟩
 have htS:t<m.aW.toNat:=by omega
 have hh:=M3 hx (k:=t) (n:=m.aW.toNat) (by omega)
 have c3:=Eh hp hm (bT p m)[i] ⟨hok.2.2.1,hok.2.2.2.1,hok.2.2.2.2.1,hok.2.2.2.2.2⟩ _ hh
 have hR:sB (codes (aY p m)) (bT p m) (aeL x m.aW.toNat) i=kz (codes (aY p m)) (bT p m)[i] ((aeL x m.aW.toNat)[t]'(by omega)):=by
  unfold sB
  simp only[List.getD_eq_getElem?_getD,List.getElem?_eq_getElem hi,Option.getD_some,ht,Int.toNat_natCast]
  rw[List.getElem?_eq_getElem (by omega),Option.getD_some]
 have e:(bT p m)[i].av=.agg [I t,I (bT p m)[i].col,I (bT p m)[i].row,B (bT p m)[i].inner,B (bT p m)[i].LB]:=by rw[←ht]
 rw[e] at c3
 rw[hR]
 have htH:t<(aeL x m.aW.toNat).length:=by omega
 simp -implicitDefEqProofs [m56]
 refine aj c1 ?_
 simp -implicitDefEqProofs [hi]
 intro b
 refine aj c2 ?_
 simp -implicitDefEqProofs [ht,htH]
 refine aj c3 ?_
 simp -implicitDefEqProofs [Ko]
structure cc where
 make:List Int
 sizes:List Int
 gD:List Int
 looked:List Int
abbrev cc.cs(x:cc):List AV:=[US x.make,US x.sizes,US x.gD,US x.looked]
abbrev cc.av(x:cc):AV:=.agg x.cs
structure nL (x:cc):Prop where
 make:gW x.make
 sizes:gW x.sizes
 gD:gW x.gD
 looked:gW x.looked
def vW(p:aL)(m:Mk)(x:cc):Int×Int:=dM (codes (aY p m)) (afi (p.aR.getD m.b_.toNat nJ).wide (bH x.sizes 0)) (afi (p.aR.getD m.b_.toNat nJ).high (bH x.sizes 1))
def h_(p:aL)(m:Mk)(x:cc):Int:=mx 0 ((vW p m x).1 - (bH x.sizes 2).tmod (p.trim+1))
def iP(p:aL)(m:Mk)(x:cc):Int:=mx 0 ((vW p m x).2 - (bH x.sizes 3).tmod (2*p.trim+1))
def iQ(v a b:Int):Spn:=⟨mx 0 (v - a.tmod 9),mn 2000 (v+b.tmod 9)⟩
def oW(w:List Nat)(a:Int):Int:=if 0<a.tmod 3 then (if w.getLastD 0=120 then 1 else 2) else 0
def mG(p:aL)(m:Mk)(x:cc)(i:Nat):Nat:=(bH x.looked (6+i)).toNat%(bT p m).length
def sM(p:aL)(m:Mk)(x:cc)(nb i:Nat):Mrk:=⟨mG p m x i,sB (codes (aY p m)) (bT p m) (aeL x.gD m.aW.toNat) (mG p m x i) != nb.testBit i⟩
def gF(p:aL)(m:Mk)(x:cc)(nb k:Nat):List Mrk:=(List.range k).map (sM p m x nb)
theorem aaR(p:aL)(m:Mk)(x:cc)(nb k:Nat):gF p m x nb (k+1)=gF p m x nb k++[sM p m x nb k]:=by unfold gF;rw[List.range_succ];simp
theorem zg(p:aL)(m:Mk)(x:cc)(nb k:Nat):(gF p m x nb k).length=k:=by simp[gF]
def bY(p:aL)(x:cc):Mk:=vJ p (bH x.make 0).toNat
def ew(x:cc):Nat:=((bH x.looked 5).tmod 9).toNat
def gX(p:aL)(x:cc)(nb:Nat):cN:=⟨(bT p (bY p x)).length,oW (codes (aY p (bY p x))) (bH x.looked 4),iQ (h_ p (bY p x) x) (bH x.looked 0) (bH x.looked 1),iQ (iP p (bY p x) x) (bH x.looked 2) (bH x.looked 3),gF p (bY p x) x nb (ew x)⟩
theorem aaS{nb k:Nat}(hk:k≤8):(((nb:Int).fdiv (2^(min k 8))).tmod 2==1)=nb.testBit k:=by
 have e:min k 8=k:=by omega
 rw[e]
 obtain⟨q,hq⟩:∃q,q=nb / 2^k:=⟨_,rfl⟩
 have h1:(nb:Int).fdiv (2^k)=(q:Int):=by
  rw[hq]
  rw[Int.fdiv_eq_ediv_of_nonneg _ (by exact Int.pow_nonneg (by omega))]
  simp
 rw[h1,Int.tmod_eq_emod_of_nonneg (by omega)]
 have h2:nb.testBit k=decide (nb / 2^k%2=1):=Nat.testBit_eq_decide_div_mod_eq ..
 rw[h2,←hq,Bool.eq_iff_iff,decide_eq_true_eq,beq_iff_eq]
 omega
theorem EG{p:aL}{m:Mk}(hp:eM p)(hm:eu p m){a b A B:Int}(ha:0≤a∧a≤A)(hb:0≤b∧b≤B):0≤(dM (codes (aY p m)) a b).1∧0≤(dM (codes (aY p m)) a b).2∧(dM (codes (aY p m)) a b).1≤max A B∧(dM (codes (aY p m)) a b).2≤max A B:=by
 have ht:=sA _ (afq hp hm)
 have h1:∀{a:Int} {n:Nat},0≤a→1≤n→0≤a.tdiv n∧a.tdiv n≤a:=fun h hn=>by
  rw[Int.tdiv_eq_ediv_of_nonneg h]
  exact⟨Int.ediv_nonneg h (by omega),Int.ediv_le_self _ h⟩
 have h2:=h1 ha.1 ht.1
 have h3:=h1 hb.1 ht.2.2.1
 unfold dM
 split<;>(simp only;omega)
end Go.Proofs.YtnncgmimhdplfaaGreat.F
namespace Go.Proofs.YtnncgmimhdplfaaGreat.F
open Go.aq
theorem Np{q r:Nat→Bool}(h:∀j,q j=true→r j=false):∀n,(bu (fun j=>q j||r j) n).length=(bu q n).length+(bu r n).length
 |0=>rfl
 |n+1=>by
  have ih:=Np h n
  have:=h n
  rw[lK,lK,lK,List.length_append,List.length_append,List.length_append,ih]
  cases hq:q n<;>cases hr:r n<;>simp[hq,hr] at this⊢ <;>omega
def anyS(P:Nat→Nat→Bool)(k j:Nat):Bool:=(List.range k).any fun s=>P s j
theorem aaT(P:Nat→Nat→Bool)(k j:Nat):anyS P (k+1) j=(anyS P k j||P k j):=by unfold anyS;rw[List.range_succ,List.any_append];simp
theorem Nq{P:Nat→Nat→Bool}{k j:Nat}:anyS P k j=true↔∃s,s<k∧P s j=true:=by
 unfold anyS;rw[List.any_eq_true]
 exact⟨fun⟨s,h1,h2⟩=>⟨s,by simpa using h1,h2⟩,fun⟨s,h1,h2⟩=>⟨s,by simpa using h1,h2⟩⟩
theorem Nr{P Q:Nat→Nat→Bool}(hP:∀s s' j,P s j=true→P s' j=true→s=s')(hQ:∀s s' j,Q s j=true→Q s' j=true→s=s'){n:Nat}(h:∀s,(bu (P s) n).length≤(bu (Q s) n).length):∀k,(bu (anyS P k) n).length≤(bu (anyS Q k) n).length
 |0=>by rw[y8 (q:=anyS P 0) (fun j _=>rfl)];simp
 |k+1=>by
  have ih:=Nr hP hQ h k
  have e:∀{R:Nat→Nat→Bool},(∀s s' j,R s j=true→R s' j=true→s=s')→(bu (anyS R (k+1)) n).length=(bu (anyS R k) n).length+(bu (R k) n).length:=fun {R} hR=>by
   rw[←Np (q:=anyS R k) (r:=R k) (fun j hj=>by
    obtain⟨s,h1,h2⟩:=Nq.1 hj
    cases h3:R k j with
    |false=>rfl
    |true=>have:=hR s k j h2 h3;omega) n]
   congr 1
   refine ahe fun j _=> ?_
   rw[aaT]
  rw[e hP,e hQ]
  have:=h k
  omega
theorem Ns{w:List Nat}{l:List Lf}{ms:List Mrk}{s s' h h':Int}{j:Nat}(a:ct w l ms s h j=true)(b:ct w l ms s' h' j=true):s=s':=by
 unfold ct at a b
 rw[Bool.and_eq_true] at a b
 cases hg:ms[j - 3]? with
 |none=>rw[hg] at a;cases a.2
 |some q=>
  rw[hg] at a b
  have a2:=a.2
  have b2:=b.2
  simp only[Bool.and_eq_true,beq_iff_eq] at a2 b2
  rw[←a2.1,←b2.1]
theorem aaU(w:List Nat)(l:List Lf)(ms:List Mrk)(s:Int){h:Int}(hh:h=0∨h=1):(bu (ct w l ms s (qA w l ms s)) 11).length≤(bu (ct w l ms s h) 11).length:=by
 have x9:= @Nm (bu (ct w l ms s 1) 11) (bu (ct w l ms s 0) 11)
 unfold qA
 cases hl:dz (bu (ct w l ms s 1) 11) (bu (ct w l ms s 0) 11) with
 |true=>
  have:=x9.1 hl
  rw[if_pos rfl]
  rcases hh with rfl|rfl
  ·exact this
  ·exact Nat.le_refl _
 |false=>
  have:=x9.2 hl
  rw[if_neg (by simp)]
  rcases hh with rfl|rfl
  ·exact Nat.le_refl _
  ·exact this
theorem aaV(w:List Nat)(l:List Lf)(ms:List Mrk)(S:Nat){hs:Nat→Int}(hh:∀s,hs s=0∨hs s=1):(bu (oT w l ms S) 11).length≤(bu (anyS (fun s j=>ct w l ms s (hs s) j) S) 11).length:=Nr (P:=fun s j=>ct w l ms s (qA w l ms s) j) (Q:=fun s j=>ct w l ms s (hs s) j) (fun s s' j a b=>Int.ofNat_inj.1 (Ns a b)) (fun s s' j a b=>Int.ofNat_inj.1 (Ns a b)) (fun s=>aaU w l ms s (hh s)) S
def sN(nb k:Nat):Nat:=((List.range k).filter fun i=>nb.testBit i).length
theorem Nt(nb k:Nat):sN nb (k+1)=sN nb k+if nb.testBit k then 1 else 0:=by
 unfold sN;rw[List.range_succ,List.filter_append,List.length_append]
 cases h:nb.testBit k<;>simp[h]
theorem Nu(nb K:Nat):∀n,(bu (fun j=>decide (3≤j)&&(decide (j<3+K)&&nb.testBit (j - 3))) (3+n)).length≤sN nb (min n K)
 |0=>by
  rw[y8 (n:=3+0) fun j hj=>by
   have:¬3≤j:=by omega
   simp[this]]
  simp
 |n+1=>by
  have ih:=Nu nb K n
  rw[show 3+(n+1)=(3+n)+1 from rfl,lK,List.length_append]
  by_cases hn:n<K
  ·rw[show min (n+1) K=min n K+1 by omega,Nt,show min n K=n by omega] at*
   have e:3+n - 3=n:=by omega
   have e2:3+n<3+K:=by omega
   simp only[e,e2,decide_true,Bool.true_and,show 3≤3+n by omega]
   cases nb.testBit n<;>simp<;>omega
  ·have e2:¬3+n<3+K:=by omega
   rw[show min (n+1) K=min n K by omega]
   simp only[e2,decide_false,Bool.false_and,Bool.and_false]
   simpa using ih
section
variable {p:aL} (he:bh p=0) {x:cc} (hx:nL x) (nb:Nat)
include he
theorem Nv:bY p x∈cq p:=by
 have hl:=El he
 unfold bY vJ
 have hlt:(bH x.make 0).toNat%(cq p).length<(cq p).length:=Nat.mod_lt _ (by omega)
 rw[List.getD_eq_getElem?_getD,List.getElem?_eq_getElem hlt,Option.getD_some]
 exact List.getElem_mem _
include hx
theorem EH{m:Mk}(hm:eu p m):(1≤(bT p m).length∧(bT p m).length≤64)∧0≤h_ p m x∧h_ p m x≤2000∧0≤iP p m x∧iP p m x≤2000∧
  sF (codes (aY p m)) (p.aR.getD m.b_.toNat nJ) p.trim ⟨0,0,iQ (h_ p m x) (bH x.looked 0) (bH x.looked 1),⟨0,0⟩,[]⟩=false∧
  sG (codes (aY p m)) (p.aR.getD m.b_.toNat nJ) p.trim ⟨0,0,⟨0,0⟩,iQ (iP p m x) (bH x.looked 2) (bH x.looked 3),[]⟩=false:=by
 have hp:=afL he
 have hlen:=Eg hp hm
 have j3:=hm.ppr
 obtain⟨g,hg⟩:∃g:Nat,m.b_=g:=⟨m.b_.toNat,by omega⟩
 have hgl:g<p.aR.length:=by omega
 have hw:=Er (hp.wide g hgl)
 have hq:p.aR.getD m.b_.toNat nJ=p.aR[g]:=by rw[hg,Int.toNat_natCast,List.getD_eq_getElem?_getD,List.getElem?_eq_getElem hgl,Option.getD_some]
 unfold h_ iP vW sF sG qz
 rw[hq]
 generalize p.aR[g]=q at*
 have a1:=vV hw.1.2.2 (dV hx.sizes 0).1
 have a2:=vV hw.2.2.2 (dV hx.sizes 1).1
 have tr:=hp.trim
 have t2:=gm (dV hx.sizes 2).1 (show 0<p.trim+1 by omega)
 have t3:=gm (dV hx.sizes 3).1 (show 0<2*p.trim+1 by omega)
 have l0:=gm (dV hx.looked 0).1 (show(0:Int)<9 by omega)
 have l1:=gm (dV hx.looked 1).1 (show(0:Int)<9 by omega)
 have l2:=gm (dV hx.looked 2).1 (show(0:Int)<9 by omega)
 have l3:=gm (dV hx.looked 3).1 (show(0:Int)<9 by omega)
 have s1:=Nk hp hm (a:=q.wide.lo) (b:=q.high.lo) (a':=afi q.wide (bH x.sizes 0)) (b':=afi q.high (bH x.sizes 1)) (by omega) (by omega) a1.1 a2.1
 have s2:=Nk hp hm (a:=afi q.wide (bH x.sizes 0)) (b:=afi q.high (bH x.sizes 1)) (a':=q.wide.hi) (b':=q.high.hi) (by omega) (by omega) a1.2 a2.2
 have s3:=EG hp hm (a:=q.wide.lo) (b:=q.high.lo) (A:=2000) (B:=2000) (by omega) (by omega)
 have s4:=EG hp hm (a:=q.wide.hi) (b:=q.high.hi) (A:=2000) (B:=2000) (by omega) (by omega)
 generalize afi q.wide (bH x.sizes 0)=aw at*
 generalize afi q.high (bH x.sizes 1)=ah at*
 generalize dM (codes (aY p m)) aw ah=z at*
 generalize dM (codes (aY p m)) q.wide.lo q.high.lo=zl at*
 generalize dM (codes (aY p m)) q.wide.hi q.high.hi=zh at*
 generalize (bH x.sizes 2).tmod (p.trim+1)=u2 at*
 generalize (bH x.sizes 3).tmod (2*p.trim+1)=u3 at*
 unfold iQ
 generalize (bH x.looked 0).tmod 9=v0 at*
 generalize (bH x.looked 1).tmod 9=v1 at*
 generalize (bH x.looked 2).tmod 9=v2 at*
 generalize (bH x.looked 3).tmod 9=v3 at*
 have EI:max (2000:Int) 2000=2000:=by omega
 rw[EI] at s3 s4
 have m1:=sL 0 (z.1 - u2)
 have m2:=sL 0 (z.2 - u3)
 generalize mx 0 (z.1 - u2)=W at*
 generalize mx 0 (z.2 - u3)=H at*
 have m3:=sL 0 (W - v0)
 have m4:=ahh 2000 (W+v1)
 have m5:=sL 0 (H - v2)
 have m6:=ahh 2000 (H+v3)
 refine⟨by omega,by omega,by omega,by omega,by omega,?_,?_⟩
 ·have h1:zl.1 - p.trim≤mn 2000 (W+v1):=by omega
  have h2:mx 0 (W - v0)≤zh.1:=by omega
  simp[h1,h2]
 ·have h1:zl.2 - 2*p.trim≤mn 2000 (H+v3):=by omega
  have h2:mx 0 (H - v2)≤zh.2:=by omega
  simp[h1,h2]
def vX(p:aL)(x:cc)(s:Nat):Int:=(aeL x.gD (bY p x).aW.toNat).getD s 0
omit he in
theorem aaW(s:Nat):vX p x s=0∨vX p x s=1:=by
 unfold vX
 rw[List.getD_eq_getElem?_getD]
 by_cases h:s<(aeL x.gD (bY p x).aW.toNat).length
 ·rw[List.getElem?_eq_getElem h,Option.getD_some]
  have:=M3 hx.gD h
  omega
 ·rw[List.getElem?_eq_none (by omega)];exact .inl rfl
omit he hx in
theorem aaX{s:Nat}{j:Nat}(h:ct (codes (aY p (bY p x))) (bT p (bY p x)) (gF p (bY p x) x nb (ew x)) s (vX p x s) j=true):(decide (3≤j)&&(decide (j<3+ew x)&&nb.testBit (j - 3)))=true:=by
 unfold ct at h
 rw[Bool.and_eq_true] at h
 obtain⟨h3,h⟩:=h
 have yO:=of_decide_eq_true h3
 have gy:(gF p (bY p x) x nb (ew x))[j - 3]? =if j - 3<ew x then some (sM p (bY p x) x nb (j - 3)) else none:=by
  unfold gF
  rw[List.getElem?_map]
  by_cases hj:j - 3<ew x
  ·rw[List.getElem?_range hj,if_pos hj];rfl
  ·rw[List.getElem?_eq_none (by simpa using hj),if_neg hj];rfl
 rw[gy] at h
 by_cases hj:j - 3<ew x
 ·rw[if_pos hj] at h
  simp only[sM,sB,Int.toNat_natCast,Bool.and_eq_true,beq_iff_eq] at h
  obtain⟨h1,h2⟩:=h
  rw[h1,Int.toNat_natCast] at h2
  have h4:j<3+ew x:=by omega
  rw[h3,decide_eq_true h4,Bool.true_and,Bool.true_and]
  unfold vX at h2
  revert h2
  generalize kz (codes (aY p (bY p x))) ((bT p (bY p x)).getD (mG p (bY p x) x (j - 3)) mu) ((aeL x.gD (bY p x).aW.toNat).getD s 0)=u
  cases u<;>cases nb.testBit (j - 3)<;>simp
 ·rw[if_neg hj] at h;cases h
omit hx in
theorem EJ:eu p (bY p x):=Ng he (Nv he (x:=x))
omit he in
theorem EK:ew x≤8:=by
 have:=gm (dV hx.looked 5).1 (show(0:Int)<9 by omega)
 unfold ew
 omega
theorem aaY:sD (gX p x nb):=by
 have hm:=EJ he (x:=x)
 obtain⟨f1,f2,f3,f4,f5,_,_⟩:=EH he hx hm
 have hK:=EK hx
 refine⟨?_,?_,?_,?_,fun i hi=> ?_⟩
 ·show 1≤((bT p (bY p x)).length:Int)∧((bT p (bY p x)).length:Int)≤64
  omega
 ·show 0≤oW _ _∧oW _ _≤2
  unfold oW
  split
  ·split<;>omega
  ·omega
 ·show ae3 0 2000 (iQ _ _ _) (iQ _ _ _)=0
  have l0:=gm (dV hx.looked 0).1 (show(0:Int)<9 by omega)
  have l1:=gm (dV hx.looked 1).1 (show(0:Int)<9 by omega)
  have l2:=gm (dV hx.looked 2).1 (show(0:Int)<9 by omega)
  have l3:=gm (dV hx.looked 3).1 (show(0:Int)<9 by omega)
  refine aaO ?_
  unfold iQ
  have m3:=sL 0 (h_ p (bY p x) x - (bH x.looked 0).tmod 9)
  have m4:=ahh 2000 (h_ p (bY p x) x+(bH x.looked 1).tmod 9)
  have m5:=sL 0 (iP p (bY p x) x - (bH x.looked 2).tmod 9)
  have m6:=ahh 2000 (iP p (bY p x) x+(bH x.looked 3).tmod 9)
  simp only
  omega
 ·show(gF _ _ _ _ _).length≤8
  rw[zg];exact hK
 ·have hi':i<ew x:=by
   have:(gX p x nb).marks.length=ew x:=zg ..
   omega
  have e:(gX p x nb).marks[i].leaf=(mG p (bY p x) x i:Int):=by
   have h0:((gF p (bY p x) x nb (ew x))[i]'(by rw[zg];exact hi')).leaf=(mG p (bY p x) x i:Int):=by simp[gF,sM]
   exact h0
  rw[e]
  have:mG p (bY p x) x i<(bT p (bY p x)).length:=Nat.mod_lt _ (by omega)
  show _∧_≤((bT p (bY p x)).length:Int) - 1
  omega
omit he hx in
theorem aaZ:mB p (bY p x) (gX p x nb)=true:=by unfold mB gX;simp
theorem aa0:(bu (ji p (bY p x) (gX p x nb)) 11).length≤sN nb (ew x):=by
 have hm:=EJ he (x:=x)
 obtain⟨_,_,_,_,_,f6,f7⟩:=EH he hx hm
 have hK:=EK hx
 have hoff:∀j,ji p (bY p x) (gX p x nb) j=oT (codes (aY p (bY p x))) (bT p (bY p x)) (gF p (bY p x) x nb (ew x)) (bY p x).aW.toNat j:=fun j=>by
  have hb:aeM (codes (aY p (bY p x))) (p.aR.getD (bY p x).b_.toNat nJ) p.trim (gX p x nb) j=false:=by
   match j with
   |0=>
    show nI _ _=false
    unfold nI
    have:(gX p x nb).chain=oW (codes (aY p (bY p x))) (bH x.looked 4):=rfl
    rw[this]
    unfold oW
    split<;>simp
   |1=>exact f6
   |2=>exact f7
   |j+3=>rfl
  unfold ji mA
  rw[hb,Bool.false_or]
  rfl
 have e:bu (ji p (bY p x) (gX p x nb)) 11=bu (oT (codes (aY p (bY p x))) (bT p (bY p x)) (gF p (bY p x) x nb (ew x)) (bY p x).aW.toNat) 11:=ahe fun j _=>hoff j
 rw[e]
 refine Nat.le_trans (aaV _ _ _ _ (aaW (p:=p) hx)) ?_
 refine Nat.le_trans (Nl (r:=fun j=>decide (3≤j)&&(decide (j<3+ew x)&&nb.testBit (j - 3))) (fun j hj=> ?_) 11) ?_
 ·obtain⟨s,_,h2⟩:=Nq.1 hj
  exact aaX nb h2
 ·have:=Nu nb (ew x) 8
  rwa [show min 8 (ew x)=ew x by omega] at this
end
end Go.Proofs.YtnncgmimhdplfaaGreat.F
namespace Go.Proofs.YtnncgmimhdplfaaGreat.F
open Go.aq
end Go.Proofs.YtnncgmimhdplfaaGreat.F
namespace Go.Proofs.YtnncgmimhdplfaaGreat.F
open Go.aq
theorem Nw(lo hi:Int):aed Tryz.prog 33 [I lo,I hi] (.agg [I lo,I hi]):=by
 refine pc t33 (by simp) fun hfit=> ?_
 simp -implicitDefEqProofs [CW,CX]
theorem lO(P:Program)(ms:List MOp)(K:St→Prop)(s:St)(d:Nat)(k k':IntKind)(a b:Int):iI P ms K s d (.lit (.int k a)) (.lit (.int k' b))=vcs P ms K (s.set d (.lit (.int k (mx a b)))):=rfl
theorem qE(P:Program)(ms:List MOp)(K:St→Prop)(s:St)(d:Nat)(k k':IntKind)(a b:Int):afy P ms K s d (.lit (.int k a)) (.lit (.int k' b))=vcs P ms K (s.set d (.lit (.int k (mn a b)))):=rfl
structure W43 (p:aL) (x:cc) (m:Mk) (nb b6 b7:Nat) (st:St):Prop where
 ne:b7≠b6
 e2:st.env 2=.lit (.int .u8 nb)
 e3:st.env 3=aem p
 e4:st.env 4=.ref x.cs
 e6:st.env 6=.au b6 0
 e7:st.env 7=.au b7 0
 e8:st.env 8=.ref m.cs
 l6:∃Z,st.loc b6=some Z∧Z.length=7
 l7:∃Z,st.loc b7=some Z∧Z.length=4
theorem aa1{p:aL}(he:bh p=0){x:cc}(hx:nL x){nb:Nat}(hnb:nb≤255):aed Tryz.prog 10 [p.av,x.av,.lit (.int .u8 nb)] (.tuple [(gX p x nb).av,(bY p x).av]):=by
 refine pc t10 (by simp) fun hfit=> ?_
 have hp:=afL he
 have hm:=EJ he (x:=x)
 have cm:aed Tryz.prog 51 [p.av,I (bH x.make 0)] (bY p x).av:=by
  have h0:=dV hx.make 0
  have:=ZS he (bH x.make 0).toNat
  rwa [Int.toNat_of_nonneg h0.1] at this
 have tm:=aha hx.make
 have ts:=aha hx.sizes
 have tl:=aha hx.looked
 unfold gX
 obtain⟨_,f2,f3,f4,f5,_,_⟩:=EH he hx hm
 generalize bY p x=m at*
 have hlen:=Eg hp hm
 obtain⟨g,hg⟩:∃g:Nat,m.b_=g:=⟨m.b_.toNat,by have:=hm.ppr;omega⟩
 have hgl:g<p.aR.length:=by have:=hm.ppr;omega
 have hw:=Er (hp.wide g hgl)
 have hq:p.aR.getD m.b_.toNat nJ=p.aR[g]:=by rw[hg,Int.toNat_natCast,List.getD_eq_getElem?_getD,List.getElem?_eq_getElem hgl,Option.getD_some]
 have EL:=No p.aR[g].wide (bH x.sizes 0) (by omega) (dV hx.sizes 0)
 have EM:=No p.aR[g].high (bH x.sizes 1) (by omega) (dV hx.sizes 1)
 have a1:=vV hw.1.2.2 (dV hx.sizes 0).1
 have a2:=vV hw.2.2.2 (dV hx.sizes 1).1
 obtain⟨aw,EN⟩:∃a,a=afi p.aR[g].wide (bH x.sizes 0):=⟨_,rfl⟩
 obtain⟨ah,EO⟩:∃a,a=afi p.aR[g].high (bH x.sizes 1):=⟨_,rfl⟩
 rw[←EN] at EL a1
 rw[←EO] at EM a2
 have c43:=aaf hp hm aw ah (by omega) (by omega)
 have s3:=EG hp hm (a:=aw) (b:=ah) (A:=2000) (B:=2000) (by omega) (by omega)
 obtain⟨Z,hZ⟩:∃Z,Z=dM (codes (aY p m)) aw ah:=⟨_,rfl⟩
 rw[←hZ] at c43 s3
 have hsz:vW p m x=Z:=by unfold vW;rw[hq,←EN,←EO,hZ]
 have hW:h_ p m x=mx 0 (Z.1 - (bH x.sizes 2).tmod (p.trim+1)):=by unfold h_;rw[hsz]
 have hH:iP p m x=mx 0 (Z.2 - (bH x.sizes 3).tmod (2*p.trim+1)):=by unfold iP;rw[hsz]
 have EI:max (2000:Int) 2000=2000:=by omega
 rw[EI] at s3
 have tr:=hp.trim
 have t2:=gm (dV hx.sizes 2).1 (show 0<p.trim+1 by omega)
 have t3:=gm (dV hx.sizes 3).1 (show 0<2*p.trim+1 by omega)
 obtain⟨z1,z2⟩:=Z
 simp only at c43 s3 hW hH
 clear hZ hsz EN EO
 unfold Jv
 refine bX (fun st=>∃b6 b7,b7≠b6∧st.env 2=.lit (.int .u8 nb)∧st.env 3=aem p∧st.env 4=.ref x.cs∧st.env 6=.au b6 0∧st.env 7=.au b7 0∧(∃Z,st.loc b6=some Z∧Z.length=7)∧(∃Z,st.loc b7=some Z∧Z.length=4)) (fun k hk=> ?_) ?_
 ·simp -implicitDefEqProofs
  intro b6 b7 hne
  exact hk _ ⟨b6,b7,hne,by simp,by simp,by simp,by simp,by simp,⟨_,by simp[Ne.symm hne];rfl,rfl⟩,⟨_,by simp;rfl,rfl⟩⟩
 rintro st ⟨b6,b7,hne,e2,e3,e4,e6,e7,⟨Z6,l6,h6⟩,⟨Z7,l7,h7⟩⟩
 refine bX (W43 p x m nb b6 b7) (fun k hk=> ?_) ?_
 ·simp -implicitDefEqProofs [e3,e4]
  refine aj (tm 0) ?_
  simp -implicitDefEqProofs
  refine aj cm ?_
  simp -implicitDefEqProofs
  intro b8 n8
  have sO:¬b8=b6:=fun e=>by rw[e,l6] at n8;cases n8
  have qF:¬b8=b7:=fun e=>by rw[e,l7] at n8;cases n8
  exact hk _ ⟨hne,by simp[e2],by simp[e3],by simp[e4],by simp[e6],by simp[e7],by simp,⟨_,by simp[sO,Ne.symm sO,l6],h6⟩,⟨_,by simp[qF,Ne.symm qF,l7],h7⟩⟩
 clear e2 e3 e4 e6 e7 l6 l7 h6 h7
 rintro st ⟨hne,e2,e3,e4,e6,e7,e8,⟨Z6,l6,h6⟩,⟨Z7,l7,h7⟩⟩
 refine bX (fun st=>W43 p x m nb b6 b7 st∧st.env 9=.ref p.aR[g].cs) (fun k hk=> ?_) ?_
 ·have kB:(0:Int)≤m.b_:=by omega
  have p0:m.b_<(p.aR.length:Int):=by omega
  have hg2:m.b_.toNat=g:=by omega
  simp -implicitDefEqProofs [e3,e8,kB,p0,hg2,hgl]
  intro b9 n9
  have n96:¬b9=b6:=fun e=>by rw[e,l6] at n9;cases n9
  have Ny:¬b9=b7:=fun e=>by rw[e,l7] at n9;cases n9
  exact hk _ ⟨⟨hne,by simp[e2],by simp[e3],by simp[e4],by simp[e6],by simp[e7],by simp[e8],⟨_,by simp[n96,Ne.symm n96,l6],h6⟩,⟨_,by simp[Ny,Ne.symm Ny,l7],h7⟩⟩,by simp⟩
 clear e2 e3 e4 e6 e7 e8 l6 l7 h6 h7
 rintro st ⟨⟨hne,e2,e3,e4,e6,e7,e8,⟨Z6,l6,h6⟩,⟨Z7,l7,h7⟩⟩,e9⟩
 refine bX (fun st=>W43 p x m nb b6 b7 st∧st.env 10=I z1∧st.env 11=I z2) (fun k hk=> ?_) ?_
 ·simp -implicitDefEqProofs [e3,e4,e8,e9]
  refine aj (ts 0) ?_
  simp -implicitDefEqProofs [e3,e4,e8,e9]
  refine aj EL ?_
  simp -implicitDefEqProofs [e3,e4,e8,e9]
  refine aj (ts 1) ?_
  simp -implicitDefEqProofs [e3,e4,e8,e9]
  refine aj EM ?_
  simp -implicitDefEqProofs [e3,e4,e8,e9]
  refine aj c43 ?_
  simp -implicitDefEqProofs
  exact hk _ ⟨⟨hne,by simp[e2],by simp[e3],by simp[e4],by simp[e6],by simp[e7],by simp[e8],⟨_,by simp[l6],h6⟩,⟨_,by simp[l7],h7⟩⟩,by simp,by simp⟩
 clear e2 e3 e4 e6 e7 e8 e9 l6 l7 h6 h7
 rintro st ⟨⟨hne,e2,e3,e4,e6,e7,e8,⟨Z6,l6,h6⟩,⟨Z7,l7,h7⟩⟩,bC,bf⟩
 refine bX (fun st=>W43 p x m nb b6 b7 st∧st.env 10=I (h_ p m x)∧st.env 11=I z2) (fun k hk=> ?_) ?_
 ·rw[hW] at*
  have r0:¬p.trim+1=0:=by omega
  simp -implicitDefEqProofs [e3,e4,bC,-iI,lO]
  refine aj (ts 2) ?_
  simp -implicitDefEqProofs [e3,e4,bC,-iI,lO,r0]
  refine⟨i64 (by omega) (by omega),i64 (by omega) (by omega),?_⟩
  exact hk _ ⟨⟨hne,by simp[e2],by simp[e3],by simp[e4],by simp[e6],by simp[e7],by simp[e8],⟨_,by simp[l6],h6⟩,⟨_,by simp[l7],h7⟩⟩,by simp,by simp[bf]⟩
 clear e2 e3 e4 e6 e7 e8 bC bf l6 l7 h6 h7 hW
 rintro st ⟨⟨hne,e2,e3,e4,e6,e7,e8,⟨Z6,l6,h6⟩,⟨Z7,l7,h7⟩⟩,bC,bf⟩
 refine bX (fun st=>W43 p x m nb b6 b7 st∧st.env 10=I (h_ p m x)∧st.env 11=I (iP p m x)) (fun k hk=> ?_) ?_
 ·rw[hH] at*
  have r0:¬2*p.trim+1=0:=by omega
  simp -implicitDefEqProofs [e3,e4,bf,-iI,lO]
  refine aj (ts 3) ?_
  simp -implicitDefEqProofs [e3,e4,bf,-iI,lO,r0]
  refine⟨i64 (by omega) (by omega),i64 (by omega) (by omega),i64 (by omega) (by omega),?_⟩
  exact hk _ ⟨⟨hne,by simp[e2],by simp[e3],by simp[e4],by simp[e6],by simp[e7],by simp[e8],⟨_,by simp[l6],h6⟩,⟨_,by simp[l7],h7⟩⟩,by simp[bC],by simp⟩
 clear e2 e3 e4 e6 e7 e8 bC bf l6 l7 h6 h7 hH t2 t3 s3 c43 EM EL a1 a2 hw
 rintro st ⟨⟨hne,e2,e3,e4,e6,e7,e8,⟨Z6,l6,h6⟩,⟨Z7,l7,h7⟩⟩,bC,bf⟩
 have Nz:=yX hp hm
 refine bX (fun st=>W43 p x m nb b6 b7 st∧st.env 10=I (h_ p m x)∧st.env 11=I (iP p m x)∧st.env 12=LL (bT p m)) (fun k hk=> ?_) ?_
 ·simp -implicitDefEqProofs [e3,e8]
  refine aj Nz ?_
  simp -implicitDefEqProofs
  exact hk _ ⟨⟨hne,by simp[e2],by simp[e3],by simp[e4],by simp[e6],by simp[e7],by simp[e8],⟨_,by simp[l6],h6⟩,⟨_,by simp[l7],h7⟩⟩,by simp[bC],by simp[bf],by simp⟩
 clear e2 e3 e4 e6 e7 e8 bC bf l6 l7 h6 h7 Nz
 rintro st ⟨⟨hne,e2,e3,e4,e6,e7,e8,⟨Z6,l6,h6⟩,⟨Z7,l7,h7⟩⟩,bC,bf,bF⟩
 have l0:=gm (dV hx.looked 0).1 (show(0:Int)<9 by omega)
 have l1:=gm (dV hx.looked 1).1 (show(0:Int)<9 by omega)
 have l2:=gm (dV hx.looked 2).1 (show(0:Int)<9 by omega)
 have l3:=gm (dV hx.looked 3).1 (show(0:Int)<9 by omega)
 refine bX (fun st=>W43 p x m nb b6 b7 st∧st.env 12=LL (bT p m)∧∃cT,cT≠b6∧cT≠b7∧st.env 13=.au cT 0∧st.loc cT=some [I (bT p m).length,I 0,I (iQ (h_ p m x) (bH x.looked 0) (bH x.looked 1)).lo,I (iQ (h_ p m x) (bH x.looked 0) (bH x.looked 1)).hi,I (iQ (iP p m x) (bH x.looked 2) (bH x.looked 3)).lo,I (iQ (iP p m x) (bH x.looked 2) (bH x.looked 3)).hi,.slice 2 [] 14006]) (fun k hk=> ?_) ?_
 ·unfold iQ at hk
  generalize h_ p m x=W at*
  generalize iP p m x=H at*
  generalize bT p m=l at*
  simp -implicitDefEqProofs [e4,bC,bF,-iI,lO,-afy,qE]
  refine aj (tl 0) ?_
  simp -implicitDefEqProofs [e4,bC,bF,-iI,lO,-afy,qE]
  refine⟨i64 (by omega) (by omega),?_⟩
  refine aj (tl 1) ?_
  simp -implicitDefEqProofs [e4,bC,bF,-iI,lO,-afy,qE]
  refine⟨i64 (by omega) (by omega),?_⟩
  refine aj (Nw _ _) ?_
  simp -implicitDefEqProofs [e4,bC,bf,bF,-iI,lO,-afy,qE]
  refine aj (tl 2) ?_
  simp -implicitDefEqProofs [e4,bC,bf,bF,-iI,lO,-afy,qE]
  refine⟨i64 (by omega) (by omega),?_⟩
  refine aj (tl 3) ?_
  simp -implicitDefEqProofs [e4,bC,bf,bF,-iI,lO,-afy,qE]
  refine⟨i64 (by omega) (by omega),?_⟩
  refine aj (Nw _ _) ?_
  simp -implicitDefEqProofs [e4,bC,bF,-iI,lO,-afy,qE]
  intro cT zi
  have n6:¬cT=b6:=fun e=>by rw[e,l6] at zi;cases zi
  have n7:¬cT=b7:=fun e=>by rw[e,l7] at zi;cases zi
  refine .inl ⟨2,6,rfl,?_⟩
  exact hk _ ⟨⟨hne,by simp[e2],by simp[e3],by simp[e4],by simp[e6],by simp[e7],by simp[e8],⟨Z6.map (aC 14006),by simp[n6,Ne.symm n6,l6],by simp[h6]⟩,⟨Z7.map (aC 14006),by simp[n7,Ne.symm n7,l7],by simp[h7]⟩⟩,by simp[bF],cT,n6,n7,by simp,by simp⟩
 clear e2 e3 e4 e6 e7 e8 bC bf bF l6 l7 h6 h7 l0 l1 l2 l3
 rintro st ⟨⟨hne,e2,e3,e4,e6,e7,e8,⟨Z6,l6,h6⟩,⟨Z7,l7,h7⟩⟩,bF,cT,n6,n7,aP,cZ⟩
 generalize iQ (h_ p m x) (bH x.looked 0) (bH x.looked 1)=sw at*
 generalize iQ (iP p m x) (bH x.looked 2) (bH x.looked 3)=sh at*
 obtain⟨g2,hg2⟩:∃g:Nat,m.format=g:=⟨m.format.toNat,by have:=hm.fmt;omega⟩
 have NA:g2<p.aX.length:=by have:=hm.fmt;omega
 have hfo:=qq hg2 NA
 have eR:=Ed hp hm
 have hla:=M8 eR.1
 obtain⟨f,hf⟩:∃f,f=aY p m:=⟨_,rfl⟩
 rw[←hf] at hla eR
 refine bX (fun st=>W43 p x m nb b6 b7 st∧st.env 12=LL (bT p m)∧st.env 13=.au cT 0∧st.loc cT=some [I (bT p m).length,I 0,I sw.lo,I sw.hi,I sh.lo,I sh.hi,.slice 2 [] 14006]∧st.env 14=S f) (fun k hk=> ?_) ?_
 ·have kB:(0:Int)≤m.format:=by omega
  have p0:m.format<(p.aX.length:Int):=by omega
  have hg3:m.format.toNat=g2:=by omega
  simp -implicitDefEqProofs [e3,e8,kB,p0,hg3,NA]
  exact hk _ ⟨⟨hne,by simp[e2],by simp[e3],by simp[e4],by simp[e6],by simp[e7],by simp[e8],⟨_,by simp[l6],h6⟩,⟨_,by simp[l7],h7⟩⟩,by simp[bF],by simp[aP],by simp[cZ],by simp[hf,hfo]⟩
 clear e2 e3 e4 e6 e7 e8 bF aP l6 l7 h6 h7 cZ
 rintro st ⟨⟨hne,e2,e3,e4,e6,e7,e8,⟨Z6,l6,h6⟩,⟨Z7,l7,h7⟩⟩,bF,aP,cZ,e14⟩
 obtain⟨ch,hch⟩:∃c,c=oW (codes f) (bH x.looked 4):=⟨_,rfl⟩
 rw[←hf,←hch]
 unfold oW at hch
 refine bX (fun st=>W43 p x m nb b6 b7 st∧st.env 12=LL (bT p m)∧st.env 13=.au cT 0∧st.loc cT=some [I (bT p m).length,I ch,I sw.lo,I sw.hi,I sh.lo,I sh.hi,.slice 2 [] 14006]) (fun k hk=> ?_) ?_
 ·simp -implicitDefEqProofs [e4]
  refine aj (tl 4) ?_
  simp -implicitDefEqProofs
  refine bA (fun h0=> ?_) (fun h0=> ?_)
  ·rw[if_pos h0] at hch
   have hlb:(f.data.toList.getD (f.size - 1) 0).toNat=(codes f).getLastD 0:=hla
   rw[List.getD_eq_getElem?_getD] at hlb
   generalize (codes f).getLastD 0=la at*
   simp at hlb
   have hq:((f.size:Int) - 1).toNat=f.size - 1:=by omega
   have hlt:f.size - 1<f.data.size:=by show _<f.size;omega
   simp -implicitDefEqProofs [aP,cZ,e14,hq,hlt]
   refine⟨i64 (by omega) (by omega),by omega,by omega,?_⟩
   rw[hlb]
   refine Nn (fun st=>W43 p x m nb b6 b7 st∧st.env 12=LL (bT p m)∧st.env 13=.au cT 0∧st.loc cT=some [I (bT p m).length,I ch,I sw.lo,I sw.hi,I sh.lo,I sh.hi,.slice 2 [] 14006]) hk (fun kk hkk hb=> ?_) (fun kk hkk hb=> ?_)
   ·have hb:la=120:=by simp at hb;exact Int.ofNat_inj.1 hb
    rw[if_pos hb] at hch
    simp -implicitDefEqProofs [aP,cZ]
    exact hkk _ ⟨⟨hne,by simp[e2],by simp[e3],by simp[e4],by simp[e6],by simp[e7],by simp[e8],⟨_,by simp[l6,n6,Ne.symm n6],h6⟩,⟨_,by simp[l7,n7,Ne.symm n7],h7⟩⟩,by simp[bF],by simp[aP],by simp[cZ,hch]⟩
   ·have hb:¬la=120:=by simp at hb;exact fun h=>hb (by rw[h];rfl)
    rw[if_neg hb] at hch
    simp -implicitDefEqProofs
    exact hkk _ ⟨⟨hne,by simp[e2],by simp[e3],by simp[e4],by simp[e6],by simp[e7],by simp[e8],⟨_,by simp[l6,n6,Ne.symm n6],h6⟩,⟨_,by simp[l7,n7,Ne.symm n7],h7⟩⟩,by simp[bF],by simp[aP],by simp[cZ,hch]⟩
  ·rw[if_neg h0] at hch
   simp -implicitDefEqProofs
   exact hk _ ⟨⟨hne,by simp[e2],by simp[e3],by simp[e4],by simp[e6],by simp[e7],by simp[e8],⟨_,by simp[l6],h6⟩,⟨_,by simp[l7],h7⟩⟩,by simp[bF],by simp[aP],by simp[cZ,hch]⟩
 clear e2 e3 e4 e6 e7 e8 bF aP e14 l6 l7 h6 h7 cZ hla eR hf hfo
 rintro st ⟨⟨hne,e2,e3,e4,e6,e7,e8,⟨Z6,l6,h6⟩,⟨Z7,l7,h7⟩⟩,bF,aP,cZ⟩
 have t5:=gm (dV hx.looked 5).1 (show(0:Int)<9 by omega)
 have aa2:(bH x.looked 5).tmod 9=(ew x:Int):=by unfold ew;omega
 have hK:=EK hx
 refine bX (fun st=>W43 p x m nb b6 b7 st∧st.env 13=.au cT 0∧st.loc cT=some [I (bT p m).length,I ch,I sw.lo,I sw.hi,I sh.lo,I sh.hi,.slice 2 ((gF p m x nb (ew x)).map Mrk.av) 14006]) (fun kk hkk=> ?_) ?_
 ·simp -implicitDefEqProofs
  refine aef (ew x) (fun k st=>W43 p x m nb b6 b7 st∧st.env 12=LL (bT p m)∧st.env 13=.au cT 0∧st.loc cT=some [I (bT p m).length,I ch,I sw.lo,I sw.hi,I sh.lo,I sh.hi,.slice 2 ((gF p m x nb k).map Mrk.av) 14006]∧st.env 15=I k) ?_ ?_
  ·exact⟨⟨hne,by simp[e2],by simp[e3],by simp[e4],by simp[e6],by simp[e7],by simp[e8],⟨_,by simp[l6],h6⟩,⟨_,by simp[l7],h7⟩⟩,by simp[bF],by simp[aP],by simp[cZ,gF],by simp⟩
  clear e2 e3 e4 e6 e7 e8 bF aP l6 l7 h6 h7 cZ
  rintro k st hk ⟨⟨hne,e2,e3,e4,e6,e7,e8,⟨Z6,l6,h6⟩,⟨Z7,l7,h7⟩⟩,bF,aP,cZ,bL⟩
  simp -implicitDefEqProofs [e4,bL]
  refine aj (tl 5) ?_
  simp -implicitDefEqProofs [aa2]
  refine bA (fun hlt=> ?_) (fun hge=> ?_)
  ·have hlt:k<ew x:=by omega
   have tl6:aed Tryz.prog 52 [US x.looked,I (6+(k:Int))] (I (bH x.looked (6+k))):=by
    have:=tl (6+k)
    rwa [show((6+k:Nat):Int)=6+(k:Int) by omega] at this
   have hlf:(bH x.looked (6+k)).tmod ((bT p m).length:Int)=(mG p m x k:Int):=by
    have h0:=dV hx.looked (6+k)
    have:=gE (bH x.looked (6+k)).toNat (bT p m).length
    rw[Int.toNat_of_nonneg h0.1] at this
    exact this
   have br:mG p m x k<(bT p m).length:=Nat.mod_lt _ (by omega)
   have c88:=aaQ hp hm (mG p m x k) br hx.gD
   have hN0:¬bT p m=[]:=fun h=>by rw[h] at hlen;simp at hlen
   have hms:=aaR p m x nb k
   have hml:=zg p m x nb k
   have mH:(((nb:Int).fdiv (2^(min k IntKind.u8.bits))).tmod 2==1)=nb.testBit k:=aaS (nb:=nb) (k:=k) (by omega)
   unfold sM at hms
   generalize gF p m x nb k=M0 at*
   generalize mG p m x k=lf at*
   generalize sB (codes (aY p m)) (bT p m) (aeL x.gD m.aW.toNat) lf=mq at*
   simp -implicitDefEqProofs [e4,bF,bL]
   refine⟨i64 (by omega) (by omega),?_⟩
   refine aj tl6 ?_
   simp -implicitDefEqProofs [e3,e4,e8,bF,aP,cZ,hlf,hN0]
   refine aj c88 ?_
   simp -implicitDefEqProofs [e2,aP,cZ,bL,mH]
   exact⟨by omega,by omega,i64 (by omega) (by omega),aQ hlt ⟨⟨hne,by simp[e2],by simp[e3],by simp[e4],by simp[e6],by simp[e7],by simp[e8],⟨_,by simp[l6,Ne.symm n6];rfl,by simp[h6]⟩,⟨_,by simp[l7,Ne.symm n7];rfl,by simp[h7]⟩⟩,by simp[bF],by simp[aP],by simp[hms,mH];try (cases mq<;>cases nb.testBit k<;>rfl),by simp⟩⟩
  ·obtain rfl:k=ew x:=by omega
   simp -implicitDefEqProofs
   exact hkk _ ⟨⟨hne,by simp[e2],by simp[e3],by simp[e4],by simp[e6],by simp[e7],by simp[e8],⟨_,by simp[l6],h6⟩,⟨_,by simp[l7],h7⟩⟩,by simp[aP],by simp[cZ]⟩
 clear e2 e3 e4 e6 e7 e8 bF aP l6 l7 h6 h7 cZ
 rintro st ⟨⟨hne,e2,e3,e4,e6,e7,e8,⟨Z6,l6,h6⟩,⟨Z7,l7,h7⟩⟩,aP,cZ⟩
 match Z6,h6,Z7,h7 with
 |[z0,z1,z2,z3,z4,z5,z6],_,[y0,y1,y2,y3],_=>
  simp -implicitDefEqProofs [e6,e7,e8,aP,cZ,l6,l7,hne,Ne.symm hne,Jw]
end Go.Proofs.YtnncgmimhdplfaaGreat.F
namespace Go.Proofs.YtnncgmimhdplfaaGreat.F
open Go.aq
theorem aa3(k:Nat):sN 0 k=0:=by
 induction k with
 |zero=>rfl
 |succ k ih=>rw[Nt,ih];simp
theorem aa4{p:aL}(he:bh p=0){x:cc}(hx:nL x):fits p (gX p x 0) (bY p x)=true:=by
 unfold fits
 rw[aaZ,Bool.true_and]
 refine EB.2 (aaC.1 ?_)
 have:=aa0 he hx 0
 rw[aa3] at this
 omega
end Go.Proofs.YtnncgmimhdplfaaGreat.F
namespace Go.Proofs.YtnncgmimhdplfaaGreat.F
open Go.aq
theorem EP:Rd Tryz.prog false 35 cc.av nL:=(Rd.struct (tot:=4) Tryz.underlying35 rfl (by kernel_rfl) (bZ.cons rfl (by kernel_rfl) oV (bZ.cons rfl (by kernel_rfl) oV (bZ.cons rfl (by kernel_rfl) oV (bZ.cons rfl (by kernel_rfl) oV bZ.nil))))).map (fun x=>⟨x.1,x.2.1,x.2.2.1,x.2.2.2.1⟩) (fun _=>rfl) (fun _ h=>⟨h.1,h.2.1,h.2.2.1,h.2.2.2.1⟩)
end Go.Proofs.YtnncgmimhdplfaaGreat.F
namespace Go.Proofs.YtnncgmimhdplfaaGreat.F
open Go.aq
theorem aa5{p:aL}(h:bh p=0){i:Nat}(hi:i<p.aR.length):∃m∈cq p,m.b_=i:=by
 have hp:=afL h
 have h1:=hp.aX
 have h3:=hp.aW
 refine⟨⟨0,i,1,false⟩,List.mem_filter.2 ⟨ahV (f:=0) (i:=i) (s:=0) (h:=0) (by omega) (by omega) (by omega) (by omega),?_⟩,rfl⟩
 unfold fO jN jM
 rw[if_neg (by simp[h]),if_neg,if_neg (by simp;omega),if_neg (by simp)]
 ·rfl
 ·simp;omega
abbrev qG(p:aL)(n:Nat):Mk:=(cq p).getD (n%(cq p).length) mk0
theorem aa6{p:aL}(h:bh p=0){s:Int}(hs:0≤s∧s<p.aR.length)(n0:Nat):∃K,(∀j<K,(qG p (n0+j)).b_≠s)∧(qG p (n0+K)).b_=s∧K<(cq p).length:=by
 obtain⟨m,hm,hms⟩:=aa5 h (i:=s.toNat) (by omega)
 obtain⟨q,hq,rfl⟩:=List.mem_iff_getElem.1 hm
 obtain⟨L,hL⟩:∃L,L=(cq p).length:=⟨_,rfl⟩
 have hmod:=Nat.mod_lt n0 (y:=L) (by omega)
 have e:(n0+(q+L - n0%L)%L)%L=q:=by
  have hd:=Nat.div_add_mod n0 L
  have e2:n0+(q+L - n0%L)=q+L*(n0 / L+1):=by rw[Nat.mul_add];omega
  rw[Nat.add_mod_mod,e2,Nat.add_mul_mod_self_left,Nat.mod_eq_of_lt (by omega)]
 cases hf:(List.range L).find? fun k=>(qG p (n0+k)).b_==s with
 |none=>
  have:=List.find?_eq_none.1 hf ((q+L - n0%L)%L) (List.mem_range.2 (Nat.mod_lt _ (by omega)))
  refine(this ?_).elim
  unfold qG
  rw[←hL,e,List.getD_eq_getElem?_getD,List.getElem?_eq_getElem (by omega),beq_iff_eq]
  show(cq p)[q].b_=s
  rw[hms];omega
 |some K=>
  rw[List.find?_range_eq_some] at hf
  obtain⟨h1,h2,h3⟩:=hf
  refine⟨K,fun j hj=> ?_,by simpa using h1,by have:=List.mem_range.1 h2;omega⟩
  simpa using h3 j hj
def iR(l:List Mk)(k:Nat):List Int:=(l.take k).foldl (fun acc m=>if m.b_∈acc then acc else acc++[m.b_]) []
theorem ER{l:List Mk}{k:Nat}(h:k<l.length):iR l (k+1)=if l[k].b_∈iR l k then iR l k else iR l k++[l[k].b_]:=by
 unfold iR
 rw[ael h,List.foldl_append];rfl
theorem NB{l:List Mk}:∀k,k≤l.length→(iR l k).length≤k
 |0,_=>by simp[iR]
 |k+1,h=>by
  have:=NB (l:=l) k (by omega)
  rw[ER (l:=l) (k:=k) (by omega)]
  split
  ·omega
  ·simp;omega
theorem NC{l:List Mk}:∀k,k≤l.length→∀j,(hj:j<k)→(hl:j<l.length)→l[j].b_∈iR l k
 |k+1,h,j,hj,hl=>by
  have ih:=NC (l:=l) k (by omega) j
  rw[ER (l:=l) (k:=k) (by omega)]
  rcases Nat.lt_succ_iff_lt_or_eq.1 hj with hj|rfl
  ·split
   ·exact ih hj hl
   ·exact List.mem_append_left _ (ih hj hl)
  ·split
   ·assumption
   ·simp
theorem aa7{p:aL}(y:cc){n:Nat}(hn:n<(cq p).length):bY p {y with make:=[(n:Int)]}=qG p n:=by
 show vJ p (bH [(n:Int)] 0).toNat=_
 have:bH [(n:Int)] 0=n:=by simp[bH]
 rw[this];rfl
theorem aa8(p:aL)(b:cN):(qC p b).length≤(cq p).length:=List.length_filter_le _ _
theorem aa9{p:aL}(he:bh p=0){x:cc}(hx:nL x):sK p (gX p x 0)=(qC p (gX p x 0),0)∧bY p x∈qC p (gX p x 0):=by
 have hB:=aaN he (aaY he hx 0)
 refine⟨by unfold sK;rw[if_neg (not_not_intro hB)],List.mem_filter.2 ⟨Nv he,aa4 he hx⟩⟩
end Go.Proofs.YtnncgmimhdplfaaGreat.F
