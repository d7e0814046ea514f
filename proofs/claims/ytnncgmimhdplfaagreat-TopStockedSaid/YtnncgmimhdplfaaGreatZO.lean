/- Contracts: what gatherings are seen with, and the stocks of places, as bits in arrays. Contracts: all piles, handed over one by one: the program's iterator. Contracts: all orders, handed over one by one, each of them lent: the program's iterator. Contracts: all truths that agree, handed over one by one: the program's iterator. Contracts: the orders of all truths, by a map of the places. Contracts: the orders of all truths, by a map of the places: the walk. Contracts: the stocks of a gathering. Contracts: ends of numbers, and a clone of what is seen. Contracts: what the program's Orders, Before and Stocks return. Contracts: what the program's Left and Year return. Contracts: what the program's Year returns. Contracts: what the program's Wrong and Ask return. Contracts: what the program's Ask returns. -/
import Derived.Test.YtnncgmimhdplfaaGreatZN
import Derived.Test.YtnncgmimhdplfaaGreatZE
import Derived.Test.YtnncgmimhdplfaaGreatZC
namespace Go.Proofs.YtnncgmimhdplfaaGreat.P
open Go.aq
def cl(n:Nat)(F:Nat→Int):List AV:=(List.range n).map fun g=>I (F g)
theorem ef(n:Nat)(F:Nat→Int):(cl n F).length=n:=by simp[cl]
theorem kF{n g:Nat}(F:Nat→Int)(h:g<(cl n F).length):(cl n F)[g]=I (F g):=by simp[cl]
theorem zv(n g:Nat)(F:Nat→Int)(v:Int):(cl n F).set g (I v)=cl n fun j=>if j=g then v else F j:=by
 apply List.ext_getElem?
 intro j
 simp only[List.getElem?_set,cl,List.getElem?_map,List.length_map,List.length_range]
 by_cases hj:g=j
 ·subst hj
  by_cases hg:g<n<;>simp[hg]
 ·have:¬j=g:=fun e=>hj e.symm
  by_cases hg:j<n<;>simp[hg,hj,this]
theorem v_{n:Nat}{F G:Nat→Int}(h:∀g<n,F g=G g):cl n F=cl n G:=by
 unfold cl
 exact List.map_congr_left fun g hg=>by rw[h g (by simpa using hg)]
theorem kG(n:Nat)(F:Nat→Int):(cl n F).map AV.erase0=cl n F:=by simp[cl]
theorem nR(n:Nat)(F:Nat→Int):(cl n F).all AV.bK=true:=by
 rw[List.all_eq_true]
 intro x hx
 unfold cl at hx
 rw[List.mem_map] at hx
 obtain⟨g,_,rfl⟩:=hx
 rfl
theorem tI:∀(xs ys:List AV) (o:Nat),o+ys.length=xs.length→splice xs o ys=xs.take o++ys
 |xs,[],o,h=>by simp at h;simp[splice,h]
 |xs,y::ys,o,h=>by
  simp only[List.length_cons] at h
  rw[BR,tI _ ys (o+1) (by simp;omega)]
  have ho:o<xs.length:=by omega
  rw[List.take_set,List.take_succ_eq_append_getElem ho,List.set_append_right _ _ (by simp;omega)]
  simp[Nat.min_eq_left (Nat.le_of_lt ho)]
theorem Od(n:Nat)(F:Nat→Int):splice (cl n F) 0 (cl n F)=cl n F:=by rw[tI _ _ _ (by simp)];rfl
theorem zw(n:Nat)(F:Nat→Int):(cl n F).take n=cl n F:=List.take_of_length_le (by rw[ef];exact Nat.le_refl _)
abbrev jl(F:Nat→Nat):AV:=.agg (cl 5 fun g=>(F g:Nat))
theorem zx{k:Nat}(h:k<9):IntKind.wrap .i64 (2^(min k (IntKind.bits .i64)))=((2^k:Nat):Int):=by
 have:=abh k h
 rwa [Int.one_mul] at this
theorem abA{n i:Nat}(hn:n<256)(hi:i≤64):(cP .and .i64 (Int.fdiv (n:Int) (2^(min i (IntKind.bits .i64)))) 1==0)= !n.testBit i:=by
 have e:Int.fdiv (n:Int) (2^(min i 64))=((n / 2^i:Nat):Int):=by
  rw[Nat.min_eq_left hi,Int.fdiv_eq_ediv_of_nonneg _ (by exact Int.pow_nonneg (by omega))]
  simp
 show(cP .and .i64 (Int.fdiv (n:Int) (2^(min i 64))) 1==0)=_
 rw[e,ahc (Nat.lt_of_le_of_lt (Nat.div_le_self _ _) (by omega)),Nat.testBit_eq_decide_div_mod_eq]
 rcases Nat.mod_two_eq_zero_or_one (n / 2^i) with h|h<;>rw[h]<;>rfl
theorem Oe{c:Case}(h:c.OK){aI:Nat}(hb:aI<256):aed Tryz.prog 95 [cj c,I aI] (jl (fR c aI)):=by
 refine pc t95 (by simp) fun _=> ?_
 have hg:=h.aA
 have sS:=h.aB
 have hl8:=h.aa_
 simp -implicitDefEqProofs [KW]
 intro b
 have z:[I 0,I 0,I 0,I 0,I 0]=cl 5 fun g=>((ie c aI g 0:Nat):Int):=rfl
 refine aef c.seen.length (fun k s=>s.env 2=bn c∧s.env 1=I aI∧s.env 4=.au b 0∧s.loc b=some (cl 5 fun g=>((ie c aI g k:Nat):Int))∧s.env 9=.slice 2 (c.seen.map gG) 0∧s.env 10=I c.seen.length∧s.env 11=I k) ?_ ?_
 ·simp[←z]
 rintro k s hk ⟨e2,e1,e4,lb,e9,bC,bf⟩
 simp -implicitDefEqProofs [bC,bf]
 refine bA (fun hlt=> ?_) (fun hge=> ?_)
 ·have hlt:k<c.seen.length:=by omega
  have hx:=h.seen _ (List.getElem_mem hlt)
  simp -implicitDefEqProofs [e9,bf,hlt]
  intro b2 hb2
  have hne:b≠b2:=by rintro rfl;rw[lb] at hb2;cases hb2
  have e0:c.seen.getD k (-1,0)=c.seen[k]:=by simp[hlt]
  have w1:∀g,ie c aI g (k+1)=if aI.testBit k=false∧c.seen[k].1=g then ie c aI g k ||| 2^c.seen[k].2.toNat else ie c aI g k:=fun g=>by rw[ie,e0]
  have Fh:=fun g=>E4 h aI g (k:=k) (by omega)
  have hb0:=abA (i:=k) hb (by omega)
  generalize c.seen[k]=x at*
  obtain⟨x1,x2⟩:=x
  obtain⟨g,rfl⟩:∃g:Nat,x1=g:=⟨x1.toNat,by omega⟩
  obtain⟨t,rfl⟩:∃t:Nat,x2=t:=⟨x2.toNat,by omega⟩
  simp only at*
  have E6:g<5:=by omega
  have hsh:=zx (k:=t) (by omega)
  have t16:2^t<16:=Nat.pow_lt_pow_right (n:=4) (by omega) (by omega)
  have eY:=zk _ (Fh g) _ t16
  rw[show((2^t:Nat):Int)=(2:Int)^t by simp] at eY hsh
  have cE:=ef 5 (fun g=>((ie c aI g k:Nat):Int))
  simp -implicitDefEqProofs [e1,hb0]
  refine bR (fun mH=> ?_) (fun mH=> ?_)
  ·have mH:aI.testBit k=false:=by simpa using mH
   simp -implicitDefEqProofs [e4,lb,hne,cE,E6,hsh,eY,kF,zv,bf]
   refine⟨by omega,by omega,i64 (by omega) (by omega),aQ hlt ?_⟩
   simp[e2,e1,e4,e9,bC,w1,mH]
   refine v_ fun j _=> ?_
   by_cases hj:j=g
   ·subst hj;simp
   ·have hj':¬(g:Int)=(j:Int):=by omega
    simp[hj,hj']
  ·have mH:aI.testBit k=true:=by simpa using mH
   simp -implicitDefEqProofs [bf]
   refine⟨i64 (by omega) (by omega),aQ hlt ?_⟩
   simp[e2,e1,e4,e9,bC,lb,hne,w1,mH]
 ·obtain rfl:k=c.seen.length:=by omega
  simp -implicitDefEqProofs [e4,lb,ef,zw,kG,nR,Od,KX]
  rfl
def nS(az:List Int)(i:Nat):Int:=az.getD i 0
abbrev oZ(az:List Int):List AV:=cl 4 (nS az)
def bP(c:Case)(az:List Int)(p:Nat):Nat:=if p<c.aA.toNat then nO c az p else 0
def afk(c:Case)(az:List Int)(g i k p:Nat):Nat:=if p<g then (if p<k then aey c az p (i+1) else aey c az p i) else 0
theorem Of{c:Case}(h:c.OK){az:List Int}(hp:afj c az):aed Tryz.prog 97 [cj c,.agg (oZ az)] (jl (bP c az)):=by
 refine pc t97 (by simp) fun _=> ?_
 have sZ:=h.aA
 have sS:=h.aB
 have rN:=h.an
 have hrun:=h.run
 have hlen:=hp.len
 obtain⟨g,hg⟩:∃g:Nat,c.aA=g:=⟨c.aA.toNat,by omega⟩
 have E6:g≤5:=by omega
 have hmul:∀p:Nat,p≤5→0≤(p:Int)*c.run∧(p:Int)*c.run≤2500:=fun p E7=>⟨Int.mul_nonneg (by omega) (by omega),Int.le_trans (Int.mul_le_mul (show(p:Int)≤5 by omega) hrun.2 (by omega) (by omega)) (by omega)⟩
 have hq:bP c az=afk c az g az.length 0:=by funext p;simp[bP,afk,hg,nO]
 rw[hq]
 simp -implicitDefEqProofs [K0,ef,kG]
 intro b
 have z:[I 0,I 0,I 0,I 0,I 0]=cl 5 fun p=>((afk c az g 0 0 p:Nat):Int):=by
  have:∀p,afk c az g 0 0 p=0:=fun p=>by simp[afk,aey]
  simp only[this];rfl
 refine aef c.an.length (fun i s=>s.env 2=bn c∧s.env 3=.ref (oZ az)∧s.env 4=.au b 0∧s.loc b=some (cl 5 fun p=>((afk c az g i 0 p:Nat):Int))∧s.env 5=I (az.take i).sum∧s.env 11=.slice 3 (c.an.map ia) 0∧s.env 12=I c.an.length∧s.env 13=I i) ?_ ?_
 ·simp[←z]
 rintro i s hi ⟨e2,e3,e4,lb,e5,bf,bF,aP⟩
 simp -implicitDefEqProofs [bF,aP]
 refine bA (fun hlt=> ?_) (fun hge=> ?_)
 ·have eH:i<c.an.length:=by omega
  have hlt:i<az.length:=by omega
  have iT:=hp.sum h i
  have E9:=hp.sum h (i+1)
  have hs:(az.take i).sum+az[i]=(az.take (i+1)).sum:=by rw[ael hlt,List.sum_append];simp
  have zy:nS az i=az[i]:=by simp[nS,hlt]
  have hx:=h.nN eH
  have e0:(c.an.map cI.dA).getD i 0=c.an[i].dA:=by simp[eH]
  have w1:∀p,aey c az p (i+1)=if mJ c az p i then aey c az p i ||| 2^c.an[i].dA.toNat else aey c az p i:=fun p=>by rw[aey,e0]
  have pF:∀p:Nat,mJ c az p i=(decide ((az.take i).sum<((p:Int)+1)*c.run)&&decide ((p:Int)*c.run<(az.take (i+1)).sum)):=fun p=>by unfold mJ;rw[show az.getD i 0=az[i] from zy,hs]
  have Fh:=fun p=>ahX h az p (k:=i) (by omega)
  simp -implicitDefEqProofs [bf,aP,eH]
  intro b2 hb2
  have hne:b≠b2:=by rintro rfl;rw[lb] at hb2;cases hb2
  generalize c.an[i]=x at*
  obtain⟨x1,x2,x3⟩:=x
  simp only at*
  obtain⟨t,rfl⟩:∃t:Nat,x1=t:=⟨x1.toNat,by omega⟩
  have hsh:=zx (k:=t) (by omega)
  have t16:2^t<16:=Nat.pow_lt_pow_right (n:=4) (by omega) (by omega)
  have eY:=fun p=>zk _ (Fh p) _ t16
  rw[show((2^t:Nat):Int)=(2:Int)^t by simp] at eY hsh
  simp -implicitDefEqProofs [e2,hg]
  refine aef g (fun k s=>s.env 2=bn c∧s.env 3=.ref (oZ az)∧s.env 4=.au b 0∧s.loc b=some (cl 5 fun p=>((afk c az g i k p:Nat):Int))∧s.env 5=I (az.take i).sum∧s.env 6=I i∧s.env 7=.ref [I t,I x2,I x3]∧s.env 11=.slice 3 (c.an.map ia) 0∧s.env 12=I c.an.length∧s.env 13=I i∧s.env 20=I g∧s.env 21=I k) ?_ ?_
  ·simp[e2,e3,e4,e5,bf,bF,aP,lb,hne]
  rintro k s hk ⟨e2,e3,e4,lb,e5,e6,e7,bf,bF,aP,e20,e21⟩
  simp -implicitDefEqProofs [e20,e21]
  refine bA (fun br=> ?_) (fun nA=> ?_)
  ·have br:k<g:=by omega
   have E7:=hmul k (by omega)
   have E8:=hmul (k+1) (by omega)
   have hcast:((k+1:Nat):Int)*c.run=((k:Int)+1)*c.run:=by simp
   rw[hcast] at E8
   have Fi:k<5:=by omega
   have hi4:i<4:=by omega
   have hmk:afk c az g i k k=aey c az k i:=by simp[afk,br]
   have hstep:∀v:Nat,aey c az k (i+1)=v→(cl 5 fun p=>((afk c az g i (k+1) p:Nat):Int))=cl 5 fun p=>if p=k then (v:Int) else ((afk c az g i k p:Nat):Int):=fun v hv=>v_ fun p _=>by
    by_cases hpk:p=k
    ·subst hpk;simp[afk,br,hv]
    ·have:(p<k+1)=(p<k):=by simp;omega
     simp[afk,hpk,this]
   have hsame:aey c az k (i+1)=aey c az k i→(cl 5 fun p=>((afk c az g i (k+1) p:Nat):Int))=cl 5 fun p=>((afk c az g i k p:Nat):Int):=fun hv=>by
    rw[hstep _ hv]
    exact v_ fun p _=>by
     by_cases hpk:p=k
     ·subst hpk;simp[hmk]
     ·simp[hpk]
   have pF:=pF k
   have w1:=w1 k
   rw[pF] at w1
   by_cases hab:(az.take i).sum<((k:Int)+1)*c.run
   ·by_cases zz:(k:Int)*c.run<(az.take (i+1)).sum
    ·have w1:aey c az k (i+1)=aey c az k i ||| 2^t:=by rw[w1,if_pos (by simp[hab,zz])];rfl
     simp -implicitDefEqProofs [e21]
     simp -implicitDefEqProofs [e2,e3,e4,e5,e6,e7,e21,lb,hab,zz,hi4,Fi,kF,ef,zy,hs,zv,hmk,hsh,eY]
     refine⟨i64 (by omega) (by omega),i64 (by omega) (by omega),by omega,by omega,i64 (by omega) (by omega),i64 (by omega) (by omega),by omega,by omega,i64 (by omega) (by omega),aQ br ?_⟩
     simp[e2,e3,e4,e5,e6,e7,bf,bF,aP,e20,hstep _ w1]
    ·have w1:aey c az k (i+1)=aey c az k i:=by rw[w1,if_neg (by simp[hab,zz])]
     simp -implicitDefEqProofs [e21]
     simp -implicitDefEqProofs [e2,e3,e5,e6,e21,hab,zz,hi4,kF,ef,zy,hs]
     refine⟨i64 (by omega) (by omega),i64 (by omega) (by omega),by omega,by omega,i64 (by omega) (by omega),i64 (by omega) (by omega),i64 (by omega) (by omega),aQ br ?_⟩
     simp[e2,e3,e4,e5,e6,e7,bf,bF,aP,e20,lb,hsame w1]
   ·have w1:aey c az k (i+1)=aey c az k i:=by rw[w1,if_neg (by simp[hab])]
    simp -implicitDefEqProofs [e21]
    simp -implicitDefEqProofs [e2,e5,e21,hab]
    refine⟨i64 (by omega) (by omega),i64 (by omega) (by omega),i64 (by omega) (by omega),aQ br ?_⟩
    simp[e2,e3,e4,e5,e6,e7,bf,bF,aP,e20,lb,hsame w1]
  ·obtain rfl:k=g:=by omega
   have hi4:i<4:=by omega
   simp -implicitDefEqProofs [e3,e5,e6,aP,hi4,kF,ef,zy,hs]
   refine⟨by omega,by omega,i64 (by omega) (by omega),i64 (by omega) (by omega),aQ eH ?_⟩
   simp[e2,e3,e4,bf,bF,lb]
   refine v_ fun p _=> ?_
   by_cases hpk:p<k<;>simp[afk,hpk]
 ·obtain rfl:i=c.an.length:=by omega
  simp -implicitDefEqProofs [e4,lb,ef,zw,kG,nR,Od,K1,hlen]
end Go.Proofs.YtnncgmimhdplfaaGreat.P
namespace Go.Proofs.YtnncgmimhdplfaaGreat.P
open Go.aq
theorem vU(a b:Nat):((a:Int).tdiv (b:Int))=((a / b:Nat):Int):=by rw[Int.tdiv_eq_ediv_of_nonneg (by omega)];rfl
theorem gE(a b:Nat):((a:Int).tmod (b:Int))=((a%b:Nat):Int):=by rw[Int.tmod_eq_emod_of_nonneg (by omega)];rfl
def fT:List cI→Nat→Nat→Nat
 |_,n,0=>n
 |[],n,_+1=>n
 |r::rs,n,i+1=>fT rs (n / r.wide) i
theorem Fj(rs:List cI)(n:Nat):fT rs n 0=n:=by cases rs<;>rfl
theorem Og:∀{rs:List cI} {n i:Nat} (h:i<rs.length),fT rs n (i+1)=fT rs n i / rs[i].wide
 |[],_,_,h=>by simp at h
 |r::rs,n,0,_=>by
  show fT rs (n / r.wide) 0=_
  rw[Fj];rfl
 |r::rs,n,i+1,h=>by
  rw[fT,Og (rs:=rs) (by simpa using h)];rfl
theorem Fk:∀(rs:List cI) (n i:Nat),fT rs n i≤n
 |[],n,i=>by cases i<;>exact Nat.le_refl _
 |r::rs,n,0=>Nat.le_refl _
 |r::rs,n,i+1=>by
  rw[fT]
  exact Nat.le_trans (Fk rs _ i) (Nat.div_le_self _ _)
theorem Fl:∀(rs:List cI) (n:Nat),(gH rs n).length=rs.length
 |[],_=>rfl
 |r::rs,n=>by simp[gH,Fl rs]
theorem Oh:∀{rs:List cI} {n i:Nat} (h:i<rs.length) (h2:i<(gH rs n).length),(gH rs n)[i]=rs[i].lo+((fT rs n i%rs[i].wide:Nat):Int)
 |[],_,_,h,_=>by simp at h
 |r::rs,n,0,_,_=>by rw[Fj];rfl
 |r::rs,n,i+1,h,h2=>by
  have:=Oh (rs:=rs) (n:=n / r.wide) (i:=i) (by simpa using h) (by rw[Fl];simpa using h)
  rw[fT]
  simpa[gH] using this
theorem Fm(r:cI):∀rs:List cI,gp (rs++[r])=gp rs*r.wide
 |[]=>by simp[gp]
 |x::rs=>by simp[gp,Fm r rs,Nat.mul_assoc]
theorem Oi{c:Case}(h:c.OK):∀i,i≤c.an.length→gp (c.an.take i)≤3^i
 |0,_=>by simp[gp]
 |i+1,hi=>by
  have h1:=Oi h i (by omega)
  have h2:=sQ h (show i<c.an.length by omega)
  rw[ael (by omega),Fm,Nat.pow_succ]
  exact Nat.mul_le_mul h1 h2.2.1
theorem Fo{c:Case}(h:c.OK){i:Nat}(hi:i≤c.an.length):gp (c.an.take i)≤81:=Nat.le_trans (Oi h i hi) (Nat.le_trans (Nat.pow_le_pow_right (by omega) (show i≤4 by have:=h.an;omega)) (by decide))
theorem abB{l:List Int}{i:Nat}(h:i<l.length):oZ (l.take (i+1))=cl 4 fun j=>if j=i then l[i] else nS (l.take i) j:=by
 refine v_ fun j _=> ?_
 unfold nS
 by_cases hj:j=i
 ·subst hj;simp[h]
 ·by_cases hlt:j<i
  ·have hl:j<l.length:=by omega
   have h1:j<i+1:=by omega
   simp[hlt,hj,hl,h1]
  ·have h1:¬j<i+1:=by omega
   simp[hlt,hj,h1,List.getElem?_take]
abbrev mK(p:List Int):List AV:=[.agg (oZ p),I p.sum]
def kH(c:Case)(N n:Nat):List (List AV):=((((List.range N).drop n).map (gH c.an)).filter fun p=>decide (c.run*c.aA≤p.sum)).map mK
theorem abC{c:Case}{N n:Nat}(hn:n<N)(h:c.run*c.aA≤(gH c.an n).sum):kH c N n=mK (gH c.an n)::kH c N (n+1):=by
 unfold kH
 rw[drop_cons (l:=List.range N) (k:=n) (by simpa using hn)]
 simp[h]
theorem abD{c:Case}{N n:Nat}(hn:n<N)(h:¬c.run*c.aA≤(gH c.an n).sum):kH c N n=kH c N (n+1):=by
 unfold kH
 rw[drop_cons (l:=List.range N) (k:=n) (by simpa using hn)]
 simp[h]
theorem abE(c:Case)(N:Nat):kH c N N=[]:=by unfold kH;rw[List.drop_of_length_le (by simp)];rfl
theorem abF{c:Case}(h:c.OK){n:Nat}(hn:n<gp c.an):afj c (gH c.an n):=((ahC (fun r hr=>by have:=h.aW r hr;omega)).1 ⟨n,hn,rfl⟩).ok h
theorem Fp{c:Case}(h:c.OK):0≤c.run*c.aA∧c.run*c.aA≤2500:=by
 have h1:=h.run
 have h2:=h.aA
 exact⟨Int.mul_nonneg (by omega) (by omega),Int.le_trans (Int.mul_le_mul h1.2 h2.2 (by omega) (by omega)) (by omega)⟩
theorem Oj{c:Case}(h:c.OK):iF Tryz.prog 117 [] [bn c] ((dB c).map mK):=by
 have rN:=h.an
 have we:=Fp h
 obtain⟨N,hN⟩:∃N,N=gp c.an:=⟨_,rfl⟩
 have ad1:N≤81:=by have:=Fo h (Nat.le_refl c.an.length);rwa [List.take_length,←hN] at this
 have hm:(dB c).map mK=kH c N 0:=by rw[hN];rfl
 rw[hm]
 refine ps t117 (by simp) fun l hfit=> ?_
 simp -implicitDefEqProofs [Li]
 refine aef c.an.length (fun i s=>s.env 0=.func (.yield l) [] []∧s.env 1=bn c∧s.env 3=I (gp (c.an.take i))∧s.env 14=.slice 3 (c.an.map ia) 0∧s.env 15=I c.an.length∧s.env 16=I i∧s.env gS=.ghost l (kH c N 0) false) ?_ ?_
 ·simp[gp]
 rintro i s hi ⟨e0,e1,e3,e14,bL,e16,eg⟩
 simp only[gS] at eg
 simp -implicitDefEqProofs [bL,e16]
 refine bA (fun hlt=> ?_) (fun hge=> ?_)
 ·have hlt:i<c.an.length:=by omega
  have hw:=sQ h hlt
  have hx:=h.nN hlt
  have hs:=Fm c.an[i] (c.an.take i)
  rw[←ael hlt] at hs
  have h81:=Fo h (show i+1≤c.an.length by omega)
  have hwi:c.an[i].hi - c.an[i].lo+1=(c.an[i].wide:Int):=by omega
  have hms:(gp (c.an.take i):Int)*(c.an[i].wide:Int)=(gp (c.an.take (i+1)):Int):=by rw[hs];simp
  simp -implicitDefEqProofs [e14,e16,e3,hlt]
  intro b hb
  rw[hwi,hms]
  refine⟨i64 (by omega) (by omega),i64 (by omega) (by omega),i64 (by omega) (by omega),i64 (by omega) (by omega),aQ hlt ?_⟩
  simp[e0,e1,e14,bL,eg]
 ·obtain rfl:i=c.an.length:=by omega
  rw[List.take_length,←hN] at e3
  simp -implicitDefEqProofs [e3]
  refine aef N (fun n s=>s.env 0=.func (.yield l) [] []∧s.env 1=bn c∧s.env 31=I N∧s.env 32=I n∧s.env gS=.ghost l (kH c N n) false) ?_ ?_
  ·simp[e0,e1,eg]
  rintro n s hn ⟨e0,e1,e31,gT,eg⟩
  simp only[gS] at eg
  simp -implicitDefEqProofs [e31,gT]
  refine bA (fun hlt=> ?_) (fun hge=> ?_)
  ·have hlt:n<N:=by omega
   have hok:=abF h (n:=n) (by omega)
   have ht:=abC (c:=c) hlt
   have hf:=abD (c:=c) hlt
   obtain⟨pl,ju⟩:∃pl,pl=gH c.an n:=⟨_,rfl⟩
   rw[←ju] at hok ht hf
   have hlen:=hok.len
   simp -implicitDefEqProofs [gT,e1]
   intro b hb
   refine aef c.an.length (fun i s=>s.env 0=.func (.yield l) [] []∧s.env 1=bn c∧s.env 31=I N∧s.env 32=I n∧s.env gS=.ghost l (kH c N n) false∧s.env 6=I (fT c.an n i)∧s.env 7=.au b 0∧s.loc b=some (oZ (pl.take i))∧s.env 8=I (pl.take i).sum∧s.env 37=.slice 3 (c.an.map ia) 0∧s.env 38=I c.an.length∧s.env 39=I i) ?_ ?_
   ·have:[I 0,I 0,I 0,I 0]=oZ []:=rfl
    simp[e0,e1,e31,gT,eg,Fj,←this]
   rintro i s hi ⟨e0,e1,e31,gT,eg,e6,e7,lb,e8,gi,gj,gC⟩
   simp only[gS] at eg
   simp -implicitDefEqProofs [gj,gC]
   refine bA (fun br=> ?_) (fun nA=> ?_)
   ·have eH:i<c.an.length:=by omega
    have qK:i<pl.length:=by omega
    have hx:=h.nN eH
    have hw:=sQ h eH
    have hq:=Og (n:=n) eH
    have hg:=Oh (n:=n) eH (by rw[Fl];exact eH)
    have hg:pl[i]=c.an[i].lo+((fT c.an n i%c.an[i].wide:Nat):Int):=by rw[←hg];simp[ju]
    have qL:=Fk c.an n i
    have hst:=abB qK
    have iT:=hok.sum h i
    have E9:=hok.sum h (i+1)
    have hs:(pl.take i).sum+pl[i]=(pl.take (i+1)).sum:=by rw[ael qK,List.sum_append];simp
    have hb4:i<4:=by omega
    have hpx:=hok.each _ (List.getElem_mem qK)
    simp -implicitDefEqProofs [gi,gC,eH]
    intro b2 hb2
    have hne:b≠b2:=by rintro rfl;rw[lb] at hb2;cases hb2
    have hpf:nS (pl.take (i+1)) i=pl[i]:=by simp[nS,qK]
    generalize c.an[i].wide=W at*
    generalize pl[i]=y at*
    generalize c.an[i]=r at*
    obtain⟨r1,r2,r3⟩:=r
    simp only at*
    have hW:r3 - r2+1=(W:Int):=by omega
    have u1:=gE (fT c.an n i) W
    have u2:=vU (fT c.an n i) W
    have v1:((fT c.an n i:Nat):Int)%(W:Int)=((fT c.an n i%W:Nat):Int):=rfl
    have v2:((fT c.an n i:Nat):Int) / (W:Int)=((fT c.an n i / W:Nat):Int):=rfl
    have hW0:¬W=0:=by omega
    rw[←hq] at u2 v2
    have jW:=Fk c.an n (i+1)
    clear hq
    generalize dG:fT c.an n (i+1)=q' at*
    generalize fT c.an n i=q at*
    generalize q%W=m at*
    simp -implicitDefEqProofs [hW,e6,e7,e8,gC,lb,hne,hW0,u1,u2,ef,kF,←hg,zv,←hst,hs,hb4,hpf]
    refine⟨i64 (by omega) (by omega),i64 (by omega) (by omega),i64 (by omega) (by omega),by omega,by omega,i64 (by omega) (by omega),by omega,i64 (by omega) (by omega),i64 (by omega) (by omega),aQ eH ?_⟩
    simp[e0,e1,e7,e31,gT,eg,gi,gj,dG]
   ·obtain rfl:i=c.an.length:=by omega
    rw[←hlen,List.take_length] at e8 lb
    by_cases iT:c.run*c.aA≤pl.sum
    ·have ht:=ht iT
     rw[ht] at eg
     simp -implicitDefEqProofs [e0,e1,e7,e8,lb,gT,iT,eg,ef,zw,kG]
     refine⟨i64 (by omega) (by omega),i64 (by omega) (by omega),aQ hlt ?_⟩
     simp[e0,e1,e31]
    ·have hf:=hf iT
     rw[hf] at eg
     simp -implicitDefEqProofs [e1,e8,gT,iT]
     refine⟨i64 (by omega) (by omega),i64 (by omega) (by omega),aQ hlt ?_⟩
     simp[e0,e1,e31,eg]
  ·obtain rfl:n=N:=by omega
   rw[abE] at eg
   simp -implicitDefEqProofs [eg]
theorem Ok(c:Case):aed Tryz.prog 96 [cj c] (.func (.func 117) [] [bn c]):=by
 refine pc t96 (by simp) fun _=> ?_
 simp -implicitDefEqProofs [KY,KZ]
end Go.Proofs.YtnncgmimhdplfaaGreat.P
namespace Go.Proofs.YtnncgmimhdplfaaGreat.P
open Go.aq
@[simp] theorem ad2 (r b off len cap sz:Nat):aC r (.aV b off len cap sz)=.aV b off len cap sz:=rfl
@[simp] theorem ad3 (b off len cap sz:Nat):(AV.aV b off len cap sz).cells=[.aV b off len cap sz]:=rfl
@[simp] theorem ad4 (b off len cap sz:Nat):(AV.aV b off len cap sz).erase=.aV b off len cap sz:=rfl
@[simp] theorem ad5 (b off len cap sz:Nat):(AV.aV b off len cap sz).erase0=.aV b off len cap sz:=rfl
theorem abG(r n:Nat)(F:Nat→Int):(cl n F).map (aC r)=cl n F:=by simp[cl]
theorem abH:∀a:Nat,a<32→∀b:Nat,b<32→cP .or .i64 (a:Int) (b:Int)=((a ||| b:Nat):Int):=by decide+kernel
def afB(m k:Nat)(o:List Int)(j:Nat):List (List Int):=((((List.range m).drop j).filter fun n:Nat=> !decide ((n:Int)∈o)).map fun n:Nat=>o++[(n:Int)]).flatMap (mI m k)
theorem abI(m k:Nat)(o:List Int):afB m k o 0=mI m (k+1) o:=rfl
theorem abJ(m k:Nat)(o:List Int):afB m k o m=[]:=by unfold afB;rw[List.drop_of_length_le (by simp)];rfl
theorem abK{m k:Nat}{o:List Int}{j:Nat}(hj:j<m)(h:(j:Int)∈o):afB m k o j=afB m k o (j+1):=by
 unfold afB
 rw[drop_cons (l:=List.range m) (k:=j) (by simpa using hj)]
 simp[h]
theorem abL{m k:Nat}{o:List Int}{j:Nat}(hj:j<m)(h:¬(j:Int)∈o):afB m k o j=mI m k (o++[(j:Int)])++afB m k o (j+1):=by
 unfold afB
 rw[drop_cons (l:=List.range m) (k:=j) (by simpa using hj)]
 simp[h]
def kI(F:Nat→Int)(o:List Int):Prop:=∀i (h:i<o.length),F i=o[i]
theorem abM{F:Nat→Int}{o:List Int}{x:Int}(h:kI F o):kI (fun i=>if i=o.length then x else F i) (o++[x]):=fun i hi=>by
 by_cases he:i=o.length
 ·subst he;simp
 ·have hi':i<o.length:=by simp at hi;omega
  simp[he,h i hi',List.getElem_append_left hi']
theorem abN{F:Nat→Int}{o:List Int}{x:Int}(h:kI F (o++[x])):kI F o:=fun i hi=>by
 have:=h i (by simp;omega)
 rwa [List.getElem_append_left hi] at this
theorem abO{F:Nat→Int}{o:List Int}(h:kI F o):cl o.length F=o.map I:=by
 apply List.ext_getElem (by simp[cl])
 intro i h1 h2
 have hi:i<o.length:=by simpa using h2
 rw[kF]
 simp[h i hi]
theorem Fq:∀(n:Nat) (l:List AV),n≤l.length→(∀x∈l,∃m,x=I m)→chunk 1 l n=l.take n
 |0,l,_,_=>by simp[chunk]
 |n+1,[],h,_=>by simp at h
 |n+1,x::l,h,hx=>by
  obtain⟨m,rfl⟩:=hx x (by simp)
  have:=Fq n l (by simpa using h) (fun y hy=>hx y (by simp[hy]))
  unfold chunk
  simp[this]
abbrev wg(o:List Int):List AV:=[IL o,Go.aq.mark 0]
abbrev Fs(l B1 B2:Nat)(c:Case):AV:=.func (.func 119) [] [.au B1 0,bn c,.ref [.func (.yield l) [] []],.au B2 0]
theorem abP{g:Nat}{F:Nat→Int}{o:List Int}(h:kI F o)(hl:o.length=g)(hg:g≤5):kN (IL o) 0 1 g g (cl g F):=by
 subst hl
 refine⟨?_,by rw[ef];omega,Nat.le_refl _,by omega,nR _ _,kG _ _⟩
 rw[Fq _ _ (by rw[ef];exact Nat.le_refl _) (fun x hx=>by unfold cl at hx;rw[List.mem_map] at hx;obtain⟨i,_,rfl⟩:=hx;exact⟨_,rfl⟩),zw,abO h]
 rfl
def Ft(used:Nat)(o:List Int):Prop:=∀j:Nat,j<5→used.testBit j=decide ((j:Int)∈o)
theorem abQ{used:Nat}{o:List Int}{j:Nat}(h:Ft used o):Ft (used ||| 2^j) (o++[(j:Int)]):=fun i hi=>by
 rw[Nat.testBit_or,h i hi,Nat.testBit_two_pow]
 by_cases e:j=i
 ·subst e;simp
 ·have:¬(i:Int)=(j:Int):=by omega
  simp[e,this]
theorem Ol{c:Case}(h:c.OK){g:Nat}(hg:c.aA=g){l B1 B2 D:Nat}(h12:B1≠B2)(qM:B1≠D)(h2D:B2≠D):
  ∀(k:Nat) (o:List Int) (used:Nat) (rest:List (List Int)) (F:Nat→Int) (s:St) (K:AV→St→Prop),o.length+k=g→used<32→Ft used o→kI F o→
   s.loc B1=some [.aV D 0 o.length g 1]→s.loc B2=some [Fs l B1 B2 c]→s.loc D=some (cl g F)→s.env 1000000=.ghost l ((mI g k o++rest).map wg) false→
   (∀s2 F2,kI F2 o→s2.loc B1=some [.aV D 0 o.length g 1]→s2.loc B2=some [Fs l B1 B2 c]→s2.loc D=some (cl g F2)→s2.env 1000000=.ghost l (rest.map wg) false→K (B true) (back s s2))→
   (∀s2 r,s2.env 1000000=.ghost l r true→K (B false) (back s s2))→
   fW Tryz.prog 119 [I used,.au B1 0,bn c,.ref [.func (.yield l) [] []],.au B2 0] s K
 |0=>by
  intro o used rest F s K hlen hu Fu hF l1 l2 lD eg hK1 hK2
  have sZ:=h.aA
  refine ic t119 (by simp) fun _=> ?_
  have gM:o.length=g:=by omega
  have fU:=abP hF gM (by omega)
  simp only[mI,List.singleton_append,List.map_cons] at eg
  simp -implicitDefEqProofs [DC,l1,hg,gM,eg]
  refine⟨D,1,g,g,rfl,cl g F,lD,fU,?_,?_⟩
  ·simp -implicitDefEqProofs [fy,vg]
   exact hK1 _ F hF (by simp[l1,gM]) (by simp[l2]) (by simp[lD]) (by simp)
  ·simp -implicitDefEqProofs [fy,vg]
   exact hK2 _ (rest.map wg) (by simp)
 |k+1=>by
  intro o used rest F s K hlen hu Fu hF l1 l2 lD eg hK1 hK2
  have sZ:=h.aA
  refine ic t119 (by simp) fun _=> ?_
  have gM:((o.length:Int)==(g:Int))=false:=by simp;omega
  rw[←abI] at eg
  simp -implicitDefEqProofs [DC,l1,hg,gM]
  refine aef g (fun j s=>s.env 0=I used∧s.env 1=.au B1 0∧s.env 2=bn c∧s.env 3=.ref [.func (.yield l) [] []]∧s.env 4=.au B2 0∧s.env 19=I g∧s.env 20=I j∧s.loc B1=some [.aV D 0 o.length g 1]∧s.loc B2=some [Fs l B1 B2 c]∧(∃F,kI F o∧s.loc D=some (cl g F))∧s.env 1000000=.ghost l ((afB g k o j++rest).map wg) false) ?_ ?_
  ·have:∃F,kI F o∧s.loc D=some (cl g F):=⟨F,hF,lD⟩
   simp[l1,l2,eg,this]
  rintro j s hj ⟨e0,e1,e2,e3,e4,dL,e20,l1,l2,⟨F,hF,lD⟩,eg⟩
  simp -implicitDefEqProofs [dL,e20]
  refine bA (fun hlt=> ?_) (fun hge=> ?_)
  ·have hlt:j<g:=by omega
   have hb:=ahd (n:=used) (i:=j) (by omega)
   have hb:(cP .and .i64 (Int.fdiv (used:Int) (2^(min j (IntKind.bits .i64)))) 1==1)=used.testBit j:=hb.resolve_right (by omega)
   simp -implicitDefEqProofs [e0,e20]
   rw[hb,Fu j (by omega)]
   refine bR (fun hin=> ?_) (fun hin=> ?_)
   ·have hin:(j:Int)∈o:=by simpa using hin
    rw[abK hlt hin] at eg
    simp -implicitDefEqProofs [e20]
    refine⟨i64 (by omega) (by omega),aQ hlt ?_⟩
    have:∃F,kI F o∧s.loc D=some (cl g F):=⟨F,hF,lD⟩
    simp[e0,e1,e2,e3,e4,dL,l1,l2,eg,this]
   ·have hin:¬(j:Int)∈o:=by simpa using hin
    rw[abL hlt hin] at eg
    have hog:o.length+1≤g:=by omega
    have hsh:=zx (k:=j) (by omega)
    have Om:2^j<32:=Nat.pow_lt_pow_right (n:=5) (by omega) (by omega)
    have eY:=abH used hu (2^j) Om
    rw[show((2^j:Nat):Int)=(2:Int)^j by simp] at eY hsh
    simp -implicitDefEqProofs [e0,e1,e4,l1,l2,lD,qM,h12.symm,h2D,hog,abG,ef,zv,hsh,eY]
    rw[List.append_assoc] at eg
    refine Ol h hg h12 qM h2D k (o++[(j:Int)]) (used ||| 2^j) (afB g k o (j+1)++rest) _ _ _ (by simp;omega) (Nat.or_lt_two_pow (n:=5) hu Om) (abQ Fu) (abM hF) (by simp) (by simp[l2,h12.symm,h2D]) (by simp[qM.symm]) (by simp[eg]) ?_ ?_
    ·intro s2 F2 hF2 k1 k2 kD kg
     simp -implicitDefEqProofs [e1,e20,k1]
     refine⟨i64 (by omega) (by omega),by omega,i64 (by omega) (by omega),aQ hlt ?_⟩
     have:∃F,kI F o∧cl g F2=cl g F:=⟨F2,abN hF2,rfl⟩
     simp[e0,e1,e2,e3,e4,dL,k2,kD,kg,h12.symm,qM.symm,this]
    ·intro s2 r kg
     simp -implicitDefEqProofs [fy,vg]
     exact hK2 _ r (by simp[kg])
  ·obtain rfl:j=g:=by omega
   rw[abJ] at eg
   simp -implicitDefEqProofs [fy,vg]
   exact hK1 _ F hF (by simp[l1]) (by simp[l2]) (by simp[lD]) (by simpa using eg)
theorem abR(n:Nat):List.replicate n (I 0)=cl n fun _=>0:=by
 apply List.ext_getElem (by simp[cl])
 intro i h1 h2
 rw[kF];simp
abbrev bM(c:Case):List (List Int):=aeN c.aA.toNat c.aA.toNat
theorem On{c:Case}(h:c.OK):iF Tryz.prog 118 [] [bn c] ((bM c).map wg):=by
 have sZ:=h.aA
 obtain⟨g,hg⟩:∃g:Nat,c.aA=g:=⟨c.aA.toNat,by omega⟩
 have afR:bM c=mI g g []++[]:=by unfold bM;rw[hg,List.append_nil,abb];rfl
 rw[afR]
 refine ps t118 (by simp) fun l hfit=> ?_
 simp -implicitDefEqProofs [Lj,hg]
 refine⟨by omega,by omega,?_⟩
 intro D B1 qM B2 h2
 have h21:¬B2=B1:=by rintro rfl;simp at h2
 have h2D:¬B2=D:=by rintro rfl;simp[h21] at h2
 refine Ol h hg (B1:=B1) (B2:=B2) (D:=D) (fun e=>h21 e.symm) qM h2D g [] 0 [] (fun _=>0) _ _ (by simp) (by omega) (fun j _=>by simp) (fun i hi=>by simp at hi) ?_ ?_ ?_ ?_ ?_ ?_
 ·have:¬B1=B2:=fun e=>h21 e.symm
  simp[this]
 ·simp
 ·have h3:¬D=B1:=fun e=>qM e.symm
  have h4:¬D=B2:=fun e=>h2D e.symm
  simp[h3,h4,abR]
 ·simp
 ·intro s2 F2 _ _ _ _ kg
  simp[kg]
 ·intro s2 r kg
  simp[kg]
theorem Oo(c:Case):aed Tryz.prog 98 [cj c] (.func (.func 118) [] [bn c]):=by
 refine pc t98 (by simp) fun _=> ?_
 simp -implicitDefEqProofs [K2,K3]
end Go.Proofs.YtnncgmimhdplfaaGreat.P
namespace Go.Proofs.YtnncgmimhdplfaaGreat.P
open Go.aq
@[simp] theorem ad6 (s:St) (d b o l c z:Nat):fh s d (.aV b o l c z)=s.set d (.aV b o l c z):=rfl
theorem ae2(sz:Nat):∀(n:Nat) (cs:List AV),(chunk sz cs n).length=n
 |0,_=>rfl
 |n+1,cs=>by unfold chunk;simp[ae2 sz n]
theorem Oq:∀(n:Nat) (cs:List AV) (i:Nat) (h:i<(chunk 1 cs n).length),(chunk 1 cs n)[i]=(cs.getD i .any).erase0
 |0,_,_,h=>by simp[chunk] at h
 |n+1,cs,0,h=>by simp[chunk]
 |n+1,cs,i+1,h=>by
  have:=Oq n (cs.drop 1) i (by simpa[chunk] using h)
  simp only[chunk,if_pos,List.getElem_cons_succ,this]
  congr 1
  simp
theorem Ot{x:AV}{o:List Int}{pos sz len cap:Nat}{cs:List AV}(hx:wL x pos=IL o)(h:kN x pos sz len cap cs):sz=1∧len=o.length∧o.length≤cs.length∧len≤cap∧∀i (hi:i<o.length),cs.getD i .any=I o[i]:=by
 obtain⟨h1,h2,h3,h4,h5,h6⟩:=h
 rw[hx] at h1
 injection h1 with e1 e2 e3
 subst e1
 have hl:o.length=len:=by have:=congrArg List.length e2;simpa[ae2] using this
 subst hl
 have h2:o.length≤cs.length:=by omega
 refine⟨rfl,rfl,h2,h3,fun i hi=> ?_⟩
 have hc:=Oq o.length cs i (by rw[ae2];exact hi)
 have hic:i<cs.length:=by omega
 have e6:(cs.getD i .any).erase0=cs.getD i .any:=by
  have:=congrArg (fun l=>l.getD i .any) h6
  simpa[hic] using this
 rw[←e6,←hc]
 have:(chunk 1 cs o.length)[i]'(by rw[ae2];exact hi)=(o.map I)[i]'(by simpa using hi):=by simp only[←e2]
 rw[this];simp
abbrev ij(c:Case)(p o:List Int):AV:=.agg (I p.sum::I (used p 0 (c.run*c.aA))::I (bP c p 0)::I (bP c p 1)::I (bP c p 2)::I (bP c p 3)::I (bP c p 4)::[IL o])
def jm(c:Case)(aI:Nat)(p:List Int)(l:List (List Int)):List AV:=(l.filter (jS c aI p)).map (ij c p)
def qN(c:Case)(aI:Nat)(l:List (List Int)):List AV:=l.flatMap fun p=>jm c aI p (bM c)
abbrev wh(x:AV):List AV:=[x,Go.aq.mark 8]
theorem abS(c:Case)(aI:Nat)(p:List Int)(l:List (List Int)):qN c aI (p::l)=jm c aI p (bM c)++qN c aI l:=rfl
theorem abT{c:Case}{aI:Nat}{p o:List Int}{l:List (List Int)}(h:jS c aI p o=true):jm c aI p (o::l)=ij c p o::jm c aI p l:=by simp[jm,h]
theorem abU{c:Case}{aI:Nat}{p o:List Int}{l:List (List Int)}(h:jS c aI p o=false):jm c aI p (o::l)=jm c aI p l:=by simp[jm,h]
theorem zA{c:Case}(h:c.OK){p:List Int}(hp:afj c p)(k:Nat):bP c p k<16:=by
 unfold bP
 split
 ·exact abe h hp k
 ·omega
theorem zB{c:Case}(h:c.OK){aI:Nat}(hb:aI<256):iF Tryz.prog 109 [] [bn c,.ref [I aI]] ((qN c aI (dB c)).map wh):=by
 have sZ:=h.aA
 have rN:=h.an
 have we:=Fp h
 obtain⟨g,hg⟩:∃g:Nat,c.aA=g:=⟨c.aA.toNat,by omega⟩
 have hw:=Oe h hb
 refine ps t109 (by simp) fun l hfit=> ?_
 simp -implicitDefEqProofs [Lb]
 refine aj hw ?_
 simp -implicitDefEqProofs [ef,nR,kG]
 intro b4
 refine aj (Ok c) ?_
 simp -implicitDefEqProofs
 refine xS _ (fun k s=>s.env 1=bn c∧s.env 2=.ref [I aI]∧s.env 3=.ref [.func (.yield l) [] []]∧s.env 4=.ref (cl 5 fun g=>(fR c aI g:Nat))∧s.env 1000000=.ghost l ((qN c aI ((dB c).drop k)).map wh) false) (Oj h) ?_ ?_ ?_ ?_
 ·intro y hy
  rw[List.mem_map] at hy
  obtain⟨p,_,rfl⟩:=hy
  exact⟨rfl,rfl⟩
 ·simp
 ·rintro k st hk - ⟨e1,e2,e3,e4,eg⟩
  have hk:k<(dB c).length:=by simpa using hk
  have hp:=oY h ((vY h).1 (List.getElem_mem hk))
  rw[drop_cons hk,abS] at eg
  rw[show((dB c).map mK).getD k []=mK (dB c)[k] by simp[hk]]
  generalize (dB c)[k]=p at*
  generalize aeA:qN c aI ((dB c).drop (k+1))=rest at*
  have Fv:=Of h hp
  simp -implicitDefEqProofs [ef,nR,kG]
  intro b5 h5 b6 h6
  simp -implicitDefEqProofs [e1]
  refine aj Fv ?_
  simp -implicitDefEqProofs [ef,nR,kG]
  intro b7 h7 b8 h8
  simp -implicitDefEqProofs [e1]
  have hlen:=hp.len
  refine aef c.an.length (fun i s=>s.env 1=bn c∧s.env 2=.ref [I aI]∧s.env 3=.ref [.func (.yield l) [] []]∧s.env 4=.ref (cl 5 fun g=>(fR c aI g:Nat))∧
   s.env 5=.ref (oZ p)∧s.env 6=.ref [I p.sum]∧s.env 7=.ref (cl 5 fun g=>(bP c p g:Nat))∧s.env 8=.au b8 0∧s.loc b8=some [I (used (p.take i) 0 (c.run*c.aA))]∧s.env 9=I (p.take i).sum∧
   s.env 26=.slice 3 (c.an.map ia) 0∧s.env 27=I c.an.length∧s.env 28=I i∧s.env 1000000=.ghost l ((jm c aI p (bM c)++rest).map wh) false) ?_ ?_
  ·simp[e1,e2,e3,e4,eg,used]
  rintro i s hi ⟨e1,e2,e3,e4,e5,e6,e7,e8,l8,e9,lJ,fC,fD,eg⟩
  simp -implicitDefEqProofs [fC,fD]
  refine bA (fun hlt=> ?_) (fun hge=> ?_)
  ·have eH:i<c.an.length:=by omega
   have hip:i<p.length:=by omega
   have iT:=hp.sum h i
   have E9:=hp.sum h (i+1)
   have hs:(p.take i).sum+p[i]=(p.take (i+1)).sum:=by rw[ael hip,List.sum_append];simp
   have hpf:nS p i=p[i]:=by simp[nS,hip]
   have hu:=NY p[i] (p.take i) 0 (c.run*c.aA)
   rw[←ael hip,Int.zero_add] at hu
   have wX:=NZ (p.take i) 0 (c.run*c.aA)
   have hl4:(p.take i).length≤4:=by simp;omega
   have hi4:i<4:=by omega
   have xw:=h.run
   by_cases hab:(p.take i).sum<c.run*c.aA
   ·rw[if_pos hab] at hu
    simp -implicitDefEqProofs [e1,e5,e8,e9,fD,l8,hab,hi4,ef,kF,hpf,hs]
    refine⟨i64 (by omega) (by omega),i64 (by omega) (by omega),by omega,by omega,i64 (by omega) (by omega),i64 (by omega) (by omega),aQ eH ?_⟩
    simp[e1,e2,e3,e4,e5,e6,e7,e8,lJ,fC,eg,hu]
   ·rw[if_neg hab,Int.add_zero] at hu
    simp -implicitDefEqProofs [e1,e5,e9,fD,hab,hi4,ef,kF,hpf,hs]
    refine⟨i64 (by omega) (by omega),by omega,by omega,i64 (by omega) (by omega),i64 (by omega) (by omega),aQ eH ?_⟩
    simp[e1,e2,e3,e4,e5,e6,e7,e8,lJ,fC,eg,hu,l8]
  ·obtain rfl:i=c.an.length:=by omega
   rw[←hlen,List.take_length] at l8
   have q1:=e1;have q2:=e2;have q3:=e3;have q4:=e4;have q6:=e6;have q7:=e7;have q8:=e8
   simp -implicitDefEqProofs [e1]
   refine aj (Oo c) ?_
   simp -implicitDefEqProofs
   refine rP ((bM c).map IL) (fun j s=>s.env 1=bn c∧s.env 2=.ref [I aI]∧s.env 3=.ref [.func (.yield l) [] []]∧s.env 4=.ref (cl 5 fun g=>(fR c aI g:Nat))∧
    s.env 6=.ref [I p.sum]∧s.env 7=.ref (cl 5 fun g=>(bP c p g:Nat))∧s.env 8=.au b8 0∧s.loc b8=some [I (used p 0 (c.run*c.aA))]∧
    s.env 1000000=.ghost l ((jm c aI p ((bM c).drop j)++rest).map wh) false) ?_ ?_ ?_ ?_
   ·have:=On h
    rw[List.map_map]
    exact this
   ·simp[e1,e2,e3,e4,e6,e7,e8,l8,eg]
   ·rintro j Fx hj - ⟨e1,e2,e3,e4,e6,e7,e8,l8,eg⟩ d sz len cap cs hd fU
    have hj:j<(bM c).length:=by simpa using hj
    have mL:=kE _ _ _ (List.getElem_mem hj)
    rw[drop_cons hj] at eg
    rw[show((bM c).map IL).getD j .any=IL (bM c)[j] by simp[hj]] at fU⊢
    generalize (bM c)[j]=o at*
    obtain⟨rfl,rfl,hcs,hcap,gd⟩:=Ot rfl fU
    have hbd:¬b8=d:=by rintro rfl;rw[l8] at hd;cases hd
    have v8:c.aA.toNat=g:=by omega
    rw[v8] at mL
    have gM:=mL.1
    obtain⟨L,hL⟩:∃L,L=jm c aI p ((bM c).drop (j+1)):=⟨_,rfl⟩
    have ht:=abT (c:=c) (aI:=aI) (p:=p) (o:=o) (l:=(bM c).drop (j+1))
    have hf:=abU (c:=c) (aI:=aI) (p:=p) (o:=o) (l:=(bM c).drop (j+1))
    rw[←hL] at ht hf
    simp -implicitDefEqProofs [putAt]
    refine aef o.length (fun i s=>s.env 1=bn c∧s.env 2=.ref [I aI]∧s.env 3=.ref [.func (.yield l) [] []]∧s.env 4=.ref (cl 5 fun g=>(fR c aI g:Nat))∧
     s.env 6=.ref [I p.sum]∧s.env 7=.ref (cl 5 fun g=>(bP c p g:Nat))∧s.env 8=.au b8 0∧s.loc b8=some [I (used p 0 (c.run*c.aA))]∧s.loc d=some cs∧
     s.env 11=.aV d 0 o.length cap 1∧s.env 51=.aV d 0 o.length cap 1∧s.env 52=I o.length∧s.env 53=I i∧nP c aI p o i=true∧
     s.env 1000000=.ghost l ((jm c aI p (o::(bM c).drop (j+1))++rest).map wh) false) ?_ ?_
    ·simp[e1,e2,e3,e4,e6,e7,e8,l8,hbd,eg,nP]
    rintro i s hi ⟨e1,e2,e3,e4,e6,e7,e8,l8,ld,bf,vC,vD,sq,Ou,eg⟩
    simp -implicitDefEqProofs [vD,sq]
    refine bA (fun hlt=> ?_) (fun hge=> ?_)
    ·have hlt:i<o.length:=by omega
     have hx:=mL.2.2 _ (List.getElem_mem hlt)
     have hai:=gd i hlt
     have hic:i<cs.length:=by omega
     have hai:cs[i]=I o[i]:=by rw[←hai];simp[hic]
     have eR:=abi c aI p o i
     have jR:=abj (c:=c) (aI:=aI) (az:=p) (order:=o) hlt
     have h0:o.getD i 0=o[i]:=by simp[hlt]
     rw[h0] at eR jR
     have hmq:nO c p i=bP c p i:=by unfold bP;rw[if_pos (by omega)]
     rw[hmq] at eR jR
     generalize o[i]=x at*
     obtain⟨gx,rfl⟩:∃gx:Nat,x=gx:=⟨x.toNat,by omega⟩
     rw[Int.toNat_natCast] at eR jR
     have Fy:gx<5:=by omega
     have hi5:i<5:=by omega
     have Fz:=NS _ (zj h aI gx) _ (zA h hp i)
     have hne:(cP .andNot .i64 (fR c aI gx:Nat) (bP c p i:Nat) != 0)= !lP (fR c aI gx) (bP c p i):=by rw[←Fz];rfl
     simp -implicitDefEqProofs [e4,e7,vC,sq,ld,hlt,hic,hai,Fy,hi5,ef,kF,hne]
     refine⟨by omega,by omega,by omega,by omega,?_⟩
     refine bR (fun kY=> ?_) (fun kY=> ?_)
     ·have kY:lP (fR c aI gx) (bP c p i)=false:=by simpa using kY
      rw[hf (jR kY)] at eg
      simp -implicitDefEqProofs [q1,q2,q3,q4,q6,q7,q8,l8,ld,hbd,eg,hL]
     ·have kY:lP (fR c aI gx) (bP c p i)=true:=by simpa using kY
      rw[Ou,kY] at eR
      simp -implicitDefEqProofs [sq]
      refine⟨i64 (by omega) (by omega),aQ hlt ?_⟩
      simp[e1,e2,e3,e4,e6,e7,e8,l8,ld,bf,vC,vD,eR,eg]
    ·obtain rfl:i=o.length:=by omega
     have ht:=ht Ou
     rw[ht] at eg
     have e7':s.env 7=.ref [I (bP c p 0),I (bP c p 1),I (bP c p 2),I (bP c p 3),I (bP c p 4)]:=e7
     simp -implicitDefEqProofs [e3,e6,e7',e8,bf,l8,eg,ld,q1,q2,q3,q4,q6,q7,q8,hbd,hL]
     refine⟨d,1,o.length,cap,rfl,cs,ld,fU.1,fU.2⟩
   ·rintro Fx - ⟨e1,e2,e3,e4,e6,e7,e8,l8,eg⟩
    have:(bM c).drop ((bM c).map IL).length=[]:=by simp
    rw[this] at eg
    simpa[jm] using eg
 ·rintro st - ⟨e1,e2,e3,e4,eg⟩
  have:(dB c).drop ((dB c).map mK).length=[]:=by simp
  rw[this] at eg
  exact⟨[],.inl ⟨eg,rfl⟩⟩
theorem zC(c:Case)(aI:Int):aed Tryz.prog 77 [cj c,I aI] (.func (.func 109) [] [bn c,.ref [I aI]]):=by
 refine pc t77 (by simp) fun _=> ?_
 simp -implicitDefEqProofs [KC,KD]
theorem FA(l:List Int)(x:Int):aed Tryz.prog 73 [IL l,I x] (I (fS l x)):=by
 refine pc t73 (by simp) fun hfit=> ?_
 have hl:l.length≤140737488355328:=by simpa using cY (hfit 0)
 simp -implicitDefEqProofs [Kx]
 refine aef l.length (fun k s=>s.env 0=IL l∧s.env 1=I x∧s.env 7=I l.length∧s.env 8=I k∧x∉l.take k) ?_ ?_
 ·simp
 ·rintro k s hk ⟨e0,e1,e7,e8,hno⟩
  simp -implicitDefEqProofs [e7,e8]
  refine bA (fun hlt=> ?_) (fun hge=> ?_)
  ·simp -implicitDefEqProofs [e0,e1,e8,hlt]
   refine bR (fun he=> ?_) (fun he=> ?_)
   ·have hc:fS l x=k:=by
     have hx:l[k]=x:=by have:x=l[k]:=by simpa using he
                        exact this.symm
     have:l.idxOf? x=some k:=by
      rw[List.idxOf?_eq_some_iff]
      refine⟨hlt,hx,fun j hj=> ?_⟩
      intro e
      exact hno (List.mem_take_iff_getElem.2 ⟨j,by omega,e⟩)
     simp[fS,this]
    simp -implicitDefEqProofs [Dg,hc]
   ·simp -implicitDefEqProofs [e8]
    refine⟨i64 (by omega) (by omega),aQ hlt ⟨by simp[e0],by simp[e1],by simp[e7],by simp,?_⟩⟩
    have hne:¬x=l[k]:=by simpa using he
    rw[ael hlt,List.mem_append,List.mem_singleton]
    exact fun h=>h.elim hno fun h=>hne h
  ·obtain rfl:k=l.length:=by omega
   rw[List.take_length] at hno
   have hc:fS l x= -1:=by
    have:l.idxOf? x=none:=by rw[List.idxOf?_eq_none_iff];exact hno
    simp[fS,this]
   simp -implicitDefEqProofs [Dg,hc]
end Go.Proofs.YtnncgmimhdplfaaGreat.P
namespace Go.Proofs.YtnncgmimhdplfaaGreat.P
open Go.aq
def agD(P:Program)(ms:List MOp)(K:St→Prop)(s:St)(d:Nat)(k:AV)(n:Option Nat)(ok:Bool)(zero:AV):AV→Prop
 |.bQ b=>∃es,s.env (oS+b)=bI es∧jr n k∧match aen k es 0 with
   |some (some i)=>vcs P ms K (s.set d (if ok then .tuple [((es.getD i []).getD 1 .any),.lit (.bool true)] else ((es.getD i []).getD 1 .any).erase))
   |some none=>vcs P ms K (s.set d (if ok then .tuple [zero,.lit (.bool false)] else zero.erase))
   |none=>False
 |_=>False
theorem D3(P:Program)(ms:List MOp)(K:St→Prop)(s:St)(d:Nat)(x k:ai)(n:Option Nat)(ok:Bool)(zero:AV):vcs P (.lookup d x k n ok zero::ms) K s=agD P ms K s d (k.ev s.env).erase n ok zero (x.ev s.env):=by unfold agD;rfl
def zD(P:Program)(ms:List MOp)(K:St→Prop)(s:St)(d:Nat)(k:AV)(n:Option Nat)(zero:AV):AV→Prop
 |.bQ b=>∃es,s.env (oS+b)=bI es∧jr n k∧fX k k=some true∧match aen k es 0 with
   |some (some i)=>vcs P ms K ((s.set (oS+b) (bI (es.set i [k,(es.getD i []).getD 1 .any]))).set d (.tuple [(es.getD i []).getD 1 .any,.lit (.int .i64 i)]))
   |some none=>vcs P ms K ((s.set (oS+b) (bI (es++[[k,zero]]))).set d (.tuple [zero,.lit (.int .i64 es.length)]))
   |none=>False
 |_=>False
theorem abV(P:Program)(ms:List MOp)(K:St→Prop)(s:St)(d:Nat)(x k:ai)(n:Option Nat)(zero:AV):vcs P (.iA d x k n zero::ms) K s=zD P ms K s d (k.ev s.env).erase n zero (x.ev s.env):=by unfold zD;rfl
def FB(P:Program)(ms:List MOp)(K:St→Prop)(s:St)(v:AV):AV→AV→Prop
 |.bQ b,.lit (.int _ i)=>∃es,s.env (oS+b)=bI es∧0≤i∧i<es.length∧vcs P ms K (s.set (oS+b) (bI (es.set i.toNat [(es.getD i.toNat []).getD 0 .any,v])))
 |_,_=>False
theorem abW(P:Program)(ms:List MOp)(K:St→Prop)(s:St)(x st v:ai):vcs P (.afX x st v::ms) K s=FB P ms K s (v.ev s.env).erase (x.ev s.env) (st.ev s.env):=by unfold FB;rfl
def Ov(P:Program)(ms:List MOp)(K:St→Prop)(s:St)(d:Nat):AV→Prop
 |.au r 0=>∃b seen i es,s.env (oS+r)=fH b es.length (seen++[i])∧s.env (oS+b)=bI es∧i<es.length∧vcs P ms K (s.set d (.tuple [((es.getD i []).getD 0 .any).erase,((es.getD i []).getD 1 .any).erase]))
 |_=>False
theorem abX(P:Program)(ms:List MOp)(K:St→Prop)(s:St)(d:Nat)(x:ai):vcs P (.afY d x::ms) K s=Ov P ms K s d (x.ev s.env):=by unfold Ov;rfl
@[simp] theorem LK (s:St) (d b:Nat):fh s d (.bQ b)=s.set d (.bQ b):=rfl
@[simp] theorem ahP (r b:Nat):aC r (.bQ b)=.bQ b:=rfl
@[simp] theorem LM (b:Nat):(AV.bQ b).erase=.bQ b:=rfl
@[simp] theorem ad7 (b:Nat):(AV.bQ b).erase0=.bQ b:=rfl
@[simp] theorem LN (b:Nat):(AV.bQ b).cells=[.bQ b]:=rfl
attribute [simp] D3 abV abW abX
def eN(F G:Nat→Nat):Bool:=decide (F 0=G 0∧F 1=G 1∧F 2=G 2∧F 3=G 3∧F 4=G 4)
theorem af_{F G:Nat→Nat}:eN F G=true↔∀i,i<5→F i=G i:=by
 unfold eN
 rw[decide_eq_true_eq]
 constructor
 ·rintro⟨h0,h1,h2,h3,h4⟩ i hi
  match i,hi with
  |0,_=>exact h0
  |1,_=>exact h1
  |2,_=>exact h2
  |3,_=>exact h3
  |4,_=>exact h4
 ·intro h
  exact⟨h 0 (by omega),h 1 (by omega),h 2 (by omega),h 3 (by omega),h 4 (by omega)⟩
theorem wj(F:Nat→Nat):eN F F=true:=af_.2 fun _ _=>rfl
theorem abY{F G:Nat→Nat}(h:eN F G=true):eN G F=true:=af_.2 fun i hi=>(af_.1 h i hi).symm
theorem abZ{F G H:Nat→Nat}(h:eN F G=true)(h2:eN G H=true):eN F H=true:=af_.2 fun i hi=>(af_.1 h i hi).trans (af_.1 h2 i hi)
abbrev fc(q:(Nat→Nat)×Int):List AV:=[jl q.1,I q.2]
theorem FC(F G:Nat→Nat):fX (jl F) (jl G)=some (eN F G):=by
 show dh (List.replicate 5 false) [I (F 0),I (F 1),I (F 2),I (F 3),I (F 4)] [I (G 0),I (G 1),I (G 2),I (G 3),I (G 4)]=_
 simp only[List.replicate,dh,if_true,Option.map_some]
 congr 1
 unfold eN
 rw[Bool.eq_iff_iff]
 simp
 omega
theorem zE(F:Nat→Nat):∀(ps:List ((Nat→Nat)×Int)) (i:Nat),aen (jl F) (ps.map fc) i=some ((ps.findIdx? fun q=>eN F q.1).map (· +i))
 |[],i=>rfl
 |q::ps,i=>by
  rw[List.map_cons,aen,show(fc q).getD 0 AV.any=jl q.1 from rfl,FC,List.findIdx?_cons]
  cases h:eN F q.1 with
  |true=>simp
  |false=>
   simp only[Bool.false_eq_true,if_false]
   rw[zE F ps (i+1),Option.map_map]
   congr 2
   funext j
   simp;omega
structure af' (c:Case) (l:List (List Int)) (ps:List ((Nat→Nat)×Int)):Prop where
 key:∀q∈ps,(∃p∈l,eN q.1 (bP c p)=true)∧0≤q.2∧q.2≤l.length
 all:∀p∈l,∃q∈ps,eN q.1 (bP c p)=true
 len:ps.length≤l.length
theorem ab0{c:Case}{l:List (List Int)}{ps:List ((Nat→Nat)×Int)}(h:af' c l ps)(p:List Int):af' c (l++[p]) (ps++[(bP c p,1)]):=by
 refine⟨fun q hq=> ?_,fun p' eI=> ?_,by have:=h.len;simp;omega⟩
 ·rcases List.mem_append.1 hq with hq|hq
  ·obtain⟨⟨p',h1,h2⟩,h3,h4⟩:=h.key q hq
   exact⟨⟨p',by simp[h1],h2⟩,h3,by simp;omega⟩
  ·rw[List.mem_singleton] at hq
   subst hq
   exact⟨⟨p,by simp,wj _⟩,by simp,by simp;omega⟩
 ·rcases List.mem_append.1 eI with eI|eI
  ·obtain⟨q,h1,h2⟩:=h.all p' eI
   exact⟨q,by simp[h1],h2⟩
  ·rw[List.mem_singleton] at eI
   subst eI
   exact⟨(bP c p',1),by simp,wj _⟩
theorem ab1{c:Case}{l:List (List Int)}{ps:List ((Nat→Nat)×Int)}(h:af' c l ps){p:List Int}{i:Nat}(hi:i<ps.length)(he:eN (bP c p) ps[i].1=true):af' c (l++[p]) (ps.set i (bP c p,ps[i].2+1)):=by
 have hk:=h.key _ (List.getElem_mem hi)
 refine⟨fun q hq=> ?_,fun p' eI=> ?_,by have:=h.len;simp;omega⟩
 ·rcases List.mem_or_eq_of_mem_set hq with hq|rfl
  ·obtain⟨⟨p',h1,h2⟩,h3,h4⟩:=h.key q hq
   exact⟨⟨p',by simp[h1],h2⟩,h3,by simp;omega⟩
  ·exact⟨⟨p,by simp,wj _⟩,by simp;omega,by simp;omega⟩
 ·have key:∀q∈ps,eN q.1 (bP c p')=true→∃q∈ps.set i (bP c p,ps[i].2+1),eN q.1 (bP c p')=true:=by
   intro q h1 h2
   obtain⟨j,hj,rfl⟩:=List.getElem_of_mem h1
   by_cases e:j=i
   ·subst e
    exact⟨_,List.mem_set hi _,abZ he h2⟩
   ·refine⟨ps[j],?_,h2⟩
    rw[List.mem_iff_getElem]
    exact⟨j,by simpa using hj,by rw[List.getElem_set,if_neg (fun e'=>e e'.symm)]⟩
  rcases List.mem_append.1 eI with eI|eI
  ·obtain⟨q,h1,h2⟩:=h.all p' eI
   exact key q h1 h2
  ·rw[List.mem_singleton] at eI
   subst eI
   exact key _ (List.getElem_mem hi) (abY he)
def kJ(c:Case)(F:Nat→Nat)(o:List Int)(k:Nat):Bool:=(List.range k).all fun p=>lP (fR c 0 (o.getD p 0).toNat) (F p)
theorem ab2(c:Case)(F:Nat→Nat)(o:List Int)(k:Nat):kJ c F o (k+1)=(kJ c F o k&&lP (fR c 0 (o.getD k 0).toNat) (F k)):=by simp[kJ,List.range_succ]
theorem Ow{c:Case}(h:c.OK){F:Nat→Nat}{p o:List Int}(he:eN F (bP c p)=true)(ho:o.length=c.aA.toNat):kJ c F o o.length=jS c 0 p o:=by
 have hg:=h.aA
 unfold kJ jS nP
 rw[Bool.eq_iff_iff]
 simp only[List.all_eq_true,List.mem_range]
 have e:∀k,k<o.length→F k=nO c p k:=fun k hk=>by rw[af_.1 he k (by omega),bP,if_pos (by omega)]
 constructor
 ·intro hf k hk;rw[←e k hk];exact hf k hk
 ·intro hf k hk;rw[e k hk];exact hf k hk
def nT(c:Case)(o:List Int):Bool:=(dB c).any fun p=>jS c 0 p o
def aeh(c:Case):List (List Int):=(bM c).filter (nT c)
theorem ab3{c:Case}(h:c.OK){ps:List ((Nat→Nat)×Int)}(hm:af' c (dB c) ps){o:List Int}(ho:o.length=c.aA.toNat):nT c o=ps.any fun q=>kJ c q.1 o o.length:=by
 unfold nT
 rw[Bool.eq_iff_iff]
 simp only[List.any_eq_true]
 constructor
 ·rintro⟨p,h1,h2⟩
  obtain⟨q,h3,h4⟩:=hm.all p h1
  exact⟨q,h3,by rw[Ow h h4 ho];exact h2⟩
 ·rintro⟨q,h1,h2⟩
  obtain⟨⟨p,h3,h4⟩,-⟩:=hm.key q h1
  exact⟨p,h3,by rw[←Ow h h4 ho];exact h2⟩
def left(n:Nat)(seen:List Nat):Nat:=((List.range n).filter fun i=> !seen.contains i).length
theorem ab4{n i:Nat}{seen:List Nat}(hi:i<n)(hs:i∉seen):left n (seen++[i])<left n seen:=by
 unfold left
 have e:(List.range n).filter (fun j=> !(seen++[i]).contains j)=((List.range n).filter fun j=> !seen.contains j).filter fun j=> !decide (j=i):=by
  rw[List.filter_filter]
  congr 1
  funext j
  rw[Bool.eq_iff_iff]
  simp[and_comm]
 rw[e,List.length_filter_lt_length_iff_exists]
 exact⟨i,by simp[hi,hs],by simp⟩
theorem ab5(n:Nat):left n []=n:=by
 unfold left
 rw[List.filter_eq_self.2 (by simp)]
 simp
theorem ab6(n:Nat)(seen:List Nat):left n seen≤n:=by
 unfold left
 exact Nat.le_trans (List.length_filter_le _ _) (by simp)
theorem ab7{n:Nat}{I:Nat→St→Prop}{k k':Nat}{s:St}(h:k<k')(hn:k'≤n)(hI:I k' s):Cb n I k s:=⟨n - k',s,by omega,.refl s,k',hn,rfl,hI⟩
theorem qO:oS=1000001:=by simp[oS]
theorem ab8{P:Program}{ms:List MOp}{K:St→Prop}{s:St}{d b:Nat}{F:Nat→Nat}{ps:List ((Nat→Nat)×Int)}(em:s.env (1000001+b)=bI (ps.map fc))
  (h1:∀i (hi:i<ps.length),(ps.findIdx? fun q=>eN F q.1)=some i→vcs P ms K (s.set d (I ps[i].2)))(h2:(ps.findIdx? fun q=>eN F q.1)=none→vcs P ms K (s.set d (I 0))):
  agD P ms K s d (jl F) (some 5) false (I 0) (.bQ b):=by
 refine⟨_,by rw[qO];exact em,ef _ _,?_⟩
 rw[zE]
 cases hf:ps.findIdx? fun q=>eN F q.1 with
 |none=>exact h2 hf
 |some i=>
  have hi:i<ps.length:=(List.findIdx?_eq_some_iff_getElem.1 hf).1
  have:=h1 i hi hf
  simpa[hi] using this
theorem ab9{P:Program}{ms:List MOp}{K:St→Prop}{s:St}{d b i:Nat}{F:Nat→Nat}{ps:List ((Nat→Nat)×Int)}(em:s.env (1000001+b)=bI (ps.map fc))
  (hi:i<ps.length)(hf:(ps.findIdx? fun q=>eN F q.1)=some i)(h:vcs P ms K ((s.set (1000001+b) (bI ((ps.set i (F,ps[i].2)).map fc))).set d (.tuple [I ps[i].2,I i]))):
  zD P ms K s d (jl F) (some 5) (I 0) (.bQ b):=by
 refine⟨_,by rw[qO];exact em,ef _ _,by rw[FC,wj],?_⟩
 rw[zE,hf,qO]
 simpa[hi,List.map_set] using h
theorem ab_{P:Program}{ms:List MOp}{K:St→Prop}{s:St}{d b:Nat}{F:Nat→Nat}{ps:List ((Nat→Nat)×Int)}(em:s.env (1000001+b)=bI (ps.map fc))
  (hf:(ps.findIdx? fun q=>eN F q.1)=none)(h:vcs P ms K ((s.set (1000001+b) (bI ((ps++[(F,0)]).map fc))).set d (.tuple [I 0,I ps.length]))):
  zD P ms K s d (jl F) (some 5) (I 0) (.bQ b):=by
 refine⟨_,by rw[qO];exact em,ef _ _,by rw[FC,wj],?_⟩
 rw[zE,hf,qO]
 simpa using h
theorem Ox{P:Program}{ms:List MOp}{K:St→Prop}{s:St}{b i:Nat}{v:Int}{ps:List ((Nat→Nat)×Int)}(em:s.env (1000001+b)=bI (ps.map fc))
  (hi:i<ps.length)(h:vcs P ms K (s.set (1000001+b) (bI ((ps.set i (ps[i].1,v)).map fc)))):
  FB P ms K s (I v) (.bQ b) (I i):=by
 refine⟨_,by rw[qO];exact em,by omega,by simp;omega,?_⟩
 rw[qO]
 simpa[hi,List.map_set] using h
end Go.Proofs.YtnncgmimhdplfaaGreat.P
namespace Go.Proofs.YtnncgmimhdplfaaGreat.P
open Go.aq
theorem Oy{c:Case}(h:c.OK):(dB c).length≤81:=by
 have:=Fo h (Nat.le_refl c.an.length)
 rw[List.take_length] at this
 unfold dB
 exact Nat.le_trans (List.length_filter_le _ _) (by simpa using this)
theorem ab'{x:AV}(h:x.erase0=x)(r:Nat):aC r x=x:=by
 cases x<;>first|rfl|skip
 rename_i sz xs q
 simp at h
 subst h
 simp
theorem FD{cs:List AV}(h:cs.map AV.erase0=cs)(r:Nat):cs.map (aC r)=cs:=by
 have e:∀x∈cs,aC r x=x:=fun x hx=>by
  obtain⟨i,hi,rfl⟩:=List.getElem_of_mem hx
  apply ab'
  have:=congrArg (fun l=>l[i]?) h
  simpa[hi] using this
 calc cs.map (aC r)=cs.map id:=List.map_congr_left e
  _=cs:=by simp
theorem acd(r:Nat)(es:List (List AV)):aC r (bI es)=bI es:=rfl
theorem FE{c:Case}(h:c.OK):aed Tryz.prog 61 [cj c] (cu (aeh c)):=by
 refine pc t61 (by simp) fun _=> ?_
 have sZ:=h.aA
 have hw:aed Tryz.prog 95 [cj c,I 0] (jl (fR c 0)):=Oe h (aI:=0) (by omega)
 simp -implicitDefEqProofs [Ks]
 intro b2
 refine aj hw ?_
 simp -implicitDefEqProofs [ef,nR,kG]
 intro b3 h3 mb Ex b4 h4
 refine aj (Ok c) ?_
 simp -implicitDefEqProofs
 refine xS _ (fun k s=>s.env 1=bn c∧s.env 3=.ref (cl 5 fun g=>(fR c 0 g:Nat))∧s.env 4=.ref [.bQ mb]∧s.env 2=.au b2 0∧s.loc b2=some [.slice 1 [] 3000]∧∃ps,af' c ((dB c).take k) ps∧s.env (1000001+mb)=bI (ps.map fc)) (Oj h) ?_ ?_ ?_ ?_
 ·intro y hy
  rw[List.mem_map] at hy
  obtain⟨p,_,rfl⟩:=hy
  exact⟨rfl,rfl⟩
 ·have:∃ps,af' c [] ps∧bI []=bI (ps.map fc):=⟨[],⟨by simp,by simp,by simp⟩,rfl⟩
  have Oz:¬b2=b3:=fun e=>h3 e.symm
  have h24:¬b2=b4:=by rintro rfl;simp[Oz] at h4
  simp[this,h24,Oz]
 ·rintro k st hk - ⟨e1,e3,e4,e2,l2,ps,hps,em⟩
  have hk:k<(dB c).length:=by simpa using hk
  have hp:=oY h ((vY h).1 (List.getElem_mem hk))
  have nU:=ael hk
  rw[show((dB c).map mK).getD k []=mK (dB c)[k] by simp[hk]]
  generalize (dB c)[k]=p at*
  have Fv:=Of h hp
  simp -implicitDefEqProofs [ef,nR,kG]
  intro b5 h5
  simp -implicitDefEqProofs [e1,e4]
  refine aj Fv ?_
  have hlen:=Oy h
  have vR:((dB c).take k).length≤81:=by simp;omega
  simp -implicitDefEqProofs [kG]
  refine ab8 (ps:=ps) (by simp[em]) (fun i hi hf=> ?_) (fun hf=> ?_)
  ·have hq:=hps.key _ (List.getElem_mem hi)
   have he:eN (bP c p) ps[i].1=true:=(List.findIdx?_eq_some_iff_getElem.1 hf).2.1
   simp -implicitDefEqProofs
   refine⟨i64 (by omega) (by omega),?_⟩
   refine ab9 (ps:=ps) (by simp[em]) hi hf ?_
   simp -implicitDefEqProofs
   refine Ox (ps:=ps.set i (bP c p,ps[i].2)) (by simp) (by simpa using hi) ?_
   have e5:(ps.set i (bP c p,ps[i].2)).set i ((ps.set i (bP c p,ps[i].2))[i]'(by simpa using hi) |>.1,ps[i].2+1)=ps.set i (bP c p,ps[i].2+1):=by simp
   rw[e5]
   have hn:¬b2=b5:=by rintro rfl;rw[l2] at h5;cases h5
   have oh:=ab1 hps hi he
   rw[←nU] at oh
   have:∃ps',af' c ((dB c).take (k+1)) ps'∧bI ((ps.set i (bP c p,ps[i].2+1)).map fc)=bI (ps'.map fc):=⟨_,oh,rfl⟩
   simp only[BS]
   refine⟨?_,_,oh,?_⟩
   ·simp[l2,hn]
   ·simp
  ·simp -implicitDefEqProofs
   refine⟨i64 (by omega) (by omega),?_⟩
   refine ab_ (ps:=ps) (by simp[em]) hf ?_
   simp -implicitDefEqProofs
   refine Ox (ps:=ps++[(bP c p,0)]) (by simp) (by simp) ?_
   have e5:(ps++[(bP c p,0)]).set ps.length (((ps++[(bP c p,0)])[ps.length]'(by simp)).1,1)=ps++[(bP c p,1)]:=by simp
   rw[e5]
   have hn:¬b2=b5:=by rintro rfl;rw[l2] at h5;cases h5
   have oh:=ab0 hps p
   rw[←nU] at oh
   simp only[BS]
   refine⟨?_,_,oh,?_⟩
   ·simp[l2,hn]
   ·simp
 ·rintro st - ⟨e1,e3,e4,e2,l2,ps,hps,em⟩
  have hl:((dB c).map mK).length=(dB c).length:=by simp
  rw[hl,List.take_length] at hps
  simp -implicitDefEqProofs [e1]
  refine aj (Oo c) ?_
  simp -implicitDefEqProofs
  have q2:=e2;have q3:=e3;have q4:=e4
  refine rP ((bM c).map IL) (fun j s=>s.env 3=.ref (cl 5 fun g=>(fR c 0 g:Nat))∧s.env 4=.ref [.bQ mb]∧s.env 2=.au b2 0∧s.loc b2=some [.slice 1 ((((bM c).take j).filter (nT c)).map IL) 3000]∧s.env (1000001+mb)=bI (ps.map fc)) ?_ ?_ ?_ ?_
  ·have:=On h
   rw[List.map_map]
   exact this
  ·simp[e2,e3,e4,l2,em]
  ·rintro j Fx hj - ⟨e3,e4,e2,l2,em⟩ d sz len cap cs hd fU
   have hj:j<(bM c).length:=by simpa using hj
   have mL:=kE _ _ _ (List.getElem_mem hj)
   have OA:=ael hj
   rw[show((bM c).map IL).getD j .any=IL (bM c)[j] by simp[hj]] at fU⊢
   generalize (bM c)[j]=o at*
   obtain⟨rfl,rfl,hcs,hcap,gd⟩:=Ot rfl fU
   have hbd:¬b2=d:=by rintro rfl;rw[l2] at hd;cases hd
   have gM:=mL.1
   have hmap:=ab3 h hps gM
   simp -implicitDefEqProofs [putAt,e4]
   refine⟨_,em,fun r hr1 cD=> ?_⟩
   have zm:¬mb=r:=by rintro rfl;simp[em,bI] at cD
   obtain⟨W,hW⟩:∃W,W=((bM c).take j).filter (nT c):=⟨_,rfl⟩
   rw[←hW] at l2
   have hWl:W.length≤3125:=by
    rw[hW]
    have hg:=h.aA
    have h1:(bM c).length≤_:=vZ c.aA.toNat c.aA.toNat
    have h2:c.aA.toNat^c.aA.toNat≤5^5:=Nat.le_trans (Nat.pow_le_pow_left (show c.aA.toNat≤5 by omega) _) (Nat.pow_le_pow_right (by omega) (by omega))
    refine Nat.le_trans (List.length_filter_le _ _) ?_
    simp only[List.length_take]
    omega
   have z3:=e3;have z2:=e2;have z4:=e4
   refine aef ps.length (fun k s=>∃seen,k=ps.length - left ps.length seen∧(∀i (hi:i<ps.length),i∈seen→kJ c ps[i].1 o o.length=false)∧s.env (1000001+r)=fH mb (ps.map fc).length seen∧s.env (1000001+mb)=bI (ps.map fc)∧s.env 31=.au r 0∧s.env 6=.aV d 0 o.length cap 1∧s.loc d=some cs∧s.loc b2=some [.slice 1 (W.map IL) 3000]∧s.env 3=.ref (cl 5 fun g=>(fR c 0 g:Nat))∧s.env 2=.au b2 0) ?_ ?_
   ·refine⟨[],by rw[ab5];omega,fun i hi hs=>(by cases hs),?_⟩
    simp[zm,em,e3,e2,l2,hbd]
   rintro k s hk ⟨seen,hkk,OB,er,em,e31,e6,ld,l2,e3,e2⟩
   simp -implicitDefEqProofs [e31]
   refine⟨mb,seen,ps.map fc,er,em,fun i hi hs=> ?_,fun hall=> ?_⟩
   ·have hi:i<ps.length:=by simpa using hi
    have hfe:=ab2 c ps[i].1 o
    have hkey:=hps.key _ (List.getElem_mem hi)
    have hlt:=ab4 hi hs
    have hle:=ab6 ps.length seen
    have Fe:∀b,kJ c ps[i].1 o o.length=b→b=true→nT c o=true:=fun b h1 h2=>by rw[hmap,List.any_eq_true];exact⟨_,List.getElem_mem hi,by rw[h1,h2]⟩
    refine⟨mb,seen,i,ps.map fc,by simp,by simp[zm,em],by simpa using hi,?_⟩
    rw[show((ps.map fc).getD i []).getD 0 .any=jl ps[i].1 by simp[hi]]
    rw[show((ps.map fc).getD i []).getD 1 .any=I ps[i].2 by simp[hi]]
    simp -implicitDefEqProofs [ef,nR,kG]
    intro b7 h7
    have FF:¬d=b7:=by rintro rfl;rw[ld] at h7;cases h7
    have h72:¬b2=b7:=by rintro rfl;rw[l2] at h7;cases h7
    simp -implicitDefEqProofs [e6]
    have ace:∀k,k<5→ps[i].1 k<16:=fun k Fi=>by
     obtain⟨⟨p,BE,hp2⟩,-⟩:=hkey
     rw[af_.1 hp2 k Fi]
     exact zA h (oY h ((vY h).1 BE)) k
    generalize hFF:ps[i].1=F at*
    generalize ps[i].2=val at*
    obtain⟨seen',hs'⟩:∃x,x=seen++[i]:=⟨_,rfl⟩
    rw[←hs'] at hlt⊢
    refine aef o.length (fun t s=>s.env 6=.aV d 0 o.length cap 1∧s.env 7=.ref (cl 5 fun g=>(F g:Nat))∧s.env 8=B (kJ c F o t)∧s.env 36=.aV d 0 o.length cap 1∧s.env 37=I o.length∧s.env 38=I t∧s.env 31=.au r 0∧s.env (1000001+r)=fH mb (ps.map fc).length seen'∧s.env (1000001+mb)=bI (ps.map fc)∧s.loc d=some cs∧s.loc b2=some [.slice 1 (W.map IL) 3000]∧s.env 3=.ref (cl 5 fun g=>(fR c 0 g:Nat))∧s.env 2=.au b2 0) ?_ ?_
    ·simp[e6,e31,em,ld,l2,e3,e2,FF,h72,zm,kJ]
    rintro t s ht ⟨e6,e7,e8,qv,gi,gj,e31,er,em,ld,l2,e3,e2⟩
    simp -implicitDefEqProofs [gi,gj]
    refine bA (fun br=> ?_) (fun nA=> ?_)
    ·have br:t<o.length:=by omega
     have hx:=mL.2.2 _ (List.getElem_mem br)
     have hai:=gd t br
     have hic:t<cs.length:=by omega
     have hai:cs[t]=I o[t]:=by rw[←hai];simp[hic]
     have eR:=hfe t
     have h0:o.getD t 0=o[t]:=by simp[br]
     rw[h0] at eR
     generalize o[t]=x at*
     obtain⟨gx,rfl⟩:∃gx:Nat,x=gx:=⟨x.toNat,by omega⟩
     rw[Int.toNat_natCast] at eR
     have Fy:gx<5:=by omega
     have OC:t<5:=by omega
     have Fz:=NS _ (zj h 0 gx) _ (ace t OC)
     by_cases jR:kJ c F o t=true
     ·rw[jR] at e8
      rw[jR,Bool.true_and,←Fz] at eR
      simp -implicitDefEqProofs [e3,e7,e8,qv,gj,ld,br,hic,hai,Fy,OC,ef,kF]
      refine⟨by omega,by omega,by omega,by omega,i64 (by omega) (by omega),aQ br ?_⟩
      simp[e2,e3,e6,e7,qv,gi,e31,er,em,ld,l2,eR]
     ·have jR:kJ c F o t=false:=by simpa using jR
      rw[jR] at e8
      rw[jR,Bool.false_and] at eR
      simp -implicitDefEqProofs [e8,qv,gj,ld,br,hic,hai]
      refine⟨i64 (by omega) (by omega),aQ br ?_⟩
      simp[e2,e3,e6,e7,qv,gi,e31,er,em,ld,l2,eR]
    ·obtain rfl:t=o.length:=by omega
     simp -implicitDefEqProofs [e8]
     refine bR (fun hfit=> ?_) (fun hfit=> ?_)
     ·have hok:nT c o=true:=Fe _ rfl hfit
      rw[OA,List.filter_append,←hW]
      have lN:cs.take o.length=o.map I:=by
       apply List.ext_getElem (by simp;omega)
       intro i h1 h2
       have hi2:i<o.length:=by simpa using h2
       have:=gd i hi2
       have hic:i<cs.length:=by omega
       rw[List.getElem_take,List.getElem_map,←this]
       simp[hic]
      have kU:cs.all AV.bK=true:=fU.2.2.2.2.1
      simp -implicitDefEqProofs [e6,ld]
      refine⟨by omega,by omega,fun D hD=> ?_⟩
      have hdD:¬d=D:=by rintro rfl;rw[ld] at hD;cases hD
      have hbD:¬b2=D:=by rintro rfl;rw[l2] at hD;cases hD
      have hsp:splice (List.replicate o.length (I 0)) 0 (List.take o.length (List.map AV.erase0 cs))=o.map I:=by
       rw[←List.map_take,lN,tI _ _ _ (by simp)]
       simp
      have hch:chunk 1 (o.map I) o.length=o.map I:=by
       rw[Fq _ _ (by simp) (fun x hx=>by rw[List.mem_map] at hx;obtain⟨n,_,rfl⟩:=hx;exact⟨n,rfl⟩)]
       exact List.take_of_length_le (by simp)
      have xy:=kU
      simp -implicitDefEqProofs only[List.all_eq_true,AV.bK] at xy
      have ho5:o.length≤5:=by omega
      have hdr:=FD fU.2.2.2.2.2
      have acf:¬d=b2:=fun e=>hbd e.symm
      simp -implicitDefEqProofs [hdD,hbD,hbd,acf,hsp,hch,aD,e2,l2,ld,em,acd,hdr,q2,q3,q4,hok]
      exact⟨hcs,fun x hx=>xy x hx,by omega,by omega,by omega⟩
     ·simp -implicitDefEqProofs
      refine ab7 (k':=ps.length - left ps.length seen') (by omega) (by omega) ⟨seen',rfl,fun i' hi' hs=> ?_,?_⟩
      ·rw[hs',List.mem_append,List.mem_singleton] at hs
       rcases hs with hs|rfl
       ·exact OB i' hi' hs
       ·rw[hFF];exact hfit
      ·simp[er,em,e31,e6,ld,l2,e3,e2]
   ·have hno:nT c o=false:=by
     rw[hmap,List.any_eq_false]
     intro q hq
     obtain⟨i,hi,rfl⟩:=List.getElem_of_mem hq
     rw[OB i hi (hall i (by simpa using hi))]
     simp
    rw[OA,List.filter_append,←hW]
    simp[ld,q2,q3,q4,hbd,l2,em,hno]
  ·rintro Fx - ⟨e3,e4,e2,l2,em⟩
   have:((bM c).map IL).length=(bM c).length:=by simp
   rw[this,List.take_length] at l2
   simp -implicitDefEqProofs [e2,l2,Kt]
   rfl
end Go.Proofs.YtnncgmimhdplfaaGreat.P
namespace Go.Proofs.YtnncgmimhdplfaaGreat.P
open Go.aq
def wk(c:Case)(aI:Nat)(p:List Int):List (List Int×List Int):=((bM c).filter (jS c aI p)).map fun o=>(p,o)
def aH(c:Case)(aI:Nat):List (List Int×List Int):=(dB c).flatMap (wk c aI)
theorem zF(c:Case)(aI:Nat):qN c aI (dB c)=(aH c aI).map fun x=>ij c x.1 x.2:=by
 unfold qN aH jm
 rw[List.map_flatMap]
 congr 1
 funext p
 simp[wk]
theorem wm{c:Case}{aI:Nat}{x:List Int×List Int}:x∈aH c aI↔x.1∈dB c∧x.2∈bM c∧jS c aI x.1 x.2=true:=by
 obtain⟨p,o⟩:=x
 simp only[aH,wk,List.mem_flatMap,List.mem_map,List.mem_filter,Prod.mk.injEq]
 constructor
 ·rintro⟨p',h1,o',⟨h2,h3⟩,rfl,rfl⟩;exact⟨h1,h2,h3⟩
 ·rintro⟨h1,h2,h3⟩;exact⟨p,h1,o,⟨h2,h3⟩,rfl,rfl⟩
theorem acg:((List.range 6).all fun g=>(aeN g g).all fun o=>(List.range g).all fun x=>decide ((x:Int)∈o))=true:=by decide+kernel
theorem OD{c:Case}(h:c.OK){o:List Int}(ho:o∈bM c){x:Int}(hx:0≤x∧x<c.aA):x∈o:=by
 have hg:=h.aA
 have h1:=List.all_eq_true.1 (List.all_eq_true.1 (List.all_eq_true.1 acg c.aA.toNat (by simp;omega)) o ho) x.toNat (by simp;omega)
 have h2:=of_decide_eq_true h1
 rwa [Int.toNat_of_nonneg hx.1] at h2
theorem at_mem{o:List Int}{x:Int}(h:x∈o):∃k:Nat,∃hk:k<o.length,fS o x=k∧o[k]=x:=by
 unfold fS
 cases hi:o.idxOf? x with
 |none=>rw[List.idxOf?_eq_none_iff] at hi;exact absurd h hi
 |some k=>
  obtain⟨h1,h2,-⟩:=List.idxOf?_eq_some_iff.1 hi
  exact⟨k,h1,rfl,h2⟩
def ae0(c:Case)(g:Int)(x:List Int×List Int):Nat:=bP c x.1 (fS x.2 g).toNat
def aeX(c:Case)(g:Int)(l:List (List Int×List Int)):Nat:=l.foldl (fun a x=>a ||| ae0 c g x) 0
def kK(c:Case)(g:Int)(l:List (List Int×List Int)):Nat:=l.foldl (fun a x=>a &&& ae0 c g x) 15
theorem ach(c:Case)(g:Int)(l:List (List Int×List Int))(x:List Int×List Int):aeX c g (l++[x])=aeX c g l ||| ae0 c g x:=by simp[aeX]
theorem aci(c:Case)(g:Int)(l:List (List Int×List Int))(x:List Int×List Int):kK c g (l++[x])=kK c g l &&& ae0 c g x:=by simp[kK]
theorem OE{f:List Int×List Int→Nat}:∀(l:List (List Int×List Int)) (a:Nat),a<16→(∀x∈l,f x<16)→l.foldl (fun a x=>a ||| f x) a<16
 |[],a,ha,_=>ha
 |x::l,a,ha,hf=>OE l _ (Nat.or_lt_two_pow (n:=4) ha (hf x (by simp))) (fun y hy=>hf y (by simp[hy]))
theorem OF{f:List Int×List Int→Nat}:∀(l:List (List Int×List Int)) (a:Nat),a<16→l.foldl (fun a x=>a &&& f x) a<16
 |[],_,ha=>ha
 |_::l,_,ha=>OF l _ (Nat.lt_of_le_of_lt Nat.and_le_left ha)
theorem OG(c:Case)(g:Int)(l:List (List Int×List Int)):kK c g l<16:=OF l 15 (by omega)
theorem zG{c:Case}(h:c.OK){aI:Nat}{x:List Int×List Int}(hx:x∈aH c aI):afj c x.1:=oY h ((vY h).1 (wm.1 hx).1)
theorem FG{c:Case}(h:c.OK){aI:Nat}(g:Int){x:List Int×List Int}(hx:x∈aH c aI):ae0 c g x<16:=zA h (zG h hx) _
theorem FH{c:Case}(h:c.OK){aI:Nat}(g:Int){l:List (List Int×List Int)}(hl:∀x∈l,x∈aH c aI):aeX c g l<16:=OE l 0 (by omega) fun x hx=>FG h g (hl x hx)
theorem acj:∀b:Nat,b<16→15 &&& b=b:=by decide+kernel
theorem ack{x:AV}{o:List Int}{pos sz len cap d:Nat}{cs:List AV}{loc:Nat→Option (List AV)}(hx:wL x pos=IL o)(h:kN x pos sz len cap cs)(hl:loc d=some cs):agK loc (.aV d 0 len cap sz)=some (IL o):=by
 obtain⟨h1,h2,h3,h4,h5,h6⟩:=h
 rw[hx] at h1
 simp only[agK,hl,List.drop_zero,Nat.zero_add,h2,h4,h5,decide_true,Bool.and_self,if_true,h1]
theorem acm{x:AV}{o:List Int}{g:Int}{pos sz len cap d:Nat}{cs:List AV}{loc:Nat→Option (List AV)}(hx:wL x pos=IL o)(h:kN x pos sz len cap cs)(hl:loc d=some cs):pn loc [.aV d 0 len cap sz,I g]=some [IL o,I g]:=by
 rw[pn,ack hx h hl]
 rfl
theorem acn(F:Nat→Int)(z:AV):∀q:Nat,q<5→[I (F 0),I (F 1),I (F 2),I (F 3),I (F 4),z][q]? =some (I (F q))
 |0,_=>rfl
 |1,_=>rfl
 |2,_=>rfl
 |3,_=>rfl
 |4,_=>rfl
def aga(c:Case)(g:Int)(l:List (List Int×List Int)):Int:=if l=[] then -1 else (kK c g l:Nat)
theorem aco{c:Case}(g:Int)(l:List (List Int×List Int))(x:List Int×List Int)(hx:ae0 c g x<16):cP .and .i64 (aga c g l) (ae0 c g x:Nat)=aga c g (l++[x]):=by
 have e:aga c g (l++[x])=(kK c g (l++[x]):Nat):=if_neg (by simp)
 rw[e]
 unfold aga
 by_cases hl:l=[]
 ·subst hl
  rw[if_pos rfl,abg _ hx,List.nil_append]
  have:kK c g [x]=15 &&& ae0 c g x:=rfl
  rw[this,acj _ hx]
 ·rw[if_neg hl,abf _ (OG c g l) _ hx,aci]
abbrev OH(c:Case)(g:Int)(l:List (List Int×List Int)):AV:=.tuple [I (aga c g l),I (aeX c g l:Nat),B (decide (l≠[]))]
theorem OI{c:Case}(h:c.OK){g:Int}(hg:0≤g∧g<c.aA):aed Tryz.prog 74 [cj c,I g] (OH c g (aH c 0)):=by
 refine pc t74 (by simp) fun _=> ?_
 have ht:aed Tryz.prog 77 [cj c,I 0] (.func (.func 109) [] [bn c,.ref [I 0]]):=zC c 0
 simp -implicitDefEqProofs [Ky]
 intro b4 b5 zH b6 h6
 have zI:¬b6=b5:=by rintro rfl;simp at h6
 have zJ:¬b6=b4:=by rintro rfl;simp[zI] at h6
 have h46:¬b4=b6:=fun e=>zJ e.symm
 have OJ:¬b4=b5:=fun e=>zH e.symm
 have FI:¬b5=b6:=fun e=>zI e.symm
 simp -implicitDefEqProofs [h46]
 refine aj ht ?_
 simp -implicitDefEqProofs
 refine rP ((aH c 0).map fun x=>ij c x.1 x.2) (fun k s=>s.env 2=bn c∧s.env 3=.ref [I g]∧s.env 4=.au b4 0∧s.env 5=.au b5 0∧s.env 6=.au b6 0∧s.loc b4=some [I (aga c g ((aH c 0).take k))]∧s.loc b5=some [I (aeX c g ((aH c 0).take k):Nat)]∧s.loc b6=some [B (decide ((aH c 0).take k≠[]))]) ?_ ?_ ?_ ?_
 ·have:=zB h (aI:=0) (by omega)
  rw[zF] at this
  exact this
 ·simp[zH,FI,zJ,aga,aeX]
 ·rintro k st hk - ⟨e2,e3,e4,e5,e6,l4,l5,l6⟩ d sz len cap cs hd fU
  have hk:k<(aH c 0).length:=by simpa using hk
  have hm:=List.getElem_mem hk
  have nU:=ael hk
  have hs:=aco (c:=c) g ((aH c 0).take k) (aH c 0)[k] (FG h g hm)
  have GA:=ach c g ((aH c 0).take k) (aH c 0)[k]
  have eY:=zk _ (FH h g (l:=(aH c 0).take k) fun x hx=>List.mem_of_mem_take hx) _ (FG h g hm)
  rw[←GA] at eY
  rw[←nU] at hs eY
  rw[show((aH c 0).map fun x=>ij c x.1 x.2).getD k .any=ij c (aH c 0)[k].1 (aH c 0)[k].2 by simp[hk]] at fU⊢
  obtain⟨z,hz⟩:∃z,z=(aH c 0)[k]:=⟨_,rfl⟩
  rw[←hz] at hs eY fU hm nU⊢
  obtain⟨p,o⟩:=z
  have hmm:=wm.1 hm
  obtain⟨q,jW,hq2,dS⟩:=at_mem (OD h hmm.2.1 hg)
  have mL:=(kE _ _ _ hmm.2.1).1
  have hgg:=h.aA
  simp only at jW hq2 dS mL
  have FJ:¬b4=d:=by rintro rfl;rw[l4] at hd;cases hd
  have FK:¬b5=d:=by rintro rfl;rw[l5] at hd;cases hd
  have FL:¬b6=d:=by rintro rfl;rw[l6] at hd;cases hd
  simp -implicitDefEqProofs [putAt]
  intro b7 h7
  have FF:¬b7=d:=by rintro rfl;simp at h7
  have OL:¬d=b7:=fun e=>FF e.symm
  have EE:¬b4=b7:=by rintro rfl;simp[FJ,l4] at h7
  have h57:¬b5=b7:=by rintro rfl;simp[FK,l5] at h7
  have h67:¬b6=b7:=by rintro rfl;simp[FL,l6] at h7
  have OM:=FA o g
  rw[hq2] at OM
  have BD:q<5:=by omega
  simp -implicitDefEqProofs [e3]
  refine Vt (ys:=[IL o,I g]) (u:=.int .i64 q) ?_ rfl OM ?_
  ·simp -implicitDefEqProofs
   exact acm rfl fU (by simp[OL])
  have hown:[I (bP c p 0:Nat),I (bP c p 1:Nat),I (bP c p 2:Nat),I (bP c p 3:Nat),I (bP c p 4:Nat),AV.aV d 0 len cap sz][q]? =some (I (ae0 c g (p,o):Nat)):=by
   unfold ae0
   rw[hq2,Int.toNat_natCast]
   exact acn (fun i=>(bP c p i:Nat)) _ q BD
  simp -implicitDefEqProofs [e4,e5,e6,l4,l5,l6,FJ,FK,FL,EE,h57,h67,h46,OJ,zH,FI,zJ,zI,hown,eY,hs]
  have hne:¬aH c 0=[]:=List.ne_nil_of_mem hm
  have hdb:¬d=b6∧¬d=b5∧¬d=b4:=⟨fun e=>FL e.symm,fun e=>FK e.symm,fun e=>FJ e.symm⟩
  simp[hdb,OL,hne]
  omega
 ·rintro st - ⟨e2,e3,e4,e5,e6,l4,l5,l6⟩
  have hl:((aH c 0).map fun x=>ij c x.1 x.2).length=(aH c 0).length:=by simp
  rw[hl,List.take_length] at l4 l5 l6
  simp -implicitDefEqProofs [e4,e5,e6,l4,l5,l6,h46,OJ,zH,FI,zJ,zI,Kz]
end Go.Proofs.YtnncgmimhdplfaaGreat.P
namespace Go.Proofs.YtnncgmimhdplfaaGreat.P
open Go.aq
structure Ends where
 lo:Int
 hi:Int
 met:Nat
def Ends.add(e:Ends)(n:Int):Ends:=if e.met=0 then ⟨n,n,1⟩ else ⟨min e.lo n,max e.hi n,e.met+1⟩
abbrev Ends.cs(e:Ends):List AV:=[I e.lo,I e.hi,I e.met]
theorem ON{s:St}{K:AV→St→Prop}{b:Nat}{e:Ends}{n:Int}(hl:s.loc b=some e.cs)(hm:e.met<1000000)
  (hK:∀s2,s2.loc b=some (e.add n).cs→(∀c,c≠b→s2.loc c=s.loc c)→(∀k,1000000≤k→s2.env k=s.env k)→K (.tuple []) (back s s2)):
  fW Tryz.prog 76 [.au b 0,I n] s K:=by
 refine ic t76 (by simp) fun _=> ?_
 obtain⟨lo,hi,met⟩:=e
 simp only at hl hm hK
 have key:∀k,1000000≤k→∀j,j<100→¬k=j:=fun k hk j hj=>by omega
 by_cases h0:met=0
 ·subst h0
  simp -implicitDefEqProofs [Dh,hl]
  refine⟨i64 (by omega) (by omega),?_⟩
  simp -implicitDefEqProofs [fy,Di]
  refine hK _ ?_ ?_ ?_
  ·simp[Ends.add]
  ·intro c hc;simp[hc]
  ·intro k hk
   simp[hk,key k hk]
 ·have h1:((met:Int)+1==1)=false:=by simp;omega
  simp -implicitDefEqProofs [Dh,hl,h1]
  refine⟨i64 (by omega) (by omega),?_⟩
  simp -implicitDefEqProofs [fy,Di]
  refine hK _ ?_ ?_ ?_
  ·simp[Ends.add,h0]
   omega
  ·intro c hc;simp[hc]
  ·intro k hk
   simp[hk,key k hk]
theorem OO{s:St}{K:AV→St→Prop}{b:Nat}{e:Ends}{n:Int}(hl:s.loc b=some e.cs)(hm:e.met<1000000)
  (hK:∀s2,s2.loc b=some (e.add n).cs→(∀c,c≠b→s2.loc c=s.loc c)→(∀k,1000000≤k→s2.env k=s.env k)→K (.tuple []) (back s s2)):
  fW Tryz.prog 79 [.au b 0,I n] s K:=by
 refine ic t79 (by simp) fun _=> ?_
 obtain⟨lo,hi,met⟩:=e
 simp only at hl hm hK
 have key:∀k,1000000≤k→∀j,j<100→¬k=j:=fun k hk j hj=>by omega
 by_cases h0:met=0
 ·subst h0
  simp -implicitDefEqProofs [Dj,hl]
  refine⟨i64 (by omega) (by omega),?_⟩
  simp -implicitDefEqProofs [fy,Dk]
  refine hK _ ?_ ?_ ?_
  ·simp[Ends.add]
  ·intro c hc;simp[hc]
  ·intro k hk
   simp[hk,key k hk]
 ·have h1:((met:Int)+1==1)=false:=by simp;omega
  simp -implicitDefEqProofs [Dj,hl,h1]
  refine⟨i64 (by omega) (by omega),?_⟩
  simp -implicitDefEqProofs [fy,Dk]
  refine hK _ ?_ ?_ ?_
  ·simp[Ends.add,h0]
   omega
  ·intro c hc;simp[hc]
  ·intro k hk
   simp[hk,key k hk]
theorem OP{s:St}{K:AV→St→Prop}{b:Nat}{e:Ends}(hl:s.loc b=some e.cs)
  (hK:∀s2,(∀c,s.loc c≠none→s2.loc c=s.loc c)→(∀k,1000000≤k→s2.env k=s.env k)→K (oX e.lo e.hi) (back s s2)):
  fW Tryz.prog 78 [.au b 0] s K:=by
 refine ic t78 (by simp) fun _=> ?_
 have key:∀k,1000000≤k→∀j,j<100→¬k=j:=fun k hk j hj=>by omega
 obtain⟨lo,hi,met⟩:=e
 simp only at hl hK
 simp -implicitDefEqProofs [yw]
 intro b2 hb2
 have hne:¬b=b2:=by rintro rfl;rw[hl] at hb2;cases hb2
 simp -implicitDefEqProofs [hne,hl,fy,KE]
 refine hK _ ?_ ?_
 ·intro c hc
  have:¬c=b2:=by rintro rfl;exact hc hb2
  simp[this]
 ·intro k hk
  simp[hk,key k hk]
theorem acp{s:St}{K:AV→St→Prop}{b:Nat}{e:Ends}(hl:s.loc b=some e.cs)
  (hK:∀s2,(∀c,s.loc c≠none→s2.loc c=s.loc c)→(∀k,1000000≤k→s2.env k=s.env k)→K (oX e.lo e.hi) (back s s2)):
  fW Tryz.prog 80 [.au b 0] s K:=by
 refine ic t80 (by simp) fun _=> ?_
 have key:∀k,1000000≤k→∀j,j<100→¬k=j:=fun k hk j hj=>by omega
 obtain⟨lo,hi,met⟩:=e
 simp only at hl hK
 simp -implicitDefEqProofs [KF]
 intro b2 hb2
 have hne:¬b=b2:=by rintro rfl;rw[hl] at hb2;cases hb2
 simp -implicitDefEqProofs [hne,hl,fy,KG]
 refine hK _ ?_ ?_
 ·intro c hc
  have:¬c=b2:=by rintro rfl;exact hc hb2
  simp[this]
 ·intro k hk
  simp[hk,key k hk]
def FM(P:Program)(ms:List MOp)(K:St→Prop)(s:St)(d:Nat)(neg:Bool):AV→Prop
 |.slice _ xs _=>(xs=[]→vcs P ms K (s.set d (.lit (.bool (!neg)))))∧vcs P ms K (s.set d (.lit (.bool neg)))
 |.aV _ _ _ _ _=>vcs P ms K (s.set d (.lit (.bool neg)))
 |_=>False
theorem acq(P:Program)(ms:List MOp)(K:St→Prop)(s:St)(d:Nat)(neg:Bool)(x:ai):vcs P (.isNil d neg x::ms) K s=FM P ms K s d neg (x.ev s.env):=by unfold FM;rfl
attribute [simp] acq FM
theorem acr{s:St}{K:AV→St→Prop}{l:List (Int×Int)}(hl:l.length≤9)
  (hK:∀s2,(∀c cs,s.loc c=some cs→cs.map AV.erase0=cs→s2.loc c=some cs)→K (.slice 2 (l.map gG) 3) (back s s2)):
  fW Tryz.prog 82 [.slice 2 (l.map gG) 0] s K:=by
 refine ic t82 (by simp) fun _=> ?_
 simp -implicitDefEqProofs [KI]
 refine⟨fun hn=> ?_,by omega,by omega,?_⟩
 ·subst hn
  simp -implicitDefEqProofs [fy,Dm]
  refine hK _ fun c cs hc he=> ?_
  simp[hc,FD he]
 ·simp -implicitDefEqProofs [fy,Dm]
  refine hK _ fun c cs hc he=> ?_
  simp[hc,FD he]
end Go.Proofs.YtnncgmimhdplfaaGreat.P
namespace Go.Proofs.YtnncgmimhdplfaaGreat.P
open Go.aq
abbrev bh(c:Case):Int:=(cC c).2.2
theorem fF{c:Case}(h:bh c=0):c.OK:=(Fg h).1
def mM(c:Case):List (List Int)×Int:=if bh c≠0 then ([],bh c) else if aeh c=[] then ([],8) else (aeh c,0)
theorem FN(c:Case):aed Tryz.prog 14 [cj c] (.tuple [cu (mM c).1,I (mM c).2]):=by
 refine pc t14 (by simp) fun _=> ?_
 have he:=oP c
 have hw:bh c=0→aed Tryz.prog 61 [cj c] (cu (aeh c)):=fun e=>FE (fF e)
 have hR:mM c=if bh c≠0 then ([],bh c) else if aeh c=[] then ([],8) else (aeh c,0):=rfl
 obtain⟨E,hE⟩:∃E,E=bh c:=⟨_,rfl⟩
 rw[←hE] at hw hR
 rw[show(cC c).2.2=E from hE.symm] at he
 simp -implicitDefEqProofs [Jy]
 refine aj he ?_
 simp -implicitDefEqProofs
 intro b
 refine bR (fun h=> ?_) (fun h=> ?_)
 ·have h:¬E=0:=by simpa using h
  rw[if_pos h] at hR
  simp -implicitDefEqProofs [yd,hR]
 ·have h:E=0:=by simpa using h
  subst h
  rw[if_neg (by simp)] at hR
  have hw:=hw rfl
  simp -implicitDefEqProofs
  refine aj hw ?_
  by_cases hz:aeh c=[]
  ·rw[if_pos hz] at hR
   simp -implicitDefEqProofs [yd,hR,hz]
  ·rw[if_neg hz] at hR
   have dQ:(((aeh c).length:Int)==0)=false:=by
    have:=List.length_pos_iff.2 hz
    simp;exact hz
   simp -implicitDefEqProofs [yd,hR,dQ]
def kL(a b:Int)(l:List (List Int)):Nat:=(l.filter fun o=>decide (fS o a<fS o b)).length
theorem acs(a b:Int)(l:List (List Int))(o:List Int):kL a b (l++[o])=kL a b l+if fS o a<fS o b then 1 else 0:=by
 unfold kL
 rw[List.filter_append,List.length_append]
 by_cases h:fS o a<fS o b<;>simp[h]
theorem OQ(a b:Int)(l:List (List Int)):kL a b l≤l.length:=List.length_filter_le _ _
def beforeL(a b:Int)(l:List (List Int)):Int×Int:=if l=[] then (0,8) else if kL a b l=l.length then (1,0) else if kL a b l=0 then (2,0) else (0,0)
def wo(c:Case)(a b:Int):Int×Int:=if bh c≠0 then (0,bh c) else if out 0 (c.aA - 1) [a,b]=true then (0,4) else if a=b then (0,2) else beforeL a b (aeh c)
theorem FO{c:Case}(h:c.OK):(aeh c).length≤3125:=by
 have hg:=h.aA
 have h1:(bM c).length≤_:=vZ c.aA.toNat c.aA.toNat
 have h2:c.aA.toNat^c.aA.toNat≤5^5:=Nat.le_trans (Nat.pow_le_pow_left (show c.aA.toNat≤5 by omega) _) (Nat.pow_le_pow_right (by omega) (by omega))
 have h3:(aeh c).length≤(bM c).length:=List.length_filter_le _ _
 omega
theorem acu(c:Case)(x y:Int):aed Tryz.prog 37 [cj c,I x,I y] (.tuple [I (wo c x y).1,I (wo c x y).2]):=by
 refine pc t37 (by simp) fun _=> ?_
 have he:=oP c
 have hw:bh c=0→aed Tryz.prog 61 [cj c] (cu (aeh c)):=fun e=>FE (fF e)
 have zK:bh c=0→(aeh c).length≤3125:=fun e=>FO (fF e)
 have hgg:bh c=0→1≤c.aA∧c.aA≤5:=fun e=>(fF e).aA
 have ho:=aet 0 (c.aA - 1) [x,y]
 have hR:wo c x y=if bh c≠0 then (0,bh c) else if out 0 (c.aA - 1) [x,y]=true then (0,4) else if x=y then (0,2) else beforeL x y (aeh c):=rfl
 obtain⟨E,hE⟩:∃E,E=bh c:=⟨_,rfl⟩
 rw[←hE] at hw hR zK hgg
 rw[show(cC c).2.2=E from hE.symm] at he
 generalize out 0 (c.aA - 1) [x,y]=o at*
 simp -implicitDefEqProofs [m37]
 refine aj he ?_
 simp -implicitDefEqProofs
 intro b
 refine bR (fun h=> ?_) (fun h=> ?_)
 ·have h:¬E=0:=by simpa using h
  rw[if_pos h] at hR
  simp -implicitDefEqProofs [oI,hR]
 have h:E=0:=by simpa using h
 subst h
 rw[if_neg (by simp)] at hR
 have hw:=hw rfl
 have zK:=zK rfl
 have hgg:=hgg rfl
 simp -implicitDefEqProofs
 refine⟨i64 (by omega) (by omega),?_⟩
 refine aj ho ?_
 cases o with
 |true=>
  rw[if_pos rfl] at hR
  simp -implicitDefEqProofs [oI,hR]
 |false=>
 rw[if_neg (by simp)] at hR
 simp -implicitDefEqProofs
 by_cases hxy:x=y
 ·rw[if_pos hxy] at hR
  subst hxy
  simp -implicitDefEqProofs [oI,hR]
 rw[if_neg hxy] at hR
 have acv:(x==y)=false:=by simpa using hxy
 simp -implicitDefEqProofs [acv]
 refine aj hw ?_
 simp -implicitDefEqProofs
 refine aef (aeh c).length (fun k s=>s.env 1=I x∧s.env 2=I y∧s.env 10=cu (aeh c)∧s.env 11=I (kL x y ((aeh c).take k))∧s.env 37=cu (aeh c)∧s.env 38=I (aeh c).length∧s.env 39=I k) ?_ ?_
 ·simp[kL]
 rintro k s hk ⟨e1,e2,bC,bf,gi,gj,gC⟩
 simp -implicitDefEqProofs [gj,gC]
 refine bA (fun hlt=> ?_) (fun hge=> ?_)
 ·have hlt:k<(aeh c).length:=by omega
  have hb:=acs x y ((aeh c).take k) (aeh c)[k]
  rw[←ael hlt] at hb
  have xq:=OQ x y ((aeh c).take k)
  have zL:((aeh c).take k).length≤3125:=by simp;omega
  generalize fK:(aeh c)[k]=o at*
  have i1:=FA o x
  have i2:=FA o y
  simp -implicitDefEqProofs [e1,gi,gC,hlt,fK]
  refine aj i1 ?_
  simp -implicitDefEqProofs [e2]
  refine aj i2 ?_
  by_cases br:fS o x<fS o y
  ·rw[if_pos br] at hb
   simp -implicitDefEqProofs [bf,gC,br]
   refine⟨i64 (by omega) (by omega),i64 (by omega) (by omega),aQ hlt ?_⟩
   simp[e1,e2,bC,gi,gj,hb]
  ·rw[if_neg br] at hb
   simp -implicitDefEqProofs [gC,br]
   refine⟨i64 (by omega) (by omega),aQ hlt ?_⟩
   simp[e1,e2,bC,bf,gi,gj,hb]
 ·obtain rfl:k=(aeh c).length:=by omega
  rw[List.take_length] at bf
  have xq:=OQ x y (aeh c)
  unfold beforeL at hR
  by_cases hz:aeh c=[]
  ·rw[if_pos hz] at hR
   simp -implicitDefEqProofs [bC,hz,oI,hR]
  rw[if_neg hz] at hR
  have hz2:¬(aeh c).length=0:=by simpa using hz
  have dQ:(((aeh c).length:Int)==0)=false:=by simp;exact hz
  by_cases h1:kL x y (aeh c)=(aeh c).length
  ·rw[if_pos h1] at hR
   simp -implicitDefEqProofs [bC,bf,dQ,h1,oI,hR]
  rw[if_neg h1] at hR
  have jc:((kL x y (aeh c):Int)==((aeh c).length:Int))=false:=by simp;omega
  by_cases h2:kL x y (aeh c)=0
  ·rw[if_pos h2] at hR
   rw[h2] at bf jc
   have acw:((0:Int)==((aeh c).length:Int))=false:=jc
   simp -implicitDefEqProofs [bC,bf,dQ,acw,oI,hR]
  ·rw[if_neg h2] at hR
   have oM:((kL x y (aeh c):Int)==0)=false:=by simp;omega
   simp -implicitDefEqProofs [bC,bf,dQ,jc,oM,oI,hR]
def s5(c:Case)(g:Int):List Int×List Int×Int:=if bh c≠0 then ([],[],bh c) else if out 0 (c.aA - 1) [g]=true then ([],[],4) else if aH c 0=[] then ([],[],8) else (bJ (kK c g (aH c 0)),bJ (aeX c g (aH c 0)),0)
theorem acy(c:Case)(g:Int):aed Tryz.prog 38 [cj c,I g] (.tuple [IL (s5 c g).1,IL (s5 c g).2.1,I (s5 c g).2.2]):=by
 refine pc t38 (by simp) fun _=> ?_
 have he:=oP c
 have hs:bh c=0→0≤g∧g<c.aA→aed Tryz.prog 74 [cj c,I g] (OH c g (aH c 0)):=fun e=>OI (fF e)
 have hgg:bh c=0→1≤c.aA∧c.aA≤5:=fun e=>(fF e).aA
 have zM:bh c=0→aeX c g (aH c 0)<16:=fun e=>FH (fF e) g (aI:=0) fun x hx=>hx
 have ho:=aet 0 (c.aA - 1) [g]
 have ho1:=aeC 0 (c.aA - 1) g
 have hR:s5 c g=if bh c≠0 then ([],[],bh c) else if out 0 (c.aA - 1) [g]=true then ([],[],4) else if aH c 0=[] then ([],[],8) else (bJ (kK c g (aH c 0)),bJ (aeX c g (aH c 0)),0):=rfl
 obtain⟨E,hE⟩:∃E,E=bh c:=⟨_,rfl⟩
 rw[←hE] at hs hR hgg zM
 rw[show(cC c).2.2=E from hE.symm] at he
 generalize out 0 (c.aA - 1) [g]=o at*
 simp -implicitDefEqProofs [yh]
 refine aj he ?_
 simp -implicitDefEqProofs
 intro b
 refine bR (fun h=> ?_) (fun h=> ?_)
 ·have h:¬E=0:=by simpa using h
  rw[if_pos h] at hR
  simp -implicitDefEqProofs [r38,hR]
 have h:E=0:=by simpa using h
 subst h
 rw[if_neg (by simp)] at hR
 have hgg:=hgg rfl
 have zM:=zM rfl
 have hs:=hs rfl
 simp -implicitDefEqProofs
 refine⟨i64 (by omega) (by omega),?_⟩
 refine aj ho ?_
 cases o with
 |true=>
  rw[if_pos rfl] at hR
  simp -implicitDefEqProofs [r38,hR]
 |false=>
 rw[if_neg (by simp)] at hR
 have hg:0≤g∧g<c.aA:=by
  have:decide (0≤g∧g≤c.aA - 1)=true:=by simpa using ho1.symm
  have:=of_decide_eq_true this
  omega
 have hs:=hs hg
 have l1:=qJ (n:=kK c g (aH c 0)) (by have:=OG c g (aH c 0);omega)
 have l2:=qJ (n:=aeX c g (aH c 0)) (by omega)
 simp -implicitDefEqProofs
 refine aj hs ?_
 by_cases hz:aH c 0=[]
 ·rw[if_pos hz] at hR
  simp -implicitDefEqProofs [r38,hR,hz]
 ·rw[if_neg hz] at hR
  have s6:aga c g (aH c 0)=(kK c g (aH c 0):Nat):=if_neg hz
  simp -implicitDefEqProofs [hz,s6]
  refine aj l1 ?_
  simp -implicitDefEqProofs
  refine aj l2 ?_
  simp -implicitDefEqProofs [r38,hR]
end Go.Proofs.YtnncgmimhdplfaaGreat.P
namespace Go.Proofs.YtnncgmimhdplfaaGreat.P
open Go.aq
theorem fZ{α β:Type}(f:α→List β)(m:Nat):∀l:List α,(∀x∈l,(f x).length≤m)→(l.flatMap f).length≤l.length*m
 |[],_=>by simp
 |x::l,h=>by
  have h1:=h x (by simp)
  have h2:=fZ f m l (fun y hy=>h y (by simp[hy]))
  simp only[List.flatMap_cons,List.length_append,List.length_cons,Nat.add_mul]
  omega
theorem zN{c:Case}(h:c.OK)(aI:Nat):(aH c aI).length≤253125:=by
 have hg:=h.aA
 have h1:(bM c).length≤_:=vZ c.aA.toNat c.aA.toNat
 have h2:c.aA.toNat^c.aA.toNat≤5^5:=Nat.le_trans (Nat.pow_le_pow_left (show c.aA.toNat≤5 by omega) _) (Nat.pow_le_pow_right (by omega) (by omega))
 have h3:=Oy h
 have h4:=fZ (wk c aI) 3125 (dB c) fun p _=>by
  unfold wk
  rw[List.length_map]
  have:=List.length_filter_le (jS c aI p) (bM c)
  omega
 have h5:(aH c aI).length≤(dB c).length*3125:=h4
 omega
def dN{α:Type}(f:α→Int)(l:List α):Ends:=l.foldl (fun e x=>e.add (f x)) ⟨0,0,0⟩
theorem OR{α:Type}(f:α→Int)(l:List α)(x:α):dN f (l++[x])=(dN f l).add (f x):=by simp[dN]
theorem zO(e:Ends)(n:Int):(e.add n).met=e.met+1:=by
 unfold Ends.add
 split
 ·rename_i h;simp[h]
 ·rfl
theorem ahE{α:Type}(f:α→Int)(l:List α):(dN f l).met=l.length:=by
 have:∀(l:List α) (e:Ends),(l.foldl (fun e x=>e.add (f x)) e).met=e.met+l.length:=by
  intro l
  induction l with
  |nil=>intro e;rfl
  |cons x l ih=>intro e;simp only[List.foldl_cons,ih,zO,List.length_cons];omega
 rw[dN,this];simp
def leftOf(c:Case)(x:List Int×List Int):Int:=x.1.sum - c.run*c.aA
def jn(c:Case)(x:List Int×List Int):Int:=used x.1 0 (c.run*c.aA)
structure FQ where
 a:Int
 b:Int
 x:Int
 y:Int
 e:Int
def jT(c:Case):FQ:=if bh c≠0 then ⟨0,0,0,0,bh c⟩ else if aH c 0=[] then ⟨0,0,0,0,8⟩ else ⟨(dN (leftOf c) (aH c 0)).lo,(dN (leftOf c) (aH c 0)).hi,(dN (jn c) (aH c 0)).lo,(dN (jn c) (aH c 0)).hi,0⟩
abbrev FQ.av(r:FQ):AV:=.tuple [oX r.a r.b,oX r.x r.y,I r.e]
theorem acz(c:Case):aed Tryz.prog 39 [cj c] (jT c).av:=by
 refine pc t39 (by simp) fun _=> ?_
 have he:=oP c
 have hok:bh c=0→c.OK:=fF
 have hR:jT c=if bh c≠0 then ⟨0,0,0,0,bh c⟩ else if aH c 0=[] then ⟨0,0,0,0,8⟩ else ⟨(dN (leftOf c) (aH c 0)).lo,(dN (leftOf c) (aH c 0)).hi,(dN (jn c) (aH c 0)).lo,(dN (jn c) (aH c 0)).hi,0⟩:=rfl
 obtain⟨E,hE⟩:∃E,E=bh c:=⟨_,rfl⟩
 rw[←hE] at hok hR
 rw[show(cC c).2.2=E from hE.symm] at he
 generalize jT c=R at*
 have ht:aed Tryz.prog 77 [cj c,I 0] (.func (.func 109) [] [bn c,.ref [I 0]]):=zC c 0
 simp -implicitDefEqProofs [JZ]
 intro b2 b3 h23
 refine aj he ?_
 simp -implicitDefEqProofs
 intro b5 h5
 have n32:¬b2=b3:=fun e=>h23 e.symm
 have OS:¬b5=b3:=by rintro rfl;simp at h5
 have n52:¬b5=b2:=by rintro rfl;simp[OS] at h5
 have wq:¬b3=b5:=fun e=>OS e.symm
 have wu:¬b2=b5:=fun e=>n52 e.symm
 refine bR (fun h=> ?_) (fun h=> ?_)
 ·have h:¬E=0:=by simpa using h
  rw[if_pos h] at hR
  simp -implicitDefEqProofs [wu,wq,n32,h23,yj,hR]
 have h:E=0:=by simpa using h
 subst h
 rw[if_neg (by simp)] at hR
 have hok:=hok rfl
 simp -implicitDefEqProofs
 intro b6 h6 b7 h7 b8 h8
 have n63:¬b6=b3:=by rintro rfl;simp[wq] at h6
 have FR:¬b6=b2:=by rintro rfl;simp[wu,n32] at h6
 have zP:¬b7=b6:=by rintro rfl;simp at h7
 have n73:¬b7=b3:=by rintro rfl;simp[zP,wq] at h7
 have n72:¬b7=b2:=by rintro rfl;simp[zP,wu,n32] at h7
 have qF:¬b8=b7:=by rintro rfl;simp at h8
 have sO:¬b8=b6:=by rintro rfl;simp[qF] at h8
 have n83:¬b8=b3:=by rintro rfl;simp[qF,sO,wq] at h8
 have n82:¬b8=b2:=by rintro rfl;simp[qF,sO,wu,n32] at h8
 refine aj ht ?_
 simp -implicitDefEqProofs
 clear h5 h6 h7 h8
 have m36:¬b3=b6:=fun e=>n63 e.symm
 have uZ:¬b2=b6:=fun e=>FR e.symm
 have u9:¬b6=b7:=fun e=>zP e.symm
 have m37:¬b3=b7:=fun e=>n73 e.symm
 have m27:¬b2=b7:=fun e=>n72 e.symm
 have yw:¬b7=b8:=fun e=>qF e.symm
 have u_:¬b6=b8:=fun e=>sO e.symm
 have yh:¬b3=b8:=fun e=>n83 e.symm
 have yg:¬b2=b8:=fun e=>n82 e.symm
 have hz:(⟨0,0,0⟩:Ends).cs=[I 0,I 0,I 0]:=rfl
 refine rP ((aH c 0).map fun x=>ij c x.1 x.2) (fun k s=>s.env 1=bn c∧s.env 2=.au b2 0∧s.env 3=.au b3 0∧s.env 6=.au b6 0∧s.env 7=.au b7 0∧s.env 8=.ref [.func (.func 76) [.au b6 0] []]∧s.loc b2=some [I 0,I 0]∧s.loc b3=some [I 0,I 0]∧s.loc b6=some (dN (leftOf c) ((aH c 0).take k)).cs∧s.loc b7=some (dN (jn c) ((aH c 0).take k)).cs) ?_ ?_ ?_ ?_
 ·have:=zB hok (aI:=0) (by omega)
  rw[zF] at this
  exact this
 ·simp[n32,wq,wu,m36,uZ,u9,m37,m27,yw,u_,yh,yg,dN]
 ·rintro k st hk - ⟨e1,e2,e3,e6,e7,e8,l2,l3,l6,l7⟩ d sz len cap cs hd fU
  have hk:k<(aH c 0).length:=by simpa using hk
  have hm:=List.getElem_mem hk
  have nU:=ael hk
  have s1:=OR (leftOf c) ((aH c 0).take k) (aH c 0)[k]
  have s2:=OR (jn c) ((aH c 0).take k) (aH c 0)[k]
  rw[←nU] at s1 s2
  have hp:=zG hok hm
  have we:=Fp hok
  have iT:=hp.sum hok (aH c 0)[k].1.length
  rw[List.take_length] at iT
  rw[show((aH c 0).map fun x=>ij c x.1 x.2).getD k .any=ij c (aH c 0)[k].1 (aH c 0)[k].2 by simp[hk]] at fU⊢
  have t1:=ahE (leftOf c) ((aH c 0).take k)
  have t2:=ahE (jn c) ((aH c 0).take k)
  have t3:=zN hok 0
  have t4:((aH c 0).take k).length≤k:=by rw[List.length_take];omega
  generalize (aH c 0)[k]=z at*
  obtain⟨p,o⟩:=z
  simp only at iT
  have q2:¬b2=d:=by rintro rfl;rw[l2] at hd;cases hd
  have q3:¬b3=d:=by rintro rfl;rw[l3] at hd;cases hd
  have q6:¬b6=d:=by rintro rfl;rw[l6] at hd;cases hd
  have q7:¬b7=d:=by rintro rfl;rw[l7] at hd;cases hd
  simp -implicitDefEqProofs [putAt]
  intro b9 h9
  have q9:¬d=b9:=by rintro rfl;simp at h9
  have p2:¬b2=b9:=by rintro rfl;simp[q2,l2] at h9
  have p3:¬b3=b9:=by rintro rfl;simp[q3,l3] at h9
  have p6:¬b6=b9:=by rintro rfl;simp[q6,l6] at h9
  have p7:¬b7=b9:=by rintro rfl;simp[q7,l7] at h9
  simp -implicitDefEqProofs [e1,e8]
  refine⟨i64 (by omega) (by omega),i64 (by omega) (by omega),?_⟩
  refine ON (e:=dN (leftOf c) ((aH c 0).take k)) (by simp[p6,q6,l6]) (by omega) fun w w1 w2 w3=> ?_
  have u7:w.loc b7=some (dN (jn c) ((aH c 0).take k)).cs:=by rw[w2 b7 zP];simp[p7,q7,l7]
  have u2:w.loc b2=some [I 0,I 0]:=by rw[w2 b2 uZ];simp[p2,q2,l2]
  have u3:w.loc b3=some [I 0,I 0]:=by rw[w2 b3 m36];simp[p3,q3,l3]
  have ud:w.loc d=some cs:=by rw[w2 d fun e=>q6 e.symm];simp[q9]
  simp -implicitDefEqProofs [e7]
  refine ON (e:=dN (jn c) ((aH c 0).take k)) (by simp[u7]) (by omega) fun v v1 v2 v3=> ?_
  have x6:v.loc b6=some (dN (leftOf c) ((aH c 0).take (k+1))).cs:=by rw[v2 b6 u9,s1];simp -implicitDefEqProofs;exact w1
  have x7:v.loc b7=some (dN (jn c) ((aH c 0).take (k+1))).cs:=by rw[s2];exact v1
  have x2:v.loc b2=some [I 0,I 0]:=by rw[v2 b2 m27];simp[u2]
  have x3:v.loc b3=some [I 0,I 0]:=by rw[v2 b3 m37];simp[u3]
  have xd:v.loc d=some cs:=by rw[v2 d fun e=>q7 e.symm];simp[ud]
  simp -implicitDefEqProofs [x6,x7,x2,x3,xd,q2,q3,q6,q7]
 ·rintro st - ⟨e1,e2,e3,e6,e7,e8,l2,l3,l6,l7⟩
  have hl:((aH c 0).map fun x=>ij c x.1 x.2).length=(aH c 0).length:=by simp
  rw[hl,List.take_length] at l6 l7
  have t1:=ahE (leftOf c) (aH c 0)
  have t3:=zN hok 0
  by_cases hz:aH c 0=[]
  ·rw[if_pos hz] at hR
   have l6:st.loc b6=some [I 0,I 0,I 0]:=by rw[l6,hz];rfl
   simp -implicitDefEqProofs [e2,e3,e6,l2,l3,l6,n32,h23,yj,hR]
  ·rw[if_neg hz] at hR
   have hm:(((dN (leftOf c) (aH c 0)).met:Int)==0)=false:=by
    have:=List.length_pos_iff.2 hz
    simp;omega
   simp -implicitDefEqProofs [e6,l6,hm]
   refine OP (e:=dN (leftOf c) (aH c 0)) (by simp[l6]) fun w w1 w2=> ?_
   have u7:w.loc b7=some (dN (jn c) (aH c 0)).cs:=by rw[w1 b7 (by simp[l7])];simp[l7]
   have u2:w.loc b2=some [I 0,I 0]:=by rw[w1 b2 (by simp[l2])];simp[l2]
   have u3:w.loc b3=some [I 0,I 0]:=by rw[w1 b3 (by simp[l3])];simp[l3]
   simp -implicitDefEqProofs [e7]
   refine OP (e:=dN (jn c) (aH c 0)) (by simp[u7]) fun v v1 v2=> ?_
   have x2:v.loc b2=some [I 0,I 0]:=by rw[v1 b2 (by simp[u2])];simp[u2]
   have x3:v.loc b3=some [I 0,I 0]:=by rw[v1 b3 (by simp[u3])];simp[u3]
   simp -implicitDefEqProofs [e2,e3,x2,x3,n32,h23,yj,hR]
end Go.Proofs.YtnncgmimhdplfaaGreat.P
namespace Go.Proofs.YtnncgmimhdplfaaGreat.P
open Go.aq
def nV(c:Case)(p:List Int):Nat→Nat
 |0=>0
 |k+1=>nV c p k ||| bP c p k
def mN(c:Case)(p:List Int):Nat:=nV c p 5
theorem OT{c:Case}(h:c.OK){p:List Int}(hp:afj c p)(k:Nat):bP c p k<2^c.aB.length:=by
 unfold bP
 split
 ·exact E2 h p k _ (by rw[hp.len];exact Nat.le_refl _)
 ·exact Nat.pow_pos (by omega)
theorem FT{c:Case}(h:c.OK){p:List Int}(hp:afj c p):∀k,nV c p k<2^c.aB.length
 |0=>Nat.pow_pos (by omega)
 |k+1=>Nat.or_lt_two_pow (FT h hp k) (OT h hp k)
theorem OU{c:Case}(h:c.OK){p:List Int}(hp:afj c p)(k:Nat):nV c p k<16:=Nat.lt_of_lt_of_le (FT h hp k) (NP h)
theorem acA{c:Case}(h:c.OK){p:List Int}(hp:afj c p){x:Int}(hx:x∈bJ (mN c p)):0≤x∧x<c.aB.length:=by
 obtain⟨j,rfl,h1,h2⟩:=EF hx
 refine⟨by omega,?_⟩
 by_cases hj:j<c.aB.length
 ·omega
 ·have:(mN c p).testBit j=false:=Nat.testBit_lt_two_pow (Nat.lt_of_lt_of_le (FT h hp 5) (Nat.pow_le_pow_right (by omega) (by omega)))
  rw[this] at h2;cases h2
def mO(f:eV→Int)(c:Case)(l:List Int):Int:=l.foldl (fun a i=>max a ((c.aB.map f).getD i.toNat 0)) 0
theorem OV(f:eV→Int)(c:Case)(l:List Int)(i:Int):mO f c (l++[i])=max (mO f c l) ((c.aB.map f).getD i.toNat 0):=by simp[mO]
def wv(c:Case)(p:List Int):Int:=mO eV.lo c (bJ (mN c p))
def zQ(c:Case)(p:List Int):Int:=mO eV.hi c (bJ (mN c p))
def gq(c:Case)(l:List (List Int×List Int)):Ends:=l.foldl (fun e x=>(e.add (wv c x.1)).add (zQ c x.1)) ⟨0,0,0⟩
theorem acB(c:Case)(l:List (List Int×List Int))(x:List Int×List Int):gq c (l++[x])=((gq c l).add (wv c x.1)).add (zQ c x.1):=by simp[gq]
theorem OW(c:Case)(l:List (List Int×List Int)):(gq c l).met=2*l.length:=by
 have:∀(l:List (List Int×List Int)) (e:Ends),(l.foldl (fun e x=>(e.add (wv c x.1)).add (zQ c x.1)) e).met=e.met+2*l.length:=by
  intro l
  induction l with
  |nil=>intro e;rfl
  |cons x l ih=>intro e;simp only[List.foldl_cons,ih,zO,List.length_cons];omega
 rw[gq,this];simp
structure FU where
 a:Int
 b:Int
 e:Int
def nW(c:Case):FU:=if bh c≠0 then ⟨0,0,bh c⟩ else if aH c 0=[] then ⟨0,0,8⟩ else ⟨(gq c (aH c 0)).lo,(gq c (aH c 0)).hi,0⟩
abbrev FU.av(r:FU):AV:=.tuple [oX r.a r.b,I r.e]
theorem acC(c:Case):aed Tryz.prog 40 [cj c] (nW c).av:=by
 refine pc t40 (by simp) fun _=> ?_
 have he:=oP c
 have hok:bh c=0→c.OK:=fF
 have hR:nW c=if bh c≠0 then ⟨0,0,bh c⟩ else if aH c 0=[] then ⟨0,0,8⟩ else ⟨(gq c (aH c 0)).lo,(gq c (aH c 0)).hi,0⟩:=rfl
 obtain⟨E,hE⟩:∃E,E=bh c:=⟨_,rfl⟩
 rw[←hE] at hok hR
 rw[show(cC c).2.2=E from hE.symm] at he
 generalize nW c=R at*
 have ht:aed Tryz.prog 77 [cj c,I 0] (.func (.func 109) [] [bn c,.ref [I 0]]):=zC c 0
 simp -implicitDefEqProofs [J0]
 intro b2
 refine aj he ?_
 simp -implicitDefEqProofs
 intro b4 h4
 have wz:¬b2=b4:=fun e=>h4 e.symm
 refine bR (fun h=> ?_) (fun h=> ?_)
 ·have h:¬E=0:=by simpa using h
  rw[if_pos h] at hR
  simp -implicitDefEqProofs [wz,r40,hR]
 have h:E=0:=by simpa using h
 subst h
 rw[if_neg (by simp)] at hR
 have hok:=hok rfl
 simp -implicitDefEqProofs
 intro b6 h6
 have FR:¬b6=b2:=by rintro rfl;simp[wz] at h6
 have FV:¬b2=b6:=fun e=>FR e.symm
 refine aj ht ?_
 simp -implicitDefEqProofs
 refine rP ((aH c 0).map fun x=>ij c x.1 x.2) (fun k s=>s.env 1=bn c∧s.env 2=.au b2 0∧s.env 6=.au b6 0∧s.loc b2=some [I 0,I 0]∧s.loc b6=some (gq c ((aH c 0).take k)).cs) ?_ ?_ ?_ ?_
 ·have:=zB hok (aI:=0) (by omega)
  rw[zF] at this
  exact this
 ·simp[wz,FV,gq]
 ·rintro k st hk - ⟨e1,e2,e6,l2,l6⟩ d sz len cap cs hd fU
  have g1:=e1;have g2:=e2;have g6:=e6
  have hk:k<(aH c 0).length:=by simpa using hk
  have hm:=List.getElem_mem hk
  have nU:=ael hk
  have s1:=acB c ((aH c 0).take k) (aH c 0)[k]
  rw[←nU] at s1
  have hp:=zG hok hm
  rw[show((aH c 0).map fun x=>ij c x.1 x.2).getD k .any=ij c (aH c 0)[k].1 (aH c 0)[k].2 by simp[hk]] at fU⊢
  have t1:=OW c ((aH c 0).take k)
  have t3:=zN hok 0
  have t4:((aH c 0).take k).length≤k:=by rw[List.length_take];omega
  generalize (aH c 0)[k]=z at*
  obtain⟨p,o⟩:=z
  simp only at s1 hp
  have q2:¬b2=d:=by rintro rfl;rw[l2] at hd;cases hd
  have q6:¬b6=d:=by rintro rfl;rw[l6] at hd;cases hd
  simp -implicitDefEqProofs [putAt]
  intro b9 h9
  have q9:¬d=b9:=by rintro rfl;simp at h9
  have p2:¬b2=b9:=by rintro rfl;simp[q2,l2] at h9
  have p6:¬b6=b9:=by rintro rfl;simp[q6,l6] at h9
  refine aef 5 (fun i s=>s.env 1=bn c∧s.env 6=.au b6 0∧s.loc b2=some [I 0,I 0]∧s.loc b6=some (gq c ((aH c 0).take k)).cs∧s.loc d=some cs∧s.env 8=I (nV c p i)∧s.env 28=jl (bP c p)∧s.env 29=I i) ?_ ?_
  ·have:jl (bP c p)=.agg [I (bP c p 0:Nat),I (bP c p 1:Nat),I (bP c p 2:Nat),I (bP c p 3:Nat),I (bP c p 4:Nat)]:=rfl
   simp[e1,e6,l2,l6,q9,p2,p6,q2,q6,this,nV]
  rintro i s hi ⟨e1,e6,l2,l6,ld,e8,fD,vB⟩
  simp -implicitDefEqProofs [vB]
  refine bA (fun hlt=> ?_) (fun hge=> ?_)
  ·have hlt:i<5:=by omega
   have eY:=zk _ (OU hok hp i) _ (zA hok hp i)
   have hs:nV c p (i+1)=nV c p i ||| bP c p i:=rfl
   rw[←hs] at eY
   simp -implicitDefEqProofs [e8,fD,vB,ef,kF,hlt,eY]
   refine⟨by omega,i64 (by omega) (by omega),aQ hlt ?_⟩
   simp[e1,e6,l2,l6,ld,fD]
  obtain rfl:i=5:=by omega
  have wA:=qJ (n:=mN c p) (by have:=OU hok hp 5;show nV c p 5<256;omega)
  have FW:=fun x hx=>acA hok hp (x:=x) hx
  have FX:(bJ (mN c p)).length≤8:=nH _ _
  have gw:wv c p=mO eV.lo c (bJ (mN c p)):=rfl
  have hyh:zQ c p=mO eV.hi c (bJ (mN c p)):=rfl
  have e8:s.env 8=I (mN c p):=e8
  generalize bJ (mN c p)=B at*
  simp -implicitDefEqProofs [e8]
  refine aj wA ?_
  simp -implicitDefEqProofs
  refine aef B.length (fun j s=>s.env 1=bn c∧s.env 6=.au b6 0∧s.loc b2=some [I 0,I 0]∧s.loc b6=some (gq c ((aH c 0).take k)).cs∧s.loc d=some cs∧s.env 11=I (mO eV.lo c (B.take j))∧s.env 12=I (mO eV.hi c (B.take j))∧s.env 37=IL B∧s.env 38=I B.length∧s.env 39=I j) ?_ ?_
  ·simp[e1,e6,l2,l6,ld,mO]
  rintro j s hj ⟨e1,e6,l2,l6,ld,bf,bF,gi,gj,gC⟩
  simp -implicitDefEqProofs [gj,gC]
  refine bA (fun hlt=> ?_) (fun hge=> ?_)
  ·have hlt:j<B.length:=by omega
   have hx:=FW _ (List.getElem_mem hlt)
   have w1:=OV eV.lo c (B.take j) B[j]
   have w2:=OV eV.hi c (B.take j) B[j]
   rw[←ael hlt] at w1 w2
   generalize FY:B[j]=x at*
   obtain⟨y,rfl⟩:∃y:Nat,x=y:=⟨x.toNat,by omega⟩
   have hy:y<c.aB.length:=by omega
   simp[hy] at w1 w2
   simp -implicitDefEqProofs [e1,bf,bF,gi,gC,hlt,FY,hy]
   refine⟨i64 (by omega) (by omega),aQ hlt ?_⟩
   simp[e1,e6,l2,l6,ld,gi,gj,w1,w2]
   omega
  obtain rfl:j=B.length:=by omega
  rw[List.take_length] at bf bF
  rw[←gw] at bf
  rw[←hyh] at bF
  simp -implicitDefEqProofs [e6,bf]
  refine OO (e:=gq c ((aH c 0).take k)) (by simp[l6]) (by omega) fun w w1 w2 w3=> ?_
  have u2:w.loc b2=some [I 0,I 0]:=by rw[w2 b2 FV];simp[l2]
  have ud:w.loc d=some cs:=by rw[w2 d fun e=>q6 e.symm];simp[ld]
  simp -implicitDefEqProofs [e6,bF]
  refine OO (e:=(gq c ((aH c 0).take k)).add (wv c p)) (by simp[w1]) (by rw[zO];omega) fun v v1 v2 v3=> ?_
  have x2:v.loc b2=some [I 0,I 0]:=by rw[v2 b2 FV];simp[u2]
  have xd:v.loc d=some cs:=by rw[v2 d fun e=>q6 e.symm];simp[ud]
  rw[←s1] at v1
  simp -implicitDefEqProofs [v1,x2,xd,q2,q6]
 ·rintro st - ⟨e1,e2,e6,l2,l6⟩
  have hl:((aH c 0).map fun x=>ij c x.1 x.2).length=(aH c 0).length:=by simp
  rw[hl,List.take_length] at l6
  have t1:=OW c (aH c 0)
  have t3:=zN hok 0
  by_cases hz:aH c 0=[]
  ·rw[if_pos hz] at hR
   have l6:st.loc b6=some [I 0,I 0,I 0]:=by rw[l6,hz];rfl
   simp -implicitDefEqProofs [e2,e6,l2,l6,r40,hR]
  ·rw[if_neg hz] at hR
   have hm:(((gq c (aH c 0)).met:Int)==0)=false:=by
    have:=List.length_pos_iff.2 hz
    simp;omega
   simp -implicitDefEqProofs [e6,l6,hm]
   refine acp (e:=gq c (aH c 0)) (by simp[l6]) fun w w1 w2=> ?_
   have u2:w.loc b2=some [I 0,I 0]:=by rw[w1 b2 (by simp[l2])];simp[l2]
   simp -implicitDefEqProofs [e2,u2,r40,hR]
end Go.Proofs.YtnncgmimhdplfaaGreat.P
namespace Go.Proofs.YtnncgmimhdplfaaGreat.P
open Go.aq
def gZ(c:Case)(aI:Nat):Bool:=decide (aH c aI≠[])
def oU:Option Nat→Int
 |none=> -1
 |some b=>b
def s7(c:Case):List Int×Int:=if bh c≠0 then ([],bh c) else match aeT (gZ c) (2^c.seen.length) with
 |none=>([],9)
 |some b=>(bJ b,0)
theorem OX{c:Case}(hok:c.OK){k:Nat}(hk:k<256){b6:Nat}{old N:Int}{kn:St→Prop}{ke:Nat→St→Prop}{kr:St→Prop}{s:St}
  (e4:s.env 4=bn c)(e6:s.env 6=.au b6 0)(e7:s.env 7=.ref [I k])(dL:s.env 19=I N)(e20:s.env 20=I k)(l6:s.loc b6=some [I old])
  (hn:aH c k=[]→∀st,st.env 4=bn c→st.env 6=.au b6 0→st.env 19=I N→st.env 20=I k→st.loc b6=some [I old]→kn st)
  (hx:aH c k≠[]→∀st,st.env 4=bn c→st.env 6=.au b6 0→st.env 19=I N→st.env 20=I k→st.loc b6=some [I k]→ke 2 st):
  xT Tryz.prog 8 [34] .skip (.block 3 (.seq (.aa [.load 35 (.t 7) none,.store (.t 6) (.t 35) 1 0]) (.exit 2))) kn ke kr s (.func (.func 109) [] [bn c,.ref [I k]]):=by
 have g4:=e4;have g6:=e6;have g19:=dL;have g20:=e20
 refine rP ((aH c k).map fun x=>ij c x.1 x.2) (fun j s=>j=0∧s.env 4=bn c∧s.env 6=.au b6 0∧s.env 7=.ref [I k]∧s.env 19=I N∧s.env 20=I k∧s.loc b6=some [I old]) ?_ ?_ ?_ ?_
 ·have:=zB hok hk
  rw[zF] at this
  exact this
 ·simp[e4,e6,e7,dL,e20,l6]
 ·rintro j st hj - ⟨rfl,e4,e6,e7,dL,e20,l6⟩ d sz len cap cs hd fU
  have hne:aH c k≠[]:=by intro e;rw[e] at hj;simp at hj
  have hbd:¬b6=d:=by rintro rfl;rw[l6] at hd;cases hd
  have hdb:¬d=b6:=fun e=>hbd e.symm
  simp -implicitDefEqProofs [e6,e7,l6,hbd,hdb]
  exact hx hne _ (by simp[g4]) (by simp[g6]) (by simp[g19]) (by simp[g20]) (by simp[hbd])
 ·rintro st - ⟨h0,e4,e6,e7,dL,e20,l6⟩
  have he:aH c k=[]:=by simpa using h0
  exact hn he st e4 e6 dL e20 l6
theorem acD(c:Case):aed Tryz.prog 41 [cj c] (.tuple [IL (s7 c).1,I (s7 c).2]):=by
 refine pc t41 (by simp) fun _=> ?_
 have he:=oP c
 have hok:bh c=0→c.OK:=fF
 have h8:bh c=0→c.seen.length≤8:=fun h=>(Fg h).2.1
 have hR:s7 c=if bh c≠0 then ([],bh c) else match aeT (gZ c) (2^c.seen.length) with
  |none=>([],9)
  |some b=>(bJ b,0):=rfl
 obtain⟨E,hE⟩:∃E,E=bh c:=⟨_,rfl⟩
 rw[←hE] at hok hR h8
 rw[show(cC c).2.2=E from hE.symm] at he
 generalize s7 c=R at*
 simp -implicitDefEqProofs [J1]
 refine aj he ?_
 simp -implicitDefEqProofs
 intro b4
 refine bR (fun h=> ?_) (fun h=> ?_)
 ·have h:¬E=0:=by simpa using h
  rw[if_pos h] at hR
  simp -implicitDefEqProofs [ym,hR]
 have h:E=0:=by simpa using h
 subst h
 rw[if_neg (by simp)] at hR
 have hok:=hok rfl
 have h8:=h8 rfl
 obtain⟨N,hN⟩:∃N,N=2^c.seen.length:=⟨_,rfl⟩
 have ad8:N≤256:=by rw[hN];exact Nat.le_trans (Nat.pow_le_pow_right (by omega) h8) (by decide)
 have hsh:=zx (k:=c.seen.length) (by omega)
 rw[←hN] at hsh hR
 have OY:=NX (gZ c)
 simp -implicitDefEqProofs [hsh]
 intro b6
 refine aef N (fun k s=>s.env 4=bn c∧s.env 6=.au b6 0∧s.loc b6=some [I (oU (aeT (gZ c) k))]∧s.env 19=I N∧s.env 20=I k) ?_ ?_
 ·have:((2:Int)^c.seen.length)=(N:Int):=by rw[hN];simp
  simp[aeT,oU]
 rintro k s hk ⟨e4,e6,l6,dL,e20⟩
 simp -implicitDefEqProofs [dL,e20]
 refine bA (fun hlt=> ?_) (fun hge=> ?_)
 ·have hlt:k<N:=by omega
  have hsp:=OY k (by omega)
  have hq:gZ c k=decide (aH c k≠[]):=rfl
  simp -implicitDefEqProofs [e20]
  intro b7 h7
  have wB:¬b6=b7:=by rintro rfl;rw[l6] at h7;cases h7
  have ht:=zC c k
  cases hb:aeT (gZ c) k with
  |none=>
   rw[hb] at l6
   have l6:s.loc b6=some [I (-1)]:=l6
   have fe:aeT (gZ c) (k+1)=if gZ c k then some k else none:=by unfold aeT;rw[hb]
   simp -implicitDefEqProofs [e4,e6,l6,wB]
   refine aj ht ?_
   simp -implicitDefEqProofs
   refine OX hok (k:=k) (by omega) (b6:=b6) (old:= -1) (N:=N) (by simp[e4]) (by simp[e6]) (by simp) (by simp[dL]) (by simp[e20]) (by simp[wB,l6]) ?_ ?_
   ·intro he st f4 f6 f19 f20 g6
    rw[hq,he] at fe
    have fe:aeT (gZ c) (k+1)=none:=by simpa using fe
    simp -implicitDefEqProofs [f20]
    refine⟨i64 (by omega) (by omega),aQ hlt ?_⟩
    simp[f4,f6,f19,g6,fe,oU]
   ·intro he st f4 f6 f19 f20 g6
    rw[hq,decide_eq_true he] at fe
    have fe:aeT (gZ c) (k+1)=some k:=by simpa using fe
    simp -implicitDefEqProofs [f20]
    refine⟨i64 (by omega) (by omega),aQ hlt ?_⟩
    simp[f4,f6,f19,g6,fe,oU]
  |some b=>
   rw[hb] at l6 hsp
   have l6:s.loc b6=some [I b]:=l6
   have acE:b<256:=by have:=hsp.1;omega
   have hfw:=abw (a:=k) (b:=b) (by omega) acE
   have fe:aeT (gZ c) (k+1)=if dz (bJ k) (bJ b)&&gZ c k then some k else some b:=by rw[aeT,hb]
   simp -implicitDefEqProofs [e6,l6,wB]
   refine aj hfw ?_
   cases hle:dz (bJ k) (bJ b) with
   |false=>
    rw[hle,Bool.false_and] at fe
    have fe:aeT (gZ c) (k+1)=some b:=by simpa using fe
    simp -implicitDefEqProofs [e20]
    refine⟨i64 (by omega) (by omega),aQ hlt ?_⟩
    simp[e4,e6,l6,dL,wB,fe,oU]
   |true=>
    rw[hle,Bool.true_and] at fe
    simp -implicitDefEqProofs [e4]
    refine aj ht ?_
    simp -implicitDefEqProofs
    refine OX hok (k:=k) (by omega) (b6:=b6) (old:=b) (N:=N) (by simp[e4]) (by simp[e6]) (by simp) (by simp[dL]) (by simp[e20]) (by simp[wB,l6]) ?_ ?_
    ·intro he st f4 f6 f19 f20 g6
     rw[hq,he] at fe
     have fe:aeT (gZ c) (k+1)=some b:=by simpa using fe
     simp -implicitDefEqProofs [f20]
     refine⟨i64 (by omega) (by omega),aQ hlt ?_⟩
     simp[f4,f6,f19,g6,fe,oU]
    ·intro he st f4 f6 f19 f20 g6
     rw[hq,decide_eq_true he] at fe
     have fe:aeT (gZ c) (k+1)=some k:=by simpa using fe
     simp -implicitDefEqProofs [f20]
     refine⟨i64 (by omega) (by omega),aQ hlt ?_⟩
     simp[f4,f6,f19,g6,fe,oU]
 ·obtain rfl:k=N:=by omega
  have hsp:=OY k (by omega)
  cases hb:aeT (gZ c) k with
  |none=>
   rw[hb] at l6 hR
   have l6:s.loc b6=some [I (-1)]:=l6
   simp -implicitDefEqProofs [e6,l6,ym,hR]
  |some b=>
   rw[hb] at l6 hR hsp
   have l6:s.loc b6=some [I b]:=l6
   have wA:=qJ (n:=b) (by have:=hsp.1;omega)
   have hb0:¬(b:Int)<0:=by omega
   simp -implicitDefEqProofs [e6,l6,hb0]
   refine aj wA ?_
   simp -implicitDefEqProofs [ym,hR]
end Go.Proofs.YtnncgmimhdplfaaGreat.P
namespace Go.Proofs.YtnncgmimhdplfaaGreat.P
open Go.aq
def eW(c:Case)(g s:Int):Case:={c with seen:=c.seen++[(g,s)]}
theorem acF{c:Case}(h:c.OK)(h8:c.seen.length≤8){g s:Int}(hg:0≤g∧g<c.aA)(hs:0≤s∧s<c.aB.length):(eW c g s).OK:=by
 refine⟨h.run,h.aB,h.made,h.an,h.aW,h.aA,by simp[eW];omega,fun x hx=> ?_⟩
 rcases List.mem_append.1 hx with hx|hx
 ·exact h.seen x hx
 ·rw[List.mem_singleton] at hx
  subst hx
  exact⟨hg.1,hg.2,hs.1,hs.2⟩
def qP(c:Case)(g:Int)(l:List Int):Int:=l.foldl (fun a s=>max a (aeh (eW c g s)).length) 0
theorem acG(c:Case)(g:Int)(l:List Int)(s:Int):qP c g (l++[s])=max (qP c g l) (aeh (eW c g s)).length:=by simp[qP]
def s8(c:Case)(g:Nat):Int:=qP c g (bJ (aeX c g (aH c 0)))
def iq(c:Case):Nat→Int×Int
 |0=>(0,0)
 |g+1=>if g=0∨s8 c g<(iq c g).2 then ((g:Int),s8 c g) else iq c g
structure acH where
 g:Int
 n:Int
 e:Int
def qQ(c:Case):acH:=if bh c≠0 then ⟨0,0,bh c⟩ else if aH c 0=[] then ⟨0,0,8⟩ else ⟨(iq c c.aA.toNat).1,(iq c c.aA.toNat).2,0⟩
theorem acI{c:Case}(h:c.OK)(g:Int){x:Int}(hx:x∈bJ (aeX c g (aH c 0))):0≤x∧x<c.aB.length:=by
 obtain⟨j,rfl,h1,h2⟩:=EF hx
 refine⟨by omega,?_⟩
 have key:∀(l:List (List Int×List Int)) (a:Nat),a<2^c.aB.length→(∀x∈l,x∈aH c 0)→l.foldl (fun a x=>a ||| ae0 c g x) a<2^c.aB.length:=by
  intro l
  induction l with
  |nil=>intro a ha _;exact ha
  |cons x l ih=>
   intro a ha hl
   exact ih _ (Nat.or_lt_two_pow ha (OT h (zG h (hl x (by simp))) _)) fun y hy=>hl y (by simp[hy])
 have hm:aeX c g (aH c 0)<2^c.aB.length:=key _ 0 (Nat.pow_pos (by omega)) fun x hx=>hx
 by_cases hj:j<c.aB.length
 ·omega
 ·have:(aeX c g (aH c 0)).testBit j=false:=Nat.testBit_lt_two_pow (Nat.lt_of_lt_of_le hm (Nat.pow_le_pow_right (by omega) (by omega)))
  rw[this] at h2;cases h2
theorem acJ(c:Case):aed Tryz.prog 43 [cj c] (.tuple [I (qQ c).g,I (qQ c).n,I (qQ c).e]):=by
 refine pc t43 (by simp) fun _=> ?_
 have he:=oP c
 have hok:bh c=0→c.OK:=fF
 have h8:bh c=0→c.seen.length≤8:=fun h=>(Fg h).2.1
 have hR:qQ c=if bh c≠0 then ⟨0,0,bh c⟩ else if aH c 0=[] then ⟨0,0,8⟩ else ⟨(iq c c.aA.toNat).1,(iq c c.aA.toNat).2,0⟩:=rfl
 obtain⟨E,hE⟩:∃E,E=bh c:=⟨_,rfl⟩
 rw[←hE] at hok hR h8
 rw[show(cC c).2.2=E from hE.symm] at he
 generalize qQ c=R at*
 simp -implicitDefEqProofs [J4]
 refine aj he ?_
 simp -implicitDefEqProofs
 intro b5
 refine bR (fun h=> ?_) (fun h=> ?_)
 ·have h:¬E=0:=by simpa using h
  rw[if_pos h] at hR
  simp -implicitDefEqProofs [yo,hR]
 have h:E=0:=by simpa using h
 subst h
 rw[if_neg (by simp)] at hR
 have hok:=hok rfl
 have h8:=h8 rfl
 have sZ:=hok.aA
 obtain⟨G,hG⟩:∃G:Nat,c.aA=G:=⟨c.aA.toNat,by omega⟩
 rw[hG,Int.toNat_natCast] at hR
 simp -implicitDefEqProofs [hG]
 refine aef G (fun g s=>s.env 1=bn c∧s.env 5=bn c∧s.env 2=I (iq c g).1∧s.env 3=I (iq c g).2∧s.env 23=I G∧s.env 24=I g∧(0<g→aH c 0≠[])) ?_ ?_
 ·simp[hG,iq]
 rintro g s hg ⟨e1,e5,e2,e3,cF,e24,hne⟩
 simp -implicitDefEqProofs [cF,e24]
 refine bA (fun hlt=> ?_) (fun hge=> ?_)
 ·have hlt:g<G:=by omega
  have hs:=OI hok (g:=g) (by omega)
  simp -implicitDefEqProofs [e5,e24]
  refine aj hs ?_
  by_cases hz:aH c 0=[]
  ·rw[if_pos hz] at hR
   simp -implicitDefEqProofs [hz,yo,hR]
  rw[if_neg hz] at hR
  have zM:=FH hok (g:Int) (aI:=0) (l:=aH c 0) fun x hx=>hx
  have wA:=qJ (n:=aeX c g (aH c 0)) (by omega)
  have FW:=fun x hx=>acI hok (g:Int) (x:=x) hx
  have FX:(bJ (aeX c g (aH c 0))).length≤8:=nH _ _
  have hw:s8 c g=qP c g (bJ (aeX c g (aH c 0))):=rfl
  generalize bJ (aeX c g (aH c 0))=B at*
  simp -implicitDefEqProofs [hz]
  refine aj wA ?_
  simp -implicitDefEqProofs
  refine aef B.length (fun j s=>s.env 1=bn c∧s.env 5=bn c∧s.env 2=I (iq c g).1∧s.env 3=I (iq c g).2∧s.env 23=I G∧s.env 24=I g∧s.env 6=I g∧s.env 10=I (qP c g (B.take j))∧s.env 37=IL B∧s.env 38=I B.length∧s.env 39=I j) ?_ ?_
  ·simp[e1,e5,e2,e3,cF,e24,qP]
  rintro j s hj ⟨e1,e5,e2,e3,cF,e24,e6,bC,gi,gj,gC⟩
  simp -implicitDefEqProofs [gj,gC]
  refine bA (fun br=> ?_) (fun nA=> ?_)
  ·have br:j<B.length:=by omega
   have hx:=FW _ (List.getElem_mem br)
   have jK:=acG c g (B.take j) B[j]
   rw[←ael br] at jK
   generalize FY:B[j]=x at*
   have hmo:=acF hok h8 (g:=g) (s:=x) (by omega) hx
   have OZ:=FE hmo
   simp -implicitDefEqProofs [e5,gi,gC,br,FY]
   intro cT h13
   simp -implicitDefEqProofs [e1]
   refine acr (by omega) fun w wl=> ?_
   have cZ:w.loc cT=some (ahB c):=wl cT _ (by simp) (by simp)
   have em:cj (eW c g x)=.agg [I c.run,.slice 3 (c.aB.map gY) 0,.slice 3 (c.an.map ia) 0,I c.aA,.slice 2 (c.seen.map gG++[.agg [I g,I x]]) 0]:=by simp[eW]
   rw[em] at OZ
   simp -implicitDefEqProofs [e6,bC,cZ]
   have zK:=FO hmo
   refine⟨by omega,by omega,aj OZ ?_⟩
   simp -implicitDefEqProofs [gC]
   refine⟨i64 (by omega) (by omega),aQ br ?_⟩
   simp[e1,e5,e2,e3,cF,e24,e6,gi,gj,jK]
   omega
  obtain rfl:j=B.length:=by omega
  rw[List.take_length,←hw] at bC
  have s9:iq c (g+1)=if g=0∨s8 c g<(iq c g).2 then ((g:Int),s8 c g) else iq c g:=rfl
  by_cases kB:g=0
  ·rw[if_pos (.inl kB)] at s9
   have zR:((g:Int)==0)=true:=by simp[kB]
   simp -implicitDefEqProofs [e6,bC,e24,zR]
   refine⟨i64 (by omega) (by omega),aQ hlt ?_⟩
   simp[e1,e5,cF,s9]
  ·have zR:((g:Int)==0)=false:=by simp[kB]
   by_cases zS:s8 c g<(iq c g).2
   ·rw[if_pos (.inr zS)] at s9
    simp -implicitDefEqProofs [e3,e6,bC,e24,zR,zS]
    refine⟨i64 (by omega) (by omega),aQ hlt ?_⟩
    simp[e1,e5,cF,s9]
   ·rw[if_neg (by simp[kB,zS])] at s9
    simp -implicitDefEqProofs [e3,e6,bC,e24,zR,zS]
    refine⟨i64 (by omega) (by omega),aQ hlt ?_⟩
    simp[e1,e5,e2,e3,cF,s9]
 ·obtain rfl:g=G:=by omega
  have hne:=hne (by omega)
  rw[if_neg hne] at hR
  simp -implicitDefEqProofs [e2,e3,yo,hR]
end Go.Proofs.YtnncgmimhdplfaaGreat.P
