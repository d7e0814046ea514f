/- The case of the layer paper, as plain data: piles, places, orders, what agrees. Places of a pile, what is seen, as lists and as bits; what agrees. Sets as lists and as bits, their order, and the first of some sets in it. Contracts of small functions: outside, names. Contracts of the reference: lists, orders. Contracts of the reference: piles, places. Sets as bits: what the program's functions on bits return, run by the kernel. Contracts on sets as bits. Contracts: Check, of the program and of the reference. Contracts: the program's Check, and what enters. Contracts: the reference's Check; a case without an error. -/
import Derived.Test.YtnncgmimhdplfaaGreatZC
import Derived.Test.YtnncgmimhdplfaaGreatZE
namespace Go.Proofs.YtnncgmimhdplfaaGreat.P
open Go.aq
abbrev I(n:Int):AV:=.lit (.int .i64 n)
abbrev B(b:Bool):AV:=.lit (.bool b)
abbrev S(s:ByteArray):AV:=.lit (.string s)
abbrev IL(l:List Int):AV:=.slice 1 (l.map I) 0
abbrev cu(l:List (List Int)):AV:=.slice 1 (l.map IL) 0
abbrev SL(l:List ByteArray):AV:=.slice 1 (l.map S) 0
abbrev oX(lo hi:Int):AV:=.agg [I lo,I hi]
structure eV where
 name:ByteArray
 lo:Int
 hi:Int
structure cI where
 dA:Int
 lo:Int
 hi:Int
structure Case where
 run:Int
 aB:List eV
 an:List cI
 aA:Int
 seen:List (Int×Int)
abbrev gY(s:eV):AV:=.agg [S s.name,I s.lo,I s.hi]
abbrev ia(r:cI):AV:=.agg [I r.dA,I r.lo,I r.hi]
abbrev gG(x:Int×Int):AV:=.agg [I x.1,I x.2]
abbrev ahB(c:Case):List AV:=[I c.run,.slice 3 (c.aB.map gY) 0,.slice 3 (c.an.map ia) 0,I c.aA,.slice 2 (c.seen.map gG) 0]
abbrev cj(c:Case):AV:=.agg (ahB c)
abbrev bn(c:Case):AV:=.ref (ahB c)
structure Case.OK (c:Case):Prop where
 run:1≤c.run∧c.run≤500
 aB:1≤c.aB.length∧c.aB.length≤4
 made:∀s∈c.aB,1450≤s.lo∧s.lo≤s.hi∧s.hi≤1850
 an:1≤c.an.length∧c.an.length≤4
 aW:∀r∈c.an,0≤r.dA∧r.dA<c.aB.length∧1≤r.lo∧r.lo≤r.hi∧r.hi≤2000∧r.hi≤r.lo+2
 aA:1≤c.aA∧c.aA≤5
 aa_:c.seen.length≤9
 seen:∀x∈c.seen,0≤x.1∧x.1<c.aA∧0≤x.2∧x.2<c.aB.length
theorem ael{α:Type}{l:List α}{k:Nat}(h:k<l.length):l.take (k+1)=l.take k++[l[k]]:=List.take_succ_eq_append_getElem h
def sP(lo:Int)(k:Nat):List Int:=(List.range k).map fun j:Nat=>lo+j
def cI.wide(r:cI):Nat:=(r.hi - r.lo+1).toNat
def ext(r:cI)(k:Nat)(o:List Int):List (List Int):=(sP r.lo k).map fun n=>o++[n]
def nM:List cI→List (List Int)
 |[]=>[[]]
 |r::rs=>(nM rs).flatMap (ext r r.wide)
def jj(c:Case)(i:Nat):List (List Int):=nM (c.an.take i).reverse
def cO(c:Case):List (List Int):=(jj c c.an.length).filter fun p=>decide (c.run*c.aA≤p.sum)
theorem ET(c:Case)(i:Nat)(h:i<c.an.length):jj c (i+1)=(jj c i).flatMap (ext c.an[i] c.an[i].wide):=by
 unfold jj
 rw[ael h,List.reverse_append,List.reverse_singleton,List.singleton_append,nM]
theorem ND(r:cI)(k:Nat)(o:List Int):(ext r k o).length=k:=by simp[ext,sP]
theorem aa'(r:cI)(k:Nat)(o:List Int):ext r (k+1) o=ext r k o++[o++[r.lo+k]]:=by simp[ext,sP,List.range_succ]
theorem EU(r:cI)(k:Nat):∀(l:List (List Int)),(l.flatMap (ext r k)).length=l.length*k
 |[]=>by simp
 |o::l=>by rw[List.flatMap_cons,List.length_append,ND,EU r k l,List.length_cons,Nat.add_mul];omega
theorem Case.OK.nN{c:Case}(h:c.OK){i:Nat}(hi:i<c.an.length):0≤c.an[i].dA∧c.an[i].dA<c.aB.length∧1≤c.an[i].lo∧c.an[i].lo≤c.an[i].hi∧c.an[i].hi≤2000∧c.an[i].hi≤c.an[i].lo+2:=h.aW _ (List.getElem_mem _)
theorem sQ{c:Case}(h:c.OK){i:Nat}(hi:i<c.an.length):1≤c.an[i].wide∧c.an[i].wide≤3∧c.an[i].lo+c.an[i].wide=c.an[i].hi+1:=by
 have:=h.nN hi
 unfold cI.wide
 omega
theorem NF{c:Case}(h:c.OK):∀i,i≤c.an.length→(jj c i).length≤3^i
 |0,_=>by simp[jj,nM]
 |i+1,hi=>by
  have h1:=NF h i (by omega)
  have h2:=sQ h (show i<c.an.length by omega)
  rw[ET c i (by omega),EU,Nat.pow_succ]
  exact Nat.mul_le_mul h1 h2.2.1
theorem NG{c:Case}(h:c.OK)(i:Nat)(hi:i≤c.an.length):(jj c i).length≤81:=Nat.le_trans (NF h i hi) (Nat.le_trans (Nat.pow_le_pow_right (by omega) (show i≤4 by have:=h.an;omega)) (by decide))
def gn:List cI→List Int→Prop
 |[],[]=>True
 |r::rs,x::xs=>r.lo≤x∧x≤r.hi∧gn rs xs
 |_,_=>False
theorem EV{r:cI}{x:Int}:∀{rs:List cI} {xs:List Int},gn (rs++[r]) (xs++[x])↔gn rs xs∧r.lo≤x∧x≤r.hi
 |[],[]=>by simp[gn]
 |[],y::ys=>by cases ys<;>simp[gn]
 |r'::rs,[]=>by cases rs<;>simp[gn]
 |r'::rs,y::ys=>by simp only[List.cons_append,gn,EV,and_assoc]
theorem EW:∀{rs:List cI} {xs:List Int},gn rs xs→xs.length=rs.length
 |[],[],_=>rfl
 |[],_::_,h=>h.elim
 |_::_,[],h=>h.elim
 |_::rs,_::xs,h=>by simp[EW h.2.2]
theorem aba{r:cI}{o y:List Int}(hr:r.lo≤r.hi):y∈ext r r.wide o↔∃x,r.lo≤x∧x≤r.hi∧y=o++[x]:=by
 simp only[ext,sP,List.mem_map,List.mem_range,cI.wide]
 constructor
 ·rintro⟨n,⟨j,hj,rfl⟩,rfl⟩
  exact⟨_,by omega,by omega,rfl⟩
 ·rintro⟨x,h1,h2,rfl⟩
  exact⟨x,⟨(x - r.lo).toNat,by omega,by omega⟩,rfl⟩
theorem NH:∀{rs:List cI} {y:List Int},(∀r∈rs,r.lo≤r.hi)→(y∈nM rs↔gn rs.reverse y)
 |[],y,_=>by cases y<;>simp[nM,gn]
 |r::rs,y,h=>by
  have hr:=h r (by simp)
  have ih:=fun y=>NH (rs:=rs) (y:=y) (fun r' hr'=>h r' (by simp[hr']))
  simp only[nM,List.mem_flatMap,aba hr,List.reverse_cons]
  constructor
  ·rintro⟨o,ho,x,h1,h2,rfl⟩
   exact EV.2 ⟨(ih o).1 ho,h1,h2⟩
  ·intro hy
   have hl:=EW hy
   have hne:y≠[]:=by rintro rfl;simp at hl
   have e:y=y.dropLast++[y.getLast hne]:=(List.dropLast_concat_getLast hne).symm
   rw[e] at hy
   obtain⟨h1,h2,h3⟩:=EV.1 hy
   exact⟨_,(ih _).2 h1,_,h2,h3,e⟩
theorem EX{c:Case}(h:c.OK){y:List Int}:y∈cO c↔gn c.an y∧c.run*c.aA≤y.sum:=by
 unfold cO jj
 rw[List.mem_filter,List.take_length,NH (fun r hr=>by have:=h.aW r (by simpa using hr);omega),List.reverse_reverse]
 simp
theorem EY{c:Case}(h:c.OK):∀i,i≤c.an.length→∀o∈jj c i,o.length=i∧∀x∈o,1≤x∧x≤2000
 |0,_=>by simp[jj,nM]
 |i+1,hi=>by
  intro o ho
  rw[ET c i (by omega),List.mem_flatMap] at ho
  obtain⟨p,hp,ho⟩:=ho
  obtain⟨h1,h2⟩:=EY h i (by omega) p hp
  have h3:=h.nN (show i<c.an.length by omega)
  have h4:=sQ h (show i<c.an.length by omega)
  simp only[ext,sP,List.mem_map,List.mem_range] at ho
  obtain⟨n,⟨j,hj,rfl⟩,rfl⟩:=ho
  refine⟨by simp[h1],fun x hx=> ?_⟩
  rcases List.mem_append.1 hx with hx|hx
  ·exact h2 x hx
  ·rw[List.mem_singleton] at hx;omega
theorem EZ:∀(l:List Int),(∀x∈l,1≤x∧x≤2000)→0≤l.sum∧l.sum≤2000*l.length
 |[],_=>by simp
 |x::l,h=>by
  have h1:=h x (by simp)
  have h2:=EZ l (fun y hy=>h y (by simp[hy]))
  simp only[List.sum_cons,List.length_cons]
  omega
def gH:List cI→Nat→List Int
 |[],_=>[]
 |r::rs,n=>(r.lo+(n%r.wide:Nat))::gH rs (n / r.wide)
def gp:List cI→Nat
 |[]=>1
 |r::rs=>r.wide*gp rs
def dB(c:Case):List (List Int):=((List.range (gp c.an)).map (gH c.an)).filter fun p=>decide (c.run*c.aA≤p.sum)
theorem ahC:∀{rs:List cI} {y:List Int},(∀r∈rs,r.lo≤r.hi)→((∃n,n<gp rs∧gH rs n=y)↔gn rs y)
 |[],y,_=>by
  cases y with
  |nil=>simp[gH,gp,gn]
  |cons a b=>simp[gH,gn]
 |r::rs,[],h=>by simp[gH,gn]
 |r::rs,x::y,h=>by
  have hr:=h r (by simp)
  have ih:=ahC (rs:=rs) (y:=y) (fun r' hr'=>h r' (by simp[hr']))
  have hw:0<r.wide:=by unfold cI.wide;omega
  have hw2:r.lo+r.wide=r.hi+1:=by unfold cI.wide;omega
  simp only[gn,gH,gp,List.cons.injEq,←ih]
  constructor
  ·rintro⟨n,hn,rfl,he⟩
   have:=Nat.mod_lt n hw
   refine⟨by omega,by omega,n / r.wide,?_,he⟩
   exact Nat.div_lt_of_lt_mul hn
  ·rintro⟨h1,h2,m,hm,rfl⟩
   refine⟨(x - r.lo).toNat+r.wide*m,?_,?_,?_⟩
   ·have:r.wide*m+r.wide≤r.wide*gp rs:=by rw[←Nat.mul_succ];exact Nat.mul_le_mul_left _ hm
    omega
   ·rw[Nat.add_mul_mod_self_left,Nat.mod_eq_of_lt (by omega)];omega
   ·rw[Nat.add_mul_div_left _ _ hw,Nat.div_eq_of_lt (by omega),Nat.zero_add]
theorem vY{c:Case}(h:c.OK){y:List Int}:y∈dB c↔y∈cO c:=by
 rw[EX h,←ahC (fun r hr=>by have:=h.aW r hr;omega)]
 simp[dB]
def grow(m:Nat)(o:List Int):List (List Int):=((List.range m).filter fun n:Nat=> !decide ((n:Int)∈o)).map fun n:Nat=>o++[(n:Int)]
def aeN(m:Nat):Nat→List (List Int)
 |0=>[[]]
 |i+1=>(aeN m i).flatMap (grow m)
def mI(m:Nat):Nat→List Int→List (List Int)
 |0,o=>[o]
 |k+1,o=>(grow m o).flatMap (mI m k)
theorem NI(m:Nat):∀(k i:Nat),(aeN m i).flatMap (mI m k)=aeN m (i+k)
 |0,i=>by
  have:∀l:List (List Int),l.flatMap (mI m 0)=l:=fun l=>by
   induction l with
   |nil=>rfl
   |cons a l ih=>rw[List.flatMap_cons,ih];rfl
  exact this _
 |k+1,i=>by
  rw[show i+(k+1)=(i+1)+k by omega,←NI m k (i+1),aeN,List.flatMap_assoc]
  rfl
theorem abb(m:Nat):mI m m []=aeN m m:=by
 have:=NI m m 0
 simpa[aeN] using this
theorem NJ(m:Nat)(o:List Int):(grow m o).length≤m:=by
 unfold grow
 rw[List.length_map]
 exact Nat.le_trans (List.length_filter_le _ _) (by simp)
theorem E1(m:Nat):∀(l:List (List Int)),(l.flatMap (grow m)).length≤l.length*m
 |[]=>by simp
 |o::l=>by
  have h1:=NJ m o
  have h2:=E1 m l
  simp only[List.flatMap_cons,List.length_append,List.length_cons,Nat.add_mul]
  omega
theorem vZ(m:Nat):∀i,(aeN m i).length≤m^i
 |0=>by simp[aeN]
 |i+1=>by
  have h:=vZ m i
  rw[aeN,Nat.pow_succ]
  exact Nat.le_trans (E1 m _) (Nat.mul_le_mul_right _ h)
theorem kE(m:Nat):∀i,∀o∈aeN m i,o.length=i∧o.Nodup∧∀x∈o,0≤x∧x<m
 |0=>by simp[aeN]
 |i+1=>by
  intro o ho
  rw[aeN,List.mem_flatMap] at ho
  obtain⟨p,hp,ho⟩:=ho
  obtain⟨h1,h2,h3⟩:=kE m i p hp
  unfold grow at ho
  rw[List.mem_map] at ho
  obtain⟨n,hn,rfl⟩:=ho
  simp only[List.mem_filter,List.mem_range,Bool.not_eq_true',decide_eq_false_iff_not] at hn
  refine⟨by simp[h1],?_,fun x hx=> ?_⟩
  ·rw[List.nodup_append]
   refine⟨h2,by simp,fun a ha b hb e=> ?_⟩
   rw[List.mem_singleton] at hb
   subst hb;subst e
   exact hn.2 ha
  ·rcases List.mem_append.1 hx with hx|hx
   ·exact h3 x hx
   ·rw[List.mem_singleton] at hx;omega
theorem NK(j:Nat)(o:List Int):grow (j+1) o=grow j o++if (j:Int)∈o then [] else [o++[(j:Int)]]:=by
 unfold grow
 rw[List.range_succ,List.filter_append,List.map_append]
 congr 1
 by_cases h:(j:Int)∈o<;>simp[h]
end Go.Proofs.YtnncgmimhdplfaaGreat.P
namespace Go.Proofs.YtnncgmimhdplfaaGreat.P
open Go.aq
def mJ(c:Case)(az:List Int)(p i:Nat):Bool:=decide ((az.take i).sum<((p:Int)+1)*c.run)&&decide ((p:Int)*c.run<(az.take i).sum+az.getD i 0)
def sR(c:Case)(az:List Int)(p s i:Nat):Bool:=decide ((c.an.map cI.dA).getD i (-1)=s)&&mJ c az p i
def fP(c:Case)(az:List Int)(p s k:Nat):Bool:=(List.range k).any (sR c az p s)
def fQ(c:Case)(az:List Int)(p k:Nat):List Int:=((List.range k).filter fun s=>fP c az p s az.length).map fun s:Nat=>(s:Int)
def iS(c:Case)(az:List Int)(k:Nat):List (List Int):=(List.range k).map fun p=>fQ c az p c.aB.length
def dD(c:Case)(az:List Int):List (List Int):=iS c az c.aA.toNat
theorem NL(c:Case)(az:List Int)(p s k:Nat):fP c az p s (k+1)=(fP c az p s k||sR c az p s k):=by simp[fP,List.range_succ]
theorem abc(c:Case)(az:List Int)(p k:Nat):fQ c az p (k+1)=fQ c az p k++if fP c az p k az.length then [(k:Int)] else []:=by
 unfold fQ
 rw[List.range_succ,List.filter_append,List.map_append]
 cases h:fP c az p k az.length<;>simp[h]
theorem NM(c:Case)(az:List Int)(p k:Nat):(fQ c az p k).length≤k:=by
 unfold fQ
 rw[List.length_map]
 exact Nat.le_trans (List.length_filter_le _ _) (by simp)
theorem abd(c:Case)(az:List Int)(k:Nat):iS c az (k+1)=iS c az k++[fQ c az k c.aB.length]:=by simp[iS,List.range_succ]
structure afj (c:Case) (az:List Int):Prop where
 len:az.length=c.an.length
 each:∀x∈az,1≤x∧x≤2000
theorem afj.sum{c:Case}(h:c.OK){az:List Int}(hp:afj c az)(k:Nat):0≤(az.take k).sum∧(az.take k).sum≤8000:=by
 have h1:=EZ (az.take k) (fun x hx=>hp.each x (List.mem_of_mem_take hx))
 have h2:(az.take k).length≤az.length:=List.length_take_le' _ _
 have h3:=hp.len
 have h4:=h.an
 omega
theorem NN:∀{rs:List cI} {xs:List Int},(∀r∈rs,1≤r.lo∧r.hi≤2000)→gn rs xs→∀x∈xs,1≤x∧x≤2000
 |[],[],_,_=>by simp
 |[],_::_,_,h=>h.elim
 |_::_,[],_,h=>h.elim
 |r::rs,y::ys,hr,h=>by
  intro x hx
  rcases List.mem_cons.1 hx with rfl|hx
  ·have:=hr r (by simp);have:=h.1;have:=h.2.1;omega
  ·exact NN (fun r' h'=>hr r' (by simp[h'])) h.2.2 x hx
theorem gn.ok{c:Case}(h:c.OK){y:List Int}(hy:gn c.an y):afj c y:=⟨EW hy,NN (fun r hr=>by have:=h.aW r hr;omega) hy⟩
theorem oY{c:Case}(h:c.OK){y:List Int}(hy:y∈cO c):afj c y:=(((EX h).1 hy).1).ok h
def aey(c:Case)(az:List Int)(p:Nat):Nat→Nat
 |0=>0
 |i+1=>if mJ c az p i then aey c az p i ||| 2^((c.an.map cI.dA).getD i 0).toNat else aey c az p i
def nO(c:Case)(az:List Int)(p:Nat):Nat:=aey c az p az.length
theorem NO{c:Case}(h:c.OK)(az:List Int)(p s:Nat):∀k,k≤c.an.length→(aey c az p k).testBit s=fP c az p s k
 |0,_=>by simp[aey,fP]
 |k+1,hk=>by
  have ih:=NO h az p s k (by omega)
  have hr:=h.nN (show k<c.an.length by omega)
  have e0:(c.an.map cI.dA).getD k 0=c.an[k].dA:=by simp[show k<c.an.length by omega]
  have e1:(c.an.map cI.dA).getD k (-1)=c.an[k].dA:=by simp[show k<c.an.length by omega]
  rw[NL,←ih,aey,sR,e0,e1]
  by_cases hc:mJ c az p k=true
  ·rw[if_pos hc,hc,Nat.testBit_or,Bool.and_true,Nat.testBit_two_pow]
   congr 1
   rw[decide_eq_decide]
   omega
  ·rw[if_neg hc,show mJ c az p k=false by simpa using hc]
   simp
theorem E2{c:Case}(h:c.OK)(az:List Int)(p:Nat):∀k,k≤c.an.length→aey c az p k<2^c.aB.length
 |0,_=>by simp[aey];exact Nat.pow_pos (by omega)
 |k+1,hk=>by
  have ih:=E2 h az p k (by omega)
  have hr:=h.nN (show k<c.an.length by omega)
  have e0:(c.an.map cI.dA).getD k 0=c.an[k].dA:=by simp[show k<c.an.length by omega]
  rw[aey,e0]
  split
  ·exact Nat.or_lt_two_pow ih (Nat.pow_lt_pow_right (by omega) (by omega))
  ·exact ih
theorem NP{c:Case}(h:c.OK):2^c.aB.length≤16:=Nat.le_trans (Nat.pow_le_pow_right (by omega) h.aB.2) (by decide)
theorem ahX{c:Case}(h:c.OK)(az:List Int)(p:Nat){k:Nat}(hk:k≤c.an.length):aey c az p k<16:=Nat.lt_of_lt_of_le (E2 h az p k hk) (NP h)
theorem abe{c:Case}(h:c.OK){az:List Int}(hp:afj c az)(p:Nat):nO c az p<16:=ahX h az p (by rw[hp.len];exact Nat.le_refl _)
theorem NR{c:Case}(h:c.OK){az:List Int}(hp:afj c az)(p s:Nat):(nO c az p).testBit s=fP c az p s az.length:=NO h az p s _ (by rw[hp.len];exact Nat.le_refl _)
def ie(c:Case)(aI g:Nat):Nat→Nat
 |0=>0
 |i+1=>if aI.testBit i=false∧(c.seen.getD i (-1,0)).1=g then ie c aI g i ||| 2^(c.seen.getD i (-1,0)).2.toNat else ie c aI g i
def fR(c:Case)(aI g:Nat):Nat:=ie c aI g c.seen.length
theorem E3(c:Case)(aI g s:Nat):∀k,(ie c aI g k).testBit s=true↔∃i,i<k∧aI.testBit i=false∧(c.seen.getD i (-1,0)).1=g∧(c.seen.getD i (-1,0)).2.toNat=s
 |0=>by simp[ie]
 |k+1=>by
  have ih:=E3 c aI g s k
  rw[ie]
  split
  ·rename_i hb
   rw[Nat.testBit_or,Bool.or_eq_true,ih,Nat.testBit_two_pow,decide_eq_true_eq]
   constructor
   ·rintro(⟨i,h1,h2⟩|h1)
    ·exact⟨i,by omega,h2⟩
    ·exact⟨k,by omega,hb.1,hb.2,h1⟩
   ·rintro⟨i,h1,h2,h3,h4⟩
    by_cases e:i=k
    ·subst e;exact .inr h4
    ·exact .inl ⟨i,by omega,h2,h3,h4⟩
  ·rename_i hb
   rw[ih]
   constructor
   ·rintro⟨i,h1,h2⟩
    exact⟨i,by omega,h2⟩
   ·rintro⟨i,h1,h2,h3,h4⟩
    by_cases e:i=k
    ·subst e;exact absurd ⟨h2,h3⟩ hb
    ·exact⟨i,by omega,h2,h3,h4⟩
theorem E4{c:Case}(h:c.OK)(aI g:Nat):∀{k:Nat},k≤c.seen.length→ie c aI g k<16
 |0,_=>by simp[ie]
 |k+1,hk=>by
  have ih:=E4 h aI g (k:=k) (by omega)
  have hr:=h.seen _ (List.getElem_mem (show k<c.seen.length by omega))
  have e0:c.seen.getD k (-1,0)=c.seen[k]:=by simp[show k<c.seen.length by omega]
  have hs:=h.aB
  rw[ie,e0]
  split
  ·exact Nat.or_lt_two_pow (n:=4) ih (Nat.pow_lt_pow_right (by omega) (by omega))
  ·exact ih
theorem zj{c:Case}(h:c.OK)(aI g:Nat):fR c aI g<16:=E4 h aI g (Nat.le_refl _)
def lP(a b:Nat):Bool:=(List.range 4).all fun s=> !a.testBit s||b.testBit s
theorem NS:∀a:Nat,a<16→∀b:Nat,b<16→(cP .andNot .i64 (a:Int) (b:Int)==0)=lP a b:=by decide+kernel
theorem zk:∀a:Nat,a<16→∀b:Nat,b<16→cP .or .i64 (a:Int) (b:Int)=((a ||| b:Nat):Int):=by decide+kernel
theorem abf:∀a:Nat,a<16→∀b:Nat,b<16→cP .and .i64 (a:Int) (b:Int)=((a &&& b:Nat):Int):=by decide+kernel
theorem abg:∀b:Nat,b<16→cP .and .i64 (-1) ((b:Nat):Int)=b:=by decide+kernel
theorem abh:∀k:Nat,k<9→IntKind.wrap .i64 (1*2^(min k (IntKind.bits .i64)))=((2^k:Nat):Int):=by decide+kernel
theorem NT{a b:Nat}(ha:a<16):lP a b=true↔∀s,a.testBit s=true→b.testBit s=true:=by
 unfold lP
 simp only[List.all_eq_true,List.mem_range,Bool.or_eq_true,Bool.not_eq_true']
 constructor
 ·intro h s hs
  by_cases h4:s<4
  ·rcases h s h4 with h|h
   ·rw[hs] at h;cases h
   ·exact h
  ·rw[Nat.testBit_lt_two_pow (Nat.lt_of_lt_of_le (m:=2^4) ha (Nat.pow_le_pow_right (by omega) (by omega)))] at hs
   cases hs
 ·intro h s _
  by_cases hs:a.testBit s=true
  ·exact .inr (h s hs)
  ·exact .inl (by simpa using hs)
def nP(c:Case)(aI:Nat)(az order:List Int)(k:Nat):Bool:=(List.range k).all fun p=>lP (fR c aI (order.getD p 0).toNat) (nO c az p)
def jS(c:Case)(aI:Nat)(az order:List Int):Bool:=nP c aI az order order.length
theorem abi(c:Case)(aI:Nat)(az order:List Int)(k:Nat):nP c aI az order (k+1)=(nP c aI az order k&&lP (fR c aI (order.getD k 0).toNat) (nO c az k)):=by simp[nP,List.range_succ]
theorem abj{c:Case}{aI:Nat}{az order:List Int}{k:Nat}(hk:k<order.length)(h:lP (fR c aI (order.getD k 0).toNat) (nO c az k)=false):jS c aI az order=false:=by
 unfold jS nP
 rw[List.all_eq_false]
 exact⟨k,by simpa using hk,by rw[h];simp⟩
def Agr(c:Case)(aI:Nat→Bool)(az order:List Int):Prop:=∀i (hi:i<c.seen.length),aI i=false→∀p (hp:p<order.length),order[p]=c.seen[i].1→fP c az p c.seen[i].2.toNat az.length=true
theorem NU{c:Case}(h:c.OK){aI:Nat}{az order:List Int}(hp:afj c az)(ho:∀x∈order,0≤x):jS c aI az order=true↔Agr c aI.testBit az order:=by
 unfold jS nP Agr
 simp only[List.all_eq_true,List.mem_range]
 constructor
 ·intro hf i hi hb p eI he
  have:=(NT (zj h aI _)).1 (hf p eI) c.seen[i].2.toNat ((E3 c aI _ _ _).2 ⟨i,hi,hb,?_,?_⟩)
  ·rwa [NR h hp] at this
  ·have:=ho _ (List.getElem_mem eI)
   simp[hi,eI];omega
  ·simp[hi]
 ·intro hf p eI
  refine(NT (zj h aI _)).2 fun s hs=> ?_
  obtain⟨i,hi,hb,h1,h2⟩:=(E3 c aI _ _ _).1 hs
  have e0:c.seen.getD i (-1,0)=c.seen[i]:=by simp[hi]
  have e1:order.getD p 0=order[p]:=by simp[eI]
  have:=ho _ (List.getElem_mem eI)
  rw[e0] at h1 h2
  rw[e1] at h1
  rw[NR h hp,←h2]
  exact hf i hi hb p eI (by omega)
end Go.Proofs.YtnncgmimhdplfaaGreat.P
namespace Go.Proofs.YtnncgmimhdplfaaGreat.P
open Go.aq
def bu(q:Nat→Bool)(n:Nat):List Int:=((List.range n).filter q).map fun s:Nat=>(s:Int)
theorem Ee(q:Nat→Bool):bu q 0=[]:=rfl
theorem lK(q:Nat→Bool)(n:Nat):bu q (n+1)=bu q n++if q n then [(n:Int)] else []:=by
 unfold bu
 rw[List.range_succ,List.filter_append,List.map_append]
 congr 1
 cases h:q n<;>simp[h]
theorem Ef{q:Nat→Bool}{n:Nat}(h:q n=true):bu q (n+1)=bu q n++[(n:Int)]:=by rw[lK,h];rfl
theorem oQ{q:Nat→Bool}{n:Nat}(h:q n=false):bu q (n+1)=bu q n:=by rw[lK,h];simp
theorem nH(q:Nat→Bool)(n:Nat):(bu q n).length≤n:=by
 unfold bu
 rw[List.length_map]
 exact Nat.le_trans (List.length_filter_le _ _) (by simp)
theorem ahe{q r:Nat→Bool}{n:Nat}(h:∀j<n,q j=r j):bu q n=bu r n:=by
 unfold bu
 rw[List.filter_congr (fun x hx=>h x (List.mem_range.1 hx))]
theorem Es{q:Nat→Bool}{n:Nat}(h:∀j,n≤j→q j=false):∀d,bu q (n+d)=bu q n
 |0=>rfl
 |d+1=>by rw[show n+(d+1)=(n+d)+1 from rfl,oQ (h _ (by omega)),Es h d]
theorem ahg{q:Nat→Bool}{n j:Nat}:((j:Int)∈bu q n)↔j<n∧q j=true:=by
 unfold bu
 simp only[List.mem_map,List.mem_filter,List.mem_range]
 constructor
 ·rintro⟨i,hi,e⟩
  obtain rfl:i=j:=by omega
  exact hi
 ·intro h
  exact⟨j,h,rfl⟩
theorem EF{q:Nat→Bool}{n:Nat}{x:Int}(h:x∈bu q n):∃j:Nat,x=j∧j<n∧q j=true:=by
 unfold bu at h
 rw[List.mem_map] at h
 obtain⟨j,hj,rfl⟩:=h
 exact⟨j,rfl,by simpa using hj⟩
def bJ(n:Nat):List Int:=bu (fun i=>n.testBit i) 8
def eF(n:Nat):Nat:=((List.range 9).find? fun i=>n<2^i).getD 9
theorem abk{a b:Nat}(ha:a<256)(hb:b<256)(h:bJ a=bJ b):a=b:=by
 apply Nat.eq_of_testBit_eq
 intro i
 by_cases hi:i<8
 ·have e:((i:Int)∈bJ a)↔((i:Int)∈bJ b):=by rw[h]
  unfold bJ at e
  rw[ahg,ahg] at e
  simp only[hi,true_and] at e
  exact Bool.eq_iff_iff.2 e
 ·rw[Nat.testBit_lt_two_pow (Nat.lt_of_lt_of_le (m:=2^8) ha (Nat.pow_le_pow_right (by omega) (by omega))),Nat.testBit_lt_two_pow (Nat.lt_of_lt_of_le (m:=2^8) hb (Nat.pow_le_pow_right (by omega) (by omega)))]
def ae1:List Int→List Int→Bool
 |x::xs,y::ys=>if x=y then ae1 xs ys else decide (x<y)
 |_,_=>false
def iO:List Int→List Int→Int
 |x::xs,y::ys=>if x<y then -1 else if y<x then 1 else iO xs ys
 |_,_=>0
def dz(a b:List Int):Bool:=if a.length≠b.length then decide (a.length<b.length) else ae1 a b
theorem vM:∀(a b:List Int),decide (iO a b<0)=ae1 a b
 |[],[]=>rfl
 |[],_::_=>rfl
 |_::_,[]=>rfl
 |x::xs,y::ys=>by
  unfold iO ae1
  by_cases h1:x<y
  ·have h2:¬x=y:=by omega
   simp[h1,h2]
  ·by_cases h3:y<x
   ·have h2:¬x=y:=by omega
    simp[h1,h2,h3]
   ·have h2:x=y:=by omega
    simp[h2,vM xs ys]
theorem NV:∀{a b:List Int},a.length=b.length→a≠b→ae1 a b=false→ae1 b a=true
 |[],[],_,h,_=>absurd rfl h
 |x::xs,y::ys,hl,h,hf=>by
  unfold ae1 at hf⊢
  by_cases e:x=y
  ·subst e
   rw[if_pos rfl] at hf⊢
   exact NV (by simpa using hl) (fun e=>h (by rw[e])) hf
  ·rw[if_neg e] at hf
   rw[if_neg (fun h=>e h.symm)]
   simp at hf⊢
   omega
theorem NW:∀{a b c:List Int},ae1 a b=true→ae1 b c=true→ae1 a c=true
 |[],_,_,h,_=>by simp[ae1] at h
 |_::_,[],_,h,_=>by simp[ae1] at h
 |_::_,_::_,[],_,h=>by simp[ae1] at h
 |x::xs,y::ys,z::zs,h1,h2=>by
  unfold ae1 at h1 h2⊢
  by_cases e1:x=y
  ·subst e1
   rw[if_pos rfl] at h1
   by_cases e2:x=z
   ·subst e2
    rw[if_pos rfl] at h2⊢
    exact NW h1 h2
   ·rw[if_neg e2] at h2⊢
    exact h2
  ·rw[if_neg e1] at h1
   simp only[decide_eq_true_eq] at h1
   by_cases e2:y=z
   ·subst e2
    rw[if_neg e1]
    simpa using h1
   ·rw[if_neg e2] at h2
    simp only[decide_eq_true_eq] at h2
    rw[if_neg (by omega)]
    simp;omega
theorem abl{a b:List Int}(h:a≠b)(hf:dz a b=false):dz b a=true:=by
 unfold dz at hf⊢
 by_cases e:a.length=b.length
 ·rw[if_neg (not_not_intro e)] at hf
  rw[if_neg (not_not_intro e.symm)]
  exact NV e h hf
 ·rw[if_pos e] at hf
  rw[if_pos (fun h=>e h.symm)]
  simp at hf⊢
  omega
theorem abm{a b c:List Int}(h1:dz a b=true)(h2:dz b c=true):dz a c=true:=by
 unfold dz at h1 h2⊢
 split at h1<;>split at h2
 ·rw[decide_eq_true_eq] at h1 h2;rw[if_pos (by omega)];simp;omega
 ·rw[decide_eq_true_eq] at h1;rw[if_pos (by omega)];simp;omega
 ·rw[decide_eq_true_eq] at h2;rw[if_pos (by omega)];simp;omega
 ·rw[if_neg (by omega)];exact NW h1 h2
def aeT(q:Nat→Bool):Nat→Option Nat
 |0=>none
 |k+1=>match aeT q k with
  |none=>if q k then some k else none
  |some b=>if dz (bJ k) (bJ b)&&q k then some k else some b
theorem NX(q:Nat→Bool):∀k,k≤256→match aeT q k with
  |none=>∀j<k,q j=false
  |some b=>b<k∧q b=true∧∀j<k,q j=true→j=b∨dz (bJ b) (bJ j)=true
 |0,_=>by simp[aeT]
 |k+1,hk=>by
  have ih:=NX q k (by omega)
  unfold aeT
  generalize aeT q k=o at ih
  cases o with
  |none=>
   simp only at ih⊢
   cases hq:q k with
   |true=>
    refine⟨by omega,hq,fun j hj qH=> ?_⟩
    by_cases e:j=k
    ·exact .inl e
    ·rw[ih j (by omega)] at qH;cases qH
   |false=>
    intro j hj
    by_cases e:j=k
    ·rw[e,hq]
    ·exact ih j (by omega)
  |some b=>
   obtain⟨h1,h2,h3⟩:=ih
   show(match (if dz (bJ k) (bJ b)&&q k then some k else some b:Option Nat) with|none=>_|some b=>_)
   cases hl:dz (bJ k) (bJ b)&&q k with
   |true=>
    rw[Bool.and_eq_true] at hl
    show k<k+1∧_
    refine⟨by omega,hl.2,fun j hj qH=> ?_⟩
    by_cases e:j=k
    ·exact .inl e
    ·rcases h3 j (by omega) qH with rfl|h
     ·exact .inr hl.1
     ·exact .inr (abm hl.1 h)
   |false=>
    show b<k+1∧_
    refine⟨by omega,h2,fun j hj qH=> ?_⟩
    by_cases e:j=k
    ·subst e
     rw[qH,Bool.and_true] at hl
     exact .inr (abl (fun e=>by have:=abk (by omega) (by omega) e;omega) hl)
    ·exact h3 j (by omega) qH
def E5:Nat→Nat→Nat→List (List Int)
 |0,_,_=>[[]]
 |m+1,f,b=>(List.range (b - m - f)).flatMap fun j=>(E5 m (f+j+1) b).map fun l=>((f+j:Nat):Int)::l
def chain:List (List Int)→Bool
 |a::b::l=>dz a b&&chain (b::l)
 |_=>true
end Go.Proofs.YtnncgmimhdplfaaGreat.P
namespace Go.Proofs.YtnncgmimhdplfaaGreat.P
open Go.aq
theorem cY{sz:Nat}{xs:List AV}{r:Nat}(h:Fits (.slice sz xs r)):xs.length≤140737488355328:=by
 obtain⟨w,A,v,h⟩:=h
 cases h with
 |de=>simp
 |slice _ _ _ b off cap vs hsz h1c hcap hlen hc hr=>exact hlen
@[simp] theorem WR (b k:Nat) (h:k<1000001):(1000001+b=k)=False:=by simp;omega
@[simp] theorem WS (b k:Nat) (h:k<1000001):(k=1000001+b)=False:=by simp;omega
@[simp] theorem WT (b:Nat):(1000000≤1000001+b)=True:=by simp;omega
theorem DL(loc:Nat→Option (List AV))(cs:List AV)(K:AV→Prop):cJ loc (.ref cs) none K=(0<cs.length∧K (cs.getD 0 .any).erase):=rfl
theorem DM(loc:Nat→Option (List AV))(cs:List AV)(n:Nat)(K:AV→Prop):cJ loc (.ref cs) (some n) K=(0+n≤cs.length∧K (AV.agg ((cs.drop 0).take n)).erase.erase):=rfl
theorem DN(loc:Nat→Option (List AV))(b o:Nat)(n:Option Nat)(K:AV→Prop):cJ loc (.au b o) n K=(match loc b with|some cs=>cx cs o n K|none=>False):=rfl
theorem DO(cs:List AV)(o:Nat)(K:AV→Prop):cx cs o none K=(o<cs.length∧K (cs.getD o .any)):=rfl
theorem DP(cs:List AV)(o n:Nat)(K:AV→Prop):cx cs o (some n) K=(o+n≤cs.length∧K (AV.agg ((cs.drop o).take n)).erase):=rfl
attribute [simp] DL DM DN DO DP
def firstAt{α:Type}(p:α→Bool)(l:List α):Int:=match l.findIdx? p with
 |some i=>i
 |none=> -1
theorem oL{α:Type}{p:α→Bool}{l:List α}{k:Nat}(hk:k<l.length)(h:p l[k]=true)(hno:∀x∈l.take k,p x=false):firstAt p l=k:=by
 have:l.findIdx? p=some k:=by
  rw[List.findIdx?_eq_some_iff_getElem]
  refine⟨hk,h,fun j hj=> ?_⟩
  have:=hno l[j] (List.mem_take_iff_getElem.2 ⟨j,by omega,rfl⟩)
  simp[this]
 simp[firstAt,this]
theorem agx{α:Type}{p:α→Bool}{l:List α}(hno:∀x∈l,p x=false):firstAt p l= -1:=by
 have:l.findIdx? p=none:=by rw[List.findIdx?_eq_none_iff];simpa using hno
 simp[firstAt,this]
theorem DQ(l:List Int)(f:FuncId)(caps:List AV)(p:Int→Bool)(hp:∀x∈l,aed Tryz.prog f (I x::caps) (B (p x))):aed Tryz.prog 128 [IL l,.func (.func f) [] caps] (I (firstAt p l)):=by
 refine pc t128 (by simp) fun hfit=> ?_
 have hl:=cY (hfit 0)
 simp only[List.length_map] at hl
 simp -implicitDefEqProofs [yG]
 refine aef l.length (fun k s=>s.env 0=IL l∧s.env 1=.func (.func f) [] caps∧s.env 7=I l.length∧s.env 8=I k∧∀x∈l.take k,p x=false) ?_ ?_
 ·simp
 ·rintro k s hk ⟨e0,e1,e7,e8,hno⟩
  simp -implicitDefEqProofs [e7,e8]
  refine bA (fun hlt=> ?_) (fun hge=> ?_)
  ·simp -implicitDefEqProofs [e0,e1,e8,hlt,ng]
   refine aj (hp l[k] (List.getElem_mem _)) ?_
   simp -implicitDefEqProofs
   refine bR (fun he=> ?_) (fun he=> ?_)
   ·have hc:=oL hlt he hno
    simp -implicitDefEqProofs [rZ,hc]
   ·simp -implicitDefEqProofs [e8]
    refine⟨i64 (by omega) (by omega),aQ hlt ⟨by simp[e0],by simp[e1],by simp[e7],by simp,?_⟩⟩
    intro x hx
    rw[ael hlt,List.mem_append,List.mem_singleton] at hx
    rcases hx with hx|rfl
    ·exact hno x hx
    ·exact he
  ·obtain rfl:k=l.length:=by omega
   rw[List.take_length] at hno
   have hc:=agx hno
   simp -implicitDefEqProofs [rZ,hc]
theorem agy{α:Type}(p:α→Bool)(l:List α):decide (0≤firstAt p l)=l.any p:=by
 unfold firstAt
 cases h:l.findIdx? p with
 |none=>
  rw[List.findIdx?_eq_none_iff] at h
  simpa using h
 |some i=>
  obtain⟨hi,hp,_⟩:=List.findIdx?_eq_some_iff_getElem.1 h
  simp
  exact⟨_,List.getElem_mem hi,hp⟩
theorem DR(n lo hi:Int):aed Tryz.prog 108 [I n,.ref [I lo],.ref [I hi]] (B (decide (n<lo)||decide (hi<n))):=by
 refine pc t108 (by simp) fun _=> ?_
 by_cases h:n<lo<;>simp -implicitDefEqProofs [K_,La,h,uG,lp]
theorem DS(l:List Int)(f:FuncId)(caps:List AV)(p:Int→Bool)(hp:∀x∈l,aed Tryz.prog f (I x::caps) (B (p x))):aed Tryz.prog 103 [IL l,.func (.func f) [] caps] (B (l.any p)):=by
 refine pc t103 (by simp) fun _=> ?_
 simp -implicitDefEqProofs [yx]
 refine aj (DQ l f caps p hp) ?_
 simp -implicitDefEqProofs [yy,agy]
def out(lo hi:Int)(l:List Int):Bool:=l.any fun n=>decide (n<lo)||decide (hi<n)
theorem aet(lo hi:Int)(l:List Int):aed Tryz.prog 72 [I lo,I hi,IL l] (B (out lo hi l)):=by
 refine pc t72 (by simp) fun _=> ?_
 simp -implicitDefEqProofs [Kv]
 refine aj (DS l 108 [.ref [I lo],.ref [I hi]] _ fun x _=>DR x lo hi) ?_
 simp -implicitDefEqProofs [Kw,out]
theorem afp(n lo hi:Int):aed Tryz.prog 21 [I n,I lo,I hi] (B (decide (lo≤n∧n≤hi))):=by
 refine pc t21 (by simp) fun _=> ?_
 by_cases h:lo≤n<;>simp -implicitDefEqProofs [JF,JG,h]
def bt(s:ByteArray)(k:Nat):Nat:=(s.data.toList.getD k 0).toNat
theorem afU(s:ByteArray)(k:Nat)(h:k<s.data.size):(s.data[k]'h).toNat=bt s k:=by
 have:s.data[k]? =some (s.data[k]'h):=Array.getElem?_eq_getElem h
 simp[bt,List.getD_eq_getElem?_getD,this]
theorem WU(s:ByteArray)(k:Nat):bt s k<256:=UInt8.toNat_lt _
theorem vi(s:ByteArray){k:Nat}(h:k<s.size):(s.get! k).toNat=bt s k:=by
 cases s with
 |mk a=>
  have h':k<a.size:=h
  simp[ByteArray.get!,bt,List.getD_eq_getElem?_getD,h']
theorem yK{s:ByteArray}{k:Nat}(h:k<s.size)(hb:bt s k<128):Utf8.decode s k=(bt s k,1):=by
 have e:=vi s h
 unfold Utf8.decode
 simp only[Nat.add_zero,e,hb,if_true]
theorem yL{s:ByteArray}{k:Nat}(h:k<s.size)(hb:¬bt s k<128):128≤(Utf8.decode s k).1:=by
 have e:=vi s h
 unfold Utf8.decode
 simp only[Nat.add_zero,e,hb,if_false]
 repeat' split
 all_goals simp_all [Utf8.runeError]
 all_goals omega
def dK(c:Nat):Bool:=decide (97≤c∧c≤122)
def isDigit(c:Nat):Bool:=decide (48≤c∧c≤57)
def bO(k c:Nat):Bool:=dK c||(decide (0<k)&&(isDigit c||decide (c=46)))
def c_(s:ByteArray):Bool:=decide (0<s.size∧s.size≤16∧∀k<s.size,bO k (bt s k)=true)
theorem DT(c:Nat):aed Tryz.prog 99 [.lit (.int .u8 c)] (B (dK c)):=by
 refine pc t99 (by simp) fun _=> ?_
 by_cases h:97≤c
 ·have h':(97:Int)≤(c:Int):=by omega
  have e:dK c=decide ((c:Int)≤122):=by unfold dK;rw[decide_eq_decide];omega
  simp -implicitDefEqProofs [va,vb,h',e]
 ·have h':¬(97:Int)≤(c:Int):=by omega
  have e:dK c=false:=by unfold dK;simp;omega
  simp -implicitDefEqProofs [va,vb,h',e]
theorem DU(c:Nat):aed Tryz.prog 100 [.lit (.int .u8 c)] (B (isDigit c)):=by
 refine pc t100 (by simp) fun _=> ?_
 by_cases h:48≤c
 ·have h':(48:Int)≤(c:Int):=by omega
  have e:isDigit c=decide ((c:Int)≤57):=by unfold isDigit;rw[decide_eq_decide];omega
  simp -implicitDefEqProofs [agR,ve,h',e]
 ·have h':¬(48:Int)≤(c:Int):=by omega
  have e:isDigit c=false:=by unfold isDigit;simp;omega
  simp -implicitDefEqProofs [agR,ve,h',e]
theorem vj(s:ByteArray):aed Tryz.prog 63 [S s] (B (c_ s)):=by
 refine pc t63 (by simp) fun _=> ?_
 by_cases h0:s.size=0
 ·have e:c_ s=false:=decide_eq_false fun h=>by obtain⟨_,_,_⟩:=h;omega
  simp -implicitDefEqProofs [qn,lF,h0,e]
 by_cases h1:(16:Int)<s.size
 ·have e:c_ s=false:=decide_eq_false fun h=>by obtain⟨_,_,_⟩:=h;omega
  have jI:((s.size:Int)==0)=false:=beq_eq_false_iff_ne.2 (by omega)
  simp -implicitDefEqProofs [qn,lF,jI,h1,e]
 have jI:((s.size:Int)==0)=false:=beq_eq_false_iff_ne.2 (by omega)
 simp -implicitDefEqProofs [qn,jI,h1]
 refine aef s.size (fun k st=>st.env 0=S s∧st.env 3=I k∧∀j<k,bO j (bt s j)=true) ?_ ?_
 ·simp
 ·rintro k st hk ⟨e0,e3,hno⟩
  simp -implicitDefEqProofs [e0,e3]
  refine bA (fun hlt=> ?_) (fun hge=> ?_)
  ·have hlt':k<s.size:=by omega
   simp -implicitDefEqProofs [e0,e3,hlt',afU]
   refine aj (DT (bt s k)) ?_
   have next:bO k (bt s k)=true→∀j<k+1,bO j (bt s j)=true:=fun h j hj=>by
    rcases Nat.lt_succ_iff_lt_or_eq.1 hj with hj|rfl
    ·exact hno j hj
    ·exact h
   have bad:bO k (bt s k)=false→c_ s=false:=fun h=>by
    unfold c_
    simp only[decide_eq_false_iff_not]
    rintro⟨_,_,h'⟩
    rw[h' k hlt'] at h
    cases h
   cases hL:dK (bt s k) with
   |true=>
    simp -implicitDefEqProofs [e3]
    exact⟨i64 (by omega) (by omega),aQ hlt' ⟨by simp[e0],by simp,next (by simp[bO,hL])⟩⟩
   |false=>
    by_cases gQ:k=0
    ·subst gQ
     simp -implicitDefEqProofs [e3]
     simp -implicitDefEqProofs [lF,bad (by simp[bO,hL])]
    ·have DV:((k:Int)==0)=false:=beq_eq_false_iff_ne.2 (by omega)
     simp -implicitDefEqProofs [e0,e3,DV,hlt',afU]
     refine aj (DU (bt s k)) ?_
     cases hD:isDigit (bt s k) with
     |true=>
      simp -implicitDefEqProofs [e3]
      exact⟨i64 (by omega) (by omega),aQ hlt' ⟨by simp[e0],by simp,next (by simp[bO,hL,hD];omega)⟩⟩
     |false=>
      simp -implicitDefEqProofs [e0,e3,hlt',afU]
      refine bR (fun he=> ?_) (fun he=> ?_)
      ·simp -implicitDefEqProofs [lF]
       refine bad ?_
       have:bt s k≠46:=by simp at he;omega
       simp[bO,hL,hD,this]
      ·simp -implicitDefEqProofs [e3]
       refine⟨i64 (by omega) (by omega),aQ hlt' ⟨by simp[e0],by simp,next ?_⟩⟩
       have:bt s k=46:=by simp at he;omega
       simp[bO,this];omega
  ·obtain rfl:k=s.size:=by omega
   have e:c_ s=true:=by unfold c_;simp;exact⟨by omega,by omega,hno⟩
   simp -implicitDefEqProofs [lF,e]
theorem vk{k c:Nat}(h:bO k c=true):c<128:=by
 simp[bO,dK,isDigit] at h
 omega
theorem DW{s:ByteArray}{k:Nat}(h:k<s.size):bO k (Utf8.decode s k).1=bO k (bt s k)∧(bO k (Utf8.decode s k).1=true→(Utf8.decode s k).2=1):=by
 by_cases hb:bt s k<128
 ·rw[yK h hb];exact⟨rfl,fun _=>rfl⟩
 ·have h1:=yL h hb
  have e1:bO k (Utf8.decode s k).1=false:=by
   cases e:bO k (Utf8.decode s k).1 with
   |false=>rfl
   |true=>have:=vk e;omega
  have e2:bO k (bt s k)=false:=by
   cases e:bO k (bt s k) with
   |false=>rfl
   |true=>have:=vk e;omega
  rw[e1,e2];exact⟨rfl,fun h=>by cases h⟩
theorem vl(s:ByteArray):∀(n i:Nat) (r:List UInt8),s.size - i=n→ByteArray.toList.loop s i r=r.reverse++s.data.toList.drop i
 |0,i,r,h=>by
  unfold ByteArray.toList.loop
  have:¬i<s.size:=by omega
  rw[if_neg this,List.drop_of_length_le (by simpa using(by omega:s.size≤i)),List.append_nil]
 |n+1,i,r,h=>by
  unfold ByteArray.toList.loop
  have hi:i<s.size:=by omega
  rw[if_pos hi,vl s n (i+1) _ (by omega)]
  have e:s.data.toList.drop i=s.get! i::s.data.toList.drop (i+1):=by
   rw[List.drop_eq_getElem_cons (by simpa using hi)]
   congr 1
   cases s with
   |mk a=>
    have hi':i<a.size:=hi
    simp[ByteArray.get!,hi']
  rw[e]
  simp
theorem qe(s:ByteArray):s.toList=s.data.toList:=by
 unfold ByteArray.toList
 rw[vl s _ 0 [] rfl];simp
theorem DX(s:ByteArray):s.toList.isEmpty=decide (s.size=0):=by
 rw[qe]
 have:s.size=s.data.toList.length:=by simp
 rw[this]
 cases s.data.toList<;>simp
theorem DY(s:ByteArray):aed Tryz.prog 114 [S s] (B (c_ s)):=by
 refine pc t114 (by simp) fun _=> ?_
 simp -implicitDefEqProofs [yC]
 intro b
 refine aef s.size (fun k st=>st.env 0=S s∧st.env 6=.au b 0∧st.env (oS+b)=ae4 s k∧∀j<k,bO j (bt s j)=true) ?_ ?_
 ·simp
 ·rintro k st hk ⟨e0,e6,eo,hno⟩
  simp -implicitDefEqProofs [e6]
  refine⟨s,k,by simpa using eo,fun hlt=> ?_,fun hge=> ?_⟩
  ·obtain⟨d1,d2⟩:=DW hlt
   generalize hr:(Utf8.decode s k).1=r at d1 d2
   have good:bO k r=true→(Utf8.decode s k).2=1∧∀j<k+1,bO j (bt s j)=true:=fun h=>⟨d2 h,fun j hj=>by
    rcases Nat.lt_succ_iff_lt_or_eq.1 hj with hj|rfl
    ·exact hno j hj
    ·rw[←d1];exact h⟩
   have bad:bO k r=false→c_ s=false:=fun h=>decide_eq_false fun h'=>by
    have:=h'.2.2 k hlt
    rw[←d1,h] at this
    cases this
   by_cases c1:(97:Int)≤(r:Int)
   ·by_cases c2:(r:Int)≤122
    ·simp -implicitDefEqProofs [c1,c2]
     have hg:=good (by simp[bO,dK];omega)
     rw[hg.1]
     exact aQ hlt ⟨by simp[e0],by simp[e6],by simp,hg.2⟩
    ·simp -implicitDefEqProofs [c1,c2]
     by_cases c3:0<k
     ·have c4:(48:Int)≤(r:Int):=by omega
      have c5:¬(r:Int)≤57:=by omega
      have c6:((r:Int)==46)=false:=beq_eq_false_iff_ne.2 (by omega)
      simp -implicitDefEqProofs [c3,c4,c5,c6]
      simp -implicitDefEqProofs [afd,bad (by simp[bO,dK,isDigit];omega)]
     ·simp -implicitDefEqProofs [c3]
      simp -implicitDefEqProofs [afd,bad (by simp[bO,dK,c3];omega)]
   ·simp -implicitDefEqProofs [c1]
    by_cases c3:0<k
    ·by_cases c4:(48:Int)≤(r:Int)
     ·by_cases c5:(r:Int)≤57
      ·simp -implicitDefEqProofs [c3,c4,c5]
       have hg:=good (by simp[bO,isDigit,c3];omega)
       rw[hg.1]
       exact aQ hlt ⟨by simp[e0],by simp[e6],by simp,hg.2⟩
      ·have c6:((r:Int)==46)=false:=beq_eq_false_iff_ne.2 (by omega)
       simp -implicitDefEqProofs [c3,c4,c5,c6]
       simp -implicitDefEqProofs [afd,bad (by simp[bO,dK,isDigit];omega)]
     ·simp -implicitDefEqProofs [c3,c4]
      refine bR (fun he=> ?_) (fun he=> ?_)
      ·have hr:(r:Int)=46:=by simpa using he
       have hg:=good (by simp[bO,c3];omega)
       simp -implicitDefEqProofs
       rw[hg.1]
       exact aQ hlt ⟨by simp[e0],by simp[e6],by simp,hg.2⟩
      ·have hr:(r:Int)≠46:=by simpa using he
       simp -implicitDefEqProofs [afd,bad (by simp[bO,dK,isDigit];omega)]
    ·simp -implicitDefEqProofs [c3]
     simp -implicitDefEqProofs [afd,bad (by simp[bO,dK,c3];omega)]
  ·obtain rfl:k=s.size:=by omega
   simp -implicitDefEqProofs [e0]
   rw[DX]
   by_cases h0:s.size=0
   ·have e:c_ s=false:=decide_eq_false fun h=>by obtain⟨_,_,_⟩:=h;omega
    simp -implicitDefEqProofs [h0,afd,e]
   ·simp -implicitDefEqProofs [h0,afd,e0]
    by_cases h1:s.size≤16
    ·have e:c_ s=true:=decide_eq_true ⟨by omega,h1,hno⟩
     rw[e];simp;omega
    ·have e:c_ s=false:=decide_eq_false fun h=>by obtain⟨_,_,_⟩:=h;omega
     rw[e];simp;omega
def sEq(p q:ByteArray):Bool:=p.toList==q.toList
theorem WV(p q:ByteArray):sEq p q=sEq q p:=by unfold sEq;rw[Bool.beq_comm]
theorem DZ(l:List ByteArray)(x:ByteArray):aed Tryz.prog 62 [SL l,S x] (I (firstAt (fun y=>sEq y x) l)):=by
 refine pc t62 (by simp) fun hfit=> ?_
 have hl:=cY (hfit 0)
 simp only[List.length_map] at hl
 simp -implicitDefEqProofs [C8]
 refine⟨i64 (by omega) (by omega),?_⟩
 refine aef l.length (fun k s=>s.env 0=SL l∧s.env 1=S x∧(∃i:Int,i=l.length - 1 - k∧s.env 5=I i)∧∀j (hj:j<l.length),l.length<j+1+k→sEq l[j] x=false) ?_ ?_
 ·simp
  intro j hj h;omega
 ·rintro k s hk ⟨e0,e1,⟨i,hi,e5⟩,hno⟩
  simp -implicitDefEqProofs [e5]
  by_cases hlt:k<l.length
  ·have h0:0≤i:=by omega
   obtain⟨n,rfl⟩:∃n:Nat,i=n:=⟨i.toNat,by omega⟩
   have hn:n<l.length:=by omega
   simp -implicitDefEqProofs [e0,e1,e5,hn]
   refine bR (fun he=> ?_) (fun he=> ?_)
   ·simp -implicitDefEqProofs [e5]
    refine⟨i64 (by omega) (by omega),aQ hlt ⟨by simp[e0],by simp[e1],by simp;omega,?_⟩⟩
    intro j hj WW
    by_cases Ht:n<j
    ·exact hno j hj (by omega)
    ·obtain rfl:j=n:=by omega
     simpa[sEq] using he
   ·have hx:sEq l[n] x=true:=by simpa[sEq] using he
    simp -implicitDefEqProofs
    refine aef n (fun j s=>s.env 0=SL l∧s.env 1=S x∧s.env 5=I n∧s.env 6=I j∧∀y∈l.take j,sEq y x=false) ?_ ?_
    ·simp[e0,e1,e5]
    ·rintro j s hj ⟨e0,e1,e5,e6,qo⟩
     simp -implicitDefEqProofs [e5,e6]
     refine bA (fun hlt=> ?_) (fun hge=> ?_)
     ·have hjl:j<l.length:=by omega
      simp -implicitDefEqProofs [e0,e1,e6,hjl]
      refine bR (fun he=> ?_) (fun he=> ?_)
      ·have hc:=oL (p:=fun y=>sEq y x) hjl (by simpa[sEq] using he) qo
       simp -implicitDefEqProofs [qm,e6,hc]
      ·simp -implicitDefEqProofs [e6]
       refine⟨i64 (by omega) (by omega),aQ (by omega) ⟨by simp[e0],by simp[e1],by simp[e5],by simp,?_⟩⟩
       intro y hy
       rw[ael hjl,List.mem_append,List.mem_singleton] at hy
       rcases hy with hy|rfl
       ·exact qo y hy
       ·simpa[sEq] using he
     ·obtain rfl:j=n:=by omega
      have hc:=oL (p:=fun y=>sEq y x) hn hx qo
      simp -implicitDefEqProofs [qm,e5,hc]
  ·obtain rfl:k=l.length:=by omega
   have h0:¬0≤i:=by omega
   have h1:i= -1:=by omega
   subst h1
   simp -implicitDefEqProofs
   have hc:=agx (p:=fun y=>sEq y x) (l:=l) (fun y hy=>by
    obtain⟨j,hj,rfl⟩:=List.mem_iff_getElem.1 hy
    exact hno j hj (by omega))
   refine aef 0 (fun j s=>s.env 5=I (-1)∧s.env 6=I 0) ?_ ?_
   ·simp[e5]
   ·rintro j s hj ⟨e5,e6⟩
    simp -implicitDefEqProofs [e5,e6,qm,hc]
def dx(name:ByteArray)(before:List ByteArray):Int:=if c_ name then (if before.any fun s=>sEq s name then 5 else 0) else 6
theorem yM(name:ByteArray)(l:List ByteArray):aed Tryz.prog 18 [S name,SL l] (I (dx name l)):=by
 refine pc t18 (by simp) fun hfit=> ?_
 simp -implicitDefEqProofs [CV]
 refine aj (DZ l name) ?_
 have e:=agy (fun y=>sEq y name) l
 cases h:l.any fun y=>sEq y name with
 |true=>
  rw[h] at e
  have e':0≤firstAt (fun y=>sEq y name) l:=of_decide_eq_true e
  simp -implicitDefEqProofs [e']
  refine aj (vj name) ?_
  cases hn:c_ name<;>simp -implicitDefEqProofs [uX,dx,hn,h]
 |false=>
  rw[h] at e
  have e':¬0≤firstAt (fun y=>sEq y name) l:=of_decide_eq_false e
  simp -implicitDefEqProofs [e']
  refine aj (vj name) ?_
  cases hn:c_ name<;>simp -implicitDefEqProofs [uX,dx,hn,h]
theorem D0{cs:List AV}(h:Fits (.ref cs))(i:Nat):Fits (cs.getD i .any):=by
 obtain⟨w,A,v,h⟩:=h
 cases h with
 |ref _ b off vs hc hr=>exact⟨w,A,_,hr i⟩
theorem jJ{cs:List AV}(h:Fits (.agg cs))(i:Nat):Fits (cs.getD i .any):=by
 obtain⟨w,A,v,h⟩:=h
 cases h with
 |agg _ vs hs hr=>exact⟨w,A,_,hr i⟩
theorem drop_cons{α:Type}{l:List α}{k:Nat}(h:k<l.length):l.drop k=l[k]::l.drop (k+1):=List.drop_eq_getElem_cons h
end Go.Proofs.YtnncgmimhdplfaaGreat.P
namespace Go.Proofs.YtnncgmimhdplfaaGreat.P
open Go.aq
theorem Eh(l:List Int)(x:Int):aed Tryz.prog 12 [IL l,I x] (B (decide (x∈l))):=by
 refine pc t12 (by simp) fun hfit=> ?_
 have hl:=cY (hfit 0)
 simp only[List.length_map] at hl
 simp -implicitDefEqProofs [CT]
 refine aef l.length (fun k s=>s.env 0=IL l∧s.env 1=I x∧s.env 5=I k∧x∉l.take k) ?_ ?_
 ·simp
 ·rintro k s hk ⟨e0,e1,e5,hno⟩
  simp -implicitDefEqProofs [e0,e5]
  refine bA (fun hlt=> ?_) (fun hge=> ?_)
  ·simp -implicitDefEqProofs [e0,e1,e5,hlt]
   refine bR (fun he=> ?_) (fun he=> ?_)
   ·have hc:x∈l:=by
     have:l[k]=x:=by simpa using he
     rw[←this];exact List.getElem_mem _
    simp -implicitDefEqProofs [uW,hc]
   ·simp -implicitDefEqProofs [e5]
    refine⟨i64 (by omega) (by omega),aQ hlt ⟨by simp[e0],by simp[e1],by simp,?_⟩⟩
    have hne:¬l[k]=x:=by simpa using he
    rw[ael hlt,List.mem_append,List.mem_singleton]
    exact fun h=>h.elim hno fun h=>hne h.symm
  ·obtain rfl:k=l.length:=by omega
   rw[List.take_length] at hno
   simp -implicitDefEqProofs [uW,hno]
def fS(l:List Int)(x:Int):Int:=match l.idxOf? x with
 |some i=>i
 |none=> -1
theorem yX(m:Nat)(hm:m≤5):aed Tryz.prog 47 [I m] (cu (aeN m m)):=by
 refine pc t47 (by simp) fun hfit=> ?_
 have tL:∀i,i≤m→(aeN m i).length≤3125:=fun i hi=>by
  refine Nat.le_trans (vZ m i) ?_
  refine Nat.le_trans (Nat.pow_le_pow_left hm i) ?_
  exact Nat.le_trans (Nat.pow_le_pow_right (by omega) (show i≤5 by omega)) (by decide)
 simp -implicitDefEqProofs [J_]
 refine aef m (fun i s=>s.env 0=I m∧s.env 3=.slice 1 ((aeN m i).map IL) 4∧s.env 4=I i) ?_ ?_
 ·simp[aeN]
 ·rintro i s hi ⟨e0,e3,e4⟩
  simp -implicitDefEqProofs [e0,e4]
  refine bA (fun hlt=> ?_) (fun hge=> ?_)
  ·simp -implicitDefEqProofs
   have hout:=tL i hi
   generalize hO:aeN m i=out at e3 hout
   refine aef out.length (fun k s=>s.env 0=I m∧s.env 3=.slice 1 (out.map IL) 4∧s.env 4=I i∧s.env 5=.slice 1 (((out.take k).flatMap (grow m)).map IL) 6∧s.env 6=I k) ?_ ?_
   ·simp[e0,e3,e4]
   ·rintro k s hk ⟨e0,e3,e4,e5,e6⟩
    simp -implicitDefEqProofs [e3,e6]
    refine bA (fun br=> ?_) (fun nA=> ?_)
    ·simp -implicitDefEqProofs
     have hacc:=E1 m (out.take k)
     have ad0:(out.take k).length≤k:=List.length_take_le _ _
     have abn:((out.take k).flatMap (grow m)).length≤3125*5:=Nat.le_trans hacc (Nat.mul_le_mul (by omega) hm)
     generalize hA:(out.take k).flatMap (grow m)=acc at e5 abn
     refine aef m (fun j s=>s.env 0=I m∧s.env 3=.slice 1 (out.map IL) 4∧s.env 4=I i∧s.env 5=.slice 1 ((acc++grow j out[k]).map IL) 6∧s.env 6=I k∧s.env 7=I j) ?_ ?_
     ·simp[e0,e3,e4,e5,e6,grow]
     ·rintro j s hj ⟨e0,e3,e4,e5,e6,e7⟩
      simp -implicitDefEqProofs [e0,e7]
      refine bA (fun aeY=> ?_) (fun D5=> ?_)
      ·simp -implicitDefEqProofs [e3,e6,e7,br]
       refine aj (Eh _ _) ?_
       simp -implicitDefEqProofs
       have hgl:=NJ j out[k]
       refine bR (fun h=> ?_) (fun h=> ?_)
       ·have hno:((j:Nat):Int)∉out[k]:=by simpa using h
        simp -implicitDefEqProofs [e3,e5,e6,e7,br]
        have gM:out[k].length=i:=(kE m i _ (by rw[hO];exact List.getElem_mem _)).1
        refine⟨by omega,by omega,by omega,by omega,by omega,by omega,i64 (by omega) (by omega),aQ aeY ?_⟩
        rw[NK,if_neg hno]
        simp[e0,e3,e4,e6]
       ·have hin:((j:Nat):Int)∈out[k]:=by simpa using h
        simp -implicitDefEqProofs [e7]
        refine⟨i64 (by omega) (by omega),aQ aeY ?_⟩
        rw[NK,if_pos hin,List.append_nil]
        simp[e0,e3,e4,e5,e6]
      ·obtain rfl:j=m:=by omega
       simp -implicitDefEqProofs [e6]
       refine⟨i64 (by omega) (by omega),aQ br ?_⟩
       rw[ael br,List.flatMap_append,hA]
       simp[e0,e3,e4,e5]
    ·obtain rfl:k=out.length:=by omega
     rw[List.take_length] at e5
     simp -implicitDefEqProofs [e4,e5]
     refine⟨i64 (by omega) (by omega),aQ hlt ?_⟩
     rw[aeN,hO]
     simp[e0]
  ·obtain rfl:i=m:=by omega
   simp -implicitDefEqProofs [J',e3]
theorem sy(a b:List Int):aed Tryz.prog 16 [IL a,IL b] (B (decide (a=b))):=by
 refine pc t16 (by simp) fun hfit=> ?_
 have ha:=cY (hfit 0)
 have hb:=cY (hfit 1)
 simp only[List.length_map] at ha hb
 simp -implicitDefEqProofs [m16]
 refine aef a.length (fun k s=>s.env 0=IL a∧s.env 1=IL b∧s.env 6=I k∧s.env 5=B (decide (a.length=b.length∧a.take k=b.take k))) ?_ ?_
 ·by_cases h:a.length=b.length
  ·simp[h]
  ·simp[h];omega
 ·rintro k s hk ⟨e0,e1,e6,e5⟩
  by_cases hsame:a.length=b.length∧a.take k=b.take k
  ·have e5':s.env 5=B true:=by rw[e5];simp only[hsame,and_self,decide_true]
   by_cases hlt:k<a.length
   ·have br:k<b.length:=by omega
    simp -implicitDefEqProofs [e0,e1,e5',e6,hlt,br]
    refine⟨i64 (by omega) (by omega),aQ hlt ⟨by simp[e0],by simp[e1],by simp,?_⟩⟩
    simp
    rw[ael hlt,hsame.2,Bool.eq_iff_iff]
    simp[hsame.1,ael br,-List.take_append_getElem]
   ·obtain rfl:k=a.length:=by omega
    have hab:a=b:=by
     have:=hsame.2
     rw[List.take_length,hsame.1,List.take_length] at this
     exact this
    simp -implicitDefEqProofs [e0,e5',e6,ql,hab]
  ·have hne:a≠b:=fun h=>hsame (by rw[h];exact⟨rfl,rfl⟩)
   have e5':s.env 5=B false:=by rw[e5,decide_eq_false hsame]
   simp -implicitDefEqProofs [e5',ql,hne]
theorem MK(a b:List (List Int)):aed Tryz.prog 44 [cu a,cu b] (B (decide (a=b))):=by
 refine pc t44 (by simp) fun hfit=> ?_
 have ha:=cY (hfit 0)
 have hb:=cY (hfit 1)
 simp only[List.length_map] at ha hb
 simp -implicitDefEqProofs [J5]
 refine bR (fun h=> ?_) (fun h=> ?_)
 ·have hne:a≠b:=fun e=>by rw[e] at h;simp at h
  simp -implicitDefEqProofs [yp,hne]
 ·have hl:a.length=b.length:=by
   have:(a.length:Int)=b.length:=by simpa using h
   omega
  simp -implicitDefEqProofs
  refine aef a.length (fun k s=>s.env 0=cu a∧s.env 1=cu b∧s.env 5=I k∧a.take k=b.take k) ?_ ?_
  ·simp
  ·rintro k s hk ⟨e0,e1,e5,hsame⟩
   simp -implicitDefEqProofs [e0,e5]
   refine bA (fun hlt=> ?_) (fun hge=> ?_)
   ·have br:k<b.length:=by omega
    simp -implicitDefEqProofs [e0,e1,e5,hlt,br]
    refine aj (sy _ _) ?_
    simp -implicitDefEqProofs
    refine bR (fun h=> ?_) (fun h=> ?_)
    ·have hne:a≠b:=fun e=>by subst e;simp at h
     simp -implicitDefEqProofs [yp,hne]
    ·simp -implicitDefEqProofs [e5]
     refine⟨i64 (by omega) (by omega),aQ hlt ⟨by simp[e0],by simp[e1],by simp,?_⟩⟩
     have he:a[k]=b[k]:=by simpa using h
     rw[ael hlt,ael br,hsame,he]
   ·obtain rfl:k=a.length:=by omega
    have hab:a=b:=by rw[List.take_length,hl,List.take_length] at hsame;exact hsame
    simp -implicitDefEqProofs [yp,hab]
theorem abo(l:List Int)(h:∀k,gu .i64 (l.take k).sum):aed Tryz.prog 83 [IL l] (I l.sum):=by
 refine pc t83 (by simp) fun hfit=> ?_
 have hl:=cY (hfit 0)
 simp only[List.length_map] at hl
 simp -implicitDefEqProofs [KJ]
 refine aef l.length (fun k s=>s.env 0=IL l∧s.env 3=I (l.take k).sum∧s.env 4=I k) ?_ ?_
 ·simp
 ·rintro k s hk ⟨e0,e3,e4⟩
  simp -implicitDefEqProofs [e0,e4]
  refine bA (fun hlt=> ?_) (fun hge=> ?_)
  ·have hs:(l.take k).sum+l[k]=(l.take (k+1)).sum:=by rw[ael hlt,List.sum_append];simp
   simp -implicitDefEqProofs [e0,e3,e4,hlt,hs,h]
   exact⟨i64 (by omega) (by omega),aQ hlt (by simp[e0])⟩
  ·obtain rfl:k=l.length:=by omega
   simp -implicitDefEqProofs [e3,KK]
def used:List Int→Int→Int→Int
 |[],_,_=>0
 |x::l,above,n=>(if above<n then 1 else 0)+used l (above+x) n
theorem NY(x:Int):∀(l:List Int) (a n:Int),used (l++[x]) a n=used l a n+if a+l.sum<n then 1 else 0
 |[],a,n=>by simp[used]
 |y::l,a,n=>by
  have:=NY x l (a+y) n
  simp only[List.cons_append,used,this,List.sum_cons]
  have e:a+y+l.sum=a+(y+l.sum):=by omega
  rw[e];omega
theorem NZ:∀(l:List Int) (a n:Int),0≤used l a n∧used l a n≤l.length
 |[],_,_=>by simp[used]
 |x::l,a,n=>by
  have:=NZ l (a+x) n
  simp only[used,List.length_cons]
  split<;>omega
end Go.Proofs.YtnncgmimhdplfaaGreat.P
namespace Go.Proofs.YtnncgmimhdplfaaGreat.P
open Go.aq
theorem abp(c:Case)(h:c.OK):aed Tryz.prog 46 [cj c] (cu (cO c)):=by
 refine pc t46 (by simp) fun hfit=> ?_
 have rN:=h.an
 simp -implicitDefEqProofs [J8]
 refine aef c.an.length (fun i s=>s.env 1=.ref [I c.run,.slice 3 (c.aB.map gY) 0,.slice 3 (c.an.map ia) 0,I c.aA,.slice 2 (c.seen.map gG) 0]∧s.env 3=.slice 1 ((jj c i).map IL) 4∧s.env 4=I i) ?_ ?_
 ·simp[jj,nM]
 ·rintro i s hi ⟨e1,e3,e4⟩
  simp -implicitDefEqProofs [e1,e4]
  refine bA (fun hlt=> ?_) (fun hge=> ?_)
  ·simp -implicitDefEqProofs
   have hout:=NG h i hi
   have agX:=EY h i hi
   have hw:=sQ h hlt
   have zm:=h.nN hlt
   generalize hO:jj c i=out at e3 hout agX
   refine aef out.length (fun k s=>s.env 1=.ref [I c.run,.slice 3 (c.aB.map gY) 0,.slice 3 (c.an.map ia) 0,I c.aA,.slice 2 (c.seen.map gG) 0]∧s.env 3=.slice 1 (out.map IL) 4∧s.env 4=I i∧s.env 5=.slice 1 (((out.take k).flatMap (ext c.an[i] c.an[i].wide)).map IL) 6∧s.env 6=I k) ?_ ?_
   ·simp[e1,e3,e4]
   ·rintro k s hk ⟨e1,e3,e4,e5,e6⟩
    simp -implicitDefEqProofs [e3,e6]
    refine bA (fun br=> ?_) (fun nA=> ?_)
    ·simp -implicitDefEqProofs [e1,e4,hlt]
     have hacc:((out.take k).flatMap (ext c.an[i] c.an[i].wide)).length≤81*3:=by
      rw[EU]
      exact Nat.mul_le_mul (Nat.le_trans (List.length_take_le _ _) (by omega)) hw.2.1
     generalize hA:(out.take k).flatMap (ext c.an[i] c.an[i].wide)=acc at e5 hacc
     refine aef c.an[i].wide (fun j s=>s.env 1=.ref [I c.run,.slice 3 (c.aB.map gY) 0,.slice 3 (c.an.map ia) 0,I c.aA,.slice 2 (c.seen.map gG) 0]∧s.env 3=.slice 1 (out.map IL) 4∧s.env 4=I i∧s.env 5=.slice 1 ((acc++ext c.an[i] j out[k]).map IL) 6∧s.env 6=I k∧s.env 7=I (c.an[i].lo+j)) ?_ ?_
     ·simp[e1,e3,e4,e5,e6,ext,sP]
     ·rintro j s hj ⟨e1,e3,e4,e5,e6,e7⟩
      simp -implicitDefEqProofs [e1,e4,e7,hlt]
      refine bA (fun aeY=> ?_) (fun D5=> ?_)
      ·have gM:out[k].length=i:=(agX _ (List.getElem_mem _)).1
       have hjw:j<c.an[i].wide:=by omega
       simp -implicitDefEqProofs [e3,e5,e6,e7,br,ND]
       refine⟨by omega,by omega,by omega,by omega,by omega,by omega,i64 (by omega) (by omega),aQ hjw ?_⟩
       rw[aa']
       simp[e1,e3,e4,e6]
       omega
      ·obtain rfl:j=c.an[i].wide:=by omega
       simp -implicitDefEqProofs [e6]
       refine⟨i64 (by omega) (by omega),aQ br ?_⟩
       rw[ael br,List.flatMap_append,hA]
       simp[e1,e3,e4,e5]
    ·obtain rfl:k=out.length:=by omega
     rw[List.take_length] at e5
     simp -implicitDefEqProofs [e4,e5]
     refine⟨i64 (by omega) (by omega),aQ hlt ?_⟩
     rw[ET c i hlt,hO]
     simp[e1]
  ·obtain rfl:i=c.an.length:=by omega
   simp -implicitDefEqProofs
   have hout:=NG h _ hi
   have agX:=EY h _ hi
   unfold cO
   generalize hO:jj c c.an.length=out at e3 hout agX
   refine aef out.length (fun k s=>s.env 1=.ref [I c.run,.slice 3 (c.aB.map gY) 0,.slice 3 (c.an.map ia) 0,I c.aA,.slice 2 (c.seen.map gG) 0]∧s.env 3=.slice 1 (out.map IL) 4∧s.env 8=.slice 1 (((out.take k).filter fun p=>decide (c.run*c.aA≤p.sum)).map IL) 9∧s.env 9=I k) ?_ ?_
   ·simp[e1,e3]
   ·rintro k s hk ⟨e1,e3,e8,e9⟩
    simp -implicitDefEqProofs [e3,e9]
    refine bA (fun br=> ?_) (fun nA=> ?_)
    ·have he:=agX out[k] (List.getElem_mem _)
     have iT:∀n,gu .i64 ((out[k].take n).sum):=fun n=>by
      have h1:=EZ (out[k].take n) (fun x hx=>he.2 x (List.mem_of_mem_take hx))
      have h2:(out[k].take n).length≤out[k].length:=List.length_take_le' _ _
      exact i64 (by omega) (by omega)
     have hg:=h.aA
     have hrun:=h.run
     have hmul:0≤c.run*c.aA∧c.run*c.aA≤2500:=by
      refine⟨Int.mul_nonneg (by omega) (by omega),?_⟩
      exact Int.le_trans (Int.mul_le_mul hrun.2 hg.2 (by omega) (by omega)) (by omega)
     have hfl:((out.take k).filter fun p=>decide (c.run*c.aA≤p.sum)).length≤81:=Nat.le_trans (List.length_filter_le _ _) (Nat.le_trans (List.length_take_le _ _) (by omega))
     simp -implicitDefEqProofs [e3,e9,br]
     refine aj (abo _ iT) ?_
     simp -implicitDefEqProofs [e1]
     refine⟨i64 (by omega) (by omega),?_⟩
     refine bA (fun hc=> ?_) (fun hc=> ?_)
     ·simp -implicitDefEqProofs [e3,e8,e9,br]
      refine⟨by omega,by omega,i64 (by omega) (by omega),aQ br ?_⟩
      rw[ael br,List.filter_append]
      simp[e1,e3,hc]
     ·simp -implicitDefEqProofs [e9]
      refine⟨i64 (by omega) (by omega),aQ br ?_⟩
      rw[ael br,List.filter_append]
      simp[e1,e3,e8,hc]
    ·obtain rfl:k=out.length:=by omega
     rw[List.take_length] at e8
     simp -implicitDefEqProofs [J9,e8]
theorem abq(c:Case)(h:c.OK)(az:List Int)(hp:afj c az):aed Tryz.prog 49 [cj c,IL az] (cu (dD c az)):=by
 refine pc t49 (by simp) fun hfit=> ?_
 have rN:=h.an
 have sS:=h.aB
 have hg:=h.aA
 have hrun:=h.run
 have hlen:=hp.len
 obtain⟨g,v8⟩:∃g:Nat,c.aA=g:=⟨c.aA.toNat,by omega⟩
 have E6:g≤5:=by omega
 have ju:dD c az=iS c az g:=by unfold dD;rw[v8];rfl
 rw[ju]
 have hmul:∀p:Nat,p≤5→0≤(p:Int)*c.run∧(p:Int)*c.run≤2500:=fun p E7=>⟨Int.mul_nonneg (by omega) (by omega),Int.le_trans (Int.mul_le_mul (show(p:Int)≤5 by omega) hrun.2 (by omega) (by omega)) (by omega)⟩
 simp -implicitDefEqProofs [Kb]
 refine aef g (fun p s=>s.env 2=bn c∧s.env 1=IL az∧s.env 5=.slice 1 ((iS c az p).map IL) 6∧s.env 6=I p) ?_ ?_
 ·simp[iS]
 ·rintro p s xp ⟨e2,e1,e5,e6⟩
  simp -implicitDefEqProofs [e2,e6]
  refine bA (fun hlt=> ?_) (fun hge=> ?_)
  ·have hlt':p<g:=by omega
   simp -implicitDefEqProofs
   have E7:=hmul p (by omega)
   have E8:=hmul (p+1) (by omega)
   have hcast:((p+1:Nat):Int)*c.run=((p:Int)+1)*c.run:=by simp
   rw[hcast] at E8
   refine aef c.aB.length (fun k s=>s.env 2=bn c∧s.env 1=IL az∧s.env 5=.slice 1 ((iS c az p).map IL) 6∧s.env 6=I p∧s.env 7=.slice 1 ((fQ c az p k).map I) 8∧s.env 8=I k) ?_ ?_
   ·simp[e2,e1,e5,e6,fQ]
   ·rintro k s hk ⟨e2,e1,e5,e6,e7,e8⟩
    simp -implicitDefEqProofs [e2,e8]
    refine bA (fun br=> ?_) (fun nA=> ?_)
    ·simp -implicitDefEqProofs
     refine aef az.length (fun i s=>s.env 2=bn c∧s.env 1=IL az∧s.env 5=.slice 1 ((iS c az p).map IL) 6∧s.env 6=I p∧s.env 7=.slice 1 ((fQ c az p k).map I) 8∧s.env 8=I k∧s.env 9=I (az.take i).sum∧s.env 10=B (fP c az p k i)∧s.env 11=I i) ?_ ?_
     ·simp[e2,e1,e5,e6,e7,e8,fP]
     ·rintro i s hi ⟨e2,e1,e5,e6,e7,e8,e9,bC,bf⟩
      simp -implicitDefEqProofs [e1,bf]
      refine bA (fun aeY=> ?_) (fun D5=> ?_)
      ·have eH:i<c.an.length:=by omega
       have iT:=hp.sum h i
       have E9:=hp.sum h (i+1)
       have hs:(az.take i).sum+az[i]=(az.take (i+1)).sum:=by rw[ael aeY,List.sum_append];simp
       have qI:=NL c az p k i
       have abr:sR c az p k i=decide (c.an[i].dA=k∧(az.take i).sum<((p:Int)+1)*c.run∧(p:Int)*c.run<(az.take (i+1)).sum):=by
        unfold sR mJ
        simp[eH,aeY,hs]
       rw[abr] at qI
       by_cases hc:fP c az p k i=true
       ·rw[hc,Bool.true_or] at qI
        rw[hc] at bC
        simp -implicitDefEqProofs [e1,e9,bC,bf,aeY,hs]
        refine⟨i64 (by omega) (by omega),i64 (by omega) (by omega),aQ aeY ?_⟩
        simp[e2,e1,e5,e6,e7,e8,qI]
       ·have ga:fP c az p k i=false:=by simpa using hc
        rw[ga,Bool.false_or] at qI
        rw[ga] at bC
        by_cases hst:c.an[i].dA=k
        ·by_cases hab:(az.take i).sum<((p:Int)+1)*c.run
         ·simp -implicitDefEqProofs [e1,e2,e6,e8,e9,bC,bf,aeY,eH,hst,hs,hab]
          refine⟨i64 (by omega) (by omega),i64 (by omega) (by omega),i64 (by omega) (by omega),i64 (by omega) (by omega),i64 (by omega) (by omega),i64 (by omega) (by omega),aQ aeY ?_⟩
          simp[e2,e1,e5,e6,e7,e8,qI,hst,hab]
         ·simp -implicitDefEqProofs [e1,e2,e6,e8,e9,bC,bf,aeY,eH,hst,hs,hab]
          refine⟨i64 (by omega) (by omega),i64 (by omega) (by omega),i64 (by omega) (by omega),i64 (by omega) (by omega),aQ aeY ?_⟩
          simp[e2,e1,e5,e6,e7,e8,qI,hab]
        ·have abt:(c.an[i].dA==(k:Int))=false:=by simpa using hst
         simp -implicitDefEqProofs [e1,e2,e8,e9,bC,bf,aeY,eH,abt,hs]
         refine⟨i64 (by omega) (by omega),i64 (by omega) (by omega),aQ aeY ?_⟩
         simp[e2,e1,e5,e6,e7,e8,qI,hst]
      ·obtain rfl:i=az.length:=by omega
       have M5:=NM c az p k
       have zn:=abc c az p k
       simp -implicitDefEqProofs [bC]
       refine bR (fun hc=> ?_) (fun hc=> ?_)
       ·rw[hc,if_pos rfl] at zn
        simp -implicitDefEqProofs [e7,e8]
        refine⟨by omega,by omega,i64 (by omega) (by omega),aQ br ?_⟩
        simp[e2,e1,e5,e6,zn]
       ·rw[hc,if_neg (by simp),List.append_nil] at zn
        simp -implicitDefEqProofs [e8]
        refine⟨i64 (by omega) (by omega),aQ br ?_⟩
        simp[e2,e1,e5,e6,e7,zn]
    ·obtain rfl:k=c.aB.length:=by omega
     have hpu:(iS c az p).length=p:=by simp[iS]
     simp -implicitDefEqProofs [e5,e6,e7,hpu]
     refine⟨by omega,by omega,i64 (by omega) (by omega),aQ hlt' ?_⟩
     rw[abd]
     simp[e2,e1]
  ·obtain rfl:p=g:=by omega
   simp -implicitDefEqProofs [Kc,e5]
end Go.Proofs.YtnncgmimhdplfaaGreat.P
namespace Go.Proofs.YtnncgmimhdplfaaGreat.P
open Go.aq
theorem abu(n:Nat)(h:n<256):aed Tryz.prog 107 [.lit (.int .u64 n)] (I (eF n:Nat)):=afK (l:=List.range 256) (xs:=fun n=>[.lit (.int .u64 n)]) (r:=fun n=>I (eF n:Nat)) F.oK (by kernel_rfl) n (by simpa using h)
theorem N0(n:Nat)(h:n<256):aed Tryz.prog 105 [.lit (.int .u64 n)] (I (bJ n).length):=afK (l:=List.range 256) (xs:=fun n=>[.lit (.int .u64 n)]) (r:=fun n=>I (bJ n).length) F.oK (by kernel_rfl) n (by simpa using h)
end Go.Proofs.YtnncgmimhdplfaaGreat.P
namespace Go.Proofs.YtnncgmimhdplfaaGreat.P
open Go.aq
theorem vK{a:Nat}(h:a<1099511627776):IntKind.wrap .i64 (a:Int)=a:=by
 simp[IntKind.wrap,IntKind.bits,IntKind.signed]
 omega
theorem qx{a:Nat}(h:a<1099511627776):IntKind.wrap .u64 (a:Int)=a:=by
 simp[IntKind.wrap,IntKind.bits,IntKind.signed]
 omega
theorem qy(a:Nat):BitVec.ofInt 64 (a:Int)=BitVec.ofNat 64 a:=by simp
theorem ahc{a:Nat}(ha:a<1099511627776):cP .and .i64 (a:Int) 1=((a%2:Nat):Int):=by
 have e:((BitVec.ofInt (IntKind.bits .i64) (a:Int)) &&& (BitVec.ofInt (IntKind.bits .i64) 1)).toNat=a%2:=by
  show(BitVec.ofInt 64 (a:Int) &&& BitVec.ofInt 64 ((1:Nat):Int)).toNat=_
  rw[qy,qy,BitVec.toNat_and,BitVec.toNat_ofNat,BitVec.toNat_ofNat,Nat.mod_eq_of_lt (by omega),Nat.mod_eq_of_lt (by omega)]
  exact Nat.and_one_is_mod a
 unfold cP
 show IntKind.wrap .i64 _=_
 rw[e]
 exact vK (by omega)
theorem ahd{n i:Nat}(hn:n<256):(cP .and .i64 (Int.fdiv (n:Int) (2^(min i 64))) 1==1)=n.testBit i∨64<i:=by
 by_cases hi:64<i
 ·exact .inr hi
 left
 rw[Nat.min_eq_left (by omega)]
 have e:Int.fdiv (n:Int) (2^i)=((n / 2^i:Nat):Int):=by
  rw[Int.fdiv_eq_ediv_of_nonneg _ (by exact Int.pow_nonneg (by omega))]
  simp
 rw[e,ahc (Nat.lt_of_le_of_lt (Nat.div_le_self _ _) (by omega)),Nat.testBit_eq_decide_div_mod_eq]
 rcases Nat.mod_two_eq_zero_or_one (n / 2^i) with h|h<;>rw[h]<;>rfl
theorem En{n:Nat}(h:n<256):eF n≤8∧n<2^eF n:=by
 unfold eF
 cases hf:(List.range 9).find? fun i=>n<2^i with
 |none=>
  rw[List.find?_eq_none] at hf
  have:=hf 8 (by simp)
  simp at this;omega
 |some i=>
  have h1:=List.find?_some hf
  have h2:=List.mem_of_find?_eq_some hf
  simp at h1 h2
  simp
  omega
theorem vL{n L:Nat}(h:n<2^L):∀d,bu (fun i=>n.testBit i) (L+d)=bu (fun i=>n.testBit i) L
 |0=>rfl
 |d+1=>by
  have hf:(fun i=>n.testBit i) (L+d)=false:=Nat.testBit_lt_two_pow (Nat.lt_of_lt_of_le h (Nat.pow_le_pow_right (by omega) (by omega)))
  rw[show L+(d+1)=(L+d)+1 from rfl,oQ hf,vL h d]
theorem qJ{n:Nat}(hn:n<256):aed Tryz.prog 75 [I n] (IL (bJ n)):=by
 refine pc t75 (by simp) fun hfit=> ?_
 have c:=abu n hn
 have hl:=En hn
 have hw:=qx (a:=n) (by omega)
 have hres:bJ n=bu (fun i=>n.testBit i) (eF n):=by
  unfold bJ
  have:=vL hl.2 (8 - eF n)
  rwa [show eF n+(8 - eF n)=8 by omega] at this
 rw[hres]
 generalize eF n=L at*
 simp -implicitDefEqProofs [KA,hw]
 refine aj c ?_
 simp -implicitDefEqProofs
 refine aef L (fun k s=>s.env 0=I n∧s.env 2=.slice 1 ((bu (fun i=>n.testBit i) k).map I) 3∧s.env 6=I L∧s.env 7=I k) ?_ ?_
 ·simp[Ee]
 rintro k s hk ⟨e0,e2,e6,e7⟩
 simp -implicitDefEqProofs [e6,e7]
 refine bA (fun hlt=> ?_) (fun hge=> ?_)
 ·have hlt:k<L:=by omega
  have M5:=nH (fun i=>n.testBit i) k
  have hb:(cP .and .i64 (Int.fdiv (n:Int) (2^(min k 64))) 1==1)=n.testBit k:=by
   rcases ahd (i:=k) hn with h|h
   ·exact h
   ·omega
  simp -implicitDefEqProofs [e0,e7]
  have hb':(cP .and .i64 (Int.fdiv (n:Int) (2^(min k (IntKind.bits .i64)))) 1==1)=n.testBit k:=hb
  rw[hb']
  refine bR (fun he=> ?_) (fun he=> ?_)
  ·simp -implicitDefEqProofs [e2,e7]
   refine⟨by omega,by omega,i64 (by omega) (by omega),aQ hlt ⟨by simp[e0],by simp[Ef (q:=fun i=>n.testBit i) he],by simp[e6],by simp⟩⟩
  ·simp -implicitDefEqProofs [e7]
   refine⟨i64 (by omega) (by omega),aQ hlt ⟨by simp[e0],by simp[e2,oQ (q:=fun i=>n.testBit i) he],by simp[e6],by simp⟩⟩
 ·obtain rfl:k=L:=by omega
  simp -implicitDefEqProofs [e2,KB]
theorem vN(x:Int):aed Tryz.prog 136 [I x] (B false):=by
 refine pc t136 (by simp) fun hfit=> ?_
 simp -implicitDefEqProofs [yI,yJ]
theorem abv(x y:Int):aed Tryz.prog 131 [I x,I y] (I (if x<y then -1 else if y<x then 1 else 0)):=by
 refine pc t131 (by simp) fun hfit=> ?_
 simp -implicitDefEqProofs [yH]
 refine aj (vN x) ?_
 simp -implicitDefEqProofs
 refine aj (vN y) ?_
 by_cases h1:x<y
 ·simp -implicitDefEqProofs [h1,agw]
 ·by_cases h2:y<x<;>simp -implicitDefEqProofs [h1,h2,agw]
theorem Eo(a b:List Int)(h:a.length=b.length):aed Tryz.prog 106 [IL a,IL b] (I (iO a b)):=by
 refine pc t106 (by simp) fun hfit=> ?_
 have hl:=cY (hfit 0)
 simp only[List.length_map] at hl
 obtain⟨R,hR⟩:∃R,R=iO a b:=⟨_,rfl⟩
 rw[←hR]
 simp -implicitDefEqProofs [yz]
 refine aef a.length (fun k s=>s.env 0=IL a∧s.env 1=IL b∧s.env 9=IL a∧s.env 10=I a.length∧s.env 11=I k∧R=iO (a.drop k) (b.drop k)) ?_ ?_
 ·simp[hR]
 rintro k s hk ⟨e0,e1,e9,bC,bf,hc⟩
 simp -implicitDefEqProofs [bC,bf]
 refine bA (fun hlt=> ?_) (fun hge=> ?_)
 ·have hlt:k<a.length:=by omega
  have br:k<b.length:=by omega
  have hge:¬(b.length:Int)≤(k:Int):=by omega
  rw[drop_cons hlt,drop_cons br] at hc
  unfold iO at hc
  have c:=abv a[k] b[k]
  simp -implicitDefEqProofs [e1,e9,bf,hlt,br,hge]
  refine aj c ?_
  by_cases h1:a[k]<b[k]
  ·rw[if_pos h1] at hc
   simp -implicitDefEqProofs [h1,oJ,hc]
  ·rw[if_neg h1] at hc
   by_cases h2:b[k]<a[k]
   ·rw[if_pos h2] at hc
    simp -implicitDefEqProofs [h1,h2,oJ,hc]
   ·rw[if_neg h2] at hc
    simp -implicitDefEqProofs [h1,h2,bf]
    exact⟨i64 (by omega) (by omega),aQ hlt ⟨by simp[e0],by simp[e1],by simp[e9],by simp[bC],by simp,hc⟩⟩
 ·obtain rfl:k=a.length:=by omega
  rw[List.drop_length,h,List.drop_length] at hc
  have hc:R=0:=hc
  simp -implicitDefEqProofs [e0,e1,h,oJ,hc]
theorem abw{a b:Nat}(ha:a<256)(hb:b<256):aed Tryz.prog 81 [I a,I b] (B (dz (bJ a) (bJ b))):=by
 refine pc t81 (by simp) fun hfit=> ?_
 have c1:=qJ ha
 have c2:=qJ hb
 have c3:=N0 a ha
 have c4:=N0 b hb
 have vO:=qx (a:=a) (by omega)
 have vP:=qx (a:=b) (by omega)
 have l1:(bJ a).length≤8:=nH _ _
 have l2:(bJ b).length≤8:=nH _ _
 generalize bJ a=x at*
 generalize bJ b=y at*
 obtain⟨R,hR⟩:∃R,R=dz x y:=⟨_,rfl⟩
 rw[←hR]
 unfold dz at hR
 simp -implicitDefEqProofs [KH,vO]
 refine aj c3 ?_
 simp -implicitDefEqProofs [vP]
 refine aj c4 ?_
 simp -implicitDefEqProofs
 refine⟨i64 (by omega) (by omega),?_⟩
 by_cases h:x.length=y.length
 case neg=>
  have h':((x.length:Int) - (y.length:Int) != 0)=true:=by simp;omega
  rw[if_pos h] at hR
  simp -implicitDefEqProofs [h',Dl,hR]
  omega
 have h':((x.length:Int) - (y.length:Int) != 0)=false:=by simp;omega
 rw[if_neg (not_not_intro h)] at hR
 simp -implicitDefEqProofs [h']
 refine aj c1 ?_
 simp -implicitDefEqProofs
 refine aj c2 ?_
 simp -implicitDefEqProofs
 refine aj (Eo x y h) ?_
 rw[←vM] at hR
 simp -implicitDefEqProofs [Dl,hR]
end Go.Proofs.YtnncgmimhdplfaaGreat.P
namespace Go.Proofs.YtnncgmimhdplfaaGreat.P
open Go.aq
theorem Nn{P:Program}{kn:St→Prop}{ke:Nat→St→Prop}{kr:St→Prop}{s:St}{x y:ay}{b:Bool}(J:St→Prop)(h:∀s',J s'→kn s')(hx:∀k:St→Prop,(∀s',J s'→k s')→b=true→bz P x k ke kr s)(hy:∀k:St→Prop,(∀s',J s'→k s')→b=false→bz P y k ke kr s):lz P kn ke kr s x y (.lit (.bool b)):=⟨hx kn h,hy kn h⟩
theorem bX{P:Program}{kn:St→Prop}{ke:Nat→St→Prop}{kr:St→Prop}{s:St}{x y:ay}(J:St→Prop)(hx:∀k:St→Prop,(∀s',J s'→k s')→bz P x k ke kr s)(h:∀s',J s'→bz P y kn ke kr s'):bz P (.seq x y) kn ke kr s:=hx _ h
theorem aeC(lo hi n:Int):out lo hi [n]= !decide (lo≤n∧n≤hi):=by
 simp only[out,List.any_cons,List.any_nil,Bool.or_false]
 by_cases h:n<lo
 ·have:¬(lo≤n∧n≤hi):=by omega
  simp[h,this]
 ·by_cases h2:hi<n
  ·have:¬(lo≤n∧n≤hi):=by omega
   simp[h,h2,this]
  ·have:lo≤n∧n≤hi:=by omega
   simp[h,h2,this]
theorem N1(lo hi n m:Int):out lo hi [n,m]= !(decide (lo≤n∧n≤hi)&&decide (lo≤m∧m≤hi)):=by
 have h1:=aeC lo hi n
 have h2:=aeC lo hi m
 simp only[out,List.any_cons,List.any_nil,Bool.or_false] at h1 h2⊢
 rw[h1,h2,Bool.not_and]
def aew(a b lo hi:Int):Int:=if a<lo∨b<lo∨hi<a∨hi<b then 7 else if b<a then 2 else 0
theorem vm(a b lo hi:Int):aed Tryz.prog 22 [oX a b,I lo,I hi] (I (aew a b lo hi)):=by
 refine pc t22 (by simp) fun _=> ?_
 unfold aew
 by_cases h:b<a
 ·have h':¬a<b:=by omega
  by_cases h1:b<lo
  ·simp -implicitDefEqProofs [gO,gP,h,h1]
  ·by_cases h2:hi<a
   ·simp -implicitDefEqProofs [gO,gP,h,h',h1,h2]
   ·have h3:¬a<lo:=by omega
    have h4:¬hi<b:=by omega
    simp -implicitDefEqProofs [gO,gP,h,h',h1,h2,h3,h4]
 ·by_cases h1:a<lo
  ·simp -implicitDefEqProofs [gO,gP,h,h1]
  ·by_cases he:a<b
   ·by_cases h2:hi<b
    ·simp -implicitDefEqProofs [gO,gP,h,he,h1,h2]
    ·have h3:¬b<lo:=by omega
     have h4:¬hi<a:=by omega
     simp -implicitDefEqProofs [gO,gP,h,he,h1,h2,h3,h4]
   ·have e:b=a:=by omega
    by_cases h2:hi<a
    ·simp -implicitDefEqProofs [gO,gP,h1,h2,e]
    ·simp -implicitDefEqProofs [gO,gP,h1,h2,e]
theorem N2(a b lo hi:Int):(out lo hi [a,b]=true→aew a b lo hi=7)∧(out lo hi [a,b]=false→aew a b lo hi=if b<a then 2 else 0):=by
 rw[N1]
 unfold aew
 constructor
 ·intro h
  rw[if_pos]
  simp only[Bool.not_eq_true',Bool.and_eq_false_iff,decide_eq_false_iff_not] at h
  omega
 ·intro h
  rw[if_neg]
  simp only[Bool.not_eq_false',Bool.and_eq_true,decide_eq_true_eq] at h
  omega
def errs(f:Nat→Int)(n:Nat):Option (Nat×Int):=(List.range n).findSome? fun i=>if f i=0 then none else some (i,f i)
theorem lQ{f:Nat→Int}{n:Nat}(h:∀j<n,f j=0):errs f n=none:=by
 unfold errs
 rw[List.findSome?_eq_none_iff]
 intro x hx
 rw[if_pos (h x (by simpa using hx))]
theorem E_{f:Nat→Int}{n k:Nat}(hk:k<n)(h:∀j<k,f j=0)(hf:f k≠0):errs f n=some (k,f k):=by
 unfold errs
 rw[List.findSome?_eq_some_iff]
 refine⟨List.range k,k,(List.range (n - (k+1))).map (k+1+ ·),?_,by rw[if_neg hf],fun x hx=>by rw[if_pos (h x (by simpa using hx))]⟩
 conv=>lhs;rw[show n=(k+1)+(n - (k+1)) by omega,List.range_add,List.range_succ]
 simp
theorem sU{f:Nat→Int}{n:Nat}(h:errs f n=none):∀j<n,f j=0:=by
 unfold errs at h
 rw[List.findSome?_eq_none_iff] at h
 intro j hj
 have:=h j (by simpa using hj)
 by_cases hf:f j=0
 ·exact hf
 ·rw[if_neg hf] at this;cases this
theorem sV{f:Nat→Int}{n i:Nat}{e:Int}(h:errs f n=some (i,e)):e≠0:=by
 unfold errs at h
 obtain⟨x,hx⟩:=List.exists_of_findSome?_eq_some h
 obtain⟨_,hx⟩:=hx
 split at hx
 ·cases hx
 ·rename_i hf;injection hx with hx;injection hx with h1 h2;rw[←h2];exact hf
def N3:eV:=⟨.empty,0,0⟩
def N4:cI:=⟨0,0,0⟩
def aeE(c:Case)(i:Nat):Int:=
 let s:=c.aB.getD i N3
 let e:=dx s.name ((c.aB.take i).map eV.name)
 if e≠0 then e else aew s.lo s.hi 1450 1850
def e_(c:Case)(i:Nat):Int:=
 let r:=c.an.getD i N4
 if¬(0≤r.dA∧r.dA≤(c.aB.length:Int) - 1) then 4 else
  let e:=aew r.lo r.hi 1 2000
  if e≠0 then e else if r.lo+2<r.hi then 2 else 0
def eG(c:Case)(i:Nat):Int:=
 let x:=c.seen.getD i (0,0)
 if (0≤x.1∧x.1≤c.aA - 1)∧(0≤x.2∧x.2≤(c.aB.length:Int) - 1) then 0 else 4
def cC(c:Case):Int×Int×Int:=
 if¬(1≤c.run∧c.run≤500) then (1,0,7) else
 if¬(1≤(c.aB.length:Int)∧(c.aB.length:Int)≤4) then (2,0,3) else
 match errs (aeE c) c.aB.length with
 |some (i,e)=>(2,i,e)
 |none=>
 if¬(1≤(c.an.length:Int)∧(c.an.length:Int)≤4) then (3,0,3) else
 match errs (e_ c) c.an.length with
 |some (i,e)=>(3,i,e)
 |none=>
 if¬(1≤c.aA∧c.aA≤5) then (4,0,7) else
 if (8:Int)<c.seen.length then (5,0,3) else
 match errs (eG c) c.seen.length with
 |some (i,e)=>(5,i,e)
 |none=>(0,0,0)
abbrev T3(x:Int×Int×Int):AV:=.tuple [I x.1,I x.2.1,I x.2.2]
theorem Fa{c:Case}{i:Nat}(hi:i<c.aB.length):c.aB.getD i N3=c.aB[i]:=by simp[hi]
theorem Fb{c:Case}{i:Nat}(hi:i<c.an.length):c.an.getD i N4=c.an[i]:=by simp[hi]
theorem Fc{c:Case}{i:Nat}(hi:i<c.seen.length):c.seen.getD i (0,0)=c.seen[i]:=by simp[hi]
theorem abx(l:List eV)(f:FuncId)(caps:List AV)(p:eV→Bool)(hp:∀x∈l,aed Tryz.prog f (gY x::caps) (B (p x))):aed Tryz.prog 135 [.slice 3 (l.map gY) 0,.func (.func f) [] caps] (I (firstAt p l)):=by
 refine pc t135 (by simp) fun hfit=> ?_
 have hl:=cY (hfit 0)
 simp only[List.length_map] at hl
 simp -implicitDefEqProofs [Ly]
 refine aef l.length (fun k s=>s.env 0=.slice 3 (l.map gY) 0∧s.env 1=.func (.func f) [] caps∧s.env 7=I l.length∧s.env 8=I k∧∀x∈l.take k,p x=false) ?_ ?_
 ·simp
 ·rintro k s hk ⟨e0,e1,e7,e8,hno⟩
  simp -implicitDefEqProofs [e7,e8]
  refine bA (fun hlt=> ?_) (fun hge=> ?_)
  ·simp -implicitDefEqProofs [e0,e1,e8,hlt,ng]
   refine aj (hp l[k] (List.getElem_mem _)) ?_
   simp -implicitDefEqProofs
   refine bR (fun he=> ?_) (fun he=> ?_)
   ·have hc:=oL hlt he hno
    simp -implicitDefEqProofs [DK,hc]
   ·simp -implicitDefEqProofs [e8]
    refine⟨i64 (by omega) (by omega),aQ hlt ⟨by simp[e0],by simp[e1],by simp[e7],by simp,?_⟩⟩
    intro x hx
    rw[ael hlt,List.mem_append,List.mem_singleton] at hx
    rcases hx with hx|rfl
    ·exact hno x hx
    ·exact he
  ·obtain rfl:k=l.length:=by omega
   rw[List.take_length] at hno
   have hc:=agx hno
   simp -implicitDefEqProofs [DK,hc]
theorem aby(l:List eV)(f:FuncId)(caps:List AV)(p:eV→Bool)(hp:∀x∈l,aed Tryz.prog f (gY x::caps) (B (p x))):aed Tryz.prog 115 [.slice 3 (l.map gY) 0,.func (.func f) [] caps] (B (l.any p)):=by
 refine pc t115 (by simp) fun _=> ?_
 simp -implicitDefEqProofs [Le]
 refine aj (abx l f caps p hp) ?_
 simp -implicitDefEqProofs [ahM,agy]
theorem abz(x s:eV):aed Tryz.prog 116 [gY x,.ref [S s.name,I s.lo,I s.hi]] (B (sEq x.name s.name)):=by
 refine pc t116 (by simp) fun _=> ?_
 simp -implicitDefEqProofs [Lg,Lh,sEq]
end Go.Proofs.YtnncgmimhdplfaaGreat.P
namespace Go.Proofs.YtnncgmimhdplfaaGreat.P
open Go.aq
theorem zo{c:Case}(h:¬(1≤c.run∧c.run≤500)):cC c=(1,0,7):=by unfold cC;rw[if_pos h]
theorem zq{c:Case}(h1:1≤c.run∧c.run≤500)(h:¬(1≤(c.aB.length:Int)∧(c.aB.length:Int)≤4)):cC c=(2,0,3):=by unfold cC;rw[if_neg (not_not_intro h1),if_pos h]
theorem sW{c:Case}(h1:1≤c.run∧c.run≤500)(h2:1≤(c.aB.length:Int)∧(c.aB.length:Int)≤4){i:Nat}(hi:i<c.aB.length)(hb:∀j<i,aeE c j=0)(hn:aeE c i≠0):cC c=(2,(i:Int),aeE c i):=by unfold cC;rw[if_neg (not_not_intro h1),if_neg (not_not_intro h2),E_ hi hb hn]
theorem N5{c:Case}(h1:1≤c.run∧c.run≤500)(h2:1≤(c.aB.length:Int)∧(c.aB.length:Int)≤4)(h3:∀j<c.aB.length,aeE c j=0)(h:¬(1≤(c.an.length:Int)∧(c.an.length:Int)≤4)):cC c=(3,0,3):=by unfold cC;rw[if_neg (not_not_intro h1),if_neg (not_not_intro h2),lQ h3];simp only;rw[if_pos h]
theorem sX{c:Case}(h1:1≤c.run∧c.run≤500)(h2:1≤(c.aB.length:Int)∧(c.aB.length:Int)≤4)(h3:∀j<c.aB.length,aeE c j=0)(h4:1≤(c.an.length:Int)∧(c.an.length:Int)≤4){i:Nat}(hi:i<c.an.length)(hb:∀j<i,e_ c j=0)(hn:e_ c i≠0):cC c=(3,(i:Int),e_ c i):=by unfold cC;rw[if_neg (not_not_intro h1),if_neg (not_not_intro h2),lQ h3];simp only;rw[if_neg (not_not_intro h4),E_ hi hb hn]
structure nQ (c:Case):Prop where
 h1:1≤c.run∧c.run≤500
 h2:1≤(c.aB.length:Int)∧(c.aB.length:Int)≤4
 h3:∀j<c.aB.length,aeE c j=0
 h4:1≤(c.an.length:Int)∧(c.an.length:Int)≤4
 h5:∀j<c.an.length,e_ c j=0
theorem N6{c:Case}(h:nQ c)(hg:¬(1≤c.aA∧c.aA≤5)):cC c=(4,0,7):=by unfold cC;rw[if_neg (not_not_intro h.h1),if_neg (not_not_intro h.h2),lQ h.h3];simp only;rw[if_neg (not_not_intro h.h4),lQ h.h5];simp only;rw[if_pos hg]
theorem N7{c:Case}(h:nQ c)(hg:1≤c.aA∧c.aA≤5)(hs:(8:Int)<c.seen.length):cC c=(5,0,3):=by unfold cC;rw[if_neg (not_not_intro h.h1),if_neg (not_not_intro h.h2),lQ h.h3];simp only;rw[if_neg (not_not_intro h.h4),lQ h.h5];simp only;rw[if_neg (not_not_intro hg),if_pos hs]
theorem zu{c:Case}(h:nQ c)(hg:1≤c.aA∧c.aA≤5)(hs:¬(8:Int)<c.seen.length){i:Nat}(hi:i<c.seen.length)(hb:∀j<i,eG c j=0)(hn:eG c i≠0):cC c=(5,(i:Int),eG c i):=by unfold cC;rw[if_neg (not_not_intro h.h1),if_neg (not_not_intro h.h2),lQ h.h3];simp only;rw[if_neg (not_not_intro h.h4),lQ h.h5];simp only;rw[if_neg (not_not_intro hg),if_neg hs,E_ hi hb hn]
theorem v9{c:Case}(h:nQ c)(hg:1≤c.aA∧c.aA≤5)(hs:¬(8:Int)<c.seen.length)(hb:∀j<c.seen.length,eG c j=0):cC c=(0,0,0):=by unfold cC;rw[if_neg (not_not_intro h.h1),if_neg (not_not_intro h.h2),lQ h.h3];simp only;rw[if_neg (not_not_intro h.h4),lQ h.h5];simp only;rw[if_neg (not_not_intro hg),if_neg hs,lQ hb]
theorem sY{f:Nat→Int}{k:Nat}(h:∀j<k,f j=0)(hf:f k=0):∀j<k+1,f j=0:=fun j hj=>by
 by_cases e:j=k
 ·rw[e];exact hf
 ·exact h j (by omega)
theorem yP(c:Case):aed Tryz.prog 94 [cj c] (T3 (cC c)):=by
 refine pc t94 (by simp) fun hfit=> ?_
 have lS:=cY (jJ (hfit 0) 1)
 have lR:=cY (jJ (hfit 0) 2)
 have lX:=cY (jJ (hfit 0) 4)
 simp only[List.length_map] at lS lR lX
 obtain⟨R,hR⟩:∃R,R=cC c:=⟨_,rfl⟩
 rw[←hR]
 simp -implicitDefEqProofs only[KV]
 refine bX (fun st=>st.env 1=bn c) ?_ ?_
 ·intro k hk
  simp -implicitDefEqProofs
  exact hk _ rfl
 intro s e1;clear hfit
 by_cases h1:1≤c.run∧c.run≤500
 case neg=>
  have o1:out 1 500 [c.run]=true:=by rw[aeC,decide_eq_false h1];rfl
  simp -implicitDefEqProofs [e1]
  refine aj (aet 1 500 [c.run]) ?_
  rw[o1]
  simp -implicitDefEqProofs [r94,hR,zo h1]
 have o1:out 1 500 [c.run]=false:=by rw[aeC,decide_eq_true h1];rfl
 by_cases h2:1≤(c.aB.length:Int)∧(c.aB.length:Int)≤4
 case neg=>
  have o2:out 1 4 [(c.aB.length:Int)]=true:=by rw[aeC,decide_eq_false h2];rfl
  simp -implicitDefEqProofs [e1]
  refine aj (aet 1 500 [c.run]) ?_
  rw[o1]
  simp -implicitDefEqProofs [e1]
  refine aj (aet 1 4 [(c.aB.length:Int)]) ?_
  rw[o2]
  simp -implicitDefEqProofs [r94,hR,zq h1 h2]
 have o2:out 1 4 [(c.aB.length:Int)]=false:=by rw[aeC,decide_eq_true h2];rfl
 refine bX (fun st=>st.env 1=bn c) ?_ ?_
 ·intro k hk
  simp -implicitDefEqProofs [e1]
  refine aj (aet 1 500 [c.run]) ?_
  rw[o1]
  simp -implicitDefEqProofs [e1]
  refine aj (aet 1 4 [(c.aB.length:Int)]) ?_
  rw[o2]
  simp -implicitDefEqProofs
  exact hk _ (by simp[e1])
 intro s e1
 refine bX (fun st=>st.env 1=bn c∧∀j<c.aB.length,aeE c j=0) ?_ ?_
 ·intro k0 gQ
  simp -implicitDefEqProofs [e1]
  refine aef c.aB.length (fun k s=>s.env 1=bn c∧s.env 23=.slice 3 (c.aB.map gY) 0∧s.env 24=I c.aB.length∧s.env 25=I k∧∀j<k,aeE c j=0) ?_ ?_
  ·simp[e1]
  ·rintro k s hk ⟨e1,cF,e24,jh,hno⟩
   simp -implicitDefEqProofs [e24,jh]
   refine bA (fun hlt=> ?_) (fun hge=> ?_)
   ·have hst:=Fa hlt
    simp -implicitDefEqProofs [cF,jh,hlt]
    intro b hb
    refine aj (DY c.aB[k].name) ?_
    have hE:aeE c k=if dx c.aB[k].name ((c.aB.take k).map eV.name)≠0 then dx c.aB[k].name ((c.aB.take k).map eV.name) else aew c.aB[k].lo c.aB[k].hi 1450 1850:=by unfold aeE;rw[hst]
    unfold dx at hE
    cases hn:c_ c.aB[k].name with
    |false=>
     rw[hn] at hE
     have cv:aeE c k=6:=by rw[hE];simp
     have hr:=sW h1 h2 hlt hno (by rw[cv];decide)
     rw[cv] at hr
     simp -implicitDefEqProofs [r94,hR,hr]
    |true=>
     rw[hn] at hE
     have N8:=aby (c.aB.take k) 116 [.ref [S c.aB[k].name,I c.aB[k].lo,I c.aB[k].hi]] (fun x=>sEq x.name c.aB[k].name) (fun x _=>abz x _)
     have Fe:((c.aB.take k).map eV.name).any (fun s=>sEq s c.aB[k].name)=(c.aB.take k).any fun x=>sEq x.name c.aB[k].name:=by rw[List.any_map];rfl
     rw[Fe] at hE
     rw[List.map_take] at N8
     generalize (c.aB.take k).any (fun x=>sEq x.name c.aB[k].name)=bb at*
     simp -implicitDefEqProofs [e1]
     refine⟨by omega,aj N8 ?_⟩
     cases bb with
     |true=>
      have cv:aeE c k=5:=by rw[hE];simp
      have hr:=sW h1 h2 hlt hno (by rw[cv];decide)
      rw[cv] at hr
      simp -implicitDefEqProofs [r94,hR,hr]
     |false=>
      have N9:aeE c k=aew c.aB[k].lo c.aB[k].hi 1450 1850:=by rw[hE];simp
      obtain⟨g1,g2⟩:=N2 c.aB[k].lo c.aB[k].hi 1450 1850
      have hout:=aet 1450 1850 [c.aB[k].lo,c.aB[k].hi]
      generalize out 1450 1850 [c.aB[k].lo,c.aB[k].hi]=oo at*
      simp -implicitDefEqProofs
      refine aj hout ?_
      cases oo with
      |true=>
       have cv:aeE c k=7:=by rw[N9,g1 rfl]
       have hr:=sW h1 h2 hlt hno (by rw[cv];decide)
       rw[cv] at hr
       simp -implicitDefEqProofs [r94,hR,hr]
      |false=>
       have N_:=N9.trans (g2 rfl)
       simp -implicitDefEqProofs
       refine bA (fun hc=> ?_) (fun hc=> ?_)
       ·have cv:aeE c k=2:=by rw[N_,if_pos hc]
        have hr:=sW h1 h2 hlt hno (by rw[cv];decide)
        rw[cv] at hr
        simp -implicitDefEqProofs [r94,hR,hr]
       ·have cv:aeE c k=0:=by rw[N_,if_neg hc]
        simp -implicitDefEqProofs [jh]
        exact⟨i64 (by omega) (by omega),aQ hlt ⟨by simp[e1],by simp[cF],by simp[e24],by simp,sY hno cv⟩⟩
   ·obtain rfl:k=c.aB.length:=by omega
    simp -implicitDefEqProofs
    exact gQ _ ⟨e1,hno⟩
 rintro s ⟨e1,h3⟩
 by_cases h4:1≤(c.an.length:Int)∧(c.an.length:Int)≤4
 case neg=>
  have o4:out 1 4 [(c.an.length:Int)]=true:=by rw[aeC,decide_eq_false h4];rfl
  simp -implicitDefEqProofs [e1]
  refine aj (aet 1 4 [(c.an.length:Int)]) ?_
  rw[o4]
  simp -implicitDefEqProofs [r94,hR,N5 h1 h2 h3 h4]
 have o4:out 1 4 [(c.an.length:Int)]=false:=by rw[aeC,decide_eq_true h4];rfl
 refine bX (fun st=>st.env 1=bn c) ?_ ?_
 ·intro k hk
  simp -implicitDefEqProofs [e1]
  refine aj (aet 1 4 [(c.an.length:Int)]) ?_
  rw[o4]
  simp -implicitDefEqProofs
  exact hk _ (by simp[e1])
 intro s e1
 refine bX (fun st=>st.env 1=bn c∧∀j<c.an.length,e_ c j=0) ?_ ?_
 ·intro k0 gQ
  simp -implicitDefEqProofs [e1]
  refine aef c.an.length (fun k s=>s.env 1=bn c∧s.env 70=.slice 3 (c.an.map ia) 0∧s.env 71=I c.an.length∧s.env 72=I k∧∀j<k,e_ c j=0) ?_ ?_
  ·simp[e1]
  ·rintro k s hk ⟨e1,vE,vF,sr,hno⟩
   simp -implicitDefEqProofs [vF,sr]
   refine bA (fun hlt=> ?_) (fun hge=> ?_)
   ·have hst:=Fb hlt
    simp -implicitDefEqProofs [e1,vE,sr,hlt]
    intro b hb
    refine⟨i64 (by omega) (by omega),?_⟩
    refine aj (aet 0 ((c.aB.length:Int) - 1) [c.an[k].dA]) ?_
    have hE:e_ c k=if¬(0≤c.an[k].dA∧c.an[k].dA≤(c.aB.length:Int) - 1) then 4 else if aew c.an[k].lo c.an[k].hi 1 2000≠0 then aew c.an[k].lo c.an[k].hi 1 2000 else if c.an[k].lo+2<c.an[k].hi then 2 else 0:=by unfold e_;rw[hst]
    by_cases hs:0≤c.an[k].dA∧c.an[k].dA≤(c.aB.length:Int) - 1
    case neg=>
     have cv:e_ c k=4:=by rw[hE,if_pos hs]
     have hr:=sX h1 h2 h3 h4 hlt hno (by rw[cv];decide)
     rw[cv] at hr
     rw[aeC,decide_eq_false hs]
     simp -implicitDefEqProofs [r94,hR,hr]
    rw[if_neg (not_not_intro hs)] at hE
    rw[aeC,decide_eq_true hs]
    obtain⟨g1,g2⟩:=N2 c.an[k].lo c.an[k].hi 1 2000
    have hout:=aet 1 2000 [c.an[k].lo,c.an[k].hi]
    cases ho:out 1 2000 [c.an[k].lo,c.an[k].hi] with
    |true=>
     rw[ho] at hout
     have cv:e_ c k=7:=by rw[hE,g1 ho];simp
     have hr:=sX h1 h2 h3 h4 hlt hno (by rw[cv];decide)
     rw[cv] at hr
     simp -implicitDefEqProofs
     refine aj hout ?_
     simp -implicitDefEqProofs [r94,hR,hr]
    |false=>
     have hb:=ho
     rw[N1] at hb
     simp only[Bool.not_eq_false',Bool.and_eq_true,decide_eq_true_eq] at hb
     rw[g2 ho] at hE
     rw[ho] at hout
     simp -implicitDefEqProofs
     refine aj hout ?_
     simp -implicitDefEqProofs
     refine⟨i64 (by omega) (by omega),?_⟩
     refine aj (aet c.an[k].lo (c.an[k].lo+2) [c.an[k].hi]) ?_
     by_cases hc:c.an[k].lo≤c.an[k].hi∧c.an[k].hi≤c.an[k].lo+2
     ·have cv:e_ c k=0:=by rw[hE,if_neg (by omega:¬c.an[k].hi<c.an[k].lo),if_neg (by simp),if_neg (by omega)]
      rw[aeC,decide_eq_true hc]
      simp -implicitDefEqProofs [sr]
      exact⟨i64 (by omega) (by omega),aQ hlt ⟨by simp[e1],by simp[vE],by simp[vF],by simp,sY hno cv⟩⟩
     ·have cv:e_ c k=2:=by
       rw[hE]
       by_cases hq:c.an[k].hi<c.an[k].lo
       ·rw[if_pos hq,if_pos (by decide)]
       ·rw[if_neg hq,if_neg (by simp),if_pos (by omega)]
      have hr:=sX h1 h2 h3 h4 hlt hno (by rw[cv];decide)
      rw[cv] at hr
      rw[aeC,decide_eq_false hc]
      simp -implicitDefEqProofs [r94,hR,hr]
   ·obtain rfl:k=c.an.length:=by omega
    simp -implicitDefEqProofs
    exact gQ _ ⟨e1,hno⟩
 rintro s ⟨e1,h5⟩
 have hh:nQ c:=⟨h1,h2,h3,h4,h5⟩
 by_cases h6:1≤c.aA∧c.aA≤5
 case neg=>
  have o6:out 1 5 [c.aA]=true:=by rw[aeC,decide_eq_false h6];rfl
  simp -implicitDefEqProofs [e1]
  refine aj (aet 1 5 [c.aA]) ?_
  rw[o6]
  simp -implicitDefEqProofs [r94,hR,N6 hh h6]
 have o6:out 1 5 [c.aA]=false:=by rw[aeC,decide_eq_true h6];rfl
 by_cases h7:(8:Int)<c.seen.length
 case pos=>
  simp -implicitDefEqProofs [e1]
  refine aj (aet 1 5 [c.aA]) ?_
  rw[o6]
  simp -implicitDefEqProofs [e1,h7,r94,hR,N7 hh h6 h7]
 refine bX (fun st=>st.env 1=bn c) ?_ ?_
 ·intro k hk
  simp -implicitDefEqProofs [e1]
  refine aj (aet 1 5 [c.aA]) ?_
  rw[o6]
  simp -implicitDefEqProofs [e1,h7]
  exact hk _ (by simp[e1])
 intro s e1
 refine bX (fun st=>st.env 1=bn c∧∀j<c.seen.length,eG c j=0) ?_ ?_
 ·intro k0 gQ
  simp -implicitDefEqProofs [e1]
  refine aef c.seen.length (fun k s=>s.env 1=bn c∧s.env 123=.slice 2 (c.seen.map gG) 0∧s.env 124=I c.seen.length∧s.env 125=I k∧∀j<k,eG c j=0) ?_ ?_
  ·simp[e1]
  ·rintro k s hk ⟨e1,Oa,Ob,Ff,hno⟩
   simp -implicitDefEqProofs [Ob,Ff]
   refine bA (fun hlt=> ?_) (fun hge=> ?_)
   ·have hst:=Fc hlt
    have hE:eG c k=if (0≤c.seen[k].1∧c.seen[k].1≤c.aA - 1)∧(0≤c.seen[k].2∧c.seen[k].2≤(c.aB.length:Int) - 1) then 0 else 4:=by unfold eG;rw[hst]
    simp -implicitDefEqProofs [e1,Oa,Ff,hlt]
    intro b hb
    refine⟨i64 (by omega) (by omega),?_⟩
    refine aj (aet 0 (c.aA - 1) [c.seen[k].1]) ?_
    by_cases ha:0≤c.seen[k].1∧c.seen[k].1≤c.aA - 1
    case neg=>
     have cv:eG c k=4:=by rw[hE,if_neg (fun h=>ha h.1)]
     have hr:=zu hh h6 h7 hlt hno (by rw[cv];decide)
     rw[cv] at hr
     rw[aeC,decide_eq_false ha]
     simp -implicitDefEqProofs [r94,hR,hr]
    rw[aeC,decide_eq_true ha]
    simp -implicitDefEqProofs [e1]
    refine⟨i64 (by omega) (by omega),?_⟩
    refine aj (aet 0 ((c.aB.length:Int) - 1) [c.seen[k].2]) ?_
    by_cases hb:0≤c.seen[k].2∧c.seen[k].2≤(c.aB.length:Int) - 1
    case neg=>
     have cv:eG c k=4:=by rw[hE,if_neg (fun h=>hb h.2)]
     have hr:=zu hh h6 h7 hlt hno (by rw[cv];decide)
     rw[cv] at hr
     rw[aeC,decide_eq_false hb]
     simp -implicitDefEqProofs [r94,hR,hr]
    have cv:eG c k=0:=by rw[hE,if_pos ⟨ha,hb⟩]
    rw[aeC,decide_eq_true hb]
    simp -implicitDefEqProofs [Ff]
    exact⟨i64 (by omega) (by omega),aQ hlt ⟨by simp[e1],by simp[Oa],by simp[Ob],by simp,sY hno cv⟩⟩
   ·obtain rfl:k=c.seen.length:=by omega
    simp -implicitDefEqProofs
    exact gQ _ ⟨e1,hno⟩
 rintro s ⟨e1,h8⟩
 simp -implicitDefEqProofs [r94,hR,v9 hh h6 h7 h8]
end Go.Proofs.YtnncgmimhdplfaaGreat.P
namespace Go.Proofs.YtnncgmimhdplfaaGreat.P
open Go.aq
theorem jk(n lo hi:Int)(b:Bool)(h:decide (lo≤n∧n≤hi)=b):aed Tryz.prog 21 [I n,I lo,I hi] (B b):=h▸afp n lo hi
def afA(c:Case)(k:Nat):List ByteArray:=(c.aB.take k).map eV.name
theorem yQ(c:Case):aed Tryz.prog 5 [cj c] (T3 (cC c)):=by
 refine pc t5 (by simp) fun hfit=> ?_
 have lS:=cY (jJ (hfit 0) 1)
 have lR:=cY (jJ (hfit 0) 2)
 have lX:=cY (jJ (hfit 0) 4)
 simp only[List.length_map] at lS lR lX
 obtain⟨R,hR⟩:∃R,R=cC c:=⟨_,rfl⟩
 rw[←hR]
 simp -implicitDefEqProofs only[m5]
 refine bX (fun st=>st.env 1=bn c) ?_ ?_
 ·intro k hk
  simp -implicitDefEqProofs
  exact hk _ rfl
 intro s e1;clear hfit
 by_cases h1:1≤c.run∧c.run≤500
 case neg=>
  simp -implicitDefEqProofs [e1]
  refine aj (jk _ _ _ false (decide_eq_false h1)) ?_
  simp -implicitDefEqProofs [r5,hR,zo h1]
 refine bX (fun st=>st.env 1=bn c) ?_ ?_
 ·intro k hk
  simp -implicitDefEqProofs [e1]
  refine aj (jk _ _ _ true (decide_eq_true h1)) ?_
  simp -implicitDefEqProofs
  exact hk _ (by simp[e1])
 intro s e1
 by_cases h2:1≤(c.aB.length:Int)∧(c.aB.length:Int)≤4
 case neg=>
  simp -implicitDefEqProofs [e1]
  refine aj (jk _ _ _ false (decide_eq_false h2)) ?_
  simp -implicitDefEqProofs [r5,hR,zq h1 h2]
 refine bX (fun st=>st.env 1=bn c) ?_ ?_
 ·intro k hk
  simp -implicitDefEqProofs [e1]
  refine aj (jk _ _ _ true (decide_eq_true h2)) ?_
  simp -implicitDefEqProofs
  exact hk _ (by simp[e1])
 intro s e1
 refine bX (fun st=>st.env 1=bn c∧st.env 5=.slice 1 [] 6) ?_ ?_
 ·intro k hk
  simp -implicitDefEqProofs
  exact hk _ (by simp[e1])
 rintro s ⟨e1,e5⟩
 refine bX (fun st=>st.env 1=bn c∧∀j<c.aB.length,aeE c j=0) ?_ ?_
 ·intro k0 gQ
  simp -implicitDefEqProofs
  refine aef c.aB.length (fun k s=>s.env 1=bn c∧s.env 5=.slice 1 ((afA c k).map S) 6∧s.env 6=I k∧∀j<k,aeE c j=0) ?_ ?_
  ·simp[e1,e5,afA]
  ·rintro k s hk ⟨e1,e5,e6,hno⟩
   simp -implicitDefEqProofs [e1,e6]
   refine bA (fun hlt=> ?_) (fun hge=> ?_)
   ·have hlt:k<c.aB.length:=by omega
    have hst:=Fa hlt
    have hE:aeE c k=if dx c.aB[k].name (afA c k)≠0 then dx c.aB[k].name (afA c k) else aew c.aB[k].lo c.aB[k].hi 1450 1850:=by unfold aeE;rw[hst];rfl
    have hf:=yM c.aB[k].name (afA c k)
    have hl:(afA c k).length=k:=by simp[afA];omega
    have jK:afA c (k+1)=afA c k++[c.aB[k].name]:=by unfold afA;rw[ael hlt,List.map_append];rfl
    generalize afA c k=nm at*
    generalize dx c.aB[k].name nm=e at*
    simp -implicitDefEqProofs [e1,e5,e6,hlt]
    refine aj hf ?_
    simp -implicitDefEqProofs [e1,e5,e6,hlt]
    refine⟨by omega,by omega,?_⟩
    by_cases he:e=0
    ·have he':(e==0)=true:=by simp[he]
     rw[if_neg (not_not_intro he)] at hE
     have hr0:=vm c.aB[k].lo c.aB[k].hi 1450 1850
     generalize aew c.aB[k].lo c.aB[k].hi 1450 1850=q at*
     simp -implicitDefEqProofs [e1,e6,he',hlt]
     refine aj hr0 ?_
     by_cases hq:q=0
     ·have dG:(q != 0)=false:=by simp[hq]
      simp -implicitDefEqProofs [e6,dG]
      exact⟨i64 (by omega) (by omega),aQ hlt ⟨by simp[e1],by simp[jK],by simp,sY hno (by rw[hE,hq])⟩⟩
     ·have dG:(q != 0)=true:=by simp[hq]
      have hr:=sW h1 h2 hlt hno (by rw[hE];exact hq)
      rw[hE] at hr
      simp -implicitDefEqProofs [e6,dG,r5,hR,hr]
    ·have he':(e==0)=false:=by simp[he]
     have rq:(e != 0)=true:=by simp[he]
     rw[if_pos he] at hE
     have hr:=sW h1 h2 hlt hno (by rw[hE];exact he)
     rw[hE] at hr
     simp -implicitDefEqProofs [e6,he',rq,r5,hR,hr]
   ·obtain rfl:k=c.aB.length:=by omega
    simp -implicitDefEqProofs
    exact gQ _ ⟨by simp[e1],hno⟩
 rintro s ⟨e1,h3⟩
 by_cases h4:1≤(c.an.length:Int)∧(c.an.length:Int)≤4
 case neg=>
  simp -implicitDefEqProofs [e1]
  refine aj (jk _ _ _ false (decide_eq_false h4)) ?_
  simp -implicitDefEqProofs [r5,hR,N5 h1 h2 h3 h4]
 refine bX (fun st=>st.env 1=bn c) ?_ ?_
 ·intro k hk
  simp -implicitDefEqProofs [e1]
  refine aj (jk _ _ _ true (decide_eq_true h4)) ?_
  simp -implicitDefEqProofs
  exact hk _ (by simp[e1])
 intro s e1
 refine bX (fun st=>st.env 1=bn c∧∀j<c.an.length,e_ c j=0) ?_ ?_
 ·intro k0 gQ
  simp -implicitDefEqProofs
  refine aef c.an.length (fun k s=>s.env 1=bn c∧s.env 8=I k∧∀j<k,e_ c j=0) ?_ ?_
  ·simp[e1]
  ·rintro k s hk ⟨e1,e8,hno⟩
   simp -implicitDefEqProofs [e1,e8]
   refine bA (fun hlt=> ?_) (fun hge=> ?_)
   ·have hlt:k<c.an.length:=by omega
    have hst:=Fb hlt
    have hE:e_ c k=if¬(0≤c.an[k].dA∧c.an[k].dA≤(c.aB.length:Int) - 1) then 4 else if aew c.an[k].lo c.an[k].hi 1 2000≠0 then aew c.an[k].lo c.an[k].hi 1 2000 else if c.an[k].lo+2<c.an[k].hi then 2 else 0:=by unfold e_;rw[hst]
    simp -implicitDefEqProofs [e1,e8,hlt]
    intro b hb
    refine⟨i64 (by omega) (by omega),?_⟩
    by_cases hs:0≤c.an[k].dA∧c.an[k].dA≤(c.aB.length:Int) - 1
    case neg=>
     have cv:e_ c k=4:=by rw[hE,if_pos hs]
     have hr:=sX h1 h2 h3 h4 hlt hno (by rw[cv];decide)
     rw[cv] at hr
     refine aj (jk _ _ _ false (decide_eq_false hs)) ?_
     simp -implicitDefEqProofs [e8,r5,hR,hr]
    refine aj (jk _ _ _ true (decide_eq_true hs)) ?_
    rw[if_neg (not_not_intro hs)] at hE
    have hr0:=vm c.an[k].lo c.an[k].hi 1 2000
    have hin:aew c.an[k].lo c.an[k].hi 1 2000=0→1≤c.an[k].lo∧c.an[k].lo≤2000:=fun h=>by
     unfold aew at h
     split at h
     ·cases h
     ·split at h
      ·cases h
      ·omega
    generalize aew c.an[k].lo c.an[k].hi 1 2000=q at*
    simp -implicitDefEqProofs
    refine aj hr0 ?_
    by_cases hq:q=0
    ·have dG:(q==0)=true:=by simp[hq]
     have hq2:(q != 0)=false:=by simp[hq]
     rw[if_neg (not_not_intro hq)] at hE
     have hin:=hin hq
     simp -implicitDefEqProofs [dG]
     refine⟨i64 (by omega) (by omega),?_⟩
     by_cases hc:c.an[k].lo+2<c.an[k].hi
     ·rw[if_pos hc] at hE
      have hr:=sX h1 h2 h3 h4 hlt hno (by rw[hE];decide)
      rw[hE] at hr
      simp -implicitDefEqProofs [hc,e8,r5,hR,hr]
     ·rw[if_neg hc] at hE
      simp -implicitDefEqProofs [hc,e8,hq2]
      exact⟨i64 (by omega) (by omega),aQ hlt ⟨by simp[e1],by simp,sY hno hE⟩⟩
    ·have dG:(q==0)=false:=by simp[hq]
     have hq2:(q != 0)=true:=by simp[hq]
     rw[if_pos hq] at hE
     have hr:=sX h1 h2 h3 h4 hlt hno (by rw[hE];exact hq)
     rw[hE] at hr
     simp -implicitDefEqProofs [e8,dG,hq2,r5,hR,hr]
   ·obtain rfl:k=c.an.length:=by omega
    simp -implicitDefEqProofs
    exact gQ _ ⟨by simp[e1],hno⟩
 rintro s ⟨e1,h5⟩
 have hh:nQ c:=⟨h1,h2,h3,h4,h5⟩
 by_cases h6:1≤c.aA∧c.aA≤5
 case neg=>
  simp -implicitDefEqProofs [e1]
  refine aj (jk _ _ _ false (decide_eq_false h6)) ?_
  simp -implicitDefEqProofs [r5,hR,N6 hh h6]
 refine bX (fun st=>st.env 1=bn c) ?_ ?_
 ·intro k hk
  simp -implicitDefEqProofs [e1]
  refine aj (jk _ _ _ true (decide_eq_true h6)) ?_
  simp -implicitDefEqProofs
  exact hk _ (by simp[e1])
 intro s e1
 by_cases h7:(8:Int)<c.seen.length
 case pos=>simp -implicitDefEqProofs [e1,h7,r5,hR,N7 hh h6 h7]
 refine bX (fun st=>st.env 1=bn c) ?_ ?_
 ·intro k hk
  simp -implicitDefEqProofs [e1,h7]
  exact hk _ (by simp[e1])
 intro s e1
 refine bX (fun st=>st.env 1=bn c∧∀j<c.seen.length,eG c j=0) ?_ ?_
 ·intro k0 gQ
  simp -implicitDefEqProofs
  refine aef c.seen.length (fun k s=>s.env 1=bn c∧s.env 11=I k∧∀j<k,eG c j=0) ?_ ?_
  ·simp[e1]
  ·rintro k s hk ⟨e1,bf,hno⟩
   simp -implicitDefEqProofs [e1,bf]
   refine bA (fun hlt=> ?_) (fun hge=> ?_)
   ·have hlt:k<c.seen.length:=by omega
    have hst:=Fc hlt
    have hE:eG c k=if (0≤c.seen[k].1∧c.seen[k].1≤c.aA - 1)∧(0≤c.seen[k].2∧c.seen[k].2≤(c.aB.length:Int) - 1) then 0 else 4:=by unfold eG;rw[hst]
    simp -implicitDefEqProofs [e1,bf,hlt]
    refine⟨i64 (by omega) (by omega),?_⟩
    by_cases ha:0≤c.seen[k].1∧c.seen[k].1≤c.aA - 1
    case neg=>
     have cv:eG c k=4:=by rw[hE,if_neg (fun h=>ha h.1)]
     have hr:=zu hh h6 h7 hlt hno (by rw[cv];decide)
     rw[cv] at hr
     refine aj (jk _ _ _ false (decide_eq_false ha)) ?_
     simp -implicitDefEqProofs [bf,r5,hR,hr]
    refine aj (jk _ _ _ true (decide_eq_true ha)) ?_
    simp -implicitDefEqProofs [e1,bf,hlt]
    refine⟨i64 (by omega) (by omega),?_⟩
    by_cases hb:0≤c.seen[k].2∧c.seen[k].2≤(c.aB.length:Int) - 1
    case neg=>
     have cv:eG c k=4:=by rw[hE,if_neg (fun h=>hb h.2)]
     have hr:=zu hh h6 h7 hlt hno (by rw[cv];decide)
     rw[cv] at hr
     refine aj (jk _ _ _ false (decide_eq_false hb)) ?_
     simp -implicitDefEqProofs [bf,r5,hR,hr]
    have cv:eG c k=0:=by rw[hE,if_pos ⟨ha,hb⟩]
    refine aj (jk _ _ _ true (decide_eq_true hb)) ?_
    simp -implicitDefEqProofs [bf]
    exact⟨i64 (by omega) (by omega),aQ hlt ⟨by simp[e1],by simp,sY hno cv⟩⟩
   ·obtain rfl:k=c.seen.length:=by omega
    simp -implicitDefEqProofs
    exact gQ _ ⟨by simp[e1],hno⟩
 rintro s ⟨e1,h8⟩
 simp -implicitDefEqProofs [r5,hR,v9 hh h6 h7 h8]
theorem Oc{a b lo hi:Int}(h:aew a b lo hi=0):lo≤a∧a≤b∧b≤hi:=by
 unfold aew at h
 split at h
 ·cases h
 ·split at h
  ·cases h
  ·omega
theorem Fg{c:Case}(h:(cC c).2.2=0):c.OK∧c.seen.length≤8∧cC c=(0,0,0):=by
 by_cases h1:1≤c.run∧c.run≤500
 case neg=>rw[zo h1] at h;cases h
 by_cases h2:1≤(c.aB.length:Int)∧(c.aB.length:Int)≤4
 case neg=>rw[zq h1 h2] at h;cases h
 have hz:=h
 unfold cC at h
 rw[if_neg (not_not_intro h1),if_neg (not_not_intro h2)] at h
 cases h3:errs (aeE c) c.aB.length with
 |some p=>rw[h3] at h;exact absurd h (sV (i:=p.1) (e:=p.2) h3)
 |none=>
 rw[h3] at h
 have h3:=sU h3
 simp only at h
 by_cases h4:1≤(c.an.length:Int)∧(c.an.length:Int)≤4
 case neg=>rw[if_pos h4] at h;cases h
 rw[if_neg (not_not_intro h4)] at h
 cases h5:errs (e_ c) c.an.length with
 |some p=>rw[h5] at h;exact absurd h (sV (i:=p.1) (e:=p.2) h5)
 |none=>
 rw[h5] at h
 have h5:=sU h5
 simp only at h
 by_cases h6:1≤c.aA∧c.aA≤5
 case neg=>rw[if_pos h6] at h;cases h
 rw[if_neg (not_not_intro h6)] at h
 by_cases h7:(8:Int)<c.seen.length
 case pos=>rw[if_pos h7] at h;cases h
 rw[if_neg h7] at h
 cases h8:errs (eG c) c.seen.length with
 |some p=>rw[h8] at h;exact absurd h (sV (i:=p.1) (e:=p.2) h8)
 |none=>
 have h8:=sU h8
 refine⟨⟨h1,by omega,fun s hs=> ?_,by omega,fun r hr=> ?_,h6,by omega,fun x hx=> ?_⟩,by omega,v9 ⟨h1,h2,h3,h4,h5⟩ h6 h7 h8⟩
 ·obtain⟨i,hi,rfl⟩:=List.getElem_of_mem hs
  have:=h3 i hi
  unfold aeE at this
  rw[Fa hi] at this
  simp only at this
  split at this
  ·rename_i hn;exact absurd this hn
  ·have:=Oc this;omega
 ·obtain⟨i,hi,rfl⟩:=List.getElem_of_mem hr
  have:=h5 i hi
  unfold e_ at this
  rw[Fb hi] at this
  simp only at this
  split at this
  ·cases this
  ·rename_i hs
   have hs:=Decidable.not_not.1 hs
   split at this
   ·rename_i hn;exact absurd this hn
   ·rename_i hn
    have hz:=Oc (Decidable.not_not.1 hn)
    split at this
    ·cases this
    ·omega
 ·obtain⟨i,hi,rfl⟩:=List.getElem_of_mem hx
  have:=h8 i hi
  unfold eG at this
  rw[Fc hi] at this
  simp only at this
  split at this
  ·omega
  ·cases this
theorem oP(c:Case):aed Tryz.prog 60 [cj c] (.tuple [cj c,I (cC c).2.2]):=by
 refine pc t60 (by simp) fun _=> ?_
 have hc:=yP c
 generalize cC c=R at*
 simp -implicitDefEqProofs [Kq]
 intro b
 refine aj hc ?_
 simp -implicitDefEqProofs [r60]
end Go.Proofs.YtnncgmimhdplfaaGreat.P
