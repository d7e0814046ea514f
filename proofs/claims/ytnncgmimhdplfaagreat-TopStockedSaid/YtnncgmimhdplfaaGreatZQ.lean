/- The law TopStocked: its contract. What the argument of the law TopStocked says; its contract. -/
import Derived.Test.YtnncgmimhdplfaaGreatZE
import Derived.Test.YtnncgmimhdplfaaGreatZG
import Derived.Test.YtnncgmimhdplfaaGreatZP
import Derived.Test.YtnncgmimhdplfaaGreatZM
import Derived.Test.YtnncgmimhdplfaaGreatZK
namespace Go.Proofs.YtnncgmimhdplfaaGreat
open Go.aq
abbrev eX(x:P.cc)(y:F.cc)(a b:Int):List AV:=[F.US x.dc,F.US x.years,F.US x.looked,F.US y.make,F.US y.sizes,F.US y.gD,F.US y.looked,F.U a,F.U b]
theorem Py{n:Nat}(h:n≤65535):IntKind.wrap .i64 (n:Int)=n:=P.zW ⟨by omega,by omega⟩
theorem adv(p:F.aL)(c:P.Case){x:P.cc}{y:F.cc}{a b:Nat}(hx:x.OK)(hy:F.nL y)(ha:a≤65535)(hb:b≤65535):aed Tryz.prog 3 [p.av,P.cj c,.agg (eX x y a b)] (F.B true):=by
 refine pc t3 (by simp) fun hfit=> ?_
 have c4:=F.yQ p
 have c5:=P.yQ c
 have w2:=F.YP
 have w6:=P.ac8
 obtain⟨e,he⟩:∃e,e=F.bh p:=⟨_,rfl⟩
 obtain⟨f,hf⟩:∃f,f=P.bh c:=⟨_,rfl⟩
 have c4:aed Tryz.prog 4 [p.av] (.tuple [F.I (F.afe p).1,F.I (F.afe p).2.1,F.I e]):=by rw[he];exact c4
 have c5:aed Tryz.prog 5 [P.cj c] (.tuple [F.I (P.cC c).1,F.I (P.cC c).2.1,F.I f]):=by rw[hf];exact c5
 unfold m3
 refine P.bX (fun s=>s.env 3=F.aem p∧s.env 4=P.bn c∧s.env 5=.ref (eX x y a b)∧s.loc=fun _=>none) ?_ ?_
 ·intro k hk
  simp -implicitDefEqProofs
  exact hk _ (by simp)
 rintro s ⟨e3,e4,e5,hl⟩
 refine P.bX (fun s=>s.env 3=F.aem p∧s.env 4=P.bn c∧s.env 5=.ref (eX x y a b)∧s.env 9=F.I e∧s.loc=fun _=>none) ?_ ?_
 ·intro k hk
  simp -implicitDefEqProofs [e3]
  refine aj c4 ?_
  simp -implicitDefEqProofs
  exact hk _ (by simp[e3,e4,e5,hl])
 clear e3 e4 e5 hl
 rintro s ⟨e3,e4,e5,e9,hl⟩
 refine P.bX (fun s=>s.env 3=F.aem p∧s.env 4=P.bn c∧s.env 5=.ref (eX x y a b)∧s.env 9=F.I e∧s.env 12=F.I f∧s.loc=fun _=>none) ?_ ?_
 ·intro k hk
  simp -implicitDefEqProofs [e4]
  refine aj c5 ?_
  simp -implicitDefEqProofs
  exact hk _ (by simp[e3,e4,e5,e9,hl])
 clear e3 e4 e5 e9 hl
 rintro s ⟨e3,e4,e5,e9,bF,hl⟩
 by_cases adw:e=0∧f=0∧c.aB.length≤p.aR.length
 case neg=>
  have aw:∀(st:St) (kn:St→Prop) (ke:Nat→St→Prop),bz Tryz.prog (.seq (.aa [.call 55 6 [],.af 56 (.t 55),.guard 56 true (some 57) (.call 57 7 []),.pick 58 (.t 56) (.t 57) (cb false),.ag 6 (.t 58)]) .ret) kn ke (fun s=>eS s r3 fun ys=>F.B true=aeJ ys) st:=by
   intro st kn ke
   simp -implicitDefEqProofs
   refine aj w2 ?_
   simp -implicitDefEqProofs
   refine aj w6 ?_
   simp -implicitDefEqProofs [r3]
  by_cases h1:e=0
  ·by_cases h2:f=0
   ·have h3:(p.aR.length:Int)<c.aB.length:=by omega
    simp -implicitDefEqProofs [e9,bF,e4,e3,h1,h2,h3]
    exact aw _ _ _
   ·have oM:(f != 0)=true:=by simp[h2]
    simp -implicitDefEqProofs [e9,bF,h1,oM]
    exact aw _ _ _
  ·have jc:(e != 0)=true:=by simp[h1]
   simp -implicitDefEqProofs [e9,jc]
   exact aw _ _ _
 obtain⟨h1,h2,h3⟩:=adw
 have yO:¬(p.aR.length:Int)<c.aB.length:=by omega
 have tn:F.bh p=0:=by rw[←he];exact h1
 have Ga:P.bh c=0:=by rw[←hf];exact h2
 have hok:=P.fF Ga
 refine P.bX (fun s=>s.env 3=F.aem p∧s.env 4=P.bn c∧s.env 5=.ref (eX x y a b)∧s.loc=fun _=>none) ?_ ?_
 ·intro k hk
  simp -implicitDefEqProofs [e9,bF,e4,e3,h1,h2,yO]
  exact hk _ (by simp[e3,e4,e5,hl])
 clear e3 e4 e5 e9 bF hl c4 c5
 rintro s ⟨e3,e4,e5,hl⟩
 have c8:=P.adh hok hx
 by_cases hn:P.cO c=[]
 case pos=>
  have hA:P.zX c x=.tuple [P.F5,F.B false]:=if_pos hn
  rw[hA] at c8
  refine P.bX (fun s=>s.env 14=F.B false) ?_ ?_
  ·intro k hk
   simp -implicitDefEqProofs [e4,e5]
   refine aj c8 ?_
   simp -implicitDefEqProofs
   intro cT _
   exact hk _ (by simp)
  rintro s e14
  simp -implicitDefEqProofs [e14]
  refine aj w2 ?_
  simp -implicitDefEqProofs
  refine aj w6 ?_
  simp -implicitDefEqProofs [r3]
 have hA:P.zX c x=.tuple [P.zT c (P.iU c x),F.B true]:=if_neg hn
 rw[hA] at c8
 have ht:P.nY c (P.iU c x):=⟨(P.F4 hok x hn).1,(P.F4 hok x hn).2⟩
 generalize P.iU c x=t at*
 obtain⟨T,hT⟩:∃T,T=P.dD c t.1:=⟨_,rfl⟩
 have c8:aed Tryz.prog 8 [P.cj c,P.wD x] (.tuple [.agg [F.IL t.1,F.IL t.2,P.cu T],F.B true]):=by rw[hT];exact c8
 refine P.bX (fun s=>s.env 3=F.aem p∧s.env 4=P.bn c∧s.env 5=.ref (eX x y a b)∧s.env 13=.ref [F.IL t.1,F.IL t.2,P.cu T]∧s.env 14=F.B true∧s.loc=fun _=>none) ?_ ?_
 ·intro k hk
  simp -implicitDefEqProofs [e4,e5]
  refine aj c8 ?_
  simp -implicitDefEqProofs
  intro cT _
  refine hk _ ?_
  simp[e3,e4,e5]
  funext b
  by_cases hb:b=cT<;>simp[hb,hl]
 clear e3 e4 e5 hl c8
 rintro s ⟨e3,e4,e5,aP,e14,hl⟩
 refine P.bX (fun s=>s.env 3=F.aem p∧s.env 4=P.bn c∧s.env 5=.ref (eX x y a b)∧s.env 13=.ref [F.IL t.1,F.IL t.2,P.cu T]∧s.loc=fun _=>none) ?_ ?_
 ·intro k hk
  simp -implicitDefEqProofs [e14]
  exact hk _ (by simp[e3,e4,e5,aP,hl])
 clear e3 e4 e5 aP e14 hl
 rintro s ⟨e3,e4,e5,aP,hl⟩
 have hlen:=ht.len
 have hg:=hok.aA
 obtain⟨q,hq⟩:∃q,q=a%t.2.length:=⟨_,rfl⟩
 have qL:q<t.2.length:=by rw[hq];exact Nat.mod_lt _ (by omega)
 have hqt:(a:Int).tmod (t.2.length:Int)=q:=by rw[hq];exact F.gE _ _
 have vO:=Py ha
 have vP:=Py hb
 obtain⟨hTl,zZ,Gb⟩:=P.Pw Ga ht qL
 rw[←hT] at hTl zZ Gb
 have hne:¬t.2=[]:=fun h=>by rw[h] at qL;simp at qL
 refine P.bX (fun s=>s.env 3=F.aem p∧s.env 4=P.bn c∧s.env 5=.ref (eX x y a b)∧s.env 13=.ref [F.IL t.1,F.IL t.2,P.cu T]∧s.env 15=F.I q∧s.loc=fun _=>none) ?_ ?_
 ·intro k hk
  simp -implicitDefEqProofs [e5,aP,vO,hqt,hne]
  exact hk _ (by simp[e3,e4,e5,aP,hl])
 clear e3 e4 e5 aP hl
 rintro s ⟨e3,e4,e5,aP,bL,hl⟩
 have Pz:q<T.length:=by omega
 obtain⟨Q,hQ⟩:∃Q,Q=T[q]:=⟨_,rfl⟩
 have PA:T.getD q []=Q:=by rw[hQ,List.getD_eq_getElem?_getD,List.getElem?_eq_getElem Pz];rfl
 rw[PA] at zZ Gb
 have hQl:0<Q.length:=List.length_pos_iff.2 zZ
 obtain⟨j,hj⟩:∃j,j=b%Q.length:=⟨_,rfl⟩
 have hjl:j<Q.length:=by rw[hj];exact Nat.mod_lt _ hQl
 have Gc:(b:Int).tmod (Q.length:Int)=j:=by rw[hj];exact F.gE _ _
 obtain⟨S,hS⟩:∃S,S=Q[j]:=⟨_,rfl⟩
 have PB:S∈Q:=by rw[hS];exact List.getElem_mem _
 have hSr:=Gb S PB
 refine P.bX (fun s=>s.env 3=F.aem p∧s.env 4=P.bn c∧s.env 5=.ref (eX x y a b)∧s.env 13=.ref [F.IL t.1,F.IL t.2,P.cu T]∧s.env 15=F.I q∧s.env 16=F.I S∧s.loc=fun _=>none) ?_ ?_
 ·intro k hk
  simp -implicitDefEqProofs [e5,aP,bL,Pz,vP,←hQ,Gc,zZ,hjl,←hS]
  exact hk _ (by simp[e3,e4,e5,aP,bL,hl])
 clear e3 e4 e5 aP bL hl
 rintro s ⟨e3,e4,e5,aP,bL,e16,hl⟩
 have c9:=F.MX p (F.afL tn)
 have Gd:=F.El tn
 have hL2:=F.Em (F.afL tn)
 have hfind:=F.aa6 tn (s:=S) (by omega)
 have qT:∀n:Nat,n<(F.cq p).length→F.bY p {y with make:=[(n:Int)]}=F.qG p n:=fun n hn=>F.aa7 y hn
 obtain⟨A,hA⟩:∃A,A=F.cq p:=⟨_,rfl⟩
 have gd:∀n,F.qG p n=A.getD (n%A.length) F.mk0:=fun n=>by rw[hA]
 simp only[gd] at hfind qT
 rw[←hA] at c9 Gd hL2 hfind qT
 refine P.bX (fun s=>s.env 3=F.aem p∧s.env 4=P.bn c∧s.env 5=.ref (eX x y a b)∧s.env 13=.ref [F.IL t.1,F.IL t.2,P.cu T]∧s.env 15=F.I q∧s.env 16=F.I S∧s.env 17=F.ML A∧s.loc=fun _=>none) ?_ ?_
 ·intro k hk
  simp -implicitDefEqProofs [e3]
  refine aj c9 ?_
  simp -implicitDefEqProofs
  exact hk _ (by simp[e3,e4,e5,aP,bL,e16,hl])
 clear e3 e4 e5 aP bL e16 hl c9
 rintro s ⟨e3,e4,e5,aP,bL,e16,gU,hl⟩
 refine P.bX (fun s=>s.env 3=F.aem p∧s.env 4=P.bn c∧s.env 5=.ref (eX x y a b)∧s.env 13=.ref [F.IL t.1,F.IL t.2,P.cu T]∧s.env 15=F.I q∧s.env 16=F.I S∧s.env 17=F.ML A∧s.env 18=F.I (0:Nat)∧s.loc=fun _=>none) ?_ ?_
 ·intro k hk
  simp -implicitDefEqProofs
  exact hk _ (by simp[e3,e4,e5,aP,bL,e16,gU,hl])
 clear e3 e4 e5 aP bL e16 gU hl
 rintro s ⟨e3,e4,e5,aP,bL,e16,gU,eU,hl⟩
 have PC:¬A=[]:=fun h=>by rw[h] at Gd;simp at Gd
 refine P.bX (fun s=>s.env 3=F.aem p∧s.env 4=P.bn c∧s.env 5=.ref (eX x y a b)∧s.env 13=.ref [F.IL t.1,F.IL t.2,P.cu T]∧s.env 15=F.I q∧s.env 16=F.I S∧s.env 17=F.ML A∧(∃n0:Nat,n0<A.length∧s.env 18=F.I n0)∧s.loc=fun _=>none) ?_ ?_
 ·intro k hk
  cases hm:y.make with
  |nil=>
   simp -implicitDefEqProofs [e5,hm]
   exact hk _ (by simp[e3,e4,e5,aP,bL,e16,gU,hl];exact⟨0,by omega,by simp[eU]⟩)
  |cons n ns=>
   have hn:=hy.make n (by rw[hm];simp)
   have hwn:=F.wrap_i64 hn
   obtain⟨n1,rfl⟩:∃k:Nat,n=k:=⟨n.toNat,by omega⟩
   have hmd:=F.gE n1 A.length
   simp -implicitDefEqProofs [e5,gU,hm,hwn,hmd,PC]
   exact hk _ (by simp[e3,e4,e5,aP,bL,e16,gU,hl];exact⟨n1%A.length,Nat.mod_lt _ (by omega),by simp⟩)
 clear e3 e4 e5 aP bL e16 gU eU hl
 rintro s ⟨e3,e4,e5,aP,bL,e16,gU,⟨n0,hn0,eU⟩,hl⟩
 obtain⟨K,hK1,hK2,hK3⟩:=hfind n0
 obtain⟨g,hgd⟩:∃g:Nat→Nat,∀i,g i=(n0+i)%A.length:=⟨_,fun _=>rfl⟩
 have kB:g 0=n0:=by rw[hgd];exact Nat.mod_eq_of_lt hn0
 have hgl:∀i,g i<A.length:=fun i=>by rw[hgd];exact Nat.mod_lt _ (by omega)
 have tj:∀i:Nat,((g i:Int)+1).tmod (A.length:Int)=g (i+1):=fun i=>by
  have:=F.gE (g i+1) A.length
  rw[hgd (i+1),show n0+(i+1)=n0+i+1 by omega,←Nat.mod_add_mod,←hgd i]
  rw[←this];rfl
 have rC:∀i,A.getD (g i) F.mk0=A[g i]'(hgl i):=fun i=>by rw[List.getD_eq_getElem?_getD,List.getElem?_eq_getElem (hgl i)];rfl
 simp only[←hgd] at hK1 hK2
 have wF:=qT (g K) (hgl K)
 rw[Nat.mod_eq_of_lt (hgl K)] at wF
 refine P.bX (fun s=>s.env 3=F.aem p∧s.env 4=P.bn c∧s.env 5=.ref (eX x y a b)∧s.env 13=.ref [F.IL t.1,F.IL t.2,P.cu T]∧s.env 15=F.I q∧s.env 16=F.I S∧s.env 18=F.I (g K)∧s.loc=fun _=>none) ?_ ?_
 ·intro k hk
  simp -implicitDefEqProofs
  refine aef K (fun i s=>s.env 3=F.aem p∧s.env 4=P.bn c∧s.env 5=.ref (eX x y a b)∧s.env 13=.ref [F.IL t.1,F.IL t.2,P.cu T]∧s.env 15=F.I q∧s.env 16=F.I S∧s.env 17=F.ML A∧s.env 18=F.I (g i)∧s.loc=fun _=>none) ?_ ?_
  ·simp[e3,e4,e5,aP,bL,e16,gU,eU,hl,kB]
  rintro i st hi ⟨e3,e4,e5,aP,bL,e16,gU,eU,hl⟩
  have hlt:=hgl i
  have hno:i<K→(A[g i].b_ != S)=true:=fun h=>by rw[←rC];simpa using hK1 i h
  have hyes:i=K→(A[g i].b_ != S)=false:=fun h=>by subst h;rw[←rC];simpa using hK2
  have hs:=tj i
  simp -implicitDefEqProofs [gU,eU,e16,hlt]
  by_cases PD:i<K
  ·simp -implicitDefEqProofs [hno PD,gU,eU,hs,PC]
   exact⟨i64 (by omega) (by omega),aQ PD ⟨by simp[e3],by simp[e4],by simp[e5],by simp[aP],by simp[bL],by simp[e16],by simp[gU],by simp,by simp[hl]⟩⟩
  ·have adx:i=K:=by omega
   subst adx
   simp -implicitDefEqProofs [hyes rfl]
   exact hk _ (by simp[e3,e4,e5,aP,bL,e16,eU,hl])
 clear e3 e4 e5 aP bL e16 gU eU hl
 rintro s ⟨e3,e4,e5,aP,bL,e16,eU,hl⟩
 have fk:g K<65536:=by have:=hgl K;omega
 obtain⟨n,hnK⟩:∃n,n=g K:=⟨_,rfl⟩
 rw[←hnK] at wF hK2 eU fk
 obtain⟨y',hy'⟩:∃y',y'=({y with make:=[(n:Int)]}:F.cc):=⟨_,rfl⟩
 rw[←hy'] at wF
 have yW:F.nL y':=by
  rw[hy']
  refine⟨fun v hv=> ?_,hy.sizes,hy.gD,hy.looked⟩
  have:v=n:=by simpa using hv
  omega
 have hwn:IntKind.wrap .u16 (n:Int)=n:=by
  simp[IntKind.wrap,IntKind.bits,IntKind.signed]
  omega
 have ady:y'.av=.agg [F.US [(n:Int)],F.US y.sizes,F.US y.gD,F.US y.looked]:=by rw[hy']
 have c10:=F.aa1 tn yW (nb:=0) (by omega)
 rw[ady] at c10
 refine P.bX (fun s=>s.env 3=F.aem p∧s.env 4=P.bn c∧s.env 5=.ref (eX x y a b)∧s.env 13=.ref [F.IL t.1,F.IL t.2,P.cu T]∧s.env 15=F.I q∧s.env 16=F.I S∧s.env 18=F.I n∧∃b19,s.env 19=.au b19 0∧s.loc b19=some [F.US y.make,F.US y.sizes,F.US y.gD,F.US y.looked]) ?_ ?_
 ·intro k hk
  simp -implicitDefEqProofs [e5]
  intro b19 _
  exact hk _ (by simp[e3,e4,e5,aP,bL,e16,eU])
 clear e3 e4 e5 aP bL e16 eU hl
 rintro s ⟨e3,e4,e5,aP,bL,e16,eU,b19,dL,wG⟩
 refine P.bX (fun s=>s.env 3=F.aem p∧s.env 4=P.bn c∧s.env 5=.ref (eX x y a b)∧s.env 13=.ref [F.IL t.1,F.IL t.2,P.cu T]∧s.env 15=F.I q∧s.env 16=F.I S∧s.env 19=.au b19 0∧s.loc b19=some [.slice 1 [F.U n] 20000,F.US y.sizes,F.US y.gD,F.US y.looked]) ?_ ?_
 ·intro k hk
  simp -implicitDefEqProofs [eU,dL,wG,hwn]
  exact hk _ (by simp[e3,e4,e5,aP,bL,e16,dL])
 clear e3 e4 e5 aP bL e16 eU dL wG
 rintro s ⟨e3,e4,e5,aP,bL,e16,dL,wG⟩
 obtain⟨PE,hmem⟩:=F.aa9 tn yW
 obtain⟨bk,xA⟩:∃bk,bk=F.gX p y' 0:=⟨_,rfl⟩
 obtain⟨m,hm⟩:∃m,m=F.bY p y':=⟨_,rfl⟩
 have c11:=F.aaH p bk
 rw[←xA] at PE hmem
 rw[PE] at c11
 rw[←hm] at hmem wF
 rw[←xA,←hm] at c10
 have hmp:m.b_=S:=by rw[wF];exact hK2
 obtain⟨fl,hfl⟩:∃fl,fl=F.qC p bk:=⟨_,rfl⟩
 rw[←hfl] at c11 hmem
 refine P.bX (fun s=>s.env 3=F.aem p∧s.env 4=P.bn c∧s.env 5=.ref (eX x y a b)∧s.env 13=.ref [F.IL t.1,F.IL t.2,P.cu T]∧s.env 15=F.I q∧s.env 16=F.I S∧s.env 20=F.lG bk∧s.env 21=.ref m.cs) ?_ ?_
 ·intro k hk
  simp -implicitDefEqProofs [e3,dL,wG]
  refine aj c10 ?_
  simp -implicitDefEqProofs
  intro PF h20 PG h21
  have hne:¬PG=PF:=fun h=>by rw[if_pos h] at h21;cases h21
  have adz:¬PF=PG:=fun h=>hne h.symm
  simp -implicitDefEqProofs [hne,adz]
  exact hk _ (by simp[e3,e4,e5,aP,bL,e16])
 clear e3 e4 e5 aP bL e16 dL wG c10
 rintro s ⟨e3,e4,e5,aP,bL,e16,e20,e21⟩
 refine P.bX (fun s=>s.env 3=F.aem p∧s.env 4=P.bn c∧s.env 5=.ref (eX x y a b)∧s.env 13=.ref [F.IL t.1,F.IL t.2,P.cu T]∧s.env 15=F.I q∧s.env 16=F.I S∧s.env 21=.ref m.cs∧s.env 22=F.ML fl∧s.env 9=F.I 0) ?_ ?_
 ·intro k hk
  simp -implicitDefEqProofs [e3,e20]
  refine aj c11 ?_
  simp -implicitDefEqProofs
  exact hk _ (by simp[e3,e4,e5,aP,bL,e16,e21])
 clear e3 e4 e5 aP bL e16 e20 e21 c11
 rintro s ⟨e3,e4,e5,aP,bL,e16,e21,gV,e9⟩
 refine P.bX (fun s=>s.env 4=P.bn c∧s.env 5=.ref (eX x y a b)∧s.env 13=.ref [F.IL t.1,F.IL t.2,P.cu T]∧s.env 15=F.I q∧s.env 16=F.I S∧s.env 22=F.ML fl) ?_ ?_
 ·intro k hk
  have hS':(m.b_ != S)=false:=by simp[hmp]
  simp -implicitDefEqProofs [e9,e16,e21,hS']
  exact hk _ (by simp[e4,e5,aP,bL,e16,gV])
 clear e3 e4 e5 aP bL e16 e21 gV e9
 rintro s ⟨e4,e5,aP,bL,e16,gV⟩
 refine P.bX (fun s=>s.env 4=P.bn c∧s.env 5=.ref (eX x y a b)∧s.env 13=.ref [F.IL t.1,F.IL t.2,P.cu T]∧s.env 15=F.I q∧s.env 16=F.I S∧s.env 22=F.ML fl∧s.env 23=.slice 1 ((F.iR fl 0).map F.I) 24) ?_ ?_
 ·intro k hk
  simp -implicitDefEqProofs
  exact hk _ (by simp[e4,e5,aP,bL,e16,gV,F.iR])
 clear e4 e5 aP bL e16 gV
 rintro s ⟨e4,e5,aP,bL,e16,gV,cF⟩
 have ad_:fl.length≤1000:=by have:=F.aa8 p bk;rw[←hfl,←hA] at this;omega
 refine P.bX (fun s=>s.env 4=P.bn c∧s.env 5=.ref (eX x y a b)∧s.env 13=.ref [F.IL t.1,F.IL t.2,P.cu T]∧s.env 15=F.I q∧s.env 16=F.I S∧s.env 23=.slice 1 ((F.iR fl fl.length).map F.I) 24) ?_ ?_
 ·intro k hk
  simp -implicitDefEqProofs
  refine aef fl.length (fun i s=>s.env 4=P.bn c∧s.env 5=.ref (eX x y a b)∧s.env 13=.ref [F.IL t.1,F.IL t.2,P.cu T]∧s.env 15=F.I q∧s.env 16=F.I S∧s.env 22=F.ML fl∧s.env 23=.slice 1 ((F.iR fl i).map F.I) 24∧s.env 24=F.I i) ?_ ?_
  ·simp[e4,e5,aP,bL,e16,gV,cF]
  rintro i st hi ⟨e4,e5,aP,bL,e16,gV,cF,e24⟩
  simp -implicitDefEqProofs [gV,e24]
  refine bA (fun hlt=> ?_) (fun hge=> ?_)
  ·have hlt:i<fl.length:=by omega
   have ch:=F.MZ (F.iR fl i) fl[i].b_
   have s6:=F.ER hlt
   have vI:=F.NB (l:=fl) i hi
   simp -implicitDefEqProofs [gV,cF,e24,hlt]
   refine aj ch ?_
   by_cases hin:fl[i].b_∈F.iR fl i
   ·rw[if_pos hin] at s6
    simp -implicitDefEqProofs [hin,e24]
    exact⟨i64 (by omega) (by omega),aQ hlt ⟨by simp[e4],by simp[e5],by simp[aP],by simp[bL],by simp[e16],by simp[gV],by simp[cF,s6],by simp⟩⟩
   ·rw[if_neg hin] at s6
    simp -implicitDefEqProofs [hin,gV,cF,e24,hlt]
    refine⟨by omega,by omega,i64 (by omega) (by omega),aQ hlt ⟨by simp[e4],by simp[e5],by simp[aP],by simp[bL],by simp[e16],by simp[gV],by simp[s6],by simp⟩⟩
  ·have hi':i=fl.length:=by omega
   subst hi'
   simp -implicitDefEqProofs
   exact hk _ (by simp[e4,e5,aP,bL,e16,cF])
 clear e4 e5 aP bL e16 gV cF
 rintro s ⟨e4,e5,aP,bL,e16,cF⟩
 obtain⟨W,hW⟩:∃W,W=F.iR fl fl.length:=⟨_,rfl⟩
 have hSW:S∈W:=by
  obtain⟨i,hi,him⟩:=List.mem_iff_getElem.1 hmem
  have:=F.NC (l:=fl) fl.length (Nat.le_refl _) i hi hi
  rw[him,hmp] at this
  rw[hW];exact this
 rw[←hW] at cF
 have ch:=F.MZ W S
 rw[decide_eq_true hSW] at ch
 refine P.bX (fun s=>s.env 4=P.bn c∧s.env 5=.ref (eX x y a b)∧s.env 13=.ref [F.IL t.1,F.IL t.2,P.cu T]∧s.env 15=F.I q∧s.env 23=.slice 1 (W.map F.I) 24) ?_ ?_
 ·intro k hk
  simp -implicitDefEqProofs [cF,e16]
  refine aj ch ?_
  simp -implicitDefEqProofs
  exact hk _ (by simp[e4,e5,aP,bL,cF])
 clear e4 e5 aP bL e16 cF
 rintro s ⟨e4,e5,aP,bL,cF⟩
 have wH:=P.adk hok ht hx (bits:=0) (by omega)
 have wH:aed Tryz.prog 13 [P.cj c,.agg [F.IL t.1,F.IL t.2,P.cu T],P.wD x,P.V (0:Nat)] (P.cj (P.gr c t x 0)):=by rw[hT];exact wH
 have hmw:=P.adu Ga ht x qL (s:=S) (by rw[←hT,PA];exact PB)
 have hd8:(P.gr c t x 0).seen.length≤8:=by rw[P.Pq];exact P.F_ _
 obtain⟨d,hd⟩:∃d,d=P.gr c t x 0:=⟨_,rfl⟩
 rw[←hd] at wH hmw hd8
 refine P.bX (fun s=>s.env 13=.ref [F.IL t.1,F.IL t.2,P.cu T]∧s.env 15=F.I q∧s.env 23=.slice 1 (W.map F.I) 24∧s.env 25=P.bn d) ?_ ?_
 ·intro k hk
  simp -implicitDefEqProofs [e4,e5,aP]
  refine aj wH ?_
  simp -implicitDefEqProofs
  intro b25 h25
  exact hk _ (by simp[aP,bL,cF])
 clear e4 e5 aP bL cF wH
 rintro s ⟨aP,bL,cF,jh⟩
 by_cases hw1:W.length≤1∧d.seen.length≠8
 case neg=>
  have aw:∀(st:St) (kn:St→Prop) (ke:Nat→St→Prop),bz Tryz.prog (.seq (.aa [.call 192 6 [],.af 193 (.t 192),.guard 193 true (some 194) (.call 194 7 []),.pick 195 (.t 193) (.t 194) (cb false),.ag 6 (.t 195)]) .ret) kn ke (fun s=>eS s r3 fun ys=>F.B true=aeJ ys) st:=by
   intro st kn ke
   simp -implicitDefEqProofs
   refine aj w2 ?_
   simp -implicitDefEqProofs
   refine aj w6 ?_
   simp -implicitDefEqProofs [r3]
  by_cases hw:W.length≤1
  ·have h8:(d.seen.length:Int)=8:=by omega
   have i_:¬(1:Int)<W.length:=by omega
   simp -implicitDefEqProofs [cF,jh,i_,h8]
   exact aw _ _ _
  ·have i_:(1:Int)<W.length:=by omega
   simp -implicitDefEqProofs [cF,i_]
   exact aw _ _ _
 obtain⟨hw1,adA⟩:=hw1
 have hWS:W=[S]:=by
  match W,hSW,hw1 with
  |[w],hSW,_=>rw[List.mem_singleton.1 hSW]
  |_::_::_,_,h=>simp at h
 obtain⟨ho,Ge,hzl⟩:=hmw adA
 have hgt:t.2.getD q 0=t.2[q]:=by rw[List.getD_eq_getElem?_getD,List.getElem?_eq_getElem qL];rfl
 rw[hgt] at ho Ge hzl
 have c15:=P.acS d t.2[q] S (by omega)
 have Gf:=P.FN (P.eW d t.2[q] S)
 rw[ho] at Gf
 generalize P.eW d t.2[q] S=D at*
 obtain⟨Z,hZ⟩:∃Z,Z=P.aeh D:=⟨_,rfl⟩
 rw[←hZ] at Gf Ge hzl
 refine P.bX (fun s=>s.env 13=.ref [F.IL t.1,F.IL t.2,P.cu T]∧s.env 15=F.I q∧s.env 23=.slice 1 ([S].map F.I) 24∧s.env 25=P.bn d) ?_ ?_
 ·intro k hk
  have h8:((d.seen.length:Int)==8)=false:=beq_eq_false_iff_ne.2 (by omega)
  rw[hWS] at cF
  simp -implicitDefEqProofs [cF,jh,h8]
  exact hk _ (by simp[aP,bL,cF,jh])
 clear aP bL cF jh
 rintro s ⟨aP,bL,cF,jh⟩
 refine P.bX (fun s=>s.env 13=.ref [F.IL t.1,F.IL t.2,P.cu T]∧s.env 26=P.cu Z∧s.env 12=F.I 0) ?_ ?_
 ·intro k hk
  simp -implicitDefEqProofs [aP,bL,cF,jh,qL]
  refine aj c15 ?_
  simp -implicitDefEqProofs
  refine aj Gf ?_
  simp -implicitDefEqProofs
  exact hk _ (by simp[aP])
 clear aP bL cF jh
 rintro s ⟨aP,lJ,bF⟩
 refine P.bX (fun _=>False) ?_ (fun _ h=>h.elim)
 intro k hk
 simp -implicitDefEqProofs
 refine aef Z.length (fun i s=>s.env 13=.ref [F.IL t.1,F.IL t.2,P.cu T]∧s.env 26=P.cu Z∧s.env 12=F.I 0∧s.env 27=F.I i∧∀j,(h:j<Z.length)→j<i→Z[j]≠t.2) ?_ ?_
 ·simp[aP,lJ,bF]
 rintro i st hi ⟨aP,lJ,bF,fC,hno⟩
 simp -implicitDefEqProofs [lJ,fC]
 refine bA (fun hlt=> ?_) (fun hge=> ?_)
 ·have hlt:i<Z.length:=by omega
  have cz:=P.sy Z[i] t.2
  simp -implicitDefEqProofs [lJ,fC,aP,hlt]
  refine aj cz ?_
  by_cases hin:Z[i]=t.2
  ·simp -implicitDefEqProofs [hin,bF]
   refine aj w2 ?_
   simp -implicitDefEqProofs
   refine aj w6 ?_
   simp -implicitDefEqProofs [r3]
  ·simp -implicitDefEqProofs [hin,fC]
   refine⟨i64 (by omega) (by omega),aQ hlt ⟨by simp[aP],by simp[lJ],by simp[bF],by simp,fun j hj hji=> ?_⟩⟩
   rcases Nat.lt_succ_iff_lt_or_eq.1 hji with h|rfl
   ·exact hno j hj h
   ·exact hin
 ·obtain⟨j,hj,Gc⟩:=List.mem_iff_getElem.1 Ge
  exact(hno j hj (by omega) Gc).elim
end Go.Proofs.YtnncgmimhdplfaaGreat
namespace Go.Proofs.YtnncgmimhdplfaaGreat
open Go.aq
abbrev PI(x:P.cc×F.cc×List Int):AV:=.agg ([F.US x.1.dc,F.US x.1.years,F.US x.1.looked,F.US x.2.1.make,F.US x.2.1.sizes,F.US x.2.1.gD,F.US x.2.1.looked]++x.2.2.flatMap fun y=>(F.U y).cells)
theorem adB:Rd Tryz.prog false 39 PI (fun x=>x.1.OK∧F.nL x.2.1∧x.2.2.length=2∧∀n∈x.2.2,0≤n∧n≤65535):=(Rd.struct (tot:=9) Tryz.underlying39 rfl (by kernel_rfl) (bZ.cons rfl (by kernel_rfl) P.EP (bZ.cons rfl (by kernel_rfl) F.EP (bZ.cons rfl (by kernel_rfl) F.aaP bZ.nil)))).map (fun x=>(x.1,x.2.1,x.2.2.1)) (fun x=>by simp[AV.cells]) (fun _ h=>⟨h.1,h.2.1,h.2.2.1⟩)
theorem adC(p:F.aL)(c:P.Case)(x:P.cc×F.cc×List Int)(_:True)(_:c.seen.length*16≤140737488351232)(h:x.1.OK∧F.nL x.2.1∧x.2.2.length=2∧∀n∈x.2.2,0≤n∧n≤65535):aed Tryz.prog 3 [p.av,P.cj c,PI x] (F.B true):=by
 obtain⟨x,y,w⟩:=x
 obtain⟨h1,h2,h3,h4⟩:=h
 match w,h3,h4 with
 |[a,b],_,h4=>
  have ha:=h4 a (by simp)
  have hb:=h4 b (by simp)
  obtain⟨a,rfl⟩:∃k:Nat,a=k:=⟨a.toNat,by omega⟩
  obtain⟨b,rfl⟩:∃k:Nat,b=k:=⟨b.toNat,by omega⟩
  exact adv p c h1 h2 (by omega) (by omega)
end Go.Proofs.YtnncgmimhdplfaaGreat
