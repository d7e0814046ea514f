/- Contracts of the reference: what agrees, all truths, their orders. Contracts of the reference: all truths, their orders. Contracts of the reference: Orders and Before. Contracts of the reference: Both and Stocks. Contracts of the reference: Left, Latest and Year. Contracts of the reference: Lists and Off. Contracts of the reference: More, Worst and Ask. Plain: what the program computes is what the reference does: truths, orders, Before. Plain: what the program computes is what the reference does: Stocks, Left, Year. Plain: what the program computes is what the reference does: Wrong, Ask. The example of the document, and what is awake. What a law's arguments of layer 6 say: cases, and lists of numbers. Contracts of the laws' helpers: valid cases, turns, lists in lists. Contracts of the laws' helpers: any truth, what is told of it. Contracts of the laws' helpers: the latest year of a truth, a case without some of what is seen. Plain: what the program says, of each truth that agrees. Plain: what Wrong says; a case without some of what is seen. Plain: with one more thing seen. Plain: what Ask says. Plain: if a gathering is seen once more, on a stock that its place has, the true order is still one of all. -/
import Derived.Test.YtnncgmimhdplfaaGreatZO
import Derived.Test.YtnncgmimhdplfaaGreatZE
import Derived.Test.YtnncgmimhdplfaaGreatZC
import Derived.Test.YtnncgmimhdplfaaGreatZN
import Derived.Test.YtnncgmimhdplfaaGreatProg
namespace Go.Proofs.YtnncgmimhdplfaaGreat.P
open Go.aq
def acK(c:Case)(pl:List (List Int))(o:List Int)(i k:Nat):Bool:=(List.range k).all fun q=> !decide (o.getD q 0=(c.seen.getD i (-1,0)).1)||decide ((c.seen.getD i (-1,0)).2∈pl.getD q [])
def acL(c:Case)(aI:List Int)(pl:List (List Int))(o:List Int)(i:Nat):Bool:=decide ((i:Int)∈aI)||acK c pl o i o.length
def acM(c:Case)(aI:List Int)(pl:List (List Int))(o:List Int)(k:Nat):Bool:=(List.range k).all (acL c aI pl o)
def O0(c:Case)(aI:List Int)(pl:List (List Int))(o:List Int):Bool:=acM c aI pl o c.seen.length
end Go.Proofs.YtnncgmimhdplfaaGreat.P
namespace Go.Proofs.YtnncgmimhdplfaaGreat.P
open Go.aq
abbrev zT(c:Case)(x:List Int×List Int):AV:=.agg [IL x.1,IL x.2,cu (dD c x.1)]
def acN(c:Case)(p:List Int)(l:List (List Int)):List (List Int×List Int):=(l.filter (O0 c [] (dD c p))).map fun o=>(p,o)
def acO(c:Case)(l:List (List Int)):List (List Int×List Int):=l.flatMap fun p=>acN c p (bM c)
def zU(c:Case):List (List Int×List Int):=acO c (cO c)
theorem acP(c:Case)(p:List Int):(dD c p).length=c.aA.toNat:=by simp[dD,iS]
end Go.Proofs.YtnncgmimhdplfaaGreat.P
namespace Go.Proofs.YtnncgmimhdplfaaGreat.P
open Go.aq
end Go.Proofs.YtnncgmimhdplfaaGreat.P
namespace Go.Proofs.YtnncgmimhdplfaaGreat.P
open Go.aq
def acQ(c:Case)(g:Int)(s:Nat)(x:List Int×List Int):Bool:=decide ((s:Int)∈(dD c x.1).getD (fS x.2 g).toNat [])
def manyN(c:Case)(g:Int)(s:Nat)(l:List (List Int×List Int)):Nat:=(l.filter (acQ c g s)).length
def acR(c:Case)(l:List (List Int×List Int))(g:Int)(s:Nat):Bool:=decide (manyN c g s l=l.length)
def Ni(c:Case)(l:List (List Int×List Int))(g:Int)(s:Nat):Bool:=decide (0<manyN c g s l)
def O1(c:Case)(l:List (List Int×List Int))(g:Int):List Int:=bu (acR c l g) c.aB.length
def O2(c:Case)(l:List (List Int×List Int))(g:Int):List Int:=bu (Ni c l g) c.aB.length
def O3(s:Int×Int)(n:Int):Int×Int:=if s.2<s.1 then (n,n) else (min s.1 n,max s.2 n)
end Go.Proofs.YtnncgmimhdplfaaGreat.P
namespace Go.Proofs.YtnncgmimhdplfaaGreat.P
open Go.aq
end Go.Proofs.YtnncgmimhdplfaaGreat.P
namespace Go.Proofs.YtnncgmimhdplfaaGreat.P
open Go.aq
def ji(c:Case)(aI:List Int)(p:List Int)(l:List (List Int)):Bool:=l.any (O0 c aI (dD c p))
def mB(c:Case)(aI:List Int):Bool:=(cO c).any fun p=>ji c aI p (bM c)
def O4(q:List Int→Bool)(n:Nat):Nat→Option (List Int)
 |0=>none
 |m+1=>(O4 q n m).or ((E5 m 0 n).find? q)
def O5(c:Case):Int:=if bh c=0∧cO c=[] then 9 else bh c
def aaL(c:Case):List Int×Int:=if O5 c≠0 then ([],O5 c) else
 (match O4 (mB c) c.seen.length c.seen.length with
   |some l=>l
   |none=>(E5 c.seen.length 0 c.seen.length).getD 0 [],0)
end Go.Proofs.YtnncgmimhdplfaaGreat.P
namespace Go.Proofs.YtnncgmimhdplfaaGreat.P
open Go.aq
theorem acS(c:Case)(g x:Int)(hl:(c.seen.length+1)*16≤140737488355328):aed Tryz.prog 15 [cj c,gG (g,x)] (cj (eW c g x)):=by
 refine pc t15 (by simp) fun _=> ?_
 have em:cj (eW c g x)=.agg [I c.run,.slice 3 (c.aB.map gY) 0,.slice 3 (c.an.map ia) 0,I c.aA,.slice 2 (c.seen.map gG++[.agg [I g,I x]]) 0]:=by simp[eW]
 rw[em]
 simp -implicitDefEqProofs [Jz]
 intro b2 b4 hne
 have wz:¬b2=b4:=fun e=>hne e.symm
 simp -implicitDefEqProofs [wz]
 refine⟨by omega,by omega,by omega,by omega,?_⟩
 simp -implicitDefEqProofs [hne,JA]
end Go.Proofs.YtnncgmimhdplfaaGreat.P
namespace Go.Proofs.YtnncgmimhdplfaaGreat.P
open Go.aq
theorem FZ{c:Case}(p:List Int){q:Nat}(hq:q<c.aA.toNat):(dD c p).getD q []=fQ c p q c.aB.length:=by simp[dD,iS,hq]
theorem wC{c:Case}{p:List Int}{q k:Nat}{s:Int}:s∈fQ c p q k↔0≤s∧s<k∧fP c p q s.toNat p.length=true:=by
 unfold fQ
 rw[List.mem_map]
 constructor
 ·rintro⟨j,hj,rfl⟩
  rw[List.mem_filter,List.mem_range] at hj
  exact⟨by omega,by omega,by simpa using hj.2⟩
 ·rintro⟨h1,h2,h3⟩
  refine⟨s.toNat,?_,by omega⟩
  rw[List.mem_filter,List.mem_range]
  exact⟨by omega,h3⟩
theorem F0{c:Case}{o:List Int}:o∈aeh c↔∃p,(p,o)∈aH c 0:=by
 unfold aeh nT
 rw[List.mem_filter,List.any_eq_true]
 constructor
 ·rintro⟨ho,p,hp,hf⟩;exact⟨p,wm.2 ⟨hp,ho,hf⟩⟩
 ·rintro⟨p,hx⟩
  have:=wm.1 hx
  exact⟨this.2.1,p,this.1,this.2.2⟩
theorem acT{c:Case}:aeh c=[]↔aH c 0=[]:=by
 rw[List.eq_nil_iff_forall_not_mem,List.eq_nil_iff_forall_not_mem]
 constructor
 ·rintro hh ⟨p,o⟩ hx;exact hh o (F0.2 ⟨p,hx⟩)
 ·intro hh o ho
  obtain⟨p,hx⟩:=F0.1 ho
  exact hh _ hx
end Go.Proofs.YtnncgmimhdplfaaGreat.P
namespace Go.Proofs.YtnncgmimhdplfaaGreat.P
open Go.aq
structure Span (P:Int→Prop) (lo hi:Int):Prop where
 F1:P lo
 ahF:P hi
 all:∀n,P n→lo≤n∧n≤hi
theorem O6{P Q:Int→Prop}{a b:Int}(h:∀n,P n↔Q n)(hs:Span P a b):Span Q a b:=⟨(h a).1 hs.F1,(h b).1 hs.ahF,fun n hn=>hs.all n ((h n).2 hn)⟩
def s_(P:Int→Prop)(e:Ends):Prop:=(e.met=0∧∀m,¬P m)∨(e.met≠0∧Span P e.lo e.hi)
def ta(P:Int→Prop)(s:Int×Int):Prop:=(s.2<s.1∧∀m,¬P m)∨(¬s.2<s.1∧Span P s.1 s.2)
theorem s_.congr{P Q:Int→Prop}{e:Ends}(hc:∀n,P n↔Q n)(h:s_ P e):s_ Q e:=by
 rcases h with ⟨h1,h2⟩|⟨h1,h2⟩
 ·exact .inl ⟨h1,fun m hm=>h2 m ((hc m).2 hm)⟩
 ·exact .inr ⟨h1,O6 hc h2⟩
theorem ta.congr{P Q:Int→Prop}{e:Int×Int}(hc:∀n,P n↔Q n)(h:ta P e):ta Q e:=by
 rcases h with ⟨h1,h2⟩|⟨h1,h2⟩
 ·exact .inl ⟨h1,fun m hm=>h2 m ((hc m).2 hm)⟩
 ·exact .inr ⟨h1,O6 hc h2⟩
theorem O7{P:Int→Prop}{a b:Int}(n:Int)(h:Span P a b):Span (fun m=>P m∨m=n) (min a n) (max b n):=by
 refine⟨?_,?_,fun m hm=> ?_⟩
 ·by_cases hh:a≤n
  ·rw[Int.min_eq_left hh];exact .inl h.F1
  ·rw[Int.min_eq_right (by omega)];exact .inr rfl
 ·by_cases hh:n≤b
  ·rw[Int.max_eq_left hh];exact .inl h.ahF
  ·rw[Int.max_eq_right (by omega)];exact .inr rfl
 ·rcases hm with hm|rfl
  ·have:=h.all m hm;omega
  ·omega
theorem O8{P:Int→Prop}(n:Int)(h:∀m,¬P m):Span (fun m=>P m∨m=n) n n:=⟨.inr rfl,.inr rfl,fun m hm=>by
 rcases hm with hm|rfl
 ·exact absurd hm (h m)
 ·omega⟩
theorem s_.add{P:Int→Prop}{e:Ends}(n:Int)(h:s_ P e):s_ (fun m=>P m∨m=n) (e.add n):=by
 refine .inr ⟨by rw[zO];omega,?_⟩
 unfold Ends.add
 rcases h with ⟨h1,h2⟩|⟨h1,h2⟩
 ·rw[if_pos h1];exact O8 n h2
 ·rw[if_neg h1];exact O7 n h2
theorem ta.add{P:Int→Prop}{s:Int×Int}(n:Int)(h:ta P s):ta (fun m=>P m∨m=n) (O3 s n):=by
 unfold O3
 rcases h with ⟨h1,h2⟩|⟨h1,h2⟩
 ·rw[if_pos h1];exact .inr ⟨by simp,O8 n h2⟩
 ·rw[if_neg h1];exact .inr ⟨by show¬max s.2 n<min s.1 n;omega,O7 n h2⟩
end Go.Proofs.YtnncgmimhdplfaaGreat.P
namespace Go.Proofs.YtnncgmimhdplfaaGreat.P
open Go.aq
theorem acU:((List.range 6).all fun g=>decide (0<(aeN g g).length))=true:=by decide+kernel
theorem O9{c:Case}(h:c.OK):bM c≠[]:=by
 have hg:=h.aA
 have:=of_decide_eq_true (List.all_eq_true.1 acU c.aA.toNat (by simp;omega))
 exact List.ne_nil_of_length_pos this
end Go.Proofs.YtnncgmimhdplfaaGreat.P
namespace Go.Proofs.YtnncgmimhdplfaaGreat.P
open Go.aq
theorem tc(g s:Int):aed Tryz.prog 42 [I g,I s] (gG (g,s)):=by
 refine pc t42 (by simp) fun _=> ?_
 simp -implicitDefEqProofs [J2,J3]
theorem nX(a b:Int):aed Tryz.prog 45 [I a,I b] (oX a b):=by
 refine pc t45 (by simp) fun _=> ?_
 simp -implicitDefEqProofs [J6,J7]
def bS(more:List (Int×Int)):Case:=⟨10,[⟨⟨#[104,111,114,110]⟩,1600,1602⟩,⟨⟨#[112,111,116]⟩,1605,1605⟩,⟨⟨#[103,114,97,112,101,115]⟩,1603,1610⟩],[⟨0,15,16⟩,⟨1,10,10⟩,⟨2,8,9⟩],3,[(0,1),(1,0)]++more⟩
theorem O_(more:List (Int×Int))(hl:more.length≤9):aed Tryz.prog 36 [.slice 2 (more.map gG) 0] (cj (bS more)):=by
 refine pc t36 (by simp) fun _=> ?_
 have c1:=nX 1600 1602
 have c2:=nX 1605 1605
 have c3:=nX 1603 1610
 have c4:=nX 15 16
 have c5:=nX 10 10
 have c6:=nX 8 9
 have c7:=tc 0 1
 have c8:=tc 1 0
 simp -implicitDefEqProofs [m36]
 intro b
 refine aj c1 ?_
 simp -implicitDefEqProofs
 refine aj c2 ?_
 simp -implicitDefEqProofs
 refine aj c3 ?_
 simp -implicitDefEqProofs
 refine aj c4 ?_
 simp -implicitDefEqProofs
 refine aj c5 ?_
 simp -implicitDefEqProofs
 refine aj c6 ?_
 simp -implicitDefEqProofs
 refine aj c7 ?_
 simp -implicitDefEqProofs
 refine aj c8 ?_
 simp -implicitDefEqProofs [JY,bS]
 omega
theorem acV:sEq=fun p q=>p.data.toList==q.data.toList:=by
 funext p q
 unfold sEq
 rw[qe,qe]
theorem acW:∀j<3,aeE (bS []) j=0:=by
 unfold aeE dx
 rw[acV]
 decide+kernel
theorem acX:∀j<3,e_ (bS []) j=0:=by decide+kernel
theorem Pa(more:List (Int×Int))(hl:more.length≤6)(hm:∀j<2+more.length,eG (bS more) j=0):cC (bS more)=(0,0,0):=by
 refine v9 ⟨by simp[bS],by simp[bS],?_,by simp[bS],?_⟩ (by simp[bS]) (by simp[bS];omega) (fun j hj=>hm j (by simp[bS] at hj;omega))
 ·intro j hj
  exact acW j (by simpa[bS] using hj)
 ·intro j hj
  exact acX j (by simpa[bS] using hj)
abbrev jU:List (Int×Int):=[(0,0),(0,2)]
theorem agI:bh (bS [])=0:=by rw[bh,Pa [] (by simp) (by decide+kernel)]
theorem Pb:bh (bS jU)=0:=by rw[bh,Pa jU (by simp) (by decide+kernel)]
theorem Pc:aeh (bS [])=[[1,0,2],[1,2,0],[2,1,0]]:=by decide+kernel
theorem acY:aeh (bS jU)=[]:=by decide+kernel
theorem acZ:mM (bS [])=([[1,0,2],[1,2,0],[2,1,0]],0):=by
 unfold mM
 rw[agI,Pc];rfl
theorem ac0:mM (bS jU)=([],8):=by
 unfold mM
 rw[Pb,acY];rfl
theorem ac1:wo (bS []) 0 1=(2,0):=by
 unfold wo
 rw[agI,Pc]
 decide+kernel
theorem ac2:decide (aH (bS []) 0=[])=false:=by decide+kernel
theorem zV:aH (bS []) 0≠[]:=of_decide_eq_false ac2
theorem Pd:bJ (kK (bS []) 1 (aH (bS []) 0))=[0]∧bJ (aeX (bS []) 1 (aH (bS []) 0))=[0,1]:=by decide+kernel
theorem ac3:s5 (bS []) 1=([0],[0,1],0):=by
 unfold s5
 rw[agI,if_neg (by simp),if_neg (by decide+kernel),if_neg zV,Pd.1,Pd.2]
theorem ac4:jT (bS [])=⟨3,5,3,3,0⟩:=by
 unfold jT
 rw[agI,if_neg (by simp),if_neg zV]
 have:(dN (leftOf (bS [])) (aH (bS []) 0)).lo=3∧(dN (leftOf (bS [])) (aH (bS []) 0)).hi=5∧(dN (jn (bS [])) (aH (bS []) 0)).lo=3∧(dN (jn (bS [])) (aH (bS []) 0)).hi=3:=by decide+kernel
 rw[this.1,this.2.1,this.2.2.1,this.2.2.2]
theorem ac5:nW (bS [])=⟨1605,1610,0⟩:=by
 unfold nW
 rw[agI,if_neg (by simp),if_neg zV]
 have:(gq (bS []) (aH (bS []) 0)).lo=1605∧(gq (bS []) (aH (bS []) 0)).hi=1610:=by decide+kernel
 rw[this.1,this.2]
theorem ac6:s7 (bS jU)=([2],0):=by
 unfold s7
 rw[Pb,if_neg (by simp)]
 have:aeT (gZ (bS jU)) (2^(bS jU).seen.length)=some 4:=by decide+kernel
 rw[this]
 have:bJ 4=[2]:=by decide+kernel
 show(bJ 4,(0:Int))=_
 rw[this]
theorem ac7:qQ (bS [])=⟨2,2,0⟩:=by
 unfold qQ
 rw[agI,if_neg (by simp),if_neg zV]
 have:iq (bS []) (bS []).aA.toNat=(2,2):=by decide+kernel
 rw[this]
theorem ac8:aed Tryz.prog 7 [] (B true):=by
 refine pc t7 (by simp) fun _=> ?_
 have k0:aed Tryz.prog 36 [.slice 2 [] 0] (cj (bS [])):=O_ [] (by simp)
 have k1:aed Tryz.prog 36 [.slice 2 (jU.map gG) 0] (cj (bS jU)):=O_ jU (by simp)
 have q1:=FN (bS [])
 have q2:=acu (bS []) 0 1
 have q3:=acy (bS []) 1
 have q4:=acz (bS [])
 have q5:=acC (bS [])
 have q6:=acD (bS jU)
 have q7:=acJ (bS [])
 have q8:=FN (bS jU)
 rw[acZ] at q1
 rw[ac1] at q2
 rw[ac3] at q3
 rw[ac4] at q4
 rw[ac5] at q5
 rw[ac6] at q6
 rw[ac7] at q7
 rw[ac0] at q8
 generalize bS []=c at*
 generalize bS jU=d at*
 have s1:=tc 0 0
 have s2:=tc 0 2
 simp -implicitDefEqProofs [m7]
 refine aj k0 ?_
 simp -implicitDefEqProofs
 intro b1
 refine aj q1 ?_
 simp -implicitDefEqProofs
 refine aj q2 ?_
 simp -implicitDefEqProofs
 refine aj q3 ?_
 simp -implicitDefEqProofs
 refine aj q4 ?_
 simp -implicitDefEqProofs
 intro b9 b10 h10
 have n:¬b10=b9:=by rintro rfl;simp at h10
 simp -implicitDefEqProofs [n]
 refine aj q5 ?_
 simp -implicitDefEqProofs
 intro lM h12
 refine aj s1 ?_
 simp -implicitDefEqProofs
 refine aj s2 ?_
 simp -implicitDefEqProofs
 refine aj k1 ?_
 simp -implicitDefEqProofs
 refine aj q6 ?_
 simp -implicitDefEqProofs
 refine aj q7 ?_
 simp -implicitDefEqProofs
 refine aj s1 ?_
 simp -implicitDefEqProofs
 refine aj s2 ?_
 simp -implicitDefEqProofs
 refine aj k1 ?_
 simp -implicitDefEqProofs
 refine aj q8 ?_
 simp -implicitDefEqProofs
 refine aj (MK [[1,0,2],[1,2,0],[2,1,0]] [[1,0,2],[1,2,0],[2,1,0]]) ?_
 simp -implicitDefEqProofs
 refine aj (sy [0] [0]) ?_
 simp -implicitDefEqProofs
 refine aj (sy [0,1] [0,1]) ?_
 simp -implicitDefEqProofs
 refine aj (nX 3 5) ?_
 simp -implicitDefEqProofs
 refine aj (nX 3 3) ?_
 simp -implicitDefEqProofs
 refine aj (nX 1605 1610) ?_
 simp -implicitDefEqProofs
 refine aj (sy [2] [2]) ?_
 simp -implicitDefEqProofs [r7]
end Go.Proofs.YtnncgmimhdplfaaGreat.P
namespace Go.Proofs.YtnncgmimhdplfaaGreat.P
open Go.aq
abbrev D_(n:Int):Prop:=IntKind.min .i64≤n∧n≤IntKind.max .i64
theorem ku{pl:Bool}:Rd Tryz.prog pl 3 I D_:=by
 cases pl
 ·exact(Rd.int Tryz.underlying3).loose
 ·exact Rd.int Tryz.underlying3
theorem vG{pl:Bool}:Rd Tryz.prog pl 9 S (fun s=>s.size≤140737488355328):=by
 cases pl
 ·exact(Rd.string Tryz.underlying9).loose
 ·exact Rd.string Tryz.underlying9
abbrev ac9(p:Int×Int):AV:=oX p.1 p.2
theorem Pe{pl:Bool}:Rd Tryz.prog pl 56 ac9 (fun _=>True):=(Rd.struct (tot:=2) Tryz.underlying56 rfl (by kernel_rfl) (bZ.cons rfl (by kernel_rfl) ku (bZ.cons rfl (by kernel_rfl) ku bZ.nil))).map (fun x=>(x.1,x.2.1)) (fun _=>rfl) (fun _ _=>trivial)
theorem ac_:Rd Tryz.prog true 83 gY (fun _=>True):=(Rd.struct (tot:=3) Tryz.underlying83 rfl (by kernel_rfl) (bZ.cons rfl (by kernel_rfl) vG (bZ.cons rfl (by kernel_rfl) Pe bZ.nil))).map (fun x=>⟨x.1,x.2.1.1,x.2.1.2⟩) (fun _=>rfl) (fun _ _=>trivial)
theorem ada:Rd Tryz.prog true 86 ia (fun _=>True):=(Rd.struct (tot:=3) Tryz.underlying86 rfl (by kernel_rfl) (bZ.cons rfl (by kernel_rfl) ku (bZ.cons rfl (by kernel_rfl) Pe bZ.nil))).map (fun x=>⟨x.1,x.2.1.1,x.2.1.2⟩) (fun _=>rfl) (fun _ _=>trivial)
theorem adb{pl:Bool}:Rd Tryz.prog pl 70 gG (fun _=>True):=(Rd.struct (tot:=2) Tryz.underlying70 rfl (by kernel_rfl) (bZ.cons rfl (by kernel_rfl) ku (bZ.cons rfl (by kernel_rfl) ku bZ.nil))).map (fun x=>(x.1,x.2.1)) (fun _=>rfl) (fun _ _=>trivial)
theorem ade:Rd Tryz.prog false 30 cj (fun c=>c.seen.length*16≤140737488351232):=
 (Rd.struct (tot:=5) Tryz.underlying30 rfl (by kernel_rfl) (bZ.cons rfl (by kernel_rfl) ku (bZ.cons rfl (by kernel_rfl) (Rd.slice Tryz.underlying26 (of_decide_eq_true (by kernel_rfl)) (by kernel_rfl) ac_)
   (bZ.cons rfl (by kernel_rfl) (Rd.slice Tryz.underlying27 (of_decide_eq_true (by kernel_rfl)) (by kernel_rfl) ada) (bZ.cons rfl (by kernel_rfl) ku
   (bZ.cons rfl (by kernel_rfl) (Rd.sliceB Tryz.underlying28 (of_decide_eq_true (by kernel_rfl)) (by kernel_rfl) adb) bZ.nil)))))).map (fun x=>⟨x.1,x.2.1,x.2.2.1,x.2.2.2.1,x.2.2.2.2.1⟩) (fun _=>rfl) (fun x h=>by
     have h2:=h.2.2.2.2.1.2.1
     rwa [show Tryz.prog.bytesOf 70=16 by kernel_rfl] at h2)
abbrev U(n:Int):AV:=.lit (.int .u16 n)
abbrev V(n:Int):AV:=.lit (.int .u8 n)
theorem zf{pl:Bool}:Rd Tryz.prog pl 36 U (fun n=>0≤n∧n≤65535):=by
 have h:Rd Tryz.prog true 36 U (fun n=>0≤n∧n≤65535):=(Rd.int Tryz.underlying36).map id (fun _=>rfl) (fun _ h=>h)
 cases pl
 ·exact h.loose
 ·exact h
abbrev US(l:List Int):AV:=.slice 1 (l.map U) 0
abbrev gW(l:List Int):Prop:=∀x∈l,0≤x∧x≤65535
theorem oV:Rd Tryz.prog false 31 US (fun l=>gW l∧l.length≤140737488355328):=(Rd.slice Tryz.underlying31 (of_decide_eq_true (by kernel_rfl)) (by kernel_rfl) zf).map id (fun _=>rfl) (fun _ h=>⟨h.2,h.1⟩)
structure cc where
 dc:List Int
 years:List Int
 looked:List Int
structure cc.OK (x:cc):Prop where
 dc:gW x.dc∧x.dc.length≤140737488355328
 years:gW x.years∧x.years.length≤140737488355328
 looked:gW x.looked∧x.looked.length≤140737488355328
abbrev wD(x:cc):AV:=.agg [US x.dc,US x.years,US x.looked]
theorem EP:Rd Tryz.prog false 33 wD cc.OK:=(Rd.struct (tot:=3) Tryz.underlying33 rfl (by kernel_rfl) (bZ.cons rfl (by kernel_rfl) oV (bZ.cons rfl (by kernel_rfl) oV (bZ.cons rfl (by kernel_rfl) oV bZ.nil)))).map (fun x=>⟨x.1,x.2.1,x.2.2.1⟩) (fun _=>rfl) (fun _ h=>⟨h.1,h.2.1,h.2.2.1⟩)
end Go.Proofs.YtnncgmimhdplfaaGreat.P
namespace Go.Proofs.YtnncgmimhdplfaaGreat.P
open Go.aq
def eO(l:List Int)(n:Nat):Int:=if l=[] then 0 else l.getD (n%l.length) 0
theorem F3{l:List Int}(h:gW l)(n:Nat):0≤eO l n∧eO l n≤65535:=by
 unfold eO
 split
 ·simp
 ·rename_i hn
  have hl:=List.length_pos_iff.2 hn
  have hi:=Nat.mod_lt n hl
  rw[show l.getD (n%l.length) 0=l[n%l.length] by simp[hi]]
  exact h _ (List.getElem_mem hi)
theorem zW{n:Int}(h:0≤n∧n≤65535):IntKind.wrap .i64 n=n:=by
 simp[IntKind.wrap,IntKind.bits,IntKind.signed]
 omega
theorem Pf{l:List Int}(h:gW l)(hl:l.length≤140737488355328)(n:Nat)(hn:n<1000000):aed Tryz.prog 48 [US l,I n] (I (eO l n)):=by
 refine pc t48 (by simp) fun _=> ?_
 have hR:eO l n=if l=[] then 0 else l.getD (n%l.length) 0:=rfl
 have we:=F3 h n
 generalize eO l n=R at*
 simp -implicitDefEqProofs [Ka]
 by_cases hz:l=[]
 ·rw[if_pos hz] at hR
  simp -implicitDefEqProofs [hz,C0,hR]
 ·rw[if_neg hz] at hR
  have hlp:=List.length_pos_iff.2 hz
  have hi:=Nat.mod_lt n hlp
  have dQ:((l.length:Int)==0)=false:=by simp;exact hz
  have hm:=gE n l.length
  have hl0:¬l.length=0:=by omega
  have v1:(n:Int)%(l.length:Int)=((n%l.length:Nat):Int):=rfl
  have hg:l.getD (n%l.length) 0=l[n%l.length]:=by simp[hi]
  rw[hg] at hR
  rw[hR] at we
  have hw:=zW we
  generalize n%l.length=k at*
  simp -implicitDefEqProofs [dQ,hz,hl0,hm,v1,hi,hw,C0,hR]
theorem adf{c:Case}(h:bh c=0):nQ c∧(1≤c.aA∧c.aA≤5)∧¬(8:Int)<c.seen.length∧∀j<c.seen.length,eG c j=0:=by
 have h:(cC c).2.2=0:=h
 by_cases h1:1≤c.run∧c.run≤500
 case neg=>rw[zo h1] at h;cases h
 by_cases h2:1≤(c.aB.length:Int)∧(c.aB.length:Int)≤4
 case neg=>rw[zq h1 h2] at h;cases h
 unfold cC at h
 rw[if_neg (not_not_intro h1),if_neg (not_not_intro h2)] at h
 cases h3:errs (aeE c) c.aB.length with
 |some p=>rw[h3] at h;exact absurd h (sV (i:=p.1) (e:=p.2) h3)
 |none=>
 rw[h3] at h
 have h3:=sU h3
 simp only at h
 by_cases h4:1≤(c.an.length:Int)∧(c.an.length:Int)≤4
 case neg=>rw[if_pos h4] at h;cases h
 rw[if_neg (not_not_intro h4)] at h
 cases h5:errs (e_ c) c.an.length with
 |some p=>rw[h5] at h;exact absurd h (sV (i:=p.1) (e:=p.2) h5)
 |none=>
 rw[h5] at h
 have h5:=sU h5
 simp only at h
 by_cases h6:1≤c.aA∧c.aA≤5
 case neg=>rw[if_pos h6] at h;cases h
 rw[if_neg (not_not_intro h6)] at h
 by_cases h7:(8:Int)<c.seen.length
 case pos=>rw[if_pos h7] at h;cases h
 rw[if_neg h7] at h
 cases h8:errs (eG c) c.seen.length with
 |some p=>rw[h8] at h;exact absurd h (sV (i:=p.1) (e:=p.2) h8)
 |none=>exact⟨⟨h1,h2,h3,h4,h5⟩,h6,h7,sU h8⟩
def qR(c:Case)(l:List (Int×Int)):Case:={c with seen:=l}
theorem adg{c:Case}(l:List (Int×Int))(h:nQ c):nQ (qR c l):=⟨h.h1,h.h2,h.h3,h.h4,h.h5⟩
theorem Pg{c:Case}(h:bh c=0){l:List (Int×Int)}(h8:l.length≤8)(hl:∀x∈l,(0≤x.1∧x.1<c.aA)∧0≤x.2∧x.2<c.aB.length):bh (qR c l)=0:=by
 obtain⟨h1,h2,-,-⟩:=adf h
 have h3:cC (qR c l)=(0,0,0):=v9 (adg l h1) h2 (by show¬(8:Int)<l.length;omega) fun j hj=>by
  have hj:j<l.length:=hj
  have hx:=hl _ (List.getElem_mem hj)
  unfold eG
  have e:(qR c l).seen.getD j (0,0)=l[j]:=by simp[qR,hj]
  rw[e,if_pos]
  exact⟨⟨hx.1.1,by show l[j].1≤c.aA - 1;omega⟩,hx.2.1,by show l[j].2≤(c.aB.length:Int) - 1;omega⟩
 rw[bh,h3]
end Go.Proofs.YtnncgmimhdplfaaGreat.P
namespace Go.Proofs.YtnncgmimhdplfaaGreat.P
open Go.aq
def iU(c:Case)(x:cc):List Int×List Int:=((cO c).getD ((eO x.dc 0).toNat%(cO c).length) [],(bM c).getD ((eO x.dc 1).toNat%(bM c).length) [])
theorem F4{c:Case}(h:c.OK)(x:cc)(hp:cO c≠[]):(iU c x).1∈cO c∧(iU c x).2∈bM c:=by
 have h1:=List.length_pos_iff.2 hp
 have h2:=List.length_pos_iff.2 (O9 h)
 have i1:=Nat.mod_lt (eO x.dc 0).toNat h1
 have i2:=Nat.mod_lt (eO x.dc 1).toNat h2
 unfold iU
 constructor
 ·show(cO c).getD _ []∈cO c
  rw[show(cO c).getD ((eO x.dc 0).toNat%(cO c).length) []=(cO c)[(eO x.dc 0).toNat%(cO c).length] by simp[i1]]
  exact List.getElem_mem i1
 ·show(bM c).getD _ []∈bM c
  rw[show(bM c).getD ((eO x.dc 1).toNat%(bM c).length) []=(bM c)[(eO x.dc 1).toNat%(bM c).length] by simp[i2]]
  exact List.getElem_mem i2
abbrev F5:AV:=.agg [.slice 1 [] 0,.slice 1 [] 0,.slice 1 [] 0]
abbrev zX(c:Case)(x:cc):AV:=if cO c=[] then .tuple [F5,B false] else .tuple [zT c (iU c x),B true]
theorem adh{c:Case}(h:c.OK){x:cc}(hx:x.OK):aed Tryz.prog 8 [cj c,wD x] (zX c x):=by
 refine pc t8 (by simp) fun _=> ?_
 have hp:=abp c h
 have hg:=h.aA
 obtain⟨g,v8⟩:∃g:Nat,c.aA=g:=⟨c.aA.toNat,by omega⟩
 have hgt:c.aA.toNat=g:=by omega
 have hall:=yX g (by omega)
 have hall:aed Tryz.prog 47 [I c.aA] (cu (bM c)):=by
  have e:bM c=aeN g g:=by unfold bM;rw[hgt]
  rw[e,v8];exact hall
 have t0:=Pf hx.dc.1 hx.dc.2 0 (by omega)
 have t1:=Pf hx.dc.1 hx.dc.2 1 (by omega)
 have z0:=F3 hx.dc.1 0
 have z1:=F3 hx.dc.1 1
 have j3:cO c≠[]→aed Tryz.prog 49 [cj c,IL (iU c x).1] (cu (dD c (iU c x).1)):=fun hn=>abq c h _ (oY h (F4 h x hn).1)
 have Ph:=O9 h
 obtain⟨R,qS⟩:∃R,R=zX c x:=⟨_,rfl⟩
 rw[←qS]
 simp -implicitDefEqProofs [m8]
 intro b4
 refine aj hp ?_
 simp -implicitDefEqProofs
 refine aj hall ?_
 by_cases hz:cO c=[]
 ·have qS:R=.tuple [F5,B false]:=qS.trans (if_pos hz)
  simp -implicitDefEqProofs [hz,r8,qS]
 ·have j3:=j3 hz
  have l1:=List.length_pos_iff.2 hz
  have l2:=List.length_pos_iff.2 Ph
  have i1:=Nat.mod_lt (eO x.dc 0).toNat l1
  have i2:=Nat.mod_lt (eO x.dc 1).toNat l2
  have a1:(iU c x).1=(cO c)[(eO x.dc 0).toNat%(cO c).length]:=by simp[iU,i1]
  have a2:(iU c x).2=(bM c)[(eO x.dc 1).toNat%(bM c).length]:=by simp[iU,i2]
  have qS:R=.tuple [zT c (iU c x),B true]:=qS.trans (if_neg hz)
  generalize iU c x=t at*
  obtain⟨p,o⟩:=t
  simp only at a1 a2 j3
  obtain⟨u0,hu0⟩:∃u:Nat,eO x.dc 0=u:=⟨(eO x.dc 0).toNat,by omega⟩
  obtain⟨u1,hu1⟩:∃u:Nat,eO x.dc 1=u:=⟨(eO x.dc 1).toNat,by omega⟩
  have t0:aed Tryz.prog 48 [US x.dc,I 0] (I u0):=by rw[←hu0];exact t0
  have t1:aed Tryz.prog 48 [US x.dc,I 1] (I u1):=by rw[←hu1];exact t1
  have e0:(eO x.dc 0).toNat=u0:=by omega
  have e1:(eO x.dc 1).toNat=u1:=by omega
  simp only[e0] at i1 a1
  simp only[e1] at i2 a2
  have q0:=gE u0 (cO c).length
  have q1:=gE u1 (bM c).length
  have v0:(u0:Int)%((cO c).length:Int)=((u0%(cO c).length:Nat):Int):=rfl
  have v1:(u1:Int)%((bM c).length:Int)=((u1%(bM c).length:Nat):Int):=rfl
  have dQ:(((cO c).length:Int)==0)=false:=by simp;exact hz
  obtain⟨k0,gQ,j1,b1⟩:∃k0,u0%(cO c).length=k0∧∃h:k0<(cO c).length,p=(cO c)[k0]'h:=⟨_,rfl,i1,a1⟩
  obtain⟨k1,jY,j2,b2⟩:∃k1,u1%(bM c).length=k1∧∃h:k1<(bM c).length,o=(bM c)[k1]'h:=⟨_,rfl,i2,a2⟩
  clear a1 a2 i1 i2
  rw[gQ] at q0 v0
  rw[jY] at q1 v1
  simp -implicitDefEqProofs [dQ]
  refine aj t0 ?_
  simp -implicitDefEqProofs [hz,q0,v0,j1,←b1]
  refine aj t1 ?_
  simp -implicitDefEqProofs [Ph,q1,v1,j2,←b2]
  refine aj j3 ?_
  simp -implicitDefEqProofs [r8,qS]
def qB(P:Program)(ms:List MOp)(K:St→Prop)(s:St)(aO sz off b:Nat):Option (List AV)→Prop
 |some cs=>off<cs.length∧vcs P ms K ((s.aT aO).new b ((cs.map (aC aO)).set off (.slice sz [] aO)))
 |none=>False
def F6(P:Program)(ms:List MOp)(K:St→Prop)(s:St)(aO sz:Nat):AV→Prop
 |.au b off=>qB P ms K s aO sz off b (s.loc b)
 |_=>False
theorem EA(P:Program)(ms:List MOp)(K:St→Prop)(s:St)(x:ai)(sz aO:Nat):vcs P (.jV x sz aO::ms) K s=F6 P ms K s aO sz (x.ev s.env):=by unfold F6 qB;rfl
attribute [simp] EA F6 qB
def wE(c:Case)(t:List Int×List Int)(bits n a b:Nat):Int:=
 let q:=a%t.2.length
 let l:=(dD c t.1).getD q []
 let s:=l.getD (b%l.length) 0
 if bits.testBit n then ((s.toNat+1)%c.aB.length:Nat) else s
def mP(c:Case)(t:List Int×List Int)(bits:Nat)(l:List Int)(j:Nat):Int×Int:=(t.2.getD ((l.getD (2*j) 0).toNat%t.2.length) 0,wE c t bits j (l.getD (2*j) 0).toNat (l.getD (2*j+1) 0).toNat)
def lT(c:Case)(t:List Int×List Int)(bits:Nat)(l:List Int)(k:Nat):List (Int×Int):=(List.range k).map (mP c t bits l)
theorem adi(c:Case)(t:List Int×List Int)(bits:Nat)(l:List Int)(k:Nat):lT c t bits l (k+1)=lT c t bits l k++[mP c t bits l k]:=by simp[lT,List.range_succ]
theorem F7(c:Case)(t:List Int×List Int)(bits:Nat)(l:List Int)(k:Nat):(lT c t bits l k).length=k:=by simp[lT]
def tf(l:List Int):Nat:=min 8 (l.length / 2)
def gr(c:Case)(t:List Int×List Int)(x:cc)(bits:Nat):Case:=qR c (lT c t bits x.looked (tf x.looked))
theorem F8{c:Case}(h:c.OK){p:List Int}(hp:p∈cO c){q:Nat}(hq:q<c.aA.toNat):fQ c p q c.aB.length≠[]:=by
 have hpo:=oY h hp
 have iT:=((EX h).1 hp).2
 have hrun:=h.run
 have hg:=h.aA
 have jW:((q:Int)+1)*c.run≤p.sum:=by
  refine Int.le_trans ?_ iT
  rw[Int.mul_comm]
  exact Int.mul_le_mul_of_nonneg_left (by omega) (by omega)
 have pK:0≤(q:Int)*c.run:=Int.mul_nonneg (by omega) (by omega)
 have hq2:((q:Int)+1)*c.run=(q:Int)*c.run+c.run:=by rw[Int.add_mul];omega
 have key:∀k,k≤p.length→(q:Int)*c.run<(p.take k).sum→∃i,i<k∧(p.take i).sum≤(q:Int)*c.run∧(q:Int)*c.run<(p.take (i+1)).sum:=by
  intro k
  induction k with
  |zero=>intro _ h;simp at h;omega
  |succ k ih=>
   intro hk hs
   by_cases hh:(q:Int)*c.run<(p.take k).sum
   ·obtain⟨i,h1,h2⟩:=ih (by omega) hh
    exact⟨i,by omega,h2⟩
   ·exact⟨k,by omega,by omega,hs⟩
 obtain⟨i,h1,h2,h3⟩:=key p.length (Nat.le_refl _) (by rw[List.take_length];omega)
 have qK:i<c.an.length:=by rw[←hpo.len];exact h1
 have hr:=h.nN qK
 have hs:(p.take i).sum+p[i]=(p.take (i+1)).sum:=by rw[ael h1,List.sum_append];simp
 have hc:mJ c p q i=true:=by
  unfold mJ
  rw[show p.getD i 0=p[i] by simp[h1],Bool.and_eq_true,decide_eq_true_eq,decide_eq_true_eq]
  constructor<;>omega
 refine List.ne_nil_of_mem (a:=c.an[i].dA) (wC.2 ⟨hr.1,hr.2.1,?_⟩)
 unfold fP
 rw[List.any_eq_true]
 refine⟨i,by simpa using h1,?_⟩
 unfold sR
 rw[hc,Bool.and_true,decide_eq_true_eq]
 simp[qK]
 omega
theorem adj:∀b:Nat,b<256→∀k:Nat,k<8→((Int.fdiv (b:Int) (2^(min k (IntKind.bits .u8)))).tmod 2==1)=b.testBit k:=by decide+kernel
structure nY (c:Case) (t:List Int×List Int):Prop where
 az:t.1∈cO c
 order:t.2∈bM c
theorem nY.len{c:Case}{t:List Int×List Int}(ht:nY c t):t.2.length=c.aA.toNat:=(kE _ _ _ ht.order).1
theorem adk{c:Case}(h:c.OK){t:List Int×List Int}(ht:nY c t){x:cc}(hx:x.OK){bits:Nat}(hb:bits<256):aed Tryz.prog 13 [cj c,zT c t,wD x,V bits] (cj (gr c t x bits)):=by
 refine pc t13 (by simp) fun _=> ?_
 have hg:=h.aA
 have sS:=h.aB
 have gM:=ht.len
 have hlk:=hx.looked
 have ju:=acP c t.1
 have hps:=fun(q:Nat) (hq:q<c.aA.toNat)=>F8 h ht.az hq
 have qD:=fun(q:Nat)=>NM c t.1 q c.aB.length
 have hC:cj (gr c t x bits)=.agg [I c.run,.slice 3 (c.aB.map gY) 0,.slice 3 (c.an.map ia) 0,I c.aA,.slice 2 ((lT c t bits x.looked (tf x.looked)).map gG) 0]:=rfl
 rw[hC]
 have Pj:=adi c t bits x.looked
 have Pk:=F7 c t bits x.looked
 obtain⟨L,hL⟩:∃L,L=x.looked:=⟨_,rfl⟩
 rw[←hL] at hlk Pj Pk⊢
 have hNe:tf L=min 8 (L.length / 2):=rfl
 obtain⟨N,hN⟩:∃N,N=tf L:=⟨_,rfl⟩
 rw[←hN] at hNe⊢
 simp -implicitDefEqProofs [Jx,←hL]
 intro b4 b8 tg
 have th:¬b4=b8:=fun e=>tg e.symm
 simp -implicitDefEqProofs [th]
 refine aef N (fun k s=>s.env 3=V bits∧s.env 4=.au b4 0∧s.env 5=.ref [IL t.1,IL t.2,cu (dD c t.1)]∧s.env 6=.ref [US x.dc,US x.years,US L]∧s.env 8=.au b8 0∧s.env 9=I (2*k)∧
  s.loc b4=some [I c.run,.slice 3 (c.aB.map gY) 0,.slice 3 (c.an.map ia) 0,I c.aA,.slice 2 ((lT c t bits L k).map gG) 5004]∧
  s.loc b8=some [I 0,.slice 3 [] 9001,.slice 3 [] 9002,I 0,.slice 2 [] 9004]) ?_ ?_
 ·simp[th,tg,lT]
 rintro k s hk ⟨e3,e4,e5,e6,e8,e9,l4,l8⟩
 have ahZ:=Pk k
 obtain⟨i,hi⟩:∃i,i=2*k:=⟨_,rfl⟩
 have e9:s.env 9=I (i:Nat):=by rw[e9,hi];simp
 by_cases hlt:k<N
 ·have h1:i<L.length:=by omega
  have h2:i+1<L.length:=by omega
  have oM:(i:Int)+1<(L.length:Int):=by omega
  have h3:(k:Int)<8:=by omega
  have hto:=Pj k
  have hA:mP c t bits L k=(t.2.getD (L[i].toNat%t.2.length) 0,wE c t bits k L[i].toNat L[i+1].toNat):=by
   unfold mP
   rw[←hi,show L.getD i 0=L[i] by simp[h1],show L.getD (i+1) 0=L[i+1] by simp[h2]]
  rw[hA] at hto
  have ra:=hlk.1 _ (List.getElem_mem h1)
  have rb:=hlk.1 _ (List.getElem_mem h2)
  have wa:=zW ra
  have wb:=zW rb
  generalize hLa:L[i]=a at*
  generalize hLb:L[i+1]=b at*
  obtain⟨a,rfl⟩:∃a':Nat,a=a':=⟨a.toNat,by omega⟩
  obtain⟨b,rfl⟩:∃b':Nat,b=b':=⟨b.toNat,by omega⟩
  rw[Int.toNat_natCast,Int.toNat_natCast] at hto
  have hG:0<t.2.length:=by omega
  have hq:=Nat.mod_lt a hG
  have tq:=gE a t.2.length
  have vq:(a:Int)%(t.2.length:Int)=((a%t.2.length:Nat):Int):=rfl
  have kj:¬t.2.length=0:=by omega
  have hts:wE c t bits k a b=if bits.testBit k then ((((((dD c t.1).getD (a%t.2.length) []).getD (b%((dD c t.1).getD (a%t.2.length) []).length) 0).toNat+1)%c.aB.length:Nat):Int) else ((dD c t.1).getD (a%t.2.length) []).getD (b%((dD c t.1).getD (a%t.2.length) []).length) 0:=by rfl
  generalize hqq:a%t.2.length=q at*
  have Pn:q<c.aA.toNat:=by omega
  have Po:q<(dD c t.1).length:=by omega
  have Pp:=FZ (c:=c) t.1 Pn
  rw[Pp] at hts
  have hpq:(dD c t.1)[q]=fQ c t.1 q c.aB.length:=by rw[←Pp];simp[Po]
  have hne:=hps q Pn
  have hmem:=fun x=> @wC c t.1 q c.aB.length x
  have hlen:=qD q
  generalize fQ c t.1 q c.aB.length=ps at*
  have hP:=List.length_pos_iff.2 hne
  have hr:=Nat.mod_lt b hP
  have tr:=gE b ps.length
  have vr:(b:Int)%(ps.length:Int)=((b%ps.length:Nat):Int):=rfl
  have Ey:¬ps.length=0:=by omega
  generalize xw:b%ps.length=r at*
  rw[show ps.getD r 0=ps[r] by simp[hr]] at hts
  have hs:=(hmem ps[r]).1 (List.getElem_mem hr)
  generalize hpr:ps[r]=v at*
  obtain⟨v,rfl⟩:∃v':Nat,v=v':=⟨v.toNat,by omega⟩
  rw[Int.toNat_natCast] at hts
  have FX:=adj bits hb k (by omega)
  have ho1:t.2.getD q 0=t.2[q]:=by simp[hq]
  rw[ho1] at hto
  simp -implicitDefEqProofs [e3,e4,e5,e6,e9,l4,ahZ,h1,h2,oM,h3,hLa,hLb,wa,wb,tq,vq,kj,hq,Po,hpq,hne,tr,vr,Ey,hr,hpr,FX]
  refine⟨i64 (by omega) (by omega),by omega,?_⟩
  refine bR (fun zL=> ?_) (fun zL=> ?_)
  ·rw[if_pos zL] at hts
   have jK:¬c.aB=[]:=by intro e;rw[e] at sS;simp at sS
   have tv:((v:Int)+1).tmod (c.aB.length:Int)=(((v+1)%c.aB.length:Nat):Int):=by
    have:=gE (v+1) c.aB.length
    rw[←this];simp
   have vv:((v:Int)+1)%(c.aB.length:Int)=(((v+1)%c.aB.length:Nat):Int):=by simp
   generalize hww:(v+1)%c.aB.length=w at*
   have qD:=tc t.2[q] w
   simp -implicitDefEqProofs [e4,e5,l4,hq,jK,tv,vv]
   refine⟨i64 (by omega) (by omega),aj qD ?_⟩
   simp -implicitDefEqProofs [e4,e9,l4]
   refine⟨by omega,by omega,i64 (by omega) (by omega),aQ hlt ?_⟩
   have hi2:(i:Int)+2=2*((k:Int)+1):=by omega
   simp[e3,e4,e5,e6,e8,l8,th,tg,hto,hts,hi2]
  ·rw[if_neg (by rw[zL];simp)] at hts
   have qD:=tc t.2[q] v
   simp -implicitDefEqProofs [e4,e5,l4,hq]
   refine aj qD ?_
   simp -implicitDefEqProofs [e4,e9,l4]
   refine⟨by omega,by omega,i64 (by omega) (by omega),aQ hlt ?_⟩
   have hi2:(i:Int)+2=2*((k:Int)+1):=by omega
   simp[e3,e4,e5,e6,e8,l8,th,tg,hto,hts,hi2]
 ·obtain rfl:k=N:=by omega
  by_cases hlen:(i:Int)+1<(L.length:Int)
  ·have h3:¬(k:Int)<8:=by omega
   simp -implicitDefEqProofs [e4,e6,e9,l4,ahZ,hlen,h3,e8,l8,th,tg,CU]
   exact i64 (by omega) (by omega)
  ·simp -implicitDefEqProofs [e6,e9,hlen,e4,l4,e8,l8,th,tg,CU]
   exact i64 (by omega) (by omega)
end Go.Proofs.YtnncgmimhdplfaaGreat.P
namespace Go.Proofs.YtnncgmimhdplfaaGreat.P
open Go.aq
end Go.Proofs.YtnncgmimhdplfaaGreat.P
namespace Go.Proofs.YtnncgmimhdplfaaGreat.P
open Go.aq
theorem F9{c:Case}(h:c.OK){aI:Nat}{x:List Int×List Int}:x∈aH c aI↔x.1∈cO c∧x.2∈bM c∧Agr c aI.testBit x.1 x.2:=by
 rw[wm,vY h]
 constructor
 ·rintro⟨h1,h2,h3⟩
  exact⟨h1,h2,(NU h (oY h h1) fun y hy=>((kE _ _ _ h2).2.2 y hy).1).1 h3⟩
 ·rintro⟨h1,h2,h3⟩
  exact⟨h1,h2,(NU h (oY h h1) fun y hy=>((kE _ _ _ h2).2.2 y hy).1).2 h3⟩
theorem adl{o:List Int}(hn:o.Nodup){q:Nat}(hq:q<o.length):fS o o[q]=q:=by
 obtain⟨k,hk,h1,h2⟩:=at_mem (List.getElem_mem hq)
 rw[h1,(List.getElem_inj hn).1 h2]
theorem adm{c:Case}(he:bh c=0)(hn:aH c 0≠[]):mM c=(aeh c,0):=by
 unfold mM
 rw[if_neg (by simpa using he),if_neg fun e=>hn (acT.1 e)]
theorem adn{c:Case}{t:List Int×List Int}(ht:t∈aH c 0):t.2∈aeh c:=F0.2 ⟨t.1,ht⟩
def zY(c:Case)(g:Int)(t:List Int×List Int):List Int:=(dD c t.1).getD (fS t.2 g).toNat []
theorem Pq{c:Case}{t:List Int×List Int}{x:cc}{bits:Nat}:(gr c t x bits).seen.length=tf x.looked:=F7 _ _ _ _ _
theorem F_(l:List Int):tf l≤8:=Nat.min_le_left _ _
theorem ado{c:Case}{t:List Int×List Int}{x:cc}{bits:Nat}{i:Nat}(hi:i<(gr c t x bits).seen.length):(gr c t x bits).seen[i]=mP c t bits x.looked i:=by simp[gr,qR,lT]
theorem Pr{c:Case}(h:c.OK){t:List Int×List Int}(ht:nY c t)(bits:Nat)(l:List Int)(j:Nat):∃q,∃hq:q<t.2.length,(mP c t bits l j).1=t.2[q]∧(0≤(mP c t bits l j).2∧(mP c t bits l j).2<c.aB.length)∧(bits.testBit j=false→(mP c t bits l j).2∈fQ c t.1 q c.aB.length):=by
 have hg:=h.aA
 have sS:=h.aB
 have hl:=ht.len
 have hq:=Nat.mod_lt (l.getD (2*j) 0).toNat (show 0<t.2.length by omega)
 have ju:=FZ (c:=c) t.1 (show(l.getD (2*j) 0).toNat%t.2.length<c.aA.toNat by omega)
 have hne:=F8 h ht.az (show(l.getD (2*j) 0).toNat%t.2.length<c.aA.toNat by omega)
 have e:mP c t bits l j=(t.2.getD ((l.getD (2*j) 0).toNat%t.2.length) 0,wE c t bits j (l.getD (2*j) 0).toNat (l.getD (2*j+1) 0).toNat):=rfl
 rw[e]
 unfold wE
 simp only
 generalize (l.getD (2*j) 0).toNat%t.2.length=q at*
 rw[ju]
 have hmem:=fun x=> @wC c t.1 q c.aB.length x
 generalize hps:fQ c t.1 q c.aB.length=ps at*
 have hr:=Nat.mod_lt (l.getD (2*j+1) 0).toNat (List.length_pos_iff.2 hne)
 generalize (l.getD (2*j+1) 0).toNat%ps.length=r at*
 rw[show ps.getD r 0=ps[r] by simp[hr]]
 have hs:=(hmem ps[r]).1 (List.getElem_mem hr)
 refine⟨q,hq,by simp[hq],?_,fun hb=> ?_⟩
 ·have hm:=Nat.mod_lt (ps[r].toNat+1) (show 0<c.aB.length by omega)
  split
  ·omega
  ·omega
 ·rw[hb]
  simp only[Bool.false_eq_true,↓reduceIte]
  rw[hps]
  exact List.getElem_mem hr
theorem ah0{c:Case}(he:bh c=0){t:List Int×List Int}(ht:nY c t)(x:cc)(bits:Nat):bh (gr c t x bits)=0:=by
 have h:=fF he
 refine Pg he (by rw[F7];exact F_ _) fun y hy=> ?_
 unfold lT at hy
 rw[List.mem_map] at hy
 obtain⟨j,-,rfl⟩:=hy
 obtain⟨q,hq,h1,h2,-⟩:=Pr h ht bits x.looked j
 refine⟨?_,h2⟩
 rw[h1]
 have:=(kE _ _ _ ht.order).2.2 _ (List.getElem_mem hq)
 have hg:=h.aA
 omega
theorem adp{c:Case}(he:bh c=0){t:List Int×List Int}(ht:nY c t)(x:cc)(bits:Nat):t∈aH (gr c t x bits) bits:=by
 have h:=fF he
 have hd:=fF (ah0 he ht x bits)
 refine(F9 hd).2 ⟨ht.az,ht.order,fun i hi hb p hp hq=> ?_⟩
 rw[ado hi] at hq⊢
 obtain⟨q,dG,h1,h2,h3⟩:=Pr h ht bits x.looked i
 have hno:=(kE _ _ _ ht.order).2.1
 rw[h1] at hq
 have e:p=q:=(List.getElem_inj hno).1 hq
 subst e
 exact(wC.1 (h3 hb)).2.2
end Go.Proofs.YtnncgmimhdplfaaGreat.P
namespace Go.Proofs.YtnncgmimhdplfaaGreat.P
open Go.aq
theorem adq(s:St)(r:Nat):((s.aT r).loc=fun _=>none)↔s.loc=fun _=>none:=by
 constructor
 ·intro h
  funext b
  have:=congrFun h b
  rw[BQ,Option.map_eq_none_iff] at this
  exact this
 ·intro h
  funext b
  rw[BQ,h];rfl
attribute [simp] adq
theorem Nm{a b:List Int}(h:dz a b=true):a.length≤b.length:=by
 unfold dz at h
 split at h
 ·have:=of_decide_eq_true h;omega
 ·omega
theorem Pu{c:Case}{p o:List Int}:Agr c (0:Nat).testBit p o↔∀x∈c.seen,∀q (hq:q<o.length),o[q]=x.1→fP c p q x.2.toNat p.length=true:=by
 unfold Agr
 constructor
 ·intro hh x hx q hq e
  obtain⟨i,hi,rfl⟩:=List.getElem_of_mem hx
  exact hh i hi (by simp) q hq e
 ·intro hh i hi _ q hq e
  exact hh _ (List.getElem_mem hi) q hq e
end Go.Proofs.YtnncgmimhdplfaaGreat.P
namespace Go.Proofs.YtnncgmimhdplfaaGreat.P
open Go.aq
theorem adr{c:Case}(h:c.OK){g s:Int}(hd:(eW c g s).OK)(x:List Int×List Int):x∈aH (eW c g s) 0↔x∈aH c 0∧s∈zY c g x:=by
 rw[F9 hd,F9 h,Pu,Pu]
 have tj:=hd.seen (g,s) (by show(g,s)∈c.seen++[(g,s)];simp)
 have ads:0≤g∧g<c.aA:=⟨tj.1,tj.2.1⟩
 have Pv:0≤s∧s<c.aB.length:=⟨tj.2.2.1,tj.2.2.2⟩
 have key:x.2∈bM c→((∀q (hq:q<x.2.length),x.2[q]=g→fP c x.1 q s.toNat x.1.length=true)↔s∈zY c g x):=fun ho=>by
  have mL:=kE _ _ _ ho
  obtain⟨q,jW,hq2,dS⟩:=at_mem (OD h ho ads)
  unfold zY
  rw[hq2,Int.toNat_natCast,FZ _ (by omega),wC]
  constructor
  ·intro hh;exact⟨Pv.1,Pv.2,hh q jW dS⟩
  ·rintro⟨-,-,hh⟩ q' dG he
   have:q'=q:=(List.getElem_inj mL.2.1).1 (by rw[he,dS])
   subst this
   exact hh
 have e1:cO (eW c g s)=cO c:=rfl
 have e2:bM (eW c g s)=bM c:=rfl
 have e3:(eW c g s).seen=c.seen++[(g,s)]:=rfl
 have e4:∀p q j i,fP (eW c g s) p q j i=fP c p q j i:=fun _ _ _ _=>rfl
 simp only[e1,e2,e3,e4]
 constructor
 ·rintro⟨h1,h2,h3⟩
  refine⟨⟨h1,h2,fun y hy=>h3 y (by simp[hy])⟩,(key h2).1 fun q hq he=>h3 (g,s) (by simp) q hq he⟩
 ·rintro⟨⟨h1,h2,h3⟩,h4⟩
  refine⟨h1,h2,fun y hy=> ?_⟩
  rcases List.mem_append.1 hy with hy|hy
  ·exact h3 y hy
  ·rw[List.mem_singleton] at hy
   subst hy
   exact(key h2).2 h4
theorem Span.sub{P Q:Int→Prop}{a b x y:Int}(h1:Span P a b)(h2:Span Q x y)(h:∀n,P n→Q n):x≤a∧b≤y:=⟨(h2.all a (h a h1.F1)).1,(h2.all b (h b h1.ahF)).2⟩
structure ad9 (c d:Case):Prop where
 sub:∀o∈aeh d,o∈aeh c
 st:∀g,0≤g∧g<c.aA→(∀s∈O1 c (zU c) g,s∈O1 d (zU d) g)∧(∀s∈O2 d (zU d) g,s∈O2 c (zU c) g)
 la:(jT c).a≤(jT d).a∧(jT d).b≤(jT c).b
 lx:(jT c).x≤(jT d).x∧(jT d).y≤(jT c).y
 ye:(nW c).a≤(nW d).a∧(nW d).b≤(nW c).b
end Go.Proofs.YtnncgmimhdplfaaGreat.P
namespace Go.Proofs.YtnncgmimhdplfaaGreat.P
open Go.aq
theorem adt{c:Case}(he:bh c=0)(h8:c.seen.length<8){g s:Int}(hg:0≤g∧g<c.aA)(hs:0≤s∧s<c.aB.length):bh (eW c g s)=0:=by
 have h:=fF he
 refine Pg he (by simp;omega) fun x hx=> ?_
 rcases List.mem_append.1 hx with hx|hx
 ·have:=h.seen x hx;omega
 ·rw[List.mem_singleton] at hx
  subst hx
  exact⟨hg,hs⟩
end Go.Proofs.YtnncgmimhdplfaaGreat.P
namespace Go.Proofs.YtnncgmimhdplfaaGreat.P
open Go.aq
theorem Pw{c:Case}(he:bh c=0){t:List Int×List Int}(ht:nY c t){q:Nat}(hq:q<t.2.length):(dD c t.1).length=t.2.length∧(dD c t.1).getD q []≠[]∧∀s∈(dD c t.1).getD q [],0≤s∧s<c.aB.length:=by
 have h:=fF he
 have hl:=ht.len
 have ju:(dD c t.1).length=c.aA.toNat:=by simp[dD,iS]
 have dG:q<c.aA.toNat:=by omega
 have e:(dD c t.1).getD q []=fQ c t.1 q c.aB.length:=by
  rw[List.getD_eq_getElem?_getD,List.getElem?_eq_getElem (by omega)]
  simp[dD,iS]
 refine⟨by omega,by rw[e];exact F8 h ht.az dG,fun s hs=> ?_⟩
 rw[e] at hs
 unfold fQ at hs
 obtain⟨k,hk,rfl⟩:=List.mem_map.1 hs
 have:=List.mem_range.1 (List.mem_filter.1 hk).1
 omega
theorem adu{c:Case}(he:bh c=0){t:List Int×List Int}(ht:nY c t)(x:cc){q:Nat}(hq:q<t.2.length){s:Int}(hs:s∈(dD c t.1).getD q [])(h8:(gr c t x 0).seen.length≠8):mM (eW (gr c t x 0) (t.2.getD q 0) s)=(aeh (eW (gr c t x 0) (t.2.getD q 0) s),0)∧t.2∈aeh (eW (gr c t x 0) (t.2.getD q 0) s)∧(aeh (eW (gr c t x 0) (t.2.getD q 0) s)).length≤3125:=by
 have h:=fF he
 have hd:=ah0 he ht x 0
 have hin:=adp he ht x 0
 have hr:=(Pw he ht hq).2.2 s hs
 have hlen:(gr c t x 0).seen.length≤8:=by rw[Pq];exact F_ _
 obtain⟨g,hg⟩:∃g,g=t.2.getD q 0:=⟨_,rfl⟩
 rw[←hg]
 have Px:g=t.2[q]:=by rw[hg,List.getD_eq_getElem?_getD,List.getElem?_eq_getElem hq];rfl
 have ho:=kE _ _ _ ht.order
 have hge:0≤g∧g<c.aA:=by
  have:=ho.2.2 g (by rw[Px];exact List.getElem_mem hq)
  have hgc:=h.aA
  omega
 have hst:s∈zY (gr c t x 0) g t:=by
  show s∈(dD c t.1).getD (fS t.2 g).toNat []
  rw[Px,adl ho.2.1 hq]
  exact hs
 have hm:bh (eW (gr c t x 0) g s)=0:=adt hd (by omega) hge hr
 have qT:=(adr (fF hd) (fF hm) t).2 ⟨hin,hst⟩
 refine⟨adm hm (fun h0=>by rw[h0] at qT;cases qT),adn qT,FO (fF hm)⟩
end Go.Proofs.YtnncgmimhdplfaaGreat.P
