/- All orders, handed over one by one: the program's iterator. All orders that have a chain, with it: the program's iterator. Contracts: Chain and Why, of the program. Contracts: Before, of the program. Contracts: clones of marks; whether a mark can have been made in a year. Contracts: who can have owned the copy in a year; the years of a mark: the program's. Contracts: who can have owned the copy in a year: the program's. Contracts: Owned and Both: the program's. Contracts: Both: the program's. Maps that count names. Contracts: a case without some marks: the program's. Contracts: Forged: the program's. Contracts: whether an order has all owners that it has to have: the reference's. Plain: the reference's way to the chain of an order goes beside the program's. Contracts: the chain of an order: the reference's. Contracts of the reference: all orders, all chains, Order, Why. Contracts of the reference: Order, Why, Before. Contracts of the reference: Before. Plain: an order has a chain if there are years for it. Plain: years for an order are found by its chain; unknown owners by the order alone. Contracts of the reference: a mark of a known year; who has the copy in a year. Contracts of the reference: Year, Owned. Contracts of the reference: Both. Contracts of the reference: Without. Contracts of the reference: Lists, Forged; Same. The example of the document: its values. Contracts: the laws' small helpers; what is awake. What a law's arguments of layer 8 say: cases, and lists of numbers. Contracts: the laws' helpers that look at holds; any order. Plain: what holds of the chain with the fewest unknown owners. Contracts: which list comes first; what Why says of an order of the laws. Plain: cases that are changed are still cases: a mark of a known year, a year of having. Plain: a case of which less is told. -/
import Derived.Test.YtpeikknjbnnnnaaGreatZF
import Derived.Test.YtpeikknjbnnnnaaGreatZE
import Derived.KernelRfl
import Derived.Test.YtpeikknjbnnnnaaGreatZC
import Derived.Test.YtpeikknjbnnnnaaGreatProg
namespace Go.Proofs.YtpeikknjbnnnnaaGreat.O
open Go.az
def k_(m k:Nat)(o:List Int)(j:Nat):List (List Int):=((((List.range m).drop j).filter fun n:Nat=> !decide ((n:Int)∈o)).map fun n:Nat=>o++[(n:Int)]).flatMap (lZ m k)
theorem SP(m k:Nat)(o:List Int):k_ m k o 0=lZ m (k+1) o:=rfl
theorem SQ(m k:Nat)(o:List Int):k_ m k o m=[]:=by unfold k_;rw[List.drop_of_length_le (by simp)];rfl
theorem SR{m k:Nat}{o:List Int}{j:Nat}(hj:j<m)(h:(j:Int)∈o):k_ m k o j=k_ m k o (j+1):=by
 unfold k_
 rw[drop_cons (l:=List.range m) (k:=j) (by simpa using hj)]
 simp[h]
theorem abR{m k:Nat}{o:List Int}{j:Nat}(hj:j<m)(h:¬(j:Int)∈o):k_ m k o j=lZ m k (o++[(j:Int)])++k_ m k o (j+1):=by
 unfold k_
 rw[drop_cons (l:=List.range m) (k:=j) (by simpa using hj)]
 simp[h]
def jJ(F:Nat→Int)(o:List Int):Prop:=∀i (h:i<o.length),F i=o[i]
theorem SU{F:Nat→Int}{o:List Int}{x:Int}(h:jJ F o):jJ (fun i=>if i=o.length then x else F i) (o++[x]):=fun i hi=>by
 by_cases he:i=o.length
 ·subst he;simp
 ·have hi':i<o.length:=by simp at hi;omega
  simp[he,h i hi',List.getElem_append_left hi']
theorem SV{F:Nat→Int}{o:List Int}{x:Int}(h:jJ F (o++[x])):jJ F o:=fun i hi=>by
 have:=h i (by simp;omega)
 rwa [List.getElem_append_left hi] at this
theorem SW{F:Nat→Int}{o:List Int}(h:jJ F o):cl o.length F=o.map I:=by
 apply List.ext_getElem (by simp[cl])
 intro i h1 h2
 have hi:i<o.length:=by simpa using h2
 rw[pQ]
 simp[h i hi]
abbrev rz(o:List Int):List AV:=[IL o,Go.az.mark 0]
theorem SX{g:Nat}{F:Nat→Int}{o:List Int}(h:jJ F o)(hl:o.length=g)(hg:g≤6):ZK (IL o) 0 1 g g (cl g F):=by
 subst hl
 refine⟨?_,by rw[iC];omega,Nat.le_refl _,by omega,Iy _ _,Sy _ _⟩
 rw[tK _ _ (by rw[iC];exact Nat.le_refl _) (fun x hx=>by unfold cl at hx;rw[List.mem_map] at hx;obtain⟨i,_,rfl⟩:=hx;exact⟨_,rfl⟩),Sz,SW h]
 rfl
theorem SY(n:Nat)(F:Nat→Int):∀x∈cl n F,∃m,x=I m:=fun x hx=>by
 unfold cl at hx
 rw[List.mem_map] at hx
 obtain⟨i,_,rfl⟩:=hx
 exact⟨_,rfl⟩
theorem SZ{loc:Nat→Option (List AV)}{D g:Nat}{F:Nat→Int}{o:List Int}{y:AV}{q:Value}(hD:loc D=some (cl g F))(h:jJ F o)(hl:o.length≤g)(hg:g≤6)(hy:y=.lit q):jv loc [.aP D 0 o.length g 1,y]=some [IL o,y]:=by
 subst hy
 have e:chunk 1 (cl g F) o.length=o.map I:=by
  rw[tK _ _ (by rw[iC];exact hl) (SY g F)]
  apply List.ext_getElem (by simp[iC];omega)
  intro i h1 h2
  have hi:i<o.length:=by simpa using h2
  rw[List.getElem_take,pQ]
  simp[h i hi]
 have hle:0+o.length*1≤(cl g F).length:=by rw[iC];omega
 have hb:o.length≤140737488355328:=by omega
 have h1:nS loc (.aP D 0 o.length g 1)=some (IL o):=by
  unfold nS
  simp only[hD,List.drop_zero,e,Iy,hle,hb,decide_true,Bool.and_self,if_true]
 have h2:jv loc [.lit q]=some [.lit q]:=rfl
 rw[jv,h1,h2]
abbrev BG(l B1 B2 g:Nat)(c:Case):AV:=.func (.func 102) [] [.Yq B1 0,.ref [I g],.ref [.func (.yield l) [] []],.ref [aZ c],.Yq B2 0]
theorem IN{c:Case}{n:Nat}(hn:c.an.length=n)(ZU:n≤6){g:Nat}(S0:g≤6){l B1 B2 D:Nat}(h12:B1≠B2)(pX:B1≠D)(rA:B2≠D):
  ∀(k:Nat) (o:List Int) (rest:List (List Int)) (F:Nat→Int) (s:St) (K:AV→St→Prop),o.length+k=g→jJ F o→
   s.loc B1=some [.aP D 0 o.length g 1]→s.loc B2=some [BG l B1 B2 g c]→s.loc D=some (cl g F)→s.env 1000000=.ghost l ((lZ n k o++rest).map rz) false→
   (∀s2 F2,jJ F2 o→s2.loc B1=some [.aP D 0 o.length g 1]→s2.loc B2=some [BG l B1 B2 g c]→s2.loc D=some (cl g F2)→s2.env 1000000=.ghost l (rest.map rz) false→K (B true) (back s s2))→
   (∀s2 r,s2.env 1000000=.ghost l r true→K (B false) (back s s2))→
   YZ Tryz.prog 102 [.Yq B1 0,.ref [I g],.ref [.func (.yield l) [] []],.ref [aZ c],.Yq B2 0] s K
 |0=>by
  intro o rest F s K hlen hF l1 l2 lD eg pY pZ
  refine ic t102 (by simp) fun _=> ?_
  have eC:o.length=g:=by omega
  have ko:=SX hF eC (by omega)
  simp only[lZ,List.singleton_append,List.map_cons] at eg
  simp -implicitDefEqProofs [AA,l1,eC,eg]
  refine⟨D,1,g,g,rfl,cl g F,lD,ko,?_,?_⟩
  ·simp -implicitDefEqProofs [dj,tr]
   exact pY _ F hF (by simp[l1,eC]) (by simp[l2]) (by simp[lD]) (by simp)
  ·simp -implicitDefEqProofs [dj,tr]
   exact pZ _ (rest.map rz) (by simp)
 |k+1=>by
  intro o rest F s K hlen hF l1 l2 lD eg pY pZ
  refine ic t102 (by simp) fun _=> ?_
  have eC:((o.length:Int)==(g:Int))=false:=by simp;omega
  rw[←SP] at eg
  simp -implicitDefEqProofs [AA,l1,eC]
  refine bw n (fun j s=>s.env 0=.Yq B1 0∧s.env 1=.ref [I g]∧s.env 2=.ref [.func (.yield l) [] []]∧s.env 3=.ref [aZ c]∧s.env 4=.Yq B2 0∧s.env 19=I n∧s.env 20=I j∧s.loc B1=some [.aP D 0 o.length g 1]∧s.loc B2=some [BG l B1 B2 g c]∧(∃F,jJ F o∧s.loc D=some (cl g F))∧s.env 1000000=.ghost l ((k_ n k o j++rest).map rz) false) ?_ ?_
  ·have:∃F,jJ F o∧s.loc D=some (cl g F):=⟨F,hF,lD⟩
   simp[l1,l2,eg,this,hn]
  rintro j s hj ⟨e0,e1,e2,e3,e4,g_,cg,l1,l2,⟨F,hF,lD⟩,eg⟩
  simp -implicitDefEqProofs [g_,cg]
  refine bu (fun hlt=> ?_) (fun hge=> ?_)
  ·have hlt:j<n:=by omega
   have hc:=tw o (j:Int)
   simp -implicitDefEqProofs [e0,cg,l1]
   refine Rj (ys:=[IL o,I j]) (u:=.bool (decide ((j:Int)∈o))) ?_ rfl hc ?_
   ·simp -implicitDefEqProofs
    exact SZ lD hF (by omega) (by omega) rfl
   simp -implicitDefEqProofs
   refine bu (fun hin=> ?_) (fun hin=> ?_)
   ·rw[SR hlt hin] at eg
    simp -implicitDefEqProofs [cg]
    refine⟨i64 (by omega) (by omega),aN hlt ?_⟩
    have:∃F,jJ F o∧s.loc D=some (cl g F):=⟨F,hF,lD⟩
    simp[e0,e1,e2,e3,e4,g_,l1,l2,eg,this]
   ·rw[abR hlt hin] at eg
    have S1:o.length+1≤g:=by omega
    simp -implicitDefEqProofs [e0,e4,l1,l2,lD,pX,h12.symm,rA,S1,Bp,iC,tJ]
    rw[List.append_assoc] at eg
    refine IN hn ZU S0 h12 pX rA k (o++[(j:Int)]) (k_ n k o (j+1)++rest) _ _ _ (by simp;omega) (SU hF) (by simp) (by simp[l2,h12.symm,rA]) (by simp[pX.symm]) (by simp[eg]) ?_ ?_
    ·intro s2 F2 S2 k1 k2 kD kg
     simp -implicitDefEqProofs [e0,cg,k1]
     refine⟨i64 (by omega) (by omega),by omega,i64 (by omega) (by omega),aN hlt ?_⟩
     have:∃F,jJ F o∧cl g F2=cl g F:=⟨F2,SV S2,rfl⟩
     simp[e0,e1,e2,e3,e4,g_,k2,kD,kg,h12.symm,pX.symm,this]
    ·intro s2 r kg
     simp -implicitDefEqProofs [dj,tr]
     exact pZ _ r (by simp[kg])
  ·obtain rfl:j=n:=by omega
   rw[SQ] at eg
   simp -implicitDefEqProofs [dj,tr]
   exact pY _ F hF (by simp[l1]) (by simp[l2]) (by simp[lD]) (by simpa using eg)
theorem S3(n:Nat):List.replicate n (I 0)=cl n fun _=>0:=by
 apply List.ext_getElem (by simp[cl])
 intro i h1 h2
 rw[pQ];simp
def BH(n k:Nat):List (List Int):=(List.range k).flatMap (fe n)
def ff(n:Nat):List (List Int):=BH n (n+1)
theorem S4(n m:Nat):lZ n m []=fe n m:=by
 have:=HD n m 0
 simpa[fe] using this
theorem S5{n k:Nat}(hk:k<n+1):((List.range (n+1)).drop k).flatMap (fe n)=lZ n k []++((List.range (n+1)).drop (k+1)).flatMap (fe n):=by
 rw[drop_cons (l:=List.range (n+1)) (k:=k) (by simpa using hk),List.flatMap_cons,S4]
 simp
theorem S6{c:Case}(h:c.OK):lV Tryz.prog 101 [] [.ref [aZ c]] ((ff c.an.length).map rz):=by
 have ZU:=h.jF
 obtain⟨n,hn⟩:∃n,c.an.length=n:=⟨_,rfl⟩
 have m0:ff c.an.length=((List.range (n+1)).drop 0).flatMap (fe n):=by rw[hn];rfl
 rw[m0]
 refine ps t101 (by simp) fun l hfit=> ?_
 simp -implicitDefEqProofs [Gk,hn]
 refine⟨i64 (by omega) (by omega),?_⟩
 refine bw (n+1) (fun k s=>s.env 1=.ref [aZ c]∧s.env 2=.ref [.func (.yield l) [] []]∧s.env 12=I ((n+1:Nat):Int)∧s.env 13=I k∧s.env 1000000=.ghost l ((((List.range (n+1)).drop k).flatMap (fe n)).map rz) false) ?_ ?_
 ·simp
 rintro k s hk ⟨e1,e2,aQ,aR,eg⟩
 simp -implicitDefEqProofs [aQ,aR]
 refine bu (fun hlt=> ?_) (fun hge=> ?_)
 ·have hlt:k<n+1:=by omega
  rw[S5 hlt] at eg
  simp -implicitDefEqProofs [e1,e2,aR]
  intro b3 kV
  refine⟨by omega,by omega,?_⟩
  intro D hD B1 S7 B2 IP
  have pX:¬B1=D:=by rintro rfl;simp at S7
  have BI:¬B2=B1:=by rintro rfl;simp at IP
  have rA:¬B2=D:=by rintro rfl;simp[BI] at IP
  refine IN hn (by omega) (g:=k) (by omega) (B1:=B1) (B2:=B2) (D:=D) (fun e=>BI e.symm) pX rA k [] (((List.range (n+1)).drop (k+1)).flatMap (fe n)) (fun _=>0) _ _ (by simp) (fun i hi=>by simp at hi) ?_ ?_ ?_ ?_ ?_ ?_
  ·have:¬B1=B2:=fun e=>BI e.symm
   simp[this]
  ·simp
  ·have h3:¬D=B1:=fun e=>pX e.symm
   have h4:¬D=B2:=fun e=>rA e.symm
   simp[h3,h4,S3]
  ·simp[eg]
  ·intro s2 F2 _ _ _ _ kg
   simp -implicitDefEqProofs [aR]
   refine⟨i64 (by omega) (by omega),aN hlt ⟨by simp[e1],by simp[e2],by simp[aQ],by simp,by simp[kg]⟩⟩
  ·intro s2 r kg
   simp -implicitDefEqProofs
   exact⟨r,.inr (by simp[kg])⟩
 ·obtain rfl:k=n+1:=by omega
  rw[List.drop_of_length_le (by simp)] at eg
  simp -implicitDefEqProofs
  exact⟨[],.inl ⟨by simpa using eg,rfl⟩⟩
theorem S8(c:Case):aA Tryz.prog 77 [aZ c] (.func (.func 101) [] [.ref [aZ c]]):=by
 refine pc t77 (by simp) fun _=> ?_
 simp -implicitDefEqProofs [FX,FY]
end Go.Proofs.YtpeikknjbnnnnaaGreat.O
namespace Go.Proofs.YtpeikknjbnnnnaaGreat.O
open Go.az
abbrev IQ(c:Case)(l:List aY):AV:=.agg [HL (Yy l),I (dH c l)]
abbrev ZV(c:Case)(p:List Int×List aY):List AV:=[IL p.1,IQ c p.2]
def solved(c:Case)(o:List Int):Option (List Int×List aY):=(cX c o).map fun l=>(o,l)
def jK(c:Case)(os:List (List Int)):List (List Int×List aY):=os.filterMap (solved c)
def bA(c:Case):List (List Int×List aY):=jK c (ff c.an.length)
theorem S9{c:Case}{o:List Int}{os:List (List Int)}(h:cX c o=none):jK c (o::os)=jK c os:=by simp[jK,solved,h]
theorem S_{c:Case}{o:List Int}{os:List (List Int)}{l:List aY}(h:cX c o=some l):jK c (o::os)=(o,l)::jK c os:=by simp[jK,solved,h]
theorem BJ{n:Nat}{o:List Int}(h:o∈ff n):o.length≤n∧o.Nodup∧∀x∈o,0≤x∧x<n:=by
 unfold ff BH at h
 rw[List.mem_flatMap] at h
 obtain⟨i,hi,h⟩:=h
 have:=HG n i o h
 simp at hi
 exact⟨by omega,this.2.1,this.2.2⟩
theorem BK{c:Case}(h:c.OK):lV Tryz.prog 76 [] [.ref [aZ c]] ((bA c).map (ZV c)):=by
 have ZU:=h.jF
 refine ps t76 (by simp) fun l hfit=> ?_
 simp -implicitDefEqProofs [FW]
 refine aj (S8 c) ?_
 simp -implicitDefEqProofs
 refine Rg ((ff c.an.length).map IL) (fun j s=>s.env 1=.ref [aZ c]∧s.env 2=.ref [.func (.yield l) [] []]∧s.env 1000000=.ghost l ((jK c ((ff c.an.length).drop j)).map (ZV c)) false) ?_ ?_ ?_ ?_
 ·have:=S6 h
  rw[List.map_map]
  exact this
 ·simp[bA]
 ·rintro j Ta hj - ⟨e1,e2,eg⟩ d sz len cap cs hd ko
  have hj:j<(ff c.an.length).length:=by simpa using hj
  have BL:=BJ (List.getElem_mem hj)
  rw[drop_cons hj] at eg
  rw[show((ff c.an.length).map IL).getD j .any=IL (ff c.an.length)[j] by simp[hj]] at ko⊢
  generalize (ff c.an.length)[j]=o at*
  obtain⟨rfl,rfl,hcs,hcap,fo⟩:=H8 rfl ko
  obtain⟨L,hL⟩:∃L,L=jK c ((ff c.an.length).drop (j+1)):=⟨_,rfl⟩
  simp -implicitDefEqProofs [putAt,e1]
  refine IG h BL.2.2 (by omega) (.inr ⟨d,cap,cs,rfl,by simp,ko⟩) (fun s2 l2 hs hO=> ?_) (fun s2 l2 u hs hO=> ?_)
  ·rw[S_ hs] at eg
   have ld:=hO.l d cs (by simp) ko.2.2.2.2.2
   have lg:=hO.g l _ false (by simp;exact eg)
   have hce:cs.map AV.erase0=cs:=ko.2.2.2.2.2
   have Tb:cs.all AV.bH=true:=ko.2.2.2.2.1
   have dG:cs.take o.length=o.map I:=by
    apply List.ext_getElem (by simp;omega)
    intro i h1 h2
    have hi:i<o.length:=by simpa using h2
    have:=fo i hi
    rw[List.getD_eq_getElem?_getD,List.getElem?_eq_getElem (by omega),Option.getD_some] at this
    simp[this]
   have hsp:splice (List.replicate o.length (AV.lit (Value.int IntKind.i64 0))) 0 (o.map I)=o.map I:=by rw[sg _ _ _ (by simp)];simp
   have j8:chunk 1 (o.map I) o.length=o.map I:=by
    rw[tK _ _ (by simp) (fun x hx=>by rw[List.mem_map] at hx;obtain⟨m,_,rfl⟩:=hx;exact⟨m,rfl⟩)]
    exact List.take_of_length_le (by simp)
   simp -implicitDefEqProofs
   intro b4 pU
   have BM:¬d=b4:=by rintro rfl;rw[ld] at pU;cases pU
   refine⟨by omega,by omega,?_⟩
   intro b6 Tc
   have IS:¬d=b6:=by rintro rfl;simp[BM,ld] at Tc
   simp -implicitDefEqProofs [BM,IS,ld,hce,dG,hsp]
   refine⟨hcs,fun x hx=>List.all_eq_true.1 Tb x hx,by omega,?_⟩
   simp -implicitDefEqProofs [aq,j8,lg,BM,IS,ld,e2]
  ·rw[S9 hs] at eg
   have ld:=hO.l d cs (by simp) ko.2.2.2.2.2
   have lg:=hO.g l _ false (by simp;exact eg)
   simp -implicitDefEqProofs
   intro b hb
   have hne:¬d=b:=by rintro rfl;rw[ld] at hb;cases hb
   exact⟨⟨hne,by simp[hne,ld]⟩,lg⟩
 ·rintro Ta - ⟨e1,e2,eg⟩
  have:(ff c.an.length).drop ((ff c.an.length).map IL).length=[]:=by simp
  rw[this] at eg
  exact⟨[],.inl ⟨eg,rfl⟩⟩
theorem BN(c:Case):aA Tryz.prog 46 [aZ c] (.func (.func 76) [] [.ref [aZ c]]):=by
 refine pc t46 (by simp) fun _=> ?_
 simp -implicitDefEqProofs [m46,Fx]
def cF(c:Case):Bool:= !(bA c).isEmpty
theorem p0{c:Case}(h:c.OK):aA Tryz.prog 54 [aZ c] (B (cF c)):=by
 refine pc t54 (by simp) fun _=> ?_
 simp -implicitDefEqProofs [FH]
 intro b
 refine aj (BN c) ?_
 simp -implicitDefEqProofs
 refine s_ _ (fun k s=>k=0∧s.env 2=.Yq b 0∧s.loc b=some [B false]) (BK h) ?_ ?_ ?_ ?_
 ·intro y hy
  rw[List.mem_map] at hy
  obtain⟨p,_,rfl⟩:=hy
  exact⟨rfl,rfl⟩
 ·simp
 ·rintro k st hk - ⟨rfl,e2,l2⟩
  have hne:cF c=true:=by
   unfold cF
   have hk:0<(bA c).length:=by simpa using hk
   cases hc:bA c with
   |nil=>rw[hc] at hk;simp at hk
   |cons a l=>rfl
  have aX:0<(bA c).length:=by simpa using hk
  rw[show((bA c).map (ZV c)).getD 0 []=ZV c (bA c)[0] by simp[aX]]
  simp -implicitDefEqProofs [e2,l2,Ap,hne]
 ·rintro st - ⟨hk,e2,l2⟩
  have hne:cF c=false:=by
   unfold cF
   have:(bA c).length=0:=by simpa using hk
   rw[List.length_eq_zero_iff.1 this];rfl
  simp -implicitDefEqProofs [e2,l2,Ap,hne]
theorem IT(l:List aY)(u:Int):aA Tryz.prog 47 [.agg [HL l,I u]] (I u):=by
 refine pc t47 (by simp) fun _=> ?_
 simp -implicitDefEqProofs [Fy,Fz]
def aah(c:Case)(p:Option (List aY))(l:List aY):Option (List aY):=match p with
 |none=>some l
 |some b=>if dH c l<dH c b then some l else some b
def eR(c:Case)(ps:List (List Int×List aY)):Option (List aY):=ps.foldl (fun a p=>aah c a p.2) none
def IU(c:Case)(b4 b5:Nat)(s:St):Option (List aY)→Prop
 |none=>s.loc b4=some [.slice 3 [] 5000,I 0]∧s.loc b5=some [B false]
 |some l=>s.loc b4=some [HL (Yy l),I (dH c l)]∧s.loc b5=some [B true]
theorem Td{c:Case}(h:c.OK):aA Tryz.prog 45 [.func (.func 76) [] [.ref [aZ c]],.func (.func 47) [] []] (match eR c (bA c) with|none=>.tuple [.agg [HL [],I 0],B false]|some l=>.tuple [IQ c l,B true]):=by
 refine pc t45 (by simp) fun _=> ?_
 obtain⟨R,hR⟩:∃R,R=eR c (bA c):=⟨_,rfl⟩
 rw[←hR]
 simp -implicitDefEqProofs only[Fv]
 refine au (fun st=>st.env 0=.func (.func 76) [] [.ref [aZ c]]∧st.env 3=.ref [.func (.func 47) [] []]∧∃b4 b5,st.env 4=.Yq b4 0∧st.env 5=.Yq b5 0∧b4≠b5∧st.loc b4=some [.slice 3 [] 5000,I 0]∧st.loc b5=some [B false]) ?_ ?_
 ·intro k hk
  simp -implicitDefEqProofs
  intro b4 b5 h5
  have oz:¬b5=b4:=by rintro rfl;simp at h5
  have oA:¬b4=b5:=fun e=>oz e.symm
  exact hk _ ⟨by simp,by simp,b4,b5,by simp,by simp,oA,by simp[oA],by simp⟩
 rintro s ⟨e0,e3,b4,b5,e4,e5,oA,l4,l5⟩
 have oz:¬b5=b4:=fun e=>oA e.symm
 refine au (fun st=>st.env 4=.Yq b4 0∧st.env 5=.Yq b5 0∧IU c b4 b5 st R) ?_ ?_
 ·intro k0 aX
  have o3:=e3
  have o4:=e4
  have o5:=e5
  simp -implicitDefEqProofs [e0]
  refine s_ _ (fun k st=>st.env 3=.ref [.func (.func 47) [] []]∧st.env 4=.Yq b4 0∧st.env 5=.Yq b5 0∧IU c b4 b5 st (eR c ((bA c).take k))) (BK h) ?_ ?_ ?_ ?_
  ·intro y hy
   rw[List.mem_map] at hy
   obtain⟨p,_,rfl⟩:=hy
   exact⟨rfl,rfl⟩
  ·refine⟨by simp[e3],by simp[e4],by simp[e5],?_⟩
   show _∧_
   exact⟨by simp[l4],by simp[l5]⟩
  ·rintro k st hk - ⟨e3,e4,e5,hb⟩
   have hk:k<(bA c).length:=by simpa using hk
   have dG:=cV hk
   rw[show((bA c).map (ZV c)).getD k []=ZV c (bA c)[k] by simp[hk]]
   have cm:eR c ((bA c).take (k+1))=aah c (eR c ((bA c).take k)) (bA c)[k].2:=by unfold eR;rw[dG,List.foldl_append];rfl
   rw[cm]
   generalize (bA c)[k]=p at*
   generalize eR c ((bA c).take k)=q at*
   cases q with
   |none=>
    obtain⟨l4,l5⟩:=hb
    simp -implicitDefEqProofs
    intro b7 h7
    have tR:¬b4=b7:=by rintro rfl;rw[l4] at h7;cases h7
    have h57:¬b5=b7:=by rintro rfl;rw[l5] at h7;cases h7
    simp -implicitDefEqProofs [e4,e5,l4,l5,tR,h57,oz]
    refine⟨by simp[o3],by simp[o4],by simp[o5],?_⟩
    show _∧_
    exact⟨by simp[oA],by simp⟩
   |some l=>
    obtain⟨l4,l5⟩:=hb
    have c1:=IT (Yy p.2) (dH c p.2)
    have c2:=IT (Yy l) (dH c l)
    simp -implicitDefEqProofs
    intro b7 h7
    have tR:¬b4=b7:=by rintro rfl;rw[l4] at h7;cases h7
    have h57:¬b5=b7:=by rintro rfl;rw[l5] at h7;cases h7
    simp -implicitDefEqProofs [e3,e5,l5,h57,m_]
    refine aj c1 ?_
    simp -implicitDefEqProofs [e3,e4,l4,tR,m_]
    refine aj c2 ?_
    simp -implicitDefEqProofs
    refine bu (fun hc=> ?_) (fun hc=> ?_)
    ·have hB:aah c (some l) p.2=some p.2:=by simp[aah,hc]
     rw[hB]
     simp -implicitDefEqProofs [e4,e5,l4,l5,tR,h57,oz]
     refine⟨by simp[o3],by simp[o4],by simp[o5],?_⟩
     show _∧_
     exact⟨by simp[oA],by simp⟩
    ·have hB:aah c (some l) p.2=some l:=by simp[aah,hc]
     rw[hB]
     simp -implicitDefEqProofs
     refine⟨by simp[o3],by simp[o4],by simp[o5],?_⟩
     show _∧_
     exact⟨by simp[l4,tR],by simp[l5,h57]⟩
  ·rintro st - ⟨e3,e4,e5,hb⟩
   rw[show((bA c).map (ZV c)).length=(bA c).length by simp,List.take_length,←hR] at hb
   exact aX _ ⟨e4,e5,hb⟩
 rintro s ⟨e4,e5,hb⟩
 cases R with
 |none=>
  obtain⟨l4,l5⟩:=hb
  simp -implicitDefEqProofs [e4,e5,l4,l5,oA,oz,nR,An]
 |some l=>
  obtain⟨l4,l5⟩:=hb
  simp -implicitDefEqProofs [e4,e5,l4,l5,oA,oz,nR,An]
end Go.Proofs.YtpeikknjbnnnnaaGreat.O
namespace Go.Proofs.YtpeikknjbnnnnaaGreat.O
open Go.az
structure IV where
 l:List aY
 u:Int
 e:Int
abbrev Te(r:IV):AV:=.tuple [HL r.l,I r.u,I r.e]
def dI(c:Case):IV:=if bC c≠0 then ⟨[],0,bC c⟩ else match eR c (bA c) with
 |none=>⟨[],0,8⟩
 |some l=>⟨Yy l,dH c l,0⟩
theorem BO(c:Case):aA Tryz.prog 10 [fc c] (Te (dI c)):=by
 refine pc t10 (by simp) fun _=> ?_
 obtain⟨R,hR⟩:∃R,R=dI c:=⟨_,rfl⟩
 rw[←hR]
 unfold dI at hR
 by_cases he:bC c=0
 case neg=>
  rw[if_pos he] at hR
  have hc:=aaf he
  obtain⟨E,hE⟩:∃E,E=bC c:=⟨_,rfl⟩
  rw[←hE] at hc hR he
  have he':(E != 0)=true:=by simp[he]
  simp -implicitDefEqProofs [Ai]
  refine aj hc ?_
  simp -implicitDefEqProofs [he',vI,hR]
 rw[if_neg (not_not_intro he)] at hR
 have hb:=Td (Case.ok he)
 simp -implicitDefEqProofs [Ai]
 refine aj (aae he) ?_
 simp -implicitDefEqProofs
 refine aj (BN c) ?_
 simp -implicitDefEqProofs
 cases h:eR c (bA c) with
 |none=>
  rw[h] at hb hR
  refine aj hb ?_
  simp -implicitDefEqProofs
  intro b7
  simp -implicitDefEqProofs [vI,hR]
 |some l=>
  rw[h] at hb hR
  refine aj hb ?_
  simp -implicitDefEqProofs
  intro b7
  simp -implicitDefEqProofs [vI,hR]
def Zy(c:Case)(order:List Int):Int:=if out 0 ((c.an.length:Int) - 1) order then 4 else if order.Nodup then 0 else 5
structure R2 where
 a:Int
 e:Int
abbrev IW(r:R2):AV:=.tuple [I r.a,I r.e]
def nq(c:Case)(order:List Int):R2:=if bC c≠0 then ⟨0,bC c⟩ else if Zy c order≠0 then ⟨0,Zy c order⟩ else match cX c order with
 |none=>⟨0,9⟩
 |some l=>⟨dH c l,0⟩
theorem wz:∀(n:Nat) (o:List Int),o.Nodup→(∀x∈o,0≤x∧x<(n:Int))→o.length≤n
 |0,o,_,h=>by
  cases o with
  |nil=>simp
  |cons a o=>have:=h a (by simp);omega
 |n+1,o,hn,h=>by
  by_cases hm:(n:Int)∈o
  ·have h1:=wz n (o.erase n) (hn.erase _) (fun x hx=>by
    have:=(hn.mem_erase_iff).1 hx
    have h2:=h x this.2
    omega)
   rw[List.length_erase_of_mem hm] at h1
   omega
  ·have h1:=wz n o hn (fun x hx=>by
    have h2:=h x hx
    have:x≠n:=fun e=>hm (e▸hx)
    omega)
   omega
theorem wA{lo hi:Int}{l:List Int}(h:out lo hi l=false):∀x∈l,lo≤x∧x≤hi:=by
 unfold out at h
 rw[List.any_eq_false] at h
 intro x hx
 have:=h x hx
 simp at this
 omega
theorem Tf{c:Case}{order:List Int}(h:Zy c order=0):(∀x∈order,0≤x∧x<(c.an.length:Int))∧order.Nodup∧order.length≤c.an.length:=by
 unfold Zy at h
 split at h
 ·cases h
 rename_i h1
 split at h
 ·rename_i h2
  have h3:∀x∈order,0≤x∧x<(c.an.length:Int):=fun x hx=>by
   have:=wA (by simpa using h1) x hx
   omega
  exact⟨h3,h2,wz _ _ h2 h3⟩
 ·cases h
theorem Tg{o:List Int}{x:Int}(h:o.Nodup)(hx:x∉o):(o++[x]).Nodup:=by
 rw[List.nodup_append]
 refine⟨h,by simp,fun a ha b hb e=> ?_⟩
 rw[List.mem_singleton] at hb
 exact hx (by rw[←hb,←e];exact ha)
theorem IX(c:Case)(order:List Int):aA Tryz.prog 19 [fc c,IL order] (IW (nq c order)):=by
 refine pc t19 (by simp) fun hfit=> ?_
 have hl:order.length≤140737488355328:=by simpa using cP (hfit 1)
 have lS:=cP (iy (hfit 0) 2)
 simp only[List.length_map] at lS
 obtain⟨R,hR⟩:∃R,R=nq c order:=⟨_,rfl⟩
 rw[←hR]
 unfold nq at hR
 simp -implicitDefEqProofs only[Fc]
 refine au (fun st=>st.env 1=IL order∧st.env 2=bI c) ?_ ?_
 ·intro k hk
  simp -implicitDefEqProofs
  exact hk _ (by simp)
 rintro s ⟨e1,e2⟩
 by_cases he:bC c=0
 case neg=>
  rw[if_pos he] at hR
  have hc:=aaf he
  obtain⟨E,hE⟩:∃E,E=bC c:=⟨_,rfl⟩
  rw[←hE] at hc hR he
  have he':(E != 0)=true:=by simp[he]
  simp -implicitDefEqProofs [e2]
  refine aj hc ?_
  simp -implicitDefEqProofs [he',qZ,hR]
 rw[if_neg (not_not_intro he)] at hR
 have hok:=Case.ok he
 have eC:=hok.jF
 refine au (fun st=>st.env 1=IL order∧st.env 2=bI c∧st.env 6=aZ c∧st.env 5=I 0) ?_ ?_
 ·intro k hk
  simp -implicitDefEqProofs [e2]
  refine aj (aae he) ?_
  simp -implicitDefEqProofs
  exact hk _ (by simp[e1,e2])
 rintro s ⟨e1,e2,e6,e5⟩
 refine au (fun st=>st.env 1=IL order∧st.env 6=aZ c∧out 0 ((c.an.length:Int) - 1) order=false) ?_ ?_
 ·intro k hk
  simp -implicitDefEqProofs [e1,e2,e5]
  refine⟨i64 (by omega) (by omega),aj (Zv 0 ((c.an.length:Int) - 1) order) ?_⟩
  cases ho:out 0 ((c.an.length:Int) - 1) order with
  |true=>
   have hE:Zy c order=4:=by unfold Zy;rw[ho];rfl
   rw[hE] at hR
   simp -implicitDefEqProofs [qZ,hR]
  |false=>
   simp -implicitDefEqProofs
   exact hk _ ⟨by simp[e1],by simp[e6],ho⟩
 rintro s ⟨e1,e6,ho⟩
 refine au (fun st=>st.env 1=IL order∧st.env 6=aZ c∧order.Nodup) ?_ ?_
 ·intro k0 aX
  simp -implicitDefEqProofs [e1]
  refine bw order.length (fun k st=>st.env 1=IL order∧st.env 6=aZ c∧st.env 27=IL order∧st.env 28=I order.length∧st.env 29=I k∧(order.take k).Nodup) ?_ ?_
  ·simp[e1,e6]
  rintro k s hk ⟨e1,e6,k8,dg,dM,YG⟩
  simp -implicitDefEqProofs [dg,dM]
  refine bu (fun hlt=> ?_) (fun hge=> ?_)
  ·have hlt:k<order.length:=by omega
   have hc:aA Tryz.prog 51 [.slice 1 ((order.map I).take k) 0,I order[k]] (B (decide (order[k]∈order.take k))):=by rw[←List.map_take];exact tw _ _
   have hts:=cV hlt
   have cm:=Tg (x:=order[k]) YG
   rw[←hts] at cm
   have ZT:order[k]∈order.take k→¬order.Nodup:=fun hin hn=>by
    have:(order.take (k+1)).Nodup:=hn.sublist (List.take_sublist _ _)
    rw[hts,List.nodup_append] at this
    exact this.2.2 _ hin _ (by simp) rfl
   simp -implicitDefEqProofs [e1,k8,dM,hlt]
   refine⟨by omega,aj hc ?_⟩
   simp -implicitDefEqProofs
   refine bu (fun hin=> ?_) (fun hin=> ?_)
   ·have hE:Zy c order=5:=by unfold Zy;rw[ho];simp[ZT hin]
    rw[hE] at hR
    simp -implicitDefEqProofs [qZ,hR]
   ·simp -implicitDefEqProofs [dM]
    exact⟨i64 (by omega) (by omega),aN hlt ⟨by simp[e1],by simp[e6],by simp[k8],by simp[dg],by simp,cm hin⟩⟩
  ·obtain rfl:k=order.length:=by omega
   rw[List.take_length] at YG
   simp -implicitDefEqProofs
   exact aX _ ⟨by simp[e1],by simp[e6],YG⟩
 rintro s ⟨e1,e6,YG⟩
 have hE:Zy c order=0:=by unfold Zy;rw[ho];simp[YG]
 obtain⟨h1,h2,h3⟩:=Tf hE
 rw[hE,if_neg (by simp)] at hR
 simp -implicitDefEqProofs [e1,e6]
 refine IG hok h1 (by omega) (.inl rfl) (fun s2 l hs hO=> ?_) (fun s2 l u hs hO=> ?_)
 ·rw[hs] at hR
  simp -implicitDefEqProofs
  intro b hb
  simp -implicitDefEqProofs [qZ,hR]
 ·rw[hs] at hR
  simp -implicitDefEqProofs
  intro b hb
  simp -implicitDefEqProofs [qZ,hR]
end Go.Proofs.YtpeikknjbnnnnaaGreat.O
namespace Go.Proofs.YtpeikknjbnnnnaaGreat.O
open Go.az
theorem fH{α β:Type}(f:α→List β)(m:Nat):∀l:List α,(∀x∈l,(f x).length≤m)→(l.flatMap f).length≤l.length*m
 |[],_=>by simp
 |x::l,h=>by
  have h1:=h x (by simp)
  have h2:=fH f m l (fun y hy=>h y (by simp[hy]))
  simp only[List.flatMap_cons,List.length_append,List.length_cons,Nat.add_mul]
  omega
theorem Th{n:Nat}(hn:n≤6):(ff n).length≤326592:=by
 have h:=fH (fe n) 46656 (List.range (n+1)) fun i hi=>by
  refine Nat.le_trans (HF n i) ?_
  refine Nat.le_trans (Nat.pow_le_pow_left hn i) ?_
  have:i≤6:=by simp at hi;omega
  exact Nat.le_trans (Nat.pow_le_pow_right (by omega) this) (by decide)
 rw[List.length_range] at h
 have:(ff n).length≤(n+1)*46656:=h
 omega
theorem Ti{c:Case}(h:c.OK):(bA c).length≤326592:=Nat.le_trans (List.length_filterMap_le _ _) (Th h.jF)
def Zz(a b:Int)(o:List Int):Nat:=if bU o a<0∨bU o b<0 then 0 else if bU o a<bU o b then 1 else 2
def YV(a b:Int)(j:Nat)(ps:List (List Int×List aY)):Nat:=ps.countP fun p=>decide (Zz a b p.1=j)
theorem BP(a b:Int)(j:Nat)(ps:List (List Int×List aY))(p:List Int×List aY):YV a b j (ps++[p])=YV a b j ps+if Zz a b p.1=j then 1 else 0:=by simp[YV,List.countP_append,List.countP_cons]
theorem Tj(a b:Int)(o:List Int):Zz a b o<3:=by unfold Zz;split<;>(try split)<;>omega
def IY(n1 n2:Nat):Int:=if 0<n1∧n2=0 then 1 else if 0<n2∧n1=0 then 2 else 0
def tS(c:Case)(a b:Int):R2:=
 if bC c≠0 then ⟨0,bC c⟩ else
 if out 0 ((c.an.length:Int) - 1) [a,b] then ⟨0,4⟩ else
 if a=b then ⟨0,2⟩ else
 if bA c=[] then ⟨0,8⟩ else ⟨IY (YV a b 1 (bA c)) (YV a b 2 (bA c)),0⟩
theorem Tk(c:Case)(a b:Int):aA Tryz.prog 20 [fc c,I a,I b] (IW (tS c a b)):=by
 refine pc t20 (by simp) fun hfit=> ?_
 have lS:=cP (iy (hfit 0) 2)
 simp only[List.length_map] at lS
 obtain⟨R,hR⟩:∃R,R=tS c a b:=⟨_,rfl⟩
 rw[←hR]
 unfold tS at hR
 simp -implicitDefEqProofs only[Fe]
 refine au (fun st=>st.env 3=bI c∧st.env 4=.ref [I a]∧st.env 5=.ref [I b]) ?_ ?_
 ·intro k hk
  simp -implicitDefEqProofs
  exact hk _ (by simp)
 rintro s ⟨e3,e4,e5⟩
 by_cases he:bC c=0
 case neg=>
  rw[if_pos he] at hR
  have hc:=aaf he
  obtain⟨E,hE⟩:∃E,E=bC c:=⟨_,rfl⟩
  rw[←hE] at hc hR he
  have he':(E != 0)=true:=by simp[he]
  simp -implicitDefEqProofs [e3]
  refine aj hc ?_
  simp -implicitDefEqProofs [he',nh,hR]
 rw[if_neg (not_not_intro he)] at hR
 have hok:=Case.ok he
 have eC:=hok.jF
 refine au (fun st=>st.env 3=bI c∧st.env 4=.ref [I a]∧st.env 5=.ref [I b]∧st.env 8=aZ c∧st.env 9=I 0) ?_ ?_
 ·intro k hk
  simp -implicitDefEqProofs [e3]
  refine aj (aae he) ?_
  simp -implicitDefEqProofs
  exact hk _ (by simp[e3,e4,e5])
 rintro s ⟨e3,e4,e5,e8,e9⟩
 refine au (fun st=>st.env 4=.ref [I a]∧st.env 5=.ref [I b]∧st.env 8=aZ c∧out 0 ((c.an.length:Int) - 1) [a,b]=false∧a≠b) ?_ ?_
 ·intro k hk
  simp -implicitDefEqProofs [e3,e4,e5,e9]
  refine⟨i64 (by omega) (by omega),aj (Zv 0 ((c.an.length:Int) - 1) [a,b]) ?_⟩
  cases ho:out 0 ((c.an.length:Int) - 1) [a,b] with
  |true=>
   rw[ho,if_pos rfl] at hR
   simp -implicitDefEqProofs [nh,hR]
  |false=>
   rw[ho,if_neg (by simp)] at hR
   by_cases hab:a=b
   ·rw[if_pos hab] at hR
    have BQ:(a==b)=true:=by simp[hab]
    simp -implicitDefEqProofs [e4,e5,BQ,nh,hR]
   ·have BQ:(a==b)=false:=by simp[hab]
    simp -implicitDefEqProofs [e4,e5,BQ]
    exact hk _ ⟨by simp[e4],by simp[e5],by simp[e8],ho,hab⟩
 rintro s ⟨e4,e5,e8,ho,hab⟩
 rw[ho,if_neg (by simp),if_neg hab] at hR
 refine au (fun st=>st.env 4=.ref [I a]∧st.env 5=.ref [I b]∧st.env 8=aZ c∧∃q,st.env 10=.Yq q 0∧st.loc q=some [I 0,I 0,I 0]) ?_ ?_
 ·intro k hk
  simp -implicitDefEqProofs
  intro q hq
  exact hk _ ⟨by simp[e4],by simp[e5],by simp[e8],q,by simp,by simp⟩
 rintro s ⟨e4,e5,e8,q,bF,lq⟩
 obtain⟨C,hC⟩:∃C,C=bA c:=⟨_,rfl⟩
 have hlen:=Ti hok
 have hall:=BK hok
 rw[←hC] at hlen hall hR
 refine au (fun st=>st.env 10=.Yq q 0∧st.loc q=some [I (YV a b 0 C),I (YV a b 1 C),I (YV a b 2 C)]) ?_ ?_
 ·intro k0 aX
  have o4:=e4
  have o5:=e5
  have wB:=bF
  simp -implicitDefEqProofs [e8]
  refine aj (BN c) ?_
  simp -implicitDefEqProofs
  refine s_ _ (fun k st=>st.env 4=.ref [I a]∧st.env 5=.ref [I b]∧st.env 10=.Yq q 0∧st.loc q=some [I (YV a b 0 (C.take k)),I (YV a b 1 (C.take k)),I (YV a b 2 (C.take k))]) hall ?_ ?_ ?_ ?_
  ·intro y hy
   rw[List.mem_map] at hy
   obtain⟨p,_,rfl⟩:=hy
   exact⟨rfl,rfl⟩
  ·simp[e4,e5,bF,lq,YV]
  ·rintro k st hk - ⟨e4,e5,bF,lq⟩
   have hk:k<C.length:=by simpa using hk
   have dG:=cV hk
   rw[show(C.map (ZV c)).getD k []=ZV c C[k] by simp[hk]]
   have hs0:=BP a b 0 (C.take k) C[k]
   have dx:=BP a b 1 (C.take k) C[k]
   have cK:=BP a b 2 (C.take k) C[k]
   rw[←dG] at hs0 dx cK
   have hb:∀j,YV a b j (C.take k)≤326592:=fun j=>Nat.le_trans (List.countP_le_length) (by simp;omega)
   have hb0:=hb 0
   have dQ:=hb 1
   have YL:=hb 2
   have i1:=pK C[k].1 a
   have i2:=pK C[k].1 b
   have mM:Zz a b C[k].1=if bU C[k].1 a<0∨bU C[k].1 b<0 then 0 else if bU C[k].1 a<bU C[k].1 b then 1 else 2:=rfl
   rw[hs0,dx,cK]
   generalize Zz a b C[k].1=cat at*
   generalize bU C[k].1 a=x at*
   generalize bU C[k].1 b=y at*
   generalize C[k]=p at*
   generalize YV a b 0 (C.take k)=n0 at*
   generalize YV a b 1 (C.take k)=n1 at*
   generalize YV a b 2 (C.take k)=n2 at*
   simp -implicitDefEqProofs [e4]
   refine aj i1 ?_
   simp -implicitDefEqProofs [e5]
   refine aj i2 ?_
   by_cases hx:x<0
   ·have hc0:cat=0:=by rw[mM,if_pos (.inl hx)]
    subst hc0
    simp -implicitDefEqProofs [hx,bF,lq]
    refine⟨i64 (by omega) (by omega),?_⟩
    simp[o4,o5,wB]
   by_cases hy:y<0
   ·have hc0:cat=0:=by rw[mM,if_pos (.inr hy)]
    subst hc0
    simp -implicitDefEqProofs [hx,hy,bF,lq]
    refine⟨i64 (by omega) (by omega),?_⟩
    simp[o4,o5,wB]
   rw[if_neg (by omega)] at mM
   by_cases hxy:x<y
   ·rw[if_pos hxy] at mM
    subst mM
    simp -implicitDefEqProofs [hx,hy,hxy,bF,lq]
    refine⟨i64 (by omega) (by omega),?_⟩
    simp[o4,o5,wB]
   ·rw[if_neg hxy] at mM
    subst mM
    simp -implicitDefEqProofs [hx,hy,hxy,bF,lq]
    refine⟨i64 (by omega) (by omega),?_⟩
    simp[o4,o5,wB]
  ·rintro st - ⟨e4,e5,bF,lq⟩
   rw[show(C.map (ZV c)).length=C.length by simp,List.take_length] at lq
   exact aX _ ⟨bF,lq⟩
 rintro s ⟨bF,lq⟩
 have IZ:YV a b 0 C+YV a b 1 C+YV a b 2 C=C.length:=by
  clear hlen hall hR lq hC
  induction C with
  |nil=>rfl
  |cons p C ih=>
   have:=Tj a b p.1
   simp only[YV,List.countP_cons,List.length_cons] at ih⊢
   have h3:(if decide (Zz a b p.1=0)=true then 1 else 0)+(if decide (Zz a b p.1=1)=true then 1 else 0)+(if decide (Zz a b p.1=2)=true then 1 else 0)=1:=by rcases(by omega:Zz a b p.1=0∨Zz a b p.1=1∨Zz a b p.1=2) with h|h|h<;>simp[h]
   omega
 generalize YV a b 0 C=n0 at*
 generalize YV a b 1 C=n1 at*
 generalize YV a b 2 C=n2 at*
 by_cases hz:C=[]
 ·rw[if_pos hz] at hR
  rw[hz] at IZ
  simp only[List.length_nil] at IZ
  obtain⟨rfl,rfl,rfl⟩:n0=0∧n1=0∧n2=0:=by omega
  simp -implicitDefEqProofs [bF,lq,nh,hR]
 rw[if_neg hz] at hR
 have hpos:0<C.length:=List.length_pos_iff.2 hz
 unfold IY at hR
 have XW:((n0:Int)==0&&((n1:Int)==0&&(n2:Int)==0))=false:=by
  rw[Bool.eq_false_iff]
  intro h
  simp at h
  omega
 by_cases p1:0<n1
 ·have z1:((n1:Int)==0)=false:=by simp;omega
  by_cases p2:0<n2
  ·have z2:((n2:Int)==0)=false:=by simp;omega
   rw[if_neg (by omega),if_neg (by omega)] at hR
   simp -implicitDefEqProofs [bF,lq,p1,p2,z1,z2,nh,hR]
  ·obtain rfl:n2=0:=by omega
   rw[if_pos ⟨p1,rfl⟩] at hR
   simp -implicitDefEqProofs [bF,lq,p1,z1,nh,hR]
 ·obtain rfl:n1=0:=by omega
  by_cases p2:0<n2
  ·have z2:((n2:Int)==0)=false:=by simp;omega
   rw[if_neg (by omega),if_pos ⟨p2,rfl⟩] at hR
   simp -implicitDefEqProofs [bF,lq,p2,z2,nh,hR]
  ·obtain rfl:n2=0:=by omega
   rw[if_neg (by omega),if_neg (by omega)] at hR
   have z0:((n0:Int)==0)=false:=by simp;omega
   simp -implicitDefEqProofs [bF,lq,z0,nh,hR]
end Go.Proofs.YtpeikknjbnnnnaaGreat.O
namespace Go.Proofs.YtpeikknjbnnnnaaGreat.O
open Go.az
theorem Tl{s:St}{K:AV→St→Prop}{l:List Mk}(hl:l.length≤9)
  (hK:∀s2,Old s s2→K (.slice 4 (l.map cT) 3) (back s s2)):
  YZ Tryz.prog 85 [.slice 4 (l.map cT) 0] s K:=by
 refine ic t85 (by simp) fun _=> ?_
 simp -implicitDefEqProofs [F6]
 refine⟨fun hn=> ?_,by omega,by omega,?_⟩
 ·subst hn
  simp -implicitDefEqProofs [dj,Ay]
  refine hK _ ⟨fun c cs hc he=> ?_,fun l es q hg=>by simp[hg]⟩
  simp[hc,fW he]
 ·simp -implicitDefEqProofs [dj,Ay]
  refine hK _ ⟨fun c cs hc he=> ?_,fun l es q hg=>by simp[hg]⟩
  simp[hc,fW he]
def gO(l:List Mk):List AV:=l.flatMap fun m=>[I m.owner,I m.lo,I m.hi,I m.upon]
theorem I0(l:List Mk):(gO l).length=4*l.length:=by
 induction l with
 |nil=>rfl
 |cons a l ih=>simp only[gO,List.flatMap_cons,List.length_append,List.length_cons,List.length_nil] at ih⊢;omega
theorem I1(l:List Mk):∀x∈gO l,∃m,x=I m:=by
 intro x hx
 simp only[gO,List.mem_flatMap] at hx
 obtain⟨h,_,hx⟩:=hx
 simp at hx
 rcases hx with rfl|rfl|rfl|rfl<;>exact⟨_,rfl⟩
theorem I2:∀(l:List Mk) (rest:List AV),chunk 4 (gO l++rest) l.length=l.map cT
 |[],_=>rfl
 |a::l,rest=>by
  have ih:=I2 l rest
  show(if _ then _ else _)::chunk 4 ((gO (a::l)++rest).drop 4) l.length=_
  have e:(gO (a::l)++rest).drop 4=gO l++rest:=rfl
  rw[e,ih]
  rfl
def Zf(m:Mk)(y:Int):Mk:=⟨m.owner,y,y,m.upon⟩
theorem I3:∀(l:List Mk) (rest:List AV) (i:Nat) (h:i<l.length) (y:Int),((gO l++rest).set (i*4+1) (I y)).set (i*4+1+1) (I y)=gO (l.set i (Zf l[i] y))++rest
 |a::l,rest,0,h,y=>rfl
 |a::l,rest,i+1,h,y=>by
  have ih:=I3 l rest i (by simpa using h) y
  have e:(i+1)*4+1=i*4+1+4:=by omega
  rw[e]
  show I a.owner::I a.lo::I a.hi::I a.upon::((gO l++rest).set (i*4+1) (I y)).set (i*4+1+1) (I y)=_
  rw[ih];rfl
theorem Tm{s:St}{K:AV→St→Prop}{l:List Mk}(hl:l.length≤9)(hne:l≠[])
  (hK:∀s2 b r,Old s s2→fL s b→s2.loc b=some (gO l++(List.replicate r [I 0,I 0,I 0,I 0]).flatten)→K (.aP b 0 l.length (l.length+r) 4) (back s s2)):
  YZ Tryz.prog 85 [.slice 4 (l.map cT) 0] s K:=by
 refine ic RI (by simp) fun _=> ?_
 have hO:Old s s:=⟨fun _ _ h _=>h,fun _ _ _ h=>h⟩
 simp -implicitDefEqProofs [F7]
 refine⟨fun e=>absurd e hne,?_⟩
 intro b1 dQ
 refine⟨hne,by omega,by omega,?_⟩
 intro b r hb
 have I4:s.loc b1=none:=by simpa using dQ
 have eD:¬b=b1∧s.loc b=none:=by
  by_cases e:b=b1
  ·subst e;simp at hb
  ·exact⟨e,by simpa[e] using hb⟩
 have o9:List.map AV.erase0 (List.flatMap AV.cells (List.map cT l))=gO l:=by rw[List.flatMap_map,←ov (I1 l)];rfl
 simp -implicitDefEqProofs [dj,F8,o9]
 refine hK _ b r ⟨fun c cs hc he=> ?_,fun l es q hg=>by simp[hg]⟩ (hO.new eD.2) (by simp)
 have c1:¬c=b1:=by rintro rfl;rw[hc] at I4;cases I4
 have c2:¬c=b:=by rintro rfl;rw[hc] at eD;cases eD.2
 simp[hc,c1,c2,fW he]
def YR(c:Case)(i:Nat)(y:Int):Case:={c with marks:=c.marks.set i (Zf (c.marks.getD i dF) y)}
theorem wC{c:Case}(h:c.OK){i:Nat}{y:Int}(hy:c.printed≤y∧y≤c.now):(YR c i y).OK:=by
 refine⟨h.years,h.jF,h.an,by simp[YR];exact h.oh,fun m hm=> ?_,fun j hj=> ?_,h.aav,h.ak⟩
 ·rcases List.mem_or_eq_of_mem_set hm with hm|rfl
  ·exact h.marks m hm
  ·by_cases hi:i<c.marks.length
   ·have:=h.marks _ (List.getElem_mem hi)
    rw[eF hi]
    exact⟨this.1,this.2.1,hy.1,Int.le_refl _,hy.2⟩
   ·have:YR c i y=c:=by
     unfold YR
     rw[List.set_eq_of_length_le (by omega)]
    have hm':(Zf (c.marks.getD i dF) y)∈c.marks:=by rw[this] at hm;exact hm
    exact h.marks _ hm'
 ·have hj':j<c.marks.length:=by simpa[YR] using hj
  have hu:=h.upon j hj'
  show -1≤((c.marks.set i (Zf (c.marks.getD i dF) y))[j]'(by simpa using hj')).upon∧((c.marks.set i (Zf (c.marks.getD i dF) y))[j]'(by simpa using hj')).upon<j
  rw[List.getElem_set]
  by_cases e:i=j
  ·subst e
   rw[if_pos rfl,eF hj']
   exact hu
  ·rw[if_neg e];exact hu
theorem Tn{c:Case}(h:c.OK){i:Nat}(hi:i<c.marks.length){y:Int}(hy:c.printed≤y∧y≤c.now):aA Tryz.prog 55 [aZ c,I i,I y] (B (cF (YR c i y))):=by
 refine pc t55 (by simp) fun _=> ?_
 have pP:=h.oh
 have hc:=p0 (wC (i:=i) h hy)
 generalize hB:cF (YR c i y)=Q at*
 have hne:c.marks≠[]:=by intro e;rw[e] at hi;simp at hi
 simp -implicitDefEqProofs [FI]
 intro b7
 refine Tm pP hne fun s2 b r hO hn lb=> ?_
 have l7:=hO.l b7 _ (by simp;rfl) (by simp)
 have BR:¬b7=b:=by rintro rfl;exact hn _ (by simp;rfl) (by simp)
 have I5:¬b=b7:=fun e=>BR e.symm
 obtain⟨rest,de⟩:∃rest,rest=(List.replicate r [I 0,I 0,I 0,I 0]).flatten:=⟨_,rfl⟩
 have To:∀x∈rest,∃m,x=I m:=by
  rw[de]
  intro x hx
  simp only[List.mem_flatten,List.mem_replicate] at hx
  obtain⟨l,⟨_,rfl⟩,hx⟩:=hx
  simp at hx
  exact⟨0,hx⟩
 rw[←de] at lb
 have hlen:(gO c.marks++rest).length=4*c.marks.length+rest.length:=by rw[List.length_append,I0]
 have cL:=I3 c.marks rest i hi y
 have hi4:i*4+1+2≤(gO c.marks++rest).length:=by omega
 have hin:YR c i y={c with marks:=c.marks.set i (Zf c.marks[i] y)}:=by unfold YR;rw[eF hi]
 rw[hin] at hc
 have j8:=I2 (c.marks.set i (Zf c.marks[i] y)) rest
 rw[List.length_set] at j8
 have Tp:∀x∈gO (c.marks.set i (Zf c.marks[i] y))++rest,∃m,x=I m:=fun x hx=>(List.mem_append.1 hx).elim (I1 _ x) (To x)
 have tT:(gO (c.marks.set i (Zf c.marks[i] y))++rest).length=4*c.marks.length+rest.length:=by rw[List.length_append,I0,List.length_set]
 rw[List.length_append] at hi4
 simp -implicitDefEqProofs [l7,lb,BR,I5,hi,cL]
 refine⟨by omega,?_⟩
 generalize c.marks.set i (Zf c.marks[i] y)=ms at*
 refine vH 3 b c.marks.length (c.marks.length+r) 4 rfl I5 (by simp) (by rw[tT];omega) (Bt Tp) (by omega) ?_
 rw[j8]
 simp -implicitDefEqProofs [aq,BR]
 refine tg ?_
 simp -implicitDefEqProofs [aq]
 refine aj hc ?_
 simp -implicitDefEqProofs [FJ]
end Go.Proofs.YtpeikknjbnnnnaaGreat.O
namespace Go.Proofs.YtpeikknjbnnnnaaGreat.O
open Go.az
def YW(c:Case)(o:Nat)(y:Int):Case:={c with marks:=c.marks++[⟨o,y,y,-1⟩]}
theorem BS{c:Case}(h:c.OK)(h8:c.marks.length≤8){o:Nat}(ho:o<c.an.length){y:Int}(hy:c.printed≤y∧y≤c.now):(YW c o y).OK:=by
 refine⟨h.years,h.jF,h.an,by simp[YW];omega,fun m hm=> ?_,fun j hj=> ?_,h.aav,h.ak⟩
 ·rcases List.mem_append.1 hm with hm|hm
  ·exact h.marks m hm
  ·rw[List.mem_singleton] at hm
   subst hm
   show(0:Int)≤o∧(o:Int)<c.an.length∧c.printed≤y∧y≤y∧y≤c.now
   omega
 ·have hj':j<c.marks.length+1:=by simpa[YW] using hj
  show -1≤((c.marks++[(⟨o,y,y,-1⟩:Mk)])[j]'(by simpa using hj')).upon∧((c.marks++[(⟨o,y,y,-1⟩:Mk)])[j]'(by simpa using hj')).upon<j
  by_cases e:j<c.marks.length
  ·rw[List.getElem_append_left e];exact h.upon j e
  ·rw[List.getElem_append_right (by omega)]
   simp;omega
def Zg(c:Case)(y:Int):List Int:=dL (fun o=>cF (YW c o y)) c.an.length
def upTo(p:Int→Bool)(lo:Int):Nat→Int
 |0=>lo
 |n+1=>if p lo then lo else upTo p (lo+1) n
def gy(p:Int→Bool)(hi:Int):Nat→Int
 |0=>hi
 |n+1=>if p hi then hi else gy p (hi - 1) n
theorem wD(p:Int→Bool):∀(n:Nat) (lo:Int),lo≤upTo p lo n∧upTo p lo n≤lo+n
 |0,lo=>by simp[upTo]
 |n+1,lo=>by
  have:=wD p n (lo+1)
  unfold upTo
  split<;>omega
theorem BT(p:Int→Bool):∀(n:Nat) (hi:Int),hi - n≤gy p hi n∧gy p hi n≤hi
 |0,hi=>by simp[gy]
 |n+1,hi=>by
  have:=BT p n (hi - 1)
  unfold gy
  split<;>omega
structure R3 where
 a:Int
 b:Int
 e:Int
abbrev Tq(r:R3):AV:=.tuple [pE r.a r.b,I r.e]
def gz(c:Case)(i:Nat)(y:Int):Bool:=cF (YR c i y)
def jL(c:Case)(i:Nat):Int:=upTo (gz c i) (c.marks.getD i dF).lo ((c.marks.getD i dF).hi - (c.marks.getD i dF).lo).toNat
def rB(c:Case)(i:Nat):Int:=gy (gz c i) (c.marks.getD i dF).hi ((c.marks.getD i dF).hi - jL c i).toNat
def aaq(c:Case)(i:Int):R3:=
 if bC c≠0 then ⟨0,0,bC c⟩ else
 if out 0 ((c.marks.length:Int) - 1) [i] then ⟨0,0,4⟩ else
 if cF c=false then ⟨0,0,8⟩ else ⟨jL c i.toNat,rB c i.toNat,0⟩
theorem I6(c:Case)(i:Int):aA Tryz.prog 21 [fc c,I i] (Tq (aaq c i)):=by
 refine pc t21 (by simp) fun hfit=> ?_
 have lM:=cP (iy (hfit 0) 3)
 simp only[List.length_map] at lM
 obtain⟨R,hR⟩:∃R,R=aaq c i:=⟨_,rfl⟩
 rw[←hR]
 unfold aaq at hR
 simp -implicitDefEqProofs only[Ff]
 refine au (fun st=>st.env 1=I i∧st.env 2=bI c∧∃q,st.env 4=.Yq q 0∧st.loc q=some [I 0,I 0]) ?_ ?_
 ·intro k hk
  simp -implicitDefEqProofs
  intro q
  exact hk _ ⟨by simp,by simp,q,by simp,by simp⟩
 rintro s ⟨e1,e2,q,e4,lq⟩
 by_cases he:bC c=0
 case neg=>
  rw[if_pos he] at hR
  have hc:=aaf he
  obtain⟨E,hE⟩:∃E,E=bC c:=⟨_,rfl⟩
  rw[←hE] at hc hR he
  have he':(E != 0)=true:=by simp[he]
  simp -implicitDefEqProofs [e2]
  refine aj hc ?_
  simp -implicitDefEqProofs [e4,lq,he',tj,hR]
 rw[if_neg (not_not_intro he)] at hR
 have hok:=Case.ok he
 have pP:=hok.oh
 have hs:=p0 hok
 refine au (fun st=>st.env 1=I i∧st.env 2=bI c∧st.env 4=.Yq q 0∧st.loc q=some [I 0,I 0]∧st.env 6=aZ c∧st.env 5=I 0) ?_ ?_
 ·intro k hk
  simp -implicitDefEqProofs [e2]
  refine aj (aae he) ?_
  simp -implicitDefEqProofs
  exact hk _ (by simp[e1,e2,e4,lq])
 rintro s ⟨e1,e2,e4,lq,e6,e5⟩
 refine au (fun st=>st.env 1=I i∧st.env 2=bI c∧st.env 4=.Yq q 0∧st.loc q=some [I 0,I 0]∧st.env 6=aZ c∧out 0 ((c.marks.length:Int) - 1) [i]=false∧cF c=true) ?_ ?_
 ·intro k hk
  simp -implicitDefEqProofs [e1,e2,e5]
  refine⟨i64 (by omega) (by omega),aj (Zv 0 ((c.marks.length:Int) - 1) [i]) ?_⟩
  cases ho:out 0 ((c.marks.length:Int) - 1) [i] with
  |true=>
   rw[ho,if_pos rfl] at hR
   simp -implicitDefEqProofs [e4,lq,tj,hR]
  |false=>
   rw[ho,if_neg (by simp)] at hR
   simp -implicitDefEqProofs [e6]
   refine aj hs ?_
   cases hb:cF c with
   |false=>
    rw[hb,if_pos rfl] at hR
    simp -implicitDefEqProofs [e4,lq,tj,hR]
   |true=>
    simp -implicitDefEqProofs
    exact hk _ ⟨by simp[e1],by simp[e2],by simp[e4],by simp[lq],by simp[e6],ho,hb⟩
 rintro s ⟨e1,e2,e4,lq,e6,ho,hb⟩
 rw[ho,if_neg (by simp),hb,if_neg (by simp)] at hR
 have hi:=wA ho i (by simp)
 obtain⟨n,rfl⟩:∃n:Nat,i=n:=⟨i.toNat,by omega⟩
 have hn:n<c.marks.length:=by omega
 rw[Int.toNat_natCast] at hR
 have hmk:=hok.marks _ (List.getElem_mem hn)
 have hy:=hok.years
 unfold rB at hR
 obtain⟨L,hL⟩:∃L,L=jL c n:=⟨_,rfl⟩
 rw[←hL] at hR
 unfold jL at hL
 rw[eF hn] at hL hR
 have I7:∀y,c.printed≤y∧y≤c.now→aA Tryz.prog 55 [aZ c,I n,I y] (B (gz c n y)):=fun y hy=>Tn hok hn hy
 generalize gz c n=p at*
 generalize hm:c.marks[n]=m at*
 refine au (fun st=>st.env 1=I n∧st.env 4=.Yq q 0∧st.loc q=some [I L,I m.hi]∧st.env 6=aZ c∧m.lo≤L∧L≤m.hi) ?_ ?_
 ·intro k0 aX
  simp -implicitDefEqProofs [e1,e2,e4,lq,hn,hm]
  refine bw (m.hi - m.lo).toNat (fun k st=>st.env 1=I n∧st.env 4=.Yq q 0∧st.env 6=aZ c∧∃lo,st.loc q=some [I lo,I m.hi]∧lo=m.lo+k∧L=upTo p lo ((m.hi - m.lo).toNat - k)) ?_ ?_
  ·simp[e1,e4,e6,hL]
  rintro k s hk ⟨e1,e4,e6,lo,lq,hlo,hL⟩
  have hin:=wD p ((m.hi - m.lo).toNat - k) lo
  by_cases hlt:lo<m.hi
  ·have hkk:(m.hi - m.lo).toNat - k=((m.hi - m.lo).toNat - (k+1))+1:=by omega
   have hc:=I7 lo (by omega)
   rw[hkk] at hL
   unfold upTo at hL
   simp -implicitDefEqProofs [e1,e4,e6,lq,hlt]
   refine aj hc ?_
   simp -implicitDefEqProofs
   cases hp:p lo with
   |true=>
    rw[hp,if_pos rfl] at hL
    simp -implicitDefEqProofs
    exact aX _ ⟨by simp[e1],by simp[e4],by simp[lq,hL],by simp[e6],by omega,by omega⟩
   |false=>
    rw[hp,if_neg (by simp)] at hL
    simp -implicitDefEqProofs [e4,lq]
    refine⟨i64 (by omega) (by omega),aN (by omega) ⟨by simp[e1],by simp[e4],by simp[e6],?_⟩⟩
    simp
    exact⟨by omega,hL⟩
  ·have hz:(m.hi - m.lo).toNat - k=0:=by omega
   rw[hz] at hL
   have hL:L=lo:=hL
   simp -implicitDefEqProofs [e4,lq,hlt]
   exact aX _ ⟨by simp[e1],by simp[e4],by simp[lq,hL],by simp[e6],by omega,by omega⟩
 rintro s ⟨e1,e4,lq,e6,XX,XY⟩
 clear hL
 obtain⟨H,hH⟩:∃H,H=gy p m.hi (m.hi - L).toNat:=⟨_,rfl⟩
 rw[←hH] at hR
 refine au (fun st=>st.env 4=.Yq q 0∧st.loc q=some [I L,I H]) ?_ ?_
 ·intro k0 aX
  simp -implicitDefEqProofs
  refine bw (m.hi - L).toNat (fun k st=>st.env 1=I n∧st.env 4=.Yq q 0∧st.env 6=aZ c∧∃hi,st.loc q=some [I L,I hi]∧hi=m.hi - k∧H=gy p hi ((m.hi - L).toNat - k)) ?_ ?_
  ·simp[e1,e4,e6,lq,hH]
  rintro k s hk ⟨e1,e4,e6,hi',lq,hhi,hH⟩
  have hin:=BT p ((m.hi - L).toNat - k) hi'
  by_cases hlt:L<hi'
  ·have hkk:(m.hi - L).toNat - k=((m.hi - L).toNat - (k+1))+1:=by omega
   have hc:=I7 hi' (by omega)
   rw[hkk] at hH
   unfold gy at hH
   simp -implicitDefEqProofs [e1,e4,e6,lq,hlt]
   refine aj hc ?_
   simp -implicitDefEqProofs
   cases hp:p hi' with
   |true=>
    rw[hp,if_pos rfl] at hH
    simp -implicitDefEqProofs
    exact aX _ ⟨by simp[e4],by simp[lq,hH]⟩
   |false=>
    rw[hp,if_neg (by simp)] at hH
    simp -implicitDefEqProofs [e4,lq]
    refine⟨i64 (by omega) (by omega),aN (by omega) ⟨by simp[e1],by simp[e4],by simp[e6],?_⟩⟩
    simp
    exact⟨by omega,hH⟩
  ·have hz:(m.hi - L).toNat - k=0:=by omega
   rw[hz] at hH
   have hH:H=hi':=hH
   simp -implicitDefEqProofs [e4,lq,hlt]
   exact aX _ ⟨by simp[e4],by simp[lq,hH]⟩
 rintro s ⟨e4,lq⟩
 simp -implicitDefEqProofs [e4,lq,tj,hR]
end Go.Proofs.YtpeikknjbnnnnaaGreat.O
namespace Go.Proofs.YtpeikknjbnnnnaaGreat.O
open Go.az
structure rC (cs:List AV) (l:List Int) (cap:Nat):Prop where
 le:l.length≤cap
 len:cs.length=cap
 cells:cs.take l.length=l.map I
 num:∀x∈cs,∃m,x=I m
theorem I8(x:Int)(r:Nat):rC (I x::(List.replicate r [I 0]).flatten) [x] (1+r):=by
 refine⟨by simp,by simp;omega,by simp,fun y hy=> ?_⟩
 rcases List.mem_cons.1 hy with rfl|hy
 ·exact⟨_,rfl⟩
 ·simp only[List.mem_flatten,List.mem_replicate] at hy
  obtain⟨l,⟨_,rfl⟩,hy⟩:=hy
  simp at hy
  exact⟨0,hy⟩
theorem Tr{cs:List AV}{l:List Int}{cap:Nat}(h:rC cs l cap)(x:Int)(hr:l.length+1≤cap):rC (cs.set l.length (I x)) (l++[x]) cap:=by
 have hlen:=h.len
 refine⟨by simpa using hr,by simpa using hlen,?_,fun y hy=> ?_⟩
 ·have hl:l.length<cs.length:=by omega
  rw[List.length_append,List.length_cons,List.length_nil,List.take_succ_eq_append_getElem (by simpa using hl),List.take_set_of_le (Nat.le_refl _),h.cells]
  simp
 ·rcases List.mem_or_eq_of_mem_set hy with hy|rfl
  ·exact h.num y hy
  ·exact⟨_,rfl⟩
theorem Ts{cs:List AV}{l:List Int}{cap:Nat}(h:rC cs l cap)(x:Int)(r:Nat):rC ((cs.take l.length).map AV.erase0++I x::(List.replicate r [I 0]).flatten) (l++[x]) (l.length+1+r):=by
 have hn:=I8 x r
 have hm:(l.map I).map AV.erase0=l.map I:=by simp
 rw[h.cells,hm]
 refine⟨by simp,by simp;omega,?_,fun y hy=> ?_⟩
 ·rw[List.map_append,List.take_append,List.take_of_length_le (by simp)]
  simp
 ·rcases List.mem_append.1 hy with hy|hy
  ·rw[List.mem_map] at hy
   obtain⟨m,_,rfl⟩:=hy
   exact⟨m,rfl⟩
  ·exact hn.num y hy
def p6(l:List Int)(s:St):Prop:=(l=[]∧s.env 4=.lit (.slice none 0 0))∨∃b cap cs,l≠[]∧s.env 4=.aP b 0 l.length cap 1∧s.loc b=some cs∧rC cs l cap
theorem I9:∀(l:List Int) (cs:List AV),cs.take l.length=l.map I→chunk 1 cs l.length=l.map I
 |[],_,_=>rfl
 |a::l,[],h=>by simp at h
 |a::l,x::cs,h=>by
  simp only[List.length_cons,List.take_succ_cons,List.map_cons,List.cons.injEq] at h
  have ih:=I9 l cs h.2
  rw[h.1]
  unfold chunk
  simp[ih]
theorem p6.old{l:List Int}{s s':St}(h:p6 l s)(e:s'.env 4=s.env 4)(hl:∀c cs,s.loc c=some cs→cs.map AV.erase0=cs→s'.loc c=some cs):p6 l s':=by
 rcases h with ⟨h1,h2⟩|⟨b,cap,cs,h1,h2,h3,h4⟩
 ·exact .inl ⟨h1,e.trans h2⟩
 ·exact .inr ⟨b,cap,cs,h1,e.trans h2,hl b cs h3 (ov h4.num),h4⟩
structure WJ (c:Case) (y:Int) (n k:Nat) (l:List Int) (s:St):Prop where
 e:s.env 0=aZ c∧s.env 1=I y∧s.env 12=I n∧s.env 13=I k
 out:p6 l s
theorem WJ.ext{c:Case}{y:Int}{n k:Nat}{l:List Int}{s s':St}(h:WJ c y n k l s)(he:∀j∈[0,1,4,12,13],s'.env j=s.env j)(hl:∀c cs,s.loc c=some cs→cs.map AV.erase0=cs→s'.loc c=some cs):WJ c y n k l s':=by
 simp only[List.mem_cons,List.not_mem_nil,or_false,forall_eq_or_imp,forall_eq] at he
 obtain⟨a0,a1,a4,Tt,Tu⟩:=he
 obtain⟨e0,e1,aQ,aR⟩:=h.e
 exact⟨⟨a0.trans e0,a1.trans e1,Tt.trans aQ,Tu.trans aR⟩,h.out.old a4 hl⟩
theorem p6.ne{l:List Int}{s:St}(h:p6 l s){b:Nat}{cs:List AV}(hb:s.loc b=some cs)(hx:∃x∈cs,∀m,x≠I m):∀s':St,s'.env 4=s.env 4→(∀c cs,c≠b→s.loc c=some cs→cs.map AV.erase0=cs→s'.loc c=some cs)→p6 l s':=by
 intro s' e hl
 rcases h with ⟨h1,h2⟩|⟨b2,cap,bW,h1,h2,h3,h4⟩
 ·exact .inl ⟨h1,e.trans h2⟩
 ·refine .inr ⟨b2,cap,bW,h1,e.trans h2,hl b2 bW ?_ h3 (ov h4.num),h4⟩
  rintro rfl
  rw[hb] at h3
  injection h3 with h3
  subst h3
  obtain⟨x,hx,hn⟩:=hx
  obtain⟨m,hm⟩:=h4.num x hx
  exact hn m hm
theorem BU{c:Case}(h:c.OK)(h8:c.marks.length≤8){y:Int}(hy:c.printed≤y∧y≤c.now):aA Tryz.prog 56 [aZ c,I y] (IL (Zg c y)):=by
 refine pc t56 (by simp) fun _=> ?_
 have ZU:=h.jF
 obtain⟨n,hn⟩:∃n,n=c.an.length:=⟨_,rfl⟩
 unfold Zg
 have hc:∀k,k<n→aA Tryz.prog 54 [aZ (YW c k y)] (B (cF (YW c k y))):=fun k hk=>p0 (BS h h8 (by omega) hy)
 have fZ:∀k:Nat,aZ (YW c k y)=.ref [I c.printed,I c.now,.slice 3 (c.an.map fK) 0,.slice 4 (c.marks.map cT++[.agg [I k,I y,I y,I (-1)]]) 0,.slice 3 (c.ak.map bQ) 0,.fmap (pO c)]:=fun k=>by
  show AV.ref (cU (YW c k y)++[.fmap (pO c)])=_
  simp[YW]
 generalize hp:(fun o=>cF (YW c o y))=p at*
 have jE:∀k,cF (YW c k y)=p k:=fun k=>by rw[←hp]
 rw[←hn] at ZU⊢
 have pP:=h.oh
 simp -implicitDefEqProofs only[FK]
 refine au (fun st=>st.env 0=aZ c∧st.env 1=I y∧st.env 4=.lit (.slice none 0 0)) ?_ ?_
 ·intro k0 aX
  simp -implicitDefEqProofs
  exact aX _ (by simp)
 rintro s ⟨e0,e1,e4⟩
 refine au (fun st=>WJ c y n n (dL p n) st) ?_ ?_
 ·intro k0 aX
  simp -implicitDefEqProofs [←hn,e0]
  refine bw n (fun k s=>WJ c y n k (dL p k) s) ?_ ?_
  ·exact⟨⟨by simp[e0],by simp[e1],by simp,by simp⟩,.inl ⟨rfl,by simp[e4]⟩⟩
  rintro k s hk hJ
  obtain⟨e0,e1,aQ,aR⟩:=hJ.e
  simp -implicitDefEqProofs [aQ,aR]
  refine bu (fun hlt=> ?_) (fun hge=> ?_)
  ·have hlt:k<n:=by omega
   have ZO:=hc k hlt
   rw[jE k,fZ k] at ZO
   have pH:=aaw p k
   refine kj ?_
   refine au (fun st=>WJ c y n k (dL p k) st∧st.env 5=I k) ?_ ?_
   ·intro k1 aF
    simp -implicitDefEqProofs [aR]
    exact aF _ ⟨hJ.ext (by simp) (by simp+contextual),by simp⟩
   rintro s ⟨hJ,e5⟩
   refine au (fun st=>WJ c y n k (dL p k) st∧st.env 5=I k∧∃b,st.env 6=.Yq b 0∧st.loc b=some (v_ c)) ?_ ?_
   ·intro k1 aF
    obtain⟨e0,e1,aQ,aR⟩:=hJ.e
    simp -implicitDefEqProofs [e0]
    intro b hb
    refine aF _ ⟨hJ.ext (by simp) (fun c cs hc _=> ?_),by simp[e5],b,by simp,by simp⟩
    have:¬c=b:=by rintro rfl;rw[hc] at hb;cases hb
    simp[this,hc]
   rintro s ⟨hJ,e5,b,e6,l6⟩
   refine au (fun st=>WJ c y n k (dL p k) st∧st.env 5=I k∧st.env 6=aZ (YW c k y)) ?_ ?_
   ·intro k1 aF
    obtain⟨e0,e1,aQ,aR⟩:=hJ.e
    have hOut:=hJ.out.ne l6 ⟨_,List.mem_cons_of_mem _ (List.mem_cons_of_mem _ List.mem_cons_self),fun m=>by simp⟩
    simp -implicitDefEqProofs [e0]
    refine Tl pP fun s2 hO=> ?_
    have Tv:=hO.l b (v_ c) (by simp[l6]) (by simp)
    simp -implicitDefEqProofs [e1,e5,e6,Tv]
    refine⟨by omega,by omega,tg ?_⟩
    simp -implicitDefEqProofs
    refine aF _ ⟨⟨⟨?_,?_,?_,?_⟩,?_⟩,?_,?_⟩
    ·simp[aq,e0]
    ·simp[aq,e1]
    ·simp[aq,aQ]
    ·simp[aq,aR]
    ·refine hOut _ ?_ fun c cs hcb h1 h2=> ?_
     ·rcases hJ.out with ⟨_,e4⟩|⟨_,_,_,_,e4,_⟩<;>simp[aq,e4]
     ·have:=hO.l c cs (by simp[h1]) h2
      simp[aq,hcb,this]
      simp only[←List.map_map,fW h2]
    ·simp[aq,e5]
    ·simp[aq,fZ]
   rintro s ⟨hJ,e5,e6⟩
   obtain⟨e0,e1,aQ,aR⟩:=hJ.e
   rw[fZ] at e6
   simp -implicitDefEqProofs [e6]
   refine aj ZO ?_
   have oB:=abd p k
   generalize dL p k=l at*
   cases hpk:p k with
   |false=>
    rw[hpk] at oB
    simp at oB
    simp -implicitDefEqProofs [aR]
    refine⟨i64 (by omega) (by omega),aN hlt ?_⟩
    rw[oB]
    exact⟨⟨by simp[e0],by simp[e1],by simp[aQ],by simp⟩,hJ.out.old (by simp) (by simp+contextual)⟩
   |true=>
    rw[hpk,if_pos rfl] at oB
    rcases hJ.out with ⟨rfl,e4⟩|⟨b,cap,cs,hne,e4,lb,dz⟩
    ·simp -implicitDefEqProofs [e4,e5]
     intro b r hb
     simp -implicitDefEqProofs [aR]
     refine⟨i64 (by omega) (by omega),aN hlt ?_⟩
     rw[oB]
     exact⟨⟨by simp[e0],by simp[e1],by simp[aQ],by simp⟩,.inr ⟨b,1+r,_,by simp,by simp,by simp,I8 k r⟩⟩
    ·have hle:=dz.le
     have hlen:=dz.len
     have I_:=fW (r:=38) (ov dz.num)
     have Tw:List.map (AV.erase0∘aG 38) cs=List.map AV.erase0 cs:=by rw[←List.map_map,I_]
     have hc0:¬cap=0:=by
      have:l.length≠0:=by simpa using hne
      omega
     simp -implicitDefEqProofs [e4,e5,hc0,lb]
     refine⟨by omega,by omega,by omega,fun hr=> ?_,fun hr b' r hb'=> ?_⟩
     ·simp -implicitDefEqProofs [aR]
      refine⟨i64 (by omega) (by omega),aN hlt ?_⟩
      rw[oB]
      exact⟨⟨by simp[e0],by simp[e1],by simp[aQ],by simp⟩,.inr ⟨b,cap,_,by simp,by simp,by simp[I_],Tr dz k hr⟩⟩
     ·simp -implicitDefEqProofs [aR]
      refine⟨i64 (by omega) (by omega),aN hlt ?_⟩
      rw[oB]
      exact⟨⟨by simp[e0],by simp[e1],by simp[aQ],by simp⟩,.inr ⟨b',l.length+1+r,_,by simp,by simp,by simp[Tw],Ts dz k r⟩⟩
  ·obtain rfl:k=n:=by omega
   simp -implicitDefEqProofs
   exact aX _ (hJ.ext (by simp) (by simp+contextual))
 intro s hJ
 have pH:=aaw p n
 generalize dL p n=l at*
 rcases hJ.out with ⟨rfl,e4⟩|⟨b,cap,cs,hne,e4,lb,dz⟩
 ·simp -implicitDefEqProofs [e4]
  refine⟨1,?_⟩
  simp -implicitDefEqProofs [Aq,aq]
 ·have hle:=dz.le
  have hlen:=dz.len
  simp -implicitDefEqProofs [e4,lb]
  refine⟨by omega,fun x hx=>by obtain⟨m,rfl⟩:=dz.num x hx;rfl,by omega,?_⟩
  rw[I9 _ _ dz.cells]
  simp -implicitDefEqProofs [Aq,aq]
end Go.Proofs.YtpeikknjbnnnnaaGreat.O
namespace Go.Proofs.YtpeikknjbnnnnaaGreat.O
open Go.az
structure tU where
 l:List Int
 e:Int
abbrev BV(r:tU):AV:=.tuple [IL r.l,I r.e]
theorem wE{c:Case}(h:bC c=0):c.marks.length≤8:=by
 have:=(pN h).1.h5
 omega
def tV(c:Case)(y:Int):tU:=
 if bC c≠0 then ⟨[],bC c⟩ else
 if out c.printed c.now [y] then ⟨[],7⟩ else
 if cF c=false then ⟨[],8⟩ else ⟨Zg c y,0⟩
theorem Tx(c:Case)(y:Int):aA Tryz.prog 22 [fc c,I y] (BV (tV c y)):=by
 refine pc t22 (by simp) fun hfit=> ?_
 obtain⟨R,hR⟩:∃R,R=tV c y:=⟨_,rfl⟩
 rw[←hR]
 unfold tV at hR
 simp -implicitDefEqProofs only[Fg]
 refine au (fun st=>st.env 1=I y∧st.env 2=bI c) ?_ ?_
 ·intro k hk
  simp -implicitDefEqProofs
  exact hk _ (by simp)
 rintro s ⟨e1,e2⟩
 by_cases he:bC c=0
 case neg=>
  rw[if_pos he] at hR
  have hc:=aaf he
  obtain⟨E,hE⟩:∃E,E=bC c:=⟨_,rfl⟩
  rw[←hE] at hc hR he
  have he':(E != 0)=true:=by simp[he]
  simp -implicitDefEqProofs [e2]
  refine aj hc ?_
  simp -implicitDefEqProofs [he',tn,hR]
 rw[if_neg (not_not_intro he)] at hR
 have hok:=Case.ok he
 have Ja:=wE he
 have hs:=p0 hok
 refine au (fun st=>st.env 1=I y∧st.env 2=bI c∧st.env 6=aZ c∧st.env 7=I 0) ?_ ?_
 ·intro k hk
  simp -implicitDefEqProofs [e2]
  refine aj (aae he) ?_
  simp -implicitDefEqProofs
  exact hk _ (by simp[e1,e2])
 rintro s ⟨e1,e2,e6,e7⟩
 refine au (fun st=>st.env 1=I y∧st.env 6=aZ c∧out c.printed c.now [y]=false∧cF c=true) ?_ ?_
 ·intro k hk
  simp -implicitDefEqProofs [e1,e2,e7]
  refine aj (Zv c.printed c.now [y]) ?_
  cases ho:out c.printed c.now [y] with
  |true=>
   rw[ho,if_pos rfl] at hR
   simp -implicitDefEqProofs [tn,hR]
  |false=>
   rw[ho,if_neg (by simp)] at hR
   simp -implicitDefEqProofs [e6]
   refine aj hs ?_
   cases hb:cF c with
   |false=>
    rw[hb,if_pos rfl] at hR
    simp -implicitDefEqProofs [tn,hR]
   |true=>
    simp -implicitDefEqProofs
    exact hk _ ⟨by simp[e1],by simp[e6],ho,hb⟩
 rintro s ⟨e1,e6,ho,hb⟩
 rw[ho,if_neg (by simp),hb,if_neg (by simp)] at hR
 have hi:=wA ho y (by simp)
 simp -implicitDefEqProofs [e1,e6]
 refine aj (BU hok Ja hi) ?_
 simp -implicitDefEqProofs [tn,hR]
end Go.Proofs.YtpeikknjbnnnnaaGreat.O
namespace Go.Proofs.YtpeikknjbnnnnaaGreat.O
open Go.az
def gA(ps:List (ByteArray×Int)):List (List AV):=ps.map fun p=>[S p.1,I p.2]
def me(k:ByteArray):List (ByteArray×Int)→Nat→Option Nat
 |[],_=>none
 |p::ps,i=>if bD k p.1 then some i else me k ps (i+1)
def Zh(k:ByteArray):List (ByteArray×Int)→List (ByteArray×Int)
 |[]=>[(k,1)]
 |p::ps=>if bD k p.1 then (k,p.2+1)::ps else p::Zh k ps
def eB(k:ByteArray):List (ByteArray×Int)→Int
 |[]=>0
 |p::ps=>if bD k p.1 then p.2 else eB k ps
theorem BW(k:ByteArray):∀(ps:List (ByteArray×Int)) (i:Nat),b_ (S k) (gA ps) i=some (me k ps i)
 |[],_=>rfl
 |p::ps,i=>by
  have ih:=BW k ps (i+1)
  show b_ (S k) ([S p.1,I p.2]::gA ps) i=_
  rw[b_,ih]
  show(match some (bD k p.1) with|some true=>_|some false=>_|none=>_)=_
  have e:me k (p::ps) i=if bD k p.1 then some i else me k ps (i+1):=rfl
  rw[e]
  cases bD k p.1<;>rfl
theorem BX{k:ByteArray}:∀{ps:List (ByteArray×Int)} {i:Nat},me k ps i=none→eB k ps=0∧gA (Zh k ps)=gA ps++[[S k,I 1]]
 |[],_,_=>⟨rfl,rfl⟩
 |p::ps,i,h=>by
  unfold me at h
  split at h
  ·cases h
  rename_i hs
  have ih:=BX h
  unfold eB Zh
  rw[if_neg hs,if_neg hs]
  refine⟨ih.1,?_⟩
  show _::gA (Zh k ps)=_
  rw[ih.2];rfl
theorem BY{k:ByteArray}:∀{ps:List (ByteArray×Int)} {i j:Nat},me k ps i=some j→∃n,j=i+n∧n<ps.length∧((gA ps).getD n []).getD 1 .any=I (eB k ps)∧gA (Zh k ps)=(gA ps).set n [S k,I (eB k ps+1)]
 |[],_,_,h=>by cases h
 |p::ps,i,j,h=>by
  unfold me at h
  split at h
  ·rename_i hs
   injection h with h
   refine⟨0,h.symm,by simp,?_,?_⟩
   ·unfold eB;rw[if_pos hs];rfl
   ·unfold Zh eB;rw[if_pos hs,if_pos hs];rfl
  ·rename_i hs
   obtain⟨n,h1,h2,h3,h4⟩:=BY h
   refine⟨n+1,by omega,by simpa using h2,?_,?_⟩
   ·unfold eB;rw[if_neg hs];exact h3
   ·unfold Zh eB;rw[if_neg hs,if_neg hs]
    show _::gA (Zh k ps)=_
    rw[h4];rfl
theorem Jb{a b c:ByteArray}(h:bD a b=true):bD c a=bD c b:=by
 unfold bD at*
 rw[beq_iff_eq] at h
 rw[h]
theorem Jc(k k':ByteArray):∀ps:List (ByteArray×Int),eB k' (Zh k ps)=eB k' ps+if bD k' k then 1 else 0
 |[]=>by unfold Zh eB;simp[eB]
 |p::ps=>by
  have ih:=Jc k k' ps
  unfold Zh
  by_cases hs:bD k p.1=true
  ·rw[if_pos hs]
   unfold eB
   simp only
   rw[←Jb (c:=k') hs]
   split<;>simp
  ·rw[if_neg hs]
   unfold eB
   by_cases h2:bD k' p.1=true
   ·have h3:¬bD k' k=true:=fun h3=>hs (by rw[tv,Jb (c:=p.1) (a:=k) (b:=k') (by rw[tv];exact h3),tv];exact h2)
    rw[if_pos h2,if_pos h2,if_neg h3];simp
   ·rw[if_neg h2,if_neg h2,ih]
@[simp] theorem Ty (r:Nat) (es:List (List AV)):aG r (aS es)=aS es:=rfl
def gB(l:List ByteArray):List (ByteArray×Int):=l.foldl (fun ps k=>Zh k ps) []
theorem Tz(l:List ByteArray)(k:ByteArray):gB (l++[k])=Zh k (gB l):=by simp[gB]
theorem Jd(k':ByteArray):∀(l:List ByteArray) (ps:List (ByteArray×Int)),eB k' (l.foldl (fun ps k=>Zh k ps) ps)=eB k' ps+(l.countP fun k=>bD k' k)
 |[],ps=>by simp
 |k::l,ps=>by
  rw[List.foldl_cons,Jd k' l,Jc,List.countP_cons]
  split<;>simp<;>omega
theorem Je(k':ByteArray)(l:List ByteArray):eB k' (gB l)=l.countP fun k=>bD k' k:=by unfold gB;rw[Jd];simp[eB]
theorem Jf(k':ByteArray)(l:List ByteArray):0≤eB k' (gB l)∧eB k' (gB l)≤l.length:=by
 rw[Je]
 have:=List.countP_le_length (p:=fun k=>bD k' k) (l:=l)
 omega
theorem TA(k':ByteArray)(l:List ByteArray):decide (0<eB k' (gB l))=l.any fun k=>bD k' k:=by
 rw[Je,Bool.eq_iff_iff,decide_eq_true_eq,List.any_eq_true]
 rw[show((0:Int)<(l.countP fun k=>bD k' k))↔0<l.countP (fun k=>bD k' k) by omega,List.countP_pos_iff]
theorem Jg{P:Program}{ms:List Yr}{K:St→Prop}{s:St}{d b:Nat}{k:ByteArray}{ps:List (ByteArray×Int)}(em:s.env (1000001+b)=aS (gA ps))(h:vcs P ms K (s.set d (I (eB k ps)))):tD P ms K s d (S k) (some 999) false (I 0) (.bL b):=by
 refine⟨_,by rw[ZR];exact em,trivial,?_⟩
 rw[BW]
 cases hk:me k ps 0 with
 |none=>
  rw[(BX hk).1] at h
  exact h
 |some j=>
  obtain⟨n,h1,h2,h3,h4⟩:=BY hk
  obtain rfl:j=n:=by omega
  simp only[Bool.false_eq_true,if_false]
  rw[h3]
  exact h
theorem TB{P:Program}{ms:List Yr}{K:St→Prop}{s:St}{b:Nat}{k:ByteArray}{ps:List (ByteArray×Int)}(em:s.env (1000001+b)=aS (gA ps))(h:vcs P ms K (s.set (1000001+b) (aS (gA (Zh k ps))))):tE P ms K s (S k) (I (eB k ps+1)) (some 999) (.bL b):=by
 refine⟨_,by rw[ZR];exact em,trivial,?_⟩
 rw[BW,ZR]
 cases hk:me k ps 0 with
 |none=>
  obtain⟨h1,h2⟩:=BX hk
  rw[h2] at h
  rw[h1]
  exact h
 |some j=>
  obtain⟨n,h1,h2,h3,h4⟩:=BY hk
  obtain rfl:j=n:=by omega
  rw[h4] at h
  exact h
def nameAt(c:Case)(o:Int):ByteArray:=(cW c o.toNat).name
def BZ(c d:Case)(y:Int):List Int:=(Zg c y).filter fun o=>(Zg d y).any fun p=>bD (nameAt c o) (nameAt d p)
def tW(c d:Case)(y:Int):tU:=
 if bC c≠0 then ⟨[],bC c⟩ else
 if bC d≠0 then ⟨[],bC d⟩ else
 if out (max c.printed d.printed) (min c.now d.now) [y] then ⟨[],7⟩ else
 if cF c=false∨cF d=false then ⟨[],8⟩ else ⟨BZ c d y,0⟩
theorem Jh{c:Case}{y:Int}{k:Nat}(h:k<(Zg c y).length):∃j:Nat,(Zg c y)[k]=j∧j<c.an.length:=by
 obtain⟨j,h1,h2,-⟩:=HK (List.getElem_mem h)
 exact⟨j,h1,h2⟩
theorem TC(c d:Case)(y:Int):aA Tryz.prog 23 [fc c,fc d,I y] (BV (tW c d y)):=by
 refine pc t23 (by simp) fun hfit=> ?_
 obtain⟨R,hR⟩:∃R,R=tW c d y:=⟨_,rfl⟩
 rw[←hR]
 unfold tW at hR
 simp -implicitDefEqProofs only[Fh]
 refine au (fun st=>st.env 2=I y∧st.env 3=bI c∧st.env 4=bI d∧st.env 6=.slice 1 [] 7) ?_ ?_
 ·intro k hk
  simp -implicitDefEqProofs
  exact hk _ (by simp)
 rintro s ⟨e2,e3,e4,e6⟩
 by_cases he:bC c=0
 case neg=>
  rw[if_pos he] at hR
  have hc:=aaf he
  obtain⟨E,hE⟩:∃E,E=bC c:=⟨_,rfl⟩
  rw[←hE] at hc hR he
  have he':(E != 0)=true:=by simp[he]
  simp -implicitDefEqProofs [e3]
  refine aj hc ?_
  simp -implicitDefEqProofs [he',pg,hR]
 rw[if_neg (not_not_intro he)] at hR
 have hok:=Case.ok he
 refine au (fun st=>st.env 2=I y∧st.env 3=bI c∧st.env 4=bI d∧st.env 6=.slice 1 [] 7∧st.env 8=aZ c∧st.env 7=I 0) ?_ ?_
 ·intro k hk
  simp -implicitDefEqProofs [e3]
  refine aj (aae he) ?_
  simp -implicitDefEqProofs
  exact hk _ (by simp[e2,e3,e4,e6])
 rintro s ⟨e2,e3,e4,e6,e8,e7⟩
 refine au (fun st=>st.env 2=I y∧st.env 3=bI c∧st.env 4=bI d∧st.env 6=.slice 1 [] 7∧st.env 8=aZ c) ?_ ?_
 ·intro k hk
  simp -implicitDefEqProofs [e7]
  exact hk _ (by simp[e2,e3,e4,e6,e8])
 rintro s ⟨e2,e3,e4,e6,e8⟩
 by_cases hd:bC d=0
 case neg=>
  rw[if_pos hd] at hR
  have hc:=aaf hd
  obtain⟨E,hE⟩:∃E,E=bC d:=⟨_,rfl⟩
  rw[←hE] at hc hR hd
  have hd':(E != 0)=true:=by simp[hd]
  simp -implicitDefEqProofs [e4]
  refine aj hc ?_
  simp -implicitDefEqProofs [hd',pg,hR]
 rw[if_neg (not_not_intro hd)] at hR
 have B0:=Case.ok hd
 refine au (fun st=>st.env 2=I y∧st.env 3=bI c∧st.env 4=bI d∧st.env 6=.slice 1 [] 7∧st.env 8=aZ c∧st.env 9=aZ d∧st.env 7=I 0) ?_ ?_
 ·intro k hk
  simp -implicitDefEqProofs [e4]
  refine aj (aae hd) ?_
  simp -implicitDefEqProofs
  exact hk _ (by simp[e2,e3,e4,e6,e8])
 rintro s ⟨e2,e3,e4,e6,e8,e9,e7⟩
 have hs:=p0 hok
 have TD:=p0 B0
 obtain⟨LO,ko⟩:∃n,n=max c.printed d.printed:=⟨_,rfl⟩
 obtain⟨HI,Ji⟩:∃n,n=min c.now d.now:=⟨_,rfl⟩
 rw[←ko,←Ji] at hR
 refine au (fun st=>st.env 2=I y∧st.env 3=bI c∧st.env 4=bI d∧st.env 6=.slice 1 [] 7∧st.env 8=aZ c∧st.env 9=aZ d∧out LO HI [y]=false∧cF c=true∧cF d=true) ?_ ?_
 ·intro k hk
  have m1:(if c.printed<d.printed then d.printed else c.printed)=LO:=by rw[ko];split<;>omega
  have m2:(if d.now<c.now then d.now else c.now)=HI:=by rw[Ji];split<;>omega
  simp -implicitDefEqProofs [e2,e3,e4,e7,m1,m2]
  refine aj (Zv LO HI [y]) ?_
  cases ho:out LO HI [y] with
  |true=>
   rw[ho,if_pos rfl] at hR
   simp -implicitDefEqProofs [pg,hR]
  |false=>
   rw[ho,if_neg (by simp)] at hR
   simp -implicitDefEqProofs [e8]
   refine aj hs ?_
   cases hb:cF c with
   |false=>
    rw[hb,if_pos (.inl rfl)] at hR
    simp -implicitDefEqProofs [pg,hR]
   |true=>
    simp -implicitDefEqProofs [e9]
    refine aj TD ?_
    cases hbd:cF d with
    |false=>
     rw[hbd,if_pos (.inr rfl)] at hR
     simp -implicitDefEqProofs [pg,hR]
    |true=>
     simp -implicitDefEqProofs
     exact hk _ ⟨by simp[e2],by simp[e3],by simp[e4],by simp[e6],by simp[e8],by simp[e9],ho,hb,hbd⟩
 rintro s ⟨e2,e3,e4,e6,e8,e9,ho,hb,hbd⟩
 rw[ho,if_neg (by simp),hb,hbd,if_neg (by simp)] at hR
 have hi:=wA ho y (by simp)
 have cu:=BU hok (wE he) (y:=y) (by omega)
 have hcd:=BU B0 (wE hd) (y:=y) (by omega)
 unfold BZ at hR
 have YR:=fun k h=>Jh (c:=c) (y:=y) (k:=k) h
 have TE:=fun k h=>Jh (c:=d) (y:=y) (k:=k) h
 have lC:(Zg c y).length≤6:=Nat.le_trans (aaw _ _) hok.jF
 have lD:(Zg d y).length≤6:=Nat.le_trans (aaw _ _) B0.jF
 generalize Zg c y=L at*
 generalize Zg d y=M at*
 refine au (fun st=>st.env 2=I y∧st.env 3=bI c∧st.env 4=bI d∧st.env 6=.slice 1 [] 7∧st.env 8=aZ c∧st.env 9=aZ d∧∃b,st.env 10=.bL b∧st.env (1000001+b)=aS (gA [])) ?_ ?_
 ·intro k hk
  simp -implicitDefEqProofs
  intro b dQ YL
  refine hk _ ⟨by simp[e2],by simp[e3],by simp[e4],by simp[e6],by simp[e8],by simp[e9],b,by simp,by simp[gA]⟩
 rintro s ⟨e2,e3,e4,e6,e8,e9,b,bF,em⟩
 refine au (fun st=>st.env 2=I y∧st.env 3=bI c∧st.env 4=bI d∧st.env 6=.slice 1 [] 7∧st.env 8=aZ c∧st.env 10=.bL b∧st.env (1000001+b)=aS (gA (gB (M.map (nameAt d))))) ?_ ?_
 ·intro k0 aX
  simp -implicitDefEqProofs [e2,e9]
  refine aj hcd ?_
  simp -implicitDefEqProofs
  refine bw M.length (fun k st=>st.env 2=I y∧st.env 3=bI c∧st.env 4=bI d∧st.env 6=.slice 1 [] 7∧st.env 8=aZ c∧st.env 10=.bL b∧st.env (1000001+b)=aS (gA (gB ((M.map (nameAt d)).take k)))∧st.env 58=IL M∧st.env 59=I M.length∧st.env 60=I k) ?_ ?_
  ·refine⟨by simp[e2],by simp[e3],by simp[e4],by simp[e6],by simp[e8],by simp[bF],?_,by simp,by simp,by simp⟩
   simp[em,gB,gA]
  rintro k s hk ⟨e2,e3,e4,e6,e8,bF,em,mg,ZW,e60⟩
  simp -implicitDefEqProofs [ZW,e60]
  refine bu (fun hlt=> ?_) (fun hge=> ?_)
  ·have hlt:k<M.length:=by omega
   obtain⟨j,hj,hjl⟩:=TE k hlt
   have cm:gB ((M.map (nameAt d)).take (k+1))=Zh (d.an[j].name) (gB ((M.map (nameAt d)).take k)):=by
    rw[cV (by simpa using hlt),Tz,List.getElem_map,hj]
    unfold nameAt cW
    rw[Int.toNat_natCast,pL hjl]
   have hv:=Jf d.an[j].name ((M.map (nameAt d)).take k)
   rw[List.length_take] at hv
   generalize gB ((M.map (nameAt d)).take k)=ps at*
   simp -implicitDefEqProofs [e4,bF,mg,e60,hlt,hj,hjl]
   refine Jg (ps:=ps) (by simp[em]) ?_
   simp -implicitDefEqProofs
   refine⟨i64 (by omega) (by omega),TB (by simp[em]) ?_⟩
   simp -implicitDefEqProofs [e60]
   refine⟨i64 (by omega) (by omega),aN (by omega) ?_⟩
   rw[cm]
   exact⟨by simp[e2],by simp[e3],by simp[e4],by simp[e6],by simp[e8],by simp[bF],by simp,by simp[mg],by simp[ZW],by simp⟩
  ·obtain rfl:k=M.length:=by omega
   rw[List.take_of_length_le (by simp)] at em
   simp -implicitDefEqProofs
   exact aX _ ⟨by simp[e2],by simp[e3],by simp[e4],by simp[e6],by simp[e8],by simp[bF],by simp[em]⟩
 rintro s ⟨e2,e3,e4,e6,e8,bF,em⟩
 refine au (fun st=>∃r,r≠0∧st.env 6=.slice 1 (R.l.map I) r) ?_ ?_
 ·intro k0 aX
  simp -implicitDefEqProofs [e2,e8]
  refine aj cu ?_
  simp -implicitDefEqProofs
  refine bw L.length (fun k st=>st.env 3=bI c∧st.env 10=.bL b∧st.env (1000001+b)=aS (gA (gB (M.map (nameAt d))))∧st.env 76=IL L∧st.env 77=I L.length∧st.env 78=I k∧st.env 6=.slice 1 (((L.take k).filter fun o=>M.any fun p=>bD (nameAt c o) (nameAt d p)).map I) 7) ?_ ?_
  ·refine⟨by simp[e3],by simp[bF],by simp[em],by simp,by simp,by simp,by simp[e6]⟩
  rintro k s hk ⟨e3,bF,em,e76,B3,wF,e6⟩
  simp -implicitDefEqProofs [B3,wF]
  refine bu (fun hlt=> ?_) (fun hge=> ?_)
  ·have hlt:k<L.length:=by omega
   obtain⟨j,hj,hjl⟩:=YR k hlt
   have hnm:nameAt c L[k]=c.an[j].name:=by
    rw[hj];unfold nameAt cW
    rw[Int.toNat_natCast,pL hjl]
   have hv:=Jf c.an[j].name (M.map (nameAt d))
   have hp:=TA c.an[j].name (M.map (nameAt d))
   rw[List.any_map] at hp
   have cm:(L.take (k+1)).filter (fun o=>M.any fun p=>bD (nameAt c o) (nameAt d p))=(L.take k).filter (fun o=>M.any fun p=>bD (nameAt c o) (nameAt d p))++if 0<eB c.an[j].name (gB (M.map (nameAt d))) then [(j:Int)] else []:=by
    rw[cV hlt,List.filter_append]
    congr 1
    rw[←hj,List.filter_cons,hnm]
    have:(M.any fun p=>bD c.an[j].name (nameAt d p))=decide (0<eB c.an[j].name (gB (M.map (nameAt d)))):=hp.symm
    rw[this]
    simp
   have hfl:((L.take k).filter (fun o=>M.any fun p=>bD (nameAt c o) (nameAt d p))).length≤6:=by
    refine Nat.le_trans (List.length_filter_le _ _) ?_
    rw[List.length_take];omega
   generalize gB (M.map (nameAt d))=ps at*
   generalize (L.take k).filter (fun o=>M.any fun p=>bD (nameAt c o) (nameAt d p))=F at*
   simp -implicitDefEqProofs [e3,bF,e76,wF,hlt,hj,hjl]
   refine Jg (ps:=ps) (by simp[em]) ?_
   simp -implicitDefEqProofs
   refine bu (fun hpos=> ?_) (fun hpos=> ?_)
   ·rw[if_pos hpos] at cm
    simp -implicitDefEqProofs [e6]
    refine⟨by omega,by omega,?_⟩
    simp -implicitDefEqProofs [wF]
    refine⟨i64 (by omega) (by omega),aN (by omega) ?_⟩
    rw[cm]
    exact⟨by simp[e3],by simp[bF],by simp[em],by simp[e76],by simp[B3],by simp,by simp⟩
   ·rw[if_neg hpos,List.append_nil] at cm
    simp -implicitDefEqProofs [wF]
    refine⟨i64 (by omega) (by omega),aN (by omega) ?_⟩
    rw[cm]
    exact⟨by simp[e3],by simp[bF],by simp[em],by simp[e76],by simp[B3],by simp,by simp[e6]⟩
  ·obtain rfl:k=L.length:=by omega
   rw[List.take_length] at e6
   simp -implicitDefEqProofs
   exact aX _ ⟨7,by omega,by simp[e6,hR]⟩
 rintro s ⟨r,hr,e6⟩
 simp -implicitDefEqProofs [e6,hr,pg,hR]
end Go.Proofs.YtpeikknjbnnnnaaGreat.O
namespace Go.Proofs.YtpeikknjbnnnnaaGreat.O
open Go.az
def gP(p:Nat→Bool):Nat→Nat
 |0=>0
 |k+1=>gP p k+if p k then 0 else 1
def nr(p:Nat→Bool)(j:Nat):Int:=if p j then -1 else gP p j
def mj(p:Nat→Bool)(m:Mk):Mk:=⟨m.owner,m.lo,m.hi,if m.upon= -1 then -1 else nr p m.upon.toNat⟩
def dW(l:List Mk)(p:Nat→Bool):Nat→List Mk
 |0=>[]
 |k+1=>dW l p k++if p k then [] else [mj p (l.getD k dF)]
def rD(c:Case)(p:Nat→Bool):Case:={c with marks:=dW c.marks p c.marks.length}
theorem wG(l:List Mk)(p:Nat→Bool):∀k,(dW l p k).length=gP p k
 |0=>rfl
 |k+1=>by
  have ih:=wG l p k
  unfold dW gP
  cases p k<;>simp[ih]
theorem abi(p:Nat→Bool):∀k,gP p k≤k
 |0=>Nat.le_refl _
 |k+1=>by
  have:=abi p k
  unfold gP
  split<;>omega
theorem B5(p:Nat→Bool):∀{k j},j≤k→gP p j≤gP p k
 |0,j,h=>by rw[Nat.le_zero.1 h];exact Nat.le_refl _
 |k+1,j,h=>by
  by_cases e:j=k+1
  ·rw[e];exact Nat.le_refl _
  ·have:=B5 p (k:=k) (j:=j) (by omega)
   show _≤gP p k+_
   omega
theorem TF{p:Nat→Bool}{j k:Nat}(h:j<k)(hp:p j=false):gP p j<gP p k:=by
 have h1:=B5 p (k:=k) (j:=j+1) h
 have h2:gP p (j+1)=gP p j+1:=by
  show gP p j+_=_
  rw[hp];rfl
 omega
theorem TG{p:Nat→Bool}{j k:Nat}(h:j<k): -1≤nr p j∧nr p j<gP p k+if p k then 1 else 0:=by
 unfold nr
 have h1:=B5 p (k:=k) (j:=j) (by omega)
 cases hp:p j with
 |true=>simp;omega
 |false=>
  have:=TF h hp
  simp;omega
theorem Jj{l:List Mk}{p:Nat→Bool}:∀{k:Nat} {m:Mk},m∈dW l p k→∃j,j<k∧p j=false∧m=mj p (l.getD j dF)
 |0,m,h=>by cases h
 |k+1,m,h=>by
  rcases List.mem_append.1 h with h|h
  ·obtain⟨j,h1,h2⟩:=Jj h
   exact⟨j,by omega,h2⟩
  ·cases hp:p k with
   |true=>rw[hp] at h;simp at h
   |false=>rw[hp] at h;simp at h;exact⟨k,by omega,hp,h⟩
theorem Jk{l:List Mk}(p:Nat→Bool)(hu:∀i (h:i<l.length),-1≤l[i].upon∧l[i].upon<i):∀{k:Nat},k≤l.length→∀i (h:i<(dW l p k).length),-1≤(dW l p k)[i].upon∧(dW l p k)[i].upon<i
 |0,_,i,h=>by cases h
 |k+1,hk,i,h=>by
  have ih:=Jk p hu (k:=k) (by omega)
  have hl:=wG l p k
  cases hp:p k with
  |true=>
   have e:dW l p (k+1)=dW l p k:=by show dW l p k++_=_;rw[hp];simp
   simp only[e]
   exact ih i (by rw[e] at h;exact h)
  |false=>
   have e:dW l p (k+1)=dW l p k++[mj p (l.getD k dF)]:=by show dW l p k++_=_;rw[hp];simp
   simp only[e]
   rw[e,List.length_append,List.length_singleton] at h
   by_cases hi:i<(dW l p k).length
   ·rw[List.getElem_append_left hi];exact ih i hi
   ·rw[List.getElem_append_right (by omega)]
    have:=hu k (by omega)
    have hg:l.getD k dF=l[k]:=by rw[List.getD_eq_getElem?_getD,List.getElem?_eq_getElem (by omega),Option.getD_some]
    simp only[List.getElem_singleton,mj,hg]
    split
    ·omega
    ·have:=TG (p:=p) (j:=l[k].upon.toNat) (k:=k) (by omega)
     rw[hp] at this
     simp at this
     omega
theorem TH{c:Case}(h:c.OK)(p:Nat→Bool):(rD c p).OK:=by
 refine⟨h.years,h.jF,h.an,?_,fun m hm=> ?_,fun i hi=> ?_,h.aav,h.ak⟩
 ·show(dW _ _ _).length≤9
  rw[wG]
  exact Nat.le_trans (abi _ _) h.oh
 ·obtain⟨j,hj,-,rfl⟩:=Jj hm
  rw[eF hj]
  exact h.marks (c.marks[j]) (List.getElem_mem hj)
 ·exact Jk p h.upon (Nat.le_refl _) i hi
def B6(P:Program)(ms:List Yr)(K:St→Prop)(s:St)(br sz off b:Nat):Option (List AV)→Prop
 |some cs=>off<cs.length∧vcs P ms K ((s.aK br).new b ((cs.map (aG br)).set off (.slice sz [] br)))
 |none=>False
def abj(P:Program)(ms:List Yr)(K:St→Prop)(s:St)(br sz:Nat):AV→Prop
 |.Yq b off=>B6 P ms K s br sz off b (s.loc b)
 |_=>False
theorem TI(P:Program)(ms:List Yr)(K:St→Prop)(s:St)(x:ai)(sz br:Nat):vcs P (.nL x sz br::ms) K s=abj P ms K s br sz (x.ev s.env):=by unfold abj B6;rfl
attribute [simp] TI abj B6
def ZX(p:Nat→Bool)(k:Nat)(j:Nat):Int:=if j<k then nr p j else 0
abbrev rE(c:Case)(l:List Mk)(r:Nat):List AV:=[I c.printed,I c.now,.slice 3 (c.an.map fK) 0,.slice 4 (l.map cT) r,.slice 3 (c.ak.map bQ) 0,.fmap (pO c)]
structure XJ (c:Case) (p:Nat→Bool) (n b5 b6 k:Nat) (s:St):Prop where
 e:s.env 0=aZ c∧s.env 1=I n∧s.env 5=.Yq b5 0∧s.env 6=.Yq b6 0∧s.env 18=.slice 4 (c.marks.map cT) 0∧s.env 19=I c.marks.length∧s.env 20=I k
 l5:s.loc b5=some (rE c (dW c.marks p k) 6003)
 l6:s.loc b6=some (cl 8 (ZX p k))
theorem TJ{c:Case}(h:c.OK)(h8:c.marks.length≤8){n:Nat}(hn:n<256):aA Tryz.prog 60 [aZ c,I n] (aZ (rD c fun i=>n.testBit i)):=by
 refine pc t60 (by simp) fun _=> ?_
 obtain⟨p,Jl⟩:∃p:Nat→Bool,p=fun i=>n.testBit i:=⟨_,rfl⟩
 rw[←Jl]
 have hres:aZ (rD c p)=.ref (rE c (dW c.marks p c.marks.length) 0):=by
  show AV.ref (cU (rD c _)++[.fmap (pO c)])=_
  rfl
 rw[hres]
 simp -implicitDefEqProofs only[FQ]
 refine au (fun st=>st.env 0=aZ c∧st.env 1=I n) ?_ ?_
 ·intro k hk
  simp -implicitDefEqProofs
  exact hk _ (by simp)
 rintro s ⟨e0,e1⟩
 refine au (fun st=>st.env 0=aZ c∧st.env 1=I n∧∃b,st.env 5=.Yq b 0∧st.loc b=some (v_ c)) ?_ ?_
 ·intro k hk
  simp -implicitDefEqProofs [e0]
  intro b hb
  exact hk _ ⟨by simp[e0],by simp[e1],b,by simp,by simp⟩
 rintro s ⟨e0,e1,b5,e5,l5⟩
 refine au (fun st=>st.env 0=aZ c∧st.env 1=I n∧st.env 5=.Yq b5 0∧st.loc b5=some (rE c [] 6003)) ?_ ?_
 ·intro k hk
  simp -implicitDefEqProofs [e5,l5]
  exact hk _ ⟨by simp[e0],by simp[e1],by simp[e5],by simp⟩
 rintro s ⟨e0,e1,e5,l5⟩
 refine au (fun st=>st.env 0=aZ c∧st.env 1=I n∧st.env 5=.Yq b5 0∧st.loc b5=some (rE c [] 6003)∧∃b6,st.env 6=.Yq b6 0∧st.loc b6=some (cl 8 (ZX p 0))∧b5≠b6) ?_ ?_
 ·intro k hk
  simp -implicitDefEqProofs
  intro b hb
  have hne:¬b5=b:=by rintro rfl;rw[l5] at hb;cases hb
  exact hk _ ⟨by simp[e0],by simp[e1],by simp[e5],by simp[l5,hne],b,by simp,by simp[cl,ZX,List.range_succ],hne⟩
 rintro s ⟨e0,e1,e5,l5,b6,e6,l6,B8⟩
 have TK:¬b6=b5:=fun e=>B8 e.symm
 have htb:∀k,k<9→(d_ .and .i64 (Int.fdiv (n:Int) (2^(min k (IntKind.bits .i64)))) 1==1)=p k:=fun k hk=>by
  rw[Jl]
  rcases vY (i:=k) hn with h|h
  ·exact h
  ·omega
 refine au (fun st=>st.env 5=.Yq b5 0∧st.loc b5=some (rE c (dW c.marks p c.marks.length) 6003)) ?_ ?_
 ·intro k0 aX
  simp -implicitDefEqProofs [e0]
  refine bw c.marks.length (fun k st=>XJ c p n b5 b6 k st) ?_ ?_
  ·exact⟨by simp[e0,e1,e5,e6],by simp[l5,dW],by simp[l6]⟩
  rintro k s hk hJ
  obtain⟨e0,e1,e5,e6,dS,g_,cg⟩:=hJ.e
  have l5:=hJ.l5
  have l6:=hJ.l6
  simp -implicitDefEqProofs [g_,cg]
  refine bu (fun hlt=> ?_) (fun hge=> ?_)
  ·have hlt:k<c.marks.length:=by omega
   have hup:=h.upon k hlt
   have iE:dW c.marks p (k+1)=dW c.marks p k++if p k then [] else [mj p c.marks[k]]:=by
    show _++_=_
    rw[eF hlt]
   have hlen:=wG c.marks p k
   have hkn:=abi p k
   generalize hm:c.marks[k]=m at*
   have Jm:∀v,v=nr p k→cl 8 (fun j=>if j=k then v else ZX p k j)=cl 8 (ZX p (k+1)):=fun v hv=>Sx fun g hg=>by
    unfold ZX
    by_cases e:g=k
    ·subst e;simp[hv]
    ·rw[if_neg e]
     by_cases e2:g<k
     ·rw[if_pos e2,if_pos (by omega)]
     ·rw[if_neg e2,if_neg (by omega)]
   refine kj ?_
   refine au (fun st=>XJ c p n b5 b6 k st∧st.env 7=I k∧∃b8,st.env 8=.Yq b8 0∧st.loc b8=some [I m.owner,I m.lo,I m.hi,I m.upon]∧b8≠b5∧b8≠b6) ?_ ?_
   ·intro k1 aF
    simp -implicitDefEqProofs [dS,cg,hlt]
    rw[hm]
    intro b hb
    have h5:¬b5=b:=by rintro rfl;rw[l5] at hb;cases hb
    have h6:¬b6=b:=by rintro rfl;rw[l6] at hb;cases hb
    refine aF _ ⟨⟨by simp[e0,e1,e5,e6,dS,g_,cg],by simp[l5,h5],by simp[l6,h6]⟩,by simp,b,by simp,by simp,fun e=>h5 e.symm,fun e=>h6 e.symm⟩
   rintro s ⟨hJ,e7,b8,e8,l8,TL,Jn⟩
   have TM:¬b5=b8:=fun e=>TL e.symm
   have TN:¬b6=b8:=fun e=>Jn e.symm
   obtain⟨e0,e1,e5,e6,dS,g_,cg⟩:=hJ.e
   have l5:=hJ.l5
   have l6:=hJ.l6
   have hb':=htb k (by omega)
   have XZ:k<8:=by omega
   cases hp:p k with
   |true=>
    rw[hp,if_pos rfl,List.append_nil] at iE
    rw[hp] at hb'
    simp -implicitDefEqProofs [e1,e6,e7,hb',l6,iC,tJ,cg]
    refine⟨by omega,by omega,i64 (by omega) (by omega),aN hlt ⟨by simp[e0,e1,e5,e6,dS,g_],?_,?_⟩⟩
    ·rw[iE];simp[l5,B8]
    ·simp only[EO,Z5,if_true]
     exact congrArg some (Jm _ (by unfold nr;rw[hp];rfl))
   |false=>
    rw[hp] at iE hb'
    simp only[Bool.false_eq_true,if_false] at iE
    obtain⟨u,hu⟩:∃u,u=(mj p m).upon:=⟨_,rfl⟩
    refine au (fun st=>XJ c p n b5 b6 k st∧st.env 7=I k∧st.env 8=.Yq b8 0∧st.loc b8=some [I m.owner,I m.lo,I m.hi,I m.upon]) ?_ ?_
    ·intro k1 aF
     simp -implicitDefEqProofs [e1,e7,hb']
     exact aF _ ⟨⟨by simp[e0,e1,e5,e6,dS,g_,cg],by simp[l5],by simp[l6]⟩,by simp[e7],by simp[e8],by simp[l8]⟩
    rintro s ⟨hJ,e7,e8,l8⟩
    obtain⟨e0,e1,e5,e6,dS,g_,cg⟩:=hJ.e
    have l5:=hJ.l5
    have l6:=hJ.l6
    refine au (fun st=>XJ c p n b5 b6 k st∧st.env 7=I k∧st.env 8=.Yq b8 0∧st.loc b8=some [I m.owner,I m.lo,I m.hi,I u]) ?_ ?_
    ·intro k1 aF
     by_cases rm:m.upon= -1
     ·have hm2:(m.upon != -1)=false:=by simp[rm]
      have B9:u=m.upon:=by rw[hu];unfold mj;simp[rm]
      simp -implicitDefEqProofs [e8,l8,hm2]
      exact aF _ ⟨⟨by simp[e0,e1,e5,e6,dS,g_,cg],by simp[l5],by simp[l6]⟩,by simp[e7],by simp[e8],by simp[l8,B9]⟩
     ·have hm2:(m.upon != -1)=true:=by simp[rm]
      obtain⟨v,hv⟩:∃v:Nat,m.upon=v:=⟨m.upon.toNat,by omega⟩
      have B9:u=nr p v:=by rw[hu];unfold mj;rw[if_neg rm,hv,Int.toNat_natCast]
      rw[hv] at hm2
      have Jo:v<8:=by omega
      have fo:=pQ (n:=8) (ZX p k) (g:=v) (by rw[iC];exact Jo)
      have TO:ZX p k v=u:=by unfold ZX;rw[if_pos (by omega),B9]
      rw[TO] at fo
      simp -implicitDefEqProofs [e6,e8,l8,hm2,hv,l6,iC,Jo,fo]
      refine⟨by omega,aF _ ⟨⟨by simp[e0,e1,e5,e6,dS,g_,cg],by simp[l5,TM],by simp[l6,TN]⟩,by simp[e7],by simp[e8],by simp⟩⟩
    rintro s ⟨hJ,e7,e8,l8⟩
    obtain⟨e0,e1,e5,e6,dS,g_,cg⟩:=hJ.e
    have l5:=hJ.l5
    have l6:=hJ.l6
    refine au (fun st=>st.env 0=aZ c∧st.env 1=I n∧st.env 5=.Yq b5 0∧st.env 6=.Yq b6 0∧st.env 18=.slice 4 (c.marks.map cT) 0∧st.env 19=I c.marks.length∧st.env 20=I k∧st.env 8=.Yq b8 0∧st.loc b8=some [I m.owner,I m.lo,I m.hi,I u]∧st.loc b5=some (rE c (dW c.marks p k) 6003)∧st.loc b6=some (cl 8 (ZX p (k+1)))) ?_ ?_
    ·intro k1 aF
     have TP:=Jm (gP p k) (by unfold nr;rw[hp];rfl)
     simp -implicitDefEqProofs [e5,e6,e7,l5,l6,iC,hlen,tJ,TP]
     refine⟨by omega,by omega,aF _ ?_⟩
     simp[e0,e1,e5,e6,dS,g_,cg,e8,l8,Jn,l5,B8]
    rintro s ⟨e0,e1,e5,e6,dS,g_,cg,e8,l8,l5,l6⟩
    have TQ:cT (mj p m)=.agg [I m.owner,I m.lo,I m.hi,I u]:=by rw[hu];rfl
    have hL:dW c.marks p (k+1)=dW c.marks p k++[mj p m]:=iE
    generalize dW c.marks p k=W at*
    simp -implicitDefEqProofs [e5,e8,l5,l8]
    refine⟨by omega,by omega,?_⟩
    simp -implicitDefEqProofs [cg]
    refine⟨i64 (by omega) (by omega),aN hlt ⟨by simp[e0,e1,e5,e6,dS,g_],?_,?_⟩⟩
    ·rw[hL]
     simp[TQ]
    ·simp[l6,TK,Bp]
  ·obtain rfl:k=c.marks.length:=by omega
   simp -implicitDefEqProofs
   exact aX _ (by simp[e5,l5])
 rintro s ⟨e5,l5⟩
 generalize dW c.marks p c.marks.length=W at*
 simp -implicitDefEqProofs [e5,l5]
 refine tg ?_
 simp -implicitDefEqProofs [FR,aq]
end Go.Proofs.YtpeikknjbnnnnaaGreat.O
namespace Go.Proofs.YtpeikknjbnnnnaaGreat.O
open Go.az
theorem TR{k:Nat}(h:k<40):IntKind.wrap .i64 (2^(min k (IntKind.bits .i64)))=((2^k:Nat):Int):=by
 have hb:IntKind.bits .i64=64:=rfl
 rw[hb,Nat.min_eq_left (by omega)]
 have:((2:Int)^k)=((2^k:Nat):Int):=by simp
 rw[this]
 exact HU (Nat.lt_of_lt_of_le (Nat.pow_lt_pow_right (by omega) h) (by decide))
theorem Jp:∀{a b:List Int},a.length=b.length→Zc a b=0→a=b
 |[],[],_,_=>rfl
 |[],_::_,h,_=>by simp at h
 |_::_,[],h,_=>by simp at h
 |x::xs,y::ys,hl,h=>by
  unfold Zc at h
  split at h
  ·cases h
  ·split at h
   ·cases h
   ·rw[Jp (by simpa using hl) h,show x=y by omega]
theorem Jq{a b:List Int}(hl:a.length=b.length)(hne:a≠b):decide (0<Zc a b)= !Zb a b:=by
 rw[←abt]
 rcases Int.lt_trichotomy (Zc a b) 0 with h|h|h
 ·simp[h];omega
 ·exact absurd (Jp hl h) hne
 ·have h2:¬Zc a b<0:=by omega
  simp[h,h2]
def tX(c:Case)(n:Nat):Bool:=cF (rD c fun i=>n.testBit i)
def tY(c:Case):tU:=
 if bC c≠0 then ⟨[],bC c⟩ else match cO (tX c) (2^c.marks.length) with
 |none=>⟨[],9⟩
 |some b=>⟨bq b,0⟩
def ku:Option Nat→Int
 |none=> -1
 |some b=>(bq b).length
def mo:Option Nat→List Int
 |none=>[]
 |some b=>bq b
theorem TS(c:Case):aA Tryz.prog 25 [fc c] (BV (tY c)):=by
 refine pc t25 (by simp) fun hfit=> ?_
 obtain⟨R,hR⟩:∃R,R=tY c:=⟨_,rfl⟩
 rw[←hR]
 unfold tY at hR
 simp -implicitDefEqProofs only[Fk]
 refine au (fun st=>st.env 1=bI c∧st.env 2=.slice 1 [] 3) ?_ ?_
 ·intro k hk
  simp -implicitDefEqProofs
  exact hk _ (by simp)
 rintro s ⟨e1,e2⟩
 by_cases he:bC c=0
 case neg=>
  rw[if_pos he] at hR
  have hc:=aaf he
  obtain⟨E,hE⟩:∃E,E=bC c:=⟨_,rfl⟩
  rw[←hE] at hc hR he
  have he':(E != 0)=true:=by simp[he]
  simp -implicitDefEqProofs [e1]
  refine aj hc ?_
  simp -implicitDefEqProofs [he',tq,hR]
 rw[if_neg (not_not_intro he)] at hR
 have hok:=Case.ok he
 have h8:=wE he
 refine au (fun st=>st.env 1=bI c∧st.env 2=.slice 1 [] 3∧st.env 4=aZ c∧st.env 3=I 0) ?_ ?_
 ·intro k hk
  simp -implicitDefEqProofs [e1]
  refine aj (aae he) ?_
  simp -implicitDefEqProofs
  exact hk _ (by simp[e1,e2])
 rintro s ⟨e1,e2,e4,e3⟩
 refine au (fun st=>st.env 1=bI c∧st.env 2=.slice 1 [] 3∧st.env 4=aZ c) ?_ ?_
 ·intro k hk
  simp -implicitDefEqProofs [e3]
  exact hk _ (by simp[e1,e2,e4])
 rintro s ⟨e1,e2,e4⟩
 refine au (fun st=>st.env 1=bI c∧st.env 2=.slice 1 [] 3∧st.env 4=aZ c∧st.env 5=I (-1)) ?_ ?_
 ·intro k hk
  simp -implicitDefEqProofs
  exact hk _ (by simp[e1,e2,e4])
 rintro s ⟨e1,e2,e4,e5⟩
 obtain⟨N,hN⟩:∃N,N=2^c.marks.length:=⟨_,rfl⟩
 have X0:N≤256:=by rw[hN];exact Nat.le_trans (Nat.pow_le_pow_right (by omega) h8) (by decide)
 have hsh:=TR (k:=c.marks.length) (by omega)
 rw[←hN] at hsh hR
 have TT:=HO (tX c)
 have iF:∀k,k<256→aA Tryz.prog 54 [aZ (rD c fun i=>k.testBit i)] (B (tX c k)):=fun k _=>p0 (TH hok _)
 generalize hq:tX c=q at*
 refine au (fun st=>∃r,st.env 2=.slice 1 ((mo (cO q N)).map I) r∧st.env 5=I (ku (cO q N))) ?_ ?_
 ·intro k0 aX
  simp -implicitDefEqProofs [e1,hsh]
  refine bw N (fun k st=>st.env 4=aZ c∧st.env 20=I N∧st.env 21=I k∧(∃r,st.env 2=.slice 1 ((mo (cO q k)).map I) r)∧st.env 5=I (ku (cO q k))) ?_ ?_
  ·refine⟨by simp[e4],by simp,by simp,⟨3,by simp[e2,cO,mo]⟩,by simp[e5,cO,ku]⟩
  rintro k s hk ⟨e4,cg,cR,⟨r,e2⟩,e5⟩
  simp -implicitDefEqProofs [cg,cR]
  refine bu (fun hlt=> ?_) (fun hge=> ?_)
  ·have hlt:k<N:=by omega
   have hsp:=TT k (by omega)
   refine kj ?_
   refine au (fun st=>st.env 4=aZ c∧st.env 20=I N∧st.env 21=I k∧st.env 2=.slice 1 ((mo (cO q k)).map I) r∧st.env 5=I (ku (cO q k))∧st.env 6=I k) ?_ ?_
   ·intro k1 aF
    simp -implicitDefEqProofs [cR]
    exact aF _ (by simp[e4,cg,cR,e2,e5])
   rintro s ⟨e4,cg,cR,e2,e5,e6⟩
   have hw:=Bc (a:=k) (by omega)
   refine au (fun st=>st.env 4=aZ c∧st.env 20=I N∧st.env 21=I k∧st.env 2=.slice 1 ((mo (cO q k)).map I) r∧st.env 5=I (ku (cO q k))∧st.env 6=I k∧st.env 7=I (bq k).length) ?_ ?_
   ·intro k1 aF
    simp -implicitDefEqProofs [e6,hw]
    refine aj (R5 k (by omega)) ?_
    simp -implicitDefEqProofs
    exact aF _ (by simp[e4,cg,cR,e2,e5,e6])
   rintro s ⟨e4,cg,cR,e2,e5,e6,e7⟩
   refine au (fun st=>st.env 4=aZ c∧st.env 20=I N∧st.env 21=I k∧st.env 2=.slice 1 ((mo (cO q k)).map I) r∧st.env 5=I (ku (cO q k))∧st.env 6=I k∧st.env 7=I (bq k).length∧st.env 8=IL (bq k)) ?_ ?_
   ·intro k1 aF
    simp -implicitDefEqProofs [e6]
    refine aj (R6 (n:=k) (by omega)) ?_
    simp -implicitDefEqProofs
    exact aF _ (by simp[e4,cg,cR,e2,e5,e6,e7])
   rintro s ⟨e4,cg,cR,e2,e5,e6,e7,e8⟩
   have hstep:(cO q (k+1)=cO q k∧∃b,cO q k=some b∧gr (bq k) (bq b)=false)∨(cO q (k+1)=(if q k then some k else cO q k)∧∀b,cO q k=some b→gr (bq k) (bq b)=true):=by
    cases hb:cO q k with
    |none=>
     right
     refine⟨?_,fun b h=>by cases h⟩
     rw[cO,hb]
    |some b=>
     cases hl:gr (bq k) (bq b) with
     |false=>
      left
      refine⟨?_,b,rfl,hl⟩
      rw[cO,hb]
      simp[hl]
     |true=>
      right
      refine⟨?_,fun b' h=>by injection h with h;rw[←h,hl]⟩
      rw[cO,hb]
      simp[hl]
   rcases hstep with ⟨p7,b,hb,hl⟩|⟨p7,hl⟩
   ·rw[hb] at e2 e5 p7 hsp
    have e5:s.env 5=I (bq b).length:=e5
    have hne:bq k≠bq b:=fun e=>by have:=A5 (by omega) (by have:=hsp.1;omega) e;have:=hsp.1;omega
    have h0:(0:Int)≤(bq b).length:=by omega
    have ZZ:∀s:St,s.env 4=aZ c→s.env 20=I N→s.env 2=.slice 1 ((mo (some b)).map I) r→s.env 5=I (bq b).length→zV N (fun k st=>st.env 4=aZ c∧st.env 20=I N∧st.env 21=I k∧(∃r,st.env 2=.slice 1 ((mo (cO q k)).map I) r)∧st.env 5=I (ku (cO q k))) k ((s.set 53 (I ((k:Int)+1))).set 21 (I ((k:Int)+1))):=by
     intro s e4 cg e2 e5
     refine aN hlt ?_
     rw[p7]
     exact⟨by simp[e4],by simp[cg],by simp,⟨r,by simp[e2]⟩,by simp[e5,ku]⟩
    by_cases h1:(bq b).length<(bq k).length
    ·have g1:((bq b).length:Int)<(bq k).length:=by omega
     simp -implicitDefEqProofs [e5,e7,cR,h0,h1]
     exact⟨i64 (by omega) (by omega),ZZ _ (by simp[e4]) (by simp[cg]) (by simp[e2]) (by simp[e5])⟩
    ·have h2:(bq k).length=(bq b).length:=by
      unfold gr at hl
      by_cases e:(bq k).length=(bq b).length
      ·exact e
      ·rw[if_pos e] at hl
       simp at hl
       omega
     have hg:=Jq h2 hne
     have mP:Zb (bq k) (bq b)=false:=by
      unfold gr at hl
      rwa [if_neg (not_not_intro h2)] at hl
     rw[mP] at hg
     have hg':0<Zc (bq k) (bq b):=by simpa using hg
     have hc:=Be _ _ h2
     have B_:s.env 2=.slice 1 ((bq b).map I) r:=e2
     simp -implicitDefEqProofs [B_,e5,e7,e8,h0,h2]
     refine aj hc ?_
     simp -implicitDefEqProofs [hg',cR]
     exact⟨i64 (by omega) (by omega),ZZ _ (by simp[e4]) (by simp[cg]) (by simp[e2]) (by simp[e5])⟩
   ·refine au (fun st=>st.env 4=aZ c∧st.env 20=I N∧st.env 21=I k∧st.env 2=.slice 1 ((mo (cO q k)).map I) r∧st.env 5=I (ku (cO q k))∧st.env 6=I k∧st.env 7=I (bq k).length∧st.env 8=IL (bq k)) ?_ ?_
    ·intro k1 aF
     cases hb:cO q k with
     |none=>
      rw[hb] at e5
      have e5:s.env 5=I (-1):=e5
      simp -implicitDefEqProofs [e5]
      exact aF _ (by simp[e4,cg,cR,e2,e5,e6,e7,e8,hb,ku])
     |some b=>
      have hl:=hl b hb
      rw[hb] at hsp
      have pI:s.env 5=I (bq b).length:=by rw[e5,hb];rfl
      have B_:s.env 2=.slice 1 ((bq b).map I) r:=by rw[e2,hb];rfl
      have h0:(0:Int)≤(bq b).length:=by omega
      have hne:bq k≠bq b:=fun e=>by have:=A5 (by omega) (by have:=hsp.1;omega) e;have:=hsp.1;omega
      unfold gr at hl
      by_cases h2:(bq k).length=(bq b).length
      ·rw[if_neg (not_not_intro h2)] at hl
       have hg:=Jq h2 hne
       rw[hl] at hg
       have hg':¬0<Zc (bq k) (bq b):=by simpa using hg
       have hc:=Be _ _ h2
       simp -implicitDefEqProofs [B_,pI,e7,e8,h0,h2]
       refine aj hc ?_
       simp -implicitDefEqProofs [hg']
       exact aF _ (by simp[e4,cg,cR,e2,e5,e6,e7,e8])
      ·rw[if_pos h2] at hl
       have hl:(bq k).length<(bq b).length:=by simpa using hl
       have h3:¬(bq b).length<(bq k).length:=by omega
       have h4:(((bq k).length:Int)==((bq b).length:Int))=false:=by simp;omega
       simp -implicitDefEqProofs [pI,e7,h0,h3,h4]
       exact aF _ (by simp[e4,cg,cR,e2,e5,e6,e7,e8])
    rintro s ⟨e4,cg,cR,e2,e5,e6,e7,e8⟩
    simp -implicitDefEqProofs [e4,e6]
    refine aj (TJ hok h8 (n:=k) (by omega)) ?_
    simp -implicitDefEqProofs
    refine aj (iF k (by omega)) ?_
    simp -implicitDefEqProofs
    refine e_ (fun rF=> ?_) (fun rF=> ?_)
    ·rw[rF,if_pos rfl] at p7
     simp -implicitDefEqProofs [e7,e8,cR]
     refine⟨i64 (by omega) (by omega),aN hlt ?_⟩
     rw[p7]
     exact⟨by simp[e4],by simp[cg],by simp,⟨0,by simp[mo]⟩,by simp[ku]⟩
    ·rw[rF,if_neg (by simp)] at p7
     simp -implicitDefEqProofs [cR]
     refine⟨i64 (by omega) (by omega),aN hlt ?_⟩
     rw[p7]
     exact⟨by simp[e4],by simp[cg],by simp,⟨r,by simp[e2]⟩,by simp[e5]⟩
  ·obtain rfl:k=N:=by omega
   simp -implicitDefEqProofs
   exact aX _ ⟨r,by simp[e2],by simp[e5]⟩
 rintro s ⟨r,e2,e5⟩
 cases hb:cO q N with
 |none=>
  rw[hb] at e5 hR
  simp -implicitDefEqProofs [e5,ku,tq,hR]
 |some b=>
  rw[hb] at e2 e5 hR
  have e5:s.env 5=I (bq b).length:=e5
  have e2:s.env 2=.slice 1 ((bq b).map I) r:=e2
  have h0:¬((bq b).length:Int)<0:=by omega
  by_cases hr:r=0
  ·subst hr
   simp -implicitDefEqProofs [e5,h0,e2,tq,hR]
  ·simp -implicitDefEqProofs [e5,h0,e2,hr,tq,hR]
end Go.Proofs.YtpeikknjbnnnnaaGreat.O
namespace Go.Proofs.YtpeikknjbnnnnaaGreat.O
open Go.az
theorem at_mem{o:List Int}{x:Int}(h:x∈o):∃k:Nat,∃hk:k<o.length,bU o x=k∧o[k]=x:=by
 unfold bU
 cases hq:o.idxOf? x with
 |some i=>
  rw[List.idxOf?_eq_some_iff] at hq
  obtain⟨h1,h2,h3⟩:=hq
  exact⟨i,h1,rfl,by simpa using h2⟩
 |none=>
  rw[List.idxOf?_eq_none_iff] at hq
  exact absurd h hq
theorem TU{o:List Int}{x:Int}:bU o x<0↔x∉o:=by
 constructor
 ·intro h hx
  obtain⟨k,-,h2,-⟩:=at_mem hx
  omega
 ·intro hx
  unfold bU
  rw[List.idxOf?_eq_none_iff.2 hx]
  decide
end Go.Proofs.YtpeikknjbnnnnaaGreat.O
namespace Go.Proofs.YtpeikknjbnnnnaaGreat.O
open Go.az
theorem TV{o:List Int}(h:o.Nodup){i:Nat}(hi:i<o.length):bU o o[i]=i:=by
 obtain⟨k,hk,h1,h2⟩:=at_mem (List.getElem_mem hi)
 rw[h1]
 have:=(List.getElem_inj h (h₀:=hk) (h₁:=hi)).1 h2
 omega
abbrev nt(q:aB→Prop)[DecidablePred q](l:List aB)(a:Int):Int:=l.foldl (fun a s=>if q s then max a s.year else a) a
abbrev p8(q:aB→Prop)[DecidablePred q](l:List aB)(a:Int):Int:=l.foldl (fun a s=>if q s then min a s.year else a) a
theorem rG(q:aB→Prop)[DecidablePred q]:∀(l:List aB) (a:Int),a≤nt q l a∧∀s∈l,q s→s.year≤nt q l a
 |[],a=>⟨Int.le_refl _,by simp⟩
 |s::l,a=>by
  have ih:=rG q l (if q s then max a s.year else a)
  show a≤nt q l (if q s then max a s.year else a)∧_
  refine⟨Int.le_trans ?_ ih.1,fun x hx hq=> ?_⟩
  ·split<;>omega
  ·rcases List.mem_cons.1 hx with rfl|hx
   ·rw[if_pos hq] at ih
    have h1:=ih.1
    show x.year≤nt q l (if q x then max a x.year else a)
    rw[if_pos hq];omega
   ·exact ih.2 x hx hq
theorem wH(q:aB→Prop)[DecidablePred q]:∀(l:List aB) (a:Int),p8 q l a≤a∧∀s∈l,q s→p8 q l a≤s.year
 |[],a=>⟨Int.le_refl _,by simp⟩
 |s::l,a=>by
  have ih:=wH q l (if q s then min a s.year else a)
  show p8 q l (if q s then min a s.year else a)≤a∧_
  refine⟨Int.le_trans ih.1 ?_,fun x hx hq=> ?_⟩
  ·split<;>omega
  ·rcases List.mem_cons.1 hx with rfl|hx
   ·rw[if_pos hq] at ih
    have h1:=ih.1
    show p8 q l (if q x then min a x.year else a)≤x.year
    rw[if_pos hq];omega
   ·exact ih.2 x hx hq
theorem Jr{c:Case}{o:Nat}{f:Int}{Y:Nat→Int}{t:Int}:∀{k:Nat} {x:(Nat→Int)×Int},gN c o f Y t k=some x→t≤x.2
 |0,x,h=>by injection h with h;rw[←h];exact Int.le_refl _
 |k+1,x,h=>by
  have h:(gN c o f Y t k).bind (l9 c o f k)=some x:=h
  rw[Option.bind_eq_some_iff] at h
  obtain⟨y,hy,h⟩:=h
  have ih:=Jr hy
  unfold l9 at h
  split at h
  ·injection h with h;rw[←h];exact ih
  ·split at h
   ·cases h
   ·injection h with h;rw[←h];show t≤max _ _;omega
theorem Js{c:Case}{order:List Int}:∀{i:Nat} {x:pR},fX c order i=some x→c.printed≤x.since
 |0,x,h=>by injection h with h;rw[←h];exact Int.le_refl _
 |i+1,x,h=>by
  have h:(fX c order i).bind (jG c (order.getD i 0).toNat)=some x:=h
  rw[Option.bind_eq_some_iff] at h
  obtain⟨y,hy,h⟩:=h
  have ih:=Js hy
  unfold jG at h
  rw[Option.bind_eq_some_iff] at h
  obtain⟨z,hz,h⟩:=h
  have:=Jr hz
  split at h
  ·cases h
  ·injection h with h;rw[←h];show c.printed≤z.2;omega
end Go.Proofs.YtpeikknjbnnnnaaGreat.O
namespace Go.Proofs.YtpeikknjbnnnnaaGreat.O
open Go.az
def HR(b4 b5:Nat)(l:List aY)(v:AV)(loc:Nat→Option (List AV)):Prop:=(l=[]∧v=.lit (.slice none 0 0))∨∃hb cap cs,l≠[]∧v=.aP hb 0 l.length cap 3∧loc hb=some cs∧Zx cs l cap∧hb≠b4∧hb≠b5
theorem HR.ext{b4 b5:Nat}{l:List aY}{v v':AV}{loc loc':Nat→Option (List AV)}(h:HR b4 b5 l v loc)(hv:v'=v)(hl:∀c,c≠b4→c≠b5→loc c≠none→loc' c=loc c):HR b4 b5 l v' loc':=by
 subst hv
 rcases h with ⟨h1,h2⟩|⟨hb,cap,cs,h1,h2,h3,h4,h5,h6⟩
 ·exact .inl ⟨h1,h2⟩
 ·exact .inr ⟨hb,cap,cs,h1,h2,by rw[hl hb h5 h6 (by rw[h3];simp)];exact h3,h4,h5,h6⟩
structure ZJ (c:Case) (order:List Int) (b4 b5 i:Nat) (Y:Nat→Int) (l:List aY) (s:St):Prop where
 e:s.env 1=IL order∧s.env 2=bI c∧s.env 4=.Yq b4 0∧s.env 5=.aP b5 0 c.marks.length c.marks.length 1∧s.env 8=I i
 l4:s.loc b4=some [B false,.slice 3 [] 5001,I 0]
 l5:s.loc b5=some (cl c.marks.length Y)
 hs:HR b4 b5 l (s.env 6) s.loc
theorem ZJ.ext{c:Case}{order:List Int}{b4 b5 i:Nat}{Y:Nat→Int}{l:List aY}{s s':St}(h:ZJ c order b4 b5 i Y l s)(he:∀k∈[1,2,4,5,6,8],s'.env k=s.env k)(hl:∀c,s.loc c≠none→s'.loc c=s.loc c):ZJ c order b4 b5 i Y l s':=by
 simp only[List.mem_cons,List.not_mem_nil,or_false,forall_eq_or_imp,forall_eq] at he
 obtain⟨a1,a2,a4,a5,a6,a8⟩:=he
 obtain⟨e1,e2,e4,e5,e8⟩:=h.e
 exact⟨⟨a1.trans e1,a2.trans e2,a4.trans e4,a5.trans e5,a8.trans e8⟩,by rw[hl b4 (by rw[h.l4];simp)];exact h.l4,by rw[hl b5 (by rw[h.l5];simp)];exact h.l5,h.hs.ext a6 (fun c _ _ hc=>hl c hc)⟩
theorem ZJ.years{c:Case}{order:List Int}{b4 b5 i:Nat}{Y Y':Nat→Int}{l:List aY}{s s':St}(h:ZJ c order b4 b5 i Y l s)(oz:b5≠b4)(he:∀k∈[1,2,4,5,6,8],s'.env k=s.env k)(hl:∀c,c≠b5→s'.loc c=s.loc c)(h5:s'.loc b5=some (cl c.marks.length Y')):ZJ c order b4 b5 i Y' l s':=by
 simp only[List.mem_cons,List.not_mem_nil,or_false,forall_eq_or_imp,forall_eq] at he
 obtain⟨a1,a2,a4,a5,a6,a8⟩:=he
 obtain⟨e1,e2,e4,e5,e8⟩:=h.e
 exact⟨⟨a1.trans e1,a2.trans e2,a4.trans e4,a5.trans e5,a8.trans e8⟩,by rw[hl b4 (fun e=>oz e.symm)];exact h.l4,h5,h.hs.ext a6 (fun c _ hc _=>hl c hc)⟩
theorem Jt:∀(l:List aY) (j:Nat) (h:j<(Yy l).length),(Yy l)[j]=if j+1<l.length then cut (l.getD j ⟨0,0,0⟩) (l.getD (j+1) ⟨0,0,0⟩).src else l.getD j ⟨0,0,0⟩
 |[],j,h=>by simp[Yy] at h
 |[a],0,h=>by simp[Yy]
 |[a],j+1,h=>by simp[Yy] at h
 |a::b::l,0,h=>by simp[Yy]
 |a::b::l,j+1,h=>by
  have ih:=Jt (b::l) j (by rw[tM] at h⊢;simpa using h)
  simp only[Yy,List.getElem_cons_succ,ih,List.length_cons,List.getD_cons_succ,Nat.add_lt_add_iff_right]
end Go.Proofs.YtpeikknjbnnnnaaGreat.O
namespace Go.Proofs.YtpeikknjbnnnnaaGreat.O
open Go.az
def firsts(c:Case)(os:List (List Int)):List (List Int):=(jK c os).map fun p=>p.1
def Ca(c:Case):List (List Int):=firsts c (ff c.an.length)
theorem Ju(c:Case):Ca c=(bA c).map fun p=>p.1:=rfl
theorem Jv{c:Case}{p:List Int×List aY}(h:p∈bA c):p.1∈ff c.an.length∧cX c p.1=some p.2:=by
 unfold bA jK at h
 rw[List.mem_filterMap] at h
 obtain⟨o,ho,hs⟩:=h
 unfold solved at hs
 rw[Option.map_eq_some_iff] at hs
 obtain⟨l,hl,rfl⟩:=hs
 exact⟨ho,hl⟩
theorem TW{c:Case}{k:Nat}(h:k<(bA c).length):∃h2:k<(Ca c).length,(Ca c)[k]=(bA c)[k].1∧cX c (bA c)[k].1=some (bA c)[k].2∧(bA c)[k].1∈ff c.an.length:=by
 have hm:=Jv (List.getElem_mem h)
 refine⟨by rw[Ju];simpa using h,?_,hm.2,hm.1⟩
 simp only[Ju,List.getElem_map]
end Go.Proofs.YtpeikknjbnnnnaaGreat.O
namespace Go.Proofs.YtpeikknjbnnnnaaGreat.O
open Go.az
end Go.Proofs.YtpeikknjbnnnnaaGreat.O
namespace Go.Proofs.YtpeikknjbnnnnaaGreat.O
open Go.az
end Go.Proofs.YtpeikknjbnnnnaaGreat.O
namespace Go.Proofs.YtpeikknjbnnnnaaGreat.O
open Go.az
def own(o:List Int)(i:Nat):Nat:=(o.getD i 0).toNat
structure fy (c:Case) (o:List Int):Prop where
 nu:∀x∈o,0≤x∧x<(c.an.length:Int)
 nd:o.Nodup
theorem rH{c:Case}{o:List Int}(h:fy c o){i:Nat}(hi:i<o.length):((own o i:Nat):Int)=o[i]∧own o i<c.an.length∧bU o (own o i)=i:=by
 have h1:=h.nu _ (List.getElem_mem hi)
 have e:((own o i:Nat):Int)=o[i]:=by
  unfold own
  rw[List.getD_eq_getElem?_getD,List.getElem?_eq_getElem hi,Option.getD_some]
  omega
 refine⟨e,by omega,?_⟩
 rw[e];exact TV h.nd hi
theorem tZ{c:Case}{o:List Int}(h:fy c o){x:Int}{i:Nat}(hi:i<o.length)(hx:bU o x=i):x=own o i:=by
 have hm:x∈o:=Decidable.not_not.1 fun hn=>by have:=TU.2 hn;omega
 obtain⟨k,hk,h1,h2⟩:=at_mem hm
 obtain rfl:k=i:=by omega
 rw[(rH h hk).1,h2]
theorem Jw{c:Case}{o:List Int}(h:o∈ff c.an.length):fy c o:=by
 have:=BJ h
 exact⟨this.2.2,this.2.1⟩
theorem Cb{c:Case}{o:List Int}(h:fy c o):o∈ff c.an.length:=by
 unfold ff BH
 rw[List.mem_flatMap]
 refine⟨o.length,?_,HH _ _ o rfl h.nd h.nu⟩
 rw[List.mem_range]
 have:=wz _ _ h.nd h.nu
 omega
structure Jx (c:Case) (o:List Int) (n:Nat) (S T Y:Nat→Int):Prop where
 le:∀i<n,S i≤T i
 next:∀i,i+1<n→T i≤S (i+1)
 own:∀i<n,cc c c.ak (own o i)≤S i∧S i≤YU c c.ak (own o i)∧YQ c c.ak (own o i)≤T i∧T i≤Yx c c.ak (own o i)
 marks:∀q (hq:q<c.marks.length) (i:Nat),i<n→bU o c.marks[q].owner=i→S i≤Y q∧Y q≤T i∧c.marks[q].lo≤Y q∧Y q≤c.marks[q].hi
 upon:∀q (hq:q<c.marks.length) (i:Nat),i<n→bU o c.marks[q].owner=i→c.marks[q].upon≠ -1→Y c.marks[q].upon.toNat≤Y q
abbrev nv(c:Case)(o:List Int)(S T Y:Nat→Int):Prop:=Jx c o o.length S T Y
theorem Jy{c:Case}{o:Nat}{f:Int}{Y0:Nat→Int}{t0:Int}(hu:∀i (h:i<c.marks.length),-1≤c.marks[i].upon∧c.marks[i].upon<i):∀{k:Nat} {x:(Nat→Int)×Int},k≤c.marks.length→gN c o f Y0 t0 k=some x→
  t0≤x.2∧(∀q,(∀hq:q<c.marks.length,c.marks[q].owner≠(o:Int))→x.1 q=Y0 q)∧
  ∀q (hq:q<c.marks.length),q<k→c.marks[q].owner=(o:Int)→f≤x.1 q∧x.1 q≤x.2∧c.marks[q].lo≤x.1 q∧x.1 q≤c.marks[q].hi∧(c.marks[q].upon≠ -1→x.1 c.marks[q].upon.toNat≤x.1 q)
 |0,x,_,h=>by
  injection h with h
  subst h
  exact⟨Int.le_refl _,fun _ _=>rfl,fun q _ hq=>by omega⟩
 |k+1,x,hk,h=>by
  have h:(gN c o f Y0 t0 k).bind (l9 c o f k)=some x:=h
  rw[Option.bind_eq_some_iff] at h
  obtain⟨y,hy,h⟩:=h
  obtain⟨i1,i2,i3⟩:=Jy hu (by omega) hy
  unfold l9 rq at h
  have hk':k<c.marks.length:=hk
  rw[eF hk'] at h
  have hup:=hu k hk'
  split at h
  ·rename_i hne
   injection h with h
   subst h
   refine⟨i1,i2,fun q hq rF ho=> ?_⟩
   by_cases e:q=k
   ·subst e;exact absurd ho hne
   ·exact i3 q hq (by omega) ho
  ·rename_i hne
   have ho:c.marks[k].owner=(o:Int):=Decidable.not_not.1 hne
   obtain⟨z,hz⟩:∃z,z=(if c.marks[k].upon= -1 then max c.marks[k].lo f else max (max c.marks[k].lo f) (y.1 c.marks[k].upon.toNat)):=⟨_,rfl⟩
   rw[←hz] at h
   by_cases hhi:c.marks[k].hi<z
   ·rw[if_pos hhi] at h;cases h
   rw[if_neg hhi] at h
   injection h with h
   subst h
   have Jz:c.marks[k].lo≤z∧f≤z:=by rw[hz];split<;>omega
   have TX:c.marks[k].upon≠ -1→y.1 c.marks[k].upon.toNat≤z:=fun hn=>by rw[hz,if_neg hn];omega
   have pk:∀j,j≠k→eA y.1 k z j=y.1 j:=fun j hj=>by unfold eA;rw[if_neg hj]
   have TY:eA y.1 k z k=z:=by unfold eA;rw[if_pos rfl]
   refine⟨by show t0≤max y.2 z;omega,fun q hq=> ?_,fun q hq rF TZ=> ?_⟩
   ·have e:q≠k:=by rintro rfl;exact hq hk' ho
    show eA y.1 k z q=_
    rw[pk q e];exact i2 q hq
   ·show f≤eA y.1 k z q∧eA y.1 k z q≤max y.2 z∧_≤eA y.1 k z q∧eA y.1 k z q≤_∧(_→eA y.1 k z _≤eA y.1 k z q)
    by_cases e:q=k
    ·subst e
     rw[TY]
     refine⟨Jz.2,by omega,Jz.1,by omega,fun hn=> ?_⟩
     rw[pk _ (by omega)]
     exact TX hn
    ·obtain⟨j1,j2,j3,j4,j5⟩:=i3 q hq (by omega) TZ
     have gi:=hu q hq
     rw[pk q e]
     refine⟨j1,by omega,j3,j4,fun hn=> ?_⟩
     rw[pk _ (by omega)]
     exact j5 hn
def JA(c:Case)(o:List Int)(n:Nat)(l:List aY):Prop:=l.length=n∧∀i (h:i<l.length),l[i].who=own o i∧l[i].cw=Yx c c.ak (own o i)
theorem wI{c:Case}{o:List Int}(hl:Ze c o=true){q:Nat}(hq:q<c.marks.length)(hn:c.marks[q].upon≠ -1):¬bU o c.marks[q].owner<bU o (c.marks.getD c.marks[q].upon.toNat dF).owner:=by
 unfold Ze at hl
 have:=List.all_eq_true.1 hl _ (List.getElem_mem hq)
 unfold under at this
 rw[decide_eq_false hn,Bool.false_or] at this
 simpa using this
theorem JB{c:Case}(hc:c.OK){o:List Int}(ho:fy c o)(hl:Ze c o=true)(hm:∀m∈c.marks,m.owner∈o):∀{n:Nat} {x:pR},n≤o.length→fX c o n=some x→JA c o n x.raw∧∃T,Jx c o n (fun i=>(x.raw.getD i ⟨0,0,0⟩).src) T x.years∧(∀i,i+1=n→T i=x.since)∧(n=0→x.since=c.printed)∧(∀i,i+1<n→(x.raw.getD (i+1) ⟨0,0,0⟩).src=max (T i) (cc c c.ak (own o (i+1))))∧(0<n→(x.raw.getD 0 ⟨0,0,0⟩).src=cc c c.ak (own o 0))
 |0,x,_,h=>by
  injection h with h
  subst h
  refine⟨⟨rfl,fun i h=>by cases h⟩,fun _=>0,⟨by omega,by omega,by omega,fun q _ i hi=>by omega,fun q _ i hi=>by omega⟩,by omega,fun _=>rfl,by omega,by omega⟩
 |n+1,x,hn,h=>by
  have h:(fX c o n).bind (jG c (own o n))=some x:=h
  rw[Option.bind_eq_some_iff] at h
  obtain⟨y,hy,h⟩:=h
  obtain⟨⟨l1,l2⟩,T,hF,hT,h0,hS,T0⟩:=JB hc ho hl hm (by omega) hy
  unfold jG at h
  rw[Option.bind_eq_some_iff] at h
  obtain⟨z,hz,h⟩:=h
  have hn':n<o.length:=hn
  have hsp:=Js hy
  obtain⟨m1,m2,m3⟩:=Jy hc.upon (Nat.le_refl _) hz
  obtain⟨oe,T1,Cc⟩:=rH ho hn'
  generalize iZ:own o n=on at*
  obtain⟨f,hf⟩:∃f,f=max y.since (cc c c.ak on):=⟨_,rfl⟩
  rw[←hf] at h m1 m3
  split at h
  ·cases h
  rename_i tO
  injection h with h
  subst h
  have tO:¬(YU c c.ak on<f)∧¬(Yx c c.ak on<z.2):=by
   constructor
   ·exact fun e=>tO (.inl e)
   ·exact fun e=>tO (.inr e)
  have hlen:(y.raw++[(⟨on,f,Yx c c.ak on⟩:aY)]).length=n+1:=by simp[l1]
  have nk:∀i,i<n→((y.raw++[(⟨on,f,Yx c c.ak on⟩:aY)]).getD i ⟨0,0,0⟩).src=(y.raw.getD i ⟨0,0,0⟩).src:=fun i hi=>by rw[List.getD_eq_getElem?_getD,List.getElem?_append_left (by omega),List.getD_eq_getElem?_getD]
  have rI:((y.raw++[(⟨on,f,Yx c c.ak on⟩:aY)]).getD n ⟨0,0,0⟩).src=f:=by rw[List.getD_eq_getElem?_getD,List.getElem?_append_right (by omega),l1,Nat.sub_self];rfl
  refine⟨⟨hlen,fun i hi=> ?_⟩,fun i=>if i=n then z.2 else T i,?_,?_,by omega,?_,?_⟩
  ·show(y.raw++[(⟨on,f,Yx c c.ak on⟩:aY)])[i].who=_∧(y.raw++[(⟨on,f,Yx c c.ak on⟩:aY)])[i].cw=_
   by_cases e:i<y.raw.length
   ·rw[List.getElem_append_left e];exact l2 i e
   ·have:i=n:=by
     have hi:i<(y.raw++[(⟨on,f,Yx c c.ak on⟩:aY)]).length:=hi
     rw[hlen] at hi;omega
    subst this
    rw[List.getElem_append_right (by omega)]
    simp[iZ]
  ·have hpos:∀q (hq:q<c.marks.length) (i:Nat),i<n→bU o c.marks[q].owner=i→z.1 q=y.years q:=fun q hq i hi he=>m2 q fun _ e=>by rw[e,Cc] at he;omega
   have hfT:f≤z.2:=by omega
   refine⟨fun i hi=> ?_,fun i hi=> ?_,fun i hi=> ?_,fun q hq i hi he=> ?_,fun q hq i hi he hne=> ?_⟩
   ·by_cases e:i=n
    ·subst e;simp only[rI,if_true];exact hfT
    ·simp only[nk i (by omega),if_neg e];exact hF.le i (by omega)
   ·by_cases e:i+1=n
    ·subst e
     simp only[rI,if_neg (show¬i=i+1 by omega)]
     rw[hT i rfl];omega
    ·simp only[nk (i+1) (by omega),if_neg (show¬i=n by omega)];exact hF.next i (by omega)
   ·by_cases e:i=n
    ·subst e
     simp only[rI,if_true,iZ]
     omega
    ·simp only[nk i (by omega),if_neg e];exact hF.own i (by omega)
   ·by_cases e:i=n
    ·subst e
     have kK:=m3 q hq hq (by rw[←iZ];exact tZ ho hn' he)
     simp only[rI,if_true]
     exact⟨kK.1,kK.2.1,kK.2.2.1,kK.2.2.2.1⟩
    ·simp only[nk i (by omega),if_neg e,hpos q hq i (by omega) he]
     exact hF.marks q hq i (by omega) he
   ·have hup:=hc.upon q hq
    obtain⟨u,hu⟩:∃u:Nat,c.marks[q].upon=u:=⟨c.marks[q].upon.toNat,by omega⟩
    have Y_:u<c.marks.length:=by omega
    by_cases e:i=n
    ·subst e
     exact(m3 q hq hq (by rw[←iZ];exact tZ ho hn' he)).2.2.2.2 hne
    ·have h1:=hF.upon q hq i (by omega) he hne
     have h2:=wI hl hq hne
     rw[hu,Int.toNat_natCast] at h1 h2⊢
     rw[eF Y_,he] at h2
     obtain⟨p,hp,qY,-⟩:=at_mem (hm _ (List.getElem_mem Y_))
     show z.1 u≤z.1 q
     rw[hpos q hq i (by omega) he,hpos u Y_ p (by omega) qY]
     exact h1
  ·intro i hi
   show(if i=n then z.2 else T i)=z.2
   rw[if_pos (by omega)]
  ·intro i hi
   by_cases e:i+1=n
   ·subst e
    simp only[rI,if_neg (show¬i=i+1 by omega)]
    rw[hT i rfl,hf,iZ]
   ·simp only[nk (i+1) (by omega),if_neg (show¬i=n by omega)];exact hS i (by omega)
  ·intro _
   by_cases e:0=n
   ·subst e
    simp only[rI]
    rw[hf,iZ,h0 rfl]
    have:=(rG (fun s=>s.dst=(on:Int)) c.ak (max c.printed (cW c on).born)).1
    have h2:cc c c.ak on=nt (fun s=>s.dst=(on:Int)) c.ak (max c.printed (cW c on).born):=rfl
    omega
   ·simp only[nk 0 (by omega)];exact T0 (by omega)
end Go.Proofs.YtpeikknjbnnnnaaGreat.O
namespace Go.Proofs.YtpeikknjbnnnnaaGreat.O
open Go.az
theorem JC{c:Case}(hc:c.OK){o:List Int}(ho:fy c o)(hl:Ze c o=true)(hm:∀m∈c.marks,m.owner∈o){S T Y:Nat→Int}(hF:nv c o S T Y){n:Nat}(hn:n<o.length){f:Int}(hf:f≤S n){Y0:Nat→Int}
  (hY:∀q (hq:q<c.marks.length),bU o c.marks[q].owner<n→Y0 q≤Y q):∀{k:Nat},k≤c.marks.length→
  ∃y,gN c (own o n) f Y0 (max f (YQ c c.ak (own o n))) k=some y∧y.2≤T n∧∀q (hq:q<c.marks.length),(bU o c.marks[q].owner<n∨(bU o c.marks[q].owner=n∧q<k))→y.1 q≤Y q
 |0,_=>by
  have h1:=hF.le n hn
  have h2:=hF.own n hn
  exact⟨_,rfl,by show max f _≤T n;omega,fun q hq h=>hY q hq (by omega)⟩
 |k+1,hk=>by
  have hk':k<c.marks.length:=hk
  obtain⟨y,hy,h1,h2⟩:=JC hc ho hl hm hF hn hf hY (k:=k) (by omega)
  have hs:gN c (own o n) f Y0 (max f (YQ c c.ak (own o n))) (k+1)=l9 c (own o n) f k y:=by
   show(gN c (own o n) f Y0 (max f (YQ c c.ak (own o n))) k).bind _=_
   rw[hy,Option.bind_some]
  rw[hs]
  unfold l9 rq
  rw[eF hk']
  obtain⟨oe,T1,Cc⟩:=rH ho hn
  have hup:=hc.upon k hk'
  by_cases hne:c.marks[k].owner≠(own o n:Int)
  ·rw[if_pos hne]
   refine⟨y,rfl,h1,fun q hq h=>h2 q hq ?_⟩
   rcases h with h|⟨h,rF⟩
   ·exact .inl h
   ·by_cases e:q=k
    ·subst e;exact absurd (tZ ho hn h) hne
    ·exact .inr ⟨h,by omega⟩
  rw[if_neg hne]
  have BL:c.marks[k].owner=(own o n:Int):=Decidable.not_not.1 hne
  have hpos:bU o c.marks[k].owner=n:=by rw[BL];exact Cc
  obtain⟨g1,g2,g3,g4⟩:=hF.marks k hk' n hn hpos
  obtain⟨z,hz⟩:∃z,z=(if c.marks[k].upon= -1 then max c.marks[k].lo f else max (max c.marks[k].lo f) (y.1 c.marks[k].upon.toNat)):=⟨_,rfl⟩
  rw[←hz]
  have hzY:z≤Y k:=by
   rw[hz]
   by_cases sr:c.marks[k].upon= -1
   ·rw[if_pos sr];omega
   ·rw[if_neg sr]
    have g5:=hF.upon k hk' n hn hpos sr
    obtain⟨u,hu⟩:∃u:Nat,c.marks[k].upon=u:=⟨c.marks[k].upon.toNat,by omega⟩
    have Y_:u<c.marks.length:=by omega
    have h3:=wI hl hk' sr
    rw[hu,Int.toNat_natCast] at g5 h3⊢
    rw[eF Y_,hpos] at h3
    have:=h2 u Y_ (by omega)
    omega
  rw[if_neg (by omega)]
  refine⟨_,rfl,by show max y.2 z≤T n;omega,fun q hq h=> ?_⟩
  show eA y.1 k z q≤Y q
  unfold eA
  by_cases e:q=k
  ·rw[if_pos e,e];exact hzY
  ·rw[if_neg e]
   exact h2 q hq (by omega)
theorem JD{c:Case}(hc:c.OK){o:List Int}(ho:fy c o)(hl:Ze c o=true)(hm:∀m∈c.marks,m.owner∈o){S T Y:Nat→Int}(hF:nv c o S T Y):∀{n:Nat},n≤o.length→∃x,fX c o n=some x∧(n<o.length→x.since≤S n)∧∀q (hq:q<c.marks.length),bU o c.marks[q].owner<n→x.years q≤Y q
 |0,_=>by
  refine⟨_,rfl,fun h=> ?_,fun q hq h=> ?_⟩
  ·have h1:=(hF.own 0 h).1
   have:=(rG (fun s=>s.dst=(own o 0:Int)) c.ak (max c.printed (cW c (own o 0)).born)).1
   have h2:cc c c.ak (own o 0)=nt (fun s=>s.dst=(own o 0:Int)) c.ak (max c.printed (cW c (own o 0)).born):=rfl
   show c.printed≤S 0
   omega
  ·obtain⟨p,hp,qY,-⟩:=at_mem (hm _ (List.getElem_mem hq))
   omega
 |n+1,hn=>by
  obtain⟨x,hx,h1,h2⟩:=JD hc ho hl hm hF (n:=n) (by omega)
  have hn':n<o.length:=hn
  have hs:fX c o (n+1)=jG c (own o n) x:=by
   show(fX c o n).bind _=_
   rw[hx,Option.bind_some];rfl
  have g:=hF.own n hn'
  have T4:max x.since (cc c c.ak (own o n))≤S n:=by have:=h1 hn';omega
  obtain⟨y,hy,h3,h4⟩:=JC hc ho hl hm hF hn' T4 h2 (Nat.le_refl _)
  rw[hs]
  unfold jG
  rw[hy,Option.bind_some,if_neg (by omega)]
  refine⟨_,rfl,fun hlt=> ?_,fun q hq h=>h4 q hq (by omega)⟩
  have:=hF.next n hlt
  show y.2≤S (n+1)
  omega
theorem rJ{c:Case}{o:List Int}(h:fY c o=true):iA c o=true∧ZC c o=true∧Ze c o=true:=by
 unfold fY at h
 simpa using h
theorem rK{c:Case}{o:List Int}(h:iA c o=true):∀m∈c.marks,m.owner∈o:=by
 intro m hm
 unfold iA at h
 rw[Bool.and_eq_true] at h
 have:=List.all_eq_true.1 h.1 m hm
 simpa[ot] using this
theorem JE{c:Case}(hc:c.OK){o:List Int}(ho:fy c o)(hr:fY c o=true){S T Y:Nat→Int}(hF:nv c o S T Y):∃l,cX c o=some l:=by
 obtain⟨h1,h2,h3⟩:=rJ hr
 obtain⟨x,hx,-⟩:=JD hc ho h3 (rK h1) hF (Nat.le_refl _)
 unfold cX
 rw[if_pos hr,hx]
 exact⟨_,rfl⟩
structure Cd (c:Case) (o:List Int) (l:List aY) (T Y:Nat→Int):Prop where
 rules:fY c o=true
 holds:JA c o o.length l
 jM:nv c o (fun i=>(l.getD i ⟨0,0,0⟩).src) T Y
 tight:∀i,i+1<o.length→(l.getD (i+1) ⟨0,0,0⟩).src=max (T i) (cc c c.ak (own o (i+1)))
 first:0<o.length→(l.getD 0 ⟨0,0,0⟩).src=cc c c.ak (own o 0)
theorem wJ{c:Case}(hc:c.OK){o:List Int}(ho:fy c o){l:List aY}(h:cX c o=some l):∃T Y,Cd c o l T Y:=by
 unfold cX at h
 by_cases hr:fY c o=true
 case neg=>rw[if_neg hr] at h;cases h
 rw[if_pos hr,Option.map_eq_some_iff] at h
 obtain⟨x,hx,rfl⟩:=h
 obtain⟨h1,h2,h3⟩:=rJ hr
 obtain⟨g1,T,g2,-,-,g3,g4⟩:=JB hc ho h3 (rK h1) (Nat.le_refl _) hx
 exact⟨T,x.years,hr,g1,g2,g3,g4⟩
def ZE(c:Case)(p:Int):List Int→Int
 |[]=>0
 |x::o=>(if p<cc c c.ak x.toNat then 1 else 0)+ZE c (Yx c c.ak x.toNat) o
def jd(c:Case)(p:Int):List Int→Int
 |[]=>p
 |x::o=>jd c (Yx c c.ak x.toNat) o
def mq(c:Case)(o:List Int):Int:=if o=[] then 1 else ZE c c.printed o+if jd c c.printed o<c.now then 1 else 0
theorem JF(c:Case)(x:Int):∀(p:Int) (o:List Int),ZE c p (o++[x])=ZE c p o+if jd c p o<cc c c.ak x.toNat then 1 else 0
 |p,[]=>by simp only[List.nil_append,ZE,jd];omega
 |p,y::o=>by
  have:=JF c x (Yx c c.ak y.toNat) o
  simp only[List.cons_append,ZE,jd,this]
  omega
theorem JG(c:Case)(x:Int):∀(p:Int) (o:List Int),jd c p (o++[x])=Yx c c.ak x.toNat
 |_,[]=>rfl
 |_,y::o=>JG c x (Yx c c.ak y.toNat) o
theorem T5{c:Case}{o:List Int}{l:List aY}{T Y:Nat→Int}(h:Cd c o l T Y):dH c l=mq c o:=by
 have iB:=h.holds.1
 have key:∀n,n≤o.length→cQ c.printed (l.take n)=ZE c c.printed (o.take n)∧pS c.printed (l.take n)=jd c c.printed (o.take n)∧(∀k,k+1=n→jd c c.printed (o.take n)=Yx c c.ak (own o k)):=by
  intro n
  induction n with
  |zero=>intro _;exact⟨rfl,rfl,by omega⟩
  |succ n ih=>
   intro hn
   obtain⟨i1,i2,i3⟩:=ih (by omega)
   have hno:n<o.length:=hn
   have YF:n<l.length:=by omega
   have hw:=h.holds.2 n YF
   have hown:own o n=o[n].toNat:=by unfold own;rw[List.getD_eq_getElem?_getD,List.getElem?_eq_getElem hno,Option.getD_some]
   have hsrc:(l.getD n ⟨0,0,0⟩).src=l[n].src:=by rw[List.getD_eq_getElem?_getD,List.getElem?_eq_getElem YF,Option.getD_some]
   have hiff:(jd c c.printed (o.take n)<l[n].src)↔(jd c c.printed (o.take n)<cc c c.ak (own o n)):=by
    cases n with
    |zero=>
     have:=h.first (by omega)
     rw[←hsrc,this]
    |succ k=>
     have h1:=h.tight k (by omega)
     rw[hsrc] at h1
     have h2:=h.jM.own k (by omega)
     rw[i3 k rfl,h1]
     omega
   rw[cV hno,cV YF,Bq,JF,wj,JG,i1,i2,←hown,hw.2]
   refine⟨?_,rfl,fun k hk=> ?_⟩
   ·by_cases hc:jd c c.printed (o.take n)<l[n].src
    ·rw[if_pos hc,if_pos (hiff.1 hc)]
    ·rw[if_neg hc,if_neg (fun e=>hc (hiff.2 e))]
   ·obtain rfl:k=n:=by omega
    rfl
 have hk:=key o.length (Nat.le_refl _)
 rw[List.take_length,←iB,List.take_length] at hk
 unfold dH mq
 by_cases e:o=[]
 ·have:l=[]:=by
   rw[e] at iB
   exact List.length_eq_zero_iff.1 iB
  rw[if_pos e,if_pos this]
 ·have:l≠[]:=by
   intro e2
   rw[e2] at iB
   exact e (List.length_eq_zero_iff.1 iB.symm)
  rw[if_neg e,if_neg this,hk.1,hk.2.1]
theorem JH{c:Case}(hc:c.OK){o:List Int}(ho:fy c o){l:List aY}(h:cX c o=some l):dH c l=mq c o:=by
 obtain⟨T,Y,hT⟩:=wJ hc ho h
 exact T5 hT
theorem Ce{c:Case}:cF c=true↔∃o,fy c o∧∃l,cX c o=some l:=by
 unfold cF
 constructor
 ·intro h
  cases hc:bA c with
  |nil=>rw[hc] at h;cases h
  |cons p ps=>
   have:=Jv (c:=c) (p:=p) (by rw[hc];simp)
   exact⟨p.1,Jw this.1,p.2,this.2⟩
 ·rintro⟨o,ho,l,hl⟩
  have hm:(o,l)∈bA c:=by
   unfold bA jK
   rw[List.mem_filterMap]
   exact⟨o,Cb ho,by unfold solved;rw[hl];rfl⟩
  cases hc:bA c with
  |nil=>rw[hc] at hm;cases hm
  |cons p ps=>rfl
theorem JI{c:Case}(hc:c.OK):cF c=true↔∃o,fy c o∧fY c o=true∧∃S T Y,nv c o S T Y:=by
 rw[Ce]
 constructor
 ·rintro⟨o,ho,l,hl⟩
  obtain⟨T,Y,h⟩:=wJ hc ho hl
  exact⟨o,ho,h.rules,_,T,Y,h.jM⟩
 ·rintro⟨o,ho,hr,S,T,Y,h⟩
  exact⟨o,ho,JE hc ho hr h⟩
end Go.Proofs.YtpeikknjbnnnnaaGreat.O
namespace Go.Proofs.YtpeikknjbnnnnaaGreat.O
open Go.az
theorem T6{c:Case}{i:Nat}(hi:i<c.marks.length){o:List Int}(hr:fY c o=true){S T Y:Nat→Int}(hF:nv c o S T Y){y:Int}(hy:y=Y i):fY (YR c i y) o=true∧nv (YR c i y) o S T Y:=by
 have hlen:(YR c i y).marks.length=c.marks.length:=by simp[YR]
 have hown:∀q (hq:q<c.marks.length),((YR c i y).marks[q]'(by omega)).owner=c.marks[q].owner∧((YR c i y).marks[q]'(by omega)).upon=c.marks[q].upon:=by
  intro q hq
  show((c.marks.set i (Zf (c.marks.getD i dF) y))[q]'(by simpa using hq)).owner=_∧((c.marks.set i (Zf (c.marks.getD i dF) y))[q]'(by simpa using hq)).upon=_
  rw[List.getElem_set]
  by_cases e:i=q
  ·subst e;rw[if_pos rfl,eF hi];exact⟨rfl,rfl⟩
  ·rw[if_neg e];exact⟨rfl,rfl⟩
 obtain⟨h1,h2,h3⟩:=rJ hr
 have hm:=rK h1
 refine⟨?_,?_⟩
 ·have g1:iA (YR c i y) o=true:=by
   unfold iA at h1⊢
   rw[Bool.and_eq_true] at h1⊢
   refine⟨?_,h1.2⟩
   rw[List.all_eq_true]
   intro m p9
   obtain⟨q,hq,rfl⟩:=List.getElem_of_mem p9
   have:=hm _ (List.getElem_mem (show q<c.marks.length by omega))
   unfold ot
   rw[(hown q (by omega)).1]
   simpa using this
  have g3:Ze (YR c i y) o=true:=by
   unfold Ze
   rw[List.all_eq_true]
   intro m p9
   obtain⟨q,hq,rfl⟩:=List.getElem_of_mem p9
   have ck:q<c.marks.length:=by omega
   unfold under
   rw[(hown q ck).1,(hown q ck).2]
   by_cases hn:c.marks[q].upon= -1
   ·rw[decide_eq_true hn];rfl
   ·have:=wI h3 ck hn
    by_cases hu:c.marks[q].upon.toNat<c.marks.length
    ·rw[eF hu] at this
     rw[eF (by omega),(hown _ hu).1,decide_eq_false this]
     simp
    ·rw[List.getD_eq_getElem?_getD,List.getElem?_eq_none (by omega)] at this⊢
     rw[decide_eq_false this];simp
  unfold fY
  rw[g1,g3]
  have:ZC (YR c i y) o=ZC c o:=rfl
  rw[this,h2];rfl
 ·refine⟨hF.le,hF.next,hF.own,fun q hq p hp he=> ?_,fun q hq p hp he hne=> ?_⟩
  ·have ck:q<c.marks.length:=by omega
   rw[(hown q ck).1] at he
   have g:=hF.marks q ck p hp he
   refine⟨g.1,g.2.1,?_⟩
   show((c.marks.set i (Zf (c.marks.getD i dF) y))[q]'(by simpa using ck)).lo≤_∧_≤((c.marks.set i (Zf (c.marks.getD i dF) y))[q]'(by simpa using ck)).hi
   rw[List.getElem_set]
   by_cases e:i=q
   ·subst e
    rw[if_pos rfl]
    show y≤Y i∧Y i≤y
    omega
   ·rw[if_neg e];exact g.2.2
  ·have ck:q<c.marks.length:=by omega
   rw[(hown q ck).1] at he
   rw[(hown q ck).2] at hne⊢
   exact hF.upon q ck p hp he hne
theorem JJ{c:Case}(hc:c.OK)(hs:cF c=true){i:Nat}(hi:i<c.marks.length):∃y,c.marks[i].lo≤y∧y≤c.marks[i].hi∧gz c i y=true:=by
 obtain⟨o,ho,hr,S,T,Y,hF⟩:=(JI hc).1 hs
 obtain⟨h1,-,-⟩:=rJ hr
 obtain⟨p,hp,qY,-⟩:=at_mem (rK h1 _ (List.getElem_mem hi))
 have g:=hF.marks i hi p hp qY
 have hm:=hc.marks _ (List.getElem_mem hi)
 refine⟨Y i,g.2.2.1,g.2.2.2,?_⟩
 obtain⟨f1,f2⟩:=T6 hi hr hF (y:=Y i) rfl
 exact(JI (wC hc (by omega))).2 ⟨o,⟨ho.nu,ho.nd⟩,f1,S,T,Y,f2⟩
theorem wK(p:Int→Bool):∀(n:Nat) (lo y:Int),lo≤y→y≤lo+n→p y=true→p (upTo p lo n)=true∧upTo p lo n≤y∧∀z,lo≤z→z<upTo p lo n→p z=false
 |0,lo,y,h1,h2,hp=>by
  obtain rfl:y=lo:=by omega
  exact⟨hp,Int.le_refl _,fun z h1 h2=>by simp only[upTo] at h2;omega⟩
 |n+1,lo,y,h1,h2,hp=>by
  unfold upTo
  by_cases hl:p lo=true
  ·rw[if_pos hl];exact⟨hl,h1,fun z h1 h2=>by omega⟩
  ·rw[if_neg hl]
   have hne:y≠lo:=by rintro rfl;exact hl hp
   obtain⟨g1,g2,g3⟩:=wK p n (lo+1) y (by omega) (by omega) hp
   refine⟨g1,g2,fun z h1 h2=> ?_⟩
   by_cases e:z=lo
   ·rw[e];simpa using hl
   ·exact g3 z (by omega) h2
theorem Cf(p:Int→Bool):∀(n:Nat) (hi y:Int),y≤hi→hi - n≤y→p y=true→p (gy p hi n)=true∧y≤gy p hi n∧∀z,z≤hi→gy p hi n<z→p z=false
 |0,hi,y,h1,h2,hp=>by
  obtain rfl:y=hi:=by omega
  exact⟨hp,Int.le_refl _,fun z h1 h2=>by simp only[gy] at h2;omega⟩
 |n+1,hi,y,h1,h2,hp=>by
  unfold gy
  by_cases hl:p hi=true
  ·rw[if_pos hl];exact⟨hl,h1,fun z h1 h2=>by omega⟩
  ·rw[if_neg hl]
   have hne:y≠hi:=by rintro rfl;exact hl hp
   obtain⟨g1,g2,g3⟩:=Cf p n (hi - 1) y (by omega) (by omega) hp
   refine⟨g1,g2,fun z h1 h2=> ?_⟩
   by_cases e:z=hi
   ·rw[e];simpa using hl
   ·exact g3 z (by omega) h2
theorem JK(p:Int→Bool)(d:Nat):∀(n:Nat) (hi:Int),p (hi - n)=true→gy p hi (n+d)=gy p hi n
 |0,hi,h=>by
  have h:p hi=true:=by simpa using h
  cases d with
  |zero=>rfl
  |succ d=>show(if p hi=true then hi else _)=hi;rw[if_pos h]
 |n+1,hi,h=>by
  rw[show n+1+d=(n+d)+1 by omega]
  unfold gy
  rw[JK p d n (hi - 1) (by rw[show hi - 1 - (n:Int)=hi - ((n+1:Nat):Int) by omega];exact h)]
theorem JL{c:Case}(hc:c.OK)(hs:cF c=true){i:Nat}(hi:i<c.marks.length):rB c i=gy (gz c i) c.marks[i].hi (c.marks[i].hi - c.marks[i].lo).toNat:=by
 obtain⟨y,h1,h2,h3⟩:=JJ hc hs hi
 unfold rB
 rw[eF hi]
 have hL:jL c i=upTo (gz c i) c.marks[i].lo (c.marks[i].hi - c.marks[i].lo).toNat:=by unfold jL;rw[eF hi]
 obtain⟨g1,g2,g3⟩:=wK (gz c i) (c.marks[i].hi - c.marks[i].lo).toNat c.marks[i].lo y h1 (by omega) h3
 rw[←hL] at g1 g2
 have hin:=wD (gz c i) (c.marks[i].hi - c.marks[i].lo).toNat c.marks[i].lo
 rw[←hL] at hin
 have:=JK (gz c i) ((jL c i - c.marks[i].lo).toNat) ((c.marks[i].hi - jL c i).toNat) c.marks[i].hi (by rw[show c.marks[i].hi - (((c.marks[i].hi - jL c i).toNat:Nat):Int)=jL c i by omega];exact g1)
 rw[←this]
 congr 1
 omega
end Go.Proofs.YtpeikknjbnnnnaaGreat.O
namespace Go.Proofs.YtpeikknjbnnnnaaGreat.O
open Go.az
end Go.Proofs.YtpeikknjbnnnnaaGreat.O
namespace Go.Proofs.YtpeikknjbnnnnaaGreat.O
open Go.az
end Go.Proofs.YtpeikknjbnnnnaaGreat.O
namespace Go.Proofs.YtpeikknjbnnnnaaGreat.O
open Go.az
def T7(p:Nat→Bool)(k:Nat)(j:Nat):Int:=if j<k∧p j=false then gP p j else 0
structure WR (c:Case) (out:List Int) (p:Nat→Bool) (b2 b4 b5 k:Nat) (s:St):Prop where
 e:s.env 1=IL out∧s.env 2=.Yq b2 0∧s.env 4=.Yq b4 0∧s.env 5=.aP b5 0 c.marks.length c.marks.length 1∧s.env 6=.slice 4 ((dW c.marks p k).map cT) 7∧s.env 7=I k
 l2:s.loc b2=some (cU c)
 l4:s.loc b4=some [I 0,I 0,.slice 3 [] 5002,.slice 4 [] 5003,.slice 3 [] 5004]
 l5:s.loc b5=some (cl c.marks.length (T7 p k))
end Go.Proofs.YtpeikknjbnnnnaaGreat.O
namespace Go.Proofs.YtpeikknjbnnnnaaGreat.O
open Go.az
end Go.Proofs.YtpeikknjbnnnnaaGreat.O
namespace Go.Proofs.YtpeikknjbnnnnaaGreat.O
open Go.az
def Yw(more:List Mk):Case:=⟨1600,1700,[⟨⟨#[97,110,110]⟩,1580,1640⟩,⟨⟨#[98,101,110]⟩,1600,1660⟩,⟨⟨#[99,105,100]⟩,1665,1720⟩,⟨⟨#[100,111,116]⟩,1650,1690⟩],[⟨0,1610,1620,-1⟩,⟨1,1615,1630,0⟩,⟨2,1680,1685,-1⟩]++more,[]⟩
def Zi:Case:=⟨1640,1700,[⟨⟨#[100,111,116]⟩,1650,1690⟩],[],[]⟩
abbrev jN:List Mk:=[⟨3,1610,1615,-1⟩]
theorem rL:bD=fun p q=>p.data.toList==q.data.toList:=by
 funext p q
 unfold bD
 rw[A9,A9]
theorem T8:∀j<4,YI (Yw []) j=0:=by
 unfold YI ew
 rw[rL]
 decide+kernel
theorem T9:∀j<1,YI Zi j=0:=by
 unfold YI ew
 rw[rL]
 decide+kernel
theorem JM(more:List Mk)(hl:more.length≤5)(hm:∀j<3+more.length,YT (Yw more) j=0):YP (Yw more)=(0,0,0):=by
 refine tA ⟨⟨⟨by simp[Yw],by simp[Yw],by simp[Yw]⟩,?_,by simp[Yw];omega⟩,fun j hj=>hm j (by simp[Yw] at hj;omega),by simp[Yw]⟩ (by simp[Yw])
 intro j hj
 exact T8 j (by simpa[Yw] using hj)
theorem p_:bC (Yw [])=0:=by rw[bC,JM [] (by simp) (by decide+kernel)]
theorem JN:bC (Yw jN)=0:=by rw[bC,JM jN (by simp) (by decide+kernel)]
theorem T_:bC Zi=0:=by rw[bC,tA ⟨⟨⟨by simp[Zi],by simp[Zi],by simp[Zi]⟩,fun j hj=>T9 j (by simpa[Zi] using hj),by simp[Zi]⟩,by simp[Zi],by simp[Zi]⟩ (by simp[Zi])]
theorem abU:eR (Yw []) (bA (Yw []))=some [⟨0,1600,1640⟩,⟨1,1610,1660⟩,⟨3,1650,1690⟩,⟨2,1665,1700⟩]:=by kernel_rfl
theorem Ua:dI (Yw [])=⟨[⟨0,1600,1610⟩,⟨1,1610,1650⟩,⟨3,1650,1665⟩,⟨2,1665,1700⟩],0,0⟩:=by
 unfold dI
 rw[p_,if_neg (by simp),abU]
 kernel_rfl
theorem Ub(o:List Int)(l:List aY)(u:Int)(h1:Zy (Yw []) o=0)(h2:cX (Yw []) o=some l)(h3:dH (Yw []) l=u):nq (Yw []) o=⟨u,0⟩:=by
 unfold nq
 rw[p_,if_neg (by simp),h1,if_neg (by simp),h2,←h3]
theorem Uc(o:List Int)(h1:Zy (Yw []) o=0)(h2:cX (Yw []) o=none):nq (Yw []) o=⟨0,9⟩:=by
 unfold nq
 rw[p_,if_neg (by simp),h1,if_neg (by simp),h2]
theorem Ud:nq (Yw []) [0,1,2,3]=⟨2,0⟩:=Ub _ [⟨0,1600,1640⟩,⟨1,1610,1660⟩,⟨2,1665,1700⟩,⟨3,1680,1690⟩] _ (by decide+kernel) (by kernel_rfl) (by decide+kernel)
theorem Ue:nq (Yw []) [1,0,2]=⟨0,9⟩:=Uc _ (by decide+kernel) (by kernel_rfl)
theorem wL:cF (Yw [])=true:=by decide+kernel
theorem Uf:cF (Yw jN)=false:=by decide+kernel
theorem Ug:cF Zi=true:=by decide+kernel
theorem Uh:¬bA (Yw [])=[]:=by
 intro e
 have:=wL
 unfold cF at this
 rw[e] at this
 cases this
theorem Ui:tS (Yw []) 0 1=⟨1,0⟩:=by
 unfold tS
 rw[p_,if_neg (by simp),if_neg (by decide+kernel),if_neg (by decide),if_neg Uh]
 kernel_rfl
theorem Uj:aaq (Yw []) 0=⟨1610,1620,0⟩:=by
 unfold aaq
 rw[p_,if_neg (by simp),if_neg (by decide+kernel),wL,if_neg (by simp)]
 kernel_rfl
theorem Uk:aaq (Yw jN) 0=⟨0,0,8⟩:=by
 unfold aaq
 rw[JN,if_neg (by simp),if_neg (by decide+kernel),Uf,if_pos rfl]
theorem JO:Zg (Yw []) 1655=[1,3]:=by decide+kernel
theorem Ul:Zg Zi 1655=[0]:=by decide+kernel
theorem Um:tV (Yw []) 1655=⟨[1,3],0⟩:=by
 unfold tV
 rw[p_,if_neg (by simp),if_neg (by decide+kernel),wL,if_neg (by simp),JO]
theorem Un:tW (Yw []) Zi 1655=⟨[3],0⟩:=by
 unfold tW BZ
 rw[p_,if_neg (by simp),T_,if_neg (by simp),if_neg (by decide+kernel),wL,Ug,if_neg (by simp),JO,Ul,rL]
 kernel_rfl
theorem Uo:tY (Yw jN)=⟨[3],0⟩:=by
 unfold tY
 have h:cO (tX (Yw jN)) (2^(Yw jN).marks.length)=some 8:=by decide+kernel
 have h2:bq 8=[3]:=by decide+kernel
 rw[JN,if_neg (by simp),h]
 show(⟨bq 8,0⟩:tU)=_
 rw[h2]
end Go.Proofs.YtpeikknjbnnnnaaGreat.O
namespace Go.Proofs.YtpeikknjbnnnnaaGreat.O
open Go.az
theorem JP(more:List Mk)(hl:more.length≤9):aA Tryz.prog 18 [.slice 4 (more.map cT) 0] (fc (Yw more)):=by
 refine pc t18 (by simp) fun _=> ?_
 have c1:=v7 0 1610 1620 (-1)
 have c2:=v7 1 1615 1630 0
 have c3:=v7 2 1680 1685 (-1)
 simp -implicitDefEqProofs [Fa]
 intro b
 refine aj c1 ?_
 simp -implicitDefEqProofs
 refine aj c2 ?_
 simp -implicitDefEqProofs
 refine aj c3 ?_
 simp -implicitDefEqProofs [Fb,Yw]
 omega
theorem Up:aA Tryz.prog 24 [] (fc Zi):=by
 refine pc t24 (by simp) fun _=> ?_
 simp -implicitDefEqProofs [Fi,Fj,Zi]
instance:DecidableEq aY:=fun a b=>decidable_of_iff (a.who=b.who∧a.src=b.src∧a.cw=b.cw) ⟨fun h=>by cases a;cases b;simp at h;simp[h],fun h=>by rw[h];exact⟨rfl,rfl,rfl⟩⟩
theorem Uq(a b:List aY):aA Tryz.prog 27 [HL a,HL b] (B (decide (a=b))):=by
 refine pc t27 (by simp) fun hfit=> ?_
 have ha:=cP (hfit 0)
 simp only[List.length_map] at ha
 obtain⟨R,hR⟩:∃R,R=decide (a=b):=⟨_,rfl⟩
 rw[←hR]
 simp -implicitDefEqProofs only[Fo]
 refine au (fun st=>st.env 0=HL a∧st.env 1=HL b) ?_ ?_
 ·intro k hk
  simp -implicitDefEqProofs
  exact hk _ (by simp)
 rintro s ⟨e0,e1⟩
 refine au (fun st=>st.env 0=HL a∧st.env 1=HL b∧a.length=b.length) ?_ ?_
 ·intro k hk
  by_cases hl:a.length=b.length
  ·have hl':((a.length:Int) != (b.length:Int))=false:=by simp[hl]
   simp -implicitDefEqProofs [e0,e1,hl']
   exact hk _ (by simp[e0,e1,hl])
  ·have hl':((a.length:Int) != (b.length:Int))=true:=by simp;omega
   have hR:R=false:=by rw[hR];exact decide_eq_false fun e=>hl (by rw[e])
   simp -implicitDefEqProofs [e0,e1,hl',vJ,hR]
 rintro s ⟨e0,e1,hl⟩
 refine au (fun st=>a=b) ?_ ?_
 ·intro k0 aX
  simp -implicitDefEqProofs
  refine bw a.length (fun k st=>st.env 0=HL a∧st.env 1=HL b∧st.env 5=I k∧a.take k=b.take k) ?_ ?_
  ·simp[e0,e1]
  rintro k s hk ⟨e0,e1,e5,dG⟩
  simp -implicitDefEqProofs [e0,e5]
  refine bu (fun hlt=> ?_) (fun hge=> ?_)
  ·have hlt:k<a.length:=by omega
   have YH:k<b.length:=by omega
   have cm:a[k]=b[k]→a.take (k+1)=b.take (k+1):=fun e=>by rw[cV hlt,cV YH,dG,e]
   have hne:a[k]≠b[k]→a≠b:=fun h e=>h (by subst e;rfl)
   generalize hp:a[k]=p at*
   generalize hq:b[k]=q at*
   simp -implicitDefEqProofs [e0,e1,e5,hlt,YH,hp,hq]
   refine e_ (fun hb=> ?_) (fun hb=> ?_)
   ·have hpq:p≠q:=by rintro rfl;simp at hb
    have hR:R=false:=by rw[hR];exact decide_eq_false (hne hpq)
    simp -implicitDefEqProofs [vJ,hR]
   ·have hpq:p=q:=by
     cases p;cases q
     simp at hb
     simp[hb]
    simp -implicitDefEqProofs [e5]
    exact⟨i64 (by omega) (by omega),aN hlt ⟨by simp[e0],by simp[e1],by simp,cm hpq⟩⟩
  ·obtain rfl:k=a.length:=by omega
   rw[List.take_length,hl,List.take_length] at dG
   simp -implicitDefEqProofs
   exact aX _ dG
 intro s hab
 have hR:R=true:=by rw[hR];exact decide_eq_true hab
 simp -implicitDefEqProofs [vJ,hR]
theorem Ur:aA Tryz.prog 6 [] (B true):=by
 refine pc t6 (by simp) fun _=> ?_
 have k0:aA Tryz.prog 18 [.slice 4 [] 0] (fc (Yw [])):=JP [] (by simp)
 have k1:aA Tryz.prog 18 [.slice 4 (jN.map cT) 0] (fc (Yw jN)):=JP jN (by simp)
 have q1:=BO (Yw [])
 have q2:=IX (Yw []) [0,1,2,3]
 have q3:=IX (Yw []) [1,0,2]
 have q4:=Tk (Yw []) 0 1
 have q5:=I6 (Yw []) 0
 have q6:=Tx (Yw []) 1655
 have q7:=TC (Yw []) Zi 1655
 have q8:=TS (Yw jN)
 have q9:=I6 (Yw jN) 0
 rw[Ua] at q1
 rw[Ud] at q2
 rw[Ue] at q3
 rw[Ui] at q4
 rw[Uj] at q5
 rw[Um] at q6
 rw[Un] at q7
 rw[Uo] at q8
 rw[Uk] at q9
 have k2:=Up
 have s1:=v7 3 1610 1615 (-1)
 have t1:=v5 0 1600 1610
 have t2:=v5 1 1610 1650
 have t3:=v5 3 1650 1665
 have t4:=v5 2 1665 1700
 have u1:=Uq [⟨0,1600,1610⟩,⟨1,1610,1650⟩,⟨3,1650,1665⟩,⟨2,1665,1700⟩] [⟨0,1600,1610⟩,⟨1,1610,1650⟩,⟨3,1650,1665⟩,⟨2,1665,1700⟩]
 have u2:=ni [1,3] [1,3]
 have u3:=ni [3] [3]
 have u4:=H9 1610 1620
 generalize Yw []=c at*
 generalize Yw jN=d at*
 simp -implicitDefEqProofs [m6]
 refine aj k0 ?_
 simp -implicitDefEqProofs
 intro b1
 refine aj q1 ?_
 simp -implicitDefEqProofs
 refine aj q2 ?_
 simp -implicitDefEqProofs
 refine aj q3 ?_
 simp -implicitDefEqProofs
 refine aj q4 ?_
 simp -implicitDefEqProofs
 refine aj q5 ?_
 simp -implicitDefEqProofs
 intro X1
 refine aj q6 ?_
 simp -implicitDefEqProofs
 refine aj k2 ?_
 simp -implicitDefEqProofs
 refine aj q7 ?_
 simp -implicitDefEqProofs
 refine aj s1 ?_
 simp -implicitDefEqProofs
 refine aj k1 ?_
 simp -implicitDefEqProofs
 refine aj q8 ?_
 simp -implicitDefEqProofs
 refine aj s1 ?_
 simp -implicitDefEqProofs
 refine aj k1 ?_
 simp -implicitDefEqProofs
 refine aj q9 ?_
 simp -implicitDefEqProofs
 intro X2 _
 refine aj t1 ?_
 simp -implicitDefEqProofs
 refine aj t2 ?_
 simp -implicitDefEqProofs
 refine aj t3 ?_
 simp -implicitDefEqProofs
 refine aj t4 ?_
 simp -implicitDefEqProofs
 refine aj u1 ?_
 simp -implicitDefEqProofs
 refine aj u4 ?_
 simp -implicitDefEqProofs
 refine aj u2 ?_
 simp -implicitDefEqProofs
 refine aj u3 ?_
 simp -implicitDefEqProofs
 refine aj u3 ?_
 simp -implicitDefEqProofs [r6]
end Go.Proofs.YtpeikknjbnnnnaaGreat.O
namespace Go.Proofs.YtpeikknjbnnnnaaGreat.O
open Go.az
abbrev Us(n:Int):Prop:=IntKind.min .i64≤n∧n≤IntKind.max .i64
theorem Y3{pl:Bool}:Rd Tryz.prog pl 3 I Us:=by
 cases pl
 ·exact(Rd.int Tryz.underlying3).loose
 ·exact Rd.int Tryz.underlying3
theorem wM{pl:Bool}:Rd Tryz.prog pl 9 S (fun s=>s.size≤140737488355328):=by
 cases pl
 ·exact(Rd.string Tryz.underlying9).loose
 ·exact Rd.string Tryz.underlying9
abbrev Ut(p:Int×Int):AV:=pE p.1 p.2
theorem Uu{pl:Bool}:Rd Tryz.prog pl 65 Ut (fun _=>True):=(Rd.struct (tot:=2) Tryz.underlying65 rfl (by kernel_rfl) (YA.cons rfl (by kernel_rfl) Y3 (YA.cons rfl (by kernel_rfl) Y3 YA.nil))).map (fun x=>(x.1,x.2.1)) (fun _=>rfl) (fun _ _=>trivial)
theorem Uv{pl:Bool}:Rd Tryz.prog pl 48 fK (fun _=>True):=(Rd.struct (tot:=3) Tryz.underlying48 rfl (by kernel_rfl) (YA.cons rfl (by kernel_rfl) wM (YA.cons rfl (by kernel_rfl) Y3 (YA.cons rfl (by kernel_rfl) Y3 YA.nil)))).map (fun x=>⟨x.1,x.2.1,x.2.2.1⟩) (fun _=>rfl) (fun _ _=>trivial)
theorem Uw{pl:Bool}:Rd Tryz.prog pl 67 cT (fun _=>True):=(Rd.struct (tot:=4) Tryz.underlying67 rfl (by kernel_rfl) (YA.cons rfl (by kernel_rfl) Y3 (YA.cons rfl (by kernel_rfl) Uu (YA.cons rfl (by kernel_rfl) Y3 YA.nil)))).map (fun x=>⟨x.1,x.2.1.1,x.2.1.2,x.2.2.1⟩) (fun _=>rfl) (fun _ _=>trivial)
theorem Ux{pl:Bool}:Rd Tryz.prog pl 50 bQ (fun _=>True):=(Rd.struct (tot:=3) Tryz.underlying50 rfl (by kernel_rfl) (YA.cons rfl (by kernel_rfl) Y3 (YA.cons rfl (by kernel_rfl) Y3 (YA.cons rfl (by kernel_rfl) Y3 YA.nil)))).map (fun x=>⟨x.1,x.2.1,x.2.2.1⟩) (fun _=>rfl) (fun _ _=>trivial)
abbrev JQ(c:Case):Prop:=c.an.length≤140737488355328∧c.marks.length*32≤140737488351232∧c.ak.length*24≤140737488351232
theorem Uy:Rd Tryz.prog false 32 fc JQ:=
 (Rd.struct (tot:=5) Tryz.underlying32 rfl (by kernel_rfl) (YA.cons rfl (by kernel_rfl) Y3 (YA.cons rfl (by kernel_rfl) Y3
   (YA.cons rfl (by kernel_rfl) (Rd.slice Tryz.underlying28 (of_decide_eq_true (by kernel_rfl)) (by kernel_rfl) Uv)
   (YA.cons rfl (by kernel_rfl) (Rd.sliceB Tryz.underlying29 (of_decide_eq_true (by kernel_rfl)) (by kernel_rfl) Uw)
   (YA.cons rfl (by kernel_rfl) (Rd.sliceB Tryz.underlying30 (of_decide_eq_true (by kernel_rfl)) (by kernel_rfl) Ux) YA.nil)))))).map (fun x=>⟨x.1,x.2.1,x.2.2.1,x.2.2.2.1,x.2.2.2.2.1⟩) (fun _=>rfl) (fun x h=>by
     have h1:=h.2.2.1.1
     have h2:=h.2.2.2.1.2.1
     have h3:=h.2.2.2.2.1.2.1
     rw[show Tryz.prog.bytesOf 67=32 by kernel_rfl] at h2
     rw[show Tryz.prog.bytesOf 50=24 by kernel_rfl] at h3
     exact⟨h1,h2,h3⟩)
abbrev U(n:Int):AV:=.lit (.int .u16 n)
abbrev V(n:Int):AV:=.lit (.int .u8 n)
abbrev wN(l:List Int):Prop:=∀x∈l,0≤x∧x≤65535
structure JR where
 chain:List Int
 years:List Int
 marks:List Int
 ak:List Int
structure JR.OK (x:JR):Prop where
 chain:wN x.chain∧x.chain.length≤140737488355328
 years:wN x.years∧x.years.length≤140737488355328
 marks:wN x.marks∧x.marks.length≤140737488355328
 ak:wN x.ak∧x.ak.length≤140737488355328
end Go.Proofs.YtpeikknjbnnnnaaGreat.O
namespace Go.Proofs.YtpeikknjbnnnnaaGreat.O
open Go.az
def qa(l:List aY)(o:Int):Int:=bU (l.map aY.who) o
theorem wO{n:Int}(h:0≤n∧n≤65535):IntKind.wrap .i64 n=n:=by
 simp[IntKind.wrap,IntKind.bits,IntKind.signed]
 omega
end Go.Proofs.YtpeikknjbnnnnaaGreat.O
namespace Go.Proofs.YtpeikknjbnnnnaaGreat.O
open Go.az
theorem Cg(c:Case){ps:List (List Int×List aY)}:∀{n:Nat},0<n→n≤ps.length→∃k,∃hk:k<ps.length,k<n∧eR c (ps.take n)=some ps[k].2∧∀j (hj:j<ps.length),j<n→dH c ps[k].2≤dH c ps[j].2∧(j<k→dH c ps[k].2<dH c ps[j].2)
 |0,h,_=>by omega
 |n+1,_,hn=>by
  have hlt:n<ps.length:=hn
  have cm:eR c (ps.take (n+1))=aah c (eR c (ps.take n)) ps[n].2:=by unfold eR;rw[cV hlt,List.foldl_append];rfl
  by_cases h0:n=0
  ·subst h0
   refine⟨0,hlt,by omega,by rw[cm];rfl,fun j hj yP=> ?_⟩
   obtain rfl:j=0:=by omega
   exact⟨Int.le_refl _,by omega⟩
  ·obtain⟨k,hk,hkn,hb,hmin⟩:=Cg c (ps:=ps) (n:=n) (by omega) (by omega)
   rw[hb] at cm
   unfold aah at cm
   simp only at cm
   by_cases hu:dH c ps[n].2<dH c ps[k].2
   ·rw[if_pos hu] at cm
    refine⟨n,hlt,by omega,cm,fun j hj hjn=> ?_⟩
    by_cases e:j=n
    ·subst e;exact⟨Int.le_refl _,by omega⟩
    ·have:=hmin j hj (by omega)
     exact⟨by omega,fun _=>by omega⟩
   ·rw[if_neg hu] at cm
    refine⟨k,hk,by omega,cm,fun j hj hjn=> ?_⟩
    by_cases e:j=n
    ·subst e;exact⟨by omega,by omega⟩
    ·exact hmin j hj (by omega)
theorem Uz{c:Case}(h:eR c (bA c)=none):bA c=[]:=by
 cases hc:bA c with
 |nil=>rfl
 |cons p ps=>
  obtain⟨k,hk,-,hb,-⟩:=Cg c (ps:=p::ps) (n:=(p::ps).length) (by simp) (Nat.le_refl _)
  rw[List.take_length] at hb
  rw[hc,hb] at h
  cases h
structure JS (c:Case) (o:List Int) (L:List aY):Prop where
 who:L.map aY.who=o
 nu:∀i (h:i<L.length),0≤L[i].who∧L[i].who<(c.an.length:Int)∧qa L L[i].who=i
 first:∀h:0<L.length,c.printed≤L[0].src
 next:∀i (h:i+1<L.length),(L[i]'(by omega)).cw≤L[i+1].src
 X3:∀i (h:i<L.length),(cW c L[i].who.toNat).born≤L[i].src∧L[i].src≤L[i].cw∧L[i].cw≤(cW c L[i].who.toNat).YE∧L[i].cw≤c.now
 marks:∀m∈c.marks,∃k:Nat,qa L m.owner=k∧∃h:k<L.length,L[k].src≤m.hi∧m.lo≤L[k].cw
 dst:∀s∈c.ak,s.dst≠ -1→∃k:Nat,qa L s.dst=k∧∃h:k<L.length,L[k].src=s.year
 src:∀s∈c.ak,s.src≠ -1→∃k:Nat,qa L s.src=k∧∃h:k<L.length,L[k].cw=s.year
theorem Ch{c:Case}{o:List Int}(h:iA c o=true){s:aB}(hs:s∈c.ak):(s.src≠ -1→s.src∈o)∧(s.dst≠ -1→s.dst∈o):=by
 unfold iA at h
 rw[Bool.and_eq_true] at h
 have:=List.all_eq_true.1 h.2 s hs
 unfold ZS Zw at this
 simp only[Bool.and_eq_true,Bool.or_eq_true,decide_eq_true_eq] at this
 exact⟨fun hn=>this.1.resolve_left hn,fun hn=>this.2.resolve_left hn⟩
theorem UA{c:Case}{o:List Int}(ho:fy c o){l:List aY}{T Y:Nat→Int}(h:Cd c o l T Y):JS c o (Yy l):=by
 obtain⟨r1,r2,r3⟩:=rJ h.rules
 have hlen:(Yy l).length=o.length:=by rw[tM];exact h.holds.1
 have iB:=h.holds.1
 have hsrc:∀i (hi:i<l.length),(l.getD i ⟨0,0,0⟩).src=l[i].src:=fun i hi=>by rw[List.getD_eq_getElem?_getD,List.getElem?_eq_getElem hi,Option.getD_some]
 have dP:∀i (hi:i<(Yy l).length),(Yy l)[i].who=own o i∧(Yy l)[i].src=(l.getD i ⟨0,0,0⟩).src∧T i≤(Yy l)[i].cw∧(Yy l)[i].cw≤Yx c c.ak (own o i)∧(∀h2:i+1<(Yy l).length,(Yy l)[i].cw≤(l.getD (i+1) ⟨0,0,0⟩).src):=by
  intro i hi
  have kz:i<l.length:=by omega
  have hw:=h.holds.2 i kz
  have hF:=h.jM.own i (by omega)
  have JT:l.getD i ⟨0,0,0⟩=l[i]:=by rw[List.getD_eq_getElem?_getD,List.getElem?_eq_getElem kz,Option.getD_some]
  rw[Jt]
  by_cases e:i+1<l.length
  ·have hn:=h.jM.next i (by omega)
   rw[if_pos e,JT]
   refine⟨hw.1,rfl,?_,?_,fun _=> ?_⟩
   ·show T i≤min l[i].cw _
    rw[hw.2];omega
   ·show min l[i].cw _≤_
    rw[hw.2];omega
   ·show min l[i].cw _≤_
    omega
  ·rw[if_neg e,JT]
   exact⟨hw.1,rfl,by rw[hw.2];exact hF.2.2.2,by rw[hw.2];exact Int.le_refl _,fun h2=>by omega⟩
 have t_:(Yy l).map aY.who=o:=by
  apply List.ext_getElem (by rw[List.length_map,hlen])
  intro i h1 h2
  rw[List.getElem_map,(dP i (by omega)).1,(rH ho h2).1]
 have wP:∀x,qa (Yy l) x=bU o x:=fun x=>by unfold qa;rw[t_]
 have UB:∀x:Nat,Yx c c.ak x≤(cW c x).YE∧Yx c c.ak x≤c.now:=fun x=>by
  have:=(wH (fun s=>s.src=(x:Int)) c.ak (min (cW c x).YE c.now)).1
  have e:Yx c c.ak x=p8 (fun s=>s.src=(x:Int)) c.ak (min (cW c x).YE c.now):=rfl
  omega
 have JU:∀x:Nat,c.printed≤cc c c.ak x∧(cW c x).born≤cc c c.ak x:=fun x=>by
  have:=(rG (fun s=>s.dst=(x:Int)) c.ak (max c.printed (cW c x).born)).1
  have e:cc c c.ak x=nt (fun s=>s.dst=(x:Int)) c.ak (max c.printed (cW c x).born):=rfl
  omega
 refine⟨t_,fun i hi=> ?_,fun hi=> ?_,fun i hi=> ?_,fun i hi=> ?_,fun m hm=> ?_,fun s hs hn=> ?_,fun s hs hn=> ?_⟩
 ·obtain⟨a1,a2,a3⟩:=rH ho (i:=i) (by omega)
  rw[wP,(dP i hi).1]
  exact⟨by omega,by omega,a3⟩
 ·rw[(dP 0 hi).2.1]
  have:=(h.jM.own 0 (by omega)).1
  have:=(JU (own o 0)).1
  omega
 ·rw[(dP (i+1) hi).2.1]
  exact(dP i (by omega)).2.2.2.2 hi
 ·obtain⟨g1,g2,g3,g4,-⟩:=dP i hi
  have hF:=h.jM.own i (by omega)
  have hle:=h.jM.le i (by omega)
  have b1:=JU (own o i)
  have b2:=UB (own o i)
  rw[g1,Int.toNat_natCast,g2]
  have hle:(l.getD i ⟨0,0,0⟩).src≤T i:=hle
  have hF:cc c c.ak (own o i)≤(l.getD i ⟨0,0,0⟩).src∧_:=hF
  omega
 ·obtain⟨k,hk,aF,-⟩:=at_mem (rK r1 m hm)
  obtain⟨q,hq,rfl⟩:=List.getElem_of_mem hm
  obtain⟨g1,g2,g3,g4,-⟩:=dP k (by omega)
  have hM:=h.jM.marks q hq k hk aF
  refine⟨k,by rw[wP];exact aF,by omega,?_,?_⟩
  ·rw[g2];have h1:(l.getD k ⟨0,0,0⟩).src≤Y q:=hM.1;omega
  ·omega
 ·obtain⟨k,hk,aF,-⟩:=at_mem ((Ch r1 hs).2 hn)
  have hown:=tZ ho hk aF
  obtain⟨g1,g2,-⟩:=dP k (by omega)
  have hF:=h.jM.own k hk
  have b1:=(rG (fun s=>s.dst=(own o k:Int)) c.ak (max c.printed (cW c (own o k)).born)).2 s hs hown
  have b2:=(wH (fun s=>s.dst=(own o k:Int)) c.ak c.now).2 s hs hown
  have e1:cc c c.ak (own o k)=nt (fun s=>s.dst=(own o k:Int)) c.ak (max c.printed (cW c (own o k)).born):=rfl
  have e2:YU c c.ak (own o k)=p8 (fun s=>s.dst=(own o k:Int)) c.ak c.now:=rfl
  refine⟨k,by rw[wP];exact aF,by omega,?_⟩
  rw[g2]
  have hF:cc c c.ak (own o k)≤(l.getD k ⟨0,0,0⟩).src∧(l.getD k ⟨0,0,0⟩).src≤YU c c.ak (own o k)∧_:=hF
  omega
 ·obtain⟨k,hk,aF,-⟩:=at_mem ((Ch r1 hs).1 hn)
  have hown:=tZ ho hk aF
  obtain⟨g1,g2,g3,g4,-⟩:=dP k (by omega)
  have hF:=h.jM.own k hk
  have b1:=(rG (fun s=>s.src=(own o k:Int)) c.ak (cW c (own o k)).born).2 s hs hown
  have b2:=(wH (fun s=>s.src=(own o k:Int)) c.ak (min (cW c (own o k)).YE c.now)).2 s hs hown
  have e1:YQ c c.ak (own o k)=nt (fun s=>s.src=(own o k:Int)) c.ak (cW c (own o k)).born:=rfl
  have e2:Yx c c.ak (own o k)=p8 (fun s=>s.src=(own o k:Int)) c.ak (min (cW c (own o k)).YE c.now):=rfl
  refine⟨k,by rw[wP];exact aF,by omega,?_⟩
  omega
theorem Ci{c:Case}(hc:c.OK){l:List aY}(h:eR c (bA c)=some l):∃k,∃hk:k<(bA c).length,(bA c)[k].2=l∧fy c (bA c)[k].1∧cX c (bA c)[k].1=some l∧JS c (bA c)[k].1 (Yy l)∧(∀j (hj:j<(bA c).length),dH c l≤dH c (bA c)[j].2∧(j<k→dH c l<dH c (bA c)[j].2)):=by
 have hne:0<(bA c).length:=by
  apply List.length_pos_iff.2
  intro e
  rw[e] at h;cases h
 obtain⟨k,hk,-,hb,hmin⟩:=Cg c (ps:=bA c) hne (Nat.le_refl _)
 rw[List.take_length,h] at hb
 injection hb with hb
 obtain⟨h1,h2,h3,h4⟩:=TW hk
 rw[←hb] at h3
 have ho:=Jw h4
 obtain⟨T,Y,hC⟩:=wJ hc ho h3
 exact⟨k,hk,hb.symm,ho,h3,UA ho hC,fun j hj=>by rw[hb];exact hmin j hj hj⟩
end Go.Proofs.YtpeikknjbnnnnaaGreat.O
namespace Go.Proofs.YtpeikknjbnnnnaaGreat.O
open Go.az
theorem JV{c:Case}(he:bC c=0)(hb:eR c (bA c)=none):dI c=⟨[],0,8⟩:=by unfold dI;rw[if_neg (not_not_intro he),hb]
theorem Cj{c:Case}(he:bC c=0){l:List aY}(hb:eR c (bA c)=some l):dI c=⟨Yy l,dH c l,0⟩:=by unfold dI;rw[if_neg (not_not_intro he),hb]
theorem JW{c:Case}{o:List Int}(ho:fy c o){l:List aY}(h:cX c o=some l):∃j,∃hj:j<(bA c).length,(bA c)[j]=(o,l):=by
 have hm:(o,l)∈bA c:=by
  unfold bA jK
  rw[List.mem_filterMap]
  exact⟨o,Cb ho,by unfold solved;rw[h];rfl⟩
 obtain⟨j,hj,e⟩:=List.getElem_of_mem hm
 exact⟨j,hj,e⟩
theorem UC{c:Case}(hb:eR c (bA c)=none){o:List Int}(ho:fy c o):cX c o=none:=by
 cases h:cX c o with
 |none=>rfl
 |some l=>
  obtain⟨j,hj,-⟩:=JW ho h
  rw[Uz hb] at hj
  simp at hj
end Go.Proofs.YtpeikknjbnnnnaaGreat.O
namespace Go.Proofs.YtpeikknjbnnnnaaGreat.O
open Go.az
theorem UD{c d:Case}(h:bC c=0)(hp:d.printed=c.printed)(hn:d.now=c.now)(ho:d.an=c.an)(Ja:d.marks.length≤8)
  (hm:∀i (hi:i<d.marks.length),(0≤d.marks[i].owner∧d.marks[i].owner<d.an.length)∧(-1≤d.marks[i].upon∧d.marks[i].upon<i)∧d.printed≤d.marks[i].lo∧d.marks[i].lo≤d.marks[i].hi∧d.marks[i].hi≤d.now∧d.marks[i].hi≤d.marks[i].lo+40)
  (It:d.ak.length≤4)(hs:∀s∈d.ak,d.printed≤s.year∧s.year≤d.now∧ -1≤s.src∧s.src<d.an.length∧ -1≤s.dst∧s.dst<d.an.length∧s.src≠s.dst):bC d=0:=by
 obtain⟨p,-⟩:=pN h
 have e:YP d=(0,0,0):=by
  refine tA ⟨⟨⟨?_,?_,?_⟩,?_,by omega⟩,fun j hj=>(v9 hj).2 (hm j hj),by omega⟩ (fun j hj=>(Bo hj).2 (hs _ (List.getElem_mem hj)))
  ·rw[hp,hn];exact p.h1
  ·rw[hp,hn];exact p.h2
  ·rw[ho];exact p.h3
  ·intro j hj
   have:=p.h4 j (by rw[←ho];exact hj)
   unfold YI at this⊢
   rw[ho];exact this
 rw[bC,e]
theorem UE{c:Case}(h:bC c=0){i:Nat}(hi:i<c.marks.length):(0≤c.marks[i].owner∧c.marks[i].owner<c.an.length)∧(-1≤c.marks[i].upon∧c.marks[i].upon<i)∧c.printed≤c.marks[i].lo∧c.marks[i].lo≤c.marks[i].hi∧c.marks[i].hi≤c.now∧c.marks[i].hi≤c.marks[i].lo+40:=(v9 hi).1 ((pN h).1.h6 i hi)
theorem UF{c:Case}(h:bC c=0):∀s∈c.ak,c.printed≤s.year∧s.year≤c.now∧ -1≤s.src∧s.src<c.an.length∧ -1≤s.dst∧s.dst<c.an.length∧s.src≠s.dst:=by
 intro s hs
 obtain⟨i,hi,rfl⟩:=List.getElem_of_mem hs
 exact(Bo hi).1 ((pN h).2 i hi)
theorem JX{c:Case}(h:bC c=0):c.ak.length≤4:=by
 have:=(pN h).1.h7
 omega
theorem JY{c:Case}{i:Nat}{y:Int}{j:Nat}(hj:j<c.marks.length):(YR c i y).marks[j]'(by simpa[YR] using hj)=if i=j then Zf c.marks[j] y else c.marks[j]:=by
 show(c.marks.set i (Zf (c.marks.getD i dF) y))[j]'(by simpa using hj)=_
 rw[List.getElem_set]
 by_cases e:i=j
 ·subst e;rw[if_pos rfl,if_pos rfl,eF hj]
 ·rw[if_neg e,if_neg e]
end Go.Proofs.YtpeikknjbnnnnaaGreat.O
namespace Go.Proofs.YtpeikknjbnnnnaaGreat.O
open Go.az
structure eH (c d:Case) (f:Nat→Nat):Prop where
 printed:c.printed=d.printed
 now:c.now=d.now
 an:c.an.length=d.an.length
 marks:∀q (hq:q<c.marks.length),∃hd:f q<d.marks.length,d.marks[f q].owner=c.marks[q].owner∧c.marks[q].lo≤d.marks[f q].lo∧d.marks[f q].hi≤c.marks[q].hi∧(c.marks[q].upon≠ -1→d.marks[f q].upon=(f c.marks[q].upon.toNat:Nat))
 ak:∀s∈c.ak,∃t∈d.ak,t.src=s.src∧t.dst=s.dst
 wQ:∀x,x<c.an.length→cc c c.ak x≤cc d d.ak x∧YU d d.ak x≤YU c c.ak x∧YQ c c.ak x≤YQ d d.ak x∧Yx d d.ak x≤Yx c c.ak x
theorem eH.ord{c d:Case}{f:Nat→Nat}(h:eH c d f){o:List Int}:fy c o↔fy d o:=⟨fun g=>⟨fun x hx=>by have:=g.nu x hx;rw[h.an] at this;exact this,g.nd⟩,fun g=>⟨fun x hx=>by have:=g.nu x hx;rw[←h.an] at this;exact this,g.nd⟩⟩
theorem eH.rules{c d:Case}{f:Nat→Nat}(h:eH c d f)(hc:c.OK){o:List Int}(hr:fY d o=true):fY c o=true:=by
 obtain⟨r1,r2,r3⟩:=rJ hr
 have hm:=rK r1
 have g1:iA c o=true:=by
  unfold iA
  rw[Bool.and_eq_true]
  constructor
  ·rw[List.all_eq_true]
   intro m p9
   obtain⟨q,hq,rfl⟩:=List.getElem_of_mem p9
   obtain⟨hd,ho,-⟩:=h.marks q hq
   have:=hm _ (List.getElem_mem hd)
   unfold ot
   rw[←ho];simpa using this
  ·rw[List.all_eq_true]
   intro s hs
   obtain⟨t,ht,h1,h2⟩:=h.ak s hs
   have:=Ch r1 ht
   unfold ZS Zw
   rw[←h1,←h2]
   simp only[Bool.and_eq_true,Bool.or_eq_true,decide_eq_true_eq]
   constructor
   ·by_cases e:t.src= -1
    ·exact .inl e
    ·exact .inr (this.1 e)
   ·by_cases e:t.dst= -1
    ·exact .inl e
    ·exact .inr (this.2 e)
 have g2:ZC c o=true:=by
  unfold ZC at r2⊢
  rw[List.all_eq_true] at r2⊢
  intro s hs
  obtain⟨t,ht,h1,h2⟩:=h.ak s hs
  have:=r2 t ht
  unfold tF at this⊢
  rw[←h1,←h2];exact this
 have g3:Ze c o=true:=by
  unfold Ze
  rw[List.all_eq_true]
  intro m p9
  obtain⟨q,hq,rfl⟩:=List.getElem_of_mem p9
  have hup:=hc.upon q hq
  obtain⟨hd,ho,-,-,hu⟩:=h.marks q hq
  unfold under
  by_cases hn:c.marks[q].upon= -1
  ·rw[decide_eq_true hn];rfl
  ·have hu:=hu hn
   have Y_:c.marks[q].upon.toNat<c.marks.length:=by omega
   obtain⟨gK,kM,-⟩:=h.marks _ Y_
   have:=wI r3 hd (by rw[hu];omega)
   rw[hu,Int.toNat_natCast,eF gK,ho,kM] at this
   rw[eF Y_,decide_eq_false this]
   simp
 unfold fY
 rw[g1,g2,g3];rfl
theorem eH.jM{c d:Case}{f:Nat→Nat}(h:eH c d f){o:List Int}(ho:fy c o){S T Y:Nat→Int}(hF:nv d o S T Y):nv c o S T fun q=>Y (f q):=by
 refine⟨hF.le,hF.next,fun i hi=> ?_,fun q hq i hi he=> ?_,fun q hq i hi he hn=> ?_⟩
 ·have g:=hF.own i hi
  have b:=h.wQ (own o i) (rH ho hi).2.1
  omega
 ·obtain⟨hd,h1,h2,h3,-⟩:=h.marks q hq
  have:=hF.marks (f q) hd i hi (by rw[h1];exact he)
  show S i≤Y (f q)∧Y (f q)≤T i∧c.marks[q].lo≤Y (f q)∧Y (f q)≤c.marks[q].hi
  omega
 ·obtain⟨hd,h1,-,-,h4⟩:=h.marks q hq
  have h4:=h4 hn
  have:=hF.upon (f q) hd i hi (by rw[h1];exact he) (by rw[h4];omega)
  rw[h4,Int.toNat_natCast] at this
  exact this
theorem JZ{c d:Case}:∀{o:List Int} {p p':Int},(∀x∈o,cc c c.ak x.toNat≤cc d d.ak x.toNat∧Yx d d.ak x.toNat≤Yx c c.ak x.toNat)→p'≤p→ZE c p o≤ZE d p' o∧jd d p' o≤jd c p o
 |[],p,p',_,hp=>⟨Int.le_refl _,hp⟩
 |x::o,p,p',h,hp=>by
  have hx:=h x (by simp)
  obtain⟨i1,i2⟩:=JZ (o:=o) (p:=Yx c c.ak x.toNat) (p':=Yx d d.ak x.toNat) (fun y hy=>h y (by simp[hy])) hx.2
  refine⟨?_,i2⟩
  show(if p<cc c c.ak x.toNat then 1 else 0)+ZE c (Yx c c.ak x.toNat) o≤(if p'<cc d d.ak x.toNat then 1 else 0)+ZE d (Yx d d.ak x.toNat) o
  by_cases hc:p<cc c c.ak x.toNat
  ·rw[if_pos hc,if_pos (by omega)];omega
  ·rw[if_neg hc];split<;>omega
theorem UG{c d:Case}(hp:c.printed=d.printed)(hn:c.now=d.now){o:List Int}(h:∀x∈o,cc c c.ak x.toNat≤cc d d.ak x.toNat∧Yx d d.ak x.toNat≤Yx c c.ak x.toNat):mq c o≤mq d o:=by
 obtain⟨i1,i2⟩:=JZ (p:=c.printed) (p':=d.printed) h (by omega)
 unfold mq
 by_cases e:o=[]
 ·rw[if_pos e,if_pos e];exact Int.le_refl _
 ·rw[if_neg e,if_neg e]
  by_cases hc:jd c c.printed o<c.now
  ·rw[if_pos hc,if_pos (by omega)];omega
  ·rw[if_neg hc];split<;>omega
theorem eH.UH{c d:Case}{f:Nat→Nat}(h:eH c d f){o:List Int}(ho:fy c o):mq c o≤mq d o:=by
 refine UG h.printed h.now fun x hx=> ?_
 have hr:=ho.nu x hx
 have:=h.wQ x.toNat (by omega)
 exact⟨this.1,this.2.2.2⟩
theorem eH.solve{c d:Case}{f:Nat→Nat}(h:eH c d f)(hc:c.OK)(hd:d.OK){o:List Int}(ho:fy c o){l:List aY}(hs:cX d o=some l):∃l',cX c o=some l'∧mq c o≤mq d o:=by
 obtain⟨T,Y,hC⟩:=wJ hd (h.ord.1 ho) hs
 obtain⟨l',hl'⟩:=JE hc ho (h.rules hc hC.rules) (h.jM ho hC.jM)
 exact⟨l',hl',h.UH ho⟩
theorem eH.chain{c d:Case}{f:Nat→Nat}(h:eH c d f)(hc:c.OK)(hd:d.OK)(hs:cF d=true):cF c=true:=by
 obtain⟨o,ho,l,hl⟩:=Ce.1 hs
 obtain⟨l',hl',-⟩:=h.solve hc hd (h.ord.2 ho) hl
 exact Ce.2 ⟨o,h.ord.2 ho,l',hl'⟩
theorem eH.best{c d:Case}{f:Nat→Nat}(h:eH c d f)(hc:c.OK)(hd:d.OK){l:List aY}(hs:eR d (bA d)=some l):∃l',eR c (bA c)=some l'∧dH c l'≤dH d l:=by
 obtain⟨k,hk,h2,ho,cK,-,-⟩:=Ci hd hs
 obtain⟨l1,fG,hu⟩:=h.solve hc hd (h.ord.2 ho) cK
 cases hb:eR c (bA c) with
 |none=>rw[UC hb (h.ord.2 ho)] at fG;cases fG
 |some l'=>
  obtain⟨j,hj,e⟩:=JW (h.ord.2 ho) fG
  obtain⟨k2,hk2,_,_,_,_,hmin⟩:=Ci hc hb
  have:=(hmin j hj).1
  rw[e] at this
  rw[JH hd ho cK]
  have e2:=JH hc (h.ord.2 ho) fG
  refine⟨l',rfl,?_⟩
  simp only at this
  omega
theorem eH.had{c d:Case}{f:Nat→Nat}(h:eH c d f)(hc:c.OK)(o:Nat)(y:Int):eH (YW c o y) (YW d o y) fun q=>if q<c.marks.length then f q else d.marks.length:=by
 refine⟨h.printed,h.now,h.an,fun q hq=> ?_,h.ak,h.wQ⟩
 have ck:q<c.marks.length+1:=by simpa[YW] using hq
 by_cases e:q<c.marks.length
 ·obtain⟨hd,h1,h2,h3,h4⟩:=h.marks q e
  have hup:=hc.upon q e
  simp only[if_pos e]
  have e1:(YW c o y).marks[q]=c.marks[q]:=by simp only[YW];rw[List.getElem_append_left e]
  refine⟨by simp[YW];omega,?_⟩
  have e2:(YW d o y).marks[f q]'(by simp[YW];omega)=d.marks[f q]:=by simp only[YW];rw[List.getElem_append_left hd]
  rw[e1,e2]
  exact⟨h1,h2,h3,fun hn=>by rw[if_pos (by omega)];exact h4 hn⟩
 ·have e0:q=c.marks.length:=by omega
  subst e0
  simp only[if_neg e]
  refine⟨by simp[YW],?_⟩
  simp[YW]
theorem eH.UI{c d:Case}(h:eH c d id)(i:Nat)(y:Int):eH (YR c i y) (YR d i y) id:=by
 refine⟨h.printed,h.now,h.an,fun q hq=> ?_,h.ak,h.wQ⟩
 have ck:q<c.marks.length:=by simpa[YR] using hq
 obtain⟨hd,h1,h2,h3,h4⟩:=h.marks q ck
 simp only[id] at hd h1 h2 h3 h4⊢
 refine⟨by simpa[YR] using hd,?_⟩
 rw[JY ck,JY hd]
 by_cases e:i=q
 ·rw[if_pos e,if_pos e]
  exact⟨h1,Int.le_refl _,Int.le_refl _,h4⟩
 ·rw[if_neg e,if_neg e]
  exact⟨h1,h2,h3,h4⟩
theorem eH.owned{c d:Case}{f:Nat→Nat}(h:eH c d f)(hc:c.OK)(hd:d.OK)(UJ:c.marks.length≤8)(tP:d.marks.length≤8){y:Int}(hy:c.printed≤y∧y≤c.now):∀x∈Zg d y,x∈Zg c y:=by
 intro x hx
 obtain⟨j,rfl,hj,hs⟩:=HK hx
 unfold Zg
 rw[abf]
 have hj':j<c.an.length:=by rw[h.an];exact hj
 refine⟨hj',?_⟩
 exact(h.had hc j y).chain (BS hc UJ hj' hy) (BS hd tP hj (by rw[←h.printed,←h.now];exact hy)) hs
theorem eH.years{c d:Case}(h:eH c d id)(hc:c.OK)(hd:d.OK)(hs:cF d=true){i:Nat}(hi:i<c.marks.length)(hid:i<d.marks.length)(hm:d.marks[i].lo=c.marks[i].lo∧d.marks[i].hi=c.marks[i].hi):jL c i≤jL d i∧rB d i≤rB c i:=by
 have hsc:=h.chain hc hd hs
 obtain⟨y,h1,h2,h3⟩:=JJ hd hs hid
 have hmk:=hc.marks _ (List.getElem_mem hi)
 have hp:∀z,c.marks[i].lo≤z∧z≤c.marks[i].hi→gz d i z=true→gz c i z=true:=fun z hz e=>(h.UI i z).chain (wC hc (by omega)) (wC hd (by rw[←h.printed,←h.now];omega)) e
 rw[JL hc hsc hi,JL hd hs hid]
 unfold jL
 rw[eF hi,eF hid,hm.1,hm.2] at*
 obtain⟨a1,a2,a3⟩:=wK (gz d i) (c.marks[i].hi - c.marks[i].lo).toNat c.marks[i].lo y h1 (by omega) h3
 obtain⟨b1,b2,b3⟩:=Cf (gz d i) (c.marks[i].hi - c.marks[i].lo).toNat c.marks[i].hi y h2 (by omega) h3
 have a4:=wD (gz d i) (c.marks[i].hi - c.marks[i].lo).toNat c.marks[i].lo
 have b4:=BT (gz d i) (c.marks[i].hi - c.marks[i].lo).toNat c.marks[i].hi
 obtain⟨-,a5,-⟩:=wK (gz c i) (c.marks[i].hi - c.marks[i].lo).toNat c.marks[i].lo _ (by omega) (by omega) (hp _ (by omega) a1)
 obtain⟨-,b5,-⟩:=Cf (gz c i) (c.marks[i].hi - c.marks[i].lo).toNat c.marks[i].hi _ (by omega) (by omega) (hp _ (by omega) b1)
 exact⟨a5,b5⟩
end Go.Proofs.YtpeikknjbnnnnaaGreat.O
