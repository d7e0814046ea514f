/- Contracts of small functions: rings, right, parts, results, entries; the sale of the examples. The results of the examples' sale, by rings. Contracts: Next; Account and Share of the example. Cells of one value that are appended, one by one, to a block of the walk's own. Contracts: Share of the example. Contracts: a sale with a catalogue; the rings with which it is right. Contracts: all rings with which a catalogue is right: the program's fit. Contracts: Rings, Members; results and lists compared. Contracts: the numbers of a set; the fewest entries that are wrong; results and lists of rings compared. Contracts: the fewest entries of a catalogue that must be wrong: the program's Wrong. What is awake in the layer sale. Plain: a copy that was sold in some year to an owner of its case. The law TopSold: its contract. What the arguments of the law TopSold say; its contract. -/
import Derived.Test.YtpeikknjbnnnnaaGreatZH
import Derived.Test.YtpeikknjbnnnnaaGreatZG
import Derived.KernelRfl
import Derived.Test.YtpeikknjbnnnnaaGreatZE
namespace Go.Proofs.YtpeikknjbnnnnaaGreat.A
open Go.az O
def kE(n k:Nat):List (List Nat×Nat):=(((List.range (n+1)).drop k).filter fun m=>decide (m≠1)).flatMap fun m=>jQ n m [] 0 0
def Yz(n:Nat):List (List Nat×Nat):=kE n 0
theorem VG{n:Nat}(h:1<n+1):kE n 1=kE n 2:=by
 unfold kE
 rw[drop_cons (l:=List.range (n+1)) (k:=1) (by simpa using h)]
 simp
theorem VH{n k:Nat}(h:k<n+1)(h1:k≠1):kE n k=jQ n k [] 0 0++kE n (k+1):=by
 unfold kE
 rw[drop_cons (l:=List.range (n+1)) (k:=k) (by simpa using h)]
 simp[h1]
theorem VI{n k:Nat}(h:n+1≤k):kE n k=[]:=by
 unfold kE
 rw[List.drop_of_length_le (by simpa using h)];rfl
theorem KB{s:aB}(b:Nat){n:Nat}(hn:s.aH.length=n)(ZU:n≤6):lV Tryz.prog 94 [] [.ref [cA s b]] ((Yz n).map mA):=by
 refine ps t94 (by simp) fun l hfit=> ?_
 simp -implicitDefEqProofs [Hh,hn]
 refine⟨i64 (by omega) (by omega),?_⟩
 refine bw (n+1) (fun k st=>st.env 1=.ref [cA s b]∧st.env 2=.ref [.func (.yield l) [] []]∧st.env 11=I ((n+1:Nat):Int)∧st.env 12=I k∧st.env 1000000=.ghost l ((kE n k).map mA) false) ?_ ?_
 ·simp[Yz]
 rintro k st hk ⟨e1,e2,aV,aQ,eg⟩
 simp -implicitDefEqProofs [aV,aQ]
 refine bu (fun hlt=> ?_) (fun hge=> ?_)
 ·have hlt:k<n+1:=by omega
  by_cases h1:k=1
  ·subst h1
   rw[VG hlt] at eg
   simp -implicitDefEqProofs [aQ]
   intro b3 _
   exact⟨i64 (by omega) (by omega),aN hlt ⟨by simp[e1],by simp[e2],by simp[aV],by simp,by simp[eg]⟩⟩
  ·have fT:((k:Int)==1)=false:=by rw[beq_eq_false_iff_ne];omega
   rw[VH hlt h1] at eg
   simp -implicitDefEqProofs [e1,e2,aQ,fT]
   intro b3 _ B hB
   refine KA (s:=s) (b:=b) (n:=n) (many:=k) (l:=l) (B:=B) hn ZU (by omega) k [] 0 0 (kE n (k+1)) _ _ (by simp) (by omega) (by omega) (by simp) (by simp[eg]) (fun s2 _ g2=> ?_) (fun s2 r g2=> ?_)
   ·simp -implicitDefEqProofs [aQ]
    exact⟨i64 (by omega) (by omega),aN hlt ⟨by simp[e1],by simp[e2],by simp[aV],by simp,by simp[g2]⟩⟩
   ·simp -implicitDefEqProofs
    exact⟨r,.inr g2⟩
 ·rw[VI (by omega)] at eg
  simp -implicitDefEqProofs
  exact⟨[],.inl ⟨by simp[eg],rfl⟩⟩
theorem KC(s:aB)(b:Nat):aA Tryz.prog 69 [cA s b] (.func (.func 94) [] [.ref [cA s b]]):=by
 refine pc t69 (by simp) fun _=> ?_
 simp -implicitDefEqProofs [G1,G2]
def nD(x:Entry)(r:Int×Int):Bool:=(x.oC==(r.1 != -1))&&(!x.oC||(decide (x.lo≤r.2)&&decide (r.2≤x.hi)))
theorem KD(x:Entry)(r:Int×Int):aA Tryz.prog 70 [Z6 x,bK r] (O.B (nD x r)):=by
 refine pc t70 (by simp) fun _=> ?_
 obtain⟨ay,oC,lo,hi⟩:=x
 obtain⟨p,q⟩:=r
 unfold nD
 simp only
 cases hp:(p != -1)<;>cases oC<;>by_cases h1:lo≤q<;>simp -implicitDefEqProofs [G3,G4,hp,h1]
theorem KE(p n:Int)(h:0≤p∧p≤1000000)(h2:0≤n∧n≤1000):aA Tryz.prog 65 [I p,I n] (I ((p*n+500).tdiv 1000)):=by
 refine pc t65 (by simp) fun _=> ?_
 have h3:0≤p*n:=Int.mul_nonneg h.1 h2.1
 have h4:p*n≤1000000*1000:=Int.mul_le_mul h.2 h2.2 h2.1 (by decide)
 have h5:0≤(p*n+500).tdiv 1000∧(p*n+500).tdiv 1000≤1000000500:=by rw[Int.tdiv_eq_ediv_of_nonneg (by omega)];omega
 simp -implicitDefEqProofs [GU,GV]
 exact⟨i64 (by omega) (by omega),i64 (by omega) (by omega),i64 (by omega) (by omega)⟩
theorem w_(a b:Int):aA Tryz.prog 40 [I a,I b] (bK (a,b)):=by
 refine pc t40 (by simp) fun _=> ?_
 simp -implicitDefEqProofs [GI,GJ]
theorem rR(a b c:Int):aA Tryz.prog 61 [I a,I b,I c] (Zj ⟨a,b,c⟩):=by
 refine pc t61 (by simp) fun _=> ?_
 simp -implicitDefEqProofs [GN,GO]
theorem VJ(a b:Int):aA Tryz.prog 68 [I a,I b] (.agg [I a,I b]):=by
 refine pc t68 (by simp) fun _=> ?_
 simp -implicitDefEqProofs [GZ,G0]
theorem qe(a b c:Int):aA Tryz.prog 36 [I a,I b,I c] (Z6 ⟨a,true,b,c⟩):=by
 refine pc t36 (by simp) fun _=> ?_
 simp -implicitDefEqProofs [GB]
 intro b
 refine aj (VJ _ _) ?_
 simp -implicitDefEqProofs [GC]
def bn:aB:=⟨[⟨0,5⟩,⟨50,10⟩],100,150,14,[⟨#[97,110,110]⟩,⟨#[98,101,110]⟩,⟨#[99,105,100]⟩,⟨#[100,111,116]⟩],[⟨#[100,117,107,101]⟩],
 [⟨⟨#[98,105,98,108,101]⟩,0,20,true⟩,⟨⟨#[97,116,108,97,115]⟩,0,48,false⟩,⟨⟨#[102,97,110]⟩,0,30,false⟩],
 [⟨0,0,62⟩,⟨1,0,41⟩,⟨2,0,55⟩,⟨1,1,90⟩,⟨3,1,70⟩,⟨3,2,25⟩]⟩
theorem VK:aA Tryz.prog 31 [] (bQ bn):=by
 refine pc t31 (by simp) fun _=> ?_
 simp -implicitDefEqProofs [Gw]
 intro b
 refine aj (rR _ _ _) ?_
 simp -implicitDefEqProofs
 refine aj (rR _ _ _) ?_
 simp -implicitDefEqProofs
 refine aj (rR _ _ _) ?_
 simp -implicitDefEqProofs
 refine aj (rR _ _ _) ?_
 simp -implicitDefEqProofs
 refine aj (rR _ _ _) ?_
 simp -implicitDefEqProofs
 refine aj (rR _ _ _) ?_
 simp -implicitDefEqProofs [Gx,bn]
theorem VL:∀i<4,YX bn.aH i=0:=by
 unfold YX ew
 rw[rL]
 decide+kernel
theorem VM:∀i<1,YX bn.YS i=0:=by
 unfold YX ew
 rw[rL]
 decide+kernel
theorem VN:∀i<3,ZA bn i=0:=by
 unfold ZA ew
 rw[rL]
 decide+kernel
theorem jl:Valid bn where
 n1:=by simp[bn]
 steps:=by
  show∀i<2,Zm bn i=0
  unfold Zm
  decide+kernel
 terms:=by simp[bn]
 aH:=⟨by simp[bn],VL⟩
 YS:=⟨by simp[bn],VM⟩
 a_:=⟨by simp[bn],VN⟩
 bk:=⟨by simp[bn],by
  show∀i<6,jj bn i=0
  unfold jj
  decide+kernel⟩
end Go.Proofs.YtpeikknjbnnnnaaGreat.A
namespace Go.Proofs.YtpeikknjbnnnnaaGreat.A
open Go.az O
theorem x0:fA bn (bE 0)=[(0,60),(1,73),(-1,0)]:=by kernel_rfl
theorem x7:fA bn (bE 7)=[(0,20),(1,73),(-1,0)]:=by kernel_rfl
theorem KF:fA bn (bE 10)=[(0,60),(1,48),(-1,0)]:=by kernel_rfl
theorem VO:Yz 4=[([],0),([0,1],3),([0,2],5),([0,3],9),([1,2],6),([1,3],10),([2,3],12),([0,1,2],7),([0,1,3],11),([0,2,3],13),([1,2,3],14),([0,1,2,3],15)]:=by kernel_rfl
end Go.Proofs.YtpeikknjbnnnnaaGreat.A
namespace Go.Proofs.YtpeikknjbnnnnaaGreat.A
open Go.az O
theorem VP{s:aB}(h:Valid s){p:Int}(hp:0≤p∧p≤100000):aA Tryz.prog 32 [bQ s,I p] (.tuple [I (p+YD s p),I 0]):=by
 refine pc t32 (by simp) fun _=> ?_
 simp -implicitDefEqProofs [m32]
 refine Cu h fun s2 b h2 hm=> ?_
 simp -implicitDefEqProofs
 refine aj (jk hp) ?_
 simp -implicitDefEqProofs
 refine aj (J1 h.Ki.toStepsOK b ⟨hp.1,by omega⟩) ?_
 simp -implicitDefEqProofs [r32]
theorem CF(l:List Nat)(h1:l.all (· <4)=true)(h2:∀i (h:i<l.length),0<i→l[i - 1]<l[i])(h3:l.length≠1):rP bn l:=⟨fun x hx=>by have:=List.all_eq_true.1 h1 x hx;show x<4;simpa using this,h2,h3⟩
theorem KG:rP bn [1,3]:=CF _ rfl (by decide) (by decide)
theorem KH:rP bn [0,1,2]:=CF _ rfl (by decide) (by decide)
theorem KI:gb [1,3]=10:=rfl
theorem KJ:gb [0,1,2]=7:=rfl
theorem xb{s:aB}(h:Valid s){s0:St}{b:Nat}{z:Int}(n:Nat)(hz:z=n)(hn:n<256){es:List (List AV)}(uk:s0.env (1000001+b)=aS es)(hM:gD s es){K:AV→St→Prop}(hK:∀s2 es',Old s0 s2→s2.env (1000001+b)=aS es'→gD s es'→K (YY s n) (back s0 s2)):YZ Tryz.prog 43 [cA s b,I z] s0 K:=hz▸wZ h hn uk hM hK
theorem VQ:aA Tryz.prog 33 [bQ bn,NL [1,3],.slice 2 [.agg [I 0,I 15]] 0] (.tuple [IL [],IL [],I 0,I 7]):=by
 refine pc t33 (by simp) fun _=> ?_
 simp -implicitDefEqProofs only[AF]
 refine au (fun st=>st.env 1=NL [1,3]∧st.env 2=.slice 2 [.agg [I 0,I 15]] 0∧st.env 3=bG bn) ?_ ?_
 ·intro k hk
  simp -implicitDefEqProofs
  exact hk _ ⟨by simp,by simp,by simp⟩
 rintro st ⟨e1,e2,e3⟩
 refine au (fun st=>st.env 2=.slice 2 [.agg [I 0,I 15]] 0∧st.env 3=bG bn∧st.env 9=I 0∧∃b,st.env 10=cA bn b∧st.env 11=I 10∧st.env (1000001+b)=aS []) ?_ ?_
 ·intro k hk
  simp -implicitDefEqProofs [e1,e3]
  refine aaT jl KG (by decide) fun s2 b h2 hm=> ?_
  have hb:1000000≤1000001+b:=by omega
  simp -implicitDefEqProofs
  exact hk _ ⟨by simp[e2],by simp[e3],by simp,b,by simp,by simp[KI],by simp[hb,hm]⟩
 rintro st ⟨e2,e3,e9,b,bF,aV,em⟩
 refine au (fun st=>st.env 2=.slice 2 [.agg [I 0,I 15]] 0∧st.env 3=bG bn∧st.env 10=cA bn b∧st.env 11=I 10∧st.env (1000001+b)=aS []) ?_ ?_
 ·intro k hk
  simp -implicitDefEqProofs [e9]
  exact hk _ ⟨by simp[e2],by simp[e3],by simp[bF],by simp[aV],by simp[em]⟩
 rintro st ⟨e2,e3,bF,aV,em⟩
 refine au (fun st=>st.env 2=.slice 2 [.agg [I 0,I 15]] 0∧st.env 3=bG bn∧st.env 12=.slice 2 [bK (0,60),bK (1,48),bK (-1,0)] 0) ?_ ?_
 ·intro k hk
  simp -implicitDefEqProofs [bF,aV]
  refine xb jl 10 rfl (by omega) (es:=[]) (by simp[em]) (rQ _) fun s2 es' h2 hm2 xd=> ?_
  rw[YY,KF]
  simp -implicitDefEqProofs
  exact hk _ ⟨by simp[e2],by simp[e3],by simp⟩
 rintro st ⟨e2,e3,aQ⟩
 refine au (fun st=>st.env 2=.slice 2 [.agg [I 0,I 15]] 0∧st.env 3=bG bn∧st.env 12=.slice 2 [bK (0,60),bK (1,48),bK (-1,0)] 0∧st.env 13=I 0) ?_ ?_
 ·intro k hk
  simp -implicitDefEqProofs
  exact hk _ ⟨by simp[e2],by simp[e3],by simp[aQ],by simp⟩
 rintro st ⟨e2,e3,aQ,aR⟩
 refine au (fun st=>False) ?_ ?_
 ·intro k0 aX
  simp -implicitDefEqProofs [e2]
  refine bw 1 (fun k st=>k=0∧st.env 3=bG bn∧st.env 12=.slice 2 [bK (0,60),bK (1,48),bK (-1,0)] 0∧st.env 13=I 0∧st.env 33=.slice 2 [.agg [I 0,I 15]] 0∧st.env 34=I 1∧st.env 35=I k) ?_ ?_
  ·simp[e3,aQ,aR]
  rintro k st hk ⟨rfl,e3,aQ,aR,eG,ZY,uu⟩
  have c1:aA Tryz.prog 63 [I 0,I 2,IL [0]] (O.B false):=jk (by decide)
  have c2:aA Tryz.prog 63 [I 0,I 14,IL [15]] (O.B true):=by
   have:=Zv 0 14 [15]
   rwa [show out 0 14 [15]=true by decide] at this
  have hb:(d_ .and .i64 0 1==1)=false:=by decide+kernel
  have hL:bn.a_.length=3:=rfl
  have hD:bn.days=14:=rfl
  simp -implicitDefEqProofs [eG,ZY,uu,e3,hL]
  intro b9 _
  refine⟨i64 (by decide) (by decide),aj c1 ?_⟩
  simp -implicitDefEqProofs [e3,aR,hb,hD]
  refine aj c2 ?_
  simp -implicitDefEqProofs [AG]
 ·intro st h
  exact h.elim
theorem VR:aA Tryz.prog 33 [bQ bn,NL [1,3],.slice 2 [.agg [I 0,I 14]] 0] (.tuple [IL [0,53,0,0],IL [41],I 12,I 0]):=by
 refine pc t33 (by simp) fun _=> ?_
 simp -implicitDefEqProofs only[AF]
 refine au (fun st=>st.env 1=NL [1,3]∧st.env 2=.slice 2 [.agg [I 0,I 14]] 0∧st.env 3=bG bn∧st.env 8=I 0) ?_ ?_
 ·intro k hk
  simp -implicitDefEqProofs
  exact hk _ ⟨by simp,by simp,by simp,by simp⟩
 rintro st ⟨e1,e2,e3,e8⟩
 refine au (fun st=>st.env 8=I 0∧st.env 2=.slice 2 [.agg [I 0,I 14]] 0∧st.env 3=bG bn∧st.env 9=I 0∧∃b,st.env 10=cA bn b∧st.env 11=I 10∧st.env (1000001+b)=aS []) ?_ ?_
 ·intro k hk
  simp -implicitDefEqProofs [e1,e3]
  refine aaT jl KG (by decide) fun s2 b h2 hm=> ?_
  have hb:1000000≤1000001+b:=by omega
  simp -implicitDefEqProofs
  exact hk _ ⟨by simp[e8],by simp[e2],by simp[e3],by simp,b,by simp,by simp[KI],by simp[hb,hm]⟩
 rintro st ⟨e8,e2,e3,e9,b,bF,aV,em⟩
 refine au (fun st=>st.env 8=I 0∧st.env 2=.slice 2 [.agg [I 0,I 14]] 0∧st.env 3=bG bn∧st.env 10=cA bn b∧st.env 11=I 10∧st.env (1000001+b)=aS []) ?_ ?_
 ·intro k hk
  simp -implicitDefEqProofs [e9]
  exact hk _ ⟨by simp[e8],by simp[e2],by simp[e3],by simp[bF],by simp[aV],by simp[em]⟩
 rintro st ⟨e8,e2,e3,bF,aV,em⟩
 refine au (fun st=>st.env 8=I 0∧st.env 2=.slice 2 [.agg [I 0,I 14]] 0∧st.env 3=bG bn∧st.env 12=.slice 2 [bK (0,60),bK (1,48),bK (-1,0)] 0) ?_ ?_
 ·intro k hk
  simp -implicitDefEqProofs [bF,aV]
  refine xb jl 10 rfl (by omega) (es:=[]) (by simp[em]) (rQ _) fun s2 es' h2 hm2 xd=> ?_
  rw[YY,KF]
  simp -implicitDefEqProofs
  exact hk _ ⟨by simp[e8],by simp[e2],by simp[e3],by simp⟩
 rintro st ⟨e8,e2,e3,aQ⟩
 refine au (fun st=>st.env 8=I 0∧st.env 2=.slice 2 [.agg [I 0,I 14]] 0∧st.env 3=bG bn∧st.env 12=.slice 2 [bK (0,60),bK (1,48),bK (-1,0)] 0∧st.env 13=I 0) ?_ ?_
 ·intro k hk
  simp -implicitDefEqProofs
  exact hk _ ⟨by simp[e8],by simp[e2],by simp[e3],by simp[aQ],by simp⟩
 rintro st ⟨e8,e2,e3,aQ,aR⟩
 refine au (fun st=>st.env 8=I 0∧st.env 3=bG bn∧st.env 12=.slice 2 [bK (0,60),bK (1,48),bK (-1,0)] 0∧st.env 13=I 1) ?_ ?_
 ·intro k0 aX
  simp -implicitDefEqProofs [e2]
  refine bw 1 (fun k st=>st.env 8=I 0∧st.env 3=bG bn∧st.env 12=.slice 2 [bK (0,60),bK (1,48),bK (-1,0)] 0∧st.env 13=I k∧st.env 33=.slice 2 [.agg [I 0,I 14]] 0∧st.env 34=I 1∧st.env 35=I k) ?_ ?_
  ·simp[e8,e3,aQ,aR]
  rintro k st hk ⟨e8,e3,aQ,aR,eG,ZY,uu⟩
  by_cases h1:k=1
  ·subst h1
   simp -implicitDefEqProofs [ZY,uu]
   exact aX _ ⟨by simp[e8],by simp[e3],by simp[aQ],by simp[aR]⟩
  obtain rfl:k=0:=by omega
  have c1:aA Tryz.prog 63 [I 0,I 2,IL [0]] (O.B false):=jk (by decide)
  have c2:aA Tryz.prog 63 [I 0,I 14,IL [14]] (O.B false):=jk (by decide)
  have hb:(d_ .and .i64 0 1==1)=false:=by decide+kernel
  have fS:d_ .or .i64 0 (IntKind.wrap .i64 1)=1:=by decide+kernel
  have hL:bn.a_.length=3:=rfl
  have hD:bn.days=14:=rfl
  have hdf:∀h:0<bn.a_.length,bn.a_[0].lf=true:=fun _=>rfl
  simp -implicitDefEqProofs [eG,ZY,uu,e3,hL]
  intro b9 _
  refine⟨i64 (by decide) (by decide),aj c1 ?_⟩
  simp -implicitDefEqProofs [e3,aR,hb,hD]
  refine aj c2 ?_
  simp -implicitDefEqProofs [e3,aQ,aR,uu,hL,hdf,fS]
  exact⟨i64 (by decide) (by decide),aN (by omega) ⟨by simp[e8],by simp[e3],by simp[aQ],by simp,by simp[eG],by simp[ZY],by simp⟩⟩
 rintro st ⟨e8,e3,aQ,aR⟩
 have hB:bn.aH.length=4:=rfl
 have hS:bn.YS.length=1:=rfl
 have hL:bn.a_.length=3:=rfl
 refine au (fun st=>st.env 3=bG bn∧st.env 8=I 0∧st.env 12=.slice 2 [bK (0,60),bK (1,48),bK (-1,0)] 0∧st.env 13=I 1∧∃b1 b2,b1≠b2∧st.env 6=.aP b1 0 4 4 1∧st.env 7=.aP b2 0 1 1 1∧st.loc b1=some [I 0,I 0,I 0,I 0]∧st.loc b2=some [I 0]) ?_ ?_
 ·intro k hk
  simp -implicitDefEqProofs [e3,hB,hS]
  intro b1 _ b2 h2
  have hn:¬b2=b1:=by rintro rfl;simp at h2
  have hn':¬b1=b2:=fun e=>hn e.symm
  exact hk _ ⟨by simp[e3],by simp[e8],by simp[aQ],by simp[aR],b1,b2,hn',by simp,by simp,by simp[hn'],by simp⟩
 rintro st ⟨e3,e8,aQ,aR,b1,b2,hne,e6,e7,l1,l2⟩
 have VS:¬b1=b2:=hne
 have mX:¬b2=b1:=fun e=>hne e.symm
 refine au (fun st=>st.env 8=I 12∧st.env 6=.aP b1 0 4 4 1∧st.env 7=.aP b2 0 1 1 1∧st.loc b1=some [I 0,I 53,I 0,I 0]∧st.loc b2=some [I 41]) ?_ ?_
 ·intro k0 aX
  simp -implicitDefEqProofs [aQ]
  refine bw 3 (fun k st=>st.env 3=bG bn∧st.env 8=I (if k≤1 then 0 else 12)∧st.env 13=I 1∧st.env 6=.aP b1 0 4 4 1∧st.env 7=.aP b2 0 1 1 1∧st.loc b1=some [I 0,I (if k≤1 then 0 else 53),I 0,I 0]∧st.loc b2=some [I (if k≤1 then 0 else 41)]∧st.env 94=.slice 2 [bK (0,60),bK (1,48),bK (-1,0)] 0∧st.env 95=I 3∧st.env 96=I k) ?_ ?_
  ·simp[e3,e8,aR,e6,e7,l1,l2]
  rintro k st hk ⟨e3,e8,aR,e6,e7,l1,l2,rS,qf,uv⟩
  have jy:k=0∨k=1∨k=2∨k=3:=by omega
  rcases jy with rfl|rfl|rfl|rfl
  ·have hb:(d_ .and .i64 1 1==1)=true:=by decide+kernel
   simp -implicitDefEqProofs [rS,qf,uv,aR,hb]
   intro b9 h9
   have n1:¬b1=b9:=by rintro rfl;rw[l1] at h9;cases h9
   have n2:¬b2=b9:=by rintro rfl;rw[l2] at h9;cases h9
   exact⟨i64 (by decide) (by decide),aN (by omega) ⟨by simp[e3],by simp[e8],by simp[aR],by simp[e6],by simp[e7],by simp[l1,n1],by simp[l2,n2],by simp[rS],by simp[qf],by simp⟩⟩
  ·have hb:(d_ .and .i64 (Int.fdiv 1 (2^(min 1 (IntKind.bits .i64)))) 1==1)=false:=by decide+kernel
   have hP:bn.kA=100:=rfl
   have hF:bn.kB=150:=rfl
   have c1:aA Tryz.prog 65 [I 48,I 100] (I 5):=KE 48 100 (by decide) (by decide)
   have c2:aA Tryz.prog 65 [I 48,I 150] (I 7):=KE 48 150 (by decide) (by decide)
   have VT:∀h:1<bn.a_.length,bn.a_[1].ga=0:=fun _=>rfl
   simp -implicitDefEqProofs [rS,qf,uv,aR,hb]
   intro b9 h9
   have n1:¬b1=b9:=by rintro rfl;rw[l1] at h9;cases h9
   have n2:¬b2=b9:=by rintro rfl;rw[l2] at h9;cases h9
   simp -implicitDefEqProofs [e3,hP]
   refine aj c1 ?_
   simp -implicitDefEqProofs [e3,hF]
   refine aj c2 ?_
   simp -implicitDefEqProofs [e3,e6,e7,e8,uv,l1,l2,n1,n2,mX,hL,VT]
   exact⟨i64 (by decide) (by decide),i64 (by decide) (by decide),i64 (by decide) (by decide),i64 (by decide) (by decide),aN (by omega) ⟨by simp[e3],by simp,by simp[aR],by simp[e6],by simp[e7],by simp[VS],by simp,by simp[rS],by simp[qf],by simp⟩⟩
  ·simp -implicitDefEqProofs [rS,qf,uv]
   intro b9 h9
   have n1:¬b1=b9:=by rintro rfl;rw[l1] at h9;cases h9
   have n2:¬b2=b9:=by rintro rfl;rw[l2] at h9;cases h9
   exact⟨i64 (by decide) (by decide),aN (by omega) ⟨by simp[e3],by simp[e8],by simp[aR],by simp[e6],by simp[e7],by simp[l1,n1],by simp[l2,n2],by simp[rS],by simp[qf],by simp⟩⟩
  ·simp -implicitDefEqProofs [qf,uv]
   exact aX _ ⟨by simp[e8],by simp[e6],by simp[e7],by simp[l1],by simp[l2]⟩
 rintro st ⟨e8,e6,e7,l1,l2⟩
 simp -implicitDefEqProofs [e6,e7,l1,l2,aq,mX,chunk,e8,AG]
end Go.Proofs.YtpeikknjbnnnnaaGreat.A
namespace Go.Proofs.YtpeikknjbnnnnaaGreat.A
open Go.az O
def One(x:AV):Prop:=x.cells=[x]∧x.erase0=x∧x.bH=true
structure oE (cs l:List AV) (cap:Nat):Prop where
 le:l.length≤cap
 len:cs.length=cap
 cells:cs.take l.length=l
 one:∀x∈cs,One x
def Y7(s0:St)(loc:Nat→Option (List AV))(v:AV)(l:List AV):Prop:=(l=[]∧v=.lit (.slice none 0 0))∨∃b cap cs,l≠[]∧v=.aP b 0 l.length cap 1∧loc b=some cs∧oE cs l cap∧fL s0 b
theorem oE.erase{cs l:List AV}{cap:Nat}(h:oE cs l cap):cs.map AV.erase0=cs:=by
 calc cs.map AV.erase0=cs.map id:=List.map_congr_left fun x hx=>(h.one x hx).2.1
  _=cs:=by simp
theorem Y7.nC{s0:St}{loc loc':Nat→Option (List AV)}{v:AV}{l:List AV}(h:Y7 s0 loc v l)(hl:∀c cs,loc c=some cs→cs.map AV.erase0=cs→loc' c=some cs):Y7 s0 loc' v l:=by
 rcases h with h|⟨b,cap,cs,h1,h2,h3,h4,h5⟩
 ·exact .inl h
 ·exact .inr ⟨b,cap,cs,h1,h2,hl b cs h3 h4.erase,h4,h5⟩
theorem Y7.aK{s0:St}{loc:Nat→Option (List AV)}{v:AV}{l:List AV}(h:Y7 s0 loc v l)(r:Nat):aG r v=v:=by rcases h with ⟨_,rfl⟩|⟨b,cap,cs,h1,rfl,_⟩<;>rfl
theorem Y7.erase{s0:St}{loc:Nat→Option (List AV)}{v:AV}{l:List AV}(h:Y7 s0 loc v l):v.erase=v:=by rcases h with ⟨_,rfl⟩|⟨b,cap,cs,h1,rfl,_⟩<;>rfl
theorem Y7.erase0{s0:St}{loc:Nat→Option (List AV)}{v:AV}{l:List AV}(h:Y7 s0 loc v l):v.erase0=v:=by rcases h with ⟨_,rfl⟩|⟨b,cap,cs,h1,rfl,_⟩<;>rfl
theorem Y7.Yo{s0:St}{loc:Nat→Option (List AV)}{v:AV}{l:List AV}(h:Y7 s0 loc v l)(s:St)(d:Nat):Y4 s d v=s.set d v:=by rcases h with ⟨_,rfl⟩|⟨b,cap,cs,h1,rfl,_⟩<;>rfl
theorem CG{y:AV}(hy:One y):(List.flatMap AV.cells [y]).map AV.erase0=[y]:=by simp[hy.1,hy.2.1]
theorem KK(r:Nat)(z:AV):(List.replicate r [z]).flatten=List.replicate r z:=by
 induction r with
 |zero=>rfl
 |succ r ih=>rw[List.replicate_succ,List.flatten_cons,ih];rfl
theorem aaU{P:Program}{ms:List Yr}{K:St→Prop}{s0 s:St}{d bytes q:Nat}{v y z:AV}{l:List AV}(h:Y7 s0 s.loc v l)(hnew:∀b,s.loc b=none→fL s0 b)(hl:l.length≤1000)(hy:One y)(hz:One z)(hb:bytes≤1000)
  (hK:∀b cs n cap,fL s0 b→Y7 s0 (s.new b cs).loc (.aP b 0 n cap 1) (l++[y])→(s.loc b=none∨∃o len cap sz,v=.aP b o len cap sz)→vcs P ms K ((s.new b cs).set d (.aP b 0 n cap 1))):
  kf P ms K s d 1 bytes [z] v (.slice 1 [y] q):=by
 have hmul:∀n,n≤1001→n*bytes≤140737488355328:=fun n hn=>Nat.le_trans (Nat.mul_le_mul hn hb) (by decide)
 have KL:∀r,oE ([y]++List.replicate r z) [y] (1+r):=fun r=>⟨by simp,by simp;omega,by simp,fun x hx=>by
  rcases List.mem_append.1 hx with hx|hx
  ·rw[List.mem_singleton.1 hx];exact hy
  ·rw[(List.mem_replicate.1 hx).2];exact hz⟩
 rcases h with ⟨rfl,rfl⟩|⟨b,cap,cs,h1,rfl,h3,h4,h5⟩
 ·refine⟨rfl,by simp,hmul _ (by simp),by simp,fun b r eD=> ?_⟩
  rw[CG hy,KK]
  exact hK b _ _ _ (hnew b eD) (.inr ⟨b,1+r,_,by simp,by simp,by rw[Z5,if_pos rfl],by simpa using KL r,hnew b eD⟩) (.inl eD)
 ·have hle:=h4.le
  have hlen:=h4.len
  have h0:¬cap=0:=by rintro rfl;have:=List.length_pos_iff.2 h1;omega
  refine⟨rfl,rfl,by simp,hmul _ (by simp;omega),by simp;omega,?_⟩
  rw[if_neg h0,h3]
  refine⟨by omega,fun hr=> ?_,fun hr b' r eD=> ?_⟩
  ·simp only[List.length_cons,List.length_nil] at hr
   rw[CG hy,Nat.zero_add,Nat.mul_one]
   refine hK b _ _ _ h5 (.inr ⟨b,cap,_,by simp,by simp,by rw[Z5,if_pos rfl],⟨by simp;omega,?_,?_,fun x hx=> ?_⟩,h5⟩) (.inr ⟨_,_,_,_,rfl⟩)
   ·show(cs.set l.length y).length=cap
    rw[List.length_set];exact hlen
   ·show(cs.set l.length y).take (l++[y]).length=l++[y]
    rw[List.length_append,List.length_singleton,List.take_succ_eq_append_getElem (by rw[List.length_set];omega),List.take_set_of_le (Nat.le_refl _),h4.cells]
    simp
   ·replace hx:x∈cs.set l.length y:=hx
    rcases List.mem_or_eq_of_mem_set hx with hx|rfl
    ·exact h4.one x hx
    ·exact hy
  ·rw[CG hy,KK,Nat.mul_one,List.drop_zero,h4.cells]
   have KM:l.map AV.erase0=l:=by
    have:∀x∈l,One x:=fun x hx=>by
     have hx':x∈cs.take l.length:=by rw[h4.cells];exact hx
     exact h4.one x (List.mem_of_mem_take hx')
    calc l.map AV.erase0=l.map id:=List.map_congr_left fun x hx=>(this x hx).2.1
     _=l:=by simp
   rw[KM]
   refine hK b' _ _ _ (hnew b' eD) (.inr ⟨b',l.length+1+r,_,by simp,by simp,by rw[Z5,if_pos rfl],⟨by simp,by simp;omega,?_,fun x hx=> ?_⟩,hnew b' eD⟩) (.inl eD)
   ·rw[←List.append_assoc,List.take_append_of_le_length (by simp)]
    rw[List.take_of_length_le (by simp)]
   ·rcases List.mem_append.1 hx with hx|hx
    ·have hx':x∈cs.take l.length:=by rw[h4.cells];exact hx
     exact h4.one x (List.mem_of_mem_take hx')
    ·exact(KL r).one x hx
theorem KN:∀(n:Nat) (cs:List AV),n≤cs.length→(∀x∈cs,x.erase0=x)→chunk 1 cs n=cs.take n
 |0,_,_,_=>rfl
 |n+1,[],h,_=>by simp at h
 |n+1,c::cs,h,hx=>by
  have ih:=KN n cs (by simpa using h) fun x h=>hx x (List.mem_cons_of_mem _ h)
  have hc:=hx c (List.mem_cons_self ..)
  show(if 1=1 then ((c::cs).getD 0 .any).erase0 else _)::chunk 1 ((c::cs).drop 1) n=_
  rw[if_pos rfl]
  simp[hc,ih]
theorem oE.chunk{cs l:List AV}{cap:Nat}(h:oE cs l cap):chunk 1 cs l.length=l:=by
 rw[KN _ _ (by have:=h.le;have:=h.len;omega) fun x hx=>(h.one x hx).2.1]
 exact h.cells
theorem oE.c1{cs l:List AV}{cap:Nat}(h:oE cs l cap):cs.all AV.bH=true:=List.all_eq_true.2 fun x hx=>(h.one x hx).2.2
theorem VU{P:Program}{ms:List Yr}{K:St→Prop}{s0 s:St}{k:Nat}{l:List AV}(h:Y7 s0 s.loc (s.env k) l)(hl:l.length≤1000)(hK:∀loc',(∀c cs,s0.loc c=some cs→cs.map AV.erase0=cs→loc' c=s.loc c)→vcs P ms K ⟨aq s.env k (.slice 1 l 0),loc'⟩):tf P ms K s k (s.env k):=by
 rcases h with ⟨rfl,hv⟩|⟨b,cap,cs,h1,hv,h3,h4,h5⟩
 ·rw[hv]
  exact⟨1,hK _ fun _ _ _ _=>rfl⟩
 ·rw[hv]
  have hle:=h4.le
  have hlen:=h4.len
  show tc P ms K s k b l.length 1 (s.loc b)
  rw[h3]
  refine⟨by omega,h4.c1,by omega,?_⟩
  rw[h4.chunk]
  exact hK _ fun c cs' h6 h7=>bM _ _ (by rintro rfl;exact h5 cs' h6 h7)
end Go.Proofs.YtpeikknjbnnnnaaGreat.A
namespace Go.Proofs.YtpeikknjbnnnnaaGreat.A
open Go.az O
theorem VV:aA Tryz.prog 34 [bQ bn,NL [0,1,2]] (.tuple [IL [14,13,13],I 0]):=by
 refine pc t34 (by simp) fun _=> ?_
 simp -implicitDefEqProofs only[Gy]
 refine au (fun st=>st.env 1=NL [0,1,2]∧st.env 2=bG bn∧st.env 4=.lit (.slice none 0 0)) ?_ ?_
 ·intro k hk
  simp -implicitDefEqProofs
  exact hk _ ⟨by simp,by simp,by simp⟩
 rintro st ⟨e1,e2,e4⟩
 refine au (fun st=>st.env 1=NL [0,1,2]∧st.env 4=.lit (.slice none 0 0)∧st.env 5=I 0∧∃b,st.env 6=cA bn b∧st.env 7=I 7∧st.env (1000001+b)=aS []) ?_ ?_
 ·intro k hk
  simp -implicitDefEqProofs [e1,e2]
  refine aaT jl KH (by decide) fun s2 b h2 hm=> ?_
  have hb:1000000≤1000001+b:=by omega
  simp -implicitDefEqProofs
  exact hk _ ⟨by simp[e1],by simp[e4],by simp,b,by simp,by simp[KJ],by simp[hb,hm]⟩
 rintro st ⟨e1,e4,e5,b,e6,e7,em⟩
 have hb:1000000≤1000001+b:=by omega
 refine au (fun st=>st.env 1=NL [0,1,2]∧st.env 4=.lit (.slice none 0 0)∧st.env 6=cA bn b∧st.env 7=I 7∧st.env (1000001+b)=aS []) ?_ ?_
 ·intro k hk
  simp -implicitDefEqProofs [e5]
  exact hk _ ⟨by simp[e1],by simp[e4],by simp[e6],by simp[e7],by simp[em]⟩
 rintro st ⟨e1,e4,e6,e7,em⟩
 refine au (fun st=>st.env 1=NL [0,1,2]∧st.env 4=.lit (.slice none 0 0)∧st.env 6=cA bn b∧st.env 7=I 7∧st.env 8=I 0∧st.env (1000001+b)=aS []) ?_ ?_
 ·intro k hk
  simp -implicitDefEqProofs
  exact hk _ ⟨by simp[e1],by simp[e4],by simp[e6],by simp[e7],by simp,by simp[em]⟩
 rintro st ⟨e1,e4,e6,e7,e8,em⟩
 refine au (fun st=>st.env 1=NL [0,1,2]∧st.env 4=.lit (.slice none 0 0)∧st.env 6=cA bn b∧st.env 7=I 7∧st.env 8=I 0∧st.env 9=.slice 2 [bK (0,60),bK (1,73),bK (-1,0)] 0∧∃es,st.env (1000001+b)=aS es∧gD bn es) ?_ ?_
 ·intro k hk
  simp -implicitDefEqProofs [e6]
  refine xb jl 0 rfl (by omega) (es:=[]) (by simp[em]) (rQ _) fun s2 es' h2 hm2 xd=> ?_
  rw[YY,x0]
  simp -implicitDefEqProofs
  exact hk _ ⟨by simp[e1],by simp[e4],by simp[e6],by simp[e7],by simp[e8],by simp,es',by simp[hb,hm2],xd⟩
 rintro st ⟨e1,e4,e6,e7,e8,e9,es,em,hM⟩
 refine au (fun st=>st.env 1=NL [0,1,2]∧st.env 4=.lit (.slice none 0 0)∧st.env 8=I 40) ?_ ?_
 ·intro k0 aX
  simp -implicitDefEqProofs [e6,e7]
  refine xb jl 7 rfl (by omega) (es:=es) (by simp[em]) hM fun s2 es' h2 hm2 xd=> ?_
  rw[YY,x7]
  simp -implicitDefEqProofs
  refine bw 3 (fun k st=>st.env 1=NL [0,1,2]∧st.env 4=.lit (.slice none 0 0)∧st.env 7=I 7∧st.env 8=I (if k=0 then 0 else 40)∧st.env 9=.slice 2 [bK (0,60),bK (1,73),bK (-1,0)] 0∧st.env 28=.slice 2 [bK (0,20),bK (1,73),bK (-1,0)] 0∧st.env 29=I 3∧st.env 30=I k) ?_ ?_
  ·simp[e1,e4,e7,e8,e9]
  rintro k st hk ⟨e1,e4,e7,e8,e9,dg,dM,fN⟩
  have jy:k=0∨k=1∨k=2∨k=3:=by omega
  rcases jy with rfl|rfl|rfl|rfl
  ·have hb:(d_ .and .i64 7 1==1)=true:=by decide+kernel
   simp -implicitDefEqProofs [dg,dM,fN,e7,hb]
   intro b9 _
   simp -implicitDefEqProofs [e8,e9,fN]
   exact⟨i64 (by decide) (by decide),i64 (by decide) (by decide),aN (by omega) ⟨by simp[e1],by simp[e4],by simp[e7],by simp,by simp[e9],by simp[dg],by simp[dM],by simp⟩⟩
  ·have hb:(d_ .and .i64 (Int.fdiv 7 (2^(min 1 (IntKind.bits .i64)))) 1==1)=true:=by decide+kernel
   simp -implicitDefEqProofs [dg,dM,fN,e7,hb]
   intro b9 _
   simp -implicitDefEqProofs [e8,e9,fN]
   exact⟨i64 (by decide) (by decide),i64 (by decide) (by decide),i64 (by decide) (by decide),aN (by omega) ⟨by simp[e1],by simp[e4],by simp[e7],by simp,by simp[e9],by simp[dg],by simp[dM],by simp⟩⟩
  ·simp -implicitDefEqProofs [dg,dM,fN]
   intro b9 _
   exact⟨i64 (by decide) (by decide),aN (by omega) ⟨by simp[e1],by simp[e4],by simp[e7],by simp[e8],by simp[e9],by simp[dg],by simp[dM],by simp⟩⟩
  ·simp -implicitDefEqProofs [dM,fN]
   exact aX _ ⟨by simp[e1],by simp[e4],by simp[e8]⟩
 rintro st ⟨e1,e4,e8⟩
 refine au (fun st=>Y7 ⟨fun _=>.any,fun _=>none⟩ st.loc (st.env 4) [I 14,I 13,I 13]) ?_ ?_
 ·intro k0 aX
  simp -implicitDefEqProofs [e1]
  refine bw 3 (fun k st=>st.env 1=NL [0,1,2]∧st.env 8=I 40∧Y7 ⟨fun _=>.any,fun _=>none⟩ st.loc (st.env 4) ([I 14,I 13,I 13].take k)∧st.env 58=I 3∧st.env 59=I k) ?_ ?_
  ·exact⟨by simp[e1],by simp[e8],.inl ⟨rfl,by simp[e4]⟩,by simp,by simp⟩
  rintro k st hk ⟨e1,e8,hacc,mg,ZW⟩
  have nb:∀b,fL ⟨fun _=>.any,fun _=>none⟩ b:=fun b cs h=>by cases h
  have one:∀n:Int,One (I n):=fun n=>⟨rfl,rfl,rfl⟩
  have jy:k=0∨k=1∨k=2∨k=3:=by omega
  rcases jy with rfl|rfl|rfl|rfl
  ·simp -implicitDefEqProofs [-kf,-lY,mg,ZW,e8,e1,hacc.aK]
   refine⟨i64 (by decide) (by decide),i64 (by decide) (by decide),aaU (l:=[I 14,I 13,I 13].take _) (hacc.nC fun c cs h3 h4=>by simp[h3,fW h4]) (fun b _=>nb b) (by simp) (one _) (one 0) (by decide) fun b5 cs n5 xg hnb mB _=> ?_⟩
   simp -implicitDefEqProofs [mB.Yo,ZW]
   exact⟨i64 (by decide) (by decide),aN (by omega) ⟨by simp[e1],by simp[e8],by simpa using mB,by simp[mg],by simp⟩⟩
  ·simp -implicitDefEqProofs [-kf,-lY,mg,ZW,e8,e1,hacc.aK]
   refine⟨i64 (by decide) (by decide),aaU (l:=[I 14,I 13,I 13].take _) (hacc.nC fun c cs h3 h4=>by simp[h3,fW h4]) (fun b _=>nb b) (by simp) (one _) (one 0) (by decide) fun b5 cs n5 xg hnb mB _=> ?_⟩
   simp -implicitDefEqProofs [mB.Yo,ZW]
   exact⟨i64 (by decide) (by decide),aN (by omega) ⟨by simp[e1],by simp[e8],by simpa using mB,by simp[mg],by simp⟩⟩
  ·simp -implicitDefEqProofs [-kf,-lY,mg,ZW,e8,e1,hacc.aK]
   refine⟨i64 (by decide) (by decide),aaU (l:=[I 14,I 13,I 13].take _) (hacc.nC fun c cs h3 h4=>by simp[h3,fW h4]) (fun b _=>nb b) (by simp) (one _) (one 0) (by decide) fun b5 cs n5 xg hnb mB _=> ?_⟩
   simp -implicitDefEqProofs [mB.Yo,ZW]
   exact⟨i64 (by decide) (by decide),aN (by omega) ⟨by simp[e1],by simp[e8],by simpa using mB,by simp[mg],by simp⟩⟩
  ·simp -implicitDefEqProofs [mg,ZW]
   exact aX _ (by simpa using hacc)
 intro st hacc
 simp -implicitDefEqProofs only[zS,zR,Ac]
 refine VU hacc (by simp) fun loc' jw=> ?_
 simp -implicitDefEqProofs [aq,Gz]
end Go.Proofs.YtpeikknjbnnnnaaGreat.A
namespace Go.Proofs.YtpeikknjbnnnnaaGreat.A
open Go.az O
structure mC (s:aB) (l:List Entry):Prop where
 ay:∀i (h:i<l.length),0≤l[i].ay∧l[i].ay≤(s.a_.length:Int) - 1
 CC:∀i (h:i<l.length),0<i→l[i - 1].ay<l[i].ay
 oC:∀i (h:i<l.length),l[i].oC=true
 VW:∀i (h:i<l.length),(0≤l[i].lo∧l[i].lo≤100000)∧(0≤l[i].hi∧l[i].hi≤100000)∧l[i].lo≤l[i].hi
abbrev EL(l:List Entry):AV:=.slice 4 (l.map Z6) 0
theorem VX{s:aB}(hs:s.a_.length≤6){l:List Entry}(hc:mC s l)(hl:l.length≤1000)(i:Nat)(hi:i<l.length):aA Tryz.prog 93 [I i,Z6 l[i],bG s,.ref [EL l]] (I 0):=by
 refine pc t93 (by simp) fun _=> ?_
 obtain⟨p1,p2,p3⟩:=hc.VW i hi
 have rT:=hc.ay i hi
 have KO:=hc.oC i hi
 have CD:=hc.CC i hi
 have c1:=jk rT
 have c2:=J4 p1 p2
 have hgt:¬l[i].hi<l[i].lo:=by omega
 by_cases h0:i=0
 ·subst h0
  generalize hx:l[0]=x at*
  simp -implicitDefEqProofs [AN]
  refine⟨i64 (by omega) (by omega),aj c1 ?_⟩
  simp -implicitDefEqProofs [KO]
  refine aj c2 ?_
  simp -implicitDefEqProofs [hgt,AO]
 ·have ZL:0<i:=by omega
  have nA:i - 1<l.length:=by omega
  have hit:((i:Int) - 1).toNat=i - 1:=by omega
  have hle:¬l[i].ay≤l[i - 1].ay:=by have:=CD ZL;omega
  generalize hx:l[i]=x at*
  simp -implicitDefEqProofs [AN]
  refine⟨i64 (by omega) (by omega),aj c1 ?_⟩
  simp -implicitDefEqProofs [KO,ZL,hit,nA,hle]
  refine⟨i64 (by omega) (by omega),by omega,by omega,aj c2 ?_⟩
  simp -implicitDefEqProofs [hgt,AO]
theorem KP{s:aB}(h:Valid s){l:List Entry}(hc:mC s l)(hl:l.length≤1000){s0:St}{K:AV→St→Prop}(hK:∀s2 b,Old s0 s2→s2.env (1000001+b)=aS []→K (.tuple [cA s b,I 0]) (back s0 s2)):YZ Tryz.prog 66 [bQ s,EL l] s0 K:=by
 refine ic t66 (by simp) fun _=> ?_
 have hls:=h.a_.1
 have c1:=UY l l.length 93 [bG s,.ref [EL l]] (fun _=>0) (fun i hi=>VX (by omega) hc hl i hi)
 rw[lp (by omega) (fun _ _=>rfl)] at c1
 simp -implicitDefEqProofs only[GW]
 refine au (fun st=>st.env 2=bG s∧st.env 3=.ref [EL l]∧Old s0 st) ?_ ?_
 ·intro k hk
  have hO:Old s0 s0:=⟨fun _ _ h _=>h,fun _ _ _ h=>h⟩
  simp -implicitDefEqProofs
  exact hk _ ⟨by simp,by simp,hO.ext (by simp) (by simp)⟩
 rintro st ⟨e2,e3,hO⟩
 refine au (fun st=>st.env 2=bG s∧st.env 3=.ref [EL l]∧st.env 7=I 0∧Old s0 st∧∃b,st.env 6=cA s b∧st.env (1000001+b)=aS []) ?_ ?_
 ·intro k hk
  simp -implicitDefEqProofs [e2]
  refine Cu h fun s2 b h2 hm=> ?_
  simp -implicitDefEqProofs
  have hb:1000000≤1000001+b:=by omega
  refine hk _ ⟨by simp[e2],by simp[e3],by simp,?_,b,by simp,by simp[hb,hm]⟩
  exact⟨fun c cs h3 h4=>by simp;exact h2.l c cs (by simpa using hO.l c cs h3 h4) h4,fun l es q hg=>by simp;exact h2.g l es q (by simpa using hO.g l es q hg)⟩
 rintro st ⟨e2,e3,e7,hO,b,e6,em⟩
 simp -implicitDefEqProofs [e2,e3,e7]
 refine aj c1 ?_
 simp -implicitDefEqProofs [e6,dj,GX]
 exact hK _ b (hO.ext (by simp) (by simp)) (by simp[em])
end Go.Proofs.YtpeikknjbnnnnaaGreat.A
namespace Go.Proofs.YtpeikknjbnnnnaaGreat.A
open Go.az O
theorem KQ{n:Nat}(hn:n≤6):∀(k:Nat) (o:List Nat) (u f:Nat),u<64→∀p∈jQ n k o u f,p.2<64∧p.1.length=o.length+k
 |0,o,u,f,hu,p,hp=>by
  rw[List.mem_singleton.1 hp];exact⟨hu,rfl⟩
 |k+1,o,u,f,hu,p,hp=>by
  replace hp:p∈((List.range n).drop f).flatMap fun b=>jQ n k (o++[b]) (u ||| 2^b) (b+1):=hp
  rw[List.mem_flatMap] at hp
  obtain⟨b,hb,hp⟩:=hp
  have eD:b<n:=by simpa using List.mem_of_mem_drop hb
  have:=KQ hn k _ _ _ (Nat.or_lt_two_pow (n:=6) hu (Nat.pow_lt_pow_right (by omega) (by omega))) p hp
  simp at this
  exact⟨this.1,by omega⟩
theorem KR{n:Nat}(hn:n≤6){p:List Nat×Nat}(hp:p∈Yz n):p.2<64∧p.1.length≤6:=by
 unfold Yz kE at hp
 rw[List.mem_flatMap] at hp
 obtain⟨m,hm,hp⟩:=hp
 have hmn:=List.mem_of_mem_drop (List.mem_filter.1 hm).1
 have:=KQ hn m [] 0 0 (by omega) p hp
 simp at hmn this
 exact⟨this.1,by omega⟩
def jR(s:aB)(n:Nat)(x:Entry):Int×Int:=(fA s (bE n)).getD x.ay.toNat (0,0)
def uw(s:aB)(l:List Entry)(n:Nat):Bool:=l.all fun x=>nD x (jR s n x)
def fC(s:aB)(l:List Entry)(ps:List (List Nat×Nat)):List (List Nat):=(ps.filter fun p=>uw s l p.2).map (·.1)
theorem VY(s:aB)(l:List Entry)(ps:List (List Nat×Nat))(p:List Nat×Nat):fC s l (ps++[p])=if uw s l p.2 then fC s l ps++[p.1] else fC s l ps:=by
 unfold fC
 rw[List.filter_append]
 cases h:uw s l p.2<;>simp[h]
theorem KS(s:aB)(l:List Entry)(ps:List (List Nat×Nat)):(fC s l ps).length≤ps.length:=by unfold fC;rw[List.length_map];exact List.length_filter_le _ _
theorem KT{P:Program}{kn:St→Prop}{ke:Nat→St→Prop}{kr:St→Prop}{s:St}{x:aC}(J:St→Prop)(hx:∀k:St→Prop,(∀s',J s'→k s')→bz P x k ke kr s)(h:∀s',J s'→kn s'):bz P x kn ke kr s:=hx kn h
theorem VZ(o:List Nat):One (NL o):=⟨rfl,rfl,rfl⟩
structure FS (s:aB) (s0:St) (b B:Nat) (l:List Entry) (L:List (List Nat)) (st:St):Prop where
 e:st.env 3=.ref [EL l]∧st.env 4=.Yq B 0∧st.env 5=.ref [.func (.func 43) [cA s b] []]
 nb:fL s0 B
 acc:∃v,st.loc B=some [v]∧Y7 s0 st.loc v (L.map NL)∧v.erase0=v∧∀b5 o len cap sz,v=.aP b5 o len cap sz→b5≠B
 old:Old s0 st
 em:∃es,st.env (1000001+b)=aS es∧gD s es
theorem FS.ext{s:aB}{s0:St}{b B:Nat}{l:List Entry}{L:List (List Nat)}{st st':St}(h:FS s s0 b B l L st)(he:st'.env 3=st.env 3∧st'.env 4=st.env 4∧st'.env 5=st.env 5)(hg:∀l es q,st.env 1000000=.ghost l es q→st'.env 1000000=.ghost l es q)(hl:∀c cs,st.loc c=some cs→cs.map AV.erase0=cs→st'.loc c=some cs)(hm:∃es,st'.env (1000001+b)=aS es∧gD s es):FS s s0 b B l L st':=by
 obtain⟨v,h1,h2,h3,h4⟩:=h.acc
 exact⟨⟨he.1.trans h.e.1,he.2.1.trans h.e.2.1,he.2.2.trans h.e.2.2⟩,h.nb,⟨v,hl B _ h1 (by simp[h3]),h2.nC hl,h3,h4⟩,⟨fun c cs h5 h6=>hl c cs (h.old.l c cs h5 h6) h6,fun l es q h5=>hg l es q (h.old.g l es q h5)⟩,hm⟩
theorem V0{s:aB}(h:Valid s){l:List Entry}(hc:mC s l)(hl:l.length≤1000)(hrl:(Yz s.aH.length).length≤1000){s0:St}{b:Nat}{es:List (List AV)}(uk:s0.env (1000001+b)=aS es)(hM:gD s es){K:AV→St→Prop}(hK:∀s2,Old s0 s2→K (.slice 1 ((fC s l (Yz s.aH.length)).map NL) 0) (back s0 s2)):YZ Tryz.prog 67 [cA s b,EL l] s0 K:=by
 refine ic t67 (by simp) fun _=> ?_
 have Cz:=h.a_.1
 have eD:=h.aH.1
 have xh:=KC s b
 have xj:=KB (s:=s) b rfl (by omega)
 obtain⟨A,hA⟩:∃A,A=cA s b:=⟨_,rfl⟩
 have CH:A.erase=A:=by rw[hA];rfl
 have Yb:A.erase0=A:=by rw[hA];rfl
 have Yc:∀r,aG r A=A:=fun r=>by rw[hA];rfl
 rw[←hA] at xh xj⊢
 simp -implicitDefEqProofs only[GY]
 refine au (fun st=>st.env 0=A∧st.env 3=.ref [EL l]∧Old s0 st∧st.env (1000001+b)=aS es∧∃B,st.env 4=.Yq B 0∧st.loc B=some [.lit (.slice none 0 0)]∧fL s0 B) ?_ ?_
 ·intro k hk
  have hO:Old s0 s0:=⟨fun _ _ h _=>h,fun _ _ _ h=>h⟩
  have hb:1000000≤1000001+b:=by omega
  simp -implicitDefEqProofs
  intro B hB
  refine hk _ ⟨by simp[CH],by simp,hO.ext (by simp) (fun c hc=> ?_),by simp[hb,uk],B,by simp,by simp,hO.new hB⟩
  have:¬c=B:=by rintro rfl;exact hc hB
  simp[this]
 rintro st ⟨e0,e3,hO,em,B,e4,lB,nB⟩
 refine au (fun st=>st.env 0=A∧FS s s0 b B l [] st) ?_ ?_
 ·intro k hk
  simp -implicitDefEqProofs [e0,CH]
  intro b5 h5
  have hne:¬B=b5:=by rintro rfl;rw[lB] at h5;cases h5
  refine hk _ ⟨by simp[e0],⟨by simp[e3],by simp[e4],by simp[hA]⟩,nB,⟨.lit (.slice none 0 0),by simp[lB,hne],.inl ⟨rfl,rfl⟩,rfl,fun _ _ _ _ _ e=>by cases e⟩,hO.ext (by simp) (fun c hc=> ?_),es,by simp[em],hM⟩
  have:¬c=b5:=by rintro rfl;exact hc h5
  simp[this]
 rintro st ⟨e0,hF⟩
 refine au (fun st=>st.env 0=A∧FS s s0 b B l [] st) (fun k hk=>hk _ ⟨e0,hF⟩) ?_
 clear e0 hF
 rintro sO ⟨e0,hF⟩
 obtain⟨o3,o4,o5⟩:=hF.e
 refine au (fun st=>FS s s0 b B l (fC s l (Yz s.aH.length)) st) ?_ ?_
 ·intro k0 aX
  simp -implicitDefEqProofs [e0,CH]
  refine aj xh ?_
  simp -implicitDefEqProofs
  refine s_ _ (fun k st=>FS s s0 b B l (fC s l ((Yz s.aH.length).take k)) st) xj ?_ ?_ ?_ ?_
  ·intro y hy
   rw[List.mem_map] at hy
   obtain⟨p,_,rfl⟩:=hy
   exact⟨rfl,rfl⟩
  ·obtain⟨x3,x4,x5⟩:=hF.e
   have hb:1000000≤1000001+b:=by omega
   obtain⟨es',h1,h2⟩:=hF.em
   exact hF.ext ⟨by simp[x3],by simp[x4],by simp[x5]⟩ (fun _ _ _ hg=>by simp[hg]) (fun c cs h3 _=>by simp[h3]) ⟨es',by simp[hb,h1],h2⟩
  ·intro k st hk hst hF
   have hk':k<(Yz s.aH.length).length:=by simpa using hk
   have hp:=KR (by omega) (List.getElem_mem hk')
   have dG:(Yz s.aH.length).take (k+1)=(Yz s.aH.length).take k++[(Yz s.aH.length)[k]]:=cV hk'
   have hfl:=KS s l ((Yz s.aH.length).take k)
   have Zr:=VY s l ((Yz s.aH.length).take k) (Yz s.aH.length)[k]
   rw[←dG] at Zr
   rw[show((Yz s.aH.length).map mA).getD k []=mA (Yz s.aH.length)[k] by simp[hk']]
   generalize (Yz s.aH.length)[k]=p at*
   obtain⟨o,u⟩:=p
   obtain⟨x3,x4,x5⟩:=hF.e
   obtain⟨dY,c_,dc⟩:=hF.em
   refine KT (fun s2=>s2.env 6=NL o∧s2.env 7=I u∧FS s s0 b B l (fC s l ((Yz s.aH.length).take k)) s2) ?_ ?_
   ·intro k1 aF
    simp -implicitDefEqProofs
    exact aF _ ⟨by simp,by simp,hF.ext ⟨by simp,by simp,by simp⟩ (fun _ _ _ hg=>by simp[hg]) (fun c cs h3 _=>by simp[h3]) ⟨dY,by simp[c_],dc⟩⟩
   clear x3 x4 x5 c_ dc hF
   rintro s2 ⟨e6,e7,hF⟩
   rw[zU]
   refine au (fun s2=>s2.env 6=NL o∧s2.env 8=YY s u∧FS s s0 b B l (fC s l ((Yz s.aH.length).take k)) s2) ?_ ?_
   ·intro k1 aF
    obtain⟨x3,x4,x5⟩:=hF.e
    obtain⟨dY,c_,dc⟩:=hF.em
    simp -implicitDefEqProofs [x5,e7]
    refine wZ h (n:=u) (by omega) (es:=dY) (by simp[c_]) dc fun s3 CI h3 w7 w8=> ?_
    have hb:1000000≤1000001+b:=by omega
    simp -implicitDefEqProofs
    refine aF _ ⟨by simp[e6],by simp,hF.ext ⟨by simp[x3],by simp[x4],by simp[x5]⟩ (fun _ _ _ hg=> ?_) (fun c cs h4 h5=> ?_) ⟨CI,by simp[hb,w7],w8⟩⟩
    ·simp
     exact h3.g _ _ _ (by simp[hg])
    ·simp
     exact h3.l _ _ (by simp[h4]) h5
   rintro s2 ⟨e6,e8,hF⟩
   have pH:(fA s (bE u)).length=s.a_.length:=rO s (bE u) s.a_.length
   refine au (fun s2=>uw s l u=true∧s2.env 6=NL o∧FS s s0 b B l (fC s l ((Yz s.aH.length).take k)) s2) ?_ ?_
   ·intro k1 aF
    obtain⟨x3,x4,x5⟩:=hF.e
    obtain⟨dY,c_,dc⟩:=hF.em
    simp -implicitDefEqProofs [x3]
    refine bw l.length (fun i s2=>s2.env 6=NL o∧s2.env 8=YY s u∧FS s s0 b B l (fC s l ((Yz s.aH.length).take k)) s2∧s2.env 21=EL l∧s2.env 22=I l.length∧s2.env 23=I i∧∀x∈l.take i,nD x (jR s u x)=true) ?_ ?_
    ·exact⟨by simp[e6],by simp[e8],hF.ext ⟨by simp,by simp,by simp⟩ (fun _ _ _ hg=>by simp[hg]) (fun c cs h3 _=>by simp[h3]) ⟨dY,by simp[c_],dc⟩,by simp,by simp,by simp,by simp⟩
    clear x3 x4 x5 c_ dc hF e6 e8
    rintro i s2 hi ⟨e6,e8,hF,cR,jm,cz,hyes⟩
    obtain⟨x3,x4,x5⟩:=hF.e
    obtain⟨dY,c_,dc⟩:=hF.em
    simp -implicitDefEqProofs [jm,cz]
    refine bu (fun hlt=> ?_) (fun hge=> ?_)
    ·have hlt:i<l.length:=by omega
     have rT:=hc.ay i hlt
     have cm:=cV hlt
     have hmem:=List.getElem_mem hlt
     have fo:jR s u l[i]=(fA s (bE u)).getD l[i].ay.toNat (0,0):=rfl
     generalize hx:l[i]=x at*
     obtain⟨j,hj⟩:∃j:Nat,x.ay=j:=⟨x.ay.toNat,by omega⟩
     have hjl:j<(fA s (bE u)).length:=by omega
     have jH:(fA s (bE u))[j]=jR s u x:=by rw[fo,hj];simp[hjl]
     have iF:=KD x (jR s u x)
     unfold Z6 at iF
     rw[hj] at iF
     generalize qP:jR s u x=r at*
     simp -implicitDefEqProofs [cR,cz,hlt,hx]
     intro V1 V2
     have KU:∀{s':St},(s'.env 3=.ref [EL l]∧s'.env 4=.Yq B 0∧s'.env 5=.ref [.func (.func 43) [cA s b] []])→s'.env 1000000=s2.env 1000000→(∀c,s2.loc c≠none→s'.loc c=s2.loc c)→s'.env (1000001+b)=s2.env (1000001+b)→FS s s0 b B l (fC s l ((Yz s.aH.length).take k)) s':=fun ha hg hlc hm=>hF.ext ⟨ha.1.trans x3.symm,ha.2.1.trans x4.symm,ha.2.2.trans x5.symm⟩ (fun _ _ _ h=>hg.trans h) (fun c cs h3 _=>by rw[hlc c (by rw[h3];simp)];exact h3) ⟨dY,hm.trans c_,dc⟩
     have hkeep:∀c,s2.loc c≠none→¬c=V1:=fun c hc=>by rintro rfl;exact hc V2
     simp -implicitDefEqProofs [e8,hj,hjl,jH]
     refine aj iF ?_
     cases hr:nD x r with
     |false=>
      have hno:¬uw s l u=true:=fun h=>by
       have:=List.all_eq_true.1 h x hmem
       rw[qP,hr] at this;cases this
      rw[if_neg hno] at Zr
      simp -implicitDefEqProofs
      rw[Zr]
      have hb:1000000≤1000001+b:=by omega
      exact KU ⟨by simp[o3],by simp[o4],by simp[o5]⟩ (by simp) (fun c hc=>by simp[hkeep c hc]) (by simp[hb])
     |true=>
      simp -implicitDefEqProofs [cz]
      refine⟨i64 (by omega) (by omega),aN hlt ⟨by simp[e6],by simp[e8],KU ⟨by simp[x3],by simp[x4],by simp[x5]⟩ (by simp) (fun c hc=>by simp[hkeep c hc]) (by simp),by simp[cR],by simp[jm],by simp,fun y hy=> ?_⟩⟩
      rw[cm,List.mem_append,List.mem_singleton] at hy
      rcases hy with hy|rfl
      ·exact hyes y hy
      ·rw[qP];exact hr
    ·obtain rfl:i=l.length:=by omega
     rw[List.take_length] at hyes
     simp -implicitDefEqProofs
     exact aF _ ⟨List.all_eq_true.2 hyes,by simp[e6],hF.ext ⟨by simp,by simp,by simp⟩ (fun _ _ _ hg=>by simp[hg]) (fun c cs h3 _=>by simp[h3]) ⟨dY,by simp[c_],dc⟩⟩
   clear e6 e8 hF
   rintro s2 ⟨hfit,e6,hF⟩
   rw[if_pos hfit] at Zr
   have eC:o.length≤6:=hp.2
   obtain⟨x3,x4,x5⟩:=hF.e
   obtain⟨dY,c_,dc⟩:=hF.em
   refine au (fun s3=>∃D,s2.loc D=none∧s3.env 11=.aP D 0 o.length o.length 1∧(∀c,s3.loc c=if c=D then some (List.replicate o.length (I 0)) else s2.loc c)∧(∀j,j∉[11,36,37,38]→s3.env j=s2.env j)) ?_ ?_
   ·intro k1 aF
    simp -implicitDefEqProofs [e6]
    refine⟨by omega,by omega,fun D hD=>aF _ ⟨D,hD,by simp,fun c=>by simp,fun j hj=> ?_⟩⟩
    simp only[List.mem_cons,List.not_mem_nil,or_false,not_or] at hj
    simp[hj]
   rintro s3 ⟨D,hD,aV,jw,fk⟩
   have n6:=fk 6 (by simp)
   rw[e6] at n6
   have lD:s3.loc D=some (List.replicate o.length (I 0)):=by rw[jw,if_pos rfl]
   have hsp:splice (List.replicate o.length (I 0)) 0 (o.map fun x:Nat=>I (x:Int))=o.map fun x:Nat=>I (x:Int):=by rw[sg _ _ _ (by simp)];simp
   have hone:∀x∈o.map (fun x:Nat=>I (x:Int)),∃m,x=I m:=fun x hx=>by rw[List.mem_map] at hx;obtain⟨m,_,rfl⟩:=hx;exact⟨m,rfl⟩
   have j8:chunk 1 (o.map fun x:Nat=>I (x:Int)) o.length=o.map fun x:Nat=>I (x:Int):=by
    rw[tK _ _ (by simp) hone]
    exact List.take_of_length_le (by simp)
   have V3:((o.map fun x:Nat=>I (x:Int)).flatMap AV.cells).map AV.erase0=o.map fun x:Nat=>I (x:Int):=by
    have key:∀l:List Nat,((l.map fun x:Nat=>I (x:Int)).flatMap AV.cells).map AV.erase0=l.map fun x:Nat=>I (x:Int):=fun l=>by
     induction l with
     |nil=>rfl
     |cons a l ih=>simp only[List.map_cons,List.flatMap_cons,List.map_append,ih];rfl
    exact key o
   have dG:(o.map fun x:Nat=>I (x:Int)).take o.length=o.map fun x:Nat=>I (x:Int):=List.take_of_length_le (by simp)
   refine au (fun s4=>s4.env 11=NL o∧FS s s0 b B l (fC s l ((Yz s.aH.length).take k)) s4) ?_ ?_
   ·intro k1 aF
    simp -implicitDefEqProofs [aV,n6,lD,dG,V3,hsp,j8]
    refine⟨by omega,aF _ ⟨by simp[aq],hF.ext ⟨by simp[aq,fk 3 (by simp)],by simp[aq,fk 4 (by simp)],by simp[aq,fk 5 (by simp)]⟩ (fun _ _ _ hg=> ?_) (fun c cs h3 _=> ?_) ⟨dY,?_,dc⟩⟩⟩
    ·simp[aq,fk 1000000 (by simp),hg]
    ·have hc:¬c=D:=by rintro rfl;rw[hD] at h3;cases h3
     simp[aq,hc,jw,h3]
    ·have:=fk (1000001+b) (by simp)
     simp[aq,this,c_]
   clear x3 x4 x5 c_ dc hF e6 aV n6 lD fk jw
   rintro s4 ⟨aV,hF⟩
   obtain⟨x3,x4,x5⟩:=hF.e
   obtain⟨dY,c_,dc⟩:=hF.em
   obtain⟨v,lB,hacc,aT,V4⟩:=hF.acc
   simp -implicitDefEqProofs [-kf,-lY,x4,lB,aV,hacc.aK]
   have hle:(fC s l ((Yz s.aH.length).take k)).length≤1000:=by
    have:=List.length_take_le k (Yz s.aH.length)
    omega
   refine aaU (l:=(fC s l ((Yz s.aH.length).take k)).map NL) (hacc.nC fun c cs h3 h4=>by simp[h3,fW h4]) (fun c hc=>hF.old.new (by simpa using hc)) (by simpa using hle) (VZ o) (by exact⟨rfl,rfl,rfl⟩) (by decide) fun b5 cs n5 xg hnb mB fS=> ?_
   have rU:¬B=b5:=by
    rcases fS with h3|⟨_,_,_,_,h3⟩
    ·rintro rfl;simp[lB] at h3
    ·exact fun e=>V4 _ _ _ _ _ h3 e.symm
   have xk:¬b5=B:=fun e=>rU e.symm
   simp -implicitDefEqProofs [x4,lB,rU,hacc.aK]
   have hb:1000000≤1000001+b:=by omega
   rw[Zr]
   refine⟨⟨by simp[o3],by simp[o4],by simp[o5]⟩,hF.nb,⟨.aP b5 0 n5 xg 1,by simp,?_,rfl,fun _ _ _ _ _ e=>by injection e with e;rw[←e];exact xk⟩,?_,dY,by simp[hb,c_],dc⟩
   ·rw[List.map_append]
    rcases mB with ⟨hn,_⟩|⟨b6,V5,V6,k1,k2,k3,k4,k5⟩
    ·simp at hn
    ·injection k2 with k2 _ V7 V8
     subst k2
     refine .inr ⟨b5,V5,V6,by simp,?_,?_,k4,k5⟩
     ·rw[V7,V8];rfl
     ·simpa[xk] using k3
   ·exact⟨fun c cs' h3 h4=>by
     have c5:¬c=b5:=by rintro rfl;exact hnb cs' h3 h4
     have cB:¬c=B:=by rintro rfl;exact hF.nb cs' h3 h4
     simp[c5,cB,hF.old.l c cs' h3 h4,fW h4],fun l es q hg=>by simp[hF.old.g l es q hg,ZP]⟩
  ·intro st hst hF
   rw[List.length_map,List.take_length] at hF
   exact aX _ hF
 intro st hF
 obtain⟨x3,x4,x5⟩:=hF.e
 obtain⟨v,h1,h2,h3,h4⟩:=hF.acc
 have hlen:(fC s l (Yz s.aH.length)).length≤1000:=by
  have:=KS s l (Yz s.aH.length)
  omega
 generalize fC s l (Yz s.aH.length)=L at*
 rcases h2 with ⟨hn,rfl⟩|⟨b5,cap,cs,hne,rfl,h5,h6,h7⟩
 ·obtain rfl:L=[]:=by simpa using hn
  simp -implicitDefEqProofs [x4,h1]
  refine .inl ⟨1,0,rfl,?_⟩
  simp -implicitDefEqProofs [dj,AK,x4]
  refine hK _ ?_
  exact wY hF.old hF.nb (fun l es q hg=>by simp[hg,ZP]) fun c cs hc h1 h2=>by simp[hc,h1,h2]
 ·have rU:b5≠B:=h4 _ _ _ _ _ rfl
  have xk:¬B=b5:=fun e=>rU e.symm
  have hle:=h6.le
  have cu:=h6.len
  simp -implicitDefEqProofs [x4,h1]
  refine vH 0 b5 (L.map NL).length cap 1 (by simp) rU (by simp[rU];exact h5) (by omega) h6.c1 (by simp;omega) ?_
  rw[h6.chunk]
  simp -implicitDefEqProofs [dj,AK,x4,aq,xk]
  refine hK _ ⟨fun c cs' k1 k2=> ?_,fun l' es q' hg=> ?_⟩
  ·have cB:¬c=B:=by rintro rfl;exact hF.nb cs' k1 k2
   have c5:¬c=b5:=by rintro rfl;exact h7 cs' k1 k2
   simp[aq,cB,c5,hF.old.l c cs' k1 k2]
  ·simp[hF.old.g l' es q' hg]
end Go.Proofs.YtpeikknjbnnnnaaGreat.A
namespace Go.Proofs.YtpeikknjbnnnnaaGreat.A
open Go.az O
def jn(s:aB)(l:List Entry):List (List Nat):=fC s l (Yz s.aH.length)
abbrev iL(L:List (List Nat)):AV:=.slice 1 (L.map NL) 0
theorem CJ{s:aB}(h:Valid s){l:List Entry}(hc:mC s l)(hl:l.length≤1000)(hrl:(Yz s.aH.length).length≤1000):aA Tryz.prog 35 [bQ s,EL l] (if (jn s l).length=0 then .tuple [iL [],I 8] else .tuple [iL (jn s l),I 0]):=by
 refine pc t35 (by simp) fun _=> ?_
 simp -implicitDefEqProofs [GA]
 refine KP h hc hl fun s2 b h2 hm=> ?_
 have hb:1000000≤1000001+b:=by omega
 simp -implicitDefEqProofs
 refine V0 h hc hl hrl (es:=[]) (by simp[hb,hm]) (rQ s) fun s3 h3=> ?_
 have hF:fC s l (Yz s.aH.length)=jn s l:=rfl
 rw[hF]
 generalize jn s l=L
 cases L with
 |nil=>simp -implicitDefEqProofs [AH]
 |cons o L=>
  have eE:(((o::L).length:Int)==0)=false:=by rw[beq_eq_false_iff_ne,List.length_cons];omega
  generalize hL:o::L=L' at*
  have h0:¬L'=[]:=by rw[←hL];simp
  simp -implicitDefEqProofs [eE,h0,AH]
def fO(L:List (List Nat))(b:Nat):Nat:=(L.filter fun o=>decide (b∈o)).length
theorem V9(L:List (List Nat))(o:List Nat)(b:Nat):fO (L++[o]) b=if b∈o then fO L b+1 else fO L b:=by
 unfold fO
 rw[List.filter_append]
 by_cases h:b∈o<;>simp[h]
theorem V_(L:List (List Nat))(b:Nat):fO L b≤L.length:=List.length_filter_le _ _
def jo(L:List (List Nat))(n:Nat):List Nat:=(List.range n).filter fun b=>decide (fO L b=L.length)
def jq(L:List (List Nat))(n:Nat):List Nat:=(List.range n).filter fun b=>decide (0<fO L b)
theorem KV(q:Nat→Bool)(k:Nat):(List.range (k+1)).filter q=if q k then (List.range k).filter q++[k] else (List.range k).filter q:=Kz q k
theorem Wa(o:List Nat)(b:Nat):aA Tryz.prog 51 [NL o,I b] (O.B (decide (b∈o))):=by
 have:=tw (o.map fun x:Nat=>(x:Int)) (b:Int)
 rw[w4] at this
 rwa [show decide ((b:Int)∈o.map fun x:Nat=>(x:Int))=decide (b∈o) from ?_] at this
 rw[decide_eq_decide]
 simp only[List.mem_map]
 refine⟨?_,fun h=>⟨b,h,rfl⟩⟩
 rintro⟨x,hx,e⟩
 have e:x=b:=by omega
 rw[←e];exact hx
theorem Wb{s:aB}(h:Valid s){l:List Entry}(hc:mC s l)(hl:l.length≤1000)(hrl:(Yz s.aH.length).length≤1000)(hne:(jn s l).length≠0)(hF:(jn s l).length≤1000):aA Tryz.prog 37 [bQ s,EL l] (.tuple [NL (jo (jn s l) s.aH.length),NL (jq (jn s l) s.aH.length),I 0]):=by
 refine pc t37 (by simp) fun _=> ?_
 have c1:=CJ h hc hl hrl
 rw[if_neg hne] at c1
 have eD:=h.aH.1
 generalize jn s l=L at*
 simp -implicitDefEqProofs only[GD]
 refine au (fun st=>st.env 1=EL l∧st.env 2=bG s∧st.env 4=.slice 1 [] 5∧st.env 5=.slice 1 [] 6) ?_ ?_
 ·intro k hk
  simp -implicitDefEqProofs
  exact hk _ ⟨by simp,by simp,by simp,by simp⟩
 rintro st ⟨e1,e2,e4,e5⟩
 refine au (fun st=>st.env 2=bG s∧st.env 4=.slice 1 [] 5∧st.env 5=.slice 1 [] 6∧st.env 6=I 0∧st.env 7=iL L) ?_ ?_
 ·intro k hk
  simp -implicitDefEqProofs [e1,e2]
  refine aj c1 ?_
  simp -implicitDefEqProofs
  exact hk _ ⟨by simp[e2],by simp[e4],by simp[e5],by simp,by simp⟩
 rintro st ⟨e2,e4,e5,e6,e7⟩
 refine au (fun st=>st.env 2=bG s∧st.env 4=.slice 1 [] 5∧st.env 5=.slice 1 [] 6∧st.env 7=iL L) ?_ ?_
 ·intro k hk
  simp -implicitDefEqProofs [e6]
  exact hk _ ⟨by simp[e2],by simp[e4],by simp[e5],by simp[e7]⟩
 rintro st ⟨e2,e4,e5,e7⟩
 refine au (fun st=>st.env 4=.slice 1 ((jo L s.aH.length).map fun x:Nat=>I (x:Int)) 5∧st.env 5=.slice 1 ((jq L s.aH.length).map fun x:Nat=>I (x:Int)) 6) ?_ ?_
 ·intro k0 aX
  simp -implicitDefEqProofs [e2]
  refine bw s.aH.length (fun k st=>st.env 4=.slice 1 ((jo L k).map fun x:Nat=>I (x:Int)) 5∧st.env 5=.slice 1 ((jq L k).map fun x:Nat=>I (x:Int)) 6∧st.env 7=iL L∧st.env 23=I s.aH.length∧st.env 24=I k) ?_ ?_
  ·exact⟨by simp[e4,jo],by simp[e5,jq],by simp[e7],by simp,by simp⟩
  rintro k st hk ⟨e4,e5,e7,cz,YK⟩
  simp -implicitDefEqProofs [cz,YK]
  refine bu (fun hlt=> ?_) (fun hge=> ?_)
  case refine_2=>
   obtain rfl:k=s.aH.length:=by omega
   simp -implicitDefEqProofs
   exact aX _ ⟨by simp[e4],by simp[e5]⟩
  have hlt:k<s.aH.length:=by omega
  have xl:jo L (k+1)=if decide (fO L k=L.length) then jo L k++[k] else jo L k:=KV _ k
  have xm:jq L (k+1)=if decide (0<fO L k) then jq L k++[k] else jq L k:=KV _ k
  have fG:(jo L k).length≤k:=w9 _ k
  have mP:(jq L k).length≤k:=w9 _ k
  refine kj ?_
  refine au (fun st=>st.env 4=.slice 1 ((jo L k).map fun x:Nat=>I (x:Int)) 5∧st.env 5=.slice 1 ((jq L k).map fun x:Nat=>I (x:Int)) 6∧st.env 7=iL L∧st.env 8=I k∧st.env 23=I s.aH.length∧st.env 24=I k) ?_ ?_
  ·intro k1 aF
   simp -implicitDefEqProofs [YK]
   exact aF _ ⟨by simp[e4],by simp[e5],by simp[e7],by simp,by simp[cz],by simp[YK]⟩
  rintro st ⟨e4,e5,e7,e8,cz,YK⟩
  refine au (fun st=>st.env 4=.slice 1 ((jo L k).map fun x:Nat=>I (x:Int)) 5∧st.env 5=.slice 1 ((jq L k).map fun x:Nat=>I (x:Int)) 6∧st.env 7=iL L∧st.env 8=I k∧st.env 9=I 0∧st.env 23=I s.aH.length∧st.env 24=I k) ?_ ?_
  ·intro k1 aF
   simp -implicitDefEqProofs
   exact aF _ ⟨by simp[e4],by simp[e5],by simp[e7],by simp[e8],by simp,by simp[cz],by simp[YK]⟩
  rintro st ⟨e4,e5,e7,e8,e9,cz,YK⟩
  refine au (fun st=>st.env 4=.slice 1 ((jo L k).map fun x:Nat=>I (x:Int)) 5∧st.env 5=.slice 1 ((jq L k).map fun x:Nat=>I (x:Int)) 6∧st.env 7=iL L∧st.env 8=I k∧st.env 9=I (fO L k:Nat)∧st.env 23=I s.aH.length∧st.env 24=I k) ?_ ?_
  ·intro k1 aF
   simp -implicitDefEqProofs [e7]
   refine bw L.length (fun i st=>st.env 4=.slice 1 ((jo L k).map fun x:Nat=>I (x:Int)) 5∧st.env 5=.slice 1 ((jq L k).map fun x:Nat=>I (x:Int)) 6∧st.env 7=iL L∧st.env 8=I k∧st.env 9=I (fO (L.take i) k:Nat)∧st.env 23=I s.aH.length∧st.env 24=I k∧st.env 27=iL L∧st.env 28=I L.length∧st.env 29=I i) ?_ ?_
   ·exact⟨by simp[e4],by simp[e5],by simp[e7],by simp[e8],by simp[e9,fO],by simp[cz],by simp[YK],by simp,by simp,by simp⟩
   rintro i st hi ⟨e4,e5,e7,e8,e9,cz,YK,k8,dg,dM⟩
   simp -implicitDefEqProofs [dg,dM]
   refine bu (fun kz=> ?_) (fun Yd=> ?_)
   ·have kz:i<L.length:=by omega
    have cm:=V9 (L.take i) L[i] k
    rw[←cV kz] at cm
    have hle:=V_ (L.take i) k
    have KM:=List.length_take_le i L
    have iF:=Wa L[i] k
    generalize hz:L[i]=z at*
    generalize fO (L.take i) k=m at*
    simp -implicitDefEqProofs [e8,k8,dM,kz,hz]
    refine aj iF ?_
    by_cases hin:k∈z
    ·rw[if_pos hin] at cm
     simp -implicitDefEqProofs [hin,e9,dM]
     exact⟨i64 (by omega) (by omega),i64 (by omega) (by omega),aN kz ⟨by simp[e4],by simp[e5],by simp[e7],by simp[e8],by simp[cm],by simp[cz],by simp[YK],by simp[k8],by simp[dg],by simp⟩⟩
    ·rw[if_neg hin] at cm
     simp -implicitDefEqProofs [hin,dM]
     exact⟨i64 (by omega) (by omega),aN kz ⟨by simp[e4],by simp[e5],by simp[e7],by simp[e8],by simp[cm,e9],by simp[cz],by simp[YK],by simp[k8],by simp[dg],by simp⟩⟩
   ·obtain rfl:i=L.length:=by omega
    rw[List.take_length] at e9
    simp -implicitDefEqProofs
    exact aF _ ⟨by simp[e4],by simp[e5],by simp[e7],by simp[e8],by simp[e9],by simp[cz],by simp[YK]⟩
  rintro st ⟨e4,e5,e7,e8,e9,cz,YK⟩
  refine au (fun st=>st.env 4=.slice 1 ((jo L (k+1)).map fun x:Nat=>I (x:Int)) 5∧st.env 5=.slice 1 ((jq L k).map fun x:Nat=>I (x:Int)) 6∧st.env 7=iL L∧st.env 8=I k∧st.env 9=I (fO L k:Nat)∧st.env 23=I s.aH.length∧st.env 24=I k) ?_ ?_
  ·intro k1 aF
   by_cases hc:fO L k=L.length
   ·rw[if_pos (by simp[hc])] at xl
    have cj:((fO L k:Int)==(L.length:Int))=true:=by rw[beq_iff_eq];omega
    simp -implicitDefEqProofs [e4,e7,e8,e9,cj]
    exact⟨by omega,by omega,aF _ ⟨by simp[xl],by simp[e5],by simp[e7],by simp[e8],by simp[e9],by simp[cz],by simp[YK]⟩⟩
   ·rw[if_neg (by simp[hc])] at xl
    have cj:((fO L k:Int)==(L.length:Int))=false:=by rw[beq_eq_false_iff_ne];omega
    simp -implicitDefEqProofs [e7,e9,cj]
    exact aF _ ⟨by simp[xl,e4],by simp[e5],by simp[e7],by simp[e8],by simp[e9],by simp[cz],by simp[YK]⟩
  rintro st ⟨e4,e5,e7,e8,e9,cz,YK⟩
  by_cases hc:0<fO L k
  ·rw[if_pos (by simp[hc])] at xm
   have cj:(0:Int)<fO L k:=by omega
   simp -implicitDefEqProofs [e5,e8,e9,hc,YK]
   exact⟨by omega,by omega,i64 (by omega) (by omega),aN hlt ⟨by simp[e4],by simp[xm],by simp[e7],by simp[cz],by simp⟩⟩
  ·rw[if_neg (by simp[hc])] at xm
   have cj:¬(0:Int)<fO L k:=by omega
   simp -implicitDefEqProofs [e9,hc,YK]
   exact⟨i64 (by omega) (by omega),aN hlt ⟨by simp[e4],by simp[xm,e5],by simp[e7],by simp[cz],by simp⟩⟩
 rintro st ⟨e4,e5⟩
 simp -implicitDefEqProofs [e4,e5,GF]
end Go.Proofs.YtpeikknjbnnnnaaGreat.A
namespace Go.Proofs.YtpeikknjbnnnnaaGreat.A
open Go.az O
theorem Wc{n:Nat}(hn:n<256):aA Tryz.prog 71 [I n] (IL (bq n)):=by
 refine pc t71 (by simp) fun hfit=> ?_
 have c:=HY n hn
 have hl:=HX hn
 have hw:=Bc (a:=n) (by omega)
 have hres:bq n=dL (fun i=>n.testBit i) (iw n):=by
  unfold bq
  have:=Bd hl.2 (8 - iw n)
  rwa [show iw n+(8 - iw n)=8 by omega] at this
 rw[hres]
 generalize iw n=L at*
 simp -implicitDefEqProofs [G5,hw]
 refine aj c ?_
 simp -implicitDefEqProofs
 refine bw L (fun k s=>s.env 0=I n∧s.env 2=.slice 1 ((dL (fun i=>n.testBit i) k).map I) 3∧s.env 6=I L∧s.env 7=I k) ?_ ?_
 ·simp[abr]
 rintro k s hk ⟨e0,e2,e6,e7⟩
 simp -implicitDefEqProofs [e6,e7]
 refine bu (fun hlt=> ?_) (fun hge=> ?_)
 ·have hlt:k<L:=by omega
  have pH:=aaw (fun i=>n.testBit i) k
  have hb:(d_ .and .i64 (Int.fdiv (n:Int) (2^(min k (IntKind.bits .i64)))) 1==1)=n.testBit k:=by
   rcases vY (i:=k) hn with h|h
   ·exact h
   ·omega
  simp -implicitDefEqProofs [e0,e7]
  rw[hb]
  refine e_ (fun he=> ?_) (fun he=> ?_)
  ·simp -implicitDefEqProofs [e2,e7]
   refine⟨by omega,by omega,i64 (by omega) (by omega),aN hlt ⟨by simp[e0],by simp[HJ (q:=fun i=>n.testBit i) he],by simp[e6],by simp⟩⟩
  ·simp -implicitDefEqProofs [e7]
   refine⟨i64 (by omega) (by omega),aN hlt ⟨by simp[e0],by simp[e2,abe (q:=fun i=>n.testBit i) he],by simp[e6],by simp⟩⟩
 ·obtain rfl:k=L:=by omega
  simp -implicitDefEqProofs [e2,G6]
theorem KW(a b:List (Int×Int)):aA Tryz.prog 39 [.slice 2 (a.map bK) 0,.slice 2 (b.map bK) 0] (O.B (decide (a=b))):=by
 refine pc t39 (by simp) fun hfit=> ?_
 have ha:=cP (hfit 0)
 simp only[List.length_map] at ha
 obtain⟨R,hR⟩:∃R,R=decide (a=b):=⟨_,rfl⟩
 rw[←hR]
 by_cases hl:a.length=b.length
 case neg=>
  have hl':((a.length:Int) != (b.length:Int))=true:=by simp;omega
  have hR:R=false:=by rw[hR];exact decide_eq_false fun e=>hl (by rw[e])
  simp -implicitDefEqProofs [AI,hl',vQ,hR]
 have hl':((a.length:Int) != (b.length:Int))=false:=by simp[hl]
 simp -implicitDefEqProofs [AI,hl']
 refine bw a.length (fun k st=>st.env 0=.slice 2 (a.map bK) 0∧st.env 1=.slice 2 (b.map bK) 0∧st.env 5=I k∧a.take k=b.take k) ?_ ?_
 ·simp
 rintro k s hk ⟨e0,e1,e5,dG⟩
 simp -implicitDefEqProofs [e0,e5]
 refine bu (fun hlt=> ?_) (fun hge=> ?_)
 ·have hlt:k<a.length:=by omega
  have YH:k<b.length:=by omega
  have cm:a[k]=b[k]→a.take (k+1)=b.take (k+1):=fun e=>by rw[cV hlt,cV YH,dG,e]
  have hne:a[k]≠b[k]→a≠b:=fun h e=>h (by subst e;rfl)
  generalize hp:a[k]=p at*
  generalize hq:b[k]=q at*
  simp -implicitDefEqProofs [e0,e1,e5,hlt,YH,hp,hq]
  refine e_ (fun hb=> ?_) (fun hb=> ?_)
  ·have hpq:p≠q:=by rintro rfl;simp at hb
   have hR:R=false:=by rw[hR];exact decide_eq_false (hne hpq)
   simp -implicitDefEqProofs [vQ,hR]
  ·have hpq:p=q:=by
    cases p;cases q
    simp at hb
    simp[hb]
   simp -implicitDefEqProofs [e5]
   exact⟨i64 (by omega) (by omega),aN hlt ⟨by simp[e0],by simp[e1],by simp,cm hpq⟩⟩
 ·obtain rfl:k=a.length:=by omega
  rw[List.take_length,hl,List.take_length] at dG
  have hR:R=true:=by rw[hR];exact decide_eq_true dG
  simp -implicitDefEqProofs [vQ,hR]
theorem Wd(a b:List Nat):aA Tryz.prog 30 [NL a,NL b] (O.B (decide (a=b))):=by
 have:=ni (a.map fun x:Nat=>(x:Int)) (b.map fun x:Nat=>(x:Int))
 rw[w4,w4] at this
 rwa [show decide ((a.map fun x:Nat=>(x:Int))=b.map fun x:Nat=>(x:Int))=decide (a=b) from ?_] at this
 rw[decide_eq_decide]
 exact⟨fun h=>(List.map_inj_right (fun x y e=>by omega)).1 h,fun h=>by rw[h]⟩
theorem We(a b:List (List Nat)):aA Tryz.prog 41 [iL a,iL b] (O.B (decide (a=b))):=by
 refine pc t41 (by simp) fun hfit=> ?_
 have ha:=cP (hfit 0)
 simp only[List.length_map] at ha
 obtain⟨R,hR⟩:∃R,R=decide (a=b):=⟨_,rfl⟩
 rw[←hR]
 by_cases hl:a.length=b.length
 case neg=>
  have hl':((a.length:Int) != (b.length:Int))=true:=by simp;omega
  have hR:R=false:=by rw[hR];exact decide_eq_false fun e=>hl (by rw[e])
  simp -implicitDefEqProofs [AJ,hl',vR,hR]
 have hl':((a.length:Int) != (b.length:Int))=false:=by simp[hl]
 simp -implicitDefEqProofs [AJ,hl']
 refine bw a.length (fun k st=>st.env 0=iL a∧st.env 1=iL b∧st.env 5=I k∧a.take k=b.take k) ?_ ?_
 ·simp
 rintro k s hk ⟨e0,e1,e5,dG⟩
 simp -implicitDefEqProofs [e0,e5]
 refine bu (fun hlt=> ?_) (fun hge=> ?_)
 ·have hlt:k<a.length:=by omega
  have YH:k<b.length:=by omega
  have cm:a[k]=b[k]→a.take (k+1)=b.take (k+1):=fun e=>by rw[cV hlt,cV YH,dG,e]
  have hne:a[k]≠b[k]→a≠b:=fun h e=>h (by subst e;rfl)
  have iF:=Wd a[k] b[k]
  generalize hp:a[k]=p at*
  generalize hq:b[k]=q at*
  simp -implicitDefEqProofs [e0,e1,e5,hlt,YH,hp,hq]
  refine aj iF ?_
  by_cases hpq:p=q
  ·simp -implicitDefEqProofs [hpq,e5]
   exact⟨i64 (by omega) (by omega),aN hlt ⟨by simp[e0],by simp[e1],by simp,cm hpq⟩⟩
  ·have hR:R=false:=by rw[hR];exact decide_eq_false (hne hpq)
   simp -implicitDefEqProofs [hpq,vR,hR]
 ·obtain rfl:k=a.length:=by omega
  rw[List.take_length,hl,List.take_length] at dG
  have hR:R=true:=by rw[hR];exact decide_eq_true dG
  simp -implicitDefEqProofs [vR,hR]
end Go.Proofs.YtpeikknjbnnnnaaGreat.A
namespace Go.Proofs.YtpeikknjbnnnnaaGreat.A
open Go.az O
def gE(s:aB)(l:List Entry)(u:Nat):Nat→Nat
 |0=>0
 |k+1=>if nD (l.getD k ⟨0,false,0,0⟩) (jR s u (l.getD k ⟨0,false,0,0⟩)) then gE s l u k else gE s l u k ||| 2^k
theorem CK(s:aB)(l:List Entry)(u:Nat):∀k,k≤6→gE s l u k<64
 |0,_=>by simp[gE]
 |k+1,h=>by
  have ih:=CK s l u k (by omega)
  unfold gE
  split
  ·exact ih
  ·exact Nat.or_lt_two_pow (n:=6) ih (Nat.pow_lt_pow_right (by omega) (by omega))
def ux(m:List Int):Option (List Int)→Bool
 |none=>true
 |some w=>decide (m.length<w.length)||(decide (m.length=w.length)&&decide (Zc m w<0))
def qg(w:Option (List Int))(m:List Int):Option (List Int):=if ux m w then some m else w
def nE(s:aB)(l:List Entry)(ps:List (List Nat×Nat)):Option (List Int):=ps.foldl (fun w p=>qg w (bq (gE s l p.2 l.length))) none
theorem Wf(s:aB)(l:List Entry)(ps:List (List Nat×Nat))(p:List Nat×Nat):nE s l (ps++[p])=qg (nE s l ps) (bq (gE s l p.2 l.length)):=by simp[nE]
def ZH:Option (List Int)→AV
 |none=>.lit (.slice none 0 0)
 |some w=>IL w
structure WS (s:aB) (b B4 B7:Nat) (l:List Entry) (w:Option (List Int)) (st:St):Prop where
 e:st.env 3=.ref [EL l]∧st.env 4=.Yq B4 0∧st.env 6=.ref [cA s b]∧st.env 7=.Yq B7 0
 l4:st.loc B4=some [ZH w]
 l7:st.loc B7=some [O.B w.isSome]
 em:∃es,st.env (1000001+b)=aS es∧gD s es
theorem Wg(w:Option (List Int)):(ZH w).erase0=ZH w:=by cases w<;>rfl
theorem WS.ext{s:aB}{b B4 B7:Nat}{l:List Entry}{w:Option (List Int)}{st st':St}(h:WS s b B4 B7 l w st)(he:st'.env 3=st.env 3∧st'.env 4=st.env 4∧st'.env 6=st.env 6∧st'.env 7=st.env 7)(hl:∀c cs,st.loc c=some cs→cs.map AV.erase0=cs→st'.loc c=some cs)(hm:∃es,st'.env (1000001+b)=aS es∧gD s es):WS s b B4 B7 l w st':=⟨⟨he.1.trans h.e.1,he.2.1.trans h.e.2.1,he.2.2.1.trans h.e.2.2.1,he.2.2.2.trans h.e.2.2.2⟩,hl _ _ h.l4 (by simp[Wg]),hl _ _ h.l7 (by simp),hm⟩
theorem Wh{s:aB}(h:Valid s){l:List Entry}(hc:mC s l)(hl:l.length≤6){w:List Int}(hw:nE s l (Yz s.aH.length)=some w):aA Tryz.prog 38 [bQ s,EL l] (.tuple [IL w,I 0]):=by
 refine pc t38 (by simp) fun _=> ?_
 have Cz:=h.a_.1
 have eD:=h.aH.1
 have xh:=fun b=>KC s b
 have xj:=fun b=>KB (s:=s) b rfl (by omega)
 simp -implicitDefEqProofs only[GG]
 refine au (fun st=>st.env 2=bG s∧st.env 3=.ref [EL l]∧∃B4,st.env 4=.Yq B4 0∧st.loc B4=some [.lit (.slice none 0 0)]) ?_ ?_
 ·intro k hk
  simp -implicitDefEqProofs
  intro B4
  exact hk _ ⟨by simp,by simp,B4,by simp,by simp⟩
 rintro st ⟨e2,e3,B4,e4,l4⟩
 refine au (fun st=>st.env 3=.ref [EL l]∧st.env 4=.Yq B4 0∧st.loc B4=some [.lit (.slice none 0 0)]∧st.env 5=I 0∧∃b,st.env 6=.ref [cA s b]∧st.env (1000001+b)=aS []) ?_ ?_
 ·intro k hk
  simp -implicitDefEqProofs [e2,e3]
  refine KP h hc (by omega) fun s2 b h2 hm=> ?_
  have hb:1000000≤1000001+b:=by omega
  have pW:=h2.l B4 [.lit (.slice none 0 0)] (by simp[l4]) (by simp)
  simp -implicitDefEqProofs
  intro b6 h6
  have hne:¬B4=b6:=by rintro rfl;rw[pW] at h6;cases h6
  exact hk _ ⟨by simp[e3],by simp[e4],by simp[pW,hne],by simp,b,by simp,by simp[hb,hm]⟩
 rintro st ⟨e3,e4,l4,e5,b,e6,em⟩
 refine au (fun st=>st.env 3=.ref [EL l]∧st.env 4=.Yq B4 0∧st.loc B4=some [.lit (.slice none 0 0)]∧st.env 6=.ref [cA s b]∧st.env (1000001+b)=aS []) ?_ ?_
 ·intro k hk
  simp -implicitDefEqProofs [e5]
  exact hk _ ⟨by simp[e3],by simp[e4],by simp[l4],by simp[e6],by simp[em]⟩
 rintro st ⟨e3,e4,l4,e6,em⟩
 refine au (fun st=>∃B7,B4≠B7∧WS s b B4 B7 l none st) ?_ ?_
 ·intro k hk
  simp -implicitDefEqProofs
  intro b7 h7
  have hne:¬B4=b7:=by rintro rfl;rw[l4] at h7;cases h7
  exact hk _ ⟨b7,hne,⟨by simp[e3],by simp[e4],by simp[e6],by simp⟩,by simp[l4,hne,ZH],by simp,[],by simp[em],rQ s⟩
 rintro sO ⟨B7,hne,hW⟩
 have jI:¬B7=B4:=fun e=>hne e.symm
 obtain⟨o3,o4,o6,o7⟩:=hW.e
 have hb:1000000≤1000001+b:=by omega
 refine au (fun st=>WS s b B4 B7 l (nE s l (Yz s.aH.length)) st) ?_ ?_
 ·intro k0 aX
  simp -implicitDefEqProofs [o6]
  refine aj (xh b) ?_
  simp -implicitDefEqProofs
  refine s_ _ (fun k st=>WS s b B4 B7 l (nE s l ((Yz s.aH.length).take k)) st) (xj b) ?_ ?_ ?_ ?_
  ·intro y hy
   rw[List.mem_map] at hy
   obtain⟨p,_,rfl⟩:=hy
   exact⟨rfl,rfl⟩
  ·obtain⟨es',h1,h2⟩:=hW.em
   exact hW.ext ⟨by simp[o3],by simp[o4],by simp[o6],by simp[o7]⟩ (fun c cs h3 _=>by simp[h3]) ⟨es',by simp[hb,h1],h2⟩
  ·intro k st hk hst hW
   have hk':k<(Yz s.aH.length).length:=by simpa using hk
   have hp:=KR (by omega) (List.getElem_mem hk')
   have dG:(Yz s.aH.length).take (k+1)=(Yz s.aH.length).take k++[(Yz s.aH.length)[k]]:=cV hk'
   have Y1:=Wf s l ((Yz s.aH.length).take k) (Yz s.aH.length)[k]
   rw[←dG] at Y1
   rw[show((Yz s.aH.length).map mA).getD k []=mA (Yz s.aH.length)[k] by simp[hk']]
   generalize (Yz s.aH.length)[k]=p at*
   generalize nE s l ((Yz s.aH.length).take k)=wk at*
   generalize nE s l ((Yz s.aH.length).take (k+1))=nF at*
   obtain⟨o,u⟩:=p
   have hu:u<64:=hp.1
   obtain⟨dY,c_,dc⟩:=hW.em
   refine KT (fun s2=>s2.env 9=I u∧WS s b B4 B7 l wk s2) ?_ ?_
   ·intro k1 aF
    simp -implicitDefEqProofs
    exact aF _ ⟨by simp,hW.ext ⟨by simp,by simp,by simp,by simp⟩ (fun c cs h3 _=>by simp[h3]) ⟨dY,by simp[c_],dc⟩⟩
   clear c_ dc hW
   rintro s2 ⟨e9,hW⟩
   rw[zU]
   refine au (fun s2=>s2.env 10=YY s u∧WS s b B4 B7 l wk s2) ?_ ?_
   ·intro k1 aF
    obtain⟨x3,x4,x6,x7⟩:=hW.e
    obtain⟨dY,c_,dc⟩:=hW.em
    simp -implicitDefEqProofs [x6,e9]
    refine wZ h (n:=u) (by omega) (es:=dY) (by simp[c_]) dc fun s3 CI h3 w7 w8=> ?_
    simp -implicitDefEqProofs
    refine aF _ ⟨by simp,hW.ext ⟨by simp[x3],by simp[x4],by simp[x6],by simp[x7]⟩ (fun c cs h4 h5=> ?_) ⟨CI,by simp[hb,w7],w8⟩⟩
    simp
    exact h3.l _ _ (by simp[h4]) h5
   rintro s2 ⟨bF,hW⟩
   refine au (fun s2=>s2.env 10=YY s u∧s2.env 11=I 0∧WS s b B4 B7 l wk s2) ?_ ?_
   ·intro k1 aF
    obtain⟨dY,c_,dc⟩:=hW.em
    simp -implicitDefEqProofs
    exact aF _ ⟨by simp[bF],by simp,hW.ext ⟨by simp,by simp,by simp,by simp⟩ (fun c cs h3 _=>by simp[h3]) ⟨dY,by simp[c_],dc⟩⟩
   rintro s2 ⟨bF,aV,hW⟩
   have pH:(fA s (bE u)).length=s.a_.length:=rO s (bE u) s.a_.length
   refine au (fun s2=>s2.env 11=I (gE s l u l.length:Nat)∧WS s b B4 B7 l wk s2) ?_ ?_
   ·intro k1 aF
    obtain⟨x3,x4,x6,x7⟩:=hW.e
    obtain⟨dY,c_,dc⟩:=hW.em
    simp -implicitDefEqProofs [x3]
    refine bw l.length (fun i s2=>s2.env 10=YY s u∧s2.env 11=I (gE s l u i:Nat)∧WS s b B4 B7 l wk s2∧s2.env 31=EL l∧s2.env 32=I l.length∧s2.env 33=I i) ?_ ?_
    ·exact⟨by simp[bF],by simp[aV,gE],hW.ext ⟨by simp,by simp,by simp,by simp⟩ (fun c cs h3 _=>by simp[h3]) ⟨dY,by simp[c_],dc⟩,by simp,by simp,by simp⟩
    clear x3 x4 x6 x7 c_ dc hW bF aV
    rintro i s2 hi ⟨bF,aV,hW,i_,gw,eG⟩
    obtain⟨dY,c_,dc⟩:=hW.em
    simp -implicitDefEqProofs [gw,eG]
    refine bu (fun hlt=> ?_) (fun hge=> ?_)
    ·have hlt:i<l.length:=by omega
     have rT:=hc.ay i hlt
     have fo:jR s u l[i]=(fA s (bE u)).getD l[i].ay.toNat (0,0):=rfl
     have um:gE s l u (i+1)=if nD l[i] (jR s u l[i]) then gE s l u i else gE s l u i ||| 2^i:=by
      show(if nD (l.getD i _) (jR s u (l.getD i _)) then _ else _)=_
      rw[show l.getD i ⟨0,false,0,0⟩=l[i] by simp[hlt]]
     have hbd:=CK s l u i (by omega)
     have fS:=CB i (by omega) _ hbd
     generalize gE s l u i=bd at*
     generalize hx:l[i]=x at*
     obtain⟨j,hj⟩:∃j:Nat,x.ay=j:=⟨x.ay.toNat,by omega⟩
     have hjl:j<(fA s (bE u)).length:=by omega
     have jH:(fA s (bE u))[j]=jR s u x:=by rw[fo,hj];simp[hjl]
     have iF:=KD x (jR s u x)
     unfold Z6 at iF
     rw[hj] at iF
     generalize qP:jR s u x=r at*
     simp -implicitDefEqProofs [i_,eG,hlt,hx]
     intro Wi Wj
     have hkeep:∀c cs,s2.loc c=some cs→¬c=Wi:=fun c cs hc=>by rintro rfl;rw[Wj] at hc;cases hc
     simp -implicitDefEqProofs [bF,hj,hjl,jH]
     refine aj iF ?_
     cases hr:nD x r with
     |true=>
      rw[hr,if_pos rfl] at um
      simp -implicitDefEqProofs [eG]
      exact⟨i64 (by omega) (by omega),aN hlt ⟨by simp[bF],by simp[aV,um],hW.ext ⟨by simp,by simp,by simp,by simp⟩ (fun c cs h3 _=>by simp[h3,hkeep c cs h3]) ⟨dY,by simp[c_],dc⟩,by simp[i_],by simp[gw],by simp⟩⟩
     |false=>
      rw[hr,if_neg (by simp)] at um
      simp -implicitDefEqProofs [aV,eG,fS]
      exact⟨i64 (by omega) (by omega),aN hlt ⟨by simp[bF],by simp[um],hW.ext ⟨by simp,by simp,by simp,by simp⟩ (fun c cs h3 _=>by simp[h3,hkeep c cs h3]) ⟨dY,by simp[c_],dc⟩,by simp[i_],by simp[gw],by simp⟩⟩
    ·obtain rfl:i=l.length:=by omega
     simp -implicitDefEqProofs
     exact aF _ ⟨by simp[aV],hW.ext ⟨by simp,by simp,by simp,by simp⟩ (fun c cs h3 _=>by simp[h3]) ⟨dY,by simp[c_],dc⟩⟩
   clear bF aV hW
   rintro s2 ⟨aV,hW⟩
   have hbd:=CK s l u l.length hl
   have Wk:=Wc (n:=gE s l u l.length) (by omega)
   refine au (fun s2=>s2.env 14=IL (bq (gE s l u l.length))∧WS s b B4 B7 l wk s2) ?_ ?_
   ·intro k1 aF
    obtain⟨dY,c_,dc⟩:=hW.em
    simp -implicitDefEqProofs [aV]
    refine aj Wk ?_
    simp -implicitDefEqProofs
    exact aF _ ⟨by simp,hW.ext ⟨by simp,by simp,by simp,by simp⟩ (fun c cs h3 _=>by simp[h3]) ⟨dY,by simp[c_],dc⟩⟩
   clear aV hW
   rintro s2 ⟨bf,hW⟩
   replace Y1:nF=qg wk (bq (gE s l u l.length)):=Y1
   generalize bq (gE s l u l.length)=m at*
   obtain⟨x3,x4,x6,x7⟩:=hW.e
   obtain⟨dY,c_,dc⟩:=hW.em
   have jS:=hW.l4
   have kF:=hW.l7
   have done:∀s3:St,s3.loc B4=some [ZH nF]→s3.loc B7=some [O.B nF.isSome]→s3.env (1000001+b)=s2.env (1000001+b)→WS s b B4 B7 l nF (back ((sO.set 24 (cA s b)).set 25 (.func (.func 94) [] [.ref [cA s b]])) s3):=fun s3 h4 h7 hm=>⟨⟨by simp[o3],by simp[o4],by simp[o6],by simp[o7]⟩,by simpa using h4,by simpa using h7,dY,by simp[hb,hm,c_],dc⟩
   cases wk with
   |none=>
    replace Y1:nF=some m:=Y1
    subst Y1
    replace kF:s2.loc B7=some [O.B false]:=kF
    simp -implicitDefEqProofs [x4,x7,jS,kF,bf,jI]
    exact done _ (by simp[hne,ZH]) (by simp) (by simp)
   |some w'=>
    replace kF:s2.loc B7=some [O.B true]:=kF
    replace jS:s2.loc B4=some [IL w']:=jS
    have tT:(some w').isSome=true:=rfl
    by_cases h1:m.length<w'.length
    ·replace Y1:nF=some m:=by rw[Y1];unfold qg ux;rw[if_pos (by simp[h1])]
     subst Y1
     simp -implicitDefEqProofs [x4,x7,jS,kF,bf,h1,jI]
     exact done _ (by simp[ZH,hne]) (by simp) (by simp)
    ·by_cases h2:m.length=w'.length
     case neg=>
      replace Y1:nF=some w':=by rw[Y1];unfold qg ux;rw[if_neg (by simp[h1,h2])]
      subst Y1
      have oD:((m.length:Int)==(w'.length:Int))=false:=by rw[beq_eq_false_iff_ne];omega
      simp -implicitDefEqProofs [x4,x7,jS,kF,bf,h1,oD]
      exact done _ (by simp[jS,ZH]) (by simp[kF]) (by simp)
     have hcmp:=Be m w' h2
     have oD:((m.length:Int)==(w'.length:Int))=true:=by rw[beq_iff_eq];omega
     by_cases h3:Zc m w'<0
     ·replace Y1:nF=some m:=by rw[Y1];unfold qg ux;rw[if_pos (by simp[h2,h3])]
      subst Y1
      simp -implicitDefEqProofs [x4,x7,jS,kF,bf,h1,oD]
      refine aj hcmp ?_
      simp -implicitDefEqProofs [x4,x7,jS,kF,bf,h3,jI]
      exact done _ (by simp[ZH,hne]) (by simp) (by simp)
     ·replace Y1:nF=some w':=by rw[Y1];unfold qg ux;rw[if_neg (by simp[h1,h3])]
      subst Y1
      simp -implicitDefEqProofs [x4,x7,jS,kF,bf,h1,oD]
      refine aj hcmp ?_
      simp -implicitDefEqProofs [h3]
      exact done _ (by simp[jS,ZH]) (by simp[kF]) (by simp)
  ·intro st hst hW
   rw[List.length_map,List.take_length] at hW
   exact aX _ hW
 rintro st hW
 obtain⟨x3,x4,x6,x7⟩:=hW.e
 have jS:=hW.l4
 rw[hw] at jS
 simp -implicitDefEqProofs [x4,jS,ZH,GH]
end Go.Proofs.YtpeikknjbnnnnaaGreat.A
namespace Go.Proofs.YtpeikknjbnnnnaaGreat.A
open Go.az O
def xo:List Entry:=[⟨0,true,60,60⟩,⟨1,true,48,48⟩]
def rV:List Entry:=[⟨0,true,20,50⟩]
def xp:List Entry:=[⟨0,true,45,45⟩,⟨1,true,48,48⟩,⟨2,true,30,30⟩]
def xq:List Entry:=[⟨2,true,30,30⟩]
theorem Wl:mC bn xo:=⟨by decide,by decide,by decide,by decide⟩
theorem Wm:mC bn rV:=⟨by decide,by decide,by decide,by decide⟩
theorem Wn:mC bn xp:=⟨by decide,by decide,by decide,by decide⟩
theorem Wo:mC bn xq:=⟨by decide,by decide,by decide,by decide⟩
theorem CL:(Yz bn.aH.length).length≤1000:=by rw[show bn.aH.length=4 from rfl,VO];decide
theorem Wp:jn bn xo=[[1,3],[0,1,3],[1,2,3]]:=by kernel_rfl
theorem xu:jo (jn bn rV) 4=[0,2]∧jq (jn bn rV) 4=[0,1,2,3]∧(jn bn rV).length=4:=by refine⟨by kernel_rfl,by kernel_rfl,by kernel_rfl⟩
theorem Wq:jn bn xq=[]:=by kernel_rfl
theorem Wr:nE bn xp (Yz bn.aH.length)=some [0,2]:=by kernel_rfl
theorem Ws:aA Tryz.prog 7 [] (O.B true):=by
 refine pc t7 (by simp) fun _=> ?_
 have Wt:=VK
 have Wu:aA Tryz.prog 32 [bQ bn,I 50] (.tuple [I 60,I 0]):=VP jl (p:=50) (by decide)
 have Wv:aA Tryz.prog 8 [bQ bn,.slice 1 [] 0] (.tuple [.slice 2 [bK (0,60),bK (1,73),bK (-1,0)] 0,I 0]):=by
  have:=w6 jl (l:=[]) (CF _ rfl (by decide) (by decide)) (by decide)
  rwa [YY,show gb []=0 from rfl,x0] at this
 have Ww:aA Tryz.prog 8 [bQ bn,IL [0,1,2]] (.tuple [.slice 2 [bK (0,20),bK (1,73),bK (-1,0)] 0,I 0]):=by
  have:=w6 jl KH (by decide)
  rwa [YY,KJ,x7] at this
 have Wx:aA Tryz.prog 33 [bQ bn,IL [1,3],.slice 2 [.agg [I 0,I 14]] 0] (.tuple [IL [0,53,0,0],IL [41],I 12,I 0]):=VR
 have Wy:aA Tryz.prog 33 [bQ bn,IL [1,3],.slice 2 [.agg [I 0,I 15]] 0] (.tuple [IL [],IL [],I 0,I 7]):=VQ
 have Wz:aA Tryz.prog 34 [bQ bn,IL [0,1,2]] (.tuple [IL [14,13,13],I 0]):=VV
 have WA:=qe 0 60 60
 have WB:=qe 1 48 48
 have WC:=qe 2 30 30
 have WD:=qe 0 20 50
 have WE:=qe 0 45 45
 have WG:=qe 1 48 48
 have WH:=qe 2 30 30
 have KX:aA Tryz.prog 35 [bQ bn,EL xo] (.tuple [.slice 1 [IL [1,3],IL [0,1,3],IL [1,2,3]] 0,I 0]):=by
  have:=CJ jl Wl (by decide) CL
  rwa [Wp,if_neg (by decide)] at this
 have KY:aA Tryz.prog 35 [bQ bn,EL xq] (.tuple [.slice 1 [] 0,I 8]):=by
  have:=CJ jl Wo (by decide) CL
  rwa [Wq,if_pos (by decide)] at this
 have KZ:aA Tryz.prog 37 [bQ bn,EL rV] (.tuple [IL [0,2],IL [0,1,2,3],I 0]):=by
  have:=Wb jl Wm (by decide) CL (by rw[xu.2.2];decide) (by rw[xu.2.2];decide)
  rwa [show bn.aH.length=4 from rfl,xu.1,xu.2.1] at this
 have K0:aA Tryz.prog 38 [bQ bn,EL xp] (.tuple [IL [0,2],I 0]):=Wh jl Wn (by decide) Wr
 have r1:=w_ 0 60
 have r2:=w_ 1 73
 have r3:=w_ (-1) 0
 have r4:=w_ 0 20
 have s1:=KW [(0,60),(1,73),(-1,0)] [(0,60),(1,73),(-1,0)]
 have s2:=KW [(0,20),(1,73),(-1,0)] [(0,20),(1,73),(-1,0)]
 have i1:=ni [0,53,0,0] [0,53,0,0]
 have i2:=ni [41] [41]
 have i3:=ni [14,13,13] [14,13,13]
 have i4:=ni [0,2] [0,2]
 have i5:=ni [0,1,2,3] [0,1,2,3]
 have i6:=ni [0,2] [0,2]
 have al:=We [[1,3],[0,1,3],[1,2,3]] [[1,3],[0,1,3],[1,2,3]]
 simp only[xo,rV,xp,xq] at KX KY KZ K0
 generalize bn=s at*
 simp -implicitDefEqProofs [m7]
 refine aj Wt ?_
 simp -implicitDefEqProofs
 intro b1
 refine aj Wu ?_
 simp -implicitDefEqProofs
 refine aj Wv ?_
 simp -implicitDefEqProofs
 refine aj Ww ?_
 simp -implicitDefEqProofs
 refine aj Wx ?_
 simp -implicitDefEqProofs
 refine aj Wy ?_
 simp -implicitDefEqProofs
 refine aj Wz ?_
 simp -implicitDefEqProofs
 refine aj WA ?_
 simp -implicitDefEqProofs
 refine aj WB ?_
 simp -implicitDefEqProofs
 refine aj KX ?_
 simp -implicitDefEqProofs
 refine aj WD ?_
 simp -implicitDefEqProofs
 refine aj KZ ?_
 simp -implicitDefEqProofs
 refine aj WE ?_
 simp -implicitDefEqProofs
 refine aj WG ?_
 simp -implicitDefEqProofs
 refine aj WH ?_
 simp -implicitDefEqProofs
 refine aj K0 ?_
 simp -implicitDefEqProofs
 refine aj WC ?_
 simp -implicitDefEqProofs
 refine aj KY ?_
 simp -implicitDefEqProofs
 refine aj r1 ?_
 simp -implicitDefEqProofs
 refine aj r2 ?_
 simp -implicitDefEqProofs
 refine aj r3 ?_
 simp -implicitDefEqProofs
 refine aj s1 ?_
 simp -implicitDefEqProofs
 refine aj r4 ?_
 simp -implicitDefEqProofs
 refine aj r2 ?_
 simp -implicitDefEqProofs
 refine aj r3 ?_
 simp -implicitDefEqProofs
 refine aj s2 ?_
 simp -implicitDefEqProofs
 refine aj i1 ?_
 simp -implicitDefEqProofs
 refine aj i2 ?_
 simp -implicitDefEqProofs
 refine aj i3 ?_
 simp -implicitDefEqProofs
 refine aj al ?_
 simp -implicitDefEqProofs
 refine aj i4 ?_
 simp -implicitDefEqProofs
 refine aj i5 ?_
 simp -implicitDefEqProofs
 refine aj i6 ?_
 simp -implicitDefEqProofs [r7]
end Go.Proofs.YtpeikknjbnnnnaaGreat.A
namespace Go.Proofs.YtpeikknjbnnnnaaGreat.A
open Go.az O
def eJ(c:Case)(y:Int)(i:Nat):Case:={c with ak:=c.ak++[⟨y,-1,i⟩]}
theorem WI{c:Case}{y:Int}{i:Nat}(h:bC (eJ c y i)=0):bC c=0:=by
 obtain⟨p,-⟩:=pN h
 have h4:=JX h
 have hs:=UF h
 refine UD h rfl rfl rfl (by have:=p.h5;show c.marks.length≤8;have h8:¬(8:Int)<c.marks.length:=this;omega) (fun j hj=>UE (c:=eJ c y i) h (i:=j) hj) ?_ (fun s hs'=>hs s (List.mem_append_left _ hs'))
 have:c.ak.length+1≤4:=by simpa[eJ] using h4
 omega
theorem abV{c:Case}(hc:c.OK)(y:Int)(i:Nat):eH c (eJ c y i) id:=by
 refine⟨rfl,rfl,rfl,fun q hq=>⟨hq,rfl,Int.le_refl _,Int.le_refl _,fun hn=> ?_⟩,fun s hs=>⟨s,List.mem_append_left _ hs,rfl,rfl⟩,fun x hx=> ?_⟩
 ·have:=hc.upon q hq
  show c.marks[q].upon=((c.marks[q].upon.toNat:Nat):Int)
  omega
 ·have e1:cc (eJ c y i) (eJ c y i).ak x=if (i:Int)=(x:Int) then max (cc c c.ak x) y else cc c c.ak x:=aaA c c.ak ⟨y,-1,i⟩ x
  have e2:YU (eJ c y i) (eJ c y i).ak x=if (i:Int)=(x:Int) then min (YU c c.ak x) y else YU c c.ak x:=q_ c c.ak ⟨y,-1,i⟩ x
  have e3:YQ (eJ c y i) (eJ c y i).ak x=if (-1:Int)=(x:Int) then max (YQ c c.ak x) y else YQ c c.ak x:=aaB c c.ak ⟨y,-1,i⟩ x
  have e4:Yx (eJ c y i) (eJ c y i).ak x=if (-1:Int)=(x:Int) then min (Yx c c.ak x) y else Yx c c.ak x:=rj c c.ak ⟨y,-1,i⟩ x
  rw[e1,e2,e3,e4]
  refine⟨?_,?_,?_,?_⟩<;>split<;>omega
theorem WK{l:List Int}{x:Int}{k:Nat}(h:bU l x=k):∃hk:k<l.length,l[k]=x:=by
 unfold bU at h
 split at h
 ·rename_i j hj
  have e:j=k:=by omega
  subst e
  unfold List.idxOf? at hj
  rw[List.findIdx?_eq_some_iff_getElem] at hj
  obtain⟨h1,h2,_⟩:=hj
  exact⟨h1,by simpa using h2⟩
 ·omega
theorem WL{c:Case}{y:Int}{i:Nat}(h:bC (eJ c y i)=0):
  ((dI (eJ c y i)).e=8∧((dI c).e=0∨(dI c).e=8))∨
  ((dI (eJ c y i)).e=0∧(dI c).e=0∧(dI c).u≤(dI (eJ c y i)).u∧(dI (eJ c y i)).l.length≤c.an.length∧∃k,∃hk:k<(dI (eJ c y i)).l.length,(dI (eJ c y i)).l[k].src=y∧∀j (hj:j<(dI (eJ c y i)).l.length),(dI (eJ c y i)).l[j].who=i↔j=k):=by
 have hce:=WI h
 have hd:=Case.ok h
 have hc:=Case.ok hce
 have hW:=abV hc y i
 cases hb:eR (eJ c y i) (bA (eJ c y i)) with
 |none=>
  left
  rw[JV h hb]
  refine⟨rfl,?_⟩
  cases YL:eR c (bA c) with
  |none=>rw[JV hce YL];exact .inr rfl
  |some l=>rw[Cj hce YL];exact .inl rfl
 |some l=>
  right
  obtain⟨l',hb',hu⟩:=hW.best hc hd hb
  obtain⟨k0,aX,-,hO,-,hH,-⟩:=Ci hd hb
  rw[Cj h hb,Cj hce hb']
  refine⟨rfl,rfl,hu,?_,?_⟩
  ·have h1:=(BJ (Cb hO)).1
   rw[←hH.who,List.length_map] at h1
   exact h1
  obtain⟨k,hp,hk,hsrc⟩:=hH.dst ⟨y,-1,i⟩ (List.mem_append_right _ (List.mem_singleton.2 rfl)) (by show(i:Int)≠ -1;omega)
  refine⟨k,hk,hsrc,fun j hj=>⟨fun e=> ?_,?_⟩⟩
  ·have:=(hH.nu j hj).2.2
   rw[e] at this
   have jE:qa (Yy l) (i:Int)=k:=hp
   omega
  ·rintro rfl
   obtain⟨h1,h2⟩:=WK (show bU ((Yy l).map aY.who) (i:Int)=j from hp)
   simpa using h2
end Go.Proofs.YtpeikknjbnnnnaaGreat.A
namespace Go.Proofs.YtpeikknjbnnnnaaGreat.A
open Go.az O
def gd(l:List fV):List AV:=l.flatMap fun w=>[S w.name,I w.born,I w.YE]
theorem K1(l:List fV):(gd l).length=3*l.length:=by
 induction l with
 |nil=>rfl
 |cons a l ih=>simp only[gd,List.flatMap_cons,List.length_append,List.length_cons,List.length_nil] at ih⊢;omega
theorem K2(l:List fV):∀x∈gd l,∃v,x=.lit v:=by
 intro x hx
 simp only[gd,List.mem_flatMap] at hx
 obtain⟨w,_,hx⟩:=hx
 simp at hx
 rcases hx with rfl|rfl|rfl<;>exact⟨_,rfl⟩
theorem WM{cs:List AV}(h:∀x∈cs,∃v,x=.lit v):cs.map AV.erase0=cs:=by
 calc cs.map AV.erase0=cs.map id:=List.map_congr_left fun x hx=>by obtain⟨m,rfl⟩:=h x hx;rfl
  _=cs:=by simp
theorem WN{cs:List AV}(h:∀x∈cs,∃v,x=.lit v):cs.all AV.bH=true:=by
 rw[List.all_eq_true]
 intro x hx
 obtain⟨m,rfl⟩:=h x hx
 rfl
theorem K3:∀(l:List fV) (rest:List AV),chunk 3 (gd l++rest) l.length=l.map fK
 |[],_=>rfl
 |a::l,rest=>by
  have ih:=K3 l rest
  show(if _ then _ else _)::chunk 3 ((gd (a::l)++rest).drop 3) l.length=_
  have e:(gd (a::l)++rest).drop 3=gd l++rest:=rfl
  rw[e,ih]
  rfl
theorem K4:∀(l:List fV) (rest:List AV) (i:Nat) (h:i<l.length) (x:ByteArray),(gd l++rest).set (i*3) (S x)=gd (l.set i ⟨x,l[i].born,l[i].YE⟩)++rest
 |a::l,rest,0,h,x=>rfl
 |a::l,rest,i+1,h,x=>by
  have ih:=K4 l rest i (by simpa using h) x
  have e1:(i+1)*3=i*3+3:=by omega
  rw[e1]
  show S a.name::I a.born::I a.YE::((gd l++rest).set (i*3) (S x))=_
  rw[ih];rfl
def WO(c:Case)(i:Nat)(x:ByteArray):Case:={c with an:=c.an.set i ⟨x,(c.an.getD i om).born,(c.an.getD i om).YE⟩}
abbrev U(n:Int):AV:=.lit (.int .u16 n)
theorem wO{n:Int}(h:0≤n∧n≤65535):IntKind.wrap .i64 n=n:=by
 simp[IntKind.wrap,IntKind.bits,IntKind.signed]
 omega
theorem WQ{n:Nat}(h:n<256):IntKind.wrap .u8 (n:Int)=n:=by
 simp[IntKind.wrap,IntKind.bits,IntKind.signed]
 omega
theorem xw(a b:Nat):((a:Int).tmod (b:Int))=((a%b:Nat):Int):=by rw[Int.tmod_eq_emod_of_nonneg (by omega)];rfl
theorem abW(s:aB)(n:Nat):(lA s n).length≤s.aH.length:=by
 unfold lA
 by_cases h:(fB (bE n) s.aH.length).length=1
 ·rw[if_pos h];simp
 ·rw[if_neg h];exact w9 _ _
theorem abX(s:aB)(c:Case)(a b d f:Int)(oa:0≤a∧a≤65535)(ob:0≤b∧b≤65535)(od:0≤d∧d≤65535)(of:0≤f∧f≤65535):aA Tryz.prog 3 [bQ s,fc c,.agg [U a,U b,U d,U f]] (O.B true):=by
 refine pc t3 (by simp) fun hfit=> ?_
 have WT:=wO oa
 have WU:=wO ob
 have WV:=wO od
 obtain⟨na,rfl⟩:∃n:Nat,a=n:=⟨a.toNat,by omega⟩
 obtain⟨nb,rfl⟩:∃n:Nat,b=n:=⟨b.toNat,by omega⟩
 obtain⟨nd,rfl⟩:∃n:Nat,d=n:=⟨d.toNat,by omega⟩
 obtain⟨nf,rfl⟩:∃n:Nat,f=n:=⟨f.toNat,by omega⟩
 have nG:=Ur
 have nH:=Ws
 have c4:=UR s
 have c5:=Il c
 simp -implicitDefEqProofs only[m3]
 refine au (fun st=>st.env 3=bG s∧st.env 5=.ref [U na,U nb,U nd,U nf]∧∃b4,st.env 4=.Yq b4 0∧st.loc b4=some (cU c)) ?_ ?_
 ·intro k hk
  simp -implicitDefEqProofs
  intro b4
  exact hk _ ⟨by simp,by simp,b4,by simp,by simp⟩
 rintro st ⟨e3,e5,b4,e4,l4⟩
 refine au (fun st=>st.env 3=bG s∧st.env 5=.ref [U na,U nb,U nd,U nf]∧st.env 4=.Yq b4 0∧st.loc b4=some (cU c)∧st.env 9=I (lz s).2.2) ?_ ?_
 ·intro k hk
  simp -implicitDefEqProofs [e3]
  refine aj c4 ?_
  simp -implicitDefEqProofs
  exact hk _ (by simp[e3,e4,e5,l4])
 rintro st ⟨e3,e5,e4,l4,e9⟩
 refine au (fun st=>st.env 3=bG s∧st.env 5=.ref [U na,U nb,U nd,U nf]∧st.env 4=.Yq b4 0∧st.loc b4=some (cU c)∧st.env 9=I (lz s).2.2∧st.env 12=I (bC c)) ?_ ?_
 ·intro k hk
  simp -implicitDefEqProofs [e4,l4]
  refine aj c5 ?_
  simp -implicitDefEqProofs
  exact hk _ (by simp[e3,e4,e5,l4,e9,bC])
 rintro st ⟨e3,e5,e4,l4,e9,aQ⟩
 refine au (fun st=>(lz s).2.2=0∧bC c=0∧s.a_≠[]∧c.an≠[]∧st.env 3=bG s∧st.env 5=.ref [U na,U nb,U nd,U nf]∧st.env 4=.Yq b4 0∧st.loc b4=some (cU c)) ?_ ?_
 ·intro k hk
  by_cases h1:(lz s).2.2=0
  case neg=>
   have fT:((lz s).2.2 != 0)=true:=by simp[h1]
   simp -implicitDefEqProofs [e9,fT]
   refine aj nG ?_
   simp -implicitDefEqProofs
   refine aj nH ?_
   simp -implicitDefEqProofs [r3]
  by_cases h2:bC c=0
  case neg=>
   have oD:(bC c != 0)=true:=by simp[h2]
   simp -implicitDefEqProofs [e9,h1,aQ,oD]
   refine aj nG ?_
   simp -implicitDefEqProofs
   refine aj nH ?_
   simp -implicitDefEqProofs [r3]
  by_cases h3:s.a_=[]
  ·simp -implicitDefEqProofs [e9,h1,aQ,h2,e3,h3]
   refine aj nG ?_
   simp -implicitDefEqProofs
   refine aj nH ?_
   simp -implicitDefEqProofs [r3]
  have h3':((s.a_.length:Int)==0)=false:=by rw[beq_eq_false_iff_ne];have:=List.length_pos_iff.2 h3;omega
  by_cases h4:c.an=[]
  ·simp -implicitDefEqProofs [e9,h1,aQ,h2,e3,h3',e4,l4,h4]
   refine aj nG ?_
   simp -implicitDefEqProofs
   refine aj nH ?_
   simp -implicitDefEqProofs [r3]
  have l_:((c.an.length:Int)==0)=false:=by rw[beq_eq_false_iff_ne];have:=List.length_pos_iff.2 h4;omega
  simp -implicitDefEqProofs [e9,h1,aQ,h2,e3,h3',e4,l4,l_]
  exact hk _ ⟨h1,h2,h3,h4,by simp[e3],by simp[e5],by simp[e4],by simp[l4]⟩
 rintro st ⟨h1,h2,h3,h4,e3,e5,e4,l4⟩
 have hV:=UQ h1
 have hok:=Case.ok h2
 have ZU:=hok.jF
 have Cz:=hV.a_.1
 have eD:=hV.aH.1
 have WW:=List.length_pos_iff.2 h3
 have hop:=List.length_pos_iff.2 h4
 obtain⟨ay,rT⟩:∃i,i=na%s.a_.length:=⟨_,rfl⟩
 have iB:ay<s.a_.length:=by rw[rT];exact Nat.mod_lt _ WW
 have hma:=xw na s.a_.length
 rw[←rT] at hma
 obtain⟨i,hi⟩:∃i,i=nb%c.an.length:=⟨_,rfl⟩
 have kz:i<c.an.length:=by rw[hi];exact Nat.mod_lt _ hop
 have hmb:=xw nb c.an.length
 rw[←hi] at hmb
 have hl0:¬s.a_.length=0:=by omega
 have Da:¬c.an.length=0:=by omega
 refine au (fun st=>st.env 3=bG s∧st.env 5=.ref [U na,U nb,U nd,U nf]∧st.env 4=.Yq b4 0∧st.loc b4=some (cU c)∧st.env 13=I ay∧st.env 14=I i) ?_ ?_
 ·intro k hk
  simp -implicitDefEqProofs [e3,e4,e5,l4,WT,WU,h3,h4,hma,hmb]
  exact hk _ (by simp[e3,e4,e5,l4])
 rintro st ⟨e3,e5,e4,l4,aR,bf⟩
 have cs0:aA Tryz.prog 8 [bQ s,.slice 1 [] 0] (.tuple [YY s 0,I 0]):=w6 hV (l:=[]) ⟨fun x hx=>absurd hx (by simp),fun i h=>absurd h (by simp),by simp⟩ (by simp)
 obtain⟨m,hm⟩:∃m,m=nf%256:=⟨_,rfl⟩
 have K5:m<256:=by omega
 have WX:(nf:Int).tmod 256=(m:Int):=by rw[hm];exact xw nf 256
 have cr:=VA (s:=s) (by omega) K5
 have K6:=w6 hV (Vy s m) (by have:=abW s m;omega)
 obtain⟨A,hA⟩:∃A,A=fA s (bE 0):=⟨_,rfl⟩
 obtain⟨Q,hQ⟩:∃Q,Q=fA s (bE (gb (lA s m))):=⟨_,rfl⟩
 have K7:A.length=s.a_.length:=by rw[hA];exact rO _ _ _
 have WY:Q.length=s.a_.length:=by rw[hQ];exact rO _ _ _
 have uy:ay<A.length:=by omega
 have WZ:ay<Q.length:=by omega
 have CM:A[ay].1=(iI s (bE 0) ay).1:=by
  have:A[ay]=iI s (bE 0) ay:=by simp[hA,fA,Zl]
  rw[this]
 have W0:Q[ay].1=A[ay].1:=by
  have:Q[ay]=iI s (bE (gb (lA s m))) ay:=by simp[hQ,fA,Zl]
  rw[this,CM]
  exact UK _ _ _ _
 have W1:A[ay].1= -1∨∃one:Nat,A[ay].1=one∧one<s.aH.length:=by
  rw[CM]
  unfold iI
  split
  ·exact .inl rfl
  ·rename_i one ho
   split
   ·exact .inl rfl
   ·exact .inr ⟨one,rfl,uj s ay _ _ _ ho⟩
 rw[YY,←hA] at cs0
 rw[YY,←hQ] at K6
 clear hA hQ CM
 generalize lA s m=rl at*
 refine au (fun st=>st.env 3=bG s∧st.env 5=.ref [U na,U nb,U nd,U nf]∧st.env 4=.Yq b4 0∧st.loc b4=some (cU c)∧st.env 13=I ay∧st.env 14=I i∧st.env 15=.slice 2 (A.map bK) 0∧st.env 9=I 0) ?_ ?_
 ·intro k hk
  simp -implicitDefEqProofs [e3]
  refine aj cs0 ?_
  simp -implicitDefEqProofs
  exact hk _ (by simp[e3,e4,e5,l4,aR,bf])
 rintro st ⟨e3,e5,e4,l4,aR,bf,Yv,e9⟩
 refine au (fun st=>st.env 3=bG s∧st.env 5=.ref [U na,U nb,U nd,U nf]∧st.env 4=.Yq b4 0∧st.loc b4=some (cU c)∧st.env 13=I ay∧st.env 14=I i∧st.env 15=.slice 2 (A.map bK) 0∧st.env 9=I 0∧st.env 16=.slice 2 (Q.map bK) 0∧st.env 12=I 0) ?_ ?_
 ·intro k hk
  simp -implicitDefEqProofs [e3,e5,WX,WQ K5]
  refine aj cr ?_
  simp -implicitDefEqProofs
  refine aj K6 ?_
  simp -implicitDefEqProofs
  exact hk _ (by simp[e3,e4,e5,l4,aR,bf,Yv,e9])
 rintro st ⟨e3,e5,e4,l4,aR,bf,Yv,e9,cJ,aQ⟩
 have q1:((A.length:Int) != (s.a_.length:Int))=false:=by simp[K7]
 have q2:((Q.length:Int) != (A.length:Int))=false:=by simp[K7,WY]
 have q3:(A[ay].1 != Q[ay].1)=false:=by simp[W0]
 refine au (fun st=>st.env 3=bG s∧st.env 5=.ref [U na,U nb,U nd,U nf]∧st.env 4=.Yq b4 0∧st.loc b4=some (cU c)∧st.env 13=I ay∧st.env 14=I i∧st.env 15=.slice 2 (A.map bK) 0) ?_ ?_
 ·intro k hk
  simp -implicitDefEqProofs [e9,aQ,Yv,cJ,e3,aR,q1,q2,q3,uy,WZ]
  exact hk _ (by simp[e3,e4,e5,l4,aR,bf,Yv])
 rintro st ⟨e3,e5,e4,l4,aR,bf,Yv⟩
 refine au (fun st=>(∃one:Nat,A[ay].1=one∧one<s.aH.length)∧st.env 3=bG s∧st.env 5=.ref [U na,U nb,U nd,U nf]∧st.env 4=.Yq b4 0∧st.loc b4=some (cU c)∧st.env 13=I ay∧st.env 14=I i∧st.env 15=.slice 2 (A.map bK) 0) ?_ ?_
 ·intro k hk
  rcases W1 with hr|⟨one,hr,ho⟩
  ·simp -implicitDefEqProofs [Yv,aR,uy,hr]
   refine aj nG ?_
   simp -implicitDefEqProofs
   refine aj nH ?_
   simp -implicitDefEqProofs [r3]
  ·have hr':((one:Int)== -1)=false:=by rw[beq_eq_false_iff_ne];omega
   simp -implicitDefEqProofs [Yv,aR,uy,hr,hr']
   exact hk _ ⟨⟨one,hr,ho⟩,by simp[e3],by simp[e5],by simp[e4],by simp[l4],by simp[aR],by simp[bf],by simp[Yv]⟩
 rintro st ⟨⟨one,hr,ho⟩,e3,e5,e4,l4,aR,bf,Yv⟩
 refine au (fun st=>st.env 3=bG s∧st.env 5=.ref [U na,U nb,U nd,U nf]∧st.env 4=.Yq b4 0∧st.loc b4=some (cU c)∧st.env 13=I ay∧st.env 14=I i∧st.env 15=.slice 2 (A.map bK) 0) ?_ ?_
 ·intro k hk
  have eO:¬(one:Int)<0:=by omega
  have cH:¬((s.aH.length:Int)≤one):=by omega
  simp -implicitDefEqProofs [Yv,aR,e3,uy,hr,eO,cH]
  exact hk _ (by simp[e3,e4,e5,l4,aR,bf,Yv])
 rintro st ⟨e3,e5,e4,l4,aR,bf,Yv⟩
 refine au (fun st=>st.env 3=bG s∧st.env 5=.ref [U na,U nb,U nd,U nf]∧st.env 4=.Yq b4 0∧st.env 13=I ay∧st.env 14=I i∧st.env 15=.slice 2 (A.map bK) 0∧
  ∃q r,q≠b4∧st.loc q=some (gd c.an++(List.replicate r [S .empty,I 0,I 0]).flatten)∧
  st.loc b4=some [I c.printed,I c.now,.aP q 0 c.an.length (c.an.length+r) 3,.slice 4 (c.marks.map cT) 0,.slice 3 (c.ak.map O.bQ) 0]) ?_ ?_
 ·intro k hk
  have o9:List.map AV.erase0 (List.flatMap AV.cells (List.map fK c.an))=gd c.an:=by rw[List.flatMap_map,←WM (K2 c.an)];rfl
  simp -implicitDefEqProofs
  intro b7 h7
  have h57:¬b4=b7:=by rintro rfl;rw[l4] at h7;cases h7
  simp -implicitDefEqProofs [e4,l4,h57,h4]
  refine⟨by omega,by omega,fun q r hq=> ?_⟩
  have W2:¬q=b7:=by rintro rfl;simp at hq
  have ck:st.loc q=none:=by simpa[W2] using hq
  have uz:¬b4=q:=by rintro rfl;rw[l4] at ck;cases ck
  have o_:¬q=b4:=fun e=>uz e.symm
  simp -implicitDefEqProofs [uz,o9]
  exact hk _ ⟨by simp[e3],by simp[e5],by simp[e4],by simp[aR],by simp[bf],by simp[Yv],q,r,o_,by simp[o_];rfl,by simp⟩
 rintro st ⟨e3,e5,e4,aR,bf,Yv,q,r,o_,lq,l4⟩
 obtain⟨rest,de⟩:∃rest,rest=(List.replicate r [S .empty,I 0,I 0]).flatten:=⟨_,rfl⟩
 have hrl:∀x∈rest,∃v,x=.lit v:=by
  rw[de]
  intro x hx
  simp only[List.mem_flatten,List.mem_replicate] at hx
  obtain⟨l,⟨_,rfl⟩,hx⟩:=hx
  simp at hx
  rcases hx with rfl|rfl<;>exact⟨_,rfl⟩
 rw[←de] at lq
 have uz:¬b4=q:=fun e=>o_ e.symm
 obtain⟨D,hD⟩:∃D,D=WO c i s.aH[one]:=⟨_,rfl⟩
 have K8:D.an=c.an.set i ⟨s.aH[one],c.an[i].born,c.an[i].YE⟩:=by
  rw[hD]
  show c.an.set i ⟨s.aH[one],(c.an.getD i om).born,(c.an.getD i om).YE⟩=_
  rw[pL kz]
 have cL:=K4 c.an rest i kz s.aH[one]
 rw[←K8] at cL
 have hlen:(gd c.an++rest).length=3*c.an.length+rest.length:=by rw[List.length_append,K1]
 have p1:i*3<(gd c.an++rest).length:=by omega
 have K9:D.an.length=c.an.length:=by rw[K8,List.length_set]
 have j8:=K3 D.an rest
 rw[K9] at j8
 have u7:∀x∈gd D.an++rest,∃v,x=.lit v:=fun x hx=>(List.mem_append.1 hx).elim (K2 _ x) (hrl x)
 have tT:(gd D.an++rest).length=3*c.an.length+rest.length:=by rw[List.length_append,K1,K9]
 have K_:cU D=[I c.printed,I c.now,.slice 3 (D.an.map fK) 0,.slice 4 (c.marks.map cT) 0,.slice 3 (c.ak.map O.bQ) 0]:=by rw[hD];rfl
 have La:D.ak=c.ak:=by rw[hD];rfl
 generalize gd c.an++rest=OC at*
 refine au (fun st=>st.env 5=.ref [U na,U nb,U nd,U nf]∧st.env 4=.Yq b4 0∧st.env 14=I i∧st.loc b4=some (cU D)) ?_ ?_
 ·intro k hk
  simp -implicitDefEqProofs [e3,e4,aR,bf,Yv,l4,lq,uy,hr,ho,kz,uz]
  refine⟨by omega,?_⟩
  refine vH (bW:=gd D.an++rest) 2 q c.an.length (c.an.length+r) 3 rfl o_ (by simp[cL]) (by rw[tT];omega) (WN u7) (by omega) ?_
  rw[j8]
  refine hk _ ⟨by simp[e5],by simp[e4],by simp[bf],?_⟩
  rw[K_]
  simp[aq,uz]
 rintro st ⟨e5,e4,bf,l4⟩
 have W3:D.printed=c.printed:=by rw[hD];rfl
 have W4:D.now=c.now:=by rw[hD];rfl
 clear K_ cL j8 u7 tT hrl de lq
 have Ye:=hok.years
 have pH:c.ak.length≤100:=by have:=JX h2;omega
 obtain⟨z,hz⟩:∃z:Nat,c.now - c.printed+1=z:=⟨(c.now - c.printed+1).toNat,by omega⟩
 obtain⟨Y,hY⟩:∃Y:Int,Y=c.printed+(nd:Int).tmod (c.now - c.printed+1):=⟨_,rfl⟩
 have Yf:c.printed≤Y∧Y≤100000:=by
  rw[hY,hz,xw]
  have:nd%z<z:=Nat.mod_lt _ (by omega)
  omega
 refine au (fun st=>st.env 4=.Yq b4 0∧st.env 14=I i∧st.loc b4=some (cU D)∧st.env 17=I Y) ?_ ?_
 ·intro k hk
  have mJ:¬(c.now - c.printed+1=0):=by omega
  simp -implicitDefEqProofs [e4,e5,l4,WV,W3,W4,mJ,←hY]
  exact⟨i64 (by omega) (by omega),i64 (by omega) (by omega),i64 (by omega) (by omega),hk _ (by simp[e4,bf,l4])⟩
 rintro st ⟨e4,bf,l4,bZ⟩
 obtain⟨E,hE⟩:∃E,E=eJ D Y i:=⟨_,rfl⟩
 have Lb:cU E=[I D.printed,I D.now,.slice 3 (D.an.map fK) 0,.slice 4 (D.marks.map cT) 0,.slice 3 (D.ak.map O.bQ++[.agg [I Y,I (-1),I i]]) 0]:=by rw[hE];simp[eJ]
 refine au (fun st=>st.env 4=.Yq b4 0∧st.env 14=I i∧st.loc b4=some (cU D)∧st.env 17=I Y∧∃gT,gT≠b4∧st.env 18=.Yq gT 0∧st.loc gT=some (cU D)) ?_ ?_
 ·intro k hk
  simp -implicitDefEqProofs [e4,l4]
  intro gT Lc
  have hne:¬b4=gT:=by rintro rfl;rw[l4] at Lc;cases Lc
  have jI:¬gT=b4:=fun e=>hne e.symm
  exact hk _ ⟨by simp[e4],by simp[bf],by simp[l4,hne],by simp[bZ],gT,jI,by simp,by simp⟩
 rintro st ⟨e4,bf,l4,bZ,gT,hne,dS,mD⟩
 have jI:¬b4=gT:=fun e=>hne e.symm
 refine au (fun st=>st.env 4=.Yq b4 0∧st.env 14=I i∧st.loc b4=some (cU D)∧st.env 17=I Y∧st.env 18=.Yq gT 0∧st.loc gT=some [I D.printed,I D.now,.slice 3 (D.an.map fK) 0,.slice 4 (D.marks.map cT) 0,.slice 3 (D.ak.map O.bQ++[.agg [I Y,I (-1),I i]]) 19004]) ?_ ?_
 ·intro k hk
  simp -implicitDefEqProofs [e4,bf,bZ,dS,l4,mD,La]
  refine⟨by omega,by omega,by omega,by omega,hk _ ⟨by simp[e4],by simp[bf],by simp[l4,jI],by simp[bZ],by simp[dS],by simp[La]⟩⟩
 rintro st ⟨e4,bf,l4,bZ,dS,mD⟩
 have cE:=Il E
 have cD:=BO D
 have Ld:=BO E
 refine au (fun st=>st.env 4=.Yq b4 0∧st.env 14=I i∧st.loc b4=some (cU D)∧st.env 17=I Y∧st.env 18=.Yq gT 0∧st.loc gT=some [I D.printed,I D.now,.slice 3 (D.an.map fK) 0,.slice 4 (D.marks.map cT) 0,.slice 3 (D.ak.map O.bQ++[.agg [I Y,I (-1),I i]]) 19004]∧st.env 9=I (bC E)) ?_ ?_
 ·intro k hk
  rw[fc,Lb] at cE
  simp -implicitDefEqProofs [dS,mD]
  refine aj cE ?_
  simp -implicitDefEqProofs
  exact hk _ ⟨by simp[e4],by simp[bf],by simp[l4],by simp[bZ],by simp[dS],by simp[mD],by simp[bC]⟩
 rintro st ⟨e4,bf,l4,bZ,dS,mD,e9⟩
 by_cases CN:bC E=0
 case neg=>
  have W5:(bC E != 0)=true:=by simp[CN]
  simp -implicitDefEqProofs [e9,W5]
  refine aj nG ?_
  simp -implicitDefEqProofs
  refine aj nH ?_
  simp -implicitDefEqProofs [r3]
 refine au (fun st=>st.env 4=.Yq b4 0∧st.env 14=I i∧st.loc b4=some (cU D)∧st.env 17=I Y∧st.env 18=.Yq gT 0∧st.loc gT=some [I D.printed,I D.now,.slice 3 (D.an.map fK) 0,.slice 4 (D.marks.map cT) 0,.slice 3 (D.ak.map O.bQ++[.agg [I Y,I (-1),I i]]) 19004]) ?_ ?_
 ·intro k hk
  simp -implicitDefEqProofs [e9,CN]
  exact hk _ ⟨by simp[e4],by simp[bf],by simp[l4],by simp[bZ],by simp[dS],by simp[mD]⟩
 rintro st ⟨e4,bf,l4,bZ,dS,mD⟩
 refine au (fun st=>st.env 14=I i∧st.env 17=I Y∧st.env 18=.Yq gT 0∧st.loc gT=some [I D.printed,I D.now,.slice 3 (D.an.map fK) 0,.slice 4 (D.marks.map cT) 0,.slice 3 (D.ak.map O.bQ++[.agg [I Y,I (-1),I i]]) 19004]∧st.env 20=I (dI D).u∧st.env 21=I (dI D).e) ?_ ?_
 ·intro k hk
  simp -implicitDefEqProofs [e4,l4]
  refine aj cD ?_
  simp -implicitDefEqProofs
  exact hk _ ⟨by simp[bf],by simp[bZ],by simp[dS],by simp[mD],by simp,by simp⟩
 rintro st ⟨bf,bZ,dS,mD,cg,cR⟩
 refine au (fun st=>st.env 14=I i∧st.env 17=I Y∧st.env 20=I (dI D).u∧st.env 21=I (dI D).e∧st.env 22=HL (dI E).l∧st.env 23=I (dI E).u∧st.env 24=I (dI E).e) ?_ ?_
 ·intro k hk
  rw[fc,Lb] at Ld
  simp -implicitDefEqProofs [dS,mD]
  refine aj Ld ?_
  simp -implicitDefEqProofs
  exact hk _ ⟨by simp[bf],by simp[bZ],by simp[cg],by simp[cR],by simp,by simp,by simp⟩
 rintro st ⟨bf,bZ,cg,cR,jm,cz,YK⟩
 have ZZ:=WL (c:=D) (y:=Y) (i:=i) (by rw[←hE];exact CN)
 rw[←hE] at ZZ
 generalize dI E=R at*
 generalize dI D=R0 at*
 rcases ZZ with ⟨f1,f2⟩|⟨f1,f2,f3,Yg,k0,aX,f4,f5⟩
 ·have g1:(R.e != 0)=true:=by simp[f1]
  have g2:(R.e==8)=true:=by simp[f1]
  rcases f2 with f2|f2
  ·simp -implicitDefEqProofs [YK,g1,g2,cR,f2]
   refine aj nG ?_
   simp -implicitDefEqProofs
   refine aj nH ?_
   simp -implicitDefEqProofs [r3]
  ·simp -implicitDefEqProofs [YK,cR,f2,f1]
   refine aj nG ?_
   simp -implicitDefEqProofs
   refine aj nH ?_
   simp -implicitDefEqProofs [r3]
 refine au (fun st=>st.env 14=I i∧st.env 17=I Y∧st.env 20=I R0.u∧st.env 21=I R0.e∧st.env 22=HL R.l∧st.env 23=I R.u) ?_ ?_
 ·intro k hk
  simp -implicitDefEqProofs [YK,f1]
  exact hk _ ⟨by simp[bf],by simp[bZ],by simp[cg],by simp[cR],by simp[jm],by simp[cz]⟩
 rintro st ⟨bf,bZ,cg,cR,jm,cz⟩
 refine au (fun st=>st.env 14=I i∧st.env 17=I Y∧st.env 20=I R0.u∧st.env 21=I R0.e∧st.env 22=HL R.l∧st.env 23=I R.u∧st.env 25=I (-1)) ?_ ?_
 ·intro k hk
  simp -implicitDefEqProofs
  exact hk _ ⟨by simp[bf],by simp[bZ],by simp[cg],by simp[cR],by simp[jm],by simp[cz],by simp⟩
 rintro st ⟨bf,bZ,cg,cR,jm,cz,gv⟩
 refine au (fun st=>st.env 17=I Y∧st.env 20=I R0.u∧st.env 21=I R0.e∧st.env 23=I R.u∧st.env 25=I Y) ?_ ?_
 ·intro k1 aF
  simp -implicitDefEqProofs
  refine bw R.l.length (fun k st=>st.env 14=I i∧st.env 17=I Y∧st.env 20=I R0.u∧st.env 21=I R0.e∧st.env 22=HL R.l∧st.env 23=I R.u∧st.env 25=I (if k0<k then Y else -1)∧st.env 26=I k) ?_ ?_
  ·exact⟨by simp[bf],by simp[bZ],by simp[cg],by simp[cR],by simp[jm],by simp[cz],by simp[gv],by simp⟩
  rintro k st hk ⟨bf,bZ,cg,cR,jm,cz,gv,k7⟩
  simp -implicitDefEqProofs [jm,k7]
  refine bu (fun hlt=> ?_) (fun hge=> ?_)
  ·have hlt:k<R.l.length:=by omega
   have t_:=f5 k hlt
   by_cases hkk:k=k0
   ·subst hkk
    have hw:(R.l[k].who==(i:Int))=true:=by rw[beq_iff_eq];exact t_.2 rfl
    simp -implicitDefEqProofs [jm,k7,bf,hlt,hw,f4]
    exact⟨i64 (by omega) (by omega),aN hlt ⟨by simp[bf],by simp[bZ],by simp[cg],by simp[cR],by simp[jm],by simp[cz],by simp,by simp⟩⟩
   ·have hw:(R.l[k].who==(i:Int))=false:=by rw[beq_eq_false_iff_ne];exact fun e=>hkk (t_.1 e)
    have hc:(k0<k+1)=(k0<k):=by rw[eq_iff_iff];omega
    simp -implicitDefEqProofs [jm,k7,bf,hlt,hw]
    exact⟨i64 (by omega) (by omega),aN hlt ⟨by simp[bf],by simp[bZ],by simp[cg],by simp[cR],by simp[jm],by simp[cz],by simp[gv,hc],by simp⟩⟩
  ·obtain rfl:k=R.l.length:=by omega
   rw[if_pos aX] at gv
   simp -implicitDefEqProofs
   exact aF _ ⟨by simp[bZ],by simp[cg],by simp[cR],by simp[cz],by simp[gv]⟩
 rintro st ⟨bZ,cg,cR,cz,gv⟩
 simp -implicitDefEqProofs [bZ,cg,cR,cz,gv,f2,f3]
 refine aj nG ?_
 simp -implicitDefEqProofs
 refine aj nH ?_
 simp -implicitDefEqProofs [r3]
end Go.Proofs.YtpeikknjbnnnnaaGreat.A
namespace Go.Proofs.YtpeikknjbnnnnaaGreat.A
open Go.az O
theorem W6{pl:Bool}:Rd Tryz.prog pl 4 O.B (fun _=>True):=by
 cases pl
 ·exact(Rd.bool Tryz.underlying4).loose
 ·exact Rd.bool Tryz.underlying4
theorem rdStep{pl:Bool}:Rd Tryz.prog pl 59 mw (fun _=>True):=(Rd.struct (tot:=2) Tryz.underlying59 rfl (by kernel_rfl) (YA.cons rfl (by kernel_rfl) Y3 (YA.cons rfl (by kernel_rfl) Y3 YA.nil))).map (fun x=>⟨x.1,x.2.1⟩) (fun _=>rfl) (fun _ _=>trivial)
theorem W7{pl:Bool}:Rd Tryz.prog pl 121 iG (fun _=>True):=(Rd.struct (tot:=4) Tryz.underlying121 rfl (by kernel_rfl) (YA.cons rfl (by kernel_rfl) wM (YA.cons rfl (by kernel_rfl) Y3 (YA.cons rfl (by kernel_rfl) Y3 (YA.cons rfl (by kernel_rfl) W6 YA.nil))))).map (fun x=>⟨x.1,x.2.1,x.2.2.1,x.2.2.2.1⟩) (fun _=>rfl) (fun _ _=>trivial)
theorem W8{pl:Bool}:Rd Tryz.prog pl 123 Zj (fun _=>True):=(Rd.struct (tot:=3) Tryz.underlying123 rfl (by kernel_rfl) (YA.cons rfl (by kernel_rfl) Y3 (YA.cons rfl (by kernel_rfl) Y3 (YA.cons rfl (by kernel_rfl) Y3 YA.nil)))).map (fun x=>⟨x.1,x.2.1,x.2.2.1⟩) (fun _=>rfl) (fun _ _=>trivial)
theorem W9:Rd Tryz.prog false 27 bQ (fun _=>True):=
 (Rd.struct (tot:=8) Tryz.underlying27 rfl (by kernel_rfl) (YA.cons rfl (by kernel_rfl) (Rd.slice Tryz.underlying22 (of_decide_eq_true (by kernel_rfl)) (by kernel_rfl) rdStep)
   (YA.cons rfl (by kernel_rfl) Y3 (YA.cons rfl (by kernel_rfl) Y3 (YA.cons rfl (by kernel_rfl) Y3
   (YA.cons rfl (by kernel_rfl) (Rd.slice Tryz.underlying23 (of_decide_eq_true (by kernel_rfl)) (by kernel_rfl) wM)
   (YA.cons rfl (by kernel_rfl) (Rd.slice Tryz.underlying23 (of_decide_eq_true (by kernel_rfl)) (by kernel_rfl) wM)
   (YA.cons rfl (by kernel_rfl) (Rd.slice Tryz.underlying24 (of_decide_eq_true (by kernel_rfl)) (by kernel_rfl) W7)
   (YA.cons rfl (by kernel_rfl) (Rd.slice Tryz.underlying25 (of_decide_eq_true (by kernel_rfl)) (by kernel_rfl) W8) YA.nil))))))))).map
   (fun x=>⟨x.1,x.2.1,x.2.2.1,x.2.2.2.1,x.2.2.2.2.1,x.2.2.2.2.2.1,x.2.2.2.2.2.2.1,x.2.2.2.2.2.2.2.1⟩) (fun _=>rfl) (fun _ _=>trivial)
theorem W_{pl:Bool}:Rd Tryz.prog pl 33 U (fun n=>0≤n∧n≤65535):=by
 have h:Rd Tryz.prog true 33 U (fun n=>0≤n∧n≤65535):=(Rd.int Tryz.underlying33).map id (fun _=>rfl) (fun _ h=>h)
 cases pl
 ·exact h.loose
 ·exact h
theorem Xa:Rd Tryz.prog false 34 (fun xs:List Int=>.agg (xs.flatMap fun y=>(U y).cells)) (fun xs=>xs.length=4∧∀x∈xs,0≤x∧x≤65535):=Rd.array (sz:=1) Tryz.underlying34 (by kernel_rfl) (by kernel_rfl) W_
theorem Xb(s:aB)(c:Case)(xs:List Int)(_:True)(_:JQ c)(ox:xs.length=4∧∀x∈xs,0≤x∧x≤65535):aA Tryz.prog 3 [bQ s,fc c,.agg (xs.flatMap fun y=>(U y).cells)] (O.B true):=
 match xs,ox with
 |[a,b,d,f],h=>abX s c a b d f (h.2 a (by simp)) (h.2 b (by simp)) (h.2 d (by simp)) (h.2 f (by simp))
end Go.Proofs.YtpeikknjbnnnnaaGreat.A
