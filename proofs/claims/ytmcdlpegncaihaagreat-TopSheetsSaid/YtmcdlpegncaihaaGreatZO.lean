/- The plain law: of a gathering of which whole sheets are lost, and of a leaf that is alone. The law TopSheets, walked. The examples of layer 4 (copy). The law TopSheets returns true, as its arguments are read. -/
import Derived.Test.YtmcdlpegncaihaaGreatZN
import Derived.Test.YtmcdlpegncaihaaGreatZJ
import Derived.Test.YtmcdlpegncaihaaGreatZK
import Derived.Test.YtmcdlpegncaihaaGreatZE
import Derived.KernelRfl
import Derived.Test.YtmcdlpegncaihaaGreatZG
namespace Go.Proofs.YtmcdlpegncaihaaGreat.C
open Go.Z4
def lV(l:List F.Lf):List Int:=l.map F.Lf.dO
def pats:List (List Int):=[[0,0],[0,1,1,0],[0,1,2,2,1,0],[0,1,2,3,3,2,1,0],[0,0,0,0],[0,0,1,1,1,1,0,0],[0,0,1,1,2,2,2,2,1,1,0,0],[0,0,0,0,0,0,0,0]]
set_option maxRecDepth 100000 in
theorem Yh:F.pN.all (fun x=>decide (12<(F.lvM x).length)||decide (lV (F.lvM x)∈pats))=true:=by decide+kernel
def aau(b:Nat)(sh:List Int)(i:Nat):Bool:=b.testBit (sh.getD i 0).toNat
def iA(sh:List Int)(b:Nat):List Int:=aS (aau b sh) sh.length
def gi(sh:List Int)(b:Nat):List Int:=aS (fun i=> !aau b sh i) sh.length
def Ld(sh:List Int)(b:Nat):Bool:=
 let f:=jC (bw [sh.length]) (aT [sh.length]) (gi sh b)
 f.lost==iA sh b&&(2*f.pieces==((iA sh b).length:Int)&&(f.all==f.pieces&&ga (bw [sh.length]) (gi sh b)==[]))
def Le(sh:List Int)(k i:Nat):Bool:=i != k&&sh.getD i 0==sh.getD k 0
def aaT(sh:List Int)(k:Nat):List Int:=aS (Le sh k) sh.length
def jF(sh:List Int)(k:Nat):List Int:=aS (fun i=> !decide ((i:Int)∈aaT sh k)) sh.length
def adw(sh:List Int)(k:Nat):Bool:=ga (bw [sh.length]) (jF sh k)==[(k:Int)]&&(dX sh.length (jF sh k)==aaT sh k&&decide ((sh.length:Int) - 1 - k∈aaT sh k))
set_option maxRecDepth 100000 in
theorem Lg:pats.all (fun sh=>(List.range 16).all (Ld sh)&&(List.range sh.length).all (adw sh))=true:=by decide+kernel
theorem CF:∀sh∈pats,OKb [sh.length]∧∀x∈sh,0≤x∧x<4:=by
 have h:∀sh∈pats,(2≤sh.length∧sh.length≤12∧sh.length%2=0)∧∀x∈sh,0≤x∧x<4:=by decide
 exact fun sh hs=>⟨⟨by simp,by simp,fun n hn=>by rw[List.mem_singleton.1 hn];exact(h sh hs).1⟩,(h sh hs).2⟩
theorem Yi{sh:List Int}(h:∀x∈sh,0≤x∧x<4)(b i:Nat):aau (b%16) sh i=aau b sh i:=by
 unfold aau
 have hs:(sh.getD i 0).toNat<4:=by
  rw[List.getD_eq_getElem?_getD]
  by_cases hi:i<sh.length
  ·have:=h _ (List.getElem_mem hi)
   simp[hi];omega
  ·simp[hi]
 rw[show 16=2^4 from rfl,Nat.testBit_mod_two_pow,decide_eq_true hs,Bool.true_and]
theorem Lh{q:Nat→Bool}{n:Nat}:c_ (aS q n)=(aS q n).map fun x=>[x]:=by
 unfold c_
 refine List.map_congr_left fun x hx=> ?_
 obtain⟨j,rfl,_⟩:=wM hx
 rw[if_pos (by omega)]
theorem Li:∀l:List Int,bG (l.map fun x=>[x])=[l]
 |[]=>rfl
 |x::l=>by
  simp[bG,Li l]
theorem Lj(n:Nat):(aT [n]).length=n:=by simp[aT]
theorem Lk{n:Nat}(h:OKb [n])(q:Nat→Bool):eP [n] (c_ (aS q n)):=by
 have hn:=(h.each n (by simp)).2.1
 have hl:=aaB q n
 rw[Lh]
 refine⟨h,by simp;omega,fun c hc=> ?_,?_⟩
 ·obtain⟨x,hx,rfl⟩:=List.mem_map.1 hc
  obtain⟨j,rfl,hj,_⟩:=wM hx
  rw[Lj]
  exact⟨by simp,fun y hy=>by rw[List.mem_singleton.1 hy];omega,by simp⟩
 ·rw[List.filter_eq_nil_iff.2 fun c hc=>by
   obtain⟨x,hx,rfl⟩:=List.mem_map.1 hc
   simp]
  simp
theorem xm(q:Nat→Bool)(n:Nat):bG (c_ (aS q n))=[aS q n]:=by rw[Lh,Li]
theorem Yj(q:Nat→Bool)(n:Nat):(aS q n).Nodup:=by
 unfold aS
 refine List.Pairwise.map _ (fun a b h=> ?_) (List.Pairwise.filter _ List.nodup_range)
 omega
theorem Ll(q:Nat→Bool)(L n:Nat)(hn:n<L):fu [aS q L] n=if q n then 1 else 0:=by
 have h1:fu [aS q L] n=((aS q L).count (n:Int):Nat):=by simp[fu]
 rw[h1,(Yj q L).count]
 by_cases h:q n=true
 ·rw[if_pos (Kb.2 ⟨hn,h⟩),if_pos h];rfl
 ·rw[if_neg (fun h2=>h (Kb.1 h2).2),if_neg h];rfl
theorem Lm(q:Nat→Bool)(L:Nat):ue L [aS q L]=aS q L:=by
 refine BD fun n hn=> ?_
 rw[Ll q L n hn]
 cases q n<;>rfl
theorem adx(q:Nat→Bool)(L:Nat):xj L [aS q L]=aS q L:=by
 refine BD fun n hn=> ?_
 rw[Ll q L n hn]
 cases q n<;>rfl
theorem Yk(n:Nat):aG Tryz.prog 9 [I n] (.tuple [.agg (cy [n]),B (decide (n≤12))]):=by
 refine pc t9 (by simp) fun _=> ?_
 simp -implicitDefEqProofs [m9,r9]
 exact⟨rfl,by omega⟩
structure Yl (sh:List Int) (b:Nat) (f:Flt):Prop where
 ZP:aG Tryz.prog 10 [.agg (gE [sh.length] (c_ (gi sh b)))] (.tuple [.agg (fC f),I 0])
 loose:aG Tryz.prog 12 [.agg (gE [sh.length] (c_ (gi sh b)))] (.tuple [IL [],IL [],I 0])
 lost:f.lost=iA sh b
 pieces:2*f.pieces=(iA sh b).length
 all:f.all=f.pieces
structure Ym (sh:List Int) (k:Nat):Prop where
 loose:aG Tryz.prog 12 [.agg (gE [sh.length] (c_ (jF sh k)))] (.tuple [IL [(k:Int)],IL [(k:Int)],I 0])
 lost:aG Tryz.prog 16 [.agg (gE [sh.length] (c_ (jF sh k)))] (.tuple [IL (aaT sh k),IL (aaT sh k),I 0])
 ZQ:(sh.length:Int) - 1 - k∈aaT sh k
theorem Yn(n:Nat)(t:List Int):ga (bw [n]) t=aS (iW (bw [n]) t) (aT [n]).length:=by
 unfold ga
 rw[show(bw [n]).length=(aT [n]).length by simp[bw]]
theorem Lo(n:Nat)(q:Nat→Bool):nh [n] (c_ (aS q n)) (ga (bw [n]))=ga (bw [n]) (aS q n)∧ni [n] (c_ (aS q n)) (ga (bw [n]))=ga (bw [n]) (aS q n):=by
 unfold nh ni
 rw[xm,List.map_singleton,Yn]
 exact⟨Lm _ _,adx _ _⟩
theorem Yo(n:Nat)(q:Nat→Bool):nh [n] (c_ (aS q n)) (dX (aT [n]).length)=dX n (aS q n)∧ni [n] (c_ (aS q n)) (dX (aT [n]).length)=dX n (aS q n):=by
 unfold nh ni
 rw[xm,List.map_singleton,Lj]
 exact⟨Lm _ _,adx _ _⟩
theorem Yp{sh:List Int}(h:sh∈pats)(b:Nat):∃f,Yl sh b f:=by
 obtain⟨hb,hx⟩:=CF sh h
 have hc:=List.all_eq_true.1 Lg sh h
 rw[Bool.and_eq_true] at hc
 have hc:=List.all_eq_true.1 hc.1 (b%16) (List.mem_range.2 (Nat.mod_lt _ (by decide)))
 have hq:aau (b%16) sh=aau b sh:=funext fun i=>Yi hx b i
 have h1:gi sh (b%16)=gi sh b:=by unfold gi;rw[hq]
 have h2:iA sh (b%16)=iA sh b:=by unfold iA;rw[hq]
 unfold Ld at hc
 rw[h1,h2] at hc
 simp only[Bool.and_eq_true,beq_iff_eq] at hc
 obtain⟨g1,g2,g3,g4⟩:=hc
 have hok:=Lk hb (fun i=> !aau b sh i)
 have ht:bG (c_ (gi sh b))=[gi sh b]:=xm _ _
 refine⟨{jC (bw [sh.length]) (aT [sh.length]) (gi sh b) with leaves:=gi sh b},?_,?_,g1,g2,g3⟩
 ·refine kX (xd hok ?_)
  show iu _ _ (bG (c_ (gi sh b)))=_
  rw[ht];rfl
 ·have c:=Ci hok (by
   show(bG (c_ (gi sh b))).length≤_
   rw[ht];simp)
  obtain⟨s1,s2⟩:=Lo sh.length (fun i=> !aau b sh i)
  rw[s1,s2,show ga (bw [sh.length]) (aS (fun i=> !aau b sh i) sh.length)=[] from g4] at c
  exact kX c
theorem Yq{sh:List Int}(h:sh∈pats){k:Nat}(hk:k<sh.length):Ym sh k:=by
 obtain⟨hb,hx⟩:=CF sh h
 have hc:=List.all_eq_true.1 Lg sh h
 rw[Bool.and_eq_true] at hc
 have hc:=List.all_eq_true.1 hc.2 k (List.mem_range.2 hk)
 unfold adw at hc
 simp only[Bool.and_eq_true,beq_iff_eq,decide_eq_true_eq] at hc
 obtain⟨g1,g2,g3⟩:=hc
 have hok:=Lk hb (fun i=> !decide ((i:Int)∈aaT sh k))
 have ht:bG (c_ (jF sh k))=[jF sh k]:=xm _ _
 have hle:(bG (c_ (jF sh k))).length≤100000:=by rw[ht];simp
 obtain⟨s1,s2⟩:=Lo sh.length (fun i=> !decide ((i:Int)∈aaT sh k))
 obtain⟨s3,s4⟩:=Yo sh.length (fun i=> !decide ((i:Int)∈aaT sh k))
 have c1:=Ci hok hle
 have c2:=K0 hok hle
 rw[s1,s2,show ga (bw [sh.length]) (aS (fun i=> !decide ((i:Int)∈aaT sh k)) sh.length)=[(k:Int)] from g1] at c1
 rw[s3,s4,show dX sh.length (aS (fun i=> !decide ((i:Int)∈aaT sh k)) sh.length)=aaT sh k from g2] at c2
 exact⟨kX c1,kX c2,g3⟩
end Go.Proofs.YtmcdlpegncaihaaGreat.C
namespace Go.Proofs.YtmcdlpegncaihaaGreat.C
open Go.Z4
set_option maxRecDepth 10000 in
theorem Yr:∀k<4,∀n:Nat,n<256→((Int.fdiv (n:Int) (2^(min k (IntKind.bits .u8)))).tmod 2==1)=n.testBit k:=by decide+kernel
theorem Ys(ha:aG Tryz.prog 5 [] (B true))(hb:aG Tryz.prog 6 [] (B true))(p:F.bA){na nb bt:Nat}(hna:na≤65535)(hnb:nb≤65535)(Yt:bt<256):aG Tryz.prog 3 [p.av,.agg [F.U na,F.U nb],.lit (.int .u8 bt)] (B true):=by
 have Yu:=F.wrap_i64 (a:=(na:Int)) (by omega)
 have Yv:=F.wrap_i64 (a:=(nb:Int)) (by omega)
 refine pc t3 (by simp) fun _=> ?_
 have c1:=F.Hu p
 simp -implicitDefEqProofs only[m3]
 refine ay (fun st=>st.env 2=.lit (.int .u8 bt)∧st.env 3=.ref p.cs∧st.env 4=.ref [F.U na,F.U nb]) ?_ ?_
 ·intro k hk
  simp -implicitDefEqProofs
  exact hk _ (by simp)
 rintro st ⟨e2,e3,e4⟩
 refine ay (fun st=>st.env 2=.lit (.int .u8 bt)∧st.env 3=.ref p.cs∧st.env 4=.ref [F.U na,F.U nb]∧st.env 9=I (F.gU p)) ?_ ?_
 ·intro k hk
  simp -implicitDefEqProofs [e3]
  refine aL c1 ?_
  simp -implicitDefEqProofs
  exact hk _ (by simp[e2,e3,e4,F.gU])
 clear e2 e3 e4
 rintro st ⟨e2,e3,e4,e9⟩
 refine ay (fun st=>st.env 2=.lit (.int .u8 bt)∧st.env 3=.ref p.cs∧st.env 4=.ref [F.U na,F.U nb]∧F.gU p=0) ?_ ?_
 ·intro k hk
  by_cases he:F.gU p=0
  ·simp -implicitDefEqProofs [e9,he]
   exact hk _ ⟨by simp[e2],by simp[e3],by simp[e4],he⟩
  ·have he':(F.gU p != 0)=true:=by simp[he]
   simp -implicitDefEqProofs [e9,he']
   refine aL ha ?_
   simp -implicitDefEqProofs
   refine aL hb ?_
   simp -implicitDefEqProofs [r3]
 clear e2 e3 e4 e9
 rintro st ⟨e2,e3,e4,he⟩
 have c2:=F.V1 he na
 have xo:=F.V0 he na
 generalize Yw:F.tJ p na=m at*
 have hp:=F.abP he
 have hm:=F.tr (F.lK xo).2
 have c3:=F.Vw p m
 have hlr:F.tG p m=F.cj p m:=by unfold F.tG;rw[if_pos xo]
 rw[hlr,xo] at c3
 have hlen:=F.Iv hp hm
 have hpat:=F.wF Yh hp hm
 have hpat:12<(F.cj p m).length∨lV (F.cj p m)∈pats:=by rw[Bool.or_eq_true,decide_eq_true_eq,decide_eq_true_eq] at hpat;exact hpat
 have Yx:=fun(x:F.Lf) (hx:x∈F.cj p m)=>F.VG hp hm hx
 have Lp:∀i:Nat,i<(F.cj p m).length→F.pO p m i=(F.aS (F.iR (F.cj p m) i) (F.cj p m).length,((F.cj p m).length:Int) - 1 - i,0):=fun i hi=>by
  have h3:¬¬((0:Int)≤i∧(i:Int)≤((F.cj p m).length:Int) - 1):=not_not_intro (by omega)
  unfold F.pO
  rw[if_neg (not_not_intro xo),if_neg h3,Int.toNat_natCast]
 have c4:∀i:Nat,i<(F.cj p m).length→aG Tryz.prog 14 [p.av,m.av,I i] (.tuple [IL (F.aS (F.iR (F.cj p m) i) (F.cj p m).length),I (((F.cj p m).length:Int) - 1 - i),I 0]):=fun i hi=>by
  have:=F.VD p m i
  rwa [Lp i hi] at this
 have Z9:∀i:Nat,i<(F.cj p m).length→F.aS (F.iR (F.cj p m) i) (F.cj p m).length=aaT (lV (F.cj p m)) i:=fun i hi=>by
  unfold aaT
  rw[show(lV (F.cj p m)).length=(F.cj p m).length by simp[lV]]
  refine BD (q:=F.iR (F.cj p m) i) fun j hj=> ?_
  simp[F.iR,Le,lV,List.getD_eq_getElem?_getD,hi,hj]
 have ZR:m.Z7≤4:=by have:=F.wG hp hm;omega
 generalize F.cj p m=l at*
 clear c1 Yw Lp hlr
 refine ay (fun st=>st.env 2=.lit (.int .u8 bt)∧st.env 3=.ref p.cs∧st.env 4=.ref [F.U na,F.U nb]∧st.env 10=.ref m.cs) ?_ ?_
 ·intro k hk
  simp -implicitDefEqProofs [e3,e4,Yu]
  refine aL c2 ?_
  simp -implicitDefEqProofs
  intro b hb
  exact hk _ (by simp[e2,e3,e4])
 clear e2 e3 e4
 rintro st ⟨e2,e3,e4,aH⟩
 refine ay (fun st=>st.env 2=.lit (.int .u8 bt)∧st.env 3=.ref p.cs∧st.env 4=.ref [F.U na,F.U nb]∧st.env 9=I 0∧st.env 10=.ref m.cs∧st.env 11=F.LL l) ?_ ?_
 ·intro k hk
  simp -implicitDefEqProofs [e3,aH]
  refine aL c3 ?_
  simp -implicitDefEqProofs
  exact hk _ (by simp[e2,e3,e4,aH])
 clear e2 e3 e4 aH
 rintro st ⟨e2,e3,e4,e9,aH,aE⟩
 have uS:¬l=[]:=fun h=>by rw[h] at hlen;simp at hlen
 have jd:((l.length:Int)==0)=false:=beq_eq_false_iff_ne.2 (by omega)
 refine ay (fun st=>st.env 2=.lit (.int .u8 bt)∧st.env 3=.ref p.cs∧st.env 4=.ref [F.U na,F.U nb]∧st.env 10=.ref m.cs∧st.env 11=F.LL l) ?_ ?_
 ·intro k hk
  simp -implicitDefEqProofs [e9,aE,jd]
  exact hk _ (by simp[e2,e3,e4,aH,aE])
 clear e2 e3 e4 e9 aH aE
 rintro st ⟨e2,e3,e4,aH,aE⟩
 refine ay (fun st=>st.env 2=.lit (.int .u8 bt)∧st.env 3=.ref p.cs∧st.env 4=.ref [F.U na,F.U nb]∧st.env 10=.ref m.cs∧st.env 11=F.LL l∧st.env 12=.ref (cy [l.length])∧st.env 13=B (decide (l.length≤12))) ?_ ?_
 ·intro k hk
  simp -implicitDefEqProofs [aE]
  refine aL (Yk l.length) ?_
  simp -implicitDefEqProofs
  intro b hb
  exact hk _ (by simp[e2,e3,e4,aH,aE])
 clear e2 e3 e4 aH aE
 rintro st ⟨e2,e3,e4,aH,aE,aQ,eF⟩
 refine ay (fun st=>st.env 2=.lit (.int .u8 bt)∧st.env 3=.ref p.cs∧st.env 4=.ref [F.U na,F.U nb]∧st.env 10=.ref m.cs∧st.env 11=F.LL l∧st.env 12=.ref (cy [l.length])∧l.length≤12) ?_ ?_
 ·intro k hk
  simp -implicitDefEqProofs [eF]
  by_cases h12:l.length≤12
  ·simp -implicitDefEqProofs [h12]
   exact hk _ (by simp[e2,e3,e4,aH,aE,aQ];omega)
  ·simp -implicitDefEqProofs [h12]
   refine aL ha ?_
   simp -implicitDefEqProofs
   refine aL hb ?_
   simp -implicitDefEqProofs [r3]
 clear e2 e3 e4 aH aE aQ eF
 rintro st ⟨e2,e3,e4,aH,aE,aQ,h12⟩
 have hpat:lV l∈pats:=hpat.resolve_left (by omega)
 obtain⟨sh,hsh⟩:∃sh,sh=lV l:=⟨_,rfl⟩
 have xp:sh.length=l.length:=by rw[hsh];simp[lV]
 have Yy:∀i (hi:i<l.length),sh.getD i 0=l[i].dO:=fun i hi=>by rw[hsh];simp[lV,hi]
 rw[←hsh] at hpat Z9
 obtain⟨ZS,ZT⟩:=CF sh hpat
 obtain⟨f,hf⟩:=Yp hpat bt
 obtain⟨Lq,Lr,hfl,Yz,YA⟩:=hf
 rw[xp] at Lq Lr
 refine ay (fun st=>st.env 2=.lit (.int .u8 bt)∧st.env 3=.ref p.cs∧st.env 4=.ref [F.U na,F.U nb]∧st.env 10=.ref m.cs∧st.env 11=F.LL l∧st.env 12=.ref (cy [l.length])∧st.env 14=.slice 1 [] 15∧st.env 15=.slice 1 [] 16) ?_ ?_
 ·intro k hk
  simp -implicitDefEqProofs
  exact hk _ (by simp[e2,e3,e4,aH,aE,aQ])
 clear e2 e3 e4 aH aE aQ
 rintro st ⟨e2,e3,e4,aH,aE,aQ,Z_,bN⟩
 refine ay (fun st=>st.env 3=.ref p.cs∧st.env 4=.ref [F.U na,F.U nb]∧st.env 10=.ref m.cs∧st.env 11=F.LL l∧st.env 12=.ref (cy [l.length])∧st.env 14=.slice 1 ((gi sh bt).map I) 15∧st.env 15=.slice 1 ((iA sh bt).map I) 16) ?_ ?_
 ·intro k0 bM
  simp -implicitDefEqProofs only[cK]
  simp -implicitDefEqProofs
  refine bP l.length (fun k st=>st.env 2=.lit (.int .u8 bt)∧st.env 3=.ref p.cs∧st.env 4=.ref [F.U na,F.U nb]∧st.env 10=.ref m.cs∧st.env 11=F.LL l∧st.env 12=.ref (cy [l.length])∧st.env 14=.slice 1 ((aS (fun i=> !aau bt sh i) k).map I) 15∧st.env 15=.slice 1 ((aS (aau bt sh) k).map I) 16∧st.env 16=I k) ?_ ?_
  ·exact⟨by simp[e2],by simp[e3],by simp[e4],by simp[aH],by simp[aE],by simp[aQ],by simp[Z_,aS],by simp[bN,aS],by simp⟩
  clear e2 e3 e4 aH aE aQ Z_ bN st
  rintro k st hk ⟨e2,e3,e4,aH,aE,aQ,Z_,bN,bh⟩
  rw[cK]
  simp -implicitDefEqProofs [aE,bh]
  refine bY (fun hlt=> ?_) (fun hge=> ?_)
  ·have hx:=Yx _ (List.getElem_mem hlt)
   obtain⟨s,hs⟩:∃s:Nat,l[k].dO=s:=⟨l[k].dO.toNat,by omega⟩
   have uh:bt.testBit s=aau bt sh k:=by unfold aau;rw[Yy k hlt,hs];rfl
   have Ls:=Yr s (by omega) bt Yt
   have n1:¬l[k].dO<0:=by omega
   have n2:¬m.Z7≤l[k].dO:=by omega
   rw[uh] at Ls
   have ZU:=aaB (fun i=> !aau bt sh i) k
   have ZV:=aaB (aau bt sh) k
   refine fP ?_
   refine ay (fun st=>st.env 2=.lit (.int .u8 bt)∧st.env 3=.ref p.cs∧st.env 4=.ref [F.U na,F.U nb]∧st.env 10=.ref m.cs∧st.env 11=F.LL l∧st.env 12=.ref (cy [l.length])∧st.env 14=.slice 1 ((aS (fun i=> !aau bt sh i) k).map I) 15∧st.env 15=.slice 1 ((aS (aau bt sh) k).map I) 16∧st.env 16=I k) ?_ ?_
   ·intro k1 bq
    simp -implicitDefEqProofs [aH,aE,bh,hlt,n1,n2]
    exact bq _ (by simp[e2,e3,e4,aH,aE,aQ,Z_,bN,bh])
   clear e2 e3 e4 aH aE aQ Z_ bN bh
   rintro st ⟨e2,e3,e4,aH,aE,aQ,Z_,bN,bh⟩
   simp -implicitDefEqProofs [e2,aE,bh,hlt,hs,Ls]
   refine c8 (fun hq=> ?_) (fun hq=> ?_)
   ·have q1:=kP hq
    have q2:=j0 (q:=fun i=> !aau bt sh i) (n:=k) (by simp[hq])
    simp -implicitDefEqProofs [bN,bh]
    exact⟨by omega,by omega,i64 (by omega) (by omega),bz hlt ⟨by simp[e2],by simp[e3],by simp[e4],by simp[aH],by simp[aE],by simp[aQ],by simp[Z_,q2],by simp[q1],by simp⟩⟩
   ·have q1:=j0 hq
    have q2:=kP (q:=fun i=> !aau bt sh i) (n:=k) (by simp[hq])
    simp -implicitDefEqProofs [Z_,bh]
    exact⟨by omega,by omega,i64 (by omega) (by omega),bz hlt ⟨by simp[e2],by simp[e3],by simp[e4],by simp[aH],by simp[aE],by simp[aQ],by simp[q2],by simp[bN,q1],by simp⟩⟩
  ·obtain rfl:k=l.length:=by omega
   rw[←xp] at Z_ bN
   simp -implicitDefEqProofs
   exact bM _ ⟨by simp[e3],by simp[e4],by simp[aH],by simp[aE],by simp[aQ],by simp[Z_,gi],by simp[bN,iA]⟩
 clear e2 e3 e4 aH aE aQ Z_ bN
 rintro st ⟨e3,e4,aH,aE,aQ,Z_,bN⟩
 have ci:=Lc (l:=gi sh bt) (by have:=aaB (fun i=> !aau bt sh i) sh.length;unfold gi;omega)
 have qL:=aaB (aau bt sh) sh.length
 have qL:(iA sh bt).length≤sh.length:=qL
 refine ay (fun st=>st.env 3=.ref p.cs∧st.env 4=.ref [F.U na,F.U nb]∧st.env 9=I 0∧st.env 10=.ref m.cs∧st.env 11=F.LL l∧st.env 12=.ref (cy [l.length])∧st.env 14=.slice 1 ((gi sh bt).map I) 15∧st.env 15=.slice 1 ((iA sh bt).map I) 16∧∃b,st.env 17=.aj b 0∧st.loc b=some (fC f)) ?_ ?_
 ·intro k hk
  simp -implicitDefEqProofs [aQ,Z_]
  refine aL ci ?_
  simp -implicitDefEqProofs
  refine aL Lq ?_
  simp -implicitDefEqProofs
  intro b hb
  exact hk _ ⟨by simp[e3],by simp[e4],by simp,by simp[aH],by simp[aE],by simp[aQ],by simp[Z_],by simp[bN],b,by simp,by simp⟩
 clear e3 e4 aH aE aQ Z_ bN
 rintro st ⟨e3,e4,e9,aH,aE,aQ,Z_,bN,b,aY,lb⟩
 refine ay (fun st=>st.env 3=.ref p.cs∧st.env 4=.ref [F.U na,F.U nb]∧st.env 9=I 0∧st.env 10=.ref m.cs∧st.env 11=F.LL l∧st.env 12=.ref (cy [l.length])∧st.env 15=.slice 1 ((iA sh bt).map I) 16∧st.env 17=.aj b 0∧st.env 18=IL []∧st.env 19=IL []∧st.env 20=I 0∧st.loc b=some (fC f)) ?_ ?_
 ·intro k hk
  simp -implicitDefEqProofs [aQ,Z_]
  refine aL ci ?_
  simp -implicitDefEqProofs
  refine aL Lr ?_
  simp -implicitDefEqProofs
  exact hk _ (by simp[e3,e4,e9,aH,aE,aQ,bN,aY,lb])
 clear e3 e4 e9 aH aE aQ Z_ bN aY lb
 rintro st ⟨e3,e4,e9,aH,aE,aQ,bN,aY,bg,fO,dh,lb⟩
 refine ay (fun st=>st.env 3=.ref p.cs∧st.env 4=.ref [F.U na,F.U nb]∧st.env 10=.ref m.cs∧st.env 11=F.LL l∧st.env 12=.ref (cy [l.length])) ?_ ?_
 ·intro k hk
  have ct:=F.Bo f.lost (iA sh bt)
  rw[hfl,beq_self_eq_true] at ct
  have z1:(((iA sh bt).length:Int) != ((iA sh bt).length:Int))=false:=by simp
  simp -implicitDefEqProofs [e9,dh,aY,lb,bN,hfl]
  refine aL ct ?_
  simp -implicitDefEqProofs [aY,lb,bN,Yz,YA,bg,fO]
  exact⟨i64 (by omega) (by omega),i64 (by omega) (by omega),hk _ (by simp[e3,e4,aH,aE,aQ])⟩
 clear e3 e4 e9 aH aE aQ bN aY bg fO dh lb
 rintro st ⟨e3,e4,aH,aE,aQ⟩
 have tb:=F.IK nb l.length
 have hi:nb%l.length<l.length:=Nat.mod_lt _ (by omega)
 generalize nb%l.length=i at*
 have c5:=c4 i hi
 rw[Z9 i hi] at c5
 have ho:=Yq hpat (k:=i) (by omega)
 obtain⟨o1,o2,o3⟩:=ho
 rw[xp] at o1 o2 o3
 refine ay (fun st=>st.env 3=.ref p.cs∧st.env 10=.ref m.cs∧st.env 11=F.LL l∧st.env 12=.ref (cy [l.length])∧st.env 21=I i) ?_ ?_
 ·intro k hk
  simp -implicitDefEqProofs [e4,aE,Yv,tb,uS]
  exact hk _ (by simp[e3,aH,aE,aQ])
 clear e3 e4 aH aE aQ
 rintro st ⟨e3,aH,aE,aQ,e21⟩
 obtain⟨M,hM⟩:∃M,M=aaT sh i:=⟨_,rfl⟩
 rw[←hM] at c5 o2 o3
 refine ay (fun st=>st.env 11=F.LL l∧st.env 12=.ref (cy [l.length])∧st.env 21=I i∧st.env 22=IL M∧st.env 23=I ((l.length:Int) - 1 - i)∧st.env 24=I 0) ?_ ?_
 ·intro k hk
  simp -implicitDefEqProofs [e3,aH,e21]
  refine aL c5 ?_
  simp -implicitDefEqProofs
  exact hk _ (by simp[aE,aQ,e21])
 clear e3 aH aE aQ e21
 rintro st ⟨aE,aQ,e21,cu,dw,oe⟩
 refine ay (fun st=>st.env 11=F.LL l∧st.env 12=.ref (cy [l.length])∧st.env 21=I i∧st.env 22=IL M∧st.env 23=I ((l.length:Int) - 1 - i)) ?_ ?_
 ·intro k hk
  simp -implicitDefEqProofs [oe]
  exact hk _ (by simp[aE,aQ,e21,cu,dw])
 clear aE aQ e21 cu dw oe
 rintro st ⟨aE,aQ,e21,cu,dw⟩
 refine ay (fun st=>st.env 11=F.LL l∧st.env 12=.ref (cy [l.length])∧st.env 21=I i∧st.env 22=IL M∧st.env 23=I ((l.length:Int) - 1 - i)∧st.env 25=.slice 1 [] 26) ?_ ?_
 ·intro k hk
  simp -implicitDefEqProofs
  exact hk _ (by simp[aE,aQ,e21,cu,dw])
 clear aE aQ e21 cu dw
 rintro st ⟨aE,aQ,e21,cu,dw,bL⟩
 refine ay (fun st=>st.env 12=.ref (cy [l.length])∧st.env 21=I i∧st.env 22=IL M∧st.env 23=I ((l.length:Int) - 1 - i)∧st.env 25=.slice 1 ((jF sh i).map I) 26) ?_ ?_
 ·intro k0 bM
  simp -implicitDefEqProofs only[cK]
  simp -implicitDefEqProofs
  refine bP l.length (fun k st=>st.env 11=F.LL l∧st.env 12=.ref (cy [l.length])∧st.env 21=I i∧st.env 22=IL M∧st.env 23=I ((l.length:Int) - 1 - i)∧st.env 25=.slice 1 ((aS (fun j=> !decide ((j:Int)∈M)) k).map I) 26∧st.env 26=I k) ?_ ?_
  ·exact⟨by simp[aE],by simp[aQ],by simp[e21],by simp[cu],by simp[dw],by simp[bL,aS],by simp⟩
  clear aE aQ e21 cu dw bL st
  rintro k st hk ⟨aE,aQ,e21,cu,dw,bL,e26⟩
  rw[cK]
  simp -implicitDefEqProofs [aE,e26]
  refine bY (fun hlt=> ?_) (fun hge=> ?_)
  ·have ln:=aaB (fun j=> !decide ((j:Int)∈M)) k
   have ch:=F.II M k
   obtain⟨q,CG⟩:∃q:Bool,q=decide ((k:Int)∈M):=⟨_,rfl⟩
   rw[←CG] at ch
   refine fP ?_
   simp -implicitDefEqProofs [cu,e26]
   refine aL ch ?_
   cases q with
   |false=>
    have q1:=kP (q:=fun j=> !decide ((j:Int)∈M)) (n:=k) (by simp[←CG])
    simp -implicitDefEqProofs [bL,e26]
    exact⟨by omega,by omega,i64 (by omega) (by omega),bz hlt ⟨by simp[aE],by simp[aQ],by simp[e21],by simp[cu],by simp[dw],by simp[q1],by simp⟩⟩
   |true=>
    have q1:=j0 (q:=fun j=> !decide ((j:Int)∈M)) (n:=k) (by simp[←CG])
    simp -implicitDefEqProofs [e26]
    exact⟨i64 (by omega) (by omega),bz hlt ⟨by simp[aE],by simp[aQ],by simp[e21],by simp[cu],by simp[dw],by simp[bL,q1],by simp⟩⟩
  ·obtain rfl:k=l.length:=by omega
   rw[←xp] at bL
   simp -implicitDefEqProofs
   refine bM _ ⟨by simp[aQ],by simp[e21],by simp[cu],by simp[dw],?_⟩
   rw[hM] at bL
   simpa[jF] using bL
 clear aE aQ e21 cu dw bL
 rintro st ⟨aQ,e21,cu,dw,bL⟩
 have YB:=Lc (l:=jF sh i) (by have:=aaB (fun j=> !decide ((j:Int)∈aaT sh i)) sh.length;unfold jF;omega)
 refine ay (fun st=>st.env 21=I i∧st.env 22=IL M∧st.env 23=I ((l.length:Int) - 1 - i)∧∃b,st.env 27=.aj b 0∧st.loc b=some (gE [l.length] (c_ (jF sh i)))) ?_ ?_
 ·intro k hk
  simp -implicitDefEqProofs [aQ,bL]
  refine aL YB ?_
  simp -implicitDefEqProofs
  intro b hb
  exact hk _ ⟨by simp[e21],by simp[cu],by simp[dw],b,by simp,by simp⟩
 clear aQ e21 cu dw bL
 rintro st ⟨e21,cu,dw,b,bJ,lb⟩
 refine ay (fun st=>st.env 9=I 0∧st.env 18=IL [(i:Int)]∧st.env 21=I i∧st.env 22=IL M∧st.env 23=I ((l.length:Int) - 1 - i)∧st.env 27=.aj b 0∧st.loc b=some (gE [l.length] (c_ (jF sh i)))) ?_ ?_
 ·intro k hk
  simp -implicitDefEqProofs [bJ,lb]
  refine aL o1 ?_
  simp -implicitDefEqProofs
  exact hk _ (by simp[e21,cu,dw,bJ,lb])
 clear e21 cu dw bJ lb
 rintro st ⟨e9,bg,e21,cu,dw,bJ,lb⟩
 refine ay (fun st=>st.env 9=I 0∧st.env 18=IL [(i:Int)]∧st.env 20=I 0∧st.env 21=I i∧st.env 22=IL M∧st.env 23=I ((l.length:Int) - 1 - i)∧st.env 28=IL M) ?_ ?_
 ·intro k hk
  simp -implicitDefEqProofs [bJ,lb]
  refine aL o2 ?_
  simp -implicitDefEqProofs
  exact hk _ (by simp[e9,bg,e21,cu,dw])
 clear e9 bg e21 cu dw bJ lb
 rintro st ⟨e9,bg,dh,e21,cu,dw,gz⟩
 have t1:=F.Bo [(i:Int)] [(i:Int)]
 have t2:=F.Bo M M
 have t3:=F.II M ((l.length:Int) - 1 - i)
 rw[beq_self_eq_true] at t1 t2
 rw[decide_eq_true o3] at t3
 simp -implicitDefEqProofs [e9,bg,dh,e21]
 refine aL t1 ?_
 simp -implicitDefEqProofs [cu,gz]
 refine aL t2 ?_
 simp -implicitDefEqProofs [dw,gz]
 refine aL t3 ?_
 simp -implicitDefEqProofs
 refine aL ha ?_
 simp -implicitDefEqProofs
 refine aL hb ?_
 simp -implicitDefEqProofs [r3]
end Go.Proofs.YtmcdlpegncaihaaGreat.C
namespace Go.Proofs.YtmcdlpegncaihaaGreat.C
open Go.Z4
def exN:List Nat:=[4,4]
def dz:List (List Int):=[[4],[5],[],[0],[1],[3],[1],[6,7]]
theorem pY:OKb exN:=⟨by decide,by decide,by decide⟩
theorem rI:eP exN dz:=⟨pY,by decide,by decide,by decide⟩
def uo:Flt:=⟨[4,5,-1,0,1,3,1,6],[2,7],2,[2],[6],[3],5⟩
theorem Lt:iu (bw exN) (aT exN) (bG dz)=some uo:=by kernel_rfl
theorem YC:aG Tryz.prog 94 [.lit (.int .u64 6)] (I 3):=(vW F.A5 .nil (f:=94) (xs:=[.lit (.int .u64 6)]) (r:=I 3) (by kernel_rfl)).1
theorem YD:aG Tryz.prog 10 [.agg (bO exN dz)] (.tuple [.agg (fC uo),I 0]):=xd rI Lt
theorem YE:aaO exN dz=(5,5):=by decide+kernel
theorem YF:aG Tryz.prog 34 [.agg (bO exN dz)] (.tuple [.agg [I 5,I 5],I 0]):=by
 have:=XF rI
 rw[YE] at this
 exact this
theorem YG:nh exN dz (dX (aT exN).length)=[2]:=by decide+kernel
theorem YH:ni exN dz (dX (aT exN).length)=[2,6,7]:=by decide+kernel
theorem YI:nh exN dz (ga (bw exN))=[1]:=by decide+kernel
theorem YJ:ni exN dz (ga (bw exN))=[1,4,5]:=by decide+kernel
theorem Lu:(bG dz).length≤100000:=by decide
theorem YK:aG Tryz.prog 16 [.agg (bO exN dz)] (.tuple [IL [2],IL [2,6,7],I 0]):=by
 have:=K0 rI Lu
 rw[YG,YH] at this
 exact this
theorem YL:aG Tryz.prog 12 [.agg (bO exN dz)] (.tuple [IL [1],IL [1,4,5],I 0]):=by
 have:=Ci rI Lu
 rw[YI,YJ] at this
 exact this
theorem CH:iy uo=[0,1,3,4,5,7]:=by decide+kernel
theorem YM:oo uo=[3,4,5,0,1,7]:=by decide+kernel
theorem YN:aG Tryz.prog 35 [.agg (bO exN dz)] (.tuple [IL [3,4,5,0,1,7],I 0]):=by
 have:=XO (q:=3) rI Lt (by decide) (by decide) (by rw[CH];decide) (by rw[CH];decide) (by rw[CH];exact YC)
 rw[YM] at this
 exact this
theorem YO:eP exN (dz.set 7 [6]):=⟨pY,by decide,by decide,by decide⟩
theorem YP:eP exN (dz.set 7 [7]):=⟨pY,by decide,by decide,by decide⟩
theorem YQ:aaO exN (dz.set 7 [6])=(5,5):=by decide+kernel
theorem YR:aaO exN (dz.set 7 [7])=(5,5):=by decide+kernel
theorem YS:K5 exN dz:=⟨fun i hi h2 x hx=>by
 have h7:i=7:=by
  have h8:i<8:=hi
  have:∀i:Fin 8,2≤(dz[i]).length→i=7:=by decide
  have:=this ⟨i,h8⟩ h2
  exact congrArg Fin.val this
 subst h7
 have hx:x=6∨x=7:=by simpa[dz] using hx
 rcases hx with rfl|rfl
 ·rw[YQ];exact⟨YO,by decide,by decide,by decide,by decide⟩
 ·rw[YR];exact⟨YP,by decide,by decide,by decide,by decide⟩⟩
theorem Lv:cR exN dz dz.length=(7,0):=by decide+kernel
theorem YT:aG Tryz.prog 36 [.agg (bO exN dz)] (.tuple [I 7,I 0]):=by
 have:=XU rI YS (by rw[Lv];decide)
 rw[Lv] at this
 exact this
def CI:List (List Int):=[[0],[1]]
def CJ:List (List Int):=[[2],[3],[4]]
def uq:List (List Int):=[[0]]
theorem YU:eP exN CI:=⟨pY,by decide,by decide,by decide⟩
theorem YV:eP exN CJ:=⟨pY,by decide,by decide,by decide⟩
theorem Lw:eP exN uq:=⟨pY,by decide,by decide,by decide⟩
theorem YW:uj (bw exN) [0,1] [2,3,4]=([0,1],0):=by decide+kernel
theorem YX:uj (bw exN) [0] [0]=([],5):=by decide+kernel
theorem YY:aG Tryz.prog 37 [.agg (cy exN),ILL CI,ILL CJ] (.tuple [IL [0,1],I 0]):=by
 have:=K7 (t:=[0,1]) (u:=[2,3,4]) YU YV (by decide) (by decide) (by decide) (by decide)
 rw[YW] at this
 exact this
theorem YZ:aG Tryz.prog 37 [.agg (cy exN),ILL uq,ILL uq] (.tuple [IL [],I 5]):=by
 have:=K7 (t:=[0]) (u:=[0]) Lw Lw (by decide) (by decide) (by decide) (by decide)
 rw[YX] at this
 exact this
def xq:List (List Int):=[[0],[3],[4],[5],[6],[7]]
theorem Y0:eP exN xq:=⟨pY,by decide,by decide,by decide⟩
def CK:Flt:=⟨[0,3,4,5,6,7],[1,2],1,[],[],[],1⟩
theorem Y1:iu (bw exN) (aT exN) (bG xq)=some CK:=by kernel_rfl
theorem Y2:aG Tryz.prog 10 [.agg (bO exN xq)] (.tuple [.agg (fC CK),I 0]):=xd Y0 Y1
theorem ady{f:FuncId}{x:AV}{cs1 aU:List (List Int)}{r:AV}(h:aG Tryz.prog f [x,ILL cs1,ILL aU] r):aG Tryz.prog f [x,nq cs1,nq aU] r:=
 aG.args h rfl fun w A v i hi=>by
  match i,hi with
  |0,hi=>exact hi
  |1,hi=>exact CD hi
  |2,hi=>exact CD hi
  |n+3,hi=>exact .any _
def Y3:List Row:=[(6,174,m6,r6),(11,29,wK,wL),(13,31,vX,qO),(38,7,Bz,BA),(39,52,JU,JV),(40,8,JW,JX)]
theorem Y4:kL Tryz.prog Y3:=.cons (bI t6) (.cons (bI t11) (.cons (bI t13) (.cons (bI t38) (.cons (bI t39) (.cons (bI t40) (.nil))))))
def Y5:List aX:=[(33,[],.agg (gE exN dz)),(10,[.agg (gE exN dz)],.tuple [.agg (fC uo),I 0]),(34,[.agg (gE exN dz)],.tuple [.agg [I 5,I 5],I 0]),(16,[.agg (gE exN dz)],.tuple [IL [2],IL [2,6,7],I 0]),(12,[.agg (gE exN dz)],.tuple [IL [1],IL [1,4,5],I 0]),(35,[.agg (gE exN dz)],.tuple [IL [3,4,5,0,1,7],I 0]),(36,[.agg (gE exN dz)],.tuple [I 7,I 0]),(37,[.agg (cy exN),nq CI,nq CJ],.tuple [IL [0,1],I 0]),(37,[.agg (cy exN),nq uq,nq uq],.tuple [IL [],I 5]),(10,[.agg (gE exN xq)],.tuple [.agg (fC CK),I 0])]
theorem Y6:iN Tryz.prog Y5:=.cons Yg (by kernel_rfl) (by kernel_rfl) (.cons (kX YD) (by kernel_rfl) (by kernel_rfl) (.cons (kX YF) (by kernel_rfl) (by kernel_rfl) (.cons (kX YK) (by kernel_rfl) (by kernel_rfl) (.cons (kX YL) (by kernel_rfl) (by kernel_rfl) (.cons (kX YN) (by kernel_rfl) (by kernel_rfl) (.cons (kX YT) (by kernel_rfl) (by kernel_rfl) (.cons (ady YY) (by kernel_rfl) (by kernel_rfl) (.cons (ady YZ) (by kernel_rfl) (by kernel_rfl) (.cons (kX Y2) (by kernel_rfl) (by kernel_rfl) .nil)))))))))
theorem Y7:aG Tryz.prog 6 [] (B true):=(vW Y4 Y6 (by kernel_rfl)).1
end Go.Proofs.YtmcdlpegncaihaaGreat.C
namespace Go.Proofs.YtmcdlpegncaihaaGreat.C
open Go.Z4
abbrev U8(n:Int):AV:=.lit (.int .u8 n)
theorem Y8{pl:Bool}:Rd Tryz.prog pl 5 U8 (fun n=>0≤n∧n≤255):=by
 have h:Rd Tryz.prog true 5 U8 (fun n=>0≤n∧n≤255):=(Rd.int Tryz.underlying5).map id (fun _=>rfl) (fun _ h=>h)
 cases pl
 ·exact h.loose
 ·exact h
theorem Y9(p:F.bA)(xs:List Int)(b:Int)(_:True)(hx:xs.length=2∧∀x∈xs,0≤x∧x≤65535)(hb:0≤b∧b≤255):aG Tryz.prog 3 [p.av,.agg (xs.flatMap fun y=>(F.U y).cells),U8 b] (B true):=by
 obtain⟨ef,Ly⟩:=hx
 match xs,ef with
 |[a,c],_=>
 have hca:=Ly a (by simp)
 have tX:=Ly c (by simp)
 obtain⟨na,rfl⟩:∃n:Nat,a=n:=⟨a.toNat,by omega⟩
 obtain⟨nc,rfl⟩:∃n:Nat,c=n:=⟨c.toNat,by omega⟩
 obtain⟨nb,rfl⟩:∃n:Nat,b=n:=⟨b.toNat,by omega⟩
 exact Ys F.U' Y7 p (by omega) (by omega) (by omega)
end Go.Proofs.YtmcdlpegncaihaaGreat.C
