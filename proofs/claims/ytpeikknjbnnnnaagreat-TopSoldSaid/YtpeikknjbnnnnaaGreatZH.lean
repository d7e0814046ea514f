/- The layer sale as plain data: sales, what is bid, who buys, and for what. Contracts of small functions of the layer sale: outside, in, part, result, entry, bid, span. Contracts: the price behind a price. Contracts: who is stronger. The checks of a sale, as plain data; contracts of the reference's: names, lots, bids, Check. Contracts of the reference's: bids, Check. Contracts of the reference's: Check of a sale; what a valid sale is. Contracts of the program's: first, Contains. Contracts: the program's Check of a valid sale. Contracts: who is stronger; the strongest. Contracts: the strongest bidder of a lot. Contracts: the price of a lot. Contracts: a sale that is looked at. The cells of results of a sale. Contracts: who buys each lot, and for what, with a ring. Contracts: a sale with a ring; Sell. Contracts: Sell; a ring by bits. All rings, handed over one by one: the program's iterator. -/
import Derived.Test.YtpeikknjbnnnnaaGreatZF
import Derived.Test.YtpeikknjbnnnnaaGreatZE
namespace Go.Proofs.YtpeikknjbnnnnaaGreat.A
open Go.az O
structure Step where
 src:Int
 f_:Int
structure mu where
 name:ByteArray
 ga:Int
 reserve:Int
 lf:Bool
structure je where
 dh:Int
 ay:Int
 most:Int
structure aB where
 steps:List Step
 kA:Int
 kB:Int
 days:Int
 aH:List ByteArray
 YS:List ByteArray
 a_:List mu
 bk:List je
abbrev mw(x:Step):AV:=.agg [I x.src,I x.f_]
abbrev iG(x:mu):AV:=.agg [S x.name,I x.ga,I x.reserve,B x.lf]
abbrev Zj(x:je):AV:=.agg [I x.dh,I x.ay,I x.most]
abbrev J0(s:aB):List AV:=[.slice 2 (s.steps.map mw) 0,I s.kA,I s.kB,I s.days,SL s.aH,SL s.YS,.slice 4 (s.a_.map iG) 0,.slice 3 (s.bk.map Zj) 0]
abbrev bQ(s:aB):AV:=.agg (J0 s)
def eS:Step:=⟨0,0⟩
def wR:mu:=⟨.empty,0,0,false⟩
def jO:je:=⟨0,0,0⟩
def qb(f:Nat→je→Int)(s:aB):Nat→List Int
 |0=>List.replicate 36 0
 |k+1=>(qb f s k).set ((s.bk.getD k jO).ay*6+(s.bk.getD k jO).dh).toNat (f k (s.bk.getD k jO))
abbrev ZF(s:aB)(k:Nat):List Int:=qb (fun _ x=>x.most) s k
abbrev nw(s:aB)(k:Nat):List Int:=qb (fun k _=>(k:Int)+1) s k
def eI(s:aB)(ay b:Nat):Int:=(ZF s s.bk.length).getD (ay*6+b) 0
def placeOf(s:aB)(ay b:Nat):Int:=(nw s s.bk.length).getD (ay*6+b) 0
theorem ua(f:Nat→je→Int)(s:aB):∀k,(qb f s k).length=36
 |0=>by simp[qb]
 |k+1=>by simp[qb,ua f s k]
def rM(s:aB)(ay one:Nat):Option Nat→Bool
 |none=>decide (0<placeOf s ay one)
 |some other=>if placeOf s ay one=0 then false else decide (eI s ay other<eI s ay one)||(decide (eI s ay one=eI s ay other)&&decide (placeOf s ay one<placeOf s ay other))
def kC(s:aB)(ay:Nat)(q:Nat→Bool):Nat→Option Nat
 |0=>none
 |k+1=>if q k&&rM s ay k (kC s ay q k) then some k else kC s ay q k
def jf(s:aB)(ay:Nat)(q:Nat→Bool):Option Nat:=kC s ay q s.aH.length
def jP:Option Nat→Int
 |none=> -1
 |some k=>k
def jg(s:aB)(p:Int):Nat→Int
 |0=>0
 |k+1=>if (s.steps.getD k eS).src≤p then (s.steps.getD k eS).f_ else jg s p k
def YD(s:aB)(p:Int):Int:=jg s p s.steps.length
def gC(s:aB)(p others:Int):Nat→Int
 |0=>others
 |k+1=>if p<(s.steps.getD k eS).src then min (gC s p others k) ((s.steps.getD k eS).src - 1) else gC s p others k
def iH(s:aB)(p others most:Int):Int:=max 1 (min ((gC s p others s.steps.length - p).tdiv (YD s p)+1) ((most - p).tdiv (YD s p)))
def Zk(s:aB)(p others most:Int):Bool:=decide (p≤others)&&decide (p+YD s p≤most)
def dX(s:aB)(others most:Int)(p:Int):Nat→Int
 |0=>p
 |n+1=>dX s others most p n+iH s (dX s others most p n) others most*YD s (dX s others most p n)
def uc(s:aB)(others most:Int):Nat→Int→Int
 |0,p=>p
 |f+1,p=>if Zk s p others most then uc s others most f (p+iH s p others most*YD s p) else p
def ud(s:aB)(p others most:Int):Int:=uc s others most 100001 p
def gQ(s:aB)(ay one:Nat)(q:Nat→Bool)(Ck:Option Nat):Nat→Int
 |0=>0
 |k+1=>if k≠one∧(q k=false∨Ck=some k) then max (gQ s ay one q Ck k) (eI s ay k) else gQ s ay one q Ck k
def iI(s:aB)(q:Nat→Bool)(ay:Nat):Int×Int:=
 match jf s ay fun _=>true with
 |none=>(-1,0)
 |some one=>if eI s ay one<(s.a_.getD ay wR).reserve then (-1,0) else (one,ud s (s.a_.getD ay wR).reserve (gQ s ay one q (jf s ay q) s.aH.length) (eI s ay one))
def Zl(s:aB)(q:Nat→Bool)(k:Nat):List (Int×Int):=(List.range k).map (iI s q)
def fA(s:aB)(q:Nat→Bool):List (Int×Int):=Zl s q s.a_.length
theorem UK(s:aB)(q q':Nat→Bool)(ay:Nat):(iI s q ay).1=(iI s q' ay).1:=by
 unfold iI
 split
 ·rfl
 ·split<;>rfl
end Go.Proofs.YtpeikknjbnnnnaaGreat.A
namespace Go.Proofs.YtpeikknjbnnnnaaGreat.A
open Go.az O
theorem A6(n lo hi:Int):aA Tryz.prog 91 [I n,.ref [I lo],.ref [I hi]] (B (decide (n<lo)||decide (hi<n))):=by
 refine pc t91 (by simp) fun _=> ?_
 by_cases h:n<lo<;>simp -implicitDefEqProofs [Hf,Hg,h,s9,kW]
theorem Zv(lo hi:Int)(l:List Int):aA Tryz.prog 63 [I lo,I hi,IL l] (B (out lo hi l)):=by
 refine pc t63 (by simp) fun _=> ?_
 simp -implicitDefEqProofs [GR]
 refine aj (HP l 91 [.ref [I lo],.ref [I hi]] _ fun x _=>A6 x lo hi) ?_
 simp -implicitDefEqProofs [r63,out]
theorem A7(n lo hi:Int):aA Tryz.prog 11 [I n,I lo,I hi] (B (decide (lo≤n∧n≤hi))):=by
 refine pc t11 (by simp) fun _=> ?_
 by_cases h:lo≤n<;>simp -implicitDefEqProofs [Gs,Gt,h]
end Go.Proofs.YtpeikknjbnnnnaaGreat.A
namespace Go.Proofs.YtpeikknjbnnnnaaGreat.A
open Go.az O
abbrev ue(s:aB)(b:Nat):List AV:=(ZF s s.bk.length).map I++((nw s s.bk.length).map I++[.bL b])
abbrev cA(s:aB)(b:Nat):AV:=.ref (.slice 2 (s.steps.map mw) 0::I s.kA::I s.kB::I s.days::SL s.aH::SL s.YS::.slice 4 (s.a_.map iG) 0::.slice 3 (s.bk.map Zj) 0::ue s b)
structure StepsOK (s:aB):Prop where
 len:1≤s.steps.length∧s.steps.length≤5
 f_:∀x∈s.steps,1≤x.f_∧x.f_≤100000
 first:(s.steps.getD 0 eS).src=0
theorem J1{s:aB}(h:StepsOK s)(b:Nat){p:Int}(hp:0≤p∧p≤1000000):aA Tryz.prog 64 [cA s b,I p] (I (p+YD s p)):=by
 refine pc t64 (by simp) fun _=> ?_
 have hl:=h.len
 have hb:∀k,0≤jg s p k∧jg s p k≤100000:=fun k=>by
  induction k with
  |zero=>simp[jg]
  |succ k ih=>
   unfold jg
   split
   ·by_cases hk:k<s.steps.length
    ·have:=h.f_ s.steps[k] (List.getElem_mem hk)
     rw[List.getD_eq_getElem?_getD,List.getElem?_eq_getElem hk]
     simp;omega
    ·rw[List.getD_eq_getElem?_getD,List.getElem?_eq_none (by omega)]
     simp[eS]
   ·exact ih
 have Z_:=hb s.steps.length
 unfold YD
 simp -implicitDefEqProofs [m64]
 refine bw s.steps.length (fun k st=>st.env 0=cA s b∧st.env 1=I p∧st.env 5=I (jg s p k)∧st.env 12=.slice 2 (s.steps.map mw) 0∧st.env 13=I s.steps.length∧st.env 14=I k) ?_ ?_
 ·simp[jg]
 rintro k st hk ⟨e0,e1,e5,aQ,aR,bf⟩
 simp -implicitDefEqProofs [aR,bf]
 refine bu (fun hlt=> ?_) (fun hge=> ?_)
 ·have hlt:k<s.steps.length:=by omega
  have hs:jg s p (k+1)=if s.steps[k].src≤p then s.steps[k].f_ else jg s p k:=by
   show(if (s.steps.getD k eS).src≤p then (s.steps.getD k eS).f_ else jg s p k)=_
   rw[List.getD_eq_getElem?_getD,List.getElem?_eq_getElem hlt];rfl
  simp -implicitDefEqProofs [aQ,bf,hlt,e1]
  intro b7 _
  by_cases hc:s.steps[k].src≤p
  ·rw[if_pos hc] at hs
   simp -implicitDefEqProofs [hc,bf]
   exact⟨i64 (by omega) (by omega),aN hlt ⟨by simp[e0],by simp[e1],by simp[hs],by simp[aQ],by simp[aR],by simp⟩⟩
  ·rw[if_neg hc] at hs
   simp -implicitDefEqProofs [hc,bf]
   exact⟨i64 (by omega) (by omega),aN hlt ⟨by simp[e0],by simp[e1],by simp[hs,e5],by simp[aQ],by simp[aR],by simp⟩⟩
 ·have hk':k=s.steps.length:=by omega
  subst hk'
  simp -implicitDefEqProofs [e1,e5]
  exact⟨i64 (by omega) (by omega),by simp[gp,r64]⟩
end Go.Proofs.YtpeikknjbnnnnaaGreat.A
namespace Go.Proofs.YtpeikknjbnnnnaaGreat.A
open Go.az O
theorem wS(s:aB):(ZF s s.bk.length).length=36:=ua _ s _
theorem Cl(s:aB):(nw s s.bk.length).length=36:=ua _ s _
theorem UL(s:aB)(b n:Nat)(hn:n<36):((ue s b).drop n).getD 0 .any=I ((ZF s s.bk.length).getD n 0):=by
 have hl:=wS s
 rw[List.getD_eq_getElem?_getD,List.getElem?_drop,List.getElem?_append_left (by simp;omega),List.getElem?_map,List.getD_eq_getElem?_getD]
 rw[Nat.add_zero,List.getElem?_eq_getElem (by omega)];rfl
theorem UM(s:aB)(b n:Nat)(hn:n<36):((ue s b).drop (36+n)).getD 0 .any=I ((nw s s.bk.length).getD n 0):=by
 have hl:=wS s
 have mP:=Cl s
 rw[List.getD_eq_getElem?_getD,List.getElem?_drop,List.getElem?_append_right (by simp;omega),List.getElem?_append_left (by simp;omega),List.getElem?_map,List.getD_eq_getElem?_getD]
 simp only[List.length_map]
 rw[show 36+n+0 - (ZF s s.bk.length).length=n by omega,List.getElem?_eq_getElem (by omega)];rfl
end Go.Proofs.YtpeikknjbnnnnaaGreat.A
namespace Go.Proofs.YtpeikknjbnnnnaaGreat.A
open Go.az O
def YX(l:List ByteArray)(i:Nat):Int:=ew (l.getD i .empty) (l.take i)
def UN:Option (Nat×Int)→Int×Int
 |some (i,e)=>(i,e)
 |none=>(0,0)
def c9(f:Nat→Int)(n:Nat)(most:Int):Int×Int:=if most<(n:Int) then (0,3) else UN (errs f n)
abbrev T2(x:Int×Int):AV:=.tuple [I x.1,I x.2]
theorem nx{f:Nat→Int}{n:Nat}{most:Int}(h:most<n):c9 f n most=(0,3):=if_pos h
theorem jh{f:Nat→Int}{n k:Nat}{most:Int}(h:¬most<n)(hk:k<n)(hb:∀j<k,f j=0)(hn:f k≠0):c9 f n most=((k:Int),f k):=by unfold c9;rw[if_neg h,vZ hk hb hn];rfl
theorem lp{f:Nat→Int}{n:Nat}{most:Int}(h:¬most<n)(hb:∀j<n,f j=0):c9 f n most=(0,0):=by unfold c9;rw[if_neg h,ZQ hb];rfl
theorem uf{f:Nat→Int}{n:Nat}{most:Int}(h:(c9 f n most).2=0):(n:Int)≤most∧∀j<n,f j=0:=by
 by_cases hm:most<n
 ·rw[nx hm] at h;cases h
 ·refine⟨by omega,?_⟩
  unfold c9 at h
  rw[if_neg hm] at h
  cases he:errs f n with
  |none=>exact R9 he
  |some q=>rw[he] at h;exact absurd h (R_ he)
theorem J2(l:List ByteArray)(most:Int):aA Tryz.prog 12 [SL l,I most] (T2 (c9 (YX l) l.length most)):=by
 refine pc t12 (by simp) fun hfit=> ?_
 have hl:=cP (hfit 0)
 simp only[List.length_map] at hl
 by_cases hm:most<(l.length:Int)
 ·simp -implicitDefEqProofs [AE,hm,vP,nx hm]
 obtain⟨R,hR⟩:∃R,R=c9 (YX l) l.length most:=⟨_,rfl⟩
 rw[←hR]
 simp -implicitDefEqProofs [AE,hm]
 refine bw l.length (fun k s=>s.env 0=SL l∧s.env 6=I k∧∀j<k,YX l j=0) ?_ ?_
 ·simp
 rintro k s hk ⟨e0,e6,hno⟩
 simp -implicitDefEqProofs [e0,e6]
 refine bu (fun hlt=> ?_) (fun hge=> ?_)
 ·have hlt:k<l.length:=by omega
  have hE:YX l k=ew l[k] (l.take k):=by unfold YX;rw[List.getD_eq_getElem?_getD,List.getElem?_eq_getElem hlt];rfl
  have hf:=Bb l[k] (l.take k)
  rw[←hE,SL,List.map_take] at hf
  simp -implicitDefEqProofs [e0,e6,hlt]
  refine⟨by omega,aj hf ?_⟩
  simp -implicitDefEqProofs
  by_cases he:YX l k=0
  ·have he':(YX l k != 0)=false:=by simp[he]
   simp -implicitDefEqProofs [he',e6]
   exact⟨i64 (by omega) (by omega),aN hlt ⟨by simp[e0],by simp,fq hno he⟩⟩
  ·have he':(YX l k != 0)=true:=by simp[he]
   simp -implicitDefEqProofs [he',e6,vP,hR,jh hm hlt hno he]
 ·obtain rfl:k=l.length:=by omega
  simp -implicitDefEqProofs [vP,hR,lp hm hno]
abbrev bG(s:aB):AV:=.ref (J0 s)
def ji(s:aB)(k:Nat):List ByteArray:=(s.a_.take k).map mu.name
def ZA(s:aB)(i:Nat):Int:=
 let x:=s.a_.getD i wR
 let e:=ew x.name (ji s i)
 if e≠0 then e else if¬(0≤x.ga∧x.ga≤(s.YS.length:Int) - 1) then 4 else if¬(1≤x.reserve∧x.reserve≤100000) then 7 else 0
theorem wT{s:aB}{i:Nat}(hi:i<s.a_.length):s.a_.getD i wR=s.a_[i]:=by simp[hi]
theorem wU{s:aB}{i:Nat}(hi:i<s.bk.length):s.bk.getD i jO=s.bk[i]:=by simp[hi]
theorem ug{s:aB}{i:Nat}(hi:i<s.steps.length):s.steps.getD i eS=s.steps[i]:=by simp[hi]
theorem eT(n lo hi:Int)(b:Bool)(h:decide (lo≤n∧n≤hi)=b):aA Tryz.prog 11 [I n,I lo,I hi] (B b):=h▸A7 n lo hi
theorem UO(s:aB):aA Tryz.prog 13 [bQ s] (T2 (c9 (ZA s) s.a_.length 6)):=by
 refine pc t13 (by simp) fun hfit=> ?_
 have lL:=cP (iy (hfit 0) 6)
 have lS:=cP (iy (hfit 0) 5)
 simp only[List.length_map] at lL lS
 obtain⟨R,hR⟩:∃R,R=c9 (ZA s) s.a_.length 6:=⟨_,rfl⟩
 rw[←hR]
 simp -implicitDefEqProofs only[Gu]
 refine au (fun st=>st.env 1=bG s) ?_ ?_
 ·intro k hk
  simp -implicitDefEqProofs
  exact hk _ rfl
 intro st e1
 by_cases hm:(6:Int)<(s.a_.length:Int)
 ·simp -implicitDefEqProofs [e1,hm,r13,hR,nx hm]
 refine au (fun st=>st.env 1=bG s) ?_ ?_
 ·intro k hk
  simp -implicitDefEqProofs [e1,hm]
  exact hk _ (by simp[e1])
 intro st e1
 refine au (fun st=>st.env 1=bG s∧st.env 4=.slice 1 [] 5) ?_ ?_
 ·intro k hk
  simp -implicitDefEqProofs
  exact hk _ (by simp[e1])
 rintro st ⟨e1,e4⟩
 refine au (fun st=>∀j<s.a_.length,ZA s j=0) ?_ ?_
 ·intro k0 aX
  simp -implicitDefEqProofs
  refine bw s.a_.length (fun k st=>st.env 1=bG s∧st.env 4=.slice 1 ((ji s k).map S) 5∧st.env 5=I k∧∀j<k,ZA s j=0) ?_ ?_
  ·simp[e1,e4,ji]
  rintro k st hk ⟨e1,e4,e5,hno⟩
  simp -implicitDefEqProofs [e1,e5]
  refine bu (fun hlt=> ?_) (fun hge=> ?_)
  ·have hlt:k<s.a_.length:=by omega
   have hE:ZA s k=if ew s.a_[k].name (ji s k)≠0 then ew s.a_[k].name (ji s k) else if¬(0≤s.a_[k].ga∧s.a_[k].ga≤(s.YS.length:Int) - 1) then 4 else if¬(1≤s.a_[k].reserve∧s.a_[k].reserve≤100000) then 7 else 0:=by unfold ZA;rw[wT hlt]
   have hf:=Bb s.a_[k].name (ji s k)
   have cm:ji s (k+1)=ji s k++[s.a_[k].name]:=by unfold ji;rw[cV hlt,List.map_append];rfl
   have hl:(ji s k).length=k:=by simp[ji];omega
   generalize ji s k=nm at*
   generalize ew s.a_[k].name nm=e at*
   simp -implicitDefEqProofs [e1,e4,e5,hlt]
   refine aj hf ?_
   simp -implicitDefEqProofs [e4,e5,e1,hlt]
   refine⟨by omega,by omega,?_⟩
   by_cases he:e=0
   case neg=>
    have he':(e==0)=false:=by simp[he]
    have lQ:(e != 0)=true:=by simp[he]
    rw[if_pos he] at hE
    have hr:=jh hm hlt hno (by rw[hE];exact he)
    rw[hE] at hr
    simp -implicitDefEqProofs [e5,he',lQ,r13,hR,hr]
   have he':(e==0)=true:=by simp[he]
   rw[if_neg (not_not_intro he)] at hE
   simp -implicitDefEqProofs [he',e1,e5,hlt]
   refine⟨i64 (by omega) (by omega),?_⟩
   by_cases hs:0≤s.a_[k].ga∧s.a_[k].ga≤(s.YS.length:Int) - 1
   case neg=>
    refine aj (eT _ _ _ false (decide_eq_false hs)) ?_
    rw[if_pos hs] at hE
    have hr:=jh hm hlt hno (by rw[hE];decide)
    rw[hE] at hr
    simp -implicitDefEqProofs [e5,r13,hR,hr]
   refine aj (eT _ _ _ true (decide_eq_true hs)) ?_
   rw[if_neg (not_not_intro hs)] at hE
   simp -implicitDefEqProofs [he',e1,e5,hlt]
   by_cases ht:1≤s.a_[k].reserve∧s.a_[k].reserve≤100000
   case neg=>
    refine aj (eT _ _ _ false (decide_eq_false ht)) ?_
    rw[if_pos ht] at hE
    have hr:=jh hm hlt hno (by rw[hE];decide)
    rw[hE] at hr
    simp -implicitDefEqProofs [e5,r13,hR,hr]
   refine aj (eT _ _ _ true (decide_eq_true ht)) ?_
   rw[if_neg (not_not_intro ht)] at hE
   have lQ:(e != 0)=false:=by simp[he]
   simp -implicitDefEqProofs [lQ,e5]
   exact⟨i64 (by omega) (by omega),aN hlt ⟨by simp[e1],by simp[cm],by simp,fq hno hE⟩⟩
  ·obtain rfl:k=s.a_.length:=by omega
   simp -implicitDefEqProofs
   exact aX _ hno
 intro st hno
 simp -implicitDefEqProofs [r13,hR,lp hm hno]
end Go.Proofs.YtpeikknjbnnnnaaGreat.A
namespace Go.Proofs.YtpeikknjbnnnnaaGreat.A
open Go.az O
def ZG(x y:je):Bool:=decide (y.dh=x.dh)&&decide (y.ay=x.ay)
def jj(s:aB)(i:Nat):Int:=
 let b:=s.bk.getD i jO
 if¬((0≤b.dh∧b.dh≤(s.aH.length:Int) - 1)∧(0≤b.ay∧b.ay≤(s.a_.length:Int) - 1)) then 4 else
 if¬(1≤b.most∧b.most≤100000) then 7 else if (s.bk.take i).any (ZG b) then 5 else 0
theorem UP(s:aB):aA Tryz.prog 14 [bQ s] (T2 (c9 (jj s) s.bk.length 16)):=by
 refine pc t14 (by simp) fun hfit=> ?_
 have lB:=cP (iy (hfit 0) 4)
 have lL:=cP (iy (hfit 0) 6)
 have lX:=cP (iy (hfit 0) 7)
 simp only[List.length_map] at lB lL lX
 obtain⟨R,hR⟩:∃R,R=c9 (jj s) s.bk.length 16:=⟨_,rfl⟩
 rw[←hR]
 simp -implicitDefEqProofs only[Gv]
 refine au (fun st=>st.env 1=bG s) ?_ ?_
 ·intro k hk
  simp -implicitDefEqProofs
  exact hk _ rfl
 intro st e1
 by_cases hm:(16:Int)<(s.bk.length:Int)
 ·simp -implicitDefEqProofs [e1,hm,pn,hR,nx hm]
 refine au (fun st=>st.env 1=bG s) ?_ ?_
 ·intro k hk
  simp -implicitDefEqProofs [e1,hm]
  exact hk _ (by simp[e1])
 intro st e1
 refine au (fun st=>∀j<s.bk.length,jj s j=0) ?_ ?_
 ·intro k0 aX
  simp -implicitDefEqProofs
  refine bw s.bk.length (fun k st=>st.env 1=bG s∧st.env 4=I k∧∀j<k,jj s j=0) ?_ ?_
  ·simp[e1]
  rintro k st hk ⟨e1,e4,hno⟩
  simp -implicitDefEqProofs [e1,e4]
  refine bu (fun hlt=> ?_) (fun hge=> ?_)
  ·have hlt:k<s.bk.length:=by omega
   have hE:jj s k=if¬((0≤s.bk[k].dh∧s.bk[k].dh≤(s.aH.length:Int) - 1)∧(0≤s.bk[k].ay∧s.bk[k].ay≤(s.a_.length:Int) - 1)) then 4 else if¬(1≤s.bk[k].most∧s.bk[k].most≤100000) then 7 else if (s.bk.take k).any (ZG s.bk[k]) then 5 else 0:=by unfold jj;rw[wU hlt]
   generalize hx:s.bk[k]=x at*
   simp -implicitDefEqProofs [e1,e4,hlt,hx]
   intro b hb
   refine⟨i64 (by omega) (by omega),?_⟩
   by_cases h1:0≤x.dh∧x.dh≤(s.aH.length:Int) - 1
   case neg=>
    refine aj (eT _ _ _ false (decide_eq_false h1)) ?_
    rw[if_pos (fun h=>h1 h.1)] at hE
    have hr:=jh hm hlt hno (by rw[hE];decide)
    rw[hE] at hr
    simp -implicitDefEqProofs [e4,pn,hR,hr]
   refine aj (eT _ _ _ true (decide_eq_true h1)) ?_
   simp -implicitDefEqProofs [e1]
   refine⟨i64 (by omega) (by omega),?_⟩
   by_cases h2:0≤x.ay∧x.ay≤(s.a_.length:Int) - 1
   case neg=>
    refine aj (eT _ _ _ false (decide_eq_false h2)) ?_
    rw[if_pos (fun h=>h2 h.2)] at hE
    have hr:=jh hm hlt hno (by rw[hE];decide)
    rw[hE] at hr
    simp -implicitDefEqProofs [e4,pn,hR,hr]
   refine aj (eT _ _ _ true (decide_eq_true h2)) ?_
   rw[if_neg (not_not_intro ⟨h1,h2⟩)] at hE
   simp -implicitDefEqProofs
   by_cases h3:1≤x.most∧x.most≤100000
   case neg=>
    refine aj (eT _ _ _ false (decide_eq_false h3)) ?_
    rw[if_pos h3] at hE
    have hr:=jh hm hlt hno (by rw[hE];decide)
    rw[hE] at hr
    simp -implicitDefEqProofs [e4,pn,hR,hr]
   refine aj (eT _ _ _ true (decide_eq_true h3)) ?_
   rw[if_neg (not_not_intro h3)] at hE
   simp -implicitDefEqProofs
   refine bw k (fun j st=>st.env 1=bG s∧st.env 4=I k∧st.env 5=.ref [I x.dh,I x.ay,I x.most]∧st.env 6=I j∧∀y∈s.bk.take j,ZG x y=false) ?_ ?_
   ·simp[e1,e4]
   rintro j st hj ⟨e1,e4,e5,e6,hjn⟩
   simp -implicitDefEqProofs [e4,e6]
   refine bu (fun hjl=> ?_) (fun hge=> ?_)
   ·have hjl:j<k:=by omega
    have wV:j<s.bk.length:=by omega
    have cm:s.bk.take (j+1)=s.bk.take j++[s.bk[j]]:=cV wV
    have ZT:ZG x s.bk[j]=true→jj s k=5:=fun h=>by
     rw[hE,if_pos]
     rw[List.any_eq_true]
     refine⟨s.bk[j],?_,h⟩
     rw[List.mem_take_iff_getElem]
     exact⟨j,by omega,rfl⟩
    generalize hy:s.bk[j]=y at*
    by_cases ha:y.dh=x.dh
    ·have lu:(y.dh==x.dh)=true:=by simp[ha]
     by_cases hc:y.ay=x.ay
     ·have cj:(y.ay==x.ay)=true:=by simp[hc]
      have bp:=ZT (by simp[ZG,ha,hc])
      have hr:=jh hm hlt hno (by rw[bp];decide)
      rw[bp] at hr
      simp -implicitDefEqProofs [e1,e4,e5,e6,wV,hy,lu,cj,pn,hR,hr]
     ·have cj:(y.ay==x.ay)=false:=by simp[hc]
      simp -implicitDefEqProofs [e1,e5,e6,wV,hy,lu,cj]
      refine⟨i64 (by omega) (by omega),aN hjl ⟨by simp[e1],by simp[e4],by simp[e5],by simp,fun z hz=> ?_⟩⟩
      rw[cm,List.mem_append,List.mem_singleton] at hz
      rcases hz with hz|rfl
      ·exact hjn z hz
      ·simp[ZG,hc]
    ·have lu:(y.dh==x.dh)=false:=by simp[ha]
     simp -implicitDefEqProofs [e1,e5,e6,wV,hy,lu]
     refine⟨i64 (by omega) (by omega),aN hjl ⟨by simp[e1],by simp[e4],by simp[e5],by simp,fun z hz=> ?_⟩⟩
     rw[cm,List.mem_append,List.mem_singleton] at hz
     rcases hz with hz|rfl
     ·exact hjn z hz
     ·simp[ZG,ha]
   ·obtain rfl:j=k:=by omega
    have bp:jj s j=0:=by
     rw[hE,if_neg]
     rw[List.any_eq_true]
     rintro⟨y,hy,h⟩
     rw[hjn y hy] at h;cases h
    simp -implicitDefEqProofs [e4]
    exact⟨i64 (by omega) (by omega),aN hlt ⟨by simp[e1],by simp,fq hno bp⟩⟩
  ·obtain rfl:k=s.bk.length:=by omega
   simp -implicitDefEqProofs
   exact aX _ hno
 intro st hno
 simp -implicitDefEqProofs [pn,hR,lp hm hno]
end Go.Proofs.YtpeikknjbnnnnaaGreat.A
namespace Go.Proofs.YtpeikknjbnnnnaaGreat.A
open Go.az O
def Zm(s:aB)(i:Nat):Int:=if (i=0∧(s.steps.getD i eS).src≠0)∨(0<i∧¬((s.steps.getD (i - 1) eS).src+1≤(s.steps.getD i eS).src∧(s.steps.getD i eS).src≤100000))∨¬(1≤(s.steps.getD i eS).f_∧(s.steps.getD i eS).f_≤100000) then 7 else 0
def ny(p:Int)(r:Int×Int)(k:Int×Int×Int):Int×Int×Int:=if r.2≠0 then (p,r.1,r.2) else k
def lz(s:aB):Int×Int×Int:=
 if¬(1≤(s.steps.length:Int)∧(s.steps.length:Int)≤5) then (1,0,3) else
 ny 1 (c9 (Zm s) s.steps.length 5)<|
 if¬((0≤s.kA∧s.kA≤500)∧(0≤s.kB∧s.kB≤500)∧(0≤s.days∧s.days≤60)) then (2,0,7) else
 ny 3 (c9 (YX s.aH) s.aH.length 6)<|
 ny 4 (c9 (YX s.YS) s.YS.length 4)<|
 ny 5 (c9 (ZA s) s.a_.length 6)<|
 ny 6 (c9 (jj s) s.bk.length 16) (0,0,0)
theorem Cm{p:Int}{r:Int×Int}{k:Int×Int×Int}(h:r.2=0):ny p r k=k:=if_neg (not_not_intro h)
theorem Cn{p:Int}{r:Int×Int}{k:Int×Int×Int}(h:r.2≠0):ny p r k=(p,r.1,r.2):=if_pos h
structure Valid (s:aB):Prop where
 n1:1≤s.steps.length∧s.steps.length≤5
 steps:∀i<s.steps.length,Zm s i=0
 terms:(0≤s.kA∧s.kA≤500)∧(0≤s.kB∧s.kB≤500)∧(0≤s.days∧s.days≤60)
 aH:(s.aH.length:Int)≤6∧∀i<s.aH.length,YX s.aH i=0
 YS:(s.YS.length:Int)≤4∧∀i<s.YS.length,YX s.YS i=0
 a_:(s.a_.length:Int)≤6∧∀i<s.a_.length,ZA s i=0
 bk:(s.bk.length:Int)≤16∧∀i<s.bk.length,jj s i=0
theorem UQ{s:aB}(h:(lz s).2.2=0):Valid s:=by
 unfold lz at h
 split at h
 ·cases h
 rename_i h1
 have h1:=Classical.not_not.1 h1
 have next:∀{p:Int} {r:Int×Int} {k:Int×Int×Int},(ny p r k).2.2=0→r.2=0∧k.2.2=0:=by
  intro p r k h
  by_cases hr:r.2=0
  ·rw[Cm hr] at h;exact⟨hr,h⟩
  ·rw[Cn hr] at h;exact absurd h hr
 obtain⟨h2,h⟩:=next h
 split at h
 ·cases h
 rename_i h3
 have h3:=Classical.not_not.1 h3
 obtain⟨h4,h⟩:=next h
 obtain⟨h5,h⟩:=next h
 obtain⟨h6,h⟩:=next h
 obtain⟨h7,h⟩:=next h
 exact⟨⟨by omega,by omega⟩,(uf h2).2,h3,uf h4,uf h5,uf h6,uf h7⟩
theorem UR(s:aB):aA Tryz.prog 4 [bQ s] (T3 (lz s)):=by
 refine pc t4 (by simp) fun hfit=> ?_
 have lT:=cP (iy (hfit 0) 0)
 simp only[List.length_map] at lT
 clear hfit
 obtain⟨R,hR⟩:∃R,R=lz s:=⟨_,rfl⟩
 rw[←hR]
 have hx:R=lz s:=hR
 unfold lz at hx
 simp -implicitDefEqProofs only[m4]
 refine au (fun st=>st.env 1=bG s) ?_ ?_
 ·intro k hk
  simp -implicitDefEqProofs
  exact hk _ rfl
 intro st e1
 by_cases h1:1≤(s.steps.length:Int)∧(s.steps.length:Int)≤5
 case neg=>
  rw[if_pos h1] at hx
  simp -implicitDefEqProofs [e1]
  refine aj (eT _ _ _ false (decide_eq_false h1)) ?_
  simp -implicitDefEqProofs [r4,hx]
 rw[if_neg (not_not_intro h1)] at hx
 refine au (fun st=>st.env 1=bG s) ?_ ?_
 ·intro k hk
  simp -implicitDefEqProofs [e1]
  refine aj (eT _ _ _ true (decide_eq_true h1)) ?_
  simp -implicitDefEqProofs
  exact hk _ (by simp[e1])
 intro st e1
 have hm:¬(5:Int)<s.steps.length:=by omega
 refine au (fun st=>st.env 1=bG s∧∀j<s.steps.length,Zm s j=0) ?_ ?_
 ·intro k0 aX
  simp -implicitDefEqProofs
  refine bw s.steps.length (fun k st=>st.env 1=bG s∧st.env 5=I k∧∀j<k,Zm s j=0) ?_ ?_
  ·simp[e1]
  rintro k st hk ⟨e1,e5,hno⟩
  simp -implicitDefEqProofs [e1,e5]
  refine bu (fun hlt=> ?_) (fun hge=> ?_)
  ·have hlt:k<s.steps.length:=by omega
   have ZT:Zm s k=7→R=(1,(k:Int),7):=fun h=>by
    have hr:=jh hm hlt hno (by rw[h];decide)
    rw[hr,h,Cn (by simp)] at hx
    exact hx
   have hE:Zm s k=if (k=0∧s.steps[k].src≠0)∨(0<k∧¬((s.steps.getD (k - 1) eS).src+1≤s.steps[k].src∧s.steps[k].src≤100000))∨¬(1≤s.steps[k].f_∧s.steps[k].f_≤100000) then 7 else 0:=by unfold Zm;rw[ug hlt]
   by_cases aX:k=0
   ·subst aX
    by_cases ha:s.steps[0].src=0
    case neg=>
     have lu:(s.steps[0].src != 0)=true:=by simp[ha]
     have hr:=ZT (by rw[hE,if_pos (.inl ⟨rfl,ha⟩)])
     simp -implicitDefEqProofs [e1,e5,hlt,lu]
     intro b hb
     simp -implicitDefEqProofs [r4,hr]
    have lu:(s.steps[0].src != 0)=false:=by simp[ha]
    simp -implicitDefEqProofs [e1,e5,hlt,lu]
    intro b hb
    by_cases hc:1≤s.steps[0].f_∧s.steps[0].f_≤100000
    case neg=>
     refine aj (eT _ _ _ false (decide_eq_false hc)) ?_
     have hr:=ZT (by rw[hE,if_pos (.inr (.inr hc))])
     simp -implicitDefEqProofs [e5,r4,hr]
    refine aj (eT _ _ _ true (decide_eq_true hc)) ?_
    have bp:Zm s 0=0:=by rw[hE,if_neg];rintro(h|h|h);exact h.2 ha;exact absurd h.1 (by omega);exact h hc
    simp -implicitDefEqProofs [e5]
    exact⟨i64 (by omega) (by omega),aN hlt ⟨by simp[e1],by simp,fq hno bp⟩⟩
   ·have hk':((k:Int)==0)=false:=by simp;omega
    have hk2:0<k:=by omega
    have nA:k - 1<s.steps.length:=by omega
    have iq:((k:Int) - 1).toNat=k - 1:=by omega
    have hp:s.steps.getD (k - 1) eS=s.steps[k - 1]:=ug nA
    rw[hp] at hE
    simp -implicitDefEqProofs [e1,e5,hlt,hk',hk2,iq,nA]
    intro b hb
    refine⟨i64 (by omega) (by omega),by omega,by omega,?_⟩
    have Z8:Zm s (k - 1)=0:=hno _ (by omega)
    have oB: -1000000≤s.steps[k - 1].src∧s.steps[k - 1].src≤1000000:=by
     unfold Zm at Z8
     rw[hp] at Z8
     split at Z8
     ·cases Z8
     rename_i h
     by_cases h0:k - 1=0
     ·have:s.steps[k - 1].src=0:=Classical.byContradiction fun h'=>h (.inl ⟨h0,h'⟩)
      omega
     ·have h2:=Classical.byContradiction fun h'=>h (.inr (.inl ⟨by omega,h'⟩))
      have h3:∀i,i<k→0≤(s.steps.getD i eS).src:=by
       intro i
       induction i with
       |zero=>
        intro hi
        have:=hno 0 (by omega)
        unfold Zm at this
        split at this
        ·cases this
        rename_i h
        have:(s.steps.getD 0 eS).src=0:=Classical.byContradiction fun h'=>h (.inl ⟨rfl,h'⟩)
        omega
       |succ i ih=>
        intro hi
        have h5:=ih (by omega)
        have:=hno (i+1) (by omega)
        unfold Zm at this
        split at this
        ·cases this
        rename_i h
        have h6:=Classical.byContradiction fun h'=>h (.inr (.inl ⟨by omega,h'⟩))
        simp only[Nat.add_sub_cancel] at h6
        omega
      have:=h3 (k - 1) (by omega)
      rw[hp] at this
      omega
    refine⟨i64 (by omega) (by omega),?_⟩
    by_cases hb':s.steps[k - 1].src+1≤s.steps[k].src∧s.steps[k].src≤100000
    case neg=>
     refine aj (eT _ _ _ false (decide_eq_false hb')) ?_
     have hr:=ZT (by rw[hE,if_pos (.inr (.inl ⟨hk2,hb'⟩))])
     simp -implicitDefEqProofs [e5,r4,hr]
    refine aj (eT _ _ _ true (decide_eq_true hb')) ?_
    simp -implicitDefEqProofs
    by_cases hc:1≤s.steps[k].f_∧s.steps[k].f_≤100000
    case neg=>
     refine aj (eT _ _ _ false (decide_eq_false hc)) ?_
     have hr:=ZT (by rw[hE,if_pos (.inr (.inr hc))])
     simp -implicitDefEqProofs [e5,r4,hr]
    refine aj (eT _ _ _ true (decide_eq_true hc)) ?_
    have bp:Zm s k=0:=by rw[hE,if_neg];rintro(h|h|h);exact aX h.1;exact h.2 hb';exact h hc
    simp -implicitDefEqProofs [e5]
    exact⟨i64 (by omega) (by omega),aN hlt ⟨by simp[e1],by simp,fq hno bp⟩⟩
  ·obtain rfl:k=s.steps.length:=by omega
   simp -implicitDefEqProofs
   exact aX _ ⟨by simp[e1],hno⟩
 rintro st ⟨e1,US⟩
 rw[Cm (by rw[lp hm US])] at hx
 refine au (fun st=>st.env 1=bG s∧((0≤s.kA∧s.kA≤500)∧(0≤s.kB∧s.kB≤500)∧(0≤s.days∧s.days≤60))) ?_ ?_
 ·intro k hk
  simp -implicitDefEqProofs [e1]
  by_cases ha:0≤s.kA∧s.kA≤500
  case neg=>
   refine aj (eT _ _ _ false (decide_eq_false ha)) ?_
   rw[if_pos (fun h=>ha h.1)] at hx
   simp -implicitDefEqProofs [r4,hx]
  refine aj (eT _ _ _ true (decide_eq_true ha)) ?_
  simp -implicitDefEqProofs [e1]
  by_cases hb:0≤s.kB∧s.kB≤500
  case neg=>
   refine aj (eT _ _ _ false (decide_eq_false hb)) ?_
   rw[if_pos (fun h=>hb h.2.1)] at hx
   simp -implicitDefEqProofs [r4,hx]
  refine aj (eT _ _ _ true (decide_eq_true hb)) ?_
  simp -implicitDefEqProofs [e1]
  by_cases hc:0≤s.days∧s.days≤60
  case neg=>
   refine aj (eT _ _ _ false (decide_eq_false hc)) ?_
   rw[if_pos (fun h=>hc h.2.2)] at hx
   simp -implicitDefEqProofs [r4,hx]
  refine aj (eT _ _ _ true (decide_eq_true hc)) ?_
  simp -implicitDefEqProofs
  exact hk _ ⟨by simp[e1],ha,hb,hc⟩
 rintro st ⟨e1,UT⟩
 rw[if_neg (not_not_intro UT)] at hx
 have part:∀{p:Int} {r:Int×Int} {k:Int×Int×Int},R=ny p r k→(r.2=0∧R=k)∨(r.2≠0∧(r.2 != 0)=true∧R=(p,r.1,r.2)):=by
  intro p r k h
  by_cases hr:r.2=0
  ·exact .inl ⟨hr,by rw[h,Cm hr]⟩
  ·exact .inr ⟨hr,by simp[hr],by rw[h,Cn hr]⟩
 have c1:=J2 s.aH 6
 have c2:=J2 s.YS 4
 have c3:=UO s
 have c4:=UP s
 generalize c9 (YX s.aH) s.aH.length 6=q1 at*
 generalize c9 (YX s.YS) s.YS.length 4=q2 at*
 generalize c9 (ZA s) s.a_.length 6=q3 at*
 generalize c9 (jj s) s.bk.length 16=q4 at*
 simp -implicitDefEqProofs [e1]
 refine aj c1 ?_
 rcases part hx with ⟨hz,hx⟩|⟨hz,er,hx⟩
 case inr=>simp -implicitDefEqProofs [er,r4,hx]
 simp -implicitDefEqProofs [hz,e1]
 refine aj c2 ?_
 rcases part hx with ⟨hz,hx⟩|⟨hz,er,hx⟩
 case inr=>simp -implicitDefEqProofs [er,r4,hx]
 simp -implicitDefEqProofs [hz,e1]
 refine aj c3 ?_
 rcases part hx with ⟨hz,hx⟩|⟨hz,er,hx⟩
 case inr=>simp -implicitDefEqProofs [er,r4,hx]
 simp -implicitDefEqProofs [hz,e1]
 refine aj c4 ?_
 rcases part hx with ⟨hz,hx⟩|⟨hz,er,hx⟩
 case inr=>simp -implicitDefEqProofs [er,r4,hx]
 simp -implicitDefEqProofs [hz,r4,hx]
end Go.Proofs.YtpeikknjbnnnnaaGreat.A
namespace Go.Proofs.YtpeikknjbnnnnaaGreat.A
open Go.az O
structure Entry where
 ay:Int
 oC:Bool
 lo:Int
 hi:Int
abbrev Z6(x:Entry):AV:=.agg [I x.ay,B x.oC,I x.lo,I x.hi]
theorem UU(l:List Step)(most:Int)(f:FuncId)(cap:List AV)(g:Nat→Int)(hp:∀i (h:i<l.length),aA Tryz.prog f (I i::mw l[i]::cap) (I (g i))):aA Tryz.prog 107 [.slice 2 (l.map mw) 0,I most,.func (.func f) [] cap] (T2 (c9 g l.length most)):=by
 refine pc t107 (by simp) fun hfit=> ?_
 have hl:=cP (hfit 0)
 simp only[List.length_map] at hl
 obtain⟨R,hR⟩:∃R,R=c9 g l.length most:=⟨_,rfl⟩
 rw[←hR]
 by_cases hm:most<(l.length:Int)
 ·simp -implicitDefEqProofs [AQ,hm,vU,hR,nx hm]
 simp -implicitDefEqProofs [AQ,hm]
 refine bw l.length (fun k s=>s.env 2=.func (.func f) [] cap∧s.env 15=.slice 2 (l.map mw) 0∧s.env 16=I l.length∧s.env 17=I k∧∀j<k,g j=0) ?_ ?_
 ·simp
 rintro k s hk ⟨e2,Yv,cJ,bZ,hno⟩
 simp -implicitDefEqProofs [cJ,bZ]
 refine bu (fun hlt=> ?_) (fun hge=> ?_)
 ·have hlt:k<l.length:=by omega
  have hc:=hp k hlt
  simp -implicitDefEqProofs [e2,Yv,bZ,hlt]
  intro b hb
  refine aj hc ?_
  simp -implicitDefEqProofs
  by_cases he:g k=0
  ·have he':(g k != 0)=false:=by simp[he]
   simp -implicitDefEqProofs [he',bZ]
   exact⟨i64 (by omega) (by omega),aN hlt ⟨by simp[e2],by simp[Yv],by simp[cJ],by simp,fq hno he⟩⟩
  ·have he':(g k != 0)=true:=by simp[he]
   simp -implicitDefEqProofs [he',vU,hR,jh hm hlt hno he]
 ·obtain rfl:k=l.length:=by omega
  simp -implicitDefEqProofs [vU,hR,lp hm hno]
theorem J3(l:List ByteArray)(most:Int)(f:FuncId)(cap:List AV)(g:Nat→Int)(hp:∀i (h:i<l.length),aA Tryz.prog f (I i::S l[i]::cap) (I (g i))):aA Tryz.prog 109 [.slice 1 (l.map S) 0,I most,.func (.func f) [] cap] (T2 (c9 g l.length most)):=by
 refine pc t109 (by simp) fun hfit=> ?_
 have hl:=cP (hfit 0)
 simp only[List.length_map] at hl
 obtain⟨R,hR⟩:∃R,R=c9 g l.length most:=⟨_,rfl⟩
 rw[←hR]
 by_cases hm:most<(l.length:Int)
 ·simp -implicitDefEqProofs [AT,hm,vV,hR,nx hm]
 simp -implicitDefEqProofs [AT,hm]
 refine bw l.length (fun k s=>s.env 2=.func (.func f) [] cap∧s.env 15=.slice 1 (l.map S) 0∧s.env 16=I l.length∧s.env 17=I k∧∀j<k,g j=0) ?_ ?_
 ·simp
 rintro k s hk ⟨e2,Yv,cJ,bZ,hno⟩
 simp -implicitDefEqProofs [cJ,bZ]
 refine bu (fun hlt=> ?_) (fun hge=> ?_)
 ·have hlt:k<l.length:=by omega
  have hc:=hp k hlt
  simp -implicitDefEqProofs [e2,Yv,bZ,hlt]
  refine aj hc ?_
  simp -implicitDefEqProofs
  by_cases he:g k=0
  ·have he':(g k != 0)=false:=by simp[he]
   simp -implicitDefEqProofs [he',bZ]
   exact⟨i64 (by omega) (by omega),aN hlt ⟨by simp[e2],by simp[Yv],by simp[cJ],by simp,fq hno he⟩⟩
  ·have he':(g k != 0)=true:=by simp[he]
   simp -implicitDefEqProofs [he',vV,hR,jh hm hlt hno he]
 ·obtain rfl:k=l.length:=by omega
  simp -implicitDefEqProofs [vV,hR,lp hm hno]
theorem UW(l:List mu)(most:Int)(f:FuncId)(cap:List AV)(g:Nat→Int)(hp:∀i (h:i<l.length),aA Tryz.prog f (I i::iG l[i]::cap) (I (g i))):aA Tryz.prog 111 [.slice 4 (l.map iG) 0,I most,.func (.func f) [] cap] (T2 (c9 g l.length most)):=by
 refine pc t111 (by simp) fun hfit=> ?_
 have hl:=cP (hfit 0)
 simp only[List.length_map] at hl
 obtain⟨R,hR⟩:∃R,R=c9 g l.length most:=⟨_,rfl⟩
 rw[←hR]
 by_cases hm:most<(l.length:Int)
 ·simp -implicitDefEqProofs [AU,hm,vW,hR,nx hm]
 simp -implicitDefEqProofs [AU,hm]
 refine bw l.length (fun k s=>s.env 2=.func (.func f) [] cap∧s.env 15=.slice 4 (l.map iG) 0∧s.env 16=I l.length∧s.env 17=I k∧∀j<k,g j=0) ?_ ?_
 ·simp
 rintro k s hk ⟨e2,Yv,cJ,bZ,hno⟩
 simp -implicitDefEqProofs [cJ,bZ]
 refine bu (fun hlt=> ?_) (fun hge=> ?_)
 ·have hlt:k<l.length:=by omega
  have hc:=hp k hlt
  simp -implicitDefEqProofs [e2,Yv,bZ,hlt]
  intro b hb
  refine aj hc ?_
  simp -implicitDefEqProofs
  by_cases he:g k=0
  ·have he':(g k != 0)=false:=by simp[he]
   simp -implicitDefEqProofs [he',bZ]
   exact⟨i64 (by omega) (by omega),aN hlt ⟨by simp[e2],by simp[Yv],by simp[cJ],by simp,fq hno he⟩⟩
  ·have he':(g k != 0)=true:=by simp[he]
   simp -implicitDefEqProofs [he',vW,hR,jh hm hlt hno he]
 ·obtain rfl:k=l.length:=by omega
  simp -implicitDefEqProofs [vW,hR,lp hm hno]
theorem UX(l:List je)(most:Int)(f:FuncId)(cap:List AV)(g:Nat→Int)(hp:∀i (h:i<l.length),aA Tryz.prog f (I i::Zj l[i]::cap) (I (g i))):aA Tryz.prog 115 [.slice 3 (l.map Zj) 0,I most,.func (.func f) [] cap] (T2 (c9 g l.length most)):=by
 refine pc t115 (by simp) fun hfit=> ?_
 have hl:=cP (hfit 0)
 simp only[List.length_map] at hl
 obtain⟨R,hR⟩:∃R,R=c9 g l.length most:=⟨_,rfl⟩
 rw[←hR]
 by_cases hm:most<(l.length:Int)
 ·simp -implicitDefEqProofs [abb,hm,vX,hR,nx hm]
 simp -implicitDefEqProofs [abb,hm]
 refine bw l.length (fun k s=>s.env 2=.func (.func f) [] cap∧s.env 15=.slice 3 (l.map Zj) 0∧s.env 16=I l.length∧s.env 17=I k∧∀j<k,g j=0) ?_ ?_
 ·simp
 rintro k s hk ⟨e2,Yv,cJ,bZ,hno⟩
 simp -implicitDefEqProofs [cJ,bZ]
 refine bu (fun hlt=> ?_) (fun hge=> ?_)
 ·have hlt:k<l.length:=by omega
  have hc:=hp k hlt
  simp -implicitDefEqProofs [e2,Yv,bZ,hlt]
  intro b hb
  refine aj hc ?_
  simp -implicitDefEqProofs
  by_cases he:g k=0
  ·have he':(g k != 0)=false:=by simp[he]
   simp -implicitDefEqProofs [he',bZ]
   exact⟨i64 (by omega) (by omega),aN hlt ⟨by simp[e2],by simp[Yv],by simp[cJ],by simp,fq hno he⟩⟩
  ·have he':(g k != 0)=true:=by simp[he]
   simp -implicitDefEqProofs [he',vX,hR,jh hm hlt hno he]
 ·obtain rfl:k=l.length:=by omega
  simp -implicitDefEqProofs [vX,hR,lp hm hno]
theorem UY(l:List Entry)(most:Int)(f:FuncId)(cap:List AV)(g:Nat→Int)(hp:∀i (h:i<l.length),aA Tryz.prog f (I i::Z6 l[i]::cap) (I (g i))):aA Tryz.prog 92 [.slice 4 (l.map Z6) 0,I most,.func (.func f) [] cap] (T2 (c9 g l.length most)):=by
 refine pc t92 (by simp) fun hfit=> ?_
 have hl:=cP (hfit 0)
 simp only[List.length_map] at hl
 obtain⟨R,hR⟩:∃R,R=c9 g l.length most:=⟨_,rfl⟩
 rw[←hR]
 by_cases hm:most<(l.length:Int)
 ·simp -implicitDefEqProofs [AM,hm,vT,hR,nx hm]
 simp -implicitDefEqProofs [AM,hm]
 refine bw l.length (fun k s=>s.env 2=.func (.func f) [] cap∧s.env 15=.slice 4 (l.map Z6) 0∧s.env 16=I l.length∧s.env 17=I k∧∀j<k,g j=0) ?_ ?_
 ·simp
 rintro k s hk ⟨e2,Yv,cJ,bZ,hno⟩
 simp -implicitDefEqProofs [cJ,bZ]
 refine bu (fun hlt=> ?_) (fun hge=> ?_)
 ·have hlt:k<l.length:=by omega
  have hc:=hp k hlt
  simp -implicitDefEqProofs [e2,Yv,bZ,hlt]
  intro b hb
  refine aj hc ?_
  simp -implicitDefEqProofs
  by_cases he:g k=0
  ·have he':(g k != 0)=false:=by simp[he]
   simp -implicitDefEqProofs [he',bZ]
   exact⟨i64 (by omega) (by omega),aN hlt ⟨by simp[e2],by simp[Yv],by simp[cJ],by simp,fq hno he⟩⟩
  ·have he':(g k != 0)=true:=by simp[he]
   simp -implicitDefEqProofs [he',vT,hR,jh hm hlt hno he]
 ·obtain rfl:k=l.length:=by omega
  simp -implicitDefEqProofs [vT,hR,lp hm hno]
theorem UZ(l:List mu)(f:FuncId)(caps:List AV)(p:mu→Bool)(hp:∀x∈l,aA Tryz.prog f (iG x::caps) (B (p x))):aA Tryz.prog 122 [.slice 4 (l.map iG) 0,.func (.func f) [] caps] (I (firstAt p l)):=by
 refine pc t122 (by simp) fun hfit=> ?_
 have hl:=cP (hfit 0)
 simp only[List.length_map] at hl
 simp -implicitDefEqProofs [HA]
 refine bw l.length (fun k s=>s.env 0=.slice 4 (l.map iG) 0∧s.env 1=.func (.func f) [] caps∧s.env 7=I l.length∧s.env 8=I k∧∀x∈l.take k,p x=false) ?_ ?_
 ·simp
 rintro k s hk ⟨e0,e1,e7,e8,hno⟩
 simp -implicitDefEqProofs [e7,e8]
 refine bu (fun hlt=> ?_) (fun hge=> ?_)
 ·have hlt:k<l.length:=by omega
  simp -implicitDefEqProofs [e0,e1,e8,hlt,m_]
  refine aj (hp l[k] (List.getElem_mem _)) ?_
  simp -implicitDefEqProofs
  refine e_ (fun he=> ?_) (fun he=> ?_)
  ·have hc:=pG hlt he hno
   simp -implicitDefEqProofs [AZ,hc]
  ·simp -implicitDefEqProofs [e8]
   refine⟨i64 (by omega) (by omega),aN hlt ⟨by simp[e0],by simp[e1],by simp[e7],by simp,?_⟩⟩
   intro x hx
   rw[cV hlt,List.mem_append,List.mem_singleton] at hx
   rcases hx with hx|rfl
   ·exact hno x hx
   ·exact he
 ·obtain rfl:k=l.length:=by omega
  rw[List.take_length] at hno
  have hc:=aax hno
  simp -implicitDefEqProofs [AZ,hc]
theorem U0(l:List mu)(f:FuncId)(caps:List AV)(p:mu→Bool)(hp:∀x∈l,aA Tryz.prog f (iG x::caps) (B (p x))):aA Tryz.prog 113 [.slice 4 (l.map iG) 0,.func (.func f) [] caps] (B (l.any p)):=by
 refine pc t113 (by simp) fun _=> ?_
 simp -implicitDefEqProofs [Hp]
 refine aj (UZ l f caps p hp) ?_
 simp -implicitDefEqProofs [Hq,aay]
theorem U1(l:List je)(f:FuncId)(caps:List AV)(p:je→Bool)(hp:∀x∈l,aA Tryz.prog f (Zj x::caps) (B (p x))):aA Tryz.prog 123 [.slice 3 (l.map Zj) 0,.func (.func f) [] caps] (I (firstAt p l)):=by
 refine pc t123 (by simp) fun hfit=> ?_
 have hl:=cP (hfit 0)
 simp only[List.length_map] at hl
 simp -implicitDefEqProofs [HB]
 refine bw l.length (fun k s=>s.env 0=.slice 3 (l.map Zj) 0∧s.env 1=.func (.func f) [] caps∧s.env 7=I l.length∧s.env 8=I k∧∀x∈l.take k,p x=false) ?_ ?_
 ·simp
 rintro k s hk ⟨e0,e1,e7,e8,hno⟩
 simp -implicitDefEqProofs [e7,e8]
 refine bu (fun hlt=> ?_) (fun hge=> ?_)
 ·have hlt:k<l.length:=by omega
  simp -implicitDefEqProofs [e0,e1,e8,hlt,m_]
  refine aj (hp l[k] (List.getElem_mem _)) ?_
  simp -implicitDefEqProofs
  refine e_ (fun he=> ?_) (fun he=> ?_)
  ·have hc:=pG hlt he hno
   simp -implicitDefEqProofs [A0,hc]
  ·simp -implicitDefEqProofs [e8]
   refine⟨i64 (by omega) (by omega),aN hlt ⟨by simp[e0],by simp[e1],by simp[e7],by simp,?_⟩⟩
   intro x hx
   rw[cV hlt,List.mem_append,List.mem_singleton] at hx
   rcases hx with hx|rfl
   ·exact hno x hx
   ·exact he
 ·obtain rfl:k=l.length:=by omega
  rw[List.take_length] at hno
  have hc:=aax hno
  simp -implicitDefEqProofs [A0,hc]
theorem U2(l:List je)(f:FuncId)(caps:List AV)(p:je→Bool)(hp:∀x∈l,aA Tryz.prog f (Zj x::caps) (B (p x))):aA Tryz.prog 117 [.slice 3 (l.map Zj) 0,.func (.func f) [] caps] (B (l.any p)):=by
 refine pc t117 (by simp) fun _=> ?_
 simp -implicitDefEqProofs [Hv]
 refine aj (U1 l f caps p hp) ?_
 simp -implicitDefEqProofs [Hw,aay]
theorem U3(l:List ByteArray)(x:ByteArray):aA Tryz.prog 124 [SL l,S x] (I (firstAt (fun y=>bD y x) l)):=by
 refine pc t124 (by simp) fun hfit=> ?_
 have hl:=cP (hfit 0)
 simp only[List.length_map] at hl
 simp -implicitDefEqProofs [HC]
 refine bw l.length (fun k s=>s.env 0=SL l∧s.env 1=S x∧s.env 7=I l.length∧s.env 8=I k∧∀y∈l.take k,bD y x=false) ?_ ?_
 ·simp
 rintro k s hk ⟨e0,e1,e7,e8,hno⟩
 simp -implicitDefEqProofs [e7,e8]
 refine bu (fun hlt=> ?_) (fun hge=> ?_)
 ·have hlt:k<l.length:=by omega
  simp -implicitDefEqProofs [e0,e1,e8,hlt]
  refine e_ (fun he=> ?_) (fun he=> ?_)
  ·have hc:=pG (p:=fun y=>bD y x) hlt (by show bD l[k] x=true;rw[tv];exact he) hno
   simp -implicitDefEqProofs [abc,hc]
  ·simp -implicitDefEqProofs [e8]
   refine⟨i64 (by omega) (by omega),aN hlt ⟨by simp[e0],by simp[e1],by simp[e7],by simp,?_⟩⟩
   intro y hy
   rw[cV hlt,List.mem_append,List.mem_singleton] at hy
   rcases hy with hy|rfl
   ·exact hno y hy
   ·rw[tv];exact he
 ·obtain rfl:k=l.length:=by omega
  rw[List.take_length] at hno
  have hc:=aax (p:=fun y=>bD y x) hno
  simp -implicitDefEqProofs [abc,hc]
theorem U4(l:List ByteArray)(x:ByteArray):aA Tryz.prog 121 [SL l,S x] (B (l.any fun y=>bD y x)):=by
 refine pc t121 (by simp) fun _=> ?_
 simp -implicitDefEqProofs [Hy]
 refine aj (U3 l x) ?_
 simp -implicitDefEqProofs [Hz,aay]
end Go.Proofs.YtpeikknjbnnnnaaGreat.A
namespace Go.Proofs.YtpeikknjbnnnnaaGreat.A
open Go.az O
theorem jk{lo hi n:Int}(h:lo≤n∧n≤hi):aA Tryz.prog 63 [I lo,I hi,IL [n]] (B false):=by
 have:=Zv lo hi [n]
 rwa [kY,decide_eq_true h] at this
theorem J4{lo hi n m:Int}(h:lo≤n∧n≤hi)(h2:lo≤m∧m≤hi):aA Tryz.prog 63 [I lo,I hi,IL [n,m]] (B false):=by
 have:=Zv lo hi [n,m]
 rwa [pJ,decide_eq_true h,decide_eq_true h2] at this
theorem J5(l:List ByteArray)(i:Nat)(hi:i<l.length):aA Tryz.prog 120 [I i,S l[i],.ref [SL l]] (I (YX l i)):=by
 refine pc t120 (by simp) fun _=> ?_
 have hE:YX l i=ew l[i] (l.take i):=by unfold YX;rw[List.getD_eq_getElem?_getD,List.getElem?_eq_getElem hi];rfl
 rw[hE]
 unfold ew
 have c1:=A_ l[i]
 have c2:=U4 (l.take i) l[i]
 rw[SL,List.map_take] at c2
 generalize ((l.take i).any fun y=>bD y l[i])=q at*
 simp -implicitDefEqProofs [Hx]
 refine aj c1 ?_
 cases hn:gu l[i] with
 |false=>simp -implicitDefEqProofs [AY]
 |true=>
  simp -implicitDefEqProofs
  refine⟨by omega,aj c2 ?_⟩
  simp -implicitDefEqProofs
  cases q<;>simp -implicitDefEqProofs [AY]
theorem J6(l:List ByteArray):aA Tryz.prog 110 [SL l] (.func (.func 120) [] [.ref [SL l]]):=by
 refine pc t110 (by simp) fun _=> ?_
 simp -implicitDefEqProofs [Hi,Hj]
theorem Valid.uh{s:aB}(h:Valid s){i:Nat}(hi:i<s.steps.length):(i=0→s.steps[i].src=0)∧(∀ZL:0<i,(s.steps[i - 1]).src+1≤s.steps[i].src∧s.steps[i].src≤100000)∧(1≤s.steps[i].f_∧s.steps[i].f_≤100000):=by
 have:=h.steps i hi
 unfold Zm at this
 rw[ug hi,ug (show i - 1<s.steps.length by omega)] at this
 split at this
 ·cases this
 rename_i hn
 refine⟨fun h0=>Classical.byContradiction fun h'=>hn (.inl ⟨h0,h'⟩),fun h0=>Classical.byContradiction fun h'=>hn (.inr (.inl ⟨h0,h'⟩)),Classical.byContradiction fun h'=>hn (.inr (.inr h'))⟩
theorem Valid.Co{s:aB}(h:Valid s):∀(i:Nat) (hi:i<s.steps.length),0≤s.steps[i].src∧s.steps[i].src≤100000
 |0,hi=>by have:=(h.uh hi).1 rfl;omega
 |i+1,hi=>by
  have h1:=h.Co i (by omega)
  have h2:=(h.uh hi).2.1 (by omega)
  simp only[Nat.add_sub_cancel] at h2
  omega
theorem Valid.J7{s:aB}(h:Valid s){i:Nat}(hi:i<s.a_.length):ew s.a_[i].name (ji s i)=0∧(0≤s.a_[i].ga∧s.a_[i].ga≤(s.YS.length:Int) - 1)∧(1≤s.a_[i].reserve∧s.a_[i].reserve≤100000):=by
 have:=h.a_.2 i hi
 unfold ZA at this
 rw[wT hi] at this
 simp only at this
 split at this
 ·rename_i hn;exact absurd this hn
 rename_i hn
 split at this
 ·cases this
 rename_i h2
 split at this
 ·cases this
 rename_i h3
 exact⟨Classical.not_not.1 hn,Classical.not_not.1 h2,Classical.not_not.1 h3⟩
theorem Valid.Cp{s:aB}(h:Valid s){i:Nat}(hi:i<s.bk.length):(0≤s.bk[i].dh∧s.bk[i].dh≤(s.aH.length:Int) - 1)∧(0≤s.bk[i].ay∧s.bk[i].ay≤(s.a_.length:Int) - 1)∧(1≤s.bk[i].most∧s.bk[i].most≤100000)∧(s.bk.take i).any (ZG s.bk[i])=false:=by
 have:=h.bk.2 i hi
 unfold jj at this
 rw[wU hi] at this
 simp only at this
 split at this
 ·cases this
 rename_i h1
 have h1:=Classical.not_not.1 h1
 split at this
 ·cases this
 rename_i h2
 split at this
 ·cases this
 rename_i h3
 exact⟨h1.1,h1.2,Classical.not_not.1 h2,by simpa using h3⟩
theorem U5{n:ByteArray}{l:List ByteArray}(h:ew n l=0):gu n=true∧(l.any fun y=>bD y n)=false:=by
 unfold ew at h
 split at h
 ·rename_i h1
  split at h
  ·cases h
  ·rename_i h2;exact⟨h1,by simpa using h2⟩
 ·cases h
theorem U6{s:aB}(h:Valid s)(i:Nat)(hi:i<s.steps.length):aA Tryz.prog 108 [I i,mw s.steps[i],bG s] (I 0):=by
 refine pc t108 (by simp) fun _=> ?_
 obtain⟨a1,a2,a3⟩:=h.uh hi
 have hn:=h.n1
 have c2:=jk a3
 by_cases h0:i=0
 ·subst h0
  have c1:=jk (lo:=0) (hi:=0) (n:=s.steps[0].src) (by have:=a1 rfl;omega)
  simp -implicitDefEqProofs [AR]
  refine aj c1 ?_
  simp -implicitDefEqProofs
  refine aj c2 ?_
  simp -implicitDefEqProofs [AS]
 ·have ZL:0<i:=by omega
  have c1:=jk (a2 ZL)
  have nA:i - 1<s.steps.length:=by omega
  have hit:((i:Int) - 1).toNat=i - 1:=by omega
  have hb:=h.Co (i - 1) nA
  simp -implicitDefEqProofs [AR,ZL,hit,nA]
  refine⟨i64 (by omega) (by omega),by omega,by omega,i64 (by omega) (by omega),aj c1 ?_⟩
  simp -implicitDefEqProofs
  refine aj c2 ?_
  simp -implicitDefEqProofs [AS]
theorem U7(y x:mu):aA Tryz.prog 114 [iG y,.ref [S x.name,I x.ga,I x.reserve,B x.lf]] (B (bD y.name x.name)):=by
 refine pc t114 (by simp) fun _=> ?_
 simp -implicitDefEqProofs [Hr,Hs,bD]
theorem U8(y x:je):aA Tryz.prog 118 [Zj y,.ref [I x.dh,I x.ay,I x.most]] (B (ZG x y)):=by
 refine pc t118 (by simp) fun _=> ?_
 unfold ZG
 by_cases ha:y.dh=x.dh
 ·have lu:(y.dh==x.dh)=true:=by simp[ha]
  simp -implicitDefEqProofs [AW,ha,AX]
  by_cases hb:y.ay=x.ay<;>simp[hb]
 ·have lu:(y.dh==x.dh)=false:=by simp[ha]
  simp -implicitDefEqProofs [AW,lu,AX,ha]
theorem U9{s:aB}(h:Valid s)(i:Nat)(hi:i<s.a_.length):aA Tryz.prog 112 [I i,iG s.a_[i],bG s] (I 0):=by
 refine pc t112 (by simp) fun _=> ?_
 obtain⟨a1,a2,a3⟩:=h.J7 hi
 obtain⟨b1,b2⟩:=U5 a1
 have hs:=h.YS.1
 generalize hx:s.a_[i]=x at*
 have c1:=A_ x.name
 rw[b1] at c1
 have c2:=U0 (s.a_.take i) 114 [.ref [S x.name,I x.ga,I x.reserve,B x.lf]] (fun y=>bD y.name x.name) (fun y _=>U7 y x)
 rw[show(s.a_.take i).any (fun y=>bD y.name x.name)=false by unfold ji at b2;rw[List.any_map] at b2;exact b2,List.map_take] at c2
 have c3:=jk a2
 have c4:=jk a3
 simp -implicitDefEqProofs [Hl]
 refine aj c1 ?_
 simp -implicitDefEqProofs
 refine⟨by omega,aj c2 ?_⟩
 simp -implicitDefEqProofs
 refine⟨i64 (by omega) (by omega),aj c3 ?_⟩
 simp -implicitDefEqProofs
 refine aj c4 ?_
 simp -implicitDefEqProofs [Ho]
theorem U_{s:aB}(h:Valid s)(i:Nat)(hi:i<s.bk.length):aA Tryz.prog 116 [I i,Zj s.bk[i],bG s] (I 0):=by
 refine pc t116 (by simp) fun _=> ?_
 obtain⟨a1,a2,a3,a4⟩:=h.Cp hi
 have hl:=h.a_.1
 have hb:=h.aH.1
 generalize hx:s.bk[i]=x at*
 have c1:=jk a1
 have c2:=jk a2
 have c3:=jk a3
 have c4:=U2 (s.bk.take i) 118 [.ref [I x.dh,I x.ay,I x.most]] (ZG x) (fun y _=>U8 y x)
 rw[a4,List.map_take] at c4
 simp -implicitDefEqProofs [Ht]
 refine⟨i64 (by omega) (by omega),aj c1 ?_⟩
 simp -implicitDefEqProofs
 refine⟨i64 (by omega) (by omega),aj c2 ?_⟩
 simp -implicitDefEqProofs
 refine aj c3 ?_
 simp -implicitDefEqProofs
 refine⟨by omega,aj c4 ?_⟩
 simp -implicitDefEqProofs [Hu]
theorem U'{s:aB}(h:Valid s):aA Tryz.prog 90 [bQ s] (T3 (0,0,0)):=by
 refine pc t90 (by simp) fun _=> ?_
 have hz:∀{g:Nat→Int} {n:Nat} {most:Int},(n:Int)≤most→(∀i<n,g i=0)→c9 g n most=(0,0):=fun h1 h2=>lp (by omega) h2
 have c1:=UU s.steps 5 108 [bG s] (fun _=>0) (fun i hi=>U6 h i hi)
 rw[hz (by have:=h.n1;omega) (fun _ _=>rfl)] at c1
 have c2:=J4 h.terms.1 h.terms.2.1
 have c3:=jk h.terms.2.2
 have d4:=J6 s.aH
 have c4:=J3 s.aH 6 120 [.ref [SL s.aH]] (YX s.aH) (fun i hi=>J5 s.aH i hi)
 rw[hz h.aH.1 h.aH.2] at c4
 have d5:=J6 s.YS
 have c5:=J3 s.YS 4 120 [.ref [SL s.YS]] (YX s.YS) (fun i hi=>J5 s.YS i hi)
 rw[hz h.YS.1 h.YS.2] at c5
 have c6:=UW s.a_ 6 112 [bG s] (fun _=>0) (fun i hi=>U9 h i hi)
 rw[hz h.a_.1 (fun _ _=>rfl)] at c6
 have c7:=UX s.bk 16 116 [bG s] (fun _=>0) (fun i hi=>U_ h i hi)
 rw[hz h.bk.1 (fun _ _=>rfl)] at c7
 have hl:((s.steps.length:Int)==0)=false:=by have:=h.n1;rw[beq_eq_false_iff_ne];omega
 simp -implicitDefEqProofs [G_,hl]
 refine aj c1 ?_
 simp -implicitDefEqProofs
 refine aj c2 ?_
 simp -implicitDefEqProofs
 refine aj c3 ?_
 simp -implicitDefEqProofs
 refine aj d4 ?_
 simp -implicitDefEqProofs
 refine aj c4 ?_
 simp -implicitDefEqProofs
 refine aj d5 ?_
 simp -implicitDefEqProofs
 refine aj c5 ?_
 simp -implicitDefEqProofs
 refine aj c6 ?_
 simp -implicitDefEqProofs
 refine aj c7 ?_
 simp -implicitDefEqProofs [He]
end Go.Proofs.YtpeikknjbnnnnaaGreat.A
namespace Go.Proofs.YtpeikknjbnnnnaaGreat.A
open Go.az O
abbrev fh(s:aB)(T:List AV):List AV:=.slice 2 (s.steps.map mw) 0::I s.kA::I s.kB::I s.days::SL s.aH::SL s.YS::.slice 4 (s.a_.map iG) 0::.slice 3 (s.bk.map Zj) 0::T
theorem Va(s:aB)(b:Nat):(ue s b).length=73:=by simp[wS,Cl]
structure Vb (s:aB) (b:Nat) (T:List AV):Prop where
 len:T.length=73
 place:∀ay one,ay<6→one<6→∀h:36+ay*6+one<T.length,T[36+ay*6+one]=I (placeOf s ay one)
 most:∀ay one,ay<6→one<6→∀h:ay*6+one<T.length,T[ay*6+one]=I (eI s ay one)
 map:∀h:72<T.length,T[72]=.bL b
theorem wW(s:aB)(b:Nat):∃T,Vb s b T∧cA s b=.ref (fh s T):=by
 have get:∀{T:List AV} {i:Nat} {x:AV} (h:i<T.length),T[i]?.getD .any=x→T[i]=x:=fun h e=>by rw[List.getElem?_eq_getElem h] at e;exact e
 refine⟨ue s b,⟨Va s b,fun ay one h1 h2 h=>get h ?_,fun ay one h1 h2 h=>get h ?_,fun h=>get h ?_⟩,rfl⟩
 ·have:=UM s b (ay*6+one) (by omega)
  rw[List.getD_eq_getElem?_getD,List.getElem?_drop] at this
  rw[←Nat.add_assoc] at this
  exact this
 ·have:=UL s b (ay*6+one) (by omega)
  rw[List.getD_eq_getElem?_getD,List.getElem?_drop] at this
  exact this
 ·have h1:=wS s
  have h2:=Cl s
  rw[List.getElem?_append_right (by simp;omega),List.getElem?_append_right (by simp;omega)]
  simp[h1,h2]
theorem Cq{other:Option Nat}(hq:∀q,other=some q→q<6):(other=none∧jP other= -1)∨∃q,other=some q∧q<6∧jP other=q:=by
 cases other with
 |none=>exact .inl ⟨rfl,rfl⟩
 |some q=>exact .inr ⟨q,rfl,hq q rfl,rfl⟩
theorem Vc(s:aB)(b:Nat)(ay one:Nat)(other:Option Nat)(hl:ay<6)(ho:one<6)(hq:∀q,other=some q→q<6):aA Tryz.prog 96 [cA s b,I ay,I one,I (jP other)] (B (rM s ay one other)):=by
 refine pc t96 (by simp) fun _=> ?_
 obtain⟨T,hT,hA⟩:=wW s b
 rw[hA];clear hA
 have hlen:=hT.len
 have d1:=hT.place ay one hl ho
 have d2:=hT.most ay one hl ho
 have k1:0<73 - (36+ay*6+one):=by omega
 have k2:0<73 - (ay*6+one):=by omega
 have hl':(ay:Int)<6:=by omega
 have ho':(one:Int)<6:=by omega
 rcases Cq hq with ⟨rfl,ho⟩|⟨q,rfl,J8,ho⟩
 ·have hR:rM s ay one none=decide (0<placeOf s ay one):=rfl
  rw[hR]
  generalize placeOf s ay one=p at*
  rw[ho]
  by_cases hp:p=0
  ·have jE:(p==0)=true:=by simp[hp]
   simp -implicitDefEqProofs [pq,hlen,hl',ho',d1,k1,jE,pz]
  ·have jE:(p==0)=false:=by simp[hp]
   simp -implicitDefEqProofs [pq,hlen,hl',ho',d1,k1,jE,pz]
 ·rw[ho]
  have d3:=hT.most ay q hl J8
  have d4:=hT.place ay q hl J8
  have hR:rM s ay one (some q)=if placeOf s ay one=0 then false else decide (eI s ay q<eI s ay one)||(decide (eI s ay one=eI s ay q)&&decide (placeOf s ay one<placeOf s ay q)):=rfl
  rw[hR]
  have k3:0<73 - (36+ay*6+q):=by omega
  have k4:0<73 - (ay*6+q):=by omega
  have ck:(q:Int)<6:=by omega
  have gi:¬(q:Int)<0:=by omega
  generalize placeOf s ay one=p at*
  generalize placeOf s ay q=p2 at*
  generalize eI s ay one=y at*
  generalize eI s ay q=y2 at*
  by_cases hp:p=0
  ·subst hp
   simp -implicitDefEqProofs [pq,hlen,hl',ho',d1,k1,pz]
  ·have jE:(p==0)=false:=by simp[hp]
   rw[if_neg hp]
   by_cases h1:y2<y
   ·simp -implicitDefEqProofs [pq,hlen,hl',ho',ck,gi,d1,d2,d3,k1,k2,k4,jE,h1,pz]
   ·by_cases h2:y=y2
    ·subst h2
     simp -implicitDefEqProofs [pq,hlen,hl',ho',ck,gi,d1,d2,d3,d4,k1,k2,k3,k4,jE,pz]
    ·have oD:(y==y2)=false:=by simp[h2]
     simp -implicitDefEqProofs [pq,hlen,hl',ho',ck,gi,d1,d2,d3,k1,k2,k4,jE,h1,oD,h2,pz]
end Go.Proofs.YtpeikknjbnnnnaaGreat.A
namespace Go.Proofs.YtpeikknjbnnnnaaGreat.A
open Go.az O
theorem uj(s:aB)(ay:Nat)(q:Nat→Bool):∀(k x:Nat),kC s ay q k=some x→x<k
 |0,_,h=>by cases h
 |k+1,x,h=>by
  unfold kC at h
  split at h
  ·injection h with h;omega
  ·have:=uj s ay q k x h;omega
def Cr(of:Int)(q:Nat→Bool):Prop:=∀k<6,(d_ .and .i64 (Int.fdiv of (2^(min k (IntKind.bits .i64)))) 1==1)=q k
theorem Vd:Cr (-1) fun _=>true:=by
 intro k hk
 match k,hk with
 |0,_|1,_|2,_|3,_|4,_|5,_=>decide+kernel
theorem bits_nat{n:Nat}(hn:n<256):Cr n fun i=>n.testBit i:=by
 intro k hk
 rcases vY (i:=k) hn with h|h
 ·exact h
 ·omega
theorem J9(s:aB)(b:Nat)(ay:Nat)(of:Int)(q:Nat→Bool)(hl:ay<6)(hn:s.aH.length≤6)(hq:Cr of q):aA Tryz.prog 72 [cA s b,I ay,I of] (I (jP (jf s ay q))):=by
 refine pc t72 (by simp) fun _=> ?_
 have hlt:=uj s ay q
 have hs:=fun k o h1 h2=>Vc s b ay k o hl h1 h2
 unfold jf
 obtain⟨T,hT,hA⟩:=wW s b
 rw[hA] at hs⊢;clear hA
 simp -implicitDefEqProofs [G7]
 refine bw s.aH.length (fun k st=>st.env 0=.ref (fh s T)∧st.env 1=I ay∧st.env 2=I of∧st.env 7=I (jP (kC s ay q k))∧st.env 14=I s.aH.length∧st.env 15=I k) ?_ ?_
 ·simp[kC,jP]
 rintro k st hk ⟨e0,e1,e2,e7,bf,Yv⟩
 simp -implicitDefEqProofs [bf,Yv]
 refine bu (fun YH=> ?_) (fun hge=> ?_)
 ·have YH:k<s.aH.length:=by omega
  have hb:=hq k (by omega)
  have hU:kC s ay q (k+1)=if q k&&rM s ay k (kC s ay q k) then some k else kC s ay q k:=rfl
  have hc:=hs k (kC s ay q k) (by omega) (fun x hx=>by have:=hlt k x hx;omega)
  generalize kC s ay q k=o at*
  generalize q k=qk at*
  generalize rM s ay k o=r at*
  simp -implicitDefEqProofs [e2,Yv,hb]
  cases qk with
  |false=>
   simp -implicitDefEqProofs [Yv]
   exact⟨i64 (by omega) (by omega),aN YH ⟨by simp[e0],by simp[e1],by simp[e2],by simp[e7,hU],by simp[bf],by simp⟩⟩
  |true=>
   simp -implicitDefEqProofs [e0,e1,e7]
   refine aj hc ?_
   cases r with
   |false=>
    simp -implicitDefEqProofs [Yv]
    exact⟨i64 (by omega) (by omega),aN YH ⟨by simp[e0],by simp[e1],by simp[e2],by simp[e7,hU],by simp[bf],by simp⟩⟩
   |true=>
    simp -implicitDefEqProofs [Yv]
    exact⟨i64 (by omega) (by omega),aN YH ⟨by simp[e0],by simp[e1],by simp[e2],by simp[hU,jP],by simp[bf],by simp⟩⟩
 ·obtain rfl:k=s.aH.length:=by omega
  simp -implicitDefEqProofs [e7,G8]
end Go.Proofs.YtpeikknjbnnnnaaGreat.A
namespace Go.Proofs.YtpeikknjbnnnnaaGreat.A
open Go.az O
structure abk (s:aB):Prop extends StepsOK s where src:∀x∈s.steps,0≤x.src∧x.src≤100000
theorem J_{s:aB}(h:StepsOK s){p:Int}(hp:0≤p):∀k,(1≤k→k≤s.steps.length→1≤jg s p k∧jg s p k≤100000)
 |0=>fun h1=>by omega
 |k+1=>fun _ h2=>by
  have ih:=J_ h hp k
  have hk:k<s.steps.length:=by omega
  have hb:=h.f_ s.steps[k] (List.getElem_mem hk)
  unfold jg
  have hg:s.steps.getD k eS=s.steps[k]:=by simp[hk]
  rw[hg]
  split
  ·exact hb
  ·rename_i hn
   by_cases h0:k=0
   ·subst h0
    have hf:=h.first
    rw[hg] at hf
    omega
   ·exact ih (by omega) (by omega)
theorem J'{s:aB}(h:StepsOK s){p:Int}(hp:0≤p):1≤YD s p∧YD s p≤100000:=J_ h hp _ h.len.1 (Nat.le_refl _)
theorem Ka{s:aB}(h:abk s){p others:Int}(hp:0≤p)(ho:p≤others):∀k,k≤s.steps.length→p≤gC s p others k∧gC s p others k≤others
 |0,_=>by simp[gC];exact ho
 |k+1,hk=>by
  have ih:=Ka h hp ho k (by omega)
  have hg:s.steps.getD k eS=s.steps[k]:=by simp[show k<s.steps.length by omega]
  unfold gC
  rw[hg]
  split<;>omega
theorem Kb{s:aB}(h:StepsOK s){p others most:Int}(hp:0≤p)(hm:p+YD s p≤most)(hm2:most≤100000):1≤iH s p others most∧iH s p others most≤100000∧1≤iH s p others most*YD s p∧p+iH s p others most*YD s p≤most:=by
 have hb:=J' h hp
 have hd:(most - p).tdiv (YD s p)=(most - p) / YD s p:=Int.tdiv_eq_ediv_of_nonneg (by omega)
 have h1:1≤(most - p) / YD s p:=(Int.le_ediv_iff_mul_le (by omega)).2 (by omega)
 have h2:(most - p) / YD s p*YD s p≤most - p:=Int.ediv_mul_le _ (by omega)
 have h3:iH s p others most≤(most - p) / YD s p:=by unfold iH;rw[hd];omega
 have h4:1≤iH s p others most:=by unfold iH;omega
 have h5:iH s p others most*YD s p≤(most - p) / YD s p*YD s p:=Int.mul_le_mul_of_nonneg_right h3 (by omega)
 have h6:1*YD s p≤iH s p others most*YD s p:=Int.mul_le_mul_of_nonneg_right h4 (by omega)
 have h7:(most - p) / YD s p≤most - p:=Int.ediv_le_self _ (by omega)
 exact⟨h4,by omega,by omega,by omega⟩
theorem Kc{s:aB}{p others most:Int}:Zk s p others most=true↔p≤others∧p+YD s p≤most:=by unfold Zk;simp
theorem Ke{s:aB}(h:StepsOK s){p others most:Int}(hp:1≤p∧p≤100000)(hm:most≤100000):∀k,(∀m<k,Zk s (dX s others most p m) others most=true)→p+k≤dX s others most p k∧dX s others most p k≤100000
 |0,_=>by simp[dX];exact hp.2
 |k+1,hg=>by
  have ih:=Ke h hp hm k (fun m hm=>hg m (by omega))
  have g:=Kc.1 (hg k (by omega))
  have:=Kb (others:=others) h (p:=dX s others most p k) (by omega) g.2 hm
  unfold dX
  omega
theorem wX(s:aB)(others most p:Int):∀n,dX s others most p (n+1)=dX s others most (p+iH s p others most*YD s p) n
 |0=>rfl
 |n+1=>by
  show dX s others most p (n+1)+_=_
  rw[wX s others most p n];rfl
theorem Kf{s:aB}{others most:Int}:∀(k f:Nat) (p:Int),k<f→(∀m<k,Zk s (dX s others most p m) others most=true)→Zk s (dX s others most p k) others most=false→uc s others most f p=dX s others most p k
 |_,0,_,h,_,_=>absurd h (by omega)
 |0,f+1,p,_,_,hn=>by
  unfold uc
  rw[if_neg (by rw[show Zk s p others most=false from hn];simp)];rfl
 |k+1,f+1,p,h,hg,hn=>by
  unfold uc
  rw[if_pos (show Zk s p others most=true from hg 0 (by omega)),wX]
  exact Kf k f _ (by omega) (fun m hm=>by rw[←wX];exact hg (m+1) (by omega)) (by rw[←wX];exact hn)
theorem Ve{s:aB}{p others most:Int}{k:Nat}(hk:k≤100000)(hg:∀m<k,Zk s (dX s others most p m) others most=true)(hn:Zk s (dX s others most p k) others most=false):ud s p others most=dX s others most p k:=Kf k 100001 p (by omega) hg hn
theorem Kg(a b:Int):(if b<a then b else a)=min a b:=by split<;>omega
theorem Ct(a b:Int):(if a<b then b else a)=max a b:=by split<;>omega
theorem Vf{s:aB}(h:abk s)(b:Nat){p others most:Int}(hp:1≤p∧p≤100000)(ho:0≤others∧others≤100000)(hm:0≤most∧most≤100000):aA Tryz.prog 73 [cA s b,I p,I others,I most] (I (ud s p others most)):=by
 refine pc t73 (by simp) fun _=> ?_
 have hl:=h.len
 have Kh:=fun(q:Int) (hq:0≤q∧q≤1000000)=>J1 h.toStepsOK b hq
 obtain⟨T,hT,hA⟩:=wW s b
 rw[hA] at Kh⊢;clear hA
 simp -implicitDefEqProofs [G9]
 refine bw 100000 (fun k st=>st.env 0=.ref (fh s T)∧st.env 1=I (dX s others most p k)∧st.env 2=I others∧st.env 3=I most∧∀m<k,Zk s (dX s others most p m) others most=true) ?_ ?_
 ·simp[dX]
 rintro k st hk ⟨e0,e1,e2,e3,hg⟩
 have hbd:=Ke h.toStepsOK hp hm.2 k hg
 have hend:=fun h'=>Ve (s:=s) (p:=p) (others:=others) (most:=most) hk hg h'
 have hN:dX s others most p (k+1)=dX s others most p k+iH s (dX s others most p k) others most*YD s (dX s others most p k):=rfl
 have Vg:Zk s (dX s others most p k) others most=true→∀m<k+1,Zk s (dX s others most p m) others most=true:=fun h' m hm=>by
  by_cases e:m=k
  ·rw[e];exact h'
  ·exact hg m (by omega)
 generalize dX s others most p k=pk at*
 simp -implicitDefEqProofs [e1,e2]
 refine bu (fun hle=> ?_) (fun hgt=> ?_)
 ·have hby:=J' h.toStepsOK (p:=pk) (by omega)
  simp -implicitDefEqProofs [e0,e1]
  refine aj (Kh pk ⟨by omega,by omega⟩) ?_
  simp -implicitDefEqProofs [e3]
  refine bu (fun hstop=> ?_) (fun X4=> ?_)
  ·simp -implicitDefEqProofs [e1,AL]
   exact hend (by unfold Zk;simp;intro _;omega)
  have hG:Zk s pk others most=true:=Kc.2 ⟨hle,by omega⟩
  have X5:=Kb (others:=others) h.toStepsOK (p:=pk) (by omega) (by omega) hm.2
  have Vh:pk+YD s pk - pk=YD s pk:=by omega
  simp -implicitDefEqProofs [e0,e1,e2,Vh]
  refine⟨i64 (by omega) (by omega),?_⟩
  refine bw s.steps.length (fun j st=>st.env 0=.ref (fh s T)∧st.env 1=I pk∧st.env 2=I others∧st.env 3=I most∧st.env 10=I (YD s pk)∧st.env 11=I (gC s pk others j)∧st.env 32=.slice 2 (s.steps.map mw) 0∧st.env 33=I s.steps.length∧st.env 34=I j) ?_ ?_
  ·simp[e0,e1,e2,e3,gC]
  rintro j st hj ⟨e0,e1,e2,e3,bF,aV,gw,eG,ZY⟩
  simp -implicitDefEqProofs [eG,ZY]
  refine bu (fun hlt=> ?_) (fun hge=> ?_)
  ·have hlt:j<s.steps.length:=by omega
   have hE:gC s pk others (j+1)=if pk<s.steps[j].src then min (gC s pk others j) (s.steps[j].src - 1) else gC s pk others j:=by
    show(if pk<(s.steps.getD j eS).src then min (gC s pk others j) ((s.steps.getD j eS).src - 1) else gC s pk others j)=_
    rw[show s.steps.getD j eS=s.steps[j] by simp[hlt]]
   have X6:=h.src s.steps[j] (List.getElem_mem hlt)
   simp -implicitDefEqProofs [gw,ZY,hlt,e1]
   intro b' _
   by_cases hc:pk<s.steps[j].src
   ·rw[if_pos hc] at hE
    simp -implicitDefEqProofs [hc,aV,ZY,Kg]
    refine⟨i64 (by omega) (by omega),i64 (by omega) (by omega),aN hlt ⟨by simp[e0],by simp[e1],by simp[e2],by simp[e3],by simp[bF],by simp[hE],by simp[gw],by simp[eG],by simp⟩⟩
   ·rw[if_neg hc] at hE
    simp -implicitDefEqProofs [hc,ZY]
    refine⟨i64 (by omega) (by omega),aN hlt ⟨by simp[e0],by simp[e1],by simp[e2],by simp[e3],by simp[bF],by simp[hE,aV],by simp[gw],by simp[eG],by simp⟩⟩
  ·obtain rfl:j=s.steps.length:=by omega
   have X7:=Ka h (p:=pk) (others:=others) (by omega) hle s.steps.length (Nat.le_refl _)
   have hM:iH s pk others most=max 1 (min ((gC s pk others s.steps.length - pk).tdiv (YD s pk)+1) ((most - pk).tdiv (YD s pk))):=rfl
   have X8:0≤(gC s pk others s.steps.length - pk).tdiv (YD s pk)∧(gC s pk others s.steps.length - pk).tdiv (YD s pk)≤100000:=by
    rw[Int.tdiv_eq_ediv_of_nonneg (by omega)]
    exact⟨Int.ediv_nonneg (by omega) (by omega),Int.le_trans (Int.ediv_le_self _ (by omega)) (by omega)⟩
   have X9:0≤(most - pk).tdiv (YD s pk)∧(most - pk).tdiv (YD s pk)≤100000:=by
    rw[Int.tdiv_eq_ediv_of_nonneg (by omega)]
    exact⟨Int.ediv_nonneg (by omega) (by omega),Int.le_trans (Int.ediv_le_self _ (by omega)) (by omega)⟩
   generalize gC s pk others s.steps.length=en at*
   generalize YD s pk=y at*
   have hy0:¬y=0:=by omega
   simp -implicitDefEqProofs [e1,e3,bF,aV,Kg,Ct,hy0,←hM]
   refine⟨i64 (by omega) (by omega),i64 (by omega) (by omega),i64 (by omega) (by omega),i64 (by omega) (by omega),i64 (by omega) (by omega),i64 (by omega) (by omega),i64 (by omega) (by omega),?_⟩
   refine aN (by omega) ⟨by simp[e0],by simp[hN],by simp[e2],by simp[e3],Vg hG⟩
 ·simp -implicitDefEqProofs [e1,AL]
  exact hend (by unfold Zk;simp;intro _;omega)
end Go.Proofs.YtpeikknjbnnnnaaGreat.A
namespace Go.Proofs.YtpeikknjbnnnnaaGreat.A
open Go.az O
theorem Valid.Ki{s:aB}(h:Valid s):abk s:=by
 refine⟨⟨h.n1,fun x hx=> ?_,?_⟩,fun x hx=> ?_⟩
 ·obtain⟨i,hi,rfl⟩:=List.getElem_of_mem hx
  exact(h.uh hi).2.2
 ·have hi:0<s.steps.length:=h.n1.1
  rw[ug hi]
  exact(h.uh hi).1 rfl
 ·obtain⟨i,hi,rfl⟩:=List.getElem_of_mem hx
  exact h.Co i hi
abbrev iJ(s:aB)(b k:Nat):List AV:=(ZF s k).map I++((nw s k).map I++[.bL b])
theorem Kj(s:aB)(T:List AV)(n:Nat)(v:AV):(fh s T).set (8+n) v=fh s (T.set n v):=by rw[Nat.add_comm];rfl
theorem Kk(s:aB)(k:Nat):(ZF s k).length=36:=ua _ s _
theorem Kl(s:aB)(k:Nat):(nw s k).length=36:=ua _ s _
theorem Vi(s:aB)(b k n:Nat)(hn:n<36)(x:je)(hx:s.bk.getD k jO=x)(hi:(x.ay*6+x.dh).toNat=n):((iJ s b k).set n (I x.most)).set (36+n) (I ((k:Int)+1))=iJ s b (k+1):=by
 have h1:=Kk s k
 have h2:=Kl s k
 have e1:ZF s (k+1)=(ZF s k).set n x.most:=by
  show(ZF s k).set ((s.bk.getD k jO).ay*6+(s.bk.getD k jO).dh).toNat (s.bk.getD k jO).most=_
  rw[hx,hi]
 have e2:nw s (k+1)=(nw s k).set n ((k:Int)+1):=by
  show(nw s k).set ((s.bk.getD k jO).ay*6+(s.bk.getD k jO).dh).toNat ((k:Int)+1)=_
  rw[hx,hi]
 unfold iJ
 rw[e1,e2,List.set_append_left _ _ (by simp;omega),List.set_append_right _ _ (by simp;omega),List.length_set,List.length_map,h1,Nat.add_sub_cancel_left,List.set_append_left _ _ (by simp;omega),List.map_set,List.map_set]
theorem Vj(s:aB)(T:List AV)(h:T.map AV.erase0=T):(fh s T).map AV.erase0=fh s T:=by simp[h]
theorem Vk(s:aB)(b k:Nat):(iJ s b k).map AV.erase0=iJ s b k:=by simp[iJ,AV.erase0,Function.comp_def]
theorem Vl(s:aB)(b k:Nat):(iJ s b k).length=73:=by simp[iJ,Kk,Kl]
theorem Cu{s:aB}(h:Valid s){s0:St}{K:AV→St→Prop}(hK:∀s2 b,Old s0 s2→s2.env (1000001+b)=aS []→K (.tuple [cA s b,I 0]) (back s0 s2)):YZ Tryz.prog 62 [bQ s] s0 K:=by
 refine ic t62 (by simp) fun _=> ?_
 have hl:=h.a_.1
 have Z_:=h.aH.1
 have Dd:=h.bk.1
 simp -implicitDefEqProofs only[GP]
 refine au (fun st=>st.env 1=bG s∧Old s0 st) ?_ ?_
 ·intro k hk
  simp -implicitDefEqProofs
  have hO:Old s0 s0:=⟨fun _ _ h _=>h,fun _ _ _ h=>h⟩
  exact hk _ ⟨by simp,hO.ext (by simp) (by simp)⟩
 rintro st ⟨e1,hO⟩
 refine au (fun st=>st.env 1=bG s∧Old s0 st) ?_ ?_
 ·intro k hk
  simp -implicitDefEqProofs [e1]
  refine aj (U' h) ?_
  simp -implicitDefEqProofs
  exact hk _ ⟨by simp[e1],hO.ext (by simp) (by simp)⟩
 rintro st ⟨e1,hO⟩
 refine au (fun st=>st.env 1=bG s∧Old s0 st∧∃b mb,st.env 7=.Yq b 0∧st.loc b=some (fh s (iJ s mb 0))∧fL s0 b∧st.env (1000001+mb)=aS []) ?_ ?_
 ·intro k hk
  simp -implicitDefEqProofs [e1]
  intro mb rm hm2 b hb
  refine hk _ ⟨by simp[e1],hO.ext (by simp) (fun c hc=> ?_),b,mb,by simp,by simp;rfl,hO.new hb,by simp⟩
  have:¬c=b:=by rintro rfl;exact hc hb
  simp[this]
 rintro st ⟨e1,hO,b,mb,e7,lb,nb,em⟩
 refine au (fun st=>Old s0 st∧st.env 7=.Yq b 0∧st.loc b=some (fh s (iJ s mb s.bk.length))∧st.env (1000001+mb)=aS []) ?_ ?_
 ·intro k0 aX
  simp -implicitDefEqProofs [e1]
  refine bw s.bk.length (fun k st=>Old s0 st∧st.env 7=.Yq b 0∧st.loc b=some (fh s (iJ s mb k))∧st.env (1000001+mb)=aS []∧st.env 24=.slice 3 (s.bk.map Zj) 0∧st.env 25=I s.bk.length∧st.env 26=I k) ?_ ?_
  ·exact⟨hO.ext (by simp) (by simp),by simp[e7],by simp[lb],by simp[em],by simp,by simp,by simp⟩
  rintro k st hk ⟨hO,e7,lb,em,YK,gv,k7⟩
  simp -implicitDefEqProofs [gv,k7]
  refine bu (fun hlt=> ?_) (fun hge=> ?_)
  ·have hlt:k<s.bk.length:=by omega
   obtain⟨a1,a2,a3,-⟩:=h.Cp hlt
   have hg:=wU hlt
   generalize hx:s.bk[k]=x at*
   obtain⟨B,hB⟩:∃B:Nat,x.dh=B:=⟨x.dh.toNat,by omega⟩
   obtain⟨L,hL⟩:∃L:Nat,x.ay=L:=⟨x.ay.toNat,by omega⟩
   have hs:=Vi s mb k (L*6+B) (by omega) x hg (by omega)
   have ht:=Vl s mb k
   generalize iJ s mb k=T at*
   have cL:((fh s T).set (8+L*6+B) (I x.most)).set (44+L*6+B) (I ((k:Int)+1))=fh s (iJ s mb (k+1)):=by rw[show 8+L*6+B=8+(L*6+B) by omega,show 44+L*6+B=8+(36+(L*6+B)) by omega,Kj,Kj,hs]
   have Vm:(fh s T).length=81:=by simp[ht]
   generalize fh s T=C at*
   simp -implicitDefEqProofs [YK,k7,hlt,hx]
   intro b9 h9
   have hne:¬b=b9:=by rintro rfl;rw[lb] at h9;cases h9
   simp -implicitDefEqProofs [e7,hB,hL,hne,lb,Vm]
   refine⟨i64 (by omega) (by omega),by omega,by omega,by omega,by omega,by omega,by omega,i64 (by omega) (by omega),aN hlt ⟨hO.put (by simp) nb (fun c hc=> ?_),by simp[e7],by simp[cL],by simp[em],by simp[YK],by simp[gv],by simp⟩⟩
   have cj:¬c=b:=hc
   by_cases e:c=b9
   ·subst e;simp[cj,h9]
   ·simp[cj,e]
  ·obtain rfl:k=s.bk.length:=by omega
   simp -implicitDefEqProofs
   exact aX _ ⟨hO.ext (by simp) (by simp),by simp[e7],by simp[lb],by simp[em]⟩
 rintro st ⟨hO,e7,lb,em⟩
 have ht:=Vk s mb s.bk.length
 have hE:(fh s (iJ s mb s.bk.length)).map AV.erase0=fh s (iJ s mb s.bk.length):=Vj s _ ht
 simp -implicitDefEqProofs [e7,lb]
 refine tg ?_
 rw[hE]
 simp -implicitDefEqProofs [dj,GQ,aq]
 refine hK _ mb (hO.put (by simp[aq]) nb fun c hc=>by simp[aq,hc]) (by simp[aq,em])
end Go.Proofs.YtpeikknjbnnnnaaGreat.A
namespace Go.Proofs.YtpeikknjbnnnnaaGreat.A
open Go.az O
abbrev bK(x:Int×Int):AV:=.agg [I x.1,I x.2]
def iK(l:List (Int×Int)):List AV:=l.flatMap fun h=>[I h.1,I h.2]
theorem qc(l:List (Int×Int)):(iK l).length=2*l.length:=by
 induction l with
 |nil=>rfl
 |cons a l ih=>simp only[iK,List.flatMap_cons,List.length_append,List.length_cons,List.length_nil] at ih⊢;omega
theorem Km(l m:List (Int×Int)):iK (l++m)=iK l++iK m:=by simp[iK]
structure rN (cs:List AV) (l:List (Int×Int)) (cap:Nat):Prop where
 le:l.length≤cap
 len:cs.length=2*cap
 cells:cs.take (2*l.length)=iK l
 num:∀x∈cs,∃m,x=I m
theorem Cv(l:List (Int×Int)):∀x∈iK l,∃m,x=I m:=by
 intro x hx
 simp only[iK,List.mem_flatMap] at hx
 obtain⟨h,_,hx⟩:=hx
 simp at hx
 rcases hx with rfl|rfl<;>exact⟨_,rfl⟩
theorem Kn:∀(l:List (Int×Int)) (cs:List AV),cs.take (2*l.length)=iK l→chunk 2 cs l.length=l.map bK
 |[],_,_=>rfl
 |a::l,cs,h=>by
  have hl:(iK (a::l)).length=2*l.length+2:=by rw[qc];simp;omega
  have e:cs.take 2=[I a.1,I a.2]:=by
   have:=congrArg (List.take 2) h
   rw[List.take_take,Nat.min_eq_left (by simp;omega)] at this
   rw[this];rfl
  have e2:(cs.drop 2).take (2*l.length)=iK l:=by
   have:=congrArg (List.drop 2) h
   rw[List.drop_take] at this
   rw[show 2*(a::l).length - 2=2*l.length by simp;omega] at this
   rw[this];rfl
  have ih:=Kn l (cs.drop 2) e2
  simp only[List.length_cons,chunk,e,ih,List.map_cons]
  rfl
theorem Ko(h:Int×Int)(r:Nat):rN ([I h.1,I h.2]++(List.replicate r [I 0,I 0]).flatten) [h] (1+r):=by
 refine⟨by simp,by simp;omega,by simp[iK],fun x hx=> ?_⟩
 simp only[List.mem_append,List.mem_flatten,List.mem_replicate] at hx
 rcases hx with hx|⟨l,⟨_,rfl⟩,hx⟩
 ·simp at hx
  rcases hx with rfl|rfl<;>exact⟨_,rfl⟩
 ·simp at hx
  subst hx
  exact⟨_,rfl⟩
theorem Vn{cs:List AV}{l:List (Int×Int)}{cap:Nat}(hb:rN cs l cap)(h:Int×Int)(r:Nat):rN ((cs.take (l.length*2)).map AV.erase0++([I h.1,I h.2]++(List.replicate r [I 0,I 0]).flatten)) (l++[h]) (l.length+1+r):=by
 have hn:=Ko h r
 have e:cs.take (l.length*2)=iK l:=by rw[Nat.mul_comm];exact hb.cells
 rw[e,ov (Cv l)]
 refine⟨by simp,?_,?_,fun x hx=> ?_⟩
 ·rw[List.length_append,hn.len,qc];omega
 ·have e3:2*(l++[h]).length=2*l.length+2:=by simp;omega
  rw[e3,Km,List.take_append,qc,List.take_of_length_le (by rw[qc];omega)]
  rw[show 2*l.length+2 - 2*l.length=2 by omega]
  rfl
 ·rcases List.mem_append.1 hx with hx|hx
  ·exact Cv l x hx
  ·exact hn.num x hx
theorem Vo{cs:List AV}{l:List (Int×Int)}{cap:Nat}(hb:rN cs l cap)(h:Int×Int)(hr:l.length+1≤cap):rN (splice cs (l.length*2) [I h.1,I h.2]) (l++[h]) cap:=by
 have hlen:=hb.len
 have e:cs.take (l.length*2)=iK l:=by rw[Nat.mul_comm];exact hb.cells
 rw[Bv _ _ _ (by simp;omega),e]
 refine⟨by simp;omega,?_,?_,fun x hx=> ?_⟩
 ·simp only[List.length_append,qc,List.length_drop,List.length_cons,List.length_nil];omega
 ·have e3:2*(l++[h]).length=2*l.length+2:=by simp;omega
  rw[e3,Km,List.take_append,qc,List.take_of_length_le (by rw[qc];omega)]
  rw[show 2*l.length+2 - 2*l.length=2 by omega]
  rfl
 ·rcases List.mem_append.1 hx with hx|hx
  ·exact Cv l x hx
  rcases List.mem_append.1 hx with hx|hx
  ·simp at hx
   rcases hx with rfl|rfl<;>exact⟨_,rfl⟩
  ·exact hb.num x (List.mem_of_mem_drop hx)
def gR(s0:St)(loc:Nat→Option (List AV))(v:AV)(l:List (Int×Int)):Prop:=(l=[]∧v=.lit (.slice none 0 0))∨∃b cap cs,l≠[]∧v=.aP b 0 l.length cap 2∧loc b=some cs∧rN cs l cap∧fL s0 b
theorem gR.ext{s0:St}{loc loc':Nat→Option (List AV)}{v:AV}{l:List (Int×Int)}(h:gR s0 loc v l)(hl:∀c,loc c≠none→loc' c=loc c):gR s0 loc' v l:=by
 rcases h with h|⟨b,cap,cs,h1,h2,h3,h4,h5⟩
 ·exact .inl h
 ·exact .inr ⟨b,cap,cs,h1,h2,by rw[hl b (by rw[h3];simp)];exact h3,h4,h5⟩
theorem gR.aK{s0:St}{loc:Nat→Option (List AV)}{v:AV}{l:List (Int×Int)}(h:gR s0 loc v l)(r:Nat):aG r v=v:=by rcases h with ⟨_,rfl⟩|⟨b,cap,cs,h1,rfl,_⟩<;>rfl
theorem gR.erase{s0:St}{loc:Nat→Option (List AV)}{v:AV}{l:List (Int×Int)}(h:gR s0 loc v l):v.erase=v:=by rcases h with ⟨_,rfl⟩|⟨b,cap,cs,h1,rfl,_⟩<;>rfl
theorem gR.Yo{s0:St}{loc:Nat→Option (List AV)}{v:AV}{l:List (Int×Int)}(h:gR s0 loc v l)(s:St)(d:Nat):Y4 s d v=s.set d v:=by rcases h with ⟨_,rfl⟩|⟨b,cap,cs,h1,rfl,_⟩<;>rfl
theorem Cw{P:Program}{ms:List Yr}{K:St→Prop}{s0 s:St}{d:Nat}{v:AV}{l:List (Int×Int)}{p:Int×Int}{q:Nat}(h:gR s0 s.loc v l)(hO:Old s0 s)(hl:l.length≤1000)
  (hK:∀b cs v',fL s0 b→gR s0 (s.new b cs).loc v' (l++[p])→(∀c,c≠b→(s.new b cs).loc c=s.loc c)→vcs P ms K ((s.new b cs).set d v')):
  kf P ms K s d 2 16 [.lit (.int .i64 0),.lit (.int .i64 0)] v (.slice 2 [.agg [I p.1,I p.2]] q):=by
 have other:∀(b:Nat) (cs:List AV) c,c≠b→(s.new b cs).loc c=s.loc c:=fun b cs c hc=>by rw[Z5,if_neg hc]
 rcases h with ⟨rfl,rfl⟩|⟨b,cap,cs,h1,rfl,h3,h4,h5⟩
 ·refine⟨rfl,by simp,by simp,by simp,fun b r hb=> ?_⟩
  have hn:=Ko p r
  exact hK b _ _ (hO.new hb) (.inr ⟨b,1+r,_,by simp,by simp,by rw[Z5,if_pos rfl];rfl,hn,hO.new hb⟩) (other b _)
 ·have hle:=h4.le
  have hlen:=h4.len
  have h0:¬cap=0:=by rintro rfl;have:=List.length_pos_iff.2 h1;omega
  refine⟨rfl,rfl,by simp,by simp;omega,by simp;omega,?_⟩
  rw[if_neg h0,h3]
  refine⟨by omega,fun hr=> ?_,fun hr b' r hb=> ?_⟩
  ·simp only[List.length_cons,List.length_nil] at hr
   have hn:=Vo h4 p hr
   rw[Nat.zero_add]
   exact hK b _ _ h5 (.inr ⟨b,cap,_,by simp,by simp,by rw[Z5,if_pos rfl];rfl,hn,h5⟩) (other b _)
  ·have hn:=Vn h4 p r
   exact hK b' _ _ (hO.new hb) (.inr ⟨b',l.length+1+r,_,by simp,by simp,by rw[Z5,if_pos rfl];rfl,hn,hO.new hb⟩) (other b' _)
theorem Vp{P:Program}{ms:List Yr}{K:St→Prop}{s0 s:St}{k:Nat}{l:List (Int×Int)}(h:gR s0 s.loc (s.env k) l)(hl:l.length≤1000)(hK:∀loc',(∀c cs,s0.loc c=some cs→cs.map AV.erase0=cs→loc' c=s.loc c)→vcs P ms K ⟨aq s.env k (.slice 2 (l.map bK) 0),loc'⟩):tf P ms K s k (s.env k):=by
 rcases h with ⟨rfl,hv⟩|⟨b,cap,cs,h1,hv,h3,h4,h5⟩
 ·rw[hv]
  exact⟨2,hK _ fun _ _ _ _=>rfl⟩
 ·rw[hv]
  have hle:=h4.le
  have hlen:=h4.len
  show tc P ms K s k b l.length 2 (s.loc b)
  rw[h3]
  refine⟨by omega,Bt h4.num,by omega,?_⟩
  rw[Kn l cs h4.cells]
  exact hK _ fun c cs' h6 h7=>bM _ _ (by rintro rfl;exact h5 cs' h6 h7)
end Go.Proofs.YtpeikknjbnnnnaaGreat.A
namespace Go.Proofs.YtpeikknjbnnnnaaGreat.A
open Go.az O
theorem Vq{n i:Nat}(hn:n<256)(hi:i≤64):(d_ .and .i64 (Int.fdiv (n:Int) (2^(min i (IntKind.bits .i64)))) 1==0)= !n.testBit i:=by
 show(d_ .and .i64 (Int.fdiv (n:Int) (2^(min i 64))) 1==0)=_
 rw[Nat.min_eq_left hi]
 have e:Int.fdiv (n:Int) (2^i)=((n / 2^i:Nat):Int):=by
  rw[Int.fdiv_eq_ediv_of_nonneg _ (by exact Int.pow_nonneg (by omega))]
  simp
 rw[e,HW (Nat.lt_of_le_of_lt (Nat.div_le_self _ _) (by omega)),Nat.testBit_eq_decide_div_mod_eq]
 rcases Nat.mod_two_eq_zero_or_one (n / 2^i) with h|h<;>rw[h]<;>rfl
theorem Kq{f:Nat→je→Int}{s:aB}{M:Int}(hM:0≤M):∀k,(∀j<k,0≤f j (s.bk.getD j jO)∧f j (s.bk.getD j jO)≤M)→∀x∈qb f s k,0≤x∧x≤M
 |0,_,x,hx=>by
  rw[(List.mem_replicate.1 hx).2];exact⟨Int.le_refl _,hM⟩
 |k+1,h,x,hx=>by
  rcases List.mem_or_eq_of_mem_set hx with hx|rfl
  ·exact Kq hM k (fun j hj=>h j (by omega)) x hx
  ·exact h k (by omega)
theorem Kr{s:aB}(h:Valid s)(ay b:Nat):0≤eI s ay b∧eI s ay b≤100000:=by
 unfold eI
 rw[List.getD_eq_getElem?_getD]
 cases hx:(ZF s s.bk.length)[ay*6+b]? with
 |none=>simp
 |some x=>
  refine Kq (by decide) s.bk.length (fun j hj=> ?_) x (List.mem_of_getElem? hx)
  have:=(h.Cp hj).2.2.1
  rw[wU hj];omega
theorem Ks{s:aB}(h:Valid s)(ay one:Nat)(q:Nat→Bool)(m:Option Nat):∀k,0≤gQ s ay one q m k∧gQ s ay one q m k≤100000
 |0=>by simp[gQ]
 |k+1=>by
  have ih:=Ks h ay one q m k
  have hm:=Kr h ay k
  unfold gQ
  split<;>omega
abbrev bE(n:Nat):Nat→Bool:=fun i=>n.testBit i
abbrev YY(s:aB)(n:Nat):AV:=.slice 2 ((fA s (bE n)).map bK) 0
def gD(s:aB)(es:List (List AV)):Prop:=∀e∈es,∃n:Nat,e=[I n,YY s n]
theorem Cx{s:aB}(n:Nat):∀(es:List (List AV)) (k:Nat),gD s es→b_ (I n) es k=some none∨∃i,b_ (I n) es k=some (some (k+i))∧i<es.length∧es.getD i []=[I n,YY s n]
 |[],_,_=>.inl rfl
 |e::es,k,h=>by
  obtain⟨m,rfl⟩:=h e (List.mem_cons_self ..)
  by_cases hm:m=n
  ·subst hm
   refine .inr ⟨0,?_,by simp,rfl⟩
   simp[b_,eM]
  ·have ih:=Cx n es (k+1) (fun e he=>h e (List.mem_cons_of_mem _ he))
   have hk:b_ (I n) ([I m,YY s m]::es) k=b_ (I n) es (k+1):=by
    have:((n:Int)==(m:Int))=false:=by simp;omega
    simp[b_,eM,this]
   rw[hk]
   rcases ih with ih|⟨i,h1,h2,h3⟩
   ·exact .inl ih
   ·exact .inr ⟨i+1,by rw[h1,show k+1+i=k+(i+1) by omega],by simp;omega,h3⟩
theorem gD.set{s:aB}{es:List (List AV)}(h:gD s es)(i n:Nat):gD s (es.set i [I n,YY s n]):=fun e he=>by
 rcases List.mem_or_eq_of_mem_set he with he|rfl
 ·exact h e he
 ·exact⟨n,rfl⟩
theorem gD.add{s:aB}{es:List (List AV)}(h:gD s es)(n:Nat):gD s (es++[[I n,YY s n]]):=fun e he=>by
 rcases List.mem_append.1 he with he|he
 ·exact h e he
 ·rw[List.mem_singleton] at he;exact⟨n,he⟩
@[simp] theorem Ty (r:Nat) (es:List (List AV)):aG r (aS es)=aS es:=rfl
@[simp] theorem X_ (es:List (List AV)):(aS es).erase=aS es:=rfl
structure SS (s:aB) (s0:St) (T:List AV) (b n:Nat) (es:List (List AV)) (l:List (Int×Int)) (k:Nat) (st:St):Prop where
 e:st.env 0=.ref (fh s T)∧st.env 1=I n∧st.env 28=.slice 4 (s.a_.map iG) 0∧st.env 29=I s.a_.length∧st.env 30=I k
 acc:gR s0 st.loc (st.env 5) l
 old:Old s0 st
 em:st.env (1000001+b)=aS es
theorem SS.ext{s:aB}{s0:St}{T:List AV}{b n:Nat}{es:List (List AV)}{l:List (Int×Int)}{k:Nat}{st st':St}(h:SS s s0 T b n es l k st)(he:∀j∈[0,1,5,28,29,30,1000000,1000001+b],st'.env j=st.env j)(hl:∀c,st.loc c≠none→st'.loc c=st.loc c):SS s s0 T b n es l k st':=by
 simp only[List.mem_cons,List.not_mem_nil,or_false,forall_eq_or_imp,forall_eq] at he
 obtain⟨a0,a1,a5,Vr,Vs,Vt,ag,am⟩:=he
 obtain⟨e0,e1,dg,dM,fN⟩:=h.e
 exact⟨⟨a0.trans e0,a1.trans e1,Vr.trans dg,Vs.trans dM,Vt.trans fN⟩,by rw[a5];exact h.acc.ext hl,h.old.ext ag hl,am.trans h.em⟩
theorem gR.nC{s0:St}{loc loc':Nat→Option (List AV)}{v:AV}{l:List (Int×Int)}(h:gR s0 loc v l)(hl:∀c cs,loc c=some cs→(∀r,cs.map (aG r)=cs)→loc' c=some cs):gR s0 loc' v l:=by
 rcases h with h|⟨b,cap,cs,h1,h2,h3,h4,h5⟩
 ·exact .inl h
 ·exact .inr ⟨b,cap,cs,h1,h2,hl b cs h3 fun r=>fW (ov h4.num) r,h4,h5⟩
theorem Cy{s0 s s':St}(h:Old s0 s)(hg:∀l es q,s.env 1000000=.ghost l es q→s'.env 1000000=.ghost l es q)(hl:∀c cs,s.loc c=some cs→(∀r,cs.map (aG r)=cs)→s'.loc c=some cs):Old s0 s':=⟨fun c cs h1 h2=>hl c cs (h.l c cs h1 h2) fun r=>fW h2 r,fun l es q h1=>hg l es q (h.g l es q h1)⟩
theorem wY{s0 s s':St}(h:Old s0 s){b:Nat}(hnb:fL s0 b)(hg:∀l es q,s.env 1000000=.ghost l es q→s'.env 1000000=.ghost l es q)(hl:∀c cs,c≠b→s.loc c=some cs→(∀r,cs.map (aG r)=cs)→s'.loc c=some cs):Old s0 s':=⟨fun c cs h1 h2=>hl c cs (by rintro rfl;exact hnb cs h1 h2) (h.l c cs h1 h2) fun r=>fW h2 r,fun l es q h1=>hg l es q (h.g l es q h1)⟩
theorem Vu(s:aB)(q:Nat→Bool)(k:Nat):Zl s q (k+1)=Zl s q k++[iI s q k]:=by simp[Zl,List.range_succ]
theorem rO(s:aB)(q:Nat→Bool)(k:Nat):(Zl s q k).length=k:=by simp[Zl]
theorem wZ{s:aB}(h:Valid s){s0:St}{b n:Nat}(hn:n<256){es:List (List AV)}(uk:s0.env (1000001+b)=aS es)(hM:gD s es){K:AV→St→Prop}(hK:∀s2 es',Old s0 s2→s2.env (1000001+b)=aS es'→gD s es'→K (YY s n) (back s0 s2)):YZ Tryz.prog 43 [cA s b,I n] s0 K:=by
 refine ic t43 (by simp) fun _=> ?_
 have Cz:=h.a_.1
 have um:=h.aH.1
 have Kt:=fun(ay:Nat) (hl:ay<6)=>J9 s b ay (-1) (fun _=>true) hl (by omega) Vd
 have Ku:=fun(ay:Nat) (hl:ay<6)=>J9 s b ay n (bE n) hl (by omega) (bits_nat hn)
 have Kv:=fun(p others most:Int) h1 h2 h3=>Vf h.Ki b (p:=p) (others:=others) (most:=most) h1 h2 h3
 obtain⟨T,hT,hA⟩:=wW s b
 rw[hA] at Kt Ku Kv⊢
 clear hA
 have qd:=hT.len
 have Kw:=hT.map
 simp -implicitDefEqProofs only[GM]
 refine au (fun st=>st.env 0=.ref (fh s T)∧st.env 1=I n∧Old s0 st∧st.env (1000001+b)=aS es) ?_ ?_
 ·intro k hk
  have hO:Old s0 s0:=⟨fun _ _ h _=>h,fun _ _ _ h=>h⟩
  simp -implicitDefEqProofs
  refine hk _ ⟨by simp,by simp,⟨fun c cs h1 h2=>by simp[h1,fW h2],fun l q r hg=>by simp[hg,ZP]⟩,?_⟩
  have:1000000≤1000001+b:=by omega
  simp[this,uk]
 rintro st ⟨e0,e1,hO,em⟩
 refine au (fun st=>st.env 0=.ref (fh s T)∧st.env 1=I n∧Old s0 st∧st.env (1000001+b)=aS es∧((st.env 5=.lit (.slice none 0 0)∧st.env 6=B false)∨(st.env 5=YY s n∧st.env 6=B true))) ?_ ?_
 ·intro k hk
  simp -implicitDefEqProofs [e0,e1,qd,Kw]
  refine⟨es,by rw[ZR];simp[em],trivial,?_⟩
  rcases Cx n es 0 hM with aX|⟨i,aX,hi,hge⟩
  ·rw[aX]
   simp -implicitDefEqProofs
   exact hk _ ⟨by simp[e0],by simp[e1],hO.ext (by simp) (by simp),by simp[em],.inl ⟨by simp,by simp⟩⟩
  ·rw[aX,Nat.zero_add]
   simp -implicitDefEqProofs only
   rw[hge]
   simp -implicitDefEqProofs
   exact hk _ ⟨by simp[e0],by simp[e1],hO.ext (by simp) (by simp),by simp[em],.inr ⟨by simp,by simp⟩⟩
 rintro st ⟨e0,e1,hO,em,Vv⟩
 rcases Vv with ⟨e5,e6⟩|⟨e5,e6⟩
 case inr=>
  simp -implicitDefEqProofs [e6,e5,dj,vS]
  exact hK _ es (hO.ext (by simp) (by simp)) (by simp[em]) hM
 refine au (fun st=>st.env 0=.ref (fh s T)∧st.env 1=I n∧Old s0 st∧st.env (1000001+b)=aS es∧st.env 5=.lit (.slice none 0 0)) ?_ ?_
 ·intro k hk
  simp -implicitDefEqProofs [e6]
  exact hk _ ⟨by simp[e0],by simp[e1],hO.ext (by simp) (by simp),by simp[em],by simp[e5]⟩
 rintro st ⟨e0,e1,hO,em,e5⟩
 refine au (fun st=>st.env 0=.ref (fh s T)∧st.env 1=I n∧Old s0 st∧st.env (1000001+b)=aS es∧gR s0 st.loc (st.env 5) (fA s (bE n))) ?_ ?_
 ·intro k0 aX
  simp -implicitDefEqProofs [e0]
  refine bw s.a_.length (fun k st=>SS s s0 T b n es (Zl s (bE n) k) k st) ?_ ?_
  ·exact⟨⟨by simp[e0],by simp[e1],by simp,by simp,by simp⟩,.inl ⟨rfl,by simp[e5]⟩,hO.ext (by simp) (by simp),by simp[em]⟩
  rintro k st hk hS
  obtain⟨e0,e1,dg,dM,fN⟩:=hS.e
  simp -implicitDefEqProofs [dM,fN]
  refine bu (fun hlt=> ?_) (fun hge=> ?_)
  case refine_2=>
   obtain rfl:k=s.a_.length:=by omega
   simp -implicitDefEqProofs
   exact aX _ ⟨by simp[e0],by simp[e1],hS.old.ext (by simp) (by simp),by simp[hS.em],(by simpa[fA] using hS.acc)⟩
  have hlt:k<s.a_.length:=by omega
  have uo:k<6:=by omega
  obtain⟨-,-,hres⟩:=h.J7 hlt
  have cm:=Vu s (bE n) k
  have hlen:=rO s (bE n) k
  have k9:jf s k (fun _=>true)=none→iI s (bE n) k=(-1,0):=fun e=>by unfold iI;rw[e]
  have jH:∀one,jf s k (fun _=>true)=some one→eI s k one<s.a_[k].reserve→iI s (bE n) k=(-1,0):=fun one e e2=>by unfold iI;rw[e,wT hlt];exact if_pos e2
  have Vw:∀one,jf s k (fun _=>true)=some one→¬eI s k one<s.a_[k].reserve→iI s (bE n) k=((one:Int),ud s s.a_[k].reserve (gQ s k one (bE n) (jf s k (bE n)) s.aH.length) (eI s k one)):=fun one e e2=>by unfold iI;rw[e,wT hlt];exact if_neg e2
  generalize hx:s.a_[k]=x at*
  refine kj ?_
  refine au (fun st=>SS s s0 T b n es (Zl s (bE n) k) k st∧st.env 7=I k∧st.env 8=.ref [S x.name,I x.ga,I x.reserve,B x.lf]) ?_ ?_
  ·intro k1 aF
   simp -implicitDefEqProofs [dg,fN,hlt,hx]
   intro b8 h8
   refine aF _ ⟨hS.ext (by simp) (fun c hc=> ?_),by simp,by simp⟩
   have:¬c=b8:=by rintro rfl;exact hc h8
   simp[this]
  rintro st ⟨hS,e7,e8⟩
  obtain⟨e0,e1,dg,dM,fN⟩:=hS.e
  refine au (fun st=>SS s s0 T b n es (Zl s (bE n) k) k st∧st.env 7=I k∧st.env 8=.ref [S x.name,I x.ga,I x.reserve,B x.lf]∧st.env 9=I (jP (jf s k fun _=>true))) ?_ ?_
  ·intro k1 aF
   simp -implicitDefEqProofs [e0,e7]
   refine aj (Kt k uo) ?_
   simp -implicitDefEqProofs
   exact aF _ ⟨hS.ext (by simp) (by simp),by simp[e7],by simp[e8],by simp⟩
  rintro st ⟨hS,e7,e8,e9⟩
  obtain⟨e0,e1,dg,dM,fN⟩:=hS.e
  have hone:∀one,jf s k (fun _=>true)=some one→one<6:=fun one e=>by have:=uj s k _ _ _ e;omega
  generalize jf s k (fun _=>true)=o1 at*
  have Ya:¬x.reserve<0:=by omega
  refine au (fun st=>∃one,o1=some one∧¬eI s k one<x.reserve∧SS s s0 T b n es (Zl s (bE n) k) k st∧st.env 7=I k∧st.env 8=.ref [S x.name,I x.ga,I x.reserve,B x.lf]∧st.env 9=I one) ?_ ?_
  ·intro k1 aF
   rcases Cq hone with ⟨rfl,ho⟩|⟨one,rfl,CA,ho⟩
   ·rw[ho] at e9
    simp -implicitDefEqProofs [-kf,-lY,hS.acc.aK,e9]
    refine Cw (p:=(-1,0)) (hS.acc.nC fun c cs h1 h2=>by simp[h1,h2]) (Cy hS.old (fun l es q hg=>by simp[hg,ZP]) fun c cs h1 h2=>by simp[h1,h2]) (by omega) fun b5 cs v' hnb hacc jw=> ?_
    have ha:=hacc.Yo
    simp -implicitDefEqProofs [ha,fN]
    refine⟨i64 (by omega) (by omega),aN hlt ⟨⟨by simp[e0],by simp[e1],by simp[dg],by simp[dM],by simp⟩,?_,?_,by simp[hS.em]⟩⟩
    ·rw[cm,k9 rfl]
     simpa using hacc
    ·exact wY hS.old hnb (fun l es q hg=>by simp[hg,ZP]) fun c cs hc h1 h2=>by simp[hc,h1,h2]
   ·rw[ho] at e9
    have hm:=hT.most k one uo CA
    have dQ:(k:Int)<6:=by omega
    have YL:(one:Int)<6:=by omega
    have kV:0<73 - (k*6+one):=by omega
    have pU:¬(one:Int)<0:=by omega
    by_cases jD:eI s k one<x.reserve
    ·simp -implicitDefEqProofs [-kf,-lY,hS.acc.aK,e0,e7,e8,e9,qd,hm,dQ,YL,kV,pU,jD]
     refine Cw (p:=(-1,0)) (hS.acc.nC fun c cs h1 h2=>by simp[h1,h2]) (Cy hS.old (fun l es q hg=>by simp[hg,ZP]) fun c cs h1 h2=>by simp[h1,h2]) (by omega) fun b5 cs v' hnb hacc jw=> ?_
     have ha:=hacc.Yo
     simp -implicitDefEqProofs [ha,fN]
     refine⟨i64 (by omega) (by omega),aN hlt ⟨⟨by simp[e0],by simp[e1],by simp[dg],by simp[dM],by simp⟩,?_,?_,by simp[hS.em]⟩⟩
     ·rw[cm,jH one rfl jD]
      simpa using hacc
     ·exact wY hS.old hnb (fun l es q hg=>by simp[hg,ZP]) fun c cs hc h1 h2=>by simp[hc,h1,h2]
    ·simp -implicitDefEqProofs [e0,e7,e8,e9,qd,hm,dQ,YL,kV,pU,jD]
     exact aF _ ⟨one,rfl,jD,hS.ext (by simp) (by simp),by simp[e7],by simp[e8],by simp[e9]⟩
  rintro st ⟨one,rfl,jD,hS,e7,e8,e9⟩
  have fo:=Vw one rfl jD
  have CA:=hone one rfl
  refine au (fun st=>SS s s0 T b n es (Zl s (bE n) k) k st∧st.env 7=I k∧st.env 8=.ref [S x.name,I x.ga,I x.reserve,B x.lf]∧st.env 9=I one∧st.env 10=I 0) ?_ ?_
  ·intro k1 aF
   simp -implicitDefEqProofs
   exact aF _ ⟨hS.ext (by simp) (by simp),by simp[e7],by simp[e8],by simp[e9],by simp⟩
  rintro st ⟨hS,e7,e8,e9,bF⟩
  obtain⟨e0,e1,dg,dM,fN⟩:=hS.e
  refine au (fun st=>SS s s0 T b n es (Zl s (bE n) k) k st∧st.env 7=I k∧st.env 8=.ref [S x.name,I x.ga,I x.reserve,B x.lf]∧st.env 9=I one∧st.env 10=I 0∧st.env 11=I (jP (jf s k (bE n)))) ?_ ?_
  ·intro k1 aF
   simp -implicitDefEqProofs [e0,e1,e7]
   refine aj (Ku k uo) ?_
   simp -implicitDefEqProofs
   exact aF _ ⟨hS.ext (by simp) (by simp),by simp[e7],by simp[e8],by simp[e9],by simp[bF],by simp⟩
  rintro st ⟨hS,e7,e8,e9,bF,aV⟩
  have hmem:∀m,jf s k (bE n)=some m→m<6:=fun m e=>by have:=uj s k _ _ _ e;omega
  generalize jf s k (bE n)=o2 at*
  refine au (fun st=>SS s s0 T b n es (Zl s (bE n) k) k st∧st.env 7=I k∧st.env 8=.ref [S x.name,I x.ga,I x.reserve,B x.lf]∧st.env 9=I one∧st.env 10=I (gQ s k one (bE n) o2 s.aH.length)) ?_ ?_
  ·intro k1 aF
   obtain⟨e0,e1,dg,dM,fN⟩:=hS.e
   simp -implicitDefEqProofs [e0]
   refine bw s.aH.length (fun j st=>SS s s0 T b n es (Zl s (bE n) k) k st∧st.env 7=I k∧st.env 8=.ref [S x.name,I x.ga,I x.reserve,B x.lf]∧st.env 9=I one∧st.env 10=I (gQ s k one (bE n) o2 j)∧st.env 11=I (jP o2)∧st.env 66=I s.aH.length∧st.env 67=I j) ?_ ?_
   ·exact⟨hS.ext (by simp) (by simp),by simp[e7],by simp[e8],by simp[e9],by simp[bF,gQ],by simp[aV],by simp,by simp⟩
   rintro j st hj ⟨hS,e7,e8,e9,bF,aV,uq,ur⟩
   obtain⟨e0,e1,dg,dM,fN⟩:=hS.e
   simp -implicitDefEqProofs [uq,ur]
   refine bu (fun hjl=> ?_) (fun hge=> ?_)
   case refine_2=>
    obtain rfl:j=s.aH.length:=by omega
    simp -implicitDefEqProofs
    exact aF _ ⟨hS.ext (by simp) (by simp),by simp[e7],by simp[e8],by simp[e9],by simp[bF]⟩
   have hjl:j<s.aH.length:=by omega
   have hb0:=Vq (i:=j) hn (by omega)
   have hU:gQ s k one (bE n) o2 (j+1)=if j≠one∧(n.testBit j=false∨o2=some j) then max (gQ s k one (bE n) o2 j) (eI s k j) else gQ s k one (bE n) o2 j:=rfl
   have hm:=hT.most k j uo (by omega)
   have dQ:(k:Int)<6:=by omega
   have YL:(j:Int)<6:=by omega
   have kV:0<73 - (k*6+j):=by omega
   generalize gQ s k one (bE n) o2 j=u at*
   generalize hq:n.testBit j=q at*
   by_cases h1:j=one
   ·rw[if_neg (fun h=>h.1 h1)] at hU
    have fT:((j:Int) != (one:Int))=false:=by simp[h1]
    simp -implicitDefEqProofs [ur,e9,fT]
    exact⟨i64 (by omega) (by omega),aN hjl ⟨hS.ext (by simp) (by simp),by simp[e7],by simp[e8],by simp[e9],by simp[bF,hU],by simp[aV],by simp[uq],by simp⟩⟩
   have fT:((j:Int) != (one:Int))=true:=by simp;omega
   by_cases h2:q=false
   ·subst h2
    rw[if_pos ⟨h1,.inl rfl⟩] at hU
    simp -implicitDefEqProofs [ur,e9,fT,e1,hb0,e0,e7,qd,hm,dQ,YL,kV,bF,Ct]
    exact⟨i64 (by omega) (by omega),aN hjl ⟨hS.ext (by simp) (by simp),by simp[e7],by simp[e8],by simp[e9],by simp[hU],by simp[aV],by simp[uq],by simp⟩⟩
   have h2:q=true:=by simpa using h2
   subst h2
   by_cases h3:o2=some j
   ·rw[if_pos ⟨h1,.inr h3⟩] at hU
    have h3':((j:Int)==jP o2)=true:=by rw[h3];simp[jP]
    simp -implicitDefEqProofs [ur,e9,fT,e1,hb0,e0,e7,aV,h3',qd,hm,dQ,YL,kV,bF,Ct]
    exact⟨i64 (by omega) (by omega),aN hjl ⟨hS.ext (by simp) (by simp),by simp[e7],by simp[e8],by simp[e9],by simp[hU],by simp[aV],by simp[uq],by simp⟩⟩
   ·rw[if_neg (fun h=>by rcases h.2 with h|h;exact(by cases h);exact h3 h)] at hU
    have h3':((j:Int)==jP o2)=false:=by
     rw[beq_eq_false_iff_ne]
     rcases Cq hmem with ⟨rfl,h4⟩|⟨m,rfl,_,h4⟩
     ·rw[h4];omega
     ·rw[h4];intro e;exact h3 (by congr 1;omega)
    simp -implicitDefEqProofs [ur,e9,fT,e1,hb0,aV,h3']
    exact⟨i64 (by omega) (by omega),aN hjl ⟨hS.ext (by simp) (by simp),by simp[e7],by simp[e8],by simp[e9],by simp[bF,hU],by simp[aV],by simp[uq],by simp⟩⟩
  rintro st ⟨hS,e7,e8,e9,bF⟩
  obtain⟨e0,e1,dg,dM,fN⟩:=hS.e
  have hm:=hT.most k one uo CA
  have dQ:(k:Int)<6:=by omega
  have YL:(one:Int)<6:=by omega
  have kV:0<73 - (k*6+one):=by omega
  have iF:=Kv x.reserve (gQ s k one (bE n) o2 s.aH.length) (eI s k one) hres (Ks h k one _ _ _) (Kr h k one)
  generalize gQ s k one (bE n) o2 s.aH.length=u at*
  simp -implicitDefEqProofs [e0,e7,e8,e9,bF,qd,hm,dQ,YL,kV]
  refine aj iF ?_
  generalize ud s x.reserve u (eI s k one)=pr at*
  simp -implicitDefEqProofs [-kf,-lY,hS.acc.aK]
  refine Cw (p:=((one:Int),pr)) (hS.acc.nC fun c cs h1 h2=>by simp[h1,h2]) (Cy hS.old (fun l es q hg=>by simp[hg,ZP]) fun c cs h1 h2=>by simp[h1,h2]) (by omega) fun b5 cs v' hnb hacc jw=> ?_
  have ha:=hacc.Yo
  simp -implicitDefEqProofs [ha,fN]
  refine⟨i64 (by omega) (by omega),aN hlt ⟨⟨by simp[e0],by simp[e1],by simp[dg],by simp[dM],by simp⟩,?_,?_,by simp[hS.em]⟩⟩
  ·rw[cm,fo]
   simpa using hacc
  ·exact wY hS.old hnb (fun l es q hg=>by simp[hg,ZP]) fun c cs hc h1 h2=>by simp[hc,h1,h2]
 rintro st ⟨e0,e1,hO,em,hacc⟩
 have hlen:(fA s (bE n)).length≤1000:=by
  have:=rO s (bE n) s.a_.length
  unfold fA;omega
 simp -implicitDefEqProofs only[zS,zR,Ac]
 refine Vp hacc hlen fun loc' jw=> ?_
 simp -implicitDefEqProofs [aq,e0,e1,qd,Kw]
 have BE:∀(s2:St),s2.loc=loc'→(∀l es q,st.env 1000000=.ghost l es q→s2.env 1000000=.ghost l es q)→Old s0 s2:=fun s2 h1 h2=>⟨fun c cs h3 h4=>by rw[h1,jw c cs h3 h4];exact hO.l c cs h3 h4,fun l es q hg=>h2 l es q (hO.g l es q hg)⟩
 refine⟨es,by rw[ZR];simp[aq,em],trivial,?_⟩
 rcases Cx n es 0 hM with aX|⟨i,aX,hi,hge⟩
 ·rw[aX]
  simp -implicitDefEqProofs [aq,dj,vS]
  exact hK _ _ (BE _ (by simp) (by simp[aq])) (by simp) (hM.add n)
 ·rw[aX,Nat.zero_add]
  simp -implicitDefEqProofs [aq,dj,vS]
  exact hK _ _ (BE _ (by simp) (by simp[aq])) (by simp) (hM.set i n)
end Go.Proofs.YtpeikknjbnnnnaaGreat.A
namespace Go.Proofs.YtpeikknjbnnnnaaGreat.A
open Go.az O
abbrev NL(l:List Nat):AV:=.slice 1 (l.map fun x:Nat=>I (x:Int)) 0
theorem w4(l:List Nat):IL (l.map fun x:Nat=>(x:Int))=NL l:=by unfold NL IL;rw[List.map_map];rfl
def gb(l:List Nat):Nat:=l.foldl (fun a b=>a ||| 2^b) 0
theorem Vx(l:List Nat)(x:Nat):gb (l++[x])=gb l ||| 2^x:=by simp[gb]
theorem Ky{l:List Nat}(h:∀x∈l,x<6):gb l<64:=by
 have key:∀(l:List Nat) (a:Nat),a<2^6→(∀x∈l,x<6)→l.foldl (fun a b=>a ||| 2^b) a<2^6:=by
  intro l
  induction l with
  |nil=>exact fun a h _=>h
  |cons x l ih=>exact fun a ha hl=>ih _ (Nat.or_lt_two_pow ha (Nat.pow_lt_pow_right (by omega) (hl x (by simp)))) fun y hy=>hl y (List.mem_cons_of_mem _ hy)
 exact key l 0 (by decide) h
theorem CB:∀k<6,∀a:Nat,a<64→d_ .or .i64 (a:Int) (IntKind.wrap .i64 (2^(min k (IntKind.bits .i64))))=((a ||| 2^k:Nat):Int):=by decide+kernel
structure rP (s:aB) (l:List Nat):Prop where
 lt:∀x∈l,x<s.aH.length
 CC:∀i (h:i<l.length),0<i→l[i - 1]<l[i]
 ne:l.length≠1
theorem aaT{s:aB}(h:Valid s){l:List Nat}(hr:rP s l)(hl:l.length≤6){s0:St}{K:AV→St→Prop}(hK:∀s2 b,Old s0 s2→s2.env (1000001+b)=aS []→K (.tuple [cA s b,I (gb l),I 0]) (back s0 s2)):YZ Tryz.prog 42 [bQ s,NL l] s0 K:=by
 refine ic t42 (by simp) fun _=> ?_
 have Z_:=h.aH.1
 have hout:aA Tryz.prog 63 [I 0,I ((s.aH.length:Int) - 1),NL l] (B false):=by
  have:=Zv 0 ((s.aH.length:Int) - 1) (l.map fun x:Nat=>(x:Int))
  rwa [show out 0 ((s.aH.length:Int) - 1) (l.map fun x:Nat=>(x:Int))=false from ?_,w4] at this
  unfold out
  rw[List.any_eq_false]
  intro x hx
  rw[List.mem_map] at hx
  obtain⟨y,hy,rfl⟩:=hx
  have:=hr.lt y hy
  simp;omega
 simp -implicitDefEqProofs only[GK]
 refine au (fun st=>st.env 1=NL l∧st.env 2=bG s∧st.env 5=I 0∧Old s0 st) ?_ ?_
 ·intro k hk
  have hO:Old s0 s0:=⟨fun _ _ h _=>h,fun _ _ _ h=>h⟩
  simp -implicitDefEqProofs
  exact hk _ ⟨by simp,by simp,by simp,hO.ext (by simp) (by simp)⟩
 rintro st ⟨e1,e2,e5,hO⟩
 refine au (fun st=>st.env 1=NL l∧st.env 2=bG s∧st.env 5=I 0∧Old s0 st∧∃b,st.env 4=cA s b∧st.env (1000001+b)=aS []) ?_ ?_
 ·intro k hk
  simp -implicitDefEqProofs [e2]
  refine Cu h fun s2 b h2 hm=> ?_
  simp -implicitDefEqProofs
  have hb:1000000≤1000001+b:=by omega
  refine hk _ ⟨by simp[e1],by simp[e2],by simp[e5],?_,b,by simp,by simp[hb,hm]⟩
  exact⟨fun c cs h3 h4=>by simp;exact h2.l c cs (by simpa using hO.l c cs h3 h4) h4,fun l es q hg=>by simp;exact h2.g l es q (by simpa using hO.g l es q hg)⟩
 rintro st ⟨e1,e2,e5,hO,b,e4,em⟩
 refine au (fun st=>st.env 1=NL l∧st.env 4=cA s b∧st.env 5=I 0∧Old s0 st∧st.env (1000001+b)=aS []) ?_ ?_
 ·intro k hk
  simp -implicitDefEqProofs [e1,e2]
  refine⟨i64 (by omega) (by omega),aj hout ?_⟩
  simp -implicitDefEqProofs
  exact hk _ ⟨by simp[e1],by simp[e4],by simp[e5],hO.ext (by simp) (by simp),by simp[em]⟩
 rintro st ⟨e1,e4,e5,hO,em⟩
 refine au (fun st=>st.env 1=NL l∧st.env 4=cA s b∧st.env 5=I (gb l)∧Old s0 st∧st.env (1000001+b)=aS []) ?_ ?_
 ·intro k0 aX
  simp -implicitDefEqProofs [e1]
  refine bw l.length (fun k st=>st.env 1=NL l∧st.env 4=cA s b∧st.env 5=I (gb (l.take k))∧Old s0 st∧st.env (1000001+b)=aS []∧st.env 23=NL l∧st.env 24=I l.length∧st.env 25=I k) ?_ ?_
  ·exact⟨by simp[e1],by simp[e4],by simp[e5,gb],hO.ext (by simp) (by simp),by simp[em],by simp,by simp,by simp⟩
  rintro k st hk ⟨e1,e4,e5,hO,em,cz,YK,gv⟩
  simp -implicitDefEqProofs [YK,gv]
  refine bu (fun hlt=> ?_) (fun hge=> ?_)
  ·have hlt:k<l.length:=by omega
   have hx:=hr.lt l[k] (List.getElem_mem hlt)
   have hS:=Ky (l:=l.take k) (fun x hx=>by have:=hr.lt x (List.mem_of_mem_take hx);omega)
   have cm:gb (l.take (k+1))=gb (l.take k) ||| 2^l[k]:=by rw[cV hlt,Vx]
   have fS:=CB l[k] (by omega) _ hS
   have CD:=hr.CC k hlt
   by_cases h0:k=0
   ·subst h0
    generalize gb (l.take 0)=u at*
    generalize hz:l[0]=z at*
    simp -implicitDefEqProofs [e5,cz,gv,hlt,hz,fS]
    refine⟨i64 (by omega) (by omega),aN hlt ⟨by simp[e1],by simp[e4],by simp[cm],hO.ext (by simp) (by simp),by simp[em],by simp[cz],by simp[YK],by simp⟩⟩
   ·have aX:0<k:=by omega
    have nA:k - 1<l.length:=by omega
    have iq:((k:Int) - 1).toNat=k - 1:=by omega
    have hle:¬((l[k]:Int)≤(l[k - 1]:Int)):=by have:=CD aX;omega
    generalize gb (l.take k)=u at*
    generalize hz:l[k]=z at*
    simp -implicitDefEqProofs [e1,e5,cz,gv,hlt,nA,iq,aX,hz,hle,fS]
    refine⟨i64 (by omega) (by omega),by omega,by omega,i64 (by omega) (by omega),aN hlt ⟨by simp[e1],by simp[e4],by simp[cm],hO.ext (by simp) (by simp),by simp[em],by simp[cz],by simp[YK],by simp⟩⟩
  ·obtain rfl:k=l.length:=by omega
   rw[List.take_length] at e5
   simp -implicitDefEqProofs
   exact aX _ ⟨by simp[e1],by simp[e4],by simp[e5],hO.ext (by simp) (by simp),by simp[em]⟩
 rintro st ⟨e1,e4,e5,hO,em⟩
 have hne:((l.length:Int)==1)=false:=by rw[beq_eq_false_iff_ne];have:=hr.ne;omega
 simp -implicitDefEqProofs [e1,e4,e5,hne,dj,GL]
 exact hK _ b (hO.ext (by simp) (by simp)) (by simp[em])
end Go.Proofs.YtpeikknjbnnnnaaGreat.A
namespace Go.Proofs.YtpeikknjbnnnnaaGreat.A
open Go.az O
theorem rQ(s:aB):gD s []:=fun e he=>by cases he
theorem w6{s:aB}(h:Valid s){l:List Nat}(hr:rP s l)(hl:l.length≤6):aA Tryz.prog 8 [bQ s,NL l] (.tuple [YY s (gb l),I 0]):=by
 refine pc t8 (by simp) fun _=> ?_
 have hn:gb l<256:=by
  have:=Ky (l:=l) (fun x hx=>by have:=hr.lt x hx;have:=h.aH.1;omega)
  omega
 simp -implicitDefEqProofs [m8]
 refine aaT h hr hl fun s2 b h2 hm=> ?_
 have hb:1000000≤1000001+b:=by omega
 simp -implicitDefEqProofs
 refine wZ h hn (es:=[]) (by simp[hb,hm]) (rQ s) fun s3 es' h3 w7 w8=> ?_
 simp -implicitDefEqProofs [r8]
def fB(q:Nat→Bool)(k:Nat):List Nat:=(List.range k).filter q
theorem Kz(q:Nat→Bool)(k:Nat):fB q (k+1)=if q k then fB q k++[k] else fB q k:=by
 unfold fB
 rw[List.range_succ,List.filter_append]
 cases h:q k<;>simp[h]
theorem w9(q:Nat→Bool)(k:Nat):(fB q k).length≤k:=by unfold fB;exact Nat.le_trans (List.length_filter_le _ _) (by simp)
def lA(s:aB)(n:Nat):List Nat:=if (fB (bE n) s.aH.length).length=1 then [] else fB (bE n) s.aH.length
theorem Vy(s:aB)(n:Nat):rP s (lA s n):=by
 by_cases hn:(fB (bE n) s.aH.length).length=1
 ·rw[show lA s n=[] from if_pos hn]
  exact⟨fun x hx=>absurd hx (by simp),fun i h=>absurd h (by simp),by simp⟩
 ·rw[show lA s n=fB (bE n) s.aH.length from if_neg hn]
  refine⟨fun x hx=> ?_,fun i h h0=> ?_,hn⟩
  ·unfold fB at hx
   have:=(List.mem_filter.1 hx).1
   simpa using this
  ·have hs:(fB (bE n) s.aH.length).Pairwise (· < ·):=List.Pairwise.filter _ List.pairwise_lt_range
   exact(List.pairwise_iff_getElem.1 hs) (i - 1) i (by omega) h (by omega)
set_option maxRecDepth 10000 in
theorem Vz:∀k<6,∀n:Nat,n<256→((Int.fdiv (n:Int) (2^(min k (IntKind.bits .u8)))).tmod 2==1)=n.testBit k:=by decide+kernel
theorem VA{s:aB}(hb:s.aH.length≤6){n:Nat}(hn:n<256):aA Tryz.prog 9 [bQ s,.lit (.int .u8 n)] (NL (lA s n)):=by
 refine pc t9 (by simp) fun _=> ?_
 simp -implicitDefEqProofs only[m9]
 refine au (fun st=>st.env 1=.lit (.int .u8 n)∧st.env 2=bG s) ?_ ?_
 ·intro k hk
  simp -implicitDefEqProofs
  exact hk _ ⟨by simp,by simp⟩
 rintro st ⟨e1,e2⟩
 refine au (fun st=>st.env 1=.lit (.int .u8 n)∧st.env 2=bG s∧st.env 5=.slice 1 [] 6) ?_ ?_
 ·intro k hk
  simp -implicitDefEqProofs
  exact hk _ ⟨by simp[e1],by simp[e2],by simp⟩
 rintro st ⟨e1,e2,e5⟩
 refine au (fun st=>st.env 5=.slice 1 ((fB (bE n) s.aH.length).map fun x:Nat=>I (x:Int)) 6) ?_ ?_
 ·intro k0 aX
  simp -implicitDefEqProofs
  refine bw s.aH.length (fun k st=>st.env 1=.lit (.int .u8 n)∧st.env 2=bG s∧st.env 5=.slice 1 ((fB (bE n) k).map fun x:Nat=>I (x:Int)) 6∧st.env 6=I k) ?_ ?_
  ·exact⟨by simp[e1],by simp[e2],by simp[e5,fB],by simp⟩
  rintro k st hk ⟨e1,e2,e5,e6⟩
  simp -implicitDefEqProofs [e2,e6]
  refine bu (fun hlt=> ?_) (fun hge=> ?_)
  ·have hlt:k<s.aH.length:=by omega
   have VB:=Vz k (by omega) n hn
   have hU:=Kz (bE n) k
   have hlen:=w9 (bE n) k
   generalize fB (bE n) k=u at*
   generalize hq:n.testBit k=q at*
   simp -implicitDefEqProofs [e1,e6,VB]
   cases q with
   |false=>
    rw[if_neg (by simp[hq])] at hU
    simp -implicitDefEqProofs [e6]
    exact⟨i64 (by omega) (by omega),aN hlt ⟨by simp[e1],by simp[e2],by simp[e5,hU],by simp⟩⟩
   |true=>
    rw[if_pos (by simp[hq])] at hU
    simp -implicitDefEqProofs [e5,e6]
    exact⟨by omega,by omega,i64 (by omega) (by omega),aN hlt ⟨by simp[e1],by simp[e2],by simp[hU],by simp⟩⟩
  ·obtain rfl:k=s.aH.length:=by omega
   simp -implicitDefEqProofs
   exact aX _ (by simp[e5])
 rintro st e5
 by_cases h1:(fB (bE n) s.aH.length).length=1
 ·have fT:(((fB (bE n) s.aH.length).length:Int)==1)=true:=by rw[beq_iff_eq];omega
  have hR:lA s n=[]:=if_pos h1
  simp -implicitDefEqProofs [e5,fT,hR,r9]
 ·have fT:(((fB (bE n) s.aH.length).length:Int)==1)=false:=by rw[beq_eq_false_iff_ne];omega
  have hR:lA s n=fB (bE n) s.aH.length:=if_neg h1
  simp -implicitDefEqProofs [e5,fT,hR,r9]
end Go.Proofs.YtpeikknjbnnnnaaGreat.A
namespace Go.Proofs.YtpeikknjbnnnnaaGreat.A
open Go.az O
def jQ(n:Nat):Nat→List Nat→Nat→Nat→List (List Nat×Nat)
 |0,o,u,_=>[(o,u)]
 |k+1,o,u,f=>((List.range n).drop f).flatMap fun b=>jQ n k (o++[b]) (u ||| 2^b) (b+1)
theorem VC{n k:Nat}{o:List Nat}{u f:Nat}(hf:f<n):jQ n (k+1) o u f=jQ n k (o++[f]) (u ||| 2^f) (f+1)++jQ n (k+1) o u (f+1):=by
 show((List.range n).drop f).flatMap _=_
 rw[drop_cons (l:=List.range n) (k:=f) (by simpa using hf),List.flatMap_cons]
 simp only[List.getElem_range]
 rfl
theorem VD{n k:Nat}{o:List Nat}{u f:Nat}(hf:n≤f):jQ n (k+1) o u f=[]:=by
 show((List.range n).drop f).flatMap _=_
 rw[List.drop_of_length_le (by simpa using hf)];rfl
abbrev mA(p:List Nat×Nat):List AV:=[NL p.1,I p.2]
abbrev CE(l:Nat)(s:aB)(b many B:Nat):AV:=.func (.func 95) [] [.ref [I many],.ref [.func (.yield l) [] []],.ref [cA s b],.Yq B 0]
theorem KA{s:aB}{b n many l B:Nat}(hn:s.aH.length=n)(ZU:n≤6)(hm:many≤6):
  ∀(k:Nat) (o:List Nat) (u f:Nat) (rest:List (List Nat×Nat)) (st:St) (K:AV→St→Prop),o.length+k=many→u<64→f≤n→
   st.loc B=some [CE l s b many B]→st.env 1000000=.ghost l ((jQ n k o u f++rest).map mA) false→
   (∀s2,s2.loc B=some [CE l s b many B]→s2.env 1000000=.ghost l (rest.map mA) false→K (O.B true) (back st s2))→
   (∀s2 r,s2.env 1000000=.ghost l r true→K (O.B false) (back st s2))→
   YZ Tryz.prog 95 [NL o,I u,I f,.ref [I many],.ref [.func (.yield l) [] []],.ref [cA s b],.Yq B 0] st K
 |0=>by
  intro o u f rest st K hlen hu hf lB eg pY pZ
  refine ic t95 (by simp) fun _=> ?_
  have eC:((o.length:Int)==(many:Int))=true:=by rw[beq_iff_eq];omega
  simp only[jQ,List.singleton_append,List.map_cons] at eg
  simp -implicitDefEqProofs [AP,eC,eg]
  refine⟨?_,?_⟩
  ·simp -implicitDefEqProofs [dj,tu]
   exact pY _ (by simp[lB]) (by simp)
  ·simp -implicitDefEqProofs [dj,tu]
   exact pZ _ (rest.map mA) (by simp)
 |k+1=>by
  intro o u f rest st K hlen hu hf lB eg pY pZ
  refine ic t95 (by simp) fun _=> ?_
  have eC:((o.length:Int)==(many:Int))=false:=by rw[beq_eq_false_iff_ne];omega
  simp -implicitDefEqProofs [AP,eC]
  refine bw (n - f) (fun i st=>st.env 0=NL o∧st.env 1=I u∧st.env 3=.ref [I many]∧st.env 4=.ref [.func (.yield l) [] []]∧st.env 5=.ref [cA s b]∧st.env 6=.Yq B 0∧st.env 11=I ((f+i:Nat):Int)∧st.loc B=some [CE l s b many B]∧st.env 1000000=.ghost l ((jQ n (k+1) o u (f+i)++rest).map mA) false) ?_ ?_
  ·simp[lB,eg]
  rintro i st hi ⟨e0,e1,e3,e4,e5,e6,aV,lB,eg⟩
  obtain⟨j,hj⟩:∃j,j=f+i:=⟨_,rfl⟩
  rw[←hj] at aV eg
  simp -implicitDefEqProofs [e5,aV,hn]
  refine bu (fun hlt=> ?_) (fun hge=> ?_)
  ·have hlt:j<n:=by omega
   rw[VC hlt] at eg
   have fS:=CB j (by omega) u hu
   have VE:u ||| 2^j<64:=Nat.or_lt_two_pow (n:=6) hu (Nat.pow_lt_pow_right (by omega) (by omega))
   have dG:(o.map fun x:Nat=>I (x:Int)).take o.length=o.map fun x:Nat=>I (x:Int):=List.take_of_length_le (by simp)
   have VF:(o.map fun x:Nat=>I (x:Int))++[I (j:Int)]=(o++[j]).map fun x:Nat=>I (x:Int):=by simp
   have yP:(j:Int)+1=((j+1:Nat):Int):=by omega
   simp -implicitDefEqProofs [e0,e1,e6,aV,lB,fS,dG]
   refine⟨i64 (by omega) (by omega),by omega,by omega,?_⟩
   rw[VF,yP]
   rw[List.append_assoc] at eg
   refine KA hn ZU hm k (o++[j]) (u ||| 2^j) (j+1) (jQ n (k+1) o u (j+1)++rest) _ _ (by simp;omega) VE (by omega) (by simp[lB]) (by simp[eg]) (fun s2 l2 g2=> ?_) (fun s2 r g2=> ?_)
   ·simp -implicitDefEqProofs [aV]
    refine⟨i64 (by omega) (by omega),aN (by omega) ⟨by simp[e0],by simp[e1],by simp[e3],by simp[e4],by simp[e5],by simp[e6],by simp;omega,by simp[l2],?_⟩⟩
    rw[show f+(i+1)=j+1 by omega]
    simpa using g2
   ·simp -implicitDefEqProofs [dj,tu]
    exact pZ _ r (by simp[g2])
  ·have hge:n≤j:=by omega
   rw[VD hge,List.nil_append] at eg
   simp -implicitDefEqProofs [dj,tu]
   exact pY _ (by simp[lB]) (by simp[eg])
end Go.Proofs.YtpeikknjbnnnnaaGreat.A
