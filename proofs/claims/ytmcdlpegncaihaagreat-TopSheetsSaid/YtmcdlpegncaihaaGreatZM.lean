/- Runs that are appended, one by one. Contracts of layer 4 (copy): faults, first part: what is lost. Contracts of layer 4 (copy): faults, second part: strange ones, those there twice, runs. Contracts of layer 4 (copy): faults. Contracts of layer 4 (copy): Faults. Two slices that are appended to in turn. Contracts of layer 4 (copy): told, each, Lost, Loose. Contracts of layer 4 (copy): each, Lost, Loose. -/
import Derived.Test.YtmcdlpegncaihaaGreatZL
namespace Go.Proofs.YtmcdlpegncaihaaGreat.C
open Go.Z4
def gC(l:List ck):List AV:=l.flatMap fun h=>[I h.item,I h.fst,I h.dY]
theorem kV(l:List ck):(gC l).length=3*l.length:=by
 induction l with
 |nil=>rfl
 |cons a l ih=>simp only[gC,List.flatMap_cons,List.length_append,List.length_cons,List.length_nil] at ih⊢;omega
theorem tT(l m:List ck):gC (l++m)=gC l++gC m:=by simp[gC]
structure abG (cs:List AV) (l:List ck) (cap:Nat):Prop where
 le:l.length≤cap
 len:cs.length=3*cap
 cells:cs.take (3*l.length)=gC l
 num:∀x∈cs,∃m,x=I m
theorem BZ(l:List ck):∀x∈gC l,∃m,x=I m:=by
 intro x hx
 simp only[gC,List.mem_flatMap] at hx
 obtain⟨h,_,hx⟩:=hx
 simp at hx
 rcases hx with rfl|rfl|rfl<;>exact⟨_,rfl⟩
theorem KD:∀(l:List ck) (cs:List AV),cs.take (3*l.length)=gC l→chunk 3 cs l.length=l.map jB
 |[],_,_=>rfl
 |a::l,cs,h=>by
  have hl:(gC (a::l)).length=3*l.length+3:=by rw[kV];simp;omega
  have e:cs.take 3=[I a.item,I a.fst,I a.dY]:=by
   have:=congrArg (List.take 3) h
   rw[List.take_take,Nat.min_eq_left (by simp;omega)] at this
   rw[this];rfl
  have e2:(cs.drop 3).take (3*l.length)=gC l:=by
   have:=congrArg (List.drop 3) h
   rw[List.drop_take] at this
   rw[show 3*(a::l).length - 3=3*l.length by simp;omega] at this
   rw[this];rfl
  have ih:=KD l (cs.drop 3) e2
  simp only[List.length_cons,chunk,e,ih,List.map_cons]
  rfl
theorem KE(h:ck)(r:Nat):abG ([I h.item,I h.fst,I h.dY]++(List.replicate r [I 0,I 0,I 0]).flatten) [h] (1+r):=by
 refine⟨by simp,by simp;omega,by simp[gC],fun x hx=> ?_⟩
 simp only[List.mem_append,List.mem_flatten,List.mem_replicate] at hx
 rcases hx with hx|⟨l,⟨_,rfl⟩,hx⟩
 ·simp at hx
  rcases hx with rfl|rfl|rfl<;>exact⟨_,rfl⟩
 ·simp at hx
  subst hx
  exact⟨_,rfl⟩
theorem W3{cs:List AV}{l:List ck}{cap:Nat}(hb:abG cs l cap)(h:ck)(r:Nat):abG ((cs.take (l.length*3)).map AV.erase0++([I h.item,I h.fst,I h.dY]++(List.replicate r [I 0,I 0,I 0]).flatten)) (l++[h]) (l.length+1+r):=by
 have hn:=KE h r
 have e:cs.take (l.length*3)=gC l:=by rw[Nat.mul_comm];exact hb.cells
 rw[e,Kf (BZ l)]
 refine⟨by simp,?_,?_,fun x hx=> ?_⟩
 ·rw[List.length_append,hn.len,kV];omega
 ·have e3:3*(l++[h]).length=3*l.length+3:=by simp;omega
  rw[e3,tT,List.take_append,kV,List.take_of_length_le (by rw[kV];omega)]
  rw[show 3*l.length+3 - 3*l.length=3 by omega]
  rfl
 ·rcases List.mem_append.1 hx with hx|hx
  ·exact BZ l x hx
  ·exact hn.num x hx
theorem W4{cs:List AV}{l:List ck}{cap:Nat}(hb:abG cs l cap)(h:ck)(hr:l.length+1≤cap):abG (splice cs (l.length*3) [I h.item,I h.fst,I h.dY]) (l++[h]) cap:=by
 have hlen:=hb.len
 have e:cs.take (l.length*3)=gC l:=by rw[Nat.mul_comm];exact hb.cells
 rw[Kg _ _ _ (by simp;omega),e]
 refine⟨by simp;omega,?_,?_,fun x hx=> ?_⟩
 ·simp only[List.length_append,kV,List.length_drop,List.length_cons,List.length_nil];omega
 ·have e3:3*(l++[h]).length=3*l.length+3:=by simp;omega
  rw[e3,tT,List.take_append,kV,List.take_of_length_le (by rw[kV];omega)]
  rw[show 3*l.length+3 - 3*l.length=3 by omega]
  rfl
 ·rcases List.mem_append.1 hx with hx|hx
  ·exact BZ l x hx
  rcases List.mem_append.1 hx with hx|hx
  ·simp at hx
   rcases hx with rfl|rfl|rfl<;>exact⟨_,rfl⟩
  ·exact hb.num x (List.mem_of_mem_drop hx)
theorem W5{cs:List AV}{l:List ck}{a:ck}{cap:Nat}(hb:abG cs (l++[a]) cap)(v:Int):abG (cs.set (l.length*3+2) (I v)) (l++[⟨a.item,a.fst,v⟩]) cap:=by
 have hle:=hb.le
 refine⟨by simpa using hle,by rw[List.length_set];exact hb.len,?_,fun x hx=> ?_⟩
 ·have e3:3*(l++[(⟨a.item,a.fst,v⟩:ck)]).length=3*(l++[a]).length:=by simp
  rw[e3,List.take_set,hb.cells,tT,tT,List.set_append_right _ _ (by rw[kV];omega),kV]
  rw[show l.length*3+2 - 3*l.length=2 by omega]
  rfl
 ·rcases List.mem_or_eq_of_mem_set hx with hx|rfl
  ·exact hb.num x hx
  ·exact⟨_,rfl⟩
theorem W6{cs:List AV}{l:List ck}{a:ck}{cap:Nat}(hb:abG cs (l++[a]) cap):l.length*3+2<cs.length∧cs[l.length*3+2]? =some (I a.dY):=by
 have hle:=hb.le
 have hlen:=hb.len
 simp only[List.length_append,List.length_cons,List.length_nil] at hle
 refine⟨by omega,?_⟩
 have:=congrArg (fun x=>x[l.length*3+2]?) hb.cells
 simp only[List.length_append,List.length_cons,List.length_nil] at this
 rw[List.getElem?_take_of_lt (by omega),tT,List.getElem?_append_right (by rw[kV];omega),kV,show l.length*3+2 - 3*l.length=2 by omega] at this
 exact this
def aao(s0:St)(loc:Nat→Option (List AV))(v:AV)(l:List ck):Prop:=(l=[]∧v=.lit (.slice none 0 0))∨∃b cap cs,l≠[]∧v=.aq b 0 l.length cap 3∧loc b=some cs∧abG cs l cap∧eZ s0 b
theorem aao.ext{s0:St}{loc loc':Nat→Option (List AV)}{v:AV}{l:List ck}(h:aao s0 loc v l)(hl:∀c,loc c≠none→loc' c=loc c):aao s0 loc' v l:=by
 rcases h with h|⟨b,cap,cs,h1,h2,h3,h4,h5⟩
 ·exact .inl h
 ·exact .inr ⟨b,cap,cs,h1,h2,by rw[hl b (by rw[h3];simp)];exact h3,h4,h5⟩
theorem aao.aB{s0:St}{loc:Nat→Option (List AV)}{v:AV}{l:List ck}(h:aao s0 loc v l)(r:Nat):az r v=v:=by rcases h with ⟨_,rfl⟩|⟨b,cap,cs,h1,rfl,_⟩<;>rfl
theorem aao.erase{s0:St}{loc:Nat→Option (List AV)}{v:AV}{l:List ck}(h:aao s0 loc v l):v.erase=v:=by rcases h with ⟨_,rfl⟩|⟨b,cap,cs,h1,rfl,_⟩<;>rfl
theorem aao.ag{s0:St}{loc:Nat→Option (List AV)}{v:AV}{l:List ck}(h:aao s0 loc v l)(s:St)(d:Nat):aap s d v=s.set d v:=by rcases h with ⟨_,rfl⟩|⟨b,cap,cs,h1,rfl,_⟩<;>rfl
theorem W7{P:Program}{ms:List au}{K:St→Prop}{s0 s:St}{d:Nat}{v:AV}{l:List ck}{p:ck}{q:Nat}(h:aao s0 s.loc v l)(hnew:∀b,s.loc b=none→eZ s0 b)(hl:l.length≤1000)
  (hK:∀b cs v',eZ s0 b→aao s0 (s.new b cs).loc v' (l++[p])→(∀c,c≠b→(s.new b cs).loc c=s.loc c)→vcs P ms K ((s.new b cs).set d v')):
  iJ P ms K s d 3 24 [.lit (.int .i64 0),.lit (.int .i64 0),.lit (.int .i64 0)] v (.slice 3 [jB p] q):=by
 have other:∀(b:Nat) (cs:List AV) c,c≠b→(s.new b cs).loc c=s.loc c:=fun b cs c hc=>by rw[jm,if_neg hc]
 rcases h with ⟨rfl,rfl⟩|⟨b,cap,cs,h1,rfl,h3,h4,h5⟩
 ·refine⟨rfl,by simp,by simp,by simp,fun b r hb=> ?_⟩
  have hn:=KE p r
  exact hK b _ _ (hnew _ hb) (.inr ⟨b,1+r,_,by simp,by simp,by rw[jm,if_pos rfl];rfl,hn,hnew _ hb⟩) (other b _)
 ·have hle:=h4.le
  have hlen:=h4.len
  have h0:¬cap=0:=by rintro rfl;have:=List.length_pos_iff.2 h1;omega
  refine⟨rfl,rfl,by simp,by simp;omega,by simp;omega,?_⟩
  rw[if_neg h0,h3]
  refine⟨by omega,fun hr=> ?_,fun hr b' r hb=> ?_⟩
  ·simp only[List.length_cons,List.length_nil] at hr
   have hn:=W4 h4 p hr
   rw[Nat.zero_add]
   exact hK b _ _ h5 (.inr ⟨b,cap,_,by simp,by simp,by rw[jm,if_pos rfl];rfl,hn,h5⟩) (other b _)
  ·have hn:=W3 h4 p r
   exact hK b' _ _ (hnew _ hb) (.inr ⟨b',l.length+1+r,_,by simp,by simp,by rw[jm,if_pos rfl];rfl,hn,hnew _ hb⟩) (other b' _)
theorem W8{P:Program}{ms:List au}{K:St→Prop}{s0 s:St}{k:Nat}{l:List ck}(h:aao s0 s.loc (s.env k) l)(hl:l.length≤1000)(hK:∀loc',(∀c cs,s0.loc c=some cs→cs.map AV.erase0=cs→loc' c=s.loc c)→vcs P ms K ⟨ak s.env k (.slice 3 (l.map jB) 0),loc'⟩):mI P ms K s k (s.env k):=by
 rcases h with ⟨rfl,hv⟩|⟨b,cap,cs,h1,hv,h3,h4,h5⟩
 ·rw[hv]
  exact⟨3,hK _ fun _ _ _ _=>rfl⟩
 ·rw[hv]
  have hle:=h4.le
  have hlen:=h4.len
  show nS P ms K s k b l.length 3 (s.loc b)
  rw[h3]
  refine⟨by omega,Wb h4.num,by omega,?_⟩
  rw[KD l cs h4.cells]
  exact hK _ fun c cs' h6 h7=>Z5 _ _ (by rintro rfl;exact h5 cs' h6 h7)
theorem aao.kS{s0:St}{loc loc':Nat→Option (List AV)}{v:AV}{l:List ck}(h:aao s0 loc v l)(hl:∀c cs,eZ s0 c→loc c=some cs→cs.map AV.erase0=cs→loc' c=some cs):aao s0 loc' v l:=by
 rcases h with h|⟨b,cap,cs,h1,h2,h3,h4,h5⟩
 ·exact .inl h
 ·exact .inr ⟨b,cap,cs,h1,h2,hl b cs h5 h3 (Kf h4.num),h4,h5⟩
end Go.Proofs.YtmcdlpegncaihaaGreat.C
namespace Go.Proofs.YtmcdlpegncaihaaGreat.C
open Go.Z4
def aaC(ms lost:List Int):Nat→Int
 |0=>0
 |j+1=>if ms.getD (lost.getD j 0).toNat (-1)<0∨(lost.take (j+1)).count (ms.getD (lost.getD j 0).toNat (-1))=0 then aaC ms lost j+1 else aaC ms lost j
theorem B0(ms lost:List Int):∀j,0≤aaC ms lost j∧aaC ms lost j≤j
 |0=>by simp[aaC]
 |j+1=>by
  have:=B0 ms lost j
  unfold aaC
  split<;>omega
structure tU where
 eI:List Int
 dZ:List Int
 runs:List ck
def abQ(lv:List (Nat×Nat))(n:Int):Nat:=(lv.getD n.toNat (0,0)).1
def oh(lv:List (Nat×Nat))(t:List Int)(s:tU)(i:Nat)(n:Int):tU:=
 if n<0 then ⟨s.eI++[(i:Int)],s.dZ,s.runs⟩
 else if 1<(t.take (i+1)).count n then ⟨s.eI,s.dZ++[(i:Int)],s.runs⟩
 else match s.runs.getLast? with
  |some r=>if r.dY<n∧abQ lv r.dY=abQ lv n then ⟨s.eI,s.dZ,s.runs.dropLast++[⟨r.item,r.fst,n⟩]⟩ else ⟨s.eI,s.dZ,s.runs++[⟨i,n,n⟩]⟩
  |none=>⟨s.eI,s.dZ,s.runs++[⟨i,n,n⟩]⟩
def dx(lv:List (Nat×Nat))(t:List Int):Nat→tU
 |0=>⟨[],[],[]⟩
 |i+1=>oh lv t (dx lv t i) i (t.getD i 0)
structure Flt where
 leaves:List Int
 lost:List Int
 pieces:Int
 eI:List Int
 dZ:List Int
 W9:List Int
 all:Int
abbrev fC(f:Flt):List AV:=[IL f.leaves,IL f.lost,I f.pieces,IL f.eI,IL f.dZ,IL f.W9,I f.all]
def jC(ms:List Int)(lv:List (Nat×Nat))(t:List Int):Flt:=
 let l:=dX lv.length t
 let r:=dx lv t t.length
 let mv:=abF r.runs
 ⟨[],l,aaC ms l l.length,r.eI,r.dZ,mv,aaC ms l l.length+r.eI.length+r.dZ.length+mv.length⟩
abbrev R2(r:Nat):Prop:=r<1000∨(5000≤r∧r<6000)
abbrev fW(lost:List Int)(p:Int)(st tw:List Int):List AV:=[.slice 1 [] 5000,.slice 1 (lost.map I) 5001,I p,.slice 1 (st.map I) 5003,.slice 1 (tw.map I) 5004,.slice 1 [] 5005,I 0]
theorem W_{L:Nat}{t:List Int}{x:Int}(h:x∈dX L t):0≤x∧x<L:=by
 obtain⟨j,rfl,hj,_⟩:=wM h
 omega
theorem Xa{ns:List Nat}{cs:List (List Int)}(hL:(aT ns).length≤120){s:St}{v:AV}{t:List Int}(hv:dA s v t)(ht:t.length≤120)
  {kn:St→Prop}{ke:Nat→St→Prop}{kr:St→Prop}{rest:aA}{st:St}(e0:st.env 0=aN ns cs)(e1:st.env 1=v)(ho:Z3 R2 s st){B:Nat}(hB:s.loc B=none)(e4:st.env 4=.aj B 0)(lB:st.loc B=some (fW [] 0 [] []))(_:True)
  (hk:∀st',st'.env 0=aN ns cs∧st'.env 1=v∧st'.env 4=.aj B 0∧st'.loc B=some (fW (dX (aT ns).length t) (aaC (bw ns) (dX (aT ns).length t) (dX (aT ns).length t).length) [] [])∧Z3 R2 s st'→br Tryz.prog rest kn ke kr st'):
  br Tryz.prog (.seq (.af [.aa 14 (.t 0),.aa 15 (.t 1),.fy 16 50 [(.t 14),(.t 15)],.addr 17 (.t 4) 1,.store (.t 17) (.t 16) 1 5001])
   (.seq (.af [.mkMap 18,.ag 5 (.t 18)])
   (.seq (.seq (.af [.addr 19 (.t 4) 1,.load 20 (.t 19) none,.len 21 (.t 20),.aa 22 (ci 0)])
   (.block 0 (.loop (.seq (.af [.bin 23 .lss (.t 22) (.t 21)])
   (.seq (.cond (.t 23) .skip (.exit 0))
   (.seq (.block 1 (.seq (.af [.aO 24 (.t 20) (.t 22) 1,.load 25 (.t 24) none,.ag 7 (.t 25)])
   (.seq (.af [.aa 26 (.t 0),.dJ 27 (.t 26),.addr 28 (.t 27) 4,.load 29 (.t 28) none,.aa 30 (.t 7),.aO 31 (.t 29) (.t 30) 1,.load 32 (.t 31) none,.ag 8 (.t 32)])
   (.seq (.af [.aa 33 (.t 5),.aa 34 (.t 7),.lookup 35 (.t 33) (.t 34) none false (.lit (.int .i64 0)),.bin 36 .add (.t 35) (ci 1),.gG (.t 33) (.t 34) (.t 36) none])
   (.seq (.af [.aa 37 (.t 8),.bin 38 .lss (.t 37) (ci 0),.aa 39 (.t 38),.guard 39 false (some 40) (.aa 40 (.t 5)),.guard 39 false (some 41) (.aa 41 (.t 8)),.guard 39 false (some 42) (.lookup 42 (.t 40) (.t 41) none false (.lit (.int .i64 0))),.guard 39 false (some 43) (.bin 43 .eql (.t 42) (ci 0)),.pick 44 (.t 39) (cb true) (.t 43)])
   (.cond (.t 44) (.af [.addr 45 (.t 4) 2,.load 46 (.t 45) none,.bin 47 .add (.t 46) (ci 1),.addr 48 (.t 4) 2,.store (.t 48) (.t 47) 1 0]) .skip))))))
   (.af [.bin 49 .add (.t 22) (ci 1),.aa 22 (.t 49)])))))))
   rest))) kn ke kr st:=by
 have wU:oS=1000001:=by simp[oS]
 obtain⟨ls,hls⟩:∃ls,ls=dX (aT ns).length t:=⟨_,rfl⟩
 have hlm:∀x∈ls,0≤x∧x<(aT ns).length:=fun x hx=>W_ (by rw[←hls];exact hx)
 have qL:ls.length≤120:=by rw[hls];exact Nat.le_trans (aaB _ _) hL
 have hML:(bw ns).length=(aT ns).length:=by simp[bw]
 obtain⟨ms,Z9⟩:∃ms,ms=bw ns:=⟨_,rfl⟩
 rw[←hls,←Z9] at hk
 rw[←Z9] at hML
 refine ay (fun st=>st.env 0=aN ns cs∧st.env 1=v∧st.env 4=.aj B 0∧st.loc B=some (fW ls 0 [] [])∧Z3 R2 s st) ?_ ?_
 ·intro k0 bM
  simp -implicitDefEqProofs [e0,e1]
  refine Kz hL (t:=t) ?_ (by omega) fun s2 h2=> ?_
  ·rw[hv.erase]
   exact hv.old ((ho.set _ _ (by decide)).set _ _ (by decide)).old
  ·have h3:=h2.l B (fW [] 0 [] []) (by simp[lB]) (fun r hr=>by
    have:∀q,1000≤q→¬q=r:=fun q hq e=>by have:r<1000:=hr;omega
    simp[this])
   simp -implicitDefEqProofs [e4,h3]
   have h4:Z3 R2 s (back ((st.set 14 (aN ns cs)).set 15 v) s2):=Z3.back ((ho.set _ _ (by decide)).set _ _ (by decide)) (h2.mono fun r hr=>.inl hr)
   refine bM _ ⟨by simp[e0],by simp[e1,hv.erase,hv.aB],by simp[e4],by simp[hls],?_⟩
   refine Z3.put ?_ hB
   repeat (first|exact h4|refine Z3.set ?_ _ _ (by decide)|refine Z3.aB ?_ (.inl (by decide))|refine Z3.aB ?_ (.inr (by decide)))
 clear e0 e1 e4 lB ho
 rintro st ⟨e0,e1,e4,lB,ho⟩
 refine ay (fun st=>st.env 0=aN ns cs∧st.env 1=v∧st.env 4=.aj B 0∧st.loc B=some (fW ls 0 [] [])∧Z3 R2 s st∧∃M,st.env 5=.aZ M∧st.env (1000001+M)=a_ (bR [])) ?_ ?_
 ·intro k0 bM
  simp -implicitDefEqProofs
  intro M BN Kt
  have dc:1000000≤1000001+M:=by omega
  refine bM _ ⟨by simp[e0],by simp[e1],by simp[e4],by simp[lB],?_,M,by simp,by simp[bR]⟩
  refine Z3.set (Z3.set (s:=st.set (1000001+M) (a_ [])) ?_ 18 (.aZ M) (by decide)) 5 (.aZ M) (by decide)
  exact ho.ext (by simp) fun c hc=>rfl
 clear e0 e1 e4 lB ho
 rintro st ⟨e0,e1,e4,lB,ho,M,e5,eM⟩
 have dc:1000000≤1000001+M:=by omega
 refine ay (fun st=>st.env 0=aN ns cs∧st.env 1=v∧st.env 4=.aj B 0∧st.loc B=some (fW ls (aaC ms ls ls.length) [] [])∧Z3 R2 s st) ?_ ?_
 ·intro k0 bM
  simp -implicitDefEqProofs only[cK]
  simp -implicitDefEqProofs [e4,lB]
  refine bP ls.length (fun k st=>st.env 0=aN ns cs∧st.env 1=v∧st.env 4=.aj B 0∧st.env 5=.aZ M∧st.env 20=.slice 1 (ls.map I) 5001∧st.env 21=I ls.length∧st.env 22=I k∧st.env (1000001+M)=a_ (bR (cQ (ls.take k)))∧st.loc B=some (fW ls (aaC ms ls k) [] [])∧Z3 R2 s st) ?_ ?_
  ·refine⟨by simp[e0],by simp[e1],by simp[e4],by simp[e5],by simp,by simp,by simp,by simp[eM,cQ],by simp[lB,aaC],?_⟩
   repeat (first|exact ho|refine Z3.set ?_ _ _ (by decide))
  clear e0 e1 e4 e5 eM lB ho st
  rintro k st hk ⟨e0,e1,e4,e5,dh,e21,cu,eM,lB,ho⟩
  simp -implicitDefEqProofs [e21,cu]
  refine bY (fun hlt=> ?_) (fun hge=> ?_)
  ·obtain⟨n,hn⟩:∃n:Nat,ls[k]=n:=⟨ls[k].toNat,by have:=hlm _ (List.getElem_mem hlt);omega⟩
   have tV:n<ms.length:=by have:=(hlm _ (List.getElem_mem hlt)).2;rw[hn] at this;omega
   obtain⟨m,hm⟩:∃m,m=ms[n]:=⟨_,rfl⟩
   have hs:=BH (ls.take k) n
   rw[←hn,←dW hlt,hn] at hs
   have hv1:=kR (ls.take k) n
   have hv2:=kR (ls.take (k+1)) m
   have cw:(ls.take k).count (n:Int)≤k:=Nat.le_trans List.count_le_length (by simp;omega)
   have rA:aaC ms ls (k+1)=if m<0∨(ls.take (k+1)).count m=0 then aaC ms ls k+1 else aaC ms ls k:=by
    show(if ms.getD (ls.getD k 0).toNat (-1)<0∨_=0 then _ else _)=_
    have h1:ls.getD k 0=n:=by simp[List.getD_eq_getElem?_getD,hlt,hn]
    have h2:ms.getD (n:Int).toNat (-1)=m:=by simp[List.getD_eq_getElem?_getD,tV,hm]
    rw[h1,h2]
   have oG:=B0 ms ls k
   refine fP ?_
   refine ay (fun st=>st.env 0=aN ns cs∧st.env 1=v∧st.env 4=.aj B 0∧st.env 5=.aZ M∧st.env 7=I n∧st.env 20=.slice 1 (ls.map I) 5001∧st.env 21=I ls.length∧st.env 22=I k∧st.env (1000001+M)=a_ (bR (cQ (ls.take k)))∧st.loc B=some (fW ls (aaC ms ls k) [] [])∧Z3 R2 s st) ?_ ?_
   ·intro k1 bq
    simp -implicitDefEqProofs [dh,cu,hlt,hn]
    refine bq _ ⟨by simp[e0],by simp[e1],by simp[e4],by simp[e5],by simp,by simp[dh],by simp[e21],by simp[cu],by simp[eM],by simp[lB],?_⟩
    repeat (first|exact ho|refine Z3.set ?_ _ _ (by decide))
   clear e0 e1 e4 e5 dh e21 cu eM lB ho
   rintro st ⟨e0,e1,e4,e5,e7,dh,e21,cu,eM,lB,ho⟩
   refine ay (fun st=>st.env 0=aN ns cs∧st.env 1=v∧st.env 4=.aj B 0∧st.env 5=.aZ M∧st.env 7=I n∧st.env 8=I m∧st.env 20=.slice 1 (ls.map I) 5001∧st.env 21=I ls.length∧st.env 22=I k∧st.env (1000001+M)=a_ (bR (cQ (ls.take k)))∧st.loc B=some (fW ls (aaC ms ls k) [] [])∧Z3 R2 s st) ?_ ?_
   ·intro k1 bq
    have ac6:(n:Int)<ms.length:=by omega
    simp -implicitDefEqProofs [e0,e7,←Z9,tV,ac6,←hm]
    refine bq _ ⟨by simp[e0],by simp[e1],by simp[e4],by simp[e5],by simp[e7],by simp,by simp[dh],by simp[e21],by simp[cu],by simp[eM],by simp[lB],?_⟩
    repeat (first|exact ho|refine Z3.set ?_ _ _ (by decide))
   clear e0 e1 e4 e5 e7 dh e21 cu eM lB ho
   rintro st ⟨e0,e1,e4,e5,e7,e8,dh,e21,cu,eM,lB,ho⟩
   refine ay (fun st=>st.env 0=aN ns cs∧st.env 1=v∧st.env 4=.aj B 0∧st.env 5=.aZ M∧st.env 8=I m∧st.env 20=.slice 1 (ls.map I) 5001∧st.env 21=I ls.length∧st.env 22=I k∧st.env (1000001+M)=a_ (bR (cQ (ls.take (k+1))))∧st.loc B=some (fW ls (aaC ms ls k) [] [])∧Z3 R2 s st) ?_ ?_
   ·intro k1 bq
    simp -implicitDefEqProofs [e5,e7]
    refine q9 (kv:=cQ (ls.take k)) ?_ ?_
    ·simp[eM]
    simp -implicitDefEqProofs
    refine⟨i64 (by omega) (by omega),?_⟩
    refine BI ?_ ?_
    ·simp[eM]
    simp -implicitDefEqProofs
    refine bq _ ⟨by simp[e0],by simp[e1],by simp[e4],by simp[e5],by simp[e8],by simp[dh],by simp[e21],by simp[cu],by simp[hs],by simp[lB],?_⟩
    refine Z3.ext (s:=st) ho (by simp) fun c hc=>rfl
   clear e0 e1 e4 e5 e7 e8 dh e21 cu eM lB ho
   rintro st ⟨e0,e1,e4,e5,e8,dh,e21,cu,eM,lB,ho⟩
   by_cases hm0:m<0
   ·rw[if_pos (.inl hm0)] at rA
    simp -implicitDefEqProofs [e8,hm0,e4,lB,cu]
    refine⟨i64 (by omega) (by omega),i64 (by omega) (by omega),bz hlt ⟨by simp[e0],by simp[e1],by simp[e4],by simp[e5],by simp[dh],by simp[e21],by simp,by simp[eM],by simp[rA],?_⟩⟩
    repeat (first|exact ho|refine Z3.set ?_ _ _ (by decide)|refine Z3.put ?_ hB)
   ·simp -implicitDefEqProofs [e8,hm0,e5]
    refine q9 (kv:=cQ (ls.take (k+1))) ?_ ?_
    ·simp[eM]
    rw[hv2]
    by_cases hc:(ls.take (k+1)).count m=0
    ·rw[if_pos (.inr hc)] at rA
     simp -implicitDefEqProofs [hc,e4,lB,cu]
     refine⟨i64 (by omega) (by omega),i64 (by omega) (by omega),bz hlt ⟨by simp[e0],by simp[e1],by simp[e4],by simp[e5],by simp[dh],by simp[e21],by simp,by simp[eM],by simp[rA],?_⟩⟩
     repeat (first|exact ho|refine Z3.set ?_ _ _ (by decide)|refine Z3.put ?_ hB)
    ·rw[if_neg (fun h=>h.elim hm0 hc)] at rA
     have eV:(((ls.take (k+1)).count m:Nat):Int)≠0:=by omega
     have yT:((((ls.take (k+1)).count m:Nat):Int)==0)=false:=beq_eq_false_iff_ne.2 eV
     simp -implicitDefEqProofs [yT,cu]
     refine⟨i64 (by omega) (by omega),bz hlt ⟨by simp[e0],by simp[e1],by simp[e4],by simp[e5],by simp[dh],by simp[e21],by simp,by simp[eM],by simp[rA,lB],?_⟩⟩
     repeat (first|exact ho|refine Z3.set ?_ _ _ (by decide))
  ·obtain rfl:k=ls.length:=by omega
   simp -implicitDefEqProofs
   refine bM _ ⟨by simp[e0],by simp[e1],by simp[e4],by simp[lB],?_⟩
   repeat (first|exact ho|refine Z3.set ?_ _ _ (by decide))
 rintro st h
 exact hk st h
end Go.Proofs.YtmcdlpegncaihaaGreat.C
namespace Go.Proofs.YtmcdlpegncaihaaGreat.C
open Go.Z4
theorem dA.at{s:St}{v:AV}{t:List Int}(h:dA s v t):∃D cap cs,v=.aq D 0 t.length cap 1∧s.loc D=some cs∧∀k,(hk:k<t.length)→∃h:k<cs.length,cs[k]=I t[k]:=by
 obtain⟨D,cap,cs,h1,h2,h3,h4,h5,h6,h7,h8⟩:=h
 have n9:IL t=.slice 1 (chunk 1 cs t.length) 0:=h3
 injection n9 with _ n9 _
 rw[tN _ _ (by omega) (fun x hx=>by
  obtain⟨i,hi,rfl⟩:=List.getElem_of_mem hx
  have:=congrArg (fun l=>l[i]?) h8
  simpa[hi] using this)] at n9
 refine⟨D,cap,cs,h1,h2,fun k hk=>List.getElem?_eq_some_iff.1 ?_⟩
 have:=congrArg (fun l=>l[k]?) n9
 simp only[List.getElem?_map,List.getElem?_eq_getElem hk,Option.map_some] at this
 rw[List.getElem?_take_of_lt hk] at this
 exact this.symm
def eR(t:List Int)(k:Nat):List (Int×Int):=cQ ((t.take k).filter fun x=>decide (0≤x))
theorem Xb{t:List Int}{k:Nat}(hk:k<t.length)(h:t[k]<0):eR t (k+1)=eR t k:=by
 unfold eR
 rw[dW hk,List.filter_append]
 simp[h]
theorem Xc{t:List Int}{k:Nat}(hk:k<t.length)(h:¬t[k]<0):eR t (k+1)=iS (eR t k) t[k]:=by
 unfold eR
 rw[dW hk,List.filter_append]
 have:(([t[k]]:List Int).filter fun x=>decide (0≤x))=[t[k]]:=by simp;omega
 rw[this,BH]
theorem KF(t:List Int)(k:Nat){n:Int}(h:0≤n):bQ (eR t k) n=((t.take k).count n:Nat):=by
 unfold eR
 rw[kR,List.count_filter (by simpa using h)]
structure B3 (L:Nat) (r:tU) (k:Nat):Prop where
 a:r.eI.length≤k
 b:r.dZ.length≤k
 c:r.runs.length≤k
 d:∀x∈r.runs,0≤x.dY∧x.dY<L
theorem B4{lv:List (Nat×Nat)}{t:List Int}(ht:∀x∈t,x<lv.length):∀k,k≤t.length→B3 lv.length (dx lv t k) k
 |0,_=>⟨by simp[dx],by simp[dx],by simp[dx],by simp[dx]⟩
 |k+1,h=>by
  have ih:=B4 ht k (by omega)
  have hk:k<t.length:=by omega
  have hx:=ht t[k] (List.getElem_mem _)
  have hg:t.getD k 0=t[k]:=by simp[List.getD_eq_getElem?_getD,hk]
  show B3 lv.length (oh lv t (dx lv t k) k (t.getD k 0)) (k+1)
  rw[hg]
  unfold oh
  split
  ·exact⟨by have:=ih.a;simp;omega,Nat.le_succ_of_le ih.b,Nat.le_succ_of_le ih.c,ih.d⟩
  ·split
   ·exact⟨Nat.le_succ_of_le ih.a,by have:=ih.b;simp;omega,Nat.le_succ_of_le ih.c,ih.d⟩
   ·have new:B3 lv.length ⟨(dx lv t k).eI,(dx lv t k).dZ,(dx lv t k).runs++[⟨k,t[k],t[k]⟩]⟩ (k+1):=
     ⟨Nat.le_succ_of_le ih.a,Nat.le_succ_of_le ih.b,by have:=ih.c;simp;omega,fun x ef=>by
       rcases List.mem_append.1 ef with ef|ef
       ·exact ih.d x ef
       ·rw[List.mem_singleton.1 ef];simp only;omega⟩
    split
    ·split
     ·refine⟨Nat.le_succ_of_le ih.a,Nat.le_succ_of_le ih.b,?_,fun x ef=> ?_⟩
      ·have:=ih.c;simp;omega
      ·rcases List.mem_append.1 ef with ef|ef
       ·exact ih.d x (List.dropLast_subset _ ef)
       ·rw[List.mem_singleton.1 ef];simp only;omega
     ·exact new
    ·exact new
def jD(s0 s:St)(B:Nat):Prop:=∀b,eZ s0 b↔(b≠B∧∀cs,s.loc b=some cs→¬∀r,R2 r→cs.map (az r)=cs)
theorem Xd(s:St)(B:Nat):∃s0,jD s0 s B:=by
 classical
 refine⟨⟨s.env,fun b=>if b≠B∧∀cs,s.loc b=some cs→¬∀r,R2 r→cs.map (az r)=cs then none else some []⟩,fun b=>⟨fun h=> ?_,fun h cs h1 _=> ?_⟩⟩
 ·by_cases hc:b≠B∧∀cs,s.loc b=some cs→¬∀r,R2 r→cs.map (az r)=cs
  ·exact hc
  ·exact absurd rfl (h [] (if_neg hc))
 ·have h2:(if b≠B∧∀cs,s.loc b=some cs→¬∀r,R2 r→cs.map (az r)=cs then none else some [])=some cs:=h1
  rw[if_pos h] at h2
  cases h2
theorem jD.new{s0 s st:St}{B b:Nat}(hq:jD s0 s B)(ho:Z3 R2 s st)(hB:st.loc B≠none)(hb:st.loc b=none):eZ s0 b:=(hq b).2 ⟨by rintro rfl;exact hB hb,fun cs h1 h2=>by rw[ho.l b cs h1 h2] at hb;cases hb⟩
theorem jD.put{s0 s st:St}{B b:Nat}{cs:List AV}(hq:jD s0 s B)(ho:Z3 R2 s st)(hb:eZ s0 b):Z3 R2 s (st.new b cs):=⟨fun c cs' h1 h2=>by rw[jm,if_neg (by rintro rfl;exact((hq c).1 hb).2 cs' h1 h2)];exact ho.l c cs' h1 h2,fun l es q hg=>ho.g l es q hg⟩
abbrev jE(ls:List Int)(p:Int)(r:tU):List AV:=fW ls p r.eI r.dZ
theorem Xe{ns:List Nat}{cs:List (List Int)}(_:(aT ns).length≤120){s:St}{v:AV}{t:List Int}(hv:dA s v t)(ht:t.length≤120)(rB:∀x∈t,x<(aT ns).length)
   {kn:St→Prop}{ke:Nat→St→Prop}{kr:St→Prop}{rest:aA}{st:St}{ls:List Int}{p:Int}{B:Nat}{s0:St}(hq:jD s0 s B)(hB:s.loc B=none)(hst:st.env 0=aN ns cs∧st.env 1=v∧st.env 4=.aj B 0∧st.loc B=some (fW ls p [] [])∧Z3 R2 s st)
   (hk:∀st',st'.env 4=.aj B 0∧st'.loc B=some (jE ls p (dx (aT ns) t t.length))∧aao s0 st'.loc (st'.env 9) (dx (aT ns) t t.length).runs∧Z3 R2 s st'→br Tryz.prog rest kn ke kr st'):
   br Tryz.prog (.seq (.af [.ag 9 (.c (.lit (.slice none 0 0)))])
 (.seq (.af [.mkMap 50,.ag 10 (.t 50)])
 (.seq (.seq (.af [.aa 51 (.t 1),.len 52 (.t 51),.aa 53 (ci 0)])
 (.block 2 (.loop (.seq (.af [.bin 54 .lss (.t 53) (.t 52)])
 (.seq (.cond (.t 54) .skip (.exit 2))
 (.seq (.block 3 (.seq (.af [.aa 55 (.t 53),.aO 56 (.t 51) (.t 53) 1,.load 57 (.t 56) none,.ag 11 (.t 55),.ag 12 (.t 57)])
 (.seq (.seq (.af [.aa 58 (.t 12),.bin 59 .lss (.t 58) (ci 0)])
 (.cond (.t 59) (.seq (.af [.addr 60 (.t 4) 3,.load 61 (.t 60) none,.aa 62 (.t 11),.aM 63 1 1 [(.lit (.int .i64 0))] [(0,(.t 62))],.app 64 (.t 61) (.t 63) 1 8,.addr 65 (.t 4) 3,.store (.t 65) (.t 64) 1 5003])
 (.exit 3)) .skip))
 (.seq (.seq (.af [.aa 66 (.t 10),.aa 67 (.t 12),.lookup 68 (.t 66) (.t 67) none false (.lit (.int .i64 0)),.bin 69 .add (.t 68) (ci 1),.gG (.t 66) (.t 67) (.t 69) none])
 (.seq (.af [.aa 70 (.t 10),.aa 71 (.t 12),.lookup 72 (.t 70) (.t 71) none false (.lit (.int .i64 0)),.bin 73 .gtr (.t 72) (ci 1)])
 (.cond (.t 73) (.seq (.af [.addr 74 (.t 4) 4,.load 75 (.t 74) none,.aa 76 (.t 11),.aM 77 1 1 [(.lit (.int .i64 0))] [(0,(.t 76))],.app 78 (.t 75) (.t 77) 1 8,.addr 79 (.t 4) 4,.store (.t 79) (.t 78) 1 5004])
 (.exit 3)) .skip)))
 (.seq (.seq (.af [.aa 80 (.t 9),.len 81 (.t 80),.bin 82 .sub (.t 81) (ci 1),.ag 13 (.t 82)])
 (.seq (.af [.aa 83 (.t 13),.bin 84 .geq (.t 83) (ci 0),.aa 85 (.t 84),.guard 85 true (some 86) (.aa 86 (.t 9)),.guard 85 true (some 87) (.aa 87 (.t 13)),.guard 85 true (some 88) (.aO 88 (.t 86) (.t 87) 3),.guard 85 true (some 89) (.addr 89 (.t 88) 2),.guard 85 true (some 90) (.load 90 (.t 89) none),.guard 85 true (some 91) (.aa 91 (.t 12)),.guard 85 true (some 92) (.bin 92 .lss (.t 90) (.t 91)),.pick 93 (.t 85) (.t 92) (cb false),.aa 94 (.t 93),.guard 94 true (some 95) (.aa 95 (.t 0)),.guard 94 true (some 96) (.dJ 96 (.t 95)),.guard 94 true (some 97) (.addr 97 (.t 96) 3),.guard 94 true (some 98) (.load 98 (.t 97) none),.guard 94 true (some 99) (.aa 99 (.t 9)),.guard 94 true (some 100) (.aa 100 (.t 13)),.guard 94 true (some 101) (.aO 101 (.t 99) (.t 100) 3),.guard 94 true (some 102) (.addr 102 (.t 101) 2),.guard 94 true (some 103) (.load 103 (.t 102) none),.guard 94 true (some 104) (.aO 104 (.t 98) (.t 103) 4),.guard 94 true (some 105) (.addr 105 (.t 104) 0),.guard 94 true (some 106) (.load 106 (.t 105) none),.guard 94 true (some 107) (.aa 107 (.t 0)),.guard 94 true (some 108) (.dJ 108 (.t 107)),.guard 94 true (some 109) (.addr 109 (.t 108) 3),.guard 94 true (some 110) (.load 110 (.t 109) none),.guard 94 true (some 111) (.aa 111 (.t 12)),.guard 94 true (some 112) (.aO 112 (.t 110) (.t 111) 4),.guard 94 true (some 113) (.addr 113 (.t 112) 0),.guard 94 true (some 114) (.load 114 (.t 113) none),.guard 94 true (some 115) (.bin 115 .eql (.t 106) (.t 114)),.pick 116 (.t 94) (.t 115) (cb false)])
 (.cond (.t 116) (.seq (.af [.aa 117 (.t 9),.aa 118 (.t 13),.aa 119 (.t 12),.aO 120 (.t 117) (.t 118) 3,.addr 121 (.t 120) 2,.store (.t 121) (.t 119) 1 0])
 (.exit 3)) .skip)))
 (.af [.aa 122 (.t 9),.aa 123 (.t 11),.aa 124 (.t 12),.aa 125 (.t 12),.build 126 [(.lit (.int .i64 0)),(.lit (.int .i64 0)),(.lit (.int .i64 0))] [(0,1,(.t 123)),(1,1,(.t 124)),(2,1,(.t 125))],.aM 127 1 3 [(.lit (.int .i64 0)),(.lit (.int .i64 0)),(.lit (.int .i64 0))] [(0,(.t 126))],.aaY 128 (.t 122) (.t 127) 3 24 [(.lit (.int .i64 0)),(.lit (.int .i64 0)),(.lit (.int .i64 0))],.ag 9 (.t 128)]))))))
 (.af [.bin 129 .add (.t 53) (ci 1),.aa 53 (.t 129)])))))))
 rest))) kn ke kr st:=by
  obtain⟨e0,e1,e4,lB,ho⟩:=hst
  have wU:oS=1000001:=by simp[oS]
  obtain⟨lv,hlv⟩:∃lv,lv=aT ns:=⟨_,rfl⟩
  rw[←hlv] at rB hk
  refine ay (fun st=>st.env 0=aN ns cs∧st.env 1=v∧st.env 4=.aj B 0∧st.env 9=.lit (.slice none 0 0)∧st.loc B=some (fW ls p [] [])∧Z3 R2 s st) ?_ ?_
  ·intro k0 bM
   simp -implicitDefEqProofs
   exact bM _ ⟨by simp[e0],by simp[e1],by simp[e4],by simp,by simp[lB],ho.set _ _ (by decide)⟩
  clear e0 e1 e4 lB ho
  rintro st ⟨e0,e1,e4,e9,lB,ho⟩
  refine ay (fun st=>st.env 0=aN ns cs∧st.env 1=v∧st.env 4=.aj B 0∧st.env 9=.lit (.slice none 0 0)∧st.loc B=some (fW ls p [] [])∧Z3 R2 s st∧∃M,st.env 10=.aZ M∧st.env (1000001+M)=a_ (bR [])) ?_ ?_
  ·intro k0 bM
   simp -implicitDefEqProofs
   intro M BN Kt
   have dc:1000000≤1000001+M:=by omega
   refine bM _ ⟨by simp[e0],by simp[e1],by simp[e4],by simp[e9],by simp[lB],?_,M,by simp,by simp[bR]⟩
   refine Z3.set (Z3.set (s:=st.set (1000001+M) (a_ [])) ?_ 50 (.aZ M) (by decide)) 10 (.aZ M) (by decide)
   exact ho.ext (by simp) fun c hc=>rfl
  clear e0 e1 e4 e9 lB ho
  rintro st ⟨e0,e1,e4,e9,lB,ho,M,aH,eM⟩
  have dc:1000000≤1000001+M:=by omega
  refine ay (fun st=>st.env 4=.aj B 0∧st.loc B=some (jE ls p (dx lv t t.length))∧aao s0 st.loc (st.env 9) (dx lv t t.length).runs∧Z3 R2 s st) ?_ ?_
  ·intro k0 bM
   simp -implicitDefEqProofs only[cK]
   obtain⟨D,cap,ds,tW,KG,Xf⟩:=hv.at
   simp -implicitDefEqProofs [e1,tW]
   refine bP t.length (fun k st=>st.env 0=aN ns cs∧st.env 4=.aj B 0∧st.env 10=.aZ M∧st.env 51=.aq D 0 t.length cap 1∧st.env 52=I t.length∧st.env 53=I k∧st.env (1000001+M)=a_ (bR (eR t k))∧st.loc B=some (jE ls p (dx lv t k))∧aao s0 st.loc (st.env 9) (dx lv t k).runs∧Z3 R2 s st) ?_ ?_
   ·refine⟨by simp[e0],by simp[e4],by simp[aH],by simp,by simp,by simp,by simp[eM,eR,cQ],by simp[lB,dx],.inl ⟨rfl,by simp[e9]⟩,?_⟩
    repeat (first|exact ho|refine Z3.set ?_ _ _ (by decide))
   clear e0 e1 e4 e9 aH eM lB ho st
   rintro k st bq ⟨e0,e4,aH,cU,cV,cP,eM,lB,hacc,ho⟩
   simp -implicitDefEqProofs [cV,cP]
   refine bY (fun hlt=> ?_) (fun hge=> ?_)
   ·obtain⟨n,hn⟩:∃n,n=t[k]:=⟨_,rfl⟩
    have hok:=B4 rB k (by omega)
    have hrn:dx lv t (k+1)=oh lv t (dx lv t k) k n:=by
     show oh lv t (dx lv t k) k (t.getD k 0)=_
     have:t.getD k 0=n:=by simp[List.getD_eq_getElem?_getD,hlt,hn]
     rw[this]
    have tV:=rB n (by rw[hn];exact List.getElem_mem _)
    obtain⟨hd1,er⟩:=Xf k hlt
    rw[←hn] at er
    obtain⟨R,hR⟩:∃R,R=dx lv t k:=⟨_,rfl⟩
    rw[←hR] at hrn hok lB hacc
    have KH:st.loc D=some ds:=by
     have h3:=hv.old ho.old
     obtain⟨D',cap',ds',g1,g2,g3⟩:=h3
     obtain⟨D2,ql,iX,g4,g5,g6⟩:=hv
     rw[g4] at g1 tW
     injection g1 with g1;injection tW with tW
     subst g1 tW
     rw[KG] at g5;injection g5 with g5;subst g5
     exact ho.old.l D2 ds KG g6.2.2.2.2.2
    refine fP ?_
    refine ay (fun st=>st.env 0=aN ns cs∧st.env 4=.aj B 0∧st.env 10=.aZ M∧st.env 11=I k∧st.env 12=I n∧st.env 51=.aq D 0 t.length cap 1∧st.env 52=I t.length∧st.env 53=I k∧st.env (1000001+M)=a_ (bR (eR t k))∧st.loc B=some (jE ls p R)∧aao s0 st.loc (st.env 9) R.runs∧Z3 R2 s st) ?_ ?_
    ·intro k1 hk2
     simp -implicitDefEqProofs [cU,cP,hlt,KH,hd1,er]
     refine hk2 _ ⟨by simp[e0],by simp[e4],by simp[aH],by simp,by simp,by simp[cU],by simp[cV],by simp[cP],by simp[eM],by simp[lB],by simpa using hacc,?_⟩
     repeat (first|exact ho|refine Z3.set ?_ _ _ (by decide))
    clear e0 e4 aH cU cV cP eM lB hacc ho KH
    rintro st ⟨e0,e4,aH,aE,aQ,cU,cV,cP,eM,lB,hacc,ho⟩
    have hroom:fJ .i64 ((k:Int)+1):=i64 (by omega) (by omega)
    have tI:=hok.a
    have htl:=hok.b
    by_cases hn0:n<0
    ·have hkv:=Xb hlt (by rw[←hn];exact hn0)
     have bS:dx lv t (k+1)=⟨R.eI++[(k:Int)],R.dZ,R.runs⟩:=by rw[hrn];unfold oh;exact if_pos hn0
     simp -implicitDefEqProofs [aQ,hn0,e4,lB,aE,cP]
     refine⟨by omega,by omega,hroom,bz hlt ⟨by simp[e0],by simp[e4],by simp[aH],by simp[cU],by simp[cV],by simp,by simp[eM,hkv],by simp[bS],?_,?_⟩⟩
     ·rw[bS]
      simp[hacc.aB]
      exact hacc.kS fun c cs w_ h3 h4=>by simp[((hq _).1 w_).1,h3,jy h4]
     ·refine Z3.set (Z3.set (Z3.put ?_ hB) _ _ (by decide)) _ _ (by decide)
      repeat (first|exact ho|refine Z3.set ?_ _ _ (by decide)|refine Z3.aB ?_ (.inl (by decide))|refine Z3.aB ?_ (.inr (by decide)))
    ·have hkv:=Xc hlt (by rw[←hn];exact hn0)
     have hval:=KF t k (n:=n) (by omega)
     have KI:=KF t (k+1) (n:=n) (by omega)
     rw[←hn] at hkv
     have cw:(t.take k).count n≤k:=Nat.le_trans List.count_le_length (by simp;omega)
     refine ay (fun st=>st.env 0=aN ns cs∧st.env 4=.aj B 0∧st.env 10=.aZ M∧st.env 11=I k∧st.env 12=I n∧st.env 51=.aq D 0 t.length cap 1∧st.env 52=I t.length∧st.env 53=I k∧st.env (1000001+M)=a_ (bR (eR t k))∧st.loc B=some (jE ls p R)∧aao s0 st.loc (st.env 9) R.runs∧Z3 R2 s st) ?_ ?_
     ·intro k1 hk2
      simp -implicitDefEqProofs [aQ,hn0]
      refine hk2 _ ⟨by simp[e0],by simp[e4],by simp[aH],by simp[aE],by simp[aQ],by simp[cU],by simp[cV],by simp[cP],by simp[eM],by simp[lB],by simpa using hacc,?_⟩
      repeat (first|exact ho|refine Z3.set ?_ _ _ (by decide))
     clear e0 e4 aH aE aQ cU cV cP eM lB hacc ho
     rintro st ⟨e0,e4,aH,aE,aQ,cU,cV,cP,eM,lB,hacc,ho⟩
     rw[cK]
     refine ay (fun st=>st.env 0=aN ns cs∧st.env 4=.aj B 0∧st.env 10=.aZ M∧st.env 11=I k∧st.env 12=I n∧st.env 51=.aq D 0 t.length cap 1∧st.env 52=I t.length∧st.env 53=I k∧st.env (1000001+M)=a_ (bR (eR t (k+1)))∧st.loc B=some (jE ls p R)∧aao s0 st.loc (st.env 9) R.runs∧Z3 R2 s st) ?_ ?_
     ·intro k1 hk2
      simp -implicitDefEqProofs [aH,aQ]
      refine q9 (kv:=eR t k) ?_ ?_
      ·simp[eM]
      simp -implicitDefEqProofs
      refine⟨by rw[hval];exact i64 (by omega) (by omega),?_⟩
      refine BI ?_ ?_
      ·simp[eM]
      simp -implicitDefEqProofs
      refine hk2 _ ⟨by simp[e0],by simp[e4],by simp[aH],by simp[aE],by simp[aQ],by simp[cU],by simp[cV],by simp[cP],by simp[hkv],by simp[lB],by simpa using hacc,?_⟩
      refine Z3.ext (s:=st) ho (by simp) fun c hc=>rfl
     clear e0 e4 aH aE aQ cU cV cP eM lB hacc ho
     rintro st ⟨e0,e4,aH,aE,aQ,cU,cV,cP,eM,lB,hacc,ho⟩
     by_cases rC:1<(t.take (k+1)).count n
     ·have bS:dx lv t (k+1)=⟨R.eI,R.dZ++[(k:Int)],R.runs⟩:=by rw[hrn];unfold oh;rw[if_neg hn0,if_pos rC]
      have B5:(1:Int)<((t.take (k+1)).count n:Nat):=by omega
      simp -implicitDefEqProofs [aH,aQ]
      refine q9 (kv:=eR t (k+1)) ?_ ?_
      ·simp[eM]
      rw[KI]
      simp -implicitDefEqProofs [B5,e4,lB,aE,cP]
      refine⟨by omega,by omega,hroom,bz hlt ⟨by simp[e0],by simp[e4],by simp[aH],by simp[cU],by simp[cV],by simp,by simp[eM],by simp[bS],?_,?_⟩⟩
      ·rw[bS]
       simp[hacc.aB]
       exact hacc.kS fun c cs w_ h3 h4=>by simp[((hq _).1 w_).1,h3,jy h4]
      ·refine Z3.set (Z3.set (Z3.put ?_ hB) _ _ (by decide)) _ _ (by decide)
       repeat (first|exact ho|refine Z3.set ?_ _ _ (by decide)|refine Z3.aB ?_ (.inl (by decide))|refine Z3.aB ?_ (.inr (by decide)))
     ·refine q6 (fun st=>st.env 0=aN ns cs∧st.env 4=.aj B 0∧st.env 10=.aZ M∧st.env 11=I k∧st.env 12=I n∧st.env 51=.aq D 0 t.length cap 1∧st.env 52=I t.length∧st.env 53=I k∧st.env (1000001+M)=a_ (bR (eR t (k+1)))∧st.loc B=some (jE ls p R)∧aao s0 st.loc (st.env 9) R.runs∧Z3 R2 s st) ?_ ?_
      ·intro k1 hk2
       have B5:¬(1:Int)<((t.take (k+1)).count n:Nat):=by omega
       simp -implicitDefEqProofs [aH,aQ]
       refine q9 (kv:=eR t (k+1)) ?_ ?_
       ·simp[eM]
       rw[KI]
       simp -implicitDefEqProofs [B5]
       refine hk2 _ ⟨by simp[e0],by simp[e4],by simp[aH],by simp[aE],by simp[aQ],by simp[cU],by simp[cV],by simp[cP],by simp[eM],by simp[lB],by simpa using hacc,?_⟩
       repeat (first|exact ho|refine Z3.set ?_ _ _ (by decide))
      clear e0 e4 aH aE aQ cU cV cP eM lB hacc ho
      rintro st ⟨e0,e4,aH,aE,aQ,cU,cV,cP,eM,lB,hacc,ho⟩
      have hrl:=hok.c
      obtain⟨m,rfl⟩:∃m:Nat,n=m:=⟨n.toNat,by omega⟩
      have ve:m<lv.length:=by omega
      have one:∀(st:St),st.env 0=aN ns cs∧st.env 4=.aj B 0∧st.env 10=.aZ M∧st.env 11=I k∧st.env 12=I m∧st.env 51=.aq D 0 t.length cap 1∧st.env 52=I t.length∧st.env 53=I k∧st.env (1000001+M)=a_ (bR (eR t (k+1)))∧st.loc B=some (jE ls p R)∧aao s0 st.loc (st.env 9) R.runs∧Z3 R2 s st→dx lv t (k+1)=⟨R.eI,R.dZ,R.runs++[⟨k,m,m⟩]⟩→
        ∀(B6:St→Prop) (wN:Nat→St→Prop) (wO:St→Prop),(∀st':St,st'.env 0=aN ns cs∧st'.env 4=.aj B 0∧st'.env 10=.aZ M∧st'.env 51=.aq D 0 t.length cap 1∧st'.env 52=I t.length∧st'.env 53=I k∧st'.env (1000001+M)=a_ (bR (eR t (k+1)))∧st'.loc B=some (jE ls p (dx lv t (k+1)))∧aao s0 st'.loc (st'.env 9) (dx lv t (k+1)).runs∧Z3 R2 s st'→B6 st')→
        br Tryz.prog (.af [.aa 122 (.t 9),.aa 123 (.t 11),.aa 124 (.t 12),.aa 125 (.t 12),.build 126 [(.lit (.int .i64 0)),(.lit (.int .i64 0)),(.lit (.int .i64 0))] [(0,1,(.t 123)),(1,1,(.t 124)),(2,1,(.t 125))],.aM 127 1 3 [(.lit (.int .i64 0)),(.lit (.int .i64 0)),(.lit (.int .i64 0))] [(0,(.t 126))],.aaY 128 (.t 122) (.t 127) 3 24 [(.lit (.int .i64 0)),(.lit (.int .i64 0)),(.lit (.int .i64 0))],.ag 9 (.t 128)])
        B6 wN wO st:=by
       rintro st ⟨e0,e4,aH,aE,aQ,cU,cV,cP,eM,lB,hacc,ho⟩ bS B6 wN wO hkk
       simp -implicitDefEqProofs [-iJ,-kG,aE,aQ,hacc.aB]
       refine W7 (s0:=s0) (l:=R.runs) (p:=⟨k,m,m⟩) (hacc.kS fun c cs w_ h3 h4=>by simp[h3,jy h4]) (fun b' hb'=>hq.new ho (by rw[lB];simp) (by simpa using hb')) (by omega) fun b5 rq v' hnb wW ZL=> ?_
       have gY:¬B=b5:=fun e=>((hq _).1 hnb).1 e.symm
       simp -implicitDefEqProofs [wW.ag]
       refine hkk _ ⟨by simp[e0],by simp[e4],by simp[aH],by simp[cU],by simp[cV],by simp[cP],by simp[eM],by simp[gY,lB,bS],?_,?_⟩
       ·rw[bS]
        simpa using wW
       ·refine Z3.set (Z3.set (hq.put ?_ hnb) _ _ (by decide)) _ _ (by decide)
        repeat (first|exact ho|refine Z3.set ?_ _ _ (by decide)|refine Z3.aB ?_ (.inl (by decide)))
      have kE:dx lv t (k+1)=match R.runs.getLast? with
        |some r=>if r.dY<m∧abQ lv r.dY=abQ lv m then ⟨R.eI,R.dZ,R.runs.dropLast++[⟨r.item,r.fst,m⟩]⟩ else ⟨R.eI,R.dZ,R.runs++[⟨k,m,m⟩]⟩
        |none=>⟨R.eI,R.dZ,R.runs++[⟨k,m,m⟩]⟩:=by
       rw[hrn];unfold oh;rw[if_neg hn0,if_neg rC]
       all_goals (cases R.runs.getLast?<;>rfl)
      rcases List.eq_nil_or_concat R.runs with oQ|⟨init,r,tX⟩
      ·have bS:dx lv t (k+1)=⟨R.eI,R.dZ,R.runs++[⟨k,m,m⟩]⟩:=by
        have h0:R.runs.getLast?=none:=by rw[oQ];rfl
        rw[kE];simp only[h0]
       have e9:st.env 9=.lit (.slice none 0 0):=by
        rcases hacc with ⟨_,h⟩|⟨b,c,d,h,_⟩
        ·exact h
        ·exact absurd oQ h
       refine ay (fun st=>st.env 0=aN ns cs∧st.env 4=.aj B 0∧st.env 10=.aZ M∧st.env 11=I k∧st.env 12=I m∧st.env 51=.aq D 0 t.length cap 1∧st.env 52=I t.length∧st.env 53=I k∧st.env (1000001+M)=a_ (bR (eR t (k+1)))∧st.loc B=some (jE ls p R)∧aao s0 st.loc (st.env 9) R.runs∧Z3 R2 s st) ?_ ?_
       ·intro k1 hk2
        simp -implicitDefEqProofs [e9]
        refine⟨i64 (by decide) (by decide),?_⟩
        refine hk2 _ ⟨by simp[e0],by simp[e4],by simp[aH],by simp[aE],by simp[aQ],by simp[cU],by simp[cV],by simp[cP],by simp[eM],by simp[lB],by simpa using hacc,?_⟩
        repeat (first|exact ho|refine Z3.set ?_ _ _ (by decide))
       clear e0 e4 aH aE aQ cU cV cP eM lB hacc ho e9
       intro st hst
       refine one st hst bS _ _ _ ?_
       rintro st' ⟨e0,e4,aH,cU,cV,cP,eM,lB,hacc,ho⟩
       simp -implicitDefEqProofs [cP]
       refine⟨hroom,bz hlt ⟨by simp[e0],by simp[e4],by simp[aH],by simp[cU],by simp[cV],by simp,by simp[eM],by simp[lB],by simpa using hacc,?_⟩⟩
       repeat (first|exact ho|refine Z3.set ?_ _ _ (by decide))
      ·have rD:R.runs=init++[r]:=by simpa using tX
       have h0:R.runs.getLast?=some r:=by rw[rD];simp
       have jh:R.runs.dropLast=init:=by rw[rD];simp
       simp only[h0,jh] at kE
       have Xg:init.length+1=R.runs.length:=by rw[rD];simp
       obtain⟨hr0,ZM⟩:=hok.d r (by rw[rD];simp)
       obtain⟨q,k7⟩:∃q:Nat,r.dY=q:=⟨r.dY.toNat,by omega⟩
       have KJ:q<lv.length:=by omega
       have Xh:(q:Int)<lv.length:=by omega
       have Xi:(m:Int)<lv.length:=by omega
       have yU:abQ lv r.dY=lv[q].1:=by unfold abQ;rw[k7];simp[List.getD_eq_getElem?_getD,KJ]
       have jR:abQ lv m=lv[m].1:=by unfold abQ;simp[List.getD_eq_getElem?_getD,ve]
       rw[yU,jR,k7] at kE
       rcases hacc with ⟨h,_⟩|⟨b5,kU,xb,g1,g2,g3,g4,g5⟩
       ·rw[rD] at h;simp at h
       have B7:=g4
       rw[rD] at B7
       obtain⟨KK,KL⟩:=W6 B7
       rw[k7] at KL
       have KM:xb[init.length*3+2]=I q:=(List.getElem?_eq_some_iff.1 KL).2
       have B8:((R.runs.length:Int) - 1)=init.length:=by omega
       have gY:=((hq _).1 g5).1
       have B9:(init.length:Int)<R.runs.length:=by omega
       rw[cK]
       refine ay (fun st=>(st.env 0=aN ns cs∧st.env 4=.aj B 0∧st.env 10=.aZ M∧st.env 11=I k∧st.env 12=I m∧st.env 51=.aq D 0 t.length cap 1∧st.env 52=I t.length∧st.env 53=I k∧st.env (1000001+M)=a_ (bR (eR t (k+1)))∧st.loc B=some (jE ls p R)∧st.env 9=.aq b5 0 R.runs.length kU 3∧st.loc b5=some xb∧Z3 R2 s st)∧st.env 13=I init.length) ?_ ?_
       ·intro k1 hk2
        simp -implicitDefEqProofs [g2]
        refine⟨i64 (by omega) (by omega),?_⟩
        refine hk2 _ ⟨⟨by simp[e0],by simp[e4],by simp[aH],by simp[aE],by simp[aQ],by simp[cU],by simp[cV],by simp[cP],by simp[eM],by simp[lB],by simp[g2],by simp[g3],?_⟩,by simp[B8]⟩
        repeat (first|exact ho|refine Z3.set ?_ _ _ (by decide))
       clear e0 e4 aH aE aQ cU cV cP eM lB ho g2 g3
       rintro st ⟨⟨e0,e4,aH,aE,aQ,cU,cV,cP,eM,lB,g2,g3,ho⟩,eF⟩
       refine ay (fun st=>(st.env 0=aN ns cs∧st.env 4=.aj B 0∧st.env 10=.aZ M∧st.env 11=I k∧st.env 12=I m∧st.env 51=.aq D 0 t.length cap 1∧st.env 52=I t.length∧st.env 53=I k∧st.env (1000001+M)=a_ (bR (eR t (k+1)))∧st.loc B=some (jE ls p R)∧st.env 9=.aq b5 0 R.runs.length kU 3∧st.loc b5=some xb∧Z3 R2 s st)∧st.env 13=I init.length∧st.env 116=(.lit (.bool (decide ((q:Int)<m∧lv[q].1=lv[m].1))))) ?_ ?_
       ·intro k1 hk2
        by_cases KN:(q:Int)<m
        ·simp -implicitDefEqProofs [e0,aQ,eF,g2,g3,B9,KK,KM,KN,←hlv,KJ,Xh,ve,Xi,ace]
         have B_:q<m:=by omega
         refine hk2 _ ⟨⟨by simp[e0],by simp[e4],by simp[aH],by simp[aE],by simp[aQ],by simp[cU],by simp[cV],by simp[cP],by simp[eM],by simp[lB],by simp[g2],by simp[g3],?_⟩,by simp[eF],?_⟩
         ·repeat (first|exact ho|refine Z3.set ?_ _ _ (by decide))
         ·simp[B_]
          rfl
        ·simp -implicitDefEqProofs [aQ,eF,g2,g3,B9,KK,KM,KN]
         have B_:¬q<m:=by omega
         refine hk2 _ ⟨⟨by simp[e0],by simp[e4],by simp[aH],by simp[aE],by simp[aQ],by simp[cU],by simp[cV],by simp[cP],by simp[eM],by simp[lB],by simp[g2],by simp[g3],?_⟩,by simp[eF],?_⟩
         ·repeat (first|exact ho|refine Z3.set ?_ _ _ (by decide))
         ·simp[B_]
       clear e0 e4 aH aE aQ cU cV cP eM lB ho g2 g3 eF
       rintro st ⟨⟨e0,e4,aH,aE,aQ,cU,cV,cP,eM,lB,g2,g3,ho⟩,eF,tY⟩
       by_cases hE:(q:Int)<m∧lv[q].1=lv[m].1
       ·rw[decide_eq_true hE] at tY
        rw[if_pos hE] at kE
        have Xj:=W5 B7 (m:Int)
        simp -implicitDefEqProofs [tY,g2,eF,aQ,g3,B9,cP]
        refine⟨by omega,hroom,bz hlt ⟨by simp[e0],by simp[e4],by simp[aH],by simp[cU],by simp[cV],by simp,by simp[eM],by simp[Ne.symm gY,lB,kE],?_,?_⟩⟩
        ·rw[kE]
         refine .inr ⟨b5,kU,_,by simp,?_,?_,Xj,g5⟩
         ·simp[g2,←Xg]
         ·simp
        ·repeat (first|exact ho|refine Z3.set ?_ _ _ (by decide)|refine hq.put ?_ g5)
       ·rw[decide_eq_false hE] at tY
        rw[if_neg hE] at kE
        refine q6 (fun st=>st.env 0=aN ns cs∧st.env 4=.aj B 0∧st.env 10=.aZ M∧st.env 11=I k∧st.env 12=I m∧st.env 51=.aq D 0 t.length cap 1∧st.env 52=I t.length∧st.env 53=I k∧st.env (1000001+M)=a_ (bR (eR t (k+1)))∧st.loc B=some (jE ls p R)∧aao s0 st.loc (st.env 9) R.runs∧Z3 R2 s st) ?_ ?_
        ·intro k1 hk2
         simp -implicitDefEqProofs [tY]
         refine hk2 _ ⟨by simp[e0],by simp[e4],by simp[aH],by simp[aE],by simp[aQ],by simp[cU],by simp[cV],by simp[cP],by simp[eM],by simp[lB],?_,ho⟩
         rw[g2]
         exact .inr ⟨b5,kU,xb,g1,rfl,g3,g4,g5⟩
        clear e0 e4 aH aE aQ cU cV cP eM lB ho g2 g3 eF tY
        intro st hst
        refine one st hst kE _ _ _ ?_
        rintro st' ⟨e0,e4,aH,cU,cV,cP,eM,lB,hacc,ho⟩
        simp -implicitDefEqProofs [cP]
        refine⟨hroom,bz hlt ⟨by simp[e0],by simp[e4],by simp[aH],by simp[cU],by simp[cV],by simp,by simp[eM],by simp[lB],by simpa using hacc,?_⟩⟩
        repeat (first|exact ho|refine Z3.set ?_ _ _ (by decide))
   ·obtain rfl:k=t.length:=by omega
    simp -implicitDefEqProofs
    refine bM _ ⟨by simp[e4],by simp[lB],by simpa using hacc,?_⟩
    repeat (first|exact ho|refine Z3.set ?_ _ _ (by decide))
  rintro st h
  exact hk st h
end Go.Proofs.YtmcdlpegncaihaaGreat.C
namespace Go.Proofs.YtmcdlpegncaihaaGreat.C
open Go.Z4
theorem jD.kept{s0 st:St}{c:Nat}{loc':Nat→Option (List AV)}(hl:∀c cs,s0.loc c=some cs→cs.map AV.erase0=cs→loc' c=st.loc c)(h:¬eZ s0 c):loc' c=st.loc c:=by refine Classical.byContradiction fun hne=>h fun cs h1 h2=>hne (hl c cs h1 h2)
theorem jD.own{s0 s:St}{B:Nat}(hq:jD s0 s B):¬eZ s0 B:=fun h=>((hq B).1 h).1 rfl
theorem jD.old{s0 s st:St}{B:Nat}(hq:jD s0 s B)(ho:Z3 R2 s st){env':Nat→AV}{loc':Nat→Option (List AV)}(hl:∀c cs,s0.loc c=some cs→cs.map AV.erase0=cs→loc' c=st.loc c)(he:env' 1000000=st.env 1000000):Z3 R2 s ⟨env',loc'⟩:=
 ⟨fun c cs h1 h2=>by
   show loc' c=_
   rw[jD.kept (st:=st) hl (fun h=>((hq c).1 h).2 cs h1 h2)]
   exact ho.l c cs h1 h2,fun l es q hg=>by show env' 1000000=_;rw[he];exact ho.g l es q hg⟩
theorem adv{ns:List Nat}{cs:List (List Int)}(hL:(aT ns).length≤120){s:St}{v:AV}{t:List Int}{K:AV→St→Prop}(hv:dA s v t)(ht:t.length≤120)(rB:∀x∈t,x<(aT ns).length)(hK:∀s2,Z3 R2 s s2→K (.agg (fC (jC (bw ns) (aT ns) t))) (back s s2)):d_ Tryz.prog 46 [aN ns cs,v] s K:=by
 refine ic t46 (by simp) fun _=> ?_
 simp -implicitDefEqProofs only[Jp]
 refine ay (fun st=>st.env 0=aN ns cs∧st.env 1=v∧Z3 R2 s st∧∃B,s.loc B=none∧st.env 4=.aj B 0∧st.loc B=some (fW [] 0 [] [])) ?_ ?_
 ·intro k hk
  simp -implicitDefEqProofs
  intro B hB
  have ho:Z3 R2 s ⟨fun k=>if 1000000≤k then s.env k else cO [aN ns cs,v] k,s.loc⟩:=⟨fun _ _ h _=>h,fun _ _ _ h=>by simpa using h⟩
  refine hk _ ⟨by simp,by simp[hv.erase],?_,B,hB,by simp,by simp⟩
  repeat (first|exact ho|refine Z3.set ?_ _ _ (by decide)|refine Z3.put ?_ hB)
 rintro st ⟨e0,e1,ho,B,hB,e4,lB⟩
 obtain⟨s0,hq⟩:=Xd s B
 refine Xa hL hv ht e0 e1 ho hB e4 lB trivial fun st hst=> ?_
 clear e0 e1 ho e4 lB
 refine Xe hL hv ht rB hq hB hst fun st hst=> ?_
 obtain⟨e4,lB,hacc,ho⟩:=hst
 have hrn:=B4 (lv:=aT ns) rB t.length (Nat.le_refl _)
 obtain⟨ms,Z9⟩:∃ms,ms=bw ns:=⟨_,rfl⟩
 obtain⟨R,hR⟩:∃R,R=dx (aT ns) t t.length:=⟨_,rfl⟩
 obtain⟨ls,hls⟩:∃ls,ls=dX (aT ns).length t:=⟨_,rfl⟩
 have qL:ls.length≤120:=by rw[hls];exact Nat.le_trans (aaB _ _) hL
 rw[←hR] at lB hacc hrn
 rw[←hls,←Z9] at lB
 have hF:jC (bw ns) (aT ns) t=⟨[],ls,aaC ms ls ls.length,R.eI,R.dZ,abF R.runs,aaC ms ls ls.length+R.eI.length+R.dZ.length+(abF R.runs).length⟩:=by rw[hls,Z9,hR];rfl
 rw[hF] at hK
 have ha:=hrn.a
 have hb:=hrn.b
 have hc:=hrn.c
 have oG:=B0 ms ls ls.length
 have oJ:(abF R.runs).length≤120:=by have:=(BY R.runs R.runs.length (Nat.le_refl _)).2.2;unfold abF;omega
 obtain⟨p,hp⟩:∃p,p=aaC ms ls ls.length:=⟨_,rfl⟩
 obtain⟨mv,Xk⟩:∃mv,mv=abF R.runs:=⟨_,rfl⟩
 have c1:=WZ R.runs (by omega)
 rw[←hp] at oG lB hK
 rw[←Xk] at c1 oJ hK
 refine ay (fun st=>st.env 4=.aj B 0∧st.loc B=some [.slice 1 [] 5000,.slice 1 (ls.map I) 5001,I p,.slice 1 (R.eI.map I) 5003,.slice 1 (R.dZ.map I) 5004,.slice 1 (mv.map I) 0,I 0]∧Z3 R2 s st) ?_ ?_
 ·intro k hk
  simp -implicitDefEqProofs only[EL,EP]
  refine W8 hacc (by omega) fun loc' p8=> ?_
  have Xl:loc' B=st.loc B:=jD.kept (st:=st) p8 hq.own
  have je:Z3 R2 s ⟨ak st.env 9 (.slice 3 (R.runs.map jB) 0),loc'⟩:=hq.old ho p8 (by simp[ak])
  simp -implicitDefEqProofs [ak]
  refine aL c1 ?_
  simp -implicitDefEqProofs [ak,e4,Xl,lB]
  refine hk _ ⟨by simp[ak,e4],by simp,?_⟩
  repeat (first|exact je|refine Z3.set ?_ _ _ (by decide)|refine Z3.put ?_ hB|refine Z3.aB ?_ (.inl (by decide))|refine Z3.aB ?_ (.inr (by decide)))
 clear e4 lB hacc ho
 rintro st ⟨e4,lB,ho⟩
 refine ay (fun st=>st.env 4=.aj B 0∧st.loc B=some [.slice 1 [] 5000,.slice 1 (ls.map I) 5001,I p,.slice 1 (R.eI.map I) 5003,.slice 1 (R.dZ.map I) 5004,.slice 1 (mv.map I) 0,I (p+R.eI.length+R.dZ.length+mv.length)]∧Z3 R2 s st) ?_ ?_
 ·intro k hk
  simp -implicitDefEqProofs [e4,lB]
  refine⟨i64 (by omega) (by omega),i64 (by omega) (by omega),i64 (by omega) (by omega),?_⟩
  refine hk _ ⟨by simp[e4],by simp,?_⟩
  repeat (first|exact ho|refine Z3.set ?_ _ _ (by decide)|refine Z3.put ?_ hB)
 clear e4 lB ho
 rintro st ⟨e4,lB,ho⟩
 simp -implicitDefEqProofs [e4,lB,eN,Jq]
 refine hK _ ?_
 repeat (first|exact ho|refine Z3.set ?_ _ _ (by decide)|refine Z3.put ?_ hB)
end Go.Proofs.YtmcdlpegncaihaaGreat.C
namespace Go.Proofs.YtmcdlpegncaihaaGreat.C
open Go.Z4
theorem tZ{t:List Int}{sz len cap:Nat}{cs:List AV}(h:kZ (IL t) 0 sz len cap cs):sz=1∧len=t.length:=by
 have h1:IL t=.slice sz (chunk sz cs len) 0:=h.1
 injection h1 with h1 h2 _
 refine⟨h1.symm,?_⟩
 have:=congrArg List.length h2
 rw[iF] at this
 simpa using this.symm
theorem KP:∀{cs:List (List Int)} {t:List Int},t∈bG cs→t.length=cs.length∧∀i (h:i<t.length),t[i]= -1∨∃c∈cs,t[i]∈c
 |[],t,h=>by
  simp[bG] at h;subst h
  exact⟨rfl,fun i h=>absurd h (by simp)⟩
 |c::cs,t,h=>by
  simp only[bG,List.mem_flatMap,List.mem_map] at h
  obtain⟨n,hn,u,hu,rfl⟩:=h
  obtain⟨h1,h2⟩:=KP hu
  refine⟨by simp[h1],fun i hi=> ?_⟩
  cases i with
  |zero=>
   by_cases hc:c=[]
   ·rw[if_pos hc] at hn
    exact .inl (by simpa using hn)
   ·rw[if_neg hc] at hn
    exact .inr ⟨c,by simp,by simpa using hn⟩
  |succ i=>
   rcases h2 i (by simpa using hi) with h3|⟨d,hd,h3⟩
   ·exact .inl (by simpa using h3)
   ·exact .inr ⟨d,by simp[hd],by simpa using h3⟩
theorem t_{ns:List Nat}{cs:List (List Int)}(h:eP ns cs){t:List Int}(ht:t∈bG cs):t.length≤120∧∀x∈t,-1≤x∧x<(aT ns).length:=by
 obtain⟨h1,h2⟩:=KP ht
 have hi:=h.items
 refine⟨by omega,fun x hx=> ?_⟩
 obtain⟨i,hi,rfl⟩:=List.getElem_of_mem hx
 rcases h2 i hi with h3|⟨c,hc,h3⟩
 ·rw[h3];omega
 ·have:=(h.wQ c hc).2.1 _ h3
  omega
def rE(ms:List Int)(lv:List (Nat×Nat))(b:Option Flt)(t:List Int):Option Flt:=
 match b with
 |none=>some {jC ms lv t with leaves:=t}
 |some b=>if b.all≤(jC ms lv t).all then some b else some {jC ms lv t with leaves:=t}
def iu(ms:List Int)(lv:List (Nat×Nat))(ts:List (List Int)):Option Flt:=ts.foldl (rE ms lv) none
theorem KQ(ms:List Int)(lv:List (Nat×Nat))(ts:List (List Int))(t:List Int):iu ms lv (ts++[t])=rE ms lv (iu ms lv ts) t:=by simp[iu,List.foldl_append]
theorem Xm(ms:List Int)(lv:List (Nat×Nat))(b:Option Flt)(t:List Int):∃f,rE ms lv b t=some f:=by
 unfold rE
 cases b with
 |none=>exact⟨_,rfl⟩
 |some b=>simp only;split<;>exact⟨_,rfl⟩
def gD(b:Option Flt):List AV:=match b with
 |none=>[.slice 1 [] 3000,.slice 1 [] 3001,I 0,.slice 1 [] 3003,.slice 1 [] 3004,.slice 1 [] 3005,I 0]
 |some f=>fC f
theorem Xn(b:Option Flt):∀r,R2 r→(gD b).map (az r)=gD b:=by
 intro r hr
 have:∀q,3000≤q→q<4000→¬q=r:=fun q h1 h2 e=>by
  subst e
  rcases hr with hr|⟨h3,_⟩<;>omega
 cases b<;>simp[gD,this]
theorem xd{ns:List Nat}{cs:List (List Int)}(h:eP ns cs){f:Flt}(hf:iu (bw ns) (aT ns) (bG cs)=some f):aG Tryz.prog 10 [.agg (bO ns cs)] (.tuple [.agg (fC f),I 0]):=by
 refine pc t10 (by simp) fun _=> ?_
 have c1:=rm h
 have c2:=tP (xC ns cs)
 have hL:=h.toOKb.leaves
 simp -implicitDefEqProofs only[Jf]
 refine ay (fun st=>st.env 1=.ref (bO ns cs)∧∃B,st.env 2=.aj B 0∧st.loc B=some (gD none)) ?_ ?_
 ·intro k hk
  simp -implicitDefEqProofs
  intro B
  exact hk _ ⟨by simp,B,by simp,by simp[gD]⟩
 rintro st ⟨e1,B,e2,lB⟩
 refine ay (fun st=>st.env 2=.aj B 0∧st.env 3=I 0∧st.env 4=.ref [aN ns cs]∧st.loc B=some (gD none)) ?_ ?_
 ·intro k hk
  simp -implicitDefEqProofs [e1]
  refine aL c1 ?_
  simp -implicitDefEqProofs
  intro b4 Ca
  have hne:¬B=b4:=by rintro rfl;rw[lB] at Ca;cases Ca
  exact hk _ (by simp[e2,lB,hne])
 clear e1 e2 lB
 rintro st ⟨e2,e3,e4,lB⟩
 refine ay (fun st=>st.env 2=.aj B 0∧st.env 4=.ref [aN ns cs]∧st.loc B=some (gD none)) ?_ ?_
 ·intro k hk
  simp -implicitDefEqProofs [e3]
  exact hk _ (by simp[e2,e4,lB])
 clear e2 e3 e4 lB
 rintro st ⟨e2,e4,lB⟩
 refine ay (fun st=>st.env 2=.aj B 0∧st.env 4=.ref [aN ns cs]∧st.loc B=some (gD none)∧∃F,F≠B∧st.env 7=.aj F 0∧st.loc F=some [.lit (.bool true)]) ?_ ?_
 ·intro k hk
  simp -implicitDefEqProofs
  intro F hF
  have hne:¬B=F:=by rintro rfl;rw[lB] at hF;cases hF
  exact hk _ ⟨by simp[e2],by simp[e4],by simp[hne,lB],F,Ne.symm hne,by simp,by simp⟩
 clear e2 e4 lB
 rintro st ⟨e2,e4,lB,F,ua,e7,lF⟩
 refine ay (fun st=>st.env 2=.aj B 0∧st.env 4=.ref [aN ns cs]∧st.loc B=some (gD none)∧st.env 7=.aj F 0∧st.loc F=some [.lit (.bool true)]) (fun k hk=>hk _ ⟨e2,e4,lB,e7,lF⟩) ?_
 clear e2 e4 lB e7 lF
 rintro st ⟨e2,e4,lB,e7,lF⟩
 refine ay (fun st=>st.env 2=.aj B 0∧st.loc B=some (gD (some f))) ?_ ?_
 ·intro k0 bM
  refine ay (fun st=>st.env 2=.aj B 0∧st.env 4=.ref [aN ns cs]∧st.loc B=some (gD none)∧st.env 7=.aj F 0∧st.loc F=some [.lit (.bool true)]∧st.env 22=.func (.func 78) [] [.ref [aN ns cs]]) ?_ ?_
  ·intro k hk
   simp -implicitDefEqProofs [e4]
   refine aL c2 ?_
   simp -implicitDefEqProofs
   exact hk _ (by simp[e2,e4,lB,e7,lF])
  clear e2 e4 lB e7 lF
  rintro st ⟨e2,e4,lB,e7,lF,cu⟩
  simp -implicitDefEqProofs [cu]
  have E2:=e2
  have E4:=e4
  have E7:=e7
  refine sV ((bG cs).map IL) (fun j st=>st.env 2=.aj B 0∧st.env 4=.ref [aN ns cs]∧st.loc B=some (gD (iu (bw ns) (aT ns) ((bG cs).take j)))∧st.env 7=.aj F 0∧st.loc F=some [.lit (.bool (decide (j=0)))]) ?_ ?_ ?_ ?_
  ·have:=tO h
   rw[List.map_map]
   exact this
  ·simp[e2,e4,lB,e7,lF,iu]
  ·rintro j m_ hj - ⟨e2,e4,lB,e7,lF⟩ g sz len cap ds hg hLO
   have hj:j<(bG cs).length:=by simpa using hj
   obtain⟨t,iw⟩:∃t,t=(bG cs)[j]:=⟨_,rfl⟩
   rw[show((bG cs).map IL).getD j .any=IL t by simp[hj,iw]] at hLO⊢
   obtain⟨rfl,rfl⟩:=tZ hLO
   have hlt:=t_ h (t:=t) (by rw[iw];exact List.getElem_mem _)
   have hbs:=KQ (bw ns) (aT ns) ((bG cs).take j) t
   rw[iw,←dW hj,←iw] at hbs
   have j5:¬B=g:=by rintro rfl;rw[lB] at hg;cases hg
   have om:¬F=g:=by rintro rfl;rw[lF] at hg;cases hg
   obtain⟨b,hbd⟩:∃b,b=iu (bw ns) (aT ns) ((bG cs).take j):=⟨_,rfl⟩
   rw[←hbd] at hbs lB
   simp -implicitDefEqProofs [putAt,e4]
   have Xo:(j=0∧b=none)∨(j≠0∧∃f0,b=some f0):=by
    cases j with
    |zero=>exact .inl ⟨rfl,by rw[hbd];rfl⟩
    |succ j=>
     refine .inr ⟨by omega,?_⟩
     rw[hbd,dW (by omega:j<(bG cs).length),KQ]
     exact Xm _ _ _ _
   refine adv hL (t:=t) ⟨g,cap,ds,rfl,by simp,hLO⟩ hlt.1 (fun x hx=>(hlt.2 x hx).2) fun s2 h2=> ?_
   have pS:s2.loc B=some (gD b):=h2.l B _ (by simp[j5,lB]) (Xn b)
   have lF2:s2.loc F=some [.lit (.bool (decide (j=0)))]:=h2.l F _ (by simp[om,lF]) (fun r _=>by simp)
   have cG:s2.loc g=some ds:=h2.old.l g ds (by simp) hLO.2.2.2.2.2
   clear lB lF
   obtain⟨fl,hfl⟩:∃fl,fl=jC (bw ns) (aT ns) t:=⟨_,rfl⟩
   simp -implicitDefEqProofs [←hfl]
   intro b9 pT
   have Cb:¬B=b9:=by rintro rfl;rw[pS] at pT;cases pT
   have Cc:¬F=b9:=by rintro rfl;rw[lF2] at pT;cases pT
   have pU:¬g=b9:=by rintro rfl;rw[cG] at pT;cases pT
   have KR:¬B=F:=fun e=>ua e.symm
   have hce:ds.map AV.erase0=ds:=hLO.2.2.2.2.2
   have tX:ds.all AV.bE=true:=hLO.2.2.2.2.1
   have jh:t.length≤ds.length:=by have:=hLO.2.1;omega
   have lS:ds.take t.length=t.map I:=by
    have h1:IL t=.slice 1 (chunk 1 ds t.length) 0:=hLO.1
    injection h1 with _ h1 _
    rw[tN _ _ jh (fun x hx=>by
     obtain⟨i,hi,rfl⟩:=List.getElem_of_mem hx
     have:=congrArg (fun l=>l[i]?) hce
     simpa[hi] using this)] at h1
    exact h1.symm
   have hsp:splice (List.replicate t.length (AV.lit (Value.int IntKind.i64 0))) 0 (t.map I)=t.map I:=by rw[uK _ _ _ (by simp)];simp
   have hch:chunk 1 (t.map I) t.length=t.map I:=by
    rw[BE _ _ (by simp) (fun x hx=>by rw[List.mem_map] at hx;obtain⟨m,_,rfl⟩:=hx;exact⟨m,rfl⟩)]
    exact List.take_of_length_le (by simp)
   rcases Xo with ⟨rfl,rfl⟩|⟨hj0,f0,rfl⟩
   ·have Cd:iu (bw ns) (aT ns) ((bG cs).take (0+1))=some {fl with leaves:=t}:=by rw[hbs,hfl];rfl
    simp -implicitDefEqProofs [e7,Cc,lF2,e2,Cb,pS,gD,ua,KR]
    refine⟨by omega,by omega,?_⟩
    intro D hD
    have pV:¬D=F:=by rintro rfl;simp at hD
    have kW:¬D=B:=by rintro rfl;simp[pV] at hD
    have uc:¬D=g:=by rintro rfl;simp[pV,kW,pU,cG] at hD
    simp -implicitDefEqProofs [kW,Ne.symm kW,Ne.symm uc,Ne.symm j5,Ne.symm om,pU,cG,hce,lS,hsp]
    refine⟨jh,fun x hx=>List.all_eq_true.1 tX x hx,?_⟩
    refine vG 0 D t.length t.length 1 rfl kW (aU:=t.map I) ?_ (by simp) (by simp[AV.bE]) (by omega) ?_
    ·simp
    have dc:iu (bw ns) (aT ns) ((bG cs).take 1)=some {fl with leaves:=t}:=Cd
    simp -implicitDefEqProofs [ak,Ne.symm kW,Ne.symm pV,Ne.symm uc,j5,om,Ne.symm j5,Ne.symm om,ua,pU,cG,E2,E4,E7,dc,hch]
   ·cases hle:decide (f0.all≤fl.all) with
    |true=>
     have hle':f0.all≤fl.all:=of_decide_eq_true hle
     have Cd:iu (bw ns) (aT ns) ((bG cs).take (j+1))=some f0:=by rw[hbs,hfl] at*;unfold rE;simp[hle']
     simp -implicitDefEqProofs [e7,Cc,lF2,e2,Cb,pS,gD,hj0,hle']
     simp[j5,om,pU,cG,E2,E4,E7,Cd]
    |false=>
     have hle':¬f0.all≤fl.all:=of_decide_eq_false hle
     have dc:iu (bw ns) (aT ns) ((bG cs).take (j+1))=some {fl with leaves:=t}:=by rw[hbs,hfl] at*;unfold rE;simp[hle']
     simp -implicitDefEqProofs [e7,Cc,lF2,e2,Cb,pS,gD,ua,KR,hj0,hle']
     refine⟨by omega,by omega,?_⟩
     intro D hD
     have pV:¬D=F:=by rintro rfl;simp at hD
     have kW:¬D=B:=by rintro rfl;simp[pV] at hD
     have uc:¬D=g:=by rintro rfl;simp[pV,kW,pU,cG] at hD
     simp -implicitDefEqProofs [kW,Ne.symm kW,Ne.symm uc,Ne.symm j5,Ne.symm om,pU,cG,hce,lS,hsp]
     refine⟨jh,fun x hx=>List.all_eq_true.1 tX x hx,?_⟩
     refine vG 0 D t.length t.length 1 rfl kW (aU:=t.map I) ?_ (by simp) (by simp[AV.bE]) (by omega) ?_
     ·simp
     simp -implicitDefEqProofs [ak,Ne.symm kW,Ne.symm pV,Ne.symm uc,j5,om,Ne.symm j5,Ne.symm om,ua,pU,cG,E2,E4,E7,dc,hch]
  ·rintro m_ - ⟨e2,e4,lB,e7,lF⟩
   refine bM _ ⟨e2,?_⟩
   rw[lB,List.take_of_length_le (by simp),hf]
 clear e2 e4 lB e7 lF
 rintro st ⟨e2,lB⟩
 simp -implicitDefEqProofs [e2,lB,gD,Jg]
end Go.Proofs.YtmcdlpegncaihaaGreat.C
namespace Go.Proofs.YtmcdlpegncaihaaGreat.C
open Go.Z4
def sN(bs:List Nat):St:=⟨fun _=>.any,fun c=>if c∈bs then some [] else none⟩
theorem Ce{bs:List Nat}{b:Nat}(h:b∉bs):eZ (sN bs) b:=fun cs h1 _=>by simp[sN,h] at h1
theorem KS{bs:List Nat}{b:Nat}(h:eZ (sN bs) b):b∉bs:=fun hb=>h [] (by simp[sN,hb]) rfl
def Xp(v w:AV):Prop:=∀b o n c z o' n' c' z',v=.aq b o n c z→w=.aq b o' n' c' z'→False
structure gd (s0:St) (loc:Nat→Option (List AV)) (v w:AV) (l1 l2:List AV):Prop where
 a:aah s0 loc v l1
 b:aah s0 loc w l2
 d:Xp v w
theorem gd.swap{s0:St}{loc:Nat→Option (List AV)}{v w:AV}{l1 l2:List AV}(h:gd s0 loc v w l1 l2):gd s0 loc w v l2 l1:=⟨h.b,h.a,fun b o n c z o' n' c' z' h1 h2=>h.d b o' n' c' z' o n c z h2 h1⟩
theorem gd.pR{s0:St}{loc loc':Nat→Option (List AV)}{v w:AV}{l1 l2:List AV}(h:gd s0 loc v w l1 l2)(hl:∀c cs,loc c=some cs→cs.map AV.erase0=cs→loc' c=some cs):gd s0 loc' v w l1 l2:=⟨h.a.pR hl,h.b.pR hl,h.d⟩
theorem gd.kS{s0:St}{loc loc':Nat→Option (List AV)}{v w:AV}{l1 l2:List AV}(h:gd s0 loc v w l1 l2)(hl:∀c cs,eZ s0 c→loc c=some cs→cs.map AV.erase0=cs→loc' c=some cs):gd s0 loc' v w l1 l2:=⟨h.a.kS hl,h.b.kS hl,h.d⟩
theorem Xq(s0:St)(loc:Nat→Option (List AV)):gd s0 loc (.lit (.slice none 0 0)) (.lit (.slice none 0 0)) [] []:=⟨.inl ⟨rfl,rfl⟩,.inl ⟨rfl,rfl⟩,fun _ _ _ _ _ _ _ _ _ h=>by cases h⟩
theorem KT{P:Program}{ms:List au}{K:St→Prop}{s0 s:St}{d bytes q:Nat}{v w y z:AV}{l l2:List AV}(h:gd s0 s.loc v w l l2)(hnew:∀b,s.loc b=none→eZ s0 b)(hl:l.length≤1000)(hy:One y)(hz:One z)(hb:bytes≤1000)
  (hK:∀b cs n cap,eZ s0 b→gd s0 (s.new b cs).loc (.aq b 0 n cap 1) w (l++[y]) l2→vcs P ms K ((s.new b cs).set d (.aq b 0 n cap 1))):
  iJ P ms K s d 1 bytes [z] v (.slice 1 [y] q):=by
 refine BQ h.a hnew hl hy hz hb fun b cs n cap hn ha hJ=>hK b cs n cap hn ⟨ha,?_,?_⟩
 ·rcases h.b with h2|⟨b7,xg,xh,h1,h2,h3,h4,h5⟩
  ·exact .inl h2
  ·refine .inr ⟨b7,xg,xh,h1,h2,?_,h4,h5⟩
   have hne:b7≠b:=by
    rintro rfl
    rcases hJ with hJ|⟨o,len,cp,sz,rfl⟩
    ·rw[hJ] at h3;cases h3
    ·exact h.d _ _ _ _ _ _ _ _ _ rfl h2
   rw[jm,if_neg hne]
   exact h3
 ·rintro b7 o n7 c z7 o' n' c' z' h1 h2
  cases h1
  rcases h.b with ⟨_,h3⟩|⟨b8,xg,xh,h1,h3,h4,h5,h6⟩
  ·rw[h2] at h3;cases h3
  ·rw[h2] at h3
   cases h3
   rcases hJ with hJ|⟨o,len,cp,sz,rfl⟩
   ·rw[hJ] at h4;cases h4
   ·exact h.d _ _ _ _ _ _ _ _ _ rfl h2
theorem Xr{P:Program}{ms:List au}{K:St→Prop}{s0 s:St}{k:Nat}{w:AV}{l l2:List AV}(h:gd s0 s.loc (s.env k) w l l2)(hl:l.length≤1000)(hK:∀loc',aah s0 loc' w l2→(∀c cs,s0.loc c=some cs→cs.map AV.erase0=cs→loc' c=s.loc c)→vcs P ms K ⟨ak s.env k (.slice 1 l 0),loc'⟩):mI P ms K s k (s.env k):=by
 rcases h.b with h2|⟨b7,xg,xh,h1,h2,h3,h4,h5⟩
 ·exact wV h.a hl fun loc' hl'=>hK loc' (.inl h2) hl'
 ·have ha:aah ⟨s0.env,fun c=>if c=b7 then some [] else s0.loc c⟩ s.loc (s.env k) l:=by
   rcases h.a with h6|⟨b6,Xs,Xt,g1,g2,g3,g4,g5⟩
   ·exact .inl h6
   ·refine .inr ⟨b6,Xs,Xt,g1,g2,g3,g4,?_⟩
    have hne:b6≠b7:=by rintro rfl;exact h.d _ _ _ _ _ _ _ _ _ g2 h2
    intro cs hc he
    simp[hne] at hc
    exact g5 cs hc he
  refine wV ha hl fun loc' hl'=>hK loc' (.inr ⟨b7,xg,xh,h1,h2,?_,h4,h5⟩) fun c cs hc he=> ?_
  ·rw[hl' b7 [] (by simp) rfl];exact h3
  ·by_cases KU:c=b7
   ·subst KU
    exact hl' c [] (by simp) rfl
   ·exact hl' c cs (by simp[KU,hc]) he
end Go.Proofs.YtmcdlpegncaihaaGreat.C
namespace Go.Proofs.YtmcdlpegncaihaaGreat.C
open Go.Z4
def ud(ns:List Nat)(cs:List (List Int))(f:FuncId)(ask:List Int→List Int):Prop:=∀(s:St) (v:AV) (t:List Int) (K:AV→St→Prop),dA s v t→t.length≤1000→(∀s2,Z3 R1 s s2→K (.slice 1 ((ask t).map I) 5) (back s s2))→d_ Tryz.prog f [aN ns cs,v] s K
theorem Xu{ns:List Nat}{cs:List (List Int)}{f:FuncId}{ask:List Int→List Int}(ha:ud ns cs f ask){s:St}{v:AV}{t:List Int}{K:AV→St→Prop}(hv:dA s v t)(ht:t.length≤1000)(hK:∀s2,Z3 R1 s s2→K (.slice 1 ((ask t).map I) 5) (back s s2)):d_ Tryz.prog 82 [v,.ref [.func (.func f) [] []],.ref [aN ns cs]] s K:=by
 refine ic t82 (by simp) fun _=> ?_
 have ho:Z3 R1 s ⟨fun k=>if 1000000≤k then s.env k else cO [v,.ref [.func (.func f) [] []],.ref [aN ns cs]] k,s.loc⟩:=⟨fun _ _ h _=>h,fun _ _ _ h=>by simpa using h⟩
 simp -implicitDefEqProofs [JH,hv.erase,hv.aB]
 refine ha _ v t _ ?_ ht fun s2 h2=> ?_
 ·refine hv.old (Z3.old (R:=R1) ?_)
  repeat (first|exact ho|refine Z3.set ?_ _ _ (by decide)|refine Z3.aB ?_ (by decide))
 simp -implicitDefEqProofs [eN,JI]
 refine hK _ ?_
 repeat (first|refine Z3.set ?_ _ _ (by decide)|refine Z3.aB ?_ (by decide))
 refine Z3.back ?_ h2
 repeat (first|exact ho|refine Z3.set ?_ _ _ (by decide)|refine Z3.aB ?_ (by decide))
def fu(ls:List (List Int))(n:Nat):Int:=((ls.flatMap id).count (n:Int):Nat)
theorem Xv(ls:List (List Int))(a:List Int)(n:Nat):fu (ls++[a]) n=fu ls n+(a.count (n:Int):Nat):=by
 unfold fu
 rw[List.flatMap_append,List.count_append]
 simp
theorem KV{ls:List (List Int)}(h:∀l∈ls,l.length≤120)(n:Nat):0≤fu ls n∧fu ls n≤120*ls.length:=by
 have:(ls.flatMap id).length≤120*ls.length:=by
  induction ls with
  |nil=>simp
  |cons a ls ih=>
   have h1:=h a (by simp)
   have h2:=ih fun l hl=>h l (by simp[hl])
   simp at h2⊢;omega
 have h2:(ls.flatMap id).count (n:Int)≤(ls.flatMap id).length:=List.count_le_length
 unfold fu
 omega
def ue(L:Nat)(ls:List (List Int)):List Int:=aS (fun n=>fu ls n==(ls.length:Int)) L
def xj(L:Nat)(ls:List (List Int)):List Int:=aS (fun n=>decide (0<fu ls n)) L
theorem Xw{ns:List Nat}{cs:List (List Int)}(h:eP ns cs){f:FuncId}{ask:List Int→List Int}(ha:ud ns cs f ask)(hr:∀t,∀x∈ask t,0≤x∧x<(aT ns).length)(hl:∀t,(ask t).length≤120)(htl:(bG cs).length≤100000):aG Tryz.prog 81 [.func (.func 78) [] [.ref [aN ns cs]],.func (.func 82) [] [.ref [.func (.func f) [] []],.ref [aN ns cs]],I (aT ns).length] (.tuple [IL (ue (aT ns).length ((bG cs).map ask)),IL (xj (aT ns).length ((bG cs).map ask))]):=by
 refine pc t81 (by simp) fun _=> ?_
 have hL:=h.toOKb.leaves
 obtain⟨L,iT⟩:∃L,L=(aT ns).length:=⟨_,rfl⟩
 rw[←iT] at hL hr
 simp -implicitDefEqProofs only[JF]
 obtain⟨qa,uf⟩:∃qa:AV,qa=.func (.func 82) [] [.ref [.func (.func f) [] []],.ref [aN ns cs]]:=⟨_,rfl⟩
 refine ay (fun st=>st.env 0=.func (.func 78) [] [.ref [aN ns cs]]∧st.env 2=I L∧st.env 4=.ref [qa]∧st.env 6=.lit (.slice none 0 0)∧st.env 7=.lit (.slice none 0 0)∧st.loc=fun _=>none) ?_ ?_
 ·intro k hk
  simp -implicitDefEqProofs
  exact hk _ (by simp[iT,uf])
 rintro st ⟨e0,e2,e4,e6,e7,el⟩
 refine ay (fun st=>st.env 0=.func (.func 78) [] [.ref [aN ns cs]]∧st.env 4=.ref [qa]∧st.env 6=.lit (.slice none 0 0)∧st.env 7=.lit (.slice none 0 0)∧∃A B D,A≠B∧A≠D∧B≠D∧st.env 8=.aj A 0∧st.env 9=.aj B 0∧st.loc A=some [.aq D 0 L L 1]∧st.loc B=some [I 0]∧st.loc D=some (cl L (fu []))) ?_ ?_
 ·intro k hk
  simp -implicitDefEqProofs [e2]
  refine⟨by omega,by omega,?_⟩
  intro D hD A hA B hB
  have h1:¬B=A:=by rintro rfl;simp at hB
  have h2:¬A=D:=by rintro rfl;simp at hA
  have h3:¬B=D:=by rintro rfl;simp[h1] at hB
  have hz:List.replicate L (AV.lit (Value.int IntKind.i64 0))=cl L (fu []):=BT L
  simp -implicitDefEqProofs [h1,Ne.symm h1]
  exact hk _ ⟨by simp[e0],by simp[e4],by simp[e6],by simp[e7],A,B,D,Ne.symm h1,h2,h3,by simp,by simp,by simp[Ne.symm h1],by simp,by simp[Ne.symm h2,Ne.symm h3,hz]⟩
 clear e0 e2 e4 e6 e7 el
 rintro st ⟨e0,e4,e6,e7,A,B,D,Xx,Xy,KW,e8,e9,lA,lB,lD⟩
 obtain⟨ts,hts⟩:∃ts,ts=bG cs:=⟨_,rfl⟩
 have hseq:=tO h
 rw[←hts] at hseq htl⊢
 refine ay (fun st=>st.env 6=.lit (.slice none 0 0)∧st.env 7=.lit (.slice none 0 0)∧st.env 8=.aj A 0∧st.env 9=.aj B 0∧st.loc A=some [.aq D 0 L L 1]∧st.loc B=some [I ts.length]∧st.loc D=some (cl L (fu (ts.map ask)))) ?_ ?_
 ·intro k0 bM
  refine ay (fun st=>st.env 17=.func (.func 78) [] [.ref [aN ns cs]]∧st.env 4=.ref [qa]∧st.env 6=.lit (.slice none 0 0)∧st.env 7=.lit (.slice none 0 0)∧st.env 8=.aj A 0∧st.env 9=.aj B 0∧st.loc A=some [.aq D 0 L L 1]∧st.loc B=some [I 0]∧st.loc D=some (cl L (fu []))) ?_ ?_
  ·intro k hk
   simp -implicitDefEqProofs [e0]
   exact hk _ (by simp[e4,e6,e7,e8,e9,lA,lB,lD])
  clear e0 e4 e6 e7 e8 e9 lA lB lD
  rintro st ⟨aY,e4,e6,e7,e8,e9,lA,lB,lD⟩
  simp -implicitDefEqProofs [aY]
  have E4:=e4
  have E6:=e6
  have E7:=e7
  have E8:=e8
  have E9:=e9
  refine sV (ts.map IL) (fun j st=>st.env 4=.ref [qa]∧st.env 6=.lit (.slice none 0 0)∧st.env 7=.lit (.slice none 0 0)∧st.env 8=.aj A 0∧st.env 9=.aj B 0∧st.loc A=some [.aq D 0 L L 1]∧st.loc B=some [I j]∧st.loc D=some (cl L (fu ((ts.take j).map ask)))) ?_ ?_ ?_ ?_
  ·rw[List.map_map]
   exact hseq
  ·simp[e4,e6,e7,e8,e9,lA,lB,lD,uf]
  ·rintro j m_ hj - ⟨e4,e6,e7,e8,e9,lA,lB,lD⟩ g sz len cap ds hg hLO
   have hj:j<ts.length:=by simpa using hj
   obtain⟨t,iw⟩:∃t,t=ts[j]:=⟨_,rfl⟩
   rw[show(ts.map IL).getD j .any=IL t by simp[hj,iw]] at hLO⊢
   obtain⟨rfl,rfl⟩:=tZ hLO
   have hlt:=t_ h (t:=t) (by rw[iw,←hts];exact List.getElem_mem _)
   have lS:=dW hj
   rw[←iw] at lS
   have oU:¬A=g:=by rintro rfl;rw[lA] at hg;cases hg
   have j5:¬B=g:=by rintro rfl;rw[lB] at hg;cases hg
   have ng:¬D=g:=by rintro rfl;rw[lD] at hg;cases hg
   simp -implicitDefEqProofs [putAt,e9,lB,j5]
   refine⟨i64 (by omega) (by omega),?_⟩
   simp -implicitDefEqProofs [e4,uf]
   refine Xu ha (t:=t) ⟨g,cap,ds,rfl,by simp[Ne.symm j5],hLO⟩ (by omega) fun s2 h2=> ?_
   have KX:s2.loc A=some [.aq D 0 L L 1]:=h2.l A _ (by simp[Xx,oU,lA]) (fun r _=>by simp)
   have pS:s2.loc B=some [I ((j:Int)+1)]:=h2.l B _ (by simp) (fun r _=>by simp)
   have KY:s2.loc D=some (cl L (fu ((ts.take j).map ask))):=h2.l D _ (by simp[Ne.symm KW,ng,lD]) (fun r _=>wP _ _ _)
   have cG:s2.loc g=some ds:=h2.old.l g ds (by simp[Ne.symm j5]) hLO.2.2.2.2.2
   clear lA lB lD h2
   simp -implicitDefEqProofs
   refine bP (ask t).length (fun i iY=>iY.env 4=.ref [qa]∧iY.env 6=.lit (.slice none 0 0)∧iY.env 7=.lit (.slice none 0 0)∧iY.env 8=.aj A 0∧iY.env 9=.aj B 0∧iY.env 23=.slice 1 ((ask t).map I) 5∧iY.env 24=I (ask t).length∧iY.env 25=I i∧iY.loc A=some [.aq D 0 L L 1]∧iY.loc B=some [I ((j:Int)+1)]∧iY.loc g=some ds∧iY.loc D=some (cl L fun n=>fu ((ts.take j).map ask) n+(((ask t).take i).count (n:Int):Nat))) ?_ ?_
   ·refine⟨by simp[e4,uf],by simp[e6],by simp[e7],by simp[e8],by simp[e9],by simp,by simp,by simp,by simp[KX],by simp[pS],by simp[cG],?_⟩
    simp[KY]
   clear e4 e6 e7 e8 e9 KX pS KY cG
   rintro i iY hi ⟨e4,e6,e7,e8,e9,dw,oe,bL,lA,lB,lg,lD⟩
   simp -implicitDefEqProofs [oe,bL]
   refine bY (fun cq=> ?_) (fun hge=> ?_)
   ·obtain⟨n,hn⟩:∃n:Nat,(ask t)[i]=n:=⟨(ask t)[i].toNat,by have:=hr t _ (List.getElem_mem cq);omega⟩
    have tV:n<L:=by have:=(hr t _ (List.getElem_mem cq)).2;rw[hn] at this;omega
    have ac6:(n:Int)<L:=by omega
    simp -implicitDefEqProofs [dw,bL,cq,hn,e8,lA,tV,ac6,lD,jx,lP,tK]
    have dc:=KV (ls:=(ts.take j).map ask) (fun l gu=>by obtain⟨u,_,rfl⟩:=List.mem_map.1 gu;exact hl u) n
    have cF:((ask t).take i).count (n:Int)≤i:=Nat.le_trans List.count_le_length (by simp;omega)
    simp only[List.length_map,List.length_take] at dc
    have hcs:∀m:Nat,((ask t).take (i+1)).count (m:Int)=((ask t).take i).count (m:Int)+if m=n then 1 else 0:=fun m=>by
     rw[dW cq,List.count_append,hn,List.count_singleton]
     by_cases h:m=n
     ·subst h;simp
     ·have:((n:Int)==(m:Int))=false:=by rw[ace];simp;exact fun e=>h e.symm
      simp[h,this]
    have hla:=hl t
    rw[List.map_take] at dc
    refine⟨i64 (by omega) (by omega),by omega,i64 (by omega) (by omega),bz cq ⟨by simp[e4],by simp[e6],by simp[e7],by simp[e8],by simp[e9],by simp[dw],by simp[oe],by simp,by simp[Xy,lA],by simp[KW,lB],by simp[Ne.symm ng,lg],?_⟩⟩
    simp
    refine tL fun m _=> ?_
    rw[hcs m]
    by_cases h:m=n
    ·subst h;simp;omega
    ·simp[h]
   ·obtain rfl:i=(ask t).length:=by omega
    have ZN:(List.take (j+1) (List.map ask ts))=List.take j (List.map ask ts)++[ask t]:=by rw[←List.map_take,lS,List.map_append,List.map_take];rfl
    have hF:cl L (fun n=>fu ((ts.take j).map ask) n+(((ask t).take (ask t).length).count (n:Int):Nat))=cl L (fu ((ts.take (j+1)).map ask)):=tL fun m _=>by
     rw[lS,List.map_append,List.take_length]
     exact(Xv _ _ _).symm
    rw[hF] at lD
    simp -implicitDefEqProofs [lg,E4,E6,E7,E8,E9,oU,ng,lA,lB,lD]
    exact uf
  ·rintro m_ - ⟨e4,e6,e7,e8,e9,lA,lB,lD⟩
   refine bM _ ⟨e6,e7,e8,e9,lA,by simpa using lB,?_⟩
   rw[lD,List.take_of_length_le (by simp)]
 clear e0 e4 e6 e7 e8 e9 lA lB lD
 rintro st ⟨e6,e7,e8,e9,lA,lB,lD⟩
 obtain⟨T,hT⟩:∃T,T=fu (ts.map ask):=⟨_,rfl⟩
 have Xz:∀n,0≤T n∧T n≤120*100000:=fun n=>by
  have:=KV (ls:=ts.map ask) (fun l gu=>by obtain⟨u,_,rfl⟩:=List.mem_map.1 gu;exact hl u) n
  rw[List.length_map,←hT] at this
  omega
 obtain⟨sq,Cf⟩:∃sq:Nat→Bool,sq=fun n=>T n==(ts.length:Int):=⟨_,rfl⟩
 obtain⟨mq,Cg⟩:∃mq:Nat→Bool,mq=fun n=>decide (0<T n):=⟨_,rfl⟩
 have hs:ue L (ts.map ask)=aS sq L:=by rw[Cf,hT];simp[ue]
 have hm:xj L (ts.map ask)=aS mq L:=by rw[Cg,hT];rfl
 have hls:(aS sq L).length≤L:=aaB _ _
 have hlm:(aS mq L).length≤L:=aaB _ _
 rw[←iT,hs,hm]
 rw[←hT] at lD
 refine ay (fun st=>∃v w,st.env 6=v∧st.env 7=w∧gd (sN [B,D]) st.loc v w ((aS sq L).map I) ((aS mq L).map I)) ?_ ?_
 ·intro k0 bM
  simp -implicitDefEqProofs only[cK]
  simp -implicitDefEqProofs [e8,lA]
  refine bP L (fun i st=>∃v w,st.env 6=v∧st.env 7=w∧st.env 9=.aj B 0∧st.env 36=.aq D 0 L L 1∧st.env 37=I L∧st.env 38=I i∧st.loc B=some [I ts.length]∧st.loc D=some (cl L T)∧gd (sN [B,D]) st.loc v w ((aS sq i).map I) ((aS mq i).map I)) ?_ ?_
  ·exact⟨.lit (.slice none 0 0),.lit (.slice none 0 0),by simp[e6],by simp[e7],by simp[e9],by simp,by simp,by simp,by simp[lB],by simp[lD],Xq _ _⟩
  clear e6 e7 e8 e9 lA lB lD st
  rintro i st hi ⟨v,w,e6,e7,e9,gV,cT,cM,lB,lD,h2⟩
  simp -implicitDefEqProofs [cT,cM]
  refine bY (fun hlt=> ?_) (fun hge=> ?_)
  ·refine fP ?_
   refine ay (fun st=>∃v w,st.env 6=v∧st.env 7=w∧st.env 9=.aj B 0∧st.env 13=I i∧st.env 14=I (T i)∧st.env 36=.aq D 0 L L 1∧st.env 37=I L∧st.env 38=I i∧st.loc B=some [I ts.length]∧st.loc D=some (cl L T)∧gd (sN [B,D]) st.loc v w ((aS sq i).map I) ((aS mq i).map I)) ?_ ?_
   ·intro k hk
    simp -implicitDefEqProofs [gV,cM,lD,jx,lP,hlt]
    exact hk _ ⟨v,w,by simp[e6],by simp[e7],by simp[e9],by simp,by simp,by simp[gV],by simp[cT],by simp[cM],by simp[lB],by simp[lD],by simpa using h2⟩
   clear e6 e7 e9 gV cT cM lB lD h2 v w
   rintro st ⟨v,w,e6,e7,e9,eF,Z_,gV,cT,cM,lB,lD,h2⟩
   have ZO:=Xz i
   refine ay (fun st=>∃v w,st.env 6=v∧st.env 7=w∧st.env 9=.aj B 0∧st.env 13=I i∧st.env 14=I (T i)∧st.env 36=.aq D 0 L L 1∧st.env 37=I L∧st.env 38=I i∧st.loc B=some [I ts.length]∧st.loc D=some (cl L T)∧gd (sN [B,D]) st.loc v w ((aS sq (i+1)).map I) ((aS mq i).map I)) ?_ ?_
   ·intro k hk
    simp -implicitDefEqProofs [-iJ,-kG,Z_,e9,lB]
    refine bY (fun hq=> ?_) (fun hq=> ?_)
    ·have tI:=aaB sq i
     simp -implicitDefEqProofs [-iJ,-kG,e6,eF,h2.a.aB]
     refine KT (s0:=sN [B,D]) (h2.pR fun c cs h3 h4=>by simp[h3,jy h4]) (fun b' hb'=>Ce (by rintro hb;simp at hb;rcases hb with rfl|rfl<;>simp[lB,lD] at hb')) (by simp;omega) ⟨rfl,rfl,rfl⟩ ⟨rfl,rfl,rfl⟩ (by decide) fun b5 rq n5 kU hnb h5=> ?_
     have gY:=KS hnb
     simp at gY
     simp -implicitDefEqProofs
     refine hk _ ⟨.aq b5 0 n5 kU 1,w,by simp,by simp[e7,h2.b.aB],by simp[e9],by simp[eF],by simp[Z_],by simp[gV],by simp[cT],by simp[cM],by simp[lB,Ne.symm gY.1],by simp[lD,Ne.symm gY.2,wP],?_⟩
     rw[kP (by rw[Cf];simpa using hq),List.map_append]
     refine h5.kS fun c cs' hn h3 h4=> ?_
     simpa using h3
    ·exact hk _ ⟨v,w,by simp[e6],by simp[e7],by simp[e9],by simp[eF],by simp[Z_],by simp[gV],by simp[cT],by simp[cM],by simp[lB],by simp[lD],by rw[j0 (by rw[Cf];simpa using hq)];simpa using h2⟩
   clear e6 e7 e9 eF Z_ gV cT cM lB lD h2 v w
   rintro st ⟨v,w,e6,e7,e9,eF,Z_,gV,cT,cM,lB,lD,h2⟩
   refine q6 (fun st=>∃v w,st.env 6=v∧st.env 7=w∧st.env 9=.aj B 0∧st.env 36=.aq D 0 L L 1∧st.env 37=I L∧st.env 38=I i∧st.loc B=some [I ts.length]∧st.loc D=some (cl L T)∧gd (sN [B,D]) st.loc v w ((aS sq (i+1)).map I) ((aS mq (i+1)).map I)) ?_ ?_
   ·intro k hk
    simp -implicitDefEqProofs [-iJ,-kG,Z_]
    refine bY (fun hq=> ?_) (fun hq=> ?_)
    ·have tI:=aaB mq i
     simp -implicitDefEqProofs [-iJ,-kG,e7,eF,h2.b.aB]
     refine KT (s0:=sN [B,D]) (h2.swap.pR fun c cs h3 h4=>by simp[h3,jy h4]) (fun b' hb'=>Ce (by rintro hb;simp at hb;rcases hb with rfl|rfl<;>simp[lB,lD] at hb')) (by simp;omega) ⟨rfl,rfl,rfl⟩ ⟨rfl,rfl,rfl⟩ (by decide) fun b5 rq n5 kU hnb h5=> ?_
     have gY:=KS hnb
     simp at gY
     simp -implicitDefEqProofs
     refine hk _ ⟨v,.aq b5 0 n5 kU 1,by simp[e6,h2.a.aB],by simp,by simp[e9],by simp[gV],by simp[cT],by simp[cM],by simp[lB,Ne.symm gY.1],by simp[lD,Ne.symm gY.2,wP],?_⟩
     rw[kP (q:=mq) (by rw[Cg];simpa using hq),List.map_append (l₁:=aS mq i)]
     refine h5.swap.kS fun c cs' hn h3 h4=> ?_
     simpa using h3
    ·exact hk _ ⟨v,w,by simp[e6],by simp[e7],by simp[e9],by simp[gV],by simp[cT],by simp[cM],by simp[lB],by simp[lD],by rw[j0 (q:=mq) (by rw[Cg];simpa using hq)];simpa using h2⟩
   clear e6 e7 e9 eF Z_ gV cT cM lB lD h2 v w
   rintro st ⟨v,w,e6,e7,e9,gV,cT,cM,lB,lD,h2⟩
   simp -implicitDefEqProofs [cM]
   exact⟨i64 (by omega) (by omega),bz hlt ⟨by simp[e9],by simp[gV],by simp[cT],by simp,by simp[lB],by simp[lD],by simpa[e6,e7] using h2⟩⟩
  ·obtain rfl:i=L:=by omega
   simp -implicitDefEqProofs
   exact bM _ ⟨v,w,by simp[e6],by simp[e7],by simpa using h2⟩
 clear e6 e7 e8 e9 lA lB lD
 rintro st ⟨v,w,e6,e7,h2⟩
 simp -implicitDefEqProofs only[cK]
 simp -implicitDefEqProofs [-mI,-nS,e6,e7,h2.a.ag,h2.b.ag]
 refine Xr (s0:=sN [B,D]) (w:=w) (by simpa using h2) (by simp;omega) fun loc' hb' _=> ?_
 simp -implicitDefEqProofs [-mI,-nS]
 refine wV (s0:=sN [B,D]) (by simpa[ak] using hb') (by simp;omega) fun XA _=> ?_
 simp -implicitDefEqProofs [ak,JG,IL]
end Go.Proofs.YtmcdlpegncaihaaGreat.C
namespace Go.Proofs.YtmcdlpegncaihaaGreat.C
open Go.Z4
abbrev nh(ns:List Nat)(cs:List (List Int))(ask:List Int→List Int):List Int:=ue (aT ns).length ((bG cs).map ask)
abbrev ni(ns:List Nat)(cs:List (List Int))(ask:List Int→List Int):List Int:=xj (aT ns).length ((bG cs).map ask)
theorem KZ{ns:List Nat}{cs:List (List Int)}(h:eP ns cs){f:FuncId}{ask:List Int→List Int}(ha:ud ns cs f ask)(hr:∀t,∀x∈ask t,0≤x∧x<(aT ns).length)(hl:∀t,(ask t).length≤120)(htl:(bG cs).length≤100000):aG Tryz.prog 47 [.agg (bO ns cs),.func (.func f) [] []] (.tuple [IL (nh ns cs ask),IL (ni ns cs ask),I 0]):=by
 refine pc t47 (by simp) fun _=> ?_
 have c1:=rm h
 have c2:=tP (xC ns cs)
 have c3:=Xw h ha hr hl htl
 have hL:=h.toOKb.leaves
 simp -implicitDefEqProofs only[Jr]
 refine ay (fun st=>st.env 2=.ref (bO ns cs)∧st.env 3=.ref [.func (.func f) [] []]) ?_ ?_
 ·intro k hk
  simp -implicitDefEqProofs
  exact hk _ (by simp)
 rintro st ⟨e2,e3⟩
 refine ay (fun st=>st.env 3=.ref [.func (.func f) [] []]∧st.env 6=I 0∧st.env 7=.ref [aN ns cs]) ?_ ?_
 ·intro k hk
  simp -implicitDefEqProofs [e2]
  refine aL c1 ?_
  simp -implicitDefEqProofs
  intro b4 Ca
  exact hk _ (by simp[e3])
 clear e2 e3
 rintro st ⟨e3,e6,e7⟩
 refine ay (fun st=>st.env 3=.ref [.func (.func f) [] []]∧st.env 7=.ref [aN ns cs]) ?_ ?_
 ·intro k hk
  simp -implicitDefEqProofs [e6]
  exact hk _ (by simp[e3,e7])
 clear e6
 rintro st ⟨e3,e7⟩
 simp -implicitDefEqProofs [e7]
 refine aL c2 ?_
 simp -implicitDefEqProofs [e3,e7]
 refine aL c3 ?_
 simp -implicitDefEqProofs [Js,IL]
theorem XB(ns:List Nat)(cs:List (List Int))(hL:(aT ns).length≤120):ud ns cs 48 (ga (bw ns)):=fun _ _ _ _ hv ht hK=>WY hL hv ht hK
theorem XC(ns:List Nat)(cs:List (List Int))(hL:(aT ns).length≤120):ud ns cs 50 (dX (aT ns).length):=fun _ _ _ _ hv ht hK=>Kz hL hv ht hK
theorem Ch{q:Nat→Bool}{n m:Nat}(h:n=m):∀x∈aS q n,0≤x∧x<m:=fun x hx=>by
 obtain⟨j,rfl,hj,_⟩:=wM hx
 omega
theorem Ci{ns:List Nat}{cs:List (List Int)}(h:eP ns cs)(htl:(bG cs).length≤100000):aG Tryz.prog 12 [.agg (bO ns cs)] (.tuple [IL (nh ns cs (ga (bw ns))),IL (ni ns cs (ga (bw ns))),I 0]):=by
 refine pc t12 (by simp) fun _=> ?_
 have hL:=h.toOKb.leaves
 have hml:(bw ns).length=(aT ns).length:=by simp[bw]
 have c:=KZ h (XB ns cs hL) (fun t=>Ch hml) (fun t=>Nat.le_trans (aaB _ _) (by omega)) htl
 simp -implicitDefEqProofs [Jh]
 refine aL c ?_
 simp -implicitDefEqProofs [Ji,IL]
theorem K0{ns:List Nat}{cs:List (List Int)}(h:eP ns cs)(htl:(bG cs).length≤100000):aG Tryz.prog 16 [.agg (bO ns cs)] (.tuple [IL (nh ns cs (dX (aT ns).length)),IL (ni ns cs (dX (aT ns).length)),I 0]):=by
 refine pc t16 (by simp) fun _=> ?_
 have hL:=h.toOKb.leaves
 have c:=KZ h (XC ns cs hL) (fun t=>Ch rfl) (fun t=>Nat.le_trans (aaB _ _) (by omega)) htl
 simp -implicitDefEqProofs [Jj]
 refine aL c ?_
 simp -implicitDefEqProofs [Jk,IL]
end Go.Proofs.YtmcdlpegncaihaaGreat.C
