/- Contracts of layer 4 (copy): wide, Range. Contracts of layer 4 (copy): Contains, the order of the leaves, insertion sort. Contracts of layer 4 (copy): Bound. Contracts of layer 4 (copy): Ask. Contracts of layer 4 (copy): doubtful items. Items as they are made (law04.Items). -/
import Derived.Test.YtmcdlpegncaihaaGreatZM
namespace Go.Proofs.YtmcdlpegncaihaaGreat.C
open Go.Z4
def Cj(ms:List Int)(lv:List (Nat×Nat))(w:Int×Int)(t:List Int):Int×Int:=(if (jC ms lv t).all<w.1 then (jC ms lv t).all else w.1,if w.2<(jC ms lv t).all then (jC ms lv t).all else w.2)
def nj(ms:List Int)(lv:List (Nat×Nat))(g:Nat)(ts:List (List Int)):Int×Int:=ts.foldl (Cj ms lv) ((lv.length:Int)+2*(g:Int),0)
theorem XD(ms:List Int)(lv:List (Nat×Nat))(g:Nat)(ts:List (List Int))(t:List Int):nj ms lv g (ts++[t])=Cj ms lv (nj ms lv g ts) t:=by simp[nj,List.foldl_append]
abbrev aaO(ns:List Nat)(cs:List (List Int)):Int×Int:=nj (bw ns) (aT ns) cs.length (bG cs)
theorem K1{ns:List Nat}{cs:List (List Int)}(h:eP ns cs):aG Tryz.prog 62 [aN ns cs] (.agg [I (aaO ns cs).1,I (aaO ns cs).2]):=by
 refine pc t62 (by simp) fun _=> ?_
 have c2:=tP (xC ns cs)
 have hL:=h.toOKb.leaves
 have hi:=h.items
 simp -implicitDefEqProofs only[Jx]
 refine ay (fun st=>st.env 1=.ref [aN ns cs]∧∃M,st.env 2=.aj M 0∧st.loc M=some [I 0,I 0]) ?_ ?_
 ·intro k hk
  simp -implicitDefEqProofs
  intro M
  exact hk _ ⟨by simp,M,by simp,by simp⟩
 rintro st ⟨e1,M,e2,lM⟩
 refine ay (fun st=>st.env 1=.ref [aN ns cs]∧st.env 2=.aj M 0∧st.loc M=some [I ((aT ns).length+2*cs.length:Int),I 0]) ?_ ?_
 ·intro k hk
  simp -implicitDefEqProofs [e1,e2,lM]
  refine⟨i64 (by omega) (by omega),i64 (by omega) (by omega),?_⟩
  exact hk _ (by simp[e1,e2])
 clear e1 e2 lM
 rintro st ⟨e1,e2,lM⟩
 refine ay (fun st=>st.env 2=.aj M 0∧st.loc M=some [I (aaO ns cs).1,I (aaO ns cs).2]) ?_ ?_
 ·intro k0 bM
  refine ay (fun st=>st.env 1=.ref [aN ns cs]∧st.env 2=.aj M 0∧st.loc M=some [I ((aT ns).length+2*cs.length:Int),I 0]∧st.env 20=.func (.func 78) [] [.ref [aN ns cs]]) ?_ ?_
  ·intro k hk
   simp -implicitDefEqProofs [e1]
   refine aL c2 ?_
   simp -implicitDefEqProofs
   exact hk _ (by simp[e1,e2,lM])
  clear e1 e2 lM
  rintro st ⟨e1,e2,lM,dh⟩
  simp -implicitDefEqProofs [dh]
  have E1:=e1
  have E2:=e2
  refine sV ((bG cs).map IL) (fun j st=>st.env 1=.ref [aN ns cs]∧st.env 2=.aj M 0∧st.loc M=some [I (nj (bw ns) (aT ns) cs.length ((bG cs).take j)).1,I (nj (bw ns) (aT ns) cs.length ((bG cs).take j)).2]) ?_ ?_ ?_ ?_
  ·have:=tO h
   rw[List.map_map]
   exact this
  ·simp[e1,e2,lM,nj]
  ·rintro j m_ hj - ⟨e1,e2,lM⟩ g sz len cap ds hg hLO
   have hj:j<(bG cs).length:=by simpa using hj
   obtain⟨t,iw⟩:∃t,t=(bG cs)[j]:=⟨_,rfl⟩
   rw[show((bG cs).map IL).getD j .any=IL t by simp[hj,iw]] at hLO⊢
   obtain⟨rfl,rfl⟩:=tZ hLO
   have hlt:=t_ h (t:=t) (by rw[iw];exact List.getElem_mem _)
   have hbs:=XD (bw ns) (aT ns) cs.length ((bG cs).take j) t
   rw[iw,←dW hj,←iw] at hbs
   have Ck:¬M=g:=by rintro rfl;rw[lM] at hg;cases hg
   obtain⟨w,hw⟩:∃w,w=nj (bw ns) (aT ns) cs.length ((bG cs).take j):=⟨_,rfl⟩
   rw[←hw] at hbs lM
   simp -implicitDefEqProofs [putAt,e1]
   refine adv hL (t:=t) ⟨g,cap,ds,rfl,by simp,hLO⟩ hlt.1 (fun x hx=>(hlt.2 x hx).2) fun s2 h2=> ?_
   have Cl:s2.loc M=some [I w.1,I w.2]:=h2.l M _ (by simp[Ck,lM]) (fun r _=>by simp)
   have cG:s2.loc g=some ds:=h2.old.l g ds (by simp) hLO.2.2.2.2.2
   clear lM
   obtain⟨fl,hfl⟩:∃fl,fl=jC (bw ns) (aT ns) t:=⟨_,rfl⟩
   have XE:nj (bw ns) (aT ns) cs.length ((bG cs).take (j+1))=(if fl.all<w.1 then fl.all else w.1,if w.2<fl.all then fl.all else w.2):=by rw[hbs,Cj,hfl]
   simp -implicitDefEqProofs [←hfl,fC,e2,Cl,cG,Ck,E1,E2,XE]
   exact fun e=>absurd e.symm Ck
  ·rintro m_ - ⟨e1,e2,lM⟩
   refine bM _ ⟨e2,?_⟩
   rw[lM,List.take_of_length_le (by simp)]
 clear e1 e2 lM
 rintro st ⟨e2,lM⟩
 simp -implicitDefEqProofs [e2,lM,Jy]
theorem XF{ns:List Nat}{cs:List (List Int)}(h:eP ns cs):aG Tryz.prog 34 [.agg (bO ns cs)] (.tuple [.agg [I (aaO ns cs).1,I (aaO ns cs).2],I 0]):=by
 refine pc t34 (by simp) fun _=> ?_
 have c1:=rm h
 have c2:=K1 h
 simp -implicitDefEqProofs [JN]
 intro b
 refine aL c1 ?_
 simp -implicitDefEqProofs
 refine aL c2 ?_
 simp -implicitDefEqProofs [JO]
end Go.Proofs.YtmcdlpegncaihaaGreat.C
namespace Go.Proofs.YtmcdlpegncaihaaGreat.C
open Go.Z4
theorem XG(l:List Int)(x:Int):aG Tryz.prog 95 [IL l,I x] (I (firstAt (fun y=>x==y) l)):=by
 refine pc t95 (by simp) fun hfit=> ?_
 have hl:=aaJ (hfit 0)
 simp only[List.length_map] at hl
 simp -implicitDefEqProofs only[J8]
 refine ay (fun st=>st.env 0=IL l∧st.env 1=I x) ?_ ?_
 ·intro k hk
  simp -implicitDefEqProofs
  exact hk _ (by simp)
 rintro st ⟨e0,e1⟩
 simp -implicitDefEqProofs only[cK]
 simp -implicitDefEqProofs [e0]
 refine bP l.length (fun k st=>st.env 0=IL l∧st.env 1=I x∧st.env 7=I l.length∧st.env 8=I k∧∀y∈l.take k,(x==y)=false) ?_ ?_
 ·simp[e0,e1]
 clear e0 e1 st
 rintro k st hk ⟨e0,e1,e7,e8,hno⟩
 simp -implicitDefEqProofs [e7,e8]
 refine bY (fun hlt=> ?_) (fun hge=> ?_)
 ·refine fP ?_
  refine ay (fun st=>st.env 0=IL l∧st.env 1=I x∧st.env 5=I k∧st.env 7=I l.length∧st.env 8=I k) ?_ ?_
  ·intro k1 bq
   simp -implicitDefEqProofs [e8]
   exact bq _ (by simp[e0,e1,e7,e8])
  clear e0 e1 e7 e8
  rintro st ⟨e0,e1,e5,e7,e8⟩
  simp -implicitDefEqProofs [e0,e1,e5,hlt]
  refine c8 (fun he=> ?_) (fun he=> ?_)
  ·have hc:firstAt (fun y=>x==y) l=k:=n6 hlt he hno
   simp -implicitDefEqProofs [e5,BB,hc]
  ·simp -implicitDefEqProofs [e8]
   refine⟨i64 (by omega) (by omega),bz hlt ⟨by simp[e0],by simp[e1],by simp[e7],by simp,?_⟩⟩
   intro y hy
   rw[dW hlt,List.mem_append,List.mem_singleton] at hy
   rcases hy with hy|hy
   ·have:=hno _ hy
    simpa using this
   ·rw[hy]
    simpa using he
 ·obtain rfl:k=l.length:=by omega
  have hc:firstAt (fun y=>x==y) l= -1:=pF (by simpa using hno)
  simp -implicitDefEqProofs [BB,hc]
theorem XH(l:List Int)(x:Int):aG Tryz.prog 63 [IL l,I x] (B (l.any fun y=>x==y)):=by
 refine pc t63 (by simp) fun hfit=> ?_
 have c:=XG l x
 simp -implicitDefEqProofs [JY]
 refine aL c ?_
 simp -implicitDefEqProofs [JZ]
 exact(qS _ _).symm
theorem XI(f:Flt){a b:Nat}(ha:a<f.leaves.length)(hb:b<f.leaves.length)(hs:∀x∈f.leaves,-1≤x∧x≤1000):aG Tryz.prog 65 [I a,I b,.ref (fC f)] (I (f.leaves.getD a 0 - f.leaves.getD b 0)):=by
 refine pc t65 (by simp) fun hfit=> ?_
 have h1:=hs _ (List.getElem_mem ha)
 have h2:=hs _ (List.getElem_mem hb)
 simp -implicitDefEqProofs [J0,fC,ha,hb]
 refine⟨i64 (by omega) (by omega),?_⟩
 simp[J1]
structure fQ (n cap:Nat) (F:Nat→Int) (cs:List AV):Prop where
 len:cs.length=cap
 le:n≤cap
 at_:∀i,i<n→cs[i]? =some (I (F i))
 one:∀x∈cs,One x
theorem fQ.set{n cap:Nat}{F:Nat→Int}{cs:List AV}(h:fQ n cap F cs)(j:Nat)(x:Int):fQ n cap (ak F j x) (cs.set j (I x)):=by
 refine⟨by rw[List.length_set];exact h.len,h.le,fun i hi=> ?_,fun y hy=> ?_⟩
 ·have hlen:=h.len
  have hle:=h.le
  by_cases e:j=i
  ·subst e;rw[List.getElem?_set_self (by omega)];simp[ak]
  ·rw[List.getElem?_set_ne e,h.at_ i hi];simp[ak,Ne.symm e]
 ·rcases List.mem_or_eq_of_mem_set hy with hy|rfl
  ·exact h.one y hy
  ·exact⟨rfl,rfl,rfl⟩
theorem fQ.erase{n cap:Nat}{F:Nat→Int}{cs:List AV}(h:fQ n cap F cs):cs.map AV.erase0=cs:=by
 calc cs.map AV.erase0=cs.map id:=List.map_congr_left fun x hx=>(h.one x hx).2.1
  _=cs:=by simp
theorem fQ.getD{n cap:Nat}{F:Nat→Int}{cs:List AV}(h:fQ n cap F cs){i:Nat}(hi:i<n):cs.getD i .any=I (F i):=by rw[List.getD_eq_getElem?_getD,h.at_ i hi];rfl
def rF(c:Int→Int→Int):Nat→(Nat→Int)→Nat→Int
 |0,F=>F
 |j+1,F=>if c (F (j+1)) (F j)<0 then rF c j (ak (ak F (j+1) (F j)) j (F (j+1))) else F
def iZ(c:Int→Int→Int):Nat→(Nat→Int)→Nat→Int
 |0,F=>F
 |i+1,F=>rF c i (iZ c i F)
theorem K2{Q:Int→Prop}{c:Int→Int→Int}{n:Nat}:∀(j:Nat) (F:Nat→Int),j<n→(∀i,i<n→Q (F i))→∀i,i<n→Q (rF c j F i)
 |0,F,_,h=>h
 |j+1,F,hj,h=>by
  unfold rF
  split
  ·refine K2 j _ (by omega) fun i hi=> ?_
   unfold ak
   split
   ·exact h _ hj
   ·split
    ·exact h _ (by omega)
    ·exact h _ hi
  ·exact h
theorem K3{Q:Int→Prop}{c:Int→Int→Int}{n:Nat}{F:Nat→Int}(h:∀i,i<n→Q (F i)):∀j,j≤n→∀i,i<n→Q (iZ c j F i)
 |0,_=>h
 |j+1,hj=>K2 j _ hj (K3 h j (by omega))
theorem XJ{f:FuncId}{caps:List AV}{c:Int→Int→Int}{Q:Int→Prop}{n cap:Nat}{F:Nat→Int}{D:Nat}{cs:List AV}{s:St}{K:AV→St→Prop}(hn:n≤12)(hb:fQ n cap F cs)(hl:s.loc D=some cs)(hQ:∀i,i<n→Q (F i))
  (hc:∀a b,Q a→Q b→aG Tryz.prog f ([I a,I b]++caps) (I (c a b)))
  (hK:∀s2 aU,s2.loc D=some aU→fQ n cap (iZ c n F) aU→K (.tuple []) (back s s2)):d_ Tryz.prog 129 [.aq D 0 n cap 1,I 0,I n,.func (.func f) [] caps] s K:=by
 refine ic t129 (by simp) fun _=> ?_
 simp -implicitDefEqProofs only[J']
 obtain⟨qf,xk⟩:∃qf:AV,qf=.func (.func f) [] caps:=⟨_,rfl⟩
 rw[←xk]
 have XK:qf.erase=qf:=by rw[xk];rfl
 have hpure:∀a b,Q a→Q b→aG Tryz.prog f ([]++[I a,I b]++caps) (I (c a b)):=fun a b h1 h2=>by simpa using hc a b h1 h2
 refine ay (fun st=>st.env 0=.aq D 0 n cap 1∧st.env 1=I 0∧st.env 2=I n∧st.env 3=qf∧st.env 8=I 1∧st.loc D=some cs) ?_ ?_
 ·intro k hk
  simp -implicitDefEqProofs
  exact⟨i64 (by omega) (by omega),hk _ (by simp[hl,XK])⟩
 rintro st ⟨e0,e1,e2,e3,e8,lD⟩
 simp -implicitDefEqProofs only[gO]
 refine bP (n - 1) (fun i st=>st.env 0=.aq D 0 n cap 1∧st.env 1=I 0∧st.env 2=I n∧st.env 3=qf∧st.env 8=I (1+i:Nat)∧∃cs,st.loc D=some cs∧fQ n cap (iZ c (1+i) F) cs) ?_ ?_
 ·exact⟨e0,e1,e2,e3,e8,cs,lD,hb⟩
 clear e0 e1 e2 e3 e8 lD st hb
 rintro i st hi ⟨e0,e1,e2,e3,e8,cs,lD,hb⟩
 refine ay (fun st=>st.env 0=.aq D 0 n cap 1∧st.env 1=I 0∧st.env 2=I n∧st.env 3=qf∧st.env 8=I (1+i:Nat)∧st.loc D=some cs∧1+i<n) ?_ ?_
 ·intro k hk
  simp -implicitDefEqProofs [e8,e2]
  refine bY (fun hlt=> ?_) (fun hge=> ?_)
  ·exact hk _ (by simp[e0,e1,e2,e3,e8,lD];omega)
  ·have hin:iZ c (1+i) F=iZ c n F:=by
    by_cases hn0:n=0
    ·obtain rfl:i=0:=by omega
     rw[hn0];rfl
    ·rw[show 1+i=n by omega]
   rw[hin] at hb
   simp -implicitDefEqProofs [Ka,abW]
   exact hK _ cs (by simp[lD]) hb
 clear e0 e1 e2 e3 e8 lD
 rintro st ⟨e0,e1,e2,e3,e8,lD,hlt⟩
 refine ay (fun st=>st.env 0=.aq D 0 n cap 1∧st.env 1=I 0∧st.env 2=I n∧st.env 3=qf∧st.env 8=I (1+i:Nat)∧∃cs,st.loc D=some cs∧fQ n cap (iZ c (1+(i+1)) F) cs) ?_ ?_
 ·intro k0 bM
  simp -implicitDefEqProofs only[gO]
  refine ay (fun st=>st.env 0=.aq D 0 n cap 1∧st.env 1=I 0∧st.env 2=I n∧st.env 3=qf∧st.env 8=I (1+i:Nat)∧st.env 9=I (1+i:Nat)∧st.loc D=some cs) ?_ ?_
  ·intro k hk
   simp -implicitDefEqProofs [e8]
   exact hk _ (by simp[e0,e1,e2,e3,e8,lD])
  clear e0 e1 e2 e3 e8 lD
  rintro st ⟨e0,e1,e2,e3,e8,e9,lD⟩
  simp -implicitDefEqProofs only[gO]
  refine bP (1+i) (fun k st=>st.env 0=.aq D 0 n cap 1∧st.env 1=I 0∧st.env 2=I n∧st.env 3=qf∧st.env 8=I (1+i:Nat)∧∃(j:Nat) (G:Nat→Int) (cs:List AV),j+k=1+i∧st.env 9=I j∧st.loc D=some cs∧fQ n cap G cs∧(∀m,m<n→Q (G m))∧rF c j G=iZ c (1+(i+1)) F) ?_ ?_
  ·refine⟨e0,e1,e2,e3,e8,1+i,iZ c (1+i) F,cs,rfl,e9,lD,hb,fun m hm=>K3 hQ _ (by omega) m hm,rfl⟩
  clear e0 e1 e2 e3 e8 e9 lD st hb cs
  rintro k st hk ⟨e0,e1,e2,e3,e8,j,G,cs,tn,e9,lD,hb,hG,Cm⟩
  cases j with
  |zero=>
   simp -implicitDefEqProofs [e9,e1,abW]
   exact bM _ ⟨by simp[e0],by simp[e1],by simp[e2],by simp[e3],by simp[e8],cs,by simp[lD],by rw[←Cm];exact hb⟩
  |succ j=>
   have hpos:(0:Int)<(j:Int)+1:=by omega
   have yS:(j:Int)+1<n:=by omega
   have hj2:(j:Int)<n:=by omega
   have Cn:j+1<n:=by omega
   have ug:j<n:=by omega
   have a1:=hb.at_ (j+1) Cn
   have a2:=hb.at_ j ug
   have hlen:=hb.len
   have hle:=hb.le
   have Co:j+1<cs.length:=by omega
   have sJ:j<cs.length:=by omega
   have g1:cs[j+1]=I (G (j+1)):=by simpa[Co] using a1
   have g2:cs[j]=I (G j):=by simpa[sJ] using a2
   rw[cK]
   refine ay (fun st=>st.env 0=.aq D 0 n cap 1∧st.env 1=I 0∧st.env 2=I n∧st.env 3=qf∧st.env 8=I (1+i:Nat)∧st.env 9=I (j+1:Nat)∧st.loc D=some cs∧st.env 34=B (decide (c (G (j+1)) (G j)<0))) ?_ ?_
   ·intro k1 bq
    simp -implicitDefEqProofs [e0,e1,e3,e9,xk,hpos,lD,Co,sJ,g1,g2,yS,ug]
    refine⟨by omega,i64 (by omega) (by omega),aL (hc _ _ (hG _ Cn) (hG _ ug)) ?_⟩
    simp -implicitDefEqProofs
    exact bq _ (by simp[e0,e1,e2,e3,e8,e9,lD,xk])
   clear e0 e1 e2 e3 e8 e9 lD
   rintro st ⟨e0,e1,e2,e3,e8,e9,lD,cC⟩
   simp -implicitDefEqProofs [cC]
   refine bY (fun cq=> ?_) (fun wC=> ?_)
   ·have cF:=(hb.set (j+1) (G j)).set j (G (j+1))
    have Cp:rF c j (ak (ak G (j+1) (G j)) j (G (j+1)))=iZ c (1+(i+1)) F:=by
     rw[←Cm]
     show _=if c (G (j+1)) (G j)<0 then _ else _
     rw[if_pos cq]
    have dN:∀m,m<n→Q (ak (ak G (j+1) (G j)) j (G (j+1)) m):=fun m hm=>by
     unfold ak
     split
     ·exact hG _ Cn
     ·split
      ·exact hG _ ug
      ·exact hG _ hm
    simp -implicitDefEqProofs [e0,e9,lD,Co,sJ,g1,g2,yS,ug]
    exact⟨i64 (by omega) (by omega),by omega,by omega,by omega,i64 (by omega) (by omega),bz (by omega) ⟨by simp[e0],by simp[e1],by simp[e2],by simp[e3],by simp[e8],j,by omega,by simp,_,_,by simp,cF,dN,Cp⟩⟩
   ·have Cp:G=iZ c (1+(i+1)) F:=by
     rw[←Cm]
     show _=if c (G (j+1)) (G j)<0 then _ else _
     rw[if_neg wC]
    simp -implicitDefEqProofs [abW]
    exact bM _ ⟨by simp[e0],by simp[e1],by simp[e2],by simp[e3],by simp[e8],cs,by simp[lD],by rw[←Cp];exact hb⟩
 clear e0 e1 e2 e3 e8 lD hb cs
 rintro st ⟨e0,e1,e2,e3,e8,cs,lD,hb⟩
 simp -implicitDefEqProofs [e8]
 exact⟨i64 (by omega) (by omega),bz (by omega) ⟨by simp[e0],by simp[e1],by simp[e2],by simp[e3],by simp;omega,cs,by simp[lD],hb⟩⟩
theorem XL{f:FuncId}{caps:List AV}{c:Int→Int→Int}{Q:Int→Prop}{n cap:Nat}{F:Nat→Int}{D:Nat}{cs:List AV}{s:St}{q:AV}{K:AV→St→Prop}(hn:n≤12)(hb:fQ n cap F cs)(hl:s.loc D=some cs)(hQ:∀i,i<n→Q (F i))
  (hc:∀a b,Q a→Q b→aG Tryz.prog f ([I a,I b]++caps) (I (c a b)))
  (hK:∀s2 aU,s2.loc D=some aU→fQ n cap (iZ c n F) aU→K (.tuple []) (back s s2)):d_ Tryz.prog 96 [.aq D 0 n cap 1,I 0,I n,q,.func (.func f) [] caps] s K:=by
 refine ic t96 (by simp) fun _=> ?_
 simp -implicitDefEqProofs only[J9]
 have hs:((.func (.func f) [] caps:AV)).erase=.func (.func f) [] caps:=rfl
 refine ay (fun st=>st.env 0=.aq D 0 n cap 1∧st.env 1=I 0∧st.env 2=I n∧st.env 4=.func (.func f) [] caps∧st.loc D=some cs) ?_ ?_
 ·intro k hk
  simp -implicitDefEqProofs
  exact hk _ (by simp[hl])
 rintro st ⟨e0,e1,e2,e4,lD⟩
 refine ay (fun st=>st.env 0=.aq D 0 n cap 1∧st.env 1=I 0∧st.env 2=I n∧st.env 4=.func (.func f) [] caps∧st.loc D=some cs) ?_ ?_
 ·intro k hk
  simp -implicitDefEqProofs
  exact hk _ (by simp[e0,e1,e2,e4,lD])
 clear e0 e1 e2 e4 lD st
 rintro st ⟨e0,e1,e2,e4,lD⟩
 simp -implicitDefEqProofs only[gO]
 refine bP 1 (fun _ st=>st.env 0=.aq D 0 n cap 1∧st.env 1=I 0∧st.env 2=I n∧st.env 4=.func (.func f) [] caps∧st.loc D=some cs) ⟨e0,e1,e2,e4,lD⟩ ?_
 clear e0 e1 e2 e4 lD st
 rintro _ st _ ⟨e0,e1,e2,e4,lD⟩
 simp -implicitDefEqProofs only[gO]
 refine ay (fun st=>st.env 0=.aq D 0 n cap 1∧st.env 1=I 0∧st.env 2=I n∧st.env 4=.func (.func f) [] caps∧st.env 12=I n∧st.loc D=some cs) ?_ ?_
 ·intro k hk
  simp -implicitDefEqProofs [e1,e2]
  exact⟨i64 (by omega) (by omega),hk _ (by simp[e0,e1,e2,e4,lD])⟩
 clear e0 e1 e2 e4 lD st
 rintro st ⟨e0,e1,e2,e4,aQ,lD⟩
 have hle:(n:Int)≤12:=by omega
 rw[cK,cK]
 simp -implicitDefEqProofs [e0,e1,e2,e4,aQ,hle]
 refine XJ hn hb (by simp[lD]) hQ hc fun s2 aU h1 h2=> ?_
 exact hK _ aU (by simp[h1]) h2
theorem XM{f:FuncId}{caps:List AV}{c:Int→Int→Int}{Q:Int→Prop}{n cap:Nat}{F:Nat→Int}{D:Nat}{cs:List AV}{s:St}{q:Int}{K:AV→St→Prop}(hn:n≤12)(hb:fQ n cap F cs)(hl:s.loc D=some cs)(hQ:∀i,i<n→Q (F i))
  (hq:aG Tryz.prog 94 [.lit (.int .u64 n)] (I q))
  (hc:∀a b,Q a→Q b→aG Tryz.prog f ([I a,I b]++caps) (I (c a b)))
  (hK:∀s2 aU,s2.loc D=some aU→fQ n cap (iZ c n F) aU→K (.tuple []) (back s s2)):d_ Tryz.prog 64 [.aq D 0 n cap 1,.func (.func f) [] caps] s K:=by
 refine ic t64 (by simp) fun _=> ?_
 have hw:∀m:Nat,m≤12→IntKind.u64.wrap (m:Int)=m:=by decide
 simp -implicitDefEqProofs [m64,hw n hn]
 refine aL hq ?_
 simp -implicitDefEqProofs
 refine XL hn hb (by simp[hl]) hQ hc fun s2 aU h1 h2=> ?_
 exact hK _ aU (by simp[h1]) h2
end Go.Proofs.YtmcdlpegncaihaaGreat.C
namespace Go.Proofs.YtmcdlpegncaihaaGreat.C
open Go.Z4
def lU(f:Flt)(i:Nat):Bool:=decide (0≤f.leaves.getD i 0)&& !(f.dZ.any fun y=>(i:Int)==y)
def iy(f:Flt):List Int:=aS (lU f) f.leaves.length
def Cq(f:Flt)(a b:Int):Int:=f.leaves.getD a.toNat 0 - f.leaves.getD b.toNat 0
def oo(f:Flt):List Int:=(List.range (iy f).length).map (iZ (Cq f) (iy f).length fun i=>(iy f).getD i 0)
theorem j4.lW{cs:List AV}{l:List Int}{cap:Nat}(h:j4 cs (l.map I) cap):fQ l.length cap (fun i=>l.getD i 0) cs:=by
 have hle:=h.le
 have hc:=h.cells
 rw[List.length_map] at hle hc
 refine⟨h.len,hle,fun i hi=> ?_,h.one⟩
 have h1:(cs.take l.length)[i]? =(l.map I)[i]? :=by rw[hc]
 rw[List.getElem?_take_of_lt hi] at h1
 rw[h1]
 simp[hi]
theorem fQ.XN{n cap:Nat}{F:Nat→Int}{cs:List AV}(h:fQ n cap F cs):j4 cs (((List.range n).map F).map I) cap:=by
 refine⟨by simp;exact h.le,h.len,?_,h.one⟩
 refine List.ext_getElem? fun i=> ?_
 simp only[List.length_map,List.length_range]
 by_cases hi:i<n
 ·rw[List.getElem?_take_of_lt hi,h.at_ i hi]
  simp[hi]
 ·rw[List.getElem?_eq_none (by simp;omega),List.getElem?_eq_none (by simp;omega)]
theorem XO{ns:List Nat}{cs:List (List Int)}(h:eP ns cs){f:Flt}(hf:iu (bw ns) (aT ns) (bG cs)=some f)(hs:∀x∈f.leaves,-1≤x∧x≤1000)(hfl:f.leaves.length≤120){q:Int}
  (hne:iy f≠[])(hn:(iy f).length≤12)(hq:aG Tryz.prog 94 [.lit (.int .u64 (iy f).length)] (I q)):
  aG Tryz.prog 35 [.agg (bO ns cs)] (.tuple [IL (oo f),I 0]):=by
 refine pc t35 (by simp) fun _=> ?_
 have c1:=xd h hf
 simp -implicitDefEqProofs only[JP]
 refine ay (fun st=>st.env 1=.ref (bO ns cs)∧st.env 2=.lit (.slice none 0 0)) ?_ ?_
 ·intro k hk
  simp -implicitDefEqProofs
  exact hk _ (by simp)
 rintro st ⟨e1,e2⟩
 refine ay (fun st=>st.env 2=.lit (.slice none 0 0)∧st.env 3=I 0∧st.env 4=.ref (fC f)) ?_ ?_
 ·intro k hk
  simp -implicitDefEqProofs [e1]
  refine aL c1 ?_
  simp -implicitDefEqProofs [fC]
  intro b hb
  exact hk _ (by simp[e2,fC])
 clear e1 e2
 rintro st ⟨e2,e3,e4⟩
 refine ay (fun st=>st.env 2=.lit (.slice none 0 0)∧st.env 4=.ref (fC f)) ?_ ?_
 ·intro k hk
  simp -implicitDefEqProofs [e3]
  exact hk _ (by simp[e2,e4])
 clear e2 e3 e4
 rintro st ⟨e2,e4⟩
 refine ay (fun st=>st.env 4=.ref (fC f)∧aah (sN []) st.loc (st.env 2) ((iy f).map I)) ?_ ?_
 ·intro k0 bM
  simp -implicitDefEqProofs only[cK]
  simp -implicitDefEqProofs [e4,fC]
  refine bP f.leaves.length (fun i st=>∃v,st.env 2=v∧st.env 4=.ref (fC f)∧st.env 16=IL f.leaves∧st.env 17=I f.leaves.length∧st.env 18=I i∧aah (sN []) st.loc v ((aS (lU f) i).map I)) ?_ ?_
  ·exact⟨.lit (.slice none 0 0),by simp[e2],by simp[e4],by simp,by simp,by simp,.inl ⟨rfl,rfl⟩⟩
  clear e2 e4 st
  rintro i st hi ⟨v,e2,e4,bh,aY,bg,hacc⟩
  simp -implicitDefEqProofs [aY,bg]
  refine bY (fun hlt=> ?_) (fun hge=> ?_)
  ·refine fP ?_
   refine ay (fun st=>∃v,st.env 2=v∧st.env 4=.ref (fC f)∧st.env 5=I i∧st.env 6=I (f.leaves[i])∧st.env 16=IL f.leaves∧st.env 17=I f.leaves.length∧st.env 18=I i∧aah (sN []) st.loc v ((aS (lU f) i).map I)) ?_ ?_
   ·intro k hk
    simp -implicitDefEqProofs [bh,bg,hlt]
    exact hk _ ⟨v,by simp[e2],by simp[e4],by simp,by simp,by simp[bh],by simp[aY],by simp[bg],by simpa using hacc⟩
   clear e2 e4 bh aY bg hacc v
   rintro st ⟨v,e2,e4,e5,e6,bh,aY,bg,hacc⟩
   refine ay (fun st=>∃v,st.env 2=v∧st.env 4=.ref (fC f)∧st.env 5=I i∧st.env 16=IL f.leaves∧st.env 17=I f.leaves.length∧st.env 18=I i∧st.env 31=B (lU f i)∧aah (sN []) st.loc v ((aS (lU f) i).map I)) ?_ ?_
   ·intro k hk
    have c:=XH f.dZ i
    have hgd:f.leaves.getD i 0=f.leaves[i]:=by simp[hlt]
    simp -implicitDefEqProofs [e6]
    by_cases h0:0≤f.leaves[i]
    ·have uh:lU f i= !(f.dZ.any fun y=>(i:Int)==y):=by unfold lU;rw[hgd];simp[h0]
     simp -implicitDefEqProofs [h0,e4,fC,e5]
     refine aL c ?_
     simp -implicitDefEqProofs
     exact hk _ ⟨v,by simp[e2],by simp[e4],by simp[e5],by simp[bh],by simp[aY],by simp[bg],by simp[uh],by simpa using hacc⟩
    ·have uh:lU f i=false:=by unfold lU;rw[hgd];simp[h0]
     simp -implicitDefEqProofs [h0]
     exact hk _ ⟨v,by simp[e2],by simp[e4],by simp[e5],by simp[bh],by simp[aY],by simp[bg],by simp[uh],by simpa using hacc⟩
   clear e2 e4 e5 e6 bh aY bg hacc v
   rintro st ⟨v,e2,e4,e5,bh,aY,bg,gA,hacc⟩
   simp -implicitDefEqProofs [-iJ,-kG,gA]
   refine c8 (fun hq=> ?_) (fun hq=> ?_)
   ·have tI:=aaB (lU f) i
    simp -implicitDefEqProofs [-iJ,-kG,e2,e5,hacc.aB]
    refine BQ (s0:=sN []) (hacc.pR fun c cs h3 h4=>by simp[h3,jy h4]) (fun b' hb'=>Ce (by simp)) (by simp;omega) ⟨rfl,rfl,rfl⟩ ⟨rfl,rfl,rfl⟩ (by decide) fun b5 rq n5 kU hnb h5 _=> ?_
    simp -implicitDefEqProofs [bg]
    refine⟨i64 (by omega) (by omega),bz hlt ⟨by simp[e4],by simp[bh],by simp[aY],by simp,?_⟩⟩
    simp only[kP hq,List.map_append]
    simp
    refine h5.kS fun c cs' hn h3 h4=> ?_
    simpa using h3
   ·simp -implicitDefEqProofs [bg]
    refine⟨i64 (by omega) (by omega),bz hlt ⟨by simp[e4],by simp[bh],by simp[aY],by simp,?_⟩⟩
    simpa[e2,j0 hq] using hacc
  ·obtain rfl:i=f.leaves.length:=by omega
   simp -implicitDefEqProofs
   exact bM _ ⟨by simp[e4],by simpa[e2,hacc.aB,iy] using hacc⟩
 clear e2 e4
 rintro st ⟨e4,hacc⟩
 rcases hacc with ⟨e,_⟩|⟨b,cap,rq,h1,e2,h3,h4,h5⟩
 ·exact absurd (by simpa using e) hne
 rw[List.length_map] at e2
 have hQ:∀i,i<(iy f).length→(fun x:Int=>0≤x∧x<f.leaves.length) ((iy f).getD i 0):=fun i hi=>by
  have hg:(iy f).getD i 0=(iy f)[i]:=by simp[hi]
  rw[hg]
  exact Ch rfl _ (List.getElem_mem hi)
 have hc:∀a b,(fun x:Int=>0≤x∧x<f.leaves.length) a→(fun x:Int=>0≤x∧x<f.leaves.length) b→aG Tryz.prog 65 ([I a,I b]++[.ref (fC f)]) (I (Cq f a b)):=by
  rintro a b ⟨ha,jN⟩ ⟨hb,cF⟩
  obtain⟨a,rfl⟩:∃a':Nat,a=a':=⟨a.toNat,by omega⟩
  obtain⟨b,rfl⟩:∃b':Nat,b=b':=⟨b.toNat,by omega⟩
  have:=XI f (a:=a) (b:=b) (by omega) (by omega) hs
  simpa[Cq] using this
 refine ay (fun st=>st.env 2=.aq b 0 (iy f).length cap 1∧∃aU,st.loc b=some aU∧j4 aU ((oo f).map I) cap) ?_ ?_
 ·intro k hk
  simp -implicitDefEqProofs [e2,e4]
  refine XM (Q:=fun x:Int=>0≤x∧x<f.leaves.length) hn h4.lW (by simp[h3]) hQ hq hc fun s2 aU h6 h7=> ?_
  exact hk _ ⟨by simp[e2],aU,by simp[h6],h7.XN⟩
 clear e2 e4 h3 h4
 rintro st ⟨e2,aU,h3,h4⟩
 have hbl:(oo f).length=(iy f).length:=by simp[oo]
 have hbn:oo f≠[]:=fun e=>by
  rw[e] at hbl
  exact hne (List.eq_nil_of_length_eq_zero hbl.symm)
 rw[←hbl] at e2
 have hacc:aah (sN []) st.loc (.aq b 0 (oo f).length cap 1) ((oo f).map I):=.inr ⟨b,cap,aU,by simpa using hbn,by simp,h3,h4,h5⟩
 rw[cK]
 simp -implicitDefEqProofs [-mI,-nS,e2]
 refine wV (s0:=sN []) (by simpa using hacc) (by simp;omega) fun XA _=> ?_
 simp -implicitDefEqProofs [ak,JQ,IL]
end Go.Proofs.YtmcdlpegncaihaaGreat.C
namespace Go.Proofs.YtmcdlpegncaihaaGreat.C
open Go.Z4
def Cr(P:Program)(ms:List au)(K:St→Prop)(s:St)(d:Nat)(neg:Bool):AV→Prop
 |.slice _ xs _=>(xs=[]→vcs P ms K (s.set d (.lit (.bool (!neg)))))∧vcs P ms K (s.set d (.lit (.bool neg)))
 |.aq _ _ _ _ _=>vcs P ms K (s.set d (.lit (.bool neg)))
 |_=>False
theorem XP(P:Program)(ms:List au)(K:St→Prop)(s:St)(d:Nat)(neg:Bool)(x:ai):vcs P (.isNil d neg x::ms) K s=Cr P ms K s d neg (x.ev s.env):=by unfold Cr;rfl
attribute [simp] XP Cr
theorem XQ(cs:List (List Int)):((cs.map IL).flatMap AV.cells).map AV.erase0=cs.map IL:=by
 induction cs with
 |nil=>rfl
 |cons c cs ih=>simp[ih]
theorem XR{cs:List (List Int)}(hne:cs≠[])(hlen:cs.length≤120){s:St}{K:AV→St→Prop}(hK:∀s2 b r,s.loc b=none→Z3 R1 s s2→s2.loc b=some (cs.map IL++List.replicate r (.slice 1 [] 0))→K (.aq b 0 cs.length (cs.length+r) 1) (back s s2)):d_ Tryz.prog 66 [ILL cs] s K:=by
 refine ic t66 (by simp) fun _=> ?_
 have ho:Z3 R1 s ⟨fun k=>if 1000000≤k then s.env k else cO [ILL cs] k,s.loc⟩:=⟨fun _ _ h _=>h,fun _ _ _ h=>by simpa using h⟩
 have oQ:cs.map IL≠[]:=by simpa using hne
 simp -implicitDefEqProofs [J2,hne]
 intro b hb
 refine⟨by omega,by omega,fun b1 r dc=> ?_⟩
 have h1:¬b1=b:=by rintro rfl;simp at dc
 have K4:s.loc b1=none:=by simpa[h1] using dc
 have gC:=XQ cs
 simp -implicitDefEqProofs only[eN,J3]
 rw[gC]
 refine hK _ b1 r K4 ?_ (by simp)
 repeat (first|exact ho|refine Z3.set ?_ _ _ (by decide)|refine Z3.aB ?_ (by decide)|refine Z3.put ?_ hb|refine Z3.put ?_ K4)
def ac7(ns:List Nat)(cs:List (List Int))(i:Nat)(w x:Int):Int:=if w<(aaO ns (cs.set i [x])).2 - (aaO ns (cs.set i [x])).1 then (aaO ns (cs.set i [x])).2 - (aaO ns (cs.set i [x])).1 else w
def iz(ns:List Nat)(cs:List (List Int))(i:Nat)(c:List Int):Int:=c.foldl (ac7 ns cs i) 0
theorem XS(ns:List Nat)(cs:List (List Int))(i:Nat)(c:List Int)(x:Int):iz ns cs i (c++[x])=ac7 ns cs i (iz ns cs i c) x:=by simp[iz,List.foldl_append]
def Ct(ns:List Nat)(cs:List (List Int))(p:Int×Int)(i:Nat):Int×Int:=if (cs.getD i []).length<2 then p else if p.2<0∨iz ns cs i (cs.getD i [])<p.2 then ((i:Int),iz ns cs i (cs.getD i [])) else p
def cR(ns:List Nat)(cs:List (List Int))(k:Nat):Int×Int:=(List.range k).foldl (Ct ns cs) (0,-1)
theorem XT(ns:List Nat)(cs:List (List Int))(k:Nat):cR ns cs (k+1)=Ct ns cs (cR ns cs k) k:=by simp[cR,List.range_succ,List.foldl_append]
structure K5 (ns:List Nat) (cs:List (List Int)):Prop where ok:∀i (hi:i<cs.length),2≤cs[i].length→∀x∈cs[i],eP ns (cs.set i [x])∧0≤(aaO ns (cs.set i [x])).1∧(aaO ns (cs.set i [x])).1≤1000∧0≤(aaO ns (cs.set i [x])).2∧(aaO ns (cs.set i [x])).2≤1000
theorem XU{ns:List Nat}{cs:List (List Int)}(h:eP ns cs)(dH:K5 ns cs)(hb:0≤(cR ns cs cs.length).2):aG Tryz.prog 36 [.agg (bO ns cs)] (.tuple [I (cR ns cs cs.length).1,I 0]):=by
 refine pc t36 (by simp) fun _=> ?_
 have c1:=rm h
 have tS:=h.items
 simp -implicitDefEqProofs only[JR]
 refine ay (fun st=>st.env 1=.ref (bO ns cs)∧st.env 2=I 0) ?_ ?_
 ·intro k hk
  simp -implicitDefEqProofs
  exact hk _ (by simp)
 rintro st ⟨e1,e2⟩
 refine ay (fun st=>st.env 1=.ref (bO ns cs)∧st.env 2=I 0∧st.env 3=I 0∧st.env 4=aN ns cs) ?_ ?_
 ·intro k hk
  simp -implicitDefEqProofs [e1]
  refine aL c1 ?_
  simp -implicitDefEqProofs
  exact hk _ (by simp[e1,e2])
 clear e1 e2
 rintro st ⟨e1,e2,e3,e4⟩
 refine ay (fun st=>st.env 1=.ref (bO ns cs)∧st.env 2=I 0∧st.env 4=aN ns cs) ?_ ?_
 ·intro k hk
  simp -implicitDefEqProofs [e3]
  exact hk _ (by simp[e1,e2,e4])
 clear e3
 clear e1 e2 e4
 rintro st ⟨e1,e2,e4⟩
 refine ay (fun st=>st.env 1=.ref (bO ns cs)∧st.env 2=I 0∧st.env 4=aN ns cs∧st.env 7=I (-1)) ?_ ?_
 ·intro k hk
  simp -implicitDefEqProofs
  exact hk _ (by simp[e1,e2,e4])
 clear e1 e2 e4
 rintro st ⟨e1,e2,e4,e7⟩
 refine ay (fun st=>st.env 2=I (cR ns cs cs.length).1∧st.env 7=I (cR ns cs cs.length).2) ?_ ?_
 ·intro k0 bM
  simp -implicitDefEqProofs only[cK]
  simp -implicitDefEqProofs [e1]
  refine bP cs.length (fun i st=>st.env 1=.ref (bO ns cs)∧st.env 2=I (cR ns cs i).1∧st.env 4=aN ns cs∧st.env 7=I (cR ns cs i).2∧st.env 25=ILL cs∧st.env 26=I cs.length∧st.env 27=I i) ?_ ?_
  ·simp[e1,e2,e4,e7,cR]
  clear e1 e2 e4 e7 st
  rintro i st hi ⟨e1,e2,e4,e7,bL,e26,bJ⟩
  simp -implicitDefEqProofs [e26,bJ]
  refine bY (fun hlt=> ?_) (fun hge=> ?_)
  ·refine ay (fun st=>st.env 1=.ref (bO ns cs)∧st.env 2=I (cR ns cs (i+1)).1∧st.env 4=aN ns cs∧st.env 7=I (cR ns cs (i+1)).2∧st.env 25=ILL cs∧st.env 26=I cs.length∧st.env 27=I i) ?_ ?_
   ·intro k1 bq
    simp -implicitDefEqProofs only[gO]
    obtain⟨c,hcd⟩:∃c,c=cs[i]:=⟨_,rfl⟩
    have cw:c.length≤4:=by rw[hcd];exact(h.wQ _ (List.getElem_mem hlt)).1
    have hgd:cs.getD i []=c:=by simp[hlt,hcd]
    have hstep:=XT ns cs i
    unfold Ct at hstep
    rw[hgd] at hstep
    refine ay (fun st=>(st.env 1=.ref (bO ns cs)∧st.env 2=I (cR ns cs i).1∧st.env 4=aN ns cs∧st.env 7=I (cR ns cs i).2∧st.env 25=ILL cs∧st.env 26=I cs.length∧st.env 27=I i)∧st.env 8=I i∧st.env 9=.ref [IL c]) ?_ ?_
    ·intro k hk
     simp -implicitDefEqProofs [bL,bJ,hlt,←hcd]
     intro b hb
     exact hk _ ⟨⟨by simp[e1],by simp[e2],by simp[e4],by simp[e7],by simp[bL],by simp[e26],by simp[bJ]⟩,by simp,by simp⟩
    clear e1 e2 e4 e7 bL e26 bJ
    rintro st ⟨⟨e1,e2,e4,e7,bL,e26,bJ⟩,e8,e9⟩
    refine ay (fun st=>(st.env 1=.ref (bO ns cs)∧st.env 2=I (cR ns cs i).1∧st.env 4=aN ns cs∧st.env 7=I (cR ns cs i).2∧st.env 25=ILL cs∧st.env 26=I cs.length∧st.env 27=I i)∧st.env 8=I i∧st.env 9=.ref [IL c]∧2≤c.length) ?_ ?_
    ·intro k hk
     simp -implicitDefEqProofs [e9]
     refine bY (fun gu=> ?_) (fun gu=> ?_)
     ·rw[if_pos (by omega)] at hstep
      simp -implicitDefEqProofs [abW]
      exact bq _ (by rw[hstep];exact⟨by simp[e1],by simp[e2],by simp[e4],by simp[e7],by simp[bL],by simp[e26],by simp[bJ]⟩)
     ·exact hk _ ⟨⟨by simp[e1],by simp[e2],by simp[e4],by simp[e7],by simp[bL],by simp[e26],by simp[bJ]⟩,by simp[e8],by simp[e9],by omega⟩
    clear e1 e2 e4 e7 bL e26 bJ e8 e9
    rintro st ⟨⟨e1,e2,e4,e7,bL,e26,bJ⟩,e8,e9,gu⟩
    rw[if_neg (by omega)] at hstep
    refine ay (fun st=>(st.env 1=.ref (bO ns cs)∧st.env 2=I (cR ns cs i).1∧st.env 4=aN ns cs∧st.env 7=I (cR ns cs i).2∧st.env 25=ILL cs∧st.env 26=I cs.length∧st.env 27=I i)∧st.env 8=I i∧st.env 9=.ref [IL c]∧st.env 10=I 0) ?_ ?_
    ·intro k hk
     simp -implicitDefEqProofs
     exact hk _ ⟨⟨by simp[e1],by simp[e2],by simp[e4],by simp[e7],by simp[bL],by simp[e26],by simp[bJ]⟩,by simp[e8],by simp[e9],by simp⟩
    clear e1 e2 e4 e7 bL e26 bJ e8 e9
    rintro st ⟨⟨e1,e2,e4,e7,bL,e26,bJ⟩,e8,e9,aH⟩
    refine ay (fun st=>(st.env 1=.ref (bO ns cs)∧st.env 2=I (cR ns cs i).1∧st.env 4=aN ns cs∧st.env 7=I (cR ns cs i).2∧st.env 25=ILL cs∧st.env 26=I cs.length∧st.env 27=I i)∧st.env 8=I i∧st.env 10=I (iz ns cs i c)) ?_ ?_
    ·intro k2 hk2
     simp -implicitDefEqProofs only[cK]
     simp -implicitDefEqProofs [e9]
     refine bP c.length (fun k st=>(st.env 1=.ref (bO ns cs)∧st.env 2=I (cR ns cs i).1∧st.env 4=aN ns cs∧st.env 7=I (cR ns cs i).2∧st.env 25=ILL cs∧st.env 26=I cs.length∧st.env 27=I i)∧st.env 8=I i∧st.env 9=.ref [IL c]∧st.env 10=I (iz ns cs i (c.take k))∧st.env 37=IL c∧st.env 38=I c.length∧st.env 39=I k) ?_ ?_
     ·exact⟨⟨by simp[e1],by simp[e2],by simp[e4],by simp[e7],by simp[bL],by simp[e26],by simp[bJ]⟩,by simp[e8],by simp[e9],by simp[aH,iz],by simp,by simp,by simp⟩
     clear e1 e2 e4 e7 bL e26 bJ e8 e9 aH st
     rintro k st hk ⟨⟨e1,e2,e4,e7,bL,e26,bJ⟩,e8,e9,aH,cT,cM,eG⟩
     simp -implicitDefEqProofs [cM,eG]
     refine bY (fun cq=> ?_) (fun wC=> ?_)
     ·refine ay (fun st=>(st.env 1=.ref (bO ns cs)∧st.env 2=I (cR ns cs i).1∧st.env 4=aN ns cs∧st.env 7=I (cR ns cs i).2∧st.env 25=ILL cs∧st.env 26=I cs.length∧st.env 27=I i)∧st.env 8=I i∧st.env 9=.ref [IL c]∧st.env 10=I (iz ns cs i (c.take (k+1)))∧st.env 37=IL c∧st.env 38=I c.length∧st.env 39=I k) ?_ ?_
      ·intro k3 hk3
       simp -implicitDefEqProofs only[gO]
       obtain⟨x,hx⟩:∃x,x=c[k]:=⟨_,rfl⟩
       have XV:x∈cs[i]:=by rw[hx,←hcd];exact List.getElem_mem cq
       obtain⟨B8,hw1,XW,XX,XY⟩:=dH.ok i hlt (by rw[←hcd];exact gu) x XV
       have c5:=K1 B8
       have nC:=XS ns cs i (c.take k) x
       rw[hx,←dW cq,←hx] at nC
       unfold ac7 at nC
       obtain⟨W,hW⟩:∃W,W=aaO ns (cs.set i [x]):=⟨_,rfl⟩
       rw[←hW] at nC hw1 XW XX XY c5
       refine ay (fun st=>((st.env 1=.ref (bO ns cs)∧st.env 2=I (cR ns cs i).1∧st.env 4=aN ns cs∧st.env 7=I (cR ns cs i).2∧st.env 25=ILL cs∧st.env 26=I cs.length∧st.env 27=I i)∧st.env 8=I i∧st.env 9=.ref [IL c]∧st.env 10=I (iz ns cs i (c.take k))∧st.env 37=IL c∧st.env 38=I c.length∧st.env 39=I k)∧st.env 11=I k) ?_ ?_
       ·intro k4 nk
        simp -implicitDefEqProofs [eG]
        exact nk _ ⟨⟨⟨by simp[e1],by simp[e2],by simp[e4],by simp[e7],by simp[bL],by simp[e26],by simp[bJ]⟩,by simp[e8],by simp[e9],by simp[aH],by simp[cT],by simp[cM],by simp[eG]⟩,by simp⟩
       clear e1 e2 e4 e7 bL e26 bJ e8 e9 aH cT cM eG
       rintro st ⟨⟨⟨e1,e2,e4,e7,bL,e26,bJ⟩,e8,e9,aH,cT,cM,eG⟩,aE⟩
       refine ay (fun st=>((st.env 1=.ref (bO ns cs)∧st.env 2=I (cR ns cs i).1∧st.env 4=aN ns cs∧st.env 7=I (cR ns cs i).2∧st.env 25=ILL cs∧st.env 26=I cs.length∧st.env 27=I i)∧st.env 8=I i∧st.env 9=.ref [IL c]∧st.env 10=I (iz ns cs i (c.take k))∧st.env 37=IL c∧st.env 38=I c.length∧st.env 39=I k)∧st.env 11=I k∧∃M,st.env 12=.aj M 0∧st.loc M=some (xC ns cs)) ?_ ?_
       ·intro k4 nk
        simp -implicitDefEqProofs [e4]
        intro M hM
        exact nk _ ⟨⟨⟨by simp[e1],by simp[e2],by simp[e4],by simp[e7],by simp[bL],by simp[e26],by simp[bJ]⟩,by simp[e8],by simp[e9],by simp[aH],by simp[cT],by simp[cM],by simp[eG]⟩,by simp[aE],M,by simp,by simp⟩
       clear e1 e2 e4 e7 bL e26 bJ e8 e9 aH cT cM eG aE
       rintro st ⟨⟨⟨e1,e2,e4,e7,bL,e26,bJ⟩,e8,e9,aH,cT,cM,eG⟩,aE,M,aQ,lM⟩
       refine ay (fun st=>((st.env 1=.ref (bO ns cs)∧st.env 2=I (cR ns cs i).1∧st.env 4=aN ns cs∧st.env 7=I (cR ns cs i).2∧st.env 25=ILL cs∧st.env 26=I cs.length∧st.env 27=I i)∧st.env 8=I i∧st.env 9=.ref [IL c]∧st.env 10=I (iz ns cs i (c.take k))∧st.env 37=IL c∧st.env 38=I c.length∧st.env 39=I k)∧st.env 11=I k∧st.env 12=.aj M 0∧∃b r,b≠M∧st.loc M=some (cy ns++[.aq b 0 cs.length (cs.length+r) 1]++[LV (aT ns),IL (bw ns)])∧st.loc b=some (cs.map IL++List.replicate r (.slice 1 [] 0))) ?_ ?_
       ·intro k4 nk
        simp -implicitDefEqProofs [e1]
        refine XR (cs:=cs) (by rintro rfl;simp at hlt) tS fun s2 b r hb h2 lb=> ?_
        have Cl:s2.loc M=some (xC ns cs):=h2.l M _ (by simp[lM]) (fun q _=>by simp)
        have rG:¬b=M:=by rintro rfl;simp[lM] at hb
        simp -implicitDefEqProofs [aQ,Cl]
        refine nk _ ⟨⟨⟨by simp[e1],by simp[e2],by simp[e4],by simp[e7],by simp[bL],by simp[e26],by simp[bJ]⟩,by simp[e8],by simp[e9],by simp[aH],by simp[cT],by simp[cM],by simp[eG]⟩,by simp[aE],by simp[aQ],b,r,rG,by simp,by simp[rG,lb]⟩
       clear e1 e2 e4 e7 bL e26 bJ e8 e9 aH cT cM eG aE aQ lM
       rintro st ⟨⟨⟨e1,e2,e4,e7,bL,e26,bJ⟩,e8,e9,aH,cT,cM,eG⟩,aE,aQ,b,r,rG,lM,lb⟩
       refine ay (fun st=>((st.env 1=.ref (bO ns cs)∧st.env 2=I (cR ns cs i).1∧st.env 4=aN ns cs∧st.env 7=I (cR ns cs i).2∧st.env 25=ILL cs∧st.env 26=I cs.length∧st.env 27=I i)∧st.env 8=I i∧st.env 9=.ref [IL c]∧st.env 10=I (iz ns cs i (c.take k))∧st.env 37=IL c∧st.env 38=I c.length∧st.env 39=I k)∧st.env 12=.aj M 0∧st.loc M=some (cy ns++[.aq b 0 cs.length (cs.length+r) 1]++[LV (aT ns),IL (bw ns)])∧st.loc b=some ((cs.set i [x]).map IL++List.replicate r (.slice 1 [] 0))) ?_ ?_
       ·intro k4 nk
        simp -implicitDefEqProofs [aQ,lM,e8,e9,aE,lb,hlt]
        have iw:List.take 1 (List.drop k (c.map I))=[I x]:=by
         rw[List.drop_eq_getElem_cons (by simpa using cq)]
         simp[hx]
        rw[iw]
        refine⟨i64 (by omega) (by omega),by omega,by omega,by omega,nk _ ⟨⟨⟨by simp[e1],by simp[e2],by simp[e4],by simp[e7],by simp[bL],by simp[e26],by simp[bJ]⟩,by simp[e8],by simp[e9],by simp[aH],by simp[cT],by simp[cM],by simp[eG]⟩,by simp[aQ],by simp[lM,Ne.symm rG],?_⟩⟩
        simp[List.map_set]
        rfl
       clear e1 e2 e4 e7 bL e26 bJ e8 e9 aH cT cM eG aE aQ lM lb
       rintro st ⟨⟨⟨e1,e2,e4,e7,bL,e26,bJ⟩,e8,e9,aH,cT,cM,eG⟩,aQ,lM,lb⟩
       refine ay (fun st=>((st.env 1=.ref (bO ns cs)∧st.env 2=I (cR ns cs i).1∧st.env 4=aN ns cs∧st.env 7=I (cR ns cs i).2∧st.env 25=ILL cs∧st.env 26=I cs.length∧st.env 27=I i)∧st.env 8=I i∧st.env 9=.ref [IL c]∧st.env 10=I (iz ns cs i (c.take k))∧st.env 37=IL c∧st.env 38=I c.length∧st.env 39=I k)∧st.env 13=.ref [I W.1,I W.2]) ?_ ?_
       ·intro k4 nk
        have XZ:((cs.set i [x]).map IL++List.replicate r (AV.slice 1 [] 0)).all AV.bE=true:=by
         rw[List.all_eq_true]
         intro y hy
         rcases List.mem_append.1 hy with hy|hy
         ·obtain⟨z,_,rfl⟩:=List.mem_map.1 hy;rfl
         ·rw[(List.mem_replicate.1 hy).2];rfl
        have X0:chunk 1 ((cs.set i [x]).map IL++List.replicate r (AV.slice 1 [] 0)) cs.length=(cs.set i [x]).map IL:=by
         rw[tN _ _ (by simp) (fun y hy=>by
          rcases List.mem_append.1 hy with hy|hy
          ·obtain⟨z,_,rfl⟩:=List.mem_map.1 hy;rfl
          ·rw[(List.mem_replicate.1 hy).2];rfl)]
         rw[List.take_append_of_le_length (by simp)]
         exact List.take_of_length_le (by simp)
        simp -implicitDefEqProofs [aQ,lM]
        refine vG 2 b _ (cs.length+r) 1 rfl rG (by simpa using lb) (by simp) XZ (by omega) ?_
        rw[X0]
        simp -implicitDefEqProofs [ak,Ne.symm rG,aQ]
        refine ER ?_
        simp -implicitDefEqProofs [ak]
        rw[show(List.map IL cs).set i (IL [x])=(cs.set i [x]).map IL by rw[List.map_set]]
        refine aL c5 ?_
        simp -implicitDefEqProofs
        intro b9 pT
        exact nk _ ⟨⟨⟨by simp[ak,e1],by simp[ak,e2],by simp[ak,e4],by simp[ak,e7],by simp[ak,bL],by simp[ak,e26],by simp[ak,bJ]⟩,by simp[ak,e8],by simp[ak,e9],by simp[ak,aH],by simp[ak,cT],by simp[ak,cM],by simp[ak,eG]⟩,by simp⟩
       clear e1 e2 e4 e7 bL e26 bJ e8 e9 aH cT cM eG aQ lM lb
       rintro st ⟨⟨⟨e1,e2,e4,e7,bL,e26,bJ⟩,e8,e9,aH,cT,cM,eG⟩,eF⟩
       simp -implicitDefEqProofs [aH,eF]
       refine⟨i64 (by omega) (by omega),?_⟩
       refine hk3 _ ⟨⟨by simp[e1],by simp[e2],by simp[e4],by simp[e7],by simp[bL],by simp[e26],by simp[bJ]⟩,by simp[e8],by simp[e9],?_,by simp[cT],by simp[cM],by simp[eG]⟩
       simp[nC]
      clear e1 e2 e4 e7 bL e26 bJ e8 e9 aH cT cM eG
      rintro st ⟨⟨e1,e2,e4,e7,bL,e26,bJ⟩,e8,e9,aH,cT,cM,eG⟩
      simp -implicitDefEqProofs [eG]
      refine⟨i64 (by omega) (by omega),bz cq ⟨⟨by simp[e1],by simp[e2],by simp[e4],by simp[e7],by simp[bL],by simp[e26],by simp[bJ]⟩,by simp[e8],by simp[e9],?_,by simp[cT],by simp[cM],by simp⟩⟩
      simp[aH]
     ·obtain rfl:k=c.length:=by omega
      simp -implicitDefEqProofs
      refine hk2 _ ⟨⟨by simp[e1],by simp[e2],by simp[e4],by simp[e7],by simp[bL],by simp[e26],by simp[bJ]⟩,by simp[e8],?_⟩
      simpa using aH
    clear e1 e2 e4 e7 bL e26 bJ e8 e9 aH
    rintro st ⟨⟨e1,e2,e4,e7,bL,e26,bJ⟩,e8,aH⟩
    obtain⟨p,hp⟩:∃p,p=cR ns cs i:=⟨_,rfl⟩
    obtain⟨w,hw⟩:∃w,w=iz ns cs i c:=⟨_,rfl⟩
    rw[←hp,←hw] at hstep
    rw[←hp] at e2 e7
    rw[←hw] at aH
    simp -implicitDefEqProofs [e7]
    by_cases Cu:p.2<0
    ·rw[if_pos (.inl Cu)] at hstep
     simp -implicitDefEqProofs [Cu,e8,aH]
     exact bq _ (by rw[hstep];exact⟨by simp[e1],by simp,by simp[e4],by simp,by simp[bL],by simp[e26],by simp[bJ]⟩)
    ·simp -implicitDefEqProofs [Cu,e7,aH]
     refine bY (fun hwp=> ?_) (fun hwp=> ?_)
     ·rw[if_pos (.inr hwp)] at hstep
      simp -implicitDefEqProofs [e8,aH]
      exact bq _ (by rw[hstep];exact⟨by simp[e1],by simp,by simp[e4],by simp,by simp[bL],by simp[e26],by simp[bJ]⟩)
     ·rw[if_neg (by rintro(h1|h1)<;>contradiction)] at hstep
      exact bq _ (by rw[hstep];exact⟨by simp[e1],by simp[e2],by simp[e4],by simp[e7],by simp[bL],by simp[e26],by simp[bJ]⟩)
   clear e1 e2 e4 e7 bL e26 bJ
   rintro st ⟨e1,e2,e4,e7,bL,e26,bJ⟩
   simp -implicitDefEqProofs [bJ]
   exact⟨i64 (by omega) (by omega),bz hlt ⟨by simp[e1],by simp[e2],by simp[e4],by simp[e7],by simp[bL],by simp[e26],by simp⟩⟩
  ·obtain rfl:i=cs.length:=by omega
   simp -implicitDefEqProofs
   exact bM _ ⟨by simp[e2],by simp[e7]⟩
 clear e1 e2 e4 e7
 rintro st ⟨e2,e7⟩
 have hnb:¬(cR ns cs cs.length).2<0:=by omega
 simp -implicitDefEqProofs [e2,e7,hnb,JS]
end Go.Proofs.YtmcdlpegncaihaaGreat.C
namespace Go.Proofs.YtmcdlpegncaihaaGreat.C
open Go.Z4
theorem X1(c:List Int):aG Tryz.prog 67 [.agg [IL c]] (B (decide (1<c.length))):=by
 refine pc t67 (by simp) fun hfit=> ?_
 simp -implicitDefEqProofs [J4,J5]
 omega
theorem X2(l:List (List Int)):aG Tryz.prog 97 [ILL l,.func (.func 67) [] []] (I (firstAt (fun c:List Int=>decide (1<c.length)) l)):=by
 refine pc t97 (by simp) fun hfit=> ?_
 have hl:=aaJ (hfit 0)
 simp only[List.length_map] at hl
 simp -implicitDefEqProofs only[J_]
 refine ay (fun st=>st.env 0=ILL l∧st.env 1=.func (.func 67) [] []) ?_ ?_
 ·intro k hk
  simp -implicitDefEqProofs
  exact hk _ (by simp)
 rintro st ⟨e0,e1⟩
 simp -implicitDefEqProofs only[cK]
 simp -implicitDefEqProofs [e0]
 refine bP l.length (fun k st=>st.env 0=ILL l∧st.env 1=.func (.func 67) [] []∧st.env 7=I l.length∧st.env 8=I k∧∀y∈l.take k,(decide (1<y.length))=false) ?_ ?_
 ·simp[e0,e1]
 clear e0 e1 st
 rintro k st hk ⟨e0,e1,e7,e8,hno⟩
 simp -implicitDefEqProofs [e7,e8]
 refine bY (fun hlt=> ?_) (fun hge=> ?_)
 ·refine fP ?_
  refine ay (fun st=>st.env 0=ILL l∧st.env 1=.func (.func 67) [] []∧st.env 5=I k∧st.env 7=I l.length∧st.env 8=I k) ?_ ?_
  ·intro k1 bq
   simp -implicitDefEqProofs [e8]
   exact bq _ (by simp[e0,e1,e7,e8])
  clear e0 e1 e7 e8
  rintro st ⟨e0,e1,e5,e7,e8⟩
  simp -implicitDefEqProofs [e0,e1,e5,hlt]
  refine aL (X1 l[k]) ?_
  simp -implicitDefEqProofs
  refine bY (fun he=> ?_) (fun he=> ?_)
  ·have hc:firstAt (fun c:List Int=>decide (1<c.length)) l=k:=n6 hlt (by simp[he]) hno
   simp -implicitDefEqProofs [e5,BC,hc]
  ·simp -implicitDefEqProofs [e8]
   refine⟨i64 (by omega) (by omega),bz hlt ⟨by simp[e0],by simp[e1],by simp[e7],by simp,?_⟩⟩
   intro y hy
   rw[dW hlt,List.mem_append,List.mem_singleton] at hy
   rcases hy with hy|hy
   ·have:=hno _ hy
    simpa using this
   ·rw[hy]
    omega
 ·obtain rfl:k=l.length:=by omega
  have hc:firstAt (fun c:List Int=>decide (1<c.length)) l= -1:=pF (by simpa using hno)
  simp -implicitDefEqProofs [BC,hc]
theorem K6(l:List (List Int)):aG Tryz.prog 68 [ILL l,.func (.func 67) [] []] (B (l.any fun c=>decide (1<c.length))):=by
 refine pc t68 (by simp) fun hfit=> ?_
 have c:=X2 l
 simp -implicitDefEqProofs [J6]
 refine aL c ?_
 simp -implicitDefEqProofs [J7]
 exact(qS _ _).symm
def j6(ms t u:List Int)(n:Nat):Bool:=decide (0<t.count (n:Int))&&(decide (0≤ms.getD n (-1))&&decide (0<u.count (ms.getD n (-1))))
def pW(t u:List Int)(n:Nat):Bool:=decide (0<t.count (n:Int))&&decide (0<u.count (n:Int))
def uj(ms t u:List Int):List Int×Int:=if (List.range ms.length).any (pW t u) then ([],5) else (aS (j6 ms t u) ms.length,0)
def Cv(P:Program)(ms:List au)(K:St→Prop)(s:St)(b off sz aP:Nat):Option (List AV)→Prop
 |some cs=>off<cs.length∧vcs P ms K ((s.aB aP).new b ((cs.map (az aP)).set off (.slice sz [] aP)))
 |none=>False
def Cw(P:Program)(ms:List au)(K:St→Prop)(s:St)(sz aP:Nat):AV→Prop
 |.aj b off=>Cv P ms K s b off sz aP (s.loc b)
 |_=>False
theorem X3(P:Program)(ms:List au)(K:St→Prop)(s:St)(x:ai)(sz aP:Nat):vcs P (.jG x sz aP::ms) K s=Cw P ms K s sz aP (x.ev s.env):=by unfold Cw Cv;rfl
attribute [simp] X3 Cw Cv
theorem K7{ns:List Nat}{cs1 aU:List (List Int)}(h1:eP ns cs1)(h2:eP ns aU)(hd1:(cs1.any fun c=>decide (1<c.length))=false)(er:(aU.any fun c=>decide (1<c.length))=false){t u:List Int}(ht:bG cs1=[t])(hu:bG aU=[u]):aG Tryz.prog 37 [.agg (cy ns),ILL cs1,ILL aU] (.tuple [IL (uj (bw ns) t u).1,I (uj (bw ns) t u).2]):=by
 refine pc t37 (by simp) fun _=> ?_
 have c1:=rm h1
 have c2:=rm h2
 have c3:=K6 cs1
 have c4:=K6 aU
 have c5:=tP (xC ns cs1)
 have c6:=tP (xC ns aU)
 rw[hd1] at c3
 rw[er] at c4
 simp -implicitDefEqProofs only[JT]
 refine ay (fun st=>st.env 1=ILL cs1∧st.env 2=ILL aU∧st.env 3=.ref (cy ns)∧∃C D,C≠D∧st.env 6=.aj C 0∧st.env 7=.aj D 0∧st.loc C=some [.slice 1 [] 7000]∧st.loc D=some [I 0]) ?_ ?_
 ·intro k hk
  simp -implicitDefEqProofs
  intro C D hD
  have hne:¬D=C:=by rintro rfl;simp at hD
  exact hk _ ⟨by simp,by simp,by simp,C,D,Ne.symm hne,by simp,by simp,by simp[Ne.symm hne],by simp⟩
 rintro st ⟨e1,e2,e3,C,D,pX,e6,e7,lC,lD⟩
 refine ay (fun st=>st.env 1=ILL cs1∧st.env 2=ILL aU∧st.env 3=.ref (cy ns)∧st.env 6=.aj C 0∧st.env 7=.aj D 0∧st.env 8=.ref [aN ns cs1]∧st.loc C=some [.slice 1 [] 7000]∧st.loc D=some [I 0]) ?_ ?_
 ·intro k hk
  simp -implicitDefEqProofs [e1,e3]
  refine aL c1 ?_
  simp -implicitDefEqProofs
  intro b hb
  have Cx:¬C=b:=by rintro rfl;rw[lC] at hb;cases hb
  have Cy:¬D=b:=by rintro rfl;rw[lD] at hb;cases hb
  simp -implicitDefEqProofs [e7,Cy,lD]
  exact hk _ (by simp[e1,e2,e3,e6,e7,pX,Cx,lC])
 clear e1 e2 e3 e6 e7 lC lD
 rintro st ⟨e1,e2,e3,e6,e7,e8,lC,lD⟩
 refine ay (fun st=>st.env 1=ILL cs1∧st.env 2=ILL aU∧st.env 3=.ref (cy ns)∧st.env 6=.aj C 0∧st.env 7=.aj D 0∧st.env 8=.ref [aN ns cs1]∧st.loc C=some [.slice 1 [] 7000]∧st.loc D=some [I 0]) ?_ ?_
 ·intro k hk
  simp -implicitDefEqProofs [e7,lD]
  exact hk _ (by simp[e1,e2,e3,e6,e7,e8,lC,lD])
 clear e1 e2 e3 e6 e7 e8 lC lD
 rintro st ⟨e1,e2,e3,e6,e7,e8,lC,lD⟩
 refine ay (fun st=>st.env 1=ILL cs1∧st.env 2=ILL aU∧st.env 6=.aj C 0∧st.env 7=.aj D 0∧st.env 8=.ref [aN ns cs1]∧st.env 11=.ref [aN ns aU]∧st.loc C=some [.slice 1 [] 7000]∧st.loc D=some [I 0]) ?_ ?_
 ·intro k hk
  simp -implicitDefEqProofs [e2,e3]
  refine aL c2 ?_
  simp -implicitDefEqProofs
  intro b hb
  have Cx:¬C=b:=by rintro rfl;rw[lC] at hb;cases hb
  have Cy:¬D=b:=by rintro rfl;rw[lD] at hb;cases hb
  simp -implicitDefEqProofs [e7,Cy,lD]
  exact hk _ (by simp[e1,e2,e6,e7,e8,pX,Cx,lC])
 clear e1 e2 e3 e6 e7 e8 lC lD
 rintro st ⟨e1,e2,e6,e7,e8,aE,lC,lD⟩
 refine ay (fun st=>st.env 1=ILL cs1∧st.env 2=ILL aU∧st.env 6=.aj C 0∧st.env 7=.aj D 0∧st.env 8=.ref [aN ns cs1]∧st.env 11=.ref [aN ns aU]∧st.loc C=some [.slice 1 [] 7000]∧st.loc D=some [I 0]) ?_ ?_
 ·intro k hk
  simp -implicitDefEqProofs [e7,lD]
  exact hk _ (by simp[e1,e2,e6,e7,e8,aE,lC,lD])
 clear e1 e2 e6 e7 e8 aE lC lD
 rintro st ⟨e1,e2,e6,e7,e8,aE,lC,lD⟩
 refine ay (fun st=>st.env 1=ILL cs1∧st.env 2=ILL aU∧st.env 6=.aj C 0∧st.env 7=.aj D 0∧st.env 8=.ref [aN ns cs1]∧st.env 11=.ref [aN ns aU]∧st.env 14=.func (.func 67) [] []∧st.loc C=some [.slice 1 [] 7000]∧st.loc D=some [I 0]) ?_ ?_
 ·intro k hk
  simp -implicitDefEqProofs
  exact hk _ (by simp[e1,e2,e6,e7,e8,aE,lC,lD])
 clear e1 e2 e6 e7 e8 aE lC lD
 rintro st ⟨e1,e2,e6,e7,e8,aE,Z_,lC,lD⟩
 refine ay (fun st=>st.env 6=.aj C 0∧st.env 7=.aj D 0∧st.env 8=.ref [aN ns cs1]∧st.env 11=.ref [aN ns aU]∧st.loc C=some [.slice 1 [] 7000]∧st.loc D=some [I 0]) ?_ ?_
 ·intro k hk
  simp -implicitDefEqProofs [e1,Z_]
  refine aL c3 ?_
  simp -implicitDefEqProofs [e2,Z_]
  refine aL c4 ?_
  simp -implicitDefEqProofs
  exact hk _ (by simp[e6,e7,e8,aE,lC,lD])
 clear e1 e2 e6 e7 e8 aE Z_ lC lD
 rintro st ⟨e6,e7,e8,aE,lC,lD⟩
 obtain⟨ms,Z9⟩:∃ms,ms=bw ns:=⟨_,rfl⟩
 have hML:ms.length≤120:=by rw[Z9];simp[bw];exact h1.toOKb.leaves
 have q1:=tO h1
 have q2:=tO h2
 rw[ht] at q1
 rw[hu] at q2
 have htl:=t_ h1 (t:=t) (by rw[ht];simp)
 have uO:=t_ h2 (t:=u) (by rw[hu];simp)
 rw[←Z9]
 obtain⟨tw,rC⟩:∃tw,tw=(List.range ms.length).any (pW t u):=⟨_,rfl⟩
 unfold uj
 rw[←rC]
 obtain⟨S,hS⟩:∃S,S=aS (j6 ms t u) ms.length:=⟨_,rfl⟩
 rw[←hS]
 refine ay (fun st=>tw=false∧st.env 6=.aj C 0∧st.env 7=.aj D 0∧st.loc C=some [.slice 1 (S.map I) 7000]∧st.loc D=some [I 0]) ?_ ?_
 ·intro k0 bM
  refine ay (fun st=>st.env 6=.aj C 0∧st.env 7=.aj D 0∧st.env 8=.ref [aN ns cs1]∧st.env 11=.ref [aN ns aU]∧st.loc C=some [.slice 1 [] 7000]∧st.loc D=some [I 0]∧st.env 54=.func (.func 78) [] [.ref [aN ns cs1]]) ?_ ?_
  ·intro k hk
   simp -implicitDefEqProofs [e8]
   refine aL c5 ?_
   simp -implicitDefEqProofs
   exact hk _ (by simp[e6,e7,e8,aE,lC,lD])
  clear e6 e7 e8 aE lC lD
  rintro st ⟨e6,e7,e8,aE,lC,lD,wD⟩
  simp -implicitDefEqProofs [wD]
  have E6:=e6
  have E7:=e7
  have E8:=e8
  have X4:=aE
  refine sV [IL t] (fun j st=>st.env 6=.aj C 0∧st.env 7=.aj D 0∧st.env 8=.ref [aN ns cs1]∧st.env 11=.ref [aN ns aU]∧st.loc C=some [.slice 1 (if j=0 then [] else S.map I) 7000]∧st.loc D=some [I 0]∧(j=1→tw=false)) q1 ?_ ?_ ?_
  ·simp[e6,e7,e8,aE,lC,lD]
  ·rintro j m_ hj - ⟨e6,e7,e8,aE,lC,lD,-⟩ g sz len cap ds hg hLO
   obtain rfl:j=0:=by simpa using hj
   rw[show([IL t]:List AV).getD 0 .any=IL t from rfl] at hLO⊢
   obtain⟨rfl,rfl⟩:=tZ hLO
   have rH:¬C=g:=by rintro rfl;rw[lC] at hg;cases hg
   have ng:¬D=g:=by rintro rfl;rw[lD] at hg;cases hg
   simp only[if_pos] at lC
   refine q6 (fun st=>st.env 6=.aj C 0∧st.env 7=.aj D 0∧st.env 8=.ref [aN ns cs1]∧st.env 11=.ref [aN ns aU]∧st.loc C=some [.slice 1 [] 7000]∧st.loc D=some [I 0]∧st.loc g=some ds∧∃T,T≠g∧T≠C∧st.env 15=.aj T 0∧st.loc T=some [.aq g 0 t.length cap 1]) ?_ ?_
   ·intro k hk
    simp -implicitDefEqProofs [putAt]
    intro T hT
    have Cz:¬T=g:=by rintro rfl;simp at hT
    have xl:¬C=T:=by rintro rfl;simp[rH,lC] at hT
    have X5:¬D=T:=by rintro rfl;simp[ng,lD] at hT
    exact hk _ ⟨by simp[e6],by simp[e7],by simp[e8],by simp[aE],by simp[xl,rH,lC],by simp[X5,ng,lD],by simp[Ne.symm Cz],T,Cz,Ne.symm xl,by simp,by simp⟩
   clear e6 e7 e8 aE lC lD hj
   rintro st ⟨e6,e7,e8,aE,lC,lD,lg,T,Cz,xl,bN,lT⟩
   simp -implicitDefEqProofs only[gO]
   refine ay (fun st=>st.env 6=.aj C 0∧st.env 7=.aj D 0∧st.env 8=.ref [aN ns cs1]∧st.env 11=.ref [aN ns aU]∧st.loc C=some [.slice 1 [] 7000]∧st.loc D=some [I 0]∧st.loc g=some ds∧st.env 15=.aj T 0∧st.loc T=some [.aq g 0 t.length cap 1]∧st.env 57=.func (.func 78) [] [.ref [aN ns aU]]) ?_ ?_
   ·intro k hk
    simp -implicitDefEqProofs [aE]
    refine aL c6 ?_
    simp -implicitDefEqProofs
    exact hk _ (by simp[e6,e7,e8,aE,lC,lD,lg,bN,lT])
   clear e6 e7 e8 aE lC lD lg bN lT
   rintro st ⟨e6,e7,e8,aE,lC,lD,lg,bN,lT,gB⟩
   simp -implicitDefEqProofs only[gO]
   simp -implicitDefEqProofs [gB]
   have F6:=e6
   have F7:=e7
   have F8:=e8
   have X6:=aE
   have X7:=bN
   refine sV [IL u] (fun j st=>st.env 6=.aj C 0∧st.env 7=.aj D 0∧st.env 8=.ref [aN ns cs1]∧st.env 11=.ref [aN ns aU]∧st.loc C=some [.slice 1 (if j=0 then [] else S.map I) 7000]∧st.loc D=some [I 0]∧(j=1→tw=false)∧st.loc g=some ds∧st.env 15=.aj T 0∧st.loc T=some [.aq g 0 t.length cap 1]) q2 ?_ ?_ ?_
   ·simp[e6,e7,e8,aE,lC,lD,lg,bN,lT]
   ·rintro j iY hj - ⟨e6,e7,e8,aE,lC,lD,-,lg,bN,lT⟩ g2 b_ g_ ql iX jR uk
    obtain rfl:j=0:=by simpa using hj
    rw[show([IL u]:List AV).getD 0 .any=IL u from rfl] at uk⊢
    obtain⟨rfl,rfl⟩:=tZ uk
    simp only[if_pos] at lC
    have um:¬C=g2:=by rintro rfl;rw[lC] at jR;cases jR
    have jA:¬D=g2:=by rintro rfl;rw[lD] at jR;cases jR
    have CA:¬g=g2:=by rintro rfl;rw[lg] at jR;cases jR
    have K8:¬T=g2:=by rintro rfl;rw[lT] at jR;cases jR
    refine q6 (fun st=>st.env 6=.aj C 0∧st.env 7=.aj D 0∧st.env 8=.ref [aN ns cs1]∧st.env 11=.ref [aN ns aU]∧st.loc C=some [.slice 1 [] 7000]∧st.loc D=some [I 0]∧st.loc g=some ds∧st.env 15=.aj T 0∧st.loc T=some [.aq g 0 t.length cap 1]∧st.loc g2=some iX∧st.env 16=.aq g2 0 u.length ql 1) ?_ ?_
    ·intro k hk
     simp -implicitDefEqProofs [putAt]
     exact hk _ (by simp[e6,e7,e8,aE,um,jA,CA,K8,lC,lD,lg,bN,lT])
    clear e6 e7 e8 aE lC lD lg bN lT hj
    rintro st ⟨e6,e7,e8,aE,lC,lD,lg,bN,lT,cG,bh⟩
    simp -implicitDefEqProofs only[gO]
    have K9:dA st (.aq g 0 t.length cap 1) t:=⟨g,cap,ds,rfl,lg,hLO⟩
    have K_:dA st (.aq g2 0 u.length ql 1) u:=⟨g2,ql,iX,rfl,cG,uk⟩
    refine ay (fun st=>st.env 6=.aj C 0∧st.env 7=.aj D 0∧st.env 8=.ref [aN ns cs1]∧st.loc C=some [.slice 1 [] 7000]∧st.loc D=some [I 0]∧st.loc g=some ds∧st.env 15=.aj T 0∧st.loc T=some [.aq g 0 t.length cap 1]∧st.loc g2=some iX∧st.env 17=.fmap (bR (cQ t))∧st.env 18=.fmap (bR (cQ u))) ?_ ?_
    ·intro k hk
     simp -implicitDefEqProofs [e8,bN,lT]
     refine vD (ys:=[aN ns cs1,IL t]) ?_ (wS _) (w4 _ t (by omega)) ?_
     ·simp -implicitDefEqProofs
      exact K9.views
     simp -implicitDefEqProofs [aE,bh]
     refine vD (ys:=[aN ns aU,IL u]) ?_ (wS _) (w4 _ u (by omega)) ?_
     ·simp -implicitDefEqProofs
      exact K_.views
     simp -implicitDefEqProofs
     exact hk _ (by simp[e6,e7,e8,lC,lD,lg,bN,lT,cG])
    clear e6 e7 e8 aE lC lD lg bN lT cG bh K9 K_
    rintro st ⟨e6,e7,e8,lC,lD,lg,bN,lT,cG,aY,bg⟩
    refine ay (fun st=>st.env 6=.aj C 0∧st.env 7=.aj D 0∧st.loc C=some [.slice 1 ((aS (j6 ms t u) 0).map I) 7000]∧st.loc D=some [I 0]∧st.loc g=some ds∧st.loc T=some [.aq g 0 t.length cap 1]∧st.loc g2=some iX∧st.env 17=.fmap (bR (cQ t))∧st.env 18=.fmap (bR (cQ u))∧st.env 68=IL ms∧st.env 69=I ms.length∧st.env 70=I (0:Nat)) ?_ ?_
    ·intro k hk
     simp -implicitDefEqProofs [e8,←Z9]
     exact hk _ ⟨by simp[e6],by simp[e7],by simp[lC,aS],by simp[lD],by simp[lg],by simp[lT],by simp[cG],by simp[aY],by simp[bg],by simp,by simp,by simp⟩
    clear e6 e7 e8 lC lD lg bN lT cG aY bg
    rintro st ⟨e6,e7,lC,lD,lg,lT,cG,aY,bg,fj,fk,eY⟩
    simp -implicitDefEqProofs only[gO]
    refine bP ms.length (fun k st=>(∀n,n<k→pW t u n=false)∧st.env 6=.aj C 0∧st.env 7=.aj D 0∧st.loc C=some [.slice 1 ((aS (j6 ms t u) k).map I) 7000]∧st.loc D=some [I 0]∧st.loc g=some ds∧st.loc T=some [.aq g 0 t.length cap 1]∧st.loc g2=some iX∧st.env 17=.fmap (bR (cQ t))∧st.env 18=.fmap (bR (cQ u))∧st.env 68=IL ms∧st.env 69=I ms.length∧st.env 70=I k) ?_ ?_
    ·exact⟨fun n hn=>absurd hn (Nat.not_lt_zero _),e6,e7,lC,lD,lg,lT,cG,aY,bg,fj,fk,eY⟩
    clear e6 e7 lC lD lg lT cG aY bg fj fk eY st
    rintro k st hk ⟨hno,e6,e7,lC,lD,lg,lT,cG,aY,bg,fj,fk,eY⟩
    simp -implicitDefEqProofs [fk,eY]
    refine bY (fun hlt=> ?_) (fun hge=> ?_)
    ·refine fP ?_
     have hgd:ms.getD k (-1)=ms[k]:=by simp[hlt]
     refine ay (fun st=>(st.env 6=.aj C 0∧st.env 7=.aj D 0∧st.loc C=some [.slice 1 ((aS (j6 ms t u) k).map I) 7000]∧st.loc D=some [I 0]∧st.loc g=some ds∧st.loc T=some [.aq g 0 t.length cap 1]∧st.loc g2=some iX∧st.env 17=.fmap (bR (cQ t))∧st.env 18=.fmap (bR (cQ u))∧st.env 68=IL ms∧st.env 69=I ms.length∧st.env 70=I k)∧st.env 19=I k∧st.env 20=I ms[k]) ?_ ?_
     ·intro k1 bq
      simp -implicitDefEqProofs [fj,eY,hlt]
      exact bq _ ⟨⟨by simp[e6],by simp[e7],by simp[lC],by simp[lD],by simp[lg],by simp[lT],by simp[cG],by simp[aY],by simp[bg],by simp[fj],by simp[fk],by simp[eY]⟩,by simp,by simp⟩
     clear e6 e7 lC lD lg lT cG aY bg fj fk eY
     rintro st ⟨⟨e6,e7,lC,lD,lg,lT,cG,aY,bg,fj,fk,eY⟩,fO,dh⟩
     simp -implicitDefEqProofs only[gO]
     refine ay (fun st=>(st.env 6=.aj C 0∧st.env 7=.aj D 0∧st.loc C=some [.slice 1 ((aS (j6 ms t u) k).map I) 7000]∧st.loc D=some [I 0]∧st.loc g=some ds∧st.loc T=some [.aq g 0 t.length cap 1]∧st.loc g2=some iX∧st.env 17=.fmap (bR (cQ t))∧st.env 18=.fmap (bR (cQ u))∧st.env 68=IL ms∧st.env 69=I ms.length∧st.env 70=I k)∧st.env 19=I k∧st.env 20=I ms[k]∧st.env 75=B (pW t u k)) ?_ ?_
     ·intro k1 bq
      simp -implicitDefEqProofs [aY,fO]
      refine pQ ?_
      rw[kR]
      by_cases eB:(k:Int)∈t
      ·have h1:0<t.count (k:Int):=List.count_pos_iff.2 eB
       simp -implicitDefEqProofs [bg,fO,eB]
       refine pQ ?_
       rw[kR]
       simp -implicitDefEqProofs
       refine bq _ ⟨⟨by simp[e6],by simp[e7],by simp[lC],by simp[lD],by simp[lg],by simp[lT],by simp[cG],by simp[aY],by simp[bg],by simp[fj],by simp[fk],by simp[eY]⟩,by simp[fO],by simp[dh],?_⟩
       simp[pW,eB]
      ·simp -implicitDefEqProofs [eB]
       refine bq _ ⟨⟨by simp[e6],by simp[e7],by simp[lC],by simp[lD],by simp[lg],by simp[lT],by simp[cG],by simp[aY],by simp[bg],by simp[fj],by simp[fk],by simp[eY]⟩,by simp[fO],by simp[dh],?_⟩
       simp[pW,eB]
     clear e6 e7 lC lD lg lT cG aY bg fj fk eY fO dh
     rintro st ⟨⟨e6,e7,lC,lD,lg,lT,cG,aY,bg,fj,fk,eY⟩,fO,dh,tE⟩
     simp -implicitDefEqProofs [tE]
     refine c8 (fun hq=> ?_) (fun hq=> ?_)
     ·have X8:tw=true:=by
       rw[rC,List.any_eq_true]
       exact⟨k,by simpa using hlt,hq⟩
      have CB:∀r,ds.map (az r)=ds:=fun r=>jy hLO.2.2.2.2.2 r
      have CC:∀r,iX.map (az r)=iX:=fun r=>jy uk.2.2.2.2.2 r
      simp -implicitDefEqProofs [e6,e7,lC,lD,pX,Ne.symm pX,lg,cG,CB,CC,rH,ng,um,jA,CA,Ne.symm rH,Ne.symm ng,Ne.symm um,Ne.symm jA,X8,By,E6,E7,F6,F7,IL]
     ·refine ay (fun st=>(st.env 6=.aj C 0∧st.env 7=.aj D 0∧st.loc C=some [.slice 1 ((aS (j6 ms t u) k).map I) 7000]∧st.loc D=some [I 0]∧st.loc g=some ds∧st.loc T=some [.aq g 0 t.length cap 1]∧st.loc g2=some iX∧st.env 17=.fmap (bR (cQ t))∧st.env 18=.fmap (bR (cQ u))∧st.env 68=IL ms∧st.env 69=I ms.length∧st.env 70=I k)∧st.env 19=I k∧st.env 86=B (j6 ms t u k)) ?_ ?_
      ·intro k1 bq
       simp -implicitDefEqProofs [aY,fO]
       refine pQ ?_
       rw[kR]
       by_cases eB:(k:Int)∈t
       ·by_cases pI:0≤ms[k]
        ·simp -implicitDefEqProofs [bg,dh,eB,pI]
         refine pQ ?_
         rw[kR]
         simp -implicitDefEqProofs
         refine bq _ ⟨⟨by simp[e6],by simp[e7],by simp[lC],by simp[lD],by simp[lg],by simp[lT],by simp[cG],by simp[aY],by simp[bg],by simp[fj],by simp[fk],by simp[eY]⟩,by simp[fO],?_⟩
         simp[j6,eB,pI,hlt]
        ·simp -implicitDefEqProofs [dh,eB,pI]
         refine bq _ ⟨⟨by simp[e6],by simp[e7],by simp[lC],by simp[lD],by simp[lg],by simp[lT],by simp[cG],by simp[aY],by simp[bg],by simp[fj],by simp[fk],by simp[eY]⟩,by simp[fO],?_⟩
         simp[j6,pI,hlt]
       ·simp -implicitDefEqProofs [eB]
        refine bq _ ⟨⟨by simp[e6],by simp[e7],by simp[lC],by simp[lD],by simp[lg],by simp[lT],by simp[cG],by simp[aY],by simp[bg],by simp[fj],by simp[fk],by simp[eY]⟩,by simp[fO],?_⟩
        simp[j6,eB]
      clear e6 e7 lC lD lg lT cG aY bg fj fk eY fO dh tE
      rintro st ⟨⟨e6,e7,lC,lD,lg,lT,cG,aY,bg,fj,fk,eY⟩,fO,X9⟩
      have La:∀n,n<k+1→pW t u n=false:=fun n hn=>by
       by_cases e:n=k
       ·rw[e];exact hq
       ·exact hno n (by omega)
      have tI:=aaB (j6 ms t u) k
      simp -implicitDefEqProofs [X9]
      refine c8 (fun jJ=> ?_) (fun jJ=> ?_)
      ·have hst:=kP jJ
       have CB:∀r,ds.map (az r)=ds:=fun r=>jy hLO.2.2.2.2.2 r
       have CC:∀r,iX.map (az r)=iX:=fun r=>jy uk.2.2.2.2.2 r
       simp -implicitDefEqProofs [e6,fO,lC,eY]
       exact⟨by omega,by omega,i64 (by omega) (by omega),bz hlt ⟨La,by simp[e6],by simp[e7],by simp[hst],by simp[lD,Ne.symm pX],by simp[lg,CB,Ne.symm rH],by simp[lT,xl],by simp[cG,CC,Ne.symm um],by simp[aY],by simp[bg],by simp[fj],by simp[fk],by simp⟩⟩
      ·have hst:=j0 jJ
       simp -implicitDefEqProofs [eY]
       exact⟨i64 (by omega) (by omega),bz hlt ⟨La,by simp[e6],by simp[e7],by simp[lC,hst],by simp[lD],by simp[lg],by simp[lT],by simp[cG],by simp[aY],by simp[bg],by simp[fj],by simp[fk],by simp⟩⟩
    ·obtain rfl:k=ms.length:=by omega
     have h0:tw=false:=by
      rw[rC,List.any_eq_false]
      intro n hn
      rw[hno n (by simpa using hn)]
      simp
     rw[←hS] at lC
     simp -implicitDefEqProofs [cG,F6,F7,F8,X6,X7,um,jA,CA,K8,lC,lD,lg,lT,h0]
   ·rintro m_ - ⟨e6,e7,e8,aE,lC,lD,h,lg,bN,lT⟩
    have h':tw=false:=h rfl
    have X_:m_.loc C=some [.slice 1 (S.map I) 7000]:=lC
    simp -implicitDefEqProofs [E6,E7,E8,X4,lg,rH,ng,X_,lD,h']
  ·rintro m_ - ⟨e6,e7,e8,aE,lC,lD,h⟩
   exact bM _ ⟨h rfl,e6,e7,lC,lD⟩
 clear e6 e7 e8 aE lC lD
 rintro st ⟨Ya,e6,e7,lC,lD⟩
 simp -implicitDefEqProofs [e6,e7,lC,lD,Ya,By,IL,pX,Ne.symm pX]
end Go.Proofs.YtmcdlpegncaihaaGreat.C
namespace Go.Proofs.YtmcdlpegncaihaaGreat.C
open Go.Z4
abbrev nq(l:List (List Int)):AV:=.slice 1 (l.map fun c=>.agg [IL c]) 0
abbrev gE(ns:List Nat)(cs:List (List Int)):List AV:=cy ns++[nq cs]
theorem Yb{w:World}{A:aK}{sz:Nat}{xs ys:List AV}{r:Nat}{v:Value}(hf:xs.flatMap AV.cells=ys.flatMap AV.cells)(hl:xs.length=ys.length)(hs:∀y∈ys,y.cells.length=sz)(h1:∀y∈ys,y.cells.all AV.bE=true)(h:RV w A (.slice sz xs r) v):RV w A (.slice sz ys r) v:=by
 cases h with
 |cH=>
  obtain rfl:ys=[]:=List.eq_nil_of_length_eq_zero hl.symm
  exact .cH sz r
 |slice _ _ _ b off cap vs hsz h1c hcap hlen hc hr=>
  rw[hl]
  exact .slice sz ys r b off cap vs hs h1 (by omega) (by omega) (fun i hi=>hc i (by rw[hl];exact hi)) (fun i=>by rw[←hf];exact hr i)
theorem Yc(cs:List (List Int)):(cs.map fun c=>AV.agg [IL c]).flatMap AV.cells=(cs.map IL).flatMap AV.cells:=by
 induction cs with
 |nil=>rfl
 |cons c cs ih=>simp[ih]
theorem CD{w:World}{A:aK}{cs:List (List Int)}{v:Value}(h:RV w A (nq cs) v):RV w A (ILL cs) v:=Yb (Yc cs) (by simp) (fun y hy=>by obtain⟨c,_,rfl⟩:=List.mem_map.1 hy;rfl) (fun y hy=>by obtain⟨c,_,rfl⟩:=List.mem_map.1 hy;rfl) h
theorem Yd{w:World}{A:aK}{ns:List Nat}{cs:List (List Int)}{v:Value}(h:RV w A (.agg (gE ns cs)) v):RV w A (.agg (bO ns cs)) v:=by
 cases h with
 |agg _ vs hs hr=>
  refine .agg _ vs (by simpa using hs) fun i=> ?_
  have:=hr i
  match i,this with
  |0,h=>exact h
  |1,h=>exact h
  |2,h=>exact CD h
  |n+3,h=>exact .any _
theorem aG.args{P:Program}{f:FuncId}{xs ys:List AV}{r:AV}(h:aG P f ys r)(hl:xs.length=ys.length)(hv:∀w A v,∀i,RV w A (xs.getD i .any) v→RV w A (ys.getD i .any) v):aG P f xs r:=⟨h.1,fun w A vs hA hs hr=>h.2 w A vs hA (by rw[hs,hl]) fun i=>hv w A _ i (hr i)⟩
theorem kX{f:FuncId}{ns:List Nat}{cs:List (List Int)}{r:AV}(h:aG Tryz.prog f [.agg (bO ns cs)] r):aG Tryz.prog f [.agg (gE ns cs)] r:=
 aG.args h rfl fun w A v i hi=>by
  match i,hi with
  |0,hi=>exact Yd hi
  |n+1,hi=>exact .any _
abbrev R6(r:Nat):Prop:=r<1000∨r=6000
theorem Z3.CE{R:Nat→Prop}{s0 s:St}{b:Nat}{cs:List AV}(h:Z3 R s0 s)(hb:∀xs,s0.loc b=some xs→(∀r,R r→xs.map (az r)=xs)→False):Z3 R s0 (s.new b cs):=
 ⟨fun c xs h1 h2=>by
   by_cases e:c=b
   ·subst e;exact(hb xs h1 h2).elim
   ·rw[jm,if_neg e];exact h.l c xs h1 h2,h.g⟩
def c_(l:List Int):List (List Int):=l.map fun n=>if 0≤n then [n] else []
theorem Lb{l:List Int}(hl:l.length≤100000){kn:St→Prop}{ke:Nat→St→Prop}{kr:St→Prop}{st:St}(e0:st.env 0=IL l)(hk:∀s2,Z3 R6 st s2→s2.env 2=.slice 1 ((c_ l).map fun c=>.agg [IL c]) 3→kr s2):br Tryz.prog wK kn ke kr st:=by
 simp -implicitDefEqProofs only[wK]
 obtain⟨s0,hs0⟩:∃s0,s0=st:=⟨_,rfl⟩
 have ho:Z3 R6 s0 st:=by rw[hs0];exact⟨fun _ _ h _=>h,fun _ _ _ h=>h⟩
 rw[←hs0] at hk
 clear hs0
 refine ay (fun st=>st.env 0=IL l∧Z3 R6 s0 st) ?_ ?_
 ·intro k hk
  simp -implicitDefEqProofs
  refine hk _ ⟨by simp[e0],?_⟩
  repeat (first|exact ho|refine Z3.set ?_ _ _ (by decide)|refine Z3.aB ?_ (by decide))
 clear e0 ho
 rintro st ⟨e0,ho⟩
 refine ay (fun st=>st.env 0=IL l∧st.env 3=.slice 1 [] 4∧Z3 R6 s0 st) ?_ ?_
 ·intro k hk
  simp -implicitDefEqProofs
  refine hk _ ⟨by simp[e0],by simp,?_⟩
  repeat (first|exact ho|refine Z3.set ?_ _ _ (by decide)|refine Z3.aB ?_ (by decide))
 clear e0 ho
 rintro st ⟨e0,e3,ho⟩
 refine ay (fun st=>st.env 3=.slice 1 ((c_ l).map fun c=>.agg [IL c]) 4∧Z3 R6 s0 st) ?_ ?_
 ·intro k0 bM
  simp -implicitDefEqProofs only[cK]
  simp -implicitDefEqProofs
  refine bP l.length (fun k st=>st.env 0=IL l∧st.env 3=.slice 1 ((c_ (l.take k)).map fun c=>.agg [IL c]) 4∧st.env 4=I k∧Z3 R6 s0 st) ?_ ?_
  ·refine⟨by simp[e0],by simp[e3,c_],by simp,?_⟩
   repeat (first|exact ho|refine Z3.set ?_ _ _ (by decide)|refine Z3.aB ?_ (by decide))
  clear e0 e3 ho st
  rintro k st hk ⟨e0,e3,e4,ho⟩
  rw[cK]
  simp -implicitDefEqProofs [e0,e4]
  refine bY (fun hlt=> ?_) (fun hge=> ?_)
  ·refine fP ?_
   refine ay (fun st=>st.env 0=IL l∧st.env 3=.slice 1 ((c_ (l.take k)).map fun c=>.agg [IL c]) 4∧st.env 4=I k∧Z3 R6 s0 st∧∃b,st.env 5=.aj b 0∧st.loc b=some [.slice 1 [] 0]∧∀xs,s0.loc b=some xs→(∀r,R6 r→xs.map (az r)=xs)→False) ?_ ?_
   ·intro k1 bq
    simp -implicitDefEqProofs
    intro b hb
    have cF:∀xs,s0.loc b=some xs→(∀r,R6 r→xs.map (az r)=xs)→False:=fun xs h1 h2=>by
     have:=ho.l b xs h1 h2
     rw[this] at hb;cases hb
    refine bq _ ⟨by simp[e0],by simp[e3],by simp[e4],?_,b,by simp,by simp,cF⟩
    repeat (first|exact ho|refine Z3.set ?_ _ _ (by decide)|refine Z3.aB ?_ (by decide)|refine Z3.CE ?_ cF)
   clear e0 e3 e4 ho
   rintro st ⟨e0,e3,e4,ho,b,e5,lb,cF⟩
   have hit:c_ (l.take (k+1))=c_ (l.take k)++[if 0≤l[k] then [l[k]] else []]:=by unfold c_;rw[dW hlt,List.map_append];rfl
   obtain⟨c,hc⟩:∃c,c=(if 0≤l[k] then [l[k]] else []:List Int):=⟨_,rfl⟩
   rw[←hc] at hit
   refine ay (fun st=>st.env 0=IL l∧st.env 3=.slice 1 ((c_ (l.take k)).map fun c=>.agg [IL c]) 4∧st.env 4=I k∧Z3 R6 s0 st∧st.env 5=.aj b 0∧∃q,st.loc b=some [.slice 1 (c.map I) q]) ?_ ?_
   ·intro k1 bq
    simp -implicitDefEqProofs [e0,e4,hlt]
    refine bY (fun h0=> ?_) (fun h0=> ?_)
    ·rw[if_pos h0] at hc
     simp -implicitDefEqProofs [e0,e4,e5,hlt,lb]
     refine bq _ ⟨by simp[e0],by simp[e3],by simp[e4],?_,by simp[e5],6000,by simp[hc]⟩
     repeat (first|exact ho|refine Z3.set ?_ _ _ (by decide)|refine Z3.aB ?_ (by decide)|refine Z3.CE ?_ cF)
    ·rw[if_neg h0] at hc
     refine bq _ ⟨by simp[e0],by simp[e3],by simp[e4],?_,by simp[e5],0,by simp[lb,hc]⟩
     repeat (first|exact ho|refine Z3.set ?_ _ _ (by decide)|refine Z3.aB ?_ (by decide)|refine Z3.CE ?_ cF)
   clear e0 e3 e4 e5 lb ho
   rintro st ⟨e0,e3,e4,ho,e5,q,lb⟩
   have w7:(c_ (l.take k)).length≤100000:=by simp[c_];omega
   simp -implicitDefEqProofs [e3,e5,lb,e4]
   refine⟨by omega,by omega,i64 (by omega) (by omega),bz hlt ⟨by simp[e0],by simp[hit],by simp,?_⟩⟩
   repeat (first|exact ho|refine Z3.set ?_ _ _ (by decide)|refine Z3.aB ?_ (by decide))
  ·obtain rfl:k=l.length:=by omega
   simp -implicitDefEqProofs
   refine bM _ ⟨by simpa using e3,?_⟩
   repeat (first|exact ho|refine Z3.set ?_ _ _ (by decide))
 clear e0 e3 ho
 rintro st ⟨e3,ho⟩
 simp -implicitDefEqProofs [e3]
 refine hk _ ?_ ?_
 ·repeat (first|exact ho|refine Z3.set ?_ _ _ (by decide)|refine Z3.aB ?_ (by decide))
 ·simp
theorem Lc{l:List Int}(hl:l.length≤100000):aG Tryz.prog 11 [IL l] (nq (c_ l)):=by
 refine pc t11 (by simp) fun _=> ?_
 refine Lb hl (by simp) fun s2 _ h2=> ?_
 simp -implicitDefEqProofs [wL,h2]
theorem Ye{l:List Int}(hl:l.length≤100000){s:St}{K:AV→St→Prop}(hK:∀s2,Z3 R6 s s2→K (.slice 1 ((c_ l).map fun c=>.agg [IL c]) 3) (back s s2)):d_ Tryz.prog 11 [IL l] s K:=by
 refine ic t11 (by simp) fun _=> ?_
 refine Lb hl (by simp) fun s2 ho h2=> ?_
 simp -implicitDefEqProofs only[eN,wL]
 rw[h2]
 exact hK s2 ⟨fun c xs h1 h3=>ho.l c xs h1 h3,fun l es q hg=>ho.g l es q (by simpa using hg)⟩
theorem Yf:aG Tryz.prog 38 [] (.agg (cy [4,4])):=by
 refine pc t38 (by simp) fun _=> ?_
 simp -implicitDefEqProofs [Bz,BA]
 rfl
theorem Yg:aG Tryz.prog 33 [] (.agg (gE [4,4] [[4],[5],[],[0],[1],[3],[1],[6,7]])):=by
 refine pc t33 (by simp) fun _=> ?_
 have c:=Yf
 simp -implicitDefEqProofs [JL]
 intro b
 refine aL c ?_
 simp -implicitDefEqProofs
 refine Ye (l:=[4,5,-1,0,1,3,1]) (by decide) fun s2 ho=> ?_
 have lb:s2.loc b=some [.lit (.int .i64 0),.slice 4 [] 1001,.slice 1 [] 1002]:=ho.l b _ (by simp) (fun r hr=>by
  have h1:¬1001=r:=by rintro rfl;rcases hr with h|h<;>omega
  have h2:¬1002=r:=by rintro rfl;rcases hr with h|h<;>omega
  simp[h1,h2])
 simp -implicitDefEqProofs [lb,JM]
 exact⟨by decide,by decide,rfl⟩
end Go.Proofs.YtmcdlpegncaihaaGreat.C
