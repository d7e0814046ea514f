/- Control, loops, and a function's contract. A function's results; contracts of functions and of iterators out of their resolved code. The contract of a call that is part of its caller's party, out of the function's resolved code. The rules by which a walk over resolved code goes: one head for each operation that looks at its operands. From a contract in the layer Avm to the row's own words. From a law's arguments, as the model reads them, to abstract values. A law's arguments: what they say, and that they read behind the call as they did. One fact for a function's resolved code, and its contract out of it. -/
import Derived.Test.YtmcdlpegncaihaaGreatZB
import Derived.ProofKit
import Derived.OpenShut
import Derived.Carry
namespace Go.Z4
open Go.RowKit
inductive aA where
 |skip
 |af (ms:List au)
 |seq (x y:aA)
 |cond (t:ai) (x y:aA)
 |block (id:Nat) (c:aA)
 |loop (c:aA)
 |exit (id:Nat)
 |ret
 |mE (x:ai) (ps:List Nat) (assign body:aA)
 |abn (x:ai) (pos:Nat) (ps:List Nat) (assign body:aA)
 deriving Inhabited
def qw(s s1:St):Prop:=(∀k,gS≤k→s1.env k=s.env k)∧∀(N:Nat) (a:Act) (w:World) (A:aK) (sp:Sp),RS N s a w A sp→∃A1 dQ,RS N s1 a w A1 dQ∧Ev w A (live s.loc sp) w A1 (live s1.loc dQ)
theorem qw.refl(s:St):qw s s:=⟨fun _ _=>rfl,fun _ _ _ A sp h=>⟨A,sp,h,.refl _ _ _⟩⟩
def O1(body:(St→Prop)→St→Prop)(s:St):Prop:=∃I:Nat→St→Prop,(∃n s1,qw s s1∧I n s1)∧∀n s,I n s→body (fun s'=>∃m s1,m<n∧qw s' s1∧I m s1) s
def Et(P:Program)(f:FuncId)(first cap:List AV)(np:Nat)(s:St)(zb:(Nat→St→Prop)→Nat→List AV→St→Prop)(kn:St→Prop):Prop:=∃xs,aa4 P f first cap xs∧(∀y∈xs,y.length=np∧noMark y=true)∧∃I:Nat→St→Prop,I 0 (back s s)∧(∀k st,k<xs.length→st=back s st→I k st→zb I k (xs.getD k []) st)∧(∀st,st=back s st→I xs.length st→kn st)
def Eu(P:Program)(f:FuncId)(first cap:List AV)(pos:Nat)(s:St)(zb:(Nat→St→Prop)→Nat→AV→St→Prop)(kn:St→Prop):Prop:=∃xs:List AV,aa4 P f first cap (xs.map fun x=>[x,mark pos])∧∃I:Nat→St→Prop,I 0 (back s s)∧(∀k st,k<xs.length→st=back s st→I k st→zb I k (xs.getD k .any) st)∧(∀st,st=back s st→I xs.length st→kn st)
def br(P:Program):aA→(St→Prop)→(Nat→St→Prop)→(St→Prop)→St→Prop
 |.skip,kn,_,_,s=>kn s
 |.af ms,kn,_,_,s=>vcs P ms kn s
 |.seq x y,kn,ke,kr,s=>br P x (br P y kn ke kr) ke kr s
 |.cond t x y,kn,ke,kr,s=>match t.ev s.env with
  |.lit (.bool b)=>(b=true→br P x kn ke kr s)∧(b=false→br P y kn ke kr s)
  |_=>False
 |.block id c,kn,ke,kr,s=>br P c kn (fun i s=>if i=id then kn s else ke i s) kr s
 |.loop c,_,ke,kr,s=>O1 (fun kn s=>br P c kn ke kr s) s
 |.exit id,_,ke,_,s=>ke id s
 |.ret,_,_,kr,s=>kr s
 |.mE x ps assign body,kn,ke,kr,s=>match x.ev s.env with
  |.func (.func f) first cap=>Et P f first cap ps.length s (fun I k y st=>br P assign (br P body (fun s2=>I (k+1) (back s s2)) (fun i s2=>ke i (back s s2)) (fun s2=>kr (back s s2))) (fun _ _=>False) (fun _=>False) (params st ps y)) kn
  |_=>False
 |.abn x pos ps assign body,kn,ke,kr,s=>match x.ev s.env with
  |.func (.func f) first cap=>Eu P f first cap pos s (fun I k y st=>∀b sz len cap cs,st.loc b=none→kZ y pos sz len cap cs→br P assign (br P body (fun s2=>s2.loc b=some cs∧I (k+1) (back s (s2.del b))) (fun i s2=>s2.loc b=some cs∧ke i (back s (s2.del b))) (fun s2=>s2.loc b=some cs∧kr (back s (s2.del b)))) (fun _ _=>False) (fun _=>False) (params (st.new b cs) ps [putAt y pos (.aq b 0 len cap sz)])) kn
  |_=>False
def O2(aD:cn):Operand→Option Nat
 |.tmp t=>match look aD.rl t 0 with
  |0=>none
  |pos+1=>some pos
 |_=>none
def dead(aD:cn)(id:Nat):Bool:= !(look aD.fz (id+2000000) []).isEmpty
def de(P:Program)(aD:cn)(N:Nat):Code→Option aA
 |.skip=>some .skip
 |.region id ops false=>if dead aD id then some (.cond (.c .any) .skip .skip) else (vh (nA P aD N) P aD N ops ops.toList).map fun ms=>.af ((oW aD N (id+1000000)).map .bD++(ms++(oW aD N id).map .bD))
 |.region id ops true=>if dead aD id then some (.cond (.c .any) .skip .skip) else (y8 (su P aD N) P aD N id ops).map fun ms=>.af (ms++(oW aD N id).map .bD)
 |.seq x y=>match de P aD N x,de P aD N y with
  |some x,some y=>some (.seq x y)
  |_,_=>none
 |.cond t x y=>match aC t,de P aD N x,de P aD N y with
  |some t,some x,some y=>some (.cond t x y)
  |_,_,_=>none
 |.block id c=>(de P aD N c).map (.block id)
 |.loop c=>(de P aD N c).map .loop
 |.exit id=>some (.exit id)
 |.ret=>some .ret
 |.scope c=>de P aD N c
 |.label _=>some .skip
 |.rangeFunc g ps assign body=>match aC g,de P aD N assign,de P aD N body with
  |some x,some y,some z=>if ps.toList.all (· <N) then (match O2 aD g with
   |some pos=>if ps.toList.length=1 then some (.abn x pos ps.toList y z) else none
   |none=>some (.mE x ps.toList y z)) else none
  |_,_,_=>none
 |_=>none
def Ends(kn:St→Prop)(ke:Nat→St→Prop)(kr:St→Prop):Exit→St→Prop
 |.normal,s=>kn s
 |.exit i,s=>ke i s
 |.ret,s=>kr s
 |_,_=>False
section
variable {P:Program}
def zc(C:Ctx P)(Pt:List (Nat×Obj))(s:St)(ds:List Deferred)(w:World)(A Lx:aK)(sp:Sp)(kn:St→Prop)(ke:Nat→St→Prop)(kr:St→Prop):Exit→Act→World→Prop:=fun e a' w'=>∃s' A' bp sp' Pt',(∀p∈Pt,p∈Pt')∧GS C Pt' s' a' w' A' bp sp'∧Ev w A (join (held s sp) Lx) w' A' (join (held s' sp') bp)∧(C.ro.isSome=true→a'.defers=ds)∧Ends kn ke kr e s'
def sL(P:Program)(aD:cn)(c:Code):Prop:=∀(C:Ctx P) (m:aA) (kn:St→Prop) (ke:Nat→St→Prop) (kr:St→Prop) (Pt:List (Nat×Obj)) (s:St) (a:Act) (w:World) (A Lx:aK) (sp:Sp),C.N≤gS→de P aD C.N c=some m→GS C Pt s a w A Lx sp→br P m kn ke kr s→c.wpIn (Fw C.ro) 0 P (zc C Pt s a.defers w A Lx sp kn ke kr) a w
theorem qx{b:Frame}{a:Act}{k:List Item}{cs:List Frame}{w:World}{c:Code}:step P (lone (b.atR a (.code (.scope c)::k)) cs w)=.next (lone (b.atR a (.code c::.inScope c::k)) cs w):=step_lone_go (by simp[stepG,stepG.exec,Frame.atR])
theorem O3{b:Frame}{a:Act}{k:List Item}{cs:List Frame}{w:World}{c:Code}:step P (lone (b.atR a (.inScope c::k)) cs w)=.next (lone (b.atR a k) cs w):=step_lone_go (by simp[stepG,stepG.exec,Frame.atR])
theorem O4{F:Fence}{n:Nat}{Q:Exit→Act→World→Prop}{a:Act}{w:World}{c:Code}(hQ:∀l a w,¬Q (.goto l) a w)(h:c.wpIn F n P Q a w):(Code.scope c).wpIn F n P Q a w:=by
 intro b k cs hro hb hr
 have h0:(lone (b.atR a (.code (.scope c)::k)) cs w).fenced P F:=fenced_calm hb hr rfl
 obtain⟨e,a₁,w₁,hq,jT⟩:=h b (.inScope c::k) cs hro hb hr
 cases e with
 |normal=>exact⟨.normal,a₁,w₁,hq,.head h0 qx (StepsIn.trans jT (.one (fenced_calm hb hr rfl) O3))⟩
 |exit id=>
  have hx:exitTo id (.inScope c::k)=exitTo id k:=by simp[exitTo]
  exact⟨.exit id,a₁,w₁,hq,fun k' hk=>.head h0 qx (jT.1 k' (by rw[hx];exact hk)),fun hr' hk=>let ⟨k₁,h1,h2⟩:=jT.2 hr' (by rw[hx];exact hk);⟨k₁,h1,.head h0 qx h2⟩⟩
 |goto l=>exact absurd hq (hQ l _ _)
 |ret=>exact⟨_,a₁,w₁,hq,.of_steps (.one h0 qx) jT⟩
 |panic ch=>exact⟨_,a₁,w₁,hq,.of_steps (.one h0 qx) jT⟩
 |outgrown=>exact⟨_,a₁,w₁,hq,.of_steps (.one h0 qx) jT⟩
abbrev bk(fn:FuncId)(t0:Array Value)(ps:Array Tmp)(assign body:Code)(dl:Nat)(st:LoopState)(pe:Option Code):Loop:={state:=st,pending:=pe,fn,tmps:=t0,params:=ps,assign,body,defers:=dl}
def nQ(C:Ctx P)(s0:St)(t0:Array Value)(fY:List Deferred)(l:Nat)(rc:LoopState→Option Code→Loop)(Pm:List (Nat×Obj))(xs:List (List AV))(I:Nat→St→Prop)(ke:Nat→St→Prop)(kr:St→Prop):AV→World→aK→aK→Prop
 |.ghost l' rest false,w,A,L=>l'=l∧∃k,k≤xs.length∧rest=xs.drop k∧∃st sp Lx,GS C ((l,.loop (rc .ready none))::Pm) st ⟨t0,fY⟩ w A Lx sp∧st=back s0 st∧I k st∧L=full st sp Lx ((l,.loop (rc .ready none))::Pm)
 |.ghost l' _ true,w,A,L=>l'=l∧∃c st sp Lx,GS C ((l,.loop (rc .done (some c)))::Pm) st ⟨t0,fY⟩ w A Lx sp∧st=back s0 st∧((∃i,c=.exit i∧ke i st)∨(c=.ret∧kr st))∧L=full st sp Lx ((l,.loop (rc .done (some c)))::Pm)
 |_,_,_,_=>False
theorem ac_{C:Ctx P}{s0:St}{t0:Array Value}{fY:List Deferred}{l:Nat}{rc:LoopState→Option Code→Loop}{Pm:List (Nat×Obj)}{xs:List (List AV)}{I:Nat→St→Prop}{ke:Nat→St→Prop}{kr:St→Prop}:xw (nQ C s0 t0 fY l rc Pm xs I ke kr):=by
 intro gh w w' A A' L hx hk
 unfold nQ at hx⊢
 split at hx
 ·obtain⟨h1,k,h2,h3,st,sp,Lx,h4,h5,h6,rfl⟩:=hx
  exact⟨h1,k,h2,h3,st,sp,Lx,h4.keep hk (fun _ _ h=>.inl (.inl h)) (fun _ _ h=>.inl (.inr h)) (fun p hp _=>.inr ⟨p,hp,rfl⟩),h5,h6,rfl⟩
 ·obtain⟨h1,c,st,sp,Lx,h4,h5,h6,rfl⟩:=hx
  exact⟨h1,c,st,sp,Lx,h4.keep hk (fun _ _ h=>.inl (.inl h)) (fun _ _ h=>.inl (.inr h)) (fun p hp _=>.inr ⟨p,hp,rfl⟩),h5,h6,rfl⟩
 ·exact hx.elim
theorem Ew(s:St)(sp:Sp)(Lx:aK)(l:Nat)(o o':Obj)(Pm:List (Nat×Obj)):full s sp Lx ((l,o)::Pm)=full s sp Lx ((l,o')::Pm):=by simp[full]
theorem O5{aD:cn}{assign body:Code}(qy:sL P aD assign)(qz:sL P aD body){C:Ctx P}{s0:St}{t0:Array Value}{fY:List Deferred}{l:Nat}{fn:FuncId}{ps:Array Tmp}{dl:Nat}{Pm:List (Nat×Obj)}
  {xs:List (List AV)}{I:Nat→St→Prop}{ke:Nat→St→Prop}{kr:St→Prop}{ma mb:aA}(aW:C.N≤gS)(hma:de P aD C.N assign=some ma)(hmb:de P aD C.N body=some mb)(hps:∀p∈ps.toList,p<C.N)
  (hne:∀p∈Pm,p.1≠l)(hlen:∀y∈xs,y.length=ps.toList.length)
  (hdf:∀d∈fY,∃D,C.B≤D∧d=⟨.collected D,#[]⟩∧(D,.deferred (some []))∈Pm)(hro:∀l,C.ro=some l→∃r,(l,.loop r)∈Pm)(hdn:(fY.map (·.target)).Nodup)
  (ji:∀k st,k<xs.length→st=back s0 st→I k st→br P ma (br P mb (fun s2=>I (k+1) (back s0 s2)) (fun i s2=>ke i (back s0 s2)) (fun s2=>kr (back s0 s2))) (fun _ _=>False) (fun _=>False) (params st ps.toList (xs.getD k []))):
  uu P (nQ C s0 t0 fY l (bk fn t0 ps assign body dl) Pm xs I ke kr):=by
 intro l' y rest w A L vs hx hlt gK hs hr
 obtain⟨rfl,k,hk,ep,st,sp,Lx,hG,hst,hI,rfl⟩:=hx
 have hk':k<xs.length:=by
  rcases Nat.lt_or_ge k xs.length with h|h
  ·exact h
  ·rw[List.drop_of_length_le h] at ep;cases ep
 rw[List.drop_eq_getElem_cons hk'] at ep
 injection ep with hy ep
 have vo:xs.getD k []=y:=by rw[List.getD_eq_getElem?_getD,List.getElem?_eq_getElem hk',hy];rfl
 have sM:y.length=ps.toList.length:=hlen y (by rw[hy];exact List.getElem_mem _)
 have hl:=(hG.pt _ (List.mem_cons_self ..)).1
 simp only at hl
 refine⟨fn,_,assign,body,run_yield hl (by simp[hs,sM]),roundIn_of_wpIn trivial ?_⟩
 let C':Ctx P:={C with ro:=some l'}
 have acR:(ps.zip vs).foldl (fun tmps (x:Tmp×Value)=>match x with|(t,a)=>tmps.setIfInBounds t a) t0=(ps.toList.zip vs.toList).foldl (fun t (p,v)=>t.setIfInBounds p v) t0:=by rw[←Array.foldl_toList,Array.toList_zip]
 have qA:GS C' ((l',.loop (bk fn t0 ps assign body dl .ready none))::Pm) (params st ps.toList y) ⟨(ps.zip vs).foldl (fun tmps (x:Tmp×Value)=>match x with|(t,a)=>tmps.setIfInBounds t a) t0,[]⟩ w A Lx sp:=by
  have hlt':∀p∈ps.toList,p<gS:=fun p hp=>Nat.lt_of_lt_of_le (hps p hp) aW
  have hg:∀k,gS≤k→(params st ps.toList y).env k=st.env k:=fun k hk=>vl k hk _ _ _ hlt'
  have ho:∀b,(params st ps.toList y).env (oS+b)=st.env (oS+b):=fun b=>hg _ (by simp only[gS,oS];omega)
  refine⟨?_,fun k hk=>by rw[hg k hk];exact hG.ig k hk,hG.lt,by rw[vm _ _ _ _ hlt'];exact hG.ap,hG.av,by rw[hg gS (Nat.le_refl _)];exact hG.x,fun p hp=>by rw[ho];exact hG.pt p hp,fun b=>by rw[ho];exact hG.ob b,fun b o hb=>hG.oa b o (by simp only[cv,ho] at hb;exact hb),hG.bs,List.nodup_nil,by simp,fun l1 e=> ?_⟩
  ·rw[acR]
   exact RS.params ps.toList y vs.toList st t0 hG.rs hps sM.symm (by simpa using hs) (fun i=>by have:=hr i;simpa[List.getD_eq_getElem?_getD,Array.getD_eq_getD_getElem?] using this)
  ·injection e with e;subst e;exact⟨_,List.mem_cons_self ..⟩
 have hmw:=ji k st hk' hst hI
 rw[vo] at hmw
 refine wpIn_mono (qy C' ma _ _ _ _ _ _ w A Lx sp aW hma qA hmw) ?_
 rintro e a1 w1 ⟨s1,A1,oX,dQ,O6,hsub,cY,aa6,hd1,hq⟩
 cases e with
 |normal=>
  have jd:=(cY.pt _ (hsub _ (List.mem_cons_self ..))).1
  refine⟨_,run_beginRound jd rfl,?_⟩
  have dN:GS C' ((l',.loop (bk fn t0 ps assign body dl .busy none))::Pm) s1 a1 (w1.putObj l' (.loop (bk fn t0 ps assign body dl .busy none))) A1 oX dQ:=by
   refine cY.putObj (hsub _ (List.mem_cons_self ..)) (fun p hp=> ?_) (fun d hd=>by rw[hd1 rfl] at hd;cases hd) (fun l1 e=> ?_)
   ·rcases List.mem_cons.1 hp with rfl|hp
    ·exact .inl ⟨rfl,rfl⟩
    ·exact .inr ⟨hsub _ (List.mem_cons_of_mem _ hp),hne p hp⟩
   ·injection e with e;subst e;exact⟨_,List.mem_cons_self ..⟩
  refine wpIn_mono (qz C' mb _ _ _ _ s1 a1 _ A1 oX dQ aW hmb dN hq) ?_
  rintro e a3 w3 ⟨s3,A3,bX,bZ,sO,kC,gw,jk,oY,hq3⟩
  have h_:=(gw.pt _ (kC _ (List.mem_cons_self ..))).1
  have fin:∀jump:Option Code,GS C ((l',.loop (bk fn t0 ps assign body dl (if jump.isNone then .ready else .done) jump))::Pm) (back s0 s3) ⟨t0,fY⟩ (w3.putObj l' (.loop (bk fn t0 ps assign body dl (if jump.isNone then .ready else .done) jump))) A3 bX bZ∧Ev w A (full st sp Lx ((l',.loop (bk fn t0 ps assign body dl .ready none))::Pm)) (w3.putObj l' (.loop (bk fn t0 ps assign body dl (if jump.isNone then .ready else .done) jump))) A3 (full (back s0 s3) bZ bX ((l',.loop (bk fn t0 ps assign body dl (if jump.isNone then .ready else .done) jump))::Pm)):=by
   intro jump
   have dr:GS C' ((l',.loop (bk fn t0 ps assign body dl (if jump.isNone then .ready else .done) jump))::Pm) s3 a3 (w3.putObj l' (.loop (bk fn t0 ps assign body dl (if jump.isNone then .ready else .done) jump))) A3 bX bZ:=by
    refine gw.putObj (kC _ (List.mem_cons_self ..)) (fun p hp=> ?_) (fun d hd=>by rw[oY rfl,hd1 rfl] at hd;cases hd) (fun l1 e=> ?_)
    ·rcases List.mem_cons.1 hp with rfl|hp
     ·exact .inl ⟨rfl,rfl⟩
     ·exact .inr ⟨kC _ (List.mem_cons_of_mem _ hp),hne p hp⟩
    ·injection e with e;subst e;exact⟨_,List.mem_cons_self ..⟩
   have hEv:Ev w A (full st sp Lx ((l',.loop (bk fn t0 ps assign body dl .ready none))::Pm)) (w3.putObj l' (.loop (bk fn t0 ps assign body dl (if jump.isNone then .ready else .done) jump))) A3 (full s3 bZ bX ((l',.loop (bk fn t0 ps assign body dl (if jump.isNone then .ready else .done) jump))::Pm)):=by
    have e1:=aa6.qp (fun b _=>∃p∈((l',Obj.loop (bk fn t0 ps assign body dl .ready none))::Pm),b=p.1)
    have e2:Ev w1 A1 _ (w1.putObj l' (.loop (bk fn t0 ps assign body dl .busy none))) A1 _:=Ev.putObj w1 A1 (L:=join (join (held s1 dQ) oX) (fun b _=>∃p∈((l',Obj.loop (bk fn t0 ps assign body dl .ready none))::Pm),b=p.1)) (l:=l') _ (fun o=>.inr ⟨_,List.mem_cons_self ..,rfl⟩)
    have e3:=jk.qp (fun b _=>∃p∈((l',Obj.loop (bk fn t0 ps assign body dl .ready none))::Pm),b=p.1)
    have e4:Ev w3 A3 _ (w3.putObj l' (.loop (bk fn t0 ps assign body dl (if jump.isNone then .ready else .done) jump))) A3 _:=Ev.putObj w3 A3 (L:=join (join (held s3 bZ) bX) (fun b _=>∃p∈((l',Obj.loop (bk fn t0 ps assign body dl .ready none))::Pm),b=p.1)) (l:=l') _ (fun o=>.inr ⟨_,List.mem_cons_self ..,rfl⟩)
    rw[vm _ _ _ _ (fun p hp=>Nat.lt_of_lt_of_le (hps p hp) aW)] at e1
    have e5:=((e1.trans e2).trans e3).trans e4
    rw[Ew s3 bZ bX l' _ (.loop (bk fn t0 ps assign body dl .ready none))]
    exact e5
   have zf:full (back s0 s3) bZ bX ((l',.loop (bk fn t0 ps assign body dl (if jump.isNone then .ready else .done) jump))::Pm)=full s3 bZ bX ((l',.loop (bk fn t0 ps assign body dl (if jump.isNone then .ready else .done) jump))::Pm):=by unfold full;rw[jS]
   rw[zf]
   refine⟨⟨hG.rs.back hst dr.rs (fun b o v ha hv=>⟨(hEv.cell b o (hG.aaG ha).1 (hG.aaG ha).2).1.trans hv,hEv.sub b o ha⟩) (hEv.kept fun b o ha=>hG.aaG ha) dr.ig,fun k hk=>by rw[aa5 _ _ hk];exact dr.ig k hk,dr.lt,by rw[jS];exact dr.ap,dr.av,by rw[aa5 _ _ (Nat.le_refl _)];exact dr.x,fun p hp=>by rw[jj];exact dr.pt p hp,fun b=>by rw[jj];exact dr.ob b,by rw[sK];exact dr.oa,dr.bs,hdn,fun d hd=> ?_,fun l1 e=> ?_⟩,hEv⟩
   ·obtain⟨D,d1,d2,d3⟩:=hdf d hd
    exact⟨D,d1,d2,List.mem_cons_of_mem _ d3⟩
   ·obtain⟨r,hr⟩:=hro l1 e
    exact⟨r,List.mem_cons_of_mem _ hr⟩
  have hO:back s0 s3=back s0 (back s0 s3):=(vn s0 s0 s3).symm
  cases e with
  |normal=>
   obtain⟨f1,f2⟩:=fin none
   exact⟨_,_,run_endRound none h_,true,A3,_,rfl,f2,fun b o=>f1.kB,fun b o=>f1.aaG,rfl,k+1,hk',ep,back s0 s3,bZ,bX,f1,hO,hq3,rfl⟩
  |exit i=>
   obtain⟨f1,f2⟩:=fin (some (.exit i))
   exact⟨_,_,run_endRound (some (.exit i)) h_,false,A3,_,rfl,f2,fun b o=>f1.kB,fun b o=>f1.aaG,rfl,.exit i,back s0 s3,bZ,bX,f1,hO,.inl ⟨i,rfl,hq3⟩,rfl⟩
  |ret=>
   obtain⟨f1,f2⟩:=fin (some .ret)
   exact⟨_,_,run_endRound (some .ret) h_,false,A3,_,rfl,f2,fun b o=>f1.kB,fun b o=>f1.aaG,rfl,.ret,back s0 s3,bZ,bX,f1,hO,.inr ⟨rfl,hq3⟩,rfl⟩
  |goto t=>exact hq3.elim
  |panic ch=>exact hq3.elim
  |outgrown=>exact hq3.elim
 |exit i=>exact hq.elim
 |ret=>exact hq.elim
 |goto t=>exact hq.elim
 |panic ch=>exact hq.elim
 |outgrown=>exact hq.elim
theorem O7{aD:cn}{assign body:Code}(qy:sL P aD assign)(qz:sL P aD body){C:Ctx P}{s0:St}{t0:Array Value}{fY:List Deferred}{l:Nat}{fn:FuncId}{ps:Array Tmp}{dl:Nat}{Pm:List (Nat×Obj)}
  {xs:List AV}{pos:Nat}{I:Nat→St→Prop}{ke:Nat→St→Prop}{kr:St→Prop}{ma mb:aA}(aW:C.N≤gS)(hma:de P aD C.N assign=some ma)(hmb:de P aD C.N body=some mb)(hps:∀p∈ps.toList,p<C.N)
  (hne:∀p∈Pm,p.1≠l)(hlen:ps.toList.length=1)
  (hdf:∀d∈fY,∃D,C.B≤D∧d=⟨.collected D,#[]⟩∧(D,.deferred (some []))∈Pm)(hro:∀l,C.ro=some l→∃r,(l,.loop r)∈Pm)(hdn:(fY.map (·.target)).Nodup)
  (ji:∀k st,k<xs.length→st=back s0 st→I k st→∀b sz len cap cs,st.loc b=none→kZ (xs.getD k .any) pos sz len cap cs→br P ma (br P mb (fun s2=>s2.loc b=some cs∧I (k+1) (back s0 (s2.del b))) (fun i s2=>s2.loc b=some cs∧ke i (back s0 (s2.del b))) (fun s2=>s2.loc b=some cs∧kr (back s0 (s2.del b)))) (fun _ _=>False) (fun _=>False) (params (st.new b cs) ps.toList [putAt (xs.getD k .any) pos (.aq b 0 len cap sz)])):
  uv P (nQ C s0 t0 fY l (bk fn t0 ps assign body dl) Pm (xs.map fun x=>[x,mark pos]) I ke kr):=by
 intro l' x pos' rest w A L v g sz len cap cs hx hok hlt gK hrv sE oU Ex
 obtain⟨rfl,k,hk,ep,st,sp,Lx,lE,hst,hI,rfl⟩:=hx
 rw[List.length_map] at hk
 have hk':k<xs.length:=by
  rcases Nat.lt_or_ge k xs.length with h|h
  ·exact h
  ·rw[List.drop_of_length_le (by simpa using h)] at ep;cases ep
 rw[List.drop_eq_getElem_cons (by simpa using hk')] at ep
 injection ep with hy ep
 rw[List.getElem_map] at hy
 injection hy with hy1 hy2
 injection hy2 with hy2 _
 have hpp:=OW hy2
 subst hpp
 have vo:xs.getD k .any=x:=by rw[List.getD_eq_getElem?_getD,List.getElem?_eq_getElem hk',hy1];rfl
 have hbn:st.loc g=none:=by
  cases hb:st.loc g with
  |none=>rfl
  |some c=>exact absurd (.inl (.inl (.inl (.inl (by rw[hb];exact fun e=>by cases e))))) (Ex 0)
 have hG:=lE.OY hok.2.2.2.2.2 sE oU Ex
 obtain⟨y,vp⟩:∃y,y=[putAt x pos' (.aq g 0 len cap sz)]:=⟨_,rfl⟩
 have sM:y.length=ps.toList.length:=by rw[vp,hlen];rfl
 have hs:(#[v]:Array Value).size=y.length:=by rw[vp];rfl
 have hr:∀i,RV w A (y.getD i .any) ((#[v]:Array Value).getD i undef):=fun i=>by
  rw[vp]
  cases i with
  |zero=>exact hrv
  |succ i=>simp;exact .any _
 obtain⟨vs,hvs⟩:∃vs,vs=(#[v]:Array Value):=⟨_,rfl⟩
 rw[←hvs] at hs hr⊢
 have hl:=(hG.pt _ (List.mem_cons_self ..)).1
 simp only at hl
 refine⟨fn,_,assign,body,run_yield hl (by simp[hs,sM]),roundIn_of_wpIn trivial ?_⟩
 let C':Ctx P:={C with ro:=some l'}
 have acR:(ps.zip vs).foldl (fun tmps (x:Tmp×Value)=>match x with|(t,a)=>tmps.setIfInBounds t a) t0=(ps.toList.zip vs.toList).foldl (fun t (p,v)=>t.setIfInBounds p v) t0:=by rw[←Array.foldl_toList,Array.toList_zip]
 have qA:GS C' ((l',.loop (bk fn t0 ps assign body dl .ready none))::Pm) (params (st.new g cs) ps.toList y) ⟨(ps.zip vs).foldl (fun tmps (x:Tmp×Value)=>match x with|(t,a)=>tmps.setIfInBounds t a) t0,[]⟩ w A Lx sp:=by
  have hlt':∀p∈ps.toList,p<gS:=fun p hp=>Nat.lt_of_lt_of_le (hps p hp) aW
  have hg:∀k,gS≤k→(params (st.new g cs) ps.toList y).env k=st.env k:=fun k hk=>vl k hk _ _ _ hlt'
  have ho:∀b,(params (st.new g cs) ps.toList y).env (oS+b)=st.env (oS+b):=fun b=>hg _ (by simp only[gS,oS];omega)
  refine⟨?_,fun k hk=>by rw[hg k hk];exact hG.ig k hk,hG.lt,by rw[vm _ _ _ _ hlt'];exact hG.ap,hG.av,by rw[hg gS (Nat.le_refl _)];exact hG.x,fun p hp=>by rw[ho];exact hG.pt p hp,fun b=>by rw[ho];exact hG.ob b,fun b o hb=>hG.oa b o (by simp only[cv,ho] at hb;exact hb),hG.bs,List.nodup_nil,by simp,fun l1 e=> ?_⟩
  ·rw[acR]
   exact RS.params ps.toList y vs.toList (st.new g cs) t0 hG.rs hps sM.symm (by simpa using hs) (fun i=>by have:=hr i;simpa[List.getD_eq_getElem?_getD,Array.getD_eq_getD_getElem?] using this)
  ·injection e with e;subst e;exact⟨_,List.mem_cons_self ..⟩
 have hmw:=ji k st hk' hst hI g sz len cap cs hbn (by rw[vo];exact hok)
 rw[vo,←vp] at hmw
 refine wpIn_mono (qy C' ma _ _ _ _ _ _ w A Lx sp aW hma qA hmw) ?_
 rintro e a1 w1 ⟨s1,A1,oX,dQ,O6,hsub,cY,aa6,hd1,hq⟩
 cases e with
 |normal=>
  have jd:=(cY.pt _ (hsub _ (List.mem_cons_self ..))).1
  refine⟨_,run_beginRound jd rfl,?_⟩
  have dN:GS C' ((l',.loop (bk fn t0 ps assign body dl .busy none))::Pm) s1 a1 (w1.putObj l' (.loop (bk fn t0 ps assign body dl .busy none))) A1 oX dQ:=by
   refine cY.putObj (hsub _ (List.mem_cons_self ..)) (fun p hp=> ?_) (fun d hd=>by rw[hd1 rfl] at hd;cases hd) (fun l1 e=> ?_)
   ·rcases List.mem_cons.1 hp with rfl|hp
    ·exact .inl ⟨rfl,rfl⟩
    ·exact .inr ⟨hsub _ (List.mem_cons_of_mem _ hp),hne p hp⟩
   ·injection e with e;subst e;exact⟨_,List.mem_cons_self ..⟩
  refine wpIn_mono (qz C' mb _ _ _ _ s1 a1 _ A1 oX dQ aW hmb dN hq) ?_
  rintro e a3 w3 ⟨s3,A3,bX,bZ,sO,kC,gw,jk,oY,hq3⟩
  have h_:=(gw.pt _ (kC _ (List.mem_cons_self ..))).1
  have fin:∀jump:Option Code,s3.loc g=some cs→GS C ((l',.loop (bk fn t0 ps assign body dl (if jump.isNone then .ready else .done) jump))::Pm) (back s0 (s3.del g)) ⟨t0,fY⟩ (w3.putObj l' (.loop (bk fn t0 ps assign body dl (if jump.isNone then .ready else .done) jump))) A3 bX bZ∧Ev w A (join (full st sp Lx ((l',.loop (bk fn t0 ps assign body dl .ready none))::Pm)) (kY g)) (w3.putObj l' (.loop (bk fn t0 ps assign body dl (if jump.isNone then .ready else .done) jump))) A3 (join (full (back s0 (s3.del g)) bZ bX ((l',.loop (bk fn t0 ps assign body dl (if jump.isNone then .ready else .done) jump))::Pm)) (kY g))∧dA (w3.putObj l' (.loop (bk fn t0 ps assign body dl (if jump.isNone then .ready else .done) jump))) A3 g cs∧(∀o,¬A3 g o)∧∀o,¬full (back s0 (s3.del g)) bZ bX ((l',.loop (bk fn t0 ps assign body dl (if jump.isNone then .ready else .done) jump))::Pm) g o:=by
   intro jump vq
   have dr:GS C' ((l',.loop (bk fn t0 ps assign body dl (if jump.isNone then .ready else .done) jump))::Pm) s3 a3 (w3.putObj l' (.loop (bk fn t0 ps assign body dl (if jump.isNone then .ready else .done) jump))) A3 bX bZ:=by
    refine gw.putObj (kC _ (List.mem_cons_self ..)) (fun p hp=> ?_) (fun d hd=>by rw[oY rfl,hd1 rfl] at hd;cases hd) (fun l1 e=> ?_)
    ·rcases List.mem_cons.1 hp with rfl|hp
     ·exact .inl ⟨rfl,rfl⟩
     ·exact .inr ⟨kC _ (List.mem_cons_of_mem _ hp),hne p hp⟩
    ·injection e with e;subst e;exact⟨_,List.mem_cons_self ..⟩
   have hEv:Ev w A (full (st.new g cs) sp Lx ((l',.loop (bk fn t0 ps assign body dl .ready none))::Pm)) (w3.putObj l' (.loop (bk fn t0 ps assign body dl (if jump.isNone then .ready else .done) jump))) A3 (full s3 bZ bX ((l',.loop (bk fn t0 ps assign body dl (if jump.isNone then .ready else .done) jump))::Pm)):=by
    have e1:=aa6.qp (fun b _=>∃p∈((l',Obj.loop (bk fn t0 ps assign body dl .ready none))::Pm),b=p.1)
    have e2:Ev w1 A1 _ (w1.putObj l' (.loop (bk fn t0 ps assign body dl .busy none))) A1 _:=Ev.putObj w1 A1 (L:=join (join (held s1 dQ) oX) (fun b _=>∃p∈((l',Obj.loop (bk fn t0 ps assign body dl .ready none))::Pm),b=p.1)) (l:=l') _ (fun o=>.inr ⟨_,List.mem_cons_self ..,rfl⟩)
    have e3:=jk.qp (fun b _=>∃p∈((l',Obj.loop (bk fn t0 ps assign body dl .ready none))::Pm),b=p.1)
    have e4:Ev w3 A3 _ (w3.putObj l' (.loop (bk fn t0 ps assign body dl (if jump.isNone then .ready else .done) jump))) A3 _:=Ev.putObj w3 A3 (L:=join (join (held s3 bZ) bX) (fun b _=>∃p∈((l',Obj.loop (bk fn t0 ps assign body dl .ready none))::Pm),b=p.1)) (l:=l') _ (fun o=>.inr ⟨_,List.mem_cons_self ..,rfl⟩)
    rw[vm _ _ _ _ (fun p hp=>Nat.lt_of_lt_of_le (hps p hp) aW)] at e1
    have e5:=((e1.trans e2).trans e3).trans e4
    rw[Ew s3 bZ bX l' _ (.loop (bk fn t0 ps assign body dl .ready none))]
    exact e5
   have zf:full (back s0 (s3.del g)) bZ bX ((l',.loop (bk fn t0 ps assign body dl (if jump.isNone then .ready else .done) jump))::Pm)=full (s3.del g) bZ bX ((l',.loop (bk fn t0 ps assign body dl (if jump.isNone then .ready else .done) jump))::Pm):=by unfold full;rw[jS]
   obtain⟨u1,u2,u3⟩:=dr.O0 vq
   have hU:=dr.OZ g
   have Ey:=hEv
   rw[Es,OX bZ bX _ vq] at Ey
   rw[zf]
   refine⟨⟨lE.rs.back hst hU.rs (fun b o v ha hv=>⟨(hEv.cell b o (hG.aaG ha).1 (hG.aaG ha).2).1.trans hv,hEv.sub b o ha⟩) (hEv.kept fun b o ha=>hG.aaG ha) hU.ig,fun k hk=>by rw[aa5 _ _ hk];exact hU.ig k hk,hU.lt,by rw[jS];exact hU.ap,hU.av,by rw[aa5 _ _ (Nat.le_refl _)];exact hU.x,fun p hp=>by rw[jj];exact hU.pt p hp,fun b=>by rw[jj];exact hU.ob b,by rw[sK];exact hU.oa,hU.bs,hdn,fun d hd=> ?_,fun l1 e=> ?_⟩,Ey,u1,u2,u3⟩
   ·obtain⟨D,d1,d2,d3⟩:=hdf d hd
    exact⟨D,d1,d2,List.mem_cons_of_mem _ d3⟩
   ·obtain⟨r,hr⟩:=hro l1 e
    exact⟨r,List.mem_cons_of_mem _ hr⟩
  have hO:back s0 (s3.del g)=back s0 (back s0 (s3.del g)):=(vn s0 s0 (s3.del g)).symm
  cases e with
  |normal=>
   obtain⟨f1,f2,f3,f4,f5⟩:=fin none hq3.1
   exact⟨_,_,run_endRound none h_,true,A3,_,rfl,f2,fun b o=>f1.kB,fun b o=>f1.aaG,f4,f5,f3,rfl,k+1,by rw[List.length_map];exact hk',ep,back s0 (s3.del g),bZ,bX,f1,hO,hq3.2,rfl⟩
  |exit i=>
   obtain⟨f1,f2,f3,f4,f5⟩:=fin (some (.exit i)) hq3.1
   exact⟨_,_,run_endRound (some (.exit i)) h_,false,A3,_,rfl,f2,fun b o=>f1.kB,fun b o=>f1.aaG,f4,f5,f3,rfl,.exit i,back s0 (s3.del g),bZ,bX,f1,hO,.inl ⟨i,rfl,hq3.2⟩,rfl⟩
  |ret=>
   obtain⟨f1,f2,f3,f4,f5⟩:=fin (some .ret) hq3.1
   exact⟨_,_,run_endRound (some .ret) h_,false,A3,_,rfl,f2,fun b o=>f1.kB,fun b o=>f1.aaG,f4,f5,f3,rfl,.ret,back s0 (s3.del g),bZ,bX,f1,hO,.inr ⟨rfl,hq3.2⟩,rfl⟩
  |goto t=>exact hq3.elim
  |panic ch=>exact hq3.elim
  |outgrown=>exact hq3.elim
 |exit i=>exact hq.elim
 |ret=>exact hq.elim
 |goto t=>exact hq.elim
 |panic ch=>exact hq.elim
 |outgrown=>exact hq.elim
theorem O8{C:Ctx P}{s0:St}{t0:Array Value}{fY:List Deferred}{l:Nat}{rc:LoopState→Option Code→Loop}{Pm:List (Nat×Obj)}{xs:List AV}{pos:Nat}{I:Nat→St→Prop}{ke:Nat→St→Prop}{kr:St→Prop}:uu P (nQ C s0 t0 fY l rc Pm (xs.map fun x=>[x,mark pos]) I ke kr):=by
 intro l' y rest w A L vs hx hlt gK hs hr
 obtain⟨_,k,_,ep,_⟩:=hx
 have hm:y∈xs.map fun x=>[x,mark pos]:=List.mem_of_mem_drop (by rw[←ep];exact List.mem_cons_self ..)
 obtain⟨x,_,rfl⟩:=List.mem_map.1 hm
 have h1:=hr 1
 generalize vs.getD 1 undef=v at h1
 replace h1:RV w A (mark pos) v:=h1
 unfold mark at h1
 cases h1 with
 |lit _ hf=>cases hf
theorem O9{C:Ctx P}{s0:St}{t0:Array Value}{fY:List Deferred}{l:Nat}{rc:LoopState→Option Code→Loop}{Pm:List (Nat×Obj)}{xs:List (List AV)}{I:Nat→St→Prop}{ke:Nat→St→Prop}{kr:St→Prop}(hnm:∀y∈xs,noMark y=true):uv P (nQ C s0 t0 fY l rc Pm xs I ke kr):=by
 intro l' x pos rest w A L v b sz len cap cs hx
 obtain⟨_,k,_,ep,_⟩:=hx
 have hm:[x,mark pos]∈xs:=List.mem_of_mem_drop (by rw[←ep];exact List.mem_cons_self ..)
 have:=hnm _ hm
 simp[noMark,mark] at this
theorem GS.qB{C:Ctx P}{Pt Pt':List (Nat×Obj)}{s s':St}{a a':Act}{w w':World}{A A' Lx bp:aK}{sp sp':Sp}(h:GS C Pt s a w A Lx sp)(h':GS C Pt' s' a' w' A' bp sp')(hsub:∀p∈Pt,p∈Pt')(aJ:Ev w A (full s sp Lx Pt) w' A' (full s' sp' bp Pt')):Ev w A (join (held s sp) Lx) w' A' (join (held s' sp') bp):=by
 refine⟨aJ.os,aJ.tape,aJ.output,aJ.size,fun b o hb hl=> ?_,fun b hb hl=> ?_,aJ.sub,fun b o ha=> ?_⟩
 ·by_cases hT:∃p∈Pt,b=p.1
  ·obtain⟨p,hp,rfl⟩:=hT
   obtain⟨g1,g2,_⟩:=h.pt p hp
   obtain⟨g3,_,g4,_⟩:=h'.pt p (hsub p hp)
   exact⟨by rw[yF g1 g2,yF g3 g2],fun hj=>by rcases hj with hj|hj;exact h'.abU (hsub p hp) o hj;exact g4 o hj⟩
  ·obtain⟨g1,g2⟩:=aJ.cell b o hb (fun hf=>by rcases hf with hf|hf;exact hl hf;exact hT hf)
   exact⟨g1,fun hj=>g2 (.inl hj)⟩
 ·by_cases hT:∃p∈Pt,b=p.1
  ·obtain⟨p,hp,rfl⟩:=hT
   exact(h'.pt p (hsub p hp)).1.trans (h.pt p hp).1.symm
  ·exact aJ.block b hb fun o hf=>by rcases hf with hf|hf;exact hl o hf;exact hT hf
 ·rcases aJ.sup b o ha with g|g|g
  ·exact .inl g
  ·rcases g with g|⟨p,hp,rfl⟩
   ·exact .inr (.inl g)
   ·exact absurd ha ((h'.pt p (hsub p hp)).2.2.2.1 o)
  ·exact .inr (.inr g)
theorem Ez{C:Ctx P}{Pt:List (Nat×Obj)}{s:St}{a:Act}{w:World}{A Lx:aK}{sp:Sp}(h:GS C Pt s a w A Lx sp)(fn:FuncId)(ps:Array Tmp)(assign body:Code):
  ∃l mark dl Pm w1,(Instr.enterLoop fn a.tmps ps assign body C.ro).run P w=.ok (l,mark) w1∧GS C ((l,.loop (bk fn a.tmps ps assign body dl .ready none))::Pm) s ⟨a.tmps,mark++a.defers⟩ w1 A Lx sp∧
   (∀p∈Pm,p.1≠l)∧(∀p∈Pt,p∈Pm)∧(∀d∈mark++a.defers,∃D,C.B≤D∧d=⟨.collected D,#[]⟩∧(D,.deferred (some []))∈Pm)∧(C.ro.isSome=true→mark=[])∧(∀l,C.ro=some l→∃r,(l,.loop r)∈Pm)∧
   Ev w A (full s sp Lx Pt) w1 A (full s sp Lx ((l,.loop (bk fn a.tmps ps assign body dl .ready none))::Pm)):=by
 cases hro:C.ro with
 |none=>
  refine⟨w.heap.size+1,[{target:=.collected w.heap.size,args:= #[]}],w.heap.size,(w.heap.size,.deferred (some []))::Pt,_,run_enterLoop_outer fn a.tmps ps assign body,?_,?_,fun p hp=>List.mem_cons_of_mem _ hp,?_,fun e=>by simp at e,fun l e=>by simp at e,?_⟩
  ·have h1:=h.lay (ob:=.deferred (some [])) rfl
   have h2:=h1.lay (ob:=.loop (bk fn a.tmps ps assign body w.heap.size .ready none)) rfl
   rw[gJ] at h2
   refine⟨h2.rs,h2.ig,h2.lt,h2.ap,h2.av,h2.x,h2.pt,h2.ob,h2.oa,h2.bs,?_,fun d hd=> ?_,h2.ro⟩
   ·simp only[List.cons_append,List.nil_append,List.map_cons]
    refine List.nodup_cons.2 ⟨fun hm=> ?_,h.dn⟩
    obtain⟨d,hd,e⟩:=List.mem_map.1 hm
    obtain⟨D,d1,d2,d3⟩:=h.df d hd
    rw[d2] at e
    injection e with e
    subst e
    exact absurd (cc (h.pt _ d3).1) (Nat.lt_irrefl _)
   ·rcases List.mem_cons.1 hd with rfl|hd
    ·exact⟨_,h.bs,rfl,List.mem_cons_of_mem _ (List.mem_cons_self ..)⟩
    ·obtain⟨D,d1,d2,d3⟩:=h.df d hd
     exact⟨D,d1,d2,List.mem_cons_of_mem _ (List.mem_cons_of_mem _ d3)⟩
  ·intro p hp
   rcases List.mem_cons.1 hp with rfl|hp
   ·simp
   ·have:=cc (h.pt p hp).1;omega
  ·intro d hd
   rcases List.mem_cons.1 hd with rfl|hd
   ·exact⟨_,h.bs,rfl,List.mem_cons_self ..⟩
   ·obtain⟨D,d1,d2,d3⟩:=h.df d hd
    exact⟨D,d1,d2,List.mem_cons_of_mem _ d3⟩
  ·have e1:=h.rL (.deferred (some [])) (full s sp Lx Pt) (fun b o hl=>h.kB hl) (full s sp Lx ((w.heap.size,.deferred (some []))::Pt)) (fun b o ht=>by
    rcases ht with ht|⟨p,hp,rfl⟩
    ·exact .inl (.inl ht)
    ·rcases List.mem_cons.1 hp with rfl|hp
     ·exact .inr rfl
     ·exact .inl (.inr ⟨p,hp,rfl⟩))
   have h1:=h.lay (ob:=.deferred (some [])) rfl
   have e2:=h1.rL (.loop (bk fn a.tmps ps assign body w.heap.size .ready none)) (full s sp Lx ((w.heap.size,.deferred (some []))::Pt)) (fun b o hl=>h1.kB hl)
    (full s sp Lx ((w.heap.size+1,.loop (bk fn a.tmps ps assign body w.heap.size .ready none))::(w.heap.size,.deferred (some []))::Pt)) (fun b o ht=>by
    rcases ht with ht|⟨p,hp,rfl⟩
    ·exact .inl (.inl ht)
    ·rcases List.mem_cons.1 hp with rfl|hp
     ·exact .inr (by rw[gJ])
     ·exact .inl (.inr ⟨p,hp,rfl⟩))
   exact e1.trans e2
 |some l0=>
  obtain⟨r0,hr0⟩:=h.ro l0 hro
  refine⟨w.heap.size,[],r0.defers,Pt,_,run_enterLoop_inner (h.pt _ hr0).1 fn a.tmps ps assign body,?_,?_,fun p hp=>hp,h.df,fun _=>rfl,fun l e=>by injection e with e;subst e;exact⟨r0,hr0⟩,?_⟩
  ·exact h.lay rfl
  ·intro p hp
   have:=cc (h.pt p hp).1;omega
  ·exact h.rL _ (full s sp Lx Pt) (fun b o hl=>h.kB hl) _ (fun b o ht=>by
    rcases ht with ht|⟨p,hp,rfl⟩
    ·exact .inl (.inl ht)
    ·rcases List.mem_cons.1 hp with rfl|hp
     ·exact .inr rfl
     ·exact .inl (.inr ⟨p,hp,rfl⟩))
theorem zg{aD:cn}:∀c:Code,sL P aD c:=by
 intro c
 induction c with
 |skip=>
  intro C m kn ke kr Pt s a w A Lx sp aW hm h hv
  injection hm with hm;subst hm
  exact wpIn_skip ⟨s,A,Lx,sp,Pt,fun _ h=>h,h,.refl _ _ _,fun _=>rfl,hv⟩
 |label l=>
  intro C m kn ke kr Pt s a w A Lx sp aW hm h hv
  injection hm with hm;subst hm
  exact wpIn_label ⟨s,A,Lx,sp,Pt,fun _ h=>h,h,.refl _ _ _,fun _=>rfl,hv⟩
 |scope c ih=>
  intro C m kn ke kr Pt s a w A Lx sp aW hm h hv
  exact O4 (fun l a w hq=>by obtain⟨_,_,_,_,_,_,_,_,_,hq⟩:=hq;exact hq.elim) (ih C m kn ke kr Pt s a w A Lx sp aW hm h hv)
 |region id ops draw=>
  intro C m kn ke kr Pt s a w A Lx sp aW hm h hv
  have fin:∀s' a' w' A' bp sp',vcs P ((oW aD C.N id).map .bD) kn s'→GS C Pt s' a' w' A' bp sp'→Ev w A (join (held s sp) Lx) w' A' (join (held s' sp') bp)→a'.defers=a.defers→zc C Pt s a.defers w A Lx sp kn ke kr .normal a' w':=by
   intro s' a' w' A' bp sp' hk hr aJ hd
   obtain⟨s2,A2,sp2,g1,g2,g3⟩:=acQ (oW aD C.N id) (Eo aW) hr hk
   exact⟨s2,A2,bp,sp2,Pt,fun _ h=>h,g2,aJ.trans g3,fun _=>hd,g1⟩
  cases draw with
  |true=>
   simp only[de] at hm
   split at hm
   ·injection hm with hm;subst hm
    simp only[br,ai.ev] at hv
   simp only[Option.map_eq_some_iff] at hm
   obtain⟨ms,Z9,rfl⟩:=hm
   simp only[br,vk] at hv
   exact ON (OR aD C.N) aW Z9 h hv fin
  |false=>
   simp only[de] at hm
   split at hm
   ·injection hm with hm;subst hm
    simp only[br,ai.ev] at hv
   simp only[Option.map_eq_some_iff] at hm
   obtain⟨ms,Z9,rfl⟩:=hm
   simp only[br] at hv
   rw[vk] at hv
   obtain⟨s2,A2,sp2,g1,g2,g3⟩:=acQ (oW aD C.N (id+1000000)) (Eo aW) h hv
   rw[vk] at g1
   exact wpIn_region_list (Em (OQ aD C.N) aW ops.toList ms s2 a w A2 Lx sp2 Z9 g2 g1 fun s' a' w' A' bp sp' hk hr aJ hd=>fin s' a' w' A' bp sp' hk hr (g3.trans aJ) hd)
 |seq x y zh zi=>
  intro C m kn ke kr Pt s a w A Lx sp aW hm h hv
  simp only[de] at hm
  split at hm
  ·rename_i mx my h1 h2
   injection hm with hm;subst hm
   refine wpIn_seq (wpIn_mono (zh C mx _ ke kr Pt s a w A Lx sp aW h1 h hv) ?_)
   rintro e a' w' ⟨s',A',bp,sp',Pt',hsub,hr,aJ,hd,hq⟩
   cases e with
   |normal=>
    refine wpIn_mono (zi C my kn ke kr Pt' s' a' w' A' bp sp' aW h2 hr hq) ?_
    rintro e a2 w2 ⟨s2,A2,Lx2,sp2,mG,sP,cE,dm,er,jJ⟩
    exact⟨s2,A2,Lx2,sp2,mG,fun p hp=>sP p (hsub p hp),cE,aJ.trans dm,fun e=>(er e).trans (hd e),jJ⟩
   |exit i=>exact⟨s',A',bp,sp',Pt',hsub,hr,aJ,hd,hq⟩
   |ret=>exact⟨s',A',bp,sp',Pt',hsub,hr,aJ,hd,hq⟩
   |goto l=>exact hq.elim
   |panic ch=>exact hq.elim
   |outgrown=>exact hq.elim
  ·cases hm
 |cond t x y zh zi=>
  intro C m kn ke kr Pt s a w A Lx sp aW hm h hv
  simp only[de] at hm
  split at hm
  ·rename_i t' mx my ht h1 h2
   injection hm with hm;subst hm
   have h3:=(bf h.rs ht).1
   simp only[br] at hv
   split at hv
   ·rename_i b hb
    rw[hb] at h3
    have EA:a.eval t=.bool b:=h3.k9
    cases b with
    |true=>exact wpIn_cond_true EA (zh C mx kn ke kr Pt s a w A Lx sp aW h1 h (hv.1 rfl))
    |false=>exact wpIn_cond_false EA (zi C my kn ke kr Pt s a w A Lx sp aW h2 h (hv.2 rfl))
   ·exact hv.elim
  ·cases hm
 |block id c ih=>
  intro C m kn ke kr Pt s a w A Lx sp aW hm h hv
  simp only[de,Option.map_eq_some_iff] at hm
  obtain⟨mc,hmc,rfl⟩:=hm
  refine wpIn_block (wpIn_mono (ih C mc kn _ kr Pt s a w A Lx sp aW hmc h hv) ?_)
  rintro e a' w' ⟨s',A',bp,sp',Pt',hsub,hr,aJ,hd,hq⟩
  cases e with
  |normal=>exact⟨s',A',bp,sp',Pt',hsub,hr,aJ,hd,hq⟩
  |exit i=>
   simp only[Exit.inBlock]
   simp only[Ends] at hq
   split at hq
   ·rename_i e;rw[if_pos e];exact⟨s',A',bp,sp',Pt',hsub,hr,aJ,hd,hq⟩
   ·rename_i e;rw[if_neg e];exact⟨s',A',bp,sp',Pt',hsub,hr,aJ,hd,hq⟩
  |ret=>exact⟨s',A',bp,sp',Pt',hsub,hr,aJ,hd,hq⟩
  |goto l=>exact hq.elim
  |panic ch=>exact hq.elim
  |outgrown=>exact hq.elim
 |loop c ih=>
  intro C m kn ke kr Pt s a w A Lx sp aW hm h hv
  simp only[de,Option.map_eq_some_iff] at hm
  obtain⟨mc,hmc,rfl⟩:=hm
  obtain⟨I,⟨n1,s1,oV,hI⟩,ji⟩:=hv
  have EB:∀{Pt:List (Nat×Obj)} {s s1:St} {a:Act} {w:World} {A Lx:aK} {sp:Sp},qw s s1→GS C Pt s a w A Lx sp→∃A1 dQ,GS C Pt s1 a w A1 Lx dQ∧Ev w A (join (held s sp) Lx) w A1 (join (held s1 dQ) Lx):=by
   intro Pt s s1 a w A Lx sp he hg
   obtain⟨A1,dQ,g1,g2⟩:=he.2 C.N ⟨a.tmps,[]⟩ w A sp hg.rs
   obtain⟨g3,g4⟩:=hg.own (a':=a) g1 g2 he.1 rfl
   exact⟨A1,dQ,g3,g4⟩
  obtain⟨A1,dQ,eS,aa6⟩:=EB oV h
  intro b k cs hro hb hroom
  have key:∀n s2 a2 w2 A2 Lx2 sp2 mG,I n s2→(∀p∈Pt,p∈mG)→GS C mG s2 a2 w2 A2 Lx2 sp2→Ev w A (join (held s sp) Lx) w2 A2 (join (held s2 sp2) Lx2)→(C.ro.isSome=true→a2.defers=a.defers)→∃e a' w',zc C Pt s a.defers w A Lx sp kn ke kr e a' w'∧ArrivesIn (Machine.fenced P (Fw C.ro)) P (lone (b.atR a2 (.code c::.inLoop c::k)) cs w2) b k cs e a' w':=by
   intro n
   induction n using Nat.strongRecOn with
   |_ n ihn=>
    intro s2 a2 w2 A2 Lx2 sp2 mG O_ sP cE dm er
    obtain⟨e,a3,w3,⟨s3,A3,bX,bZ,sO,kC,mH,jk,oY,hq3⟩,jT⟩:=ih C mc _ ke kr mG s2 a2 w2 A2 Lx2 sp2 aW hmc cE (ji n s2 O_) b (.inLoop c::k) cs hro hb hroom
    cases e with
    |normal=>
     obtain⟨n4,s4,hlt,Pa,Pb⟩:=hq3
     obtain⟨A4,Pc,Pd,Pe⟩:=EB Pa mH
     obtain⟨e5,a5,w5,Pf,Pg⟩:=ihn n4 hlt s4 a3 w3 A4 bX Pc sO Pb (fun p hp=>kC p (sP p hp)) Pd ((dm.trans jk).trans Pe) (fun e=>(oY e).trans (er e))
     exact⟨e5,a5,w5,Pf,.of_steps (StepsIn.trans jT (.one (fenced_calm hb hroom rfl) stepR_inLoop)) Pg⟩
    |exit id=>exact⟨.exit id,a3,w3,⟨s3,A3,bX,bZ,sO,fun p hp=>kC p (sP p hp),mH,dm.trans jk,fun e=>(oY e).trans (er e),hq3⟩,.pass (x:=.inLoop c) rfl (fun _ _=>.inl (by simp)) jT⟩
    |ret=>exact⟨.ret,a3,w3,⟨s3,A3,bX,bZ,sO,fun p hp=>kC p (sP p hp),mH,dm.trans jk,fun e=>(oY e).trans (er e),hq3⟩,.pass (x:=.inLoop c) rfl (fun _ _=>.inl (by simp)) jT⟩
    |goto l=>exact hq3.elim
    |panic ch=>exact hq3.elim
    |outgrown=>exact hq3.elim
  obtain⟨e,a',w',hq,jT⟩:=key n1 s1 a w A1 Lx dQ Pt hI (fun _ h=>h) eS aa6 (fun _=>rfl)
  exact⟨e,a',w',hq,.of_steps (.one (fenced_calm hb hroom rfl) stepR_loop) jT⟩
 |exit id=>
  intro C m kn ke kr Pt s a w A Lx sp aW hm h hv
  injection hm with hm;subst hm
  exact wpIn_exit ⟨s,A,Lx,sp,Pt,fun _ h=>h,h,.refl _ _ _,fun _=>rfl,hv⟩
 |ret=>
  intro C m kn ke kr Pt s a w A Lx sp aW hm h hv
  injection hm with hm;subst hm
  exact wpIn_ret ⟨s,A,Lx,sp,Pt,fun _ h=>h,h,.refl _ _ _,fun _=>rfl,hv⟩
 |rangeFunc g ps assign body qy qz=>
  intro C m kn ke kr Pt s a w A Lx sp aW hm h hv
  simp only[de] at hm
  split at hm
  ·rename_i x ma mb ht hma hmb
   split at hm
   ·rename_i hps
    replace hps:∀p∈ps.toList,p<C.N:=fun p hp=>by have:=(List.all_eq_true.1 hps) p hp;simpa using this
    have hg:=(bf h.rs ht).1
    split at hm
    ·rename_i pos hpos
     split at hm
     ·rename_i Ph
      injection hm with hm;subst hm
      simp only[br] at hv
      split at hv
      ·rename_i f first cap e1
       obtain⟨Pj,⟨hfn,hseq⟩,I,zj,ji,hend⟩:=hv
       obtain⟨xs,hxs⟩:∃xs,xs=Pj.map fun x=>[x,mark pos]:=⟨_,rfl⟩
       rw[←hxs] at hseq
       rw[e1] at hg
       replace hg:RV w A (.func (.func f) first cap) (a.eval g):=hg
       generalize aR:a.eval g=v0 at hg
       cases hg with
       |func _ _ _ vf vc eJ hsc hf hc=>
        refine wpIn_rangeFunc fun fn _=> ?_
        obtain⟨l,mark,dl,Pm,w1,zk,cY,hne,hsub,hdf,hmk,hro,aa6⟩:=Ez h fn ps assign body
        have hcell:∀b o v,A b o→w.cell? ⟨b,o,none⟩=some v→w1.cell? ⟨b,o,none⟩=some v∧A b o:=fun b o v ha hv=>⟨(aa6.cell b o (h.aaG ha).1 (h.aaG ha).2).1.trans hv,ha⟩
        have hkeep:gF w w1 A A:=aa6.kept fun b o ha=>h.aaG ha
        refine⟨l,mark,w1,{target:=.fn (.func f) vc,args:=vf++ #[.func (.yield l) #[] #[]]},w1,f,(vf++ #[.func (.yield l) #[] #[]])++vc,w1,zk,?_,fun _ _=>trivial,?_,fun e=>(by cases e),?_⟩
        ·have zl:Act.eval a g=.func (.func f) vf vc:=aR
         simp only[resolve,zl]
         simp[go_sem,Deferred.ofValue]
        ·simp only[invoke]
         exact acO hfn _ _
        ·have lE:GS C ((l,.loop (bk fn a.tmps ps assign body dl .ready none))::Pm) (back s s) ⟨a.tmps,mark++a.defers⟩ w1 A Lx sp:=⟨cY.rs.forget,fun k hk=>by rw[aa5 _ _ hk];exact cY.ig k hk,cY.lt,by rw[jS];exact cY.ap,cY.av,by rw[aa5 _ _ (Nat.le_refl _)];exact cY.x,fun p hp=>by rw[jj];exact cY.pt p hp,fun b=>by rw[jj];exact cY.ob b,by rw[sK];exact cY.oa,cY.bs,cY.dn,cY.df,cY.ro⟩
         refine va (Calls.mono (hseq (nQ C s a.tmps (mark++a.defers) l (bk fn a.tmps ps assign body dl) Pm xs I ke kr) l w1 A (full (back s s) sp Lx ((l,.loop (bk fn a.tmps ps assign body dl .ready none))::Pm)) _ ac_ (by rw[hxs];exact O8) (by rw[hxs];exact O7 qy qz aW hma hmb hps hne Ph hdf hro cY.dn ji) (fun b o=>lE.kB) (fun b o=>lE.aaG) (by simp only[Array.size_append,List.length_append,eJ,hsc];rfl) (fun i=> ?_) ⟨rfl,0,Nat.zero_le _,rfl,back s s,sp,Lx,lE,(vn s s s).symm,zj,rfl⟩) ?_)
         ·have hy:RV w1 A (AV.func (.yield l) [] []) (.func (.yield l) #[] #[]):=.func _ _ _ _ _ rfl rfl (fun i=>by simp;exact .any _) (fun i=>by simp;exact .any _)
          have e2:=lp vf.toList [Value.func (.yield l) #[] #[]] vc.toList i undef
          have e3:=lp first [AV.func (.yield l) [] []] cap i .any
          have e4:((vf++ #[Value.func (.yield l) #[] #[]])++vc).getD i undef=(vf.toList++[Value.func (.yield l) #[] #[]]++vc.toList).getD i undef:=by simp only[List.getD_eq_getElem?_getD,Array.getD_eq_getD_getElem?,←Array.getElem?_toList,Array.toList_append]
          rw[e4,e2,e3]
          simp only[Array.length_toList,eJ,List.length_singleton]
          split
          ·have:=(hf i).mono hcell hkeep
           simpa[List.getD_eq_getElem?_getD,Array.getD_eq_getD_getElem?] using this
          ·split
           ·rename_i h1 h2
            have h0:i - first.length=0:=by omega
            rw[h0];exact hy
           ·have:=(hc (i - first.length - 1)).mono hcell hkeep
            simpa[List.getD_eq_getElem?_getD,Array.getD_eq_getD_getElem?] using this
         ·rintro e w3 ⟨v,A3,L3,rest,b,rfl,jk,vr,Pk,sQ,hb⟩
          cases b with
          |false=>
           obtain⟨-,k,hk,ep,st,bZ,bX,gw,hst,zm,rfl⟩:=sQ
           have hr0:rest=[]:=hb.resolve_left (by simp)
           have vt:k=xs.length:=by
            rw[hr0] at ep
            have:=congrArg List.length ep
            simp at this;omega
           rw[hxs,List.length_map] at vt
           subst vt
           have h_:=(gw.pt _ (List.mem_cons_self ..)).1
           refine⟨none,_,run_endLoop h_ (by simp),?_⟩
           have dr:GS C Pm st ⟨a.tmps,mark++a.defers⟩ (w3.putObj l (.loop {bk fn a.tmps ps assign body dl .ready none with state:=.exhausted})) A3 bX bZ:=gw.putObj (List.mem_cons_self ..) (fun p hp=>.inr ⟨List.mem_cons_of_mem _ hp,hne p hp⟩) hdf hro
           have hE:Ev w A (full s sp Lx Pt) (w3.putObj l (.loop {bk fn a.tmps ps assign body dl .ready none with state:=.exhausted})) A3 (full st bZ bX Pm):=by
            have q1:Ev w1 A (full s sp Lx ((l,.loop (bk fn a.tmps ps assign body dl .ready none))::Pm)) w3 A3 (full st bZ bX ((l,.loop (bk fn a.tmps ps assign body dl .ready none))::Pm)):=by
             have e0:full (back s s) sp Lx ((l,.loop (bk fn a.tmps ps assign body dl .ready none))::Pm)=full s sp Lx ((l,.loop (bk fn a.tmps ps assign body dl .ready none))::Pm):=by unfold full;rw[jS]
             rw[←e0];exact jk
            have q2:Ev w3 A3 _ (w3.putObj l (.loop {bk fn a.tmps ps assign body dl .ready none with state:=.exhausted})) A3 _:=Ev.putObj w3 A3 (L:=full st bZ bX ((l,.loop (bk fn a.tmps ps assign body dl .ready none))::Pm)) _ (fun o=>.inr ⟨_,List.mem_cons_self ..,rfl⟩)
            exact((aa6.trans q1).trans q2).sA (fun _ _ h=>.inl h) (fun b o _ hm=>.inr (by
             rcases hm with hm|⟨p,hp,rfl⟩
             ·exact .inl hm
             ·exact .inr ⟨p,List.mem_cons_of_mem _ hp,rfl⟩))
           exact⟨st,A3,bX,bZ,Pm,hsub,dr,h.qB dr hsub hE,fun e=>by simp[hmk e],hend st hst zm⟩
          |true=>
           obtain⟨-,c,st,bZ,bX,gw,hst,zn,rfl⟩:=sQ
           have h_:=(gw.pt _ (List.mem_cons_self ..)).1
           refine⟨some c,_,run_endLoop h_ (by simp),?_⟩
           have dr:GS C Pm st ⟨a.tmps,mark++a.defers⟩ (w3.putObj l (.loop {bk fn a.tmps ps assign body dl .done (some c) with state:=.exhausted})) A3 bX bZ:=gw.putObj (List.mem_cons_self ..) (fun p hp=>.inr ⟨List.mem_cons_of_mem _ hp,hne p hp⟩) hdf hro
           have hE:Ev w A (full s sp Lx Pt) (w3.putObj l (.loop {bk fn a.tmps ps assign body dl .done (some c) with state:=.exhausted})) A3 (full st bZ bX Pm):=by
            have q1:Ev w1 A (full s sp Lx ((l,.loop (bk fn a.tmps ps assign body dl .ready none))::Pm)) w3 A3 (full st bZ bX ((l,.loop (bk fn a.tmps ps assign body dl .done (some c)))::Pm)):=by
             have e0:full (back s s) sp Lx ((l,.loop (bk fn a.tmps ps assign body dl .ready none))::Pm)=full s sp Lx ((l,.loop (bk fn a.tmps ps assign body dl .ready none))::Pm):=by unfold full;rw[jS]
             rw[←e0];exact jk
            have q2:Ev w3 A3 _ (w3.putObj l (.loop {bk fn a.tmps ps assign body dl .done (some c) with state:=.exhausted})) A3 _:=Ev.putObj w3 A3 (L:=full st bZ bX ((l,.loop (bk fn a.tmps ps assign body dl .done (some c)))::Pm)) _ (fun o=>.inr ⟨_,List.mem_cons_self ..,rfl⟩)
            exact((aa6.trans q1).trans q2).sA (fun _ _ h=>.inl h) (fun b o _ hm=>.inr (by
             rcases hm with hm|⟨p,hp,rfl⟩
             ·exact .inl hm
             ·exact .inr ⟨p,List.mem_cons_of_mem _ hp,rfl⟩))
           rcases zn with ⟨i,rfl,hq⟩|⟨rfl,hq⟩
           ·exact wpIn_exit ⟨st,A3,bX,bZ,Pm,hsub,dr,h.qB dr hsub hE,fun e=>by simp[hmk e],hq⟩
           ·exact wpIn_ret ⟨st,A3,bX,bZ,Pm,hsub,dr,h.qB dr hsub hE,fun e=>by simp[hmk e],hq⟩
      ·exact hv.elim
     ·cases hm
    ·injection hm with hm;subst hm
     simp only[br] at hv
     split at hv
     ·rename_i f first cap e1
      obtain⟨xs,⟨hfn,hseq⟩,hlen,I,zj,ji,hend⟩:=hv
      rw[e1] at hg
      replace hg:RV w A (.func (.func f) first cap) (a.eval g):=hg
      generalize aR:a.eval g=v0 at hg
      cases hg with
      |func _ _ _ vf vc eJ hsc hf hc=>
       refine wpIn_rangeFunc fun fn _=> ?_
       obtain⟨l,mark,dl,Pm,w1,zk,cY,hne,hsub,hdf,hmk,hro,aa6⟩:=Ez h fn ps assign body
       have hcell:∀b o v,A b o→w.cell? ⟨b,o,none⟩=some v→w1.cell? ⟨b,o,none⟩=some v∧A b o:=fun b o v ha hv=>⟨(aa6.cell b o (h.aaG ha).1 (h.aaG ha).2).1.trans hv,ha⟩
       have hkeep:gF w w1 A A:=aa6.kept fun b o ha=>h.aaG ha
       refine⟨l,mark,w1,{target:=.fn (.func f) vc,args:=vf++ #[.func (.yield l) #[] #[]]},w1,f,(vf++ #[.func (.yield l) #[] #[]])++vc,w1,zk,?_,fun _ _=>trivial,?_,fun e=>(by cases e),?_⟩
       ·have zl:Act.eval a g=.func (.func f) vf vc:=aR
        simp only[resolve,zl]
        simp[go_sem,Deferred.ofValue]
       ·simp only[invoke]
        exact acO hfn _ _
       ·have lE:GS C ((l,.loop (bk fn a.tmps ps assign body dl .ready none))::Pm) (back s s) ⟨a.tmps,mark++a.defers⟩ w1 A Lx sp:=⟨cY.rs.forget,fun k hk=>by rw[aa5 _ _ hk];exact cY.ig k hk,cY.lt,by rw[jS];exact cY.ap,cY.av,by rw[aa5 _ _ (Nat.le_refl _)];exact cY.x,fun p hp=>by rw[jj];exact cY.pt p hp,fun b=>by rw[jj];exact cY.ob b,by rw[sK];exact cY.oa,cY.bs,cY.dn,cY.df,cY.ro⟩
        refine va (Calls.mono (hseq (nQ C s a.tmps (mark++a.defers) l (bk fn a.tmps ps assign body dl) Pm xs I ke kr) l w1 A (full (back s s) sp Lx ((l,.loop (bk fn a.tmps ps assign body dl .ready none))::Pm)) _ ac_ (O5 qy qz aW hma hmb hps hne (fun y hy=>(hlen y hy).1) hdf hro cY.dn ji) (O9 fun y hy=>(hlen y hy).2) (fun b o=>lE.kB) (fun b o=>lE.aaG) (by simp only[Array.size_append,List.length_append,eJ,hsc];rfl) (fun i=> ?_) ⟨rfl,0,Nat.zero_le _,rfl,back s s,sp,Lx,lE,(vn s s s).symm,zj,rfl⟩) ?_)
        ·have hy:RV w1 A (AV.func (.yield l) [] []) (.func (.yield l) #[] #[]):=.func _ _ _ _ _ rfl rfl (fun i=>by simp;exact .any _) (fun i=>by simp;exact .any _)
         have e2:=lp vf.toList [Value.func (.yield l) #[] #[]] vc.toList i undef
         have e3:=lp first [AV.func (.yield l) [] []] cap i .any
         have e4:((vf++ #[Value.func (.yield l) #[] #[]])++vc).getD i undef=(vf.toList++[Value.func (.yield l) #[] #[]]++vc.toList).getD i undef:=by simp only[List.getD_eq_getElem?_getD,Array.getD_eq_getD_getElem?,←Array.getElem?_toList,Array.toList_append]
         rw[e4,e2,e3]
         simp only[Array.length_toList,eJ,List.length_singleton]
         split
         ·have:=(hf i).mono hcell hkeep
          simpa[List.getD_eq_getElem?_getD,Array.getD_eq_getD_getElem?] using this
         ·split
          ·rename_i h1 h2
           have h0:i - first.length=0:=by omega
           rw[h0];exact hy
          ·have:=(hc (i - first.length - 1)).mono hcell hkeep
           simpa[List.getD_eq_getElem?_getD,Array.getD_eq_getD_getElem?] using this
        ·rintro e w3 ⟨v,A3,L3,rest,b,rfl,jk,vr,Pk,sQ,hb⟩
         cases b with
         |false=>
          obtain⟨-,k,hk,ep,st,bZ,bX,gw,hst,zm,rfl⟩:=sQ
          have hr0:rest=[]:=hb.resolve_left (by simp)
          have vt:k=xs.length:=by
           rw[hr0] at ep
           have:=congrArg List.length ep
           simp at this;omega
          subst vt
          have h_:=(gw.pt _ (List.mem_cons_self ..)).1
          refine⟨none,_,run_endLoop h_ (by simp),?_⟩
          have dr:GS C Pm st ⟨a.tmps,mark++a.defers⟩ (w3.putObj l (.loop {bk fn a.tmps ps assign body dl .ready none with state:=.exhausted})) A3 bX bZ:=gw.putObj (List.mem_cons_self ..) (fun p hp=>.inr ⟨List.mem_cons_of_mem _ hp,hne p hp⟩) hdf hro
          have hE:Ev w A (full s sp Lx Pt) (w3.putObj l (.loop {bk fn a.tmps ps assign body dl .ready none with state:=.exhausted})) A3 (full st bZ bX Pm):=by
           have q1:Ev w1 A (full s sp Lx ((l,.loop (bk fn a.tmps ps assign body dl .ready none))::Pm)) w3 A3 (full st bZ bX ((l,.loop (bk fn a.tmps ps assign body dl .ready none))::Pm)):=by
            have e0:full (back s s) sp Lx ((l,.loop (bk fn a.tmps ps assign body dl .ready none))::Pm)=full s sp Lx ((l,.loop (bk fn a.tmps ps assign body dl .ready none))::Pm):=by unfold full;rw[jS]
            rw[←e0];exact jk
           have q2:Ev w3 A3 _ (w3.putObj l (.loop {bk fn a.tmps ps assign body dl .ready none with state:=.exhausted})) A3 _:=Ev.putObj w3 A3 (L:=full st bZ bX ((l,.loop (bk fn a.tmps ps assign body dl .ready none))::Pm)) _ (fun o=>.inr ⟨_,List.mem_cons_self ..,rfl⟩)
           exact((aa6.trans q1).trans q2).sA (fun _ _ h=>.inl h) (fun b o _ hm=>.inr (by
            rcases hm with hm|⟨p,hp,rfl⟩
            ·exact .inl hm
            ·exact .inr ⟨p,List.mem_cons_of_mem _ hp,rfl⟩))
          exact⟨st,A3,bX,bZ,Pm,hsub,dr,h.qB dr hsub hE,fun e=>by simp[hmk e],hend st hst zm⟩
         |true=>
          obtain⟨-,c,st,bZ,bX,gw,hst,zn,rfl⟩:=sQ
          have h_:=(gw.pt _ (List.mem_cons_self ..)).1
          refine⟨some c,_,run_endLoop h_ (by simp),?_⟩
          have dr:GS C Pm st ⟨a.tmps,mark++a.defers⟩ (w3.putObj l (.loop {bk fn a.tmps ps assign body dl .done (some c) with state:=.exhausted})) A3 bX bZ:=gw.putObj (List.mem_cons_self ..) (fun p hp=>.inr ⟨List.mem_cons_of_mem _ hp,hne p hp⟩) hdf hro
          have hE:Ev w A (full s sp Lx Pt) (w3.putObj l (.loop {bk fn a.tmps ps assign body dl .done (some c) with state:=.exhausted})) A3 (full st bZ bX Pm):=by
           have q1:Ev w1 A (full s sp Lx ((l,.loop (bk fn a.tmps ps assign body dl .ready none))::Pm)) w3 A3 (full st bZ bX ((l,.loop (bk fn a.tmps ps assign body dl .done (some c)))::Pm)):=by
            have e0:full (back s s) sp Lx ((l,.loop (bk fn a.tmps ps assign body dl .ready none))::Pm)=full s sp Lx ((l,.loop (bk fn a.tmps ps assign body dl .ready none))::Pm):=by unfold full;rw[jS]
            rw[←e0];exact jk
           have q2:Ev w3 A3 _ (w3.putObj l (.loop {bk fn a.tmps ps assign body dl .done (some c) with state:=.exhausted})) A3 _:=Ev.putObj w3 A3 (L:=full st bZ bX ((l,.loop (bk fn a.tmps ps assign body dl .done (some c)))::Pm)) _ (fun o=>.inr ⟨_,List.mem_cons_self ..,rfl⟩)
           exact((aa6.trans q1).trans q2).sA (fun _ _ h=>.inl h) (fun b o _ hm=>.inr (by
            rcases hm with hm|⟨p,hp,rfl⟩
            ·exact .inl hm
            ·exact .inr ⟨p,List.mem_cons_of_mem _ hp,rfl⟩))
          rcases zn with ⟨i,rfl,hq⟩|⟨rfl,hq⟩
          ·exact wpIn_exit ⟨st,A3,bX,bZ,Pm,hsub,dr,h.qB dr hsub hE,fun e=>by simp[hmk e],hq⟩
          ·exact wpIn_ret ⟨st,A3,bX,bZ,Pm,hsub,dr,h.qB dr hsub hE,fun e=>by simp[hmk e],hq⟩
     ·exact hv.elim
   ·cases hm
  ·cases hm
 |goto=>intro C m kn ke kr Pt s a w A Lx sp aW hm;cases hm
 |refuse=>intro C m kn ke kr Pt s a w A Lx sp aW hm;cases hm
end
end Go.Z4
namespace Go.Z4
open Go.RowKit
section
variable {P:Program} {N:Nat}
inductive aF where
 |tmp (t:Nat)
 |cell (t:Nat) (n:Option Nat)
def e_(P:Program):List ResultVar→Option (List aF)
 |[]=>some []
 |.tmp t::rs=>(e_ P rs).map (.tmp t:: ·)
 |.cell t ty::rs=>match jK P ty,e_ P rs with
  |some n,some l=>some (.cell t n::l)
  |_,_=>none
def fc(s:St):List aF→(List AV→Prop)→Prop
 |[],K=>K []
 |.tmp t::rs,K=>fc s rs fun vs=>K ((s.env t).erase::vs)
 |.cell t n::rs,K=>cN s.loc (s.env t) n fun v=>fc s rs fun vs=>K (v.erase::vs)
def fD:List AV→AV
 |[x]=>x
 |xs=>.tuple xs
def cO(xs:List AV):Nat→AV:=fun k=>(xs.getD k .any).erase
def jl:Sp:=fun _=>(0,0,0)
theorem zo(b o:Nat):¬live (fun _=>none) jl b o:=by
 rintro(h|⟨r,h1,h2,h3⟩)
 ·exact h rfl
 ·simp[jl] at h3
theorem adI{s:St}{a:Act}{w:World}{A:aK}{sp:Sp}{ty:TypeId}{n:Option Nat}{t:Nat}{k:AV→Prop}(hp:jK P ty=some n)(h:RS N s a w A sp)(hv:cN s.loc (s.env t) n k):∃x v,(do loadVar ty (←asAddr (a.tmps.getD t undef)):Sem Value).run P w=.ok v w∧RV w A x v∧k x:=by
 have h1:=(h.env t).1
 unfold cN at hv
 split at hv
 ·rename_i cs hcs
  rw[hcs] at h1
  generalize a.tmps.getD t undef=v0 at h1
  cases h1 with
  |ref _ b off vs hc hr=>
   cases n with
   |none=>
    simp only[cz] at hv
    have:=nB hp w b off vs (fun i hi=>(hc i (by simp at hi;omega)).1)
    exact⟨_,vs 0,by simp only[Sem.run_bind,asAddr,Sem.run_pure,Result.andThen_ok,this],(hr 0).erase,hv.2⟩
   |some m=>
    simp only[cz,Nat.zero_add,List.drop_zero] at hv
    have:=nB hp w b off vs (fun i hi=>(hc i (by simp at hi;omega)).1)
    refine⟨_,.agg ((Array.range m).map vs),by simp only[Sem.run_bind,asAddr,Sem.run_pure,Result.andThen_ok,this],?_,hv.2⟩
    refine RV.erase (RV.erase (.agg _ _ (by simp;omega) fun i=> ?_))
    by_cases hi:i<m
    ·have:=hr i
     simp only[List.getD_eq_getElem?_getD,List.getElem?_take,hi,if_true,Array.getD_eq_getD_getElem?,Array.getElem?_map] at this⊢
     rw[Array.getElem?_eq_getElem (by simpa using hi)]
     simpa using this
    ·simp only[List.getD_eq_getElem?_getD,List.getElem?_take,hi,if_false,Option.getD_none]
     exact .any _
 ·rename_i b off hcs
  rw[hcs] at h1
  generalize a.tmps.getD t undef=v0 at h1
  cases h1
  split at hv
  ·rename_i cs hb
   obtain⟨vs,T,hh,hsz,hr⟩:=h.loc b cs hb
   have hcell:∀i,off+i<cs.length→w.cell? ⟨b,off+i,none⟩=some (vs.getD (off+i) undef):=by
    intro i hi
    simp[World.cell?,hh,Array.getD_eq_getD_getElem?,Array.getElem?_eq_getElem (show off+i<vs.size by omega)]
   cases n with
   |none=>
    simp only[cz] at hv
    have:=nB hp w b off (fun i=>vs.getD (off+i) undef) (fun i hi=>hcell i (by simp at hi;omega))
    exact⟨_,vs.getD off undef,by simp only[Sem.run_bind,asAddr,Sem.run_pure,Result.andThen_ok,this,Nat.add_zero],(hr off).1,hv.2⟩
   |some m=>
    simp only[cz] at hv
    have:=nB hp w b off (fun i=>vs.getD (off+i) undef) (fun i hi=>hcell i (by simp at hi;omega))
    refine⟨_,.agg ((Array.range m).map fun i=>vs.getD (off+i) undef),by simp only[Sem.run_bind,asAddr,Sem.run_pure,Result.andThen_ok,this],?_,hv.2⟩
    refine RV.erase (.agg _ _ (by simp;omega) fun i=> ?_)
    by_cases hi:i<m
    ·have:=(hr (off+i)).1
     simp only[List.getD_eq_getElem?_getD,List.getElem?_take,hi,if_true,List.getElem?_drop,Array.getD_eq_getD_getElem?,Array.getElem?_map] at this⊢
     rw[Array.getElem?_eq_getElem (by simpa using hi)]
     simpa using this
    ·simp only[List.getD_eq_getElem?_getD,List.getElem?_take,hi,if_false,Option.getD_none]
     exact .any _
  ·exact hv.elim
 ·exact hv.elim
theorem zq{s:St}{a:Act}{w:World}{A:aK}{sp:Sp}(h:RS N s a w A sp)(f:ResultVar→Sem Value)(f1:∀t,f (.tmp t)=pure (a.tmps.getD t undef))(f2:∀b t,f (.cell b t)=(do loadVar t (←asAddr (a.tmps.getD b undef)))):∀(rs:List ResultVar) (ms:List aF) (k:List AV→Prop),e_ P rs=some ms→fc s ms k→∃xs vs,(rs.mapM f).run P w=.ok vs w∧vs.length=xs.length∧(∀i,RV w A (xs.getD i .any) (vs.getD i undef))∧k xs
 |[],ms,k,hm,hk=>by injection hm with hm;subst hm;exact⟨[],[],rfl,rfl,fun i=>by simp;exact .any _,hk⟩
 |.tmp t::rs,ms,k,hm,hk=>by
  simp only[e_,Option.map_eq_some_iff] at hm
  obtain⟨l,hl,rfl⟩:=hm
  obtain⟨xs,vs,g1,g2,g3,g4⟩:=zq h f f1 f2 rs l _ hl hk
  refine⟨_::xs,a.tmps.getD t undef::vs,?_,by simp[g2],fun i=> ?_,g4⟩
  ·simp only[List.mapM_cons,f1,Sem.run_bind,Sem.run_pure,Result.andThen_ok,g1]
  ·cases i with
   |zero=>simpa using(h.env t).1.erase
   |succ i=>simpa using g3 i
 |.cell t ty::rs,ms,k,hm,hk=>by
  simp only[e_] at hm
  split at hm
  ·rename_i n l hn hl
   injection hm with hm;subst hm
   obtain⟨x,v,r1,r2,r3⟩:=adI hn h hk
   obtain⟨xs,vs,g1,g2,g3,g4⟩:=zq h f f1 f2 rs l _ hl r3
   refine⟨x.erase::xs,v::vs,?_,by simp[g2],fun i=> ?_,g4⟩
   ·simp only[Sem.run_bind] at r1
    simp only[List.mapM_cons,f2,Sem.run_bind,r1,Result.andThen_ok,g1,Sem.run_pure]
   ·cases i with
    |zero=>simpa using r2.erase
    |succ i=>simpa using g3 i
  ·cases hm
theorem zu{s:St}{a:Act}{w:World}{A:aK}{sp:Sp}{fn:Func}{ms:List aF}{r:AV}(h:RS N s a w A sp)(hm:e_ P fn.results.toList=some ms)(hk:fc s ms fun xs=>r=fD xs):∃v,(results fn a.tmps).run P w=.ok v w∧RV w A r v:=by
 have key:∀f:ResultVar→Sem Value,(∀t,f (.tmp t)=pure (a.tmps.getD t undef))→(∀b t,f (.cell b t)=(do loadVar t (←asAddr (a.tmps.getD b undef))))→∃v,(do let vs←fn.results.mapM f;pure (if h:vs.size=1 then vs[0] else .tuple vs):Sem Value).run P w=.ok v w∧RV w A r v:=by
  intro f f1 f2
  obtain⟨xs,vs,g1,g2,g3,rfl⟩:=zq h f f1 f2 fn.results.toList ms _ hm hk
  rw[Sem.run_bind,Array.mapM_eq_mapM_toList,Sem.run_map,g1]
  refine⟨if h:vs.toArray.size=1 then vs.toArray[0] else .tuple vs.toArray,rfl,?_⟩
  match xs,vs,g2 with
  |[],[],_=>exact .tuple [] _ rfl (fun i=>by simp;exact .any _)
  |[x],[v],_=>simpa[fD] using g3 0
  |x::y::xs,u::v::vs,g2=>
   simp only[fD,List.size_toArray,List.length_cons,Nat.add_eq_right,Nat.add_eq_zero_iff,Nat.one_ne_zero,and_false,dite_false]
   refine .tuple _ _ (by simpa using g2) (fun i=> ?_)
   have:=g3 i
   simpa[List.getD_eq_getElem?_getD,Array.getD_eq_getD_getElem?] using this
  |[],_::_,g2=>simp at g2
  |[_],[],g2=>simp at g2
  |[_],_::_::_,g2=>simp at g2
  |_::_::_,[],g2=>simp at g2
  |_::_::_,[_],g2=>simp at g2
 exact key _ (fun _=>rfl) (fun _ _=>rfl)
def Fits(x:AV):Prop:=∃w A v,RV w A x v
def EC(B:Nat)(w w':World):Prop:=w'.os=w.os∧w'.tape=w.tape∧w'.output=w.output∧w.heap.size≤w'.heap.size∧∀b,b<B→w'.heap[b]? =w.heap[b]?
theorem Ev.low{w w1 w2:World}{A L A1 L1:aK}(h:Ev w A L w1 A1 L1)(k:EC w.heap.size w1 w2):Ev w A L w2 A1 L1:=by
 obtain⟨k1,k2,k3,k4,k5⟩:=k
 exact⟨k1.trans h.os,k2.trans h.tape,k3.trans h.output,Nat.le_trans h.size k4,fun b o hb hl=>⟨(World.cell?_of_block (k5 b hb)).trans (h.cell b o hb hl).1,(h.cell b o hb hl).2⟩,fun b hb hl=>(k5 b hb).trans (h.block b hb hl),h.sub,h.sup⟩
theorem vu{C:Ctx P}{s:St}{A Lx:aK}{sp:Sp}{fn:Func}{t:Array Value}{R:Ending→World→Prop}(hro:C.ro=none):∀(ds:List Deferred) (Pt:List (Nat×Obj)) (w:World),GS C Pt s ⟨t,ds⟩ w A Lx sp→(∀w' Pt',GS C Pt' s ⟨t,[]⟩ w' A Lx sp→EC C.B w w'→∃v,(results fn t).run P w'=.ok v w'∧R (.returned v) w')→LeavesInM (Fw none) 0 P fn t R ds .returning w
 |[],Pt,w,h,hk=>hk w Pt h ⟨rfl,rfl,rfl,Nat.le_refl _,fun _ _=>rfl⟩
 |d::ds,Pt,w,h,hk=>by
  obtain⟨D,d1,d2,d3⟩:=h.df d (List.mem_cons_self ..)
  have hD:=(h.pt _ d3).1
  refine⟨fun e=>(by cases e),.inl ⟨D,w.putObj D (.deferred none),by rw[d2],run_takeDeferred hD,?_⟩⟩
  have dU:=h.dn
  simp only[List.map_cons,List.nodup_cons] at dU
  have h1:GS C Pt s ⟨t,ds⟩ w A Lx sp:=⟨h.rs,h.ig,h.lt,h.ap,h.av,h.x,h.pt,h.ob,h.oa,h.bs,dU.2,fun e he=>h.df e (List.mem_cons_of_mem _ he),h.ro⟩
  have h2:GS C (Pt.filter fun p=>p.1 != D) s ⟨t,ds⟩ (w.putObj D (.deferred none)) A Lx sp:=by
   refine h1.putObj d3 (fun p hp=> ?_) (fun e he=> ?_) (fun l e=>by rw[hro] at e;cases e)
   ·obtain⟨g1,g2⟩:=List.mem_filter.1 hp
    exact .inr ⟨g1,by simpa using g2⟩
   ·obtain⟨E,e1,e2,e3⟩:=h1.df e he
    refine⟨E,e1,e2,List.mem_filter.2 ⟨e3,?_⟩⟩
    have:E≠D:=fun hh=>dU.1 (by rw[d2,←hh];exact List.mem_map.2 ⟨e,he,by rw[e2]⟩)
    simpa using this
  refine vu hro ds _ _ h2 fun w' Pt' g1 g2=>hk w' Pt' g1 ?_
  obtain⟨k1,k2,k3,k4,k5⟩:=g2
  exact⟨k1,k2,k3,by simpa using k4,fun b hb=>(k5 b hb).trans (World.putObj_heap_other (by omega))⟩
def Pn:AV→World→aK→aK→Prop:=fun gh _ _ Lx=>gh=.any∧∀b o,¬Lx b o
def ED(P:Program)(N B:Nat):Ctx P:={N:=N,B:=B,ro:=none,X:=Pn,st:=fun _ _ _ _ _ _ h _=>h,yl:=fun _ _ _ _ _ _ _ h=>(by cases h.1),xx:=fun _ _ _ _ _ _ _ _ _ _ _ _ _ h=>by cases h.1}
theorem zv{xs:List AV}{n:Nat}{w:World}{A:aK}{vs:Array Value}(hlen:xs.length≤n)(hA:∀b o,A b o→b<w.heap.size)(hs:vs.size=xs.length)(hrv:∀i,RV w A (xs.getD i .any) (vs.getD i undef)):RS n ⟨cO xs,fun _=>none⟩ ⟨vs++Array.replicate (n - vs.size) undef,[]⟩ w A jl:=by
 refine⟨by simp;omega,rfl,fun d=> ?_,fun b cs hb=>(by cases hb),fun r hr=>by simp[jl] at hr,fun r r' _ h1=>by simp[jl] at h1,fun b o ha=>⟨hA b o ha,zo b o⟩⟩
 by_cases hd:d<xs.length
 ·have e:(vs++Array.replicate (n - vs.size) undef).getD d undef=vs.getD d undef:=by
   simp only[Array.getD_eq_getD_getElem?]
   rw[Array.getElem?_append_left (by omega)]
  simp only[e]
  exact⟨(hrv d).erase,.erase⟩
 ·simp only[cO,List.getD_eq_getElem?_getD,List.getElem?_eq_none (Nat.le_of_not_lt hd),Option.getD_none]
  exact⟨.any _,trivial⟩
theorem zw{xs:List AV}(h:xs.length≤gS)(k:Nat)(hk:gS≤k):cO xs k=.any:=by simp only[cO,List.getD_eq_getElem?_getD,List.getElem?_eq_none (Nat.le_trans h hk),Option.getD_none];rfl
theorem vv(b:Nat):gS≤oS+b:=by simp only[gS,oS];omega
theorem Po{f:FuncId}{fn:Func}{c:Code}{aD:cn}{m:aA}{rs:List aF}{xs:List AV}{r:AV}(hf:P.funcs[f]? =some fn)(hb:fn.body=some c)
  (hm:de P aD fn.ntmps c=some m)(hr:e_ P fn.results.toList=some rs)(hfn:aaP P f=true)(hlen:xs.length≤fn.ntmps)(oZ:fn.ntmps≤gS)
  (hv:(∀i,Fits (xs.getD i .any))→br P m (fun s=>fc s rs fun ys=>r=fD ys) (fun _ _=>False) (fun s=>fc s rs fun ys=>r=fD ys) ⟨cO xs,fun _=>none⟩):aG P f xs r:=by
 refine⟨hfn,fun w A vs hA hs hrv=> ?_⟩
 have hg:∀k,gS≤k→cO xs k=.any:=zw (Nat.le_trans hlen oZ)
 have hh:∀b o,¬held ⟨cO xs,fun _=>none⟩ jl b o:=fun b o h=>h.elim (zo b o) fun h=>h (hg _ (vv b))
 have sR:GS (ED P fn.ntmps w.heap.size) [] ⟨cO xs,fun _=>none⟩ ⟨vs++Array.replicate (fn.ntmps - vs.size) undef,[]⟩ w A (fun _ _=>False) jl:=⟨zv hlen hA hs hrv,fun k hk=>by simp only[hg k hk];rfl,fun _ _ h=>h.elim,fun _ _ _ _ h=>h,fun _ _ _ h=>h,⟨hg _ (Nat.le_refl _),fun _ _ h=>h⟩,fun p hp=>(by cases hp),fun b=>by simp only[hg _ (vv b)];exact .any,fun b o h=>absurd (.inr h) (hh b o),Nat.le_refl _,List.nodup_nil,fun d hd=>(by cases hd),fun l e=>(by cases e)⟩
 refine yE (n:=0) (callsIn_of_wp_marks hf hb trivial (wpIn_mono (zg c (ED P fn.ntmps w.heap.size) m _ _ _ _ _ _ w A _ jl oZ hm sR (hv fun i=>⟨w,A,_,hrv i⟩)) ?_))
 rintro e a' w' ⟨s',A',bp,sp',Pt',-,hG,aJ,-,hq⟩
 have fin:(fc s' rs fun ys=>r=fD ys)→LeavesInM (Fw none) 0 P fn a'.tmps (fun e w'=>∃v A',e=.returned v∧Fr w w'∧(∀b o,A b o→A' b o)∧(∀b o,A' b o→A b o∨(w.heap.size≤b∧b<w'.heap.size))∧RV w' A' r v) a'.defers .returning w':=by
  intro hq
  refine vu rfl a'.defers Pt' w' hG fun w2 mG dN qC=> ?_
  obtain⟨v,g1,g2⟩:=zu dN.rs hr hq
  have dm:=aJ.low qC
  have hno:∀b o,¬join (held ⟨cO xs,fun _=>none⟩ jl) (fun _ _=>False) b o:=fun b o h=>h.elim (hh b o) id
  refine⟨v,g1,v,A',rfl,⟨dm.os,dm.tape,dm.output,dm.size,fun b hb=>dm.block b hb (hno b)⟩,dm.sub,fun b o ha=> ?_,g2⟩
  rcases dm.sup b o ha with h1|h1|h1
  ·exact .inl h1
  ·exact absurd h1 (hno b o)
  ·exact .inr ⟨h1,(dN.rs.av b o ha).1⟩
 cases e with
 |normal=>exact fin hq
 |ret=>exact fin hq
 |exit i=>exact hq.elim
 |goto l=>exact hq.elim
 |panic ch=>exact hq.elim
 |outgrown=>exact hq.elim
theorem EE{f:FuncId}{fn:Func}{aD:cn}{m:aA}{rs:List aF}{xs:List AV}{r:AV}(hf:P.funcs[f]? =some fn)
  (hm:fn.body.bind (de P aD fn.ntmps)=some m)(hr:e_ P fn.results.toList=some rs)(hfn:aaP P f=true)(hlen:xs.length≤fn.ntmps∧fn.ntmps≤1000000)
  (hv:(∀i,Fits (xs.getD i .any))→br P m (fun s=>fc s rs fun ys=>r=fD ys) (fun _ _=>False) (fun s=>fc s rs fun ys=>r=fD ys) ⟨cO xs,fun _=>none⟩):aG P f xs r:=by
 cases hb:fn.body with
 |none=>rw[hb] at hm;cases hm
 |some c=>rw[hb] at hm;exact Po hf hb hm hr hfn hlen.1 (by simp only[gS];exact hlen.2) hv
theorem Pp{f:FuncId}{fn:Func}{c:Code}{aD:cn}{m:aA}{first cap:List AV}{xs:List (List AV)}(hf:P.funcs[f]? =some fn)(hb:fn.body=some c)
  (hm:de P aD fn.ntmps c=some m)(hr:e_ P fn.results.toList=some [])(hfn:aaP P f=true)(hlen:first.length+1+cap.length≤fn.ntmps)(oZ:fn.ntmps≤gS)
  (hv:∀l,(∀i,Fits ((first++[AV.func (.yield l) [] []]++cap).getD i .any))→br P m (fun s=>∃rest b,s.env gS=.ghost l rest b∧(b=true∨rest=[])) (fun _ _=>False) (fun s=>∃rest b,s.env gS=.ghost l rest b∧(b=true∨rest=[])) ((St.mk (cO (first++[AV.func (.yield l) [] []]++cap)) fun _=>none).set gS (.ghost l xs false))):aa4 P f first cap xs:=by
 refine⟨hfn,fun X l w A Lx vs hst fS Pq hlt gK hs hrv hx=> ?_⟩
 have hlen':(first++[AV.func (.yield l) [] []]++cap).length≤fn.ntmps:=by simp only[List.length_append,List.length_singleton];exact hlen
 let C:Ctx P:={N:=fn.ntmps,B:=w.heap.size,ro:=none,X:=X,st:=hst,yl:=fS,xx:=Pq}
 have bS:=zv hlen' (fun b o ha=>(gK b o ha).1) hs hrv
 have oT:RS fn.ntmps ((St.mk (cO (first++[AV.func (.yield l) [] []]++cap)) fun _=>none).set gS (.ghost l xs false)) ⟨vs++Array.replicate (fn.ntmps - vs.size) undef,[]⟩ w A jl:=by
  refine⟨bS.size,rfl,fun d=> ?_,bS.loc,bS.bW,bS.spd,bS.av⟩
  by_cases hd:d=gS
  ·subst hd;rw[abb];exact⟨.ghost _ _ _ _,trivial⟩
  ·have e:((St.mk (cO (first++[AV.func (.yield l) [] []]++cap)) fun _=>none).set gS (.ghost l xs false)).env d=cO (first++[AV.func (.yield l) [] []]++cap) d:=Z5 _ _ hd
   rw[e];exact bS.env d
 have hg:∀k,gS≤k→k≠gS→((St.mk (cO (first++[AV.func (.yield l) [] []]++cap)) fun _=>none).set gS (.ghost l xs false)).env k=.any:=fun k hk hne=>(Z5 _ _ hne).trans (zw (Nat.le_trans hlen' oZ) k hk)
 have eT:∀b,((St.mk (cO (first++[AV.func (.yield l) [] []]++cap)) fun _=>none).set gS (.ghost l xs false)).env (oS+b)=.any:=fun b=>hg _ (vv b) (by simp only[gS,oS];omega)
 have hh:∀b o,¬held ((St.mk (cO (first++[AV.func (.yield l) [] []]++cap)) fun _=>none).set gS (.ghost l xs false)) jl b o:=fun b o h=>h.elim (zo b o) fun h=>h (eT b)
 have sR:GS C [] ((St.mk (cO (first++[AV.func (.yield l) [] []]++cap)) fun _=>none).set gS (.ghost l xs false)) ⟨vs++Array.replicate (fn.ntmps - vs.size) undef,[]⟩ w A Lx jl:=
  ⟨oT,fun k hk=>by
    by_cases e:k=gS
    ·subst e;rw[abb];rfl
    ·rw[hg k hk e];rfl,hlt,fun b o o' hl=>absurd hl (hh b o),fun b o ha=>(gK b o ha).2,by rw[abb];exact hx,fun p hp=>(by cases hp),fun b=>by rw[eT];exact .any,fun b o h=>absurd (.inr h) (hh b o),Nat.le_refl _,List.nodup_nil,fun d hd=>(by cases hd),fun l e=>(by cases e)⟩
 refine yE (n:=0) (callsIn_of_wp_marks hf hb trivial (wpIn_mono (zg c C m _ _ _ _ _ _ w A _ jl oZ hm sR (hv l fun i=>⟨w,A,_,hrv i⟩)) ?_))
 rintro e a' w' ⟨s',A',bp,sp',Pt',-,hG,aJ,-,hq⟩
 have fin:(∃rest b,s'.env gS=.ghost l rest b∧(b=true∨rest=[]))→LeavesInM (Fw none) 0 P fn a'.tmps (fun e w'=>∃v A' bp rest b,e=.returned v∧Ev w A Lx w' A' bp∧(∀b o,bp b o→b<w'.heap.size)∧(∀b o,A' b o→b<w'.heap.size∧¬bp b o)∧X (.ghost l rest b) w' A' bp∧(b=true∨rest=[])) a'.defers .returning w':=by
  rintro⟨rest,b,hgh,hb⟩
  refine vu rfl a'.defers Pt' w' hG fun w2 mG dN qC=> ?_
  obtain⟨v,g1,g2⟩:=zu (r:=.tuple []) dN.rs hr rfl
  have dm:=(aJ.low qC)
  have ef:=dN.x
  rw[hgh] at ef
  refine⟨v,g1,v,A',bp,rest,b,rfl,dm.sA (fun b o h=>h.elim (fun h=>absurd h (hh b o)) .inl) (fun b o _ h=>.inr (.inr h)),dN.lt,fun b o ha=>⟨(dN.rs.av b o ha).1,dN.av b o ha⟩,ef,hb⟩
 cases e with
 |normal=>exact fin hq
 |ret=>exact fin hq
 |exit i=>exact hq.elim
 |goto l=>exact hq.elim
 |panic ch=>exact hq.elim
 |outgrown=>exact hq.elim
theorem EF{f:FuncId}{fn:Func}{aD:cn}{m:aA}{first cap:List AV}{xs:List (List AV)}(hf:P.funcs[f]? =some fn)
  (hm:fn.body.bind (de P aD fn.ntmps)=some m)(hr:e_ P fn.results.toList=some [])(hfn:aaP P f=true)(hlen:first.length+1+cap.length≤fn.ntmps∧fn.ntmps≤1000000)
  (hv:∀l,(∀i,Fits ((first++[AV.func (.yield l) [] []]++cap).getD i .any))→br P m (fun s=>∃rest b,s.env gS=.ghost l rest b∧(b=true∨rest=[])) (fun _ _=>False) (fun s=>∃rest b,s.env gS=.ghost l rest b∧(b=true∨rest=[])) ((St.mk (cO (first++[AV.func (.yield l) [] []]++cap)) fun _=>none).set gS (.ghost l xs false))):aa4 P f first cap xs:=by
 cases hb:fn.body with
 |none=>rw[hb] at hm;cases hm
 |some c=>rw[hb] at hm;exact Pp hf hb hm hr hfn hlen.1 (by simp only[gS];exact hlen.2) hv
end
end Go.Z4
namespace Go.Z4
open Go.RowKit
section
variable {P:Program} {N:Nat}
theorem zx{cs:List AV}{off:Nat}{n:Option Nat}{k k':AV→Prop}(hk:∀v,k v→k' v)(h:cz cs off n k):cz cs off n k':=by
 cases n with
 |none=>exact⟨h.1,hk _ h.2⟩
 |some m=>exact⟨h.1,hk _ h.2⟩
theorem EG{loc:Nat→Option (List AV)}{x:AV}{n:Option Nat}{k k':AV→Prop}(hk:∀v,k v→k' v)(h:cN loc x n k):cN loc x n k':=by
 unfold cN at h⊢
 split at h
 ·exact zx (fun v hv=>hk _ hv) h
 ·split at h
  ·exact zx hk h
  ·exact h.elim
 ·exact h.elim
theorem sS{s:St}:∀{rs:List aF} {k k':List AV→Prop},(∀ys,k ys→k' ys)→fc s rs k→fc s rs k'
 |[],_,_,hk,h=>hk _ h
 |.tmp _::rs,_,_,hk,h=>sS (rs:=rs) (fun _ hy=>hk _ hy) h
 |.cell _ _::rs,_,_,hk,h=>EG (fun _ hu=>sS (rs:=rs) (fun _ hy=>hk _ hy) hu) h
theorem EH{cs:List AV}{off:Nat}{n:Option Nat}{k:AV→Prop}(h:cz cs off n k):∃v,k v∧cz cs off n fun u=>u=v:=by
 cases n with
 |none=>exact⟨_,h.2,h.1,rfl⟩
 |some m=>exact⟨_,h.2,h.1,rfl⟩
theorem Pr{loc:Nat→Option (List AV)}{x:AV}{n:Option Nat}{k:AV→Prop}(h:cN loc x n k):∃v,k v∧cN loc x n fun u=>u=v:=by
 unfold cN at h⊢
 split at h
 ·obtain⟨v,h1,h2⟩:=EH h
  exact⟨v.erase,h1,zx (fun u e=>by rw[e]) h2⟩
 ·split at h
  ·exact EH h
  ·exact h.elim
 ·exact h.elim
theorem zy{s:St}:∀{rs:List aF} {k:List AV→Prop},fc s rs k→∃ys,k ys∧fc s rs fun zs=>zs=ys
 |[],k,h=>⟨[],h,rfl⟩
 |.tmp t::rs,k,h=>by
  obtain⟨ys,h1,h2⟩:=zy (rs:=rs) h
  exact⟨_,h1,sS (rs:=rs) (fun zs e=>by rw[e]) h2⟩
 |.cell t n::rs,k,h=>by
  obtain⟨v,h1,h2⟩:=Pr h
  obtain⟨ys,h3,h4⟩:=zy (rs:=rs) h1
  exact⟨_,h3,EG (fun u e=>by subst e;exact sS (rs:=rs) (fun zs e=>by rw[e]) h4) h2⟩
def eN(s:St):List aF→(AV→Prop)→Prop
 |[.tmp t],K=>K (s.env t)
 |rs,K=>fc s rs fun ys=>K (fD ys).erase
theorem adJ{s:St}{a:Act}{w:World}{A:aK}{sp:Sp}{fn:Func}{ms:List aF}{k:AV→Prop}(h:RS N s a w A sp)(hm:e_ P fn.results.toList=some ms)(hk:eN s ms k):∃r v,(results fn a.tmps).run P w=.ok v w∧RV w A r v∧bV sp r v∧k r:=by
 unfold eN at hk
 split at hk
 ·rename_i t
  have hr:∃v,(results fn a.tmps).run P w=.ok v w∧v=a.tmps.getD t undef:=by
   generalize hl:fn.results.toList=l at hm
   match l,hm with
   |[],hm=>cases hm
   |.cell _ _::_,hm=>
    simp only[e_] at hm
    split at hm<;>cases hm
   |.tmp t'::rs,hm=>
    simp only[e_,Option.map_eq_some_iff] at hm
    obtain⟨l',hl',e⟩:=hm
    injection e with e1 e2
    injection e1 with e1
    subst e1 e2
    match rs,hl' with
    |[],_=>
     have e:fn.results= #[.tmp t']:=by rw[←Array.toList_inj,hl]
     refine⟨a.tmps.getD t' undef,?_,rfl⟩
     unfold results
     rw[e,Sem.run_bind,Array.mapM_eq_mapM_toList,Sem.run_map]
     rfl
    |.tmp _::_,hl'=>
     simp only[e_,Option.map_eq_some_iff] at hl'
     obtain⟨_,_,e⟩:=hl'
     cases e
    |.cell _ _::_,hl'=>
     simp only[e_] at hl'
     split at hl'<;>cases hl'
  obtain⟨v,h1,rfl⟩:=hr
  exact⟨_,_,h1,(h.env t).1,(h.env t).2,hk⟩
 ·obtain⟨ys,h1,h2⟩:=zy hk
  obtain⟨v,g1,g2⟩:=zu (r:=fD ys) h hm (sS (fun zs e=>by rw[e]) h2)
  exact⟨(fD ys).erase,v,g1,g2.erase,.erase,h1⟩
theorem Pu(s s2:St){k:Nat}(hk:¬gS≤k):(back s s2).env k=(s.env k).erase:=by simp[back,hk]
theorem Pv{f:FuncId}{fn:Func}{c:Code}{aD:cn}{m:aA}{rs:List aF}{xs:List AV}{s:St}{K:AV→St→Prop}(hf:P.funcs[f]? =some fn)(hb:fn.body=some c)
  (hm:de P aD fn.ntmps c=some m)(hr:e_ P fn.results.toList=some rs)(hfn:aaP P f=true)(hlen:xs.length≤fn.ntmps)(oZ:fn.ntmps≤gS)
  (hv:(∀i,Fits (xs.getD i .any))→br P m (fun s2=>eN s2 rs fun r=>K r (back s s2)) (fun _ _=>False) (fun s2=>eN s2 rs fun r=>K r (back s s2)) ⟨fun k=>if gS≤k then s.env k else cO xs k,s.loc⟩):d_ P f xs s K:=by
 refine⟨hfn,fun C Pt a w A Lx sp vs aW hG hs hrv=> ?_⟩
 let C':Ctx P:={C with N:=fn.ntmps,B:=w.heap.size,ro:=none}
 let s0:St:=⟨fun k=>if gS≤k then s.env k else cO xs k,s.loc⟩
 have hg:∀k,gS≤k→s0.env k=s.env k:=fun k hk=>by show(if gS≤k then s.env k else cO xs k)=_;rw[if_pos hk]
 have ho:∀b,s0.env (oS+b)=s.env (oS+b):=fun b=>hg _ (vv b)
 have eT:cv s0=cv s:=by funext b o;simp only[cv,ho]
 have hh:held s0 sp=held s sp:=by unfold held;rw[eT]
 have kE:=zv (n:=fn.ntmps) hlen (fun b o ha=>(hG.rs.av b o ha).1) hs hrv
 have bS:RS fn.ntmps s0 ⟨vs++Array.replicate (fn.ntmps - vs.size) undef,[]⟩ w A sp:=by
  refine⟨kE.size,rfl,fun d=> ?_,hG.rs.loc,hG.rs.bW,hG.rs.spd,hG.rs.av⟩
  by_cases hd:gS≤d
  ·rw[hg d hd]
   have:=hG.ig d hd
   generalize s.env d=x at this
   cases x<;>first|(cases this;done)|exact⟨.any _,trivial⟩|exact⟨.ghost _ _ _ _,trivial⟩
  ·have e:s0.env d=cO xs d:=by show(if gS≤d then s.env d else cO xs d)=_;rw[if_neg hd]
   rw[e]
   refine⟨(kE.env d).1,?_⟩
   simp only[cO]
   exact .erase
 have sR:GS C' Pt s0 ⟨vs++Array.replicate (fn.ntmps - vs.size) undef,[]⟩ w A Lx sp:=⟨bS,fun k hk=>by rw[hg k hk];exact hG.ig k hk,hG.lt,by rw[hh];exact hG.ap,hG.av,by rw[hg _ (Nat.le_refl _)];exact hG.x,fun p hp=>by rw[ho];exact hG.pt p hp,fun b=>by rw[ho];exact hG.ob b,by rw[eT];exact hG.oa,Nat.le_refl _,List.nodup_nil,fun d hd=>(by cases hd),fun l e=>(by cases e)⟩
 refine yE (n:=0) (callsIn_of_wp_marks hf hb trivial (wpIn_mono (zg c C' m _ _ _ _ _ _ w A _ sp oZ hm sR (hv fun i=>⟨w,A,_,hrv i⟩)) ?_))
 rintro e a' w' ⟨s',A',bp,sp',Pt',hsub,qA,aJ,-,hq⟩
 have fin:(eN s' rs fun r=>K r (back s s'))→LeavesInM (Fw none) 0 P fn a'.tmps (fun e w'=>∃r v s' A' bp sp',e=.returned v∧RV w' A' r v∧bV sp' r v∧GS C Pt s' a w' A' bp sp'∧Ev w A (join (held s sp) Lx) w' A' (join (held s' sp') bp)∧K r s') a'.defers .returning w':=by
  intro hq
  refine vu rfl a'.defers Pt' w' qA fun w2 mG dN qC=> ?_
  obtain⟨r,v,g1,g2,g3,g4⟩:=adJ dN.rs hr hq
  have dm:Ev w A (join (held s sp) Lx) w2 A' (join (held s' sp') bp):=by
   have:=aJ.low qC
   rwa [hh] at this
  have hmono:∀b o v,A b o→w.cell? ⟨b,o,none⟩=some v→w2.cell? ⟨b,o,none⟩=some v∧A' b o:=fun b o v ha hv=>⟨(dm.cell b o (hG.rs.av b o ha).1 (fun hl=>by rcases hl with hl|hl;exact hG.mB ha hl;exact hG.av b o ha hl)).1.trans hv,dm.sub b o ha⟩
  have hrb:RS C.N (back s s') ⟨a.tmps,[]⟩ w2 A' sp':=by
   refine⟨hG.rs.size,rfl,fun d=> ?_,dN.rs.loc,dN.rs.bW,dN.rs.spd,dN.rs.av⟩
   by_cases hd:gS≤d
   ·rw[aa5 _ _ hd]
    have:=dN.ig d hd
    generalize s'.env d=x at this
    cases x<;>first|(cases this;done)|exact⟨.any _,trivial⟩|exact⟨.ghost _ _ _ _,trivial⟩
   ·rw[Pu _ _ hd]
    exact⟨((hG.rs.env d).1.mono hmono (dm.kept fun b o ha=>⟨(hG.rs.av b o ha).1,fun hl=>by rcases hl with hl|hl;exact hG.mB ha hl;exact hG.av b o ha hl⟩)).erase,.erase⟩
  refine⟨v,g1,r,v,back s s',A',bp,sp',rfl,g2,g3,⟨hrb,fun k hk=>by rw[aa5 _ _ hk];exact dN.ig k hk,dN.lt,by rw[jS];exact dN.ap,dN.av,by rw[aa5 _ _ (Nat.le_refl _)];exact dN.x,fun p hp=> ?_,fun b=>by rw[jj];exact dN.ob b,by rw[sK];exact dN.oa,Nat.le_trans hG.bs dm.size,hG.dn,hG.df,hG.ro⟩,by rw[jS];exact dm,g4⟩
  obtain⟨p1,p2,p3,p4,p5⟩:=qA.pt p (hsub p hp)
  have hlt:=cc (hG.pt p hp).1
  exact⟨(qC.2.2.2.2 p.1 hlt).trans p1,p2,p3,p4,by rw[jj];exact p5⟩
 cases e with
 |normal=>exact fin hq
 |ret=>exact fin hq
 |exit i=>exact hq.elim
 |goto l=>exact hq.elim
 |panic ch=>exact hq.elim
 |outgrown=>exact hq.elim
theorem fy{f:FuncId}{fn:Func}{aD:cn}{m:aA}{rs:List aF}{xs:List AV}{s:St}{K:AV→St→Prop}(hf:P.funcs[f]? =some fn)
  (hm:fn.body.bind (de P aD fn.ntmps)=some m)(hr:e_ P fn.results.toList=some rs)(hfn:aaP P f=true)(hlen:xs.length≤fn.ntmps∧fn.ntmps≤1000000)
  (hv:(∀i,Fits (xs.getD i .any))→br P m (fun s2=>eN s2 rs fun r=>K r (back s s2)) (fun _ _=>False) (fun s2=>eN s2 rs fun r=>K r (back s s2)) ⟨fun k=>if gS≤k then s.env k else cO xs k,s.loc⟩):d_ P f xs s K:=by
 cases hb:fn.body with
 |none=>rw[hb] at hm;cases hm
 |some c=>rw[hb] at hm;exact Pv hf hb hm hr hfn hlen.1 (by simp only[gS];exact hlen.2) hv
end
end Go.Z4
namespace Go.Z4
section
variable (P:Program) (ms:List au) (K:St→Prop) (s:St)
theorem Pw(d k:Nat)(x:AV):(s.set d x).env k=if k=d then x else s.env k:=rfl
theorem Px(d:Nat)(x:AV):(s.set d x).loc=s.loc:=rfl
theorem Py(b k:Nat)(cs:List AV):(s.new b cs).env k=s.env k:=rfl
theorem jm(b c:Nat)(cs:List AV):(s.new b cs).loc c=if c=b then some cs else s.loc c:=rfl
theorem zz(r k:Nat):(s.aB r).env k=az r (s.env k):=rfl
theorem zA(r b:Nat):(s.aB r).loc b=(s.loc b).map (·.map (az r)):=rfl
def St.bD(s:St)(k b:Nat)(cs:List AV):St:=⟨ak s.env k (.ref cs),ak s.loc b none⟩
theorem Pz(k b j:Nat)(cs:List AV):(s.bD k b cs).env j=if j=k then .ref cs else s.env j:=rfl
theorem PA(k b c:Nat)(cs:List AV):(s.bD k b cs).loc c=if c=b then none else s.loc c:=rfl
theorem PB(e:Nat→AV)(n:Nat):ai.ev e (.t n)=e n:=rfl
theorem PC(e:Nat→AV)(x:AV):ai.ev e (.c x)=x:=rfl
theorem PD(e:Nat→AV)(l:Nat→Option (List AV))(k:Nat):(St.mk e l).env k=e k:=rfl
theorem PE(e:Nat→AV)(l:Nat→Option (List AV)):(St.mk e l).loc=l:=rfl
theorem PF(xs:List AV)(k:Nat):cO xs k=(xs.getD k .any).erase:=rfl
theorem PG(v:Value):(AV.lit v).erase=.lit v:=rfl
theorem PI(sz:Nat)(xs:List AV)(r:Nat):(AV.slice sz xs r).erase=.slice sz xs 0:=rfl
theorem PJ(cs:List AV):(AV.agg cs).erase=.agg (cs.map AV.erase0):=rfl
theorem PK(cs:List AV):(AV.ref cs).erase=.ref cs:=rfl
theorem PL(b o:Nat):(AV.aj b o).erase=.aj b o:=rfl
theorem PM(f:Fn)(a b:List AV):(AV.func f a b).erase=.func f a b:=rfl
theorem PN(a:List AV):(AV.tuple a).erase=.tuple a:=rfl
theorem PO:AV.any.erase=.any:=rfl
theorem PR(v:Value):(AV.lit v).erase0=.lit v:=rfl
theorem PS(sz:Nat)(xs:List AV)(r:Nat):(AV.slice sz xs r).erase0=.slice sz xs 0:=rfl
theorem PT(cs:List AV):(AV.ref cs).erase0=.ref cs:=rfl
theorem PU(b o:Nat):(AV.aj b o).erase0=.aj b o:=rfl
theorem PV(f:Fn)(a b:List AV):(AV.func f a b).erase0=.func f a b:=rfl
theorem PW(r:Nat)(v:Value):az r (.lit v)=.lit v:=rfl
theorem PX(r sz:Nat)(xs:List AV)(q:Nat):az r (.slice sz xs q)=if q=r then .slice sz xs 0 else .slice sz xs q:=rfl
theorem PY(r:Nat)(cs:List AV):az r (.ref cs)=.ref cs:=rfl
theorem PZ(r b o:Nat):az r (.aj b o)=.aj b o:=rfl
theorem P0(r:Nat)(cs:List AV):az r (.agg cs)=.agg cs:=rfl
theorem P1(r:Nat):az r .any=.any:=rfl
theorem P2(r:Nat)(f:Fn)(a b:List AV):az r (.func f a b)=.func f a b:=rfl
theorem P3(r:Nat)(a:List AV):az r (.tuple a)=.tuple a:=rfl
theorem P4(v:Value):(AV.lit v).cells=[.lit v]:=rfl
theorem P5(sz:Nat)(xs:List AV)(q:Nat):(AV.slice sz xs q).cells=[.slice sz xs q]:=rfl
theorem P6(cs:List AV):(AV.agg cs).cells=cs:=rfl
theorem P7(cs:List AV):(AV.ref cs).cells=[.ref cs]:=rfl
theorem P8(b o:Nat):(AV.aj b o).cells=[.aj b o]:=rfl
theorem P9(f:Fn)(a b:List AV):(AV.func f a b).cells=[.func f a b]:=rfl
theorem P_(cs:List AV)(o:Nat):splice cs o []=cs:=rfl
theorem zB(cs:List AV)(o:Nat)(v:AV)(vs:List AV):splice cs o (v::vs)=splice (cs.set o v) (o+1) vs:=rfl
theorem Qa:vcs P [] K s=K s:=rfl
theorem Qb(d:Nat)(x:ai):vcs P (.aa d x::ms) K s=vcs P ms K (s.set d (x.ev s.env)):=rfl
theorem Qc(d:Nat)(x:ai):vcs P (.ag d x::ms) K s=vcs P ms K (aap s d (x.ev s.env)):=rfl
theorem Qd(d:Nat)(v:Value):aap s d (.lit v)=s.set d (.lit v):=rfl
theorem Qe(d:Nat)(cs:List AV):aap s d (.agg cs)=s.set d (.agg cs):=rfl
theorem Qf(d:Nat)(cs:List AV):aap s d (.ref cs)=s.set d (.ref cs):=rfl
theorem Qg(d:Nat)(f:Fn)(a b:List AV):aap s d (.func f a b)=s.set d (.func f a b):=rfl
theorem Qh(d sz:Nat)(xs:List AV):aap s d (.slice sz xs 0)=s.set d (.slice sz xs 0):=rfl
theorem Qi(d sz:Nat)(xs:List AV)(r:Nat):aap s d (.slice sz xs r)=if r=0 then s.set d (.slice sz xs 0) else ((s.aB r).aB (d+1)).set d (.slice sz xs (d+1)):=rfl
theorem Qj(d sz:Nat):vcs P (.bK d sz::ms) K s=vcs P ms K ((s.aB (d+1)).set d (.slice sz [] (d+1))):=rfl
theorem Qk(d n:Nat)(x:ai):vcs P (.aV d x n::ms) K s=((x.ev s.env).cells.length=n∧vcs P ms K (s.set d (.ref ((x.ev s.env).cells.map AV.erase0)))):=rfl
theorem Ql(d n:Nat):vcs P (.j9 d n::ms) K s=vcs P ms K (s.set d (.lit (.int .i64 n))):=rfl
theorem Qm(d:Nat)(fn:Fn)(a b:List ai):vcs P (.dB d fn a b::ms) K s=vcs P ms K (s.set d (.func fn (a.map fun x=>(x.ev s.env).erase) (b.map fun x=>(x.ev s.env).erase))):=rfl
def jU(d:Nat)(cs:List AV)(off:Nat)(e:Bool):Option Nat→Prop
 |none=>off<cs.length∧vcs P ms K (s.set d (if e then (cs.getD off .any).erase else cs.getD off .any))
 |some n=>off+n≤cs.length∧vcs P ms K (s.set d (.agg (((cs.drop off).take n).map AV.erase0)))
theorem sU(x:AV):x.erase.erase=x.erase:=by
 cases x<;>first|rfl|skip
 show AV.agg _=AV.agg _
 rw[C6]
def EI(d:Nat)(off:Nat)(n:Option Nat):Option (List AV)→Prop
 |some cs=>jU P ms K s d cs off false n
 |none=>False
def qD(d:Nat)(n:Option Nat):AV→Prop
 |.ref cs=>jU P ms K s d cs 0 true n
 |.aj b off=>EI P ms K s d off n (s.loc b)
 |_=>False
theorem Qn(d:Nat)(x:ai)(n:Option Nat):vcs P (.load d x n::ms) K s=qD P ms K s d n (x.ev s.env):=by
 rw[show vcs P (.load d x n::ms) K s=cN s.loc (x.ev s.env) n (fun v=>vcs P ms K (s.set d v)) from rfl]
 unfold cN qD
 cases x.ev s.env<;>first|rfl|skip
 cases n with
 |none=>rfl
 |some k=>simp only[jU,cz,sU];rfl
def zC(off n aP:Nat)(b:Nat)(y:AV):Option (List AV)→Prop
 |some cs=>off+n≤cs.length∧y.cells.length=n∧y.cells.all AV.bE=true∧
   match y with
   |.slice sz xs r=>if r=0∨aP=0 then vcs P ms K (s.new b (splice cs off [.slice sz xs 0])) else vcs P ms K (((s.aB r).aB aP).new b ((cs.map (fun x=>az aP (az r x))).set off (.slice sz xs aP)))
   |y=>vcs P ms K (s.new b (splice cs off (y.cells.map AV.erase0)))
 |none=>False
def vw(n aP:Nat)(y:AV):AV→Prop
 |.aj b off=>zC P ms K s off n aP b y (s.loc b)
 |_=>False
theorem Qo(x y:ai)(n aP:Nat):vcs P (.store x y n aP::ms) K s=vw P ms K s n aP (y.ev s.env) (x.ev s.env):=by
 rw[show vcs P (.store x y n aP::ms) K s=gI s (x.ev s.env) (y.ev s.env) n aP (vcs P ms K) from rfl]
 unfold gI vw
 cases x.ev s.env<;>first|rfl|skip
def EJ(k n:Nat)(y:AV):AV→Option (List AV)→Prop
 |.aj b 0,some cs=>cs.length=n∧y.cells.length=n∧y.cells.all AV.bE=true∧vcs P ms K (s.bD k b (y.cells.map AV.erase0))
 |_,_=>False
def vz:AV→Nat
 |.aj b _=>b
 |_=>0
theorem Qp(k:Nat)(y:ai)(n:Nat):vcs P (.bH k y n::ms) K s=EJ P ms K s k n (y.ev s.env) (s.env k) (s.loc (vz (s.env k))):=by
 show(match s.env k with|.aj b 0=>_|_=>_)=_
 cases s.env k<;>first|rfl|skip
 rename_i b off
 cases off with
 |zero=>simp only[vz];cases s.loc b<;>rfl
 |succ o=>simp only[vz];cases s.loc b<;>rfl
def EK(d off:Nat):AV→Prop
 |.ref cs=>vcs P ms K (s.set d (.ref (cs.drop off)))
 |.aj b o=>vcs P ms K (s.set d (.aj b (o+off)))
 |_=>False
theorem Qq(d:Nat)(x:ai)(off:Nat):vcs P (.addr d x off::ms) K s=EK P ms K s d off (x.ev s.env):=by
 show(match x.ev s.env with|.ref cs=>_|.aj b o=>_|_=>_)=_
 cases x.ev s.env<;>rfl
def zD(d sz:Nat):AV→AV→Prop
 |.slice sz' xs _,.lit (.int _ n)=>sz'=sz∧0≤n∧n<xs.length∧vcs P ms K (s.set d (.ref (xs.getD n.toNat .any).cells))
 |.aq b off len _ sz',.lit (.int _ n)=>sz'=sz∧0≤n∧n<len∧vcs P ms K (s.set d (.aj b (off+n.toNat*sz)))
 |_,_=>False
theorem Qr(d:Nat)(x i:ai)(sz:Nat):vcs P (.aO d x i sz::ms) K s=zD P ms K s d sz (x.ev s.env) (i.ev s.env):=by
 show(match x.ev s.env,i.ev s.env with|.slice sz' xs _,.lit (.int _ n)=>_|.aq b off len _ sz',.lit (.int _ n)=>_|_,_=>_)=_
 unfold zD;rfl
def zE(d len sz:Nat):AV→AV→Prop
 |.ref cs,.lit (.int _ n)=>0≤n∧n<len∧vcs P ms K (s.set d (.ref (cs.drop (n.toNat*sz))))
 |.aj b off,.lit (.int _ n)=>0≤n∧n<len∧vcs P ms K (s.set d (.aj b (off+n.toNat*sz)))
 |_,_=>False
theorem Qs(d:Nat)(x i:ai)(len sz:Nat):vcs P (.cW d x i len sz::ms) K s=zE P ms K s d len sz (x.ev s.env) (i.ev s.env):=by unfold zE;rfl
def zF(d off:Nat)(n:Option Nat):AV→Prop
 |.agg cs=>jU P ms K s d cs off true n
 |_=>False
theorem Qt(d:Nat)(x:ai)(off:Nat)(n:Option Nat):vcs P (.fld d x off n::ms) K s=zF P ms K s d off n (x.ev s.env):=by
 show(match x.ev s.env with|.agg cs=>_|_=>_)=_
 cases x.ev s.env<;>first|rfl|skip
 cases n with
 |none=>rfl
 |some k=>simp only[zF,jU,cz,sU];rfl
def zG(d len sz:Nat)(n:Option Nat):AV→AV→Prop
 |.agg cs,.lit (.int _ j)=>0≤j∧j<len∧jU P ms K s d cs (j.toNat*sz) true n
 |_,_=>False
theorem Qu(d:Nat)(x i:ai)(len sz:Nat)(n:Option Nat):vcs P (.iB d x i len sz n::ms) K s=zG P ms K s d len sz n (x.ev s.env) (i.ev s.env):=by
 show(match x.ev s.env,i.ev s.env with|.agg cs,.lit (.int _ j)=>_|_,_=>_)=_
 unfold zG
 split
 ·cases n with
  |none=>rfl
  |some k=>simp only[jU,cz,sU];rfl
 ·rfl
def zH(d:Nat):AV→AV→Prop
 |.lit (.string t),.lit (.int _ j)=>0≤j∧j<t.size∧vcs P ms K (s.set d (.lit (.int .u8 (t.data.toList.getD j.toNat 0).toNat)))
 |_,_=>False
theorem Qv(d:Nat)(x i:ai):vcs P (.aas d x i::ms) K s=zH P ms K s d (x.ev s.env) (i.ev s.env):=by unfold zH;rfl
def zI(d:Nat):AV→Prop
 |.slice _ xs _=>vcs P ms K (s.set d (.lit (.int .i64 xs.length)))
 |.aq _ _ len _ _=>vcs P ms K (s.set d (.lit (.int .i64 len)))
 |.lit (.slice none 0 0)=>vcs P ms K (s.set d (.lit (.int .i64 0)))
 |_=>False
theorem Qw(d:Nat)(x:ai):vcs P (.len d x::ms) K s=zI P ms K s d (x.ev s.env):=by unfold zI;rfl
def zJ(d:Nat):AV→Prop
 |.lit (.string t)=>vcs P ms K (s.set d (.lit (.int .i64 t.size)))
 |_=>False
theorem Qx(d:Nat)(x:ai):vcs P (.aav d x::ms) K s=zJ P ms K s d (x.ev s.env):=by unfold zJ;rfl
def zK(d:Nat):AV→Prop
 |.lit (.string t)=>vcs P ms K (s.set d (.lit (.string t)))
 |_=>False
theorem Qy(d:Nat)(x:ai):vcs P (.abf d x::ms) K s=zK P ms K s d (x.ev s.env):=by unfold zK;rfl
def zL(d sz bytes:Nat):AV→AV→Prop
 |.slice szx xs r,.slice szy ys _=>r≠0∧szx=sz∧(szy=sz∨ys=[])∧(xs.length+ys.length)*bytes≤140737488355328∧xs.length+ys.length≤140737488355328∧vcs P ms K (((s.aB r).aB (d+1)).set d (.slice sz (xs++ys) (d+1)))
 |_,_=>False
theorem Qz(d:Nat)(x y:ai)(sz bytes:Nat):vcs P (.app d x y sz bytes::ms) K s=zL P ms K s d sz bytes (x.ev s.env) (y.ev s.env):=by unfold zL;rfl
def cZ(d:Nat)(op:BinOp)(x y:AV):Prop:=cX op x y fun v=>vcs P ms K (s.set d v)
theorem QA(d:Nat)(op:BinOp)(x y:ai):vcs P (.bin d op x y::ms) K s=cZ P ms K s d op (x.ev s.env) (y.ev s.env):=rfl
section
variable (d:Nat) (k:IntKind) (a b:Int)
theorem QB:cZ P ms K s d .add (.lit (.int k a)) (.lit (.int k b))=(fJ k (a+b)∧vcs P ms K (s.set d (.lit (.int k (a+b))))):=by simp only[cZ,cX,en,true_and]
theorem QC:cZ P ms K s d .sub (.lit (.int k a)) (.lit (.int k b))=(fJ k (a - b)∧vcs P ms K (s.set d (.lit (.int k (a - b))))):=by simp only[cZ,cX,en,true_and]
theorem QD:cZ P ms K s d .mul (.lit (.int k a)) (.lit (.int k b))=(fJ k (a*b)∧vcs P ms K (s.set d (.lit (.int k (a*b))))):=by simp only[cZ,cX,en,true_and]
theorem QE:cZ P ms K s d .quo (.lit (.int k a)) (.lit (.int k b))=(b≠0∧fJ k (a.tdiv b)∧vcs P ms K (s.set d (.lit (.int k (a.tdiv b))))):=by simp only[cZ,cX,en,true_and]
theorem QF:cZ P ms K s d .rem (.lit (.int k a)) (.lit (.int k b))=(b≠0∧vcs P ms K (s.set d (.lit (.int k (a.tmod b))))):=by simp only[cZ,cX,en,true_and]
theorem QG:cZ P ms K s d .and (.lit (.int k a)) (.lit (.int k b))=vcs P ms K (s.set d (.lit (.int k (abh .and k a b)))):=by simp only[cZ,cX,en,true_and]
theorem QH:cZ P ms K s d .or (.lit (.int k a)) (.lit (.int k b))=vcs P ms K (s.set d (.lit (.int k (abh .or k a b)))):=by simp only[cZ,cX,en,true_and]
theorem QI:cZ P ms K s d .xor (.lit (.int k a)) (.lit (.int k b))=vcs P ms K (s.set d (.lit (.int k (abh .xor k a b)))):=by simp only[cZ,cX,en,true_and]
theorem QJ:cZ P ms K s d .andNot (.lit (.int k a)) (.lit (.int k b))=vcs P ms K (s.set d (.lit (.int k (abh .andNot k a b)))):=by simp only[cZ,cX,en,true_and]
theorem QK(k':IntKind):cZ P ms K s d .shl (.lit (.int k a)) (.lit (.int k' b))=(0≤b∧vcs P ms K (s.set d (.lit (.int k (k.wrap (a*2^(min b.toNat k.bits))))))):=rfl
theorem QL(k':IntKind):cZ P ms K s d .shr (.lit (.int k a)) (.lit (.int k' b))=(0≤b∧vcs P ms K (s.set d (.lit (.int k (a.fdiv (2^(min b.toNat k.bits))))))):=rfl
theorem QM:cZ P ms K s d .eql (.lit (.int k a)) (.lit (.int k b))=vcs P ms K (s.set d (.lit (.bool (a==b)))):=by simp only[cZ,cX,en,true_and]
theorem QN:cZ P ms K s d .neq (.lit (.int k a)) (.lit (.int k b))=vcs P ms K (s.set d (.lit (.bool (a != b)))):=by simp only[cZ,cX,en,true_and]
theorem QO:cZ P ms K s d .lss (.lit (.int k a)) (.lit (.int k b))=vcs P ms K (s.set d (.lit (.bool (decide (a<b))))):=by simp only[cZ,cX,en,true_and]
theorem QS:cZ P ms K s d .leq (.lit (.int k a)) (.lit (.int k b))=vcs P ms K (s.set d (.lit (.bool (decide (a≤b))))):=by simp only[cZ,cX,en,true_and]
theorem QT:cZ P ms K s d .gtr (.lit (.int k a)) (.lit (.int k b))=vcs P ms K (s.set d (.lit (.bool (decide (b<a))))):=by simp only[cZ,cX,en,true_and,gt_iff_lt]
theorem QU:cZ P ms K s d .geq (.lit (.int k a)) (.lit (.int k b))=vcs P ms K (s.set d (.lit (.bool (decide (b≤a))))):=by simp only[cZ,cX,en,true_and,ge_iff_le]
theorem QV(p q:ByteArray):cZ P ms K s d .eql (.lit (.string p)) (.lit (.string q))=vcs P ms K (s.set d (.lit (.bool (p.toList==q.toList)))):=rfl
theorem QW(p q:ByteArray):cZ P ms K s d .neq (.lit (.string p)) (.lit (.string q))=vcs P ms K (s.set d (.lit (.bool (!(p.toList==q.toList))))):=rfl
end
def zM(d:Nat)(neg:Bool):AV→AV→Prop
 |.lit (.bool a),.lit (.bool b)=>vcs P ms K (s.set d (.lit (.bool (if neg then !(a==b) else a==b))))
 |_,_=>False
theorem QX(d:Nat)(neg:Bool)(x y:ai):vcs P (.iC d neg x y::ms) K s=zM P ms K s d neg (x.ev s.env) (y.ev s.env):=by unfold zM;rfl
def zN(d:Nat)(neg:Bool)(n:List Bool):AV→AV→Prop
 |.agg a,.agg b=>a.length=n.length∧b.length=n.length∧∃q,cD n a b=some q∧vcs P ms K (s.set d (.lit (.bool (if neg then !q else q))))
 |_,_=>False
theorem QY(d:Nat)(neg:Bool)(n:List Bool)(x y:ai):vcs P (.aaw d neg n x y::ms) K s=zN P ms K s d neg n (x.ev s.env) (y.ev s.env):=by unfold zN;rfl
def zO(d:Nat):AV→Prop
 |.lit (.bool a)=>vcs P ms K (s.set d (.lit (.bool (!a))))
 |_=>False
theorem QZ(d:Nat)(x:ai):vcs P (.not d x::ms) K s=zO P ms K s d (x.ev s.env):=by unfold zO;rfl
def zP(d:Nat):AV→Prop
 |.lit (.int k a)=>fJ k (0 - a)∧vcs P ms K (s.set d (.lit (.int k (0 - a))))
 |_=>False
theorem Q0(d:Nat)(x:ai):vcs P (.neg d x::ms) K s=zP P ms K s d (x.ev s.env):=by unfold zP;rfl
def zQ(d:Nat)(k:IntKind):AV→Prop
 |.lit (.int _ a)=>vcs P ms K (s.set d (.lit (.int k (k.wrap a))))
 |_=>False
theorem Q1(d:Nat)(k:IntKind)(x:ai):vcs P (.conv d k x::ms) K s=zQ P ms K s d k (x.ev s.env):=by unfold zQ;rfl
def vA(d:Nat)(x y:AV):AV→Prop
 |.lit (.bool b)=>vcs P ms K (s.set d (if b then x else y))
 |_=>False
theorem Q2(d:Nat)(c x y:ai):vcs P (.pick d c x y::ms) K s=vA P ms K s d (x.ev s.env) (y.ev s.env) (c.ev s.env):=by unfold vA;rfl
def zR(d i:Nat):AV→Prop
 |.tuple vs=>i<vs.length∧vcs P ms K (s.set d (vs.getD i .any).erase)
 |_=>False
theorem Q3(d:Nat)(x:ai)(i:Nat):vcs P (.ext d x i::ms) K s=zR P ms K s d i (x.ev s.env):=by unfold zR;rfl
def zS(d:Nat):AV→AV→Prop
 |.lit (.int k a),.lit (.int _ b)=>vcs P ms K (s.set d (.lit (.int k (if b>a then b else a))))
 |_,_=>False
theorem Q4(d:Nat)(x y:ai):vcs P (.aaX d x y::ms) K s=zS P ms K s d (x.ev s.env) (y.ev s.env):=by unfold zS;rfl
def zT(d:Nat):AV→AV→Prop
 |.lit (.int k a),.lit (.int _ b)=>vcs P ms K (s.set d (.lit (.int k (if b<a then b else a))))
 |_,_=>False
theorem Q5(d:Nat)(x y:ai):vcs P (.jH d x y::ms) K s=zT P ms K s d (x.ev s.env) (y.ev s.env):=by unfold zT;rfl
def zU(d:Nat):AV→Prop
 |.ref cs=>vcs P ms K (s.set d (.ref cs))
 |.aj b o=>vcs P ms K (s.set d (.aj b o))
 |_=>False
theorem Q6(d:Nat)(x:ai):vcs P (.dJ d x::ms) K s=zU P ms K s d (x.ev s.env):=by unfold zU;rfl
def zV(d sz:Nat):AV→AV→Prop
 |.slice sz' xs _,.lit (.int _ n)=>(sz'=sz∨xs=[])∧0≤n∧n≤xs.length∧vcs P ms K (s.set d (.slice sz (xs.take n.toNat) 0))
 |_,_=>False
theorem Q7(d:Nat)(x h:ai)(sz:Nat):vcs P (.jI d x h sz::ms) K s=zV P ms K s d sz (x.ev s.env) (h.ev s.env):=by unfold zV;rfl
def zW(d sz:Nat):AV→AV→Prop
 |.slice sz' xs _,.lit (.int _ n)=>(sz'=sz∨xs=[])∧0≤n∧n≤xs.length∧vcs P ms K (s.set d (.slice sz (xs.drop n.toNat) 0))
 |_,_=>False
theorem Q8(d:Nat)(x l:ai)(sz:Nat):vcs P (.abg d x l sz::ms) K s=zW P ms K s d sz (x.ev s.env) (l.ev s.env):=by unfold zW;rfl
def zX(d sz:Nat):AV→AV→AV→Prop
 |.slice sz' xs _,.lit (.int _ n),.lit (.int _ m)=>(sz'=sz∨xs=[])∧0≤n∧n≤m∧m≤xs.length∧vcs P ms K (s.set d (.slice sz ((xs.drop n.toNat).take (m - n).toNat) 0))
 |_,_,_=>False
theorem Q9(d:Nat)(x l h:ai)(sz:Nat):vcs P (.lX d x l h sz::ms) K s=zX P ms K s d sz (x.ev s.env) (l.ev s.env) (h.ev s.env):=by unfold zX;rfl
def vB(d:Nat)(f:FuncId)(xs:List AV):Prop:=∃r,aG P f xs r∧vcs P ms K (s.set d r.erase)
theorem Q_(d:Nat)(f:FuncId)(xs:List ai):vcs P (.call d f xs::ms) K s=vB P ms K s d f (xs.map fun x=>(x.ev s.env).erase):=rfl
theorem aL{P:Program}{ms:List au}{K:St→Prop}{s:St}{d:Nat}{f:FuncId}{xs:List AV}{r:AV}(h:aG P f xs r)(hk:vcs P ms K (s.set d r.erase)):vB P ms K s d f xs:=⟨r,h,hk⟩
def abV(d:Nat)(xs:List AV):AV→Prop
 |.func (.func f) first cap=>vB P ms K s d f (first++xs++cap)
 |_=>False
theorem Ra(d:Nat)(x:ai)(xs:List ai):vcs P (.aak d x xs::ms) K s=abV P ms K s d (xs.map fun x=>(x.ev s.env).erase) (x.ev s.env):=by
 show(match x.ev s.env with|.func (.func f) first cap=>_|_=>_)=_
 unfold abV vB;rfl
def kF(want:Bool)(d:Option Nat)(m:au):AV→Prop
 |.lit (.bool b)=>(b=want→vcs P (m::ms) K s)∧(b=(!want)→vcs P ms K (match d with|some d=>s.set d (.tuple [])|none=>s))
 |.tuple []=>vcs P ms K (match d with|some d=>s.set d (.tuple [])|none=>s)
 |_=>False
theorem Rb(g:Nat)(want:Bool)(d:Option Nat)(m:au):vcs P (.guard g want d m::ms) K s=kF P ms K s want d m (s.env g):=by unfold kF;rfl
theorem Rc(want:Bool)(d:Nat)(m:au):kF P ms K s want (some d) m (.tuple [])=vcs P ms K (s.set d (.tuple [])):=rfl
theorem adK(d:Option Nat)(m:au):kF P ms K s true d m (.lit (.bool true))=vcs P (m::ms) K s:=by simp[kF]
theorem Re(d:Option Nat)(m:au):kF P ms K s false d m (.lit (.bool false))=vcs P (m::ms) K s:=by simp[kF]
theorem Rf(d:Nat)(m:au):kF P ms K s true (some d) m (.lit (.bool false))=vcs P ms K (s.set d (.tuple [])):=by simp[kF]
theorem Rg(d:Nat)(m:au):kF P ms K s false (some d) m (.lit (.bool true))=vcs P ms K (s.set d (.tuple [])):=by simp[kF]
end
section
variable (P:Program) (kn:St→Prop) (ke:Nat→St→Prop) (kr:St→Prop) (s:St)
theorem Rh:br P .skip kn ke kr s=kn s:=rfl
theorem EL(ms:List au):br P (.af ms) kn ke kr s=vcs P ms kn s:=rfl
theorem cK(x y:aA):br P (.seq x y) kn ke kr s=br P x (br P y kn ke kr) ke kr s:=rfl
theorem Ri(i:Nat):br P (.exit i) kn ke kr s=ke i s:=rfl
theorem Rj:br P .ret kn ke kr s=kr s:=rfl
def abW(kn:St→Prop)(ke:Nat→St→Prop)(id:Nat):Nat→St→Prop:=fun i s=>if i=id then kn s else ke i s
theorem gO(id:Nat)(c:aA):br P (.block id c) kn ke kr s=br P c kn (abW kn ke id) kr s:=rfl
theorem Rk(id i:Nat):abW kn ke id i s=if i=id then kn s else ke i s:=rfl
def nR(x y:aA):AV→Prop
 |.lit (.bool b)=>(b=true→br P x kn ke kr s)∧(b=false→br P y kn ke kr s)
 |_=>False
theorem Rl(t:ai)(x y:aA):br P (.cond t x y) kn ke kr s=nR P kn ke kr s x y (t.ev s.env):=by unfold nR;rfl
theorem Rm(x y:aA):nR P kn ke kr s x y (.lit (.bool true))=br P x kn ke kr s:=by simp[nR]
theorem Rn(x y:aA):nR P kn ke kr s x y (.lit (.bool false))=br P y kn ke kr s:=by simp[nR]
end
theorem bY{P:Program}{kn:St→Prop}{ke:Nat→St→Prop}{kr:St→Prop}{s:St}{x y:aA}{p:Prop}[Decidable p](h1:p→br P x kn ke kr s)(h2:¬p→br P y kn ke kr s):nR P kn ke kr s x y (.lit (.bool (decide p))):=⟨fun h=>h1 (of_decide_eq_true h),fun h=>h2 (of_decide_eq_false h)⟩
theorem c8{P:Program}{kn:St→Prop}{ke:Nat→St→Prop}{kr:St→Prop}{s:St}{x y:aA}{b:Bool}(h1:b=true→br P x kn ke kr s)(h2:b=false→br P y kn ke kr s):nR P kn ke kr s x y (.lit (.bool b)):=⟨h1,h2⟩
def EM(n:Nat)(I:Nat→St→Prop)(k:Nat)(s:St):Prop:=∃m s1,m<n - k∧qw s s1∧∃k',k'≤n∧m=n - k'∧I k' s1
theorem bz{n:Nat}{I:Nat→St→Prop}{k:Nat}{s:St}(h:k<n)(hI:I (k+1) s):EM n I k s:=⟨n - (k+1),s,by omega,.refl s,k+1,h,rfl,hI⟩
theorem bP{P:Program}{c:aA}{kn:St→Prop}{ke:Nat→St→Prop}{kr:St→Prop}{s:St}(n:Nat)(I:Nat→St→Prop)(h0:I 0 s)(hr:∀k s,k≤n→I k s→br P c (EM n I k) ke kr s):br P (.loop c) kn ke kr s:=by
 refine⟨fun m s=>∃k,k≤n∧m=n - k∧I k s,⟨n,s,.refl s,0,Nat.zero_le _,rfl,h0⟩,?_⟩
 rintro m s ⟨k,hk,rfl,hI⟩
 exact hr k s hk hI
attribute [simp] Pw Px Py jm zz zA Pz PA PB PC PD PE PG PI PJ PK PL PM PN PO PR PS PT PU PV PW PX PY PZ P0 P1 P2 P3 P4 P5 P6 P7 P8 P9 P_ zB Qa Qb Qc Qd Qe Qf Qg Qh Qi Qj Qk Ql Qm Qn Qo Qp Qq Qr Qs Qt Qu Qv Qw Qx Qy Qz QA QB QC QD QE QF QG QH QI QJ QK QL QM QN QO QS QT QU QV QW QX QY QZ Q0 Q1 Q2 Q3 Q4 Q5 Q6 Q7 Q8 Q9 zX Q_ Ra Rb adK Re Rc Rf Rg Rh EL cK Ri Rj gO Rk Rl Rm Rn qD EI jU zC vw EJ vz EK zD zE zF zG zH zI zJ zK zL zM zN zO zP zQ zR zS zT zU zV zW abV fc fD AV.bE aa9 gn cD PF
theorem Ro(P:Program)(ms:List au)(K:St→Prop)(s:St)(d:Nat)(x y:AV):vA P ms K s d x y (.lit (.bool true))=vcs P ms K (s.set d x):=rfl
theorem Rp(P:Program)(ms:List au)(K:St→Prop)(s:St)(d:Nat)(x y:AV):vA P ms K s d x y (.lit (.bool false))=vcs P ms K (s.set d y):=rfl
attribute [simp] Ro Rp
theorem i64{n:Int}(h1: -9223372036854775808≤n)(h2:n≤9223372036854775807):fJ .i64 n:=⟨h1,h2⟩
theorem Rq(P:Program)(ms:List au)(K:St→Prop)(s:St)(d:Nat)(z:List AV)(ps:List (Nat×Nat×ai)):vcs P (.build d z ps::ms) K s=aa9 s.env z ps (fun cs=>vcs P ms K (s.set d (.agg cs))):=rfl
theorem Rr(P:Program)(ms:List au)(K:St→Prop)(s:St)(d n sz:Nat)(z:List AV)(ps:List (Nat×ai)):vcs P (.aM d n sz z ps::ms) K s=gn s.env sz (List.replicate n (if sz=1 then z.getD 0 .any else .agg z)) ps (fun xs=>vcs P ms K ((s.aB (d+1)).set d (.slice sz xs (d+1)))):=rfl
theorem Rs(P:Program)(ms:List au)(K:St→Prop)(s:St)(d n:Nat)(x:ai):vcs P (.j8 d x n::ms) K s=((x.ev s.env).cells.length=n∧∀b,s.loc b=none→vcs P ms K ((s.new b ((x.ev s.env).cells.map AV.erase0)).set d (.aj b 0))):=rfl
theorem Rt(P:Program)(ms:List au)(K:St→Prop)(s:St)(d:Nat)(z:List AV):vcs P (.alloc d z::ms) K s=(∀b,s.loc b=none→vcs P ms K ((s.new b z).set d (.aj b 0))):=rfl
theorem Ru(P:Program)(ms:List au)(K:St→Prop)(s:St)(d:Nat)(x:ai):vcs P (.dK d x::ms) K s=vcs P ms K (s.set d (x.ev s.env).erase):=rfl
theorem Rv(P:Program)(ms:List au)(K:St→Prop)(s:St)(zs:List ai)(x:ai)(m:au):vcs P (.apart zs x m::ms) K s=((∀z∈zs,abK (z.ev s.env) (x.ev s.env))∧vcs P (m::ms) K s):=rfl
attribute [simp] Rq Rr Rs Rt Ru Rv abK
def vC(P:Program)(ms:List au)(K:St→Prop)(s:St)(d:Nat)(xs:List AV):AV→AV→Prop
 |.func (.yield l) [] [],.ghost l' (y::rest) false=>l=l'∧xs=y∧vcs P ms K ((s.set gS (.ghost l rest false)).set d (.lit (.bool true)))∧vcs P ms K ((s.set gS (.ghost l rest true)).set d (.lit (.bool false)))
 |_,_=>False
theorem Rw(P:Program)(ms:List au)(K:St→Prop)(s:St)(d:Nat)(x:ai)(xs:List ai):vcs P (.iD d x xs::ms) K s=vC P ms K s d (xs.map fun x=>(x.ev s.env).erase) (x.ev s.env) (s.env gS):=by
 show(match x.ev s.env,s.env gS with|.func (.yield l) [] [],.ghost l' (y::rest) false=>_|_,_=>False)=_
 unfold vC;rfl
theorem Rx{P:Program}{ms:List au}{K:St→Prop}{s:St}{d l:Nat}{xs y:List AV}{rest:List (List AV)}:vC P ms K s d xs (.func (.yield l) [] []) (.ghost l (y::rest) false)=(xs=y∧vcs P ms K ((s.set gS (.ghost l rest false)).set d (.lit (.bool true)))∧vcs P ms K ((s.set gS (.ghost l rest true)).set d (.lit (.bool false)))):=by simp[vC]
theorem Ry(l:Nat)(r:List (List AV))(b:Bool):(AV.ghost l r b).erase=.ghost l r b:=rfl
theorem Rz(q l:Nat)(r:List (List AV))(b:Bool):az q (AV.ghost l r b)=.ghost l r b:=rfl
def zY(P:Program)(ps:List Nat)(a b:aA)(kn:St→Prop)(ke:Nat→St→Prop)(kr:St→Prop)(s:St):AV→Prop
 |.func (.func f) first cap=>Et P f first cap ps.length s (fun I k y st=>br P a (br P b (fun s2=>I (k+1) (back s s2)) (fun i s2=>ke i (back s s2)) (fun s2=>kr (back s s2))) (fun _ _=>False) (fun _=>False) (params st ps y)) kn
 |_=>False
theorem RA(P:Program)(kn:St→Prop)(ke:Nat→St→Prop)(kr:St→Prop)(s:St)(x:ai)(ps:List Nat)(a b:aA):br P (.mE x ps a b) kn ke kr s=zY P ps a b kn ke kr s (x.ev s.env):=by unfold zY;rfl
theorem RB(s s2:St)(k:Nat):(back s s2).env k=if gS≤k then s2.env k else (s.env k).erase:=rfl
theorem RC(s s2:St):(back s s2).loc=s2.loc:=rfl
theorem RD(s:St)(p:Nat)(ps:List Nat)(x:AV)(xs:List AV):params s (p::ps) (x::xs)=params (s.set p x.erase) ps xs:=rfl
theorem RE(s:St)(xs:List AV):params s [] xs=s:=rfl
@[simp] theorem Zq (cs:List AV):noMark [.agg cs]=true:=rfl
@[simp] theorem Zr (s:ByteArray):noMark [.lit (.string s)]=true:=rfl
@[simp] theorem Zs (k:IntKind) (n:Int):noMark [.lit (.int k n)]=true:=rfl
theorem EN{P:Program}{ps:List Nat}{a b:aA}{kn:St→Prop}{ke:Nat→St→Prop}{kr:St→Prop}{s:St}{f:FuncId}{first cap:List AV}(xs:List (List AV))(I:Nat→St→Prop)(h:aa4 P f first cap xs)
 (hl:∀y∈xs,y.length=ps.length∧noMark y=true)(h0:I 0 (back s s))
 (hr:∀k st,k<xs.length→st=back s st→I k st→br P a (br P b (fun s2=>I (k+1) (back s s2)) (fun i s2=>ke i (back s s2)) (fun s2=>kr (back s s2))) (fun _ _=>False) (fun _=>False) (params st ps (xs.getD k [])))
 (he:∀st,st=back s st→I xs.length st→kn st):zY P ps a b kn ke kr s (.func (.func f) first cap):=⟨xs,h,hl,I,h0,hr,he⟩
theorem RF(P:Program)(ms:List au)(K:St→Prop)(s:St)(d:Nat)(f:FuncId)(xs:List ai):vcs P (.fy d f xs::ms) K s=d_ P f (xs.map fun x=>(x.ev s.env).erase) s (fun r s'=>vcs P ms K (s'.set d r)):=rfl
def zZ(P:Program)(ms:List au)(K:St→Prop)(s:St)(d:Nat)(xs:List AV):AV→Prop
 |.func (.func f) first cap=>d_ P f (first++xs++cap) s (fun r s'=>vcs P ms K (s'.set d r))
 |_=>False
theorem RG(P:Program)(ms:List au)(K:St→Prop)(s:St)(d:Nat)(x:ai)(xs:List ai):vcs P (.iE d x xs::ms) K s=zZ P ms K s d (xs.map fun x=>(x.ev s.env).erase) (x.ev s.env):=by unfold zZ;rfl
def acS(P:Program)(ms:List au)(K:St→Prop)(s:St)(d pos:Nat)(y:AV):AV→AV→Prop
 |.func (.yield l) [] [],.ghost l' (z::rest) false=>l=l'∧∃z0 b sz len cap cs,z=[z0,mark pos]∧y=putAt z0 pos (.aq b 0 len cap sz)∧s.loc b=some cs∧kZ z0 pos sz len cap cs∧vcs P ms K ((s.set gS (.ghost l rest false)).set d (.lit (.bool true)))∧vcs P ms K ((s.set gS (.ghost l rest true)).set d (.lit (.bool false)))
 |_,_=>False
theorem RH(P:Program)(ms:List au)(K:St→Prop)(s:St)(d pos:Nat)(x y:ai):vcs P (.lY d x pos y::ms) K s=acS P ms K s d pos (y.ev s.env).erase (x.ev s.env) (s.env gS):=by unfold acS;rfl
def acT(P:Program)(pos:Nat)(ps:List Nat)(a b:aA)(kn:St→Prop)(ke:Nat→St→Prop)(kr:St→Prop)(s:St):AV→Prop
 |.func (.func f) first cap=>Eu P f first cap pos s (fun I k y st=>∀g sz len cap cs,st.loc g=none→kZ y pos sz len cap cs→br P a (br P b (fun s2=>s2.loc g=some cs∧I (k+1) (back s (s2.del g))) (fun i s2=>s2.loc g=some cs∧ke i (back s (s2.del g))) (fun s2=>s2.loc g=some cs∧kr (back s (s2.del g)))) (fun _ _=>False) (fun _=>False) (params (st.new g cs) ps [putAt y pos (.aq g 0 len cap sz)])) kn
 |_=>False
theorem RI(P:Program)(kn:St→Prop)(ke:Nat→St→Prop)(kr:St→Prop)(s:St)(x:ai)(pos:Nat)(ps:List Nat)(a b:aA):br P (.abn x pos ps a b) kn ke kr s=acT P pos ps a b kn ke kr s (x.ev s.env):=by unfold acT;rfl
theorem RJ(s:St)(b k:Nat):(s.del b).env k=s.env k:=rfl
theorem RK(s:St)(b c:Nat):(s.del b).loc c=if c=b then none else s.loc c:=rfl
theorem sV{P:Program}{pos:Nat}{ps:List Nat}{a b:aA}{kn:St→Prop}{ke:Nat→St→Prop}{kr:St→Prop}{s:St}{f:FuncId}{first cap:List AV}(xs:List AV)(I:Nat→St→Prop)(h:aa4 P f first cap (xs.map fun x=>[x,mark pos]))(h0:I 0 (back s s))
 (hr:∀k st,k<xs.length→st=back s st→I k st→∀g sz len cap cs,st.loc g=none→kZ (xs.getD k .any) pos sz len cap cs→br P a (br P b (fun s2=>s2.loc g=some cs∧I (k+1) (back s (s2.del g))) (fun i s2=>s2.loc g=some cs∧ke i (back s (s2.del g))) (fun s2=>s2.loc g=some cs∧kr (back s (s2.del g)))) (fun _ _=>False) (fun _=>False) (params (st.new g cs) ps [putAt (xs.getD k .any) pos (.aq g 0 len cap sz)]))
 (he:∀st,st=back s st→I xs.length st→kn st):acT P pos ps a b kn ke kr s (.func (.func f) first cap):=⟨xs,h,I,h0,hr,he⟩
attribute [simp] RF RG zZ RH acS RI RJ RK
attribute [simp] Rw Rx Ry Rz RA RB RC RD RE gS oS
def acU(P:Program)(ms:List au)(K:St→Prop)(s:St)(d sz bytes:Nat)(zero:List AV):AV→AV→Prop
 |.lit (.int .i64 n),.lit (.int .i64 c)=>0≤n∧n≤c∧c*(bytes:Int)≤140737488355328∧c≤140737488355328∧c*(sz:Int)≤140737488355328∧∀b,s.loc b=none→vcs P ms K ((s.new b (List.replicate c.toNat zero).flatten).set d (.aq b 0 n.toNat c.toNat sz))
 |_,_=>False
theorem adL(P:Program)(ms:List au)(K:St→Prop)(s:St)(d:Nat)(n c:ai)(sz bytes:Nat)(zero:List AV):vcs P (.dL d n c sz bytes zero::ms) K s=acU P ms K s d sz bytes zero (n.ev s.env) (c.ev s.env):=by unfold acU;rfl
def sW(P:Program)(ms:List au)(K:St→Prop)(s:St)(d sz b off len off2 g_:Nat):Option (List AV)→Option (List AV)→Prop
 |some cs,some aU=>off+len*sz≤cs.length∧off2+g_*sz≤aU.length∧aU.all AV.bE=true∧vcs P ms K ((s.new b (splice cs off (((aU.drop off2).take (min g_ len*sz)).map AV.erase0))).set d (.lit (.int .i64 (min g_ len:Nat))))
 |_,_=>False
def acV(P:Program)(ms:List au)(K:St→Prop)(s:St)(d sz:Nat):AV→AV→Prop
 |.aq b off len _ sz',.aq b2 off2 g_ _ b_=>sz'=sz∧b_=sz∧sW P ms K s d sz b off len off2 g_ (s.loc b) (s.loc b2)
 |_,_=>False
theorem RM(P:Program)(ms:List au)(K:St→Prop)(s:St)(d:Nat)(x y:ai)(sz:Nat):vcs P (.lZ d x y sz::ms) K s=acV P ms K s d sz (x.ev s.env) (y.ev s.env):=by
 unfold acV
 show Z2 P (.lZ d x y sz) s (vcs P ms K)=_
 simp only[Z2]
 split
 ·rename_i b off len c1 sz' b2 off2 g_ c2 b_ e1 e2
  simp only[e1,e2]
  cases s.loc b with
  |none=>simp[sW]
  |some cs=>cases s.loc b2 with
   |none=>simp[sW]
   |some aU=>simp[sW]
 ·rename_i hno
  split
  ·rename_i e1 e2
   exact absurd e2 (hno _ _ _ _ _ _ _ _ _ _ e1)
  ·rfl
attribute [simp] RM acV sW
theorem vD{P:Program}{ms:List au}{K:St→Prop}{s:St}{d:Nat}{f:FuncId}{xs:List ai}{ys:List AV}{es:List (List AV)}(hv:abr s.loc (xs.map fun x=>(x.ev s.env).erase)=some ys)(hu:l6 (.fmap es)=true)(h:aG P f ys (.fmap es))(hk:vcs P ms K (s.set d (.fmap es))):vcs P (.aaD d f xs::ms) K s:=⟨ys,.fmap es,hv,hu,h,hk⟩
def EO(P:Program)(ms:List au)(K:St→Prop)(s:St)(d:Nat)(xs:List AV):AV→Prop
 |.func (.func f) first cap=>∃ys r,abr s.loc (first++xs++cap)=some ys∧l6 r=true∧aG P f ys r∧vcs P ms K (s.set d r)
 |_=>False
theorem RN(P:Program)(ms:List au)(K:St→Prop)(s:St)(d:Nat)(x:ai)(xs:List ai):vcs P (.abR d x xs::ms) K s=EO P ms K s d (xs.map fun x=>(x.ev s.env).erase) (x.ev s.env):=by
 show(match x.ev s.env with|.func (.func f) first cap=>_|_=>_)=_
 unfold EO;rfl
attribute [simp] RN
def acW(P:Program)(ms:List au)(K:St→Prop)(s:St)(d sz:Nat):AV→AV→AV→Prop
 |.slice szx xs _,.lit (.int _ i),.lit (.int _ j)=>(i=j∧(i=0∨(szx=sz∧i=xs.length)))∧vcs P ms K ((s.aB (d+1)).set d (.slice sz (xs.take i.toNat) (d+1)))
 |_,_,_=>False
theorem RO(P:Program)(ms:List au)(K:St→Prop)(s:St)(d:Nat)(x hi mx:ai)(sz:Nat):vcs P (.i_ d x hi mx sz::ms) K s=acW P ms K s d sz (x.ev s.env) (hi.ev s.env) (mx.ev s.env):=by unfold acW;rfl
attribute [simp] RO acW
def acX(P:Program)(ms:List au)(K:St→Prop)(s:St)(d sz:Nat):AV→AV→AV→Prop
 |.slice _ xs _,.lit (.int _ 0),.lit (.int _ 0)=>(xs=[]→vcs P ms K (s.set d (.lit (.slice none 0 0))))∧∀b off,vcs P ms K (s.set d (.aq b off 0 0 sz))
 |_,_,_=>False
theorem RP(P:Program)(ms:List au)(K:St→Prop)(s:St)(d:Nat)(x hi mx:ai)(sz:Nat):vcs P (.ot d x hi mx sz::ms) K s=acX P ms K s d sz (x.ev s.env) (hi.ev s.env) (mx.ev s.env):=by unfold acX;rfl
attribute [simp] RP acX
def vE(P:Program)(ms:List au)(K:St→Prop)(s:St)(d sz b off len cap:Nat)(ys:List AV):Option (List AV)→Prop
 |some cs=>ys≠[]∧len+ys.length≤cap∧off+(len+ys.length)*sz≤cs.length∧vcs P ms K ((s.new b (splice cs (off+len*sz) ((ys.flatMap AV.cells).map AV.erase0))).set d (.aq b off (len+ys.length) cap sz))
 |none=>False
def acY(P:Program)(ms:List au)(K:St→Prop)(s:St)(d sz:Nat):AV→AV→Prop
 |.aq b off len cap sz',.slice b_ ys _=>sz'=sz∧b_=sz∧vE P ms K s d sz b off len cap ys (s.loc b)
 |_,_=>False
theorem RQ(P:Program)(ms:List au)(K:St→Prop)(s:St)(d:Nat)(x y:ai)(sz:Nat):vcs P (.nv d x y sz::ms) K s=acY P ms K s d sz (x.ev s.env) (y.ev s.env):=by
 unfold acY
 show Z2 P (.nv d x y sz) s (vcs P ms K)=_
 simp only[Z2]
 split
 ·rename_i b off len cap sz' b_ ys r e1 e2
  simp only[e1,e2]
  cases s.loc b with
  |none=>simp[vE]
  |some cs=>simp[vE]
 ·rename_i hno
  split
  ·rename_i e1 e2
   exact absurd e2 (hno _ _ _ _ _ _ _ _ e1)
  ·rfl
def acZ(P:Program)(ms:List au)(K:St→Prop)(s:St)(d sz:Nat):AV→AV→Prop
 |.aq b off _ cap sz',.lit (.int _ n)=>sz'=sz∧0≤n∧n≤cap∧vcs P ms K (s.set d (.aq b off n.toNat cap sz))
 |_,_=>False
theorem RR(P:Program)(ms:List au)(K:St→Prop)(s:St)(d:Nat)(x hi:ai)(sz:Nat):vcs P (.ab4 d x hi sz::ms) K s=acZ P ms K s d sz (x.ev s.env) (hi.ev s.env):=by unfold acZ;rfl
attribute [simp] RQ acY vE RR acZ
def kG(P:Program)(ms:List au)(K:St→Prop)(s:St)(d b off len cap sz:Nat)(ys:List AV)(zero:List AV):Option (List AV)→Prop
 |some cs=>off+cap*sz≤cs.length∧
  (len+ys.length≤cap→vcs P ms K ((s.new b (splice cs (off+len*sz) ((ys.flatMap AV.cells).map AV.erase0))).set d (.aq b off (len+ys.length) cap sz)))∧
  (cap<len+ys.length→∀b' r,s.loc b'=none→vcs P ms K ((s.new b' (((cs.drop off).take (len*sz)).map AV.erase0++((ys.flatMap AV.cells).map AV.erase0++(List.replicate r zero).flatten))).set d (.aq b' 0 (len+ys.length) (len+ys.length+r) sz)))
 |none=>False
def iJ(P:Program)(ms:List au)(K:St→Prop)(s:St)(d sz bytes:Nat)(zero:List AV):AV→AV→Prop
 |.aq b off len cap sz',.slice b_ ys _=>sz'=sz∧b_=sz∧ys≠[]∧(len+ys.length)*bytes≤140737488355328∧len+ys.length≤140737488355328∧
   if cap=0 then∀b r,s.loc b=none→vcs P ms K ((s.new b ((ys.flatMap AV.cells).map AV.erase0++(List.replicate r zero).flatten)).set d (.aq b 0 ys.length (ys.length+r) sz))
   else kG P ms K s d b off len cap sz ys zero (s.loc b)
 |.lit (.slice none 0 0),.slice b_ ys _=>b_=sz∧ys≠[]∧ys.length*bytes≤140737488355328∧ys.length≤140737488355328∧∀b r,s.loc b=none→vcs P ms K ((s.new b ((ys.flatMap AV.cells).map AV.erase0++(List.replicate r zero).flatten)).set d (.aq b 0 ys.length (ys.length+r) sz))
 |_,_=>False
theorem adM(P:Program)(ms:List au)(K:St→Prop)(s:St)(d:Nat)(x y:ai)(sz bytes:Nat)(zero:List AV):vcs P (.aaY d x y sz bytes zero::ms) K s=iJ P ms K s d sz bytes zero (x.ev s.env) (y.ev s.env):=by unfold iJ kG;rfl
def z8(P:Program)(ms:List au)(K:St→Prop)(s:St)(d b off len sz' b_ sz:Nat)(ys:List AV):Option (List AV)→Prop
 |some cs=>sz'=sz∧(b_=sz∨ys=[])∧off+len*sz≤cs.length∧vcs P ms K ((s.new b (splice cs off (((ys.take (min ys.length len)).flatMap AV.cells).map AV.erase0))).set d (.lit (.int .i64 (min ys.length len:Nat))))
 |none=>False
def z9(P:Program)(ms:List au)(K:St→Prop)(s:St)(d sz:Nat):AV→AV→Prop
 |.aq b off len _ sz',.slice b_ ys _=>z8 P ms K s d b off len sz' b_ sz ys (s.loc b)
 |_,_=>False
theorem RT(P:Program)(ms:List au)(K:St→Prop)(s:St)(d:Nat)(x y:ai)(sz:Nat):vcs P (.j_ d x y sz::ms) K s=z9 P ms K s d sz (x.ev s.env) (y.ev s.env):=by unfold z9 z8;rfl
def z_(P:Program)(ms:List au)(K:St→Prop)(s:St)(d:Nat):AV→Prop
 |.lit (.string t)=>∀b,s.loc b=none→s.env (oS+b)=.any→vcs P ms K ((s.set (oS+b) (aaU t 0)).set d (.aj b 0))
 |_=>False
theorem RU(P:Program)(ms:List au)(K:St→Prop)(s:St)(d:Nat)(x:ai):vcs P (.ja d x::ms) K s=z_ P ms K s d (x.ev s.env):=by unfold z_;rfl
def Aa(P:Program)(ms:List au)(K:St→Prop)(s:St)(d:Nat):AV→Prop
 |.aj b 0=>∃t pos,s.env (oS+b)=aaU t pos∧
   (pos<t.size→vcs P ms K ((s.set (oS+b) (aaU t (pos+(Utf8.decode t pos).2))).set d (.tuple [.lit (.bool true),.lit (.int .i64 pos),.lit (.int .i32 (Utf8.decode t pos).1)])))∧
   (¬pos<t.size→vcs P ms K (s.set d (.tuple [.lit (.bool false)])))
 |_=>False
theorem adN(P:Program)(ms:List au)(K:St→Prop)(s:St)(d:Nat)(x:ai):vcs P (.jb d x::ms) K s=Aa P ms K s d (x.ev s.env):=by unfold Aa;rfl
def Ab(P:Program)(ms:List au)(K:St→Prop)(s:St)(d:Nat):AV→Prop
 |.aZ b=>∃es,s.env (oS+b)=a_ es∧∀r,s.loc r=none→s.env (oS+r)=.any→vcs P ms K ((s.set (oS+r) (aaQ b es.length [])).set d (.aj r 0))
 |_=>False
theorem RW(P:Program)(ms:List au)(K:St→Prop)(s:St)(d:Nat)(x:ai):vcs P (.ou d x::ms) K s=Ab P ms K s d (x.ev s.env):=by unfold Ab;rfl
def Ac(P:Program)(ms:List au)(K:St→Prop)(s:St)(d:Nat):AV→Prop
 |.aj r 0=>∃b seen es,s.env (oS+r)=aaQ b es.length seen∧s.env (oS+b)=a_ es∧
   (∀i,i<es.length→i∉seen→vcs P ms K ((s.set (oS+r) (aaQ b es.length (seen++[i]))).set d (.tuple [.lit (.bool true),((es.getD i []).getD 0 .any).erase,((es.getD i []).getD 1 .any).erase])))∧
   ((∀i,i<es.length→i∈seen)→vcs P ms K (s.set d (.tuple [.lit (.bool false)])))
 |_=>False
theorem RX(P:Program)(ms:List au)(K:St→Prop)(s:St)(d:Nat)(x:ai):vcs P (.ov d x::ms) K s=Ac P ms K s d (x.ev s.env):=by unfold Ac;rfl
attribute [simp] RW Ab RX Ac
theorem RY(P:Program)(ms:List au)(K:St→Prop)(s:St)(d:Nat):vcs P (.mkMap d::ms) K s=(∀b,s.loc b=none→s.env (oS+b)=.any→vcs P ms K ((s.set (oS+b) (a_ [])).set d (.aZ b))):=rfl
def nS(P:Program)(ms:List au)(K:St→Prop)(s:St)(k b len sz:Nat):Option (List AV)→Prop
 |some cs=>len*sz≤cs.length∧cs.all AV.bE=true∧len≤140737488355328∧vcs P ms K ⟨ak s.env k (.slice sz (chunk sz cs len) 0),ak s.loc b none⟩
 |none=>False
def vF(P:Program)(ms:List au)(K:St→Prop)(s:St)(k b:Nat):Option (List AV)→Prop
 |some cs=>(∃sz off,cs[off]? =some (.lit (.slice none 0 0))∧vcs P ms K ((s.aB ((k+1)*1000+off)).new b ((cs.map (az ((k+1)*1000+off))).set off (.slice sz [] ((k+1)*1000+off)))))∨
   (∃off b2 len cap sz aU,cs[off]? =some (.aq b2 0 len cap sz)∧b2≠b∧s.loc b2=some aU∧len*sz≤aU.length∧aU.all AV.bE=true∧len≤140737488355328∧vcs P ms K ⟨s.env,ak (ak s.loc b (some (cs.set off (.slice sz (chunk sz aU len) 0)))) b2 none⟩)∨
   (∃off b2 es,cs[off]? =some (.aZ b2)∧s.env (oS+b2)=a_ es∧vcs P ms K ⟨ak s.env (oS+b2) .any,ak s.loc b (some (cs.set off (.fmap es)))⟩)∨
   vcs P ms K ⟨ak s.env k (.ref (cs.map AV.erase0)),ak s.loc b none⟩
 |none=>False
def mI(P:Program)(ms:List au)(K:St→Prop)(s:St)(k:Nat):AV→Prop
 |.aq b 0 len _ sz=>nS P ms K s k b len sz (s.loc b)
 |.aj b 0=>vF P ms K s k b (s.loc b)
 |.lit (.slice none 0 0)=>∃sz,vcs P ms K ⟨ak s.env k (.slice sz [] 0),s.loc⟩
 |.aZ b=>∃es,s.env (oS+b)=a_ es∧vcs P ms K ⟨ak (ak s.env (oS+b) .any) k (.fmap es),s.loc⟩
 |_=>False
theorem EP(P:Program)(ms:List au)(K:St→Prop)(s:St)(k:Nat):vcs P (.bD k::ms) K s=mI P ms K s k (s.env k):=by unfold mI nS vF;rfl
theorem vG{P:Program}{ms:List au}{K:St→Prop}{s:St}{k b:Nat}{cs:List AV}(off b2 len cap sz:Nat){aU:List AV}(h0:cs[off]? =some (.aq b2 0 len cap sz))(h1:b2≠b)(h2:s.loc b2=some aU)(h3:len*sz≤aU.length)(h4:aU.all AV.bE=true)(h5:len≤140737488355328)(hk:vcs P ms K ⟨s.env,ak (ak s.loc b (some (cs.set off (.slice sz (chunk sz aU len) 0)))) b2 none⟩):vF P ms K s k b (some cs):=.inr (.inl ⟨off,b2,len,cap,sz,aU,h0,h1,h2,h3,h4,h5,hk⟩)
theorem ER{P:Program}{ms:List au}{K:St→Prop}{s:St}{k b:Nat}{cs:List AV}(hk:vcs P ms K ⟨ak s.env k (.ref (cs.map AV.erase0)),ak s.loc b none⟩):vF P ms K s k b (some cs):=.inr (.inr (.inr hk))
attribute [simp] adM iJ kG adL acU RT z9 z8 RU z_ adN Aa RY EP mI nS
def Ad(P:Program)(ms:List au)(K:St→Prop)(s:St)(d:Nat):AV→AV→Prop
 |.lit (.string t),.lit (.int _ n)=>0≤n∧n≤t.size∧vcs P ms K (s.set d (.lit (.string (t.extract n.toNat t.size))))
 |_,_=>False
theorem RZ(P:Program)(ms:List au)(K:St→Prop)(s:St)(d:Nat)(x l:ai):vcs P (.ow d x l::ms) K s=Ad P ms K s d (x.ev s.env) (l.ev s.env):=by unfold Ad;rfl
def Ae(P:Program)(ms:List au)(K:St→Prop)(s:St)(d:Nat)(n:Option Nat):AV→Prop
 |.ref cs=>jU P ms K s d cs 0 true n
 |_=>False
theorem adO(P:Program)(ms:List au)(K:St→Prop)(s:St)(d:Nat)(x:ai)(n:Option Nat):vcs P (.aaW d x n::ms) K s=Ae P ms K s d n (x.ev s.env):=by
 show(match x.ev s.env with|.ref cs=>_|_=>_)=_
 unfold Ae
 cases x.ev s.env<;>first|rfl|skip
 rename_i cs
 cases n with
 |none=>rfl
 |some n=>show(_∧vcs P ms K (s.set d ((AV.agg ((cs.drop 0).take n)).erase).erase))=_;rw[sU];rfl
attribute [simp] RZ Ad adO Ae
end Go.Z4
namespace Go.Z4
open Go.ChangeShapes Go.WideShapes Go.ChangeAt Go.RowKit
theorem Fr.kept{W W':World}(h:Fr W W')(may:MemPlace→Prop):W.keptBut W' may:=by
 obtain⟨h1,_,h3,h4,h5⟩:=h
 refine⟨h1,h3,fun i hi=> ?_⟩
 rw[h5 i hi]
 cases ho:W.heap[i]? with
 |none=>trivial
 |some o=>cases o<;>first|exact⟨rfl,rfl,rfl,fun _ _=>rfl⟩|exact .inr ⟨rfl,rfl⟩|rfl
theorem Fr.frozen{W W':World}(h:Fr W W')(a:Addr)(ha:a.block<W.heap.size):W'.frozen? a=W.frozen? a:=by
 unfold World.frozen?
 rw[h.2.2.2.2 a.block ha]
variable {H:Type} {enc:TypeId×Value→H} {P:Program}
theorem adP{f:Func}{s:ChangeSpec}{apart fresh handsOn again:Bool}{W W':World}{args:Array Value}{v:Value}{ds gs:List (DataW H)}{before pa pv:List MemPlace}
  (hW:DataW.Whole enc P f.params.toList s.vars apart W args.toList ds gs before)
  (hres:∀(b:Nat) (sp:Nat→Bool) (hd:Bool),DataW.TrodAll enc P W' b sp hd f.resultTypes.toList (v.resultList f.resultTypes.size) (s.fn H (ds++gs)).results [])
  (hargs:∀sp:Nat→Bool,(∀p∈before,sp p.block=true)→DataW.TrodAll enc P W' 0 sp true f.params.toList args.toList (s.fn H (ds++gs)).args pa)
  (hvars:∀sp:Nat→Bool,(∀p∈before,sp p.block=true)→DataW.TrodVars enc P W' sp s.vars (s.fn H (ds++gs)).vars pv)
  (hps:before=pa++pv)(hk:W.keptBut W' (· ∈before))(hfz:∀a:Addr,a.block<W.heap.size→W'.frozen? a=W.frozen? a)
  (hok:∀(j:Nat) (t:TypeId) (r:Value),f.resultTypes[j]? =some t→(v.resultList f.resultTypes.size)[j]? =some r→Value.okWide P W' .any 0 t r):
  s.post enc P f apart fresh handsOn again W args v W':=by
 have hold:∀p∈before,(fun b=>decide (b<W.heap.size)) p.block=true:=fun p hp=>by simpa using hW.lt p hp
 have hlt:=hW.lt
 refine⟨ds,gs,before,[],pa,pv,hW,hres _ _ _,hargs _ hold,hvars _ hold,World.keptBut_mono (fun p hp=>⟨hp,?_⟩) hk,fun _=> ?_⟩
 ·rw[hps,List.mem_append] at hp
  exact Or.inr hp
 ·obtain⟨_,_,_,_,_,hz,hn⟩:=hW
  refine⟨hok,_,_,([]++pa)++pv,⟨[]++pa,pv,trodAll_append (hargs _ (fun _ _=>rfl)) (hres _ _ _),hvars _ (fun _ _=>rfl),rfl,?_,?_⟩,?_⟩
  ·intro b off hp
   have hp':MemPlace.cell b off∈before:=by rw[hps];simpa using hp
   rw[hfz _ (hlt _ hp')]
   exact hz b off hp'
  ·intro ha
   have:=hn ha
   rw[hps] at this
   simpa using this
  ·intro p hp _
   rw[hps]
   simpa using hp
end Go.Z4
namespace Go.Z4
open Go.ChangeShapes Go.WideShapes Go.ChangeAt Go.RowKit
def Old(w:World):aK:=fun b _=>b<w.heap.size
def sX(cs:List Value):Prop:=∀(i:Nat) a len cap,cs[i]? =some (.slice (some a) len cap)→a.spot=none
structure Cs (w:World) (xs:List AV) (cs:List Value):Prop where
 len:xs.length=cs.length
 one:xs.all AV.bE=true
 rv:∀i,RV w (Old w) (xs.getD i .any) (cs.getD i undef)
theorem Cs.nil(w:World):Cs w [] []:=⟨rfl,rfl,fun i=>by simpa using .any _⟩
theorem Cs.single{w:World}{x:AV}{v:Value}(h:RV w (Old w) x v)(h1:x.bE=true):Cs w [x] [v]:=
 ⟨rfl,by rw[List.all_cons,h1];rfl,fun i=>by cases i with
   |zero=>exact h
   |succ i=>simpa using .any _⟩
theorem Cs.append{w:World}{xs ys:List AV}{cs ds:List Value}(h:Cs w xs cs)(k:Cs w ys ds):Cs w (xs++ys) (cs++ds) where
 len:=by simp[h.len,k.len]
 one:=by simp[h.one,k.one]
 rv i:=by
  simp only[List.getD_eq_getElem?_getD,List.getElem?_append,h.len]
  by_cases hi:i<cs.length
  ·simp only[hi,if_true]
   have:=h.rv i
   simpa only[List.getD_eq_getElem?_getD] using this
  ·simp only[hi,if_false]
   have:=k.rv (i - cs.length)
   simpa only[List.getD_eq_getElem?_getD] using this
def Rd(P:Program)(pl:Bool)(t:TypeId){α:Type}(mk:α→AV)(ok:α→Prop):Prop:=
 ∀(H:Type) (enc:TypeId×Value→H) (w:World) (fuel:Nat) (cs:List Value) (d:DataW H) (ps:List MemPlace),
  DataW.trod enc P w 0 (fun _=>true) true fuel t cs=some (d,ps)→(∀n∈d.weights P t,n≤reachBytes)→(pl=true∨sX cs)→
  ∃x,ok x∧Cs w (mk x).cells cs
theorem Rd.loose{P:Program}{t:TypeId}{α:Type}{mk:α→AV}{ok:α→Prop}(h:Rd P true t mk ok):Rd P false t mk ok:=fun H enc w fuel cs d ps h1 h2 _=>h H enc w fuel cs d ps h1 h2 (.inl rfl)
theorem Rd.map{P:Program}{pl:Bool}{t:TypeId}{α β:Type}{mk:α→AV}{ok:α→Prop}(h:Rd P pl t mk ok)(e:α→β){mk':β→AV}{ET:β→Prop}(hm:∀x,mk x=mk' (e x))(ho:∀x,ok x→ET (e x)):Rd P pl t mk' ET:=fun H enc w fuel cs d ps h1 h2 h3=>by
 obtain⟨x,hx,hc⟩:=h H enc w fuel cs d ps h1 h2 h3
 exact⟨e x,ho x hx,hm x▸hc⟩
theorem Rd.bool{P:Program}{t:TypeId}(ht:P.underlying t=some .bool):Rd P true t (fun b:Bool=>.lit (.bool b)) (fun _=>True):=by
 intro H enc w fuel cs d ps h _ _
 cases fuel with
 |zero=>simp[DataW.trod] at h
 |succ n=>
  unfold DataW.trod at h
  rw[ht] at h
  split at h
  all_goals first|(simp_all;done)|skip
  rename_i b _ _
  exact⟨b,trivial,.single (.lit _ rfl) rfl⟩
theorem Rd.int{P:Program}{t:TypeId}{k:IntKind}(ht:P.underlying t=some (.int k)):Rd P true t (fun n:Int=>.lit (.int k n)) (fun n=>k.min≤n∧n≤k.max):=by
 intro H enc w fuel cs d ps h _ _
 cases fuel with
 |zero=>simp[DataW.trod] at h
 |succ n=>
  unfold DataW.trod at h
  rw[ht] at h
  split at h<;>simp_all
  exact⟨_,by simpa[Lit.wf] using h.1.2,.single (.lit _ rfl) rfl⟩
theorem Rd.string{P:Program}{t:TypeId}(ht:P.underlying t=some .string):Rd P true t (fun s:ByteArray=>.lit (.string s)) (fun s=>s.size≤140737488355328):=by
 intro H enc w fuel cs d ps h hn _
 cases fuel with
 |zero=>simp[DataW.trod] at h
 |succ n=>
  unfold DataW.trod at h
  rw[ht] at h
  split at h<;>simp_all
  obtain⟨_,rfl,rfl⟩:=h
  refine⟨_,?_,.single (.lit _ rfl) rfl⟩
  simp[DataW.weights,reachBytes] at hn
  omega
def fe(P:Program)(pl:Bool)(off:Nat)(fs:List Field)(tot:Nat){α:Type}(mk:α→List AV)(ok:α→Prop):Prop:=
 ∀(H:Type) (enc:TypeId×Value→H) (w:World) (fuel:Nat) (cs:List Value) (xs:List (DataW H×List MemPlace)),cs.length=tot→
  (fs.mapM fun f=>DataW.trod enc P w 0 (fun _=>true) true fuel f.type ((cs.drop f.offset).take (P.cellsOf f.type)))=some xs→
  (∀n∈DataW.weightsEach P (fs.map (·.type)) (xs.map (·.1)),n≤reachBytes)→(pl=true∨sX cs)→
  ∃x,ok x∧Cs w (mk x) (cs.drop off)
theorem fe.nil{P:Program}{pl:Bool}{tot:Nat}:fe P pl tot [] tot (fun _:Unit=>[]) (fun _=>True):=by
 intro H enc w fuel cs xs hl _ _ _
 refine⟨(),trivial,?_⟩
 rw[List.drop_of_length_le (by omega)]
 exact .nil w
theorem fe.cons{P:Program}{pl:Bool}{off off' tot:Nat}{f:Field}{fs:List Field}{α β:Type}{mk:α→AV}{ok:α→Prop}{EU:β→List AV}{EV:β→Prop}
  (ho:f.offset=off)(ho':off+P.cellsOf f.type=off')(h:Rd P pl f.type mk ok)(hs:fe P pl off' fs tot EU EV):
  fe P pl off (f::fs) tot (fun x:α×β=>(mk x.1).cells++EU x.2) (fun x=>ok x.1∧EV x.2):=by
 intro H enc w fuel cs xs hl hm hw hp
 rw[List.mapM_cons] at hm
 cases hf:DataW.trod enc P w 0 (fun _=>true) true fuel f.type ((cs.drop f.offset).take (P.cellsOf f.type)) with
 |none=>simp[hf] at hm
 |some y=>
  cases hr:fs.mapM fun f=>DataW.trod enc P w 0 (fun _=>true) true fuel f.type ((cs.drop f.offset).take (P.cellsOf f.type)) with
  |none=>simp[hf,hr] at hm
  |some ys=>
   simp[hf,hr] at hm
   subst hm
   obtain⟨d,ps⟩:=y
   obtain⟨x,hx,hc⟩:=h H enc w fuel _ d ps hf (fun n hn=>hw n (by simp[DataW.weightsEach,hn])) (hp.imp_right fun hs i a len cap hi=>by
    rw[List.getElem?_take] at hi
    split at hi
    ·rw[List.getElem?_drop] at hi;exact hs _ a len cap hi
    ·cases hi)
   obtain⟨x',hx',eV⟩:=hs H enc w fuel cs ys hl hr (fun n hn=>hw n (by simp[DataW.weightsEach];exact .inr (by simpa using hn))) hp
   refine⟨(x,x'),⟨hx,hx'⟩,?_⟩
   rw[ho] at hc
   have e:cs.drop off=(cs.drop off).take (P.cellsOf f.type)++cs.drop off':=by rw[←ho',←List.drop_drop,List.take_append_drop]
   rw[e]
   exact hc.append eV
theorem Rd.struct{P:Program}{pl:Bool}{t:TypeId}{fs:Array Field}{l:List Field}{tot:Nat}(ht:P.underlying t=some (.struct fs))(hl:fs.toList=l)(htot:P.cellsOf t=tot){α:Type}{mk:α→List AV}{ok:α→Prop}(h:fe P pl 0 l tot mk ok):Rd P pl t (fun x=>.agg (mk x)) ok:=by
 intro H enc w fuel cs d ps hd hw hp
 cases fuel with
 |zero=>simp[DataW.trod] at hd
 |succ n=>
  unfold DataW.trod at hd
  rw[ht] at hd
  simp only[htot,hl] at hd
  split at hd
  ·rename_i hlen
   simp only[Option.map_eq_some_iff] at hd
   obtain⟨xs,hxs,e⟩:=hd
   simp only[Prod.mk.injEq] at e
   obtain⟨rfl,rfl⟩:=e
   simp only[DataW.weights,ht,hl] at hw
   obtain⟨x,hx,hc⟩:=h H enc w n cs xs hlen hxs hw hp
   exact⟨x,hx,by simpa using hc⟩
  ·cases hd
theorem EW{a:Addr}(h:a.spot=none)(k:Nat):a.add k=⟨a.block,a.off+k,none⟩:=by
 unfold Addr.add
 split
 ·rename_i h0;subst h0;cases a;simp_all
 ·rfl
theorem R3(xs:List AV)(sz:Nat)(h:∀x∈xs,x.cells.length=sz)(q r:Nat)(hr:r<sz):(xs.flatMap AV.cells).getD (q*sz+r) .any=((xs.getD q .any).cells).getD r .any:=by
 induction xs generalizing q with
 |nil=>simp[AV.cells]
 |cons x xs ih=>
  have hx:=h x (by simp)
  cases q with
  |zero=>
   simp only[List.flatMap_cons,List.getD_eq_getElem?_getD,List.getElem?_append,hx]
   simp[hr]
  |succ q=>
   have e:(q+1)*sz+r=q*sz+r+sz:=by rw[Nat.succ_mul];omega
   have:=ih (fun y hy=>h y (by simp[hy])) q
   simp only[List.flatMap_cons,List.getD_eq_getElem?_getD,List.getElem?_append,hx] at this⊢
   rw[e,if_neg (by omega),Nat.add_sub_cancel]
   simpa using this
theorem EX{H:Type}{P:Program}{e:TypeId}:∀{ds:List (DataW H)} {d:DataW H},d∈ds→∀n∈d.weights P e,n∈DataW.weightsAll P e ds
 |_::_,_,.head _,n,hn=>by simp[DataW.weightsAll,hn]
 |_::_,_,.tail _ h,n,hn=>by
  have:=EX h n hn
  simp[DataW.weightsAll,this]
theorem EY{α β:Type}{f:α→Option β}:∀{l:List α} {r:List β},l.mapM f=some r→r.length=l.length∧∀(i:Nat) x,l[i]? =some x→f x=r[i]?
 |[],r,h=>by simp at h;subst h;simp
 |a::l,r,h=>by
  rw[List.mapM_cons] at h
  cases ha:f a with
  |none=>simp[ha] at h
  |some b=>
   cases hl:l.mapM f with
   |none=>simp[ha,hl] at h
   |some rs=>
    simp[ha,hl] at h
    subst h
    obtain⟨h1,h2⟩:=EY hl
    refine⟨by simp[h1],fun i x hx=> ?_⟩
    cases i with
    |zero=>simp at hx;subst hx;simpa using ha
    |succ i=>simp at hx;simpa using h2 i x hx
theorem Rd.sliceB{P:Program}{t e:TypeId}{sz:Nat}(ht:P.underlying t=some (.slice e))(hb:1≤P.bytesOf e)(hsz:P.cellsOf e=sz){α:Type}{mk:α→AV}{ok:α→Prop}(h:Rd P true e mk ok):Rd P false t (fun xs:List α=>.slice sz (xs.map mk) 0) (fun xs=>xs.length≤140737488355328∧xs.length*P.bytesOf e≤140737488351232∧∀x∈xs,ok x):=by
 intro H enc w fuel cs d ps hd hw hp
 have hp:sX cs:=by simpa using hp
 cases fuel with
 |zero=>simp[DataW.trod] at hd
 |succ n=>
  unfold DataW.trod at hd
  rw[ht] at hd
  split at hd
  all_goals first|(simp_all;done)|skip
  ·exact⟨[],by simp,.single (.cH sz 0) rfl⟩
  ·rename_i e' a len cap he _
   have ee:e'=e:=by simpa using he.symm
   subst ee
   simp only[hsz] at hd
   split at hd
   ·rename_i hc
    simp only[Option.bind_eq_some_iff,Option.map_eq_some_iff] at hd
    obtain⟨elems,hel,rest,_,e⟩:=hd
    simp only[Prod.mk.injEq] at e
    obtain⟨rfl,rfl⟩:=e
    have hs:=hp 0 a len cap rfl
    obtain⟨h1,h2⟩:=EY hel
    simp only[DataW.weights,ht] at hw
    have hlen:elems.length=len:=by simpa using h1
    have R4:len*P.bytesOf e'≤140737488351232:=by
     have:=hw _ (by simp;exact .inl rfl)
     simp only[hlen,reachBytes] at this
     rw[Nat.add_mul] at this
     omega
    have xW:len≤140737488355328:=by
     have:=hw _ (by simp;exact .inl rfl)
     simp only[hlen,reachBytes] at this
     have h3:(len+rest.length)*1≤(len+rest.length)*P.bytesOf e':=Nat.mul_le_mul_left _ hb
     omega
    have hx:∀i:Fin len,∃x:α,ok x∧∃cs',w.cells? 0 (a.add (i.1*sz)) sz=some cs'∧Cs w (mk x).cells cs':=fun i=>by
     have:=h2 i.1 i.1 (by simp[i.2])
     have hi:i.1<elems.length:=by rw[hlen];exact i.2
     rw[List.getElem?_eq_getElem hi] at this
     simp only[Option.bind_eq_some_iff] at this
     obtain⟨cs',abw,hd'⟩:=this
     obtain⟨x,hx,eV⟩:=h H enc w n cs' elems[i.1].1 elems[i.1].2 hd' (fun m hm=>hw m (by
      simp only[List.mem_cons,List.mem_append]
      exact .inr (.inl (EX (List.mem_map.2 ⟨elems[i.1],List.getElem_mem hi,rfl⟩) m hm)))) (.inl rfl)
     exact⟨x,hx,cs',abw,eV⟩
    obtain⟨g,hg⟩:=Classical.axiomOfChoice hx
    have hz:∃zs:List α,zs.length=len∧∀i (hi:i<zs.length),ok zs[i]∧∃cs',w.cells? 0 (a.add (i*sz)) sz=some cs'∧Cs w (mk zs[i]).cells cs':=⟨List.ofFn g,by simp,fun i hi=>by simpa using hg ⟨i,by simpa using hi⟩⟩
    clear hg g hx
    obtain⟨zs,hzl,hz⟩:=hz
    refine⟨zs,⟨by omega,by rw[hzl];exact R4,fun x hx=> ?_⟩,?_⟩
    ·obtain⟨i,hi,rfl⟩:=List.mem_iff_getElem.1 hx
     exact(hz i hi).1
    ·have hcell:∀x∈zs.map mk,x.cells.length=sz:=fun y hy=>by
      obtain⟨x,hx,rfl⟩:=List.mem_map.1 hy
      obtain⟨i,hi,rfl⟩:=List.mem_iff_getElem.1 hx
      obtain⟨_,cs',abw,eV⟩:=hz i hi
      rw[eV.len,(World.cells?_some abw).2.1]
     refine .single ?_ rfl
     have ea:a=⟨a.block,a.off,none⟩:=by cases a;simp_all
     have hat:∀i,i<len*sz→∃v,w.cell? ⟨a.block,a.off+i,none⟩=some v∧a.block<w.heap.size∧RV w (Old w) (((zs.map mk).flatMap AV.cells).getD i .any) v:=fun i hi=>by
      have oC:0<sz:=by
       rcases Nat.eq_zero_or_pos sz with h0|h0
       ·rw[h0] at hi;omega
       ·exact h0
      have hq:i / sz<zs.length:=by rw[hzl];exact Nat.div_lt_of_lt_mul (by rw[Nat.mul_comm];exact hi)
      have hr:i%sz<sz:=Nat.mod_lt _ oC
      obtain⟨_,cs',abw,eV⟩:=hz (i / sz) hq
      have cw:=(World.cells?_some abw).2.1
      have hce:=(World.cells?_some abw).2.2 (i%sz) hr
      have R5:(a.add (i / sz*sz)).add (i%sz)=⟨a.block,a.off+i,none⟩:=by
       rw[EW hs,EW rfl]
       have:=Nat.div_add_mod i sz
       rw[Nat.mul_comm] at this
       simp only[Addr.mk.injEq,and_true,true_and]
       omega
      rw[R5,List.getElem?_eq_getElem (by omega)] at hce
      refine⟨_,hce,?_,?_⟩
      ·unfold World.cell? at hce
       by_cases hlt:a.block<w.heap.size
       ·exact hlt
       ·rw[Array.getElem?_eq_none (by simpa using hlt)] at hce
        cases hce
      ·have e1:=R3 (zs.map mk) sz hcell (i / sz) (i%sz) hr
       rw[show i / sz*sz+i%sz=i from by rw[Nat.mul_comm];exact Nat.div_add_mod i sz] at e1
       rw[e1]
       have e2:(zs.map mk).getD (i / sz) .any=mk zs[i / sz]:=by simp[List.getD_eq_getElem?_getD,hq]
       rw[e2]
       have:=eV.rv (i%sz)
       rw[show cs'.getD (i%sz) undef=cs'[i%sz]'(by omega) from by simp[List.getD_eq_getElem?_getD,show i%sz<cs'.length by omega]] at this
       exact this
     have hl':(zs.map mk).length=len:=by simp[hzl]
     rw[ea,←hl']
     refine .slice sz _ 0 a.block a.off cap (fun i=>(w.cell? ⟨a.block,a.off+i,none⟩).getD undef) hcell (fun y hy=> ?_) (by rw[hl'];omega) (by rw[hl'];exact xW) (fun i hi=> ?_) fun i=> ?_
     ·obtain⟨x,hx,rfl⟩:=List.mem_map.1 hy
      obtain⟨i,hi,rfl⟩:=List.mem_iff_getElem.1 hx
      obtain⟨_,cs',abw,eV⟩:=hz i hi
      exact eV.one
     ·rw[hl'] at hi
      obtain⟨v,hv,hb',_⟩:=hat i hi
      exact⟨by rw[hv];rfl,hb'⟩
     ·by_cases hi:i<len*sz
      ·obtain⟨v,hv,_,hr⟩:=hat i hi
       rw[hv]
       exact hr
      ·rw[List.getD_eq_getElem?_getD,List.getElem?_eq_none (by rw[gp sz _ hcell,hl'];omega)]
       exact .any _
   ·cases hd
theorem Rd.row{P:Program}{pl:Bool}{e:TypeId}{sz:Nat}(hsz:P.cellsOf e=sz){α:Type}{mk:α→AV}{ok:α→Prop}(h:Rd P pl e mk ok){H:Type}{enc:TypeId×Value→H}{w:World}{fuel:Nat}{cs:List Value}(hp:pl=true∨sX cs):
  ∀(n k:Nat) (xs:List (DataW H×List MemPlace)),cs.length=(k+n)*sz→
   ((List.range' k n).mapM fun i=>DataW.trod enc P w 0 (fun _=>true) true fuel e ((cs.drop (i*sz)).take sz))=some xs→
   (∀m∈DataW.weightsAll P e (xs.map (·.1)),m≤reachBytes)→
   ∃ys:List α,ys.length=n∧(∀y∈ys,ok y)∧Cs w (ys.flatMap fun y=>(mk y).cells) (cs.drop (k*sz))
 |0,k,xs,hl,_,_=>⟨[],rfl,by simp,by rw[List.drop_of_length_le (by rw[hl];simp)];exact .nil w⟩
 |n+1,k,xs,hl,hm,hw=>by
  rw[List.range'_succ,List.mapM_cons] at hm
  cases hf:DataW.trod enc P w 0 (fun _=>true) true fuel e ((cs.drop (k*sz)).take sz) with
  |none=>simp[hf] at hm
  |some y=>
   cases hr:(List.range' (k+1) n).mapM fun i=>DataW.trod enc P w 0 (fun _=>true) true fuel e ((cs.drop (i*sz)).take sz) with
   |none=>simp[hf,hr] at hm
   |some zs=>
    simp[hf,hr] at hm
    subst hm
    obtain⟨d,ps⟩:=y
    obtain⟨x,hx,hc⟩:=h H enc w fuel _ d ps hf (fun m hm=>hw m (by simp[DataW.weightsAll,hm])) (hp.imp_right fun hs i a len cap hi=>by
     rw[List.getElem?_take] at hi
     split at hi
     ·rw[List.getElem?_drop] at hi;exact hs _ a len cap hi
     ·cases hi)
    obtain⟨ys,h1,h2,h3⟩:=Rd.row hsz h hp n (k+1) zs (by rw[hl];congr 1;omega) hr (fun m hm=>hw m (by simp[DataW.weightsAll];exact .inr (by simpa using hm)))
    refine⟨x::ys,by simp[h1],by simpa using⟨hx,h2⟩,?_⟩
    have e:cs.drop (k*sz)=(cs.drop (k*sz)).take sz++cs.drop ((k+1)*sz):=by rw[Nat.succ_mul,←List.drop_drop,List.take_append_drop]
    rw[e,List.flatMap_cons]
    exact hc.append h3
theorem Rd.slice{P:Program}{t e:TypeId}{sz:Nat}(ht:P.underlying t=some (.slice e))(hb:1≤P.bytesOf e)(hsz:P.cellsOf e=sz){α:Type}{mk:α→AV}{ok:α→Prop}(h:Rd P true e mk ok):Rd P false t (fun xs:List α=>.slice sz (xs.map mk) 0) (fun xs=>xs.length≤140737488355328∧∀x∈xs,ok x):=(Rd.sliceB ht hb hsz h).map id (fun _=>rfl) (fun _ h=>⟨h.1,h.2.2⟩)
theorem Rd.array{P:Program}{pl:Bool}{t e:TypeId}{n sz:Nat}(ht:P.underlying t=some (.array n e))(hsz:P.cellsOf e=sz)(htot:P.cellsOf t=n*sz){α:Type}{mk:α→AV}{ok:α→Prop}(h:Rd P pl e mk ok):Rd P pl t (fun xs:List α=>.agg (xs.flatMap fun y=>(mk y).cells)) (fun xs=>xs.length=n∧∀x∈xs,ok x):=by
 intro H enc w fuel cs d ps hd hw hp
 cases fuel with
 |zero=>simp[DataW.trod] at hd
 |succ f=>
  unfold DataW.trod at hd
  rw[ht] at hd
  simp only[htot,hsz] at hd
  split at hd
  ·rename_i hlen
   simp only[Option.map_eq_some_iff] at hd
   obtain⟨xs,hxs,e⟩:=hd
   simp only[Prod.mk.injEq] at e
   obtain⟨rfl,rfl⟩:=e
   simp only[DataW.weights,ht] at hw
   rw[List.range_eq_range'] at hxs
   obtain⟨ys,h1,h2,h3⟩:=Rd.row hsz h hp n 0 xs (by simpa using hlen) hxs hw
   exact⟨ys,⟨h1,h2⟩,by simpa[AV.cells] using h3⟩
  ·cases hd
end Go.Z4
namespace Go.Z4
open Go.ChangeShapes Go.WideShapes Go.ChangeAt Go.RowKit
variable {H:Type} {enc:TypeId×Value→H} {P:Program}
theorem Cell.spot{w:World}{b:Nat}{u:TypeId}{a:Addr}{len cap:Nat}(h:Cell.okWide P w .any b u (.slice (some a) len cap)):a.spot=none:=by
 unfold Cell.okWide at h
 split at h
 all_goals first|(simp_all;done)|skip
 unfold Cell.ok at h
 split at h
 all_goals first|(simp_all;done)|skip
 ·rename_i he
  cases he
  exact h.2.2.2.1
theorem adQ{w:World}{b:Nat}{t:TypeId}{cs:Array Value}(h:Row.okWide P w .any b t cs):sX cs.toList:=by
 intro i a len cap hi
 obtain⟨ts,_,_,hc⟩:=h
 obtain⟨u,_,hu⟩:=hc i _ (by simpa using hi)
 exact Cell.spot hu
theorem EZ{w:World}{b:Nat}{t:TypeId}{v:Value}{d:DataW H}{ps:List MemPlace}(ht:(∃fs,P.underlying t=some (.struct fs))∨∃n e,P.underlying t=some (.array n e))
  (hval:Value.okWide P w .any b t v)(hd:DataW.Trod enc P w 0 (fun _=>true) true t v d ps)(hw:∀n∈d.weights P t,n≤reachBytes){α:Type}{mk:α→List AV}{ok:α→Prop}
  (h:Rd P false t (fun x=>.agg (mk x)) ok):∃x,ok x∧RV w (Old w) (.agg (mk x)) v:=by
 have hv:∃cs,v=.agg cs∧Row.okWide P w .any b t cs:=by
  unfold Value.okWide at hval
  rcases ht with ⟨fs,ht⟩|⟨n,e,ht⟩
  all_goals
   rw[ht] at hval
   obtain⟨cs,h1,_,h2⟩:=hval
   exact⟨cs,h1,h2⟩
 obtain⟨cs,rfl,hrow⟩:=hv
 obtain⟨fuel,hd⟩:=hd
 obtain⟨x,hx,hc⟩:=h H enc w fuel _ d ps hd hw (.inr (by simpa[Value.cells] using adQ hrow))
 refine⟨x,hx,.agg _ _ (by simpa[AV.cells,Value.cells] using hc.len.symm) fun i=> ?_⟩
 have:=hc.rv i
 simpa[AV.cells,Value.cells,Array.getD_eq_getD_getElem?,List.getD_eq_getElem?_getD] using this
theorem R7{w:World}{b:Nat}{t:TypeId}{v:Value}{d:DataW H}{ps:List MemPlace}
  (ht:P.underlying t=some .bool∨(∃k,P.underlying t=some (.int k))∨P.underlying t=some .string∨∃e,P.underlying t=some (.slice e))
  (hval:Value.okWide P w .any b t v)(hd:DataW.Trod enc P w 0 (fun _=>true) true t v d ps)(hw:∀n∈d.weights P t,n≤reachBytes){α:Type}{mk:α→AV}{ok:α→Prop}
  (h:Rd P false t mk ok)(hmk:∀x,(mk x).cells=[mk x]):∃x,ok x∧RV w (Old w) (mk x) v:=by
 have hc:Cell.okWide P w .any b t v:=by
  unfold Value.okWide at hval
  rcases ht with ht|⟨k,ht⟩|ht|⟨e,ht⟩<;>(rw[ht] at hval;exact hval)
 have hv:v.cells= #[v]:=by
  cases v with
  |agg cs=>
   exfalso
   unfold Cell.okWide at hc
   split at hc
   all_goals first|(simp_all;done)|skip
   unfold Cell.ok at hc
   split at hc<;>simp_all
  |_=>rfl
 obtain⟨fuel,hd⟩:=hd
 rw[hv] at hd
 obtain⟨x,hx,eV⟩:=h H enc w fuel _ d ps hd hw (.inr fun i a len cap hi=>by
  cases i with
  |zero=>simp at hi;subst hi;exact Cell.spot hc
  |succ i=>simp at hi)
 refine⟨x,hx,?_⟩
 have:=eV.rv 0
 rw[hmk] at this
 exact this
theorem Af{t:TypeId}{ts:List TypeId}{d:DataW H}{ds:List (DataW H)}(h:(DataW.weightsEach P (t::ts) (d::ds)).all (· ≤reachBytes)=true):(∀n∈d.weights P t,n≤reachBytes)∧(DataW.weightsEach P ts ds).all (· ≤reachBytes)=true:=by
 simp only[DataW.weightsEach,List.all_append,Bool.and_eq_true] at h
 exact⟨fun n hn=>by simpa using List.all_eq_true.1 h.1 n hn,h.2⟩
theorem Fr.same{W W':World}(h:Fr W W'){p:MemPlace}(hp:p.block<W.heap.size):W.sameAt W' p:=by
 have hb:=h.2.2.2.2 p.block hp
 cases p with
 |cell b off=>simp only[MemPlace.block] at hb;simp only[World.sameAt,World.cell?,hb]
 |map b=>exact hb
theorem adb(hl:laidOutB P=true){W W':World}{sp:Nat→Bool}:∀{ts:List TypeId} {vs:List Value} {ds:List (DataW H)} {ps:List MemPlace},
  (∀t∈ts,P.readableRec t=true∧t<P.types.size)→DataW.TrodAll enc P W 0 (fun _=>true) true ts vs ds ps→(∀p∈ps,W.sameAt W' p)→(∀p∈ps,sp p.block=true)→
  DataW.TrodAll enc P W' 0 sp true ts vs ds ps
 |[],vs,ds,ps,_,h,_,_=>by
  obtain⟨rfl,rfl,rfl⟩:=trodAll_nil h
  exact trodAll_mk0
 |t::ts,vs,ds,ps,ht,h,hs,hp=>by
  obtain⟨v,vs',d,ds',p,q,rfl,rfl,rfl,h1,h2⟩:=trodAll_cons h
  exact⟨p,q,WideElems.Trod_stays hl (ht t (by simp)).1 (ht t (by simp)).2 h1 (fun x hx=>hs x (by simp[hx])) (fun x hx=>hp x (by simp[hx])),adb hl (fun u hu=>ht u (by simp[hu])) h2 (fun x hx=>hs x (by simp[hx])) (fun x hx=>hp x (by simp[hx])),rfl⟩
theorem R8{f:Func}{s:ChangeSpec}{tb:TypeId}(hl:laidOutB P=true)(hb:P.underlying tb=some .bool)(hrt:f.resultTypes= #[tb])(hts:∀t∈f.params.toList,P.readableRec t=true∧t<P.types.size)(hsv:s.vars=[])
  {W W':World}{args:Array Value}{ds:List (DataW H)}{before:List MemPlace}(hfn:(s.fn H (ds++[])).results=[.lit (.bool true)]∧(s.fn H (ds++[])).args=ds∧(s.fn H (ds++[])).vars=[])
  (hW:DataW.Whole enc P f.params.toList s.vars false W args.toList ds [] before)(hF:Fr W W'):
  s.post enc P f false true false false W args (.bool true) W':=by
 have hlt:=hW.lt
 have Ag:=hW
 obtain⟨p,q,hA,hV,rfl,hfz,dU⟩:=Ag
 rw[hsv] at hV
 obtain⟨_,rfl⟩:=trodVars_none hV
 refine adP (pa:=p) (pv:=[]) hW ?_ ?_ ?_ rfl (hF.kept _) hF.frozen ?_
 ·intro b sp hd
  rw[hfn.1,hrt]
  exact trodAll_cons_mk (shut_bool hb _) trodAll_mk0
 ·intro sp hsp
  rw[hfn.2.1]
  exact adb hl hts hA (fun x hx=>hF.same (hlt x (by simp[hx]))) (fun x hx=>hsp x (by simp[hx]))
 ·intro sp _
  rw[hfn.2.2,hsv]
  rfl
 ·exact ok_one hrt rfl (okWide_bool_mk hb _)
theorem R9{f:FuncId}{xs:List AV}(h:aG P f xs (.lit (.bool true))){w:World}{args:Array Value}(hs:args.size=xs.length)(hr:∀i,RV w (Old w) (xs.getD i .any) (args.getD i undef)):Calls P f args w fun e w'=>e=.returned (.bool true)∧Fr w w':=by
 refine(h.2 w (Old w) args (fun _ _ h=>h) hs hr).mono ?_
 rintro e w' ⟨v,A',rfl,hf,_,_,hr⟩
 exact⟨by rw[hr.k9],hf⟩
end Go.Z4
namespace Go.Z4
abbrev ci(n:Int):ai:=.c (.lit (.int .i64 n))
abbrev cb(b:Bool):ai:=.c (.lit (.bool b))
def aI(P:Program)(k:Nat)(a:cn):Option (Option aA×Option (List aF)×Bool×Nat):=(P.funcs[k]?).map fun fn=>(fn.body.bind (de P a fn.ntmps),e_ P fn.results.toList,aaP P k,fn.ntmps)
variable {P:Program}
theorem aI.of{k N:Nat}{a:cn}{m:aA}{rs:List aF}(h:aI P k a=some (some m,some rs,true,N)):∃fn,P.funcs[k]? =some fn∧fn.body.bind (de P a fn.ntmps)=some m∧e_ P fn.results.toList=some rs∧aaP P k=true∧fn.ntmps=N:=by
 unfold aI at h
 cases hf:P.funcs[k]? with
 |none=>rw[hf] at h;cases h
 |some fn=>
  rw[hf,Option.map_some] at h
  simp only[Option.some.injEq,Prod.mk.injEq] at h
  exact⟨fn,rfl,h.1,h.2.1,h.2.2.1,h.2.2.2⟩
theorem pc{k N:Nat}{a:cn}{m:aA}{rs:List aF}{xs:List AV}{r:AV}(h:aI P k a=some (some m,some rs,true,N))(hl:xs.length≤N∧N≤1000000)(hv:(∀i,Fits (xs.getD i .any))→br P m (fun s=>fc s rs fun ys=>r=fD ys) (fun _ _=>False) (fun s=>fc s rs fun ys=>r=fD ys) ⟨cO xs,fun _=>none⟩):aG P k xs r:=by
 obtain⟨fn,h1,h2,h3,h4,h5⟩:=aI.of h
 exact EE h1 h2 h3 h4 (by rw[h5];exact hl) hv
theorem ic{k N:Nat}{a:cn}{m:aA}{rs:List aF}{xs:List AV}{s:St}{K:AV→St→Prop}(h:aI P k a=some (some m,some rs,true,N))(hl:xs.length≤N∧N≤1000000)(hv:(∀i,Fits (xs.getD i .any))→br P m (fun s2=>eN s2 rs fun r=>K r (back s s2)) (fun _ _=>False) (fun s2=>eN s2 rs fun r=>K r (back s s2)) ⟨fun k=>if gS≤k then s.env k else cO xs k,s.loc⟩):d_ P k xs s K:=by
 obtain⟨fn,h1,h2,h3,h4,h5⟩:=aI.of h
 exact fy h1 h2 h3 h4 (by rw[h5];exact hl) hv
theorem ps{k N:Nat}{a:cn}{m:aA}{first cap:List AV}{xs:List (List AV)}(h:aI P k a=some (some m,some [],true,N))(hl:first.length+1+cap.length≤N∧N≤1000000)(hv:∀l,(∀i,Fits ((first++[AV.func (.yield l) [] []]++cap).getD i .any))→br P m (fun s=>∃rest b,s.env gS=.ghost l rest b∧(b=true∨rest=[])) (fun _ _=>False) (fun s=>∃rest b,s.env gS=.ghost l rest b∧(b=true∨rest=[])) ((St.mk (cO (first++[AV.func (.yield l) [] []]++cap)) fun _=>none).set gS (.ghost l xs false))):aa4 P k first cap xs:=by
 obtain⟨fn,h1,h2,h3,h4,h5⟩:=aI.of h
 exact EF h1 h2 h3 h4 (by rw[h5];exact hl) hv
end Go.Z4
