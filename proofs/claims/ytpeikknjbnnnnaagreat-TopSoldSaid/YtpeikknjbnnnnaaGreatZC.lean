/- Control, loops, and a function's contract. A function's results; contracts of functions and of iterators out of their resolved code. The contract of a call that is part of its caller's party, out of the function's resolved code. The rules by which a walk over resolved code goes: one head for each operation that looks at its operands. From a contract in the layer Avm to the row's own words. From a law's arguments, as the model reads them, to abstract values. A law's arguments: what they say, and that they read behind the call as they did. One fact for a function's resolved code, and its contract out of it. -/
import Derived.Test.YtpeikknjbnnnnaaGreatZB
import Derived.ProofKit
import Derived.OpenShut
import Derived.Carry
namespace Go.az
open Go.RowKit
inductive aC where
 |skip
 |af (ms:List Yr)
 |seq (x y:aC)
 |cond (t:ai) (x y:aC)
 |block (id:Nat) (c:aC)
 |loop (c:aC)
 |exit (id:Nat)
 |ret
 |oc (x:ai) (ps:List Nat) (assign body:aC)
 |vt (x:ai) (pos:Nat) (ps:List Nat) (assign body:aC)
 deriving Inhabited
def qS(s s1:St):Prop:=(∀k,gS≤k→s1.env k=s.env k)∧∀(N:Nat) (a:Act) (w:World) (A:aJ) (sp:Sp),RS N s a w A sp→∃A1 YM,RS N s1 a w A1 YM∧Ev w A (live s.loc sp) w A1 (live s1.loc YM)
theorem qS.refl(s:St):qS s s:=⟨fun _ _=>rfl,fun _ _ _ A sp h=>⟨A,sp,h,.refl _ _ _⟩⟩
def OA(body:(St→Prop)→St→Prop)(s:St):Prop:=∃I:Nat→St→Prop,(∃n s1,qS s s1∧I n s1)∧∀n s,I n s→body (fun s'=>∃m s1,m<n∧qS s' s1∧I m s1) s
def Ez(P:Program)(f:FuncId)(first cap:List AV)(np:Nat)(s:St)(y8:(Nat→St→Prop)→Nat→List AV→St→Prop)(kn:St→Prop):Prop:=∃xs,lV P f first cap xs∧(∀y∈xs,y.length=np∧noMark y=true)∧∃I:Nat→St→Prop,I 0 (back s s)∧(∀k st,k<xs.length→st=back s st→I k st→y8 I k (xs.getD k []) st)∧(∀st,st=back s st→I xs.length st→kn st)
def EA(P:Program)(f:FuncId)(first cap:List AV)(pos:Nat)(s:St)(y8:(Nat→St→Prop)→Nat→AV→St→Prop)(kn:St→Prop):Prop:=∃xs:List AV,lV P f first cap (xs.map fun x=>[x,mark pos])∧∃I:Nat→St→Prop,I 0 (back s s)∧(∀k st,k<xs.length→st=back s st→I k st→y8 I k (xs.getD k .any) st)∧(∀st,st=back s st→I xs.length st→kn st)
def bz(P:Program):aC→(St→Prop)→(Nat→St→Prop)→(St→Prop)→St→Prop
 |.skip,kn,_,_,s=>kn s
 |.af ms,kn,_,_,s=>vcs P ms kn s
 |.seq x y,kn,ke,kr,s=>bz P x (bz P y kn ke kr) ke kr s
 |.cond t x y,kn,ke,kr,s=>match t.ev s.env with
  |.lit (.bool b)=>(b=true→bz P x kn ke kr s)∧(b=false→bz P y kn ke kr s)
  |_=>False
 |.block id c,kn,ke,kr,s=>bz P c kn (fun i s=>if i=id then kn s else ke i s) kr s
 |.loop c,_,ke,kr,s=>OA (fun kn s=>bz P c kn ke kr s) s
 |.exit id,_,ke,_,s=>ke id s
 |.ret,_,_,kr,s=>kr s
 |.oc x ps assign body,kn,ke,kr,s=>match x.ev s.env with
  |.func (.func f) first cap=>Ez P f first cap ps.length s (fun I k y st=>bz P assign (bz P body (fun s2=>I (k+1) (back s s2)) (fun i s2=>ke i (back s s2)) (fun s2=>kr (back s s2))) (fun _ _=>False) (fun _=>False) (params st ps y)) kn
  |_=>False
 |.vt x pos ps assign body,kn,ke,kr,s=>match x.ev s.env with
  |.func (.func f) first cap=>EA P f first cap pos s (fun I k y st=>∀b sz len cap cs,st.loc b=none→ZK y pos sz len cap cs→bz P assign (bz P body (fun s2=>s2.loc b=some cs∧I (k+1) (back s (s2.del b))) (fun i s2=>s2.loc b=some cs∧ke i (back s (s2.del b))) (fun s2=>s2.loc b=some cs∧kr (back s (s2.del b)))) (fun _ _=>False) (fun _=>False) (params (st.new b cs) ps [putAt y pos (.aP b 0 len cap sz)])) kn
  |_=>False
def OB(aE:cv):Operand→Option Nat
 |.tmp t=>match look aE.rl t 0 with
  |0=>none
  |pos+1=>some pos
 |_=>none
def dK(P:Program)(aE:cv)(N:Nat):Code→Option aC
 |.skip=>some .skip
 |.region id ops false=>(vl (nU P aE N) P aE N ops ops.toList).map fun ms=>.af ((fzs aE N (id+1000000)).map .Yu++(ms++(fzs aE N id).map .Yu))
 |.region id ops true=>(y6 (sJ P aE N) P aE N id ops).map fun ms=>.af (ms++(fzs aE N id).map .Yu)
 |.seq x y=>match dK P aE N x,dK P aE N y with
  |some x,some y=>some (.seq x y)
  |_,_=>none
 |.cond t x y=>match aD t,dK P aE N x,dK P aE N y with
  |some t,some x,some y=>some (.cond t x y)
  |_,_,_=>none
 |.block id c=>(dK P aE N c).map (.block id)
 |.loop c=>(dK P aE N c).map .loop
 |.exit id=>some (.exit id)
 |.ret=>some .ret
 |.scope c=>dK P aE N c
 |.label _=>some .skip
 |.rangeFunc g ps assign body=>match aD g,dK P aE N assign,dK P aE N body with
  |some x,some y,some z=>if ps.toList.all (· <N) then (match OB aE g with
   |some pos=>if ps.toList.length=1 then some (.vt x pos ps.toList y z) else none
   |none=>some (.oc x ps.toList y z)) else none
  |_,_,_=>none
 |_=>none
def Ends(kn:St→Prop)(ke:Nat→St→Prop)(kr:St→Prop):Exit→St→Prop
 |.normal,s=>kn s
 |.exit i,s=>ke i s
 |.ret,s=>kr s
 |_,_=>False
section
variable {P:Program}
def y9(C:Ctx P)(Pt:List (Nat×Obj))(s:St)(ds:List Deferred)(w:World)(A Lx:aJ)(sp:Sp)(kn:St→Prop)(ke:Nat→St→Prop)(kr:St→Prop):Exit→Act→World→Prop:=fun e a' w'=>∃s' A' Yt sp' dA,(∀p∈Pt,p∈dA)∧GS C dA s' a' w' A' Yt sp'∧Ev w A (join (held s sp) Lx) w' A' (join (held s' sp') Yt)∧(C.ro.isSome=true→a'.defers=ds)∧Ends kn ke kr e s'
def sZ(P:Program)(aE:cv)(c:Code):Prop:=∀(C:Ctx P) (m:aC) (kn:St→Prop) (ke:Nat→St→Prop) (kr:St→Prop) (Pt:List (Nat×Obj)) (s:St) (a:Act) (w:World) (A Lx:aJ) (sp:Sp),C.N≤gS→dK P aE C.N c=some m→GS C Pt s a w A Lx sp→bz P m kn ke kr s→c.wpIn (Fw C.ro) 0 P (y9 C Pt s a.defers w A Lx sp kn ke kr) a w
theorem qT{b:Frame}{a:Act}{k:List Item}{cs:List Frame}{w:World}{c:Code}:step P (lone (b.atR a (.code (.scope c)::k)) cs w)=.next (lone (b.atR a (.code c::.inScope c::k)) cs w):=step_lone_go (by simp[stepG,stepG.exec,Frame.atR])
theorem abF{b:Frame}{a:Act}{k:List Item}{cs:List Frame}{w:World}{c:Code}:step P (lone (b.atR a (.inScope c::k)) cs w)=.next (lone (b.atR a k) cs w):=step_lone_go (by simp[stepG,stepG.exec,Frame.atR])
theorem OD{F:Fence}{n:Nat}{Q:Exit→Act→World→Prop}{a:Act}{w:World}{c:Code}(hQ:∀l a w,¬Q (.goto l) a w)(h:c.wpIn F n P Q a w):(Code.scope c).wpIn F n P Q a w:=by
 intro b k cs hro hb hr
 have h0:(lone (b.atR a (.code (.scope c)::k)) cs w).fenced P F:=fenced_calm hb hr rfl
 obtain⟨e,a₁,w₁,hq,Zu⟩:=h b (.inScope c::k) cs hro hb hr
 cases e with
 |normal=>exact⟨.normal,a₁,w₁,hq,.head h0 qT (StepsIn.trans Zu (.one (fenced_calm hb hr rfl) abF))⟩
 |exit id=>
  have hx:exitTo id (.inScope c::k)=exitTo id k:=by simp[exitTo]
  exact⟨.exit id,a₁,w₁,hq,fun k' hk=>.head h0 qT (Zu.1 k' (by rw[hx];exact hk)),fun hr' hk=>let ⟨k₁,h1,h2⟩:=Zu.2 hr' (by rw[hx];exact hk);⟨k₁,h1,.head h0 qT h2⟩⟩
 |goto l=>exact absurd hq (hQ l _ _)
 |ret=>exact⟨_,a₁,w₁,hq,.of_steps (.one h0 qT) Zu⟩
 |panic ch=>exact⟨_,a₁,w₁,hq,.of_steps (.one h0 qT) Zu⟩
 |outgrown=>exact⟨_,a₁,w₁,hq,.of_steps (.one h0 qT) Zu⟩
abbrev Ys(fn:FuncId)(t0:Array Value)(ps:Array Tmp)(assign body:Code)(dl:Nat)(st:LoopState)(pe:Option Code):Loop:={state:=st,pending:=pe,fn,tmps:=t0,params:=ps,assign,body,defers:=dl}
def aac(C:Ctx P)(s0:St)(t0:Array Value)(gn:List Deferred)(l:Nat)(rc:LoopState→Option Code→Loop)(Pm:List (Nat×Obj))(xs:List (List AV))(I:Nat→St→Prop)(ke:Nat→St→Prop)(kr:St→Prop):AV→World→aJ→aJ→Prop
 |.ghost l' rest false,w,A,L=>l'=l∧∃k,k≤xs.length∧rest=xs.drop k∧∃st sp Lx,GS C ((l,.loop (rc .ready none))::Pm) st ⟨t0,gn⟩ w A Lx sp∧st=back s0 st∧I k st∧L=full st sp Lx ((l,.loop (rc .ready none))::Pm)
 |.ghost l' _ true,w,A,L=>l'=l∧∃c st sp Lx,GS C ((l,.loop (rc .done (some c)))::Pm) st ⟨t0,gn⟩ w A Lx sp∧st=back s0 st∧((∃i,c=.exit i∧ke i st)∨(c=.ret∧kr st))∧L=full st sp Lx ((l,.loop (rc .done (some c)))::Pm)
 |_,_,_,_=>False
theorem EB{C:Ctx P}{s0:St}{t0:Array Value}{gn:List Deferred}{l:Nat}{rc:LoopState→Option Code→Loop}{Pm:List (Nat×Obj)}{xs:List (List AV)}{I:Nat→St→Prop}{ke:Nat→St→Prop}{kr:St→Prop}:xy (aac C s0 t0 gn l rc Pm xs I ke kr):=by
 intro gh w w' A A' L hx hk
 unfold aac at hx⊢
 split at hx
 ·obtain⟨h1,k,h2,h3,st,sp,Lx,h4,h5,h6,rfl⟩:=hx
  exact⟨h1,k,h2,h3,st,sp,Lx,h4.keep hk (fun _ _ h=>.inl (.inl h)) (fun _ _ h=>.inl (.inr h)) (fun p hp _=>.inr ⟨p,hp,rfl⟩),h5,h6,rfl⟩
 ·obtain⟨h1,c,st,sp,Lx,h4,h5,h6,rfl⟩:=hx
  exact⟨h1,c,st,sp,Lx,h4.keep hk (fun _ _ h=>.inl (.inl h)) (fun _ _ h=>.inl (.inr h)) (fun p hp _=>.inr ⟨p,hp,rfl⟩),h5,h6,rfl⟩
 ·exact hx.elim
theorem EC(s:St)(sp:Sp)(Lx:aJ)(l:Nat)(o o':Obj)(Pm:List (Nat×Obj)):full s sp Lx ((l,o)::Pm)=full s sp Lx ((l,o')::Pm):=by simp[full]
theorem OE{aE:cv}{assign body:Code}(qU:sZ P aE assign)(qV:sZ P aE body){C:Ctx P}{s0:St}{t0:Array Value}{gn:List Deferred}{l:Nat}{fn:FuncId}{ps:Array Tmp}{dl:Nat}{Pm:List (Nat×Obj)}
  {xs:List (List AV)}{I:Nat→St→Prop}{ke:Nat→St→Prop}{kr:St→Prop}{ma mb:aC}(aW:C.N≤gS)(hma:dK P aE C.N assign=some ma)(hmb:dK P aE C.N body=some mb)(hps:∀p∈ps.toList,p<C.N)
  (hne:∀p∈Pm,p.1≠l)(hlen:∀y∈xs,y.length=ps.toList.length)
  (hdf:∀d∈gn,∃D,C.B≤D∧d=⟨.collected D,#[]⟩∧(D,.deferred (some []))∈Pm)(hro:∀l,C.ro=some l→∃r,(l,.loop r)∈Pm)(hdn:(gn.map (·.target)).Nodup)
  (jA:∀k st,k<xs.length→st=back s0 st→I k st→bz P ma (bz P mb (fun s2=>I (k+1) (back s0 s2)) (fun i s2=>ke i (back s0 s2)) (fun s2=>kr (back s0 s2))) (fun _ _=>False) (fun _=>False) (params st ps.toList (xs.getD k []))):
  uA P (aac C s0 t0 gn l (Ys fn t0 ps assign body dl) Pm xs I ke kr):=by
 intro l' y rest w A L vs hx hlt Y9 hs hr
 obtain⟨rfl,k,hk,de,st,sp,Lx,hG,hst,hI,rfl⟩:=hx
 have hk':k<xs.length:=by
  rcases Nat.lt_or_ge k xs.length with h|h
  ·exact h
  ·rw[List.drop_of_length_le h] at de;cases de
 rw[List.drop_eq_getElem_cons hk'] at de
 injection de with hy de
 have vu:xs.getD k []=y:=by rw[List.getD_eq_getElem?_getD,List.getElem?_eq_getElem hk',hy];rfl
 have aaM:y.length=ps.toList.length:=hlen y (by rw[hy];exact List.getElem_mem _)
 have hl:=(hG.pt _ (List.mem_cons_self ..)).1
 simp only at hl
 refine⟨fn,_,assign,body,run_yield hl (by simp[hs,aaM]),roundIn_of_wpIn trivial ?_⟩
 let C':Ctx P:={C with ro:=some l'}
 have y_:(ps.zip vs).foldl (fun tmps (x:Tmp×Value)=>match x with|(t,a)=>tmps.setIfInBounds t a) t0=(ps.toList.zip vs.toList).foldl (fun t (p,v)=>t.setIfInBounds p v) t0:=by rw[←Array.foldl_toList,Array.toList_zip]
 have qW:GS C' ((l',.loop (Ys fn t0 ps assign body dl .ready none))::Pm) (params st ps.toList y) ⟨(ps.zip vs).foldl (fun tmps (x:Tmp×Value)=>match x with|(t,a)=>tmps.setIfInBounds t a) t0,[]⟩ w A Lx sp:=by
  have hlt':∀p∈ps.toList,p<gS:=fun p hp=>Nat.lt_of_lt_of_le (hps p hp) aW
  have hg:∀k,gS≤k→(params st ps.toList y).env k=st.env k:=fun k hk=>vp k hk _ _ _ hlt'
  have ho:∀b,(params st ps.toList y).env (oS+b)=st.env (oS+b):=fun b=>hg _ (by simp only[gS,oS];omega)
  refine⟨?_,fun k hk=>by rw[hg k hk];exact hG.ig k hk,hG.lt,by rw[vq _ _ _ _ hlt'];exact hG.ap,hG.av,by rw[hg gS (Nat.le_refl _)];exact hG.x,fun p hp=>by rw[ho];exact hG.pt p hp,fun b=>by rw[ho];exact hG.ob b,fun b o hb=>hG.oa b o (by simp only[YC,ho] at hb;exact hb),hG.bs,List.nodup_nil,by simp,fun l1 e=> ?_⟩
  ·rw[y_]
   exact RS.params ps.toList y vs.toList st t0 hG.rs hps aaM.symm (by simpa using hs) (fun i=>by have:=hr i;simpa[List.getD_eq_getElem?_getD,Array.getD_eq_getD_getElem?] using this)
  ·injection e with e;subst e;exact⟨_,List.mem_cons_self ..⟩
 have hmw:=jA k st hk' hst hI
 rw[vu] at hmw
 refine wpIn_mono (qU C' ma _ _ _ _ _ _ w A Lx sp aW hma qW hmw) ?_
 rintro e a1 w1 ⟨s1,A1,Lx1,YM,OF,hsub,cM,ir,kN,hq⟩
 cases e with
 |normal=>
  have fG:=(cM.pt _ (hsub _ (List.mem_cons_self ..))).1
  refine⟨_,run_beginRound fG rfl,?_⟩
  have eu:GS C' ((l',.loop (Ys fn t0 ps assign body dl .busy none))::Pm) s1 a1 (w1.putObj l' (.loop (Ys fn t0 ps assign body dl .busy none))) A1 Lx1 YM:=by
   refine cM.putObj (hsub _ (List.mem_cons_self ..)) (fun p hp=> ?_) (fun d hd=>by rw[kN rfl] at hd;cases hd) (fun l1 e=> ?_)
   ·rcases List.mem_cons.1 hp with rfl|hp
    ·exact .inl ⟨rfl,rfl⟩
    ·exact .inr ⟨hsub _ (List.mem_cons_of_mem _ hp),hne p hp⟩
   ·injection e with e;subst e;exact⟨_,List.mem_cons_self ..⟩
  refine wpIn_mono (qV C' mb _ _ _ _ s1 a1 _ A1 Lx1 YM aW hmb eu hq) ?_
  rintro e a3 w3 ⟨s3,A3,bP,bT,Pt3,kU,gM,jB,o8,eY⟩
  have iu:=(gM.pt _ (kU _ (List.mem_cons_self ..))).1
  have fin:∀jump:Option Code,GS C ((l',.loop (Ys fn t0 ps assign body dl (if jump.isNone then .ready else .done) jump))::Pm) (back s0 s3) ⟨t0,gn⟩ (w3.putObj l' (.loop (Ys fn t0 ps assign body dl (if jump.isNone then .ready else .done) jump))) A3 bP bT∧Ev w A (full st sp Lx ((l',.loop (Ys fn t0 ps assign body dl .ready none))::Pm)) (w3.putObj l' (.loop (Ys fn t0 ps assign body dl (if jump.isNone then .ready else .done) jump))) A3 (full (back s0 s3) bT bP ((l',.loop (Ys fn t0 ps assign body dl (if jump.isNone then .ready else .done) jump))::Pm)):=by
   intro jump
   have dB:GS C' ((l',.loop (Ys fn t0 ps assign body dl (if jump.isNone then .ready else .done) jump))::Pm) s3 a3 (w3.putObj l' (.loop (Ys fn t0 ps assign body dl (if jump.isNone then .ready else .done) jump))) A3 bP bT:=by
    refine gM.putObj (kU _ (List.mem_cons_self ..)) (fun p hp=> ?_) (fun d hd=>by rw[o8 rfl,kN rfl] at hd;cases hd) (fun l1 e=> ?_)
    ·rcases List.mem_cons.1 hp with rfl|hp
     ·exact .inl ⟨rfl,rfl⟩
     ·exact .inr ⟨kU _ (List.mem_cons_of_mem _ hp),hne p hp⟩
    ·injection e with e;subst e;exact⟨_,List.mem_cons_self ..⟩
   have Z3:Ev w A (full st sp Lx ((l',.loop (Ys fn t0 ps assign body dl .ready none))::Pm)) (w3.putObj l' (.loop (Ys fn t0 ps assign body dl (if jump.isNone then .ready else .done) jump))) A3 (full s3 bT bP ((l',.loop (Ys fn t0 ps assign body dl (if jump.isNone then .ready else .done) jump))::Pm)):=by
    have e1:=ir.qK (fun b _=>∃p∈((l',Obj.loop (Ys fn t0 ps assign body dl .ready none))::Pm),b=p.1)
    have e2:Ev w1 A1 _ (w1.putObj l' (.loop (Ys fn t0 ps assign body dl .busy none))) A1 _:=Ev.putObj w1 A1 (L:=join (join (held s1 YM) Lx1) (fun b _=>∃p∈((l',Obj.loop (Ys fn t0 ps assign body dl .ready none))::Pm),b=p.1)) (l:=l') _ (fun o=>.inr ⟨_,List.mem_cons_self ..,rfl⟩)
    have e3:=jB.qK (fun b _=>∃p∈((l',Obj.loop (Ys fn t0 ps assign body dl .ready none))::Pm),b=p.1)
    have e4:Ev w3 A3 _ (w3.putObj l' (.loop (Ys fn t0 ps assign body dl (if jump.isNone then .ready else .done) jump))) A3 _:=Ev.putObj w3 A3 (L:=join (join (held s3 bT) bP) (fun b _=>∃p∈((l',Obj.loop (Ys fn t0 ps assign body dl .ready none))::Pm),b=p.1)) (l:=l') _ (fun o=>.inr ⟨_,List.mem_cons_self ..,rfl⟩)
    rw[vq _ _ _ _ (fun p hp=>Nat.lt_of_lt_of_le (hps p hp) aW)] at e1
    have e5:=((e1.trans e2).trans e3).trans e4
    rw[EC s3 bT bP l' _ (.loop (Ys fn t0 ps assign body dl .ready none))]
    exact e5
   have hbf:full (back s0 s3) bT bP ((l',.loop (Ys fn t0 ps assign body dl (if jump.isNone then .ready else .done) jump))::Pm)=full s3 bT bP ((l',.loop (Ys fn t0 ps assign body dl (if jump.isNone then .ready else .done) jump))::Pm):=by unfold full;rw[j_]
   rw[hbf]
   refine⟨⟨hG.rs.back hst dB.rs (fun b o v ha hv=>⟨(Z3.cell b o (hG.fJ ha).1 (hG.fJ ha).2).1.trans hv,Z3.sub b o ha⟩) (Z3.kept fun b o ha=>hG.fJ ha) dB.ig,fun k hk=>by rw[iT _ _ hk];exact dB.ig k hk,dB.lt,by rw[j_];exact dB.ap,dB.av,by rw[iT _ _ (Nat.le_refl _)];exact dB.x,fun p hp=>by rw[j9];exact dB.pt p hp,fun b=>by rw[j9];exact dB.ob b,by rw[sY];exact dB.oa,dB.bs,hdn,fun d hd=> ?_,fun l1 e=> ?_⟩,Z3⟩
   ·obtain⟨D,d1,d2,d3⟩:=hdf d hd
    exact⟨D,d1,d2,List.mem_cons_of_mem _ d3⟩
   ·obtain⟨r,hr⟩:=hro l1 e
    exact⟨r,List.mem_cons_of_mem _ hr⟩
  have lN:back s0 s3=back s0 (back s0 s3):=(vr s0 s0 s3).symm
  cases e with
  |normal=>
   obtain⟨f1,f2⟩:=fin none
   exact⟨_,_,run_endRound none iu,true,A3,_,rfl,f2,fun b o=>f1.kT,fun b o=>f1.fJ,rfl,k+1,hk',de,back s0 s3,bT,bP,f1,lN,eY,rfl⟩
  |exit i=>
   obtain⟨f1,f2⟩:=fin (some (.exit i))
   exact⟨_,_,run_endRound (some (.exit i)) iu,false,A3,_,rfl,f2,fun b o=>f1.kT,fun b o=>f1.fJ,rfl,.exit i,back s0 s3,bT,bP,f1,lN,.inl ⟨i,rfl,eY⟩,rfl⟩
  |ret=>
   obtain⟨f1,f2⟩:=fin (some .ret)
   exact⟨_,_,run_endRound (some .ret) iu,false,A3,_,rfl,f2,fun b o=>f1.kT,fun b o=>f1.fJ,rfl,.ret,back s0 s3,bT,bP,f1,lN,.inr ⟨rfl,eY⟩,rfl⟩
  |goto t=>exact eY.elim
  |panic ch=>exact eY.elim
  |outgrown=>exact eY.elim
 |exit i=>exact hq.elim
 |ret=>exact hq.elim
 |goto t=>exact hq.elim
 |panic ch=>exact hq.elim
 |outgrown=>exact hq.elim
theorem OG{aE:cv}{assign body:Code}(qU:sZ P aE assign)(qV:sZ P aE body){C:Ctx P}{s0:St}{t0:Array Value}{gn:List Deferred}{l:Nat}{fn:FuncId}{ps:Array Tmp}{dl:Nat}{Pm:List (Nat×Obj)}
  {xs:List AV}{pos:Nat}{I:Nat→St→Prop}{ke:Nat→St→Prop}{kr:St→Prop}{ma mb:aC}(aW:C.N≤gS)(hma:dK P aE C.N assign=some ma)(hmb:dK P aE C.N body=some mb)(hps:∀p∈ps.toList,p<C.N)
  (hne:∀p∈Pm,p.1≠l)(hlen:ps.toList.length=1)
  (hdf:∀d∈gn,∃D,C.B≤D∧d=⟨.collected D,#[]⟩∧(D,.deferred (some []))∈Pm)(hro:∀l,C.ro=some l→∃r,(l,.loop r)∈Pm)(hdn:(gn.map (·.target)).Nodup)
  (jA:∀k st,k<xs.length→st=back s0 st→I k st→∀b sz len cap cs,st.loc b=none→ZK (xs.getD k .any) pos sz len cap cs→bz P ma (bz P mb (fun s2=>s2.loc b=some cs∧I (k+1) (back s0 (s2.del b))) (fun i s2=>s2.loc b=some cs∧ke i (back s0 (s2.del b))) (fun s2=>s2.loc b=some cs∧kr (back s0 (s2.del b)))) (fun _ _=>False) (fun _=>False) (params (st.new b cs) ps.toList [putAt (xs.getD k .any) pos (.aP b 0 len cap sz)])):
  uB P (aac C s0 t0 gn l (Ys fn t0 ps assign body dl) Pm (xs.map fun x=>[x,mark pos]) I ke kr):=by
 intro l' x pos' rest w A L v g sz len cap cs hx hok hlt Y9 fm sS vh ED
 obtain⟨rfl,k,hk,de,st,sp,Lx,lW,hst,hI,rfl⟩:=hx
 rw[List.length_map] at hk
 have hk':k<xs.length:=by
  rcases Nat.lt_or_ge k xs.length with h|h
  ·exact h
  ·rw[List.drop_of_length_le (by simpa using h)] at de;cases de
 rw[List.drop_eq_getElem_cons (by simpa using hk')] at de
 injection de with hy de
 rw[List.getElem_map] at hy
 injection hy with hy1 zb
 injection zb with zb _
 have hpp:=Ov zb
 subst hpp
 have vu:xs.getD k .any=x:=by rw[List.getD_eq_getElem?_getD,List.getElem?_eq_getElem hk',hy1];rfl
 have eD:st.loc g=none:=by
  cases hb:st.loc g with
  |none=>rfl
  |some c=>exact absurd (.inl (.inl (.inl (.inl (by rw[hb];exact fun e=>by cases e))))) (ED 0)
 have hG:=lW.Ox hok.2.2.2.2.2 sS vh ED
 obtain⟨y,vv⟩:∃y,y=[putAt x pos' (.aP g 0 len cap sz)]:=⟨_,rfl⟩
 have aaM:y.length=ps.toList.length:=by rw[vv,hlen];rfl
 have hs:(#[v]:Array Value).size=y.length:=by rw[vv];rfl
 have hr:∀i,RV w A (y.getD i .any) ((#[v]:Array Value).getD i undef):=fun i=>by
  rw[vv]
  cases i with
  |zero=>exact fm
  |succ i=>simp;exact .any _
 obtain⟨vs,hvs⟩:∃vs,vs=(#[v]:Array Value):=⟨_,rfl⟩
 rw[←hvs] at hs hr⊢
 have hl:=(hG.pt _ (List.mem_cons_self ..)).1
 simp only at hl
 refine⟨fn,_,assign,body,run_yield hl (by simp[hs,aaM]),roundIn_of_wpIn trivial ?_⟩
 let C':Ctx P:={C with ro:=some l'}
 have y_:(ps.zip vs).foldl (fun tmps (x:Tmp×Value)=>match x with|(t,a)=>tmps.setIfInBounds t a) t0=(ps.toList.zip vs.toList).foldl (fun t (p,v)=>t.setIfInBounds p v) t0:=by rw[←Array.foldl_toList,Array.toList_zip]
 have qW:GS C' ((l',.loop (Ys fn t0 ps assign body dl .ready none))::Pm) (params (st.new g cs) ps.toList y) ⟨(ps.zip vs).foldl (fun tmps (x:Tmp×Value)=>match x with|(t,a)=>tmps.setIfInBounds t a) t0,[]⟩ w A Lx sp:=by
  have hlt':∀p∈ps.toList,p<gS:=fun p hp=>Nat.lt_of_lt_of_le (hps p hp) aW
  have hg:∀k,gS≤k→(params (st.new g cs) ps.toList y).env k=st.env k:=fun k hk=>vp k hk _ _ _ hlt'
  have ho:∀b,(params (st.new g cs) ps.toList y).env (oS+b)=st.env (oS+b):=fun b=>hg _ (by simp only[gS,oS];omega)
  refine⟨?_,fun k hk=>by rw[hg k hk];exact hG.ig k hk,hG.lt,by rw[vq _ _ _ _ hlt'];exact hG.ap,hG.av,by rw[hg gS (Nat.le_refl _)];exact hG.x,fun p hp=>by rw[ho];exact hG.pt p hp,fun b=>by rw[ho];exact hG.ob b,fun b o hb=>hG.oa b o (by simp only[YC,ho] at hb;exact hb),hG.bs,List.nodup_nil,by simp,fun l1 e=> ?_⟩
  ·rw[y_]
   exact RS.params ps.toList y vs.toList (st.new g cs) t0 hG.rs hps aaM.symm (by simpa using hs) (fun i=>by have:=hr i;simpa[List.getD_eq_getElem?_getD,Array.getD_eq_getD_getElem?] using this)
  ·injection e with e;subst e;exact⟨_,List.mem_cons_self ..⟩
 have hmw:=jA k st hk' hst hI g sz len cap cs eD (by rw[vu];exact hok)
 rw[vu,←vv] at hmw
 refine wpIn_mono (qU C' ma _ _ _ _ _ _ w A Lx sp aW hma qW hmw) ?_
 rintro e a1 w1 ⟨s1,A1,Lx1,YM,OF,hsub,cM,ir,kN,hq⟩
 cases e with
 |normal=>
  have fG:=(cM.pt _ (hsub _ (List.mem_cons_self ..))).1
  refine⟨_,run_beginRound fG rfl,?_⟩
  have eu:GS C' ((l',.loop (Ys fn t0 ps assign body dl .busy none))::Pm) s1 a1 (w1.putObj l' (.loop (Ys fn t0 ps assign body dl .busy none))) A1 Lx1 YM:=by
   refine cM.putObj (hsub _ (List.mem_cons_self ..)) (fun p hp=> ?_) (fun d hd=>by rw[kN rfl] at hd;cases hd) (fun l1 e=> ?_)
   ·rcases List.mem_cons.1 hp with rfl|hp
    ·exact .inl ⟨rfl,rfl⟩
    ·exact .inr ⟨hsub _ (List.mem_cons_of_mem _ hp),hne p hp⟩
   ·injection e with e;subst e;exact⟨_,List.mem_cons_self ..⟩
  refine wpIn_mono (qV C' mb _ _ _ _ s1 a1 _ A1 Lx1 YM aW hmb eu hq) ?_
  rintro e a3 w3 ⟨s3,A3,bP,bT,Pt3,kU,gM,jB,o8,eY⟩
  have iu:=(gM.pt _ (kU _ (List.mem_cons_self ..))).1
  have fin:∀jump:Option Code,s3.loc g=some cs→GS C ((l',.loop (Ys fn t0 ps assign body dl (if jump.isNone then .ready else .done) jump))::Pm) (back s0 (s3.del g)) ⟨t0,gn⟩ (w3.putObj l' (.loop (Ys fn t0 ps assign body dl (if jump.isNone then .ready else .done) jump))) A3 bP bT∧Ev w A (join (full st sp Lx ((l',.loop (Ys fn t0 ps assign body dl .ready none))::Pm)) (ZI g)) (w3.putObj l' (.loop (Ys fn t0 ps assign body dl (if jump.isNone then .ready else .done) jump))) A3 (join (full (back s0 (s3.del g)) bT bP ((l',.loop (Ys fn t0 ps assign body dl (if jump.isNone then .ready else .done) jump))::Pm)) (ZI g))∧qj (w3.putObj l' (.loop (Ys fn t0 ps assign body dl (if jump.isNone then .ready else .done) jump))) A3 g cs∧(∀o,¬A3 g o)∧∀o,¬full (back s0 (s3.del g)) bT bP ((l',.loop (Ys fn t0 ps assign body dl (if jump.isNone then .ready else .done) jump))::Pm) g o:=by
   intro jump kV
   have dB:GS C' ((l',.loop (Ys fn t0 ps assign body dl (if jump.isNone then .ready else .done) jump))::Pm) s3 a3 (w3.putObj l' (.loop (Ys fn t0 ps assign body dl (if jump.isNone then .ready else .done) jump))) A3 bP bT:=by
    refine gM.putObj (kU _ (List.mem_cons_self ..)) (fun p hp=> ?_) (fun d hd=>by rw[o8 rfl,kN rfl] at hd;cases hd) (fun l1 e=> ?_)
    ·rcases List.mem_cons.1 hp with rfl|hp
     ·exact .inl ⟨rfl,rfl⟩
     ·exact .inr ⟨kU _ (List.mem_cons_of_mem _ hp),hne p hp⟩
    ·injection e with e;subst e;exact⟨_,List.mem_cons_self ..⟩
   have Z3:Ev w A (full (st.new g cs) sp Lx ((l',.loop (Ys fn t0 ps assign body dl .ready none))::Pm)) (w3.putObj l' (.loop (Ys fn t0 ps assign body dl (if jump.isNone then .ready else .done) jump))) A3 (full s3 bT bP ((l',.loop (Ys fn t0 ps assign body dl (if jump.isNone then .ready else .done) jump))::Pm)):=by
    have e1:=ir.qK (fun b _=>∃p∈((l',Obj.loop (Ys fn t0 ps assign body dl .ready none))::Pm),b=p.1)
    have e2:Ev w1 A1 _ (w1.putObj l' (.loop (Ys fn t0 ps assign body dl .busy none))) A1 _:=Ev.putObj w1 A1 (L:=join (join (held s1 YM) Lx1) (fun b _=>∃p∈((l',Obj.loop (Ys fn t0 ps assign body dl .ready none))::Pm),b=p.1)) (l:=l') _ (fun o=>.inr ⟨_,List.mem_cons_self ..,rfl⟩)
    have e3:=jB.qK (fun b _=>∃p∈((l',Obj.loop (Ys fn t0 ps assign body dl .ready none))::Pm),b=p.1)
    have e4:Ev w3 A3 _ (w3.putObj l' (.loop (Ys fn t0 ps assign body dl (if jump.isNone then .ready else .done) jump))) A3 _:=Ev.putObj w3 A3 (L:=join (join (held s3 bT) bP) (fun b _=>∃p∈((l',Obj.loop (Ys fn t0 ps assign body dl .ready none))::Pm),b=p.1)) (l:=l') _ (fun o=>.inr ⟨_,List.mem_cons_self ..,rfl⟩)
    rw[vq _ _ _ _ (fun p hp=>Nat.lt_of_lt_of_le (hps p hp) aW)] at e1
    have e5:=((e1.trans e2).trans e3).trans e4
    rw[EC s3 bT bP l' _ (.loop (Ys fn t0 ps assign body dl .ready none))]
    exact e5
   have hbf:full (back s0 (s3.del g)) bT bP ((l',.loop (Ys fn t0 ps assign body dl (if jump.isNone then .ready else .done) jump))::Pm)=full (s3.del g) bT bP ((l',.loop (Ys fn t0 ps assign body dl (if jump.isNone then .ready else .done) jump))::Pm):=by unfold full;rw[j_]
   obtain⟨u1,u2,u3⟩:=dB.Oz kV
   have hU:=dB.Oy g
   have EE:=Z3
   rw[Ey,Ow bT bP _ kV] at EE
   rw[hbf]
   refine⟨⟨lW.rs.back hst hU.rs (fun b o v ha hv=>⟨(Z3.cell b o (hG.fJ ha).1 (hG.fJ ha).2).1.trans hv,Z3.sub b o ha⟩) (Z3.kept fun b o ha=>hG.fJ ha) hU.ig,fun k hk=>by rw[iT _ _ hk];exact hU.ig k hk,hU.lt,by rw[j_];exact hU.ap,hU.av,by rw[iT _ _ (Nat.le_refl _)];exact hU.x,fun p hp=>by rw[j9];exact hU.pt p hp,fun b=>by rw[j9];exact hU.ob b,by rw[sY];exact hU.oa,hU.bs,hdn,fun d hd=> ?_,fun l1 e=> ?_⟩,EE,u1,u2,u3⟩
   ·obtain⟨D,d1,d2,d3⟩:=hdf d hd
    exact⟨D,d1,d2,List.mem_cons_of_mem _ d3⟩
   ·obtain⟨r,hr⟩:=hro l1 e
    exact⟨r,List.mem_cons_of_mem _ hr⟩
  have lN:back s0 (s3.del g)=back s0 (back s0 (s3.del g)):=(vr s0 s0 (s3.del g)).symm
  cases e with
  |normal=>
   obtain⟨f1,f2,f3,f4,f5⟩:=fin none eY.1
   exact⟨_,_,run_endRound none iu,true,A3,_,rfl,f2,fun b o=>f1.kT,fun b o=>f1.fJ,f4,f5,f3,rfl,k+1,by rw[List.length_map];exact hk',de,back s0 (s3.del g),bT,bP,f1,lN,eY.2,rfl⟩
  |exit i=>
   obtain⟨f1,f2,f3,f4,f5⟩:=fin (some (.exit i)) eY.1
   exact⟨_,_,run_endRound (some (.exit i)) iu,false,A3,_,rfl,f2,fun b o=>f1.kT,fun b o=>f1.fJ,f4,f5,f3,rfl,.exit i,back s0 (s3.del g),bT,bP,f1,lN,.inl ⟨i,rfl,eY.2⟩,rfl⟩
  |ret=>
   obtain⟨f1,f2,f3,f4,f5⟩:=fin (some .ret) eY.1
   exact⟨_,_,run_endRound (some .ret) iu,false,A3,_,rfl,f2,fun b o=>f1.kT,fun b o=>f1.fJ,f4,f5,f3,rfl,.ret,back s0 (s3.del g),bT,bP,f1,lN,.inr ⟨rfl,eY.2⟩,rfl⟩
  |goto t=>exact eY.elim
  |panic ch=>exact eY.elim
  |outgrown=>exact eY.elim
 |exit i=>exact hq.elim
 |ret=>exact hq.elim
 |goto t=>exact hq.elim
 |panic ch=>exact hq.elim
 |outgrown=>exact hq.elim
theorem OH{C:Ctx P}{s0:St}{t0:Array Value}{gn:List Deferred}{l:Nat}{rc:LoopState→Option Code→Loop}{Pm:List (Nat×Obj)}{xs:List AV}{pos:Nat}{I:Nat→St→Prop}{ke:Nat→St→Prop}{kr:St→Prop}:uA P (aac C s0 t0 gn l rc Pm (xs.map fun x=>[x,mark pos]) I ke kr):=by
 intro l' y rest w A L vs hx hlt Y9 hs hr
 obtain⟨_,k,_,de,_⟩:=hx
 have hm:y∈xs.map fun x=>[x,mark pos]:=List.mem_of_mem_drop (by rw[←de];exact List.mem_cons_self ..)
 obtain⟨x,_,rfl⟩:=List.mem_map.1 hm
 have h1:=hr 1
 generalize vs.getD 1 undef=v at h1
 replace h1:RV w A (mark pos) v:=h1
 unfold mark at h1
 cases h1 with
 |lit _ hf=>cases hf
theorem OI{C:Ctx P}{s0:St}{t0:Array Value}{gn:List Deferred}{l:Nat}{rc:LoopState→Option Code→Loop}{Pm:List (Nat×Obj)}{xs:List (List AV)}{I:Nat→St→Prop}{ke:Nat→St→Prop}{kr:St→Prop}(hnm:∀y∈xs,noMark y=true):uB P (aac C s0 t0 gn l rc Pm xs I ke kr):=by
 intro l' x pos rest w A L v b sz len cap cs hx
 obtain⟨_,k,_,de,_⟩:=hx
 have hm:[x,mark pos]∈xs:=List.mem_of_mem_drop (by rw[←de];exact List.mem_cons_self ..)
 have:=hnm _ hm
 simp[noMark,mark] at this
theorem GS.qX{C:Ctx P}{Pt dA:List (Nat×Obj)}{s s':St}{a a':Act}{w w':World}{A A' Lx Yt:aJ}{sp sp':Sp}(h:GS C Pt s a w A Lx sp)(h':GS C dA s' a' w' A' Yt sp')(hsub:∀p∈Pt,p∈dA)(aL:Ev w A (full s sp Lx Pt) w' A' (full s' sp' Yt dA)):Ev w A (join (held s sp) Lx) w' A' (join (held s' sp') Yt):=by
 refine⟨aL.os,aL.tape,aL.output,aL.size,fun b o hb hl=> ?_,fun b hb hl=> ?_,aL.sub,fun b o ha=> ?_⟩
 ·by_cases hT:∃p∈Pt,b=p.1
  ·obtain⟨p,hp,rfl⟩:=hT
   obtain⟨g1,g2,_⟩:=h.pt p hp
   obtain⟨g3,_,g4,_⟩:=h'.pt p (hsub p hp)
   exact⟨by rw[yB g1 g2,yB g3 g2],fun hj=>by rcases hj with hj|hj;exact h'.aak (hsub p hp) o hj;exact g4 o hj⟩
  ·obtain⟨g1,g2⟩:=aL.cell b o hb (fun hf=>by rcases hf with hf|hf;exact hl hf;exact hT hf)
   exact⟨g1,fun hj=>g2 (.inl hj)⟩
 ·by_cases hT:∃p∈Pt,b=p.1
  ·obtain⟨p,hp,rfl⟩:=hT
   exact(h'.pt p (hsub p hp)).1.trans (h.pt p hp).1.symm
  ·exact aL.block b hb fun o hf=>by rcases hf with hf|hf;exact hl o hf;exact hT hf
 ·rcases aL.sup b o ha with g|g|g
  ·exact .inl g
  ·rcases g with g|⟨p,hp,rfl⟩
   ·exact .inr (.inl g)
   ·exact absurd ha ((h'.pt p (hsub p hp)).2.2.2.1 o)
  ·exact .inr (.inr g)
theorem EF{C:Ctx P}{Pt:List (Nat×Obj)}{s:St}{a:Act}{w:World}{A Lx:aJ}{sp:Sp}(h:GS C Pt s a w A Lx sp)(fn:FuncId)(ps:Array Tmp)(assign body:Code):
  ∃l mark dl Pm w1,(Instr.enterLoop fn a.tmps ps assign body C.ro).run P w=.ok (l,mark) w1∧GS C ((l,.loop (Ys fn a.tmps ps assign body dl .ready none))::Pm) s ⟨a.tmps,mark++a.defers⟩ w1 A Lx sp∧
   (∀p∈Pm,p.1≠l)∧(∀p∈Pt,p∈Pm)∧(∀d∈mark++a.defers,∃D,C.B≤D∧d=⟨.collected D,#[]⟩∧(D,.deferred (some []))∈Pm)∧(C.ro.isSome=true→mark=[])∧(∀l,C.ro=some l→∃r,(l,.loop r)∈Pm)∧
   Ev w A (full s sp Lx Pt) w1 A (full s sp Lx ((l,.loop (Ys fn a.tmps ps assign body dl .ready none))::Pm)):=by
 cases hro:C.ro with
 |none=>
  refine⟨w.heap.size+1,[{target:=.collected w.heap.size,args:= #[]}],w.heap.size,(w.heap.size,.deferred (some []))::Pt,_,run_enterLoop_outer fn a.tmps ps assign body,?_,?_,fun p hp=>List.mem_cons_of_mem _ hp,?_,fun e=>by simp at e,fun l e=>by simp at e,?_⟩
  ·have h1:=h.lay (ob:=.deferred (some [])) rfl
   have h2:=h1.lay (ob:=.loop (Ys fn a.tmps ps assign body w.heap.size .ready none)) rfl
   rw[Y8] at h2
   refine⟨h2.rs,h2.ig,h2.lt,h2.ap,h2.av,h2.x,h2.pt,h2.ob,h2.oa,h2.bs,?_,fun d hd=> ?_,h2.ro⟩
   ·simp only[List.cons_append,List.nil_append,List.map_cons]
    refine List.nodup_cons.2 ⟨fun hm=> ?_,h.dn⟩
    obtain⟨d,hd,e⟩:=List.mem_map.1 hm
    obtain⟨D,d1,d2,d3⟩:=h.df d hd
    rw[d2] at e
    injection e with e
    subst e
    exact absurd (cn (h.pt _ d3).1) (Nat.lt_irrefl _)
   ·rcases List.mem_cons.1 hd with rfl|hd
    ·exact⟨_,h.bs,rfl,List.mem_cons_of_mem _ (List.mem_cons_self ..)⟩
    ·obtain⟨D,d1,d2,d3⟩:=h.df d hd
     exact⟨D,d1,d2,List.mem_cons_of_mem _ (List.mem_cons_of_mem _ d3)⟩
  ·intro p hp
   rcases List.mem_cons.1 hp with rfl|hp
   ·simp
   ·have:=cn (h.pt p hp).1;omega
  ·intro d hd
   rcases List.mem_cons.1 hd with rfl|hd
   ·exact⟨_,h.bs,rfl,List.mem_cons_self ..⟩
   ·obtain⟨D,d1,d2,d3⟩:=h.df d hd
    exact⟨D,d1,d2,List.mem_cons_of_mem _ d3⟩
  ·have e1:=h.aaE (.deferred (some [])) (full s sp Lx Pt) (fun b o hl=>h.kT hl) (full s sp Lx ((w.heap.size,.deferred (some []))::Pt)) (fun b o ht=>by
    rcases ht with ht|⟨p,hp,rfl⟩
    ·exact .inl (.inl ht)
    ·rcases List.mem_cons.1 hp with rfl|hp
     ·exact .inr rfl
     ·exact .inl (.inr ⟨p,hp,rfl⟩))
   have h1:=h.lay (ob:=.deferred (some [])) rfl
   have e2:=h1.aaE (.loop (Ys fn a.tmps ps assign body w.heap.size .ready none)) (full s sp Lx ((w.heap.size,.deferred (some []))::Pt)) (fun b o hl=>h1.kT hl)
    (full s sp Lx ((w.heap.size+1,.loop (Ys fn a.tmps ps assign body w.heap.size .ready none))::(w.heap.size,.deferred (some []))::Pt)) (fun b o ht=>by
    rcases ht with ht|⟨p,hp,rfl⟩
    ·exact .inl (.inl ht)
    ·rcases List.mem_cons.1 hp with rfl|hp
     ·exact .inr (by rw[Y8])
     ·exact .inl (.inr ⟨p,hp,rfl⟩))
   exact e1.trans e2
 |some l0=>
  obtain⟨r0,dO⟩:=h.ro l0 hro
  refine⟨w.heap.size,[],r0.defers,Pt,_,run_enterLoop_inner (h.pt _ dO).1 fn a.tmps ps assign body,?_,?_,fun p hp=>hp,h.df,fun _=>rfl,fun l e=>by injection e with e;subst e;exact⟨r0,dO⟩,?_⟩
  ·exact h.lay rfl
  ·intro p hp
   have:=cn (h.pt p hp).1;omega
  ·exact h.aaE _ (full s sp Lx Pt) (fun b o hl=>h.kT hl) _ (fun b o ht=>by
    rcases ht with ht|⟨p,hp,rfl⟩
    ·exact .inl (.inl ht)
    ·rcases List.mem_cons.1 hp with rfl|hp
     ·exact .inr rfl
     ·exact .inl (.inr ⟨p,hp,rfl⟩))
theorem zc{aE:cv}:∀c:Code,sZ P aE c:=by
 intro c
 induction c with
 |skip=>
  intro C m kn ke kr Pt s a w A Lx sp aW hm h hv
  injection hm with hm;subst hm
  exact wpIn_skip ⟨s,A,Lx,sp,Pt,fun _ h=>h,h,.refl _ _ _,fun _=>rfl,hv⟩
 |label l=>
  intro C m kn ke kr Pt s a w A Lx sp aW hm h hv
  injection hm with hm;subst hm
  exact wpIn_label ⟨s,A,Lx,sp,Pt,fun _ h=>h,h,.refl _ _ _,fun _=>rfl,hv⟩
 |scope c ih=>
  intro C m kn ke kr Pt s a w A Lx sp aW hm h hv
  exact OD (fun l a w hq=>by obtain⟨_,_,_,_,_,_,_,_,_,hq⟩:=hq;exact hq.elim) (ih C m kn ke kr Pt s a w A Lx sp aW hm h hv)
 |region id ops draw=>
  intro C m kn ke kr Pt s a w A Lx sp aW hm h hv
  have fin:∀s' a' w' A' Yt sp',vcs P ((fzs aE C.N id).map .Yu) kn s'→GS C Pt s' a' w' A' Yt sp'→Ev w A (join (held s sp) Lx) w' A' (join (held s' sp') Yt)→a'.defers=a.defers→y9 C Pt s a.defers w A Lx sp kn ke kr .normal a' w':=by
   intro s' a' w' A' Yt sp' hk hr aL hd
   obtain⟨s2,A2,fl,g1,g2,g3⟩:=y7 (fzs aE C.N id) (abm aW) hr hk
   exact⟨s2,A2,Yt,fl,Pt,fun _ h=>h,g2,aL.trans g3,fun _=>hd,g1⟩
  cases draw with
  |true=>
   simp only[dK,Option.map_eq_some_iff] at hm
   obtain⟨ms,fI,rfl⟩:=hm
   simp only[bz,vo] at hv
   exact Oi (Om aE C.N) aW fI h hv fin
  |false=>
   simp only[dK,Option.map_eq_some_iff] at hm
   obtain⟨ms,fI,rfl⟩:=hm
   simp only[bz] at hv
   rw[vo] at hv
   obtain⟨s2,A2,fl,g1,g2,g3⟩:=y7 (fzs aE C.N (id+1000000)) (abm aW) h hv
   rw[vo] at g1
   exact wpIn_region_list (Et (Ol aE C.N) aW ops.toList ms s2 a w A2 Lx fl fI g2 g1 fun s' a' w' A' Yt sp' hk hr aL hd=>fin s' a' w' A' Yt sp' hk hr (g3.trans aL) hd)
 |seq x y ihx zf=>
  intro C m kn ke kr Pt s a w A Lx sp aW hm h hv
  simp only[dK] at hm
  split at hm
  ·rename_i mx my h1 h2
   injection hm with hm;subst hm
   refine wpIn_seq (wpIn_mono (ihx C mx _ ke kr Pt s a w A Lx sp aW h1 h hv) ?_)
   rintro e a' w' ⟨s',A',Yt,sp',dA,hsub,hr,aL,hd,hq⟩
   cases e with
   |normal=>
    refine wpIn_mono (zf C my kn ke kr dA s' a' w' A' Yt sp' aW h2 hr hq) ?_
    rintro e a2 w2 ⟨s2,A2,lU,fl,Z4,s5,cH,dw,gK,gi⟩
    exact⟨s2,A2,lU,fl,Z4,fun p hp=>s5 p (hsub p hp),cH,aL.trans dw,fun e=>(gK e).trans (hd e),gi⟩
   |exit i=>exact⟨s',A',Yt,sp',dA,hsub,hr,aL,hd,hq⟩
   |ret=>exact⟨s',A',Yt,sp',dA,hsub,hr,aL,hd,hq⟩
   |goto l=>exact hq.elim
   |panic ch=>exact hq.elim
   |outgrown=>exact hq.elim
  ·cases hm
 |cond t x y ihx zf=>
  intro C m kn ke kr Pt s a w A Lx sp aW hm h hv
  simp only[dK] at hm
  split at hm
  ·rename_i t' mx my ht h1 h2
   injection hm with hm;subst hm
   have h3:=(bg h.rs ht).1
   simp only[bz] at hv
   split at hv
   ·rename_i b hb
    rw[hb] at h3
    have EG:a.eval t=.bool b:=h3.lH
    cases b with
    |true=>exact wpIn_cond_true EG (ihx C mx kn ke kr Pt s a w A Lx sp aW h1 h (hv.1 rfl))
    |false=>exact wpIn_cond_false EG (zf C my kn ke kr Pt s a w A Lx sp aW h2 h (hv.2 rfl))
   ·exact hv.elim
  ·cases hm
 |block id c ih=>
  intro C m kn ke kr Pt s a w A Lx sp aW hm h hv
  simp only[dK,Option.map_eq_some_iff] at hm
  obtain⟨mc,o9,rfl⟩:=hm
  refine wpIn_block (wpIn_mono (ih C mc kn _ kr Pt s a w A Lx sp aW o9 h hv) ?_)
  rintro e a' w' ⟨s',A',Yt,sp',dA,hsub,hr,aL,hd,hq⟩
  cases e with
  |normal=>exact⟨s',A',Yt,sp',dA,hsub,hr,aL,hd,hq⟩
  |exit i=>
   simp only[Exit.inBlock]
   simp only[Ends] at hq
   split at hq
   ·rename_i e;rw[if_pos e];exact⟨s',A',Yt,sp',dA,hsub,hr,aL,hd,hq⟩
   ·rename_i e;rw[if_neg e];exact⟨s',A',Yt,sp',dA,hsub,hr,aL,hd,hq⟩
  |ret=>exact⟨s',A',Yt,sp',dA,hsub,hr,aL,hd,hq⟩
  |goto l=>exact hq.elim
  |panic ch=>exact hq.elim
  |outgrown=>exact hq.elim
 |loop c ih=>
  intro C m kn ke kr Pt s a w A Lx sp aW hm h hv
  simp only[dK,Option.map_eq_some_iff] at hm
  obtain⟨mc,o9,rfl⟩:=hm
  obtain⟨I,⟨n1,s1,vn,hI⟩,jA⟩:=hv
  have EH:∀{Pt:List (Nat×Obj)} {s s1:St} {a:Act} {w:World} {A Lx:aJ} {sp:Sp},qS s s1→GS C Pt s a w A Lx sp→∃A1 YM,GS C Pt s1 a w A1 Lx YM∧Ev w A (join (held s sp) Lx) w A1 (join (held s1 YM) Lx):=by
   intro Pt s s1 a w A Lx sp he hg
   obtain⟨A1,YM,g1,g2⟩:=he.2 C.N ⟨a.tmps,[]⟩ w A sp hg.rs
   obtain⟨g3,g4⟩:=hg.own (a':=a) g1 g2 he.1 rfl
   exact⟨A1,YM,g3,g4⟩
  obtain⟨A1,YM,eO,ir⟩:=EH vn h
  intro b k cs hro hb hroom
  have key:∀n s2 a2 w2 A2 lU fl Z4,I n s2→(∀p∈Pt,p∈Z4)→GS C Z4 s2 a2 w2 A2 lU fl→Ev w A (join (held s sp) Lx) w2 A2 (join (held s2 fl) lU)→(C.ro.isSome=true→a2.defers=a.defers)→∃e a' w',y9 C Pt s a.defers w A Lx sp kn ke kr e a' w'∧ArrivesIn (Machine.fenced P (Fw C.ro)) P (lone (b.atR a2 (.code c::.inLoop c::k)) cs w2) b k cs e a' w':=by
   intro n
   induction n using Nat.strongRecOn with
   |_ n ihn=>
    intro s2 a2 w2 A2 lU fl Z4 OJ s5 cH dw gK
    obtain⟨e,a3,w3,⟨s3,A3,bP,bT,Pt3,kU,zg,jB,o8,eY⟩,Zu⟩:=ih C mc _ ke kr Z4 s2 a2 w2 A2 lU fl aW o9 cH (jA n s2 OJ) b (.inLoop c::k) cs hro hb hroom
    cases e with
    |normal=>
     obtain⟨n4,s4,hlt,abG,OL⟩:=eY
     obtain⟨A4,OM,ON,OO⟩:=EH abG zg
     obtain⟨e5,a5,w5,o_,OP⟩:=ihn n4 hlt s4 a3 w3 A4 bP OM Pt3 OL (fun p hp=>kU p (s5 p hp)) ON ((dw.trans jB).trans OO) (fun e=>(o8 e).trans (gK e))
     exact⟨e5,a5,w5,o_,.of_steps (StepsIn.trans Zu (.one (fenced_calm hb hroom rfl) stepR_inLoop)) OP⟩
    |exit id=>exact⟨.exit id,a3,w3,⟨s3,A3,bP,bT,Pt3,fun p hp=>kU p (s5 p hp),zg,dw.trans jB,fun e=>(o8 e).trans (gK e),eY⟩,.pass (x:=.inLoop c) rfl (fun _ _=>.inl (by simp)) Zu⟩
    |ret=>exact⟨.ret,a3,w3,⟨s3,A3,bP,bT,Pt3,fun p hp=>kU p (s5 p hp),zg,dw.trans jB,fun e=>(o8 e).trans (gK e),eY⟩,.pass (x:=.inLoop c) rfl (fun _ _=>.inl (by simp)) Zu⟩
    |goto l=>exact eY.elim
    |panic ch=>exact eY.elim
    |outgrown=>exact eY.elim
  obtain⟨e,a',w',hq,Zu⟩:=key n1 s1 a w A1 Lx YM Pt hI (fun _ h=>h) eO ir (fun _=>rfl)
  exact⟨e,a',w',hq,.of_steps (.one (fenced_calm hb hroom rfl) stepR_loop) Zu⟩
 |exit id=>
  intro C m kn ke kr Pt s a w A Lx sp aW hm h hv
  injection hm with hm;subst hm
  exact wpIn_exit ⟨s,A,Lx,sp,Pt,fun _ h=>h,h,.refl _ _ _,fun _=>rfl,hv⟩
 |ret=>
  intro C m kn ke kr Pt s a w A Lx sp aW hm h hv
  injection hm with hm;subst hm
  exact wpIn_ret ⟨s,A,Lx,sp,Pt,fun _ h=>h,h,.refl _ _ _,fun _=>rfl,hv⟩
 |rangeFunc g ps assign body qU qV=>
  intro C m kn ke kr Pt s a w A Lx sp aW hm h hv
  simp only[dK] at hm
  split at hm
  ·rename_i x ma mb ht hma hmb
   split at hm
   ·rename_i hps
    replace hps:∀p∈ps.toList,p<C.N:=fun p hp=>by have:=(List.all_eq_true.1 hps) p hp;simpa using this
    have hg:=(bg h.rs ht).1
    split at hm
    ·rename_i pos hpos
     split at hm
     ·rename_i qY
      injection hm with hm;subst hm
      simp only[bz] at hv
      split at hv
      ·rename_i f first cap e1
       obtain⟨OQ,⟨hfn,hseq⟩,I,zh,jA,hend⟩:=hv
       obtain⟨xs,hxs⟩:∃xs,xs=OQ.map fun x=>[x,mark pos]:=⟨_,rfl⟩
       rw[←hxs] at hseq
       rw[e1] at hg
       replace hg:RV w A (.func (.func f) first cap) (a.eval g):=hg
       generalize aT:a.eval g=v0 at hg
       cases hg with
       |func _ _ _ vf vc eU hsc hf hc=>
        refine wpIn_rangeFunc fun fn _=> ?_
        obtain⟨l,mark,dl,Pm,w1,zi,cM,hne,hsub,hdf,hmk,hro,ir⟩:=EF h fn ps assign body
        have hcell:∀b o v,A b o→w.cell? ⟨b,o,none⟩=some v→w1.cell? ⟨b,o,none⟩=some v∧A b o:=fun b o v ha hv=>⟨(ir.cell b o (h.fJ ha).1 (h.fJ ha).2).1.trans hv,ha⟩
        have hkeep:gU w w1 A A:=ir.kept fun b o ha=>h.fJ ha
        refine⟨l,mark,w1,{target:=.fn (.func f) vc,args:=vf++ #[.func (.yield l) #[] #[]]},w1,f,(vf++ #[.func (.yield l) #[] #[]])++vc,w1,zi,?_,fun _ _=>trivial,?_,fun e=>(by cases e),?_⟩
        ·have zj:Act.eval a g=.func (.func f) vf vc:=aT
         simp only[resolve,zj]
         simp[go_sem,Deferred.ofValue]
        ·simp only[invoke]
         exact y5 hfn _ _
        ·have lW:GS C ((l,.loop (Ys fn a.tmps ps assign body dl .ready none))::Pm) (back s s) ⟨a.tmps,mark++a.defers⟩ w1 A Lx sp:=⟨cM.rs.forget,fun k hk=>by rw[iT _ _ hk];exact cM.ig k hk,cM.lt,by rw[j_];exact cM.ap,cM.av,by rw[iT _ _ (Nat.le_refl _)];exact cM.x,fun p hp=>by rw[j9];exact cM.pt p hp,fun b=>by rw[j9];exact cM.ob b,by rw[sY];exact cM.oa,cM.bs,cM.dn,cM.df,cM.ro⟩
         refine aaR (Calls.mono (hseq (aac C s a.tmps (mark++a.defers) l (Ys fn a.tmps ps assign body dl) Pm xs I ke kr) l w1 A (full (back s s) sp Lx ((l,.loop (Ys fn a.tmps ps assign body dl .ready none))::Pm)) _ EB (by rw[hxs];exact OH) (by rw[hxs];exact OG qU qV aW hma hmb hps hne qY hdf hro cM.dn jA) (fun b o=>lW.kT) (fun b o=>lW.fJ) (by simp only[Array.size_append,List.length_append,eU,hsc];rfl) (fun i=> ?_) ⟨rfl,0,Nat.zero_le _,rfl,back s s,sp,Lx,lW,(vr s s s).symm,zh,rfl⟩) ?_)
         ·have hy:RV w1 A (AV.func (.yield l) [] []) (.func (.yield l) #[] #[]):=.func _ _ _ _ _ rfl rfl (fun i=>by simp;exact .any _) (fun i=>by simp;exact .any _)
          have e2:=lK vf.toList [Value.func (.yield l) #[] #[]] vc.toList i undef
          have e3:=lK first [AV.func (.yield l) [] []] cap i .any
          have e4:((vf++ #[Value.func (.yield l) #[] #[]])++vc).getD i undef=(vf.toList++[Value.func (.yield l) #[] #[]]++vc.toList).getD i undef:=by simp only[List.getD_eq_getElem?_getD,Array.getD_eq_getD_getElem?,←Array.getElem?_toList,Array.toList_append]
          rw[e4,e2,e3]
          simp only[Array.length_toList,eU,List.length_singleton]
          split
          ·have:=(hf i).mono hcell hkeep
           simpa[List.getD_eq_getElem?_getD,Array.getD_eq_getD_getElem?] using this
          ·split
           ·rename_i h1 h2
            have h0:i - first.length=0:=by omega
            rw[h0];exact hy
           ·have:=(hc (i - first.length - 1)).mono hcell hkeep
            simpa[List.getD_eq_getElem?_getD,Array.getD_eq_getD_getElem?] using this
         ·rintro e w3 ⟨v,A3,L3,rest,b,rfl,jB,OR,OS,s6,hb⟩
          cases b with
          |false=>
           obtain⟨-,k,hk,de,st,bT,bP,gM,hst,zk,rfl⟩:=s6
           have dO:rest=[]:=hb.resolve_left (by simp)
           have vw:k=xs.length:=by
            rw[dO] at de
            have:=congrArg List.length de
            simp at this;omega
           rw[hxs,List.length_map] at vw
           subst vw
           have iu:=(gM.pt _ (List.mem_cons_self ..)).1
           refine⟨none,_,run_endLoop iu (by simp),?_⟩
           have dB:GS C Pm st ⟨a.tmps,mark++a.defers⟩ (w3.putObj l (.loop {Ys fn a.tmps ps assign body dl .ready none with state:=.exhausted})) A3 bP bT:=gM.putObj (List.mem_cons_self ..) (fun p hp=>.inr ⟨List.mem_cons_of_mem _ hp,hne p hp⟩) hdf hro
           have hE:Ev w A (full s sp Lx Pt) (w3.putObj l (.loop {Ys fn a.tmps ps assign body dl .ready none with state:=.exhausted})) A3 (full st bT bP Pm):=by
            have q1:Ev w1 A (full s sp Lx ((l,.loop (Ys fn a.tmps ps assign body dl .ready none))::Pm)) w3 A3 (full st bT bP ((l,.loop (Ys fn a.tmps ps assign body dl .ready none))::Pm)):=by
             have e0:full (back s s) sp Lx ((l,.loop (Ys fn a.tmps ps assign body dl .ready none))::Pm)=full s sp Lx ((l,.loop (Ys fn a.tmps ps assign body dl .ready none))::Pm):=by unfold full;rw[j_]
             rw[←e0];exact jB
            have q2:Ev w3 A3 _ (w3.putObj l (.loop {Ys fn a.tmps ps assign body dl .ready none with state:=.exhausted})) A3 _:=Ev.putObj w3 A3 (L:=full st bT bP ((l,.loop (Ys fn a.tmps ps assign body dl .ready none))::Pm)) _ (fun o=>.inr ⟨_,List.mem_cons_self ..,rfl⟩)
            exact((ir.trans q1).trans q2).sP (fun _ _ h=>.inl h) (fun b o _ hm=>.inr (by
             rcases hm with hm|⟨p,hp,rfl⟩
             ·exact .inl hm
             ·exact .inr ⟨p,List.mem_cons_of_mem _ hp,rfl⟩))
           exact⟨st,A3,bP,bT,Pm,hsub,dB,h.qX dB hsub hE,fun e=>by simp[hmk e],hend st hst zk⟩
          |true=>
           obtain⟨-,c,st,bT,bP,gM,hst,zl,rfl⟩:=s6
           have iu:=(gM.pt _ (List.mem_cons_self ..)).1
           refine⟨some c,_,run_endLoop iu (by simp),?_⟩
           have dB:GS C Pm st ⟨a.tmps,mark++a.defers⟩ (w3.putObj l (.loop {Ys fn a.tmps ps assign body dl .done (some c) with state:=.exhausted})) A3 bP bT:=gM.putObj (List.mem_cons_self ..) (fun p hp=>.inr ⟨List.mem_cons_of_mem _ hp,hne p hp⟩) hdf hro
           have hE:Ev w A (full s sp Lx Pt) (w3.putObj l (.loop {Ys fn a.tmps ps assign body dl .done (some c) with state:=.exhausted})) A3 (full st bT bP Pm):=by
            have q1:Ev w1 A (full s sp Lx ((l,.loop (Ys fn a.tmps ps assign body dl .ready none))::Pm)) w3 A3 (full st bT bP ((l,.loop (Ys fn a.tmps ps assign body dl .done (some c)))::Pm)):=by
             have e0:full (back s s) sp Lx ((l,.loop (Ys fn a.tmps ps assign body dl .ready none))::Pm)=full s sp Lx ((l,.loop (Ys fn a.tmps ps assign body dl .ready none))::Pm):=by unfold full;rw[j_]
             rw[←e0];exact jB
            have q2:Ev w3 A3 _ (w3.putObj l (.loop {Ys fn a.tmps ps assign body dl .done (some c) with state:=.exhausted})) A3 _:=Ev.putObj w3 A3 (L:=full st bT bP ((l,.loop (Ys fn a.tmps ps assign body dl .done (some c)))::Pm)) _ (fun o=>.inr ⟨_,List.mem_cons_self ..,rfl⟩)
            exact((ir.trans q1).trans q2).sP (fun _ _ h=>.inl h) (fun b o _ hm=>.inr (by
             rcases hm with hm|⟨p,hp,rfl⟩
             ·exact .inl hm
             ·exact .inr ⟨p,List.mem_cons_of_mem _ hp,rfl⟩))
           rcases zl with ⟨i,rfl,hq⟩|⟨rfl,hq⟩
           ·exact wpIn_exit ⟨st,A3,bP,bT,Pm,hsub,dB,h.qX dB hsub hE,fun e=>by simp[hmk e],hq⟩
           ·exact wpIn_ret ⟨st,A3,bP,bT,Pm,hsub,dB,h.qX dB hsub hE,fun e=>by simp[hmk e],hq⟩
      ·exact hv.elim
     ·cases hm
    ·injection hm with hm;subst hm
     simp only[bz] at hv
     split at hv
     ·rename_i f first cap e1
      obtain⟨xs,⟨hfn,hseq⟩,hlen,I,zh,jA,hend⟩:=hv
      rw[e1] at hg
      replace hg:RV w A (.func (.func f) first cap) (a.eval g):=hg
      generalize aT:a.eval g=v0 at hg
      cases hg with
      |func _ _ _ vf vc eU hsc hf hc=>
       refine wpIn_rangeFunc fun fn _=> ?_
       obtain⟨l,mark,dl,Pm,w1,zi,cM,hne,hsub,hdf,hmk,hro,ir⟩:=EF h fn ps assign body
       have hcell:∀b o v,A b o→w.cell? ⟨b,o,none⟩=some v→w1.cell? ⟨b,o,none⟩=some v∧A b o:=fun b o v ha hv=>⟨(ir.cell b o (h.fJ ha).1 (h.fJ ha).2).1.trans hv,ha⟩
       have hkeep:gU w w1 A A:=ir.kept fun b o ha=>h.fJ ha
       refine⟨l,mark,w1,{target:=.fn (.func f) vc,args:=vf++ #[.func (.yield l) #[] #[]]},w1,f,(vf++ #[.func (.yield l) #[] #[]])++vc,w1,zi,?_,fun _ _=>trivial,?_,fun e=>(by cases e),?_⟩
       ·have zj:Act.eval a g=.func (.func f) vf vc:=aT
        simp only[resolve,zj]
        simp[go_sem,Deferred.ofValue]
       ·simp only[invoke]
        exact y5 hfn _ _
       ·have lW:GS C ((l,.loop (Ys fn a.tmps ps assign body dl .ready none))::Pm) (back s s) ⟨a.tmps,mark++a.defers⟩ w1 A Lx sp:=⟨cM.rs.forget,fun k hk=>by rw[iT _ _ hk];exact cM.ig k hk,cM.lt,by rw[j_];exact cM.ap,cM.av,by rw[iT _ _ (Nat.le_refl _)];exact cM.x,fun p hp=>by rw[j9];exact cM.pt p hp,fun b=>by rw[j9];exact cM.ob b,by rw[sY];exact cM.oa,cM.bs,cM.dn,cM.df,cM.ro⟩
        refine aaR (Calls.mono (hseq (aac C s a.tmps (mark++a.defers) l (Ys fn a.tmps ps assign body dl) Pm xs I ke kr) l w1 A (full (back s s) sp Lx ((l,.loop (Ys fn a.tmps ps assign body dl .ready none))::Pm)) _ EB (OE qU qV aW hma hmb hps hne (fun y hy=>(hlen y hy).1) hdf hro cM.dn jA) (OI fun y hy=>(hlen y hy).2) (fun b o=>lW.kT) (fun b o=>lW.fJ) (by simp only[Array.size_append,List.length_append,eU,hsc];rfl) (fun i=> ?_) ⟨rfl,0,Nat.zero_le _,rfl,back s s,sp,Lx,lW,(vr s s s).symm,zh,rfl⟩) ?_)
        ·have hy:RV w1 A (AV.func (.yield l) [] []) (.func (.yield l) #[] #[]):=.func _ _ _ _ _ rfl rfl (fun i=>by simp;exact .any _) (fun i=>by simp;exact .any _)
         have e2:=lK vf.toList [Value.func (.yield l) #[] #[]] vc.toList i undef
         have e3:=lK first [AV.func (.yield l) [] []] cap i .any
         have e4:((vf++ #[Value.func (.yield l) #[] #[]])++vc).getD i undef=(vf.toList++[Value.func (.yield l) #[] #[]]++vc.toList).getD i undef:=by simp only[List.getD_eq_getElem?_getD,Array.getD_eq_getD_getElem?,←Array.getElem?_toList,Array.toList_append]
         rw[e4,e2,e3]
         simp only[Array.length_toList,eU,List.length_singleton]
         split
         ·have:=(hf i).mono hcell hkeep
          simpa[List.getD_eq_getElem?_getD,Array.getD_eq_getD_getElem?] using this
         ·split
          ·rename_i h1 h2
           have h0:i - first.length=0:=by omega
           rw[h0];exact hy
          ·have:=(hc (i - first.length - 1)).mono hcell hkeep
           simpa[List.getD_eq_getElem?_getD,Array.getD_eq_getD_getElem?] using this
        ·rintro e w3 ⟨v,A3,L3,rest,b,rfl,jB,OR,OS,s6,hb⟩
         cases b with
         |false=>
          obtain⟨-,k,hk,de,st,bT,bP,gM,hst,zk,rfl⟩:=s6
          have dO:rest=[]:=hb.resolve_left (by simp)
          have vw:k=xs.length:=by
           rw[dO] at de
           have:=congrArg List.length de
           simp at this;omega
          subst vw
          have iu:=(gM.pt _ (List.mem_cons_self ..)).1
          refine⟨none,_,run_endLoop iu (by simp),?_⟩
          have dB:GS C Pm st ⟨a.tmps,mark++a.defers⟩ (w3.putObj l (.loop {Ys fn a.tmps ps assign body dl .ready none with state:=.exhausted})) A3 bP bT:=gM.putObj (List.mem_cons_self ..) (fun p hp=>.inr ⟨List.mem_cons_of_mem _ hp,hne p hp⟩) hdf hro
          have hE:Ev w A (full s sp Lx Pt) (w3.putObj l (.loop {Ys fn a.tmps ps assign body dl .ready none with state:=.exhausted})) A3 (full st bT bP Pm):=by
           have q1:Ev w1 A (full s sp Lx ((l,.loop (Ys fn a.tmps ps assign body dl .ready none))::Pm)) w3 A3 (full st bT bP ((l,.loop (Ys fn a.tmps ps assign body dl .ready none))::Pm)):=by
            have e0:full (back s s) sp Lx ((l,.loop (Ys fn a.tmps ps assign body dl .ready none))::Pm)=full s sp Lx ((l,.loop (Ys fn a.tmps ps assign body dl .ready none))::Pm):=by unfold full;rw[j_]
            rw[←e0];exact jB
           have q2:Ev w3 A3 _ (w3.putObj l (.loop {Ys fn a.tmps ps assign body dl .ready none with state:=.exhausted})) A3 _:=Ev.putObj w3 A3 (L:=full st bT bP ((l,.loop (Ys fn a.tmps ps assign body dl .ready none))::Pm)) _ (fun o=>.inr ⟨_,List.mem_cons_self ..,rfl⟩)
           exact((ir.trans q1).trans q2).sP (fun _ _ h=>.inl h) (fun b o _ hm=>.inr (by
            rcases hm with hm|⟨p,hp,rfl⟩
            ·exact .inl hm
            ·exact .inr ⟨p,List.mem_cons_of_mem _ hp,rfl⟩))
          exact⟨st,A3,bP,bT,Pm,hsub,dB,h.qX dB hsub hE,fun e=>by simp[hmk e],hend st hst zk⟩
         |true=>
          obtain⟨-,c,st,bT,bP,gM,hst,zl,rfl⟩:=s6
          have iu:=(gM.pt _ (List.mem_cons_self ..)).1
          refine⟨some c,_,run_endLoop iu (by simp),?_⟩
          have dB:GS C Pm st ⟨a.tmps,mark++a.defers⟩ (w3.putObj l (.loop {Ys fn a.tmps ps assign body dl .done (some c) with state:=.exhausted})) A3 bP bT:=gM.putObj (List.mem_cons_self ..) (fun p hp=>.inr ⟨List.mem_cons_of_mem _ hp,hne p hp⟩) hdf hro
          have hE:Ev w A (full s sp Lx Pt) (w3.putObj l (.loop {Ys fn a.tmps ps assign body dl .done (some c) with state:=.exhausted})) A3 (full st bT bP Pm):=by
           have q1:Ev w1 A (full s sp Lx ((l,.loop (Ys fn a.tmps ps assign body dl .ready none))::Pm)) w3 A3 (full st bT bP ((l,.loop (Ys fn a.tmps ps assign body dl .done (some c)))::Pm)):=by
            have e0:full (back s s) sp Lx ((l,.loop (Ys fn a.tmps ps assign body dl .ready none))::Pm)=full s sp Lx ((l,.loop (Ys fn a.tmps ps assign body dl .ready none))::Pm):=by unfold full;rw[j_]
            rw[←e0];exact jB
           have q2:Ev w3 A3 _ (w3.putObj l (.loop {Ys fn a.tmps ps assign body dl .done (some c) with state:=.exhausted})) A3 _:=Ev.putObj w3 A3 (L:=full st bT bP ((l,.loop (Ys fn a.tmps ps assign body dl .done (some c)))::Pm)) _ (fun o=>.inr ⟨_,List.mem_cons_self ..,rfl⟩)
           exact((ir.trans q1).trans q2).sP (fun _ _ h=>.inl h) (fun b o _ hm=>.inr (by
            rcases hm with hm|⟨p,hp,rfl⟩
            ·exact .inl hm
            ·exact .inr ⟨p,List.mem_cons_of_mem _ hp,rfl⟩))
          rcases zl with ⟨i,rfl,hq⟩|⟨rfl,hq⟩
          ·exact wpIn_exit ⟨st,A3,bP,bT,Pm,hsub,dB,h.qX dB hsub hE,fun e=>by simp[hmk e],hq⟩
          ·exact wpIn_ret ⟨st,A3,bP,bT,Pm,hsub,dB,h.qX dB hsub hE,fun e=>by simp[hmk e],hq⟩
     ·exact hv.elim
   ·cases hm
  ·cases hm
 |goto=>intro C m kn ke kr Pt s a w A Lx sp aW hm;cases hm
 |refuse=>intro C m kn ke kr Pt s a w A Lx sp aW hm;cases hm
end
end Go.az
namespace Go.az
open Go.RowKit
section
variable {P:Program} {N:Nat}
inductive aI where
 |tmp (t:Nat)
 |cell (t:Nat) (n:Option Nat)
def fU(P:Program):List ResultVar→Option (List aI)
 |[]=>some []
 |.tmp t::rs=>(fU P rs).map (.tmp t:: ·)
 |.cell t ty::rs=>match jY P ty,fU P rs with
  |some n,some l=>some (.cell t n::l)
  |_,_=>none
def gp(s:St):List aI→(List AV→Prop)→Prop
 |[],K=>K []
 |.tmp t::rs,K=>gp s rs fun vs=>K ((s.env t).erase::vs)
 |.cell t n::rs,K=>dr s.loc (s.env t) n fun v=>gp s rs fun vs=>K (v.erase::vs)
def iU:List AV→AV
 |[x]=>x
 |xs=>.tuple xs
def dD(xs:List AV):Nat→AV:=fun k=>(xs.getD k .any).erase
def jC:Sp:=fun _=>(0,0,0)
theorem zm(b o:Nat):¬live (fun _=>none) jC b o:=by
 rintro(h|⟨r,h1,h2,h3⟩)
 ·exact h rfl
 ·simp[jC] at h3
theorem OT{s:St}{a:Act}{w:World}{A:aJ}{sp:Sp}{ty:TypeId}{n:Option Nat}{t:Nat}{k:AV→Prop}(hp:jY P ty=some n)(h:RS N s a w A sp)(hv:dr s.loc (s.env t) n k):∃x v,(do loadVar ty (←asAddr (a.tmps.getD t undef)):Sem Value).run P w=.ok v w∧RV w A x v∧k x:=by
 have h1:=(h.env t).1
 unfold dr at hv
 split at hv
 ·rename_i cs hcs
  rw[hcs] at h1
  generalize a.tmps.getD t undef=v0 at h1
  cases h1 with
  |ref _ b off vs hc hr=>
   cases n with
   |none=>
    simp only[cC] at hv
    have:=nV hp w b off vs (fun i hi=>(hc i (by simp at hi;omega)).1)
    exact⟨_,vs 0,by simp only[Sem.run_bind,asAddr,Sem.run_pure,Result.andThen_ok,this],(hr 0).erase,hv.2⟩
   |some m=>
    simp only[cC,Nat.zero_add,List.drop_zero] at hv
    have:=nV hp w b off vs (fun i hi=>(hc i (by simp at hi;omega)).1)
    refine⟨_,.agg ((Array.range m).map vs),by simp only[Sem.run_bind,asAddr,Sem.run_pure,Result.andThen_ok,this],?_,hv.2⟩
    refine RV.erase (RV.erase (.agg _ _ (by simp;omega) fun i=> ?_))
    by_cases hi:i<m
    ·have:=hr i
     simp only[List.getD_eq_getElem?_getD,List.getElem?_take,hi,if_true,Array.getD_eq_getD_getElem?,Array.getElem?_map] at this⊢
     rw[Array.getElem?_eq_getElem (by simpa using hi)]
     simpa using this
    ·simp only[List.getD_eq_getElem?_getD,List.getElem?_take,hi,if_false,Option.getD_none]
     exact .any _
 ·rename_i b off hcs
  rw[hcs] at h1
  generalize a.tmps.getD t undef=v0 at h1
  cases h1
  split at hv
  ·rename_i cs hb
   obtain⟨vs,T,hh,hsz,hr⟩:=h.loc b cs hb
   have hcell:∀i,off+i<cs.length→w.cell? ⟨b,off+i,none⟩=some (vs.getD (off+i) undef):=by
    intro i hi
    simp[World.cell?,hh,Array.getD_eq_getD_getElem?,Array.getElem?_eq_getElem (show off+i<vs.size by omega)]
   cases n with
   |none=>
    simp only[cC] at hv
    have:=nV hp w b off (fun i=>vs.getD (off+i) undef) (fun i hi=>hcell i (by simp at hi;omega))
    exact⟨_,vs.getD off undef,by simp only[Sem.run_bind,asAddr,Sem.run_pure,Result.andThen_ok,this,Nat.add_zero],(hr off).1,hv.2⟩
   |some m=>
    simp only[cC] at hv
    have:=nV hp w b off (fun i=>vs.getD (off+i) undef) (fun i hi=>hcell i (by simp at hi;omega))
    refine⟨_,.agg ((Array.range m).map fun i=>vs.getD (off+i) undef),by simp only[Sem.run_bind,asAddr,Sem.run_pure,Result.andThen_ok,this],?_,hv.2⟩
    refine RV.erase (.agg _ _ (by simp;omega) fun i=> ?_)
    by_cases hi:i<m
    ·have:=(hr (off+i)).1
     simp only[List.getD_eq_getElem?_getD,List.getElem?_take,hi,if_true,List.getElem?_drop,Array.getD_eq_getD_getElem?,Array.getElem?_map] at this⊢
     rw[Array.getElem?_eq_getElem (by simpa using hi)]
     simpa using this
    ·simp only[List.getD_eq_getElem?_getD,List.getElem?_take,hi,if_false,Option.getD_none]
     exact .any _
  ·exact hv.elim
 ·exact hv.elim
theorem zn{s:St}{a:Act}{w:World}{A:aJ}{sp:Sp}(h:RS N s a w A sp)(f:ResultVar→Sem Value)(f1:∀t,f (.tmp t)=pure (a.tmps.getD t undef))(f2:∀b t,f (.cell b t)=(do loadVar t (←asAddr (a.tmps.getD b undef)))):∀(rs:List ResultVar) (ms:List aI) (k:List AV→Prop),fU P rs=some ms→gp s ms k→∃xs vs,(rs.mapM f).run P w=.ok vs w∧vs.length=xs.length∧(∀i,RV w A (xs.getD i .any) (vs.getD i undef))∧k xs
 |[],ms,k,hm,hk=>by injection hm with hm;subst hm;exact⟨[],[],rfl,rfl,fun i=>by simp;exact .any _,hk⟩
 |.tmp t::rs,ms,k,hm,hk=>by
  simp only[fU,Option.map_eq_some_iff] at hm
  obtain⟨l,hl,rfl⟩:=hm
  obtain⟨xs,vs,g1,g2,g3,g4⟩:=zn h f f1 f2 rs l _ hl hk
  refine⟨_::xs,a.tmps.getD t undef::vs,?_,by simp[g2],fun i=> ?_,g4⟩
  ·simp only[List.mapM_cons,f1,Sem.run_bind,Sem.run_pure,Result.andThen_ok,g1]
  ·cases i with
   |zero=>simpa using(h.env t).1.erase
   |succ i=>simpa using g3 i
 |.cell t ty::rs,ms,k,hm,hk=>by
  simp only[fU] at hm
  split at hm
  ·rename_i n l hn hl
   injection hm with hm;subst hm
   obtain⟨x,v,r1,r2,r3⟩:=OT hn h hk
   obtain⟨xs,vs,g1,g2,g3,g4⟩:=zn h f f1 f2 rs l _ hl r3
   refine⟨x.erase::xs,v::vs,?_,by simp[g2],fun i=> ?_,g4⟩
   ·simp only[Sem.run_bind] at r1
    simp only[List.mapM_cons,f2,Sem.run_bind,r1,Result.andThen_ok,g1,Sem.run_pure]
   ·cases i with
    |zero=>simpa using r2.erase
    |succ i=>simpa using g3 i
  ·cases hm
theorem zo{s:St}{a:Act}{w:World}{A:aJ}{sp:Sp}{fn:Func}{ms:List aI}{r:AV}(h:RS N s a w A sp)(hm:fU P fn.results.toList=some ms)(hk:gp s ms fun xs=>r=iU xs):∃v,(results fn a.tmps).run P w=.ok v w∧RV w A r v:=by
 have key:∀f:ResultVar→Sem Value,(∀t,f (.tmp t)=pure (a.tmps.getD t undef))→(∀b t,f (.cell b t)=(do loadVar t (←asAddr (a.tmps.getD b undef))))→∃v,(do let vs←fn.results.mapM f;pure (if h:vs.size=1 then vs[0] else .tuple vs):Sem Value).run P w=.ok v w∧RV w A r v:=by
  intro f f1 f2
  obtain⟨xs,vs,g1,g2,g3,rfl⟩:=zn h f f1 f2 fn.results.toList ms _ hm hk
  rw[Sem.run_bind,Array.mapM_eq_mapM_toList,Sem.run_map,g1]
  refine⟨if h:vs.toArray.size=1 then vs.toArray[0] else .tuple vs.toArray,rfl,?_⟩
  match xs,vs,g2 with
  |[],[],_=>exact .tuple [] _ rfl (fun i=>by simp;exact .any _)
  |[x],[v],_=>simpa[iU] using g3 0
  |x::y::xs,u::v::vs,g2=>
   simp only[iU,List.size_toArray,List.length_cons,Nat.add_eq_right,Nat.add_eq_zero_iff,Nat.one_ne_zero,and_false,dite_false]
   refine .tuple _ _ (by simpa using g2) (fun i=> ?_)
   have:=g3 i
   simpa[List.getD_eq_getElem?_getD,Array.getD_eq_getD_getElem?] using this
  |[],_::_,g2=>simp at g2
  |[_],[],g2=>simp at g2
  |[_],_::_::_,g2=>simp at g2
  |_::_::_,[],g2=>simp at g2
  |_::_::_,[_],g2=>simp at g2
 exact key _ (fun _=>rfl) (fun _ _=>rfl)
def Fits(x:AV):Prop:=∃w A v,RV w A x v
def EI(B:Nat)(w w':World):Prop:=w'.os=w.os∧w'.tape=w.tape∧w'.output=w.output∧w.heap.size≤w'.heap.size∧∀b,b<B→w'.heap[b]? =w.heap[b]?
theorem Ev.low{w w1 w2:World}{A L A1 L1:aJ}(h:Ev w A L w1 A1 L1)(k:EI w.heap.size w1 w2):Ev w A L w2 A1 L1:=by
 obtain⟨k1,k2,k3,k4,k5⟩:=k
 exact⟨k1.trans h.os,k2.trans h.tape,k3.trans h.output,Nat.le_trans h.size k4,fun b o hb hl=>⟨(World.cell?_of_block (k5 b hb)).trans (h.cell b o hb hl).1,(h.cell b o hb hl).2⟩,fun b hb hl=>(k5 b hb).trans (h.block b hb hl),h.sub,h.sup⟩
theorem vz{C:Ctx P}{s:St}{A Lx:aJ}{sp:Sp}{fn:Func}{t:Array Value}{R:Ending→World→Prop}(hro:C.ro=none):∀(ds:List Deferred) (Pt:List (Nat×Obj)) (w:World),GS C Pt s ⟨t,ds⟩ w A Lx sp→(∀w' dA,GS C dA s ⟨t,[]⟩ w' A Lx sp→EI C.B w w'→∃v,(results fn t).run P w'=.ok v w'∧R (.returned v) w')→LeavesInM (Fw none) 0 P fn t R ds .returning w
 |[],Pt,w,h,hk=>hk w Pt h ⟨rfl,rfl,rfl,Nat.le_refl _,fun _ _=>rfl⟩
 |d::ds,Pt,w,h,hk=>by
  obtain⟨D,d1,d2,d3⟩:=h.df d (List.mem_cons_self ..)
  have hD:=(h.pt _ d3).1
  refine⟨fun e=>(by cases e),.inl ⟨D,w.putObj D (.deferred none),by rw[d2],run_takeDeferred hD,?_⟩⟩
  have YG:=h.dn
  simp only[List.map_cons,List.nodup_cons] at YG
  have h1:GS C Pt s ⟨t,ds⟩ w A Lx sp:=⟨h.rs,h.ig,h.lt,h.ap,h.av,h.x,h.pt,h.ob,h.oa,h.bs,YG.2,fun e he=>h.df e (List.mem_cons_of_mem _ he),h.ro⟩
  have h2:GS C (Pt.filter fun p=>p.1 != D) s ⟨t,ds⟩ (w.putObj D (.deferred none)) A Lx sp:=by
   refine h1.putObj d3 (fun p hp=> ?_) (fun e he=> ?_) (fun l e=>by rw[hro] at e;cases e)
   ·obtain⟨g1,g2⟩:=List.mem_filter.1 hp
    exact .inr ⟨g1,by simpa using g2⟩
   ·obtain⟨E,e1,e2,e3⟩:=h1.df e he
    refine⟨E,e1,e2,List.mem_filter.2 ⟨e3,?_⟩⟩
    have:E≠D:=fun hh=>YG.1 (by rw[d2,←hh];exact List.mem_map.2 ⟨e,he,by rw[e2]⟩)
    simpa using this
  refine vz hro ds _ _ h2 fun w' dA g1 g2=>hk w' dA g1 ?_
  obtain⟨k1,k2,k3,k4,k5⟩:=g2
  exact⟨k1,k2,k3,by simpa using k4,fun b hb=>(k5 b hb).trans (World.putObj_heap_other (by omega))⟩
def OU:AV→World→aJ→aJ→Prop:=fun gh _ _ Lx=>gh=.any∧∀b o,¬Lx b o
def EJ(P:Program)(N B:Nat):Ctx P:={N:=N,B:=B,ro:=none,X:=OU,st:=fun _ _ _ _ _ _ h _=>h,yl:=fun _ _ _ _ _ _ _ h=>(by cases h.1),xz:=fun _ _ _ _ _ _ _ _ _ _ _ _ _ h=>by cases h.1}
theorem zq{xs:List AV}{n:Nat}{w:World}{A:aJ}{vs:Array Value}(hlen:xs.length≤n)(hA:∀b o,A b o→b<w.heap.size)(hs:vs.size=xs.length)(fm:∀i,RV w A (xs.getD i .any) (vs.getD i undef)):RS n ⟨dD xs,fun _=>none⟩ ⟨vs++Array.replicate (n - vs.size) undef,[]⟩ w A jC:=by
 refine⟨by simp;omega,rfl,fun d=> ?_,fun b cs hb=>(by cases hb),fun r hr=>by simp[jC] at hr,fun r r' _ h1=>by simp[jC] at h1,fun b o ha=>⟨hA b o ha,zm b o⟩⟩
 by_cases hd:d<xs.length
 ·have e:(vs++Array.replicate (n - vs.size) undef).getD d undef=vs.getD d undef:=by
   simp only[Array.getD_eq_getD_getElem?]
   rw[Array.getElem?_append_left (by omega)]
  simp only[e]
  exact⟨(fm d).erase,.erase⟩
 ·simp only[dD,List.getD_eq_getElem?_getD,List.getElem?_eq_none (Nat.le_of_not_lt hd),Option.getD_none]
  exact⟨.any _,trivial⟩
theorem EK{xs:List AV}(h:xs.length≤gS)(k:Nat)(hk:gS≤k):dD xs k=.any:=by simp only[dD,List.getD_eq_getElem?_getD,List.getElem?_eq_none (Nat.le_trans h hk),Option.getD_none];rfl
theorem vA(b:Nat):gS≤oS+b:=by simp only[gS,oS];omega
theorem OV{f:FuncId}{fn:Func}{c:Code}{aE:cv}{m:aC}{rs:List aI}{xs:List AV}{r:AV}(hf:P.funcs[f]? =some fn)(hb:fn.body=some c)
  (hm:dK P aE fn.ntmps c=some m)(hr:fU P fn.results.toList=some rs)(hfn:Zn P f=true)(hlen:xs.length≤fn.ntmps)(hgS:fn.ntmps≤gS)
  (hv:(∀i,Fits (xs.getD i .any))→bz P m (fun s=>gp s rs fun ys=>r=iU ys) (fun _ _=>False) (fun s=>gp s rs fun ys=>r=iU ys) ⟨dD xs,fun _=>none⟩):aA P f xs r:=by
 refine⟨hfn,fun w A vs hA hs fm=> ?_⟩
 have hg:∀k,gS≤k→dD xs k=.any:=EK (Nat.le_trans hlen hgS)
 have hh:∀b o,¬held ⟨dD xs,fun _=>none⟩ jC b o:=fun b o h=>h.elim (zm b o) fun h=>h (hg _ (vA b))
 have s7:GS (EJ P fn.ntmps w.heap.size) [] ⟨dD xs,fun _=>none⟩ ⟨vs++Array.replicate (fn.ntmps - vs.size) undef,[]⟩ w A (fun _ _=>False) jC:=⟨zq hlen hA hs fm,fun k hk=>by simp only[hg k hk];rfl,fun _ _ h=>h.elim,fun _ _ _ _ h=>h,fun _ _ _ h=>h,⟨hg _ (Nat.le_refl _),fun _ _ h=>h⟩,fun p hp=>(by cases hp),fun b=>by simp only[hg _ (vA b)];exact .any,fun b o h=>absurd (.inr h) (hh b o),Nat.le_refl _,List.nodup_nil,fun d hd=>(by cases hd),fun l e=>(by cases e)⟩
 refine yA (n:=0) (callsIn_of_wp_marks hf hb trivial (wpIn_mono (zc c (EJ P fn.ntmps w.heap.size) m _ _ _ _ _ _ w A _ jC hgS hm s7 (hv fun i=>⟨w,A,_,fm i⟩)) ?_))
 rintro e a' w' ⟨s',A',Yt,sp',dA,-,hG,aL,-,hq⟩
 have fin:(gp s' rs fun ys=>r=iU ys)→LeavesInM (Fw none) 0 P fn a'.tmps (fun e w'=>∃v A',e=.returned v∧Fr w w'∧(∀b o,A b o→A' b o)∧(∀b o,A' b o→A b o∨(w.heap.size≤b∧b<w'.heap.size))∧RV w' A' r v) a'.defers .returning w':=by
  intro hq
  refine vz rfl a'.defers dA w' hG fun w2 Z4 eu jD=> ?_
  obtain⟨v,g1,g2⟩:=zo eu.rs hr hq
  have dw:=aL.low jD
  have hno:∀b o,¬join (held ⟨dD xs,fun _=>none⟩ jC) (fun _ _=>False) b o:=fun b o h=>h.elim (hh b o) id
  refine⟨v,g1,v,A',rfl,⟨dw.os,dw.tape,dw.output,dw.size,fun b hb=>dw.block b hb (hno b)⟩,dw.sub,fun b o ha=> ?_,g2⟩
  rcases dw.sup b o ha with h1|h1|h1
  ·exact .inl h1
  ·exact absurd h1 (hno b o)
  ·exact .inr ⟨h1,(eu.rs.av b o ha).1⟩
 cases e with
 |normal=>exact fin hq
 |ret=>exact fin hq
 |exit i=>exact hq.elim
 |goto l=>exact hq.elim
 |panic ch=>exact hq.elim
 |outgrown=>exact hq.elim
theorem OW{f:FuncId}{fn:Func}{aE:cv}{m:aC}{rs:List aI}{xs:List AV}{r:AV}(hf:P.funcs[f]? =some fn)
  (hm:fn.body.bind (dK P aE fn.ntmps)=some m)(hr:fU P fn.results.toList=some rs)(hfn:Zn P f=true)(hlen:xs.length≤fn.ntmps∧fn.ntmps≤1000000)
  (hv:(∀i,Fits (xs.getD i .any))→bz P m (fun s=>gp s rs fun ys=>r=iU ys) (fun _ _=>False) (fun s=>gp s rs fun ys=>r=iU ys) ⟨dD xs,fun _=>none⟩):aA P f xs r:=by
 cases hb:fn.body with
 |none=>rw[hb] at hm;cases hm
 |some c=>rw[hb] at hm;exact OV hf hb hm hr hfn hlen.1 (by simp only[gS];exact hlen.2) hv
theorem OX{f:FuncId}{fn:Func}{c:Code}{aE:cv}{m:aC}{first cap:List AV}{xs:List (List AV)}(hf:P.funcs[f]? =some fn)(hb:fn.body=some c)
  (hm:dK P aE fn.ntmps c=some m)(hr:fU P fn.results.toList=some [])(hfn:Zn P f=true)(hlen:first.length+1+cap.length≤fn.ntmps)(hgS:fn.ntmps≤gS)
  (hv:∀l,(∀i,Fits ((first++[AV.func (.yield l) [] []]++cap).getD i .any))→bz P m (fun s=>∃rest b,s.env gS=.ghost l rest b∧(b=true∨rest=[])) (fun _ _=>False) (fun s=>∃rest b,s.env gS=.ghost l rest b∧(b=true∨rest=[])) ((St.mk (dD (first++[AV.func (.yield l) [] []]++cap)) fun _=>none).set gS (.ghost l xs false))):lV P f first cap xs:=by
 refine⟨hfn,fun X l w A Lx vs hst gj OY hlt Y9 hs fm hx=> ?_⟩
 have hlen':(first++[AV.func (.yield l) [] []]++cap).length≤fn.ntmps:=by simp only[List.length_append,List.length_singleton];exact hlen
 let C:Ctx P:={N:=fn.ntmps,B:=w.heap.size,ro:=none,X:=X,st:=hst,yl:=gj,xz:=OY}
 have YB:=zq hlen' (fun b o ha=>(Y9 b o ha).1) hs fm
 have aal:RS fn.ntmps ((St.mk (dD (first++[AV.func (.yield l) [] []]++cap)) fun _=>none).set gS (.ghost l xs false)) ⟨vs++Array.replicate (fn.ntmps - vs.size) undef,[]⟩ w A jC:=by
  refine⟨YB.size,rfl,fun d=> ?_,YB.loc,YB.bR,YB.YJ,YB.av⟩
  by_cases hd:d=gS
  ·subst hd;rw[Z2];exact⟨.ghost _ _ _ _,trivial⟩
  ·have e:((St.mk (dD (first++[AV.func (.yield l) [] []]++cap)) fun _=>none).set gS (.ghost l xs false)).env d=dD (first++[AV.func (.yield l) [] []]++cap) d:=bM _ _ hd
   rw[e];exact YB.env d
 have hg:∀k,gS≤k→k≠gS→((St.mk (dD (first++[AV.func (.yield l) [] []]++cap)) fun _=>none).set gS (.ghost l xs false)).env k=.any:=fun k hk hne=>(bM _ _ hne).trans (EK (Nat.le_trans hlen' hgS) k hk)
 have eP:∀b,((St.mk (dD (first++[AV.func (.yield l) [] []]++cap)) fun _=>none).set gS (.ghost l xs false)).env (oS+b)=.any:=fun b=>hg _ (vA b) (by simp only[gS,oS];omega)
 have hh:∀b o,¬held ((St.mk (dD (first++[AV.func (.yield l) [] []]++cap)) fun _=>none).set gS (.ghost l xs false)) jC b o:=fun b o h=>h.elim (zm b o) fun h=>h (eP b)
 have s7:GS C [] ((St.mk (dD (first++[AV.func (.yield l) [] []]++cap)) fun _=>none).set gS (.ghost l xs false)) ⟨vs++Array.replicate (fn.ntmps - vs.size) undef,[]⟩ w A Lx jC:=
  ⟨aal,fun k hk=>by
    by_cases e:k=gS
    ·subst e;rw[Z2];rfl
    ·rw[hg k hk e];rfl,hlt,fun b o o' hl=>absurd hl (hh b o),fun b o ha=>(Y9 b o ha).2,by rw[Z2];exact hx,fun p hp=>(by cases hp),fun b=>by rw[eP];exact .any,fun b o h=>absurd (.inr h) (hh b o),Nat.le_refl _,List.nodup_nil,fun d hd=>(by cases hd),fun l e=>(by cases e)⟩
 refine yA (n:=0) (callsIn_of_wp_marks hf hb trivial (wpIn_mono (zc c C m _ _ _ _ _ _ w A _ jC hgS hm s7 (hv l fun i=>⟨w,A,_,fm i⟩)) ?_))
 rintro e a' w' ⟨s',A',Yt,sp',dA,-,hG,aL,-,hq⟩
 have fin:(∃rest b,s'.env gS=.ghost l rest b∧(b=true∨rest=[]))→LeavesInM (Fw none) 0 P fn a'.tmps (fun e w'=>∃v A' Yt rest b,e=.returned v∧Ev w A Lx w' A' Yt∧(∀b o,Yt b o→b<w'.heap.size)∧(∀b o,A' b o→b<w'.heap.size∧¬Yt b o)∧X (.ghost l rest b) w' A' Yt∧(b=true∨rest=[])) a'.defers .returning w':=by
  rintro⟨rest,b,ZM,hb⟩
  refine vz rfl a'.defers dA w' hG fun w2 Z4 eu jD=> ?_
  obtain⟨v,g1,g2⟩:=zo (r:=.tuple []) eu.rs hr rfl
  have dw:=(aL.low jD)
  have qH:=eu.x
  rw[ZM] at qH
  refine⟨v,g1,v,A',Yt,rest,b,rfl,dw.sP (fun b o h=>h.elim (fun h=>absurd h (hh b o)) .inl) (fun b o _ h=>.inr (.inr h)),eu.lt,fun b o ha=>⟨(eu.rs.av b o ha).1,eu.av b o ha⟩,qH,hb⟩
 cases e with
 |normal=>exact fin hq
 |ret=>exact fin hq
 |exit i=>exact hq.elim
 |goto l=>exact hq.elim
 |panic ch=>exact hq.elim
 |outgrown=>exact hq.elim
theorem OZ{f:FuncId}{fn:Func}{aE:cv}{m:aC}{first cap:List AV}{xs:List (List AV)}(hf:P.funcs[f]? =some fn)
  (hm:fn.body.bind (dK P aE fn.ntmps)=some m)(hr:fU P fn.results.toList=some [])(hfn:Zn P f=true)(hlen:first.length+1+cap.length≤fn.ntmps∧fn.ntmps≤1000000)
  (hv:∀l,(∀i,Fits ((first++[AV.func (.yield l) [] []]++cap).getD i .any))→bz P m (fun s=>∃rest b,s.env gS=.ghost l rest b∧(b=true∨rest=[])) (fun _ _=>False) (fun s=>∃rest b,s.env gS=.ghost l rest b∧(b=true∨rest=[])) ((St.mk (dD (first++[AV.func (.yield l) [] []]++cap)) fun _=>none).set gS (.ghost l xs false))):lV P f first cap xs:=by
 cases hb:fn.body with
 |none=>rw[hb] at hm;cases hm
 |some c=>rw[hb] at hm;exact OX hf hb hm hr hfn hlen.1 (by simp only[gS];exact hlen.2) hv
end
end Go.az
namespace Go.az
open Go.RowKit
section
variable {P:Program} {N:Nat}
theorem zu{cs:List AV}{off:Nat}{n:Option Nat}{k k':AV→Prop}(hk:∀v,k v→k' v)(h:cC cs off n k):cC cs off n k':=by
 cases n with
 |none=>exact⟨h.1,hk _ h.2⟩
 |some m=>exact⟨h.1,hk _ h.2⟩
theorem abn{loc:Nat→Option (List AV)}{x:AV}{n:Option Nat}{k k':AV→Prop}(hk:∀v,k v→k' v)(h:dr loc x n k):dr loc x n k':=by
 unfold dr at h⊢
 split at h
 ·exact zu (fun v hv=>hk _ hv) h
 ·split at h
  ·exact zu hk h
  ·exact h.elim
 ·exact h.elim
theorem s8{s:St}:∀{rs:List aI} {k k':List AV→Prop},(∀ys,k ys→k' ys)→gp s rs k→gp s rs k'
 |[],_,_,hk,h=>hk _ h
 |.tmp _::rs,_,_,hk,h=>s8 (rs:=rs) (fun _ hy=>hk _ hy) h
 |.cell _ _::rs,_,_,hk,h=>abn (fun _ hu=>s8 (rs:=rs) (fun _ hy=>hk _ hy) hu) h
theorem EM{cs:List AV}{off:Nat}{n:Option Nat}{k:AV→Prop}(h:cC cs off n k):∃v,k v∧cC cs off n fun u=>u=v:=by
 cases n with
 |none=>exact⟨_,h.2,h.1,rfl⟩
 |some m=>exact⟨_,h.2,h.1,rfl⟩
theorem O0{loc:Nat→Option (List AV)}{x:AV}{n:Option Nat}{k:AV→Prop}(h:dr loc x n k):∃v,k v∧dr loc x n fun u=>u=v:=by
 unfold dr at h⊢
 split at h
 ·obtain⟨v,h1,h2⟩:=EM h
  exact⟨v.erase,h1,zu (fun u e=>by rw[e]) h2⟩
 ·split at h
  ·exact EM h
  ·exact h.elim
 ·exact h.elim
theorem zv{s:St}:∀{rs:List aI} {k:List AV→Prop},gp s rs k→∃ys,k ys∧gp s rs fun zs=>zs=ys
 |[],k,h=>⟨[],h,rfl⟩
 |.tmp t::rs,k,h=>by
  obtain⟨ys,h1,h2⟩:=zv (rs:=rs) h
  exact⟨_,h1,s8 (rs:=rs) (fun zs e=>by rw[e]) h2⟩
 |.cell t n::rs,k,h=>by
  obtain⟨v,h1,h2⟩:=O0 h
  obtain⟨ys,h3,h4⟩:=zv (rs:=rs) h1
  exact⟨_,h3,abn (fun u e=>by subst e;exact s8 (rs:=rs) (fun zs e=>by rw[e]) h4) h2⟩
def dj(s:St):List aI→(AV→Prop)→Prop
 |[.tmp t],K=>K (s.env t)
 |rs,K=>gp s rs fun ys=>K (iU ys).erase
theorem O1{s:St}{a:Act}{w:World}{A:aJ}{sp:Sp}{fn:Func}{ms:List aI}{k:AV→Prop}(h:RS N s a w A sp)(hm:fU P fn.results.toList=some ms)(hk:dj s ms k):∃r v,(results fn a.tmps).run P w=.ok v w∧RV w A r v∧bN sp r v∧k r:=by
 unfold dj at hk
 split at hk
 ·rename_i t
  have hr:∃v,(results fn a.tmps).run P w=.ok v w∧v=a.tmps.getD t undef:=by
   generalize hl:fn.results.toList=l at hm
   match l,hm with
   |[],hm=>cases hm
   |.cell _ _::_,hm=>
    simp only[fU] at hm
    split at hm<;>cases hm
   |.tmp t'::rs,hm=>
    simp only[fU,Option.map_eq_some_iff] at hm
    obtain⟨l',hl',e⟩:=hm
    injection e with e1 e2
    injection e1 with e1
    subst e1 e2
    match rs,hl' with
    |[],_=>
     have e:fn.results= #[.tmp t']:=by rw[←Array.toList_inj,hl]
     refine⟨a.tmps.getD t' undef,?_,rfl⟩
     unfold results
     rw[e,Sem.run_bind,Array.mapM_eq_mapM_toList,Sem.run_map]
     rfl
    |.tmp _::_,hl'=>
     simp only[fU,Option.map_eq_some_iff] at hl'
     obtain⟨_,_,e⟩:=hl'
     cases e
    |.cell _ _::_,hl'=>
     simp only[fU] at hl'
     split at hl'<;>cases hl'
  obtain⟨v,h1,rfl⟩:=hr
  exact⟨_,_,h1,(h.env t).1,(h.env t).2,hk⟩
 ·obtain⟨ys,h1,h2⟩:=zv hk
  obtain⟨v,g1,g2⟩:=zo (r:=iU ys) h hm (s8 (fun zs e=>by rw[e]) h2)
  exact⟨(iU ys).erase,v,g1,g2.erase,.erase,h1⟩
theorem O2(s s2:St){k:Nat}(hk:¬gS≤k):(back s s2).env k=(s.env k).erase:=by simp[back,hk]
theorem O3{f:FuncId}{fn:Func}{c:Code}{aE:cv}{m:aC}{rs:List aI}{xs:List AV}{s:St}{K:AV→St→Prop}(hf:P.funcs[f]? =some fn)(hb:fn.body=some c)
  (hm:dK P aE fn.ntmps c=some m)(hr:fU P fn.results.toList=some rs)(hfn:Zn P f=true)(hlen:xs.length≤fn.ntmps)(hgS:fn.ntmps≤gS)
  (hv:(∀i,Fits (xs.getD i .any))→bz P m (fun s2=>dj s2 rs fun r=>K r (back s s2)) (fun _ _=>False) (fun s2=>dj s2 rs fun r=>K r (back s s2)) ⟨fun k=>if gS≤k then s.env k else dD xs k,s.loc⟩):YZ P f xs s K:=by
 refine⟨hfn,fun C Pt a w A Lx sp vs aW hG hs fm=> ?_⟩
 let C':Ctx P:={C with N:=fn.ntmps,B:=w.heap.size,ro:=none}
 let s0:St:=⟨fun k=>if gS≤k then s.env k else dD xs k,s.loc⟩
 have hg:∀k,gS≤k→s0.env k=s.env k:=fun k hk=>by show(if gS≤k then s.env k else dD xs k)=_;rw[if_pos hk]
 have ho:∀b,s0.env (oS+b)=s.env (oS+b):=fun b=>hg _ (vA b)
 have eP:YC s0=YC s:=by funext b o;simp only[YC,ho]
 have hh:held s0 sp=held s sp:=by unfold held;rw[eP]
 have EN:=zq (n:=fn.ntmps) hlen (fun b o ha=>(hG.rs.av b o ha).1) hs fm
 have YB:RS fn.ntmps s0 ⟨vs++Array.replicate (fn.ntmps - vs.size) undef,[]⟩ w A sp:=by
  refine⟨EN.size,rfl,fun d=> ?_,hG.rs.loc,hG.rs.bR,hG.rs.YJ,hG.rs.av⟩
  by_cases hd:gS≤d
  ·rw[hg d hd]
   have:=hG.ig d hd
   generalize s.env d=x at this
   cases x<;>first|(cases this;done)|exact⟨.any _,trivial⟩|exact⟨.ghost _ _ _ _,trivial⟩
  ·have e:s0.env d=dD xs d:=by show(if gS≤d then s.env d else dD xs d)=_;rw[if_neg hd]
   rw[e]
   refine⟨(EN.env d).1,?_⟩
   simp only[dD]
   exact .erase
 have s7:GS C' Pt s0 ⟨vs++Array.replicate (fn.ntmps - vs.size) undef,[]⟩ w A Lx sp:=⟨YB,fun k hk=>by rw[hg k hk];exact hG.ig k hk,hG.lt,by rw[hh];exact hG.ap,hG.av,by rw[hg _ (Nat.le_refl _)];exact hG.x,fun p hp=>by rw[ho];exact hG.pt p hp,fun b=>by rw[ho];exact hG.ob b,by rw[eP];exact hG.oa,Nat.le_refl _,List.nodup_nil,fun d hd=>(by cases hd),fun l e=>(by cases e)⟩
 refine yA (n:=0) (callsIn_of_wp_marks hf hb trivial (wpIn_mono (zc c C' m _ _ _ _ _ _ w A _ sp hgS hm s7 (hv fun i=>⟨w,A,_,fm i⟩)) ?_))
 rintro e a' w' ⟨s',A',Yt,sp',dA,hsub,qW,aL,-,hq⟩
 have fin:(dj s' rs fun r=>K r (back s s'))→LeavesInM (Fw none) 0 P fn a'.tmps (fun e w'=>∃r v s' A' Yt sp',e=.returned v∧RV w' A' r v∧bN sp' r v∧GS C Pt s' a w' A' Yt sp'∧Ev w A (join (held s sp) Lx) w' A' (join (held s' sp') Yt)∧K r s') a'.defers .returning w':=by
  intro hq
  refine vz rfl a'.defers dA w' qW fun w2 Z4 eu jD=> ?_
  obtain⟨r,v,g1,g2,g3,g4⟩:=O1 eu.rs hr hq
  have dw:Ev w A (join (held s sp) Lx) w2 A' (join (held s' sp') Yt):=by
   have:=aL.low jD
   rwa [hh] at this
  have hmono:∀b o v,A b o→w.cell? ⟨b,o,none⟩=some v→w2.cell? ⟨b,o,none⟩=some v∧A' b o:=fun b o v ha hv=>⟨(dw.cell b o (hG.rs.av b o ha).1 (fun hl=>by rcases hl with hl|hl;exact hG.Z1 ha hl;exact hG.av b o ha hl)).1.trans hv,dw.sub b o ha⟩
  have hrb:RS C.N (back s s') ⟨a.tmps,[]⟩ w2 A' sp':=by
   refine⟨hG.rs.size,rfl,fun d=> ?_,eu.rs.loc,eu.rs.bR,eu.rs.YJ,eu.rs.av⟩
   by_cases hd:gS≤d
   ·rw[iT _ _ hd]
    have:=eu.ig d hd
    generalize s'.env d=x at this
    cases x<;>first|(cases this;done)|exact⟨.any _,trivial⟩|exact⟨.ghost _ _ _ _,trivial⟩
   ·rw[O2 _ _ hd]
    exact⟨((hG.rs.env d).1.mono hmono (dw.kept fun b o ha=>⟨(hG.rs.av b o ha).1,fun hl=>by rcases hl with hl|hl;exact hG.Z1 ha hl;exact hG.av b o ha hl⟩)).erase,.erase⟩
  refine⟨v,g1,r,v,back s s',A',Yt,sp',rfl,g2,g3,⟨hrb,fun k hk=>by rw[iT _ _ hk];exact eu.ig k hk,eu.lt,by rw[j_];exact eu.ap,eu.av,by rw[iT _ _ (Nat.le_refl _)];exact eu.x,fun p hp=> ?_,fun b=>by rw[j9];exact eu.ob b,by rw[sY];exact eu.oa,Nat.le_trans hG.bs dw.size,hG.dn,hG.df,hG.ro⟩,by rw[j_];exact dw,g4⟩
  obtain⟨p1,p2,p3,p4,p5⟩:=qW.pt p (hsub p hp)
  have hlt:=cn (hG.pt p hp).1
  exact⟨(jD.2.2.2.2 p.1 hlt).trans p1,p2,p3,p4,by rw[j9];exact p5⟩
 cases e with
 |normal=>exact fin hq
 |ret=>exact fin hq
 |exit i=>exact hq.elim
 |goto l=>exact hq.elim
 |panic ch=>exact hq.elim
 |outgrown=>exact hq.elim
theorem dZ{f:FuncId}{fn:Func}{aE:cv}{m:aC}{rs:List aI}{xs:List AV}{s:St}{K:AV→St→Prop}(hf:P.funcs[f]? =some fn)
  (hm:fn.body.bind (dK P aE fn.ntmps)=some m)(hr:fU P fn.results.toList=some rs)(hfn:Zn P f=true)(hlen:xs.length≤fn.ntmps∧fn.ntmps≤1000000)
  (hv:(∀i,Fits (xs.getD i .any))→bz P m (fun s2=>dj s2 rs fun r=>K r (back s s2)) (fun _ _=>False) (fun s2=>dj s2 rs fun r=>K r (back s s2)) ⟨fun k=>if gS≤k then s.env k else dD xs k,s.loc⟩):YZ P f xs s K:=by
 cases hb:fn.body with
 |none=>rw[hb] at hm;cases hm
 |some c=>rw[hb] at hm;exact O3 hf hb hm hr hfn hlen.1 (by simp only[gS];exact hlen.2) hv
end
end Go.az
namespace Go.az
section
variable (P:Program) (ms:List Yr) (K:St→Prop) (s:St)
theorem O4(d k:Nat)(x:AV):(s.set d x).env k=if k=d then x else s.env k:=rfl
theorem EO(d:Nat)(x:AV):(s.set d x).loc=s.loc:=rfl
theorem O5(b k:Nat)(cs:List AV):(s.new b cs).env k=s.env k:=rfl
theorem Z5(b c:Nat)(cs:List AV):(s.new b cs).loc c=if c=b then some cs else s.loc c:=rfl
theorem EP(r k:Nat):(s.aK r).env k=aG r (s.env k):=rfl
theorem ER(r b:Nat):(s.aK r).loc b=(s.loc b).map (·.map (aG r)):=rfl
def St.Yu(s:St)(k b:Nat)(cs:List AV):St:=⟨aq s.env k (.ref cs),aq s.loc b none⟩
theorem O6(k b j:Nat)(cs:List AV):(s.Yu k b cs).env j=if j=k then .ref cs else s.env j:=rfl
theorem O7(k b c:Nat)(cs:List AV):(s.Yu k b cs).loc c=if c=b then none else s.loc c:=rfl
theorem ES(e:Nat→AV)(n:Nat):ai.ev e (.t n)=e n:=rfl
theorem O8(e:Nat→AV)(x:AV):ai.ev e (.c x)=x:=rfl
theorem O9(e:Nat→AV)(l:Nat→Option (List AV))(k:Nat):(St.mk e l).env k=e k:=rfl
theorem O_(e:Nat→AV)(l:Nat→Option (List AV)):(St.mk e l).loc=l:=rfl
theorem Pa(xs:List AV)(k:Nat):dD xs k=(xs.getD k .any).erase:=rfl
theorem Pb(v:Value):(AV.lit v).erase=.lit v:=rfl
theorem Pc(sz:Nat)(xs:List AV)(r:Nat):(AV.slice sz xs r).erase=.slice sz xs 0:=rfl
theorem Pd(cs:List AV):(AV.agg cs).erase=.agg (cs.map AV.erase0):=rfl
theorem Pe(cs:List AV):(AV.ref cs).erase=.ref cs:=rfl
theorem Pf(b o:Nat):(AV.Yq b o).erase=.Yq b o:=rfl
theorem Pg(f:Fn)(a b:List AV):(AV.func f a b).erase=.func f a b:=rfl
theorem Ph(a:List AV):(AV.tuple a).erase=.tuple a:=rfl
theorem Pj:AV.any.erase=.any:=rfl
theorem Pk(v:Value):(AV.lit v).erase0=.lit v:=rfl
theorem abH(sz:Nat)(xs:List AV)(r:Nat):(AV.slice sz xs r).erase0=.slice sz xs 0:=rfl
theorem Pn(cs:List AV):(AV.ref cs).erase0=.ref cs:=rfl
theorem Po(b o:Nat):(AV.Yq b o).erase0=.Yq b o:=rfl
theorem Pp(f:Fn)(a b:List AV):(AV.func f a b).erase0=.func f a b:=rfl
theorem Pq(r:Nat)(v:Value):aG r (.lit v)=.lit v:=rfl
theorem Pr(r sz:Nat)(xs:List AV)(q:Nat):aG r (.slice sz xs q)=if q=r then .slice sz xs 0 else .slice sz xs q:=rfl
theorem abI(r:Nat)(cs:List AV):aG r (.ref cs)=.ref cs:=rfl
theorem Pu(r b o:Nat):aG r (.Yq b o)=.Yq b o:=rfl
theorem Pv(r:Nat)(cs:List AV):aG r (.agg cs)=.agg cs:=rfl
theorem Pw(r:Nat):aG r .any=.any:=rfl
theorem Px(r:Nat)(f:Fn)(a b:List AV):aG r (.func f a b)=.func f a b:=rfl
theorem Py(r:Nat)(a:List AV):aG r (.tuple a)=.tuple a:=rfl
theorem Pz(v:Value):(AV.lit v).cells=[.lit v]:=rfl
theorem PA(sz:Nat)(xs:List AV)(q:Nat):(AV.slice sz xs q).cells=[.slice sz xs q]:=rfl
theorem PB(cs:List AV):(AV.agg cs).cells=cs:=rfl
theorem PC(cs:List AV):(AV.ref cs).cells=[.ref cs]:=rfl
theorem PD(b o:Nat):(AV.Yq b o).cells=[.Yq b o]:=rfl
theorem PE(f:Fn)(a b:List AV):(AV.func f a b).cells=[.func f a b]:=rfl
theorem PF(cs:List AV)(o:Nat):splice cs o []=cs:=rfl
theorem ET(cs:List AV)(o:Nat)(v:AV)(vs:List AV):splice cs o (v::vs)=splice (cs.set o v) (o+1) vs:=rfl
theorem PG:vcs P [] K s=K s:=rfl
theorem PI(d:Nat)(x:ai):vcs P (.aa d x::ms) K s=vcs P ms K (s.set d (x.ev s.env)):=rfl
theorem PJ(d:Nat)(x:ai):vcs P (.Yo d x::ms) K s=vcs P ms K (Y4 s d (x.ev s.env)):=rfl
theorem PK(d:Nat)(v:Value):Y4 s d (.lit v)=s.set d (.lit v):=rfl
theorem PL(d:Nat)(cs:List AV):Y4 s d (.agg cs)=s.set d (.agg cs):=rfl
theorem PM(d:Nat)(cs:List AV):Y4 s d (.ref cs)=s.set d (.ref cs):=rfl
theorem PN(d:Nat)(f:Fn)(a b:List AV):Y4 s d (.func f a b)=s.set d (.func f a b):=rfl
theorem PO(d sz:Nat)(xs:List AV):Y4 s d (.slice sz xs 0)=s.set d (.slice sz xs 0):=rfl
theorem PR(d sz:Nat)(xs:List AV)(r:Nat):Y4 s d (.slice sz xs r)=if r=0 then s.set d (.slice sz xs 0) else ((s.aK r).aK (d+1)).set d (.slice sz xs (d+1)):=rfl
theorem PS(d sz:Nat):vcs P (.bS d sz::ms) K s=vcs P ms K ((s.aK (d+1)).set d (.slice sz [] (d+1))):=rfl
theorem PT(d n:Nat)(x:ai):vcs P (.bB d x n::ms) K s=((x.ev s.env).cells.length=n∧vcs P ms K (s.set d (.ref ((x.ev s.env).cells.map AV.erase0)))):=rfl
theorem PU(d n:Nat):vcs P (.mF d n::ms) K s=vcs P ms K (s.set d (.lit (.int .i64 n))):=rfl
theorem PV(d:Nat)(fn:Fn)(a b:List ai):vcs P (.eK d fn a b::ms) K s=vcs P ms K (s.set d (.func fn (a.map fun x=>(x.ev s.env).erase) (b.map fun x=>(x.ev s.env).erase))):=rfl
def kW(d:Nat)(cs:List AV)(off:Nat)(e:Bool):Option Nat→Prop
 |none=>off<cs.length∧vcs P ms K (s.set d (if e then (cs.getD off .any).erase else cs.getD off .any))
 |some n=>off+n≤cs.length∧vcs P ms K (s.set d (.agg (((cs.drop off).take n).map AV.erase0)))
theorem vB(x:AV):x.erase.erase=x.erase:=by
 cases x<;>first|rfl|skip
 show AV.agg _=AV.agg _
 rw[Db]
def EU(d:Nat)(off:Nat)(n:Option Nat):Option (List AV)→Prop
 |some cs=>kW P ms K s d cs off false n
 |none=>False
def s9(d:Nat)(n:Option Nat):AV→Prop
 |.ref cs=>kW P ms K s d cs 0 true n
 |.Yq b off=>EU P ms K s d off n (s.loc b)
 |_=>False
theorem PW(d:Nat)(x:ai)(n:Option Nat):vcs P (.load d x n::ms) K s=s9 P ms K s d n (x.ev s.env):=by
 rw[show vcs P (.load d x n::ms) K s=dr s.loc (x.ev s.env) n (fun v=>vcs P ms K (s.set d v)) from rfl]
 unfold dr s9
 cases x.ev s.env<;>first|rfl|skip
 cases n with
 |none=>rfl
 |some k=>simp only[kW,cC,vB];rfl
def EV(off n br:Nat)(b:Nat)(y:AV):Option (List AV)→Prop
 |some cs=>off+n≤cs.length∧y.cells.length=n∧y.cells.all AV.bH=true∧
   match y with
   |.slice sz xs r=>if r=0∨br=0 then vcs P ms K (s.new b (splice cs off [.slice sz xs 0])) else vcs P ms K (((s.aK r).aK br).new b ((cs.map (fun x=>aG br (aG r x))).set off (.slice sz xs br)))
   |y=>vcs P ms K (s.new b (splice cs off (y.cells.map AV.erase0)))
 |none=>False
def zw(n br:Nat)(y:AV):AV→Prop
 |.Yq b off=>EV P ms K s off n br b y (s.loc b)
 |_=>False
theorem PX(x y:ai)(n br:Nat):vcs P (.store x y n br::ms) K s=zw P ms K s n br (y.ev s.env) (x.ev s.env):=by
 rw[show vcs P (.store x y n br::ms) K s=ju s (x.ev s.env) (y.ev s.env) n br (vcs P ms K) from rfl]
 unfold ju zw
 cases x.ev s.env<;>first|rfl|skip
def EW(k n:Nat)(y:AV):AV→Option (List AV)→Prop
 |.Yq b 0,some cs=>cs.length=n∧y.cells.length=n∧y.cells.all AV.bH=true∧vcs P ms K (s.Yu k b (y.cells.map AV.erase0))
 |_,_=>False
def vC:AV→Nat
 |.Yq b _=>b
 |_=>0
theorem PY(k:Nat)(y:ai)(n:Nat):vcs P (.bJ k y n::ms) K s=EW P ms K s k n (y.ev s.env) (s.env k) (s.loc (vC (s.env k))):=by
 show(match s.env k with|.Yq b 0=>_|_=>_)=_
 cases s.env k<;>first|rfl|skip
 rename_i b off
 cases off with
 |zero=>simp only[vC];cases s.loc b<;>rfl
 |succ o=>simp only[vC];cases s.loc b<;>rfl
def EX(d off:Nat):AV→Prop
 |.ref cs=>vcs P ms K (s.set d (.ref (cs.drop off)))
 |.Yq b o=>vcs P ms K (s.set d (.Yq b (o+off)))
 |_=>False
theorem PZ(d:Nat)(x:ai)(off:Nat):vcs P (.addr d x off::ms) K s=EX P ms K s d off (x.ev s.env):=by
 show(match x.ev s.env with|.ref cs=>_|.Yq b o=>_|_=>_)=_
 cases x.ev s.env<;>rfl
def zx(d sz:Nat):AV→AV→Prop
 |.slice sz' xs _,.lit (.int _ n)=>sz'=sz∧0≤n∧n<xs.length∧vcs P ms K (s.set d (.ref (xs.getD n.toNat .any).cells))
 |.aP b off len _ sz',.lit (.int _ n)=>sz'=sz∧0≤n∧n<len∧vcs P ms K (s.set d (.Yq b (off+n.toNat*sz)))
 |_,_=>False
theorem P0(d:Nat)(x i:ai)(sz:Nat):vcs P (.aU d x i sz::ms) K s=zx P ms K s d sz (x.ev s.env) (i.ev s.env):=by
 show(match x.ev s.env,i.ev s.env with|.slice sz' xs _,.lit (.int _ n)=>_|.aP b off len _ sz',.lit (.int _ n)=>_|_,_=>_)=_
 unfold zx;rfl
def zy(d len sz:Nat):AV→AV→Prop
 |.ref cs,.lit (.int _ n)=>0≤n∧n<len∧vcs P ms K (s.set d (.ref (cs.drop (n.toNat*sz))))
 |.Yq b off,.lit (.int _ n)=>0≤n∧n<len∧vcs P ms K (s.set d (.Yq b (off+n.toNat*sz)))
 |_,_=>False
theorem P1(d:Nat)(x i:ai)(len sz:Nat):vcs P (.bV d x i len sz::ms) K s=zy P ms K s d len sz (x.ev s.env) (i.ev s.env):=by unfold zy;rfl
def zz(d off:Nat)(n:Option Nat):AV→Prop
 |.agg cs=>kW P ms K s d cs off true n
 |_=>False
theorem P2(d:Nat)(x:ai)(off:Nat)(n:Option Nat):vcs P (.kH d x off n::ms) K s=zz P ms K s d off n (x.ev s.env):=by
 show(match x.ev s.env with|.agg cs=>_|_=>_)=_
 cases x.ev s.env<;>first|rfl|skip
 cases n with
 |none=>rfl
 |some k=>simp only[zz,kW,cC,vB];rfl
def zA(d len sz:Nat)(n:Option Nat):AV→AV→Prop
 |.agg cs,.lit (.int _ j)=>0≤j∧j<len∧kW P ms K s d cs (j.toNat*sz) true n
 |_,_=>False
theorem P3(d:Nat)(x i:ai)(len sz:Nat)(n:Option Nat):vcs P (.kI d x i len sz n::ms) K s=zA P ms K s d len sz n (x.ev s.env) (i.ev s.env):=by
 show(match x.ev s.env,i.ev s.env with|.agg cs,.lit (.int _ j)=>_|_,_=>_)=_
 unfold zA
 split
 ·cases n with
  |none=>rfl
  |some k=>simp only[kW,cC,vB];rfl
 ·rfl
def zB(d:Nat):AV→AV→Prop
 |.lit (.string t),.lit (.int _ j)=>0≤j∧j<t.size∧vcs P ms K (s.set d (.lit (.int .u8 (t.data.toList.getD j.toNat 0).toNat)))
 |_,_=>False
theorem P4(d:Nat)(x i:ai):vcs P (.jU d x i::ms) K s=zB P ms K s d (x.ev s.env) (i.ev s.env):=by unfold zB;rfl
def zC(d:Nat):AV→Prop
 |.slice _ xs _=>vcs P ms K (s.set d (.lit (.int .i64 xs.length)))
 |.aP _ _ len _ _=>vcs P ms K (s.set d (.lit (.int .i64 len)))
 |.lit (.slice none 0 0)=>vcs P ms K (s.set d (.lit (.int .i64 0)))
 |_=>False
theorem P5(d:Nat)(x:ai):vcs P (.len d x::ms) K s=zC P ms K s d (x.ev s.env):=by unfold zC;rfl
def zD(d:Nat):AV→Prop
 |.lit (.string t)=>vcs P ms K (s.set d (.lit (.int .i64 t.size)))
 |_=>False
theorem P6(d:Nat)(x:ai):vcs P (.jV d x::ms) K s=zD P ms K s d (x.ev s.env):=by unfold zD;rfl
def zE(d:Nat):AV→Prop
 |.lit (.string t)=>vcs P ms K (s.set d (.lit (.string t)))
 |_=>False
theorem P7(d:Nat)(x:ai):vcs P (.nK d x::ms) K s=zE P ms K s d (x.ev s.env):=by unfold zE;rfl
def zF(d sz bytes:Nat):AV→AV→Prop
 |.slice jX xs r,.slice qp ys _=>r≠0∧jX=sz∧(qp=sz∨ys=[])∧(xs.length+ys.length)*bytes≤140737488355328∧xs.length+ys.length≤140737488355328∧vcs P ms K (((s.aK r).aK (d+1)).set d (.slice sz (xs++ys) (d+1)))
 |_,_=>False
theorem P8(d:Nat)(x y:ai)(sz bytes:Nat):vcs P (.app d x y sz bytes::ms) K s=zF P ms K s d sz bytes (x.ev s.env) (y.ev s.env):=by unfold zF;rfl
def cN(d:Nat)(op:BinOp)(x y:AV):Prop:=cZ op x y fun v=>vcs P ms K (s.set d v)
theorem P9(d:Nat)(op:BinOp)(x y:ai):vcs P (.bin d op x y::ms) K s=cN P ms K s d op (x.ev s.env) (y.ev s.env):=rfl
section
variable (d:Nat) (k:IntKind) (a b:Int)
theorem P_:cN P ms K s d .add (.lit (.int k a)) (.lit (.int k b))=(gX k (a+b)∧vcs P ms K (s.set d (.lit (.int k (a+b))))):=by simp only[cN,cZ,eX,true_and]
theorem Qa:cN P ms K s d .sub (.lit (.int k a)) (.lit (.int k b))=(gX k (a - b)∧vcs P ms K (s.set d (.lit (.int k (a - b))))):=by simp only[cN,cZ,eX,true_and]
theorem Qb:cN P ms K s d .mul (.lit (.int k a)) (.lit (.int k b))=(gX k (a*b)∧vcs P ms K (s.set d (.lit (.int k (a*b))))):=by simp only[cN,cZ,eX,true_and]
theorem Qc:cN P ms K s d .quo (.lit (.int k a)) (.lit (.int k b))=(b≠0∧gX k (a.tdiv b)∧vcs P ms K (s.set d (.lit (.int k (a.tdiv b))))):=by simp only[cN,cZ,eX,true_and]
theorem Qd:cN P ms K s d .rem (.lit (.int k a)) (.lit (.int k b))=(b≠0∧vcs P ms K (s.set d (.lit (.int k (a.tmod b))))):=by simp only[cN,cZ,eX,true_and]
theorem Qe:cN P ms K s d .and (.lit (.int k a)) (.lit (.int k b))=vcs P ms K (s.set d (.lit (.int k (d_ .and k a b)))):=by simp only[cN,cZ,eX,true_and]
theorem Qf:cN P ms K s d .or (.lit (.int k a)) (.lit (.int k b))=vcs P ms K (s.set d (.lit (.int k (d_ .or k a b)))):=by simp only[cN,cZ,eX,true_and]
theorem Qg:cN P ms K s d .xor (.lit (.int k a)) (.lit (.int k b))=vcs P ms K (s.set d (.lit (.int k (d_ .xor k a b)))):=by simp only[cN,cZ,eX,true_and]
theorem Qh:cN P ms K s d .andNot (.lit (.int k a)) (.lit (.int k b))=vcs P ms K (s.set d (.lit (.int k (d_ .andNot k a b)))):=by simp only[cN,cZ,eX,true_and]
theorem Qi(k':IntKind):cN P ms K s d .shl (.lit (.int k a)) (.lit (.int k' b))=(0≤b∧vcs P ms K (s.set d (.lit (.int k (k.wrap (a*2^(min b.toNat k.bits))))))):=rfl
theorem Qj(k':IntKind):cN P ms K s d .shr (.lit (.int k a)) (.lit (.int k' b))=(0≤b∧vcs P ms K (s.set d (.lit (.int k (a.fdiv (2^(min b.toNat k.bits))))))):=rfl
theorem Qk:cN P ms K s d .eql (.lit (.int k a)) (.lit (.int k b))=vcs P ms K (s.set d (.lit (.bool (a==b)))):=by simp only[cN,cZ,eX,true_and]
theorem Ql:cN P ms K s d .neq (.lit (.int k a)) (.lit (.int k b))=vcs P ms K (s.set d (.lit (.bool (a != b)))):=by simp only[cN,cZ,eX,true_and]
theorem Qm:cN P ms K s d .lss (.lit (.int k a)) (.lit (.int k b))=vcs P ms K (s.set d (.lit (.bool (decide (a<b))))):=by simp only[cN,cZ,eX,true_and]
theorem Qn:cN P ms K s d .leq (.lit (.int k a)) (.lit (.int k b))=vcs P ms K (s.set d (.lit (.bool (decide (a≤b))))):=by simp only[cN,cZ,eX,true_and]
theorem Qo:cN P ms K s d .gtr (.lit (.int k a)) (.lit (.int k b))=vcs P ms K (s.set d (.lit (.bool (decide (b<a))))):=by simp only[cN,cZ,eX,true_and,gt_iff_lt]
theorem Qp:cN P ms K s d .geq (.lit (.int k a)) (.lit (.int k b))=vcs P ms K (s.set d (.lit (.bool (decide (b≤a))))):=by simp only[cN,cZ,eX,true_and,ge_iff_le]
theorem Qq(p q:ByteArray):cN P ms K s d .eql (.lit (.string p)) (.lit (.string q))=vcs P ms K (s.set d (.lit (.bool (p.toList==q.toList)))):=rfl
theorem Qr(p q:ByteArray):cN P ms K s d .neq (.lit (.string p)) (.lit (.string q))=vcs P ms K (s.set d (.lit (.bool (!(p.toList==q.toList))))):=rfl
end
def zG(d:Nat)(neg:Bool):AV→AV→Prop
 |.lit (.bool a),.lit (.bool b)=>vcs P ms K (s.set d (.lit (.bool (if neg then !(a==b) else a==b))))
 |_,_=>False
theorem Qs(d:Nat)(neg:Bool)(x y:ai):vcs P (.lE d neg x y::ms) K s=zG P ms K s d neg (x.ev s.env) (y.ev s.env):=by unfold zG;rfl
def zH(d:Nat)(neg:Bool)(n:List Bool):AV→AV→Prop
 |.agg a,.agg b=>a.length=n.length∧b.length=n.length∧∃q,fR n a b=some q∧vcs P ms K (s.set d (.lit (.bool (if neg then !q else q))))
 |_,_=>False
theorem Qt(d:Nat)(neg:Bool)(n:List Bool)(x y:ai):vcs P (.fP d neg n x y::ms) K s=zH P ms K s d neg n (x.ev s.env) (y.ev s.env):=by unfold zH;rfl
def zI(d:Nat):AV→Prop
 |.lit (.bool a)=>vcs P ms K (s.set d (.lit (.bool (!a))))
 |_=>False
theorem Qu(d:Nat)(x:ai):vcs P (.not d x::ms) K s=zI P ms K s d (x.ev s.env):=by unfold zI;rfl
def zJ(d:Nat):AV→Prop
 |.lit (.int k a)=>gX k (0 - a)∧vcs P ms K (s.set d (.lit (.int k (0 - a))))
 |_=>False
theorem Qv(d:Nat)(x:ai):vcs P (.neg d x::ms) K s=zJ P ms K s d (x.ev s.env):=by unfold zJ;rfl
def zK(d:Nat)(k:IntKind):AV→Prop
 |.lit (.int _ a)=>vcs P ms K (s.set d (.lit (.int k (k.wrap a))))
 |_=>False
theorem Qw(d:Nat)(k:IntKind)(x:ai):vcs P (.conv d k x::ms) K s=zK P ms K s d k (x.ev s.env):=by unfold zK;rfl
def vD(d:Nat)(x y:AV):AV→Prop
 |.lit (.bool b)=>vcs P ms K (s.set d (if b then x else y))
 |_=>False
theorem Qx(d:Nat)(c x y:ai):vcs P (.pick d c x y::ms) K s=vD P ms K s d (x.ev s.env) (y.ev s.env) (c.ev s.env):=by unfold vD;rfl
def zL(d i:Nat):AV→Prop
 |.tuple vs=>i<vs.length∧vcs P ms K (s.set d (vs.getD i .any).erase)
 |_=>False
theorem Qy(d:Nat)(x:ai)(i:Nat):vcs P (.ext d x i::ms) K s=zL P ms K s d i (x.ev s.env):=by unfold zL;rfl
def zM(d:Nat):AV→AV→Prop
 |.lit (.int k a),.lit (.int _ b)=>vcs P ms K (s.set d (.lit (.int k (if b>a then b else a))))
 |_,_=>False
theorem Qz(d:Nat)(x y:ai):vcs P (.fQ d x y::ms) K s=zM P ms K s d (x.ev s.env) (y.ev s.env):=by unfold zM;rfl
def zN(d:Nat):AV→AV→Prop
 |.lit (.int k a),.lit (.int _ b)=>vcs P ms K (s.set d (.lit (.int k (if b<a then b else a))))
 |_,_=>False
theorem QA(d:Nat)(x y:ai):vcs P (.h_ d x y::ms) K s=zN P ms K s d (x.ev s.env) (y.ev s.env):=by unfold zN;rfl
def zO(d:Nat):AV→Prop
 |.ref cs=>vcs P ms K (s.set d (.ref cs))
 |.Yq b o=>vcs P ms K (s.set d (.Yq b o))
 |_=>False
theorem QB(d:Nat)(x:ai):vcs P (.bO d x::ms) K s=zO P ms K s d (x.ev s.env):=by unfold zO;rfl
def zP(d sz:Nat):AV→AV→Prop
 |.slice sz' xs _,.lit (.int _ n)=>(sz'=sz∨xs=[])∧0≤n∧n≤xs.length∧vcs P ms K (s.set d (.slice sz (xs.take n.toNat) 0))
 |_,_=>False
theorem QC(d:Nat)(x h:ai)(sz:Nat):vcs P (.iM d x h sz::ms) K s=zP P ms K s d sz (x.ev s.env) (h.ev s.env):=by unfold zP;rfl
def zQ(d sz:Nat):AV→AV→Prop
 |.slice sz' xs _,.lit (.int _ n)=>(sz'=sz∨xs=[])∧0≤n∧n≤xs.length∧vcs P ms K (s.set d (.slice sz (xs.drop n.toNat) 0))
 |_,_=>False
theorem QD(d:Nat)(x l:ai)(sz:Nat):vcs P (.nM d x l sz::ms) K s=zQ P ms K s d sz (x.ev s.env) (l.ev s.env):=by unfold zQ;rfl
def vE(d:Nat)(f:FuncId)(xs:List AV):Prop:=∃r,aA P f xs r∧vcs P ms K (s.set d r.erase)
theorem QE(d:Nat)(f:FuncId)(xs:List ai):vcs P (.call d f xs::ms) K s=vE P ms K s d f (xs.map fun x=>(x.ev s.env).erase):=rfl
theorem aj{P:Program}{ms:List Yr}{K:St→Prop}{s:St}{d:Nat}{f:FuncId}{xs:List AV}{r:AV}(h:aA P f xs r)(hk:vcs P ms K (s.set d r.erase)):vE P ms K s d f xs:=⟨r,h,hk⟩
def m_(d:Nat)(xs:List AV):AV→Prop
 |.func (.func f) first cap=>vE P ms K s d f (first++xs++cap)
 |_=>False
theorem QF(d:Nat)(x:ai)(xs:List ai):vcs P (.eV d x xs::ms) K s=m_ P ms K s d (xs.map fun x=>(x.ev s.env).erase) (x.ev s.env):=by
 show(match x.ev s.env with|.func (.func f) first cap=>_|_=>_)=_
 unfold m_ vE;rfl
def kX(want:Bool)(d:Option Nat)(m:Yr):AV→Prop
 |.lit (.bool b)=>(b=want→vcs P (m::ms) K s)∧(b=(!want)→vcs P ms K (match d with|some d=>s.set d (.tuple [])|none=>s))
 |.tuple []=>vcs P ms K (match d with|some d=>s.set d (.tuple [])|none=>s)
 |_=>False
theorem QG(g:Nat)(want:Bool)(d:Option Nat)(m:Yr):vcs P (.guard g want d m::ms) K s=kX P ms K s want d m (s.env g):=by unfold kX;rfl
theorem QH(want:Bool)(d:Nat)(m:Yr):kX P ms K s want (some d) m (.tuple [])=vcs P ms K (s.set d (.tuple [])):=rfl
theorem QI(d:Option Nat)(m:Yr):kX P ms K s true d m (.lit (.bool true))=vcs P (m::ms) K s:=by simp[kX]
theorem QJ(d:Option Nat)(m:Yr):kX P ms K s false d m (.lit (.bool false))=vcs P (m::ms) K s:=by simp[kX]
theorem QK(d:Nat)(m:Yr):kX P ms K s true (some d) m (.lit (.bool false))=vcs P ms K (s.set d (.tuple [])):=by simp[kX]
theorem QL(d:Nat)(m:Yr):kX P ms K s false (some d) m (.lit (.bool true))=vcs P ms K (s.set d (.tuple [])):=by simp[kX]
end
section
variable (P:Program) (kn:St→Prop) (ke:Nat→St→Prop) (kr:St→Prop) (s:St)
theorem QM:bz P .skip kn ke kr s=kn s:=rfl
theorem zR(ms:List Yr):bz P (.af ms) kn ke kr s=vcs P ms kn s:=rfl
theorem zS(x y:aC):bz P (.seq x y) kn ke kr s=bz P x (bz P y kn ke kr) ke kr s:=rfl
theorem QN(i:Nat):bz P (.exit i) kn ke kr s=ke i s:=rfl
theorem QO:bz P .ret kn ke kr s=kr s:=rfl
def zT(kn:St→Prop)(ke:Nat→St→Prop)(id:Nat):Nat→St→Prop:=fun i s=>if i=id then kn s else ke i s
theorem zU(id:Nat)(c:aC):bz P (.block id c) kn ke kr s=bz P c kn (zT kn ke id) kr s:=rfl
theorem QS(id i:Nat):zT kn ke id i s=if i=id then kn s else ke i s:=rfl
def aad(x y:aC):AV→Prop
 |.lit (.bool b)=>(b=true→bz P x kn ke kr s)∧(b=false→bz P y kn ke kr s)
 |_=>False
theorem EY(t:ai)(x y:aC):bz P (.cond t x y) kn ke kr s=aad P kn ke kr s x y (t.ev s.env):=by unfold aad;rfl
theorem QT(x y:aC):aad P kn ke kr s x y (.lit (.bool true))=bz P x kn ke kr s:=by simp[aad]
theorem QU(x y:aC):aad P kn ke kr s x y (.lit (.bool false))=bz P y kn ke kr s:=by simp[aad]
end
theorem bu{P:Program}{kn:St→Prop}{ke:Nat→St→Prop}{kr:St→Prop}{s:St}{x y:aC}{p:Prop}[Decidable p](h1:p→bz P x kn ke kr s)(h2:¬p→bz P y kn ke kr s):aad P kn ke kr s x y (.lit (.bool (decide p))):=⟨fun h=>h1 (of_decide_eq_true h),fun h=>h2 (of_decide_eq_false h)⟩
theorem e_{P:Program}{kn:St→Prop}{ke:Nat→St→Prop}{kr:St→Prop}{s:St}{x y:aC}{b:Bool}(h1:b=true→bz P x kn ke kr s)(h2:b=false→bz P y kn ke kr s):aad P kn ke kr s x y (.lit (.bool b)):=⟨h1,h2⟩
def zV(n:Nat)(I:Nat→St→Prop)(k:Nat)(s:St):Prop:=∃m s1,m<n - k∧qS s s1∧∃k',k'≤n∧m=n - k'∧I k' s1
theorem aN{n:Nat}{I:Nat→St→Prop}{k:Nat}{s:St}(h:k<n)(hI:I (k+1) s):zV n I k s:=⟨n - (k+1),s,by omega,.refl s,k+1,h,rfl,hI⟩
theorem bw{P:Program}{c:aC}{kn:St→Prop}{ke:Nat→St→Prop}{kr:St→Prop}{s:St}(n:Nat)(I:Nat→St→Prop)(h0:I 0 s)(hr:∀k s,k≤n→I k s→bz P c (zV n I k) ke kr s):bz P (.loop c) kn ke kr s:=by
 refine⟨fun m s=>∃k,k≤n∧m=n - k∧I k s,⟨n,s,.refl s,0,Nat.zero_le _,rfl,h0⟩,?_⟩
 rintro m s ⟨k,hk,rfl,hI⟩
 exact hr k s hk hI
attribute [simp] O4 EO O5 Z5 EP ER O6 O7 ES O8 O9 O_ Pb Pc Pd Pe Pf Pg Ph Pj Pk abH Pn Po Pp Pq Pr abI Pu Pv Pw Px Py Pz PA PB PC PD PE PF ET PG PI PJ PK PL PM PN PO PR PS PT PU PV PW PX PY PZ P0 P1 P2 P3 P4 P5 P6 P7 P8 P9 P_ Qa Qb Qc Qd Qe Qf Qg Qh Qi Qj Qk Ql Qm Qn Qo Qp Qq Qr Qs Qt Qu Qv Qw Qx Qy Qz QA QB QC QD QE QF QG QI QJ QH QK QL QM zR zS QN QO zU QS EY QT QU s9 EU kW EV zw EW vC EX zx zy zz zA zB zC zD zE zF zG zH zI zJ zK zL zM zN zO zP zQ m_ gp iU AV.bH lF gY fR Pa
theorem QV(P:Program)(ms:List Yr)(K:St→Prop)(s:St)(d:Nat)(x y:AV):vD P ms K s d x y (.lit (.bool true))=vcs P ms K (s.set d x):=rfl
theorem QW(P:Program)(ms:List Yr)(K:St→Prop)(s:St)(d:Nat)(x y:AV):vD P ms K s d x y (.lit (.bool false))=vcs P ms K (s.set d y):=rfl
attribute [simp] QV QW
theorem i64{n:Int}(h1: -9223372036854775808≤n)(h2:n≤9223372036854775807):gX .i64 n:=⟨h1,h2⟩
theorem QX(P:Program)(ms:List Yr)(K:St→Prop)(s:St)(d:Nat)(z:List AV)(ps:List (Nat×Nat×ai)):vcs P (.build d z ps::ms) K s=lF s.env z ps (fun cs=>vcs P ms K (s.set d (.agg cs))):=rfl
theorem QY(P:Program)(ms:List Yr)(K:St→Prop)(s:St)(d n sz:Nat)(z:List AV)(ps:List (Nat×ai)):vcs P (.aO d n sz z ps::ms) K s=gY s.env sz (List.replicate n (if sz=1 then z.getD 0 .any else .agg z)) ps (fun xs=>vcs P ms K ((s.aK (d+1)).set d (.slice sz xs (d+1)))):=rfl
theorem QZ(P:Program)(ms:List Yr)(K:St→Prop)(s:St)(d n:Nat)(x:ai):vcs P (.mE d x n::ms) K s=((x.ev s.env).cells.length=n∧∀b,s.loc b=none→vcs P ms K ((s.new b ((x.ev s.env).cells.map AV.erase0)).set d (.Yq b 0))):=rfl
theorem Q0(P:Program)(ms:List Yr)(K:St→Prop)(s:St)(d:Nat)(z:List AV):vcs P (.alloc d z::ms) K s=(∀b,s.loc b=none→vcs P ms K ((s.new b z).set d (.Yq b 0))):=rfl
theorem Q1(P:Program)(ms:List Yr)(K:St→Prop)(s:St)(d:Nat)(x:ai):vcs P (.eW d x::ms) K s=vcs P ms K (s.set d (x.ev s.env).erase):=rfl
theorem Q2(P:Program)(ms:List Yr)(K:St→Prop)(s:St)(zs:List ai)(x:ai)(m:Yr):vcs P (.apart zs x m::ms) K s=((∀z∈zs,nR (z.ev s.env) (x.ev s.env))∧vcs P (m::ms) K s):=rfl
attribute [simp] QX QY QZ Q0 Q1 Q2 nR
def vF(P:Program)(ms:List Yr)(K:St→Prop)(s:St)(d:Nat)(xs:List AV):AV→AV→Prop
 |.func (.yield l) [] [],.ghost l' (y::rest) false=>l=l'∧xs=y∧vcs P ms K ((s.set gS (.ghost l rest false)).set d (.lit (.bool true)))∧vcs P ms K ((s.set gS (.ghost l rest true)).set d (.lit (.bool false)))
 |_,_=>False
theorem Q3(P:Program)(ms:List Yr)(K:St→Prop)(s:St)(d:Nat)(x:ai)(xs:List ai):vcs P (.mG d x xs::ms) K s=vF P ms K s d (xs.map fun x=>(x.ev s.env).erase) (x.ev s.env) (s.env gS):=by
 show(match x.ev s.env,s.env gS with|.func (.yield l) [] [],.ghost l' (y::rest) false=>_|_,_=>False)=_
 unfold vF;rfl
theorem Q4{P:Program}{ms:List Yr}{K:St→Prop}{s:St}{d l:Nat}{xs y:List AV}{rest:List (List AV)}:vF P ms K s d xs (.func (.yield l) [] []) (.ghost l (y::rest) false)=(xs=y∧vcs P ms K ((s.set gS (.ghost l rest false)).set d (.lit (.bool true)))∧vcs P ms K ((s.set gS (.ghost l rest true)).set d (.lit (.bool false)))):=by simp[vF]
theorem Q5(l:Nat)(r:List (List AV))(b:Bool):(AV.ghost l r b).erase=.ghost l r b:=rfl
theorem ZP(q l:Nat)(r:List (List AV))(b:Bool):aG q (AV.ghost l r b)=.ghost l r b:=rfl
def zW(P:Program)(ps:List Nat)(a b:aC)(kn:St→Prop)(ke:Nat→St→Prop)(kr:St→Prop)(s:St):AV→Prop
 |.func (.func f) first cap=>Ez P f first cap ps.length s (fun I k y st=>bz P a (bz P b (fun s2=>I (k+1) (back s s2)) (fun i s2=>ke i (back s s2)) (fun s2=>kr (back s s2))) (fun _ _=>False) (fun _=>False) (params st ps y)) kn
 |_=>False
theorem Q6(P:Program)(kn:St→Prop)(ke:Nat→St→Prop)(kr:St→Prop)(s:St)(x:ai)(ps:List Nat)(a b:aC):bz P (.oc x ps a b) kn ke kr s=zW P ps a b kn ke kr s (x.ev s.env):=by unfold zW;rfl
theorem Q7(s s2:St)(k:Nat):(back s s2).env k=if gS≤k then s2.env k else (s.env k).erase:=rfl
theorem Q8(s s2:St):(back s s2).loc=s2.loc:=rfl
theorem Q9(s:St)(p:Nat)(ps:List Nat)(x:AV)(xs:List AV):params s (p::ps) (x::xs)=params (s.set p x.erase) ps xs:=rfl
theorem Q_(s:St)(xs:List AV):params s [] xs=s:=rfl
@[simp] theorem Xt (cs:List AV):noMark [.agg cs]=true:=rfl
@[simp] theorem Xu (s:ByteArray):noMark [.lit (.string s)]=true:=rfl
@[simp] theorem Xv (k:IntKind) (n:Int):noMark [.lit (.int k n)]=true:=rfl
theorem s_{P:Program}{ps:List Nat}{a b:aC}{kn:St→Prop}{ke:Nat→St→Prop}{kr:St→Prop}{s:St}{f:FuncId}{first cap:List AV}(xs:List (List AV))(I:Nat→St→Prop)(h:lV P f first cap xs)
 (hl:∀y∈xs,y.length=ps.length∧noMark y=true)(h0:I 0 (back s s))
 (hr:∀k st,k<xs.length→st=back s st→I k st→bz P a (bz P b (fun s2=>I (k+1) (back s s2)) (fun i s2=>ke i (back s s2)) (fun s2=>kr (back s s2))) (fun _ _=>False) (fun _=>False) (params st ps (xs.getD k [])))
 (he:∀st,st=back s st→I xs.length st→kn st):zW P ps a b kn ke kr s (.func (.func f) first cap):=⟨xs,h,hl,I,h0,hr,he⟩
theorem Ra(P:Program)(ms:List Yr)(K:St→Prop)(s:St)(d:Nat)(f:FuncId)(xs:List ai):vcs P (.dZ d f xs::ms) K s=YZ P f (xs.map fun x=>(x.ev s.env).erase) s (fun r s'=>vcs P ms K (s'.set d r)):=rfl
def zX(P:Program)(ms:List Yr)(K:St→Prop)(s:St)(d:Nat)(xs:List AV):AV→Prop
 |.func (.func f) first cap=>YZ P f (first++xs++cap) s (fun r s'=>vcs P ms K (s'.set d r))
 |_=>False
theorem Rb(P:Program)(ms:List Yr)(K:St→Prop)(s:St)(d:Nat)(x:ai)(xs:List ai):vcs P (.jW d x xs::ms) K s=zX P ms K s d (xs.map fun x=>(x.ev s.env).erase) (x.ev s.env):=by unfold zX;rfl
def zY(P:Program)(ms:List Yr)(K:St→Prop)(s:St)(d pos:Nat)(y:AV):AV→AV→Prop
 |.func (.yield l) [] [],.ghost l' (z::rest) false=>l=l'∧∃z0 b sz len cap cs,z=[z0,mark pos]∧y=putAt z0 pos (.aP b 0 len cap sz)∧s.loc b=some cs∧ZK z0 pos sz len cap cs∧vcs P ms K ((s.set gS (.ghost l rest false)).set d (.lit (.bool true)))∧vcs P ms K ((s.set gS (.ghost l rest true)).set d (.lit (.bool false)))
 |_,_=>False
theorem Rc(P:Program)(ms:List Yr)(K:St→Prop)(s:St)(d pos:Nat)(x y:ai):vcs P (.nN d x pos y::ms) K s=zY P ms K s d pos (y.ev s.env).erase (x.ev s.env) (s.env gS):=by unfold zY;rfl
def zZ(P:Program)(pos:Nat)(ps:List Nat)(a b:aC)(kn:St→Prop)(ke:Nat→St→Prop)(kr:St→Prop)(s:St):AV→Prop
 |.func (.func f) first cap=>EA P f first cap pos s (fun I k y st=>∀g sz len cap cs,st.loc g=none→ZK y pos sz len cap cs→bz P a (bz P b (fun s2=>s2.loc g=some cs∧I (k+1) (back s (s2.del g))) (fun i s2=>s2.loc g=some cs∧ke i (back s (s2.del g))) (fun s2=>s2.loc g=some cs∧kr (back s (s2.del g)))) (fun _ _=>False) (fun _=>False) (params (st.new g cs) ps [putAt y pos (.aP g 0 len cap sz)])) kn
 |_=>False
theorem abJ(P:Program)(kn:St→Prop)(ke:Nat→St→Prop)(kr:St→Prop)(s:St)(x:ai)(pos:Nat)(ps:List Nat)(a b:aC):bz P (.vt x pos ps a b) kn ke kr s=zZ P pos ps a b kn ke kr s (x.ev s.env):=by unfold zZ;rfl
theorem Re(s:St)(b k:Nat):(s.del b).env k=s.env k:=rfl
theorem Rf(s:St)(b c:Nat):(s.del b).loc c=if c=b then none else s.loc c:=rfl
theorem Rg{P:Program}{pos:Nat}{ps:List Nat}{a b:aC}{kn:St→Prop}{ke:Nat→St→Prop}{kr:St→Prop}{s:St}{f:FuncId}{first cap:List AV}(xs:List AV)(I:Nat→St→Prop)(h:lV P f first cap (xs.map fun x=>[x,mark pos]))(h0:I 0 (back s s))
 (hr:∀k st,k<xs.length→st=back s st→I k st→∀g sz len cap cs,st.loc g=none→ZK (xs.getD k .any) pos sz len cap cs→bz P a (bz P b (fun s2=>s2.loc g=some cs∧I (k+1) (back s (s2.del g))) (fun i s2=>s2.loc g=some cs∧ke i (back s (s2.del g))) (fun s2=>s2.loc g=some cs∧kr (back s (s2.del g)))) (fun _ _=>False) (fun _=>False) (params (st.new g cs) ps [putAt (xs.getD k .any) pos (.aP g 0 len cap sz)]))
 (he:∀st,st=back s st→I xs.length st→kn st):zZ P pos ps a b kn ke kr s (.func (.func f) first cap):=⟨xs,h,I,h0,hr,he⟩
attribute [simp] Ra Rb zX Rc zY abJ Re Rf
attribute [simp] Q3 Q4 Q5 ZP Q6 Q7 Q8 Q9 Q_ gS oS
def aa6(P:Program)(ms:List Yr)(K:St→Prop)(s:St)(d sz bytes:Nat)(zero:List AV):AV→AV→Prop
 |.lit (.int .i64 n),.lit (.int .i64 c)=>0≤n∧n≤c∧c*(bytes:Int)≤140737488355328∧c≤140737488355328∧c*(sz:Int)≤140737488355328∧∀b,s.loc b=none→vcs P ms K ((s.new b (List.replicate c.toNat zero).flatten).set d (.aP b 0 n.toNat c.toNat sz))
 |_,_=>False
theorem Rh(P:Program)(ms:List Yr)(K:St→Prop)(s:St)(d:Nat)(n c:ai)(sz bytes:Nat)(zero:List AV):vcs P (.eL d n c sz bytes zero::ms) K s=aa6 P ms K s d sz bytes zero (n.ev s.env) (c.ev s.env):=by unfold aa6;rfl
def ta(P:Program)(ms:List Yr)(K:St→Prop)(s:St)(d sz b off len off2 iO:Nat):Option (List AV)→Option (List AV)→Prop
 |some cs,some bW=>off+len*sz≤cs.length∧off2+iO*sz≤bW.length∧bW.all AV.bH=true∧vcs P ms K ((s.new b (splice cs off (((bW.drop off2).take (min iO len*sz)).map AV.erase0))).set d (.lit (.int .i64 (min iO len:Nat))))
 |_,_=>False
def aa7(P:Program)(ms:List Yr)(K:St→Prop)(s:St)(d sz:Nat):AV→AV→Prop
 |.aP b off len _ sz',.aP b2 off2 iO _ cq=>sz'=sz∧cq=sz∧ta P ms K s d sz b off len off2 iO (s.loc b) (s.loc b2)
 |_,_=>False
theorem Ri(P:Program)(ms:List Yr)(K:St→Prop)(s:St)(d:Nat)(x y:ai)(sz:Nat):vcs P (.nO d x y sz::ms) K s=aa7 P ms K s d sz (x.ev s.env) (y.ev s.env):=by
 unfold aa7
 show Yp P (.nO d x y sz) s (vcs P ms K)=_
 simp only[Yp]
 split
 ·rename_i b off len c1 sz' b2 off2 iO c2 cq e1 e2
  simp only[e1,e2]
  cases s.loc b with
  |none=>simp[ta]
  |some cs=>cases s.loc b2 with
   |none=>simp[ta]
   |some bW=>simp[ta]
 ·rename_i hno
  split
  ·rename_i e1 e2
   exact absurd e2 (hno _ _ _ _ _ _ _ _ _ _ e1)
  ·rfl
attribute [simp] Ri aa7 ta
theorem Rj{P:Program}{ms:List Yr}{K:St→Prop}{s:St}{d:Nat}{f:FuncId}{xs:List ai}{ys:List AV}{u:Value}(hv:jv s.loc (xs.map fun x=>(x.ev s.env).erase)=some ys)(hu:flat u=true)(h:aA P f ys (.lit u))(hk:vcs P ms K (s.set d (.lit u))):vcs P (.oH d f xs::ms) K s:=⟨ys,u,hv,hu,h,hk⟩
def aa8(P:Program)(ms:List Yr)(K:St→Prop)(s:St)(d:Nat)(xs:List AV):AV→Prop
 |.func (.func f) first cap=>∃ys u,jv s.loc (first++xs++cap)=some ys∧flat u=true∧aA P f ys (.lit u)∧vcs P ms K (s.set d (.lit u))
 |_=>False
theorem Rk(P:Program)(ms:List Yr)(K:St→Prop)(s:St)(d:Nat)(x:ai)(xs:List ai):vcs P (.oI d x xs::ms) K s=aa8 P ms K s d (xs.map fun x=>(x.ev s.env).erase) (x.ev s.env):=by
 show(match x.ev s.env with|.func (.func f) first cap=>_|_=>_)=_
 unfold aa8;rfl
attribute [simp] Rk
theorem Rl{P:Program}{ms:List Yr}{K:St→Prop}{s:St}{d:Nat}{f:FuncId}{first xs cap ys:List AV}{u:Value}(hv:jv s.loc (first++xs++cap)=some ys)(hu:flat u=true)(h:aA P f ys (.lit u))(hk:vcs P ms K (s.set d (.lit u))):aa8 P ms K s d xs (.func (.func f) first cap):=⟨ys,u,hv,hu,h,hk⟩
def aa9(P:Program)(ms:List Yr)(K:St→Prop)(s:St)(d sz:Nat):AV→AV→AV→Prop
 |.slice jX xs _,.lit (.int _ i),.lit (.int _ j)=>(i=j∧(i=0∨(jX=sz∧i=xs.length)))∧vcs P ms K ((s.aK (d+1)).set d (.slice sz (xs.take i.toNat) (d+1)))
 |_,_,_=>False
theorem Rm(P:Program)(ms:List Yr)(K:St→Prop)(s:St)(d:Nat)(x hi mx:ai)(sz:Nat):vcs P (.js d x hi mx sz::ms) K s=aa9 P ms K s d sz (x.ev s.env) (hi.ev s.env) (mx.ev s.env):=by unfold aa9;rfl
attribute [simp] Rm aa9
def aa_(P:Program)(ms:List Yr)(K:St→Prop)(s:St)(d sz:Nat):AV→AV→AV→Prop
 |.slice _ xs _,.lit (.int _ 0),.lit (.int _ 0)=>(xs=[]→vcs P ms K (s.set d (.lit (.slice none 0 0))))∧∀b off,vcs P ms K (s.set d (.aP b off 0 0 sz))
 |_,_,_=>False
theorem Rn(P:Program)(ms:List Yr)(K:St→Prop)(s:St)(d:Nat)(x hi mx:ai)(sz:Nat):vcs P (.aar d x hi mx sz::ms) K s=aa_ P ms K s d sz (x.ev s.env) (hi.ev s.env) (mx.ev s.env):=by unfold aa_;rfl
attribute [simp] Rn aa_
def vG(P:Program)(ms:List Yr)(K:St→Prop)(s:St)(d sz b off len cap:Nat)(ys:List AV):Option (List AV)→Prop
 |some cs=>ys≠[]∧len+ys.length≤cap∧off+(len+ys.length)*sz≤cs.length∧vcs P ms K ((s.new b (splice cs (off+len*sz) ((ys.flatMap AV.cells).map AV.erase0))).set d (.aP b off (len+ys.length) cap sz))
 |none=>False
def aa'(P:Program)(ms:List Yr)(K:St→Prop)(s:St)(d sz:Nat):AV→AV→Prop
 |.aP b off len cap sz',.slice cq ys _=>sz'=sz∧cq=sz∧vG P ms K s d sz b off len cap ys (s.loc b)
 |_,_=>False
theorem Ro(P:Program)(ms:List Yr)(K:St→Prop)(s:St)(d:Nat)(x y:ai)(sz:Nat):vcs P (.nP d x y sz::ms) K s=aa' P ms K s d sz (x.ev s.env) (y.ev s.env):=by
 unfold aa'
 show Yp P (.nP d x y sz) s (vcs P ms K)=_
 simp only[Yp]
 split
 ·rename_i b off len cap sz' cq ys r e1 e2
  simp only[e1,e2]
  cases s.loc b with
  |none=>simp[vG]
  |some cs=>simp[vG]
 ·rename_i hno
  split
  ·rename_i e1 e2
   exact absurd e2 (hno _ _ _ _ _ _ _ _ e1)
  ·rfl
def aba(P:Program)(ms:List Yr)(K:St→Prop)(s:St)(d sz:Nat):AV→AV→Prop
 |.aP b off _ cap sz',.lit (.int _ n)=>sz'=sz∧0≤n∧n≤cap∧vcs P ms K (s.set d (.aP b off n.toNat cap sz))
 |_,_=>False
theorem Rp(P:Program)(ms:List Yr)(K:St→Prop)(s:St)(d:Nat)(x hi:ai)(sz:Nat):vcs P (.ql d x hi sz::ms) K s=aba P ms K s d sz (x.ev s.env) (hi.ev s.env):=by unfold aba;rfl
attribute [simp] Ro aa' vG Rp aba
def lY(P:Program)(ms:List Yr)(K:St→Prop)(s:St)(d b off len cap sz:Nat)(ys:List AV)(zero:List AV):Option (List AV)→Prop
 |some cs=>off+cap*sz≤cs.length∧
  (len+ys.length≤cap→vcs P ms K ((s.new b (splice cs (off+len*sz) ((ys.flatMap AV.cells).map AV.erase0))).set d (.aP b off (len+ys.length) cap sz)))∧
  (cap<len+ys.length→∀b' r,s.loc b'=none→vcs P ms K ((s.new b' (((cs.drop off).take (len*sz)).map AV.erase0++((ys.flatMap AV.cells).map AV.erase0++(List.replicate r zero).flatten))).set d (.aP b' 0 (len+ys.length) (len+ys.length+r) sz)))
 |none=>False
def kf(P:Program)(ms:List Yr)(K:St→Prop)(s:St)(d sz bytes:Nat)(zero:List AV):AV→AV→Prop
 |.aP b off len cap sz',.slice cq ys _=>sz'=sz∧cq=sz∧ys≠[]∧(len+ys.length)*bytes≤140737488355328∧len+ys.length≤140737488355328∧
   if cap=0 then∀b r,s.loc b=none→vcs P ms K ((s.new b ((ys.flatMap AV.cells).map AV.erase0++(List.replicate r zero).flatten)).set d (.aP b 0 ys.length (ys.length+r) sz))
   else lY P ms K s d b off len cap sz ys zero (s.loc b)
 |.lit (.slice none 0 0),.slice cq ys _=>cq=sz∧ys≠[]∧ys.length*bytes≤140737488355328∧ys.length≤140737488355328∧∀b r,s.loc b=none→vcs P ms K ((s.new b ((ys.flatMap AV.cells).map AV.erase0++(List.replicate r zero).flatten)).set d (.aP b 0 ys.length (ys.length+r) sz))
 |_,_=>False
theorem Rq(P:Program)(ms:List Yr)(K:St→Prop)(s:St)(d:Nat)(x y:ai)(sz bytes:Nat)(zero:List AV):vcs P (.iN d x y sz bytes zero::ms) K s=kf P ms K s d sz bytes zero (x.ev s.env) (y.ev s.env):=by unfold kf lY;rfl
def z7(P:Program)(ms:List Yr)(K:St→Prop)(s:St)(d b off len sz' cq sz:Nat)(ys:List AV):Option (List AV)→Prop
 |some cs=>sz'=sz∧(cq=sz∨ys=[])∧off+len*sz≤cs.length∧vcs P ms K ((s.new b (splice cs off (((ys.take (min ys.length len)).flatMap AV.cells).map AV.erase0))).set d (.lit (.int .i64 (min ys.length len:Nat))))
 |none=>False
def z8(P:Program)(ms:List Yr)(K:St→Prop)(s:St)(d sz:Nat):AV→AV→Prop
 |.aP b off len _ sz',.slice cq ys _=>z7 P ms K s d b off len sz' cq sz ys (s.loc b)
 |_,_=>False
theorem Rr(P:Program)(ms:List Yr)(K:St→Prop)(s:St)(d:Nat)(x y:ai)(sz:Nat):vcs P (.oJ d x y sz::ms) K s=z8 P ms K s d sz (x.ev s.env) (y.ev s.env):=by unfold z8 z7;rfl
def z9(P:Program)(ms:List Yr)(K:St→Prop)(s:St)(d:Nat):AV→Prop
 |.lit (.string t)=>∀b,s.loc b=none→s.env (oS+b)=.any→vcs P ms K ((s.set (oS+b) (jT t 0)).set d (.Yq b 0))
 |_=>False
theorem Rs(P:Program)(ms:List Yr)(K:St→Prop)(s:St)(d:Nat)(x:ai):vcs P (.oK d x::ms) K s=z9 P ms K s d (x.ev s.env):=by unfold z9;rfl
def z_(P:Program)(ms:List Yr)(K:St→Prop)(s:St)(d:Nat):AV→Prop
 |.Yq b 0=>∃t pos,s.env (oS+b)=jT t pos∧
   (pos<t.size→vcs P ms K ((s.set (oS+b) (jT t (pos+(Utf8.decode t pos).2))).set d (.tuple [.lit (.bool true),.lit (.int .i64 pos),.lit (.int .i32 (Utf8.decode t pos).1)])))∧
   (¬pos<t.size→vcs P ms K (s.set d (.tuple [.lit (.bool false)])))
 |_=>False
theorem Rt(P:Program)(ms:List Yr)(K:St→Prop)(s:St)(d:Nat)(x:ai):vcs P (.oL d x::ms) K s=z_ P ms K s d (x.ev s.env):=by unfold z_;rfl
def Aa(P:Program)(ms:List Yr)(K:St→Prop)(s:St)(d:Nat):AV→Prop
 |.bL b=>∃es,s.env (oS+b)=aS es∧∀r,s.loc r=none→s.env (oS+r)=.any→vcs P ms K ((s.set (oS+r) (gG b es.length [])).set d (.Yq r 0))
 |_=>False
theorem Ru(P:Program)(ms:List Yr)(K:St→Prop)(s:St)(d:Nat)(x:ai):vcs P (.qm d x::ms) K s=Aa P ms K s d (x.ev s.env):=by unfold Aa;rfl
def Ab(P:Program)(ms:List Yr)(K:St→Prop)(s:St)(d:Nat):AV→Prop
 |.Yq r 0=>∃b seen es,s.env (oS+r)=gG b es.length seen∧s.env (oS+b)=aS es∧
   (∀i,i<es.length→i∉seen→vcs P ms K ((s.set (oS+r) (gG b es.length (seen++[i]))).set d (.tuple [.lit (.bool true),((es.getD i []).getD 0 .any).erase,((es.getD i []).getD 1 .any).erase])))∧
   ((∀i,i<es.length→i∈seen)→vcs P ms K (s.set d (.tuple [.lit (.bool false)])))
 |_=>False
theorem Rv(P:Program)(ms:List Yr)(K:St→Prop)(s:St)(d:Nat)(x:ai):vcs P (.qn d x::ms) K s=Ab P ms K s d (x.ev s.env):=by unfold Ab;rfl
attribute [simp] Ru Aa Rv Ab
theorem Rw(P:Program)(ms:List Yr)(K:St→Prop)(s:St)(d:Nat):vcs P (.mkMap d::ms) K s=(∀b,s.loc b=none→s.env (oS+b)=.any→vcs P ms K ((s.set (oS+b) (aS [])).set d (.bL b))):=rfl
def tc(P:Program)(ms:List Yr)(K:St→Prop)(s:St)(k b len sz:Nat):Option (List AV)→Prop
 |some cs=>len*sz≤cs.length∧cs.all AV.bH=true∧len≤140737488355328∧vcs P ms K ⟨aq s.env k (.slice sz (chunk sz cs len) 0),aq s.loc b none⟩
 |none=>False
def aaP(P:Program)(ms:List Yr)(K:St→Prop)(s:St)(k b:Nat):Option (List AV)→Prop
 |some cs=>(∃sz off,cs[off]? =some (.lit (.slice none 0 0))∧vcs P ms K ((s.aK ((k+1)*1000+off)).new b ((cs.map (aG ((k+1)*1000+off))).set off (.slice sz [] ((k+1)*1000+off)))))∨
   (∃off b2 len cap sz bW,cs[off]? =some (.aP b2 0 len cap sz)∧b2≠b∧s.loc b2=some bW∧len*sz≤bW.length∧bW.all AV.bH=true∧len≤140737488355328∧vcs P ms K ⟨s.env,aq (aq s.loc b (some (cs.set off (.slice sz (chunk sz bW len) 0)))) b2 none⟩)∨
   (∃off b2 es,cs[off]? =some (.bL b2)∧s.env (oS+b2)=aS es∧vcs P ms K ⟨aq s.env (oS+b2) .any,aq s.loc b (some (cs.set off (.fmap es)))⟩)∨
   vcs P ms K ⟨aq s.env k (.ref (cs.map AV.erase0)),aq s.loc b none⟩
 |none=>False
def tf(P:Program)(ms:List Yr)(K:St→Prop)(s:St)(k:Nat):AV→Prop
 |.aP b 0 len _ sz=>tc P ms K s k b len sz (s.loc b)
 |.Yq b 0=>aaP P ms K s k b (s.loc b)
 |.lit (.slice none 0 0)=>∃sz,vcs P ms K ⟨aq s.env k (.slice sz [] 0),s.loc⟩
 |_=>False
theorem Ac(P:Program)(ms:List Yr)(K:St→Prop)(s:St)(k:Nat):vcs P (.Yu k::ms) K s=tf P ms K s k (s.env k):=by unfold tf tc aaP;rfl
theorem vH{P:Program}{ms:List Yr}{K:St→Prop}{s:St}{k b:Nat}{cs:List AV}(off b2 len cap sz:Nat){bW:List AV}(h0:cs[off]? =some (.aP b2 0 len cap sz))(h1:b2≠b)(h2:s.loc b2=some bW)(h3:len*sz≤bW.length)(h4:bW.all AV.bH=true)(h5:len≤140737488355328)(hk:vcs P ms K ⟨s.env,aq (aq s.loc b (some (cs.set off (.slice sz (chunk sz bW len) 0)))) b2 none⟩):aaP P ms K s k b (some cs):=.inr (.inl ⟨off,b2,len,cap,sz,bW,h0,h1,h2,h3,h4,h5,hk⟩)
theorem Rx{P:Program}{ms:List Yr}{K:St→Prop}{s:St}{k b:Nat}{cs:List AV}(off b2:Nat)(es:List (List AV))(h0:cs[off]? =some (.bL b2))(h1:s.env (oS+b2)=aS es)(hk:vcs P ms K ⟨aq s.env (oS+b2) .any,aq s.loc b (some (cs.set off (.fmap es)))⟩):aaP P ms K s k b (some cs):=.inr (.inr (.inl ⟨off,b2,es,h0,h1,hk⟩))
theorem tg{P:Program}{ms:List Yr}{K:St→Prop}{s:St}{k b:Nat}{cs:List AV}(hk:vcs P ms K ⟨aq s.env k (.ref (cs.map AV.erase0)),aq s.loc b none⟩):aaP P ms K s k b (some cs):=.inr (.inr (.inr hk))
attribute [simp] Rq kf lY Rh aa6 Rr z8 z7 Rs z9 Rt z_ Rw Ac tf tc
def Ad(P:Program)(ms:List Yr)(K:St→Prop)(s:St)(d:Nat):AV→AV→Prop
 |.lit (.string t),.lit (.int _ n)=>0≤n∧n≤t.size∧vcs P ms K (s.set d (.lit (.string (t.extract n.toNat t.size))))
 |_,_=>False
theorem Ry(P:Program)(ms:List Yr)(K:St→Prop)(s:St)(d:Nat)(x l:ai):vcs P (.rY d x l::ms) K s=Ad P ms K s d (x.ev s.env) (l.ev s.env):=by unfold Ad;rfl
def Ae(P:Program)(ms:List Yr)(K:St→Prop)(s:St)(d:Nat)(n:Option Nat):AV→Prop
 |.ref cs=>kW P ms K s d cs 0 true n
 |_=>False
theorem Rz(P:Program)(ms:List Yr)(K:St→Prop)(s:St)(d:Nat)(x:ai)(n:Option Nat):vcs P (.Zo d x n::ms) K s=Ae P ms K s d n (x.ev s.env):=by
 show(match x.ev s.env with|.ref cs=>_|_=>_)=_
 unfold Ae
 cases x.ev s.env<;>first|rfl|skip
 rename_i cs
 cases n with
 |none=>rfl
 |some n=>show(_∧vcs P ms K (s.set d ((AV.agg ((cs.drop 0).take n)).erase).erase))=_;rw[vB];rfl
attribute [simp] Ry Ad Rz Ae
end Go.az
namespace Go.az
open Go.ChangeShapes Go.WideShapes Go.ChangeAt Go.RowKit
theorem Fr.kept{W W':World}(h:Fr W W')(may:MemPlace→Prop):W.keptBut W' may:=by
 obtain⟨h1,_,h3,h4,h5⟩:=h
 refine⟨h1,h3,fun i hi=> ?_⟩
 rw[h5 i hi]
 cases ho:W.heap[i]? with
 |none=>trivial
 |some o=>cases o<;>first|exact⟨rfl,rfl,rfl,fun _ _=>rfl⟩|exact .inr ⟨rfl,rfl⟩|rfl
theorem Fr.frozen{W W':World}(h:Fr W W')(a:Addr)(ha:a.block<W.heap.size):W'.frozen? a=W.frozen? a:=by
 unfold World.frozen?
 rw[h.2.2.2.2 a.block ha]
variable {H:Type} {enc:TypeId×Value→H} {P:Program}
theorem RA{f:Func}{s:ChangeSpec}{apart fresh handsOn again:Bool}{W W':World}{args:Array Value}{v:Value}{ds gs:List (DataW H)}{before pa pv:List MemPlace}
  (hW:DataW.Whole enc P f.params.toList s.vars apart W args.toList ds gs before)
  (hres:∀(b:Nat) (sp:Nat→Bool) (hd:Bool),DataW.TrodAll enc P W' b sp hd f.resultTypes.toList (v.resultList f.resultTypes.size) (s.fn H (ds++gs)).results [])
  (hargs:∀sp:Nat→Bool,(∀p∈before,sp p.block=true)→DataW.TrodAll enc P W' 0 sp true f.params.toList args.toList (s.fn H (ds++gs)).args pa)
  (hvars:∀sp:Nat→Bool,(∀p∈before,sp p.block=true)→DataW.TrodVars enc P W' sp s.vars (s.fn H (ds++gs)).vars pv)
  (hps:before=pa++pv)(hk:W.keptBut W' (· ∈before))(hfz:∀a:Addr,a.block<W.heap.size→W'.frozen? a=W.frozen? a)
  (hok:∀(j:Nat) (t:TypeId) (r:Value),f.resultTypes[j]? =some t→(v.resultList f.resultTypes.size)[j]? =some r→Value.okWide P W' .any 0 t r):
  s.post enc P f apart fresh handsOn again W args v W':=by
 have hold:∀p∈before,(fun b=>decide (b<W.heap.size)) p.block=true:=fun p hp=>by simpa using hW.lt p hp
 have hlt:=hW.lt
 refine⟨ds,gs,before,[],pa,pv,hW,hres _ _ _,hargs _ hold,hvars _ hold,World.keptBut_mono (fun p hp=>⟨hp,?_⟩) hk,fun _=> ?_⟩
 ·rw[hps,List.mem_append] at hp
  exact Or.inr hp
 ·obtain⟨_,_,_,_,_,hz,hn⟩:=hW
  refine⟨hok,_,_,([]++pa)++pv,⟨[]++pa,pv,trodAll_append (hargs _ (fun _ _=>rfl)) (hres _ _ _),hvars _ (fun _ _=>rfl),rfl,?_,?_⟩,?_⟩
  ·intro b off hp
   have jE:MemPlace.cell b off∈before:=by rw[hps];simpa using hp
   rw[hfz _ (hlt _ jE)]
   exact hz b off jE
  ·intro ha
   have:=hn ha
   rw[hps] at this
   simpa using this
  ·intro p hp _
   rw[hps]
   simpa using hp
end Go.az
namespace Go.az
open Go.ChangeShapes Go.WideShapes Go.ChangeAt Go.RowKit
def Old(w:World):aJ:=fun b _=>b<w.heap.size
def th(cs:List Value):Prop:=∀(i:Nat) a len cap,cs[i]? =some (.slice (some a) len cap)→a.spot=none
structure Cs (w:World) (xs:List AV) (cs:List Value):Prop where
 len:xs.length=cs.length
 one:xs.all AV.bH=true
 rv:∀i,RV w (Old w) (xs.getD i .any) (cs.getD i undef)
theorem Cs.nil(w:World):Cs w [] []:=⟨rfl,rfl,fun i=>by simpa using .any _⟩
theorem Cs.single{w:World}{x:AV}{v:Value}(h:RV w (Old w) x v)(h1:x.bH=true):Cs w [x] [v]:=
 ⟨rfl,by rw[List.all_cons,h1];rfl,fun i=>by cases i with
   |zero=>exact h
   |succ i=>simpa using .any _⟩
theorem Cs.append{w:World}{xs ys:List AV}{cs ds:List Value}(h:Cs w xs cs)(k:Cs w ys ds):Cs w (xs++ys) (cs++ds) where
 len:=by simp[h.len,k.len]
 one:=by simp[h.one,k.one]
 rv i:=by
  simp only[List.getD_eq_getElem?_getD,List.getElem?_append,h.len]
  by_cases hi:i<cs.length
  ·simp only[hi,if_true]
   have:=h.rv i
   simpa only[List.getD_eq_getElem?_getD] using this
  ·simp only[hi,if_false]
   have:=k.rv (i - cs.length)
   simpa only[List.getD_eq_getElem?_getD] using this
def Rd(P:Program)(pl:Bool)(t:TypeId){α:Type}(mk:α→AV)(ok:α→Prop):Prop:=
 ∀(H:Type) (enc:TypeId×Value→H) (w:World) (fuel:Nat) (cs:List Value) (d:DataW H) (ps:List MemPlace),
  DataW.trod enc P w 0 (fun _=>true) true fuel t cs=some (d,ps)→(∀n∈d.weights P t,n≤reachBytes)→(pl=true∨th cs)→
  ∃x,ok x∧Cs w (mk x).cells cs
theorem Rd.loose{P:Program}{t:TypeId}{α:Type}{mk:α→AV}{ok:α→Prop}(h:Rd P true t mk ok):Rd P false t mk ok:=fun H enc w fuel cs d ps h1 h2 _=>h H enc w fuel cs d ps h1 h2 (.inl rfl)
theorem Rd.map{P:Program}{pl:Bool}{t:TypeId}{α β:Type}{mk:α→AV}{ok:α→Prop}(h:Rd P pl t mk ok)(e:α→β){mk':β→AV}{EZ:β→Prop}(hm:∀x,mk x=mk' (e x))(ho:∀x,ok x→EZ (e x)):Rd P pl t mk' EZ:=fun H enc w fuel cs d ps h1 h2 h3=>by
 obtain⟨x,hx,hc⟩:=h H enc w fuel cs d ps h1 h2 h3
 exact⟨e x,ho x hx,hm x▸hc⟩
theorem Rd.bool{P:Program}{t:TypeId}(ht:P.underlying t=some .bool):Rd P true t (fun b:Bool=>.lit (.bool b)) (fun _=>True):=by
 intro H enc w fuel cs d ps h _ _
 cases fuel with
 |zero=>simp[DataW.trod] at h
 |succ n=>
  unfold DataW.trod at h
  rw[ht] at h
  split at h
  all_goals first|(simp_all;done)|skip
  rename_i b _ _
  exact⟨b,trivial,.single (.lit _ rfl) rfl⟩
theorem Rd.int{P:Program}{t:TypeId}{k:IntKind}(ht:P.underlying t=some (.int k)):Rd P true t (fun n:Int=>.lit (.int k n)) (fun n=>k.min≤n∧n≤k.max):=by
 intro H enc w fuel cs d ps h _ _
 cases fuel with
 |zero=>simp[DataW.trod] at h
 |succ n=>
  unfold DataW.trod at h
  rw[ht] at h
  split at h<;>simp_all
  exact⟨_,by simpa[Lit.wf] using h.1.2,.single (.lit _ rfl) rfl⟩
theorem Rd.string{P:Program}{t:TypeId}(ht:P.underlying t=some .string):Rd P true t (fun s:ByteArray=>.lit (.string s)) (fun s=>s.size≤140737488355328):=by
 intro H enc w fuel cs d ps h hn _
 cases fuel with
 |zero=>simp[DataW.trod] at h
 |succ n=>
  unfold DataW.trod at h
  rw[ht] at h
  split at h<;>simp_all
  obtain⟨_,rfl,rfl⟩:=h
  refine⟨_,?_,.single (.lit _ rfl) rfl⟩
  simp[DataW.weights,reachBytes] at hn
  omega
def YA(P:Program)(pl:Bool)(off:Nat)(fs:List Field)(tot:Nat){α:Type}(mk:α→List AV)(ok:α→Prop):Prop:=
 ∀(H:Type) (enc:TypeId×Value→H) (w:World) (fuel:Nat) (cs:List Value) (xs:List (DataW H×List MemPlace)),cs.length=tot→
  (fs.mapM fun f=>DataW.trod enc P w 0 (fun _=>true) true fuel f.type ((cs.drop f.offset).take (P.cellsOf f.type)))=some xs→
  (∀n∈DataW.weightsEach P (fs.map (·.type)) (xs.map (·.1)),n≤reachBytes)→(pl=true∨th cs)→
  ∃x,ok x∧Cs w (mk x) (cs.drop off)
theorem YA.nil{P:Program}{pl:Bool}{tot:Nat}:YA P pl tot [] tot (fun _:Unit=>[]) (fun _=>True):=by
 intro H enc w fuel cs xs hl _ _ _
 refine⟨(),trivial,?_⟩
 rw[List.drop_of_length_le (by omega)]
 exact .nil w
theorem YA.cons{P:Program}{pl:Bool}{off off' tot:Nat}{f:Field}{fs:List Field}{α β:Type}{mk:α→AV}{ok:α→Prop}{E0:β→List AV}{E1:β→Prop}
  (ho:f.offset=off)(ho':off+P.cellsOf f.type=off')(h:Rd P pl f.type mk ok)(hs:YA P pl off' fs tot E0 E1):
  YA P pl off (f::fs) tot (fun x:α×β=>(mk x.1).cells++E0 x.2) (fun x=>ok x.1∧E1 x.2):=by
 intro H enc w fuel cs xs hl hm hw hp
 rw[List.mapM_cons] at hm
 cases hf:DataW.trod enc P w 0 (fun _=>true) true fuel f.type ((cs.drop f.offset).take (P.cellsOf f.type)) with
 |none=>simp[hf] at hm
 |some y=>
  cases hr:fs.mapM fun f=>DataW.trod enc P w 0 (fun _=>true) true fuel f.type ((cs.drop f.offset).take (P.cellsOf f.type)) with
  |none=>simp[hf,hr] at hm
  |some ys=>
   simp[hf,hr] at hm
   subst hm
   obtain⟨d,ps⟩:=y
   obtain⟨x,hx,hc⟩:=h H enc w fuel _ d ps hf (fun n hn=>hw n (by simp[DataW.weightsEach,hn])) (hp.imp_right fun hs i a len cap hi=>by
    rw[List.getElem?_take] at hi
    split at hi
    ·rw[List.getElem?_drop] at hi;exact hs _ a len cap hi
    ·cases hi)
   obtain⟨x',hx',cj⟩:=hs H enc w fuel cs ys hl hr (fun n hn=>hw n (by simp[DataW.weightsEach];exact .inr (by simpa using hn))) hp
   refine⟨(x,x'),⟨hx,hx'⟩,?_⟩
   rw[ho] at hc
   have e:cs.drop off=(cs.drop off).take (P.cellsOf f.type)++cs.drop off':=by rw[←ho',←List.drop_drop,List.take_append_drop]
   rw[e]
   exact hc.append cj
theorem Rd.struct{P:Program}{pl:Bool}{t:TypeId}{fs:Array Field}{l:List Field}{tot:Nat}(ht:P.underlying t=some (.struct fs))(hl:fs.toList=l)(htot:P.cellsOf t=tot){α:Type}{mk:α→List AV}{ok:α→Prop}(h:YA P pl 0 l tot mk ok):Rd P pl t (fun x=>.agg (mk x)) ok:=by
 intro H enc w fuel cs d ps hd hw hp
 cases fuel with
 |zero=>simp[DataW.trod] at hd
 |succ n=>
  unfold DataW.trod at hd
  rw[ht] at hd
  simp only[htot,hl] at hd
  split at hd
  ·rename_i hlen
   simp only[Option.map_eq_some_iff] at hd
   obtain⟨xs,hxs,e⟩:=hd
   simp only[Prod.mk.injEq] at e
   obtain⟨rfl,rfl⟩:=e
   simp only[DataW.weights,ht,hl] at hw
   obtain⟨x,hx,hc⟩:=h H enc w n cs xs hlen hxs hw hp
   exact⟨x,hx,by simpa using hc⟩
  ·cases hd
theorem E2{a:Addr}(h:a.spot=none)(k:Nat):a.add k=⟨a.block,a.off+k,none⟩:=by
 unfold Addr.add
 split
 ·rename_i h0;subst h0;cases a;simp_all
 ·rfl
theorem RB(xs:List AV)(sz:Nat)(h:∀x∈xs,x.cells.length=sz)(q r:Nat)(hr:r<sz):(xs.flatMap AV.cells).getD (q*sz+r) .any=((xs.getD q .any).cells).getD r .any:=by
 induction xs generalizing q with
 |nil=>simp[AV.cells]
 |cons x xs ih=>
  have hx:=h x (by simp)
  cases q with
  |zero=>
   simp only[List.flatMap_cons,List.getD_eq_getElem?_getD,List.getElem?_append,hx]
   simp[hr]
  |succ q=>
   have e:(q+1)*sz+r=q*sz+r+sz:=by rw[Nat.succ_mul];omega
   have:=ih (fun y hy=>h y (by simp[hy])) q
   simp only[List.flatMap_cons,List.getD_eq_getElem?_getD,List.getElem?_append,hx] at this⊢
   rw[e,if_neg (by omega),Nat.add_sub_cancel]
   simpa using this
theorem E3{H:Type}{P:Program}{e:TypeId}:∀{ds:List (DataW H)} {d:DataW H},d∈ds→∀n∈d.weights P e,n∈DataW.weightsAll P e ds
 |_::_,_,.head _,n,hn=>by simp[DataW.weightsAll,hn]
 |_::_,_,.tail _ h,n,hn=>by
  have:=E3 h n hn
  simp[DataW.weightsAll,this]
theorem E4{α β:Type}{f:α→Option β}:∀{l:List α} {r:List β},l.mapM f=some r→r.length=l.length∧∀(i:Nat) x,l[i]? =some x→f x=r[i]?
 |[],r,h=>by simp at h;subst h;simp
 |a::l,r,h=>by
  rw[List.mapM_cons] at h
  cases ha:f a with
  |none=>simp[ha] at h
  |some b=>
   cases hl:l.mapM f with
   |none=>simp[ha,hl] at h
   |some rs=>
    simp[ha,hl] at h
    subst h
    obtain⟨h1,h2⟩:=E4 hl
    refine⟨by simp[h1],fun i x hx=> ?_⟩
    cases i with
    |zero=>simp at hx;subst hx;simpa using ha
    |succ i=>simp at hx;simpa using h2 i x hx
theorem Rd.sliceB{P:Program}{t e:TypeId}{sz:Nat}(ht:P.underlying t=some (.slice e))(hb:1≤P.bytesOf e)(hsz:P.cellsOf e=sz){α:Type}{mk:α→AV}{ok:α→Prop}(h:Rd P true e mk ok):Rd P false t (fun xs:List α=>.slice sz (xs.map mk) 0) (fun xs=>xs.length≤140737488355328∧xs.length*P.bytesOf e≤140737488351232∧∀x∈xs,ok x):=by
 intro H enc w fuel cs d ps hd hw hp
 have hp:th cs:=by simpa using hp
 cases fuel with
 |zero=>simp[DataW.trod] at hd
 |succ n=>
  unfold DataW.trod at hd
  rw[ht] at hd
  split at hd
  all_goals first|(simp_all;done)|skip
  ·exact⟨[],by simp,.single (.cS sz 0) rfl⟩
  ·rename_i e' a len cap he _
   have ee:e'=e:=by simpa using he.symm
   subst ee
   simp only[hsz] at hd
   split at hd
   ·rename_i hc
    simp only[Option.bind_eq_some_iff,Option.map_eq_some_iff] at hd
    obtain⟨elems,hel,rest,_,e⟩:=hd
    simp only[Prod.mk.injEq] at e
    obtain⟨rfl,rfl⟩:=e
    have hs:=hp 0 a len cap rfl
    obtain⟨h1,h2⟩:=E4 hel
    simp only[DataW.weights,ht] at hw
    have hlen:elems.length=len:=by simpa using h1
    have RC:len*P.bytesOf e'≤140737488351232:=by
     have:=hw _ (by simp;exact .inl rfl)
     simp only[hlen,reachBytes] at this
     rw[Nat.add_mul] at this
     omega
    have xX:len≤140737488355328:=by
     have:=hw _ (by simp;exact .inl rfl)
     simp only[hlen,reachBytes] at this
     have h3:(len+rest.length)*1≤(len+rest.length)*P.bytesOf e':=Nat.mul_le_mul_left _ hb
     omega
    have hx:∀i:Fin len,∃x:α,ok x∧∃cs',w.cells? 0 (a.add (i.1*sz)) sz=some cs'∧Cs w (mk x).cells cs':=fun i=>by
     have:=h2 i.1 i.1 (by simp[i.2])
     have hi:i.1<elems.length:=by rw[hlen];exact i.2
     rw[List.getElem?_eq_getElem hi] at this
     simp only[Option.bind_eq_some_iff] at this
     obtain⟨cs',mL,hd'⟩:=this
     obtain⟨x,hx,cj⟩:=h H enc w n cs' elems[i.1].1 elems[i.1].2 hd' (fun m hm=>hw m (by
      simp only[List.mem_cons,List.mem_append]
      exact .inr (.inl (E3 (List.mem_map.2 ⟨elems[i.1],List.getElem_mem hi,rfl⟩) m hm)))) (.inl rfl)
     exact⟨x,hx,cs',mL,cj⟩
    obtain⟨g,hg⟩:=Classical.axiomOfChoice hx
    have hz:∃zs:List α,zs.length=len∧∀i (hi:i<zs.length),ok zs[i]∧∃cs',w.cells? 0 (a.add (i*sz)) sz=some cs'∧Cs w (mk zs[i]).cells cs':=⟨List.ofFn g,by simp,fun i hi=>by simpa using hg ⟨i,by simpa using hi⟩⟩
    clear hg g hx
    obtain⟨zs,hzl,hz⟩:=hz
    refine⟨zs,⟨by omega,by rw[hzl];exact RC,fun x hx=> ?_⟩,?_⟩
    ·obtain⟨i,hi,rfl⟩:=List.mem_iff_getElem.1 hx
     exact(hz i hi).1
    ·have hcell:∀x∈zs.map mk,x.cells.length=sz:=fun y hy=>by
      obtain⟨x,hx,rfl⟩:=List.mem_map.1 hy
      obtain⟨i,hi,rfl⟩:=List.mem_iff_getElem.1 hx
      obtain⟨_,cs',mL,cj⟩:=hz i hi
      rw[cj.len,(World.cells?_some mL).2.1]
     refine .single ?_ rfl
     have ea:a=⟨a.block,a.off,none⟩:=by cases a;simp_all
     have fo:∀i,i<len*sz→∃v,w.cell? ⟨a.block,a.off+i,none⟩=some v∧a.block<w.heap.size∧RV w (Old w) (((zs.map mk).flatMap AV.cells).getD i .any) v:=fun i hi=>by
      have mJ:0<sz:=by
       rcases Nat.eq_zero_or_pos sz with h0|h0
       ·rw[h0] at hi;omega
       ·exact h0
      have hq:i / sz<zs.length:=by rw[hzl];exact Nat.div_lt_of_lt_mul (by rw[Nat.mul_comm];exact hi)
      have hr:i%sz<sz:=Nat.mod_lt _ mJ
      obtain⟨_,cs',mL,cj⟩:=hz (i / sz) hq
      have cu:=(World.cells?_some mL).2.1
      have hce:=(World.cells?_some mL).2.2 (i%sz) hr
      have RD:(a.add (i / sz*sz)).add (i%sz)=⟨a.block,a.off+i,none⟩:=by
       rw[E2 hs,E2 rfl]
       have:=Nat.div_add_mod i sz
       rw[Nat.mul_comm] at this
       simp only[Addr.mk.injEq,and_true,true_and]
       omega
      rw[RD,List.getElem?_eq_getElem (by omega)] at hce
      refine⟨_,hce,?_,?_⟩
      ·unfold World.cell? at hce
       by_cases hlt:a.block<w.heap.size
       ·exact hlt
       ·rw[Array.getElem?_eq_none (by simpa using hlt)] at hce
        cases hce
      ·have e1:=RB (zs.map mk) sz hcell (i / sz) (i%sz) hr
       rw[show i / sz*sz+i%sz=i from by rw[Nat.mul_comm];exact Nat.div_add_mod i sz] at e1
       rw[e1]
       have e2:(zs.map mk).getD (i / sz) .any=mk zs[i / sz]:=by simp[List.getD_eq_getElem?_getD,hq]
       rw[e2]
       have:=cj.rv (i%sz)
       rw[show cs'.getD (i%sz) undef=cs'[i%sz]'(by omega) from by simp[List.getD_eq_getElem?_getD,show i%sz<cs'.length by omega]] at this
       exact this
     have hl':(zs.map mk).length=len:=by simp[hzl]
     rw[ea,←hl']
     refine .slice sz _ 0 a.block a.off cap (fun i=>(w.cell? ⟨a.block,a.off+i,none⟩).getD undef) hcell (fun y hy=> ?_) (by rw[hl'];omega) (by rw[hl'];exact xX) (fun i hi=> ?_) fun i=> ?_
     ·obtain⟨x,hx,rfl⟩:=List.mem_map.1 hy
      obtain⟨i,hi,rfl⟩:=List.mem_iff_getElem.1 hx
      obtain⟨_,cs',mL,cj⟩:=hz i hi
      exact cj.one
     ·rw[hl'] at hi
      obtain⟨v,hv,hb',_⟩:=fo i hi
      exact⟨by rw[hv];rfl,hb'⟩
     ·by_cases hi:i<len*sz
      ·obtain⟨v,hv,_,hr⟩:=fo i hi
       rw[hv]
       exact hr
      ·rw[List.getD_eq_getElem?_getD,List.getElem?_eq_none (by rw[fH sz _ hcell,hl'];omega)]
       exact .any _
   ·cases hd
theorem Rd.row{P:Program}{pl:Bool}{e:TypeId}{sz:Nat}(hsz:P.cellsOf e=sz){α:Type}{mk:α→AV}{ok:α→Prop}(h:Rd P pl e mk ok){H:Type}{enc:TypeId×Value→H}{w:World}{fuel:Nat}{cs:List Value}(hp:pl=true∨th cs):
  ∀(n k:Nat) (xs:List (DataW H×List MemPlace)),cs.length=(k+n)*sz→
   ((List.range' k n).mapM fun i=>DataW.trod enc P w 0 (fun _=>true) true fuel e ((cs.drop (i*sz)).take sz))=some xs→
   (∀m∈DataW.weightsAll P e (xs.map (·.1)),m≤reachBytes)→
   ∃ys:List α,ys.length=n∧(∀y∈ys,ok y)∧Cs w (ys.flatMap fun y=>(mk y).cells) (cs.drop (k*sz))
 |0,k,xs,hl,_,_=>⟨[],rfl,by simp,by rw[List.drop_of_length_le (by rw[hl];simp)];exact .nil w⟩
 |n+1,k,xs,hl,hm,hw=>by
  rw[List.range'_succ,List.mapM_cons] at hm
  cases hf:DataW.trod enc P w 0 (fun _=>true) true fuel e ((cs.drop (k*sz)).take sz) with
  |none=>simp[hf] at hm
  |some y=>
   cases hr:(List.range' (k+1) n).mapM fun i=>DataW.trod enc P w 0 (fun _=>true) true fuel e ((cs.drop (i*sz)).take sz) with
   |none=>simp[hf,hr] at hm
   |some zs=>
    simp[hf,hr] at hm
    subst hm
    obtain⟨d,ps⟩:=y
    obtain⟨x,hx,hc⟩:=h H enc w fuel _ d ps hf (fun m hm=>hw m (by simp[DataW.weightsAll,hm])) (hp.imp_right fun hs i a len cap hi=>by
     rw[List.getElem?_take] at hi
     split at hi
     ·rw[List.getElem?_drop] at hi;exact hs _ a len cap hi
     ·cases hi)
    obtain⟨ys,h1,h2,h3⟩:=Rd.row hsz h hp n (k+1) zs (by rw[hl];congr 1;omega) hr (fun m hm=>hw m (by simp[DataW.weightsAll];exact .inr (by simpa using hm)))
    refine⟨x::ys,by simp[h1],by simpa using⟨hx,h2⟩,?_⟩
    have e:cs.drop (k*sz)=(cs.drop (k*sz)).take sz++cs.drop ((k+1)*sz):=by rw[Nat.succ_mul,←List.drop_drop,List.take_append_drop]
    rw[e,List.flatMap_cons]
    exact hc.append h3
theorem Rd.slice{P:Program}{t e:TypeId}{sz:Nat}(ht:P.underlying t=some (.slice e))(hb:1≤P.bytesOf e)(hsz:P.cellsOf e=sz){α:Type}{mk:α→AV}{ok:α→Prop}(h:Rd P true e mk ok):Rd P false t (fun xs:List α=>.slice sz (xs.map mk) 0) (fun xs=>xs.length≤140737488355328∧∀x∈xs,ok x):=(Rd.sliceB ht hb hsz h).map id (fun _=>rfl) (fun _ h=>⟨h.1,h.2.2⟩)
theorem Rd.array{P:Program}{pl:Bool}{t e:TypeId}{n sz:Nat}(ht:P.underlying t=some (.array n e))(hsz:P.cellsOf e=sz)(htot:P.cellsOf t=n*sz){α:Type}{mk:α→AV}{ok:α→Prop}(h:Rd P pl e mk ok):Rd P pl t (fun xs:List α=>.agg (xs.flatMap fun y=>(mk y).cells)) (fun xs=>xs.length=n∧∀x∈xs,ok x):=by
 intro H enc w fuel cs d ps hd hw hp
 cases fuel with
 |zero=>simp[DataW.trod] at hd
 |succ f=>
  unfold DataW.trod at hd
  rw[ht] at hd
  simp only[htot,hsz] at hd
  split at hd
  ·rename_i hlen
   simp only[Option.map_eq_some_iff] at hd
   obtain⟨xs,hxs,e⟩:=hd
   simp only[Prod.mk.injEq] at e
   obtain⟨rfl,rfl⟩:=e
   simp only[DataW.weights,ht] at hw
   rw[List.range_eq_range'] at hxs
   obtain⟨ys,h1,h2,h3⟩:=Rd.row hsz h hp n 0 xs (by simpa using hlen) hxs hw
   exact⟨ys,⟨h1,h2⟩,by simpa[AV.cells] using h3⟩
  ·cases hd
end Go.az
namespace Go.az
open Go.ChangeShapes Go.WideShapes Go.ChangeAt Go.RowKit
variable {H:Type} {enc:TypeId×Value→H} {P:Program}
theorem Cell.spot{w:World}{b:Nat}{u:TypeId}{a:Addr}{len cap:Nat}(h:Cell.okWide P w .any b u (.slice (some a) len cap)):a.spot=none:=by
 unfold Cell.okWide at h
 split at h
 all_goals first|(simp_all;done)|skip
 unfold Cell.ok at h
 split at h
 all_goals first|(simp_all;done)|skip
 ·rename_i he
  cases he
  exact h.2.2.2.1
theorem RE{w:World}{b:Nat}{t:TypeId}{cs:Array Value}(h:Row.okWide P w .any b t cs):th cs.toList:=by
 intro i a len cap hi
 obtain⟨ts,_,_,hc⟩:=h
 obtain⟨u,_,hu⟩:=hc i _ (by simpa using hi)
 exact Cell.spot hu
theorem Af{w:World}{b:Nat}{t:TypeId}{v:Value}{d:DataW H}{ps:List MemPlace}(ht:(∃fs,P.underlying t=some (.struct fs))∨∃n e,P.underlying t=some (.array n e))
  (hval:Value.okWide P w .any b t v)(hd:DataW.Trod enc P w 0 (fun _=>true) true t v d ps)(hw:∀n∈d.weights P t,n≤reachBytes){α:Type}{mk:α→List AV}{ok:α→Prop}
  (h:Rd P false t (fun x=>.agg (mk x)) ok):∃x,ok x∧RV w (Old w) (.agg (mk x)) v:=by
 have hv:∃cs,v=.agg cs∧Row.okWide P w .any b t cs:=by
  unfold Value.okWide at hval
  rcases ht with ⟨fs,ht⟩|⟨n,e,ht⟩
  all_goals
   rw[ht] at hval
   obtain⟨cs,h1,_,h2⟩:=hval
   exact⟨cs,h1,h2⟩
 obtain⟨cs,rfl,hrow⟩:=hv
 obtain⟨fuel,hd⟩:=hd
 obtain⟨x,hx,hc⟩:=h H enc w fuel _ d ps hd hw (.inr (by simpa[Value.cells] using RE hrow))
 refine⟨x,hx,.agg _ _ (by simpa[AV.cells,Value.cells] using hc.len.symm) fun i=> ?_⟩
 have:=hc.rv i
 simpa[AV.cells,Value.cells,Array.getD_eq_getD_getElem?,List.getD_eq_getElem?_getD] using this
theorem Ag{t:TypeId}{ts:List TypeId}{d:DataW H}{ds:List (DataW H)}(h:(DataW.weightsEach P (t::ts) (d::ds)).all (· ≤reachBytes)=true):(∀n∈d.weights P t,n≤reachBytes)∧(DataW.weightsEach P ts ds).all (· ≤reachBytes)=true:=by
 simp only[DataW.weightsEach,List.all_append,Bool.and_eq_true] at h
 exact⟨fun n hn=>by simpa using List.all_eq_true.1 h.1 n hn,h.2⟩
theorem Fr.same{W W':World}(h:Fr W W'){p:MemPlace}(hp:p.block<W.heap.size):W.sameAt W' p:=by
 have hb:=h.2.2.2.2 p.block hp
 cases p with
 |cell b off=>simp only[MemPlace.block] at hb;simp only[World.sameAt,World.cell?,hb]
 |map b=>exact hb
theorem E5(hl:laidOutB P=true){W W':World}{sp:Nat→Bool}:∀{ts:List TypeId} {vs:List Value} {ds:List (DataW H)} {ps:List MemPlace},
  (∀t∈ts,P.readableRec t=true∧t<P.types.size)→DataW.TrodAll enc P W 0 (fun _=>true) true ts vs ds ps→(∀p∈ps,W.sameAt W' p)→(∀p∈ps,sp p.block=true)→
  DataW.TrodAll enc P W' 0 sp true ts vs ds ps
 |[],vs,ds,ps,_,h,_,_=>by
  obtain⟨rfl,rfl,rfl⟩:=trodAll_nil h
  exact trodAll_mk0
 |t::ts,vs,ds,ps,ht,h,hs,hp=>by
  obtain⟨v,vs',d,ds',p,q,rfl,rfl,rfl,h1,h2⟩:=trodAll_cons h
  exact⟨p,q,WideElems.Trod_stays hl (ht t (by simp)).1 (ht t (by simp)).2 h1 (fun x hx=>hs x (by simp[hx])) (fun x hx=>hp x (by simp[hx])),E5 hl (fun u hu=>ht u (by simp[hu])) h2 (fun x hx=>hs x (by simp[hx])) (fun x hx=>hp x (by simp[hx])),rfl⟩
theorem RF{f:Func}{s:ChangeSpec}{tb:TypeId}(hl:laidOutB P=true)(hb:P.underlying tb=some .bool)(E6:f.resultTypes= #[tb])(hts:∀t∈f.params.toList,P.readableRec t=true∧t<P.types.size)(E7:s.vars=[])
  {W W':World}{args:Array Value}{ds:List (DataW H)}{before:List MemPlace}(hfn:(s.fn H (ds++[])).results=[.lit (.bool true)]∧(s.fn H (ds++[])).args=ds∧(s.fn H (ds++[])).vars=[])
  (hW:DataW.Whole enc P f.params.toList s.vars false W args.toList ds [] before)(hF:Fr W W'):
  s.post enc P f false true false false W args (.bool true) W':=by
 have hlt:=hW.lt
 have Ah:=hW
 obtain⟨p,q,hA,hV,rfl,hfz,YG⟩:=Ah
 rw[E7] at hV
 obtain⟨_,rfl⟩:=trodVars_none hV
 refine RA (pa:=p) (pv:=[]) hW ?_ ?_ ?_ rfl (hF.kept _) hF.frozen ?_
 ·intro b sp hd
  rw[hfn.1,E6]
  exact trodAll_cons_mk (shut_bool hb _) trodAll_mk0
 ·intro sp hsp
  rw[hfn.2.1]
  exact E5 hl hts hA (fun x hx=>hF.same (hlt x (by simp[hx]))) (fun x hx=>hsp x (by simp[hx]))
 ·intro sp _
  rw[hfn.2.2,E7]
  rfl
 ·exact ok_one E6 rfl (okWide_bool_mk hb _)
theorem RG{f:FuncId}{xs:List AV}(h:aA P f xs (.lit (.bool true))){w:World}{args:Array Value}(hs:args.size=xs.length)(hr:∀i,RV w (Old w) (xs.getD i .any) (args.getD i undef)):Calls P f args w fun e w'=>e=.returned (.bool true)∧Fr w w':=by
 refine(h.2 w (Old w) args (fun _ _ h=>h) hs hr).mono ?_
 rintro e w' ⟨v,A',rfl,hf,_,_,hr⟩
 exact⟨by rw[hr.lH],hf⟩
end Go.az
namespace Go.az
abbrev ci(n:Int):ai:=.c (.lit (.int .i64 n))
abbrev cb(b:Bool):ai:=.c (.lit (.bool b))
def aM(P:Program)(k:Nat)(a:cv):Option (Option aC×Option (List aI)×Bool×Nat):=(P.funcs[k]?).map fun fn=>(fn.body.bind (dK P a fn.ntmps),fU P fn.results.toList,Zn P k,fn.ntmps)
variable {P:Program}
theorem aM.of{k N:Nat}{a:cv}{m:aC}{rs:List aI}(h:aM P k a=some (some m,some rs,true,N)):∃fn,P.funcs[k]? =some fn∧fn.body.bind (dK P a fn.ntmps)=some m∧fU P fn.results.toList=some rs∧Zn P k=true∧fn.ntmps=N:=by
 unfold aM at h
 cases hf:P.funcs[k]? with
 |none=>rw[hf] at h;cases h
 |some fn=>
  rw[hf,Option.map_some] at h
  simp only[Option.some.injEq,Prod.mk.injEq] at h
  exact⟨fn,rfl,h.1,h.2.1,h.2.2.1,h.2.2.2⟩
theorem pc{k N:Nat}{a:cv}{m:aC}{rs:List aI}{xs:List AV}{r:AV}(h:aM P k a=some (some m,some rs,true,N))(hl:xs.length≤N∧N≤1000000)(hv:(∀i,Fits (xs.getD i .any))→bz P m (fun s=>gp s rs fun ys=>r=iU ys) (fun _ _=>False) (fun s=>gp s rs fun ys=>r=iU ys) ⟨dD xs,fun _=>none⟩):aA P k xs r:=by
 obtain⟨fn,h1,h2,h3,h4,h5⟩:=aM.of h
 exact OW h1 h2 h3 h4 (by rw[h5];exact hl) hv
theorem ic{k N:Nat}{a:cv}{m:aC}{rs:List aI}{xs:List AV}{s:St}{K:AV→St→Prop}(h:aM P k a=some (some m,some rs,true,N))(hl:xs.length≤N∧N≤1000000)(hv:(∀i,Fits (xs.getD i .any))→bz P m (fun s2=>dj s2 rs fun r=>K r (back s s2)) (fun _ _=>False) (fun s2=>dj s2 rs fun r=>K r (back s s2)) ⟨fun k=>if gS≤k then s.env k else dD xs k,s.loc⟩):YZ P k xs s K:=by
 obtain⟨fn,h1,h2,h3,h4,h5⟩:=aM.of h
 exact dZ h1 h2 h3 h4 (by rw[h5];exact hl) hv
theorem ps{k N:Nat}{a:cv}{m:aC}{first cap:List AV}{xs:List (List AV)}(h:aM P k a=some (some m,some [],true,N))(hl:first.length+1+cap.length≤N∧N≤1000000)(hv:∀l,(∀i,Fits ((first++[AV.func (.yield l) [] []]++cap).getD i .any))→bz P m (fun s=>∃rest b,s.env gS=.ghost l rest b∧(b=true∨rest=[])) (fun _ _=>False) (fun s=>∃rest b,s.env gS=.ghost l rest b∧(b=true∨rest=[])) ((St.mk (dD (first++[AV.func (.yield l) [] []]++cap)) fun _=>none).set gS (.ghost l xs false))):lV P k first cap xs:=by
 obtain⟨fn,h1,h2,h3,h4,h5⟩:=aM.of h
 exact OZ h1 h2 h3 h4 (by rw[h5];exact hl) hv
end Go.az
