/- Control, loops, and a function's contract. A function's results; contracts of functions and of iterators out of their resolved code. The contract of a call that is part of its caller's party, out of the function's resolved code. The rules by which a walk over resolved code goes: one head for each operation that looks at its operands. From a contract in the layer Avm to the row's own words. From a law's arguments, as the model reads them, to abstract values. A law's arguments: what they say, and that they read behind the call as they did. One fact for a function's resolved code, and its contract out of it. -/
import Derived.Test.YtnncgmimhdplfaaGreatZB
import Derived.ProofKit
import Derived.OpenShut
import Derived.Carry
namespace Go.aq
open Go.RowKit
inductive ay where
 |skip
 |aa (ms:List MOp)
 |seq (x y:ay)
 |cond (t:ai) (x y:ay)
 |block (id:Nat) (c:ay)
 |loop (c:ay)
 |exit (id:Nat)
 |ret
 |mg (x:ai) (ps:List Nat) (assign body:ay)
 |afx (x:ai) (pos:Nat) (ps:List Nat) (assign body:ay)
 deriving Inhabited
def rH(s s1:St):Prop:=(∀k,gS≤k→s1.env k=s.env k)∧∀(N:Nat) (a:Act) (w:World) (A:aN) (sp:Sp),RS N s a w A sp→∃A1 dW,RS N s1 a w A1 dW∧Ev w A (live s.loc sp) w A1 (live s1.loc dW)
theorem rH.refl(s:St):rH s s:=⟨fun _ _=>rfl,fun _ _ _ A sp h=>⟨A,sp,h,.refl _ _ _⟩⟩
def SO(body:(St→Prop)→St→Prop)(s:St):Prop:=∃I:Nat→St→Prop,(∃n s1,rH s s1∧I n s1)∧∀n s,I n s→body (fun s'=>∃m s1,m<n∧rH s' s1∧I m s1) s
def H_(P:Program)(f:FuncId)(first cap:List AV)(np:Nat)(s:St)(Bu:(Nat→St→Prop)→Nat→List AV→St→Prop)(kn:St→Prop):Prop:=∃xs,iF P f first cap xs∧(∀y∈xs,y.length=np∧noMark y=true)∧∃I:Nat→St→Prop,I 0 (back s s)∧(∀k st,k<xs.length→st=back s st→I k st→Bu I k (xs.getD k []) st)∧(∀st,st=back s st→I xs.length st→kn st)
def Ia(P:Program)(f:FuncId)(first cap:List AV)(pos:Nat)(s:St)(Bu:(Nat→St→Prop)→Nat→AV→St→Prop)(kn:St→Prop):Prop:=∃xs:List AV,iF P f first cap (xs.map fun x=>[x,mark pos])∧∃I:Nat→St→Prop,I 0 (back s s)∧(∀k st,k<xs.length→st=back s st→I k st→Bu I k (xs.getD k .any) st)∧(∀st,st=back s st→I xs.length st→kn st)
def bz(P:Program):ay→(St→Prop)→(Nat→St→Prop)→(St→Prop)→St→Prop
 |.skip,kn,_,_,s=>kn s
 |.aa ms,kn,_,_,s=>vcs P ms kn s
 |.seq x y,kn,ke,kr,s=>bz P x (bz P y kn ke kr) ke kr s
 |.cond t x y,kn,ke,kr,s=>match t.ev s.env with
  |.lit (.bool b)=>(b=true→bz P x kn ke kr s)∧(b=false→bz P y kn ke kr s)
  |_=>False
 |.block id c,kn,ke,kr,s=>bz P c kn (fun i s=>if i=id then kn s else ke i s) kr s
 |.loop c,_,ke,kr,s=>SO (fun kn s=>bz P c kn ke kr s) s
 |.exit id,_,ke,_,s=>ke id s
 |.ret,_,_,kr,s=>kr s
 |.mg x ps assign body,kn,ke,kr,s=>match x.ev s.env with
  |.func (.func f) first cap=>H_ P f first cap ps.length s (fun I k y st=>bz P assign (bz P body (fun s2=>I (k+1) (back s s2)) (fun i s2=>ke i (back s s2)) (fun s2=>kr (back s s2))) (fun _ _=>False) (fun _=>False) (params st ps y)) kn
  |_=>False
 |.afx x pos ps assign body,kn,ke,kr,s=>match x.ev s.env with
  |.func (.func f) first cap=>Ia P f first cap pos s (fun I k y st=>∀b sz len cap cs,st.loc b=none→kN y pos sz len cap cs→bz P assign (bz P body (fun s2=>s2.loc b=some cs∧I (k+1) (back s (s2.del b))) (fun i s2=>s2.loc b=some cs∧ke i (back s (s2.del b))) (fun s2=>s2.loc b=some cs∧kr (back s (s2.del b)))) (fun _ _=>False) (fun _=>False) (params (st.new b cs) ps [putAt y pos (.aV b 0 len cap sz)])) kn
  |_=>False
def SP(aG:cn):Operand→Option Nat
 |.tmp t=>match look aG.rl t 0 with
  |0=>none
  |pos+1=>some pos
 |_=>none
def dw(P:Program)(aG:cn)(N:Nat):Code→Option ay
 |.skip=>some .skip
 |.region id ops false=>(xC (trG P aG N) P aG N ops ops.toList).map fun ms=>.aa (ms++(uw aG N id).map .bG)
 |.region id ops true=>(Bs (uc P aG N) P aG N id ops).map fun ms=>.aa (ms++(uw aG N id).map .bG)
 |.seq x y=>match dw P aG N x,dw P aG N y with
  |some x,some y=>some (.seq x y)
  |_,_=>none
 |.cond t x y=>match aF t,dw P aG N x,dw P aG N y with
  |some t,some x,some y=>some (.cond t x y)
  |_,_,_=>none
 |.block id c=>(dw P aG N c).map (.block id)
 |.loop c=>(dw P aG N c).map .loop
 |.exit id=>some (.exit id)
 |.ret=>some .ret
 |.scope c=>dw P aG N c
 |.label _=>some .skip
 |.rangeFunc g ps assign body=>match aF g,dw P aG N assign,dw P aG N body with
  |some x,some y,some z=>if ps.toList.all (· <N) then (match SP aG g with
   |some pos=>if ps.toList.length=1 then some (.afx x pos ps.toList y z) else none
   |none=>some (.mg x ps.toList y z)) else none
  |_,_,_=>none
 |_=>none
def Ends(kn:St→Prop)(ke:Nat→St→Prop)(kr:St→Prop):Exit→St→Prop
 |.normal,s=>kn s
 |.exit i,s=>ke i s
 |.ret,s=>kr s
 |_,_=>False
section
variable {P:Program}
def Bv(C:Ctx P)(Pt:List (Nat×Obj))(s:St)(ds:List Deferred)(w:World)(A Lx:aN)(sp:Sp)(kn:St→Prop)(ke:Nat→St→Prop)(kr:St→Prop):Exit→Act→World→Prop:=fun e a' w'=>∃s' A' bw sp' dH,(∀p∈Pt,p∈dH)∧GS C dH s' a' w' A' bw sp'∧Ev w A (join (held s sp) Lx) w' A' (join (held s' sp') bw)∧(C.ro.isSome=true→a'.defers=ds)∧Ends kn ke kr e s'
def uy(P:Program)(aG:cn)(c:Code):Prop:=∀(C:Ctx P) (m:ay) (kn:St→Prop) (ke:Nat→St→Prop) (kr:St→Prop) (Pt:List (Nat×Obj)) (s:St) (a:Act) (w:World) (A Lx:aN) (sp:Sp),C.N≤gS→dw P aG C.N c=some m→GS C Pt s a w A Lx sp→bz P m kn ke kr s→c.wpIn (Fw C.ro) 0 P (Bv C Pt s a.defers w A Lx sp kn ke kr) a w
theorem rI{b:Frame}{a:Act}{k:List Item}{cs:List Frame}{w:World}{c:Code}:step P (lone (b.atR a (.code (.scope c)::k)) cs w)=.next (lone (b.atR a (.code c::.inScope c::k)) cs w):=step_lone_go (by simp[stepG,stepG.exec,Frame.atR])
theorem SQ{b:Frame}{a:Act}{k:List Item}{cs:List Frame}{w:World}{c:Code}:step P (lone (b.atR a (.inScope c::k)) cs w)=.next (lone (b.atR a k) cs w):=step_lone_go (by simp[stepG,stepG.exec,Frame.atR])
theorem SR{F:Fence}{n:Nat}{Q:Exit→Act→World→Prop}{a:Act}{w:World}{c:Code}(hQ:∀l a w,¬Q (.goto l) a w)(h:c.wpIn F n P Q a w):(Code.scope c).wpIn F n P Q a w:=by
 intro b k cs hro hb hr
 have h0:(lone (b.atR a (.code (.scope c)::k)) cs w).fenced P F:=fenced_calm hb hr rfl
 obtain⟨e,a₁,w₁,hq,ki⟩:=h b (.inScope c::k) cs hro hb hr
 cases e with
 |normal=>exact⟨.normal,a₁,w₁,hq,.head h0 rI (StepsIn.trans ki (.one (fenced_calm hb hr rfl) SQ))⟩
 |exit id=>
  have hx:exitTo id (.inScope c::k)=exitTo id k:=by simp[exitTo]
  exact⟨.exit id,a₁,w₁,hq,fun k' hk=>.head h0 rI (ki.1 k' (by rw[hx];exact hk)),fun hr' hk=>let ⟨k₁,h1,h2⟩:=ki.2 hr' (by rw[hx];exact hk);⟨k₁,h1,.head h0 rI h2⟩⟩
 |goto l=>exact absurd hq (hQ l _ _)
 |ret=>exact⟨_,a₁,w₁,hq,.of_steps (.one h0 rI) ki⟩
 |panic ch=>exact⟨_,a₁,w₁,hq,.of_steps (.one h0 rI) ki⟩
 |outgrown=>exact⟨_,a₁,w₁,hq,.of_steps (.one h0 rI) ki⟩
abbrev aee(fn:FuncId)(t0:Array Value)(ps:Array Tmp)(assign body:Code)(dl:Nat)(st:LoopState)(pe:Option Code):Loop:={state:=st,pending:=pe,fn,tmps:=t0,params:=ps,assign,body,defers:=dl}
def af5(C:Ctx P)(s0:St)(t0:Array Value)(gA:List Deferred)(l:Nat)(rc:LoopState→Option Code→Loop)(Pm:List (Nat×Obj))(xs:List (List AV))(I:Nat→St→Prop)(ke:Nat→St→Prop)(kr:St→Prop):AV→World→aN→aN→Prop
 |.ghost l' rest false,w,A,L=>l'=l∧∃k,k≤xs.length∧rest=xs.drop k∧∃st sp Lx,GS C ((l,.loop (rc .ready none))::Pm) st ⟨t0,gA⟩ w A Lx sp∧st=back s0 st∧I k st∧L=full st sp Lx ((l,.loop (rc .ready none))::Pm)
 |.ghost l' _ true,w,A,L=>l'=l∧∃c st sp Lx,GS C ((l,.loop (rc .done (some c)))::Pm) st ⟨t0,gA⟩ w A Lx sp∧st=back s0 st∧((∃i,c=.exit i∧ke i st)∨(c=.ret∧kr st))∧L=full st sp Lx ((l,.loop (rc .done (some c)))::Pm)
 |_,_,_,_=>False
theorem Ib{C:Ctx P}{s0:St}{t0:Array Value}{gA:List Deferred}{l:Nat}{rc:LoopState→Option Code→Loop}{Pm:List (Nat×Obj)}{xs:List (List AV)}{I:Nat→St→Prop}{ke:Nat→St→Prop}{kr:St→Prop}:aho (af5 C s0 t0 gA l rc Pm xs I ke kr):=by
 intro gh w w' A A' L hx hk
 unfold af5 at hx⊢
 split at hx
 ·obtain⟨h1,k,h2,h3,st,sp,Lx,h4,h5,h6,rfl⟩:=hx
  exact⟨h1,k,h2,h3,st,sp,Lx,h4.keep hk (fun _ _ h=>.inl (.inl h)) (fun _ _ h=>.inl (.inr h)) (fun p hp _=>.inr ⟨p,hp,rfl⟩),h5,h6,rfl⟩
 ·obtain⟨h1,c,st,sp,Lx,h4,h5,h6,rfl⟩:=hx
  exact⟨h1,c,st,sp,Lx,h4.keep hk (fun _ _ h=>.inl (.inl h)) (fun _ _ h=>.inl (.inr h)) (fun p hp _=>.inr ⟨p,hp,rfl⟩),h5,h6,rfl⟩
 ·exact hx.elim
theorem Ic(s:St)(sp:Sp)(Lx:aN)(l:Nat)(o o':Obj)(Pm:List (Nat×Obj)):full s sp Lx ((l,o)::Pm)=full s sp Lx ((l,o')::Pm):=by simp[full]
theorem SS{aG:cn}{assign body:Code}(rJ:uy P aG assign)(rK:uy P aG body){C:Ctx P}{s0:St}{t0:Array Value}{gA:List Deferred}{l:Nat}{fn:FuncId}{ps:Array Tmp}{dl:Nat}{Pm:List (Nat×Obj)}
  {xs:List (List AV)}{I:Nat→St→Prop}{ke:Nat→St→Prop}{kr:St→Prop}{ma mb:ay}(aZ:C.N≤gS)(hma:dw P aG C.N assign=some ma)(hmb:dw P aG C.N body=some mb)(hps:∀p∈ps.toList,p<C.N)
  (hne:∀p∈Pm,p.1≠l)(hlen:∀y∈xs,y.length=ps.toList.length)
  (hdf:∀d∈gA,∃D,C.B≤D∧d=⟨.collected D,#[]⟩∧(D,.deferred (some []))∈Pm)(hro:∀l,C.ro=some l→∃r,(l,.loop r)∈Pm)(hdn:(gA.map (·.target)).Nodup)
  (jz:∀k st,k<xs.length→st=back s0 st→I k st→bz P ma (bz P mb (fun s2=>I (k+1) (back s0 s2)) (fun i s2=>ke i (back s0 s2)) (fun s2=>kr (back s0 s2))) (fun _ _=>False) (fun _=>False) (params st ps.toList (xs.getD k []))):
  wK P (af5 C s0 t0 gA l (aee fn t0 ps assign body dl) Pm xs I ke kr):=by
 intro l' y rest w A L vs hx hlt hav hs hr
 obtain⟨rfl,k,hk,aeA,st,sp,Lx,hG,hst,hI,rfl⟩:=hx
 have hk':k<xs.length:=by
  rcases Nat.lt_or_ge k xs.length with h|h
  ·exact h
  ·rw[List.drop_of_length_le h] at aeA;cases aeA
 rw[List.drop_eq_getElem_cons hk'] at aeA
 injection aeA with hy aeA
 have xH:xs.getD k []=y:=by rw[List.getD_eq_getElem?_getD,List.getElem?_eq_getElem hk',hy];rfl
 have uz:y.length=ps.toList.length:=hlen y (by rw[hy];exact List.getElem_mem _)
 have hl:=(hG.pt _ (List.mem_cons_self ..)).1
 simp only at hl
 refine⟨fn,_,assign,body,run_yield hl (by simp[hs,uz]),roundIn_of_wpIn trivial ?_⟩
 let C':Ctx P:={C with ro:=some l'}
 have Bw:(ps.zip vs).foldl (fun tmps (x:Tmp×Value)=>match x with|(t,a)=>tmps.setIfInBounds t a) t0=(ps.toList.zip vs.toList).foldl (fun t (p,v)=>t.setIfInBounds p v) t0:=by rw[←Array.foldl_toList,Array.toList_zip]
 have rL:GS C' ((l',.loop (aee fn t0 ps assign body dl .ready none))::Pm) (params st ps.toList y) ⟨(ps.zip vs).foldl (fun tmps (x:Tmp×Value)=>match x with|(t,a)=>tmps.setIfInBounds t a) t0,[]⟩ w A Lx sp:=by
  have hlt':∀p∈ps.toList,p<gS:=fun p hp=>Nat.lt_of_lt_of_le (hps p hp) aZ
  have hg:∀k,gS≤k→(params st ps.toList y).env k=st.env k:=fun k hk=>xE k hk _ _ _ hlt'
  have ho:∀b,(params st ps.toList y).env (oS+b)=st.env (oS+b):=fun b=>hg _ (by simp only[gS,oS];omega)
  refine⟨?_,fun k hk=>by rw[hg k hk];exact hG.ig k hk,hG.lt,by rw[xF _ _ _ _ hlt'];exact hG.ap,hG.av,by rw[hg gS (Nat.le_refl _)];exact hG.x,fun p hp=>by rw[ho];exact hG.pt p hp,fun b=>by rw[ho];exact hG.ob b,fun b o hb=>hG.oa b o (by simp only[aes,ho] at hb;exact hb),hG.bs,List.nodup_nil,by simp,fun l1 e=> ?_⟩
  ·rw[Bw]
   exact RS.params ps.toList y vs.toList st t0 hG.rs hps uz.symm (by simpa using hs) (fun i=>by have:=hr i;simpa[List.getD_eq_getElem?_getD,Array.getD_eq_getD_getElem?] using this)
  ·injection e with e;subst e;exact⟨_,List.mem_cons_self ..⟩
 have hmw:=jz k st hk' hst hI
 rw[xH] at hmw
 refine wpIn_mono (rJ C' ma _ _ _ _ _ _ w A Lx sp aZ hma rL hmw) ?_
 rintro e a1 w1 ⟨s1,A1,Lx1,dW,SU,hsub,cW,jB,kZ,hq⟩
 cases e with
 |normal=>
  have kV:=(cW.pt _ (hsub _ (List.mem_cons_self ..))).1
  refine⟨_,run_beginRound kV rfl,?_⟩
  have en:GS C' ((l',.loop (aee fn t0 ps assign body dl .busy none))::Pm) s1 a1 (w1.putObj l' (.loop (aee fn t0 ps assign body dl .busy none))) A1 Lx1 dW:=by
   refine cW.putObj (hsub _ (List.mem_cons_self ..)) (fun p hp=> ?_) (fun d hd=>by rw[kZ rfl] at hd;cases hd) (fun l1 e=> ?_)
   ·rcases List.mem_cons.1 hp with rfl|hp
    ·exact .inl ⟨rfl,rfl⟩
    ·exact .inr ⟨hsub _ (List.mem_cons_of_mem _ hp),hne p hp⟩
   ·injection e with e;subst e;exact⟨_,List.mem_cons_self ..⟩
  refine wpIn_mono (rK C' mb _ _ _ _ s1 a1 _ A1 Lx1 dW aZ hmb en hq) ?_
  rintro e a3 w3 ⟨s3,A3,bU,bW,uA,lg,gN,jC,hd3,dS⟩
  have iH:=(gN.pt _ (lg _ (List.mem_cons_self ..))).1
  have fin:∀jump:Option Code,GS C ((l',.loop (aee fn t0 ps assign body dl (if jump.isNone then .ready else .done) jump))::Pm) (back s0 s3) ⟨t0,gA⟩ (w3.putObj l' (.loop (aee fn t0 ps assign body dl (if jump.isNone then .ready else .done) jump))) A3 bU bW∧Ev w A (full st sp Lx ((l',.loop (aee fn t0 ps assign body dl .ready none))::Pm)) (w3.putObj l' (.loop (aee fn t0 ps assign body dl (if jump.isNone then .ready else .done) jump))) A3 (full (back s0 s3) bW bU ((l',.loop (aee fn t0 ps assign body dl (if jump.isNone then .ready else .done) jump))::Pm)):=by
   intro jump
   have dI:GS C' ((l',.loop (aee fn t0 ps assign body dl (if jump.isNone then .ready else .done) jump))::Pm) s3 a3 (w3.putObj l' (.loop (aee fn t0 ps assign body dl (if jump.isNone then .ready else .done) jump))) A3 bU bW:=by
    refine gN.putObj (lg _ (List.mem_cons_self ..)) (fun p hp=> ?_) (fun d hd=>by rw[hd3 rfl,kZ rfl] at hd;cases hd) (fun l1 e=> ?_)
    ·rcases List.mem_cons.1 hp with rfl|hp
     ·exact .inl ⟨rfl,rfl⟩
     ·exact .inr ⟨lg _ (List.mem_cons_of_mem _ hp),hne p hp⟩
    ·injection e with e;subst e;exact⟨_,List.mem_cons_self ..⟩
   have hEv:Ev w A (full st sp Lx ((l',.loop (aee fn t0 ps assign body dl .ready none))::Pm)) (w3.putObj l' (.loop (aee fn t0 ps assign body dl (if jump.isNone then .ready else .done) jump))) A3 (full s3 bW bU ((l',.loop (aee fn t0 ps assign body dl (if jump.isNone then .ready else .done) jump))::Pm)):=by
    have e1:=jB.agv (fun b _=>∃p∈((l',Obj.loop (aee fn t0 ps assign body dl .ready none))::Pm),b=p.1)
    have e2:Ev w1 A1 _ (w1.putObj l' (.loop (aee fn t0 ps assign body dl .busy none))) A1 _:=Ev.putObj w1 A1 (L:=join (join (held s1 dW) Lx1) (fun b _=>∃p∈((l',Obj.loop (aee fn t0 ps assign body dl .ready none))::Pm),b=p.1)) (l:=l') _ (fun o=>.inr ⟨_,List.mem_cons_self ..,rfl⟩)
    have e3:=jC.agv (fun b _=>∃p∈((l',Obj.loop (aee fn t0 ps assign body dl .ready none))::Pm),b=p.1)
    have e4:Ev w3 A3 _ (w3.putObj l' (.loop (aee fn t0 ps assign body dl (if jump.isNone then .ready else .done) jump))) A3 _:=Ev.putObj w3 A3 (L:=join (join (held s3 bW) bU) (fun b _=>∃p∈((l',Obj.loop (aee fn t0 ps assign body dl .ready none))::Pm),b=p.1)) (l:=l') _ (fun o=>.inr ⟨_,List.mem_cons_self ..,rfl⟩)
    rw[xF _ _ _ _ (fun p hp=>Nat.lt_of_lt_of_le (hps p hp) aZ)] at e1
    have e5:=((e1.trans e2).trans e3).trans e4
    rw[Ic s3 bW bU l' _ (.loop (aee fn t0 ps assign body dl .ready none))]
    exact e5
   have Bx:full (back s0 s3) bW bU ((l',.loop (aee fn t0 ps assign body dl (if jump.isNone then .ready else .done) jump))::Pm)=full s3 bW bU ((l',.loop (aee fn t0 ps assign body dl (if jump.isNone then .ready else .done) jump))::Pm):=by unfold full;rw[afm]
   rw[Bx]
   refine⟨⟨hG.rs.back hst dI.rs (fun b o v ha hv=>⟨(hEv.cell b o (hG.ae' ha).1 (hG.ae' ha).2).1.trans hv,hEv.sub b o ha⟩) dI.ig,fun k hk=>by rw[iG _ _ hk];exact dI.ig k hk,dI.lt,by rw[afm];exact dI.ap,dI.av,by rw[iG _ _ (Nat.le_refl _)];exact dI.x,fun p hp=>by rw[jA];exact dI.pt p hp,fun b=>by rw[jA];exact dI.ob b,by rw[ux];exact dI.oa,dI.bs,hdn,fun d hd=> ?_,fun l1 e=> ?_⟩,hEv⟩
   ·obtain⟨D,d1,d2,d3⟩:=hdf d hd
    exact⟨D,d1,d2,List.mem_cons_of_mem _ d3⟩
   ·obtain⟨r,hr⟩:=hro l1 e
    exact⟨r,List.mem_cons_of_mem _ hr⟩
  have j6:back s0 s3=back s0 (back s0 s3):=(xG s0 s0 s3).symm
  cases e with
  |normal=>
   obtain⟨f1,f2⟩:=fin none
   exact⟨_,_,run_endRound none iH,true,A3,_,rfl,f2,fun b o=>f1.afw,fun b o=>f1.ae',rfl,k+1,hk',aeA,back s0 s3,bW,bU,f1,j6,dS,rfl⟩
  |exit i=>
   obtain⟨f1,f2⟩:=fin (some (.exit i))
   exact⟨_,_,run_endRound (some (.exit i)) iH,false,A3,_,rfl,f2,fun b o=>f1.afw,fun b o=>f1.ae',rfl,.exit i,back s0 s3,bW,bU,f1,j6,.inl ⟨i,rfl,dS⟩,rfl⟩
  |ret=>
   obtain⟨f1,f2⟩:=fin (some .ret)
   exact⟨_,_,run_endRound (some .ret) iH,false,A3,_,rfl,f2,fun b o=>f1.afw,fun b o=>f1.ae',rfl,.ret,back s0 s3,bW,bU,f1,j6,.inr ⟨rfl,dS⟩,rfl⟩
  |goto t=>exact dS.elim
  |panic ch=>exact dS.elim
  |outgrown=>exact dS.elim
 |exit i=>exact hq.elim
 |ret=>exact hq.elim
 |goto t=>exact hq.elim
 |panic ch=>exact hq.elim
 |outgrown=>exact hq.elim
theorem SV{aG:cn}{assign body:Code}(rJ:uy P aG assign)(rK:uy P aG body){C:Ctx P}{s0:St}{t0:Array Value}{gA:List Deferred}{l:Nat}{fn:FuncId}{ps:Array Tmp}{dl:Nat}{Pm:List (Nat×Obj)}
  {xs:List AV}{pos:Nat}{I:Nat→St→Prop}{ke:Nat→St→Prop}{kr:St→Prop}{ma mb:ay}(aZ:C.N≤gS)(hma:dw P aG C.N assign=some ma)(hmb:dw P aG C.N body=some mb)(hps:∀p∈ps.toList,p<C.N)
  (hne:∀p∈Pm,p.1≠l)(hlen:ps.toList.length=1)
  (hdf:∀d∈gA,∃D,C.B≤D∧d=⟨.collected D,#[]⟩∧(D,.deferred (some []))∈Pm)(hro:∀l,C.ro=some l→∃r,(l,.loop r)∈Pm)(hdn:(gA.map (·.target)).Nodup)
  (jz:∀k st,k<xs.length→st=back s0 st→I k st→∀b sz len cap cs,st.loc b=none→kN (xs.getD k .any) pos sz len cap cs→bz P ma (bz P mb (fun s2=>s2.loc b=some cs∧I (k+1) (back s0 (s2.del b))) (fun i s2=>s2.loc b=some cs∧ke i (back s0 (s2.del b))) (fun s2=>s2.loc b=some cs∧kr (back s0 (s2.del b)))) (fun _ _=>False) (fun _=>False) (params (st.new b cs) ps.toList [putAt (xs.getD k .any) pos (.aV b 0 len cap sz)])):
  wM P (af5 C s0 t0 gA l (aee fn t0 ps assign body dl) Pm (xs.map fun x=>[x,mark pos]) I ke kr):=by
 intro l' x pos' rest w A L v g sz len cap cs hx hok hlt hav hrv um rC Ie
 obtain⟨rfl,k,hk,aeA,st,sp,Lx,kj,hst,hI,rfl⟩:=hx
 rw[List.length_map] at hk
 have hk':k<xs.length:=by
  rcases Nat.lt_or_ge k xs.length with h|h
  ·exact h
  ·rw[List.drop_of_length_le (by simpa using h)] at aeA;cases aeA
 rw[List.drop_eq_getElem_cons (by simpa using hk')] at aeA
 injection aeA with hy aeA
 rw[List.getElem_map] at hy
 injection hy with hy1 By
 injection By with By _
 have j3:=SJ By
 subst j3
 have xH:xs.getD k .any=x:=by rw[List.getD_eq_getElem?_getD,List.getElem?_eq_getElem hk',hy1];rfl
 have SW:st.loc g=none:=by
  cases hb:st.loc g with
  |none=>rfl
  |some c=>exact absurd (.inl (.inl (.inl (.inl (by rw[hb];exact fun e=>by cases e))))) (Ie 0)
 have hG:=kj.ah6 hok.2.2.2.2.2 um rC Ie
 obtain⟨y,xI⟩:∃y,y=[putAt x pos' (.aV g 0 len cap sz)]:=⟨_,rfl⟩
 have uz:y.length=ps.toList.length:=by rw[xI,hlen];rfl
 have hs:(#[v]:Array Value).size=y.length:=by rw[xI];rfl
 have hr:∀i,RV w A (y.getD i .any) ((#[v]:Array Value).getD i undef):=fun i=>by
  rw[xI]
  cases i with
  |zero=>exact hrv
  |succ i=>simp;exact .any _
 obtain⟨vs,hvs⟩:∃vs,vs=(#[v]:Array Value):=⟨_,rfl⟩
 rw[←hvs] at hs hr⊢
 have hl:=(hG.pt _ (List.mem_cons_self ..)).1
 simp only at hl
 refine⟨fn,_,assign,body,run_yield hl (by simp[hs,uz]),roundIn_of_wpIn trivial ?_⟩
 let C':Ctx P:={C with ro:=some l'}
 have Bw:(ps.zip vs).foldl (fun tmps (x:Tmp×Value)=>match x with|(t,a)=>tmps.setIfInBounds t a) t0=(ps.toList.zip vs.toList).foldl (fun t (p,v)=>t.setIfInBounds p v) t0:=by rw[←Array.foldl_toList,Array.toList_zip]
 have rL:GS C' ((l',.loop (aee fn t0 ps assign body dl .ready none))::Pm) (params (st.new g cs) ps.toList y) ⟨(ps.zip vs).foldl (fun tmps (x:Tmp×Value)=>match x with|(t,a)=>tmps.setIfInBounds t a) t0,[]⟩ w A Lx sp:=by
  have hlt':∀p∈ps.toList,p<gS:=fun p hp=>Nat.lt_of_lt_of_le (hps p hp) aZ
  have hg:∀k,gS≤k→(params (st.new g cs) ps.toList y).env k=st.env k:=fun k hk=>xE k hk _ _ _ hlt'
  have ho:∀b,(params (st.new g cs) ps.toList y).env (oS+b)=st.env (oS+b):=fun b=>hg _ (by simp only[gS,oS];omega)
  refine⟨?_,fun k hk=>by rw[hg k hk];exact hG.ig k hk,hG.lt,by rw[xF _ _ _ _ hlt'];exact hG.ap,hG.av,by rw[hg gS (Nat.le_refl _)];exact hG.x,fun p hp=>by rw[ho];exact hG.pt p hp,fun b=>by rw[ho];exact hG.ob b,fun b o hb=>hG.oa b o (by simp only[aes,ho] at hb;exact hb),hG.bs,List.nodup_nil,by simp,fun l1 e=> ?_⟩
  ·rw[Bw]
   exact RS.params ps.toList y vs.toList (st.new g cs) t0 hG.rs hps uz.symm (by simpa using hs) (fun i=>by have:=hr i;simpa[List.getD_eq_getElem?_getD,Array.getD_eq_getD_getElem?] using this)
  ·injection e with e;subst e;exact⟨_,List.mem_cons_self ..⟩
 have hmw:=jz k st hk' hst hI g sz len cap cs SW (by rw[xH];exact hok)
 rw[xH,←xI] at hmw
 refine wpIn_mono (rJ C' ma _ _ _ _ _ _ w A Lx sp aZ hma rL hmw) ?_
 rintro e a1 w1 ⟨s1,A1,Lx1,dW,SU,hsub,cW,jB,kZ,hq⟩
 cases e with
 |normal=>
  have kV:=(cW.pt _ (hsub _ (List.mem_cons_self ..))).1
  refine⟨_,run_beginRound kV rfl,?_⟩
  have en:GS C' ((l',.loop (aee fn t0 ps assign body dl .busy none))::Pm) s1 a1 (w1.putObj l' (.loop (aee fn t0 ps assign body dl .busy none))) A1 Lx1 dW:=by
   refine cW.putObj (hsub _ (List.mem_cons_self ..)) (fun p hp=> ?_) (fun d hd=>by rw[kZ rfl] at hd;cases hd) (fun l1 e=> ?_)
   ·rcases List.mem_cons.1 hp with rfl|hp
    ·exact .inl ⟨rfl,rfl⟩
    ·exact .inr ⟨hsub _ (List.mem_cons_of_mem _ hp),hne p hp⟩
   ·injection e with e;subst e;exact⟨_,List.mem_cons_self ..⟩
  refine wpIn_mono (rK C' mb _ _ _ _ s1 a1 _ A1 Lx1 dW aZ hmb en hq) ?_
  rintro e a3 w3 ⟨s3,A3,bU,bW,uA,lg,gN,jC,hd3,dS⟩
  have iH:=(gN.pt _ (lg _ (List.mem_cons_self ..))).1
  have fin:∀jump:Option Code,s3.loc g=some cs→GS C ((l',.loop (aee fn t0 ps assign body dl (if jump.isNone then .ready else .done) jump))::Pm) (back s0 (s3.del g)) ⟨t0,gA⟩ (w3.putObj l' (.loop (aee fn t0 ps assign body dl (if jump.isNone then .ready else .done) jump))) A3 bU bW∧Ev w A (join (full st sp Lx ((l',.loop (aee fn t0 ps assign body dl .ready none))::Pm)) (lU g)) (w3.putObj l' (.loop (aee fn t0 ps assign body dl (if jump.isNone then .ready else .done) jump))) A3 (join (full (back s0 (s3.del g)) bW bU ((l',.loop (aee fn t0 ps assign body dl (if jump.isNone then .ready else .done) jump))::Pm)) (lU g))∧qW (w3.putObj l' (.loop (aee fn t0 ps assign body dl (if jump.isNone then .ready else .done) jump))) A3 g cs∧(∀o,¬A3 g o)∧∀o,¬full (back s0 (s3.del g)) bW bU ((l',.loop (aee fn t0 ps assign body dl (if jump.isNone then .ready else .done) jump))::Pm) g o:=by
   intro jump xJ
   have dI:GS C' ((l',.loop (aee fn t0 ps assign body dl (if jump.isNone then .ready else .done) jump))::Pm) s3 a3 (w3.putObj l' (.loop (aee fn t0 ps assign body dl (if jump.isNone then .ready else .done) jump))) A3 bU bW:=by
    refine gN.putObj (lg _ (List.mem_cons_self ..)) (fun p hp=> ?_) (fun d hd=>by rw[hd3 rfl,kZ rfl] at hd;cases hd) (fun l1 e=> ?_)
    ·rcases List.mem_cons.1 hp with rfl|hp
     ·exact .inl ⟨rfl,rfl⟩
     ·exact .inr ⟨lg _ (List.mem_cons_of_mem _ hp),hne p hp⟩
    ·injection e with e;subst e;exact⟨_,List.mem_cons_self ..⟩
   have hEv:Ev w A (full (st.new g cs) sp Lx ((l',.loop (aee fn t0 ps assign body dl .ready none))::Pm)) (w3.putObj l' (.loop (aee fn t0 ps assign body dl (if jump.isNone then .ready else .done) jump))) A3 (full s3 bW bU ((l',.loop (aee fn t0 ps assign body dl (if jump.isNone then .ready else .done) jump))::Pm)):=by
    have e1:=jB.agv (fun b _=>∃p∈((l',Obj.loop (aee fn t0 ps assign body dl .ready none))::Pm),b=p.1)
    have e2:Ev w1 A1 _ (w1.putObj l' (.loop (aee fn t0 ps assign body dl .busy none))) A1 _:=Ev.putObj w1 A1 (L:=join (join (held s1 dW) Lx1) (fun b _=>∃p∈((l',Obj.loop (aee fn t0 ps assign body dl .ready none))::Pm),b=p.1)) (l:=l') _ (fun o=>.inr ⟨_,List.mem_cons_self ..,rfl⟩)
    have e3:=jC.agv (fun b _=>∃p∈((l',Obj.loop (aee fn t0 ps assign body dl .ready none))::Pm),b=p.1)
    have e4:Ev w3 A3 _ (w3.putObj l' (.loop (aee fn t0 ps assign body dl (if jump.isNone then .ready else .done) jump))) A3 _:=Ev.putObj w3 A3 (L:=join (join (held s3 bW) bU) (fun b _=>∃p∈((l',Obj.loop (aee fn t0 ps assign body dl .ready none))::Pm),b=p.1)) (l:=l') _ (fun o=>.inr ⟨_,List.mem_cons_self ..,rfl⟩)
    rw[xF _ _ _ _ (fun p hp=>Nat.lt_of_lt_of_le (hps p hp) aZ)] at e1
    have e5:=((e1.trans e2).trans e3).trans e4
    rw[Ic s3 bW bU l' _ (.loop (aee fn t0 ps assign body dl .ready none))]
    exact e5
   have Bx:full (back s0 (s3.del g)) bW bU ((l',.loop (aee fn t0 ps assign body dl (if jump.isNone then .ready else .done) jump))::Pm)=full (s3.del g) bW bU ((l',.loop (aee fn t0 ps assign body dl (if jump.isNone then .ready else .done) jump))::Pm):=by unfold full;rw[afm]
   obtain⟨u1,u2,u3⟩:=dI.SN xJ
   have hU:=dI.SM g
   have Ig:=hEv
   rw[H9,SK bW bU _ xJ] at Ig
   rw[Bx]
   refine⟨⟨kj.rs.back hst hU.rs (fun b o v ha hv=>⟨(hEv.cell b o (hG.ae' ha).1 (hG.ae' ha).2).1.trans hv,hEv.sub b o ha⟩) hU.ig,fun k hk=>by rw[iG _ _ hk];exact hU.ig k hk,hU.lt,by rw[afm];exact hU.ap,hU.av,by rw[iG _ _ (Nat.le_refl _)];exact hU.x,fun p hp=>by rw[jA];exact hU.pt p hp,fun b=>by rw[jA];exact hU.ob b,by rw[ux];exact hU.oa,hU.bs,hdn,fun d hd=> ?_,fun l1 e=> ?_⟩,Ig,u1,u2,u3⟩
   ·obtain⟨D,d1,d2,d3⟩:=hdf d hd
    exact⟨D,d1,d2,List.mem_cons_of_mem _ d3⟩
   ·obtain⟨r,hr⟩:=hro l1 e
    exact⟨r,List.mem_cons_of_mem _ hr⟩
  have j6:back s0 (s3.del g)=back s0 (back s0 (s3.del g)):=(xG s0 s0 (s3.del g)).symm
  cases e with
  |normal=>
   obtain⟨f1,f2,f3,f4,f5⟩:=fin none dS.1
   exact⟨_,_,run_endRound none iH,true,A3,_,rfl,f2,fun b o=>f1.afw,fun b o=>f1.ae',f4,f5,f3,rfl,k+1,by rw[List.length_map];exact hk',aeA,back s0 (s3.del g),bW,bU,f1,j6,dS.2,rfl⟩
  |exit i=>
   obtain⟨f1,f2,f3,f4,f5⟩:=fin (some (.exit i)) dS.1
   exact⟨_,_,run_endRound (some (.exit i)) iH,false,A3,_,rfl,f2,fun b o=>f1.afw,fun b o=>f1.ae',f4,f5,f3,rfl,.exit i,back s0 (s3.del g),bW,bU,f1,j6,.inl ⟨i,rfl,dS.2⟩,rfl⟩
  |ret=>
   obtain⟨f1,f2,f3,f4,f5⟩:=fin (some .ret) dS.1
   exact⟨_,_,run_endRound (some .ret) iH,false,A3,_,rfl,f2,fun b o=>f1.afw,fun b o=>f1.ae',f4,f5,f3,rfl,.ret,back s0 (s3.del g),bW,bU,f1,j6,.inr ⟨rfl,dS.2⟩,rfl⟩
  |goto t=>exact dS.elim
  |panic ch=>exact dS.elim
  |outgrown=>exact dS.elim
 |exit i=>exact hq.elim
 |ret=>exact hq.elim
 |goto t=>exact hq.elim
 |panic ch=>exact hq.elim
 |outgrown=>exact hq.elim
theorem SX{C:Ctx P}{s0:St}{t0:Array Value}{gA:List Deferred}{l:Nat}{rc:LoopState→Option Code→Loop}{Pm:List (Nat×Obj)}{xs:List AV}{pos:Nat}{I:Nat→St→Prop}{ke:Nat→St→Prop}{kr:St→Prop}:wK P (af5 C s0 t0 gA l rc Pm (xs.map fun x=>[x,mark pos]) I ke kr):=by
 intro l' y rest w A L vs hx hlt hav hs hr
 obtain⟨_,k,_,aeA,_⟩:=hx
 have hm:y∈xs.map fun x=>[x,mark pos]:=List.mem_of_mem_drop (by rw[←aeA];exact List.mem_cons_self ..)
 obtain⟨x,_,rfl⟩:=List.mem_map.1 hm
 have h1:=hr 1
 generalize vs.getD 1 undef=v at h1
 replace h1:RV w A (mark pos) v:=h1
 unfold mark at h1
 cases h1 with
 |lit _ hf=>cases hf
theorem SY{C:Ctx P}{s0:St}{t0:Array Value}{gA:List Deferred}{l:Nat}{rc:LoopState→Option Code→Loop}{Pm:List (Nat×Obj)}{xs:List (List AV)}{I:Nat→St→Prop}{ke:Nat→St→Prop}{kr:St→Prop}(hnm:∀y∈xs,noMark y=true):wM P (af5 C s0 t0 gA l rc Pm xs I ke kr):=by
 intro l' x pos rest w A L v b sz len cap cs hx
 obtain⟨_,k,_,aeA,_⟩:=hx
 have hm:[x,mark pos]∈xs:=List.mem_of_mem_drop (by rw[←aeA];exact List.mem_cons_self ..)
 have:=hnm _ hm
 simp[noMark,mark] at this
theorem GS.rM{C:Ctx P}{Pt dH:List (Nat×Obj)}{s s':St}{a a':Act}{w w':World}{A A' Lx bw:aN}{sp sp':Sp}(h:GS C Pt s a w A Lx sp)(h':GS C dH s' a' w' A' bw sp')(hsub:∀p∈Pt,p∈dH)(aS:Ev w A (full s sp Lx Pt) w' A' (full s' sp' bw dH)):Ev w A (join (held s sp) Lx) w' A' (join (held s' sp') bw):=by
 refine⟨aS.os,aS.tape,aS.output,aS.size,fun b o hb hl=> ?_,fun b hb hl=> ?_,aS.sub,fun b o ha=> ?_⟩
 ·by_cases hT:∃p∈Pt,b=p.1
  ·obtain⟨p,hp,rfl⟩:=hT
   obtain⟨g1,g2,_⟩:=h.pt p hp
   obtain⟨g3,_,g4,_⟩:=h'.pt p (hsub p hp)
   exact⟨by rw[A6 g1 g2,A6 g3 g2],fun hj=>by rcases hj with hj|hj;exact h'.pV (hsub p hp) o hj;exact g4 o hj⟩
  ·obtain⟨g1,g2⟩:=aS.cell b o hb (fun hf=>by rcases hf with hf|hf;exact hl hf;exact hT hf)
   exact⟨g1,fun hj=>g2 (.inl hj)⟩
 ·by_cases hT:∃p∈Pt,b=p.1
  ·obtain⟨p,hp,rfl⟩:=hT
   exact(h'.pt p (hsub p hp)).1.trans (h.pt p hp).1.symm
  ·exact aS.block b hb fun o hf=>by rcases hf with hf|hf;exact hl o hf;exact hT hf
 ·rcases aS.sup b o ha with g|g|g
  ·exact .inl g
  ·rcases g with g|⟨p,hp,rfl⟩
   ·exact .inr (.inl g)
   ·exact absurd ha ((h'.pt p (hsub p hp)).2.2.2.1 o)
  ·exact .inr (.inr g)
theorem Ih{C:Ctx P}{Pt:List (Nat×Obj)}{s:St}{a:Act}{w:World}{A Lx:aN}{sp:Sp}(h:GS C Pt s a w A Lx sp)(fn:FuncId)(ps:Array Tmp)(assign body:Code):
  ∃l mark dl Pm w1,(Instr.enterLoop fn a.tmps ps assign body C.ro).run P w=.ok (l,mark) w1∧GS C ((l,.loop (aee fn a.tmps ps assign body dl .ready none))::Pm) s ⟨a.tmps,mark++a.defers⟩ w1 A Lx sp∧
   (∀p∈Pm,p.1≠l)∧(∀p∈Pt,p∈Pm)∧(∀d∈mark++a.defers,∃D,C.B≤D∧d=⟨.collected D,#[]⟩∧(D,.deferred (some []))∈Pm)∧(C.ro.isSome=true→mark=[])∧(∀l,C.ro=some l→∃r,(l,.loop r)∈Pm)∧
   Ev w A (full s sp Lx Pt) w1 A (full s sp Lx ((l,.loop (aee fn a.tmps ps assign body dl .ready none))::Pm)):=by
 cases hro:C.ro with
 |none=>
  refine⟨w.heap.size+1,[{target:=.collected w.heap.size,args:= #[]}],w.heap.size,(w.heap.size,.deferred (some []))::Pt,_,run_enterLoop_outer fn a.tmps ps assign body,?_,?_,fun p hp=>List.mem_cons_of_mem _ hp,?_,fun e=>by simp at e,fun l e=>by simp at e,?_⟩
  ·have h1:=h.lay (ob:=.deferred (some [])) rfl
   have h2:=h1.lay (ob:=.loop (aee fn a.tmps ps assign body w.heap.size .ready none)) rfl
   rw[ae8] at h2
   refine⟨h2.rs,h2.ig,h2.lt,h2.ap,h2.av,h2.x,h2.pt,h2.ob,h2.oa,h2.bs,?_,fun d hd=> ?_,h2.ro⟩
   ·simp only[List.cons_append,List.nil_append,List.map_cons]
    refine List.nodup_cons.2 ⟨fun hm=> ?_,h.dn⟩
    obtain⟨d,hd,e⟩:=List.mem_map.1 hm
    obtain⟨D,d1,d2,d3⟩:=h.df d hd
    rw[d2] at e
    injection e with e
    subst e
    exact absurd (cy (h.pt _ d3).1) (Nat.lt_irrefl _)
   ·rcases List.mem_cons.1 hd with rfl|hd
    ·exact⟨_,h.bs,rfl,List.mem_cons_of_mem _ (List.mem_cons_self ..)⟩
    ·obtain⟨D,d1,d2,d3⟩:=h.df d hd
     exact⟨D,d1,d2,List.mem_cons_of_mem _ (List.mem_cons_of_mem _ d3)⟩
  ·intro p hp
   rcases List.mem_cons.1 hp with rfl|hp
   ·simp
   ·have:=cy (h.pt p hp).1;omega
  ·intro d hd
   rcases List.mem_cons.1 hd with rfl|hd
   ·exact⟨_,h.bs,rfl,List.mem_cons_self ..⟩
   ·obtain⟨D,d1,d2,d3⟩:=h.df d hd
    exact⟨D,d1,d2,List.mem_cons_of_mem _ d3⟩
  ·have e1:=h.tw (.deferred (some [])) (full s sp Lx Pt) (fun b o hl=>h.afw hl) (full s sp Lx ((w.heap.size,.deferred (some []))::Pt)) (fun b o ht=>by
    rcases ht with ht|⟨p,hp,rfl⟩
    ·exact .inl (.inl ht)
    ·rcases List.mem_cons.1 hp with rfl|hp
     ·exact .inr rfl
     ·exact .inl (.inr ⟨p,hp,rfl⟩))
   have h1:=h.lay (ob:=.deferred (some [])) rfl
   have e2:=h1.tw (.loop (aee fn a.tmps ps assign body w.heap.size .ready none)) (full s sp Lx ((w.heap.size,.deferred (some []))::Pt)) (fun b o hl=>h1.afw hl)
    (full s sp Lx ((w.heap.size+1,.loop (aee fn a.tmps ps assign body w.heap.size .ready none))::(w.heap.size,.deferred (some []))::Pt)) (fun b o ht=>by
    rcases ht with ht|⟨p,hp,rfl⟩
    ·exact .inl (.inl ht)
    ·rcases List.mem_cons.1 hp with rfl|hp
     ·exact .inr (by rw[ae8])
     ·exact .inl (.inr ⟨p,hp,rfl⟩))
   exact e1.trans e2
 |some l0=>
  obtain⟨r0,hr0⟩:=h.ro l0 hro
  refine⟨w.heap.size,[],r0.defers,Pt,_,run_enterLoop_inner (h.pt _ hr0).1 fn a.tmps ps assign body,?_,?_,fun p hp=>hp,h.df,fun _=>rfl,fun l e=>by injection e with e;subst e;exact⟨r0,hr0⟩,?_⟩
  ·exact h.lay rfl
  ·intro p hp
   have:=cy (h.pt p hp).1;omega
  ·exact h.tw _ (full s sp Lx Pt) (fun b o hl=>h.afw hl) _ (fun b o ht=>by
    rcases ht with ht|⟨p,hp,rfl⟩
    ·exact .inl (.inl ht)
    ·rcases List.mem_cons.1 hp with rfl|hp
     ·exact .inr rfl
     ·exact .inl (.inr ⟨p,hp,rfl⟩))
theorem Bz{aG:cn}:∀c:Code,uy P aG c:=by
 intro c
 induction c with
 |skip=>
  intro C m kn ke kr Pt s a w A Lx sp aZ hm h hv
  injection hm with hm;subst hm
  exact wpIn_skip ⟨s,A,Lx,sp,Pt,fun _ h=>h,h,.refl _ _ _,fun _=>rfl,hv⟩
 |label l=>
  intro C m kn ke kr Pt s a w A Lx sp aZ hm h hv
  injection hm with hm;subst hm
  exact wpIn_label ⟨s,A,Lx,sp,Pt,fun _ h=>h,h,.refl _ _ _,fun _=>rfl,hv⟩
 |scope c ih=>
  intro C m kn ke kr Pt s a w A Lx sp aZ hm h hv
  exact SR (fun l a w hq=>by obtain⟨_,_,_,_,_,_,_,_,_,hq⟩:=hq;exact hq.elim) (ih C m kn ke kr Pt s a w A Lx sp aZ hm h hv)
 |region id ops draw=>
  intro C m kn ke kr Pt s a w A Lx sp aZ hm h hv
  have fin:∀s' a' w' A' bw sp',vcs P ((uw aG C.N id).map .bG) kn s'→GS C Pt s' a' w' A' bw sp'→Ev w A (join (held s sp) Lx) w' A' (join (held s' sp') bw)→a'.defers=a.defers→Bv C Pt s a.defers w A Lx sp kn ke kr .normal a' w':=by
   intro s' a' w' A' bw sp' hk hr aS hd
   obtain⟨s2,A2,f_,g1,g2,g3⟩:=H6 (uw aG C.N id) (SI aZ) hr hk
   exact⟨s2,A2,bw,f_,Pt,fun _ h=>h,g2,aS.trans g3,fun _=>hd,g1⟩
  cases draw with
  |true=>
   simp only[dw,Option.map_eq_some_iff] at hm
   obtain⟨ms,hms,rfl⟩:=hm
   simp only[bz,Bt] at hv
   exact SA (SE aG C.N) aZ hms h hv fin
  |false=>
   simp only[dw,Option.map_eq_some_iff] at hm
   obtain⟨ms,hms,rfl⟩:=hm
   simp only[bz,Bt] at hv
   exact wpIn_region_list (HY (SD aG C.N) aZ ops.toList ms s a w A Lx sp hms h hv fin)
 |seq x y BA BB=>
  intro C m kn ke kr Pt s a w A Lx sp aZ hm h hv
  simp only[dw] at hm
  split at hm
  ·rename_i mx my h1 h2
   injection hm with hm;subst hm
   refine wpIn_seq (wpIn_mono (BA C mx _ ke kr Pt s a w A Lx sp aZ h1 h hv) ?_)
   rintro e a' w' ⟨s',A',bw,sp',dH,hsub,hr,aS,hd,hq⟩
   cases e with
   |normal=>
    refine wpIn_mono (BB C my kn ke kr dH s' a' w' A' bw sp' aZ h2 hr hq) ?_
    rintro e a2 w2 ⟨s2,A2,me,f_,m_,uB,cD,dJ,iD,hq2⟩
    exact⟨s2,A2,me,f_,m_,fun p hp=>uB p (hsub p hp),cD,aS.trans dJ,fun e=>(iD e).trans (hd e),hq2⟩
   |exit i=>exact⟨s',A',bw,sp',dH,hsub,hr,aS,hd,hq⟩
   |ret=>exact⟨s',A',bw,sp',dH,hsub,hr,aS,hd,hq⟩
   |goto l=>exact hq.elim
   |panic ch=>exact hq.elim
   |outgrown=>exact hq.elim
  ·cases hm
 |cond t x y BA BB=>
  intro C m kn ke kr Pt s a w A Lx sp aZ hm h hv
  simp only[dw] at hm
  split at hm
  ·rename_i t' mx my ht h1 h2
   injection hm with hm;subst hm
   have h3:=(bl h.rs ht).1
   simp only[bz] at hv
   split at hv
   ·rename_i b hb
    rw[hb] at h3
    have Ii:a.eval t=.bool b:=h3.afE
    cases b with
    |true=>exact wpIn_cond_true Ii (BA C mx kn ke kr Pt s a w A Lx sp aZ h1 h (hv.1 rfl))
    |false=>exact wpIn_cond_false Ii (BB C my kn ke kr Pt s a w A Lx sp aZ h2 h (hv.2 rfl))
   ·exact hv.elim
  ·cases hm
 |block id c ih=>
  intro C m kn ke kr Pt s a w A Lx sp aZ hm h hv
  simp only[dw,Option.map_eq_some_iff] at hm
  obtain⟨mc,BC,rfl⟩:=hm
  refine wpIn_block (wpIn_mono (ih C mc kn _ kr Pt s a w A Lx sp aZ BC h hv) ?_)
  rintro e a' w' ⟨s',A',bw,sp',dH,hsub,hr,aS,hd,hq⟩
  cases e with
  |normal=>exact⟨s',A',bw,sp',dH,hsub,hr,aS,hd,hq⟩
  |exit i=>
   simp only[Exit.inBlock]
   simp only[Ends] at hq
   split at hq
   ·rename_i e;rw[if_pos e];exact⟨s',A',bw,sp',dH,hsub,hr,aS,hd,hq⟩
   ·rename_i e;rw[if_neg e];exact⟨s',A',bw,sp',dH,hsub,hr,aS,hd,hq⟩
  |ret=>exact⟨s',A',bw,sp',dH,hsub,hr,aS,hd,hq⟩
  |goto l=>exact hq.elim
  |panic ch=>exact hq.elim
  |outgrown=>exact hq.elim
 |loop c ih=>
  intro C m kn ke kr Pt s a w A Lx sp aZ hm h hv
  simp only[dw,Option.map_eq_some_iff] at hm
  obtain⟨mc,BC,rfl⟩:=hm
  obtain⟨I,⟨n1,s1,SZ,hI⟩,jz⟩:=hv
  have Ij:∀{Pt:List (Nat×Obj)} {s s1:St} {a:Act} {w:World} {A Lx:aN} {sp:Sp},rH s s1→GS C Pt s a w A Lx sp→∃A1 dW,GS C Pt s1 a w A1 Lx dW∧Ev w A (join (held s sp) Lx) w A1 (join (held s1 dW) Lx):=by
   intro Pt s s1 a w A Lx sp he hg
   obtain⟨A1,dW,g1,g2⟩:=he.2 C.N ⟨a.tmps,[]⟩ w A sp hg.rs
   obtain⟨g3,g4⟩:=hg.own (a':=a) g1 g2 he.1 rfl
   exact⟨A1,dW,g3,g4⟩
  obtain⟨A1,dW,hr1,jB⟩:=Ij SZ h
  intro b k cs hro hb hroom
  have key:∀n s2 a2 w2 A2 me f_ m_,I n s2→(∀p∈Pt,p∈m_)→GS C m_ s2 a2 w2 A2 me f_→Ev w A (join (held s sp) Lx) w2 A2 (join (held s2 f_) me)→(C.ro.isSome=true→a2.defers=a.defers)→∃e a' w',Bv C Pt s a.defers w A Lx sp kn ke kr e a' w'∧ArrivesIn (Machine.fenced P (Fw C.ro)) P (lone (b.atR a2 (.code c::.inLoop c::k)) cs w2) b k cs e a' w':=by
   intro n
   induction n using Nat.strongRecOn with
   |_ n ihn=>
    intro s2 a2 w2 A2 me f_ m_ S0 uB cD dJ iD
    obtain⟨e,a3,w3,⟨s3,A3,bU,bW,uA,lg,nc,jC,hd3,dS⟩,ki⟩:=ih C mc _ ke kr m_ s2 a2 w2 A2 me f_ aZ BC cD (jz n s2 S0) b (.inLoop c::k) cs hro hb hroom
    cases e with
    |normal=>
     obtain⟨n4,s4,hlt,S1,S2⟩:=dS
     obtain⟨A4,S3,rN,S4⟩:=Ij S1 nc
     obtain⟨e5,a5,w5,BD,S5⟩:=ihn n4 hlt s4 a3 w3 A4 bU S3 uA S2 (fun p hp=>lg p (uB p hp)) rN ((dJ.trans jC).trans S4) (fun e=>(hd3 e).trans (iD e))
     exact⟨e5,a5,w5,BD,.of_steps (StepsIn.trans ki (.one (fenced_calm hb hroom rfl) stepR_inLoop)) S5⟩
    |exit id=>exact⟨.exit id,a3,w3,⟨s3,A3,bU,bW,uA,fun p hp=>lg p (uB p hp),nc,dJ.trans jC,fun e=>(hd3 e).trans (iD e),dS⟩,.pass (x:=.inLoop c) rfl (fun _ _=>.inl (by simp)) ki⟩
    |ret=>exact⟨.ret,a3,w3,⟨s3,A3,bU,bW,uA,fun p hp=>lg p (uB p hp),nc,dJ.trans jC,fun e=>(hd3 e).trans (iD e),dS⟩,.pass (x:=.inLoop c) rfl (fun _ _=>.inl (by simp)) ki⟩
    |goto l=>exact dS.elim
    |panic ch=>exact dS.elim
    |outgrown=>exact dS.elim
  obtain⟨e,a',w',hq,ki⟩:=key n1 s1 a w A1 Lx dW Pt hI (fun _ h=>h) hr1 jB (fun _=>rfl)
  exact⟨e,a',w',hq,.of_steps (.one (fenced_calm hb hroom rfl) stepR_loop) ki⟩
 |exit id=>
  intro C m kn ke kr Pt s a w A Lx sp aZ hm h hv
  injection hm with hm;subst hm
  exact wpIn_exit ⟨s,A,Lx,sp,Pt,fun _ h=>h,h,.refl _ _ _,fun _=>rfl,hv⟩
 |ret=>
  intro C m kn ke kr Pt s a w A Lx sp aZ hm h hv
  injection hm with hm;subst hm
  exact wpIn_ret ⟨s,A,Lx,sp,Pt,fun _ h=>h,h,.refl _ _ _,fun _=>rfl,hv⟩
 |rangeFunc g ps assign body rJ rK=>
  intro C m kn ke kr Pt s a w A Lx sp aZ hm h hv
  simp only[dw] at hm
  split at hm
  ·rename_i x ma mb ht hma hmb
   split at hm
   ·rename_i hps
    replace hps:∀p∈ps.toList,p<C.N:=fun p hp=>by have:=(List.all_eq_true.1 hps) p hp;simpa using this
    have hg:=(bl h.rs ht).1
    split at hm
    ·rename_i pos hpos
     split at hm
     ·rename_i BE
      injection hm with hm;subst hm
      simp only[bz] at hv
      split at hv
      ·rename_i f first cap e1
       obtain⟨S6,⟨hfn,hseq⟩,I,BF,jz,hend⟩:=hv
       obtain⟨xs,hxs⟩:∃xs,xs=S6.map fun x=>[x,mark pos]:=⟨_,rfl⟩
       rw[←hxs] at hseq
       rw[e1] at hg
       replace hg:RV w A (.func (.func f) first cap) (a.eval g):=hg
       generalize bg:a.eval g=v0 at hg
       cases hg with
       |func _ _ _ vf vc fG hsc hf hc=>
        refine wpIn_rangeFunc fun fn _=> ?_
        obtain⟨l,mark,dl,Pm,w1,BG,cW,hne,hsub,hdf,hmk,hro,jB⟩:=Ih h fn ps assign body
        have hcell:∀b o v,A b o→w.cell? ⟨b,o,none⟩=some v→w1.cell? ⟨b,o,none⟩=some v∧A b o:=fun b o v ha hv=>⟨(jB.cell b o (h.ae' ha).1 (h.ae' ha).2).1.trans hv,ha⟩
        refine⟨l,mark,w1,{target:=.fn (.func f) vc,args:=vf++ #[.func (.yield l) #[] #[]]},w1,f,(vf++ #[.func (.yield l) #[] #[]])++vc,w1,BG,?_,fun _ _=>trivial,?_,fun e=>(by cases e),?_⟩
        ·have hgg:Act.eval a g=.func (.func f) vf vc:=bg
         simp only[resolve,hgg]
         simp[go_sem,Deferred.ofValue]
        ·simp only[invoke]
         exact Br hfn _ _
        ·have kj:GS C ((l,.loop (aee fn a.tmps ps assign body dl .ready none))::Pm) (back s s) ⟨a.tmps,mark++a.defers⟩ w1 A Lx sp:=⟨cW.rs.forget,fun k hk=>by rw[iG _ _ hk];exact cW.ig k hk,cW.lt,by rw[afm];exact cW.ap,cW.av,by rw[iG _ _ (Nat.le_refl _)];exact cW.x,fun p hp=>by rw[jA];exact cW.pt p hp,fun b=>by rw[jA];exact cW.ob b,by rw[ux];exact cW.oa,cW.bs,cW.dn,cW.df,cW.ro⟩
         refine xm (Calls.mono (hseq (af5 C s a.tmps (mark++a.defers) l (aee fn a.tmps ps assign body dl) Pm xs I ke kr) l w1 A (full (back s s) sp Lx ((l,.loop (aee fn a.tmps ps assign body dl .ready none))::Pm)) _ Ib (by rw[hxs];exact SX) (by rw[hxs];exact SV rJ rK aZ hma hmb hps hne BE hdf hro cW.dn jz) (fun b o=>kj.afw) (fun b o=>kj.ae') (by simp only[Array.size_append,List.length_append,fG,hsc];rfl) (fun i=> ?_) ⟨rfl,0,Nat.zero_le _,rfl,back s s,sp,Lx,kj,(xG s s s).symm,BF,rfl⟩) ?_)
         ·have hy:RV w1 A (AV.func (.yield l) [] []) (.func (.yield l) #[] #[]):=.func _ _ _ _ _ rfl rfl (fun i=>by simp;exact .any _) (fun i=>by simp;exact .any _)
          have e2:=af2 vf.toList [Value.func (.yield l) #[] #[]] vc.toList i undef
          have e3:=af2 first [AV.func (.yield l) [] []] cap i .any
          have e4:((vf++ #[Value.func (.yield l) #[] #[]])++vc).getD i undef=(vf.toList++[Value.func (.yield l) #[] #[]]++vc.toList).getD i undef:=by simp only[List.getD_eq_getElem?_getD,Array.getD_eq_getD_getElem?,←Array.getElem?_toList,Array.toList_append]
          rw[e4,e2,e3]
          simp only[Array.length_toList,fG,List.length_singleton]
          split
          ·have:=(hf i).mono hcell
           simpa[List.getD_eq_getElem?_getD,Array.getD_eq_getD_getElem?] using this
          ·split
           ·rename_i h1 h2
            have h0:i - first.length=0:=by omega
            rw[h0];exact hy
           ·have:=(hc (i - first.length - 1)).mono hcell
            simpa[List.getD_eq_getElem?_getD,Array.getD_eq_getD_getElem?] using this
         ·rintro e w3 ⟨v,A3,L3,rest,b,rfl,jC,aeY,S7,uC,hb⟩
          cases b with
          |false=>
           obtain⟨-,k,hk,aeA,st,bW,bU,gN,hst,BH,rfl⟩:=uC
           have hr0:rest=[]:=hb.resolve_left (by simp)
           have xK:k=xs.length:=by
            rw[hr0] at aeA
            have:=congrArg List.length aeA
            simp at this;omega
           rw[hxs,List.length_map] at xK
           subst xK
           have iH:=(gN.pt _ (List.mem_cons_self ..)).1
           refine⟨none,_,run_endLoop iH (by simp),?_⟩
           have dI:GS C Pm st ⟨a.tmps,mark++a.defers⟩ (w3.putObj l (.loop {aee fn a.tmps ps assign body dl .ready none with state:=.exhausted})) A3 bU bW:=gN.putObj (List.mem_cons_self ..) (fun p hp=>.inr ⟨List.mem_cons_of_mem _ hp,hne p hp⟩) hdf hro
           have hE:Ev w A (full s sp Lx Pt) (w3.putObj l (.loop {aee fn a.tmps ps assign body dl .ready none with state:=.exhausted})) A3 (full st bW bU Pm):=by
            have q1:Ev w1 A (full s sp Lx ((l,.loop (aee fn a.tmps ps assign body dl .ready none))::Pm)) w3 A3 (full st bW bU ((l,.loop (aee fn a.tmps ps assign body dl .ready none))::Pm)):=by
             have e0:full (back s s) sp Lx ((l,.loop (aee fn a.tmps ps assign body dl .ready none))::Pm)=full s sp Lx ((l,.loop (aee fn a.tmps ps assign body dl .ready none))::Pm):=by unfold full;rw[afm]
             rw[←e0];exact jC
            have q2:Ev w3 A3 _ (w3.putObj l (.loop {aee fn a.tmps ps assign body dl .ready none with state:=.exhausted})) A3 _:=Ev.putObj w3 A3 (L:=full st bW bU ((l,.loop (aee fn a.tmps ps assign body dl .ready none))::Pm)) _ (fun o=>.inr ⟨_,List.mem_cons_self ..,rfl⟩)
            exact((jB.trans q1).trans q2).uh (fun _ _ h=>.inl h) (fun b o _ hm=>.inr (by
             rcases hm with hm|⟨p,hp,rfl⟩
             ·exact .inl hm
             ·exact .inr ⟨p,List.mem_cons_of_mem _ hp,rfl⟩))
           exact⟨st,A3,bU,bW,Pm,hsub,dI,h.rM dI hsub hE,fun e=>by simp[hmk e],hend st hst BH⟩
          |true=>
           obtain⟨-,c,st,bW,bU,gN,hst,BI,rfl⟩:=uC
           have iH:=(gN.pt _ (List.mem_cons_self ..)).1
           refine⟨some c,_,run_endLoop iH (by simp),?_⟩
           have dI:GS C Pm st ⟨a.tmps,mark++a.defers⟩ (w3.putObj l (.loop {aee fn a.tmps ps assign body dl .done (some c) with state:=.exhausted})) A3 bU bW:=gN.putObj (List.mem_cons_self ..) (fun p hp=>.inr ⟨List.mem_cons_of_mem _ hp,hne p hp⟩) hdf hro
           have hE:Ev w A (full s sp Lx Pt) (w3.putObj l (.loop {aee fn a.tmps ps assign body dl .done (some c) with state:=.exhausted})) A3 (full st bW bU Pm):=by
            have q1:Ev w1 A (full s sp Lx ((l,.loop (aee fn a.tmps ps assign body dl .ready none))::Pm)) w3 A3 (full st bW bU ((l,.loop (aee fn a.tmps ps assign body dl .done (some c)))::Pm)):=by
             have e0:full (back s s) sp Lx ((l,.loop (aee fn a.tmps ps assign body dl .ready none))::Pm)=full s sp Lx ((l,.loop (aee fn a.tmps ps assign body dl .ready none))::Pm):=by unfold full;rw[afm]
             rw[←e0];exact jC
            have q2:Ev w3 A3 _ (w3.putObj l (.loop {aee fn a.tmps ps assign body dl .done (some c) with state:=.exhausted})) A3 _:=Ev.putObj w3 A3 (L:=full st bW bU ((l,.loop (aee fn a.tmps ps assign body dl .done (some c)))::Pm)) _ (fun o=>.inr ⟨_,List.mem_cons_self ..,rfl⟩)
            exact((jB.trans q1).trans q2).uh (fun _ _ h=>.inl h) (fun b o _ hm=>.inr (by
             rcases hm with hm|⟨p,hp,rfl⟩
             ·exact .inl hm
             ·exact .inr ⟨p,List.mem_cons_of_mem _ hp,rfl⟩))
           rcases BI with ⟨i,rfl,hq⟩|⟨rfl,hq⟩
           ·exact wpIn_exit ⟨st,A3,bU,bW,Pm,hsub,dI,h.rM dI hsub hE,fun e=>by simp[hmk e],hq⟩
           ·exact wpIn_ret ⟨st,A3,bU,bW,Pm,hsub,dI,h.rM dI hsub hE,fun e=>by simp[hmk e],hq⟩
      ·exact hv.elim
     ·cases hm
    ·injection hm with hm;subst hm
     simp only[bz] at hv
     split at hv
     ·rename_i f first cap e1
      obtain⟨xs,⟨hfn,hseq⟩,hlen,I,BF,jz,hend⟩:=hv
      rw[e1] at hg
      replace hg:RV w A (.func (.func f) first cap) (a.eval g):=hg
      generalize bg:a.eval g=v0 at hg
      cases hg with
      |func _ _ _ vf vc fG hsc hf hc=>
       refine wpIn_rangeFunc fun fn _=> ?_
       obtain⟨l,mark,dl,Pm,w1,BG,cW,hne,hsub,hdf,hmk,hro,jB⟩:=Ih h fn ps assign body
       have hcell:∀b o v,A b o→w.cell? ⟨b,o,none⟩=some v→w1.cell? ⟨b,o,none⟩=some v∧A b o:=fun b o v ha hv=>⟨(jB.cell b o (h.ae' ha).1 (h.ae' ha).2).1.trans hv,ha⟩
       refine⟨l,mark,w1,{target:=.fn (.func f) vc,args:=vf++ #[.func (.yield l) #[] #[]]},w1,f,(vf++ #[.func (.yield l) #[] #[]])++vc,w1,BG,?_,fun _ _=>trivial,?_,fun e=>(by cases e),?_⟩
       ·have hgg:Act.eval a g=.func (.func f) vf vc:=bg
        simp only[resolve,hgg]
        simp[go_sem,Deferred.ofValue]
       ·simp only[invoke]
        exact Br hfn _ _
       ·have kj:GS C ((l,.loop (aee fn a.tmps ps assign body dl .ready none))::Pm) (back s s) ⟨a.tmps,mark++a.defers⟩ w1 A Lx sp:=⟨cW.rs.forget,fun k hk=>by rw[iG _ _ hk];exact cW.ig k hk,cW.lt,by rw[afm];exact cW.ap,cW.av,by rw[iG _ _ (Nat.le_refl _)];exact cW.x,fun p hp=>by rw[jA];exact cW.pt p hp,fun b=>by rw[jA];exact cW.ob b,by rw[ux];exact cW.oa,cW.bs,cW.dn,cW.df,cW.ro⟩
        refine xm (Calls.mono (hseq (af5 C s a.tmps (mark++a.defers) l (aee fn a.tmps ps assign body dl) Pm xs I ke kr) l w1 A (full (back s s) sp Lx ((l,.loop (aee fn a.tmps ps assign body dl .ready none))::Pm)) _ Ib (SS rJ rK aZ hma hmb hps hne (fun y hy=>(hlen y hy).1) hdf hro cW.dn jz) (SY fun y hy=>(hlen y hy).2) (fun b o=>kj.afw) (fun b o=>kj.ae') (by simp only[Array.size_append,List.length_append,fG,hsc];rfl) (fun i=> ?_) ⟨rfl,0,Nat.zero_le _,rfl,back s s,sp,Lx,kj,(xG s s s).symm,BF,rfl⟩) ?_)
        ·have hy:RV w1 A (AV.func (.yield l) [] []) (.func (.yield l) #[] #[]):=.func _ _ _ _ _ rfl rfl (fun i=>by simp;exact .any _) (fun i=>by simp;exact .any _)
         have e2:=af2 vf.toList [Value.func (.yield l) #[] #[]] vc.toList i undef
         have e3:=af2 first [AV.func (.yield l) [] []] cap i .any
         have e4:((vf++ #[Value.func (.yield l) #[] #[]])++vc).getD i undef=(vf.toList++[Value.func (.yield l) #[] #[]]++vc.toList).getD i undef:=by simp only[List.getD_eq_getElem?_getD,Array.getD_eq_getD_getElem?,←Array.getElem?_toList,Array.toList_append]
         rw[e4,e2,e3]
         simp only[Array.length_toList,fG,List.length_singleton]
         split
         ·have:=(hf i).mono hcell
          simpa[List.getD_eq_getElem?_getD,Array.getD_eq_getD_getElem?] using this
         ·split
          ·rename_i h1 h2
           have h0:i - first.length=0:=by omega
           rw[h0];exact hy
          ·have:=(hc (i - first.length - 1)).mono hcell
           simpa[List.getD_eq_getElem?_getD,Array.getD_eq_getD_getElem?] using this
        ·rintro e w3 ⟨v,A3,L3,rest,b,rfl,jC,aeY,S7,uC,hb⟩
         cases b with
         |false=>
          obtain⟨-,k,hk,aeA,st,bW,bU,gN,hst,BH,rfl⟩:=uC
          have hr0:rest=[]:=hb.resolve_left (by simp)
          have xK:k=xs.length:=by
           rw[hr0] at aeA
           have:=congrArg List.length aeA
           simp at this;omega
          subst xK
          have iH:=(gN.pt _ (List.mem_cons_self ..)).1
          refine⟨none,_,run_endLoop iH (by simp),?_⟩
          have dI:GS C Pm st ⟨a.tmps,mark++a.defers⟩ (w3.putObj l (.loop {aee fn a.tmps ps assign body dl .ready none with state:=.exhausted})) A3 bU bW:=gN.putObj (List.mem_cons_self ..) (fun p hp=>.inr ⟨List.mem_cons_of_mem _ hp,hne p hp⟩) hdf hro
          have hE:Ev w A (full s sp Lx Pt) (w3.putObj l (.loop {aee fn a.tmps ps assign body dl .ready none with state:=.exhausted})) A3 (full st bW bU Pm):=by
           have q1:Ev w1 A (full s sp Lx ((l,.loop (aee fn a.tmps ps assign body dl .ready none))::Pm)) w3 A3 (full st bW bU ((l,.loop (aee fn a.tmps ps assign body dl .ready none))::Pm)):=by
            have e0:full (back s s) sp Lx ((l,.loop (aee fn a.tmps ps assign body dl .ready none))::Pm)=full s sp Lx ((l,.loop (aee fn a.tmps ps assign body dl .ready none))::Pm):=by unfold full;rw[afm]
            rw[←e0];exact jC
           have q2:Ev w3 A3 _ (w3.putObj l (.loop {aee fn a.tmps ps assign body dl .ready none with state:=.exhausted})) A3 _:=Ev.putObj w3 A3 (L:=full st bW bU ((l,.loop (aee fn a.tmps ps assign body dl .ready none))::Pm)) _ (fun o=>.inr ⟨_,List.mem_cons_self ..,rfl⟩)
           exact((jB.trans q1).trans q2).uh (fun _ _ h=>.inl h) (fun b o _ hm=>.inr (by
            rcases hm with hm|⟨p,hp,rfl⟩
            ·exact .inl hm
            ·exact .inr ⟨p,List.mem_cons_of_mem _ hp,rfl⟩))
          exact⟨st,A3,bU,bW,Pm,hsub,dI,h.rM dI hsub hE,fun e=>by simp[hmk e],hend st hst BH⟩
         |true=>
          obtain⟨-,c,st,bW,bU,gN,hst,BI,rfl⟩:=uC
          have iH:=(gN.pt _ (List.mem_cons_self ..)).1
          refine⟨some c,_,run_endLoop iH (by simp),?_⟩
          have dI:GS C Pm st ⟨a.tmps,mark++a.defers⟩ (w3.putObj l (.loop {aee fn a.tmps ps assign body dl .done (some c) with state:=.exhausted})) A3 bU bW:=gN.putObj (List.mem_cons_self ..) (fun p hp=>.inr ⟨List.mem_cons_of_mem _ hp,hne p hp⟩) hdf hro
          have hE:Ev w A (full s sp Lx Pt) (w3.putObj l (.loop {aee fn a.tmps ps assign body dl .done (some c) with state:=.exhausted})) A3 (full st bW bU Pm):=by
           have q1:Ev w1 A (full s sp Lx ((l,.loop (aee fn a.tmps ps assign body dl .ready none))::Pm)) w3 A3 (full st bW bU ((l,.loop (aee fn a.tmps ps assign body dl .done (some c)))::Pm)):=by
            have e0:full (back s s) sp Lx ((l,.loop (aee fn a.tmps ps assign body dl .ready none))::Pm)=full s sp Lx ((l,.loop (aee fn a.tmps ps assign body dl .ready none))::Pm):=by unfold full;rw[afm]
            rw[←e0];exact jC
           have q2:Ev w3 A3 _ (w3.putObj l (.loop {aee fn a.tmps ps assign body dl .done (some c) with state:=.exhausted})) A3 _:=Ev.putObj w3 A3 (L:=full st bW bU ((l,.loop (aee fn a.tmps ps assign body dl .done (some c)))::Pm)) _ (fun o=>.inr ⟨_,List.mem_cons_self ..,rfl⟩)
           exact((jB.trans q1).trans q2).uh (fun _ _ h=>.inl h) (fun b o _ hm=>.inr (by
            rcases hm with hm|⟨p,hp,rfl⟩
            ·exact .inl hm
            ·exact .inr ⟨p,List.mem_cons_of_mem _ hp,rfl⟩))
          rcases BI with ⟨i,rfl,hq⟩|⟨rfl,hq⟩
          ·exact wpIn_exit ⟨st,A3,bU,bW,Pm,hsub,dI,h.rM dI hsub hE,fun e=>by simp[hmk e],hq⟩
          ·exact wpIn_ret ⟨st,A3,bU,bW,Pm,hsub,dI,h.rM dI hsub hE,fun e=>by simp[hmk e],hq⟩
     ·exact hv.elim
   ·cases hm
  ·cases hm
 |goto=>intro C m kn ke kr Pt s a w A Lx sp aZ hm;cases hm
 |refuse=>intro C m kn ke kr Pt s a w A Lx sp aZ hm;cases hm
end
end Go.aq
namespace Go.aq
open Go.RowKit
section
variable {P:Program} {N:Nat}
inductive aE where
 |tmp (t:Nat)
 |cell (t:Nat) (n:Option Nat)
def fu(P:Program):List ResultVar→Option (List aE)
 |[]=>some []
 |.tmp t::rs=>(fu P rs).map (.tmp t:: ·)
 |.cell t ty::rs=>match jX P ty,fu P rs with
  |some n,some l=>some (.cell t n::l)
  |_,_=>none
def eS(s:St):List aE→(List AV→Prop)→Prop
 |[],K=>K []
 |.tmp t::rs,K=>eS s rs fun vs=>K ((s.env t).erase::vs)
 |.cell t n::rs,K=>cJ s.loc (s.env t) n fun v=>eS s rs fun vs=>K (v.erase::vs)
def aeJ:List AV→AV
 |[x]=>x
 |xs=>.tuple xs
def dj(xs:List AV):Nat→AV:=fun k=>(xs.getD k .any).erase
def jD:Sp:=fun _=>(0,0,0)
theorem BJ(b o:Nat):¬live (fun _=>none) jD b o:=by
 rintro(h|⟨r,h1,h2,h3⟩)
 ·exact h rfl
 ·simp[jD] at h3
theorem S8{s:St}{a:Act}{w:World}{A:aN}{sp:Sp}{ty:TypeId}{n:Option Nat}{t:Nat}{k:AV→Prop}(hp:jX P ty=some n)(h:RS N s a w A sp)(hv:cJ s.loc (s.env t) n k):∃x v,(do loadVar ty (←asAddr (a.tmps.getD t undef)):Sem Value).run P w=.ok v w∧RV w A x v∧k x:=by
 have h1:=(h.env t).1
 unfold cJ at hv
 split at hv
 ·rename_i cs hcs
  rw[hcs] at h1
  generalize a.tmps.getD t undef=v0 at h1
  cases h1 with
  |ref _ b off vs hc hr=>
   cases n with
   |none=>
    simp only[cx] at hv
    have:=oc hp w b off vs (fun i hi=>(hc i (by simp at hi;omega)).1)
    exact⟨_,vs 0,by simp only[Sem.run_bind,asAddr,Sem.run_pure,Result.andThen_ok,this],(hr 0).erase,hv.2⟩
   |some m=>
    simp only[cx,Nat.zero_add,List.drop_zero] at hv
    have:=oc hp w b off vs (fun i hi=>(hc i (by simp at hi;omega)).1)
    refine⟨_,.agg ((Array.range m).map vs),by simp only[Sem.run_bind,asAddr,Sem.run_pure,Result.andThen_ok,this],?_,hv.2⟩
    refine RV.erase (RV.erase (.agg _ _ (by simp;omega) fun i=> ?_))
    by_cases hi:i<m
    ·have:=hr i
     simp only[List.getD_eq_getElem?_getD,List.getElem?_take,hi,if_true,Array.getD_eq_getD_getElem?,Array.getElem?_map] at this⊢
     rw[Array.getElem?_eq_getElem (by simpa using hi)]
     simpa using this
    ·simp only[List.getD_eq_getElem?_getD,List.getElem?_take,hi,if_false,Option.getD_none]
     exact .any _
 ·rename_i b off hcs
  rw[hcs] at h1
  generalize a.tmps.getD t undef=v0 at h1
  cases h1
  split at hv
  ·rename_i cs hb
   obtain⟨vs,T,hh,hsz,hr⟩:=h.loc b cs hb
   have hcell:∀i,off+i<cs.length→w.cell? ⟨b,off+i,none⟩=some (vs.getD (off+i) undef):=by
    intro i hi
    simp[World.cell?,hh,Array.getD_eq_getD_getElem?,Array.getElem?_eq_getElem (show off+i<vs.size by omega)]
   cases n with
   |none=>
    simp only[cx] at hv
    have:=oc hp w b off (fun i=>vs.getD (off+i) undef) (fun i hi=>hcell i (by simp at hi;omega))
    exact⟨_,vs.getD off undef,by simp only[Sem.run_bind,asAddr,Sem.run_pure,Result.andThen_ok,this,Nat.add_zero],(hr off).1,hv.2⟩
   |some m=>
    simp only[cx] at hv
    have:=oc hp w b off (fun i=>vs.getD (off+i) undef) (fun i hi=>hcell i (by simp at hi;omega))
    refine⟨_,.agg ((Array.range m).map fun i=>vs.getD (off+i) undef),by simp only[Sem.run_bind,asAddr,Sem.run_pure,Result.andThen_ok,this],?_,hv.2⟩
    refine RV.erase (.agg _ _ (by simp;omega) fun i=> ?_)
    by_cases hi:i<m
    ·have:=(hr (off+i)).1
     simp only[List.getD_eq_getElem?_getD,List.getElem?_take,hi,if_true,List.getElem?_drop,Array.getD_eq_getD_getElem?,Array.getElem?_map] at this⊢
     rw[Array.getElem?_eq_getElem (by simpa using hi)]
     simpa using this
    ·simp only[List.getD_eq_getElem?_getD,List.getElem?_take,hi,if_false,Option.getD_none]
     exact .any _
  ·exact hv.elim
 ·exact hv.elim
theorem BK{s:St}{a:Act}{w:World}{A:aN}{sp:Sp}(h:RS N s a w A sp)(f:ResultVar→Sem Value)(f1:∀t,f (.tmp t)=pure (a.tmps.getD t undef))(f2:∀b t,f (.cell b t)=(do loadVar t (←asAddr (a.tmps.getD b undef)))):∀(rs:List ResultVar) (ms:List aE) (k:List AV→Prop),fu P rs=some ms→eS s ms k→∃xs vs,(rs.mapM f).run P w=.ok vs w∧vs.length=xs.length∧(∀i,RV w A (xs.getD i .any) (vs.getD i undef))∧k xs
 |[],ms,k,hm,hk=>by injection hm with hm;subst hm;exact⟨[],[],rfl,rfl,fun i=>by simp;exact .any _,hk⟩
 |.tmp t::rs,ms,k,hm,hk=>by
  simp only[fu,Option.map_eq_some_iff] at hm
  obtain⟨l,hl,rfl⟩:=hm
  obtain⟨xs,vs,g1,g2,g3,g4⟩:=BK h f f1 f2 rs l _ hl hk
  refine⟨_::xs,a.tmps.getD t undef::vs,?_,by simp[g2],fun i=> ?_,g4⟩
  ·simp only[List.mapM_cons,f1,Sem.run_bind,Sem.run_pure,Result.andThen_ok,g1]
  ·cases i with
   |zero=>simpa using(h.env t).1.erase
   |succ i=>simpa using g3 i
 |.cell t ty::rs,ms,k,hm,hk=>by
  simp only[fu] at hm
  split at hm
  ·rename_i n l hn hl
   injection hm with hm;subst hm
   obtain⟨x,v,r1,r2,r3⟩:=S8 hn h hk
   obtain⟨xs,vs,g1,g2,g3,g4⟩:=BK h f f1 f2 rs l _ hl r3
   refine⟨x.erase::xs,v::vs,?_,by simp[g2],fun i=> ?_,g4⟩
   ·simp only[Sem.run_bind] at r1
    simp only[List.mapM_cons,f2,Sem.run_bind,r1,Result.andThen_ok,g1,Sem.run_pure]
   ·cases i with
    |zero=>simpa using r2.erase
    |succ i=>simpa using g3 i
  ·cases hm
theorem BL{s:St}{a:Act}{w:World}{A:aN}{sp:Sp}{fn:Func}{ms:List aE}{r:AV}(h:RS N s a w A sp)(hm:fu P fn.results.toList=some ms)(hk:eS s ms fun xs=>r=aeJ xs):∃v,(results fn a.tmps).run P w=.ok v w∧RV w A r v:=by
 have key:∀f:ResultVar→Sem Value,(∀t,f (.tmp t)=pure (a.tmps.getD t undef))→(∀b t,f (.cell b t)=(do loadVar t (←asAddr (a.tmps.getD b undef))))→∃v,(do let vs←fn.results.mapM f;pure (if h:vs.size=1 then vs[0] else .tuple vs):Sem Value).run P w=.ok v w∧RV w A r v:=by
  intro f f1 f2
  obtain⟨xs,vs,g1,g2,g3,rfl⟩:=BK h f f1 f2 fn.results.toList ms _ hm hk
  rw[Sem.run_bind,Array.mapM_eq_mapM_toList,Sem.run_map,g1]
  refine⟨if h:vs.toArray.size=1 then vs.toArray[0] else .tuple vs.toArray,rfl,?_⟩
  match xs,vs,g2 with
  |[],[],_=>exact .tuple [] _ rfl (fun i=>by simp;exact .any _)
  |[x],[v],_=>simpa[aeJ] using g3 0
  |x::y::xs,u::v::vs,g2=>
   simp only[aeJ,List.size_toArray,List.length_cons,Nat.add_eq_right,Nat.add_eq_zero_iff,Nat.one_ne_zero,and_false,dite_false]
   refine .tuple _ _ (by simpa using g2) (fun i=> ?_)
   have:=g3 i
   simpa[List.getD_eq_getElem?_getD,Array.getD_eq_getD_getElem?] using this
  |[],_::_,g2=>simp at g2
  |[_],[],g2=>simp at g2
  |[_],_::_::_,g2=>simp at g2
  |_::_::_,[],g2=>simp at g2
  |_::_::_,[_],g2=>simp at g2
 exact key _ (fun _=>rfl) (fun _ _=>rfl)
def Fits(x:AV):Prop:=∃w A v,RV w A x v
def Ik(B:Nat)(w w':World):Prop:=w'.os=w.os∧w'.tape=w.tape∧w'.output=w.output∧w.heap.size≤w'.heap.size∧∀b,b<B→w'.heap[b]? =w.heap[b]?
theorem Ev.low{w w1 w2:World}{A L A1 L1:aN}(h:Ev w A L w1 A1 L1)(k:Ik w.heap.size w1 w2):Ev w A L w2 A1 L1:=by
 obtain⟨k1,k2,k3,k4,k5⟩:=k
 exact⟨k1.trans h.os,k2.trans h.tape,k3.trans h.output,Nat.le_trans h.size k4,fun b o hb hl=>⟨(World.cell?_of_block (k5 b hb)).trans (h.cell b o hb hl).1,(h.cell b o hb hl).2⟩,fun b hb hl=>(k5 b hb).trans (h.block b hb hl),h.sub,h.sup⟩
theorem xL{C:Ctx P}{s:St}{A Lx:aN}{sp:Sp}{fn:Func}{t:Array Value}{R:Ending→World→Prop}(hro:C.ro=none):∀(ds:List Deferred) (Pt:List (Nat×Obj)) (w:World),GS C Pt s ⟨t,ds⟩ w A Lx sp→(∀w' dH,GS C dH s ⟨t,[]⟩ w' A Lx sp→Ik C.B w w'→∃v,(results fn t).run P w'=.ok v w'∧R (.returned v) w')→LeavesInM (Fw none) 0 P fn t R ds .returning w
 |[],Pt,w,h,hk=>hk w Pt h ⟨rfl,rfl,rfl,Nat.le_refl _,fun _ _=>rfl⟩
 |d::ds,Pt,w,h,hk=>by
  obtain⟨D,d1,d2,d3⟩:=h.df d (List.mem_cons_self ..)
  have hD:=(h.pt _ d3).1
  refine⟨fun e=>(by cases e),.inl ⟨D,w.putObj D (.deferred none),by rw[d2],run_takeDeferred hD,?_⟩⟩
  have dZ:=h.dn
  simp only[List.map_cons,List.nodup_cons] at dZ
  have h1:GS C Pt s ⟨t,ds⟩ w A Lx sp:=⟨h.rs,h.ig,h.lt,h.ap,h.av,h.x,h.pt,h.ob,h.oa,h.bs,dZ.2,fun e he=>h.df e (List.mem_cons_of_mem _ he),h.ro⟩
  have h2:GS C (Pt.filter fun p=>p.1 != D) s ⟨t,ds⟩ (w.putObj D (.deferred none)) A Lx sp:=by
   refine h1.putObj d3 (fun p hp=> ?_) (fun e he=> ?_) (fun l e=>by rw[hro] at e;cases e)
   ·obtain⟨g1,g2⟩:=List.mem_filter.1 hp
    exact .inr ⟨g1,by simpa using g2⟩
   ·obtain⟨E,e1,e2,e3⟩:=h1.df e he
    refine⟨E,e1,e2,List.mem_filter.2 ⟨e3,?_⟩⟩
    have:E≠D:=fun hh=>dZ.1 (by rw[d2,←hh];exact List.mem_map.2 ⟨e,he,by rw[e2]⟩)
    simpa using this
  refine xL hro ds _ _ h2 fun w' dH g1 g2=>hk w' dH g1 ?_
  obtain⟨k1,k2,k3,k4,k5⟩:=g2
  exact⟨k1,k2,k3,by simpa using k4,fun b hb=>(k5 b hb).trans (World.putObj_heap_other (by omega))⟩
def S9:AV→World→aN→aN→Prop:=fun gh _ _ Lx=>gh=.any∧∀b o,¬Lx b o
def Il(P:Program)(N B:Nat):Ctx P:={N:=N,B:=B,ro:=none,X:=S9,st:=fun _ _ _ _ _ _ h _=>h,yl:=fun _ _ _ _ _ _ _ h=>(by cases h.1),yl2:=fun _ _ _ _ _ _ _ _ _ _ _ _ _ h=>by cases h.1}
theorem BM{xs:List AV}{n:Nat}{w:World}{A:aN}{vs:Array Value}(hlen:xs.length≤n)(hA:∀b o,A b o→b<w.heap.size)(hs:vs.size=xs.length)(hrv:∀i,RV w A (xs.getD i .any) (vs.getD i undef)):RS n ⟨dj xs,fun _=>none⟩ ⟨vs++Array.replicate (n - vs.size) undef,[]⟩ w A jD:=by
 refine⟨by simp;omega,rfl,fun d=> ?_,fun b cs hb=>(by cases hb),fun r hr=>by simp[jD] at hr,fun r r' _ h1=>by simp[jD] at h1,fun b o ha=>⟨hA b o ha,BJ b o⟩⟩
 by_cases hd:d<xs.length
 ·have e:(vs++Array.replicate (n - vs.size) undef).getD d undef=vs.getD d undef:=by
   simp only[Array.getD_eq_getD_getElem?]
   rw[Array.getElem?_append_left (by omega)]
  simp only[e]
  exact⟨(hrv d).erase,.erase⟩
 ·simp only[dj,List.getD_eq_getElem?_getD,List.getElem?_eq_none (Nat.le_of_not_lt hd),Option.getD_none]
  exact⟨.any _,trivial⟩
theorem BN{xs:List AV}(h:xs.length≤gS)(k:Nat)(hk:gS≤k):dj xs k=.any:=by simp only[dj,List.getD_eq_getElem?_getD,List.getElem?_eq_none (Nat.le_trans h hk),Option.getD_none];rfl
theorem xM(b:Nat):gS≤oS+b:=by simp only[gS,oS];omega
theorem S_{f:FuncId}{fn:Func}{c:Code}{aG:cn}{m:ay}{rs:List aE}{xs:List AV}{r:AV}(hf:P.funcs[f]? =some fn)(hb:fn.body=some c)
  (hm:dw P aG fn.ntmps c=some m)(hr:fu P fn.results.toList=some rs)(hfn:gI P f=true)(hlen:xs.length≤fn.ntmps)(p8:fn.ntmps≤gS)
  (hv:(∀i,Fits (xs.getD i .any))→bz P m (fun s=>eS s rs fun ys=>r=aeJ ys) (fun _ _=>False) (fun s=>eS s rs fun ys=>r=aeJ ys) ⟨dj xs,fun _=>none⟩):aed P f xs r:=by
 refine⟨hfn,fun w A vs hA hs hrv=> ?_⟩
 have hg:∀k,gS≤k→dj xs k=.any:=BN (Nat.le_trans hlen p8)
 have hh:∀b o,¬held ⟨dj xs,fun _=>none⟩ jD b o:=fun b o h=>h.elim (BJ b o) fun h=>h (hg _ (xM b))
 have uD:GS (Il P fn.ntmps w.heap.size) [] ⟨dj xs,fun _=>none⟩ ⟨vs++Array.replicate (fn.ntmps - vs.size) undef,[]⟩ w A (fun _ _=>False) jD:=⟨BM hlen hA hs hrv,fun k hk=>by simp only[hg k hk];rfl,fun _ _ h=>h.elim,fun _ _ _ _ h=>h,fun _ _ _ h=>h,⟨hg _ (Nat.le_refl _),fun _ _ h=>h⟩,fun p hp=>(by cases hp),fun b=>by simp only[hg _ (xM b)];exact .any,fun b o h=>absurd (.inr h) (hh b o),Nat.le_refl _,List.nodup_nil,fun d hd=>(by cases hd),fun l e=>(by cases e)⟩
 refine A5 (n:=0) (callsIn_of_wp_marks hf hb trivial (wpIn_mono (Bz c (Il P fn.ntmps w.heap.size) m _ _ _ _ _ _ w A _ jD p8 hm uD (hv fun i=>⟨w,A,_,hrv i⟩)) ?_))
 rintro e a' w' ⟨s',A',bw,sp',dH,-,hG,aS,-,hq⟩
 have fin:(eS s' rs fun ys=>r=aeJ ys)→LeavesInM (Fw none) 0 P fn a'.tmps (fun e w'=>∃v A',e=.returned v∧Fr w w'∧(∀b o,A b o→A' b o)∧(∀b o,A' b o→A b o∨(w.heap.size≤b∧b<w'.heap.size))∧RV w' A' r v) a'.defers .returning w':=by
  intro hq
  refine xL rfl a'.defers dH w' hG fun w2 m_ en rO=> ?_
  obtain⟨v,g1,g2⟩:=BL en.rs hr hq
  have dJ:=aS.low rO
  have hno:∀b o,¬join (held ⟨dj xs,fun _=>none⟩ jD) (fun _ _=>False) b o:=fun b o h=>h.elim (hh b o) id
  refine⟨v,g1,v,A',rfl,⟨dJ.os,dJ.tape,dJ.output,dJ.size,fun b hb=>dJ.block b hb (hno b)⟩,dJ.sub,fun b o ha=> ?_,g2⟩
  rcases dJ.sup b o ha with h1|h1|h1
  ·exact .inl h1
  ·exact absurd h1 (hno b o)
  ·exact .inr ⟨h1,(en.rs.av b o ha).1⟩
 cases e with
 |normal=>exact fin hq
 |ret=>exact fin hq
 |exit i=>exact hq.elim
 |goto l=>exact hq.elim
 |panic ch=>exact hq.elim
 |outgrown=>exact hq.elim
theorem Im{f:FuncId}{fn:Func}{aG:cn}{m:ay}{rs:List aE}{xs:List AV}{r:AV}(hf:P.funcs[f]? =some fn)
  (hm:fn.body.bind (dw P aG fn.ntmps)=some m)(hr:fu P fn.results.toList=some rs)(hfn:gI P f=true)(hlen:xs.length≤fn.ntmps∧fn.ntmps≤1000000)
  (hv:(∀i,Fits (xs.getD i .any))→bz P m (fun s=>eS s rs fun ys=>r=aeJ ys) (fun _ _=>False) (fun s=>eS s rs fun ys=>r=aeJ ys) ⟨dj xs,fun _=>none⟩):aed P f xs r:=by
 cases hb:fn.body with
 |none=>rw[hb] at hm;cases hm
 |some c=>rw[hb] at hm;exact S_ hf hb hm hr hfn hlen.1 (by simp only[gS];exact hlen.2) hv
theorem Ta{f:FuncId}{fn:Func}{c:Code}{aG:cn}{m:ay}{first cap:List AV}{xs:List (List AV)}(hf:P.funcs[f]? =some fn)(hb:fn.body=some c)
  (hm:dw P aG fn.ntmps c=some m)(hr:fu P fn.results.toList=some [])(hfn:gI P f=true)(hlen:first.length+1+cap.length≤fn.ntmps)(p8:fn.ntmps≤gS)
  (hv:∀l,(∀i,Fits ((first++[AV.func (.yield l) [] []]++cap).getD i .any))→bz P m (fun s=>∃rest b,s.env gS=.ghost l rest b∧(b=true∨rest=[])) (fun _ _=>False) (fun s=>∃rest b,s.env gS=.ghost l rest b∧(b=true∨rest=[])) ((St.mk (dj (first++[AV.func (.yield l) [] []]++cap)) fun _=>none).set gS (.ghost l xs false))):iF P f first cap xs:=by
 refine⟨hfn,fun X l w A Lx vs hst gw Tb hlt hav hs hrv hx=> ?_⟩
 have hlen':(first++[AV.func (.yield l) [] []]++cap).length≤fn.ntmps:=by simp only[List.length_append,List.length_singleton];exact hlen
 let C:Ctx P:={N:=fn.ntmps,B:=w.heap.size,ro:=none,X:=X,st:=hst,yl:=gw,yl2:=Tb}
 have cG:=BM hlen' (fun b o ha=>(hav b o ha).1) hs hrv
 have pX:RS fn.ntmps ((St.mk (dj (first++[AV.func (.yield l) [] []]++cap)) fun _=>none).set gS (.ghost l xs false)) ⟨vs++Array.replicate (fn.ntmps - vs.size) undef,[]⟩ w A jD:=by
  refine⟨cG.size,rfl,fun d=> ?_,cG.loc,cG.cg,cG.dO,cG.av⟩
  by_cases hd:d=gS
  ·subst hd;rw[k7];exact⟨.ghost _ _ _ _,trivial⟩
  ·have e:((St.mk (dj (first++[AV.func (.yield l) [] []]++cap)) fun _=>none).set gS (.ghost l xs false)).env d=dj (first++[AV.func (.yield l) [] []]++cap) d:=bE _ _ hd
   rw[e];exact cG.env d
 have hg:∀k,gS≤k→k≠gS→((St.mk (dj (first++[AV.func (.yield l) [] []]++cap)) fun _=>none).set gS (.ghost l xs false)).env k=.any:=fun k hk hne=>(bE _ _ hne).trans (BN (Nat.le_trans hlen' p8) k hk)
 have fK:∀b,((St.mk (dj (first++[AV.func (.yield l) [] []]++cap)) fun _=>none).set gS (.ghost l xs false)).env (oS+b)=.any:=fun b=>hg _ (xM b) (by simp only[gS,oS];omega)
 have hh:∀b o,¬held ((St.mk (dj (first++[AV.func (.yield l) [] []]++cap)) fun _=>none).set gS (.ghost l xs false)) jD b o:=fun b o h=>h.elim (BJ b o) fun h=>h (fK b)
 have uD:GS C [] ((St.mk (dj (first++[AV.func (.yield l) [] []]++cap)) fun _=>none).set gS (.ghost l xs false)) ⟨vs++Array.replicate (fn.ntmps - vs.size) undef,[]⟩ w A Lx jD:=
  ⟨pX,fun k hk=>by
    by_cases e:k=gS
    ·subst e;rw[k7];rfl
    ·rw[hg k hk e];rfl,hlt,fun b o o' hl=>absurd hl (hh b o),fun b o ha=>(hav b o ha).2,by rw[k7];exact hx,fun p hp=>(by cases hp),fun b=>by rw[fK];exact .any,fun b o h=>absurd (.inr h) (hh b o),Nat.le_refl _,List.nodup_nil,fun d hd=>(by cases hd),fun l e=>(by cases e)⟩
 refine A5 (n:=0) (callsIn_of_wp_marks hf hb trivial (wpIn_mono (Bz c C m _ _ _ _ _ _ w A _ jD p8 hm uD (hv l fun i=>⟨w,A,_,hrv i⟩)) ?_))
 rintro e a' w' ⟨s',A',bw,sp',dH,-,hG,aS,-,hq⟩
 have fin:(∃rest b,s'.env gS=.ghost l rest b∧(b=true∨rest=[]))→LeavesInM (Fw none) 0 P fn a'.tmps (fun e w'=>∃v A' bw rest b,e=.returned v∧Ev w A Lx w' A' bw∧(∀b o,bw b o→b<w'.heap.size)∧(∀b o,A' b o→b<w'.heap.size∧¬bw b o)∧X (.ghost l rest b) w' A' bw∧(b=true∨rest=[])) a'.defers .returning w':=by
  rintro⟨rest,b,k8,hb⟩
  refine xL rfl a'.defers dH w' hG fun w2 m_ en rO=> ?_
  obtain⟨v,g1,g2⟩:=BL (r:=.tuple []) en.rs hr rfl
  have dJ:=(aS.low rO)
  have hx2:=en.x
  rw[k8] at hx2
  refine⟨v,g1,v,A',bw,rest,b,rfl,dJ.uh (fun b o h=>h.elim (fun h=>absurd h (hh b o)) .inl) (fun b o _ h=>.inr (.inr h)),en.lt,fun b o ha=>⟨(en.rs.av b o ha).1,en.av b o ha⟩,hx2,hb⟩
 cases e with
 |normal=>exact fin hq
 |ret=>exact fin hq
 |exit i=>exact hq.elim
 |goto l=>exact hq.elim
 |panic ch=>exact hq.elim
 |outgrown=>exact hq.elim
theorem Io{f:FuncId}{fn:Func}{aG:cn}{m:ay}{first cap:List AV}{xs:List (List AV)}(hf:P.funcs[f]? =some fn)
  (hm:fn.body.bind (dw P aG fn.ntmps)=some m)(hr:fu P fn.results.toList=some [])(hfn:gI P f=true)(hlen:first.length+1+cap.length≤fn.ntmps∧fn.ntmps≤1000000)
  (hv:∀l,(∀i,Fits ((first++[AV.func (.yield l) [] []]++cap).getD i .any))→bz P m (fun s=>∃rest b,s.env gS=.ghost l rest b∧(b=true∨rest=[])) (fun _ _=>False) (fun s=>∃rest b,s.env gS=.ghost l rest b∧(b=true∨rest=[])) ((St.mk (dj (first++[AV.func (.yield l) [] []]++cap)) fun _=>none).set gS (.ghost l xs false))):iF P f first cap xs:=by
 cases hb:fn.body with
 |none=>rw[hb] at hm;cases hm
 |some c=>rw[hb] at hm;exact Ta hf hb hm hr hfn hlen.1 (by simp only[gS];exact hlen.2) hv
end
end Go.aq
namespace Go.aq
open Go.RowKit
section
variable {P:Program} {N:Nat}
theorem BO{cs:List AV}{off:Nat}{n:Option Nat}{k k':AV→Prop}(hk:∀v,k v→k' v)(h:cx cs off n k):cx cs off n k':=by
 cases n with
 |none=>exact⟨h.1,hk _ h.2⟩
 |some m=>exact⟨h.1,hk _ h.2⟩
theorem Ip{loc:Nat→Option (List AV)}{x:AV}{n:Option Nat}{k k':AV→Prop}(hk:∀v,k v→k' v)(h:cJ loc x n k):cJ loc x n k':=by
 unfold cJ at h⊢
 split at h
 ·exact BO (fun v hv=>hk _ hv) h
 ·split at h
  ·exact BO hk h
  ·exact h.elim
 ·exact h.elim
theorem uE{s:St}:∀{rs:List aE} {k k':List AV→Prop},(∀ys,k ys→k' ys)→eS s rs k→eS s rs k'
 |[],_,_,hk,h=>hk _ h
 |.tmp _::rs,_,_,hk,h=>uE (rs:=rs) (fun _ hy=>hk _ hy) h
 |.cell _ _::rs,_,_,hk,h=>Ip (fun _ hu=>uE (rs:=rs) (fun _ hy=>hk _ hy) hu) h
theorem Iq{cs:List AV}{off:Nat}{n:Option Nat}{k:AV→Prop}(h:cx cs off n k):∃v,k v∧cx cs off n fun u=>u=v:=by
 cases n with
 |none=>exact⟨_,h.2,h.1,rfl⟩
 |some m=>exact⟨_,h.2,h.1,rfl⟩
theorem Tc{loc:Nat→Option (List AV)}{x:AV}{n:Option Nat}{k:AV→Prop}(h:cJ loc x n k):∃v,k v∧cJ loc x n fun u=>u=v:=by
 unfold cJ at h⊢
 split at h
 ·obtain⟨v,h1,h2⟩:=Iq h
  exact⟨v.erase,h1,BO (fun u e=>by rw[e]) h2⟩
 ·split at h
  ·exact Iq h
  ·exact h.elim
 ·exact h.elim
theorem BP{s:St}:∀{rs:List aE} {k:List AV→Prop},eS s rs k→∃ys,k ys∧eS s rs fun zs=>zs=ys
 |[],k,h=>⟨[],h,rfl⟩
 |.tmp t::rs,k,h=>by
  obtain⟨ys,h1,h2⟩:=BP (rs:=rs) h
  exact⟨_,h1,uE (rs:=rs) (fun zs e=>by rw[e]) h2⟩
 |.cell t n::rs,k,h=>by
  obtain⟨v,h1,h2⟩:=Tc h
  obtain⟨ys,h3,h4⟩:=BP (rs:=rs) h1
  exact⟨_,h3,Ip (fun u e=>by subst e;exact uE (rs:=rs) (fun zs e=>by rw[e]) h4) h2⟩
def fy(s:St):List aE→(AV→Prop)→Prop
 |[.tmp t],K=>K (s.env t)
 |rs,K=>eS s rs fun ys=>K (aeJ ys).erase
theorem Td{s:St}{a:Act}{w:World}{A:aN}{sp:Sp}{fn:Func}{ms:List aE}{k:AV→Prop}(h:RS N s a w A sp)(hm:fu P fn.results.toList=some ms)(hk:fy s ms k):∃r v,(results fn a.tmps).run P w=.ok v w∧RV w A r v∧aek sp r v∧k r:=by
 unfold fy at hk
 split at hk
 ·rename_i t
  have hr:∃v,(results fn a.tmps).run P w=.ok v w∧v=a.tmps.getD t undef:=by
   generalize hl:fn.results.toList=l at hm
   match l,hm with
   |[],hm=>cases hm
   |.cell _ _::_,hm=>
    simp only[fu] at hm
    split at hm<;>cases hm
   |.tmp t'::rs,hm=>
    simp only[fu,Option.map_eq_some_iff] at hm
    obtain⟨l',hl',e⟩:=hm
    injection e with e1 e2
    injection e1 with e1
    subst e1 e2
    match rs,hl' with
    |[],_=>
     have e:fn.results= #[.tmp t']:=by rw[←Array.toList_inj,hl]
     refine⟨a.tmps.getD t' undef,?_,rfl⟩
     unfold results
     rw[e,Sem.run_bind,Array.mapM_eq_mapM_toList,Sem.run_map]
     rfl
    |.tmp _::_,hl'=>
     simp only[fu,Option.map_eq_some_iff] at hl'
     obtain⟨_,_,e⟩:=hl'
     cases e
    |.cell _ _::_,hl'=>
     simp only[fu] at hl'
     split at hl'<;>cases hl'
  obtain⟨v,h1,rfl⟩:=hr
  exact⟨_,_,h1,(h.env t).1,(h.env t).2,hk⟩
 ·obtain⟨ys,h1,h2⟩:=BP hk
  obtain⟨v,g1,g2⟩:=BL (r:=aeJ ys) h hm (uE (fun zs e=>by rw[e]) h2)
  exact⟨(aeJ ys).erase,v,g1,g2.erase,.erase,h1⟩
theorem Te(s s2:St){k:Nat}(hk:¬gS≤k):(back s s2).env k=(s.env k).erase:=by simp[back,hk]
theorem Tf{f:FuncId}{fn:Func}{c:Code}{aG:cn}{m:ay}{rs:List aE}{xs:List AV}{s:St}{K:AV→St→Prop}(hf:P.funcs[f]? =some fn)(hb:fn.body=some c)
  (hm:dw P aG fn.ntmps c=some m)(hr:fu P fn.results.toList=some rs)(hfn:gI P f=true)(hlen:xs.length≤fn.ntmps)(p8:fn.ntmps≤gS)
  (hv:(∀i,Fits (xs.getD i .any))→bz P m (fun s2=>fy s2 rs fun r=>K r (back s s2)) (fun _ _=>False) (fun s2=>fy s2 rs fun r=>K r (back s s2)) ⟨fun k=>if gS≤k then s.env k else dj xs k,s.loc⟩):fW P f xs s K:=by
 refine⟨hfn,fun C Pt a w A Lx sp vs aZ hG hs hrv=> ?_⟩
 let C':Ctx P:={C with N:=fn.ntmps,B:=w.heap.size,ro:=none}
 let s0:St:=⟨fun k=>if gS≤k then s.env k else dj xs k,s.loc⟩
 have hg:∀k,gS≤k→s0.env k=s.env k:=fun k hk=>by show(if gS≤k then s.env k else dj xs k)=_;rw[if_pos hk]
 have ho:∀b,s0.env (oS+b)=s.env (oS+b):=fun b=>hg _ (xM b)
 have fK:aes s0=aes s:=by funext b o;simp only[aes,ho]
 have hh:held s0 sp=held s sp:=by unfold held;rw[fK]
 have Ir:=BM (n:=fn.ntmps) hlen (fun b o ha=>(hG.rs.av b o ha).1) hs hrv
 have cG:RS fn.ntmps s0 ⟨vs++Array.replicate (fn.ntmps - vs.size) undef,[]⟩ w A sp:=by
  refine⟨Ir.size,rfl,fun d=> ?_,hG.rs.loc,hG.rs.cg,hG.rs.dO,hG.rs.av⟩
  by_cases hd:gS≤d
  ·rw[hg d hd]
   have:=hG.ig d hd
   generalize s.env d=x at this
   cases x<;>first|(cases this;done)|exact⟨.any _,trivial⟩|exact⟨.ghost _ _ _ _,trivial⟩
  ·have e:s0.env d=dj xs d:=by show(if gS≤d then s.env d else dj xs d)=_;rw[if_neg hd]
   rw[e]
   refine⟨(Ir.env d).1,?_⟩
   simp only[dj]
   exact .erase
 have uD:GS C' Pt s0 ⟨vs++Array.replicate (fn.ntmps - vs.size) undef,[]⟩ w A Lx sp:=⟨cG,fun k hk=>by rw[hg k hk];exact hG.ig k hk,hG.lt,by rw[hh];exact hG.ap,hG.av,by rw[hg _ (Nat.le_refl _)];exact hG.x,fun p hp=>by rw[ho];exact hG.pt p hp,fun b=>by rw[ho];exact hG.ob b,by rw[fK];exact hG.oa,Nat.le_refl _,List.nodup_nil,fun d hd=>(by cases hd),fun l e=>(by cases e)⟩
 refine A5 (n:=0) (callsIn_of_wp_marks hf hb trivial (wpIn_mono (Bz c C' m _ _ _ _ _ _ w A _ sp p8 hm uD (hv fun i=>⟨w,A,_,hrv i⟩)) ?_))
 rintro e a' w' ⟨s',A',bw,sp',dH,hsub,rL,aS,-,hq⟩
 have fin:(fy s' rs fun r=>K r (back s s'))→LeavesInM (Fw none) 0 P fn a'.tmps (fun e w'=>∃r v s' A' bw sp',e=.returned v∧RV w' A' r v∧aek sp' r v∧GS C Pt s' a w' A' bw sp'∧Ev w A (join (held s sp) Lx) w' A' (join (held s' sp') bw)∧K r s') a'.defers .returning w':=by
  intro hq
  refine xL rfl a'.defers dH w' rL fun w2 m_ en rO=> ?_
  obtain⟨r,v,g1,g2,g3,g4⟩:=Td en.rs hr hq
  have dJ:Ev w A (join (held s sp) Lx) w2 A' (join (held s' sp') bw):=by
   have:=aS.low rO
   rwa [hh] at this
  have hmono:∀b o v,A b o→w.cell? ⟨b,o,none⟩=some v→w2.cell? ⟨b,o,none⟩=some v∧A' b o:=fun b o v ha hv=>⟨(dJ.cell b o (hG.rs.av b o ha).1 (fun hl=>by rcases hl with hl|hl;exact hG.pW ha hl;exact hG.av b o ha hl)).1.trans hv,dJ.sub b o ha⟩
  have hrb:RS C.N (back s s') ⟨a.tmps,[]⟩ w2 A' sp':=by
   refine⟨hG.rs.size,rfl,fun d=> ?_,en.rs.loc,en.rs.cg,en.rs.dO,en.rs.av⟩
   by_cases hd:gS≤d
   ·rw[iG _ _ hd]
    have:=en.ig d hd
    generalize s'.env d=x at this
    cases x<;>first|(cases this;done)|exact⟨.any _,trivial⟩|exact⟨.ghost _ _ _ _,trivial⟩
   ·rw[Te _ _ hd]
    exact⟨((hG.rs.env d).1.mono hmono).erase,.erase⟩
  refine⟨v,g1,r,v,back s s',A',bw,sp',rfl,g2,g3,⟨hrb,fun k hk=>by rw[iG _ _ hk];exact en.ig k hk,en.lt,by rw[afm];exact en.ap,en.av,by rw[iG _ _ (Nat.le_refl _)];exact en.x,fun p hp=> ?_,fun b=>by rw[jA];exact en.ob b,by rw[ux];exact en.oa,Nat.le_trans hG.bs dJ.size,hG.dn,hG.df,hG.ro⟩,by rw[afm];exact dJ,g4⟩
  obtain⟨p1,p2,p3,p4,p5⟩:=rL.pt p (hsub p hp)
  have hlt:=cy (hG.pt p hp).1
  exact⟨(rO.2.2.2.2 p.1 hlt).trans p1,p2,p3,p4,by rw[jA];exact p5⟩
 cases e with
 |normal=>exact fin hq
 |ret=>exact fin hq
 |exit i=>exact hq.elim
 |goto l=>exact hq.elim
 |panic ch=>exact hq.elim
 |outgrown=>exact hq.elim
theorem gK{f:FuncId}{fn:Func}{aG:cn}{m:ay}{rs:List aE}{xs:List AV}{s:St}{K:AV→St→Prop}(hf:P.funcs[f]? =some fn)
  (hm:fn.body.bind (dw P aG fn.ntmps)=some m)(hr:fu P fn.results.toList=some rs)(hfn:gI P f=true)(hlen:xs.length≤fn.ntmps∧fn.ntmps≤1000000)
  (hv:(∀i,Fits (xs.getD i .any))→bz P m (fun s2=>fy s2 rs fun r=>K r (back s s2)) (fun _ _=>False) (fun s2=>fy s2 rs fun r=>K r (back s s2)) ⟨fun k=>if gS≤k then s.env k else dj xs k,s.loc⟩):fW P f xs s K:=by
 cases hb:fn.body with
 |none=>rw[hb] at hm;cases hm
 |some c=>rw[hb] at hm;exact Tf hf hb hm hr hfn hlen.1 (by simp only[gS];exact hlen.2) hv
end
end Go.aq
namespace Go.aq
section
variable (P:Program) (ms:List MOp) (K:St→Prop) (s:St)
theorem Tg(d k:Nat)(x:AV):(s.set d x).env k=if k=d then x else s.env k:=rfl
theorem Th(d:Nat)(x:AV):(s.set d x).loc=s.loc:=rfl
theorem Ti(b k:Nat)(cs:List AV):(s.new b cs).env k=s.env k:=rfl
theorem Tj(b c:Nat)(cs:List AV):(s.new b cs).loc c=if c=b then some cs else s.loc c:=rfl
theorem Tk(r k:Nat):(s.aT r).env k=aC r (s.env k):=rfl
theorem BQ(r b:Nat):(s.aT r).loc b=(s.loc b).map (·.map (aC r)):=rfl
def St.bG(s:St)(k b:Nat)(cs:List AV):St:=⟨aD s.env k (.ref cs),aD s.loc b none⟩
theorem Tl(k b j:Nat)(cs:List AV):(s.bG k b cs).env j=if j=k then .ref cs else s.env j:=rfl
theorem Tm(k b c:Nat)(cs:List AV):(s.bG k b cs).loc c=if c=b then none else s.loc c:=rfl
theorem Tn(e:Nat→AV)(n:Nat):ai.ev e (.t n)=e n:=rfl
theorem ah7(e:Nat→AV)(x:AV):ai.ev e (.c x)=x:=rfl
theorem Tp(e:Nat→AV)(l:Nat→Option (List AV))(k:Nat):(St.mk e l).env k=e k:=rfl
theorem Tq(e:Nat→AV)(l:Nat→Option (List AV)):(St.mk e l).loc=l:=rfl
theorem Tr(xs:List AV)(k:Nat):dj xs k=(xs.getD k .any).erase:=rfl
theorem Ts(v:Value):(AV.lit v).erase=.lit v:=rfl
theorem Tt(sz:Nat)(xs:List AV)(r:Nat):(AV.slice sz xs r).erase=.slice sz xs 0:=rfl
theorem Tu(cs:List AV):(AV.agg cs).erase=.agg (cs.map AV.erase0):=rfl
theorem Tv(cs:List AV):(AV.ref cs).erase=.ref cs:=rfl
theorem Tw(b o:Nat):(AV.au b o).erase=.au b o:=rfl
theorem Tx(f:Fn)(a b:List AV):(AV.func f a b).erase=.func f a b:=rfl
theorem Ty(a:List AV):(AV.tuple a).erase=.tuple a:=rfl
theorem Tz:AV.any.erase=.any:=rfl
theorem TA(v:Value):(AV.lit v).erase0=.lit v:=rfl
theorem TB(sz:Nat)(xs:List AV)(r:Nat):(AV.slice sz xs r).erase0=.slice sz xs 0:=rfl
theorem TC(cs:List AV):(AV.ref cs).erase0=.ref cs:=rfl
theorem TD(b o:Nat):(AV.au b o).erase0=.au b o:=rfl
theorem TE(f:Fn)(a b:List AV):(AV.func f a b).erase0=.func f a b:=rfl
theorem TF(r:Nat)(v:Value):aC r (.lit v)=.lit v:=rfl
theorem TG(r sz:Nat)(xs:List AV)(q:Nat):aC r (.slice sz xs q)=if q=r then .slice sz xs 0 else .slice sz xs q:=rfl
theorem TH(r:Nat)(cs:List AV):aC r (.ref cs)=.ref cs:=rfl
theorem TI(r b o:Nat):aC r (.au b o)=.au b o:=rfl
theorem TJ(r:Nat)(cs:List AV):aC r (.agg cs)=.agg cs:=rfl
theorem TK(r:Nat):aC r .any=.any:=rfl
theorem TL(r:Nat)(f:Fn)(a b:List AV):aC r (.func f a b)=.func f a b:=rfl
theorem TM(r:Nat)(a:List AV):aC r (.tuple a)=.tuple a:=rfl
theorem TN(v:Value):(AV.lit v).cells=[.lit v]:=rfl
theorem TO(sz:Nat)(xs:List AV)(q:Nat):(AV.slice sz xs q).cells=[.slice sz xs q]:=rfl
theorem TP(cs:List AV):(AV.agg cs).cells=cs:=rfl
theorem TQ(cs:List AV):(AV.ref cs).cells=[.ref cs]:=rfl
theorem TR(b o:Nat):(AV.au b o).cells=[.au b o]:=rfl
theorem TS(f:Fn)(a b:List AV):(AV.func f a b).cells=[.func f a b]:=rfl
theorem TT(cs:List AV)(o:Nat):splice cs o []=cs:=rfl
theorem BR(cs:List AV)(o:Nat)(v:AV)(vs:List AV):splice cs o (v::vs)=splice (cs.set o v) (o+1) vs:=rfl
theorem BS:vcs P [] K s=K s:=rfl
theorem TU(d:Nat)(x:ai):vcs P (.af d x::ms) K s=vcs P ms K (s.set d (x.ev s.env)):=rfl
theorem TV(d:Nat)(x:ai):vcs P (.ag d x::ms) K s=vcs P ms K (fh s d (x.ev s.env)):=rfl
theorem TW(d:Nat)(v:Value):fh s d (.lit v)=s.set d (.lit v):=rfl
theorem TX(d:Nat)(cs:List AV):fh s d (.agg cs)=s.set d (.agg cs):=rfl
theorem TY(d:Nat)(cs:List AV):fh s d (.ref cs)=s.set d (.ref cs):=rfl
theorem TZ(d:Nat)(f:Fn)(a b:List AV):fh s d (.func f a b)=s.set d (.func f a b):=rfl
theorem T0(d sz:Nat)(xs:List AV):fh s d (.slice sz xs 0)=s.set d (.slice sz xs 0):=rfl
theorem T1(d sz:Nat)(xs:List AV)(r:Nat):fh s d (.slice sz xs r)=if r=0 then s.set d (.slice sz xs 0) else ((s.aT r).aT (d+1)).set d (.slice sz xs (d+1)):=rfl
theorem ah8(d sz:Nat):vcs P (.bx d sz::ms) K s=vcs P ms K ((s.aT (d+1)).set d (.slice sz [] (d+1))):=rfl
theorem ah9(d n:Nat)(x:ai):vcs P (.aU d x n::ms) K s=((x.ev s.env).cells.length=n∧vcs P ms K (s.set d (.ref ((x.ev s.env).cells.map AV.erase0)))):=rfl
theorem T4(d n:Nat):vcs P (.kP d n::ms) K s=vcs P ms K (s.set d (.lit (.int .i64 n))):=rfl
theorem T5(d:Nat)(fn:Fn)(a b:List ai):vcs P (.eP d fn a b::ms) K s=vcs P ms K (s.set d (.func fn (a.map fun x=>(x.ev s.env).erase) (b.map fun x=>(x.ev s.env).erase))):=rfl
def lp(d:Nat)(cs:List AV)(off:Nat)(e:Bool):Option Nat→Prop
 |none=>off<cs.length∧vcs P ms K (s.set d (if e then (cs.getD off .any).erase else cs.getD off .any))
 |some n=>off+n≤cs.length∧vcs P ms K (s.set d (.agg (((cs.drop off).take n).map AV.erase0)))
theorem uF(x:AV):x.erase.erase=x.erase:=by
 cases x<;>first|rfl|skip
 show AV.agg _=AV.agg _
 rw[GB]
def Is(d:Nat)(off:Nat)(n:Option Nat):Option (List AV)→Prop
 |some cs=>lp P ms K s d cs off false n
 |none=>False
def uG(d:Nat)(n:Option Nat):AV→Prop
 |.ref cs=>lp P ms K s d cs 0 true n
 |.au b off=>Is P ms K s d off n (s.loc b)
 |_=>False
theorem T6(d:Nat)(x:ai)(n:Option Nat):vcs P (.load d x n::ms) K s=uG P ms K s d n (x.ev s.env):=by
 rw[show vcs P (.load d x n::ms) K s=cJ s.loc (x.ev s.env) n (fun v=>vcs P ms K (s.set d v)) from rfl]
 unfold cJ uG
 cases x.ev s.env<;>first|rfl|skip
 cases n with
 |none=>rfl
 |some k=>simp only[lp,cx,uF];rfl
def BT(off n aO:Nat)(b:Nat)(y:AV):Option (List AV)→Prop
 |some cs=>off+n≤cs.length∧y.cells.length=n∧y.cells.all AV.bK=true∧
   match y with
   |.slice sz xs r=>if r=0∨aO=0 then vcs P ms K (s.new b (splice cs off [.slice sz xs 0])) else vcs P ms K (((s.aT r).aT aO).new b ((cs.map (fun x=>aC aO (aC r x))).set off (.slice sz xs aO)))
   |y=>vcs P ms K (s.new b (splice cs off (y.cells.map AV.erase0)))
 |none=>False
def xN(n aO:Nat)(y:AV):AV→Prop
 |.au b off=>BT P ms K s off n aO b y (s.loc b)
 |_=>False
theorem T7(x y:ai)(n aO:Nat):vcs P (.store x y n aO::ms) K s=xN P ms K s n aO (y.ev s.env) (x.ev s.env):=by
 rw[show vcs P (.store x y n aO::ms) K s=ae7 s (x.ev s.env) (y.ev s.env) n aO (vcs P ms K) from rfl]
 unfold ae7 xN
 cases x.ev s.env<;>first|rfl|skip
def It(k n:Nat)(y:AV):AV→Option (List AV)→Prop
 |.au b 0,some cs=>cs.length=n∧y.cells.length=n∧y.cells.all AV.bK=true∧vcs P ms K (s.bG k b (y.cells.map AV.erase0))
 |_,_=>False
def xO:AV→Nat
 |.au b _=>b
 |_=>0
theorem T8(k:Nat)(y:ai)(n:Nat):vcs P (.bp k y n::ms) K s=It P ms K s k n (y.ev s.env) (s.env k) (s.loc (xO (s.env k))):=by
 show(match s.env k with|.au b 0=>_|_=>_)=_
 cases s.env k<;>first|rfl|skip
 rename_i b off
 cases off with
 |zero=>simp only[xO];cases s.loc b<;>rfl
 |succ o=>simp only[xO];cases s.loc b<;>rfl
def Iu(d off:Nat):AV→Prop
 |.ref cs=>vcs P ms K (s.set d (.ref (cs.drop off)))
 |.au b o=>vcs P ms K (s.set d (.au b (o+off)))
 |_=>False
theorem T9(d:Nat)(x:ai)(off:Nat):vcs P (.addr d x off::ms) K s=Iu P ms K s d off (x.ev s.env):=by
 show(match x.ev s.env with|.ref cs=>_|.au b o=>_|_=>_)=_
 cases x.ev s.env<;>rfl
def BU(d sz:Nat):AV→AV→Prop
 |.slice sz' xs _,.lit (.int _ n)=>sz'=sz∧0≤n∧n<xs.length∧vcs P ms K (s.set d (.ref (xs.getD n.toNat .any).cells))
 |.aV b off len _ sz',.lit (.int _ n)=>sz'=sz∧0≤n∧n<len∧vcs P ms K (s.set d (.au b (off+n.toNat*sz)))
 |_,_=>False
theorem T_(d:Nat)(x i:ai)(sz:Nat):vcs P (.aK d x i sz::ms) K s=BU P ms K s d sz (x.ev s.env) (i.ev s.env):=by
 show(match x.ev s.env,i.ev s.env with|.slice sz' xs _,.lit (.int _ n)=>_|.aV b off len _ sz',.lit (.int _ n)=>_|_,_=>_)=_
 unfold BU;rfl
def BV(d len sz:Nat):AV→AV→Prop
 |.ref cs,.lit (.int _ n)=>0≤n∧n<len∧vcs P ms K (s.set d (.ref (cs.drop (n.toNat*sz))))
 |.au b off,.lit (.int _ n)=>0≤n∧n<len∧vcs P ms K (s.set d (.au b (off+n.toNat*sz)))
 |_,_=>False
theorem ah_(d:Nat)(x i:ai)(len sz:Nat):vcs P (.cw d x i len sz::ms) K s=BV P ms K s d len sz (x.ev s.env) (i.ev s.env):=by unfold BV;rfl
def BW(d off:Nat)(n:Option Nat):AV→Prop
 |.agg cs=>lp P ms K s d cs off true n
 |_=>False
theorem Ua(d:Nat)(x:ai)(off:Nat)(n:Option Nat):vcs P (.iW d x off n::ms) K s=BW P ms K s d off n (x.ev s.env):=by
 show(match x.ev s.env with|.agg cs=>_|_=>_)=_
 cases x.ev s.env<;>first|rfl|skip
 cases n with
 |none=>rfl
 |some k=>simp only[BW,lp,cx,uF];rfl
def BX(d len sz:Nat)(n:Option Nat):AV→AV→Prop
 |.agg cs,.lit (.int _ j)=>0≤j∧j<len∧lp P ms K s d cs (j.toNat*sz) true n
 |_,_=>False
theorem Ub(d:Nat)(x i:ai)(len sz:Nat)(n:Option Nat):vcs P (.iu d x i len sz n::ms) K s=BX P ms K s d len sz n (x.ev s.env) (i.ev s.env):=by
 show(match x.ev s.env,i.ev s.env with|.agg cs,.lit (.int _ j)=>_|_,_=>_)=_
 unfold BX
 split
 ·cases n with
  |none=>rfl
  |some k=>simp only[lp,cx,uF];rfl
 ·rfl
def BY(d:Nat):AV→AV→Prop
 |.lit (.string t),.lit (.int _ j)=>0≤j∧j<t.size∧vcs P ms K (s.set d (.lit (.int .u8 (t.data.toList.getD j.toNat 0).toNat)))
 |_,_=>False
theorem Uc(d:Nat)(x i:ai):vcs P (.dF d x i::ms) K s=BY P ms K s d (x.ev s.env) (i.ev s.env):=by unfold BY;rfl
def BZ(d:Nat):AV→Prop
 |.slice _ xs _=>vcs P ms K (s.set d (.lit (.int .i64 xs.length)))
 |.aV _ _ len _ _=>vcs P ms K (s.set d (.lit (.int .i64 len)))
 |_=>False
theorem Ud(d:Nat)(x:ai):vcs P (.len d x::ms) K s=BZ P ms K s d (x.ev s.env):=by unfold BZ;rfl
def B0(d:Nat):AV→Prop
 |.lit (.string t)=>vcs P ms K (s.set d (.lit (.int .i64 t.size)))
 |_=>False
theorem Ue(d:Nat)(x:ai):vcs P (.aez d x::ms) K s=B0 P ms K s d (x.ev s.env):=by unfold B0;rfl
def ahw(d:Nat):AV→Prop
 |.lit (.string t)=>vcs P ms K (s.set d (.lit (.string t)))
 |_=>False
theorem Uf(d:Nat)(x:ai):vcs P (.lV d x::ms) K s=ahw P ms K s d (x.ev s.env):=by unfold ahw;rfl
def ahx(d sz bytes:Nat):AV→AV→Prop
 |.slice mS xs r,.slice mT ys _=>r≠0∧mS=sz∧(mT=sz∨ys=[])∧(xs.length+ys.length)*bytes≤140737488355328∧xs.length+ys.length≤140737488355328∧vcs P ms K (((s.aT r).aT (d+1)).set d (.slice sz (xs++ys) (d+1)))
 |_,_=>False
theorem Ug(d:Nat)(x y:ai)(sz bytes:Nat):vcs P (.app d x y sz bytes::ms) K s=ahx P ms K s d sz bytes (x.ev s.env) (y.ev s.env):=by unfold ahx;rfl
def cX(d:Nat)(op:BinOp)(x y:AV):Prop:=cU op x y fun v=>vcs P ms K (s.set d v)
theorem Uh(d:Nat)(op:BinOp)(x y:ai):vcs P (.bin d op x y::ms) K s=cX P ms K s d op (x.ev s.env) (y.ev s.env):=rfl
section
variable (d:Nat) (k:IntKind) (a b:Int)
theorem Ui:cX P ms K s d .add (.lit (.int k a)) (.lit (.int k b))=(gu k (a+b)∧vcs P ms K (s.set d (.lit (.int k (a+b))))):=by simp only[cX,cU,aeF,true_and]
theorem Uj:cX P ms K s d .sub (.lit (.int k a)) (.lit (.int k b))=(gu k (a - b)∧vcs P ms K (s.set d (.lit (.int k (a - b))))):=by simp only[cX,cU,aeF,true_and]
theorem Uk:cX P ms K s d .mul (.lit (.int k a)) (.lit (.int k b))=(gu k (a*b)∧vcs P ms K (s.set d (.lit (.int k (a*b))))):=by simp only[cX,cU,aeF,true_and]
theorem Ul:cX P ms K s d .quo (.lit (.int k a)) (.lit (.int k b))=(b≠0∧gu k (a.tdiv b)∧vcs P ms K (s.set d (.lit (.int k (a.tdiv b))))):=by simp only[cX,cU,aeF,true_and]
theorem Um:cX P ms K s d .rem (.lit (.int k a)) (.lit (.int k b))=(b≠0∧vcs P ms K (s.set d (.lit (.int k (a.tmod b))))):=by simp only[cX,cU,aeF,true_and]
theorem Un:cX P ms K s d .and (.lit (.int k a)) (.lit (.int k b))=vcs P ms K (s.set d (.lit (.int k (cP .and k a b)))):=by simp only[cX,cU,aeF,true_and]
theorem Uo:cX P ms K s d .or (.lit (.int k a)) (.lit (.int k b))=vcs P ms K (s.set d (.lit (.int k (cP .or k a b)))):=by simp only[cX,cU,aeF,true_and]
theorem Up:cX P ms K s d .xor (.lit (.int k a)) (.lit (.int k b))=vcs P ms K (s.set d (.lit (.int k (cP .xor k a b)))):=by simp only[cX,cU,aeF,true_and]
theorem Uq:cX P ms K s d .andNot (.lit (.int k a)) (.lit (.int k b))=vcs P ms K (s.set d (.lit (.int k (cP .andNot k a b)))):=by simp only[cX,cU,aeF,true_and]
theorem Ur(k':IntKind):cX P ms K s d .shl (.lit (.int k a)) (.lit (.int k' b))=(0≤b∧vcs P ms K (s.set d (.lit (.int k (k.wrap (a*2^(min b.toNat k.bits))))))):=rfl
theorem Us(k':IntKind):cX P ms K s d .shr (.lit (.int k a)) (.lit (.int k' b))=(0≤b∧vcs P ms K (s.set d (.lit (.int k (a.fdiv (2^(min b.toNat k.bits))))))):=rfl
theorem Ut:cX P ms K s d .eql (.lit (.int k a)) (.lit (.int k b))=vcs P ms K (s.set d (.lit (.bool (a==b)))):=by simp only[cX,cU,aeF,true_and]
theorem Uu:cX P ms K s d .neq (.lit (.int k a)) (.lit (.int k b))=vcs P ms K (s.set d (.lit (.bool (a != b)))):=by simp only[cX,cU,aeF,true_and]
theorem Uv:cX P ms K s d .lss (.lit (.int k a)) (.lit (.int k b))=vcs P ms K (s.set d (.lit (.bool (decide (a<b))))):=by simp only[cX,cU,aeF,true_and]
theorem Uw:cX P ms K s d .leq (.lit (.int k a)) (.lit (.int k b))=vcs P ms K (s.set d (.lit (.bool (decide (a≤b))))):=by simp only[cX,cU,aeF,true_and]
theorem Ux:cX P ms K s d .gtr (.lit (.int k a)) (.lit (.int k b))=vcs P ms K (s.set d (.lit (.bool (decide (b<a))))):=by simp only[cX,cU,aeF,true_and,gt_iff_lt]
theorem Uy:cX P ms K s d .geq (.lit (.int k a)) (.lit (.int k b))=vcs P ms K (s.set d (.lit (.bool (decide (b≤a))))):=by simp only[cX,cU,aeF,true_and,ge_iff_le]
theorem Uz(p q:ByteArray):cX P ms K s d .eql (.lit (.string p)) (.lit (.string q))=vcs P ms K (s.set d (.lit (.bool (p.toList==q.toList)))):=rfl
theorem UA(p q:ByteArray):cX P ms K s d .neq (.lit (.string p)) (.lit (.string q))=vcs P ms K (s.set d (.lit (.bool (!(p.toList==q.toList))))):=rfl
end
def B3(d:Nat)(neg:Bool):AV→AV→Prop
 |.lit (.bool a),.lit (.bool b)=>vcs P ms K (s.set d (.lit (.bool (if neg then !(a==b) else a==b))))
 |_,_=>False
theorem UB(d:Nat)(neg:Bool)(x y:ai):vcs P (.iw d neg x y::ms) K s=B3 P ms K s d neg (x.ev s.env) (y.ev s.env):=by unfold B3;rfl
def B4(d:Nat)(neg:Bool)(n:List Bool):AV→AV→Prop
 |.agg a,.agg b=>a.length=n.length∧b.length=n.length∧∃q,dh n a b=some q∧vcs P ms K (s.set d (.lit (.bool (if neg then !q else q))))
 |_,_=>False
theorem UC(d:Nat)(neg:Bool)(n:List Bool)(x y:ai):vcs P (.ff d neg n x y::ms) K s=B4 P ms K s d neg n (x.ev s.env) (y.ev s.env):=by unfold B4;rfl
def B5(d:Nat):AV→Prop
 |.lit (.bool a)=>vcs P ms K (s.set d (.lit (.bool (!a))))
 |_=>False
theorem UD(d:Nat)(x:ai):vcs P (.not d x::ms) K s=B5 P ms K s d (x.ev s.env):=by unfold B5;rfl
def B6(d:Nat):AV→Prop
 |.lit (.int k a)=>gu k (0 - a)∧vcs P ms K (s.set d (.lit (.int k (0 - a))))
 |_=>False
theorem UE(d:Nat)(x:ai):vcs P (.neg d x::ms) K s=B6 P ms K s d (x.ev s.env):=by unfold B6;rfl
def B7(d:Nat)(k:IntKind):AV→Prop
 |.lit (.int _ a)=>vcs P ms K (s.set d (.lit (.int k (k.wrap a))))
 |_=>False
theorem UF(d:Nat)(k:IntKind)(x:ai):vcs P (.conv d k x::ms) K s=B7 P ms K s d k (x.ev s.env):=by unfold B7;rfl
def xP(d:Nat)(x y:AV):AV→Prop
 |.lit (.bool b)=>vcs P ms K (s.set d (if b then x else y))
 |_=>False
theorem UG(d:Nat)(c x y:ai):vcs P (.pick d c x y::ms) K s=xP P ms K s d (x.ev s.env) (y.ev s.env) (c.ev s.env):=by unfold xP;rfl
def B8(d i:Nat):AV→Prop
 |.tuple vs=>i<vs.length∧vcs P ms K (s.set d (vs.getD i .any).erase)
 |_=>False
theorem UH(d:Nat)(x:ai)(i:Nat):vcs P (.ext d x i::ms) K s=B8 P ms K s d i (x.ev s.env):=by unfold B8;rfl
def iI(d:Nat):AV→AV→Prop
 |.lit (.int k a),.lit (.int _ b)=>vcs P ms K (s.set d (.lit (.int k (if b>a then b else a))))
 |_,_=>False
theorem UI(d:Nat)(x y:ai):vcs P (.aeU d x y::ms) K s=iI P ms K s d (x.ev s.env) (y.ev s.env):=by unfold iI;rfl
def afy(d:Nat):AV→AV→Prop
 |.lit (.int k a),.lit (.int _ b)=>vcs P ms K (s.set d (.lit (.int k (if b<a then b else a))))
 |_,_=>False
theorem UJ(d:Nat)(x y:ai):vcs P (.iz d x y::ms) K s=afy P ms K s d (x.ev s.env) (y.ev s.env):=by unfold afy;rfl
def B9(d:Nat):AV→Prop
 |.ref cs=>vcs P ms K (s.set d (.ref cs))
 |.au b o=>vcs P ms K (s.set d (.au b o))
 |_=>False
theorem UK(d:Nat)(x:ai):vcs P (.dg d x::ms) K s=B9 P ms K s d (x.ev s.env):=by unfold B9;rfl
def B_(d sz:Nat):AV→AV→Prop
 |.slice sz' xs _,.lit (.int _ n)=>(sz'=sz∨xs=[])∧0≤n∧n≤xs.length∧vcs P ms K (s.set d (.slice sz (xs.take n.toNat) 0))
 |_,_=>False
theorem UL(d:Nat)(x h:ai)(sz:Nat):vcs P (.iX d x h sz::ms) K s=B_ P ms K s d sz (x.ev s.env) (h.ev s.env):=by unfold B_;rfl
def Ca(d sz:Nat):AV→AV→Prop
 |.slice sz' xs _,.lit (.int _ n)=>(sz'=sz∨xs=[])∧0≤n∧n≤xs.length∧vcs P ms K (s.set d (.slice sz (xs.drop n.toNat) 0))
 |_,_=>False
theorem UM(d:Nat)(x l:ai)(sz:Nat):vcs P (.kQ d x l sz::ms) K s=Ca P ms K s d sz (x.ev s.env) (l.ev s.env):=by unfold Ca;rfl
def xQ(d:Nat)(f:FuncId)(xs:List AV):Prop:=∃r,aed P f xs r∧vcs P ms K (s.set d r.erase)
theorem UN(d:Nat)(f:FuncId)(xs:List ai):vcs P (.call d f xs::ms) K s=xQ P ms K s d f (xs.map fun x=>(x.ev s.env).erase):=rfl
theorem aj{P:Program}{ms:List MOp}{K:St→Prop}{s:St}{d:Nat}{f:FuncId}{xs:List AV}{r:AV}(h:aed P f xs r)(hk:vcs P ms K (s.set d r.erase)):xQ P ms K s d f xs:=⟨r,h,hk⟩
def ng(d:Nat)(xs:List AV):AV→Prop
 |.func (.func f) first cap=>xQ P ms K s d f (first++xs++cap)
 |_=>False
theorem UO(d:Nat)(x:ai)(xs:List ai):vcs P (.gJ d x xs::ms) K s=ng P ms K s d (xs.map fun x=>(x.ev s.env).erase) (x.ev s.env):=by
 show(match x.ev s.env with|.func (.func f) first cap=>_|_=>_)=_
 unfold ng xQ;rfl
def lu(want:Bool)(d:Option Nat)(m:MOp):AV→Prop
 |.lit (.bool b)=>(b=want→vcs P (m::ms) K s)∧(b=(!want)→vcs P ms K (match d with|some d=>s.set d (.tuple [])|none=>s))
 |.tuple []=>vcs P ms K (match d with|some d=>s.set d (.tuple [])|none=>s)
 |_=>False
theorem UP(g:Nat)(want:Bool)(d:Option Nat)(m:MOp):vcs P (.guard g want d m::ms) K s=lu P ms K s want d m (s.env g):=by unfold lu;rfl
theorem UQ(want:Bool)(d:Nat)(m:MOp):lu P ms K s want (some d) m (.tuple [])=vcs P ms K (s.set d (.tuple [])):=rfl
theorem UR(d:Option Nat)(m:MOp):lu P ms K s true d m (.lit (.bool true))=vcs P (m::ms) K s:=by simp[lu]
theorem ah'(d:Option Nat)(m:MOp):lu P ms K s false d m (.lit (.bool false))=vcs P (m::ms) K s:=by simp[lu]
theorem UT(d:Nat)(m:MOp):lu P ms K s true (some d) m (.lit (.bool false))=vcs P ms K (s.set d (.tuple [])):=by simp[lu]
theorem UU(d:Nat)(m:MOp):lu P ms K s false (some d) m (.lit (.bool true))=vcs P ms K (s.set d (.tuple [])):=by simp[lu]
end
section
variable (P:Program) (kn:St→Prop) (ke:Nat→St→Prop) (kr:St→Prop) (s:St)
theorem UW:bz P .skip kn ke kr s=kn s:=rfl
theorem UX(ms:List MOp):bz P (.aa ms) kn ke kr s=vcs P ms kn s:=rfl
theorem UY(x y:ay):bz P (.seq x y) kn ke kr s=bz P x (bz P y kn ke kr) ke kr s:=rfl
theorem UZ(i:Nat):bz P (.exit i) kn ke kr s=ke i s:=rfl
theorem U0:bz P .ret kn ke kr s=kr s:=rfl
def Iv(kn:St→Prop)(ke:Nat→St→Prop)(id:Nat):Nat→St→Prop:=fun i s=>if i=id then kn s else ke i s
theorem U1(id:Nat)(c:ay):bz P (.block id c) kn ke kr s=bz P c kn (Iv kn ke id) kr s:=rfl
theorem U2(id i:Nat):Iv kn ke id i s=if i=id then kn s else ke i s:=rfl
def lz(x y:ay):AV→Prop
 |.lit (.bool b)=>(b=true→bz P x kn ke kr s)∧(b=false→bz P y kn ke kr s)
 |_=>False
theorem U3(t:ai)(x y:ay):bz P (.cond t x y) kn ke kr s=lz P kn ke kr s x y (t.ev s.env):=by unfold lz;rfl
theorem U4(x y:ay):lz P kn ke kr s x y (.lit (.bool true))=bz P x kn ke kr s:=by simp[lz]
theorem U5(x y:ay):lz P kn ke kr s x y (.lit (.bool false))=bz P y kn ke kr s:=by simp[lz]
end
theorem bA{P:Program}{kn:St→Prop}{ke:Nat→St→Prop}{kr:St→Prop}{s:St}{x y:ay}{p:Prop}[Decidable p](h1:p→bz P x kn ke kr s)(h2:¬p→bz P y kn ke kr s):lz P kn ke kr s x y (.lit (.bool (decide p))):=⟨fun h=>h1 (of_decide_eq_true h),fun h=>h2 (of_decide_eq_false h)⟩
theorem bR{P:Program}{kn:St→Prop}{ke:Nat→St→Prop}{kr:St→Prop}{s:St}{x y:ay}{b:Bool}(h1:b=true→bz P x kn ke kr s)(h2:b=false→bz P y kn ke kr s):lz P kn ke kr s x y (.lit (.bool b)):=⟨h1,h2⟩
def Cb(n:Nat)(I:Nat→St→Prop)(k:Nat)(s:St):Prop:=∃m s1,m<n - k∧rH s s1∧∃k',k'≤n∧m=n - k'∧I k' s1
theorem aQ{n:Nat}{I:Nat→St→Prop}{k:Nat}{s:St}(h:k<n)(hI:I (k+1) s):Cb n I k s:=⟨n - (k+1),s,by omega,.refl s,k+1,h,rfl,hI⟩
theorem aef{P:Program}{c:ay}{kn:St→Prop}{ke:Nat→St→Prop}{kr:St→Prop}{s:St}(n:Nat)(I:Nat→St→Prop)(h0:I 0 s)(hr:∀k s,k≤n→I k s→bz P c (Cb n I k) ke kr s):bz P (.loop c) kn ke kr s:=by
 refine⟨fun m s=>∃k,k≤n∧m=n - k∧I k s,⟨n,s,.refl s,0,Nat.zero_le _,rfl,h0⟩,?_⟩
 rintro m s ⟨k,hk,rfl,hI⟩
 exact hr k s hk hI
attribute [simp] Tg Th Ti Tj Tk BQ Tl Tm Tn ah7 Tp Tq Ts Tt Tu Tv Tw Tx Ty Tz TA TB TC TD TE TF TG TH TI TJ TK TL TM TN TO TP TQ TR TS TT BR BS TU TV TW TX TY TZ T0 T1 ah8 ah9 T4 T5 T6 T7 T8 T9 T_ ah_ Ua Ub Uc Ud Ue Uf Ug Uh Ui Uj Uk Ul Um Un Uo Up Uq Ur Us Ut Uu Uv Uw Ux Uy Uz UA UB UC UD UE UF UG UH UI UJ UK UL UM UN UO UP UR ah' UQ UT UU UW UX UY UZ U0 U1 U2 U3 U4 U5 uG Is lp BT xN It xO Iu BU BV BW BX BY BZ B0 ahw ahx B3 B4 B5 B6 B7 B8 iI afy B9 B_ Ca ng eS aeJ AV.bK kS gL dh Tr
theorem U6(P:Program)(ms:List MOp)(K:St→Prop)(s:St)(d:Nat)(x y:AV):xP P ms K s d x y (.lit (.bool true))=vcs P ms K (s.set d x):=rfl
theorem U7(P:Program)(ms:List MOp)(K:St→Prop)(s:St)(d:Nat)(x y:AV):xP P ms K s d x y (.lit (.bool false))=vcs P ms K (s.set d y):=rfl
attribute [simp] U6 U7
theorem i64{n:Int}(h1: -9223372036854775808≤n)(h2:n≤9223372036854775807):gu .i64 n:=⟨h1,h2⟩
theorem U8(P:Program)(ms:List MOp)(K:St→Prop)(s:St)(d:Nat)(z:List AV)(ps:List (Nat×Nat×ai)):vcs P (.build d z ps::ms) K s=kS s.env z ps (fun cs=>vcs P ms K (s.set d (.agg cs))):=rfl
theorem U9(P:Program)(ms:List MOp)(K:St→Prop)(s:St)(d n sz:Nat)(z:List AV)(ps:List (Nat×ai)):vcs P (.aM d n sz z ps::ms) K s=gL s.env sz (List.replicate n (if sz=1 then z.getD 0 .any else .agg z)) ps (fun xs=>vcs P ms K ((s.aT (d+1)).set d (.slice sz xs (d+1)))):=rfl
theorem U_(P:Program)(ms:List MOp)(K:St→Prop)(s:St)(d n:Nat)(x:ai):vcs P (.kO d x n::ms) K s=((x.ev s.env).cells.length=n∧∀b,s.loc b=none→vcs P ms K ((s.new b ((x.ev s.env).cells.map AV.erase0)).set d (.au b 0))):=rfl
theorem U'(P:Program)(ms:List MOp)(K:St→Prop)(s:St)(d:Nat)(z:List AV):vcs P (.alloc d z::ms) K s=(∀b,s.loc b=none→vcs P ms K ((s.new b z).set d (.au b 0))):=rfl
theorem Va(P:Program)(ms:List MOp)(K:St→Prop)(s:St)(d:Nat)(x:ai):vcs P (.aev d x::ms) K s=vcs P ms K (s.set d (x.ev s.env).erase):=rfl
theorem Vb(P:Program)(ms:List MOp)(K:St→Prop)(s:St)(zs:List ai)(x:ai)(m:MOp):vcs P (.apart zs x m::ms) K s=((∀z∈zs,n_ (z.ev s.env) (x.ev s.env))∧vcs P (m::ms) K s):=rfl
attribute [simp] U8 U9 U_ U' Va Vb n_
def xR(P:Program)(ms:List MOp)(K:St→Prop)(s:St)(d:Nat)(xs:List AV):AV→AV→Prop
 |.func (.yield l) [] [],.ghost l' (y::rest) false=>l=l'∧xs=y∧vcs P ms K ((s.set gS (.ghost l rest false)).set d (.lit (.bool true)))∧vcs P ms K ((s.set gS (.ghost l rest true)).set d (.lit (.bool false)))
 |_,_=>False
theorem Vc(P:Program)(ms:List MOp)(K:St→Prop)(s:St)(d:Nat)(x:ai)(xs:List ai):vcs P (.iY d x xs::ms) K s=xR P ms K s d (xs.map fun x=>(x.ev s.env).erase) (x.ev s.env) (s.env gS):=by
 show(match x.ev s.env,s.env gS with|.func (.yield l) [] [],.ghost l' (y::rest) false=>_|_,_=>False)=_
 unfold xR;rfl
theorem Vd{P:Program}{ms:List MOp}{K:St→Prop}{s:St}{d l:Nat}{xs y:List AV}{rest:List (List AV)}:xR P ms K s d xs (.func (.yield l) [] []) (.ghost l (y::rest) false)=(xs=y∧vcs P ms K ((s.set gS (.ghost l rest false)).set d (.lit (.bool true)))∧vcs P ms K ((s.set gS (.ghost l rest true)).set d (.lit (.bool false)))):=by simp[xR]
theorem Ve(l:Nat)(r:List (List AV))(b:Bool):(AV.ghost l r b).erase=.ghost l r b:=rfl
theorem Vf(q l:Nat)(r:List (List AV))(b:Bool):aC q (AV.ghost l r b)=.ghost l r b:=rfl
def Cc(P:Program)(ps:List Nat)(a b:ay)(kn:St→Prop)(ke:Nat→St→Prop)(kr:St→Prop)(s:St):AV→Prop
 |.func (.func f) first cap=>H_ P f first cap ps.length s (fun I k y st=>bz P a (bz P b (fun s2=>I (k+1) (back s s2)) (fun i s2=>ke i (back s s2)) (fun s2=>kr (back s s2))) (fun _ _=>False) (fun _=>False) (params st ps y)) kn
 |_=>False
theorem Vg(P:Program)(kn:St→Prop)(ke:Nat→St→Prop)(kr:St→Prop)(s:St)(x:ai)(ps:List Nat)(a b:ay):bz P (.mg x ps a b) kn ke kr s=Cc P ps a b kn ke kr s (x.ev s.env):=by unfold Cc;rfl
theorem Vh(s s2:St)(k:Nat):(back s s2).env k=if gS≤k then s2.env k else (s.env k).erase:=rfl
theorem Vi(s s2:St):(back s s2).loc=s2.loc:=rfl
theorem Vj(s:St)(p:Nat)(ps:List Nat)(x:AV)(xs:List AV):params s (p::ps) (x::xs)=params (s.set p x.erase) ps xs:=rfl
theorem Vk(s:St)(xs:List AV):params s [] xs=s:=rfl
@[simp] theorem adN (cs:List AV):noMark [.agg cs]=true:=rfl
@[simp] theorem adO (s:ByteArray):noMark [.lit (.string s)]=true:=rfl
@[simp] theorem adP (k:IntKind) (n:Int):noMark [.lit (.int k n)]=true:=rfl
theorem xS{P:Program}{ps:List Nat}{a b:ay}{kn:St→Prop}{ke:Nat→St→Prop}{kr:St→Prop}{s:St}{f:FuncId}{first cap:List AV}(xs:List (List AV))(I:Nat→St→Prop)(h:iF P f first cap xs)
 (hl:∀y∈xs,y.length=ps.length∧noMark y=true)(h0:I 0 (back s s))
 (hr:∀k st,k<xs.length→st=back s st→I k st→bz P a (bz P b (fun s2=>I (k+1) (back s s2)) (fun i s2=>ke i (back s s2)) (fun s2=>kr (back s s2))) (fun _ _=>False) (fun _=>False) (params st ps (xs.getD k [])))
 (he:∀st,st=back s st→I xs.length st→kn st):Cc P ps a b kn ke kr s (.func (.func f) first cap):=⟨xs,h,hl,I,h0,hr,he⟩
theorem Vl(P:Program)(ms:List MOp)(K:St→Prop)(s:St)(d:Nat)(f:FuncId)(xs:List ai):vcs P (.gK d f xs::ms) K s=fW P f (xs.map fun x=>(x.ev s.env).erase) s (fun r s'=>vcs P ms K (s'.set d r)):=rfl
def Cd(P:Program)(ms:List MOp)(K:St→Prop)(s:St)(d:Nat)(xs:List AV):AV→Prop
 |.func (.func f) first cap=>fW P f (first++xs++cap) s (fun r s'=>vcs P ms K (s'.set d r))
 |_=>False
theorem Vm(P:Program)(ms:List MOp)(K:St→Prop)(s:St)(d:Nat)(x:ai)(xs:List ai):vcs P (.kR d x xs::ms) K s=Cd P ms K s d (xs.map fun x=>(x.ev s.env).erase) (x.ev s.env):=by unfold Cd;rfl
def Ce(P:Program)(ms:List MOp)(K:St→Prop)(s:St)(d pos:Nat)(y:AV):AV→AV→Prop
 |.func (.yield l) [] [],.ghost l' (z::rest) false=>l=l'∧∃z0 b sz len cap cs,z=[z0,mark pos]∧y=putAt z0 pos (.aV b 0 len cap sz)∧s.loc b=some cs∧kN z0 pos sz len cap cs∧vcs P ms K ((s.set gS (.ghost l rest false)).set d (.lit (.bool true)))∧vcs P ms K ((s.set gS (.ghost l rest true)).set d (.lit (.bool false)))
 |_,_=>False
theorem Vn(P:Program)(ms:List MOp)(K:St→Prop)(s:St)(d pos:Nat)(x y:ai):vcs P (.lW d x pos y::ms) K s=Ce P ms K s d pos (y.ev s.env).erase (x.ev s.env) (s.env gS):=by unfold Ce;rfl
def xT(P:Program)(pos:Nat)(ps:List Nat)(a b:ay)(kn:St→Prop)(ke:Nat→St→Prop)(kr:St→Prop)(s:St):AV→Prop
 |.func (.func f) first cap=>Ia P f first cap pos s (fun I k y st=>∀g sz len cap cs,st.loc g=none→kN y pos sz len cap cs→bz P a (bz P b (fun s2=>s2.loc g=some cs∧I (k+1) (back s (s2.del g))) (fun i s2=>s2.loc g=some cs∧ke i (back s (s2.del g))) (fun s2=>s2.loc g=some cs∧kr (back s (s2.del g)))) (fun _ _=>False) (fun _=>False) (params (st.new g cs) ps [putAt y pos (.aV g 0 len cap sz)])) kn
 |_=>False
theorem Vo(P:Program)(kn:St→Prop)(ke:Nat→St→Prop)(kr:St→Prop)(s:St)(x:ai)(pos:Nat)(ps:List Nat)(a b:ay):bz P (.afx x pos ps a b) kn ke kr s=xT P pos ps a b kn ke kr s (x.ev s.env):=by unfold xT;rfl
theorem Vp(s:St)(b k:Nat):(s.del b).env k=s.env k:=rfl
theorem Vq(s:St)(b c:Nat):(s.del b).loc c=if c=b then none else s.loc c:=rfl
theorem rP{P:Program}{pos:Nat}{ps:List Nat}{a b:ay}{kn:St→Prop}{ke:Nat→St→Prop}{kr:St→Prop}{s:St}{f:FuncId}{first cap:List AV}(xs:List AV)(I:Nat→St→Prop)(h:iF P f first cap (xs.map fun x=>[x,mark pos]))(h0:I 0 (back s s))
 (hr:∀k st,k<xs.length→st=back s st→I k st→∀g sz len cap cs,st.loc g=none→kN (xs.getD k .any) pos sz len cap cs→bz P a (bz P b (fun s2=>s2.loc g=some cs∧I (k+1) (back s (s2.del g))) (fun i s2=>s2.loc g=some cs∧ke i (back s (s2.del g))) (fun s2=>s2.loc g=some cs∧kr (back s (s2.del g)))) (fun _ _=>False) (fun _=>False) (params (st.new g cs) ps [putAt (xs.getD k .any) pos (.aV g 0 len cap sz)]))
 (he:∀st,st=back s st→I xs.length st→kn st):xT P pos ps a b kn ke kr s (.func (.func f) first cap):=⟨xs,h,I,h0,hr,he⟩
attribute [simp] Vl Vm Cd Vn Ce Vo Vp Vq
attribute [simp] Vc Vd Ve Vf Vg Vh Vi Vj Vk gS oS
def Cf(P:Program)(ms:List MOp)(K:St→Prop)(s:St)(d sz bytes:Nat)(zero:List AV):AV→AV→Prop
 |.lit (.int .i64 n),.lit (.int .i64 c)=>0≤n∧n≤c∧c*(bytes:Int)≤140737488355328∧c≤140737488355328∧c*(sz:Int)≤140737488355328∧∀b,s.loc b=none→vcs P ms K ((s.new b (List.replicate c.toNat zero).flatten).set d (.aV b 0 n.toNat c.toNat sz))
 |_,_=>False
theorem Vr(P:Program)(ms:List MOp)(K:St→Prop)(s:St)(d:Nat)(n c:ai)(sz bytes:Nat)(zero:List AV):vcs P (.mkM d n c sz bytes zero::ms) K s=Cf P ms K s d sz bytes zero (n.ev s.env) (c.ev s.env):=by unfold Cf;rfl
def uH(P:Program)(ms:List MOp)(K:St→Prop)(s:St)(d sz b off len off2 iZ:Nat):Option (List AV)→Option (List AV)→Prop
 |some cs,some ck=>off+len*sz≤cs.length∧off2+iZ*sz≤ck.length∧ck.all AV.bK=true∧vcs P ms K ((s.new b (splice cs off (((ck.drop off2).take (min iZ len*sz)).map AV.erase0))).set d (.lit (.int .i64 (min iZ len:Nat))))
 |_,_=>False
def Cg(P:Program)(ms:List MOp)(K:St→Prop)(s:St)(d sz:Nat):AV→AV→Prop
 |.aV b off len _ sz',.aV b2 off2 iZ _ cK=>sz'=sz∧cK=sz∧uH P ms K s d sz b off len off2 iZ (s.loc b) (s.loc b2)
 |_,_=>False
theorem Vs(P:Program)(ms:List MOp)(K:St→Prop)(s:St)(d:Nat)(x y:ai)(sz:Nat):vcs P (.mQ d x y sz::ms) K s=Cg P ms K s d sz (x.ev s.env) (y.ev s.env):=by
 unfold Cg
 show vc1 P (.mQ d x y sz) s (vcs P ms K)=_
 simp only[vc1]
 split
 ·rename_i b off len c1 sz' b2 off2 iZ c2 cK e1 e2
  simp only[e1,e2]
  cases s.loc b with
  |none=>simp[uH]
  |some cs=>cases s.loc b2 with
   |none=>simp[uH]
   |some ck=>simp[uH]
 ·rename_i hno
  split
  ·rename_i e1 e2
   exact absurd e2 (hno _ _ _ _ _ _ _ _ _ _ e1)
  ·rfl
attribute [simp] Vs Cg uH
theorem Vt{P:Program}{ms:List MOp}{K:St→Prop}{s:St}{d:Nat}{f:FuncId}{xs:List ai}{ys:List AV}{u:Value}(hv:pn s.loc (xs.map fun x=>(x.ev s.env).erase)=some ys)(hu:flat u=true)(h:aed P f ys (.lit u))(hk:vcs P ms K (s.set d (.lit u))):vcs P (.afV d f xs::ms) K s:=⟨ys,u,hv,hu,h,hk⟩
def Ch(P:Program)(ms:List MOp)(K:St→Prop)(s:St)(d sz:Nat):AV→AV→AV→Prop
 |.slice _ _ _,.lit (.int _ 0),.lit (.int _ 0)=>vcs P ms K ((s.aT (d+1)).set d (.slice sz [] (d+1)))
 |_,_,_=>False
theorem Vu(P:Program)(ms:List MOp)(K:St→Prop)(s:St)(d:Nat)(x hi mx:ai)(sz:Nat):vcs P (.agc d x hi mx sz::ms) K s=Ch P ms K s d sz (x.ev s.env) (hi.ev s.env) (mx.ev s.env):=by unfold Ch;rfl
attribute [simp] Vu Ch
def xU(P:Program)(ms:List MOp)(K:St→Prop)(s:St)(d sz b off len cap:Nat)(ys:List AV):Option (List AV)→Prop
 |some cs=>ys≠[]∧len+ys.length≤cap∧off+(len+ys.length)*sz≤cs.length∧vcs P ms K ((s.new b (splice cs (off+len*sz) ((ys.flatMap AV.cells).map AV.erase0))).set d (.aV b off (len+ys.length) cap sz))
 |none=>False
def Ci(P:Program)(ms:List MOp)(K:St→Prop)(s:St)(d sz:Nat):AV→AV→Prop
 |.aV b off len cap sz',.slice cK ys _=>sz'=sz∧cK=sz∧xU P ms K s d sz b off len cap ys (s.loc b)
 |_,_=>False
theorem Vv(P:Program)(ms:List MOp)(K:St→Prop)(s:St)(d:Nat)(x y:ai)(sz:Nat):vcs P (.mR d x y sz::ms) K s=Ci P ms K s d sz (x.ev s.env) (y.ev s.env):=by
 unfold Ci
 show vc1 P (.mR d x y sz) s (vcs P ms K)=_
 simp only[vc1]
 split
 ·rename_i b off len cap sz' cK ys r e1 e2
  simp only[e1,e2]
  cases s.loc b with
  |none=>simp[xU]
  |some cs=>simp[xU]
 ·rename_i hno
  split
  ·rename_i e1 e2
   exact absurd e2 (hno _ _ _ _ _ _ _ _ e1)
  ·rfl
def Cj(P:Program)(ms:List MOp)(K:St→Prop)(s:St)(d sz:Nat):AV→AV→Prop
 |.aV b off _ cap sz',.lit (.int _ n)=>sz'=sz∧0≤n∧n≤cap∧vcs P ms K (s.set d (.aV b off n.toNat cap sz))
 |_,_=>False
theorem Vw(P:Program)(ms:List MOp)(K:St→Prop)(s:St)(d:Nat)(x hi:ai)(sz:Nat):vcs P (.o_ d x hi sz::ms) K s=Cj P ms K s d sz (x.ev s.env) (hi.ev s.env):=by unfold Cj;rfl
attribute [simp] Vv Ci xU Vw Cj
def Ck(P:Program)(ms:List MOp)(K:St→Prop)(s:St)(d sz bytes:Nat)(zero:List AV):AV→AV→Prop
 |.aV _ 0 0 0 sz',.slice cK ys _=>sz'=sz∧cK=sz∧ys≠[]∧ys.length*bytes≤140737488355328∧ys.length≤140737488355328∧∀b r,s.loc b=none→vcs P ms K ((s.new b ((ys.flatMap AV.cells).map AV.erase0++(List.replicate r zero).flatten)).set d (.aV b 0 ys.length (ys.length+r) sz))
 |_,_=>False
theorem Vx(P:Program)(ms:List MOp)(K:St→Prop)(s:St)(d:Nat)(x y:ai)(sz bytes:Nat)(zero:List AV):vcs P (.agd d x y sz bytes zero::ms) K s=Ck P ms K s d sz bytes zero (x.ev s.env) (y.ev s.env):=by unfold Ck;rfl
def Cl(P:Program)(ms:List MOp)(K:St→Prop)(s:St)(d b off len sz' cK sz:Nat)(ys:List AV):Option (List AV)→Prop
 |some cs=>sz'=sz∧(cK=sz∨ys=[])∧off+len*sz≤cs.length∧vcs P ms K ((s.new b (splice cs off (((ys.take (min ys.length len)).flatMap AV.cells).map AV.erase0))).set d (.lit (.int .i64 (min ys.length len:Nat))))
 |none=>False
def Cm(P:Program)(ms:List MOp)(K:St→Prop)(s:St)(d sz:Nat):AV→AV→Prop
 |.aV b off len _ sz',.slice cK ys _=>Cl P ms K s d b off len sz' cK sz ys (s.loc b)
 |_,_=>False
theorem Vy(P:Program)(ms:List MOp)(K:St→Prop)(s:St)(d:Nat)(x y:ai)(sz:Nat):vcs P (.afC d x y sz::ms) K s=Cm P ms K s d sz (x.ev s.env) (y.ev s.env):=by unfold Cm Cl;rfl
def Cn(P:Program)(ms:List MOp)(K:St→Prop)(s:St)(d:Nat):AV→Prop
 |.lit (.string t)=>∀b,s.loc b=none→s.env (oS+b)=.any→vcs P ms K ((s.set (oS+b) (ae4 t 0)).set d (.au b 0))
 |_=>False
theorem Vz(P:Program)(ms:List MOp)(K:St→Prop)(s:St)(d:Nat)(x:ai):vcs P (.jo d x::ms) K s=Cn P ms K s d (x.ev s.env):=by unfold Cn;rfl
def Co(P:Program)(ms:List MOp)(K:St→Prop)(s:St)(d:Nat):AV→Prop
 |.au b 0=>∃t pos,s.env (oS+b)=ae4 t pos∧
   (pos<t.size→vcs P ms K ((s.set (oS+b) (ae4 t (pos+(Utf8.decode t pos).2))).set d (.tuple [.lit (.bool true),.lit (.int .i64 pos),.lit (.int .i32 (Utf8.decode t pos).1)])))∧
   (¬pos<t.size→vcs P ms K (s.set d (.tuple [.lit (.bool false)])))
 |_=>False
theorem VA(P:Program)(ms:List MOp)(K:St→Prop)(s:St)(d:Nat)(x:ai):vcs P (.jq d x::ms) K s=Co P ms K s d (x.ev s.env):=by unfold Co;rfl
def Cp(P:Program)(ms:List MOp)(K:St→Prop)(s:St)(d:Nat):AV→Prop
 |.bQ b=>∃es,s.env (oS+b)=bI es∧∀r,s.loc r=none→s.env (oS+r)=.any→vcs P ms K ((s.set (oS+r) (fH b es.length [])).set d (.au r 0))
 |_=>False
theorem VB(P:Program)(ms:List MOp)(K:St→Prop)(s:St)(d:Nat)(x:ai):vcs P (.n5 d x::ms) K s=Cp P ms K s d (x.ev s.env):=by unfold Cp;rfl
def Cq(P:Program)(ms:List MOp)(K:St→Prop)(s:St)(d:Nat):AV→Prop
 |.au r 0=>∃b seen es,s.env (oS+r)=fH b es.length seen∧s.env (oS+b)=bI es∧
   (∀i,i<es.length→i∉seen→vcs P ms K ((s.set (oS+r) (fH b es.length (seen++[i]))).set d (.tuple [.lit (.bool true),((es.getD i []).getD 0 .any).erase,((es.getD i []).getD 1 .any).erase])))∧
   ((∀i,i<es.length→i∈seen)→vcs P ms K (s.set d (.tuple [.lit (.bool false)])))
 |_=>False
theorem VC(P:Program)(ms:List MOp)(K:St→Prop)(s:St)(d:Nat)(x:ai):vcs P (.afW d x::ms) K s=Cq P ms K s d (x.ev s.env):=by unfold Cq;rfl
attribute [simp] VB Cp VC Cq
theorem VD(P:Program)(ms:List MOp)(K:St→Prop)(s:St)(d:Nat):vcs P (.mkMap d::ms) K s=(∀b,s.loc b=none→s.env (oS+b)=.any→vcs P ms K ((s.set (oS+b) (bI [])).set d (.bQ b))):=rfl
def Cr(P:Program)(ms:List MOp)(K:St→Prop)(s:St)(k b len sz:Nat):Option (List AV)→Prop
 |some cs=>len*sz≤cs.length∧cs.all AV.bK=true∧len≤140737488355328∧vcs P ms K ⟨aD s.env k (.slice sz (chunk sz cs len) 0),aD s.loc b none⟩
 |none=>False
def Iw(P:Program)(ms:List MOp)(K:St→Prop)(s:St)(k b:Nat):Option (List AV)→Prop
 |some cs=>(∃sz off,cs[off]? =some (.lit (.slice none 0 0))∧vcs P ms K ((s.aT ((k+1)*1000+off)).new b ((cs.map (aC ((k+1)*1000+off))).set off (.slice sz [] ((k+1)*1000+off)))))∨(∃off b2 len cap sz ck,cs[off]? =some (.aV b2 0 len cap sz)∧b2≠b∧s.loc b2=some ck∧len*sz≤ck.length∧ck.all AV.bK=true∧len≤140737488355328∧vcs P ms K ⟨s.env,aD (aD s.loc b (some (cs.set off (.slice sz (chunk sz ck len) 0)))) b2 none⟩)
 |none=>False
def ahy(P:Program)(ms:List MOp)(K:St→Prop)(s:St)(k:Nat):AV→Prop
 |.aV b 0 len _ sz=>Cr P ms K s k b len sz (s.loc b)
 |.au b 0=>Iw P ms K s k b (s.loc b)
 |_=>False
theorem VE(P:Program)(ms:List MOp)(K:St→Prop)(s:St)(k:Nat):vcs P (.bG k::ms) K s=ahy P ms K s k (s.env k):=by unfold ahy Cr Iw;rfl
attribute [simp] Vx Ck Vr Cf Vy Cm Cl Vz Cn VA Co VD VE ahy Cr
def Ct(P:Program)(ms:List MOp)(K:St→Prop)(s:St)(d:Nat):AV→AV→Prop
 |.lit (.string t),.lit (.int _ n)=>0≤n∧n≤t.size∧vcs P ms K (s.set d (.lit (.string (t.extract n.toNat t.size))))
 |_,_=>False
theorem VF(P:Program)(ms:List MOp)(K:St→Prop)(s:St)(d:Nat)(x l:ai):vcs P (.afZ d x l::ms) K s=Ct P ms K s d (x.ev s.env) (l.ev s.env):=by unfold Ct;rfl
def Cu(P:Program)(ms:List MOp)(K:St→Prop)(s:St)(d:Nat)(n:Option Nat):AV→Prop
 |.ref cs=>lp P ms K s d cs 0 true n
 |_=>False
theorem VG(P:Program)(ms:List MOp)(K:St→Prop)(s:St)(d:Nat)(x:ai)(n:Option Nat):vcs P (.iy d x n::ms) K s=Cu P ms K s d n (x.ev s.env):=by
 show(match x.ev s.env with|.ref cs=>_|_=>_)=_
 unfold Cu
 cases x.ev s.env<;>first|rfl|skip
 rename_i cs
 cases n with
 |none=>rfl
 |some n=>show(_∧vcs P ms K (s.set d ((AV.agg ((cs.drop 0).take n)).erase).erase))=_;rw[uF];rfl
attribute [simp] VF Ct VG Cu
end Go.aq
namespace Go.aq
open Go.ChangeShapes Go.WideShapes Go.ChangeAt Go.RowKit
theorem Fr.kept{W W':World}(h:Fr W W')(may:MemPlace→Prop):W.keptBut W' may:=by
 obtain⟨h1,_,h3,h4,h5⟩:=h
 refine⟨h1,h3,fun i hi=> ?_⟩
 rw[h5 i hi]
 cases ho:W.heap[i]? with
 |none=>trivial
 |some o=>cases o<;>first|exact⟨rfl,rfl,rfl,fun _ _=>rfl⟩|exact .inr ⟨rfl,rfl⟩|rfl
theorem Fr.frozen{W W':World}(h:Fr W W')(a:Addr)(ha:a.block<W.heap.size):W'.frozen? a=W.frozen? a:=by
 unfold World.frozen?
 rw[h.2.2.2.2 a.block ha]
variable {H:Type} {enc:TypeId×Value→H} {P:Program}
theorem VH{f:Func}{s:ChangeSpec}{apart fresh handsOn again:Bool}{W W':World}{args:Array Value}{v:Value}{ds gs:List (DataW H)}{before pa pv:List MemPlace}
  (hW:DataW.Whole enc P f.params.toList s.vars apart W args.toList ds gs before)
  (hres:∀(b:Nat) (sp:Nat→Bool) (hd:Bool),DataW.TrodAll enc P W' b sp hd f.resultTypes.toList (v.resultList f.resultTypes.size) (s.fn H (ds++gs)).results [])
  (hargs:∀sp:Nat→Bool,(∀p∈before,sp p.block=true)→DataW.TrodAll enc P W' 0 sp true f.params.toList args.toList (s.fn H (ds++gs)).args pa)
  (hvars:∀sp:Nat→Bool,(∀p∈before,sp p.block=true)→DataW.TrodVars enc P W' sp s.vars (s.fn H (ds++gs)).vars pv)
  (hps:before=pa++pv)(hk:W.keptBut W' (· ∈before))(hfz:∀a:Addr,a.block<W.heap.size→W'.frozen? a=W.frozen? a)
  (hok:∀(j:Nat) (t:TypeId) (r:Value),f.resultTypes[j]? =some t→(v.resultList f.resultTypes.size)[j]? =some r→Value.okWide P W' .any 0 t r):
  s.post enc P f apart fresh handsOn again W args v W':=by
 have hold:∀p∈before,(fun b=>decide (b<W.heap.size)) p.block=true:=fun p hp=>by simpa using hW.lt p hp
 have hlt:=hW.lt
 refine⟨ds,gs,before,[],pa,pv,hW,hres _ _ _,hargs _ hold,hvars _ hold,World.keptBut_mono (fun p hp=>⟨hp,?_⟩) hk,fun _=> ?_⟩
 ·rw[hps,List.mem_append] at hp
  exact Or.inr hp
 ·obtain⟨_,_,_,_,_,hz,hn⟩:=hW
  refine⟨hok,_,_,([]++pa)++pv,⟨[]++pa,pv,trodAll_append (hargs _ (fun _ _=>rfl)) (hres _ _ _),hvars _ (fun _ _=>rfl),rfl,?_,?_⟩,?_⟩
  ·intro b off hp
   have eI:MemPlace.cell b off∈before:=by rw[hps];simpa using hp
   rw[hfz _ (hlt _ eI)]
   exact hz b off eI
  ·intro ha
   have:=hn ha
   rw[hps] at this
   simpa using this
  ·intro p hp _
   rw[hps]
   simpa using hp
end Go.aq
namespace Go.aq
open Go.ChangeShapes Go.WideShapes Go.ChangeAt Go.RowKit
def Old(w:World):aN:=fun b _=>b<w.heap.size
def uI(cs:List Value):Prop:=∀(i:Nat) a len cap,cs[i]? =some (.slice (some a) len cap)→a.spot=none
structure Cs (w:World) (xs:List AV) (cs:List Value):Prop where
 len:xs.length=cs.length
 one:xs.all AV.bK=true
 rv:∀i,RV w (Old w) (xs.getD i .any) (cs.getD i undef)
theorem Cs.nil(w:World):Cs w [] []:=⟨rfl,rfl,fun i=>by simpa using .any _⟩
theorem Cs.single{w:World}{x:AV}{v:Value}(h:RV w (Old w) x v)(h1:x.bK=true):Cs w [x] [v]:=
 ⟨rfl,by rw[List.all_cons,h1];rfl,fun i=>by cases i with
   |zero=>exact h
   |succ i=>simpa using .any _⟩
theorem Cs.append{w:World}{xs ys:List AV}{cs ds:List Value}(h:Cs w xs cs)(k:Cs w ys ds):Cs w (xs++ys) (cs++ds) where
 len:=by simp[h.len,k.len]
 one:=by simp[h.one,k.one]
 rv i:=by
  simp only[List.getD_eq_getElem?_getD,List.getElem?_append,h.len]
  by_cases hi:i<cs.length
  ·simp only[hi,if_true]
   have:=h.rv i
   simpa only[List.getD_eq_getElem?_getD] using this
  ·simp only[hi,if_false]
   have:=k.rv (i - cs.length)
   simpa only[List.getD_eq_getElem?_getD] using this
def Rd(P:Program)(pl:Bool)(t:TypeId){α:Type}(mk:α→AV)(ok:α→Prop):Prop:=
 ∀(H:Type) (enc:TypeId×Value→H) (w:World) (fuel:Nat) (cs:List Value) (d:DataW H) (ps:List MemPlace),
  DataW.trod enc P w 0 (fun _=>true) true fuel t cs=some (d,ps)→(∀n∈d.weights P t,n≤reachBytes)→(pl=true∨uI cs)→
  ∃x,ok x∧Cs w (mk x).cells cs
theorem Rd.loose{P:Program}{t:TypeId}{α:Type}{mk:α→AV}{ok:α→Prop}(h:Rd P true t mk ok):Rd P false t mk ok:=fun H enc w fuel cs d ps h1 h2 _=>h H enc w fuel cs d ps h1 h2 (.inl rfl)
theorem Rd.map{P:Program}{pl:Bool}{t:TypeId}{α β:Type}{mk:α→AV}{ok:α→Prop}(h:Rd P pl t mk ok)(e:α→β){mk':β→AV}{Iy:β→Prop}(hm:∀x,mk x=mk' (e x))(ho:∀x,ok x→Iy (e x)):Rd P pl t mk' Iy:=fun H enc w fuel cs d ps h1 h2 h3=>by
 obtain⟨x,hx,hc⟩:=h H enc w fuel cs d ps h1 h2 h3
 exact⟨e x,ho x hx,hm x▸hc⟩
theorem Rd.bool{P:Program}{t:TypeId}(ht:P.underlying t=some .bool):Rd P true t (fun b:Bool=>.lit (.bool b)) (fun _=>True):=by
 intro H enc w fuel cs d ps h _ _
 cases fuel with
 |zero=>simp[DataW.trod] at h
 |succ n=>
  unfold DataW.trod at h
  rw[ht] at h
  split at h
  all_goals first|(simp_all;done)|skip
  rename_i b _ _
  exact⟨b,trivial,.single (.lit _ rfl) rfl⟩
theorem Rd.int{P:Program}{t:TypeId}{k:IntKind}(ht:P.underlying t=some (.int k)):Rd P true t (fun n:Int=>.lit (.int k n)) (fun n=>k.min≤n∧n≤k.max):=by
 intro H enc w fuel cs d ps h _ _
 cases fuel with
 |zero=>simp[DataW.trod] at h
 |succ n=>
  unfold DataW.trod at h
  rw[ht] at h
  split at h<;>simp_all
  exact⟨_,by simpa[Lit.wf] using h.1.2,.single (.lit _ rfl) rfl⟩
theorem Rd.string{P:Program}{t:TypeId}(ht:P.underlying t=some .string):Rd P true t (fun s:ByteArray=>.lit (.string s)) (fun s=>s.size≤140737488355328):=by
 intro H enc w fuel cs d ps h hn _
 cases fuel with
 |zero=>simp[DataW.trod] at h
 |succ n=>
  unfold DataW.trod at h
  rw[ht] at h
  split at h<;>simp_all
  obtain⟨_,rfl,rfl⟩:=h
  refine⟨_,?_,.single (.lit _ rfl) rfl⟩
  simp[DataW.weights,reachBytes] at hn
  omega
def bZ(P:Program)(pl:Bool)(off:Nat)(fs:List Field)(tot:Nat){α:Type}(mk:α→List AV)(ok:α→Prop):Prop:=
 ∀(H:Type) (enc:TypeId×Value→H) (w:World) (fuel:Nat) (cs:List Value) (xs:List (DataW H×List MemPlace)),cs.length=tot→
  (fs.mapM fun f=>DataW.trod enc P w 0 (fun _=>true) true fuel f.type ((cs.drop f.offset).take (P.cellsOf f.type)))=some xs→
  (∀n∈DataW.weightsEach P (fs.map (·.type)) (xs.map (·.1)),n≤reachBytes)→(pl=true∨uI cs)→
  ∃x,ok x∧Cs w (mk x) (cs.drop off)
theorem bZ.nil{P:Program}{pl:Bool}{tot:Nat}:bZ P pl tot [] tot (fun _:Unit=>[]) (fun _=>True):=by
 intro H enc w fuel cs xs hl _ _ _
 refine⟨(),trivial,?_⟩
 rw[List.drop_of_length_le (by omega)]
 exact .nil w
theorem bZ.cons{P:Program}{pl:Bool}{off off' tot:Nat}{f:Field}{fs:List Field}{α β:Type}{mk:α→AV}{ok:α→Prop}{Iz:β→List AV}{IA:β→Prop}
  (ho:f.offset=off)(ho':off+P.cellsOf f.type=off')(h:Rd P pl f.type mk ok)(hs:bZ P pl off' fs tot Iz IA):
  bZ P pl off (f::fs) tot (fun x:α×β=>(mk x.1).cells++Iz x.2) (fun x=>ok x.1∧IA x.2):=by
 intro H enc w fuel cs xs hl hm hw hp
 rw[List.mapM_cons] at hm
 cases hf:DataW.trod enc P w 0 (fun _=>true) true fuel f.type ((cs.drop f.offset).take (P.cellsOf f.type)) with
 |none=>simp[hf] at hm
 |some y=>
  cases hr:fs.mapM fun f=>DataW.trod enc P w 0 (fun _=>true) true fuel f.type ((cs.drop f.offset).take (P.cellsOf f.type)) with
  |none=>simp[hf,hr] at hm
  |some ys=>
   simp[hf,hr] at hm
   subst hm
   obtain⟨d,ps⟩:=y
   obtain⟨x,hx,hc⟩:=h H enc w fuel _ d ps hf (fun n hn=>hw n (by simp[DataW.weightsEach,hn])) (hp.imp_right fun hs i a len cap hi=>by
    rw[List.getElem?_take] at hi
    split at hi
    ·rw[List.getElem?_drop] at hi;exact hs _ a len cap hi
    ·cases hi)
   obtain⟨x',hx',ga⟩:=hs H enc w fuel cs ys hl hr (fun n hn=>hw n (by simp[DataW.weightsEach];exact .inr (by simpa using hn))) hp
   refine⟨(x,x'),⟨hx,hx'⟩,?_⟩
   rw[ho] at hc
   have e:cs.drop off=(cs.drop off).take (P.cellsOf f.type)++cs.drop off':=by rw[←ho',←List.drop_drop,List.take_append_drop]
   rw[e]
   exact hc.append ga
theorem Rd.struct{P:Program}{pl:Bool}{t:TypeId}{fs:Array Field}{l:List Field}{tot:Nat}(ht:P.underlying t=some (.struct fs))(hl:fs.toList=l)(htot:P.cellsOf t=tot){α:Type}{mk:α→List AV}{ok:α→Prop}(h:bZ P pl 0 l tot mk ok):Rd P pl t (fun x=>.agg (mk x)) ok:=by
 intro H enc w fuel cs d ps hd hw hp
 cases fuel with
 |zero=>simp[DataW.trod] at hd
 |succ n=>
  unfold DataW.trod at hd
  rw[ht] at hd
  simp only[htot,hl] at hd
  split at hd
  ·rename_i hlen
   simp only[Option.map_eq_some_iff] at hd
   obtain⟨xs,hxs,e⟩:=hd
   simp only[Prod.mk.injEq] at e
   obtain⟨rfl,rfl⟩:=e
   simp only[DataW.weights,ht,hl] at hw
   obtain⟨x,hx,hc⟩:=h H enc w n cs xs hlen hxs hw hp
   exact⟨x,hx,by simpa using hc⟩
  ·cases hd
theorem IB{a:Addr}(h:a.spot=none)(k:Nat):a.add k=⟨a.block,a.off+k,none⟩:=by
 unfold Addr.add
 split
 ·rename_i h0;subst h0;cases a;simp_all
 ·rfl
theorem VI(xs:List AV)(sz:Nat)(h:∀x∈xs,x.cells.length=sz)(q r:Nat)(hr:r<sz):(xs.flatMap AV.cells).getD (q*sz+r) .any=((xs.getD q .any).cells).getD r .any:=by
 induction xs generalizing q with
 |nil=>simp[AV.cells]
 |cons x xs ih=>
  have hx:=h x (by simp)
  cases q with
  |zero=>
   simp only[List.flatMap_cons,List.getD_eq_getElem?_getD,List.getElem?_append,hx]
   simp[hr]
  |succ q=>
   have e:(q+1)*sz+r=q*sz+r+sz:=by rw[Nat.succ_mul];omega
   have:=ih (fun y hy=>h y (by simp[hy])) q
   simp only[List.flatMap_cons,List.getD_eq_getElem?_getD,List.getElem?_append,hx] at this⊢
   rw[e,if_neg (by omega),Nat.add_sub_cancel]
   simpa using this
theorem IC{H:Type}{P:Program}{e:TypeId}:∀{ds:List (DataW H)} {d:DataW H},d∈ds→∀n∈d.weights P e,n∈DataW.weightsAll P e ds
 |_::_,_,.head _,n,hn=>by simp[DataW.weightsAll,hn]
 |_::_,_,.tail _ h,n,hn=>by
  have:=IC h n hn
  simp[DataW.weightsAll,this]
theorem ID{α β:Type}{f:α→Option β}:∀{l:List α} {r:List β},l.mapM f=some r→r.length=l.length∧∀(i:Nat) x,l[i]? =some x→f x=r[i]?
 |[],r,h=>by simp at h;subst h;simp
 |a::l,r,h=>by
  rw[List.mapM_cons] at h
  cases ha:f a with
  |none=>simp[ha] at h
  |some b=>
   cases hl:l.mapM f with
   |none=>simp[ha,hl] at h
   |some rs=>
    simp[ha,hl] at h
    subst h
    obtain⟨h1,h2⟩:=ID hl
    refine⟨by simp[h1],fun i x hx=> ?_⟩
    cases i with
    |zero=>simp at hx;subst hx;simpa using ha
    |succ i=>simp at hx;simpa using h2 i x hx
theorem Rd.sliceB{P:Program}{t e:TypeId}{sz:Nat}(ht:P.underlying t=some (.slice e))(hb:1≤P.bytesOf e)(hsz:P.cellsOf e=sz){α:Type}{mk:α→AV}{ok:α→Prop}(h:Rd P true e mk ok):Rd P false t (fun xs:List α=>.slice sz (xs.map mk) 0) (fun xs=>xs.length≤140737488355328∧xs.length*P.bytesOf e≤140737488351232∧∀x∈xs,ok x):=by
 intro H enc w fuel cs d ps hd hw hp
 have hp:uI cs:=by simpa using hp
 cases fuel with
 |zero=>simp[DataW.trod] at hd
 |succ n=>
  unfold DataW.trod at hd
  rw[ht] at hd
  split at hd
  all_goals first|(simp_all;done)|skip
  ·exact⟨[],by simp,.single (.de sz 0) rfl⟩
  ·rename_i e' a len cap he _
   have ee:e'=e:=by simpa using he.symm
   subst ee
   simp only[hsz] at hd
   split at hd
   ·rename_i hc
    simp only[Option.bind_eq_some_iff,Option.map_eq_some_iff] at hd
    obtain⟨elems,hel,rest,_,e⟩:=hd
    simp only[Prod.mk.injEq] at e
    obtain⟨rfl,rfl⟩:=e
    have hs:=hp 0 a len cap rfl
    obtain⟨h1,h2⟩:=ID hel
    simp only[DataW.weights,ht] at hw
    have hlen:elems.length=len:=by simpa using h1
    have VJ:len*P.bytesOf e'≤140737488351232:=by
     have:=hw _ (by simp;exact .inl rfl)
     simp only[hlen,reachBytes] at this
     rw[Nat.add_mul] at this
     omega
    have tL:len≤140737488355328:=by
     have:=hw _ (by simp;exact .inl rfl)
     simp only[hlen,reachBytes] at this
     have h3:(len+rest.length)*1≤(len+rest.length)*P.bytesOf e':=Nat.mul_le_mul_left _ hb
     omega
    have hx:∀i:Fin len,∃x:α,ok x∧∃cs',w.cells? 0 (a.add (i.1*sz)) sz=some cs'∧Cs w (mk x).cells cs':=fun i=>by
     have:=h2 i.1 i.1 (by simp[i.2])
     have hi:i.1<elems.length:=by rw[hlen];exact i.2
     rw[List.getElem?_eq_getElem hi] at this
     simp only[Option.bind_eq_some_iff] at this
     obtain⟨cs',mX,hd'⟩:=this
     obtain⟨x,hx,ga⟩:=h H enc w n cs' elems[i.1].1 elems[i.1].2 hd' (fun m hm=>hw m (by
      simp only[List.mem_cons,List.mem_append]
      exact .inr (.inl (IC (List.mem_map.2 ⟨elems[i.1],List.getElem_mem hi,rfl⟩) m hm)))) (.inl rfl)
     exact⟨x,hx,cs',mX,ga⟩
    obtain⟨g,hg⟩:=Classical.axiomOfChoice hx
    have hz:∃zs:List α,zs.length=len∧∀i (hi:i<zs.length),ok zs[i]∧∃cs',w.cells? 0 (a.add (i*sz)) sz=some cs'∧Cs w (mk zs[i]).cells cs':=⟨List.ofFn g,by simp,fun i hi=>by simpa using hg ⟨i,by simpa using hi⟩⟩
    clear hg g hx
    obtain⟨zs,hzl,hz⟩:=hz
    refine⟨zs,⟨by omega,by rw[hzl];exact VJ,fun x hx=> ?_⟩,?_⟩
    ·obtain⟨i,hi,rfl⟩:=List.mem_iff_getElem.1 hx
     exact(hz i hi).1
    ·have hcell:∀x∈zs.map mk,x.cells.length=sz:=fun y hy=>by
      obtain⟨x,hx,rfl⟩:=List.mem_map.1 hy
      obtain⟨i,hi,rfl⟩:=List.mem_iff_getElem.1 hx
      obtain⟨_,cs',mX,ga⟩:=hz i hi
      rw[ga.len,(World.cells?_some mX).2.1]
     refine .single ?_ rfl
     have ea:a=⟨a.block,a.off,none⟩:=by cases a;simp_all
     have gd:∀i,i<len*sz→∃v,w.cell? ⟨a.block,a.off+i,none⟩=some v∧a.block<w.heap.size∧RV w (Old w) (((zs.map mk).flatMap AV.cells).getD i .any) v:=fun i hi=>by
      have pG:0<sz:=by
       rcases Nat.eq_zero_or_pos sz with h0|h0
       ·rw[h0] at hi;omega
       ·exact h0
      have hq:i / sz<zs.length:=by rw[hzl];exact Nat.div_lt_of_lt_mul (by rw[Nat.mul_comm];exact hi)
      have hr:i%sz<sz:=Nat.mod_lt _ pG
      obtain⟨_,cs',mX,ga⟩:=hz (i / sz) hq
      have cE:=(World.cells?_some mX).2.1
      have hce:=(World.cells?_some mX).2.2 (i%sz) hr
      have VK:(a.add (i / sz*sz)).add (i%sz)=⟨a.block,a.off+i,none⟩:=by
       rw[IB hs,IB rfl]
       have:=Nat.div_add_mod i sz
       rw[Nat.mul_comm] at this
       simp only[Addr.mk.injEq,and_true,true_and]
       omega
      rw[VK,List.getElem?_eq_getElem (by omega)] at hce
      refine⟨_,hce,?_,?_⟩
      ·unfold World.cell? at hce
       by_cases hlt:a.block<w.heap.size
       ·exact hlt
       ·rw[Array.getElem?_eq_none (by simpa using hlt)] at hce
        cases hce
      ·have e1:=VI (zs.map mk) sz hcell (i / sz) (i%sz) hr
       rw[show i / sz*sz+i%sz=i from by rw[Nat.mul_comm];exact Nat.div_add_mod i sz] at e1
       rw[e1]
       have e2:(zs.map mk).getD (i / sz) .any=mk zs[i / sz]:=by simp[List.getD_eq_getElem?_getD,hq]
       rw[e2]
       have:=ga.rv (i%sz)
       rw[show cs'.getD (i%sz) undef=cs'[i%sz]'(by omega) from by simp[List.getD_eq_getElem?_getD,show i%sz<cs'.length by omega]] at this
       exact this
     have hl':(zs.map mk).length=len:=by simp[hzl]
     rw[ea,←hl']
     refine .slice sz _ 0 a.block a.off cap (fun i=>(w.cell? ⟨a.block,a.off+i,none⟩).getD undef) hcell (fun y hy=> ?_) (by rw[hl'];omega) (by rw[hl'];exact tL) (fun i hi=> ?_) fun i=> ?_
     ·obtain⟨x,hx,rfl⟩:=List.mem_map.1 hy
      obtain⟨i,hi,rfl⟩:=List.mem_iff_getElem.1 hx
      obtain⟨_,cs',mX,ga⟩:=hz i hi
      exact ga.one
     ·rw[hl'] at hi
      obtain⟨v,hv,hb',_⟩:=gd i hi
      exact⟨by rw[hv];rfl,hb'⟩
     ·by_cases hi:i<len*sz
      ·obtain⟨v,hv,_,hr⟩:=gd i hi
       rw[hv]
       exact hr
      ·rw[List.getD_eq_getElem?_getD,List.getElem?_eq_none (by rw[fZ sz _ hcell,hl'];omega)]
       exact .any _
   ·cases hd
theorem Rd.row{P:Program}{pl:Bool}{e:TypeId}{sz:Nat}(hsz:P.cellsOf e=sz){α:Type}{mk:α→AV}{ok:α→Prop}(h:Rd P pl e mk ok){H:Type}{enc:TypeId×Value→H}{w:World}{fuel:Nat}{cs:List Value}(hp:pl=true∨uI cs):
  ∀(n k:Nat) (xs:List (DataW H×List MemPlace)),cs.length=(k+n)*sz→
   ((List.range' k n).mapM fun i=>DataW.trod enc P w 0 (fun _=>true) true fuel e ((cs.drop (i*sz)).take sz))=some xs→
   (∀m∈DataW.weightsAll P e (xs.map (·.1)),m≤reachBytes)→
   ∃ys:List α,ys.length=n∧(∀y∈ys,ok y)∧Cs w (ys.flatMap fun y=>(mk y).cells) (cs.drop (k*sz))
 |0,k,xs,hl,_,_=>⟨[],rfl,by simp,by rw[List.drop_of_length_le (by rw[hl];simp)];exact .nil w⟩
 |n+1,k,xs,hl,hm,hw=>by
  rw[List.range'_succ,List.mapM_cons] at hm
  cases hf:DataW.trod enc P w 0 (fun _=>true) true fuel e ((cs.drop (k*sz)).take sz) with
  |none=>simp[hf] at hm
  |some y=>
   cases hr:(List.range' (k+1) n).mapM fun i=>DataW.trod enc P w 0 (fun _=>true) true fuel e ((cs.drop (i*sz)).take sz) with
   |none=>simp[hf,hr] at hm
   |some zs=>
    simp[hf,hr] at hm
    subst hm
    obtain⟨d,ps⟩:=y
    obtain⟨x,hx,hc⟩:=h H enc w fuel _ d ps hf (fun m hm=>hw m (by simp[DataW.weightsAll,hm])) (hp.imp_right fun hs i a len cap hi=>by
     rw[List.getElem?_take] at hi
     split at hi
     ·rw[List.getElem?_drop] at hi;exact hs _ a len cap hi
     ·cases hi)
    obtain⟨ys,h1,h2,h3⟩:=Rd.row hsz h hp n (k+1) zs (by rw[hl];congr 1;omega) hr (fun m hm=>hw m (by simp[DataW.weightsAll];exact .inr (by simpa using hm)))
    refine⟨x::ys,by simp[h1],by simpa using⟨hx,h2⟩,?_⟩
    have e:cs.drop (k*sz)=(cs.drop (k*sz)).take sz++cs.drop ((k+1)*sz):=by rw[Nat.succ_mul,←List.drop_drop,List.take_append_drop]
    rw[e,List.flatMap_cons]
    exact hc.append h3
theorem Rd.slice{P:Program}{t e:TypeId}{sz:Nat}(ht:P.underlying t=some (.slice e))(hb:1≤P.bytesOf e)(hsz:P.cellsOf e=sz){α:Type}{mk:α→AV}{ok:α→Prop}(h:Rd P true e mk ok):Rd P false t (fun xs:List α=>.slice sz (xs.map mk) 0) (fun xs=>xs.length≤140737488355328∧∀x∈xs,ok x):=(Rd.sliceB ht hb hsz h).map id (fun _=>rfl) (fun _ h=>⟨h.1,h.2.2⟩)
theorem Rd.array{P:Program}{pl:Bool}{t e:TypeId}{n sz:Nat}(ht:P.underlying t=some (.array n e))(hsz:P.cellsOf e=sz)(htot:P.cellsOf t=n*sz){α:Type}{mk:α→AV}{ok:α→Prop}(h:Rd P pl e mk ok):Rd P pl t (fun xs:List α=>.agg (xs.flatMap fun y=>(mk y).cells)) (fun xs=>xs.length=n∧∀x∈xs,ok x):=by
 intro H enc w fuel cs d ps hd hw hp
 cases fuel with
 |zero=>simp[DataW.trod] at hd
 |succ f=>
  unfold DataW.trod at hd
  rw[ht] at hd
  simp only[htot,hsz] at hd
  split at hd
  ·rename_i hlen
   simp only[Option.map_eq_some_iff] at hd
   obtain⟨xs,hxs,e⟩:=hd
   simp only[Prod.mk.injEq] at e
   obtain⟨rfl,rfl⟩:=e
   simp only[DataW.weights,ht] at hw
   rw[List.range_eq_range'] at hxs
   obtain⟨ys,h1,h2,h3⟩:=Rd.row hsz h hp n 0 xs (by simpa using hlen) hxs hw
   exact⟨ys,⟨h1,h2⟩,by simpa[AV.cells] using h3⟩
  ·cases hd
end Go.aq
namespace Go.aq
open Go.ChangeShapes Go.WideShapes Go.ChangeAt Go.RowKit
variable {H:Type} {enc:TypeId×Value→H} {P:Program}
theorem Cell.spot{w:World}{b:Nat}{u:TypeId}{a:Addr}{len cap:Nat}(h:Cell.okWide P w .any b u (.slice (some a) len cap)):a.spot=none:=by
 unfold Cell.okWide at h
 split at h
 all_goals first|(simp_all;done)|skip
 unfold Cell.ok at h
 split at h
 all_goals first|(simp_all;done)|skip
 ·rename_i he
  cases he
  exact h.2.2.2.1
theorem VL{w:World}{b:Nat}{t:TypeId}{cs:Array Value}(h:Row.okWide P w .any b t cs):uI cs.toList:=by
 intro i a len cap hi
 obtain⟨ts,_,_,hc⟩:=h
 obtain⟨u,_,hu⟩:=hc i _ (by simpa using hi)
 exact Cell.spot hu
theorem Cv{w:World}{b:Nat}{t:TypeId}{v:Value}{d:DataW H}{ps:List MemPlace}(ht:(∃fs,P.underlying t=some (.struct fs))∨∃n e,P.underlying t=some (.array n e))
  (hval:Value.okWide P w .any b t v)(hd:DataW.Trod enc P w 0 (fun _=>true) true t v d ps)(hw:∀n∈d.weights P t,n≤reachBytes){α:Type}{mk:α→List AV}{ok:α→Prop}
  (h:Rd P false t (fun x=>.agg (mk x)) ok):∃x,ok x∧RV w (Old w) (.agg (mk x)) v:=by
 have hv:∃cs,v=.agg cs∧Row.okWide P w .any b t cs:=by
  unfold Value.okWide at hval
  rcases ht with ⟨fs,ht⟩|⟨n,e,ht⟩
  all_goals
   rw[ht] at hval
   obtain⟨cs,h1,_,h2⟩:=hval
   exact⟨cs,h1,h2⟩
 obtain⟨cs,rfl,hrow⟩:=hv
 obtain⟨fuel,hd⟩:=hd
 obtain⟨x,hx,hc⟩:=h H enc w fuel _ d ps hd hw (.inr (by simpa[Value.cells] using VL hrow))
 refine⟨x,hx,.agg _ _ (by simpa[AV.cells,Value.cells] using hc.len.symm) fun i=> ?_⟩
 have:=hc.rv i
 simpa[AV.cells,Value.cells,Array.getD_eq_getD_getElem?,List.getD_eq_getElem?_getD] using this
theorem Cw{t:TypeId}{ts:List TypeId}{d:DataW H}{ds:List (DataW H)}(h:(DataW.weightsEach P (t::ts) (d::ds)).all (· ≤reachBytes)=true):(∀n∈d.weights P t,n≤reachBytes)∧(DataW.weightsEach P ts ds).all (· ≤reachBytes)=true:=by
 simp only[DataW.weightsEach,List.all_append,Bool.and_eq_true] at h
 exact⟨fun n hn=>by simpa using List.all_eq_true.1 h.1 n hn,h.2⟩
theorem Fr.same{W W':World}(h:Fr W W'){p:MemPlace}(hp:p.block<W.heap.size):W.sameAt W' p:=by
 have hb:=h.2.2.2.2 p.block hp
 cases p with
 |cell b off=>simp only[MemPlace.block] at hb;simp only[World.sameAt,World.cell?,hb]
 |map b=>exact hb
theorem IE(hl:laidOutB P=true){W W':World}{sp:Nat→Bool}:∀{ts:List TypeId} {vs:List Value} {ds:List (DataW H)} {ps:List MemPlace},
  (∀t∈ts,P.readableRec t=true∧t<P.types.size)→DataW.TrodAll enc P W 0 (fun _=>true) true ts vs ds ps→(∀p∈ps,W.sameAt W' p)→(∀p∈ps,sp p.block=true)→
  DataW.TrodAll enc P W' 0 sp true ts vs ds ps
 |[],vs,ds,ps,_,h,_,_=>by
  obtain⟨rfl,rfl,rfl⟩:=trodAll_nil h
  exact trodAll_mk0
 |t::ts,vs,ds,ps,ht,h,hs,hp=>by
  obtain⟨v,vs',d,ds',p,q,rfl,rfl,rfl,h1,h2⟩:=trodAll_cons h
  exact⟨p,q,WideElems.Trod_stays hl (ht t (by simp)).1 (ht t (by simp)).2 h1 (fun x hx=>hs x (by simp[hx])) (fun x hx=>hp x (by simp[hx])),IE hl (fun u hu=>ht u (by simp[hu])) h2 (fun x hx=>hs x (by simp[hx])) (fun x hx=>hp x (by simp[hx])),rfl⟩
theorem VM{f:Func}{s:ChangeSpec}{tb:TypeId}(hl:laidOutB P=true)(hb:P.underlying tb=some .bool)(IF:f.resultTypes= #[tb])(hts:∀t∈f.params.toList,P.readableRec t=true∧t<P.types.size)(IG:s.vars=[])
  {W W':World}{args:Array Value}{ds:List (DataW H)}{before:List MemPlace}(hfn:(s.fn H (ds++[])).results=[.lit (.bool true)]∧(s.fn H (ds++[])).args=ds∧(s.fn H (ds++[])).vars=[])
  (hW:DataW.Whole enc P f.params.toList s.vars false W args.toList ds [] before)(hF:Fr W W'):
  s.post enc P f false true false false W args (.bool true) W':=by
 have hlt:=hW.lt
 have Cx:=hW
 obtain⟨p,q,hA,hV,rfl,hfz,dZ⟩:=Cx
 rw[IG] at hV
 obtain⟨_,rfl⟩:=trodVars_none hV
 refine VH (pa:=p) (pv:=[]) hW ?_ ?_ ?_ rfl (hF.kept _) hF.frozen ?_
 ·intro b sp hd
  rw[hfn.1,IF]
  exact trodAll_cons_mk (shut_bool hb _) trodAll_mk0
 ·intro sp hsp
  rw[hfn.2.1]
  exact IE hl hts hA (fun x hx=>hF.same (hlt x (by simp[hx]))) (fun x hx=>hsp x (by simp[hx]))
 ·intro sp _
  rw[hfn.2.2,IG]
  rfl
 ·exact ok_one IF rfl (okWide_bool_mk hb _)
theorem VN{f:FuncId}{xs:List AV}(h:aed P f xs (.lit (.bool true))){w:World}{args:Array Value}(hs:args.size=xs.length)(hr:∀i,RV w (Old w) (xs.getD i .any) (args.getD i undef)):Calls P f args w fun e w'=>e=.returned (.bool true)∧Fr w w':=by
 refine(h.2 w (Old w) args (fun _ _ h=>h) hs hr).mono ?_
 rintro e w' ⟨v,A',rfl,hf,_,_,hr⟩
 exact⟨by rw[hr.afE],hf⟩
end Go.aq
namespace Go.aq
abbrev ci(n:Int):ai:=.c (.lit (.int .i64 n))
abbrev cb(b:Bool):ai:=.c (.lit (.bool b))
def aJ(P:Program)(k:Nat)(a:cn):Option (Option ay×Option (List aE)×Bool×Nat):=(P.funcs[k]?).map fun fn=>(fn.body.bind (dw P a fn.ntmps),fu P fn.results.toList,gI P k,fn.ntmps)
variable {P:Program}
theorem aJ.of{k N:Nat}{a:cn}{m:ay}{rs:List aE}(h:aJ P k a=some (some m,some rs,true,N)):∃fn,P.funcs[k]? =some fn∧fn.body.bind (dw P a fn.ntmps)=some m∧fu P fn.results.toList=some rs∧gI P k=true∧fn.ntmps=N:=by
 unfold aJ at h
 cases hf:P.funcs[k]? with
 |none=>rw[hf] at h;cases h
 |some fn=>
  rw[hf,Option.map_some] at h
  simp only[Option.some.injEq,Prod.mk.injEq] at h
  exact⟨fn,rfl,h.1,h.2.1,h.2.2.1,h.2.2.2⟩
theorem pc{k N:Nat}{a:cn}{m:ay}{rs:List aE}{xs:List AV}{r:AV}(h:aJ P k a=some (some m,some rs,true,N))(hl:xs.length≤N∧N≤1000000)(hv:(∀i,Fits (xs.getD i .any))→bz P m (fun s=>eS s rs fun ys=>r=aeJ ys) (fun _ _=>False) (fun s=>eS s rs fun ys=>r=aeJ ys) ⟨dj xs,fun _=>none⟩):aed P k xs r:=by
 obtain⟨fn,h1,h2,h3,h4,h5⟩:=aJ.of h
 exact Im h1 h2 h3 h4 (by rw[h5];exact hl) hv
theorem ic{k N:Nat}{a:cn}{m:ay}{rs:List aE}{xs:List AV}{s:St}{K:AV→St→Prop}(h:aJ P k a=some (some m,some rs,true,N))(hl:xs.length≤N∧N≤1000000)(hv:(∀i,Fits (xs.getD i .any))→bz P m (fun s2=>fy s2 rs fun r=>K r (back s s2)) (fun _ _=>False) (fun s2=>fy s2 rs fun r=>K r (back s s2)) ⟨fun k=>if gS≤k then s.env k else dj xs k,s.loc⟩):fW P k xs s K:=by
 obtain⟨fn,h1,h2,h3,h4,h5⟩:=aJ.of h
 exact gK h1 h2 h3 h4 (by rw[h5];exact hl) hv
theorem ps{k N:Nat}{a:cn}{m:ay}{first cap:List AV}{xs:List (List AV)}(h:aJ P k a=some (some m,some [],true,N))(hl:first.length+1+cap.length≤N∧N≤1000000)(hv:∀l,(∀i,Fits ((first++[AV.func (.yield l) [] []]++cap).getD i .any))→bz P m (fun s=>∃rest b,s.env gS=.ghost l rest b∧(b=true∨rest=[])) (fun _ _=>False) (fun s=>∃rest b,s.env gS=.ghost l rest b∧(b=true∨rest=[])) ((St.mk (dj (first++[AV.func (.yield l) [] []]++cap)) fun _=>none).set gS (.ghost l xs false))):iF P k first cap xs:=by
 obtain⟨fn,h1,h2,h3,h4,h5⟩:=aJ.of h
 exact Io h1 h2 h3 h4 (by rw[h5];exact hl) hv
end Go.aq
