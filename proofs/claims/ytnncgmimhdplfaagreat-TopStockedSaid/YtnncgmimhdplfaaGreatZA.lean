/- The abstract values of the layer Avm, what they say of a world, and how they last. Parties over one world; a call that is part of its caller's party. The resolved code of the layer Avm, and what is to be shown of it. How the state of the layer Avm stands to a world that is written, and the shape of one operation's proof. From the model's operations to the resolved ones. Each resolved operation is sound: those that leave the world alone. Each resolved operation is sound: arithmetic and the rest of those that leave the world alone. Each resolved operation is sound: those that make or write. Each resolved operation is sound: stores, literals, appends, calls. Each resolved operation is sound: appends, literals, calls. Each resolved operation is sound: appends. Each resolved operation is sound: literals, calls. Each resolved operation is sound: literals of slices, calls. Each resolved operation is sound: structs compared, calls, guards; a region in the text's order. Each resolved operation is sound: a slice is made; a slice is copied into a mutable one. Each resolved operation is sound: a slice with no room is made; what is appended to it makes a slice that may be written. Each resolved operation is sound: calls and copies that look at a mutable slice. The resolved operations are sound. -/
import Derived.Calls
import Derived.RangeFuncNested
import Derived.OrdersIn
import Derived.KernelRfl
import Derived.WalkKit
import Derived.Laws.StructEq
import Derived.Laws.MakeOwn
import Derived.Laws.CopyRow
namespace Go.aq
inductive AV where
 |any
 |lit (v:Value)
 |slice (sz:Nat) (xs:List AV) (own:Nat)
 |ref (cells:List AV)
 |au (b off:Nat)
 |aV (b off len cap sz:Nat)
 |agg (cells:List AV)
 |tuple (vs:List AV)
 |func (fn:Fn) (first cap:List AV)
 |ghost (l:Nat) (rest:List (List AV)) (stop:Bool)
 |bQ (b:Nat)
 deriving Inhabited
def AV.cells:AV→List AV
 |.agg cs=>cs
 |.any=>[]
 |.ghost .. =>[]
 |v=>[v]
def AV.bK:AV→Bool
 |.lit _|.slice .. |.ref _|.au .. |.aV .. |.func .. |.bQ _=>true
 |_=>false
def flat:Value→Bool
 |.bool _|.int _ _|.string _|.pointer none|.nilFunc|.nilIface|.map none|.slice none 0 0=>true
 |_=>false
abbrev aN:=Nat→Nat→Prop
inductive RV (w:World) (A:aN):AV→Value→Prop
 |any (v:Value):RV w A .any v
 |ghost (l:Nat) (rest:List (List AV)) (stop:Bool) (v:Value):RV w A (.ghost l rest stop) v
 |lit (v:Value) (h:flat v=true):RV w A (.lit v) v
 |de (sz own:Nat):RV w A (.slice sz [] own) (.slice none 0 0)
 |slice (sz:Nat) (xs:List AV) (own b off cap:Nat) (vs:Nat→Value)
   (hsz:∀x∈xs,x.cells.length=sz) (h1c:∀x∈xs,x.cells.all AV.bK=true) (hcap:xs.length≤cap) (hlen:xs.length≤140737488355328)
   (hc:∀i,i<xs.length*sz→w.cell? ⟨b,off+i,none⟩=some (vs i)∧A b (off+i))
   (hr:∀i,RV w A ((xs.flatMap AV.cells).getD i .any) (vs i)):
   RV w A (.slice sz xs own) (.slice (some ⟨b,off,none⟩) xs.length cap)
 |ref (cs:List AV) (b off:Nat) (vs:Nat→Value)
   (hc:∀i,i<cs.length→w.cell? ⟨b,off+i,none⟩=some (vs i)∧A b (off+i))
   (hr:∀i,RV w A (cs.getD i .any) (vs i)):RV w A (.ref cs) (.pointer (some ⟨b,off,none⟩))
 |au (b off:Nat):RV w A (.au b off) (.pointer (some ⟨b,off,none⟩))
 |bQ (b:Nat):RV w A (.bQ b) (.map (some b))
 |aV (b off len cap sz:Nat) (h:len≤cap):RV w A (.aV b off len cap sz) (.slice (some ⟨b,off,none⟩) len cap)
 |agg (xs:List AV) (vs:Array Value) (hs:vs.size=xs.length) (hr:∀i,RV w A (xs.getD i .any) (vs.getD i undef)):RV w A (.agg xs) (.agg vs)
 |tuple (xs:List AV) (vs:Array Value) (hs:vs.size=xs.length) (hr:∀i,RV w A (xs.getD i .any) (vs.getD i undef)):RV w A (.tuple xs) (.tuple vs)
 |func (fn:Fn) (fs cs:List AV) (vf vc:Array Value) (fG:vf.size=fs.length) (hsc:vc.size=cs.length)
   (hf:∀i,RV w A (fs.getD i .any) (vf.getD i undef)) (hc:∀i,RV w A (cs.getD i .any) (vc.getD i undef)):
   RV w A (.func fn fs cs) (.func fn vf vc)
theorem RV.mono{w w':World}{A A':aN}(h:∀b o v,A b o→w.cell? ⟨b,o,none⟩=some v→w'.cell? ⟨b,o,none⟩=some v∧A' b o){x:AV}{v:Value}(hr:RV w A x v):RV w' A' x v:=by
 induction hr with
 |any v=>exact .any v
 |ghost l rest stop v=>exact .ghost l rest stop v
 |lit v hf=>exact .lit v hf
 |de sz own=>exact .de sz own
 |slice sz xs own b off cap vs hsz h1c hcap hlen hc _ ih=>
  exact .slice sz xs own b off cap vs hsz h1c hcap hlen (fun i hi=>h _ _ _ (hc i hi).2 (hc i hi).1) ih
 |ref cs b off vs hc _ ih=>exact .ref cs b off vs (fun i hi=>h _ _ _ (hc i hi).2 (hc i hi).1) ih
 |au b off=>exact .au b off
 |bQ b=>exact .bQ b
 |aV b off len cap sz hl=>exact .aV b off len cap sz hl
 |agg xs vs hs _ ih=>exact .agg xs vs hs ih
 |tuple xs vs hs _ ih=>exact .tuple xs vs hs ih
 |func fn fs cs vf vc fG hsc _ _ PK wI=>exact .func fn fs cs vf vc fG hsc PK wI
theorem RV.own{w:World}{A:aN}{sz:Nat}{xs:List AV}{r r':Nat}{v:Value}(h:RV w A (.slice sz xs r) v):RV w A (.slice sz xs r') v:=by
 cases h with
 |de=>exact .de sz r'
 |slice _ _ _ b off cap vs hsz h1c hcap hlen hc hr=>exact .slice sz xs r' b off cap vs hsz h1c hcap hlen hc hr
def aC(r:Nat):AV→AV
 |.slice sz xs r'=>if r'=r then .slice sz xs 0 else .slice sz xs r'
 |x=>x
def AV.erase0:AV→AV
 |.slice sz xs _=>.slice sz xs 0
 |x=>x
def AV.erase:AV→AV
 |.slice sz xs _=>.slice sz xs 0
 |.agg cs=>.agg (cs.map AV.erase0)
 |x=>x
theorem RV.aC{w:World}{A:aN}{x:AV}{v:Value}(r:Nat)(h:RV w A x v):RV w A (aC r x) v:=by
 cases x with
 |slice sz xs r'=>simp only[aq.aC];split;exact h.own;exact h
 |_=>exact h
theorem RV.erase0{w:World}{A:aN}{x:AV}{v:Value}(h:RV w A x v):RV w A x.erase0 v:=by
 cases x with
 |slice sz xs r'=>exact h.own
 |_=>exact h
theorem iV(l:List AV)(i:Nat):(l.map AV.erase0).getD i .any=(l.getD i .any).erase0:=by
 simp only[List.getD_eq_getElem?_getD,List.getElem?_map]
 cases l[i]? <;>rfl
theorem RV.erase{w:World}{A:aN}{x:AV}{v:Value}(h:RV w A x v):RV w A x.erase v:=by
 cases x with
 |slice sz xs r'=>exact h.own
 |agg cs=>cases h with
  |agg _ vs hs hr=>exact .agg _ _ (by simpa using hs) fun i=>by rw[iV];exact(hr i).erase0
 |_=>exact h
theorem ahn(x:AV):x.erase.cells=x.cells.map AV.erase0:=by cases x<;>rfl
abbrev Sp:=Nat→Nat×Nat×Nat
def spare(sp:Sp):aN:=fun b o=>∃r,(sp r).1=b∧(sp r).2.1≤o∧o<(sp r).2.2
structure St where
 env:Nat→AV
 loc:Nat→Option (List AV)
def live(loc:Nat→Option (List AV))(sp:Sp):aN:=fun b o=>loc b≠none∨spare sp b o
def aek(sp:Sp):AV→Value→Prop
 |.slice sz _ r,.slice (some a) len cap=>r=0∨sp r=(a.block,a.off+len*sz,a.off+cap*sz)
 |_,_=>True
structure RS (N:Nat) (s:St) (a:Act) (w:World) (A:aN) (sp:Sp):Prop where
 size:a.tmps.size=N
 defers:a.defers=[]
 env:∀d,RV w A (s.env d) (a.tmps.getD d undef)∧aek sp (s.env d) (a.tmps.getD d undef)
 loc:∀b cs,s.loc b=some cs→∃vs T,w.heap[b]? =some (.cells vs T (0,0))∧vs.size=cs.length∧∀i,RV w A (cs.getD i .any) (vs.getD i undef)∧aek sp (cs.getD i .any) (vs.getD i undef)
 cg:∀r,(sp r).2.1<(sp r).2.2→(∃vs T,w.heap[(sp r).1]? =some (.cells vs T (0,0))∧(sp r).2.2≤vs.size)∧s.loc (sp r).1=none
 dO:∀r r',r≠r'→(sp r).2.1<(sp r).2.2→(sp r').2.1<(sp r').2.2→(sp r).1=(sp r').1→(sp r).2.2≤(sp r').2.1∨(sp r').2.2≤(sp r).2.1
 av:∀b o,A b o→b<w.heap.size∧¬live s.loc sp b o
structure Ev (w:World) (A L:aN) (w':World) (A' L':aN):Prop where
 os:w'.os=w.os
 tape:w'.tape=w.tape
 output:w'.output=w.output
 size:w.heap.size≤w'.heap.size
 cell:∀b o,b<w.heap.size→¬L b o→w'.cell? ⟨b,o,none⟩=w.cell? ⟨b,o,none⟩∧¬L' b o
 block:∀b,b<w.heap.size→(∀o,¬L b o)→w'.heap[b]? =w.heap[b]?
 sub:∀b o,A b o→A' b o
 sup:∀b o,A' b o→A b o∨L b o∨w.heap.size≤b
theorem Ev.refl(w:World)(A L:aN):Ev w A L w A L:=⟨rfl,rfl,rfl,Nat.le_refl _,fun _ _ _ h=>⟨rfl,h⟩,fun _ _ _=>rfl,fun _ _ h=>h,fun _ _ h=>.inl h⟩
theorem Ev.trans{w w1 w2:World}{A L A1 L1 A2 L2:aN}(h:Ev w A L w1 A1 L1)(k:Ev w1 A1 L1 w2 A2 L2):Ev w A L w2 A2 L2 where
 os:=k.os.trans h.os
 tape:=k.tape.trans h.tape
 output:=k.output.trans h.output
 size:=Nat.le_trans h.size k.size
 cell b o hb hl:=by
  have h1:=h.cell b o hb hl
  have h2:=k.cell b o (Nat.lt_of_lt_of_le hb h.size) h1.2
  exact⟨h2.1.trans h1.1,h2.2⟩
 block b hb hl:=(k.block b (Nat.lt_of_lt_of_le hb h.size) fun o=>(h.cell b o hb (hl o)).2).trans (h.block b hb hl)
 sub b o ha:=k.sub b o (h.sub b o ha)
 sup b o ha:=by
  rcases k.sup b o ha with h1|h1|h1
  ·exact h.sup b o h1
  ·by_cases hb:b<w.heap.size
   ·by_cases hl:L b o
    ·exact .inr (.inl hl)
    ·exact absurd h1 (h.cell b o hb hl).2
   ·exact .inr (.inr (by omega))
  ·exact .inr (.inr (Nat.le_trans h.size h1))
theorem Ev.mono{w w':World}{A L A' L':aN}(h:Ev w A L w' A' L')(hd:∀b o,A b o→b<w.heap.size∧¬L b o){x:AV}{v:Value}(hr:RV w A x v):RV w' A' x v:=hr.mono fun b o _ ha hc=>⟨((h.cell b o (hd b o ha).1 (hd b o ha).2).1).trans hc,h.sub b o ha⟩
def aD{α:Type}(f:Nat→α)(d:Nat)(x:α):Nat→α:=fun k=>if k=d then x else f k
theorem dP{α:Type}(f:Nat→α)(d:Nat)(x:α):aD f d x d=x:=by simp[aD]
theorem bE{α:Type}(f:Nat→α){d k:Nat}(x:α)(h:k≠d):aD f d x k=f k:=by simp[aD,h]
theorem wJ{α:Type}(f:Nat→α){d d':Nat}(x y:α)(h:d≠d'):aD (aD f d x) d' y=aD (aD f d' y) d x:=by funext k;simp only[aD];split<;>split<;>simp_all
theorem RS.put{N:Nat}{s:St}{a:Act}{w:World}{A:aN}{sp:Sp}(h:RS N s a w A sp){d:Nat}(hd:d<N){x:AV}{v:Value}(hr:RV w A x v)(ho:aek sp x v):RS N {s with env:=aD s.env d x} (a.put (some d) v) w A sp where
 size:=by simp[Act.put,h.size]
 defers:=h.defers
 env k:=by
  by_cases hk:k=d
  ·subst hk
   have:(a.tmps.setIfInBounds k v).getD k undef=v:=by simp[Array.getD_eq_getD_getElem?,h.size,hd]
   simp only[Act.put,this,dP];exact⟨hr,ho⟩
  ·have:(a.tmps.setIfInBounds d v).getD k undef=a.tmps.getD k undef:=by simp[Array.getD_eq_getD_getElem?,Ne.symm hk]
   simp only[Act.put,this,bE _ _ hk];exact h.env k
 loc:=h.loc
 cg:=h.cg
 dO:=h.dO
 av:=h.av
theorem aek.qV{sp:Sp}{x:AV}{v:Value}(h:∀sz xs r,x=.slice sz xs r→r=0):aek sp x v:=by
 cases x with
 |slice sz xs r=>cases v with
  |slice a len cap=>cases a with
   |some a=>exact .inl (h _ _ _ rfl)
   |none=>trivial
  |_=>trivial
 |_=>trivial
theorem aek.erase{sp:Sp}{x:AV}{v:Value}:aek sp x.erase v:=.qV (by intro sz xs r h;cases x<;>simp_all [AV.erase])
theorem aek.erase0{sp:Sp}{x:AV}{v:Value}:aek sp x.erase0 v:=.qV (by intro sz xs r h;cases x<;>simp_all [AV.erase0])
end Go.aq
namespace Go.aq
open Go.RowKit
def gI(P:Program)(f:FuncId):Bool:=
 match P.funcs[f]? with
 |some fn=>fn.name != "runtime.NumGoroutine" &&fn.body.isSome
 |none=>false
@[irreducible] def gS:Nat:=1000000
@[irreducible] def oS:Nat:=1000001
def ae4(t:ByteArray)(pos:Nat):AV:=.ghost pos [[.lit (.string t)]] true
def bI(es:List (List AV)):AV:=.ghost 0 es false
def fH(b since:Nat)(seen:List Nat):AV:=.ghost b [[.lit (.int .i64 since)],seen.map fun(i:Nat)=>.lit (.int .i64 i)] true
def isG:AV→Bool
 |.any=>true
 |.ghost .. =>true
 |_=>false
abbrev Fw(ro:Option Nat):Fence:={Fence.wide with round:=ro}
structure kM (w w':World) (A A' Lx:aN):Prop where
 os:w'.os=w.os
 tape:w'.tape=w.tape
 output:w'.output=w.output
 size:w.heap.size≤w'.heap.size
 blk:∀b o,Lx b o→w'.heap[b]? =w.heap[b]?
 cell:∀b o v,A b o→w.cell? ⟨b,o,none⟩=some v→w'.cell? ⟨b,o,none⟩=some v
 sub:∀b o,A b o→A' b o
 nZ:∀b o,A' b o→b<w'.heap.size∧¬Lx b o
def join(L M:aN):aN:=fun b o=>L b o∨M b o
abbrev aho(X:AV→World→aN→aN→Prop):Prop:=∀gh w w' A A' Lx,X gh w A Lx→kM w w' A A' Lx→X gh w' A' Lx
abbrev wK(P:Program)(X:AV→World→aN→aN→Prop):Prop:=
 ∀l y rest w A Lx vs,X (.ghost l (y::rest) false) w A Lx→(∀b o,Lx b o→b<w.heap.size)→(∀b o,A b o→b<w.heap.size∧¬Lx b o)→
  vs.size=y.length→(∀i,RV w A (y.getD i .any) (vs.getD i undef))→
  ∃fn tmps assign body,(Instr.yield l vs).run P w=.ok (.round l fn tmps assign body) w∧RoundIn (Fw none) 0 P l fn tmps assign body w fun e w'=>∃b A' bw,e=.returned (.bool b)∧Ev w A Lx w' A' bw∧(∀b o,bw b o→b<w'.heap.size)∧(∀b o,A' b o→b<w'.heap.size∧¬bw b o)∧X (.ghost l rest (!b)) w' A' bw
def mark(pos:Nat):AV:=.lit (.agg #[.int .i64 pos])
def noMark(y:List AV):Bool:=match y.getLast? with
 |some (.lit (.agg _))=>false
 |_=>true
def putAt(x:AV)(pos:Nat)(v:AV):AV:=match x,pos with
 |.agg cs,j+1=>.agg (cs.set j v)
 |_,_=>v
def wL(x:AV)(pos:Nat):AV:=match x,pos with
 |.agg cs,j+1=>cs.getD j .any
 |x,_=>x
def chunk(sz:Nat):List AV→Nat→List AV
 |_,0=>[]
 |cs,n+1=>(if sz=1 then (cs.getD 0 .any).erase0 else .agg ((cs.take sz).map AV.erase0))::chunk sz (cs.drop sz) n
def lU(b:Nat):aN:=fun c _=>c=b
def qW(w:World)(A:aN)(b:Nat)(cs:List AV):Prop:=∃vs T,w.heap[b]? =some (.cells vs T (0,0))∧vs.size=cs.length∧∀i,RV w A (cs.getD i .any) (vs.getD i undef)
def kN(x:AV)(pos sz len cap:Nat)(cs:List AV):Prop:=wL x pos=.slice sz (chunk sz cs len) 0∧len*sz≤cs.length∧len≤cap∧len≤140737488355328∧cs.all AV.bK=true∧cs.map AV.erase0=cs
abbrev wM(P:Program)(X:AV→World→aN→aN→Prop):Prop:=
 ∀l x pos rest w A Lx v b sz len cap cs,X (.ghost l ([x,mark pos]::rest) false) w A Lx→kN x pos sz len cap cs→(∀b o,Lx b o→b<w.heap.size)→(∀b o,A b o→b<w.heap.size∧¬Lx b o)→
  RV w A (putAt x pos (.aV b 0 len cap sz)) v→qW w A b cs→(∀o,¬A b o)→(∀o,¬Lx b o)→
  ∃fn tmps assign body,(Instr.yield l #[v]).run P w=.ok (.round l fn tmps assign body) w∧RoundIn (Fw none) 0 P l fn tmps assign body w fun e w'=>∃bo A' bw,e=.returned (.bool bo)∧Ev w A (join Lx (lU b)) w' A' (join bw (lU b))∧(∀b o,bw b o→b<w'.heap.size)∧(∀b o,A' b o→b<w'.heap.size∧¬bw b o)∧(∀o,¬A' b o)∧(∀o,¬bw b o)∧qW w' A' b cs∧X (.ghost l rest (!bo)) w' A' bw
structure Ctx (P:Program) where
 N:Nat
 B:Nat
 ro:Option Nat
 X:AV→World→aN→aN→Prop
 st:aho X
 yl:wK P X
 yl2:wM P X
inductive ir (w:World) (A:aN) (b:Nat):AV→Prop
 |any:ir w A b .any
 |iter (t:ByteArray) (pos:Nat) (h:w.heap[b]? =some (.stringIter t pos)):ir w A b (ae4 t pos)
 |map (es:List (List AV)) (es':Array MapEntry) (clock:Nat) (h:w.heap[b]? =some (.map es' clock)) (hs:es'.size=es.length) (hc:clock=es'.size) (hr:∀i e,es'[i]? =some e→RV w A ((es.getD i []).getD 0 .any) e.key∧RV w A ((es.getD i []).getD 1 .any) e.val∧e.born=i):ir w A b (bI es)
 |n3 (b' since:Nat) (seen:List Nat) (h:w.heap[b]? =some (.mapIter (some b') since seen.toArray since)):ir w A b (fH b' since seen)
def aes(s:St):aN:=fun b _=>s.env (oS+b)≠.any
def held(s:St)(sp:Sp):aN:=join (live s.loc sp) (aes s)
structure GS {P:Program} (C:Ctx P) (Pt:List (Nat×Obj)) (s:St) (a:Act) (w:World) (A Lx:aN) (sp:Sp):Prop where
 rs:RS C.N s ⟨a.tmps,[]⟩ w A sp
 ig:∀k,gS≤k→isG (s.env k)=true
 lt:∀b o,Lx b o→b<w.heap.size
 ap:∀b o o',held s sp b o→¬Lx b o'
 av:∀b o,A b o→¬Lx b o
 x:C.X (s.env gS) w A Lx
 pt:∀p∈Pt,w.heap[p.1]? =some p.2∧p.2.isCells=false∧(∀o,¬Lx p.1 o)∧(∀o,¬A p.1 o)∧s.env (oS+p.1)=.any
 ob:∀b,ir w A b (s.env (oS+b))
 oa:∀b o,aes s b o→¬A b o
 bs:C.B≤w.heap.size
 dn:(a.defers.map (·.target)).Nodup
 df:∀d∈a.defers,∃D,C.B≤D∧d=⟨.collected D,#[]⟩∧(D,.deferred (some []))∈Pt
 ro:∀l,C.ro=some l→∃r,(l,.loop r)∈Pt
def fW(P:Program)(f:FuncId)(xs:List AV)(s:St)(K:AV→St→Prop):Prop:=gI P f=true∧∀(C:Ctx P) (Pt:List (Nat×Obj)) (a:Act) (w:World) (A Lx:aN) (sp:Sp) (vs:Array Value),C.N≤gS→GS C Pt s a w A Lx sp→vs.size=xs.length→(∀i,RV w A (xs.getD i .any) (vs.getD i undef))→Calls P f vs w fun e w'=>∃r v s' A' bw sp',e=.returned v∧RV w' A' r v∧aek sp' r v∧GS C Pt s' a w' A' bw sp'∧Ev w A (join (held s sp) Lx) w' A' (join (held s' sp') bw)∧K r s'
theorem fW.mono{P:Program}{f:FuncId}{xs:List AV}{s:St}{K K':AV→St→Prop}(hk:∀r s',K r s'→K' r s')(h:fW P f xs s K):fW P f xs s K':=by
 refine⟨h.1,fun C Pt a w A Lx sp vs hN hG hs hr=>(h.2 C Pt a w A Lx sp vs hN hG hs hr).mono ?_⟩
 rintro e w' ⟨r,v,s',A',bw,sp',h1,h2,h3,h4,h5,h6⟩
 exact⟨r,v,s',A',bw,sp',h1,h2,h3,h4,h5,hk _ _ h6⟩
end Go.aq
namespace Go.aq
inductive ai where
 |t (n:Nat)
 |c (x:AV)
 deriving Inhabited
def ai.ev(e:Nat→AV):ai→AV
 |.t n=>e n
 |.c x=>x
inductive MOp where
 |af (d:Nat) (x:ai)
 |lV (d:Nat) (x:ai)
 |ag (d:Nat) (x:ai)
 |bx (d sz:Nat)
 |aU (d:Nat) (x:ai) (n:Nat)
 |kO (d:Nat) (x:ai) (n:Nat)
 |alloc (d:Nat) (zero:List AV)
 |load (d:Nat) (x:ai) (n:Option Nat)
 |store (x y:ai) (n aO:Nat)
 |jV (x:ai) (sz aO:Nat)
 |bp (k:Nat) (y:ai) (n:Nat)
 |addr (d:Nat) (x:ai) (off:Nat)
 |aK (d:Nat) (x i:ai) (sz:Nat)
 |cw (d:Nat) (x i:ai) (len sz:Nat)
 |iW (d:Nat) (x:ai) (off:Nat) (n:Option Nat)
 |iu (d:Nat) (x i:ai) (len sz:Nat) (n:Option Nat)
 |dF (d:Nat) (x i:ai)
 |build (d:Nat) (zero:List AV) (parts:List (Nat×Nat×ai))
 |aM (d n sz:Nat) (zero:List AV) (parts:List (Nat×ai))
 |len (d:Nat) (x:ai)
 |aez (d:Nat) (x:ai)
 |kP (d n:Nat)
 |app (d:Nat) (x y:ai) (sz bytes:Nat)
 |bin (d:Nat) (op:BinOp) (x y:ai)
 |iw (d:Nat) (neg:Bool) (x y:ai)
 |ff (d:Nat) (neg:Bool) (n:List Bool) (x y:ai)
 |iy (d:Nat) (x:ai) (n:Option Nat)
 |not (d:Nat) (x:ai)
 |neg (d:Nat) (x:ai)
 |conv (d:Nat) (k:IntKind) (x:ai)
 |pick (d:Nat) (c x y:ai)
 |ext (d:Nat) (x:ai) (i:Nat)
 |aeU (d:Nat) (x y:ai)
 |iz (d:Nat) (x y:ai)
 |call (d:Nat) (f:FuncId) (xs:List ai)
 |gJ (d:Nat) (x:ai) (xs:List ai)
 |eP (d:Nat) (fn:Fn) (first cap:List ai)
 |dg (d:Nat) (x:ai)
 |iX (d:Nat) (x hi:ai) (sz:Nat)
 |kQ (d:Nat) (x lo:ai) (sz:Nat)
 |aev (d:Nat) (x:ai)
 |apart (zs:List ai) (x:ai) (m:MOp)
 |guard (g:Nat) (want:Bool) (d:Option Nat) (m:MOp)
 |iY (d:Nat) (x:ai) (xs:List ai)
 |lW (d:Nat) (x:ai) (pos:Nat) (y:ai)
 |gK (d:Nat) (f:FuncId) (xs:List ai)
 |kR (d:Nat) (x:ai) (xs:List ai)
 |mkM (d:Nat) (n c:ai) (sz bytes:Nat) (zero:List AV)
 |mQ (d:Nat) (x y:ai) (sz:Nat)
 |afV (d:Nat) (f:FuncId) (xs:List ai)
 |agc (d:Nat) (x hi mx:ai) (sz:Nat)
 |mR (d:Nat) (x y:ai) (sz:Nat)
 |o_ (d:Nat) (x hi:ai) (sz:Nat)
 |agd (d:Nat) (x y:ai) (sz bytes:Nat) (zero:List AV)
 |afC (d:Nat) (x y:ai) (sz:Nat)
 |jo (d:Nat) (x:ai)
 |jq (d:Nat) (x:ai)
 |mkMap (d:Nat)
 |n5 (d:Nat) (x:ai)
 |afW (d:Nat) (x:ai)
 |lY (x k v:ai) (n:Option Nat)
 |iA (d:Nat) (x k:ai) (n:Option Nat) (zero:AV)
 |afX (x st v:ai)
 |afY (d:Nat) (x:ai)
 |isNil (d:Nat) (neg:Bool) (x:ai)
 |lookup (d:Nat) (x k:ai) (n:Option Nat) (ok:Bool) (zero:AV)
 |bG (k:Nat)
 |afZ (d:Nat) (x lo:ai)
 deriving Inhabited
def gu:IntKind→Int→Prop
 |.i8,n=> -128≤n∧n≤127
 |.i16,n=> -32768≤n∧n≤32767
 |.i32,n=> -2147483648≤n∧n≤2147483647
 |.i64,n=> -9223372036854775808≤n∧n≤9223372036854775807
 |.u8,n=>0≤n∧n≤255
 |.u16,n=>0≤n∧n≤65535
 |.u32,n=>0≤n∧n≤4294967295
 |.u64,n=>0≤n∧n≤18446744073709551615
def cP(op:BinOp)(k:IntKind)(x y:Int):Int:=
 let a:=BitVec.ofInt k.bits x
 let b:=BitVec.ofInt k.bits y
 match op with
 |.and=>k.wrap (a &&& b).toNat
 |.or=>k.wrap (a ||| b).toNat
 |.xor=>k.wrap (a ^^^ b).toNat
 |_=>k.wrap (a &&& ~~~b).toNat
def aeF(op:BinOp)(k:IntKind)(a b:Int)(K:AV→Prop):Prop:=
 match op with
 |.add=>gu k (a+b)∧K (.lit (.int k (a+b)))
 |.sub=>gu k (a - b)∧K (.lit (.int k (a - b)))
 |.mul=>gu k (a*b)∧K (.lit (.int k (a*b)))
 |.quo=>b≠0∧gu k (a.tdiv b)∧K (.lit (.int k (a.tdiv b)))
 |.rem=>b≠0∧K (.lit (.int k (a.tmod b)))
 |.and|.or|.xor|.andNot=>K (.lit (.int k (cP op k a b)))
 |.eql=>K (.lit (.bool (a==b)))
 |.neq=>K (.lit (.bool (a != b)))
 |.lss=>K (.lit (.bool (decide (a<b))))
 |.leq=>K (.lit (.bool (decide (a≤b))))
 |.gtr=>K (.lit (.bool (decide (a>b))))
 |.geq=>K (.lit (.bool (decide (a≥b))))
 |_=>False
def pg(op:BinOp)(k:IntKind)(a b:Int)(K:AV→Prop):Prop:=
 match op with
 |.shl=>0≤b∧K (.lit (.int k (k.wrap (a*2^(min b.toNat k.bits)))))
 |.shr=>0≤b∧K (.lit (.int k (a.fdiv (2^(min b.toNat k.bits)))))
 |_=>False
def lZ(op:BinOp)(a b:ByteArray)(K:AV→Prop):Prop:=
 match op with
 |.eql=>K (.lit (.bool (a.toList==b.toList)))
 |.neq=>K (.lit (.bool (!(a.toList==b.toList))))
 |.lss=>K (.lit (.bool (Op.bytesLess a.toList b.toList)))
 |.leq=>K (.lit (.bool (Op.bytesLess a.toList b.toList||a.toList==b.toList)))
 |.gtr=>K (.lit (.bool (!(Op.bytesLess a.toList b.toList||a.toList==b.toList))))
 |.geq=>K (.lit (.bool (!Op.bytesLess a.toList b.toList)))
 |_=>False
def cU(op:BinOp)(x y:AV)(K:AV→Prop):Prop:=
 match x,y with
 |.lit (.int k a),.lit (.int k' b)=>match op with
  |.shl=>pg .shl k a b K
  |.shr=>pg .shr k a b K
  |_=>k=k'∧aeF op k a b K
 |.lit (.string a),.lit (.string b)=>lZ op a b K
 |_,_=>False
def St.aT(r:Nat)(s:St):St:=⟨fun k=>aC r (s.env k),fun b=>(s.loc b).map (·.map (aC r))⟩
def St.set(s:St)(d:Nat)(x:AV):St:=⟨aD s.env d x,s.loc⟩
def St.new(s:St)(b:Nat)(cs:List AV):St:=⟨s.env,aD s.loc b (some cs)⟩
def fh(s:St)(d:Nat):AV→St
 |.slice sz xs r=>if r=0 then s.set d (.slice sz xs 0) else ((s.aT r).aT (d+1)).set d (.slice sz xs (d+1))
 |x=>s.set d x
def cx(cs:List AV)(off:Nat)(n:Option Nat)(K:AV→Prop):Prop:=
 match n with
 |none=>off<cs.length∧K (cs.getD off .any)
 |some n=>off+n≤cs.length∧K (AV.agg ((cs.drop off).take n)).erase
def cJ(loc:Nat→Option (List AV))(x:AV)(n:Option Nat)(K:AV→Prop):Prop:=
 match x with
 |.ref cs=>cx cs 0 n fun v=>K v.erase
 |.au b off=>match loc b with
  |some cs=>cx cs off n K
  |none=>False
 |_=>False
def splice(cs:List AV)(off:Nat):List AV→List AV
 |[]=>cs
 |v::vs=>splice (cs.set off v) (off+1) vs
def ae7(s:St)(x y:AV)(n aO:Nat)(K:St→Prop):Prop:=
 match x with
 |.au b off=>match s.loc b with
  |some cs=>off+n≤cs.length∧y.cells.length=n∧y.cells.all AV.bK=true∧
   match y with
   |.slice sz xs r=>if r=0∨aO=0 then K (s.new b (splice cs off [.slice sz xs 0])) else K (((s.aT r).aT aO).new b ((cs.map (fun x=>aC aO (aC r x))).set off (.slice sz xs aO)))
   |y=>K (s.new b (splice cs off (y.cells.map AV.erase0)))
  |none=>False
 |_=>False
def kS(e:Nat→AV)(cs:List AV):List (Nat×Nat×ai)→(List AV→Prop)→Prop
 |[],K=>K cs
 |(off,n,x)::ps,K=>(x.ev e).cells.length=n∧off+n≤cs.length∧kS e (splice cs off ((x.ev e).cells.map AV.erase0)) ps K
def gL(e:Nat→AV)(sz:Nat)(xs:List AV):List (Nat×ai)→(List AV→Prop)→Prop
 |[],K=>K xs
 |(i,x)::ps,K=>(x.ev e).cells.length=sz∧(x.ev e).cells.all AV.bK=true∧i<xs.length∧gL e sz (xs.set i (x.ev e).erase) ps K
def dh:List Bool→List AV→List AV→Option Bool
 |[],[],[]=>some true
 |false::ks,.lit (.int k a)::xs,.lit (.int k' b)::ys=>if k=k' then (dh ks xs ys).map (a==b&& ·) else none
 |true::ks,.lit (.bool a)::xs,.lit (.bool b)::ys=>(dh ks xs ys).map (a==b&& ·)
 |_,_,_=>none
def Fr(w w':World):Prop:=w'.os=w.os∧w'.tape=w.tape∧w'.output=w.output∧w.heap.size≤w'.heap.size∧∀b,b<w.heap.size→w'.heap[b]? =w.heap[b]?
def aed(P:Program)(f:FuncId)(xs:List AV)(r:AV):Prop:=
 gI P f=true∧
 ∀(w:World) (A:aN) (vs:Array Value),(∀b o,A b o→b<w.heap.size)→vs.size=xs.length→(∀i,RV w A (xs.getD i .any) (vs.getD i undef))→Calls P f vs w fun e w'=>∃v A',e=.returned v∧Fr w w'∧(∀b o,A b o→A' b o)∧(∀b o,A' b o→A b o∨(w.heap.size≤b∧b<w'.heap.size))∧RV w' A' r v
def fX:AV→AV→Option Bool
 |.lit (.int k a),.lit (.int k' b)=>if k=k' then some (a==b) else none
 |.agg xs,.agg ys=>dh (List.replicate xs.length false) xs ys
 |_,_=>none
def jr:Option Nat→AV→Prop
 |none,.lit (.int _ _)=>True
 |some n,.agg xs=>xs.length=n
 |_,_=>False
def aen(k:AV):List (List AV)→Nat→Option (Option Nat)
 |[],_=>some none
 |e::es,i=>match fX k (e.getD 0 .any) with
  |some true=>some (some i)
  |some false=>aen k es (i+1)
  |none=>none
def n_:AV→AV→Prop
 |.au b' _,.au b _=>b'≠b
 |.ref _,.au _ _=>True
 |_,_=>False
def agK(loc:Nat→Option (List AV)):AV→Option AV
 |.aV b off len _ sz=>match loc b with
  |some cs=>if decide (off+len*sz≤cs.length)&&cs.all AV.bK&&decide (len≤140737488355328) then some (.slice sz (chunk sz (cs.drop off) len) 0) else none
  |none=>none
 |x=>some x
def pn(loc:Nat→Option (List AV)):List AV→Option (List AV)
 |[]=>some []
 |x::xs=>match agK loc x,pn loc xs with
  |some y,some ys=>some (y::ys)
  |_,_=>none
def vc1(P:Program):MOp→St→(St→Prop)→Prop
 |.af d x,s,K=>K (s.set d (x.ev s.env))
 |.lV d x,s,K=>match x.ev s.env with
  |.lit (.string t)=>K (s.set d (.lit (.string t)))
  |_=>False
 |.ag d x,s,K=>K (fh s d (x.ev s.env))
 |.bx d sz,s,K=>K ((s.aT (d+1)).set d (.slice sz [] (d+1)))
 |.aU d x n,s,K=>(x.ev s.env).cells.length=n∧K (s.set d (.ref ((x.ev s.env).cells.map AV.erase0)))
 |.kO d x n,s,K=>(x.ev s.env).cells.length=n∧∀b,s.loc b=none→K ((s.new b ((x.ev s.env).cells.map AV.erase0)).set d (.au b 0))
 |.alloc d zero,s,K=>∀b,s.loc b=none→K ((s.new b zero).set d (.au b 0))
 |.load d x n,s,K=>cJ s.loc (x.ev s.env) n fun v=>K (s.set d v)
 |.store x y n aO,s,K=>ae7 s (x.ev s.env) (y.ev s.env) n aO K
 |.jV x sz aO,s,K=>match x.ev s.env with
  |.au b off=>match s.loc b with
   |some cs=>off<cs.length∧K ((s.aT aO).new b ((cs.map (aC aO)).set off (.slice sz [] aO)))
   |none=>False
  |_=>False
 |.bp k y n,s,K=>match s.env k with
  |.au b 0=>match s.loc b with
   |some cs=>cs.length=n∧(y.ev s.env).cells.length=n∧(y.ev s.env).cells.all AV.bK=true∧K ⟨aD s.env k (.ref ((y.ev s.env).cells.map AV.erase0)),aD s.loc b none⟩
   |none=>False
  |_=>False
 |.addr d x off,s,K=>match x.ev s.env with
  |.ref cs=>K (s.set d (.ref (cs.drop off)))
  |.au b o=>K (s.set d (.au b (o+off)))
  |_=>False
 |.aK d x i sz,s,K=>match x.ev s.env,i.ev s.env with
  |.slice sz' xs _,.lit (.int _ n)=>sz'=sz∧0≤n∧n<xs.length∧K (s.set d (.ref (xs.getD n.toNat .any).cells))
  |.aV b off len _ sz',.lit (.int _ n)=>sz'=sz∧0≤n∧n<len∧K (s.set d (.au b (off+n.toNat*sz)))
  |_,_=>False
 |.cw d x i len sz,s,K=>match x.ev s.env,i.ev s.env with
  |.ref cs,.lit (.int _ n)=>0≤n∧n<len∧K (s.set d (.ref (cs.drop (n.toNat*sz))))
  |.au b off,.lit (.int _ n)=>0≤n∧n<len∧K (s.set d (.au b (off+n.toNat*sz)))
  |_,_=>False
 |.iW d x off n,s,K=>match x.ev s.env with
  |.agg cs=>cx cs off n fun v=>K (s.set d v.erase)
  |_=>False
 |.iu d x i len sz n,s,K=>match x.ev s.env,i.ev s.env with
  |.agg cs,.lit (.int _ j)=>0≤j∧j<len∧cx cs (j.toNat*sz) n fun v=>K (s.set d v.erase)
  |_,_=>False
 |.dF d x i,s,K=>match x.ev s.env,i.ev s.env with
  |.lit (.string t),.lit (.int _ j)=>0≤j∧j<t.size∧K (s.set d (.lit (.int .u8 (t.data.toList.getD j.toNat 0).toNat)))
  |_,_=>False
 |.build d zero ps,s,K=>kS s.env zero ps fun cs=>K (s.set d (.agg cs))
 |.aM d n sz zero ps,s,K=>gL s.env sz (List.replicate n (if sz=1 then zero.getD 0 .any else .agg zero)) ps fun xs=>K ((s.aT (d+1)).set d (.slice sz xs (d+1)))
 |.len d x,s,K=>match x.ev s.env with
  |.slice _ xs _=>K (s.set d (.lit (.int .i64 xs.length)))
  |.aV _ _ len _ _=>K (s.set d (.lit (.int .i64 len)))
  |_=>False
 |.aez d x,s,K=>match x.ev s.env with
  |.lit (.string t)=>K (s.set d (.lit (.int .i64 t.size)))
  |_=>False
 |.kP d n,s,K=>K (s.set d (.lit (.int .i64 n)))
 |.app d x y sz bytes,s,K=>match x.ev s.env,y.ev s.env with
  |.slice mS xs r,.slice mT ys _=>r≠0∧mS=sz∧(mT=sz∨ys=[])∧(xs.length+ys.length)*bytes≤140737488355328∧xs.length+ys.length≤140737488355328∧K (((s.aT r).aT (d+1)).set d (.slice sz (xs++ys) (d+1)))
  |_,_=>False
 |.bin d op x y,s,K=>cU op (x.ev s.env) (y.ev s.env) fun v=>K (s.set d v)
 |.iw d neg x y,s,K=>match x.ev s.env,y.ev s.env with
  |.lit (.bool a),.lit (.bool b)=>K (s.set d (.lit (.bool (if neg then !(a==b) else a==b))))
  |_,_=>False
 |.ff d neg n x y,s,K=>match x.ev s.env,y.ev s.env with
  |.agg a,.agg b=>a.length=n.length∧b.length=n.length∧∃q,dh n a b=some q∧K (s.set d (.lit (.bool (if neg then !q else q))))
  |_,_=>False
 |.not d x,s,K=>match x.ev s.env with
  |.lit (.bool a)=>K (s.set d (.lit (.bool (!a))))
  |_=>False
 |.neg d x,s,K=>match x.ev s.env with
  |.lit (.int k a)=>gu k (0 - a)∧K (s.set d (.lit (.int k (0 - a))))
  |_=>False
 |.conv d k x,s,K=>match x.ev s.env with
  |.lit (.int _ a)=>K (s.set d (.lit (.int k (k.wrap a))))
  |_=>False
 |.pick d c x y,s,K=>match c.ev s.env with
  |.lit (.bool b)=>K (s.set d (if b then x.ev s.env else y.ev s.env))
  |_=>False
 |.ext d x i,s,K=>match x.ev s.env with
  |.tuple vs=>i<vs.length∧K (s.set d (vs.getD i .any).erase)
  |_=>False
 |.aeU d x y,s,K=>match x.ev s.env,y.ev s.env with
  |.lit (.int k a),.lit (.int _ b)=>K (s.set d (.lit (.int k (if b>a then b else a))))
  |_,_=>False
 |.iz d x y,s,K=>match x.ev s.env,y.ev s.env with
  |.lit (.int k a),.lit (.int _ b)=>K (s.set d (.lit (.int k (if b<a then b else a))))
  |_,_=>False
 |.call d f xs,s,K=>∃r,aed P f (xs.map fun x=>(x.ev s.env).erase) r∧K (s.set d r.erase)
 |.gJ d x xs,s,K=>match x.ev s.env with
  |.func (.func f) first cap=>∃r,aed P f (first++(xs.map fun x=>(x.ev s.env).erase)++cap) r∧K (s.set d r.erase)
  |_=>False
 |.eP d fn first cap,s,K=>K (s.set d (.func fn (first.map fun x=>(x.ev s.env).erase) (cap.map fun x=>(x.ev s.env).erase)))
 |.dg d x,s,K=>match x.ev s.env with
  |.ref cs=>K (s.set d (.ref cs))
  |.au b o=>K (s.set d (.au b o))
  |_=>False
 |.iX d x hi sz,s,K=>match x.ev s.env,hi.ev s.env with
  |.slice sz' xs _,.lit (.int _ n)=>(sz'=sz∨xs=[])∧0≤n∧n≤xs.length∧K (s.set d (.slice sz (xs.take n.toNat) 0))
  |_,_=>False
 |.kQ d x lo sz,s,K=>match x.ev s.env,lo.ev s.env with
  |.slice sz' xs _,.lit (.int _ n)=>(sz'=sz∨xs=[])∧0≤n∧n≤xs.length∧K (s.set d (.slice sz (xs.drop n.toNat) 0))
  |_,_=>False
 |.aev d x,s,K=>K (s.set d (x.ev s.env).erase)
 |.apart zs x m,s,K=>(∀z∈zs,n_ (z.ev s.env) (x.ev s.env))∧vc1 P m s K
 |.guard g want d m,s,K=>match s.env g with
  |.lit (.bool b)=>(b=want→vc1 P m s K)∧(b=(!want)→K (match d with|some d=>s.set d (.tuple [])|none=>s))
  |.tuple []=>K (match d with|some d=>s.set d (.tuple [])|none=>s)
  |_=>False
 |.iY d x xs,s,K=>match x.ev s.env,s.env gS with
  |.func (.yield l) [] [],.ghost l' (y::rest) false=>l=l'∧(xs.map fun x=>(x.ev s.env).erase)=y∧K ((s.set gS (.ghost l rest false)).set d (.lit (.bool true)))∧K ((s.set gS (.ghost l rest true)).set d (.lit (.bool false)))
  |_,_=>False
 |.lW d x pos y,s,K=>match x.ev s.env,s.env gS with
  |.func (.yield l) [] [],.ghost l' (z::rest) false=>l=l'∧∃z0 b sz len cap cs,z=[z0,mark pos]∧(y.ev s.env).erase=putAt z0 pos (.aV b 0 len cap sz)∧s.loc b=some cs∧kN z0 pos sz len cap cs∧K ((s.set gS (.ghost l rest false)).set d (.lit (.bool true)))∧K ((s.set gS (.ghost l rest true)).set d (.lit (.bool false)))
  |_,_=>False
 |.mkM d n c sz bytes zero,s,K=>match n.ev s.env,c.ev s.env with
  |.lit (.int .i64 n),.lit (.int .i64 c)=>0≤n∧n≤c∧c*(bytes:Int)≤140737488355328∧c≤140737488355328∧c*(sz:Int)≤140737488355328∧∀b,s.loc b=none→K ((s.new b (List.replicate c.toNat zero).flatten).set d (.aV b 0 n.toNat c.toNat sz))
  |_,_=>False
 |.afV d f xs,s,K=>∃ys u,pn s.loc (xs.map fun x=>(x.ev s.env).erase)=some ys∧flat u=true∧aed P f ys (.lit u)∧K (s.set d (.lit u))
 |.mQ d x y sz,s,K=>match x.ev s.env,y.ev s.env with
  |.aV b off len _ sz',.aV b2 off2 iZ _ cK=>match s.loc b,s.loc b2 with
   |some cs,some ck=>sz'=sz∧cK=sz∧off+len*sz≤cs.length∧off2+iZ*sz≤ck.length∧ck.all AV.bK=true∧K ((s.new b (splice cs off (((ck.drop off2).take (min iZ len*sz)).map AV.erase0))).set d (.lit (.int .i64 (min iZ len:Nat))))
   |_,_=>False
  |_,_=>False
 |.agc d x hi mx sz,s,K=>match x.ev s.env,hi.ev s.env,mx.ev s.env with
  |.slice _ _ _,.lit (.int _ 0),.lit (.int _ 0)=>K ((s.aT (d+1)).set d (.slice sz [] (d+1)))
  |_,_,_=>False
 |.mR d x y sz,s,K=>match x.ev s.env,y.ev s.env with
  |.aV b off len cap sz',.slice cK ys _=>match s.loc b with
   |some cs=>sz'=sz∧cK=sz∧ys≠[]∧len+ys.length≤cap∧off+(len+ys.length)*sz≤cs.length∧K ((s.new b (splice cs (off+len*sz) ((ys.flatMap AV.cells).map AV.erase0))).set d (.aV b off (len+ys.length) cap sz))
   |none=>False
  |_,_=>False
 |.o_ d x hi sz,s,K=>match x.ev s.env,hi.ev s.env with
  |.aV b off _ cap sz',.lit (.int _ n)=>sz'=sz∧0≤n∧n≤cap∧K (s.set d (.aV b off n.toNat cap sz))
  |_,_=>False
 |.agd d x y sz bytes zero,s,K=>match x.ev s.env,y.ev s.env with
  |.aV _ 0 0 0 sz',.slice cK ys _=>sz'=sz∧cK=sz∧ys≠[]∧ys.length*bytes≤140737488355328∧ys.length≤140737488355328∧∀b r,s.loc b=none→K ((s.new b ((ys.flatMap AV.cells).map AV.erase0++(List.replicate r zero).flatten)).set d (.aV b 0 ys.length (ys.length+r) sz))
  |_,_=>False
 |.gK d f xs,s,K=>fW P f (xs.map fun x=>(x.ev s.env).erase) s fun r s'=>K (s'.set d r)
 |.kR d x xs,s,K=>match x.ev s.env with
  |.func (.func f) first cap=>fW P f (first++(xs.map fun x=>(x.ev s.env).erase)++cap) s fun r s'=>K (s'.set d r)
  |_=>False
 |.afC d x y sz,s,K=>match x.ev s.env,y.ev s.env with
  |.aV b off len _ sz',.slice cK ys _=>match s.loc b with
   |some cs=>sz'=sz∧(cK=sz∨ys=[])∧off+len*sz≤cs.length∧K ((s.new b (splice cs off (((ys.take (min ys.length len)).flatMap AV.cells).map AV.erase0))).set d (.lit (.int .i64 (min ys.length len:Nat))))
   |none=>False
  |_,_=>False
 |.jo d x,s,K=>match x.ev s.env with
  |.lit (.string t)=>∀b,s.loc b=none→s.env (oS+b)=.any→K ((s.set (oS+b) (ae4 t 0)).set d (.au b 0))
  |_=>False
 |.jq d x,s,K=>match x.ev s.env with
  |.au b 0=>∃t pos,s.env (oS+b)=ae4 t pos∧
    (pos<t.size→K ((s.set (oS+b) (ae4 t (pos+(Utf8.decode t pos).2))).set d (.tuple [.lit (.bool true),.lit (.int .i64 pos),.lit (.int .i32 (Utf8.decode t pos).1)])))∧
    (¬pos<t.size→K (s.set d (.tuple [.lit (.bool false)])))
  |_=>False
 |.mkMap d,s,K=>∀b,s.loc b=none→s.env (oS+b)=.any→K ((s.set (oS+b) (bI [])).set d (.bQ b))
 |.n5 d x,s,K=>match x.ev s.env with
  |.bQ b=>∃es,s.env (oS+b)=bI es∧∀r,s.loc r=none→s.env (oS+r)=.any→K ((s.set (oS+r) (fH b es.length [])).set d (.au r 0))
  |_=>False
 |.afW d x,s,K=>match x.ev s.env with
  |.au r 0=>∃b seen es,s.env (oS+r)=fH b es.length seen∧s.env (oS+b)=bI es∧
    (∀i,i<es.length→i∉seen→K ((s.set (oS+r) (fH b es.length (seen++[i]))).set d (.tuple [.lit (.bool true),((es.getD i []).getD 0 .any).erase,((es.getD i []).getD 1 .any).erase])))∧
    ((∀i,i<es.length→i∈seen)→K (s.set d (.tuple [.lit (.bool false)])))
  |_=>False
 |.lY x k v n,s,K=>match x.ev s.env with
  |.bQ b=>∃es,s.env (oS+b)=bI es∧jr n (k.ev s.env).erase∧match aen (k.ev s.env).erase es 0 with
   |some (some i)=>K (s.set (oS+b) (bI (es.set i [(k.ev s.env).erase,(v.ev s.env).erase])))
   |some none=>K (s.set (oS+b) (bI (es++[[(k.ev s.env).erase,(v.ev s.env).erase]])))
   |none=>False
  |_=>False
 |.lookup d x k n ok zero,s,K=>match x.ev s.env with
  |.bQ b=>∃es,s.env (oS+b)=bI es∧jr n (k.ev s.env).erase∧match aen (k.ev s.env).erase es 0 with
   |some (some i)=>K (s.set d (if ok then .tuple [((es.getD i []).getD 1 .any),.lit (.bool true)] else ((es.getD i []).getD 1 .any).erase))
   |some none=>K (s.set d (if ok then .tuple [zero,.lit (.bool false)] else zero.erase))
   |none=>False
  |_=>False
 |.iA d x k n zero,s,K=>match x.ev s.env with
  |.bQ b=>∃es,s.env (oS+b)=bI es∧jr n (k.ev s.env).erase∧fX (k.ev s.env).erase (k.ev s.env).erase=some true∧match aen (k.ev s.env).erase es 0 with
   |some (some i)=>K ((s.set (oS+b) (bI (es.set i [(k.ev s.env).erase,(es.getD i []).getD 1 .any]))).set d (.tuple [(es.getD i []).getD 1 .any,.lit (.int .i64 i)]))
   |some none=>K ((s.set (oS+b) (bI (es++[[(k.ev s.env).erase,zero]]))).set d (.tuple [zero,.lit (.int .i64 es.length)]))
   |none=>False
  |_=>False
 |.afX x st v,s,K=>match x.ev s.env,st.ev s.env with
  |.bQ b,.lit (.int _ i)=>∃es,s.env (oS+b)=bI es∧0≤i∧i<es.length∧K (s.set (oS+b) (bI (es.set i.toNat [(es.getD i.toNat []).getD 0 .any,(v.ev s.env).erase])))
  |_,_=>False
 |.afY d x,s,K=>match x.ev s.env with
  |.au r 0=>∃b seen i es,s.env (oS+r)=fH b es.length (seen++[i])∧s.env (oS+b)=bI es∧i<es.length∧K (s.set d (.tuple [((es.getD i []).getD 0 .any).erase,((es.getD i []).getD 1 .any).erase]))
  |_=>False
 |.isNil d neg x,s,K=>match x.ev s.env with
  |.slice _ xs _=>(xs=[]→K (s.set d (.lit (.bool (!neg)))))∧K (s.set d (.lit (.bool neg)))
  |.aV _ _ _ _ _=>K (s.set d (.lit (.bool neg)))
  |_=>False
 |.iy d x n,s,K=>match x.ev s.env with
  |.ref cs=>cx cs 0 n fun v=>K (s.set d v.erase)
  |_=>False
 |.afZ d x lo,s,K=>match x.ev s.env,lo.ev s.env with
  |.lit (.string t),.lit (.int _ n)=>0≤n∧n≤t.size∧K (s.set d (.lit (.string (t.extract n.toNat t.size))))
  |_,_=>False
 |.bG k,s,K=>match s.env k with
  |.aV b 0 len _ sz=>match s.loc b with
   |some cs=>len*sz≤cs.length∧cs.all AV.bK=true∧len≤140737488355328∧K ⟨aD s.env k (.slice sz (chunk sz cs len) 0),aD s.loc b none⟩
   |none=>False
  |.au b 0=>match s.loc b with
   |some cs=>(∃sz off,cs[off]? =some (.lit (.slice none 0 0))∧K ((s.aT ((k+1)*1000+off)).new b ((cs.map (aC ((k+1)*1000+off))).set off (.slice sz [] ((k+1)*1000+off)))))∨
    (∃off b2 len cap sz ck,cs[off]? =some (.aV b2 0 len cap sz)∧b2≠b∧s.loc b2=some ck∧len*sz≤ck.length∧ck.all AV.bK=true∧len≤140737488355328∧K ⟨s.env,aD (aD s.loc b (some (cs.set off (.slice sz (chunk sz ck len) 0)))) b2 none⟩)
   |none=>False
  |_=>False
def vcs(P:Program):List MOp→(St→Prop)→St→Prop
 |[],K,s=>K s
 |m::ms,K,s=>vc1 P m s (vcs P ms K)
end Go.aq
namespace Go.aq
open Go.RowKit
theorem tu{k:IntKind}{n:Int}(h:gu k n):k.wrap n=n:=by cases k<;>simp[gu] at h<;>simp[IntKind.wrap,IntKind.bits,IntKind.signed]<;>(try split)<;>omega
theorem mU(w:World)(o:Obj)(b off:Nat)(h:b<w.heap.size):(w.alloc o).cell? ⟨b,off,none⟩=w.cell? ⟨b,off,none⟩:=by
 show(match (w.heap.push o)[b]? with|some (.cells c _ _)=>_|_=>_)=_
 rw[Array.getElem?_push,if_neg (Nat.ne_of_lt h)]
 rfl
theorem Gg(w:World)(vs:Array Value)(T:TypeId)(off:Nat):(w.alloc (.cells vs T)).cell? ⟨w.heap.size,off,none⟩=vs[off]? :=by
 show(match (w.heap.push _)[w.heap.size]? with|some (.cells c _ _)=>_|_=>_)=_
 rw[Array.getElem?_push,if_pos rfl]
 rfl
theorem heap_alloc(w:World)(o:Obj)(b:Nat)(h:b<w.heap.size):(w.alloc o).heap[b]? =w.heap[b]? :=by
 show(w.heap.push o)[b]? =_
 rw[Array.getElem?_push,if_neg (Nat.ne_of_lt h)]
theorem qX(w:World)(o:Obj):(w.alloc o).heap[w.heap.size]? =some o:=by
 show(w.heap.push o)[w.heap.size]? =_
 rw[Array.getElem?_push,if_pos rfl]
theorem ae8(w:World)(o:Obj):(w.alloc o).heap.size=w.heap.size+1:=by
 show(w.heap.push o).size=_
 simp
theorem cy{w:World}{b:Nat}{o:Obj}(h:w.heap[b]? =some o):b<w.heap.size:=(Array.getElem?_eq_some_iff.1 h).1
theorem cell_setRow_other(w:World)(g:Nat)(cs:Array Value)(b off:Nat)(h:b≠g):(w.setRow g cs).cell? ⟨b,off,none⟩=w.cell? ⟨b,off,none⟩:=by simp[World.cell?,setRow_other w g b cs h]
theorem size_setRow(w:World)(g:Nat)(cs:Array Value):(w.setRow g cs).heap.size=w.heap.size:=by simp[World.setRow]
theorem wN(w:World)(g k:Nat)(cs:Array Value)(h:k≠g):(w.setRow g cs).heap[k]? =w.heap[k]? :=setRow_other w g k cs h
variable {N:Nat} {s:St} {a:Act} {w:World} {A:aN} {sp:Sp}
theorem ahq(r:Nat){b o:Nat}(h:live (s.aT r).loc (aD sp r (0,0,0)) b o):live s.loc sp b o:=by
 rcases h with h|⟨q,hq⟩
 ·exact .inl (by intro hn;exact h (by simp[St.aT,hn]))
 ·refine .inr ⟨q,?_⟩
  simp only[aD] at hq;split at hq
  ·dsimp only at hq;omega
  ·exact hq
theorem aek.aT(r:Nat){x:AV}{v:Value}(h:aek sp x v):aek (aD sp r (0,0,0)) (aC r x) v:=by
 cases x with
 |slice sz xs r'=>
  simp only[aC]
  split
  ·cases v with
   |slice a len cap=>cases a with
    |some a=>exact .inl rfl
    |none=>trivial
   |_=>trivial
  ·rename_i hne
   cases v with
   |slice a len cap=>cases a with
    |some a=>simpa[aek,aD,hne] using h
    |none=>trivial
   |_=>trivial
 |_=>trivial
theorem RS.aT(h:RS N s a w A sp)(r:Nat):RS N (s.aT r) a w A (aD sp r (0,0,0)) where
 size:=h.size
 defers:=h.defers
 env d:=⟨(h.env d).1.aC r,(h.env d).2.aT r⟩
 loc b cs hb:=by
  simp only[St.aT,Option.map_eq_some_iff] at hb
  obtain⟨cs',hcs,rfl⟩:=hb
  obtain⟨vs,T,h1,h2,h3⟩:=h.loc b cs' hcs
  refine⟨vs,T,h1,by simpa using h2,fun i=> ?_⟩
  by_cases hi:i<cs'.length
  ·have:=h3 i
   simp only[List.getD_eq_getElem?_getD,List.getElem?_map,List.getElem?_eq_getElem hi,Option.map_some,Option.getD_some] at this⊢
   exact⟨this.1.aC r,this.2.aT r⟩
  ·simp only[List.getD_eq_getElem?_getD,List.getElem?_map,List.getElem?_eq_none (Nat.le_of_not_lt hi),Option.map_none,Option.getD_none]
   exact⟨.any _,trivial⟩
 cg q hq:=by
  simp only[aD] at hq⊢
  split at hq
  ·dsimp only at hq;omega
  ·rename_i hne
   simp only[hne,if_false]
   obtain⟨h1,h2⟩:=h.cg q hq
   exact⟨h1,by simp[St.aT,h2]⟩
 dO q q' hqq h1 h2:=by
  simp only[aD] at h1 h2⊢
  split at h1
  ·dsimp only at h1;omega
  ·split at h2
   ·dsimp only at h2;omega
   ·rename_i n1 n2
    simp only[n1,n2,if_false]
    exact h.dO q q' hqq h1 h2
 av b o ha:=⟨(h.av b o ha).1,fun hl=>(h.av b o ha).2 (ahq r hl)⟩
theorem RS.nZ(h:RS N s a w A sp):∀b o,A b o→b<w.heap.size∧¬live s.loc sp b o:=h.av
theorem Ev.aT(r:Nat):Ev w A (live s.loc sp) w A (live (s.aT r).loc (aD sp r (0,0,0))):=⟨rfl,rfl,rfl,Nat.le_refl _,fun _ _ _ h=>⟨rfl,fun hl=>h (ahq r hl)⟩,fun _ _ _=>rfl,fun _ _ h=>h,fun _ _ h=>.inl h⟩
theorem RS.world(h:RS N s a w A sp){w':World}{A':aN}(hc:∀b o v,A b o→w.cell? ⟨b,o,none⟩=some v→w'.cell? ⟨b,o,none⟩=some v)
  (hA:∀b o,A b o→A' b o)(z7:∀b cs,s.loc b=some cs→w'.heap[b]? =w.heap[b]?)
  (hsp:∀r,(sp r).2.1<(sp r).2.2→∃vs T,w'.heap[(sp r).1]? =some (.cells vs T (0,0))∧(sp r).2.2≤vs.size)
  (hav:∀b o,A' b o→b<w'.heap.size∧¬live s.loc sp b o):RS N s a w' A' sp where
 size:=h.size
 defers:=h.defers
 env d:=⟨(h.env d).1.mono fun b o v ha hv=>⟨hc b o v ha hv,hA b o ha⟩,(h.env d).2⟩
 loc b cs hb:=by
  obtain⟨vs,T,h1,h2,h3⟩:=h.loc b cs hb
  exact⟨vs,T,(z7 b cs hb).trans h1,h2,fun i=>⟨(h3 i).1.mono fun b o v ha hv=>⟨hc b o v ha hv,hA b o ha⟩,(h3 i).2⟩⟩
 cg r hr:=⟨hsp r hr,(h.cg r hr).2⟩
 dO:=h.dO
 av:=hav
theorem RS.qY(h:RS N s a w A sp){b:Nat}{cs:List AV}(hb:s.loc b=some cs):b<w.heap.size:=by
 obtain⟨vs,T,h1,_⟩:=h.loc b cs hb
 exact cy h1
theorem RS.fresh(h:RS N s a w A sp):s.loc w.heap.size=none:=by
 cases hb:s.loc w.heap.size with
 |none=>rfl
 |some cs=>exact absurd (h.qY hb) (Nat.lt_irrefl _)
theorem RS.Gh(h:RS N s a w A sp){b o:Nat}(hs:spare sp b o):b<w.heap.size:=by
 obtain⟨r,h1,h2,h3⟩:=hs
 obtain⟨⟨vs,T,hv,_⟩,_⟩:=h.cg r (by omega)
 exact h1▸cy hv
theorem RS.wO(h:RS N s a w A sp){b o:Nat}(hs:live s.loc sp b o):b<w.heap.size:=by
 rcases hs with h1|h1
 ·cases hb:s.loc b with
  |none=>exact absurd hb h1
  |some cs=>exact h.qY hb
 ·exact h.Gh h1
theorem RS.alloc(h:RS N s a w A sp)(vs:Array Value)(T:TypeId)(k:Nat)(_:k≤vs.size):RS N s a (w.alloc (.cells vs T)) (fun b o=>A b o∨(b=w.heap.size∧o<k)) sp:=by
 refine h.world (fun b o v ha hv=>by rw[mU _ _ _ _ (h.av b o ha).1];exact hv) (fun b o ha=>.inl ha) (fun b cs hb=>heap_alloc _ _ _ (h.qY hb)) (fun r hr=> ?_) ?_
 ·obtain⟨⟨vs,T,hv,hs⟩,_⟩:=h.cg r hr
  exact⟨vs,T,by rw[heap_alloc _ _ _ (cy hv)];exact hv,hs⟩
 ·rintro b o (ha|⟨rfl,ho⟩)
  ·exact⟨by have:=(h.av b o ha).1;rw[ae8];omega,(h.av b o ha).2⟩
  ·exact⟨by rw[ae8];omega,fun hl=>absurd (h.wO hl) (Nat.lt_irrefl _)⟩
theorem RS.tw(_:RS N s a w A sp)(o:Obj)(k:Nat):Ev w A (live s.loc sp) (w.alloc o) (fun b o=>A b o∨(b=w.heap.size∧o<k)) (live s.loc sp):=⟨rfl,rfl,rfl,by rw[ae8];omega,fun b o hb hl=>⟨mU _ _ _ _ hb,hl⟩,fun b hb _=>heap_alloc _ _ _ hb,fun _ _ ha=>.inl ha,fun b o ha=>ha.elim .inl fun q=>.inr (.inr (by omega))⟩
theorem RS.drew(h:RS N s a w A sp):RS N s a w.drew A sp:=h.world (fun _ _ _ _ hv=>hv) (fun _ _ ha=>ha) (fun _ _ _=>rfl) (fun r hr=>(h.cg r hr).1) h.av
theorem Ev.drew(L:aN):Ev w A L w.drew A L:=⟨rfl,rfl,rfl,Nat.le_refl _,fun _ _ _ h=>⟨rfl,h⟩,fun _ _ _=>rfl,fun _ _ h=>h,fun _ _ h=>.inl h⟩
theorem RS.wP(h:RS N s a w A sp)(r:Nat)(cG:∀d sz xs,s.env d≠.slice sz xs r)
  (hrl:∀b cs,s.loc b=some cs→∀i sz xs,cs.getD i .any≠.slice sz xs r)
  (g lo hi:Nat)(hg:lo<hi→(∃vs T,w.heap[g]? =some (.cells vs T (0,0))∧hi≤vs.size)∧s.loc g=none)
  (hd:∀q,q≠r→lo<hi→(sp q).2.1<(sp q).2.2→(sp q).1=g→(sp q).2.2≤lo∨hi≤(sp q).2.1)(hA:∀o,A g o→o<lo∨hi≤o):
  RS N s a w A (aD sp r (g,lo,hi)) where
 size:=h.size
 defers:=h.defers
 env d:=by
  refine⟨(h.env d).1,?_⟩
  have:=(h.env d).2
  cases hx:s.env d with
  |slice sz xs q=>
   rw[hx] at this
   have hq:q≠r:=fun e=>cG d sz xs (e▸hx)
   cases hv:a.tmps.getD d undef with
   |slice a len cap=>cases a with
    |some a=>rw[hv] at this;simpa[aek,aD,hq] using this
    |none=>trivial
   |_=>trivial
  |_=>trivial
 loc b cs hb:=by
  obtain⟨vs,T,h1,h2,h3⟩:=h.loc b cs hb
  refine⟨vs,T,h1,h2,fun i=>⟨(h3 i).1,?_⟩⟩
  have:=(h3 i).2
  cases hx:cs.getD i .any with
  |slice sz xs q=>
   rw[hx] at this
   have hq:q≠r:=fun e=>hrl b cs hb i sz xs (e▸hx)
   cases hv:vs.getD i undef with
   |slice a len cap=>cases a with
    |some a=>rw[hv] at this;simpa[aek,aD,hq] using this
    |none=>trivial
   |_=>trivial
  |_=>trivial
 cg q hq:=by
  simp only[aD] at hq⊢
  split
  ·rename_i he;simp only[he,if_true] at hq;exact hg hq
  ·rename_i hne;simp only[hne,if_false] at hq;exact h.cg q hq
 dO q q' hqq h1 h2 h3:=by
  by_cases e1:q=r<;>by_cases e2:q'=r
  ·exact absurd (e1.trans e2.symm) hqq
  ·subst e1;simp only[aD,e2,if_true,if_false] at h1 h2 h3⊢
   have:=hd q' e2 h1 h2 h3.symm;omega
  ·subst e2;simp only[aD,e1,if_true,if_false] at h1 h2 h3⊢
   have:=hd q e1 h2 h1 h3;omega
  ·simp only[aD,e1,e2,if_false] at h1 h2 h3⊢
   exact h.dO q q' hqq h1 h2 h3
 av b o ha:=by
  refine⟨(h.av b o ha).1,?_⟩
  rintro(hl'|⟨q,hq⟩)
  ·exact(h.av b o ha).2 (.inl hl')
  ·simp only[aD] at hq
   split at hq
   ·obtain⟨rfl,jW,hq2⟩:=hq
    have:=hA o ha;simp only at jW hq2;omega
   ·exact(h.av b o ha).2 (.inr ⟨q,hq⟩)
theorem qZ(s:St)(r:Nat)(hr:r≠0)(d sz:Nat)(xs:List AV):(s.aT r).env d≠.slice sz xs r:=by
 intro h
 simp only[St.aT] at h
 cases hx:s.env d<;>rw[hx] at h<;>simp only[aC] at h<;>try exact AV.noConfusion h
 split at h
 ·injection h with _ _ h;exact hr h.symm
 ·injection h with _ _ h;contradiction
theorem ah1{x:AV}(r:Nat)(hr:r≠0)(sz:Nat)(xs:List AV):aC r x≠.slice sz xs r:=by
 intro h
 cases x<;>simp only[aC] at h<;>try exact AV.noConfusion h
 split at h
 ·injection h with _ _ h;exact hr h.symm
 ·injection h with _ _ h;contradiction
theorem agm(s:St)(r:Nat)(hr:r≠0)(b:Nat)(cs:List AV)(hb:(s.aT r).loc b=some cs)(i sz:Nat)(xs:List AV):cs.getD i .any≠.slice sz xs r:=by
 simp only[St.aT,Option.map_eq_some_iff] at hb
 obtain⟨cs',_,rfl⟩:=hb
 by_cases hi:i<cs'.length
 ·simp only[List.getD_eq_getElem?_getD,List.getElem?_map,List.getElem?_eq_getElem hi,Option.map_some,Option.getD_some]
  exact ah1 r hr sz xs
 ·simp only[List.getD_eq_getElem?_getD,List.getElem?_map,List.getElem?_eq_none (Nat.le_of_not_lt hi),Option.map_none,Option.getD_none]
  exact fun h=>AV.noConfusion h
theorem fin{P:Program}{o:Oper}{K:St→Prop}{next:Act→World→Prop}{Q:Exit→Act→World→Prop}{d:Nat}{x:AV}{v:Value}
  (h:RS N s a w A sp)(hd:o.dst=some d)(hN:d<N)(hrun:(execOp a.eval o).run P w=.ok (.value v) w)
  (hr:RV w A x v)(ho:aek sp x v)(hk:K (s.set d x))
  (hn:∀s' a' w' A' sp',K s'→RS N s' a' w' A' sp'→Ev w A (live s.loc sp) w' A' (live s'.loc sp')→next a' w'):o.wp P a w next Q:=by
 unfold Oper.wp
 rw[hrun,Oper.upon_value,hd]
 exact hn _ _ _ _ _ hk (h.put hN hr ho) (.refl _ _ _)
theorem fin'{P:Program}{o:Oper}{K:St→Prop}{next:Act→World→Prop}{Q:Exit→Act→World→Prop}{d:Nat}{x:AV}{v:Value}
  {s1:St}{w1:World}{A1:aN}{dW:Sp}
  (h:RS N s1 a w1 A1 dW)(aS:Ev w A (live s.loc sp) w1 A1 (live s1.loc dW))(hd:o.dst=some d)(hN:d<N)(hrun:(execOp a.eval o).run P w=.ok (.value v) w1)
  (hr:RV w1 A1 x v)(ho:aek dW x v)(hk:K (s1.set d x))
  (hn:∀s' a' w' A' sp',K s'→RS N s' a' w' A' sp'→Ev w A (live s.loc sp) w' A' (live s'.loc sp')→next a' w'):o.wp P a w next Q:=by
 unfold Oper.wp
 rw[hrun,Oper.upon_value,hd]
 exact hn _ _ _ _ _ hk (h.put hN hr ho) aS
end Go.aq
namespace Go.aq
open Go.RowKit
structure cn where
 muts:List Nat:=[]
 dr:List (Nat×Nat):=[]
 aO:List (Nat×Nat):=[]
 bG:List Nat:=[]
 ord:List (Nat×List Nat):=[]
 ap:List (Nat×List ai):=[]
 own:List Nat:=[]
 zero:List (Nat×List AV):=[]
 yl:List Nat:=[]
 fz:List (Nat×List Nat):=[]
 Gi:List Nat:=[]
 ic:List Nat:=[]
 cl:List Nat:=[]
 z8:List (Nat×Nat):=[]
 rl:List (Nat×Nat):=[]
def look{α:Type}(l:List (Nat×α))(d:Nat)(z:α):α:=match l with
 |[]=>z
 |(k,x)::l=>if k==d then x else look l d z
def age:Value→Option AV
 |.slice none 0 0=>some (.slice 0 [] 0)
 |.bool b=>some (.lit (.bool b))
 |.int k n=>some (.lit (.int k n))
 |.string s=>some (.lit (.string s))
 |.pointer none=>some (.lit (.pointer none))
 |.nilFunc=>some (.lit .nilFunc)
 |.nilIface=>some (.lit .nilIface)
 |.map none=>some (.lit (.map none))
 |_=>none
def aF:Operand→Option ai
 |.tmp t=>some (.t t)
 |.const v=>(age v).map .c
 |.func f=>some (.c (.func (.func f) [] []))
 |.global _=>none
def tA:Value→Value→Bool
 |.bool a,.bool b=>a==b
 |.int k a,.int k' b=>k==k'&&a==b
 |.string a,.string b=>a.data==b.data
 |.pointer none,.pointer none=>true
 |.nilFunc,.nilFunc=>true
 |.nilIface,.nilIface=>true
 |.map none,.map none=>true
 |.slice none 0 0,.slice none 0 0=>true
 |_,_=>false
def z9:AV→Value→Bool
 |.lit v,v'=>tA v v'
 |.slice _ [] 0,.slice none 0 0=>true
 |_,_=>false
def wQ:List AV→List Value→Bool
 |[],[]=>true
 |x::xs,v::vs=>z9 x v&&wQ xs vs
 |_,_=>false
def z_:AV→Value→Bool
 |.lit v,v'=>tA v v'
 |.slice _ [] _,.slice none 0 0=>true
 |_,_=>false
def wR:List AV→List Value→Bool
 |[],[]=>true
 |x::xs,v::vs=>z_ x v&&wR xs vs
 |_,_=>false
def cA(P:Program)(t:TypeId):Option Nat:=(P.info? t).map (·.size)
def jX(P:Program)(t:TypeId):Option (Option Nat):=
 match P.underlying t,P.info? t with
 |some d,some i=>some (match d with
  |.struct _=>some i.size
  |.array _ _=>some i.size
  |_=>none)
 |_,_=>none
def zeroOf(P:Program)(t:TypeId):Option Value:=(P.info? t).bind (·.zero)
def js(P:Program)(t:TypeId)(z:List AV):Bool:=
 match P.info? t with
 |some i=>(match i.zero with
  |some v=>wQ z v.cells.toList&&z.length==i.size
  |none=>false)
 |none=>false
def wS(P:Program)(t:TypeId)(z:List AV):Bool:=
 match P.info? t with
 |some i=>(match i.zero with
  |some v=>wR z v.cells.toList&&z.length==i.size
  |none=>false)
 |none=>false
def afD(P:Program)(t:TypeId)(x:Operand):Option ai:=
 match x with
 |.const (.slice none 0 0)=>match P.underlying t with
  |some (.slice e)=>(cA P e).map fun n=>.c (.slice n [] 0)
  |_=>aF x
 |x=>aF x
def fY(P:Program):List Operand→List TypeId→Option (List ai)
 |[],_=>some []
 |x::xs,[]=>match aF x,fY P xs [] with
  |some y,some ys=>some (y::ys)
  |_,_=>none
 |x::xs,t::ts=>match afD P t x,fY P xs ts with
  |some y,some ys=>some (y::ys)
  |_,_=>none
def pz:List Operand→Option (List ai)
 |[]=>some []
 |x::xs=>match aF x,pz xs with
  |some y,some ys=>some (y::ys)
  |_,_=>none
def tB(P:Program)(fs:Array Field):List (Nat×Operand)→Option (List (Nat×Nat×ai))
 |[]=>some []
 |(i,x)::ps=>match fs[i]?,tB P fs ps with
  |some f,some ys=>match cA P f.type,afD P f.type x with
   |some n,some y=>if 0<n then some ((f.offset,n,y)::ys) else none
   |_,_=>none
  |_,_=>none
def tC(P:Program)(e:TypeId)(sz:Nat):List (Nat×Operand)→Option (List (Nat×Nat×ai))
 |[]=>some []
 |(i,x)::ps=>match afD P e x,tC P e sz ps with
  |some y,some ys=>some ((i*sz,sz,y)::ys)
  |_,_=>none
def tD(P:Program)(e:TypeId):List (Nat×Operand)→Option (List (Nat×ai))
 |[]=>some []
 |(i,x)::ps=>match afD P e x,tD P e ps with
  |some y,some ys=>some ((i,y)::ys)
  |_,_=>none
def Aa(P:Program)(b:Builtin)(d:Nat)(args:List Operand)(ts:List TypeId):Option MOp:=
 match b,args,ts with
 |.len,[x],[t]=>match P.underlying t with
  |some (.array n _)=>some (.kP d n)
  |some (.slice _)=>(aF x).map (.len d ·)
  |some .string=>(aF x).map (.aez d ·)
  |some (.pointer e)=>match P.underlying e with
   |some (.array n _)=>some (.kP d n)
   |_=>none
  |_=>none
 |.append,[x,y],[t,t']=>if t=t' then match P.underlying t with
  |some (.slice e)=>match P.info? e,aF x,aF y with
   |some i,some x,some y=>match i.zero with
    |some z=>if z.cells.size=i.size∧0<i.size then some (.app d x y i.size i.bytes) else none
    |none=>none
   |_,_,_=>none
  |_=>none else none
 |.copy,[x,y],[t,_]=>match P.underlying t with
  |some (.slice e)=>match P.info? e,aF x,aF y with
   |some i,some x,some y=>some (.afC d x y i.size)
   |_,_,_=>none
  |_=>none
 |.max,[x,y],_=>match aF x,aF y with
  |some x,some y=>some (.aeU d x y)
  |_,_=>none
 |.min,[x,y],_=>match aF x,aF y with
  |some x,some y=>some (.iz d x y)
  |_,_=>none
 |_,_,_=>none
def Ab(P:Program)(aG:cn)(b:Builtin)(d:Nat)(args:List Operand)(ts:List TypeId):Option MOp:=
 match b,args,ts with
 |.append,[x,y],[t,t']=>if t=t' then match P.underlying t with
  |some (.slice e)=>match P.info? e,aF x,aF y with
   |some i,some x,some y=>if (look aG.zero d []).isEmpty then some (.mR d x y i.size) else if js P e (look aG.zero d [])&&decide (0<i.size) then some (.agd d x y i.size i.bytes (look aG.zero d [])) else none
   |_,_,_=>none
  |_=>none else none
 |_,_,_=>none
def Ac(P:Program)(b:Builtin)(d:Nat)(args:List Operand)(ts:List TypeId):Option MOp:=
 match b,args,ts with
 |.copy,[x,y],[t,_]=>match P.underlying t with
  |some (.slice e)=>match P.info? e,aF x,aF y with
   |some i,some x,some y=>some (.mQ d x y i.size)
   |_,_,_=>none
  |_=>none
 |_,_,_=>none
def Ad(P:Program)(d:Nat)(op:BinOp)(t:TypeId)(x y:ai):Option MOp:=
 match P.underlying t with
 |some (.int _)=>some (.bin d op x y)
 |some .string=>some (.bin d op x y)
 |some .bool=>match op with
  |.eql=>some (.iw d false x y)
  |.neq=>some (.iw d true x y)
  |_=>none
 |_=>none
def Gj(P:Program)(d:Nat)(op:BinOp)(t:TypeId)(x:ai)(y:Operand):Option MOp:=
 match P.underlying t,op,y with
 |some (.slice _),.eql,.const (.slice none 0 0)=>some (.isNil d false x)
 |some (.slice _),.neq,.const (.slice none 0 0)=>some (.isNil d true x)
 |_,_,_=>none
def agf(P:Program):List Bool→Nat→List Field→Bool
 |[],_,[]=>true
 |q::ks,k,f::fs=>f.name != "_" &&f.offset==k&&(match q,P.underlying f.type with|false,some (.int _)=>true|true,some .bool=>true|_,_=>false)&&agf P ks (k+1) fs
 |_,_,_=>false
def mV(P:Program)(fs:List Field):List Bool:=fs.map fun f=>match P.underlying f.type with|some .bool=>true|_=>false
def af0(P:Program)(t:TypeId):Option (List Bool):=
 match P.underlying t with
 |some (.struct fs)=>if agf P (mV P fs.toList) 0 fs.toList&& !P.stoodInHeld t&& !P.eqGuardType P.depth t then some (mV P fs.toList) else none
 |_=>none
def Ae(P:Program)(aG:cn)(d:Nat)(op:Op)(_:TypeId):Option MOp:=
 match op with
 |.move x=>(aF x).map (.af d ·)
 |.assign (.const (.slice none 0 0))=>some (.bx d (look aG.dr d 0))
 |.assign x=>(aF x).map (.ag d ·)
 |.pick c x y=>match aF c,aF x,aF y with
  |some c,some x,some y=>some (.pick d c x y)
  |_,_,_=>none
 |.alloc e=>if wS P e (look aG.zero d []) then some (.alloc d (look aG.zero d [])) else none
 |.box e x=>match cA P e,aF x with
  |some n,some x=>if 0<n then some (if aG.muts.contains d then .kO d x n else .aU d x n) else none
  |_,_=>none
 |.load t x=>match jX P t,aF x with
  |some n,some x=>some (.load d x n)
  |_,_=>none
 |.fieldAddr t x f=>match P.underlying t with
  |some (.struct fs)=>match fs[f]?,aF x with
   |some fd,some x=>match cA P fd.type with
    |some n=>if n=0 then none else some (.addr d x fd.offset)
    |none=>none
   |_,_=>none
  |_=>none
 |.field t x f=>match P.underlying t with
  |some (.struct fs)=>match fs[f]?,aF x with
   |some fd,some x=>match jX P fd.type with
    |some n=>some (.iW d x fd.offset n)
    |none=>none
   |_,_=>none
  |_=>none
 |.indexAddr t x i=>match P.underlying t,aF x,aF i with
  |some (.slice e),some x,some i=>(cA P e).map fun n=>.aK d x i n
  |some (.array len e),some x,some i=>(cA P e).map fun n=>.cw d x i len n
  |_,_,_=>none
 |.index t x i=>match P.underlying t,aF x,aF i with
  |some .string,some x,some i=>some (.dF d x i)
  |some (.array len e),some x,some i=>match cA P e,jX P e with
   |some sz,some n=>some (.iu d x i len sz n)
   |_,_=>none
  |_,_,_=>none
 |.build t ps=>if js P t (look aG.zero d []) then match P.underlying t with
  |some (.struct fs)=>if fs.toList.all fun f=>(P.info? f.type).isSome then (tB P fs ps.toList).map fun ps=>.build d (look aG.zero d []) ps else none
  |some (.array _ e)=>match cA P e with
   |some sz=>if 0<sz then (tC P e sz ps.toList).map fun ps=>.build d (look aG.zero d []) ps else none
   |none=>none
  |_=>none else none
 |.buildSlice t n ps=>if aG.muts.contains d then (match P.underlying t with
  |some (.slice e)=>match P.info? e with
   |some i=>if js P e (look aG.zero d [])&&n==0&&ps.isEmpty then some (.mkM d (.c (.lit (.int .i64 0))) (.c (.lit (.int .i64 0))) i.size i.bytes (look aG.zero d [])) else none
   |_=>none
  |_=>none) else match P.underlying t with
  |some (.slice e)=>match cA P e,tD P e ps.toList with
   |some sz,some ps=>if js P e (look aG.zero d [])&&decide (0<sz)&&decide (n*sz≤16777216) then some (.aM d n sz (look aG.zero d []) ps) else none
   |_,_=>none
  |_=>none
 |.binOp op t x y0 _=>match aF x,aF y0 with
  |some x,some y=>match Ad P d op t x y with
   |some m=>some m
   |none=>match af0 P t,op with
    |some n,.eql=>some (.ff d false n x y)
    |some n,.neq=>some (.ff d true n x y)
    |_,_=>Gj P d op t x y0
  |_,_=>none
 |.unOp .not _ x=>(aF x).map (.not d ·)
 |.unOp .neg _ x=>(aF x).map (.neg d ·)
 |.convert s t x=>match P.underlying s,P.underlying t,aF x with
  |some (.int _),some (.int k),some x=>some (.conv d k x)
  |some .string,some .string,some x=>some (.lV d x)
  |_,_,_=>none
 |.extract x i=>(aF x).map (.ext d · i)
 |.nilCheck x=>(aF x).map (.dg d ·)
 |.makeFunc fn first cap=>match pz first.toList,pz cap.toList with
  |some f,some c=>some (.eP d fn f c)
  |_,_=>none
 |.slice t x none (some hi) none=>match P.underlying t with
  |some (.slice e)=>match cA P e,aF x,aF hi with
   |some sz,some x,some hi=>some (if aG.muts.contains d then .o_ d x hi sz else .iX d x hi sz)
   |_,_,_=>none
  |_=>none
 |.slice t x none (some hi) (some mx)=>match P.underlying t with
  |some (.slice e)=>match cA P e,aF x,aF hi,aF mx with
   |some sz,some x,some hi,some mx=>some (.agc d x hi mx sz)
   |_,_,_,_=>none
  |_=>none
 |.slice t x (some lo) none none=>match P.underlying t with
  |some (.slice e)=>match cA P e,aF x,aF lo with
   |some sz,some x,some lo=>some (.kQ d x lo sz)
   |_,_,_=>none
  |some .string=>match aF x,aF lo with
   |some x,some lo=>some (.afZ d x lo)
   |_,_=>none
  |_=>none
 |.makeSlice t l c=>match P.underlying t with
  |some (.slice e)=>match P.info? e,aF l,aF c with
   |some i,some l,some c=>if js P e (look aG.zero d []) then some (.mkM d l c i.size i.bytes (look aG.zero d [])) else none
   |_,_,_=>none
  |_=>none
 |.call c=>match c.callee with
  |.builtin b=>if aG.muts.contains d then Ab P aG b d c.args.toList c.argTypes.toList else if aG.cl.contains d then Ac P b d c.args.toList c.argTypes.toList else Aa P b d c.args.toList c.argTypes.toList
  |.value (.func f)=>(fY P c.args.toList c.argTypes.toList).map fun ms=>if aG.cl.contains d then .afV d f ms else .call d f ms
  |.value (.tmp t)=>(fY P c.args.toList c.argTypes.toList).map (.gJ d (.t t) ·)
  |_=>none
 |_=>none
def agn(P:Program)(aG:cn)(N:Nat)(o:Oper):Option MOp:=
 match o.dst with
 |some d=>if d<N then Ae P aG d o.op o.type else none
 |none=>match o.op with
  |.store t x (.const (.slice none 0 0))=>match x with
   |.tmp k=>if cA P t=some 1∧look aG.aO k 0≠0 then some (.jV (.t k) (look aG.dr (1000000+k) 0) (look aG.aO k 0)) else none
   |_=>none
  |.store t x y=>match x,cA P t,aF y with
   |.tmp k,some n,some y=>if 0<n then (if aG.bG.contains k then some (.bp k y n) else some (.store (.t k) y n (look aG.aO k 0))) else none
   |_,_,_=>none
  |_=>none
def trG(P:Program)(aG:cn)(N:Nat)(ops:Array Oper)(o:Oper):Option MOp:=
 match o.guard with
 |none=>agn P aG N o
 |some (j,want)=>match (ops[j]?).bind (·.dst),agn P aG N o with
  |some g,some m=>if g<N then some (.guard g want o.dst m) else none
  |_,_=>none
section
variable {w:World} {A:aN} {sp:Sp}
theorem Af{v v':Value}(h:tA v v'=true):v=v'∧flat v=true:=by
 unfold tA at h
 split at h
 ·exact⟨by rw[eq_of_beq h],rfl⟩
 ·rw[Bool.and_eq_true] at h
  exact⟨by rw[eq_of_beq h.1,eq_of_beq h.2],rfl⟩
 ·rename_i a b
  cases a;cases b
  have h':=eq_of_beq h
  exact⟨by simp only at h';rw[h'],rfl⟩
 ·exact⟨rfl,rfl⟩
 ·exact⟨rfl,rfl⟩
 ·exact⟨rfl,rfl⟩
 ·exact⟨rfl,rfl⟩
 ·exact⟨rfl,rfl⟩
 ·cases h
theorem PM{x:AV}{v:Value}(h:z9 x v=true):RV w A x v∧x.bK=true∧x.erase=x:=by
 unfold z9 at h
 split at h
 ·obtain⟨rfl,hf⟩:=Af h
  exact⟨.lit _ hf,rfl,rfl⟩
 ·exact⟨.de _ _,rfl,rfl⟩
 ·cases h
theorem Gk:∀{xs:List AV} {vs:List Value},wQ xs vs=true→vs.length=xs.length∧(∀i,RV w A (xs.getD i .any) (vs.getD i undef))∧(∀x∈xs,x.bK=true∧x.erase=x)
 |[],[],_=>⟨rfl,fun _=>by simp;exact .any _,by simp⟩
 |x::xs,v::vs,h=>by
  simp only[wQ,Bool.and_eq_true] at h
  obtain⟨h1,h2⟩:=h
  have hx:=PM (w:=w) (A:=A) h1
  obtain⟨i1,i2,i3⟩:=Gk (xs:=xs) (vs:=vs) h2
  refine⟨by simp[i1],fun i=> ?_,?_⟩
  ·cases i with
   |zero=>simpa using hx.1
   |succ i=>simpa using i2 i
  ·intro y hy
   rcases List.mem_cons.1 hy with rfl|hy
   ·exact hx.2
   ·exact i3 y hy
 |[],_::_,h=>by cases h
 |_::_,[],h=>by cases h
theorem PN{x:AV}{v:Value}(h:z_ x v=true):RV w A x v∧aek sp x v:=by
 unfold z_ at h
 split at h
 ·obtain⟨rfl,hf⟩:=Af h
  exact⟨.lit _ hf,trivial⟩
 ·exact⟨.de _ _,trivial⟩
 ·cases h
theorem Gl:∀{xs:List AV} {vs:List Value},wR xs vs=true→vs.length=xs.length∧∀i,RV w A (xs.getD i .any) (vs.getD i undef)∧aek sp (xs.getD i .any) (vs.getD i undef)
 |[],[],_=>⟨rfl,fun _=>by simp;exact⟨.any _,trivial⟩⟩
 |x::xs,v::vs,h=>by
  simp only[wR,Bool.and_eq_true] at h
  have hx:=PN (w:=w) (A:=A) (sp:=sp) h.1
  obtain⟨i1,i2⟩:=Gl (xs:=xs) (vs:=vs) h.2
  refine⟨by simp[i1],fun i=> ?_⟩
  cases i with
  |zero=>simpa using hx
  |succ i=>simpa using i2 i
 |[],_::_,h=>by cases h
 |_::_,[],h=>by cases h
theorem Ag{v:Value}{x:AV}(h:age v=some x):RV w A x v∧aek sp x v:=by
 unfold age at h
 split at h<;>first|(injection h with h;subst h;first|exact⟨.de _ _,trivial⟩|exact⟨.lit _ rfl,trivial⟩)|cases h
theorem bl{N:Nat}{s:St}{a:Act}(hs:RS N s a w A sp){x:Operand}{m:ai}(h:aF x=some m):RV w A (m.ev s.env) (a.eval x)∧aek sp (m.ev s.env) (a.eval x):=by
 cases x with
 |tmp t=>injection h with h;subst h;exact hs.env t
 |const v=>
  simp only[aF,Option.map_eq_some_iff] at h
  obtain⟨y,hy,rfl⟩:=h
  exact Ag hy
 |global g=>cases h
 |func f=>
  injection h with h;subst h
  refine⟨.func _ _ _ _ _ rfl rfl (fun i=> ?_) (fun i=> ?_),trivial⟩<;>simp<;>exact .any _
theorem Ah{P:Program}{t:TypeId}{N:Nat}{s:St}{a:Act}(hs:RS N s a w A sp){x:Operand}{m:ai}(h:afD P t x=some m):RV w A (m.ev s.env) (a.eval x)∧aek sp (m.ev s.env) (a.eval x):=by
 unfold afD at h
 split at h
 ·split at h
  ·simp only[Option.map_eq_some_iff] at h
   obtain⟨n,_,rfl⟩:=h
   exact⟨.de _ _,trivial⟩
  ·exact bl hs h
 ·exact bl hs h
end
end Go.aq
namespace Go.aq
open Go.RowKit
section
variable {w:World} {A:aN} {sp:Sp}
theorem RV.aeo{k:IntKind}{n:Int}{v:Value}(h:RV w A (.lit (.int k n)) v):v=.int k n:=by cases h;rfl
theorem RV.afE{b:Bool}{v:Value}(h:RV w A (.lit (.bool b)) v):v=.bool b:=by cases h;rfl
theorem RV.tE{t:ByteArray}{v:Value}(h:RV w A (.lit (.string t)) v):v=.string t:=by cases h;rfl
theorem RV.part{xs:List AV}{vs:Array Value}(hs:vs.size=xs.length)(hr:∀i,RV w A (xs.getD i .any) (vs.getD i undef))(off n:Nat)(h:off+n≤xs.length):RV w A (.agg ((xs.drop off).take n)) (.agg (vs.extract off (off+n))):=by
 refine .agg _ _ (by simp;omega) fun i=> ?_
 by_cases hi:i<n
 ·have:=hr (off+i)
  simp only[List.getD_eq_getElem?_getD,Array.getD_eq_getD_getElem?,List.getElem?_take,hi,if_true,List.getElem?_drop,Array.getElem?_extract] at this⊢
  rw[if_pos (by omega)]
  exact this
 ·simp only[List.getD_eq_getElem?_getD,List.getElem?_take,hi,if_false,Option.getD_none]
  exact .any _
end
section
variable {P:Program} {N:Nat} {s:St} {a:Act} {w:World} {A:aN} {sp:Sp} {K:St→Prop} {next:Act→World→Prop} {Q:Exit→Act→World→Prop} {o:Oper} {d:Nat}
abbrev Next(s:St)(w:World)(A:aN)(sp:Sp)(N:Nat)(K:St→Prop)(next:Act→World→Prop):Prop:=∀s' a' w' A' sp',K s'→RS N s' a' w' A' sp'→Ev w A (live s.loc sp) w' A' (live s'.loc sp')→next a' w'
theorem PO{x:Operand}{m:ai}(hop:o.op=.move x)(hd:o.dst=some d)(hN:d<N)(hx:aF x=some m)(h:RS N s a w A sp)(hv:K (s.set d (m.ev s.env)))(hn:Next s w A sp N K next):o.wp P a w next Q:=fin h hd hN (by simp[execOp,hop]) (bl h hx).1 (bl h hx).2 hv hn
theorem PR{c x y:Operand}{mc mx my:ai}(hop:o.op=.pick c x y)(hd:o.dst=some d)(hN:d<N)(hc:aF c=some mc)(hx:aF x=some mx)(hy:aF y=some my)(h:RS N s a w A sp)(hv:vc1 P (.pick d mc mx my) s K)(hn:Next s w A sp N K next):o.wp P a w next Q:=by
 have h1:=(bl h hc).1
 simp only[vc1] at hv
 split at hv
 ·rename_i b hb
  rw[hb] at h1
  have pF:=h1.afE
  refine fin (x:=if b then mx.ev s.env else my.ev s.env) (v:=if b then a.eval x else a.eval y) h hd hN (by simp[execOp,hop,pF,asBool]) ?_ ?_ hv hn
  ·cases b
   ·exact(bl h hy).1
   ·exact(bl h hx).1
  ·cases b
   ·exact(bl h hy).2
   ·exact(bl h hx).2
 ·exact hv.elim
theorem Gm{t:TypeId}{n:Option Nat}(h:jX P t=some n)(w:World):(isAgg t).run P w=.ok n.isSome w∧(∃i,P.info? t=some i∧∀k,n=some k→i.size=k):=by
 unfold jX at h
 split at h
 ·rename_i dd i hu hi
  injection h with h
  unfold isAgg
  rw[Sem.run_bind,run_underlying hu w]
  refine⟨?_,i,hi,?_⟩
  ·cases dd<;>subst h<;>simp
  ·intro k hk;subst h;cases dd<;>simp at hk<;>exact hk
 ·cases h
theorem Addr.iB(b off i:Nat):(⟨b,off,none⟩:Addr).add i=⟨b,off+i,none⟩:=by unfold Addr.add;split<;>simp_all
theorem oc{t:TypeId}{n:Option Nat}(h:jX P t=some n)(w:World)(b off:Nat)(f:Nat→Value)
  (hc:∀i,i<n.getD 1→w.cell? ⟨b,off+i,none⟩=some (f i)):
  (loadVar t ⟨b,off,none⟩).run P w=.ok (match n with|none=>f 0|some k=>.agg ((Array.range k).map f)) w:=by
 obtain⟨h1,i,hi,hk⟩:=Gm h w
 unfold loadVar
 rw[Sem.run_bind,h1]
 cases n with
 |none=>
  have:=hc 0 (by simp)
  simp at this
  simp[run_load,this]
 |some k=>
  have hl:=run_loadCells (P:=P) w ⟨b,off,none⟩ k f (fun j hj=>by rw[Addr.iB];exact hc j (by simpa using hj))
  simp only[Sem.run_bind,sizeOf,typeInfo,Sem.run_pure,run_program,hi,hk k rfl,hl,Option.isSome,if_true,Result.andThen_ok]
  congr 2
  exact Array.ext' (by simp)
theorem PS{t:TypeId}{x:Operand}{m:ai}{n:Option Nat}(hop:o.op=.load t x)(hd:o.dst=some d)(hN:d<N)(hx:aF x=some m)(ht:jX P t=some n)(h:RS N s a w A sp)(hv:vc1 P (.load d m n) s K)(hn:Next s w A sp N K next):o.wp P a w next Q:=by
 have h1:=(bl h hx).1
 simp only[vc1,cJ] at hv
 split at hv
 ·rename_i cs hcs
  rw[hcs] at h1
  generalize bg:a.eval x=v0 at h1
  cases h1 with
  |ref _ b off vs hc hr=>
   cases n with
   |none=>
    simp only[cx] at hv
    refine fin (v:=vs 0) (x:=(cs.getD 0 .any).erase) h hd hN ?_ (hr 0).erase aek.erase hv.2 hn
    have:=oc ht w b off vs (fun i hi=>(hc i (by simp at hi;omega)).1)
    simp only[execOp,hop,bg,Instr.loadAt,Instr.sureAddr,Sem.run_bind,Sem.run_pure,Result.andThen_ok,this]
   |some k=>
    simp only[cx,Nat.zero_add,List.drop_zero] at hv
    have:=oc ht w b off vs (fun i hi=>(hc i (by simp at hi;omega)).1)
    refine fin (v:=.agg ((Array.range k).map vs)) (x:=(AV.agg (cs.take k)).erase.erase) h hd hN (by simp only[execOp,hop,bg,Instr.loadAt,Instr.sureAddr,Sem.run_bind,Sem.run_pure,Result.andThen_ok,this]) ?_ aek.erase hv.2 hn
    refine RV.erase (RV.erase (.agg _ _ (by simp;omega) fun i=> ?_))
    by_cases hi:i<k
    ·have:=hr i
     simp only[List.getD_eq_getElem?_getD,List.getElem?_take,hi,if_true,Array.getD_eq_getD_getElem?,Array.getElem?_map] at this⊢
     rw[Array.getElem?_eq_getElem (by simpa using hi)]
     simpa using this
    ·simp only[List.getD_eq_getElem?_getD,List.getElem?_take,hi,if_false,Option.getD_none]
     exact .any _
 ·rename_i b off hcs
  rw[hcs] at h1
  generalize bg:a.eval x=v0 at h1
  cases h1
  split at hv
  ·rename_i cs hb
   obtain⟨vs,T,hh,hsz,hr⟩:=h.loc b cs hb
   have hcell:∀i,off+i<cs.length→w.cell? ⟨b,off+i,none⟩=some (vs.getD (off+i) undef):=by
    intro i hi
    simp[World.cell?,hh,Array.getD_eq_getD_getElem?,Array.getElem?_eq_getElem (show off+i<vs.size by omega)]
   cases n with
   |none=>
    simp only[cx] at hv
    have:=oc ht w b off (fun i=>vs.getD (off+i) undef) (fun i hi=>hcell i (by simp at hi;omega))
    refine fin (v:=vs.getD off undef) (x:=cs.getD off .any) h hd hN ?_ (hr off).1 (hr off).2 hv.2 hn
    simp only[execOp,hop,bg,Instr.loadAt,Instr.sureAddr,Sem.run_bind,Sem.run_pure,Result.andThen_ok,this,Nat.add_zero]
   |some k=>
    simp only[cx] at hv
    have:=oc ht w b off (fun i=>vs.getD (off+i) undef) (fun i hi=>hcell i (by simp at hi;omega))
    refine fin (v:=.agg ((Array.range k).map fun i=>vs.getD (off+i) undef)) (x:=(AV.agg ((cs.drop off).take k)).erase) h hd hN (by simp only[execOp,hop,bg,Instr.loadAt,Instr.sureAddr,Sem.run_bind,Sem.run_pure,Result.andThen_ok,this]) ?_ aek.erase hv.2 hn
    refine RV.erase (.agg _ _ (by simp;omega) fun i=> ?_)
    by_cases hi:i<k
    ·have:=(hr (off+i)).1
     simp only[List.getD_eq_getElem?_getD,List.getElem?_take,hi,if_true,List.getElem?_drop,Array.getD_eq_getD_getElem?,Array.getElem?_map] at this⊢
     rw[Array.getElem?_eq_getElem (by simpa using hi)]
     simpa using this
    ·simp only[List.getD_eq_getElem?_getD,List.getElem?_take,hi,if_false,Option.getD_none]
     exact .any _
  ·exact hv.elim
 ·exact hv.elim
theorem RV.Gn{cs:List AV}{b off:Nat}(k:Nat)(h:RV w A (.ref cs) (.pointer (some ⟨b,off,none⟩))):RV w A (.ref (cs.drop k)) (.pointer (some ⟨b,off+k,none⟩)):=by
 cases h with
 |ref _ _ _ vs hc hr=>
  refine .ref _ _ _ (fun i=>vs (k+i)) (fun i hi=> ?_) (fun i=> ?_)
  ·simp at hi
   rw[Nat.add_assoc]
   exact hc (k+i) (by omega)
  ·have:=hr (k+i)
   simpa[List.getD_eq_getElem?_getD] using this
theorem PT{t:TypeId}{x:Operand}{m:ai}{f:Nat}{fs:Array Field}{fd:Field}{n:Nat}(hop:o.op=.fieldAddr t x f)(hd:o.dst=some d)(hN:d<N)(hx:aF x=some m)
  (ht:P.underlying t=some (.struct fs))(hf:fs[f]? =some fd)(hz:cA P fd.type=some n)(pG:n≠0)
  (h:RS N s a w A sp)(hv:vc1 P (.addr d m fd.offset) s K)(hn:Next s w A sp N K next):o.wp P a w next Q:=by
 have h1:=(bl h hx).1
 simp only[cA,Option.map_eq_some_iff] at hz
 obtain⟨i,hi,rfl⟩:=hz
 have hrun:∀b off,(Instr.fieldAt t (.pointer (some ⟨b,off,none⟩)) f).run P w=.ok (.pointer (some ⟨b,off+fd.offset,none⟩)) w:=by
  intro b off
  simp[Instr.fieldAt,run_underlying ht,hf,Instr.sureAddr,fieldPlace,sizeOf,typeInfo,hi,pG,Addr.iB]
 simp only[vc1] at hv
 split at hv
 ·rename_i cs hcs
  rw[hcs] at h1
  generalize bg:a.eval x=v0 at h1
  cases h1 with
  |ref _ b off vs hc hr=>
   exact fin h hd hN (by simp only[execOp,hop,bg,Sem.run_bind,hrun,Result.andThen_ok,Sem.run_pure]) (RV.Gn fd.offset (.ref _ b off vs hc hr)) trivial hv hn
 ·rename_i b off hcs
  rw[hcs] at h1
  generalize bg:a.eval x=v0 at h1
  cases h1
  exact fin h hd hN (by simp only[execOp,hop,bg,Sem.run_bind,hrun,Result.andThen_ok,Sem.run_pure]) (.au _ _) trivial hv hn
 ·exact hv.elim
theorem tF{α β:Type}(f:α→List β)(sz:Nat):∀(xs:List α) (i:Nat),(∀x∈xs,(f x).length=sz)→i<xs.length→∀j z x0,j<sz→(xs.flatMap f).getD (i*sz+j) z=((f (xs.getD i x0)).getD j z)
 |[],i,_,hi=>by simp at hi
 |x::xs,0,h,_=>by
  intro j z x0 hj
  have hx:=h x (by simp)
  simp only[List.flatMap_cons,List.getD_eq_getElem?_getD,Nat.zero_mul,Nat.zero_add,List.getElem?_cons_zero,Option.getD_some]
  rw[List.getElem?_append_left (by omega)]
 |x::xs,i+1,h,hi=>by
  intro j z x0 hj
  have hx:=h x (by simp)
  have ih:=tF f sz xs i (fun y hy=>h y (by simp[hy])) (by simpa using hi) j z x0 hj
  have e:(i+1)*sz+j=(f x).length+(i*sz+j):=by rw[hx,Nat.add_mul];omega
  simp only[List.flatMap_cons,List.getD_eq_getElem?_getD,List.getElem?_cons_succ,e] at ih⊢
  rw[List.getElem?_append_right (by omega),Nat.add_sub_cancel_left]
  exact ih
theorem RV.elem{sz:Nat}{xs:List AV}{own b off cap len:Nat}(h:RV w A (.slice sz xs own) (.slice (some ⟨b,off,none⟩) len cap))(i:Nat)(hi:i<xs.length):RV w A (.ref (xs.getD i .any).cells) (.pointer (some ⟨b,off+i*sz,none⟩)):=by
 cases h with
 |slice _ _ _ _ _ _ vs hsz h1c hcap hlen hc hr=>
  have hx:(xs.getD i .any).cells.length=sz:=by
   rw[List.getD_eq_getElem?_getD,List.getElem?_eq_getElem hi]
   exact hsz _ (by simp)
  have hb:(i+1)*sz≤xs.length*sz:=Nat.mul_le_mul_right _ hi
  rw[Nat.add_mul,Nat.one_mul] at hb
  refine .ref _ _ _ (fun j=>vs (i*sz+j)) (fun j hj=> ?_) (fun j=> ?_)
  ·rw[Nat.add_assoc];exact hc _ (by omega)
  ·by_cases hj:j<sz
   ·have:=hr (i*sz+j)
    rw[tF AV.cells sz xs i hsz hi j .any .any hj] at this
    exact this
   ·rw[List.getD_eq_getElem?_getD,List.getElem?_eq_none (by omega)]
    exact .any _
theorem PU{t e:TypeId}{x i:Operand}{m mi:ai}{sz:Nat}(hop:o.op=.indexAddr t x i)(hd:o.dst=some d)(hN:d<N)(hx:aF x=some m)(hi:aF i=some mi)
  (ht:P.underlying t=some (.slice e))(hz:cA P e=some sz)
  (h:RS N s a w A sp)(hv:vc1 P (.aK d m mi sz) s K)(hn:Next s w A sp N K next):o.wp P a w next Q:=by
 have h1:=(bl h hx).1
 have h2:=(bl h hi).1
 simp only[cA,Option.map_eq_some_iff] at hz
 obtain⟨inf,eA,rfl⟩:=hz
 simp only[vc1] at hv
 split at hv
 ·rename_i sz' xs own k n hxs hint
  obtain⟨rfl,h0,hl,hK⟩:=hv
  rw[hxs] at h1;rw[hint] at h2
  have e2:=h2.aeo
  generalize bg:a.eval x=v0 at h1
  have hx':=h1
  cases h1 with
  |de=>simp at hl;omega
  |slice _ _ _ b off cap vs hsz h1c hcap hlen hc hr=>
   have hnn:n.toNat<xs.length:=by omega
   refine fin h hd hN (v:=.pointer (some ⟨b,off+n.toNat*inf.size,none⟩)) ?_ (hx'.elem n.toNat hnn) trivial hK hn
   simp[execOp,hop,bg,e2,Instr.indexAt,asIntOf,run_underlying ht,h0,hl,sizeOf,typeInfo,eA,Addr.iB]
 ·rename_i b off len cap sz' k n hxs hint
  obtain⟨rfl,h0,hl,hK⟩:=hv
  rw[hxs] at h1;rw[hint] at h2
  have e2:=h2.aeo
  generalize bg:a.eval x=v0 at h1
  cases h1
  refine fin h hd hN (v:=.pointer (some ⟨b,off+n.toNat*inf.size,none⟩)) ?_ (.au _ _) trivial hK hn
  simp[execOp,hop,bg,e2,Instr.indexAt,asIntOf,run_underlying ht,h0,hl,sizeOf,typeInfo,eA,Addr.iB]
 ·exact hv.elim
theorem PV{t e:TypeId}{x i:Operand}{m mi:ai}{len sz:Nat}(hop:o.op=.indexAddr t x i)(hd:o.dst=some d)(hN:d<N)(hx:aF x=some m)(hi:aF i=some mi)
  (ht:P.underlying t=some (.array len e))(hz:cA P e=some sz)
  (h:RS N s a w A sp)(hv:vc1 P (.cw d m mi len sz) s K)(hn:Next s w A sp N K next):o.wp P a w next Q:=by
 have h1:=(bl h hx).1
 have h2:=(bl h hi).1
 simp only[cA,Option.map_eq_some_iff] at hz
 obtain⟨inf,eA,rfl⟩:=hz
 simp only[vc1] at hv
 split at hv
 ·rename_i cs k n hxs hint
  obtain⟨h0,hl,hK⟩:=hv
  rw[hxs] at h1;rw[hint] at h2
  have e2:=h2.aeo
  generalize bg:a.eval x=v0 at h1
  cases h1 with
  |ref _ b off vs hc hr=>
   refine fin h hd hN (v:=.pointer (some ⟨b,off+n.toNat*inf.size,none⟩)) ?_ (RV.Gn (n.toNat*inf.size) (.ref _ b off vs hc hr)) trivial hK hn
   simp[execOp,hop,bg,e2,Instr.indexAt,asIntOf,run_underlying ht,h0,hl,Instr.sureAddr,sizeOf,typeInfo,eA,Addr.iB]
 ·rename_i b off k n hxs hint
  obtain⟨h0,hl,hK⟩:=hv
  rw[hxs] at h1;rw[hint] at h2
  have e2:=h2.aeo
  generalize bg:a.eval x=v0 at h1
  cases h1
  refine fin h hd hN (v:=.pointer (some ⟨b,off+n.toNat*inf.size,none⟩)) ?_ (.au _ _) trivial hK hn
  simp[execOp,hop,bg,e2,Instr.indexAt,asIntOf,run_underlying ht,h0,hl,Instr.sureAddr,sizeOf,typeInfo,eA,Addr.iB]
 ·exact hv.elim
theorem Gp{t:TypeId}{cs:List AV}{vs:Array Value}{off:Nat}{n:Option Nat}{k:AV→Prop}(ht:jX P t=some n)
  (hs:vs.size=cs.length)(hr:∀i,RV w A (cs.getD i .any) (vs.getD i undef))(hv:cx cs off n k):
  ∃x v,(part t vs off).run P w=.ok v w∧RV w A x v∧k x:=by
 obtain⟨h1,i,hi,hk⟩:=Gm ht w
 cases n with
 |none=>
  simp only[cx] at hv
  refine⟨_,vs.getD off undef,?_,hr off,hv.2⟩
  have:vs[off]? =some (vs.getD off undef):=by rw[Array.getD_eq_getD_getElem?,Array.getElem?_eq_getElem (by omega)];rfl
  generalize vs.getD off undef=v at this
  simp[part,Sem.run_bind,h1,this]
 |some m=>
  simp only[cx] at hv
  exact⟨_,.agg (vs.extract off (off+m)),by simp[part,Sem.run_bind,h1,sizeOf,typeInfo,hi,hk m rfl],(RV.part hs hr off m hv.1).erase,hv.2⟩
theorem PW{t:TypeId}{x:Operand}{m:ai}{f:Nat}{fs:Array Field}{fd:Field}{n:Option Nat}(hop:o.op=.field t x f)(hd:o.dst=some d)(hN:d<N)(hx:aF x=some m)
  (ht:P.underlying t=some (.struct fs))(hf:fs[f]? =some fd)(hz:jX P fd.type=some n)
  (h:RS N s a w A sp)(hv:vc1 P (.iW d m fd.offset n) s K)(hn:Next s w A sp N K next):o.wp P a w next Q:=by
 have h1:=(bl h hx).1
 simp only[vc1] at hv
 split at hv
 ·rename_i cs hcs
  rw[hcs] at h1
  generalize bg:a.eval x=v0 at h1
  cases h1 with
  |agg _ vs hs hr=>
   obtain⟨y,v,hrun,hy,hK⟩:=Gp hz hs hr hv
   exact fin h hd hN (by simp[execOp,hop,bg,Instr.field,run_underlying ht,hf,asAgg,hrun]) hy.erase .erase hK hn
 ·exact hv.elim
theorem PX{t e:TypeId}{x i:Operand}{m mi:ai}{len sz:Nat}{n:Option Nat}(hop:o.op=.index t x i)(hd:o.dst=some d)(hN:d<N)(hx:aF x=some m)(hi:aF i=some mi)
  (ht:P.underlying t=some (.array len e))(hz:cA P e=some sz)(hp:jX P e=some n)
  (h:RS N s a w A sp)(hv:vc1 P (.iu d m mi len sz n) s K)(hn:Next s w A sp N K next):o.wp P a w next Q:=by
 have h1:=(bl h hx).1
 have h2:=(bl h hi).1
 simp only[cA,Option.map_eq_some_iff] at hz
 obtain⟨inf,eA,rfl⟩:=hz
 simp only[vc1] at hv
 split at hv
 ·rename_i cs k j hcs hint
  obtain⟨h0,hl,hv⟩:=hv
  rw[hcs] at h1;rw[hint] at h2
  have e2:=h2.aeo
  generalize bg:a.eval x=v0 at h1
  cases h1 with
  |agg _ vs hs hr=>
   obtain⟨y,v,hrun,hy,hK⟩:=Gp hp hs hr hv
   exact fin h hd hN (by simp[execOp,hop,bg,e2,Instr.index,asIntOf,run_underlying ht,h0,hl,sizeOf,typeInfo,eA,hrun]) hy.erase .erase hK hn
 ·exact hv.elim
theorem PY{t:TypeId}{x i:Operand}{m mi:ai}(hop:o.op=.index t x i)(hd:o.dst=some d)(hN:d<N)(hx:aF x=some m)(hi:aF i=some mi)
  (ht:P.underlying t=some .string)
  (h:RS N s a w A sp)(hv:vc1 P (.dF d m mi) s K)(hn:Next s w A sp N K next):o.wp P a w next Q:=by
 have h1:=(bl h hx).1
 have h2:=(bl h hi).1
 simp only[vc1] at hv
 split at hv
 ·rename_i st k j hcs hint
  obtain⟨h0,hl,hv⟩:=hv
  rw[hcs] at h1;rw[hint] at h2
  have e1:=h1.tE
  have e2:=h2.aeo
  have hb:st[j.toNat]? =some (st.data.toList.getD j.toNat 0):=by
   have hlt:j.toNat<st.size:=by omega
   rw[getElem?_pos st j.toNat hlt]
   congr 1
   rw[List.getD_eq_getElem?_getD,List.getElem?_eq_getElem (by simpa using hlt)]
   rfl
  have hrun:(Instr.index t (.string st) (.int k j)).run P w=.ok (.int .u8 (st.data.toList.getD j.toNat 0).toNat) w:=by
   generalize st.data.toList.getD j.toNat 0=c at hb
   unfold Instr.index
   simp only[asIntOf,Sem.run_bind,Sem.run_pure,Result.andThen_ok,run_underlying ht,if_pos h0,hb]
  exact fin (v:=.int .u8 (st.data.toList.getD j.toNat 0).toNat) h hd hN (by simp only[execOp,hop,e1,e2,Sem.run_bind,hrun,Result.andThen_ok,Sem.run_pure]) (.lit _ rfl) trivial hv hn
 ·exact hv.elim
end
end Go.aq
namespace Go.aq
open Go.RowKit
section
variable {P:Program} {N:Nat} {s:St} {a:Act} {w:World} {A:aN} {sp:Sp} {K:St→Prop} {next:Act→World→Prop} {Q:Exit→Act→World→Prop} {o:Oper} {d:Nat}
theorem PZ{op:BinOp}{k:IntKind}{p q:Int}{f:AV→Prop}(hsh:op≠.shl∧op≠.shr)(t:TypeId)(h:aeF op k p q f):∃v,(binOp op t (.int k p) (.int k q)).run P w=.ok v w∧flat v=true∧f (.lit v):=by
 cases op with
 |shl=>exact absurd rfl hsh.1
 |shr=>exact absurd rfl hsh.2
 |add=>exact⟨.int k (p+q),by simp[binOp,Op.intArith,tu h.1],rfl,h.2⟩
 |sub=>exact⟨.int k (p - q),by simp[binOp,Op.intArith,tu h.1],rfl,h.2⟩
 |mul=>exact⟨.int k (p*q),by simp[binOp,Op.intArith,tu h.1],rfl,h.2⟩
 |quo=>exact⟨.int k (p.tdiv q),by simp[binOp,Op.intDiv,h.1,tu h.2.1],rfl,h.2.2⟩
 |rem=>exact⟨.int k (p.tmod q),by simp[binOp,Op.intDiv,h.1],rfl,h.2⟩
 |and=>exact⟨.int k (cP .and k p q),by simp only[binOp,ne_eq,not_true,if_false];rfl,rfl,h⟩
 |or=>exact⟨.int k (cP .or k p q),by simp only[binOp,ne_eq,not_true,if_false];rfl,rfl,h⟩
 |xor=>exact⟨.int k (cP .xor k p q),by simp only[binOp,ne_eq,not_true,if_false];rfl,rfl,h⟩
 |andNot=>exact⟨.int k (cP .andNot k p q),by simp only[binOp,ne_eq,not_true,if_false];rfl,rfl,h⟩
 |eql=>exact⟨.bool (p==q),by simp[binOp,Op.intCmp],rfl,h⟩
 |neq=>exact⟨.bool (p != q),by simp[binOp,Op.intCmp],rfl,h⟩
 |lss=>exact⟨.bool (decide (p<q)),by simp[binOp,Op.intCmp],rfl,h⟩
 |leq=>exact⟨.bool (decide (p≤q)),by simp[binOp,Op.intCmp],rfl,h⟩
 |gtr=>exact⟨.bool (decide (p>q)),by simp[binOp,Op.intCmp],rfl,h⟩
 |geq=>exact⟨.bool (decide (p≥q)),by simp[binOp,Op.intCmp],rfl,h⟩
theorem Gq{op:BinOp}{k k':IntKind}{p q:Int}{f:AV→Prop}(t:TypeId)(h:pg op k p q f):∃v,(binOp op t (.int k p) (.int k' q)).run P w=.ok v w∧flat v=true∧f (.lit v):=by
 cases op with
 |shl=>exact⟨.int k (k.wrap (p*2^(min q.toNat k.bits))),by simp[binOp,Op.shift,Int.not_lt.2 h.1],rfl,h.2⟩
 |shr=>exact⟨.int k (p.fdiv (2^(min q.toNat k.bits))),by simp[binOp,Op.shift,Int.not_lt.2 h.1],rfl,h.2⟩
 |_=>exact h.elim
theorem P0{op:BinOp}{p q:ByteArray}{f:AV→Prop}(t:TypeId)(h:lZ op p q f):∃v,(binOp op t (.string p) (.string q)).run P w=.ok v w∧flat v=true∧f (.lit v):=by
 cases op with
 |eql=>exact⟨.bool (p.toList==q.toList),rfl,rfl,h⟩
 |neq=>exact⟨.bool (!(p.toList==q.toList)),rfl,rfl,h⟩
 |lss=>exact⟨.bool (Op.bytesLess p.toList q.toList),rfl,rfl,h⟩
 |leq=>exact⟨.bool (Op.bytesLess p.toList q.toList||p.toList==q.toList),rfl,rfl,h⟩
 |gtr=>exact⟨.bool (!(Op.bytesLess p.toList q.toList||p.toList==q.toList)),rfl,rfl,h⟩
 |geq=>exact⟨.bool (!Op.bytesLess p.toList q.toList),rfl,rfl,h⟩
 |_=>exact h.elim
theorem Ai{op:BinOp}{t:TypeId}{x y:Operand}{p q:Value}(h1:flat p=true)(h2:flat q=true)(h3:p≠.nilIface):(eqGuard op t x y p q).run P w=.ok () w:=by
 unfold eqGuard
 cases op<;>first
  |rfl
  |(cases p<;>cases q<;>first|(cases h1;done)|(cases h2;done)|exact absurd rfl h3|rfl)
theorem P1{op:BinOp}{x y:AV}{p q:Value}{f:AV→Prop}(t:TypeId)(ox oy:Operand)(hx:RV w A x p)(hy:RV w A y q)(h:cU op x y f):∃v,(do eqGuard op t ox oy p q;binOp op t p q:Sem Value).run P w=.ok v w∧flat v=true∧f (.lit v):=by
 unfold cU at h
 split at h
 ·have e1:=hx.aeo;have e2:=hy.aeo
  subst e1;subst e2
  simp only[Sem.run_bind,Ai (P:=P) (w:=w) (op:=op) (t:=t) (x:=ox) (y:=oy) (p:=.int _ _) (q:=.int _ _) rfl rfl (by simp),Result.andThen_ok]
  split at h
  ·exact Gq t h
  ·exact Gq t h
  ·rename_i n1 n2
   obtain⟨rfl,h⟩:=h
   exact PZ ⟨n1,n2⟩ t h
 ·have e1:=hx.tE;have e2:=hy.tE
  subst e1;subst e2
  simp only[Sem.run_bind,Ai (P:=P) (w:=w) (op:=op) (t:=t) (x:=ox) (y:=oy) (p:=.string _) (q:=.string _) rfl rfl (by simp),Result.andThen_ok]
  exact P0 t h
 ·exact h.elim
theorem Gr{t t':TypeId}{op:BinOp}{x y:Operand}{mx my:ai}(hop:o.op=.binOp op t x y t')(hd:o.dst=some d)(hN:d<N)(hx:aF x=some mx)(hy:aF y=some my)(h:RS N s a w A sp)(hv:vc1 P (.bin d op mx my) s K)(hn:Next s w A sp N K next):o.wp P a w next Q:=by
 have h1:=(bl h hx).1
 have h2:=(bl h hy).1
 simp only[vc1] at hv
 obtain⟨v,hrun,hf,hK⟩:=P1 (P:=P) t x y h1 h2 hv
 refine fin h hd hN ?_ (.lit v hf) (.qV (by intro _ _ _ h;cases h)) hK hn
 simp only[Sem.run_bind] at hrun
 simp only[execOp,hop,Sem.run_bind,hrun,Result.andThen_ok,Sem.run_pure]
theorem P2(t:TypeId)(ht:P.underlying t=some .bool)(p q:Bool):(Op.equal t (.bool p) (.bool q)).run P w=.ok (p==q) w:=by
 show(Op.equalIn (9999+1) t _ _).run P w=_
 unfold Op.equalIn
 simp only[Sem.run_bind,run_underlying ht,Result.andThen_ok,Sem.run_pure]
theorem Gs{t t':TypeId}{op:BinOp}{neg:Bool}{x y:Operand}{mx my:ai}(hop:o.op=.binOp op t x y t')(hneg:op=(if neg then .neq else .eql))(hd:o.dst=some d)(hN:d<N)(hx:aF x=some mx)(hy:aF y=some my)
  (ht:P.underlying t=some .bool)
  (h:RS N s a w A sp)(hv:vc1 P (.iw d neg mx my) s K)(hn:Next s w A sp N K next):o.wp P a w next Q:=by
 have h1:=(bl h hx).1
 have h2:=(bl h hy).1
 simp only[vc1] at hv
 split at hv
 ·rename_i p q e1 e2
  rw[e1] at h1;rw[e2] at h2
  have v1:=h1.afE;have v2:=h2.afE
  refine fin h hd hN ?_ (.lit _ rfl) trivial hv hn
  subst hneg
  have hg:=fun op=>Ai (P:=P) (w:=w) (op:=op) (t:=t) (x:=x) (y:=y) (p:=.bool p) (q:=.bool q) rfl rfl (by simp)
  cases neg<;>simp[execOp,hop,v1,v2,hg,binOp,P2 t ht]
 ·exact hv.elim
theorem Gt{t t' e:TypeId}{op:BinOp}{neg:Bool}{x:Operand}{mx:ai}(hop:o.op=.binOp op t x (.const (.slice none 0 0)) t')(hneg:op=(if neg then .neq else .eql))(hd:o.dst=some d)(hN:d<N)(hx:aF x=some mx)
  (ht:P.underlying t=some (.slice e))
  (h:RS N s a w A sp)(hv:vc1 P (.isNil d neg mx) s K)(hn:Next s w A sp N K next):o.wp P a w next Q:=by
 have h1:=(bl h hx).1
 have v2:a.eval (.const (.slice none 0 0))=.slice none 0 0:=rfl
 have goal:∀(b:Option Addr) (l c:Nat),a.eval x=.slice b l c→K (s.set d (.lit (.bool (if neg then !b.isNone else b.isNone))))→o.wp P a w next Q:=by
  intro b l c hb hK
  refine fin h hd hN ?_ (.lit _ rfl) trivial hK hn
  subst hneg
  have he:(Op.equal t (.slice b l c) (.slice none 0 0)).run P w=.ok b.isNone w:=by
   show(Op.equalIn (9999+1) t _ _).run P w=_
   unfold Op.equalIn
   simp only[Sem.run_bind,run_underlying ht,Result.andThen_ok]
   cases b<;>rfl
  have hg:∀op,(eqGuard op t x (.const (.slice none 0 0)) (.slice b l c) (.slice none 0 0)).run P w=.ok () w:=fun op=>by
   unfold eqGuard
   cases op<;>rfl
  cases neg
  ·simp only[execOp,hop,hb,v2,Sem.run_bind,hg,Result.andThen_ok,binOp,he,Sem.run_pure,if_false,Bool.false_eq_true]
  ·simp only[execOp,hop,hb,v2,Sem.run_bind,hg,Result.andThen_ok,binOp,he,Sem.run_pure,if_true]
 simp only[vc1] at hv
 split at hv
 ·rename_i e1
  rw[e1] at h1
  generalize bg:a.eval x=v0 at h1
  cases h1 with
  |de=>exact goal none 0 0 bg (by have:=hv.1 rfl;cases neg<;>exact this)
  |slice=>exact goal (some _) _ _ bg (by have:=hv.2;cases neg<;>exact this)
 ·rename_i e1
  rw[e1] at h1
  generalize bg:a.eval x=v0 at h1
  cases h1
  exact goal (some _) _ _ bg (by cases neg<;>exact hv)
 ·exact hv.elim
theorem P3{t:TypeId}{x:Operand}{mx:ai}(hop:o.op=.unOp .not t x)(hd:o.dst=some d)(hN:d<N)(hx:aF x=some mx)(h:RS N s a w A sp)(hv:vc1 P (.not d mx) s K)(hn:Next s w A sp N K next):o.wp P a w next Q:=by
 have h1:=(bl h hx).1
 simp only[vc1] at hv
 split at hv
 ·rename_i p e1
  rw[e1] at h1
  exact fin h hd hN (by simp[execOp,hop,h1.afE,Op.unary]) (.lit _ rfl) trivial hv hn
 ·exact hv.elim
theorem P4{t:TypeId}{x:Operand}{mx:ai}(hop:o.op=.unOp .neg t x)(hd:o.dst=some d)(hN:d<N)(hx:aF x=some mx)(h:RS N s a w A sp)(hv:vc1 P (.neg d mx) s K)(hn:Next s w A sp N K next):o.wp P a w next Q:=by
 have h1:=(bl h hx).1
 simp only[vc1] at hv
 split at hv
 ·rename_i k p e1
  rw[e1] at h1
  exact fin (v:=.int k (0 - p)) h hd hN (by simp only[execOp,hop,h1.aeo,Op.unary,Op.intArith,tu hv.1];rfl) (.lit _ rfl) trivial hv.2 hn
 ·exact hv.elim
theorem P5{ts td:TypeId}{k k':IntKind}{x:Operand}{mx:ai}(hop:o.op=.convert ts td x)(hd:o.dst=some d)(hN:d<N)(hx:aF x=some mx)
  (hs:P.underlying ts=some (.int k'))(ht:P.underlying td=some (.int k))
  (h:RS N s a w A sp)(hv:vc1 P (.conv d k mx) s K)(hn:Next s w A sp N K next):o.wp P a w next Q:=by
 have h1:=(bl h hx).1
 simp only[vc1] at hv
 split at hv
 ·rename_i q p e1
  rw[e1] at h1
  exact fin (v:=.int k (k.wrap p)) h hd hN (by simp[execOp,hop,h1.aeo,convert,run_underlying hs,run_underlying ht,Conv.intToInt]) (.lit _ rfl) trivial hv hn
 ·exact hv.elim
theorem P6{x:Operand}{mx:ai}{i:Nat}(hop:o.op=.extract x i)(hd:o.dst=some d)(hN:d<N)(hx:aF x=some mx)(h:RS N s a w A sp)(hv:vc1 P (.ext d mx i) s K)(hn:Next s w A sp N K next):o.wp P a w next Q:=by
 have h1:=(bl h hx).1
 simp only[vc1] at hv
 split at hv
 ·rename_i xs e1
  rw[e1] at h1
  generalize bg:a.eval x=v0 at h1
  cases h1 with
  |tuple _ vs hs hr=>
   have:vs[i]? =some (vs.getD i undef):=by rw[Array.getD_eq_getD_getElem?,Array.getElem?_eq_getElem (by omega)];rfl
   have hrun:(Instr.extract (.tuple vs) i).run P w=.ok (vs.getD i undef) w:=by
    generalize vs.getD i undef=v at this
    simp[Instr.extract,this]
   exact fin (v:=vs.getD i undef) h hd hN (by simp only[execOp,hop,bg,Sem.run_bind,hrun,Result.andThen_ok,Sem.run_pure]) (hr i).erase .erase hv.2 hn
 ·exact hv.elim
theorem P7{x:Operand}{mx:ai}{t e:TypeId}(hop:o.op=.call {callee:=.builtin .len,args:= #[x],argTypes:= #[t]})(hd:o.dst=some d)(hN:d<N)(hx:aF x=some mx)
  (ht:P.underlying t=some (.slice e))
  (h:RS N s a w A sp)(hv:vc1 P (.len d mx) s K)(hn:Next s w A sp N K next):o.wp P a w next Q:=by
 have h1:=(bl h hx).1
 simp only[vc1] at hv
 split at hv
 ·rename_i sz xs own e1
  rw[e1] at h1
  generalize bg:a.eval x=v0 at h1
  cases h1 with
  |de=>exact fin (v:=.int .i64 0) h hd hN (by simp[execOp,hop,resolve,invoke,builtin,bg,Builtin.len_,run_underlying ht,goInt]) (.lit _ rfl) trivial hv hn
  |slice _ _ _ b off cap vs hsz h1c hcap hlen hc hr=>
   exact fin (v:=.int .i64 xs.length) h hd hN (by simp[execOp,hop,resolve,invoke,builtin,bg,Builtin.len_,run_underlying ht,goInt]) (.lit _ rfl) trivial hv hn
 ·rename_i b off len cap sz e1
  rw[e1] at h1
  generalize bg:a.eval x=v0 at h1
  cases h1
  exact fin (v:=.int .i64 len) h hd hN (by simp[execOp,hop,resolve,invoke,builtin,bg,Builtin.len_,run_underlying ht,goInt]) (.lit _ rfl) trivial hv hn
 ·exact hv.elim
theorem P8{x:Operand}{mx:ai}{t:TypeId}(hop:o.op=.call {callee:=.builtin .len,args:= #[x],argTypes:= #[t]})(hd:o.dst=some d)(hN:d<N)(hx:aF x=some mx)
  (ht:P.underlying t=some .string)
  (h:RS N s a w A sp)(hv:vc1 P (.aez d mx) s K)(hn:Next s w A sp N K next):o.wp P a w next Q:=by
 have h1:=(bl h hx).1
 simp only[vc1] at hv
 split at hv
 ·rename_i st e1
  rw[e1] at h1
  exact fin (v:=.int .i64 st.size) h hd hN (by simp[execOp,hop,resolve,invoke,builtin,h1.tE,Builtin.len_,run_underlying ht,goInt]) (.lit _ rfl) trivial hv hn
 ·exact hv.elim
theorem Gu{x:Operand}{t e:TypeId}{n:Nat}(hop:o.op=.call {callee:=.builtin .len,args:= #[x],argTypes:= #[t]})(hd:o.dst=some d)(hN:d<N)
  (ht:P.underlying t=some (.array n e)∨∃t',P.underlying t=some (.pointer t')∧P.underlying t'=some (.array n e))
  (h:RS N s a w A sp)(hv:vc1 P (.kP d n) s K)(hn:Next s w A sp N K next):o.wp P a w next Q:=by
 refine fin (v:=.int .i64 n) h hd hN ?_ (.lit _ rfl) trivial hv hn
 have:(Builtin.len_ #[t] o.type #[a.eval x]).run P w=.ok (.int .i64 n) w:=by
  rcases ht with ht|⟨t',ht,ht'⟩
  ·unfold Builtin.len_
   simp only[List.getElem?_toArray,List.getElem?_cons_zero,Sem.run_bind,run_underlying ht,Result.andThen_ok]
   cases a.eval x<;>rfl
  ·unfold Builtin.len_
   simp only[List.getElem?_toArray,List.getElem?_cons_zero,Sem.run_bind,run_underlying ht,Result.andThen_ok]
   cases a.eval x<;>simp[run_underlying ht',goInt]
 simp[execOp,hop,resolve,invoke,builtin,this]
theorem P9{x y:Operand}{mx my:ai}{ts:Array TypeId}(hop:o.op=.call {callee:=.builtin .max,args:= #[x,y],argTypes:=ts})(hd:o.dst=some d)(hN:d<N)(hx:aF x=some mx)(hy:aF y=some my)(h:RS N s a w A sp)(hv:vc1 P (.aeU d mx my) s K)(hn:Next s w A sp N K next):o.wp P a w next Q:=by
 have h1:=(bl h hx).1
 have h2:=(bl h hy).1
 simp only[vc1] at hv
 split at hv
 ·rename_i k p k' q e1 e2
  rw[e1] at h1;rw[e2] at h2
  exact fin (v:=.int k (if q>p then q else p)) h hd hN (by simp[execOp,hop,resolve,invoke,builtin,h1.aeo,h2.aeo,Builtin.max_,Builtin.max2]) (.lit _ rfl) trivial hv hn
 ·exact hv.elim
theorem P_{x y:Operand}{mx my:ai}{ts:Array TypeId}(hop:o.op=.call {callee:=.builtin .min,args:= #[x,y],argTypes:=ts})(hd:o.dst=some d)(hN:d<N)(hx:aF x=some mx)(hy:aF y=some my)(h:RS N s a w A sp)(hv:vc1 P (.iz d mx my) s K)(hn:Next s w A sp N K next):o.wp P a w next Q:=by
 have h1:=(bl h hx).1
 have h2:=(bl h hy).1
 simp only[vc1] at hv
 split at hv
 ·rename_i k p k' q e1 e2
  rw[e1] at h1;rw[e2] at h2
  exact fin (v:=.int k (if q<p then q else p)) h hd hN (by simp[execOp,hop,resolve,invoke,builtin,h1.aeo,h2.aeo,Builtin.min_,Builtin.min2]) (.lit _ rfl) trivial hv hn
 ·exact hv.elim
theorem Aj(h:RS N s a w A sp):∀{xs:List Operand} {ms:List ai},pz xs=some ms→ms.length=xs.length∧∀i,RV w A (((ms.map fun x=>(x.ev s.env).erase)).getD i .any) ((xs.map a.eval).getD i undef)
 |[],ms,hm=>by injection hm with hm;subst hm;exact⟨rfl,fun i=>by simp;exact .any _⟩
 |x::xs,ms,hm=>by
  simp only[pz] at hm
  split at hm
  ·rename_i y ys h1 h2
   injection hm with hm;subst hm
   obtain⟨i1,i2⟩:=Aj h h2
   refine⟨by simp[i1],fun i=> ?_⟩
   cases i with
   |zero=>simpa using(bl h h1).1.erase
   |succ i=>simpa using i2 i
  ·cases hm
theorem od(h:RS N s a w A sp):∀{xs:List Operand} {ts:List TypeId} {ms:List ai},fY P xs ts=some ms→ms.length=xs.length∧∀i,RV w A (((ms.map fun x=>(x.ev s.env).erase)).getD i .any) ((xs.map a.eval).getD i undef)
 |[],_,ms,hm=>by unfold fY at hm;injection hm with hm;subst hm;exact⟨rfl,fun i=>by simp;exact .any _⟩
 |x::xs,[],ms,hm=>by
  simp only[fY] at hm
  split at hm
  ·rename_i y ys h1 h2
   injection hm with hm;subst hm
   obtain⟨i1,i2⟩:=od h h2
   refine⟨by simp[i1],fun i=> ?_⟩
   cases i with
   |zero=>simpa using(bl h h1).1.erase
   |succ i=>simpa using i2 i
  ·cases hm
 |x::xs,t::ts,ms,hm=>by
  simp only[fY] at hm
  split at hm
  ·rename_i y ys h1 h2
   injection hm with hm;subst hm
   obtain⟨i1,i2⟩:=od h h2
   refine⟨by simp[i1],fun i=> ?_⟩
   cases i with
   |zero=>simpa using(Ah h h1).1.erase
   |succ i=>simpa using i2 i
  ·cases hm
theorem Qa{fn:Fn}{xs ys:Array Operand}{ms ns:List ai}(hop:o.op=.makeFunc fn xs ys)(hd:o.dst=some d)(hN:d<N)(hx:pz xs.toList=some ms)(hy:pz ys.toList=some ns)(h:RS N s a w A sp)(hv:vc1 P (.eP d fn ms ns) s K)(hn:Next s w A sp N K next):o.wp P a w next Q:=by
 obtain⟨a1,a2⟩:=Aj h hx
 obtain⟨b1,b2⟩:=Aj h hy
 refine fin (v:=.func fn (xs.map a.eval) (ys.map a.eval)) h hd hN (by simp[execOp,hop,Instr.makeFunc]) (.func _ _ _ _ _ (by simp[a1]) (by simp[b1]) (fun i=> ?_) (fun i=> ?_)) trivial hv hn
 ·have:=a2 i
  simpa[List.getD_eq_getElem?_getD,Array.getD_eq_getD_getElem?] using this
 ·have:=b2 i
  simpa[List.getD_eq_getElem?_getD,Array.getD_eq_getD_getElem?] using this
theorem Qb{x:Operand}{mx:ai}(hop:o.op=.nilCheck x)(hd:o.dst=some d)(hN:d<N)(hx:aF x=some mx)(h:RS N s a w A sp)(hv:vc1 P (.dg d mx) s K)(hn:Next s w A sp N K next):o.wp P a w next Q:=by
 have h1:=(bl h hx).1
 simp only[vc1] at hv
 split at hv
 ·rename_i cs e1
  rw[e1] at h1
  generalize bg:a.eval x=v0 at h1
  have hh:=h1
  cases h1
  exact fin h hd hN (by simp[execOp,hop,bg]) hh trivial hv hn
 ·rename_i b off e1
  rw[e1] at h1
  generalize bg:a.eval x=v0 at h1
  have hh:=h1
  cases h1
  exact fin h hd hN (by simp[execOp,hop,bg]) hh trivial hv hn
 ·exact hv.elim
theorem Ak{α β:Type}(f:α→List β)(sz:Nat):∀(xs:List α) (n:Nat),(∀x∈xs,(f x).length=sz)→(xs.take n).flatMap f=(xs.flatMap f).take (n*sz)
 |[],n,_=>by simp
 |x::xs,0,_=>by simp
 |x::xs,n+1,h=>by
  have hx:=h x (by simp)
  have ih:=Ak f sz xs n (fun y hy=>h y (by simp[hy]))
  have e:(n+1)*sz=(f x).length+n*sz:=by rw[hx,Nat.add_mul];omega
  simp only[List.take_succ_cons,List.flatMap_cons,ih,e]
  rw[List.take_append]
  congr 1
  ·rw[List.take_of_length_le (by omega)]
  ·congr 1;omega
theorem Gv{α β:Type}(f:α→List β)(sz:Nat):∀(xs:List α) (n:Nat),(∀x∈xs,(f x).length=sz)→(xs.drop n).flatMap f=(xs.flatMap f).drop (n*sz)
 |[],n,_=>by simp
 |x::xs,0,_=>by simp
 |x::xs,n+1,h=>by
  have hx:=h x (by simp)
  have ih:=Gv f sz xs n (fun y hy=>h y (by simp[hy]))
  have e:(n+1)*sz=(f x).length+n*sz:=by rw[hx,Nat.add_mul];omega
  simp only[List.drop_succ_cons,List.flatMap_cons,ih,e]
  rw[List.drop_append,List.drop_eq_nil_of_le (as:=f x) (by omega),List.nil_append]
  congr 1;omega
theorem Qc{t e:TypeId}{x hi:Operand}{mx mh:ai}{sz:Nat}(hop:o.op=.slice t x none (some hi) none)(hd:o.dst=some d)(hN:d<N)(hx:aF x=some mx)(hy:aF hi=some mh)
  (ht:P.underlying t=some (.slice e))(hz:cA P e=some sz)
  (h:RS N s a w A sp)(hv:vc1 P (.iX d mx mh sz) s K)(hn:Next s w A sp N K next):o.wp P a w next Q:=by
 have h1:=(bl h hx).1
 have h2:=(bl h hy).1
 simp only[cA,Option.map_eq_some_iff] at hz
 obtain⟨inf,eA,rfl⟩:=hz
 simp only[vc1] at hv
 split at hv
 ·rename_i sz' xs own k n e1 e2
  obtain⟨hs,h0,hl,hK⟩:=hv
  rw[e1] at h1;rw[e2] at h2
  have v2:=h2.aeo
  generalize bg:a.eval x=v0 at h1
  cases h1 with
  |de=>
   have hn0:n=0:=by simp at hl;omega
   subst hn0
   refine fin (v:=.slice none 0 0) h hd hN ?_ (by simp;exact .de _ _) (by simp;trivial) hK hn
   simp[execOp,hop,bg,v2,Instr.sliceAt,run_underlying ht,Instr.slice,Instr.sliceBounds,Instr.sliceBound,asIntOf,sizeOf,typeInfo,eA]
  |slice _ _ _ b off cap vs hsz h1c hcap hlen hc hr=>
   have hnn:n.toNat≤xs.length:=by omega
   have hnc:n≤(cap:Int):=by omega
   have Gw:∀y∈xs.take n.toNat,y.cells.length=inf.size:=by
    intro y hy
    rcases hs with rfl|rfl
    ·exact hsz y (List.mem_of_mem_take hy)
    ·simp at hy
   have hv':RV w A (.slice inf.size (xs.take n.toNat) 0) (.slice (some ⟨b,off,none⟩) (xs.take n.toNat).length cap):=by
    refine .slice _ _ _ _ _ _ vs Gw (fun y hy=>h1c y (List.mem_of_mem_take hy)) (by simp;omega) (by simp;omega) (fun i hi=> ?_) (fun i=> ?_)
    ·refine hc i ?_
     rcases hs with rfl|rfl
     ·refine Nat.lt_of_lt_of_le hi (Nat.mul_le_mul_right _ ?_);simp;omega
     ·simp at hi
    ·rcases hs with rfl|rfl
     ·rw[Ak AV.cells _ xs _ hsz]
      by_cases hi:i<n.toNat*inf.size
      ·have:=hr i
       simp only[List.getD_eq_getElem?_getD,List.getElem?_take,hi,if_true] at this⊢
       exact this
      ·simp only[List.getD_eq_getElem?_getD,List.getElem?_take,hi,if_false,Option.getD_none]
       exact .any _
     ·simp;exact .any _
   have e3:(xs.take n.toNat).length=n.toNat:=by simp;omega
   rw[e3] at hv'
   refine fin h hd hN ?_ hv' (.qV (by intro _ _ _ hh;injection hh with _ _ hh;exact hh.symm)) hK hn
   simp[execOp,hop,bg,v2,Instr.sliceAt,run_underlying ht,Instr.slice,Instr.sliceBounds,Instr.sliceBound,asIntOf,sizeOf,typeInfo,eA,h0,hnc,Addr.add]
 ·exact hv.elim
end
end Go.aq
namespace Go.aq
open Go.RowKit
section
variable {P:Program} {N:Nat} {s:St} {a:Act} {w:World} {A:aN} {sp:Sp} {K:St→Prop} {next:Act→World→Prop} {Q:Exit→Act→World→Prop} {o:Oper} {d:Nat}
theorem Ev.same{L L':aN}(h:∀b o,L' b o→L b o):Ev w A L w A L':=⟨rfl,rfl,rfl,Nat.le_refl _,fun _ _ _ hl=>⟨rfl,fun h'=>hl (h _ _ h')⟩,fun _ _ _=>rfl,fun _ _ h=>h,fun _ _ h=>.inl h⟩
theorem agp{sz:Nat}{xs:List AV}{r:Nat}(hr:r≠0){v:Value}(h:aek sp (.slice sz xs r) v)(hv:RV w A (.slice sz xs r) v):v=.slice none 0 0∨∃b off cap,v=.slice (some ⟨b,off,none⟩) xs.length cap∧xs.length≤cap∧sp r=(b,off+xs.length*sz,off+cap*sz):=by
 cases hv with
 |de=>exact .inl rfl
 |slice _ _ _ b off cap vs hsz h1c hcap hlen hc hr'=>exact .inr ⟨b,off,cap,rfl,hcap,h.resolve_left hr⟩
theorem RS.rename(h:RS N s a w A sp)(r q:Nat)(hq:q≠0):RS N ((s.aT r).aT q) a w A (aD (aD (aD sp r (0,0,0)) q (0,0,0)) q (sp r)):=by
 have h2:=(h.aT r).aT q
 refine h2.wP q (qZ _ _ hq) (agm _ _ hq) (sp r).1 (sp r).2.1 (sp r).2.2 (fun hlt=> ?_) (fun q' hne hlt dG he=> ?_) (fun o ho=> ?_)
 ·obtain⟨h3,h4⟩:=h.cg r hlt
  exact⟨h3,by simp[St.aT,h4]⟩
 ·simp only[aD,hne,if_false] at dG he⊢
  by_cases e:q'=r
  ·simp only[e,if_true] at dG;omega
  ·simp only[e,if_false] at dG he⊢
   exact h.dO q' r e dG hlt he
 ·have:=(h.av _ _ ho).2
  by_cases e:o<(sp r).2.1∨(sp r).2.2≤o
  ·exact e
  ·exact absurd (.inr ⟨r,rfl,by omega,by omega⟩) this
theorem Al(r q:Nat){b o:Nat}(h:live ((s.aT r).aT q).loc (aD (aD (aD sp r (0,0,0)) q (0,0,0)) q (sp r)) b o):live s.loc sp b o:=by
 rcases h with h|⟨k,hk⟩
 ·exact .inl (by intro hn;exact h (by simp[St.aT,hn]))
 ·by_cases e:k=q
  ·simp only[aD,e,if_true] at hk;exact .inr ⟨r,hk⟩
  ·by_cases e2:k=r
   ·subst e2;simp only[aD,e,if_false,if_true] at hk;omega
   ·simp only[aD,e,e2,if_false] at hk;exact .inr ⟨k,hk⟩
theorem Qd{x:Operand}{m:ai}(hop:o.op=.assign x)(hd:o.dst=some d)(hN:d<N)(hx:aF x=some m)(h:RS N s a w A sp)(hv:K (fh s d (m.ev s.env)))(hn:Next s w A sp N K next):o.wp P a w next Q:=by
 have h1:=(bl h hx).1
 have h2:=(bl h hx).2
 have hrun:(execOp a.eval o).run P w=.ok (.value (a.eval x)) w:=by simp[execOp,hop]
 cases hm:m.ev s.env with
 |slice sz xs r=>
  rw[hm] at h1 h2 hv
  simp only[fh] at hv
  split at hv
  ·exact fin h hd hN hrun h1.own (.qV (by intro _ _ _ hh;injection hh with _ _ hh;exact hh.symm)) hv hn
  ·rename_i hr
   refine fin' (h.rename r (d+1) (by omega)) (.same fun b o=>Al r (d+1)) hd hN hrun h1.own ?_ hv hn
   rcases agp hr h2 h1 with e|⟨b,off,cap,e,_,e2⟩
   ·rw[e];trivial
   ·rw[e];exact .inr (by simp[aD,e2])
 |_=>rw[hm] at h1 h2 hv;exact fin h hd hN hrun h1 h2 hv hn
theorem Qe{sz:Nat}(hop:o.op=.assign (.const (.slice none 0 0)))(hd:o.dst=some d)(hN:d<N)(h:RS N s a w A sp)(hv:vc1 P (.bx d sz) s K)(hn:Next s w A sp N K next):o.wp P a w next Q:=fin' (h.aT (d+1)) (Ev.aT (d+1)) hd hN (by simp[execOp,hop,Act.eval]) (.de _ _) trivial hv hn
theorem RV.wT{x:AV}{v:Value}(h:RV w A x v)(hx:x.cells≠[]):v.cells.size=x.cells.length∧∀i,RV w A (x.cells.getD i .any) (v.cells.getD i undef):=by
 have one:∀{x:AV} {v:Value},RV w A x v→v.cells= #[v]→x.cells=[x]→v.cells.size=x.cells.length∧∀i,RV w A (x.cells.getD i .any) (v.cells.getD i undef):=by
  intro x v h e1 e2
  rw[e1,e2]
  refine⟨rfl,fun i=> ?_⟩
  cases i with
  |zero=>simpa using h
  |succ i=>simp;exact .any _
 cases h with
 |any=>exact absurd rfl hx
 |ghost=>exact absurd rfl hx
 |lit v hf=>exact one (.lit v hf) (by cases v<;>first|rfl|cases hf) rfl
 |de sz own=>exact one (.de sz own) rfl rfl
 |slice sz xs own b off cap vs hsz h1c hcap hlen hc hr=>exact one (.slice sz xs own b off cap vs hsz h1c hcap hlen hc hr) rfl rfl
 |ref cs b off vs hc hr=>exact one (.ref cs b off vs hc hr) rfl rfl
 |au b off=>exact one (.au b off) rfl rfl
 |bQ b=>exact one (.bQ b) rfl rfl
 |aV b off len cap sz hl=>exact one (.aV b off len cap sz hl) rfl rfl
 |agg xs vs hs hr=>exact⟨hs,hr⟩
 |tuple xs vs hs hr=>exact one (.tuple xs vs hs hr) rfl rfl
 |func fn fs cs vf vc fG hsc hf hc=>exact one (.func fn fs cs vf vc fG hsc hf hc) rfl rfl
theorem Am(e:TypeId)(v:Value):(newVar e v).run P w=.ok ⟨w.heap.size,0,none⟩ (w.alloc (.cells v.cells e)):=by simp[newVar,newRow]
theorem RV.new{cs:List AV}{vs:Array Value}(T:TypeId)(hs:vs.size=cs.length)(hA:∀b o,A b o→b<w.heap.size)(hr:∀i,RV w A (cs.getD i .any) (vs.getD i undef))(k:Nat)(hk:cs.length≤k):RV (w.alloc (.cells vs T)) (fun b o=>A b o∨(b=w.heap.size∧o<k)) (.ref cs) (.pointer (some ⟨w.heap.size,0,none⟩)):=by
 refine .ref _ _ _ (fun i=>vs.getD i undef) (fun i hi=>⟨?_,.inr ⟨rfl,by omega⟩⟩) (fun i=>(hr i).mono fun b o v ha hv=>⟨by rw[mU _ _ _ _ (hA b o ha)];exact hv,.inl ha⟩)
 rw[Nat.zero_add,Gg,Array.getD_eq_getD_getElem?,Array.getElem?_eq_getElem (by omega)]
 rfl
theorem Qf{e:TypeId}{x:Operand}{m:ai}{n:Nat}(hop:o.op=.box e x)(hd:o.dst=some d)(hN:d<N)(hx:aF x=some m)(hn0:0<n)(h:RS N s a w A sp)(hv:vc1 P (.aU d m n) s K)(hn:Next s w A sp N K next):o.wp P a w next Q:=by
 have h1:=(bl h hx).1
 simp only[vc1] at hv
 obtain⟨hl,hv⟩:=hv
 obtain⟨hs,hr⟩:=h1.wT (by intro e;rw[e] at hl;simp at hl;omega)
 refine fin' (h.alloc (a.eval x).cells e n (by omega)) (h.tw _ n) hd hN ?_ (RV.new (cs:=(m.ev s.env).cells.map AV.erase0) e (by simpa using hs) (fun b o ha=>(h.av b o ha).1) (fun i=> ?_) n (by simp;omega)) trivial hv hn
 ·simp only[execOp,hop,Instr.box,Sem.run_bind,Am,Result.andThen_ok,Sem.run_pure]
 ·rw[iV];exact(hr i).erase0
theorem RS.tG(h:RS N s a w A sp){cs:List AV}{vs:Array Value}(T:TypeId)(hs:vs.size=cs.length)
  (hr:∀i,RV w A (cs.getD i .any) (vs.getD i undef)∧aek sp (cs.getD i .any) (vs.getD i undef)):
  RS N (s.new w.heap.size cs) a (w.alloc (.cells vs T)) A sp:=by
 have h1:=h.alloc vs T 0 (by omega)
 have hmono:∀{x v},RV w A x v→RV (w.alloc (.cells vs T)) A x v:=fun hx=>hx.mono fun b o v ha hv=>⟨by rw[mU _ _ _ _ (h.av b o ha).1];exact hv,ha⟩
 refine⟨h.size,h.defers,fun d=>⟨hmono (h.env d).1,(h.env d).2⟩,fun b cs' hb=> ?_,fun r hr'=> ?_,h.dO,fun b o ha=>⟨by have:=(h.av b o ha).1;rw[ae8];omega,?_⟩⟩
 ·simp only[St.new,aD] at hb
  split at hb
  ·rename_i e;subst e;injection hb with hb;subst hb
   exact⟨vs,T,qX _ _,hs,fun i=>⟨hmono (hr i).1,(hr i).2⟩⟩
  ·obtain⟨vs',T',g1,g2,g3⟩:=h.loc b cs' hb
   exact⟨vs',T',by rw[heap_alloc _ _ _ (cy g1)];exact g1,g2,fun i=>⟨hmono (g3 i).1,(g3 i).2⟩⟩
 ·obtain⟨⟨vs',T',g1,g2⟩,g3⟩:=h.cg r hr'
  refine⟨⟨vs',T',by rw[heap_alloc _ _ _ (cy g1)];exact g1,g2⟩,?_⟩
  simp only[St.new,aD]
  rw[if_neg (Nat.ne_of_lt (cy g1))]
  exact g3
 ·rintro(hl|hl)
  ·simp only[St.new,aD] at hl
   split at hl
   ·rename_i e;have:=(h.av b o ha).1;omega
   ·exact(h.av b o ha).2 (.inl hl)
  ·exact(h.av b o ha).2 (.inr hl)
theorem RS.tH(ob:Obj)(cs:List AV):Ev w A (live s.loc sp) (w.alloc ob) A (live (s.new w.heap.size cs).loc sp):=by
 refine⟨rfl,rfl,rfl,by rw[ae8];omega,fun b o hb hl=>⟨mU _ _ _ _ hb,?_⟩,fun b hb _=>heap_alloc _ _ _ hb,fun _ _ ha=>ha,fun _ _ ha=>.inl ha⟩
 rintro(hl'|hl')
 ·simp only[St.new,aD] at hl'
  rw[if_neg (Nat.ne_of_lt hb)] at hl'
  exact hl (.inl hl')
 ·exact hl (.inr hl')
theorem Qg{e:TypeId}{x:Operand}{m:ai}{n:Nat}(hop:o.op=.box e x)(hd:o.dst=some d)(hN:d<N)(hx:aF x=some m)(hn0:0<n)(h:RS N s a w A sp)(hv:vc1 P (.kO d m n) s K)(hn:Next s w A sp N K next):o.wp P a w next Q:=by
 have h1:=(bl h hx).1
 simp only[vc1] at hv
 obtain⟨hl,hv⟩:=hv
 obtain⟨hs,hr⟩:=h1.wT (by intro e;rw[e] at hl;simp at hl;omega)
 refine fin' (h.tG (cs:=(m.ev s.env).cells.map AV.erase0) e (by simpa using hs) (fun i=> ?_)) (RS.tH _ _) hd hN ?_ (.au w.heap.size 0) trivial (hv _ h.fresh) hn
 ·rw[iV];exact⟨(hr i).erase0,.erase0⟩
 ·simp only[execOp,hop,Instr.box,Sem.run_bind,Am,Result.andThen_ok,Sem.run_pure]
theorem agq{t:TypeId}{z:List AV}(h:js P t z=true):∃i v,P.info? t=some i∧i.zero=some v∧v.cells.size=z.length∧z.length=i.size∧(∀k,RV w A (z.getD k .any) (v.cells.getD k undef))∧∀x∈z,x.bK=true∧x.erase=x:=by
 unfold js at h
 split at h
 ·rename_i i hi
  split at h
  ·rename_i v hz
   simp only[Bool.and_eq_true,beq_iff_eq] at h
   obtain⟨h1,h2,h3⟩:=Gk (w:=w) (A:=A) h.1
   refine⟨i,v,hi,hz,by simpa using h1,h.2,fun k=> ?_,h3⟩
   have:=h2 k
   simpa[List.getD_eq_getElem?_getD,Array.getD_eq_getD_getElem?] using this
  ·cases h
 ·cases h
theorem Gx{z:List AV}(h:∀x∈z,x.bK=true∧x.erase=x)(k:Nat){v:Value}:aek sp (z.getD k .any) v:=by
 by_cases hk:k<z.length
 ·have:=(h z[k] (by simp)).2
  rw[List.getD_eq_getElem?_getD,List.getElem?_eq_getElem hk,Option.getD_some,←this]
  exact .erase
 ·rw[List.getD_eq_getElem?_getD,List.getElem?_eq_none (by omega)];trivial
theorem Qh{t:TypeId}{z:List AV}(h:wS P t z=true):∃i v,P.info? t=some i∧i.zero=some v∧v.cells.size=z.length∧∀k,RV w A (z.getD k .any) (v.cells.getD k undef)∧aek sp (z.getD k .any) (v.cells.getD k undef):=by
 unfold wS at h
 split at h
 ·rename_i i hi
  split at h
  ·rename_i v hz
   simp only[Bool.and_eq_true,beq_iff_eq] at h
   obtain⟨h1,h2⟩:=Gl (w:=w) (A:=A) (sp:=sp) h.1
   refine⟨i,v,hi,hz,by simpa using h1,fun k=> ?_⟩
   have:=h2 k
   simpa[List.getD_eq_getElem?_getD,Array.getD_eq_getD_getElem?] using this
  ·cases h
 ·cases h
theorem Qi{e:TypeId}{z:List AV}(hop:o.op=.alloc e)(hd:o.dst=some d)(hN:d<N)(hz:wS P e z=true)(h:RS N s a w A sp)(hv:vc1 P (.alloc d z) s K)(hn:Next s w A sp N K next):o.wp P a w next Q:=by
 obtain⟨i,v,hi,hz,hs,hr⟩:=Qh (w:=w) (A:=A) (sp:=sp) hz
 simp only[vc1] at hv
 refine fin' (h.tG (cs:=z) e hs hr) (RS.tH _ _) hd hN ?_ (.au w.heap.size 0) trivial (hv _ h.fresh) hn
 simp only[execOp,hop,Instr.alloc,zeroValue,typeInfo,Sem.run_bind,run_program,Result.andThen_ok,hi,Sem.run_pure,hz,Am]
theorem RV.wU{x:AV}{v:Value}(h:RV w A x v)(hx:x.bK=true):v.oneCell'=true:=by
 cases h<;>first|rfl|(cases hx;done)|skip
 rename_i hf;cases v<;>first|rfl|cases hf
theorem kT:∀(ys cs:List AV) (off:Nat),(splice cs off ys).length=cs.length
 |[],_,_=>rfl
 |y::ys,cs,off=>by rw[splice,kT ys];simp
theorem mW:∀(ys cs:List AV) (off i:Nat),off+ys.length≤cs.length→(splice cs off ys).getD i .any=if off≤i∧i<off+ys.length then ys.getD (i - off) .any else cs.getD i .any
 |[],cs,off,i,_=>by simp[splice];intro h1 h2;omega
 |y::ys,cs,off,i,h=>by
  simp only[List.length_cons] at h
  rw[splice,mW ys _ _ _ (by simp;omega)]
  by_cases h1:off+1≤i∧i<off+1+ys.length
  ·rw[if_pos h1,if_pos (by simp;omega)]
   have:i - off=(i - (off+1))+1:=by omega
   rw[this];simp
  ·rw[if_neg h1]
   by_cases h2:i=off
   ·subst h2
    rw[if_pos (by simp)]
    simp only[List.getD_eq_getElem?_getD,Nat.sub_self,List.getElem?_cons_zero]
    rw[List.getElem?_set_self (by omega)]
   ·rw[if_neg (by simp;omega)]
    simp only[List.getD_eq_getElem?_getD]
    rw[List.getElem?_set_ne (by omega)]
theorem agr(vs:Array Value)(us:List Value)(off i:Nat)(h:off+us.length≤vs.size):(vs.toList.take off++us++vs.toList.drop (off+us.length)).toArray.getD i undef=if off≤i∧i<off+us.length then us.getD (i - off) undef else vs.getD i undef:=by
 simp only[Array.getD_eq_getD_getElem?,List.getElem?_toArray,List.getD_eq_getElem?_getD]
 by_cases h1:i<off
 ·rw[if_neg (by omega),List.append_assoc,List.getElem?_append_left (by simp;omega),List.getElem?_take,if_pos h1]
  simp
 ·by_cases h2:i<off+us.length
  ·rw[if_pos (by omega),List.append_assoc,List.getElem?_append_right (by simp;omega),List.getElem?_append_left (by simp;omega)]
   have:min off vs.toList.length=off:=by simp;omega
   simp only[List.length_take,this]
  ·rw[if_neg (by omega),List.getElem?_append_right (by simp;omega),List.getElem?_drop]
   have:min off vs.toList.length=off:=by simp;omega
   simp only[List.length_append,List.length_take,this]
   rw[show off+us.length+(i - (off+us.length))=i by omega]
   simp
theorem RS.setRow(h:RS N s a w A sp){b:Nat}{cs0 cs:List AV}{Qj vs:Array Value}{T:TypeId}(hb:s.loc b=some cs0)(hh:w.heap[b]? =some (.cells Qj T (0,0)))
  (hs:vs.size=cs.length)(hr:∀i,RV w A (cs.getD i .any) (vs.getD i undef)∧aek sp (cs.getD i .any) (vs.getD i undef)):
  RS N (s.new b cs) a (w.setRow b vs) A sp:=by
 have hne:∀{c o},A c o→c≠b:=fun {c o} ha e=>(h.av c o ha).2 (.inl (by rw[e,hb];simp))
 have hmono:∀{x v},RV w A x v→RV (w.setRow b vs) A x v:=fun hx=>hx.mono fun c o v ha hv=>⟨by rw[cell_setRow_other _ _ _ _ _ (hne ha)];exact hv,ha⟩
 refine⟨h.size,h.defers,fun d=>⟨hmono (h.env d).1,(h.env d).2⟩,fun c cs' hc=> ?_,fun r hr'=> ?_,h.dO,fun c o ha=>⟨by rw[size_setRow];exact(h.av c o ha).1,?_⟩⟩
 ·simp only[St.new,aD] at hc
  split at hc
  ·rename_i e;subst e;injection hc with hc;subst hc
   exact⟨vs,T,setRow_heap _ _ _ _ _ _ hh,hs,fun i=>⟨hmono (hr i).1,(hr i).2⟩⟩
  ·rename_i hcb
   obtain⟨vs',T',g1,g2,g3⟩:=h.loc c cs' hc
   exact⟨vs',T',by rw[wN _ _ _ _ hcb];exact g1,g2,fun i=>⟨hmono (g3 i).1,(g3 i).2⟩⟩
 ·obtain⟨⟨vs',T',g1,g2⟩,g3⟩:=h.cg r hr'
  have hcb:(sp r).1≠b:=fun e=>by rw[e,hb] at g3;cases g3
  refine⟨⟨vs',T',by rw[wN _ _ _ _ hcb];exact g1,g2⟩,?_⟩
  simp only[St.new,aD]
  rw[if_neg hcb];exact g3
 ·rintro(hl|hl)
  ·simp only[St.new,aD] at hl
   rw[if_neg (hne ha)] at hl
   exact(h.av c o ha).2 (.inl hl)
  ·exact(h.av c o ha).2 (.inr hl)
theorem RS.ags{b:Nat}{cs0:List AV}(cs:List AV)(vs:Array Value)(hb:s.loc b=some cs0):Ev w A (live s.loc sp) (w.setRow b vs) A (live (s.new b cs).loc sp):=by
 have hne:∀{c o},¬live s.loc sp c o→c≠b:=fun {c o} hl e=>hl (.inl (by rw[e,hb];simp))
 refine⟨rfl,rfl,rfl,by rw[size_setRow];exact Nat.le_refl _,fun c o hc hl=>⟨cell_setRow_other _ _ _ _ _ (hne hl),?_⟩,fun c hc hl=>wN _ _ _ _ (hne (hl 0)),fun _ _ ha=>ha,fun _ _ ha=>.inl ha⟩
 rintro(hl'|hl')
 ·simp only[St.new,aD] at hl'
  rw[if_neg (hne hl)] at hl'
  exact hl (.inl hl')
 ·exact hl (.inr hl')
theorem Gy{t:TypeId}{n b off:Nat}{vs:Array Value}{T:TypeId}{v:Value}(hz:cA P t=some n)(hh:w.heap[b]? =some (.cells vs T (0,0)))
  (hv:v.cells.size=n)(hoff:off+n≤vs.size)(h1:∀u∈v.cells.toList,u.oneCell'=true):
  (Instr.storeAt t (.pointer (some ⟨b,off,none⟩)) v).run P w=.ok () (w.setRow b (vs.toList.take off++v.cells.toList++vs.toList.drop (off+n)).toArray):=by
 simp only[cA,Option.map_eq_some_iff] at hz
 obtain⟨i,hi,rfl⟩:=hz
 have hst:=run_storeCells_at P b off T v.cells.toList 0 vs w hh (by simpa[hv] using hoff) h1
 simp only[Nat.add_zero,Array.length_toList,hv] at hst
 simp only[Instr.storeAt,Instr.sureAddr,Sem.run_bind,Sem.run_pure,Result.andThen_ok,storeVar,sizeOf,typeInfo,run_program,hi,hv,ne_eq,not_true,if_false,hst]
theorem An{s1:St}{w1:World}{A1:aN}{dW:Sp}(h:RS N s1 a w1 A1 dW)(aS:Ev w A (live s.loc sp) w1 A1 (live s1.loc dW))(hd:o.dst=none)(hrun:(execOp a.eval o).run P w=.ok .skip w1)(hk:K s1)(hn:Next s w A sp N K next):o.wp P a w next Q:=by
 unfold Oper.wp
 rw[hrun,Oper.upon_skip,hd]
 exact hn _ _ _ _ _ hk h aS
end
end Go.aq
namespace Go.aq
open Go.RowKit
section
variable {P:Program} {N:Nat} {s:St} {a:Act} {w:World} {A:aN} {sp:Sp} {K:St→Prop} {next:Act→World→Prop} {Q:Exit→Act→World→Prop} {o:Oper} {d:Nat}
theorem Qk{x:AV}{v:Value}(hr:∀i,RV w A (x.cells.getD i .any) (v.cells.getD i undef))(hs:v.cells.size=x.cells.length)(hc:x.cells.all AV.bK=true):∀u∈v.cells.toList,u.oneCell'=true:=by
 intro u hu
 obtain⟨i,hi,rfl⟩:=List.getElem_of_mem hu
 have hi':i<x.cells.length:=by simpa[hs] using hi
 have h1:=hr i
 rw[List.getD_eq_getElem?_getD,List.getElem?_eq_getElem hi',Array.getD_eq_getD_getElem?,Array.getElem?_eq_getElem (by simpa using hi)] at h1
 exact h1.wU ((List.all_eq_true.1 hc) _ (by simp))
theorem Gz{t:TypeId}{x y:Operand}{mx my:ai}{n aO:Nat}(hop:o.op=.store t x y)(hd:o.dst=none)(hx:aF x=some mx)(hy:aF y=some my)(hz:cA P t=some n)(hn0:0<n)(h:RS N s a w A sp)(hv:vc1 P (.store mx my n aO) s K)(hn:Next s w A sp N K next):o.wp P a w next Q:=by
 have h1:=(bl h hx).1
 have h2:=bl h hy
 simp only[vc1,ae7] at hv
 generalize GA:my.ev s.env=y' at h2 hv
 split at hv
 ·rename_i b off e1
  rw[e1] at h1
  generalize bg:a.eval x=v0 at h1
  cases h1
  split at hv
  ·rename_i cs hb
   obtain⟨hoff,hl,kU,hv⟩:=hv
   obtain⟨vs,T,hh,hsz,hr⟩:=h.loc b cs hb
   obtain⟨dX,cD⟩:=h2.1.wT (by intro e;rw[e] at hl;simp at hl;omega)
   have hrun:=Gy (P:=P) (w:=w) hz hh (v:=a.eval y) (off:=off) (by omega) (by omega) (Qk cD dX kU)
   have hrow:∀(sp':Sp) (cs' ys:List AV),cs'.length=cs.length→(∀i,RV w A (cs'.getD i .any) (vs.getD i undef)∧aek sp' (cs'.getD i .any) (vs.getD i undef))→
     ys.length=n→(∀i,RV w A (ys.getD i .any) ((a.eval y).cells.getD i undef)∧aek sp' (ys.getD i .any) ((a.eval y).cells.getD i undef))→
     ∀i,RV w A ((splice cs' off ys).getD i .any) ((vs.toList.take off++(a.eval y).cells.toList++vs.toList.drop (off+n)).toArray.getD i undef)∧aek sp' ((splice cs' off ys).getD i .any) ((vs.toList.take off++(a.eval y).cells.toList++vs.toList.drop (off+n)).toArray.getD i undef):=by
    intro sp' cs' ys mX hr' hys gv i
    have e:=agr vs (a.eval y).cells.toList off i (by simp;omega)
    simp only[Array.length_toList,dX,hl] at e
    rw[e,mW _ _ _ _ (by omega),hys]
    split
    ·have:=gv (i - off)
     simpa[List.getD_eq_getElem?_getD,Array.getD_eq_getD_getElem?] using this
    ·exact hr' i
   have agt:(execOp a.eval o).run P w=.ok .skip (w.setRow b (vs.toList.take off++(a.eval y).cells.toList++vs.toList.drop (off+n)).toArray):=by simp only[execOp,hop,bg,Sem.run_bind,hrun,Result.andThen_ok,Sem.run_pure]
   have hsize:∀cs':List AV,cs'.length=cs.length→((vs.toList.take off++(a.eval y).cells.toList++vs.toList.drop (off+n)).toArray).size=cs'.length:=by
    intro cs' mX
    simp only[List.size_toArray,List.length_append,List.length_take,List.length_drop,Array.length_toList]
    omega
   have plain:K (s.new b (splice cs off (y'.cells.map AV.erase0)))→o.wp P a w next Q:=by
    intro hk
    refine An (h.setRow hb hh (hsize _ (kT _ _ _)) (hrow sp cs _ rfl hr (by simpa using hl) (fun i=> ?_))) (RS.ags _ _ hb) hd agt hk hn
    rw[iV]
    exact⟨(cD i).erase0,.erase0⟩
   split at hv
   ·rename_i sz xs r
    split at hv
    ·exact plain hv
    ·rename_i hro
     have hr0:r≠0:=fun e=>hro (.inl e)
     have Ao:aO≠0:=fun e=>hro (.inr e)
     have h':=h.rename r aO Ao
     have hb':((s.aT r).aT aO).loc b=some (cs.map fun x=>aC aO (aC r x)):=by simp[St.aT,hb]
     obtain⟨vs',T',wV,Gw,hr'⟩:=h'.loc b _ hb'
     rw[hh] at wV;injection wV with wV;injection wV with e1 e2 e3;subst e1
     have kV:n=1:=hl.symm
     refine An (h'.setRow (cs:=(cs.map fun x=>aC aO (aC r x)).set off (.slice sz xs aO)) hb' hh (hsize _ (by simp)) (hrow _ (cs.map fun x=>aC aO (aC r x)) [.slice sz xs aO] (by simp) hr' (by simp[kV]) (fun i=> ?_))) ?_ hd agt hv hn
     ·have e5:(a.eval y).cells.getD i undef=if i=0 then a.eval y else undef:=by
       have h3:=h2.1
       generalize a.eval y=vy at h3⊢
       cases h3<;>cases i<;>rfl
      rw[e5]
      cases i with
      |zero=>
       refine⟨h2.1.own,?_⟩
       rcases agp hr0 h2.2 h2.1 with e|⟨b',off',cap,e,_,e4⟩
       ·rw[if_pos rfl,e];trivial
       ·rw[if_pos rfl,e];exact .inr (by simp[aD,e4])
      |succ i=>exact⟨.any _,trivial⟩
     ·exact(Ev.same fun b o=>Al r aO).trans (RS.ags _ _ hb')
   ·exact plain hv
  ·exact hv.elim
 ·exact hv.elim
theorem Ql{t:TypeId}{x:Operand}{mx:ai}{sz aO:Nat}(hop:o.op=.store t x (.const (.slice none 0 0)))(hd:o.dst=none)(hx:aF x=some mx)(hz:cA P t=some 1)(_:aO≠0)(h:RS N s a w A sp)(hv:vc1 P (.jV mx sz aO) s K)(hn:Next s w A sp N K next):o.wp P a w next Q:=by
 have h1:=(bl h hx).1
 simp only[vc1] at hv
 split at hv
 ·rename_i b off e1
  rw[e1] at h1
  generalize bg:a.eval x=v0 at h1
  cases h1
  split at hv
  ·rename_i cs hb
   obtain⟨hoff,hv⟩:=hv
   have h':=h.aT aO
   have hb':(s.aT aO).loc b=some (cs.map (aC aO)):=by simp[St.aT,hb]
   obtain⟨vs,T,hh,hsz,hr⟩:=h'.loc b _ hb'
   rw[List.length_map] at hsz
   have hrun:=Gy (P:=P) (w:=w) hz hh (v:=.slice none 0 0) (off:=off) rfl (by omega) (by intro u hu;simp[Value.cells] at hu;rw[hu];rfl)
   refine An (h'.setRow hb' hh (vs:=(vs.toList.take off++(Value.slice none 0 0).cells.toList++vs.toList.drop (off+1)).toArray) ?_ (fun i=> ?_)) ((Ev.aT aO).trans (RS.ags _ _ hb')) hd
    (by have pF:a.eval (.const (.slice none 0 0))=.slice none 0 0:=rfl
        simp only[execOp,hop,bg,pF,Sem.run_bind,hrun,Result.andThen_ok,Sem.run_pure]) hv hn
   ·simp[Value.cells];omega
   ·have e:=agr vs [.slice none 0 0] off i (by simp;omega)
    simp only[List.length_singleton] at e
    show RV w A (((cs.map (aC aO)).set off (.slice sz [] aO)).getD i .any) ((vs.toList.take off++[Value.slice none 0 0]++vs.toList.drop (off+1)).toArray.getD i undef)∧_
    have e2:=mW [.slice sz [] aO] (cs.map (aC aO)) off i (by simp;omega)
    simp only[splice,List.length_singleton] at e2
    simp only[Value.cells]
    rw[e2]
    show _∧aek _ _ ((vs.toList.take off++[Value.slice none 0 0]++vs.toList.drop (off+1)).toArray.getD i undef)
    rw[e]
    split
    ·have:i - off=0:=by omega
     rw[this]
     exact⟨.de _ _,trivial⟩
    ·exact hr i
  ·exact hv.elim
 ·exact hv.elim
theorem RS.freeze(h:RS N s a w A sp){b k:Nat}{cs:List AV}(hk:s.env k=.au b 0)(hb:s.loc b=some cs):RS N ⟨aD s.env k (.ref (cs.map AV.erase0)),aD s.loc b none⟩ a w (fun c o=>A c o∨(c=b∧o<cs.length)) sp∧Ev w A (live s.loc sp) w (fun c o=>A c o∨(c=b∧o<cs.length)) (live (aD s.loc b none) sp):=by
 obtain⟨vs,T,hh,hsz,hr⟩:=h.loc b cs hb
 have fj:∀{c o},live (aD s.loc b none) sp c o→live s.loc sp c o:=by
  rintro c o (hl|hl)
  ·refine .inl fun hn=>hl ?_
   simp only[aD]
   split
   ·rfl
   ·exact hn
  ·exact .inr hl
 have hm:∀{x v},RV w A x v→RV w (fun c o=>A c o∨(c=b∧o<cs.length)) x v:=fun hx=>hx.mono fun _ _ _ ha hv=>⟨hv,.inl ha⟩
 have hspare:∀o,¬spare sp b o:=by
  rintro o ⟨r,h1,h2,h3⟩
  have:=(h.cg r (by omega)).2
  rw[h1,hb] at this;cases this
 refine⟨⟨h.size,h.defers,fun d=> ?_,fun c cs' hc=> ?_,fun r hr'=> ?_,h.dO,fun c o ha=> ?_⟩,rfl,rfl,rfl,Nat.le_refl _,fun c o _ hl=>⟨rfl,fun hl'=>hl (fj hl')⟩,fun _ _ _=>rfl,fun _ _ ha=>.inl ha,fun c o ha=> ?_⟩
 ·by_cases e:d=k
  ·subst e
   simp only[dP]
   have:=(h.env d).1
   rw[hk] at this
   generalize a.tmps.getD d undef=v at this
   cases this
   refine⟨.ref _ _ _ (fun i=>vs.getD i undef) (fun i hi=>⟨?_,.inr ⟨rfl,by simpa using hi⟩⟩) (fun i=>by rw[iV];exact hm (hr i).1.erase0),trivial⟩
   simp at hi
   simp[World.cell?,hh,Array.getD_eq_getD_getElem?,Array.getElem?_eq_getElem (show i<vs.size by omega)]
  ·simp only[bE _ _ e];exact⟨hm (h.env d).1,(h.env d).2⟩
 ·simp only[aD] at hc
  split at hc
  ·cases hc
  ·obtain⟨vs',T',g1,g2,g3⟩:=h.loc c cs' hc
   exact⟨vs',T',g1,g2,fun i=>⟨hm (g3 i).1,(g3 i).2⟩⟩
 ·obtain⟨g1,g2⟩:=h.cg r hr'
  refine⟨g1,?_⟩
  simp only[aD]
  split
  ·rfl
  ·exact g2
 ·rcases ha with ha|⟨rfl,ho⟩
  ·exact⟨(h.av c o ha).1,fun hl=>(h.av c o ha).2 (fj hl)⟩
  ·refine⟨cy hh,?_⟩
   rintro(hl|hl)
   ·exact hl (by simp[aD])
   ·exact hspare o hl
 ·rcases ha with ha|⟨rfl,ho⟩
  ·exact .inl ha
  ·exact .inr (.inl (.inl (by rw[hb];simp)))
theorem GB(l:List AV):(l.map AV.erase0).map AV.erase0=l.map AV.erase0:=by
 rw[List.map_map]
 congr 1
 funext x
 cases x<;>rfl
theorem tI:∀(ys cs:List AV),ys.length=cs.length→splice cs 0 ys=ys:=by
 intro ys cs h
 apply List.ext_getElem?
 intro i
 by_cases hi:i<ys.length
 ·have e:(splice cs 0 ys).getD i .any=ys.getD i .any:=by rw[mW _ _ _ _ (by omega),if_pos (by omega),Nat.sub_zero]
  rw[List.getD_eq_getElem?_getD,List.getD_eq_getElem?_getD,List.getElem?_eq_getElem (by rw[kT];omega),List.getElem?_eq_getElem hi] at e
  rw[List.getElem?_eq_getElem (by rw[kT];omega),List.getElem?_eq_getElem hi]
  simpa using e
 ·rw[List.getElem?_eq_none (by rw[kT];omega),List.getElem?_eq_none (by omega)]
theorem Qm{t:TypeId}{k:Nat}{y:Operand}{my:ai}{n:Nat}(hop:o.op=.store t (.tmp k) y)(hd:o.dst=none)(hy:aF y=some my)(hz:cA P t=some n)(hn0:0<n)(h:RS N s a w A sp)(hv:vc1 P (.bp k my n) s K)(hn:Next s w A sp N K next):o.wp P a w next Q:=by
 simp only[vc1] at hv
 split at hv
 ·rename_i b hk
  split at hv
  ·rename_i cs hb
   obtain⟨hcs,hl,kU,hv⟩:=hv
   obtain⟨y',hy'⟩:∃y',y'=my.ev s.env:=⟨_,rfl⟩
   rw[←hy'] at hl kU hv
   let K':St→Prop:=fun s'=>s'=s.new b (y'.cells.map AV.erase0)
   have hvs:vc1 P (.store (.t k) my n 0) s K':=by
    show ae7 s (s.env k) (my.ev s.env) n 0 K'
    rw[←hy']
    simp only[ae7,hk,hb]
    refine⟨by omega,hl,kU,?_⟩
    have hsp:=tI (y'.cells.map AV.erase0) cs (by simp;omega)
    show _
    cases y'<;>simp only[or_true,if_true]<;>first
     |(show _=_;rw[hsp])
     |(show St.new s b (splice cs 0 [AV.slice _ _ 0])=St.new s b [AV.slice _ _ 0];exact congrArg (St.new s b) hsp)
   refine Gz hop hd rfl hy hz hn0 h hvs fun s' a' w' A' sp' hk' hr aS=> ?_
   subst hk'
   obtain⟨f1,f2⟩:=hr.freeze (b:=b) (k:=k) (cs:=y'.cells.map AV.erase0) hk (by simp[St.new,aD])
   have e1:aD (s.new b (y'.cells.map AV.erase0)).loc b none=aD s.loc b none:=by funext c;simp only[St.new,aD];split<;>rfl
   rw[GB,e1] at f1
   rw[e1] at f2
   exact hn _ _ _ _ _ hv f1 (aS.trans f2)
  ·exact hv.elim
 ·exact hv.elim
end
end Go.aq
namespace Go.aq
open Go.RowKit
section
variable {P:Program} {N:Nat} {s:St} {a:Act} {w:World} {A:aN} {sp:Sp} {K:St→Prop} {next:Act→World→Prop} {Q:Exit→Act→World→Prop} {o:Oper} {d:Nat}
theorem Qn(t e ty:TypeId)(i:TypeInfo)(ht:P.underlying t=some (.slice e))(hi:P.info? e=some i)(base yb:Option Addr)(n cap c:Nat)(h:n≤cap):(Builtin.append_ #[t,t] ty #[.slice base n cap,.slice yb 0 c]).run P w=.ok (.slice base n cap) w:=by cases base<;>cases yb<;>simp[Builtin.append_,run_underlying ht,sizeOf,typeInfo,hi,Builtin.lenOf,h,Builtin.firstCells,loadCells,loadCellsFrom,storeCells]
theorem GC(t ty e:TypeId)(i:TypeInfo)(ht:P.underlying t=some (.slice e))(hi:P.info? e=some i)
  (g off sLen sCap:Nat)(cur:Array Value)(T:TypeId)(hg:w.heap[g]? =some (.cells cur T (0,0)))
  (a:Addr)(m c:Nat)(news:List Value)(hl:news.length=m*i.size)(hnews:∀j u,news[j]? =some u→w.cell? (a.add j)=some u)(h1:∀u∈news,u.oneCell'=true)
  (hroom:sLen+m≤sCap)(hfit:off+sLen*i.size+news.length≤cur.size):
  (Builtin.append_ #[t,t] ty #[.slice (some ⟨g,off,none⟩) sLen sCap,.slice (some a) m c]).run P w=.ok (.slice (some ⟨g,off,none⟩) (sLen+m) sCap) (w.setRow g (cur.toList.take (off+sLen*i.size)++news++cur.toList.drop (off+sLen*i.size+news.length)).toArray):=by
 have hf:=run_firstCells_some (P:=P) w i.size m a m c news hl hnews
 have hst:=run_storeCells_at P g (off+sLen*i.size) T news 0 cur w hg (by simpa using hfit) h1
 simp only[Nat.add_zero] at hst
 simp[Builtin.append_,run_underlying ht,sizeOf,typeInfo,hi,Builtin.lenOf,hroom,hf,Addr.iB,hst]
theorem fZ(sz:Nat):∀(xs:List AV),(∀x∈xs,x.cells.length=sz)→(xs.flatMap AV.cells).length=xs.length*sz
 |[],_=>by simp
 |x::xs,h=>by
  rw[List.flatMap_cons,List.length_append,h x (by simp),fZ sz xs (fun y hy=>h y (by simp[hy])),List.length_cons,Nat.add_mul];omega
theorem Qo(f:Nat→Value)(n j:Nat)(v:Value)(h:((List.range n).map f)[j]? =some v):j<n∧f j=v:=by
 simp only[List.getElem?_map,Option.map_eq_some_iff] at h
 obtain⟨k,hk,rfl⟩:=h
 rw[List.getElem?_eq_some_iff] at hk
 obtain⟨h1,h2⟩:=hk
 simp at h1 h2
 exact⟨h1,by rw[h2]⟩
theorem GD(xs ys:List AV)(i:Nat):((xs++ys).flatMap AV.cells).getD i .any=if i<(xs.flatMap AV.cells).length then (xs.flatMap AV.cells).getD i .any else (ys.flatMap AV.cells).getD (i - (xs.flatMap AV.cells).length) .any:=by
 rw[List.flatMap_append]
 simp only[List.getD_eq_getElem?_getD]
 split
 ·rw[List.getElem?_append_left ‹_›]
 ·rw[List.getElem?_append_right (by omega)]
theorem Ap(h:RS N s a w A sp){sz:Nat}{xs ys:List AV}(T:TypeId)(olds news rest:List Value)(q cap:Nat)(_:q≠0)
  (jW:∀d sz xs,s.env d≠.slice sz xs q)(hq2:∀b cs,s.loc b=some cs→∀i sz xs,cs.getD i .any≠.slice sz xs q)
  (pH:∀x∈xs,x.cells.length=sz)(q_:∀x∈ys,x.cells.length=sz)(tJ:∀x∈xs,x.cells.all AV.bK=true)(jt:∀x∈ys,x.cells.all AV.bK=true)(Aq:olds.length=xs.length*sz)(Qp:news.length=ys.length*sz)
  (wW:∀i,RV w A ((xs.flatMap AV.cells).getD i .any) (olds.getD i undef))(gv:∀i,RV w A ((ys.flatMap AV.cells).getD i .any) (news.getD i undef))
  (hcap:xs.length+ys.length≤cap)(aeA:rest.length=(cap - (xs.length+ys.length))*sz)(hlen:xs.length+ys.length≤140737488355328):
  ∃A' sp',RS N s a (w.alloc (.cells (olds++news++rest).toArray T)) A' sp'∧Ev w A (live s.loc sp) (w.alloc (.cells (olds++news++rest).toArray T)) A' (live s.loc sp')∧
   RV (w.alloc (.cells (olds++news++rest).toArray T)) A' (.slice sz (xs++ys) q) (.slice (some ⟨w.heap.size,0,none⟩) (xs.length+ys.length) cap)∧
   aek sp' (.slice sz (xs++ys) q) (.slice (some ⟨w.heap.size,0,none⟩) (xs.length+ys.length) cap):=by
 have hmul:(xs.length+ys.length)*sz≤cap*sz:=Nat.mul_le_mul_right _ hcap
 have hk:(xs.length+ys.length)*sz=xs.length*sz+ys.length*sz:=Nat.add_mul _ _ _
 have hrl:rest.length=cap*sz - (xs.length+ys.length)*sz:=by rw[aeA,Nat.sub_mul]
 have hsize:((olds++news++rest).toArray).size=cap*sz:=by simp;omega
 have h1:=h.alloc (olds++news++rest).toArray T ((xs.length+ys.length)*sz) (by omega)
 have h2:=h1.wP q jW hq2 w.heap.size ((xs.length+ys.length)*sz) (cap*sz)
  (fun _=>⟨⟨_,T,qX _ _,by omega⟩,h.fresh⟩)
  (fun q' _ _ hlt he=>absurd (he▸h.Gh ⟨q',rfl,Nat.le_refl _,hlt⟩) (Nat.lt_irrefl _))
  (fun o ho=>by
    rcases ho with ho|ho
    ·exact absurd (h.av _ _ ho).1 (Nat.lt_irrefl _)
    ·omega)
 refine⟨_,_,h2,?_,?_,.inr (by simp[aD])⟩
 ·refine⟨rfl,rfl,rfl,by rw[ae8];omega,fun b o hb hl=>⟨mU _ _ _ _ hb,?_⟩,fun b hb _=>heap_alloc _ _ _ hb,fun _ _ ha=>.inl ha,fun b o ha=>ha.elim .inl fun e=>.inr (.inr (by omega))⟩
  rintro(hl'|⟨r,hr⟩)
  ·exact hl (.inl hl')
  ·simp only[aD] at hr
   split at hr
   ·have:=hr.1;simp only at this;omega
   ·exact hl (.inr ⟨r,hr⟩)
 ·have Qq:=fZ sz xs pH
  have gw:=fZ sz ys q_
  have Qr:∀i,RV w A (((xs++ys).flatMap AV.cells).getD i .any) (if i<olds.length then olds.getD i undef else news.getD (i - olds.length) undef):=by
   intro i
   rw[GD,Qq,Aq]
   split
   ·exact wW i
   ·exact gv _
  have:=RV.slice (w:=w.alloc (.cells (olds++news++rest).toArray T)) (A:=fun b o=>A b o∨(b=w.heap.size∧o<(xs.length+ys.length)*sz)) sz (xs++ys) q w.heap.size 0 cap
   (fun i=>if i<olds.length then olds.getD i undef else news.getD (i - olds.length) undef)
   (fun x hx=>(List.mem_append.1 hx).elim (pH x) (q_ x)) (fun x hx=>(List.mem_append.1 hx).elim (tJ x) (jt x)) (by simpa using hcap) (by simpa using hlen)
   (fun i hi=>⟨?_,.inr ⟨rfl,by simpa using hi⟩⟩) (fun i=>(Qr i).mono fun b o v ha hv=>⟨by rw[mU _ _ _ _ (h.av b o ha).1];exact hv,.inl ha⟩)
  ·rw[List.length_append] at this;exact this
  ·rw[List.length_append] at hi
   rw[Nat.zero_add,Gg]
   simp only[List.getElem?_toArray,List.append_assoc,List.getD_eq_getElem?_getD]
   split
   ·rw[List.getElem?_append_left ‹_›,List.getElem?_eq_getElem ‹_›];rfl
   ·rw[List.getElem?_append_right (by omega),List.getElem?_append_left (by omega),List.getElem?_eq_getElem (by omega)];rfl
end
end Go.aq
namespace Go.aq
open Go.RowKit
section
variable {P:Program} {N:Nat} {s:St} {a:Act} {w:World} {A:aN} {sp:Sp} {K:St→Prop} {next:Act→World→Prop} {Q:Exit→Act→World→Prop} {o:Oper} {d:Nat}
theorem RV.cellsOf{sz:Nat}{xs:List AV}{own b off cap len:Nat}(h:RV w A (.slice sz xs own) (.slice (some ⟨b,off,none⟩) len cap)):(∀x∈xs,x.cells.length=sz)∧(∀x∈xs,x.cells.all AV.bK=true)∧len=xs.length∧xs.length≤cap∧xs.length≤140737488355328∧∃us:List Value,us.length=xs.length*sz∧(∀j u,us[j]? =some u→w.cell? ⟨b,off+j,none⟩=some u∧A b (off+j))∧(∀i,RV w A ((xs.flatMap AV.cells).getD i .any) (us.getD i undef)):=by
 cases h with
 |slice _ _ _ _ _ _ vs hsz h1c hcap hlen hc hr=>
  refine⟨hsz,h1c,rfl,hcap,hlen,(List.range (xs.length*sz)).map vs,by simp,fun j u hj=> ?_,fun i=> ?_⟩
  ·obtain⟨h1,rfl⟩:=Qo _ _ _ _ hj
   exact hc j h1
  ·by_cases hi:i<xs.length*sz
   ·have:=hr i
    rw[List.getD_eq_getElem?_getD (l:=(List.range (xs.length*sz)).map vs),List.getElem?_map,List.getElem?_range hi]
    exact this
   ·rw[List.getD_eq_getElem?_getD,List.getElem?_eq_none (by rw[fZ sz xs hsz];omega)]
    exact .any _
theorem RV.Qs{sz:Nat}{xs:List AV}{own b off cap:Nat}(us:List Value)(hsz:∀x∈xs,x.cells.length=sz)(h1c:∀x∈xs,x.cells.all AV.bK=true)(hcap:xs.length≤cap)(hlen:xs.length≤140737488355328)
  (hu:us.length=xs.length*sz)(hc:∀j u,us[j]? =some u→w.cell? ⟨b,off+j,none⟩=some u∧A b (off+j))(hr:∀i,RV w A ((xs.flatMap AV.cells).getD i .any) (us.getD i undef)):
  RV w A (.slice sz xs own) (.slice (some ⟨b,off,none⟩) xs.length cap):=by
 refine .slice _ _ _ _ _ _ (fun i=>us.getD i undef) hsz h1c hcap hlen (fun i hi=> ?_) hr
 rw[List.getD_eq_getElem?_getD,List.getElem?_eq_getElem (by omega)]
 exact hc i _ (by rw[List.getElem?_eq_getElem (by omega)];rfl)
theorem RV.Ar{sz sz':Nat}{xs:List AV}{own:Nat}{v:Value}(h:RV w A (.slice sz xs own) v)(hs:sz=sz'∨xs=[]):RV w A (.slice sz' xs own) v:=by
 rcases hs with rfl|rfl
 ·exact h
 ·cases h with
  |de=>exact .de _ _
  |slice _ _ _ b off cap vs hsz h1c hcap hlen hc hr=>
   exact .slice _ _ _ _ _ _ vs (by simp) (by simp) hcap hlen (fun i hi=>by simp at hi) hr
theorem Qt(xs:List AV)(h:∀x∈xs,x.cells.all AV.bK=true):∀c∈xs.flatMap AV.cells,c.bK=true:=by
 intro c hc
 obtain⟨x,hx,tJ⟩:=List.mem_flatMap.1 hc
 exact(List.all_eq_true.1 (h x hx)) c tJ
theorem Qu(h:RS N s a w A sp){sz:Nat}{xs ys:List AV}{g off cap:Nat}{r:Nat}(q:Nat)(hq:q≠0)
  (hx:RV w A (.slice sz xs r) (.slice (some ⟨g,off,none⟩) xs.length cap))(kW:sp r=(g,off+xs.length*sz,off+cap*sz))
  (news:List Value)(q_:∀x∈ys,x.cells.length=sz)(jt:∀x∈ys,x.cells.all AV.bK=true)(Qp:news.length=ys.length*sz)(hne:0<ys.length*sz)
  (gv:∀i,RV w A ((ys.flatMap AV.cells).getD i .any) (news.getD i undef))
  (hcap:xs.length+ys.length≤cap)(hlen:xs.length+ys.length≤140737488355328):
  ∃cur T A' sp',w.heap[g]? =some (.cells cur T (0,0))∧off+xs.length*sz+news.length≤cur.size∧
   (∀w',w'=w.setRow g (cur.toList.take (off+xs.length*sz)++news++cur.toList.drop (off+xs.length*sz+news.length)).toArray→
   RS N ((s.aT r).aT q) a w' A' sp'∧Ev w A (live s.loc sp) w' A' (live ((s.aT r).aT q).loc sp')∧
   RV w' A' (.slice sz (xs++ys) q) (.slice (some ⟨g,off,none⟩) (xs.length+ys.length) cap)∧
   aek sp' (.slice sz (xs++ys) q) (.slice (some ⟨g,off,none⟩) (xs.length+ys.length) cap)):=by
 have hmul:(xs.length+ys.length)*sz≤cap*sz:=Nat.mul_le_mul_right _ hcap
 have hk:(xs.length+ys.length)*sz=xs.length*sz+ys.length*sz:=Nat.add_mul _ _ _
 have hlt:(sp r).2.1<(sp r).2.2:=by rw[kW];dsimp only;omega
 obtain⟨⟨cur,T,hg,hcs⟩,tK⟩:=h.cg r hlt
 rw[kW] at hg hcs tK
 dsimp only at hg hcs tK
 have hfit:off+xs.length*sz+news.length≤cur.size:=by omega
 refine⟨cur,T,fun b o=>A b o∨(b=g∧off+xs.length*sz≤o∧o<off+(xs.length+ys.length)*sz),aD (aD (aD sp r (0,0,0)) q (0,0,0)) q (g,off+(xs.length+ys.length)*sz,off+cap*sz),hg,hfit,fun w' i_=> ?_⟩
 have hcell:∀o,¬(off+xs.length*sz≤o∧o<off+(xs.length+ys.length)*sz)→w'.cell? ⟨g,o,none⟩=w.cell? ⟨g,o,none⟩:=by
  intro o ho
  rw[i_,cell_setRow_same w g o cur _ T (0,0) hg]
  have e:=agr cur news (off+xs.length*sz) o hfit
  rw[if_neg (by omega)] at e
  simp only[Array.getD_eq_getD_getElem?] at e
  simp only[World.cell?,hg]
  by_cases kX:o<cur.size
  ·rw[Array.getElem?_eq_getElem (by simp;omega),Array.getElem?_eq_getElem kX] at e
   simp only[Option.getD_some] at e
   rw[Array.getElem?_eq_getElem (by simp;omega),Array.getElem?_eq_getElem kX,e];rfl
  ·rw[Array.getElem?_eq_none (by simp;omega),Array.getElem?_eq_none (by omega)];rfl
 have hnew:∀j u,news[j]? =some u→w'.cell? ⟨g,off+xs.length*sz+j,none⟩=some u:=by
  intro j u hj
  have hj':=(List.getElem?_eq_some_iff.1 hj).1
  rw[i_,cell_setRow_same w g _ cur _ T (0,0) hg]
  simp only[List.getElem?_toArray]
  rw[List.append_assoc,List.getElem?_append_right (by simp;omega),List.getElem?_append_left (by simp;omega)]
  have:min (off+xs.length*sz) cur.size=off+xs.length*sz:=by omega
  simp only[List.length_take,Array.length_toList,this,Nat.add_sub_cancel_left]
  exact hj
 have hA:∀o,A g o→¬(off+xs.length*sz≤o∧o<off+cap*sz):=fun o ho hh=>(h.av g o ho).2 (.inr ⟨r,by rw[kW];exact⟨rfl,hh⟩⟩)
 have As:∀b o v,A b o→w.cell? ⟨b,o,none⟩=some v→w'.cell? ⟨b,o,none⟩=some v:=by
  intro b o v ha hv
  by_cases e:b=g
  ·subst e
   have:=hA o ha
   rw[hcell o (by omega)];exact hv
  ·rw[i_,cell_setRow_other _ _ _ _ _ e];exact hv
 have At:∀b,b≠g→w'.heap[b]? =w.heap[b]? :=fun b hb=>by rw[i_,wN _ _ _ _ hb]
 have hsame:w'.heap[g]? =some (.cells (cur.toList.take (off+xs.length*sz)++news++cur.toList.drop (off+xs.length*sz+news.length)).toArray T (0,0)):=by rw[i_];exact setRow_heap _ _ _ _ _ _ hg
 have hsize':((cur.toList.take (off+xs.length*sz)++news++cur.toList.drop (off+xs.length*sz+news.length)).toArray).size=cur.size:=by simp only[List.size_toArray,List.length_append,List.length_take,List.length_drop,Array.length_toList];omega
 have Au:w'.heap.size=w.heap.size:=by rw[i_,size_setRow]
 have h2:=(h.aT r).aT q
 have jW:∀k,k≠q→k≠r→aD (aD sp r (0,0,0)) q (0,0,0) k=sp k:=fun k e1 e2=>by simp[aD,e1,e2]
 have GF:∀k,(aD (aD sp r (0,0,0)) q (0,0,0) k).2.1<(aD (aD sp r (0,0,0)) q (0,0,0) k).2.2→k≠q∧k≠r:=by
  intro k hk
  refine⟨fun e=> ?_,fun e=> ?_⟩
  ·subst e;simp[aD] at hk
  ·subst e;simp only[aD] at hk;split at hk<;>simp at hk
 have h3:=h2.world (w':=w') (A':=fun b o=>A b o∨(b=g∧off+xs.length*sz≤o∧o<off+(xs.length+ys.length)*sz)) As (fun b o ha=>.inl ha)
  (fun b cs hb=>At b (fun e=>by subst e;simp[St.aT,tK] at hb)) (fun k hk=>by
    obtain⟨⟨vs,T',g1,g2⟩,_⟩:=h2.cg k hk
    by_cases e:(aD (aD sp r (0,0,0)) q (0,0,0) k).1=g
    ·rw[e] at g1⊢
     rw[hg] at g1;injection g1 with g1;injection g1 with g1 _ _;subst g1
     exact⟨_,T,hsame,by omega⟩
    ·exact⟨vs,T',(At _ e).trans g1,g2⟩) (fun b o ha=>by
    rcases ha with ha|⟨rfl,h4,h5⟩
    ·exact⟨by rw[Au];exact(h2.av b o ha).1,(h2.av b o ha).2⟩
    ·refine⟨by rw[Au];exact cy hg,?_⟩
     rintro(hl|⟨k,jY,hk2,mY⟩)
     ·exact hl (by simp[St.aT,tK])
     ·obtain⟨e1,e2⟩:=GF k (by omega)
      rw[jW k e1 e2] at jY hk2 mY
      have:=h.dO k r e2 (by omega) hlt (by rw[jY,kW])
      rw[kW] at this;dsimp only at this;omega)
 have h4:=h3.wP q (qZ _ _ hq) (agm _ _ hq) g (off+(xs.length+ys.length)*sz) (off+cap*sz)
  (fun _=>⟨⟨_,T,hsame,by omega⟩,by simp[St.aT,tK]⟩)
  (fun k hkq hlt' hk he=>by
    obtain⟨e1,e2⟩:=GF k hk
    rw[jW k e1 e2] at hk he⊢
    have:=h.dO k r e2 hk hlt (by rw[he,kW])
    rw[kW] at this;dsimp only at this;omega)
  (fun o ho=>by
    rcases ho with ho|ho
    ·have:=hA o ho;omega
    ·omega)
 refine⟨h4,?_,?_,.inr (by simp[aD])⟩
 ·refine⟨by rw[i_];rfl,by rw[i_];rfl,by rw[i_];rfl,by rw[Au];exact Nat.le_refl _,fun b o hb hl=>⟨?_,fun hl'=>hl ?_⟩,fun b hb hl=> ?_,fun _ _ ha=>.inl ha,fun b o ha=> ?_⟩
  ·by_cases e:b=g
   ·subst e
    refine hcell o (fun hh=>hl (.inr ⟨r,by rw[kW];dsimp only;omega⟩))
   ·rw[i_,cell_setRow_other _ _ _ _ _ e]
  ·rcases hl' with hl'|⟨k,hk⟩
   ·exact .inl (by intro hn;exact hl' (by simp[St.aT,hn]))
   ·by_cases e:k=q
    ·subst e;simp only[aD,if_true] at hk
     exact .inr ⟨r,by rw[kW];dsimp only;omega⟩
    ·simp only[aD,e,if_false] at hk
     split at hk
     ·dsimp only at hk;omega
     ·exact .inr ⟨k,hk⟩
  ·by_cases e:b=g
   ·subst e;exact absurd (.inr ⟨r,by rw[kW];dsimp only;exact⟨rfl,Nat.le_refl _,by omega⟩⟩) (hl (off+xs.length*sz))
   ·exact At b e
  ·rcases ha with ha|⟨rfl,h5,h6⟩
   ·exact .inl ha
   ·exact .inr (.inl (.inr ⟨r,by rw[kW];dsimp only;omega⟩))
 ·obtain⟨pH,tJ,_,_,_,us,wX,Qv,wY⟩:=hx.cellsOf
  have hm:∀{x v},RV w A x v→RV w' (fun b o=>A b o∨(b=g∧off+xs.length*sz≤o∧o<off+(xs.length+ys.length)*sz)) x v:=fun hx=>hx.mono fun b o v ha hv=>⟨As b o v ha hv,.inl ha⟩
  have:=RV.Qs (w:=w') (A:=fun b o=>A b o∨(b=g∧off+xs.length*sz≤o∧o<off+(xs.length+ys.length)*sz)) (sz:=sz) (xs:=xs++ys) (own:=q) (b:=g) (off:=off) (cap:=cap) (us++news) (fun x hx=>(List.mem_append.1 hx).elim (pH x) (q_ x)) (fun x hx=>(List.mem_append.1 hx).elim (tJ x) (jt x)) (by simpa using hcap) (by simpa using hlen) (by simp;omega) (fun j u hj=> ?_) (fun i=> ?_)
  ·rw[List.length_append] at this;exact this
  ·by_cases hjl:j<us.length
   ·rw[List.getElem?_append_left hjl] at hj
    have:=Qv j u hj
    exact⟨As _ _ _ this.2 this.1,.inl this.2⟩
   ·rw[List.getElem?_append_right (by omega)] at hj
    have hj':=(List.getElem?_eq_some_iff.1 hj).1
    have:=hnew _ u hj
    rw[wX] at this
    have e:off+xs.length*sz+(j - xs.length*sz)=off+j:=by omega
    rw[e] at this
    exact⟨this,.inr ⟨rfl,by omega,by omega⟩⟩
  ·rw[GD,fZ sz xs pH]
   split
   ·have:=hm (wY i)
    rw[List.getD_eq_getElem?_getD (l:=us++news),List.getElem?_append_left (by omega)]
    rw[List.getD_eq_getElem?_getD (l:=us)] at this
    exact this
   ·have:=hm (gv (i - xs.length*sz))
    rw[List.getD_eq_getElem?_getD (l:=us++news),List.getElem?_append_right (by omega),wX]
    rw[List.getD_eq_getElem?_getD (l:=news)] at this
    exact this
theorem RV.drew{x:AV}{v:Value}(h:RV w A x v):RV w.drew A x v:=RV.mono (w:=w) (w':=w.drew) (A:=A) (A':=A) (fun _ _ _ ha hv=>⟨hv,ha⟩) h
theorem RV.GG{ys:List AV}(jt:∀x∈ys,x.cells.all AV.bK=true){news:List Value}(hl:news.length=(ys.flatMap AV.cells).length)(gv:∀i,RV w A ((ys.flatMap AV.cells).getD i .any) (news.getD i undef)):∀u∈news,u.oneCell'=true:=by
 intro u hu
 obtain⟨i,hi,rfl⟩:=List.getElem_of_mem hu
 have h1:=gv i
 rw[List.getD_eq_getElem?_getD,List.getD_eq_getElem?_getD,List.getElem?_eq_getElem (by omega),List.getElem?_eq_getElem hi] at h1
 exact h1.wU (Qt ys jt _ (by simp))
theorem Qw{t e:TypeId}{i:TypeInfo}{z:Value}{x y:Operand}{mx my:ai}(hop:o.op=.call {callee:=.builtin .append,args:= #[x,y],argTypes:= #[t,t]})(hd:o.dst=some d)(hN:d<N)
  (hx:aF x=some mx)(hy:aF y=some my)(ht:P.underlying t=some (.slice e))(hi:P.info? e=some i)(hz:i.zero=some z)(hzs:z.cells.size=i.size)(hs0:0<i.size)
  (h:RS N s a w A sp)(hv:vc1 P (.app d mx my i.size i.bytes) s K)(hn:Next s w A sp N K next):o.wp P a w next Q:=by
 have h1:=bl h hx
 have h2:=(bl h hy).1
 have hex:∀v w',(Builtin.append_ #[t,t] o.type #[a.eval x,a.eval y]).run P w=.ok v w'→(execOp a.eval o).run P w=.ok (.value v) w':=by
  intro v w' hr
  simp[execOp,hop,resolve,invoke,builtin,hr]
 simp only[vc1] at hv
 split at hv
 ·rename_i mS xs r mT ys r2 e1 e2
  obtain⟨hr0,pH,q_,hbytes,hlen,hK⟩:=hv
  rw[e1] at h1;rw[e2] at h2
  subst pH
  have hY:=h2.Ar q_
  have hq:d+1≠0:=by omega
  have dJ:Ev w A (live s.loc sp) w A (live ((s.aT r).aT (d+1)).loc (aD (aD sp r (0,0,0)) (d+1) (0,0,0))):=(Ev.aT r).trans (Ev.aT (d+1))
  have hR:=(h.aT r).aT (d+1)
  have tL:∀n:Nat,n≤140737488355328→n≤maxLen:=by unfold maxLen;omega
  have hzero:∀base yb n cap c,a.eval x=.slice base n cap→a.eval y=.slice yb 0 c→n≤cap→ys=[]→o.wp P a w next Q:=by
   intro base yb n cap c ex ey hnc hys
   subst hys
   rw[List.append_nil] at hK
   refine fin' (h.rename r (d+1) hq) (.same fun b o=>Al r (d+1)) hd hN (hex _ _ (by rw[ex,ey];exact Qn t e o.type i ht hi base yb n cap c hnc)) (x:=.slice i.size xs (d+1)) ?_ ?_ hK hn
   ·rw[←ex];exact h1.1.own
   ·rcases agp hr0 h1.2 h1.1 with e3|⟨b,off,cap',e3,_,e4⟩
    ·rw[ex] at e3;injection e3 with e3 e5 e6;subst e3;trivial
    ·rw[ex] at e3;injection e3 with e3 e5 e6;subst e3;subst e5;subst e6
     exact .inr (by simp[aD,e4])
  generalize tM:a.eval y=vy at hY hzero
  cases hY with
  |de=>
   rcases agp hr0 h1.2 h1.1 with e3|⟨b,off,cap,e3,hc,_⟩
   ·exact hzero _ _ _ _ _ e3 rfl (Nat.le_refl _) rfl
   ·exact hzero _ _ _ _ _ e3 rfl hc rfl
  |slice _ _ _ b' off' cap' vs' ja jZ pI pJ jt gv=>
   have Av:=(RV.slice (w:=w) (A:=A) i.size ys r2 b' off' cap' vs' ja jZ pI pJ jt gv).cellsOf
   obtain⟨_,_,_,_,_,news,fk,hnc,mZ⟩:=Av
   by_cases hys:ys=[]
   ·subst hys
    rcases agp hr0 h1.2 h1.1 with e3|⟨b,off,cap,e3,hc,_⟩
    ·exact hzero _ _ _ _ _ e3 rfl (Nat.le_refl _) rfl
    ·exact hzero _ _ _ _ _ e3 rfl hc rfl
   ·have gw:0<ys.length:=List.length_pos_iff.2 hys
    have hne:0<ys.length*i.size:=Nat.mul_pos gw hs0
    have hone:=RV.GG jZ (by rw[fk,fZ i.size ys ja]) mZ
    have hnews:∀j u,news[j]? =some u→w.cell? ((⟨b',off',none⟩:Addr).add j)=some u:=fun j u hj=>by rw[Addr.iB];exact(hnc j u hj).1
    rcases agp hr0 h1.2 h1.1 with e3|⟨b,off,cap,e3,hc,hsp⟩
    ·
     have hxs:xs=[]:=by have:=h1.1;rw[e3] at this;cases this;rfl
     subst hxs
     have hrun:=run_append_nil (P:=P) w t o.type e i z ht hi hz ⟨b',off',none⟩ ys.length cap' news fk hnews gw (by simp at hlen;omega) (by simp at hbytes;omega)
     obtain⟨A',sp',g1,g2,g3,g4⟩:=Ap hR.drew (xs:=[]) (ys:=ys) (sz:=i.size) e [] news (Builtin.zeroCells z.cells (grownCap w ys.length 0 e - ys.length)).toList (d+1) (grownCap w ys.length 0 e) hq (qZ _ _ hq) (agm _ _ hq) (by simp) ja (by simp) jZ (by simp) fk (by simp;exact .any _) (fun k=>(mZ k).drew) (by simp;exact grownCap_ge w _ _ _) (by simp[Builtin.zeroCells,hzs]) (by simpa using hlen)
     simp only[List.length_nil,Nat.zero_add,List.nil_append] at g1 g2 g3 g4 hK
     refine fin' g1 ((dJ.trans (Ev.drew _)).trans g2) hd hN (hex _ _ ?_) g3 g4 hK hn
     rw[e3,tM,hrun]
     congr 2
     rw[←Array.toList_inj.1 (show(news++(Builtin.zeroCells z.cells (grownCap w ys.length 0 e - ys.length)).toList).toArray.toList=(news.toArray++Builtin.zeroCells z.cells (grownCap w ys.length 0 e - ys.length)).toList by simp)]
    ·by_cases hroom:xs.length+ys.length≤cap
     ·
      have hX:=h1.1
      rw[e3] at hX
      obtain⟨cur,T,A',sp',g1,g2,g3⟩:=Qu h (d+1) hq hX hsp news ja jZ fk hne mZ hroom hlen
      have hrun:=GC (P:=P) (w:=w) t o.type e i ht hi b off xs.length cap cur T g1 ⟨b',off',none⟩ ys.length cap' news fk hnews hone hroom g2
      obtain⟨g4,g5,g6,g7⟩:=g3 _ rfl
      exact fin' g4 g5 hd hN (hex _ _ (by rw[e3,tM];exact hrun)) g6 g7 hK hn
     ·
      have hX:=h1.1
      rw[e3] at hX
      obtain⟨Qx,Qy,_,_,_,olds,gM,Qz,eY⟩:=hX.cellsOf
      have holds:∀j u,olds[j]? =some u→w.cell? ((⟨b,off,none⟩:Addr).add j)=some u:=fun j u hj=>by rw[Addr.iB];exact(Qz j u hj).1
      have hrun:=run_append_grow (P:=P) w t o.type e i z ht hi hz ⟨b,off,none⟩ xs.length cap olds gM holds ⟨b',off',none⟩ ys.length cap' news fk hnews (by omega) (by omega) (growslice_fits (by omega) hbytes)
      obtain⟨A',sp',g1,g2,g3,g4⟩:=Ap hR.drew (xs:=xs) (ys:=ys) (sz:=i.size) e olds news (Builtin.zeroCells z.cells (grownCap w (xs.length+ys.length) cap e - (xs.length+ys.length))).toList (d+1) (grownCap w (xs.length+ys.length) cap e) hq (qZ _ _ hq) (agm _ _ hq) Qx ja Qy jZ gM fk (fun k=>(eY k).drew) (fun k=>(mZ k).drew) (grownCap_ge w _ _ _) (by simp[Builtin.zeroCells,hzs]) hlen
      refine fin' g1 ((dJ.trans (Ev.drew _)).trans g2) hd hN (hex _ _ ?_) g3 g4 hK hn
      rw[e3,tM,hrun]
      congr 2
      rw[←Array.toList_inj.1 (show(olds++news++(Builtin.zeroCells z.cells (grownCap w (xs.length+ys.length) cap e - (xs.length+ys.length))).toList).toArray.toList=(olds.toArray++news.toArray++Builtin.zeroCells z.cells (grownCap w (xs.length+ys.length) cap e - (xs.length+ys.length))).toList by simp)]
 ·exact hv.elim
end
end Go.aq
namespace Go.aq
open Go.RowKit
section
variable {P:Program} {N:Nat} {s:St} {a:Act} {w:World} {A:aN} {sp:Sp} {K:St→Prop} {next:Act→World→Prop} {Q:Exit→Act→World→Prop} {o:Oper} {d:Nat}
theorem QA(us:List Value):∀(k off:Nat) (cs:Array Value),(us.zipIdx k).foldl (fun(cs:Array Value) (p:Value×Nat)=>cs.setIfInBounds (off+p.2) p.1) cs=(us.zipIdx 0).foldl (fun(cs:Array Value) (p:Value×Nat)=>cs.setIfInBounds (off+k+p.2) p.1) cs:=by
 induction us with
 |nil=>intro k off cs;rfl
 |cons u us ih=>
  intro k off cs
  simp only[List.zipIdx_cons,List.foldl_cons]
  rw[ih (k+1) off,ih 1 (off+k)]
  simp only[Nat.add_zero,Nat.add_assoc]
theorem GH:∀(us:List Value) (off:Nat) (cs:Array Value),off+us.length≤cs.size→
  ((us.zipIdx 0).foldl (fun(cs:Array Value) (p:Value×Nat)=>cs.setIfInBounds (off+p.2) p.1) cs).size=cs.size∧
  ∀i,((us.zipIdx 0).foldl (fun(cs:Array Value) (p:Value×Nat)=>cs.setIfInBounds (off+p.2) p.1) cs).getD i undef=if off≤i∧i<off+us.length then us.getD (i - off) undef else cs.getD i undef
 |[],off,cs,_=>⟨rfl,fun i=>by simp;intro h1 h2;omega⟩
 |u::us,off,cs,h=>by
  simp only[List.length_cons] at h
  simp only[List.zipIdx_cons,List.foldl_cons,Nat.zero_add,Nat.add_zero]
  rw[QA us 1 off]
  obtain⟨h1,h2⟩:=GH us (off+1) (cs.setIfInBounds off u) (by simp;omega)
  refine⟨by rw[h1];simp,fun i=> ?_⟩
  rw[h2]
  by_cases e:off+1≤i∧i<off+1+us.length
  ·rw[if_pos e,if_pos (by simp;omega)]
   have:i - off=(i - (off+1))+1:=by omega
   rw[this];simp
  ·rw[if_neg e]
   by_cases e2:i=off
   ·subst e2
    rw[if_pos (by simp)]
    simp only[Nat.sub_self,List.getD_eq_getElem?_getD,List.getElem?_cons_zero,Array.getD_eq_getD_getElem?]
    rw[Array.getElem?_setIfInBounds_self_of_lt (by omega)]
   ·rw[if_neg (by simp;omega)]
    simp only[Array.getD_eq_getD_getElem?]
    rw[Array.getElem?_setIfInBounds_ne (by omega)]
def GI(x:Operand)(m:ai):Prop:=∀(N:Nat) (s:St) (a:Act) (w:World) (A:aN) (sp:Sp),RS N s a w A sp→RV w A (m.ev s.env) (a.eval x)
theorem Aw{P:Program}{t:TypeId}{x:Operand}{m:ai}(h:afD P t x=some m):GI x m:=fun _ _ _ _ _ _ hs=>(Ah hs h).1
def tN(place:Nat→Option (Nat×Nat)):List (Nat×Operand)→List (Nat×Nat×ai)→Prop
 |[],[]=>True
 |(i,x)::ps,(off,n,m)::qs=>GI x m∧place i=some (off,n)∧0<n∧tN place ps qs
 |_,_=>False
theorem wZ(h:RS N s a w A sp)(place:Nat→Option (Nat×Nat)):∀(ps:List (Nat×Operand)) (qs:List (Nat×Nat×ai)) (cs:List AV) (vs:Array Value) (k:List AV→Prop),
  tN place ps qs→vs.size=cs.length→(∀i,RV w A (cs.getD i .any) (vs.getD i undef))→kS s.env cs qs k→
  ∃cs' vs',Instr.fill place vs (ps.map fun p=>(p.1,a.eval p.2))=some vs'∧vs'.size=cs'.length∧(∀i,RV w A (cs'.getD i .any) (vs'.getD i undef))∧k cs'
 |[],[],cs,vs,k,_,hs,hr,hk=>⟨cs,vs,rfl,hs,hr,hk⟩
 |(i,x)::ps,(off,n,m)::qs,cs,vs,k,hp,hs,hr,hk=>by
  obtain⟨hx,ju,hn0,hp⟩:=hp
  obtain⟨hl,hoff,hk⟩:=hk
  have h1:=hx _ _ _ _ _ _ h
  obtain⟨c1,c2⟩:=h1.wT (by intro e;rw[e] at hl;simp at hl;omega)
  obtain⟨f1,f2⟩:=GH (a.eval x).cells.toList off vs (by simp;omega)
  have QB:(a.eval x).cells.zipIdx.foldl (fun cs (c,j)=>cs.setIfInBounds (off+j) c) vs=((a.eval x).cells.toList.zipIdx 0).foldl (fun(cs:Array Value) (p:Value×Nat)=>cs.setIfInBounds (off+p.2) p.1) vs:=by rw[←Array.foldl_toList];simp
  obtain⟨cs',vs',g1,g2,g3,g4⟩:=wZ h place ps qs (splice cs off ((m.ev s.env).cells.map AV.erase0)) _ k hp (by rw[f1,kT];exact hs) (fun j=>by
   rw[f2,mW _ _ _ _ (by simp;omega)]
   simp only[List.length_map,Array.length_toList,c1]
   split
   ·rw[iV]
    have:=(c2 (j - off)).erase0
    simpa[List.getD_eq_getElem?_getD,Array.getD_eq_getD_getElem?] using this
   ·exact hr j) hk
  refine⟨cs',vs',?_,g2,g3,g4⟩
  rw[List.map_cons,Instr.fill]
  simp only[ju]
  rw[if_neg (by simp;omega),QB]
  exact g1
 |[],_::_,_,_,_,hp,_,_,_=>hp.elim
 |_::_,[],_,_,_,hp,_,_,_=>hp.elim
theorem GJ{P:Program}{w:World}:∀(fs:List Field),(∀f∈fs,∃i,P.info? f.type=some i)→(fs.mapM fun f=>(do pure (f.offset,←sizeOf f.type):Sem (Nat×Nat))).run P w=.ok (fs.map fun f=>(f.offset,P.cellsOf f.type)) w
 |[],_=>rfl
 |f::fs,h=>by
  obtain⟨i,hi⟩:=h f (by simp)
  have ih:=GJ (w:=w) fs (fun g hg=>h g (by simp[hg]))
  simp only[List.mapM_cons,Sem.run_bind,sizeOf,typeInfo,run_program,Result.andThen_ok,hi,Sem.run_pure,List.map_cons,Program.cellsOf,Option.map_some,Option.getD_some] at ih⊢
  rw[ih]
  rfl
theorem GK{fs:Array Field}(place:Nat→Option (Nat×Nat))(ju:∀i f n,fs[i]? =some f→cA P f.type=some n→place i=some (f.offset,n)):∀(ps:List (Nat×Operand)) (qs:List (Nat×Nat×ai)),tB P fs ps=some qs→tN place ps qs
 |[],qs,h=>by injection h with h;subst h;trivial
 |(i,x)::ps,qs,h=>by
  simp only[tB] at h
  split at h
  ·rename_i f ys h1 h3
   split at h
   ·rename_i n y hn h2
    split at h
    ·injection h with h;subst h
     exact⟨Aw h2,ju i f n h1 hn,by omega,GK place ju ps ys h3⟩
    ·cases h
   ·cases h
  ·cases h
theorem GL{e:TypeId}{sz:Nat}(h0:0<sz):∀(ps:List (Nat×Operand)) (qs:List (Nat×Nat×ai)),tC P e sz ps=some qs→tN (fun i=>some (i*sz,sz)) ps qs
 |[],qs,h=>by injection h with h;subst h;trivial
 |(i,x)::ps,qs,h=>by
  simp only[tC] at h
  split at h
  ·rename_i y ys h1 h2
   injection h with h;subst h
   exact⟨Aw h1,rfl,h0,GL h0 ps ys h2⟩
  ·cases h
theorem QC{t:TypeId}{ps:Array (Nat×Operand)}{qs:List (Nat×Nat×ai)}{z:List AV}{fs:Array Field}(hop:o.op=.build t ps)(hd:o.dst=some d)(hN:d<N)
  (hz:js P t z=true)(ht:P.underlying t=some (.struct fs))(eR:∀f∈fs.toList,∃i,P.info? f.type=some i)(hq:tB P fs ps.toList=some qs)
  (h:RS N s a w A sp)(hv:vc1 P (.build d z qs) s K)(hn:Next s w A sp N K next):o.wp P a w next Q:=by
 obtain⟨i,v,hi,hz,hs,_,hr,hc⟩:=agq (w:=w) (A:=A) hz
 have hm:=GJ (P:=P) (w:=w) fs.toList eR
 have hok:=GK (P:=P) (fs:=fs) (fun i=>(fs.map fun f=>(f.offset,P.cellsOf f.type))[i]?) (fun i f n h1 h2=>by
  simp only[cA,Option.map_eq_some_iff] at h2
  obtain⟨j,hj,rfl⟩:=h2
  simp[h1,Program.cellsOf,hj]) ps.toList qs hq
 obtain⟨cs',vs',g1,g2,g3,g4⟩:=wZ h _ ps.toList qs z v.cells _ hok hs hr hv
 refine fin (v:=.agg vs') h hd hN ?_ (.agg _ _ g2 g3) trivial g4 hn
 have QD:(fs.mapM fun f=>(do pure (f.offset,←sizeOf f.type):Sem (Nat×Nat))).run P w=.ok (fs.map fun f=>(f.offset,P.cellsOf f.type)) w:=by
  rw[Array.mapM_eq_mapM_toList,Sem.run_map,hm]
  simp only[Result.andThen_ok]
  congr 1
  exact Array.ext' (by simp)
 have oe:(ps.map fun x=>(x.1,a.eval x.2)).toList=ps.toList.map fun p=>(p.1,a.eval p.2):=by simp
 simp only[execOp,hop,Instr.build,zeroValue,typeInfo,Sem.run_bind,run_program,Result.andThen_ok,hi,Sem.run_pure,hz,run_underlying ht,QD,oe,g1]
theorem QE{t e:TypeId}{len sz:Nat}{ps:Array (Nat×Operand)}{qs:List (Nat×Nat×ai)}{z:List AV}(hop:o.op=.build t ps)(hd:o.dst=some d)(hN:d<N)
  (hz:js P t z=true)(ht:P.underlying t=some (.array len e))(hsz:cA P e=some sz)(h0:0<sz)(hq:tC P e sz ps.toList=some qs)
  (h:RS N s a w A sp)(hv:vc1 P (.build d z qs) s K)(hn:Next s w A sp N K next):o.wp P a w next Q:=by
 obtain⟨i,v,hi,hz,hs,_,hr,hc⟩:=agq (w:=w) (A:=A) hz
 simp only[cA,Option.map_eq_some_iff] at hsz
 obtain⟨inf,eA,rfl⟩:=hsz
 obtain⟨cs',vs',g1,g2,g3,g4⟩:=wZ h _ ps.toList qs z v.cells _ (GL h0 _ _ hq) hs hr hv
 refine fin (v:=.agg vs') h hd hN ?_ (.agg _ _ g2 g3) trivial g4 hn
 have oe:(ps.map fun x=>(x.1,a.eval x.2)).toList=ps.toList.map fun p=>(p.1,a.eval p.2):=by simp
 simp only[execOp,hop,Instr.build,zeroValue,sizeOf,typeInfo,Sem.run_bind,run_program,Result.andThen_ok,hi,eA,Sem.run_pure,hz,run_underlying ht,oe,g1]
end
end Go.aq
namespace Go.aq
open Go.RowKit
section
variable {P:Program} {N:Nat} {s:St} {a:Act} {w:World} {A:aN} {sp:Sp} {K:St→Prop} {next:Act→World→Prop} {Q:Exit→Act→World→Prop} {o:Oper} {d:Nat}
theorem QF(sz:Nat)(xs:List AV)(i:Nat)(y:AV)(h:∀x∈xs,x.cells.length=sz)(hy:y.cells.length=sz)(hi:i<xs.length):(xs.set i y).flatMap AV.cells=splice (xs.flatMap AV.cells) (i*sz) y.cells:=by
 have dY:∀x∈xs.set i y,x.cells.length=sz:=by
  intro x hx
  rcases List.mem_or_eq_of_mem_set hx with hx|rfl
  ·exact h x hx
  ·exact hy
 have hmul:(i+1)*sz≤xs.length*sz:=Nat.mul_le_mul_right _ hi
 rw[Nat.add_mul,Nat.one_mul] at hmul
 have kV:=fZ sz xs h
 have m0:=fZ sz _ dY
 rw[List.length_set] at m0
 apply List.ext_getElem?
 intro j
 by_cases hj:j<xs.length*sz
 ·have key:((xs.set i y).flatMap AV.cells).getD j .any=(splice (xs.flatMap AV.cells) (i*sz) y.cells).getD j .any:=by
   rw[mW _ _ _ _ (by omega),hy]
   have GM:0<sz:=by
    rcases Nat.eq_zero_or_pos sz with e|e
    ·subst e;simp at hj
    ·exact e
   have ej:j=j / sz*sz+j%sz:=by rw[Nat.mul_comm];exact(Nat.div_add_mod j sz).symm
   have hq:j / sz<xs.length:=Nat.div_lt_of_lt_mul (by rw[Nat.mul_comm];exact hj)
   have hm:=Nat.mod_lt j GM
   have e1:=tF AV.cells sz (xs.set i y) (j / sz) dY (by simpa using hq) (j%sz) .any .any hm
   have e2:=tF AV.cells sz xs (j / sz) h hq (j%sz) .any .any hm
   rw[←ej] at e1 e2
   rw[e1]
   by_cases hji:j / sz=i
   ·rw[if_pos (by rw[←hji];omega)]
    have e3:(xs.set i y).getD (j / sz) .any=y:=by rw[List.getD_eq_getElem?_getD,hji,List.getElem?_set_self hi];rfl
    have e4:j - i*sz=j%sz:=by rw[←hji];omega
    rw[e3,e4]
   ·have hni:¬(i*sz≤j∧j<i*sz+sz):=by
     rintro⟨h1,h2⟩
     have h3:i≤j / sz:=(Nat.le_div_iff_mul_le GM).2 h1
     have h4:j / sz<i+1:=Nat.div_lt_of_lt_mul (by rw[Nat.mul_comm,Nat.add_mul,Nat.one_mul];exact h2)
     omega
    rw[if_neg hni,e2]
    have e3:(xs.set i y).getD (j / sz) .any=xs.getD (j / sz) .any:=by rw[List.getD_eq_getElem?_getD,List.getElem?_set_ne (by omega),List.getD_eq_getElem?_getD]
    rw[e3]
  simp only[List.getD_eq_getElem?_getD] at key
  rw[List.getElem?_eq_getElem (by omega),List.getElem?_eq_getElem (by rw[kT];omega)] at key⊢
  simpa using key
 ·rw[List.getElem?_eq_none (by omega),List.getElem?_eq_none (by rw[kT];omega)]
theorem GN(e:Nat→AV)(sz:Nat):∀(ps:List (Nat×ai)) (xs:List AV) (k:List AV→Prop),(∀x∈xs,x.cells.length=sz)→(∀x∈xs,x.cells.all AV.bK=true)→gL e sz xs ps k→kS e (xs.flatMap AV.cells) (ps.map fun p=>(p.1*sz,sz,p.2)) (fun cs=>∃xs',cs=xs'.flatMap AV.cells∧xs'.length=xs.length∧(∀x∈xs',x.cells.length=sz)∧(∀x∈xs',x.cells.all AV.bK=true)∧k xs')
 |[],xs,k,h1,h2,hk=>⟨xs,rfl,rfl,h1,h2,hk⟩
 |(i,m)::ps,xs,k,h1,h2,hk=>by
  obtain⟨hl,hc,hi,hk⟩:=hk
  have hmul:(i+1)*sz≤xs.length*sz:=Nat.mul_le_mul_right _ hi
  rw[Nat.add_mul,Nat.one_mul] at hmul
  have hy:(m.ev e).erase.cells.length=sz:=by rw[ahn];simpa using hl
  have iC:(m.ev e).erase.cells.all AV.bK=true:=by
   rw[ahn,List.all_map]
   refine List.all_eq_true.2 fun x hx=> ?_
   have:=(List.all_eq_true.1 hc) x hx
   cases x<;>first|exact this|rfl
  refine⟨hl,by rw[fZ sz xs h1];omega,?_⟩
  have:=GN e sz ps (xs.set i (m.ev e).erase) k (fun x hx=>(List.mem_or_eq_of_mem_set hx).elim (h1 x) (fun e=>e▸hy)) (fun x hx=>(List.mem_or_eq_of_mem_set hx).elim (h2 x) (fun e=>e▸iC)) hk
  rw[QF sz xs i _ h1 hy hi,ahn] at this
  simpa using this
theorem GO{e:TypeId}{sz:Nat}(h0:0<sz):∀(ps:List (Nat×Operand)) (qs:List (Nat×ai)),tD P e ps=some qs→tN (fun i=>some (i*sz,sz)) ps (qs.map fun p=>(p.1*sz,sz,p.2))
 |[],qs,h=>by injection h with h;subst h;trivial
 |(i,x)::ps,qs,h=>by
  simp only[tD] at h
  split at h
  ·rename_i y ys h1 h2
   injection h with h;subst h
   exact⟨Aw h1,rfl,h0,GO h0 ps ys h2⟩
  ·cases h
theorem QG(z:List Value)(hz:0<z.length)(n i:Nat)(hi:i<n*z.length):(Array.map (fun k=>(z.toArray)[k%z.toArray.size]!) (Array.range (n*z.length))).getD i undef=z.getD (i%z.length) undef:=by
 have hm:=Nat.mod_lt i hz
 simp only[Array.getD_eq_getD_getElem?]
 rw[Array.getElem?_eq_getElem (by simpa using hi)]
 simp[hm,List.getD_eq_getElem?_getD]
theorem QH{t e:TypeId}{len sz:Nat}{ps:Array (Nat×Operand)}{qs:List (Nat×ai)}{z:List AV}(hop:o.op=.buildSlice t len ps)(hd:o.dst=some d)(hN:d<N)
  (hz:js P e z=true)(ht:P.underlying t=some (.slice e))(hsz:cA P e=some sz)(h0:0<sz)(tL:len*sz≤16777216)(hq:tD P e ps.toList=some qs)
  (h:RS N s a w A sp)(hv:vc1 P (.aM d len sz z qs) s K)(hn:Next s w A sp N K next):o.wp P a w next Q:=by
 obtain⟨i,v,hi,hz,hs,hzl,hr,hc⟩:=agq (w:=w) (A:=A) hz
 simp only[cA,Option.map_eq_some_iff] at hsz
 obtain⟨inf,eA,rfl⟩:=hsz
 rw[hi] at eA;injection eA with eA;subst eA
 have j0:(if i.size=1 then z.getD 0 .any else .agg z).cells=z:=by
  split
  ·rename_i e1
   match z,(show z.length=1 by omega),hc with
   |[x],_,hc=>
    have:=(hc x (by simp)).1
    simp only[List.getD_eq_getElem?_getD,List.getElem?_cons_zero,Option.getD_some]
    cases x<;>first|rfl|cases this
  ·rfl
 generalize QI:(if i.size=1 then z.getD 0 AV.any else AV.agg z)=ze at j0
 have QJ:ze.cells.all AV.bK=true:=by rw[j0];exact List.all_eq_true.2 fun x hx=>(hc x hx).1
 simp only[vc1,QI] at hv
 have Ay:∀x∈List.replicate len ze,x.cells.length=i.size:=by intro x hx;rw[List.eq_of_mem_replicate hx,j0,hzl]
 have QK:∀x∈List.replicate len ze,x.cells.all AV.bK=true:=by intro x hx;rw[List.eq_of_mem_replicate hx];exact QJ
 have hk:=GN s.env i.size qs (List.replicate len ze) _ Ay QK hv
 have w4:v.cells.size=i.size:=by omega
 have QL:((List.replicate len ze).flatMap AV.cells).length=len*i.size:=by rw[fZ i.size _ Ay];simp
 have QM:∀k,RV w A (((List.replicate len ze).flatMap AV.cells).getD k .any) ((Array.map (fun k=>v.cells[k%v.cells.size]!) (Array.range (len*i.size))).getD k undef):=by
  intro k
  by_cases hk:k<len*i.size
  ·have GP:k / i.size<len:=Nat.div_lt_of_lt_mul (by rw[Nat.mul_comm];exact hk)
   have e1:=tF AV.cells i.size (List.replicate len ze) (k / i.size) Ay (by simpa using GP) (k%i.size) .any .any (Nat.mod_lt _ h0)
   have ek:k / i.size*i.size+k%i.size=k:=by rw[Nat.mul_comm];exact Nat.div_add_mod k i.size
   rw[ek] at e1
   rw[e1]
   have e2:(List.replicate len ze).getD (k / i.size) .any=ze:=by rw[List.getD_eq_getElem?_getD,List.getElem?_replicate,if_pos GP];rfl
   rw[e2,j0]
   have e3:=QG v.cells.toList (by simpa[w4] using h0) len k (by simpa[w4] using hk)
   simp only[Array.length_toList,Array.toArray_toList,w4] at e3
   rw[w4,e3]
   have:=hr (k%i.size)
   simpa[List.getD_eq_getElem?_getD,Array.getD_eq_getD_getElem?] using this
  ·rw[List.getD_eq_getElem?_getD,List.getElem?_eq_none (by omega)];exact .any _
 obtain⟨cs',vs',g1,g2,g3,xs',rfl,gl,gs,gc,gk⟩:=wZ h _ ps.toList _ ((List.replicate len ze).flatMap AV.cells) (Array.map (fun k=>v.cells[k%v.cells.size]!) (Array.range (len*i.size))) _ (GO h0 _ _ hq) (by simp[QL]) QM hk
 rw[List.length_replicate] at gl
 have hfl:=fZ i.size xs' gs
 have pK:d+1≠0:=by omega
 obtain⟨A',sp',k1,k2,k3,k4⟩:=Ap (h.aT (d+1)) (xs:=xs') (ys:=[]) (sz:=i.size) e vs'.toList [] [] (d+1) len pK (qZ _ _ pK) (agm _ _ pK) gs (by simp) gc (by simp)
  (by simp;omega) (by simp) (fun j=>by have:=g3 j;simpa[List.getD_eq_getElem?_getD,Array.getD_eq_getD_getElem?] using this) (by simp;exact .any _) (by simp;omega) (by simp[gl]) (by
    simp only[List.length_nil,Nat.add_zero,gl]
    have:len*1≤len*i.size:=Nat.mul_le_mul_left _ h0
    omega)
 simp only[List.append_nil,Array.toArray_toList,List.length_nil,Nat.add_zero] at k1 k2 k3 k4
 rw[gl] at k3 k4
 refine fin' k1 ((Ev.aT (d+1)).trans k2) hd hN ?_ k3 k4 gk hn
 have oe:(ps.map fun x=>(x.1,a.eval x.2)).toList=ps.toList.map fun p=>(p.1,a.eval p.2):=by simp
 have hnb:¬(len*i.size>2^24):=by omega
 by_cases hl0:len*i.size=0
 ·have QN:len=0:=by rcases Nat.mul_eq_zero.1 hl0 with e|e;exact e;omega
  subst QN
  have e0:Array.map (fun k=>v.cells[k%v.cells.size]!) (Array.range (0*i.size))= #[]:=by simp
  rw[e0] at g1
  have hb:(Instr.buildSlice t 0 (ps.map fun x=>(x.1,a.eval x.2))).run P w=.ok (.slice (some ⟨w.heap.size,0,none⟩) 0 0) (w.alloc (.cells vs' e)):=by
   unfold Instr.buildSlice
   simp only[sizeOf,typeInfo,Sem.run_bind,run_program,Result.andThen_ok,hi,Sem.run_pure,run_underlying ht,oe,Nat.zero_mul,Nat.not_lt_zero,gt_iff_lt,if_false,if_true]
   have e1:Array.map (fun k=>(#[]:Array Value)[k%(#[]:Array Value).size]!) (Array.range 0)= #[]:=by simp
   rw[e1,g1]
   rfl
  simp only[execOp,hop,Sem.run_bind,hb,Result.andThen_ok,Sem.run_pure]
 ·simp only[execOp,hop,Instr.buildSlice,zeroValue,sizeOf,typeInfo,Sem.run_bind,run_program,Result.andThen_ok,hi,hz,Sem.run_pure,run_underlying ht,oe,hnb,if_false,hl0,g1,newRow,run_newObj]
  rfl
end
end Go.aq
namespace Go.aq
open Go.RowKit
section
variable {P:Program} {N:Nat} {s:St} {a:Act} {w:World} {A:aN} {sp:Sp} {K:St→Prop} {next:Act→World→Prop} {Q:Exit→Act→World→Prop} {o:Oper} {d:Nat}
theorem Az(depth:Nat)(xs ys:Array Value)(as bs:List AV)(hx:xs.size=as.length)(hy:ys.size=bs.length)
  (wW:∀i,RV w A (as.getD i .any) (xs.getD i undef))(gv:∀i,RV w A (bs.getD i .any) (ys.getD i undef)):∀(fs:List Field) (ks:List Bool) (k:Nat) (q:Bool),
  agf P ks k fs=true→as.length=k+fs.length→bs.length=k+fs.length→dh ks (as.drop k) (bs.drop k)=some q→
  (Op.eqFields (depth+1) xs ys fs).run P w=.ok q w
 |[],[],k,q,_,h1,h2,he=>by
  rw[List.drop_of_length_le (by simp at h1;omega),List.drop_of_length_le (by simp at h2;omega)] at he
  injection he with he;subst he;rfl
 |[],_::_,_,_,hf,_,_,_=>by cases hf
 |_::_,[],_,_,hf,_,_,_=>by cases hf
 |f::fs,kq::ks,k,q,hf,h1,h2,he=>by
  simp only[List.length_cons] at h1 h2
  simp only[agf,Bool.and_eq_true,bne_iff_ne,beq_iff_eq] at hf
  obtain⟨⟨⟨hn,hoff⟩,ht⟩,eR⟩:=hf
  have jY:k<as.length:=by omega
  have hk2:k<bs.length:=by omega
  rw[List.drop_eq_getElem_cons jY,List.drop_eq_getElem_cons hk2] at he
  have r1:=wW k
  have r2:=gv k
  rw[List.getD_eq_getElem?_getD,List.getElem?_eq_getElem jY,Option.getD_some] at r1
  rw[List.getD_eq_getElem?_getD,List.getElem?_eq_getElem hk2,Option.getD_some] at r2
  have e1:xs[k]? =some (xs.getD k undef):=by rw[Array.getD_eq_getD_getElem?,Array.getElem?_eq_getElem (by omega)];rfl
  have e2:ys[k]? =some (ys.getD k undef):=by rw[Array.getD_eq_getD_getElem?,Array.getElem?_eq_getElem (by omega)];rfl
  have afN:(isAgg f.type).run P w=.ok false w:=by
   unfold isAgg
   cases hu:P.underlying f.type with
   |none=>rw[hu] at ht;cases kq<;>cases ht
   |some dd=>rw[hu] at ht;rw[Sem.run_bind,run_underlying hu];cases kq<;>cases dd<;>first|rfl|cases ht
  have p1:(part f.type xs f.offset).run P w=.ok (xs.getD k undef) w:=by
   generalize xs.getD k undef=v at e1
   simp[part,Sem.run_bind,afN,hoff,e1]
  have p2:(part f.type ys f.offset).run P w=.ok (ys.getD k undef) w:=by
   generalize ys.getD k undef=v at e2
   simp[part,Sem.run_bind,afN,hoff,e2]
  have GQ:=Az depth xs ys as bs hx hy wW gv fs ks (k+1)
  generalize as[k]=x at r1 he
  generalize bs[k]=y at r2 he
  simp only[Op.eqFields,hn,ne_eq,not_false_eq_true,if_true,Sem.run_bind,p1,p2,Result.andThen_ok]
  generalize xs.getD k undef=vx at r1
  generalize ys.getD k undef=vy at r2
  cases hu:P.underlying f.type with
  |none=>rw[hu] at ht;cases kq<;>cases ht
  |some dd=>
   rw[hu] at ht
   unfold dh at he
   split at he
   ·rename_i e _ _;cases e
   ·rename_i ks' kk p xs' kk' p' ys' e2 e3 e4
    injection e2 with e2 e7;injection e3 with e3 e5;injection e4 with e4 e6
    subst e2 e3 e4 e5 e6 e7
    have v1:=r1.aeo;have v2:=r2.aeo
    subst v1 v2
    split at he
    ·rename_i hkk
     subst hkk
     simp only[Option.map_eq_some_iff] at he
     obtain⟨q',dG,rfl⟩:=he
     have:=GQ q' eR (by omega) (by omega) dG
     have he':(Op.equalIn (depth+1) f.type (.int kk p) (.int kk p')).run P w=.ok (p==p') w:=by
      cases dd<;>first|(cases ht;done)|skip
      exact run_equalIn_int w depth f.type kk _ p p' hu
     rw[he',Result.andThen_ok]
     cases j3:(p==p')<;>simp[this]
    ·cases he
   ·rename_i ks' p xs' p' ys' e2 e3 e4
    injection e2 with e2 e7;injection e3 with e3 e5;injection e4 with e4 e6
    subst e2 e3 e4 e5 e6 e7
    have v1:=r1.afE;have v2:=r2.afE
    subst v1 v2
    simp only[Option.map_eq_some_iff] at he
    obtain⟨q',dG,rfl⟩:=he
    have:=GQ q' eR (by omega) (by omega) dG
    have he':(Op.equalIn (depth+1) f.type (.bool p) (.bool p')).run P w=.ok (p==p') w:=by
     cases dd<;>first|(cases ht;done)|skip
     exact run_equalIn_bool w depth f.type p p' hu
    rw[he',Result.andThen_ok]
    cases j3:(p==p')<;>simp[this]
   ·cases he
theorem GR{t t':TypeId}{op:BinOp}{neg:Bool}{n:List Bool}{x y:Operand}{mx my:ai}(hop:o.op=.binOp op t x y t')(hneg:op=(if neg then .neq else .eql))(hd:o.dst=some d)(hN:d<N)
  (hx:aF x=some mx)(hy:aF y=some my)(ht:af0 P t=some n)
  (h:RS N s a w A sp)(hv:vc1 P (.ff d neg n mx my) s K)(hn:Next s w A sp N K next):o.wp P a w next Q:=by
 have h1:=(bl h hx).1
 have h2:=(bl h hy).1
 unfold af0 at ht
 split at ht
 ·rename_i fs hu
  split at ht
  ·rename_i hc
   injection ht with ht
   simp only[Bool.and_eq_true,Bool.not_eq_true'] at hc
   obtain⟨⟨hf,hst⟩,hg⟩:=hc
   simp only[vc1] at hv
   split at hv
   ·rename_i as bs e1 e2
    obtain⟨l1,l2,q,hq,hK⟩:=hv
    rw[e1] at h1;rw[e2] at h2
    generalize pL:a.eval x=v1 at h1
    generalize jv:a.eval y=v2 at h2
    cases h1 with
    |agg _ xs eB hr1=>cases h2 with
     |agg _ ys dX cD=>
      have hfo:P.fieldsOf t=fs:=by simp[Program.fieldsOf,hu]
      have heq:(Op.equal t (.agg xs) (.agg ys)).run P w=.ok q w:=by
       show(Op.equalIn (9999+1) t _ _).run P w=_
       rw[run_equalIn_struct w 9999 t xs ys (by rw[hfo];exact hu) hst,hfo]
       exact Az (P:=P) (w:=w) 9998 xs ys as bs eB dX hr1 cD fs.toList (mV P fs.toList) 0 q hf (by rw[l1,←ht];simp[mV]) (by rw[l2,←ht];simp[mV]) (by rw[ht];simpa using hq)
      have hgu:(eqGuard op t x y (.agg xs) (.agg ys)).run P w=.ok () w:=by
       unfold eqGuard
       subst hneg
       cases neg<;>simp[hg]
      refine fin (v:=.bool (if neg then !q else q)) h hd hN ?_ (.lit _ rfl) trivial hK hn
      subst hneg
      cases neg<;>simp only[Bool.false_eq_true,if_false,if_true] at hgu hop<;>simp[execOp,hop,pL,jv,hgu,binOp,heq]
   ·exact hv.elim
  ·cases ht
 ·cases ht
theorem RS.call(h:RS N s a w A sp){w':World}{A':aN}(hf:Fr w w')(h1:∀b o,A b o→A' b o)(h2:∀b o,A' b o→A b o∨(w.heap.size≤b∧b<w'.heap.size)):RS N s a w' A' sp∧Ev w A (live s.loc sp) w' A' (live s.loc sp):=by
 obtain⟨f1,f2,f3,f4,f5⟩:=hf
 have hcell:∀b o,b<w.heap.size→w'.cell? ⟨b,o,none⟩=w.cell? ⟨b,o,none⟩:=fun b o hb=>World.cell?_of_block (f5 b hb)
 refine⟨h.world (fun b o v ha hv=>(hcell b o (h.av b o ha).1).trans hv) h1 (fun b cs hb=>f5 b (h.qY hb)) (fun r hr=> ?_) (fun b o ha=> ?_),f1,f2,f3,f4,fun b o hb hl=>⟨hcell b o hb,hl⟩,fun b hb _=>f5 b hb,h1,fun b o ha=>(h2 b o ha).elim .inl fun e=>.inr (.inr e.1)⟩
 ·obtain⟨⟨vs,T,hv,hs⟩,_⟩:=h.cg r hr
  exact⟨vs,T,(f5 _ (cy hv)).trans hv,hs⟩
 ·rcases h2 b o ha with e|e
  ·exact⟨Nat.lt_of_lt_of_le (h.av b o e).1 f4,(h.av b o e).2⟩
  ·exact⟨e.2,fun hl=>by have:=h.wO hl;omega⟩
theorem GU{f:FuncId}{vs:Array Value}{xs:List AV}{r:AV}(hp:aed P f xs r)(h:RS N s a w A sp)(hd:o.dst=some d)(hN:d<N)
  (hs:vs.size=xs.length)(hr:∀i,RV w A (xs.getD i .any) (vs.getD i undef))(hrun:(execOp a.eval o).run P w=(callFunc f vs).run P w)
  (hK:K (s.set d r.erase))(hn:Next s w A sp N K next):o.wp P a w next Q:=by
 unfold Oper.wp
 have AA:(callFunc f vs).run P w=.ok (.enter f vs) w:=by
  have:=hp.1
  unfold gI at this
  split at this
  ·rename_i fn hfn
   simp only[Bool.and_eq_true,bne_iff_ne,ne_eq] at this
   unfold callFunc
   simp only[Sem.run_bind,run_program,Result.andThen_ok,hfn]
   have hb:fn.body.isNone=false:=by cases pM:fn.body with
    |none=>rw[pM] at this;simp at this
    |some c=>rfl
   have hnm:(fn.name== "runtime.NumGoroutine")=false:=by simpa using this.1
   rw[hnm,hb]
   rfl
  ·cases this
 rw[hrun,AA,Oper.upon_enter]
 refine(hp.2 w A vs (fun b o ha=>(h.av b o ha).1) hs hr).mono ?_
 rintro e w' ⟨v,A',rfl,hf,g1,g2,g3⟩
 obtain⟨k1,k2⟩:=h.call hf g1 g2
 rw[hd]
 exact hn _ _ _ _ _ hK (k1.put hN g3.erase .erase) k2
theorem QO{f:FuncId}{xs:Array Operand}{ts:Array TypeId}{ms:List ai}(hop:o.op=.call {callee:=.value (.func f),args:=xs,argTypes:=ts})(hd:o.dst=some d)(hN:d<N)(hx:fY P xs.toList ts.toList=some ms)(h:RS N s a w A sp)(hv:vc1 P (.call d f ms) s K)(hn:Next s w A sp N K next):o.wp P a w next Q:=by
 obtain⟨a1,a2⟩:=od h hx
 obtain⟨r,hp,hK⟩:=hv
 refine GU (vs:=xs.map a.eval) hp h hd hN (by simp[a1]) (fun i=> ?_) ?_ hK hn
 ·have:=a2 i
  simpa[List.getD_eq_getElem?_getD,Array.getD_eq_getD_getElem?] using this
 ·simp[execOp,hop,resolve,Act.eval,Deferred.ofValue,invoke]
theorem af2{α:Type}(x y z:List α)(i:Nat)(d:α):(x++y++z).getD i d=if i<x.length then x.getD i d else if i - x.length<y.length then y.getD (i - x.length) d else z.getD (i - x.length - y.length) d:=by
 simp only[List.getD_eq_getElem?_getD]
 split
 ·rw[List.append_assoc,List.getElem?_append_left ‹_›]
 ·split
  ·rw[List.append_assoc,List.getElem?_append_right (by omega),List.getElem?_append_left ‹_›]
  ·rw[List.getElem?_append_right (by simp;omega)]
   simp only[List.length_append]
   rw[Nat.sub_sub]
theorem QS{t:Tmp}{xs:Array Operand}{ts:Array TypeId}{ms:List ai}(hop:o.op=.call {callee:=.value (.tmp t),args:=xs,argTypes:=ts})(hd:o.dst=some d)(hN:d<N)(hx:fY P xs.toList ts.toList=some ms)(h:RS N s a w A sp)(hv:vc1 P (.gJ d (.t t) ms) s K)(hn:Next s w A sp N K next):o.wp P a w next Q:=by
 obtain⟨a1,a2⟩:=od h hx
 have h1:=(h.env t).1
 simp only[vc1] at hv
 split at hv
 ·rename_i f fs cs e1
  obtain⟨r,hp,hK⟩:=hv
  replace e1:s.env t=.func (.func f) fs cs:=e1
  rw[e1] at h1
  generalize bg:a.tmps.getD t undef=v0 at h1
  cases h1 with
  |func _ _ _ vf vc fG hsc hf hc=>
   refine GU (vs:=vf++xs.map a.eval++vc) hp h hd hN (by simp[a1,fG,hsc]) (fun i=> ?_) ?_ hK hn
   ·have e2:=af2 vf.toList (xs.map a.eval).toList vc.toList i undef
    have e3:=af2 fs (ms.map fun x=>(x.ev s.env).erase) cs i .any
    have e4:(vf++xs.map a.eval++vc).getD i undef=(vf.toList++(xs.map a.eval).toList++vc.toList).getD i undef:=by simp[List.getD_eq_getElem?_getD,Array.getD_eq_getD_getElem?,Array.getElem?_append,List.getElem?_append]
    rw[e4,e2,e3]
    simp only[Array.length_toList,fG,Array.size_map,List.length_map,a1]
    split
    ·have:=hf i
     simpa[List.getD_eq_getElem?_getD,Array.getD_eq_getD_getElem?] using this
    ·split
     ·have:=a2 (i - fs.length)
      simpa[List.getD_eq_getElem?_getD,Array.getD_eq_getD_getElem?] using this
     ·have:=hc (i - fs.length - xs.size)
      simpa[List.getD_eq_getElem?_getD,Array.getD_eq_getD_getElem?] using this
   ·simp[execOp,hop,resolve,Act.eval,bg,Deferred.ofValue,invoke]
 ·exact hv.elim
end
end Go.aq
namespace Go.aq
open Go.RowKit
section
variable {P:Program} {N:Nat} {s:St} {a:Act} {w:World} {A:aN} {sp:Sp} {K:St→Prop} {next:Act→World→Prop} {Q:Exit→Act→World→Prop} {o:Oper} {d:Nat}
theorem agZ(z:List AV):∀(n i:Nat),(List.replicate n z).flatten.getD i .any=if i<n*z.length then z.getD (i%z.length) .any else .any
 |0,i=>by simp
 |n+1,i=>by
  rw[List.replicate_succ,List.flatten_cons]
  by_cases h:i<z.length
  ·rw[if_pos (by rw[Nat.add_mul];omega),Nat.mod_eq_of_lt h]
   simp only[List.getD_eq_getElem?_getD]
   rw[List.getElem?_append_left h]
  ·have h':z.length≤i:=by omega
   have:=agZ z n (i - z.length)
   simp only[List.getD_eq_getElem?_getD] at this⊢
   rw[List.getElem?_append_right h',this]
   have e1:(i - z.length)%z.length=i%z.length:=by conv=>rhs;rw[←Nat.sub_add_cancel h',Nat.add_mod_right]
   rw[e1]
   by_cases h2:i<(n+1)*z.length
   ·rw[if_pos h2,if_pos (by rw[Nat.add_mul] at h2;omega)]
   ·rw[if_neg h2,if_neg (by rw[Nat.add_mul] at h2;omega)]
theorem GV(z:List AV)(n:Nat):(List.replicate n z).flatten.length=n*z.length:=by
 induction n with
 |zero=>simp
 |succ n ih=>rw[List.replicate_succ,List.flatten_cons,List.length_append,ih,Nat.add_mul];omega
theorem QT{t e:TypeId}{l c:Operand}{ml mc:ai}{i:TypeInfo}{z:List AV}(hop:o.op=.makeSlice t l c)(hd:o.dst=some d)(hN:d<N)(ht:P.underlying t=some (.slice e))(hi:P.info? e=some i)
  (hl:aF l=some ml)(hc:aF c=some mc)(hz:js P e z=true)
  (h:RS N s a w A sp)(hv:vc1 P (.mkM d ml mc i.size i.bytes z) s K)(hn:Next s w A sp N K next):o.wp P a w next Q:=by
 obtain⟨i',v,hi',pN,hs,hsz,hr,kU⟩:=agq (w:=w) (A:=A) hz
 rw[hi] at hi';injection hi' with hi';subst hi'
 have h1:=(bl h hl).1
 have h2:=(bl h hc).1
 simp only[vc1] at hv
 split at hv
 ·rename_i n c e1 e2
  obtain⟨c1,c2,c3,c4,c5,hK⟩:=hv
  rw[e1] at h1;rw[e2] at h2
  have v1:=h1.aeo;have v2:=h2.aeo
  have hcell:∀k,RV w A ((List.replicate c.toNat z).flatten.getD k .any) ((madeCells v.cells (c.toNat*i.size)).getD k undef)∧aek sp ((List.replicate c.toNat z).flatten.getD k .any) ((madeCells v.cells (c.toNat*i.size)).getD k undef):=by
   intro k
   rw[agZ]
   split
   ·rename_i hk
    have pG:0<z.length:=by
     rcases Nat.eq_zero_or_pos z.length with e|e
     ·rw[e] at hk;simp at hk
     ·exact e
    have e3:(madeCells v.cells (c.toNat*i.size)).getD k undef=v.cells.getD (k%z.length) undef:=by
     have hm:k%z.length<v.cells.size:=by rw[hs];exact Nat.mod_lt _ pG
     unfold madeCells
     rw[Array.getD_eq_getD_getElem?,Array.getElem?_map,Array.getElem?_range,if_pos (by rw[←hsz];exact hk)]
     simp only[Option.map_some,Option.getD_some]
     rw[Array.getD_eq_getD_getElem?,←hs,Array.getElem?_eq_getElem (by rw[hs];rw[hs] at hm;exact hm),getElem!_pos _ _ (by rw[hs];rw[hs] at hm;exact hm)]
     rfl
    rw[e3]
    exact⟨hr _,Gx kU _⟩
   ·exact⟨.any _,trivial⟩
  refine fin' (h.tG (cs:=(List.replicate c.toNat z).flatten) e (by rw[size_madeCells,GV,hsz]) hcell) (RS.tH _ _) hd hN ?_ (.aV w.heap.size 0 n.toNat c.toNat i.size (by omega)) trivial (hK _ h.fresh) hn
  have:=run_make (P:=P) w t e i v ht hi pN .i64 .i64 n c c1 c2 (by rw[Int.mul_comm];omega) (by omega)
  simp[execOp,hop,v1,v2,this]
 ·exact hv.elim
theorem GW{dT sT ty e:TypeId}{i:TypeInfo}{b off dLen dCap:Nat}{sb:Option Addr}{sLen sCap:Nat}{cur:Array Value}{T:TypeId}{cs:List Value}(ht:P.underlying dT=some (.slice e))(hi:P.info? e=some i)
  (hg:w.heap[b]? =some (.cells cur T (0,0)))(hn:cs.length=Nat.min sLen dLen*i.size)(hsrc:∀q,sb=some q→∀j v,cs[j]? =some v→w.cell? (q.add j)=some v)(kY:sb=none→cs=[])
  (hfit:off+cs.length≤cur.size)(h1:∀v∈cs,v.oneCell'=true):
  (Builtin.copy_ #[dT,sT] ty #[.slice (some ⟨b,off,none⟩) dLen dCap,.slice sb sLen sCap]).run P w=.ok (goInt (Nat.min sLen dLen)) (w.setRow b (cur.toList.take off++cs++cur.toList.drop (off+cs.length)).toArray):=by
 have hst:=run_storeCells_at P b off T cs 0 cur w hg (by simpa using hfit) h1
 simp only[Nat.add_zero] at hst
 cases sb with
 |none=>
  have:=kY rfl
  subst this
  simp only[List.append_nil,List.length_nil,Nat.add_zero] at hst hn⊢
  have hcap:∀c,(Builtin.firstCells i.size (Nat.min sLen dLen) (.slice none sLen c)).run P w=.ok #[] w:=by intro c;simp[Builtin.firstCells]
  simp[Builtin.copy_,run_underlying ht,Builtin.lenOf,sizeOf,typeInfo,hi,hcap,hst]
 |some q=>
  have hl:=run_firstCells_some (P:=P) w i.size (Nat.min sLen dLen) q sLen sCap cs hn (hsrc q rfl)
  simp[Builtin.copy_,run_underlying ht,Builtin.lenOf,sizeOf,typeInfo,hi,hl,hst]
theorem QU{t t' e:TypeId}{i:TypeInfo}{x y:Operand}{mx my:ai}(hop:o.op=.call {callee:=.builtin .copy,args:= #[x,y],argTypes:= #[t,t']})(hd:o.dst=some d)(hN:d<N)
  (hx:aF x=some mx)(hy:aF y=some my)(ht:P.underlying t=some (.slice e))(hi:P.info? e=some i)
  (h:RS N s a w A sp)(hv:vc1 P (.afC d mx my i.size) s K)(hn:Next s w A sp N K next):o.wp P a w next Q:=by
 have h1:=(bl h hx).1
 have h2:=(bl h hy).1
 have hex:∀v w',(Builtin.copy_ #[t,t'] o.type #[a.eval x,a.eval y]).run P w=.ok v w'→(execOp a.eval o).run P w=.ok (.value v) w':=by
  intro v w' hr
  simp[execOp,hop,resolve,invoke,builtin,hr]
 simp only[vc1] at hv
 split at hv
 ·rename_i b off len cap sz' cK ys r e1 e2
  split at hv
  ·rename_i cs hb
   obtain⟨rfl,dX,hoff,hK⟩:=hv
   rw[e1] at h1;rw[e2] at h2
   obtain⟨vs,T,hh,hsz,hr⟩:=h.loc b cs hb
   generalize bg:a.eval x=v0 at h1 hex
   cases h1 with
   |aV _ _ _ _ _ hlc=>
    have hY:=h2.Ar dX
    generalize pL:a.eval y=v1 at hY hex
    have main:∀(sb:Option Addr) (cp:Nat) (us:List Value),us.length=ys.length*i.size→(∀q,sb=some q→∀j v,us[j]? =some v→w.cell? (q.add j)=some v)→(sb=none→us=[])→(∀j,RV w A ((ys.flatMap AV.cells).getD j .any) (us.getD j undef))→(∀x∈ys,x.cells.length=i.size)→(∀x∈ys,x.cells.all AV.bK=true)→v1=.slice sb ys.length cp→o.wp P a w next Q:=by
     intro sb cp us wX QV QW wY GX hy1 he
     subst he
     have hmin:Nat.min ys.length len≤ys.length:=Nat.min_le_left _ _
     have hmul:Nat.min ys.length len*i.size≤ys.length*i.size:=Nat.mul_le_mul_right _ hmin
     have adI:Nat.min ys.length len*i.size≤len*i.size:=Nat.mul_le_mul_right _ (Nat.min_le_right _ _)
     have cE:(us.take (Nat.min ys.length len*i.size)).length=Nat.min ys.length len*i.size:=by simp;omega
     have hfl:((ys.take (min ys.length len)).flatMap AV.cells)=(ys.flatMap AV.cells).take (min ys.length len*i.size):=Ak AV.cells i.size ys _ GX
     have gw:(ys.flatMap AV.cells).length=ys.length*i.size:=fZ _ _ GX
     have iC:((ys.take (min ys.length len)).flatMap AV.cells).length=Nat.min ys.length len*i.size:=by rw[hfl,List.length_take,gw];exact Nat.min_eq_left hmul
     have h1c:∀v∈us.take (Nat.min ys.length len*i.size),v.oneCell'=true:=by
      intro v hv
      obtain⟨k,hk,rfl⟩:=List.getElem_of_mem (List.mem_of_mem_take hv)
      have hk':k<(ys.flatMap AV.cells).length:=by omega
      have h3:=wY k
      rw[List.getD_eq_getElem?_getD,List.getElem?_eq_getElem hk',List.getD_eq_getElem?_getD,List.getElem?_eq_getElem hk] at h3
      refine h3.wU ?_
      obtain⟨z,hz,hz2⟩:=List.mem_flatMap.1 (List.getElem_mem hk')
      exact(List.all_eq_true.1 (hy1 z hz)) _ hz2
     have hrun:=GW (P:=P) (w:=w) (dT:=t) (sT:=t') (ty:=o.type) (dLen:=len) (dCap:=cap) (sb:=sb) (sLen:=ys.length) (sCap:=cp) (off:=off) ht hi hh cE
      (fun q hq j v hj=>by
        rw[List.getElem?_take] at hj
        split at hj
        ·exact QV q hq j v hj
        ·cases hj) (fun hn=>by rw[QW hn];simp) (by rw[cE];omega) h1c
     rw[cE] at hrun
     have hrow:∀k,RV w A ((splice cs off (((ys.take (min ys.length len)).flatMap AV.cells).map AV.erase0)).getD k .any) ((vs.toList.take off++us.take (Nat.min ys.length len*i.size)++vs.toList.drop (off+Nat.min ys.length len*i.size)).toArray.getD k undef)∧aek sp ((splice cs off (((ys.take (min ys.length len)).flatMap AV.cells).map AV.erase0)).getD k .any) ((vs.toList.take off++us.take (Nat.min ys.length len*i.size)++vs.toList.drop (off+Nat.min ys.length len*i.size)).toArray.getD k undef):=by
      intro k
      have e:=agr vs (us.take (Nat.min ys.length len*i.size)) off k (by rw[cE];omega)
      rw[cE] at e
      rw[e,mW _ _ _ _ (by rw[List.length_map,iC];omega),List.length_map,iC]
      split
      ·rename_i hk
       rw[iV,hfl]
       have h3:=wY (k - off)
       have hk2:k - off<min ys.length len*i.size:=by have:min ys.length len=Nat.min ys.length len:=rfl;rw[this];omega
       have e3:((ys.flatMap AV.cells).take (min ys.length len*i.size)).getD (k - off) .any=(ys.flatMap AV.cells).getD (k - off) .any:=by simp only[List.getD_eq_getElem?_getD,List.getElem?_take,hk2,if_true]
       have e4:(us.take (Nat.min ys.length len*i.size)).getD (k - off) undef=us.getD (k - off) undef:=by
        have mY:k - off<Nat.min ys.length len*i.size:=hk2
        simp only[List.getD_eq_getElem?_getD,List.getElem?_take,mY,if_true]
       rw[e3,e4]
       exact⟨h3.erase0,.erase0⟩
      ·exact hr k
     refine fin' (h.setRow hb hh ?_ hrow) (RS.ags _ _ hb) hd hN (hex _ _ hrun) (.lit _ rfl) trivial hK hn
     rw[kT]
     simp only[List.size_toArray,List.length_append,List.length_take,List.length_drop,Array.length_toList]
     have:=cE
     simp only[List.length_take] at this
     omega
    cases hY with
    |de=>exact main none 0 [] (by simp) (fun q hq=>by cases hq) (fun _=>rfl) (fun j=>by simp;exact .any _) (by simp) (by simp) rfl
    |slice _ _ _ b' off' cap' vs' ja jZ pI pJ jt gv=>
     obtain⟨g1,g2,_,_,_,us,g3,g4,g5⟩:=(RV.slice (w:=w) (A:=A) i.size ys r b' off' cap' vs' ja jZ pI pJ jt gv).cellsOf
     exact main (some ⟨b',off',none⟩) cap' us g3 (fun q hq j v hj=>by injection hq with hq;subst hq;rw[Addr.iB];exact(g4 j v hj).1) (fun e=>by cases e) g5 g1 g2 rfl
  ·exact hv.elim
 ·exact hv.elim
end
end Go.aq
namespace Go.aq
open Go.RowKit
section
variable {P:Program} {N:Nat} {s:St} {a:Act} {w:World} {A:aN} {sp:Sp} {K:St→Prop} {next:Act→World→Prop} {Q:Exit→Act→World→Prop} {o:Oper} {d:Nat}
theorem QX{t e:TypeId}{n:Nat}{ps:Array (Nat×Operand)}{i:TypeInfo}{z:List AV}(hop:o.op=.buildSlice t n ps)(hd:o.dst=some d)(hN:d<N)(ht:P.underlying t=some (.slice e))(hi:P.info? e=some i)
  (hz:js P e z=true)(hn0:n=0)(hps:ps.isEmpty=true)
  (h:RS N s a w A sp)(hv:vc1 P (.mkM d (.c (.lit (.int .i64 0))) (.c (.lit (.int .i64 0))) i.size i.bytes z) s K)(hn:Next s w A sp N K next):o.wp P a w next Q:=by
 obtain⟨i',v,hi',pN,hs,hsz,hr,kU⟩:=agq (w:=w) (A:=A) hz
 rw[hi] at hi';injection hi' with hi';subst hi'
 subst hn0
 have oh:ps= #[]:=by simpa using hps
 subst oh
 have hK:∀b,s.loc b=none→K ((s.new b []).set d (.aV b 0 0 0 i.size)):=fun b hb=>hv.2.2.2.2.2 b hb
 have hb:(Instr.buildSlice t 0 #[]).run P w=.ok (.slice (some ⟨w.heap.size,0,none⟩) 0 0) (w.alloc (.cells #[] e)):=by
  unfold Instr.buildSlice
  simp only[sizeOf,typeInfo,Sem.run_bind,run_program,Result.andThen_ok,hi,Sem.run_pure,run_underlying ht,Nat.zero_mul,Nat.not_lt_zero,gt_iff_lt,if_false,if_true]
  have e1:Array.map (fun k=>(#[]:Array Value)[k%(#[]:Array Value).size]!) (Array.range 0)= #[]:=by simp
  rw[e1]
  rfl
 refine fin' (h.tG (cs:=[]) (vs:= #[]) e rfl (fun k=>⟨by simp;exact .any _,trivial⟩)) (RS.tH _ _) hd hN ?_ (.aV w.heap.size 0 0 0 i.size (Nat.le_refl _)) trivial (hK _ h.fresh) hn
 have oe:((#[]:Array (Nat×Operand)).map fun x=>(x.1,a.eval x.2))= #[]:=by simp
 simp only[execOp,hop,oe,Sem.run_bind,hb,Result.andThen_ok,Sem.run_pure]
theorem QY{v:Value}{z:List AV}{n:Nat}(hs:v.cells.size=z.length)(hr:∀k,RV w A (z.getD k .any) (v.cells.getD k undef))(k:Nat):RV w A ((List.replicate n z).flatten.getD k .any) ((Builtin.zeroCells v.cells n).toList.getD k undef):=by
 rw[agZ]
 split
 ·rename_i hk
  have pG:0<z.length:=by
   rcases Nat.eq_zero_or_pos z.length with e|e
   ·rw[e] at hk;simp at hk
   ·exact e
  have hm:k%z.length<v.cells.size:=by rw[hs];exact Nat.mod_lt _ pG
  have e3:(Builtin.zeroCells v.cells n).toList.getD k undef=v.cells.getD (k%z.length) undef:=by
   unfold Builtin.zeroCells
   rw[List.getD_eq_getElem?_getD,Array.getElem?_toList,Array.getElem?_map,Array.getElem?_range,if_pos (by rw[hs];exact hk)]
   simp only[Option.map_some,Option.getD_some]
   rw[Array.getD_eq_getD_getElem?,Array.getElem?_eq_getElem hm]
   rw[getElem!_pos _ _ (by rw[hs];rw[hs] at hm;exact hm)]
   simp only[hs,Option.getD_some]
  rw[e3]
  exact hr _
 ·exact .any _
theorem QZ(v:Value)(n:Nat):(Builtin.zeroCells v.cells n).toList.length=n*v.cells.size:=by simp[Builtin.zeroCells]
theorem Q0{t e:TypeId}{i:TypeInfo}{z:List AV}{x y:Operand}{mx my:ai}(hop:o.op=.call {callee:=.builtin .append,args:= #[x,y],argTypes:= #[t,t]})(hd:o.dst=some d)(hN:d<N)
  (hx:aF x=some mx)(hy:aF y=some my)(ht:P.underlying t=some (.slice e))(hi:P.info? e=some i)(hz:js P e z=true)
  (h:RS N s a w A sp)(hv:vc1 P (.agd d mx my i.size i.bytes z) s K)(hn:Next s w A sp N K next):o.wp P a w next Q:=by
 obtain⟨i',v,hi',pN,hs,hsz,Q1,kU⟩:=agq (w:=w) (A:=A) hz
 rw[hi] at hi';injection hi' with hi';subst hi'
 have h1:=(bl h hx).1
 have h2:=(bl h hy).1
 have hex:∀v w',(Builtin.append_ #[t,t] o.type #[a.eval x,a.eval y]).run P w=.ok v w'→(execOp a.eval o).run P w=.ok (.value v) w':=by
  intro v w' hr
  simp[execOp,hop,resolve,invoke,builtin,hr]
 simp only[vc1] at hv
 split at hv
 ·rename_i b sz' cK ys r2 e1 e2
  obtain⟨eB,dX,hne,hbytes,hlen,hK⟩:=hv
  rw[e1] at h1;rw[e2] at h2
  subst dX
  have gw:0<ys.length:=List.length_pos_iff.2 hne
  generalize Q2:a.eval x=vx at h1 hex
  cases h1 with
  |aV _ _ _ _ _ hlc=>
   generalize tM:a.eval y=vy at h2 hex
   cases h2 with
   |de=>exact absurd rfl hne
   |slice _ _ _ b' off' cap' vs' ja jZ pI pJ jt gv=>
    have Av:=(RV.slice (w:=w) (A:=A) i.size ys r2 b' off' cap' vs' ja jZ pI pJ jt gv).cellsOf
    obtain⟨_,_,_,_,_,news,fk,hnc,mZ⟩:=Av
    have hnews:∀j u,news[j]? =some u→w.cell? ((⟨b',off',none⟩:Addr).add j)=some u:=fun j u hj=>by rw[Addr.iB];exact(hnc j u hj).1
    have hrun:=run_append_grow (P:=P) w t o.type e i v ht hi pN ⟨b,0,none⟩ 0 0 [] (by simp) (by simp) ⟨b',off',none⟩ ys.length cap' news fk hnews (by omega) (by omega) (growslice_fits (by omega) (by simpa using hbytes))
    rw[Nat.zero_add] at hrun
    have hge:=grownCap_ge w ys.length 0 e
    obtain⟨r,hr⟩:∃r,grownCap w ys.length 0 e=ys.length+r:=⟨grownCap w ys.length 0 e - ys.length,by omega⟩
    rw[hr,Nat.add_sub_cancel_left] at hrun
    have iC:=fZ i.size ys ja
    have hcell:∀k,RV w.drew A (((ys.flatMap AV.cells).map AV.erase0++(List.replicate r z).flatten).getD k .any) ((((#[]:Array Value))++news.toArray++Builtin.zeroCells v.cells r).getD k undef)∧aek sp (((ys.flatMap AV.cells).map AV.erase0++(List.replicate r z).flatten).getD k .any) ((((#[]:Array Value))++news.toArray++Builtin.zeroCells v.cells r).getD k undef):=by
     intro k
     have e3:(((#[]:Array Value))++news.toArray++Builtin.zeroCells v.cells r).getD k undef=if k<news.length then news.getD k undef else (Builtin.zeroCells v.cells r).toList.getD (k - news.length) undef:=by
      rw[Array.getD_eq_getD_getElem?,←Array.getElem?_toList]
      simp only[Array.toList_append,List.append_assoc,List.getD_eq_getElem?_getD]
      simp only[List.nil_append]
      split
      ·rw[List.getElem?_append_left ‹_›]
      ·rw[List.getElem?_append_right (by omega)]
     rw[e3,List.getD_eq_getElem?_getD]
     by_cases hk:k<news.length
     ·rw[if_pos hk,List.getElem?_append_left (by rw[List.length_map,iC];omega),←List.getD_eq_getElem?_getD,iV]
      exact⟨(mZ k).drew.erase0,.erase0⟩
     ·rw[if_neg hk,List.getElem?_append_right (by rw[List.length_map,iC];omega),←List.getD_eq_getElem?_getD]
      simp only[List.length_map,iC,←fk]
      refine⟨(QY hs Q1 _).drew,?_⟩
      rw[agZ]
      split
      ·exact Gx kU _
      ·trivial
    refine fin' (h.drew.tG (cs:=(ys.flatMap AV.cells).map AV.erase0++(List.replicate r z).flatten) e ?_ hcell) ((Ev.drew _).trans (RS.tH _ _)) hd hN (hex _ _ hrun) (.aV w.heap.size 0 ys.length (ys.length+r) sz' (by omega)) trivial ?_ hn
    ·rw[←Array.length_toList]
     simp only[Array.toList_append,List.length_append,QZ,GV,List.length_map,iC,hs,fk,List.length_nil,Nat.zero_add]
    ·rw[eB]
     exact hK w.heap.size r h.fresh
 ·exact hv.elim
theorem Q3{t e:TypeId}{i:TypeInfo}{x y:Operand}{mx my:ai}(hop:o.op=.call {callee:=.builtin .append,args:= #[x,y],argTypes:= #[t,t]})(hd:o.dst=some d)(hN:d<N)
  (hx:aF x=some mx)(hy:aF y=some my)(ht:P.underlying t=some (.slice e))(hi:P.info? e=some i)
  (h:RS N s a w A sp)(hv:vc1 P (.mR d mx my i.size) s K)(hn:Next s w A sp N K next):o.wp P a w next Q:=by
 have h1:=(bl h hx).1
 have h2:=(bl h hy).1
 have hex:∀v w',(Builtin.append_ #[t,t] o.type #[a.eval x,a.eval y]).run P w=.ok v w'→(execOp a.eval o).run P w=.ok (.value v) w':=by
  intro v w' hr
  simp[execOp,hop,resolve,invoke,builtin,hr]
 simp only[vc1] at hv
 split at hv
 ·rename_i b off len cap sz' cK ys r2 e1 e2
  split at hv
  ·rename_i cs hb
   obtain⟨eB,dX,hne,hroom,hfit,hK⟩:=hv
   rw[e1] at h1;rw[e2] at h2
   subst dX
   obtain⟨vs,T,hh,hsz,hr⟩:=h.loc b cs hb
   generalize Q2:a.eval x=vx at h1 hex
   cases h1 with
   |aV _ _ _ _ _ hlc=>
    generalize tM:a.eval y=vy at h2 hex
    cases h2 with
    |de=>exact absurd rfl hne
    |slice _ _ _ b' off' cap' vs' ja jZ pI pJ jt gv=>
     obtain⟨_,_,_,_,_,news,fk,hnc,mZ⟩:=(RV.slice (w:=w) (A:=A) i.size ys r2 b' off' cap' vs' ja jZ pI pJ jt gv).cellsOf
     have hnews:∀j u,news[j]? =some u→w.cell? ((⟨b',off',none⟩:Addr).add j)=some u:=fun j u hj=>by rw[Addr.iB];exact(hnc j u hj).1
     have hone:=RV.GG jZ (by rw[fk,fZ i.size ys ja]) mZ
     have hk:(len+ys.length)*i.size=len*i.size+ys.length*i.size:=Nat.add_mul _ _ _
     have iC:=fZ i.size ys ja
     have hrun:=GC (P:=P) (w:=w) t o.type e i ht hi b off len cap vs T hh ⟨b',off',none⟩ ys.length cap' news fk hnews hone hroom (by omega)
     have hrow:∀k,RV w A ((splice cs (off+len*i.size) ((ys.flatMap AV.cells).map AV.erase0)).getD k .any) ((vs.toList.take (off+len*i.size)++news++vs.toList.drop (off+len*i.size+news.length)).toArray.getD k undef)∧aek sp ((splice cs (off+len*i.size) ((ys.flatMap AV.cells).map AV.erase0)).getD k .any) ((vs.toList.take (off+len*i.size)++news++vs.toList.drop (off+len*i.size+news.length)).toArray.getD k undef):=by
      intro k
      rw[agr vs news (off+len*i.size) k (by omega),mW _ _ _ _ (by rw[List.length_map,iC];omega),List.length_map,iC,←fk]
      split
      ·rw[iV]
       exact⟨(mZ _).erase0,.erase0⟩
      ·exact hr k
     refine fin' (h.setRow hb hh ?_ hrow) (RS.ags _ _ hb) hd hN (hex _ _ hrun) (.aV b off (len+ys.length) cap sz' hroom) trivial ?_ hn
     ·rw[kT]
      simp only[List.size_toArray,List.length_append,List.length_take,List.length_drop,Array.length_toList]
      omega
     ·rw[eB]
      exact hK
  ·exact hv.elim
 ·exact hv.elim
theorem Q4{t e:TypeId}{x hi:Operand}{mx mh:ai}{sz:Nat}(hop:o.op=.slice t x none (some hi) none)(hd:o.dst=some d)(hN:d<N)(hx:aF x=some mx)(hy:aF hi=some mh)
  (ht:P.underlying t=some (.slice e))(hz:cA P e=some sz)
  (h:RS N s a w A sp)(hv:vc1 P (.o_ d mx mh sz) s K)(hn:Next s w A sp N K next):o.wp P a w next Q:=by
 have h1:=(bl h hx).1
 have h2:=(bl h hy).1
 simp only[cA,Option.map_eq_some_iff] at hz
 obtain⟨inf,eA,rfl⟩:=hz
 simp only[vc1] at hv
 split at hv
 ·rename_i b off len cap sz' k n e1 e2
  obtain⟨hs,h0,hl,hK⟩:=hv
  rw[e1] at h1;rw[e2] at h2
  have v2:=h2.aeo
  generalize bg:a.eval x=v0 at h1
  cases h1 with
  |aV _ _ _ _ _ hlc=>
   refine fin (v:=.slice (some ⟨b,off,none⟩) n.toNat cap) h hd hN ?_ (.aV b off n.toNat cap inf.size (by omega)) trivial hK hn
   have h3:¬(n<0):=by omega
   have h4:¬((cap:Int)<n):=by omega
   simp[execOp,hop,bg,v2,Instr.sliceAt,run_underlying ht,Instr.slice,Instr.sliceBounds,Instr.sliceBound,asIntOf,sizeOf,typeInfo,eA,h0,hl,Addr.add]
 ·exact hv.elim
end
end Go.aq
namespace Go.aq
open Go.RowKit
theorem ae2(sz:Nat):∀(n:Nat) (cs:List AV),(chunk sz cs n).length=n
 |0,_=>rfl
 |n+1,cs=>by rw[chunk,List.length_cons,ae2 sz n]
theorem AB{x:AV}(h:x.bK=true):x.erase0.cells=[x.erase0]∧x.erase0.bK=true:=by cases x<;>first|(cases h;done)|exact⟨rfl,rfl⟩
theorem pO(sz:Nat):∀(n:Nat) (cs:List AV),n*sz≤cs.length→cs.all AV.bK=true→∀x∈chunk sz cs n,x.cells.length=sz∧x.cells.all AV.bK=true
 |0,_,_,_=>by simp[chunk]
 |n+1,cs,h,hc=>by
  intro x hx
  rw[Nat.add_mul,Nat.one_mul] at h
  rcases List.mem_cons.1 hx with rfl|hx
  ·split
   ·rename_i e;subst e
    have hlt:0<cs.length:=by omega
    have hg:(cs.getD 0 .any).bK=true:=by
     rw[List.getD_eq_getElem?_getD,List.getElem?_eq_getElem hlt]
     exact(List.all_eq_true.1 hc) _ (List.getElem_mem _)
    obtain⟨e1,e2⟩:=AB hg
    rw[e1];exact⟨rfl,by simp only[List.all_cons,List.all_nil,Bool.and_true];exact e2⟩
   ·refine⟨by simp[AV.cells];omega,List.all_eq_true.2 fun y hy=> ?_⟩
    obtain⟨z,hz,rfl⟩:=List.mem_map.1 hy
    exact(AB ((List.all_eq_true.1 hc) z (List.mem_of_mem_take hz))).2
  ·exact pO sz n (cs.drop sz) (by simp;omega) (List.all_eq_true.2 fun y hy=>(List.all_eq_true.1 hc) y (List.mem_of_mem_drop hy)) x hx
theorem w7(sz:Nat):∀(n:Nat) (cs:List AV),n*sz≤cs.length→cs.all AV.bK=true→(chunk sz cs n).flatMap AV.cells=(cs.take (n*sz)).map AV.erase0
 |0,cs,_,_=>by simp[chunk]
 |n+1,cs,h,hc=>by
  rw[Nat.add_mul,Nat.one_mul] at h
  rw[chunk,List.flatMap_cons,w7 sz n (cs.drop sz) (by simp;omega) (List.all_eq_true.2 fun y hy=>(List.all_eq_true.1 hc) y (List.mem_of_mem_drop hy))]
  have e:(n+1)*sz=sz+n*sz:=by rw[Nat.add_mul,Nat.one_mul,Nat.add_comm]
  rw[e,List.take_add,List.map_append]
  congr 1
  split
  ·rename_i e;subst e
   have hlt:0<cs.length:=by omega
   have hg:(cs.getD 0 .any).bK=true:=by
    rw[List.getD_eq_getElem?_getD,List.getElem?_eq_getElem hlt]
    exact(List.all_eq_true.1 hc) _ (List.getElem_mem _)
   rw[(AB hg).1]
   cases cs with
   |nil=>simp at hlt
   |cons x xs=>simp
  ·rfl
section
variable {P:Program} {N:Nat} {s:St} {a:Act} {w:World} {A:aN} {sp:Sp} {K:St→Prop} {next:Act→World→Prop} {Q:Exit→Act→World→Prop} {o:Oper} {d:Nat}
def tO(A:aN)(loc:Nat→Option (List AV)):aN:=fun b o=>A b o∨∃cs,loc b=some cs∧o<cs.length
theorem Q5(h:RS N s a w A sp){x y:AV}{v:Value}(hx:RV w A x v)(hv:agK s.loc x=some y):RV w (tO A s.loc) y v:=by
 have hmono:∀{x:AV} {v:Value},RV w A x v→RV w (tO A s.loc) x v:=fun hx=>hx.mono fun c o v ha hv=>⟨hv,.inl ha⟩
 unfold agK at hv
 split at hv
 ·rename_i b off len cap sz
  split at hv
  ·rename_i cs hb
   split at hv
   ·rename_i hc
    injection hv with hv;subst hv
    simp only[Bool.and_eq_true,decide_eq_true_eq] at hc
    obtain⟨⟨h1,h2⟩,h3⟩:=hc
    obtain⟨vs,T,hh,hsz,hr⟩:=h.loc b cs hb
    cases hx with
    |aV _ _ _ _ _ hlc=>
     have kZ:len*sz≤(cs.drop off).length:=by simp;omega
     have iD:(cs.drop off).all AV.bK=true:=List.all_eq_true.2 fun z hz=>(List.all_eq_true.1 h2) z (List.mem_of_mem_drop hz)
     have:=RV.slice (w:=w) (A:=tO A s.loc) sz (chunk sz (cs.drop off) len) 0 b off cap (fun i=>vs.getD (off+i) undef) (fun x hx=>(pO sz len _ kZ iD x hx).1) (fun x hx=>(pO sz len _ kZ iD x hx).2) (by rw[ae2];exact hlc) (by rw[ae2];exact h3) (fun i hi=> ?_) (fun i=> ?_)
     ·rw[ae2] at this;exact this
     ·rw[ae2] at hi
      refine⟨?_,.inr ⟨cs,hb,by omega⟩⟩
      simp[World.cell?,hh,Array.getD_eq_getD_getElem?,Array.getElem?_eq_getElem (show off+i<vs.size by omega)]
     ·rw[w7 sz len _ kZ iD,iV]
      by_cases hi:i<len*sz
      ·have e3:((cs.drop off).take (len*sz)).getD i .any=cs.getD (off+i) .any:=by simp only[List.getD_eq_getElem?_getD,List.getElem?_take,hi,if_true,List.getElem?_drop]
       rw[e3]
       exact(hmono (hr (off+i)).1).erase0
      ·have e3:((cs.drop off).take (len*sz)).getD i .any=.any:=by simp only[List.getD_eq_getElem?_getD,List.getElem?_take,hi,if_false,Option.getD_none]
       rw[e3]
       exact .any _
   ·cases hv
  ·cases hv
 ·injection hv with hv;subst hv;exact hmono hx
theorem GY(h:RS N s a w A sp):∀{xs ys:List AV} {vs:List Value},vs.length=xs.length→(∀i,RV w A (xs.getD i .any) (vs.getD i undef))→pn s.loc xs=some ys→ys.length=xs.length∧∀i,RV w (tO A s.loc) (ys.getD i .any) (vs.getD i undef)
 |[],ys,vs,_,_,hv=>by injection hv with hv;subst hv;exact⟨rfl,fun i=>by simp;exact .any _⟩
 |x::xs,ys,[],hl,_,_=>by simp at hl
 |x::xs,ys,v::vs,hl,hr,hv=>by
  unfold pn at hv
  split at hv
  ·rename_i y ys' h1 h2
   injection hv with hv;subst hv
   obtain⟨g1,g2⟩:=GY h (xs:=xs) (vs:=vs) (by simpa using hl) (fun i=>by simpa using hr (i+1)) h2
   have h0:=Q5 h (hr 0) h1
   refine⟨by simp[g1],fun i=> ?_⟩
   cases i with
   |zero=>exact h0
   |succ i=>simpa using g2 i
  ·cases hv
theorem Q6{f:FuncId}{xs:Array Operand}{ts:Array TypeId}{ms:List ai}(hop:o.op=.call {callee:=.value (.func f),args:=xs,argTypes:=ts})(hd:o.dst=some d)(hN:d<N)(hx:fY P xs.toList ts.toList=some ms)(h:RS N s a w A sp)(hv:vc1 P (.afV d f ms) s K)(hn:Next s w A sp N K next):o.wp P a w next Q:=by
 obtain⟨a1,a2⟩:=od h hx
 obtain⟨ys,u,hvs,hfl,hp,hK⟩:=hv
 obtain⟨g1,g2⟩:=GY h (xs:=ms.map fun x=>(x.ev s.env).erase) (vs:=(xs.map a.eval).toList) (by simp[a1]) (fun i=>by
  have:=a2 i
  simpa[List.getD_eq_getElem?_getD,Array.getD_eq_getD_getElem?] using this) hvs
 unfold Oper.wp
 have hrun:(execOp a.eval o).run P w=(callFunc f (xs.map a.eval)).run P w:=by simp[execOp,hop,resolve,Act.eval,Deferred.ofValue,invoke]
 have AA:(callFunc f (xs.map a.eval)).run P w=.ok (.enter f (xs.map a.eval)) w:=by
  have:=hp.1
  unfold gI at this
  split at this
  ·rename_i fn hfn
   simp only[Bool.and_eq_true,bne_iff_ne,ne_eq] at this
   unfold callFunc
   simp only[Sem.run_bind,run_program,Result.andThen_ok,hfn]
   have hb:fn.body.isNone=false:=by cases pM:fn.body with
    |none=>rw[pM] at this;simp at this
    |some c=>rfl
   have hnm:(fn.name== "runtime.NumGoroutine")=false:=by simpa using this.1
   rw[hnm,hb]
   rfl
  ·cases this
 rw[hrun,AA,Oper.upon_enter]
 refine(hp.2 w (tO A s.loc) (xs.map a.eval) (fun b o ha=> ?_) (by rw[g1];simp[a1]) (fun i=> ?_)).mono ?_
 ·rcases ha with ha|⟨cs,hb,_⟩
  ·exact(h.av b o ha).1
  ·exact h.qY hb
 ·have:=g2 i
  simpa[List.getD_eq_getElem?_getD,Array.getD_eq_getD_getElem?] using this
 ·rintro e w' ⟨v,A',rfl,hf,q1,q2,q3⟩
  obtain⟨k1,k2⟩:=h.call (A':=A) hf (fun _ _ ha=>ha) (fun _ _ ha=>.inl ha)
  rw[hd]
  have Q7:v=u:=by cases q3 with|lit _ _=>rfl
  subst Q7
  exact hn _ _ _ _ _ hK (k1.put hN (.lit v hfl) trivial) k2
theorem Q8{t t' e:TypeId}{i:TypeInfo}{x y:Operand}{mx my:ai}(hop:o.op=.call {callee:=.builtin .copy,args:= #[x,y],argTypes:= #[t,t']})(hd:o.dst=some d)(hN:d<N)
  (hx:aF x=some mx)(hy:aF y=some my)(ht:P.underlying t=some (.slice e))(hi:P.info? e=some i)
  (h:RS N s a w A sp)(hv:vc1 P (.mQ d mx my i.size) s K)(hn:Next s w A sp N K next):o.wp P a w next Q:=by
 have h1:=(bl h hx).1
 have h2:=(bl h hy).1
 have hex:∀v w',(Builtin.copy_ #[t,t'] o.type #[a.eval x,a.eval y]).run P w=.ok v w'→(execOp a.eval o).run P w=.ok (.value v) w':=by
  intro v w' hr
  simp[execOp,hop,resolve,invoke,builtin,hr]
 simp only[vc1] at hv
 split at hv
 ·rename_i b off len cap sz' b2 off2 iZ Q9 cK e1 e2
  split at hv
  ·rename_i cs ck hb hb2
   obtain⟨eB,dX,hoff,adJ,h1c,hK⟩:=hv
   rw[e1] at h1;rw[e2] at h2
   subst dX
   obtain⟨vs,T,hh,hsz,hr⟩:=h.loc b cs hb
   obtain⟨j4,T2,w8,Q_,cD⟩:=h.loc b2 ck hb2
   generalize bg:a.eval x=v0 at h1 hex
   cases h1 with
   |aV _ _ _ _ _ hlc=>
    generalize pL:a.eval y=v1 at h2 hex
    cases h2 with
    |aV _ _ _ _ _ adK=>
     obtain⟨k,hk⟩:∃k,k=Nat.min iZ len*i.size:=⟨_,rfl⟩
     have jY:k≤iZ*i.size:=by rw[hk];exact Nat.mul_le_mul_right _ (Nat.min_le_left _ _)
     have hk2:k≤len*i.size:=by rw[hk];exact Nat.mul_le_mul_right _ (Nat.min_le_right _ _)
     have cE:((j4.toList.drop off2).take k).length=k:=by simp;omega
     have iC:(((ck.drop off2).take k).map AV.erase0).length=k:=by simp;omega
     have hu:∀j,j<k→((j4.toList.drop off2).take k).getD j undef=j4.getD (off2+j) undef:=fun j hj=>by simp only[List.getD_eq_getElem?_getD,List.getElem?_take,hj,if_true,List.getElem?_drop,Array.getD_eq_getD_getElem?,Array.getElem?_toList]
     have hone:∀v∈(j4.toList.drop off2).take k,v.oneCell'=true:=by
      intro v hv
      obtain⟨j,hj,rfl⟩:=List.getElem_of_mem hv
      have hj':j<k:=by omega
      have h3:=(cD (off2+j)).1
      have gy:=hu j hj'
      rw[List.getD_eq_getElem?_getD,List.getElem?_eq_getElem hj,Option.getD_some] at gy
      rw[List.getD_eq_getElem?_getD,List.getElem?_eq_getElem (show off2+j<ck.length by omega),←gy] at h3
      exact h3.wU ((List.all_eq_true.1 h1c) _ (List.getElem_mem _))
     have hrun:=GW (P:=P) (w:=w) (dT:=t) (sT:=t') (ty:=o.type) (dLen:=len) (dCap:=cap) (sb:=some ⟨b2,off2,none⟩) (sLen:=iZ) (sCap:=Q9) (off:=off) (cs:=(j4.toList.drop off2).take k) ht hi hh (by rw[cE,hk])
      (fun q hq j v hj=>by
        injection hq with hq;subst hq
        rw[Addr.iB]
        have hj':j<k:=by have:=(List.getElem?_eq_some_iff.1 hj).1;omega
        rw[List.getElem?_take,if_pos hj',List.getElem?_drop,Array.getElem?_toList] at hj
        simp only[World.cell?,w8,hj];rfl) (fun hn=>by cases hn) (by rw[cE];omega) hone
     rw[cE] at hrun
     have hrow:∀q,RV w A ((splice cs off (((ck.drop off2).take k).map AV.erase0)).getD q .any) ((vs.toList.take off++(j4.toList.drop off2).take k++vs.toList.drop (off+k)).toArray.getD q undef)∧aek sp ((splice cs off (((ck.drop off2).take k).map AV.erase0)).getD q .any) ((vs.toList.take off++(j4.toList.drop off2).take k++vs.toList.drop (off+k)).toArray.getD q undef):=by
      intro q
      have e:=agr vs ((j4.toList.drop off2).take k) off q (by rw[cE];omega)
      rw[cE] at e
      rw[e,mW _ _ _ _ (by rw[iC];omega),iC]
      split
      ·rename_i hq
       have hj:q - off<k:=by omega
       rw[iV,hu _ hj]
       have e3:((ck.drop off2).take k).getD (q - off) .any=ck.getD (off2+(q - off)) .any:=by simp only[List.getD_eq_getElem?_getD,List.getElem?_take,hj,if_true,List.getElem?_drop]
       rw[e3]
       exact⟨(cD _).1.erase0,.erase0⟩
      ·exact hr q
     refine fin' (h.setRow hb hh ?_ hrow) (RS.ags _ _ hb) hd hN (hex _ _ hrun) (.lit _ rfl) trivial ?_ hn
     ·rw[kT]
      simp only[List.size_toArray,List.length_append,List.length_take,List.length_drop,Array.length_toList]
      omega
     ·rw[hk]
      exact hK
  ·exact hv.elim
 ·exact hv.elim
theorem Ra{t e:TypeId}{x hi mx:Operand}{ax ah am:ai}{sz:Nat}(hop:o.op=.slice t x none (some hi) (some mx))(hd:o.dst=some d)(hN:d<N)(hx:aF x=some ax)(hy:aF hi=some ah)(hm:aF mx=some am)
  (ht:P.underlying t=some (.slice e))(hz:cA P e=some sz)
  (h:RS N s a w A sp)(hv:vc1 P (.agc d ax ah am sz) s K)(hn:Next s w A sp N K next):o.wp P a w next Q:=by
 have h1:=(bl h hx).1
 have h2:=(bl h hy).1
 have h3:=(bl h hm).1
 simp only[cA,Option.map_eq_some_iff] at hz
 obtain⟨inf,eA,rfl⟩:=hz
 have pK:d+1≠0:=by omega
 simp only[vc1] at hv
 split at hv
 ·rename_i sz' xs own k k' e1 e2 e3
  rw[e1] at h1;rw[e2] at h2;rw[e3] at h3
  have v2:=h2.aeo
  have v3:=h3.aeo
  generalize bg:a.eval x=v0 at h1
  cases h1 with
  |de=>
   refine fin' (h.aT (d+1)) (Ev.aT (d+1)) hd hN (v:=.slice none 0 0) ?_ (.de _ _) trivial hv hn
   simp[execOp,hop,bg,v2,v3,Instr.sliceAt,run_underlying ht,Instr.slice,Instr.sliceBounds,Instr.sliceBound,asIntOf,sizeOf,typeInfo,eA]
  |slice _ _ _ b off cap vs hsz h1c hcap hlen hc hr=>
   have h4:=(h.aT (d+1)).wP (d+1) (qZ _ _ pK) (agm _ _ pK) b off off (fun hlt=>absurd hlt (Nat.lt_irrefl _)) (fun _ _ hlt=>absurd hlt (Nat.lt_irrefl _)) (fun o' _=>by omega)
   refine fin' h4 ?_ hd hN (v:=.slice (some ⟨b,off,none⟩) 0 0) ?_ (RV.slice inf.size [] (d+1) b off 0 (fun _=>undef) (by simp) (by simp) (Nat.le_refl _) (by simp) (fun i hi=>by simp at hi) (fun i=>by simp;exact .any _)) (.inr (by simp[aD])) hv hn
   ·refine(Ev.aT (d+1)).trans (.same fun c o' hl=> ?_)
    rcases hl with hl|⟨r,q1,q2,q3⟩
    ·exact .inl hl
    ·refine .inr ⟨r,?_⟩
     simp only[aD] at q1 q2 q3⊢
     split at q2
     ·rename_i e;simp only[e,if_true] at q3;dsimp only at q2 q3;omega
     ·rename_i e;simp only[e,if_false] at q1 q3⊢;exact⟨q1,q2,q3⟩
   ·have h5:(0:Int)≤cap:=by omega
    simp[execOp,hop,bg,v2,v3,Instr.sliceAt,run_underlying ht,Instr.slice,Instr.sliceBounds,Instr.sliceBound,asIntOf,sizeOf,typeInfo,eA,Addr.add]
 ·exact hv.elim
end
end Go.aq
namespace Go.aq
open Go.RowKit
section
variable {P:Program} {N:Nat} {s:St} {a:Act} {w:World} {A:aN} {sp:Sp} {K:St→Prop} {next:Act→World→Prop} {Q:Exit→Act→World→Prop} {o:Oper} {d:Nat}
theorem Rb{t e:TypeId}{x lo:Operand}{mx mh:ai}{sz:Nat}(hop:o.op=.slice t x (some lo) none none)(hd:o.dst=some d)(hN:d<N)(hx:aF x=some mx)(hy:aF lo=some mh)
  (ht:P.underlying t=some (.slice e))(hz:cA P e=some sz)
  (h:RS N s a w A sp)(hv:vc1 P (.kQ d mx mh sz) s K)(hn:Next s w A sp N K next):o.wp P a w next Q:=by
 have h1:=(bl h hx).1
 have h2:=(bl h hy).1
 simp only[cA,Option.map_eq_some_iff] at hz
 obtain⟨inf,eA,rfl⟩:=hz
 simp only[vc1] at hv
 split at hv
 ·rename_i sz' xs own k n e1 e2
  obtain⟨hs,h0,hl,hK⟩:=hv
  rw[e1] at h1;rw[e2] at h2
  have v2:=h2.aeo
  have hX:=h1.Ar hs
  generalize bg:a.eval x=v0 at hX
  cases hX with
  |de=>
   have hn0:n=0:=by simp at hl;omega
   subst hn0
   refine fin (v:=.slice none 0 0) h hd hN ?_ (by simp;exact .de _ _) (by simp;trivial) hK hn
   simp[execOp,hop,bg,v2,Instr.sliceAt,run_underlying ht,Instr.slice,Instr.sliceBounds,Instr.sliceBound,asIntOf,sizeOf,typeInfo,eA]
  |slice _ _ _ b off cap vs hsz h1c hcap hlen hc hr=>
   have hnn:n.toNat≤xs.length:=by omega
   have hmul:n.toNat*inf.size≤xs.length*inf.size:=Nat.mul_le_mul_right _ hnn
   have hfl:(xs.drop n.toNat).length=xs.length - n.toNat:=by simp
   have hrun:∃a',(execOp a.eval o).run P w=.ok (.value (.slice (some a') (xs.length - n.toNat) (cap - n.toNat))) w∧(n.toNat<cap→a'=⟨b,off+n.toNat*inf.size,none⟩)∧∃off',a'=⟨b,off',none⟩:=by
    refine⟨if cap=n.toNat then ⟨b,off,none⟩ else (⟨b,off,none⟩:Addr).add (n.toNat*inf.size),?_,fun hlt=>by rw[if_neg (by omega),Addr.iB],?_⟩
    ·by_cases Rc:cap=n.toNat<;>simp[execOp,hop,bg,v2,Instr.sliceAt,run_underlying ht,Instr.slice,Instr.sliceBounds,Instr.sliceBound,asIntOf,sizeOf,typeInfo,eA,h0,hl,Rc]
    ·split
     ·exact⟨off,rfl⟩
     ·exact⟨_,Addr.iB _ _ _⟩
   obtain⟨a',hrun,ha1,off',om⟩:=hrun
   refine fin h hd hN hrun ?_ (.qV (by intro _ _ _ hh;injection hh with _ _ hh;exact hh.symm)) hK hn
   rw[om,←hfl]
   refine .slice _ _ _ _ _ _ (fun i=>vs (n.toNat*inf.size+i)) (fun y hy=>hsz y (List.mem_of_mem_drop hy)) (fun y hy=>h1c y (List.mem_of_mem_drop hy)) (by omega) (by omega) (fun i hi=> ?_) (fun i=> ?_)
   ·rw[hfl,Nat.sub_mul] at hi
    have hlt:n.toNat<cap:=by
     rcases Nat.lt_or_ge n.toNat xs.length with h5|h5
     ·omega
     ·have:=Nat.mul_le_mul_right inf.size h5;omega
    have e5:=ha1 hlt
    rw[om] at e5;injection e5 with _ e5 _
    rw[e5,Nat.add_assoc]
    exact hc _ (by omega)
   ·rw[Gv AV.cells _ xs _ hsz]
    have:=hr (n.toNat*inf.size+i)
    simpa[List.getD_eq_getElem?_getD] using this
 ·exact hv.elim
theorem ah2{t:TypeId}{x lo:Operand}{mx ml:ai}(hop:o.op=.slice t x (some lo) none none)(hd:o.dst=some d)(hN:d<N)(ht:P.underlying t=some .string)(hx:aF x=some mx)(hl:aF lo=some ml)(h:RS N s a w A sp)(hv:vc1 P (.afZ d mx ml) s K)(hn:Next s w A sp N K next):o.wp P a w next Q:=by
 have h1:=(bl h hx).1
 have h2:=(bl h hl).1
 simp only[vc1] at hv
 split at hv
 ·rename_i u k n e1 e2
  obtain⟨c1,c2,hK⟩:=hv
  rw[e1] at h1;rw[e2] at h2
  have v2:=h2.aeo
  generalize bg:a.eval x=v0 at h1
  cases h1
  refine fin (v:=.string (u.extract n.toNat u.size)) h hd hN ?_ (.lit _ rfl) trivial hK hn
  simp[execOp,hop,bg,v2,Instr.sliceAt,run_underlying ht,Instr.slice,Instr.sliceBounds,Instr.sliceBound,asIntOf,c1,c2]
 ·exact hv.elim
theorem Re{ts td:TypeId}{x:Operand}{mx:ai}(hop:o.op=.convert ts td x)(hd:o.dst=some d)(hN:d<N)(hs:P.underlying ts=some .string)(ht:P.underlying td=some .string)(hx:aF x=some mx)(h:RS N s a w A sp)(hv:vc1 P (.lV d mx) s K)(hn:Next s w A sp N K next):o.wp P a w next Q:=by
 have h1:=(bl h hx).1
 simp only[vc1] at hv
 split at hv
 ·rename_i st e1
  rw[e1] at h1
  exact fin (v:=.string st) h hd hN (by simp[execOp,hop,h1.tE,convert,run_underlying hs,run_underlying ht]) (.lit _ rfl) trivial hv hn
 ·exact hv.elim
theorem Rf{aG:cn}{b:Builtin}{xs:Array Operand}{ts:Array TypeId}{m:MOp}(hop:o.op=.call {callee:=.builtin b,args:=xs,argTypes:=ts})(hd:o.dst=some d)(hN:d<N)(hm:Ab P aG b d xs.toList ts.toList=some m)(h:RS N s a w A sp)(hv:vc1 P m s K)(hn:Next s w A sp N K next):o.wp P a w next Q:=by
 obtain⟨xs⟩:=xs
 obtain⟨ts⟩:=ts
 simp only[] at hm
 unfold Ab at hm
 split at hm
 ·split at hm
  ·rename_i e;subst e
   split at hm
   ·split at hm
    ·split at hm
     ·injection hm with hm;subst hm
      exact Q3 hop hd hN ‹_› ‹_› ‹_› ‹_› h hv hn
     ·split at hm
      ·rename_i hc
       injection hm with hm;subst hm
       simp only[Bool.and_eq_true] at hc
       exact Q0 hop hd hN ‹_› ‹_› ‹_› ‹_› hc.1 h hv hn
      ·cases hm
    ·cases hm
   ·cases hm
  ·cases hm
 ·cases hm
theorem Rg{b:Builtin}{xs:Array Operand}{ts:Array TypeId}{m:MOp}(hop:o.op=.call {callee:=.builtin b,args:=xs,argTypes:=ts})(hd:o.dst=some d)(hN:d<N)(hm:Ac P b d xs.toList ts.toList=some m)(h:RS N s a w A sp)(hv:vc1 P m s K)(hn:Next s w A sp N K next):o.wp P a w next Q:=by
 obtain⟨xs⟩:=xs
 obtain⟨ts⟩:=ts
 simp only[] at hm
 unfold Ac at hm
 split at hm
 ·split at hm
  ·split at hm
   ·injection hm with hm;subst hm
    exact Q8 hop hd hN ‹_› ‹_› ‹_› ‹_› h hv hn
   ·cases hm
  ·cases hm
 ·cases hm
theorem Rh{b:Builtin}{xs:Array Operand}{ts:Array TypeId}{m:MOp}(hop:o.op=.call {callee:=.builtin b,args:=xs,argTypes:=ts})(hd:o.dst=some d)(hN:d<N)(hm:Aa P b d xs.toList ts.toList=some m)(h:RS N s a w A sp)(hv:vc1 P m s K)(hn:Next s w A sp N K next):o.wp P a w next Q:=by
 obtain⟨xs⟩:=xs
 obtain⟨ts⟩:=ts
 simp only[] at hm
 unfold Aa at hm
 split at hm
 ·
  split at hm
  ·injection hm with hm;subst hm
   exact Gu hop hd hN (.inl ‹_›) h hv hn
  ·simp only[Option.map_eq_some_iff] at hm
   obtain⟨y,hy,rfl⟩:=hm
   exact P7 hop hd hN hy ‹_› h hv hn
  ·simp only[Option.map_eq_some_iff] at hm
   obtain⟨y,hy,rfl⟩:=hm
   exact P8 hop hd hN hy ‹_› h hv hn
  ·split at hm
   ·injection hm with hm;subst hm
    exact Gu hop hd hN (.inr ⟨_,‹_›,‹_›⟩) h hv hn
   ·cases hm
  ·cases hm
 ·
  split at hm
  ·rename_i e;subst e
   split at hm
   ·split at hm
    ·split at hm
     ·split at hm
      ·rename_i hc
       injection hm with hm;subst hm
       exact Qw hop hd hN ‹_› ‹_› ‹_› ‹_› ‹_› hc.1 hc.2 h hv hn
      ·cases hm
     ·cases hm
    ·cases hm
   ·cases hm
  ·cases hm
 ·
  split at hm
  ·split at hm
   ·injection hm with hm;subst hm
    exact QU hop hd hN ‹_› ‹_› ‹_› ‹_› h hv hn
   ·cases hm
  ·cases hm
 ·split at hm
  ·injection hm with hm;subst hm
   exact P9 hop hd hN ‹_› ‹_› h hv hn
  ·cases hm
 ·split at hm
  ·injection hm with hm;subst hm
   exact P_ hop hd hN ‹_› ‹_› h hv hn
  ·cases hm
 ·cases hm
theorem Ri{op:BinOp}{t t':TypeId}{x y:Operand}{mx my:ai}{mm:MOp}(hop:o.op=.binOp op t x y t')(hd:o.dst=some d)(hN:d<N)(hx:aF x=some mx)(hy:aF y=some my)(hm:Ad P d op t mx my=some mm)(h:RS N s a w A sp)(hv:vc1 P mm s K)(hn:Next s w A sp N K next):o.wp P a w next Q:=by
 unfold Ad at hm
 split at hm
 ·injection hm with hm;subst hm;exact Gr hop hd hN hx hy h hv hn
 ·injection hm with hm;subst hm;exact Gr hop hd hN hx hy h hv hn
 ·split at hm
  ·injection hm with hm;subst hm;exact Gs hop rfl hd hN hx hy ‹_› h hv hn
  ·injection hm with hm;subst hm;exact Gs hop rfl hd hN hx hy ‹_› h hv hn
  ·cases hm
 ·cases hm
theorem Rj{aG:cn}{op:Op}{ty:TypeId}{m:MOp}(hop:o.op=op)(hd:o.dst=some d)(hN:d<N)(hm:Ae P aG d op ty=some m)(h:RS N s a w A sp)(hv:vc1 P m s K)(hn:Next s w A sp N K next):o.wp P a w next Q:=by
 unfold Ae at hm
 split at hm
 ·
  simp only[Option.map_eq_some_iff] at hm
  obtain⟨y,hy,rfl⟩:=hm
  exact PO hop hd hN hy h hv hn
 ·
  injection hm with hm;subst hm
  exact Qe hop hd hN h hv hn
 ·
  simp only[Option.map_eq_some_iff] at hm
  obtain⟨y,hy,rfl⟩:=hm
  exact Qd hop hd hN hy h hv hn
 ·
  split at hm
  ·injection hm with hm;subst hm
   exact PR hop hd hN ‹_› ‹_› ‹_› h hv hn
  ·cases hm
 ·
  split at hm
  ·injection hm with hm;subst hm
   exact Qi hop hd hN ‹_› h hv hn
  ·cases hm
 ·
  split at hm
  ·split at hm
   ·injection hm with hm;subst hm
    split at hv
    ·exact Qg hop hd hN ‹_› ‹_› h hv hn
    ·exact Qf hop hd hN ‹_› ‹_› h hv hn
   ·cases hm
  ·cases hm
 ·
  split at hm
  ·injection hm with hm;subst hm
   exact PS hop hd hN ‹_› ‹_› h hv hn
  ·cases hm
 ·
  split at hm
  ·split at hm
   ·split at hm
    ·split at hm
     ·cases hm
     ·injection hm with hm;subst hm
      exact PT hop hd hN ‹_› ‹_› ‹_› ‹_› ‹_› h hv hn
    ·cases hm
   ·cases hm
  ·cases hm
 ·
  split at hm
  ·split at hm
   ·split at hm
    ·injection hm with hm;subst hm
     exact PW hop hd hN ‹_› ‹_› ‹_› ‹_› h hv hn
    ·cases hm
   ·cases hm
  ·cases hm
 ·
  split at hm
  ·simp only[Option.map_eq_some_iff] at hm
   obtain⟨n,hnn,rfl⟩:=hm
   exact PU hop hd hN ‹_› ‹_› ‹_› hnn h hv hn
  ·simp only[Option.map_eq_some_iff] at hm
   obtain⟨n,hnn,rfl⟩:=hm
   exact PV hop hd hN ‹_› ‹_› ‹_› hnn h hv hn
  ·cases hm
 ·
  split at hm
  ·injection hm with hm;subst hm
   exact PY hop hd hN ‹_› ‹_› ‹_› h hv hn
  ·split at hm
   ·injection hm with hm;subst hm
    exact PX hop hd hN ‹_› ‹_› ‹_› ‹_› ‹_› h hv hn
   ·cases hm
  ·cases hm
 ·
  split at hm
  ·split at hm
   ·split at hm
    ·rename_i hall
     simp only[Option.map_eq_some_iff] at hm
     obtain⟨qs,hq,rfl⟩:=hm
     refine QC hop hd hN ‹_› ‹_› (fun f hf=> ?_) hq h hv hn
     have:=(List.all_eq_true.1 hall) f hf
     exact Option.isSome_iff_exists.1 this
    ·cases hm
   ·split at hm
    ·split at hm
     ·simp only[Option.map_eq_some_iff] at hm
      obtain⟨qs,hq,rfl⟩:=hm
      exact QE hop hd hN ‹_› ‹_› ‹_› ‹_› hq h hv hn
     ·cases hm
    ·cases hm
   ·cases hm
  ·cases hm
 ·
  split at hm
  ·split at hm
   ·split at hm
    ·split at hm
     ·rename_i hc
      injection hm with hm;subst hm
      simp only[Bool.and_eq_true,beq_iff_eq] at hc
      exact QX hop hd hN ‹_› ‹_› hc.1.1 hc.1.2 hc.2 h hv hn
     ·cases hm
    ·cases hm
   ·cases hm
  split at hm
  ·split at hm
   ·split at hm
    ·rename_i hc
     injection hm with hm;subst hm
     simp only[Bool.and_eq_true,decide_eq_true_eq] at hc
     exact QH hop hd hN hc.1.1 ‹_› ‹_› hc.1.2 hc.2 ‹_› h hv hn
    ·cases hm
   ·cases hm
  ·cases hm
 ·
  split at hm
  ·split at hm
   ·injection hm with hm;subst hm
    exact Ri hop hd hN ‹_› ‹_› ‹_› h hv hn
   ·split at hm
    ·injection hm with hm;subst hm
     exact GR hop rfl hd hN ‹_› ‹_› ‹_› h hv hn
    ·injection hm with hm;subst hm
     exact GR hop rfl hd hN ‹_› ‹_› ‹_› h hv hn
    ·unfold Gj at hm
     split at hm
     ·injection hm with hm;subst hm
      exact Gt hop rfl hd hN ‹_› ‹_› h hv hn
     ·injection hm with hm;subst hm
      exact Gt hop rfl hd hN ‹_› ‹_› h hv hn
     ·cases hm
  ·cases hm
 ·simp only[Option.map_eq_some_iff] at hm
  obtain⟨y,hy,rfl⟩:=hm
  exact P3 hop hd hN hy h hv hn
 ·simp only[Option.map_eq_some_iff] at hm
  obtain⟨y,hy,rfl⟩:=hm
  exact P4 hop hd hN hy h hv hn
 ·
  split at hm
  ·injection hm with hm;subst hm
   exact P5 hop hd hN ‹_› ‹_› ‹_› h hv hn
  ·injection hm with hm;subst hm
   exact Re hop hd hN ‹_› ‹_› ‹_› h hv hn
  ·cases hm
 ·simp only[Option.map_eq_some_iff] at hm
  obtain⟨y,hy,rfl⟩:=hm
  exact P6 hop hd hN hy h hv hn
 ·simp only[Option.map_eq_some_iff] at hm
  obtain⟨y,hy,rfl⟩:=hm
  exact Qb hop hd hN hy h hv hn
 ·
  split at hm
  ·injection hm with hm;subst hm
   exact Qa hop hd hN ‹_› ‹_› h hv hn
  ·cases hm
 ·split at hm
  ·split at hm
   ·injection hm with hm
    split at hm
    ·subst hm
     exact Q4 hop hd hN ‹_› ‹_› ‹_› ‹_› h hv hn
    ·subst hm
     exact Qc hop hd hN ‹_› ‹_› ‹_› ‹_› h hv hn
   ·cases hm
  ·cases hm
 ·split at hm
  ·split at hm
   ·injection hm with hm;subst hm
    exact Ra hop hd hN ‹_› ‹_› ‹_› ‹_› ‹_› h hv hn
   ·cases hm
  ·cases hm
 ·split at hm
  ·split at hm
   ·injection hm with hm;subst hm
    exact Rb hop hd hN ‹_› ‹_› ‹_› ‹_› h hv hn
   ·cases hm
  ·split at hm
   ·injection hm with hm;subst hm
    exact ah2 hop hd hN ‹_› ‹_› ‹_› h hv hn
   ·cases hm
  ·cases hm
 ·
  split at hm
  ·split at hm
   ·split at hm
    ·injection hm with hm;subst hm
     exact QT hop hd hN ‹_› ‹_› ‹_› ‹_› ‹_› h hv hn
    ·cases hm
   ·cases hm
  ·cases hm
 ·
  rename_i c
  obtain⟨callee,args,argTypes⟩:=c
  simp only[] at hm
  split at hm
  ·split at hm
   ·exact Rf hop hd hN hm h hv hn
   ·split at hm
    ·exact Rg hop hd hN hm h hv hn
    ·exact Rh hop hd hN hm h hv hn
  ·simp only[Option.map_eq_some_iff] at hm
   obtain⟨ms,hms,hm⟩:=hm
   split at hm
   ·subst hm
    exact Q6 hop hd hN hms h hv hn
   ·subst hm
    exact QO hop hd hN hms h hv hn
  ·simp only[Option.map_eq_some_iff] at hm
   obtain⟨ms,hms,rfl⟩:=hm
   exact QS hop hd hN hms h hv hn
  ·cases hm
 ·cases hm
end
end Go.aq
