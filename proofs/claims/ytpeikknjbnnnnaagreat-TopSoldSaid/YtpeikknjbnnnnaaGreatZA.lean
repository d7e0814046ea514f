/- The abstract values of the layer Avm, what they say of a world, and how they last. Parties over one world; a call that is part of its caller's party. The resolved code of the layer Avm, and what is to be shown of it. How the state of the layer Avm stands to a world that is written, and the shape of one operation's proof. From the model's operations to the resolved ones. Each resolved operation is sound: those that leave the world alone. Each resolved operation is sound: arithmetic and the rest of those that leave the world alone. Each resolved operation is sound: those that make or write. Each resolved operation is sound: stores, literals, appends, calls. Each resolved operation is sound: appends, literals, calls. Each resolved operation is sound: appends. Each resolved operation is sound: literals, calls. Each resolved operation is sound: literals of slices, calls. Each resolved operation is sound: structs compared, calls, guards; a region in the text's order. Each resolved operation is sound: a slice is made; a slice is copied into a mutable one. Each resolved operation is sound: a slice with no room is made; what is appended to it makes a slice that may be written. Each resolved operation is sound: calls and copies that look at a mutable slice. The resolved operations are sound. -/
import Derived.Calls
import Derived.RangeFuncNested
import Derived.OrdersIn
import Derived.KernelRfl
import Derived.WalkKit
import Derived.Laws.StructEq
import Derived.ChangeKeysEq
import Derived.Laws.MakeOwn
import Derived.Laws.CopyRow
namespace Go.az
inductive AV where
 |any
 |lit (v:Value)
 |slice (sz:Nat) (xs:List AV) (own:Nat)
 |ref (cells:List AV)
 |Yq (b off:Nat)
 |aP (b off len cap sz:Nat)
 |agg (cells:List AV)
 |tuple (vs:List AV)
 |func (fn:Fn) (first cap:List AV)
 |ghost (l:Nat) (rest:List (List AV)) (stop:Bool)
 |bL (b:Nat)
 |fmap (es:List (List AV))
 deriving Inhabited
def AV.cells:AV→List AV
 |.agg cs=>cs
 |.any=>[]
 |.ghost .. =>[]
 |v=>[v]
def AV.bH:AV→Bool
 |.lit _|.slice .. |.ref _|.Yq .. |.aP .. |.func .. |.bL _|.fmap _=>true
 |_=>false
def flat:Value→Bool
 |.bool _|.int _ _|.string _|.pointer none|.nilFunc|.nilIface|.map none|.slice none 0 0=>true
 |_=>false
abbrev aJ:=Nat→Nat→Prop
inductive RV (w:World) (A:aJ):AV→Value→Prop
 |any (v:Value):RV w A .any v
 |ghost (l:Nat) (rest:List (List AV)) (stop:Bool) (v:Value):RV w A (.ghost l rest stop) v
 |lit (v:Value) (h:flat v=true):RV w A (.lit v) v
 |cS (sz own:Nat):RV w A (.slice sz [] own) (.slice none 0 0)
 |slice (sz:Nat) (xs:List AV) (own b off cap:Nat) (vs:Nat→Value)
   (hsz:∀x∈xs,x.cells.length=sz) (h1c:∀x∈xs,x.cells.all AV.bH=true) (hcap:xs.length≤cap) (hlen:xs.length≤140737488355328)
   (hc:∀i,i<xs.length*sz→w.cell? ⟨b,off+i,none⟩=some (vs i)∧A b (off+i))
   (hr:∀i,RV w A ((xs.flatMap AV.cells).getD i .any) (vs i)):
   RV w A (.slice sz xs own) (.slice (some ⟨b,off,none⟩) xs.length cap)
 |ref (cs:List AV) (b off:Nat) (vs:Nat→Value)
   (hc:∀i,i<cs.length→w.cell? ⟨b,off+i,none⟩=some (vs i)∧A b (off+i))
   (hr:∀i,RV w A (cs.getD i .any) (vs i)):RV w A (.ref cs) (.pointer (some ⟨b,off,none⟩))
 |Yq (b off:Nat):RV w A (.Yq b off) (.pointer (some ⟨b,off,none⟩))
 |bL (b:Nat):RV w A (.bL b) (.map (some b))
 |fmap (es:List (List AV)) (b:Nat) (es':Array MapEntry) (clock:Nat) (h:w.heap[b]? =some (.map es' clock)) (ha:∀o,A b o) (hs:es'.size=es.length) (hk:∀i e,es'[i]? =some e→RV w A ((es.getD i []).getD 0 .any) e.key) (hv:∀i e,es'[i]? =some e→RV w A ((es.getD i []).getD 1 .any) e.val):RV w A (.fmap es) (.map (some b))
 |aP (b off len cap sz:Nat) (h:len≤cap):RV w A (.aP b off len cap sz) (.slice (some ⟨b,off,none⟩) len cap)
 |agg (xs:List AV) (vs:Array Value) (hs:vs.size=xs.length) (hr:∀i,RV w A (xs.getD i .any) (vs.getD i undef)):RV w A (.agg xs) (.agg vs)
 |tuple (xs:List AV) (vs:Array Value) (hs:vs.size=xs.length) (hr:∀i,RV w A (xs.getD i .any) (vs.getD i undef)):RV w A (.tuple xs) (.tuple vs)
 |func (fn:Fn) (fs cs:List AV) (vf vc:Array Value) (eU:vf.size=fs.length) (hsc:vc.size=cs.length)
   (hf:∀i,RV w A (fs.getD i .any) (vf.getD i undef)) (hc:∀i,RV w A (cs.getD i .any) (vc.getD i undef)):
   RV w A (.func fn fs cs) (.func fn vf vc)
theorem cn{w:World}{b:Nat}{o:Obj}(h:w.heap[b]? =some o):b<w.heap.size:=(Array.getElem?_eq_some_iff.1 h).1
def gU(w w':World)(A A':aJ):Prop:=∀b ob,(∀o,A b o)→w.heap[b]? =some ob→w'.heap[b]? =some ob∧∀o,A' b o
theorem gU.same{w:World}{A A':aJ}(h:∀b o,A b o→A' b o):gU w w A A':=fun b _ ha hb=>⟨hb,fun o=>h b o (ha o)⟩
theorem gU.blocks{w w':World}{A A':aJ}(h:∀b o,A b o→A' b o)(hb:∀b,(∀o,A b o)→b<w.heap.size→w'.heap[b]? =w.heap[b]?):gU w w' A A':=fun b _ ha cY=>⟨(hb b ha (cn cY)).trans cY,fun o=>h b o (ha o)⟩
theorem RV.mono{w w':World}{A A':aJ}(h:∀b o v,A b o→w.cell? ⟨b,o,none⟩=some v→w'.cell? ⟨b,o,none⟩=some v∧A' b o)(ho:gU w w' A A'){x:AV}{v:Value}(hr:RV w A x v):RV w' A' x v:=by
 induction hr with
 |any v=>exact .any v
 |ghost l rest stop v=>exact .ghost l rest stop v
 |lit v hf=>exact .lit v hf
 |cS sz own=>exact .cS sz own
 |slice sz xs own b off cap vs hsz h1c hcap hlen hc _ ih=>
  exact .slice sz xs own b off cap vs hsz h1c hcap hlen (fun i hi=>h _ _ _ (hc i hi).2 (hc i hi).1) ih
 |ref cs b off vs hc _ ih=>exact .ref cs b off vs (fun i hi=>h _ _ _ (hc i hi).2 (hc i hi).1) ih
 |Yq b off=>exact .Yq b off
 |bL b=>exact .bL b
 |fmap es b es' clock hb ha hs _ _ Lf Lg=>exact .fmap es b es' clock (ho b _ ha hb).1 (ho b _ ha hb).2 hs Lf Lg
 |aP b off len cap sz hl=>exact .aP b off len cap sz hl
 |agg xs vs hs _ ih=>exact .agg xs vs hs ih
 |tuple xs vs hs _ ih=>exact .tuple xs vs hs ih
 |func fn fs cs vf vc eU hsc _ _ Lh Li=>exact .func fn fs cs vf vc eU hsc Lh Li
theorem RV.own{w:World}{A:aJ}{sz:Nat}{xs:List AV}{r r':Nat}{v:Value}(h:RV w A (.slice sz xs r) v):RV w A (.slice sz xs r') v:=by
 cases h with
 |cS=>exact .cS sz r'
 |slice _ _ _ b off cap vs hsz h1c hcap hlen hc hr=>exact .slice sz xs r' b off cap vs hsz h1c hcap hlen hc hr
def aG(r:Nat):AV→AV
 |.slice sz xs r'=>if r'=r then .slice sz xs 0 else .slice sz xs r'
 |x=>x
def AV.erase0:AV→AV
 |.slice sz xs _=>.slice sz xs 0
 |x=>x
def AV.erase:AV→AV
 |.slice sz xs _=>.slice sz xs 0
 |.agg cs=>.agg (cs.map AV.erase0)
 |x=>x
theorem RV.aG{w:World}{A:aJ}{x:AV}{v:Value}(r:Nat)(h:RV w A x v):RV w A (aG r x) v:=by
 cases x with
 |slice sz xs r'=>simp only[az.aG];split;exact h.own;exact h
 |_=>exact h
theorem RV.erase0{w:World}{A:aJ}{x:AV}{v:Value}(h:RV w A x v):RV w A x.erase0 v:=by
 cases x with
 |slice sz xs r'=>exact h.own
 |_=>exact h
theorem gF(l:List AV)(i:Nat):(l.map AV.erase0).getD i .any=(l.getD i .any).erase0:=by
 simp only[List.getD_eq_getElem?_getD,List.getElem?_map]
 cases l[i]? <;>rfl
theorem RV.erase{w:World}{A:aJ}{x:AV}{v:Value}(h:RV w A x v):RV w A x.erase v:=by
 cases x with
 |slice sz xs r'=>exact h.own
 |agg cs=>cases h with
  |agg _ vs hs hr=>exact .agg _ _ (by simpa using hs) fun i=>by rw[gF];exact(hr i).erase0
 |_=>exact h
theorem xx(x:AV):x.erase.cells=x.cells.map AV.erase0:=by cases x<;>rfl
abbrev Sp:=Nat→Nat×Nat×Nat
def spare(sp:Sp):aJ:=fun b o=>∃r,(sp r).1=b∧(sp r).2.1≤o∧o<(sp r).2.2
structure St where
 env:Nat→AV
 loc:Nat→Option (List AV)
def live(loc:Nat→Option (List AV))(sp:Sp):aJ:=fun b o=>loc b≠none∨spare sp b o
def bN(sp:Sp):AV→Value→Prop
 |.slice sz _ r,.slice (some a) len cap=>r=0∨sp r=(a.block,a.off+len*sz,a.off+cap*sz)
 |_,_=>True
structure RS (N:Nat) (s:St) (a:Act) (w:World) (A:aJ) (sp:Sp):Prop where
 size:a.tmps.size=N
 defers:a.defers=[]
 env:∀d,RV w A (s.env d) (a.tmps.getD d undef)∧bN sp (s.env d) (a.tmps.getD d undef)
 loc:∀b cs,s.loc b=some cs→∃vs T,w.heap[b]? =some (.cells vs T (0,0))∧vs.size=cs.length∧∀i,RV w A (cs.getD i .any) (vs.getD i undef)∧bN sp (cs.getD i .any) (vs.getD i undef)
 bR:∀r,(sp r).2.1<(sp r).2.2→(∃vs T,w.heap[(sp r).1]? =some (.cells vs T (0,0))∧(sp r).2.2≤vs.size)∧s.loc (sp r).1=none
 YJ:∀r r',r≠r'→(sp r).2.1<(sp r).2.2→(sp r').2.1<(sp r').2.2→(sp r).1=(sp r').1→(sp r).2.2≤(sp r').2.1∨(sp r').2.2≤(sp r).2.1
 av:∀b o,A b o→b<w.heap.size∧¬live s.loc sp b o
structure Ev (w:World) (A L:aJ) (w':World) (A' L':aJ):Prop where
 os:w'.os=w.os
 tape:w'.tape=w.tape
 output:w'.output=w.output
 size:w.heap.size≤w'.heap.size
 cell:∀b o,b<w.heap.size→¬L b o→w'.cell? ⟨b,o,none⟩=w.cell? ⟨b,o,none⟩∧¬L' b o
 block:∀b,b<w.heap.size→(∀o,¬L b o)→w'.heap[b]? =w.heap[b]?
 sub:∀b o,A b o→A' b o
 sup:∀b o,A' b o→A b o∨L b o∨w.heap.size≤b
theorem Ev.refl(w:World)(A L:aJ):Ev w A L w A L:=⟨rfl,rfl,rfl,Nat.le_refl _,fun _ _ _ h=>⟨rfl,h⟩,fun _ _ _=>rfl,fun _ _ h=>h,fun _ _ h=>.inl h⟩
theorem Ev.trans{w w1 w2:World}{A L A1 L1 A2 L2:aJ}(h:Ev w A L w1 A1 L1)(k:Ev w1 A1 L1 w2 A2 L2):Ev w A L w2 A2 L2 where
 os:=k.os.trans h.os
 tape:=k.tape.trans h.tape
 output:=k.output.trans h.output
 size:=Nat.le_trans h.size k.size
 cell b o hb hl:=by
  have h1:=h.cell b o hb hl
  have h2:=k.cell b o (Nat.lt_of_lt_of_le hb h.size) h1.2
  exact⟨h2.1.trans h1.1,h2.2⟩
 block b hb hl:=(k.block b (Nat.lt_of_lt_of_le hb h.size) fun o=>(h.cell b o hb (hl o)).2).trans (h.block b hb hl)
 sub b o ha:=k.sub b o (h.sub b o ha)
 sup b o ha:=by
  rcases k.sup b o ha with h1|h1|h1
  ·exact h.sup b o h1
  ·by_cases hb:b<w.heap.size
   ·by_cases hl:L b o
    ·exact .inr (.inl hl)
    ·exact absurd h1 (h.cell b o hb hl).2
   ·exact .inr (.inr (by omega))
  ·exact .inr (.inr (Nat.le_trans h.size h1))
theorem Ev.kept{w w':World}{A L A' L':aJ}(h:Ev w A L w' A' L')(hd:∀b o,A b o→b<w.heap.size∧¬L b o):gU w w' A A':=.blocks h.sub fun b ha hb=>h.block b hb fun o=>(hd b o (ha o)).2
theorem Ev.mono{w w':World}{A L A' L':aJ}(h:Ev w A L w' A' L')(hd:∀b o,A b o→b<w.heap.size∧¬L b o){x:AV}{v:Value}(hr:RV w A x v):RV w' A' x v:=hr.mono (fun b o _ ha hc=>⟨((h.cell b o (hd b o ha).1 (hd b o ha).2).1).trans hc,h.sub b o ha⟩) (h.kept hd)
def aq{α:Type}(f:Nat→α)(d:Nat)(x:α):Nat→α:=fun k=>if k=d then x else f k
theorem gV{α:Type}(f:Nat→α)(d:Nat)(x:α):aq f d x d=x:=by simp[aq]
theorem bM{α:Type}(f:Nat→α){d k:Nat}(x:α)(h:k≠d):aq f d x k=f k:=by simp[aq,h]
theorem qi{α:Type}(f:Nat→α){d d':Nat}(x y:α)(h:d≠d'):aq (aq f d x) d' y=aq (aq f d' y) d x:=by funext k;simp only[aq];split<;>split<;>simp_all
theorem RS.put{N:Nat}{s:St}{a:Act}{w:World}{A:aJ}{sp:Sp}(h:RS N s a w A sp){d:Nat}(hd:d<N){x:AV}{v:Value}(hr:RV w A x v)(ho:bN sp x v):RS N {s with env:=aq s.env d x} (a.put (some d) v) w A sp where
 size:=by simp[Act.put,h.size]
 defers:=h.defers
 env k:=by
  by_cases hk:k=d
  ·subst hk
   have:(a.tmps.setIfInBounds k v).getD k undef=v:=by simp[Array.getD_eq_getD_getElem?,h.size,hd]
   simp only[Act.put,this,gV];exact⟨hr,ho⟩
  ·have:(a.tmps.setIfInBounds d v).getD k undef=a.tmps.getD k undef:=by simp[Array.getD_eq_getD_getElem?,Ne.symm hk]
   simp only[Act.put,this,bM _ _ hk];exact h.env k
 loc:=h.loc
 bR:=h.bR
 YJ:=h.YJ
 av:=h.av
theorem bN.oF{sp:Sp}{x:AV}{v:Value}(h:∀sz xs r,x=.slice sz xs r→r=0):bN sp x v:=by
 cases x with
 |slice sz xs r=>cases v with
  |slice a len cap=>cases a with
   |some a=>exact .inl (h _ _ _ rfl)
   |none=>trivial
  |_=>trivial
 |_=>trivial
theorem bN.erase{sp:Sp}{x:AV}{v:Value}:bN sp x.erase v:=.oF (by intro sz xs r h;cases x<;>simp_all [AV.erase])
theorem bN.erase0{sp:Sp}{x:AV}{v:Value}:bN sp x.erase0 v:=.oF (by intro sz xs r h;cases x<;>simp_all [AV.erase0])
end Go.az
namespace Go.az
open Go.RowKit
def Zn(P:Program)(f:FuncId):Bool:=
 match P.funcs[f]? with
 |some fn=>fn.name != "runtime.NumGoroutine" &&fn.body.isSome
 |none=>false
@[irreducible] def gS:Nat:=1000000
@[irreducible] def oS:Nat:=1000001
def jT(t:ByteArray)(pos:Nat):AV:=.ghost pos [[.lit (.string t)]] true
def aS(es:List (List AV)):AV:=.ghost 0 es false
def gG(b since:Nat)(seen:List Nat):AV:=.ghost b [[.lit (.int .i64 since)],seen.map fun(i:Nat)=>.lit (.int .i64 i)] true
def jr:AV→Bool
 |.any=>true
 |.ghost .. =>true
 |_=>false
abbrev Fw(ro:Option Nat):Fence:={Fence.wide with round:=ro}
structure kG (w w':World) (A A' Lx:aJ):Prop where
 os:w'.os=w.os
 tape:w'.tape=w.tape
 output:w'.output=w.output
 size:w.heap.size≤w'.heap.size
 oG:∀b o,Lx b o→w'.heap[b]? =w.heap[b]?
 cell:∀b o v,A b o→w.cell? ⟨b,o,none⟩=some v→w'.cell? ⟨b,o,none⟩=some v
 sub:∀b o,A b o→A' b o
 nI:∀b o,A' b o→b<w'.heap.size∧¬Lx b o
 obj:gU w w' A A'
def join(L M:aJ):aJ:=fun b o=>L b o∨M b o
abbrev xy(X:AV→World→aJ→aJ→Prop):Prop:=∀gh w w' A A' Lx,X gh w A Lx→kG w w' A A' Lx→X gh w' A' Lx
abbrev uA(P:Program)(X:AV→World→aJ→aJ→Prop):Prop:=
 ∀l y rest w A Lx vs,X (.ghost l (y::rest) false) w A Lx→(∀b o,Lx b o→b<w.heap.size)→(∀b o,A b o→b<w.heap.size∧¬Lx b o)→
  vs.size=y.length→(∀i,RV w A (y.getD i .any) (vs.getD i undef))→
  ∃fn tmps assign body,(Instr.yield l vs).run P w=.ok (.round l fn tmps assign body) w∧RoundIn (Fw none) 0 P l fn tmps assign body w fun e w'=>∃b A' Yt,e=.returned (.bool b)∧Ev w A Lx w' A' Yt∧(∀b o,Yt b o→b<w'.heap.size)∧(∀b o,A' b o→b<w'.heap.size∧¬Yt b o)∧X (.ghost l rest (!b)) w' A' Yt
def mark(pos:Nat):AV:=.lit (.agg #[.int .i64 pos])
def noMark(y:List AV):Bool:=match y.getLast? with
 |some (.lit (.agg _))=>false
 |_=>true
def putAt(x:AV)(pos:Nat)(v:AV):AV:=match x,pos with
 |.agg cs,j+1=>.agg (cs.set j v)
 |_,_=>v
def CO(x:AV)(pos:Nat):AV:=match x,pos with
 |.agg cs,j+1=>cs.getD j .any
 |x,_=>x
def chunk(sz:Nat):List AV→Nat→List AV
 |_,0=>[]
 |cs,n+1=>(if sz=1 then (cs.getD 0 .any).erase0 else .agg ((cs.take sz).map AV.erase0))::chunk sz (cs.drop sz) n
def ZI(b:Nat):aJ:=fun c _=>c=b
def qj(w:World)(A:aJ)(b:Nat)(cs:List AV):Prop:=∃vs T,w.heap[b]? =some (.cells vs T (0,0))∧vs.size=cs.length∧∀i,RV w A (cs.getD i .any) (vs.getD i undef)
def ZK(x:AV)(pos sz len cap:Nat)(cs:List AV):Prop:=CO x pos=.slice sz (chunk sz cs len) 0∧len*sz≤cs.length∧len≤cap∧len≤140737488355328∧cs.all AV.bH=true∧cs.map AV.erase0=cs
abbrev uB(P:Program)(X:AV→World→aJ→aJ→Prop):Prop:=
 ∀l x pos rest w A Lx v b sz len cap cs,X (.ghost l ([x,mark pos]::rest) false) w A Lx→ZK x pos sz len cap cs→(∀b o,Lx b o→b<w.heap.size)→(∀b o,A b o→b<w.heap.size∧¬Lx b o)→
  RV w A (putAt x pos (.aP b 0 len cap sz)) v→qj w A b cs→(∀o,¬A b o)→(∀o,¬Lx b o)→
  ∃fn tmps assign body,(Instr.yield l #[v]).run P w=.ok (.round l fn tmps assign body) w∧RoundIn (Fw none) 0 P l fn tmps assign body w fun e w'=>∃bo A' Yt,e=.returned (.bool bo)∧Ev w A (join Lx (ZI b)) w' A' (join Yt (ZI b))∧(∀b o,Yt b o→b<w'.heap.size)∧(∀b o,A' b o→b<w'.heap.size∧¬Yt b o)∧(∀o,¬A' b o)∧(∀o,¬Yt b o)∧qj w' A' b cs∧X (.ghost l rest (!bo)) w' A' Yt
structure Ctx (P:Program) where
 N:Nat
 B:Nat
 ro:Option Nat
 X:AV→World→aJ→aJ→Prop
 st:xy X
 yl:uA P X
 xz:uB P X
inductive gW (w:World) (A:aJ) (b:Nat):AV→Prop
 |any:gW w A b .any
 |iter (t:ByteArray) (pos:Nat) (h:w.heap[b]? =some (.stringIter t pos)):gW w A b (jT t pos)
 |map (es:List (List AV)) (es':Array MapEntry) (clock:Nat) (h:w.heap[b]? =some (.map es' clock)) (hs:es'.size=es.length) (hc:clock=es'.size) (hr:∀i e,es'[i]? =some e→RV w A ((es.getD i []).getD 0 .any) e.key∧RV w A ((es.getD i []).getD 1 .any) e.val∧e.born=i):gW w A b (aS es)
 |nJ (b' since:Nat) (seen:List Nat) (h:w.heap[b]? =some (.mapIter (some b') since seen.toArray since)):gW w A b (gG b' since seen)
def YC(s:St):aJ:=fun b _=>s.env (oS+b)≠.any
def held(s:St)(sp:Sp):aJ:=join (live s.loc sp) (YC s)
structure GS {P:Program} (C:Ctx P) (Pt:List (Nat×Obj)) (s:St) (a:Act) (w:World) (A Lx:aJ) (sp:Sp):Prop where
 rs:RS C.N s ⟨a.tmps,[]⟩ w A sp
 ig:∀k,gS≤k→jr (s.env k)=true
 lt:∀b o,Lx b o→b<w.heap.size
 ap:∀b o o',held s sp b o→¬Lx b o'
 av:∀b o,A b o→¬Lx b o
 x:C.X (s.env gS) w A Lx
 pt:∀p∈Pt,w.heap[p.1]? =some p.2∧p.2.isCells=false∧(∀o,¬Lx p.1 o)∧(∀o,¬A p.1 o)∧s.env (oS+p.1)=.any
 ob:∀b,gW w A b (s.env (oS+b))
 oa:∀b o,YC s b o→¬A b o
 bs:C.B≤w.heap.size
 dn:(a.defers.map (·.target)).Nodup
 df:∀d∈a.defers,∃D,C.B≤D∧d=⟨.collected D,#[]⟩∧(D,.deferred (some []))∈Pt
 ro:∀l,C.ro=some l→∃r,(l,.loop r)∈Pt
def YZ(P:Program)(f:FuncId)(xs:List AV)(s:St)(K:AV→St→Prop):Prop:=Zn P f=true∧∀(C:Ctx P) (Pt:List (Nat×Obj)) (a:Act) (w:World) (A Lx:aJ) (sp:Sp) (vs:Array Value),C.N≤gS→GS C Pt s a w A Lx sp→vs.size=xs.length→(∀i,RV w A (xs.getD i .any) (vs.getD i undef))→Calls P f vs w fun e w'=>∃r v s' A' Yt sp',e=.returned v∧RV w' A' r v∧bN sp' r v∧GS C Pt s' a w' A' Yt sp'∧Ev w A (join (held s sp) Lx) w' A' (join (held s' sp') Yt)∧K r s'
theorem YZ.mono{P:Program}{f:FuncId}{xs:List AV}{s:St}{K K':AV→St→Prop}(hk:∀r s',K r s'→K' r s')(h:YZ P f xs s K):YZ P f xs s K':=by
 refine⟨h.1,fun C Pt a w A Lx sp vs hN hG hs hr=>(h.2 C Pt a w A Lx sp vs hN hG hs hr).mono ?_⟩
 rintro e w' ⟨r,v,s',A',Yt,sp',h1,h2,h3,h4,h5,h6⟩
 exact⟨r,v,s',A',Yt,sp',h1,h2,h3,h4,h5,hk _ _ h6⟩
end Go.az
namespace Go.az
inductive ai where
 |t (n:Nat)
 |c (x:AV)
 deriving Inhabited
def ai.ev(e:Nat→AV):ai→AV
 |.t n=>e n
 |.c x=>x
inductive Yr where
 |aa (d:Nat) (x:ai)
 |nK (d:Nat) (x:ai)
 |Yo (d:Nat) (x:ai)
 |bS (d sz:Nat)
 |bB (d:Nat) (x:ai) (n:Nat)
 |mE (d:Nat) (x:ai) (n:Nat)
 |alloc (d:Nat) (zero:List AV)
 |load (d:Nat) (x:ai) (n:Option Nat)
 |store (x y:ai) (n br:Nat)
 |nL (x:ai) (sz br:Nat)
 |bJ (k:Nat) (y:ai) (n:Nat)
 |addr (d:Nat) (x:ai) (off:Nat)
 |aU (d:Nat) (x i:ai) (sz:Nat)
 |bV (d:Nat) (x i:ai) (len sz:Nat)
 |kH (d:Nat) (x:ai) (off:Nat) (n:Option Nat)
 |kI (d:Nat) (x i:ai) (len sz:Nat) (n:Option Nat)
 |jU (d:Nat) (x i:ai)
 |build (d:Nat) (zero:List AV) (parts:List (Nat×Nat×ai))
 |aO (d n sz:Nat) (zero:List AV) (parts:List (Nat×ai))
 |len (d:Nat) (x:ai)
 |jV (d:Nat) (x:ai)
 |mF (d n:Nat)
 |app (d:Nat) (x y:ai) (sz bytes:Nat)
 |bin (d:Nat) (op:BinOp) (x y:ai)
 |lE (d:Nat) (neg:Bool) (x y:ai)
 |fP (d:Nat) (neg:Bool) (n:List Bool) (x y:ai)
 |Zo (d:Nat) (x:ai) (n:Option Nat)
 |not (d:Nat) (x:ai)
 |neg (d:Nat) (x:ai)
 |conv (d:Nat) (k:IntKind) (x:ai)
 |pick (d:Nat) (c x y:ai)
 |ext (d:Nat) (x:ai) (i:Nat)
 |fQ (d:Nat) (x y:ai)
 |h_ (d:Nat) (x y:ai)
 |call (d:Nat) (f:FuncId) (xs:List ai)
 |eV (d:Nat) (x:ai) (xs:List ai)
 |eK (d:Nat) (fn:Fn) (first cap:List ai)
 |bO (d:Nat) (x:ai)
 |iM (d:Nat) (x hi:ai) (sz:Nat)
 |nM (d:Nat) (x lo:ai) (sz:Nat)
 |eW (d:Nat) (x:ai)
 |apart (zs:List ai) (x:ai) (m:Yr)
 |guard (g:Nat) (want:Bool) (d:Option Nat) (m:Yr)
 |mG (d:Nat) (x:ai) (xs:List ai)
 |nN (d:Nat) (x:ai) (pos:Nat) (y:ai)
 |dZ (d:Nat) (f:FuncId) (xs:List ai)
 |jW (d:Nat) (x:ai) (xs:List ai)
 |eL (d:Nat) (n c:ai) (sz bytes:Nat) (zero:List AV)
 |nO (d:Nat) (x y:ai) (sz:Nat)
 |oH (d:Nat) (f:FuncId) (xs:List ai)
 |oI (d:Nat) (x:ai) (xs:List ai)
 |js (d:Nat) (x hi mx:ai) (sz:Nat)
 |aar (d:Nat) (x hi mx:ai) (sz:Nat)
 |nP (d:Nat) (x y:ai) (sz:Nat)
 |ql (d:Nat) (x hi:ai) (sz:Nat)
 |iN (d:Nat) (x y:ai) (sz bytes:Nat) (zero:List AV)
 |oJ (d:Nat) (x y:ai) (sz:Nat)
 |oK (d:Nat) (x:ai)
 |oL (d:Nat) (x:ai)
 |mkMap (d:Nat)
 |qm (d:Nat) (x:ai)
 |qn (d:Nat) (x:ai)
 |kJ (x k v:ai) (n:Option Nat)
 |jt (d:Nat) (x k:ai) (n:Option Nat) (zero:AV)
 |rW (x st v:ai)
 |rX (d:Nat) (x:ai)
 |isNil (d:Nat) (neg:Bool) (x:ai)
 |lookup (d:Nat) (x k:ai) (n:Option Nat) (ok:Bool) (zero:AV)
 |Yu (k:Nat)
 |rY (d:Nat) (x lo:ai)
 deriving Inhabited
def gX:IntKind→Int→Prop
 |.i8,n=> -128≤n∧n≤127
 |.i16,n=> -32768≤n∧n≤32767
 |.i32,n=> -2147483648≤n∧n≤2147483647
 |.i64,n=> -9223372036854775808≤n∧n≤9223372036854775807
 |.u8,n=>0≤n∧n≤255
 |.u16,n=>0≤n∧n≤65535
 |.u32,n=>0≤n∧n≤4294967295
 |.u64,n=>0≤n∧n≤18446744073709551615
def d_(op:BinOp)(k:IntKind)(x y:Int):Int:=
 let a:=BitVec.ofInt k.bits x
 let b:=BitVec.ofInt k.bits y
 match op with
 |.and=>k.wrap (a &&& b).toNat
 |.or=>k.wrap (a ||| b).toNat
 |.xor=>k.wrap (a ^^^ b).toNat
 |_=>k.wrap (a &&& ~~~b).toNat
def eX(op:BinOp)(k:IntKind)(a b:Int)(K:AV→Prop):Prop:=
 match op with
 |.add=>gX k (a+b)∧K (.lit (.int k (a+b)))
 |.sub=>gX k (a - b)∧K (.lit (.int k (a - b)))
 |.mul=>gX k (a*b)∧K (.lit (.int k (a*b)))
 |.quo=>b≠0∧gX k (a.tdiv b)∧K (.lit (.int k (a.tdiv b)))
 |.rem=>b≠0∧K (.lit (.int k (a.tmod b)))
 |.and|.or|.xor|.andNot=>K (.lit (.int k (d_ op k a b)))
 |.eql=>K (.lit (.bool (a==b)))
 |.neq=>K (.lit (.bool (a != b)))
 |.lss=>K (.lit (.bool (decide (a<b))))
 |.leq=>K (.lit (.bool (decide (a≤b))))
 |.gtr=>K (.lit (.bool (decide (a>b))))
 |.geq=>K (.lit (.bool (decide (a≥b))))
 |_=>False
def qo(op:BinOp)(k:IntKind)(a b:Int)(K:AV→Prop):Prop:=
 match op with
 |.shl=>0≤b∧K (.lit (.int k (k.wrap (a*2^(min b.toNat k.bits)))))
 |.shr=>0≤b∧K (.lit (.int k (a.fdiv (2^(min b.toNat k.bits)))))
 |_=>False
def nQ(op:BinOp)(a b:ByteArray)(K:AV→Prop):Prop:=
 match op with
 |.eql=>K (.lit (.bool (a.toList==b.toList)))
 |.neq=>K (.lit (.bool (!(a.toList==b.toList))))
 |.lss=>K (.lit (.bool (Op.bytesLess a.toList b.toList)))
 |.leq=>K (.lit (.bool (Op.bytesLess a.toList b.toList||a.toList==b.toList)))
 |.gtr=>K (.lit (.bool (!(Op.bytesLess a.toList b.toList||a.toList==b.toList))))
 |.geq=>K (.lit (.bool (!Op.bytesLess a.toList b.toList)))
 |_=>False
def cZ(op:BinOp)(x y:AV)(K:AV→Prop):Prop:=
 match x,y with
 |.lit (.int k a),.lit (.int k' b)=>match op with
  |.shl=>qo .shl k a b K
  |.shr=>qo .shr k a b K
  |_=>k=k'∧eX op k a b K
 |.lit (.string a),.lit (.string b)=>nQ op a b K
 |_,_=>False
def St.aK(r:Nat)(s:St):St:=⟨fun k=>aG r (s.env k),fun b=>(s.loc b).map (·.map (aG r))⟩
def St.set(s:St)(d:Nat)(x:AV):St:=⟨aq s.env d x,s.loc⟩
def St.new(s:St)(b:Nat)(cs:List AV):St:=⟨s.env,aq s.loc b (some cs)⟩
def Y4(s:St)(d:Nat):AV→St
 |.slice sz xs r=>if r=0 then s.set d (.slice sz xs 0) else ((s.aK r).aK (d+1)).set d (.slice sz xs (d+1))
 |x=>s.set d x
def cC(cs:List AV)(off:Nat)(n:Option Nat)(K:AV→Prop):Prop:=
 match n with
 |none=>off<cs.length∧K (cs.getD off .any)
 |some n=>off+n≤cs.length∧K (AV.agg ((cs.drop off).take n)).erase
def dr(loc:Nat→Option (List AV))(x:AV)(n:Option Nat)(K:AV→Prop):Prop:=
 match x with
 |.ref cs=>cC cs 0 n fun v=>K v.erase
 |.Yq b off=>match loc b with
  |some cs=>cC cs off n K
  |none=>False
 |_=>False
def splice(cs:List AV)(off:Nat):List AV→List AV
 |[]=>cs
 |v::vs=>splice (cs.set off v) (off+1) vs
def ju(s:St)(x y:AV)(n br:Nat)(K:St→Prop):Prop:=
 match x with
 |.Yq b off=>match s.loc b with
  |some cs=>off+n≤cs.length∧y.cells.length=n∧y.cells.all AV.bH=true∧
   match y with
   |.slice sz xs r=>if r=0∨br=0 then K (s.new b (splice cs off [.slice sz xs 0])) else K (((s.aK r).aK br).new b ((cs.map (fun x=>aG br (aG r x))).set off (.slice sz xs br)))
   |y=>K (s.new b (splice cs off (y.cells.map AV.erase0)))
  |none=>False
 |_=>False
def lF(e:Nat→AV)(cs:List AV):List (Nat×Nat×ai)→(List AV→Prop)→Prop
 |[],K=>K cs
 |(off,n,x)::ps,K=>(x.ev e).cells.length=n∧off+n≤cs.length∧lF e (splice cs off ((x.ev e).cells.map AV.erase0)) ps K
def gY(e:Nat→AV)(sz:Nat)(xs:List AV):List (Nat×ai)→(List AV→Prop)→Prop
 |[],K=>K xs
 |(i,x)::ps,K=>(x.ev e).cells.length=sz∧(x.ev e).cells.all AV.bH=true∧i<xs.length∧gY e sz (xs.set i (x.ev e).erase) ps K
def fR:List Bool→List AV→List AV→Option Bool
 |[],[],[]=>some true
 |false::ks,.lit (.int k a)::xs,.lit (.int k' b)::ys=>if k=k' then (fR ks xs ys).map (a==b&& ·) else none
 |true::ks,.lit (.bool a)::xs,.lit (.bool b)::ys=>(fR ks xs ys).map (a==b&& ·)
 |_,_,_=>none
def Fr(w w':World):Prop:=w'.os=w.os∧w'.tape=w.tape∧w'.output=w.output∧w.heap.size≤w'.heap.size∧∀b,b<w.heap.size→w'.heap[b]? =w.heap[b]?
def aA(P:Program)(f:FuncId)(xs:List AV)(r:AV):Prop:=
 Zn P f=true∧
 ∀(w:World) (A:aJ) (vs:Array Value),(∀b o,A b o→b<w.heap.size)→vs.size=xs.length→(∀i,RV w A (xs.getD i .any) (vs.getD i undef))→Calls P f vs w fun e w'=>∃v A',e=.returned v∧Fr w w'∧(∀b o,A b o→A' b o)∧(∀b o,A' b o→A b o∨(w.heap.size≤b∧b<w'.heap.size))∧RV w' A' r v
def eM:AV→AV→Option Bool
 |.lit (.int k a),.lit (.int k' b)=>if k=k' then some (a==b) else none
 |.lit (.string a),.lit (.string b)=>some (a.toList==b.toList)
 |.agg xs,.agg ys=>fR (List.replicate xs.length false) xs ys
 |_,_=>none
def gZ:Option Nat→AV→Prop
 |none,.lit (.int _ _)=>True
 |some 999,.lit (.string _)=>True
 |some n,.agg xs=>n≠999∧xs.length=n
 |_,_=>False
def b_(k:AV):List (List AV)→Nat→Option (Option Nat)
 |[],_=>some none
 |e::es,i=>match eM k (e.getD 0 .any) with
  |some true=>some (some i)
  |some false=>b_ k es (i+1)
  |none=>none
def nR:AV→AV→Prop
 |.Yq b' _,.Yq b _=>b'≠b
 |.ref _,.Yq _ _=>True
 |_,_=>False
def nS(loc:Nat→Option (List AV)):AV→Option AV
 |.aP b off len _ sz=>match loc b with
  |some cs=>if decide (off+len*sz≤cs.length)&&cs.all AV.bH&&decide (len≤140737488355328) then some (.slice sz (chunk sz (cs.drop off) len) 0) else none
  |none=>none
 |x=>some x
def jv(loc:Nat→Option (List AV)):List AV→Option (List AV)
 |[]=>some []
 |x::xs=>match nS loc x,jv loc xs with
  |some y,some ys=>some (y::ys)
  |_,_=>none
def Yp(P:Program):Yr→St→(St→Prop)→Prop
 |.aa d x,s,K=>K (s.set d (x.ev s.env))
 |.nK d x,s,K=>match x.ev s.env with
  |.lit (.string t)=>K (s.set d (.lit (.string t)))
  |_=>False
 |.Yo d x,s,K=>K (Y4 s d (x.ev s.env))
 |.bS d sz,s,K=>K ((s.aK (d+1)).set d (.slice sz [] (d+1)))
 |.bB d x n,s,K=>(x.ev s.env).cells.length=n∧K (s.set d (.ref ((x.ev s.env).cells.map AV.erase0)))
 |.mE d x n,s,K=>(x.ev s.env).cells.length=n∧∀b,s.loc b=none→K ((s.new b ((x.ev s.env).cells.map AV.erase0)).set d (.Yq b 0))
 |.alloc d zero,s,K=>∀b,s.loc b=none→K ((s.new b zero).set d (.Yq b 0))
 |.load d x n,s,K=>dr s.loc (x.ev s.env) n fun v=>K (s.set d v)
 |.store x y n br,s,K=>ju s (x.ev s.env) (y.ev s.env) n br K
 |.nL x sz br,s,K=>match x.ev s.env with
  |.Yq b off=>match s.loc b with
   |some cs=>off<cs.length∧K ((s.aK br).new b ((cs.map (aG br)).set off (.slice sz [] br)))
   |none=>False
  |_=>False
 |.bJ k y n,s,K=>match s.env k with
  |.Yq b 0=>match s.loc b with
   |some cs=>cs.length=n∧(y.ev s.env).cells.length=n∧(y.ev s.env).cells.all AV.bH=true∧K ⟨aq s.env k (.ref ((y.ev s.env).cells.map AV.erase0)),aq s.loc b none⟩
   |none=>False
  |_=>False
 |.addr d x off,s,K=>match x.ev s.env with
  |.ref cs=>K (s.set d (.ref (cs.drop off)))
  |.Yq b o=>K (s.set d (.Yq b (o+off)))
  |_=>False
 |.aU d x i sz,s,K=>match x.ev s.env,i.ev s.env with
  |.slice sz' xs _,.lit (.int _ n)=>sz'=sz∧0≤n∧n<xs.length∧K (s.set d (.ref (xs.getD n.toNat .any).cells))
  |.aP b off len _ sz',.lit (.int _ n)=>sz'=sz∧0≤n∧n<len∧K (s.set d (.Yq b (off+n.toNat*sz)))
  |_,_=>False
 |.bV d x i len sz,s,K=>match x.ev s.env,i.ev s.env with
  |.ref cs,.lit (.int _ n)=>0≤n∧n<len∧K (s.set d (.ref (cs.drop (n.toNat*sz))))
  |.Yq b off,.lit (.int _ n)=>0≤n∧n<len∧K (s.set d (.Yq b (off+n.toNat*sz)))
  |_,_=>False
 |.kH d x off n,s,K=>match x.ev s.env with
  |.agg cs=>cC cs off n fun v=>K (s.set d v.erase)
  |_=>False
 |.kI d x i len sz n,s,K=>match x.ev s.env,i.ev s.env with
  |.agg cs,.lit (.int _ j)=>0≤j∧j<len∧cC cs (j.toNat*sz) n fun v=>K (s.set d v.erase)
  |_,_=>False
 |.jU d x i,s,K=>match x.ev s.env,i.ev s.env with
  |.lit (.string t),.lit (.int _ j)=>0≤j∧j<t.size∧K (s.set d (.lit (.int .u8 (t.data.toList.getD j.toNat 0).toNat)))
  |_,_=>False
 |.build d zero ps,s,K=>lF s.env zero ps fun cs=>K (s.set d (.agg cs))
 |.aO d n sz zero ps,s,K=>gY s.env sz (List.replicate n (if sz=1 then zero.getD 0 .any else .agg zero)) ps fun xs=>K ((s.aK (d+1)).set d (.slice sz xs (d+1)))
 |.len d x,s,K=>match x.ev s.env with
  |.slice _ xs _=>K (s.set d (.lit (.int .i64 xs.length)))
  |.aP _ _ len _ _=>K (s.set d (.lit (.int .i64 len)))
  |.lit (.slice none 0 0)=>K (s.set d (.lit (.int .i64 0)))
  |_=>False
 |.jV d x,s,K=>match x.ev s.env with
  |.lit (.string t)=>K (s.set d (.lit (.int .i64 t.size)))
  |_=>False
 |.mF d n,s,K=>K (s.set d (.lit (.int .i64 n)))
 |.app d x y sz bytes,s,K=>match x.ev s.env,y.ev s.env with
  |.slice jX xs r,.slice qp ys _=>r≠0∧jX=sz∧(qp=sz∨ys=[])∧(xs.length+ys.length)*bytes≤140737488355328∧xs.length+ys.length≤140737488355328∧K (((s.aK r).aK (d+1)).set d (.slice sz (xs++ys) (d+1)))
  |_,_=>False
 |.bin d op x y,s,K=>cZ op (x.ev s.env) (y.ev s.env) fun v=>K (s.set d v)
 |.lE d neg x y,s,K=>match x.ev s.env,y.ev s.env with
  |.lit (.bool a),.lit (.bool b)=>K (s.set d (.lit (.bool (if neg then !(a==b) else a==b))))
  |_,_=>False
 |.fP d neg n x y,s,K=>match x.ev s.env,y.ev s.env with
  |.agg a,.agg b=>a.length=n.length∧b.length=n.length∧∃q,fR n a b=some q∧K (s.set d (.lit (.bool (if neg then !q else q))))
  |_,_=>False
 |.not d x,s,K=>match x.ev s.env with
  |.lit (.bool a)=>K (s.set d (.lit (.bool (!a))))
  |_=>False
 |.neg d x,s,K=>match x.ev s.env with
  |.lit (.int k a)=>gX k (0 - a)∧K (s.set d (.lit (.int k (0 - a))))
  |_=>False
 |.conv d k x,s,K=>match x.ev s.env with
  |.lit (.int _ a)=>K (s.set d (.lit (.int k (k.wrap a))))
  |_=>False
 |.pick d c x y,s,K=>match c.ev s.env with
  |.lit (.bool b)=>K (s.set d (if b then x.ev s.env else y.ev s.env))
  |_=>False
 |.ext d x i,s,K=>match x.ev s.env with
  |.tuple vs=>i<vs.length∧K (s.set d (vs.getD i .any).erase)
  |_=>False
 |.fQ d x y,s,K=>match x.ev s.env,y.ev s.env with
  |.lit (.int k a),.lit (.int _ b)=>K (s.set d (.lit (.int k (if b>a then b else a))))
  |_,_=>False
 |.h_ d x y,s,K=>match x.ev s.env,y.ev s.env with
  |.lit (.int k a),.lit (.int _ b)=>K (s.set d (.lit (.int k (if b<a then b else a))))
  |_,_=>False
 |.call d f xs,s,K=>∃r,aA P f (xs.map fun x=>(x.ev s.env).erase) r∧K (s.set d r.erase)
 |.eV d x xs,s,K=>match x.ev s.env with
  |.func (.func f) first cap=>∃r,aA P f (first++(xs.map fun x=>(x.ev s.env).erase)++cap) r∧K (s.set d r.erase)
  |_=>False
 |.eK d fn first cap,s,K=>K (s.set d (.func fn (first.map fun x=>(x.ev s.env).erase) (cap.map fun x=>(x.ev s.env).erase)))
 |.bO d x,s,K=>match x.ev s.env with
  |.ref cs=>K (s.set d (.ref cs))
  |.Yq b o=>K (s.set d (.Yq b o))
  |_=>False
 |.iM d x hi sz,s,K=>match x.ev s.env,hi.ev s.env with
  |.slice sz' xs _,.lit (.int _ n)=>(sz'=sz∨xs=[])∧0≤n∧n≤xs.length∧K (s.set d (.slice sz (xs.take n.toNat) 0))
  |_,_=>False
 |.nM d x lo sz,s,K=>match x.ev s.env,lo.ev s.env with
  |.slice sz' xs _,.lit (.int _ n)=>(sz'=sz∨xs=[])∧0≤n∧n≤xs.length∧K (s.set d (.slice sz (xs.drop n.toNat) 0))
  |_,_=>False
 |.eW d x,s,K=>K (s.set d (x.ev s.env).erase)
 |.apart zs x m,s,K=>(∀z∈zs,nR (z.ev s.env) (x.ev s.env))∧Yp P m s K
 |.guard g want d m,s,K=>match s.env g with
  |.lit (.bool b)=>(b=want→Yp P m s K)∧(b=(!want)→K (match d with|some d=>s.set d (.tuple [])|none=>s))
  |.tuple []=>K (match d with|some d=>s.set d (.tuple [])|none=>s)
  |_=>False
 |.mG d x xs,s,K=>match x.ev s.env,s.env gS with
  |.func (.yield l) [] [],.ghost l' (y::rest) false=>l=l'∧(xs.map fun x=>(x.ev s.env).erase)=y∧K ((s.set gS (.ghost l rest false)).set d (.lit (.bool true)))∧K ((s.set gS (.ghost l rest true)).set d (.lit (.bool false)))
  |_,_=>False
 |.nN d x pos y,s,K=>match x.ev s.env,s.env gS with
  |.func (.yield l) [] [],.ghost l' (z::rest) false=>l=l'∧∃z0 b sz len cap cs,z=[z0,mark pos]∧(y.ev s.env).erase=putAt z0 pos (.aP b 0 len cap sz)∧s.loc b=some cs∧ZK z0 pos sz len cap cs∧K ((s.set gS (.ghost l rest false)).set d (.lit (.bool true)))∧K ((s.set gS (.ghost l rest true)).set d (.lit (.bool false)))
  |_,_=>False
 |.eL d n c sz bytes zero,s,K=>match n.ev s.env,c.ev s.env with
  |.lit (.int .i64 n),.lit (.int .i64 c)=>0≤n∧n≤c∧c*(bytes:Int)≤140737488355328∧c≤140737488355328∧c*(sz:Int)≤140737488355328∧∀b,s.loc b=none→K ((s.new b (List.replicate c.toNat zero).flatten).set d (.aP b 0 n.toNat c.toNat sz))
  |_,_=>False
 |.oH d f xs,s,K=>∃ys u,jv s.loc (xs.map fun x=>(x.ev s.env).erase)=some ys∧flat u=true∧aA P f ys (.lit u)∧K (s.set d (.lit u))
 |.oI d x xs,s,K=>match x.ev s.env with
  |.func (.func f) first cap=>∃ys u,jv s.loc (first++(xs.map fun x=>(x.ev s.env).erase)++cap)=some ys∧flat u=true∧aA P f ys (.lit u)∧K (s.set d (.lit u))
  |_=>False
 |.nO d x y sz,s,K=>match x.ev s.env,y.ev s.env with
  |.aP b off len _ sz',.aP b2 off2 iO _ cq=>match s.loc b,s.loc b2 with
   |some cs,some bW=>sz'=sz∧cq=sz∧off+len*sz≤cs.length∧off2+iO*sz≤bW.length∧bW.all AV.bH=true∧K ((s.new b (splice cs off (((bW.drop off2).take (min iO len*sz)).map AV.erase0))).set d (.lit (.int .i64 (min iO len:Nat))))
   |_,_=>False
  |_,_=>False
 |.js d x hi mx sz,s,K=>match x.ev s.env,hi.ev s.env,mx.ev s.env with
  |.slice jX xs _,.lit (.int _ i),.lit (.int _ j)=>(i=j∧(i=0∨(jX=sz∧i=xs.length)))∧K ((s.aK (d+1)).set d (.slice sz (xs.take i.toNat) (d+1)))
  |_,_,_=>False
 |.aar d x hi mx sz,s,K=>match x.ev s.env,hi.ev s.env,mx.ev s.env with
  |.slice _ xs _,.lit (.int _ 0),.lit (.int _ 0)=>(xs=[]→K (s.set d (.lit (.slice none 0 0))))∧∀b off,K (s.set d (.aP b off 0 0 sz))
  |_,_,_=>False
 |.nP d x y sz,s,K=>match x.ev s.env,y.ev s.env with
  |.aP b off len cap sz',.slice cq ys _=>match s.loc b with
   |some cs=>sz'=sz∧cq=sz∧ys≠[]∧len+ys.length≤cap∧off+(len+ys.length)*sz≤cs.length∧K ((s.new b (splice cs (off+len*sz) ((ys.flatMap AV.cells).map AV.erase0))).set d (.aP b off (len+ys.length) cap sz))
   |none=>False
  |_,_=>False
 |.ql d x hi sz,s,K=>match x.ev s.env,hi.ev s.env with
  |.aP b off _ cap sz',.lit (.int _ n)=>sz'=sz∧0≤n∧n≤cap∧K (s.set d (.aP b off n.toNat cap sz))
  |_,_=>False
 |.iN d x y sz bytes zero,s,K=>match x.ev s.env,y.ev s.env with
  |.aP b off len cap sz',.slice cq ys _=>sz'=sz∧cq=sz∧ys≠[]∧(len+ys.length)*bytes≤140737488355328∧len+ys.length≤140737488355328∧
    if cap=0 then∀b r,s.loc b=none→K ((s.new b ((ys.flatMap AV.cells).map AV.erase0++(List.replicate r zero).flatten)).set d (.aP b 0 ys.length (ys.length+r) sz))
    else match s.loc b with
     |some cs=>off+cap*sz≤cs.length∧
      (len+ys.length≤cap→K ((s.new b (splice cs (off+len*sz) ((ys.flatMap AV.cells).map AV.erase0))).set d (.aP b off (len+ys.length) cap sz)))∧
      (cap<len+ys.length→∀b' r,s.loc b'=none→K ((s.new b' (((cs.drop off).take (len*sz)).map AV.erase0++((ys.flatMap AV.cells).map AV.erase0++(List.replicate r zero).flatten))).set d (.aP b' 0 (len+ys.length) (len+ys.length+r) sz)))
     |none=>False
  |.lit (.slice none 0 0),.slice cq ys _=>cq=sz∧ys≠[]∧ys.length*bytes≤140737488355328∧ys.length≤140737488355328∧∀b r,s.loc b=none→K ((s.new b ((ys.flatMap AV.cells).map AV.erase0++(List.replicate r zero).flatten)).set d (.aP b 0 ys.length (ys.length+r) sz))
  |_,_=>False
 |.dZ d f xs,s,K=>YZ P f (xs.map fun x=>(x.ev s.env).erase) s fun r s'=>K (s'.set d r)
 |.jW d x xs,s,K=>match x.ev s.env with
  |.func (.func f) first cap=>YZ P f (first++(xs.map fun x=>(x.ev s.env).erase)++cap) s fun r s'=>K (s'.set d r)
  |_=>False
 |.oJ d x y sz,s,K=>match x.ev s.env,y.ev s.env with
  |.aP b off len _ sz',.slice cq ys _=>match s.loc b with
   |some cs=>sz'=sz∧(cq=sz∨ys=[])∧off+len*sz≤cs.length∧K ((s.new b (splice cs off (((ys.take (min ys.length len)).flatMap AV.cells).map AV.erase0))).set d (.lit (.int .i64 (min ys.length len:Nat))))
   |none=>False
  |_,_=>False
 |.oK d x,s,K=>match x.ev s.env with
  |.lit (.string t)=>∀b,s.loc b=none→s.env (oS+b)=.any→K ((s.set (oS+b) (jT t 0)).set d (.Yq b 0))
  |_=>False
 |.oL d x,s,K=>match x.ev s.env with
  |.Yq b 0=>∃t pos,s.env (oS+b)=jT t pos∧
    (pos<t.size→K ((s.set (oS+b) (jT t (pos+(Utf8.decode t pos).2))).set d (.tuple [.lit (.bool true),.lit (.int .i64 pos),.lit (.int .i32 (Utf8.decode t pos).1)])))∧
    (¬pos<t.size→K (s.set d (.tuple [.lit (.bool false)])))
  |_=>False
 |.mkMap d,s,K=>∀b,s.loc b=none→s.env (oS+b)=.any→K ((s.set (oS+b) (aS [])).set d (.bL b))
 |.qm d x,s,K=>match x.ev s.env with
  |.bL b=>∃es,s.env (oS+b)=aS es∧∀r,s.loc r=none→s.env (oS+r)=.any→K ((s.set (oS+r) (gG b es.length [])).set d (.Yq r 0))
  |_=>False
 |.qn d x,s,K=>match x.ev s.env with
  |.Yq r 0=>∃b seen es,s.env (oS+r)=gG b es.length seen∧s.env (oS+b)=aS es∧
    (∀i,i<es.length→i∉seen→K ((s.set (oS+r) (gG b es.length (seen++[i]))).set d (.tuple [.lit (.bool true),((es.getD i []).getD 0 .any).erase,((es.getD i []).getD 1 .any).erase])))∧
    ((∀i,i<es.length→i∈seen)→K (s.set d (.tuple [.lit (.bool false)])))
  |_=>False
 |.kJ x k v n,s,K=>match x.ev s.env with
  |.bL b=>∃es,s.env (oS+b)=aS es∧gZ n (k.ev s.env).erase∧match b_ (k.ev s.env).erase es 0 with
   |some (some i)=>K (s.set (oS+b) (aS (es.set i [(k.ev s.env).erase,(v.ev s.env).erase])))
   |some none=>K (s.set (oS+b) (aS (es++[[(k.ev s.env).erase,(v.ev s.env).erase]])))
   |none=>False
  |_=>False
 |.lookup d x k n ok zero,s,K=>match x.ev s.env with
  |.bL b=>∃es,s.env (oS+b)=aS es∧gZ n (k.ev s.env).erase∧match b_ (k.ev s.env).erase es 0 with
   |some (some i)=>K (s.set d (if ok then .tuple [((es.getD i []).getD 1 .any),.lit (.bool true)] else ((es.getD i []).getD 1 .any).erase))
   |some none=>K (s.set d (if ok then .tuple [zero,.lit (.bool false)] else zero.erase))
   |none=>False
  |.fmap es=>gZ n (k.ev s.env).erase∧match b_ (k.ev s.env).erase es 0 with
   |some (some i)=>K (s.set d (if ok then .tuple [((es.getD i []).getD 1 .any),.lit (.bool true)] else ((es.getD i []).getD 1 .any).erase))
   |some none=>K (s.set d (if ok then .tuple [zero,.lit (.bool false)] else zero.erase))
   |none=>False
  |_=>False
 |.jt d x k n zero,s,K=>match x.ev s.env with
  |.bL b=>∃es,s.env (oS+b)=aS es∧gZ n (k.ev s.env).erase∧eM (k.ev s.env).erase (k.ev s.env).erase=some true∧match b_ (k.ev s.env).erase es 0 with
   |some (some i)=>K ((s.set (oS+b) (aS (es.set i [(k.ev s.env).erase,(es.getD i []).getD 1 .any]))).set d (.tuple [(es.getD i []).getD 1 .any,.lit (.int .i64 i)]))
   |some none=>K ((s.set (oS+b) (aS (es++[[(k.ev s.env).erase,zero]]))).set d (.tuple [zero,.lit (.int .i64 es.length)]))
   |none=>False
  |_=>False
 |.rW x st v,s,K=>match x.ev s.env,st.ev s.env with
  |.bL b,.lit (.int _ i)=>∃es,s.env (oS+b)=aS es∧0≤i∧i<es.length∧K (s.set (oS+b) (aS (es.set i.toNat [(es.getD i.toNat []).getD 0 .any,(v.ev s.env).erase])))
  |_,_=>False
 |.rX d x,s,K=>match x.ev s.env with
  |.Yq r 0=>∃b seen i es,s.env (oS+r)=gG b es.length (seen++[i])∧s.env (oS+b)=aS es∧i<es.length∧K (s.set d (.tuple [((es.getD i []).getD 0 .any).erase,((es.getD i []).getD 1 .any).erase]))
  |_=>False
 |.isNil d neg x,s,K=>match x.ev s.env with
  |.slice _ xs _=>(xs=[]→K (s.set d (.lit (.bool (!neg)))))∧K (s.set d (.lit (.bool neg)))
  |.aP _ _ _ _ _=>K (s.set d (.lit (.bool neg)))
  |_=>False
 |.Zo d x n,s,K=>match x.ev s.env with
  |.ref cs=>cC cs 0 n fun v=>K (s.set d v.erase)
  |_=>False
 |.rY d x lo,s,K=>match x.ev s.env,lo.ev s.env with
  |.lit (.string t),.lit (.int _ n)=>0≤n∧n≤t.size∧K (s.set d (.lit (.string (t.extract n.toNat t.size))))
  |_,_=>False
 |.Yu k,s,K=>match s.env k with
  |.aP b 0 len _ sz=>match s.loc b with
   |some cs=>len*sz≤cs.length∧cs.all AV.bH=true∧len≤140737488355328∧K ⟨aq s.env k (.slice sz (chunk sz cs len) 0),aq s.loc b none⟩
   |none=>False
  |.Yq b 0=>match s.loc b with
   |some cs=>(∃sz off,cs[off]? =some (.lit (.slice none 0 0))∧K ((s.aK ((k+1)*1000+off)).new b ((cs.map (aG ((k+1)*1000+off))).set off (.slice sz [] ((k+1)*1000+off)))))∨
    (∃off b2 len cap sz bW,cs[off]? =some (.aP b2 0 len cap sz)∧b2≠b∧s.loc b2=some bW∧len*sz≤bW.length∧bW.all AV.bH=true∧len≤140737488355328∧K ⟨s.env,aq (aq s.loc b (some (cs.set off (.slice sz (chunk sz bW len) 0)))) b2 none⟩)∨
    (∃off b2 es,cs[off]? =some (.bL b2)∧s.env (oS+b2)=aS es∧K ⟨aq s.env (oS+b2) .any,aq s.loc b (some (cs.set off (.fmap es)))⟩)∨
    K ⟨aq s.env k (.ref (cs.map AV.erase0)),aq s.loc b none⟩
   |none=>False
  |.lit (.slice none 0 0)=>∃sz,K ⟨aq s.env k (.slice sz [] 0),s.loc⟩
  |_=>False
def vcs(P:Program):List Yr→(St→Prop)→St→Prop
 |[],K,s=>K s
 |m::ms,K,s=>Yp P m s (vcs P ms K)
end Go.az
namespace Go.az
open Go.RowKit
theorem rZ{k:IntKind}{n:Int}(h:gX k n):k.wrap n=n:=by cases k<;>simp[gX] at h<;>simp[IntKind.wrap,IntKind.bits,IntKind.signed]<;>(try split)<;>omega
theorem mH(w:World)(o:Obj)(b off:Nat)(h:b<w.heap.size):(w.alloc o).cell? ⟨b,off,none⟩=w.cell? ⟨b,off,none⟩:=by
 show(match (w.heap.push o)[b]? with|some (.cells c _ _)=>_|_=>_)=_
 rw[Array.getElem?_push,if_neg (Nat.ne_of_lt h)]
 rfl
theorem CP(w:World)(vs:Array Value)(T:TypeId)(off:Nat):(w.alloc (.cells vs T)).cell? ⟨w.heap.size,off,none⟩=vs[off]? :=by
 show(match (w.heap.push _)[w.heap.size]? with|some (.cells c _ _)=>_|_=>_)=_
 rw[Array.getElem?_push,if_pos rfl]
 rfl
theorem heap_alloc(w:World)(o:Obj)(b:Nat)(h:b<w.heap.size):(w.alloc o).heap[b]? =w.heap[b]? :=by
 show(w.heap.push o)[b]? =_
 rw[Array.getElem?_push,if_neg (Nat.ne_of_lt h)]
theorem qq(w:World)(o:Obj):(w.alloc o).heap[w.heap.size]? =some o:=by
 show(w.heap.push o)[w.heap.size]? =_
 rw[Array.getElem?_push,if_pos rfl]
theorem Y8(w:World)(o:Obj):(w.alloc o).heap.size=w.heap.size+1:=by
 show(w.heap.push o).size=_
 simp
theorem cell_setRow_other(w:World)(g:Nat)(cs:Array Value)(b off:Nat)(h:b≠g):(w.setRow g cs).cell? ⟨b,off,none⟩=w.cell? ⟨b,off,none⟩:=by simp[World.cell?,setRow_other w g b cs h]
theorem size_setRow(w:World)(g:Nat)(cs:Array Value):(w.setRow g cs).heap.size=w.heap.size:=by simp[World.setRow]
theorem aaD(w:World)(g k:Nat)(cs:Array Value)(h:k≠g):(w.setRow g cs).heap[k]? =w.heap[k]? :=setRow_other w g k cs h
variable {N:Nat} {s:St} {a:Act} {w:World} {A:aJ} {sp:Sp}
theorem xA(r:Nat){b o:Nat}(h:live (s.aK r).loc (aq sp r (0,0,0)) b o):live s.loc sp b o:=by
 rcases h with h|⟨q,hq⟩
 ·exact .inl (by intro hn;exact h (by simp[St.aK,hn]))
 ·refine .inr ⟨q,?_⟩
  simp only[aq] at hq;split at hq
  ·dsimp only at hq;omega
  ·exact hq
theorem bN.aK(r:Nat){x:AV}{v:Value}(h:bN sp x v):bN (aq sp r (0,0,0)) (aG r x) v:=by
 cases x with
 |slice sz xs r'=>
  simp only[aG]
  split
  ·cases v with
   |slice a len cap=>cases a with
    |some a=>exact .inl rfl
    |none=>trivial
   |_=>trivial
  ·rename_i hne
   cases v with
   |slice a len cap=>cases a with
    |some a=>simpa[bN,aq,hne] using h
    |none=>trivial
   |_=>trivial
 |_=>trivial
theorem RS.aK(h:RS N s a w A sp)(r:Nat):RS N (s.aK r) a w A (aq sp r (0,0,0)) where
 size:=h.size
 defers:=h.defers
 env d:=⟨(h.env d).1.aG r,(h.env d).2.aK r⟩
 loc b cs hb:=by
  simp only[St.aK,Option.map_eq_some_iff] at hb
  obtain⟨cs',hcs,rfl⟩:=hb
  obtain⟨vs,T,h1,h2,h3⟩:=h.loc b cs' hcs
  refine⟨vs,T,h1,by simpa using h2,fun i=> ?_⟩
  by_cases hi:i<cs'.length
  ·have:=h3 i
   simp only[List.getD_eq_getElem?_getD,List.getElem?_map,List.getElem?_eq_getElem hi,Option.map_some,Option.getD_some] at this⊢
   exact⟨this.1.aG r,this.2.aK r⟩
  ·simp only[List.getD_eq_getElem?_getD,List.getElem?_map,List.getElem?_eq_none (Nat.le_of_not_lt hi),Option.map_none,Option.getD_none]
   exact⟨.any _,trivial⟩
 bR q hq:=by
  simp only[aq] at hq⊢
  split at hq
  ·dsimp only at hq;omega
  ·rename_i hne
   simp only[hne,if_false]
   obtain⟨h1,h2⟩:=h.bR q hq
   exact⟨h1,by simp[St.aK,h2]⟩
 YJ q q' uC h1 h2:=by
  simp only[aq] at h1 h2⊢
  split at h1
  ·dsimp only at h1;omega
  ·split at h2
   ·dsimp only at h2;omega
   ·rename_i n1 n2
    simp only[n1,n2,if_false]
    exact h.YJ q q' uC h1 h2
 av b o ha:=⟨(h.av b o ha).1,fun hl=>(h.av b o ha).2 (xA r hl)⟩
theorem RS.nI(h:RS N s a w A sp):∀b o,A b o→b<w.heap.size∧¬live s.loc sp b o:=h.av
theorem Ev.aK(r:Nat):Ev w A (live s.loc sp) w A (live (s.aK r).loc (aq sp r (0,0,0))):=⟨rfl,rfl,rfl,Nat.le_refl _,fun _ _ _ h=>⟨rfl,fun hl=>h (xA r hl)⟩,fun _ _ _=>rfl,fun _ _ h=>h,fun _ _ h=>.inl h⟩
theorem RS.world(h:RS N s a w A sp){w':World}{A':aJ}(hc:∀b o v,A b o→w.cell? ⟨b,o,none⟩=some v→w'.cell? ⟨b,o,none⟩=some v)
  (hA:∀b o,A b o→A' b o)(cY:gU w w' A A')(jw:∀b cs,s.loc b=some cs→w'.heap[b]? =w.heap[b]?)
  (hsp:∀r,(sp r).2.1<(sp r).2.2→∃vs T,w'.heap[(sp r).1]? =some (.cells vs T (0,0))∧(sp r).2.2≤vs.size)
  (Y9:∀b o,A' b o→b<w'.heap.size∧¬live s.loc sp b o):RS N s a w' A' sp where
 size:=h.size
 defers:=h.defers
 env d:=⟨(h.env d).1.mono (fun b o v ha hv=>⟨hc b o v ha hv,hA b o ha⟩) cY,(h.env d).2⟩
 loc b cs hb:=by
  obtain⟨vs,T,h1,h2,h3⟩:=h.loc b cs hb
  exact⟨vs,T,(jw b cs hb).trans h1,h2,fun i=>⟨(h3 i).1.mono (fun b o v ha hv=>⟨hc b o v ha hv,hA b o ha⟩) cY,(h3 i).2⟩⟩
 bR r hr:=⟨hsp r hr,(h.bR r hr).2⟩
 YJ:=h.YJ
 av:=Y9
theorem RS.aas(h:RS N s a w A sp){b:Nat}{cs:List AV}(hb:s.loc b=some cs):b<w.heap.size:=by
 obtain⟨vs,T,h1,_⟩:=h.loc b cs hb
 exact cn h1
theorem RS.fresh(h:RS N s a w A sp):s.loc w.heap.size=none:=by
 cases hb:s.loc w.heap.size with
 |none=>rfl
 |some cs=>exact absurd (h.aas hb) (Nat.lt_irrefl _)
theorem RS.CQ(h:RS N s a w A sp){b o:Nat}(hs:spare sp b o):b<w.heap.size:=by
 obtain⟨r,h1,h2,h3⟩:=hs
 obtain⟨⟨vs,T,hv,_⟩,_⟩:=h.bR r (by omega)
 exact h1▸cn hv
theorem RS.uD(h:RS N s a w A sp){b o:Nat}(hs:live s.loc sp b o):b<w.heap.size:=by
 rcases hs with h1|h1
 ·cases hb:s.loc b with
  |none=>exact absurd hb h1
  |some cs=>exact h.aas hb
 ·exact h.CQ h1
theorem RS.alloc(h:RS N s a w A sp)(vs:Array Value)(T:TypeId)(k:Nat)(_:k≤vs.size):RS N s a (w.alloc (.cells vs T)) (fun b o=>A b o∨(b=w.heap.size∧o<k)) sp:=by
 refine h.world (fun b o v ha hv=>by rw[mH _ _ _ _ (h.av b o ha).1];exact hv) (fun b o ha=>.inl ha) (.blocks (fun b o ha=>.inl ha) fun b _ hb=>heap_alloc _ _ _ hb) (fun b cs hb=>heap_alloc _ _ _ (h.aas hb)) (fun r hr=> ?_) ?_
 ·obtain⟨⟨vs,T,hv,hs⟩,_⟩:=h.bR r hr
  exact⟨vs,T,by rw[heap_alloc _ _ _ (cn hv)];exact hv,hs⟩
 ·rintro b o (ha|⟨rfl,ho⟩)
  ·exact⟨by have:=(h.av b o ha).1;rw[Y8];omega,(h.av b o ha).2⟩
  ·exact⟨by rw[Y8];omega,fun hl=>absurd (h.uD hl) (Nat.lt_irrefl _)⟩
theorem RS.aaE(_:RS N s a w A sp)(o:Obj)(k:Nat):Ev w A (live s.loc sp) (w.alloc o) (fun b o=>A b o∨(b=w.heap.size∧o<k)) (live s.loc sp):=⟨rfl,rfl,rfl,by rw[Y8];omega,fun b o hb hl=>⟨mH _ _ _ _ hb,hl⟩,fun b hb _=>heap_alloc _ _ _ hb,fun _ _ ha=>.inl ha,fun b o ha=>ha.elim .inl fun q=>.inr (.inr (by omega))⟩
theorem RS.drew(h:RS N s a w A sp):RS N s a w.drew A sp:=h.world (fun _ _ _ _ hv=>hv) (fun _ _ ha=>ha) (.same fun _ _ ha=>ha) (fun _ _ _=>rfl) (fun r hr=>(h.bR r hr).1) h.av
theorem Ev.drew(L:aJ):Ev w A L w.drew A L:=⟨rfl,rfl,rfl,Nat.le_refl _,fun _ _ _ h=>⟨rfl,h⟩,fun _ _ _=>rfl,fun _ _ h=>h,fun _ _ h=>.inl h⟩
theorem RS.uE(h:RS N s a w A sp)(r:Nat)(YB:∀d sz xs,s.env d≠.slice sz xs r)
  (hrl:∀b cs,s.loc b=some cs→∀i sz xs,cs.getD i .any≠.slice sz xs r)
  (g lo hi:Nat)(hg:lo<hi→(∃vs T,w.heap[g]? =some (.cells vs T (0,0))∧hi≤vs.size)∧s.loc g=none)
  (hd:∀q,q≠r→lo<hi→(sp q).2.1<(sp q).2.2→(sp q).1=g→(sp q).2.2≤lo∨hi≤(sp q).2.1)(hA:∀o,A g o→o<lo∨hi≤o):
  RS N s a w A (aq sp r (g,lo,hi)) where
 size:=h.size
 defers:=h.defers
 env d:=by
  refine⟨(h.env d).1,?_⟩
  have:=(h.env d).2
  cases hx:s.env d with
  |slice sz xs q=>
   rw[hx] at this
   have hq:q≠r:=fun e=>YB d sz xs (e▸hx)
   cases hv:a.tmps.getD d undef with
   |slice a len cap=>cases a with
    |some a=>rw[hv] at this;simpa[bN,aq,hq] using this
    |none=>trivial
   |_=>trivial
  |_=>trivial
 loc b cs hb:=by
  obtain⟨vs,T,h1,h2,h3⟩:=h.loc b cs hb
  refine⟨vs,T,h1,h2,fun i=>⟨(h3 i).1,?_⟩⟩
  have:=(h3 i).2
  cases hx:cs.getD i .any with
  |slice sz xs q=>
   rw[hx] at this
   have hq:q≠r:=fun e=>hrl b cs hb i sz xs (e▸hx)
   cases hv:vs.getD i undef with
   |slice a len cap=>cases a with
    |some a=>rw[hv] at this;simpa[bN,aq,hq] using this
    |none=>trivial
   |_=>trivial
  |_=>trivial
 bR q hq:=by
  simp only[aq] at hq⊢
  split
  ·rename_i he;simp only[he,if_true] at hq;exact hg hq
  ·rename_i hne;simp only[hne,if_false] at hq;exact h.bR q hq
 YJ q q' uC h1 h2 h3:=by
  by_cases e1:q=r<;>by_cases e2:q'=r
  ·exact absurd (e1.trans e2.symm) uC
  ·subst e1;simp only[aq,e2,if_true,if_false] at h1 h2 h3⊢
   have:=hd q' e2 h1 h2 h3.symm;omega
  ·subst e2;simp only[aq,e1,if_true,if_false] at h1 h2 h3⊢
   have:=hd q e1 h2 h1 h3;omega
  ·simp only[aq,e1,e2,if_false] at h1 h2 h3⊢
   exact h.YJ q q' uC h1 h2 h3
 av b o ha:=by
  refine⟨(h.av b o ha).1,?_⟩
  rintro(hl'|⟨q,hq⟩)
  ·exact(h.av b o ha).2 (.inl hl')
  ·simp only[aq] at hq
   split at hq
   ·obtain⟨rfl,kK,gi⟩:=hq
    have:=hA o ha;simp only at kK gi;omega
   ·exact(h.av b o ha).2 (.inr ⟨q,hq⟩)
theorem qt(s:St)(r:Nat)(hr:r≠0)(d sz:Nat)(xs:List AV):(s.aK r).env d≠.slice sz xs r:=by
 intro h
 simp only[St.aK] at h
 cases hx:s.env d<;>rw[hx] at h<;>simp only[aG] at h<;>try exact AV.noConfusion h
 split at h
 ·injection h with _ _ h;exact hr h.symm
 ·injection h with _ _ h;contradiction
theorem Lj{x:AV}(r:Nat)(hr:r≠0)(sz:Nat)(xs:List AV):aG r x≠.slice sz xs r:=by
 intro h
 cases x<;>simp only[aG] at h<;>try exact AV.noConfusion h
 split at h
 ·injection h with _ _ h;exact hr h.symm
 ·injection h with _ _ h;contradiction
theorem qu(s:St)(r:Nat)(hr:r≠0)(b:Nat)(cs:List AV)(hb:(s.aK r).loc b=some cs)(i sz:Nat)(xs:List AV):cs.getD i .any≠.slice sz xs r:=by
 simp only[St.aK,Option.map_eq_some_iff] at hb
 obtain⟨cs',_,rfl⟩:=hb
 by_cases hi:i<cs'.length
 ·simp only[List.getD_eq_getElem?_getD,List.getElem?_map,List.getElem?_eq_getElem hi,Option.map_some,Option.getD_some]
  exact Lj r hr sz xs
 ·simp only[List.getD_eq_getElem?_getD,List.getElem?_map,List.getElem?_eq_none (Nat.le_of_not_lt hi),Option.map_none,Option.getD_none]
  exact fun h=>AV.noConfusion h
theorem fin{P:Program}{o:Oper}{K:St→Prop}{next:Act→World→Prop}{Q:Exit→Act→World→Prop}{d:Nat}{x:AV}{v:Value}
  (h:RS N s a w A sp)(hd:o.dst=some d)(hN:d<N)(hrun:(execOp a.eval o).run P w=.ok (.value v) w)
  (hr:RV w A x v)(ho:bN sp x v)(hk:K (s.set d x))
  (hn:∀s' a' w' A' sp',K s'→RS N s' a' w' A' sp'→Ev w A (live s.loc sp) w' A' (live s'.loc sp')→next a' w'):o.wp P a w next Q:=by
 unfold Oper.wp
 rw[hrun,Oper.upon_value,hd]
 exact hn _ _ _ _ _ hk (h.put hN hr ho) (.refl _ _ _)
theorem fin'{P:Program}{o:Oper}{K:St→Prop}{next:Act→World→Prop}{Q:Exit→Act→World→Prop}{d:Nat}{x:AV}{v:Value}
  {s1:St}{w1:World}{A1:aJ}{YM:Sp}
  (h:RS N s1 a w1 A1 YM)(aL:Ev w A (live s.loc sp) w1 A1 (live s1.loc YM))(hd:o.dst=some d)(hN:d<N)(hrun:(execOp a.eval o).run P w=.ok (.value v) w1)
  (hr:RV w1 A1 x v)(ho:bN YM x v)(hk:K (s1.set d x))
  (hn:∀s' a' w' A' sp',K s'→RS N s' a' w' A' sp'→Ev w A (live s.loc sp) w' A' (live s'.loc sp')→next a' w'):o.wp P a w next Q:=by
 unfold Oper.wp
 rw[hrun,Oper.upon_value,hd]
 exact hn _ _ _ _ _ hk (h.put hN hr ho) aL
end Go.az
namespace Go.az
open Go.RowKit
structure cv where
 muts:List Nat:=[]
 fD:List (Nat×Nat):=[]
 br:List (Nat×Nat):=[]
 Yu:List Nat:=[]
 ord:List (Nat×List Nat):=[]
 ap:List (Nat×List ai):=[]
 own:List Nat:=[]
 zero:List (Nat×List AV):=[]
 yl:List Nat:=[]
 fz:List (Nat×List Nat):=[]
 CR:List Nat:=[]
 ic:List Nat:=[]
 cl:List Nat:=[]
 CS:List (Nat×Nat):=[]
 rl:List (Nat×Nat):=[]
def look{α:Type}(l:List (Nat×α))(d:Nat)(z:α):α:=match l with
 |[]=>z
 |(k,x)::l=>if k==d then x else look l d z
def uF:Value→Option AV
 |.slice none 0 0=>some (.slice 0 [] 0)
 |.bool b=>some (.lit (.bool b))
 |.int k n=>some (.lit (.int k n))
 |.string s=>some (.lit (.string s))
 |.pointer none=>some (.lit (.pointer none))
 |.nilFunc=>some (.lit .nilFunc)
 |.nilIface=>some (.lit .nilIface)
 |.map none=>some (.lit (.map none))
 |_=>none
def uG:List Value→Option (List AV)
 |[]=>some []
 |v::vs=>(uF v).bind fun x=>(uG vs).map (x:: ·)
def qv:Value→Option AV
 |.agg vs=>(uG vs.toList).map .agg
 |v=>uF v
def uH:Value→Option AV
 |.slice none 0 0=>some (.lit (.slice none 0 0))
 |v=>qv v
def aD:Operand→Option ai
 |.tmp t=>some (.t t)
 |.const v=>(qv v).map .c
 |.func f=>some (.c (.func (.func f) [] []))
 |.global _=>none
def uI:Value→Value→Bool
 |.bool a,.bool b=>a==b
 |.int k a,.int k' b=>k==k'&&a==b
 |.string a,.string b=>a.data==b.data
 |.pointer none,.pointer none=>true
 |.nilFunc,.nilFunc=>true
 |.nilIface,.nilIface=>true
 |.map none,.map none=>true
 |.slice none 0 0,.slice none 0 0=>true
 |_,_=>false
def xB:AV→Value→Bool
 |.lit v,v'=>uI v v'
 |.slice _ [] 0,.slice none 0 0=>true
 |_,_=>false
def uJ:List AV→List Value→Bool
 |[],[]=>true
 |x::xs,v::vs=>xB x v&&uJ xs vs
 |_,_=>false
def xC:AV→Value→Bool
 |.lit v,v'=>uI v v'
 |.slice _ [] _,.slice none 0 0=>true
 |_,_=>false
def uK:List AV→List Value→Bool
 |[],[]=>true
 |x::xs,v::vs=>xC x v&&uK xs vs
 |_,_=>false
def ct(P:Program)(t:TypeId):Option Nat:=(P.info? t).map (·.size)
def jY(P:Program)(t:TypeId):Option (Option Nat):=
 match P.underlying t,P.info? t with
 |some d,some i=>some (match d with
  |.struct _=>some i.size
  |.array _ _=>some i.size
  |_=>none)
 |_,_=>none
def zeroOf(P:Program)(t:TypeId):Option Value:=(P.info? t).bind (·.zero)
def jx(P:Program)(t:TypeId)(z:List AV):Bool:=
 match P.info? t with
 |some i=>(match i.zero with
  |some v=>uJ z v.cells.toList&&z.length==i.size
  |none=>false)
 |none=>false
def uL(P:Program)(t:TypeId)(z:List AV):Bool:=
 match P.info? t with
 |some i=>(match i.zero with
  |some v=>uK z v.cells.toList&&z.length==i.size
  |none=>false)
 |none=>false
def lG(P:Program)(t:TypeId)(x:Operand):Option ai:=
 match x with
 |.const (.slice none 0 0)=>match P.underlying t with
  |some (.slice e)=>(ct P e).map fun n=>.c (.slice n [] 0)
  |_=>aD x
 |x=>aD x
def fE(P:Program):List Operand→List TypeId→Option (List ai)
 |[],_=>some []
 |x::xs,[]=>match aD x,fE P xs [] with
  |some y,some ys=>some (y::ys)
  |_,_=>none
 |x::xs,t::ts=>match lG P t x,fE P xs ts with
  |some y,some ys=>some (y::ys)
  |_,_=>none
def oM:List Operand→Option (List ai)
 |[]=>some []
 |x::xs=>match aD x,oM xs with
  |some y,some ys=>some (y::ys)
  |_,_=>none
def aaF(P:Program)(fs:Array Field):List (Nat×Operand)→Option (List (Nat×Nat×ai))
 |[]=>some []
 |(i,x)::ps=>match fs[i]?,aaF P fs ps with
  |some f,some ys=>match ct P f.type,lG P f.type x with
   |some n,some y=>if 0<n then some ((f.offset,n,y)::ys) else none
   |_,_=>none
  |_,_=>none
def aaG(P:Program)(e:TypeId)(sz:Nat):List (Nat×Operand)→Option (List (Nat×Nat×ai))
 |[]=>some []
 |(i,x)::ps=>match lG P e x,aaG P e sz ps with
  |some y,some ys=>some ((i*sz,sz,y)::ys)
  |_,_=>none
def aaH(P:Program)(e:TypeId):List (Nat×Operand)→Option (List (Nat×ai))
 |[]=>some []
 |(i,x)::ps=>match lG P e x,aaH P e ps with
  |some y,some ys=>some ((i,y)::ys)
  |_,_=>none
def xD(P:Program)(b:Builtin)(d:Nat)(args:List Operand)(ts:List TypeId):Option Yr:=
 match b,args,ts with
 |.len,[x],[t]=>match P.underlying t with
  |some (.array n _)=>some (.mF d n)
  |some (.slice _)=>(aD x).map (.len d ·)
  |some .string=>(aD x).map (.jV d ·)
  |some (.pointer e)=>match P.underlying e with
   |some (.array n _)=>some (.mF d n)
   |_=>none
  |_=>none
 |.append,[x,y],[t,t']=>if t=t' then match P.underlying t with
  |some (.slice e)=>match P.info? e,aD x,aD y with
   |some i,some x,some y=>match i.zero with
    |some z=>if z.cells.size=i.size∧0<i.size then some (.app d x y i.size i.bytes) else none
    |none=>none
   |_,_,_=>none
  |_=>none else none
 |.copy,[x,y],[t,_]=>match P.underlying t with
  |some (.slice e)=>match P.info? e,aD x,aD y with
   |some i,some x,some y=>some (.oJ d x y i.size)
   |_,_,_=>none
  |_=>none
 |.max,[x,y],_=>match aD x,aD y with
  |some x,some y=>some (.fQ d x y)
  |_,_=>none
 |.min,[x,y],_=>match aD x,aD y with
  |some x,some y=>some (.h_ d x y)
  |_,_=>none
 |_,_,_=>none
def xE(P:Program)(aE:cv)(b:Builtin)(d:Nat)(args:List Operand)(ts:List TypeId):Option Yr:=
 match b,args,ts with
 |.append,[x,y],[t,t']=>if t=t' then match P.underlying t with
  |some (.slice e)=>match P.info? e,aD x,aD y with
   |some i,some x,some y=>if (look aE.zero d []).isEmpty then some (.nP d x y i.size) else if jx P e (look aE.zero d [])&&decide (0<i.size) then some (.iN d x y i.size i.bytes (look aE.zero d [])) else none
   |_,_,_=>none
  |_=>none else none
 |_,_,_=>none
def xF(P:Program)(b:Builtin)(d:Nat)(args:List Operand)(ts:List TypeId):Option Yr:=
 match b,args,ts with
 |.copy,[x,y],[t,_]=>match P.underlying t with
  |some (.slice e)=>match P.info? e,aD x,aD y with
   |some i,some x,some y=>some (.nO d x y i.size)
   |_,_,_=>none
  |_=>none
 |_,_,_=>none
def xG(P:Program)(d:Nat)(op:BinOp)(t:TypeId)(x y:ai):Option Yr:=
 match P.underlying t with
 |some (.int _)=>some (.bin d op x y)
 |some .string=>some (.bin d op x y)
 |some .bool=>match op with
  |.eql=>some (.lE d false x y)
  |.neq=>some (.lE d true x y)
  |_=>none
 |_=>none
def CT(P:Program)(d:Nat)(op:BinOp)(t:TypeId)(x:ai)(y:Operand):Option Yr:=
 match P.underlying t,op,y with
 |some (.slice _),.eql,.const (.slice none 0 0)=>some (.isNil d false x)
 |some (.slice _),.neq,.const (.slice none 0 0)=>some (.isNil d true x)
 |_,_,_=>none
def oN(P:Program):List Bool→Nat→List Field→Bool
 |[],_,[]=>true
 |q::ks,k,f::fs=>f.name != "_" &&f.offset==k&&(match q,P.underlying f.type with|false,some (.int _)=>true|true,some .bool=>true|_,_=>false)&&oN P ks (k+1) fs
 |_,_,_=>false
def mI(P:Program)(fs:List Field):List Bool:=fs.map fun f=>match P.underlying f.type with|some .bool=>true|_=>false
def oO(P:Program)(t:TypeId):Option (List Bool):=
 match P.underlying t with
 |some (.struct fs)=>if oN P (mI P fs.toList) 0 fs.toList&& !P.stoodInHeld t&& !P.eqGuardType P.depth t then some (mI P fs.toList) else none
 |_=>none
def nT(P:Program)(e:TypeId):Bool:=match P.underlying e,P.info? e with
 |some (.int _),some i=>i.size==1
 |_,_=>false
def xH(P:Program)(t:TypeId):Option (List Bool):=
 match P.underlying t with
 |some (.array n e)=>if nT P e&& !P.eqGuardType P.depth t then some (List.replicate n false) else none
 |_=>oO P t
def xI(P:Program)(aE:cv)(d:Nat)(op:Op)(_:TypeId):Option Yr:=
 match op with
 |.move x=>(aD x).map (.aa d ·)
 |.assign (.const (.slice none 0 0))=>if aE.muts.contains d then some (.Yo d (.c (.lit (.slice none 0 0)))) else some (.bS d (look aE.fD d 0))
 |.assign x=>(aD x).map (.Yo d ·)
 |.pick c x y=>match aD c,aD x,aD y with
  |some c,some x,some y=>some (.pick d c x y)
  |_,_,_=>none
 |.alloc e=>if uL P e (look aE.zero d []) then some (.alloc d (look aE.zero d [])) else none
 |.box e x=>match ct P e,aD x with
  |some n,some x=>if 0<n then some (if aE.muts.contains d then .mE d x n else .bB d x n) else none
  |_,_=>none
 |.load t x=>match jY P t,aD x with
  |some n,some x=>some (.load d x n)
  |_,_=>none
 |.fieldAddr t x f=>match P.underlying t with
  |some (.struct fs)=>match fs[f]?,aD x with
   |some fd,some x=>match ct P fd.type with
    |some n=>if n=0 then none else some (.addr d x fd.offset)
    |none=>none
   |_,_=>none
  |_=>none
 |.field t x f=>match P.underlying t with
  |some (.struct fs)=>match fs[f]?,aD x with
   |some fd,some x=>match jY P fd.type with
    |some n=>some (.kH d x fd.offset n)
    |none=>none
   |_,_=>none
  |_=>none
 |.indexAddr t x i=>match P.underlying t,aD x,aD i with
  |some (.slice e),some x,some i=>(ct P e).map fun n=>.aU d x i n
  |some (.array len e),some x,some i=>(ct P e).map fun n=>.bV d x i len n
  |_,_,_=>none
 |.index t x i=>match P.underlying t,aD x,aD i with
  |some .string,some x,some i=>some (.jU d x i)
  |some (.array len e),some x,some i=>match ct P e,jY P e with
   |some sz,some n=>some (.kI d x i len sz n)
   |_,_=>none
  |_,_,_=>none
 |.build t ps=>if jx P t (look aE.zero d []) then match P.underlying t with
  |some (.struct fs)=>if fs.toList.all fun f=>(P.info? f.type).isSome then (aaF P fs ps.toList).map fun ps=>.build d (look aE.zero d []) ps else none
  |some (.array _ e)=>match ct P e with
   |some sz=>if 0<sz then (aaG P e sz ps.toList).map fun ps=>.build d (look aE.zero d []) ps else none
   |none=>none
  |_=>none else none
 |.buildSlice t n ps=>if aE.muts.contains d then (match P.underlying t with
  |some (.slice e)=>match P.info? e with
   |some i=>if jx P e (look aE.zero d [])&&n==0&&ps.isEmpty then some (.eL d (.c (.lit (.int .i64 0))) (.c (.lit (.int .i64 0))) i.size i.bytes (look aE.zero d [])) else none
   |_=>none
  |_=>none) else match P.underlying t with
  |some (.slice e)=>match ct P e,aaH P e ps.toList with
   |some sz,some ps=>if jx P e (look aE.zero d [])&&decide (0<sz)&&decide (n*sz≤16777216) then some (.aO d n sz (look aE.zero d []) ps) else none
   |_,_=>none
  |_=>none
 |.binOp op t x y0 _=>match aD x,aD y0 with
  |some x,some y=>match xG P d op t x y with
   |some m=>some m
   |none=>match xH P t,op with
    |some n,.eql=>some (.fP d false n x y)
    |some n,.neq=>some (.fP d true n x y)
    |_,_=>CT P d op t x y0
  |_,_=>none
 |.unOp .not _ x=>(aD x).map (.not d ·)
 |.unOp .neg _ x=>(aD x).map (.neg d ·)
 |.convert s t x=>match P.underlying s,P.underlying t,aD x with
  |some (.int _),some (.int k),some x=>some (.conv d k x)
  |some .string,some .string,some x=>some (.nK d x)
  |_,_,_=>none
 |.extract x i=>(aD x).map (.ext d · i)
 |.nilCheck x=>(aD x).map (.bO d ·)
 |.makeFunc fn first cap=>match oM first.toList,oM cap.toList with
  |some f,some c=>some (.eK d fn f c)
  |_,_=>none
 |.slice t x none (some hi) none=>match P.underlying t with
  |some (.slice e)=>match ct P e,aD x,aD hi with
   |some sz,some x,some hi=>some (if aE.muts.contains d then .ql d x hi sz else .iM d x hi sz)
   |_,_,_=>none
  |_=>none
 |.slice t x none (some hi) (some mx)=>match P.underlying t with
  |some (.slice e)=>match ct P e,aD x,aD hi,aD mx with
   |some sz,some x,some hi,some mx=>some (if aE.muts.contains d then .aar d x hi mx sz else .js d x hi mx sz)
   |_,_,_,_=>none
  |_=>none
 |.slice t x (some lo) none none=>match P.underlying t with
  |some (.slice e)=>match ct P e,aD x,aD lo with
   |some sz,some x,some lo=>some (.nM d x lo sz)
   |_,_,_=>none
  |some .string=>match aD x,aD lo with
   |some x,some lo=>some (.rY d x lo)
   |_,_=>none
  |_=>none
 |.makeSlice t l c=>match P.underlying t with
  |some (.slice e)=>match P.info? e,aD l,aD c with
   |some i,some l,some c=>if jx P e (look aE.zero d []) then some (.eL d l c i.size i.bytes (look aE.zero d [])) else none
   |_,_,_=>none
  |_=>none
 |.call c=>match c.callee with
  |.builtin b=>if aE.muts.contains d then xE P aE b d c.args.toList c.argTypes.toList else if aE.cl.contains d then xF P b d c.args.toList c.argTypes.toList else xD P b d c.args.toList c.argTypes.toList
  |.value (.func f)=>(fE P c.args.toList c.argTypes.toList).map fun ms=>if aE.cl.contains d then .oH d f ms else .call d f ms
  |.value (.tmp t)=>(fE P c.args.toList c.argTypes.toList).map fun ms=>if aE.cl.contains d then .oI d (.t t) ms else .eV d (.t t) ms
  |_=>none
 |_=>none
def qw(P:Program)(aE:cv)(N:Nat)(o:Oper):Option Yr:=
 match o.dst with
 |some d=>if d<N then xI P aE d o.op o.type else none
 |none=>match o.op with
  |.store t x (.const (.slice none 0 0))=>match x with
   |.tmp k=>if ct P t=some 1∧look aE.br k 0≠0 then some (.nL (.t k) (look aE.fD (1000000+k) 0) (look aE.br k 0)) else none
   |_=>none
  |.store t x y=>match x,ct P t,aD y with
   |.tmp k,some n,some y=>if 0<n then (if aE.Yu.contains k then some (.bJ k y n) else some (.store (.t k) y n (look aE.br k 0))) else none
   |_,_,_=>none
  |_=>none
def nU(P:Program)(aE:cv)(N:Nat)(ops:Array Oper)(o:Oper):Option Yr:=
 match o.guard with
 |none=>qw P aE N o
 |some (j,want)=>match (ops[j]?).bind (·.dst),qw P aE N o with
  |some g,some m=>if g<N then some (.guard g want o.dst m) else none
  |_,_=>none
section
variable {w:World} {A:aJ} {sp:Sp}
theorem CU{v v':Value}(h:uI v v'=true):v=v'∧flat v=true:=by
 unfold uI at h
 split at h
 ·exact⟨by rw[eq_of_beq h],rfl⟩
 ·rw[Bool.and_eq_true] at h
  exact⟨by rw[eq_of_beq h.1,eq_of_beq h.2],rfl⟩
 ·rename_i a b
  cases a;cases b
  have h':=eq_of_beq h
  exact⟨by simp only at h';rw[h'],rfl⟩
 ·exact⟨rfl,rfl⟩
 ·exact⟨rfl,rfl⟩
 ·exact⟨rfl,rfl⟩
 ·exact⟨rfl,rfl⟩
 ·exact⟨rfl,rfl⟩
 ·cases h
theorem Lk{x:AV}{v:Value}(h:xB x v=true):RV w A x v∧x.bH=true∧x.erase=x:=by
 unfold xB at h
 split at h
 ·obtain⟨rfl,hf⟩:=CU h
  exact⟨.lit _ hf,rfl,rfl⟩
 ·exact⟨.cS _ _,rfl,rfl⟩
 ·cases h
theorem CV:∀{xs:List AV} {vs:List Value},uJ xs vs=true→vs.length=xs.length∧(∀i,RV w A (xs.getD i .any) (vs.getD i undef))∧(∀x∈xs,x.bH=true∧x.erase=x)
 |[],[],_=>⟨rfl,fun _=>by simp;exact .any _,by simp⟩
 |x::xs,v::vs,h=>by
  simp only[uJ,Bool.and_eq_true] at h
  obtain⟨h1,h2⟩:=h
  have hx:=Lk (w:=w) (A:=A) h1
  obtain⟨i1,i2,i3⟩:=CV (xs:=xs) (vs:=vs) h2
  refine⟨by simp[i1],fun i=> ?_,?_⟩
  ·cases i with
   |zero=>simpa using hx.1
   |succ i=>simpa using i2 i
  ·intro y hy
   rcases List.mem_cons.1 hy with rfl|hy
   ·exact hx.2
   ·exact i3 y hy
 |[],_::_,h=>by cases h
 |_::_,[],h=>by cases h
theorem Ll{x:AV}{v:Value}(h:xC x v=true):RV w A x v∧bN sp x v:=by
 unfold xC at h
 split at h
 ·obtain⟨rfl,hf⟩:=CU h
  exact⟨.lit _ hf,trivial⟩
 ·exact⟨.cS _ _,trivial⟩
 ·cases h
theorem CW:∀{xs:List AV} {vs:List Value},uK xs vs=true→vs.length=xs.length∧∀i,RV w A (xs.getD i .any) (vs.getD i undef)∧bN sp (xs.getD i .any) (vs.getD i undef)
 |[],[],_=>⟨rfl,fun _=>by simp;exact⟨.any _,trivial⟩⟩
 |x::xs,v::vs,h=>by
  simp only[uK,Bool.and_eq_true] at h
  have hx:=Ll (w:=w) (A:=A) (sp:=sp) h.1
  obtain⟨i1,i2⟩:=CW (xs:=xs) (vs:=vs) h.2
  refine⟨by simp[i1],fun i=> ?_⟩
  cases i with
  |zero=>simpa using hx
  |succ i=>simpa using i2 i
 |[],_::_,h=>by cases h
 |_::_,[],h=>by cases h
theorem CX{v:Value}{x:AV}(h:uF v=some x):RV w A x v∧bN sp x v:=by
 unfold uF at h
 split at h<;>first|(injection h with h;subst h;first|exact⟨.cS _ _,trivial⟩|exact⟨.lit _ rfl,trivial⟩)|cases h
theorem CY:∀{vs:List Value} {xs:List AV},uG vs=some xs→vs.length=xs.length∧∀i,RV w A (xs.getD i .any) (vs.getD i undef)
 |[],xs,h=>by injection h with h;subst h;exact⟨rfl,fun i=>.any _⟩
 |v::vs,xs,h=>by
  simp only[uG,Option.bind_eq_some_iff,Option.map_eq_some_iff] at h
  obtain⟨x,hx,ys,hys,rfl⟩:=h
  obtain⟨g1,g2⟩:=CY hys
  refine⟨by simp[g1],fun i=> ?_⟩
  cases i with
  |zero=>exact(CX (sp:=fun _=>(0,0,0)) hx).1
  |succ i=>simpa using g2 i
theorem xJ{v:Value}{x:AV}(h:qv v=some x):RV w A x v∧bN sp x v:=by
 unfold qv at h
 split at h
 ·rename_i vs
  simp only[Option.map_eq_some_iff] at h
  obtain⟨xs,hxs,rfl⟩:=h
  obtain⟨g1,g2⟩:=CY (w:=w) (A:=A) hxs
  refine⟨.agg _ _ (by simpa using g1) fun i=> ?_,trivial⟩
  have:=g2 i
  simpa[List.getD_eq_getElem?_getD,Array.getD_eq_getD_getElem?] using this
 ·exact CX h
theorem Lm{v:Value}{x:AV}(h:uH v=some x):RV w A x v∧bN sp x v:=by
 unfold uH at h
 split at h
 ·injection h with h;subst h;exact⟨.lit _ rfl,trivial⟩
 ·exact xJ h
theorem bg{N:Nat}{s:St}{a:Act}(hs:RS N s a w A sp){x:Operand}{m:ai}(h:aD x=some m):RV w A (m.ev s.env) (a.eval x)∧bN sp (m.ev s.env) (a.eval x):=by
 cases x with
 |tmp t=>injection h with h;subst h;exact hs.env t
 |const v=>
  simp only[aD,Option.map_eq_some_iff] at h
  obtain⟨y,hy,rfl⟩:=h
  exact xJ hy
 |global g=>cases h
 |func f=>
  injection h with h;subst h
  refine⟨.func _ _ _ _ _ rfl rfl (fun i=> ?_) (fun i=> ?_),trivial⟩<;>simp<;>exact .any _
theorem xK{P:Program}{t:TypeId}{N:Nat}{s:St}{a:Act}(hs:RS N s a w A sp){x:Operand}{m:ai}(h:lG P t x=some m):RV w A (m.ev s.env) (a.eval x)∧bN sp (m.ev s.env) (a.eval x):=by
 unfold lG at h
 split at h
 ·split at h
  ·simp only[Option.map_eq_some_iff] at h
   obtain⟨n,_,rfl⟩:=h
   exact⟨.cS _ _,trivial⟩
  ·exact bg hs h
 ·exact bg hs h
end
end Go.az
namespace Go.az
open Go.RowKit
section
variable {w:World} {A:aJ} {sp:Sp}
theorem RV.cG{k:IntKind}{n:Int}{v:Value}(h:RV w A (.lit (.int k n)) v):v=.int k n:=by cases h;rfl
theorem RV.lH{b:Bool}{v:Value}(h:RV w A (.lit (.bool b)) v):v=.bool b:=by cases h;rfl
theorem RV.aaI{t:ByteArray}{v:Value}(h:RV w A (.lit (.string t)) v):v=.string t:=by cases h;rfl
theorem RV.part{xs:List AV}{vs:Array Value}(hs:vs.size=xs.length)(hr:∀i,RV w A (xs.getD i .any) (vs.getD i undef))(off n:Nat)(h:off+n≤xs.length):RV w A (.agg ((xs.drop off).take n)) (.agg (vs.extract off (off+n))):=by
 refine .agg _ _ (by simp;omega) fun i=> ?_
 by_cases hi:i<n
 ·have:=hr (off+i)
  simp only[List.getD_eq_getElem?_getD,Array.getD_eq_getD_getElem?,List.getElem?_take,hi,if_true,List.getElem?_drop,Array.getElem?_extract] at this⊢
  rw[if_pos (by omega)]
  exact this
 ·simp only[List.getD_eq_getElem?_getD,List.getElem?_take,hi,if_false,Option.getD_none]
  exact .any _
end
section
variable {P:Program} {N:Nat} {s:St} {a:Act} {w:World} {A:aJ} {sp:Sp} {K:St→Prop} {next:Act→World→Prop} {Q:Exit→Act→World→Prop} {o:Oper} {d:Nat}
abbrev Next(s:St)(w:World)(A:aJ)(sp:Sp)(N:Nat)(K:St→Prop)(next:Act→World→Prop):Prop:=∀s' a' w' A' sp',K s'→RS N s' a' w' A' sp'→Ev w A (live s.loc sp) w' A' (live s'.loc sp')→next a' w'
theorem Ln{x:Operand}{m:ai}(hop:o.op=.move x)(hd:o.dst=some d)(hN:d<N)(hx:aD x=some m)(h:RS N s a w A sp)(hv:K (s.set d (m.ev s.env)))(hn:Next s w A sp N K next):o.wp P a w next Q:=fin h hd hN (by simp[execOp,hop]) (bg h hx).1 (bg h hx).2 hv hn
theorem Lo{c x y:Operand}{mc mx my:ai}(hop:o.op=.pick c x y)(hd:o.dst=some d)(hN:d<N)(hc:aD c=some mc)(hx:aD x=some mx)(hy:aD y=some my)(h:RS N s a w A sp)(hv:Yp P (.pick d mc mx my) s K)(hn:Next s w A sp N K next):o.wp P a w next Q:=by
 have h1:=(bg h hc).1
 simp only[Yp] at hv
 split at hv
 ·rename_i b hb
  rw[hb] at h1
  have xL:=h1.lH
  refine fin (x:=if b then mx.ev s.env else my.ev s.env) (v:=if b then a.eval x else a.eval y) h hd hN (by simp[execOp,hop,xL,asBool]) ?_ ?_ hv hn
  ·cases b
   ·exact(bg h hy).1
   ·exact(bg h hx).1
  ·cases b
   ·exact(bg h hy).2
   ·exact(bg h hx).2
 ·exact hv.elim
theorem CZ{t:TypeId}{n:Option Nat}(h:jY P t=some n)(w:World):(isAgg t).run P w=.ok n.isSome w∧(∃i,P.info? t=some i∧∀k,n=some k→i.size=k):=by
 unfold jY at h
 split at h
 ·rename_i dd i hu hi
  injection h with h
  unfold isAgg
  rw[Sem.run_bind,run_underlying hu w]
  refine⟨?_,i,hi,?_⟩
  ·cases dd<;>subst h<;>simp
  ·intro k hk;subst h;cases dd<;>simp at hk<;>exact hk
 ·cases h
theorem Addr.gH(b off i:Nat):(⟨b,off,none⟩:Addr).add i=⟨b,off+i,none⟩:=by unfold Addr.add;split<;>simp_all
theorem nV{t:TypeId}{n:Option Nat}(h:jY P t=some n)(w:World)(b off:Nat)(f:Nat→Value)
  (hc:∀i,i<n.getD 1→w.cell? ⟨b,off+i,none⟩=some (f i)):
  (loadVar t ⟨b,off,none⟩).run P w=.ok (match n with|none=>f 0|some k=>.agg ((Array.range k).map f)) w:=by
 obtain⟨h1,i,hi,hk⟩:=CZ h w
 unfold loadVar
 rw[Sem.run_bind,h1]
 cases n with
 |none=>
  have:=hc 0 (by simp)
  simp at this
  simp[run_load,this]
 |some k=>
  have hl:=run_loadCells (P:=P) w ⟨b,off,none⟩ k f (fun j hj=>by rw[Addr.gH];exact hc j (by simpa using hj))
  simp only[Sem.run_bind,sizeOf,typeInfo,Sem.run_pure,run_program,hi,hk k rfl,hl,Option.isSome,if_true,Result.andThen_ok]
  congr 2
  exact Array.ext' (by simp)
theorem Lp{t:TypeId}{x:Operand}{m:ai}{n:Option Nat}(hop:o.op=.load t x)(hd:o.dst=some d)(hN:d<N)(hx:aD x=some m)(ht:jY P t=some n)(h:RS N s a w A sp)(hv:Yp P (.load d m n) s K)(hn:Next s w A sp N K next):o.wp P a w next Q:=by
 have h1:=(bg h hx).1
 simp only[Yp,dr] at hv
 split at hv
 ·rename_i cs hcs
  rw[hcs] at h1
  generalize aT:a.eval x=v0 at h1
  cases h1 with
  |ref _ b off vs hc hr=>
   cases n with
   |none=>
    simp only[cC] at hv
    refine fin (v:=vs 0) (x:=(cs.getD 0 .any).erase) h hd hN ?_ (hr 0).erase bN.erase hv.2 hn
    have:=nV ht w b off vs (fun i hi=>(hc i (by simp at hi;omega)).1)
    simp only[execOp,hop,aT,Instr.loadAt,Instr.sureAddr,Sem.run_bind,Sem.run_pure,Result.andThen_ok,this]
   |some k=>
    simp only[cC,Nat.zero_add,List.drop_zero] at hv
    have:=nV ht w b off vs (fun i hi=>(hc i (by simp at hi;omega)).1)
    refine fin (v:=.agg ((Array.range k).map vs)) (x:=(AV.agg (cs.take k)).erase.erase) h hd hN (by simp only[execOp,hop,aT,Instr.loadAt,Instr.sureAddr,Sem.run_bind,Sem.run_pure,Result.andThen_ok,this]) ?_ bN.erase hv.2 hn
    refine RV.erase (RV.erase (.agg _ _ (by simp;omega) fun i=> ?_))
    by_cases hi:i<k
    ·have:=hr i
     simp only[List.getD_eq_getElem?_getD,List.getElem?_take,hi,if_true,Array.getD_eq_getD_getElem?,Array.getElem?_map] at this⊢
     rw[Array.getElem?_eq_getElem (by simpa using hi)]
     simpa using this
    ·simp only[List.getD_eq_getElem?_getD,List.getElem?_take,hi,if_false,Option.getD_none]
     exact .any _
 ·rename_i b off hcs
  rw[hcs] at h1
  generalize aT:a.eval x=v0 at h1
  cases h1
  split at hv
  ·rename_i cs hb
   obtain⟨vs,T,hh,hsz,hr⟩:=h.loc b cs hb
   have hcell:∀i,off+i<cs.length→w.cell? ⟨b,off+i,none⟩=some (vs.getD (off+i) undef):=by
    intro i hi
    simp[World.cell?,hh,Array.getD_eq_getD_getElem?,Array.getElem?_eq_getElem (show off+i<vs.size by omega)]
   cases n with
   |none=>
    simp only[cC] at hv
    have:=nV ht w b off (fun i=>vs.getD (off+i) undef) (fun i hi=>hcell i (by simp at hi;omega))
    refine fin (v:=vs.getD off undef) (x:=cs.getD off .any) h hd hN ?_ (hr off).1 (hr off).2 hv.2 hn
    simp only[execOp,hop,aT,Instr.loadAt,Instr.sureAddr,Sem.run_bind,Sem.run_pure,Result.andThen_ok,this,Nat.add_zero]
   |some k=>
    simp only[cC] at hv
    have:=nV ht w b off (fun i=>vs.getD (off+i) undef) (fun i hi=>hcell i (by simp at hi;omega))
    refine fin (v:=.agg ((Array.range k).map fun i=>vs.getD (off+i) undef)) (x:=(AV.agg ((cs.drop off).take k)).erase) h hd hN (by simp only[execOp,hop,aT,Instr.loadAt,Instr.sureAddr,Sem.run_bind,Sem.run_pure,Result.andThen_ok,this]) ?_ bN.erase hv.2 hn
    refine RV.erase (.agg _ _ (by simp;omega) fun i=> ?_)
    by_cases hi:i<k
    ·have:=(hr (off+i)).1
     simp only[List.getD_eq_getElem?_getD,List.getElem?_take,hi,if_true,List.getElem?_drop,Array.getD_eq_getD_getElem?,Array.getElem?_map] at this⊢
     rw[Array.getElem?_eq_getElem (by simpa using hi)]
     simpa using this
    ·simp only[List.getD_eq_getElem?_getD,List.getElem?_take,hi,if_false,Option.getD_none]
     exact .any _
  ·exact hv.elim
 ·exact hv.elim
theorem RV.C0{cs:List AV}{b off:Nat}(k:Nat)(h:RV w A (.ref cs) (.pointer (some ⟨b,off,none⟩))):RV w A (.ref (cs.drop k)) (.pointer (some ⟨b,off+k,none⟩)):=by
 cases h with
 |ref _ _ _ vs hc hr=>
  refine .ref _ _ _ (fun i=>vs (k+i)) (fun i hi=> ?_) (fun i=> ?_)
  ·simp at hi
   rw[Nat.add_assoc]
   exact hc (k+i) (by omega)
  ·have:=hr (k+i)
   simpa[List.getD_eq_getElem?_getD] using this
theorem Lq{t:TypeId}{x:Operand}{m:ai}{f:Nat}{fs:Array Field}{fd:Field}{n:Nat}(hop:o.op=.fieldAddr t x f)(hd:o.dst=some d)(hN:d<N)(hx:aD x=some m)
  (ht:P.underlying t=some (.struct fs))(hf:fs[f]? =some fd)(hz:ct P fd.type=some n)(mJ:n≠0)
  (h:RS N s a w A sp)(hv:Yp P (.addr d m fd.offset) s K)(hn:Next s w A sp N K next):o.wp P a w next Q:=by
 have h1:=(bg h hx).1
 simp only[ct,Option.map_eq_some_iff] at hz
 obtain⟨i,hi,rfl⟩:=hz
 have hrun:∀b off,(Instr.fieldAt t (.pointer (some ⟨b,off,none⟩)) f).run P w=.ok (.pointer (some ⟨b,off+fd.offset,none⟩)) w:=by
  intro b off
  simp[Instr.fieldAt,run_underlying ht,hf,Instr.sureAddr,fieldPlace,sizeOf,typeInfo,hi,mJ,Addr.gH]
 simp only[Yp] at hv
 split at hv
 ·rename_i cs hcs
  rw[hcs] at h1
  generalize aT:a.eval x=v0 at h1
  cases h1 with
  |ref _ b off vs hc hr=>
   exact fin h hd hN (by simp only[execOp,hop,aT,Sem.run_bind,hrun,Result.andThen_ok,Sem.run_pure]) (RV.C0 fd.offset (.ref _ b off vs hc hr)) trivial hv hn
 ·rename_i b off hcs
  rw[hcs] at h1
  generalize aT:a.eval x=v0 at h1
  cases h1
  exact fin h hd hN (by simp only[execOp,hop,aT,Sem.run_bind,hrun,Result.andThen_ok,Sem.run_pure]) (.Yq _ _) trivial hv hn
 ·exact hv.elim
theorem aaJ{α β:Type}(f:α→List β)(sz:Nat):∀(xs:List α) (i:Nat),(∀x∈xs,(f x).length=sz)→i<xs.length→∀j z x0,j<sz→(xs.flatMap f).getD (i*sz+j) z=((f (xs.getD i x0)).getD j z)
 |[],i,_,hi=>by simp at hi
 |x::xs,0,h,_=>by
  intro j z x0 hj
  have hx:=h x (by simp)
  simp only[List.flatMap_cons,List.getD_eq_getElem?_getD,Nat.zero_mul,Nat.zero_add,List.getElem?_cons_zero,Option.getD_some]
  rw[List.getElem?_append_left (by omega)]
 |x::xs,i+1,h,hi=>by
  intro j z x0 hj
  have hx:=h x (by simp)
  have ih:=aaJ f sz xs i (fun y hy=>h y (by simp[hy])) (by simpa using hi) j z x0 hj
  have e:(i+1)*sz+j=(f x).length+(i*sz+j):=by rw[hx,Nat.add_mul];omega
  simp only[List.flatMap_cons,List.getD_eq_getElem?_getD,List.getElem?_cons_succ,e] at ih⊢
  rw[List.getElem?_append_right (by omega),Nat.add_sub_cancel_left]
  exact ih
theorem RV.elem{sz:Nat}{xs:List AV}{own b off cap len:Nat}(h:RV w A (.slice sz xs own) (.slice (some ⟨b,off,none⟩) len cap))(i:Nat)(hi:i<xs.length):RV w A (.ref (xs.getD i .any).cells) (.pointer (some ⟨b,off+i*sz,none⟩)):=by
 cases h with
 |slice _ _ _ _ _ _ vs hsz h1c hcap hlen hc hr=>
  have hx:(xs.getD i .any).cells.length=sz:=by
   rw[List.getD_eq_getElem?_getD,List.getElem?_eq_getElem hi]
   exact hsz _ (by simp)
  have hb:(i+1)*sz≤xs.length*sz:=Nat.mul_le_mul_right _ hi
  rw[Nat.add_mul,Nat.one_mul] at hb
  refine .ref _ _ _ (fun j=>vs (i*sz+j)) (fun j hj=> ?_) (fun j=> ?_)
  ·rw[Nat.add_assoc];exact hc _ (by omega)
  ·by_cases hj:j<sz
   ·have:=hr (i*sz+j)
    rw[aaJ AV.cells sz xs i hsz hi j .any .any hj] at this
    exact this
   ·rw[List.getD_eq_getElem?_getD,List.getElem?_eq_none (by omega)]
    exact .any _
theorem Lr{t e:TypeId}{x i:Operand}{m mi:ai}{sz:Nat}(hop:o.op=.indexAddr t x i)(hd:o.dst=some d)(hN:d<N)(hx:aD x=some m)(hi:aD i=some mi)
  (ht:P.underlying t=some (.slice e))(hz:ct P e=some sz)
  (h:RS N s a w A sp)(hv:Yp P (.aU d m mi sz) s K)(hn:Next s w A sp N K next):o.wp P a w next Q:=by
 have h1:=(bg h hx).1
 have h2:=(bg h hi).1
 simp only[ct,Option.map_eq_some_iff] at hz
 obtain⟨inf,dN,rfl⟩:=hz
 simp only[Yp] at hv
 split at hv
 ·rename_i sz' xs own k n hxs hint
  obtain⟨rfl,h0,hl,hK⟩:=hv
  rw[hxs] at h1;rw[hint] at h2
  have e2:=h2.cG
  generalize aT:a.eval x=v0 at h1
  have hx':=h1
  cases h1 with
  |cS=>simp at hl;omega
  |slice _ _ _ b off cap vs hsz h1c hcap hlen hc hr=>
   have nW:n.toNat<xs.length:=by omega
   refine fin h hd hN (v:=.pointer (some ⟨b,off+n.toNat*inf.size,none⟩)) ?_ (hx'.elem n.toNat nW) trivial hK hn
   simp[execOp,hop,aT,e2,Instr.indexAt,asIntOf,run_underlying ht,h0,hl,sizeOf,typeInfo,dN,Addr.gH]
 ·rename_i b off len cap sz' k n hxs hint
  obtain⟨rfl,h0,hl,hK⟩:=hv
  rw[hxs] at h1;rw[hint] at h2
  have e2:=h2.cG
  generalize aT:a.eval x=v0 at h1
  cases h1
  refine fin h hd hN (v:=.pointer (some ⟨b,off+n.toNat*inf.size,none⟩)) ?_ (.Yq _ _) trivial hK hn
  simp[execOp,hop,aT,e2,Instr.indexAt,asIntOf,run_underlying ht,h0,hl,sizeOf,typeInfo,dN,Addr.gH]
 ·exact hv.elim
theorem Ls{t e:TypeId}{x i:Operand}{m mi:ai}{len sz:Nat}(hop:o.op=.indexAddr t x i)(hd:o.dst=some d)(hN:d<N)(hx:aD x=some m)(hi:aD i=some mi)
  (ht:P.underlying t=some (.array len e))(hz:ct P e=some sz)
  (h:RS N s a w A sp)(hv:Yp P (.bV d m mi len sz) s K)(hn:Next s w A sp N K next):o.wp P a w next Q:=by
 have h1:=(bg h hx).1
 have h2:=(bg h hi).1
 simp only[ct,Option.map_eq_some_iff] at hz
 obtain⟨inf,dN,rfl⟩:=hz
 simp only[Yp] at hv
 split at hv
 ·rename_i cs k n hxs hint
  obtain⟨h0,hl,hK⟩:=hv
  rw[hxs] at h1;rw[hint] at h2
  have e2:=h2.cG
  generalize aT:a.eval x=v0 at h1
  cases h1 with
  |ref _ b off vs hc hr=>
   refine fin h hd hN (v:=.pointer (some ⟨b,off+n.toNat*inf.size,none⟩)) ?_ (RV.C0 (n.toNat*inf.size) (.ref _ b off vs hc hr)) trivial hK hn
   simp[execOp,hop,aT,e2,Instr.indexAt,asIntOf,run_underlying ht,h0,hl,Instr.sureAddr,sizeOf,typeInfo,dN,Addr.gH]
 ·rename_i b off k n hxs hint
  obtain⟨h0,hl,hK⟩:=hv
  rw[hxs] at h1;rw[hint] at h2
  have e2:=h2.cG
  generalize aT:a.eval x=v0 at h1
  cases h1
  refine fin h hd hN (v:=.pointer (some ⟨b,off+n.toNat*inf.size,none⟩)) ?_ (.Yq _ _) trivial hK hn
  simp[execOp,hop,aT,e2,Instr.indexAt,asIntOf,run_underlying ht,h0,hl,Instr.sureAddr,sizeOf,typeInfo,dN,Addr.gH]
 ·exact hv.elim
theorem C1{t:TypeId}{cs:List AV}{vs:Array Value}{off:Nat}{n:Option Nat}{k:AV→Prop}(ht:jY P t=some n)
  (hs:vs.size=cs.length)(hr:∀i,RV w A (cs.getD i .any) (vs.getD i undef))(hv:cC cs off n k):
  ∃x v,(part t vs off).run P w=.ok v w∧RV w A x v∧k x:=by
 obtain⟨h1,i,hi,hk⟩:=CZ ht w
 cases n with
 |none=>
  simp only[cC] at hv
  refine⟨_,vs.getD off undef,?_,hr off,hv.2⟩
  have:vs[off]? =some (vs.getD off undef):=by rw[Array.getD_eq_getD_getElem?,Array.getElem?_eq_getElem (by omega)];rfl
  generalize vs.getD off undef=v at this
  simp[part,Sem.run_bind,h1,this]
 |some m=>
  simp only[cC] at hv
  exact⟨_,.agg (vs.extract off (off+m)),by simp[part,Sem.run_bind,h1,sizeOf,typeInfo,hi,hk m rfl],(RV.part hs hr off m hv.1).erase,hv.2⟩
theorem Lt{t:TypeId}{x:Operand}{m:ai}{f:Nat}{fs:Array Field}{fd:Field}{n:Option Nat}(hop:o.op=.field t x f)(hd:o.dst=some d)(hN:d<N)(hx:aD x=some m)
  (ht:P.underlying t=some (.struct fs))(hf:fs[f]? =some fd)(hz:jY P fd.type=some n)
  (h:RS N s a w A sp)(hv:Yp P (.kH d m fd.offset n) s K)(hn:Next s w A sp N K next):o.wp P a w next Q:=by
 have h1:=(bg h hx).1
 simp only[Yp] at hv
 split at hv
 ·rename_i cs hcs
  rw[hcs] at h1
  generalize aT:a.eval x=v0 at h1
  cases h1 with
  |agg _ vs hs hr=>
   obtain⟨y,v,hrun,hy,hK⟩:=C1 hz hs hr hv
   exact fin h hd hN (by simp[execOp,hop,aT,Instr.field,run_underlying ht,hf,asAgg,hrun]) hy.erase .erase hK hn
 ·exact hv.elim
theorem Lu{t e:TypeId}{x i:Operand}{m mi:ai}{len sz:Nat}{n:Option Nat}(hop:o.op=.index t x i)(hd:o.dst=some d)(hN:d<N)(hx:aD x=some m)(hi:aD i=some mi)
  (ht:P.underlying t=some (.array len e))(hz:ct P e=some sz)(hp:jY P e=some n)
  (h:RS N s a w A sp)(hv:Yp P (.kI d m mi len sz n) s K)(hn:Next s w A sp N K next):o.wp P a w next Q:=by
 have h1:=(bg h hx).1
 have h2:=(bg h hi).1
 simp only[ct,Option.map_eq_some_iff] at hz
 obtain⟨inf,dN,rfl⟩:=hz
 simp only[Yp] at hv
 split at hv
 ·rename_i cs k j hcs hint
  obtain⟨h0,hl,hv⟩:=hv
  rw[hcs] at h1;rw[hint] at h2
  have e2:=h2.cG
  generalize aT:a.eval x=v0 at h1
  cases h1 with
  |agg _ vs hs hr=>
   obtain⟨y,v,hrun,hy,hK⟩:=C1 hp hs hr hv
   exact fin h hd hN (by simp[execOp,hop,aT,e2,Instr.index,asIntOf,run_underlying ht,h0,hl,sizeOf,typeInfo,dN,hrun]) hy.erase .erase hK hn
 ·exact hv.elim
theorem Lv{t:TypeId}{x i:Operand}{m mi:ai}(hop:o.op=.index t x i)(hd:o.dst=some d)(hN:d<N)(hx:aD x=some m)(hi:aD i=some mi)
  (ht:P.underlying t=some .string)
  (h:RS N s a w A sp)(hv:Yp P (.jU d m mi) s K)(hn:Next s w A sp N K next):o.wp P a w next Q:=by
 have h1:=(bg h hx).1
 have h2:=(bg h hi).1
 simp only[Yp] at hv
 split at hv
 ·rename_i st k j hcs hint
  obtain⟨h0,hl,hv⟩:=hv
  rw[hcs] at h1;rw[hint] at h2
  have e1:=h1.aaI
  have e2:=h2.cG
  have hb:st[j.toNat]? =some (st.data.toList.getD j.toNat 0):=by
   have hlt:j.toNat<st.size:=by omega
   rw[getElem?_pos st j.toNat hlt]
   congr 1
   rw[List.getD_eq_getElem?_getD,List.getElem?_eq_getElem (by simpa using hlt)]
   rfl
  have hrun:(Instr.index t (.string st) (.int k j)).run P w=.ok (.int .u8 (st.data.toList.getD j.toNat 0).toNat) w:=by
   generalize st.data.toList.getD j.toNat 0=c at hb
   unfold Instr.index
   simp only[asIntOf,Sem.run_bind,Sem.run_pure,Result.andThen_ok,run_underlying ht,if_pos h0,hb]
  exact fin (v:=.int .u8 (st.data.toList.getD j.toNat 0).toNat) h hd hN (by simp only[execOp,hop,e1,e2,Sem.run_bind,hrun,Result.andThen_ok,Sem.run_pure]) (.lit _ rfl) trivial hv hn
 ·exact hv.elim
end
end Go.az
namespace Go.az
open Go.RowKit
section
variable {P:Program} {N:Nat} {s:St} {a:Act} {w:World} {A:aJ} {sp:Sp} {K:St→Prop} {next:Act→World→Prop} {Q:Exit→Act→World→Prop} {o:Oper} {d:Nat}
theorem Lw{op:BinOp}{k:IntKind}{p q:Int}{f:AV→Prop}(hsh:op≠.shl∧op≠.shr)(t:TypeId)(h:eX op k p q f):∃v,(binOp op t (.int k p) (.int k q)).run P w=.ok v w∧flat v=true∧f (.lit v):=by
 cases op with
 |shl=>exact absurd rfl hsh.1
 |shr=>exact absurd rfl hsh.2
 |add=>exact⟨.int k (p+q),by simp[binOp,Op.intArith,rZ h.1],rfl,h.2⟩
 |sub=>exact⟨.int k (p - q),by simp[binOp,Op.intArith,rZ h.1],rfl,h.2⟩
 |mul=>exact⟨.int k (p*q),by simp[binOp,Op.intArith,rZ h.1],rfl,h.2⟩
 |quo=>exact⟨.int k (p.tdiv q),by simp[binOp,Op.intDiv,h.1,rZ h.2.1],rfl,h.2.2⟩
 |rem=>exact⟨.int k (p.tmod q),by simp[binOp,Op.intDiv,h.1],rfl,h.2⟩
 |and=>exact⟨.int k (d_ .and k p q),by simp only[binOp,ne_eq,not_true,if_false];rfl,rfl,h⟩
 |or=>exact⟨.int k (d_ .or k p q),by simp only[binOp,ne_eq,not_true,if_false];rfl,rfl,h⟩
 |xor=>exact⟨.int k (d_ .xor k p q),by simp only[binOp,ne_eq,not_true,if_false];rfl,rfl,h⟩
 |andNot=>exact⟨.int k (d_ .andNot k p q),by simp only[binOp,ne_eq,not_true,if_false];rfl,rfl,h⟩
 |eql=>exact⟨.bool (p==q),by simp[binOp,Op.intCmp],rfl,h⟩
 |neq=>exact⟨.bool (p != q),by simp[binOp,Op.intCmp],rfl,h⟩
 |lss=>exact⟨.bool (decide (p<q)),by simp[binOp,Op.intCmp],rfl,h⟩
 |leq=>exact⟨.bool (decide (p≤q)),by simp[binOp,Op.intCmp],rfl,h⟩
 |gtr=>exact⟨.bool (decide (p>q)),by simp[binOp,Op.intCmp],rfl,h⟩
 |geq=>exact⟨.bool (decide (p≥q)),by simp[binOp,Op.intCmp],rfl,h⟩
theorem C2{op:BinOp}{k k':IntKind}{p q:Int}{f:AV→Prop}(t:TypeId)(h:qo op k p q f):∃v,(binOp op t (.int k p) (.int k' q)).run P w=.ok v w∧flat v=true∧f (.lit v):=by
 cases op with
 |shl=>exact⟨.int k (k.wrap (p*2^(min q.toNat k.bits))),by simp[binOp,Op.shift,Int.not_lt.2 h.1],rfl,h.2⟩
 |shr=>exact⟨.int k (p.fdiv (2^(min q.toNat k.bits))),by simp[binOp,Op.shift,Int.not_lt.2 h.1],rfl,h.2⟩
 |_=>exact h.elim
theorem abx{op:BinOp}{p q:ByteArray}{f:AV→Prop}(t:TypeId)(h:nQ op p q f):∃v,(binOp op t (.string p) (.string q)).run P w=.ok v w∧flat v=true∧f (.lit v):=by
 cases op with
 |eql=>exact⟨.bool (p.toList==q.toList),rfl,rfl,h⟩
 |neq=>exact⟨.bool (!(p.toList==q.toList)),rfl,rfl,h⟩
 |lss=>exact⟨.bool (Op.bytesLess p.toList q.toList),rfl,rfl,h⟩
 |leq=>exact⟨.bool (Op.bytesLess p.toList q.toList||p.toList==q.toList),rfl,rfl,h⟩
 |gtr=>exact⟨.bool (!(Op.bytesLess p.toList q.toList||p.toList==q.toList)),rfl,rfl,h⟩
 |geq=>exact⟨.bool (!Op.bytesLess p.toList q.toList),rfl,rfl,h⟩
 |_=>exact h.elim
theorem xM{op:BinOp}{t:TypeId}{x y:Operand}{p q:Value}(h1:flat p=true)(h2:flat q=true)(h3:p≠.nilIface):(eqGuard op t x y p q).run P w=.ok () w:=by
 unfold eqGuard
 cases op<;>first
  |rfl
  |(cases p<;>cases q<;>first|(cases h1;done)|(cases h2;done)|exact absurd rfl h3|rfl)
theorem Ly{op:BinOp}{x y:AV}{p q:Value}{f:AV→Prop}(t:TypeId)(ox oy:Operand)(hx:RV w A x p)(hy:RV w A y q)(h:cZ op x y f):∃v,(do eqGuard op t ox oy p q;binOp op t p q:Sem Value).run P w=.ok v w∧flat v=true∧f (.lit v):=by
 unfold cZ at h
 split at h
 ·have e1:=hx.cG;have e2:=hy.cG
  subst e1;subst e2
  simp only[Sem.run_bind,xM (P:=P) (w:=w) (op:=op) (t:=t) (x:=ox) (y:=oy) (p:=.int _ _) (q:=.int _ _) rfl rfl (by simp),Result.andThen_ok]
  split at h
  ·exact C2 t h
  ·exact C2 t h
  ·rename_i n1 n2
   obtain⟨rfl,h⟩:=h
   exact Lw ⟨n1,n2⟩ t h
 ·have e1:=hx.aaI;have e2:=hy.aaI
  subst e1;subst e2
  simp only[Sem.run_bind,xM (P:=P) (w:=w) (op:=op) (t:=t) (x:=ox) (y:=oy) (p:=.string _) (q:=.string _) rfl rfl (by simp),Result.andThen_ok]
  exact abx t h
 ·exact h.elim
theorem C3{t t':TypeId}{op:BinOp}{x y:Operand}{mx my:ai}(hop:o.op=.binOp op t x y t')(hd:o.dst=some d)(hN:d<N)(hx:aD x=some mx)(hy:aD y=some my)(h:RS N s a w A sp)(hv:Yp P (.bin d op mx my) s K)(hn:Next s w A sp N K next):o.wp P a w next Q:=by
 have h1:=(bg h hx).1
 have h2:=(bg h hy).1
 simp only[Yp] at hv
 obtain⟨v,hrun,hf,hK⟩:=Ly (P:=P) t x y h1 h2 hv
 refine fin h hd hN ?_ (.lit v hf) (.oF (by intro _ _ _ h;cases h)) hK hn
 simp only[Sem.run_bind] at hrun
 simp only[execOp,hop,Sem.run_bind,hrun,Result.andThen_ok,Sem.run_pure]
theorem Lz(t:TypeId)(ht:P.underlying t=some .bool)(p q:Bool):(Op.equal t (.bool p) (.bool q)).run P w=.ok (p==q) w:=by
 show(Op.equalIn (9999+1) t _ _).run P w=_
 unfold Op.equalIn
 simp only[Sem.run_bind,run_underlying ht,Result.andThen_ok,Sem.run_pure]
theorem C4{t t':TypeId}{op:BinOp}{neg:Bool}{x y:Operand}{mx my:ai}(hop:o.op=.binOp op t x y t')(hneg:op=(if neg then .neq else .eql))(hd:o.dst=some d)(hN:d<N)(hx:aD x=some mx)(hy:aD y=some my)
  (ht:P.underlying t=some .bool)
  (h:RS N s a w A sp)(hv:Yp P (.lE d neg mx my) s K)(hn:Next s w A sp N K next):o.wp P a w next Q:=by
 have h1:=(bg h hx).1
 have h2:=(bg h hy).1
 simp only[Yp] at hv
 split at hv
 ·rename_i p q e1 e2
  rw[e1] at h1;rw[e2] at h2
  have v1:=h1.lH;have v2:=h2.lH
  refine fin h hd hN ?_ (.lit _ rfl) trivial hv hn
  subst hneg
  have hg:=fun op=>xM (P:=P) (w:=w) (op:=op) (t:=t) (x:=x) (y:=y) (p:=.bool p) (q:=.bool q) rfl rfl (by simp)
  cases neg<;>simp[execOp,hop,v1,v2,hg,binOp,Lz t ht]
 ·exact hv.elim
theorem C5{t t' e:TypeId}{op:BinOp}{neg:Bool}{x:Operand}{mx:ai}(hop:o.op=.binOp op t x (.const (.slice none 0 0)) t')(hneg:op=(if neg then .neq else .eql))(hd:o.dst=some d)(hN:d<N)(hx:aD x=some mx)
  (ht:P.underlying t=some (.slice e))
  (h:RS N s a w A sp)(hv:Yp P (.isNil d neg mx) s K)(hn:Next s w A sp N K next):o.wp P a w next Q:=by
 have h1:=(bg h hx).1
 have v2:a.eval (.const (.slice none 0 0))=.slice none 0 0:=rfl
 have goal:∀(b:Option Addr) (l c:Nat),a.eval x=.slice b l c→K (s.set d (.lit (.bool (if neg then !b.isNone else b.isNone))))→o.wp P a w next Q:=by
  intro b l c hb hK
  refine fin h hd hN ?_ (.lit _ rfl) trivial hK hn
  subst hneg
  have he:(Op.equal t (.slice b l c) (.slice none 0 0)).run P w=.ok b.isNone w:=by
   show(Op.equalIn (9999+1) t _ _).run P w=_
   unfold Op.equalIn
   simp only[Sem.run_bind,run_underlying ht,Result.andThen_ok]
   cases b<;>rfl
  have hg:∀op,(eqGuard op t x (.const (.slice none 0 0)) (.slice b l c) (.slice none 0 0)).run P w=.ok () w:=fun op=>by
   unfold eqGuard
   cases op<;>rfl
  cases neg
  ·simp only[execOp,hop,hb,v2,Sem.run_bind,hg,Result.andThen_ok,binOp,he,Sem.run_pure,if_false,Bool.false_eq_true]
  ·simp only[execOp,hop,hb,v2,Sem.run_bind,hg,Result.andThen_ok,binOp,he,Sem.run_pure,if_true]
 simp only[Yp] at hv
 split at hv
 ·rename_i e1
  rw[e1] at h1
  generalize aT:a.eval x=v0 at h1
  cases h1 with
  |cS=>exact goal none 0 0 aT (by have:=hv.1 rfl;cases neg<;>exact this)
  |slice=>exact goal (some _) _ _ aT (by have:=hv.2;cases neg<;>exact this)
 ·rename_i e1
  rw[e1] at h1
  generalize aT:a.eval x=v0 at h1
  cases h1
  exact goal (some _) _ _ aT (by cases neg<;>exact hv)
 ·exact hv.elim
theorem LA{t:TypeId}{x:Operand}{mx:ai}(hop:o.op=.unOp .not t x)(hd:o.dst=some d)(hN:d<N)(hx:aD x=some mx)(h:RS N s a w A sp)(hv:Yp P (.not d mx) s K)(hn:Next s w A sp N K next):o.wp P a w next Q:=by
 have h1:=(bg h hx).1
 simp only[Yp] at hv
 split at hv
 ·rename_i p e1
  rw[e1] at h1
  exact fin h hd hN (by simp[execOp,hop,h1.lH,Op.unary]) (.lit _ rfl) trivial hv hn
 ·exact hv.elim
theorem LB{t:TypeId}{x:Operand}{mx:ai}(hop:o.op=.unOp .neg t x)(hd:o.dst=some d)(hN:d<N)(hx:aD x=some mx)(h:RS N s a w A sp)(hv:Yp P (.neg d mx) s K)(hn:Next s w A sp N K next):o.wp P a w next Q:=by
 have h1:=(bg h hx).1
 simp only[Yp] at hv
 split at hv
 ·rename_i k p e1
  rw[e1] at h1
  exact fin (v:=.int k (0 - p)) h hd hN (by simp only[execOp,hop,h1.cG,Op.unary,Op.intArith,rZ hv.1];rfl) (.lit _ rfl) trivial hv.2 hn
 ·exact hv.elim
theorem LC{ts td:TypeId}{k k':IntKind}{x:Operand}{mx:ai}(hop:o.op=.convert ts td x)(hd:o.dst=some d)(hN:d<N)(hx:aD x=some mx)
  (hs:P.underlying ts=some (.int k'))(ht:P.underlying td=some (.int k))
  (h:RS N s a w A sp)(hv:Yp P (.conv d k mx) s K)(hn:Next s w A sp N K next):o.wp P a w next Q:=by
 have h1:=(bg h hx).1
 simp only[Yp] at hv
 split at hv
 ·rename_i q p e1
  rw[e1] at h1
  exact fin (v:=.int k (k.wrap p)) h hd hN (by simp[execOp,hop,h1.cG,convert,run_underlying hs,run_underlying ht,Conv.intToInt]) (.lit _ rfl) trivial hv hn
 ·exact hv.elim
theorem LD{x:Operand}{mx:ai}{i:Nat}(hop:o.op=.extract x i)(hd:o.dst=some d)(hN:d<N)(hx:aD x=some mx)(h:RS N s a w A sp)(hv:Yp P (.ext d mx i) s K)(hn:Next s w A sp N K next):o.wp P a w next Q:=by
 have h1:=(bg h hx).1
 simp only[Yp] at hv
 split at hv
 ·rename_i xs e1
  rw[e1] at h1
  generalize aT:a.eval x=v0 at h1
  cases h1 with
  |tuple _ vs hs hr=>
   have:vs[i]? =some (vs.getD i undef):=by rw[Array.getD_eq_getD_getElem?,Array.getElem?_eq_getElem (by omega)];rfl
   have hrun:(Instr.extract (.tuple vs) i).run P w=.ok (vs.getD i undef) w:=by
    generalize vs.getD i undef=v at this
    simp[Instr.extract,this]
   exact fin (v:=vs.getD i undef) h hd hN (by simp only[execOp,hop,aT,Sem.run_bind,hrun,Result.andThen_ok,Sem.run_pure]) (hr i).erase .erase hv.2 hn
 ·exact hv.elim
theorem LF{x:Operand}{mx:ai}{t e:TypeId}(hop:o.op=.call {callee:=.builtin .len,args:= #[x],argTypes:= #[t]})(hd:o.dst=some d)(hN:d<N)(hx:aD x=some mx)
  (ht:P.underlying t=some (.slice e))
  (h:RS N s a w A sp)(hv:Yp P (.len d mx) s K)(hn:Next s w A sp N K next):o.wp P a w next Q:=by
 have h1:=(bg h hx).1
 simp only[Yp] at hv
 split at hv
 ·rename_i sz xs own e1
  rw[e1] at h1
  generalize aT:a.eval x=v0 at h1
  cases h1 with
  |cS=>exact fin (v:=.int .i64 0) h hd hN (by simp[execOp,hop,resolve,invoke,builtin,aT,Builtin.len_,run_underlying ht,goInt]) (.lit _ rfl) trivial hv hn
  |slice _ _ _ b off cap vs hsz h1c hcap hlen hc hr=>
   exact fin (v:=.int .i64 xs.length) h hd hN (by simp[execOp,hop,resolve,invoke,builtin,aT,Builtin.len_,run_underlying ht,goInt]) (.lit _ rfl) trivial hv hn
 ·rename_i b off len cap sz e1
  rw[e1] at h1
  generalize aT:a.eval x=v0 at h1
  cases h1
  exact fin (v:=.int .i64 len) h hd hN (by simp[execOp,hop,resolve,invoke,builtin,aT,Builtin.len_,run_underlying ht,goInt]) (.lit _ rfl) trivial hv hn
 ·rename_i e1
  rw[e1] at h1
  generalize aT:a.eval x=v0 at h1
  cases h1
  exact fin (v:=.int .i64 0) h hd hN (by simp[execOp,hop,resolve,invoke,builtin,aT,Builtin.len_,run_underlying ht,goInt]) (.lit _ rfl) trivial hv hn
 ·exact hv.elim
theorem LG{x:Operand}{mx:ai}{t:TypeId}(hop:o.op=.call {callee:=.builtin .len,args:= #[x],argTypes:= #[t]})(hd:o.dst=some d)(hN:d<N)(hx:aD x=some mx)
  (ht:P.underlying t=some .string)
  (h:RS N s a w A sp)(hv:Yp P (.jV d mx) s K)(hn:Next s w A sp N K next):o.wp P a w next Q:=by
 have h1:=(bg h hx).1
 simp only[Yp] at hv
 split at hv
 ·rename_i st e1
  rw[e1] at h1
  exact fin (v:=.int .i64 st.size) h hd hN (by simp[execOp,hop,resolve,invoke,builtin,h1.aaI,Builtin.len_,run_underlying ht,goInt]) (.lit _ rfl) trivial hv hn
 ·exact hv.elim
theorem C6{x:Operand}{t e:TypeId}{n:Nat}(hop:o.op=.call {callee:=.builtin .len,args:= #[x],argTypes:= #[t]})(hd:o.dst=some d)(hN:d<N)
  (ht:P.underlying t=some (.array n e)∨∃t',P.underlying t=some (.pointer t')∧P.underlying t'=some (.array n e))
  (h:RS N s a w A sp)(hv:Yp P (.mF d n) s K)(hn:Next s w A sp N K next):o.wp P a w next Q:=by
 refine fin (v:=.int .i64 n) h hd hN ?_ (.lit _ rfl) trivial hv hn
 have:(Builtin.len_ #[t] o.type #[a.eval x]).run P w=.ok (.int .i64 n) w:=by
  rcases ht with ht|⟨t',ht,ht'⟩
  ·unfold Builtin.len_
   simp only[List.getElem?_toArray,List.getElem?_cons_zero,Sem.run_bind,run_underlying ht,Result.andThen_ok]
   cases a.eval x<;>rfl
  ·unfold Builtin.len_
   simp only[List.getElem?_toArray,List.getElem?_cons_zero,Sem.run_bind,run_underlying ht,Result.andThen_ok]
   cases a.eval x<;>simp[run_underlying ht',goInt]
 simp[execOp,hop,resolve,invoke,builtin,this]
theorem LH{x y:Operand}{mx my:ai}{ts:Array TypeId}(hop:o.op=.call {callee:=.builtin .max,args:= #[x,y],argTypes:=ts})(hd:o.dst=some d)(hN:d<N)(hx:aD x=some mx)(hy:aD y=some my)(h:RS N s a w A sp)(hv:Yp P (.fQ d mx my) s K)(hn:Next s w A sp N K next):o.wp P a w next Q:=by
 have h1:=(bg h hx).1
 have h2:=(bg h hy).1
 simp only[Yp] at hv
 split at hv
 ·rename_i k p k' q e1 e2
  rw[e1] at h1;rw[e2] at h2
  exact fin (v:=.int k (if q>p then q else p)) h hd hN (by simp[execOp,hop,resolve,invoke,builtin,h1.cG,h2.cG,Builtin.max_,Builtin.max2]) (.lit _ rfl) trivial hv hn
 ·exact hv.elim
theorem LI{x y:Operand}{mx my:ai}{ts:Array TypeId}(hop:o.op=.call {callee:=.builtin .min,args:= #[x,y],argTypes:=ts})(hd:o.dst=some d)(hN:d<N)(hx:aD x=some mx)(hy:aD y=some my)(h:RS N s a w A sp)(hv:Yp P (.h_ d mx my) s K)(hn:Next s w A sp N K next):o.wp P a w next Q:=by
 have h1:=(bg h hx).1
 have h2:=(bg h hy).1
 simp only[Yp] at hv
 split at hv
 ·rename_i k p k' q e1 e2
  rw[e1] at h1;rw[e2] at h2
  exact fin (v:=.int k (if q<p then q else p)) h hd hN (by simp[execOp,hop,resolve,invoke,builtin,h1.cG,h2.cG,Builtin.min_,Builtin.min2]) (.lit _ rfl) trivial hv hn
 ·exact hv.elim
theorem xN(h:RS N s a w A sp):∀{xs:List Operand} {ms:List ai},oM xs=some ms→ms.length=xs.length∧∀i,RV w A (((ms.map fun x=>(x.ev s.env).erase)).getD i .any) ((xs.map a.eval).getD i undef)
 |[],ms,hm=>by injection hm with hm;subst hm;exact⟨rfl,fun i=>by simp;exact .any _⟩
 |x::xs,ms,hm=>by
  simp only[oM] at hm
  split at hm
  ·rename_i y ys h1 h2
   injection hm with hm;subst hm
   obtain⟨i1,i2⟩:=xN h h2
   refine⟨by simp[i1],fun i=> ?_⟩
   cases i with
   |zero=>simpa using(bg h h1).1.erase
   |succ i=>simpa using i2 i
  ·cases hm
theorem mK(h:RS N s a w A sp):∀{xs:List Operand} {ts:List TypeId} {ms:List ai},fE P xs ts=some ms→ms.length=xs.length∧∀i,RV w A (((ms.map fun x=>(x.ev s.env).erase)).getD i .any) ((xs.map a.eval).getD i undef)
 |[],_,ms,hm=>by unfold fE at hm;injection hm with hm;subst hm;exact⟨rfl,fun i=>by simp;exact .any _⟩
 |x::xs,[],ms,hm=>by
  simp only[fE] at hm
  split at hm
  ·rename_i y ys h1 h2
   injection hm with hm;subst hm
   obtain⟨i1,i2⟩:=mK h h2
   refine⟨by simp[i1],fun i=> ?_⟩
   cases i with
   |zero=>simpa using(bg h h1).1.erase
   |succ i=>simpa using i2 i
  ·cases hm
 |x::xs,t::ts,ms,hm=>by
  simp only[fE] at hm
  split at hm
  ·rename_i y ys h1 h2
   injection hm with hm;subst hm
   obtain⟨i1,i2⟩:=mK h h2
   refine⟨by simp[i1],fun i=> ?_⟩
   cases i with
   |zero=>simpa using(xK h h1).1.erase
   |succ i=>simpa using i2 i
  ·cases hm
theorem LJ{fn:Fn}{xs ys:Array Operand}{ms ns:List ai}(hop:o.op=.makeFunc fn xs ys)(hd:o.dst=some d)(hN:d<N)(hx:oM xs.toList=some ms)(hy:oM ys.toList=some ns)(h:RS N s a w A sp)(hv:Yp P (.eK d fn ms ns) s K)(hn:Next s w A sp N K next):o.wp P a w next Q:=by
 obtain⟨a1,a2⟩:=xN h hx
 obtain⟨b1,b2⟩:=xN h hy
 refine fin (v:=.func fn (xs.map a.eval) (ys.map a.eval)) h hd hN (by simp[execOp,hop,Instr.makeFunc]) (.func _ _ _ _ _ (by simp[a1]) (by simp[b1]) (fun i=> ?_) (fun i=> ?_)) trivial hv hn
 ·have:=a2 i
  simpa[List.getD_eq_getElem?_getD,Array.getD_eq_getD_getElem?] using this
 ·have:=b2 i
  simpa[List.getD_eq_getElem?_getD,Array.getD_eq_getD_getElem?] using this
theorem LK{x:Operand}{mx:ai}(hop:o.op=.nilCheck x)(hd:o.dst=some d)(hN:d<N)(hx:aD x=some mx)(h:RS N s a w A sp)(hv:Yp P (.bO d mx) s K)(hn:Next s w A sp N K next):o.wp P a w next Q:=by
 have h1:=(bg h hx).1
 simp only[Yp] at hv
 split at hv
 ·rename_i cs e1
  rw[e1] at h1
  generalize aT:a.eval x=v0 at h1
  have hh:=h1
  cases h1
  exact fin h hd hN (by simp[execOp,hop,aT]) hh trivial hv hn
 ·rename_i b off e1
  rw[e1] at h1
  generalize aT:a.eval x=v0 at h1
  have hh:=h1
  cases h1
  exact fin h hd hN (by simp[execOp,hop,aT]) hh trivial hv hn
 ·exact hv.elim
theorem xO{α β:Type}(f:α→List β)(sz:Nat):∀(xs:List α) (n:Nat),(∀x∈xs,(f x).length=sz)→(xs.take n).flatMap f=(xs.flatMap f).take (n*sz)
 |[],n,_=>by simp
 |x::xs,0,_=>by simp
 |x::xs,n+1,h=>by
  have hx:=h x (by simp)
  have ih:=xO f sz xs n (fun y hy=>h y (by simp[hy]))
  have e:(n+1)*sz=(f x).length+n*sz:=by rw[hx,Nat.add_mul];omega
  simp only[List.take_succ_cons,List.flatMap_cons,ih,e]
  rw[List.take_append]
  congr 1
  ·rw[List.take_of_length_le (by omega)]
  ·congr 1;omega
theorem C7{α β:Type}(f:α→List β)(sz:Nat):∀(xs:List α) (n:Nat),(∀x∈xs,(f x).length=sz)→(xs.drop n).flatMap f=(xs.flatMap f).drop (n*sz)
 |[],n,_=>by simp
 |x::xs,0,_=>by simp
 |x::xs,n+1,h=>by
  have hx:=h x (by simp)
  have ih:=C7 f sz xs n (fun y hy=>h y (by simp[hy]))
  have e:(n+1)*sz=(f x).length+n*sz:=by rw[hx,Nat.add_mul];omega
  simp only[List.drop_succ_cons,List.flatMap_cons,ih,e]
  rw[List.drop_append,List.drop_eq_nil_of_le (as:=f x) (by omega),List.nil_append]
  congr 1;omega
theorem LL{t e:TypeId}{x hi:Operand}{mx mh:ai}{sz:Nat}(hop:o.op=.slice t x none (some hi) none)(hd:o.dst=some d)(hN:d<N)(hx:aD x=some mx)(hy:aD hi=some mh)
  (ht:P.underlying t=some (.slice e))(hz:ct P e=some sz)
  (h:RS N s a w A sp)(hv:Yp P (.iM d mx mh sz) s K)(hn:Next s w A sp N K next):o.wp P a w next Q:=by
 have h1:=(bg h hx).1
 have h2:=(bg h hy).1
 simp only[ct,Option.map_eq_some_iff] at hz
 obtain⟨inf,dN,rfl⟩:=hz
 simp only[Yp] at hv
 split at hv
 ·rename_i sz' xs own k n e1 e2
  obtain⟨hs,h0,hl,hK⟩:=hv
  rw[e1] at h1;rw[e2] at h2
  have v2:=h2.cG
  generalize aT:a.eval x=v0 at h1
  cases h1 with
  |cS=>
   have hn0:n=0:=by simp at hl;omega
   subst hn0
   refine fin (v:=.slice none 0 0) h hd hN ?_ (by simp;exact .cS _ _) (by simp;trivial) hK hn
   simp[execOp,hop,aT,v2,Instr.sliceAt,run_underlying ht,Instr.slice,Instr.sliceBounds,Instr.sliceBound,asIntOf,sizeOf,typeInfo,dN]
  |slice _ _ _ b off cap vs hsz h1c hcap hlen hc hr=>
   have nW:n.toNat≤xs.length:=by omega
   have hnc:n≤(cap:Int):=by omega
   have C8:∀y∈xs.take n.toNat,y.cells.length=inf.size:=by
    intro y hy
    rcases hs with rfl|rfl
    ·exact hsz y (List.mem_of_mem_take hy)
    ·simp at hy
   have qx:RV w A (.slice inf.size (xs.take n.toNat) 0) (.slice (some ⟨b,off,none⟩) (xs.take n.toNat).length cap):=by
    refine .slice _ _ _ _ _ _ vs C8 (fun y hy=>h1c y (List.mem_of_mem_take hy)) (by simp;omega) (by simp;omega) (fun i hi=> ?_) (fun i=> ?_)
    ·refine hc i ?_
     rcases hs with rfl|rfl
     ·refine Nat.lt_of_lt_of_le hi (Nat.mul_le_mul_right _ ?_);simp;omega
     ·simp at hi
    ·rcases hs with rfl|rfl
     ·rw[xO AV.cells _ xs _ hsz]
      by_cases hi:i<n.toNat*inf.size
      ·have:=hr i
       simp only[List.getD_eq_getElem?_getD,List.getElem?_take,hi,if_true] at this⊢
       exact this
      ·simp only[List.getD_eq_getElem?_getD,List.getElem?_take,hi,if_false,Option.getD_none]
       exact .any _
     ·simp;exact .any _
   have e3:(xs.take n.toNat).length=n.toNat:=by simp;omega
   rw[e3] at qx
   refine fin h hd hN ?_ qx (.oF (by intro _ _ _ hh;injection hh with _ _ hh;exact hh.symm)) hK hn
   simp[execOp,hop,aT,v2,Instr.sliceAt,run_underlying ht,Instr.slice,Instr.sliceBounds,Instr.sliceBound,asIntOf,sizeOf,typeInfo,dN,h0,hnc,Addr.add]
 ·exact hv.elim
end
end Go.az
namespace Go.az
open Go.RowKit
section
variable {P:Program} {N:Nat} {s:St} {a:Act} {w:World} {A:aJ} {sp:Sp} {K:St→Prop} {next:Act→World→Prop} {Q:Exit→Act→World→Prop} {o:Oper} {d:Nat}
theorem Ev.same{L L':aJ}(h:∀b o,L' b o→L b o):Ev w A L w A L':=⟨rfl,rfl,rfl,Nat.le_refl _,fun _ _ _ hl=>⟨rfl,fun h'=>hl (h _ _ h')⟩,fun _ _ _=>rfl,fun _ _ h=>h,fun _ _ h=>.inl h⟩
theorem qy{sz:Nat}{xs:List AV}{r:Nat}(hr:r≠0){v:Value}(h:bN sp (.slice sz xs r) v)(hv:RV w A (.slice sz xs r) v):v=.slice none 0 0∨∃b off cap,v=.slice (some ⟨b,off,none⟩) xs.length cap∧xs.length≤cap∧sp r=(b,off+xs.length*sz,off+cap*sz):=by
 cases hv with
 |cS=>exact .inl rfl
 |slice _ _ _ b off cap vs hsz h1c hcap hlen hc hr'=>exact .inr ⟨b,off,cap,rfl,hcap,h.resolve_left hr⟩
theorem RS.rename(h:RS N s a w A sp)(r q:Nat)(hq:q≠0):RS N ((s.aK r).aK q) a w A (aq (aq (aq sp r (0,0,0)) q (0,0,0)) q (sp r)):=by
 have h2:=(h.aK r).aK q
 refine h2.uE q (qt _ _ hq) (qu _ _ hq) (sp r).1 (sp r).2.1 (sp r).2.2 (fun hlt=> ?_) (fun q' hne hlt ck he=> ?_) (fun o ho=> ?_)
 ·obtain⟨h3,h4⟩:=h.bR r hlt
  exact⟨h3,by simp[St.aK,h4]⟩
 ·simp only[aq,hne,if_false] at ck he⊢
  by_cases e:q'=r
  ·simp only[e,if_true] at ck;omega
  ·simp only[e,if_false] at ck he⊢
   exact h.YJ q' r e ck hlt he
 ·have:=(h.av _ _ ho).2
  by_cases e:o<(sp r).2.1∨(sp r).2.2≤o
  ·exact e
  ·exact absurd (.inr ⟨r,rfl,by omega,by omega⟩) this
theorem xP(r q:Nat){b o:Nat}(h:live ((s.aK r).aK q).loc (aq (aq (aq sp r (0,0,0)) q (0,0,0)) q (sp r)) b o):live s.loc sp b o:=by
 rcases h with h|⟨k,hk⟩
 ·exact .inl (by intro hn;exact h (by simp[St.aK,hn]))
 ·by_cases e:k=q
  ·simp only[aq,e,if_true] at hk;exact .inr ⟨r,hk⟩
  ·by_cases e2:k=r
   ·subst e2;simp only[aq,e,if_false,if_true] at hk;omega
   ·simp only[aq,e,e2,if_false] at hk;exact .inr ⟨k,hk⟩
theorem LM{x:Operand}{m:ai}(hop:o.op=.assign x)(hd:o.dst=some d)(hN:d<N)(hx:aD x=some m)(h:RS N s a w A sp)(hv:K (Y4 s d (m.ev s.env)))(hn:Next s w A sp N K next):o.wp P a w next Q:=by
 have h1:=(bg h hx).1
 have h2:=(bg h hx).2
 have hrun:(execOp a.eval o).run P w=.ok (.value (a.eval x)) w:=by simp[execOp,hop]
 cases hm:m.ev s.env with
 |slice sz xs r=>
  rw[hm] at h1 h2 hv
  simp only[Y4] at hv
  split at hv
  ·exact fin h hd hN hrun h1.own (.oF (by intro _ _ _ hh;injection hh with _ _ hh;exact hh.symm)) hv hn
  ·rename_i hr
   refine fin' (h.rename r (d+1) (by omega)) (.same fun b o=>xP r (d+1)) hd hN hrun h1.own ?_ hv hn
   rcases qy hr h2 h1 with e|⟨b,off,cap,e,_,e2⟩
   ·rw[e];trivial
   ·rw[e];exact .inr (by simp[aq,e2])
 |_=>rw[hm] at h1 h2 hv;exact fin h hd hN hrun h1 h2 hv hn
theorem LN{sz:Nat}(hop:o.op=.assign (.const (.slice none 0 0)))(hd:o.dst=some d)(hN:d<N)(h:RS N s a w A sp)(hv:Yp P (.bS d sz) s K)(hn:Next s w A sp N K next):o.wp P a w next Q:=fin' (h.aK (d+1)) (Ev.aK (d+1)) hd hN (by simp[execOp,hop,Act.eval]) (.cS _ _) trivial hv hn
theorem aby(hop:o.op=.assign (.const (.slice none 0 0)))(hd:o.dst=some d)(hN:d<N)(h:RS N s a w A sp)(hv:Yp P (.Yo d (.c (.lit (.slice none 0 0)))) s K)(hn:Next s w A sp N K next):o.wp P a w next Q:=fin h hd hN (by simp[execOp,hop,Act.eval]) (.lit _ rfl) (.oF (by intro _ _ _ hh;cases hh)) hv hn
theorem RV.uM{x:AV}{v:Value}(h:RV w A x v)(hx:x.cells≠[]):v.cells.size=x.cells.length∧∀i,RV w A (x.cells.getD i .any) (v.cells.getD i undef):=by
 have one:∀{x:AV} {v:Value},RV w A x v→v.cells= #[v]→x.cells=[x]→v.cells.size=x.cells.length∧∀i,RV w A (x.cells.getD i .any) (v.cells.getD i undef):=by
  intro x v h e1 e2
  rw[e1,e2]
  refine⟨rfl,fun i=> ?_⟩
  cases i with
  |zero=>simpa using h
  |succ i=>simp;exact .any _
 cases h with
 |any=>exact absurd rfl hx
 |ghost=>exact absurd rfl hx
 |lit v hf=>exact one (.lit v hf) (by cases v<;>first|rfl|cases hf) rfl
 |cS sz own=>exact one (.cS sz own) rfl rfl
 |slice sz xs own b off cap vs hsz h1c hcap hlen hc hr=>exact one (.slice sz xs own b off cap vs hsz h1c hcap hlen hc hr) rfl rfl
 |ref cs b off vs hc hr=>exact one (.ref cs b off vs hc hr) rfl rfl
 |Yq b off=>exact one (.Yq b off) rfl rfl
 |bL b=>exact one (.bL b) rfl rfl
 |aP b off len cap sz hl=>exact one (.aP b off len cap sz hl) rfl rfl
 |agg xs vs hs hr=>exact⟨hs,hr⟩
 |tuple xs vs hs hr=>exact one (.tuple xs vs hs hr) rfl rfl
 |func fn fs cs vf vc eU hsc hf hc=>exact one (.func fn fs cs vf vc eU hsc hf hc) rfl rfl
 |fmap es b es' clock hb ha hs hk hv=>exact one (.fmap es b es' clock hb ha hs hk hv) rfl rfl
theorem xQ(e:TypeId)(v:Value):(newVar e v).run P w=.ok ⟨w.heap.size,0,none⟩ (w.alloc (.cells v.cells e)):=by simp[newVar,newRow]
theorem RV.new{cs:List AV}{vs:Array Value}(T:TypeId)(hs:vs.size=cs.length)(hA:∀b o,A b o→b<w.heap.size)(hr:∀i,RV w A (cs.getD i .any) (vs.getD i undef))(k:Nat)(hk:cs.length≤k):RV (w.alloc (.cells vs T)) (fun b o=>A b o∨(b=w.heap.size∧o<k)) (.ref cs) (.pointer (some ⟨w.heap.size,0,none⟩)):=by
 refine .ref _ _ _ (fun i=>vs.getD i undef) (fun i hi=>⟨?_,.inr ⟨rfl,by omega⟩⟩) (fun i=>(hr i).mono (fun b o v ha hv=>⟨by rw[mH _ _ _ _ (hA b o ha)];exact hv,.inl ha⟩) (.blocks (fun _ _ ha=>.inl ha) fun b _ hb=>heap_alloc _ _ _ hb))
 rw[Nat.zero_add,CP,Array.getD_eq_getD_getElem?,Array.getElem?_eq_getElem (by omega)]
 rfl
theorem LP{e:TypeId}{x:Operand}{m:ai}{n:Nat}(hop:o.op=.box e x)(hd:o.dst=some d)(hN:d<N)(hx:aD x=some m)(hn0:0<n)(h:RS N s a w A sp)(hv:Yp P (.bB d m n) s K)(hn:Next s w A sp N K next):o.wp P a w next Q:=by
 have h1:=(bg h hx).1
 simp only[Yp] at hv
 obtain⟨hl,hv⟩:=hv
 obtain⟨hs,hr⟩:=h1.uM (by intro e;rw[e] at hl;simp at hl;omega)
 refine fin' (h.alloc (a.eval x).cells e n (by omega)) (h.aaE _ n) hd hN ?_ (RV.new (cs:=(m.ev s.env).cells.map AV.erase0) e (by simpa using hs) (fun b o ha=>(h.av b o ha).1) (fun i=> ?_) n (by simp;omega)) trivial hv hn
 ·simp only[execOp,hop,Instr.box,Sem.run_bind,xQ,Result.andThen_ok,Sem.run_pure]
 ·rw[gF];exact(hr i).erase0
theorem RS.aaK(h:RS N s a w A sp){cs:List AV}{vs:Array Value}(T:TypeId)(hs:vs.size=cs.length)
  (hr:∀i,RV w A (cs.getD i .any) (vs.getD i undef)∧bN sp (cs.getD i .any) (vs.getD i undef)):
  RS N (s.new w.heap.size cs) a (w.alloc (.cells vs T)) A sp:=by
 have h1:=h.alloc vs T 0 (by omega)
 have hmono:∀{x v},RV w A x v→RV (w.alloc (.cells vs T)) A x v:=fun hx=>hx.mono (fun b o v ha hv=>⟨by rw[mH _ _ _ _ (h.av b o ha).1];exact hv,ha⟩) (.blocks (fun _ _ ha=>ha) fun b _ hb=>heap_alloc _ _ _ hb)
 refine⟨h.size,h.defers,fun d=>⟨hmono (h.env d).1,(h.env d).2⟩,fun b cs' hb=> ?_,fun r hr'=> ?_,h.YJ,fun b o ha=>⟨by have:=(h.av b o ha).1;rw[Y8];omega,?_⟩⟩
 ·simp only[St.new,aq] at hb
  split at hb
  ·rename_i e;subst e;injection hb with hb;subst hb
   exact⟨vs,T,qq _ _,hs,fun i=>⟨hmono (hr i).1,(hr i).2⟩⟩
  ·obtain⟨vs',T',g1,g2,g3⟩:=h.loc b cs' hb
   exact⟨vs',T',by rw[heap_alloc _ _ _ (cn g1)];exact g1,g2,fun i=>⟨hmono (g3 i).1,(g3 i).2⟩⟩
 ·obtain⟨⟨vs',T',g1,g2⟩,g3⟩:=h.bR r hr'
  refine⟨⟨vs',T',by rw[heap_alloc _ _ _ (cn g1)];exact g1,g2⟩,?_⟩
  simp only[St.new,aq]
  rw[if_neg (Nat.ne_of_lt (cn g1))]
  exact g3
 ·rintro(hl|hl)
  ·simp only[St.new,aq] at hl
   split at hl
   ·rename_i e;have:=(h.av b o ha).1;omega
   ·exact(h.av b o ha).2 (.inl hl)
  ·exact(h.av b o ha).2 (.inr hl)
theorem RS.r_(ob:Obj)(cs:List AV):Ev w A (live s.loc sp) (w.alloc ob) A (live (s.new w.heap.size cs).loc sp):=by
 refine⟨rfl,rfl,rfl,by rw[Y8];omega,fun b o hb hl=>⟨mH _ _ _ _ hb,?_⟩,fun b hb _=>heap_alloc _ _ _ hb,fun _ _ ha=>ha,fun _ _ ha=>.inl ha⟩
 rintro(hl'|hl')
 ·simp only[St.new,aq] at hl'
  rw[if_neg (Nat.ne_of_lt hb)] at hl'
  exact hl (.inl hl')
 ·exact hl (.inr hl')
theorem LQ{e:TypeId}{x:Operand}{m:ai}{n:Nat}(hop:o.op=.box e x)(hd:o.dst=some d)(hN:d<N)(hx:aD x=some m)(hn0:0<n)(h:RS N s a w A sp)(hv:Yp P (.mE d m n) s K)(hn:Next s w A sp N K next):o.wp P a w next Q:=by
 have h1:=(bg h hx).1
 simp only[Yp] at hv
 obtain⟨hl,hv⟩:=hv
 obtain⟨hs,hr⟩:=h1.uM (by intro e;rw[e] at hl;simp at hl;omega)
 refine fin' (h.aaK (cs:=(m.ev s.env).cells.map AV.erase0) e (by simpa using hs) (fun i=> ?_)) (RS.r_ _ _) hd hN ?_ (.Yq w.heap.size 0) trivial (hv _ h.fresh) hn
 ·rw[gF];exact⟨(hr i).erase0,.erase0⟩
 ·simp only[execOp,hop,Instr.box,Sem.run_bind,xQ,Result.andThen_ok,Sem.run_pure]
theorem qz{t:TypeId}{z:List AV}(h:jx P t z=true):∃i v,P.info? t=some i∧i.zero=some v∧v.cells.size=z.length∧z.length=i.size∧(∀k,RV w A (z.getD k .any) (v.cells.getD k undef))∧∀x∈z,x.bH=true∧x.erase=x:=by
 unfold jx at h
 split at h
 ·rename_i i hi
  split at h
  ·rename_i v hz
   simp only[Bool.and_eq_true,beq_iff_eq] at h
   obtain⟨h1,h2,h3⟩:=CV (w:=w) (A:=A) h.1
   refine⟨i,v,hi,hz,by simpa using h1,h.2,fun k=> ?_,h3⟩
   have:=h2 k
   simpa[List.getD_eq_getElem?_getD,Array.getD_eq_getD_getElem?] using this
  ·cases h
 ·cases h
theorem C9{z:List AV}(h:∀x∈z,x.bH=true∧x.erase=x)(k:Nat){v:Value}:bN sp (z.getD k .any) v:=by
 by_cases hk:k<z.length
 ·have:=(h z[k] (by simp)).2
  rw[List.getD_eq_getElem?_getD,List.getElem?_eq_getElem hk,Option.getD_some,←this]
  exact .erase
 ·rw[List.getD_eq_getElem?_getD,List.getElem?_eq_none (by omega)];trivial
theorem LR{t:TypeId}{z:List AV}(h:uL P t z=true):∃i v,P.info? t=some i∧i.zero=some v∧v.cells.size=z.length∧∀k,RV w A (z.getD k .any) (v.cells.getD k undef)∧bN sp (z.getD k .any) (v.cells.getD k undef):=by
 unfold uL at h
 split at h
 ·rename_i i hi
  split at h
  ·rename_i v hz
   simp only[Bool.and_eq_true,beq_iff_eq] at h
   obtain⟨h1,h2⟩:=CW (w:=w) (A:=A) (sp:=sp) h.1
   refine⟨i,v,hi,hz,by simpa using h1,fun k=> ?_⟩
   have:=h2 k
   simpa[List.getD_eq_getElem?_getD,Array.getD_eq_getD_getElem?] using this
  ·cases h
 ·cases h
theorem LS{e:TypeId}{z:List AV}(hop:o.op=.alloc e)(hd:o.dst=some d)(hN:d<N)(hz:uL P e z=true)(h:RS N s a w A sp)(hv:Yp P (.alloc d z) s K)(hn:Next s w A sp N K next):o.wp P a w next Q:=by
 obtain⟨i,v,hi,hz,hs,hr⟩:=LR (w:=w) (A:=A) (sp:=sp) hz
 simp only[Yp] at hv
 refine fin' (h.aaK (cs:=z) e hs hr) (RS.r_ _ _) hd hN ?_ (.Yq w.heap.size 0) trivial (hv _ h.fresh) hn
 simp only[execOp,hop,Instr.alloc,zeroValue,typeInfo,Sem.run_bind,run_program,Result.andThen_ok,hi,Sem.run_pure,hz,xQ]
theorem RV.uN{x:AV}{v:Value}(h:RV w A x v)(hx:x.bH=true):v.oneCell'=true:=by
 cases h<;>first|rfl|(cases hx;done)|skip
 rename_i hf;cases v<;>first|rfl|cases hf
theorem jZ:∀(ys cs:List AV) (off:Nat),(splice cs off ys).length=cs.length
 |[],_,_=>rfl
 |y::ys,cs,off=>by rw[splice,jZ ys];simp
theorem lI:∀(ys cs:List AV) (off i:Nat),off+ys.length≤cs.length→(splice cs off ys).getD i .any=if off≤i∧i<off+ys.length then ys.getD (i - off) .any else cs.getD i .any
 |[],cs,off,i,_=>by simp[splice];intro h1 h2;omega
 |y::ys,cs,off,i,h=>by
  simp only[List.length_cons] at h
  rw[splice,lI ys _ _ _ (by simp;omega)]
  by_cases h1:off+1≤i∧i<off+1+ys.length
  ·rw[if_pos h1,if_pos (by simp;omega)]
   have:i - off=(i - (off+1))+1:=by omega
   rw[this];simp
  ·rw[if_neg h1]
   by_cases h2:i=off
   ·subst h2
    rw[if_pos (by simp)]
    simp only[List.getD_eq_getElem?_getD,Nat.sub_self,List.getElem?_cons_zero]
    rw[List.getElem?_set_self (by omega)]
   ·rw[if_neg (by simp;omega)]
    simp only[List.getD_eq_getElem?_getD]
    rw[List.getElem?_set_ne (by omega)]
theorem oP(vs:Array Value)(us:List Value)(off i:Nat)(h:off+us.length≤vs.size):(vs.toList.take off++us++vs.toList.drop (off+us.length)).toArray.getD i undef=if off≤i∧i<off+us.length then us.getD (i - off) undef else vs.getD i undef:=by
 simp only[Array.getD_eq_getD_getElem?,List.getElem?_toArray,List.getD_eq_getElem?_getD]
 by_cases h1:i<off
 ·rw[if_neg (by omega),List.append_assoc,List.getElem?_append_left (by simp;omega),List.getElem?_take,if_pos h1]
  simp
 ·by_cases h2:i<off+us.length
  ·rw[if_pos (by omega),List.append_assoc,List.getElem?_append_right (by simp;omega),List.getElem?_append_left (by simp;omega)]
   have:min off vs.toList.length=off:=by simp;omega
   simp only[List.length_take,this]
  ·rw[if_neg (by omega),List.getElem?_append_right (by simp;omega),List.getElem?_drop]
   have:min off vs.toList.length=off:=by simp;omega
   simp only[List.length_append,List.length_take,this]
   rw[show off+us.length+(i - (off+us.length))=i by omega]
   simp
theorem RS.setRow(h:RS N s a w A sp){b:Nat}{cs0 cs:List AV}{LU vs:Array Value}{T:TypeId}(hb:s.loc b=some cs0)(hh:w.heap[b]? =some (.cells LU T (0,0)))
  (hs:vs.size=cs.length)(hr:∀i,RV w A (cs.getD i .any) (vs.getD i undef)∧bN sp (cs.getD i .any) (vs.getD i undef)):
  RS N (s.new b cs) a (w.setRow b vs) A sp:=by
 have hne:∀{c o},A c o→c≠b:=fun {c o} ha e=>(h.av c o ha).2 (.inl (by rw[e,hb];simp))
 have hmono:∀{x v},RV w A x v→RV (w.setRow b vs) A x v:=fun hx=>hx.mono (fun c o v ha hv=>⟨by rw[cell_setRow_other _ _ _ _ _ (hne ha)];exact hv,ha⟩) (.blocks (fun _ _ ha=>ha) fun c ha _=>aaD _ _ _ _ (hne (ha 0)))
 refine⟨h.size,h.defers,fun d=>⟨hmono (h.env d).1,(h.env d).2⟩,fun c cs' hc=> ?_,fun r hr'=> ?_,h.YJ,fun c o ha=>⟨by rw[size_setRow];exact(h.av c o ha).1,?_⟩⟩
 ·simp only[St.new,aq] at hc
  split at hc
  ·rename_i e;subst e;injection hc with hc;subst hc
   exact⟨vs,T,setRow_heap _ _ _ _ _ _ hh,hs,fun i=>⟨hmono (hr i).1,(hr i).2⟩⟩
  ·rename_i hcb
   obtain⟨vs',T',g1,g2,g3⟩:=h.loc c cs' hc
   exact⟨vs',T',by rw[aaD _ _ _ _ hcb];exact g1,g2,fun i=>⟨hmono (g3 i).1,(g3 i).2⟩⟩
 ·obtain⟨⟨vs',T',g1,g2⟩,g3⟩:=h.bR r hr'
  have hcb:(sp r).1≠b:=fun e=>by rw[e,hb] at g3;cases g3
  refine⟨⟨vs',T',by rw[aaD _ _ _ _ hcb];exact g1,g2⟩,?_⟩
  simp only[St.new,aq]
  rw[if_neg hcb];exact g3
 ·rintro(hl|hl)
  ·simp only[St.new,aq] at hl
   rw[if_neg (hne ha)] at hl
   exact(h.av c o ha).2 (.inl hl)
  ·exact(h.av c o ha).2 (.inr hl)
theorem RS.oQ{b:Nat}{cs0:List AV}(cs:List AV)(vs:Array Value)(hb:s.loc b=some cs0):Ev w A (live s.loc sp) (w.setRow b vs) A (live (s.new b cs).loc sp):=by
 have hne:∀{c o},¬live s.loc sp c o→c≠b:=fun {c o} hl e=>hl (.inl (by rw[e,hb];simp))
 refine⟨rfl,rfl,rfl,by rw[size_setRow];exact Nat.le_refl _,fun c o hc hl=>⟨cell_setRow_other _ _ _ _ _ (hne hl),?_⟩,fun c hc hl=>aaD _ _ _ _ (hne (hl 0)),fun _ _ ha=>ha,fun _ _ ha=>.inl ha⟩
 rintro(hl'|hl')
 ·simp only[St.new,aq] at hl'
  rw[if_neg (hne hl)] at hl'
  exact hl (.inl hl')
 ·exact hl (.inr hl')
theorem C_{t:TypeId}{n b off:Nat}{vs:Array Value}{T:TypeId}{v:Value}(hz:ct P t=some n)(hh:w.heap[b]? =some (.cells vs T (0,0)))
  (hv:v.cells.size=n)(hoff:off+n≤vs.size)(h1:∀u∈v.cells.toList,u.oneCell'=true):
  (Instr.storeAt t (.pointer (some ⟨b,off,none⟩)) v).run P w=.ok () (w.setRow b (vs.toList.take off++v.cells.toList++vs.toList.drop (off+n)).toArray):=by
 simp only[ct,Option.map_eq_some_iff] at hz
 obtain⟨i,hi,rfl⟩:=hz
 have hst:=run_storeCells_at P b off T v.cells.toList 0 vs w hh (by simpa[hv] using hoff) h1
 simp only[Nat.add_zero,Array.length_toList,hv] at hst
 simp only[Instr.storeAt,Instr.sureAddr,Sem.run_bind,Sem.run_pure,Result.andThen_ok,storeVar,sizeOf,typeInfo,run_program,hi,hv,ne_eq,not_true,if_false,hst]
theorem xR{s1:St}{w1:World}{A1:aJ}{YM:Sp}(h:RS N s1 a w1 A1 YM)(aL:Ev w A (live s.loc sp) w1 A1 (live s1.loc YM))(hd:o.dst=none)(hrun:(execOp a.eval o).run P w=.ok .skip w1)(hk:K s1)(hn:Next s w A sp N K next):o.wp P a w next Q:=by
 unfold Oper.wp
 rw[hrun,Oper.upon_skip,hd]
 exact hn _ _ _ _ _ hk h aL
end
end Go.az
namespace Go.az
open Go.RowKit
section
variable {P:Program} {N:Nat} {s:St} {a:Act} {w:World} {A:aJ} {sp:Sp} {K:St→Prop} {next:Act→World→Prop} {Q:Exit→Act→World→Prop} {o:Oper} {d:Nat}
theorem LV{x:AV}{v:Value}(hr:∀i,RV w A (x.cells.getD i .any) (v.cells.getD i undef))(hs:v.cells.size=x.cells.length)(hc:x.cells.all AV.bH=true):∀u∈v.cells.toList,u.oneCell'=true:=by
 intro u hu
 obtain⟨i,hi,rfl⟩:=List.getElem_of_mem hu
 have hi':i<x.cells.length:=by simpa[hs] using hi
 have h1:=hr i
 rw[List.getD_eq_getElem?_getD,List.getElem?_eq_getElem hi',Array.getD_eq_getD_getElem?,Array.getElem?_eq_getElem (by simpa using hi)] at h1
 exact h1.uN ((List.all_eq_true.1 hc) _ (by simp))
theorem abl{t:TypeId}{x y:Operand}{mx my:ai}{n br:Nat}(hop:o.op=.store t x y)(hd:o.dst=none)(hx:aD x=some mx)(hy:aD y=some my)(hz:ct P t=some n)(hn0:0<n)(h:RS N s a w A sp)(hv:Yp P (.store mx my n br) s K)(hn:Next s w A sp N K next):o.wp P a w next Q:=by
 have h1:=(bg h hx).1
 have h2:=bg h hy
 simp only[Yp,ju] at hv
 generalize Xi:my.ev s.env=y' at h2 hv
 split at hv
 ·rename_i b off e1
  rw[e1] at h1
  generalize aT:a.eval x=v0 at h1
  cases h1
  split at hv
  ·rename_i cs hb
   obtain⟨hoff,hl,j0,hv⟩:=hv
   obtain⟨vs,T,hh,hsz,hr⟩:=h.loc b cs hb
   obtain⟨cK,cH⟩:=h2.1.uM (by intro e;rw[e] at hl;simp at hl;omega)
   have hrun:=C_ (P:=P) (w:=w) hz hh (v:=a.eval y) (off:=off) (by omega) (by omega) (LV cH cK j0)
   have hrow:∀(sp':Sp) (cs' ys:List AV),cs'.length=cs.length→(∀i,RV w A (cs'.getD i .any) (vs.getD i undef)∧bN sp' (cs'.getD i .any) (vs.getD i undef))→
     ys.length=n→(∀i,RV w A (ys.getD i .any) ((a.eval y).cells.getD i undef)∧bN sp' (ys.getD i .any) ((a.eval y).cells.getD i undef))→
     ∀i,RV w A ((splice cs' off ys).getD i .any) ((vs.toList.take off++(a.eval y).cells.toList++vs.toList.drop (off+n)).toArray.getD i undef)∧bN sp' ((splice cs' off ys).getD i .any) ((vs.toList.take off++(a.eval y).cells.toList++vs.toList.drop (off+n)).toArray.getD i undef):=by
    intro sp' cs' ys mL hr' hys fF i
    have e:=oP vs (a.eval y).cells.toList off i (by simp;omega)
    simp only[Array.length_toList,cK,hl] at e
    rw[e,lI _ _ _ _ (by omega),hys]
    split
    ·have:=fF (i - off)
     simpa[List.getD_eq_getElem?_getD,Array.getD_eq_getD_getElem?] using this
    ·exact hr' i
   have qA:(execOp a.eval o).run P w=.ok .skip (w.setRow b (vs.toList.take off++(a.eval y).cells.toList++vs.toList.drop (off+n)).toArray):=by simp only[execOp,hop,aT,Sem.run_bind,hrun,Result.andThen_ok,Sem.run_pure]
   have hsize:∀cs':List AV,cs'.length=cs.length→((vs.toList.take off++(a.eval y).cells.toList++vs.toList.drop (off+n)).toArray).size=cs'.length:=by
    intro cs' mL
    simp only[List.size_toArray,List.length_append,List.length_take,List.length_drop,Array.length_toList]
    omega
   have plain:K (s.new b (splice cs off (y'.cells.map AV.erase0)))→o.wp P a w next Q:=by
    intro hk
    refine xR (h.setRow hb hh (hsize _ (jZ _ _ _)) (hrow sp cs _ rfl hr (by simpa using hl) (fun i=> ?_))) (RS.oQ _ _ hb) hd qA hk hn
    rw[gF]
    exact⟨(cH i).erase0,.erase0⟩
   split at hv
   ·rename_i sz xs r
    split at hv
    ·exact plain hv
    ·rename_i hro
     have dO:r≠0:=fun e=>hro (.inl e)
     have Da:br≠0:=fun e=>hro (.inr e)
     have h':=h.rename r br Da
     have hb':((s.aK r).aK br).loc b=some (cs.map fun x=>aG br (aG r x)):=by simp[St.aK,hb]
     obtain⟨vs',T',uO,C8,hr'⟩:=h'.loc b _ hb'
     rw[hh] at uO;injection uO with uO;injection uO with e1 e2 e3;subst e1
     have fG:n=1:=hl.symm
     refine xR (h'.setRow (cs:=(cs.map fun x=>aG br (aG r x)).set off (.slice sz xs br)) hb' hh (hsize _ (by simp)) (hrow _ (cs.map fun x=>aG br (aG r x)) [.slice sz xs br] (by simp) hr' (by simp[fG]) (fun i=> ?_))) ?_ hd qA hv hn
     ·have e5:(a.eval y).cells.getD i undef=if i=0 then a.eval y else undef:=by
       have h3:=h2.1
       generalize a.eval y=vy at h3⊢
       cases h3<;>cases i<;>rfl
      rw[e5]
      cases i with
      |zero=>
       refine⟨h2.1.own,?_⟩
       rcases qy dO h2.2 h2.1 with e|⟨b',off',cap,e,_,e4⟩
       ·rw[if_pos rfl,e];trivial
       ·rw[if_pos rfl,e];exact .inr (by simp[aq,e4])
      |succ i=>exact⟨.any _,trivial⟩
     ·exact(Ev.same fun b o=>xP r br).trans (RS.oQ _ _ hb')
   ·exact plain hv
  ·exact hv.elim
 ·exact hv.elim
theorem LW{t:TypeId}{x:Operand}{mx:ai}{sz br:Nat}(hop:o.op=.store t x (.const (.slice none 0 0)))(hd:o.dst=none)(hx:aD x=some mx)(hz:ct P t=some 1)(_:br≠0)(h:RS N s a w A sp)(hv:Yp P (.nL mx sz br) s K)(hn:Next s w A sp N K next):o.wp P a w next Q:=by
 have h1:=(bg h hx).1
 simp only[Yp] at hv
 split at hv
 ·rename_i b off e1
  rw[e1] at h1
  generalize aT:a.eval x=v0 at h1
  cases h1
  split at hv
  ·rename_i cs hb
   obtain⟨hoff,hv⟩:=hv
   have h':=h.aK br
   have hb':(s.aK br).loc b=some (cs.map (aG br)):=by simp[St.aK,hb]
   obtain⟨vs,T,hh,hsz,hr⟩:=h'.loc b _ hb'
   rw[List.length_map] at hsz
   have hrun:=C_ (P:=P) (w:=w) hz hh (v:=.slice none 0 0) (off:=off) rfl (by omega) (by intro u hu;simp[Value.cells] at hu;rw[hu];rfl)
   refine xR (h'.setRow hb' hh (vs:=(vs.toList.take off++(Value.slice none 0 0).cells.toList++vs.toList.drop (off+1)).toArray) ?_ (fun i=> ?_)) ((Ev.aK br).trans (RS.oQ _ _ hb')) hd
    (by have xL:a.eval (.const (.slice none 0 0))=.slice none 0 0:=rfl
        simp only[execOp,hop,aT,xL,Sem.run_bind,hrun,Result.andThen_ok,Sem.run_pure]) hv hn
   ·simp[Value.cells];omega
   ·have e:=oP vs [.slice none 0 0] off i (by simp;omega)
    simp only[List.length_singleton] at e
    show RV w A (((cs.map (aG br)).set off (.slice sz [] br)).getD i .any) ((vs.toList.take off++[Value.slice none 0 0]++vs.toList.drop (off+1)).toArray.getD i undef)∧_
    have e2:=lI [.slice sz [] br] (cs.map (aG br)) off i (by simp;omega)
    simp only[splice,List.length_singleton] at e2
    simp only[Value.cells]
    rw[e2]
    show _∧bN _ _ ((vs.toList.take off++[Value.slice none 0 0]++vs.toList.drop (off+1)).toArray.getD i undef)
    rw[e]
    split
    ·have:i - off=0:=by omega
     rw[this]
     exact⟨.cS _ _,trivial⟩
    ·exact hr i
  ·exact hv.elim
 ·exact hv.elim
theorem RS.freeze(h:RS N s a w A sp){b k:Nat}{cs:List AV}(hk:s.env k=.Yq b 0)(hb:s.loc b=some cs):RS N ⟨aq s.env k (.ref (cs.map AV.erase0)),aq s.loc b none⟩ a w (fun c o=>A c o∨(c=b∧o<cs.length)) sp∧Ev w A (live s.loc sp) w (fun c o=>A c o∨(c=b∧o<cs.length)) (live (aq s.loc b none) sp):=by
 obtain⟨vs,T,hh,hsz,hr⟩:=h.loc b cs hb
 have eN:∀{c o},live (aq s.loc b none) sp c o→live s.loc sp c o:=by
  rintro c o (hl|hl)
  ·refine .inl fun hn=>hl ?_
   simp only[aq]
   split
   ·rfl
   ·exact hn
  ·exact .inr hl
 have hm:∀{x v},RV w A x v→RV w (fun c o=>A c o∨(c=b∧o<cs.length)) x v:=fun hx=>hx.mono (fun _ _ _ ha hv=>⟨hv,.inl ha⟩) (.same fun _ _ ha=>.inl ha)
 have hspare:∀o,¬spare sp b o:=by
  rintro o ⟨r,h1,h2,h3⟩
  have:=(h.bR r (by omega)).2
  rw[h1,hb] at this;cases this
 refine⟨⟨h.size,h.defers,fun d=> ?_,fun c cs' hc=> ?_,fun r hr'=> ?_,h.YJ,fun c o ha=> ?_⟩,rfl,rfl,rfl,Nat.le_refl _,fun c o _ hl=>⟨rfl,fun hl'=>hl (eN hl')⟩,fun _ _ _=>rfl,fun _ _ ha=>.inl ha,fun c o ha=> ?_⟩
 ·by_cases e:d=k
  ·subst e
   simp only[gV]
   have:=(h.env d).1
   rw[hk] at this
   generalize a.tmps.getD d undef=v at this
   cases this
   refine⟨.ref _ _ _ (fun i=>vs.getD i undef) (fun i hi=>⟨?_,.inr ⟨rfl,by simpa using hi⟩⟩) (fun i=>by rw[gF];exact hm (hr i).1.erase0),trivial⟩
   simp at hi
   simp[World.cell?,hh,Array.getD_eq_getD_getElem?,Array.getElem?_eq_getElem (show i<vs.size by omega)]
  ·simp only[bM _ _ e];exact⟨hm (h.env d).1,(h.env d).2⟩
 ·simp only[aq] at hc
  split at hc
  ·cases hc
  ·obtain⟨vs',T',g1,g2,g3⟩:=h.loc c cs' hc
   exact⟨vs',T',g1,g2,fun i=>⟨hm (g3 i).1,(g3 i).2⟩⟩
 ·obtain⟨g1,g2⟩:=h.bR r hr'
  refine⟨g1,?_⟩
  simp only[aq]
  split
  ·rfl
  ·exact g2
 ·rcases ha with ha|⟨rfl,ho⟩
  ·exact⟨(h.av c o ha).1,fun hl=>(h.av c o ha).2 (eN hl)⟩
  ·refine⟨cn hh,?_⟩
   rintro(hl|hl)
   ·exact hl (by simp[aq])
   ·exact hspare o hl
 ·rcases ha with ha|⟨rfl,ho⟩
  ·exact .inl ha
  ·exact .inr (.inl (.inl (by rw[hb];simp)))
theorem Db(l:List AV):(l.map AV.erase0).map AV.erase0=l.map AV.erase0:=by
 rw[List.map_map]
 congr 1
 funext x
 cases x<;>rfl
theorem sg:∀(ys cs:List AV),ys.length=cs.length→splice cs 0 ys=ys:=by
 intro ys cs h
 apply List.ext_getElem?
 intro i
 by_cases hi:i<ys.length
 ·have e:(splice cs 0 ys).getD i .any=ys.getD i .any:=by rw[lI _ _ _ _ (by omega),if_pos (by omega),Nat.sub_zero]
  rw[List.getD_eq_getElem?_getD,List.getD_eq_getElem?_getD,List.getElem?_eq_getElem (by rw[jZ];omega),List.getElem?_eq_getElem hi] at e
  rw[List.getElem?_eq_getElem (by rw[jZ];omega),List.getElem?_eq_getElem hi]
  simpa using e
 ·rw[List.getElem?_eq_none (by rw[jZ];omega),List.getElem?_eq_none (by omega)]
theorem LX{t:TypeId}{k:Nat}{y:Operand}{my:ai}{n:Nat}(hop:o.op=.store t (.tmp k) y)(hd:o.dst=none)(hy:aD y=some my)(hz:ct P t=some n)(hn0:0<n)(h:RS N s a w A sp)(hv:Yp P (.bJ k my n) s K)(hn:Next s w A sp N K next):o.wp P a w next Q:=by
 simp only[Yp] at hv
 split at hv
 ·rename_i b hk
  split at hv
  ·rename_i cs hb
   obtain⟨hcs,hl,j0,hv⟩:=hv
   obtain⟨y',hy'⟩:∃y',y'=my.ev s.env:=⟨_,rfl⟩
   rw[←hy'] at hl j0 hv
   let K':St→Prop:=fun s'=>s'=s.new b (y'.cells.map AV.erase0)
   have hvs:Yp P (.store (.t k) my n 0) s K':=by
    show ju s (s.env k) (my.ev s.env) n 0 K'
    rw[←hy']
    simp only[ju,hk,hb]
    refine⟨by omega,hl,j0,?_⟩
    have hsp:=sg (y'.cells.map AV.erase0) cs (by simp;omega)
    show _
    cases y'<;>simp only[or_true,if_true]<;>first
     |(show _=_;rw[hsp])
     |(show St.new s b (splice cs 0 [AV.slice _ _ 0])=St.new s b [AV.slice _ _ 0];exact congrArg (St.new s b) hsp)
   refine abl hop hd rfl hy hz hn0 h hvs fun s' a' w' A' sp' hk' hr aL=> ?_
   subst hk'
   obtain⟨f1,f2⟩:=hr.freeze (b:=b) (k:=k) (cs:=y'.cells.map AV.erase0) hk (by simp[St.new,aq])
   have e1:aq (s.new b (y'.cells.map AV.erase0)).loc b none=aq s.loc b none:=by funext c;simp only[St.new,aq];split<;>rfl
   rw[Db,e1] at f1
   rw[e1] at f2
   exact hn _ _ _ _ _ hv f1 (aL.trans f2)
  ·exact hv.elim
 ·exact hv.elim
end
end Go.az
namespace Go.az
open Go.RowKit
section
variable {P:Program} {N:Nat} {s:St} {a:Act} {w:World} {A:aJ} {sp:Sp} {K:St→Prop} {next:Act→World→Prop} {Q:Exit→Act→World→Prop} {o:Oper} {d:Nat}
theorem LY(t e ty:TypeId)(i:TypeInfo)(ht:P.underlying t=some (.slice e))(hi:P.info? e=some i)(base yb:Option Addr)(n cap c:Nat)(h:n≤cap):(Builtin.append_ #[t,t] ty #[.slice base n cap,.slice yb 0 c]).run P w=.ok (.slice base n cap) w:=by cases base<;>cases yb<;>simp[Builtin.append_,run_underlying ht,sizeOf,typeInfo,hi,Builtin.lenOf,h,Builtin.firstCells,loadCells,loadCellsFrom,storeCells]
theorem xS(t ty e:TypeId)(i:TypeInfo)(ht:P.underlying t=some (.slice e))(hi:P.info? e=some i)
  (g off sLen sCap:Nat)(cur:Array Value)(T:TypeId)(hg:w.heap[g]? =some (.cells cur T (0,0)))
  (a:Addr)(m c:Nat)(news:List Value)(hl:news.length=m*i.size)(hnews:∀j u,news[j]? =some u→w.cell? (a.add j)=some u)(h1:∀u∈news,u.oneCell'=true)
  (hroom:sLen+m≤sCap)(hfit:off+sLen*i.size+news.length≤cur.size):
  (Builtin.append_ #[t,t] ty #[.slice (some ⟨g,off,none⟩) sLen sCap,.slice (some a) m c]).run P w=.ok (.slice (some ⟨g,off,none⟩) (sLen+m) sCap) (w.setRow g (cur.toList.take (off+sLen*i.size)++news++cur.toList.drop (off+sLen*i.size+news.length)).toArray):=by
 have hf:=run_firstCells_some (P:=P) w i.size m a m c news hl hnews
 have hst:=run_storeCells_at P g (off+sLen*i.size) T news 0 cur w hg (by simpa using hfit) h1
 simp only[Nat.add_zero] at hst
 simp[Builtin.append_,run_underlying ht,sizeOf,typeInfo,hi,Builtin.lenOf,hroom,hf,Addr.gH,hst]
theorem fH(sz:Nat):∀(xs:List AV),(∀x∈xs,x.cells.length=sz)→(xs.flatMap AV.cells).length=xs.length*sz
 |[],_=>by simp
 |x::xs,h=>by
  rw[List.flatMap_cons,List.length_append,h x (by simp),fH sz xs (fun y hy=>h y (by simp[hy])),List.length_cons,Nat.add_mul];omega
theorem LZ(f:Nat→Value)(n j:Nat)(v:Value)(h:((List.range n).map f)[j]? =some v):j<n∧f j=v:=by
 simp only[List.getElem?_map,Option.map_eq_some_iff] at h
 obtain⟨k,hk,rfl⟩:=h
 rw[List.getElem?_eq_some_iff] at hk
 obtain⟨h1,h2⟩:=hk
 simp at h1 h2
 exact⟨h1,by rw[h2]⟩
theorem Dc(xs ys:List AV)(i:Nat):((xs++ys).flatMap AV.cells).getD i .any=if i<(xs.flatMap AV.cells).length then (xs.flatMap AV.cells).getD i .any else (ys.flatMap AV.cells).getD (i - (xs.flatMap AV.cells).length) .any:=by
 rw[List.flatMap_append]
 simp only[List.getD_eq_getElem?_getD]
 split
 ·rw[List.getElem?_append_left ‹_›]
 ·rw[List.getElem?_append_right (by omega)]
theorem xT(h:RS N s a w A sp){sz:Nat}{xs ys:List AV}(T:TypeId)(olds news rest:List Value)(q cap:Nat)(_:q≠0)
  (kK:∀d sz xs,s.env d≠.slice sz xs q)(gi:∀b cs,s.loc b=some cs→∀i sz xs,cs.getD i .any≠.slice sz xs q)
  (oR:∀x∈xs,x.cells.length=sz)(qB:∀x∈ys,x.cells.length=sz)(si:∀x∈xs,x.cells.all AV.bH=true)(ia:∀x∈ys,x.cells.all AV.bH=true)(L0:olds.length=xs.length*sz)(hny:news.length=ys.length*sz)
  (uP:∀i,RV w A ((xs.flatMap AV.cells).getD i .any) (olds.getD i undef))(fF:∀i,RV w A ((ys.flatMap AV.cells).getD i .any) (news.getD i undef))
  (hcap:xs.length+ys.length≤cap)(de:rest.length=(cap - (xs.length+ys.length))*sz)(hlen:xs.length+ys.length≤140737488355328):
  ∃A' sp',RS N s a (w.alloc (.cells (olds++news++rest).toArray T)) A' sp'∧Ev w A (live s.loc sp) (w.alloc (.cells (olds++news++rest).toArray T)) A' (live s.loc sp')∧
   RV (w.alloc (.cells (olds++news++rest).toArray T)) A' (.slice sz (xs++ys) q) (.slice (some ⟨w.heap.size,0,none⟩) (xs.length+ys.length) cap)∧
   bN sp' (.slice sz (xs++ys) q) (.slice (some ⟨w.heap.size,0,none⟩) (xs.length+ys.length) cap):=by
 have hmul:(xs.length+ys.length)*sz≤cap*sz:=Nat.mul_le_mul_right _ hcap
 have hk:(xs.length+ys.length)*sz=xs.length*sz+ys.length*sz:=Nat.add_mul _ _ _
 have hrl:rest.length=cap*sz - (xs.length+ys.length)*sz:=by rw[de,Nat.sub_mul]
 have hsize:((olds++news++rest).toArray).size=cap*sz:=by simp;omega
 have h1:=h.alloc (olds++news++rest).toArray T ((xs.length+ys.length)*sz) (by omega)
 have h2:=h1.uE q kK gi w.heap.size ((xs.length+ys.length)*sz) (cap*sz)
  (fun _=>⟨⟨_,T,qq _ _,by omega⟩,h.fresh⟩)
  (fun q' _ _ hlt he=>absurd (he▸h.CQ ⟨q',rfl,Nat.le_refl _,hlt⟩) (Nat.lt_irrefl _))
  (fun o ho=>by
    rcases ho with ho|ho
    ·exact absurd (h.av _ _ ho).1 (Nat.lt_irrefl _)
    ·omega)
 refine⟨_,_,h2,?_,?_,.inr (by simp[aq])⟩
 ·refine⟨rfl,rfl,rfl,by rw[Y8];omega,fun b o hb hl=>⟨mH _ _ _ _ hb,?_⟩,fun b hb _=>heap_alloc _ _ _ hb,fun _ _ ha=>.inl ha,fun b o ha=>ha.elim .inl fun e=>.inr (.inr (by omega))⟩
  rintro(hl'|⟨r,hr⟩)
  ·exact hl (.inl hl')
  ·simp only[aq] at hr
   split at hr
   ·have:=hr.1;simp only at this;omega
   ·exact hl (.inr ⟨r,hr⟩)
 ·have Dd:=fH sz xs oR
  have gj:=fH sz ys qB
  have mM:∀i,RV w A (((xs++ys).flatMap AV.cells).getD i .any) (if i<olds.length then olds.getD i undef else news.getD (i - olds.length) undef):=by
   intro i
   rw[Dc,Dd,L0]
   split
   ·exact uP i
   ·exact fF _
  have:=RV.slice (w:=w.alloc (.cells (olds++news++rest).toArray T)) (A:=fun b o=>A b o∨(b=w.heap.size∧o<(xs.length+ys.length)*sz)) sz (xs++ys) q w.heap.size 0 cap
   (fun i=>if i<olds.length then olds.getD i undef else news.getD (i - olds.length) undef)
   (fun x hx=>(List.mem_append.1 hx).elim (oR x) (qB x)) (fun x hx=>(List.mem_append.1 hx).elim (si x) (ia x)) (by simpa using hcap) (by simpa using hlen)
   (fun i hi=>⟨?_,.inr ⟨rfl,by simpa using hi⟩⟩) (fun i=>(mM i).mono (fun b o v ha hv=>⟨by rw[mH _ _ _ _ (h.av b o ha).1];exact hv,.inl ha⟩) (.blocks (fun _ _ ha=>.inl ha) fun b _ hb=>heap_alloc _ _ _ hb))
  ·rw[List.length_append] at this;exact this
  ·rw[List.length_append] at hi
   rw[Nat.zero_add,CP]
   simp only[List.getElem?_toArray,List.append_assoc,List.getD_eq_getElem?_getD]
   split
   ·rw[List.getElem?_append_left ‹_›,List.getElem?_eq_getElem ‹_›];rfl
   ·rw[List.getElem?_append_right (by omega),List.getElem?_append_left (by omega),List.getElem?_eq_getElem (by omega)];rfl
end
end Go.az
namespace Go.az
open Go.RowKit
section
variable {P:Program} {N:Nat} {s:St} {a:Act} {w:World} {A:aJ} {sp:Sp} {K:St→Prop} {next:Act→World→Prop} {Q:Exit→Act→World→Prop} {o:Oper} {d:Nat}
theorem RV.cellsOf{sz:Nat}{xs:List AV}{own b off cap len:Nat}(h:RV w A (.slice sz xs own) (.slice (some ⟨b,off,none⟩) len cap)):(∀x∈xs,x.cells.length=sz)∧(∀x∈xs,x.cells.all AV.bH=true)∧len=xs.length∧xs.length≤cap∧xs.length≤140737488355328∧∃us:List Value,us.length=xs.length*sz∧(∀j u,us[j]? =some u→w.cell? ⟨b,off+j,none⟩=some u∧A b (off+j))∧(∀i,RV w A ((xs.flatMap AV.cells).getD i .any) (us.getD i undef)):=by
 cases h with
 |slice _ _ _ _ _ _ vs hsz h1c hcap hlen hc hr=>
  refine⟨hsz,h1c,rfl,hcap,hlen,(List.range (xs.length*sz)).map vs,by simp,fun j u hj=> ?_,fun i=> ?_⟩
  ·obtain⟨h1,rfl⟩:=LZ _ _ _ _ hj
   exact hc j h1
  ·by_cases hi:i<xs.length*sz
   ·have:=hr i
    rw[List.getD_eq_getElem?_getD (l:=(List.range (xs.length*sz)).map vs),List.getElem?_map,List.getElem?_range hi]
    exact this
   ·rw[List.getD_eq_getElem?_getD,List.getElem?_eq_none (by rw[fH sz xs hsz];omega)]
    exact .any _
theorem RV.abA{sz:Nat}{xs:List AV}{own b off cap:Nat}(us:List Value)(hsz:∀x∈xs,x.cells.length=sz)(h1c:∀x∈xs,x.cells.all AV.bH=true)(hcap:xs.length≤cap)(hlen:xs.length≤140737488355328)
  (hu:us.length=xs.length*sz)(hc:∀j u,us[j]? =some u→w.cell? ⟨b,off+j,none⟩=some u∧A b (off+j))(hr:∀i,RV w A ((xs.flatMap AV.cells).getD i .any) (us.getD i undef)):
  RV w A (.slice sz xs own) (.slice (some ⟨b,off,none⟩) xs.length cap):=by
 refine .slice _ _ _ _ _ _ (fun i=>us.getD i undef) hsz h1c hcap hlen (fun i hi=> ?_) hr
 rw[List.getD_eq_getElem?_getD,List.getElem?_eq_getElem (by omega)]
 exact hc i _ (by rw[List.getElem?_eq_getElem (by omega)];rfl)
theorem RV.xU{sz sz':Nat}{xs:List AV}{own:Nat}{v:Value}(h:RV w A (.slice sz xs own) v)(hs:sz=sz'∨xs=[]):RV w A (.slice sz' xs own) v:=by
 rcases hs with rfl|rfl
 ·exact h
 ·cases h with
  |cS=>exact .cS _ _
  |slice _ _ _ b off cap vs hsz h1c hcap hlen hc hr=>
   exact .slice _ _ _ _ _ _ vs (by simp) (by simp) hcap hlen (fun i hi=>by simp at hi) hr
theorem abB(xs:List AV)(h:∀x∈xs,x.cells.all AV.bH=true):∀c∈xs.flatMap AV.cells,c.bH=true:=by
 intro c hc
 obtain⟨x,hx,si⟩:=List.mem_flatMap.1 hc
 exact(List.all_eq_true.1 (h x hx)) c si
theorem L4(h:RS N s a w A sp){sz:Nat}{xs ys:List AV}{g off cap:Nat}{r:Nat}(q:Nat)(hq:q≠0)
  (hx:RV w A (.slice sz xs r) (.slice (some ⟨g,off,none⟩) xs.length cap))(kL:sp r=(g,off+xs.length*sz,off+cap*sz))
  (news:List Value)(qB:∀x∈ys,x.cells.length=sz)(ia:∀x∈ys,x.cells.all AV.bH=true)(hny:news.length=ys.length*sz)(hne:0<ys.length*sz)
  (fF:∀i,RV w A ((ys.flatMap AV.cells).getD i .any) (news.getD i undef))
  (hcap:xs.length+ys.length≤cap)(hlen:xs.length+ys.length≤140737488355328):
  ∃cur T A' sp',w.heap[g]? =some (.cells cur T (0,0))∧off+xs.length*sz+news.length≤cur.size∧
   (∀w',w'=w.setRow g (cur.toList.take (off+xs.length*sz)++news++cur.toList.drop (off+xs.length*sz+news.length)).toArray→
   RS N ((s.aK r).aK q) a w' A' sp'∧Ev w A (live s.loc sp) w' A' (live ((s.aK r).aK q).loc sp')∧
   RV w' A' (.slice sz (xs++ys) q) (.slice (some ⟨g,off,none⟩) (xs.length+ys.length) cap)∧
   bN sp' (.slice sz (xs++ys) q) (.slice (some ⟨g,off,none⟩) (xs.length+ys.length) cap)):=by
 have hmul:(xs.length+ys.length)*sz≤cap*sz:=Nat.mul_le_mul_right _ hcap
 have hk:(xs.length+ys.length)*sz=xs.length*sz+ys.length*sz:=Nat.add_mul _ _ _
 have hlt:(sp r).2.1<(sp r).2.2:=by rw[kL];dsimp only;omega
 obtain⟨⟨cur,T,hg,hcs⟩,sj⟩:=h.bR r hlt
 rw[kL] at hg hcs sj
 dsimp only at hg hcs sj
 have hfit:off+xs.length*sz+news.length≤cur.size:=by omega
 refine⟨cur,T,fun b o=>A b o∨(b=g∧off+xs.length*sz≤o∧o<off+(xs.length+ys.length)*sz),aq (aq (aq sp r (0,0,0)) q (0,0,0)) q (g,off+(xs.length+ys.length)*sz,off+cap*sz),hg,hfit,fun w' lJ=> ?_⟩
 have hcell:∀o,¬(off+xs.length*sz≤o∧o<off+(xs.length+ys.length)*sz)→w'.cell? ⟨g,o,none⟩=w.cell? ⟨g,o,none⟩:=by
  intro o ho
  rw[lJ,cell_setRow_same w g o cur _ T (0,0) hg]
  have e:=oP cur news (off+xs.length*sz) o hfit
  rw[if_neg (by omega)] at e
  simp only[Array.getD_eq_getD_getElem?] at e
  simp only[World.cell?,hg]
  by_cases kM:o<cur.size
  ·rw[Array.getElem?_eq_getElem (by simp;omega),Array.getElem?_eq_getElem kM] at e
   simp only[Option.getD_some] at e
   rw[Array.getElem?_eq_getElem (by simp;omega),Array.getElem?_eq_getElem kM,e];rfl
  ·rw[Array.getElem?_eq_none (by simp;omega),Array.getElem?_eq_none (by omega)];rfl
 have hnew:∀j u,news[j]? =some u→w'.cell? ⟨g,off+xs.length*sz+j,none⟩=some u:=by
  intro j u hj
  have hj':=(List.getElem?_eq_some_iff.1 hj).1
  rw[lJ,cell_setRow_same w g _ cur _ T (0,0) hg]
  simp only[List.getElem?_toArray]
  rw[List.append_assoc,List.getElem?_append_right (by simp;omega),List.getElem?_append_left (by simp;omega)]
  have:min (off+xs.length*sz) cur.size=off+xs.length*sz:=by omega
  simp only[List.length_take,Array.length_toList,this,Nat.add_sub_cancel_left]
  exact hj
 have hA:∀o,A g o→¬(off+xs.length*sz≤o∧o<off+cap*sz):=fun o ho hh=>(h.av g o ho).2 (.inr ⟨r,by rw[kL];exact⟨rfl,hh⟩⟩)
 have xV:∀b o v,A b o→w.cell? ⟨b,o,none⟩=some v→w'.cell? ⟨b,o,none⟩=some v:=by
  intro b o v ha hv
  by_cases e:b=g
  ·subst e
   have:=hA o ha
   rw[hcell o (by omega)];exact hv
  ·rw[lJ,cell_setRow_other _ _ _ _ _ e];exact hv
 have uQ:∀b,b≠g→w'.heap[b]? =w.heap[b]? :=fun b hb=>by rw[lJ,aaD _ _ _ _ hb]
 have hsame:w'.heap[g]? =some (.cells (cur.toList.take (off+xs.length*sz)++news++cur.toList.drop (off+xs.length*sz+news.length)).toArray T (0,0)):=by rw[lJ];exact setRow_heap _ _ _ _ _ _ hg
 have hsize':((cur.toList.take (off+xs.length*sz)++news++cur.toList.drop (off+xs.length*sz+news.length)).toArray).size=cur.size:=by simp only[List.size_toArray,List.length_append,List.length_take,List.length_drop,Array.length_toList];omega
 have Y1:w'.heap.size=w.heap.size:=by rw[lJ,size_setRow]
 have iP:gU w w' A (fun b o=>A b o∨(b=g∧off+xs.length*sz≤o∧o<off+(xs.length+ys.length)*sz)):=.blocks (fun _ _ ha=>.inl ha) fun b ha _=>by
  by_cases e:b=g
  ·subst e
   exact absurd ⟨Nat.le_refl (off+xs.length*sz),by omega⟩ (hA _ (ha _))
  ·exact uQ b e
 have h2:=(h.aK r).aK q
 have kK:∀k,k≠q→k≠r→aq (aq sp r (0,0,0)) q (0,0,0) k=sp k:=fun k e1 e2=>by simp[aq,e1,e2]
 have De:∀k,(aq (aq sp r (0,0,0)) q (0,0,0) k).2.1<(aq (aq sp r (0,0,0)) q (0,0,0) k).2.2→k≠q∧k≠r:=by
  intro k hk
  refine⟨fun e=> ?_,fun e=> ?_⟩
  ·subst e;simp[aq] at hk
  ·subst e;simp only[aq] at hk;split at hk<;>simp at hk
 have h3:=h2.world (w':=w') (A':=fun b o=>A b o∨(b=g∧off+xs.length*sz≤o∧o<off+(xs.length+ys.length)*sz)) xV (fun b o ha=>.inl ha) iP
  (fun b cs hb=>uQ b (fun e=>by subst e;simp[St.aK,sj] at hb)) (fun k hk=>by
    obtain⟨⟨vs,T',g1,g2⟩,_⟩:=h2.bR k hk
    by_cases e:(aq (aq sp r (0,0,0)) q (0,0,0) k).1=g
    ·rw[e] at g1⊢
     rw[hg] at g1;injection g1 with g1;injection g1 with g1 _ _;subst g1
     exact⟨_,T,hsame,by omega⟩
    ·exact⟨vs,T',(uQ _ e).trans g1,g2⟩) (fun b o ha=>by
    rcases ha with ha|⟨rfl,h4,h5⟩
    ·exact⟨by rw[Y1];exact(h2.av b o ha).1,(h2.av b o ha).2⟩
    ·refine⟨by rw[Y1];exact cn hg,?_⟩
     rintro(hl|⟨k,aF,hk2,jy⟩)
     ·exact hl (by simp[St.aK,sj])
     ·obtain⟨e1,e2⟩:=De k (by omega)
      rw[kK k e1 e2] at aF hk2 jy
      have:=h.YJ k r e2 (by omega) hlt (by rw[aF,kL])
      rw[kL] at this;dsimp only at this;omega)
 have h4:=h3.uE q (qt _ _ hq) (qu _ _ hq) g (off+(xs.length+ys.length)*sz) (off+cap*sz)
  (fun _=>⟨⟨_,T,hsame,by omega⟩,by simp[St.aK,sj]⟩)
  (fun k Xj hlt' hk he=>by
    obtain⟨e1,e2⟩:=De k hk
    rw[kK k e1 e2] at hk he⊢
    have:=h.YJ k r e2 hk hlt (by rw[he,kL])
    rw[kL] at this;dsimp only at this;omega)
  (fun o ho=>by
    rcases ho with ho|ho
    ·have:=hA o ho;omega
    ·omega)
 refine⟨h4,?_,?_,.inr (by simp[aq])⟩
 ·refine⟨by rw[lJ];rfl,by rw[lJ];rfl,by rw[lJ];rfl,by rw[Y1];exact Nat.le_refl _,fun b o hb hl=>⟨?_,fun hl'=>hl ?_⟩,fun b hb hl=> ?_,fun _ _ ha=>.inl ha,fun b o ha=> ?_⟩
  ·by_cases e:b=g
   ·subst e
    refine hcell o (fun hh=>hl (.inr ⟨r,by rw[kL];dsimp only;omega⟩))
   ·rw[lJ,cell_setRow_other _ _ _ _ _ e]
  ·rcases hl' with hl'|⟨k,hk⟩
   ·exact .inl (by intro hn;exact hl' (by simp[St.aK,hn]))
   ·by_cases e:k=q
    ·subst e;simp only[aq,if_true] at hk
     exact .inr ⟨r,by rw[kL];dsimp only;omega⟩
    ·simp only[aq,e,if_false] at hk
     split at hk
     ·dsimp only at hk;omega
     ·exact .inr ⟨k,hk⟩
  ·by_cases e:b=g
   ·subst e;exact absurd (.inr ⟨r,by rw[kL];dsimp only;exact⟨rfl,Nat.le_refl _,by omega⟩⟩) (hl (off+xs.length*sz))
   ·exact uQ b e
  ·rcases ha with ha|⟨rfl,h5,h6⟩
   ·exact .inl ha
   ·exact .inr (.inl (.inr ⟨r,by rw[kL];dsimp only;omega⟩))
 ·obtain⟨oR,si,_,_,_,us,Y_,L5,uR⟩:=hx.cellsOf
  have hm:∀{x v},RV w A x v→RV w' (fun b o=>A b o∨(b=g∧off+xs.length*sz≤o∧o<off+(xs.length+ys.length)*sz)) x v:=fun hx=>hx.mono (fun b o v ha hv=>⟨xV b o v ha hv,.inl ha⟩) iP
  have:=RV.abA (w:=w') (A:=fun b o=>A b o∨(b=g∧off+xs.length*sz≤o∧o<off+(xs.length+ys.length)*sz)) (sz:=sz) (xs:=xs++ys) (own:=q) (b:=g) (off:=off) (cap:=cap) (us++news) (fun x hx=>(List.mem_append.1 hx).elim (oR x) (qB x)) (fun x hx=>(List.mem_append.1 hx).elim (si x) (ia x)) (by simpa using hcap) (by simpa using hlen) (by simp;omega) (fun j u hj=> ?_) (fun i=> ?_)
  ·rw[List.length_append] at this;exact this
  ·by_cases hjl:j<us.length
   ·rw[List.getElem?_append_left hjl] at hj
    have:=L5 j u hj
    exact⟨xV _ _ _ this.2 this.1,.inl this.2⟩
   ·rw[List.getElem?_append_right (by omega)] at hj
    have hj':=(List.getElem?_eq_some_iff.1 hj).1
    have:=hnew _ u hj
    rw[Y_] at this
    have e:off+xs.length*sz+(j - xs.length*sz)=off+j:=by omega
    rw[e] at this
    exact⟨this,.inr ⟨rfl,by omega,by omega⟩⟩
  ·rw[Dc,fH sz xs oR]
   split
   ·have:=hm (uR i)
    rw[List.getD_eq_getElem?_getD (l:=us++news),List.getElem?_append_left (by omega)]
    rw[List.getD_eq_getElem?_getD (l:=us)] at this
    exact this
   ·have:=hm (fF (i - xs.length*sz))
    rw[List.getD_eq_getElem?_getD (l:=us++news),List.getElem?_append_right (by omega),Y_]
    rw[List.getD_eq_getElem?_getD (l:=news)] at this
    exact this
theorem RV.drew{x:AV}{v:Value}(h:RV w A x v):RV w.drew A x v:=RV.mono (w:=w) (w':=w.drew) (A:=A) (A':=A) (fun _ _ _ ha hv=>⟨hv,ha⟩) (fun _ _ ha hb=>⟨hb,ha⟩) h
theorem RV.xW{ys:List AV}(ia:∀x∈ys,x.cells.all AV.bH=true){news:List Value}(hl:news.length=(ys.flatMap AV.cells).length)(fF:∀i,RV w A ((ys.flatMap AV.cells).getD i .any) (news.getD i undef)):∀u∈news,u.oneCell'=true:=by
 intro u hu
 obtain⟨i,hi,rfl⟩:=List.getElem_of_mem hu
 have h1:=fF i
 rw[List.getD_eq_getElem?_getD,List.getD_eq_getElem?_getD,List.getElem?_eq_getElem (by omega),List.getElem?_eq_getElem hi] at h1
 exact h1.uN (abB ys ia _ (by simp))
theorem L6{t e:TypeId}{i:TypeInfo}{z:Value}{x y:Operand}{mx my:ai}(hop:o.op=.call {callee:=.builtin .append,args:= #[x,y],argTypes:= #[t,t]})(hd:o.dst=some d)(hN:d<N)
  (hx:aD x=some mx)(hy:aD y=some my)(ht:P.underlying t=some (.slice e))(hi:P.info? e=some i)(hz:i.zero=some z)(hzs:z.cells.size=i.size)(hs0:0<i.size)
  (h:RS N s a w A sp)(hv:Yp P (.app d mx my i.size i.bytes) s K)(hn:Next s w A sp N K next):o.wp P a w next Q:=by
 have h1:=bg h hx
 have h2:=(bg h hy).1
 have hex:∀v w',(Builtin.append_ #[t,t] o.type #[a.eval x,a.eval y]).run P w=.ok v w'→(execOp a.eval o).run P w=.ok (.value v) w':=by
  intro v w' hr
  simp[execOp,hop,resolve,invoke,builtin,hr]
 simp only[Yp] at hv
 split at hv
 ·rename_i jX xs r qp ys r2 e1 e2
  obtain⟨dO,oR,qB,hbytes,hlen,hK⟩:=hv
  rw[e1] at h1;rw[e2] at h2
  subst oR
  have hY:=h2.xU qB
  have hq:d+1≠0:=by omega
  have dw:Ev w A (live s.loc sp) w A (live ((s.aK r).aK (d+1)).loc (aq (aq sp r (0,0,0)) (d+1) (0,0,0))):=(Ev.aK r).trans (Ev.aK (d+1))
  have hR:=(h.aK r).aK (d+1)
  have xX:∀n:Nat,n≤140737488355328→n≤maxLen:=by unfold maxLen;omega
  have hzero:∀base yb n cap c,a.eval x=.slice base n cap→a.eval y=.slice yb 0 c→n≤cap→ys=[]→o.wp P a w next Q:=by
   intro base yb n cap c ex ey hnc hys
   subst hys
   rw[List.append_nil] at hK
   refine fin' (h.rename r (d+1) hq) (.same fun b o=>xP r (d+1)) hd hN (hex _ _ (by rw[ex,ey];exact LY t e o.type i ht hi base yb n cap c hnc)) (x:=.slice i.size xs (d+1)) ?_ ?_ hK hn
   ·rw[←ex];exact h1.1.own
   ·rcases qy dO h1.2 h1.1 with e3|⟨b,off,cap',e3,_,e4⟩
    ·rw[ex] at e3;injection e3 with e3 e5 e6;subst e3;trivial
    ·rw[ex] at e3;injection e3 with e3 e5 e6;subst e3;subst e5;subst e6
     exact .inr (by simp[aq,e4])
  generalize qC:a.eval y=vy at hY hzero
  cases hY with
  |cS=>
   rcases qy dO h1.2 h1.1 with e3|⟨b,off,cap,e3,hc,_⟩
   ·exact hzero _ _ _ _ _ e3 rfl (Nat.le_refl _) rfl
   ·exact hzero _ _ _ _ _ e3 rfl hc rfl
  |slice _ _ _ b' off' cap' vs' gI Zp mN mO ia fF=>
   have sk:=(RV.slice (w:=w) (A:=A) i.size ys r2 b' off' cap' vs' gI Zp mN mO ia fF).cellsOf
   obtain⟨_,_,_,_,_,news,YF,hnc,Za⟩:=sk
   by_cases hys:ys=[]
   ·subst hys
    rcases qy dO h1.2 h1.1 with e3|⟨b,off,cap,e3,hc,_⟩
    ·exact hzero _ _ _ _ _ e3 rfl (Nat.le_refl _) rfl
    ·exact hzero _ _ _ _ _ e3 rfl hc rfl
   ·have gj:0<ys.length:=List.length_pos_iff.2 hys
    have hne:0<ys.length*i.size:=Nat.mul_pos gj hs0
    have hone:=RV.xW Zp (by rw[YF,fH i.size ys gI]) Za
    have hnews:∀j u,news[j]? =some u→w.cell? ((⟨b',off',none⟩:Addr).add j)=some u:=fun j u hj=>by rw[Addr.gH];exact(hnc j u hj).1
    rcases qy dO h1.2 h1.1 with e3|⟨b,off,cap,e3,hc,hsp⟩
    ·
     have hxs:xs=[]:=by have:=h1.1;rw[e3] at this;cases this;rfl
     subst hxs
     have hrun:=run_append_nil (P:=P) w t o.type e i z ht hi hz ⟨b',off',none⟩ ys.length cap' news YF hnews gj (by simp at hlen;omega) (by simp at hbytes;omega)
     obtain⟨A',sp',g1,g2,g3,g4⟩:=xT hR.drew (xs:=[]) (ys:=ys) (sz:=i.size) e [] news (Builtin.zeroCells z.cells (grownCap w ys.length 0 e - ys.length)).toList (d+1) (grownCap w ys.length 0 e) hq (qt _ _ hq) (qu _ _ hq) (by simp) gI (by simp) Zp (by simp) YF (by simp;exact .any _) (fun k=>(Za k).drew) (by simp;exact grownCap_ge w _ _ _) (by simp[Builtin.zeroCells,hzs]) (by simpa using hlen)
     simp only[List.length_nil,Nat.zero_add,List.nil_append] at g1 g2 g3 g4 hK
     refine fin' g1 ((dw.trans (Ev.drew _)).trans g2) hd hN (hex _ _ ?_) g3 g4 hK hn
     rw[e3,qC,hrun]
     congr 2
     rw[←Array.toList_inj.1 (show(news++(Builtin.zeroCells z.cells (grownCap w ys.length 0 e - ys.length)).toList).toArray.toList=(news.toArray++Builtin.zeroCells z.cells (grownCap w ys.length 0 e - ys.length)).toList by simp)]
    ·by_cases hroom:xs.length+ys.length≤cap
     ·
      have hX:=h1.1
      rw[e3] at hX
      obtain⟨cur,T,A',sp',g1,g2,g3⟩:=L4 h (d+1) hq hX hsp news gI Zp YF hne Za hroom hlen
      have hrun:=xS (P:=P) (w:=w) t o.type e i ht hi b off xs.length cap cur T g1 ⟨b',off',none⟩ ys.length cap' news YF hnews hone hroom g2
      obtain⟨g4,g5,g6,g7⟩:=g3 _ rfl
      exact fin' g4 g5 hd hN (hex _ _ (by rw[e3,qC];exact hrun)) g6 g7 hK hn
     ·
      have hX:=h1.1
      rw[e3] at hX
      obtain⟨L7,L8,_,_,_,olds,eC,L9,fS⟩:=hX.cellsOf
      have holds:∀j u,olds[j]? =some u→w.cell? ((⟨b,off,none⟩:Addr).add j)=some u:=fun j u hj=>by rw[Addr.gH];exact(L9 j u hj).1
      have hrun:=run_append_grow (P:=P) w t o.type e i z ht hi hz ⟨b,off,none⟩ xs.length cap olds eC holds ⟨b',off',none⟩ ys.length cap' news YF hnews (by omega) (by omega) (growslice_fits (by omega) hbytes)
      obtain⟨A',sp',g1,g2,g3,g4⟩:=xT hR.drew (xs:=xs) (ys:=ys) (sz:=i.size) e olds news (Builtin.zeroCells z.cells (grownCap w (xs.length+ys.length) cap e - (xs.length+ys.length))).toList (d+1) (grownCap w (xs.length+ys.length) cap e) hq (qt _ _ hq) (qu _ _ hq) L7 gI L8 Zp eC YF (fun k=>(fS k).drew) (fun k=>(Za k).drew) (grownCap_ge w _ _ _) (by simp[Builtin.zeroCells,hzs]) hlen
      refine fin' g1 ((dw.trans (Ev.drew _)).trans g2) hd hN (hex _ _ ?_) g3 g4 hK hn
      rw[e3,qC,hrun]
      congr 2
      rw[←Array.toList_inj.1 (show(olds++news++(Builtin.zeroCells z.cells (grownCap w (xs.length+ys.length) cap e - (xs.length+ys.length))).toList).toArray.toList=(olds.toArray++news.toArray++Builtin.zeroCells z.cells (grownCap w (xs.length+ys.length) cap e - (xs.length+ys.length))).toList by simp)]
 ·exact hv.elim
end
end Go.az
namespace Go.az
open Go.RowKit
section
variable {P:Program} {N:Nat} {s:St} {a:Act} {w:World} {A:aJ} {sp:Sp} {K:St→Prop} {next:Act→World→Prop} {Q:Exit→Act→World→Prop} {o:Oper} {d:Nat}
theorem L_(us:List Value):∀(k off:Nat) (cs:Array Value),(us.zipIdx k).foldl (fun(cs:Array Value) (p:Value×Nat)=>cs.setIfInBounds (off+p.2) p.1) cs=(us.zipIdx 0).foldl (fun(cs:Array Value) (p:Value×Nat)=>cs.setIfInBounds (off+k+p.2) p.1) cs:=by
 induction us with
 |nil=>intro k off cs;rfl
 |cons u us ih=>
  intro k off cs
  simp only[List.zipIdx_cons,List.foldl_cons]
  rw[ih (k+1) off,ih 1 (off+k)]
  simp only[Nat.add_zero,Nat.add_assoc]
theorem Df:∀(us:List Value) (off:Nat) (cs:Array Value),off+us.length≤cs.size→
  ((us.zipIdx 0).foldl (fun(cs:Array Value) (p:Value×Nat)=>cs.setIfInBounds (off+p.2) p.1) cs).size=cs.size∧
  ∀i,((us.zipIdx 0).foldl (fun(cs:Array Value) (p:Value×Nat)=>cs.setIfInBounds (off+p.2) p.1) cs).getD i undef=if off≤i∧i<off+us.length then us.getD (i - off) undef else cs.getD i undef
 |[],off,cs,_=>⟨rfl,fun i=>by simp;intro h1 h2;omega⟩
 |u::us,off,cs,h=>by
  simp only[List.length_cons] at h
  simp only[List.zipIdx_cons,List.foldl_cons,Nat.zero_add,Nat.add_zero]
  rw[L_ us 1 off]
  obtain⟨h1,h2⟩:=Df us (off+1) (cs.setIfInBounds off u) (by simp;omega)
  refine⟨by rw[h1];simp,fun i=> ?_⟩
  rw[h2]
  by_cases e:off+1≤i∧i<off+1+us.length
  ·rw[if_pos e,if_pos (by simp;omega)]
   have:i - off=(i - (off+1))+1:=by omega
   rw[this];simp
  ·rw[if_neg e]
   by_cases e2:i=off
   ·subst e2
    rw[if_pos (by simp)]
    simp only[Nat.sub_self,List.getD_eq_getElem?_getD,List.getElem?_cons_zero,Array.getD_eq_getD_getElem?]
    rw[Array.getElem?_setIfInBounds_self_of_lt (by omega)]
   ·rw[if_neg (by simp;omega)]
    simp only[Array.getD_eq_getD_getElem?]
    rw[Array.getElem?_setIfInBounds_ne (by omega)]
def Dg(x:Operand)(m:ai):Prop:=∀(N:Nat) (s:St) (a:Act) (w:World) (A:aJ) (sp:Sp),RS N s a w A sp→RV w A (m.ev s.env) (a.eval x)
theorem xY{P:Program}{t:TypeId}{x:Operand}{m:ai}(h:lG P t x=some m):Dg x m:=fun _ _ _ _ _ _ hs=>(xK hs h).1
def sn(place:Nat→Option (Nat×Nat)):List (Nat×Operand)→List (Nat×Nat×ai)→Prop
 |[],[]=>True
 |(i,x)::ps,(off,n,m)::qs=>Dg x m∧place i=some (off,n)∧0<n∧sn place ps qs
 |_,_=>False
theorem uS(h:RS N s a w A sp)(place:Nat→Option (Nat×Nat)):∀(ps:List (Nat×Operand)) (qs:List (Nat×Nat×ai)) (cs:List AV) (vs:Array Value) (k:List AV→Prop),
  sn place ps qs→vs.size=cs.length→(∀i,RV w A (cs.getD i .any) (vs.getD i undef))→lF s.env cs qs k→
  ∃cs' vs',Instr.fill place vs (ps.map fun p=>(p.1,a.eval p.2))=some vs'∧vs'.size=cs'.length∧(∀i,RV w A (cs'.getD i .any) (vs'.getD i undef))∧k cs'
 |[],[],cs,vs,k,_,hs,hr,hk=>⟨cs,vs,rfl,hs,hr,hk⟩
 |(i,x)::ps,(off,n,m)::qs,cs,vs,k,hp,hs,hr,hk=>by
  obtain⟨hx,uT,hn0,hp⟩:=hp
  obtain⟨hl,hoff,hk⟩:=hk
  have h1:=hx _ _ _ _ _ _ h
  obtain⟨c1,c2⟩:=h1.uM (by intro e;rw[e] at hl;simp at hl;omega)
  obtain⟨f1,f2⟩:=Df (a.eval x).cells.toList off vs (by simp;omega)
  have Ma:(a.eval x).cells.zipIdx.foldl (fun cs (c,j)=>cs.setIfInBounds (off+j) c) vs=((a.eval x).cells.toList.zipIdx 0).foldl (fun(cs:Array Value) (p:Value×Nat)=>cs.setIfInBounds (off+p.2) p.1) vs:=by rw[←Array.foldl_toList];simp
  obtain⟨cs',vs',g1,g2,g3,g4⟩:=uS h place ps qs (splice cs off ((m.ev s.env).cells.map AV.erase0)) _ k hp (by rw[f1,jZ];exact hs) (fun j=>by
   rw[f2,lI _ _ _ _ (by simp;omega)]
   simp only[List.length_map,Array.length_toList,c1]
   split
   ·rw[gF]
    have:=(c2 (j - off)).erase0
    simpa[List.getD_eq_getElem?_getD,Array.getD_eq_getD_getElem?] using this
   ·exact hr j) hk
  refine⟨cs',vs',?_,g2,g3,g4⟩
  rw[List.map_cons,Instr.fill]
  simp only[uT]
  rw[if_neg (by simp;omega),Ma]
  exact g1
 |[],_::_,_,_,_,hp,_,_,_=>hp.elim
 |_::_,[],_,_,_,hp,_,_,_=>hp.elim
theorem Dh{P:Program}{w:World}:∀(fs:List Field),(∀f∈fs,∃i,P.info? f.type=some i)→(fs.mapM fun f=>(do pure (f.offset,←sizeOf f.type):Sem (Nat×Nat))).run P w=.ok (fs.map fun f=>(f.offset,P.cellsOf f.type)) w
 |[],_=>rfl
 |f::fs,h=>by
  obtain⟨i,hi⟩:=h f (by simp)
  have ih:=Dh (w:=w) fs (fun g hg=>h g (by simp[hg]))
  simp only[List.mapM_cons,Sem.run_bind,sizeOf,typeInfo,run_program,Result.andThen_ok,hi,Sem.run_pure,List.map_cons,Program.cellsOf,Option.map_some,Option.getD_some] at ih⊢
  rw[ih]
  rfl
theorem Di{fs:Array Field}(place:Nat→Option (Nat×Nat))(uT:∀i f n,fs[i]? =some f→ct P f.type=some n→place i=some (f.offset,n)):∀(ps:List (Nat×Operand)) (qs:List (Nat×Nat×ai)),aaF P fs ps=some qs→sn place ps qs
 |[],qs,h=>by injection h with h;subst h;trivial
 |(i,x)::ps,qs,h=>by
  simp only[aaF] at h
  split at h
  ·rename_i f ys h1 h3
   split at h
   ·rename_i n y hn h2
    split at h
    ·injection h with h;subst h
     exact⟨xY h2,uT i f n h1 hn,by omega,Di place uT ps ys h3⟩
    ·cases h
   ·cases h
  ·cases h
theorem Dj{e:TypeId}{sz:Nat}(h0:0<sz):∀(ps:List (Nat×Operand)) (qs:List (Nat×Nat×ai)),aaG P e sz ps=some qs→sn (fun i=>some (i*sz,sz)) ps qs
 |[],qs,h=>by injection h with h;subst h;trivial
 |(i,x)::ps,qs,h=>by
  simp only[aaG] at h
  split at h
  ·rename_i y ys h1 h2
   injection h with h;subst h
   exact⟨xY h1,rfl,h0,Dj h0 ps ys h2⟩
  ·cases h
theorem Mb{t:TypeId}{ps:Array (Nat×Operand)}{qs:List (Nat×Nat×ai)}{z:List AV}{fs:Array Field}(hop:o.op=.build t ps)(hd:o.dst=some d)(hN:d<N)
  (hz:jx P t z=true)(ht:P.underlying t=some (.struct fs))(Zr:∀f∈fs.toList,∃i,P.info? f.type=some i)(hq:aaF P fs ps.toList=some qs)
  (h:RS N s a w A sp)(hv:Yp P (.build d z qs) s K)(hn:Next s w A sp N K next):o.wp P a w next Q:=by
 obtain⟨i,v,hi,hz,hs,_,hr,hc⟩:=qz (w:=w) (A:=A) hz
 have hm:=Dh (P:=P) (w:=w) fs.toList Zr
 have hok:=Di (P:=P) (fs:=fs) (fun i=>(fs.map fun f=>(f.offset,P.cellsOf f.type))[i]?) (fun i f n h1 h2=>by
  simp only[ct,Option.map_eq_some_iff] at h2
  obtain⟨j,hj,rfl⟩:=h2
  simp[h1,Program.cellsOf,hj]) ps.toList qs hq
 obtain⟨cs',vs',g1,g2,g3,g4⟩:=uS h _ ps.toList qs z v.cells _ hok hs hr hv
 refine fin (v:=.agg vs') h hd hN ?_ (.agg _ _ g2 g3) trivial g4 hn
 have Mc:(fs.mapM fun f=>(do pure (f.offset,←sizeOf f.type):Sem (Nat×Nat))).run P w=.ok (fs.map fun f=>(f.offset,P.cellsOf f.type)) w:=by
  rw[Array.mapM_eq_mapM_toList,Sem.run_map,hm]
  simp only[Result.andThen_ok]
  congr 1
  exact Array.ext' (by simp)
 have nX:(ps.map fun x=>(x.1,a.eval x.2)).toList=ps.toList.map fun p=>(p.1,a.eval p.2):=by simp
 simp only[execOp,hop,Instr.build,zeroValue,typeInfo,Sem.run_bind,run_program,Result.andThen_ok,hi,Sem.run_pure,hz,run_underlying ht,Mc,nX,g1]
theorem Md{t e:TypeId}{len sz:Nat}{ps:Array (Nat×Operand)}{qs:List (Nat×Nat×ai)}{z:List AV}(hop:o.op=.build t ps)(hd:o.dst=some d)(hN:d<N)
  (hz:jx P t z=true)(ht:P.underlying t=some (.array len e))(hsz:ct P e=some sz)(h0:0<sz)(hq:aaG P e sz ps.toList=some qs)
  (h:RS N s a w A sp)(hv:Yp P (.build d z qs) s K)(hn:Next s w A sp N K next):o.wp P a w next Q:=by
 obtain⟨i,v,hi,hz,hs,_,hr,hc⟩:=qz (w:=w) (A:=A) hz
 simp only[ct,Option.map_eq_some_iff] at hsz
 obtain⟨inf,dN,rfl⟩:=hsz
 obtain⟨cs',vs',g1,g2,g3,g4⟩:=uS h _ ps.toList qs z v.cells _ (Dj h0 _ _ hq) hs hr hv
 refine fin (v:=.agg vs') h hd hN ?_ (.agg _ _ g2 g3) trivial g4 hn
 have nX:(ps.map fun x=>(x.1,a.eval x.2)).toList=ps.toList.map fun p=>(p.1,a.eval p.2):=by simp
 simp only[execOp,hop,Instr.build,zeroValue,sizeOf,typeInfo,Sem.run_bind,run_program,Result.andThen_ok,hi,dN,Sem.run_pure,hz,run_underlying ht,nX,g1]
end
end Go.az
namespace Go.az
open Go.RowKit
section
variable {P:Program} {N:Nat} {s:St} {a:Act} {w:World} {A:aJ} {sp:Sp} {K:St→Prop} {next:Act→World→Prop} {Q:Exit→Act→World→Prop} {o:Oper} {d:Nat}
theorem Me(sz:Nat)(xs:List AV)(i:Nat)(y:AV)(h:∀x∈xs,x.cells.length=sz)(hy:y.cells.length=sz)(hi:i<xs.length):(xs.set i y).flatMap AV.cells=splice (xs.flatMap AV.cells) (i*sz) y.cells:=by
 have cL:∀x∈xs.set i y,x.cells.length=sz:=by
  intro x hx
  rcases List.mem_or_eq_of_mem_set hx with hx|rfl
  ·exact h x hx
  ·exact hy
 have hmul:(i+1)*sz≤xs.length*sz:=Nat.mul_le_mul_right _ hi
 rw[Nat.add_mul,Nat.one_mul] at hmul
 have fG:=fH sz xs h
 have mP:=fH sz _ cL
 rw[List.length_set] at mP
 apply List.ext_getElem?
 intro j
 by_cases hj:j<xs.length*sz
 ·have key:((xs.set i y).flatMap AV.cells).getD j .any=(splice (xs.flatMap AV.cells) (i*sz) y.cells).getD j .any:=by
   rw[lI _ _ _ _ (by omega),hy]
   have Dk:0<sz:=by
    rcases Nat.eq_zero_or_pos sz with e|e
    ·subst e;simp at hj
    ·exact e
   have ej:j=j / sz*sz+j%sz:=by rw[Nat.mul_comm];exact(Nat.div_add_mod j sz).symm
   have hq:j / sz<xs.length:=Nat.div_lt_of_lt_mul (by rw[Nat.mul_comm];exact hj)
   have hm:=Nat.mod_lt j Dk
   have e1:=aaJ AV.cells sz (xs.set i y) (j / sz) cL (by simpa using hq) (j%sz) .any .any hm
   have e2:=aaJ AV.cells sz xs (j / sz) h hq (j%sz) .any .any hm
   rw[←ej] at e1 e2
   rw[e1]
   by_cases hji:j / sz=i
   ·rw[if_pos (by rw[←hji];omega)]
    have e3:(xs.set i y).getD (j / sz) .any=y:=by rw[List.getD_eq_getElem?_getD,hji,List.getElem?_set_self hi];rfl
    have e4:j - i*sz=j%sz:=by rw[←hji];omega
    rw[e3,e4]
   ·have hni:¬(i*sz≤j∧j<i*sz+sz):=by
     rintro⟨h1,h2⟩
     have h3:i≤j / sz:=(Nat.le_div_iff_mul_le Dk).2 h1
     have h4:j / sz<i+1:=Nat.div_lt_of_lt_mul (by rw[Nat.mul_comm,Nat.add_mul,Nat.one_mul];exact h2)
     omega
    rw[if_neg hni,e2]
    have e3:(xs.set i y).getD (j / sz) .any=xs.getD (j / sz) .any:=by rw[List.getD_eq_getElem?_getD,List.getElem?_set_ne (by omega),List.getD_eq_getElem?_getD]
    rw[e3]
  simp only[List.getD_eq_getElem?_getD] at key
  rw[List.getElem?_eq_getElem (by omega),List.getElem?_eq_getElem (by rw[jZ];omega)] at key⊢
  simpa using key
 ·rw[List.getElem?_eq_none (by omega),List.getElem?_eq_none (by rw[jZ];omega)]
theorem Dl(e:Nat→AV)(sz:Nat):∀(ps:List (Nat×ai)) (xs:List AV) (k:List AV→Prop),(∀x∈xs,x.cells.length=sz)→(∀x∈xs,x.cells.all AV.bH=true)→gY e sz xs ps k→lF e (xs.flatMap AV.cells) (ps.map fun p=>(p.1*sz,sz,p.2)) (fun cs=>∃xs',cs=xs'.flatMap AV.cells∧xs'.length=xs.length∧(∀x∈xs',x.cells.length=sz)∧(∀x∈xs',x.cells.all AV.bH=true)∧k xs')
 |[],xs,k,h1,h2,hk=>⟨xs,rfl,rfl,h1,h2,hk⟩
 |(i,m)::ps,xs,k,h1,h2,hk=>by
  obtain⟨hl,hc,hi,hk⟩:=hk
  have hmul:(i+1)*sz≤xs.length*sz:=Nat.mul_le_mul_right _ hi
  rw[Nat.add_mul,Nat.one_mul] at hmul
  have hy:(m.ev e).erase.cells.length=sz:=by rw[xx];simpa using hl
  have Y5:(m.ev e).erase.cells.all AV.bH=true:=by
   rw[xx,List.all_map]
   refine List.all_eq_true.2 fun x hx=> ?_
   have:=(List.all_eq_true.1 hc) x hx
   cases x<;>first|exact this|rfl
  refine⟨hl,by rw[fH sz xs h1];omega,?_⟩
  have:=Dl e sz ps (xs.set i (m.ev e).erase) k (fun x hx=>(List.mem_or_eq_of_mem_set hx).elim (h1 x) (fun e=>e▸hy)) (fun x hx=>(List.mem_or_eq_of_mem_set hx).elim (h2 x) (fun e=>e▸Y5)) hk
  rw[Me sz xs i _ h1 hy hi,xx] at this
  simpa using this
theorem Dm{e:TypeId}{sz:Nat}(h0:0<sz):∀(ps:List (Nat×Operand)) (qs:List (Nat×ai)),aaH P e ps=some qs→sn (fun i=>some (i*sz,sz)) ps (qs.map fun p=>(p.1*sz,sz,p.2))
 |[],qs,h=>by injection h with h;subst h;trivial
 |(i,x)::ps,qs,h=>by
  simp only[aaH] at h
  split at h
  ·rename_i y ys h1 h2
   injection h with h;subst h
   exact⟨xY h1,rfl,h0,Dm h0 ps ys h2⟩
  ·cases h
theorem Mf(z:List Value)(hz:0<z.length)(n i:Nat)(hi:i<n*z.length):(Array.map (fun k=>(z.toArray)[k%z.toArray.size]!) (Array.range (n*z.length))).getD i undef=z.getD (i%z.length) undef:=by
 have hm:=Nat.mod_lt i hz
 simp only[Array.getD_eq_getD_getElem?]
 rw[Array.getElem?_eq_getElem (by simpa using hi)]
 simp[hm,List.getD_eq_getElem?_getD]
theorem Mg{t e:TypeId}{len sz:Nat}{ps:Array (Nat×Operand)}{qs:List (Nat×ai)}{z:List AV}(hop:o.op=.buildSlice t len ps)(hd:o.dst=some d)(hN:d<N)
  (hz:jx P e z=true)(ht:P.underlying t=some (.slice e))(hsz:ct P e=some sz)(h0:0<sz)(xX:len*sz≤16777216)(hq:aaH P e ps.toList=some qs)
  (h:RS N s a w A sp)(hv:Yp P (.aO d len sz z qs) s K)(hn:Next s w A sp N K next):o.wp P a w next Q:=by
 obtain⟨i,v,hi,hz,hs,hzl,hr,hc⟩:=qz (w:=w) (A:=A) hz
 simp only[ct,Option.map_eq_some_iff] at hsz
 obtain⟨inf,dN,rfl⟩:=hsz
 rw[hi] at dN;injection dN with dN;subst dN
 have nY:(if i.size=1 then z.getD 0 .any else .agg z).cells=z:=by
  split
  ·rename_i e1
   match z,(show z.length=1 by omega),hc with
   |[x],_,hc=>
    have:=(hc x (by simp)).1
    simp only[List.getD_eq_getElem?_getD,List.getElem?_cons_zero,Option.getD_some]
    cases x<;>first|rfl|cases this
  ·rfl
 generalize Mh:(if i.size=1 then z.getD 0 AV.any else AV.agg z)=ze at nY
 have Mi:ze.cells.all AV.bH=true:=by rw[nY];exact List.all_eq_true.2 fun x hx=>(hc x hx).1
 simp only[Yp,Mh] at hv
 have xZ:∀x∈List.replicate len ze,x.cells.length=i.size:=by intro x hx;rw[List.eq_of_mem_replicate hx,nY,hzl]
 have Mj:∀x∈List.replicate len ze,x.cells.all AV.bH=true:=by intro x hx;rw[List.eq_of_mem_replicate hx];exact Mi
 have hk:=Dl s.env i.size qs (List.replicate len ze) _ xZ Mj hv
 have uU:v.cells.size=i.size:=by omega
 have abC:((List.replicate len ze).flatMap AV.cells).length=len*i.size:=by rw[fH i.size _ xZ];simp
 have Ml:∀k,RV w A (((List.replicate len ze).flatMap AV.cells).getD k .any) ((Array.map (fun k=>v.cells[k%v.cells.size]!) (Array.range (len*i.size))).getD k undef):=by
  intro k
  by_cases hk:k<len*i.size
  ·have Dn:k / i.size<len:=Nat.div_lt_of_lt_mul (by rw[Nat.mul_comm];exact hk)
   have e1:=aaJ AV.cells i.size (List.replicate len ze) (k / i.size) xZ (by simpa using Dn) (k%i.size) .any .any (Nat.mod_lt _ h0)
   have ek:k / i.size*i.size+k%i.size=k:=by rw[Nat.mul_comm];exact Nat.div_add_mod k i.size
   rw[ek] at e1
   rw[e1]
   have e2:(List.replicate len ze).getD (k / i.size) .any=ze:=by rw[List.getD_eq_getElem?_getD,List.getElem?_replicate,if_pos Dn];rfl
   rw[e2,nY]
   have e3:=Mf v.cells.toList (by simpa[uU] using h0) len k (by simpa[uU] using hk)
   simp only[Array.length_toList,Array.toArray_toList,uU] at e3
   rw[uU,e3]
   have:=hr (k%i.size)
   simpa[List.getD_eq_getElem?_getD,Array.getD_eq_getD_getElem?] using this
  ·rw[List.getD_eq_getElem?_getD,List.getElem?_eq_none (by omega)];exact .any _
 obtain⟨cs',vs',g1,g2,g3,xs',rfl,gl,gs,gc,gk⟩:=uS h _ ps.toList _ ((List.replicate len ze).flatMap AV.cells) (Array.map (fun k=>v.cells[k%v.cells.size]!) (Array.range (len*i.size))) _ (Dm h0 _ _ hq) (by simp[abC]) Ml hk
 rw[List.length_replicate] at gl
 have hfl:=fH i.size xs' gs
 have qD:d+1≠0:=by omega
 obtain⟨A',sp',k1,k2,k3,k4⟩:=xT (h.aK (d+1)) (xs:=xs') (ys:=[]) (sz:=i.size) e vs'.toList [] [] (d+1) len qD (qt _ _ qD) (qu _ _ qD) gs (by simp) gc (by simp)
  (by simp;omega) (by simp) (fun j=>by have:=g3 j;simpa[List.getD_eq_getElem?_getD,Array.getD_eq_getD_getElem?] using this) (by simp;exact .any _) (by simp;omega) (by simp[gl]) (by
    simp only[List.length_nil,Nat.add_zero,gl]
    have:len*1≤len*i.size:=Nat.mul_le_mul_left _ h0
    omega)
 simp only[List.append_nil,Array.toArray_toList,List.length_nil,Nat.add_zero] at k1 k2 k3 k4
 rw[gl] at k3 k4
 refine fin' k1 ((Ev.aK (d+1)).trans k2) hd hN ?_ k3 k4 gk hn
 have nX:(ps.map fun x=>(x.1,a.eval x.2)).toList=ps.toList.map fun p=>(p.1,a.eval p.2):=by simp
 have hnb:¬(len*i.size>2^24):=by omega
 by_cases hl0:len*i.size=0
 ·have Mm:len=0:=by rcases Nat.mul_eq_zero.1 hl0 with e|e;exact e;omega
  subst Mm
  have e0:Array.map (fun k=>v.cells[k%v.cells.size]!) (Array.range (0*i.size))= #[]:=by simp
  rw[e0] at g1
  have hb:(Instr.buildSlice t 0 (ps.map fun x=>(x.1,a.eval x.2))).run P w=.ok (.slice (some ⟨w.heap.size,0,none⟩) 0 0) (w.alloc (.cells vs' e)):=by
   unfold Instr.buildSlice
   simp only[sizeOf,typeInfo,Sem.run_bind,run_program,Result.andThen_ok,hi,Sem.run_pure,run_underlying ht,nX,Nat.zero_mul,Nat.not_lt_zero,gt_iff_lt,if_false,if_true]
   have e1:Array.map (fun k=>(#[]:Array Value)[k%(#[]:Array Value).size]!) (Array.range 0)= #[]:=by simp
   rw[e1,g1]
   rfl
  simp only[execOp,hop,Sem.run_bind,hb,Result.andThen_ok,Sem.run_pure]
 ·simp only[execOp,hop,Instr.buildSlice,zeroValue,sizeOf,typeInfo,Sem.run_bind,run_program,Result.andThen_ok,hi,hz,Sem.run_pure,run_underlying ht,nX,hnb,if_false,hl0,g1,newRow,run_newObj]
  rfl
end
end Go.az
namespace Go.az
open Go.RowKit
section
variable {P:Program} {N:Nat} {s:St} {a:Act} {w:World} {A:aJ} {sp:Sp} {K:St→Prop} {next:Act→World→Prop} {Q:Exit→Act→World→Prop} {o:Oper} {d:Nat}
theorem aaW(depth:Nat)(xs ys:Array Value)(as bs:List AV)(hx:xs.size=as.length)(hy:ys.size=bs.length)
  (uP:∀i,RV w A (as.getD i .any) (xs.getD i undef))(fF:∀i,RV w A (bs.getD i .any) (ys.getD i undef)):∀(fs:List Field) (ks:List Bool) (k:Nat) (q:Bool),
  oN P ks k fs=true→as.length=k+fs.length→bs.length=k+fs.length→fR ks (as.drop k) (bs.drop k)=some q→
  (Op.eqFields (depth+1) xs ys fs).run P w=.ok q w
 |[],[],k,q,_,h1,h2,he=>by
  rw[List.drop_of_length_le (by simp at h1;omega),List.drop_of_length_le (by simp at h2;omega)] at he
  injection he with he;subst he;rfl
 |[],_::_,_,_,hf,_,_,_=>by cases hf
 |_::_,[],_,_,hf,_,_,_=>by cases hf
 |f::fs,kq::ks,k,q,hf,h1,h2,he=>by
  simp only[List.length_cons] at h1 h2
  simp only[oN,Bool.and_eq_true,bne_iff_ne,beq_iff_eq] at hf
  obtain⟨⟨⟨hn,hoff⟩,ht⟩,Zr⟩:=hf
  have aF:k<as.length:=by omega
  have hk2:k<bs.length:=by omega
  rw[List.drop_eq_getElem_cons aF,List.drop_eq_getElem_cons hk2] at he
  have r1:=uP k
  have r2:=fF k
  rw[List.getD_eq_getElem?_getD,List.getElem?_eq_getElem aF,Option.getD_some] at r1
  rw[List.getD_eq_getElem?_getD,List.getElem?_eq_getElem hk2,Option.getD_some] at r2
  have e1:xs[k]? =some (xs.getD k undef):=by rw[Array.getD_eq_getD_getElem?,Array.getElem?_eq_getElem (by omega)];rfl
  have e2:ys[k]? =some (ys.getD k undef):=by rw[Array.getD_eq_getD_getElem?,Array.getElem?_eq_getElem (by omega)];rfl
  have mQ:(isAgg f.type).run P w=.ok false w:=by
   unfold isAgg
   cases hu:P.underlying f.type with
   |none=>rw[hu] at ht;cases kq<;>cases ht
   |some dd=>rw[hu] at ht;rw[Sem.run_bind,run_underlying hu];cases kq<;>cases dd<;>first|rfl|cases ht
  have p1:(part f.type xs f.offset).run P w=.ok (xs.getD k undef) w:=by
   generalize xs.getD k undef=v at e1
   simp[part,Sem.run_bind,mQ,hoff,e1]
  have p2:(part f.type ys f.offset).run P w=.ok (ys.getD k undef) w:=by
   generalize ys.getD k undef=v at e2
   simp[part,Sem.run_bind,mQ,hoff,e2]
  have Dp:=aaW depth xs ys as bs hx hy uP fF fs ks (k+1)
  generalize as[k]=x at r1 he
  generalize bs[k]=y at r2 he
  simp only[Op.eqFields,hn,ne_eq,not_false_eq_true,if_true,Sem.run_bind,p1,p2,Result.andThen_ok]
  generalize xs.getD k undef=vx at r1
  generalize ys.getD k undef=vy at r2
  cases hu:P.underlying f.type with
  |none=>rw[hu] at ht;cases kq<;>cases ht
  |some dd=>
   rw[hu] at ht
   unfold fR at he
   split at he
   ·rename_i e _ _;cases e
   ·rename_i ks' kk p xs' Xk p' ys' e2 e3 e4
    injection e2 with e2 e7;injection e3 with e3 e5;injection e4 with e4 e6
    subst e2 e3 e4 e5 e6 e7
    have v1:=r1.cG;have v2:=r2.cG
    subst v1 v2
    split at he
    ·rename_i hkk
     subst hkk
     simp only[Option.map_eq_some_iff] at he
     obtain⟨q',ck,rfl⟩:=he
     have:=Dp q' Zr (by omega) (by omega) ck
     have he':(Op.equalIn (depth+1) f.type (.int kk p) (.int kk p')).run P w=.ok (p==p') w:=by
      cases dd<;>first|(cases ht;done)|skip
      exact run_equalIn_int w depth f.type kk _ p p' hu
     rw[he',Result.andThen_ok]
     cases hpp:(p==p')<;>simp[this]
    ·cases he
   ·rename_i ks' p xs' p' ys' e2 e3 e4
    injection e2 with e2 e7;injection e3 with e3 e5;injection e4 with e4 e6
    subst e2 e3 e4 e5 e6 e7
    have v1:=r1.lH;have v2:=r2.lH
    subst v1 v2
    simp only[Option.map_eq_some_iff] at he
    obtain⟨q',ck,rfl⟩:=he
    have:=Dp q' Zr (by omega) (by omega) ck
    have he':(Op.equalIn (depth+1) f.type (.bool p) (.bool p')).run P w=.ok (p==p') w:=by
     cases dd<;>first|(cases ht;done)|skip
     exact run_equalIn_bool w depth f.type p p' hu
    rw[he',Result.andThen_ok]
    cases hpp:(p==p')<;>simp[this]
   ·cases he
theorem aaY:∀{ks:List Bool} {as bs:List AV} {q:Bool},fR ks as bs=some q→as.length=bs.length∧as.length=ks.length:=by
 intro ks as bs q h
 induction ks generalizing as bs q with
 |nil=>
  unfold fR at h
  split at h
  ·exact⟨rfl,rfl⟩
  ·rename_i e;cases e
  ·rename_i e;cases e
  ·cases h
 |cons k ks ih=>
  unfold fR at h
  split at h
  ·rename_i e;cases e
  ·rename_i ks' _ _ _ _ _ _ e
   injection e with _ e;subst e
   split at h
   ·simp only[Option.map_eq_some_iff] at h
    obtain⟨q',ck,_⟩:=h
    have:=ih ck
    simp[this.1,←this.2]
   ·cases h
  ·rename_i ks' _ _ _ _ e
   injection e with _ e;subst e
   simp only[Option.map_eq_some_iff] at h
   obtain⟨q',ck,_⟩:=h
   have:=ih ck
   simp[this.1,←this.2]
  ·cases h
theorem Dq{e:TypeId}(h:nT P e=true):∃kd i,P.underlying e=some (.int kd)∧P.info? e=some i∧P.cellsOf e=1:=by
 unfold nT at h
 split at h
 ·rename_i kd i h1 h2
  exact⟨kd,i,h1,h2,by simpa[Program.cellsOf,h2] using h⟩
 ·cases h
theorem Dr{e:TypeId}{kd:IntKind}(d:Nat)(he:P.underlying e=some (.int kd))(cx Y6:Array Value)(xs ys:List AV)(dx:cx.size=xs.length)(cK:Y6.size=ys.length)
  (eO:∀i,RV w A (xs.getD i .any) (cx.getD i undef))(cH:∀i,RV w A (ys.getD i .any) (Y6.getD i undef)):∀(m j:Nat) (q:Bool),j+m=xs.length→ys.length=xs.length→fR (List.replicate m false) (xs.drop j) (ys.drop j)=some q→
  (Op.eqItems (d+1) e 1 cx Y6 (List.range' j m)).run P w=.ok q w
 |0,j,q,h1,h2,h=>by
  rw[List.drop_of_length_le (by omega),List.drop_of_length_le (by omega)] at h
  simp only[List.replicate,fR] at h
  injection h with h;subst h
  rfl
 |m+1,j,q,h1,h2,h=>by
  have hj:j<xs.length:=by omega
  have hj2:j<ys.length:=by omega
  rw[List.drop_eq_getElem_cons hj,List.drop_eq_getElem_cons hj2,List.replicate_succ] at h
  have g1:=eO j;have g2:=cH j
  rw[List.getD_eq_getElem?_getD,List.getElem?_eq_getElem hj,Option.getD_some] at g1
  rw[List.getD_eq_getElem?_getD,List.getElem?_eq_getElem hj2,Option.getD_some] at g2
  have e1:cx[j]? =some (cx.getD j undef):=by rw[Array.getD_eq_getD_getElem?,Array.getElem?_eq_getElem (by omega)];rfl
  have e2:Y6[j]? =some (Y6.getD j undef):=by rw[Array.getD_eq_getD_getElem?,Array.getElem?_eq_getElem (by omega)];rfl
  have mQ:(isAgg e).run P w=.ok false w:=by
   unfold isAgg
   rw[Sem.run_bind,run_underlying he]
   rfl
  have p1:(part e cx (j*1)).run P w=.ok (cx.getD j undef) w:=by simp only[part,Sem.run_bind,mQ,Nat.mul_one,e1,Result.andThen_ok];rfl
  have p2:(part e Y6 (j*1)).run P w=.ok (Y6.getD j undef) w:=by simp only[part,Sem.run_bind,mQ,Nat.mul_one,e2,Result.andThen_ok];rfl
  generalize xs[j]=x at*
  generalize ys[j]=y at*
  unfold fR at h
  split at h
  ·rename_i e;cases e
  ·rename_i ks k a xs' k' b ys' e3 e4 e5
   injection e3 with _ e3
   injection e4 with e4 e6
   injection e5 with e5 e7
   subst e3 e4 e5 e6 e7
   split at h
   ·rename_i hk;subst hk
    simp only[Option.map_eq_some_iff] at h
    obtain⟨q',ck,rfl⟩:=h
    have v1:=g1.cG;have v2:=g2.cG
    rw[v1] at p1;rw[v2] at p2
    have heq:=run_equalIn_int w d e k kd a b he
    have ih:=Dr d he cx Y6 xs ys dx cK eO cH m (j+1) q' (by omega) h2 ck
    rw[List.range'_succ]
    simp only[Op.eqItems,Sem.run_bind,p1,p2,Result.andThen_ok,heq]
    cases hab:(a==b)
    ·simp
    ·simpa using ih
   ·cases h
  ·rename_i e3 _ _;injection e3 with e3;cases e3
  ·cases h
theorem Ds{k e:TypeId}{n:Nat}(hu:P.underlying k=some (.array n e))(hE:nT P e=true){xs ys:List AV}{cx Y6:Array Value}(hn:xs.length=n)(dx:cx.size=xs.length)(cK:Y6.size=ys.length)(eO:∀i,RV w A (xs.getD i .any) (cx.getD i undef))(cH:∀i,RV w A (ys.getD i .any) (Y6.getD i undef)){q:Bool}(he:fR (List.replicate xs.length false) xs ys=some q):(Op.equal k (.agg cx) (.agg Y6)).run P w=.ok q w:=by
 obtain⟨kd,i,h1,h2,h3⟩:=Dq hE
 show(Op.equalIn (9999+1) k _ _).run P w=_
 rw[run_equalIn_array (w:=w) 9999 cx Y6 hu h2,h3,List.range_eq_range']
 have hl:=(aaY he).1
 rw[←hn]
 exact Dr 9998 h1 cx Y6 xs ys dx cK eO cH xs.length 0 q (by omega) hl.symm (by simpa using he)
theorem Dt{t t':TypeId}{op:BinOp}{neg:Bool}{n:List Bool}{x y:Operand}{mx my:ai}(hop:o.op=.binOp op t x y t')(hneg:op=(if neg then .neq else .eql))(hd:o.dst=some d)(hN:d<N)
  (hx:aD x=some mx)(hy:aD y=some my)(ht:xH P t=some n)
  (h:RS N s a w A sp)(hv:Yp P (.fP d neg n mx my) s K)(hn:Next s w A sp N K next):o.wp P a w next Q:=by
 have h1:=(bg h hx).1
 have h2:=(bg h hy).1
 have arr:∀(m:Nat) (e:TypeId),P.underlying t=some (.array m e)→nT P e=true→P.eqGuardType P.depth t=false→List.replicate m false=n→o.wp P a w next Q:=by
  intro m e hu hE hg ht
  simp only[Yp] at hv
  split at hv
  ·rename_i as bs e1 e2
   obtain⟨l1,l2,q,hq,hK⟩:=hv
   rw[e1] at h1;rw[e2] at h2
   generalize mR:a.eval x=v1 at h1
   generalize gJ:a.eval y=v2 at h2
   cases h1 with
   |agg _ xs dx eO=>cases h2 with
    |agg _ ys cK cH=>
     have hl:as.length=m:=by rw[l1,←ht];simp
     have heq:=Ds (w:=w) hu hE hl dx cK eO cH (q:=q) (by rw[hl,ht];exact hq)
     have so:(eqGuard op t x y (.agg xs) (.agg ys)).run P w=.ok () w:=by
      unfold eqGuard
      subst hneg
      cases neg<;>simp[hg]
     refine fin (v:=.bool (if neg then !q else q)) h hd hN ?_ (.lit _ rfl) trivial hK hn
     subst hneg
     cases neg<;>simp only[Bool.false_eq_true,if_false,if_true] at so hop<;>simp[execOp,hop,mR,gJ,so,binOp,heq]
  ·exact hv.elim
 unfold xH at ht
 split at ht
 ·rename_i m e hu
  split at ht
  ·rename_i hc
   injection ht with ht
   simp only[Bool.and_eq_true,Bool.not_eq_true'] at hc
   exact arr m e hu hc.1 hc.2 ht
  ·cases ht
 unfold oO at ht
 split at ht
 ·rename_i fs hu
  split at ht
  ·rename_i hc
   injection ht with ht
   simp only[Bool.and_eq_true,Bool.not_eq_true'] at hc
   obtain⟨⟨hf,hst⟩,hg⟩:=hc
   simp only[Yp] at hv
   split at hv
   ·rename_i as bs e1 e2
    obtain⟨l1,l2,q,hq,hK⟩:=hv
    rw[e1] at h1;rw[e2] at h2
    generalize mR:a.eval x=v1 at h1
    generalize gJ:a.eval y=v2 at h2
    cases h1 with
    |agg _ xs dx eO=>cases h2 with
     |agg _ ys cK cH=>
      have hfo:P.fieldsOf t=fs:=by simp[Program.fieldsOf,hu]
      have heq:(Op.equal t (.agg xs) (.agg ys)).run P w=.ok q w:=by
       show(Op.equalIn (9999+1) t _ _).run P w=_
       rw[run_equalIn_struct w 9999 t xs ys (by rw[hfo];exact hu) hst,hfo]
       exact aaW (P:=P) (w:=w) 9998 xs ys as bs dx cK eO cH fs.toList (mI P fs.toList) 0 q hf (by rw[l1,←ht];simp[mI]) (by rw[l2,←ht];simp[mI]) (by rw[ht];simpa using hq)
      have so:(eqGuard op t x y (.agg xs) (.agg ys)).run P w=.ok () w:=by
       unfold eqGuard
       subst hneg
       cases neg<;>simp[hg]
      refine fin (v:=.bool (if neg then !q else q)) h hd hN ?_ (.lit _ rfl) trivial hK hn
      subst hneg
      cases neg<;>simp only[Bool.false_eq_true,if_false,if_true] at so hop<;>simp[execOp,hop,mR,gJ,so,binOp,heq]
   ·exact hv.elim
  ·cases ht
 ·cases ht
theorem RS.call(h:RS N s a w A sp){w':World}{A':aJ}(hf:Fr w w')(h1:∀b o,A b o→A' b o)(h2:∀b o,A' b o→A b o∨(w.heap.size≤b∧b<w'.heap.size)):RS N s a w' A' sp∧Ev w A (live s.loc sp) w' A' (live s.loc sp):=by
 obtain⟨f1,f2,f3,f4,f5⟩:=hf
 have hcell:∀b o,b<w.heap.size→w'.cell? ⟨b,o,none⟩=w.cell? ⟨b,o,none⟩:=fun b o hb=>World.cell?_of_block (f5 b hb)
 refine⟨h.world (fun b o v ha hv=>(hcell b o (h.av b o ha).1).trans hv) h1 (.blocks h1 fun b _ hb=>f5 b hb) (fun b cs hb=>f5 b (h.aas hb)) (fun r hr=> ?_) (fun b o ha=> ?_),f1,f2,f3,f4,fun b o hb hl=>⟨hcell b o hb,hl⟩,fun b hb _=>f5 b hb,h1,fun b o ha=>(h2 b o ha).elim .inl fun e=>.inr (.inr e.1)⟩
 ·obtain⟨⟨vs,T,hv,hs⟩,_⟩:=h.bR r hr
  exact⟨vs,T,(f5 _ (cn hv)).trans hv,hs⟩
 ·rcases h2 b o ha with e|e
  ·exact⟨Nat.lt_of_lt_of_le (h.av b o e).1 f4,(h.av b o e).2⟩
  ·exact⟨e.2,fun hl=>by have:=h.uD hl;omega⟩
theorem Du{f:FuncId}{vs:Array Value}{xs:List AV}{r:AV}(hp:aA P f xs r)(h:RS N s a w A sp)(hd:o.dst=some d)(hN:d<N)
  (hs:vs.size=xs.length)(hr:∀i,RV w A (xs.getD i .any) (vs.getD i undef))(hrun:(execOp a.eval o).run P w=(callFunc f vs).run P w)
  (hK:K (s.set d r.erase))(hn:Next s w A sp N K next):o.wp P a w next Q:=by
 unfold Oper.wp
 have hcf:(callFunc f vs).run P w=.ok (.enter f vs) w:=by
  have:=hp.1
  unfold Zn at this
  split at this
  ·rename_i fn hfn
   simp only[Bool.and_eq_true,bne_iff_ne,ne_eq] at this
   unfold callFunc
   simp only[Sem.run_bind,run_program,Result.andThen_ok,hfn]
   have hb:fn.body.isNone=false:=by cases hfb:fn.body with
    |none=>rw[hfb] at this;simp at this
    |some c=>rfl
   have hnm:(fn.name== "runtime.NumGoroutine")=false:=by simpa using this.1
   rw[hnm,hb]
   rfl
  ·cases this
 rw[hrun,hcf,Oper.upon_enter]
 refine(hp.2 w A vs (fun b o ha=>(h.av b o ha).1) hs hr).mono ?_
 rintro e w' ⟨v,A',rfl,hf,g1,g2,g3⟩
 obtain⟨k1,k2⟩:=h.call hf g1 g2
 rw[hd]
 exact hn _ _ _ _ _ hK (k1.put hN g3.erase .erase) k2
theorem Mn{f:FuncId}{xs:Array Operand}{ts:Array TypeId}{ms:List ai}(hop:o.op=.call {callee:=.value (.func f),args:=xs,argTypes:=ts})(hd:o.dst=some d)(hN:d<N)(hx:fE P xs.toList ts.toList=some ms)(h:RS N s a w A sp)(hv:Yp P (.call d f ms) s K)(hn:Next s w A sp N K next):o.wp P a w next Q:=by
 obtain⟨a1,a2⟩:=mK h hx
 obtain⟨r,hp,hK⟩:=hv
 refine Du (vs:=xs.map a.eval) hp h hd hN (by simp[a1]) (fun i=> ?_) ?_ hK hn
 ·have:=a2 i
  simpa[List.getD_eq_getElem?_getD,Array.getD_eq_getD_getElem?] using this
 ·simp[execOp,hop,resolve,Act.eval,Deferred.ofValue,invoke]
theorem lK{α:Type}(x y z:List α)(i:Nat)(d:α):(x++y++z).getD i d=if i<x.length then x.getD i d else if i - x.length<y.length then y.getD (i - x.length) d else z.getD (i - x.length - y.length) d:=by
 simp only[List.getD_eq_getElem?_getD]
 split
 ·rw[List.append_assoc,List.getElem?_append_left ‹_›]
 ·split
  ·rw[List.append_assoc,List.getElem?_append_right (by omega),List.getElem?_append_left ‹_›]
  ·rw[List.getElem?_append_right (by simp;omega)]
   simp only[List.length_append]
   rw[Nat.sub_sub]
theorem Mo{t:Tmp}{xs:Array Operand}{ts:Array TypeId}{ms:List ai}(hop:o.op=.call {callee:=.value (.tmp t),args:=xs,argTypes:=ts})(hd:o.dst=some d)(hN:d<N)(hx:fE P xs.toList ts.toList=some ms)(h:RS N s a w A sp)(hv:Yp P (.eV d (.t t) ms) s K)(hn:Next s w A sp N K next):o.wp P a w next Q:=by
 obtain⟨a1,a2⟩:=mK h hx
 have h1:=(h.env t).1
 simp only[Yp] at hv
 split at hv
 ·rename_i f fs cs e1
  obtain⟨r,hp,hK⟩:=hv
  replace e1:s.env t=.func (.func f) fs cs:=e1
  rw[e1] at h1
  generalize aT:a.tmps.getD t undef=v0 at h1
  cases h1 with
  |func _ _ _ vf vc eU hsc hf hc=>
   refine Du (vs:=vf++xs.map a.eval++vc) hp h hd hN (by simp[a1,eU,hsc]) (fun i=> ?_) ?_ hK hn
   ·have e2:=lK vf.toList (xs.map a.eval).toList vc.toList i undef
    have e3:=lK fs (ms.map fun x=>(x.ev s.env).erase) cs i .any
    have e4:(vf++xs.map a.eval++vc).getD i undef=(vf.toList++(xs.map a.eval).toList++vc.toList).getD i undef:=by simp[List.getD_eq_getElem?_getD,Array.getD_eq_getD_getElem?,Array.getElem?_append,List.getElem?_append]
    rw[e4,e2,e3]
    simp only[Array.length_toList,eU,Array.size_map,List.length_map,a1]
    split
    ·have:=hf i
     simpa[List.getD_eq_getElem?_getD,Array.getD_eq_getD_getElem?] using this
    ·split
     ·have:=a2 (i - fs.length)
      simpa[List.getD_eq_getElem?_getD,Array.getD_eq_getD_getElem?] using this
     ·have:=hc (i - fs.length - xs.size)
      simpa[List.getD_eq_getElem?_getD,Array.getD_eq_getD_getElem?] using this
   ·simp[execOp,hop,resolve,Act.eval,aT,Deferred.ofValue,invoke]
 ·exact hv.elim
end
end Go.az
namespace Go.az
open Go.RowKit
section
variable {P:Program} {N:Nat} {s:St} {a:Act} {w:World} {A:aJ} {sp:Sp} {K:St→Prop} {next:Act→World→Prop} {Q:Exit→Act→World→Prop} {o:Oper} {d:Nat}
theorem uV(z:List AV):∀(n i:Nat),(List.replicate n z).flatten.getD i .any=if i<n*z.length then z.getD (i%z.length) .any else .any
 |0,i=>by simp
 |n+1,i=>by
  rw[List.replicate_succ,List.flatten_cons]
  by_cases h:i<z.length
  ·rw[if_pos (by rw[Nat.add_mul];omega),Nat.mod_eq_of_lt h]
   simp only[List.getD_eq_getElem?_getD]
   rw[List.getElem?_append_left h]
  ·have h':z.length≤i:=by omega
   have:=uV z n (i - z.length)
   simp only[List.getD_eq_getElem?_getD] at this⊢
   rw[List.getElem?_append_right h',this]
   have e1:(i - z.length)%z.length=i%z.length:=by conv=>rhs;rw[←Nat.sub_add_cancel h',Nat.add_mod_right]
   rw[e1]
   by_cases h2:i<(n+1)*z.length
   ·rw[if_pos h2,if_pos (by rw[Nat.add_mul] at h2;omega)]
   ·rw[if_neg h2,if_neg (by rw[Nat.add_mul] at h2;omega)]
theorem Dv(z:List AV)(n:Nat):(List.replicate n z).flatten.length=n*z.length:=by
 induction n with
 |zero=>simp
 |succ n ih=>rw[List.replicate_succ,List.flatten_cons,List.length_append,ih,Nat.add_mul];omega
theorem Mp{t e:TypeId}{l c:Operand}{ml mc:ai}{i:TypeInfo}{z:List AV}(hop:o.op=.makeSlice t l c)(hd:o.dst=some d)(hN:d<N)(ht:P.underlying t=some (.slice e))(hi:P.info? e=some i)
  (hl:aD l=some ml)(hc:aD c=some mc)(hz:jx P e z=true)
  (h:RS N s a w A sp)(hv:Yp P (.eL d ml mc i.size i.bytes z) s K)(hn:Next s w A sp N K next):o.wp P a w next Q:=by
 obtain⟨i',v,hi',mS,hs,hsz,hr,j0⟩:=qz (w:=w) (A:=A) hz
 rw[hi] at hi';injection hi' with hi';subst hi'
 have h1:=(bg h hl).1
 have h2:=(bg h hc).1
 simp only[Yp] at hv
 split at hv
 ·rename_i n c e1 e2
  obtain⟨c1,c2,c3,c4,c5,hK⟩:=hv
  rw[e1] at h1;rw[e2] at h2
  have v1:=h1.cG;have v2:=h2.cG
  have hcell:∀k,RV w A ((List.replicate c.toNat z).flatten.getD k .any) ((madeCells v.cells (c.toNat*i.size)).getD k undef)∧bN sp ((List.replicate c.toNat z).flatten.getD k .any) ((madeCells v.cells (c.toNat*i.size)).getD k undef):=by
   intro k
   rw[uV]
   split
   ·rename_i hk
    have mJ:0<z.length:=by
     rcases Nat.eq_zero_or_pos z.length with e|e
     ·rw[e] at hk;simp at hk
     ·exact e
    have e3:(madeCells v.cells (c.toNat*i.size)).getD k undef=v.cells.getD (k%z.length) undef:=by
     have hm:k%z.length<v.cells.size:=by rw[hs];exact Nat.mod_lt _ mJ
     unfold madeCells
     rw[Array.getD_eq_getD_getElem?,Array.getElem?_map,Array.getElem?_range,if_pos (by rw[←hsz];exact hk)]
     simp only[Option.map_some,Option.getD_some]
     rw[Array.getD_eq_getD_getElem?,←hs,Array.getElem?_eq_getElem (by rw[hs];rw[hs] at hm;exact hm),getElem!_pos _ _ (by rw[hs];rw[hs] at hm;exact hm)]
     rfl
    rw[e3]
    exact⟨hr _,C9 j0 _⟩
   ·exact⟨.any _,trivial⟩
  refine fin' (h.aaK (cs:=(List.replicate c.toNat z).flatten) e (by rw[size_madeCells,Dv,hsz]) hcell) (RS.r_ _ _) hd hN ?_ (.aP w.heap.size 0 n.toNat c.toNat i.size (by omega)) trivial (hK _ h.fresh) hn
  have:=run_make (P:=P) w t e i v ht hi mS .i64 .i64 n c c1 c2 (by rw[Int.mul_comm];omega) (by omega)
  simp[execOp,hop,v1,v2,this]
 ·exact hv.elim
theorem Dw{dT sT ty e:TypeId}{i:TypeInfo}{b off dLen dCap:Nat}{sb:Option Addr}{sLen sCap:Nat}{cur:Array Value}{T:TypeId}{cs:List Value}(ht:P.underlying dT=some (.slice e))(hi:P.info? e=some i)
  (hg:w.heap[b]? =some (.cells cur T (0,0)))(hn:cs.length=Nat.min sLen dLen*i.size)(hsrc:∀q,sb=some q→∀j v,cs[j]? =some v→w.cell? (q.add j)=some v)(hsb:sb=none→cs=[])
  (hfit:off+cs.length≤cur.size)(h1:∀v∈cs,v.oneCell'=true):
  (Builtin.copy_ #[dT,sT] ty #[.slice (some ⟨b,off,none⟩) dLen dCap,.slice sb sLen sCap]).run P w=.ok (goInt (Nat.min sLen dLen)) (w.setRow b (cur.toList.take off++cs++cur.toList.drop (off+cs.length)).toArray):=by
 have hst:=run_storeCells_at P b off T cs 0 cur w hg (by simpa using hfit) h1
 simp only[Nat.add_zero] at hst
 cases sb with
 |none=>
  have:=hsb rfl
  subst this
  simp only[List.append_nil,List.length_nil,Nat.add_zero] at hst hn⊢
  have hcap:∀c,(Builtin.firstCells i.size (Nat.min sLen dLen) (.slice none sLen c)).run P w=.ok #[] w:=by intro c;simp[Builtin.firstCells]
  simp[Builtin.copy_,run_underlying ht,Builtin.lenOf,sizeOf,typeInfo,hi,hcap,hst]
 |some q=>
  have hl:=run_firstCells_some (P:=P) w i.size (Nat.min sLen dLen) q sLen sCap cs hn (hsrc q rfl)
  simp[Builtin.copy_,run_underlying ht,Builtin.lenOf,sizeOf,typeInfo,hi,hl,hst]
theorem Mq{t t' e:TypeId}{i:TypeInfo}{x y:Operand}{mx my:ai}(hop:o.op=.call {callee:=.builtin .copy,args:= #[x,y],argTypes:= #[t,t']})(hd:o.dst=some d)(hN:d<N)
  (hx:aD x=some mx)(hy:aD y=some my)(ht:P.underlying t=some (.slice e))(hi:P.info? e=some i)
  (h:RS N s a w A sp)(hv:Yp P (.oJ d mx my i.size) s K)(hn:Next s w A sp N K next):o.wp P a w next Q:=by
 have h1:=(bg h hx).1
 have h2:=(bg h hy).1
 have hex:∀v w',(Builtin.copy_ #[t,t'] o.type #[a.eval x,a.eval y]).run P w=.ok v w'→(execOp a.eval o).run P w=.ok (.value v) w':=by
  intro v w' hr
  simp[execOp,hop,resolve,invoke,builtin,hr]
 simp only[Yp] at hv
 split at hv
 ·rename_i b off len cap sz' cq ys r e1 e2
  split at hv
  ·rename_i cs hb
   obtain⟨rfl,cK,hoff,hK⟩:=hv
   rw[e1] at h1;rw[e2] at h2
   obtain⟨vs,T,hh,hsz,hr⟩:=h.loc b cs hb
   generalize aT:a.eval x=v0 at h1 hex
   cases h1 with
   |aP _ _ _ _ _ hlc=>
    have hY:=h2.xU cK
    generalize mR:a.eval y=v1 at hY hex
    have main:∀(sb:Option Addr) (cp:Nat) (us:List Value),us.length=ys.length*i.size→(∀q,sb=some q→∀j v,us[j]? =some v→w.cell? (q.add j)=some v)→(sb=none→us=[])→(∀j,RV w A ((ys.flatMap AV.cells).getD j .any) (us.getD j undef))→(∀x∈ys,x.cells.length=i.size)→(∀x∈ys,x.cells.all AV.bH=true)→v1=.slice sb ys.length cp→o.wp P a w next Q:=by
     intro sb cp us Y_ Mr Ms uR Dx hy1 he
     subst he
     have hmin:Nat.min ys.length len≤ys.length:=Nat.min_le_left _ _
     have hmul:Nat.min ys.length len*i.size≤ys.length*i.size:=Nat.mul_le_mul_right _ hmin
     have Xl:Nat.min ys.length len*i.size≤len*i.size:=Nat.mul_le_mul_right _ (Nat.min_le_right _ _)
     have cu:(us.take (Nat.min ys.length len*i.size)).length=Nat.min ys.length len*i.size:=by simp;omega
     have hfl:((ys.take (min ys.length len)).flatMap AV.cells)=(ys.flatMap AV.cells).take (min ys.length len*i.size):=xO AV.cells i.size ys _ Dx
     have gj:(ys.flatMap AV.cells).length=ys.length*i.size:=fH _ _ Dx
     have Y5:((ys.take (min ys.length len)).flatMap AV.cells).length=Nat.min ys.length len*i.size:=by rw[hfl,List.length_take,gj];exact Nat.min_eq_left hmul
     have h1c:∀v∈us.take (Nat.min ys.length len*i.size),v.oneCell'=true:=by
      intro v hv
      obtain⟨k,hk,rfl⟩:=List.getElem_of_mem (List.mem_of_mem_take hv)
      have hk':k<(ys.flatMap AV.cells).length:=by omega
      have h3:=uR k
      rw[List.getD_eq_getElem?_getD,List.getElem?_eq_getElem hk',List.getD_eq_getElem?_getD,List.getElem?_eq_getElem hk] at h3
      refine h3.uN ?_
      obtain⟨z,hz,oT⟩:=List.mem_flatMap.1 (List.getElem_mem hk')
      exact(List.all_eq_true.1 (hy1 z hz)) _ oT
     have hrun:=Dw (P:=P) (w:=w) (dT:=t) (sT:=t') (ty:=o.type) (dLen:=len) (dCap:=cap) (sb:=sb) (sLen:=ys.length) (sCap:=cp) (off:=off) ht hi hh cu
      (fun q hq j v hj=>by
        rw[List.getElem?_take] at hj
        split at hj
        ·exact Mr q hq j v hj
        ·cases hj) (fun hn=>by rw[Ms hn];simp) (by rw[cu];omega) h1c
     rw[cu] at hrun
     have hrow:∀k,RV w A ((splice cs off (((ys.take (min ys.length len)).flatMap AV.cells).map AV.erase0)).getD k .any) ((vs.toList.take off++us.take (Nat.min ys.length len*i.size)++vs.toList.drop (off+Nat.min ys.length len*i.size)).toArray.getD k undef)∧bN sp ((splice cs off (((ys.take (min ys.length len)).flatMap AV.cells).map AV.erase0)).getD k .any) ((vs.toList.take off++us.take (Nat.min ys.length len*i.size)++vs.toList.drop (off+Nat.min ys.length len*i.size)).toArray.getD k undef):=by
      intro k
      have e:=oP vs (us.take (Nat.min ys.length len*i.size)) off k (by rw[cu];omega)
      rw[cu] at e
      rw[e,lI _ _ _ _ (by rw[List.length_map,Y5];omega),List.length_map,Y5]
      split
      ·rename_i hk
       rw[gF,hfl]
       have h3:=uR (k - off)
       have hk2:k - off<min ys.length len*i.size:=by have:min ys.length len=Nat.min ys.length len:=rfl;rw[this];omega
       have e3:((ys.flatMap AV.cells).take (min ys.length len*i.size)).getD (k - off) .any=(ys.flatMap AV.cells).getD (k - off) .any:=by simp only[List.getD_eq_getElem?_getD,List.getElem?_take,hk2,if_true]
       have e4:(us.take (Nat.min ys.length len*i.size)).getD (k - off) undef=us.getD (k - off) undef:=by
        have jy:k - off<Nat.min ys.length len*i.size:=hk2
        simp only[List.getD_eq_getElem?_getD,List.getElem?_take,jy,if_true]
       rw[e3,e4]
       exact⟨h3.erase0,.erase0⟩
      ·exact hr k
     refine fin' (h.setRow hb hh ?_ hrow) (RS.oQ _ _ hb) hd hN (hex _ _ hrun) (.lit _ rfl) trivial hK hn
     rw[jZ]
     simp only[List.size_toArray,List.length_append,List.length_take,List.length_drop,Array.length_toList]
     have:=cu
     simp only[List.length_take] at this
     omega
    cases hY with
    |cS=>exact main none 0 [] (by simp) (fun q hq=>by cases hq) (fun _=>rfl) (fun j=>by simp;exact .any _) (by simp) (by simp) rfl
    |slice _ _ _ b' off' cap' vs' gI Zp mN mO ia fF=>
     obtain⟨g1,g2,_,_,_,us,g3,g4,g5⟩:=(RV.slice (w:=w) (A:=A) i.size ys r b' off' cap' vs' gI Zp mN mO ia fF).cellsOf
     exact main (some ⟨b',off',none⟩) cap' us g3 (fun q hq j v hj=>by injection hq with hq;subst hq;rw[Addr.gH];exact(g4 j v hj).1) (fun e=>by cases e) g5 g1 g2 rfl
  ·exact hv.elim
 ·exact hv.elim
end
end Go.az
namespace Go.az
open Go.RowKit
section
variable {P:Program} {N:Nat} {s:St} {a:Act} {w:World} {A:aJ} {sp:Sp} {K:St→Prop} {next:Act→World→Prop} {Q:Exit→Act→World→Prop} {o:Oper} {d:Nat}
theorem Mt{t e:TypeId}{n:Nat}{ps:Array (Nat×Operand)}{i:TypeInfo}{z:List AV}(hop:o.op=.buildSlice t n ps)(hd:o.dst=some d)(hN:d<N)(ht:P.underlying t=some (.slice e))(hi:P.info? e=some i)
  (hz:jx P e z=true)(hn0:n=0)(hps:ps.isEmpty=true)
  (h:RS N s a w A sp)(hv:Yp P (.eL d (.c (.lit (.int .i64 0))) (.c (.lit (.int .i64 0))) i.size i.bytes z) s K)(hn:Next s w A sp N K next):o.wp P a w next Q:=by
 obtain⟨i',v,hi',mS,hs,hsz,hr,j0⟩:=qz (w:=w) (A:=A) hz
 rw[hi] at hi';injection hi' with hi';subst hi'
 subst hn0
 have Mu:ps= #[]:=by simpa using hps
 subst Mu
 have hK:∀b,s.loc b=none→K ((s.new b []).set d (.aP b 0 0 0 i.size)):=fun b hb=>hv.2.2.2.2.2 b hb
 have hb:(Instr.buildSlice t 0 #[]).run P w=.ok (.slice (some ⟨w.heap.size,0,none⟩) 0 0) (w.alloc (.cells #[] e)):=by
  unfold Instr.buildSlice
  simp only[sizeOf,typeInfo,Sem.run_bind,run_program,Result.andThen_ok,hi,Sem.run_pure,run_underlying ht,Nat.zero_mul,Nat.not_lt_zero,gt_iff_lt,if_false,if_true]
  have e1:Array.map (fun k=>(#[]:Array Value)[k%(#[]:Array Value).size]!) (Array.range 0)= #[]:=by simp
  rw[e1]
  rfl
 refine fin' (h.aaK (cs:=[]) (vs:= #[]) e rfl (fun k=>⟨by simp;exact .any _,trivial⟩)) (RS.r_ _ _) hd hN ?_ (.aP w.heap.size 0 0 0 i.size (Nat.le_refl _)) trivial (hK _ h.fresh) hn
 have nX:((#[]:Array (Nat×Operand)).map fun x=>(x.1,a.eval x.2))= #[]:=by simp
 simp only[execOp,hop,nX,Sem.run_bind,hb,Result.andThen_ok,Sem.run_pure]
theorem Mv{v:Value}{z:List AV}{n:Nat}(hs:v.cells.size=z.length)(hr:∀k,RV w A (z.getD k .any) (v.cells.getD k undef))(k:Nat):RV w A ((List.replicate n z).flatten.getD k .any) ((Builtin.zeroCells v.cells n).toList.getD k undef):=by
 rw[uV]
 split
 ·rename_i hk
  have mJ:0<z.length:=by
   rcases Nat.eq_zero_or_pos z.length with e|e
   ·rw[e] at hk;simp at hk
   ·exact e
  have hm:k%z.length<v.cells.size:=by rw[hs];exact Nat.mod_lt _ mJ
  have e3:(Builtin.zeroCells v.cells n).toList.getD k undef=v.cells.getD (k%z.length) undef:=by
   unfold Builtin.zeroCells
   rw[List.getD_eq_getElem?_getD,Array.getElem?_toList,Array.getElem?_map,Array.getElem?_range,if_pos (by rw[hs];exact hk)]
   simp only[Option.map_some,Option.getD_some]
   rw[Array.getD_eq_getD_getElem?,Array.getElem?_eq_getElem hm]
   rw[getElem!_pos _ _ (by rw[hs];rw[hs] at hm;exact hm)]
   simp only[hs,Option.getD_some]
  rw[e3]
  exact hr _
 ·exact .any _
theorem Mw(v:Value)(n:Nat):(Builtin.zeroCells v.cells n).toList.length=n*v.cells.size:=by simp[Builtin.zeroCells]
theorem Mx{t e:TypeId}{i:TypeInfo}{z:List AV}{x y:Operand}{mx my:ai}(hop:o.op=.call {callee:=.builtin .append,args:= #[x,y],argTypes:= #[t,t]})(hd:o.dst=some d)(hN:d<N)
  (hx:aD x=some mx)(hy:aD y=some my)(ht:P.underlying t=some (.slice e))(hi:P.info? e=some i)(hz:jx P e z=true)
  (h:RS N s a w A sp)(hv:Yp P (.iN d mx my i.size i.bytes z) s K)(hn:Next s w A sp N K next):o.wp P a w next Q:=by
 obtain⟨i',v,hi',mS,hs,hsz,My,j0⟩:=qz (w:=w) (A:=A) hz
 rw[hi] at hi';injection hi' with hi';subst hi'
 have h1:=(bg h hx).1
 have h2:=(bg h hy).1
 have hex:∀v w',(Builtin.append_ #[t,t] o.type #[a.eval x,a.eval y]).run P w=.ok v w'→(execOp a.eval o).run P w=.ok (.value v) w':=by
  intro v w' hr
  simp[execOp,hop,resolve,invoke,builtin,hr]
 have grow:∀(b:Nat) (os:List AV) (olds:List Value) (ys:List AV) (news:List Value) (n q:Nat),olds.length=os.length→(∀k,RV w A (os.getD k .any) (olds.getD k undef))→
   news.length=(ys.flatMap AV.cells).length→(∀k,RV w A ((ys.flatMap AV.cells).getD k .any) (news.getD k undef))→
   (Builtin.append_ #[t,t] o.type #[a.eval x,a.eval y]).run P w=.ok (.slice (some ⟨w.heap.size,0,none⟩) n (n+q)) (w.drew.alloc (.cells (olds.toArray++news.toArray++Builtin.zeroCells v.cells q) e))→
   K ((s.new w.heap.size (os.map AV.erase0++((ys.flatMap AV.cells).map AV.erase0++(List.replicate q z).flatten))).set d (.aP w.heap.size 0 n (n+q) i.size))→o.wp P a w next Q:=by
  intro b os olds ys news n q eC fS YF Za hrun hK
  have hcell:∀k,RV w.drew A ((os.map AV.erase0++((ys.flatMap AV.cells).map AV.erase0++(List.replicate q z).flatten)).getD k .any) ((olds.toArray++news.toArray++Builtin.zeroCells v.cells q).getD k undef)∧bN sp ((os.map AV.erase0++((ys.flatMap AV.cells).map AV.erase0++(List.replicate q z).flatten)).getD k .any) ((olds.toArray++news.toArray++Builtin.zeroCells v.cells q).getD k undef):=by
   intro k
   have e3:(olds.toArray++news.toArray++Builtin.zeroCells v.cells q).getD k undef=if k<olds.length then olds.getD k undef else if k - olds.length<news.length then news.getD (k - olds.length) undef else (Builtin.zeroCells v.cells q).toList.getD (k - olds.length - news.length) undef:=by
    rw[Array.getD_eq_getD_getElem?,←Array.getElem?_toList]
    simp only[Array.toList_append,List.append_assoc,List.getD_eq_getElem?_getD]
    split
    ·rw[List.getElem?_append_left ‹_›]
    ·rw[List.getElem?_append_right (by omega)]
     split
     ·rw[List.getElem?_append_left ‹_›]
     ·rw[List.getElem?_append_right (by omega)]
   rw[e3,List.getD_eq_getElem?_getD]
   by_cases hk:k<olds.length
   ·rw[if_pos hk,List.getElem?_append_left (by rw[List.length_map];omega),←List.getD_eq_getElem?_getD,gF]
    exact⟨(fS k).drew.erase0,.erase0⟩
   ·rw[if_neg hk,List.getElem?_append_right (by rw[List.length_map];omega),List.length_map,←eC]
    by_cases hk2:k - olds.length<news.length
    ·rw[if_pos hk2,List.getElem?_append_left (by rw[List.length_map];omega),←List.getD_eq_getElem?_getD,gF]
     exact⟨(Za _).drew.erase0,.erase0⟩
    ·rw[if_neg hk2,List.getElem?_append_right (by rw[List.length_map];omega),←List.getD_eq_getElem?_getD]
     simp only[List.length_map,←YF]
     refine⟨(Mv hs My _).drew,?_⟩
     rw[uV]
     split
     ·exact C9 j0 _
     ·trivial
  refine fin' (h.drew.aaK (cs:=os.map AV.erase0++((ys.flatMap AV.cells).map AV.erase0++(List.replicate q z).flatten)) e ?_ hcell) ((Ev.drew _).trans (RS.r_ _ _)) hd hN (hex _ _ hrun) (.aP w.heap.size 0 n (n+q) i.size (by omega)) trivial hK hn
  rw[←Array.length_toList]
  simp only[Array.toList_append,List.length_append,Mw,Dv,List.length_map,hs,YF,eC]
  omega
 simp only[Yp] at hv
 split at hv
 ·rename_i b off len cap sz' cq ys r2 e1 e2
  obtain⟨dx,cK,hne,hbytes,hlen,hK⟩:=hv
  rw[e1] at h1;rw[e2] at h2
  subst cK
  have gj:0<ys.length:=List.length_pos_iff.2 hne
  generalize Dy:a.eval x=vx at h1 hex grow
  cases h1 with
  |aP _ _ _ _ _ hlc=>
   generalize qC:a.eval y=vy at h2 hex grow
   cases h2 with
   |cS=>exact absurd rfl hne
   |slice _ _ _ b' off' cap' vs' gI Zp mN mO ia fF=>
    have sk:=(RV.slice (w:=w) (A:=A) i.size ys r2 b' off' cap' vs' gI Zp mN mO ia fF).cellsOf
    obtain⟨_,_,_,_,_,news,YF,hnc,Za⟩:=sk
    have hnews:∀j u,news[j]? =some u→w.cell? ((⟨b',off',none⟩:Addr).add j)=some u:=fun j u hj=>by rw[Addr.gH];exact(hnc j u hj).1
    have Y5:=fH i.size ys gI
    by_cases hcap:cap=0
    ·rw[if_pos hcap] at hK
     obtain rfl:len=0:=by omega
     subst hcap
     have hrun:=run_append_grow (P:=P) w t o.type e i v ht hi mS ⟨b,off,none⟩ 0 0 [] (by simp) (by simp) ⟨b',off',none⟩ ys.length cap' news YF hnews (by omega) (by omega) (growslice_fits (by omega) (by simpa using hbytes))
     rw[Nat.zero_add] at hrun
     have hge:=grownCap_ge w ys.length 0 e
     obtain⟨r,hr⟩:∃r,grownCap w ys.length 0 e=ys.length+r:=⟨grownCap w ys.length 0 e - ys.length,by omega⟩
     rw[hr,Nat.add_sub_cancel_left] at hrun
     refine grow b [] [] ys news ys.length r rfl (fun k=>by simp;exact .any _) (by rw[YF,Y5]) Za hrun ?_
     rw[dx] at*
     exact hK w.heap.size r h.fresh
    ·rw[if_neg hcap] at hK
     split at hK
     ·rename_i cs hb
      obtain⟨hfit,hin,hout⟩:=hK
      obtain⟨vs,T,hh,hsz,hr⟩:=h.loc b cs hb
      have hk:(len+ys.length)*i.size=len*i.size+ys.length*i.size:=Nat.add_mul _ _ _
      by_cases hroom:len+ys.length≤cap
      ·have hin:=hin hroom
       have hmul:(len+ys.length)*i.size≤cap*i.size:=Nat.mul_le_mul_right _ hroom
       have hone:=RV.xW Zp (by rw[YF,Y5]) Za
       have hrun:=xS (P:=P) (w:=w) t o.type e i ht hi b off len cap vs T hh ⟨b',off',none⟩ ys.length cap' news YF hnews hone hroom (by omega)
       have hrow:∀k,RV w A ((splice cs (off+len*i.size) ((ys.flatMap AV.cells).map AV.erase0)).getD k .any) ((vs.toList.take (off+len*i.size)++news++vs.toList.drop (off+len*i.size+news.length)).toArray.getD k undef)∧bN sp ((splice cs (off+len*i.size) ((ys.flatMap AV.cells).map AV.erase0)).getD k .any) ((vs.toList.take (off+len*i.size)++news++vs.toList.drop (off+len*i.size+news.length)).toArray.getD k undef):=by
        intro k
        rw[oP vs news (off+len*i.size) k (by omega),lI _ _ _ _ (by rw[List.length_map,Y5];omega),List.length_map,Y5,←YF]
        split
        ·rw[gF]
         exact⟨(Za _).erase0,.erase0⟩
        ·exact hr k
       refine fin' (h.setRow hb hh ?_ hrow) (RS.oQ _ _ hb) hd hN (hex _ _ hrun) (.aP b off (len+ys.length) cap sz' hroom) trivial ?_ hn
       ·rw[jZ]
        simp only[List.size_toArray,List.length_append,List.length_take,List.length_drop,Array.length_toList]
        omega
       ·rw[dx]
        exact hin
      ·have hout:=hout (by omega)
       have hmul:len*i.size≤cap*i.size:=Nat.mul_le_mul_right _ hlc
       have eC:((vs.toList.drop off).take (len*i.size)).length=len*i.size:=by rw[List.length_take,List.length_drop,Array.length_toList];omega
       have holds:∀j u,((vs.toList.drop off).take (len*i.size))[j]? =some u→w.cell? ((⟨b,off,none⟩:Addr).add j)=some u:=fun j u hj=>by
        rw[Addr.gH]
        have hjl:=(List.getElem?_eq_some_iff.1 hj).1
        rw[List.getElem?_take_of_lt (by omega),List.getElem?_drop] at hj
        simp only[World.cell?,hh]
        simpa using hj
       have hrun:=run_append_grow (P:=P) w t o.type e i v ht hi mS ⟨b,off,none⟩ len cap _ eC holds ⟨b',off',none⟩ ys.length cap' news YF hnews (by omega) (by omega) (growslice_fits (by omega) hbytes)
       have hge:=grownCap_ge w (len+ys.length) cap e
       obtain⟨r,hr'⟩:∃r,grownCap w (len+ys.length) cap e=len+ys.length+r:=⟨grownCap w (len+ys.length) cap e - (len+ys.length),by omega⟩
       rw[hr',Nat.add_sub_cancel_left] at hrun
       refine grow b ((cs.drop off).take (len*i.size)) _ ys news (len+ys.length) r (by rw[eC,List.length_take,List.length_drop];omega) (fun k=> ?_) (by rw[YF,Y5]) Za hrun ?_
       ·by_cases hk2:k<len*i.size
        ·have g:=(hr (off+k)).1
         have e3:((cs.drop off).take (len*i.size)).getD k .any=cs.getD (off+k) .any:=by
          simp only[List.getD_eq_getElem?_getD]
          rw[List.getElem?_take_of_lt hk2,List.getElem?_drop]
         have e4:((vs.toList.drop off).take (len*i.size)).getD k undef=vs.getD (off+k) undef:=by
          simp only[List.getD_eq_getElem?_getD,Array.getD_eq_getD_getElem?]
          rw[List.getElem?_take_of_lt hk2,List.getElem?_drop,Array.getElem?_toList]
         rw[e3,e4]
         exact g
        ·have e3:((cs.drop off).take (len*i.size)).getD k .any=.any:=by
          simp only[List.getD_eq_getElem?_getD]
          rw[List.getElem?_eq_none (by rw[List.length_take];omega)]
          rfl
         rw[e3]
         exact .any _
       ·rw[dx] at*
        exact hout w.heap.size r h.fresh
     ·exact hK.elim
 ·rename_i cq ys r2 e1 e2
  obtain⟨cK,hne,hbytes,hlen,hK⟩:=hv
  rw[e1] at h1;rw[e2] at h2
  subst cK
  have gj:0<ys.length:=List.length_pos_iff.2 hne
  generalize Dy:a.eval x=vx at h1 hex grow
  cases h1 with
  |lit _ _=>
   generalize qC:a.eval y=vy at h2 hex grow
   cases h2 with
   |cS=>exact absurd rfl hne
   |slice _ _ _ b' off' cap' vs' gI Zp mN mO ia fF=>
    have sk:=(RV.slice (w:=w) (A:=A) i.size ys r2 b' off' cap' vs' gI Zp mN mO ia fF).cellsOf
    obtain⟨_,_,_,_,_,news,YF,hnc,Za⟩:=sk
    have hnews:∀j u,news[j]? =some u→w.cell? ((⟨b',off',none⟩:Addr).add j)=some u:=fun j u hj=>by rw[Addr.gH];exact(hnc j u hj).1
    have Y5:=fH i.size ys gI
    have hrun:=run_append_nil (P:=P) w t o.type e i v ht hi mS ⟨b',off',none⟩ ys.length cap' news YF hnews gj (by omega) (by omega)
    have hge:=grownCap_ge w ys.length 0 e
    obtain⟨r,hr⟩:∃r,grownCap w ys.length 0 e=ys.length+r:=⟨grownCap w ys.length 0 e - ys.length,by omega⟩
    rw[hr,Nat.add_sub_cancel_left] at hrun
    exact grow 0 [] [] ys news ys.length r rfl (fun k=>by simp;exact .any _) (by rw[YF,Y5]) Za (by rw[hrun,show([]:List Value).toArray++news.toArray=news.toArray by simp]) (hK w.heap.size r h.fresh)
 ·exact hv.elim
theorem Mz{t e:TypeId}{i:TypeInfo}{x y:Operand}{mx my:ai}(hop:o.op=.call {callee:=.builtin .append,args:= #[x,y],argTypes:= #[t,t]})(hd:o.dst=some d)(hN:d<N)
  (hx:aD x=some mx)(hy:aD y=some my)(ht:P.underlying t=some (.slice e))(hi:P.info? e=some i)
  (h:RS N s a w A sp)(hv:Yp P (.nP d mx my i.size) s K)(hn:Next s w A sp N K next):o.wp P a w next Q:=by
 have h1:=(bg h hx).1
 have h2:=(bg h hy).1
 have hex:∀v w',(Builtin.append_ #[t,t] o.type #[a.eval x,a.eval y]).run P w=.ok v w'→(execOp a.eval o).run P w=.ok (.value v) w':=by
  intro v w' hr
  simp[execOp,hop,resolve,invoke,builtin,hr]
 simp only[Yp] at hv
 split at hv
 ·rename_i b off len cap sz' cq ys r2 e1 e2
  split at hv
  ·rename_i cs hb
   obtain⟨dx,cK,hne,hroom,hfit,hK⟩:=hv
   rw[e1] at h1;rw[e2] at h2
   subst cK
   obtain⟨vs,T,hh,hsz,hr⟩:=h.loc b cs hb
   generalize Dy:a.eval x=vx at h1 hex
   cases h1 with
   |aP _ _ _ _ _ hlc=>
    generalize qC:a.eval y=vy at h2 hex
    cases h2 with
    |cS=>exact absurd rfl hne
    |slice _ _ _ b' off' cap' vs' gI Zp mN mO ia fF=>
     obtain⟨_,_,_,_,_,news,YF,hnc,Za⟩:=(RV.slice (w:=w) (A:=A) i.size ys r2 b' off' cap' vs' gI Zp mN mO ia fF).cellsOf
     have hnews:∀j u,news[j]? =some u→w.cell? ((⟨b',off',none⟩:Addr).add j)=some u:=fun j u hj=>by rw[Addr.gH];exact(hnc j u hj).1
     have hone:=RV.xW Zp (by rw[YF,fH i.size ys gI]) Za
     have hk:(len+ys.length)*i.size=len*i.size+ys.length*i.size:=Nat.add_mul _ _ _
     have Y5:=fH i.size ys gI
     have hrun:=xS (P:=P) (w:=w) t o.type e i ht hi b off len cap vs T hh ⟨b',off',none⟩ ys.length cap' news YF hnews hone hroom (by omega)
     have hrow:∀k,RV w A ((splice cs (off+len*i.size) ((ys.flatMap AV.cells).map AV.erase0)).getD k .any) ((vs.toList.take (off+len*i.size)++news++vs.toList.drop (off+len*i.size+news.length)).toArray.getD k undef)∧bN sp ((splice cs (off+len*i.size) ((ys.flatMap AV.cells).map AV.erase0)).getD k .any) ((vs.toList.take (off+len*i.size)++news++vs.toList.drop (off+len*i.size+news.length)).toArray.getD k undef):=by
      intro k
      rw[oP vs news (off+len*i.size) k (by omega),lI _ _ _ _ (by rw[List.length_map,Y5];omega),List.length_map,Y5,←YF]
      split
      ·rw[gF]
       exact⟨(Za _).erase0,.erase0⟩
      ·exact hr k
     refine fin' (h.setRow hb hh ?_ hrow) (RS.oQ _ _ hb) hd hN (hex _ _ hrun) (.aP b off (len+ys.length) cap sz' hroom) trivial ?_ hn
     ·rw[jZ]
      simp only[List.size_toArray,List.length_append,List.length_take,List.length_drop,Array.length_toList]
      omega
     ·rw[dx]
      exact hK
  ·exact hv.elim
 ·exact hv.elim
theorem MA{t e:TypeId}{x hi:Operand}{mx mh:ai}{sz:Nat}(hop:o.op=.slice t x none (some hi) none)(hd:o.dst=some d)(hN:d<N)(hx:aD x=some mx)(hy:aD hi=some mh)
  (ht:P.underlying t=some (.slice e))(hz:ct P e=some sz)
  (h:RS N s a w A sp)(hv:Yp P (.ql d mx mh sz) s K)(hn:Next s w A sp N K next):o.wp P a w next Q:=by
 have h1:=(bg h hx).1
 have h2:=(bg h hy).1
 simp only[ct,Option.map_eq_some_iff] at hz
 obtain⟨inf,dN,rfl⟩:=hz
 simp only[Yp] at hv
 split at hv
 ·rename_i b off len cap sz' k n e1 e2
  obtain⟨hs,h0,hl,hK⟩:=hv
  rw[e1] at h1;rw[e2] at h2
  have v2:=h2.cG
  generalize aT:a.eval x=v0 at h1
  cases h1 with
  |aP _ _ _ _ _ hlc=>
   refine fin (v:=.slice (some ⟨b,off,none⟩) n.toNat cap) h hd hN ?_ (.aP b off n.toNat cap inf.size (by omega)) trivial hK hn
   have h3:¬(n<0):=by omega
   have h4:¬((cap:Int)<n):=by omega
   simp[execOp,hop,aT,v2,Instr.sliceAt,run_underlying ht,Instr.slice,Instr.sliceBounds,Instr.sliceBound,asIntOf,sizeOf,typeInfo,dN,h0,hl,Addr.add]
 ·exact hv.elim
end
end Go.az
namespace Go.az
open Go.RowKit
theorem gm(sz:Nat):∀(n:Nat) (cs:List AV),(chunk sz cs n).length=n
 |0,_=>rfl
 |n+1,cs=>by rw[chunk,List.length_cons,gm sz n]
theorem x8{x:AV}(h:x.bH=true):x.erase0.cells=[x.erase0]∧x.erase0.bH=true:=by cases x<;>first|(cases h;done)|exact⟨rfl,rfl⟩
theorem oU(sz:Nat):∀(n:Nat) (cs:List AV),n*sz≤cs.length→cs.all AV.bH=true→∀x∈chunk sz cs n,x.cells.length=sz∧x.cells.all AV.bH=true
 |0,_,_,_=>by simp[chunk]
 |n+1,cs,h,hc=>by
  intro x hx
  rw[Nat.add_mul,Nat.one_mul] at h
  rcases List.mem_cons.1 hx with rfl|hx
  ·split
   ·rename_i e;subst e
    have hlt:0<cs.length:=by omega
    have hg:(cs.getD 0 .any).bH=true:=by
     rw[List.getD_eq_getElem?_getD,List.getElem?_eq_getElem hlt]
     exact(List.all_eq_true.1 hc) _ (List.getElem_mem _)
    obtain⟨e1,e2⟩:=x8 hg
    rw[e1];exact⟨rfl,by simp only[List.all_cons,List.all_nil,Bool.and_true];exact e2⟩
   ·refine⟨by simp[AV.cells];omega,List.all_eq_true.2 fun y hy=> ?_⟩
    obtain⟨z,hz,rfl⟩:=List.mem_map.1 hy
    exact(x8 ((List.all_eq_true.1 hc) z (List.mem_of_mem_take hz))).2
  ·exact oU sz n (cs.drop sz) (by simp;omega) (List.all_eq_true.2 fun y hy=>(List.all_eq_true.1 hc) y (List.mem_of_mem_drop hy)) x hx
theorem uW(sz:Nat):∀(n:Nat) (cs:List AV),n*sz≤cs.length→cs.all AV.bH=true→(chunk sz cs n).flatMap AV.cells=(cs.take (n*sz)).map AV.erase0
 |0,cs,_,_=>by simp[chunk]
 |n+1,cs,h,hc=>by
  rw[Nat.add_mul,Nat.one_mul] at h
  rw[chunk,List.flatMap_cons,uW sz n (cs.drop sz) (by simp;omega) (List.all_eq_true.2 fun y hy=>(List.all_eq_true.1 hc) y (List.mem_of_mem_drop hy))]
  have e:(n+1)*sz=sz+n*sz:=by rw[Nat.add_mul,Nat.one_mul,Nat.add_comm]
  rw[e,List.take_add,List.map_append]
  congr 1
  split
  ·rename_i e;subst e
   have hlt:0<cs.length:=by omega
   have hg:(cs.getD 0 .any).bH=true:=by
    rw[List.getD_eq_getElem?_getD,List.getElem?_eq_getElem hlt]
    exact(List.all_eq_true.1 hc) _ (List.getElem_mem _)
   rw[(x8 hg).1]
   cases cs with
   |nil=>simp at hlt
   |cons x xs=>simp
  ·rfl
section
variable {P:Program} {N:Nat} {s:St} {a:Act} {w:World} {A:aJ} {sp:Sp} {K:St→Prop} {next:Act→World→Prop} {Q:Exit→Act→World→Prop} {o:Oper} {d:Nat}
def sq(A:aJ)(loc:Nat→Option (List AV)):aJ:=fun b o=>A b o∨∃cs,loc b=some cs∧o<cs.length
theorem MB(h:RS N s a w A sp){x y:AV}{v:Value}(hx:RV w A x v)(hv:nS s.loc x=some y):RV w (sq A s.loc) y v:=by
 have hmono:∀{x:AV} {v:Value},RV w A x v→RV w (sq A s.loc) x v:=fun hx=>hx.mono (fun c o v ha hv=>⟨hv,.inl ha⟩) (.same fun _ _ ha=>.inl ha)
 unfold nS at hv
 split at hv
 ·rename_i b off len cap sz
  split at hv
  ·rename_i cs hb
   split at hv
   ·rename_i hc
    injection hv with hv;subst hv
    simp only[Bool.and_eq_true,decide_eq_true_eq] at hc
    obtain⟨⟨h1,h2⟩,h3⟩:=hc
    obtain⟨vs,T,hh,hsz,hr⟩:=h.loc b cs hb
    cases hx with
    |aP _ _ _ _ _ hlc=>
     have kN:len*sz≤(cs.drop off).length:=by simp;omega
     have gK:(cs.drop off).all AV.bH=true:=List.all_eq_true.2 fun z hz=>(List.all_eq_true.1 h2) z (List.mem_of_mem_drop hz)
     have:=RV.slice (w:=w) (A:=sq A s.loc) sz (chunk sz (cs.drop off) len) 0 b off cap (fun i=>vs.getD (off+i) undef) (fun x hx=>(oU sz len _ kN gK x hx).1) (fun x hx=>(oU sz len _ kN gK x hx).2) (by rw[gm];exact hlc) (by rw[gm];exact h3) (fun i hi=> ?_) (fun i=> ?_)
     ·rw[gm] at this;exact this
     ·rw[gm] at hi
      refine⟨?_,.inr ⟨cs,hb,by omega⟩⟩
      simp[World.cell?,hh,Array.getD_eq_getD_getElem?,Array.getElem?_eq_getElem (show off+i<vs.size by omega)]
     ·rw[uW sz len _ kN gK,gF]
      by_cases hi:i<len*sz
      ·have e3:((cs.drop off).take (len*sz)).getD i .any=cs.getD (off+i) .any:=by simp only[List.getD_eq_getElem?_getD,List.getElem?_take,hi,if_true,List.getElem?_drop]
       rw[e3]
       exact(hmono (hr (off+i)).1).erase0
      ·have e3:((cs.drop off).take (len*sz)).getD i .any=.any:=by simp only[List.getD_eq_getElem?_getD,List.getElem?_take,hi,if_false,Option.getD_none]
       rw[e3]
       exact .any _
   ·cases hv
  ·cases hv
 ·injection hv with hv;subst hv;exact hmono hx
theorem Dz(h:RS N s a w A sp):∀{xs ys:List AV} {vs:List Value},vs.length=xs.length→(∀i,RV w A (xs.getD i .any) (vs.getD i undef))→jv s.loc xs=some ys→ys.length=xs.length∧∀i,RV w (sq A s.loc) (ys.getD i .any) (vs.getD i undef)
 |[],ys,vs,_,_,hv=>by injection hv with hv;subst hv;exact⟨rfl,fun i=>by simp;exact .any _⟩
 |x::xs,ys,[],hl,_,_=>by simp at hl
 |x::xs,ys,v::vs,hl,hr,hv=>by
  unfold jv at hv
  split at hv
  ·rename_i y ys' h1 h2
   injection hv with hv;subst hv
   obtain⟨g1,g2⟩:=Dz h (xs:=xs) (vs:=vs) (by simpa using hl) (fun i=>by simpa using hr (i+1)) h2
   have h0:=MB h (hr 0) h1
   refine⟨by simp[g1],fun i=> ?_⟩
   cases i with
   |zero=>exact h0
   |succ i=>simpa using g2 i
  ·cases hv
theorem DA{f:FuncId}{vs:Array Value}{zs ys:List AV}{u:Value}(hd:o.dst=some d)(hN:d<N)(hlen:vs.size=zs.length)(hz:∀i,RV w A (zs.getD i .any) (vs.getD i undef))
  (hrun:(execOp a.eval o).run P w=(callFunc f vs).run P w)
  (h:RS N s a w A sp)(hvs:jv s.loc zs=some ys)(hfl:flat u=true)(hp:aA P f ys (.lit u))(hK:K (s.set d (.lit u)))(hn:Next s w A sp N K next):o.wp P a w next Q:=by
 obtain⟨g1,g2⟩:=Dz h (xs:=zs) (vs:=vs.toList) (by simp[hlen]) (fun i=>by
  have:=hz i
  simpa[List.getD_eq_getElem?_getD,Array.getD_eq_getD_getElem?] using this) hvs
 unfold Oper.wp
 have hcf:(callFunc f vs).run P w=.ok (.enter f vs) w:=by
  have:=hp.1
  unfold Zn at this
  split at this
  ·rename_i fn hfn
   simp only[Bool.and_eq_true,bne_iff_ne,ne_eq] at this
   unfold callFunc
   simp only[Sem.run_bind,run_program,Result.andThen_ok,hfn]
   have hb:fn.body.isNone=false:=by cases hfb:fn.body with
    |none=>rw[hfb] at this;simp at this
    |some c=>rfl
   have hnm:(fn.name== "runtime.NumGoroutine")=false:=by simpa using this.1
   rw[hnm,hb]
   rfl
  ·cases this
 rw[hrun,hcf,Oper.upon_enter]
 refine(hp.2 w (sq A s.loc) vs (fun b o ha=> ?_) (by rw[g1];simp[hlen]) (fun i=> ?_)).mono ?_
 ·rcases ha with ha|⟨cs,hb,_⟩
  ·exact(h.av b o ha).1
  ·exact h.aas hb
 ·have:=g2 i
  simpa[List.getD_eq_getElem?_getD,Array.getD_eq_getD_getElem?] using this
 ·rintro e w' ⟨v,A',rfl,hf,q1,q2,q3⟩
  obtain⟨k1,k2⟩:=h.call (A':=A) hf (fun _ _ ha=>ha) (fun _ _ ha=>.inl ha)
  rw[hd]
  have MC:v=u:=by cases q3 with|lit _ _=>rfl
  subst MC
  exact hn _ _ _ _ _ hK (k1.put hN (.lit v hfl) trivial) k2
theorem MD{f:FuncId}{xs:Array Operand}{ts:Array TypeId}{ms:List ai}(hop:o.op=.call {callee:=.value (.func f),args:=xs,argTypes:=ts})(hd:o.dst=some d)(hN:d<N)(hx:fE P xs.toList ts.toList=some ms)(h:RS N s a w A sp)(hv:Yp P (.oH d f ms) s K)(hn:Next s w A sp N K next):o.wp P a w next Q:=by
 obtain⟨a1,a2⟩:=mK h hx
 obtain⟨ys,u,hvs,hfl,hp,hK⟩:=hv
 refine DA (vs:=xs.map a.eval) hd hN (by simp[a1]) (fun i=> ?_) ?_ h hvs hfl hp hK hn
 ·have:=a2 i
  simpa[List.getD_eq_getElem?_getD,Array.getD_eq_getD_getElem?] using this
 ·simp[execOp,hop,resolve,Act.eval,Deferred.ofValue,invoke]
theorem ME{t:Tmp}{xs:Array Operand}{ts:Array TypeId}{ms:List ai}(hop:o.op=.call {callee:=.value (.tmp t),args:=xs,argTypes:=ts})(hd:o.dst=some d)(hN:d<N)(hx:fE P xs.toList ts.toList=some ms)(h:RS N s a w A sp)(hv:Yp P (.oI d (.t t) ms) s K)(hn:Next s w A sp N K next):o.wp P a w next Q:=by
 obtain⟨a1,a2⟩:=mK h hx
 have h1:=(h.env t).1
 simp only[Yp] at hv
 split at hv
 ·rename_i f fs cs e1
  obtain⟨ys,u,hvs,hfl,hp,hK⟩:=hv
  replace e1:s.env t=.func (.func f) fs cs:=e1
  rw[e1] at h1
  generalize aT:a.tmps.getD t undef=v0 at h1
  cases h1 with
  |func _ _ _ vf vc eU hsc hf hc=>
   refine DA (vs:=vf++xs.map a.eval++vc) hd hN (by simp[a1,eU,hsc]) (fun i=> ?_) ?_ h hvs hfl hp hK hn
   ·have e2:=lK vf.toList (xs.map a.eval).toList vc.toList i undef
    have e3:=lK fs (ms.map fun x=>(x.ev s.env).erase) cs i .any
    have e4:(vf++xs.map a.eval++vc).getD i undef=(vf.toList++(xs.map a.eval).toList++vc.toList).getD i undef:=by simp[List.getD_eq_getElem?_getD,Array.getD_eq_getD_getElem?,Array.getElem?_append,List.getElem?_append]
    rw[e4,e2,e3]
    simp only[Array.length_toList,eU,Array.size_map,List.length_map,a1]
    split
    ·have:=hf i
     simpa[List.getD_eq_getElem?_getD,Array.getD_eq_getD_getElem?] using this
    ·split
     ·have:=a2 (i - fs.length)
      simpa[List.getD_eq_getElem?_getD,Array.getD_eq_getD_getElem?] using this
     ·have:=hc (i - fs.length - xs.size)
      simpa[List.getD_eq_getElem?_getD,Array.getD_eq_getD_getElem?] using this
   ·simp[execOp,hop,resolve,Act.eval,aT,Deferred.ofValue,invoke]
 ·exact hv.elim
theorem MF{t t' e:TypeId}{i:TypeInfo}{x y:Operand}{mx my:ai}(hop:o.op=.call {callee:=.builtin .copy,args:= #[x,y],argTypes:= #[t,t']})(hd:o.dst=some d)(hN:d<N)
  (hx:aD x=some mx)(hy:aD y=some my)(ht:P.underlying t=some (.slice e))(hi:P.info? e=some i)
  (h:RS N s a w A sp)(hv:Yp P (.nO d mx my i.size) s K)(hn:Next s w A sp N K next):o.wp P a w next Q:=by
 have h1:=(bg h hx).1
 have h2:=(bg h hy).1
 have hex:∀v w',(Builtin.copy_ #[t,t'] o.type #[a.eval x,a.eval y]).run P w=.ok v w'→(execOp a.eval o).run P w=.ok (.value v) w':=by
  intro v w' hr
  simp[execOp,hop,resolve,invoke,builtin,hr]
 simp only[Yp] at hv
 split at hv
 ·rename_i b off len cap sz' b2 off2 iO MG cq e1 e2
  split at hv
  ·rename_i cs bW hb YL
   obtain⟨dx,cK,hoff,Xm,h1c,hK⟩:=hv
   rw[e1] at h1;rw[e2] at h2
   subst cK
   obtain⟨vs,T,hh,hsz,hr⟩:=h.loc b cs hb
   obtain⟨Zs,T2,uX,MH,cH⟩:=h.loc b2 bW YL
   generalize aT:a.eval x=v0 at h1 hex
   cases h1 with
   |aP _ _ _ _ _ hlc=>
    generalize mR:a.eval y=v1 at h2 hex
    cases h2 with
    |aP _ _ _ _ _ Xn=>
     obtain⟨k,hk⟩:∃k,k=Nat.min iO len*i.size:=⟨_,rfl⟩
     have aF:k≤iO*i.size:=by rw[hk];exact Nat.mul_le_mul_right _ (Nat.min_le_left _ _)
     have hk2:k≤len*i.size:=by rw[hk];exact Nat.mul_le_mul_right _ (Nat.min_le_right _ _)
     have cu:((Zs.toList.drop off2).take k).length=k:=by simp;omega
     have Y5:(((bW.drop off2).take k).map AV.erase0).length=k:=by simp;omega
     have hu:∀j,j<k→((Zs.toList.drop off2).take k).getD j undef=Zs.getD (off2+j) undef:=fun j hj=>by simp only[List.getD_eq_getElem?_getD,List.getElem?_take,hj,if_true,List.getElem?_drop,Array.getD_eq_getD_getElem?,Array.getElem?_toList]
     have hone:∀v∈(Zs.toList.drop off2).take k,v.oneCell'=true:=by
      intro v hv
      obtain⟨j,hj,rfl⟩:=List.getElem_of_mem hv
      have hj':j<k:=by omega
      have h3:=(cH (off2+j)).1
      have dP:=hu j hj'
      rw[List.getD_eq_getElem?_getD,List.getElem?_eq_getElem hj,Option.getD_some] at dP
      rw[List.getD_eq_getElem?_getD,List.getElem?_eq_getElem (show off2+j<bW.length by omega),←dP] at h3
      exact h3.uN ((List.all_eq_true.1 h1c) _ (List.getElem_mem _))
     have hrun:=Dw (P:=P) (w:=w) (dT:=t) (sT:=t') (ty:=o.type) (dLen:=len) (dCap:=cap) (sb:=some ⟨b2,off2,none⟩) (sLen:=iO) (sCap:=MG) (off:=off) (cs:=(Zs.toList.drop off2).take k) ht hi hh (by rw[cu,hk])
      (fun q hq j v hj=>by
        injection hq with hq;subst hq
        rw[Addr.gH]
        have hj':j<k:=by have:=(List.getElem?_eq_some_iff.1 hj).1;omega
        rw[List.getElem?_take,if_pos hj',List.getElem?_drop,Array.getElem?_toList] at hj
        simp only[World.cell?,uX,hj];rfl) (fun hn=>by cases hn) (by rw[cu];omega) hone
     rw[cu] at hrun
     have hrow:∀q,RV w A ((splice cs off (((bW.drop off2).take k).map AV.erase0)).getD q .any) ((vs.toList.take off++(Zs.toList.drop off2).take k++vs.toList.drop (off+k)).toArray.getD q undef)∧bN sp ((splice cs off (((bW.drop off2).take k).map AV.erase0)).getD q .any) ((vs.toList.take off++(Zs.toList.drop off2).take k++vs.toList.drop (off+k)).toArray.getD q undef):=by
      intro q
      have e:=oP vs ((Zs.toList.drop off2).take k) off q (by rw[cu];omega)
      rw[cu] at e
      rw[e,lI _ _ _ _ (by rw[Y5];omega),Y5]
      split
      ·rename_i hq
       have hj:q - off<k:=by omega
       rw[gF,hu _ hj]
       have e3:((bW.drop off2).take k).getD (q - off) .any=bW.getD (off2+(q - off)) .any:=by simp only[List.getD_eq_getElem?_getD,List.getElem?_take,hj,if_true,List.getElem?_drop]
       rw[e3]
       exact⟨(cH _).1.erase0,.erase0⟩
      ·exact hr q
     refine fin' (h.setRow hb hh ?_ hrow) (RS.oQ _ _ hb) hd hN (hex _ _ hrun) (.lit _ rfl) trivial ?_ hn
     ·rw[jZ]
      simp only[List.size_toArray,List.length_append,List.length_take,List.length_drop,Array.length_toList]
      omega
     ·rw[hk]
      exact hK
  ·exact hv.elim
 ·exact hv.elim
theorem MI{t e:TypeId}{x hi mx:Operand}{ax ah am:ai}{sz:Nat}(hop:o.op=.slice t x none (some hi) (some mx))(hd:o.dst=some d)(hN:d<N)(hx:aD x=some ax)(hy:aD hi=some ah)(hm:aD mx=some am)
  (ht:P.underlying t=some (.slice e))(hz:ct P e=some sz)
  (h:RS N s a w A sp)(hv:Yp P (.aar d ax ah am sz) s K)(hn:Next s w A sp N K next):o.wp P a w next Q:=by
 have h1:=(bg h hx).1
 have h2:=(bg h hy).1
 have h3:=(bg h hm).1
 simp only[ct,Option.map_eq_some_iff] at hz
 obtain⟨inf,dN,rfl⟩:=hz
 simp only[Yp] at hv
 split at hv
 ·rename_i sz' xs own k k' e1 e2 e3
  rw[e1] at h1;rw[e2] at h2;rw[e3] at h3
  have v2:=h2.cG
  have v3:=h3.cG
  generalize aT:a.eval x=v0 at h1
  cases h1 with
  |cS=>
   refine fin (v:=.slice none 0 0) h hd hN ?_ (.lit _ rfl) trivial (hv.1 rfl) hn
   simp[execOp,hop,aT,v2,v3,Instr.sliceAt,run_underlying ht,Instr.slice,Instr.sliceBounds,Instr.sliceBound,asIntOf,sizeOf,typeInfo,dN]
  |slice _ _ _ b off cap vs hsz h1c hcap hlen hc hr=>
   refine fin (v:=.slice (some ⟨b,off,none⟩) 0 0) h hd hN ?_ (.aP b off 0 0 inf.size (Nat.le_refl _)) trivial (hv.2 b off) hn
   have h5:(0:Int)≤cap:=by omega
   simp[execOp,hop,aT,v2,v3,Instr.sliceAt,run_underlying ht,Instr.slice,Instr.sliceBounds,Instr.sliceBound,asIntOf,sizeOf,typeInfo,dN,Addr.add]
 ·exact hv.elim
theorem MJ{t e:TypeId}{x hi mx:Operand}{ax ah am:ai}{sz:Nat}(hop:o.op=.slice t x none (some hi) (some mx))(hd:o.dst=some d)(hN:d<N)(hx:aD x=some ax)(hy:aD hi=some ah)(hm:aD mx=some am)
  (ht:P.underlying t=some (.slice e))(hz:ct P e=some sz)
  (h:RS N s a w A sp)(hv:Yp P (.js d ax ah am sz) s K)(hn:Next s w A sp N K next):o.wp P a w next Q:=by
 have h1:=(bg h hx).1
 have h2:=(bg h hy).1
 have h3:=(bg h hm).1
 simp only[ct,Option.map_eq_some_iff] at hz
 obtain⟨inf,dN,rfl⟩:=hz
 have qD:d+1≠0:=by omega
 simp only[Yp] at hv
 split at hv
 ·rename_i sz' xs own k i k' j e1 e2 e3
  rw[e1] at h1;rw[e2] at h2;rw[e3] at h3
  have v2:=h2.cG
  have v3:=h3.cG
  obtain⟨⟨hij,fS⟩,hv⟩:=hv
  subst hij
  generalize aT:a.eval x=v0 at h1
  cases h1 with
  |cS=>
   have ZL:i=0:=by rcases fS with h|⟨_,h⟩<;>simpa using h
   subst ZL
   refine fin' (h.aK (d+1)) (Ev.aK (d+1)) hd hN (v:=.slice none 0 0) ?_ (.cS _ _) trivial (by simpa using hv) hn
   simp[execOp,hop,aT,v2,v3,Instr.sliceAt,run_underlying ht,Instr.slice,Instr.sliceBounds,Instr.sliceBound,asIntOf,sizeOf,typeInfo,dN]
  |slice _ _ _ b off cap vs hsz h1c hcap hlen hc hr=>
   obtain⟨n,rfl⟩:∃n:Nat,i=n:=⟨i.toNat,by rcases fS with h|⟨_,h⟩<;>omega⟩
   have sr:n≤xs.length:=by rcases fS with h|⟨_,h⟩<;>omega
   rw[Int.toNat_natCast] at hv
   have MK:RV w A (.slice inf.size (xs.take n) (d+1)) (.slice (some ⟨b,off,none⟩) n n):=by
    have hl:(xs.take n).length=n:=by simp;omega
    rcases fS with h0|⟨hs,h0⟩
    ·have:n=0:=by omega
     subst this
     exact RV.slice inf.size [] (d+1) b off 0 (fun _=>undef) (by simp) (by simp) (Nat.le_refl _) (by simp) (fun i hi=>by simp at hi) (fun i=>by simp;exact .any _)
    ·have:n=xs.length:=by omega
     subst this
     subst hs
     rw[List.take_length]
     exact RV.slice _ xs (d+1) b off xs.length vs hsz h1c (Nat.le_refl _) hlen hc hr
   have h4:=(h.aK (d+1)).uE (d+1) (qt _ _ qD) (qu _ _ qD) b (off+n*inf.size) (off+n*inf.size) (fun hlt=>absurd hlt (Nat.lt_irrefl _)) (fun _ _ hlt=>absurd hlt (Nat.lt_irrefl _)) (fun o' _=>by omega)
   refine fin' h4 ?_ hd hN (v:=.slice (some ⟨b,off,none⟩) n n) ?_ MK ?_ hv hn
   ·refine(Ev.aK (d+1)).trans (.same fun c o' hl=> ?_)
    rcases hl with hl|⟨r,q1,q2,q3⟩
    ·exact .inl hl
    ·refine .inr ⟨r,?_⟩
     simp only[aq] at q1 q2 q3⊢
     split at q2
     ·rename_i e;simp only[e,if_true] at q3;dsimp only at q2 q3;omega
     ·rename_i e;simp only[e,if_false] at q1 q3⊢;exact⟨q1,q2,q3⟩
   ·have h5:¬cap<n:=by omega
    simp[execOp,hop,aT,v2,v3,Instr.sliceAt,run_underlying ht,Instr.slice,Instr.sliceBounds,Instr.sliceBound,asIntOf,sizeOf,typeInfo,dN,Addr.add,h5]
   ·exact .inr (by simp[aq])
 ·exact hv.elim
end
end Go.az
namespace Go.az
open Go.RowKit
section
variable {P:Program} {N:Nat} {s:St} {a:Act} {w:World} {A:aJ} {sp:Sp} {K:St→Prop} {next:Act→World→Prop} {Q:Exit→Act→World→Prop} {o:Oper} {d:Nat}
theorem ML{t e:TypeId}{x lo:Operand}{mx mh:ai}{sz:Nat}(hop:o.op=.slice t x (some lo) none none)(hd:o.dst=some d)(hN:d<N)(hx:aD x=some mx)(hy:aD lo=some mh)
  (ht:P.underlying t=some (.slice e))(hz:ct P e=some sz)
  (h:RS N s a w A sp)(hv:Yp P (.nM d mx mh sz) s K)(hn:Next s w A sp N K next):o.wp P a w next Q:=by
 have h1:=(bg h hx).1
 have h2:=(bg h hy).1
 simp only[ct,Option.map_eq_some_iff] at hz
 obtain⟨inf,dN,rfl⟩:=hz
 simp only[Yp] at hv
 split at hv
 ·rename_i sz' xs own k n e1 e2
  obtain⟨hs,h0,hl,hK⟩:=hv
  rw[e1] at h1;rw[e2] at h2
  have v2:=h2.cG
  have hX:=h1.xU hs
  generalize aT:a.eval x=v0 at hX
  cases hX with
  |cS=>
   have hn0:n=0:=by simp at hl;omega
   subst hn0
   refine fin (v:=.slice none 0 0) h hd hN ?_ (by simp;exact .cS _ _) (by simp;trivial) hK hn
   simp[execOp,hop,aT,v2,Instr.sliceAt,run_underlying ht,Instr.slice,Instr.sliceBounds,Instr.sliceBound,asIntOf,sizeOf,typeInfo,dN]
  |slice _ _ _ b off cap vs hsz h1c hcap hlen hc hr=>
   have nW:n.toNat≤xs.length:=by omega
   have hmul:n.toNat*inf.size≤xs.length*inf.size:=Nat.mul_le_mul_right _ nW
   have hfl:(xs.drop n.toNat).length=xs.length - n.toNat:=by simp
   have hrun:∃a',(execOp a.eval o).run P w=.ok (.value (.slice (some a') (xs.length - n.toNat) (cap - n.toNat))) w∧(n.toNat<cap→a'=⟨b,off+n.toNat*inf.size,none⟩)∧∃off',a'=⟨b,off',none⟩:=by
    refine⟨if cap=n.toNat then ⟨b,off,none⟩ else (⟨b,off,none⟩:Addr).add (n.toNat*inf.size),?_,fun hlt=>by rw[if_neg (by omega),Addr.gH],?_⟩
    ·by_cases MM:cap=n.toNat<;>simp[execOp,hop,aT,v2,Instr.sliceAt,run_underlying ht,Instr.slice,Instr.sliceBounds,Instr.sliceBound,asIntOf,sizeOf,typeInfo,dN,h0,hl,MM]
    ·split
     ·exact⟨off,rfl⟩
     ·exact⟨_,Addr.gH _ _ _⟩
   obtain⟨a',hrun,qE,off',nZ⟩:=hrun
   refine fin h hd hN hrun ?_ (.oF (by intro _ _ _ hh;injection hh with _ _ hh;exact hh.symm)) hK hn
   rw[nZ,←hfl]
   refine .slice _ _ _ _ _ _ (fun i=>vs (n.toNat*inf.size+i)) (fun y hy=>hsz y (List.mem_of_mem_drop hy)) (fun y hy=>h1c y (List.mem_of_mem_drop hy)) (by omega) (by omega) (fun i hi=> ?_) (fun i=> ?_)
   ·rw[hfl,Nat.sub_mul] at hi
    have hlt:n.toNat<cap:=by
     rcases Nat.lt_or_ge n.toNat xs.length with h5|h5
     ·omega
     ·have:=Nat.mul_le_mul_right inf.size h5;omega
    have e5:=qE hlt
    rw[nZ] at e5;injection e5 with _ e5 _
    rw[e5,Nat.add_assoc]
    exact hc _ (by omega)
   ·rw[C7 AV.cells _ xs _ hsz]
    have:=hr (n.toNat*inf.size+i)
    simpa[List.getD_eq_getElem?_getD] using this
 ·exact hv.elim
theorem MN{t:TypeId}{x lo:Operand}{mx ml:ai}(hop:o.op=.slice t x (some lo) none none)(hd:o.dst=some d)(hN:d<N)(ht:P.underlying t=some .string)(hx:aD x=some mx)(hl:aD lo=some ml)(h:RS N s a w A sp)(hv:Yp P (.rY d mx ml) s K)(hn:Next s w A sp N K next):o.wp P a w next Q:=by
 have h1:=(bg h hx).1
 have h2:=(bg h hl).1
 simp only[Yp] at hv
 split at hv
 ·rename_i u k n e1 e2
  obtain⟨c1,c2,hK⟩:=hv
  rw[e1] at h1;rw[e2] at h2
  have v2:=h2.cG
  generalize aT:a.eval x=v0 at h1
  cases h1
  refine fin (v:=.string (u.extract n.toNat u.size)) h hd hN ?_ (.lit _ rfl) trivial hK hn
  simp[execOp,hop,aT,v2,Instr.sliceAt,run_underlying ht,Instr.slice,Instr.sliceBounds,Instr.sliceBound,asIntOf,c1,c2]
 ·exact hv.elim
theorem MO{ts td:TypeId}{x:Operand}{mx:ai}(hop:o.op=.convert ts td x)(hd:o.dst=some d)(hN:d<N)(hs:P.underlying ts=some .string)(ht:P.underlying td=some .string)(hx:aD x=some mx)(h:RS N s a w A sp)(hv:Yp P (.nK d mx) s K)(hn:Next s w A sp N K next):o.wp P a w next Q:=by
 have h1:=(bg h hx).1
 simp only[Yp] at hv
 split at hv
 ·rename_i st e1
  rw[e1] at h1
  exact fin (v:=.string st) h hd hN (by simp[execOp,hop,h1.aaI,convert,run_underlying hs,run_underlying ht]) (.lit _ rfl) trivial hv hn
 ·exact hv.elim
theorem MP{aE:cv}{b:Builtin}{xs:Array Operand}{ts:Array TypeId}{m:Yr}(hop:o.op=.call {callee:=.builtin b,args:=xs,argTypes:=ts})(hd:o.dst=some d)(hN:d<N)(hm:xE P aE b d xs.toList ts.toList=some m)(h:RS N s a w A sp)(hv:Yp P m s K)(hn:Next s w A sp N K next):o.wp P a w next Q:=by
 obtain⟨xs⟩:=xs
 obtain⟨ts⟩:=ts
 simp only[] at hm
 unfold xE at hm
 split at hm
 ·split at hm
  ·rename_i e;subst e
   split at hm
   ·split at hm
    ·split at hm
     ·injection hm with hm;subst hm
      exact Mz hop hd hN ‹_› ‹_› ‹_› ‹_› h hv hn
     ·split at hm
      ·rename_i hc
       injection hm with hm;subst hm
       simp only[Bool.and_eq_true] at hc
       exact Mx hop hd hN ‹_› ‹_› ‹_› ‹_› hc.1 h hv hn
      ·cases hm
    ·cases hm
   ·cases hm
  ·cases hm
 ·cases hm
theorem MQ{b:Builtin}{xs:Array Operand}{ts:Array TypeId}{m:Yr}(hop:o.op=.call {callee:=.builtin b,args:=xs,argTypes:=ts})(hd:o.dst=some d)(hN:d<N)(hm:xF P b d xs.toList ts.toList=some m)(h:RS N s a w A sp)(hv:Yp P m s K)(hn:Next s w A sp N K next):o.wp P a w next Q:=by
 obtain⟨xs⟩:=xs
 obtain⟨ts⟩:=ts
 simp only[] at hm
 unfold xF at hm
 split at hm
 ·split at hm
  ·split at hm
   ·injection hm with hm;subst hm
    exact MF hop hd hN ‹_› ‹_› ‹_› ‹_› h hv hn
   ·cases hm
  ·cases hm
 ·cases hm
theorem MR{b:Builtin}{xs:Array Operand}{ts:Array TypeId}{m:Yr}(hop:o.op=.call {callee:=.builtin b,args:=xs,argTypes:=ts})(hd:o.dst=some d)(hN:d<N)(hm:xD P b d xs.toList ts.toList=some m)(h:RS N s a w A sp)(hv:Yp P m s K)(hn:Next s w A sp N K next):o.wp P a w next Q:=by
 obtain⟨xs⟩:=xs
 obtain⟨ts⟩:=ts
 simp only[] at hm
 unfold xD at hm
 split at hm
 ·
  split at hm
  ·injection hm with hm;subst hm
   exact C6 hop hd hN (.inl ‹_›) h hv hn
  ·simp only[Option.map_eq_some_iff] at hm
   obtain⟨y,hy,rfl⟩:=hm
   exact LF hop hd hN hy ‹_› h hv hn
  ·simp only[Option.map_eq_some_iff] at hm
   obtain⟨y,hy,rfl⟩:=hm
   exact LG hop hd hN hy ‹_› h hv hn
  ·split at hm
   ·injection hm with hm;subst hm
    exact C6 hop hd hN (.inr ⟨_,‹_›,‹_›⟩) h hv hn
   ·cases hm
  ·cases hm
 ·
  split at hm
  ·rename_i e;subst e
   split at hm
   ·split at hm
    ·split at hm
     ·split at hm
      ·rename_i hc
       injection hm with hm;subst hm
       exact L6 hop hd hN ‹_› ‹_› ‹_› ‹_› ‹_› hc.1 hc.2 h hv hn
      ·cases hm
     ·cases hm
    ·cases hm
   ·cases hm
  ·cases hm
 ·
  split at hm
  ·split at hm
   ·injection hm with hm;subst hm
    exact Mq hop hd hN ‹_› ‹_› ‹_› ‹_› h hv hn
   ·cases hm
  ·cases hm
 ·split at hm
  ·injection hm with hm;subst hm
   exact LH hop hd hN ‹_› ‹_› h hv hn
  ·cases hm
 ·split at hm
  ·injection hm with hm;subst hm
   exact LI hop hd hN ‹_› ‹_› h hv hn
  ·cases hm
 ·cases hm
theorem MS{op:BinOp}{t t':TypeId}{x y:Operand}{mx my:ai}{mm:Yr}(hop:o.op=.binOp op t x y t')(hd:o.dst=some d)(hN:d<N)(hx:aD x=some mx)(hy:aD y=some my)(hm:xG P d op t mx my=some mm)(h:RS N s a w A sp)(hv:Yp P mm s K)(hn:Next s w A sp N K next):o.wp P a w next Q:=by
 unfold xG at hm
 split at hm
 ·injection hm with hm;subst hm;exact C3 hop hd hN hx hy h hv hn
 ·injection hm with hm;subst hm;exact C3 hop hd hN hx hy h hv hn
 ·split at hm
  ·injection hm with hm;subst hm;exact C4 hop rfl hd hN hx hy ‹_› h hv hn
  ·injection hm with hm;subst hm;exact C4 hop rfl hd hN hx hy ‹_› h hv hn
  ·cases hm
 ·cases hm
theorem MT{aE:cv}{op:Op}{ty:TypeId}{m:Yr}(hop:o.op=op)(hd:o.dst=some d)(hN:d<N)(hm:xI P aE d op ty=some m)(h:RS N s a w A sp)(hv:Yp P m s K)(hn:Next s w A sp N K next):o.wp P a w next Q:=by
 unfold xI at hm
 split at hm
 ·
  simp only[Option.map_eq_some_iff] at hm
  obtain⟨y,hy,rfl⟩:=hm
  exact Ln hop hd hN hy h hv hn
 ·
  split at hm
  ·injection hm with hm;subst hm
   exact aby hop hd hN h hv hn
  ·injection hm with hm;subst hm
   exact LN hop hd hN h hv hn
 ·
  simp only[Option.map_eq_some_iff] at hm
  obtain⟨y,hy,rfl⟩:=hm
  exact LM hop hd hN hy h hv hn
 ·
  split at hm
  ·injection hm with hm;subst hm
   exact Lo hop hd hN ‹_› ‹_› ‹_› h hv hn
  ·cases hm
 ·
  split at hm
  ·injection hm with hm;subst hm
   exact LS hop hd hN ‹_› h hv hn
  ·cases hm
 ·
  split at hm
  ·split at hm
   ·injection hm with hm;subst hm
    split at hv
    ·exact LQ hop hd hN ‹_› ‹_› h hv hn
    ·exact LP hop hd hN ‹_› ‹_› h hv hn
   ·cases hm
  ·cases hm
 ·
  split at hm
  ·injection hm with hm;subst hm
   exact Lp hop hd hN ‹_› ‹_› h hv hn
  ·cases hm
 ·
  split at hm
  ·split at hm
   ·split at hm
    ·split at hm
     ·cases hm
     ·injection hm with hm;subst hm
      exact Lq hop hd hN ‹_› ‹_› ‹_› ‹_› ‹_› h hv hn
    ·cases hm
   ·cases hm
  ·cases hm
 ·
  split at hm
  ·split at hm
   ·split at hm
    ·injection hm with hm;subst hm
     exact Lt hop hd hN ‹_› ‹_› ‹_› ‹_› h hv hn
    ·cases hm
   ·cases hm
  ·cases hm
 ·
  split at hm
  ·simp only[Option.map_eq_some_iff] at hm
   obtain⟨n,nW,rfl⟩:=hm
   exact Lr hop hd hN ‹_› ‹_› ‹_› nW h hv hn
  ·simp only[Option.map_eq_some_iff] at hm
   obtain⟨n,nW,rfl⟩:=hm
   exact Ls hop hd hN ‹_› ‹_› ‹_› nW h hv hn
  ·cases hm
 ·
  split at hm
  ·injection hm with hm;subst hm
   exact Lv hop hd hN ‹_› ‹_› ‹_› h hv hn
  ·split at hm
   ·injection hm with hm;subst hm
    exact Lu hop hd hN ‹_› ‹_› ‹_› ‹_› ‹_› h hv hn
   ·cases hm
  ·cases hm
 ·
  split at hm
  ·split at hm
   ·split at hm
    ·rename_i hall
     simp only[Option.map_eq_some_iff] at hm
     obtain⟨qs,hq,rfl⟩:=hm
     refine Mb hop hd hN ‹_› ‹_› (fun f hf=> ?_) hq h hv hn
     have:=(List.all_eq_true.1 hall) f hf
     exact Option.isSome_iff_exists.1 this
    ·cases hm
   ·split at hm
    ·split at hm
     ·simp only[Option.map_eq_some_iff] at hm
      obtain⟨qs,hq,rfl⟩:=hm
      exact Md hop hd hN ‹_› ‹_› ‹_› ‹_› hq h hv hn
     ·cases hm
    ·cases hm
   ·cases hm
  ·cases hm
 ·
  split at hm
  ·split at hm
   ·split at hm
    ·split at hm
     ·rename_i hc
      injection hm with hm;subst hm
      simp only[Bool.and_eq_true,beq_iff_eq] at hc
      exact Mt hop hd hN ‹_› ‹_› hc.1.1 hc.1.2 hc.2 h hv hn
     ·cases hm
    ·cases hm
   ·cases hm
  split at hm
  ·split at hm
   ·split at hm
    ·rename_i hc
     injection hm with hm;subst hm
     simp only[Bool.and_eq_true,decide_eq_true_eq] at hc
     exact Mg hop hd hN hc.1.1 ‹_› ‹_› hc.1.2 hc.2 ‹_› h hv hn
    ·cases hm
   ·cases hm
  ·cases hm
 ·
  split at hm
  ·split at hm
   ·injection hm with hm;subst hm
    exact MS hop hd hN ‹_› ‹_› ‹_› h hv hn
   ·split at hm
    ·injection hm with hm;subst hm
     exact Dt hop rfl hd hN ‹_› ‹_› ‹_› h hv hn
    ·injection hm with hm;subst hm
     exact Dt hop rfl hd hN ‹_› ‹_› ‹_› h hv hn
    ·unfold CT at hm
     split at hm
     ·injection hm with hm;subst hm
      exact C5 hop rfl hd hN ‹_› ‹_› h hv hn
     ·injection hm with hm;subst hm
      exact C5 hop rfl hd hN ‹_› ‹_› h hv hn
     ·cases hm
  ·cases hm
 ·simp only[Option.map_eq_some_iff] at hm
  obtain⟨y,hy,rfl⟩:=hm
  exact LA hop hd hN hy h hv hn
 ·simp only[Option.map_eq_some_iff] at hm
  obtain⟨y,hy,rfl⟩:=hm
  exact LB hop hd hN hy h hv hn
 ·
  split at hm
  ·injection hm with hm;subst hm
   exact LC hop hd hN ‹_› ‹_› ‹_› h hv hn
  ·injection hm with hm;subst hm
   exact MO hop hd hN ‹_› ‹_› ‹_› h hv hn
  ·cases hm
 ·simp only[Option.map_eq_some_iff] at hm
  obtain⟨y,hy,rfl⟩:=hm
  exact LD hop hd hN hy h hv hn
 ·simp only[Option.map_eq_some_iff] at hm
  obtain⟨y,hy,rfl⟩:=hm
  exact LK hop hd hN hy h hv hn
 ·
  split at hm
  ·injection hm with hm;subst hm
   exact LJ hop hd hN ‹_› ‹_› h hv hn
  ·cases hm
 ·split at hm
  ·split at hm
   ·injection hm with hm
    split at hm
    ·subst hm
     exact MA hop hd hN ‹_› ‹_› ‹_› ‹_› h hv hn
    ·subst hm
     exact LL hop hd hN ‹_› ‹_› ‹_› ‹_› h hv hn
   ·cases hm
  ·cases hm
 ·split at hm
  ·split at hm
   ·injection hm with hm
    split at hm
    ·subst hm
     exact MI hop hd hN ‹_› ‹_› ‹_› ‹_› ‹_› h hv hn
    ·subst hm
     exact MJ hop hd hN ‹_› ‹_› ‹_› ‹_› ‹_› h hv hn
   ·cases hm
  ·cases hm
 ·split at hm
  ·split at hm
   ·injection hm with hm;subst hm
    exact ML hop hd hN ‹_› ‹_› ‹_› ‹_› h hv hn
   ·cases hm
  ·split at hm
   ·injection hm with hm;subst hm
    exact MN hop hd hN ‹_› ‹_› ‹_› h hv hn
   ·cases hm
  ·cases hm
 ·
  split at hm
  ·split at hm
   ·split at hm
    ·injection hm with hm;subst hm
     exact Mp hop hd hN ‹_› ‹_› ‹_› ‹_› ‹_› h hv hn
    ·cases hm
   ·cases hm
  ·cases hm
 ·
  rename_i c
  obtain⟨callee,args,argTypes⟩:=c
  simp only[] at hm
  split at hm
  ·split at hm
   ·exact MP hop hd hN hm h hv hn
   ·split at hm
    ·exact MQ hop hd hN hm h hv hn
    ·exact MR hop hd hN hm h hv hn
  ·simp only[Option.map_eq_some_iff] at hm
   obtain⟨ms,fI,hm⟩:=hm
   split at hm
   ·subst hm
    exact MD hop hd hN fI h hv hn
   ·subst hm
    exact Mn hop hd hN fI h hv hn
  ·simp only[Option.map_eq_some_iff] at hm
   obtain⟨ms,fI,hm⟩:=hm
   split at hm
   ·subst hm
    exact ME hop hd hN fI h hv hn
   ·subst hm
    exact Mo hop hd hN fI h hv hn
  ·cases hm
 ·cases hm
end
end Go.az
