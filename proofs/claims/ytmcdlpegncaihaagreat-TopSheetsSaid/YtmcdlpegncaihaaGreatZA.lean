/- The abstract values of the layer Avm, what they say of a world, and how they last. Parties over one world; a call that is part of its caller's party. The resolved code of the layer Avm, and what is to be shown of it. How the state of the layer Avm stands to a world that is written, and the shape of one operation's proof. From the model's operations to the resolved ones. Each resolved operation is sound: those that leave the world alone. Each resolved operation is sound: arithmetic and the rest of those that leave the world alone. Each resolved operation is sound: those that make or write. Each resolved operation is sound: stores, literals, appends, calls. Each resolved operation is sound: appends, literals, calls. Each resolved operation is sound: appends. Each resolved operation is sound: literals, calls. Each resolved operation is sound: literals of slices, calls. Each resolved operation is sound: structs compared, calls, guards; a region in the text's order. Each resolved operation is sound: a slice is made; a slice is copied into a mutable one. Each resolved operation is sound: a slice with no room is made; what is appended to it makes a slice that may be written. Each resolved operation is sound: calls and copies that look at a mutable slice. The resolved operations are sound. -/
import Derived.Calls
import Derived.RangeFuncNested
import Derived.OrdersIn
import Derived.KernelRfl
import Derived.WalkKit
import Derived.Laws.StructEq
import Derived.ChangeKeysEq
import Derived.Laws.MakeOwn
import Derived.Laws.CopyRow
namespace Go.Z4
inductive AV where
 |any
 |lit (v:Value)
 |slice (sz:Nat) (xs:List AV) (own:Nat)
 |ref (cells:List AV)
 |aj (b off:Nat)
 |aq (b off len cap sz:Nat)
 |agg (cells:List AV)
 |tuple (vs:List AV)
 |func (fn:Fn) (first cap:List AV)
 |ghost (l:Nat) (rest:List (List AV)) (stop:Bool)
 |aZ (b:Nat)
 |fmap (es:List (List AV))
 deriving Inhabited
def AV.cells:AV→List AV
 |.agg cs=>cs
 |.any=>[]
 |.ghost .. =>[]
 |v=>[v]
def AV.bE:AV→Bool
 |.lit _|.slice .. |.ref _|.aj .. |.aq .. |.func .. |.aZ _|.fmap _=>true
 |_=>false
def flat:Value→Bool
 |.bool _|.int _ _|.string _|.pointer none|.nilFunc|.nilIface|.map none|.slice none 0 0=>true
 |_=>false
abbrev aK:=Nat→Nat→Prop
inductive RV (w:World) (A:aK):AV→Value→Prop
 |any (v:Value):RV w A .any v
 |ghost (l:Nat) (rest:List (List AV)) (stop:Bool) (v:Value):RV w A (.ghost l rest stop) v
 |lit (v:Value) (h:flat v=true):RV w A (.lit v) v
 |cH (sz own:Nat):RV w A (.slice sz [] own) (.slice none 0 0)
 |slice (sz:Nat) (xs:List AV) (own b off cap:Nat) (vs:Nat→Value)
   (hsz:∀x∈xs,x.cells.length=sz) (h1c:∀x∈xs,x.cells.all AV.bE=true) (hcap:xs.length≤cap) (hlen:xs.length≤140737488355328)
   (hc:∀i,i<xs.length*sz→w.cell? ⟨b,off+i,none⟩=some (vs i)∧A b (off+i))
   (hr:∀i,RV w A ((xs.flatMap AV.cells).getD i .any) (vs i)):
   RV w A (.slice sz xs own) (.slice (some ⟨b,off,none⟩) xs.length cap)
 |ref (cs:List AV) (b off:Nat) (vs:Nat→Value)
   (hc:∀i,i<cs.length→w.cell? ⟨b,off+i,none⟩=some (vs i)∧A b (off+i))
   (hr:∀i,RV w A (cs.getD i .any) (vs i)):RV w A (.ref cs) (.pointer (some ⟨b,off,none⟩))
 |aj (b off:Nat):RV w A (.aj b off) (.pointer (some ⟨b,off,none⟩))
 |aZ (b:Nat):RV w A (.aZ b) (.map (some b))
 |fmap (es:List (List AV)) (b:Nat) (es':Array MapEntry) (clock:Nat) (h:w.heap[b]? =some (.map es' clock)) (ha:∀o,A b o) (hs:es'.size=es.length) (hk:∀i e,es'[i]? =some e→RV w A ((es.getD i []).getD 0 .any) e.key) (hv:∀i e,es'[i]? =some e→RV w A ((es.getD i []).getD 1 .any) e.val):RV w A (.fmap es) (.map (some b))
 |aq (b off len cap sz:Nat) (h:len≤cap):RV w A (.aq b off len cap sz) (.slice (some ⟨b,off,none⟩) len cap)
 |agg (xs:List AV) (vs:Array Value) (hs:vs.size=xs.length) (hr:∀i,RV w A (xs.getD i .any) (vs.getD i undef)):RV w A (.agg xs) (.agg vs)
 |tuple (xs:List AV) (vs:Array Value) (hs:vs.size=xs.length) (hr:∀i,RV w A (xs.getD i .any) (vs.getD i undef)):RV w A (.tuple xs) (.tuple vs)
 |func (fn:Fn) (fs cs:List AV) (vf vc:Array Value) (eJ:vf.size=fs.length) (hsc:vc.size=cs.length)
   (hf:∀i,RV w A (fs.getD i .any) (vf.getD i undef)) (hc:∀i,RV w A (cs.getD i .any) (vc.getD i undef)):
   RV w A (.func fn fs cs) (.func fn vf vc)
theorem cc{w:World}{b:Nat}{o:Obj}(h:w.heap[b]? =some o):b<w.heap.size:=(Array.getElem?_eq_some_iff.1 h).1
def gF(w w':World)(A A':aK):Prop:=∀b ob,(∀o,A b o)→w.heap[b]? =some ob→w'.heap[b]? =some ob∧∀o,A' b o
theorem gF.same{w:World}{A A':aK}(h:∀b o,A b o→A' b o):gF w w A A':=fun b _ ha hb=>⟨hb,fun o=>h b o (ha o)⟩
theorem gF.blocks{w w':World}{A A':aK}(h:∀b o,A b o→A' b o)(hb:∀b,(∀o,A b o)→b<w.heap.size→w'.heap[b]? =w.heap[b]?):gF w w' A A':=fun b _ ha cm=>⟨(hb b ha (cc cm)).trans cm,fun o=>h b o (ha o)⟩
theorem RV.mono{w w':World}{A A':aK}(h:∀b o v,A b o→w.cell? ⟨b,o,none⟩=some v→w'.cell? ⟨b,o,none⟩=some v∧A' b o)(ho:gF w w' A A'){x:AV}{v:Value}(hr:RV w A x v):RV w' A' x v:=by
 induction hr with
 |any v=>exact .any v
 |ghost l rest stop v=>exact .ghost l rest stop v
 |lit v hf=>exact .lit v hf
 |cH sz own=>exact .cH sz own
 |slice sz xs own b off cap vs hsz h1c hcap hlen hc _ ih=>
  exact .slice sz xs own b off cap vs hsz h1c hcap hlen (fun i hi=>h _ _ _ (hc i hi).2 (hc i hi).1) ih
 |ref cs b off vs hc _ ih=>exact .ref cs b off vs (fun i hi=>h _ _ _ (hc i hi).2 (hc i hi).1) ih
 |aj b off=>exact .aj b off
 |aZ b=>exact .aZ b
 |fmap es b es' clock hb ha hs _ _ LA LB=>exact .fmap es b es' clock (ho b _ ha hb).1 (ho b _ ha hb).2 hs LA LB
 |aq b off len cap sz hl=>exact .aq b off len cap sz hl
 |agg xs vs hs _ ih=>exact .agg xs vs hs ih
 |tuple xs vs hs _ ih=>exact .tuple xs vs hs ih
 |func fn fs cs vf vc eJ hsc _ _ LC ur=>exact .func fn fs cs vf vc eJ hsc LC ur
theorem RV.own{w:World}{A:aK}{sz:Nat}{xs:List AV}{r r':Nat}{v:Value}(h:RV w A (.slice sz xs r) v):RV w A (.slice sz xs r') v:=by
 cases h with
 |cH=>exact .cH sz r'
 |slice _ _ _ b off cap vs hsz h1c hcap hlen hc hr=>exact .slice sz xs r' b off cap vs hsz h1c hcap hlen hc hr
def az(r:Nat):AV→AV
 |.slice sz xs r'=>if r'=r then .slice sz xs 0 else .slice sz xs r'
 |x=>x
def AV.erase0:AV→AV
 |.slice sz xs _=>.slice sz xs 0
 |x=>x
def AV.erase:AV→AV
 |.slice sz xs _=>.slice sz xs 0
 |.agg cs=>.agg (cs.map AV.erase0)
 |x=>x
theorem RV.az{w:World}{A:aK}{x:AV}{v:Value}(r:Nat)(h:RV w A x v):RV w A (az r x) v:=by
 cases x with
 |slice sz xs r'=>simp only[Z4.az];split;exact h.own;exact h
 |_=>exact h
theorem RV.erase0{w:World}{A:aK}{x:AV}{v:Value}(h:RV w A x v):RV w A x.erase0 v:=by
 cases x with
 |slice sz xs r'=>exact h.own
 |_=>exact h
theorem gj(l:List AV)(i:Nat):(l.map AV.erase0).getD i .any=(l.getD i .any).erase0:=by
 simp only[List.getD_eq_getElem?_getD,List.getElem?_map]
 cases l[i]? <;>rfl
theorem RV.erase{w:World}{A:aK}{x:AV}{v:Value}(h:RV w A x v):RV w A x.erase v:=by
 cases x with
 |slice sz xs r'=>exact h.own
 |agg cs=>cases h with
  |agg _ vs hs hr=>exact .agg _ _ (by simpa using hs) fun i=>by rw[gj];exact(hr i).erase0
 |_=>exact h
theorem xu(x:AV):x.erase.cells=x.cells.map AV.erase0:=by cases x<;>rfl
abbrev Sp:=Nat→Nat×Nat×Nat
def spare(sp:Sp):aK:=fun b o=>∃r,(sp r).1=b∧(sp r).2.1≤o∧o<(sp r).2.2
structure St where
 env:Nat→AV
 loc:Nat→Option (List AV)
def live(loc:Nat→Option (List AV))(sp:Sp):aK:=fun b o=>loc b≠none∨spare sp b o
def bV(sp:Sp):AV→Value→Prop
 |.slice sz _ r,.slice (some a) len cap=>r=0∨sp r=(a.block,a.off+len*sz,a.off+cap*sz)
 |_,_=>True
structure RS (N:Nat) (s:St) (a:Act) (w:World) (A:aK) (sp:Sp):Prop where
 size:a.tmps.size=N
 defers:a.defers=[]
 env:∀d,RV w A (s.env d) (a.tmps.getD d undef)∧bV sp (s.env d) (a.tmps.getD d undef)
 loc:∀b cs,s.loc b=some cs→∃vs T,w.heap[b]? =some (.cells vs T (0,0))∧vs.size=cs.length∧∀i,RV w A (cs.getD i .any) (vs.getD i undef)∧bV sp (cs.getD i .any) (vs.getD i undef)
 bW:∀r,(sp r).2.1<(sp r).2.2→(∃vs T,w.heap[(sp r).1]? =some (.cells vs T (0,0))∧(sp r).2.2≤vs.size)∧s.loc (sp r).1=none
 spd:∀r r',r≠r'→(sp r).2.1<(sp r).2.2→(sp r').2.1<(sp r').2.2→(sp r).1=(sp r').1→(sp r).2.2≤(sp r').2.1∨(sp r').2.2≤(sp r).2.1
 av:∀b o,A b o→b<w.heap.size∧¬live s.loc sp b o
structure Ev (w:World) (A L:aK) (w':World) (A' L':aK):Prop where
 os:w'.os=w.os
 tape:w'.tape=w.tape
 output:w'.output=w.output
 size:w.heap.size≤w'.heap.size
 cell:∀b o,b<w.heap.size→¬L b o→w'.cell? ⟨b,o,none⟩=w.cell? ⟨b,o,none⟩∧¬L' b o
 block:∀b,b<w.heap.size→(∀o,¬L b o)→w'.heap[b]? =w.heap[b]?
 sub:∀b o,A b o→A' b o
 sup:∀b o,A' b o→A b o∨L b o∨w.heap.size≤b
theorem Ev.refl(w:World)(A L:aK):Ev w A L w A L:=⟨rfl,rfl,rfl,Nat.le_refl _,fun _ _ _ h=>⟨rfl,h⟩,fun _ _ _=>rfl,fun _ _ h=>h,fun _ _ h=>.inl h⟩
theorem Ev.trans{w w1 w2:World}{A L A1 L1 A2 L2:aK}(h:Ev w A L w1 A1 L1)(k:Ev w1 A1 L1 w2 A2 L2):Ev w A L w2 A2 L2 where
 os:=k.os.trans h.os
 tape:=k.tape.trans h.tape
 output:=k.output.trans h.output
 size:=Nat.le_trans h.size k.size
 cell b o hb hl:=by
  have h1:=h.cell b o hb hl
  have h2:=k.cell b o (Nat.lt_of_lt_of_le hb h.size) h1.2
  exact⟨h2.1.trans h1.1,h2.2⟩
 block b hb hl:=(k.block b (Nat.lt_of_lt_of_le hb h.size) fun o=>(h.cell b o hb (hl o)).2).trans (h.block b hb hl)
 sub b o ha:=k.sub b o (h.sub b o ha)
 sup b o ha:=by
  rcases k.sup b o ha with h1|h1|h1
  ·exact h.sup b o h1
  ·by_cases hb:b<w.heap.size
   ·by_cases hl:L b o
    ·exact .inr (.inl hl)
    ·exact absurd h1 (h.cell b o hb hl).2
   ·exact .inr (.inr (by omega))
  ·exact .inr (.inr (Nat.le_trans h.size h1))
theorem Ev.kept{w w':World}{A L A' L':aK}(h:Ev w A L w' A' L')(hd:∀b o,A b o→b<w.heap.size∧¬L b o):gF w w' A A':=.blocks h.sub fun b ha hb=>h.block b hb fun o=>(hd b o (ha o)).2
theorem Ev.mono{w w':World}{A L A' L':aK}(h:Ev w A L w' A' L')(hd:∀b o,A b o→b<w.heap.size∧¬L b o){x:AV}{v:Value}(hr:RV w A x v):RV w' A' x v:=hr.mono (fun b o _ ha hc=>⟨((h.cell b o (hd b o ha).1 (hd b o ha).2).1).trans hc,h.sub b o ha⟩) (h.kept hd)
def ak{α:Type}(f:Nat→α)(d:Nat)(x:α):Nat→α:=fun k=>if k=d then x else f k
theorem cI{α:Type}(f:Nat→α)(d:Nat)(x:α):ak f d x d=x:=by simp[ak]
theorem Z5{α:Type}(f:Nat→α){d k:Nat}(x:α)(h:k≠d):ak f d x k=f k:=by simp[ak,h]
theorem p0{α:Type}(f:Nat→α){d d':Nat}(x y:α)(h:d≠d'):ak (ak f d x) d' y=ak (ak f d' y) d x:=by funext k;simp only[ak];split<;>split<;>simp_all
theorem RS.put{N:Nat}{s:St}{a:Act}{w:World}{A:aK}{sp:Sp}(h:RS N s a w A sp){d:Nat}(hd:d<N){x:AV}{v:Value}(hr:RV w A x v)(ho:bV sp x v):RS N {s with env:=ak s.env d x} (a.put (some d) v) w A sp where
 size:=by simp[Act.put,h.size]
 defers:=h.defers
 env k:=by
  by_cases hk:k=d
  ·subst hk
   have:(a.tmps.setIfInBounds k v).getD k undef=v:=by simp[Array.getD_eq_getD_getElem?,h.size,hd]
   simp only[Act.put,this,cI];exact⟨hr,ho⟩
  ·have:(a.tmps.setIfInBounds d v).getD k undef=a.tmps.getD k undef:=by simp[Array.getD_eq_getD_getElem?,Ne.symm hk]
   simp only[Act.put,this,Z5 _ _ hk];exact h.env k
 loc:=h.loc
 bW:=h.bW
 spd:=h.spd
 av:=h.av
theorem bV.nr{sp:Sp}{x:AV}{v:Value}(h:∀sz xs r,x=.slice sz xs r→r=0):bV sp x v:=by
 cases x with
 |slice sz xs r=>cases v with
  |slice a len cap=>cases a with
   |some a=>exact .inl (h _ _ _ rfl)
   |none=>trivial
  |_=>trivial
 |_=>trivial
theorem bV.erase{sp:Sp}{x:AV}{v:Value}:bV sp x.erase v:=.nr (by intro sz xs r h;cases x<;>simp_all [AV.erase])
theorem bV.erase0{sp:Sp}{x:AV}{v:Value}:bV sp x.erase0 v:=.nr (by intro sz xs r h;cases x<;>simp_all [AV.erase0])
end Go.Z4
namespace Go.Z4
open Go.RowKit
def aaP(P:Program)(f:FuncId):Bool:=
 match P.funcs[f]? with
 |some fn=>fn.name != "runtime.NumGoroutine" &&fn.body.isSome
 |none=>false
@[irreducible] def gS:Nat:=1000000
@[irreducible] def oS:Nat:=1000001
def aaU(t:ByteArray)(pos:Nat):AV:=.ghost pos [[.lit (.string t)]] true
def a_(es:List (List AV)):AV:=.ghost 0 es false
def aaQ(b since:Nat)(seen:List Nat):AV:=.ghost b [[.lit (.int .i64 since)],seen.map fun(i:Nat)=>.lit (.int .i64 i)] true
def fR:AV→Bool
 |.any=>true
 |.ghost .. =>true
 |_=>false
abbrev Fw(ro:Option Nat):Fence:={Fence.wide with round:=ro}
structure j7 (w w':World) (A A' Lx:aK):Prop where
 os:w'.os=w.os
 tape:w'.tape=w.tape
 output:w'.output=w.output
 size:w.heap.size≤w'.heap.size
 lW:∀b o,Lx b o→w'.heap[b]? =w.heap[b]?
 cell:∀b o v,A b o→w.cell? ⟨b,o,none⟩=some v→w'.cell? ⟨b,o,none⟩=some v
 sub:∀b o,A b o→A' b o
 nt:∀b o,A' b o→b<w'.heap.size∧¬Lx b o
 obj:gF w w' A A'
def join(L M:aK):aK:=fun b o=>L b o∨M b o
abbrev xw(X:AV→World→aK→aK→Prop):Prop:=∀gh w w' A A' Lx,X gh w A Lx→j7 w w' A A' Lx→X gh w' A' Lx
abbrev uu(P:Program)(X:AV→World→aK→aK→Prop):Prop:=
 ∀l y rest w A Lx vs,X (.ghost l (y::rest) false) w A Lx→(∀b o,Lx b o→b<w.heap.size)→(∀b o,A b o→b<w.heap.size∧¬Lx b o)→
  vs.size=y.length→(∀i,RV w A (y.getD i .any) (vs.getD i undef))→
  ∃fn tmps assign body,(Instr.yield l vs).run P w=.ok (.round l fn tmps assign body) w∧RoundIn (Fw none) 0 P l fn tmps assign body w fun e w'=>∃b A' bp,e=.returned (.bool b)∧Ev w A Lx w' A' bp∧(∀b o,bp b o→b<w'.heap.size)∧(∀b o,A' b o→b<w'.heap.size∧¬bp b o)∧X (.ghost l rest (!b)) w' A' bp
def mark(pos:Nat):AV:=.lit (.agg #[.int .i64 pos])
def noMark(y:List AV):Bool:=match y.getLast? with
 |some (.lit (.agg _))=>false
 |_=>true
def putAt(x:AV)(pos:Nat)(v:AV):AV:=match x,pos with
 |.agg cs,j+1=>.agg (cs.set j v)
 |_,_=>v
def LD(x:AV)(pos:Nat):AV:=match x,pos with
 |.agg cs,j+1=>cs.getD j .any
 |x,_=>x
def chunk(sz:Nat):List AV→Nat→List AV
 |_,0=>[]
 |cs,n+1=>(if sz=1 then (cs.getD 0 .any).erase0 else .agg ((cs.take sz).map AV.erase0))::chunk sz (cs.drop sz) n
def kY(b:Nat):aK:=fun c _=>c=b
def dA(w:World)(A:aK)(b:Nat)(cs:List AV):Prop:=∃vs T,w.heap[b]? =some (.cells vs T (0,0))∧vs.size=cs.length∧∀i,RV w A (cs.getD i .any) (vs.getD i undef)
def kZ(x:AV)(pos sz len cap:Nat)(cs:List AV):Prop:=LD x pos=.slice sz (chunk sz cs len) 0∧len*sz≤cs.length∧len≤cap∧len≤140737488355328∧cs.all AV.bE=true∧cs.map AV.erase0=cs
abbrev uv(P:Program)(X:AV→World→aK→aK→Prop):Prop:=
 ∀l x pos rest w A Lx v b sz len cap cs,X (.ghost l ([x,mark pos]::rest) false) w A Lx→kZ x pos sz len cap cs→(∀b o,Lx b o→b<w.heap.size)→(∀b o,A b o→b<w.heap.size∧¬Lx b o)→
  RV w A (putAt x pos (.aq b 0 len cap sz)) v→dA w A b cs→(∀o,¬A b o)→(∀o,¬Lx b o)→
  ∃fn tmps assign body,(Instr.yield l #[v]).run P w=.ok (.round l fn tmps assign body) w∧RoundIn (Fw none) 0 P l fn tmps assign body w fun e w'=>∃bo A' bp,e=.returned (.bool bo)∧Ev w A (join Lx (kY b)) w' A' (join bp (kY b))∧(∀b o,bp b o→b<w'.heap.size)∧(∀b o,A' b o→b<w'.heap.size∧¬bp b o)∧(∀o,¬A' b o)∧(∀o,¬bp b o)∧dA w' A' b cs∧X (.ghost l rest (!bo)) w' A' bp
structure Ctx (P:Program) where
 N:Nat
 B:Nat
 ro:Option Nat
 X:AV→World→aK→aK→Prop
 st:xw X
 yl:uu P X
 xx:uv P X
inductive gm (w:World) (A:aK) (b:Nat):AV→Prop
 |any:gm w A b .any
 |iter (t:ByteArray) (pos:Nat) (h:w.heap[b]? =some (.stringIter t pos)):gm w A b (aaU t pos)
 |map (es:List (List AV)) (es':Array MapEntry) (clock:Nat) (h:w.heap[b]? =some (.map es' clock)) (hs:es'.size=es.length) (hc:clock=es'.size) (hr:∀i e,es'[i]? =some e→RV w A ((es.getD i []).getD 0 .any) e.key∧RV w A ((es.getD i []).getD 1 .any) e.val∧e.born=i):gm w A b (a_ es)
 |nu (b' since:Nat) (seen:List Nat) (h:w.heap[b]? =some (.mapIter (some b') since seen.toArray since)):gm w A b (aaQ b' since seen)
def cv(s:St):aK:=fun b _=>s.env (oS+b)≠.any
def held(s:St)(sp:Sp):aK:=join (live s.loc sp) (cv s)
structure GS {P:Program} (C:Ctx P) (Pt:List (Nat×Obj)) (s:St) (a:Act) (w:World) (A Lx:aK) (sp:Sp):Prop where
 rs:RS C.N s ⟨a.tmps,[]⟩ w A sp
 ig:∀k,gS≤k→fR (s.env k)=true
 lt:∀b o,Lx b o→b<w.heap.size
 ap:∀b o o',held s sp b o→¬Lx b o'
 av:∀b o,A b o→¬Lx b o
 x:C.X (s.env gS) w A Lx
 pt:∀p∈Pt,w.heap[p.1]? =some p.2∧p.2.isCells=false∧(∀o,¬Lx p.1 o)∧(∀o,¬A p.1 o)∧s.env (oS+p.1)=.any
 ob:∀b,gm w A b (s.env (oS+b))
 oa:∀b o,cv s b o→¬A b o
 bs:C.B≤w.heap.size
 dn:(a.defers.map (·.target)).Nodup
 df:∀d∈a.defers,∃D,C.B≤D∧d=⟨.collected D,#[]⟩∧(D,.deferred (some []))∈Pt
 ro:∀l,C.ro=some l→∃r,(l,.loop r)∈Pt
def d_(P:Program)(f:FuncId)(xs:List AV)(s:St)(K:AV→St→Prop):Prop:=aaP P f=true∧∀(C:Ctx P) (Pt:List (Nat×Obj)) (a:Act) (w:World) (A Lx:aK) (sp:Sp) (vs:Array Value),C.N≤gS→GS C Pt s a w A Lx sp→vs.size=xs.length→(∀i,RV w A (xs.getD i .any) (vs.getD i undef))→Calls P f vs w fun e w'=>∃r v s' A' bp sp',e=.returned v∧RV w' A' r v∧bV sp' r v∧GS C Pt s' a w' A' bp sp'∧Ev w A (join (held s sp) Lx) w' A' (join (held s' sp') bp)∧K r s'
theorem d_.mono{P:Program}{f:FuncId}{xs:List AV}{s:St}{K K':AV→St→Prop}(hk:∀r s',K r s'→K' r s')(h:d_ P f xs s K):d_ P f xs s K':=by
 refine⟨h.1,fun C Pt a w A Lx sp vs hN hG hs hr=>(h.2 C Pt a w A Lx sp vs hN hG hs hr).mono ?_⟩
 rintro e w' ⟨r,v,s',A',bp,sp',h1,h2,h3,h4,h5,h6⟩
 exact⟨r,v,s',A',bp,sp',h1,h2,h3,h4,h5,hk _ _ h6⟩
end Go.Z4
namespace Go.Z4
inductive ai where
 |t (n:Nat)
 |c (x:AV)
 deriving Inhabited
def ai.ev(e:Nat→AV):ai→AV
 |.t n=>e n
 |.c x=>x
inductive au where
 |aa (d:Nat) (x:ai)
 |abf (d:Nat) (x:ai)
 |ag (d:Nat) (x:ai)
 |bK (d sz:Nat)
 |aV (d:Nat) (x:ai) (n:Nat)
 |j8 (d:Nat) (x:ai) (n:Nat)
 |alloc (d:Nat) (zero:List AV)
 |load (d:Nat) (x:ai) (n:Option Nat)
 |store (x y:ai) (n aP:Nat)
 |jG (x:ai) (sz aP:Nat)
 |bH (k:Nat) (y:ai) (n:Nat)
 |addr (d:Nat) (x:ai) (off:Nat)
 |aO (d:Nat) (x i:ai) (sz:Nat)
 |cW (d:Nat) (x i:ai) (len sz:Nat)
 |fld (d:Nat) (x:ai) (off:Nat) (n:Option Nat)
 |iB (d:Nat) (x i:ai) (len sz:Nat) (n:Option Nat)
 |aas (d:Nat) (x i:ai)
 |build (d:Nat) (zero:List AV) (parts:List (Nat×Nat×ai))
 |aM (d n sz:Nat) (zero:List AV) (parts:List (Nat×ai))
 |len (d:Nat) (x:ai)
 |aav (d:Nat) (x:ai)
 |j9 (d n:Nat)
 |app (d:Nat) (x y:ai) (sz bytes:Nat)
 |bin (d:Nat) (op:BinOp) (x y:ai)
 |iC (d:Nat) (neg:Bool) (x y:ai)
 |aaw (d:Nat) (neg:Bool) (n:List Bool) (x y:ai)
 |aaW (d:Nat) (x:ai) (n:Option Nat)
 |not (d:Nat) (x:ai)
 |neg (d:Nat) (x:ai)
 |conv (d:Nat) (k:IntKind) (x:ai)
 |pick (d:Nat) (c x y:ai)
 |ext (d:Nat) (x:ai) (i:Nat)
 |aaX (d:Nat) (x y:ai)
 |jH (d:Nat) (x y:ai)
 |call (d:Nat) (f:FuncId) (xs:List ai)
 |aak (d:Nat) (x:ai) (xs:List ai)
 |dB (d:Nat) (fn:Fn) (first cap:List ai)
 |dJ (d:Nat) (x:ai)
 |jI (d:Nat) (x hi:ai) (sz:Nat)
 |abg (d:Nat) (x lo:ai) (sz:Nat)
 |lX (d:Nat) (x lo hi:ai) (sz:Nat)
 |dK (d:Nat) (x:ai)
 |apart (zs:List ai) (x:ai) (m:au)
 |guard (g:Nat) (want:Bool) (d:Option Nat) (m:au)
 |iD (d:Nat) (x:ai) (xs:List ai)
 |lY (d:Nat) (x:ai) (pos:Nat) (y:ai)
 |fy (d:Nat) (f:FuncId) (xs:List ai)
 |iE (d:Nat) (x:ai) (xs:List ai)
 |dL (d:Nat) (n c:ai) (sz bytes:Nat) (zero:List AV)
 |lZ (d:Nat) (x y:ai) (sz:Nat)
 |aaD (d:Nat) (f:FuncId) (xs:List ai)
 |abR (d:Nat) (x:ai) (xs:List ai)
 |i_ (d:Nat) (x hi mx:ai) (sz:Nat)
 |ot (d:Nat) (x hi mx:ai) (sz:Nat)
 |nv (d:Nat) (x y:ai) (sz:Nat)
 |ab4 (d:Nat) (x hi:ai) (sz:Nat)
 |aaY (d:Nat) (x y:ai) (sz bytes:Nat) (zero:List AV)
 |j_ (d:Nat) (x y:ai) (sz:Nat)
 |ja (d:Nat) (x:ai)
 |jb (d:Nat) (x:ai)
 |mkMap (d:Nat)
 |ou (d:Nat) (x:ai)
 |ov (d:Nat) (x:ai)
 |gG (x k v:ai) (n:Option Nat)
 |gH (d:Nat) (x k:ai) (n:Option Nat) (zero:AV)
 |nw (x st v:ai)
 |ab5 (d:Nat) (x:ai)
 |isNil (d:Nat) (neg:Bool) (x:ai)
 |lookup (d:Nat) (x k:ai) (n:Option Nat) (ok:Bool) (zero:AV)
 |bD (k:Nat)
 |ow (d:Nat) (x lo:ai)
 deriving Inhabited
def fJ:IntKind→Int→Prop
 |.i8,n=> -128≤n∧n≤127
 |.i16,n=> -32768≤n∧n≤32767
 |.i32,n=> -2147483648≤n∧n≤2147483647
 |.i64,n=> -9223372036854775808≤n∧n≤9223372036854775807
 |.u8,n=>0≤n∧n≤255
 |.u16,n=>0≤n∧n≤65535
 |.u32,n=>0≤n∧n≤4294967295
 |.u64,n=>0≤n∧n≤18446744073709551615
def abh(op:BinOp)(k:IntKind)(x y:Int):Int:=
 let a:=BitVec.ofInt k.bits x
 let b:=BitVec.ofInt k.bits y
 match op with
 |.and=>k.wrap (a &&& b).toNat
 |.or=>k.wrap (a ||| b).toNat
 |.xor=>k.wrap (a ^^^ b).toNat
 |_=>k.wrap (a &&& ~~~b).toNat
def en(op:BinOp)(k:IntKind)(a b:Int)(K:AV→Prop):Prop:=
 match op with
 |.add=>fJ k (a+b)∧K (.lit (.int k (a+b)))
 |.sub=>fJ k (a - b)∧K (.lit (.int k (a - b)))
 |.mul=>fJ k (a*b)∧K (.lit (.int k (a*b)))
 |.quo=>b≠0∧fJ k (a.tdiv b)∧K (.lit (.int k (a.tdiv b)))
 |.rem=>b≠0∧K (.lit (.int k (a.tmod b)))
 |.and|.or|.xor|.andNot=>K (.lit (.int k (abh op k a b)))
 |.eql=>K (.lit (.bool (a==b)))
 |.neq=>K (.lit (.bool (a != b)))
 |.lss=>K (.lit (.bool (decide (a<b))))
 |.leq=>K (.lit (.bool (decide (a≤b))))
 |.gtr=>K (.lit (.bool (decide (a>b))))
 |.geq=>K (.lit (.bool (decide (a≥b))))
 |_=>False
def shI(op:BinOp)(k:IntKind)(a b:Int)(K:AV→Prop):Prop:=
 match op with
 |.shl=>0≤b∧K (.lit (.int k (k.wrap (a*2^(min b.toNat k.bits)))))
 |.shr=>0≤b∧K (.lit (.int k (a.fdiv (2^(min b.toNat k.bits)))))
 |_=>False
def k6(op:BinOp)(a b:ByteArray)(K:AV→Prop):Prop:=
 match op with
 |.eql=>K (.lit (.bool (a.toList==b.toList)))
 |.neq=>K (.lit (.bool (!(a.toList==b.toList))))
 |.lss=>K (.lit (.bool (Op.bytesLess a.toList b.toList)))
 |.leq=>K (.lit (.bool (Op.bytesLess a.toList b.toList||a.toList==b.toList)))
 |.gtr=>K (.lit (.bool (!(Op.bytesLess a.toList b.toList||a.toList==b.toList))))
 |.geq=>K (.lit (.bool (!Op.bytesLess a.toList b.toList)))
 |_=>False
def cX(op:BinOp)(x y:AV)(K:AV→Prop):Prop:=
 match x,y with
 |.lit (.int k a),.lit (.int k' b)=>match op with
  |.shl=>shI .shl k a b K
  |.shr=>shI .shr k a b K
  |_=>k=k'∧en op k a b K
 |.lit (.string a),.lit (.string b)=>k6 op a b K
 |_,_=>False
def St.aB(r:Nat)(s:St):St:=⟨fun k=>az r (s.env k),fun b=>(s.loc b).map (·.map (az r))⟩
def St.set(s:St)(d:Nat)(x:AV):St:=⟨ak s.env d x,s.loc⟩
def St.new(s:St)(b:Nat)(cs:List AV):St:=⟨s.env,ak s.loc b (some cs)⟩
def aap(s:St)(d:Nat):AV→St
 |.slice sz xs r=>if r=0 then s.set d (.slice sz xs 0) else ((s.aB r).aB (d+1)).set d (.slice sz xs (d+1))
 |x=>s.set d x
def cz(cs:List AV)(off:Nat)(n:Option Nat)(K:AV→Prop):Prop:=
 match n with
 |none=>off<cs.length∧K (cs.getD off .any)
 |some n=>off+n≤cs.length∧K (AV.agg ((cs.drop off).take n)).erase
def cN(loc:Nat→Option (List AV))(x:AV)(n:Option Nat)(K:AV→Prop):Prop:=
 match x with
 |.ref cs=>cz cs 0 n fun v=>K v.erase
 |.aj b off=>match loc b with
  |some cs=>cz cs off n K
  |none=>False
 |_=>False
def splice(cs:List AV)(off:Nat):List AV→List AV
 |[]=>cs
 |v::vs=>splice (cs.set off v) (off+1) vs
def gI(s:St)(x y:AV)(n aP:Nat)(K:St→Prop):Prop:=
 match x with
 |.aj b off=>match s.loc b with
  |some cs=>off+n≤cs.length∧y.cells.length=n∧y.cells.all AV.bE=true∧
   match y with
   |.slice sz xs r=>if r=0∨aP=0 then K (s.new b (splice cs off [.slice sz xs 0])) else K (((s.aB r).aB aP).new b ((cs.map (fun x=>az aP (az r x))).set off (.slice sz xs aP)))
   |y=>K (s.new b (splice cs off (y.cells.map AV.erase0)))
  |none=>False
 |_=>False
def aa9(e:Nat→AV)(cs:List AV):List (Nat×Nat×ai)→(List AV→Prop)→Prop
 |[],K=>K cs
 |(off,n,x)::ps,K=>(x.ev e).cells.length=n∧off+n≤cs.length∧aa9 e (splice cs off ((x.ev e).cells.map AV.erase0)) ps K
def gn(e:Nat→AV)(sz:Nat)(xs:List AV):List (Nat×ai)→(List AV→Prop)→Prop
 |[],K=>K xs
 |(i,x)::ps,K=>(x.ev e).cells.length=sz∧(x.ev e).cells.all AV.bE=true∧i<xs.length∧gn e sz (xs.set i (x.ev e).erase) ps K
def cD:List Bool→List AV→List AV→Option Bool
 |[],[],[]=>some true
 |false::ks,.lit (.int k a)::xs,.lit (.int k' b)::ys=>if k=k' then (cD ks xs ys).map (a==b&& ·) else none
 |true::ks,.lit (.bool a)::xs,.lit (.bool b)::ys=>(cD ks xs ys).map (a==b&& ·)
 |_,_,_=>none
def Fr(w w':World):Prop:=w'.os=w.os∧w'.tape=w.tape∧w'.output=w.output∧w.heap.size≤w'.heap.size∧∀b,b<w.heap.size→w'.heap[b]? =w.heap[b]?
def aG(P:Program)(f:FuncId)(xs:List AV)(r:AV):Prop:=
 aaP P f=true∧
 ∀(w:World) (A:aK) (vs:Array Value),(∀b o,A b o→b<w.heap.size)→vs.size=xs.length→(∀i,RV w A (xs.getD i .any) (vs.getD i undef))→Calls P f vs w fun e w'=>∃v A',e=.returned v∧Fr w w'∧(∀b o,A b o→A' b o)∧(∀b o,A' b o→A b o∨(w.heap.size≤b∧b<w'.heap.size))∧RV w' A' r v
def dj:AV→AV→Option Bool
 |.lit (.int k a),.lit (.int k' b)=>if k=k' then some (a==b) else none
 |.lit (.string a),.lit (.string b)=>some (a.toList==b.toList)
 |.agg xs,.agg ys=>cD (List.replicate xs.length false) xs ys
 |_,_=>none
def eL:Option Nat→AV→Prop
 |none,.lit (.int _ _)=>True
 |some 999,.lit (.string _)=>True
 |some n,.agg xs=>n≠999∧xs.length=n
 |_,_=>False
def Z8(k:AV):List (List AV)→Nat→Option (Option Nat)
 |[],_=>some none
 |e::es,i=>match dj k (e.getD 0 .any) with
  |some true=>some (some i)
  |some false=>Z8 k es (i+1)
  |none=>none
def abK:AV→AV→Prop
 |.aj b' _,.aj b _=>b'≠b
 |.ref _,.aj _ _=>True
 |_,_=>False
def p6(loc:Nat→Option (List AV)):AV→Option AV
 |.aq b off len _ sz=>match loc b with
  |some cs=>if decide (off+len*sz≤cs.length)&&cs.all AV.bE&&decide (len≤140737488355328) then some (.slice sz (chunk sz (cs.drop off) len) 0) else none
  |none=>none
 |x=>some x
def abr(loc:Nat→Option (List AV)):List AV→Option (List AV)
 |[]=>some []
 |x::xs=>match p6 loc x,abr loc xs with
  |some y,some ys=>some (y::ys)
  |_,_=>none
def isLit:AV→Bool
 |.lit u=>flat u
 |_=>false
def l6:AV→Bool
 |.lit u=>flat u
 |.fmap es=>es.all fun e=>e.all isLit
 |_=>false
def Z2(P:Program):au→St→(St→Prop)→Prop
 |.aa d x,s,K=>K (s.set d (x.ev s.env))
 |.abf d x,s,K=>match x.ev s.env with
  |.lit (.string t)=>K (s.set d (.lit (.string t)))
  |_=>False
 |.ag d x,s,K=>K (aap s d (x.ev s.env))
 |.bK d sz,s,K=>K ((s.aB (d+1)).set d (.slice sz [] (d+1)))
 |.aV d x n,s,K=>(x.ev s.env).cells.length=n∧K (s.set d (.ref ((x.ev s.env).cells.map AV.erase0)))
 |.j8 d x n,s,K=>(x.ev s.env).cells.length=n∧∀b,s.loc b=none→K ((s.new b ((x.ev s.env).cells.map AV.erase0)).set d (.aj b 0))
 |.alloc d zero,s,K=>∀b,s.loc b=none→K ((s.new b zero).set d (.aj b 0))
 |.load d x n,s,K=>cN s.loc (x.ev s.env) n fun v=>K (s.set d v)
 |.store x y n aP,s,K=>gI s (x.ev s.env) (y.ev s.env) n aP K
 |.jG x sz aP,s,K=>match x.ev s.env with
  |.aj b off=>match s.loc b with
   |some cs=>off<cs.length∧K ((s.aB aP).new b ((cs.map (az aP)).set off (.slice sz [] aP)))
   |none=>False
  |_=>False
 |.bH k y n,s,K=>match s.env k with
  |.aj b 0=>match s.loc b with
   |some cs=>cs.length=n∧(y.ev s.env).cells.length=n∧(y.ev s.env).cells.all AV.bE=true∧K ⟨ak s.env k (.ref ((y.ev s.env).cells.map AV.erase0)),ak s.loc b none⟩
   |none=>False
  |_=>False
 |.addr d x off,s,K=>match x.ev s.env with
  |.ref cs=>K (s.set d (.ref (cs.drop off)))
  |.aj b o=>K (s.set d (.aj b (o+off)))
  |_=>False
 |.aO d x i sz,s,K=>match x.ev s.env,i.ev s.env with
  |.slice sz' xs _,.lit (.int _ n)=>sz'=sz∧0≤n∧n<xs.length∧K (s.set d (.ref (xs.getD n.toNat .any).cells))
  |.aq b off len _ sz',.lit (.int _ n)=>sz'=sz∧0≤n∧n<len∧K (s.set d (.aj b (off+n.toNat*sz)))
  |_,_=>False
 |.cW d x i len sz,s,K=>match x.ev s.env,i.ev s.env with
  |.ref cs,.lit (.int _ n)=>0≤n∧n<len∧K (s.set d (.ref (cs.drop (n.toNat*sz))))
  |.aj b off,.lit (.int _ n)=>0≤n∧n<len∧K (s.set d (.aj b (off+n.toNat*sz)))
  |_,_=>False
 |.fld d x off n,s,K=>match x.ev s.env with
  |.agg cs=>cz cs off n fun v=>K (s.set d v.erase)
  |_=>False
 |.iB d x i len sz n,s,K=>match x.ev s.env,i.ev s.env with
  |.agg cs,.lit (.int _ j)=>0≤j∧j<len∧cz cs (j.toNat*sz) n fun v=>K (s.set d v.erase)
  |_,_=>False
 |.aas d x i,s,K=>match x.ev s.env,i.ev s.env with
  |.lit (.string t),.lit (.int _ j)=>0≤j∧j<t.size∧K (s.set d (.lit (.int .u8 (t.data.toList.getD j.toNat 0).toNat)))
  |_,_=>False
 |.build d zero ps,s,K=>aa9 s.env zero ps fun cs=>K (s.set d (.agg cs))
 |.aM d n sz zero ps,s,K=>gn s.env sz (List.replicate n (if sz=1 then zero.getD 0 .any else .agg zero)) ps fun xs=>K ((s.aB (d+1)).set d (.slice sz xs (d+1)))
 |.len d x,s,K=>match x.ev s.env with
  |.slice _ xs _=>K (s.set d (.lit (.int .i64 xs.length)))
  |.aq _ _ len _ _=>K (s.set d (.lit (.int .i64 len)))
  |.lit (.slice none 0 0)=>K (s.set d (.lit (.int .i64 0)))
  |_=>False
 |.aav d x,s,K=>match x.ev s.env with
  |.lit (.string t)=>K (s.set d (.lit (.int .i64 t.size)))
  |_=>False
 |.j9 d n,s,K=>K (s.set d (.lit (.int .i64 n)))
 |.app d x y sz bytes,s,K=>match x.ev s.env,y.ev s.env with
  |.slice szx xs r,.slice szy ys _=>r≠0∧szx=sz∧(szy=sz∨ys=[])∧(xs.length+ys.length)*bytes≤140737488355328∧xs.length+ys.length≤140737488355328∧K (((s.aB r).aB (d+1)).set d (.slice sz (xs++ys) (d+1)))
  |_,_=>False
 |.bin d op x y,s,K=>cX op (x.ev s.env) (y.ev s.env) fun v=>K (s.set d v)
 |.iC d neg x y,s,K=>match x.ev s.env,y.ev s.env with
  |.lit (.bool a),.lit (.bool b)=>K (s.set d (.lit (.bool (if neg then !(a==b) else a==b))))
  |_,_=>False
 |.aaw d neg n x y,s,K=>match x.ev s.env,y.ev s.env with
  |.agg a,.agg b=>a.length=n.length∧b.length=n.length∧∃q,cD n a b=some q∧K (s.set d (.lit (.bool (if neg then !q else q))))
  |_,_=>False
 |.not d x,s,K=>match x.ev s.env with
  |.lit (.bool a)=>K (s.set d (.lit (.bool (!a))))
  |_=>False
 |.neg d x,s,K=>match x.ev s.env with
  |.lit (.int k a)=>fJ k (0 - a)∧K (s.set d (.lit (.int k (0 - a))))
  |_=>False
 |.conv d k x,s,K=>match x.ev s.env with
  |.lit (.int _ a)=>K (s.set d (.lit (.int k (k.wrap a))))
  |_=>False
 |.pick d c x y,s,K=>match c.ev s.env with
  |.lit (.bool b)=>K (s.set d (if b then x.ev s.env else y.ev s.env))
  |_=>False
 |.ext d x i,s,K=>match x.ev s.env with
  |.tuple vs=>i<vs.length∧K (s.set d (vs.getD i .any).erase)
  |_=>False
 |.aaX d x y,s,K=>match x.ev s.env,y.ev s.env with
  |.lit (.int k a),.lit (.int _ b)=>K (s.set d (.lit (.int k (if b>a then b else a))))
  |_,_=>False
 |.jH d x y,s,K=>match x.ev s.env,y.ev s.env with
  |.lit (.int k a),.lit (.int _ b)=>K (s.set d (.lit (.int k (if b<a then b else a))))
  |_,_=>False
 |.call d f xs,s,K=>∃r,aG P f (xs.map fun x=>(x.ev s.env).erase) r∧K (s.set d r.erase)
 |.aak d x xs,s,K=>match x.ev s.env with
  |.func (.func f) first cap=>∃r,aG P f (first++(xs.map fun x=>(x.ev s.env).erase)++cap) r∧K (s.set d r.erase)
  |_=>False
 |.dB d fn first cap,s,K=>K (s.set d (.func fn (first.map fun x=>(x.ev s.env).erase) (cap.map fun x=>(x.ev s.env).erase)))
 |.dJ d x,s,K=>match x.ev s.env with
  |.ref cs=>K (s.set d (.ref cs))
  |.aj b o=>K (s.set d (.aj b o))
  |_=>False
 |.jI d x hi sz,s,K=>match x.ev s.env,hi.ev s.env with
  |.slice sz' xs _,.lit (.int _ n)=>(sz'=sz∨xs=[])∧0≤n∧n≤xs.length∧K (s.set d (.slice sz (xs.take n.toNat) 0))
  |_,_=>False
 |.abg d x lo sz,s,K=>match x.ev s.env,lo.ev s.env with
  |.slice sz' xs _,.lit (.int _ n)=>(sz'=sz∨xs=[])∧0≤n∧n≤xs.length∧K (s.set d (.slice sz (xs.drop n.toNat) 0))
  |_,_=>False
 |.lX d x lo hi sz,s,K=>match x.ev s.env,lo.ev s.env,hi.ev s.env with
  |.slice sz' xs _,.lit (.int _ n),.lit (.int _ m)=>(sz'=sz∨xs=[])∧0≤n∧n≤m∧m≤xs.length∧K (s.set d (.slice sz ((xs.drop n.toNat).take (m - n).toNat) 0))
  |_,_,_=>False
 |.dK d x,s,K=>K (s.set d (x.ev s.env).erase)
 |.apart zs x m,s,K=>(∀z∈zs,abK (z.ev s.env) (x.ev s.env))∧Z2 P m s K
 |.guard g want d m,s,K=>match s.env g with
  |.lit (.bool b)=>(b=want→Z2 P m s K)∧(b=(!want)→K (match d with|some d=>s.set d (.tuple [])|none=>s))
  |.tuple []=>K (match d with|some d=>s.set d (.tuple [])|none=>s)
  |_=>False
 |.iD d x xs,s,K=>match x.ev s.env,s.env gS with
  |.func (.yield l) [] [],.ghost l' (y::rest) false=>l=l'∧(xs.map fun x=>(x.ev s.env).erase)=y∧K ((s.set gS (.ghost l rest false)).set d (.lit (.bool true)))∧K ((s.set gS (.ghost l rest true)).set d (.lit (.bool false)))
  |_,_=>False
 |.lY d x pos y,s,K=>match x.ev s.env,s.env gS with
  |.func (.yield l) [] [],.ghost l' (z::rest) false=>l=l'∧∃z0 b sz len cap cs,z=[z0,mark pos]∧(y.ev s.env).erase=putAt z0 pos (.aq b 0 len cap sz)∧s.loc b=some cs∧kZ z0 pos sz len cap cs∧K ((s.set gS (.ghost l rest false)).set d (.lit (.bool true)))∧K ((s.set gS (.ghost l rest true)).set d (.lit (.bool false)))
  |_,_=>False
 |.dL d n c sz bytes zero,s,K=>match n.ev s.env,c.ev s.env with
  |.lit (.int .i64 n),.lit (.int .i64 c)=>0≤n∧n≤c∧c*(bytes:Int)≤140737488355328∧c≤140737488355328∧c*(sz:Int)≤140737488355328∧∀b,s.loc b=none→K ((s.new b (List.replicate c.toNat zero).flatten).set d (.aq b 0 n.toNat c.toNat sz))
  |_,_=>False
 |.aaD d f xs,s,K=>∃ys r,abr s.loc (xs.map fun x=>(x.ev s.env).erase)=some ys∧l6 r=true∧aG P f ys r∧K (s.set d r)
 |.abR d x xs,s,K=>match x.ev s.env with
  |.func (.func f) first cap=>∃ys r,abr s.loc (first++(xs.map fun x=>(x.ev s.env).erase)++cap)=some ys∧l6 r=true∧aG P f ys r∧K (s.set d r)
  |_=>False
 |.lZ d x y sz,s,K=>match x.ev s.env,y.ev s.env with
  |.aq b off len _ sz',.aq b2 off2 g_ _ b_=>match s.loc b,s.loc b2 with
   |some cs,some aU=>sz'=sz∧b_=sz∧off+len*sz≤cs.length∧off2+g_*sz≤aU.length∧aU.all AV.bE=true∧K ((s.new b (splice cs off (((aU.drop off2).take (min g_ len*sz)).map AV.erase0))).set d (.lit (.int .i64 (min g_ len:Nat))))
   |_,_=>False
  |_,_=>False
 |.i_ d x hi mx sz,s,K=>match x.ev s.env,hi.ev s.env,mx.ev s.env with
  |.slice szx xs _,.lit (.int _ i),.lit (.int _ j)=>(i=j∧(i=0∨(szx=sz∧i=xs.length)))∧K ((s.aB (d+1)).set d (.slice sz (xs.take i.toNat) (d+1)))
  |_,_,_=>False
 |.ot d x hi mx sz,s,K=>match x.ev s.env,hi.ev s.env,mx.ev s.env with
  |.slice _ xs _,.lit (.int _ 0),.lit (.int _ 0)=>(xs=[]→K (s.set d (.lit (.slice none 0 0))))∧∀b off,K (s.set d (.aq b off 0 0 sz))
  |_,_,_=>False
 |.nv d x y sz,s,K=>match x.ev s.env,y.ev s.env with
  |.aq b off len cap sz',.slice b_ ys _=>match s.loc b with
   |some cs=>sz'=sz∧b_=sz∧ys≠[]∧len+ys.length≤cap∧off+(len+ys.length)*sz≤cs.length∧K ((s.new b (splice cs (off+len*sz) ((ys.flatMap AV.cells).map AV.erase0))).set d (.aq b off (len+ys.length) cap sz))
   |none=>False
  |_,_=>False
 |.ab4 d x hi sz,s,K=>match x.ev s.env,hi.ev s.env with
  |.aq b off _ cap sz',.lit (.int _ n)=>sz'=sz∧0≤n∧n≤cap∧K (s.set d (.aq b off n.toNat cap sz))
  |_,_=>False
 |.aaY d x y sz bytes zero,s,K=>match x.ev s.env,y.ev s.env with
  |.aq b off len cap sz',.slice b_ ys _=>sz'=sz∧b_=sz∧ys≠[]∧(len+ys.length)*bytes≤140737488355328∧len+ys.length≤140737488355328∧
    if cap=0 then∀b r,s.loc b=none→K ((s.new b ((ys.flatMap AV.cells).map AV.erase0++(List.replicate r zero).flatten)).set d (.aq b 0 ys.length (ys.length+r) sz))
    else match s.loc b with
     |some cs=>off+cap*sz≤cs.length∧
      (len+ys.length≤cap→K ((s.new b (splice cs (off+len*sz) ((ys.flatMap AV.cells).map AV.erase0))).set d (.aq b off (len+ys.length) cap sz)))∧
      (cap<len+ys.length→∀b' r,s.loc b'=none→K ((s.new b' (((cs.drop off).take (len*sz)).map AV.erase0++((ys.flatMap AV.cells).map AV.erase0++(List.replicate r zero).flatten))).set d (.aq b' 0 (len+ys.length) (len+ys.length+r) sz)))
     |none=>False
  |.lit (.slice none 0 0),.slice b_ ys _=>b_=sz∧ys≠[]∧ys.length*bytes≤140737488355328∧ys.length≤140737488355328∧∀b r,s.loc b=none→K ((s.new b ((ys.flatMap AV.cells).map AV.erase0++(List.replicate r zero).flatten)).set d (.aq b 0 ys.length (ys.length+r) sz))
  |_,_=>False
 |.fy d f xs,s,K=>d_ P f (xs.map fun x=>(x.ev s.env).erase) s fun r s'=>K (s'.set d r)
 |.iE d x xs,s,K=>match x.ev s.env with
  |.func (.func f) first cap=>d_ P f (first++(xs.map fun x=>(x.ev s.env).erase)++cap) s fun r s'=>K (s'.set d r)
  |_=>False
 |.j_ d x y sz,s,K=>match x.ev s.env,y.ev s.env with
  |.aq b off len _ sz',.slice b_ ys _=>match s.loc b with
   |some cs=>sz'=sz∧(b_=sz∨ys=[])∧off+len*sz≤cs.length∧K ((s.new b (splice cs off (((ys.take (min ys.length len)).flatMap AV.cells).map AV.erase0))).set d (.lit (.int .i64 (min ys.length len:Nat))))
   |none=>False
  |_,_=>False
 |.ja d x,s,K=>match x.ev s.env with
  |.lit (.string t)=>∀b,s.loc b=none→s.env (oS+b)=.any→K ((s.set (oS+b) (aaU t 0)).set d (.aj b 0))
  |_=>False
 |.jb d x,s,K=>match x.ev s.env with
  |.aj b 0=>∃t pos,s.env (oS+b)=aaU t pos∧
    (pos<t.size→K ((s.set (oS+b) (aaU t (pos+(Utf8.decode t pos).2))).set d (.tuple [.lit (.bool true),.lit (.int .i64 pos),.lit (.int .i32 (Utf8.decode t pos).1)])))∧
    (¬pos<t.size→K (s.set d (.tuple [.lit (.bool false)])))
  |_=>False
 |.mkMap d,s,K=>∀b,s.loc b=none→s.env (oS+b)=.any→K ((s.set (oS+b) (a_ [])).set d (.aZ b))
 |.ou d x,s,K=>match x.ev s.env with
  |.aZ b=>∃es,s.env (oS+b)=a_ es∧∀r,s.loc r=none→s.env (oS+r)=.any→K ((s.set (oS+r) (aaQ b es.length [])).set d (.aj r 0))
  |_=>False
 |.ov d x,s,K=>match x.ev s.env with
  |.aj r 0=>∃b seen es,s.env (oS+r)=aaQ b es.length seen∧s.env (oS+b)=a_ es∧
    (∀i,i<es.length→i∉seen→K ((s.set (oS+r) (aaQ b es.length (seen++[i]))).set d (.tuple [.lit (.bool true),((es.getD i []).getD 0 .any).erase,((es.getD i []).getD 1 .any).erase])))∧
    ((∀i,i<es.length→i∈seen)→K (s.set d (.tuple [.lit (.bool false)])))
  |_=>False
 |.gG x k v n,s,K=>match x.ev s.env with
  |.aZ b=>∃es,s.env (oS+b)=a_ es∧eL n (k.ev s.env).erase∧match Z8 (k.ev s.env).erase es 0 with
   |some (some i)=>K (s.set (oS+b) (a_ (es.set i [(k.ev s.env).erase,(v.ev s.env).erase])))
   |some none=>K (s.set (oS+b) (a_ (es++[[(k.ev s.env).erase,(v.ev s.env).erase]])))
   |none=>False
  |_=>False
 |.lookup d x k n ok zero,s,K=>match x.ev s.env with
  |.aZ b=>∃es,s.env (oS+b)=a_ es∧eL n (k.ev s.env).erase∧match Z8 (k.ev s.env).erase es 0 with
   |some (some i)=>K (s.set d (if ok then .tuple [((es.getD i []).getD 1 .any),.lit (.bool true)] else ((es.getD i []).getD 1 .any).erase))
   |some none=>K (s.set d (if ok then .tuple [zero,.lit (.bool false)] else zero.erase))
   |none=>False
  |.fmap es=>eL n (k.ev s.env).erase∧match Z8 (k.ev s.env).erase es 0 with
   |some (some i)=>K (s.set d (if ok then .tuple [((es.getD i []).getD 1 .any),.lit (.bool true)] else ((es.getD i []).getD 1 .any).erase))
   |some none=>K (s.set d (if ok then .tuple [zero,.lit (.bool false)] else zero.erase))
   |none=>False
  |_=>False
 |.gH d x k n zero,s,K=>match x.ev s.env with
  |.aZ b=>∃es,s.env (oS+b)=a_ es∧eL n (k.ev s.env).erase∧dj (k.ev s.env).erase (k.ev s.env).erase=some true∧match Z8 (k.ev s.env).erase es 0 with
   |some (some i)=>K ((s.set (oS+b) (a_ (es.set i [(k.ev s.env).erase,(es.getD i []).getD 1 .any]))).set d (.tuple [(es.getD i []).getD 1 .any,.lit (.int .i64 i)]))
   |some none=>K ((s.set (oS+b) (a_ (es++[[(k.ev s.env).erase,zero]]))).set d (.tuple [zero,.lit (.int .i64 es.length)]))
   |none=>False
  |_=>False
 |.nw x st v,s,K=>match x.ev s.env,st.ev s.env with
  |.aZ b,.lit (.int _ i)=>∃es,s.env (oS+b)=a_ es∧0≤i∧i<es.length∧K (s.set (oS+b) (a_ (es.set i.toNat [(es.getD i.toNat []).getD 0 .any,(v.ev s.env).erase])))
  |_,_=>False
 |.ab5 d x,s,K=>match x.ev s.env with
  |.aj r 0=>∃b seen i es,s.env (oS+r)=aaQ b es.length (seen++[i])∧s.env (oS+b)=a_ es∧i<es.length∧K (s.set d (.tuple [((es.getD i []).getD 0 .any).erase,((es.getD i []).getD 1 .any).erase]))
  |_=>False
 |.isNil d neg x,s,K=>match x.ev s.env with
  |.slice _ xs _=>(xs=[]→K (s.set d (.lit (.bool (!neg)))))∧K (s.set d (.lit (.bool neg)))
  |.aq _ _ _ _ _=>K (s.set d (.lit (.bool neg)))
  |_=>False
 |.aaW d x n,s,K=>match x.ev s.env with
  |.ref cs=>cz cs 0 n fun v=>K (s.set d v.erase)
  |_=>False
 |.ow d x lo,s,K=>match x.ev s.env,lo.ev s.env with
  |.lit (.string t),.lit (.int _ n)=>0≤n∧n≤t.size∧K (s.set d (.lit (.string (t.extract n.toNat t.size))))
  |_,_=>False
 |.bD k,s,K=>match s.env k with
  |.aq b 0 len _ sz=>match s.loc b with
   |some cs=>len*sz≤cs.length∧cs.all AV.bE=true∧len≤140737488355328∧K ⟨ak s.env k (.slice sz (chunk sz cs len) 0),ak s.loc b none⟩
   |none=>False
  |.aj b 0=>match s.loc b with
   |some cs=>(∃sz off,cs[off]? =some (.lit (.slice none 0 0))∧K ((s.aB ((k+1)*1000+off)).new b ((cs.map (az ((k+1)*1000+off))).set off (.slice sz [] ((k+1)*1000+off)))))∨
    (∃off b2 len cap sz aU,cs[off]? =some (.aq b2 0 len cap sz)∧b2≠b∧s.loc b2=some aU∧len*sz≤aU.length∧aU.all AV.bE=true∧len≤140737488355328∧K ⟨s.env,ak (ak s.loc b (some (cs.set off (.slice sz (chunk sz aU len) 0)))) b2 none⟩)∨
    (∃off b2 es,cs[off]? =some (.aZ b2)∧s.env (oS+b2)=a_ es∧K ⟨ak s.env (oS+b2) .any,ak s.loc b (some (cs.set off (.fmap es)))⟩)∨
    K ⟨ak s.env k (.ref (cs.map AV.erase0)),ak s.loc b none⟩
   |none=>False
  |.lit (.slice none 0 0)=>∃sz,K ⟨ak s.env k (.slice sz [] 0),s.loc⟩
  |.aZ b=>∃es,s.env (oS+b)=a_ es∧K ⟨ak (ak s.env (oS+b) .any) k (.fmap es),s.loc⟩
  |_=>False
def vcs(P:Program):List au→(St→Prop)→St→Prop
 |[],K,s=>K s
 |m::ms,K,s=>Z2 P m s (vcs P ms K)
end Go.Z4
namespace Go.Z4
open Go.RowKit
theorem rJ{k:IntKind}{n:Int}(h:fJ k n):k.wrap n=n:=by cases k<;>simp[fJ] at h<;>simp[IntKind.wrap,IntKind.bits,IntKind.signed]<;>(try split)<;>omega
theorem abu(w:World)(o:Obj)(b off:Nat)(h:b<w.heap.size):(w.alloc o).cell? ⟨b,off,none⟩=w.cell? ⟨b,off,none⟩:=by
 show(match (w.heap.push o)[b]? with|some (.cells c _ _)=>_|_=>_)=_
 rw[Array.getElem?_push,if_neg (Nat.ne_of_lt h)]
 rfl
theorem CL(w:World)(vs:Array Value)(T:TypeId)(off:Nat):(w.alloc (.cells vs T)).cell? ⟨w.heap.size,off,none⟩=vs[off]? :=by
 show(match (w.heap.push _)[w.heap.size]? with|some (.cells c _ _)=>_|_=>_)=_
 rw[Array.getElem?_push,if_pos rfl]
 rfl
theorem heap_alloc(w:World)(o:Obj)(b:Nat)(h:b<w.heap.size):(w.alloc o).heap[b]? =w.heap[b]? :=by
 show(w.heap.push o)[b]? =_
 rw[Array.getElem?_push,if_neg (Nat.ne_of_lt h)]
theorem p7(w:World)(o:Obj):(w.alloc o).heap[w.heap.size]? =some o:=by
 show(w.heap.push o)[w.heap.size]? =_
 rw[Array.getElem?_push,if_pos rfl]
theorem gJ(w:World)(o:Obj):(w.alloc o).heap.size=w.heap.size+1:=by
 show(w.heap.push o).size=_
 simp
theorem cell_setRow_other(w:World)(g:Nat)(cs:Array Value)(b off:Nat)(h:b≠g):(w.setRow g cs).cell? ⟨b,off,none⟩=w.cell? ⟨b,off,none⟩:=by simp[World.cell?,setRow_other w g b cs h]
theorem size_setRow(w:World)(g:Nat)(cs:Array Value):(w.setRow g cs).heap.size=w.heap.size:=by simp[World.setRow]
theorem rK(w:World)(g k:Nat)(cs:Array Value)(h:k≠g):(w.setRow g cs).heap[k]? =w.heap[k]? :=setRow_other w g k cs h
variable {N:Nat} {s:St} {a:Act} {w:World} {A:aK} {sp:Sp}
theorem xy(r:Nat){b o:Nat}(h:live (s.aB r).loc (ak sp r (0,0,0)) b o):live s.loc sp b o:=by
 rcases h with h|⟨q,hq⟩
 ·exact .inl (by intro hn;exact h (by simp[St.aB,hn]))
 ·refine .inr ⟨q,?_⟩
  simp only[ak] at hq;split at hq
  ·dsimp only at hq;omega
  ·exact hq
theorem bV.aB(r:Nat){x:AV}{v:Value}(h:bV sp x v):bV (ak sp r (0,0,0)) (az r x) v:=by
 cases x with
 |slice sz xs r'=>
  simp only[az]
  split
  ·cases v with
   |slice a len cap=>cases a with
    |some a=>exact .inl rfl
    |none=>trivial
   |_=>trivial
  ·rename_i hne
   cases v with
   |slice a len cap=>cases a with
    |some a=>simpa[bV,ak,hne] using h
    |none=>trivial
   |_=>trivial
 |_=>trivial
theorem RS.aB(h:RS N s a w A sp)(r:Nat):RS N (s.aB r) a w A (ak sp r (0,0,0)) where
 size:=h.size
 defers:=h.defers
 env d:=⟨(h.env d).1.az r,(h.env d).2.aB r⟩
 loc b cs hb:=by
  simp only[St.aB,Option.map_eq_some_iff] at hb
  obtain⟨cs',hcs,rfl⟩:=hb
  obtain⟨vs,T,h1,h2,h3⟩:=h.loc b cs' hcs
  refine⟨vs,T,h1,by simpa using h2,fun i=> ?_⟩
  by_cases hi:i<cs'.length
  ·have:=h3 i
   simp only[List.getD_eq_getElem?_getD,List.getElem?_map,List.getElem?_eq_getElem hi,Option.map_some,Option.getD_some] at this⊢
   exact⟨this.1.az r,this.2.aB r⟩
  ·simp only[List.getD_eq_getElem?_getD,List.getElem?_map,List.getElem?_eq_none (Nat.le_of_not_lt hi),Option.map_none,Option.getD_none]
   exact⟨.any _,trivial⟩
 bW q hq:=by
  simp only[ak] at hq⊢
  split at hq
  ·dsimp only at hq;omega
  ·rename_i hne
   simp only[hne,if_false]
   obtain⟨h1,h2⟩:=h.bW q hq
   exact⟨h1,by simp[St.aB,h2]⟩
 spd q q' uw h1 h2:=by
  simp only[ak] at h1 h2⊢
  split at h1
  ·dsimp only at h1;omega
  ·split at h2
   ·dsimp only at h2;omega
   ·rename_i n1 n2
    simp only[n1,n2,if_false]
    exact h.spd q q' uw h1 h2
 av b o ha:=⟨(h.av b o ha).1,fun hl=>(h.av b o ha).2 (xy r hl)⟩
theorem RS.nt(h:RS N s a w A sp):∀b o,A b o→b<w.heap.size∧¬live s.loc sp b o:=h.av
theorem Ev.aB(r:Nat):Ev w A (live s.loc sp) w A (live (s.aB r).loc (ak sp r (0,0,0))):=⟨rfl,rfl,rfl,Nat.le_refl _,fun _ _ _ h=>⟨rfl,fun hl=>h (xy r hl)⟩,fun _ _ _=>rfl,fun _ _ h=>h,fun _ _ h=>.inl h⟩
theorem RS.world(h:RS N s a w A sp){w':World}{A':aK}(hc:∀b o v,A b o→w.cell? ⟨b,o,none⟩=some v→w'.cell? ⟨b,o,none⟩=some v)
  (hA:∀b o,A b o→A' b o)(cm:gF w w' A A')(p8:∀b cs,s.loc b=some cs→w'.heap[b]? =w.heap[b]?)
  (hsp:∀r,(sp r).2.1<(sp r).2.2→∃vs T,w'.heap[(sp r).1]? =some (.cells vs T (0,0))∧(sp r).2.2≤vs.size)
  (gK:∀b o,A' b o→b<w'.heap.size∧¬live s.loc sp b o):RS N s a w' A' sp where
 size:=h.size
 defers:=h.defers
 env d:=⟨(h.env d).1.mono (fun b o v ha hv=>⟨hc b o v ha hv,hA b o ha⟩) cm,(h.env d).2⟩
 loc b cs hb:=by
  obtain⟨vs,T,h1,h2,h3⟩:=h.loc b cs hb
  exact⟨vs,T,(p8 b cs hb).trans h1,h2,fun i=>⟨(h3 i).1.mono (fun b o v ha hv=>⟨hc b o v ha hv,hA b o ha⟩) cm,(h3 i).2⟩⟩
 bW r hr:=⟨hsp r hr,(h.bW r hr).2⟩
 spd:=h.spd
 av:=gK
theorem RS.abT(h:RS N s a w A sp){b:Nat}{cs:List AV}(hb:s.loc b=some cs):b<w.heap.size:=by
 obtain⟨vs,T,h1,_⟩:=h.loc b cs hb
 exact cc h1
theorem RS.fresh(h:RS N s a w A sp):s.loc w.heap.size=none:=by
 cases hb:s.loc w.heap.size with
 |none=>rfl
 |some cs=>exact absurd (h.abT hb) (Nat.lt_irrefl _)
theorem RS.CM(h:RS N s a w A sp){b o:Nat}(hs:spare sp b o):b<w.heap.size:=by
 obtain⟨r,h1,h2,h3⟩:=hs
 obtain⟨⟨vs,T,hv,_⟩,_⟩:=h.bW r (by omega)
 exact h1▸cc hv
theorem RS.ux(h:RS N s a w A sp){b o:Nat}(hs:live s.loc sp b o):b<w.heap.size:=by
 rcases hs with h1|h1
 ·cases hb:s.loc b with
  |none=>exact absurd hb h1
  |some cs=>exact h.abT hb
 ·exact h.CM h1
theorem RS.alloc(h:RS N s a w A sp)(vs:Array Value)(T:TypeId)(k:Nat)(_:k≤vs.size):RS N s a (w.alloc (.cells vs T)) (fun b o=>A b o∨(b=w.heap.size∧o<k)) sp:=by
 refine h.world (fun b o v ha hv=>by rw[abu _ _ _ _ (h.av b o ha).1];exact hv) (fun b o ha=>.inl ha) (.blocks (fun b o ha=>.inl ha) fun b _ hb=>heap_alloc _ _ _ hb) (fun b cs hb=>heap_alloc _ _ _ (h.abT hb)) (fun r hr=> ?_) ?_
 ·obtain⟨⟨vs,T,hv,hs⟩,_⟩:=h.bW r hr
  exact⟨vs,T,by rw[heap_alloc _ _ _ (cc hv)];exact hv,hs⟩
 ·rintro b o (ha|⟨rfl,ho⟩)
  ·exact⟨by have:=(h.av b o ha).1;rw[gJ];omega,(h.av b o ha).2⟩
  ·exact⟨by rw[gJ];omega,fun hl=>absurd (h.ux hl) (Nat.lt_irrefl _)⟩
theorem RS.rL(_:RS N s a w A sp)(o:Obj)(k:Nat):Ev w A (live s.loc sp) (w.alloc o) (fun b o=>A b o∨(b=w.heap.size∧o<k)) (live s.loc sp):=⟨rfl,rfl,rfl,by rw[gJ];omega,fun b o hb hl=>⟨abu _ _ _ _ hb,hl⟩,fun b hb _=>heap_alloc _ _ _ hb,fun _ _ ha=>.inl ha,fun b o ha=>ha.elim .inl fun q=>.inr (.inr (by omega))⟩
theorem RS.drew(h:RS N s a w A sp):RS N s a w.drew A sp:=h.world (fun _ _ _ _ hv=>hv) (fun _ _ ha=>ha) (.same fun _ _ ha=>ha) (fun _ _ _=>rfl) (fun r hr=>(h.bW r hr).1) h.av
theorem Ev.drew(L:aK):Ev w A L w.drew A L:=⟨rfl,rfl,rfl,Nat.le_refl _,fun _ _ _ h=>⟨rfl,h⟩,fun _ _ _=>rfl,fun _ _ h=>h,fun _ _ h=>.inl h⟩
theorem RS.uy(h:RS N s a w A sp)(r:Nat)(bS:∀d sz xs,s.env d≠.slice sz xs r)
  (hrl:∀b cs,s.loc b=some cs→∀i sz xs,cs.getD i .any≠.slice sz xs r)
  (g lo hi:Nat)(hg:lo<hi→(∃vs T,w.heap[g]? =some (.cells vs T (0,0))∧hi≤vs.size)∧s.loc g=none)
  (hd:∀q,q≠r→lo<hi→(sp q).2.1<(sp q).2.2→(sp q).1=g→(sp q).2.2≤lo∨hi≤(sp q).2.1)(hA:∀o,A g o→o<lo∨hi≤o):
  RS N s a w A (ak sp r (g,lo,hi)) where
 size:=h.size
 defers:=h.defers
 env d:=by
  refine⟨(h.env d).1,?_⟩
  have:=(h.env d).2
  cases hx:s.env d with
  |slice sz xs q=>
   rw[hx] at this
   have hq:q≠r:=fun e=>bS d sz xs (e▸hx)
   cases hv:a.tmps.getD d undef with
   |slice a len cap=>cases a with
    |some a=>rw[hv] at this;simpa[bV,ak,hq] using this
    |none=>trivial
   |_=>trivial
  |_=>trivial
 loc b cs hb:=by
  obtain⟨vs,T,h1,h2,h3⟩:=h.loc b cs hb
  refine⟨vs,T,h1,h2,fun i=>⟨(h3 i).1,?_⟩⟩
  have:=(h3 i).2
  cases hx:cs.getD i .any with
  |slice sz xs q=>
   rw[hx] at this
   have hq:q≠r:=fun e=>hrl b cs hb i sz xs (e▸hx)
   cases hv:vs.getD i undef with
   |slice a len cap=>cases a with
    |some a=>rw[hv] at this;simpa[bV,ak,hq] using this
    |none=>trivial
   |_=>trivial
  |_=>trivial
 bW q hq:=by
  simp only[ak] at hq⊢
  split
  ·rename_i he;simp only[he,if_true] at hq;exact hg hq
  ·rename_i hne;simp only[hne,if_false] at hq;exact h.bW q hq
 spd q q' uw h1 h2 h3:=by
  by_cases e1:q=r<;>by_cases e2:q'=r
  ·exact absurd (e1.trans e2.symm) uw
  ·subst e1;simp only[ak,e2,if_true,if_false] at h1 h2 h3⊢
   have:=hd q' e2 h1 h2 h3.symm;omega
  ·subst e2;simp only[ak,e1,if_true,if_false] at h1 h2 h3⊢
   have:=hd q e1 h2 h1 h3;omega
  ·simp only[ak,e1,e2,if_false] at h1 h2 h3⊢
   exact h.spd q q' uw h1 h2 h3
 av b o ha:=by
  refine⟨(h.av b o ha).1,?_⟩
  rintro(hl'|⟨q,hq⟩)
  ·exact(h.av b o ha).2 (.inl hl')
  ·simp only[ak] at hq
   split at hq
   ·obtain⟨rfl,k7,jJ⟩:=hq
    have:=hA o ha;simp only at k7 jJ;omega
   ·exact(h.av b o ha).2 (.inr ⟨q,hq⟩)
theorem p9(s:St)(r:Nat)(hr:r≠0)(d sz:Nat)(xs:List AV):(s.aB r).env d≠.slice sz xs r:=by
 intro h
 simp only[St.aB] at h
 cases hx:s.env d<;>rw[hx] at h<;>simp only[az] at h<;>try exact AV.noConfusion h
 split at h
 ·injection h with _ _ h;exact hr h.symm
 ·injection h with _ _ h;contradiction
theorem LF{x:AV}(r:Nat)(hr:r≠0)(sz:Nat)(xs:List AV):az r x≠.slice sz xs r:=by
 intro h
 cases x<;>simp only[az] at h<;>try exact AV.noConfusion h
 split at h
 ·injection h with _ _ h;exact hr h.symm
 ·injection h with _ _ h;contradiction
theorem p_(s:St)(r:Nat)(hr:r≠0)(b:Nat)(cs:List AV)(hb:(s.aB r).loc b=some cs)(i sz:Nat)(xs:List AV):cs.getD i .any≠.slice sz xs r:=by
 simp only[St.aB,Option.map_eq_some_iff] at hb
 obtain⟨cs',_,rfl⟩:=hb
 by_cases hi:i<cs'.length
 ·simp only[List.getD_eq_getElem?_getD,List.getElem?_map,List.getElem?_eq_getElem hi,Option.map_some,Option.getD_some]
  exact LF r hr sz xs
 ·simp only[List.getD_eq_getElem?_getD,List.getElem?_map,List.getElem?_eq_none (Nat.le_of_not_lt hi),Option.map_none,Option.getD_none]
  exact fun h=>AV.noConfusion h
theorem fin{P:Program}{o:Oper}{K:St→Prop}{next:Act→World→Prop}{Q:Exit→Act→World→Prop}{d:Nat}{x:AV}{v:Value}
  (h:RS N s a w A sp)(hd:o.dst=some d)(hN:d<N)(hrun:(execOp a.eval o).run P w=.ok (.value v) w)
  (hr:RV w A x v)(ho:bV sp x v)(hk:K (s.set d x))
  (hn:∀s' a' w' A' sp',K s'→RS N s' a' w' A' sp'→Ev w A (live s.loc sp) w' A' (live s'.loc sp')→next a' w'):o.wp P a w next Q:=by
 unfold Oper.wp
 rw[hrun,Oper.upon_value,hd]
 exact hn _ _ _ _ _ hk (h.put hN hr ho) (.refl _ _ _)
theorem fin'{P:Program}{o:Oper}{K:St→Prop}{next:Act→World→Prop}{Q:Exit→Act→World→Prop}{d:Nat}{x:AV}{v:Value}
  {s1:St}{w1:World}{A1:aK}{dQ:Sp}
  (h:RS N s1 a w1 A1 dQ)(aJ:Ev w A (live s.loc sp) w1 A1 (live s1.loc dQ))(hd:o.dst=some d)(hN:d<N)(hrun:(execOp a.eval o).run P w=.ok (.value v) w1)
  (hr:RV w1 A1 x v)(ho:bV dQ x v)(hk:K (s1.set d x))
  (hn:∀s' a' w' A' sp',K s'→RS N s' a' w' A' sp'→Ev w A (live s.loc sp) w' A' (live s'.loc sp')→next a' w'):o.wp P a w next Q:=by
 unfold Oper.wp
 rw[hrun,Oper.upon_value,hd]
 exact hn _ _ _ _ _ hk (h.put hN hr ho) aJ
end Go.Z4
namespace Go.Z4
open Go.RowKit
structure cn where
 muts:List Nat:=[]
 dD:List (Nat×Nat):=[]
 aP:List (Nat×Nat):=[]
 bD:List Nat:=[]
 ord:List (Nat×List Nat):=[]
 ap:List (Nat×List ai):=[]
 own:List Nat:=[]
 zero:List (Nat×List AV):=[]
 yl:List Nat:=[]
 fz:List (Nat×List Nat):=[]
 uz:List Nat:=[]
 ic:List Nat:=[]
 cl:List Nat:=[]
 CN:List (Nat×Nat):=[]
 rl:List (Nat×Nat):=[]
def look{α:Type}(l:List (Nat×α))(d:Nat)(z:α):α:=match l with
 |[]=>z
 |(k,x)::l=>if k==d then x else look l d z
def uA:Value→Option AV
 |.slice none 0 0=>some (.slice 0 [] 0)
 |.bool b=>some (.lit (.bool b))
 |.int k n=>some (.lit (.int k n))
 |.string s=>some (.lit (.string s))
 |.pointer none=>some (.lit (.pointer none))
 |.nilFunc=>some (.lit .nilFunc)
 |.nilIface=>some (.lit .nilIface)
 |.map none=>some (.lit (.map none))
 |_=>none
def uB:List Value→Option (List AV)
 |[]=>some []
 |v::vs=>(uA v).bind fun x=>(uB vs).map (x:: ·)
def ab6:Value→Option AV
 |.agg vs=>(uB vs.toList).map .agg
 |v=>uA v
def uC:Value→Option AV
 |.slice none 0 0=>some (.lit (.slice none 0 0))
 |v=>ab6 v
def aC:Operand→Option ai
 |.tmp t=>some (.t t)
 |.const v=>(ab6 v).map .c
 |.func f=>some (.c (.func (.func f) [] []))
 |.global _=>none
def rM:Value→Value→Bool
 |.bool a,.bool b=>a==b
 |.int k a,.int k' b=>k==k'&&a==b
 |.string a,.string b=>a.data==b.data
 |.pointer none,.pointer none=>true
 |.nilFunc,.nilFunc=>true
 |.nilIface,.nilIface=>true
 |.map none,.map none=>true
 |.slice none 0 0,.slice none 0 0=>true
 |_,_=>false
def xz:AV→Value→Bool
 |.lit v,v'=>rM v v'
 |.slice _ [] 0,.slice none 0 0=>true
 |_,_=>false
def uD:List AV→List Value→Bool
 |[],[]=>true
 |x::xs,v::vs=>xz x v&&uD xs vs
 |_,_=>false
def xA:AV→Value→Bool
 |.lit v,v'=>rM v v'
 |.slice _ [] _,.slice none 0 0=>true
 |_,_=>false
def uE:List AV→List Value→Bool
 |[],[]=>true
 |x::xs,v::vs=>xA x v&&uE xs vs
 |_,_=>false
def cg(P:Program)(t:TypeId):Option Nat:=(P.info? t).map (·.size)
def jK(P:Program)(t:TypeId):Option (Option Nat):=
 match P.underlying t,P.info? t with
 |some d,some i=>some (match d with
  |.struct _=>some i.size
  |.array _ _=>some i.size
  |_=>none)
 |_,_=>none
def zeroOf(P:Program)(t:TypeId):Option Value:=(P.info? t).bind (·.zero)
def jc(P:Program)(t:TypeId)(z:List AV):Bool:=
 match P.info? t with
 |some i=>(match i.zero with
  |some v=>uD z v.cells.toList&&z.length==i.size
  |none=>false)
 |none=>false
def uF(P:Program)(t:TypeId)(z:List AV):Bool:=
 match P.info? t with
 |some i=>(match i.zero with
  |some v=>uE z v.cells.toList&&z.length==i.size
  |none=>false)
 |none=>false
def k8(P:Program)(t:TypeId)(x:Operand):Option ai:=
 match x with
 |.const (.slice none 0 0)=>match P.underlying t with
  |some (.slice e)=>(cg P e).map fun n=>.c (.slice n [] 0)
  |_=>aC x
 |x=>aC x
def aaE(P:Program):List Operand→List TypeId→Option (List ai)
 |[],_=>some []
 |x::xs,[]=>match aC x,aaE P xs [] with
  |some y,some ys=>some (y::ys)
  |_,_=>none
 |x::xs,t::ts=>match k8 P t x,aaE P xs ts with
  |some y,some ys=>some (y::ys)
  |_,_=>none
def xB:Operand→Option ai
 |.const (.slice none 0 0)=>some (.c (.lit (.slice none 0 0)))
 |x=>aC x
def qb:List Operand→Option (List ai)
 |[]=>some []
 |x::xs=>match xB x,qb xs with
  |some y,some ys=>some (y::ys)
  |_,_=>none
def oz:List Operand→Option (List ai)
 |[]=>some []
 |x::xs=>match aC x,oz xs with
  |some y,some ys=>some (y::ys)
  |_,_=>none
def acg(P:Program)(fs:Array Field):List (Nat×Operand)→Option (List (Nat×Nat×ai))
 |[]=>some []
 |(i,x)::ps=>match fs[i]?,acg P fs ps with
  |some f,some ys=>match cg P f.type,k8 P f.type x with
   |some n,some y=>if 0<n then some ((f.offset,n,y)::ys) else none
   |_,_=>none
  |_,_=>none
def rO(P:Program)(e:TypeId)(sz:Nat):List (Nat×Operand)→Option (List (Nat×Nat×ai))
 |[]=>some []
 |(i,x)::ps=>match k8 P e x,rO P e sz ps with
  |some y,some ys=>some ((i*sz,sz,y)::ys)
  |_,_=>none
def rP(P:Program)(e:TypeId):List (Nat×Operand)→Option (List (Nat×ai))
 |[]=>some []
 |(i,x)::ps=>match k8 P e x,rP P e ps with
  |some y,some ys=>some ((i,y)::ys)
  |_,_=>none
def acE(P:Program)(b:Builtin)(d:Nat)(args:List Operand)(ts:List TypeId):Option au:=
 match b,args,ts with
 |.len,[x],[t]=>match P.underlying t with
  |some (.array n _)=>some (.j9 d n)
  |some (.slice _)=>(aC x).map (.len d ·)
  |some .string=>(aC x).map (.aav d ·)
  |some (.pointer e)=>match P.underlying e with
   |some (.array n _)=>some (.j9 d n)
   |_=>none
  |_=>none
 |.append,[x,y],[t,t']=>if t=t' then match P.underlying t with
  |some (.slice e)=>match P.info? e,aC x,aC y with
   |some i,some x,some y=>match i.zero with
    |some z=>if z.cells.size=i.size∧0<i.size then some (.app d x y i.size i.bytes) else none
    |none=>none
   |_,_,_=>none
  |_=>none else none
 |.copy,[x,y],[t,_]=>match P.underlying t with
  |some (.slice e)=>match P.info? e,aC x,aC y with
   |some i,some x,some y=>some (.j_ d x y i.size)
   |_,_,_=>none
  |_=>none
 |.max,[x,y],_=>match aC x,aC y with
  |some x,some y=>some (.aaX d x y)
  |_,_=>none
 |.min,[x,y],_=>match aC x,aC y with
  |some x,some y=>some (.jH d x y)
  |_,_=>none
 |_,_,_=>none
def xD(P:Program)(aD:cn)(b:Builtin)(d:Nat)(args:List Operand)(ts:List TypeId):Option au:=
 match b,args,ts with
 |.append,[x,y],[t,t']=>if t=t' then match P.underlying t with
  |some (.slice e)=>match P.info? e,aC x,aC y with
   |some i,some x,some y=>if (look aD.zero d []).isEmpty then some (.nv d x y i.size) else if jc P e (look aD.zero d [])&&decide (0<i.size) then some (.aaY d x y i.size i.bytes (look aD.zero d [])) else none
   |_,_,_=>none
  |_=>none else none
 |_,_,_=>none
def xE(P:Program)(b:Builtin)(d:Nat)(args:List Operand)(ts:List TypeId):Option au:=
 match b,args,ts with
 |.copy,[x,y],[t,_]=>match P.underlying t with
  |some (.slice e)=>match P.info? e,aC x,aC y with
   |some i,some x,some y=>some (.lZ d x y i.size)
   |_,_,_=>none
  |_=>none
 |_,_,_=>none
def xF(P:Program)(d:Nat)(op:BinOp)(t:TypeId)(x y:ai):Option au:=
 match P.underlying t with
 |some (.int _)=>some (.bin d op x y)
 |some .string=>some (.bin d op x y)
 |some .bool=>match op with
  |.eql=>some (.iC d false x y)
  |.neq=>some (.iC d true x y)
  |_=>none
 |_=>none
def CO(P:Program)(d:Nat)(op:BinOp)(t:TypeId)(x:ai)(y:Operand):Option au:=
 match P.underlying t,op,y with
 |some (.slice _),.eql,.const (.slice none 0 0)=>some (.isNil d false x)
 |some (.slice _),.neq,.const (.slice none 0 0)=>some (.isNil d true x)
 |_,_,_=>none
def oA(P:Program):List Bool→Nat→List Field→Bool
 |[],_,[]=>true
 |q::ks,k,f::fs=>f.name != "_" &&f.offset==k&&(match q,P.underlying f.type with|false,some (.int _)=>true|true,some .bool=>true|_,_=>false)&&oA P ks (k+1) fs
 |_,_,_=>false
def l9(P:Program)(fs:List Field):List Bool:=fs.map fun f=>match P.underlying f.type with|some .bool=>true|_=>false
def oB(P:Program)(t:TypeId):Option (List Bool):=
 match P.underlying t with
 |some (.struct fs)=>if oA P (l9 P fs.toList) 0 fs.toList&& !P.stoodInHeld t&& !P.eqGuardType P.depth t then some (l9 P fs.toList) else none
 |_=>none
def ny(P:Program)(e:TypeId):Bool:=match P.underlying e,P.info? e with
 |some (.int _),some i=>i.size==1
 |_,_=>false
def xG(P:Program)(t:TypeId):Option (List Bool):=
 match P.underlying t with
 |some (.array n e)=>if ny P e&& !P.eqGuardType P.depth t then some (List.replicate n false) else none
 |_=>oB P t
def xH(P:Program)(aD:cn)(d:Nat)(op:Op)(_:TypeId):Option au:=
 match op with
 |.move x=>(aC x).map (.aa d ·)
 |.assign (.const (.slice none 0 0))=>if aD.muts.contains d then some (.ag d (.c (.lit (.slice none 0 0)))) else some (.bK d (look aD.dD d 0))
 |.assign x=>(aC x).map (.ag d ·)
 |.pick c x y=>match aC c,aC x,aC y with
  |some c,some x,some y=>some (.pick d c x y)
  |_,_,_=>none
 |.alloc e=>if uF P e (look aD.zero d []) then some (.alloc d (look aD.zero d [])) else none
 |.box e x=>match cg P e,aC x with
  |some n,some x=>if 0<n then some (if aD.muts.contains d then .j8 d x n else .aV d x n) else none
  |_,_=>none
 |.load t x=>match jK P t,aC x with
  |some n,some x=>some (.load d x n)
  |_,_=>none
 |.fieldAddr t x f=>match P.underlying t with
  |some (.struct fs)=>match fs[f]?,aC x with
   |some fd,some x=>match cg P fd.type with
    |some n=>if n=0 then none else some (.addr d x fd.offset)
    |none=>none
   |_,_=>none
  |_=>none
 |.field t x f=>match P.underlying t with
  |some (.struct fs)=>match fs[f]?,aC x with
   |some fd,some x=>match jK P fd.type with
    |some n=>some (.fld d x fd.offset n)
    |none=>none
   |_,_=>none
  |_=>none
 |.indexAddr t x i=>match P.underlying t,aC x,aC i with
  |some (.slice e),some x,some i=>(cg P e).map fun n=>.aO d x i n
  |some (.array len e),some x,some i=>(cg P e).map fun n=>.cW d x i len n
  |_,_,_=>none
 |.index t x i=>match P.underlying t,aC x,aC i with
  |some .string,some x,some i=>some (.aas d x i)
  |some (.array len e),some x,some i=>match cg P e,jK P e with
   |some sz,some n=>some (.iB d x i len sz n)
   |_,_=>none
  |_,_,_=>none
 |.build t ps=>if jc P t (look aD.zero d []) then match P.underlying t with
  |some (.struct fs)=>if fs.toList.all fun f=>(P.info? f.type).isSome then (acg P fs ps.toList).map fun ps=>.build d (look aD.zero d []) ps else none
  |some (.array _ e)=>match cg P e with
   |some sz=>if 0<sz then (rO P e sz ps.toList).map fun ps=>.build d (look aD.zero d []) ps else none
   |none=>none
  |_=>none else none
 |.buildSlice t n ps=>if aD.muts.contains d then (match P.underlying t with
  |some (.slice e)=>match P.info? e with
   |some i=>if jc P e (look aD.zero d [])&&n==0&&ps.isEmpty then some (.dL d (.c (.lit (.int .i64 0))) (.c (.lit (.int .i64 0))) i.size i.bytes (look aD.zero d [])) else none
   |_=>none
  |_=>none) else match P.underlying t with
  |some (.slice e)=>match cg P e,rP P e ps.toList with
   |some sz,some ps=>if jc P e (look aD.zero d [])&&decide (0<sz)&&decide (n*sz≤16777216) then some (.aM d n sz (look aD.zero d []) ps) else none
   |_,_=>none
  |_=>none
 |.binOp op t x y0 _=>match aC x,aC y0 with
  |some x,some y=>match xF P d op t x y with
   |some m=>some m
   |none=>match xG P t,op with
    |some n,.eql=>some (.aaw d false n x y)
    |some n,.neq=>some (.aaw d true n x y)
    |_,_=>CO P d op t x y0
  |_,_=>none
 |.unOp .not _ x=>(aC x).map (.not d ·)
 |.unOp .neg _ x=>(aC x).map (.neg d ·)
 |.convert s t x=>match P.underlying s,P.underlying t,aC x with
  |some (.int _),some (.int k),some x=>some (.conv d k x)
  |some .string,some .string,some x=>some (.abf d x)
  |_,_,_=>none
 |.extract x i=>(aC x).map (.ext d · i)
 |.nilCheck x=>(aC x).map (.dJ d ·)
 |.makeFunc fn first cap=>match oz first.toList,oz cap.toList with
  |some f,some c=>some (.dB d fn f c)
  |_,_=>none
 |.slice t x none (some hi) none=>match P.underlying t with
  |some (.slice e)=>match cg P e,aC x,aC hi with
   |some sz,some x,some hi=>some (if aD.muts.contains d then .ab4 d x hi sz else .jI d x hi sz)
   |_,_,_=>none
  |_=>none
 |.slice t x none (some hi) (some mx)=>match P.underlying t with
  |some (.slice e)=>match cg P e,aC x,aC hi,aC mx with
   |some sz,some x,some hi,some mx=>some (if aD.muts.contains d then .ot d x hi mx sz else .i_ d x hi mx sz)
   |_,_,_,_=>none
  |_=>none
 |.slice t x (some lo) none none=>match P.underlying t with
  |some (.slice e)=>match cg P e,aC x,aC lo with
   |some sz,some x,some lo=>some (.abg d x lo sz)
   |_,_,_=>none
  |some .string=>match aC x,aC lo with
   |some x,some lo=>some (.ow d x lo)
   |_,_=>none
  |_=>none
 |.slice t x (some lo) (some hi) none=>match P.underlying t with
  |some (.slice e)=>match cg P e,aC x,aC lo,aC hi with
   |some sz,some x,some lo,some hi=>some (.lX d x lo hi sz)
   |_,_,_,_=>none
  |_=>none
 |.makeSlice t l c=>match P.underlying t with
  |some (.slice e)=>match P.info? e,aC l,aC c with
   |some i,some l,some c=>if jc P e (look aD.zero d []) then some (.dL d l c i.size i.bytes (look aD.zero d [])) else none
   |_,_,_=>none
  |_=>none
 |.call c=>match c.callee with
  |.builtin b=>if aD.muts.contains d then xD P aD b d c.args.toList c.argTypes.toList else if aD.cl.contains d then xE P b d c.args.toList c.argTypes.toList else acE P b d c.args.toList c.argTypes.toList
  |.value (.func f)=>if aD.uz.contains d then (qb c.args.toList).map fun ms=>.call d f ms else (aaE P c.args.toList c.argTypes.toList).map fun ms=>if aD.cl.contains d then .aaD d f ms else .call d f ms
  |.value (.tmp t)=>(aaE P c.args.toList c.argTypes.toList).map fun ms=>if aD.cl.contains d then .abR d (.t t) ms else .aak d (.t t) ms
  |_=>none
 |_=>none
def qc(P:Program)(aD:cn)(N:Nat)(o:Oper):Option au:=
 match o.dst with
 |some d=>if d<N then xH P aD d o.op o.type else none
 |none=>match o.op with
  |.store t x (.const (.slice none 0 0))=>match x with
   |.tmp k=>if cg P t=some 1∧look aD.aP k 0≠0 then some (.jG (.t k) (look aD.dD (1000000+k) 0) (look aD.aP k 0)) else none
   |_=>none
  |.store t x y=>match x,cg P t,aC y with
   |.tmp k,some n,some y=>if 0<n then (if aD.bD.contains k then some (.bH k y n) else some (.store (.t k) y n (look aD.aP k 0))) else none
   |_,_,_=>none
  |_=>none
def nA(P:Program)(aD:cn)(N:Nat)(ops:Array Oper)(o:Oper):Option au:=
 match o.guard with
 |none=>qc P aD N o
 |some (j,want)=>match (ops[j]?).bind (·.dst),qc P aD N o with
  |some g,some m=>if g<N then some (.guard g want o.dst m) else none
  |_,_=>none
section
variable {w:World} {A:aK} {sp:Sp}
theorem xI{v v':Value}(h:rM v v'=true):v=v'∧flat v=true:=by
 unfold rM at h
 split at h
 ·exact⟨by rw[eq_of_beq h],rfl⟩
 ·rw[Bool.and_eq_true] at h
  exact⟨by rw[eq_of_beq h.1,eq_of_beq h.2],rfl⟩
 ·rename_i a b
  cases a;cases b
  have h':=eq_of_beq h
  exact⟨by simp only at h';rw[h'],rfl⟩
 ·exact⟨rfl,rfl⟩
 ·exact⟨rfl,rfl⟩
 ·exact⟨rfl,rfl⟩
 ·exact⟨rfl,rfl⟩
 ·exact⟨rfl,rfl⟩
 ·cases h
theorem LG{x:AV}{v:Value}(h:xz x v=true):RV w A x v∧x.bE=true∧x.erase=x:=by
 unfold xz at h
 split at h
 ·obtain⟨rfl,hf⟩:=xI h
  exact⟨.lit _ hf,rfl,rfl⟩
 ·exact⟨.cH _ _,rfl,rfl⟩
 ·cases h
theorem CP:∀{xs:List AV} {vs:List Value},uD xs vs=true→vs.length=xs.length∧(∀i,RV w A (xs.getD i .any) (vs.getD i undef))∧(∀x∈xs,x.bE=true∧x.erase=x)
 |[],[],_=>⟨rfl,fun _=>by simp;exact .any _,by simp⟩
 |x::xs,v::vs,h=>by
  simp only[uD,Bool.and_eq_true] at h
  obtain⟨h1,h2⟩:=h
  have hx:=LG (w:=w) (A:=A) h1
  obtain⟨i1,i2,i3⟩:=CP (xs:=xs) (vs:=vs) h2
  refine⟨by simp[i1],fun i=> ?_,?_⟩
  ·cases i with
   |zero=>simpa using hx.1
   |succ i=>simpa using i2 i
  ·intro y hy
   rcases List.mem_cons.1 hy with rfl|hy
   ·exact hx.2
   ·exact i3 y hy
 |[],_::_,h=>by cases h
 |_::_,[],h=>by cases h
theorem LH{x:AV}{v:Value}(h:xA x v=true):RV w A x v∧bV sp x v:=by
 unfold xA at h
 split at h
 ·obtain⟨rfl,hf⟩:=xI h
  exact⟨.lit _ hf,trivial⟩
 ·exact⟨.cH _ _,trivial⟩
 ·cases h
theorem CQ:∀{xs:List AV} {vs:List Value},uE xs vs=true→vs.length=xs.length∧∀i,RV w A (xs.getD i .any) (vs.getD i undef)∧bV sp (xs.getD i .any) (vs.getD i undef)
 |[],[],_=>⟨rfl,fun _=>by simp;exact⟨.any _,trivial⟩⟩
 |x::xs,v::vs,h=>by
  simp only[uE,Bool.and_eq_true] at h
  have hx:=LH (w:=w) (A:=A) (sp:=sp) h.1
  obtain⟨i1,i2⟩:=CQ (xs:=xs) (vs:=vs) h.2
  refine⟨by simp[i1],fun i=> ?_⟩
  cases i with
  |zero=>simpa using hx
  |succ i=>simpa using i2 i
 |[],_::_,h=>by cases h
 |_::_,[],h=>by cases h
theorem CR{v:Value}{x:AV}(h:uA v=some x):RV w A x v∧bV sp x v:=by
 unfold uA at h
 split at h<;>first|(injection h with h;subst h;first|exact⟨.cH _ _,trivial⟩|exact⟨.lit _ rfl,trivial⟩)|cases h
theorem CS:∀{vs:List Value} {xs:List AV},uB vs=some xs→vs.length=xs.length∧∀i,RV w A (xs.getD i .any) (vs.getD i undef)
 |[],xs,h=>by injection h with h;subst h;exact⟨rfl,fun i=>.any _⟩
 |v::vs,xs,h=>by
  simp only[uB,Option.bind_eq_some_iff,Option.map_eq_some_iff] at h
  obtain⟨x,hx,ys,hys,rfl⟩:=h
  obtain⟨g1,g2⟩:=CS hys
  refine⟨by simp[g1],fun i=> ?_⟩
  cases i with
  |zero=>exact(CR (sp:=fun _=>(0,0,0)) hx).1
  |succ i=>simpa using g2 i
theorem xJ{v:Value}{x:AV}(h:ab6 v=some x):RV w A x v∧bV sp x v:=by
 unfold ab6 at h
 split at h
 ·rename_i vs
  simp only[Option.map_eq_some_iff] at h
  obtain⟨xs,hxs,rfl⟩:=h
  obtain⟨g1,g2⟩:=CS (w:=w) (A:=A) hxs
  refine⟨.agg _ _ (by simpa using g1) fun i=> ?_,trivial⟩
  have:=g2 i
  simpa[List.getD_eq_getElem?_getD,Array.getD_eq_getD_getElem?] using this
 ·exact CR h
theorem LI{v:Value}{x:AV}(h:uC v=some x):RV w A x v∧bV sp x v:=by
 unfold uC at h
 split at h
 ·injection h with h;subst h;exact⟨.lit _ rfl,trivial⟩
 ·exact xJ h
theorem bf{N:Nat}{s:St}{a:Act}(hs:RS N s a w A sp){x:Operand}{m:ai}(h:aC x=some m):RV w A (m.ev s.env) (a.eval x)∧bV sp (m.ev s.env) (a.eval x):=by
 cases x with
 |tmp t=>injection h with h;subst h;exact hs.env t
 |const v=>
  simp only[aC,Option.map_eq_some_iff] at h
  obtain⟨y,hy,rfl⟩:=h
  exact xJ hy
 |global g=>cases h
 |func f=>
  injection h with h;subst h
  refine⟨.func _ _ _ _ _ rfl rfl (fun i=> ?_) (fun i=> ?_),trivial⟩<;>simp<;>exact .any _
theorem xK{P:Program}{t:TypeId}{N:Nat}{s:St}{a:Act}(hs:RS N s a w A sp){x:Operand}{m:ai}(h:k8 P t x=some m):RV w A (m.ev s.env) (a.eval x)∧bV sp (m.ev s.env) (a.eval x):=by
 unfold k8 at h
 split at h
 ·split at h
  ·simp only[Option.map_eq_some_iff] at h
   obtain⟨n,_,rfl⟩:=h
   exact⟨.cH _ _,trivial⟩
  ·exact bf hs h
 ·exact bf hs h
end
end Go.Z4
namespace Go.Z4
open Go.RowKit
section
variable {w:World} {A:aK} {sp:Sp}
theorem RV.cJ{k:IntKind}{n:Int}{v:Value}(h:RV w A (.lit (.int k n)) v):v=.int k n:=by cases h;rfl
theorem RV.k9{b:Bool}{v:Value}(h:RV w A (.lit (.bool b)) v):v=.bool b:=by cases h;rfl
theorem RV.rQ{t:ByteArray}{v:Value}(h:RV w A (.lit (.string t)) v):v=.string t:=by cases h;rfl
theorem RV.part{xs:List AV}{vs:Array Value}(hs:vs.size=xs.length)(hr:∀i,RV w A (xs.getD i .any) (vs.getD i undef))(off n:Nat)(h:off+n≤xs.length):RV w A (.agg ((xs.drop off).take n)) (.agg (vs.extract off (off+n))):=by
 refine .agg _ _ (by simp;omega) fun i=> ?_
 by_cases hi:i<n
 ·have:=hr (off+i)
  simp only[List.getD_eq_getElem?_getD,Array.getD_eq_getD_getElem?,List.getElem?_take,hi,if_true,List.getElem?_drop,Array.getElem?_extract] at this⊢
  rw[if_pos (by omega)]
  exact this
 ·simp only[List.getD_eq_getElem?_getD,List.getElem?_take,hi,if_false,Option.getD_none]
  exact .any _
end
section
variable {P:Program} {N:Nat} {s:St} {a:Act} {w:World} {A:aK} {sp:Sp} {K:St→Prop} {next:Act→World→Prop} {Q:Exit→Act→World→Prop} {o:Oper} {d:Nat}
abbrev Next(s:St)(w:World)(A:aK)(sp:Sp)(N:Nat)(K:St→Prop)(next:Act→World→Prop):Prop:=∀s' a' w' A' sp',K s'→RS N s' a' w' A' sp'→Ev w A (live s.loc sp) w' A' (live s'.loc sp')→next a' w'
theorem LJ{x:Operand}{m:ai}(hop:o.op=.move x)(hd:o.dst=some d)(hN:d<N)(hx:aC x=some m)(h:RS N s a w A sp)(hv:K (s.set d (m.ev s.env)))(hn:Next s w A sp N K next):o.wp P a w next Q:=fin h hd hN (by simp[execOp,hop]) (bf h hx).1 (bf h hx).2 hv hn
theorem LK{c x y:Operand}{mc mx my:ai}(hop:o.op=.pick c x y)(hd:o.dst=some d)(hN:d<N)(hc:aC c=some mc)(hx:aC x=some mx)(hy:aC y=some my)(h:RS N s a w A sp)(hv:Z2 P (.pick d mc mx my) s K)(hn:Next s w A sp N K next):o.wp P a w next Q:=by
 have h1:=(bf h hc).1
 simp only[Z2] at hv
 split at hv
 ·rename_i b hb
  rw[hb] at h1
  have xL:=h1.k9
  refine fin (x:=if b then mx.ev s.env else my.ev s.env) (v:=if b then a.eval x else a.eval y) h hd hN (by simp[execOp,hop,xL,asBool]) ?_ ?_ hv hn
  ·cases b
   ·exact(bf h hy).1
   ·exact(bf h hx).1
  ·cases b
   ·exact(bf h hy).2
   ·exact(bf h hx).2
 ·exact hv.elim
theorem CT{t:TypeId}{n:Option Nat}(h:jK P t=some n)(w:World):(isAgg t).run P w=.ok n.isSome w∧(∃i,P.info? t=some i∧∀k,n=some k→i.size=k):=by
 unfold jK at h
 split at h
 ·rename_i dd i hu hi
  injection h with h
  unfold isAgg
  rw[Sem.run_bind,run_underlying hu w]
  refine⟨?_,i,hi,?_⟩
  ·cases dd<;>subst h<;>simp
  ·intro k hk;subst h;cases dd<;>simp at hk<;>exact hk
 ·cases h
theorem Addr.fK(b off i:Nat):(⟨b,off,none⟩:Addr).add i=⟨b,off+i,none⟩:=by unfold Addr.add;split<;>simp_all
theorem nB{t:TypeId}{n:Option Nat}(h:jK P t=some n)(w:World)(b off:Nat)(f:Nat→Value)
  (hc:∀i,i<n.getD 1→w.cell? ⟨b,off+i,none⟩=some (f i)):
  (loadVar t ⟨b,off,none⟩).run P w=.ok (match n with|none=>f 0|some k=>.agg ((Array.range k).map f)) w:=by
 obtain⟨h1,i,hi,hk⟩:=CT h w
 unfold loadVar
 rw[Sem.run_bind,h1]
 cases n with
 |none=>
  have:=hc 0 (by simp)
  simp at this
  simp[run_load,this]
 |some k=>
  have hl:=run_loadCells (P:=P) w ⟨b,off,none⟩ k f (fun j hj=>by rw[Addr.fK];exact hc j (by simpa using hj))
  simp only[Sem.run_bind,sizeOf,typeInfo,Sem.run_pure,run_program,hi,hk k rfl,hl,Option.isSome,if_true,Result.andThen_ok]
  congr 2
  exact Array.ext' (by simp)
theorem adz{t:TypeId}{x:Operand}{m:ai}{n:Option Nat}(hop:o.op=.load t x)(hd:o.dst=some d)(hN:d<N)(hx:aC x=some m)(ht:jK P t=some n)(h:RS N s a w A sp)(hv:Z2 P (.load d m n) s K)(hn:Next s w A sp N K next):o.wp P a w next Q:=by
 have h1:=(bf h hx).1
 simp only[Z2,cN] at hv
 split at hv
 ·rename_i cs hcs
  rw[hcs] at h1
  generalize aR:a.eval x=v0 at h1
  cases h1 with
  |ref _ b off vs hc hr=>
   cases n with
   |none=>
    simp only[cz] at hv
    refine fin (v:=vs 0) (x:=(cs.getD 0 .any).erase) h hd hN ?_ (hr 0).erase bV.erase hv.2 hn
    have:=nB ht w b off vs (fun i hi=>(hc i (by simp at hi;omega)).1)
    simp only[execOp,hop,aR,Instr.loadAt,Instr.sureAddr,Sem.run_bind,Sem.run_pure,Result.andThen_ok,this]
   |some k=>
    simp only[cz,Nat.zero_add,List.drop_zero] at hv
    have:=nB ht w b off vs (fun i hi=>(hc i (by simp at hi;omega)).1)
    refine fin (v:=.agg ((Array.range k).map vs)) (x:=(AV.agg (cs.take k)).erase.erase) h hd hN (by simp only[execOp,hop,aR,Instr.loadAt,Instr.sureAddr,Sem.run_bind,Sem.run_pure,Result.andThen_ok,this]) ?_ bV.erase hv.2 hn
    refine RV.erase (RV.erase (.agg _ _ (by simp;omega) fun i=> ?_))
    by_cases hi:i<k
    ·have:=hr i
     simp only[List.getD_eq_getElem?_getD,List.getElem?_take,hi,if_true,Array.getD_eq_getD_getElem?,Array.getElem?_map] at this⊢
     rw[Array.getElem?_eq_getElem (by simpa using hi)]
     simpa using this
    ·simp only[List.getD_eq_getElem?_getD,List.getElem?_take,hi,if_false,Option.getD_none]
     exact .any _
 ·rename_i b off hcs
  rw[hcs] at h1
  generalize aR:a.eval x=v0 at h1
  cases h1
  split at hv
  ·rename_i cs hb
   obtain⟨vs,T,hh,hsz,hr⟩:=h.loc b cs hb
   have hcell:∀i,off+i<cs.length→w.cell? ⟨b,off+i,none⟩=some (vs.getD (off+i) undef):=by
    intro i hi
    simp[World.cell?,hh,Array.getD_eq_getD_getElem?,Array.getElem?_eq_getElem (show off+i<vs.size by omega)]
   cases n with
   |none=>
    simp only[cz] at hv
    have:=nB ht w b off (fun i=>vs.getD (off+i) undef) (fun i hi=>hcell i (by simp at hi;omega))
    refine fin (v:=vs.getD off undef) (x:=cs.getD off .any) h hd hN ?_ (hr off).1 (hr off).2 hv.2 hn
    simp only[execOp,hop,aR,Instr.loadAt,Instr.sureAddr,Sem.run_bind,Sem.run_pure,Result.andThen_ok,this,Nat.add_zero]
   |some k=>
    simp only[cz] at hv
    have:=nB ht w b off (fun i=>vs.getD (off+i) undef) (fun i hi=>hcell i (by simp at hi;omega))
    refine fin (v:=.agg ((Array.range k).map fun i=>vs.getD (off+i) undef)) (x:=(AV.agg ((cs.drop off).take k)).erase) h hd hN (by simp only[execOp,hop,aR,Instr.loadAt,Instr.sureAddr,Sem.run_bind,Sem.run_pure,Result.andThen_ok,this]) ?_ bV.erase hv.2 hn
    refine RV.erase (.agg _ _ (by simp;omega) fun i=> ?_)
    by_cases hi:i<k
    ·have:=(hr (off+i)).1
     simp only[List.getD_eq_getElem?_getD,List.getElem?_take,hi,if_true,List.getElem?_drop,Array.getD_eq_getD_getElem?,Array.getElem?_map] at this⊢
     rw[Array.getElem?_eq_getElem (by simpa using hi)]
     simpa using this
    ·simp only[List.getD_eq_getElem?_getD,List.getElem?_take,hi,if_false,Option.getD_none]
     exact .any _
  ·exact hv.elim
 ·exact hv.elim
theorem RV.CU{cs:List AV}{b off:Nat}(k:Nat)(h:RV w A (.ref cs) (.pointer (some ⟨b,off,none⟩))):RV w A (.ref (cs.drop k)) (.pointer (some ⟨b,off+k,none⟩)):=by
 cases h with
 |ref _ _ _ vs hc hr=>
  refine .ref _ _ _ (fun i=>vs (k+i)) (fun i hi=> ?_) (fun i=> ?_)
  ·simp at hi
   rw[Nat.add_assoc]
   exact hc (k+i) (by omega)
  ·have:=hr (k+i)
   simpa[List.getD_eq_getElem?_getD] using this
theorem LM{t:TypeId}{x:Operand}{m:ai}{f:Nat}{fs:Array Field}{fd:Field}{n:Nat}(hop:o.op=.fieldAddr t x f)(hd:o.dst=some d)(hN:d<N)(hx:aC x=some m)
  (ht:P.underlying t=some (.struct fs))(hf:fs[f]? =some fd)(hz:cg P fd.type=some n)(oC:n≠0)
  (h:RS N s a w A sp)(hv:Z2 P (.addr d m fd.offset) s K)(hn:Next s w A sp N K next):o.wp P a w next Q:=by
 have h1:=(bf h hx).1
 simp only[cg,Option.map_eq_some_iff] at hz
 obtain⟨i,hi,rfl⟩:=hz
 have hrun:∀b off,(Instr.fieldAt t (.pointer (some ⟨b,off,none⟩)) f).run P w=.ok (.pointer (some ⟨b,off+fd.offset,none⟩)) w:=by
  intro b off
  simp[Instr.fieldAt,run_underlying ht,hf,Instr.sureAddr,fieldPlace,sizeOf,typeInfo,hi,oC,Addr.fK]
 simp only[Z2] at hv
 split at hv
 ·rename_i cs hcs
  rw[hcs] at h1
  generalize aR:a.eval x=v0 at h1
  cases h1 with
  |ref _ b off vs hc hr=>
   exact fin h hd hN (by simp only[execOp,hop,aR,Sem.run_bind,hrun,Result.andThen_ok,Sem.run_pure]) (RV.CU fd.offset (.ref _ b off vs hc hr)) trivial hv hn
 ·rename_i b off hcs
  rw[hcs] at h1
  generalize aR:a.eval x=v0 at h1
  cases h1
  exact fin h hd hN (by simp only[execOp,hop,aR,Sem.run_bind,hrun,Result.andThen_ok,Sem.run_pure]) (.aj _ _) trivial hv hn
 ·exact hv.elim
theorem rR{α β:Type}(f:α→List β)(sz:Nat):∀(xs:List α) (i:Nat),(∀x∈xs,(f x).length=sz)→i<xs.length→∀j z x0,j<sz→(xs.flatMap f).getD (i*sz+j) z=((f (xs.getD i x0)).getD j z)
 |[],i,_,hi=>by simp at hi
 |x::xs,0,h,_=>by
  intro j z x0 hj
  have hx:=h x (by simp)
  simp only[List.flatMap_cons,List.getD_eq_getElem?_getD,Nat.zero_mul,Nat.zero_add,List.getElem?_cons_zero,Option.getD_some]
  rw[List.getElem?_append_left (by omega)]
 |x::xs,i+1,h,hi=>by
  intro j z x0 hj
  have hx:=h x (by simp)
  have ih:=rR f sz xs i (fun y hy=>h y (by simp[hy])) (by simpa using hi) j z x0 hj
  have e:(i+1)*sz+j=(f x).length+(i*sz+j):=by rw[hx,Nat.add_mul];omega
  simp only[List.flatMap_cons,List.getD_eq_getElem?_getD,List.getElem?_cons_succ,e] at ih⊢
  rw[List.getElem?_append_right (by omega),Nat.add_sub_cancel_left]
  exact ih
theorem RV.elem{sz:Nat}{xs:List AV}{own b off cap len:Nat}(h:RV w A (.slice sz xs own) (.slice (some ⟨b,off,none⟩) len cap))(i:Nat)(hi:i<xs.length):RV w A (.ref (xs.getD i .any).cells) (.pointer (some ⟨b,off+i*sz,none⟩)):=by
 cases h with
 |slice _ _ _ _ _ _ vs hsz h1c hcap hlen hc hr=>
  have hx:(xs.getD i .any).cells.length=sz:=by
   rw[List.getD_eq_getElem?_getD,List.getElem?_eq_getElem hi]
   exact hsz _ (by simp)
  have hb:(i+1)*sz≤xs.length*sz:=Nat.mul_le_mul_right _ hi
  rw[Nat.add_mul,Nat.one_mul] at hb
  refine .ref _ _ _ (fun j=>vs (i*sz+j)) (fun j hj=> ?_) (fun j=> ?_)
  ·rw[Nat.add_assoc];exact hc _ (by omega)
  ·by_cases hj:j<sz
   ·have:=hr (i*sz+j)
    rw[rR AV.cells sz xs i hsz hi j .any .any hj] at this
    exact this
   ·rw[List.getD_eq_getElem?_getD,List.getElem?_eq_none (by omega)]
    exact .any _
theorem LN{t e:TypeId}{x i:Operand}{m mi:ai}{sz:Nat}(hop:o.op=.indexAddr t x i)(hd:o.dst=some d)(hN:d<N)(hx:aC x=some m)(hi:aC i=some mi)
  (ht:P.underlying t=some (.slice e))(hz:cg P e=some sz)
  (h:RS N s a w A sp)(hv:Z2 P (.aO d m mi sz) s K)(hn:Next s w A sp N K next):o.wp P a w next Q:=by
 have h1:=(bf h hx).1
 have h2:=(bf h hi).1
 simp only[cg,Option.map_eq_some_iff] at hz
 obtain⟨inf,c7,rfl⟩:=hz
 simp only[Z2] at hv
 split at hv
 ·rename_i sz' xs own k n hxs hint
  obtain⟨rfl,h0,hl,hK⟩:=hv
  rw[hxs] at h1;rw[hint] at h2
  have e2:=h2.cJ
  generalize aR:a.eval x=v0 at h1
  have hx':=h1
  cases h1 with
  |cH=>simp at hl;omega
  |slice _ _ _ b off cap vs hsz h1c hcap hlen hc hr=>
   have k_:n.toNat<xs.length:=by omega
   refine fin h hd hN (v:=.pointer (some ⟨b,off+n.toNat*inf.size,none⟩)) ?_ (hx'.elem n.toNat k_) trivial hK hn
   simp[execOp,hop,aR,e2,Instr.indexAt,asIntOf,run_underlying ht,h0,hl,sizeOf,typeInfo,c7,Addr.fK]
 ·rename_i b off len cap sz' k n hxs hint
  obtain⟨rfl,h0,hl,hK⟩:=hv
  rw[hxs] at h1;rw[hint] at h2
  have e2:=h2.cJ
  generalize aR:a.eval x=v0 at h1
  cases h1
  refine fin h hd hN (v:=.pointer (some ⟨b,off+n.toNat*inf.size,none⟩)) ?_ (.aj _ _) trivial hK hn
  simp[execOp,hop,aR,e2,Instr.indexAt,asIntOf,run_underlying ht,h0,hl,sizeOf,typeInfo,c7,Addr.fK]
 ·exact hv.elim
theorem LO{t e:TypeId}{x i:Operand}{m mi:ai}{len sz:Nat}(hop:o.op=.indexAddr t x i)(hd:o.dst=some d)(hN:d<N)(hx:aC x=some m)(hi:aC i=some mi)
  (ht:P.underlying t=some (.array len e))(hz:cg P e=some sz)
  (h:RS N s a w A sp)(hv:Z2 P (.cW d m mi len sz) s K)(hn:Next s w A sp N K next):o.wp P a w next Q:=by
 have h1:=(bf h hx).1
 have h2:=(bf h hi).1
 simp only[cg,Option.map_eq_some_iff] at hz
 obtain⟨inf,c7,rfl⟩:=hz
 simp only[Z2] at hv
 split at hv
 ·rename_i cs k n hxs hint
  obtain⟨h0,hl,hK⟩:=hv
  rw[hxs] at h1;rw[hint] at h2
  have e2:=h2.cJ
  generalize aR:a.eval x=v0 at h1
  cases h1 with
  |ref _ b off vs hc hr=>
   refine fin h hd hN (v:=.pointer (some ⟨b,off+n.toNat*inf.size,none⟩)) ?_ (RV.CU (n.toNat*inf.size) (.ref _ b off vs hc hr)) trivial hK hn
   simp[execOp,hop,aR,e2,Instr.indexAt,asIntOf,run_underlying ht,h0,hl,Instr.sureAddr,sizeOf,typeInfo,c7,Addr.fK]
 ·rename_i b off k n hxs hint
  obtain⟨h0,hl,hK⟩:=hv
  rw[hxs] at h1;rw[hint] at h2
  have e2:=h2.cJ
  generalize aR:a.eval x=v0 at h1
  cases h1
  refine fin h hd hN (v:=.pointer (some ⟨b,off+n.toNat*inf.size,none⟩)) ?_ (.aj _ _) trivial hK hn
  simp[execOp,hop,aR,e2,Instr.indexAt,asIntOf,run_underlying ht,h0,hl,Instr.sureAddr,sizeOf,typeInfo,c7,Addr.fK]
 ·exact hv.elim
theorem CV{t:TypeId}{cs:List AV}{vs:Array Value}{off:Nat}{n:Option Nat}{k:AV→Prop}(ht:jK P t=some n)
  (hs:vs.size=cs.length)(hr:∀i,RV w A (cs.getD i .any) (vs.getD i undef))(hv:cz cs off n k):
  ∃x v,(part t vs off).run P w=.ok v w∧RV w A x v∧k x:=by
 obtain⟨h1,i,hi,hk⟩:=CT ht w
 cases n with
 |none=>
  simp only[cz] at hv
  refine⟨_,vs.getD off undef,?_,hr off,hv.2⟩
  have:vs[off]? =some (vs.getD off undef):=by rw[Array.getD_eq_getD_getElem?,Array.getElem?_eq_getElem (by omega)];rfl
  generalize vs.getD off undef=v at this
  simp[part,Sem.run_bind,h1,this]
 |some m=>
  simp only[cz] at hv
  exact⟨_,.agg (vs.extract off (off+m)),by simp[part,Sem.run_bind,h1,sizeOf,typeInfo,hi,hk m rfl],(RV.part hs hr off m hv.1).erase,hv.2⟩
theorem LP{t:TypeId}{x:Operand}{m:ai}{f:Nat}{fs:Array Field}{fd:Field}{n:Option Nat}(hop:o.op=.field t x f)(hd:o.dst=some d)(hN:d<N)(hx:aC x=some m)
  (ht:P.underlying t=some (.struct fs))(hf:fs[f]? =some fd)(hz:jK P fd.type=some n)
  (h:RS N s a w A sp)(hv:Z2 P (.fld d m fd.offset n) s K)(hn:Next s w A sp N K next):o.wp P a w next Q:=by
 have h1:=(bf h hx).1
 simp only[Z2] at hv
 split at hv
 ·rename_i cs hcs
  rw[hcs] at h1
  generalize aR:a.eval x=v0 at h1
  cases h1 with
  |agg _ vs hs hr=>
   obtain⟨y,v,hrun,hy,hK⟩:=CV hz hs hr hv
   exact fin h hd hN (by simp[execOp,hop,aR,Instr.field,run_underlying ht,hf,asAgg,hrun]) hy.erase .erase hK hn
 ·exact hv.elim
theorem LQ{t e:TypeId}{x i:Operand}{m mi:ai}{len sz:Nat}{n:Option Nat}(hop:o.op=.index t x i)(hd:o.dst=some d)(hN:d<N)(hx:aC x=some m)(hi:aC i=some mi)
  (ht:P.underlying t=some (.array len e))(hz:cg P e=some sz)(hp:jK P e=some n)
  (h:RS N s a w A sp)(hv:Z2 P (.iB d m mi len sz n) s K)(hn:Next s w A sp N K next):o.wp P a w next Q:=by
 have h1:=(bf h hx).1
 have h2:=(bf h hi).1
 simp only[cg,Option.map_eq_some_iff] at hz
 obtain⟨inf,c7,rfl⟩:=hz
 simp only[Z2] at hv
 split at hv
 ·rename_i cs k j hcs hint
  obtain⟨h0,hl,hv⟩:=hv
  rw[hcs] at h1;rw[hint] at h2
  have e2:=h2.cJ
  generalize aR:a.eval x=v0 at h1
  cases h1 with
  |agg _ vs hs hr=>
   obtain⟨y,v,hrun,hy,hK⟩:=CV hp hs hr hv
   exact fin h hd hN (by simp[execOp,hop,aR,e2,Instr.index,asIntOf,run_underlying ht,h0,hl,sizeOf,typeInfo,c7,hrun]) hy.erase .erase hK hn
 ·exact hv.elim
theorem LR{t:TypeId}{x i:Operand}{m mi:ai}(hop:o.op=.index t x i)(hd:o.dst=some d)(hN:d<N)(hx:aC x=some m)(hi:aC i=some mi)
  (ht:P.underlying t=some .string)
  (h:RS N s a w A sp)(hv:Z2 P (.aas d m mi) s K)(hn:Next s w A sp N K next):o.wp P a w next Q:=by
 have h1:=(bf h hx).1
 have h2:=(bf h hi).1
 simp only[Z2] at hv
 split at hv
 ·rename_i st k j hcs hint
  obtain⟨h0,hl,hv⟩:=hv
  rw[hcs] at h1;rw[hint] at h2
  have e1:=h1.rQ
  have e2:=h2.cJ
  have hb:st[j.toNat]? =some (st.data.toList.getD j.toNat 0):=by
   have hlt:j.toNat<st.size:=by omega
   rw[getElem?_pos st j.toNat hlt]
   congr 1
   rw[List.getD_eq_getElem?_getD,List.getElem?_eq_getElem (by simpa using hlt)]
   rfl
  have hrun:(Instr.index t (.string st) (.int k j)).run P w=.ok (.int .u8 (st.data.toList.getD j.toNat 0).toNat) w:=by
   generalize st.data.toList.getD j.toNat 0=c at hb
   unfold Instr.index
   simp only[asIntOf,Sem.run_bind,Sem.run_pure,Result.andThen_ok,run_underlying ht,if_pos h0,hb]
  exact fin (v:=.int .u8 (st.data.toList.getD j.toNat 0).toNat) h hd hN (by simp only[execOp,hop,e1,e2,Sem.run_bind,hrun,Result.andThen_ok,Sem.run_pure]) (.lit _ rfl) trivial hv hn
 ·exact hv.elim
end
end Go.Z4
namespace Go.Z4
open Go.RowKit
section
variable {P:Program} {N:Nat} {s:St} {a:Act} {w:World} {A:aK} {sp:Sp} {K:St→Prop} {next:Act→World→Prop} {Q:Exit→Act→World→Prop} {o:Oper} {d:Nat}
theorem LS{op:BinOp}{k:IntKind}{p q:Int}{f:AV→Prop}(hsh:op≠.shl∧op≠.shr)(t:TypeId)(h:en op k p q f):∃v,(binOp op t (.int k p) (.int k q)).run P w=.ok v w∧flat v=true∧f (.lit v):=by
 cases op with
 |shl=>exact absurd rfl hsh.1
 |shr=>exact absurd rfl hsh.2
 |add=>exact⟨.int k (p+q),by simp[binOp,Op.intArith,rJ h.1],rfl,h.2⟩
 |sub=>exact⟨.int k (p - q),by simp[binOp,Op.intArith,rJ h.1],rfl,h.2⟩
 |mul=>exact⟨.int k (p*q),by simp[binOp,Op.intArith,rJ h.1],rfl,h.2⟩
 |quo=>exact⟨.int k (p.tdiv q),by simp[binOp,Op.intDiv,h.1,rJ h.2.1],rfl,h.2.2⟩
 |rem=>exact⟨.int k (p.tmod q),by simp[binOp,Op.intDiv,h.1],rfl,h.2⟩
 |and=>exact⟨.int k (abh .and k p q),by simp only[binOp,ne_eq,not_true,if_false];rfl,rfl,h⟩
 |or=>exact⟨.int k (abh .or k p q),by simp only[binOp,ne_eq,not_true,if_false];rfl,rfl,h⟩
 |xor=>exact⟨.int k (abh .xor k p q),by simp only[binOp,ne_eq,not_true,if_false];rfl,rfl,h⟩
 |andNot=>exact⟨.int k (abh .andNot k p q),by simp only[binOp,ne_eq,not_true,if_false];rfl,rfl,h⟩
 |eql=>exact⟨.bool (p==q),by simp[binOp,Op.intCmp],rfl,h⟩
 |neq=>exact⟨.bool (p != q),by simp[binOp,Op.intCmp],rfl,h⟩
 |lss=>exact⟨.bool (decide (p<q)),by simp[binOp,Op.intCmp],rfl,h⟩
 |leq=>exact⟨.bool (decide (p≤q)),by simp[binOp,Op.intCmp],rfl,h⟩
 |gtr=>exact⟨.bool (decide (p>q)),by simp[binOp,Op.intCmp],rfl,h⟩
 |geq=>exact⟨.bool (decide (p≥q)),by simp[binOp,Op.intCmp],rfl,h⟩
theorem CW{op:BinOp}{k k':IntKind}{p q:Int}{f:AV→Prop}(t:TypeId)(h:shI op k p q f):∃v,(binOp op t (.int k p) (.int k' q)).run P w=.ok v w∧flat v=true∧f (.lit v):=by
 cases op with
 |shl=>exact⟨.int k (k.wrap (p*2^(min q.toNat k.bits))),by simp[binOp,Op.shift,Int.not_lt.2 h.1],rfl,h.2⟩
 |shr=>exact⟨.int k (p.fdiv (2^(min q.toNat k.bits))),by simp[binOp,Op.shift,Int.not_lt.2 h.1],rfl,h.2⟩
 |_=>exact h.elim
theorem LU{op:BinOp}{p q:ByteArray}{f:AV→Prop}(t:TypeId)(h:k6 op p q f):∃v,(binOp op t (.string p) (.string q)).run P w=.ok v w∧flat v=true∧f (.lit v):=by
 cases op with
 |eql=>exact⟨.bool (p.toList==q.toList),rfl,rfl,h⟩
 |neq=>exact⟨.bool (!(p.toList==q.toList)),rfl,rfl,h⟩
 |lss=>exact⟨.bool (Op.bytesLess p.toList q.toList),rfl,rfl,h⟩
 |leq=>exact⟨.bool (Op.bytesLess p.toList q.toList||p.toList==q.toList),rfl,rfl,h⟩
 |gtr=>exact⟨.bool (!(Op.bytesLess p.toList q.toList||p.toList==q.toList)),rfl,rfl,h⟩
 |geq=>exact⟨.bool (!Op.bytesLess p.toList q.toList),rfl,rfl,h⟩
 |_=>exact h.elim
theorem xM{op:BinOp}{t:TypeId}{x y:Operand}{p q:Value}(h1:flat p=true)(h2:flat q=true)(h3:p≠.nilIface):(eqGuard op t x y p q).run P w=.ok () w:=by
 unfold eqGuard
 cases op<;>first
  |rfl
  |(cases p<;>cases q<;>first|(cases h1;done)|(cases h2;done)|exact absurd rfl h3|rfl)
theorem adA{op:BinOp}{x y:AV}{p q:Value}{f:AV→Prop}(t:TypeId)(ox oy:Operand)(hx:RV w A x p)(hy:RV w A y q)(h:cX op x y f):∃v,(do eqGuard op t ox oy p q;binOp op t p q:Sem Value).run P w=.ok v w∧flat v=true∧f (.lit v):=by
 unfold cX at h
 split at h
 ·have e1:=hx.cJ;have e2:=hy.cJ
  subst e1;subst e2
  simp only[Sem.run_bind,xM (P:=P) (w:=w) (op:=op) (t:=t) (x:=ox) (y:=oy) (p:=.int _ _) (q:=.int _ _) rfl rfl (by simp),Result.andThen_ok]
  split at h
  ·exact CW t h
  ·exact CW t h
  ·rename_i n1 n2
   obtain⟨rfl,h⟩:=h
   exact LS ⟨n1,n2⟩ t h
 ·have e1:=hx.rQ;have e2:=hy.rQ
  subst e1;subst e2
  simp only[Sem.run_bind,xM (P:=P) (w:=w) (op:=op) (t:=t) (x:=ox) (y:=oy) (p:=.string _) (q:=.string _) rfl rfl (by simp),Result.andThen_ok]
  exact LU t h
 ·exact h.elim
theorem CX{t t':TypeId}{op:BinOp}{x y:Operand}{mx my:ai}(hop:o.op=.binOp op t x y t')(hd:o.dst=some d)(hN:d<N)(hx:aC x=some mx)(hy:aC y=some my)(h:RS N s a w A sp)(hv:Z2 P (.bin d op mx my) s K)(hn:Next s w A sp N K next):o.wp P a w next Q:=by
 have h1:=(bf h hx).1
 have h2:=(bf h hy).1
 simp only[Z2] at hv
 obtain⟨v,hrun,hf,hK⟩:=adA (P:=P) t x y h1 h2 hv
 refine fin h hd hN ?_ (.lit v hf) (.nr (by intro _ _ _ h;cases h)) hK hn
 simp only[Sem.run_bind] at hrun
 simp only[execOp,hop,Sem.run_bind,hrun,Result.andThen_ok,Sem.run_pure]
theorem LW(t:TypeId)(ht:P.underlying t=some .bool)(p q:Bool):(Op.equal t (.bool p) (.bool q)).run P w=.ok (p==q) w:=by
 show(Op.equalIn (9999+1) t _ _).run P w=_
 unfold Op.equalIn
 simp only[Sem.run_bind,run_underlying ht,Result.andThen_ok,Sem.run_pure]
theorem CY{t t':TypeId}{op:BinOp}{neg:Bool}{x y:Operand}{mx my:ai}(hop:o.op=.binOp op t x y t')(hneg:op=(if neg then .neq else .eql))(hd:o.dst=some d)(hN:d<N)(hx:aC x=some mx)(hy:aC y=some my)
  (ht:P.underlying t=some .bool)
  (h:RS N s a w A sp)(hv:Z2 P (.iC d neg mx my) s K)(hn:Next s w A sp N K next):o.wp P a w next Q:=by
 have h1:=(bf h hx).1
 have h2:=(bf h hy).1
 simp only[Z2] at hv
 split at hv
 ·rename_i p q e1 e2
  rw[e1] at h1;rw[e2] at h2
  have v1:=h1.k9;have v2:=h2.k9
  refine fin h hd hN ?_ (.lit _ rfl) trivial hv hn
  subst hneg
  have hg:=fun op=>xM (P:=P) (w:=w) (op:=op) (t:=t) (x:=x) (y:=y) (p:=.bool p) (q:=.bool q) rfl rfl (by simp)
  cases neg<;>simp[execOp,hop,v1,v2,hg,binOp,LW t ht]
 ·exact hv.elim
theorem CZ{t t' e:TypeId}{op:BinOp}{neg:Bool}{x:Operand}{mx:ai}(hop:o.op=.binOp op t x (.const (.slice none 0 0)) t')(hneg:op=(if neg then .neq else .eql))(hd:o.dst=some d)(hN:d<N)(hx:aC x=some mx)
  (ht:P.underlying t=some (.slice e))
  (h:RS N s a w A sp)(hv:Z2 P (.isNil d neg mx) s K)(hn:Next s w A sp N K next):o.wp P a w next Q:=by
 have h1:=(bf h hx).1
 have v2:a.eval (.const (.slice none 0 0))=.slice none 0 0:=rfl
 have goal:∀(b:Option Addr) (l c:Nat),a.eval x=.slice b l c→K (s.set d (.lit (.bool (if neg then !b.isNone else b.isNone))))→o.wp P a w next Q:=by
  intro b l c hb hK
  refine fin h hd hN ?_ (.lit _ rfl) trivial hK hn
  subst hneg
  have he:(Op.equal t (.slice b l c) (.slice none 0 0)).run P w=.ok b.isNone w:=by
   show(Op.equalIn (9999+1) t _ _).run P w=_
   unfold Op.equalIn
   simp only[Sem.run_bind,run_underlying ht,Result.andThen_ok]
   cases b<;>rfl
  have hg:∀op,(eqGuard op t x (.const (.slice none 0 0)) (.slice b l c) (.slice none 0 0)).run P w=.ok () w:=fun op=>by
   unfold eqGuard
   cases op<;>rfl
  cases neg
  ·simp only[execOp,hop,hb,v2,Sem.run_bind,hg,Result.andThen_ok,binOp,he,Sem.run_pure,if_false,Bool.false_eq_true]
  ·simp only[execOp,hop,hb,v2,Sem.run_bind,hg,Result.andThen_ok,binOp,he,Sem.run_pure,if_true]
 simp only[Z2] at hv
 split at hv
 ·rename_i e1
  rw[e1] at h1
  generalize aR:a.eval x=v0 at h1
  cases h1 with
  |cH=>exact goal none 0 0 aR (by have:=hv.1 rfl;cases neg<;>exact this)
  |slice=>exact goal (some _) _ _ aR (by have:=hv.2;cases neg<;>exact this)
 ·rename_i e1
  rw[e1] at h1
  generalize aR:a.eval x=v0 at h1
  cases h1
  exact goal (some _) _ _ aR (by cases neg<;>exact hv)
 ·exact hv.elim
theorem LX{t:TypeId}{x:Operand}{mx:ai}(hop:o.op=.unOp .not t x)(hd:o.dst=some d)(hN:d<N)(hx:aC x=some mx)(h:RS N s a w A sp)(hv:Z2 P (.not d mx) s K)(hn:Next s w A sp N K next):o.wp P a w next Q:=by
 have h1:=(bf h hx).1
 simp only[Z2] at hv
 split at hv
 ·rename_i p e1
  rw[e1] at h1
  exact fin h hd hN (by simp[execOp,hop,h1.k9,Op.unary]) (.lit _ rfl) trivial hv hn
 ·exact hv.elim
theorem LY{t:TypeId}{x:Operand}{mx:ai}(hop:o.op=.unOp .neg t x)(hd:o.dst=some d)(hN:d<N)(hx:aC x=some mx)(h:RS N s a w A sp)(hv:Z2 P (.neg d mx) s K)(hn:Next s w A sp N K next):o.wp P a w next Q:=by
 have h1:=(bf h hx).1
 simp only[Z2] at hv
 split at hv
 ·rename_i k p e1
  rw[e1] at h1
  exact fin (v:=.int k (0 - p)) h hd hN (by simp only[execOp,hop,h1.cJ,Op.unary,Op.intArith,rJ hv.1];rfl) (.lit _ rfl) trivial hv.2 hn
 ·exact hv.elim
theorem LZ{ts td:TypeId}{k k':IntKind}{x:Operand}{mx:ai}(hop:o.op=.convert ts td x)(hd:o.dst=some d)(hN:d<N)(hx:aC x=some mx)
  (hs:P.underlying ts=some (.int k'))(ht:P.underlying td=some (.int k))
  (h:RS N s a w A sp)(hv:Z2 P (.conv d k mx) s K)(hn:Next s w A sp N K next):o.wp P a w next Q:=by
 have h1:=(bf h hx).1
 simp only[Z2] at hv
 split at hv
 ·rename_i q p e1
  rw[e1] at h1
  exact fin (v:=.int k (k.wrap p)) h hd hN (by simp[execOp,hop,h1.cJ,convert,run_underlying hs,run_underlying ht,Conv.intToInt]) (.lit _ rfl) trivial hv hn
 ·exact hv.elim
theorem L0{x:Operand}{mx:ai}{i:Nat}(hop:o.op=.extract x i)(hd:o.dst=some d)(hN:d<N)(hx:aC x=some mx)(h:RS N s a w A sp)(hv:Z2 P (.ext d mx i) s K)(hn:Next s w A sp N K next):o.wp P a w next Q:=by
 have h1:=(bf h hx).1
 simp only[Z2] at hv
 split at hv
 ·rename_i xs e1
  rw[e1] at h1
  generalize aR:a.eval x=v0 at h1
  cases h1 with
  |tuple _ vs hs hr=>
   have:vs[i]? =some (vs.getD i undef):=by rw[Array.getD_eq_getD_getElem?,Array.getElem?_eq_getElem (by omega)];rfl
   have hrun:(Instr.extract (.tuple vs) i).run P w=.ok (vs.getD i undef) w:=by
    generalize vs.getD i undef=v at this
    simp[Instr.extract,this]
   exact fin (v:=vs.getD i undef) h hd hN (by simp only[execOp,hop,aR,Sem.run_bind,hrun,Result.andThen_ok,Sem.run_pure]) (hr i).erase .erase hv.2 hn
 ·exact hv.elim
theorem adB{x:Operand}{mx:ai}{t e:TypeId}(hop:o.op=.call {callee:=.builtin .len,args:= #[x],argTypes:= #[t]})(hd:o.dst=some d)(hN:d<N)(hx:aC x=some mx)
  (ht:P.underlying t=some (.slice e))
  (h:RS N s a w A sp)(hv:Z2 P (.len d mx) s K)(hn:Next s w A sp N K next):o.wp P a w next Q:=by
 have h1:=(bf h hx).1
 simp only[Z2] at hv
 split at hv
 ·rename_i sz xs own e1
  rw[e1] at h1
  generalize aR:a.eval x=v0 at h1
  cases h1 with
  |cH=>exact fin (v:=.int .i64 0) h hd hN (by simp[execOp,hop,resolve,invoke,builtin,aR,Builtin.len_,run_underlying ht,goInt]) (.lit _ rfl) trivial hv hn
  |slice _ _ _ b off cap vs hsz h1c hcap hlen hc hr=>
   exact fin (v:=.int .i64 xs.length) h hd hN (by simp[execOp,hop,resolve,invoke,builtin,aR,Builtin.len_,run_underlying ht,goInt]) (.lit _ rfl) trivial hv hn
 ·rename_i b off len cap sz e1
  rw[e1] at h1
  generalize aR:a.eval x=v0 at h1
  cases h1
  exact fin (v:=.int .i64 len) h hd hN (by simp[execOp,hop,resolve,invoke,builtin,aR,Builtin.len_,run_underlying ht,goInt]) (.lit _ rfl) trivial hv hn
 ·rename_i e1
  rw[e1] at h1
  generalize aR:a.eval x=v0 at h1
  cases h1
  exact fin (v:=.int .i64 0) h hd hN (by simp[execOp,hop,resolve,invoke,builtin,aR,Builtin.len_,run_underlying ht,goInt]) (.lit _ rfl) trivial hv hn
 ·exact hv.elim
theorem adC{x:Operand}{mx:ai}{t:TypeId}(hop:o.op=.call {callee:=.builtin .len,args:= #[x],argTypes:= #[t]})(hd:o.dst=some d)(hN:d<N)(hx:aC x=some mx)
  (ht:P.underlying t=some .string)
  (h:RS N s a w A sp)(hv:Z2 P (.aav d mx) s K)(hn:Next s w A sp N K next):o.wp P a w next Q:=by
 have h1:=(bf h hx).1
 simp only[Z2] at hv
 split at hv
 ·rename_i st e1
  rw[e1] at h1
  exact fin (v:=.int .i64 st.size) h hd hN (by simp[execOp,hop,resolve,invoke,builtin,h1.rQ,Builtin.len_,run_underlying ht,goInt]) (.lit _ rfl) trivial hv hn
 ·exact hv.elim
theorem C0{x:Operand}{t e:TypeId}{n:Nat}(hop:o.op=.call {callee:=.builtin .len,args:= #[x],argTypes:= #[t]})(hd:o.dst=some d)(hN:d<N)
  (ht:P.underlying t=some (.array n e)∨∃t',P.underlying t=some (.pointer t')∧P.underlying t'=some (.array n e))
  (h:RS N s a w A sp)(hv:Z2 P (.j9 d n) s K)(hn:Next s w A sp N K next):o.wp P a w next Q:=by
 refine fin (v:=.int .i64 n) h hd hN ?_ (.lit _ rfl) trivial hv hn
 have:(Builtin.len_ #[t] o.type #[a.eval x]).run P w=.ok (.int .i64 n) w:=by
  rcases ht with ht|⟨t',ht,ht'⟩
  ·unfold Builtin.len_
   simp only[List.getElem?_toArray,List.getElem?_cons_zero,Sem.run_bind,run_underlying ht,Result.andThen_ok]
   cases a.eval x<;>rfl
  ·unfold Builtin.len_
   simp only[List.getElem?_toArray,List.getElem?_cons_zero,Sem.run_bind,run_underlying ht,Result.andThen_ok]
   cases a.eval x<;>simp[run_underlying ht',goInt]
 simp[execOp,hop,resolve,invoke,builtin,this]
theorem adD{x y:Operand}{mx my:ai}{ts:Array TypeId}(hop:o.op=.call {callee:=.builtin .max,args:= #[x,y],argTypes:=ts})(hd:o.dst=some d)(hN:d<N)(hx:aC x=some mx)(hy:aC y=some my)(h:RS N s a w A sp)(hv:Z2 P (.aaX d mx my) s K)(hn:Next s w A sp N K next):o.wp P a w next Q:=by
 have h1:=(bf h hx).1
 have h2:=(bf h hy).1
 simp only[Z2] at hv
 split at hv
 ·rename_i k p k' q e1 e2
  rw[e1] at h1;rw[e2] at h2
  exact fin (v:=.int k (if q>p then q else p)) h hd hN (by simp[execOp,hop,resolve,invoke,builtin,h1.cJ,h2.cJ,Builtin.max_,Builtin.max2]) (.lit _ rfl) trivial hv hn
 ·exact hv.elim
theorem L4{x y:Operand}{mx my:ai}{ts:Array TypeId}(hop:o.op=.call {callee:=.builtin .min,args:= #[x,y],argTypes:=ts})(hd:o.dst=some d)(hN:d<N)(hx:aC x=some mx)(hy:aC y=some my)(h:RS N s a w A sp)(hv:Z2 P (.jH d mx my) s K)(hn:Next s w A sp N K next):o.wp P a w next Q:=by
 have h1:=(bf h hx).1
 have h2:=(bf h hy).1
 simp only[Z2] at hv
 split at hv
 ·rename_i k p k' q e1 e2
  rw[e1] at h1;rw[e2] at h2
  exact fin (v:=.int k (if q<p then q else p)) h hd hN (by simp[execOp,hop,resolve,invoke,builtin,h1.cJ,h2.cJ,Builtin.min_,Builtin.min2]) (.lit _ rfl) trivial hv hn
 ·exact hv.elim
theorem xN(h:RS N s a w A sp):∀{xs:List Operand} {ms:List ai},oz xs=some ms→ms.length=xs.length∧∀i,RV w A (((ms.map fun x=>(x.ev s.env).erase)).getD i .any) ((xs.map a.eval).getD i undef)
 |[],ms,hm=>by injection hm with hm;subst hm;exact⟨rfl,fun i=>by simp;exact .any _⟩
 |x::xs,ms,hm=>by
  simp only[oz] at hm
  split at hm
  ·rename_i y ys h1 h2
   injection hm with hm;subst hm
   obtain⟨i1,i2⟩:=xN h h2
   refine⟨by simp[i1],fun i=> ?_⟩
   cases i with
   |zero=>simpa using(bf h h1).1.erase
   |succ i=>simpa using i2 i
  ·cases hm
theorem L5(h:RS N s a w A sp){x:Operand}{m:ai}(hm:xB x=some m):RV w A (m.ev s.env) (a.eval x):=by
 unfold xB at hm
 split at hm
 ·injection hm with hm;subst hm
  exact .lit _ rfl
 ·exact(bf h hm).1
theorem C1(h:RS N s a w A sp):∀{xs:List Operand} {ms:List ai},qb xs=some ms→ms.length=xs.length∧∀i,RV w A (((ms.map fun x=>(x.ev s.env).erase)).getD i .any) ((xs.map a.eval).getD i undef)
 |[],ms,hm=>by unfold qb at hm;injection hm with hm;subst hm;exact⟨rfl,fun i=>by simp;exact .any _⟩
 |x::xs,ms,hm=>by
  simp only[qb] at hm
  split at hm
  ·rename_i y ys h1 h2
   injection hm with hm;subst hm
   obtain⟨i1,i2⟩:=C1 h h2
   refine⟨by simp[i1],fun i=> ?_⟩
   cases i with
   |zero=>simpa using(L5 h h1).erase
   |succ i=>simpa using i2 i
  ·cases hm
theorem l_(h:RS N s a w A sp):∀{xs:List Operand} {ts:List TypeId} {ms:List ai},aaE P xs ts=some ms→ms.length=xs.length∧∀i,RV w A (((ms.map fun x=>(x.ev s.env).erase)).getD i .any) ((xs.map a.eval).getD i undef)
 |[],_,ms,hm=>by unfold aaE at hm;injection hm with hm;subst hm;exact⟨rfl,fun i=>by simp;exact .any _⟩
 |x::xs,[],ms,hm=>by
  simp only[aaE] at hm
  split at hm
  ·rename_i y ys h1 h2
   injection hm with hm;subst hm
   obtain⟨i1,i2⟩:=l_ h h2
   refine⟨by simp[i1],fun i=> ?_⟩
   cases i with
   |zero=>simpa using(bf h h1).1.erase
   |succ i=>simpa using i2 i
  ·cases hm
 |x::xs,t::ts,ms,hm=>by
  simp only[aaE] at hm
  split at hm
  ·rename_i y ys h1 h2
   injection hm with hm;subst hm
   obtain⟨i1,i2⟩:=l_ h h2
   refine⟨by simp[i1],fun i=> ?_⟩
   cases i with
   |zero=>simpa using(xK h h1).1.erase
   |succ i=>simpa using i2 i
  ·cases hm
theorem L6{fn:Fn}{xs ys:Array Operand}{ms ns:List ai}(hop:o.op=.makeFunc fn xs ys)(hd:o.dst=some d)(hN:d<N)(hx:oz xs.toList=some ms)(hy:oz ys.toList=some ns)(h:RS N s a w A sp)(hv:Z2 P (.dB d fn ms ns) s K)(hn:Next s w A sp N K next):o.wp P a w next Q:=by
 obtain⟨a1,a2⟩:=xN h hx
 obtain⟨b1,b2⟩:=xN h hy
 refine fin (v:=.func fn (xs.map a.eval) (ys.map a.eval)) h hd hN (by simp[execOp,hop,Instr.makeFunc]) (.func _ _ _ _ _ (by simp[a1]) (by simp[b1]) (fun i=> ?_) (fun i=> ?_)) trivial hv hn
 ·have:=a2 i
  simpa[List.getD_eq_getElem?_getD,Array.getD_eq_getD_getElem?] using this
 ·have:=b2 i
  simpa[List.getD_eq_getElem?_getD,Array.getD_eq_getD_getElem?] using this
theorem L7{x:Operand}{mx:ai}(hop:o.op=.nilCheck x)(hd:o.dst=some d)(hN:d<N)(hx:aC x=some mx)(h:RS N s a w A sp)(hv:Z2 P (.dJ d mx) s K)(hn:Next s w A sp N K next):o.wp P a w next Q:=by
 have h1:=(bf h hx).1
 simp only[Z2] at hv
 split at hv
 ·rename_i cs e1
  rw[e1] at h1
  generalize aR:a.eval x=v0 at h1
  have hh:=h1
  cases h1
  exact fin h hd hN (by simp[execOp,hop,aR]) hh trivial hv hn
 ·rename_i b off e1
  rw[e1] at h1
  generalize aR:a.eval x=v0 at h1
  have hh:=h1
  cases h1
  exact fin h hd hN (by simp[execOp,hop,aR]) hh trivial hv hn
 ·exact hv.elim
theorem uG{α β:Type}(f:α→List β)(sz:Nat):∀(xs:List α) (n:Nat),(∀x∈xs,(f x).length=sz)→(xs.take n).flatMap f=(xs.flatMap f).take (n*sz)
 |[],n,_=>by simp
 |x::xs,0,_=>by simp
 |x::xs,n+1,h=>by
  have hx:=h x (by simp)
  have ih:=uG f sz xs n (fun y hy=>h y (by simp[hy]))
  have e:(n+1)*sz=(f x).length+n*sz:=by rw[hx,Nat.add_mul];omega
  simp only[List.take_succ_cons,List.flatMap_cons,ih,e]
  rw[List.take_append]
  congr 1
  ·rw[List.take_of_length_le (by omega)]
  ·congr 1;omega
theorem xO{α β:Type}(f:α→List β)(sz:Nat):∀(xs:List α) (n:Nat),(∀x∈xs,(f x).length=sz)→(xs.drop n).flatMap f=(xs.flatMap f).drop (n*sz)
 |[],n,_=>by simp
 |x::xs,0,_=>by simp
 |x::xs,n+1,h=>by
  have hx:=h x (by simp)
  have ih:=xO f sz xs n (fun y hy=>h y (by simp[hy]))
  have e:(n+1)*sz=(f x).length+n*sz:=by rw[hx,Nat.add_mul];omega
  simp only[List.drop_succ_cons,List.flatMap_cons,ih,e]
  rw[List.drop_append,List.drop_eq_nil_of_le (as:=f x) (by omega),List.nil_append]
  congr 1;omega
theorem L8{t e:TypeId}{x hi:Operand}{mx mh:ai}{sz:Nat}(hop:o.op=.slice t x none (some hi) none)(hd:o.dst=some d)(hN:d<N)(hx:aC x=some mx)(hy:aC hi=some mh)
  (ht:P.underlying t=some (.slice e))(hz:cg P e=some sz)
  (h:RS N s a w A sp)(hv:Z2 P (.jI d mx mh sz) s K)(hn:Next s w A sp N K next):o.wp P a w next Q:=by
 have h1:=(bf h hx).1
 have h2:=(bf h hy).1
 simp only[cg,Option.map_eq_some_iff] at hz
 obtain⟨inf,c7,rfl⟩:=hz
 simp only[Z2] at hv
 split at hv
 ·rename_i sz' xs own k n e1 e2
  obtain⟨hs,h0,hl,hK⟩:=hv
  rw[e1] at h1;rw[e2] at h2
  have v2:=h2.cJ
  generalize aR:a.eval x=v0 at h1
  cases h1 with
  |cH=>
   have hn0:n=0:=by simp at hl;omega
   subst hn0
   refine fin (v:=.slice none 0 0) h hd hN ?_ (by simp;exact .cH _ _) (by simp;trivial) hK hn
   simp[execOp,hop,aR,v2,Instr.sliceAt,run_underlying ht,Instr.slice,Instr.sliceBounds,Instr.sliceBound,asIntOf,sizeOf,typeInfo,c7]
  |slice _ _ _ b off cap vs hsz h1c hcap hlen hc hr=>
   have k_:n.toNat≤xs.length:=by omega
   have hnc:n≤(cap:Int):=by omega
   have C2:∀y∈xs.take n.toNat,y.cells.length=inf.size:=by
    intro y hy
    rcases hs with rfl|rfl
    ·exact hsz y (List.mem_of_mem_take hy)
    ·simp at hy
   have qd:RV w A (.slice inf.size (xs.take n.toNat) 0) (.slice (some ⟨b,off,none⟩) (xs.take n.toNat).length cap):=by
    refine .slice _ _ _ _ _ _ vs C2 (fun y hy=>h1c y (List.mem_of_mem_take hy)) (by simp;omega) (by simp;omega) (fun i hi=> ?_) (fun i=> ?_)
    ·refine hc i ?_
     rcases hs with rfl|rfl
     ·refine Nat.lt_of_lt_of_le hi (Nat.mul_le_mul_right _ ?_);simp;omega
     ·simp at hi
    ·rcases hs with rfl|rfl
     ·rw[uG AV.cells _ xs _ hsz]
      by_cases hi:i<n.toNat*inf.size
      ·have:=hr i
       simp only[List.getD_eq_getElem?_getD,List.getElem?_take,hi,if_true] at this⊢
       exact this
      ·simp only[List.getD_eq_getElem?_getD,List.getElem?_take,hi,if_false,Option.getD_none]
       exact .any _
     ·simp;exact .any _
   have e3:(xs.take n.toNat).length=n.toNat:=by simp;omega
   rw[e3] at qd
   refine fin h hd hN ?_ qd (.nr (by intro _ _ _ hh;injection hh with _ _ hh;exact hh.symm)) hK hn
   simp[execOp,hop,aR,v2,Instr.sliceAt,run_underlying ht,Instr.slice,Instr.sliceBounds,Instr.sliceBound,asIntOf,sizeOf,typeInfo,c7,h0,hnc,Addr.add]
 ·exact hv.elim
end
end Go.Z4
namespace Go.Z4
open Go.RowKit
section
variable {P:Program} {N:Nat} {s:St} {a:Act} {w:World} {A:aK} {sp:Sp} {K:St→Prop} {next:Act→World→Prop} {Q:Exit→Act→World→Prop} {o:Oper} {d:Nat}
theorem Ev.same{L L':aK}(h:∀b o,L' b o→L b o):Ev w A L w A L':=⟨rfl,rfl,rfl,Nat.le_refl _,fun _ _ _ hl=>⟨rfl,fun h'=>hl (h _ _ h')⟩,fun _ _ _=>rfl,fun _ _ h=>h,fun _ _ h=>.inl h⟩
theorem qe{sz:Nat}{xs:List AV}{r:Nat}(hr:r≠0){v:Value}(h:bV sp (.slice sz xs r) v)(hv:RV w A (.slice sz xs r) v):v=.slice none 0 0∨∃b off cap,v=.slice (some ⟨b,off,none⟩) xs.length cap∧xs.length≤cap∧sp r=(b,off+xs.length*sz,off+cap*sz):=by
 cases hv with
 |cH=>exact .inl rfl
 |slice _ _ _ b off cap vs hsz h1c hcap hlen hc hr'=>exact .inr ⟨b,off,cap,rfl,hcap,h.resolve_left hr⟩
theorem RS.rename(h:RS N s a w A sp)(r q:Nat)(hq:q≠0):RS N ((s.aB r).aB q) a w A (ak (ak (ak sp r (0,0,0)) q (0,0,0)) q (sp r)):=by
 have h2:=(h.aB r).aB q
 refine h2.uy q (p9 _ _ hq) (p_ _ _ hq) (sp r).1 (sp r).2.1 (sp r).2.2 (fun hlt=> ?_) (fun q' hne hlt gL he=> ?_) (fun o ho=> ?_)
 ·obtain⟨h3,h4⟩:=h.bW r hlt
  exact⟨h3,by simp[St.aB,h4]⟩
 ·simp only[ak,hne,if_false] at gL he⊢
  by_cases e:q'=r
  ·simp only[e,if_true] at gL;omega
  ·simp only[e,if_false] at gL he⊢
   exact h.spd q' r e gL hlt he
 ·have:=(h.av _ _ ho).2
  by_cases e:o<(sp r).2.1∨(sp r).2.2≤o
  ·exact e
  ·exact absurd (.inr ⟨r,rfl,by omega,by omega⟩) this
theorem xP(r q:Nat){b o:Nat}(h:live ((s.aB r).aB q).loc (ak (ak (ak sp r (0,0,0)) q (0,0,0)) q (sp r)) b o):live s.loc sp b o:=by
 rcases h with h|⟨k,hk⟩
 ·exact .inl (by intro hn;exact h (by simp[St.aB,hn]))
 ·by_cases e:k=q
  ·simp only[ak,e,if_true] at hk;exact .inr ⟨r,hk⟩
  ·by_cases e2:k=r
   ·subst e2;simp only[ak,e,if_false,if_true] at hk;omega
   ·simp only[ak,e,e2,if_false] at hk;exact .inr ⟨k,hk⟩
theorem L9{x:Operand}{m:ai}(hop:o.op=.assign x)(hd:o.dst=some d)(hN:d<N)(hx:aC x=some m)(h:RS N s a w A sp)(hv:K (aap s d (m.ev s.env)))(hn:Next s w A sp N K next):o.wp P a w next Q:=by
 have h1:=(bf h hx).1
 have h2:=(bf h hx).2
 have hrun:(execOp a.eval o).run P w=.ok (.value (a.eval x)) w:=by simp[execOp,hop]
 cases hm:m.ev s.env with
 |slice sz xs r=>
  rw[hm] at h1 h2 hv
  simp only[aap] at hv
  split at hv
  ·exact fin h hd hN hrun h1.own (.nr (by intro _ _ _ hh;injection hh with _ _ hh;exact hh.symm)) hv hn
  ·rename_i hr
   refine fin' (h.rename r (d+1) (by omega)) (.same fun b o=>xP r (d+1)) hd hN hrun h1.own ?_ hv hn
   rcases qe hr h2 h1 with e|⟨b,off,cap,e,_,e2⟩
   ·rw[e];trivial
   ·rw[e];exact .inr (by simp[ak,e2])
 |_=>rw[hm] at h1 h2 hv;exact fin h hd hN hrun h1 h2 hv hn
theorem L_{sz:Nat}(hop:o.op=.assign (.const (.slice none 0 0)))(hd:o.dst=some d)(hN:d<N)(h:RS N s a w A sp)(hv:Z2 P (.bK d sz) s K)(hn:Next s w A sp N K next):o.wp P a w next Q:=fin' (h.aB (d+1)) (Ev.aB (d+1)) hd hN (by simp[execOp,hop,Act.eval]) (.cH _ _) trivial hv hn
theorem Ma(hop:o.op=.assign (.const (.slice none 0 0)))(hd:o.dst=some d)(hN:d<N)(h:RS N s a w A sp)(hv:Z2 P (.ag d (.c (.lit (.slice none 0 0)))) s K)(hn:Next s w A sp N K next):o.wp P a w next Q:=fin h hd hN (by simp[execOp,hop,Act.eval]) (.lit _ rfl) (.nr (by intro _ _ _ hh;cases hh)) hv hn
theorem RV.uH{x:AV}{v:Value}(h:RV w A x v)(hx:x.cells≠[]):v.cells.size=x.cells.length∧∀i,RV w A (x.cells.getD i .any) (v.cells.getD i undef):=by
 have one:∀{x:AV} {v:Value},RV w A x v→v.cells= #[v]→x.cells=[x]→v.cells.size=x.cells.length∧∀i,RV w A (x.cells.getD i .any) (v.cells.getD i undef):=by
  intro x v h e1 e2
  rw[e1,e2]
  refine⟨rfl,fun i=> ?_⟩
  cases i with
  |zero=>simpa using h
  |succ i=>simp;exact .any _
 cases h with
 |any=>exact absurd rfl hx
 |ghost=>exact absurd rfl hx
 |lit v hf=>exact one (.lit v hf) (by cases v<;>first|rfl|cases hf) rfl
 |cH sz own=>exact one (.cH sz own) rfl rfl
 |slice sz xs own b off cap vs hsz h1c hcap hlen hc hr=>exact one (.slice sz xs own b off cap vs hsz h1c hcap hlen hc hr) rfl rfl
 |ref cs b off vs hc hr=>exact one (.ref cs b off vs hc hr) rfl rfl
 |aj b off=>exact one (.aj b off) rfl rfl
 |aZ b=>exact one (.aZ b) rfl rfl
 |aq b off len cap sz hl=>exact one (.aq b off len cap sz hl) rfl rfl
 |agg xs vs hs hr=>exact⟨hs,hr⟩
 |tuple xs vs hs hr=>exact one (.tuple xs vs hs hr) rfl rfl
 |func fn fs cs vf vc eJ hsc hf hc=>exact one (.func fn fs cs vf vc eJ hsc hf hc) rfl rfl
 |fmap es b es' clock hb ha hs hk hv=>exact one (.fmap es b es' clock hb ha hs hk hv) rfl rfl
theorem xQ(e:TypeId)(v:Value):(newVar e v).run P w=.ok ⟨w.heap.size,0,none⟩ (w.alloc (.cells v.cells e)):=by simp[newVar,newRow]
theorem RV.new{cs:List AV}{vs:Array Value}(T:TypeId)(hs:vs.size=cs.length)(hA:∀b o,A b o→b<w.heap.size)(hr:∀i,RV w A (cs.getD i .any) (vs.getD i undef))(k:Nat)(hk:cs.length≤k):RV (w.alloc (.cells vs T)) (fun b o=>A b o∨(b=w.heap.size∧o<k)) (.ref cs) (.pointer (some ⟨w.heap.size,0,none⟩)):=by
 refine .ref _ _ _ (fun i=>vs.getD i undef) (fun i hi=>⟨?_,.inr ⟨rfl,by omega⟩⟩) (fun i=>(hr i).mono (fun b o v ha hv=>⟨by rw[abu _ _ _ _ (hA b o ha)];exact hv,.inl ha⟩) (.blocks (fun _ _ ha=>.inl ha) fun b _ hb=>heap_alloc _ _ _ hb))
 rw[Nat.zero_add,CL,Array.getD_eq_getD_getElem?,Array.getElem?_eq_getElem (by omega)]
 rfl
theorem Mb{e:TypeId}{x:Operand}{m:ai}{n:Nat}(hop:o.op=.box e x)(hd:o.dst=some d)(hN:d<N)(hx:aC x=some m)(hn0:0<n)(h:RS N s a w A sp)(hv:Z2 P (.aV d m n) s K)(hn:Next s w A sp N K next):o.wp P a w next Q:=by
 have h1:=(bf h hx).1
 simp only[Z2] at hv
 obtain⟨hl,hv⟩:=hv
 obtain⟨hs,hr⟩:=h1.uH (by intro e;rw[e] at hl;simp at hl;omega)
 refine fin' (h.alloc (a.eval x).cells e n (by omega)) (h.rL _ n) hd hN ?_ (RV.new (cs:=(m.ev s.env).cells.map AV.erase0) e (by simpa using hs) (fun b o ha=>(h.av b o ha).1) (fun i=> ?_) n (by simp;omega)) trivial hv hn
 ·simp only[execOp,hop,Instr.box,Sem.run_bind,xQ,Result.andThen_ok,Sem.run_pure]
 ·rw[gj];exact(hr i).erase0
theorem RS.rS(h:RS N s a w A sp){cs:List AV}{vs:Array Value}(T:TypeId)(hs:vs.size=cs.length)
  (hr:∀i,RV w A (cs.getD i .any) (vs.getD i undef)∧bV sp (cs.getD i .any) (vs.getD i undef)):
  RS N (s.new w.heap.size cs) a (w.alloc (.cells vs T)) A sp:=by
 have h1:=h.alloc vs T 0 (by omega)
 have hmono:∀{x v},RV w A x v→RV (w.alloc (.cells vs T)) A x v:=fun hx=>hx.mono (fun b o v ha hv=>⟨by rw[abu _ _ _ _ (h.av b o ha).1];exact hv,ha⟩) (.blocks (fun _ _ ha=>ha) fun b _ hb=>heap_alloc _ _ _ hb)
 refine⟨h.size,h.defers,fun d=>⟨hmono (h.env d).1,(h.env d).2⟩,fun b cs' hb=> ?_,fun r hr'=> ?_,h.spd,fun b o ha=>⟨by have:=(h.av b o ha).1;rw[gJ];omega,?_⟩⟩
 ·simp only[St.new,ak] at hb
  split at hb
  ·rename_i e;subst e;injection hb with hb;subst hb
   exact⟨vs,T,p7 _ _,hs,fun i=>⟨hmono (hr i).1,(hr i).2⟩⟩
  ·obtain⟨vs',T',g1,g2,g3⟩:=h.loc b cs' hb
   exact⟨vs',T',by rw[heap_alloc _ _ _ (cc g1)];exact g1,g2,fun i=>⟨hmono (g3 i).1,(g3 i).2⟩⟩
 ·obtain⟨⟨vs',T',g1,g2⟩,g3⟩:=h.bW r hr'
  refine⟨⟨vs',T',by rw[heap_alloc _ _ _ (cc g1)];exact g1,g2⟩,?_⟩
  simp only[St.new,ak]
  rw[if_neg (Nat.ne_of_lt (cc g1))]
  exact g3
 ·rintro(hl|hl)
  ·simp only[St.new,ak] at hl
   split at hl
   ·rename_i e;have:=(h.av b o ha).1;omega
   ·exact(h.av b o ha).2 (.inl hl)
  ·exact(h.av b o ha).2 (.inr hl)
theorem RS.rT(ob:Obj)(cs:List AV):Ev w A (live s.loc sp) (w.alloc ob) A (live (s.new w.heap.size cs).loc sp):=by
 refine⟨rfl,rfl,rfl,by rw[gJ];omega,fun b o hb hl=>⟨abu _ _ _ _ hb,?_⟩,fun b hb _=>heap_alloc _ _ _ hb,fun _ _ ha=>ha,fun _ _ ha=>.inl ha⟩
 rintro(hl'|hl')
 ·simp only[St.new,ak] at hl'
  rw[if_neg (Nat.ne_of_lt hb)] at hl'
  exact hl (.inl hl')
 ·exact hl (.inr hl')
theorem Mc{e:TypeId}{x:Operand}{m:ai}{n:Nat}(hop:o.op=.box e x)(hd:o.dst=some d)(hN:d<N)(hx:aC x=some m)(hn0:0<n)(h:RS N s a w A sp)(hv:Z2 P (.j8 d m n) s K)(hn:Next s w A sp N K next):o.wp P a w next Q:=by
 have h1:=(bf h hx).1
 simp only[Z2] at hv
 obtain⟨hl,hv⟩:=hv
 obtain⟨hs,hr⟩:=h1.uH (by intro e;rw[e] at hl;simp at hl;omega)
 refine fin' (h.rS (cs:=(m.ev s.env).cells.map AV.erase0) e (by simpa using hs) (fun i=> ?_)) (RS.rT _ _) hd hN ?_ (.aj w.heap.size 0) trivial (hv _ h.fresh) hn
 ·rw[gj];exact⟨(hr i).erase0,.erase0⟩
 ·simp only[execOp,hop,Instr.box,Sem.run_bind,xQ,Result.andThen_ok,Sem.run_pure]
theorem ab7{t:TypeId}{z:List AV}(h:jc P t z=true):∃i v,P.info? t=some i∧i.zero=some v∧v.cells.size=z.length∧z.length=i.size∧(∀k,RV w A (z.getD k .any) (v.cells.getD k undef))∧∀x∈z,x.bE=true∧x.erase=x:=by
 unfold jc at h
 split at h
 ·rename_i i hi
  split at h
  ·rename_i v hz
   simp only[Bool.and_eq_true,beq_iff_eq] at h
   obtain⟨h1,h2,h3⟩:=CP (w:=w) (A:=A) h.1
   refine⟨i,v,hi,hz,by simpa using h1,h.2,fun k=> ?_,h3⟩
   have:=h2 k
   simpa[List.getD_eq_getElem?_getD,Array.getD_eq_getD_getElem?] using this
  ·cases h
 ·cases h
theorem C3{z:List AV}(h:∀x∈z,x.bE=true∧x.erase=x)(k:Nat){v:Value}:bV sp (z.getD k .any) v:=by
 by_cases hk:k<z.length
 ·have:=(h z[k] (by simp)).2
  rw[List.getD_eq_getElem?_getD,List.getElem?_eq_getElem hk,Option.getD_some,←this]
  exact .erase
 ·rw[List.getD_eq_getElem?_getD,List.getElem?_eq_none (by omega)];trivial
theorem Md{t:TypeId}{z:List AV}(h:uF P t z=true):∃i v,P.info? t=some i∧i.zero=some v∧v.cells.size=z.length∧∀k,RV w A (z.getD k .any) (v.cells.getD k undef)∧bV sp (z.getD k .any) (v.cells.getD k undef):=by
 unfold uF at h
 split at h
 ·rename_i i hi
  split at h
  ·rename_i v hz
   simp only[Bool.and_eq_true,beq_iff_eq] at h
   obtain⟨h1,h2⟩:=CQ (w:=w) (A:=A) (sp:=sp) h.1
   refine⟨i,v,hi,hz,by simpa using h1,fun k=> ?_⟩
   have:=h2 k
   simpa[List.getD_eq_getElem?_getD,Array.getD_eq_getD_getElem?] using this
  ·cases h
 ·cases h
theorem Me{e:TypeId}{z:List AV}(hop:o.op=.alloc e)(hd:o.dst=some d)(hN:d<N)(hz:uF P e z=true)(h:RS N s a w A sp)(hv:Z2 P (.alloc d z) s K)(hn:Next s w A sp N K next):o.wp P a w next Q:=by
 obtain⟨i,v,hi,hz,hs,hr⟩:=Md (w:=w) (A:=A) (sp:=sp) hz
 simp only[Z2] at hv
 refine fin' (h.rS (cs:=z) e hs hr) (RS.rT _ _) hd hN ?_ (.aj w.heap.size 0) trivial (hv _ h.fresh) hn
 simp only[execOp,hop,Instr.alloc,zeroValue,typeInfo,Sem.run_bind,run_program,Result.andThen_ok,hi,Sem.run_pure,hz,xQ]
theorem RV.uI{x:AV}{v:Value}(h:RV w A x v)(hx:x.bE=true):v.oneCell'=true:=by
 cases h<;>first|rfl|(cases hx;done)|skip
 rename_i hf;cases v<;>first|rfl|cases hf
theorem jL:∀(ys cs:List AV) (off:Nat),(splice cs off ys).length=cs.length
 |[],_,_=>rfl
 |y::ys,cs,off=>by rw[splice,jL ys];simp
theorem ld:∀(ys cs:List AV) (off i:Nat),off+ys.length≤cs.length→(splice cs off ys).getD i .any=if off≤i∧i<off+ys.length then ys.getD (i - off) .any else cs.getD i .any
 |[],cs,off,i,_=>by simp[splice];intro h1 h2;omega
 |y::ys,cs,off,i,h=>by
  simp only[List.length_cons] at h
  rw[splice,ld ys _ _ _ (by simp;omega)]
  by_cases h1:off+1≤i∧i<off+1+ys.length
  ·rw[if_pos h1,if_pos (by simp;omega)]
   have:i - off=(i - (off+1))+1:=by omega
   rw[this];simp
  ·rw[if_neg h1]
   by_cases h2:i=off
   ·subst h2
    rw[if_pos (by simp)]
    simp only[List.getD_eq_getElem?_getD,Nat.sub_self,List.getElem?_cons_zero]
    rw[List.getElem?_set_self (by omega)]
   ·rw[if_neg (by simp;omega)]
    simp only[List.getD_eq_getElem?_getD]
    rw[List.getElem?_set_ne (by omega)]
theorem oD(vs:Array Value)(us:List Value)(off i:Nat)(h:off+us.length≤vs.size):(vs.toList.take off++us++vs.toList.drop (off+us.length)).toArray.getD i undef=if off≤i∧i<off+us.length then us.getD (i - off) undef else vs.getD i undef:=by
 simp only[Array.getD_eq_getD_getElem?,List.getElem?_toArray,List.getD_eq_getElem?_getD]
 by_cases h1:i<off
 ·rw[if_neg (by omega),List.append_assoc,List.getElem?_append_left (by simp;omega),List.getElem?_take,if_pos h1]
  simp
 ·by_cases h2:i<off+us.length
  ·rw[if_pos (by omega),List.append_assoc,List.getElem?_append_right (by simp;omega),List.getElem?_append_left (by simp;omega)]
   have:min off vs.toList.length=off:=by simp;omega
   simp only[List.length_take,this]
  ·rw[if_neg (by omega),List.getElem?_append_right (by simp;omega),List.getElem?_drop]
   have:min off vs.toList.length=off:=by simp;omega
   simp only[List.length_append,List.length_take,this]
   rw[show off+us.length+(i - (off+us.length))=i by omega]
   simp
theorem RS.setRow(h:RS N s a w A sp){b:Nat}{cs0 cs:List AV}{Mf vs:Array Value}{T:TypeId}(hb:s.loc b=some cs0)(hh:w.heap[b]? =some (.cells Mf T (0,0)))
  (hs:vs.size=cs.length)(hr:∀i,RV w A (cs.getD i .any) (vs.getD i undef)∧bV sp (cs.getD i .any) (vs.getD i undef)):
  RS N (s.new b cs) a (w.setRow b vs) A sp:=by
 have hne:∀{c o},A c o→c≠b:=fun {c o} ha e=>(h.av c o ha).2 (.inl (by rw[e,hb];simp))
 have hmono:∀{x v},RV w A x v→RV (w.setRow b vs) A x v:=fun hx=>hx.mono (fun c o v ha hv=>⟨by rw[cell_setRow_other _ _ _ _ _ (hne ha)];exact hv,ha⟩) (.blocks (fun _ _ ha=>ha) fun c ha _=>rK _ _ _ _ (hne (ha 0)))
 refine⟨h.size,h.defers,fun d=>⟨hmono (h.env d).1,(h.env d).2⟩,fun c cs' hc=> ?_,fun r hr'=> ?_,h.spd,fun c o ha=>⟨by rw[size_setRow];exact(h.av c o ha).1,?_⟩⟩
 ·simp only[St.new,ak] at hc
  split at hc
  ·rename_i e;subst e;injection hc with hc;subst hc
   exact⟨vs,T,setRow_heap _ _ _ _ _ _ hh,hs,fun i=>⟨hmono (hr i).1,(hr i).2⟩⟩
  ·rename_i hcb
   obtain⟨vs',T',g1,g2,g3⟩:=h.loc c cs' hc
   exact⟨vs',T',by rw[rK _ _ _ _ hcb];exact g1,g2,fun i=>⟨hmono (g3 i).1,(g3 i).2⟩⟩
 ·obtain⟨⟨vs',T',g1,g2⟩,g3⟩:=h.bW r hr'
  have hcb:(sp r).1≠b:=fun e=>by rw[e,hb] at g3;cases g3
  refine⟨⟨vs',T',by rw[rK _ _ _ _ hcb];exact g1,g2⟩,?_⟩
  simp only[St.new,ak]
  rw[if_neg hcb];exact g3
 ·rintro(hl|hl)
  ·simp only[St.new,ak] at hl
   rw[if_neg (hne ha)] at hl
   exact(h.av c o ha).2 (.inl hl)
  ·exact(h.av c o ha).2 (.inr hl)
theorem RS.oE{b:Nat}{cs0:List AV}(cs:List AV)(vs:Array Value)(hb:s.loc b=some cs0):Ev w A (live s.loc sp) (w.setRow b vs) A (live (s.new b cs).loc sp):=by
 have hne:∀{c o},¬live s.loc sp c o→c≠b:=fun {c o} hl e=>hl (.inl (by rw[e,hb];simp))
 refine⟨rfl,rfl,rfl,by rw[size_setRow];exact Nat.le_refl _,fun c o hc hl=>⟨cell_setRow_other _ _ _ _ _ (hne hl),?_⟩,fun c hc hl=>rK _ _ _ _ (hne (hl 0)),fun _ _ ha=>ha,fun _ _ ha=>.inl ha⟩
 rintro(hl'|hl')
 ·simp only[St.new,ak] at hl'
  rw[if_neg (hne hl)] at hl'
  exact hl (.inl hl')
 ·exact hl (.inr hl')
theorem C4{t:TypeId}{n b off:Nat}{vs:Array Value}{T:TypeId}{v:Value}(hz:cg P t=some n)(hh:w.heap[b]? =some (.cells vs T (0,0)))
  (hv:v.cells.size=n)(hoff:off+n≤vs.size)(h1:∀u∈v.cells.toList,u.oneCell'=true):
  (Instr.storeAt t (.pointer (some ⟨b,off,none⟩)) v).run P w=.ok () (w.setRow b (vs.toList.take off++v.cells.toList++vs.toList.drop (off+n)).toArray):=by
 simp only[cg,Option.map_eq_some_iff] at hz
 obtain⟨i,hi,rfl⟩:=hz
 have hst:=run_storeCells_at P b off T v.cells.toList 0 vs w hh (by simpa[hv] using hoff) h1
 simp only[Nat.add_zero,Array.length_toList,hv] at hst
 simp only[Instr.storeAt,Instr.sureAddr,Sem.run_bind,Sem.run_pure,Result.andThen_ok,storeVar,sizeOf,typeInfo,run_program,hi,hv,ne_eq,not_true,if_false,hst]
theorem xR{s1:St}{w1:World}{A1:aK}{dQ:Sp}(h:RS N s1 a w1 A1 dQ)(aJ:Ev w A (live s.loc sp) w1 A1 (live s1.loc dQ))(hd:o.dst=none)(hrun:(execOp a.eval o).run P w=.ok .skip w1)(hk:K s1)(hn:Next s w A sp N K next):o.wp P a w next Q:=by
 unfold Oper.wp
 rw[hrun,Oper.upon_skip,hd]
 exact hn _ _ _ _ _ hk h aJ
end
end Go.Z4
namespace Go.Z4
open Go.RowKit
section
variable {P:Program} {N:Nat} {s:St} {a:Act} {w:World} {A:aK} {sp:Sp} {K:St→Prop} {next:Act→World→Prop} {Q:Exit→Act→World→Prop} {o:Oper} {d:Nat}
theorem Mg{x:AV}{v:Value}(hr:∀i,RV w A (x.cells.getD i .any) (v.cells.getD i undef))(hs:v.cells.size=x.cells.length)(hc:x.cells.all AV.bE=true):∀u∈v.cells.toList,u.oneCell'=true:=by
 intro u hu
 obtain⟨i,hi,rfl⟩:=List.getElem_of_mem hu
 have hi':i<x.cells.length:=by simpa[hs] using hi
 have h1:=hr i
 rw[List.getD_eq_getElem?_getD,List.getElem?_eq_getElem hi',Array.getD_eq_getD_getElem?,Array.getElem?_eq_getElem (by simpa using hi)] at h1
 exact h1.uI ((List.all_eq_true.1 hc) _ (by simp))
theorem C5{t:TypeId}{x y:Operand}{mx my:ai}{n aP:Nat}(hop:o.op=.store t x y)(hd:o.dst=none)(hx:aC x=some mx)(hy:aC y=some my)(hz:cg P t=some n)(hn0:0<n)(h:RS N s a w A sp)(hv:Z2 P (.store mx my n aP) s K)(hn:Next s w A sp N K next):o.wp P a w next Q:=by
 have h1:=(bf h hx).1
 have h2:=bf h hy
 simp only[Z2,gI] at hv
 generalize Zf:my.ev s.env=y' at h2 hv
 split at hv
 ·rename_i b off e1
  rw[e1] at h1
  generalize aR:a.eval x=v0 at h1
  cases h1
  split at hv
  ·rename_i cs hb
   obtain⟨hoff,hl,hc1,hv⟩:=hv
   obtain⟨vs,T,hh,hsz,hr⟩:=h.loc b cs hb
   obtain⟨dF,cE⟩:=h2.1.uH (by intro e;rw[e] at hl;simp at hl;omega)
   have hrun:=C4 (P:=P) (w:=w) hz hh (v:=a.eval y) (off:=off) (by omega) (by omega) (Mg cE dF hc1)
   have hrow:∀(sp':Sp) (cs' ys:List AV),cs'.length=cs.length→(∀i,RV w A (cs'.getD i .any) (vs.getD i undef)∧bV sp' (cs'.getD i .any) (vs.getD i undef))→
     ys.length=n→(∀i,RV w A (ys.getD i .any) ((a.eval y).cells.getD i undef)∧bV sp' (ys.getD i .any) ((a.eval y).cells.getD i undef))→
     ∀i,RV w A ((splice cs' off ys).getD i .any) ((vs.toList.take off++(a.eval y).cells.toList++vs.toList.drop (off+n)).toArray.getD i undef)∧bV sp' ((splice cs' off ys).getD i .any) ((vs.toList.take off++(a.eval y).cells.toList++vs.toList.drop (off+n)).toArray.getD i undef):=by
    intro sp' cs' ys abw hr' hys hry i
    have e:=oD vs (a.eval y).cells.toList off i (by simp;omega)
    simp only[Array.length_toList,dF,hl] at e
    rw[e,ld _ _ _ _ (by omega),hys]
    split
    ·have:=hry (i - off)
     simpa[List.getD_eq_getElem?_getD,Array.getD_eq_getD_getElem?] using this
    ·exact hr' i
   have qg:(execOp a.eval o).run P w=.ok .skip (w.setRow b (vs.toList.take off++(a.eval y).cells.toList++vs.toList.drop (off+n)).toArray):=by simp only[execOp,hop,aR,Sem.run_bind,hrun,Result.andThen_ok,Sem.run_pure]
   have hsize:∀cs':List AV,cs'.length=cs.length→((vs.toList.take off++(a.eval y).cells.toList++vs.toList.drop (off+n)).toArray).size=cs'.length:=by
    intro cs' abw
    simp only[List.size_toArray,List.length_append,List.length_take,List.length_drop,Array.length_toList]
    omega
   have plain:K (s.new b (splice cs off (y'.cells.map AV.erase0)))→o.wp P a w next Q:=by
    intro hk
    refine xR (h.setRow hb hh (hsize _ (jL _ _ _)) (hrow sp cs _ rfl hr (by simpa using hl) (fun i=> ?_))) (RS.oE _ _ hb) hd qg hk hn
    rw[gj]
    exact⟨(cE i).erase0,.erase0⟩
   split at hv
   ·rename_i sz xs r
    split at hv
    ·exact plain hv
    ·rename_i hro
     have hr0:r≠0:=fun e=>hro (.inl e)
     have Mh:aP≠0:=fun e=>hro (.inr e)
     have h':=h.rename r aP Mh
     have hb':((s.aB r).aB aP).loc b=some (cs.map fun x=>az aP (az r x)):=by simp[St.aB,hb]
     obtain⟨vs',T',uJ,C2,hr'⟩:=h'.loc b _ hb'
     rw[hh] at uJ;injection uJ with uJ;injection uJ with e1 e2 e3;subst e1
     have jd:n=1:=hl.symm
     refine xR (h'.setRow (cs:=(cs.map fun x=>az aP (az r x)).set off (.slice sz xs aP)) hb' hh (hsize _ (by simp)) (hrow _ (cs.map fun x=>az aP (az r x)) [.slice sz xs aP] (by simp) hr' (by simp[jd]) (fun i=> ?_))) ?_ hd qg hv hn
     ·have e5:(a.eval y).cells.getD i undef=if i=0 then a.eval y else undef:=by
       have h3:=h2.1
       generalize a.eval y=vy at h3⊢
       cases h3<;>cases i<;>rfl
      rw[e5]
      cases i with
      |zero=>
       refine⟨h2.1.own,?_⟩
       rcases qe hr0 h2.2 h2.1 with e|⟨b',off',cap,e,_,e4⟩
       ·rw[if_pos rfl,e];trivial
       ·rw[if_pos rfl,e];exact .inr (by simp[ak,e4])
      |succ i=>exact⟨.any _,trivial⟩
     ·exact(Ev.same fun b o=>xP r aP).trans (RS.oE _ _ hb')
   ·exact plain hv
  ·exact hv.elim
 ·exact hv.elim
theorem Mi{t:TypeId}{x:Operand}{mx:ai}{sz aP:Nat}(hop:o.op=.store t x (.const (.slice none 0 0)))(hd:o.dst=none)(hx:aC x=some mx)(hz:cg P t=some 1)(_:aP≠0)(h:RS N s a w A sp)(hv:Z2 P (.jG mx sz aP) s K)(hn:Next s w A sp N K next):o.wp P a w next Q:=by
 have h1:=(bf h hx).1
 simp only[Z2] at hv
 split at hv
 ·rename_i b off e1
  rw[e1] at h1
  generalize aR:a.eval x=v0 at h1
  cases h1
  split at hv
  ·rename_i cs hb
   obtain⟨hoff,hv⟩:=hv
   have h':=h.aB aP
   have hb':(s.aB aP).loc b=some (cs.map (az aP)):=by simp[St.aB,hb]
   obtain⟨vs,T,hh,hsz,hr⟩:=h'.loc b _ hb'
   rw[List.length_map] at hsz
   have hrun:=C4 (P:=P) (w:=w) hz hh (v:=.slice none 0 0) (off:=off) rfl (by omega) (by intro u hu;simp[Value.cells] at hu;rw[hu];rfl)
   refine xR (h'.setRow hb' hh (vs:=(vs.toList.take off++(Value.slice none 0 0).cells.toList++vs.toList.drop (off+1)).toArray) ?_ (fun i=> ?_)) ((Ev.aB aP).trans (RS.oE _ _ hb')) hd
    (by have xL:a.eval (.const (.slice none 0 0))=.slice none 0 0:=rfl
        simp only[execOp,hop,aR,xL,Sem.run_bind,hrun,Result.andThen_ok,Sem.run_pure]) hv hn
   ·simp[Value.cells];omega
   ·have e:=oD vs [.slice none 0 0] off i (by simp;omega)
    simp only[List.length_singleton] at e
    show RV w A (((cs.map (az aP)).set off (.slice sz [] aP)).getD i .any) ((vs.toList.take off++[Value.slice none 0 0]++vs.toList.drop (off+1)).toArray.getD i undef)∧_
    have e2:=ld [.slice sz [] aP] (cs.map (az aP)) off i (by simp;omega)
    simp only[splice,List.length_singleton] at e2
    simp only[Value.cells]
    rw[e2]
    show _∧bV _ _ ((vs.toList.take off++[Value.slice none 0 0]++vs.toList.drop (off+1)).toArray.getD i undef)
    rw[e]
    split
    ·have:i - off=0:=by omega
     rw[this]
     exact⟨.cH _ _,trivial⟩
    ·exact hr i
  ·exact hv.elim
 ·exact hv.elim
theorem RS.freeze(h:RS N s a w A sp){b k:Nat}{cs:List AV}(hk:s.env k=.aj b 0)(hb:s.loc b=some cs):RS N ⟨ak s.env k (.ref (cs.map AV.erase0)),ak s.loc b none⟩ a w (fun c o=>A c o∨(c=b∧o<cs.length)) sp∧Ev w A (live s.loc sp) w (fun c o=>A c o∨(c=b∧o<cs.length)) (live (ak s.loc b none) sp):=by
 obtain⟨vs,T,hh,hsz,hr⟩:=h.loc b cs hb
 have eA:∀{c o},live (ak s.loc b none) sp c o→live s.loc sp c o:=by
  rintro c o (hl|hl)
  ·refine .inl fun hn=>hl ?_
   simp only[ak]
   split
   ·rfl
   ·exact hn
  ·exact .inr hl
 have hm:∀{x v},RV w A x v→RV w (fun c o=>A c o∨(c=b∧o<cs.length)) x v:=fun hx=>hx.mono (fun _ _ _ ha hv=>⟨hv,.inl ha⟩) (.same fun _ _ ha=>.inl ha)
 have hspare:∀o,¬spare sp b o:=by
  rintro o ⟨r,h1,h2,h3⟩
  have:=(h.bW r (by omega)).2
  rw[h1,hb] at this;cases this
 refine⟨⟨h.size,h.defers,fun d=> ?_,fun c cs' hc=> ?_,fun r hr'=> ?_,h.spd,fun c o ha=> ?_⟩,rfl,rfl,rfl,Nat.le_refl _,fun c o _ hl=>⟨rfl,fun hl'=>hl (eA hl')⟩,fun _ _ _=>rfl,fun _ _ ha=>.inl ha,fun c o ha=> ?_⟩
 ·by_cases e:d=k
  ·subst e
   simp only[cI]
   have:=(h.env d).1
   rw[hk] at this
   generalize a.tmps.getD d undef=v at this
   cases this
   refine⟨.ref _ _ _ (fun i=>vs.getD i undef) (fun i hi=>⟨?_,.inr ⟨rfl,by simpa using hi⟩⟩) (fun i=>by rw[gj];exact hm (hr i).1.erase0),trivial⟩
   simp at hi
   simp[World.cell?,hh,Array.getD_eq_getD_getElem?,Array.getElem?_eq_getElem (show i<vs.size by omega)]
  ·simp only[Z5 _ _ e];exact⟨hm (h.env d).1,(h.env d).2⟩
 ·simp only[ak] at hc
  split at hc
  ·cases hc
  ·obtain⟨vs',T',g1,g2,g3⟩:=h.loc c cs' hc
   exact⟨vs',T',g1,g2,fun i=>⟨hm (g3 i).1,(g3 i).2⟩⟩
 ·obtain⟨g1,g2⟩:=h.bW r hr'
  refine⟨g1,?_⟩
  simp only[ak]
  split
  ·rfl
  ·exact g2
 ·rcases ha with ha|⟨rfl,ho⟩
  ·exact⟨(h.av c o ha).1,fun hl=>(h.av c o ha).2 (eA hl)⟩
  ·refine⟨cc hh,?_⟩
   rintro(hl|hl)
   ·exact hl (by simp[ak])
   ·exact hspare o hl
 ·rcases ha with ha|⟨rfl,ho⟩
  ·exact .inl ha
  ·exact .inr (.inl (.inl (by rw[hb];simp)))
theorem C6(l:List AV):(l.map AV.erase0).map AV.erase0=l.map AV.erase0:=by
 rw[List.map_map]
 congr 1
 funext x
 cases x<;>rfl
theorem uK:∀(ys cs:List AV),ys.length=cs.length→splice cs 0 ys=ys:=by
 intro ys cs h
 apply List.ext_getElem?
 intro i
 by_cases hi:i<ys.length
 ·have e:(splice cs 0 ys).getD i .any=ys.getD i .any:=by rw[ld _ _ _ _ (by omega),if_pos (by omega),Nat.sub_zero]
  rw[List.getD_eq_getElem?_getD,List.getD_eq_getElem?_getD,List.getElem?_eq_getElem (by rw[jL];omega),List.getElem?_eq_getElem hi] at e
  rw[List.getElem?_eq_getElem (by rw[jL];omega),List.getElem?_eq_getElem hi]
  simpa using e
 ·rw[List.getElem?_eq_none (by rw[jL];omega),List.getElem?_eq_none (by omega)]
theorem Mj{t:TypeId}{k:Nat}{y:Operand}{my:ai}{n:Nat}(hop:o.op=.store t (.tmp k) y)(hd:o.dst=none)(hy:aC y=some my)(hz:cg P t=some n)(hn0:0<n)(h:RS N s a w A sp)(hv:Z2 P (.bH k my n) s K)(hn:Next s w A sp N K next):o.wp P a w next Q:=by
 simp only[Z2] at hv
 split at hv
 ·rename_i b hk
  split at hv
  ·rename_i cs hb
   obtain⟨hcs,hl,hc1,hv⟩:=hv
   obtain⟨y',hy'⟩:∃y',y'=my.ev s.env:=⟨_,rfl⟩
   rw[←hy'] at hl hc1 hv
   let K':St→Prop:=fun s'=>s'=s.new b (y'.cells.map AV.erase0)
   have hvs:Z2 P (.store (.t k) my n 0) s K':=by
    show gI s (s.env k) (my.ev s.env) n 0 K'
    rw[←hy']
    simp only[gI,hk,hb]
    refine⟨by omega,hl,hc1,?_⟩
    have hsp:=uK (y'.cells.map AV.erase0) cs (by simp;omega)
    show _
    cases y'<;>simp only[or_true,if_true]<;>first
     |(show _=_;rw[hsp])
     |(show St.new s b (splice cs 0 [AV.slice _ _ 0])=St.new s b [AV.slice _ _ 0];exact congrArg (St.new s b) hsp)
   refine C5 hop hd rfl hy hz hn0 h hvs fun s' a' w' A' sp' hk' hr aJ=> ?_
   subst hk'
   obtain⟨f1,f2⟩:=hr.freeze (b:=b) (k:=k) (cs:=y'.cells.map AV.erase0) hk (by simp[St.new,ak])
   have e1:ak (s.new b (y'.cells.map AV.erase0)).loc b none=ak s.loc b none:=by funext c;simp only[St.new,ak];split<;>rfl
   rw[C6,e1] at f1
   rw[e1] at f2
   exact hn _ _ _ _ _ hv f1 (aJ.trans f2)
  ·exact hv.elim
 ·exact hv.elim
end
end Go.Z4
namespace Go.Z4
open Go.RowKit
section
variable {P:Program} {N:Nat} {s:St} {a:Act} {w:World} {A:aK} {sp:Sp} {K:St→Prop} {next:Act→World→Prop} {Q:Exit→Act→World→Prop} {o:Oper} {d:Nat}
theorem adE(t e ty:TypeId)(i:TypeInfo)(ht:P.underlying t=some (.slice e))(hi:P.info? e=some i)(base yb:Option Addr)(n cap c:Nat)(h:n≤cap):(Builtin.append_ #[t,t] ty #[.slice base n cap,.slice yb 0 c]).run P w=.ok (.slice base n cap) w:=by cases base<;>cases yb<;>simp[Builtin.append_,run_underlying ht,sizeOf,typeInfo,hi,Builtin.lenOf,h,Builtin.firstCells,loadCells,loadCellsFrom,storeCells]
theorem xS(t ty e:TypeId)(i:TypeInfo)(ht:P.underlying t=some (.slice e))(hi:P.info? e=some i)
  (g off sLen sCap:Nat)(cur:Array Value)(T:TypeId)(hg:w.heap[g]? =some (.cells cur T (0,0)))
  (a:Addr)(m c:Nat)(news:List Value)(hl:news.length=m*i.size)(hnews:∀j u,news[j]? =some u→w.cell? (a.add j)=some u)(h1:∀u∈news,u.oneCell'=true)
  (hroom:sLen+m≤sCap)(hfit:off+sLen*i.size+news.length≤cur.size):
  (Builtin.append_ #[t,t] ty #[.slice (some ⟨g,off,none⟩) sLen sCap,.slice (some a) m c]).run P w=.ok (.slice (some ⟨g,off,none⟩) (sLen+m) sCap) (w.setRow g (cur.toList.take (off+sLen*i.size)++news++cur.toList.drop (off+sLen*i.size+news.length)).toArray):=by
 have hf:=run_firstCells_some (P:=P) w i.size m a m c news hl hnews
 have hst:=run_storeCells_at P g (off+sLen*i.size) T news 0 cur w hg (by simpa using hfit) h1
 simp only[Nat.add_zero] at hst
 simp[Builtin.append_,run_underlying ht,sizeOf,typeInfo,hi,Builtin.lenOf,hroom,hf,Addr.fK,hst]
theorem gp(sz:Nat):∀(xs:List AV),(∀x∈xs,x.cells.length=sz)→(xs.flatMap AV.cells).length=xs.length*sz
 |[],_=>by simp
 |x::xs,h=>by
  rw[List.flatMap_cons,List.length_append,h x (by simp),gp sz xs (fun y hy=>h y (by simp[hy])),List.length_cons,Nat.add_mul];omega
theorem Ml(f:Nat→Value)(n j:Nat)(v:Value)(h:((List.range n).map f)[j]? =some v):j<n∧f j=v:=by
 simp only[List.getElem?_map,Option.map_eq_some_iff] at h
 obtain⟨k,hk,rfl⟩:=h
 rw[List.getElem?_eq_some_iff] at hk
 obtain⟨h1,h2⟩:=hk
 simp at h1 h2
 exact⟨h1,by rw[h2]⟩
theorem C7(xs ys:List AV)(i:Nat):((xs++ys).flatMap AV.cells).getD i .any=if i<(xs.flatMap AV.cells).length then (xs.flatMap AV.cells).getD i .any else (ys.flatMap AV.cells).getD (i - (xs.flatMap AV.cells).length) .any:=by
 rw[List.flatMap_append]
 simp only[List.getD_eq_getElem?_getD]
 split
 ·rw[List.getElem?_append_left ‹_›]
 ·rw[List.getElem?_append_right (by omega)]
theorem xT(h:RS N s a w A sp){sz:Nat}{xs ys:List AV}(T:TypeId)(olds news rest:List Value)(q cap:Nat)(_:q≠0)
  (k7:∀d sz xs,s.env d≠.slice sz xs q)(jJ:∀b cs,s.loc b=some cs→∀i sz xs,cs.getD i .any≠.slice sz xs q)
  (oF:∀x∈xs,x.cells.length=sz)(qh:∀x∈ys,x.cells.length=sz)(rU:∀x∈xs,x.cells.all AV.bE=true)(hcy:∀x∈ys,x.cells.all AV.bE=true)(Mm:olds.length=xs.length*sz)(Mn:news.length=ys.length*sz)
  (uL:∀i,RV w A ((xs.flatMap AV.cells).getD i .any) (olds.getD i undef))(hry:∀i,RV w A ((ys.flatMap AV.cells).getD i .any) (news.getD i undef))
  (hcap:xs.length+ys.length≤cap)(ep:rest.length=(cap - (xs.length+ys.length))*sz)(hlen:xs.length+ys.length≤140737488355328):
  ∃A' sp',RS N s a (w.alloc (.cells (olds++news++rest).toArray T)) A' sp'∧Ev w A (live s.loc sp) (w.alloc (.cells (olds++news++rest).toArray T)) A' (live s.loc sp')∧
   RV (w.alloc (.cells (olds++news++rest).toArray T)) A' (.slice sz (xs++ys) q) (.slice (some ⟨w.heap.size,0,none⟩) (xs.length+ys.length) cap)∧
   bV sp' (.slice sz (xs++ys) q) (.slice (some ⟨w.heap.size,0,none⟩) (xs.length+ys.length) cap):=by
 have hmul:(xs.length+ys.length)*sz≤cap*sz:=Nat.mul_le_mul_right _ hcap
 have hk:(xs.length+ys.length)*sz=xs.length*sz+ys.length*sz:=Nat.add_mul _ _ _
 have hrl:rest.length=cap*sz - (xs.length+ys.length)*sz:=by rw[ep,Nat.sub_mul]
 have hsize:((olds++news++rest).toArray).size=cap*sz:=by simp;omega
 have h1:=h.alloc (olds++news++rest).toArray T ((xs.length+ys.length)*sz) (by omega)
 have h2:=h1.uy q k7 jJ w.heap.size ((xs.length+ys.length)*sz) (cap*sz)
  (fun _=>⟨⟨_,T,p7 _ _,by omega⟩,h.fresh⟩)
  (fun q' _ _ hlt he=>absurd (he▸h.CM ⟨q',rfl,Nat.le_refl _,hlt⟩) (Nat.lt_irrefl _))
  (fun o ho=>by
    rcases ho with ho|ho
    ·exact absurd (h.av _ _ ho).1 (Nat.lt_irrefl _)
    ·omega)
 refine⟨_,_,h2,?_,?_,.inr (by simp[ak])⟩
 ·refine⟨rfl,rfl,rfl,by rw[gJ];omega,fun b o hb hl=>⟨abu _ _ _ _ hb,?_⟩,fun b hb _=>heap_alloc _ _ _ hb,fun _ _ ha=>.inl ha,fun b o ha=>ha.elim .inl fun e=>.inr (.inr (by omega))⟩
  rintro(hl'|⟨r,hr⟩)
  ·exact hl (.inl hl')
  ·simp only[ak] at hr
   split at hr
   ·have:=hr.1;simp only at this;omega
   ·exact hl (.inr ⟨r,hr⟩)
 ·have Mo:=gp sz xs oF
  have fS:=gp sz ys qh
  have Mp:∀i,RV w A (((xs++ys).flatMap AV.cells).getD i .any) (if i<olds.length then olds.getD i undef else news.getD (i - olds.length) undef):=by
   intro i
   rw[C7,Mo,Mm]
   split
   ·exact uL i
   ·exact hry _
  have:=RV.slice (w:=w.alloc (.cells (olds++news++rest).toArray T)) (A:=fun b o=>A b o∨(b=w.heap.size∧o<(xs.length+ys.length)*sz)) sz (xs++ys) q w.heap.size 0 cap
   (fun i=>if i<olds.length then olds.getD i undef else news.getD (i - olds.length) undef)
   (fun x hx=>(List.mem_append.1 hx).elim (oF x) (qh x)) (fun x hx=>(List.mem_append.1 hx).elim (rU x) (hcy x)) (by simpa using hcap) (by simpa using hlen)
   (fun i hi=>⟨?_,.inr ⟨rfl,by simpa using hi⟩⟩) (fun i=>(Mp i).mono (fun b o v ha hv=>⟨by rw[abu _ _ _ _ (h.av b o ha).1];exact hv,.inl ha⟩) (.blocks (fun _ _ ha=>.inl ha) fun b _ hb=>heap_alloc _ _ _ hb))
  ·rw[List.length_append] at this;exact this
  ·rw[List.length_append] at hi
   rw[Nat.zero_add,CL]
   simp only[List.getElem?_toArray,List.append_assoc,List.getD_eq_getElem?_getD]
   split
   ·rw[List.getElem?_append_left ‹_›,List.getElem?_eq_getElem ‹_›];rfl
   ·rw[List.getElem?_append_right (by omega),List.getElem?_append_left (by omega),List.getElem?_eq_getElem (by omega)];rfl
end
end Go.Z4
namespace Go.Z4
open Go.RowKit
section
variable {P:Program} {N:Nat} {s:St} {a:Act} {w:World} {A:aK} {sp:Sp} {K:St→Prop} {next:Act→World→Prop} {Q:Exit→Act→World→Prop} {o:Oper} {d:Nat}
theorem RV.cellsOf{sz:Nat}{xs:List AV}{own b off cap len:Nat}(h:RV w A (.slice sz xs own) (.slice (some ⟨b,off,none⟩) len cap)):(∀x∈xs,x.cells.length=sz)∧(∀x∈xs,x.cells.all AV.bE=true)∧len=xs.length∧xs.length≤cap∧xs.length≤140737488355328∧∃us:List Value,us.length=xs.length*sz∧(∀j u,us[j]? =some u→w.cell? ⟨b,off+j,none⟩=some u∧A b (off+j))∧(∀i,RV w A ((xs.flatMap AV.cells).getD i .any) (us.getD i undef)):=by
 cases h with
 |slice _ _ _ _ _ _ vs hsz h1c hcap hlen hc hr=>
  refine⟨hsz,h1c,rfl,hcap,hlen,(List.range (xs.length*sz)).map vs,by simp,fun j u hj=> ?_,fun i=> ?_⟩
  ·obtain⟨h1,rfl⟩:=Ml _ _ _ _ hj
   exact hc j h1
  ·by_cases hi:i<xs.length*sz
   ·have:=hr i
    rw[List.getD_eq_getElem?_getD (l:=(List.range (xs.length*sz)).map vs),List.getElem?_map,List.getElem?_range hi]
    exact this
   ·rw[List.getD_eq_getElem?_getD,List.getElem?_eq_none (by rw[gp sz xs hsz];omega)]
    exact .any _
theorem RV.Mq{sz:Nat}{xs:List AV}{own b off cap:Nat}(us:List Value)(hsz:∀x∈xs,x.cells.length=sz)(h1c:∀x∈xs,x.cells.all AV.bE=true)(hcap:xs.length≤cap)(hlen:xs.length≤140737488355328)
  (hu:us.length=xs.length*sz)(hc:∀j u,us[j]? =some u→w.cell? ⟨b,off+j,none⟩=some u∧A b (off+j))(hr:∀i,RV w A ((xs.flatMap AV.cells).getD i .any) (us.getD i undef)):
  RV w A (.slice sz xs own) (.slice (some ⟨b,off,none⟩) xs.length cap):=by
 refine .slice _ _ _ _ _ _ (fun i=>us.getD i undef) hsz h1c hcap hlen (fun i hi=> ?_) hr
 rw[List.getD_eq_getElem?_getD,List.getElem?_eq_getElem (by omega)]
 exact hc i _ (by rw[List.getElem?_eq_getElem (by omega)];rfl)
theorem RV.uM{sz sz':Nat}{xs:List AV}{own:Nat}{v:Value}(h:RV w A (.slice sz xs own) v)(hs:sz=sz'∨xs=[]):RV w A (.slice sz' xs own) v:=by
 rcases hs with rfl|rfl
 ·exact h
 ·cases h with
  |cH=>exact .cH _ _
  |slice _ _ _ b off cap vs hsz h1c hcap hlen hc hr=>
   exact .slice _ _ _ _ _ _ vs (by simp) (by simp) hcap hlen (fun i hi=>by simp at hi) hr
theorem Mr(xs:List AV)(h:∀x∈xs,x.cells.all AV.bE=true):∀c∈xs.flatMap AV.cells,c.bE=true:=by
 intro c hc
 obtain⟨x,hx,rU⟩:=List.mem_flatMap.1 hc
 exact(List.all_eq_true.1 (h x hx)) c rU
theorem Ms(h:RS N s a w A sp){sz:Nat}{xs ys:List AV}{g off cap:Nat}{r:Nat}(q:Nat)(hq:q≠0)
  (hx:RV w A (.slice sz xs r) (.slice (some ⟨g,off,none⟩) xs.length cap))(kf:sp r=(g,off+xs.length*sz,off+cap*sz))
  (news:List Value)(qh:∀x∈ys,x.cells.length=sz)(hcy:∀x∈ys,x.cells.all AV.bE=true)(Mn:news.length=ys.length*sz)(hne:0<ys.length*sz)
  (hry:∀i,RV w A ((ys.flatMap AV.cells).getD i .any) (news.getD i undef))
  (hcap:xs.length+ys.length≤cap)(hlen:xs.length+ys.length≤140737488355328):
  ∃cur T A' sp',w.heap[g]? =some (.cells cur T (0,0))∧off+xs.length*sz+news.length≤cur.size∧
   (∀w',w'=w.setRow g (cur.toList.take (off+xs.length*sz)++news++cur.toList.drop (off+xs.length*sz+news.length)).toArray→
   RS N ((s.aB r).aB q) a w' A' sp'∧Ev w A (live s.loc sp) w' A' (live ((s.aB r).aB q).loc sp')∧
   RV w' A' (.slice sz (xs++ys) q) (.slice (some ⟨g,off,none⟩) (xs.length+ys.length) cap)∧
   bV sp' (.slice sz (xs++ys) q) (.slice (some ⟨g,off,none⟩) (xs.length+ys.length) cap)):=by
 have hmul:(xs.length+ys.length)*sz≤cap*sz:=Nat.mul_le_mul_right _ hcap
 have hk:(xs.length+ys.length)*sz=xs.length*sz+ys.length*sz:=Nat.add_mul _ _ _
 have hlt:(sp r).2.1<(sp r).2.2:=by rw[kf];dsimp only;omega
 obtain⟨⟨cur,T,hg,hcs⟩,rV⟩:=h.bW r hlt
 rw[kf] at hg hcs rV
 dsimp only at hg hcs rV
 have hfit:off+xs.length*sz+news.length≤cur.size:=by omega
 refine⟨cur,T,fun b o=>A b o∨(b=g∧off+xs.length*sz≤o∧o<off+(xs.length+ys.length)*sz),ak (ak (ak sp r (0,0,0)) q (0,0,0)) q (g,off+(xs.length+ys.length)*sz,off+cap*sz),hg,hfit,fun w' hw'=> ?_⟩
 have hcell:∀o,¬(off+xs.length*sz≤o∧o<off+(xs.length+ys.length)*sz)→w'.cell? ⟨g,o,none⟩=w.cell? ⟨g,o,none⟩:=by
  intro o ho
  rw[hw',cell_setRow_same w g o cur _ T (0,0) hg]
  have e:=oD cur news (off+xs.length*sz) o hfit
  rw[if_neg (by omega)] at e
  simp only[Array.getD_eq_getD_getElem?] at e
  simp only[World.cell?,hg]
  by_cases je:o<cur.size
  ·rw[Array.getElem?_eq_getElem (by simp;omega),Array.getElem?_eq_getElem je] at e
   simp only[Option.getD_some] at e
   rw[Array.getElem?_eq_getElem (by simp;omega),Array.getElem?_eq_getElem je,e];rfl
  ·rw[Array.getElem?_eq_none (by simp;omega),Array.getElem?_eq_none (by omega)];rfl
 have hnew:∀j u,news[j]? =some u→w'.cell? ⟨g,off+xs.length*sz+j,none⟩=some u:=by
  intro j u hj
  have hj':=(List.getElem?_eq_some_iff.1 hj).1
  rw[hw',cell_setRow_same w g _ cur _ T (0,0) hg]
  simp only[List.getElem?_toArray]
  rw[List.append_assoc,List.getElem?_append_right (by simp;omega),List.getElem?_append_left (by simp;omega)]
  have:min (off+xs.length*sz) cur.size=off+xs.length*sz:=by omega
  simp only[List.length_take,Array.length_toList,this,Nat.add_sub_cancel_left]
  exact hj
 have hA:∀o,A g o→¬(off+xs.length*sz≤o∧o<off+cap*sz):=fun o ho hh=>(h.av g o ho).2 (.inr ⟨r,by rw[kf];exact⟨rfl,hh⟩⟩)
 have xU:∀b o v,A b o→w.cell? ⟨b,o,none⟩=some v→w'.cell? ⟨b,o,none⟩=some v:=by
  intro b o v ha hv
  by_cases e:b=g
  ·subst e
   have:=hA o ha
   rw[hcell o (by omega)];exact hv
  ·rw[hw',cell_setRow_other _ _ _ _ _ e];exact hv
 have uN:∀b,b≠g→w'.heap[b]? =w.heap[b]? :=fun b hb=>by rw[hw',rK _ _ _ _ hb]
 have hsame:w'.heap[g]? =some (.cells (cur.toList.take (off+xs.length*sz)++news++cur.toList.drop (off+xs.length*sz+news.length)).toArray T (0,0)):=by rw[hw'];exact setRow_heap _ _ _ _ _ _ hg
 have hsize':((cur.toList.take (off+xs.length*sz)++news++cur.toList.drop (off+xs.length*sz+news.length)).toArray).size=cur.size:=by simp only[List.size_toArray,List.length_append,List.length_take,List.length_drop,Array.length_toList];omega
 have nC:w'.heap.size=w.heap.size:=by rw[hw',size_setRow]
 have gq:gF w w' A (fun b o=>A b o∨(b=g∧off+xs.length*sz≤o∧o<off+(xs.length+ys.length)*sz)):=.blocks (fun _ _ ha=>.inl ha) fun b ha _=>by
  by_cases e:b=g
  ·subst e
   exact absurd ⟨Nat.le_refl (off+xs.length*sz),by omega⟩ (hA _ (ha _))
  ·exact uN b e
 have h2:=(h.aB r).aB q
 have k7:∀k,k≠q→k≠r→ak (ak sp r (0,0,0)) q (0,0,0) k=sp k:=fun k e1 e2=>by simp[ak,e1,e2]
 have C8:∀k,(ak (ak sp r (0,0,0)) q (0,0,0) k).2.1<(ak (ak sp r (0,0,0)) q (0,0,0) k).2.2→k≠q∧k≠r:=by
  intro k hk
  refine⟨fun e=> ?_,fun e=> ?_⟩
  ·subst e;simp[ak] at hk
  ·subst e;simp only[ak] at hk;split at hk<;>simp at hk
 have h3:=h2.world (w':=w') (A':=fun b o=>A b o∨(b=g∧off+xs.length*sz≤o∧o<off+(xs.length+ys.length)*sz)) xU (fun b o ha=>.inl ha) gq
  (fun b cs hb=>uN b (fun e=>by subst e;simp[St.aB,rV] at hb)) (fun k hk=>by
    obtain⟨⟨vs,T',g1,g2⟩,_⟩:=h2.bW k hk
    by_cases e:(ak (ak sp r (0,0,0)) q (0,0,0) k).1=g
    ·rw[e] at g1⊢
     rw[hg] at g1;injection g1 with g1;injection g1 with g1 _ _;subst g1
     exact⟨_,T,hsame,by omega⟩
    ·exact⟨vs,T',(uN _ e).trans g1,g2⟩) (fun b o ha=>by
    rcases ha with ha|⟨rfl,h4,h5⟩
    ·exact⟨by rw[nC];exact(h2.av b o ha).1,(h2.av b o ha).2⟩
    ·refine⟨by rw[nC];exact cc hg,?_⟩
     rintro(hl|⟨k,bq,hk2,hk3⟩)
     ·exact hl (by simp[St.aB,rV])
     ·obtain⟨e1,e2⟩:=C8 k (by omega)
      rw[k7 k e1 e2] at bq hk2 hk3
      have:=h.spd k r e2 (by omega) hlt (by rw[bq,kf])
      rw[kf] at this;dsimp only at this;omega)
 have h4:=h3.uy q (p9 _ _ hq) (p_ _ _ hq) g (off+(xs.length+ys.length)*sz) (off+cap*sz)
  (fun _=>⟨⟨_,T,hsame,by omega⟩,by simp[St.aB,rV]⟩)
  (fun k Zg hlt' hk he=>by
    obtain⟨e1,e2⟩:=C8 k hk
    rw[k7 k e1 e2] at hk he⊢
    have:=h.spd k r e2 hk hlt (by rw[he,kf])
    rw[kf] at this;dsimp only at this;omega)
  (fun o ho=>by
    rcases ho with ho|ho
    ·have:=hA o ho;omega
    ·omega)
 refine⟨h4,?_,?_,.inr (by simp[ak])⟩
 ·refine⟨by rw[hw'];rfl,by rw[hw'];rfl,by rw[hw'];rfl,by rw[nC];exact Nat.le_refl _,fun b o hb hl=>⟨?_,fun hl'=>hl ?_⟩,fun b hb hl=> ?_,fun _ _ ha=>.inl ha,fun b o ha=> ?_⟩
  ·by_cases e:b=g
   ·subst e
    refine hcell o (fun hh=>hl (.inr ⟨r,by rw[kf];dsimp only;omega⟩))
   ·rw[hw',cell_setRow_other _ _ _ _ _ e]
  ·rcases hl' with hl'|⟨k,hk⟩
   ·exact .inl (by intro hn;exact hl' (by simp[St.aB,hn]))
   ·by_cases e:k=q
    ·subst e;simp only[ak,if_true] at hk
     exact .inr ⟨r,by rw[kf];dsimp only;omega⟩
    ·simp only[ak,e,if_false] at hk
     split at hk
     ·dsimp only at hk;omega
     ·exact .inr ⟨k,hk⟩
  ·by_cases e:b=g
   ·subst e;exact absurd (.inr ⟨r,by rw[kf];dsimp only;exact⟨rfl,Nat.le_refl _,by omega⟩⟩) (hl (off+xs.length*sz))
   ·exact uN b e
  ·rcases ha with ha|⟨rfl,h5,h6⟩
   ·exact .inl ha
   ·exact .inr (.inl (.inr ⟨r,by rw[kf];dsimp only;omega⟩))
 ·obtain⟨oF,rU,_,_,_,us,uO,Mt,uP⟩:=hx.cellsOf
  have hm:∀{x v},RV w A x v→RV w' (fun b o=>A b o∨(b=g∧off+xs.length*sz≤o∧o<off+(xs.length+ys.length)*sz)) x v:=fun hx=>hx.mono (fun b o v ha hv=>⟨xU b o v ha hv,.inl ha⟩) gq
  have:=RV.Mq (w:=w') (A:=fun b o=>A b o∨(b=g∧off+xs.length*sz≤o∧o<off+(xs.length+ys.length)*sz)) (sz:=sz) (xs:=xs++ys) (own:=q) (b:=g) (off:=off) (cap:=cap) (us++news) (fun x hx=>(List.mem_append.1 hx).elim (oF x) (qh x)) (fun x hx=>(List.mem_append.1 hx).elim (rU x) (hcy x)) (by simpa using hcap) (by simpa using hlen) (by simp;omega) (fun j u hj=> ?_) (fun i=> ?_)
  ·rw[List.length_append] at this;exact this
  ·by_cases hjl:j<us.length
   ·rw[List.getElem?_append_left hjl] at hj
    have:=Mt j u hj
    exact⟨xU _ _ _ this.2 this.1,.inl this.2⟩
   ·rw[List.getElem?_append_right (by omega)] at hj
    have hj':=(List.getElem?_eq_some_iff.1 hj).1
    have:=hnew _ u hj
    rw[uO] at this
    have e:off+xs.length*sz+(j - xs.length*sz)=off+j:=by omega
    rw[e] at this
    exact⟨this,.inr ⟨rfl,by omega,by omega⟩⟩
  ·rw[C7,gp sz xs oF]
   split
   ·have:=hm (uP i)
    rw[List.getD_eq_getElem?_getD (l:=us++news),List.getElem?_append_left (by omega)]
    rw[List.getD_eq_getElem?_getD (l:=us)] at this
    exact this
   ·have:=hm (hry (i - xs.length*sz))
    rw[List.getD_eq_getElem?_getD (l:=us++news),List.getElem?_append_right (by omega),uO]
    rw[List.getD_eq_getElem?_getD (l:=news)] at this
    exact this
theorem RV.drew{x:AV}{v:Value}(h:RV w A x v):RV w.drew A x v:=RV.mono (w:=w) (w':=w.drew) (A:=A) (A':=A) (fun _ _ _ ha hv=>⟨hv,ha⟩) (fun _ _ ha hb=>⟨hb,ha⟩) h
theorem RV.xV{ys:List AV}(hcy:∀x∈ys,x.cells.all AV.bE=true){news:List Value}(hl:news.length=(ys.flatMap AV.cells).length)(hry:∀i,RV w A ((ys.flatMap AV.cells).getD i .any) (news.getD i undef)):∀u∈news,u.oneCell'=true:=by
 intro u hu
 obtain⟨i,hi,rfl⟩:=List.getElem_of_mem hu
 have h1:=hry i
 rw[List.getD_eq_getElem?_getD,List.getD_eq_getElem?_getD,List.getElem?_eq_getElem (by omega),List.getElem?_eq_getElem hi] at h1
 exact h1.uI (Mr ys hcy _ (by simp))
theorem Mu{t e:TypeId}{i:TypeInfo}{z:Value}{x y:Operand}{mx my:ai}(hop:o.op=.call {callee:=.builtin .append,args:= #[x,y],argTypes:= #[t,t]})(hd:o.dst=some d)(hN:d<N)
  (hx:aC x=some mx)(hy:aC y=some my)(ht:P.underlying t=some (.slice e))(hi:P.info? e=some i)(hz:i.zero=some z)(hzs:z.cells.size=i.size)(hs0:0<i.size)
  (h:RS N s a w A sp)(hv:Z2 P (.app d mx my i.size i.bytes) s K)(hn:Next s w A sp N K next):o.wp P a w next Q:=by
 have h1:=bf h hx
 have h2:=(bf h hy).1
 have hex:∀v w',(Builtin.append_ #[t,t] o.type #[a.eval x,a.eval y]).run P w=.ok v w'→(execOp a.eval o).run P w=.ok (.value v) w':=by
  intro v w' hr
  simp[execOp,hop,resolve,invoke,builtin,hr]
 simp only[Z2] at hv
 split at hv
 ·rename_i szx xs r szy ys r2 e1 e2
  obtain⟨hr0,oF,qh,hbytes,hlen,hK⟩:=hv
  rw[e1] at h1;rw[e2] at h2
  subst oF
  have hY:=h2.uM qh
  have hq:d+1≠0:=by omega
  have dm:Ev w A (live s.loc sp) w A (live ((s.aB r).aB (d+1)).loc (ak (ak sp r (0,0,0)) (d+1) (0,0,0))):=(Ev.aB r).trans (Ev.aB (d+1))
  have hR:=(h.aB r).aB (d+1)
  have xW:∀n:Nat,n≤140737488355328→n≤maxLen:=by unfold maxLen;omega
  have hzero:∀base yb n cap c,a.eval x=.slice base n cap→a.eval y=.slice yb 0 c→n≤cap→ys=[]→o.wp P a w next Q:=by
   intro base yb n cap c ex ey hnc hys
   subst hys
   rw[List.append_nil] at hK
   refine fin' (h.rename r (d+1) hq) (.same fun b o=>xP r (d+1)) hd hN (hex _ _ (by rw[ex,ey];exact adE t e o.type i ht hi base yb n cap c hnc)) (x:=.slice i.size xs (d+1)) ?_ ?_ hK hn
   ·rw[←ex];exact h1.1.own
   ·rcases qe hr0 h1.2 h1.1 with e3|⟨b,off,cap',e3,_,e4⟩
    ·rw[ex] at e3;injection e3 with e3 e5 e6;subst e3;trivial
    ·rw[ex] at e3;injection e3 with e3 e5 e6;subst e3;subst e5;subst e6
     exact .inr (by simp[ak,e4])
  generalize qi:a.eval y=vy at hY hzero
  cases hY with
  |cH=>
   rcases qe hr0 h1.2 h1.1 with e3|⟨b,off,cap,e3,hc,_⟩
   ·exact hzero _ _ _ _ _ e3 rfl (Nat.le_refl _) rfl
   ·exact hzero _ _ _ _ _ e3 rfl hc rfl
  |slice _ _ _ b' off' cap' vs' gr hH me abx hcy hry=>
   have rW:=(RV.slice (w:=w) (A:=A) i.size ys r2 b' off' cap' vs' gr hH me abx hcy hry).cellsOf
   obtain⟨_,_,_,_,_,news,dG,hnc,gM⟩:=rW
   by_cases hys:ys=[]
   ·subst hys
    rcases qe hr0 h1.2 h1.1 with e3|⟨b,off,cap,e3,hc,_⟩
    ·exact hzero _ _ _ _ _ e3 rfl (Nat.le_refl _) rfl
    ·exact hzero _ _ _ _ _ e3 rfl hc rfl
   ·have fS:0<ys.length:=List.length_pos_iff.2 hys
    have hne:0<ys.length*i.size:=Nat.mul_pos fS hs0
    have hone:=RV.xV hH (by rw[dG,gp i.size ys gr]) gM
    have hnews:∀j u,news[j]? =some u→w.cell? ((⟨b',off',none⟩:Addr).add j)=some u:=fun j u hj=>by rw[Addr.fK];exact(hnc j u hj).1
    rcases qe hr0 h1.2 h1.1 with e3|⟨b,off,cap,e3,hc,hsp⟩
    ·
     have hxs:xs=[]:=by have:=h1.1;rw[e3] at this;cases this;rfl
     subst hxs
     have hrun:=run_append_nil (P:=P) w t o.type e i z ht hi hz ⟨b',off',none⟩ ys.length cap' news dG hnews fS (by simp at hlen;omega) (by simp at hbytes;omega)
     obtain⟨A',sp',g1,g2,g3,g4⟩:=xT hR.drew (xs:=[]) (ys:=ys) (sz:=i.size) e [] news (Builtin.zeroCells z.cells (grownCap w ys.length 0 e - ys.length)).toList (d+1) (grownCap w ys.length 0 e) hq (p9 _ _ hq) (p_ _ _ hq) (by simp) gr (by simp) hH (by simp) dG (by simp;exact .any _) (fun k=>(gM k).drew) (by simp;exact grownCap_ge w _ _ _) (by simp[Builtin.zeroCells,hzs]) (by simpa using hlen)
     simp only[List.length_nil,Nat.zero_add,List.nil_append] at g1 g2 g3 g4 hK
     refine fin' g1 ((dm.trans (Ev.drew _)).trans g2) hd hN (hex _ _ ?_) g3 g4 hK hn
     rw[e3,qi,hrun]
     congr 2
     rw[←Array.toList_inj.1 (show(news++(Builtin.zeroCells z.cells (grownCap w ys.length 0 e - ys.length)).toList).toArray.toList=(news.toArray++Builtin.zeroCells z.cells (grownCap w ys.length 0 e - ys.length)).toList by simp)]
    ·by_cases hroom:xs.length+ys.length≤cap
     ·
      have hX:=h1.1
      rw[e3] at hX
      obtain⟨cur,T,A',sp',g1,g2,g3⟩:=Ms h (d+1) hq hX hsp news gr hH dG hne gM hroom hlen
      have hrun:=xS (P:=P) (w:=w) t o.type e i ht hi b off xs.length cap cur T g1 ⟨b',off',none⟩ ys.length cap' news dG hnews hone hroom g2
      obtain⟨g4,g5,g6,g7⟩:=g3 _ rfl
      exact fin' g4 g5 hd hN (hex _ _ (by rw[e3,qi];exact hrun)) g6 g7 hK hn
     ·
      have hX:=h1.1
      rw[e3] at hX
      obtain⟨Mv,Mw,_,_,_,olds,jf,Mx,hJ⟩:=hX.cellsOf
      have holds:∀j u,olds[j]? =some u→w.cell? ((⟨b,off,none⟩:Addr).add j)=some u:=fun j u hj=>by rw[Addr.fK];exact(Mx j u hj).1
      have hrun:=run_append_grow (P:=P) w t o.type e i z ht hi hz ⟨b,off,none⟩ xs.length cap olds jf holds ⟨b',off',none⟩ ys.length cap' news dG hnews (by omega) (by omega) (growslice_fits (by omega) hbytes)
      obtain⟨A',sp',g1,g2,g3,g4⟩:=xT hR.drew (xs:=xs) (ys:=ys) (sz:=i.size) e olds news (Builtin.zeroCells z.cells (grownCap w (xs.length+ys.length) cap e - (xs.length+ys.length))).toList (d+1) (grownCap w (xs.length+ys.length) cap e) hq (p9 _ _ hq) (p_ _ _ hq) Mv gr Mw hH jf dG (fun k=>(hJ k).drew) (fun k=>(gM k).drew) (grownCap_ge w _ _ _) (by simp[Builtin.zeroCells,hzs]) hlen
      refine fin' g1 ((dm.trans (Ev.drew _)).trans g2) hd hN (hex _ _ ?_) g3 g4 hK hn
      rw[e3,qi,hrun]
      congr 2
      rw[←Array.toList_inj.1 (show(olds++news++(Builtin.zeroCells z.cells (grownCap w (xs.length+ys.length) cap e - (xs.length+ys.length))).toList).toArray.toList=(olds.toArray++news.toArray++Builtin.zeroCells z.cells (grownCap w (xs.length+ys.length) cap e - (xs.length+ys.length))).toList by simp)]
 ·exact hv.elim
end
end Go.Z4
namespace Go.Z4
open Go.RowKit
section
variable {P:Program} {N:Nat} {s:St} {a:Act} {w:World} {A:aK} {sp:Sp} {K:St→Prop} {next:Act→World→Prop} {Q:Exit→Act→World→Prop} {o:Oper} {d:Nat}
theorem My(us:List Value):∀(k off:Nat) (cs:Array Value),(us.zipIdx k).foldl (fun(cs:Array Value) (p:Value×Nat)=>cs.setIfInBounds (off+p.2) p.1) cs=(us.zipIdx 0).foldl (fun(cs:Array Value) (p:Value×Nat)=>cs.setIfInBounds (off+k+p.2) p.1) cs:=by
 induction us with
 |nil=>intro k off cs;rfl
 |cons u us ih=>
  intro k off cs
  simp only[List.zipIdx_cons,List.foldl_cons]
  rw[ih (k+1) off,ih 1 (off+k)]
  simp only[Nat.add_zero,Nat.add_assoc]
theorem C9:∀(us:List Value) (off:Nat) (cs:Array Value),off+us.length≤cs.size→
  ((us.zipIdx 0).foldl (fun(cs:Array Value) (p:Value×Nat)=>cs.setIfInBounds (off+p.2) p.1) cs).size=cs.size∧
  ∀i,((us.zipIdx 0).foldl (fun(cs:Array Value) (p:Value×Nat)=>cs.setIfInBounds (off+p.2) p.1) cs).getD i undef=if off≤i∧i<off+us.length then us.getD (i - off) undef else cs.getD i undef
 |[],off,cs,_=>⟨rfl,fun i=>by simp;intro h1 h2;omega⟩
 |u::us,off,cs,h=>by
  simp only[List.length_cons] at h
  simp only[List.zipIdx_cons,List.foldl_cons,Nat.zero_add,Nat.add_zero]
  rw[My us 1 off]
  obtain⟨h1,h2⟩:=C9 us (off+1) (cs.setIfInBounds off u) (by simp;omega)
  refine⟨by rw[h1];simp,fun i=> ?_⟩
  rw[h2]
  by_cases e:off+1≤i∧i<off+1+us.length
  ·rw[if_pos e,if_pos (by simp;omega)]
   have:i - off=(i - (off+1))+1:=by omega
   rw[this];simp
  ·rw[if_neg e]
   by_cases e2:i=off
   ·subst e2
    rw[if_pos (by simp)]
    simp only[Nat.sub_self,List.getD_eq_getElem?_getD,List.getElem?_cons_zero,Array.getD_eq_getD_getElem?]
    rw[Array.getElem?_setIfInBounds_self_of_lt (by omega)]
   ·rw[if_neg (by simp;omega)]
    simp only[Array.getD_eq_getD_getElem?]
    rw[Array.getElem?_setIfInBounds_ne (by omega)]
def C_(x:Operand)(m:ai):Prop:=∀(N:Nat) (s:St) (a:Act) (w:World) (A:aK) (sp:Sp),RS N s a w A sp→RV w A (m.ev s.env) (a.eval x)
theorem xX{P:Program}{t:TypeId}{x:Operand}{m:ai}(h:k8 P t x=some m):C_ x m:=fun _ _ _ _ _ _ hs=>(xK hs h).1
def rX(place:Nat→Option (Nat×Nat)):List (Nat×Operand)→List (Nat×Nat×ai)→Prop
 |[],[]=>True
 |(i,x)::ps,(off,n,m)::qs=>C_ x m∧place i=some (off,n)∧0<n∧rX place ps qs
 |_,_=>False
theorem uQ(h:RS N s a w A sp)(place:Nat→Option (Nat×Nat)):∀(ps:List (Nat×Operand)) (qs:List (Nat×Nat×ai)) (cs:List AV) (vs:Array Value) (k:List AV→Prop),
  rX place ps qs→vs.size=cs.length→(∀i,RV w A (cs.getD i .any) (vs.getD i undef))→aa9 s.env cs qs k→
  ∃cs' vs',Instr.fill place vs (ps.map fun p=>(p.1,a.eval p.2))=some vs'∧vs'.size=cs'.length∧(∀i,RV w A (cs'.getD i .any) (vs'.getD i undef))∧k cs'
 |[],[],cs,vs,k,_,hs,hr,hk=>⟨cs,vs,rfl,hs,hr,hk⟩
 |(i,x)::ps,(off,n,m)::qs,cs,vs,k,hp,hs,hr,hk=>by
  obtain⟨hx,oG,hn0,hp⟩:=hp
  obtain⟨hl,hoff,hk⟩:=hk
  have h1:=hx _ _ _ _ _ _ h
  obtain⟨c1,c2⟩:=h1.uH (by intro e;rw[e] at hl;simp at hl;omega)
  obtain⟨f1,f2⟩:=C9 (a.eval x).cells.toList off vs (by simp;omega)
  have Mz:(a.eval x).cells.zipIdx.foldl (fun cs (c,j)=>cs.setIfInBounds (off+j) c) vs=((a.eval x).cells.toList.zipIdx 0).foldl (fun(cs:Array Value) (p:Value×Nat)=>cs.setIfInBounds (off+p.2) p.1) vs:=by rw[←Array.foldl_toList];simp
  obtain⟨cs',vs',g1,g2,g3,g4⟩:=uQ h place ps qs (splice cs off ((m.ev s.env).cells.map AV.erase0)) _ k hp (by rw[f1,jL];exact hs) (fun j=>by
   rw[f2,ld _ _ _ _ (by simp;omega)]
   simp only[List.length_map,Array.length_toList,c1]
   split
   ·rw[gj]
    have:=(c2 (j - off)).erase0
    simpa[List.getD_eq_getElem?_getD,Array.getD_eq_getD_getElem?] using this
   ·exact hr j) hk
  refine⟨cs',vs',?_,g2,g3,g4⟩
  rw[List.map_cons,Instr.fill]
  simp only[oG]
  rw[if_neg (by simp;omega),Mz]
  exact g1
 |[],_::_,_,_,_,hp,_,_,_=>hp.elim
 |_::_,[],_,_,_,hp,_,_,_=>hp.elim
theorem ac8{P:Program}{w:World}:∀(fs:List Field),(∀f∈fs,∃i,P.info? f.type=some i)→(fs.mapM fun f=>(do pure (f.offset,←sizeOf f.type):Sem (Nat×Nat))).run P w=.ok (fs.map fun f=>(f.offset,P.cellsOf f.type)) w
 |[],_=>rfl
 |f::fs,h=>by
  obtain⟨i,hi⟩:=h f (by simp)
  have ih:=ac8 (w:=w) fs (fun g hg=>h g (by simp[hg]))
  simp only[List.mapM_cons,Sem.run_bind,sizeOf,typeInfo,run_program,Result.andThen_ok,hi,Sem.run_pure,List.map_cons,Program.cellsOf,Option.map_some,Option.getD_some] at ih⊢
  rw[ih]
  rfl
theorem Da{fs:Array Field}(place:Nat→Option (Nat×Nat))(oG:∀i f n,fs[i]? =some f→cg P f.type=some n→place i=some (f.offset,n)):∀(ps:List (Nat×Operand)) (qs:List (Nat×Nat×ai)),acg P fs ps=some qs→rX place ps qs
 |[],qs,h=>by injection h with h;subst h;trivial
 |(i,x)::ps,qs,h=>by
  simp only[acg] at h
  split at h
  ·rename_i f ys h1 h3
   split at h
   ·rename_i n y hn h2
    split at h
    ·injection h with h;subst h
     exact⟨xX h2,oG i f n h1 hn,by omega,Da place oG ps ys h3⟩
    ·cases h
   ·cases h
  ·cases h
theorem Db{e:TypeId}{sz:Nat}(h0:0<sz):∀(ps:List (Nat×Operand)) (qs:List (Nat×Nat×ai)),rO P e sz ps=some qs→rX (fun i=>some (i*sz,sz)) ps qs
 |[],qs,h=>by injection h with h;subst h;trivial
 |(i,x)::ps,qs,h=>by
  simp only[rO] at h
  split at h
  ·rename_i y ys h1 h2
   injection h with h;subst h
   exact⟨xX h1,rfl,h0,Db h0 ps ys h2⟩
  ·cases h
theorem MA{t:TypeId}{ps:Array (Nat×Operand)}{qs:List (Nat×Nat×ai)}{z:List AV}{fs:Array Field}(hop:o.op=.build t ps)(hd:o.dst=some d)(hN:d<N)
  (hz:jc P t z=true)(ht:P.underlying t=some (.struct fs))(qj:∀f∈fs.toList,∃i,P.info? f.type=some i)(hq:acg P fs ps.toList=some qs)
  (h:RS N s a w A sp)(hv:Z2 P (.build d z qs) s K)(hn:Next s w A sp N K next):o.wp P a w next Q:=by
 obtain⟨i,v,hi,hz,hs,_,hr,hc⟩:=ab7 (w:=w) (A:=A) hz
 have hm:=ac8 (P:=P) (w:=w) fs.toList qj
 have hok:=Da (P:=P) (fs:=fs) (fun i=>(fs.map fun f=>(f.offset,P.cellsOf f.type))[i]?) (fun i f n h1 h2=>by
  simp only[cg,Option.map_eq_some_iff] at h2
  obtain⟨j,hj,rfl⟩:=h2
  simp[h1,Program.cellsOf,hj]) ps.toList qs hq
 obtain⟨cs',vs',g1,g2,g3,g4⟩:=uQ h _ ps.toList qs z v.cells _ hok hs hr hv
 refine fin (v:=.agg vs') h hd hN ?_ (.agg _ _ g2 g3) trivial g4 hn
 have MB:(fs.mapM fun f=>(do pure (f.offset,←sizeOf f.type):Sem (Nat×Nat))).run P w=.ok (fs.map fun f=>(f.offset,P.cellsOf f.type)) w:=by
  rw[Array.mapM_eq_mapM_toList,Sem.run_map,hm]
  simp only[Result.andThen_ok]
  congr 1
  exact Array.ext' (by simp)
 have nD:(ps.map fun x=>(x.1,a.eval x.2)).toList=ps.toList.map fun p=>(p.1,a.eval p.2):=by simp
 simp only[execOp,hop,Instr.build,zeroValue,typeInfo,Sem.run_bind,run_program,Result.andThen_ok,hi,Sem.run_pure,hz,run_underlying ht,MB,nD,g1]
theorem MC{t e:TypeId}{len sz:Nat}{ps:Array (Nat×Operand)}{qs:List (Nat×Nat×ai)}{z:List AV}(hop:o.op=.build t ps)(hd:o.dst=some d)(hN:d<N)
  (hz:jc P t z=true)(ht:P.underlying t=some (.array len e))(hsz:cg P e=some sz)(h0:0<sz)(hq:rO P e sz ps.toList=some qs)
  (h:RS N s a w A sp)(hv:Z2 P (.build d z qs) s K)(hn:Next s w A sp N K next):o.wp P a w next Q:=by
 obtain⟨i,v,hi,hz,hs,_,hr,hc⟩:=ab7 (w:=w) (A:=A) hz
 simp only[cg,Option.map_eq_some_iff] at hsz
 obtain⟨inf,c7,rfl⟩:=hsz
 obtain⟨cs',vs',g1,g2,g3,g4⟩:=uQ h _ ps.toList qs z v.cells _ (Db h0 _ _ hq) hs hr hv
 refine fin (v:=.agg vs') h hd hN ?_ (.agg _ _ g2 g3) trivial g4 hn
 have nD:(ps.map fun x=>(x.1,a.eval x.2)).toList=ps.toList.map fun p=>(p.1,a.eval p.2):=by simp
 simp only[execOp,hop,Instr.build,zeroValue,sizeOf,typeInfo,Sem.run_bind,run_program,Result.andThen_ok,hi,c7,Sem.run_pure,hz,run_underlying ht,nD,g1]
end
end Go.Z4
namespace Go.Z4
open Go.RowKit
section
variable {P:Program} {N:Nat} {s:St} {a:Act} {w:World} {A:aK} {sp:Sp} {K:St→Prop} {next:Act→World→Prop} {Q:Exit→Act→World→Prop} {o:Oper} {d:Nat}
theorem MD(sz:Nat)(xs:List AV)(i:Nat)(y:AV)(h:∀x∈xs,x.cells.length=sz)(hy:y.cells.length=sz)(hi:i<xs.length):(xs.set i y).flatMap AV.cells=splice (xs.flatMap AV.cells) (i*sz) y.cells:=by
 have dH:∀x∈xs.set i y,x.cells.length=sz:=by
  intro x hx
  rcases List.mem_or_eq_of_mem_set hx with hx|rfl
  ·exact h x hx
  ·exact hy
 have hmul:(i+1)*sz≤xs.length*sz:=Nat.mul_le_mul_right _ hi
 rw[Nat.add_mul,Nat.one_mul] at hmul
 have jd:=gp sz xs h
 have gu:=gp sz _ dH
 rw[List.length_set] at gu
 apply List.ext_getElem?
 intro j
 by_cases hj:j<xs.length*sz
 ·have key:((xs.set i y).flatMap AV.cells).getD j .any=(splice (xs.flatMap AV.cells) (i*sz) y.cells).getD j .any:=by
   rw[ld _ _ _ _ (by omega),hy]
   have Dc:0<sz:=by
    rcases Nat.eq_zero_or_pos sz with e|e
    ·subst e;simp at hj
    ·exact e
   have ej:j=j / sz*sz+j%sz:=by rw[Nat.mul_comm];exact(Nat.div_add_mod j sz).symm
   have hq:j / sz<xs.length:=Nat.div_lt_of_lt_mul (by rw[Nat.mul_comm];exact hj)
   have hm:=Nat.mod_lt j Dc
   have e1:=rR AV.cells sz (xs.set i y) (j / sz) dH (by simpa using hq) (j%sz) .any .any hm
   have e2:=rR AV.cells sz xs (j / sz) h hq (j%sz) .any .any hm
   rw[←ej] at e1 e2
   rw[e1]
   by_cases hji:j / sz=i
   ·rw[if_pos (by rw[←hji];omega)]
    have e3:(xs.set i y).getD (j / sz) .any=y:=by rw[List.getD_eq_getElem?_getD,hji,List.getElem?_set_self hi];rfl
    have e4:j - i*sz=j%sz:=by rw[←hji];omega
    rw[e3,e4]
   ·have hni:¬(i*sz≤j∧j<i*sz+sz):=by
     rintro⟨h1,h2⟩
     have h3:i≤j / sz:=(Nat.le_div_iff_mul_le Dc).2 h1
     have h4:j / sz<i+1:=Nat.div_lt_of_lt_mul (by rw[Nat.mul_comm,Nat.add_mul,Nat.one_mul];exact h2)
     omega
    rw[if_neg hni,e2]
    have e3:(xs.set i y).getD (j / sz) .any=xs.getD (j / sz) .any:=by rw[List.getD_eq_getElem?_getD,List.getElem?_set_ne (by omega),List.getD_eq_getElem?_getD]
    rw[e3]
  simp only[List.getD_eq_getElem?_getD] at key
  rw[List.getElem?_eq_getElem (by omega),List.getElem?_eq_getElem (by rw[jL];omega)] at key⊢
  simpa using key
 ·rw[List.getElem?_eq_none (by omega),List.getElem?_eq_none (by rw[jL];omega)]
theorem Dd(e:Nat→AV)(sz:Nat):∀(ps:List (Nat×ai)) (xs:List AV) (k:List AV→Prop),(∀x∈xs,x.cells.length=sz)→(∀x∈xs,x.cells.all AV.bE=true)→gn e sz xs ps k→aa9 e (xs.flatMap AV.cells) (ps.map fun p=>(p.1*sz,sz,p.2)) (fun cs=>∃xs',cs=xs'.flatMap AV.cells∧xs'.length=xs.length∧(∀x∈xs',x.cells.length=sz)∧(∀x∈xs',x.cells.all AV.bE=true)∧k xs')
 |[],xs,k,h1,h2,hk=>⟨xs,rfl,rfl,h1,h2,hk⟩
 |(i,m)::ps,xs,k,h1,h2,hk=>by
  obtain⟨hl,hc,hi,hk⟩:=hk
  have hmul:(i+1)*sz≤xs.length*sz:=Nat.mul_le_mul_right _ hi
  rw[Nat.add_mul,Nat.one_mul] at hmul
  have hy:(m.ev e).erase.cells.length=sz:=by rw[xu];simpa using hl
  have fT:(m.ev e).erase.cells.all AV.bE=true:=by
   rw[xu,List.all_map]
   refine List.all_eq_true.2 fun x hx=> ?_
   have:=(List.all_eq_true.1 hc) x hx
   cases x<;>first|exact this|rfl
  refine⟨hl,by rw[gp sz xs h1];omega,?_⟩
  have:=Dd e sz ps (xs.set i (m.ev e).erase) k (fun x hx=>(List.mem_or_eq_of_mem_set hx).elim (h1 x) (fun e=>e▸hy)) (fun x hx=>(List.mem_or_eq_of_mem_set hx).elim (h2 x) (fun e=>e▸fT)) hk
  rw[MD sz xs i _ h1 hy hi,xu] at this
  simpa using this
theorem De{e:TypeId}{sz:Nat}(h0:0<sz):∀(ps:List (Nat×Operand)) (qs:List (Nat×ai)),rP P e ps=some qs→rX (fun i=>some (i*sz,sz)) ps (qs.map fun p=>(p.1*sz,sz,p.2))
 |[],qs,h=>by injection h with h;subst h;trivial
 |(i,x)::ps,qs,h=>by
  simp only[rP] at h
  split at h
  ·rename_i y ys h1 h2
   injection h with h;subst h
   exact⟨xX h1,rfl,h0,De h0 ps ys h2⟩
  ·cases h
theorem ME(z:List Value)(hz:0<z.length)(n i:Nat)(hi:i<n*z.length):(Array.map (fun k=>(z.toArray)[k%z.toArray.size]!) (Array.range (n*z.length))).getD i undef=z.getD (i%z.length) undef:=by
 have hm:=Nat.mod_lt i hz
 simp only[Array.getD_eq_getD_getElem?]
 rw[Array.getElem?_eq_getElem (by simpa using hi)]
 simp[hm,List.getD_eq_getElem?_getD]
theorem MF{t e:TypeId}{len sz:Nat}{ps:Array (Nat×Operand)}{qs:List (Nat×ai)}{z:List AV}(hop:o.op=.buildSlice t len ps)(hd:o.dst=some d)(hN:d<N)
  (hz:jc P e z=true)(ht:P.underlying t=some (.slice e))(hsz:cg P e=some sz)(h0:0<sz)(xW:len*sz≤16777216)(hq:rP P e ps.toList=some qs)
  (h:RS N s a w A sp)(hv:Z2 P (.aM d len sz z qs) s K)(hn:Next s w A sp N K next):o.wp P a w next Q:=by
 obtain⟨i,v,hi,hz,hs,hzl,hr,hc⟩:=ab7 (w:=w) (A:=A) hz
 simp only[cg,Option.map_eq_some_iff] at hsz
 obtain⟨inf,c7,rfl⟩:=hsz
 rw[hi] at c7;injection c7 with c7;subst c7
 have nE:(if i.size=1 then z.getD 0 .any else .agg z).cells=z:=by
  split
  ·rename_i e1
   match z,(show z.length=1 by omega),hc with
   |[x],_,hc=>
    have:=(hc x (by simp)).1
    simp only[List.getD_eq_getElem?_getD,List.getElem?_cons_zero,Option.getD_some]
    cases x<;>first|rfl|cases this
  ·rfl
 generalize MG:(if i.size=1 then z.getD 0 AV.any else AV.agg z)=ze at nE
 have MH:ze.cells.all AV.bE=true:=by rw[nE];exact List.all_eq_true.2 fun x hx=>(hc x hx).1
 simp only[Z2,MG] at hv
 have xY:∀x∈List.replicate len ze,x.cells.length=i.size:=by intro x hx;rw[List.eq_of_mem_replicate hx,nE,hzl]
 have MI:∀x∈List.replicate len ze,x.cells.all AV.bE=true:=by intro x hx;rw[List.eq_of_mem_replicate hx];exact MH
 have hk:=Dd s.env i.size qs (List.replicate len ze) _ xY MI hv
 have uR:v.cells.size=i.size:=by omega
 have MJ:((List.replicate len ze).flatMap AV.cells).length=len*i.size:=by rw[gp i.size _ xY];simp
 have MK:∀k,RV w A (((List.replicate len ze).flatMap AV.cells).getD k .any) ((Array.map (fun k=>v.cells[k%v.cells.size]!) (Array.range (len*i.size))).getD k undef):=by
  intro k
  by_cases hk:k<len*i.size
  ·have Df:k / i.size<len:=Nat.div_lt_of_lt_mul (by rw[Nat.mul_comm];exact hk)
   have e1:=rR AV.cells i.size (List.replicate len ze) (k / i.size) xY (by simpa using Df) (k%i.size) .any .any (Nat.mod_lt _ h0)
   have ek:k / i.size*i.size+k%i.size=k:=by rw[Nat.mul_comm];exact Nat.div_add_mod k i.size
   rw[ek] at e1
   rw[e1]
   have e2:(List.replicate len ze).getD (k / i.size) .any=ze:=by rw[List.getD_eq_getElem?_getD,List.getElem?_replicate,if_pos Df];rfl
   rw[e2,nE]
   have e3:=ME v.cells.toList (by simpa[uR] using h0) len k (by simpa[uR] using hk)
   simp only[Array.length_toList,Array.toArray_toList,uR] at e3
   rw[uR,e3]
   have:=hr (k%i.size)
   simpa[List.getD_eq_getElem?_getD,Array.getD_eq_getD_getElem?] using this
  ·rw[List.getD_eq_getElem?_getD,List.getElem?_eq_none (by omega)];exact .any _
 obtain⟨cs',vs',g1,g2,g3,xs',rfl,gl,gs,gc,gk⟩:=uQ h _ ps.toList _ ((List.replicate len ze).flatMap AV.cells) (Array.map (fun k=>v.cells[k%v.cells.size]!) (Array.range (len*i.size))) _ (De h0 _ _ hq) (by simp[MJ]) MK hk
 rw[List.length_replicate] at gl
 have hfl:=gp i.size xs' gs
 have qk:d+1≠0:=by omega
 obtain⟨A',sp',k1,k2,k3,k4⟩:=xT (h.aB (d+1)) (xs:=xs') (ys:=[]) (sz:=i.size) e vs'.toList [] [] (d+1) len qk (p9 _ _ qk) (p_ _ _ qk) gs (by simp) gc (by simp)
  (by simp;omega) (by simp) (fun j=>by have:=g3 j;simpa[List.getD_eq_getElem?_getD,Array.getD_eq_getD_getElem?] using this) (by simp;exact .any _) (by simp;omega) (by simp[gl]) (by
    simp only[List.length_nil,Nat.add_zero,gl]
    have:len*1≤len*i.size:=Nat.mul_le_mul_left _ h0
    omega)
 simp only[List.append_nil,Array.toArray_toList,List.length_nil,Nat.add_zero] at k1 k2 k3 k4
 rw[gl] at k3 k4
 refine fin' k1 ((Ev.aB (d+1)).trans k2) hd hN ?_ k3 k4 gk hn
 have nD:(ps.map fun x=>(x.1,a.eval x.2)).toList=ps.toList.map fun p=>(p.1,a.eval p.2):=by simp
 have hnb:¬(len*i.size>2^24):=by omega
 by_cases uS:len*i.size=0
 ·have adF:len=0:=by rcases Nat.mul_eq_zero.1 uS with e|e;exact e;omega
  subst adF
  have e0:Array.map (fun k=>v.cells[k%v.cells.size]!) (Array.range (0*i.size))= #[]:=by simp
  rw[e0] at g1
  have hb:(Instr.buildSlice t 0 (ps.map fun x=>(x.1,a.eval x.2))).run P w=.ok (.slice (some ⟨w.heap.size,0,none⟩) 0 0) (w.alloc (.cells vs' e)):=by
   unfold Instr.buildSlice
   simp only[sizeOf,typeInfo,Sem.run_bind,run_program,Result.andThen_ok,hi,Sem.run_pure,run_underlying ht,nD,Nat.zero_mul,Nat.not_lt_zero,gt_iff_lt,if_false,if_true]
   have e1:Array.map (fun k=>(#[]:Array Value)[k%(#[]:Array Value).size]!) (Array.range 0)= #[]:=by simp
   rw[e1,g1]
   rfl
  simp only[execOp,hop,Sem.run_bind,hb,Result.andThen_ok,Sem.run_pure]
 ·simp only[execOp,hop,Instr.buildSlice,zeroValue,sizeOf,typeInfo,Sem.run_bind,run_program,Result.andThen_ok,hi,hz,Sem.run_pure,run_underlying ht,nD,hnb,if_false,uS,g1,newRow,run_newObj]
  rfl
end
end Go.Z4
namespace Go.Z4
open Go.RowKit
section
variable {P:Program} {N:Nat} {s:St} {a:Act} {w:World} {A:aK} {sp:Sp} {K:St→Prop} {next:Act→World→Prop} {Q:Exit→Act→World→Prop} {o:Oper} {d:Nat}
theorem xZ(depth:Nat)(xs ys:Array Value)(as bs:List AV)(hx:xs.size=as.length)(hy:ys.size=bs.length)
  (uL:∀i,RV w A (as.getD i .any) (xs.getD i undef))(hry:∀i,RV w A (bs.getD i .any) (ys.getD i undef)):∀(fs:List Field) (ks:List Bool) (k:Nat) (q:Bool),
  oA P ks k fs=true→as.length=k+fs.length→bs.length=k+fs.length→cD ks (as.drop k) (bs.drop k)=some q→
  (Op.eqFields (depth+1) xs ys fs).run P w=.ok q w
 |[],[],k,q,_,h1,h2,he=>by
  rw[List.drop_of_length_le (by simp at h1;omega),List.drop_of_length_le (by simp at h2;omega)] at he
  injection he with he;subst he;rfl
 |[],_::_,_,_,hf,_,_,_=>by cases hf
 |_::_,[],_,_,hf,_,_,_=>by cases hf
 |f::fs,kq::ks,k,q,hf,h1,h2,he=>by
  simp only[List.length_cons] at h1 h2
  simp only[oA,Bool.and_eq_true,bne_iff_ne,beq_iff_eq] at hf
  obtain⟨⟨⟨hn,hoff⟩,ht⟩,qj⟩:=hf
  have bq:k<as.length:=by omega
  have hk2:k<bs.length:=by omega
  rw[List.drop_eq_getElem_cons bq,List.drop_eq_getElem_cons hk2] at he
  have r1:=uL k
  have r2:=hry k
  rw[List.getD_eq_getElem?_getD,List.getElem?_eq_getElem bq,Option.getD_some] at r1
  rw[List.getD_eq_getElem?_getD,List.getElem?_eq_getElem hk2,Option.getD_some] at r2
  have e1:xs[k]? =some (xs.getD k undef):=by rw[Array.getD_eq_getD_getElem?,Array.getElem?_eq_getElem (by omega)];rfl
  have e2:ys[k]? =some (ys.getD k undef):=by rw[Array.getD_eq_getD_getElem?,Array.getElem?_eq_getElem (by omega)];rfl
  have aby:(isAgg f.type).run P w=.ok false w:=by
   unfold isAgg
   cases hu:P.underlying f.type with
   |none=>rw[hu] at ht;cases kq<;>cases ht
   |some dd=>rw[hu] at ht;rw[Sem.run_bind,run_underlying hu];cases kq<;>cases dd<;>first|rfl|cases ht
  have p1:(part f.type xs f.offset).run P w=.ok (xs.getD k undef) w:=by
   generalize xs.getD k undef=v at e1
   simp[part,Sem.run_bind,aby,hoff,e1]
  have p2:(part f.type ys f.offset).run P w=.ok (ys.getD k undef) w:=by
   generalize ys.getD k undef=v at e2
   simp[part,Sem.run_bind,aby,hoff,e2]
  have Dg:=xZ depth xs ys as bs hx hy uL hry fs ks (k+1)
  generalize as[k]=x at r1 he
  generalize bs[k]=y at r2 he
  simp only[Op.eqFields,hn,ne_eq,not_false_eq_true,if_true,Sem.run_bind,p1,p2,Result.andThen_ok]
  generalize xs.getD k undef=vx at r1
  generalize ys.getD k undef=vy at r2
  cases hu:P.underlying f.type with
  |none=>rw[hu] at ht;cases kq<;>cases ht
  |some dd=>
   rw[hu] at ht
   unfold cD at he
   split at he
   ·rename_i e _ _;cases e
   ·rename_i ks' kk p xs' Zh p' ys' e2 e3 e4
    injection e2 with e2 e7;injection e3 with e3 e5;injection e4 with e4 e6
    subst e2 e3 e4 e5 e6 e7
    have v1:=r1.cJ;have v2:=r2.cJ
    subst v1 v2
    split at he
    ·rename_i hkk
     subst hkk
     simp only[Option.map_eq_some_iff] at he
     obtain⟨q',gL,rfl⟩:=he
     have:=Dg q' qj (by omega) (by omega) gL
     have he':(Op.equalIn (depth+1) f.type (.int kk p) (.int kk p')).run P w=.ok (p==p') w:=by
      cases dd<;>first|(cases ht;done)|skip
      exact run_equalIn_int w depth f.type kk _ p p' hu
     rw[he',Result.andThen_ok]
     cases hpp:(p==p')<;>simp[this]
    ·cases he
   ·rename_i ks' p xs' p' ys' e2 e3 e4
    injection e2 with e2 e7;injection e3 with e3 e5;injection e4 with e4 e6
    subst e2 e3 e4 e5 e6 e7
    have v1:=r1.k9;have v2:=r2.k9
    subst v1 v2
    simp only[Option.map_eq_some_iff] at he
    obtain⟨q',gL,rfl⟩:=he
    have:=Dg q' qj (by omega) (by omega) gL
    have he':(Op.equalIn (depth+1) f.type (.bool p) (.bool p')).run P w=.ok (p==p') w:=by
     cases dd<;>first|(cases ht;done)|skip
     exact run_equalIn_bool w depth f.type p p' hu
    rw[he',Result.andThen_ok]
    cases hpp:(p==p')<;>simp[this]
   ·cases he
theorem acG:∀{ks:List Bool} {as bs:List AV} {q:Bool},cD ks as bs=some q→as.length=bs.length∧as.length=ks.length:=by
 intro ks as bs q h
 induction ks generalizing as bs q with
 |nil=>
  unfold cD at h
  split at h
  ·exact⟨rfl,rfl⟩
  ·rename_i e;cases e
  ·rename_i e;cases e
  ·cases h
 |cons k ks ih=>
  unfold cD at h
  split at h
  ·rename_i e;cases e
  ·rename_i ks' _ _ _ _ _ _ e
   injection e with _ e;subst e
   split at h
   ·simp only[Option.map_eq_some_iff] at h
    obtain⟨q',gL,_⟩:=h
    have:=ih gL
    simp[this.1,←this.2]
   ·cases h
  ·rename_i ks' _ _ _ _ e
   injection e with _ e;subst e
   simp only[Option.map_eq_some_iff] at h
   obtain⟨q',gL,_⟩:=h
   have:=ih gL
   simp[this.1,←this.2]
  ·cases h
theorem Dh{e:TypeId}(h:ny P e=true):∃kd i,P.underlying e=some (.int kd)∧P.info? e=some i∧P.cellsOf e=1:=by
 unfold ny at h
 split at h
 ·rename_i kd i h1 h2
  exact⟨kd,i,h1,h2,by simpa[Program.cellsOf,h2] using h⟩
 ·cases h
theorem Di{e:TypeId}{kd:IntKind}(d:Nat)(he:P.underlying e=some (.int kd))(cB fU:Array Value)(xs ys:List AV)(dR:cB.size=xs.length)(dF:fU.size=ys.length)
  (eS:∀i,RV w A (xs.getD i .any) (cB.getD i undef))(cE:∀i,RV w A (ys.getD i .any) (fU.getD i undef)):∀(m j:Nat) (q:Bool),j+m=xs.length→ys.length=xs.length→cD (List.replicate m false) (xs.drop j) (ys.drop j)=some q→
  (Op.eqItems (d+1) e 1 cB fU (List.range' j m)).run P w=.ok q w
 |0,j,q,h1,h2,h=>by
  rw[List.drop_of_length_le (by omega),List.drop_of_length_le (by omega)] at h
  simp only[List.replicate,cD] at h
  injection h with h;subst h
  rfl
 |m+1,j,q,h1,h2,h=>by
  have hj:j<xs.length:=by omega
  have hj2:j<ys.length:=by omega
  rw[List.drop_eq_getElem_cons hj,List.drop_eq_getElem_cons hj2,List.replicate_succ] at h
  have g1:=eS j;have g2:=cE j
  rw[List.getD_eq_getElem?_getD,List.getElem?_eq_getElem hj,Option.getD_some] at g1
  rw[List.getD_eq_getElem?_getD,List.getElem?_eq_getElem hj2,Option.getD_some] at g2
  have e1:cB[j]? =some (cB.getD j undef):=by rw[Array.getD_eq_getD_getElem?,Array.getElem?_eq_getElem (by omega)];rfl
  have e2:fU[j]? =some (fU.getD j undef):=by rw[Array.getD_eq_getD_getElem?,Array.getElem?_eq_getElem (by omega)];rfl
  have aby:(isAgg e).run P w=.ok false w:=by
   unfold isAgg
   rw[Sem.run_bind,run_underlying he]
   rfl
  have p1:(part e cB (j*1)).run P w=.ok (cB.getD j undef) w:=by simp only[part,Sem.run_bind,aby,Nat.mul_one,e1,Result.andThen_ok];rfl
  have p2:(part e fU (j*1)).run P w=.ok (fU.getD j undef) w:=by simp only[part,Sem.run_bind,aby,Nat.mul_one,e2,Result.andThen_ok];rfl
  generalize xs[j]=x at*
  generalize ys[j]=y at*
  unfold cD at h
  split at h
  ·rename_i e;cases e
  ·rename_i ks k a xs' k' b ys' e3 e4 e5
   injection e3 with _ e3
   injection e4 with e4 e6
   injection e5 with e5 e7
   subst e3 e4 e5 e6 e7
   split at h
   ·rename_i hk;subst hk
    simp only[Option.map_eq_some_iff] at h
    obtain⟨q',gL,rfl⟩:=h
    have v1:=g1.cJ;have v2:=g2.cJ
    rw[v1] at p1;rw[v2] at p2
    have heq:=run_equalIn_int w d e k kd a b he
    have ih:=Di d he cB fU xs ys dR dF eS cE m (j+1) q' (by omega) h2 gL
    rw[List.range'_succ]
    simp only[Op.eqItems,Sem.run_bind,p1,p2,Result.andThen_ok,heq]
    cases hab:(a==b)
    ·simp
    ·simpa using ih
   ·cases h
  ·rename_i e3 _ _;injection e3 with e3;cases e3
  ·cases h
theorem Dj{k e:TypeId}{n:Nat}(hu:P.underlying k=some (.array n e))(hE:ny P e=true){xs ys:List AV}{cB fU:Array Value}(hn:xs.length=n)(dR:cB.size=xs.length)(dF:fU.size=ys.length)(eS:∀i,RV w A (xs.getD i .any) (cB.getD i undef))(cE:∀i,RV w A (ys.getD i .any) (fU.getD i undef)){q:Bool}(he:cD (List.replicate xs.length false) xs ys=some q):(Op.equal k (.agg cB) (.agg fU)).run P w=.ok q w:=by
 obtain⟨kd,i,h1,h2,h3⟩:=Dh hE
 show(Op.equalIn (9999+1) k _ _).run P w=_
 rw[run_equalIn_array (w:=w) 9999 cB fU hu h2,h3,List.range_eq_range']
 have hl:=(acG he).1
 rw[←hn]
 exact Di 9998 h1 cB fU xs ys dR dF eS cE xs.length 0 q (by omega) hl.symm (by simpa using he)
theorem Dk{t t':TypeId}{op:BinOp}{neg:Bool}{n:List Bool}{x y:Operand}{mx my:ai}(hop:o.op=.binOp op t x y t')(hneg:op=(if neg then .neq else .eql))(hd:o.dst=some d)(hN:d<N)
  (hx:aC x=some mx)(hy:aC y=some my)(ht:xG P t=some n)
  (h:RS N s a w A sp)(hv:Z2 P (.aaw d neg n mx my) s K)(hn:Next s w A sp N K next):o.wp P a w next Q:=by
 have h1:=(bf h hx).1
 have h2:=(bf h hy).1
 have arr:∀(m:Nat) (e:TypeId),P.underlying t=some (.array m e)→ny P e=true→P.eqGuardType P.depth t=false→List.replicate m false=n→o.wp P a w next Q:=by
  intro m e hu hE hg ht
  simp only[Z2] at hv
  split at hv
  ·rename_i as bs e1 e2
   obtain⟨l1,l2,q,hq,hK⟩:=hv
   rw[e1] at h1;rw[e2] at h2
   generalize hv1:a.eval x=v1 at h1
   generalize hv2:a.eval y=v2 at h2
   cases h1 with
   |agg _ xs dR eS=>cases h2 with
    |agg _ ys dF cE=>
     have hl:as.length=m:=by rw[l1,←ht];simp
     have heq:=Dj (w:=w) hu hE hl dR dF eS cE (q:=q) (by rw[hl,ht];exact hq)
     have rY:(eqGuard op t x y (.agg xs) (.agg ys)).run P w=.ok () w:=by
      unfold eqGuard
      subst hneg
      cases neg<;>simp[hg]
     refine fin (v:=.bool (if neg then !q else q)) h hd hN ?_ (.lit _ rfl) trivial hK hn
     subst hneg
     cases neg<;>simp only[Bool.false_eq_true,if_false,if_true] at rY hop<;>simp[execOp,hop,hv1,hv2,rY,binOp,heq]
  ·exact hv.elim
 unfold xG at ht
 split at ht
 ·rename_i m e hu
  split at ht
  ·rename_i hc
   injection ht with ht
   simp only[Bool.and_eq_true,Bool.not_eq_true'] at hc
   exact arr m e hu hc.1 hc.2 ht
  ·cases ht
 unfold oB at ht
 split at ht
 ·rename_i fs hu
  split at ht
  ·rename_i hc
   injection ht with ht
   simp only[Bool.and_eq_true,Bool.not_eq_true'] at hc
   obtain⟨⟨hf,hst⟩,hg⟩:=hc
   simp only[Z2] at hv
   split at hv
   ·rename_i as bs e1 e2
    obtain⟨l1,l2,q,hq,hK⟩:=hv
    rw[e1] at h1;rw[e2] at h2
    generalize hv1:a.eval x=v1 at h1
    generalize hv2:a.eval y=v2 at h2
    cases h1 with
    |agg _ xs dR eS=>cases h2 with
     |agg _ ys dF cE=>
      have hfo:P.fieldsOf t=fs:=by simp[Program.fieldsOf,hu]
      have heq:(Op.equal t (.agg xs) (.agg ys)).run P w=.ok q w:=by
       show(Op.equalIn (9999+1) t _ _).run P w=_
       rw[run_equalIn_struct w 9999 t xs ys (by rw[hfo];exact hu) hst,hfo]
       exact xZ (P:=P) (w:=w) 9998 xs ys as bs dR dF eS cE fs.toList (l9 P fs.toList) 0 q hf (by rw[l1,←ht];simp[l9]) (by rw[l2,←ht];simp[l9]) (by rw[ht];simpa using hq)
      have rY:(eqGuard op t x y (.agg xs) (.agg ys)).run P w=.ok () w:=by
       unfold eqGuard
       subst hneg
       cases neg<;>simp[hg]
      refine fin (v:=.bool (if neg then !q else q)) h hd hN ?_ (.lit _ rfl) trivial hK hn
      subst hneg
      cases neg<;>simp only[Bool.false_eq_true,if_false,if_true] at rY hop<;>simp[execOp,hop,hv1,hv2,rY,binOp,heq]
   ·exact hv.elim
  ·cases ht
 ·cases ht
theorem RS.call(h:RS N s a w A sp){w':World}{A':aK}(hf:Fr w w')(h1:∀b o,A b o→A' b o)(h2:∀b o,A' b o→A b o∨(w.heap.size≤b∧b<w'.heap.size)):RS N s a w' A' sp∧Ev w A (live s.loc sp) w' A' (live s.loc sp):=by
 obtain⟨f1,f2,f3,f4,f5⟩:=hf
 have hcell:∀b o,b<w.heap.size→w'.cell? ⟨b,o,none⟩=w.cell? ⟨b,o,none⟩:=fun b o hb=>World.cell?_of_block (f5 b hb)
 refine⟨h.world (fun b o v ha hv=>(hcell b o (h.av b o ha).1).trans hv) h1 (.blocks h1 fun b _ hb=>f5 b hb) (fun b cs hb=>f5 b (h.abT hb)) (fun r hr=> ?_) (fun b o ha=> ?_),f1,f2,f3,f4,fun b o hb hl=>⟨hcell b o hb,hl⟩,fun b hb _=>f5 b hb,h1,fun b o ha=>(h2 b o ha).elim .inl fun e=>.inr (.inr e.1)⟩
 ·obtain⟨⟨vs,T,hv,hs⟩,_⟩:=h.bW r hr
  exact⟨vs,T,(f5 _ (cc hv)).trans hv,hs⟩
 ·rcases h2 b o ha with e|e
  ·exact⟨Nat.lt_of_lt_of_le (h.av b o e).1 f4,(h.av b o e).2⟩
  ·exact⟨e.2,fun hl=>by have:=h.ux hl;omega⟩
theorem x4{f:FuncId}{vs:Array Value}{xs:List AV}{r:AV}(hp:aG P f xs r)(h:RS N s a w A sp)(hd:o.dst=some d)(hN:d<N)
  (hs:vs.size=xs.length)(hr:∀i,RV w A (xs.getD i .any) (vs.getD i undef))(hrun:(execOp a.eval o).run P w=(callFunc f vs).run P w)
  (hK:K (s.set d r.erase))(hn:Next s w A sp N K next):o.wp P a w next Q:=by
 unfold Oper.wp
 have x5:(callFunc f vs).run P w=.ok (.enter f vs) w:=by
  have:=hp.1
  unfold aaP at this
  split at this
  ·rename_i fn hfn
   simp only[Bool.and_eq_true,bne_iff_ne,ne_eq] at this
   unfold callFunc
   simp only[Sem.run_bind,run_program,Result.andThen_ok,hfn]
   have hb:fn.body.isNone=false:=by cases oH:fn.body with
    |none=>rw[oH] at this;simp at this
    |some c=>rfl
   have hnm:(fn.name== "runtime.NumGoroutine")=false:=by simpa using this.1
   rw[hnm,hb]
   rfl
  ·cases this
 rw[hrun,x5,Oper.upon_enter]
 refine(hp.2 w A vs (fun b o ha=>(h.av b o ha).1) hs hr).mono ?_
 rintro e w' ⟨v,A',rfl,hf,g1,g2,g3⟩
 obtain⟨k1,k2⟩:=h.call hf g1 g2
 rw[hd]
 exact hn _ _ _ _ _ hK (k1.put hN g3.erase .erase) k2
theorem MM{f:FuncId}{xs:Array Operand}{ts:Array TypeId}{ms:List ai}(hop:o.op=.call {callee:=.value (.func f),args:=xs,argTypes:=ts})(hd:o.dst=some d)(hN:d<N)(hx:aaE P xs.toList ts.toList=some ms)(h:RS N s a w A sp)(hv:Z2 P (.call d f ms) s K)(hn:Next s w A sp N K next):o.wp P a w next Q:=by
 obtain⟨a1,a2⟩:=l_ h hx
 obtain⟨r,hp,hK⟩:=hv
 refine x4 (vs:=xs.map a.eval) hp h hd hN (by simp[a1]) (fun i=> ?_) ?_ hK hn
 ·have:=a2 i
  simpa[List.getD_eq_getElem?_getD,Array.getD_eq_getD_getElem?] using this
 ·simp[execOp,hop,resolve,Act.eval,Deferred.ofValue,invoke]
theorem MN{f:FuncId}{xs:Array Operand}{ts:Array TypeId}{ms:List ai}(hop:o.op=.call {callee:=.value (.func f),args:=xs,argTypes:=ts})(hd:o.dst=some d)(hN:d<N)(hx:qb xs.toList=some ms)(h:RS N s a w A sp)(hv:Z2 P (.call d f ms) s K)(hn:Next s w A sp N K next):o.wp P a w next Q:=by
 obtain⟨a1,a2⟩:=C1 h hx
 obtain⟨r,hp,hK⟩:=hv
 refine x4 (vs:=xs.map a.eval) hp h hd hN (by simp[a1]) (fun i=> ?_) ?_ hK hn
 ·have:=a2 i
  simpa[List.getD_eq_getElem?_getD,Array.getD_eq_getD_getElem?] using this
 ·simp[execOp,hop,resolve,Act.eval,Deferred.ofValue,invoke]
theorem lp{α:Type}(x y z:List α)(i:Nat)(d:α):(x++y++z).getD i d=if i<x.length then x.getD i d else if i - x.length<y.length then y.getD (i - x.length) d else z.getD (i - x.length - y.length) d:=by
 simp only[List.getD_eq_getElem?_getD]
 split
 ·rw[List.append_assoc,List.getElem?_append_left ‹_›]
 ·split
  ·rw[List.append_assoc,List.getElem?_append_right (by omega),List.getElem?_append_left ‹_›]
  ·rw[List.getElem?_append_right (by simp;omega)]
   simp only[List.length_append]
   rw[Nat.sub_sub]
theorem MO{t:Tmp}{xs:Array Operand}{ts:Array TypeId}{ms:List ai}(hop:o.op=.call {callee:=.value (.tmp t),args:=xs,argTypes:=ts})(hd:o.dst=some d)(hN:d<N)(hx:aaE P xs.toList ts.toList=some ms)(h:RS N s a w A sp)(hv:Z2 P (.aak d (.t t) ms) s K)(hn:Next s w A sp N K next):o.wp P a w next Q:=by
 obtain⟨a1,a2⟩:=l_ h hx
 have h1:=(h.env t).1
 simp only[Z2] at hv
 split at hv
 ·rename_i f fs cs e1
  obtain⟨r,hp,hK⟩:=hv
  replace e1:s.env t=.func (.func f) fs cs:=e1
  rw[e1] at h1
  generalize aR:a.tmps.getD t undef=v0 at h1
  cases h1 with
  |func _ _ _ vf vc eJ hsc hf hc=>
   refine x4 (vs:=vf++xs.map a.eval++vc) hp h hd hN (by simp[a1,eJ,hsc]) (fun i=> ?_) ?_ hK hn
   ·have e2:=lp vf.toList (xs.map a.eval).toList vc.toList i undef
    have e3:=lp fs (ms.map fun x=>(x.ev s.env).erase) cs i .any
    have e4:(vf++xs.map a.eval++vc).getD i undef=(vf.toList++(xs.map a.eval).toList++vc.toList).getD i undef:=by simp[List.getD_eq_getElem?_getD,Array.getD_eq_getD_getElem?,Array.getElem?_append,List.getElem?_append]
    rw[e4,e2,e3]
    simp only[Array.length_toList,eJ,Array.size_map,List.length_map,a1]
    split
    ·have:=hf i
     simpa[List.getD_eq_getElem?_getD,Array.getD_eq_getD_getElem?] using this
    ·split
     ·have:=a2 (i - fs.length)
      simpa[List.getD_eq_getElem?_getD,Array.getD_eq_getD_getElem?] using this
     ·have:=hc (i - fs.length - xs.size)
      simpa[List.getD_eq_getElem?_getD,Array.getD_eq_getD_getElem?] using this
   ·simp[execOp,hop,resolve,Act.eval,aR,Deferred.ofValue,invoke]
 ·exact hv.elim
end
end Go.Z4
namespace Go.Z4
open Go.RowKit
section
variable {P:Program} {N:Nat} {s:St} {a:Act} {w:World} {A:aK} {sp:Sp} {K:St→Prop} {next:Act→World→Prop} {Q:Exit→Act→World→Prop} {o:Oper} {d:Nat}
theorem uT(z:List AV):∀(n i:Nat),(List.replicate n z).flatten.getD i .any=if i<n*z.length then z.getD (i%z.length) .any else .any
 |0,i=>by simp
 |n+1,i=>by
  rw[List.replicate_succ,List.flatten_cons]
  by_cases h:i<z.length
  ·rw[if_pos (by rw[Nat.add_mul];omega),Nat.mod_eq_of_lt h]
   simp only[List.getD_eq_getElem?_getD]
   rw[List.getElem?_append_left h]
  ·have h':z.length≤i:=by omega
   have:=uT z n (i - z.length)
   simp only[List.getD_eq_getElem?_getD] at this⊢
   rw[List.getElem?_append_right h',this]
   have e1:(i - z.length)%z.length=i%z.length:=by conv=>rhs;rw[←Nat.sub_add_cancel h',Nat.add_mod_right]
   rw[e1]
   by_cases h2:i<(n+1)*z.length
   ·rw[if_pos h2,if_pos (by rw[Nat.add_mul] at h2;omega)]
   ·rw[if_neg h2,if_neg (by rw[Nat.add_mul] at h2;omega)]
theorem Dl(z:List AV)(n:Nat):(List.replicate n z).flatten.length=n*z.length:=by
 induction n with
 |zero=>simp
 |succ n ih=>rw[List.replicate_succ,List.flatten_cons,List.length_append,ih,Nat.add_mul];omega
theorem MP{t e:TypeId}{l c:Operand}{ml mc:ai}{i:TypeInfo}{z:List AV}(hop:o.op=.makeSlice t l c)(hd:o.dst=some d)(hN:d<N)(ht:P.underlying t=some (.slice e))(hi:P.info? e=some i)
  (hl:aC l=some ml)(hc:aC c=some mc)(hz:jc P e z=true)
  (h:RS N s a w A sp)(hv:Z2 P (.dL d ml mc i.size i.bytes z) s K)(hn:Next s w A sp N K next):o.wp P a w next Q:=by
 obtain⟨i',v,hi',mj,hs,hsz,hr,hc1⟩:=ab7 (w:=w) (A:=A) hz
 rw[hi] at hi';injection hi' with hi';subst hi'
 have h1:=(bf h hl).1
 have h2:=(bf h hc).1
 simp only[Z2] at hv
 split at hv
 ·rename_i n c e1 e2
  obtain⟨c1,c2,c3,c4,c5,hK⟩:=hv
  rw[e1] at h1;rw[e2] at h2
  have v1:=h1.cJ;have v2:=h2.cJ
  have hcell:∀k,RV w A ((List.replicate c.toNat z).flatten.getD k .any) ((madeCells v.cells (c.toNat*i.size)).getD k undef)∧bV sp ((List.replicate c.toNat z).flatten.getD k .any) ((madeCells v.cells (c.toNat*i.size)).getD k undef):=by
   intro k
   rw[uT]
   split
   ·rename_i hk
    have oC:0<z.length:=by
     rcases Nat.eq_zero_or_pos z.length with e|e
     ·rw[e] at hk;simp at hk
     ·exact e
    have e3:(madeCells v.cells (c.toNat*i.size)).getD k undef=v.cells.getD (k%z.length) undef:=by
     have hm:k%z.length<v.cells.size:=by rw[hs];exact Nat.mod_lt _ oC
     unfold madeCells
     rw[Array.getD_eq_getD_getElem?,Array.getElem?_map,Array.getElem?_range,if_pos (by rw[←hsz];exact hk)]
     simp only[Option.map_some,Option.getD_some]
     rw[Array.getD_eq_getD_getElem?,←hs,Array.getElem?_eq_getElem (by rw[hs];rw[hs] at hm;exact hm),getElem!_pos _ _ (by rw[hs];rw[hs] at hm;exact hm)]
     rfl
    rw[e3]
    exact⟨hr _,C3 hc1 _⟩
   ·exact⟨.any _,trivial⟩
  refine fin' (h.rS (cs:=(List.replicate c.toNat z).flatten) e (by rw[size_madeCells,Dl,hsz]) hcell) (RS.rT _ _) hd hN ?_ (.aq w.heap.size 0 n.toNat c.toNat i.size (by omega)) trivial (hK _ h.fresh) hn
  have:=run_make (P:=P) w t e i v ht hi mj .i64 .i64 n c c1 c2 (by rw[Int.mul_comm];omega) (by omega)
  simp[execOp,hop,v1,v2,this]
 ·exact hv.elim
theorem Dm{dT sT ty e:TypeId}{i:TypeInfo}{b off dLen dCap:Nat}{sb:Option Addr}{sLen sCap:Nat}{cur:Array Value}{T:TypeId}{cs:List Value}(ht:P.underlying dT=some (.slice e))(hi:P.info? e=some i)
  (hg:w.heap[b]? =some (.cells cur T (0,0)))(hn:cs.length=Nat.min sLen dLen*i.size)(hsrc:∀q,sb=some q→∀j v,cs[j]? =some v→w.cell? (q.add j)=some v)(x6:sb=none→cs=[])
  (hfit:off+cs.length≤cur.size)(h1:∀v∈cs,v.oneCell'=true):
  (Builtin.copy_ #[dT,sT] ty #[.slice (some ⟨b,off,none⟩) dLen dCap,.slice sb sLen sCap]).run P w=.ok (goInt (Nat.min sLen dLen)) (w.setRow b (cur.toList.take off++cs++cur.toList.drop (off+cs.length)).toArray):=by
 have hst:=run_storeCells_at P b off T cs 0 cur w hg (by simpa using hfit) h1
 simp only[Nat.add_zero] at hst
 cases sb with
 |none=>
  have:=x6 rfl
  subst this
  simp only[List.append_nil,List.length_nil,Nat.add_zero] at hst hn⊢
  have hcap:∀c,(Builtin.firstCells i.size (Nat.min sLen dLen) (.slice none sLen c)).run P w=.ok #[] w:=by intro c;simp[Builtin.firstCells]
  simp[Builtin.copy_,run_underlying ht,Builtin.lenOf,sizeOf,typeInfo,hi,hcap,hst]
 |some q=>
  have hl:=run_firstCells_some (P:=P) w i.size (Nat.min sLen dLen) q sLen sCap cs hn (hsrc q rfl)
  simp[Builtin.copy_,run_underlying ht,Builtin.lenOf,sizeOf,typeInfo,hi,hl,hst]
theorem MQ{t t' e:TypeId}{i:TypeInfo}{x y:Operand}{mx my:ai}(hop:o.op=.call {callee:=.builtin .copy,args:= #[x,y],argTypes:= #[t,t']})(hd:o.dst=some d)(hN:d<N)
  (hx:aC x=some mx)(hy:aC y=some my)(ht:P.underlying t=some (.slice e))(hi:P.info? e=some i)
  (h:RS N s a w A sp)(hv:Z2 P (.j_ d mx my i.size) s K)(hn:Next s w A sp N K next):o.wp P a w next Q:=by
 have h1:=(bf h hx).1
 have h2:=(bf h hy).1
 have hex:∀v w',(Builtin.copy_ #[t,t'] o.type #[a.eval x,a.eval y]).run P w=.ok v w'→(execOp a.eval o).run P w=.ok (.value v) w':=by
  intro v w' hr
  simp[execOp,hop,resolve,invoke,builtin,hr]
 simp only[Z2] at hv
 split at hv
 ·rename_i b off len cap sz' b_ ys r e1 e2
  split at hv
  ·rename_i cs hb
   obtain⟨rfl,dF,hoff,hK⟩:=hv
   rw[e1] at h1;rw[e2] at h2
   obtain⟨vs,T,hh,hsz,hr⟩:=h.loc b cs hb
   generalize aR:a.eval x=v0 at h1 hex
   cases h1 with
   |aq _ _ _ _ _ hlc=>
    have hY:=h2.uM dF
    generalize hv1:a.eval y=v1 at hY hex
    have main:∀(sb:Option Addr) (cp:Nat) (us:List Value),us.length=ys.length*i.size→(∀q,sb=some q→∀j v,us[j]? =some v→w.cell? (q.add j)=some v)→(sb=none→us=[])→(∀j,RV w A ((ys.flatMap AV.cells).getD j .any) (us.getD j undef))→(∀x∈ys,x.cells.length=i.size)→(∀x∈ys,x.cells.all AV.bE=true)→v1=.slice sb ys.length cp→o.wp P a w next Q:=by
     intro sb cp us uO MR MS uP Dn hy1 he
     subst he
     have hmin:Nat.min ys.length len≤ys.length:=Nat.min_le_left _ _
     have hmul:Nat.min ys.length len*i.size≤ys.length*i.size:=Nat.mul_le_mul_right _ hmin
     have Zi:Nat.min ys.length len*i.size≤len*i.size:=Nat.mul_le_mul_right _ (Nat.min_le_right _ _)
     have cw:(us.take (Nat.min ys.length len*i.size)).length=Nat.min ys.length len*i.size:=by simp;omega
     have hfl:((ys.take (min ys.length len)).flatMap AV.cells)=(ys.flatMap AV.cells).take (min ys.length len*i.size):=uG AV.cells i.size ys _ Dn
     have fS:(ys.flatMap AV.cells).length=ys.length*i.size:=gp _ _ Dn
     have fT:((ys.take (min ys.length len)).flatMap AV.cells).length=Nat.min ys.length len*i.size:=by rw[hfl,List.length_take,fS];exact Nat.min_eq_left hmul
     have h1c:∀v∈us.take (Nat.min ys.length len*i.size),v.oneCell'=true:=by
      intro v hv
      obtain⟨k,hk,rfl⟩:=List.getElem_of_mem (List.mem_of_mem_take hv)
      have hk':k<(ys.flatMap AV.cells).length:=by omega
      have h3:=uP k
      rw[List.getD_eq_getElem?_getD,List.getElem?_eq_getElem hk',List.getD_eq_getElem?_getD,List.getElem?_eq_getElem hk] at h3
      refine h3.uI ?_
      obtain⟨z,hz,rZ⟩:=List.mem_flatMap.1 (List.getElem_mem hk')
      exact(List.all_eq_true.1 (hy1 z hz)) _ rZ
     have hrun:=Dm (P:=P) (w:=w) (dT:=t) (sT:=t') (ty:=o.type) (dLen:=len) (dCap:=cap) (sb:=sb) (sLen:=ys.length) (sCap:=cp) (off:=off) ht hi hh cw
      (fun q hq j v hj=>by
        rw[List.getElem?_take] at hj
        split at hj
        ·exact MR q hq j v hj
        ·cases hj) (fun hn=>by rw[MS hn];simp) (by rw[cw];omega) h1c
     rw[cw] at hrun
     have hrow:∀k,RV w A ((splice cs off (((ys.take (min ys.length len)).flatMap AV.cells).map AV.erase0)).getD k .any) ((vs.toList.take off++us.take (Nat.min ys.length len*i.size)++vs.toList.drop (off+Nat.min ys.length len*i.size)).toArray.getD k undef)∧bV sp ((splice cs off (((ys.take (min ys.length len)).flatMap AV.cells).map AV.erase0)).getD k .any) ((vs.toList.take off++us.take (Nat.min ys.length len*i.size)++vs.toList.drop (off+Nat.min ys.length len*i.size)).toArray.getD k undef):=by
      intro k
      have e:=oD vs (us.take (Nat.min ys.length len*i.size)) off k (by rw[cw];omega)
      rw[cw] at e
      rw[e,ld _ _ _ _ (by rw[List.length_map,fT];omega),List.length_map,fT]
      split
      ·rename_i hk
       rw[gj,hfl]
       have h3:=uP (k - off)
       have hk2:k - off<min ys.length len*i.size:=by have:min ys.length len=Nat.min ys.length len:=rfl;rw[this];omega
       have e3:((ys.flatMap AV.cells).take (min ys.length len*i.size)).getD (k - off) .any=(ys.flatMap AV.cells).getD (k - off) .any:=by simp only[List.getD_eq_getElem?_getD,List.getElem?_take,hk2,if_true]
       have e4:(us.take (Nat.min ys.length len*i.size)).getD (k - off) undef=us.getD (k - off) undef:=by
        have hk3:k - off<Nat.min ys.length len*i.size:=hk2
        simp only[List.getD_eq_getElem?_getD,List.getElem?_take,hk3,if_true]
       rw[e3,e4]
       exact⟨h3.erase0,.erase0⟩
      ·exact hr k
     refine fin' (h.setRow hb hh ?_ hrow) (RS.oE _ _ hb) hd hN (hex _ _ hrun) (.lit _ rfl) trivial hK hn
     rw[jL]
     simp only[List.size_toArray,List.length_append,List.length_take,List.length_drop,Array.length_toList]
     have:=cw
     simp only[List.length_take] at this
     omega
    cases hY with
    |cH=>exact main none 0 [] (by simp) (fun q hq=>by cases hq) (fun _=>rfl) (fun j=>by simp;exact .any _) (by simp) (by simp) rfl
    |slice _ _ _ b' off' cap' vs' gr hH me abx hcy hry=>
     obtain⟨g1,g2,_,_,_,us,g3,g4,g5⟩:=(RV.slice (w:=w) (A:=A) i.size ys r b' off' cap' vs' gr hH me abx hcy hry).cellsOf
     exact main (some ⟨b',off',none⟩) cap' us g3 (fun q hq j v hj=>by injection hq with hq;subst hq;rw[Addr.fK];exact(g4 j v hj).1) (fun e=>by cases e) g5 g1 g2 rfl
  ·exact hv.elim
 ·exact hv.elim
end
end Go.Z4
namespace Go.Z4
open Go.RowKit
section
variable {P:Program} {N:Nat} {s:St} {a:Act} {w:World} {A:aK} {sp:Sp} {K:St→Prop} {next:Act→World→Prop} {Q:Exit→Act→World→Prop} {o:Oper} {d:Nat}
theorem MT{t e:TypeId}{n:Nat}{ps:Array (Nat×Operand)}{i:TypeInfo}{z:List AV}(hop:o.op=.buildSlice t n ps)(hd:o.dst=some d)(hN:d<N)(ht:P.underlying t=some (.slice e))(hi:P.info? e=some i)
  (hz:jc P e z=true)(hn0:n=0)(hps:ps.isEmpty=true)
  (h:RS N s a w A sp)(hv:Z2 P (.dL d (.c (.lit (.int .i64 0))) (.c (.lit (.int .i64 0))) i.size i.bytes z) s K)(hn:Next s w A sp N K next):o.wp P a w next Q:=by
 obtain⟨i',v,hi',mj,hs,hsz,hr,hc1⟩:=ab7 (w:=w) (A:=A) hz
 rw[hi] at hi';injection hi' with hi';subst hi'
 subst hn0
 have MU:ps= #[]:=by simpa using hps
 subst MU
 have hK:∀b,s.loc b=none→K ((s.new b []).set d (.aq b 0 0 0 i.size)):=fun b hb=>hv.2.2.2.2.2 b hb
 have hb:(Instr.buildSlice t 0 #[]).run P w=.ok (.slice (some ⟨w.heap.size,0,none⟩) 0 0) (w.alloc (.cells #[] e)):=by
  unfold Instr.buildSlice
  simp only[sizeOf,typeInfo,Sem.run_bind,run_program,Result.andThen_ok,hi,Sem.run_pure,run_underlying ht,Nat.zero_mul,Nat.not_lt_zero,gt_iff_lt,if_false,if_true]
  have e1:Array.map (fun k=>(#[]:Array Value)[k%(#[]:Array Value).size]!) (Array.range 0)= #[]:=by simp
  rw[e1]
  rfl
 refine fin' (h.rS (cs:=[]) (vs:= #[]) e rfl (fun k=>⟨by simp;exact .any _,trivial⟩)) (RS.rT _ _) hd hN ?_ (.aq w.heap.size 0 0 0 i.size (Nat.le_refl _)) trivial (hK _ h.fresh) hn
 have nD:((#[]:Array (Nat×Operand)).map fun x=>(x.1,a.eval x.2))= #[]:=by simp
 simp only[execOp,hop,nD,Sem.run_bind,hb,Result.andThen_ok,Sem.run_pure]
theorem MV{v:Value}{z:List AV}{n:Nat}(hs:v.cells.size=z.length)(hr:∀k,RV w A (z.getD k .any) (v.cells.getD k undef))(k:Nat):RV w A ((List.replicate n z).flatten.getD k .any) ((Builtin.zeroCells v.cells n).toList.getD k undef):=by
 rw[uT]
 split
 ·rename_i hk
  have oC:0<z.length:=by
   rcases Nat.eq_zero_or_pos z.length with e|e
   ·rw[e] at hk;simp at hk
   ·exact e
  have hm:k%z.length<v.cells.size:=by rw[hs];exact Nat.mod_lt _ oC
  have e3:(Builtin.zeroCells v.cells n).toList.getD k undef=v.cells.getD (k%z.length) undef:=by
   unfold Builtin.zeroCells
   rw[List.getD_eq_getElem?_getD,Array.getElem?_toList,Array.getElem?_map,Array.getElem?_range,if_pos (by rw[hs];exact hk)]
   simp only[Option.map_some,Option.getD_some]
   rw[Array.getD_eq_getD_getElem?,Array.getElem?_eq_getElem hm]
   rw[getElem!_pos _ _ (by rw[hs];rw[hs] at hm;exact hm)]
   simp only[hs,Option.getD_some]
  rw[e3]
  exact hr _
 ·exact .any _
theorem MW(v:Value)(n:Nat):(Builtin.zeroCells v.cells n).toList.length=n*v.cells.size:=by simp[Builtin.zeroCells]
theorem MX{t e:TypeId}{i:TypeInfo}{z:List AV}{x y:Operand}{mx my:ai}(hop:o.op=.call {callee:=.builtin .append,args:= #[x,y],argTypes:= #[t,t]})(hd:o.dst=some d)(hN:d<N)
  (hx:aC x=some mx)(hy:aC y=some my)(ht:P.underlying t=some (.slice e))(hi:P.info? e=some i)(hz:jc P e z=true)
  (h:RS N s a w A sp)(hv:Z2 P (.aaY d mx my i.size i.bytes z) s K)(hn:Next s w A sp N K next):o.wp P a w next Q:=by
 obtain⟨i',v,hi',mj,hs,hsz,MY,hc1⟩:=ab7 (w:=w) (A:=A) hz
 rw[hi] at hi';injection hi' with hi';subst hi'
 have h1:=(bf h hx).1
 have h2:=(bf h hy).1
 have hex:∀v w',(Builtin.append_ #[t,t] o.type #[a.eval x,a.eval y]).run P w=.ok v w'→(execOp a.eval o).run P w=.ok (.value v) w':=by
  intro v w' hr
  simp[execOp,hop,resolve,invoke,builtin,hr]
 have grow:∀(b:Nat) (os:List AV) (olds:List Value) (ys:List AV) (news:List Value) (n q:Nat),olds.length=os.length→(∀k,RV w A (os.getD k .any) (olds.getD k undef))→
   news.length=(ys.flatMap AV.cells).length→(∀k,RV w A ((ys.flatMap AV.cells).getD k .any) (news.getD k undef))→
   (Builtin.append_ #[t,t] o.type #[a.eval x,a.eval y]).run P w=.ok (.slice (some ⟨w.heap.size,0,none⟩) n (n+q)) (w.drew.alloc (.cells (olds.toArray++news.toArray++Builtin.zeroCells v.cells q) e))→
   K ((s.new w.heap.size (os.map AV.erase0++((ys.flatMap AV.cells).map AV.erase0++(List.replicate q z).flatten))).set d (.aq w.heap.size 0 n (n+q) i.size))→o.wp P a w next Q:=by
  intro b os olds ys news n q jf hJ dG gM hrun hK
  have hcell:∀k,RV w.drew A ((os.map AV.erase0++((ys.flatMap AV.cells).map AV.erase0++(List.replicate q z).flatten)).getD k .any) ((olds.toArray++news.toArray++Builtin.zeroCells v.cells q).getD k undef)∧bV sp ((os.map AV.erase0++((ys.flatMap AV.cells).map AV.erase0++(List.replicate q z).flatten)).getD k .any) ((olds.toArray++news.toArray++Builtin.zeroCells v.cells q).getD k undef):=by
   intro k
   have e3:(olds.toArray++news.toArray++Builtin.zeroCells v.cells q).getD k undef=if k<olds.length then olds.getD k undef else if k - olds.length<news.length then news.getD (k - olds.length) undef else (Builtin.zeroCells v.cells q).toList.getD (k - olds.length - news.length) undef:=by
    rw[Array.getD_eq_getD_getElem?,←Array.getElem?_toList]
    simp only[Array.toList_append,List.append_assoc,List.getD_eq_getElem?_getD]
    split
    ·rw[List.getElem?_append_left ‹_›]
    ·rw[List.getElem?_append_right (by omega)]
     split
     ·rw[List.getElem?_append_left ‹_›]
     ·rw[List.getElem?_append_right (by omega)]
   rw[e3,List.getD_eq_getElem?_getD]
   by_cases hk:k<olds.length
   ·rw[if_pos hk,List.getElem?_append_left (by rw[List.length_map];omega),←List.getD_eq_getElem?_getD,gj]
    exact⟨(hJ k).drew.erase0,.erase0⟩
   ·rw[if_neg hk,List.getElem?_append_right (by rw[List.length_map];omega),List.length_map,←jf]
    by_cases hk2:k - olds.length<news.length
    ·rw[if_pos hk2,List.getElem?_append_left (by rw[List.length_map];omega),←List.getD_eq_getElem?_getD,gj]
     exact⟨(gM _).drew.erase0,.erase0⟩
    ·rw[if_neg hk2,List.getElem?_append_right (by rw[List.length_map];omega),←List.getD_eq_getElem?_getD]
     simp only[List.length_map,←dG]
     refine⟨(MV hs MY _).drew,?_⟩
     rw[uT]
     split
     ·exact C3 hc1 _
     ·trivial
  refine fin' (h.drew.rS (cs:=os.map AV.erase0++((ys.flatMap AV.cells).map AV.erase0++(List.replicate q z).flatten)) e ?_ hcell) ((Ev.drew _).trans (RS.rT _ _)) hd hN (hex _ _ hrun) (.aq w.heap.size 0 n (n+q) i.size (by omega)) trivial hK hn
  rw[←Array.length_toList]
  simp only[Array.toList_append,List.length_append,MW,Dl,List.length_map,hs,dG,jf]
  omega
 simp only[Z2] at hv
 split at hv
 ·rename_i b off len cap sz' b_ ys r2 e1 e2
  obtain⟨dR,dF,hne,hbytes,hlen,hK⟩:=hv
  rw[e1] at h1;rw[e2] at h2
  subst dF
  have fS:0<ys.length:=List.length_pos_iff.2 hne
  generalize Dp:a.eval x=vx at h1 hex grow
  cases h1 with
  |aq _ _ _ _ _ hlc=>
   generalize qi:a.eval y=vy at h2 hex grow
   cases h2 with
   |cH=>exact absurd rfl hne
   |slice _ _ _ b' off' cap' vs' gr hH me abx hcy hry=>
    have rW:=(RV.slice (w:=w) (A:=A) i.size ys r2 b' off' cap' vs' gr hH me abx hcy hry).cellsOf
    obtain⟨_,_,_,_,_,news,dG,hnc,gM⟩:=rW
    have hnews:∀j u,news[j]? =some u→w.cell? ((⟨b',off',none⟩:Addr).add j)=some u:=fun j u hj=>by rw[Addr.fK];exact(hnc j u hj).1
    have fT:=gp i.size ys gr
    by_cases hcap:cap=0
    ·rw[if_pos hcap] at hK
     obtain rfl:len=0:=by omega
     subst hcap
     have hrun:=run_append_grow (P:=P) w t o.type e i v ht hi mj ⟨b,off,none⟩ 0 0 [] (by simp) (by simp) ⟨b',off',none⟩ ys.length cap' news dG hnews (by omega) (by omega) (growslice_fits (by omega) (by simpa using hbytes))
     rw[Nat.zero_add] at hrun
     have hge:=grownCap_ge w ys.length 0 e
     obtain⟨r,hr⟩:∃r,grownCap w ys.length 0 e=ys.length+r:=⟨grownCap w ys.length 0 e - ys.length,by omega⟩
     rw[hr,Nat.add_sub_cancel_left] at hrun
     refine grow b [] [] ys news ys.length r rfl (fun k=>by simp;exact .any _) (by rw[dG,fT]) gM hrun ?_
     rw[dR] at*
     exact hK w.heap.size r h.fresh
    ·rw[if_neg hcap] at hK
     split at hK
     ·rename_i cs hb
      obtain⟨hfit,hin,hout⟩:=hK
      obtain⟨vs,T,hh,hsz,hr⟩:=h.loc b cs hb
      have hk:(len+ys.length)*i.size=len*i.size+ys.length*i.size:=Nat.add_mul _ _ _
      by_cases hroom:len+ys.length≤cap
      ·have hin:=hin hroom
       have hmul:(len+ys.length)*i.size≤cap*i.size:=Nat.mul_le_mul_right _ hroom
       have hone:=RV.xV hH (by rw[dG,fT]) gM
       have hrun:=xS (P:=P) (w:=w) t o.type e i ht hi b off len cap vs T hh ⟨b',off',none⟩ ys.length cap' news dG hnews hone hroom (by omega)
       have hrow:∀k,RV w A ((splice cs (off+len*i.size) ((ys.flatMap AV.cells).map AV.erase0)).getD k .any) ((vs.toList.take (off+len*i.size)++news++vs.toList.drop (off+len*i.size+news.length)).toArray.getD k undef)∧bV sp ((splice cs (off+len*i.size) ((ys.flatMap AV.cells).map AV.erase0)).getD k .any) ((vs.toList.take (off+len*i.size)++news++vs.toList.drop (off+len*i.size+news.length)).toArray.getD k undef):=by
        intro k
        rw[oD vs news (off+len*i.size) k (by omega),ld _ _ _ _ (by rw[List.length_map,fT];omega),List.length_map,fT,←dG]
        split
        ·rw[gj]
         exact⟨(gM _).erase0,.erase0⟩
        ·exact hr k
       refine fin' (h.setRow hb hh ?_ hrow) (RS.oE _ _ hb) hd hN (hex _ _ hrun) (.aq b off (len+ys.length) cap sz' hroom) trivial ?_ hn
       ·rw[jL]
        simp only[List.size_toArray,List.length_append,List.length_take,List.length_drop,Array.length_toList]
        omega
       ·rw[dR]
        exact hin
      ·have hout:=hout (by omega)
       have hmul:len*i.size≤cap*i.size:=Nat.mul_le_mul_right _ hlc
       have jf:((vs.toList.drop off).take (len*i.size)).length=len*i.size:=by rw[List.length_take,List.length_drop,Array.length_toList];omega
       have holds:∀j u,((vs.toList.drop off).take (len*i.size))[j]? =some u→w.cell? ((⟨b,off,none⟩:Addr).add j)=some u:=fun j u hj=>by
        rw[Addr.fK]
        have hjl:=(List.getElem?_eq_some_iff.1 hj).1
        rw[List.getElem?_take_of_lt (by omega),List.getElem?_drop] at hj
        simp only[World.cell?,hh]
        simpa using hj
       have hrun:=run_append_grow (P:=P) w t o.type e i v ht hi mj ⟨b,off,none⟩ len cap _ jf holds ⟨b',off',none⟩ ys.length cap' news dG hnews (by omega) (by omega) (growslice_fits (by omega) hbytes)
       have hge:=grownCap_ge w (len+ys.length) cap e
       obtain⟨r,hr'⟩:∃r,grownCap w (len+ys.length) cap e=len+ys.length+r:=⟨grownCap w (len+ys.length) cap e - (len+ys.length),by omega⟩
       rw[hr',Nat.add_sub_cancel_left] at hrun
       refine grow b ((cs.drop off).take (len*i.size)) _ ys news (len+ys.length) r (by rw[jf,List.length_take,List.length_drop];omega) (fun k=> ?_) (by rw[dG,fT]) gM hrun ?_
       ·by_cases hk2:k<len*i.size
        ·have g:=(hr (off+k)).1
         have e3:((cs.drop off).take (len*i.size)).getD k .any=cs.getD (off+k) .any:=by
          simp only[List.getD_eq_getElem?_getD]
          rw[List.getElem?_take_of_lt hk2,List.getElem?_drop]
         have e4:((vs.toList.drop off).take (len*i.size)).getD k undef=vs.getD (off+k) undef:=by
          simp only[List.getD_eq_getElem?_getD,Array.getD_eq_getD_getElem?]
          rw[List.getElem?_take_of_lt hk2,List.getElem?_drop,Array.getElem?_toList]
         rw[e3,e4]
         exact g
        ·have e3:((cs.drop off).take (len*i.size)).getD k .any=.any:=by
          simp only[List.getD_eq_getElem?_getD]
          rw[List.getElem?_eq_none (by rw[List.length_take];omega)]
          rfl
         rw[e3]
         exact .any _
       ·rw[dR] at*
        exact hout w.heap.size r h.fresh
     ·exact hK.elim
 ·rename_i b_ ys r2 e1 e2
  obtain⟨dF,hne,hbytes,hlen,hK⟩:=hv
  rw[e1] at h1;rw[e2] at h2
  subst dF
  have fS:0<ys.length:=List.length_pos_iff.2 hne
  generalize Dp:a.eval x=vx at h1 hex grow
  cases h1 with
  |lit _ _=>
   generalize qi:a.eval y=vy at h2 hex grow
   cases h2 with
   |cH=>exact absurd rfl hne
   |slice _ _ _ b' off' cap' vs' gr hH me abx hcy hry=>
    have rW:=(RV.slice (w:=w) (A:=A) i.size ys r2 b' off' cap' vs' gr hH me abx hcy hry).cellsOf
    obtain⟨_,_,_,_,_,news,dG,hnc,gM⟩:=rW
    have hnews:∀j u,news[j]? =some u→w.cell? ((⟨b',off',none⟩:Addr).add j)=some u:=fun j u hj=>by rw[Addr.fK];exact(hnc j u hj).1
    have fT:=gp i.size ys gr
    have hrun:=run_append_nil (P:=P) w t o.type e i v ht hi mj ⟨b',off',none⟩ ys.length cap' news dG hnews fS (by omega) (by omega)
    have hge:=grownCap_ge w ys.length 0 e
    obtain⟨r,hr⟩:∃r,grownCap w ys.length 0 e=ys.length+r:=⟨grownCap w ys.length 0 e - ys.length,by omega⟩
    rw[hr,Nat.add_sub_cancel_left] at hrun
    exact grow 0 [] [] ys news ys.length r rfl (fun k=>by simp;exact .any _) (by rw[dG,fT]) gM (by rw[hrun,show([]:List Value).toArray++news.toArray=news.toArray by simp]) (hK w.heap.size r h.fresh)
 ·exact hv.elim
theorem MZ{t e:TypeId}{i:TypeInfo}{x y:Operand}{mx my:ai}(hop:o.op=.call {callee:=.builtin .append,args:= #[x,y],argTypes:= #[t,t]})(hd:o.dst=some d)(hN:d<N)
  (hx:aC x=some mx)(hy:aC y=some my)(ht:P.underlying t=some (.slice e))(hi:P.info? e=some i)
  (h:RS N s a w A sp)(hv:Z2 P (.nv d mx my i.size) s K)(hn:Next s w A sp N K next):o.wp P a w next Q:=by
 have h1:=(bf h hx).1
 have h2:=(bf h hy).1
 have hex:∀v w',(Builtin.append_ #[t,t] o.type #[a.eval x,a.eval y]).run P w=.ok v w'→(execOp a.eval o).run P w=.ok (.value v) w':=by
  intro v w' hr
  simp[execOp,hop,resolve,invoke,builtin,hr]
 simp only[Z2] at hv
 split at hv
 ·rename_i b off len cap sz' b_ ys r2 e1 e2
  split at hv
  ·rename_i cs hb
   obtain⟨dR,dF,hne,hroom,hfit,hK⟩:=hv
   rw[e1] at h1;rw[e2] at h2
   subst dF
   obtain⟨vs,T,hh,hsz,hr⟩:=h.loc b cs hb
   generalize Dp:a.eval x=vx at h1 hex
   cases h1 with
   |aq _ _ _ _ _ hlc=>
    generalize qi:a.eval y=vy at h2 hex
    cases h2 with
    |cH=>exact absurd rfl hne
    |slice _ _ _ b' off' cap' vs' gr hH me abx hcy hry=>
     obtain⟨_,_,_,_,_,news,dG,hnc,gM⟩:=(RV.slice (w:=w) (A:=A) i.size ys r2 b' off' cap' vs' gr hH me abx hcy hry).cellsOf
     have hnews:∀j u,news[j]? =some u→w.cell? ((⟨b',off',none⟩:Addr).add j)=some u:=fun j u hj=>by rw[Addr.fK];exact(hnc j u hj).1
     have hone:=RV.xV hH (by rw[dG,gp i.size ys gr]) gM
     have hk:(len+ys.length)*i.size=len*i.size+ys.length*i.size:=Nat.add_mul _ _ _
     have fT:=gp i.size ys gr
     have hrun:=xS (P:=P) (w:=w) t o.type e i ht hi b off len cap vs T hh ⟨b',off',none⟩ ys.length cap' news dG hnews hone hroom (by omega)
     have hrow:∀k,RV w A ((splice cs (off+len*i.size) ((ys.flatMap AV.cells).map AV.erase0)).getD k .any) ((vs.toList.take (off+len*i.size)++news++vs.toList.drop (off+len*i.size+news.length)).toArray.getD k undef)∧bV sp ((splice cs (off+len*i.size) ((ys.flatMap AV.cells).map AV.erase0)).getD k .any) ((vs.toList.take (off+len*i.size)++news++vs.toList.drop (off+len*i.size+news.length)).toArray.getD k undef):=by
      intro k
      rw[oD vs news (off+len*i.size) k (by omega),ld _ _ _ _ (by rw[List.length_map,fT];omega),List.length_map,fT,←dG]
      split
      ·rw[gj]
       exact⟨(gM _).erase0,.erase0⟩
      ·exact hr k
     refine fin' (h.setRow hb hh ?_ hrow) (RS.oE _ _ hb) hd hN (hex _ _ hrun) (.aq b off (len+ys.length) cap sz' hroom) trivial ?_ hn
     ·rw[jL]
      simp only[List.size_toArray,List.length_append,List.length_take,List.length_drop,Array.length_toList]
      omega
     ·rw[dR]
      exact hK
  ·exact hv.elim
 ·exact hv.elim
theorem M0{t e:TypeId}{x hi:Operand}{mx mh:ai}{sz:Nat}(hop:o.op=.slice t x none (some hi) none)(hd:o.dst=some d)(hN:d<N)(hx:aC x=some mx)(hy:aC hi=some mh)
  (ht:P.underlying t=some (.slice e))(hz:cg P e=some sz)
  (h:RS N s a w A sp)(hv:Z2 P (.ab4 d mx mh sz) s K)(hn:Next s w A sp N K next):o.wp P a w next Q:=by
 have h1:=(bf h hx).1
 have h2:=(bf h hy).1
 simp only[cg,Option.map_eq_some_iff] at hz
 obtain⟨inf,c7,rfl⟩:=hz
 simp only[Z2] at hv
 split at hv
 ·rename_i b off len cap sz' k n e1 e2
  obtain⟨hs,h0,hl,hK⟩:=hv
  rw[e1] at h1;rw[e2] at h2
  have v2:=h2.cJ
  generalize aR:a.eval x=v0 at h1
  cases h1 with
  |aq _ _ _ _ _ hlc=>
   refine fin (v:=.slice (some ⟨b,off,none⟩) n.toNat cap) h hd hN ?_ (.aq b off n.toNat cap inf.size (by omega)) trivial hK hn
   have h3:¬(n<0):=by omega
   have h4:¬((cap:Int)<n):=by omega
   simp[execOp,hop,aR,v2,Instr.sliceAt,run_underlying ht,Instr.slice,Instr.sliceBounds,Instr.sliceBound,asIntOf,sizeOf,typeInfo,c7,h0,hl,Addr.add]
 ·exact hv.elim
end
end Go.Z4
namespace Go.Z4
open Go.RowKit
theorem iF(sz:Nat):∀(n:Nat) (cs:List AV),(chunk sz cs n).length=n
 |0,_=>rfl
 |n+1,cs=>by rw[chunk,List.length_cons,iF sz n]
theorem x7{x:AV}(h:x.bE=true):x.erase0.cells=[x.erase0]∧x.erase0.bE=true:=by cases x<;>first|(cases h;done)|exact⟨rfl,rfl⟩
theorem oI(sz:Nat):∀(n:Nat) (cs:List AV),n*sz≤cs.length→cs.all AV.bE=true→∀x∈chunk sz cs n,x.cells.length=sz∧x.cells.all AV.bE=true
 |0,_,_,_=>by simp[chunk]
 |n+1,cs,h,hc=>by
  intro x hx
  rw[Nat.add_mul,Nat.one_mul] at h
  rcases List.mem_cons.1 hx with rfl|hx
  ·split
   ·rename_i e;subst e
    have hlt:0<cs.length:=by omega
    have hg:(cs.getD 0 .any).bE=true:=by
     rw[List.getD_eq_getElem?_getD,List.getElem?_eq_getElem hlt]
     exact(List.all_eq_true.1 hc) _ (List.getElem_mem _)
    obtain⟨e1,e2⟩:=x7 hg
    rw[e1];exact⟨rfl,by simp only[List.all_cons,List.all_nil,Bool.and_true];exact e2⟩
   ·refine⟨by simp[AV.cells];omega,List.all_eq_true.2 fun y hy=> ?_⟩
    obtain⟨z,hz,rfl⟩:=List.mem_map.1 hy
    exact(x7 ((List.all_eq_true.1 hc) z (List.mem_of_mem_take hz))).2
  ·exact oI sz n (cs.drop sz) (by simp;omega) (List.all_eq_true.2 fun y hy=>(List.all_eq_true.1 hc) y (List.mem_of_mem_drop hy)) x hx
theorem uU(sz:Nat):∀(n:Nat) (cs:List AV),n*sz≤cs.length→cs.all AV.bE=true→(chunk sz cs n).flatMap AV.cells=(cs.take (n*sz)).map AV.erase0
 |0,cs,_,_=>by simp[chunk]
 |n+1,cs,h,hc=>by
  rw[Nat.add_mul,Nat.one_mul] at h
  rw[chunk,List.flatMap_cons,uU sz n (cs.drop sz) (by simp;omega) (List.all_eq_true.2 fun y hy=>(List.all_eq_true.1 hc) y (List.mem_of_mem_drop hy))]
  have e:(n+1)*sz=sz+n*sz:=by rw[Nat.add_mul,Nat.one_mul,Nat.add_comm]
  rw[e,List.take_add,List.map_append]
  congr 1
  split
  ·rename_i e;subst e
   have hlt:0<cs.length:=by omega
   have hg:(cs.getD 0 .any).bE=true:=by
    rw[List.getD_eq_getElem?_getD,List.getElem?_eq_getElem hlt]
    exact(List.all_eq_true.1 hc) _ (List.getElem_mem _)
   rw[(x7 hg).1]
   cases cs with
   |nil=>simp at hlt
   |cons x xs=>simp
  ·rfl
section
variable {P:Program} {N:Nat} {s:St} {a:Act} {w:World} {A:aK} {sp:Sp} {K:St→Prop} {next:Act→World→Prop} {Q:Exit→Act→World→Prop} {o:Oper} {d:Nat}
def ach(A:aK)(loc:Nat→Option (List AV)):aK:=fun b o=>A b o∨∃cs,loc b=some cs∧o<cs.length
theorem M1(h:RS N s a w A sp){x y:AV}{v:Value}(hx:RV w A x v)(hv:p6 s.loc x=some y):RV w (ach A s.loc) y v:=by
 have hmono:∀{x:AV} {v:Value},RV w A x v→RV w (ach A s.loc) x v:=fun hx=>hx.mono (fun c o v ha hv=>⟨hv,.inl ha⟩) (.same fun _ _ ha=>.inl ha)
 unfold p6 at hv
 split at hv
 ·rename_i b off len cap sz
  split at hv
  ·rename_i cs hb
   split at hv
   ·rename_i hc
    injection hv with hv;subst hv
    simp only[Bool.and_eq_true,decide_eq_true_eq] at hc
    obtain⟨⟨h1,h2⟩,h3⟩:=hc
    obtain⟨vs,T,hh,hsz,hr⟩:=h.loc b cs hb
    cases hx with
    |aq _ _ _ _ _ hlc=>
     have hd1:len*sz≤(cs.drop off).length:=by simp;omega
     have er:(cs.drop off).all AV.bE=true:=List.all_eq_true.2 fun z hz=>(List.all_eq_true.1 h2) z (List.mem_of_mem_drop hz)
     have:=RV.slice (w:=w) (A:=ach A s.loc) sz (chunk sz (cs.drop off) len) 0 b off cap (fun i=>vs.getD (off+i) undef) (fun x hx=>(oI sz len _ hd1 er x hx).1) (fun x hx=>(oI sz len _ hd1 er x hx).2) (by rw[iF];exact hlc) (by rw[iF];exact h3) (fun i hi=> ?_) (fun i=> ?_)
     ·rw[iF] at this;exact this
     ·rw[iF] at hi
      refine⟨?_,.inr ⟨cs,hb,by omega⟩⟩
      simp[World.cell?,hh,Array.getD_eq_getD_getElem?,Array.getElem?_eq_getElem (show off+i<vs.size by omega)]
     ·rw[uU sz len _ hd1 er,gj]
      by_cases hi:i<len*sz
      ·have e3:((cs.drop off).take (len*sz)).getD i .any=cs.getD (off+i) .any:=by simp only[List.getD_eq_getElem?_getD,List.getElem?_take,hi,if_true,List.getElem?_drop]
       rw[e3]
       exact(hmono (hr (off+i)).1).erase0
      ·have e3:((cs.drop off).take (len*sz)).getD i .any=.any:=by simp only[List.getD_eq_getElem?_getD,List.getElem?_take,hi,if_false,Option.getD_none]
       rw[e3]
       exact .any _
   ·cases hv
  ·cases hv
 ·injection hv with hv;subst hv;exact hmono hx
theorem Dq(h:RS N s a w A sp):∀{xs ys:List AV} {vs:List Value},vs.length=xs.length→(∀i,RV w A (xs.getD i .any) (vs.getD i undef))→abr s.loc xs=some ys→ys.length=xs.length∧∀i,RV w (ach A s.loc) (ys.getD i .any) (vs.getD i undef)
 |[],ys,vs,_,_,hv=>by injection hv with hv;subst hv;exact⟨rfl,fun i=>by simp;exact .any _⟩
 |x::xs,ys,[],hl,_,_=>by simp at hl
 |x::xs,ys,v::vs,hl,hr,hv=>by
  unfold abr at hv
  split at hv
  ·rename_i y ys' h1 h2
   injection hv with hv;subst hv
   obtain⟨g1,g2⟩:=Dq h (xs:=xs) (vs:=vs) (by simpa using hl) (fun i=>by simpa using hr (i+1)) h2
   have h0:=M1 h (hr 0) h1
   refine⟨by simp[g1],fun i=> ?_⟩
   cases i with
   |zero=>exact h0
   |succ i=>simpa using g2 i
  ·cases hv
theorem M3{w':World}{B B':aK}{r:AV}{v:Value}(h:l6 r=true)(hr:RV w' B r v)(hb:∀b es clock,w'.heap[b]? =some (.map es clock)→(∀o,B b o)→∀o,B' b o):RV w' B' r v∧r.erase=r:=by
 cases r<;>simp only[l6] at h<;>first|cases h;done|skip
 ·cases hr with
  |lit v hf=>exact⟨.lit _ hf,rfl⟩
 ·rename_i es
  have hl:∀e∈es,∀x∈e,isLit x=true:=fun e he x hx=>List.all_eq_true.1 (List.all_eq_true.1 h e he) x hx
  have hat:∀(i k:Nat),(es.getD i []).getD k .any=.any∨∃u,(es.getD i []).getD k .any=.lit u∧flat u=true:=fun i k=>by
   simp only[List.getD_eq_getElem?_getD]
   cases he:es[i]? with
   |none=>left;simp
   |some e=>
    simp only[Option.getD_some]
    cases hx:e[k]? with
    |none=>left;simp
    |some x=>
     right
     have:=hl e (List.mem_of_getElem? he) x (List.mem_of_getElem? hx)
     simp only[Option.getD_some]
     cases x<;>simp only[isLit] at this<;>first|cases this;done|exact⟨_,rfl,this⟩
  have oJ:∀(i k:Nat) (u:Value),RV w' B ((es.getD i []).getD k .any) u→RV w' B' ((es.getD i []).getD k .any) u:=fun i k u hu=>by
   rcases hat i k with e|⟨q,e,hf⟩
   ·rw[e];exact .any _
   ·rw[e] at hu⊢
    cases hu with
    |lit _ hf=>exact .lit _ hf
  cases hr with
  |fmap _ b es' clock h1 ha hs hk hv=>
   exact⟨.fmap _ b es' clock h1 (hb b es' clock h1 ha) hs (fun i e he=>oJ i 0 _ (hk i e he)) (fun i e he=>oJ i 1 _ (hv i e he)),rfl⟩
theorem Dr{f:FuncId}{vs:Array Value}{zs ys:List AV}{r:AV}(hd:o.dst=some d)(hN:d<N)(hlen:vs.size=zs.length)(hz:∀i,RV w A (zs.getD i .any) (vs.getD i undef))
  (hrun:(execOp a.eval o).run P w=(callFunc f vs).run P w)
  (h:RS N s a w A sp)(hvs:abr s.loc zs=some ys)(hfl:l6 r=true)(hp:aG P f ys r)(hK:K (s.set d r))(hn:Next s w A sp N K next):o.wp P a w next Q:=by
 obtain⟨g1,g2⟩:=Dq h (xs:=zs) (vs:=vs.toList) (by simp[hlen]) (fun i=>by
  have:=hz i
  simpa[List.getD_eq_getElem?_getD,Array.getD_eq_getD_getElem?] using this) hvs
 unfold Oper.wp
 have x5:(callFunc f vs).run P w=.ok (.enter f vs) w:=by
  have:=hp.1
  unfold aaP at this
  split at this
  ·rename_i fn hfn
   simp only[Bool.and_eq_true,bne_iff_ne,ne_eq] at this
   unfold callFunc
   simp only[Sem.run_bind,run_program,Result.andThen_ok,hfn]
   have hb:fn.body.isNone=false:=by cases oH:fn.body with
    |none=>rw[oH] at this;simp at this
    |some c=>rfl
   have hnm:(fn.name== "runtime.NumGoroutine")=false:=by simpa using this.1
   rw[hnm,hb]
   rfl
  ·cases this
 rw[hrun,x5,Oper.upon_enter]
 refine(hp.2 w (ach A s.loc) vs (fun b o ha=> ?_) (by rw[g1];simp[hlen]) (fun i=> ?_)).mono ?_
 ·rcases ha with ha|⟨cs,hb,_⟩
  ·exact(h.av b o ha).1
  ·exact h.abT hb
 ·have:=g2 i
  simpa[List.getD_eq_getElem?_getD,Array.getD_eq_getD_getElem?] using this
 ·rintro e w' ⟨v,A',rfl,hf,q1,q2,q3⟩
  obtain⟨k1,k2⟩:=h.call (A':=fun b o=>A b o∨(w.heap.size≤b∧b<w'.heap.size)) hf (fun _ _ ha=>.inl ha) (fun _ _ ha=>ha)
  rw[hd]
  obtain⟨q4,q5⟩:=M3 (B':=fun b o=>A b o∨(w.heap.size≤b∧b<w'.heap.size)) hfl q3 (fun b es clock hm hall o=>by
   rcases q2 b o (hall o) with ha|hb
   ·rcases ha with ha|⟨cs,hb,_⟩
    ·exact .inl ha
    ·obtain⟨ws,T,hh,_,_⟩:=h.loc b cs hb
     have:=hf.2.2.2.2 b (h.abT hb)
     rw[hm,hh] at this
     cases this
   ·exact .inr hb)
  exact hn _ _ _ _ _ hK (k1.put hN q4 (q5▸.erase)) k2
theorem M4{f:FuncId}{xs:Array Operand}{ts:Array TypeId}{ms:List ai}(hop:o.op=.call {callee:=.value (.func f),args:=xs,argTypes:=ts})(hd:o.dst=some d)(hN:d<N)(hx:aaE P xs.toList ts.toList=some ms)(h:RS N s a w A sp)(hv:Z2 P (.aaD d f ms) s K)(hn:Next s w A sp N K next):o.wp P a w next Q:=by
 obtain⟨a1,a2⟩:=l_ h hx
 obtain⟨ys,u,hvs,hfl,hp,hK⟩:=hv
 refine Dr (vs:=xs.map a.eval) hd hN (by simp[a1]) (fun i=> ?_) ?_ h hvs hfl hp hK hn
 ·have:=a2 i
  simpa[List.getD_eq_getElem?_getD,Array.getD_eq_getD_getElem?] using this
 ·simp[execOp,hop,resolve,Act.eval,Deferred.ofValue,invoke]
theorem M5{t:Tmp}{xs:Array Operand}{ts:Array TypeId}{ms:List ai}(hop:o.op=.call {callee:=.value (.tmp t),args:=xs,argTypes:=ts})(hd:o.dst=some d)(hN:d<N)(hx:aaE P xs.toList ts.toList=some ms)(h:RS N s a w A sp)(hv:Z2 P (.abR d (.t t) ms) s K)(hn:Next s w A sp N K next):o.wp P a w next Q:=by
 obtain⟨a1,a2⟩:=l_ h hx
 have h1:=(h.env t).1
 simp only[Z2] at hv
 split at hv
 ·rename_i f fs cs e1
  obtain⟨ys,u,hvs,hfl,hp,hK⟩:=hv
  replace e1:s.env t=.func (.func f) fs cs:=e1
  rw[e1] at h1
  generalize aR:a.tmps.getD t undef=v0 at h1
  cases h1 with
  |func _ _ _ vf vc eJ hsc hf hc=>
   refine Dr (vs:=vf++xs.map a.eval++vc) hd hN (by simp[a1,eJ,hsc]) (fun i=> ?_) ?_ h hvs hfl hp hK hn
   ·have e2:=lp vf.toList (xs.map a.eval).toList vc.toList i undef
    have e3:=lp fs (ms.map fun x=>(x.ev s.env).erase) cs i .any
    have e4:(vf++xs.map a.eval++vc).getD i undef=(vf.toList++(xs.map a.eval).toList++vc.toList).getD i undef:=by simp[List.getD_eq_getElem?_getD,Array.getD_eq_getD_getElem?,Array.getElem?_append,List.getElem?_append]
    rw[e4,e2,e3]
    simp only[Array.length_toList,eJ,Array.size_map,List.length_map,a1]
    split
    ·have:=hf i
     simpa[List.getD_eq_getElem?_getD,Array.getD_eq_getD_getElem?] using this
    ·split
     ·have:=a2 (i - fs.length)
      simpa[List.getD_eq_getElem?_getD,Array.getD_eq_getD_getElem?] using this
     ·have:=hc (i - fs.length - xs.size)
      simpa[List.getD_eq_getElem?_getD,Array.getD_eq_getD_getElem?] using this
   ·simp[execOp,hop,resolve,Act.eval,aR,Deferred.ofValue,invoke]
 ·exact hv.elim
theorem M6{t t' e:TypeId}{i:TypeInfo}{x y:Operand}{mx my:ai}(hop:o.op=.call {callee:=.builtin .copy,args:= #[x,y],argTypes:= #[t,t']})(hd:o.dst=some d)(hN:d<N)
  (hx:aC x=some mx)(hy:aC y=some my)(ht:P.underlying t=some (.slice e))(hi:P.info? e=some i)
  (h:RS N s a w A sp)(hv:Z2 P (.lZ d mx my i.size) s K)(hn:Next s w A sp N K next):o.wp P a w next Q:=by
 have h1:=(bf h hx).1
 have h2:=(bf h hy).1
 have hex:∀v w',(Builtin.copy_ #[t,t'] o.type #[a.eval x,a.eval y]).run P w=.ok v w'→(execOp a.eval o).run P w=.ok (.value v) w':=by
  intro v w' hr
  simp[execOp,hop,resolve,invoke,builtin,hr]
 simp only[Z2] at hv
 split at hv
 ·rename_i b off len cap sz' b2 off2 g_ ql b_ e1 e2
  split at hv
  ·rename_i cs aU hb cF
   obtain⟨dR,dF,hoff,Zj,h1c,hK⟩:=hv
   rw[e1] at h1;rw[e2] at h2
   subst dF
   obtain⟨vs,T,hh,hsz,hr⟩:=h.loc b cs hb
   obtain⟨jM,T2,uV,M7,cE⟩:=h.loc b2 aU cF
   generalize aR:a.eval x=v0 at h1 hex
   cases h1 with
   |aq _ _ _ _ _ hlc=>
    generalize hv1:a.eval y=v1 at h2 hex
    cases h2 with
    |aq _ _ _ _ _ Zk=>
     obtain⟨k,hk⟩:∃k,k=Nat.min g_ len*i.size:=⟨_,rfl⟩
     have bq:k≤g_*i.size:=by rw[hk];exact Nat.mul_le_mul_right _ (Nat.min_le_left _ _)
     have hk2:k≤len*i.size:=by rw[hk];exact Nat.mul_le_mul_right _ (Nat.min_le_right _ _)
     have cw:((jM.toList.drop off2).take k).length=k:=by simp;omega
     have fT:(((aU.drop off2).take k).map AV.erase0).length=k:=by simp;omega
     have hu:∀j,j<k→((jM.toList.drop off2).take k).getD j undef=jM.getD (off2+j) undef:=fun j hj=>by simp only[List.getD_eq_getElem?_getD,List.getElem?_take,hj,if_true,List.getElem?_drop,Array.getD_eq_getD_getElem?,Array.getElem?_toList]
     have hone:∀v∈(jM.toList.drop off2).take k,v.oneCell'=true:=by
      intro v hv
      obtain⟨j,hj,rfl⟩:=List.getElem_of_mem hv
      have hj':j<k:=by omega
      have h3:=(cE (off2+j)).1
      have aaM:=hu j hj'
      rw[List.getD_eq_getElem?_getD,List.getElem?_eq_getElem hj,Option.getD_some] at aaM
      rw[List.getD_eq_getElem?_getD,List.getElem?_eq_getElem (show off2+j<aU.length by omega),←aaM] at h3
      exact h3.uI ((List.all_eq_true.1 h1c) _ (List.getElem_mem _))
     have hrun:=Dm (P:=P) (w:=w) (dT:=t) (sT:=t') (ty:=o.type) (dLen:=len) (dCap:=cap) (sb:=some ⟨b2,off2,none⟩) (sLen:=g_) (sCap:=ql) (off:=off) (cs:=(jM.toList.drop off2).take k) ht hi hh (by rw[cw,hk])
      (fun q hq j v hj=>by
        injection hq with hq;subst hq
        rw[Addr.fK]
        have hj':j<k:=by have:=(List.getElem?_eq_some_iff.1 hj).1;omega
        rw[List.getElem?_take,if_pos hj',List.getElem?_drop,Array.getElem?_toList] at hj
        simp only[World.cell?,uV,hj];rfl) (fun hn=>by cases hn) (by rw[cw];omega) hone
     rw[cw] at hrun
     have hrow:∀q,RV w A ((splice cs off (((aU.drop off2).take k).map AV.erase0)).getD q .any) ((vs.toList.take off++(jM.toList.drop off2).take k++vs.toList.drop (off+k)).toArray.getD q undef)∧bV sp ((splice cs off (((aU.drop off2).take k).map AV.erase0)).getD q .any) ((vs.toList.take off++(jM.toList.drop off2).take k++vs.toList.drop (off+k)).toArray.getD q undef):=by
      intro q
      have e:=oD vs ((jM.toList.drop off2).take k) off q (by rw[cw];omega)
      rw[cw] at e
      rw[e,ld _ _ _ _ (by rw[fT];omega),fT]
      split
      ·rename_i hq
       have hj:q - off<k:=by omega
       rw[gj,hu _ hj]
       have e3:((aU.drop off2).take k).getD (q - off) .any=aU.getD (off2+(q - off)) .any:=by simp only[List.getD_eq_getElem?_getD,List.getElem?_take,hj,if_true,List.getElem?_drop]
       rw[e3]
       exact⟨(cE _).1.erase0,.erase0⟩
      ·exact hr q
     refine fin' (h.setRow hb hh ?_ hrow) (RS.oE _ _ hb) hd hN (hex _ _ hrun) (.lit _ rfl) trivial ?_ hn
     ·rw[jL]
      simp only[List.size_toArray,List.length_append,List.length_take,List.length_drop,Array.length_toList]
      omega
     ·rw[hk]
      exact hK
  ·exact hv.elim
 ·exact hv.elim
theorem M8{t e:TypeId}{x hi mx:Operand}{ax ah am:ai}{sz:Nat}(hop:o.op=.slice t x none (some hi) (some mx))(hd:o.dst=some d)(hN:d<N)(hx:aC x=some ax)(hy:aC hi=some ah)(hm:aC mx=some am)
  (ht:P.underlying t=some (.slice e))(hz:cg P e=some sz)
  (h:RS N s a w A sp)(hv:Z2 P (.ot d ax ah am sz) s K)(hn:Next s w A sp N K next):o.wp P a w next Q:=by
 have h1:=(bf h hx).1
 have h2:=(bf h hy).1
 have h3:=(bf h hm).1
 simp only[cg,Option.map_eq_some_iff] at hz
 obtain⟨inf,c7,rfl⟩:=hz
 simp only[Z2] at hv
 split at hv
 ·rename_i sz' xs own k k' e1 e2 e3
  rw[e1] at h1;rw[e2] at h2;rw[e3] at h3
  have v2:=h2.cJ
  have v3:=h3.cJ
  generalize aR:a.eval x=v0 at h1
  cases h1 with
  |cH=>
   refine fin (v:=.slice none 0 0) h hd hN ?_ (.lit _ rfl) trivial (hv.1 rfl) hn
   simp[execOp,hop,aR,v2,v3,Instr.sliceAt,run_underlying ht,Instr.slice,Instr.sliceBounds,Instr.sliceBound,asIntOf,sizeOf,typeInfo,c7]
  |slice _ _ _ b off cap vs hsz h1c hcap hlen hc hr=>
   refine fin (v:=.slice (some ⟨b,off,none⟩) 0 0) h hd hN ?_ (.aq b off 0 0 inf.size (Nat.le_refl _)) trivial (hv.2 b off) hn
   have h5:(0:Int)≤cap:=by omega
   simp[execOp,hop,aR,v2,v3,Instr.sliceAt,run_underlying ht,Instr.slice,Instr.sliceBounds,Instr.sliceBound,asIntOf,sizeOf,typeInfo,c7,Addr.add]
 ·exact hv.elim
theorem M9{t e:TypeId}{x hi mx:Operand}{ax ah am:ai}{sz:Nat}(hop:o.op=.slice t x none (some hi) (some mx))(hd:o.dst=some d)(hN:d<N)(hx:aC x=some ax)(hy:aC hi=some ah)(hm:aC mx=some am)
  (ht:P.underlying t=some (.slice e))(hz:cg P e=some sz)
  (h:RS N s a w A sp)(hv:Z2 P (.i_ d ax ah am sz) s K)(hn:Next s w A sp N K next):o.wp P a w next Q:=by
 have h1:=(bf h hx).1
 have h2:=(bf h hy).1
 have h3:=(bf h hm).1
 simp only[cg,Option.map_eq_some_iff] at hz
 obtain⟨inf,c7,rfl⟩:=hz
 have qk:d+1≠0:=by omega
 simp only[Z2] at hv
 split at hv
 ·rename_i sz' xs own k i k' j e1 e2 e3
  rw[e1] at h1;rw[e2] at h2;rw[e3] at h3
  have v2:=h2.cJ
  have v3:=h3.cJ
  obtain⟨⟨hij,hJ⟩,hv⟩:=hv
  subst hij
  generalize aR:a.eval x=v0 at h1
  cases h1 with
  |cH=>
   have M_:i=0:=by rcases hJ with h|⟨_,h⟩<;>simpa using h
   subst M_
   refine fin' (h.aB (d+1)) (Ev.aB (d+1)) hd hN (v:=.slice none 0 0) ?_ (.cH _ _) trivial (by simpa using hv) hn
   simp[execOp,hop,aR,v2,v3,Instr.sliceAt,run_underlying ht,Instr.slice,Instr.sliceBounds,Instr.sliceBound,asIntOf,sizeOf,typeInfo,c7]
  |slice _ _ _ b off cap vs hsz h1c hcap hlen hc hr=>
   obtain⟨n,rfl⟩:∃n:Nat,i=n:=⟨i.toNat,by rcases hJ with h|⟨_,h⟩<;>omega⟩
   have Ds:n≤xs.length:=by rcases hJ with h|⟨_,h⟩<;>omega
   rw[Int.toNat_natCast] at hv
   have Na:RV w A (.slice inf.size (xs.take n) (d+1)) (.slice (some ⟨b,off,none⟩) n n):=by
    have hl:(xs.take n).length=n:=by simp;omega
    rcases hJ with h0|⟨hs,h0⟩
    ·have:n=0:=by omega
     subst this
     exact RV.slice inf.size [] (d+1) b off 0 (fun _=>undef) (by simp) (by simp) (Nat.le_refl _) (by simp) (fun i hi=>by simp at hi) (fun i=>by simp;exact .any _)
    ·have:n=xs.length:=by omega
     subst this
     subst hs
     rw[List.take_length]
     exact RV.slice _ xs (d+1) b off xs.length vs hsz h1c (Nat.le_refl _) hlen hc hr
   have h4:=(h.aB (d+1)).uy (d+1) (p9 _ _ qk) (p_ _ _ qk) b (off+n*inf.size) (off+n*inf.size) (fun hlt=>absurd hlt (Nat.lt_irrefl _)) (fun _ _ hlt=>absurd hlt (Nat.lt_irrefl _)) (fun o' _=>by omega)
   refine fin' h4 ?_ hd hN (v:=.slice (some ⟨b,off,none⟩) n n) ?_ Na ?_ hv hn
   ·refine(Ev.aB (d+1)).trans (.same fun c o' hl=> ?_)
    rcases hl with hl|⟨r,q1,q2,q3⟩
    ·exact .inl hl
    ·refine .inr ⟨r,?_⟩
     simp only[ak] at q1 q2 q3⊢
     split at q2
     ·rename_i e;simp only[e,if_true] at q3;dsimp only at q2 q3;omega
     ·rename_i e;simp only[e,if_false] at q1 q3⊢;exact⟨q1,q2,q3⟩
   ·have h5:¬cap<n:=by omega
    simp[execOp,hop,aR,v2,v3,Instr.sliceAt,run_underlying ht,Instr.slice,Instr.sliceBounds,Instr.sliceBound,asIntOf,sizeOf,typeInfo,c7,Addr.add,h5]
   ·exact .inr (by simp[ak])
 ·exact hv.elim
end
end Go.Z4
namespace Go.Z4
open Go.RowKit
section
variable {P:Program} {N:Nat} {s:St} {a:Act} {w:World} {A:aK} {sp:Sp} {K:St→Prop} {next:Act→World→Prop} {Q:Exit→Act→World→Prop} {o:Oper} {d:Nat}
theorem Nb{t e:TypeId}{x lo:Operand}{mx mh:ai}{sz:Nat}(hop:o.op=.slice t x (some lo) none none)(hd:o.dst=some d)(hN:d<N)(hx:aC x=some mx)(hy:aC lo=some mh)
  (ht:P.underlying t=some (.slice e))(hz:cg P e=some sz)
  (h:RS N s a w A sp)(hv:Z2 P (.abg d mx mh sz) s K)(hn:Next s w A sp N K next):o.wp P a w next Q:=by
 have h1:=(bf h hx).1
 have h2:=(bf h hy).1
 simp only[cg,Option.map_eq_some_iff] at hz
 obtain⟨inf,c7,rfl⟩:=hz
 simp only[Z2] at hv
 split at hv
 ·rename_i sz' xs own k n e1 e2
  obtain⟨hs,h0,hl,hK⟩:=hv
  rw[e1] at h1;rw[e2] at h2
  have v2:=h2.cJ
  have hX:=h1.uM hs
  generalize aR:a.eval x=v0 at hX
  cases hX with
  |cH=>
   have hn0:n=0:=by simp at hl;omega
   subst hn0
   refine fin (v:=.slice none 0 0) h hd hN ?_ (by simp;exact .cH _ _) (by simp;trivial) hK hn
   simp[execOp,hop,aR,v2,Instr.sliceAt,run_underlying ht,Instr.slice,Instr.sliceBounds,Instr.sliceBound,asIntOf,sizeOf,typeInfo,c7]
  |slice _ _ _ b off cap vs hsz h1c hcap hlen hc hr=>
   have k_:n.toNat≤xs.length:=by omega
   have hmul:n.toNat*inf.size≤xs.length*inf.size:=Nat.mul_le_mul_right _ k_
   have hfl:(xs.drop n.toNat).length=xs.length - n.toNat:=by simp
   have hrun:∃a',(execOp a.eval o).run P w=.ok (.value (.slice (some a') (xs.length - n.toNat) (cap - n.toNat))) w∧(n.toNat<cap→a'=⟨b,off+n.toNat*inf.size,none⟩)∧∃off',a'=⟨b,off',none⟩:=by
    refine⟨if cap=n.toNat then ⟨b,off,none⟩ else (⟨b,off,none⟩:Addr).add (n.toNat*inf.size),?_,fun hlt=>by rw[if_neg (by omega),Addr.fK],?_⟩
    ·by_cases uW:cap=n.toNat<;>simp[execOp,hop,aR,v2,Instr.sliceAt,run_underlying ht,Instr.slice,Instr.sliceBounds,Instr.sliceBound,asIntOf,sizeOf,typeInfo,c7,h0,hl,uW]
    ·split
     ·exact⟨off,rfl⟩
     ·exact⟨_,Addr.fK _ _ _⟩
   obtain⟨a',hrun,nF,off',jN⟩:=hrun
   refine fin h hd hN hrun ?_ (.nr (by intro _ _ _ hh;injection hh with _ _ hh;exact hh.symm)) hK hn
   rw[jN,←hfl]
   refine .slice _ _ _ _ _ _ (fun i=>vs (n.toNat*inf.size+i)) (fun y hy=>hsz y (List.mem_of_mem_drop hy)) (fun y hy=>h1c y (List.mem_of_mem_drop hy)) (by omega) (by omega) (fun i hi=> ?_) (fun i=> ?_)
   ·rw[hfl,Nat.sub_mul] at hi
    have hlt:n.toNat<cap:=by
     rcases Nat.lt_or_ge n.toNat xs.length with h5|h5
     ·omega
     ·have:=Nat.mul_le_mul_right inf.size h5;omega
    have e5:=nF hlt
    rw[jN] at e5;injection e5 with _ e5 _
    rw[e5,Nat.add_assoc]
    exact hc _ (by omega)
   ·rw[xO AV.cells _ xs _ hsz]
    have:=hr (n.toNat*inf.size+i)
    simpa[List.getD_eq_getElem?_getD] using this
 ·exact hv.elim
theorem Nc{t e:TypeId}{x lo hi:Operand}{mx mh mg:ai}{sz:Nat}(hop:o.op=.slice t x (some lo) (some hi) none)(hd:o.dst=some d)(hN:d<N)(hx:aC x=some mx)(hy:aC lo=some mh)(hy2:aC hi=some mg)
  (ht:P.underlying t=some (.slice e))(hz:cg P e=some sz)
  (h:RS N s a w A sp)(hv:Z2 P (.lX d mx mh mg sz) s K)(hn:Next s w A sp N K next):o.wp P a w next Q:=by
 have h1:=(bf h hx).1
 have h2:=(bf h hy).1
 have h3:=(bf h hy2).1
 simp only[cg,Option.map_eq_some_iff] at hz
 obtain⟨inf,c7,rfl⟩:=hz
 simp only[Z2] at hv
 split at hv
 ·rename_i sz' xs own k n k2 m e1 e2 e3
  obtain⟨hs,h0,hnm,hl,hK⟩:=hv
  rw[e1] at h1;rw[e2] at h2;rw[e3] at h3
  have v2:=h2.cJ
  have v3:=h3.cJ
  have hX:=h1.uM hs
  generalize aR:a.eval x=v0 at hX
  cases hX with
  |cH=>
   have hn0:n=0:=by simp at hl;omega
   have hm0:m=0:=by simp at hl;omega
   subst hn0;subst hm0
   refine fin (v:=.slice none 0 0) h hd hN ?_ (by simp;exact .cH _ _) (by simp;trivial) hK hn
   simp[execOp,hop,aR,v2,v3,Instr.sliceAt,run_underlying ht,Instr.slice,Instr.sliceBounds,Instr.sliceBound,asIntOf,sizeOf,typeInfo,c7]
  |slice _ _ _ b off cap vs hsz h1c hcap hlen hc hr=>
   have k_:n.toNat≤xs.length:=by omega
   have hmc:m≤(cap:Int):=by omega
   have hmul:n.toNat*inf.size≤xs.length*inf.size:=Nat.mul_le_mul_right _ k_
   have hfl:((xs.drop n.toNat).take (m - n).toNat).length=m.toNat - n.toNat:=by simp;omega
   have hrun:∃a',(execOp a.eval o).run P w=.ok (.value (.slice (some a') (m.toNat - n.toNat) (cap - n.toNat))) w∧(n.toNat<cap→a'=⟨b,off+n.toNat*inf.size,none⟩)∧∃off',a'=⟨b,off',none⟩:=by
    refine⟨if cap=n.toNat then ⟨b,off,none⟩ else (⟨b,off,none⟩:Addr).add (n.toNat*inf.size),?_,fun hlt=>by rw[if_neg (by omega),Addr.fK],?_⟩
    ·have hm0:0≤m:=by omega
     have Dt:max m 0=m:=by omega
     have Nd:max n 0=n:=by omega
     by_cases uW:cap=n.toNat
     ·have hmn:m≤n:=by omega
      simp[execOp,hop,aR,v2,v3,Instr.sliceAt,run_underlying ht,Instr.slice,Instr.sliceBounds,Instr.sliceBound,asIntOf,sizeOf,typeInfo,c7,h0,hnm,uW,hm0,Dt,Nd,hmn]
     ·simp[execOp,hop,aR,v2,v3,Instr.sliceAt,run_underlying ht,Instr.slice,Instr.sliceBounds,Instr.sliceBound,asIntOf,sizeOf,typeInfo,c7,h0,hnm,hmc,uW,hm0,Dt]
    ·split
     ·exact⟨off,rfl⟩
     ·exact⟨_,Addr.fK _ _ _⟩
   obtain⟨a',hrun,nF,off',jN⟩:=hrun
   refine fin h hd hN hrun ?_ (.nr (by intro _ _ _ hh;injection hh with _ _ hh;exact hh.symm)) hK hn
   rw[jN,←hfl]
   refine .slice _ _ _ _ _ _ (fun i=>vs (n.toNat*inf.size+i)) (fun y hy=>hsz y (List.mem_of_mem_drop (List.mem_of_mem_take hy))) (fun y hy=>h1c y (List.mem_of_mem_drop (List.mem_of_mem_take hy))) (by omega) (by omega) (fun i hi=> ?_) (fun i=> ?_)
   ·rw[hfl,Nat.sub_mul] at hi
    have hml:m.toNat*inf.size≤xs.length*inf.size:=Nat.mul_le_mul_right _ (by omega)
    have hlt:n.toNat<cap:=by
     rcases Nat.lt_or_ge n.toNat m.toNat with h5|h5
     ·omega
     ·have:=Nat.mul_le_mul_right inf.size h5;omega
    have e5:=nF hlt
    rw[jN] at e5;injection e5 with _ e5 _
    rw[e5,Nat.add_assoc]
    exact hc _ (by omega)
   ·rw[uG AV.cells _ _ _ (fun y hy=>hsz y (List.mem_of_mem_drop hy)),xO AV.cells _ xs _ hsz]
    by_cases hi:i<(m - n).toNat*inf.size
    ·have:=hr (n.toNat*inf.size+i)
     simpa[List.getD_eq_getElem?_getD,hi] using this
    ·rw[List.getD_eq_getElem?_getD,List.getElem?_eq_none (by simp;omega)]
     exact .any _
 ·exact hv.elim
theorem Nf{t:TypeId}{x lo:Operand}{mx ml:ai}(hop:o.op=.slice t x (some lo) none none)(hd:o.dst=some d)(hN:d<N)(ht:P.underlying t=some .string)(hx:aC x=some mx)(hl:aC lo=some ml)(h:RS N s a w A sp)(hv:Z2 P (.ow d mx ml) s K)(hn:Next s w A sp N K next):o.wp P a w next Q:=by
 have h1:=(bf h hx).1
 have h2:=(bf h hl).1
 simp only[Z2] at hv
 split at hv
 ·rename_i u k n e1 e2
  obtain⟨c1,c2,hK⟩:=hv
  rw[e1] at h1;rw[e2] at h2
  have v2:=h2.cJ
  generalize aR:a.eval x=v0 at h1
  cases h1
  refine fin (v:=.string (u.extract n.toNat u.size)) h hd hN ?_ (.lit _ rfl) trivial hK hn
  simp[execOp,hop,aR,v2,Instr.sliceAt,run_underlying ht,Instr.slice,Instr.sliceBounds,Instr.sliceBound,asIntOf,c1,c2]
 ·exact hv.elim
theorem Ng{ts td:TypeId}{x:Operand}{mx:ai}(hop:o.op=.convert ts td x)(hd:o.dst=some d)(hN:d<N)(hs:P.underlying ts=some .string)(ht:P.underlying td=some .string)(hx:aC x=some mx)(h:RS N s a w A sp)(hv:Z2 P (.abf d mx) s K)(hn:Next s w A sp N K next):o.wp P a w next Q:=by
 have h1:=(bf h hx).1
 simp only[Z2] at hv
 split at hv
 ·rename_i st e1
  rw[e1] at h1
  exact fin (v:=.string st) h hd hN (by simp[execOp,hop,h1.rQ,convert,run_underlying hs,run_underlying ht]) (.lit _ rfl) trivial hv hn
 ·exact hv.elim
theorem Nh{aD:cn}{b:Builtin}{xs:Array Operand}{ts:Array TypeId}{m:au}(hop:o.op=.call {callee:=.builtin b,args:=xs,argTypes:=ts})(hd:o.dst=some d)(hN:d<N)(hm:xD P aD b d xs.toList ts.toList=some m)(h:RS N s a w A sp)(hv:Z2 P m s K)(hn:Next s w A sp N K next):o.wp P a w next Q:=by
 obtain⟨xs⟩:=xs
 obtain⟨ts⟩:=ts
 simp only[] at hm
 unfold xD at hm
 split at hm
 ·split at hm
  ·rename_i e;subst e
   split at hm
   ·split at hm
    ·split at hm
     ·injection hm with hm;subst hm
      exact MZ hop hd hN ‹_› ‹_› ‹_› ‹_› h hv hn
     ·split at hm
      ·rename_i hc
       injection hm with hm;subst hm
       simp only[Bool.and_eq_true] at hc
       exact MX hop hd hN ‹_› ‹_› ‹_› ‹_› hc.1 h hv hn
      ·cases hm
    ·cases hm
   ·cases hm
  ·cases hm
 ·cases hm
theorem Ni{b:Builtin}{xs:Array Operand}{ts:Array TypeId}{m:au}(hop:o.op=.call {callee:=.builtin b,args:=xs,argTypes:=ts})(hd:o.dst=some d)(hN:d<N)(hm:xE P b d xs.toList ts.toList=some m)(h:RS N s a w A sp)(hv:Z2 P m s K)(hn:Next s w A sp N K next):o.wp P a w next Q:=by
 obtain⟨xs⟩:=xs
 obtain⟨ts⟩:=ts
 simp only[] at hm
 unfold xE at hm
 split at hm
 ·split at hm
  ·split at hm
   ·injection hm with hm;subst hm
    exact M6 hop hd hN ‹_› ‹_› ‹_› ‹_› h hv hn
   ·cases hm
  ·cases hm
 ·cases hm
theorem Nj{b:Builtin}{xs:Array Operand}{ts:Array TypeId}{m:au}(hop:o.op=.call {callee:=.builtin b,args:=xs,argTypes:=ts})(hd:o.dst=some d)(hN:d<N)(hm:acE P b d xs.toList ts.toList=some m)(h:RS N s a w A sp)(hv:Z2 P m s K)(hn:Next s w A sp N K next):o.wp P a w next Q:=by
 obtain⟨xs⟩:=xs
 obtain⟨ts⟩:=ts
 simp only[] at hm
 unfold acE at hm
 split at hm
 ·
  split at hm
  ·injection hm with hm;subst hm
   exact C0 hop hd hN (.inl ‹_›) h hv hn
  ·simp only[Option.map_eq_some_iff] at hm
   obtain⟨y,hy,rfl⟩:=hm
   exact adB hop hd hN hy ‹_› h hv hn
  ·simp only[Option.map_eq_some_iff] at hm
   obtain⟨y,hy,rfl⟩:=hm
   exact adC hop hd hN hy ‹_› h hv hn
  ·split at hm
   ·injection hm with hm;subst hm
    exact C0 hop hd hN (.inr ⟨_,‹_›,‹_›⟩) h hv hn
   ·cases hm
  ·cases hm
 ·
  split at hm
  ·rename_i e;subst e
   split at hm
   ·split at hm
    ·split at hm
     ·split at hm
      ·rename_i hc
       injection hm with hm;subst hm
       exact Mu hop hd hN ‹_› ‹_› ‹_› ‹_› ‹_› hc.1 hc.2 h hv hn
      ·cases hm
     ·cases hm
    ·cases hm
   ·cases hm
  ·cases hm
 ·
  split at hm
  ·split at hm
   ·injection hm with hm;subst hm
    exact MQ hop hd hN ‹_› ‹_› ‹_› ‹_› h hv hn
   ·cases hm
  ·cases hm
 ·split at hm
  ·injection hm with hm;subst hm
   exact adD hop hd hN ‹_› ‹_› h hv hn
  ·cases hm
 ·split at hm
  ·injection hm with hm;subst hm
   exact L4 hop hd hN ‹_› ‹_› h hv hn
  ·cases hm
 ·cases hm
theorem Nk{op:BinOp}{t t':TypeId}{x y:Operand}{mx my:ai}{mm:au}(hop:o.op=.binOp op t x y t')(hd:o.dst=some d)(hN:d<N)(hx:aC x=some mx)(hy:aC y=some my)(hm:xF P d op t mx my=some mm)(h:RS N s a w A sp)(hv:Z2 P mm s K)(hn:Next s w A sp N K next):o.wp P a w next Q:=by
 unfold xF at hm
 split at hm
 ·injection hm with hm;subst hm;exact CX hop hd hN hx hy h hv hn
 ·injection hm with hm;subst hm;exact CX hop hd hN hx hy h hv hn
 ·split at hm
  ·injection hm with hm;subst hm;exact CY hop rfl hd hN hx hy ‹_› h hv hn
  ·injection hm with hm;subst hm;exact CY hop rfl hd hN hx hy ‹_› h hv hn
  ·cases hm
 ·cases hm
theorem Nl{aD:cn}{op:Op}{ty:TypeId}{m:au}(hop:o.op=op)(hd:o.dst=some d)(hN:d<N)(hm:xH P aD d op ty=some m)(h:RS N s a w A sp)(hv:Z2 P m s K)(hn:Next s w A sp N K next):o.wp P a w next Q:=by
 unfold xH at hm
 split at hm
 ·
  simp only[Option.map_eq_some_iff] at hm
  obtain⟨y,hy,rfl⟩:=hm
  exact LJ hop hd hN hy h hv hn
 ·
  split at hm
  ·injection hm with hm;subst hm
   exact Ma hop hd hN h hv hn
  ·injection hm with hm;subst hm
   exact L_ hop hd hN h hv hn
 ·
  simp only[Option.map_eq_some_iff] at hm
  obtain⟨y,hy,rfl⟩:=hm
  exact L9 hop hd hN hy h hv hn
 ·
  split at hm
  ·injection hm with hm;subst hm
   exact LK hop hd hN ‹_› ‹_› ‹_› h hv hn
  ·cases hm
 ·
  split at hm
  ·injection hm with hm;subst hm
   exact Me hop hd hN ‹_› h hv hn
  ·cases hm
 ·
  split at hm
  ·split at hm
   ·injection hm with hm;subst hm
    split at hv
    ·exact Mc hop hd hN ‹_› ‹_› h hv hn
    ·exact Mb hop hd hN ‹_› ‹_› h hv hn
   ·cases hm
  ·cases hm
 ·
  split at hm
  ·injection hm with hm;subst hm
   exact adz hop hd hN ‹_› ‹_› h hv hn
  ·cases hm
 ·
  split at hm
  ·split at hm
   ·split at hm
    ·split at hm
     ·cases hm
     ·injection hm with hm;subst hm
      exact LM hop hd hN ‹_› ‹_› ‹_› ‹_› ‹_› h hv hn
    ·cases hm
   ·cases hm
  ·cases hm
 ·
  split at hm
  ·split at hm
   ·split at hm
    ·injection hm with hm;subst hm
     exact LP hop hd hN ‹_› ‹_› ‹_› ‹_› h hv hn
    ·cases hm
   ·cases hm
  ·cases hm
 ·
  split at hm
  ·simp only[Option.map_eq_some_iff] at hm
   obtain⟨n,k_,rfl⟩:=hm
   exact LN hop hd hN ‹_› ‹_› ‹_› k_ h hv hn
  ·simp only[Option.map_eq_some_iff] at hm
   obtain⟨n,k_,rfl⟩:=hm
   exact LO hop hd hN ‹_› ‹_› ‹_› k_ h hv hn
  ·cases hm
 ·
  split at hm
  ·injection hm with hm;subst hm
   exact LR hop hd hN ‹_› ‹_› ‹_› h hv hn
  ·split at hm
   ·injection hm with hm;subst hm
    exact LQ hop hd hN ‹_› ‹_› ‹_› ‹_› ‹_› h hv hn
   ·cases hm
  ·cases hm
 ·
  split at hm
  ·split at hm
   ·split at hm
    ·rename_i hall
     simp only[Option.map_eq_some_iff] at hm
     obtain⟨qs,hq,rfl⟩:=hm
     refine MA hop hd hN ‹_› ‹_› (fun f hf=> ?_) hq h hv hn
     have:=(List.all_eq_true.1 hall) f hf
     exact Option.isSome_iff_exists.1 this
    ·cases hm
   ·split at hm
    ·split at hm
     ·simp only[Option.map_eq_some_iff] at hm
      obtain⟨qs,hq,rfl⟩:=hm
      exact MC hop hd hN ‹_› ‹_› ‹_› ‹_› hq h hv hn
     ·cases hm
    ·cases hm
   ·cases hm
  ·cases hm
 ·
  split at hm
  ·split at hm
   ·split at hm
    ·split at hm
     ·rename_i hc
      injection hm with hm;subst hm
      simp only[Bool.and_eq_true,beq_iff_eq] at hc
      exact MT hop hd hN ‹_› ‹_› hc.1.1 hc.1.2 hc.2 h hv hn
     ·cases hm
    ·cases hm
   ·cases hm
  split at hm
  ·split at hm
   ·split at hm
    ·rename_i hc
     injection hm with hm;subst hm
     simp only[Bool.and_eq_true,decide_eq_true_eq] at hc
     exact MF hop hd hN hc.1.1 ‹_› ‹_› hc.1.2 hc.2 ‹_› h hv hn
    ·cases hm
   ·cases hm
  ·cases hm
 ·
  split at hm
  ·split at hm
   ·injection hm with hm;subst hm
    exact Nk hop hd hN ‹_› ‹_› ‹_› h hv hn
   ·split at hm
    ·injection hm with hm;subst hm
     exact Dk hop rfl hd hN ‹_› ‹_› ‹_› h hv hn
    ·injection hm with hm;subst hm
     exact Dk hop rfl hd hN ‹_› ‹_› ‹_› h hv hn
    ·unfold CO at hm
     split at hm
     ·injection hm with hm;subst hm
      exact CZ hop rfl hd hN ‹_› ‹_› h hv hn
     ·injection hm with hm;subst hm
      exact CZ hop rfl hd hN ‹_› ‹_› h hv hn
     ·cases hm
  ·cases hm
 ·simp only[Option.map_eq_some_iff] at hm
  obtain⟨y,hy,rfl⟩:=hm
  exact LX hop hd hN hy h hv hn
 ·simp only[Option.map_eq_some_iff] at hm
  obtain⟨y,hy,rfl⟩:=hm
  exact LY hop hd hN hy h hv hn
 ·
  split at hm
  ·injection hm with hm;subst hm
   exact LZ hop hd hN ‹_› ‹_› ‹_› h hv hn
  ·injection hm with hm;subst hm
   exact Ng hop hd hN ‹_› ‹_› ‹_› h hv hn
  ·cases hm
 ·simp only[Option.map_eq_some_iff] at hm
  obtain⟨y,hy,rfl⟩:=hm
  exact L0 hop hd hN hy h hv hn
 ·simp only[Option.map_eq_some_iff] at hm
  obtain⟨y,hy,rfl⟩:=hm
  exact L7 hop hd hN hy h hv hn
 ·
  split at hm
  ·injection hm with hm;subst hm
   exact L6 hop hd hN ‹_› ‹_› h hv hn
  ·cases hm
 ·split at hm
  ·split at hm
   ·injection hm with hm
    split at hm
    ·subst hm
     exact M0 hop hd hN ‹_› ‹_› ‹_› ‹_› h hv hn
    ·subst hm
     exact L8 hop hd hN ‹_› ‹_› ‹_› ‹_› h hv hn
   ·cases hm
  ·cases hm
 ·split at hm
  ·split at hm
   ·injection hm with hm
    split at hm
    ·subst hm
     exact M8 hop hd hN ‹_› ‹_› ‹_› ‹_› ‹_› h hv hn
    ·subst hm
     exact M9 hop hd hN ‹_› ‹_› ‹_› ‹_› ‹_› h hv hn
   ·cases hm
  ·cases hm
 ·split at hm
  ·split at hm
   ·injection hm with hm;subst hm
    exact Nb hop hd hN ‹_› ‹_› ‹_› ‹_› h hv hn
   ·cases hm
  ·split at hm
   ·injection hm with hm;subst hm
    exact Nf hop hd hN ‹_› ‹_› ‹_› h hv hn
   ·cases hm
  ·cases hm
 ·split at hm
  ·split at hm
   ·injection hm with hm;subst hm
    exact Nc hop hd hN ‹_› ‹_› ‹_› ‹_› ‹_› h hv hn
   ·cases hm
  ·cases hm
 ·
  split at hm
  ·split at hm
   ·split at hm
    ·injection hm with hm;subst hm
     exact MP hop hd hN ‹_› ‹_› ‹_› ‹_› ‹_› h hv hn
    ·cases hm
   ·cases hm
  ·cases hm
 ·
  rename_i c
  obtain⟨callee,args,argTypes⟩:=c
  simp only[] at hm
  split at hm
  ·split at hm
   ·exact Nh hop hd hN hm h hv hn
   ·split at hm
    ·exact Ni hop hd hN hm h hv hn
    ·exact Nj hop hd hN hm h hv hn
  ·split at hm
   ·simp only[Option.map_eq_some_iff] at hm
    obtain⟨ms,Z9,hm⟩:=hm
    subst hm
    exact MN hop hd hN Z9 h hv hn
   simp only[Option.map_eq_some_iff] at hm
   obtain⟨ms,Z9,hm⟩:=hm
   split at hm
   ·subst hm
    exact M4 hop hd hN Z9 h hv hn
   ·subst hm
    exact MM hop hd hN Z9 h hv hn
  ·simp only[Option.map_eq_some_iff] at hm
   obtain⟨ms,Z9,hm⟩:=hm
   split at hm
   ·subst hm
    exact M5 hop hd hN Z9 h hv hn
   ·subst hm
    exact MO hop hd hN Z9 h hv hn
  ·cases hm
 ·cases hm
end
end Go.Z4
