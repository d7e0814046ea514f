/- Regions in the text's order. Operations whose order does not matter: those that hand back one value. Operations whose order does not matter: against those that make or write. A region that draws its order. A region that draws its order: the game over all orders, and its rule. A region that draws its order: its rule. What an operation leaves alone: the ghost. Operations inside a round, and beside deferred marks. Two parties over one world: what an outer party holds lasts while the inner one works. Operations on objects that are no cells: iterators over strings, maps. Maps whose keys are integers, or structs of integers. Regions inside the fence, with yields. A mutable slice that is written no more. A loop over an iterator: its record, its rounds; an iterator's contract. A block that is lent to a party for a round. -/
import Derived.Test.YtnncgmimhdplfaaGreatZA
import Derived.Orders
import Derived.RangeFuncNested
import Derived.OrdersIn
import Derived.TacticsIn
import Derived.Laws.RangeAny
import Derived.ChangeKeysEq
import Derived.Laws.IdiomRangeMap
namespace Go.aq
open Go.RowKit
section
variable {P:Program} {N:Nat} {s:St} {a:Act} {w:World} {A:aN} {sp:Sp} {K:St→Prop} {next:Act→World→Prop} {Q:Exit→Act→World→Prop} {o:Oper} {d:Nat}
theorem GZ{aG:cn}{m:MOp}(hm:agn P aG N o=some m)(h:RS N s a w A sp)(hv:vc1 P m s K)(hn:Next s w A sp N K next):o.wp P a w next Q:=by
 unfold agn at hm
 split at hm
 ·rename_i d hd
  split at hm
  ·exact Rj rfl hd ‹_› hm h hv hn
  ·cases hm
 ·rename_i hd
  split at hm
  ·rename_i t x hop
   split at hm
   ·split at hm
    ·rename_i hc
     injection hm with hm;subst hm
     exact Ql hop hd rfl hc.1 hc.2 h hv hn
    ·cases hm
   ·cases hm
  ·rename_i t x y hne hop
   split at hm
   ·split at hm
    ·rename_i k n y' hz hy hn0
     split at hm
     ·injection hm with hm;subst hm
      exact Qm hop hd hy hz hn0 h hv hn
     ·injection hm with hm;subst hm
      exact Gz hop hd rfl hy hz hn0 h hv hn
    ·cases hm
   ·cases hm
  ·cases hm
theorem AD{w:World}{A:aN}:RV w A (.tuple []) undef:=.tuple [] #[] rfl (fun i=>by simp;exact .any _)
theorem tP(a:Act)(v:Value):a.put none v=a:=rfl
theorem af3{aG:cn}{ops:Array Oper}{m:MOp}{rest:Act→World→Prop}(hm:trG P aG N ops o=some m)(h:RS N s a w A sp)(hv:vc1 P m s K)(hn:Next s w A sp N K rest):(if Region.wanted o (yielded ops a.tmps)=true then o.wp P a w rest Q∨(o.asks P a w∧LetsOut Q) else rest (a.put o.dst undef) w):=by
 unfold trG at hm
 split at hm
 ·rename_i hg
  have hw:Region.wanted o (yielded ops a.tmps)=true:=by simp[Region.wanted,hg]
  rw[if_pos hw]
  exact .inl (GZ hm h hv hn)
 ·rename_i j want hg
  split at hm
  ·rename_i g m' hj hm'
   split at hm
   ·rename_i tQ
    injection hm with hm;subst hm
    simp only[vc1] at hv
    split at hv
    ·rename_i b hb
     have he:=(h.env g).1
     rw[hb] at he
     have heb:=he.afE
     have gw:yielded ops a.tmps j=some b:=by
      unfold yielded
      rw[hj]
      have:a.tmps[g]? =some (.bool b):=by
       have hlt:g<a.tmps.size:=by rw[h.size];exact tQ
       rw[Array.getD_eq_getD_getElem?,Array.getElem?_eq_getElem hlt] at heb
       rw[Array.getElem?_eq_getElem hlt]
       simpa using heb
      simp[this]
     have hw:Region.wanted o (yielded ops a.tmps)=(b==want):=by simp[Region.wanted,hg,gw]
     by_cases pP:b=want
     ·rw[hw,if_pos (by simpa using pP)]
      exact .inl (GZ hm' h (hv.1 pP) hn)
     ·rw[hw,if_neg (by simpa using pP)]
      have hk:=hv.2 (by cases b<;>cases want<;>simp_all)
      cases hd:o.dst with
      |none=>
       rw[hd] at hk
       rw[tP]
       exact hn _ _ _ _ _ hk h (.refl _ _ _)
      |some d=>
       rw[hd] at hk
       have pQ:d<N:=by
        unfold agn at hm'
        rw[hd] at hm'
        simp only[] at hm'
        split at hm'
        ·assumption
        ·cases hm'
       exact hn _ _ _ _ _ hk (h.put pQ AD trivial) (.refl _ _ _)
    ·rename_i hb
     have he:=(h.env g).1
     rw[hb] at he
     have heb:a.tmps.getD g undef=.tuple #[]:=by
      generalize a.tmps.getD g undef=v at he
      cases he with
      |tuple _ vs hs hr=>
       have bg:vs= #[]:=Array.eq_empty_of_size_eq_zero (by simpa using hs)
       rw[bg]
     have gw:yielded ops a.tmps j=none:=by
      unfold yielded
      rw[hj]
      have:a.tmps[g]? =some (.tuple #[]):=by
       have hlt:g<a.tmps.size:=by rw[h.size];exact tQ
       rw[Array.getD_eq_getD_getElem?,Array.getElem?_eq_getElem hlt] at heb
       rw[Array.getElem?_eq_getElem hlt]
       simpa using heb
      simp[this]
     have hw:Region.wanted o (yielded ops a.tmps)=false:=by simp[Region.wanted,hg,gw]
     rw[if_neg (by rw[hw];simp)]
     cases hd:o.dst with
     |none=>
      rw[hd] at hv
      rw[tP]
      exact hn _ _ _ _ _ hv h (.refl _ _ _)
     |some d=>
      rw[hd] at hv
      have pQ:d<N:=by
       unfold agn at hm'
       rw[hd] at hm'
       simp only[] at hm'
       split at hm'
       ·assumption
       ·cases hm'
      exact hn _ _ _ _ _ hv (h.put pQ AD trivial) (.refl _ _ _)
    ·exact hv.elim
   ·cases hm
  ·cases hm
end
end Go.aq
namespace Go.aq
abbrev Loc:=Nat→Option (List AV)
def j5(e:ai→AV)(cs:List AV):List (Nat×Nat×ai)→(List AV→Prop)→Prop
 |[],K=>K cs
 |(off,n,x)::ps,K=>(e x).cells.length=n∧off+n≤cs.length∧j5 e (splice cs off ((e x).cells.map AV.erase0)) ps K
theorem G0(e:Nat→AV):∀(ps:List (Nat×Nat×ai)) (cs:List AV) (K:List AV→Prop),kS e cs ps K=j5 (fun x=>x.ev e) cs ps K
 |[],_,_=>rfl
 |(off,n,x)::ps,cs,K=>by simp only[kS,j5,G0 e ps]
theorem w9(e:ai→AV):∀(ps:List (Nat×Nat×ai)) (cs:List AV) (K K':List AV→Prop),(∀v,K v→K' v)→j5 e cs ps K→j5 e cs ps K'
 |[],_,_,_,h,hv=>h _ hv
 |_::ps,_,K,K',h,hv=>⟨hv.1,hv.2.1,w9 e ps _ K K' h hv.2.2⟩
theorem G1(e:ai→AV):∀(ps:List (Nat×Nat×ai)) (cs:List AV) (K:List AV→Prop),j5 e cs ps K→∃v,j5 e cs ps (· =v)∧K v
 |[],cs,K,hv=>⟨cs,rfl,hv⟩
 |(off,n,x)::ps,cs,K,hv=>by
  obtain⟨v,h1,h2⟩:=G1 e ps _ K hv.2.2
  exact⟨v,⟨hv.1,hv.2.1,h1⟩,h2⟩
theorem AE(e e':ai→AV):∀(ps:List (Nat×Nat×ai)) (cs:List AV) (K:List AV→Prop),(∀x∈ps.map (·.2.2),(e x).cells.length=(e' x).cells.length∧(e x).cells.map AV.erase0=(e' x).cells.map AV.erase0)→j5 e cs ps K=j5 e' cs ps K
 |[],_,_,_=>rfl
 |(off,n,x)::ps,cs,K,h=>by
  obtain⟨h1,h2⟩:=h x (by simp)
  simp only[j5,h1,h2,AE e e' ps _ K (fun y hy=>h y (by simp at hy⊢;exact .inr hy))]
def pv(P:Program)(e:ai→AV)(l:Loc):MOp→(AV→Prop)→Prop
 |.af _ x,K=>K (e x)
 |.aev _ x,K=>K (e x).erase
 |.lV _ x,K=>match e x with
  |.lit (.string t)=>K (.lit (.string t))
  |_=>False
 |.aU _ x n,K=>(e x).cells.length=n∧K (.ref ((e x).cells.map AV.erase0))
 |.load _ x n,K=>cJ l (e x) n K
 |.addr _ x off,K=>match e x with
  |.ref cs=>K (.ref (cs.drop off))
  |.au b o=>K (.au b (o+off))
  |_=>False
 |.aK _ x i sz,K=>match e x,e i with
  |.slice sz' xs _,.lit (.int _ n)=>sz'=sz∧0≤n∧n<xs.length∧K (.ref (xs.getD n.toNat .any).cells)
  |.aV b off len _ sz',.lit (.int _ n)=>sz'=sz∧0≤n∧n<len∧K (.au b (off+n.toNat*sz))
  |_,_=>False
 |.cw _ x i len sz,K=>match e x,e i with
  |.ref cs,.lit (.int _ n)=>0≤n∧n<len∧K (.ref (cs.drop (n.toNat*sz)))
  |.au b off,.lit (.int _ n)=>0≤n∧n<len∧K (.au b (off+n.toNat*sz))
  |_,_=>False
 |.iy _ x n,K=>match e x with
  |.ref cs=>cx cs 0 n fun v=>K v.erase
  |_=>False
 |.iW _ x off n,K=>match e x with
  |.agg cs=>cx cs off n fun v=>K v.erase
  |_=>False
 |.iu _ x i len sz n,K=>match e x,e i with
  |.agg cs,.lit (.int _ j)=>0≤j∧j<len∧cx cs (j.toNat*sz) n fun v=>K v.erase
  |_,_=>False
 |.dF _ x i,K=>match e x,e i with
  |.lit (.string t),.lit (.int _ j)=>0≤j∧j<t.size∧K (.lit (.int .u8 (t.data.toList.getD j.toNat 0).toNat))
  |_,_=>False
 |.len _ x,K=>match e x with
  |.slice _ xs _=>K (.lit (.int .i64 xs.length))
  |.aV _ _ len _ _=>K (.lit (.int .i64 len))
  |_=>False
 |.aez _ x,K=>match e x with
  |.lit (.string t)=>K (.lit (.int .i64 t.size))
  |_=>False
 |.kP _ n,K=>K (.lit (.int .i64 n))
 |.bin _ op x y,K=>cU op (e x) (e y) K
 |.iw _ neg x y,K=>match e x,e y with
  |.lit (.bool a),.lit (.bool b)=>K (.lit (.bool (if neg then !(a==b) else a==b)))
  |_,_=>False
 |.build _ z ps,K=>j5 e z ps fun cs=>K (.agg cs)
 |.ff _ neg n x y,K=>match e x,e y with
  |.agg a,.agg b=>a.length=n.length∧b.length=n.length∧∃q,dh n a b=some q∧K (.lit (.bool (if neg then !q else q)))
  |_,_=>False
 |.not _ x,K=>match e x with
  |.lit (.bool a)=>K (.lit (.bool (!a)))
  |_=>False
 |.neg _ x,K=>match e x with
  |.lit (.int k a)=>gu k (0 - a)∧K (.lit (.int k (0 - a)))
  |_=>False
 |.conv _ k x,K=>match e x with
  |.lit (.int _ a)=>K (.lit (.int k (k.wrap a)))
  |_=>False
 |.pick _ c x y,K=>match e c with
  |.lit (.bool b)=>K (if b then e x else e y)
  |_=>False
 |.ext _ x i,K=>match e x with
  |.tuple vs=>i<vs.length∧K (vs.getD i .any).erase
  |_=>False
 |.aeU _ x y,K=>match e x,e y with
  |.lit (.int k a),.lit (.int _ b)=>K (.lit (.int k (if b>a then b else a)))
  |_,_=>False
 |.iz _ x y,K=>match e x,e y with
  |.lit (.int k a),.lit (.int _ b)=>K (.lit (.int k (if b<a then b else a)))
  |_,_=>False
 |.call _ f xs,K=>∃r,aed P f (xs.map fun x=>(e x).erase) r∧K r.erase
 |.dg _ x,K=>match e x with
  |.ref cs=>K (.ref cs)
  |.au b o=>K (.au b o)
  |_=>False
 |.iX _ x hi sz,K=>match e x,e hi with
  |.slice sz' xs _,.lit (.int _ n)=>(sz'=sz∨xs=[])∧0≤n∧n≤xs.length∧K (.slice sz (xs.take n.toNat) 0)
  |_,_=>False
 |.kQ _ x lo sz,K=>match e x,e lo with
  |.slice sz' xs _,.lit (.int _ n)=>(sz'=sz∨xs=[])∧0≤n∧n≤xs.length∧K (.slice sz (xs.drop n.toNat) 0)
  |_,_=>False
 |.guard g want (some _) m,K=>match e (.t g) with
  |.lit (.bool b)=>(b=want→pv P e l m K)∧(b=(!want)→K (.tuple []))
  |.tuple []=>K (.tuple [])
  |_=>False
 |_,_=>False
def w_:ai→Bool
 |.t _=>true
 |.c (.slice _ _ r)=>r==0
 |.c _=>true
def eC:MOp→Option (Nat×List ai)
 |.af d x|.aev d x|.lV d x|.aU d x _|.load d x _|.iy d x _|.addr d x _|.iW d x _ _|.len d x|.aez d x|.not d x|.neg d x|.conv d _ x|.ext d x _|.dg d x=>some (d,[x])
 |.aK d x y _|.cw d x y _ _|.iu d x y _ _ _|.dF d x y|.bin d _ x y|.iw d _ x y|.aeU d x y|.iz d x y|.iX d x y _|.kQ d x y _|.ff d _ _ x y=>some (d,[x,y])
 |.build d _ ps=>some (d,ps.map (·.2.2))
 |.kP d _=>some (d,[])
 |.pick d c x y=>some (d,[c,x,y])
 |.call d _ xs=>some (d,xs)
 |.guard g _ (some d) m=>match eC m with
  |some (d',xs)=>if d'=d then some (d,.t g::xs) else none
  |none=>none
 |_=>none
theorem eZ(P:Program):∀(m:MOp) (d:Nat) (rd:List ai),eC m=some (d,rd)→∀(s:St) (K:St→Prop),vc1 P m s K=pv P (fun x=>x.ev s.env) s.loc m (fun v=>K (s.set d v)):=by
 intro m
 induction m with
 |guard g want d m ih=>
  intro d' rd h s K
  cases d with
  |none=>cases h
  |some d=>
   simp only[eC] at h
   split at h
   ·rename_i d2 xs hm
    split at h
    ·rename_i e
     subst e
     injection h with h;injection h with h1 h2;subst h1
     have hg:ai.ev s.env (.t g)=s.env g:=rfl
     simp only[vc1,pv,hg]
     cases s.env g<;>first|rfl|skip
     ·rename_i v
      cases v<;>first|rfl|skip
      simp only[ih d2 xs hm s K]
     ·rename_i vs
      cases vs<;>rfl
    ·cases h
   ·cases h
 |build d z ps=>intro d' rd h s K;injection h with h;injection h with h1 h2;subst h1;exact G0 _ _ _ _
 |_=>intro d rd h s K;first|(cases h;done)|(injection h with h;injection h with h1 h2;subst h1;first|rfl|(simp only[vc1,pv];rfl))
theorem afO{cs:List AV}{off:Nat}{n:Option Nat}{K K':AV→Prop}(h:∀v,K v→K' v)(hv:cx cs off n K):cx cs off n K':=by cases n<;>exact⟨hv.1,h _ hv.2⟩
theorem tR{cs:List AV}{off:Nat}{n:Option Nat}{K:AV→Prop}(hv:cx cs off n K):∃v,cx cs off n (· =v)∧K v:=by cases n<;>exact⟨_,⟨hv.1,rfl⟩,hv.2⟩
theorem Rk{l:Loc}{x:AV}{n:Option Nat}{K K':AV→Prop}(h:∀v,K v→K' v)(hv:cJ l x n K):cJ l x n K':=by
 cases x with
 |ref cs=>exact afO (fun v=>h _) hv
 |au b off=>
  simp only[cJ] at hv⊢
  cases hl:l b with
  |none=>rw[hl] at hv;exact hv.elim
  |some cs=>rw[hl] at hv;exact afO h hv
 |_=>exact hv.elim
theorem Rl{l:Loc}{x:AV}{n:Option Nat}{K:AV→Prop}(hv:cJ l x n K):∃v,cJ l x n (· =v)∧K v:=by
 cases x with
 |ref cs=>
  obtain⟨v,h1,h2⟩:=tR (K:=fun v=>K v.erase) hv
  exact⟨_,show cx cs 0 n (fun u=>u.erase=v.erase) from afO (fun u e=>by rw[e]) h1,h2⟩
 |au b off=>
  simp only[cJ] at hv⊢
  cases hl:l b with
  |none=>rw[hl] at hv;exact hv.elim
  |some cs=>rw[hl] at hv;exact tR hv
 |_=>exact hv.elim
theorem AF{op:BinOp}{x y:AV}{K:AV→Prop}(hv:cU op x y K):∃v,cU op x y (· =v)∧K v:=by
 unfold cU at*
 split at hv
 ·split at hv
  ·exact⟨_,⟨hv.1,rfl⟩,hv.2⟩
  ·exact⟨_,⟨hv.1,rfl⟩,hv.2⟩
  ·obtain⟨hk,hv⟩:=hv
   rename_i n1 n2
   cases op<;>simp only[aeF] at hv⊢ <;>first
    |exact hv.elim
    |exact⟨_,⟨hk,hv.1,hv.2.1,rfl⟩,hv.2.2⟩
    |exact⟨_,⟨hk,hv.1,rfl⟩,hv.2⟩
    |exact⟨_,⟨hk,rfl⟩,hv⟩
    |exact(n1 rfl).elim
    |exact(n2 rfl).elim
 ·cases op<;>simp only[lZ] at hv⊢ <;>first
   |exact hv.elim
   |exact⟨_,rfl,hv⟩
 ·exact hv.elim
theorem Rm{op:BinOp}{x y:AV}{K K':AV→Prop}(h:∀v,K v→K' v)(hv:cU op x y K):cU op x y K':=by
 unfold cU at*
 split at hv
 ·split at hv
  ·exact⟨hv.1,h _ hv.2⟩
  ·exact⟨hv.1,h _ hv.2⟩
  ·refine⟨hv.1,?_⟩
   have hv:=hv.2
   rename_i n1 n2
   cases op<;>simp only[aeF] at hv⊢ <;>first
    |exact hv.elim
    |exact⟨hv.1,hv.2.1,h _ hv.2.2⟩
    |exact⟨hv.1,h _ hv.2⟩
    |exact h _ hv
    |exact(n1 rfl).elim
    |exact(n2 rfl).elim
 ·cases op<;>simp only[lZ] at hv⊢ <;>first
   |exact hv.elim
   |exact h _ hv
 ·exact hv.elim
theorem jw(P:Program)(e:ai→AV)(l:Loc):∀(m:MOp) (K K':AV→Prop),(∀v,K v→K' v)→pv P e l m K→pv P e l m K':=by
 intro m
 induction m with
 |guard g want d m ih=>
  intro K K' h hv
  cases d with
  |none=>exact hv
  |some d=>
   simp only[pv] at hv⊢
   split at hv
   ·exact⟨fun hb=>ih K K' h (hv.1 hb),fun hb=>h _ (hv.2 hb)⟩
   ·exact h _ hv
   ·exact hv
 |load d x n=>intro K K' h hv;exact Rk h hv
 |bin d op x y=>intro K K' h hv;exact Rm h hv
 |call d f xs=>intro K K' h ⟨r,h1,h2⟩;exact⟨r,h1,h _ h2⟩
 |build d z ps=>intro K K' h hv;exact w9 e ps z _ _ (fun _=>h _) hv
 |ff d neg n x y=>
  intro K K' h hv;simp only[pv] at hv⊢;split at hv
  ·obtain⟨h1,h2,q,h3,h4⟩:=hv;exact⟨h1,h2,q,h3,h _ h4⟩
  ·exact hv
 |iy d x n=>
  intro K K' h hv;simp only[pv] at hv⊢;split at hv
  ·exact afO (fun v=>h _) hv
  ·exact hv
 |iW d x off n=>
  intro K K' h hv;simp only[pv] at hv⊢;split at hv
  ·exact afO (fun v=>h _) hv
  ·exact hv
 |iu d x i len sz n=>
  intro K K' h hv;simp only[pv] at hv⊢;split at hv
  ·exact⟨hv.1,hv.2.1,afO (fun v=>h _) hv.2.2⟩
  ·exact hv
 |_=>
  intro K K' h hv
  simp only[pv] at hv⊢ <;>first
   |exact h _ hv
   |exact⟨hv.1,h _ hv.2⟩
   |(split at hv<;>first|exact hv|exact h _ hv|exact⟨hv.1,h _ hv.2⟩|exact⟨hv.1,hv.2.1,h _ hv.2.2⟩|exact⟨hv.1,hv.2.1,hv.2.2.1,h _ hv.2.2.2⟩)
   |exact hv
theorem pR(P:Program)(e:ai→AV)(l:Loc):∀(m:MOp) (K:AV→Prop),pv P e l m K→∃v,pv P e l m (· =v)∧K v:=by
 intro m
 induction m with
 |guard g want d m ih=>
  intro K hv
  cases d with
  |none=>exact hv.elim
  |some d=>
   simp only[pv] at hv⊢
   split at hv
   ·rename_i b hb
    by_cases h1:b=want
    ·obtain⟨v,h2,h3⟩:=ih K (hv.1 h1)
     exact⟨v,⟨fun _=>h2,fun h4=>absurd (h1.symm.trans h4) (by cases want<;>decide)⟩,h3⟩
    ·have h4:b= !want:=by revert h1;cases b<;>cases want<;>decide
     exact⟨.tuple [],⟨fun h5=>absurd h5 h1,fun _=>rfl⟩,hv.2 h4⟩
   ·exact⟨_,rfl,hv⟩
   ·exact hv.elim
 |load d x n=>intro K hv;exact Rl hv
 |bin d op x y=>intro K hv;exact AF hv
 |call d f xs=>intro K ⟨r,h1,h2⟩;exact⟨_,⟨r,h1,rfl⟩,h2⟩
 |build d z ps=>
  intro K hv
  obtain⟨cs,h1,h2⟩:=G1 e ps z _ hv
  exact⟨.agg cs,w9 e ps z _ _ (fun _ h=>by rw[h]) h1,h2⟩
 |ff d neg n x y=>
  intro K hv;simp only[pv] at hv⊢;split at hv
  ·obtain⟨h1,h2,q,h3,h4⟩:=hv;exact⟨_,⟨h1,h2,q,h3,rfl⟩,h4⟩
  ·exact hv.elim
 |iy d x n=>
  intro K hv;simp only[pv] at hv⊢;split at hv
  ·obtain⟨v,h1,h2⟩:=tR hv
   exact⟨_,afO (fun u e=>by rw[e]) h1,h2⟩
  ·exact hv.elim
 |iW d x off n=>
  intro K hv;simp only[pv] at hv⊢;split at hv
  ·obtain⟨v,h1,h2⟩:=tR hv
   exact⟨_,afO (fun u e=>by rw[e]) h1,h2⟩
  ·exact hv.elim
 |iu d x i len sz n=>
  intro K hv;simp only[pv] at hv⊢;split at hv
  ·obtain⟨v,h1,h2⟩:=tR hv.2.2
   exact⟨_,⟨hv.1,hv.2.1,afO (fun u e=>by rw[e]) h1⟩,h2⟩
  ·exact hv.elim
 |_=>
  intro K hv
  simp only[pv] at hv⊢ <;>first
   |exact⟨_,rfl,hv⟩
   |exact⟨_,⟨hv.1,rfl⟩,hv.2⟩
   |(split at hv<;>first|exact hv.elim|exact⟨_,rfl,hv⟩|exact⟨_,⟨hv.1,rfl⟩,hv.2⟩|exact⟨_,⟨hv.1,hv.2.1,rfl⟩,hv.2.2⟩|exact⟨_,⟨hv.1,hv.2.1,hv.2.2.1,rfl⟩,hv.2.2.2⟩)
   |exact hv.elim
theorem xb(P:Program)(e e':ai→AV)(l:Loc):∀(m:MOp) (d:Nat) (rd:List ai),eC m=some (d,rd)→(∀x∈rd,e x=e' x)→∀K,pv P e l m K=pv P e' l m K:=by
 intro m
 induction m with
 |guard g want d m ih=>
  intro d' rd h he K
  cases d with
  |none=>cases h
  |some d=>
   simp only[eC] at h
   split at h
   ·rename_i d2 xs hm
    split at h
    ·injection h with h;injection h with h1 h2;subst h2
     simp only[pv,he (.t g) (by simp),ih d2 xs hm (fun x hx=>he x (by simp[hx])) K]
    ·cases h
   ·cases h
 |build d z ps=>
  intro d' rd h he K
  injection h with h;injection h with h1 h2;subst h2
  exact AE e e' ps z _ (fun x hx=>by rw[he x hx];exact⟨rfl,rfl⟩)
 |call d f xs=>
  intro d' rd h he K
  injection h with h;injection h with h1 h2;subst h2
  have:xs.map (fun x=>(e x).erase)=xs.map (fun x=>(e' x).erase):=List.map_congr_left fun x hx=>by rw[he x hx]
  simp only[pv,this]
 |_=>
  intro d' rd h he K
  first
   |(cases h;done)
   |(injection h with h;injection h with h1 h2;subst h2;simp only[pv,he _ (List.mem_cons_self ..),he _ (List.mem_cons_of_mem _ (List.mem_cons_self ..)),he _ (List.mem_cons_of_mem _ (List.mem_cons_of_mem _ (List.mem_cons_self ..)))];done)
   |(injection h with h;injection h with h1 h2;subst h2;simp only[pv,he _ (List.mem_cons_self ..),he _ (List.mem_cons_of_mem _ (List.mem_cons_self ..))];done)
   |(injection h with h;injection h with h1 h2;subst h2;simp only[pv,he _ (List.mem_cons_self ..)];done)
   |(injection h with h;injection h with h1 h2;subst h2;simp only[pv];done)
end Go.aq
namespace Go.aq
def iE:MOp→List ai
 |.load _ x _=>[x]
 |.guard _ _ _ m=>iE m
 |_=>[]
theorem G2(P:Program)(e:ai→AV)(l l':Loc):∀(m:MOp),(∀z∈iE m,∀b o,e z=.au b o→l' b=l b)→∀K,pv P e l m K=pv P e l' m K:=by
 intro m
 induction m with
 |guard g want d m ih=>
  intro h K
  cases d with
  |none=>rfl
  |some d=>simp only[pv,ih h K]
 |load d x n=>
  intro h K
  have h:=h x (by simp[iE])
  simp only[pv]
  unfold cJ
  cases hx:e x with
  |au b o=>simp only[h b o hx]
  |_=>rfl
 |_=>intro h K;rfl
theorem Rn(P:Program)(e:ai→AV)(l:Loc)(b:Nat)(cs:List AV)(hb:l b=none):∀(m:MOp) (K:AV→Prop),pv P e l m K→pv P e (aD l b (some cs)) m K:=by
 intro m
 induction m with
 |guard g want d m ih=>
  intro K hv
  cases d with
  |none=>exact hv
  |some d=>
   simp only[pv] at hv⊢
   split at hv
   ·exact⟨fun h=>ih K (hv.1 h),hv.2⟩
   ·exact hv
   ·exact hv
 |load d x n=>
  intro K hv
  simp only[pv] at hv⊢
  unfold cJ at hv⊢
  cases hx:e x with
  |au b' o=>
   rw[hx] at hv
   simp only at hv⊢
   by_cases j6:b'=b
   ·subst j6;rw[hb] at hv;exact hv.elim
   ·rw[bE _ _ j6];exact hv
  |ref cs=>rw[hx] at hv;exact hv
  |_=>rw[hx] at hv;exact hv.elim
 |_=>intro K hv;exact hv
def AG(r:Nat)(l:Loc):Loc:=fun b=>(l b).map (·.map (aC r))
theorem rj(r:Nat)(x:AV):aC r x.erase=x.erase:=by
 cases x<;>first|rfl|skip
 simp only[AV.erase,aC];split<;>rfl
theorem tS(r:Nat)(x:AV):(aC r x).erase=x.erase:=by
 cases x<;>first|rfl|skip
 simp only[aC];split<;>rfl
theorem Ro(r:Nat)(x:AV):(aC r x).erase0=x.erase0:=by
 cases x<;>first|rfl|skip
 simp only[aC];split<;>rfl
theorem G3(r:Nat)(x:AV):(aC r x).cells.map AV.erase0=x.cells.map AV.erase0:=by
 cases x<;>first|rfl|skip
 simp only[aC];split<;>rfl
theorem tT(r:Nat)(x:AV):(aC r x).cells.length=x.cells.length:=by
 cases x<;>first|rfl|skip
 simp only[aC];split<;>rfl
theorem AH(r:Nat)(x:AV):(aC r x).cells.all AV.bK=x.cells.all AV.bK:=by
 cases x<;>first|rfl|skip
 simp only[aC];split<;>rfl
theorem ag0(r sz:Nat)(xs:List AV)(q:Nat):∃q',aC r (.slice sz xs q)=.slice sz xs q'∧(q=0→q'=0):=by
 simp only[aC];split
 ·exact⟨0,rfl,fun _=>rfl⟩
 ·exact⟨q,rfl,id⟩
theorem tU(r sz:Nat)(xs:List AV):aC r (.slice sz xs 0)=.slice sz xs 0:=by simp only[aC];split<;>rfl
theorem ag1{cs:List AV}{off:Nat}{n:Option Nat}{v:AV}(r:Nat)(hv:cx cs off n (fun u=>u.erase=v)):cx cs off n (fun u=>u.erase=aC r v):=by
 cases n with
 |none=>exact⟨hv.1,by rw[←hv.2,rj]⟩
 |some n=>exact⟨hv.1,by rw[←hv.2,rj]⟩
theorem Rp(P:Program)(e e':ai→AV)(l:Loc)(r:Nat):∀(m:MOp) (d:Nat) (rd:List ai),eC m=some (d,rd)→(∀x∈rd,e' x=aC r (e x))→∀v,pv P e l m (· =v)→pv P e' (AG r l) m (· =aC r v):=by
 intro m
 induction m with
 |guard g want d m ih=>
  intro d' rd h he v hv
  cases d with
  |none=>exact hv
  |some d=>
   simp only[eC] at h
   split at h
   ·rename_i d2 xs hm
    split at h
    ·injection h with h;injection h with h1 h2;subst h2
     simp only[pv] at hv⊢
     rw[he (.t g) (by simp)]
     split at hv
     ·rename_i b hb
      rw[hb]
      exact⟨fun h=>ih d2 xs hm (fun x hx=>he x (by simp[hx])) v (hv.1 h),fun h=>by rw[←hv.2 h];rfl⟩
     ·rename_i hb
      rw[hb,←hv];rfl
     ·exact hv.elim
    ·cases h
   ·cases h
 |call d f xs=>
  intro d' rd h he v ⟨q,h1,h2⟩
  injection h with h;injection h with h3 h4;subst h4
  have:xs.map (fun x=>(e' x).erase)=xs.map (fun x=>(e x).erase):=List.map_congr_left fun x hx=>by rw[he x hx,tS]
  refine⟨q,by rw[this];exact h1,?_⟩
  rw[←h2,rj]
 |build d z ps=>
  intro d' rd h he v hv
  injection h with h;injection h with h3 h4;subst h4
  have:=AE e e' ps z (fun cs=>AV.agg cs=aC r v) (fun x hx=>by rw[he x hx,tT,G3];exact⟨rfl,rfl⟩)
  show j5 e' z ps _
  rw[←this]
  exact w9 e ps z _ _ (fun cs h=>by rw[←h];rfl) hv
 |ff d neg n x y=>
  intro d' rd h he v hv;injection h with h;injection h with h3 h4;subst h4
  simp only[pv] at hv⊢
  rw[he x (by simp),he y (by simp)]
  split at hv
  ·rename_i a b e1 e2
   obtain⟨h1,h2,q,h5,h6⟩:=hv
   rw[e1,e2,←h6]
   exact⟨h1,h2,q,h5,rfl⟩
  ·exact hv.elim
 |load d x n=>
  intro d' rd h he v hv
  injection h with h;injection h with h3 h4;subst h4
  simp only[pv] at hv⊢
  rw[he x (by simp)]
  cases hx:e x with
  |ref cs=>rw[hx] at hv;exact ag1 r hv
  |au b o=>
   rw[hx] at hv
   show cJ (AG r l) (.au b o) n _
   simp only[cJ,AG] at hv⊢
   cases hl:l b with
   |none=>rw[hl] at hv;exact hv.elim
   |some cs=>
    rw[hl] at hv
    simp only[Option.map_some] at hv⊢
    cases n with
    |none=>
     refine⟨by simpa using hv.1,?_⟩
     rw[←hv.2]
     have:=hv.1
     simp only[List.getD_eq_getElem?_getD,List.getElem?_map,List.getElem?_eq_getElem this,Option.map_some,Option.getD_some]
    |some k=>
     refine⟨by simpa using hv.1,?_⟩
     rw[←hv.2,rj]
     simp only[AV.erase,←List.map_drop,←List.map_take,List.map_map]
     congr 1
     refine List.map_congr_left fun x _=> ?_
     exact Ro r x
  |_=>rw[hx] at hv;exact hv.elim
 |af d x=>intro d' rd h he v hv;injection h with h;injection h with h3 h4;subst h4;simp only[pv] at hv⊢;rw[he x (by simp),hv]
 |aev d x=>intro d' rd h he v hv;injection h with h;injection h with h3 h4;subst h4;simp only[pv] at hv⊢;rw[he x (by simp),tS,←hv,rj]
 |aU d x n=>intro d' rd h he v hv;injection h with h;injection h with h3 h4;subst h4;simp only[pv] at hv⊢;rw[he x (by simp),G3,tT,←hv.2];exact⟨hv.1,rfl⟩
 |pick d c x y=>
  intro d' rd h he v hv;injection h with h;injection h with h3 h4;subst h4
  simp only[pv] at hv⊢
  rw[he c (by simp),he x (by simp),he y (by simp)]
  split at hv
  ·rename_i b hb
   rw[hb,←hv]
   cases b<;>rfl
  ·exact hv.elim
 |ext d x i=>
  intro d' rd h he v hv;injection h with h;injection h with h3 h4;subst h4
  simp only[pv] at hv⊢
  rw[he x (by simp)]
  split at hv
  ·rename_i vs hb
   rw[hb,←hv.2,rj]
   exact⟨hv.1,rfl⟩
  ·exact hv.elim
 |aK d x i sz=>
  intro d' rd h he v hv;injection h with h;injection h with h3 h4;subst h4
  simp only[pv] at hv⊢
  rw[he x (by simp),he i (by simp)]
  split at hv
  ·rename_i sz' xs q k n e1 e2
   obtain⟨q',h5,_⟩:=ag0 r sz' xs q
   rw[e1,e2,h5,←hv.2.2.2]
   exact⟨hv.1,hv.2.1,hv.2.2.1,rfl⟩
  ·rename_i b off len cap sz' k n e1 e2
   rw[e1,e2,←hv.2.2.2]
   exact⟨hv.1,hv.2.1,hv.2.2.1,rfl⟩
  ·exact hv.elim
 |len d x=>
  intro d' rd h he v hv;injection h with h;injection h with h3 h4;subst h4
  simp only[pv] at hv⊢
  rw[he x (by simp)]
  split at hv
  ·rename_i sz' xs q e1
   obtain⟨q',h5,_⟩:=ag0 r sz' xs q
   rw[e1,h5,←hv];rfl
  ·rename_i e1
   rw[e1,←hv];rfl
  ·exact hv.elim
 |iX d x i sz=>
  intro d' rd h he v hv;injection h with h;injection h with h3 h4;subst h4
  simp only[pv] at hv⊢
  rw[he x (by simp),he i (by simp)]
  split at hv
  ·rename_i sz' xs q k n e1 e2
   obtain⟨q',h5,_⟩:=ag0 r sz' xs q
   rw[e1,e2,h5,←hv.2.2.2,tU]
   exact⟨hv.1,hv.2.1,hv.2.2.1,rfl⟩
  ·exact hv.elim
 |kQ d x i sz=>
  intro d' rd h he v hv;injection h with h;injection h with h3 h4;subst h4
  simp only[pv] at hv⊢
  rw[he x (by simp),he i (by simp)]
  split at hv
  ·rename_i sz' xs q k n e1 e2
   obtain⟨q',h5,_⟩:=ag0 r sz' xs q
   rw[e1,e2,h5,←hv.2.2.2,tU]
   exact⟨hv.1,hv.2.1,hv.2.2.1,rfl⟩
  ·exact hv.elim
 |iy d x n=>
  intro d' rd h he v hv;injection h with h;injection h with h3 h4;subst h4
  simp only[pv] at hv⊢
  rw[he x (by simp)]
  split at hv
  ·rename_i cs e1;rw[e1];exact ag1 r hv
  ·exact hv.elim
 |iW d x off n=>
  intro d' rd h he v hv;injection h with h;injection h with h3 h4;subst h4
  simp only[pv] at hv⊢
  rw[he x (by simp)]
  split at hv
  ·rename_i cs e1;rw[e1];exact ag1 r hv
  ·exact hv.elim
 |iu d x i len sz n=>
  intro d' rd h he v hv;injection h with h;injection h with h3 h4;subst h4
  simp only[pv] at hv⊢
  rw[he x (by simp),he i (by simp)]
  split at hv
  ·rename_i cs k j e1 e2;rw[e1,e2];exact⟨hv.1,hv.2.1,ag1 r hv.2.2⟩
  ·exact hv.elim
 |bin d op x y=>
  intro d' rd h he v hv;injection h with h;injection h with h3 h4;subst h4
  simp only[pv] at hv⊢
  rw[he x (by simp),he y (by simp)]
  obtain⟨u,h5,h6⟩:=AF hv
  have h6:u=v:=h6
  subst h6
  have Rq:∃val,u=.lit val:=by
   have:=AF hv
   unfold cU at hv
   split at hv
   ·split at hv
    ·exact⟨_,hv.2.symm⟩
    ·exact⟨_,hv.2.symm⟩
    ·rename_i n1 n2
     have hv:=hv.2
     cases op<;>simp only[aeF] at hv<;>first
      |exact hv.elim
      |exact⟨_,hv.2.2.symm⟩
      |exact⟨_,hv.2.symm⟩
      |exact⟨_,hv.symm⟩
      |exact(n1 rfl).elim
      |exact(n2 rfl).elim
   ·cases op<;>simp only[lZ] at hv<;>first
     |exact hv.elim
     |exact⟨_,hv.symm⟩
   ·exact hv.elim
  obtain⟨val,rfl⟩:=Rq
  have hxy:cU op (aC r (e x)) (aC r (e y))=cU op (e x) (e y):=by
   unfold cU at hv
   split at hv
   ·rename_i e1 e2;rw[e1,e2];rfl
   ·rename_i e1 e2;rw[e1,e2];rfl
   ·exact hv.elim
  rw[hxy]
  exact h5
 |addr d x off=>
  intro d' rd h he v hv;injection h with h;injection h with h3 h4;subst h4
  simp only[pv] at hv⊢
  rw[he x (by simp)]
  split at hv<;>first|exact hv.elim|(rename_i e1;rw[e1,←hv];rfl)
 |cw d x i len sz=>
  intro d' rd h he v hv;injection h with h;injection h with h3 h4;subst h4
  simp only[pv] at hv⊢
  rw[he x (by simp),he i (by simp)]
  split at hv<;>first|exact hv.elim|(rename_i e1 e2;rw[e1,e2,←hv.2.2];exact⟨hv.1,hv.2.1,rfl⟩)
 |dF d x i=>
  intro d' rd h he v hv;injection h with h;injection h with h3 h4;subst h4
  simp only[pv] at hv⊢
  rw[he x (by simp),he i (by simp)]
  split at hv<;>first|exact hv.elim|(rename_i e1 e2;rw[e1,e2,←hv.2.2];exact⟨hv.1,hv.2.1,rfl⟩)
 |kP d n=>intro d' rd h he v hv;simp only[pv] at hv⊢;rw[←hv];rfl
 |neg d x=>
  intro d' rd h he v hv;injection h with h;injection h with h3 h4;subst h4
  simp only[pv] at hv⊢
  rw[he x (by simp)]
  split at hv<;>first|exact hv.elim|(rename_i e1;rw[e1,←hv.2];exact⟨hv.1,rfl⟩)
 |lV d x|aez d x|not d x|conv d k x|dg d x=>
  intro d' rd h he v hv;injection h with h;injection h with h3 h4;subst h4
  simp only[pv] at hv⊢
  rw[he x (by simp)]
  split at hv<;>first|exact hv.elim|(rename_i e1;rw[e1,←hv];rfl)
 |iw d neg x y|aeU d x y|iz d x y=>
  intro d' rd h he v hv;injection h with h;injection h with h3 h4;subst h4
  simp only[pv] at hv⊢
  rw[he x (by simp),he y (by simp)]
  split at hv<;>first|exact hv.elim|(rename_i e1 e2;rw[e1,e2,←hv];rfl)
 |_=>intro d' rd h;cases h
end Go.aq
namespace Go.aq
open Go.RowKit
def tV(k:Nat):ai→Bool
 |.t n=>n==k
 |_=>false
def bV(d:Nat)(xs:List ai):Bool:=xs.all fun x=> !tV d x
def fm(xs:List ai):Bool:=xs.all w_
theorem cL{s:St}{d:Nat}{v:AV}{x:ai}(h:tV d x=false):x.ev (s.set d v).env=x.ev s.env:=by
 cases x with
 |t n=>simp[tV] at h;simp[ai.ev,St.set,aD,h]
 |c y=>rfl
theorem pS{s:St}{r:Nat}{x:ai}(h:w_ x=true):x.ev (s.aT r).env=aC r (x.ev s.env):=by
 cases x with
 |t n=>rfl
 |c y=>
  cases y<;>first|rfl|skip
  simp[w_] at h
  subst h
  exact(tU r _ _).symm
theorem cM{d:Nat}{xs:List ai}(h:bV d xs=true){x:ai}(hx:x∈xs):tV d x=false:=by have:=(List.all_eq_true.1 h) x hx;simpa using this
theorem set_comm(s:St){d k:Nat}(x y:AV)(h:d≠k):(s.set d x).set k y=(s.set k y).set d x:=by simp only[St.set];rw[wJ _ _ _ h]
theorem j7(s:St)(r d:Nat)(x:AV):(s.set d x).aT r=(s.aT r).set d (aC r x):=by
 simp only[St.set,St.aT]
 congr 1
 funext k
 simp only[aD];split<;>rfl
theorem G4(s:St)(b d:Nat)(cs:List AV)(x:AV):(s.set d x).new b cs=(s.new b cs).set d x:=rfl
theorem Rr:∀(y:MOp) (d:Nat) (rd:List ai),eC y=some (d,rd)→∀z∈iE y,z∈rd:=by
 intro y
 induction y with
 |guard g want d m ih=>
  intro d' rd h z hz
  cases d with
  |none=>cases h
  |some d=>
   simp only[eC] at h
   split at h
   ·rename_i d2 xs hm
    split at h
    ·injection h with h;injection h with h1 h2;subst h2
     exact List.mem_cons_of_mem _ (ih d2 xs hm z hz)
    ·cases h
   ·cases h
 |load d x n=>intro d' rd h z hz;injection h with h;injection h with h1 h2;subst h2;simpa[iE] using hz
 |_=>intro d' rd h z hz;simp[iE] at hz
variable {P:Program}
theorem Rs{y i:MOp}{dy di:Nat}{ry ri:List ai}(hy:eC y=some (dy,ry))(hi:eC i=some (di,ri))(hd:dy≠di)(h1:bV dy ri=true)(h2:bV di ry=true){s:St}{K:St→Prop}(h:vc1 P y s (fun s1=>vc1 P i s1 K)):vc1 P i s (fun s1=>vc1 P y s1 K):=by
 rw[eZ P y dy ry hy] at h
 rw[eZ P i di ri hi]
 obtain⟨v,hv,hk⟩:=pR P _ _ y _ h
 rw[eZ P i di ri hi,xb P (fun x=>x.ev (s.set dy v).env) (fun x=>x.ev s.env) _ i di ri hi (fun x hx=>cL (cM h1 hx))] at hk
 refine jw P _ _ i _ _ (fun u hu=> ?_) hk
 rw[eZ P y dy ry hy,xb P (fun x=>x.ev (s.set di u).env) (fun x=>x.ev s.env) _ y dy ry hy (fun x hx=>cL (cM h2 hx))]
 refine jw P _ _ y _ _ (fun w hw=> ?_) hv
 subst hw
 rw[set_comm s u w (Ne.symm hd)]
 exact hu
theorem tW{y:MOp}{dy:Nat}{ry:List ai}(hy:eC y=some (dy,ry))(hok:fm ry=true){s:St}{v:AV}(hv:pv P (fun x=>x.ev s.env) s.loc y (· =v))(r:Nat):pv P (fun x=>x.ev (s.aT r).env) (s.aT r).loc y (· =aC r v):=Rp P _ _ s.loc r y dy ry hy (fun x hx=>pS ((List.all_eq_true.1 hok) x hx)) v hv
theorem pT{y:MOp}{dy:Nat}{ry:List ai}(hy:eC y=some (dy,ry)){d:Nat}(hf:bV d ry=true){s:St}{w:AV}{K:AV→Prop}(hv:pv P (fun x=>x.ev s.env) s.loc y K):pv P (fun x=>x.ev (s.set d w).env) (s.set d w).loc y K:=by
 rw[xb P (fun x=>x.ev (s.set d w).env) (fun x=>x.ev s.env) _ y dy ry hy (fun x hx=>cL (cM hf hx))]
 exact hv
theorem Rt{y:MOp}{dy di:Nat}{ry:List ai}{z:List AV}(hy:eC y=some (dy,ry))(hd:dy≠di)(h2:bV di ry=true){s:St}{K:St→Prop}(h:vc1 P y s (fun s1=>vc1 P (.alloc di z) s1 K)):vc1 P (.alloc di z) s (fun s1=>vc1 P y s1 K):=by
 rw[eZ P y dy ry hy] at h
 obtain⟨v,hv,hk⟩:=pR P _ _ y _ h
 intro b hb
 rw[eZ P y dy ry hy]
 have h3:=Rn P _ _ b z hb y _ hv
 have h4:=pT (P:=P) hy (d:=di) h2 (s:=s.new b z) (w:=.au b 0) h3
 refine jw P _ _ y _ _ (fun w hw=> ?_) h4
 subst hw
 have:=hk b hb
 rw[G4,set_comm _ w _ hd] at this
 exact this
theorem Ru{d1 d2:Nat}{z1 z2:List AV}(hd:d1≠d2){s:St}{K:St→Prop}(h:vc1 P (.alloc d1 z1) s (fun s1=>vc1 P (.alloc d2 z2) s1 K)):vc1 P (.alloc d2 z2) s (fun s1=>vc1 P (.alloc d1 z1) s1 K):=by
 intro b2 hb2 b1 jb
 simp only[St.set,St.new] at jb
 by_cases e:b1=b2
 ·subst e;simp[aD] at jb
 ·rw[bE _ _ e] at jb
  have:=h b1 jb b2 (by simp only[St.set,St.new];rw[bE _ _ (Ne.symm e)];exact hb2)
  have e2:(((s.new b2 z2).set d2 (.au b2 0)).new b1 z1).set d1 (.au b1 0)=(((s.new b1 z1).set d1 (.au b1 0)).new b2 z2).set d2 (.au b2 0):=by
   simp only[St.set,St.new]
   rw[wJ _ _ _ hd,wJ _ _ _ e]
  rw[e2];exact this
theorem j8(e:Nat→AV)(sz:Nat):∀(ps:List (Nat×ai)) (xs:List AV) (K K':List AV→Prop),(∀v,K v→K' v)→gL e sz xs ps K→gL e sz xs ps K'
 |[],_,_,_,h,hv=>h _ hv
 |_::ps,_,K,K',h,hv=>⟨hv.1,hv.2.1,hv.2.2.1,j8 e sz ps _ K K' h hv.2.2.2⟩
theorem tX(e e':Nat→AV)(sz:Nat):∀(ps:List (Nat×ai)) (xs:List AV) (K:List AV→Prop),(∀x∈ps.map (·.2),(x.ev e).cells.length=(x.ev e').cells.length∧(x.ev e).cells.all AV.bK=(x.ev e').cells.all AV.bK∧(x.ev e).erase=(x.ev e').erase)→gL e sz xs ps K=gL e' sz xs ps K
 |[],_,_,_=>rfl
 |(i,x)::ps,xs,K,h=>by
  obtain⟨h1,h2,h3⟩:=h x (by simp)
  simp only[gL,h1,h2,h3,tX e e' sz ps _ K (fun y hy=>h y (by simp at hy⊢;exact .inr hy))]
theorem G5{y:MOp}{dy di n sz:Nat}{ry:List ai}{z:List AV}{ps:List (Nat×ai)}(hy:eC y=some (dy,ry))(hd:dy≠di)(h1:bV dy (ps.map (·.2))=true)(h2:bV di ry=true)(hok:fm ry=true){s:St}{K:St→Prop}(h:vc1 P y s (fun s1=>vc1 P (.aM di n sz z ps) s1 K)):vc1 P (.aM di n sz z ps) s (fun s1=>vc1 P y s1 K):=by
 rw[eZ P y dy ry hy] at h
 obtain⟨v,hv,hk⟩:=pR P _ _ y _ h
 simp only[vc1] at hk⊢
 rw[tX (s.set dy v).env s.env sz ps _ _ (fun x hx=>by rw[cL (cM h1 hx)];exact⟨rfl,rfl,rfl⟩)] at hk
 refine j8 _ _ ps _ _ _ (fun xs hxs=> ?_) hk
 rw[eZ P y dy ry hy]
 have h4:=pT (P:=P) hy (d:=di) h2 (s:=s.aT (di+1)) (w:=.slice sz xs (di+1)) (tW hy hok hv (di+1))
 refine jw P _ _ y _ _ (fun w hw=> ?_) h4
 subst hw
 rw[j7,set_comm _ _ _ hd] at hxs
 exact hxs
theorem Rv{y:MOp}{dy di sz bytes:Nat}{ry:List ai}{x x':ai}(hy:eC y=some (dy,ry))(hd:dy≠di)(h1:bV dy [x,x']=true)(h2:bV di ry=true)(hok:fm ry=true){s:St}{K:St→Prop}(h:vc1 P y s (fun s1=>vc1 P (.app di x x' sz bytes) s1 K)):vc1 P (.app di x x' sz bytes) s (fun s1=>vc1 P y s1 K):=by
 rw[eZ P y dy ry hy] at h
 obtain⟨v,hv,hk⟩:=pR P _ _ y _ h
 simp only[vc1] at hk⊢
 rw[cL (cM h1 (x:=x) (by simp)),cL (cM h1 (x:=x') (by simp))] at hk
 split at hk
 ·rename_i mS xs r mT ys r2 e1 e2
  obtain⟨g1,g2,g3,g4,g5,hk⟩:=hk
  refine⟨g1,g2,g3,g4,g5,?_⟩
  rw[eZ P y dy ry hy]
  have h4:=pT (P:=P) hy (d:=di) h2 (s:=(s.aT r).aT (di+1)) (w:=.slice sz (xs++ys) (di+1)) (tW hy hok (tW hy hok hv r) (di+1))
  refine jw P _ _ y _ _ (fun w hw=> ?_) h4
  subst hw
  rw[j7,j7,set_comm _ _ _ hd] at hk
  exact hk
 ·exact hk.elim
theorem Rw{y:MOp}{dy n aO:Nat}{ry zs:List ai}{x x':ai}(hy:eC y=some (dy,ry))(h1:bV dy (x::x'::zs)=true)(hok:fm ry=true)(hz:∀z∈iE y,z∈zs){s:St}{K:St→Prop}(h:vc1 P y s (fun s1=>vc1 P (.apart zs x (.store x x' n aO)) s1 K)):vc1 P (.apart zs x (.store x x' n aO)) s (fun s1=>vc1 P y s1 K):=by
 rw[eZ P y dy ry hy] at h
 obtain⟨v,hv,hk⟩:=pR P _ _ y _ h
 have e1:x.ev (s.set dy v).env=x.ev s.env:=cL (cM h1 (by simp))
 have e2:x'.ev (s.set dy v).env=x'.ev s.env:=cL (cM h1 (by simp))
 simp only[vc1] at hk⊢
 obtain⟨hap,hk⟩:=hk
 have AI:∀z∈zs,n_ (z.ev s.env) (x.ev s.env):=by
  intro z dQ
  have:=hap z dQ
  rw[e1,cL (cM h1 (by simp[dQ]))] at this
  exact this
 refine⟨AI,?_⟩
 rw[e1,e2] at hk
 unfold ae7 at hk⊢
 generalize hxe:x.ev s.env=xe at hk AI⊢
 cases xe with
 |au b off=>
  simp only at hk⊢
  have z7:(s.set dy v).loc=s.loc:=rfl
  rw[z7] at hk
  cases hb:s.loc b with
  |none=>rw[hb] at hk;exact hk.elim
  |some cs=>
   rw[hb] at hk
   simp only at hk⊢
   obtain⟨g1,g2,g3,hk⟩:=hk
   refine⟨g1,g2,g3,?_⟩
   have after:∀(s2:St) (u:AV) (cs':List AV),pv P (fun x=>x.ev s2.env) s2.loc y (· =u)→(∀z∈iE y,∀b' o,z.ev s2.env=.au b' o→b'≠b)→K ((s2.set dy u).new b cs')→vc1 P y (s2.new b cs') K:=by
    intro s2 u cs' hu hne hK
    rw[eZ P y dy ry hy]
    have:pv P (fun x=>x.ev (s2.new b cs').env) (s2.new b cs').loc y (· =u):=by
     show pv P (fun x=>x.ev s2.env) (s2.new b cs').loc y (· =u)
     rw[←G2 P (fun x=>x.ev s2.env) s2.loc (s2.new b cs').loc y (fun z dQ b' o jx=>by simp only[St.new];rw[bE _ _ (hne z dQ b' o jx)])]
     exact hu
    refine jw P _ _ y _ _ (fun w hw=> ?_) this
    subst hw
    exact hK
   have AJ:∀z∈iE y,∀b' o,z.ev s.env=.au b' o→b'≠b:=by
    intro z dQ b' o jx
    have:=AI z (hz z dQ)
    rw[jx] at this
    exact this
   have Rx:∀z∈iE y,w_ z=true:=by
    intro z dQ
    have:z∈ry:=Rr y dy ry hy z dQ
    exact(List.all_eq_true.1 hok) z this
   have G6:∀(s2:St) (r:Nat),(∀z∈iE y,∀b' o,z.ev s2.env=.au b' o→b'≠b)→∀z∈iE y,∀b' o,z.ev (s2.aT r).env=.au b' o→b'≠b:=by
    intro s2 r hh z dQ b' o jx
    rw[pS (Rx z dQ)] at jx
    refine hh z dQ b' o ?_
    cases hq:z.ev s2.env<;>rw[hq] at jx<;>simp only[aC] at jx<;>first|exact jx|(cases jx;done)|(split at jx<;>cases jx)
   split at hk
   ·rename_i sz xs r he
    split at hk
    ·rename_i hro;rw[if_pos hro];exact after s v _ hv AJ hk
    ·rename_i hro
     rw[if_neg hro]
     refine after _ (aC aO (aC r v)) _ (tW hy hok (tW hy hok hv r) aO) (G6 _ _ (G6 _ _ AJ)) ?_
     rw[j7,j7] at hk
     exact hk
   ·exact after s v _ hv AJ hk
 |_=>exact hk.elim
end Go.aq
namespace Go.aq
open Go.RowKit
variable {P:Program}
theorem xg(e:Nat→AV)(sz:Nat):∀(ps:List (Nat×ai)) (xs:List AV) (K:List AV→Prop),gL e sz xs ps K→∃v,gL e sz xs ps (· =v)∧K v
 |[],xs,_,hv=>⟨xs,rfl,hv⟩
 |_::ps,_,K,hv=>by
  obtain⟨v,h1,h2⟩:=xg e sz ps _ K hv.2.2.2
  exact⟨v,⟨hv.1,hv.2.1,hv.2.2.1,h1⟩,h2⟩
theorem G7(a b:Nat)(x:AV):aC a (aC b x)=aC b (aC a x):=by
 cases x with
 |slice sz xs q=>
  by_cases h1:q=b
  ·subst h1
   by_cases h2:q=a
   ·subst h2;rfl
   ·have e1:aC q (.slice sz xs q)=.slice sz xs 0:=by simp[aC]
    have e2:aC a (.slice sz xs q)=.slice sz xs q:=by simp[aC,h2]
    rw[e1,e2,e1,tU]
  ·by_cases h2:q=a
   ·subst h2
    have e1:aC q (.slice sz xs q)=.slice sz xs 0:=by simp[aC]
    have e2:aC b (.slice sz xs q)=.slice sz xs q:=by simp[aC,h1]
    rw[e1,e2,e1,tU]
   ·have e1:aC a (.slice sz xs q)=.slice sz xs q:=by simp[aC,h2]
    have e2:aC b (.slice sz xs q)=.slice sz xs q:=by simp[aC,h1]
    rw[e1,e2,e1]
 |_=>rfl
theorem AK(s:St)(a b:Nat):(s.aT a).aT b=(s.aT b).aT a:=by
 simp only[St.aT,Option.map_map]
 congr 1
 ·funext k;exact G7 b a _
 ·funext c
  congr 1
  funext l
  simp only[Function.comp,List.map_map]
  refine List.map_congr_left fun x _=> ?_
  exact G7 b a x
theorem tY{r q sz:Nat}{xs:List AV}(h:q≠r):aC r (.slice sz xs q)=.slice sz xs q:=by simp[aC,h]
theorem Ry{r sz q:Nat}{xs:List AV}{x:AV}(h:aC r x=.slice sz xs q)(hq:q≠0):x=.slice sz xs q∧q≠r:=by
 cases x<;>simp only[aC] at h<;>first|(cases h;done)|skip
 split at h
 ·injection h with h1 h2 h3;exact absurd h3.symm hq
 ·injection h with h1 h2 h3;subst h1 h2 h3;exact⟨rfl,‹_›⟩
theorem Rz{r sz q:Nat}{xs:List AV}{x:AV}(h:aC r x=.slice sz xs q):∃q',x=.slice sz xs q':=by
 cases x<;>simp only[aC] at h<;>first|(cases h;done)|skip
 split at h<;>(injection h with h1 h2 h3;subst h1 h2;exact⟨_,rfl⟩)
theorem AL{s s':St}{ps:List (Nat×ai)}(h:∀x∈ps.map (·.2),∃f:AV→AV,(∀y,(f y).cells.length=y.cells.length∧(f y).cells.all AV.bK=y.cells.all AV.bK∧(f y).erase=y.erase)∧x.ev s'.env=f (x.ev s.env))(sz:Nat)(xs:List AV)(K:List AV→Prop):gL s'.env sz xs ps K=gL s.env sz xs ps K:=tX _ _ _ _ _ _ fun x hx=>by obtain⟨f,hf,e⟩:=h x hx;rw[e];exact hf _
theorem G8(r:Nat)(y:AV):(aC r y).cells.length=y.cells.length∧(aC r y).cells.all AV.bK=y.cells.all AV.bK∧(aC r y).erase=y.erase:=⟨tT r y,AH r y,tS r y⟩
theorem RA{d1 n1 l9 d2 cK G9:Nat}{z1:List AV}{p1:List (Nat×ai)}{x x':ai}(hd:d1≠d2)(h1:bV d1 [x,x']=true)(h2:bV d2 (p1.map (·.2))=true)(k1:fm (p1.map (·.2))=true)(k2:fm [x,x']=true){s:St}{K:St→Prop}(h:vc1 P (.aM d1 n1 l9 z1 p1) s (fun s1=>vc1 P (.app d2 x x' cK G9) s1 K)):vc1 P (.app d2 x x' cK G9) s (fun s1=>vc1 P (.aM d1 n1 l9 z1 p1) s1 K):=by
 simp only[vc1] at h⊢
 obtain⟨us,rm,hk⟩:=xg _ _ _ _ _ h
 have ex:∀y∈[x,x'],y.ev ((s.aT (d1+1)).set d1 (.slice l9 us (d1+1))).env=aC (d1+1) (y.ev s.env):=fun y hy=>by rw[cL (cM h1 hy),pS ((List.all_eq_true.1 k2) y hy)]
 rw[ex x (by simp),ex x' (by simp)] at hk
 split at hk
 ·rename_i mS xs r mT ys r2 e1 e2
  obtain⟨g1,g2,g3,g4,g5,hk⟩:=hk
  obtain⟨e3,hr⟩:=Ry e1 g1
  obtain⟨r3,e4⟩:=Rz e2
  rw[e3,e4]
  refine⟨g1,g2,g3,g4,g5,?_⟩
  rw[AL (s:=s) (s':=((s.aT r).aT (d2+1)).set d2 (.slice cK (xs++ys) (d2+1))) (fun y hy=>⟨fun v=>aC (d2+1) (aC r v),fun v=>⟨by rw[tT,tT],by rw[AH,AH],by rw[tS,tS]⟩,by rw[cL (cM h2 hy),pS ((List.all_eq_true.1 k1) y hy),pS ((List.all_eq_true.1 k1) y hy)]⟩)]
  refine j8 _ _ _ _ _ _ (fun v hv=> ?_) rm
  subst hv
  have hq:d1+1≠d2+1:=by omega
  rw[j7,j7,tY (Ne.symm hr),tY hq,set_comm _ _ _ hd] at hk
  rw[j7,tY (Ne.symm hq)]
  rw[AK (s.aT r) (d2+1) (d1+1),AK s r (d1+1)]
  exact hk
 ·exact hk.elim
theorem G_{d1 n1 l9 d2 n2 cK:Nat}{z1 z2:List AV}{p1 p2:List (Nat×ai)}(hd:d1≠d2)(h1:bV d1 (p2.map (·.2))=true)(h2:bV d2 (p1.map (·.2))=true)(k1:fm (p1.map (·.2))=true)(k2:fm (p2.map (·.2))=true){s:St}{K:St→Prop}(h:vc1 P (.aM d1 n1 l9 z1 p1) s (fun s1=>vc1 P (.aM d2 n2 cK z2 p2) s1 K)):vc1 P (.aM d2 n2 cK z2 p2) s (fun s1=>vc1 P (.aM d1 n1 l9 z1 p1) s1 K):=by
 simp only[vc1] at h⊢
 obtain⟨us,rm,hk⟩:=xg _ _ _ _ _ h
 rw[AL (s:=s) (fun y hy=>⟨aC (d1+1),G8 _,by rw[cL (cM h1 hy),pS ((List.all_eq_true.1 k2) y hy)]⟩)] at hk
 refine j8 _ _ _ _ _ _ (fun v hv=> ?_) hk
 rw[AL (s:=s) (fun y hy=>⟨aC (d2+1),G8 _,by rw[cL (cM h2 hy),pS ((List.all_eq_true.1 k1) y hy)]⟩)]
 refine j8 _ _ _ _ _ _ (fun u hu=> ?_) rm
 subst hu
 have hq:d1+1≠d2+1:=by omega
 rw[j7,tY hq,set_comm _ _ _ hd,AK] at hv
 rw[j7,tY (Ne.symm hq)]
 exact hv
theorem RB{y:MOp}{dy di n sz g:Nat}{w:Bool}{ry:List ai}{z:List AV}{ps:List (Nat×ai)}(hy:eC y=some (dy,ry))(hd:dy≠di)(h1:bV dy (.t g::ps.map (·.2))=true)(h2:bV di ry=true)(hok:fm ry=true){s:St}{K:St→Prop}(h:vc1 P y s (fun s1=>vc1 P (.guard g w (some di) (.aM di n sz z ps)) s1 K)):vc1 P (.guard g w (some di) (.aM di n sz z ps)) s (fun s1=>vc1 P y s1 K):=by
 rw[eZ P y dy ry hy] at h
 obtain⟨v,hv,hk⟩:=pR P _ _ y _ h
 have hg:(s.set dy v).env g=s.env g:=cL (x:=.t g) (cM h1 (by simp))
 have jc:bV dy (ps.map (·.2))=true:=by simp only[bV,List.all_cons,Bool.and_eq_true] at h1⊢;exact h1.2
 rw[vc1,hg] at hk
 rw[vc1]
 split at hk
 ·rename_i b hb
  refine⟨fun e=>G5 hy hd jc h2 hok ?_,fun e=> ?_⟩
  ·rw[eZ P y dy ry hy]
   exact jw P _ _ y _ _ (fun u hu=>by subst hu;exact hk.1 e) hv
  ·rw[eZ P y dy ry hy]
   refine jw P _ _ y _ _ (fun u hu=> ?_) (pT (P:=P) hy (d:=di) h2 (w:=.tuple []) hv)
   subst hu
   have:=hk.2 e
   rw[set_comm _ _ _ hd] at this
   exact this
 ·rw[eZ P y dy ry hy]
  refine jw P _ _ y _ _ (fun u hu=> ?_) (pT (P:=P) hy (d:=di) h2 (w:=.tuple []) hv)
  subst hu
  rw[set_comm _ _ _ hd] at hk
  exact hk
 ·exact hk.elim
theorem He{r:Nat}{x:AV}{b:Bool}(h:aC r x=.lit (.bool b)):x=.lit (.bool b):=by cases x<;>simp only[aC] at h<;>first|exact h|(cases h;done)|(split at h<;>cases h)
theorem tZ{d n sz g:Nat}{w:Bool}{z:List AV}{ps:List (Nat×ai)}{s:St}{K:St→Prop}(hg:s.env g=.lit (.bool w))(h:vc1 P (.aM d n sz z ps) s K):vc1 P (.guard g w (some d) (.aM d n sz z ps)) s K:=by
 rw[vc1,hg]
 exact⟨fun _=>h,fun e=>(by cases w<;>cases e)⟩
def l_(w:Bool)(x:AV):Prop:=x=.lit (.bool (!w))∨x=.tuple []
theorem l_.aC{w:Bool}{x:AV}(r:Nat)(h:l_ w x):l_ w (aq.aC r x):=by rcases h with rfl|rfl;exact .inl rfl;exact .inr rfl
theorem l_.RC{w:Bool}{x:AV}{r:Nat}(h:l_ w (aq.aC r x)):l_ w x:=by
 rcases h with h|h
 ·exact .inl (He h)
 ·refine .inr ?_
  cases x<;>simp only[aq.aC] at h<;>first|exact h|(cases h;done)|(split at h<;>cases h)
theorem t_{d g:Nat}{w:Bool}{m:MOp}{s:St}{K:St→Prop}(hg:l_ w (s.env g))(h:K (s.set d (.tuple []))):vc1 P (.guard g w (some d) m) s K:=by
 rcases hg with hg|hg
 ·rw[vc1,hg]
  exact⟨fun e=>(by cases w<;>cases e),fun _=>h⟩
 ·rw[vc1,hg]
  exact h
theorem xh{d g:Nat}{w:Bool}{m:MOp}{s:St}{K:St→Prop}(h:vc1 P (.guard g w (some d) m) s K):(s.env g=.lit (.bool w)∧vc1 P m s K)∨(l_ w (s.env g)∧K (s.set d (.tuple []))):=by
 rw[vc1] at h
 split at h
 ·rename_i b hb
  by_cases e:b=w
  ·subst e;exact .inl ⟨hb,h.1 rfl⟩
  ·have e2:b= !w:=by revert e;cases b<;>cases w<;>decide
   exact .inr ⟨.inl (by rw[hb,e2]),h.2 e2⟩
 ·rename_i hb
  exact .inr ⟨.inr hb,h⟩
 ·exact h.elim
theorem RD{d1 n1 l9 d2 n2 cK g1 g2:Nat}{w1 w2:Bool}{z1 z2:List AV}{p1 p2:List (Nat×ai)}(hd:d1≠d2)(e1:d1≠g2)(e2:d2≠g1)(h1:bV d1 (p2.map (·.2))=true)(h2:bV d2 (p1.map (·.2))=true)(k1:fm (p1.map (·.2))=true)(k2:fm (p2.map (·.2))=true)
  {s:St}{K:St→Prop}(h:vc1 P (.guard g1 w1 (some d1) (.aM d1 n1 l9 z1 p1)) s (fun s1=>vc1 P (.guard g2 w2 (some d2) (.aM d2 n2 cK z2 p2)) s1 K)):
  vc1 P (.guard g2 w2 (some d2) (.aM d2 n2 cK z2 p2)) s (fun s1=>vc1 P (.guard g1 w1 (some d1) (.aM d1 n1 l9 z1 p1)) s1 K):=by
 have dY:∀(s:St) (d g:Nat) (x:AV),d≠g→(s.set d x).env g=s.env g:=fun s d g x e=>by simp[St.set,aD,Ne.symm e]
 rcases xh h with ⟨ha,h⟩|⟨ha,h⟩
 ·have h':=h
  rw[vc1] at h'
  obtain⟨us,rm,hk⟩:=xg _ _ _ _ _ h'
  rcases xh hk with ⟨hb,hk⟩|⟨hb,hk⟩
  ·rw[dY _ _ _ _ e1] at hb
   have hb':=He (show aC (d1+1) (s.env g2)=_ from hb)
   refine tZ hb' ?_
   have hm:vc1 P (.aM d1 n1 l9 z1 p1) s (fun s1=>vc1 P (.aM d2 n2 cK z2 p2) s1 K):=by
    rw[vc1]
    exact j8 _ _ _ _ _ _ (fun u hu=>by subst hu;exact hk) rm
   have Hf:=G_ hd h1 h2 k1 k2 hm
   rw[vc1] at Hf⊢
   refine j8 _ _ _ _ _ _ (fun u hu=>tZ ?_ hu) Hf
   rw[dY _ _ _ _ e2]
   show aC (d2+1) (s.env g1)=_
   rw[ha];rfl
  ·rw[dY _ _ _ _ e1] at hb
   have hb':=l_.RC (r:=d1+1) (show l_ w2 (aC (d1+1) (s.env g2)) from hb)
   refine t_ hb' (tZ (by rw[dY _ _ _ _ e2];exact ha) ?_)
   rw[vc1,tX (s.set d2 (.tuple [])).env s.env _ _ _ _ (fun x hx=>by rw[cL (cM h2 hx)];exact⟨rfl,rfl,rfl⟩)]
   refine j8 _ _ _ _ _ _ (fun u hu=> ?_) rm
   subst hu
   rw[set_comm _ _ _ hd] at hk
   rw[j7]
   exact hk
 ·rcases xh h with ⟨hb,hk⟩|⟨hb,hk⟩
  ·rw[dY _ _ _ _ e1] at hb
   refine tZ hb ?_
   rw[vc1,tX (s.set d1 (.tuple [])).env s.env _ _ _ _ (fun x hx=>by rw[cL (cM h1 hx)];exact⟨rfl,rfl,rfl⟩)] at hk
   rw[vc1]
   refine j8 _ _ _ _ _ _ (fun u hu=>t_ ?_ ?_) hk
   ·rw[dY _ _ _ _ e2]
    exact ha.aC (d2+1)
   ·rw[j7,set_comm _ _ _ hd] at hu
    exact hu
  ·rw[dY _ _ _ _ e1] at hb
   refine t_ hb (t_ (by rw[dY _ _ _ _ e2];exact ha) ?_)
   rw[set_comm _ _ _ (Ne.symm hd)]
   exact hk
def j9:ai→ai→Bool
 |.t a,.t b=>a==b
 |_,_=>false
theorem afH{x y:ai}(h:j9 x y=true):x=y:=by cases x<;>cases y<;>simp[j9] at h<;>first|(rw[h];done)|skip
def fJ(s:St):Prop:=∃n,∀b,n≤b→s.loc b=none
theorem fJ.set{s:St}(h:fJ s)(d:Nat)(x:AV):fJ (s.set d x):=h
theorem fJ.aT{s:St}(h:fJ s)(r:Nat):fJ (s.aT r):=by
 obtain⟨n,h⟩:=h
 exact⟨n,fun b hb=>by simp only[St.aT,h b hb,Option.map_none]⟩
theorem fJ.new{s:St}(h:fJ s)(b:Nat)(cs:List AV):fJ (s.new b cs):=by
 obtain⟨n,h⟩:=h
 refine⟨max n (b+1),fun b' hb=> ?_⟩
 have h1:n≤b':=Nat.le_trans (Nat.le_max_left ..) hb
 have h2:b+1≤b':=Nat.le_trans (Nat.le_max_right ..) hb
 simp only[St.new]
 rw[bE _ _ (by omega)]
 exact h b' h1
theorem fJ.aI{s:St}(h:fJ s)(b:Nat):∃b',b'≠b∧s.loc b'=none:=by
 obtain⟨n,h⟩:=h
 refine⟨max n (b+1),?_,h _ (Nat.le_max_left ..)⟩
 have:b+1≤max n (b+1):=Nat.le_max_right ..
 omega
theorem Hg(s:St){b1 b2:Nat}(c1 c2:List AV)(h:b1≠b2):(s.new b1 c1).new b2 c2=(s.new b2 c2).new b1 c1:=by simp only[St.new];rw[wJ _ _ _ h]
theorem j_{s:St}{x y:AV}{n:Nat}{K:St→Prop}:ae7 s x y n 0 K↔∃b off cs,x=.au b off∧s.loc b=some cs∧off+n≤cs.length∧y.cells.length=n∧y.cells.all AV.bK=true∧K (s.new b (splice cs off (y.cells.map AV.erase0))):=by
 unfold ae7
 cases x with
 |au b off=>
  simp only
  cases hb:s.loc b with
  |none=>
   simp only[false_iff]
   rintro⟨b',off',cs,e,h,_⟩
   injection e with e1 e2
   subst e1
   rw[hb] at h;cases h
  |some cs=>
   simp only
   constructor
   ·rintro⟨h1,h2,h3,h4⟩
    refine⟨b,off,cs,rfl,hb,h1,h2,h3,?_⟩
    cases y<;>first|exact h4|skip
    simpa[AV.cells,AV.erase0] using h4
   ·rintro⟨b',off',cs',e,h,h1,h2,h3,h4⟩
    injection e with e1 e2
    subst e1 e2
    rw[hb] at h;injection h with h;subst h
    refine⟨h1,h2,h3,?_⟩
    cases y<;>first|exact h4|skip
    simpa[AV.cells,AV.erase0] using h4
 |_=>simp
theorem Hh{s:St}{x y:AV}{n:Nat}{K K':St→Prop}(h:∀b cs,K (s.new b cs)→K' (s.new b cs))(hv:ae7 s x y n 0 K):ae7 s x y n 0 K':=by
 obtain⟨b,off,cs,h1,h2,h3,h4,h5,h6⟩:=j_.1 hv
 exact j_.2 ⟨b,off,cs,h1,h2,h3,h4,h5,h _ _ h6⟩
theorem RE{d n:Nat}{z:List AV}{zs:List ai}{x x':ai}(h1:bV d (x::x'::zs)=true){s:St}{K:St→Prop}(hf:fJ s)(h:vc1 P (.alloc d z) s (fun s1=>vc1 P (.apart zs x (.store x x' n 0)) s1 K)):vc1 P (.apart zs x (.store x x' n 0)) s (fun s1=>vc1 P (.alloc d z) s1 K):=by
 have ex:∀b,x.ev ((s.new b z).set d (.au b 0)).env=x.ev s.env:=fun b=>cL (s:=s.new b z) (cM h1 (by simp))
 have ex':∀b,x'.ev ((s.new b z).set d (.au b 0)).env=x'.ev s.env:=fun b=>cL (s:=s.new b z) (cM h1 (by simp))
 have ez:∀b,∀w∈zs,w.ev ((s.new b z).set d (.au b 0)).env=w.ev s.env:=fun b w hw=>cL (s:=s.new b z) (cM h1 (by simp[hw]))
 have hh:∀b0,s.loc b0=none→(∀w∈zs,n_ (w.ev s.env) (x.ev s.env))∧ae7 ((s.new b0 z).set d (.au b0 0)) (x.ev s.env) (x'.ev s.env) n 0 K:=by
  intro b0 hb0
  obtain⟨g1,g2⟩:=h b0 hb0
  rw[vc1,ex,ex'] at g2
  refine⟨fun w hw=> ?_,g2⟩
  have:=g1 w hw
  rw[ez b0 w hw,ex] at this
  exact this
 obtain⟨b0,_,hb0⟩:=hf.aI 0
 obtain⟨hap,hs0⟩:=hh b0 hb0
 obtain⟨b,off,_,hx,_,_⟩:=j_.1 hs0
 obtain⟨b1,hne,jb⟩:=hf.aI b
 obtain⟨b',off',cs,hx',hl,g1,g2,g3,_⟩:=j_.1 (hh b1 jb).2
 rw[hx] at hx';injection hx' with e1 e2;subst e1 e2
 have hl:s.loc b=some cs:=by
  simp only[St.set,St.new] at hl
  rw[bE _ _ (Ne.symm hne)] at hl
  exact hl
 refine⟨hap,?_⟩
 rw[vc1]
 refine j_.2 ⟨b,off,cs,hx,hl,g1,g2,g3,?_⟩
 intro b2 hb2
 have AM:b2≠b:=by intro e;subst e;simp[St.new,aD] at hb2
 have RF:s.loc b2=none:=by
  simp only[St.new] at hb2
  rw[bE _ _ AM] at hb2
  exact hb2
 obtain⟨b',off',cs',hx',hl',_,_,_,hk⟩:=j_.1 (hh b2 RF).2
 rw[hx] at hx';injection hx' with e1 e2;subst e1 e2
 have hl':s.loc b=some cs':=by
  simp only[St.set,St.new] at hl'
  rw[bE _ _ (Ne.symm AM)] at hl'
  exact hl'
 rw[hl] at hl';injection hl' with e;subst e
 rw[G4,Hg _ _ _ AM] at hk
 exact hk
theorem RG{n1 n2:Nat}{Hi zs2:List ai}{x1 y1 x2 y2:ai}(hz:x1∈zs2){s:St}{K:St→Prop}(h:vc1 P (.apart Hi x1 (.store x1 y1 n1 0)) s (fun s1=>vc1 P (.apart zs2 x2 (.store x2 y2 n2 0)) s1 K)):vc1 P (.apart zs2 x2 (.store x2 y2 n2 0)) s (fun s1=>vc1 P (.apart Hi x1 (.store x1 y1 n1 0)) s1 K):=by
 obtain⟨ha1,h⟩:=h
 rw[vc1] at h
 obtain⟨b1,o1,c1,hx1,kV,g1,g2,g3,om,h⟩:=j_.1 h
 rw[vc1] at h
 obtain⟨b2,o2,c2,hx2,m0,k1,k2,k3,hk⟩:=j_.1 h
 have afu:∀b cs,(s.new b cs).env=s.env:=fun _ _=>rfl
 rw[afu] at hx2 k2 k3 hk
 have hne:b1≠b2:=by
  have:=om x1 hz
  rw[afu,hx1,hx2] at this
  exact this
 have RH:s.loc b2=some c2:=by
  simp only[St.new] at m0
  rw[bE _ _ (Ne.symm hne)] at m0
  exact m0
 refine⟨fun z dQ=>om z dQ,?_⟩
 rw[vc1]
 refine j_.2 ⟨b2,o2,c2,hx2,RH,k1,k2,k3,ha1,?_⟩
 rw[vc1]
 refine j_.2 ⟨b1,o1,c1,hx1,?_,g1,g2,g3,?_⟩
 ·simp only[St.new]
  rw[bE _ _ hne]
  exact kV
 ·rw[afu,Hg _ _ _ (Ne.symm hne)]
  exact hk
theorem RI{i:MOp}{di n:Nat}{ri zs:List ai}{x x':ai}(hi:eC i=some (di,ri))(h1:bV di (x::x'::zs)=true)(hz:∀z∈iE i,z∈zs){s:St}{K:St→Prop}(h:vc1 P (.apart zs x (.store x x' n 0)) s (fun s1=>vc1 P i s1 K)):vc1 P i s (fun s1=>vc1 P (.apart zs x (.store x x' n 0)) s1 K):=by
 obtain⟨ha,h⟩:=h
 rw[vc1] at h
 obtain⟨b,off,cs,hx,hl,g1,g2,g3,hk⟩:=j_.1 h
 rw[eZ P i di ri hi] at hk⊢
 have e:pv P (fun x=>x.ev s.env) s.loc i=pv P (fun x=>x.ev s.env) (s.new b (splice cs off ((x'.ev s.env).cells.map AV.erase0))).loc i:=by
  funext K'
  refine G2 P (fun x=>x.ev s.env) s.loc _ i (fun z dQ b' o jx=> ?_) K'
  have:=ha z (hz z dQ)
  rw[jx,hx] at this
  simp only[St.new]
  rw[bE _ _ this]
 rw[e]
 refine jw P _ _ i _ _ (fun v hv=> ?_) hk
 refine⟨fun z dQ=> ?_,?_⟩
 ·rw[cL (cM h1 (by simp[dQ])),cL (cM h1 (by simp))]
  exact ha z dQ
 ·rw[vc1,cL (cM h1 (by simp)),cL (cM h1 (by simp))]
  exact j_.2 ⟨b,off,cs,hx,hl,g1,g2,g3,hv⟩
def ua(xs:List ai):Bool:=xs.all fun|.t n=>decide (n<gS)|.c _=>true
theorem xj{xs:List ai}(h:ua xs=true)(b:Nat):bV (oS+b) xs=true:=by
 unfold bV
 rw[List.all_eq_true]
 intro x hx
 have:=(List.all_eq_true.1 h) x hx
 cases x with
 |t n=>
  have hn:n<gS:=by simpa using this
  have:(n==oS+b)=false:=by have:gS<oS:=by simp[gS,oS]
                           simp;omega
  simp[tV,this]
 |c y=>rfl
theorem Hj{k v:AV}:∀{es:List (List AV)} {i j:Nat},aen k es i=some (some j)→fX k k=some true→aen k (es.set (j - i) [k,v]) i=some (some j)
 |[],_,_,h,_=>by simp[aen] at h
 |e::es,i,j,h,hk=>by
  simp only[aen] at h
  split at h
  ·injection h with h;injection h with h;subst h
   rw[Nat.sub_self,List.set_cons_zero]
   simp[aen,hk]
  ·rename_i hq
   have ih:=Hj (v:=v) h hk
   have hij:i+1≤j:=by
    have:∀{es:List (List AV)} {i j:Nat},aen k es i=some (some j)→i≤j:=by
     intro es
     induction es with
     |nil=>intro i j h;simp[aen] at h
     |cons e es ih=>
      intro i j h
      simp only[aen] at h
      split at h
      ·injection h with h;injection h with h;omega
      ·have:=ih h;omega
      ·cases h
    exact this h
   rw[show j - i=(j - (i+1))+1 by omega,List.set_cons_succ]
   simp only[aen,hq]
   exact ih
  ·cases h
theorem Hl{k v:AV}:∀{es:List (List AV)} {i:Nat},aen k es i=some none→fX k k=some true→aen k (es++[[k,v]]) i=some (some (i+es.length))
 |[],i,_,hk=>by simp[aen,hk]
 |e::es,i,h,hk=>by
  simp only[aen] at h
  split at h
  ·injection h with h;cases h
  ·rename_i hq
   have ih:=Hl (v:=v) h hk
   simp only[List.cons_append,aen,hq,List.length_cons]
   rw[ih];congr 2;omega
  ·cases h
theorem Ho{k:AV}:∀{es:List (List AV)} {i j:Nat},aen k es i=some (some j)→j<i+es.length
 |[],_,_,h=>by simp[aen] at h
 |e::es,i,j,h=>by
  simp only[aen] at h
  split at h
  ·injection h with h;injection h with h;simp;omega
  ·have:=Ho h;simp at this⊢;omega
  ·cases h
theorem xk{s:St}{d b:Nat}{v:AV}(h:d<gS):(s.set d v).env (oS+b)=s.env (oS+b):=by
 have:gS<oS:=by simp[gS,oS]
 simp only[St.set]
 exact bE _ _ (by omega)
theorem RJ{y:MOp}{dy di:Nat}{ry:List ai}{x k:ai}{n:Option Nat}{z:AV}(hy:eC y=some (dy,ry))(hd:dy≠di)(h1:bV dy [x,k]=true)(h2:bV di ry=true)(hl:ua ry=true)(AN:dy<gS){s:St}{K:St→Prop}(h:vc1 P y s (fun s1=>vc1 P (.iA di x k n z) s1 K)):vc1 P (.iA di x k n z) s (fun s1=>vc1 P y s1 K):=by
 rw[eZ P y dy ry hy] at h
 obtain⟨v,hv,hk⟩:=pR P _ _ y _ h
 simp only[vc1] at hk⊢
 rw[cL (cM h1 (x:=x) (by simp)),cL (cM h1 (x:=k) (by simp))] at hk
 have hb0:gS<oS:=by simp[gS,oS]
 split at hk
 ·rename_i b e1
  obtain⟨es,he,hok,hkk,hk⟩:=hk
  rw[xk AN] at he
  refine⟨es,he,hok,hkk,?_⟩
  have fin:∀M T,K (((s.set dy v).set (oS+b) M).set di T)→vc1 P y ((s.set (oS+b) M).set di T) K:=by
   intro M T hK
   rw[eZ P y dy ry hy]
   have h4:=pT (P:=P) hy (d:=di) h2 (s:=s.set (oS+b) M) (w:=T) (pT (P:=P) hy (d:=oS+b) (xj hl b) (s:=s) (w:=M) hv)
   refine jw P _ _ y _ _ (fun w hw=> ?_) h4
   subst hw
   rw[set_comm s w M (show dy≠oS+b by omega),set_comm _ w T hd] at hK
   exact hK
  split at hk
  ·exact fin _ _ hk
  ·exact fin _ _ hk
  ·exact hk.elim
 ·exact hk.elim
theorem RK{i:MOp}{d1 di:Nat}{ri:List ai}{x k:ai}{n:Option Nat}{z:AV}(hi:eC i=some (di,ri))(hd:d1≠di)(h1:bV d1 ri=true)(h2:bV di [x,k]=true)(AN:di<gS){s:St}{K:St→Prop}(h:vc1 P (.lookup d1 x k n false z) s (fun s1=>vc1 P i s1 K)):vc1 P i s (fun s1=>vc1 P (.lookup d1 x k n false z) s1 K):=by
 rw[eZ P i di ri hi]
 simp only[vc1,Bool.false_eq_true,if_false] at h
 have fin:∀u,vc1 P i (s.set d1 u) K→(∀v,K ((s.set d1 u).set di v)→vc1 P (.lookup d1 x k n false z) (s.set di v) K)→pv P (fun x=>x.ev s.env) s.loc i fun v=>vc1 P (.lookup d1 x k n false z) (s.set di v) K:=by
  intro u hk hf
  rw[eZ P i di ri hi,xb P (fun x=>x.ev (s.set d1 u).env) (fun x=>x.ev s.env) _ i di ri hi (fun x hx=>cL (cM h1 hx))] at hk
  exact jw P _ _ i _ _ (fun v hv=>hf v hv) hk
 split at h
 ·rename_i b e1
  obtain⟨es,he,hok,h⟩:=h
  have back:∀(v:AV),(x.ev (s.set di v).env=.bQ b)∧(s.set di v).env (oS+b)=bI es∧(k.ev (s.set di v).env).erase=(k.ev s.env).erase:=fun v=>⟨by rw[cL (cM h2 (x:=x) (by simp))];exact e1,by rw[xk AN];exact he,by rw[cL (cM h2 (x:=k) (by simp))]⟩
  split at h
  ·rename_i j hka
   refine fin _ h fun v hv=> ?_
   obtain⟨b1,b2,b3⟩:=back v
   simp only[vc1,b1,b3]
   refine⟨es,b2,hok,?_⟩
   rw[hka]
   simp only[Bool.false_eq_true,if_false]
   rw[set_comm _ _ _ hd] at hv
   exact hv
  ·rename_i hka
   refine fin _ h fun v hv=> ?_
   obtain⟨b1,b2,b3⟩:=back v
   simp only[vc1,b1,b3]
   refine⟨es,b2,hok,?_⟩
   rw[hka]
   simp only[Bool.false_eq_true,if_false]
   rw[set_comm _ _ _ hd] at hv
   exact hv
  ·exact h.elim
 ·exact h.elim
theorem RL{es es':List (List AV)}(h:bI es=bI es'):es=es':=by unfold bI at h;injection h
theorem RM{d1 d2:Nat}{x k:ai}{n n':Option Nat}{z:AV}(hd:d1≠d2)(h1:bV d1 [x,k]=true)(h2:bV d2 [x,k]=true)(hl:ua [x,k]=true)(kZ:d1<gS)(iD:d2<gS){s:St}{K:St→Prop}(h:vc1 P (.lookup d1 x k n false z) s (fun s1=>vc1 P (.iA d2 x k n' z) s1 K)):vc1 P (.iA d2 x k n' z) s (fun s1=>vc1 P (.lookup d1 x k n false z) s1 K):=by
 have hb0:gS<oS:=by simp[gS,oS]
 simp only[vc1,Bool.false_eq_true,if_false] at h⊢
 split at h
 ·rename_i b e1
  obtain⟨es,he,hok,h⟩:=h
  have ex:∀v w M,x.ev (((s.set (oS+b) M).set d2 w).set d1 v).env=.bQ b:=fun v w M=>by rw[cL (cM h1 (x:=x) (by simp)),cL (cM h2 (x:=x) (by simp)),cL (cM (xj hl b) (x:=x) (by simp))];exact e1
  have RN:∀w M,x.ev ((s.set (oS+b) M).set d2 w).env=.bQ b:=fun w M=>by rw[cL (cM h2 (x:=x) (by simp)),cL (cM (xj hl b) (x:=x) (by simp))];exact e1
  have RO:∀w M,k.ev ((s.set (oS+b) M).set d2 w).env=k.ev s.env:=fun w M=>by rw[cL (cM h2 (x:=k) (by simp)),cL (cM (xj hl b) (x:=k) (by simp))]
  have RP:∀w M,((s.set (oS+b) M).set d2 w).env (oS+b)=M:=fun w M=>by rw[xk iD];exact dP _ _ _
  have inner:∀u,vc1 P (.iA d2 x k n' z) (s.set d1 u) K→jr n' (k.ev s.env).erase∧fX (k.ev s.env).erase (k.ev s.env).erase=some true∧(∀i,aen (k.ev s.env).erase es 0=some (some i)→K (((s.set d1 u).set (oS+b) (bI (es.set i [(k.ev s.env).erase,(es.getD i []).getD 1 .any]))).set d2 (.tuple [(es.getD i []).getD 1 .any,.lit (.int .i64 i)])))∧(aen (k.ev s.env).erase es 0=some none→K (((s.set d1 u).set (oS+b) (bI (es++[[(k.ev s.env).erase,z]]))).set d2 (.tuple [z,.lit (.int .i64 es.length)]))):=by
   intro u hu
   simp only[vc1] at hu
   rw[cL (cM h1 (x:=x) (by simp)),cL (cM h1 (x:=k) (by simp)),e1] at hu
   obtain⟨es2,rq,RQ,hkk,hu⟩:=hu
   rw[xk kZ,he] at rq
   have:=RL rq
   subst this
   refine⟨RQ,hkk,fun i hi=> ?_,fun hi=> ?_⟩
   ·rw[hi] at hu;exact hu
   ·rw[hi] at hu;exact hu
  have out:∀(es':List (List AV)) (T u:AV) (i:Nat),K (((s.set d1 u).set (oS+b) (bI es')).set d2 T)→aen (k.ev s.env).erase es' 0=some (some i)→((es'.getD i []).getD 1 .any).erase=u→vc1 P (.lookup d1 x k n false z) ((s.set (oS+b) (bI es')).set d2 T) K:=by
   intro es' T u i hK hka hu
   simp only[vc1,RN,RO,RP]
   refine⟨es',rfl,hok,?_⟩
   rw[hka]
   simp only[Bool.false_eq_true,if_false,hu]
   rw[set_comm s u _ (show d1≠oS+b by omega),set_comm _ u T hd] at hK
   exact hK
  split at h
  ·rename_i i hka
   obtain⟨g1,g2,g3,-⟩:=inner _ h
   have hlt:=Ho hka
   refine⟨es,he,g1,g2,?_⟩
   rw[hka]
   refine out _ _ _ i (g3 i hka) (by have:=Hj (v:=(es.getD i []).getD 1 .any) hka g2;simpa using this) ?_
   simp only[List.getD_eq_getElem?_getD,List.getElem?_set_self (show i<es.length by omega)]
   rfl
  ·rename_i hka
   obtain⟨g1,g2,-,g4⟩:=inner _ h
   refine⟨es,he,g1,g2,?_⟩
   rw[hka]
   refine out _ _ _ es.length (g4 hka) (by have:=Hl (v:=z) hka g2;simpa using this) ?_
   simp
  ·exact h.elim
 ·exact h.elim
theorem Hp{d:Nat}{x k:ai}{n:Option Nat}{ok:Bool}{z:AV}{s:St}{K K':St→Prop}(hf:fJ s)(hk:∀s,fJ s→K s→K' s)(h:vc1 P (.lookup d x k n ok z) s K):vc1 P (.lookup d x k n ok z) s K':=by
 simp only[vc1] at h⊢
 split at h
 ·obtain⟨es,h1,h2,h3⟩:=h
  refine⟨es,h1,h2,?_⟩
  split at h3
  ·exact hk _ (hf.set _ _) h3
  ·exact hk _ (hf.set _ _) h3
  ·exact h3.elim
 ·exact h.elim
def AO:AV→AV→Bool
 |.lit (.int k a),.lit (.int k' b)=>k==k'&&a==b
 |_,_=>false
theorem RR{x y:AV}(h:AO x y=true):x=y:=by
 unfold AO at h
 split at h
 ·simp only[Bool.and_eq_true,beq_iff_eq] at h
  rw[h.1,h.2]
 ·cases h
def afP(y i:MOp):Bool:=
 match eC y with
 |some (dy,ry)=>match eC i with
  |some (di,ri)=>dy != di&&bV dy ri&&bV di ry
  |none=>match i with
   |.alloc di _=>dy != di&&bV di ry
   |.aM di _ _ _ ps=>dy != di&&bV dy (ps.map (·.2))&&bV di ry&&fm ry
   |.app di x x' _ _=>dy != di&&bV dy [x,x']&&bV di ry&&fm ry
   |.guard g _ (some d) (.aM di _ _ _ ps)=>d==di&&dy != di&&bV dy (.t g::ps.map (·.2))&&bV di ry&&fm ry
   |.apart zs x (.store x1 x' _ _)=>j9 x x1&&bV dy (x::x'::zs)&&fm ry&&(iE y).all fun z=>zs.any (j9 z)
   |.iA di x k _ _=>dy != di&&bV dy [x,k]&&bV di ry&&ua ry&&decide (dy<gS)
   |_=>false
 |none=>match y,i with
  |.alloc d1 _,.alloc d2 _=>d1 != d2
  |.alloc d1 _,.apart zs x (.store x1 x' _ o2)=>o2==0&&j9 x x1&&bV d1 (x::x'::zs)
  |.apart _ x (.store x1 _ _ o1),.apart zs x2 (.store x3 _ _ o2)=>o1==0&&o2==0&&j9 x x1&&j9 x2 x3&&zs.any (j9 x)
  |.apart zs x (.store x1 x' _ o1),m=>o1==0&&j9 x x1&&match eC m with
   |some (di,_)=>bV di (x::x'::zs)&&(iE m).all fun z=>zs.any (j9 z)
   |none=>false
  |.aM d1 _ _ _ p1,.aM d2 _ _ _ p2=>d1 != d2&&bV d1 (p2.map (·.2))&&bV d2 (p1.map (·.2))&&fm (p1.map (·.2))&&fm (p2.map (·.2))
  |.guard g1 _ (some c1) (.aM d1 _ _ _ p1),.guard g2 _ (some c2) (.aM d2 _ _ _ p2)=>c1==d1&&c2==d2&&d1 != d2&&d1 != g2&&d2 != g1&&bV d1 (p2.map (·.2))&&bV d2 (p1.map (·.2))&&fm (p1.map (·.2))&&fm (p2.map (·.2))
  |.aM d1 _ _ _ p1,.app d2 x x' _ _=>d1 != d2&&bV d1 [x,x']&&bV d2 (p1.map (·.2))&&fm (p1.map (·.2))&&fm [x,x']
  |.lookup d1 x k _ false z,.iA d2 x2 k2 _ z2=>j9 x x2&&j9 k k2&&AO z z2&&d1 != d2&&bV d1 [x,k]&&bV d2 [x,k]&&ua [x,k]&&decide (d1<gS)&&decide (d2<gS)
  |.lookup d1 x k _ false _,m=>match eC m with
   |some (di,ri)=>d1 != di&&bV d1 ri&&bV di [x,k]&&decide (di<gS)
   |none=>false
  |_,_=>false
theorem ah3{y i:MOp}(h:afP y i=true){s:St}{K:St→Prop}(hf:fJ s)(hv:vc1 P y s (fun s1=>vc1 P i s1 K)):vc1 P i s (fun s1=>vc1 P y s1 K):=by
 unfold afP at h
 split at h
 ·rename_i dy ry hy
  split at h
  ·rename_i di ri hi
   simp only[Bool.and_eq_true,bne_iff_ne] at h
   exact Rs hy hi h.1.1 h.1.2 h.2 hv
  ·split at h
   ·simp only[Bool.and_eq_true,bne_iff_ne] at h
    exact Rt hy h.1 h.2 hv
   ·simp only[Bool.and_eq_true,bne_iff_ne] at h
    exact G5 hy h.1.1.1 h.1.1.2 h.1.2 h.2 hv
   ·simp only[Bool.and_eq_true,bne_iff_ne] at h
    exact Rv hy h.1.1.1 h.1.1.2 h.1.2 h.2 hv
   ·simp only[Bool.and_eq_true,bne_iff_ne,beq_iff_eq] at h
    obtain⟨⟨⟨⟨rfl,g1⟩,g2⟩,g3⟩,g4⟩:=h
    exact RB hy g1 g2 g3 g4 hv
   ·rename_i zs x x1 x' n aO hni
    simp only[Bool.and_eq_true] at h
    obtain⟨⟨⟨h1,h2⟩,h3⟩,h4⟩:=h
    have e:=afH h1
    subst e
    refine Rw hy h2 h3 (fun z hz=> ?_) hv
    have:=(List.all_eq_true.1 h4) z hz
    obtain⟨w,hw,e⟩:=List.any_eq_true.1 this
    rw[afH e];exact hw
   ·simp only[Bool.and_eq_true,bne_iff_ne,decide_eq_true_eq] at h
    exact RJ hy h.1.1.1.1 h.1.1.1.2 h.1.1.2 h.1.2 h.2 hv
   ·cases h
 ·split at h
  ·simp only[bne_iff_ne] at h
   exact Ru h hv
  ·simp only[Bool.and_eq_true,beq_iff_eq] at h
   obtain⟨⟨h1,h2⟩,h3⟩:=h
   have e:=afH h2
   subst e h1
   exact RE h3 hf hv
  ·simp only[Bool.and_eq_true,beq_iff_eq] at h
   obtain⟨⟨⟨⟨h1,h2⟩,h3⟩,h4⟩,h5⟩:=h
   have e:=afH h3
   have e':=afH h4
   subst e e' h1 h2
   obtain⟨w,hw,e⟩:=List.any_eq_true.1 h5
   rw[←afH e] at hw
   exact RG hw hv
  ·simp only[Bool.and_eq_true,beq_iff_eq] at h
   obtain⟨⟨h1,h2⟩,h3⟩:=h
   have e:=afH h2
   subst e h1
   split at h3
   ·rename_i di ri hi
    simp only[Bool.and_eq_true] at h3
    refine RI hi h3.1 (fun z hz=> ?_) hv
    obtain⟨w,hw,e⟩:=List.any_eq_true.1 ((List.all_eq_true.1 h3.2) z hz)
    rw[afH e];exact hw
   ·cases h3
  ·simp only[Bool.and_eq_true,bne_iff_ne] at h
   exact G_ h.1.1.1.1 h.1.1.1.2 h.1.1.2 h.1.2 h.2 hv
  ·simp only[Bool.and_eq_true,bne_iff_ne,beq_iff_eq] at h
   obtain⟨⟨⟨⟨⟨⟨⟨⟨rfl,rfl⟩,g1⟩,g2⟩,g3⟩,g4⟩,g5⟩,g6⟩,g7⟩:=h
   exact RD g1 g2 g3 g4 g5 g6 g7 hv
  ·simp only[Bool.and_eq_true,bne_iff_ne] at h
   exact RA h.1.1.1.1 h.1.1.1.2 h.1.1.2 h.1.2 h.2 hv
  ·simp only[Bool.and_eq_true,bne_iff_ne,decide_eq_true_eq] at h
   obtain⟨⟨⟨⟨⟨⟨⟨⟨g1,g2⟩,g3⟩,g4⟩,g5⟩,g6⟩,g7⟩,g8⟩,g9⟩:=h
   have e1:=afH g1
   have e2:=afH g2
   have e3:=RR g3
   subst e1 e2 e3
   exact RM g4 g5 g6 g7 g8 g9 hv
  ·split at h
   ·rename_i di ri hi
    simp only[Bool.and_eq_true,bne_iff_ne,decide_eq_true_eq] at h
    exact RK hi h.1.1.1 h.1.1.2 h.1.2 h.2 hv
   ·cases h
  ·cases h
theorem RT{y i:MOp}(h:afP y i=true){s:St}{K K':St→Prop}(hf:fJ s)(hk:∀s,fJ s→K s→K' s)(hv:vc1 P y s K):vc1 P y s K':=by
 unfold afP at h
 split at h
 ·rename_i dy ry hy
  rw[eZ P y dy ry hy] at hv⊢
  exact jw P _ _ y _ _ (fun v=>hk _ (hf.set _ _)) hv
 ·split at h
  ·exact fun b hb=>hk _ ((hf.new _ _).set _ _) (hv b hb)
  ·exact fun b hb=>hk _ ((hf.new _ _).set _ _) (hv b hb)
  ·simp only[Bool.and_eq_true,beq_iff_eq] at h
   have e:=h.1.1.1.1
   subst e
   obtain⟨ha,hv⟩:=hv
   exact⟨ha,Hh (fun b cs=>hk _ (hf.new _ _)) hv⟩
  ·simp only[Bool.and_eq_true,beq_iff_eq] at h
   have e:=h.1.1
   subst e
   obtain⟨ha,hv⟩:=hv
   exact⟨ha,Hh (fun b cs=>hk _ (hf.new _ _)) hv⟩
  ·exact j8 _ _ _ _ _ _ (fun v=>hk _ ((hf.aT _).set _ _)) hv
  ·simp only[Bool.and_eq_true,beq_iff_eq] at h
   rcases xh hv with ⟨ha,hv⟩|⟨ha,hv⟩
   ·have e:=h.1.1.1.1.1.1.1.1
    subst e
    exact tZ ha (j8 _ _ _ _ _ _ (fun v=>hk _ ((hf.aT _).set _ _)) hv)
   ·exact t_ ha (hk _ (hf.set _ _) hv)
  ·exact j8 _ _ _ _ _ _ (fun v=>hk _ ((hf.aT _).set _ _)) hv
  ·exact Hp hf hk hv
  ·exact Hp hf hk hv
  ·cases h
theorem AP{i:MOp}{post:List MOp}{K:St→Prop}:∀(pre:List MOp),(∀y∈pre,afP y i=true)→∀s,fJ s→vcs P (pre++i::post) K s→vc1 P i s (vcs P (pre++post) K)
 |[],_,s,_,h=>h
 |y::pre,hc,s,hf,h=>by
  have hy:=hc y (by simp)
  refine ah3 hy hf (RT hy hf (fun s1 Hq h1=> ?_) h)
  exact AP pre (fun z hz=>hc z (by simp[hz])) s1 Hq h1
inductive Reach (ops:Array Oper):Nat→Nat→Prop
 |one {i:Nat} {o:Oper} {e:Edge} (ho:ops[i]? =some o) (he:e∈o.after) (hb:Region.binds .any e=true):Reach ops i e.on
 |more {i y:Nat} {o:Oper} {e:Edge} (ho:ops[i]? =some o) (he:e∈o.after) (hb:Region.binds .any e=true) (h:Reach ops e.on y):Reach ops i y
def afQ(bs:Array Nat):List (Nat×MOp)→Bool
 |[]=>true
 |(y,my)::rest=>(rest.all fun p=>(bs.getD p.1 0).testBit y||afP my p.2)&&afQ bs rest
theorem Hr(ops:Array Oper)(acc:Array Nat)(i:Nat)(o:Oper)(ho:ops[i]? =some o)(hacc:∀j y,(acc.getD j 0).testBit y=true→Reach ops j y):∀(es:List Edge),(∀e∈es,e∈o.after)→∀(s0:Nat),(∀y,s0.testBit y=true→Reach ops i y)→∀y,(es.foldl (fun s e=>if Region.binds .any e then s ||| 2^e.on ||| acc.getD e.on 0 else s) s0).testBit y=true→Reach ops i y
 |[],_,s0,h0,y,h=>h0 y h
 |e::es,AQ,s0,h0,y,h=>by
  refine Hr ops acc i o ho hacc es (fun e he=>AQ e (List.mem_cons_of_mem _ he)) _ (fun z hz=> ?_) y h
  dsimp only at hz
  split at hz
  ·rename_i hb
   simp only[Nat.testBit_or,Bool.or_eq_true,Nat.testBit_two_pow,decide_eq_true_eq] at hz
   rcases hz with (hz|hz)|hz
   ·exact h0 z hz
   ·rw[←hz];exact .one ho (AQ e (List.mem_cons_self ..)) hb
   ·exact .more ho (AQ e (List.mem_cons_self ..)) hb (hacc _ _ hz)
  ·exact h0 z hz
theorem Hs(ops:Array Oper):∀j y,((Region.before ops).getD j 0).testBit y=true→Reach ops j y:=by
 have key:∀(l:List Oper) (acc:Array Nat),(∀k,l[k]? =ops[acc.size+k]?)→(∀j y,(acc.getD j 0).testBit y=true→Reach ops j y)→∀j y,((l.foldl (fun(acc:Array Nat) o=>acc.push (o.after.foldl (fun s e=>if Region.binds .any e then s ||| 2^e.on ||| acc.getD e.on 0 else s) 0)) acc).getD j 0).testBit y=true→Reach ops j y:=by
  intro l
  induction l with
  |nil=>intro acc _ h;exact h
  |cons o l ih=>
   intro acc hl h
   have ho:ops[acc.size]? =some o:=by have:=hl 0;simpa using this.symm
   refine ih _ (fun k=> ?_) (fun j y hj=> ?_)
   ·have:=hl (k+1)
    rw[Array.size_push]
    simpa[Nat.add_assoc,Nat.add_comm 1 k] using this
   ·by_cases Ht:j<acc.size
    ·refine h j y ?_
     simp only[Array.getD_eq_getD_getElem?,Array.getElem?_push] at hj⊢
     rw[if_neg (by omega)] at hj
     exact hj
    ·by_cases Hu:j=acc.size
     ·subst Hu
      have e1:∀M:Nat,(acc.push M).getD acc.size 0=M:=fun M=>by simp
      rw[e1,←Array.foldl_toList] at hj
      exact Hr ops acc acc.size o ho h o.after.toList (fun e he=>by simpa using he) 0 (fun z hz=>by simp at hz) y hj
     ·simp only[Array.getD_eq_getD_getElem?,Array.getElem?_push] at hj
      rw[if_neg Hu,Array.getElem?_eq_none (by omega)] at hj
      simp at hj
 intro j y h
 unfold Region.before at h
 rw[←Array.foldl_toList] at h
 exact key ops.toList #[] (fun k=>by simp) (fun j y hj=>by simp at hj) j y h
theorem Hv{ops:Array Oper}{listed:Array Bool}(cE:∀i o,listed.getD i true=true→i<ops.size→ops[i]? =some o→o.after.all (fun e=> !Region.binds .any e||listed.getD e.on false)=true)(hls:listed.size=ops.size){i y:Nat}(h:Reach ops i y):∀o,ops[i]? =some o→o.after.all (fun e=> !Region.binds .any e||listed.getD e.on false)=true→listed.getD y false=true:=by
 induction h with
 |one ho he hb=>
  intro o ho' hall
  rw[ho] at ho';injection ho' with ho';subst ho'
  have hl:=(Array.all_eq_true_iff_forall_mem.1 hall) _ he
  simpa[hb] using hl
 | @more i y o e ho he hb h ih=>
   intro o' ho' hall
   rw[ho] at ho';injection ho' with ho';subst ho'
   have hl:=(Array.all_eq_true_iff_forall_mem.1 hall) _ he
   simp only[hb,Bool.not_true,Bool.false_or] at hl
   have hlt:e.on<listed.size:=by
    rcases Nat.lt_or_ge e.on listed.size with h3|h3
    ·exact h3
    ·simp[Array.getD_eq_getD_getElem?,Array.getElem?_eq_none h3] at hl
   have kX:ops[e.on]? =some ops[e.on]:=Array.getElem?_eq_getElem (by omega)
   refine ih _ kX (cE e.on _ ?_ (by omega) kX)
   rw[Array.getD_eq_getD_getElem?,Array.getElem?_eq_getElem hlt] at hl⊢
   exact hl
end Go.aq
namespace Go.aq
open Go.RowKit
def RU:Operand→Bool
 |.const (.slice none 0 0)=>true
 |_=>false
def uc(P:Program)(aG:cn)(N:Nat)(ops:Array Oper)(o:Oper):Option MOp:=
 match o.guard,o.dst,o.op with
 |none,some d,.assign x=>if RU x||aG.own.contains d then trG P aG N ops o else if d<N then (aF x).map (.aev d ·) else none
 |none,some d,.load _ _=>match trG P aG N ops o with
  |some (.load d' x n)=>if aG.Gi.contains d then some (.iy d' x n) else some (.load d' x n)
  |m=>m
 |none,none,.store _ (.tmp k) _=>match trG P aG N ops o with
  |some (.store x y n aO)=>some (.apart (look aG.ap k []) x (.store x y n aO))
  |m=>m
 |_,_,_=>trG P aG N ops o
section
variable {P:Program} {N:Nat} {s:St} {a:Act} {w:World} {A:aN} {sp:Sp} {K:St→Prop} {Q:Exit→Act→World→Prop} {o:Oper}
theorem Hw{aG:cn}{ops:Array Oper}{m:MOp}{rest:Act→World→Prop}(hm:uc P aG N ops o=some m)(h:RS N s a w A sp)(hv:vc1 P m s K)(hn:Next s w A sp N K rest):(if Region.wanted o (yielded ops a.tmps)=true then o.wp P a w rest Q∨(o.asks P a w∧LetsOut Q) else rest (a.put o.dst undef) w):=by
 unfold uc at hm
 split at hm
 ·rename_i d x hg hd hop
  split at hm
  ·exact af3 hm h hv hn
  ·split at hm
   ·rename_i hN
    simp only[Option.map_eq_some_iff] at hm
    obtain⟨y,hy,rfl⟩:=hm
    have hw:Region.wanted o (yielded ops a.tmps)=true:=by simp[Region.wanted,hg]
    rw[if_pos hw]
    exact .inl (fin h hd hN (by simp[execOp,hop]) (bl h hy).1.erase .erase hv hn)
   ·cases hm
 ·split at hm
  ·rename_i d' x n hm'
   split at hm
   ·injection hm with hm;subst hm
    refine af3 hm' h ?_ hn
    simp only[vc1] at hv⊢
    split at hv
    ·rename_i e1;rw[e1];exact hv
    ·exact hv.elim
   ·injection hm with hm;subst hm
    exact af3 hm' h hv hn
  ·exact af3 hm h hv hn
 ·split at hm
  ·rename_i hm'
   injection hm with hm;subst hm
   exact af3 hm' h hv.2 hn
  ·exact af3 hm h hv hn
 ·exact af3 hm h hv hn
end
def AR(ops:Array Oper):Bool:=(List.range ops.size).all fun i=>match ops[i]? with
 |some o=>o.after.all fun e=> !Region.binds .any e||decide (e.on<i)
 |none=>true
def xl:List Nat→Bool
 |[]=>true
 |x::xs=> !xs.contains x&&xl xs
theorem Hx:∀(l:List Nat),xl l=true→l.Nodup
 |[],_=>List.nodup_nil
 |x::xs,h=>by
  simp only[xl,Bool.and_eq_true,Bool.not_eq_true'] at h
  exact List.nodup_cons.2 ⟨by simpa using h.1,Hx xs h.2⟩
theorem AS{bs:Array Nat}{x:Nat×MOp}{post:List (Nat×MOp)}:∀(pre:List (Nat×MOp)),afQ bs (pre++x::post)=true→afQ bs (pre++post)=true∧∀y∈pre,((bs.getD x.1 0).testBit y.1||afP y.2 x.2)=true
 |[],h=>by
  simp only[List.nil_append,afQ,Bool.and_eq_true] at h
  exact⟨h.2,by simp⟩
 |(y,my)::pre,h=>by
  simp only[List.cons_append,afQ,Bool.and_eq_true] at h
  obtain⟨h1,h2⟩:=AS pre h.2
  refine⟨?_,fun z hz=> ?_⟩
  ·simp only[List.cons_append,afQ,Bool.and_eq_true]
   refine⟨List.all_eq_true.2 fun p hp=>(List.all_eq_true.1 h.1) p ?_,h1⟩
   rcases List.mem_append.1 hp with hp|hp
   ·exact List.mem_append_left _ hp
   ·exact List.mem_append_right _ (List.mem_cons_of_mem _ hp)
  ·rcases List.mem_cons.1 hz with rfl|hz
   ·exact(List.all_eq_true.1 h.1) x (List.mem_append_right _ (List.mem_cons_self ..))
   ·exact h2 z hz
theorem adL{P:Program}{aG:cn}{N:Nat}{ops:Array Oper}{K:St→Prop}{Q:Exit→Act→World→Prop}(agM:AR ops=true):∀(n:Nat) (rem:List (Nat×MOp)) (listed:Array Bool) (s:St) (a:Act) (w:World) (A:aN) (sp:Sp),
  rem.length=n→listed.size=ops.size→(rem.map (·.1)).Nodup→(∀i,i<ops.size→(listed.getD i true=false↔i∈rem.map (·.1)))→
  (∀p∈rem,∃o,ops[p.1]? =some o∧uc P aG N ops o=some p.2)→afQ (Region.before ops) rem=true→
  (∀i o,listed.getD i true=true→i<ops.size→ops[i]? =some o→o.after.all (fun e=> !Region.binds .any e||listed.getD e.on false)=true)→
  RS N s a w A sp→vcs P (rem.map (·.2)) K s→(∀s' a' w' A' sp',K s'→RS N s' a' w' A' sp'→Ev w A (live s.loc sp) w' A' (live s'.loc sp')→Q .normal a' w')→
  wpAny P .any ops Q n listed a w:=by
 intro n
 induction n with
 |zero=>
  intro rem listed s a w A sp hlen hls dZ hin kf afR cE h hv hn
  have AT:rem=[]:=List.eq_nil_of_length_eq_zero hlen
  subst AT
  refine⟨?_,hn _ _ _ _ _ hv h (.refl _ _ _)⟩
  rw[Region.ready,List.filter_eq_nil_iff]
  intro i hi
  have hi':i<ops.size:=by simpa using hi
  have:=(hin i hi')
  simp only[List.map_nil,List.not_mem_nil,iff_false,Bool.not_eq_false] at this
  simp[this]
 |succ n ih=>
  intro rem listed s a w A sp hlen hls dZ hin kf afR cE h hv hn
  have hmem:∀i,i∈Region.ready .any ops listed→i<ops.size∧listed.getD i true=false∧∃o,ops[i]? =some o∧o.after.all (fun e=> !Region.binds .any e||listed.getD e.on false)=true:=by
   intro i hi
   rw[Region.ready,List.mem_filter] at hi
   obtain⟨h1,h2⟩:=hi
   have h1:i<ops.size:=by simpa using h1
   simp only[Bool.and_eq_true,Bool.not_eq_true'] at h2
   refine⟨h1,h2.1,ops[i],Array.getElem?_eq_getElem h1,?_⟩
   have:=h2.2
   rw[Array.getElem?_eq_getElem h1] at this
   exact this
  refine⟨fun AU=> ?_,fun i hi=> ?_⟩
  ·
   exfalso
   have hne:rem.map (·.1)≠[]:=by
    intro e
    have:rem.length=0:=by simpa using congrArg List.length e
    omega
   have hex:∃i,i∈rem.map (·.1)∧∀j,j∈rem.map (·.1)→i≤j:=by
    generalize rem.map (·.1)=l at hne
    induction l with
    |nil=>exact absurd rfl hne
    |cons x l ihl=>
     by_cases hl:l=[]
     ·subst hl;exact⟨x,by simp,by simp⟩
     ·obtain⟨i,h1,h2⟩:=ihl hl
      by_cases hx:x≤i
      ·exact⟨x,by simp,fun j hj=>by rcases List.mem_cons.1 hj with rfl|hj;exact Nat.le_refl _;exact Nat.le_trans hx (h2 j hj)⟩
      ·exact⟨i,by simp[h1],fun j hj=>by rcases List.mem_cons.1 hj with rfl|hj;omega;exact h2 j hj⟩
   obtain⟨i,hi1,hi2⟩:=hex
   obtain⟨p,hp,rfl⟩:=List.mem_map.1 hi1
   obtain⟨o,ho,_⟩:=kf p hp
   have hlt:=(Array.getElem?_eq_some_iff.1 ho).1
   have ue:p.1∈Region.ready .any ops listed:=by
    rw[Region.ready,List.mem_filter]
    refine⟨by simpa using hlt,?_⟩
    have hl:listed.getD p.1 true=false:=(hin _ hlt).2 hi1
    simp only[hl,Bool.not_false,Bool.true_and,ho,Option.map_some,Option.getD_some]
    refine Array.all_eq_true_iff_forall_mem.2 fun e he=> ?_
    cases hb:Region.binds .any e
    ·rfl
    ·have hf:=(List.all_eq_true.1 agM) p.1 (by simpa using hlt)
     rw[ho] at hf
     have hf:=(Array.all_eq_true_iff_forall_mem.1 hf) e he
     simp only[hb,Bool.not_true,Bool.false_or,decide_eq_true_eq] at hf
     have hnot:e.on∉rem.map (·.1):=fun hm=>by have:=hi2 _ hm;omega
     have hlo:e.on<ops.size:=by omega
     have:=mt (hin e.on hlo).1 hnot
     rw[Bool.not_eq_false] at this
     rw[Array.getD_eq_getD_getElem?,Array.getElem?_eq_getElem (by omega)] at this
     simp only[Bool.not_true,Bool.false_or]
     rw[Array.getD_eq_getD_getElem?,Array.getElem?_eq_getElem (by omega)]
     exact this
   rw[AU] at ue
   cases ue
  ·obtain⟨hlt,fk,o,ho,hall⟩:=hmem i hi
   have eH:i∈rem.map (·.1):=(hin i hlt).1 fk
   obtain⟨p,hp,rfl⟩:=List.mem_map.1 eH
   obtain⟨pre,post,rfl⟩:=List.append_of_mem hp
   obtain⟨ho1,kX⟩:=AS pre afR
   obtain⟨o',ho',ahr⟩:=kf p hp
   rw[ho] at ho';injection ho' with ho';subst ho'
   have AW:∀y∈pre.map (·.2),afP y p.2=true:=by
    intro y hy
    obtain⟨q,hq,rfl⟩:=List.mem_map.1 hy
    have:=kX q hq
    cases hw:((Region.before ops).getD p.1 0).testBit q.1
    ·rw[hw,Bool.false_or] at this;exact this
    ·exfalso
     have h1:=Hv cE hls (Hs ops _ _ hw) o ho hall
     obtain⟨oq,hoq,_⟩:=kf q (List.mem_append_left _ hq)
     have AX:=(Array.getElem?_eq_some_iff.1 hoq).1
     have h2:=(hin q.1 AX).2 (List.mem_map.2 ⟨q,List.mem_append_left _ hq,rfl⟩)
     rw[Array.getD_eq_getD_getElem?,Array.getElem?_eq_getElem (by omega)] at h1 h2
     rw[Option.getD_some] at h1 h2
     rw[h1] at h2;cases h2
   rw[List.map_append,List.map_cons] at hv
   have AY:fJ s:=⟨w.heap.size,fun b hb=>by
    cases hl:s.loc b with
    |none=>rfl
    |some cs=>
     obtain⟨vs,T,h1,_⟩:=h.loc b cs hl
     have:=(Array.getElem?_eq_some_iff.1 h1).1
     omega⟩
   have jv:=AP (pre.map (·.2)) AW s AY hv
   rw[←List.map_append] at jv
   unfold wpOp
   simp only[ho]
   refine Hw ahr h jv fun s' a' w' A' sp' hk hr aS=> ?_
   have dY:∀j,j<ops.size→(listed.setIfInBounds p.1 true).getD j true=if j=p.1 then true else listed.getD j true:=by
    intro j hj
    simp only[Array.getD_eq_getD_getElem?]
    by_cases e:j=p.1
    ·subst e;rw[Array.getElem?_setIfInBounds_self_of_lt (by omega)];simp
    ·rw[Array.getElem?_setIfInBounds_ne (Ne.symm e),if_neg e]
   refine ih (pre++post) (listed.setIfInBounds p.1 true) s' a' w' A' sp' (by simp at hlen⊢;omega) (by simpa using hls) ?_ (fun j hj=> ?_) (fun q hq=>kf q ?_) ho1 (fun j oj hj uf k6=> ?_) hr hk (fun s2 a2 w2 A2 f_ hk2 cD dJ=>hn s2 a2 w2 A2 f_ hk2 cD (aS.trans dJ))
   ·rw[List.map_append,List.map_cons] at dZ
    rw[List.map_append]
    exact dZ.sublist (List.Sublist.append_left (List.sublist_cons_self _ _) _)
   ·rw[dY j hj]
    rw[List.map_append,List.map_cons] at dZ hin
    rw[List.map_append]
    by_cases e:j=p.1
    ·subst e
     simp only[if_true,Bool.true_eq_false,false_iff,List.mem_append,not_or]
     have:=List.nodup_append.1 dZ
     refine⟨fun hm=>(this.2.2 _ hm _ (List.mem_cons_self ..)) rfl,fun hm=> ?_⟩
     exact(List.nodup_cons.1 this.2.1).1 hm
    ·rw[if_neg e,hin j hj]
     simp only[List.mem_append,List.mem_cons,e,false_or]
   ·rcases List.mem_append.1 hq with hq|hq
    ·exact List.mem_append_left _ hq
    ·exact List.mem_append_right _ (List.mem_cons_of_mem _ hq)
   ·have AZ:∀k,listed.getD k false=true→(listed.setIfInBounds p.1 true).getD k false=true:=by
     intro k hk
     simp only[Array.getD_eq_getD_getElem?] at hk⊢
     by_cases e:k=p.1
     ·subst e;rw[Array.getElem?_setIfInBounds_self_of_lt (by omega)];rfl
     ·rw[Array.getElem?_setIfInBounds_ne (Ne.symm e)];exact hk
    have A0:oj.after.all (fun e=> !Region.binds .any e||listed.getD e.on false)=true:=by
     rw[dY j uf] at hj
     by_cases e:j=p.1
     ·subst e;rw[ho] at k6;injection k6 with k6;subst k6;exact hall
     ·rw[if_neg e] at hj;exact cE j oj hj uf k6
    refine Array.all_eq_true_iff_forall_mem.2 fun e he=> ?_
    have:=(Array.all_eq_true_iff_forall_mem.1 A0) e he
    cases hb:Region.binds .any e
    ·rfl
    ·simp only[hb,Bool.not_true,Bool.false_or] at this⊢
     exact AZ _ this
end Go.aq
namespace Go.aq
open Go.RowKit
theorem ahs{x:AV}(h:isG x=true)(r:Nat):aC r x=x:=by cases x<;>first|rfl|cases h
def ru:MOp→Bool
 |.af d _|.lV d _|.ag d _|.bx d _|.aU d _ _|.kO d _ _|.alloc d _|.load d _ _|.iy d _ _|.addr d _ _|.aK d _ _ _|.cw d _ _ _ _|.iW d _ _ _
 |.iu d _ _ _ _ _|.dF d _ _|.build d _ _|.aM d _ _ _ _|.len d _|.aez d _|.kP d _|.app d _ _ _ _|.bin d _ _ _|.iw d _ _ _|.ff d _ _ _ _
 |.not d _|.neg d _|.conv d _ _|.pick d _ _ _|.ext d _ _|.aeU d _ _|.iz d _ _|.call d _ _|.gJ d _ _|.eP d _ _ _|.dg d _|.iX d _ _ _|.kQ d _ _ _|.aev d _|.isNil d _ _
 |.mkM d _ _ _ _ _|.mQ d _ _ _|.afV d _ _|.agc d _ _ _ _|.mR d _ _ _|.o_ d _ _ _|.agd d _ _ _ _ _|.afC d _ _ _|.afZ d _ _=>decide (d<gS)
 |.store .. |.jV .. =>true
 |.bp k _ _=>decide (k<gS)
 |.apart _ _ m=>ru m
 |.guard _ _ d m=>(match d with|some d=>decide (d<gS)|none=>true)&&ru m
 |.gK .. |.kR .. |.iY .. |.lW .. |.jo .. |.jq .. |.mkMap .. |.n5 .. |.afW .. |.lY .. |.iA .. |.afX .. |.afY .. |.lookup .. |.bG _=>false
section
variable {P:Program} {s:St}
theorem cV{d:Nat}{x:AV}(h:decide (d<gS)=true)(k:Nat)(hk:gS≤k):(s.set d x).env k=s.env k:=bE _ _ (by intro e;have:=of_decide_eq_true h;omega)
theorem af4{r:Nat}(h:∀k,gS≤k→isG (s.env k)=true)(k:Nat)(hk:gS≤k):(s.aT r).env k=s.env k:=ahs (h k hk) r
theorem aht{r q:Nat}(h:∀k,gS≤k→isG (s.env k)=true)(k:Nat)(hk:gS≤k):((s.aT r).aT q).env k=s.env k:=by rw[af4 (fun k hk=>by rw[af4 h k hk];exact h k hk) k hk,af4 h k hk]
theorem ah4{d:Nat}{x:AV}(hd:decide (d<gS)=true)(h:∀k,gS≤k→isG (s.env k)=true)(k:Nat)(hk:gS≤k):(fh s d x).env k=s.env k:=by
 unfold fh
 split
 ·split
  ·exact cV hd k hk
  ·rw[cV hd k hk];exact aht h k hk
 ·exact cV hd k hk
theorem ot{cs:List AV}{off:Nat}{n:Option Nat}{K K':AV→Prop}(h:∀v,K v→K' v)(hv:cx cs off n K):cx cs off n K':=by
 cases n with
 |none=>exact⟨hv.1,h _ hv.2⟩
 |some n=>exact⟨hv.1,h _ hv.2⟩
theorem Hy{l:Loc}{x:AV}{n:Option Nat}{K K':AV→Prop}(h:∀v,K v→K' v)(hv:cJ l x n K):cJ l x n K':=by
 unfold cJ at hv⊢
 split at hv
 ·exact ot (fun v=>h _) hv
 ·split at hv
  ·exact ot h hv
  ·exact hv.elim
 ·exact hv.elim
theorem RW{op:BinOp}{k:IntKind}{a b:Int}{K K':AV→Prop}(h:∀v,K v→K' v)(hv:aeF op k a b K):aeF op k a b K':=by cases op<;>simp only[aeF] at hv⊢ <;>first|exact h _ hv|exact⟨hv.1,h _ hv.2⟩|exact⟨hv.1,hv.2.1,h _ hv.2.2⟩|exact hv.elim
theorem RX{op:BinOp}{a b:ByteArray}{K K':AV→Prop}(h:∀v,K v→K' v)(hv:lZ op a b K):lZ op a b K':=by cases op<;>simp only[lZ] at hv⊢ <;>first|exact h _ hv|exact hv.elim
theorem Hz{op:BinOp}{k:IntKind}{a b:Int}{K K':AV→Prop}(h:∀v,K v→K' v)(hv:pg op k a b K):pg op k a b K':=by cases op<;>simp only[pg] at hv⊢ <;>first|exact⟨hv.1,h _ hv.2⟩|exact hv.elim
theorem HA{op:BinOp}{x y:AV}{K K':AV→Prop}(h:∀v,K v→K' v)(hv:cU op x y K):cU op x y K':=by
 unfold cU at hv⊢
 split at hv
 ·split at hv
  ·exact Hz h hv
  ·exact Hz h hv
  ·exact⟨hv.1,RW h hv.2⟩
 ·exact RX h hv
 ·exact hv.elim
theorem ahu{e:Nat→AV}:∀{ps:List (Nat×Nat×ai)} {cs:List AV} {K K':List AV→Prop},(∀v,K v→K' v)→kS e cs ps K→kS e cs ps K'
 |[],_,_,_,h,hv=>h _ hv
 |_::_,_,_,_,h,hv=>⟨hv.1,hv.2.1,ahu h hv.2.2⟩
theorem ahv{e:Nat→AV}{sz:Nat}:∀{ps:List (Nat×ai)} {xs:List AV} {K K':List AV→Prop},(∀v,K v→K' v)→gL e sz xs ps K→gL e sz xs ps K'
 |[],_,_,_,h,hv=>h _ hv
 |_::_,_,_,_,h,hv=>⟨hv.1,hv.2.1,hv.2.2.1,ahv h hv.2.2.2⟩
theorem RY:∀{m:MOp} {s:St} {K:St→Prop},ru m=true→(∀k,gS≤k→isG (s.env k)=true)→vc1 P m s K→vc1 P m s (fun s'=>K s'∧∀k,gS≤k→s'.env k=s.env k):=by
 intro m
 induction m with
 |apart zs x m ih=>intro s K hm hg h;exact⟨h.1,ih hm hg h.2⟩
 |guard g want d m ih=>
  intro s K hm hg h
  simp only[ru,Bool.and_eq_true] at hm
  cases d with
  |none=>
   simp only[vc1] at h⊢
   split at h
   ·exact⟨fun e=>ih hm.2 hg (h.1 e),fun e=>⟨h.2 e,fun _ _=>by first|rfl|trivial⟩⟩
   ·exact⟨h,fun _ _=>by first|rfl|trivial⟩
   ·exact h.elim
  |some d=>
   simp only[vc1] at h⊢
   split at h
   ·exact⟨fun e=>ih hm.2 hg (h.1 e),fun e=>⟨h.2 e,cV hm.1⟩⟩
   ·exact⟨h,cV hm.1⟩
   ·exact h.elim
 |iY=>intro s K hm;cases hm
 |jo=>intro s K hm;cases hm
 |jq=>intro s K hm;cases hm
 |mkMap=>intro s K hm;cases hm
 |lY=>intro s K hm;cases hm
 |iA=>intro s K hm;cases hm
 |afX=>intro s K hm;cases hm
 |afY=>intro s K hm;cases hm
 |lookup=>intro s K hm;cases hm
 |bG=>intro s K hm;cases hm
 |gK=>intro s K hm;cases hm
 |kR=>intro s K hm;cases hm
 |lW=>intro s K hm;cases hm
 |n5=>intro s K hm;cases hm
 |afW=>intro s K hm;cases hm
 |ag d x=>intro s K hm hg h;exact⟨h,ah4 hm hg⟩
 |bx d sz=>intro s K hm hg h;exact⟨h,fun k hk=>by rw[cV hm k hk];exact af4 hg k hk⟩
 |kO d x n=>intro s K hm hg h;exact⟨h.1,fun b hb=>⟨h.2 b hb,cV (s:=s.new b _) hm⟩⟩
 |alloc d z=>intro s K hm hg h;exact fun b hb=>⟨h b hb,cV (s:=s.new b _) hm⟩
 |load d x n=>intro s K hm hg h;exact Hy (fun v hv=>⟨hv,cV hm⟩) h
 |iy d x n=>
  intro s K hm hg h
  simp only[vc1] at h⊢
  split at h
  ·exact ot (fun v hv=>⟨hv,cV hm⟩) h
  ·exact h.elim
 |store x y n aO=>
  intro s K hm hg h
  simp only[vc1,ae7] at h⊢
  split at h
  ·split at h
   ·refine⟨h.1,h.2.1,h.2.2.1,?_⟩
    have h:=h.2.2.2
    split at h
    ·split at h
     ·rename_i h0;rw[if_pos h0];exact⟨h,fun _ _=>by first|rfl|trivial⟩
     ·rename_i h0;rw[if_neg h0];exact⟨h,aht hg⟩
    ·exact⟨h,fun _ _=>by first|rfl|trivial⟩
   ·exact h.elim
  ·exact h.elim
 |jV x sz aO=>
  intro s K hm hg h
  simp only[vc1] at h⊢
  split at h
  ·split at h
   ·exact⟨h.1,h.2,af4 hg⟩
   ·exact h.elim
  ·exact h.elim
 |bp k y n=>
  intro s K hm hg h
  simp only[vc1] at h⊢
  split at h
  ·split at h
   ·exact⟨h.1,h.2.1,h.2.2.1,h.2.2.2,fun q hq=>bE _ _ (by intro e;have:=of_decide_eq_true hm;omega)⟩
   ·exact h.elim
  ·exact h.elim
 |build d z ps=>intro s K hm hg h;exact ahu (fun v hv=>⟨hv,cV hm⟩) h
 |aM d n sz z ps=>intro s K hm hg h;exact ahv (fun v hv=>⟨hv,fun k hk=>by rw[cV hm k hk];exact af4 hg k hk⟩) h
 |app d x y sz b=>
  intro s K hm hg h
  simp only[vc1] at h⊢
  split at h
  ·exact⟨h.1,h.2.1,h.2.2.1,h.2.2.2.1,h.2.2.2.2.1,h.2.2.2.2.2,fun k hk=>by rw[cV hm k hk];exact aht hg k hk⟩
  ·exact h.elim
 |bin d op x y=>intro s K hm hg h;exact HA (fun v hv=>⟨hv,cV hm⟩) h
 |iW d x off n=>
  intro s K hm hg h
  simp only[vc1] at h⊢
  split at h
  ·exact ot (fun v hv=>⟨hv,cV hm⟩) h
  ·exact h.elim
 |iu d x i len sz n=>
  intro s K hm hg h
  simp only[vc1] at h⊢
  split at h
  ·exact⟨h.1,h.2.1,ot (fun v hv=>⟨hv,cV hm⟩) h.2.2⟩
  ·exact h.elim
 |ff d neg n x y=>
  intro s K hm hg h
  simp only[vc1] at h⊢
  split at h
  ·obtain⟨h1,h2,q,hq,hk⟩:=h
   exact⟨h1,h2,q,hq,hk,cV hm⟩
  ·exact h.elim
 |mkM d n c sz bytes zero=>
  intro s K hm hg h
  simp only[vc1] at h⊢
  split at h
  ·exact⟨h.1,h.2.1,h.2.2.1,h.2.2.2.1,h.2.2.2.2.1,fun b hb=>⟨h.2.2.2.2.2 b hb,cV (s:=s.new b _) hm⟩⟩
  ·exact h.elim
 |afV d f xs=>intro s K hm hg h;obtain⟨ys,u,h1,h2,h3,h4⟩:=h;exact⟨ys,u,h1,h2,h3,h4,cV hm⟩
 |mQ d x y sz=>
  intro s K hm hg h
  simp only[vc1] at h⊢
  split at h
  ·split at h
   ·exact⟨h.1,h.2.1,h.2.2.1,h.2.2.2.1,h.2.2.2.2.1,h.2.2.2.2.2,cV (s:=s.new _ _) hm⟩
   ·exact h.elim
  ·exact h.elim
 |isNil d neg x=>
  intro s K hm hg h
  simp only[vc1] at h⊢
  split at h
  ·exact⟨fun e=>⟨h.1 e,cV hm⟩,h.2,cV hm⟩
  ·exact⟨h,cV hm⟩
  ·exact h.elim
 |agc d x hi mx sz=>
  intro s K hm hg h
  simp only[vc1] at h⊢
  split at h
  ·exact⟨h,fun k hk=>by rw[cV hm k hk];exact af4 hg k hk⟩
  ·exact h.elim
 |mR d x y sz=>
  intro s K hm hg h
  simp only[vc1] at h⊢
  split at h
  ·split at h
   ·exact⟨h.1,h.2.1,h.2.2.1,h.2.2.2.1,h.2.2.2.2.1,h.2.2.2.2.2,cV (s:=s.new _ _) hm⟩
   ·exact h.elim
  ·exact h.elim
 |agd d x y sz bytes zero=>
  intro s K hm hg h
  simp only[vc1] at h⊢
  split at h
  ·exact⟨h.1,h.2.1,h.2.2.1,h.2.2.2.1,h.2.2.2.2.1,fun b r hb=>⟨h.2.2.2.2.2 b r hb,cV (s:=s.new b _) hm⟩⟩
  ·exact h.elim
 |afC d x y sz=>
  intro s K hm hg h
  simp only[vc1] at h⊢
  split at h
  ·split at h
   ·exact⟨h.1,h.2.1,h.2.2.1,h.2.2.2,cV (s:=s.new _ _) hm⟩
   ·exact h.elim
  ·exact h.elim
 |call d f xs=>intro s K hm hg h;obtain⟨r,h1,h2⟩:=h;exact⟨r,h1,h2,cV hm⟩
 |gJ d x xs=>
  intro s K hm hg h
  simp only[vc1] at h⊢
  split at h
  ·obtain⟨r,h1,h2⟩:=h;exact⟨r,h1,h2,cV hm⟩
  ·exact h.elim
 |_=>
  intro s K hm hg h
  simp only[vc1] at h⊢
  first
   |exact⟨h,cV hm⟩
   |exact⟨h.1,h.2,cV hm⟩
   |(split at h<;>first|exact⟨h,cV hm⟩|exact⟨h.1,h.2,cV hm⟩|exact⟨h.1,h.2.1,h.2.2,cV hm⟩|exact⟨h.1,h.2.1,h.2.2.1,h.2.2.2,cV hm⟩|exact h.elim)
end
theorem xm{ro:Option Nat}{n:Nat}{P:Program}{f:FuncId}{args:Array Value}{w:World}{R:Ending→World→Prop}(h:Calls P f args w R):CallsIn (Fw ro) n P f args w R:=(callsIn_wide (n:=n)).2 h
theorem A5{ro:Option Nat}{n:Nat}{P:Program}{f:FuncId}{args:Array Value}{w:World}{R:Ending→World→Prop}(h:CallsIn (Fw ro) n P f args w R):Calls P f args w R:=(callsIn_wide (n:=n)).1 h
def NQ(K:Act→World→Prop):Exit→Act→World→Prop
 |.normal,a,w=>K a w
 |_,_,_=>False
def xo(ds:List Deferred)(K:Act→World→Prop):Act→World→Prop:=fun a w=>a.defers=ds∧K ⟨a.tmps,[]⟩ w
theorem RZ(t:Array Value)(d1 d2:List Deferred)(d:Option Tmp)(v:Value):((⟨t,d1⟩:Act).put d v).tmps=((⟨t,d2⟩:Act).put d v).tmps∧((⟨t,d1⟩:Act).put d v).defers=d1:=by cases d<;>exact⟨rfl,rfl⟩
theorem ug{t:Array Value}{ds:List Deferred}{d:Option Tmp}{v:Value}{w:World}{next:Act→World→Prop}(h:next ((⟨t,[]⟩:Act).put d v) w):xo ds next ((⟨t,ds⟩:Act).put d v) w:=by cases d<;>exact⟨rfl,h⟩
theorem R1{P:Program}{o:Oper}{t:Array Value}{ds:List Deferred}{w:World}{next:Act→World→Prop}{K:Act→World→Prop}{Q':Exit→Act→World→Prop}{ro:Option Nat}{n:Nat}(dZ:∀c,o.op≠.defer c)(hd:∀a w,next a w→a.defers=[])(h:o.wp P ⟨t,[]⟩ w next (NQ K)):o.wpIn (Fw ro) n P ⟨t,ds⟩ w (xo ds next) Q':=by
 refine⟨fun _ _=>trivial,?_⟩
 rw[Oper.semAt_eq _ _ _ dZ]
 unfold Oper.wp at h
 have he:(⟨t,ds⟩:Act).eval=(⟨t,[]⟩:Act).eval:=rfl
 rw[he]
 generalize (execOp (⟨t,[]⟩:Act).eval o).run P w=r at h⊢
 cases r with
 |ok x w'=>
  cases x with
  |value v=>exact ug h
  |skip=>exact ug h
  |defer d=>
   have:=hd _ _ h
   rw[(RZ t [d] [] o.dst undef).2] at this
   cases this
  |enter f args=>
   refine⟨fun e=>(by cases e),xm (Calls.mono h fun e w'' he=> ?_)⟩
   cases e with
   |returned v=>exact ug he
   |panicked c=>exact he.elim
   |outgrown=>obtain⟨_,_,he⟩:=he;exact he.elim
  |row row args=>
   refine⟨fun e=>(by cases e),fun c cs _=> ?_⟩
   obtain⟨v,w2,h1,h2⟩:=h c cs
   exact⟨v,w2,ug h1,stepsIn_wide.2 h2⟩
  |_=>exact h.elim
 |halt x w'=>cases x<;>exact h.elim
end Go.aq
namespace Go.aq
open Go.RowKit
theorem Ev.agv{w w':World}{A A' L L':aN}(h:Ev w A L w' A' L')(T:aN):Ev w A (join L T) w' A' (join L' T):=by
 refine⟨h.os,h.tape,h.output,h.size,fun b o hb hl=> ?_,fun b hb hl=>h.block b hb fun o ho=>hl o (.inl ho),h.sub,fun b o ha=> ?_⟩
 ·simp only[join,not_or] at hl
  obtain⟨h1,h2⟩:=h.cell b o hb hl.1
  exact⟨h1,by simp only[join,not_or];exact⟨h2,hl.2⟩⟩
 ·rcases h.sup b o ha with h1|h1|h1
  ·exact .inl h1
  ·exact .inr (.inl (.inl h1))
  ·exact .inr (.inr h1)
section
variable {w w':World} {A A' L L':aN}
theorem Ev.uh(h:Ev w A L w' A' L'){M M':aN}(h1:∀b o,L b o→M b o∨w.heap.size≤b)(h2:∀b o,b<w.heap.size→M' b o→M b o∨L' b o):Ev w A M w' A' M':=by
 refine⟨h.os,h.tape,h.output,h.size,fun b o hb hl=> ?_,fun b hb hl=>h.block b hb fun o ho=> ?_,h.sub,fun b o ha=> ?_⟩
 ·have hL:¬L b o:=fun hx=>by rcases h1 b o hx with e|e;exact hl e;omega
  obtain⟨g1,g2⟩:=h.cell b o hb hL
  exact⟨g1,fun hm=>by rcases h2 b o hb hm with e|e;exact hl e;exact g2 e⟩
 ·rcases h1 b o ho with e|e
  ·exact hl o e
  ·omega
 ·rcases h.sup b o ha with g|g|g
  ·exact .inl g
  ·rcases h1 b o g with e|e
   ·exact .inr (.inl e)
   ·exact .inr (.inr e)
  ·exact .inr (.inr g)
theorem rz(w:World){l b o:Nat}(ob:Obj)(h:b≠l):(w.putObj l ob).cell? ⟨b,o,none⟩=w.cell? ⟨b,o,none⟩:=World.cell?_of_block (World.putObj_heap_other h)
theorem Ev.putObj(w:World)(A:aN){L:aN}{l:Nat}(ob:Obj)(hl:∀o,L l o):Ev w A L (w.putObj l ob) A L:=by refine⟨rfl,rfl,rfl,by simp,fun b o hb h=>⟨rz w ob (fun e=>h (e▸hl o)),h⟩,fun b hb h=>World.putObj_heap_other (fun e=>h 0 (e▸hl 0)),fun _ _ h=>h,fun _ _ h=>.inl h⟩
theorem A6{l o:Nat}{ob:Obj}(h:w.heap[l]? =some ob)(hc:ob.isCells=false):w.cell? ⟨l,o,none⟩=none:=by cases ob<;>first|(cases hc;done)|simp[World.cell?,h]
theorem kM.putObj{l:Nat}{ob pU:Obj}(h:w.heap[l]? =some ob)(hc:ob.isCells=false)(hL:∀o,¬L l o)(hA:∀b o,A b o→b<w.heap.size∧¬L b o):kM w (w.putObj l pU) A A L:=by
 refine⟨rfl,rfl,rfl,by simp,fun b o hl=>World.putObj_heap_other (fun e=>hL o (e▸hl)),fun b o v ha hv=> ?_,fun _ _ h=>h,fun b o ha=>⟨by simpa using(hA b o ha).1,(hA b o ha).2⟩⟩
 rw[rz w pU (fun e=>by subst e;rw[A6 h hc] at hv;cases hv)]
 exact hv
theorem kM.alloc(ob:Obj)(hA:∀b o,A b o→b<w.heap.size∧¬L b o)(hL:∀b o,L b o→b<w.heap.size):kM w (w.alloc ob) A A L:=⟨rfl,rfl,rfl,by rw[ae8];omega,fun b o hl=>heap_alloc _ _ _ (hL b o hl),fun b o v ha hv=>by rw[mU _ _ _ _ (hA b o ha).1];exact hv,fun _ _ h=>h,fun b o ha=>⟨by rw[ae8];have:=(hA b o ha).1;omega,(hA b o ha).2⟩⟩
end
theorem ir.block{w:World}{A:aN}{b:Nat}{x:AV}(h:ir w A b x)(hx:x≠.any):∃ob,w.heap[b]? =some ob∧ob.isCells=false:=by
 cases h with
 |any=>exact absurd rfl hx
 |iter t pos h=>exact⟨_,h,rfl⟩
 |map es es' clock h _ _ _=>exact⟨_,h,rfl⟩
 |n3 b' since seen h=>exact⟨_,h,rfl⟩
theorem ir.mono{w w':World}{A A':aN}{b:Nat}{x:AV}(h:ir w A b x)(hb:x≠.any→w'.heap[b]? =w.heap[b]?)(hc:∀b o v,A b o→w.cell? ⟨b,o,none⟩=some v→w'.cell? ⟨b,o,none⟩=some v∧A' b o):ir w' A' b x:=by
 cases h with
 |any=>exact .any
 |iter t pos h=>exact .iter t pos ((hb (fun e=>by cases e)).trans h)
 |map es es' clock h hs cE hr=>exact .map es es' clock ((hb (fun e=>by cases e)).trans h) hs cE fun i e he=>⟨(hr i e he).1.mono hc,(hr i e he).2.1.mono hc,(hr i e he).2.2⟩
 |n3 b' since seen h=>exact .n3 b' since seen ((hb (fun e=>by cases e)).trans h)
section
variable {P:Program} {C:Ctx P} {Pt:List (Nat×Obj)} {s:St} {a:Act} {w:World} {A Lx:aN} {sp:Sp}
theorem RS.R2{N:Nat}(h:RS N s a w A sp){b o:Nat}(hl:live s.loc sp b o):∃vs T,w.heap[b]? =some (.cells vs T (0,0)):=by
 rcases hl with hl|⟨r,h1,h2,h3⟩
 ·cases hb:s.loc b with
  |none=>exact absurd hb hl
  |some cs=>
   obtain⟨vs,T,h1,_⟩:=h.loc b cs hb
   exact⟨vs,T,h1⟩
 ·obtain⟨⟨vs,T,h4,_⟩,_⟩:=h.cg r (by omega)
  exact⟨vs,T,h1▸h4⟩
theorem RS.rA{N:Nat}(h:RS N s a w A sp){b:Nat}{ob:Obj}(hb:w.heap[b]? =some ob)(hc:ob.isCells=false)(o:Nat):¬live s.loc sp b o:=by
 intro hl
 obtain⟨vs,T,h1⟩:=h.R2 hl
 rw[h1] at hb;injection hb with hb;rw[←hb] at hc;cases hc
theorem GS.pV(h:GS C Pt s a w A Lx sp){p:Nat×Obj}(hp:p∈Pt)(o:Nat):¬held s sp p.1 o:=by
 obtain⟨h2,h3,_,_,h4⟩:=h.pt p hp
 rintro(hl|hl)
 ·exact h.rs.rA h2 h3 o hl
 ·exact hl h4
theorem GS.uj(h:GS C Pt s a w A Lx sp){b o:Nat}(hb:aes s b o):∃ob,w.heap[b]? =some ob∧ob.isCells=false:=(h.ob b).block hb
theorem GS.afT(h:GS C Pt s a w A Lx sp){b o:Nat}(hl:held s sp b o):b<w.heap.size:=by
 rcases hl with hl|hl
 ·exact h.rs.wO hl
 ·obtain⟨ob,h1,_⟩:=h.uj hl
  exact cy h1
theorem GS.pW(h:GS C Pt s a w A Lx sp){b o:Nat}(ha:A b o):¬held s sp b o:=by
 rintro(hl|hl)
 ·exact(h.rs.av b o ha).2 hl
 ·exact h.oa b o hl ha
theorem k7(s:St)(gh:AV):(s.set gS gh).env gS=gh:=by simp[St.set,aD]
theorem rB(s:St)(gh:AV)(b:Nat):(s.set gS gh).env (oS+b)=s.env (oS+b):=bE _ _ (by simp[gS,oS];omega)
theorem GS.step(h:GS C Pt s a w A Lx sp){s':St}{a':Act}{w':World}{A':aN}{sp':Sp}(hr:RS C.N s' ⟨a'.tmps,[]⟩ w' A' sp')
  (aS:Ev w A (held s sp) w' A' (held s' sp'))(hi:∀k,gS≤k→isG (s'.env k)=true)(hg:s'.env gS=s.env gS)(ho:∀b,ir w' A' b (s'.env (oS+b)))(R3:∀b o,aes s' b o→¬A' b o)(hd:a'.defers=a.defers):
  GS C Pt s' a' w' A' Lx sp'∧Ev w A (join (held s sp) Lx) w' A' (join (held s' sp') Lx):=by
 have HB:∀b o,Lx b o→∀o',¬held s sp b o':=fun b o hl o' hl'=>h.ap b o' o hl' hl
 have hav:∀b o,A' b o→¬Lx b o:=by
  intro b o ha hl
  rcases aS.sup b o ha with h1|h1|h1
  ·exact h.av b o h1 hl
  ·exact h.ap b o o h1 hl
  ·exact absurd (h.lt b o hl) (by omega)
 refine⟨⟨hr,hi,fun b o hl=>Nat.lt_of_lt_of_le (h.lt b o hl) aS.size,fun b o o' hl hx=> ?_,hav,?_,fun p hp=> ?_,ho,R3,Nat.le_trans h.bs aS.size,by rw[hd];exact h.dn,by rw[hd];exact h.df,h.ro⟩,aS.agv Lx⟩
 ·exact(aS.cell b o (h.lt b o' hx) (HB b o' hx o)).2 hl
 ·rw[hg]
  exact C.st _ _ _ _ _ _ h.x ⟨aS.os,aS.tape,aS.output,aS.size,fun b o hl=>aS.block b (h.lt b o hl) (HB b o hl),fun b o v ha hc=>(aS.cell b o (h.rs.av b o ha).1 (h.pW ha)).1.trans hc,aS.sub,fun b o ha=>⟨(hr.av b o ha).1,hav b o ha⟩⟩
 ·obtain⟨h1,h2,h3⟩:=h.pt p hp
  refine⟨(aS.block p.1 (cy h1) (h.pV hp)).trans h1,h2,h3.1,fun o ha=> ?_,?_⟩
  ·rcases aS.sup _ o ha with h4|h4|h4
   ·exact h3.2.1 o h4
   ·exact h.pV hp o h4
   ·exact absurd (cy h1) (by omega)
  ·refine Classical.byContradiction fun hne=> ?_
   exact(aS.cell p.1 0 (cy h1) (h.pV hp 0)).2 (.inr hne)
theorem GS.own(h:GS C Pt s a w A Lx sp){s':St}{a':Act}{w':World}{A':aN}{sp':Sp}(hr:RS C.N s' ⟨a'.tmps,[]⟩ w' A' sp')
  (aS:Ev w A (live s.loc sp) w' A' (live s'.loc sp'))(hg:∀k,gS≤k→s'.env k=s.env k)(hd:a'.defers=a.defers):
  GS C Pt s' a' w' A' Lx sp'∧Ev w A (join (held s sp) Lx) w' A' (join (held s' sp') Lx):=by
 have ho:∀b,s'.env (oS+b)=s.env (oS+b):=fun b=>hg _ (by simp only[gS,oS];omega)
 have fK:aes s'=aes s:=by funext b o;simp only[aes,ho]
 have hE:Ev w A (held s sp) w' A' (held s' sp'):=by unfold held;rw[fK];exact aS.agv (aes s)
 refine h.step hr hE (fun k hk=>by rw[hg k hk];exact h.ig k hk) (hg gS (Nat.le_refl _)) (fun b=> ?_) (fun b o hb ha=> ?_) hd
 ·rw[ho]
  refine(h.ob b).mono (fun hx=> ?_) (fun b o v ha hv=>⟨((aS.cell b o (h.rs.av b o ha).1 (h.rs.av b o ha).2).1).trans hv,aS.sub b o ha⟩)
  obtain⟨ob,h1,h2⟩:=(h.ob b).block hx
  exact aS.block b (cy h1) (h.rs.rA h1 h2)
 ·rw[fK] at hb
  obtain⟨ob,h1,h2⟩:=h.uj hb
  rcases aS.sup b o ha with h3|h3|h3
  ·exact h.oa b o hb h3
  ·exact h.rs.rA h1 h2 o h3
  ·exact absurd (cy h1) (by omega)
theorem RS.keep{N:Nat}(h:RS N s a w A sp){w':World}{A' L:aN}(hk:kM w w' A A' L)(hL:∀b o,live s.loc sp b o→L b o):RS N s a w' A' sp:=by
 refine h.world hk.cell hk.sub (fun b cs hb=>hk.blk b 0 (hL b 0 (.inl (by rw[hb];exact fun e=>by cases e)))) (fun r hr=> ?_) (fun b o ha=>⟨(hk.nZ b o ha).1,fun hl=>(hk.nZ b o ha).2 (hL b o hl)⟩)
 obtain⟨⟨vs,T,h1,h2⟩,_⟩:=h.cg r hr
 exact⟨vs,T,(hk.blk _ _ (hL _ (sp r).2.1 (.inr ⟨r,rfl,Nat.le_refl _,hr⟩))).trans h1,h2⟩
theorem GS.keep(h:GS C Pt s a w A Lx sp){w':World}{A' L:aN}(hk:kM w w' A A' L)(hL:∀b o,held s sp b o→L b o)(hX:∀b o,Lx b o→L b o)(hP:∀p∈Pt,∀o,L p.1 o):GS C Pt s a w' A' Lx sp where
 rs:=h.rs.keep hk fun b o hl=>hL b o (.inl hl)
 ig:=h.ig
 lt b o hl:=Nat.lt_of_lt_of_le (h.lt b o hl) hk.size
 ap:=h.ap
 av b o ha hl:=(hk.nZ b o ha).2 (hX b o hl)
 x:=C.st _ _ _ _ _ _ h.x ⟨hk.os,hk.tape,hk.output,hk.size,fun b o hl=>hk.blk b o (hX b o hl),hk.cell,hk.sub,fun b o ha=>⟨(hk.nZ b o ha).1,fun hl=>(hk.nZ b o ha).2 (hX b o hl)⟩⟩
 pt p hp:=⟨(hk.blk p.1 0 (hP p hp 0)).trans (h.pt p hp).1,(h.pt p hp).2.1,(h.pt p hp).2.2.1,fun o ha=>(hk.nZ _ o ha).2 (hP p hp o),(h.pt p hp).2.2.2.2⟩
 ob b:=(h.ob b).mono (fun hx=>hk.blk b 0 (hL b 0 (.inr hx))) fun b o v ha hv=>⟨hk.cell b o v ha hv,hk.sub b o ha⟩
 oa b o hb ha:=(hk.nZ b o ha).2 (hL b o (.inr hb))
 bs:=Nat.le_trans h.bs hk.size
 dn:=h.dn
 df:=h.df
 ro:=h.ro
theorem GS.other(h:GS C Pt s a w A Lx sp){w':World}{A' bw:aN}{gh:AV}(k8:isG gh=true)(aS:Ev w A Lx w' A' bw)(hlt:∀b o,bw b o→b<w'.heap.size)
  (hav:∀b o,A' b o→b<w'.heap.size∧¬bw b o)(hx:C.X gh w' A' bw):
  GS C Pt (s.set gS gh) a w' A' bw sp∧Ev w A (join (held s sp) Lx) w' A' (join (held (s.set gS gh) sp) bw):=by
 have hap:∀b o o',held s sp b o→¬bw b o':=fun b o o' hl hx=>(aS.cell b o' (h.afT hl) (h.ap b o o' hl)).2 hx
 have jy:∀b o,held s sp b o→w'.heap[b]? =w.heap[b]? :=fun b o hl=>aS.block b (h.afT hl) (fun o'=>h.ap b o o' hl)
 have uk:∀b o,A' b o→¬held s sp b o:=by
  intro b o ha hl
  rcases aS.sup b o ha with h1|h1|h1
  ·exact h.pW h1 hl
  ·exact h.ap b o o hl h1
  ·exact absurd (h.afT hl) (by omega)
 have hcell:∀b o v,A b o→w.cell? ⟨b,o,none⟩=some v→w'.cell? ⟨b,o,none⟩=some v:=fun b o v ha hc=>(aS.cell b o (h.rs.av b o ha).1 (h.av b o ha)).1.trans hc
 have cG:RS C.N s ⟨a.tmps,[]⟩ w' A' sp:=by
  refine h.rs.world hcell aS.sub (fun b cs hb=>jy b 0 (.inl (.inl (by rw[hb];exact fun e=>by cases e)))) (fun r hr=> ?_) (fun b o ha=>⟨(hav b o ha).1,fun hl=>uk b o ha (.inl hl)⟩)
  obtain⟨⟨vs,T,h1,h2⟩,_⟩:=h.rs.cg r hr
  exact⟨vs,T,(jy _ (sp r).2.1 (.inl (.inr ⟨r,rfl,Nat.le_refl _,hr⟩))).trans h1,h2⟩
 have pX:RS C.N (s.set gS gh) ⟨a.tmps,[]⟩ w' A' sp:=by
  refine⟨cG.size,cG.defers,fun d=> ?_,cG.loc,cG.cg,cG.dO,cG.av⟩
  by_cases hd:d=gS
  ·subst hd
   rw[k7]
   cases gh<;>first|(cases k8;done)|exact⟨.any _,trivial⟩|exact⟨.ghost _ _ _ _,trivial⟩
  ·have e:(s.set gS gh).env d=s.env d:=bE _ _ hd
   rw[e];exact cG.env d
 have fK:aes (s.set gS gh)=aes s:=by funext b o;simp only[aes,rB]
 have how:held (s.set gS gh) sp=held s sp:=by unfold held;rw[fK];rfl
 refine⟨⟨pX,fun k hk=> ?_,hlt,by rw[how];exact hap,fun b o ha=>(hav b o ha).2,by rw[k7];exact hx,fun p hp=> ?_,fun b=> ?_,fun b o hb ha=> ?_,Nat.le_trans h.bs aS.size,h.dn,h.df,h.ro⟩,?_⟩
 ·by_cases e:k=gS
  ·subst e;rw[k7];exact k8
  ·rw[show(s.set gS gh).env k=s.env k from bE _ _ e];exact h.ig k hk
 ·obtain⟨h1,h2,h3⟩:=h.pt p hp
  refine⟨(aS.block p.1 (cy h1) h3.1).trans h1,h2,fun o hl=>(aS.cell p.1 o (cy h1) (h3.1 o)).2 hl,fun o ha=> ?_,by rw[rB];exact h3.2.2⟩
  rcases aS.sup _ o ha with h4|h4|h4
  ·exact h3.2.1 o h4
  ·exact h3.1 o h4
  ·exact absurd (cy h1) (by omega)
 ·rw[rB]
  exact(h.ob b).mono (fun hx=>jy b 0 (.inr hx)) fun b o v ha hv=>⟨hcell b o v ha hv,aS.sub b o ha⟩
 ·rw[fK] at hb;exact uk b o ha (.inr hb)
 ·rw[how]
  refine⟨aS.os,aS.tape,aS.output,aS.size,fun b o hb hl=> ?_,fun b hb hl=>aS.block b hb fun o ho=>hl o (.inr ho),aS.sub,fun b o ha=> ?_⟩
  ·simp only[join,not_or] at hl
   obtain⟨h1,h2⟩:=aS.cell b o hb hl.2
   exact⟨h1,by simp only[join,not_or];exact⟨hl.1,h2⟩⟩
  ·rcases aS.sup b o ha with h1|h1|h1
   ·exact .inl h1
   ·exact .inr (.inl (.inr h1))
   ·exact .inr (.inr h1)
theorem aek.HC{cs:List AV}(h:cs.map AV.erase0=cs)(i:Nat){v:Value}:aek sp (cs.getD i .any) v:=by rw[←h,iV];exact .erase0
theorem GS.R4(h:GS C Pt s a w A Lx sp){g:Nat}{cs:List AV}(hg:s.loc g=some cs)(hcs:cs.map AV.erase0=cs){w':World}{A' bw:aN}{gh:AV}(k8:isG gh=true)(aS:Ev w A (join Lx (lU g)) w' A' (join bw (lU g)))
  (hlt:∀b o,bw b o→b<w'.heap.size)(hav:∀b o,A' b o→b<w'.heap.size∧¬bw b o)(hA:∀o,¬A' g o)(hL:∀o,¬bw g o)(um:qW w' A' g cs)(hx:C.X gh w' A' bw):
  GS C Pt (s.set gS gh) a w' A' bw sp∧Ev w A (join (held s sp) Lx) w' A' (join (held (s.set gS gh) sp) bw):=by
 have uo:∀o,live s.loc sp g o:=fun o=>.inl (by rw[hg];exact fun e=>by cases e)
 have rC:∀o,¬A g o:=fun o ha=>(h.rs.av g o ha).2 (uo o)
 have adM:∀o,¬Lx g o:=fun o hl=>h.ap g o o (.inl (uo o)) hl
 have hnot:∀b o,b≠g→¬Lx b o→¬join Lx (lU g) b o:=fun b o e hl hj=>hj.elim hl e
 have hap:∀b o o',held s sp b o→¬bw b o':=fun b o o' hl hx=>by
  by_cases e:b=g
  ·subst e;exact hL o' hx
  ·exact(aS.cell b o' (h.afT hl) (hnot b o' e (h.ap b o o' hl))).2 (.inl hx)
 have jy:∀b o,b≠g→held s sp b o→w'.heap[b]? =w.heap[b]? :=fun b o e hl=>aS.block b (h.afT hl) (fun o'=>hnot b o' e (h.ap b o o' hl))
 have uk:∀b o,A' b o→¬held s sp b o:=by
  intro b o ha hl
  rcases aS.sup b o ha with h1|h1|h1
  ·exact h.pW h1 hl
  ·rcases h1 with h1|h1
   ·exact h.ap b o o hl h1
   ·subst h1;exact hA o ha
  ·exact absurd (h.afT hl) (by omega)
 have hcell:∀b o v,A b o→w.cell? ⟨b,o,none⟩=some v→w'.cell? ⟨b,o,none⟩=some v:=fun b o v ha hc=>(aS.cell b o (h.rs.av b o ha).1 (hnot b o (fun e=>rC o (e▸ha)) (h.av b o ha))).1.trans hc
 have hmono:∀{x:AV} {v:Value},RV w A x v→RV w' A' x v:=fun hx=>hx.mono fun b o v ha hv=>⟨hcell b o v ha hv,aS.sub b o ha⟩
 have kY:∀r,(sp r).2.1<(sp r).2.2→(sp r).1≠g:=fun r hr e=>by
  have:=(h.rs.cg r hr).2
  rw[e,hg] at this;cases this
 have cG:RS C.N s ⟨a.tmps,[]⟩ w' A' sp:=by
  refine⟨h.rs.size,h.rs.defers,fun d=>⟨hmono (h.rs.env d).1,(h.rs.env d).2⟩,fun b cs' hb=> ?_,fun r hr=>⟨?_,(h.rs.cg r hr).2⟩,h.rs.dO,fun b o ha=>⟨(hav b o ha).1,fun hl=>uk b o ha (.inl hl)⟩⟩
  ·by_cases e:b=g
   ·subst e
    rw[hg] at hb;injection hb with hb;subst hb
    obtain⟨vs,T,g1,g2,g3⟩:=um
    exact⟨vs,T,g1,g2,fun i=>⟨g3 i,.HC hcs i⟩⟩
   ·obtain⟨vs,T,g1,g2,g3⟩:=h.rs.loc b cs' hb
    exact⟨vs,T,(jy b 0 e (.inl (.inl (by rw[hb];exact fun e=>by cases e)))).trans g1,g2,fun i=>⟨hmono (g3 i).1,(g3 i).2⟩⟩
  ·obtain⟨⟨vs,T,h1,h2⟩,_⟩:=h.rs.cg r hr
   exact⟨vs,T,(jy _ (sp r).2.1 (kY r hr) (.inl (.inr ⟨r,rfl,Nat.le_refl _,hr⟩))).trans h1,h2⟩
 have pX:RS C.N (s.set gS gh) ⟨a.tmps,[]⟩ w' A' sp:=by
  refine⟨cG.size,cG.defers,fun d=> ?_,cG.loc,cG.cg,cG.dO,cG.av⟩
  by_cases hd:d=gS
  ·subst hd
   rw[k7]
   cases gh<;>first|(cases k8;done)|exact⟨.any _,trivial⟩|exact⟨.ghost _ _ _ _,trivial⟩
  ·have e:(s.set gS gh).env d=s.env d:=bE _ _ hd
   rw[e];exact cG.env d
 have fK:aes (s.set gS gh)=aes s:=by funext b o;simp only[aes,rB]
 have how:held (s.set gS gh) sp=held s sp:=by unfold held;rw[fK];rfl
 refine⟨⟨pX,fun k hk=> ?_,hlt,by rw[how];exact hap,fun b o ha=>(hav b o ha).2,by rw[k7];exact hx,fun p hp=> ?_,fun b=> ?_,fun b o hb ha=> ?_,Nat.le_trans h.bs aS.size,h.dn,h.df,h.ro⟩,?_⟩
 ·by_cases e:k=gS
  ·subst e;rw[k7];exact k8
  ·rw[show(s.set gS gh).env k=s.env k from bE _ _ e];exact h.ig k hk
 ·obtain⟨h1,h2,h3⟩:=h.pt p hp
  have xp:p.1≠g:=fun e=>h.pV hp 0 (by rw[e];exact .inl (uo 0))
  refine⟨(aS.block p.1 (cy h1) fun o=>hnot _ o xp (h3.1 o)).trans h1,h2,fun o hl=>(aS.cell p.1 o (cy h1) (hnot _ o xp (h3.1 o))).2 (.inl hl),fun o ha=> ?_,by rw[rB];exact h3.2.2⟩
  rcases aS.sup _ o ha with h4|h4|h4
  ·exact h3.2.1 o h4
  ·rcases h4 with h4|h4
   ·exact h3.1 o h4
   ·exact xp h4
  ·exact absurd (cy h1) (by omega)
 ·rw[rB]
  refine(h.ob b).mono (fun hx=> ?_) fun b o v ha hv=>⟨hcell b o v ha hv,aS.sub b o ha⟩
  have A7:b≠g:=fun e=>by
   obtain⟨ob,q1,q2⟩:=h.uj (b:=b) (o:=0) hx
   exact h.rs.rA q1 q2 0 (e▸uo 0)
  exact jy b 0 A7 (.inr hx)
 ·rw[fK] at hb;exact uk b o ha (.inr hb)
 ·rw[how]
  have A8:∀o,join (held s sp) Lx g o:=fun o=>.inl (.inl (uo o))
  refine⟨aS.os,aS.tape,aS.output,aS.size,fun b o hb hl=> ?_,fun b hb hl=>aS.block b hb fun o ho=> ?_,aS.sub,fun b o ha=> ?_⟩
  ·have A7:b≠g:=fun e=>hl (e▸A8 o)
   simp only[join,not_or] at hl
   obtain⟨h1,h2⟩:=aS.cell b o hb (hnot b o A7 hl.2)
   exact⟨h1,by simp only[join,not_or] at h2⊢;exact⟨hl.1,h2.1⟩⟩
  ·rcases ho with ho|ho
   ·exact hl o (.inr ho)
   ·subst ho;exact hl o (A8 o)
  ·rcases aS.sup b o ha with h1|h1|h1
   ·exact .inl h1
   ·rcases h1 with h1|h1
    ·exact .inr (.inl (.inr h1))
    ·subst h1;exact .inr (.inl (A8 o))
   ·exact .inr (.inr h1)
def ou(ro:Option Nat)(P:Program)(ops:Array Oper)(o:Oper)(a:Act)(w:World)(rest:Act→World→Prop)(Q:Exit→Act→World→Prop):Prop:=if Region.wanted o (yielded ops a.tmps)=true then o.wpIn (Fw ro) 0 P a w rest Q else (∀f,o.about P w a.eval=some f→(Fw ro).fn f)∧rest (a.put o.dst undef) w
def aeH(C:Ctx P)(Pt:List (Nat×Obj))(s:St)(w:World)(A Lx:aN)(sp:Sp)(ds:List Deferred)(K:St→Prop)(rest:Act→World→Prop):Prop:=∀s' a' w' A' bw sp',K s'→GS C Pt s' a' w' A' bw sp'→Ev w A (join (held s sp) Lx) w' A' (join (held s' sp') bw)→a'.defers=ds→rest a' w'
theorem R5{ops:Array Oper}{o:Oper}{m:MOp}{K:St→Prop}{rest:Act→World→Prop}{Q:Exit→Act→World→Prop}(h:GS C Pt s a w A Lx sp)(dZ:∀c,o.op≠.defer c)(hm:ru m=true)
  (hv:vc1 P m s K)(hs:∀(K:St→Prop) (rest:Act→World→Prop) (Q:Exit→Act→World→Prop),vc1 P m s K→Next s w A sp C.N K rest→(if Region.wanted o (yielded ops a.tmps)=true then o.wp P ⟨a.tmps,[]⟩ w rest Q∨(o.asks P ⟨a.tmps,[]⟩ w∧LetsOut Q) else rest ((⟨a.tmps,[]⟩:Act).put o.dst undef) w))
  (hn:aeH C Pt s w A Lx sp a.defers K rest):ou C.ro P ops o a w rest Q:=by
 have jv:=RY hm h.ig hv
 have h1:=hs _ (fun a1 w1=>a1.defers=[]∧∃s' A' sp',K s'∧(∀k,gS≤k→s'.env k=s.env k)∧RS C.N s' a1 w1 A' sp'∧Ev w A (live s.loc sp) w1 A' (live s'.loc sp')) (NQ fun _ _=>True) jv (fun s' a' w' A' sp' hk hr aS=>⟨hr.defers,s',A',sp',hk.1,hk.2,hr,aS⟩)
 have fin:∀a' w',xo a.defers (fun a1 w1=>a1.defers=[]∧∃s' A' sp',K s'∧(∀k,gS≤k→s'.env k=s.env k)∧RS C.N s' a1 w1 A' sp'∧Ev w A (live s.loc sp) w1 A' (live s'.loc sp')) a' w'→rest a' w':=by
  rintro a' w' ⟨hd,-,s',A',sp',hk,hg,hr,aS⟩
  obtain⟨g1,g2⟩:=h.own hr aS hg hd
  exact hn s' a' w' A' Lx sp' hk g1 g2 hd
 unfold ou
 split at h1
 ·rename_i hw
  rw[if_pos hw]
  rcases h1 with h1|⟨_,_,_,h1⟩
  ·exact Oper.wpIn_mono (K:=xo a.defers _) fin (R1 (t:=a.tmps) (ds:=a.defers) dZ (fun _ _ hh=>hh.1) h1)
  ·exact h1.elim
 ·rename_i hw
  rw[if_neg hw]
  refine⟨fun _ _=>trivial,fin _ _ ?_⟩
  exact ug (t:=a.tmps) h1
end
end Go.aq
namespace Go.aq
open Go.RowKit
section
variable {P:Program} {C:Ctx P} {Pt:List (Nat×Obj)} {s:St} {a:Act} {w:World} {A Lx:aN} {sp:Sp} {o:Oper} {d:Nat} {K:St→Prop} {rest:Act→World→Prop} {Q:Exit→Act→World→Prop}
theorem afI{ro:Option Nat}{v:Value}{w':World}(dZ:∀c,o.op≠.defer c)(hrun:(execOp a.eval o).run P w=.ok (.value v) w')(h:rest (a.put o.dst v) w'):o.wpIn (Fw ro) 0 P a w rest Q:=by
 refine⟨fun _ _=>trivial,?_⟩
 rw[Oper.semAt_eq _ _ _ dZ,hrun,Oper.uponIn_value]
 exact h
theorem HD{ro:Option Nat}{w':World}(dZ:∀c,o.op≠.defer c)(hrun:(execOp a.eval o).run P w=.ok .skip w')(h:rest (a.put o.dst undef) w'):o.wpIn (Fw ro) 0 P a w rest Q:=by
 refine⟨fun _ _=>trivial,?_⟩
 rw[Oper.semAt_eq _ _ _ dZ,hrun,Oper.uponIn_skip]
 exact h
theorem RS.ghost{N:Nat}(h:RS N s a w A sp)(k:Nat){x:AV}(hx:isG x=true):RS N (s.set k x) a w A sp:=by
 refine⟨h.size,h.defers,fun d=> ?_,h.loc,h.cg,h.dO,h.av⟩
 by_cases hd:d=k
 ·subst hd
  rw[show(s.set d x).env d=x from dP _ _ _]
  cases x<;>first|(cases hx;done)|exact⟨.any _,trivial⟩|exact⟨.ghost _ _ _ _,trivial⟩
 ·rw[show(s.set k x).env d=s.env d from bE _ _ hd];exact h.env d
theorem uq(b:Nat):gS<oS+b:=by simp only[gS,oS];omega
theorem GS.obj(h:GS C Pt s a w A Lx sp){b:Nat}{x:AV}(hx:isG x=true){w':World}
  (hfr:s.env (oS+b)≠.any∨b=w.heap.size)(hle:w.heap.size≤w'.heap.size)
  (hos:w'.os=w.os∧w'.tape=w.tape∧w'.output=w.output)(jy:∀c,c<w.heap.size→c≠b→w'.heap[c]? =w.heap[c]?)(dR:ir w' A b x):
  GS C Pt (s.set (oS+b) x) a w' A Lx sp∧Ev w A (join (held s sp) Lx) w' A (join (held (s.set (oS+b) x) sp) Lx):=by
 have HE:∀o,¬A b o:=by
  intro o ha
  rcases hfr with hf|hf
  ·exact h.oa b o hf ha
  ·exact absurd (h.rs.av b o ha).1 (by omega)
 have hlb:∀o,¬live s.loc sp b o:=by
  intro o hl
  rcases hfr with hf|hf
  ·obtain⟨ob,h1,h2⟩:=h.uj (o:=o) hf
   exact h.rs.rA h1 h2 o hl
  ·exact absurd (h.rs.wO hl) (by omega)
 have hxb:∀o,¬Lx b o:=by
  intro o hl
  rcases hfr with hf|hf
  ·exact h.ap b o o (.inr hf) hl
  ·exact absurd (h.lt b o hl) (by omega)
 have hcell:∀c o v,A c o→w.cell? ⟨c,o,none⟩=some v→w'.cell? ⟨c,o,none⟩=some v:=fun c o v ha hv=>(World.cell?_of_block (jy c (h.rs.av c o ha).1 (fun e=>HE o (e▸ha)))).trans hv
 have xq:∀c o,c<w.heap.size→live s.loc sp c o→w'.heap[c]? =w.heap[c]? :=fun c o hc hl=>jy c hc (fun e=>hlb o (e▸hl))
 have cG:RS C.N s ⟨a.tmps,[]⟩ w' A sp:=by
  refine h.rs.world hcell (fun _ _ ha=>ha) (fun c cs hc=>xq c 0 (h.rs.qY hc) (.inl (by rw[hc];exact fun e=>by cases e))) (fun r hr=> ?_) (fun c o ha=>⟨Nat.lt_of_lt_of_le (h.rs.av c o ha).1 hle,(h.rs.av c o ha).2⟩)
  obtain⟨⟨vs,T,h1,h2⟩,_⟩:=h.rs.cg r hr
  exact⟨vs,T,(xq _ (sp r).2.1 (cy h1) (.inr ⟨r,rfl,Nat.le_refl _,hr⟩)).trans h1,h2⟩
 have pX:=cG.ghost (oS+b) hx
 have afu:∀c,c≠b→(s.set (oS+b) x).env (oS+c)=s.env (oS+c):=fun c hc=>bE _ _ (by omega)
 have HF:(s.set (oS+b) x).env (oS+b)=x:=dP _ _ _
 have aS:Ev w A (held s sp) w' A (held (s.set (oS+b) x) sp):=by
  refine⟨hos.1,hos.2.1,hos.2.2,hle,fun c o hc hl=> ?_,fun c hc hl=> ?_,fun _ _ ha=>ha,fun _ _ ha=>.inl ha⟩
  ·have hcb:c≠b∨(c=b∧False):=by
    by_cases e:c=b
    ·subst e
     rcases hfr with hf|hf
     ·exact absurd (.inr hf) hl
     ·omega
    ·exact .inl e
   rcases hcb with hcb|⟨_,hf⟩
   ·refine⟨World.cell?_of_block (jy c hc hcb),fun hh=> ?_⟩
    rcases hh with hh|hh
    ·exact hl (.inl hh)
    ·exact hl (.inr (by simp only[aes,afu c hcb] at hh;exact hh))
   ·exact hf.elim
  ·refine jy c hc fun e=> ?_
   subst e
   rcases hfr with hf|hf
   ·exact hl 0 (.inr hf)
   ·omega
 refine h.step (a':=a) pX aS (fun k hk=> ?_) ?_ (fun c=> ?_) (fun c o hc ha=> ?_) rfl
 ·by_cases e:k=oS+b
  ·subst e;rw[HF];exact hx
  ·rw[show(s.set (oS+b) x).env k=s.env k from bE _ _ e];exact h.ig k hk
 ·exact bE _ _ (Nat.ne_of_lt (uq b))
 ·by_cases e:c=b
  ·subst e;rw[HF];exact dR
  ·rw[afu c e]
   refine(h.ob c).mono (fun hne=> ?_) fun b o v ha hv=>⟨hcell b o v ha hv,ha⟩
   obtain⟨ob,g1,_⟩:=(h.ob c).block hne
   exact jy c (cy g1) e
 ·by_cases e:c=b
  ·subst e;exact HE o ha
  ·simp only[aes,afu c e] at hc;exact h.oa c o hc ha
theorem GS.put(h:GS C Pt s a w A Lx sp){d:Nat}(hd:d<C.N)(hg:d<gS){x:AV}{v:Value}(hr:RV w A x v)(ho:aek sp x v):GS C Pt (s.set d x) (a.put (some d) v) w A Lx sp:=by
 have h1:RS C.N (s.set d x) ⟨(a.put (some d) v).tmps,[]⟩ w A sp:=h.rs.put hd hr ho
 have h2:=(h.own (a':=a.put (some d) v) h1 (.refl _ _ _) (fun k hk=>bE _ _ (by omega)) rfl).1
 exact h2
theorem jd{s:St}{d:Nat}(hd:d<gS)(x:AV)(sp:Sp):held (s.set d x) sp=held s sp:=by
 unfold held
 have:aes (s.set d x)=aes s:=by funext b o;simp only[aes];rw[show(s.set d x).env (oS+b)=s.env (oS+b) from bE _ _ (by simp only[gS,oS] at*;omega)]
 rw[this];rfl
theorem R6{T:TypeId}{x:Operand}{mx:ai}(hop:o.op=.range T x)(hd:o.dst=some d)(hN:d<C.N)(aZ:C.N≤gS)(ht:P.underlying T=some .string)(hx:aF x=some mx)(h:GS C Pt s a w A Lx sp)(hv:vc1 P (.jo d mx) s K)(hn:aeH C Pt s w A Lx sp a.defers K rest):o.wpIn (Fw C.ro) 0 P a w rest Q:=by
 have h1:RV w A (mx.ev s.env) (a.eval x):=(bl h.rs hx).1
 simp only[vc1] at hv
 split at hv
 ·rename_i t e1
  rw[e1] at h1
  have ur:s.env (oS+w.heap.size)=.any:=Classical.byContradiction fun hne=>by
   obtain⟨ob,g1,_⟩:=(h.ob w.heap.size).block hne
   exact absurd (cy g1) (Nat.lt_irrefl _)
  have hK:=hv w.heap.size h.rs.fresh ur
  generalize bg:a.eval x=v0 at h1
  cases h1
  have hrun:(execOp a.eval o).run P w=.ok (.value (.pointer (some ⟨w.heap.size,0,none⟩))) (w.alloc (.stringIter t 0)):=by simp[execOp,hop,bg,Instr.range,run_underlying ht]
  refine afI (by rw[hop];intro c e;cases e) hrun ?_
  obtain⟨g1,g2⟩:=h.obj (b:=w.heap.size) (x:=ae4 t 0) (w':=w.alloc (.stringIter t 0)) rfl (.inr rfl) (by rw[ae8];omega) ⟨rfl,rfl,rfl⟩ (fun c hc _=>heap_alloc _ _ _ hc) (.iter t 0 (qX _ _))
  rw[hd]
  have cQ:d<gS:=Nat.lt_of_lt_of_le hN aZ
  exact hn _ _ _ _ _ _ hK (g1.put hN cQ (.au _ _) trivial) (by rw[jd cQ];exact g2) rfl
 ·exact hv.elim
theorem R7{x:Operand}{mx:ai}(hop:o.op=.next x true)(hd:o.dst=some d)(hN:d<C.N)(aZ:C.N≤gS)(hx:aF x=some mx)(h:GS C Pt s a w A Lx sp)(hv:vc1 P (.jq d mx) s K)(hn:aeH C Pt s w A Lx sp a.defers K rest):o.wpIn (Fw C.ro) 0 P a w rest Q:=by
 have h1:RV w A (mx.ev s.env) (a.eval x):=(bl h.rs hx).1
 have cQ:d<gS:=Nat.lt_of_lt_of_le hN aZ
 simp only[vc1] at hv
 split at hv
 ·rename_i b e1
  rw[e1] at h1
  obtain⟨t,pos,e2,pL,jv⟩:=hv
  have dR:=h.ob b
  rw[e2] at dR
  have hne:s.env (oS+b)≠.any:=by rw[e2];intro e;cases e
  generalize bg:a.eval x=v0 at h1
  cases h1
  have fo:w.heap[b]? =some (.stringIter t pos):=by
   generalize hz:ae4 t pos=z at dR
   cases dR with
   |any=>cases hz
   |iter t' pos' hh=>injection hz with z1 z2;injection z2 with z3;injection z3 with z4;injection z4 with z5;injection z5 with z6;rw[z1,z6];exact hh
   |map=>injection hz with _ _ z3;cases z3
   |n3=>injection hz with _ z2;injection z2 with z3;injection z3 with z4;injection z4 with z5;cases z5
  by_cases hp:pos<t.size
  ·have hrun:(execOp a.eval o).run P w=.ok (.value (.tuple #[.bool true,.int .i64 pos,.int .i32 (Utf8.decode t pos).1])) (w.putObj b (.stringIter t (pos+(Utf8.decode t pos).2))):=by simp[execOp,hop,bg,Instr.next,getObj,setObj,Sem.run,fo,hp,Result.andThen,World.putObj,goInt]
   refine afI (by rw[hop];intro c e;cases e) hrun ?_
   obtain⟨g1,g2⟩:=h.obj (b:=b) (x:=ae4 t (pos+(Utf8.decode t pos).2)) (w':=w.putObj b (.stringIter t (pos+(Utf8.decode t pos).2))) rfl (.inl hne) (by simp) ⟨rfl,rfl,rfl⟩ (fun c hc hcb=>World.putObj_heap_other hcb) (.iter t _ (World.putObj_heap_same (cy fo)))
   rw[hd]
   refine hn _ _ _ _ _ _ (pL hp) (g1.put hN cQ (.tuple _ _ rfl fun i=> ?_) trivial) (by rw[jd cQ];exact g2) rfl
   match i with
   |0=>exact .lit _ rfl
   |1=>exact .lit _ rfl
   |2=>exact .lit _ rfl
   |i+3=>simp;exact .any _
  ·have hrun:(execOp a.eval o).run P w=.ok (.value (.tuple #[.bool false])) w:=by simp[execOp,hop,bg,Instr.next,getObj,Sem.run,fo,hp,Result.andThen]
   refine afI (by rw[hop];intro c e;cases e) hrun ?_
   rw[hd]
   refine hn _ _ _ _ _ _ (jv hp) (h.put hN cQ (.tuple _ _ rfl fun i=> ?_) trivial) (by rw[jd cQ];exact .refl _ _ _) rfl
   match i with
   |0=>exact .lit _ rfl
   |i+1=>simp;exact .any _
 ·exact hv.elim
theorem R8{T:TypeId}(hop:o.op=.makeMap T none)(hd:o.dst=some d)(hN:d<C.N)(aZ:C.N≤gS)(h:GS C Pt s a w A Lx sp)(hv:vc1 P (.mkMap d) s K)(hn:aeH C Pt s w A Lx sp a.defers K rest):o.wpIn (Fw C.ro) 0 P a w rest Q:=by
 simp only[vc1] at hv
 have ur:s.env (oS+w.heap.size)=.any:=Classical.byContradiction fun hne=>by
  obtain⟨ob,g1,_⟩:=(h.ob w.heap.size).block hne
  exact absurd (cy g1) (Nat.lt_irrefl _)
 have hK:=hv w.heap.size h.rs.fresh ur
 have hrun:(execOp a.eval o).run P w=.ok (.value (.map (some w.heap.size))) (w.alloc (.map #[] 0)):=by simp[execOp,hop,Instr.makeMap]
 refine afI (by rw[hop];intro c e;cases e) hrun ?_
 obtain⟨g1,g2⟩:=h.obj (b:=w.heap.size) (x:=bI []) (w':=w.alloc (.map #[] 0)) rfl (.inr rfl) (by rw[ae8];omega) ⟨rfl,rfl,rfl⟩ (fun c hc _=>heap_alloc _ _ _ hc) (.map [] #[] 0 (qX _ _) rfl rfl (fun i e he=>by simp at he))
 rw[hd]
 have cQ:d<gS:=Nat.lt_of_lt_of_le hN aZ
 exact hn _ _ _ _ _ _ hK (g1.put hN cQ (.bQ _) trivial) (by rw[jd cQ];exact g2) rfl
end
end Go.aq
namespace Go.aq
open Go.RowKit
section
variable {P:Program} {w:World} {A:aN}
theorem R9{t:TypeId}{n:List Bool}{as bs:List AV}{xs ys:Array Value}{q:Bool}(ht:af0 P t=some n)(l1:as.length=n.length)(l2:bs.length=n.length)(eB:xs.size=as.length)(dX:ys.size=bs.length)(hr1:∀i,RV w A (as.getD i .any) (xs.getD i undef))(cD:∀i,RV w A (bs.getD i .any) (ys.getD i undef))(hq:dh n as bs=some q):(Op.equal t (.agg xs) (.agg ys)).run P w=.ok q w:=by
 unfold af0 at ht
 split at ht
 ·rename_i fs hu
  split at ht
  ·rename_i hc
   injection ht with ht
   simp only[Bool.and_eq_true,Bool.not_eq_true'] at hc
   obtain⟨⟨hf,hst⟩,hg⟩:=hc
   have hfo:P.fieldsOf t=fs:=by simp[Program.fieldsOf,hu]
   show(Op.equalIn (9999+1) t _ _).run P w=_
   rw[run_equalIn_struct w 9999 t xs ys (by rw[hfo];exact hu) hst,hfo]
   exact Az (P:=P) (w:=w) 9998 xs ys as bs eB dX hr1 cD fs.toList (mV P fs.toList) 0 q hf (by rw[l1,←ht];simp[mV]) (by rw[l2,←ht];simp[mV]) (by rw[ht];simpa using hq)
  ·cases ht
 ·cases ht
theorem A9:∀{ks:List Bool} {as bs:List AV} {q:Bool},dh ks as bs=some q→as.length=bs.length∧as.length=ks.length:=by
 intro ks as bs q h
 induction ks generalizing as bs q with
 |nil=>
  unfold dh at h
  split at h
  ·exact⟨rfl,rfl⟩
  ·rename_i e;cases e
  ·rename_i e;cases e
  ·cases h
 |cons k ks ih=>
  unfold dh at h
  split at h
  ·rename_i e;cases e
  ·rename_i ks' _ _ _ _ _ _ e
   injection e with _ e;subst e
   split at h
   ·simp only[Option.map_eq_some_iff] at h
    obtain⟨q',dG,_⟩:=h
    have:=ih dG
    simp[this.1,←this.2]
   ·cases h
  ·rename_i ks' _ _ _ _ e
   injection e with _ e;subst e
   simp only[Option.map_eq_some_iff] at h
   obtain⟨q',dG,_⟩:=h
   have:=ih dG
   simp[this.1,←this.2]
  ·cases h
def rD(P:Program)(e:TypeId):Bool:=match P.underlying e,P.info? e with
 |some (.int _),some i=>i.size==1
 |_,_=>false
theorem HG{e:TypeId}(h:rD P e=true):∃kd i,P.underlying e=some (.int kd)∧P.info? e=some i∧P.cellsOf e=1:=by
 unfold rD at h
 split at h
 ·rename_i kd i h1 h2
  exact⟨kd,i,h1,h2,by simpa[Program.cellsOf,h2] using h⟩
 ·cases h
theorem HH{e:TypeId}{kd:IntKind}(d:Nat)(he:P.underlying e=some (.int kd))(cB gz:Array Value)(xs ys:List AV)(eB:cB.size=xs.length)(dX:gz.size=ys.length)
  (hr1:∀i,RV w A (xs.getD i .any) (cB.getD i undef))(cD:∀i,RV w A (ys.getD i .any) (gz.getD i undef)):∀(m j:Nat) (q:Bool),j+m=xs.length→ys.length=xs.length→dh (List.replicate m false) (xs.drop j) (ys.drop j)=some q→
  (Op.eqItems (d+1) e 1 cB gz (List.range' j m)).run P w=.ok q w
 |0,j,q,h1,h2,h=>by
  rw[List.drop_of_length_le (by omega),List.drop_of_length_le (by omega)] at h
  simp only[List.replicate,dh] at h
  injection h with h;subst h
  rfl
 |m+1,j,q,h1,h2,h=>by
  have hj:j<xs.length:=by omega
  have hj2:j<ys.length:=by omega
  rw[List.drop_eq_getElem_cons hj,List.drop_eq_getElem_cons hj2,List.replicate_succ] at h
  have g1:=hr1 j;have g2:=cD j
  rw[List.getD_eq_getElem?_getD,List.getElem?_eq_getElem hj,Option.getD_some] at g1
  rw[List.getD_eq_getElem?_getD,List.getElem?_eq_getElem hj2,Option.getD_some] at g2
  have e1:cB[j]? =some (cB.getD j undef):=by rw[Array.getD_eq_getD_getElem?,Array.getElem?_eq_getElem (by omega)];rfl
  have e2:gz[j]? =some (gz.getD j undef):=by rw[Array.getD_eq_getD_getElem?,Array.getElem?_eq_getElem (by omega)];rfl
  have afN:(isAgg e).run P w=.ok false w:=by
   unfold isAgg
   rw[Sem.run_bind,run_underlying he]
   rfl
  have p1:(part e cB (j*1)).run P w=.ok (cB.getD j undef) w:=by simp only[part,Sem.run_bind,afN,Nat.mul_one,e1,Result.andThen_ok];rfl
  have p2:(part e gz (j*1)).run P w=.ok (gz.getD j undef) w:=by simp only[part,Sem.run_bind,afN,Nat.mul_one,e2,Result.andThen_ok];rfl
  generalize xs[j]=x at*
  generalize ys[j]=y at*
  unfold dh at h
  split at h
  ·rename_i e;cases e
  ·rename_i ks k a xs' k' b ys' e3 e4 e5
   injection e3 with _ e3
   injection e4 with e4 e6
   injection e5 with e5 e7
   subst e3 e4 e5 e6 e7
   split at h
   ·rename_i hk;subst hk
    simp only[Option.map_eq_some_iff] at h
    obtain⟨q',dG,rfl⟩:=h
    have v1:=g1.aeo;have v2:=g2.aeo
    rw[v1] at p1;rw[v2] at p2
    have heq:=run_equalIn_int w d e k kd a b he
    have ih:=HH d he cB gz xs ys eB dX hr1 cD m (j+1) q' (by omega) h2 dG
    rw[List.range'_succ]
    simp only[Op.eqItems,Sem.run_bind,p1,p2,Result.andThen_ok,heq]
    cases hab:(a==b)
    ·simp
    ·simpa using ih
   ·cases h
  ·rename_i e3 _ _;injection e3 with e3;cases e3
  ·cases h
theorem R_{k e:TypeId}{n:Nat}(hu:P.underlying k=some (.array n e))(hE:rD P e=true){xs ys:List AV}{cB gz:Array Value}(hn:xs.length=n)(eB:cB.size=xs.length)(dX:gz.size=ys.length)(hr1:∀i,RV w A (xs.getD i .any) (cB.getD i undef))(cD:∀i,RV w A (ys.getD i .any) (gz.getD i undef)){q:Bool}(he:dh (List.replicate xs.length false) xs ys=some q):(Op.equal k (.agg cB) (.agg gz)).run P w=.ok q w:=by
 obtain⟨kd,i,h1,h2,h3⟩:=HG hE
 show(Op.equalIn (9999+1) k _ _).run P w=_
 rw[run_equalIn_array (w:=w) 9999 cB gz hu h2,h3,List.range_eq_range']
 have hl:=(A9 he).1
 rw[←hn]
 exact HH 9998 h1 cB gz xs ys eB dX hr1 cD xs.length 0 q (by omega) hl.symm (by simpa using he)
def k9(P:Program)(k:TypeId)(key:AV):Bool:=
 match P.underlying k,key with
 |some (.int _),.lit (.int _ _)=>true
 |some (.array n e),.agg xs=>decide (xs.length=n)&&rD P e
 |some (.struct _),.agg xs=>match af0 P k with
  |some n=>decide (n=List.replicate xs.length false)
  |none=>false
 |_,_=>false
theorem A_{k:TypeId}{x y:AV}{vx vy:Value}{q:Bool}(hk:k9 P k x=true)(hx:RV w A x vx)(hy:RV w A y vy)(he:fX x y=some q):(((∃fs,P.underlying k=some (.struct fs))∨∃n e,P.underlying k=some (.array n e))∨∃kd,P.underlying k=some (.int kd)∧Instr.sameNow (.int kd) vx vy=some q)∧(Op.equal k vx vy).run P w=.ok q w:=by
 unfold k9 at hk
 split at hk
 ·rename_i kd kk n hu
  cases y with
  |lit v=>
   cases v with
   |int k' b=>
    simp only[fX] at he
    split at he
    ·rename_i e;subst e
     injection he with he;subst he
     have e1:=hx.aeo;have e2:=hy.aeo
     subst e1 e2
     refine⟨.inr ⟨kd,hu,by simp[Instr.sameNow]⟩,?_⟩
     show(Op.equalIn (9999+1) k _ _).run P w=_
     exact run_equalIn_int w 9999 k kk kd n b hu
    ·cases he
   |_=>simp[fX] at he
  |_=>simp[fX] at he
 ·rename_i n e xs hu
  simp only[Bool.and_eq_true,decide_eq_true_eq] at hk
  cases y with
  |agg ys=>
   simp only[fX] at he
   cases hx with
   |agg _ cB eB hr1=>cases hy with
    |agg _ gz dX cD=>exact⟨.inl (.inr ⟨n,e,hu⟩),R_ hu hk.2 hk.1 eB dX hr1 cD he⟩
  |_=>simp[fX] at he
 ·rename_i fs xs hu
  split at hk
  ·rename_i n hn
   have hl:n=List.replicate xs.length false:=of_decide_eq_true hk
   cases y with
   |agg ys=>
    simp only[fX] at he
    cases hx with
    |agg _ cB eB hr1=>cases hy with
     |agg _ gz dX cD=>
      exact⟨.inl (.inl ⟨fs,hu⟩),R9 hn (by rw[hl];simp) (by rw[hl,←(A9 he).1];simp) eB dX hr1 cD (by rw[hl];exact he)⟩
   |_=>simp[fX] at he
  ·cases hk
 ·cases hk
theorem HI{k:TypeId}{x:AV}{vx:Value}(hk:k9 P k x=true)(hx:RV w A x vx):∀(es:List (List AV)) (es':List MapEntry) (i:Nat) (r:Option Nat),es'.length=es.length→
  (∀j e,es'[j]? =some e→RV w A ((es.getD j []).getD 0 .any) e.key)→aen x es i=some r→
  (Instr.findAsking k vx es' i).run P w=.ok (r.bind fun j=>(es'[j - i]?).map fun e=>(j,e.val)) w∧∀j,r=some j→i≤j∧j<i+es.length
 |[],[],i,r,_,_,h=>by injection h with h;subst h;exact⟨rfl,fun j e=>by cases e⟩
 |e::es,e'::es',i,r,hl,hr,h=>by
  have h0:=hr 0 e' rfl
  simp only[aen] at h
  simp only[Instr.findAsking]
  split at h
  ·rename_i hq
   injection h with h;subst h
   have:=(A_ hk hx (by simpa using h0) hq).2
   refine⟨by simp[Sem.run_bind,this],fun j e=>by injection e with e;subst e;simp⟩
  ·rename_i hq
   have h1:=(A_ hk hx (by simpa using h0) hq).2
   obtain⟨g1,g2⟩:=HI hk hx es es' (i+1) r (by simpa using hl) (fun j e he=>by have:=hr (j+1) e (by simpa using he);simpa using this) h
   refine⟨?_,fun j e=>by have:=g2 j e;simp;omega⟩
   simp only[Sem.run_bind,h1,Result.andThen_ok,Bool.false_eq_true,if_false,g1]
   cases r with
   |none=>rfl
   |some j=>
    have:=g2 j rfl
    have e:j - i=(j - (i+1))+1:=by omega
    simp only[Option.bind_some,e,List.getElem?_cons_succ]
  ·cases h
 |[],_::_,_,_,h,_,_=>by simp at h
 |_::_,[],_,_,h,_,_=>by simp at h
theorem HJ{k:TypeId}{kd:IntKind}(hu:P.underlying k=some (.int kd)){x:AV}{vx:Value}(hk:k9 P k x=true)(hx:RV w A x vx):∀(es:List (List AV)) (es':List MapEntry) (i:Nat) (r:Option Nat),es'.length=es.length→
  (∀j e,es'[j]? =some e→RV w A ((es.getD j []).getD 0 .any) e.key)→aen x es i=some r→
  Instr.findNow (.int kd) vx es' i=some (r.bind fun j=>(es'[j - i]?).map fun e=>(j,e.val))∧∀j,r=some j→i≤j∧j<i+es.length
 |[],[],i,r,_,_,h=>by injection h with h;subst h;exact⟨rfl,fun j e=>by cases e⟩
 |e::es,e'::es',i,r,hl,hr,h=>by
  have h0:=hr 0 e' rfl
  have hs:∀q,fX x (e.getD 0 .any)=some q→Instr.sameNow (.int kd) vx e'.key=some q:=by
   intro q hq
   rcases(A_ hk hx (by simpa using h0) hq).1 with (⟨fs,h1⟩|⟨n,e,h1⟩)|⟨kd',h1,h2⟩
   ·rw[hu] at h1;cases h1
   ·rw[hu] at h1;cases h1
   ·rw[hu] at h1;injection h1 with h1;injection h1 with h1;subst h1;exact h2
  simp only[aen] at h
  simp only[Instr.findNow]
  split at h
  ·rename_i hq
   injection h with h;subst h
   rw[hs _ hq]
   refine⟨by simp,fun j e=>by injection e with e;subst e;simp⟩
  ·rename_i hq
   rw[hs _ hq]
   obtain⟨g1,g2⟩:=HJ hu hk hx es es' (i+1) r (by simpa using hl) (fun j e he=>by have:=hr (j+1) e (by simpa using he);simpa using this) h
   refine⟨?_,fun j e=>by have:=g2 j e;simp;omega⟩
   simp only[g1]
   cases r with
   |none=>rfl
   |some j=>
    have:=g2 j rfl
    have e:j - i=(j - (i+1))+1:=by omega
    simp only[Option.bind_some,e,List.getElem?_cons_succ]
  ·cases h
 |[],_::_,_,_,h,_,_=>by simp at h
 |_::_,[],_,_,h,_,_=>by simp at h
theorem rE{k:TypeId}{x:AV}{vx:Value}(hk:k9 P k x=true)(hx:RV w A x vx){es:List (List AV)}{es':List MapEntry}{r:Option Nat}(hl:es'.length=es.length)
  (hr:∀j e,es'[j]? =some e→RV w A ((es.getD j []).getD 0 .any) e.key)(h:aen x es 0=some r):
  (Instr.findKey k vx es').run P w=.ok (r.bind fun j=>(es'[j]?).map fun e=>(j,e.val)) w∧∀j,r=some j→j<es.length:=by
 unfold Instr.findKey
 cases hu:P.underlying k with
 |none=>unfold k9 at hk;rw[hu] at hk;cases hk
 |some dd=>
  rw[Sem.run_bind,run_underlying hu,Result.andThen_ok]
  have uu:=HI hk hx es es' 0 r hl hr h
  simp only[Nat.sub_zero,Nat.zero_add] at uu
  cases dd with
  |int kd=>
   obtain⟨g1,g2⟩:=HJ hu hk hx es es' 0 r hl hr h
   simp only[g1,Nat.sub_zero,Nat.zero_add] at g1 g2⊢
   exact⟨rfl,fun j e=>(g2 j e).2⟩
  |array n e=>
   refine⟨?_,fun j e=>(uu.2 j e).2⟩
   cases es' with
   |nil=>
    have:es=[]:=List.eq_nil_of_length_eq_zero (by simpa using hl.symm)
    subst this
    injection h with h;subst h
    rfl
   |cons e' es'=>simp only[Instr.findNow,Instr.sameNow];exact uu.1
  |struct fs=>
   refine⟨?_,fun j e=>(uu.2 j e).2⟩
   cases es' with
   |nil=>
    have:es=[]:=List.eq_nil_of_length_eq_zero (by simpa using hl.symm)
    subst this
    injection h with h;subst h
    rfl
   |cons e' es'=>simp only[Instr.findNow,Instr.sameNow];exact uu.1
  |_=>unfold k9 at hk;rw[hu] at hk;cases hk
theorem HK(em:Bool)(n:Nat)(cB:Array Value)(xs:List AV)(hs:cB.size=xs.length):∀(fs:List Field) (ks:List Bool) (k:Nat),agf P ks k fs=true→k+fs.length≤xs.length→
  (forIn fs PUnit.unit (fun f (_:PUnit)=>do
    if f.name≠ "_" then Instr.checkKey em (n+1) f.type (←part f.type cB f.offset)
    pure (ForInStep.yield PUnit.unit)):Sem PUnit).run P w=.ok PUnit.unit w
 |[],_,_,_,_=>rfl
 |_::_,[],_,hf,_=>by cases hf
 |f::fs,kq::ks,k,hf,hl=>by
  simp only[List.length_cons] at hl
  simp only[agf,Bool.and_eq_true,bne_iff_ne,beq_iff_eq] at hf
  obtain⟨⟨⟨hn,hoff⟩,ht⟩,eR⟩:=hf
  have ih:=HK em n cB xs hs fs ks (k+1) eR (by omega)
  have e1:cB[k]? =some (cB.getD k undef):=by rw[Array.getD_eq_getD_getElem?,Array.getElem?_eq_getElem (by omega)];rfl
  have afN:(isAgg f.type).run P w=.ok false w:=by
   unfold isAgg
   cases hu:P.underlying f.type with
   |none=>rw[hu] at ht;cases kq<;>cases ht
   |some dd=>rw[hu] at ht;rw[Sem.run_bind,run_underlying hu];cases kq<;>cases dd<;>first|rfl|cases ht
  have p1:(part f.type cB f.offset).run P w=.ok (cB.getD k undef) w:=by
   generalize cB.getD k undef=v at e1
   simp[part,Sem.run_bind,afN,hoff,e1]
  have c1:∀v,(Instr.checkKey em (n+1) f.type v).run P w=.ok () w:=by
   intro v
   cases hu:P.underlying f.type with
   |none=>rw[hu] at ht;cases kq<;>cases ht
   |some dd=>
    rw[hu] at ht
    simp only[Instr.checkKey,Sem.run_bind,run_underlying hu,Result.andThen_ok]
    cases kq<;>cases dd<;>first|rfl|cases ht
  simp only[List.forIn_cons,hn,ne_eq,not_false_eq_true,if_true,Sem.run_bind,p1,c1,Result.andThen_ok,Sem.run_pure]
  exact ih
theorem Sa(em:Bool)(n:Nat){k:TypeId}{kd kk:IntKind}{m:Int}(hu:P.underlying k=some (.int kd)):(Instr.checkKey em (n+1) k (.int kk m)).run P w=.ok () w:=by
 simp only[Instr.checkKey,Sem.run_bind,run_underlying hu,Result.andThen_ok]
 rfl
theorem Sb(em:Bool)(n:Nat){k:TypeId}{fs:Array Field}(hu:P.underlying k=some (.struct fs)){xs:List AV}{cB:Array Value}(hs:cB.size=xs.length){ks:List Bool}(hf:agf P ks 0 fs.toList=true)(hl:fs.size≤xs.length):(Instr.checkKey em (n+2) k (.agg cB)).run P w=.ok () w:=by
 have:=HK (w:=w) em n cB xs hs fs.toList ks 0 hf (by simp;omega)
 rw[show n+2=(n+1)+1 from rfl]
 unfold Instr.checkKey
 simp only[Sem.run_bind,run_underlying hu,Result.andThen_ok]
 rw[←Array.forIn_toList,this]
 rfl
theorem Sc(em:Bool)(m:Nat){k e:TypeId}{n:Nat}(hu:P.underlying k=some (.array n e))(hE:rD P e=true){cB:Array Value}(hs:cB.size=n):(Instr.checkKey em (m+2) k (.agg cB)).run P w=.ok () w:=by
 obtain⟨kd,i,h1,h2,h3⟩:=HG hE
 have hsz:i.size=1:=by simpa[Program.cellsOf,h2] using h3
 have afN:(isAgg e).run P w=.ok false w:=by
  unfold isAgg
  rw[Sem.run_bind,run_underlying h1]
  rfl
 have Sd:(sizeOf e).run P w=.ok 1 w:=by simp[sizeOf,typeInfo,h2,hsz]
 have c1:∀v,(Instr.checkKey em (m+1) e v).run P w=.ok () w:=by
  intro v
  simp only[Instr.checkKey,Sem.run_bind,run_underlying h1,Result.andThen_ok]
  rfl
 rw[show m+2=(m+1)+1 from rfl]
 unfold Instr.checkKey
 simp only[Sem.run_bind,run_underlying hu,Result.andThen_ok]
 simp only[Std.Legacy.Range.forIn_eq_forIn_range',Std.Legacy.Range.size,Nat.sub_zero,Nat.add_one_sub_one,Nat.div_one]
 have key:∀(l:List Nat),(∀j∈l,j<n)→(forIn l PUnit.unit (fun i (_:PUnit)=>do
   Instr.checkKey em (m+1) e (←part e cB (i*(←sizeOf e)))
   pure (ForInStep.yield PUnit.unit)):Sem PUnit).run P w=.ok PUnit.unit w:=by
  intro l
  induction l with
  |nil=>intro _;rfl
  |cons j l ih=>
   intro hl
   have hj:=hl j (List.mem_cons_self ..)
   have e1:cB[j]? =some (cB.getD j undef):=by rw[Array.getD_eq_getD_getElem?,Array.getElem?_eq_getElem (by omega)];rfl
   have p1:(part e cB (j*1)).run P w=.ok (cB.getD j undef) w:=by simp only[part,Sem.run_bind,afN,Nat.mul_one,e1,Result.andThen_ok];rfl
   simp only[List.forIn_cons,Sem.run_bind,Sd,Result.andThen_ok,p1,c1,Sem.run_pure]
   exact ih fun i hi=>hl i (List.mem_cons_of_mem _ hi)
 rw[key (List.range' 0 n) fun j hj=>by obtain⟨i,h4,h5⟩:=List.mem_range'.1 hj;omega]
 rfl
theorem Ba(em:Bool){k:TypeId}{x:AV}{vx:Value}(hk:k9 P k x=true)(hx:RV w A x vx):(Instr.checkKey em 10000 k vx).run P w=.ok () w:=by
 unfold k9 at hk
 split at hk
 ·rename_i kd kk n hu
  have e1:=hx.aeo
  subst e1
  exact Sa em 9999 hu
 ·rename_i n e xs hu
  simp only[Bool.and_eq_true,decide_eq_true_eq] at hk
  cases hx with
  |agg _ cB eB hr1=>exact Sc em 9998 hu hk.2 (eB.trans hk.1)
 ·rename_i fs xs hu
  split at hk
  ·rename_i n hn
   have hl:n=List.replicate xs.length false:=of_decide_eq_true hk
   cases hx with
   |agg _ cB eB hr1=>
    unfold af0 at hn
    rw[hu] at hn
    simp only at hn
    split at hn
    ·rename_i hc
     injection hn with hn
     simp only[Bool.and_eq_true] at hc
     exact Sb em 9998 hu eB hc.1.1 (by have:=congrArg List.length (hn.trans hl);simp[mV] at this;omega)
    ·cases hn
  ·cases hk
 ·cases hk
theorem Se:∀{n:Nat} {as bs:List AV},dh (List.replicate n false) as bs=some true→as=bs∧∀x∈as,∃k n,x=.lit (.int k n):=by
 intro n
 induction n with
 |zero=>
  intro as bs h
  obtain⟨h1,h2⟩:=A9 h
  have e1:as=[]:=List.eq_nil_of_length_eq_zero (by simpa using h2)
  subst e1
  have e2:bs=[]:=List.eq_nil_of_length_eq_zero (by simpa using h1.symm)
  subst e2
  exact⟨rfl,by simp⟩
 |succ n ih=>
  intro as bs h
  rw[List.replicate_succ] at h
  unfold dh at h
  split at h
  ·rename_i e;cases e
  ·rename_i ks' k p xs' k' p' ys' e
   injection e with _ e;subst e
   split at h
   ·rename_i hk;subst hk
    simp only[Option.map_eq_some_iff,Bool.and_eq_true,beq_iff_eq] at h
    obtain⟨q',dG,rfl,rfl⟩:=h
    obtain⟨rfl,g⟩:=ih dG
    refine⟨rfl,fun z hz=> ?_⟩
    rcases List.mem_cons.1 hz with rfl|hz
    ·exact⟨_,_,rfl⟩
    ·exact g z hz
   ·cases h
  ·rename_i e;cases e
  ·cases h
theorem HL(n:Nat):∀(xs:List AV) (us vs:List Value),us.length=xs.length→vs.length=xs.length→(∀x∈xs,∃k m,x=AV.lit (.int k m))→(∀i,RV w A (xs.getD i .any) (us.getD i undef))→(∀i,RV w A (xs.getD i .any) (vs.getD i undef))→((us.zip vs).all fun(x,y)=>Instr.sameBits n x y)=true
 |[],us,vs,h1,h2,_,_,_=>by
  have:us=[]:=List.eq_nil_of_length_eq_zero h1
  subst this;rfl
 |x::xs,u::us,v::vs,h1,h2,hx,hu,hv=>by
  obtain⟨k,m,rfl⟩:=hx x (List.mem_cons_self ..)
  have e1:=(hu 0);have e2:=(hv 0)
  simp only[List.getD_eq_getElem?_getD,List.getElem?_cons_zero,Option.getD_some] at e1 e2
  have e1:=e1.aeo;have e2:=e2.aeo
  subst e1 e2
  have ih:=HL n xs us vs (by simpa using h1) (by simpa using h2) (fun y hy=>hx y (List.mem_cons_of_mem _ hy)) (fun i=>by simpa using hu (i+1)) (fun i=>by simpa using hv (i+1))
  simp only[List.zip_cons_cons,List.all_cons,ih,Bool.and_true]
  cases n<;>simp[Instr.sameBits]
 |_::_,[],_,h,_,_,_,_=>by simp at h
 |_::_,_::_,[],_,h,_,_,_=>by simp at h
theorem HM{x y:AV}{vx vy:Value}(hx:RV w A x vx)(hy:RV w A y vy)(he:fX x y=some true):(Instr.keyThatStays vy vx).run P w=.ok vx w:=by
 have hs:Instr.sameBits (9999+1) vy vx=true:=by
  unfold fX at he
  split at he
  ·split at he
   ·rename_i hk;subst hk
    injection he with he
    have e1:=hx.aeo;have e2:=hy.aeo
    subst e1 e2
    simp only[Instr.sameBits,beq_self_eq_true,Bool.true_and]
    simp only[beq_iff_eq] at he⊢
    exact he.symm
   ·cases he
  ·rename_i xs ys
   obtain⟨rfl,hall⟩:=Se he
   cases hx with
   |agg _ cB eB hr1=>cases hy with
    |agg _ gz dX cD=>
     have:=HL (w:=w) (A:=A) 9999 xs gz.toList cB.toList (by simpa using dX) (by simpa using eB) hall (fun i=>by have:=cD i;simpa[List.getD_eq_getElem?_getD,Array.getD_eq_getD_getElem?] using this) (fun i=>by have:=hr1 i;simpa[List.getD_eq_getElem?_getD,Array.getD_eq_getD_getElem?] using this)
     simp only[Instr.sameBits,eB,dX,beq_self_eq_true,Bool.true_and]
     exact this
  ·cases he
 unfold Instr.keyThatStays
 rw[if_pos hs]
 rfl
theorem Bb:∀{es:List (List AV)} {x:AV} {i j:Nat},aen x es i=some (some j)→i≤j∧fX x ((es.getD (j - i) []).getD 0 .any)=some true
 |[],x,i,j,h=>by simp[aen] at h
 |e::es,x,i,j,h=>by
  simp only[aen] at h
  split at h
  ·rename_i hq
   injection h with h;injection h with h;subst h
   exact⟨Nat.le_refl _,by simpa using hq⟩
  ·obtain⟨g1,g2⟩:=Bb h
   refine⟨by omega,?_⟩
   rw[show j - i=(j - (i+1))+1 by omega]
   simpa using g2
  ·cases h
def ov(P:Program)(kt:TypeId):Option (Option Nat):=
 match P.underlying kt with
 |some (.int _)=>some none
 |some (.array n e)=>if rD P e then some (some n) else none
 |some (.struct _)=>(af0 P kt).bind fun ks=>if ks=List.replicate ks.length false then some (some ks.length) else none
 |_=>none
theorem Bc{kt:TypeId}{n:Option Nat}{x:AV}(h:ov P kt=some n)(hx:jr n x):k9 P kt x=true:=by
 unfold ov at h
 unfold k9
 split at h
 ·rename_i kd hu
  injection h with h;subst h
  unfold jr at hx
  split at hx
  ·rw[hu]
  ·rename_i e;cases e
  ·exact hx.elim
 ·rename_i n e hu
  split at h
  case isFalse=>cases h
  rename_i hE
  injection h with h;subst h
  unfold jr at hx
  split at hx
  ·rename_i e;cases e
  ·rename_i n xs e
   injection e with e;subst e
   rw[hu]
   simp only[hx,hE,decide_true,Bool.and_self]
  ·exact hx.elim
 ·rename_i fs hu
  simp only[Option.bind_eq_some_iff] at h
  obtain⟨m,hm,h⟩:=h
  split at h
  case isFalse=>cases h
  rename_i hmr
  injection h with h;subst h
  unfold jr at hx
  split at hx
  ·rename_i e;cases e
  ·rename_i n xs e
   injection e with e;subst e
   rw[hu];simp only[hm];exact decide_eq_true (by rw[hx];exact hmr)
  ·exact hx.elim
 ·cases h
end
section
variable {P:Program} {C:Ctx P} {Pt:List (Nat×Obj)} {s:St} {a:Act} {w:World} {A Lx:aN} {sp:Sp} {o:Oper} {d:Nat} {K:St→Prop} {rest:Act→World→Prop} {Q:Exit→Act→World→Prop}
theorem GS.pY(h:GS C Pt s a w A Lx sp){b:Nat}{es:List (List AV)}(he:s.env (oS+b)=bI es):∃es' clock,w.heap[b]? =some (.map es' clock)∧es'.size=es.length∧(∀i e,es'[i]? =some e→RV w A ((es.getD i []).getD 0 .any) e.key∧RV w A ((es.getD i []).getD 1 .any) e.val)∧clock=es'.size∧∀(i:Nat) (e:MapEntry),es'[i]? =some e→e.born=i:=by
 have dR:=h.ob b
 rw[he] at dR
 generalize hz:bI es=z at dR
 cases dR with
 |any=>cases hz
 |iter t pos hh=>injection hz with _ _ z3;cases z3
 |map es2 es' clock hh hs hc hr=>injection hz with _ z2;subst z2;exact⟨es',clock,hh,hs,fun i e he=>⟨(hr i e he).1,(hr i e he).2.1⟩,hc,fun i e he=>(hr i e he).2.2⟩
 |n3=>injection hz with _ _ z3;cases z3
theorem Sf{T kt et:TypeId}{x k:Operand}{mx mk:ai}{n:Option Nat}{ok:Bool}{z:Value}{za:AV}(hop:o.op=.lookup T x k ok)(hd:o.dst=some d)(hN:d<C.N)(aZ:C.N≤gS)(ht:P.underlying T=some (.map kt et))
  (hkn:ov P kt=some n)(hz:zeroOf P et=some z)(Bd:age z=some za)(hx:aF x=some mx)(hk:aF k=some mk)
  (h:GS C Pt s a w A Lx sp)(hv:vc1 P (.lookup d mx mk n ok za) s K)(hn:aeH C Pt s w A Lx sp a.defers K rest):o.wpIn (Fw C.ro) 0 P a w rest Q:=by
 have h1:RV w A (mx.ev s.env) (a.eval x):=(bl h.rs hx).1
 have h2:RV w A (mk.ev s.env).erase (a.eval k):=(bl h.rs hk).1.erase
 have cQ:d<gS:=Nat.lt_of_lt_of_le hN aZ
 simp only[vc1] at hv
 split at hv
 ·rename_i b e1
  rw[e1] at h1
  obtain⟨es,he,hok,hv⟩:=hv
  obtain⟨es',clock,fo,hs,hr,cE,d_⟩:=h.pY he
  have k_:=Bc hkn hok
  generalize bg:a.eval x=v0 at h1
  cases h1
  have pZ:=Ba (P:=P) (w:=w) es'.isEmpty k_ h2
  have xu:(zeroValue et).run P w=.ok z w:=by
   simp only[zeroOf,Option.bind_eq_some_iff] at hz
   obtain⟨i,hi,hz⟩:=hz
   simp[zeroValue,typeInfo,Sem.run_bind,hi,hz]
  have gy:(getObj b).run P w=.ok (.map es' clock) w:=by simp[getObj,Sem.run,fo]
  have goal:∀(r:Option Nat) (x:AV) (v:Value) (q:Bool),aen (mk.ev s.env).erase es 0=some r→(match r.bind fun j=>(es'.toList[j]?).map fun e=>(j,e.val) with|some (_,u)=>(u,true)|none=>(z,false))=(v,q)→RV w A x v→K (s.set d (if ok then .tuple [x,.lit (.bool q)] else x.erase))→o.wpIn (Fw C.ro) 0 P a w rest Q:=by
   intro r x v q hka hrv hx hK
   have hfind:=(rE (P:=P) (w:=w) (A:=A) k_ h2 (es:=es) (es':=es'.toList) (r:=r) (by simpa using hs) (fun j e he=>(hr j e (by simpa using he)).1) hka).1
   have hrun:(execOp a.eval o).run P w=.ok (.value (if ok then .tuple #[v,.bool q] else v)) w:=by
    simp only[execOp,hop,bg,Instr.lookup,Sem.run_bind,run_underlying ht,Result.andThen_ok,gy,Sem.run_pure,pZ,hfind]
    cases xw:(r.bind fun j=>(es'.toList[j]?).map fun e=>(j,e.val)) with
    |none=>
     rw[xw] at hrv
     injection hrv with q1 q2;subst q1 q2
     simp only[Sem.run_bind,xu,Result.andThen_ok,Sem.run_pure]
     skip
    |some p=>
     rw[xw] at hrv
     injection hrv with q1 q2;subst q1 q2
     cases ok<;>rfl
   refine afI (by rw[hop];intro c e;cases e) hrun ?_
   rw[hd]
   refine hn _ _ _ _ _ _ hK (h.put hN cQ ?_ ?_) (by rw[jd cQ];exact .refl _ _ _) rfl
   ·cases ok with
    |false=>exact hx.erase
    |true=>
     refine .tuple _ _ rfl fun i=> ?_
     match i with
     |0=>exact hx
     |1=>exact .lit _ rfl
     |i+2=>simp;exact .any _
   ·cases ok with
    |false=>exact .erase
    |true=>trivial
  split at hv
  ·rename_i j hka
   obtain⟨-,hlt⟩:=rE (P:=P) (w:=w) (A:=A) k_ h2 (es:=es) (es':=es'.toList) (r:=some j) (by simpa using hs) (fun j e he=>(hr j e (by simpa using he)).1) hka
   have hj:=hlt j rfl
   have hj':j<es'.size:=by omega
   refine goal (some j) _ (es'[j]).val true hka (by simp[hj']) (hr j _ (Array.getElem?_eq_getElem hj')).2 (by cases ok<;>exact hv)
  ·rename_i hka
   refine goal none za z false hka rfl (Ag (sp:=sp) Bd).1 (by cases ok<;>exact hv)
  ·exact hv.elim
 ·exact hv.elim
theorem Sg{T kt et:TypeId}{x k y:Operand}{mx mk my:ai}{n:Option Nat}(hop:o.op=.mapUpdate T x k y)(hd:o.dst=none)(ht:P.underlying T=some (.map kt et))
  (hkn:ov P kt=some n)(hx:aF x=some mx)(hk:aF k=some mk)(hy:aF y=some my)
  (h:GS C Pt s a w A Lx sp)(hv:vc1 P (.lY mx mk my n) s K)(hn:aeH C Pt s w A Lx sp a.defers K rest):o.wpIn (Fw C.ro) 0 P a w rest Q:=by
 have h1:RV w A (mx.ev s.env) (a.eval x):=(bl h.rs hx).1
 have h2:RV w A (mk.ev s.env).erase (a.eval k):=(bl h.rs hk).1.erase
 have h3:RV w A (my.ev s.env).erase (a.eval y):=(bl h.rs hy).1.erase
 simp only[vc1] at hv
 split at hv
 ·rename_i b e1
  rw[e1] at h1
  obtain⟨es,he,hok,hv⟩:=hv
  obtain⟨es',clock,fo,hs,hr,cE,d_⟩:=h.pY he
  have hne:s.env (oS+b)≠.any:=by rw[he];intro e;cases e
  have k_:=Bc hkn hok
  generalize bg:a.eval x=v0 at h1
  cases h1
  have pZ:=Ba (P:=P) (w:=w) false k_ h2
  have gy:(getObj b).run P w=.ok (.map es' clock) w:=by simp[getObj,Sem.run,fo]
  have dY:∀ob,(setObj b ob).run P w=.ok () (w.putObj b ob):=fun ob=>by simp[setObj,Sem.run,fo,World.putObj]
  have hmono:∀ob {x:AV} {v:Value},RV w A x v→RV (w.putObj b ob) A x v:=fun ob x v hx=>hx.mono fun c o v ha hv=>⟨by rw[rz w ob (fun e=>by subst e;exact h.oa _ o hne ha)];exact hv,ha⟩
  have goal:∀(es2:List (List AV)) (ob:Obj),(execOp a.eval o).run P w=.ok .skip (w.putObj b ob)→ir (w.putObj b ob) A b (bI es2)→K (s.set (oS+b) (bI es2))→o.wpIn (Fw C.ro) 0 P a w rest Q:=by
   intro es2 ob hrun dR hK
   refine HD (by rw[hop];intro c e;cases e) hrun ?_
   obtain⟨g1,g2⟩:=h.obj (b:=b) (x:=bI es2) (w':=w.putObj b ob) rfl (.inl hne) (by simp) ⟨rfl,rfl,rfl⟩ (fun c hc hcb=>World.putObj_heap_other hcb) dR
   rw[hd,tP]
   exact hn _ _ _ _ _ _ hK g1 g2 rfl
  split at hv
  ·rename_i j hka
   obtain⟨hfind,hlt⟩:=rE (P:=P) (w:=w) (A:=A) k_ h2 (es:=es) (es':=es'.toList) (r:=some j) (by simpa using hs) (fun j e he=>(hr j e (by simpa using he)).1) hka
   have hj:=hlt j rfl
   have hj':j<es'.size:=by omega
   have hst:=HM (P:=P) h2 (hr j _ (Array.getElem?_eq_getElem hj')).1 (by have:=(Bb hka).2;simpa using this)
   refine goal _ (.map (es'.modify j fun e=>{e with key:=a.eval k,val:=a.eval y}) clock) ?_ ?_ hv
   ·simp only[execOp,hop,bg,Instr.mapUpdate,Sem.run_bind,run_underlying ht,Result.andThen_ok,gy,pZ,hfind,Option.bind_some,Array.getElem?_toList,Array.getElem?_eq_getElem hj',Option.map_some,Option.getD_some,hst,dY,Sem.run_pure]
   ·refine .map _ _ clock (World.putObj_heap_same (cy fo)) (by simpa using hs) (by simpa using cE) fun i e hi=> ?_
    rw[Array.getElem?_modify] at hi
    split at hi
    ·rename_i e0;subst e0
     rw[Array.getElem?_eq_getElem hj'] at hi
     injection hi with hi;subst hi
     simp only[List.getD_eq_getElem?_getD,List.getElem?_set_self hj,Option.getD_some]
     exact⟨hmono _ h2,hmono _ h3,d_ _ _ (Array.getElem?_eq_getElem hj')⟩
    ·rename_i e0
     simp only[List.getD_eq_getElem?_getD,List.getElem?_set_ne e0]
     have:=hr i e hi
     simp only[List.getD_eq_getElem?_getD] at this
     exact⟨hmono _ this.1,hmono _ this.2,d_ i e hi⟩
  ·rename_i hka
   obtain⟨hfind,-⟩:=rE (P:=P) (w:=w) (A:=A) k_ h2 (es:=es) (es':=es'.toList) (r:=none) (by simpa using hs) (fun j e he=>(hr j e (by simpa using he)).1) hka
   refine goal _ (.map (es'.push {key:=a.eval k,val:=a.eval y,born:=clock}) (clock+1)) ?_ ?_ hv
   ·simp only[execOp,hop,bg,Instr.mapUpdate,Sem.run_bind,run_underlying ht,Result.andThen_ok,gy,pZ,hfind,Option.bind_none,dY,Sem.run_pure]
   ·refine .map _ _ (clock+1) (World.putObj_heap_same (cy fo)) (by simp[hs]) (by simp[cE]) fun i e hi=> ?_
    rw[Array.getElem?_push] at hi
    split at hi
    ·rename_i e0
     injection hi with hi;subst hi
     have:i=es.length:=by omega
     subst this
     simp only[List.getD_eq_getElem?_getD,List.getElem?_append_right (Nat.le_refl _),Nat.sub_self,List.getElem?_cons_zero,Option.getD_some]
     exact⟨hmono _ h2,hmono _ h3,by show clock=es.length;omega⟩
    ·have hlt:=(Array.getElem?_eq_some_iff.1 hi).1
     have:=hr i e hi
     simp only[List.getD_eq_getElem?_getD] at this⊢
     rw[List.getElem?_append_left (by omega)]
     exact⟨hmono _ this.1,hmono _ this.2,d_ i e hi⟩
  ·exact hv.elim
 ·exact hv.elim
theorem find_born{es':Array MapEntry}(d_:∀(i:Nat) (e:MapEntry),es'[i]? =some e→e.born=i){i:Nat}(hi:i<es'.size):es'.findIdx? (fun e=>(e.born:Int)==(i:Int))=some i:=by
 rw[Array.findIdx?_eq_some_iff_getElem]
 refine⟨hi,?_,fun j hj=> ?_⟩
 ·rw[d_ i _ (Array.getElem?_eq_getElem hi)];simp
 ·rw[d_ j _ (Array.getElem?_eq_getElem (by omega))];simp;omega
theorem Sh{T kt et:TypeId}{x k:Operand}{mx mk:ai}{n:Option Nat}{z:Value}{za:AV}(hop:o.op=.mapEntry T x k)(hd:o.dst=some d)(hN:d<C.N)(aZ:C.N≤gS)(ht:P.underlying T=some (.map kt et))
  (hkn:ov P kt=some n)(hz:zeroOf P et=some z)(Bd:age z=some za)(hx:aF x=some mx)(hk:aF k=some mk)
  (h:GS C Pt s a w A Lx sp)(hv:vc1 P (.iA d mx mk n za) s K)(hn:aeH C Pt s w A Lx sp a.defers K rest):o.wpIn (Fw C.ro) 0 P a w rest Q:=by
 have h1:RV w A (mx.ev s.env) (a.eval x):=(bl h.rs hx).1
 have h2:RV w A (mk.ev s.env).erase (a.eval k):=(bl h.rs hk).1.erase
 have cQ:d<gS:=Nat.lt_of_lt_of_le hN aZ
 simp only[vc1] at hv
 split at hv
 ·rename_i b e1
  rw[e1] at h1
  obtain⟨es,he,hok,-,hv⟩:=hv
  obtain⟨es',clock,fo,hs,hr,cE,d_⟩:=h.pY he
  have hne:s.env (oS+b)≠.any:=by rw[he];intro e;cases e
  have k_:=Bc hkn hok
  generalize bg:a.eval x=v0 at h1
  cases h1
  have pZ:=Ba (P:=P) (w:=w) false k_ h2
  have xu:(zeroValue et).run P w=.ok z w:=by
   simp only[zeroOf,Option.bind_eq_some_iff] at hz
   obtain⟨i,hi,hz⟩:=hz
   simp[zeroValue,typeInfo,Sem.run_bind,hi,hz]
  have gy:(getObj b).run P w=.ok (.map es' clock) w:=by simp[getObj,Sem.run,fo]
  have dY:∀ob,(setObj b ob).run P w=.ok () (w.putObj b ob):=fun ob=>by simp[setObj,Sem.run,fo,World.putObj]
  have hmono:∀ob {x:AV} {v:Value},RV w A x v→RV (w.putObj b ob) A x v:=fun ob x v hx=>hx.mono fun c o v ha hv=>⟨by rw[rz w ob (fun e=>by subst e;exact h.oa _ o hne ha)];exact hv,ha⟩
  have goal:∀(es2:List (List AV)) (ob:Obj) (u:AV) (v:Value) (i:Nat),(execOp a.eval o).run P w=.ok (.value (.tuple #[v,.int .i64 i])) (w.putObj b ob)→RV w A u v→ir (w.putObj b ob) A b (bI es2)→K ((s.set (oS+b) (bI es2)).set d (.tuple [u,.lit (.int .i64 i)]))→o.wpIn (Fw C.ro) 0 P a w rest Q:=by
   intro es2 ob u v i hrun hu dR hK
   obtain⟨g1,g2⟩:=h.obj (b:=b) (x:=bI es2) (w':=w.putObj b ob) rfl (.inl hne) (by simp) ⟨rfl,rfl,rfl⟩ (fun c hc hcb=>World.putObj_heap_other hcb) dR
   refine afI (by rw[hop];intro c e;cases e) hrun ?_
   rw[hd]
   refine hn _ _ _ _ _ _ hK (g1.put hN cQ ?_ trivial) (by rw[jd cQ];exact g2) rfl
   refine .tuple _ _ rfl fun j=> ?_
   match j with
   |0=>exact hmono _ hu
   |1=>exact .lit _ rfl
   |j+2=>simp;exact .any _
  split at hv
  ·rename_i j hka
   obtain⟨hfind,hlt⟩:=rE (P:=P) (w:=w) (A:=A) k_ h2 (es:=es) (es':=es'.toList) (r:=some j) (by simpa using hs) (fun j e he=>(hr j e (by simpa using he)).1) hka
   have hj:=hlt j rfl
   have hj':j<es'.size:=by omega
   have hst:=HM (P:=P) h2 (hr j _ (Array.getElem?_eq_getElem hj')).1 (by have:=(Bb hka).2;simpa using this)
   have hval:=(hr j _ (Array.getElem?_eq_getElem hj')).2
   have HN:=d_ j _ (Array.getElem?_eq_getElem hj')
   refine goal _ (.map (es'.modify j fun e=>{e with key:=a.eval k}) clock) _ (es'[j]).val j ?_ hval ?_ hv
   ·simp only[execOp,hop,bg,Instr.mapEntry,Sem.run_bind,run_underlying ht,Result.andThen_ok,gy,pZ,hfind,Option.bind_some,Array.getElem?_toList,Array.getElem?_eq_getElem hj',Option.map_some,Option.getD_some,hst,dY,Sem.run_pure,HN]
    rfl
   ·refine .map _ _ clock (World.putObj_heap_same (cy fo)) (by simpa using hs) (by simpa using cE) fun i e hi=> ?_
    rw[Array.getElem?_modify] at hi
    split at hi
    ·rename_i e0;subst e0
     rw[Array.getElem?_eq_getElem hj'] at hi
     injection hi with hi;subst hi
     simp only[List.getD_eq_getElem?_getD,List.getElem?_set_self hj,Option.getD_some]
     simp only[List.getD_eq_getElem?_getD] at hval
     exact⟨hmono _ h2,hmono _ hval,HN⟩
    ·rename_i e0
     simp only[List.getD_eq_getElem?_getD,List.getElem?_set_ne e0]
     have:=hr i e hi
     simp only[List.getD_eq_getElem?_getD] at this
     exact⟨hmono _ this.1,hmono _ this.2,d_ i e hi⟩
  ·rename_i hka
   obtain⟨hfind,-⟩:=rE (P:=P) (w:=w) (A:=A) k_ h2 (es:=es) (es':=es'.toList) (r:=none) (by simpa using hs) (fun j e he=>(hr j e (by simpa using he)).1) hka
   have pN:=(Ag (w:=w) (A:=A) (sp:=sp) Bd).1
   refine goal _ (.map (es'.push {key:=a.eval k,val:=z,born:=clock}) (clock+1)) _ z es.length ?_ pN ?_ hv
   ·simp only[execOp,hop,bg,Instr.mapEntry,Sem.run_bind,run_underlying ht,Result.andThen_ok,gy,pZ,hfind,Option.bind_none,xu,dY,Sem.run_pure]
    rw[show es.length=clock by omega]
    rfl
   ·refine .map _ _ (clock+1) (World.putObj_heap_same (cy fo)) (by simp[hs]) (by simp[cE]) fun i e hi=> ?_
    rw[Array.getElem?_push] at hi
    split at hi
    ·rename_i e0
     injection hi with hi;subst hi
     have:i=es.length:=by omega
     subst this
     simp only[List.getD_eq_getElem?_getD,List.getElem?_append_right (Nat.le_refl _),Nat.sub_self,List.getElem?_cons_zero,Option.getD_some]
     exact⟨hmono _ h2,hmono _ pN,by show clock=es.length;omega⟩
    ·have hlt:=(Array.getElem?_eq_some_iff.1 hi).1
     have:=hr i e hi
     simp only[List.getD_eq_getElem?_getD] at this⊢
     rw[List.getElem?_append_left (by omega)]
     exact⟨hmono _ this.1,hmono _ this.2,d_ i e hi⟩
  ·exact hv.elim
 ·exact hv.elim
theorem Si{T:TypeId}{x st y:Operand}{mx Be my:ai}(hop:o.op=.entryStore T x st y)(hd:o.dst=none)(hx:aF x=some mx)(hst:aF st=some Be)(hy:aF y=some my)(h:GS C Pt s a w A Lx sp)(hv:vc1 P (.afX mx Be my) s K)(hn:aeH C Pt s w A Lx sp a.defers K rest):o.wpIn (Fw C.ro) 0 P a w rest Q:=by
 have h1:RV w A (mx.ev s.env) (a.eval x):=(bl h.rs hx).1
 have h2:RV w A (Be.ev s.env) (a.eval st):=(bl h.rs hst).1
 have h3:RV w A (my.ev s.env).erase (a.eval y):=(bl h.rs hy).1.erase
 simp only[vc1] at hv
 split at hv
 ·rename_i b kd j e1 e2
  rw[e1] at h1;rw[e2] at h2
  obtain⟨es,he,hj0,hj1,hK⟩:=hv
  obtain⟨j,rfl⟩:=Int.eq_ofNat_of_zero_le hj0
  obtain⟨es',clock,fo,hs,hr,cE,d_⟩:=h.pY he
  have hne:s.env (oS+b)≠.any:=by rw[he];intro e;cases e
  have v2:=h2.aeo
  generalize bg:a.eval x=v0 at h1
  cases h1
  have gy:(getObj b).run P w=.ok (.map es' clock) w:=by simp[getObj,Sem.run,fo]
  have dY:∀ob,(setObj b ob).run P w=.ok () (w.putObj b ob):=fun ob=>by simp[setObj,Sem.run,fo,World.putObj]
  have hmono:∀ob {x:AV} {v:Value},RV w A x v→RV (w.putObj b ob) A x v:=fun ob x v hx=>hx.mono fun c o v ha hv=>⟨by rw[rz w ob (fun e=>by subst e;exact h.oa _ o hne ha)];exact hv,ha⟩
  have xx:j<es'.size:=by omega
  have hjl:j<es.length:=by omega
  have pM:=find_born d_ xx
  have hkey:=(hr j _ (Array.getElem?_eq_getElem xx)).1
  refine HD (w':=w.putObj b (.map (es'.modify j fun e=>{e with val:=a.eval y}) clock)) (by rw[hop];intro c e;cases e) ?_ ?_
  ·simp only[execOp,hop,bg,v2,Instr.entryStore,Sem.run_bind,Result.andThen_ok,gy,asInt,asIntOf,Sem.run_pure,pM,dY]
  ·have dR:ir (w.putObj b (.map (es'.modify j fun e=>{e with val:=a.eval y}) clock)) A b (bI (es.set j [(es.getD j []).getD 0 .any,(my.ev s.env).erase])):=by
    refine .map _ _ clock (World.putObj_heap_same (cy fo)) (by simpa using hs) (by simpa using cE) fun i e hi=> ?_
    rw[Array.getElem?_modify] at hi
    split at hi
    ·rename_i e0;subst e0
     rw[Array.getElem?_eq_getElem xx] at hi
     injection hi with hi;subst hi
     simp only[List.getD_eq_getElem?_getD,List.getElem?_set_self hjl,Option.getD_some]
     simp only[List.getD_eq_getElem?_getD] at hkey
     exact⟨hmono _ hkey,hmono _ h3,d_ _ _ (Array.getElem?_eq_getElem xx)⟩
    ·rename_i e0
     simp only[List.getD_eq_getElem?_getD,List.getElem?_set_ne e0]
     have:=hr i e hi
     simp only[List.getD_eq_getElem?_getD] at this
     exact⟨hmono _ this.1,hmono _ this.2,d_ i e hi⟩
   obtain⟨g1,g2⟩:=h.obj (b:=b) (x:=bI (es.set j [(es.getD j []).getD 0 .any,(my.ev s.env).erase])) (w':=w.putObj b (.map (es'.modify j fun e=>{e with val:=a.eval y}) clock)) rfl (.inl hne) (by simp) ⟨rfl,rfl,rfl⟩ (fun c hc hcb=>World.putObj_heap_other hcb) dR
   rw[hd,tP]
   exact hn _ _ _ _ _ _ hK g1 g2 rfl
 ·exact hv.elim
theorem Sj{b b' n n':Nat}{l l':List Nat}(h:fH b n l=fH b' n' l'):b=b'∧n=n'∧l=l':=by
 unfold fH at h
 injection h with h1 h2
 injection h2 with h2 h3
 injection h2 with h2 _
 injection h2 with h2
 injection h2 with _ h2
 injection h3 with h3 _
 refine⟨h1,by omega,?_⟩
 have:=congrArg (List.map fun x:AV=>match x with|.lit (.int _ n)=>n.toNat|_=>0) h3
 simpa[List.map_map,Function.comp_def] using this
theorem GS.HO(h:GS C Pt s a w A Lx sp){r b n:Nat}{seen:List Nat}(he:s.env (oS+r)=fH b n seen):w.heap[r]? =some (.mapIter (some b) n seen.toArray n):=by
 have dR:=h.ob r
 rw[he] at dR
 generalize hz:fH b n seen=z at dR
 cases dR with
 |any=>cases hz
 |iter t pos hh=>unfold fH ae4 at hz;injection hz with _ z2;injection z2 with z3;injection z3 with z4;injection z4 with z5;cases z5
 |map=>unfold fH bI at hz;injection hz with _ _ z3;cases z3
 |n3 b' n' seen' hh=>obtain⟨rfl,rfl,rfl⟩:=Sj hz;exact hh
theorem Sk{T kt et:TypeId}{x:Operand}{mx:ai}(hop:o.op=.range T x)(hd:o.dst=some d)(hN:d<C.N)(aZ:C.N≤gS)(ht:P.underlying T=some (.map kt et))(hx:aF x=some mx)(h:GS C Pt s a w A Lx sp)(hv:vc1 P (.n5 d mx) s K)(hn:aeH C Pt s w A Lx sp a.defers K rest):o.wpIn (Fw C.ro) 0 P a w rest Q:=by
 have h1:RV w A (mx.ev s.env) (a.eval x):=(bl h.rs hx).1
 simp only[vc1] at hv
 split at hv
 ·rename_i b e1
  rw[e1] at h1
  obtain⟨es,he,hv⟩:=hv
  obtain⟨es',clock,fo,hs,hr,cE,d_⟩:=h.pY he
  have ur:s.env (oS+w.heap.size)=.any:=Classical.byContradiction fun hne=>by
   obtain⟨ob,g1,_⟩:=(h.ob w.heap.size).block hne
   exact absurd (cy g1) (Nat.lt_irrefl _)
  have hK:=hv w.heap.size h.rs.fresh ur
  generalize bg:a.eval x=v0 at h1
  cases h1
  have hrun:(execOp a.eval o).run P w=.ok (.value (.pointer (some ⟨w.heap.size,0,none⟩))) (w.alloc (.mapIter (some b) clock #[] clock)):=by
   have:=run_range_map (P:=P) w T kt et b es' clock ht fo
   simp[execOp,hop,bg,this]
  refine afI (by rw[hop];intro c e;cases e) hrun ?_
  have xy:clock=es.length:=by omega
  obtain⟨g1,g2⟩:=h.obj (b:=w.heap.size) (x:=fH b es.length []) (w':=w.alloc (.mapIter (some b) clock #[] clock)) rfl (.inr rfl) (by rw[ae8];omega) ⟨rfl,rfl,rfl⟩ (fun c hc _=>heap_alloc _ _ _ hc) (.n3 b es.length [] (by rw[qX,xy]))
  rw[hd]
  have cQ:d<gS:=Nat.lt_of_lt_of_le hN aZ
  exact hn _ _ _ _ _ _ hK (g1.put hN cQ (.au _ _) trivial) (by rw[jd cQ];exact g2) rfl
 ·exact hv.elim
theorem Sl{w:World}{r b n:Nat}{seen:List Nat}{es:Array MapEntry}(hr:w.heap[r]? =some (.mapIter (some b) n seen.toArray n))(hb:w.heap[b]? =some (.map es n))(hn:n=es.size)(d_:∀(i:Nat) (e:MapEntry),es[i]? =some e→e.born=i)(ty:TypeId):
  ((∀i,i<n→i∈seen)∧(Instr.next (.pointer (some ⟨r,0,none⟩)) false ty).run P w=.ok (.tuple #[.bool false]) w)∨
  ∃i e w1,i<n∧i∉seen∧es[i]? =some e∧(w1=w∨w1=w.drew)∧(Instr.next (.pointer (some ⟨r,0,none⟩)) false ty).run P w=.ok (.tuple #[.bool true,e.key,e.val]) (w1.putObj r (.mapIter (some b) n (seen++[i]).toArray n)):=by
 have hold:∀x∈es.toList,x.born<n:=fun x hx=>by
  obtain⟨i,hi,rfl⟩:=List.getElem_of_mem hx
  have hi':i<es.size:=by simpa using hi
  have:=d_ i es[i] (Array.getElem?_eq_getElem hi')
  simp only[Array.getElem_toList]
  omega
 have hall:=next_test_false seen.toArray es n n hold (Nat.le_refl _)
 obtain⟨L,hL⟩:∃L,L=Array.filter (fun e=> !seen.toArray.contains e.born) es:=⟨_,rfl⟩
 have hmem:∀x∈L.toList,x.born<n:=fun x hx=>hold x (by rw[hL] at hx;simp at hx⊢;exact hx.1)
 have e1:L.filter (fun x=>decide (x.born<n))=L:=Array.filter_eq_self.2 (fun x hx=>by simpa using hmem x (by simpa using hx))
 have e2:L.filter (fun x=>decide (x.born≥n))= #[]:=by
  rw[Array.filter_eq_empty_iff]
  intro x hx
  have:=hmem x (by simpa using hx)
  simp
  omega
 by_cases h0:L.size=0
 ·left
  have HP:L= #[]:=Array.eq_empty_of_size_eq_zero h0
  refine⟨fun i hi=> ?_,?_⟩
  ·have hi':i<es.size:=by omega
   have h3:=hL.symm.trans HP
   rw[Array.filter_eq_empty_iff] at h3
   have h4:=h3 es[i] (Array.getElem_mem hi')
   have h5:=d_ i es[i] (Array.getElem?_eq_getElem hi')
   rw[h5] at h4
   simpa using h4
  ·simp only[Instr.next,getObj,Sem.run_bind,Sem.run,hr,hb,Result.andThen,hall,Bool.false_eq_true,if_false,←hL,HP]
   simp[choose,Sem.run,Question.forced]
 ·right
  have hne:L.isEmpty=false:=by simp[Array.isEmpty,h0]
  have hch:∃(j:Nat) (w1:World),j<L.size∧(w1=w∨w1=w.drew)∧(choose (Question.mapNext L.size)).run P w=.ok j w1:=by
   by_cases hf:L.size≤1
   ·exact⟨0,w,by omega,.inl rfl,by simp[choose,Sem.run,Question.forced,hf]⟩
   ·exact⟨_,w.drew,Nat.mod_lt _ (by omega),.inr rfl,by
     simp only[choose,Sem.run,Question.forced,decide_eq_true_eq,hf,if_false,Question.cut]
     rfl⟩
  obtain⟨j,w1,hj,hw1,hrun⟩:=hch
  have Sm:L[j]∈L:=Array.getElem_mem hj
  have hme:L[j]∈es∧(!seen.toArray.contains L[j].born)=true:=by
   have:L[j]∈Array.filter (fun e=> !seen.toArray.contains e.born) es:=hL▸Sm
   simpa using this
  obtain⟨i,hi,xz⟩:=Array.getElem_of_mem hme.1
  have Bf:=d_ i es[i] (Array.getElem?_eq_getElem hi)
  rw[xz] at Bf
  have Bg:i∉seen:=by
   have:=hme.2
   rw[Bf] at this
   simpa using this
  refine⟨i,L[j],w1,by omega,Bg,by rw[Array.getElem?_eq_getElem hi,xz],hw1,?_⟩
  have hr1:w1.heap[r]? =some (.mapIter (some b) n seen.toArray n):=by rcases hw1 with rfl|rfl<;>exact hr
  have dY:∀o',(setObj r o').run P w1=.ok () (w1.putObj r o'):=fun o'=>by simp[setObj,Sem.run,hr1,World.putObj]
  simp only[Instr.next,getObj,Sem.run_bind,Sem.run,hr,hb,Result.andThen,hall,Bool.false_eq_true,if_false,←hL,e1,e2,Array.append_empty,hne,Array.empty_append,Array.size_map,hrun,Array.getElem?_map,Array.getElem?_eq_getElem hj,Option.map_some,dY,Bf]
  simp
theorem Sn{x:Operand}{mx:ai}(hop:o.op=.next x false)(hd:o.dst=some d)(hN:d<C.N)(aZ:C.N≤gS)(hx:aF x=some mx)(h:GS C Pt s a w A Lx sp)(hv:vc1 P (.afW d mx) s K)(hn:aeH C Pt s w A Lx sp a.defers K rest):o.wpIn (Fw C.ro) 0 P a w rest Q:=by
 have h1:RV w A (mx.ev s.env) (a.eval x):=(bl h.rs hx).1
 have cQ:d<gS:=Nat.lt_of_lt_of_le hN aZ
 simp only[vc1] at hv
 split at hv
 ·rename_i r e1
  rw[e1] at h1
  obtain⟨b,seen,es,e2,e3,pL,jv⟩:=hv
  have hne:s.env (oS+r)≠.any:=by rw[e2];intro e;cases e
  generalize bg:a.eval x=v0 at h1
  cases h1
  have hr:=h.HO e2
  obtain⟨es',clock,hb,hs,hrv,cE,d_⟩:=h.pY e3
  rw[←hs] at hr
  rw[cE] at hb
  rcases Sl (P:=P) hr hb rfl d_ o.type with ⟨hall,hrun⟩|⟨i,e,w1,hi,Bg,xz,hw1,hrun⟩
  ·have agt:(execOp a.eval o).run P w=.ok (.value (.tuple #[.bool false])) w:=by simp[execOp,hop,bg,hrun]
   refine afI (by rw[hop];intro c e;cases e) agt ?_
   rw[hd]
   refine hn _ _ _ _ _ _ (jv (by rw[←hs];exact hall)) (h.put hN cQ (.tuple _ _ rfl fun i=> ?_) trivial) (by rw[jd cQ];exact .refl _ _ _) rfl
   match i with
   |0=>exact .lit _ rfl
   |i+1=>simp;exact .any _
  ·have agt:(execOp a.eval o).run P w=.ok (.value (.tuple #[.bool true,e.key,e.val])) (w1.putObj r (.mapIter (some b) es'.size (seen++[i]).toArray es'.size)):=by simp[execOp,hop,bg,hrun]
   refine afI (by rw[hop];intro c e;cases e) agt ?_
   have hh:w1.heap=w.heap:=by rcases hw1 with rfl|rfl<;>rfl
   have hos:w1.os=w.os∧w1.tape=w.tape∧w1.output=w.output:=by rcases hw1 with rfl|rfl<;>exact⟨rfl,rfl,rfl⟩
   have hlt:r<w1.heap.size:=by rw[hh];exact cy hr
   obtain⟨g1,g2⟩:=h.obj (b:=r) (x:=fH b es.length (seen++[i])) (w':=w1.putObj r (.mapIter (some b) es'.size (seen++[i]).toArray es'.size)) rfl (.inl hne) (by simp[hh]) hos (fun c hc hcb=>by rw[World.putObj_heap_other hcb,hh]) (.n3 b es.length (seen++[i]) (by rw[World.putObj_heap_same hlt,hs]))
   rw[hd]
   have hkv:=hrv i e xz
   have hmono:∀{x:AV} {v:Value},RV w A x v→RV (w1.putObj r (.mapIter (some b) es'.size (seen++[i]).toArray es'.size)) A x v:=fun hx=>hx.mono fun c o v ha hc=>⟨by
    have So:c≠r:=fun e=>by subst e;exact h.oa _ o hne ha
    rw[rz w1 _ So]
    simp only[World.cell?,hh] at hc⊢
    exact hc,ha⟩
   refine hn _ _ _ _ _ _ (pL i (by omega) Bg) (g1.put hN cQ (.tuple _ _ rfl fun i=> ?_) trivial) (by rw[jd cQ];exact g2) rfl
   match i with
   |0=>exact .lit _ rfl
   |1=>exact(hmono hkv.1).erase
   |2=>exact(hmono hkv.2).erase
   |i+3=>simp;exact .any _
 ·exact hv.elim
theorem Sq{es':Array MapEntry}(d_:∀(i:Nat) (e:MapEntry),es'[i]? =some e→e.born=i){i:Nat}(hi:i<es'.size):es'.find? (fun e=>e.born==i)=some es'[i]:=by
 rw[Array.find?_eq_some_iff_getElem]
 refine⟨by rw[d_ i _ (Array.getElem?_eq_getElem hi)];simp,i,hi,rfl,fun j hj=> ?_⟩
 rw[d_ j _ (Array.getElem?_eq_getElem (by omega))];simp;omega
theorem Sr{x:Operand}{mx:ai}(hop:o.op=.entry x)(hd:o.dst=some d)(hN:d<C.N)(aZ:C.N≤gS)(hx:aF x=some mx)(h:GS C Pt s a w A Lx sp)(hv:vc1 P (.afY d mx) s K)(hn:aeH C Pt s w A Lx sp a.defers K rest):o.wpIn (Fw C.ro) 0 P a w rest Q:=by
 have h1:RV w A (mx.ev s.env) (a.eval x):=(bl h.rs hx).1
 have cQ:d<gS:=Nat.lt_of_lt_of_le hN aZ
 simp only[vc1] at hv
 split at hv
 ·rename_i r e1
  rw[e1] at h1
  obtain⟨b,seen,i,es,e2,e3,hi,hK⟩:=hv
  generalize bg:a.eval x=v0 at h1
  cases h1
  have hr:=h.HO e2
  obtain⟨es',clock,hb,hs,hrv,cE,d_⟩:=h.pY e3
  have hi':i<es'.size:=by omega
  have Ss:clock=es.length:=by omega
  subst Ss
  have hrun:(execOp a.eval o).run P w=.ok (.value (.tuple #[(es'[i]).key,(es'[i]).val])) w:=by
   have xA:(seen++[i]).toArray.back?=some i:=by simp
   have p0:(getObj r).run P w=.ok (.mapIter (some b) es.length (seen++[i]).toArray es.length) w:=by simp[getObj,Sem.run,hr]
   have hg2:(getObj b).run P w=.ok (.map es' es.length) w:=by simp[getObj,Sem.run,hb]
   simp only[execOp,hop,bg,Instr.entry,Sem.run_bind,p0,hg2,xA,Result.andThen_ok,bne_self_eq_false,Bool.false_eq_true,if_false,Sq d_ hi',Sem.run_pure]
  refine afI (by rw[hop];intro c e;cases e) hrun ?_
  rw[hd]
  have hkv:=hrv i _ (Array.getElem?_eq_getElem hi')
  refine hn _ _ _ _ _ _ hK (h.put hN cQ (.tuple _ _ rfl fun j=> ?_) trivial) (by rw[jd cQ];exact .refl _ _ _) rfl
  match j with
  |0=>exact hkv.1.erase
  |1=>exact hkv.2.erase
  |j+2=>simp;exact .any _
 ·exact hv.elim
end
end Go.aq
namespace Go.aq
open Go.RowKit
section
variable {P:Program} {C:Ctx P} {Pt:List (Nat×Obj)} {s:St} {a:Act} {w:World} {A Lx:aN} {sp:Sp}
theorem ah5{o:Oper}{d:Nat}{t:Tmp}{xs:Array Operand}{ts:Array TypeId}{ms:List ai}{K:St→Prop}{rest:Act→World→Prop}{Q:Exit→Act→World→Prop}
  (h:GS C Pt s a w A Lx sp)(aZ:C.N≤gS)(hop:o.op=.call {callee:=.value (.tmp t),args:=xs,argTypes:=ts})(hd:o.dst=some d)(hN:d<C.N)
  (hx:fY P xs.toList ts.toList=some ms)(hv:vc1 P (.iY d (.t t) ms) s K)(hn:aeH C Pt s w A Lx sp a.defers K rest):o.wpIn (Fw C.ro) 0 P a w rest Q:=by
 obtain⟨a1,a2⟩:=od h.rs hx
 have h1:=(h.rs.env t).1
 simp only[vc1] at hv
 split at hv
 ·rename_i l l' y rs e1 e2
  obtain⟨rfl,hy,jY,hk2⟩:=hv
  replace e1:s.env t=.func (.yield l) [] []:=e1
  rw[e1] at h1
  have hx0:=h.x
  rw[e2] at hx0
  have aS:(⟨a.tmps,[]⟩:Act).eval=a.eval:=rfl
  rw[aS] at a2
  obtain⟨fn,tmps,assign,body,hrun,jz⟩:=C.yl l y rs w A Lx (xs.map a.eval) hx0 h.lt (fun b o ha=>⟨(h.rs.av b o ha).1,h.av b o ha⟩) (by rw[←hy];simp[a1]) (fun i=>by
   rw[←hy]
   have:=a2 i
   simpa[List.getD_eq_getElem?_getD,Array.getD_eq_getD_getElem?] using this)
  replace h1:RV w A (.func (.yield l) [] []) (a.tmps.getD t undef):=h1
  generalize bg:a.tmps.getD t undef=v0 at h1
  cases h1 with
  |func _ _ _ vf vc fG hsc hf hc=>
   have Bh:vf= #[]:=Array.eq_empty_of_size_eq_zero (by simpa using fG)
   subst Bh
   have Bi:(Oper.semAt C.ro a.eval o).run P w=.ok (.round l fn tmps assign body) w:=by
    rw[Oper.semAt_eq _ _ _ (by rw[hop];intro c e;cases e)]
    rw[←hrun]
    simp[execOp,hop,resolve,Act.eval,bg,Deferred.ofValue,invoke]
   refine⟨fun _ _=>trivial,?_⟩
   rw[Bi,Oper.uponIn_round]
   refine⟨fun e=>(by cases e),?_⟩
   refine RoundIn.mono (F:=Fw none) (n:=0) jz ?_
   rintro e w' ⟨b,A',bw,rfl,Bj,hlt',Bk,Bl⟩
   obtain⟨g1,g2⟩:=h.other (gh:=.ghost l rs (!b)) rfl Bj hlt' Bk Bl
   rw[hd]
   have cQ:d<gS:=Nat.lt_of_lt_of_le hN aZ
   have fK:held ((s.set gS (.ghost l rs (!b))).set d (.lit (.bool b))) sp=held (s.set gS (.ghost l rs (!b))) sp:=jd cQ _ _
   refine hn _ _ _ _ _ _ ?_ (g1.put hN cQ (.lit (.bool b) rfl) trivial) (by rw[fK];exact g2) rfl
   cases b
   ·exact hk2
   ·exact jY
 ·exact hv.elim
theorem Su{o:Oper}{d pos:Nat}{t:Tmp}{x:Operand}{ty:TypeId}{m:ai}{K:St→Prop}{rest:Act→World→Prop}{Q:Exit→Act→World→Prop}
  (h:GS C Pt s a w A Lx sp)(aZ:C.N≤gS)(hop:o.op=.call {callee:=.value (.tmp t),args:= #[x],argTypes:= #[ty]})(hd:o.dst=some d)(hN:d<C.N)
  (hx:afD P ty x=some m)(hv:vc1 P (.lW d (.t t) pos m) s K)(hn:aeH C Pt s w A Lx sp a.defers K rest):o.wpIn (Fw C.ro) 0 P a w rest Q:=by
 have a2:=(Ah h.rs hx).1.erase
 have h1:=(h.rs.env t).1
 simp only[vc1] at hv
 split at hv
 ·rename_i l l' z rs e1 e2
  obtain⟨rfl,z0,b,sz,len,cap,cs,rfl,hy,hb,hok,jY,hk2⟩:=hv
  replace e1:s.env t=.func (.yield l) [] []:=e1
  rw[e1] at h1
  have hx0:=h.x
  rw[e2] at hx0
  have aS:(⟨a.tmps,[]⟩:Act).eval=a.eval:=rfl
  rw[aS,hy] at a2
  have fj:∀o,live s.loc sp b o:=fun o=>.inl (by rw[hb];exact fun e=>by cases e)
  obtain⟨vs,T,g1,g2,g3⟩:=h.rs.loc b cs hb
  obtain⟨fn,tmps,assign,body,hrun,jz⟩:=C.yl2 l z0 pos rs w A Lx (a.eval x) b sz len cap cs hx0 hok h.lt (fun b o ha=>⟨(h.rs.av b o ha).1,h.av b o ha⟩) a2 ⟨vs,T,g1,g2,fun i=>(g3 i).1⟩ (fun o ha=>(h.rs.av b o ha).2 (fj o)) (fun o hl=>h.ap b o o (.inl (fj o)) hl)
  replace h1:RV w A (.func (.yield l) [] []) (a.tmps.getD t undef):=h1
  generalize bg:a.tmps.getD t undef=v0 at h1
  cases h1 with
  |func _ _ _ vf vc fG hsc hf hc=>
   have Bh:vf= #[]:=Array.eq_empty_of_size_eq_zero (by simpa using fG)
   subst Bh
   have Bi:(Oper.semAt C.ro a.eval o).run P w=.ok (.round l fn tmps assign body) w:=by
    rw[Oper.semAt_eq _ _ _ (by rw[hop];intro c e;cases e)]
    rw[←hrun]
    simp[execOp,hop,resolve,Act.eval,bg,Deferred.ofValue,invoke]
   refine⟨fun _ _=>trivial,?_⟩
   rw[Bi,Oper.uponIn_round]
   refine⟨fun e=>(by cases e),?_⟩
   refine RoundIn.mono (F:=Fw none) (n:=0) jz ?_
   rintro e w' ⟨bo,A',bw,rfl,Bj,hlt',Bk,Sv,hL',hl',Bl⟩
   obtain⟨q1,q2⟩:=h.R4 hb hok.2.2.2.2.2 (gh:=.ghost l rs (!bo)) rfl Bj hlt' Bk Sv hL' hl' Bl
   rw[hd]
   have cQ:d<gS:=Nat.lt_of_lt_of_le hN aZ
   have fK:held ((s.set gS (.ghost l rs (!bo))).set d (.lit (.bool bo))) sp=held (s.set gS (.ghost l rs (!bo))) sp:=jd cQ _ _
   refine hn _ _ _ _ _ _ ?_ (q1.put hN cQ (.lit (.bool bo) rfl) trivial) (by rw[fK];exact q2) rfl
   cases bo
   ·exact hk2
   ·exact jY
 ·exact hv.elim
theorem Sw{ops:Array Oper}{o:Oper}{g j:Nat}{want:Bool}{m:MOp}{K:St→Prop}{rest:Act→World→Prop}{Q:Exit→Act→World→Prop}(h:GS C Pt s a w A Lx sp)
  (hg:o.guard=some (j,want))(hj:(ops[j]?).bind (·.dst)=some g)(tQ:g<C.N)(pQ:∀d,o.dst=some d→d<C.N∧d<gS)(hv:vc1 P (.guard g want o.dst m) s K)
  (hs:vc1 P m s K→o.wpIn (Fw C.ro) 0 P a w rest Q)(hn:aeH C Pt s w A Lx sp a.defers K rest):ou C.ro P ops o a w rest Q:=by
 have skip:(K (match o.dst with|some d=>s.set d (.tuple [])|none=>s))→rest (a.put o.dst undef) w:=by
  intro hk
  cases hd:o.dst with
  |none=>
   rw[hd] at hk
   rw[tP]
   exact hn _ _ _ _ _ _ hk h (.refl _ _ _) rfl
  |some d=>
   rw[hd] at hk
   exact hn _ _ _ _ _ _ hk (h.put (pQ d hd).1 (pQ d hd).2 AD trivial) (by rw[jd (pQ d hd).2];exact .refl _ _ _) rfl
 simp only[vc1] at hv
 split at hv
 ·rename_i b hb
  have he:=(h.rs.env g).1
  rw[hb] at he
  have heb:=he.afE
  have gw:yielded ops a.tmps j=some b:=by
   unfold yielded
   rw[hj]
   have:a.tmps[g]? =some (.bool b):=by
    have hlt:g<a.tmps.size:=by have:=h.rs.size;simp only at this;omega
    rw[Array.getD_eq_getD_getElem?,Array.getElem?_eq_getElem hlt] at heb
    rw[Array.getElem?_eq_getElem hlt]
    simpa using heb
   simp[this]
  have hw:Region.wanted o (yielded ops a.tmps)=(b==want):=by simp[Region.wanted,hg,gw]
  unfold ou
  by_cases pP:b=want
  ·rw[hw,if_pos (by simpa using pP)]
   exact hs (hv.1 pP)
  ·rw[hw,if_neg (by simpa using pP)]
   exact⟨fun _ _=>trivial,skip (hv.2 (by cases b<;>cases want<;>simp_all))⟩
 ·rename_i hb
  have he:=(h.rs.env g).1
  rw[hb] at he
  have heb:a.tmps.getD g undef=.tuple #[]:=by
   replace he:RV w A (.tuple []) (a.tmps.getD g undef):=he
   generalize a.tmps.getD g undef=v at he
   cases he with
   |tuple _ vs hs hr=>
    have bg:vs= #[]:=Array.eq_empty_of_size_eq_zero (by simpa using hs)
    rw[bg]
  have gw:yielded ops a.tmps j=none:=by
   unfold yielded
   rw[hj]
   have:a.tmps[g]? =some (.tuple #[]):=by
    have hlt:g<a.tmps.size:=by have:=h.rs.size;simp only at this;omega
    rw[Array.getD_eq_getD_getElem?,Array.getElem?_eq_getElem hlt] at heb
    rw[Array.getElem?_eq_getElem hlt]
    simpa using heb
   simp[this]
  have hw:Region.wanted o (yielded ops a.tmps)=false:=by simp[Region.wanted,hg,gw]
  unfold ou
  rw[if_neg (by rw[hw];simp)]
  exact⟨fun _ _=>trivial,skip hv⟩
 ·exact hv.elim
end
def Bm(P:Program)(N:Nat)(o:Oper):Option MOp:=
 match o.dst,o.op with
 |some d,.call c=>match c.callee with
  |.value (.tmp t)=>if d<N then (fY P c.args.toList c.argTypes.toList).map (.iY d (.t t) ·) else none
  |_=>none
 |_,_=>none
def Bn(P:Program)(pos N:Nat)(o:Oper):Option MOp:=
 match o.dst,o.op with
 |some d,.call c=>match c.callee,c.args.toList,c.argTypes.toList with
  |.value (.tmp t),[x],[ty]=>if d<N then (afD P ty x).map (.lW d (.t t) pos ·) else none
  |_,_,_=>none
 |_,_=>none
def Bo(P:Program)(N:Nat)(o:Oper):Option MOp:=
 match o.dst,o.op with
 |some d,.call c=>match c.callee with
  |.value (.func f)=>if d<N then (fY P c.args.toList c.argTypes.toList).map (.gK d f ·) else none
  |.value (.tmp t)=>if d<N then (fY P c.args.toList c.argTypes.toList).map (.kR d (.t t) ·) else none
  |_=>none
 |_,_=>none
def Bp(P:Program)(N:Nat)(o:Oper):Option MOp:=
 match o.dst,o.op with
 |some d,.range T x=>if d<N then match P.underlying T,aF x with
  |some .string,some x=>some (.jo d x)
  |some (.map _ _),some x=>some (.n5 d x)
  |_,_=>none else none
 |some d,.next x true=>if d<N then (aF x).map (.jq d ·) else none
 |some d,.next x false=>if d<N then (aF x).map (.afW d ·) else none
 |some d,.entry x=>if d<N then (aF x).map (.afY d ·) else none
 |some d,.makeMap _ none=>if d<N then some (.mkMap d) else none
 |none,.mapUpdate T x k y=>match P.underlying T with
  |some (.map kt _)=>match ov P kt,aF x,aF k,aF y with
   |some n,some x,some k,some y=>some (.lY x k y n)
   |_,_,_,_=>none
  |_=>none
 |some d,.mapEntry T x k=>if d<N then match P.underlying T with
  |some (.map kt et)=>match ov P kt,(zeroOf P et).bind age,aF x,aF k with
   |some n,some z,some x,some k=>some (.iA d x k n z)
   |_,_,_,_=>none
  |_=>none else none
 |none,.entryStore _ x st y=>match aF x,aF st,aF y with
  |some x,some st,some y=>some (.afX x st y)
  |_,_,_=>none
 |some d,.lookup T x k ok=>if d<N then match P.underlying T with
  |some (.map kt et)=>match ov P kt,(zeroOf P et).bind age,aF x,aF k with
   |some n,some z,some x,some k=>some (.lookup d x k n ok z)
   |_,_,_,_=>none
  |_=>none else none
 |_,_=>none
def rF(P:Program)(yl:Nat)(N:Nat)(o:Oper):Option MOp:=if yl=1 then Bm P N o else if yl=2 then Bo P N o else if 3≤yl then Bn P (yl - 3) N o else Bp P N o
def Bq(aG:cn)(o:Oper):Nat:=match o.dst with
 |some d=>if aG.yl.contains d then 1 else if aG.ic.contains d then 2 else look aG.z8 d 0
 |none=>0
def HQ(o:Oper):Bool:=match o.op with
 |.defer _=>false
 |_=>true
theorem Br{P:Program}{f:FuncId}(h:gI P f=true)(vs:Array Value)(w:World):(callFunc f vs).run P w=.ok (.enter f vs) w:=by
 unfold gI at h
 split at h
 ·rename_i fn hfn
  simp only[Bool.and_eq_true,bne_iff_ne,ne_eq] at h
  unfold callFunc
  simp only[Sem.run_bind,run_program,Result.andThen_ok,hfn]
  have hb:fn.body.isNone=false:=by cases pM:fn.body with
   |none=>rw[pM] at h;simp at h
   |some c=>rfl
  have hnm:(fn.name== "runtime.NumGoroutine")=false:=by simpa using h.1
  rw[hnm,hb]
  rfl
 ·cases h
def ow(f:Array Oper→Oper→Option MOp)(P:Program)(aG:cn)(N:Nat)(ops:Array Oper)(o:Oper):Option MOp:=
 match f ops o with
 |some m=>if Bq aG o==0&&ru m&&HQ o then some m else xB
 |none=>xB
where xB:Option MOp:=match o.guard with
 |none=>rF P (Bq aG o) N o
 |some (j,want)=>match (ops[j]?).bind (·.dst),rF P (Bq aG o) N o with
  |some g,some m=>if g<N then some (.guard g want o.dst m) else none
  |_,_=>none
section
variable {P:Program} {C:Ctx P} {Pt:List (Nat×Obj)} {s:St} {a:Act} {w:World} {A Lx:aN} {sp:Sp} {K:St→Prop} {rest:Act→World→Prop} {Q:Exit→Act→World→Prop} {o:Oper}
theorem HR{N:Nat}{m:MOp}(h:Bm P N o=some m):∃d t xs ts ms,o.dst=some d∧d<N∧o.op=.call {callee:=.value (.tmp t),args:=xs,argTypes:=ts}∧fY P xs.toList ts.toList=some ms∧m=.iY d (.t t) ms:=by
 unfold Bm at h
 split at h
 ·rename_i d c hd hop
  split at h
  ·rename_i t hc
   split at h
   ·rename_i hN
    simp only[Option.map_eq_some_iff] at h
    obtain⟨ms,hms,rfl⟩:=h
    refine⟨d,t,c.args,c.argTypes,ms,hd,hN,?_,hms,rfl⟩
    rw[hop,←hc]
   ·cases h
  ·cases h
 ·cases h
theorem HS{f:FuncId}{vs:Array Value}{xs:List AV}{d:Nat}(hp:fW P f xs s fun r s'=>K (s'.set d r))(aZ:C.N≤gS)(h:GS C Pt s a w A Lx sp)(hd:o.dst=some d)(hN:d<C.N)(hs:vs.size=xs.length)(hr:∀i,RV w A (xs.getD i .any) (vs.getD i undef))(hrun:(Oper.semAt C.ro a.eval o).run P w=(callFunc f vs).run P w)(hn:aeH C Pt s w A Lx sp a.defers K rest):o.wpIn (Fw C.ro) 0 P a w rest Q:=by
 have cQ:d<gS:=Nat.lt_of_lt_of_le hN aZ
 refine⟨fun _ _=>trivial,?_⟩
 rw[hrun,Br hp.1,Oper.uponIn_enter]
 refine⟨fun e=>(by cases e),xm (Calls.mono (hp.2 C Pt a w A Lx sp vs aZ h hs hr) ?_)⟩
 rintro e w' ⟨r,v,s',A',bw,sp',rfl,h2,h3,h4,h5,h6⟩
 show rest (a.put o.dst v) w'
 rw[hd]
 exact hn _ _ _ _ _ _ h6 (h4.put hN cQ h2 h3) (by rw[jd cQ];exact h5) rfl
theorem Sx{f:FuncId}{d:Nat}{xs:Array Operand}{ts:Array TypeId}{ms:List ai}(hop:o.op=.call {callee:=.value (.func f),args:=xs,argTypes:=ts})(hd:o.dst=some d)(hN:d<C.N)(hx:fY P xs.toList ts.toList=some ms)(aZ:C.N≤gS)(h:GS C Pt s a w A Lx sp)(hv:vc1 P (.gK d f ms) s K)(hn:aeH C Pt s w A Lx sp a.defers K rest):o.wpIn (Fw C.ro) 0 P a w rest Q:=by
 obtain⟨a1,a2⟩:=od h.rs hx
 have aS:(⟨a.tmps,[]⟩:Act).eval=a.eval:=rfl
 rw[aS] at a2
 refine HS (vs:=xs.map a.eval) hv aZ h hd hN (by simp[a1]) (fun i=> ?_) ?_ hn
 ·have:=a2 i
  simpa[List.getD_eq_getElem?_getD,Array.getD_eq_getD_getElem?] using this
 ·rw[Oper.semAt_eq _ _ _ (by rw[hop];intro c e;cases e)]
  simp[execOp,hop,resolve,Act.eval,Deferred.ofValue,invoke]
theorem Sy{t:Tmp}{d:Nat}{xs:Array Operand}{ts:Array TypeId}{ms:List ai}(hop:o.op=.call {callee:=.value (.tmp t),args:=xs,argTypes:=ts})(hd:o.dst=some d)(hN:d<C.N)(hx:fY P xs.toList ts.toList=some ms)(aZ:C.N≤gS)(h:GS C Pt s a w A Lx sp)(hv:vc1 P (.kR d (.t t) ms) s K)(hn:aeH C Pt s w A Lx sp a.defers K rest):o.wpIn (Fw C.ro) 0 P a w rest Q:=by
 obtain⟨a1,a2⟩:=od h.rs hx
 have aS:(⟨a.tmps,[]⟩:Act).eval=a.eval:=rfl
 rw[aS] at a2
 have h1:=(h.rs.env t).1
 simp only[vc1] at hv
 split at hv
 ·rename_i f fs cs e1
  replace e1:s.env t=.func (.func f) fs cs:=e1
  rw[e1] at h1
  replace h1:RV w A (.func (.func f) fs cs) (a.tmps.getD t undef):=h1
  generalize bg:a.tmps.getD t undef=v0 at h1
  cases h1 with
  |func _ _ _ vf vc fG hsc hf hc=>
   refine HS (vs:=vf++xs.map a.eval++vc) hv aZ h hd hN (by simp[a1,fG,hsc]) (fun i=> ?_) ?_ hn
   ·have e2:=af2 vf.toList (xs.map a.eval).toList vc.toList i undef
    have e3:=af2 fs (ms.map fun x=>(x.ev s.env).erase) cs i .any
    have e4:(vf++xs.map a.eval++vc).getD i undef=(vf.toList++(xs.map a.eval).toList++vc.toList).getD i undef:=by simp[List.getD_eq_getElem?_getD,Array.getD_eq_getD_getElem?,Array.getElem?_append,List.getElem?_append]
    rw[e4,e2,e3]
    simp only[Array.length_toList,fG,Array.size_map,List.length_map,a1]
    split
    ·have:=hf i
     simpa[List.getD_eq_getElem?_getD,Array.getD_eq_getD_getElem?] using this
    ·split
     ·have:=a2 (i - fs.length)
      simpa[List.getD_eq_getElem?_getD,Array.getD_eq_getD_getElem?] using this
     ·have:=hc (i - fs.length - xs.size)
      simpa[List.getD_eq_getElem?_getD,Array.getD_eq_getD_getElem?] using this
   ·rw[Oper.semAt_eq _ _ _ (by rw[hop];intro c e;cases e)]
    simp[execOp,hop,resolve,Act.eval,bg,Deferred.ofValue,invoke]
 ·exact hv.elim
theorem HT{N:Nat}{m:MOp}(h:Bo P N o=some m):∃d xs ts ms,o.dst=some d∧d<N∧fY P xs.toList ts.toList=some ms∧((∃f,o.op=.call {callee:=.value (.func f),args:=xs,argTypes:=ts}∧m=.gK d f ms)∨∃t,o.op=.call {callee:=.value (.tmp t),args:=xs,argTypes:=ts}∧m=.kR d (.t t) ms):=by
 unfold Bo at h
 split at h
 ·rename_i d c hd hop
  split at h
  ·rename_i f hc
   split at h
   ·rename_i hN
    simp only[Option.map_eq_some_iff] at h
    obtain⟨ms,hms,rfl⟩:=h
    exact⟨d,c.args,c.argTypes,ms,hd,hN,hms,.inl ⟨f,by rw[hop,←hc],rfl⟩⟩
   ·cases h
  ·rename_i t hc
   split at h
   ·rename_i hN
    simp only[Option.map_eq_some_iff] at h
    obtain⟨ms,hms,rfl⟩:=h
    exact⟨d,c.args,c.argTypes,ms,hd,hN,hms,.inr ⟨t,by rw[hop,←hc],rfl⟩⟩
   ·cases h
  ·cases h
 ·cases h
theorem HU{pos N:Nat}{m:MOp}(h:Bn P pos N o=some m):∃d t x ty y,o.dst=some d∧d<N∧o.op=.call {callee:=.value (.tmp t),args:= #[x],argTypes:= #[ty]}∧afD P ty x=some y∧m=.lW d (.t t) pos y:=by
 unfold Bn at h
 split at h
 ·rename_i d c hd hop
  split at h
  ·rename_i t x ty hc hxs hts
   split at h
   ·rename_i hN
    simp only[Option.map_eq_some_iff] at h
    obtain⟨y,hy,rfl⟩:=h
    have e1:c.args= #[x]:=by rw[←Array.toList_inj,hxs]
    have e2:c.argTypes= #[ty]:=by rw[←Array.toList_inj,hts]
    refine⟨d,t,x,ty,y,hd,hN,?_,hy,rfl⟩
    rw[hop,←hc,←e1,←e2]
   ·cases h
  ·cases h
 ·cases h
def rG(P:Program)(N:Nat)(f:Array Oper→Oper→Option MOp):Prop:=∀{ops:Array Oper} {o:Oper} {m:MOp} {s:St} {a:Act} {w:World} {A:aN} {sp:Sp} {K:St→Prop} {rest:Act→World→Prop} {Q:Exit→Act→World→Prop},f ops o=some m→RS N s a w A sp→vc1 P m s K→Next s w A sp N K rest→(if Region.wanted o (yielded ops a.tmps)=true then o.wp P a w rest Q∨(o.asks P a w∧LetsOut Q) else rest (a.put o.dst undef) w)
theorem HV{yl:Nat}{m:MOp}(aZ:C.N≤gS)(hm:rF P yl C.N o=some m)(h:GS C Pt s a w A Lx sp)(hv:vc1 P m s K)(hn:aeH C Pt s w A Lx sp a.defers K rest):o.wpIn (Fw C.ro) 0 P a w rest Q∧∀d,o.dst=some d→d<C.N∧d<gS:=by
 unfold rF at hm
 split at hm
 ·obtain⟨d,t,xs,ts,ms,hd,hN,hop,hms,rfl⟩:=HR hm
  exact⟨ah5 h aZ hop hd hN hms hv hn,fun d' hd'=>by rw[hd] at hd';injection hd' with hd';subst hd';exact⟨hN,Nat.lt_of_lt_of_le hN aZ⟩⟩
 split at hm
 ·obtain⟨d,xs,ts,ms,hd,hN,hms,⟨f,hop,rfl⟩|⟨t,hop,rfl⟩⟩:=HT hm
  ·exact⟨Sx hop hd hN hms aZ h hv hn,fun d' hd'=>by rw[hd] at hd';injection hd' with hd';subst hd';exact⟨hN,Nat.lt_of_lt_of_le hN aZ⟩⟩
  ·exact⟨Sy hop hd hN hms aZ h hv hn,fun d' hd'=>by rw[hd] at hd';injection hd' with hd';subst hd';exact⟨hN,Nat.lt_of_lt_of_le hN aZ⟩⟩
 split at hm
 ·obtain⟨d,t,x,ty,y,hd,hN,hop,hy,rfl⟩:=HU hm
  exact⟨Su h aZ hop hd hN hy hv hn,fun d' hd'=>by rw[hd] at hd';injection hd' with hd';subst hd';exact⟨hN,Nat.lt_of_lt_of_le hN aZ⟩⟩
 ·unfold Bp at hm
  split at hm
  ·rename_i d T x hd hop
   split at hm
   ·rename_i hN
    split at hm
    ·injection hm with hm;subst hm
     exact⟨R6 hop hd hN aZ ‹_› ‹_› h hv hn,fun d' hd'=>by rw[hd] at hd';injection hd' with hd';subst hd';exact⟨hN,Nat.lt_of_lt_of_le hN aZ⟩⟩
    ·injection hm with hm;subst hm
     exact⟨Sk hop hd hN aZ ‹_› ‹_› h hv hn,fun d' hd'=>by rw[hd] at hd';injection hd' with hd';subst hd';exact⟨hN,Nat.lt_of_lt_of_le hN aZ⟩⟩
    ·cases hm
   ·cases hm
  ·rename_i d x hd hop
   split at hm
   ·rename_i hN
    simp only[Option.map_eq_some_iff] at hm
    obtain⟨y,hy,rfl⟩:=hm
    exact⟨R7 hop hd hN aZ hy h hv hn,fun d' hd'=>by rw[hd] at hd';injection hd' with hd';subst hd';exact⟨hN,Nat.lt_of_lt_of_le hN aZ⟩⟩
   ·cases hm
  ·rename_i d x hd hop
   split at hm
   ·rename_i hN
    simp only[Option.map_eq_some_iff] at hm
    obtain⟨y,hy,rfl⟩:=hm
    exact⟨Sn hop hd hN aZ hy h hv hn,fun d' hd'=>by rw[hd] at hd';injection hd' with hd';subst hd';exact⟨hN,Nat.lt_of_lt_of_le hN aZ⟩⟩
   ·cases hm
  ·rename_i d x hd hop
   split at hm
   ·rename_i hN
    simp only[Option.map_eq_some_iff] at hm
    obtain⟨y,hy,rfl⟩:=hm
    exact⟨Sr hop hd hN aZ hy h hv hn,fun d' hd'=>by rw[hd] at hd';injection hd' with hd';subst hd';exact⟨hN,Nat.lt_of_lt_of_le hN aZ⟩⟩
   ·cases hm
  ·rename_i d T hd hop
   split at hm
   ·rename_i hN
    injection hm with hm;subst hm
    exact⟨R8 hop hd hN aZ h hv hn,fun d' hd'=>by rw[hd] at hd';injection hd' with hd';subst hd';exact⟨hN,Nat.lt_of_lt_of_le hN aZ⟩⟩
   ·cases hm
  ·rename_i T x k y hd hop
   split at hm
   ·split at hm
    ·injection hm with hm;subst hm
     exact⟨Sg hop hd ‹_› ‹_› ‹_› ‹_› ‹_› h hv hn,fun d' hd'=>by rw[hd] at hd';cases hd'⟩
    ·cases hm
   ·cases hm
  ·rename_i d T x k hd hop
   split at hm
   ·rename_i hN
    split at hm
    ·split at hm
     ·rename_i hz _ _
      simp only[Option.bind_eq_some_iff] at hz
      obtain⟨z,j0,hz2⟩:=hz
      injection hm with hm;subst hm
      exact⟨Sh hop hd hN aZ ‹_› ‹_› j0 hz2 ‹_› ‹_› h hv hn,fun d' hd'=>by rw[hd] at hd';injection hd' with hd';subst hd';exact⟨hN,Nat.lt_of_lt_of_le hN aZ⟩⟩
     ·cases hm
    ·cases hm
   ·cases hm
  ·rename_i T x st y hd hop
   split at hm
   ·injection hm with hm;subst hm
    exact⟨Si hop hd ‹_› ‹_› ‹_› h hv hn,fun d' hd'=>by rw[hd] at hd';cases hd'⟩
   ·cases hm
  ·rename_i d T x k ok hd hop
   split at hm
   ·rename_i hN
    split at hm
    ·split at hm
     ·rename_i hz _ _
      simp only[Option.bind_eq_some_iff] at hz
      obtain⟨z,j0,hz2⟩:=hz
      injection hm with hm;subst hm
      exact⟨Sf hop hd hN aZ ‹_› ‹_› j0 hz2 ‹_› ‹_› h hv hn,fun d' hd'=>by rw[hd] at hd';injection hd' with hd';subst hd';exact⟨hN,Nat.lt_of_lt_of_le hN aZ⟩⟩
     ·cases hm
    ·cases hm
   ·cases hm
  ·cases hm
theorem HW{yl:Nat}{N:Nat}{m:MOp}(hm:rF P yl N o=some m):∀d,o.dst=some d→d<N:=by
 intro d hd
 unfold rF at hm
 split at hm
 ·obtain⟨d',t,xs,ts,ms,hd',hN,_⟩:=HR hm
  rw[hd] at hd';injection hd' with hd';subst hd';exact hN
 split at hm
 ·obtain⟨d',xs,ts,ms,hd',hN,_⟩:=HT hm
  rw[hd] at hd';injection hd' with hd';subst hd';exact hN
 split at hm
 ·obtain⟨d',t,x,ty,y,hd',hN,_⟩:=HU hm
  rw[hd] at hd';injection hd' with hd';subst hd';exact hN
 ·unfold Bp at hm
  split at hm<;>rename_i hd' hop<;>rw[hd] at hd'<;>first|(cases hd';done)|skip
  all_goals first
   |(injection hd' with hd';subst hd';split at hm<;>first|assumption|cases hm)
   |cases hm
theorem HX{f:Array Oper→Oper→Option MOp}(hf:rG P C.N f){aG:cn}{ops:Array Oper}{m:MOp}(aZ:C.N≤gS)(hm:ow f P aG C.N ops o=some m)(h:GS C Pt s a w A Lx sp)(hv:vc1 P m s K)(hn:aeH C Pt s w A Lx sp a.defers K rest):ou C.ro P ops o a w rest Q:=by
 have alt:ow.xB P aG C.N ops o=some m→ou C.ro P ops o a w rest Q:=by
  intro hm
  unfold ow.xB at hm
  split at hm
  ·rename_i hg
   unfold ou
   rw[if_pos (by simp[Region.wanted,hg])]
   exact(HV aZ hm h hv hn).1
  ·rename_i j want hg
   split at hm
   ·rename_i g m' hj hm'
    split at hm
    ·rename_i tQ
     injection hm with hm;subst hm
     exact Sw h hg hj tQ (fun d hd=>⟨HW hm' d hd,Nat.lt_of_lt_of_le (HW hm' d hd) aZ⟩) hv (fun hv'=>(HV aZ hm' h hv' hn).1) hn
    ·cases hm
   ·cases hm
 unfold ow at hm
 split at hm
 ·rename_i m' hm'
  split at hm
  ·rename_i hc
   injection hm with hm;subst hm
   simp only[Bool.and_eq_true] at hc
   exact R5 h (fun c e=>by have:=hc.2;simp[HQ,e] at this) hc.1.2 hv (fun K rest Q hv' hn'=>hf hm' h.rs hv' hn') hn
  ·exact alt hm
 ·exact alt hm
def xC(f:Array Oper→Oper→Option MOp)(P:Program)(aG:cn)(N:Nat)(ops:Array Oper):List Oper→Option (List MOp)
 |[]=>some []
 |o::os=>match ow f P aG N ops o,xC f P aG N ops os with
  |some m,some ms=>some (m::ms)
  |_,_=>none
theorem HY{f:Array Oper→Oper→Option MOp}(hf:rG P C.N f){aG:cn}{ops:Array Oper}(aZ:C.N≤gS):∀(os:List Oper) (ms:List MOp) (s:St) (a:Act) (w:World) (A Lx:aN) (sp:Sp),xC f P aG C.N ops os=some ms→GS C Pt s a w A Lx sp→vcs P ms K s→aeH C Pt s w A Lx sp a.defers K (Q .normal)→wpListIn (Fw C.ro) 0 P ops Q os a w
 |[],ms,s,a,w,A,Lx,sp,hm,h,hv,hn=>by
  injection hm with hm;subst hm
  exact hn _ _ _ _ _ _ hv h (.refl _ _ _) rfl
 |o::os,ms,s,a,w,A,Lx,sp,hm,h,hv,hn=>by
  simp only[xC] at hm
  split at hm
  ·rename_i m ms' h1 h2
   injection hm with hm;subst hm
   exact HX hf aZ h1 h hv fun s' a' w' A' bw sp' hk hr aS hd=>HY hf aZ os ms' s' a' w' A' bw sp' h2 hr hk fun s2 a2 w2 A2 me f_ hk2 cD dJ iD=>hn s2 a2 w2 A2 me f_ hk2 cD (aS.trans dJ) (iD.trans hd)
  ·cases hm
def xD(f:Array Oper→Oper→Option MOp)(P:Program)(aG:cn)(N:Nat)(ops:Array Oper):List Nat→Option (List (Nat×MOp))
 |[]=>some []
 |i::is=>match ops[i]? with
  |some o=>match ow f P aG N ops o,xD f P aG N ops is with
   |some m,some l=>some ((i,m)::l)
   |_,_=>none
  |none=>none
def Bs(f:Array Oper→Oper→Option MOp)(P:Program)(aG:cn)(N:Nat)(id:Nat)(ops:Array Oper):Option (List MOp):=
 let ord:=look aG.ord id []
 match xD f P aG N ops ord with
 |some l=>if P.follows .mixedOrders&&AR ops&&decide (ord.length=ops.size)&&xl ord&&((List.range ops.size).all fun i=>ord.contains i)&&afQ (Region.before ops) l then some (l.map (·.2)) else none
 |none=>none
theorem HZ{f:Array Oper→Oper→Option MOp}{aG:cn}{N:Nat}{ops:Array Oper}:∀(is:List Nat) (l:List (Nat×MOp)),xD f P aG N ops is=some l→l.map (·.1)=is∧∀p∈l,∃o,ops[p.1]? =some o∧ow f P aG N ops o=some p.2
 |[],l,h=>by injection h with h;subst h;exact⟨rfl,by simp⟩
 |i::is,l,h=>by
  simp only[xD] at h
  split at h
  ·rename_i o ho
   split at h
   ·rename_i m l' hm hl
    injection h with h;subst h
    obtain⟨h1,h2⟩:=HZ is l' hl
    refine⟨by simp[h1],fun p hp=> ?_⟩
    rcases List.mem_cons.1 hp with rfl|hp
    ·exact⟨o,ho,hm⟩
    ·exact h2 p hp
   ·cases h
  ·cases h
theorem Sz{f:Array Oper→Oper→Option MOp}(hf:rG P C.N f){aG:cn}{ops:Array Oper}(aZ:C.N≤gS)(agM:AR ops=true):∀(n:Nat) (rem:List (Nat×MOp)) (listed:Array Bool) (s:St) (a:Act) (w:World) (A Lx:aN) (sp:Sp),
  rem.length=n→listed.size=ops.size→(rem.map (·.1)).Nodup→(∀i,i<ops.size→(listed.getD i true=false↔i∈rem.map (·.1)))→
  (∀p∈rem,∃o,ops[p.1]? =some o∧ow f P aG C.N ops o=some p.2)→afQ (Region.before ops) rem=true→
  (∀i o,listed.getD i true=true→i<ops.size→ops[i]? =some o→o.after.all (fun e=> !Region.binds .any e||listed.getD e.on false)=true)→
  GS C Pt s a w A Lx sp→vcs P (rem.map (·.2)) K s→aeH C Pt s w A Lx sp a.defers K (Q .normal)→
  wpAnyIn (Fw C.ro) 0 P .any ops Q n listed a w:=by
 intro n
 induction n with
 |zero=>
  intro rem listed s a w A Lx sp hlen hls dZ hin kf afR cE h hv hn
  have AT:rem=[]:=List.eq_nil_of_length_eq_zero hlen
  subst AT
  refine⟨?_,hn _ _ _ _ _ _ hv h (.refl _ _ _) rfl⟩
  rw[Region.ready,List.filter_eq_nil_iff]
  intro i hi
  have hi':i<ops.size:=by simpa using hi
  have:=(hin i hi')
  simp only[List.map_nil,List.not_mem_nil,iff_false,Bool.not_eq_false] at this
  simp[this]
 |succ n ih=>
  intro rem listed s a w A Lx sp hlen hls dZ hin kf afR cE h hv hn
  have hmem:∀i,i∈Region.ready .any ops listed→i<ops.size∧listed.getD i true=false∧∃o,ops[i]? =some o∧o.after.all (fun e=> !Region.binds .any e||listed.getD e.on false)=true:=by
   intro i hi
   rw[Region.ready,List.mem_filter] at hi
   obtain⟨h1,h2⟩:=hi
   have h1:i<ops.size:=by simpa using h1
   simp only[Bool.and_eq_true,Bool.not_eq_true'] at h2
   refine⟨h1,h2.1,ops[i],Array.getElem?_eq_getElem h1,?_⟩
   have:=h2.2
   rw[Array.getElem?_eq_getElem h1] at this
   exact this
  refine⟨fun AU=> ?_,fun i hi=> ?_⟩
  ·exfalso
   have hne:rem.map (·.1)≠[]:=by
    intro e
    have:rem.length=0:=by simpa using congrArg List.length e
    omega
   have hex:∃i,i∈rem.map (·.1)∧∀j,j∈rem.map (·.1)→i≤j:=by
    generalize rem.map (·.1)=l at hne
    induction l with
    |nil=>exact absurd rfl hne
    |cons x l ihl=>
     by_cases hl:l=[]
     ·subst hl;exact⟨x,by simp,by simp⟩
     ·obtain⟨i,h1,h2⟩:=ihl hl
      by_cases hx:x≤i
      ·exact⟨x,by simp,fun j hj=>by rcases List.mem_cons.1 hj with rfl|hj;exact Nat.le_refl _;exact Nat.le_trans hx (h2 j hj)⟩
      ·exact⟨i,by simp[h1],fun j hj=>by rcases List.mem_cons.1 hj with rfl|hj;omega;exact h2 j hj⟩
   obtain⟨i,hi1,hi2⟩:=hex
   obtain⟨p,hp,rfl⟩:=List.mem_map.1 hi1
   obtain⟨o,ho,_⟩:=kf p hp
   have hlt:=(Array.getElem?_eq_some_iff.1 ho).1
   have ue:p.1∈Region.ready .any ops listed:=by
    rw[Region.ready,List.mem_filter]
    refine⟨by simpa using hlt,?_⟩
    have hl:listed.getD p.1 true=false:=(hin _ hlt).2 hi1
    simp only[hl,Bool.not_false,Bool.true_and,ho,Option.map_some,Option.getD_some]
    refine Array.all_eq_true_iff_forall_mem.2 fun e he=> ?_
    cases hb:Region.binds .any e
    ·rfl
    ·have hf:=(List.all_eq_true.1 agM) p.1 (by simpa using hlt)
     rw[ho] at hf
     have hf:=(Array.all_eq_true_iff_forall_mem.1 hf) e he
     simp only[hb,Bool.not_true,Bool.false_or,decide_eq_true_eq] at hf
     have hnot:e.on∉rem.map (·.1):=fun hm=>by have:=hi2 _ hm;omega
     have hlo:e.on<ops.size:=by omega
     have:=mt (hin e.on hlo).1 hnot
     rw[Bool.not_eq_false] at this
     rw[Array.getD_eq_getD_getElem?,Array.getElem?_eq_getElem (by omega)] at this
     simp only[Bool.not_true,Bool.false_or]
     rw[Array.getD_eq_getD_getElem?,Array.getElem?_eq_getElem (by omega)]
     exact this
   rw[AU] at ue
   cases ue
  ·obtain⟨hlt,fk,o,ho,hall⟩:=hmem i hi
   have eH:i∈rem.map (·.1):=(hin i hlt).1 fk
   obtain⟨p,hp,rfl⟩:=List.mem_map.1 eH
   obtain⟨pre,post,rfl⟩:=List.append_of_mem hp
   obtain⟨ho1,kX⟩:=AS pre afR
   obtain⟨o',ho',ahr⟩:=kf p hp
   rw[ho] at ho';injection ho' with ho';subst ho'
   have AW:∀y∈pre.map (·.2),afP y p.2=true:=by
    intro y hy
    obtain⟨q,hq,rfl⟩:=List.mem_map.1 hy
    have:=kX q hq
    cases hw:((Region.before ops).getD p.1 0).testBit q.1
    ·rw[hw,Bool.false_or] at this;exact this
    ·exfalso
     have h1:=Hv cE hls (Hs ops _ _ hw) o ho hall
     obtain⟨oq,hoq,_⟩:=kf q (List.mem_append_left _ hq)
     have AX:=(Array.getElem?_eq_some_iff.1 hoq).1
     have h2:=(hin q.1 AX).2 (List.mem_map.2 ⟨q,List.mem_append_left _ hq,rfl⟩)
     rw[Array.getD_eq_getD_getElem?,Array.getElem?_eq_getElem (by omega)] at h1 h2
     rw[Option.getD_some] at h1 h2
     rw[h1] at h2;cases h2
   rw[List.map_append,List.map_cons] at hv
   have AY:fJ s:=⟨w.heap.size,fun b hb=>by
    cases hl:s.loc b with
    |none=>rfl
    |some cs=>
     obtain⟨vs,T,h1,_⟩:=h.rs.loc b cs hl
     have:=(Array.getElem?_eq_some_iff.1 h1).1
     omega⟩
   have jv:=AP (pre.map (·.2)) AW s AY hv
   rw[←List.map_append] at jv
   unfold wpOpIn
   simp only[ho]
   refine HX hf aZ ahr h jv fun s' a' w' A' bw sp' hk hr aS hd=> ?_
   have dY:∀j,j<ops.size→(listed.setIfInBounds p.1 true).getD j true=if j=p.1 then true else listed.getD j true:=by
    intro j hj
    simp only[Array.getD_eq_getD_getElem?]
    by_cases e:j=p.1
    ·subst e;rw[Array.getElem?_setIfInBounds_self_of_lt (by omega)];simp
    ·rw[Array.getElem?_setIfInBounds_ne (Ne.symm e),if_neg e]
   refine ih (pre++post) (listed.setIfInBounds p.1 true) s' a' w' A' bw sp' (by simp at hlen⊢;omega) (by simpa using hls) ?_ (fun j hj=> ?_) (fun q hq=>kf q ?_) ho1 (fun j oj hj uf k6=> ?_) hr hk (fun s2 a2 w2 A2 me f_ hk2 cD dJ iD=>hn s2 a2 w2 A2 me f_ hk2 cD (aS.trans dJ) (iD.trans hd))
   ·rw[List.map_append,List.map_cons] at dZ
    rw[List.map_append]
    exact dZ.sublist (List.Sublist.append_left (List.sublist_cons_self _ _) _)
   ·rw[dY j hj]
    rw[List.map_append,List.map_cons] at dZ hin
    rw[List.map_append]
    by_cases e:j=p.1
    ·subst e
     simp only[if_true,Bool.true_eq_false,false_iff,List.mem_append,not_or]
     have:=List.nodup_append.1 dZ
     refine⟨fun hm=>(this.2.2 _ hm _ (List.mem_cons_self ..)) rfl,fun hm=> ?_⟩
     exact(List.nodup_cons.1 this.2.1).1 hm
    ·rw[if_neg e,hin j hj]
     simp only[List.mem_append,List.mem_cons,e,false_or]
   ·rcases List.mem_append.1 hq with hq|hq
    ·exact List.mem_append_left _ hq
    ·exact List.mem_append_right _ (List.mem_cons_of_mem _ hq)
   ·have AZ:∀k,listed.getD k false=true→(listed.setIfInBounds p.1 true).getD k false=true:=by
     intro k hk
     simp only[Array.getD_eq_getD_getElem?] at hk⊢
     by_cases e:k=p.1
     ·subst e;rw[Array.getElem?_setIfInBounds_self_of_lt (by omega)];rfl
     ·rw[Array.getElem?_setIfInBounds_ne (Ne.symm e)];exact hk
    have A0:oj.after.all (fun e=> !Region.binds .any e||listed.getD e.on false)=true:=by
     rw[dY j uf] at hj
     by_cases e:j=p.1
     ·subst e;rw[ho] at k6;injection k6 with k6;subst k6;exact hall
     ·rw[if_neg e] at hj;exact cE j oj hj uf k6
    refine Array.all_eq_true_iff_forall_mem.2 fun e he=> ?_
    have:=(Array.all_eq_true_iff_forall_mem.1 A0) e he
    cases hb:Region.binds .any e
    ·rfl
    ·simp only[hb,Bool.not_true,Bool.false_or] at this⊢
     exact AZ _ this
theorem GS.drew(h:GS C Pt s a w A Lx sp):GS C Pt s a w.drew A Lx sp:=(h.own (a':=a) h.rs.drew (Ev.drew _) (fun _ _=>rfl) rfl).1
theorem SA{f:Array Oper→Oper→Option MOp}(hf:rG P C.N f){aG:cn}{id:Nat}{ops:Array Oper}{ms:List MOp}(aZ:C.N≤gS)
  (hm:Bs f P aG C.N id ops=some ms)(h:GS C Pt s a w A Lx sp)(hv:vcs P ms K s)(hn:aeH C Pt s w A Lx sp a.defers K (Q .normal)):
  (Code.region id ops true).wpIn (Fw C.ro) 0 P Q a w:=by
 unfold Bs at hm
 simp only at hm
 split at hm
 ·rename_i l hl
  split at hm
  ·rename_i hc
   injection hm with hm;subst hm
   simp only[Bool.and_eq_true,decide_eq_true_eq] at hc
   obtain⟨⟨⟨⟨⟨SB,agM⟩,hlen⟩,SC⟩,hall⟩,afR⟩:=hc
   obtain⟨h1,h2⟩:=HZ _ l hl
   have hlen':l.length=ops.size:=by rw[←hlen,←h1];simp
   have hin:∀i,i<ops.size→i∈l.map (·.1):=by
    intro i hi
    have:=(List.all_eq_true.1 hall) i (by simpa using hi)
    rw[h1];simpa using this
   refine wpIn_region_any SB ?_
   have dZ:(l.map (·.1)).Nodup:=by rw[h1];exact Hx _ SC
   have hr0:(Array.replicate ops.size false).size=ops.size:=by simp
   rw[←hlen']
   rw[hlen']
   refine Sz hf aZ agM ops.size l (Array.replicate ops.size false) s a _ A Lx sp hlen' hr0 dZ (fun i hi=>⟨fun _=>hin i hi,fun _=>by simp[Array.getD_eq_getD_getElem?,hi]⟩) h2 afR (fun i o hi hlt _=> ?_) h.drew hv (fun s' a' w' A' bw sp' hk hr aS=>hn s' a' w' A' bw sp' hk hr ((Ev.drew _).trans aS))
   simp[Array.getD_eq_getD_getElem?,hlt] at hi
  ·cases hm
 ·cases hm
theorem SD(aG:cn)(N:Nat):rG P N (trG P aG N):=fun hm h hv hn=>af3 hm h hv hn
theorem SE(aG:cn)(N:Nat):rG P N (uc P aG N):=fun hm h hv hn=>Hw hm h hv hn
end
end Go.aq
namespace Go.aq
open Go.RowKit
section
variable {P:Program} {C:Ctx P} {Pt:List (Nat×Obj)} {s:St} {a:Act} {w:World} {A Lx:aN} {sp:Sp} {K:St→Prop}
theorem SF{k:Nat}(hk:k<gS)(h:GS C Pt s a w A Lx sp)(hv:vc1 P (.bG k) s K):∃s' A' sp',K s'∧GS C Pt s' a w A' Lx sp'∧Ev w A (join (held s sp) Lx) w A' (join (held s' sp') Lx):=by
 simp only[vc1] at hv
 split at hv
 ·rename_i b len cap sz e1
  split at hv
  ·rename_i cs hb
   obtain⟨h1,h2,h3,hK⟩:=hv
   obtain⟨vs,T,hh,hsz,hr⟩:=h.rs.loc b cs hb
   let A':aN:=fun c o=>A c o∨(c=b∧o<cs.length)
   have hmono:∀{x:AV} {v:Value},RV w A x v→RV w A' x v:=fun hx=>hx.mono fun c o v ha hv=>⟨hv,.inl ha⟩
   have uv:∀r,(sp r).2.1<(sp r).2.2→(sp r).1≠b:=fun r hr' e=>by
    have:=(h.rs.cg r hr').2
    rw[e,hb] at this;cases this
   have cG:RS C.N ⟨aD s.env k (.slice sz (chunk sz cs len) 0),aD s.loc b none⟩ ⟨a.tmps,[]⟩ w A' sp:=by
    refine⟨h.rs.size,rfl,fun d=> ?_,fun c cs' hc=> ?_,fun r hr'=>⟨(h.rs.cg r hr').1,?_⟩,h.rs.dO,fun c o ha=>⟨?_,fun hl=> ?_⟩⟩
    ·show RV w A' (aD s.env k (AV.slice sz (chunk sz cs len) 0) d) (a.tmps.getD d undef)∧aek sp (aD s.env k (AV.slice sz (chunk sz cs len) 0) d) (a.tmps.getD d undef)
     by_cases hd:d=k
     ·subst hd
      rw[show aD s.env d (AV.slice sz (chunk sz cs len) 0) d=AV.slice sz (chunk sz cs len) 0 from dP _ _ _]
      have g:=(h.rs.env d).1
      rw[e1] at g
      generalize a.tmps.getD d undef=v0 at g
      cases g with
      |aV _ _ _ _ _ hlc=>
       refine⟨?_,.inl rfl⟩
       have:=RV.slice (w:=w) (A:=A') sz (chunk sz cs len) 0 b 0 cap (fun i=>vs.getD i undef) (fun x hx=>(pO sz len cs h1 h2 x hx).1) (fun x hx=>(pO sz len cs h1 h2 x hx).2) (by rw[ae2];exact hlc) (by rw[ae2];exact h3) (fun i hi=> ?_) (fun i=> ?_)
       ·rw[ae2] at this;exact this
       ·rw[ae2] at hi
        refine⟨?_,.inr ⟨rfl,by omega⟩⟩
        rw[Nat.zero_add]
        simp[World.cell?,hh,Array.getD_eq_getD_getElem?,Array.getElem?_eq_getElem (show i<vs.size by omega)]
       ·rw[w7 sz len cs h1 h2,iV]
        by_cases hi:i<len*sz
        ·have e3:(cs.take (len*sz)).getD i .any=cs.getD i .any:=by simp only[List.getD_eq_getElem?_getD,List.getElem?_take,hi,if_true]
         rw[e3]
         exact(hmono (hr i).1).erase0
        ·have e3:(cs.take (len*sz)).getD i .any=.any:=by simp only[List.getD_eq_getElem?_getD,List.getElem?_take,hi,if_false,Option.getD_none]
         rw[e3]
         exact .any _
     ·rw[show aD s.env k (AV.slice sz (chunk sz cs len) 0) d=s.env d from bE _ _ hd]
      exact⟨hmono (h.rs.env d).1,(h.rs.env d).2⟩
    ·simp only[aD] at hc
     split at hc
     ·cases hc
     ·obtain⟨vs',T',g1,g2,g3⟩:=h.rs.loc c cs' hc
      exact⟨vs',T',g1,g2,fun i=>⟨hmono (g3 i).1,(g3 i).2⟩⟩
    ·simp only[aD];rw[if_neg (uv r hr')];exact(h.rs.cg r hr').2
    ·rcases ha with ha|⟨rfl,_⟩
     ·exact(h.rs.av c o ha).1
     ·exact cy hh
    ·rcases ha with ha|⟨rfl,ho⟩
     ·refine(h.rs.av c o ha).2 ?_
      rcases hl with hl|hl
      ·simp only[aD] at hl
       split at hl
       ·exact absurd rfl hl
       ·exact .inl hl
      ·exact .inr hl
     ·rcases hl with hl|⟨r,q1,q2,q3⟩
      ·simp[aD] at hl
      ·exact uv r (by omega) q1
   have fj:∀c o,live (aD s.loc b none) sp c o→live s.loc sp c o:=by
    rintro c o (hl|hl)
    ·simp only[aD] at hl
     split at hl
     ·exact absurd rfl hl
     ·exact .inl hl
    ·exact .inr hl
   have aS:Ev w A (live s.loc sp) w A' (live (aD s.loc b none) sp):=by
    refine⟨rfl,rfl,rfl,Nat.le_refl _,fun c o _ hl=>⟨rfl,fun hh=>hl (fj c o hh)⟩,fun _ _ _=>rfl,fun _ _ ha=>.inl ha,fun c o ha=> ?_⟩
    rcases ha with ha|⟨rfl,_⟩
    ·exact .inl ha
    ·exact .inr (.inl (.inl (by rw[hb];exact fun e=>by cases e)))
   obtain⟨g1,g2⟩:=h.own (a':=a) cG aS (fun q hq=>bE _ _ (by omega)) rfl
   exact⟨_,A',sp,hK,g1,g2⟩
  ·exact hv.elim
 ·rename_i b e1
  split at hv
  ·rename_i cs hb
   rcases hv with ⟨sz,off,hc,hK⟩|⟨off,b2,len,cap,sz,ck,hc,hne,hb2,h1,h2,h3,hK⟩
   ·have hr0:=h.rs.aT ((k+1)*1000+off)
    have hb':(s.aT ((k+1)*1000+off)).loc b=some (cs.map (aC ((k+1)*1000+off))):=by simp[St.aT,hb]
    have hlt:off<cs.length:=by
     by_cases hl:off<cs.length
     ·exact hl
     ·rw[List.getElem?_eq_none (by omega)] at hc;cases hc
    obtain⟨vs,T,hh,hsz,hr⟩:=hr0.loc b _ hb'
    have hcell:RV w A (.lit (.slice none 0 0)) (vs.getD off undef):=by
     have:=(hr off).1
     rw[List.getD_eq_getElem?_getD,List.getElem?_map,hc] at this
     exact this
    have gy:∀i,((cs.map (aC ((k+1)*1000+off))).set off (.slice sz [] ((k+1)*1000+off))).getD i .any=if i=off then .slice sz [] ((k+1)*1000+off) else (cs.map (aC ((k+1)*1000+off))).getD i .any:=fun i=>by
     simp only[List.getD_eq_getElem?_getD,List.getElem?_set]
     by_cases e:off=i
     ·subst e;simp[hlt]
     ·simp[e,Ne.symm e]
    have fj:∀c o,live ((s.aT ((k+1)*1000+off)).new b ((cs.map (aC ((k+1)*1000+off))).set off (.slice sz [] ((k+1)*1000+off)))).loc (aD sp ((k+1)*1000+off) (0,0,0)) c o→live (s.aT ((k+1)*1000+off)).loc (aD sp ((k+1)*1000+off) (0,0,0)) c o:=by
     rintro c o (hl|hl)
     ·refine .inl fun e=> ?_
      by_cases ec:c=b
      ·subst ec;rw[hb'] at e;cases e
      ·exact hl (by simp only[St.new,bE _ _ ec];exact e)
     ·exact .inr hl
    have cG:RS C.N ((s.aT ((k+1)*1000+off)).new b ((cs.map (aC ((k+1)*1000+off))).set off (.slice sz [] ((k+1)*1000+off)))) ⟨a.tmps,[]⟩ w A (aD sp ((k+1)*1000+off) (0,0,0)):=by
     refine⟨hr0.size,rfl,hr0.env,fun c cs' ga=> ?_,fun r hr'=>⟨(hr0.cg r hr').1,?_⟩,hr0.dO,fun c o ha=>⟨(hr0.av c o ha).1,fun hl=>(hr0.av c o ha).2 (fj c o hl)⟩⟩
     ·by_cases ec:c=b
      ·subst ec
       simp only[St.new,dP] at ga
       injection ga with ga
       subst ga
       refine⟨vs,T,hh,by rw[List.length_set];exact hsz,fun i=> ?_⟩
       rw[gy i]
       by_cases ei:i=off
       ·subst ei
        rw[if_pos rfl]
        generalize vs.getD i undef=v0 at hcell
        cases hcell with
        |lit _ _=>exact⟨.de _ _,trivial⟩
       ·rw[if_neg ei];exact hr i
      ·simp only[St.new,bE _ _ ec] at ga
       exact hr0.loc c cs' ga
     ·have g:=(hr0.cg r hr').2
      by_cases ec:((aD sp ((k+1)*1000+off) (0,0,0)) r).1=b
      ·rw[ec,hb'] at g;cases g
      ·simp only[St.new,bE _ _ ec];exact g
    have aS:Ev w A (live s.loc sp) w A (live ((s.aT ((k+1)*1000+off)).new b ((cs.map (aC ((k+1)*1000+off))).set off (.slice sz [] ((k+1)*1000+off)))).loc (aD sp ((k+1)*1000+off) (0,0,0))):=.same fun c o hl=>ahq _ (fj c o hl)
    obtain⟨g1,g2⟩:=h.own (a':=a) cG aS (fun q hq=>af4 h.ig q hq) rfl
    exact⟨_,A,_,hK,g1,g2⟩
   ·have hlt:off<cs.length:=by
     by_cases hl:off<cs.length
     ·exact hl
     ·rw[List.getElem?_eq_none (by omega)] at hc;cases hc
    obtain⟨vs,T,hh,hsz,hr⟩:=h.rs.loc b cs hb
    obtain⟨j4,T2,w8,Q_,cD⟩:=h.rs.loc b2 ck hb2
    have hcell:RV w A (.aV b2 0 len cap sz) (vs.getD off undef):=by
     have:=(hr off).1
     rw[List.getD_eq_getElem?_getD,hc] at this
     exact this
    let A':aN:=fun c o=>A c o∨(c=b2∧o<ck.length)
    have hmono:∀{x:AV} {v:Value},RV w A x v→RV w A' x v:=fun hx=>hx.mono fun c o v ha hv=>⟨hv,.inl ha⟩
    have SG:RV w A' (.slice sz (chunk sz ck len) 0) (vs.getD off undef)∧aek sp (.slice sz (chunk sz ck len) 0) (vs.getD off undef):=by
     generalize vs.getD off undef=v0 at hcell
     cases hcell with
     |aV _ _ _ _ _ hlc=>
      refine⟨?_,.inl rfl⟩
      have:=RV.slice (w:=w) (A:=A') sz (chunk sz ck len) 0 b2 0 cap (fun i=>j4.getD i undef) (fun x hx=>(pO sz len ck h1 h2 x hx).1) (fun x hx=>(pO sz len ck h1 h2 x hx).2) (by rw[ae2];exact hlc) (by rw[ae2];exact h3) (fun i hi=> ?_) (fun i=> ?_)
      ·rw[ae2] at this;exact this
      ·rw[ae2] at hi
       refine⟨?_,.inr ⟨rfl,by omega⟩⟩
       rw[Nat.zero_add]
       simp[World.cell?,w8,Array.getD_eq_getD_getElem?,Array.getElem?_eq_getElem (show i<j4.size by omega)]
      ·rw[w7 sz len ck h1 h2,iV]
       by_cases hi:i<len*sz
       ·have e3:(ck.take (len*sz)).getD i .any=ck.getD i .any:=by simp only[List.getD_eq_getElem?_getD,List.getElem?_take,hi,if_true]
        rw[e3]
        exact(hmono (cD i).1).erase0
       ·have e3:(ck.take (len*sz)).getD i .any=.any:=by simp only[List.getD_eq_getElem?_getD,List.getElem?_take,hi,if_false,Option.getD_none]
        rw[e3]
        exact .any _
    have uv:∀r,(sp r).2.1<(sp r).2.2→(sp r).1≠b2:=fun r hr' e=>by
     have:=(h.rs.cg r hr').2
     rw[e,hb2] at this;cases this
    have SH:∀r,(sp r).2.1<(sp r).2.2→(sp r).1≠b:=fun r hr' e=>by
     have:=(h.rs.cg r hr').2
     rw[e,hb] at this;cases this
    have gy:∀i,(cs.set off (AV.slice sz (chunk sz ck len) 0)).getD i .any=if i=off then .slice sz (chunk sz ck len) 0 else cs.getD i .any:=fun i=>by
     simp only[List.getD_eq_getElem?_getD,List.getElem?_set]
     by_cases e:off=i
     ·subst e;simp[hlt]
     ·simp[e,Ne.symm e]
    have fj:∀c o,live (aD (aD s.loc b (some (cs.set off (AV.slice sz (chunk sz ck len) 0)))) b2 none) sp c o→live s.loc sp c o:=by
     rintro c o (hl|hl)
     ·by_cases e2:c=b2
      ·subst e2;simp[aD] at hl
      ·by_cases e1:c=b
       ·subst e1;exact .inl (by rw[hb];exact fun e=>by cases e)
       ·simp only[aD,if_neg e1,if_neg e2] at hl
        exact .inl hl
     ·exact .inr hl
    have cG:RS C.N ⟨s.env,aD (aD s.loc b (some (cs.set off (AV.slice sz (chunk sz ck len) 0)))) b2 none⟩ ⟨a.tmps,[]⟩ w A' sp:=by
     refine⟨h.rs.size,rfl,fun d=>⟨hmono (h.rs.env d).1,(h.rs.env d).2⟩,fun c cs' hc=> ?_,fun r hr'=>⟨(h.rs.cg r hr').1,?_⟩,h.rs.dO,fun c o ha=>⟨?_,fun hl=> ?_⟩⟩
     ·simp only at hc
      by_cases e2:c=b2
      ·subst e2;simp[aD] at hc
      ·rw[bE _ _ e2] at hc
       by_cases e1:c=b
       ·subst e1
        rw[dP] at hc
        injection hc with hc
        subst hc
        refine⟨vs,T,hh,by rw[List.length_set];exact hsz,fun i=> ?_⟩
        rw[gy i]
        by_cases ei:i=off
        ·subst ei
         rw[if_pos rfl]
         exact SG
        ·rw[if_neg ei];exact⟨hmono (hr i).1,(hr i).2⟩
       ·rw[bE _ _ e1] at hc
        obtain⟨vs',T',g1,g2,g3⟩:=h.rs.loc c cs' hc
        exact⟨vs',T',g1,g2,fun i=>⟨hmono (g3 i).1,(g3 i).2⟩⟩
     ·simp only
      rw[bE _ _ (uv r hr'),bE _ _ (SH r hr')]
      exact(h.rs.cg r hr').2
     ·rcases ha with ha|⟨rfl,_⟩
      ·exact(h.rs.av c o ha).1
      ·exact cy w8
     ·rcases ha with ha|⟨rfl,ho⟩
      ·exact(h.rs.av c o ha).2 (fj c o hl)
      ·rcases hl with hl|⟨r,q1,q2,q3⟩
       ·simp[aD] at hl
       ·exact uv r (by omega) q1
    have aS:Ev w A (live s.loc sp) w A' (live (aD (aD s.loc b (some (cs.set off (AV.slice sz (chunk sz ck len) 0)))) b2 none) sp):=by
     refine⟨rfl,rfl,rfl,Nat.le_refl _,fun c o _ hl=>⟨rfl,fun hh=>hl (fj c o hh)⟩,fun _ _ _=>rfl,fun _ _ ha=>.inl ha,fun c o ha=> ?_⟩
     rcases ha with ha|⟨rfl,_⟩
     ·exact .inl ha
     ·exact .inr (.inl (.inl (by rw[hb2];exact fun e=>by cases e)))
    obtain⟨g1,g2⟩:=h.own (a':=a) cG aS (fun q hq=>rfl) rfl
    exact⟨_,A',sp,hK,g1,g2⟩
  ·exact hv.elim
 ·exact hv.elim
theorem H6:∀(ks:List Nat) {s:St} {A:aN} {sp:Sp},(∀k∈ks,k<gS)→GS C Pt s a w A Lx sp→vcs P (ks.map .bG) K s→∃s' A' sp',K s'∧GS C Pt s' a w A' Lx sp'∧Ev w A (join (held s sp) Lx) w A' (join (held s' sp') Lx)
 |[],s,A,sp,_,h,hv=>⟨s,A,sp,hv,h,.refl _ _ _⟩
 |k::ks,s,A,sp,hk,h,hv=>by
  obtain⟨s1,A1,dW,g1,g2,g3⟩:=SF (hk k (List.mem_cons_self ..)) h hv
  obtain⟨s2,A2,f_,g4,g5,g6⟩:=H6 ks (fun q hq=>hk q (List.mem_cons_of_mem _ hq)) g2 g1
  exact⟨s2,A2,f_,g4,g5,g3.trans g6⟩
theorem Bt(ys:List MOp)(K:St→Prop):∀(xs:List MOp),vcs P (xs++ys) K=vcs P xs (vcs P ys K)
 |[]=>rfl
 |x::xs=>by
  funext s
  show vc1 P x s (vcs P (xs++ys) K)=vc1 P x s (vcs P xs (vcs P ys K))
  rw[Bt ys K xs]
end
def uw(aG:cn)(N id:Nat):List Nat:=(look aG.fz id []).filter (· <N)
theorem SI{aG:cn}{N id:Nat}(h:N≤gS):∀k∈uw aG N id,k<gS:=fun k hk=>by
 have:=(List.mem_filter.1 hk).2
 exact Nat.lt_of_lt_of_le (by simpa using this) h
end Go.aq
namespace Go.aq
open Go.RowKit
def iF(P:Program)(f:FuncId)(first cap:List AV)(xs:List (List AV)):Prop:=
 gI P f=true∧∀(X:AV→World→aN→aN→Prop) (l:Nat) (w:World) (A Lx:aN) (vs:Array Value),aho X→wK P X→wM P X→
  (∀b o,Lx b o→b<w.heap.size)→(∀b o,A b o→b<w.heap.size∧¬Lx b o)→
  vs.size=(first++[AV.func (.yield l) [] []]++cap).length→(∀i,RV w A ((first++[AV.func (.yield l) [] []]++cap).getD i .any) (vs.getD i undef))→
  X (.ghost l xs false) w A Lx→
  Calls P f vs w fun e w'=>∃v A' bw rest b,e=.returned v∧Ev w A Lx w' A' bw∧(∀b o,bw b o→b<w'.heap.size)∧(∀b o,A' b o→b<w'.heap.size∧¬bw b o)∧X (.ghost l rest b) w' A' bw∧(b=true∨rest=[])
section
variable {P:Program} {C:Ctx P} {Pt:List (Nat×Obj)} {s:St} {a:Act} {w:World} {A Lx:aN} {sp:Sp}
def full(s:St)(sp:Sp)(Lx:aN)(Pt:List (Nat×Obj)):aN:=join (join (held s sp) Lx) fun b _=>∃p∈Pt,b=p.1
theorem GS.afw(h:GS C Pt s a w A Lx sp){b o:Nat}(hl:full s sp Lx Pt b o):b<w.heap.size:=by
 rcases hl with (hl|hl)|⟨p,hp,rfl⟩
 ·exact h.afT hl
 ·exact h.lt b o hl
 ·exact cy (h.pt p hp).1
theorem GS.ae'(h:GS C Pt s a w A Lx sp){b o:Nat}(ha:A b o):b<w.heap.size∧¬full s sp Lx Pt b o:=by
 refine⟨(h.rs.av b o ha).1,?_⟩
 rintro((hl|hl)|⟨p,hp,rfl⟩)
 ·exact h.pW ha hl
 ·exact h.av b o ha hl
 ·exact(h.pt p hp).2.2.2.1 o ha
theorem GS.putObj(h:GS C Pt s a w A Lx sp){l:Nat}{ob pU:Obj}(hl:(l,ob)∈Pt){dH:List (Nat×Obj)}(hP:∀p∈dH,(p=(l,pU)∧pU.isCells=false)∨(p∈Pt∧p.1≠l))(hd:∀d∈a.defers,∃D,C.B≤D∧d=⟨.collected D,#[]⟩∧(D,.deferred (some []))∈dH)(hr:∀l,C.ro=some l→∃r,(l,.loop r)∈dH):GS C dH s a (w.putObj l pU) A Lx sp:=by
 obtain⟨h1,h2,h3,h4,h5⟩:=h.pt _ hl
 have hk:∀L:aN,(∀b o,L b o→held s sp b o∨Lx b o)→kM w (w.putObj l pU) A A L:=fun L hL=>kM.putObj h1 h2 (fun o ho=>by rcases hL l o ho with e|e;exact h.pV hl o e;exact h3 o e) (fun b o ha=>⟨(h.rs.av b o ha).1,fun hb=>by rcases hL b o hb with e|e;exact h.pW ha e;exact h.av b o ha e⟩)
 refine⟨h.rs.keep (hk (live s.loc sp) fun _ _ h=>.inl (.inl h)) fun _ _ h=>h,h.ig,fun b o hb=>by simpa using h.lt b o hb,h.ap,h.av,C.st _ _ _ _ _ _ h.x (hk Lx fun _ _ h=>.inr h),fun p hp=> ?_,fun b=> ?_,h.oa,by simpa using h.bs,h.dn,hd,hr⟩
 ·rcases hP p hp with ⟨rfl,hc⟩|⟨hp,hne⟩
  ·exact⟨World.putObj_heap_same (cy h1),hc,h3,h4,h5⟩
  ·obtain⟨g1,g2⟩:=h.pt p hp
   exact⟨(World.putObj_heap_other hne).trans g1,g2⟩
 ·have hk2:=hk (held s sp) fun _ _ h=>.inl h
  exact(h.ob b).mono (fun hx=>hk2.blk b 0 (.inr hx)) fun b o v ha hv=>⟨hk2.cell b o v ha hv,ha⟩
theorem GS.lay(h:GS C Pt s a w A Lx sp){ob:Obj}(hc:ob.isCells=false):GS C ((w.heap.size,ob)::Pt) s a (w.alloc ob) A Lx sp:=by
 have hk:∀L:aN,(∀b o,L b o→held s sp b o∨Lx b o)→kM w (w.alloc ob) A A L:=fun L hL=>kM.alloc ob (fun b o ha=>⟨(h.rs.av b o ha).1,fun hb=>by rcases hL b o hb with e|e;exact h.pW ha e;exact h.av b o ha e⟩) (fun b o hb=>by rcases hL b o hb with e|e;exact h.afT e;exact h.lt b o e)
 refine⟨h.rs.keep (hk (live s.loc sp) fun _ _ h=>.inl (.inl h)) fun _ _ h=>h,h.ig,fun b o hb=>by rw[ae8];have:=h.lt b o hb;omega,h.ap,h.av,C.st _ _ _ _ _ _ h.x (hk Lx fun _ _ h=>.inr h),fun p hp=> ?_,fun b=> ?_,h.oa,by rw[ae8];have:=h.bs;omega,h.dn,fun d hd=> ?_,fun l hl=> ?_⟩
 ·rcases List.mem_cons.1 hp with rfl|hp
  ·refine⟨qX _ _,hc,fun o hl=>absurd (h.lt _ _ hl) (Nat.lt_irrefl _),fun o ha=>absurd (h.rs.av _ _ ha).1 (Nat.lt_irrefl _),Classical.byContradiction fun hx=> ?_⟩
   exact absurd (h.afT (o:=0) (.inr hx)) (Nat.lt_irrefl _)
  ·obtain⟨g1,g2⟩:=h.pt p hp
   exact⟨(heap_alloc _ _ _ (cy g1)).trans g1,g2⟩
 ·have hk2:=hk (held s sp) fun _ _ h=>.inl h
  exact(h.ob b).mono (fun hx=>hk2.blk b 0 (.inr hx)) fun b o v ha hv=>⟨hk2.cell b o v ha hv,ha⟩
 ·obtain⟨D,d1,d2,d3⟩:=h.df d hd
  exact⟨D,d1,d2,List.mem_cons_of_mem _ d3⟩
 ·obtain⟨r,hr⟩:=h.ro l hl
  exact⟨r,List.mem_cons_of_mem _ hr⟩
theorem GS.tw(_:GS C Pt s a w A Lx sp)(ob:Obj)(L:aN)(_:∀b o,L b o→b<w.heap.size)(T:aN)(hT:∀b o,T b o→L b o∨b=w.heap.size):Ev w A L (w.alloc ob) A T:=⟨rfl,rfl,rfl,by rw[ae8];omega,fun b o hb hl=>⟨mU _ _ _ _ hb,fun ht=>by rcases hT b o ht with e|e;exact hl e;omega⟩,fun b hb _=>heap_alloc _ _ _ hb,fun _ _ ha=>ha,fun _ _ ha=>.inl ha⟩
def params(s:St):List Nat→List AV→St
 |p::ps,x::xs=>params (s.set p x.erase) ps xs
 |_,_=>s
theorem H7:∀(ps:List Nat) (xs:List AV) (s:St),(params s ps xs).loc=s.loc
 |[],_,_=>rfl
 |_::_,[],_=>rfl
 |p::ps,x::xs,s=>H7 ps xs (s.set p x.erase)
theorem xE(k:Nat)(hk:gS≤k):∀(ps:List Nat) (xs:List AV) (s:St),(∀p∈ps,p<gS)→(params s ps xs).env k=s.env k
 |[],_,_,_=>rfl
 |_::_,[],_,_=>rfl
 |p::ps,x::xs,s,h=>(xE k hk ps xs (s.set p x.erase) (fun q hq=>h q (List.mem_cons_of_mem _ hq))).trans (bE _ _ (by have:=h p (List.mem_cons_self ..);omega))
theorem RS.params{N:Nat}:∀(ps:List Nat) (xs:List AV) (vs:List Value) (s:St) (t:Array Value),RS N s ⟨t,[]⟩ w A sp→(∀p∈ps,p<N)→ps.length=xs.length→vs.length=xs.length→(∀i,RV w A (xs.getD i .any) (vs.getD i undef))→RS N (aq.params s ps xs) ⟨(ps.zip vs).foldl (fun t (p,v)=>t.setIfInBounds p v) t,[]⟩ w A sp
 |[],_,_,_,_,h,_,_,_,_=>h
 |p::ps,x::xs,v::vs,s,t,h,hp,h1,h2,hr=>by
  refine RS.params ps xs vs (s.set p x.erase) (t.setIfInBounds p v) ?_ (fun q hq=>hp q (List.mem_cons_of_mem _ hq)) (by simpa using h1) (by simpa using h2) (fun i=>by simpa using hr (i+1))
  exact h.put (hp p (List.mem_cons_self ..)) (by simpa using(hr 0).erase) .erase
 |_::_,[],_,_,_,_,_,h1,_,_=>by simp at h1
 |_::_,_::_,[],_,_,_,_,_,h2,_=>by simp at h2
theorem xF(ps:List Nat)(xs:List AV)(s:St)(sp:Sp)(h:∀p∈ps,p<gS):held (params s ps xs) sp=held s sp:=by
 unfold held
 have:aes (params s ps xs)=aes s:=by funext b o;simp only[aes];rw[xE _ (by simp only[gS,oS];omega) ps xs s h]
 rw[this,H7]
def back(s s2:St):St:=⟨fun k=>if gS≤k then s2.env k else (s.env k).erase,s2.loc⟩
theorem iG(s s2:St){k:Nat}(hk:gS≤k):(back s s2).env k=s2.env k:=by simp[back,hk]
theorem jA(s s2:St)(b:Nat):(back s s2).env (oS+b)=s2.env (oS+b):=iG s s2 (by simp only[gS,oS];omega)
theorem afm(s s2:St)(sp:Sp):held (back s s2) sp=held s2 sp:=by
 unfold held
 have:aes (back s s2)=aes s2:=by funext b o;simp only[aes,jA]
 rw[this];rfl
theorem ux(s s2:St):aes (back s s2)=aes s2:=by funext b o;simp only[aes,jA]
theorem xG(s s2 s3:St):back s (back s2 s3)=back s s3:=by
 simp only[back,St.mk.injEq,and_true]
 funext k
 split<;>simp_all
theorem RS.back{N:Nat}{s0 s1 s2:St}{t1 t2:Array Value}{w1 w2:World}{A1 A2:aN}{dW f_:Sp}(h1:RS N s1 ⟨t1,[]⟩ w1 A1 dW)(hs:s1=aq.back s0 s1)(h2:RS N s2 ⟨t2,[]⟩ w2 A2 f_)(hk:∀b o v,A1 b o→w1.cell? ⟨b,o,none⟩=some v→w2.cell? ⟨b,o,none⟩=some v∧A2 b o)(hg:∀k,gS≤k→isG (s2.env k)=true):RS N (aq.back s0 s2) ⟨t1,[]⟩ w2 A2 f_:=by
 refine⟨h1.size,rfl,fun d=> ?_,h2.loc,h2.cg,h2.dO,h2.av⟩
 have h3:=(h1.env d).1
 by_cases hd:gS≤d
 ·rw[iG _ _ hd]
  have hg:=hg d hd
  generalize s2.env d=x at hg
  cases x<;>first|(cases hg;done)|exact⟨.any _,trivial⟩|exact⟨.ghost _ _ _ _,trivial⟩
 ·rw[hs] at h3
  simp only[aq.back,hd,if_false] at h3⊢
  exact⟨h3.mono hk,.erase⟩
theorem RS.forget{N:Nat}{t:Array Value}(h:RS N s ⟨t,[]⟩ w A sp):RS N (aq.back s s) ⟨t,[]⟩ w A sp:=by
 refine⟨h.size,rfl,fun d=> ?_,h.loc,h.cg,h.dO,h.av⟩
 by_cases hd:gS≤d
 ·rw[iG _ _ hd];exact h.env d
 ·simp only[aq.back,hd,if_false];exact⟨(h.env d).1.erase,.erase⟩
end
end Go.aq
namespace Go.aq
open Go.RowKit
def St.del(s:St)(b:Nat):St:=⟨s.env,aD s.loc b none⟩
theorem SJ{p q:Nat}(h:mark p=mark q):p=q:=by
 simp only[mark,AV.lit.injEq,Value.agg.injEq,Array.mk.injEq,List.cons.injEq,Value.int.injEq] at h
 have:=h.1.2
 omega
section
variable {P:Program} {C:Ctx P} {Pt:List (Nat×Obj)} {s:St} {a:Act} {w:World} {A Lx:aN} {sp:Sp} {b:Nat} {cs:List AV}
theorem H8(s:St)(sp:Sp)(b:Nat)(cs:List AV):held (s.new b cs) sp=join (held s sp) (lU b):=by
 funext c o
 apply propext
 constructor
 ·rintro((hl|hl)|hl)
  ·by_cases e:c=b
   ·exact .inr e
   ·exact .inl (.inl (.inl (by simpa only[St.new,bE _ _ e] using hl)))
  ·exact .inl (.inl (.inr hl))
  ·exact .inl (.inr hl)
 ·rintro(((hl|hl)|hl)|hl)
  ·refine .inl (.inl ?_)
   by_cases e:c=b
   ·subst e;simp[St.new,aD]
   ·simpa only[St.new,bE _ _ e] using hl
  ·exact .inl (.inr hl)
  ·exact .inr hl
  ·have hl':c=b:=hl
   subst hl'
   exact .inl (.inl (by simp[St.new,aD]))
theorem H9(s:St)(sp:Sp)(b:Nat)(cs:List AV)(Lx:aN)(Pt:List (Nat×Obj)):full (s.new b cs) sp Lx Pt=join (full s sp Lx Pt) (lU b):=by
 unfold full
 rw[H8]
 funext c o
 apply propext
 constructor
 ·rintro(((h|h)|h)|h)
  ·exact .inl (.inl (.inl h))
  ·exact .inr h
  ·exact .inl (.inl (.inr h))
  ·exact .inl (.inr h)
 ·rintro(((h|h)|h)|h)
  ·exact .inl (.inl (.inl h))
  ·exact .inl (.inr h)
  ·exact .inr h
  ·exact .inl (.inl (.inr h))
theorem SK(sp:Sp)(Lx:aN)(Pt:List (Nat×Obj))(hb:s.loc b=some cs):full s sp Lx Pt=join (full (s.del b) sp Lx Pt) (lU b):=by
 have h1:=H9 (s.del b) sp b cs Lx Pt
 have e:(s.del b).new b cs=s:=by
  cases s with
  |mk env loc=>
   simp only[St.del,St.new,St.mk.injEq,true_and]
   funext c
   simp only[aD]
   split
   ·rename_i e;subst e;exact hb.symm
   ·rfl
 rw[e] at h1
 exact h1
theorem GS.ah6(h:GS C Pt s a w A Lx sp)(hcs:cs.map AV.erase0=cs)(um:qW w A b cs)(hA:∀o,¬A b o)(hf:∀o,¬full s sp Lx Pt b o):GS C Pt (s.new b cs) a w A Lx sp:=by
 have cG:RS C.N (s.new b cs) ⟨a.tmps,[]⟩ w A sp:=by
  refine⟨h.rs.size,h.rs.defers,h.rs.env,fun c cs' hc=> ?_,fun r hr=>⟨(h.rs.cg r hr).1,?_⟩,h.rs.dO,fun c o ha=>⟨(h.rs.av c o ha).1,?_⟩⟩
  ·by_cases e:c=b
   ·subst e
    simp only[St.new,dP] at hc
    injection hc with hc;subst hc
    obtain⟨vs,T,g1,g2,g3⟩:=um
    exact⟨vs,T,g1,g2,fun i=>⟨g3 i,.HC hcs i⟩⟩
   ·simp only[St.new,bE _ _ e] at hc
    exact h.rs.loc c cs' hc
  ·have hne:(sp r).1≠b:=fun e=>hf (sp r).2.1 (.inl (.inl (.inl (.inr ⟨r,e,Nat.le_refl _,hr⟩))))
   simp only[St.new,bE _ _ hne]
   exact(h.rs.cg r hr).2
  ·rintro(hl|hl)
   ·by_cases e:c=b
    ·subst e;exact hA o ha
    ·simp only[St.new,bE _ _ e] at hl
     exact(h.rs.av c o ha).2 (.inl hl)
   ·exact(h.rs.av c o ha).2 (.inr hl)
 refine⟨cG,h.ig,h.lt,fun c o o' hl hx=> ?_,h.av,h.x,h.pt,h.ob,h.oa,h.bs,h.dn,h.df,h.ro⟩
 rw[H8] at hl
 rcases hl with hl|hl
 ·exact h.ap c o o' hl hx
 ·have hl':c=b:=hl
  subst hl'
  exact hf o' (.inl (.inr hx))
theorem GS.SM(h:GS C Pt s a w A Lx sp)(b:Nat):GS C Pt (s.del b) a w A Lx sp:=by
 have fj:∀c o,live (s.del b).loc sp c o→live s.loc sp c o:=by
  rintro c o (hl|hl)
  ·refine .inl fun e=>hl ?_
   simp only[St.del,aD]
   split
   ·rfl
   ·exact e
  ·exact .inr hl
 have cG:RS C.N (s.del b) ⟨a.tmps,[]⟩ w A sp:=by
  refine⟨h.rs.size,h.rs.defers,h.rs.env,fun c cs' hc=> ?_,fun r hr=>⟨(h.rs.cg r hr).1,?_⟩,h.rs.dO,fun c o ha=>⟨(h.rs.av c o ha).1,fun hl=>(h.rs.av c o ha).2 (fj c o hl)⟩⟩
  ·simp only[St.del,aD] at hc
   split at hc
   ·cases hc
   ·exact h.rs.loc c cs' hc
  ·simp only[St.del,aD]
   split
   ·rfl
   ·exact(h.rs.cg r hr).2
 exact⟨cG,h.ig,h.lt,fun c o o' hl hx=>h.ap c o o' (hl.elim (fun hl=>.inl (fj c o hl)) .inr) hx,h.av,h.x,h.pt,h.ob,h.oa,h.bs,h.dn,h.df,h.ro⟩
theorem GS.SN(h:GS C Pt s a w A Lx sp)(hb:s.loc b=some cs):qW w A b cs∧(∀o,¬A b o)∧∀o,¬full (s.del b) sp Lx Pt b o:=by
 have fj:∀o,live s.loc sp b o:=fun o=>.inl (by rw[hb];exact fun e=>by cases e)
 obtain⟨vs,T,g1,g2,g3⟩:=h.rs.loc b cs hb
 refine⟨⟨vs,T,g1,g2,fun i=>(g3 i).1⟩,fun o ha=>(h.rs.av b o ha).2 (fj o),?_⟩
 rintro o (((hl|hl)|hl)|⟨p,hp,e⟩)
 ·rcases hl with hl|⟨r,h1,h2,h3⟩
  ·exact hl (by simp[St.del,aD])
  ·have:=(h.rs.cg r (by omega)).2
   rw[h1,hb] at this;cases this
 ·obtain⟨ob,q1,q2⟩:=h.uj (b:=b) (o:=o) hl
  exact h.rs.rA q1 q2 0 (fj 0)
 ·exact h.ap b o o (.inl (fj o)) hl
 ·exact h.pV hp 0 (e▸.inl (fj 0))
end
end Go.aq
