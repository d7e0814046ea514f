/- Regions in the text's order. Operations whose order does not matter: those that hand back one value. Operations whose order does not matter: against those that make or write. A region that draws its order. A region that draws its order: the game over all orders, and its rule. A region that draws its order: its rule. What an operation leaves alone: the ghost. Operations inside a round, and beside deferred marks. Two parties over one world: what an outer party holds lasts while the inner one works. Operations on objects that are no cells: iterators over strings, maps. Maps whose keys are integers, or structs of integers. Regions inside the fence, with yields. A mutable slice that is written no more. A loop over an iterator: its record, its rounds; an iterator's contract. A block that is lent to a party for a round. -/
import Derived.Test.YtpeikknjbnnnnaaGreatZA
import Derived.Orders
import Derived.RangeFuncNested
import Derived.OrdersIn
import Derived.TacticsIn
import Derived.Laws.RangeAny
import Derived.ChangeKeysEq
import Derived.Laws.IdiomRangeMap
namespace Go.az
open Go.RowKit
section
variable {P:Program} {N:Nat} {s:St} {a:Act} {w:World} {A:aJ} {sp:Sp} {K:St→Prop} {next:Act→World→Prop} {Q:Exit→Act→World→Prop} {o:Oper} {d:Nat}
theorem DB{aE:cv}{m:Yr}(hm:qw P aE N o=some m)(h:RS N s a w A sp)(hv:Yp P m s K)(hn:Next s w A sp N K next):o.wp P a w next Q:=by
 unfold qw at hm
 split at hm
 ·rename_i d hd
  split at hm
  ·exact MT rfl hd ‹_› hm h hv hn
  ·cases hm
 ·rename_i hd
  split at hm
  ·rename_i t x hop
   split at hm
   ·split at hm
    ·rename_i hc
     injection hm with hm;subst hm
     exact LW hop hd rfl hc.1 hc.2 h hv hn
    ·cases hm
   ·cases hm
  ·rename_i t x y hne hop
   split at hm
   ·split at hm
    ·rename_i k n y' hz hy hn0
     split at hm
     ·injection hm with hm;subst hm
      exact LX hop hd hy hz hn0 h hv hn
     ·injection hm with hm;subst hm
      exact abl hop hd rfl hy hz hn0 h hv hn
    ·cases hm
   ·cases hm
  ·cases hm
theorem x9{w:World}{A:aJ}:RV w A (.tuple []) undef:=.tuple [] #[] rfl (fun i=>by simp;exact .any _)
theorem su(a:Act)(v:Value):a.put none v=a:=rfl
theorem n3{aE:cv}{ops:Array Oper}{m:Yr}{rest:Act→World→Prop}(hm:nU P aE N ops o=some m)(h:RS N s a w A sp)(hv:Yp P m s K)(hn:Next s w A sp N K rest):(if Region.wanted o (yielded ops a.tmps)=true then o.wp P a w rest Q∨(o.asks P a w∧LetsOut Q) else rest (a.put o.dst undef) w):=by
 unfold nU at hm
 split at hm
 ·rename_i hg
  have hw:Region.wanted o (yielded ops a.tmps)=true:=by simp[Region.wanted,hg]
  rw[if_pos hw]
  exact .inl (DB hm h hv hn)
 ·rename_i j want hg
  split at hm
  ·rename_i g m' hj hm'
   split at hm
   ·rename_i sv
    injection hm with hm;subst hm
    simp only[Yp] at hv
    split at hv
    ·rename_i b hb
     have he:=(h.env g).1
     rw[hb] at he
     have kO:=he.lH
     have gj:yielded ops a.tmps j=some b:=by
      unfold yielded
      rw[hj]
      have:a.tmps[g]? =some (.bool b):=by
       have hlt:g<a.tmps.size:=by rw[h.size];exact sv
       rw[Array.getD_eq_getD_getElem?,Array.getElem?_eq_getElem hlt] at kO
       rw[Array.getElem?_eq_getElem hlt]
       simpa using kO
      simp[this]
     have hw:Region.wanted o (yielded ops a.tmps)=(b==want):=by simp[Region.wanted,hg,gj]
     by_cases oV:b=want
     ·rw[hw,if_pos (by simpa using oV)]
      exact .inl (DB hm' h (hv.1 oV) hn)
     ·rw[hw,if_neg (by simpa using oV)]
      have hk:=hv.2 (by cases b<;>cases want<;>simp_all)
      cases hd:o.dst with
      |none=>
       rw[hd] at hk
       rw[su]
       exact hn _ _ _ _ _ hk h (.refl _ _ _)
      |some d=>
       rw[hd] at hk
       have oW:d<N:=by
        unfold qw at hm'
        rw[hd] at hm'
        simp only[] at hm'
        split at hm'
        ·assumption
        ·cases hm'
       exact hn _ _ _ _ _ hk (h.put oW x9 trivial) (.refl _ _ _)
    ·rename_i hb
     have he:=(h.env g).1
     rw[hb] at he
     have kO:a.tmps.getD g undef=.tuple #[]:=by
      generalize a.tmps.getD g undef=v at he
      cases he with
      |tuple _ vs hs hr=>
       have aT:vs= #[]:=Array.eq_empty_of_size_eq_zero (by simpa using hs)
       rw[aT]
     have gj:yielded ops a.tmps j=none:=by
      unfold yielded
      rw[hj]
      have:a.tmps[g]? =some (.tuple #[]):=by
       have hlt:g<a.tmps.size:=by rw[h.size];exact sv
       rw[Array.getD_eq_getD_getElem?,Array.getElem?_eq_getElem hlt] at kO
       rw[Array.getElem?_eq_getElem hlt]
       simpa using kO
      simp[this]
     have hw:Region.wanted o (yielded ops a.tmps)=false:=by simp[Region.wanted,hg,gj]
     rw[if_neg (by rw[hw];simp)]
     cases hd:o.dst with
     |none=>
      rw[hd] at hv
      rw[su]
      exact hn _ _ _ _ _ hv h (.refl _ _ _)
     |some d=>
      rw[hd] at hv
      have oW:d<N:=by
       unfold qw at hm'
       rw[hd] at hm'
       simp only[] at hm'
       split at hm'
       ·assumption
       ·cases hm'
      exact hn _ _ _ _ _ hv (h.put oW x9 trivial) (.refl _ _ _)
    ·exact hv.elim
   ·cases hm
  ·cases hm
end
end Go.az
namespace Go.az
abbrev Loc:=Nat→Option (List AV)
def Zt(e:ai→AV)(cs:List AV):List (Nat×Nat×ai)→(List AV→Prop)→Prop
 |[],K=>K cs
 |(off,n,x)::ps,K=>(e x).cells.length=n∧off+n≤cs.length∧Zt e (splice cs off ((e x).cells.map AV.erase0)) ps K
theorem DC(e:Nat→AV):∀(ps:List (Nat×Nat×ai)) (cs:List AV) (K:List AV→Prop),lF e cs ps K=Zt (fun x=>x.ev e) cs ps K
 |[],_,_=>rfl
 |(off,n,x)::ps,cs,K=>by simp only[lF,Zt,DC e ps]
theorem uY(e:ai→AV):∀(ps:List (Nat×Nat×ai)) (cs:List AV) (K K':List AV→Prop),(∀v,K v→K' v)→Zt e cs ps K→Zt e cs ps K'
 |[],_,_,_,h,hv=>h _ hv
 |_::ps,_,K,K',h,hv=>⟨hv.1,hv.2.1,uY e ps _ K K' h hv.2.2⟩
theorem DD(e:ai→AV):∀(ps:List (Nat×Nat×ai)) (cs:List AV) (K:List AV→Prop),Zt e cs ps K→∃v,Zt e cs ps (· =v)∧K v
 |[],cs,K,hv=>⟨cs,rfl,hv⟩
 |(off,n,x)::ps,cs,K,hv=>by
  obtain⟨v,h1,h2⟩:=DD e ps _ K hv.2.2
  exact⟨v,⟨hv.1,hv.2.1,h1⟩,h2⟩
theorem x_(e e':ai→AV):∀(ps:List (Nat×Nat×ai)) (cs:List AV) (K:List AV→Prop),(∀x∈ps.map (·.2.2),(e x).cells.length=(e' x).cells.length∧(e x).cells.map AV.erase0=(e' x).cells.map AV.erase0)→Zt e cs ps K=Zt e' cs ps K
 |[],_,_,_=>rfl
 |(off,n,x)::ps,cs,K,h=>by
  obtain⟨h1,h2⟩:=h x (by simp)
  simp only[Zt,h1,h2,x_ e e' ps _ K (fun y hy=>h y (by simp at hy⊢;exact .inr hy))]
def pv(P:Program)(e:ai→AV)(l:Loc):Yr→(AV→Prop)→Prop
 |.aa _ x,K=>K (e x)
 |.eW _ x,K=>K (e x).erase
 |.nK _ x,K=>match e x with
  |.lit (.string t)=>K (.lit (.string t))
  |_=>False
 |.bB _ x n,K=>(e x).cells.length=n∧K (.ref ((e x).cells.map AV.erase0))
 |.load _ x n,K=>dr l (e x) n K
 |.addr _ x off,K=>match e x with
  |.ref cs=>K (.ref (cs.drop off))
  |.Yq b o=>K (.Yq b (o+off))
  |_=>False
 |.aU _ x i sz,K=>match e x,e i with
  |.slice sz' xs _,.lit (.int _ n)=>sz'=sz∧0≤n∧n<xs.length∧K (.ref (xs.getD n.toNat .any).cells)
  |.aP b off len _ sz',.lit (.int _ n)=>sz'=sz∧0≤n∧n<len∧K (.Yq b (off+n.toNat*sz))
  |_,_=>False
 |.bV _ x i len sz,K=>match e x,e i with
  |.ref cs,.lit (.int _ n)=>0≤n∧n<len∧K (.ref (cs.drop (n.toNat*sz)))
  |.Yq b off,.lit (.int _ n)=>0≤n∧n<len∧K (.Yq b (off+n.toNat*sz))
  |_,_=>False
 |.Zo _ x n,K=>match e x with
  |.ref cs=>cC cs 0 n fun v=>K v.erase
  |_=>False
 |.kH _ x off n,K=>match e x with
  |.agg cs=>cC cs off n fun v=>K v.erase
  |_=>False
 |.kI _ x i len sz n,K=>match e x,e i with
  |.agg cs,.lit (.int _ j)=>0≤j∧j<len∧cC cs (j.toNat*sz) n fun v=>K v.erase
  |_,_=>False
 |.jU _ x i,K=>match e x,e i with
  |.lit (.string t),.lit (.int _ j)=>0≤j∧j<t.size∧K (.lit (.int .u8 (t.data.toList.getD j.toNat 0).toNat))
  |_,_=>False
 |.len _ x,K=>match e x with
  |.slice _ xs _=>K (.lit (.int .i64 xs.length))
  |.aP _ _ len _ _=>K (.lit (.int .i64 len))
  |.lit (.slice none 0 0)=>K (.lit (.int .i64 0))
  |_=>False
 |.jV _ x,K=>match e x with
  |.lit (.string t)=>K (.lit (.int .i64 t.size))
  |_=>False
 |.mF _ n,K=>K (.lit (.int .i64 n))
 |.bin _ op x y,K=>cZ op (e x) (e y) K
 |.lE _ neg x y,K=>match e x,e y with
  |.lit (.bool a),.lit (.bool b)=>K (.lit (.bool (if neg then !(a==b) else a==b)))
  |_,_=>False
 |.build _ z ps,K=>Zt e z ps fun cs=>K (.agg cs)
 |.fP _ neg n x y,K=>match e x,e y with
  |.agg a,.agg b=>a.length=n.length∧b.length=n.length∧∃q,fR n a b=some q∧K (.lit (.bool (if neg then !q else q)))
  |_,_=>False
 |.not _ x,K=>match e x with
  |.lit (.bool a)=>K (.lit (.bool (!a)))
  |_=>False
 |.neg _ x,K=>match e x with
  |.lit (.int k a)=>gX k (0 - a)∧K (.lit (.int k (0 - a)))
  |_=>False
 |.conv _ k x,K=>match e x with
  |.lit (.int _ a)=>K (.lit (.int k (k.wrap a)))
  |_=>False
 |.pick _ c x y,K=>match e c with
  |.lit (.bool b)=>K (if b then e x else e y)
  |_=>False
 |.ext _ x i,K=>match e x with
  |.tuple vs=>i<vs.length∧K (vs.getD i .any).erase
  |_=>False
 |.fQ _ x y,K=>match e x,e y with
  |.lit (.int k a),.lit (.int _ b)=>K (.lit (.int k (if b>a then b else a)))
  |_,_=>False
 |.h_ _ x y,K=>match e x,e y with
  |.lit (.int k a),.lit (.int _ b)=>K (.lit (.int k (if b<a then b else a)))
  |_,_=>False
 |.call _ f xs,K=>∃r,aA P f (xs.map fun x=>(e x).erase) r∧K r.erase
 |.eV _ x xs,K=>match e x with
  |.func (.func f) first cap=>∃r,aA P f (first++(xs.map fun x=>(e x).erase)++cap) r∧K r.erase
  |_=>False
 |.bO _ x,K=>match e x with
  |.ref cs=>K (.ref cs)
  |.Yq b o=>K (.Yq b o)
  |_=>False
 |.iM _ x hi sz,K=>match e x,e hi with
  |.slice sz' xs _,.lit (.int _ n)=>(sz'=sz∨xs=[])∧0≤n∧n≤xs.length∧K (.slice sz (xs.take n.toNat) 0)
  |_,_=>False
 |.nM _ x lo sz,K=>match e x,e lo with
  |.slice sz' xs _,.lit (.int _ n)=>(sz'=sz∨xs=[])∧0≤n∧n≤xs.length∧K (.slice sz (xs.drop n.toNat) 0)
  |_,_=>False
 |.guard g want (some _) m,K=>match e (.t g) with
  |.lit (.bool b)=>(b=want→pv P e l m K)∧(b=(!want)→K (.tuple []))
  |.tuple []=>K (.tuple [])
  |_=>False
 |_,_=>False
def uZ:ai→Bool
 |.t _=>true
 |.c (.slice _ _ r)=>r==0
 |.c _=>true
def YN:Yr→Option (Nat×List ai)
 |.aa d x|.eW d x|.nK d x|.bB d x _|.load d x _|.Zo d x _|.addr d x _|.kH d x _ _|.len d x|.jV d x|.not d x|.neg d x|.conv d _ x|.ext d x _|.bO d x=>some (d,[x])
 |.aU d x y _|.bV d x y _ _|.kI d x y _ _ _|.jU d x y|.bin d _ x y|.lE d _ x y|.fQ d x y|.h_ d x y|.iM d x y _|.nM d x y _|.fP d _ _ x y=>some (d,[x,y])
 |.build d _ ps=>some (d,ps.map (·.2.2))
 |.mF d _=>some (d,[])
 |.pick d c x y=>some (d,[c,x,y])
 |.call d _ xs=>some (d,xs)
 |.eV d x xs=>some (d,x::xs)
 |.guard g _ (some d) m=>match YN m with
  |some (d',xs)=>if d'=d then some (d,.t g::xs) else none
  |none=>none
 |_=>none
theorem ep(P:Program):∀(m:Yr) (d:Nat) (rd:List ai),YN m=some (d,rd)→∀(s:St) (K:St→Prop),Yp P m s K=pv P (fun x=>x.ev s.env) s.loc m (fun v=>K (s.set d v)):=by
 intro m
 induction m with
 |guard g want d m ih=>
  intro d' rd h s K
  cases d with
  |none=>cases h
  |some d=>
   simp only[YN] at h
   split at h
   ·rename_i d2 xs hm
    split at h
    ·rename_i e
     subst e
     injection h with h;injection h with h1 h2;subst h1
     have hg:ai.ev s.env (.t g)=s.env g:=rfl
     simp only[Yp,pv,hg]
     cases s.env g<;>first|rfl|skip
     ·rename_i v
      cases v<;>first|rfl|skip
      simp only[ih d2 xs hm s K]
     ·rename_i vs
      cases vs<;>rfl
    ·cases h
   ·cases h
 |build d z ps=>intro d' rd h s K;injection h with h;injection h with h1 h2;subst h1;exact DC _ _ _ _
 |_=>intro d rd h s K;first|(cases h;done)|(injection h with h;injection h with h1 h2;subst h1;first|rfl|(simp only[Yp,pv];rfl))
theorem mT{cs:List AV}{off:Nat}{n:Option Nat}{K K':AV→Prop}(h:∀v,K v→K' v)(hv:cC cs off n K):cC cs off n K':=by cases n<;>exact⟨hv.1,h _ hv.2⟩
theorem sw{cs:List AV}{off:Nat}{n:Option Nat}{K:AV→Prop}(hv:cC cs off n K):∃v,cC cs off n (· =v)∧K v:=by cases n<;>exact⟨_,⟨hv.1,rfl⟩,hv.2⟩
theorem MU{l:Loc}{x:AV}{n:Option Nat}{K K':AV→Prop}(h:∀v,K v→K' v)(hv:dr l x n K):dr l x n K':=by
 cases x with
 |ref cs=>exact mT (fun v=>h _) hv
 |Yq b off=>
  simp only[dr] at hv⊢
  cases hl:l b with
  |none=>rw[hl] at hv;exact hv.elim
  |some cs=>rw[hl] at hv;exact mT h hv
 |_=>exact hv.elim
theorem MV{l:Loc}{x:AV}{n:Option Nat}{K:AV→Prop}(hv:dr l x n K):∃v,dr l x n (· =v)∧K v:=by
 cases x with
 |ref cs=>
  obtain⟨v,h1,h2⟩:=sw (K:=fun v=>K v.erase) hv
  exact⟨_,show cC cs 0 n (fun u=>u.erase=v.erase) from mT (fun u e=>by rw[e]) h1,h2⟩
 |Yq b off=>
  simp only[dr] at hv⊢
  cases hl:l b with
  |none=>rw[hl] at hv;exact hv.elim
  |some cs=>rw[hl] at hv;exact sw hv
 |_=>exact hv.elim
theorem ya{op:BinOp}{x y:AV}{K:AV→Prop}(hv:cZ op x y K):∃v,cZ op x y (· =v)∧K v:=by
 unfold cZ at*
 split at hv
 ·split at hv
  ·exact⟨_,⟨hv.1,rfl⟩,hv.2⟩
  ·exact⟨_,⟨hv.1,rfl⟩,hv.2⟩
  ·obtain⟨hk,hv⟩:=hv
   rename_i n1 n2
   cases op<;>simp only[eX] at hv⊢ <;>first
    |exact hv.elim
    |exact⟨_,⟨hk,hv.1,hv.2.1,rfl⟩,hv.2.2⟩
    |exact⟨_,⟨hk,hv.1,rfl⟩,hv.2⟩
    |exact⟨_,⟨hk,rfl⟩,hv⟩
    |exact(n1 rfl).elim
    |exact(n2 rfl).elim
 ·cases op<;>simp only[nQ] at hv⊢ <;>first
   |exact hv.elim
   |exact⟨_,rfl,hv⟩
 ·exact hv.elim
theorem MW{op:BinOp}{x y:AV}{K K':AV→Prop}(h:∀v,K v→K' v)(hv:cZ op x y K):cZ op x y K':=by
 unfold cZ at*
 split at hv
 ·split at hv
  ·exact⟨hv.1,h _ hv.2⟩
  ·exact⟨hv.1,h _ hv.2⟩
  ·refine⟨hv.1,?_⟩
   have hv:=hv.2
   rename_i n1 n2
   cases op<;>simp only[eX] at hv⊢ <;>first
    |exact hv.elim
    |exact⟨hv.1,hv.2.1,h _ hv.2.2⟩
    |exact⟨hv.1,h _ hv.2⟩
    |exact h _ hv
    |exact(n1 rfl).elim
    |exact(n2 rfl).elim
 ·cases op<;>simp only[nQ] at hv⊢ <;>first
   |exact hv.elim
   |exact h _ hv
 ·exact hv.elim
theorem ie(P:Program)(e:ai→AV)(l:Loc):∀(m:Yr) (K K':AV→Prop),(∀v,K v→K' v)→pv P e l m K→pv P e l m K':=by
 intro m
 induction m with
 |guard g want d m ih=>
  intro K K' h hv
  cases d with
  |none=>exact hv
  |some d=>
   simp only[pv] at hv⊢
   split at hv
   ·exact⟨fun hb=>ih K K' h (hv.1 hb),fun hb=>h _ (hv.2 hb)⟩
   ·exact h _ hv
   ·exact hv
 |load d x n=>intro K K' h hv;exact MU h hv
 |bin d op x y=>intro K K' h hv;exact MW h hv
 |call d f xs=>intro K K' h ⟨r,h1,h2⟩;exact⟨r,h1,h _ h2⟩
 |eV d x xs=>
  intro K K' h hv;simp only[pv] at hv⊢;split at hv
  ·obtain⟨r,h1,h2⟩:=hv;exact⟨r,h1,h _ h2⟩
  ·exact hv
 |build d z ps=>intro K K' h hv;exact uY e ps z _ _ (fun _=>h _) hv
 |fP d neg n x y=>
  intro K K' h hv;simp only[pv] at hv⊢;split at hv
  ·obtain⟨h1,h2,q,h3,h4⟩:=hv;exact⟨h1,h2,q,h3,h _ h4⟩
  ·exact hv
 |Zo d x n=>
  intro K K' h hv;simp only[pv] at hv⊢;split at hv
  ·exact mT (fun v=>h _) hv
  ·exact hv
 |kH d x off n=>
  intro K K' h hv;simp only[pv] at hv⊢;split at hv
  ·exact mT (fun v=>h _) hv
  ·exact hv
 |kI d x i len sz n=>
  intro K K' h hv;simp only[pv] at hv⊢;split at hv
  ·exact⟨hv.1,hv.2.1,mT (fun v=>h _) hv.2.2⟩
  ·exact hv
 |_=>
  intro K K' h hv
  simp only[pv] at hv⊢ <;>first
   |exact h _ hv
   |exact⟨hv.1,h _ hv.2⟩
   |(split at hv<;>first|exact hv|exact h _ hv|exact⟨hv.1,h _ hv.2⟩|exact⟨hv.1,hv.2.1,h _ hv.2.2⟩|exact⟨hv.1,hv.2.1,hv.2.2.1,h _ hv.2.2.2⟩)
   |exact hv
theorem mU(P:Program)(e:ai→AV)(l:Loc):∀(m:Yr) (K:AV→Prop),pv P e l m K→∃v,pv P e l m (· =v)∧K v:=by
 intro m
 induction m with
 |guard g want d m ih=>
  intro K hv
  cases d with
  |none=>exact hv.elim
  |some d=>
   simp only[pv] at hv⊢
   split at hv
   ·rename_i b hb
    by_cases h1:b=want
    ·obtain⟨v,h2,h3⟩:=ih K (hv.1 h1)
     exact⟨v,⟨fun _=>h2,fun h4=>absurd (h1.symm.trans h4) (by cases want<;>decide)⟩,h3⟩
    ·have h4:b= !want:=by revert h1;cases b<;>cases want<;>decide
     exact⟨.tuple [],⟨fun h5=>absurd h5 h1,fun _=>rfl⟩,hv.2 h4⟩
   ·exact⟨_,rfl,hv⟩
   ·exact hv.elim
 |load d x n=>intro K hv;exact MV hv
 |bin d op x y=>intro K hv;exact ya hv
 |call d f xs=>intro K ⟨r,h1,h2⟩;exact⟨_,⟨r,h1,rfl⟩,h2⟩
 |eV d x xs=>
  intro K hv;simp only[pv] at hv⊢;split at hv
  ·obtain⟨r,h1,h2⟩:=hv;exact⟨_,⟨r,h1,rfl⟩,h2⟩
  ·exact hv.elim
 |build d z ps=>
  intro K hv
  obtain⟨cs,h1,h2⟩:=DD e ps z _ hv
  exact⟨.agg cs,uY e ps z _ _ (fun _ h=>by rw[h]) h1,h2⟩
 |fP d neg n x y=>
  intro K hv;simp only[pv] at hv⊢;split at hv
  ·obtain⟨h1,h2,q,h3,h4⟩:=hv;exact⟨_,⟨h1,h2,q,h3,rfl⟩,h4⟩
  ·exact hv.elim
 |Zo d x n=>
  intro K hv;simp only[pv] at hv⊢;split at hv
  ·obtain⟨v,h1,h2⟩:=sw hv
   exact⟨_,mT (fun u e=>by rw[e]) h1,h2⟩
  ·exact hv.elim
 |kH d x off n=>
  intro K hv;simp only[pv] at hv⊢;split at hv
  ·obtain⟨v,h1,h2⟩:=sw hv
   exact⟨_,mT (fun u e=>by rw[e]) h1,h2⟩
  ·exact hv.elim
 |kI d x i len sz n=>
  intro K hv;simp only[pv] at hv⊢;split at hv
  ·obtain⟨v,h1,h2⟩:=sw hv.2.2
   exact⟨_,⟨hv.1,hv.2.1,mT (fun u e=>by rw[e]) h1⟩,h2⟩
  ·exact hv.elim
 |_=>
  intro K hv
  simp only[pv] at hv⊢ <;>first
   |exact⟨_,rfl,hv⟩
   |exact⟨_,⟨hv.1,rfl⟩,hv.2⟩
   |(split at hv<;>first|exact hv.elim|exact⟨_,rfl,hv⟩|exact⟨_,⟨hv.1,rfl⟩,hv.2⟩|exact⟨_,⟨hv.1,hv.2.1,rfl⟩,hv.2.2⟩|exact⟨_,⟨hv.1,hv.2.1,hv.2.2.1,rfl⟩,hv.2.2.2⟩)
   |exact hv.elim
theorem u0(P:Program)(e e':ai→AV)(l:Loc):∀(m:Yr) (d:Nat) (rd:List ai),YN m=some (d,rd)→(∀x∈rd,e x=e' x)→∀K,pv P e l m K=pv P e' l m K:=by
 intro m
 induction m with
 |guard g want d m ih=>
  intro d' rd h he K
  cases d with
  |none=>cases h
  |some d=>
   simp only[YN] at h
   split at h
   ·rename_i d2 xs hm
    split at h
    ·injection h with h;injection h with h1 h2;subst h2
     simp only[pv,he (.t g) (by simp),ih d2 xs hm (fun x hx=>he x (by simp[hx])) K]
    ·cases h
   ·cases h
 |build d z ps=>
  intro d' rd h he K
  injection h with h;injection h with h1 h2;subst h2
  exact x_ e e' ps z _ (fun x hx=>by rw[he x hx];exact⟨rfl,rfl⟩)
 |call d f xs=>
  intro d' rd h he K
  injection h with h;injection h with h1 h2;subst h2
  have:xs.map (fun x=>(e x).erase)=xs.map (fun x=>(e' x).erase):=List.map_congr_left fun x hx=>by rw[he x hx]
  simp only[pv,this]
 |eV d x xs=>
  intro d' rd h he K
  injection h with h;injection h with h1 h2;subst h2
  have:xs.map (fun x=>(e x).erase)=xs.map (fun x=>(e' x).erase):=List.map_congr_left fun y hy=>by rw[he y (List.mem_cons_of_mem _ hy)]
  simp only[pv,this,he x (List.mem_cons_self ..)]
 |_=>
  intro d' rd h he K
  first
   |(cases h;done)
   |(injection h with h;injection h with h1 h2;subst h2;simp only[pv,he _ (List.mem_cons_self ..),he _ (List.mem_cons_of_mem _ (List.mem_cons_self ..)),he _ (List.mem_cons_of_mem _ (List.mem_cons_of_mem _ (List.mem_cons_self ..)))];done)
   |(injection h with h;injection h with h1 h2;subst h2;simp only[pv,he _ (List.mem_cons_self ..),he _ (List.mem_cons_of_mem _ (List.mem_cons_self ..))];done)
   |(injection h with h;injection h with h1 h2;subst h2;simp only[pv,he _ (List.mem_cons_self ..)];done)
   |(injection h with h;injection h with h1 h2;subst h2;simp only[pv];done)
end Go.az
namespace Go.az
def Zq:Yr→List ai
 |.load _ x _=>[x]
 |.guard _ _ _ m=>Zq m
 |_=>[]
theorem DE(P:Program)(e:ai→AV)(l l':Loc):∀(m:Yr),(∀z∈Zq m,∀b o,e z=.Yq b o→l' b=l b)→∀K,pv P e l m K=pv P e l' m K:=by
 intro m
 induction m with
 |guard g want d m ih=>
  intro h K
  cases d with
  |none=>rfl
  |some d=>simp only[pv,ih h K]
 |load d x n=>
  intro h K
  have h:=h x (by simp[Zq])
  simp only[pv]
  unfold dr
  cases hx:e x with
  |Yq b o=>simp only[h b o hx]
  |_=>rfl
 |_=>intro h K;rfl
theorem DF(P:Program)(e:ai→AV)(l:Loc)(b:Nat)(cs:List AV)(hb:l b=none):∀(m:Yr) (K:AV→Prop),pv P e l m K→pv P e (aq l b (some cs)) m K:=by
 intro m
 induction m with
 |guard g want d m ih=>
  intro K hv
  cases d with
  |none=>exact hv
  |some d=>
   simp only[pv] at hv⊢
   split at hv
   ·exact⟨fun h=>ih K (hv.1 h),hv.2⟩
   ·exact hv
   ·exact hv
 |load d x n=>
  intro K hv
  simp only[pv] at hv⊢
  unfold dr at hv⊢
  cases hx:e x with
  |Yq b' o=>
   rw[hx] at hv
   simp only at hv⊢
   by_cases lN:b'=b
   ·subst lN;rw[hb] at hv;exact hv.elim
   ·rw[bM _ _ lN];exact hv
  |ref cs=>rw[hx] at hv;exact hv
  |_=>rw[hx] at hv;exact hv.elim
 |_=>intro K hv;exact hv
def aa1(r:Nat)(l:Loc):Loc:=fun b=>(l b).map (·.map (aG r))
theorem oX(r:Nat)(x:AV):aG r x.erase=x.erase:=by
 cases x<;>first|rfl|skip
 simp only[AV.erase,aG];split<;>rfl
theorem qF(r:Nat)(x:AV):(aG r x).erase=x.erase:=by
 cases x<;>first|rfl|skip
 simp only[aG];split<;>rfl
theorem MX(r:Nat)(x:AV):(aG r x).erase0=x.erase0:=by
 cases x<;>first|rfl|skip
 simp only[aG];split<;>rfl
theorem DG(r:Nat)(x:AV):(aG r x).cells.map AV.erase0=x.cells.map AV.erase0:=by
 cases x<;>first|rfl|skip
 simp only[aG];split<;>rfl
theorem sx(r:Nat)(x:AV):(aG r x).cells.length=x.cells.length:=by
 cases x<;>first|rfl|skip
 simp only[aG];split<;>rfl
theorem yc(r:Nat)(x:AV):(aG r x).cells.all AV.bH=x.cells.all AV.bH:=by
 cases x<;>first|rfl|skip
 simp only[aG];split<;>rfl
theorem u5(r sz:Nat)(xs:List AV)(q:Nat):∃q',aG r (.slice sz xs q)=.slice sz xs q'∧(q=0→q'=0):=by
 simp only[aG];split
 ·exact⟨0,rfl,fun _=>rfl⟩
 ·exact⟨q,rfl,id⟩
theorem sy(r sz:Nat)(xs:List AV):aG r (.slice sz xs 0)=.slice sz xs 0:=by simp only[aG];split<;>rfl
theorem u6{cs:List AV}{off:Nat}{n:Option Nat}{v:AV}(r:Nat)(hv:cC cs off n (fun u=>u.erase=v)):cC cs off n (fun u=>u.erase=aG r v):=by
 cases n with
 |none=>exact⟨hv.1,by rw[←hv.2,oX]⟩
 |some n=>exact⟨hv.1,by rw[←hv.2,oX]⟩
theorem MY(P:Program)(e e':ai→AV)(l:Loc)(r:Nat):∀(m:Yr) (d:Nat) (rd:List ai),YN m=some (d,rd)→(∀x∈rd,e' x=aG r (e x))→∀v,pv P e l m (· =v)→pv P e' (aa1 r l) m (· =aG r v):=by
 intro m
 induction m with
 |guard g want d m ih=>
  intro d' rd h he v hv
  cases d with
  |none=>exact hv
  |some d=>
   simp only[YN] at h
   split at h
   ·rename_i d2 xs hm
    split at h
    ·injection h with h;injection h with h1 h2;subst h2
     simp only[pv] at hv⊢
     rw[he (.t g) (by simp)]
     split at hv
     ·rename_i b hb
      rw[hb]
      exact⟨fun h=>ih d2 xs hm (fun x hx=>he x (by simp[hx])) v (hv.1 h),fun h=>by rw[←hv.2 h];rfl⟩
     ·rename_i hb
      rw[hb,←hv];rfl
     ·exact hv.elim
    ·cases h
   ·cases h
 |call d f xs=>
  intro d' rd h he v ⟨q,h1,h2⟩
  injection h with h;injection h with h3 h4;subst h4
  have:xs.map (fun x=>(e' x).erase)=xs.map (fun x=>(e x).erase):=List.map_congr_left fun x hx=>by rw[he x hx,qF]
  refine⟨q,by rw[this];exact h1,?_⟩
  rw[←h2,oX]
 |eV d x xs=>
  intro d' rd h he v hv
  injection h with h;injection h with h3 h4;subst h4
  have:xs.map (fun x=>(e' x).erase)=xs.map (fun x=>(e x).erase):=List.map_congr_left fun y hy=>by rw[he y (List.mem_cons_of_mem _ hy),qF]
  simp only[pv] at hv⊢
  rw[he x (List.mem_cons_self ..)]
  split at hv
  ·rename_i f first cap hx
   obtain⟨q,h1,h2⟩:=hv
   rw[hx]
   refine⟨q,by rw[this];exact h1,?_⟩
   rw[←h2,oX]
  ·exact hv.elim
 |build d z ps=>
  intro d' rd h he v hv
  injection h with h;injection h with h3 h4;subst h4
  have:=x_ e e' ps z (fun cs=>AV.agg cs=aG r v) (fun x hx=>by rw[he x hx,sx,DG];exact⟨rfl,rfl⟩)
  show Zt e' z ps _
  rw[←this]
  exact uY e ps z _ _ (fun cs h=>by rw[←h];rfl) hv
 |fP d neg n x y=>
  intro d' rd h he v hv;injection h with h;injection h with h3 h4;subst h4
  simp only[pv] at hv⊢
  rw[he x (by simp),he y (by simp)]
  split at hv
  ·rename_i a b e1 e2
   obtain⟨h1,h2,q,h5,h6⟩:=hv
   rw[e1,e2,←h6]
   exact⟨h1,h2,q,h5,rfl⟩
  ·exact hv.elim
 |load d x n=>
  intro d' rd h he v hv
  injection h with h;injection h with h3 h4;subst h4
  simp only[pv] at hv⊢
  rw[he x (by simp)]
  cases hx:e x with
  |ref cs=>rw[hx] at hv;exact u6 r hv
  |Yq b o=>
   rw[hx] at hv
   show dr (aa1 r l) (.Yq b o) n _
   simp only[dr,aa1] at hv⊢
   cases hl:l b with
   |none=>rw[hl] at hv;exact hv.elim
   |some cs=>
    rw[hl] at hv
    simp only[Option.map_some] at hv⊢
    cases n with
    |none=>
     refine⟨by simpa using hv.1,?_⟩
     rw[←hv.2]
     have:=hv.1
     simp only[List.getD_eq_getElem?_getD,List.getElem?_map,List.getElem?_eq_getElem this,Option.map_some,Option.getD_some]
    |some k=>
     refine⟨by simpa using hv.1,?_⟩
     rw[←hv.2,oX]
     simp only[AV.erase,←List.map_drop,←List.map_take,List.map_map]
     congr 1
     refine List.map_congr_left fun x _=> ?_
     exact MX r x
  |_=>rw[hx] at hv;exact hv.elim
 |aa d x=>intro d' rd h he v hv;injection h with h;injection h with h3 h4;subst h4;simp only[pv] at hv⊢;rw[he x (by simp),hv]
 |eW d x=>intro d' rd h he v hv;injection h with h;injection h with h3 h4;subst h4;simp only[pv] at hv⊢;rw[he x (by simp),qF,←hv,oX]
 |bB d x n=>intro d' rd h he v hv;injection h with h;injection h with h3 h4;subst h4;simp only[pv] at hv⊢;rw[he x (by simp),DG,sx,←hv.2];exact⟨hv.1,rfl⟩
 |pick d c x y=>
  intro d' rd h he v hv;injection h with h;injection h with h3 h4;subst h4
  simp only[pv] at hv⊢
  rw[he c (by simp),he x (by simp),he y (by simp)]
  split at hv
  ·rename_i b hb
   rw[hb,←hv]
   cases b<;>rfl
  ·exact hv.elim
 |ext d x i=>
  intro d' rd h he v hv;injection h with h;injection h with h3 h4;subst h4
  simp only[pv] at hv⊢
  rw[he x (by simp)]
  split at hv
  ·rename_i vs hb
   rw[hb,←hv.2,oX]
   exact⟨hv.1,rfl⟩
  ·exact hv.elim
 |aU d x i sz=>
  intro d' rd h he v hv;injection h with h;injection h with h3 h4;subst h4
  simp only[pv] at hv⊢
  rw[he x (by simp),he i (by simp)]
  split at hv
  ·rename_i sz' xs q k n e1 e2
   obtain⟨q',h5,_⟩:=u5 r sz' xs q
   rw[e1,e2,h5,←hv.2.2.2]
   exact⟨hv.1,hv.2.1,hv.2.2.1,rfl⟩
  ·rename_i b off len cap sz' k n e1 e2
   rw[e1,e2,←hv.2.2.2]
   exact⟨hv.1,hv.2.1,hv.2.2.1,rfl⟩
  ·exact hv.elim
 |len d x=>
  intro d' rd h he v hv;injection h with h;injection h with h3 h4;subst h4
  simp only[pv] at hv⊢
  rw[he x (by simp)]
  split at hv
  ·rename_i sz' xs q e1
   obtain⟨q',h5,_⟩:=u5 r sz' xs q
   rw[e1,h5,←hv];rfl
  ·rename_i e1
   rw[e1,←hv];rfl
  ·rename_i e1
   rw[e1,←hv];rfl
  ·exact hv.elim
 |iM d x i sz=>
  intro d' rd h he v hv;injection h with h;injection h with h3 h4;subst h4
  simp only[pv] at hv⊢
  rw[he x (by simp),he i (by simp)]
  split at hv
  ·rename_i sz' xs q k n e1 e2
   obtain⟨q',h5,_⟩:=u5 r sz' xs q
   rw[e1,e2,h5,←hv.2.2.2,sy]
   exact⟨hv.1,hv.2.1,hv.2.2.1,rfl⟩
  ·exact hv.elim
 |nM d x i sz=>
  intro d' rd h he v hv;injection h with h;injection h with h3 h4;subst h4
  simp only[pv] at hv⊢
  rw[he x (by simp),he i (by simp)]
  split at hv
  ·rename_i sz' xs q k n e1 e2
   obtain⟨q',h5,_⟩:=u5 r sz' xs q
   rw[e1,e2,h5,←hv.2.2.2,sy]
   exact⟨hv.1,hv.2.1,hv.2.2.1,rfl⟩
  ·exact hv.elim
 |Zo d x n=>
  intro d' rd h he v hv;injection h with h;injection h with h3 h4;subst h4
  simp only[pv] at hv⊢
  rw[he x (by simp)]
  split at hv
  ·rename_i cs e1;rw[e1];exact u6 r hv
  ·exact hv.elim
 |kH d x off n=>
  intro d' rd h he v hv;injection h with h;injection h with h3 h4;subst h4
  simp only[pv] at hv⊢
  rw[he x (by simp)]
  split at hv
  ·rename_i cs e1;rw[e1];exact u6 r hv
  ·exact hv.elim
 |kI d x i len sz n=>
  intro d' rd h he v hv;injection h with h;injection h with h3 h4;subst h4
  simp only[pv] at hv⊢
  rw[he x (by simp),he i (by simp)]
  split at hv
  ·rename_i cs k j e1 e2;rw[e1,e2];exact⟨hv.1,hv.2.1,u6 r hv.2.2⟩
  ·exact hv.elim
 |bin d op x y=>
  intro d' rd h he v hv;injection h with h;injection h with h3 h4;subst h4
  simp only[pv] at hv⊢
  rw[he x (by simp),he y (by simp)]
  obtain⟨u,h5,h6⟩:=ya hv
  have h6:u=v:=h6
  subst h6
  have u7:∃val,u=.lit val:=by
   have:=ya hv
   unfold cZ at hv
   split at hv
   ·split at hv
    ·exact⟨_,hv.2.symm⟩
    ·exact⟨_,hv.2.symm⟩
    ·rename_i n1 n2
     have hv:=hv.2
     cases op<;>simp only[eX] at hv<;>first
      |exact hv.elim
      |exact⟨_,hv.2.2.symm⟩
      |exact⟨_,hv.2.symm⟩
      |exact⟨_,hv.symm⟩
      |exact(n1 rfl).elim
      |exact(n2 rfl).elim
   ·cases op<;>simp only[nQ] at hv<;>first
     |exact hv.elim
     |exact⟨_,hv.symm⟩
   ·exact hv.elim
  obtain⟨val,rfl⟩:=u7
  have hxy:cZ op (aG r (e x)) (aG r (e y))=cZ op (e x) (e y):=by
   unfold cZ at hv
   split at hv
   ·rename_i e1 e2;rw[e1,e2];rfl
   ·rename_i e1 e2;rw[e1,e2];rfl
   ·exact hv.elim
  rw[hxy]
  exact h5
 |addr d x off=>
  intro d' rd h he v hv;injection h with h;injection h with h3 h4;subst h4
  simp only[pv] at hv⊢
  rw[he x (by simp)]
  split at hv<;>first|exact hv.elim|(rename_i e1;rw[e1,←hv];rfl)
 |bV d x i len sz=>
  intro d' rd h he v hv;injection h with h;injection h with h3 h4;subst h4
  simp only[pv] at hv⊢
  rw[he x (by simp),he i (by simp)]
  split at hv<;>first|exact hv.elim|(rename_i e1 e2;rw[e1,e2,←hv.2.2];exact⟨hv.1,hv.2.1,rfl⟩)
 |jU d x i=>
  intro d' rd h he v hv;injection h with h;injection h with h3 h4;subst h4
  simp only[pv] at hv⊢
  rw[he x (by simp),he i (by simp)]
  split at hv<;>first|exact hv.elim|(rename_i e1 e2;rw[e1,e2,←hv.2.2];exact⟨hv.1,hv.2.1,rfl⟩)
 |mF d n=>intro d' rd h he v hv;simp only[pv] at hv⊢;rw[←hv];rfl
 |neg d x=>
  intro d' rd h he v hv;injection h with h;injection h with h3 h4;subst h4
  simp only[pv] at hv⊢
  rw[he x (by simp)]
  split at hv<;>first|exact hv.elim|(rename_i e1;rw[e1,←hv.2];exact⟨hv.1,rfl⟩)
 |nK d x|jV d x|not d x|conv d k x|bO d x=>
  intro d' rd h he v hv;injection h with h;injection h with h3 h4;subst h4
  simp only[pv] at hv⊢
  rw[he x (by simp)]
  split at hv<;>first|exact hv.elim|(rename_i e1;rw[e1,←hv];rfl)
 |lE d neg x y|fQ d x y|h_ d x y=>
  intro d' rd h he v hv;injection h with h;injection h with h3 h4;subst h4
  simp only[pv] at hv⊢
  rw[he x (by simp),he y (by simp)]
  split at hv<;>first|exact hv.elim|(rename_i e1 e2;rw[e1,e2,←hv];rfl)
 |_=>intro d' rd h;cases h
end Go.az
namespace Go.az
open Go.RowKit
def sA(k:Nat):ai→Bool
 |.t n=>n==k
 |_=>false
def bx(d:Nat)(xs:List ai):Bool:=xs.all fun x=> !sA d x
def ef(xs:List ai):Bool:=xs.all uZ
theorem bX{s:St}{d:Nat}{v:AV}{x:ai}(h:sA d x=false):x.ev (s.set d v).env=x.ev s.env:=by
 cases x with
 |t n=>simp[sA] at h;simp[ai.ev,St.set,aq,h]
 |c y=>rfl
theorem mV{s:St}{r:Nat}{x:ai}(h:uZ x=true):x.ev (s.aK r).env=aG r (x.ev s.env):=by
 cases x with
 |t n=>rfl
 |c y=>
  cases y<;>first|rfl|skip
  simp[uZ] at h
  subst h
  exact(sy r _ _).symm
theorem bY{d:Nat}{xs:List ai}(h:bx d xs=true){x:ai}(hx:x∈xs):sA d x=false:=by have:=(List.all_eq_true.1 h) x hx;simpa using this
theorem set_comm(s:St){d k:Nat}(x y:AV)(h:d≠k):(s.set d x).set k y=(s.set k y).set d x:=by simp only[St.set];rw[qi _ _ _ h]
theorem ij(s:St)(r d:Nat)(x:AV):(s.set d x).aK r=(s.aK r).set d (aG r x):=by
 simp only[St.set,St.aK]
 congr 1
 funext k
 simp only[aq];split<;>rfl
theorem u9(s:St)(b d:Nat)(cs:List AV)(x:AV):(s.set d x).new b cs=(s.new b cs).set d x:=rfl
theorem MZ:∀(y:Yr) (d:Nat) (rd:List ai),YN y=some (d,rd)→∀z∈Zq y,z∈rd:=by
 intro y
 induction y with
 |guard g want d m ih=>
  intro d' rd h z hz
  cases d with
  |none=>cases h
  |some d=>
   simp only[YN] at h
   split at h
   ·rename_i d2 xs hm
    split at h
    ·injection h with h;injection h with h1 h2;subst h2
     exact List.mem_cons_of_mem _ (ih d2 xs hm z hz)
    ·cases h
   ·cases h
 |load d x n=>intro d' rd h z hz;injection h with h;injection h with h1 h2;subst h2;simpa[Zq] using hz
 |_=>intro d' rd h z hz;simp[Zq] at hz
variable {P:Program}
theorem M0{y i:Yr}{dy di:Nat}{ry ri:List ai}(hy:YN y=some (dy,ry))(hi:YN i=some (di,ri))(hd:dy≠di)(h1:bx dy ri=true)(h2:bx di ry=true){s:St}{K:St→Prop}(h:Yp P y s (fun s1=>Yp P i s1 K)):Yp P i s (fun s1=>Yp P y s1 K):=by
 rw[ep P y dy ry hy] at h
 rw[ep P i di ri hi]
 obtain⟨v,hv,hk⟩:=mU P _ _ y _ h
 rw[ep P i di ri hi,u0 P (fun x=>x.ev (s.set dy v).env) (fun x=>x.ev s.env) _ i di ri hi (fun x hx=>bX (bY h1 hx))] at hk
 refine ie P _ _ i _ _ (fun u hu=> ?_) hk
 rw[ep P y dy ry hy,u0 P (fun x=>x.ev (s.set di u).env) (fun x=>x.ev s.env) _ y dy ry hy (fun x hx=>bX (bY h2 hx))]
 refine ie P _ _ y _ _ (fun w hw=> ?_) hv
 subst hw
 rw[set_comm s u w (Ne.symm hd)]
 exact hu
theorem qG{y:Yr}{dy:Nat}{ry:List ai}(hy:YN y=some (dy,ry))(hok:ef ry=true){s:St}{v:AV}(hv:pv P (fun x=>x.ev s.env) s.loc y (· =v))(r:Nat):pv P (fun x=>x.ev (s.aK r).env) (s.aK r).loc y (· =aG r v):=MY P _ _ s.loc r y dy ry hy (fun x hx=>mV ((List.all_eq_true.1 hok) x hx)) v hv
theorem mW{y:Yr}{dy:Nat}{ry:List ai}(hy:YN y=some (dy,ry)){d:Nat}(hf:bx d ry=true){s:St}{w:AV}{K:AV→Prop}(hv:pv P (fun x=>x.ev s.env) s.loc y K):pv P (fun x=>x.ev (s.set d w).env) (s.set d w).loc y K:=by
 rw[u0 P (fun x=>x.ev (s.set d w).env) (fun x=>x.ev s.env) _ y dy ry hy (fun x hx=>bX (bY hf hx))]
 exact hv
theorem M1{y:Yr}{dy di:Nat}{ry:List ai}{z:List AV}(hy:YN y=some (dy,ry))(hd:dy≠di)(h2:bx di ry=true){s:St}{K:St→Prop}(h:Yp P y s (fun s1=>Yp P (.alloc di z) s1 K)):Yp P (.alloc di z) s (fun s1=>Yp P y s1 K):=by
 rw[ep P y dy ry hy] at h
 obtain⟨v,hv,hk⟩:=mU P _ _ y _ h
 intro b hb
 rw[ep P y dy ry hy]
 have h3:=DF P _ _ b z hb y _ hv
 have h4:=mW (P:=P) hy (d:=di) h2 (s:=s.new b z) (w:=.Yq b 0) h3
 refine ie P _ _ y _ _ (fun w hw=> ?_) h4
 subst hw
 have:=hk b hb
 rw[u9,set_comm _ w _ hd] at this
 exact this
theorem M3{d1 d2:Nat}{z1 z2:List AV}(hd:d1≠d2){s:St}{K:St→Prop}(h:Yp P (.alloc d1 z1) s (fun s1=>Yp P (.alloc d2 z2) s1 K)):Yp P (.alloc d2 z2) s (fun s1=>Yp P (.alloc d1 z1) s1 K):=by
 intro b2 YL b1 dQ
 simp only[St.set,St.new] at dQ
 by_cases e:b1=b2
 ·subst e;simp[aq] at dQ
 ·rw[bM _ _ e] at dQ
  have:=h b1 dQ b2 (by simp only[St.set,St.new];rw[bM _ _ (Ne.symm e)];exact YL)
  have e2:(((s.new b2 z2).set d2 (.Yq b2 0)).new b1 z1).set d1 (.Yq b1 0)=(((s.new b1 z1).set d1 (.Yq b1 0)).new b2 z2).set d2 (.Yq b2 0):=by
   simp only[St.set,St.new]
   rw[qi _ _ _ hd,qi _ _ _ e]
  rw[e2];exact this
theorem iQ(e:Nat→AV)(sz:Nat):∀(ps:List (Nat×ai)) (xs:List AV) (K K':List AV→Prop),(∀v,K v→K' v)→gY e sz xs ps K→gY e sz xs ps K'
 |[],_,_,_,h,hv=>h _ hv
 |_::ps,_,K,K',h,hv=>⟨hv.1,hv.2.1,hv.2.2.1,iQ e sz ps _ K K' h hv.2.2.2⟩
theorem sB(e e':Nat→AV)(sz:Nat):∀(ps:List (Nat×ai)) (xs:List AV) (K:List AV→Prop),(∀x∈ps.map (·.2),(x.ev e).cells.length=(x.ev e').cells.length∧(x.ev e).cells.all AV.bH=(x.ev e').cells.all AV.bH∧(x.ev e).erase=(x.ev e').erase)→gY e sz xs ps K=gY e' sz xs ps K
 |[],_,_,_=>rfl
 |(i,x)::ps,xs,K,h=>by
  obtain⟨h1,h2,h3⟩:=h x (by simp)
  simp only[gY,h1,h2,h3,sB e e' sz ps _ K (fun y hy=>h y (by simp at hy⊢;exact .inr hy))]
theorem DH{y:Yr}{dy di n sz:Nat}{ry:List ai}{z:List AV}{ps:List (Nat×ai)}(hy:YN y=some (dy,ry))(hd:dy≠di)(h1:bx dy (ps.map (·.2))=true)(h2:bx di ry=true)(hok:ef ry=true){s:St}{K:St→Prop}(h:Yp P y s (fun s1=>Yp P (.aO di n sz z ps) s1 K)):Yp P (.aO di n sz z ps) s (fun s1=>Yp P y s1 K):=by
 rw[ep P y dy ry hy] at h
 obtain⟨v,hv,hk⟩:=mU P _ _ y _ h
 simp only[Yp] at hk⊢
 rw[sB (s.set dy v).env s.env sz ps _ _ (fun x hx=>by rw[bX (bY h1 hx)];exact⟨rfl,rfl,rfl⟩)] at hk
 refine iQ _ _ ps _ _ _ (fun xs hxs=> ?_) hk
 rw[ep P y dy ry hy]
 have h4:=mW (P:=P) hy (d:=di) h2 (s:=s.aK (di+1)) (w:=.slice sz xs (di+1)) (qG hy hok hv (di+1))
 refine ie P _ _ y _ _ (fun w hw=> ?_) h4
 subst hw
 rw[ij,set_comm _ _ _ hd] at hxs
 exact hxs
theorem M4{y:Yr}{dy di sz bytes:Nat}{ry:List ai}{x x':ai}(hy:YN y=some (dy,ry))(hd:dy≠di)(h1:bx dy [x,x']=true)(h2:bx di ry=true)(hok:ef ry=true){s:St}{K:St→Prop}(h:Yp P y s (fun s1=>Yp P (.app di x x' sz bytes) s1 K)):Yp P (.app di x x' sz bytes) s (fun s1=>Yp P y s1 K):=by
 rw[ep P y dy ry hy] at h
 obtain⟨v,hv,hk⟩:=mU P _ _ y _ h
 simp only[Yp] at hk⊢
 rw[bX (bY h1 (x:=x) (by simp)),bX (bY h1 (x:=x') (by simp))] at hk
 split at hk
 ·rename_i jX xs r qp ys r2 e1 e2
  obtain⟨g1,g2,g3,g4,g5,hk⟩:=hk
  refine⟨g1,g2,g3,g4,g5,?_⟩
  rw[ep P y dy ry hy]
  have h4:=mW (P:=P) hy (d:=di) h2 (s:=(s.aK r).aK (di+1)) (w:=.slice sz (xs++ys) (di+1)) (qG hy hok (qG hy hok hv r) (di+1))
  refine ie P _ _ y _ _ (fun w hw=> ?_) h4
  subst hw
  rw[ij,ij,set_comm _ _ _ hd] at hk
  exact hk
 ·exact hk.elim
theorem M5{y:Yr}{dy di sz:Nat}{ry:List ai}{x u m:ai}(hy:YN y=some (dy,ry))(hd:dy≠di)(h1:bx dy [x,u,m]=true)(h2:bx di ry=true)(hok:ef ry=true){s:St}{K:St→Prop}(h:Yp P y s (fun s1=>Yp P (.js di x u m sz) s1 K)):Yp P (.js di x u m sz) s (fun s1=>Yp P y s1 K):=by
 rw[ep P y dy ry hy] at h
 obtain⟨v,hv,hk⟩:=mU P _ _ y _ h
 simp only[Yp] at hk⊢
 rw[bX (bY h1 (x:=x) (by simp)),bX (bY h1 (x:=u) (by simp)),bX (bY h1 (x:=m) (by simp))] at hk
 split at hk
 ·rename_i jX xs r k i k' j e1 e2 e3
  obtain⟨g,hk⟩:=hk
  refine⟨g,?_⟩
  rw[ep P y dy ry hy]
  have h4:=mW (P:=P) hy (d:=di) h2 (s:=s.aK (di+1)) (w:=.slice sz (xs.take i.toNat) (di+1)) (qG hy hok hv (di+1))
  refine ie P _ _ y _ _ (fun w hw=> ?_) h4
  subst hw
  rw[ij,set_comm _ _ _ hd] at hk
  exact hk
 ·exact hk.elim
theorem M6{y:Yr}{dy n br:Nat}{ry zs:List ai}{x x':ai}(hy:YN y=some (dy,ry))(h1:bx dy (x::x'::zs)=true)(hok:ef ry=true)(hz:∀z∈Zq y,z∈zs){s:St}{K:St→Prop}(h:Yp P y s (fun s1=>Yp P (.apart zs x (.store x x' n br)) s1 K)):Yp P (.apart zs x (.store x x' n br)) s (fun s1=>Yp P y s1 K):=by
 rw[ep P y dy ry hy] at h
 obtain⟨v,hv,hk⟩:=mU P _ _ y _ h
 have e1:x.ev (s.set dy v).env=x.ev s.env:=bX (bY h1 (by simp))
 have e2:x'.ev (s.set dy v).env=x'.ev s.env:=bX (bY h1 (by simp))
 simp only[Yp] at hk⊢
 obtain⟨hap,hk⟩:=hk
 have yd:∀z∈zs,nR (z.ev s.env) (x.ev s.env):=by
  intro z er
  have:=hap z er
  rw[e1,bX (bY h1 (by simp[er]))] at this
  exact this
 refine⟨yd,?_⟩
 rw[e1,e2] at hk
 unfold ju at hk⊢
 generalize Xo:x.ev s.env=xe at hk yd⊢
 cases xe with
 |Yq b off=>
  simp only at hk⊢
  have jw:(s.set dy v).loc=s.loc:=rfl
  rw[jw] at hk
  cases hb:s.loc b with
  |none=>rw[hb] at hk;exact hk.elim
  |some cs=>
   rw[hb] at hk
   simp only at hk⊢
   obtain⟨g1,g2,g3,hk⟩:=hk
   refine⟨g1,g2,g3,?_⟩
   have after:∀(s2:St) (u:AV) (cs':List AV),pv P (fun x=>x.ev s2.env) s2.loc y (· =u)→(∀z∈Zq y,∀b' o,z.ev s2.env=.Yq b' o→b'≠b)→K ((s2.set dy u).new b cs')→Yp P y (s2.new b cs') K:=by
    intro s2 u cs' hu hne hK
    rw[ep P y dy ry hy]
    have:pv P (fun x=>x.ev (s2.new b cs').env) (s2.new b cs').loc y (· =u):=by
     show pv P (fun x=>x.ev s2.env) (s2.new b cs').loc y (· =u)
     rw[←DE P (fun x=>x.ev s2.env) s2.loc (s2.new b cs').loc y (fun z er b' o jz=>by simp only[St.new];rw[bM _ _ (hne z er b' o jz)])]
     exact hu
    refine ie P _ _ y _ _ (fun w hw=> ?_) this
    subst hw
    exact hK
   have ye:∀z∈Zq y,∀b' o,z.ev s.env=.Yq b' o→b'≠b:=by
    intro z er b' o jz
    have:=yd z (hz z er)
    rw[jz] at this
    exact this
   have M7:∀z∈Zq y,uZ z=true:=by
    intro z er
    have:z∈ry:=MZ y dy ry hy z er
    exact(List.all_eq_true.1 hok) z this
   have DI:∀(s2:St) (r:Nat),(∀z∈Zq y,∀b' o,z.ev s2.env=.Yq b' o→b'≠b)→∀z∈Zq y,∀b' o,z.ev (s2.aK r).env=.Yq b' o→b'≠b:=by
    intro s2 r hh z er b' o jz
    rw[mV (M7 z er)] at jz
    refine hh z er b' o ?_
    cases hq:z.ev s2.env<;>rw[hq] at jz<;>simp only[aG] at jz<;>first|exact jz|(cases jz;done)|(split at jz<;>cases jz)
   split at hk
   ·rename_i sz xs r he
    split at hk
    ·rename_i hro;rw[if_pos hro];exact after s v _ hv ye hk
    ·rename_i hro
     rw[if_neg hro]
     refine after _ (aG br (aG r v)) _ (qG hy hok (qG hy hok hv r) br) (DI _ _ (DI _ _ ye)) ?_
     rw[ij,ij] at hk
     exact hk
   ·exact after s v _ hv ye hk
 |_=>exact hk.elim
end Go.az
namespace Go.az
open Go.RowKit
variable {P:Program}
theorem sC(e:Nat→AV)(sz:Nat):∀(ps:List (Nat×ai)) (xs:List AV) (K:List AV→Prop),gY e sz xs ps K→∃v,gY e sz xs ps (· =v)∧K v
 |[],xs,_,hv=>⟨xs,rfl,hv⟩
 |_::ps,_,K,hv=>by
  obtain⟨v,h1,h2⟩:=sC e sz ps _ K hv.2.2.2
  exact⟨v,⟨hv.1,hv.2.1,hv.2.2.1,h1⟩,h2⟩
theorem DJ(a b:Nat)(x:AV):aG a (aG b x)=aG b (aG a x):=by
 cases x with
 |slice sz xs q=>
  by_cases h1:q=b
  ·subst h1
   by_cases h2:q=a
   ·subst h2;rfl
   ·have e1:aG q (.slice sz xs q)=.slice sz xs 0:=by simp[aG]
    have e2:aG a (.slice sz xs q)=.slice sz xs q:=by simp[aG,h2]
    rw[e1,e2,e1,sy]
  ·by_cases h2:q=a
   ·subst h2
    have e1:aG q (.slice sz xs q)=.slice sz xs 0:=by simp[aG]
    have e2:aG b (.slice sz xs q)=.slice sz xs q:=by simp[aG,h1]
    rw[e1,e2,e1,sy]
   ·have e1:aG a (.slice sz xs q)=.slice sz xs q:=by simp[aG,h2]
    have e2:aG b (.slice sz xs q)=.slice sz xs q:=by simp[aG,h1]
    rw[e1,e2,e1]
 |_=>rfl
theorem u_(s:St)(a b:Nat):(s.aK a).aK b=(s.aK b).aK a:=by
 simp only[St.aK,Option.map_map]
 congr 1
 ·funext k;exact DJ b a _
 ·funext c
  congr 1
  funext l
  simp only[Function.comp,List.map_map]
  refine List.map_congr_left fun x _=> ?_
  exact DJ b a x
theorem oY{r q sz:Nat}{xs:List AV}(h:q≠r):aG r (.slice sz xs q)=.slice sz xs q:=by simp[aG,h]
theorem M8{r sz q:Nat}{xs:List AV}{x:AV}(h:aG r x=.slice sz xs q)(hq:q≠0):x=.slice sz xs q∧q≠r:=by
 cases x<;>simp only[aG] at h<;>first|(cases h;done)|skip
 split at h
 ·injection h with h1 h2 h3;exact absurd h3.symm hq
 ·injection h with h1 h2 h3;subst h1 h2 h3;exact⟨rfl,‹_›⟩
theorem DK{r sz q:Nat}{xs:List AV}{x:AV}(h:aG r x=.slice sz xs q):∃q',x=.slice sz xs q':=by
 cases x<;>simp only[aG] at h<;>first|(cases h;done)|skip
 split at h<;>(injection h with h1 h2 h3;subst h1 h2;exact⟨_,rfl⟩)
theorem va{s s':St}{ps:List (Nat×ai)}(h:∀x∈ps.map (·.2),∃f:AV→AV,(∀y,(f y).cells.length=y.cells.length∧(f y).cells.all AV.bH=y.cells.all AV.bH∧(f y).erase=y.erase)∧x.ev s'.env=f (x.ev s.env))(sz:Nat)(xs:List AV)(K:List AV→Prop):gY s'.env sz xs ps K=gY s.env sz xs ps K:=sB _ _ _ _ _ _ fun x hx=>by obtain⟨f,hf,e⟩:=h x hx;rw[e];exact hf _
theorem yf(r:Nat)(y:AV):(aG r y).cells.length=y.cells.length∧(aG r y).cells.all AV.bH=y.cells.all AV.bH∧(aG r y).erase=y.erase:=⟨sx r y,yc r y,qF r y⟩
theorem M9{d1 n1 gL d2 cq sD:Nat}{z1:List AV}{p1:List (Nat×ai)}{x x':ai}(hd:d1≠d2)(h1:bx d1 [x,x']=true)(h2:bx d2 (p1.map (·.2))=true)(k1:ef (p1.map (·.2))=true)(k2:ef [x,x']=true){s:St}{K:St→Prop}(h:Yp P (.aO d1 n1 gL z1 p1) s (fun s1=>Yp P (.app d2 x x' cq sD) s1 K)):Yp P (.app d2 x x' cq sD) s (fun s1=>Yp P (.aO d1 n1 gL z1 p1) s1 K):=by
 simp only[Yp] at h⊢
 obtain⟨us,Z7,hk⟩:=sC _ _ _ _ _ h
 have ex:∀y∈[x,x'],y.ev ((s.aK (d1+1)).set d1 (.slice gL us (d1+1))).env=aG (d1+1) (y.ev s.env):=fun y hy=>by rw[bX (bY h1 hy),mV ((List.all_eq_true.1 k2) y hy)]
 rw[ex x (by simp),ex x' (by simp)] at hk
 split at hk
 ·rename_i jX xs r qp ys r2 e1 e2
  obtain⟨g1,g2,g3,g4,g5,hk⟩:=hk
  obtain⟨e3,hr⟩:=M8 e1 g1
  obtain⟨r3,e4⟩:=DK e2
  rw[e3,e4]
  refine⟨g1,g2,g3,g4,g5,?_⟩
  rw[va (s:=s) (s':=((s.aK r).aK (d2+1)).set d2 (.slice cq (xs++ys) (d2+1))) (fun y hy=>⟨fun v=>aG (d2+1) (aG r v),fun v=>⟨by rw[sx,sx],by rw[yc,yc],by rw[qF,qF]⟩,by rw[bX (bY h2 hy),mV ((List.all_eq_true.1 k1) y hy),mV ((List.all_eq_true.1 k1) y hy)]⟩)]
  refine iQ _ _ _ _ _ _ (fun v hv=> ?_) Z7
  subst hv
  have hq:d1+1≠d2+1:=by omega
  rw[ij,ij,oY (Ne.symm hr),oY hq,set_comm _ _ _ hd] at hk
  rw[ij,oY (Ne.symm hq)]
  rw[u_ (s.aK r) (d2+1) (d1+1),u_ s r (d1+1)]
  exact hk
 ·exact hk.elim
theorem M_{y:Yr}{dy di sz bytes:Nat}{ry:List ai}{n c:ai}{z:List AV}(hy:YN y=some (dy,ry))(hd:dy≠di)(h1:bx dy [n,c]=true)(h2:bx di ry=true){s:St}{K:St→Prop}(h:Yp P y s (fun s1=>Yp P (.eL di n c sz bytes z) s1 K)):Yp P (.eL di n c sz bytes z) s (fun s1=>Yp P y s1 K):=by
 rw[ep P y dy ry hy] at h
 obtain⟨v,hv,hk⟩:=mU P _ _ y _ h
 simp only[Yp] at hk⊢
 rw[bX (bY h1 (x:=n) (by simp)),bX (bY h1 (x:=c) (by simp))] at hk
 split at hk
 ·rename_i i j e1 e2
  obtain⟨g1,g2,g3,g4,g5,hk⟩:=hk
  refine⟨g1,g2,g3,g4,g5,fun b hb=> ?_⟩
  rw[ep P y dy ry hy]
  have h3:=DF P _ _ b (List.replicate j.toNat z).flatten hb y _ hv
  have h4:=mW (P:=P) hy (d:=di) h2 (s:=s.new b (List.replicate j.toNat z).flatten) (w:=.aP b 0 i.toNat j.toNat sz) h3
  refine ie P _ _ y _ _ (fun w hw=> ?_) h4
  subst hw
  have:=hk b hb
  rw[u9,set_comm _ w _ hd] at this
  exact this
 ·exact hk.elim
theorem DL{q:Nat}{v:AV}{l:Value}(h:aG q v=.lit l):v=.lit l:=by cases v<;>simp[aG] at h⊢ <;>first|exact h|(split at h<;>cases h)
theorem Na{d1 n1 gL d2 cq:Nat}{z1:List AV}{p1:List (Nat×ai)}{x u m:ai}(hd:d1≠d2)(h1:bx d1 [x,u,m]=true)(h2:bx d2 (p1.map (·.2))=true)(k1:ef (p1.map (·.2))=true)(k2:ef [x,u,m]=true){s:St}{K:St→Prop}(h:Yp P (.aO d1 n1 gL z1 p1) s (fun s1=>Yp P (.js d2 x u m cq) s1 K)):Yp P (.js d2 x u m cq) s (fun s1=>Yp P (.aO d1 n1 gL z1 p1) s1 K):=by
 simp only[Yp] at h⊢
 obtain⟨us,Z7,hk⟩:=sC _ _ _ _ _ h
 have ex:∀y∈[x,u,m],y.ev ((s.aK (d1+1)).set d1 (.slice gL us (d1+1))).env=aG (d1+1) (y.ev s.env):=fun y hy=>by rw[bX (bY h1 hy),mV ((List.all_eq_true.1 k2) y hy)]
 rw[ex x (by simp),ex u (by simp),ex m (by simp)] at hk
 split at hk
 ·rename_i jX xs r k i k' j e1 e2 e3
  obtain⟨g,hk⟩:=hk
  obtain⟨r3,e4⟩:=DK e1
  rw[e4,DL e2,DL e3]
  refine⟨g,?_⟩
  rw[va (s:=s) (fun y hy=>⟨aG (d2+1),yf _,by rw[bX (bY h2 hy),mV ((List.all_eq_true.1 k1) y hy)]⟩)]
  refine iQ _ _ _ _ _ _ (fun v hv=> ?_) Z7
  subst hv
  have hq:d1+1≠d2+1:=by omega
  rw[ij,oY hq,set_comm _ _ _ hd] at hk
  rw[ij,oY (Ne.symm hq),u_ s (d2+1) (d1+1)]
  exact hk
 ·exact hk.elim
theorem DM{d1 n1 gL d2 n2 cq:Nat}{z1 z2:List AV}{p1 p2:List (Nat×ai)}(hd:d1≠d2)(h1:bx d1 (p2.map (·.2))=true)(h2:bx d2 (p1.map (·.2))=true)(k1:ef (p1.map (·.2))=true)(k2:ef (p2.map (·.2))=true){s:St}{K:St→Prop}(h:Yp P (.aO d1 n1 gL z1 p1) s (fun s1=>Yp P (.aO d2 n2 cq z2 p2) s1 K)):Yp P (.aO d2 n2 cq z2 p2) s (fun s1=>Yp P (.aO d1 n1 gL z1 p1) s1 K):=by
 simp only[Yp] at h⊢
 obtain⟨us,Z7,hk⟩:=sC _ _ _ _ _ h
 rw[va (s:=s) (fun y hy=>⟨aG (d1+1),yf _,by rw[bX (bY h1 hy),mV ((List.all_eq_true.1 k2) y hy)]⟩)] at hk
 refine iQ _ _ _ _ _ _ (fun v hv=> ?_) hk
 rw[va (s:=s) (fun y hy=>⟨aG (d2+1),yf _,by rw[bX (bY h2 hy),mV ((List.all_eq_true.1 k1) y hy)]⟩)]
 refine iQ _ _ _ _ _ _ (fun u hu=> ?_) Z7
 subst hu
 have hq:d1+1≠d2+1:=by omega
 rw[ij,oY hq,set_comm _ _ _ hd,u_] at hv
 rw[ij,oY (Ne.symm hq)]
 exact hv
theorem Nb{y:Yr}{dy di n sz g:Nat}{w:Bool}{ry:List ai}{z:List AV}{ps:List (Nat×ai)}(hy:YN y=some (dy,ry))(hd:dy≠di)(h1:bx dy (.t g::ps.map (·.2))=true)(h2:bx di ry=true)(hok:ef ry=true){s:St}{K:St→Prop}(h:Yp P y s (fun s1=>Yp P (.guard g w (some di) (.aO di n sz z ps)) s1 K)):Yp P (.guard g w (some di) (.aO di n sz z ps)) s (fun s1=>Yp P y s1 K):=by
 rw[ep P y dy ry hy] at h
 obtain⟨v,hv,hk⟩:=mU P _ _ y _ h
 have hg:(s.set dy v).env g=s.env g:=bX (x:=.t g) (bY h1 (by simp))
 have fT:bx dy (ps.map (·.2))=true:=by simp only[bx,List.all_cons,Bool.and_eq_true] at h1⊢;exact h1.2
 rw[Yp,hg] at hk
 rw[Yp]
 split at hk
 ·rename_i b hb
  refine⟨fun e=>DH hy hd fT h2 hok ?_,fun e=> ?_⟩
  ·rw[ep P y dy ry hy]
   exact ie P _ _ y _ _ (fun u hu=>by subst hu;exact hk.1 e) hv
  ·rw[ep P y dy ry hy]
   refine ie P _ _ y _ _ (fun u hu=> ?_) (mW (P:=P) hy (d:=di) h2 (w:=.tuple []) hv)
   subst hu
   have:=hk.2 e
   rw[set_comm _ _ _ hd] at this
   exact this
 ·rw[ep P y dy ry hy]
  refine ie P _ _ y _ _ (fun u hu=> ?_) (mW (P:=P) hy (d:=di) h2 (w:=.tuple []) hv)
  subst hu
  rw[set_comm _ _ _ hd] at hk
  exact hk
 ·exact hk.elim
theorem DN{r:Nat}{x:AV}{b:Bool}(h:aG r x=.lit (.bool b)):x=.lit (.bool b):=by cases x<;>simp only[aG] at h<;>first|exact h|(cases h;done)|(split at h<;>cases h)
theorem sE{d n sz g:Nat}{w:Bool}{z:List AV}{ps:List (Nat×ai)}{s:St}{K:St→Prop}(hg:s.env g=.lit (.bool w))(h:Yp P (.aO d n sz z ps) s K):Yp P (.guard g w (some d) (.aO d n sz z ps)) s K:=by
 rw[Yp,hg]
 exact⟨fun _=>h,fun e=>(by cases w<;>cases e)⟩
def lO(w:Bool)(x:AV):Prop:=x=.lit (.bool (!w))∨x=.tuple []
theorem lO.aG{w:Bool}{x:AV}(r:Nat)(h:lO w x):lO w (az.aG r x):=by rcases h with rfl|rfl;exact .inl rfl;exact .inr rfl
theorem lO.Nc{w:Bool}{x:AV}{r:Nat}(h:lO w (az.aG r x)):lO w x:=by
 rcases h with h|h
 ·exact .inl (DN h)
 ·refine .inr ?_
  cases x<;>simp only[az.aG] at h<;>first|exact h|(cases h;done)|(split at h<;>cases h)
theorem sF{d g:Nat}{w:Bool}{m:Yr}{s:St}{K:St→Prop}(hg:lO w (s.env g))(h:K (s.set d (.tuple []))):Yp P (.guard g w (some d) m) s K:=by
 rcases hg with hg|hg
 ·rw[Yp,hg]
  exact⟨fun e=>(by cases w<;>cases e),fun _=>h⟩
 ·rw[Yp,hg]
  exact h
theorem vb{d g:Nat}{w:Bool}{m:Yr}{s:St}{K:St→Prop}(h:Yp P (.guard g w (some d) m) s K):(s.env g=.lit (.bool w)∧Yp P m s K)∨(lO w (s.env g)∧K (s.set d (.tuple []))):=by
 rw[Yp] at h
 split at h
 ·rename_i b hb
  by_cases e:b=w
  ·subst e;exact .inl ⟨hb,h.1 rfl⟩
  ·have e2:b= !w:=by revert e;cases b<;>cases w<;>decide
   exact .inr ⟨.inl (by rw[hb,e2]),h.2 e2⟩
 ·rename_i hb
  exact .inr ⟨.inr hb,h⟩
 ·exact h.elim
theorem Nd{d1 n1 gL d2 n2 cq g1 g2:Nat}{w1 w2:Bool}{z1 z2:List AV}{p1 p2:List (Nat×ai)}(hd:d1≠d2)(e1:d1≠g2)(e2:d2≠g1)(h1:bx d1 (p2.map (·.2))=true)(h2:bx d2 (p1.map (·.2))=true)(k1:ef (p1.map (·.2))=true)(k2:ef (p2.map (·.2))=true)
  {s:St}{K:St→Prop}(h:Yp P (.guard g1 w1 (some d1) (.aO d1 n1 gL z1 p1)) s (fun s1=>Yp P (.guard g2 w2 (some d2) (.aO d2 n2 cq z2 p2)) s1 K)):
  Yp P (.guard g2 w2 (some d2) (.aO d2 n2 cq z2 p2)) s (fun s1=>Yp P (.guard g1 w1 (some d1) (.aO d1 n1 gL z1 p1)) s1 K):=by
 have cL:∀(s:St) (d g:Nat) (x:AV),d≠g→(s.set d x).env g=s.env g:=fun s d g x e=>by simp[St.set,aq,Ne.symm e]
 rcases vb h with ⟨ha,h⟩|⟨ha,h⟩
 ·have h':=h
  rw[Yp] at h'
  obtain⟨us,Z7,hk⟩:=sC _ _ _ _ _ h'
  rcases vb hk with ⟨hb,hk⟩|⟨hb,hk⟩
  ·rw[cL _ _ _ _ e1] at hb
   have hb':=DN (show aG (d1+1) (s.env g2)=_ from hb)
   refine sE hb' ?_
   have hm:Yp P (.aO d1 n1 gL z1 p1) s (fun s1=>Yp P (.aO d2 n2 cq z2 p2) s1 K):=by
    rw[Yp]
    exact iQ _ _ _ _ _ _ (fun u hu=>by subst hu;exact hk) Z7
   have DO:=DM hd h1 h2 k1 k2 hm
   rw[Yp] at DO⊢
   refine iQ _ _ _ _ _ _ (fun u hu=>sE ?_ hu) DO
   rw[cL _ _ _ _ e2]
   show aG (d2+1) (s.env g1)=_
   rw[ha];rfl
  ·rw[cL _ _ _ _ e1] at hb
   have hb':=lO.Nc (r:=d1+1) (show lO w2 (aG (d1+1) (s.env g2)) from hb)
   refine sF hb' (sE (by rw[cL _ _ _ _ e2];exact ha) ?_)
   rw[Yp,sB (s.set d2 (.tuple [])).env s.env _ _ _ _ (fun x hx=>by rw[bX (bY h2 hx)];exact⟨rfl,rfl,rfl⟩)]
   refine iQ _ _ _ _ _ _ (fun u hu=> ?_) Z7
   subst hu
   rw[set_comm _ _ _ hd] at hk
   rw[ij]
   exact hk
 ·rcases vb h with ⟨hb,hk⟩|⟨hb,hk⟩
  ·rw[cL _ _ _ _ e1] at hb
   refine sE hb ?_
   rw[Yp,sB (s.set d1 (.tuple [])).env s.env _ _ _ _ (fun x hx=>by rw[bX (bY h1 hx)];exact⟨rfl,rfl,rfl⟩)] at hk
   rw[Yp]
   refine iQ _ _ _ _ _ _ (fun u hu=>sF ?_ ?_) hk
   ·rw[cL _ _ _ _ e2]
    exact ha.aG (d2+1)
   ·rw[ij,set_comm _ _ _ hd] at hu
    exact hu
  ·rw[cL _ _ _ _ e1] at hb
   refine sF hb (sF (by rw[cL _ _ _ _ e2];exact ha) ?_)
   rw[set_comm _ _ _ (Ne.symm hd)]
   exact hk
def j6:ai→ai→Bool
 |.t a,.t b=>a==b
 |_,_=>false
theorem lP{x y:ai}(h:j6 x y=true):x=y:=by cases x<;>cases y<;>simp[j6] at h<;>first|(rw[h];done)|skip
def fj(s:St):Prop:=∃n,∀b,n≤b→s.loc b=none
theorem fj.set{s:St}(h:fj s)(d:Nat)(x:AV):fj (s.set d x):=h
theorem fj.aK{s:St}(h:fj s)(r:Nat):fj (s.aK r):=by
 obtain⟨n,h⟩:=h
 exact⟨n,fun b hb=>by simp only[St.aK,h b hb,Option.map_none]⟩
theorem fj.new{s:St}(h:fj s)(b:Nat)(cs:List AV):fj (s.new b cs):=by
 obtain⟨n,h⟩:=h
 refine⟨max n (b+1),fun b' hb=> ?_⟩
 have h1:n≤b':=Nat.le_trans (Nat.le_max_left ..) hb
 have h2:b+1≤b':=Nat.le_trans (Nat.le_max_right ..) hb
 simp only[St.new]
 rw[bM _ _ (by omega)]
 exact h b' h1
theorem fj.DP{s:St}(h:fj s)(b:Nat):∃b',b'≠b∧s.loc b'=none:=by
 obtain⟨n,h⟩:=h
 refine⟨max n (b+1),?_,h _ (Nat.le_max_left ..)⟩
 have:b+1≤max n (b+1):=Nat.le_max_right ..
 omega
theorem DQ(s:St){b1 b2:Nat}(c1 c2:List AV)(h:b1≠b2):(s.new b1 c1).new b2 c2=(s.new b2 c2).new b1 c1:=by simp only[St.new];rw[qi _ _ _ h]
theorem j7{s:St}{x y:AV}{n:Nat}{K:St→Prop}:ju s x y n 0 K↔∃b off cs,x=.Yq b off∧s.loc b=some cs∧off+n≤cs.length∧y.cells.length=n∧y.cells.all AV.bH=true∧K (s.new b (splice cs off (y.cells.map AV.erase0))):=by
 unfold ju
 cases x with
 |Yq b off=>
  simp only
  cases hb:s.loc b with
  |none=>
   simp only[false_iff]
   rintro⟨b',off',cs,e,h,_⟩
   injection e with e1 e2
   subst e1
   rw[hb] at h;cases h
  |some cs=>
   simp only
   constructor
   ·rintro⟨h1,h2,h3,h4⟩
    refine⟨b,off,cs,rfl,hb,h1,h2,h3,?_⟩
    cases y<;>first|exact h4|skip
    simpa[AV.cells,AV.erase0] using h4
   ·rintro⟨b',off',cs',e,h,h1,h2,h3,h4⟩
    injection e with e1 e2
    subst e1 e2
    rw[hb] at h;injection h with h;subst h
    refine⟨h1,h2,h3,?_⟩
    cases y<;>first|exact h4|skip
    simpa[AV.cells,AV.erase0] using h4
 |_=>simp
theorem DR{s:St}{x y:AV}{n:Nat}{K K':St→Prop}(h:∀b cs,K (s.new b cs)→K' (s.new b cs))(hv:ju s x y n 0 K):ju s x y n 0 K':=by
 obtain⟨b,off,cs,h1,h2,h3,h4,h5,h6⟩:=j7.1 hv
 exact j7.2 ⟨b,off,cs,h1,h2,h3,h4,h5,h _ _ h6⟩
theorem Nf{d n:Nat}{z:List AV}{zs:List ai}{x x':ai}(h1:bx d (x::x'::zs)=true){s:St}{K:St→Prop}(hf:fj s)(h:Yp P (.alloc d z) s (fun s1=>Yp P (.apart zs x (.store x x' n 0)) s1 K)):Yp P (.apart zs x (.store x x' n 0)) s (fun s1=>Yp P (.alloc d z) s1 K):=by
 have ex:∀b,x.ev ((s.new b z).set d (.Yq b 0)).env=x.ev s.env:=fun b=>bX (s:=s.new b z) (bY h1 (by simp))
 have ex':∀b,x'.ev ((s.new b z).set d (.Yq b 0)).env=x'.ev s.env:=fun b=>bX (s:=s.new b z) (bY h1 (by simp))
 have ez:∀b,∀w∈zs,w.ev ((s.new b z).set d (.Yq b 0)).env=w.ev s.env:=fun b w hw=>bX (s:=s.new b z) (bY h1 (by simp[hw]))
 have hh:∀b0,s.loc b0=none→(∀w∈zs,nR (w.ev s.env) (x.ev s.env))∧ju ((s.new b0 z).set d (.Yq b0 0)) (x.ev s.env) (x'.ev s.env) n 0 K:=by
  intro b0 hb0
  obtain⟨g1,g2⟩:=h b0 hb0
  rw[Yp,ex,ex'] at g2
  refine⟨fun w hw=> ?_,g2⟩
  have:=g1 w hw
  rw[ez b0 w hw,ex] at this
  exact this
 obtain⟨b0,_,hb0⟩:=hf.DP 0
 obtain⟨hap,hs0⟩:=hh b0 hb0
 obtain⟨b,off,_,hx,_,_⟩:=j7.1 hs0
 obtain⟨b1,hne,dQ⟩:=hf.DP b
 obtain⟨b',off',cs,hx',hl,g1,g2,g3,_⟩:=j7.1 (hh b1 dQ).2
 rw[hx] at hx';injection hx' with e1 e2;subst e1 e2
 have hl:s.loc b=some cs:=by
  simp only[St.set,St.new] at hl
  rw[bM _ _ (Ne.symm hne)] at hl
  exact hl
 refine⟨hap,?_⟩
 rw[Yp]
 refine j7.2 ⟨b,off,cs,hx,hl,g1,g2,g3,?_⟩
 intro b2 YL
 have mX:b2≠b:=by intro e;subst e;simp[St.new,aq] at YL
 have Ng:s.loc b2=none:=by
  simp only[St.new] at YL
  rw[bM _ _ mX] at YL
  exact YL
 obtain⟨b',off',cs',hx',hl',_,_,_,hk⟩:=j7.1 (hh b2 Ng).2
 rw[hx] at hx';injection hx' with e1 e2;subst e1 e2
 have hl':s.loc b=some cs':=by
  simp only[St.set,St.new] at hl'
  rw[bM _ _ (Ne.symm mX)] at hl'
  exact hl'
 rw[hl] at hl';injection hl' with e;subst e
 rw[u9,DQ _ _ _ mX] at hk
 exact hk
theorem Nh{n1 n2:Nat}{DS zs2:List ai}{x1 y1 x2 y2:ai}(hz:x1∈zs2){s:St}{K:St→Prop}(h:Yp P (.apart DS x1 (.store x1 y1 n1 0)) s (fun s1=>Yp P (.apart zs2 x2 (.store x2 y2 n2 0)) s1 K)):Yp P (.apart zs2 x2 (.store x2 y2 n2 0)) s (fun s1=>Yp P (.apart DS x1 (.store x1 y1 n1 0)) s1 K):=by
 obtain⟨qE,h⟩:=h
 rw[Yp] at h
 obtain⟨b1,o1,c1,hx1,fG,g1,g2,g3,nZ,h⟩:=j7.1 h
 rw[Yp] at h
 obtain⟨b2,o2,c2,qH,mP,k1,k2,k3,hk⟩:=j7.1 h
 have fk:∀b cs,(s.new b cs).env=s.env:=fun _ _=>rfl
 rw[fk] at qH k2 k3 hk
 have hne:b1≠b2:=by
  have:=nZ x1 hz
  rw[fk,hx1,qH] at this
  exact this
 have Ni:s.loc b2=some c2:=by
  simp only[St.new] at mP
  rw[bM _ _ (Ne.symm hne)] at mP
  exact mP
 refine⟨fun z er=>nZ z er,?_⟩
 rw[Yp]
 refine j7.2 ⟨b2,o2,c2,qH,Ni,k1,k2,k3,qE,?_⟩
 rw[Yp]
 refine j7.2 ⟨b1,o1,c1,hx1,?_,g1,g2,g3,?_⟩
 ·simp only[St.new]
  rw[bM _ _ hne]
  exact fG
 ·rw[fk,DQ _ _ _ (Ne.symm hne)]
  exact hk
theorem Nj{i:Yr}{di n:Nat}{ri zs:List ai}{x x':ai}(hi:YN i=some (di,ri))(h1:bx di (x::x'::zs)=true)(hz:∀z∈Zq i,z∈zs){s:St}{K:St→Prop}(h:Yp P (.apart zs x (.store x x' n 0)) s (fun s1=>Yp P i s1 K)):Yp P i s (fun s1=>Yp P (.apart zs x (.store x x' n 0)) s1 K):=by
 obtain⟨ha,h⟩:=h
 rw[Yp] at h
 obtain⟨b,off,cs,hx,hl,g1,g2,g3,hk⟩:=j7.1 h
 rw[ep P i di ri hi] at hk⊢
 have e:pv P (fun x=>x.ev s.env) s.loc i=pv P (fun x=>x.ev s.env) (s.new b (splice cs off ((x'.ev s.env).cells.map AV.erase0))).loc i:=by
  funext K'
  refine DE P (fun x=>x.ev s.env) s.loc _ i (fun z er b' o jz=> ?_) K'
  have:=ha z (hz z er)
  rw[jz,hx] at this
  simp only[St.new]
  rw[bM _ _ this]
 rw[e]
 refine ie P _ _ i _ _ (fun v hv=> ?_) hk
 refine⟨fun z er=> ?_,?_⟩
 ·rw[bX (bY h1 (by simp[er])),bX (bY h1 (by simp))]
  exact ha z er
 ·rw[Yp,bX (bY h1 (by simp)),bX (bY h1 (by simp))]
  exact j7.2 ⟨b,off,cs,hx,hl,g1,g2,g3,hv⟩
def sG(xs:List ai):Bool:=xs.all fun|.t n=>decide (n<gS)|.c _=>true
theorem aaQ{xs:List ai}(h:sG xs=true)(b:Nat):bx (oS+b) xs=true:=by
 unfold bx
 rw[List.all_eq_true]
 intro x hx
 have:=(List.all_eq_true.1 h) x hx
 cases x with
 |t n=>
  have hn:n<gS:=by simpa using this
  have:(n==oS+b)=false:=by have:gS<oS:=by simp[gS,oS]
                           simp;omega
  simp[sA,this]
 |c y=>rfl
theorem DT{k v:AV}:∀{es:List (List AV)} {i j:Nat},b_ k es i=some (some j)→eM k k=some true→b_ k (es.set (j - i) [k,v]) i=some (some j)
 |[],_,_,h,_=>by simp[b_] at h
 |e::es,i,j,h,hk=>by
  simp only[b_] at h
  split at h
  ·injection h with h;injection h with h;subst h
   rw[Nat.sub_self,List.set_cons_zero]
   simp[b_,hk]
  ·rename_i hq
   have ih:=DT (v:=v) h hk
   have hij:i+1≤j:=by
    have:∀{es:List (List AV)} {i j:Nat},b_ k es i=some (some j)→i≤j:=by
     intro es
     induction es with
     |nil=>intro i j h;simp[b_] at h
     |cons e es ih=>
      intro i j h
      simp only[b_] at h
      split at h
      ·injection h with h;injection h with h;omega
      ·have:=ih h;omega
      ·cases h
    exact this h
   rw[show j - i=(j - (i+1))+1 by omega,List.set_cons_succ]
   simp only[b_,hq]
   exact ih
  ·cases h
theorem DU{k v:AV}:∀{es:List (List AV)} {i:Nat},b_ k es i=some none→eM k k=some true→b_ k (es++[[k,v]]) i=some (some (i+es.length))
 |[],i,_,hk=>by simp[b_,hk]
 |e::es,i,h,hk=>by
  simp only[b_] at h
  split at h
  ·injection h with h;cases h
  ·rename_i hq
   have ih:=DU (v:=v) h hk
   simp only[List.cons_append,b_,hq,List.length_cons]
   rw[ih];congr 2;omega
  ·cases h
theorem DV{k:AV}:∀{es:List (List AV)} {i j:Nat},b_ k es i=some (some j)→j<i+es.length
 |[],_,_,h=>by simp[b_] at h
 |e::es,i,j,h=>by
  simp only[b_] at h
  split at h
  ·injection h with h;injection h with h;simp;omega
  ·have:=DV h;simp at this⊢;omega
  ·cases h
theorem sH{s:St}{d b:Nat}{v:AV}(h:d<gS):(s.set d v).env (oS+b)=s.env (oS+b):=by
 have:gS<oS:=by simp[gS,oS]
 simp only[St.set]
 exact bM _ _ (by omega)
theorem Nk{y:Yr}{dy di:Nat}{ry:List ai}{x k:ai}{n:Option Nat}{z:AV}(hy:YN y=some (dy,ry))(hd:dy≠di)(h1:bx dy [x,k]=true)(h2:bx di ry=true)(hl:sG ry=true)(yg:dy<gS){s:St}{K:St→Prop}(h:Yp P y s (fun s1=>Yp P (.jt di x k n z) s1 K)):Yp P (.jt di x k n z) s (fun s1=>Yp P y s1 K):=by
 rw[ep P y dy ry hy] at h
 obtain⟨v,hv,hk⟩:=mU P _ _ y _ h
 simp only[Yp] at hk⊢
 rw[bX (bY h1 (x:=x) (by simp)),bX (bY h1 (x:=k) (by simp))] at hk
 have hb0:gS<oS:=by simp[gS,oS]
 split at hk
 ·rename_i b e1
  obtain⟨es,he,hok,hkk,hk⟩:=hk
  rw[sH yg] at he
  refine⟨es,he,hok,hkk,?_⟩
  have fin:∀M T,K (((s.set dy v).set (oS+b) M).set di T)→Yp P y ((s.set (oS+b) M).set di T) K:=by
   intro M T hK
   rw[ep P y dy ry hy]
   have h4:=mW (P:=P) hy (d:=di) h2 (s:=s.set (oS+b) M) (w:=T) (mW (P:=P) hy (d:=oS+b) (aaQ hl b) (s:=s) (w:=M) hv)
   refine ie P _ _ y _ _ (fun w hw=> ?_) h4
   subst hw
   rw[set_comm s w M (show dy≠oS+b by omega),set_comm _ w T hd] at hK
   exact hK
  split at hk
  ·exact fin _ _ hk
  ·exact fin _ _ hk
  ·exact hk.elim
 ·exact hk.elim
theorem Nl{i:Yr}{d1 di:Nat}{ri:List ai}{x k:ai}{n:Option Nat}{z:AV}(hi:YN i=some (di,ri))(hd:d1≠di)(h1:bx d1 ri=true)(h2:bx di [x,k]=true)(yg:di<gS){s:St}{K:St→Prop}(h:Yp P (.lookup d1 x k n false z) s (fun s1=>Yp P i s1 K)):Yp P i s (fun s1=>Yp P (.lookup d1 x k n false z) s1 K):=by
 rw[ep P i di ri hi]
 simp only[Yp,Bool.false_eq_true,if_false] at h
 have fin:∀u,Yp P i (s.set d1 u) K→(∀v,K ((s.set d1 u).set di v)→Yp P (.lookup d1 x k n false z) (s.set di v) K)→pv P (fun x=>x.ev s.env) s.loc i fun v=>Yp P (.lookup d1 x k n false z) (s.set di v) K:=by
  intro u hk hf
  rw[ep P i di ri hi,u0 P (fun x=>x.ev (s.set d1 u).env) (fun x=>x.ev s.env) _ i di ri hi (fun x hx=>bX (bY h1 hx))] at hk
  exact ie P _ _ i _ _ (fun v hv=>hf v hv) hk
 split at h
 ·rename_i b e1
  obtain⟨es,he,hok,h⟩:=h
  have back:∀(v:AV),(x.ev (s.set di v).env=.bL b)∧(s.set di v).env (oS+b)=aS es∧(k.ev (s.set di v).env).erase=(k.ev s.env).erase:=fun v=>⟨by rw[bX (bY h2 (x:=x) (by simp))];exact e1,by rw[sH yg];exact he,by rw[bX (bY h2 (x:=k) (by simp))]⟩
  split at h
  ·rename_i j hka
   refine fin _ h fun v hv=> ?_
   obtain⟨b1,b2,b3⟩:=back v
   simp only[Yp,b1,b3]
   refine⟨es,b2,hok,?_⟩
   rw[hka]
   simp only[Bool.false_eq_true,if_false]
   rw[set_comm _ _ _ hd] at hv
   exact hv
  ·rename_i hka
   refine fin _ h fun v hv=> ?_
   obtain⟨b1,b2,b3⟩:=back v
   simp only[Yp,b1,b3]
   refine⟨es,b2,hok,?_⟩
   rw[hka]
   simp only[Bool.false_eq_true,if_false]
   rw[set_comm _ _ _ hd] at hv
   exact hv
  ·exact h.elim
 ·rename_i es e1
  obtain⟨hok,h⟩:=h
  have back:∀(v:AV),(x.ev (s.set di v).env=.fmap es)∧(k.ev (s.set di v).env).erase=(k.ev s.env).erase:=fun v=>⟨by rw[bX (bY h2 (x:=x) (by simp))];exact e1,by rw[bX (bY h2 (x:=k) (by simp))]⟩
  split at h
  ·rename_i j hka
   refine fin _ h fun v hv=> ?_
   obtain⟨b1,b3⟩:=back v
   simp only[Yp,b1,b3]
   refine⟨hok,?_⟩
   rw[hka]
   simp only[Bool.false_eq_true,if_false]
   rw[set_comm _ _ _ hd] at hv
   exact hv
  ·rename_i hka
   refine fin _ h fun v hv=> ?_
   obtain⟨b1,b3⟩:=back v
   simp only[Yp,b1,b3]
   refine⟨hok,?_⟩
   rw[hka]
   simp only[Bool.false_eq_true,if_false]
   rw[set_comm _ _ _ hd] at hv
   exact hv
  ·exact h.elim
 ·exact h.elim
theorem Nm{d1 d2:Nat}{x k:ai}{n:Option Nat}{z:AV}{c:List AV}(hd:d1≠d2)(h2:bx d2 [x,k]=true)(hl:d2<gS){s:St}{K:St→Prop}(h:Yp P (.lookup d1 x k n false z) s (fun s1=>Yp P (.alloc d2 c) s1 K)):Yp P (.alloc d2 c) s (fun s1=>Yp P (.lookup d1 x k n false z) s1 K):=by
 intro b hb
 have ex:x.ev ((s.new b c).set d2 (.Yq b 0)).env=x.ev s.env:=bX (s:=s.new b c) (bY h2 (x:=x) (by simp))
 have ek:k.ev ((s.new b c).set d2 (.Yq b 0)).env=k.ev s.env:=bX (s:=s.new b c) (bY h2 (x:=k) (by simp))
 have eo:∀b',((s.new b c).set d2 (.Yq b 0)).env (oS+b')=s.env (oS+b'):=fun b'=>sH (s:=s.new b c) hl
 have fin:∀u,Yp P (.alloc d2 c) (s.set d1 u) K→K (((s.new b c).set d2 (.Yq b 0)).set d1 u):=fun u hu=>by
  have:=hu b hb
  rw[u9,set_comm _ u _ hd] at this
  exact this
 simp only[Yp,Bool.false_eq_true,if_false] at h
 show Yp P (.lookup d1 x k n false z) _ K
 simp only[Yp,ex,ek,eo,Bool.false_eq_true,if_false]
 split at h
 ·rename_i b' e1
  obtain⟨es,he,hok,h⟩:=h
  refine⟨es,he,hok,?_⟩
  split at h
  ·exact fin _ h
  ·exact fin _ h
  ·exact h.elim
 ·obtain⟨hok,h⟩:=h
  refine⟨hok,?_⟩
  split at h
  ·exact fin _ h
  ·exact fin _ h
  ·exact h.elim
 ·exact h.elim
theorem Nn{es es':List (List AV)}(h:aS es=aS es'):es=es':=by unfold aS at h;injection h
theorem No{d1 d2:Nat}{x k:ai}{n n':Option Nat}{z:AV}(hd:d1≠d2)(h1:bx d1 [x,k]=true)(h2:bx d2 [x,k]=true)(hl:sG [x,k]=true)(kN:d1<gS)(gK:d2<gS){s:St}{K:St→Prop}(h:Yp P (.lookup d1 x k n false z) s (fun s1=>Yp P (.jt d2 x k n' z) s1 K)):Yp P (.jt d2 x k n' z) s (fun s1=>Yp P (.lookup d1 x k n false z) s1 K):=by
 have hb0:gS<oS:=by simp[gS,oS]
 simp only[Yp,Bool.false_eq_true,if_false] at h⊢
 split at h
 ·rename_i b e1
  obtain⟨es,he,hok,h⟩:=h
  rw[e1]
  have ex:∀v w M,x.ev (((s.set (oS+b) M).set d2 w).set d1 v).env=.bL b:=fun v w M=>by rw[bX (bY h1 (x:=x) (by simp)),bX (bY h2 (x:=x) (by simp)),bX (bY (aaQ hl b) (x:=x) (by simp))];exact e1
  have Np:∀w M,x.ev ((s.set (oS+b) M).set d2 w).env=.bL b:=fun w M=>by rw[bX (bY h2 (x:=x) (by simp)),bX (bY (aaQ hl b) (x:=x) (by simp))];exact e1
  have Nq:∀w M,k.ev ((s.set (oS+b) M).set d2 w).env=k.ev s.env:=fun w M=>by rw[bX (bY h2 (x:=k) (by simp)),bX (bY (aaQ hl b) (x:=k) (by simp))]
  have Nr:∀w M,((s.set (oS+b) M).set d2 w).env (oS+b)=M:=fun w M=>by rw[sH gK];exact gV _ _ _
  have inner:∀u,Yp P (.jt d2 x k n' z) (s.set d1 u) K→gZ n' (k.ev s.env).erase∧eM (k.ev s.env).erase (k.ev s.env).erase=some true∧(∀i,b_ (k.ev s.env).erase es 0=some (some i)→K (((s.set d1 u).set (oS+b) (aS (es.set i [(k.ev s.env).erase,(es.getD i []).getD 1 .any]))).set d2 (.tuple [(es.getD i []).getD 1 .any,.lit (.int .i64 i)])))∧(b_ (k.ev s.env).erase es 0=some none→K (((s.set d1 u).set (oS+b) (aS (es++[[(k.ev s.env).erase,z]]))).set d2 (.tuple [z,.lit (.int .i64 es.length)]))):=by
   intro u hu
   simp only[Yp] at hu
   rw[bX (bY h1 (x:=x) (by simp)),bX (bY h1 (x:=k) (by simp)),e1] at hu
   obtain⟨kP,lQ,Ns,hkk,hu⟩:=hu
   rw[sH kN,he] at lQ
   have:=Nn lQ
   subst this
   refine⟨Ns,hkk,fun i hi=> ?_,fun hi=> ?_⟩
   ·rw[hi] at hu;exact hu
   ·rw[hi] at hu;exact hu
  have out:∀(es':List (List AV)) (T u:AV) (i:Nat),K (((s.set d1 u).set (oS+b) (aS es')).set d2 T)→b_ (k.ev s.env).erase es' 0=some (some i)→((es'.getD i []).getD 1 .any).erase=u→Yp P (.lookup d1 x k n false z) ((s.set (oS+b) (aS es')).set d2 T) K:=by
   intro es' T u i hK hka hu
   simp only[Yp,Np,Nq,Nr]
   refine⟨es',rfl,hok,?_⟩
   rw[hka]
   simp only[Bool.false_eq_true,if_false,hu]
   rw[set_comm s u _ (show d1≠oS+b by omega),set_comm _ u T hd] at hK
   exact hK
  split at h
  ·rename_i i hka
   obtain⟨g1,g2,g3,-⟩:=inner _ h
   have hlt:=DV hka
   refine⟨es,he,g1,g2,?_⟩
   rw[hka]
   refine out _ _ _ i (g3 i hka) (by have:=DT (v:=(es.getD i []).getD 1 .any) hka g2;simpa using this) ?_
   simp only[List.getD_eq_getElem?_getD,List.getElem?_set_self (show i<es.length by omega)]
   rfl
  ·rename_i hka
   obtain⟨g1,g2,-,g4⟩:=inner _ h
   refine⟨es,he,g1,g2,?_⟩
   rw[hka]
   refine out _ _ _ es.length (g4 hka) (by have:=DU (v:=z) hka g2;simpa using this) ?_
   simp
  ·exact h.elim
 ·rename_i es e1
  obtain⟨hok,h⟩:=h
  have no:∀u,¬Yp P (.jt d2 x k n' z) (s.set d1 u) K:=by
   intro u hu
   simp only[Yp] at hu
   rw[bX (bY h1 (x:=x) (by simp)),e1] at hu
   exact hu
  split at h
  ·exact absurd h (no _)
  ·exact absurd h (no _)
  ·exact h.elim
 ·exact h.elim
theorem yh{d:Nat}{x k:ai}{n:Option Nat}{ok:Bool}{z:AV}{s:St}{K K':St→Prop}(hf:fj s)(hk:∀s,fj s→K s→K' s)(h:Yp P (.lookup d x k n ok z) s K):Yp P (.lookup d x k n ok z) s K':=by
 simp only[Yp] at h⊢
 split at h
 ·obtain⟨es,h1,h2,h3⟩:=h
  refine⟨es,h1,h2,?_⟩
  split at h3
  ·exact hk _ (hf.set _ _) h3
  ·exact hk _ (hf.set _ _) h3
  ·exact h3.elim
 ·obtain⟨h2,h3⟩:=h
  refine⟨h2,?_⟩
  split at h3
  ·exact hk _ (hf.set _ _) h3
  ·exact hk _ (hf.set _ _) h3
  ·exact h3.elim
 ·exact h.elim
def yj:AV→AV→Bool
 |.lit (.int k a),.lit (.int k' b)=>k==k'&&a==b
 |_,_=>false
theorem Nt{x y:AV}(h:yj x y=true):x=y:=by
 unfold yj at h
 split at h
 ·simp only[Bool.and_eq_true,beq_iff_eq] at h
  rw[h.1,h.2]
 ·cases h
theorem Nu{d1 d2 gL cq DW sD:Nat}{n1 c1 n2 c2:ai}{z1 z2:List AV}(hd:d1≠d2)(h1:bx d1 [n2,c2]=true)(h2:bx d2 [n1,c1]=true){s:St}{K:St→Prop}(hf:fj s)(h:Yp P (.eL d1 n1 c1 gL DW z1) s (fun s1=>Yp P (.eL d2 n2 c2 cq sD z2) s1 K)):Yp P (.eL d2 n2 c2 cq sD z2) s (fun s1=>Yp P (.eL d1 n1 c1 gL DW z1) s1 K):=by
 have f1:∀(b:Nat) (zs:List AV) (v:AV),n2.ev ((s.new b zs).set d1 v).env=n2.ev s.env∧c2.ev ((s.new b zs).set d1 v).env=c2.ev s.env:=fun b zs v=>⟨bX (s:=s.new b zs) (bY h1 (by simp)),bX (s:=s.new b zs) (bY h1 (by simp))⟩
 have f2:∀(b:Nat) (zs:List AV) (v:AV),n1.ev ((s.new b zs).set d2 v).env=n1.ev s.env∧c1.ev ((s.new b zs).set d2 v).env=c1.ev s.env:=fun b zs v=>⟨bX (s:=s.new b zs) (bY h2 (by simp)),bX (s:=s.new b zs) (bY h2 (by simp))⟩
 obtain⟨b0,hb0⟩:∃b,s.loc b=none:=by
  obtain⟨m,hm⟩:=hf
  exact⟨m,hm m (Nat.le_refl _)⟩
 simp only[Yp] at h⊢
 split at h
 ·rename_i i j e1 e2
  obtain⟨g1,g2,g3,g4,g5,h⟩:=h
  simp only[(f1 _ _ _).1,(f1 _ _ _).2] at h
  split
  ·rename_i i' j' e3 e4
   have h':=fun b hb=>h b hb
   simp only[e3,e4] at h'
   obtain⟨k1,k2,k3,k4,k5,_⟩:=h' b0 hb0
   refine⟨k1,k2,k3,k4,k5,fun b2 YL=> ?_⟩
   simp only[(f2 _ _ _).1,(f2 _ _ _).2,e1,e2]
   refine⟨g1,g2,g3,g4,g5,fun b1 dQ=> ?_⟩
   simp only[St.set,St.new] at dQ
   by_cases e:b1=b2
   ·subst e;simp[aq] at dQ
   ·rw[bM _ _ e] at dQ
    have:=(h' b1 dQ).2.2.2.2.2 b2 (by simp only[St.set,St.new];rw[bM _ _ (Ne.symm e)];exact YL)
    simp only[St.set,St.new] at this⊢
    rw[qi _ _ _ (Ne.symm hd),qi _ _ _ (Ne.symm e)]
    exact this
  ·rename_i hno
   have:=h b0 hb0
   split at this
   ·rename_i i' j' e3 e4
    exact(hno _ _ e3 e4).elim
   ·exact this.elim
 ·exact h.elim
def mY(y i:Yr):Bool:=
 match YN y with
 |some (dy,ry)=>match YN i with
  |some (di,ri)=>dy != di&&bx dy ri&&bx di ry
  |none=>match i with
   |.alloc di _=>dy != di&&bx di ry
   |.aO di _ _ _ ps=>dy != di&&bx dy (ps.map (·.2))&&bx di ry&&ef ry
   |.app di x x' _ _=>dy != di&&bx dy [x,x']&&bx di ry&&ef ry
   |.eL di x u _ _ _=>dy != di&&bx dy [x,u]&&bx di ry
   |.js di x u m _=>dy != di&&bx dy [x,u,m]&&bx di ry&&ef ry
   |.guard g _ (some d) (.aO di _ _ _ ps)=>d==di&&dy != di&&bx dy (.t g::ps.map (·.2))&&bx di ry&&ef ry
   |.apart zs x (.store x1 x' _ _)=>j6 x x1&&bx dy (x::x'::zs)&&ef ry&&(Zq y).all fun z=>zs.any (j6 z)
   |.jt di x k _ _=>dy != di&&bx dy [x,k]&&bx di ry&&sG ry&&decide (dy<gS)
   |_=>false
 |none=>match y,i with
  |.alloc d1 _,.alloc d2 _=>d1 != d2
  |.alloc d1 _,.apart zs x (.store x1 x' _ o2)=>o2==0&&j6 x x1&&bx d1 (x::x'::zs)
  |.apart _ x (.store x1 _ _ o1),.apart zs x2 (.store x3 _ _ o2)=>o1==0&&o2==0&&j6 x x1&&j6 x2 x3&&zs.any (j6 x)
  |.apart zs x (.store x1 x' _ o1),m=>o1==0&&j6 x x1&&match YN m with
   |some (di,_)=>bx di (x::x'::zs)&&(Zq m).all fun z=>zs.any (j6 z)
   |none=>false
  |.aO d1 _ _ _ p1,.aO d2 _ _ _ p2=>d1 != d2&&bx d1 (p2.map (·.2))&&bx d2 (p1.map (·.2))&&ef (p1.map (·.2))&&ef (p2.map (·.2))
  |.guard g1 _ (some c1) (.aO d1 _ _ _ p1),.guard g2 _ (some c2) (.aO d2 _ _ _ p2)=>c1==d1&&c2==d2&&d1 != d2&&d1 != g2&&d2 != g1&&bx d1 (p2.map (·.2))&&bx d2 (p1.map (·.2))&&ef (p1.map (·.2))&&ef (p2.map (·.2))
  |.aO d1 _ _ _ p1,.app d2 x x' _ _=>d1 != d2&&bx d1 [x,x']&&bx d2 (p1.map (·.2))&&ef (p1.map (·.2))&&ef [x,x']
  |.eL d1 n1 c1 _ _ _,.eL d2 n2 c2 _ _ _=>d1 != d2&&bx d1 [n2,c2]&&bx d2 [n1,c1]
  |.aO d1 _ _ _ p1,.js d2 x u m _=>d1 != d2&&bx d1 [x,u,m]&&bx d2 (p1.map (·.2))&&ef (p1.map (·.2))&&ef [x,u,m]
  |.lookup d1 x k _ false z,.jt d2 x2 k2 _ z2=>j6 x x2&&j6 k k2&&yj z z2&&d1 != d2&&bx d1 [x,k]&&bx d2 [x,k]&&sG [x,k]&&decide (d1<gS)&&decide (d2<gS)
  |.lookup d1 x k _ false _,.alloc d2 _=>d1 != d2&&bx d2 [x,k]&&decide (d2<gS)
  |.lookup d1 x k _ false _,m=>match YN m with
   |some (di,ri)=>d1 != di&&bx d1 ri&&bx di [x,k]&&decide (di<gS)
   |none=>false
  |_,_=>false
theorem Nv{y i:Yr}(h:mY y i=true){s:St}{K:St→Prop}(hf:fj s)(hv:Yp P y s (fun s1=>Yp P i s1 K)):Yp P i s (fun s1=>Yp P y s1 K):=by
 unfold mY at h
 split at h
 ·rename_i dy ry hy
  split at h
  ·rename_i di ri hi
   simp only[Bool.and_eq_true,bne_iff_ne] at h
   exact M0 hy hi h.1.1 h.1.2 h.2 hv
  ·split at h
   ·simp only[Bool.and_eq_true,bne_iff_ne] at h
    exact M1 hy h.1 h.2 hv
   ·simp only[Bool.and_eq_true,bne_iff_ne] at h
    exact DH hy h.1.1.1 h.1.1.2 h.1.2 h.2 hv
   ·simp only[Bool.and_eq_true,bne_iff_ne] at h
    exact M4 hy h.1.1.1 h.1.1.2 h.1.2 h.2 hv
   ·simp only[Bool.and_eq_true,bne_iff_ne] at h
    exact M_ hy h.1.1 h.1.2 h.2 hv
   ·simp only[Bool.and_eq_true,bne_iff_ne] at h
    exact M5 hy h.1.1.1 h.1.1.2 h.1.2 h.2 hv
   ·simp only[Bool.and_eq_true,bne_iff_ne,beq_iff_eq] at h
    obtain⟨⟨⟨⟨rfl,g1⟩,g2⟩,g3⟩,g4⟩:=h
    exact Nb hy g1 g2 g3 g4 hv
   ·rename_i zs x x1 x' n br hni
    simp only[Bool.and_eq_true] at h
    obtain⟨⟨⟨h1,h2⟩,h3⟩,h4⟩:=h
    have e:=lP h1
    subst e
    refine M6 hy h2 h3 (fun z hz=> ?_) hv
    have:=(List.all_eq_true.1 h4) z hz
    obtain⟨w,hw,e⟩:=List.any_eq_true.1 this
    rw[lP e];exact hw
   ·simp only[Bool.and_eq_true,bne_iff_ne,decide_eq_true_eq] at h
    exact Nk hy h.1.1.1.1 h.1.1.1.2 h.1.1.2 h.1.2 h.2 hv
   ·cases h
 ·split at h
  ·simp only[bne_iff_ne] at h
   exact M3 h hv
  ·simp only[Bool.and_eq_true,beq_iff_eq] at h
   obtain⟨⟨h1,h2⟩,h3⟩:=h
   have e:=lP h2
   subst e h1
   exact Nf h3 hf hv
  ·simp only[Bool.and_eq_true,beq_iff_eq] at h
   obtain⟨⟨⟨⟨h1,h2⟩,h3⟩,h4⟩,h5⟩:=h
   have e:=lP h3
   have e':=lP h4
   subst e e' h1 h2
   obtain⟨w,hw,e⟩:=List.any_eq_true.1 h5
   rw[←lP e] at hw
   exact Nh hw hv
  ·simp only[Bool.and_eq_true,beq_iff_eq] at h
   obtain⟨⟨h1,h2⟩,h3⟩:=h
   have e:=lP h2
   subst e h1
   split at h3
   ·rename_i di ri hi
    simp only[Bool.and_eq_true] at h3
    refine Nj hi h3.1 (fun z hz=> ?_) hv
    obtain⟨w,hw,e⟩:=List.any_eq_true.1 ((List.all_eq_true.1 h3.2) z hz)
    rw[lP e];exact hw
   ·cases h3
  ·simp only[Bool.and_eq_true,bne_iff_ne] at h
   exact DM h.1.1.1.1 h.1.1.1.2 h.1.1.2 h.1.2 h.2 hv
  ·simp only[Bool.and_eq_true,bne_iff_ne,beq_iff_eq] at h
   obtain⟨⟨⟨⟨⟨⟨⟨⟨rfl,rfl⟩,g1⟩,g2⟩,g3⟩,g4⟩,g5⟩,g6⟩,g7⟩:=h
   exact Nd g1 g2 g3 g4 g5 g6 g7 hv
  ·simp only[Bool.and_eq_true,bne_iff_ne] at h
   exact M9 h.1.1.1.1 h.1.1.1.2 h.1.1.2 h.1.2 h.2 hv
  ·simp only[Bool.and_eq_true,bne_iff_ne] at h
   exact Nu h.1.1 h.1.2 h.2 hf hv
  ·simp only[Bool.and_eq_true,bne_iff_ne] at h
   exact Na h.1.1.1.1 h.1.1.1.2 h.1.1.2 h.1.2 h.2 hv
  ·simp only[Bool.and_eq_true,bne_iff_ne,decide_eq_true_eq] at h
   obtain⟨⟨⟨⟨⟨⟨⟨⟨g1,g2⟩,g3⟩,g4⟩,g5⟩,g6⟩,g7⟩,g8⟩,g9⟩:=h
   have e1:=lP g1
   have e2:=lP g2
   have e3:=Nt g3
   subst e1 e2 e3
   exact No g4 g5 g6 g7 g8 g9 hv
  ·simp only[Bool.and_eq_true,bne_iff_ne,decide_eq_true_eq] at h
   exact Nm h.1.1 h.1.2 h.2 hv
  ·split at h
   ·rename_i di ri hi
    simp only[Bool.and_eq_true,bne_iff_ne,decide_eq_true_eq] at h
    exact Nl hi h.1.1.1 h.1.1.2 h.1.2 h.2 hv
   ·cases h
  ·cases h
theorem Nw{y i:Yr}(h:mY y i=true){s:St}{K K':St→Prop}(hf:fj s)(hk:∀s,fj s→K s→K' s)(hv:Yp P y s K):Yp P y s K':=by
 unfold mY at h
 split at h
 ·rename_i dy ry hy
  rw[ep P y dy ry hy] at hv⊢
  exact ie P _ _ y _ _ (fun v=>hk _ (hf.set _ _)) hv
 ·split at h
  ·exact fun b hb=>hk _ ((hf.new _ _).set _ _) (hv b hb)
  ·exact fun b hb=>hk _ ((hf.new _ _).set _ _) (hv b hb)
  ·simp only[Bool.and_eq_true,beq_iff_eq] at h
   have e:=h.1.1.1.1
   subst e
   obtain⟨ha,hv⟩:=hv
   exact⟨ha,DR (fun b cs=>hk _ (hf.new _ _)) hv⟩
  ·simp only[Bool.and_eq_true,beq_iff_eq] at h
   have e:=h.1.1
   subst e
   obtain⟨ha,hv⟩:=hv
   exact⟨ha,DR (fun b cs=>hk _ (hf.new _ _)) hv⟩
  ·exact iQ _ _ _ _ _ _ (fun v=>hk _ ((hf.aK _).set _ _)) hv
  ·simp only[Bool.and_eq_true,beq_iff_eq] at h
   rcases vb hv with ⟨ha,hv⟩|⟨ha,hv⟩
   ·have e:=h.1.1.1.1.1.1.1.1
    subst e
    exact sE ha (iQ _ _ _ _ _ _ (fun v=>hk _ ((hf.aK _).set _ _)) hv)
   ·exact sF ha (hk _ (hf.set _ _) hv)
  ·exact iQ _ _ _ _ _ _ (fun v=>hk _ ((hf.aK _).set _ _)) hv
  ·simp only[Yp] at hv⊢
   split at hv
   ·exact⟨hv.1,hv.2.1,hv.2.2.1,hv.2.2.2.1,hv.2.2.2.2.1,fun b hb=>hk _ ((hf.new _ _).set _ _) (hv.2.2.2.2.2 b hb)⟩
   ·exact hv.elim
  ·exact iQ _ _ _ _ _ _ (fun v=>hk _ ((hf.aK _).set _ _)) hv
  ·exact yh hf hk hv
  ·exact yh hf hk hv
  ·exact yh hf hk hv
  ·cases h
theorem aa2{i:Yr}{post:List Yr}{K:St→Prop}:∀(pre:List Yr),(∀y∈pre,mY y i=true)→∀s,fj s→vcs P (pre++i::post) K s→Yp P i s (vcs P (pre++post) K)
 |[],_,s,_,h=>h
 |y::pre,hc,s,hf,h=>by
  have hy:=hc y (by simp)
  refine Nv hy hf (Nw hy hf (fun s1 Nx h1=> ?_) h)
  exact aa2 pre (fun z hz=>hc z (by simp[hz])) s1 Nx h1
inductive Reach (ops:Array Oper):Nat→Nat→Prop
 |one {i:Nat} {o:Oper} {e:Edge} (ho:ops[i]? =some o) (he:e∈o.after) (hb:Region.binds .any e=true):Reach ops i e.on
 |more {i y:Nat} {o:Oper} {e:Edge} (ho:ops[i]? =some o) (he:e∈o.after) (hb:Region.binds .any e=true) (h:Reach ops e.on y):Reach ops i y
def mZ(bs:Array Nat):List (Nat×Yr)→Bool
 |[]=>true
 |(y,my)::rest=>(rest.all fun p=>(bs.getD p.1 0).testBit y||mY my p.2)&&mZ bs rest
theorem DX(ops:Array Oper)(acc:Array Nat)(i:Nat)(o:Oper)(ho:ops[i]? =some o)(hacc:∀j y,(acc.getD j 0).testBit y=true→Reach ops j y):∀(es:List Edge),(∀e∈es,e∈o.after)→∀(s0:Nat),(∀y,s0.testBit y=true→Reach ops i y)→∀y,(es.foldl (fun s e=>if Region.binds .any e then s ||| 2^e.on ||| acc.getD e.on 0 else s) s0).testBit y=true→Reach ops i y
 |[],_,s0,h0,y,h=>h0 y h
 |e::es,sI,s0,h0,y,h=>by
  refine DX ops acc i o ho hacc es (fun e he=>sI e (List.mem_cons_of_mem _ he)) _ (fun z hz=> ?_) y h
  dsimp only at hz
  split at hz
  ·rename_i hb
   simp only[Nat.testBit_or,Bool.or_eq_true,Nat.testBit_two_pow,decide_eq_true_eq] at hz
   rcases hz with (hz|hz)|hz
   ·exact h0 z hz
   ·rw[←hz];exact .one ho (sI e (List.mem_cons_self ..)) hb
   ·exact .more ho (sI e (List.mem_cons_self ..)) hb (hacc _ _ hz)
  ·exact h0 z hz
theorem DY(ops:Array Oper):∀j y,((Region.before ops).getD j 0).testBit y=true→Reach ops j y:=by
 have key:∀(l:List Oper) (acc:Array Nat),(∀k,l[k]? =ops[acc.size+k]?)→(∀j y,(acc.getD j 0).testBit y=true→Reach ops j y)→∀j y,((l.foldl (fun(acc:Array Nat) o=>acc.push (o.after.foldl (fun s e=>if Region.binds .any e then s ||| 2^e.on ||| acc.getD e.on 0 else s) 0)) acc).getD j 0).testBit y=true→Reach ops j y:=by
  intro l
  induction l with
  |nil=>intro acc _ h;exact h
  |cons o l ih=>
   intro acc hl h
   have ho:ops[acc.size]? =some o:=by have:=hl 0;simpa using this.symm
   refine ih _ (fun k=> ?_) (fun j y hj=> ?_)
   ·have:=hl (k+1)
    rw[Array.size_push]
    simpa[Nat.add_assoc,Nat.add_comm 1 k] using this
   ·by_cases Ny:j<acc.size
    ·refine h j y ?_
     simp only[Array.getD_eq_getD_getElem?,Array.getElem?_push] at hj⊢
     rw[if_neg (by omega)] at hj
     exact hj
    ·by_cases DZ:j=acc.size
     ·subst DZ
      have e1:∀M:Nat,(acc.push M).getD acc.size 0=M:=fun M=>by simp
      rw[e1,←Array.foldl_toList] at hj
      exact DX ops acc acc.size o ho h o.after.toList (fun e he=>by simpa using he) 0 (fun z hz=>by simp at hz) y hj
     ·simp only[Array.getD_eq_getD_getElem?,Array.getElem?_push] at hj
      rw[if_neg DZ,Array.getElem?_eq_none (by omega)] at hj
      simp at hj
 intro j y h
 unfold Region.before at h
 rw[←Array.foldl_toList] at h
 exact key ops.toList #[] (fun k=>by simp) (fun j y hj=>by simp at hj) j y h
theorem D0{ops:Array Oper}{listed:Array Bool}(cu:∀i o,listed.getD i true=true→i<ops.size→ops[i]? =some o→o.after.all (fun e=> !Region.binds .any e||listed.getD e.on false)=true)(hls:listed.size=ops.size){i y:Nat}(h:Reach ops i y):∀o,ops[i]? =some o→o.after.all (fun e=> !Region.binds .any e||listed.getD e.on false)=true→listed.getD y false=true:=by
 induction h with
 |one ho he hb=>
  intro o ho' hall
  rw[ho] at ho';injection ho' with ho';subst ho'
  have hl:=(Array.all_eq_true_iff_forall_mem.1 hall) _ he
  simpa[hb] using hl
 | @more i y o e ho he hb h ih=>
   intro o' ho' hall
   rw[ho] at ho';injection ho' with ho';subst ho'
   have hl:=(Array.all_eq_true_iff_forall_mem.1 hall) _ he
   simp only[hb,Bool.not_true,Bool.false_or] at hl
   have hlt:e.on<listed.size:=by
    rcases Nat.lt_or_ge e.on listed.size with h3|h3
    ·exact h3
    ·simp[Array.getD_eq_getD_getElem?,Array.getElem?_eq_none h3] at hl
   have kM:ops[e.on]? =some ops[e.on]:=Array.getElem?_eq_getElem (by omega)
   refine ih _ kM (cu e.on _ ?_ (by omega) kM)
   rw[Array.getD_eq_getD_getElem?,Array.getElem?_eq_getElem hlt] at hl⊢
   exact hl
end Go.az
namespace Go.az
open Go.RowKit
def Nz:Operand→Bool
 |.const (.slice none 0 0)=>true
 |_=>false
def sJ(P:Program)(aE:cv)(N:Nat)(ops:Array Oper)(o:Oper):Option Yr:=
 match o.guard,o.dst,o.op with
 |none,some d,.assign x=>if Nz x||aE.own.contains d then nU P aE N ops o else if d<N then (aD x).map (.eW d ·) else none
 |none,some d,.load _ _=>match nU P aE N ops o with
  |some (.load d' x n)=>if aE.CR.contains d then some (.Zo d' x n) else some (.load d' x n)
  |m=>m
 |none,none,.store _ (.tmp k) _=>match nU P aE N ops o with
  |some (.store x y n br)=>some (.apart (look aE.ap k []) x (.store x y n br))
  |m=>m
 |_,_,_=>nU P aE N ops o
section
variable {P:Program} {N:Nat} {s:St} {a:Act} {w:World} {A:aJ} {sp:Sp} {K:St→Prop} {Q:Exit→Act→World→Prop} {o:Oper}
theorem D1{aE:cv}{ops:Array Oper}{m:Yr}{rest:Act→World→Prop}(hm:sJ P aE N ops o=some m)(h:RS N s a w A sp)(hv:Yp P m s K)(hn:Next s w A sp N K rest):(if Region.wanted o (yielded ops a.tmps)=true then o.wp P a w rest Q∨(o.asks P a w∧LetsOut Q) else rest (a.put o.dst undef) w):=by
 unfold sJ at hm
 split at hm
 ·rename_i d x hg hd hop
  split at hm
  ·exact n3 hm h hv hn
  ·split at hm
   ·rename_i hN
    simp only[Option.map_eq_some_iff] at hm
    obtain⟨y,hy,rfl⟩:=hm
    have hw:Region.wanted o (yielded ops a.tmps)=true:=by simp[Region.wanted,hg]
    rw[if_pos hw]
    exact .inl (fin h hd hN (by simp[execOp,hop]) (bg h hy).1.erase .erase hv hn)
   ·cases hm
 ·split at hm
  ·rename_i d' x n hm'
   split at hm
   ·injection hm with hm;subst hm
    refine n3 hm' h ?_ hn
    simp only[Yp] at hv⊢
    split at hv
    ·rename_i e1;rw[e1];exact hv
    ·exact hv.elim
   ·injection hm with hm;subst hm
    exact n3 hm' h hv hn
  ·exact n3 hm h hv hn
 ·split at hm
  ·rename_i hm'
   injection hm with hm;subst hm
   exact n3 hm' h hv.2 hn
  ·exact n3 hm h hv hn
 ·exact n3 hm h hv hn
end
def ym(ops:Array Oper):Bool:=(List.range ops.size).all fun i=>match ops[i]? with
 |some o=>o.after.all fun e=> !Region.binds .any e||decide (e.on<i)
 |none=>true
def ve:List Nat→Bool
 |[]=>true
 |x::xs=> !xs.contains x&&ve xs
theorem D2:∀(l:List Nat),ve l=true→l.Nodup
 |[],_=>List.nodup_nil
 |x::xs,h=>by
  simp only[ve,Bool.and_eq_true,Bool.not_eq_true'] at h
  exact List.nodup_cons.2 ⟨by simpa using h.1,D2 xs h.2⟩
theorem yo{bs:Array Nat}{x:Nat×Yr}{post:List (Nat×Yr)}:∀(pre:List (Nat×Yr)),mZ bs (pre++x::post)=true→mZ bs (pre++post)=true∧∀y∈pre,((bs.getD x.1 0).testBit y.1||mY y.2 x.2)=true
 |[],h=>by
  simp only[List.nil_append,mZ,Bool.and_eq_true] at h
  exact⟨h.2,by simp⟩
 |(y,my)::pre,h=>by
  simp only[List.cons_append,mZ,Bool.and_eq_true] at h
  obtain⟨h1,h2⟩:=yo pre h.2
  refine⟨?_,fun z hz=> ?_⟩
  ·simp only[List.cons_append,mZ,Bool.and_eq_true]
   refine⟨List.all_eq_true.2 fun p hp=>(List.all_eq_true.1 h.1) p ?_,h1⟩
   rcases List.mem_append.1 hp with hp|hp
   ·exact List.mem_append_left _ hp
   ·exact List.mem_append_right _ (List.mem_cons_of_mem _ hp)
  ·rcases List.mem_cons.1 hz with rfl|hz
   ·exact(List.all_eq_true.1 h.1) x (List.mem_append_right _ (List.mem_cons_self ..))
   ·exact h2 z hz
theorem Xp{P:Program}{aE:cv}{N:Nat}{ops:Array Oper}{K:St→Prop}{Q:Exit→Act→World→Prop}(sK:ym ops=true):∀(n:Nat) (rem:List (Nat×Yr)) (listed:Array Bool) (s:St) (a:Act) (w:World) (A:aJ) (sp:Sp),
  rem.length=n→listed.size=ops.size→(rem.map (·.1)).Nodup→(∀i,i<ops.size→(listed.getD i true=false↔i∈rem.map (·.1)))→
  (∀p∈rem,∃o,ops[p.1]? =some o∧sJ P aE N ops o=some p.2)→mZ (Region.before ops) rem=true→
  (∀i o,listed.getD i true=true→i<ops.size→ops[i]? =some o→o.after.all (fun e=> !Region.binds .any e||listed.getD e.on false)=true)→
  RS N s a w A sp→vcs P (rem.map (·.2)) K s→(∀s' a' w' A' sp',K s'→RS N s' a' w' A' sp'→Ev w A (live s.loc sp) w' A' (live s'.loc sp')→Q .normal a' w')→
  wpAny P .any ops Q n listed a w:=by
 intro n
 induction n with
 |zero=>
  intro rem listed s a w A sp hlen hls YG hin kQ m0 cu h hv hn
  have yp:rem=[]:=List.eq_nil_of_length_eq_zero hlen
  subst yp
  refine⟨?_,hn _ _ _ _ _ hv h (.refl _ _ _)⟩
  rw[Region.ready,List.filter_eq_nil_iff]
  intro i hi
  have hi':i<ops.size:=by simpa using hi
  have:=(hin i hi')
  simp only[List.map_nil,List.not_mem_nil,iff_false,Bool.not_eq_false] at this
  simp[this]
 |succ n ih=>
  intro rem listed s a w A sp hlen hls YG hin kQ m0 cu h hv hn
  have hmem:∀i,i∈Region.ready .any ops listed→i<ops.size∧listed.getD i true=false∧∃o,ops[i]? =some o∧o.after.all (fun e=> !Region.binds .any e||listed.getD e.on false)=true:=by
   intro i hi
   rw[Region.ready,List.mem_filter] at hi
   obtain⟨h1,h2⟩:=hi
   have h1:i<ops.size:=by simpa using h1
   simp only[Bool.and_eq_true,Bool.not_eq_true'] at h2
   refine⟨h1,h2.1,ops[i],Array.getElem?_eq_getElem h1,?_⟩
   have:=h2.2
   rw[Array.getElem?_eq_getElem h1] at this
   exact this
  refine⟨fun qI=> ?_,fun i hi=> ?_⟩
  ·
   exfalso
   have hne:rem.map (·.1)≠[]:=by
    intro e
    have:rem.length=0:=by simpa using congrArg List.length e
    omega
   have hex:∃i,i∈rem.map (·.1)∧∀j,j∈rem.map (·.1)→i≤j:=by
    generalize rem.map (·.1)=l at hne
    induction l with
    |nil=>exact absurd rfl hne
    |cons x l ihl=>
     by_cases hl:l=[]
     ·subst hl;exact⟨x,by simp,by simp⟩
     ·obtain⟨i,h1,h2⟩:=ihl hl
      by_cases hx:x≤i
      ·exact⟨x,by simp,fun j hj=>by rcases List.mem_cons.1 hj with rfl|hj;exact Nat.le_refl _;exact Nat.le_trans hx (h2 j hj)⟩
      ·exact⟨i,by simp[h1],fun j hj=>by rcases List.mem_cons.1 hj with rfl|hj;omega;exact h2 j hj⟩
   obtain⟨i,hi1,hi2⟩:=hex
   obtain⟨p,hp,rfl⟩:=List.mem_map.1 hi1
   obtain⟨o,ho,_⟩:=kQ p hp
   have hlt:=(Array.getElem?_eq_some_iff.1 ho).1
   have sL:p.1∈Region.ready .any ops listed:=by
    rw[Region.ready,List.mem_filter]
    refine⟨by simpa using hlt,?_⟩
    have hl:listed.getD p.1 true=false:=(hin _ hlt).2 hi1
    simp only[hl,Bool.not_false,Bool.true_and,ho,Option.map_some,Option.getD_some]
    refine Array.all_eq_true_iff_forall_mem.2 fun e he=> ?_
    cases hb:Region.binds .any e
    ·rfl
    ·have hf:=(List.all_eq_true.1 sK) p.1 (by simpa using hlt)
     rw[ho] at hf
     have hf:=(Array.all_eq_true_iff_forall_mem.1 hf) e he
     simp only[hb,Bool.not_true,Bool.false_or,decide_eq_true_eq] at hf
     have hnot:e.on∉rem.map (·.1):=fun hm=>by have:=hi2 _ hm;omega
     have hlo:e.on<ops.size:=by omega
     have:=mt (hin e.on hlo).1 hnot
     rw[Bool.not_eq_false] at this
     rw[Array.getD_eq_getD_getElem?,Array.getElem?_eq_getElem (by omega)] at this
     simp only[Bool.not_true,Bool.false_or]
     rw[Array.getD_eq_getD_getElem?,Array.getElem?_eq_getElem (by omega)]
     exact this
   rw[qI] at sL
   cases sL
  ·obtain⟨hlt,YF,o,ho,hall⟩:=hmem i hi
   have yq:i∈rem.map (·.1):=(hin i hlt).1 YF
   obtain⟨p,hp,rfl⟩:=List.mem_map.1 yq
   obtain⟨pre,post,rfl⟩:=List.append_of_mem hp
   obtain⟨yt,kM⟩:=yo pre m0
   obtain⟨o',ho',yu⟩:=kQ p hp
   rw[ho] at ho';injection ho' with ho';subst ho'
   have yw:∀y∈pre.map (·.2),mY y p.2=true:=by
    intro y hy
    obtain⟨q,hq,rfl⟩:=List.mem_map.1 hy
    have:=kM q hq
    cases hw:((Region.before ops).getD p.1 0).testBit q.1
    ·rw[hw,Bool.false_or] at this;exact this
    ·exfalso
     have h1:=D0 cu hls (DY ops _ _ hw) o ho hall
     obtain⟨oq,hoq,_⟩:=kQ q (List.mem_append_left _ hq)
     have yx:=(Array.getElem?_eq_some_iff.1 hoq).1
     have h2:=(hin q.1 yx).2 (List.mem_map.2 ⟨q,List.mem_append_left _ hq,rfl⟩)
     rw[Array.getD_eq_getD_getElem?,Array.getElem?_eq_getElem (by omega)] at h1 h2
     rw[Option.getD_some] at h1 h2
     rw[h1] at h2;cases h2
   rw[List.map_append,List.map_cons] at hv
   have ZZ:fj s:=⟨w.heap.size,fun b hb=>by
    cases hl:s.loc b with
    |none=>rfl
    |some cs=>
     obtain⟨vs,T,h1,_⟩:=h.loc b cs hl
     have:=(Array.getElem?_eq_some_iff.1 h1).1
     omega⟩
   have gJ:=aa2 (pre.map (·.2)) yw s ZZ hv
   rw[←List.map_append] at gJ
   unfold wpOp
   simp only[ho]
   refine D1 yu h gJ fun s' a' w' A' sp' hk hr aL=> ?_
   have cL:∀j,j<ops.size→(listed.setIfInBounds p.1 true).getD j true=if j=p.1 then true else listed.getD j true:=by
    intro j hj
    simp only[Array.getD_eq_getD_getElem?]
    by_cases e:j=p.1
    ·subst e;rw[Array.getElem?_setIfInBounds_self_of_lt (by omega)];simp
    ·rw[Array.getElem?_setIfInBounds_ne (Ne.symm e),if_neg e]
   refine ih (pre++post) (listed.setIfInBounds p.1 true) s' a' w' A' sp' (by simp at hlen⊢;omega) (by simpa using hls) ?_ (fun j hj=> ?_) (fun q hq=>kQ q ?_) yt (fun j oj hj sM kR=> ?_) hr hk (fun s2 a2 w2 A2 fl hk2 cH dw=>hn s2 a2 w2 A2 fl hk2 cH (aL.trans dw))
   ·rw[List.map_append,List.map_cons] at YG
    rw[List.map_append]
    exact YG.sublist (List.Sublist.append_left (List.sublist_cons_self _ _) _)
   ·rw[cL j hj]
    rw[List.map_append,List.map_cons] at YG hin
    rw[List.map_append]
    by_cases e:j=p.1
    ·subst e
     simp only[if_true,Bool.true_eq_false,false_iff,List.mem_append,not_or]
     have:=List.nodup_append.1 YG
     refine⟨fun hm=>(this.2.2 _ hm _ (List.mem_cons_self ..)) rfl,fun hm=> ?_⟩
     exact(List.nodup_cons.1 this.2.1).1 hm
    ·rw[if_neg e,hin j hj]
     simp only[List.mem_append,List.mem_cons,e,false_or]
   ·rcases List.mem_append.1 hq with hq|hq
    ·exact List.mem_append_left _ hq
    ·exact List.mem_append_right _ (List.mem_cons_of_mem _ hq)
   ·have yy:∀k,listed.getD k false=true→(listed.setIfInBounds p.1 true).getD k false=true:=by
     intro k hk
     simp only[Array.getD_eq_getD_getElem?] at hk⊢
     by_cases e:k=p.1
     ·subst e;rw[Array.getElem?_setIfInBounds_self_of_lt (by omega)];rfl
     ·rw[Array.getElem?_setIfInBounds_ne (Ne.symm e)];exact hk
    have Z8:oj.after.all (fun e=> !Region.binds .any e||listed.getD e.on false)=true:=by
     rw[cL j sM] at hj
     by_cases e:j=p.1
     ·subst e;rw[ho] at kR;injection kR with kR;subst kR;exact hall
     ·rw[if_neg e] at hj;exact cu j oj hj sM kR
    refine Array.all_eq_true_iff_forall_mem.2 fun e he=> ?_
    have:=(Array.all_eq_true_iff_forall_mem.1 Z8) e he
    cases hb:Region.binds .any e
    ·rfl
    ·simp only[hb,Bool.not_true,Bool.false_or] at this⊢
     exact yy _ this
end Go.az
namespace Go.az
open Go.RowKit
theorem NA{x:AV}(h:jr x=true)(r:Nat):aG r x=x:=by cases x<;>first|rfl|cases h
def qJ:Yr→Bool
 |.aa d _|.nK d _|.Yo d _|.bS d _|.bB d _ _|.mE d _ _|.alloc d _|.load d _ _|.Zo d _ _|.addr d _ _|.aU d _ _ _|.bV d _ _ _ _|.kH d _ _ _
 |.kI d _ _ _ _ _|.jU d _ _|.build d _ _|.aO d _ _ _ _|.len d _|.jV d _|.mF d _|.app d _ _ _ _|.bin d _ _ _|.lE d _ _ _|.fP d _ _ _ _
 |.not d _|.neg d _|.conv d _ _|.pick d _ _ _|.ext d _ _|.fQ d _ _|.h_ d _ _|.call d _ _|.eV d _ _|.eK d _ _ _|.bO d _|.iM d _ _ _|.nM d _ _ _|.eW d _|.isNil d _ _
 |.eL d _ _ _ _ _|.nO d _ _ _|.oH d _ _|.oI d _ _|.js d _ _ _ _|.aar d _ _ _ _|.nP d _ _ _|.ql d _ _ _|.iN d _ _ _ _ _|.oJ d _ _ _|.rY d _ _=>decide (d<gS)
 |.store .. |.nL .. =>true
 |.bJ k _ _=>decide (k<gS)
 |.apart _ _ m=>qJ m
 |.guard _ _ d m=>(match d with|some d=>decide (d<gS)|none=>true)&&qJ m
 |.dZ .. |.jW .. |.mG .. |.nN .. |.oK .. |.oL .. |.mkMap .. |.qm .. |.qn .. |.kJ .. |.jt .. |.rW .. |.rX .. |.lookup .. |.Yu _=>false
section
variable {P:Program} {s:St}
theorem cy{d:Nat}{x:AV}(h:decide (d<gS)=true)(k:Nat)(hk:gS≤k):(s.set d x).env k=s.env k:=bM _ _ (by intro e;have:=of_decide_eq_true h;omega)
theorem Z9{r:Nat}(h:∀k,gS≤k→jr (s.env k)=true)(k:Nat)(hk:gS≤k):(s.aK r).env k=s.env k:=NA (h k hk) r
theorem yz{r q:Nat}(h:∀k,gS≤k→jr (s.env k)=true)(k:Nat)(hk:gS≤k):((s.aK r).aK q).env k=s.env k:=by rw[Z9 (fun k hk=>by rw[Z9 h k hk];exact h k hk) k hk,Z9 h k hk]
theorem NB{d:Nat}{x:AV}(hd:decide (d<gS)=true)(h:∀k,gS≤k→jr (s.env k)=true)(k:Nat)(hk:gS≤k):(Y4 s d x).env k=s.env k:=by
 unfold Y4
 split
 ·split
  ·exact cy hd k hk
  ·rw[cy hd k hk];exact yz h k hk
 ·exact cy hd k hk
theorem sN{cs:List AV}{off:Nat}{n:Option Nat}{K K':AV→Prop}(h:∀v,K v→K' v)(hv:cC cs off n K):cC cs off n K':=by
 cases n with
 |none=>exact⟨hv.1,h _ hv.2⟩
 |some n=>exact⟨hv.1,h _ hv.2⟩
theorem NC{l:Loc}{x:AV}{n:Option Nat}{K K':AV→Prop}(h:∀v,K v→K' v)(hv:dr l x n K):dr l x n K':=by
 unfold dr at hv⊢
 split at hv
 ·exact sN (fun v=>h _) hv
 ·split at hv
  ·exact sN h hv
  ·exact hv.elim
 ·exact hv.elim
theorem ND{op:BinOp}{k:IntKind}{a b:Int}{K K':AV→Prop}(h:∀v,K v→K' v)(hv:eX op k a b K):eX op k a b K':=by cases op<;>simp only[eX] at hv⊢ <;>first|exact h _ hv|exact⟨hv.1,h _ hv.2⟩|exact⟨hv.1,hv.2.1,h _ hv.2.2⟩|exact hv.elim
theorem NF{op:BinOp}{a b:ByteArray}{K K':AV→Prop}(h:∀v,K v→K' v)(hv:nQ op a b K):nQ op a b K':=by cases op<;>simp only[nQ] at hv⊢ <;>first|exact h _ hv|exact hv.elim
theorem D3{op:BinOp}{k:IntKind}{a b:Int}{K K':AV→Prop}(h:∀v,K v→K' v)(hv:qo op k a b K):qo op k a b K':=by cases op<;>simp only[qo] at hv⊢ <;>first|exact⟨hv.1,h _ hv.2⟩|exact hv.elim
theorem NG{op:BinOp}{x y:AV}{K K':AV→Prop}(h:∀v,K v→K' v)(hv:cZ op x y K):cZ op x y K':=by
 unfold cZ at hv⊢
 split at hv
 ·split at hv
  ·exact D3 h hv
  ·exact D3 h hv
  ·exact⟨hv.1,ND h hv.2⟩
 ·exact NF h hv
 ·exact hv.elim
theorem D4{e:Nat→AV}:∀{ps:List (Nat×Nat×ai)} {cs:List AV} {K K':List AV→Prop},(∀v,K v→K' v)→lF e cs ps K→lF e cs ps K'
 |[],_,_,_,h,hv=>h _ hv
 |_::_,_,_,_,h,hv=>⟨hv.1,hv.2.1,D4 h hv.2.2⟩
theorem D5{e:Nat→AV}{sz:Nat}:∀{ps:List (Nat×ai)} {xs:List AV} {K K':List AV→Prop},(∀v,K v→K' v)→gY e sz xs ps K→gY e sz xs ps K'
 |[],_,_,_,h,hv=>h _ hv
 |_::_,_,_,_,h,hv=>⟨hv.1,hv.2.1,hv.2.2.1,D5 h hv.2.2.2⟩
theorem NH:∀{m:Yr} {s:St} {K:St→Prop},qJ m=true→(∀k,gS≤k→jr (s.env k)=true)→Yp P m s K→Yp P m s (fun s'=>K s'∧∀k,gS≤k→s'.env k=s.env k):=by
 intro m
 induction m with
 |apart zs x m ih=>intro s K hm hg h;exact⟨h.1,ih hm hg h.2⟩
 |guard g want d m ih=>
  intro s K hm hg h
  simp only[qJ,Bool.and_eq_true] at hm
  cases d with
  |none=>
   simp only[Yp] at h⊢
   split at h
   ·exact⟨fun e=>ih hm.2 hg (h.1 e),fun e=>⟨h.2 e,fun _ _=>by first|rfl|trivial⟩⟩
   ·exact⟨h,fun _ _=>by first|rfl|trivial⟩
   ·exact h.elim
  |some d=>
   simp only[Yp] at h⊢
   split at h
   ·exact⟨fun e=>ih hm.2 hg (h.1 e),fun e=>⟨h.2 e,cy hm.1⟩⟩
   ·exact⟨h,cy hm.1⟩
   ·exact h.elim
 |mG=>intro s K hm;cases hm
 |oK=>intro s K hm;cases hm
 |oL=>intro s K hm;cases hm
 |mkMap=>intro s K hm;cases hm
 |kJ=>intro s K hm;cases hm
 |jt=>intro s K hm;cases hm
 |rW=>intro s K hm;cases hm
 |rX=>intro s K hm;cases hm
 |lookup=>intro s K hm;cases hm
 |Yu=>intro s K hm;cases hm
 |dZ=>intro s K hm;cases hm
 |jW=>intro s K hm;cases hm
 |nN=>intro s K hm;cases hm
 |qm=>intro s K hm;cases hm
 |qn=>intro s K hm;cases hm
 |Yo d x=>intro s K hm hg h;exact⟨h,NB hm hg⟩
 |bS d sz=>intro s K hm hg h;exact⟨h,fun k hk=>by rw[cy hm k hk];exact Z9 hg k hk⟩
 |mE d x n=>intro s K hm hg h;exact⟨h.1,fun b hb=>⟨h.2 b hb,cy (s:=s.new b _) hm⟩⟩
 |alloc d z=>intro s K hm hg h;exact fun b hb=>⟨h b hb,cy (s:=s.new b _) hm⟩
 |load d x n=>intro s K hm hg h;exact NC (fun v hv=>⟨hv,cy hm⟩) h
 |Zo d x n=>
  intro s K hm hg h
  simp only[Yp] at h⊢
  split at h
  ·exact sN (fun v hv=>⟨hv,cy hm⟩) h
  ·exact h.elim
 |store x y n br=>
  intro s K hm hg h
  simp only[Yp,ju] at h⊢
  split at h
  ·split at h
   ·refine⟨h.1,h.2.1,h.2.2.1,?_⟩
    have h:=h.2.2.2
    split at h
    ·split at h
     ·rename_i h0;rw[if_pos h0];exact⟨h,fun _ _=>by first|rfl|trivial⟩
     ·rename_i h0;rw[if_neg h0];exact⟨h,yz hg⟩
    ·exact⟨h,fun _ _=>by first|rfl|trivial⟩
   ·exact h.elim
  ·exact h.elim
 |nL x sz br=>
  intro s K hm hg h
  simp only[Yp] at h⊢
  split at h
  ·split at h
   ·exact⟨h.1,h.2,Z9 hg⟩
   ·exact h.elim
  ·exact h.elim
 |bJ k y n=>
  intro s K hm hg h
  simp only[Yp] at h⊢
  split at h
  ·split at h
   ·exact⟨h.1,h.2.1,h.2.2.1,h.2.2.2,fun q hq=>bM _ _ (by intro e;have:=of_decide_eq_true hm;omega)⟩
   ·exact h.elim
  ·exact h.elim
 |build d z ps=>intro s K hm hg h;exact D4 (fun v hv=>⟨hv,cy hm⟩) h
 |aO d n sz z ps=>intro s K hm hg h;exact D5 (fun v hv=>⟨hv,fun k hk=>by rw[cy hm k hk];exact Z9 hg k hk⟩) h
 |app d x y sz b=>
  intro s K hm hg h
  simp only[Yp] at h⊢
  split at h
  ·exact⟨h.1,h.2.1,h.2.2.1,h.2.2.2.1,h.2.2.2.2.1,h.2.2.2.2.2,fun k hk=>by rw[cy hm k hk];exact yz hg k hk⟩
  ·exact h.elim
 |bin d op x y=>intro s K hm hg h;exact NG (fun v hv=>⟨hv,cy hm⟩) h
 |kH d x off n=>
  intro s K hm hg h
  simp only[Yp] at h⊢
  split at h
  ·exact sN (fun v hv=>⟨hv,cy hm⟩) h
  ·exact h.elim
 |kI d x i len sz n=>
  intro s K hm hg h
  simp only[Yp] at h⊢
  split at h
  ·exact⟨h.1,h.2.1,sN (fun v hv=>⟨hv,cy hm⟩) h.2.2⟩
  ·exact h.elim
 |fP d neg n x y=>
  intro s K hm hg h
  simp only[Yp] at h⊢
  split at h
  ·obtain⟨h1,h2,q,hq,hk⟩:=h
   exact⟨h1,h2,q,hq,hk,cy hm⟩
  ·exact h.elim
 |eL d n c sz bytes zero=>
  intro s K hm hg h
  simp only[Yp] at h⊢
  split at h
  ·exact⟨h.1,h.2.1,h.2.2.1,h.2.2.2.1,h.2.2.2.2.1,fun b hb=>⟨h.2.2.2.2.2 b hb,cy (s:=s.new b _) hm⟩⟩
  ·exact h.elim
 |oH d f xs=>intro s K hm hg h;obtain⟨ys,u,h1,h2,h3,h4⟩:=h;exact⟨ys,u,h1,h2,h3,h4,cy hm⟩
 |oI d x xs=>
  intro s K hm hg h
  simp only[Yp] at h⊢
  split at h
  ·obtain⟨ys,u,h1,h2,h3,h4⟩:=h;exact⟨ys,u,h1,h2,h3,h4,cy hm⟩
  ·exact h.elim
 |nO d x y sz=>
  intro s K hm hg h
  simp only[Yp] at h⊢
  split at h
  ·split at h
   ·exact⟨h.1,h.2.1,h.2.2.1,h.2.2.2.1,h.2.2.2.2.1,h.2.2.2.2.2,cy (s:=s.new _ _) hm⟩
   ·exact h.elim
  ·exact h.elim
 |isNil d neg x=>
  intro s K hm hg h
  simp only[Yp] at h⊢
  split at h
  ·exact⟨fun e=>⟨h.1 e,cy hm⟩,h.2,cy hm⟩
  ·exact⟨h,cy hm⟩
  ·exact h.elim
 |js d x hi mx sz=>
  intro s K hm hg h
  simp only[Yp] at h⊢
  split at h
  ·exact⟨h.1,h.2,fun k hk=>by rw[cy hm k hk];exact Z9 hg k hk⟩
  ·exact h.elim
 |aar d x hi mx sz=>
  intro s K hm hg h
  simp only[Yp] at h⊢
  split at h
  ·exact⟨fun hx=>⟨h.1 hx,cy (s:=s) hm⟩,fun b off=>⟨h.2 b off,cy (s:=s) hm⟩⟩
  ·exact h.elim
 |nP d x y sz=>
  intro s K hm hg h
  simp only[Yp] at h⊢
  split at h
  ·split at h
   ·exact⟨h.1,h.2.1,h.2.2.1,h.2.2.2.1,h.2.2.2.2.1,h.2.2.2.2.2,cy (s:=s.new _ _) hm⟩
   ·exact h.elim
  ·exact h.elim
 |iN d x y sz bytes zero=>
  intro s K hm hg h
  simp only[Yp] at h⊢
  split at h
  ·refine⟨h.1,h.2.1,h.2.2.1,h.2.2.2.1,h.2.2.2.2.1,?_⟩
   have h:=h.2.2.2.2.2
   split at h
   ·rename_i hc
    rw[if_pos hc]
    exact fun b r hb=>⟨h b r hb,cy (s:=s.new b _) hm⟩
   ·rename_i hc
    rw[if_neg hc]
    split at h
    ·exact⟨h.1,fun hr=>⟨h.2.1 hr,cy (s:=s.new _ _) hm⟩,fun hr b r hb=>⟨h.2.2 hr b r hb,cy (s:=s.new b _) hm⟩⟩
    ·exact h.elim
  ·exact⟨h.1,h.2.1,h.2.2.1,h.2.2.2.1,fun b r hb=>⟨h.2.2.2.2 b r hb,cy (s:=s.new b _) hm⟩⟩
  ·exact h.elim
 |oJ d x y sz=>
  intro s K hm hg h
  simp only[Yp] at h⊢
  split at h
  ·split at h
   ·exact⟨h.1,h.2.1,h.2.2.1,h.2.2.2,cy (s:=s.new _ _) hm⟩
   ·exact h.elim
  ·exact h.elim
 |call d f xs=>intro s K hm hg h;obtain⟨r,h1,h2⟩:=h;exact⟨r,h1,h2,cy hm⟩
 |eV d x xs=>
  intro s K hm hg h
  simp only[Yp] at h⊢
  split at h
  ·obtain⟨r,h1,h2⟩:=h;exact⟨r,h1,h2,cy hm⟩
  ·exact h.elim
 |_=>
  intro s K hm hg h
  simp only[Yp] at h⊢
  first
   |exact⟨h,cy hm⟩
   |exact⟨h.1,h.2,cy hm⟩
   |(split at h<;>first|exact⟨h,cy hm⟩|exact⟨h.1,h.2,cy hm⟩|exact⟨h.1,h.2.1,h.2.2,cy hm⟩|exact⟨h.1,h.2.1,h.2.2.1,h.2.2.2,cy hm⟩|exact h.elim)
end
theorem aaR{ro:Option Nat}{n:Nat}{P:Program}{f:FuncId}{args:Array Value}{w:World}{R:Ending→World→Prop}(h:Calls P f args w R):CallsIn (Fw ro) n P f args w R:=(callsIn_wide (n:=n)).2 h
theorem yA{ro:Option Nat}{n:Nat}{P:Program}{f:FuncId}{args:Array Value}{w:World}{R:Ending→World→Prop}(h:CallsIn (Fw ro) n P f args w R):Calls P f args w R:=(callsIn_wide (n:=n)).1 h
def NQ(K:Act→World→Prop):Exit→Act→World→Prop
 |.normal,a,w=>K a w
 |_,_,_=>False
def vg(ds:List Deferred)(K:Act→World→Prop):Act→World→Prop:=fun a w=>a.defers=ds∧K ⟨a.tmps,[]⟩ w
theorem NI(t:Array Value)(d1 d2:List Deferred)(d:Option Tmp)(v:Value):((⟨t,d1⟩:Act).put d v).tmps=((⟨t,d2⟩:Act).put d v).tmps∧((⟨t,d1⟩:Act).put d v).defers=d1:=by cases d<;>exact⟨rfl,rfl⟩
theorem aaL{t:Array Value}{ds:List Deferred}{d:Option Tmp}{v:Value}{w:World}{next:Act→World→Prop}(h:next ((⟨t,[]⟩:Act).put d v) w):vg ds next ((⟨t,ds⟩:Act).put d v) w:=by cases d<;>exact⟨rfl,h⟩
theorem NJ{P:Program}{o:Oper}{t:Array Value}{ds:List Deferred}{w:World}{next:Act→World→Prop}{K:Act→World→Prop}{Q':Exit→Act→World→Prop}{ro:Option Nat}{n:Nat}(YG:∀c,o.op≠.defer c)(hd:∀a w,next a w→a.defers=[])(h:o.wp P ⟨t,[]⟩ w next (NQ K)):o.wpIn (Fw ro) n P ⟨t,ds⟩ w (vg ds next) Q':=by
 refine⟨fun _ _=>trivial,?_⟩
 rw[Oper.semAt_eq _ _ _ YG]
 unfold Oper.wp at h
 have he:(⟨t,ds⟩:Act).eval=(⟨t,[]⟩:Act).eval:=rfl
 rw[he]
 generalize (execOp (⟨t,[]⟩:Act).eval o).run P w=r at h⊢
 cases r with
 |ok x w'=>
  cases x with
  |value v=>exact aaL h
  |skip=>exact aaL h
  |defer d=>
   have:=hd _ _ h
   rw[(NI t [d] [] o.dst undef).2] at this
   cases this
  |enter f args=>
   refine⟨fun e=>(by cases e),aaR (Calls.mono h fun e w'' he=> ?_)⟩
   cases e with
   |returned v=>exact aaL he
   |panicked c=>exact he.elim
   |outgrown=>obtain⟨_,_,he⟩:=he;exact he.elim
  |row row args=>
   refine⟨fun e=>(by cases e),fun c cs _=> ?_⟩
   obtain⟨v,w2,h1,h2⟩:=h c cs
   exact⟨v,w2,aaL h1,stepsIn_wide.2 h2⟩
  |_=>exact h.elim
 |halt x w'=>cases x<;>exact h.elim
end Go.az
namespace Go.az
open Go.RowKit
theorem Ev.qK{w w':World}{A A' L L':aJ}(h:Ev w A L w' A' L')(T:aJ):Ev w A (join L T) w' A' (join L' T):=by
 refine⟨h.os,h.tape,h.output,h.size,fun b o hb hl=> ?_,fun b hb hl=>h.block b hb fun o ho=>hl o (.inl ho),h.sub,fun b o ha=> ?_⟩
 ·simp only[join,not_or] at hl
  obtain⟨h1,h2⟩:=h.cell b o hb hl.1
  exact⟨h1,by simp only[join,not_or];exact⟨h2,hl.2⟩⟩
 ·rcases h.sup b o ha with h1|h1|h1
  ·exact .inl h1
  ·exact .inr (.inl (.inl h1))
  ·exact .inr (.inr h1)
section
variable {w w':World} {A A' L L':aJ}
theorem Ev.sP(h:Ev w A L w' A' L'){M M':aJ}(h1:∀b o,L b o→M b o∨w.heap.size≤b)(h2:∀b o,b<w.heap.size→M' b o→M b o∨L' b o):Ev w A M w' A' M':=by
 refine⟨h.os,h.tape,h.output,h.size,fun b o hb hl=> ?_,fun b hb hl=>h.block b hb fun o ho=> ?_,h.sub,fun b o ha=> ?_⟩
 ·have hL:¬L b o:=fun hx=>by rcases h1 b o hx with e|e;exact hl e;omega
  obtain⟨g1,g2⟩:=h.cell b o hb hL
  exact⟨g1,fun hm=>by rcases h2 b o hb hm with e|e;exact hl e;exact g2 e⟩
 ·rcases h1 b o ho with e|e
  ·exact hl o e
  ·omega
 ·rcases h.sup b o ha with g|g|g
  ·exact .inl g
  ·rcases h1 b o g with e|e
   ·exact .inr (.inl e)
   ·exact .inr (.inr e)
  ·exact .inr (.inr g)
theorem qL(w:World){l b o:Nat}(ob:Obj)(h:b≠l):(w.putObj l ob).cell? ⟨b,o,none⟩=w.cell? ⟨b,o,none⟩:=World.cell?_of_block (World.putObj_heap_other h)
theorem Ev.putObj(w:World)(A:aJ){L:aJ}{l:Nat}(ob:Obj)(hl:∀o,L l o):Ev w A L (w.putObj l ob) A L:=by refine⟨rfl,rfl,rfl,by simp,fun b o hb h=>⟨qL w ob (fun e=>h (e▸hl o)),h⟩,fun b hb h=>World.putObj_heap_other (fun e=>h 0 (e▸hl 0)),fun _ _ h=>h,fun _ _ h=>.inl h⟩
theorem yB{l o:Nat}{ob:Obj}(h:w.heap[l]? =some ob)(hc:ob.isCells=false):w.cell? ⟨l,o,none⟩=none:=by cases ob<;>first|(cases hc;done)|simp[World.cell?,h]
theorem kG.putObj{l:Nat}{ob oZ:Obj}(h:w.heap[l]? =some ob)(hc:ob.isCells=false)(hL:∀o,¬L l o)(hA:∀b o,A b o→b<w.heap.size∧¬L b o)(hl:∀o,¬A l o):kG w (w.putObj l oZ) A A L:=by
 refine⟨rfl,rfl,rfl,by simp,fun b o hl=>World.putObj_heap_other (fun e=>hL o (e▸hl)),fun b o v ha hv=> ?_,fun _ _ h=>h,fun b o ha=>⟨by simpa using(hA b o ha).1,(hA b o ha).2⟩,.blocks (fun _ _ h=>h) fun b ha _=>World.putObj_heap_other fun e=>hl 0 (e▸ha 0)⟩
 rw[qL w oZ (fun e=>by subst e;rw[yB h hc] at hv;cases hv)]
 exact hv
theorem kG.alloc(ob:Obj)(hA:∀b o,A b o→b<w.heap.size∧¬L b o)(hL:∀b o,L b o→b<w.heap.size):kG w (w.alloc ob) A A L:=⟨rfl,rfl,rfl,by rw[Y8];omega,fun b o hl=>heap_alloc _ _ _ (hL b o hl),fun b o v ha hv=>by rw[mH _ _ _ _ (hA b o ha).1];exact hv,fun _ _ h=>h,fun b o ha=>⟨by rw[Y8];have:=(hA b o ha).1;omega,(hA b o ha).2⟩,.blocks (fun _ _ h=>h) fun b _ hb=>heap_alloc _ _ _ hb⟩
end
theorem gW.block{w:World}{A:aJ}{b:Nat}{x:AV}(h:gW w A b x)(hx:x≠.any):∃ob,w.heap[b]? =some ob∧ob.isCells=false:=by
 cases h with
 |any=>exact absurd rfl hx
 |iter t pos h=>exact⟨_,h,rfl⟩
 |map es es' clock h _ _ _=>exact⟨_,h,rfl⟩
 |nJ b' since seen h=>exact⟨_,h,rfl⟩
theorem gW.mono{w w':World}{A A':aJ}{b:Nat}{x:AV}(h:gW w A b x)(hb:x≠.any→w'.heap[b]? =w.heap[b]?)(hc:∀b o v,A b o→w.cell? ⟨b,o,none⟩=some v→w'.cell? ⟨b,o,none⟩=some v∧A' b o)(cY:gU w w' A A'):gW w' A' b x:=by
 cases h with
 |any=>exact .any
 |iter t pos h=>exact .iter t pos ((hb (fun e=>by cases e)).trans h)
 |map es es' clock h hs cu hr=>exact .map es es' clock ((hb (fun e=>by cases e)).trans h) hs cu fun i e he=>⟨(hr i e he).1.mono hc cY,(hr i e he).2.1.mono hc cY,(hr i e he).2.2⟩
 |nJ b' since seen h=>exact .nJ b' since seen ((hb (fun e=>by cases e)).trans h)
section
variable {P:Program} {C:Ctx P} {Pt:List (Nat×Obj)} {s:St} {a:Act} {w:World} {A Lx:aJ} {sp:Sp}
theorem RS.NK{N:Nat}(h:RS N s a w A sp){b o:Nat}(hl:live s.loc sp b o):∃vs T,w.heap[b]? =some (.cells vs T (0,0)):=by
 rcases hl with hl|⟨r,h1,h2,h3⟩
 ·cases hb:s.loc b with
  |none=>exact absurd hb hl
  |some cs=>
   obtain⟨vs,T,h1,_⟩:=h.loc b cs hb
   exact⟨vs,T,h1⟩
 ·obtain⟨⟨vs,T,h4,_⟩,_⟩:=h.bR r (by omega)
  exact⟨vs,T,h1▸h4⟩
theorem RS.aaj{N:Nat}(h:RS N s a w A sp){b:Nat}{ob:Obj}(hb:w.heap[b]? =some ob)(hc:ob.isCells=false)(o:Nat):¬live s.loc sp b o:=by
 intro hl
 obtain⟨vs,T,h1⟩:=h.NK hl
 rw[h1] at hb;injection hb with hb;rw[←hb] at hc;cases hc
theorem GS.aak(h:GS C Pt s a w A Lx sp){p:Nat×Obj}(hp:p∈Pt)(o:Nat):¬held s sp p.1 o:=by
 obtain⟨h2,h3,_,_,h4⟩:=h.pt p hp
 rintro(hl|hl)
 ·exact h.rs.aaj h2 h3 o hl
 ·exact hl h4
theorem GS.sQ(h:GS C Pt s a w A Lx sp){b o:Nat}(hb:YC s b o):∃ob,w.heap[b]? =some ob∧ob.isCells=false:=(h.ob b).block hb
theorem GS.Z0(h:GS C Pt s a w A Lx sp){b o:Nat}(hl:held s sp b o):b<w.heap.size:=by
 rcases hl with hl|hl
 ·exact h.rs.uD hl
 ·obtain⟨ob,h1,_⟩:=h.sQ hl
  exact cn h1
theorem GS.Z1(h:GS C Pt s a w A Lx sp){b o:Nat}(ha:A b o):¬held s sp b o:=by
 rintro(hl|hl)
 ·exact(h.rs.av b o ha).2 hl
 ·exact h.oa b o hl ha
theorem Z2(s:St)(gh:AV):(s.set gS gh).env gS=gh:=by simp[St.set,aq]
theorem qM(s:St)(gh:AV)(b:Nat):(s.set gS gh).env (oS+b)=s.env (oS+b):=bM _ _ (by simp[gS,oS];omega)
theorem GS.step(h:GS C Pt s a w A Lx sp){s':St}{a':Act}{w':World}{A':aJ}{sp':Sp}(hr:RS C.N s' ⟨a'.tmps,[]⟩ w' A' sp')
  (aL:Ev w A (held s sp) w' A' (held s' sp'))(hi:∀k,gS≤k→jr (s'.env k)=true)(hg:s'.env gS=s.env gS)(ho:∀b,gW w' A' b (s'.env (oS+b)))(yC:∀b o,YC s' b o→¬A' b o)(hd:a'.defers=a.defers):
  GS C Pt s' a' w' A' Lx sp'∧Ev w A (join (held s sp) Lx) w' A' (join (held s' sp') Lx):=by
 have D6:∀b o,Lx b o→∀o',¬held s sp b o':=fun b o hl o' hl'=>h.ap b o' o hl' hl
 have Y9:∀b o,A' b o→¬Lx b o:=by
  intro b o ha hl
  rcases aL.sup b o ha with h1|h1|h1
  ·exact h.av b o h1 hl
  ·exact h.ap b o o h1 hl
  ·exact absurd (h.lt b o hl) (by omega)
 refine⟨⟨hr,hi,fun b o hl=>Nat.lt_of_lt_of_le (h.lt b o hl) aL.size,fun b o o' hl hx=> ?_,Y9,?_,fun p hp=> ?_,ho,yC,Nat.le_trans h.bs aL.size,by rw[hd];exact h.dn,by rw[hd];exact h.df,h.ro⟩,aL.qK Lx⟩
 ·exact(aL.cell b o (h.lt b o' hx) (D6 b o' hx o)).2 hl
 ·rw[hg]
  exact C.st _ _ _ _ _ _ h.x ⟨aL.os,aL.tape,aL.output,aL.size,fun b o hl=>aL.block b (h.lt b o hl) (D6 b o hl),fun b o v ha hc=>(aL.cell b o (h.rs.av b o ha).1 (h.Z1 ha)).1.trans hc,aL.sub,fun b o ha=>⟨(hr.av b o ha).1,Y9 b o ha⟩,aL.kept fun b o ha=>⟨(h.rs.av b o ha).1,h.Z1 ha⟩⟩
 ·obtain⟨h1,h2,h3⟩:=h.pt p hp
  refine⟨(aL.block p.1 (cn h1) (h.aak hp)).trans h1,h2,h3.1,fun o ha=> ?_,?_⟩
  ·rcases aL.sup _ o ha with h4|h4|h4
   ·exact h3.2.1 o h4
   ·exact h.aak hp o h4
   ·exact absurd (cn h1) (by omega)
  ·refine Classical.byContradiction fun hne=> ?_
   exact(aL.cell p.1 0 (cn h1) (h.aak hp 0)).2 (.inr hne)
theorem GS.own(h:GS C Pt s a w A Lx sp){s':St}{a':Act}{w':World}{A':aJ}{sp':Sp}(hr:RS C.N s' ⟨a'.tmps,[]⟩ w' A' sp')
  (aL:Ev w A (live s.loc sp) w' A' (live s'.loc sp'))(hg:∀k,gS≤k→s'.env k=s.env k)(hd:a'.defers=a.defers):
  GS C Pt s' a' w' A' Lx sp'∧Ev w A (join (held s sp) Lx) w' A' (join (held s' sp') Lx):=by
 have ho:∀b,s'.env (oS+b)=s.env (oS+b):=fun b=>hg _ (by simp only[gS,oS];omega)
 have eP:YC s'=YC s:=by funext b o;simp only[YC,ho]
 have hE:Ev w A (held s sp) w' A' (held s' sp'):=by unfold held;rw[eP];exact aL.qK (YC s)
 refine h.step hr hE (fun k hk=>by rw[hg k hk];exact h.ig k hk) (hg gS (Nat.le_refl _)) (fun b=> ?_) (fun b o hb ha=> ?_) hd
 ·rw[ho]
  refine(h.ob b).mono (fun hx=> ?_) (fun b o v ha hv=>⟨((aL.cell b o (h.rs.av b o ha).1 (h.rs.av b o ha).2).1).trans hv,aL.sub b o ha⟩) (aL.kept h.rs.av)
  obtain⟨ob,h1,h2⟩:=(h.ob b).block hx
  exact aL.block b (cn h1) (h.rs.aaj h1 h2)
 ·rw[eP] at hb
  obtain⟨ob,h1,h2⟩:=h.sQ hb
  rcases aL.sup b o ha with h3|h3|h3
  ·exact h.oa b o hb h3
  ·exact h.rs.aaj h1 h2 o h3
  ·exact absurd (cn h1) (by omega)
theorem RS.keep{N:Nat}(h:RS N s a w A sp){w':World}{A' L:aJ}(hk:kG w w' A A' L)(hL:∀b o,live s.loc sp b o→L b o):RS N s a w' A' sp:=by
 refine h.world hk.cell hk.sub hk.obj (fun b cs hb=>hk.oG b 0 (hL b 0 (.inl (by rw[hb];exact fun e=>by cases e)))) (fun r hr=> ?_) (fun b o ha=>⟨(hk.nI b o ha).1,fun hl=>(hk.nI b o ha).2 (hL b o hl)⟩)
 obtain⟨⟨vs,T,h1,h2⟩,_⟩:=h.bR r hr
 exact⟨vs,T,(hk.oG _ _ (hL _ (sp r).2.1 (.inr ⟨r,rfl,Nat.le_refl _,hr⟩))).trans h1,h2⟩
theorem GS.keep(h:GS C Pt s a w A Lx sp){w':World}{A' L:aJ}(hk:kG w w' A A' L)(hL:∀b o,held s sp b o→L b o)(hX:∀b o,Lx b o→L b o)(hP:∀p∈Pt,∀o,L p.1 o):GS C Pt s a w' A' Lx sp where
 rs:=h.rs.keep hk fun b o hl=>hL b o (.inl hl)
 ig:=h.ig
 lt b o hl:=Nat.lt_of_lt_of_le (h.lt b o hl) hk.size
 ap:=h.ap
 av b o ha hl:=(hk.nI b o ha).2 (hX b o hl)
 x:=C.st _ _ _ _ _ _ h.x ⟨hk.os,hk.tape,hk.output,hk.size,fun b o hl=>hk.oG b o (hX b o hl),hk.cell,hk.sub,fun b o ha=>⟨(hk.nI b o ha).1,fun hl=>(hk.nI b o ha).2 (hX b o hl)⟩,hk.obj⟩
 pt p hp:=⟨(hk.oG p.1 0 (hP p hp 0)).trans (h.pt p hp).1,(h.pt p hp).2.1,(h.pt p hp).2.2.1,fun o ha=>(hk.nI _ o ha).2 (hP p hp o),(h.pt p hp).2.2.2.2⟩
 ob b:=(h.ob b).mono (fun hx=>hk.oG b 0 (hL b 0 (.inr hx))) (fun b o v ha hv=>⟨hk.cell b o v ha hv,hk.sub b o ha⟩) hk.obj
 oa b o hb ha:=(hk.nI b o ha).2 (hL b o (.inr hb))
 bs:=Nat.le_trans h.bs hk.size
 dn:=h.dn
 df:=h.df
 ro:=h.ro
theorem GS.other(h:GS C Pt s a w A Lx sp){w':World}{A' Yt:aJ}{gh:AV}(ZM:jr gh=true)(aL:Ev w A Lx w' A' Yt)(hlt:∀b o,Yt b o→b<w'.heap.size)
  (Y9:∀b o,A' b o→b<w'.heap.size∧¬Yt b o)(hx:C.X gh w' A' Yt):
  GS C Pt (s.set gS gh) a w' A' Yt sp∧Ev w A (join (held s sp) Lx) w' A' (join (held (s.set gS gh) sp) Yt):=by
 have hap:∀b o o',held s sp b o→¬Yt b o':=fun b o o' hl hx=>(aL.cell b o' (h.Z0 hl) (h.ap b o o' hl)).2 hx
 have iR:∀b o,held s sp b o→w'.heap[b]? =w.heap[b]? :=fun b o hl=>aL.block b (h.Z0 hl) (fun o'=>h.ap b o o' hl)
 have sR:∀b o,A' b o→¬held s sp b o:=by
  intro b o ha hl
  rcases aL.sup b o ha with h1|h1|h1
  ·exact h.Z1 h1 hl
  ·exact h.ap b o o hl h1
  ·exact absurd (h.Z0 hl) (by omega)
 have hcell:∀b o v,A b o→w.cell? ⟨b,o,none⟩=some v→w'.cell? ⟨b,o,none⟩=some v:=fun b o v ha hc=>(aL.cell b o (h.rs.av b o ha).1 (h.av b o ha)).1.trans hc
 have iP:gU w w' A A':=aL.kept fun b o ha=>⟨(h.rs.av b o ha).1,h.av b o ha⟩
 have YB:RS C.N s ⟨a.tmps,[]⟩ w' A' sp:=by
  refine h.rs.world hcell aL.sub iP (fun b cs hb=>iR b 0 (.inl (.inl (by rw[hb];exact fun e=>by cases e)))) (fun r hr=> ?_) (fun b o ha=>⟨(Y9 b o ha).1,fun hl=>sR b o ha (.inl hl)⟩)
  obtain⟨⟨vs,T,h1,h2⟩,_⟩:=h.rs.bR r hr
  exact⟨vs,T,(iR _ (sp r).2.1 (.inl (.inr ⟨r,rfl,Nat.le_refl _,hr⟩))).trans h1,h2⟩
 have aal:RS C.N (s.set gS gh) ⟨a.tmps,[]⟩ w' A' sp:=by
  refine⟨YB.size,YB.defers,fun d=> ?_,YB.loc,YB.bR,YB.YJ,YB.av⟩
  by_cases hd:d=gS
  ·subst hd
   rw[Z2]
   cases gh<;>first|(cases ZM;done)|exact⟨.any _,trivial⟩|exact⟨.ghost _ _ _ _,trivial⟩
  ·have e:(s.set gS gh).env d=s.env d:=bM _ _ hd
   rw[e];exact YB.env d
 have eP:YC (s.set gS gh)=YC s:=by funext b o;simp only[YC,qM]
 have how:held (s.set gS gh) sp=held s sp:=by unfold held;rw[eP];rfl
 refine⟨⟨aal,fun k hk=> ?_,hlt,by rw[how];exact hap,fun b o ha=>(Y9 b o ha).2,by rw[Z2];exact hx,fun p hp=> ?_,fun b=> ?_,fun b o hb ha=> ?_,Nat.le_trans h.bs aL.size,h.dn,h.df,h.ro⟩,?_⟩
 ·by_cases e:k=gS
  ·subst e;rw[Z2];exact ZM
  ·rw[show(s.set gS gh).env k=s.env k from bM _ _ e];exact h.ig k hk
 ·obtain⟨h1,h2,h3⟩:=h.pt p hp
  refine⟨(aL.block p.1 (cn h1) h3.1).trans h1,h2,fun o hl=>(aL.cell p.1 o (cn h1) (h3.1 o)).2 hl,fun o ha=> ?_,by rw[qM];exact h3.2.2⟩
  rcases aL.sup _ o ha with h4|h4|h4
  ·exact h3.2.1 o h4
  ·exact h3.1 o h4
  ·exact absurd (cn h1) (by omega)
 ·rw[qM]
  exact(h.ob b).mono (fun hx=>iR b 0 (.inr hx)) (fun b o v ha hv=>⟨hcell b o v ha hv,aL.sub b o ha⟩) iP
 ·rw[eP] at hb;exact sR b o ha (.inr hb)
 ·rw[how]
  refine⟨aL.os,aL.tape,aL.output,aL.size,fun b o hb hl=> ?_,fun b hb hl=>aL.block b hb fun o ho=>hl o (.inr ho),aL.sub,fun b o ha=> ?_⟩
  ·simp only[join,not_or] at hl
   obtain⟨h1,h2⟩:=aL.cell b o hb hl.2
   exact⟨h1,by simp only[join,not_or];exact⟨hl.1,h2⟩⟩
  ·rcases aL.sup b o ha with h1|h1|h1
   ·exact .inl h1
   ·exact .inr (.inl (.inr h1))
   ·exact .inr (.inr h1)
theorem bN.D7{cs:List AV}(h:cs.map AV.erase0=cs)(i:Nat){v:Value}:bN sp (cs.getD i .any) v:=by rw[←h,gF];exact .erase0
theorem GS.abD(h:GS C Pt s a w A Lx sp){g:Nat}{cs:List AV}(hg:s.loc g=some cs)(hcs:cs.map AV.erase0=cs){w':World}{A' Yt:aJ}{gh:AV}(ZM:jr gh=true)(aL:Ev w A (join Lx (ZI g)) w' A' (join Yt (ZI g)))
  (hlt:∀b o,Yt b o→b<w'.heap.size)(Y9:∀b o,A' b o→b<w'.heap.size∧¬Yt b o)(hA:∀o,¬A' g o)(hL:∀o,¬Yt g o)(sS:qj w' A' g cs)(hx:C.X gh w' A' Yt):
  GS C Pt (s.set gS gh) a w' A' Yt sp∧Ev w A (join (held s sp) Lx) w' A' (join (held (s.set gS gh) sp) Yt):=by
 have sU:∀o,live s.loc sp g o:=fun o=>.inl (by rw[hg];exact fun e=>by cases e)
 have vh:∀o,¬A g o:=fun o ha=>(h.rs.av g o ha).2 (sU o)
 have Xq:∀o,¬Lx g o:=fun o hl=>h.ap g o o (.inl (sU o)) hl
 have hnot:∀b o,b≠g→¬Lx b o→¬join Lx (ZI g) b o:=fun b o e hl hj=>hj.elim hl e
 have hap:∀b o o',held s sp b o→¬Yt b o':=fun b o o' hl hx=>by
  by_cases e:b=g
  ·subst e;exact hL o' hx
  ·exact(aL.cell b o' (h.Z0 hl) (hnot b o' e (h.ap b o o' hl))).2 (.inl hx)
 have iR:∀b o,b≠g→held s sp b o→w'.heap[b]? =w.heap[b]? :=fun b o e hl=>aL.block b (h.Z0 hl) (fun o'=>hnot b o' e (h.ap b o o' hl))
 have sR:∀b o,A' b o→¬held s sp b o:=by
  intro b o ha hl
  rcases aL.sup b o ha with h1|h1|h1
  ·exact h.Z1 h1 hl
  ·rcases h1 with h1|h1
   ·exact h.ap b o o hl h1
   ·subst h1;exact hA o ha
  ·exact absurd (h.Z0 hl) (by omega)
 have hcell:∀b o v,A b o→w.cell? ⟨b,o,none⟩=some v→w'.cell? ⟨b,o,none⟩=some v:=fun b o v ha hc=>(aL.cell b o (h.rs.av b o ha).1 (hnot b o (fun e=>vh o (e▸ha)) (h.av b o ha))).1.trans hc
 have iP:gU w w' A A':=.blocks aL.sub fun b ha hb=>aL.block b hb fun o=>hnot b o (fun e=>vh 0 (e▸ha 0)) (h.av b o (ha o))
 have hmono:∀{x:AV} {v:Value},RV w A x v→RV w' A' x v:=fun hx=>hx.mono (fun b o v ha hv=>⟨hcell b o v ha hv,aL.sub b o ha⟩) iP
 have hsb:∀r,(sp r).2.1<(sp r).2.2→(sp r).1≠g:=fun r hr e=>by
  have:=(h.rs.bR r hr).2
  rw[e,hg] at this;cases this
 have YB:RS C.N s ⟨a.tmps,[]⟩ w' A' sp:=by
  refine⟨h.rs.size,h.rs.defers,fun d=>⟨hmono (h.rs.env d).1,(h.rs.env d).2⟩,fun b cs' hb=> ?_,fun r hr=>⟨?_,(h.rs.bR r hr).2⟩,h.rs.YJ,fun b o ha=>⟨(Y9 b o ha).1,fun hl=>sR b o ha (.inl hl)⟩⟩
  ·by_cases e:b=g
   ·subst e
    rw[hg] at hb;injection hb with hb;subst hb
    obtain⟨vs,T,g1,g2,g3⟩:=sS
    exact⟨vs,T,g1,g2,fun i=>⟨g3 i,.D7 hcs i⟩⟩
   ·obtain⟨vs,T,g1,g2,g3⟩:=h.rs.loc b cs' hb
    exact⟨vs,T,(iR b 0 e (.inl (.inl (by rw[hb];exact fun e=>by cases e)))).trans g1,g2,fun i=>⟨hmono (g3 i).1,(g3 i).2⟩⟩
  ·obtain⟨⟨vs,T,h1,h2⟩,_⟩:=h.rs.bR r hr
   exact⟨vs,T,(iR _ (sp r).2.1 (hsb r hr) (.inl (.inr ⟨r,rfl,Nat.le_refl _,hr⟩))).trans h1,h2⟩
 have aal:RS C.N (s.set gS gh) ⟨a.tmps,[]⟩ w' A' sp:=by
  refine⟨YB.size,YB.defers,fun d=> ?_,YB.loc,YB.bR,YB.YJ,YB.av⟩
  by_cases hd:d=gS
  ·subst hd
   rw[Z2]
   cases gh<;>first|(cases ZM;done)|exact⟨.any _,trivial⟩|exact⟨.ghost _ _ _ _,trivial⟩
  ·have e:(s.set gS gh).env d=s.env d:=bM _ _ hd
   rw[e];exact YB.env d
 have eP:YC (s.set gS gh)=YC s:=by funext b o;simp only[YC,qM]
 have how:held (s.set gS gh) sp=held s sp:=by unfold held;rw[eP];rfl
 refine⟨⟨aal,fun k hk=> ?_,hlt,by rw[how];exact hap,fun b o ha=>(Y9 b o ha).2,by rw[Z2];exact hx,fun p hp=> ?_,fun b=> ?_,fun b o hb ha=> ?_,Nat.le_trans h.bs aL.size,h.dn,h.df,h.ro⟩,?_⟩
 ·by_cases e:k=gS
  ·subst e;rw[Z2];exact ZM
  ·rw[show(s.set gS gh).env k=s.env k from bM _ _ e];exact h.ig k hk
 ·obtain⟨h1,h2,h3⟩:=h.pt p hp
  have yD:p.1≠g:=fun e=>h.aak hp 0 (by rw[e];exact .inl (sU 0))
  refine⟨(aL.block p.1 (cn h1) fun o=>hnot _ o yD (h3.1 o)).trans h1,h2,fun o hl=>(aL.cell p.1 o (cn h1) (hnot _ o yD (h3.1 o))).2 (.inl hl),fun o ha=> ?_,by rw[qM];exact h3.2.2⟩
  rcases aL.sup _ o ha with h4|h4|h4
  ·exact h3.2.1 o h4
  ·rcases h4 with h4|h4
   ·exact h3.1 o h4
   ·exact yD h4
  ·exact absurd (cn h1) (by omega)
 ·rw[qM]
  refine(h.ob b).mono (fun hx=> ?_) (fun b o v ha hv=>⟨hcell b o v ha hv,aL.sub b o ha⟩) iP
  have yE:b≠g:=fun e=>by
   obtain⟨ob,q1,q2⟩:=h.sQ (b:=b) (o:=0) hx
   exact h.rs.aaj q1 q2 0 (e▸sU 0)
  exact iR b 0 yE (.inr hx)
 ·rw[eP] at hb;exact sR b o ha (.inr hb)
 ·rw[how]
  have yF:∀o,join (held s sp) Lx g o:=fun o=>.inl (.inl (sU o))
  refine⟨aL.os,aL.tape,aL.output,aL.size,fun b o hb hl=> ?_,fun b hb hl=>aL.block b hb fun o ho=> ?_,aL.sub,fun b o ha=> ?_⟩
  ·have yE:b≠g:=fun e=>hl (e▸yF o)
   simp only[join,not_or] at hl
   obtain⟨h1,h2⟩:=aL.cell b o hb (hnot b o yE hl.2)
   exact⟨h1,by simp only[join,not_or] at h2⊢;exact⟨hl.1,h2.1⟩⟩
  ·rcases ho with ho|ho
   ·exact hl o (.inr ho)
   ·subst ho;exact hl o (yF o)
  ·rcases aL.sup b o ha with h1|h1|h1
   ·exact .inl h1
   ·rcases h1 with h1|h1
    ·exact .inr (.inl (.inr h1))
    ·subst h1;exact .inr (.inl (yF o))
   ·exact .inr (.inr h1)
def n7(ro:Option Nat)(P:Program)(ops:Array Oper)(o:Oper)(a:Act)(w:World)(rest:Act→World→Prop)(Q:Exit→Act→World→Prop):Prop:=if Region.wanted o (yielded ops a.tmps)=true then o.wpIn (Fw ro) 0 P a w rest Q else (∀f,o.about P w a.eval=some f→(Fw ro).fn f)∧rest (a.put o.dst undef) w
def Y2(C:Ctx P)(Pt:List (Nat×Obj))(s:St)(w:World)(A Lx:aJ)(sp:Sp)(ds:List Deferred)(K:St→Prop)(rest:Act→World→Prop):Prop:=∀s' a' w' A' Yt sp',K s'→GS C Pt s' a' w' A' Yt sp'→Ev w A (join (held s sp) Lx) w' A' (join (held s' sp') Yt)→a'.defers=ds→rest a' w'
theorem NM{ops:Array Oper}{o:Oper}{m:Yr}{K:St→Prop}{rest:Act→World→Prop}{Q:Exit→Act→World→Prop}(h:GS C Pt s a w A Lx sp)(YG:∀c,o.op≠.defer c)(hm:qJ m=true)
  (hv:Yp P m s K)(hs:∀(K:St→Prop) (rest:Act→World→Prop) (Q:Exit→Act→World→Prop),Yp P m s K→Next s w A sp C.N K rest→(if Region.wanted o (yielded ops a.tmps)=true then o.wp P ⟨a.tmps,[]⟩ w rest Q∨(o.asks P ⟨a.tmps,[]⟩ w∧LetsOut Q) else rest ((⟨a.tmps,[]⟩:Act).put o.dst undef) w))
  (hn:Y2 C Pt s w A Lx sp a.defers K rest):n7 C.ro P ops o a w rest Q:=by
 have gJ:=NH hm h.ig hv
 have h1:=hs _ (fun a1 w1=>a1.defers=[]∧∃s' A' sp',K s'∧(∀k,gS≤k→s'.env k=s.env k)∧RS C.N s' a1 w1 A' sp'∧Ev w A (live s.loc sp) w1 A' (live s'.loc sp')) (NQ fun _ _=>True) gJ (fun s' a' w' A' sp' hk hr aL=>⟨hr.defers,s',A',sp',hk.1,hk.2,hr,aL⟩)
 have fin:∀a' w',vg a.defers (fun a1 w1=>a1.defers=[]∧∃s' A' sp',K s'∧(∀k,gS≤k→s'.env k=s.env k)∧RS C.N s' a1 w1 A' sp'∧Ev w A (live s.loc sp) w1 A' (live s'.loc sp')) a' w'→rest a' w':=by
  rintro a' w' ⟨hd,-,s',A',sp',hk,hg,hr,aL⟩
  obtain⟨g1,g2⟩:=h.own hr aL hg hd
  exact hn s' a' w' A' Lx sp' hk g1 g2 hd
 unfold n7
 split at h1
 ·rename_i hw
  rw[if_pos hw]
  rcases h1 with h1|⟨_,_,_,h1⟩
  ·exact Oper.wpIn_mono (K:=vg a.defers _) fin (NJ (t:=a.tmps) (ds:=a.defers) YG (fun _ _ hh=>hh.1) h1)
  ·exact h1.elim
 ·rename_i hw
  rw[if_neg hw]
  refine⟨fun _ _=>trivial,fin _ _ ?_⟩
  exact aaL (t:=a.tmps) h1
end
end Go.az
namespace Go.az
open Go.RowKit
section
variable {P:Program} {C:Ctx P} {Pt:List (Nat×Obj)} {s:St} {a:Act} {w:World} {A Lx:aJ} {sp:Sp} {o:Oper} {d:Nat} {K:St→Prop} {rest:Act→World→Prop} {Q:Exit→Act→World→Prop}
theorem ZN{ro:Option Nat}{v:Value}{w':World}(YG:∀c,o.op≠.defer c)(hrun:(execOp a.eval o).run P w=.ok (.value v) w')(h:rest (a.put o.dst v) w'):o.wpIn (Fw ro) 0 P a w rest Q:=by
 refine⟨fun _ _=>trivial,?_⟩
 rw[Oper.semAt_eq _ _ _ YG,hrun,Oper.uponIn_value]
 exact h
theorem D8{ro:Option Nat}{w':World}(YG:∀c,o.op≠.defer c)(hrun:(execOp a.eval o).run P w=.ok .skip w')(h:rest (a.put o.dst undef) w'):o.wpIn (Fw ro) 0 P a w rest Q:=by
 refine⟨fun _ _=>trivial,?_⟩
 rw[Oper.semAt_eq _ _ _ YG,hrun,Oper.uponIn_skip]
 exact h
theorem RS.ghost{N:Nat}(h:RS N s a w A sp)(k:Nat){x:AV}(hx:jr x=true):RS N (s.set k x) a w A sp:=by
 refine⟨h.size,h.defers,fun d=> ?_,h.loc,h.bR,h.YJ,h.av⟩
 by_cases hd:d=k
 ·subst hd
  rw[show(s.set d x).env d=x from gV _ _ _]
  cases x<;>first|(cases hx;done)|exact⟨.any _,trivial⟩|exact⟨.ghost _ _ _ _,trivial⟩
 ·rw[show(s.set k x).env d=s.env d from bM _ _ hd];exact h.env d
theorem D9(b:Nat):gS<oS+b:=by simp only[gS,oS];omega
theorem GS.obj(h:GS C Pt s a w A Lx sp){b:Nat}{x:AV}(hx:jr x=true){w':World}
  (hfr:s.env (oS+b)≠.any∨b=w.heap.size)(hle:w.heap.size≤w'.heap.size)
  (hos:w'.os=w.os∧w'.tape=w.tape∧w'.output=w.output)(iR:∀c,c<w.heap.size→c≠b→w'.heap[c]? =w.heap[c]?)(cY:gW w' A b x):
  GS C Pt (s.set (oS+b) x) a w' A Lx sp∧Ev w A (join (held s sp) Lx) w' A (join (held (s.set (oS+b) x) sp) Lx):=by
 have yG:∀o,¬A b o:=by
  intro o ha
  rcases hfr with hf|hf
  ·exact h.oa b o hf ha
  ·exact absurd (h.rs.av b o ha).1 (by omega)
 have hlb:∀o,¬live s.loc sp b o:=by
  intro o hl
  rcases hfr with hf|hf
  ·obtain⟨ob,h1,h2⟩:=h.sQ (o:=o) hf
   exact h.rs.aaj h1 h2 o hl
  ·exact absurd (h.rs.uD hl) (by omega)
 have Xr:∀o,¬Lx b o:=by
  intro o hl
  rcases hfr with hf|hf
  ·exact h.ap b o o (.inr hf) hl
  ·exact absurd (h.lt b o hl) (by omega)
 have hcell:∀c o v,A c o→w.cell? ⟨c,o,none⟩=some v→w'.cell? ⟨c,o,none⟩=some v:=fun c o v ha hv=>(World.cell?_of_block (iR c (h.rs.av c o ha).1 (fun e=>yG o (e▸ha)))).trans hv
 have iP:gU w w' A A:=.blocks (fun _ _ ha=>ha) fun c ha hc=>iR c hc fun e=>yG 0 (e▸ha 0)
 have Z_:∀c o,c<w.heap.size→live s.loc sp c o→w'.heap[c]? =w.heap[c]? :=fun c o hc hl=>iR c hc (fun e=>hlb o (e▸hl))
 have YB:RS C.N s ⟨a.tmps,[]⟩ w' A sp:=by
  refine h.rs.world hcell (fun _ _ ha=>ha) iP (fun c cs hc=>Z_ c 0 (h.rs.aas hc) (.inl (by rw[hc];exact fun e=>by cases e))) (fun r hr=> ?_) (fun c o ha=>⟨Nat.lt_of_lt_of_le (h.rs.av c o ha).1 hle,(h.rs.av c o ha).2⟩)
  obtain⟨⟨vs,T,h1,h2⟩,_⟩:=h.rs.bR r hr
  exact⟨vs,T,(Z_ _ (sp r).2.1 (cn h1) (.inr ⟨r,rfl,Nat.le_refl _,hr⟩)).trans h1,h2⟩
 have aal:=YB.ghost (oS+b) hx
 have fk:∀c,c≠b→(s.set (oS+b) x).env (oS+c)=s.env (oS+c):=fun c hc=>bM _ _ (by omega)
 have D_:(s.set (oS+b) x).env (oS+b)=x:=gV _ _ _
 have aL:Ev w A (held s sp) w' A (held (s.set (oS+b) x) sp):=by
  refine⟨hos.1,hos.2.1,hos.2.2,hle,fun c o hc hl=> ?_,fun c hc hl=> ?_,fun _ _ ha=>ha,fun _ _ ha=>.inl ha⟩
  ·have hcb:c≠b∨(c=b∧False):=by
    by_cases e:c=b
    ·subst e
     rcases hfr with hf|hf
     ·exact absurd (.inr hf) hl
     ·omega
    ·exact .inl e
   rcases hcb with hcb|⟨_,hf⟩
   ·refine⟨World.cell?_of_block (iR c hc hcb),fun hh=> ?_⟩
    rcases hh with hh|hh
    ·exact hl (.inl hh)
    ·exact hl (.inr (by simp only[YC,fk c hcb] at hh;exact hh))
   ·exact hf.elim
  ·refine iR c hc fun e=> ?_
   subst e
   rcases hfr with hf|hf
   ·exact hl 0 (.inr hf)
   ·omega
 refine h.step (a':=a) aal aL (fun k hk=> ?_) ?_ (fun c=> ?_) (fun c o hc ha=> ?_) rfl
 ·by_cases e:k=oS+b
  ·subst e;rw[D_];exact hx
  ·rw[show(s.set (oS+b) x).env k=s.env k from bM _ _ e];exact h.ig k hk
 ·exact bM _ _ (Nat.ne_of_lt (D9 b))
 ·by_cases e:c=b
  ·subst e;rw[D_];exact cY
  ·rw[fk c e]
   refine(h.ob c).mono (fun hne=> ?_) (fun b o v ha hv=>⟨hcell b o v ha hv,ha⟩) iP
   obtain⟨ob,g1,_⟩:=(h.ob c).block hne
   exact iR c (cn g1) e
 ·by_cases e:c=b
  ·subst e;exact yG o ha
  ·simp only[YC,fk c e] at hc;exact h.oa c o hc ha
theorem GS.put(h:GS C Pt s a w A Lx sp){d:Nat}(hd:d<C.N)(hg:d<gS){x:AV}{v:Value}(hr:RV w A x v)(ho:bN sp x v):GS C Pt (s.set d x) (a.put (some d) v) w A Lx sp:=by
 have h1:RS C.N (s.set d x) ⟨(a.put (some d) v).tmps,[]⟩ w A sp:=h.rs.put hd hr ho
 have h2:=(h.own (a':=a.put (some d) v) h1 (.refl _ _ _) (fun k hk=>bM _ _ (by omega)) rfl).1
 exact h2
theorem iS{s:St}{d:Nat}(hd:d<gS)(x:AV)(sp:Sp):held (s.set d x) sp=held s sp:=by
 unfold held
 have:YC (s.set d x)=YC s:=by funext b o;simp only[YC];rw[show(s.set d x).env (oS+b)=s.env (oS+b) from bM _ _ (by simp only[gS,oS] at*;omega)]
 rw[this];rfl
theorem NN{T:TypeId}{x:Operand}{mx:ai}(hop:o.op=.range T x)(hd:o.dst=some d)(hN:d<C.N)(aW:C.N≤gS)(ht:P.underlying T=some .string)(hx:aD x=some mx)(h:GS C Pt s a w A Lx sp)(hv:Yp P (.oK d mx) s K)(hn:Y2 C Pt s w A Lx sp a.defers K rest):o.wpIn (Fw C.ro) 0 P a w rest Q:=by
 have h1:RV w A (mx.ev s.env) (a.eval x):=(bg h.rs hx).1
 simp only[Yp] at hv
 split at hv
 ·rename_i t e1
  rw[e1] at h1
  have sV:s.env (oS+w.heap.size)=.any:=Classical.byContradiction fun hne=>by
   obtain⟨ob,g1,_⟩:=(h.ob w.heap.size).block hne
   exact absurd (cn g1) (Nat.lt_irrefl _)
  have hK:=hv w.heap.size h.rs.fresh sV
  generalize aT:a.eval x=v0 at h1
  cases h1
  have hrun:(execOp a.eval o).run P w=.ok (.value (.pointer (some ⟨w.heap.size,0,none⟩))) (w.alloc (.stringIter t 0)):=by simp[execOp,hop,aT,Instr.range,run_underlying ht]
  refine ZN (by rw[hop];intro c e;cases e) hrun ?_
  obtain⟨g1,g2⟩:=h.obj (b:=w.heap.size) (x:=jT t 0) (w':=w.alloc (.stringIter t 0)) rfl (.inr rfl) (by rw[Y8];omega) ⟨rfl,rfl,rfl⟩ (fun c hc _=>heap_alloc _ _ _ hc) (.iter t 0 (qq _ _))
  rw[hd]
  have cI:d<gS:=Nat.lt_of_lt_of_le hN aW
  exact hn _ _ _ _ _ _ hK (g1.put hN cI (.Yq _ _) trivial) (by rw[iS cI];exact g2) rfl
 ·exact hv.elim
theorem NO{x:Operand}{mx:ai}(hop:o.op=.next x true)(hd:o.dst=some d)(hN:d<C.N)(aW:C.N≤gS)(hx:aD x=some mx)(h:GS C Pt s a w A Lx sp)(hv:Yp P (.oL d mx) s K)(hn:Y2 C Pt s w A Lx sp a.defers K rest):o.wpIn (Fw C.ro) 0 P a w rest Q:=by
 have h1:RV w A (mx.ev s.env) (a.eval x):=(bg h.rs hx).1
 have cI:d<gS:=Nat.lt_of_lt_of_le hN aW
 simp only[Yp] at hv
 split at hv
 ·rename_i b e1
  rw[e1] at h1
  obtain⟨t,pos,e2,mR,gJ⟩:=hv
  have cY:=h.ob b
  rw[e2] at cY
  have hne:s.env (oS+b)≠.any:=by rw[e2];intro e;cases e
  generalize aT:a.eval x=v0 at h1
  cases h1
  have dJ:w.heap[b]? =some (.stringIter t pos):=by
   generalize hz:jT t pos=z at cY
   cases cY with
   |any=>cases hz
   |iter t' pos' hh=>injection hz with z1 z2;injection z2 with z3;injection z3 with z4;injection z4 with z5;injection z5 with z6;rw[z1,z6];exact hh
   |map=>injection hz with _ _ z3;cases z3
   |nJ=>injection hz with _ z2;injection z2 with z3;injection z3 with z4;injection z4 with z5;cases z5
  by_cases hp:pos<t.size
  ·have hrun:(execOp a.eval o).run P w=.ok (.value (.tuple #[.bool true,.int .i64 pos,.int .i32 (Utf8.decode t pos).1])) (w.putObj b (.stringIter t (pos+(Utf8.decode t pos).2))):=by simp[execOp,hop,aT,Instr.next,getObj,setObj,Sem.run,dJ,hp,Result.andThen,World.putObj,goInt]
   refine ZN (by rw[hop];intro c e;cases e) hrun ?_
   obtain⟨g1,g2⟩:=h.obj (b:=b) (x:=jT t (pos+(Utf8.decode t pos).2)) (w':=w.putObj b (.stringIter t (pos+(Utf8.decode t pos).2))) rfl (.inl hne) (by simp) ⟨rfl,rfl,rfl⟩ (fun c hc hcb=>World.putObj_heap_other hcb) (.iter t _ (World.putObj_heap_same (cn dJ)))
   rw[hd]
   refine hn _ _ _ _ _ _ (mR hp) (g1.put hN cI (.tuple _ _ rfl fun i=> ?_) trivial) (by rw[iS cI];exact g2) rfl
   match i with
   |0=>exact .lit _ rfl
   |1=>exact .lit _ rfl
   |2=>exact .lit _ rfl
   |i+3=>simp;exact .any _
  ·have hrun:(execOp a.eval o).run P w=.ok (.value (.tuple #[.bool false])) w:=by simp[execOp,hop,aT,Instr.next,getObj,Sem.run,dJ,hp,Result.andThen]
   refine ZN (by rw[hop];intro c e;cases e) hrun ?_
   rw[hd]
   refine hn _ _ _ _ _ _ (gJ hp) (h.put hN cI (.tuple _ _ rfl fun i=> ?_) trivial) (by rw[iS cI];exact .refl _ _ _) rfl
   match i with
   |0=>exact .lit _ rfl
   |i+1=>simp;exact .any _
 ·exact hv.elim
theorem NP{T:TypeId}(hop:o.op=.makeMap T none)(hd:o.dst=some d)(hN:d<C.N)(aW:C.N≤gS)(h:GS C Pt s a w A Lx sp)(hv:Yp P (.mkMap d) s K)(hn:Y2 C Pt s w A Lx sp a.defers K rest):o.wpIn (Fw C.ro) 0 P a w rest Q:=by
 simp only[Yp] at hv
 have sV:s.env (oS+w.heap.size)=.any:=Classical.byContradiction fun hne=>by
  obtain⟨ob,g1,_⟩:=(h.ob w.heap.size).block hne
  exact absurd (cn g1) (Nat.lt_irrefl _)
 have hK:=hv w.heap.size h.rs.fresh sV
 have hrun:(execOp a.eval o).run P w=.ok (.value (.map (some w.heap.size))) (w.alloc (.map #[] 0)):=by simp[execOp,hop,Instr.makeMap]
 refine ZN (by rw[hop];intro c e;cases e) hrun ?_
 obtain⟨g1,g2⟩:=h.obj (b:=w.heap.size) (x:=aS []) (w':=w.alloc (.map #[] 0)) rfl (.inr rfl) (by rw[Y8];omega) ⟨rfl,rfl,rfl⟩ (fun c hc _=>heap_alloc _ _ _ hc) (.map [] #[] 0 (qq _ _) rfl rfl (fun i e he=>by simp at he))
 rw[hd]
 have cI:d<gS:=Nat.lt_of_lt_of_le hN aW
 exact hn _ _ _ _ _ _ hK (g1.put hN cI (.bL _) trivial) (by rw[iS cI];exact g2) rfl
end
end Go.az
namespace Go.az
open Go.RowKit
section
variable {P:Program} {w:World} {A:aJ}
theorem abE{t:TypeId}{n:List Bool}{as bs:List AV}{xs ys:Array Value}{q:Bool}(ht:oO P t=some n)(l1:as.length=n.length)(l2:bs.length=n.length)(dx:xs.size=as.length)(cK:ys.size=bs.length)(eO:∀i,RV w A (as.getD i .any) (xs.getD i undef))(cH:∀i,RV w A (bs.getD i .any) (ys.getD i undef))(hq:fR n as bs=some q):(Op.equal t (.agg xs) (.agg ys)).run P w=.ok q w:=by
 unfold oO at ht
 split at ht
 ·rename_i fs hu
  split at ht
  ·rename_i hc
   injection ht with ht
   simp only[Bool.and_eq_true,Bool.not_eq_true'] at hc
   obtain⟨⟨hf,hst⟩,hg⟩:=hc
   have hfo:P.fieldsOf t=fs:=by simp[Program.fieldsOf,hu]
   show(Op.equalIn (9999+1) t _ _).run P w=_
   rw[run_equalIn_struct w 9999 t xs ys (by rw[hfo];exact hu) hst,hfo]
   exact aaW (P:=P) (w:=w) 9998 xs ys as bs dx cK eO cH fs.toList (mI P fs.toList) 0 q hf (by rw[l1,←ht];simp[mI]) (by rw[l2,←ht];simp[mI]) (by rw[ht];simpa using hq)
  ·cases ht
 ·cases ht
def kS(P:Program)(k:TypeId)(key:AV):Bool:=
 match P.underlying k,key with
 |some (.int _),.lit (.int _ _)=>true
 |some .string,.lit (.string _)=>true
 |some (.array n e),.agg xs=>decide (xs.length=n)&&nT P e
 |some (.struct _),.agg xs=>match oO P k with
  |some n=>decide (n=List.replicate xs.length false)
  |none=>false
 |_,_=>false
theorem Ea(s:ByteArray):∀(n i:Nat) (r:List UInt8),s.size - i=n→ByteArray.toList.loop s i r=r.reverse++s.data.toList.drop i
 |0,i,r,h=>by
  unfold ByteArray.toList.loop
  have:¬i<s.size:=by omega
  rw[if_neg this,List.drop_of_length_le (by simpa using(by omega:s.size≤i)),List.append_nil]
 |n+1,i,r,h=>by
  unfold ByteArray.toList.loop
  have hi:i<s.size:=by omega
  rw[if_pos hi,Ea s n (i+1) _ (by omega)]
  have e:s.data.toList.drop i=s.get! i::s.data.toList.drop (i+1):=by
   rw[List.drop_eq_getElem_cons (by simpa using hi)]
   congr 1
   cases s with
   |mk a=>
    have hi':i<a.size:=hi
    simp[ByteArray.get!,hi']
  rw[e]
  simp
theorem Eb(s:ByteArray):s.toList=s.data.toList:=by
 unfold ByteArray.toList
 rw[Ea s _ 0 [] rfl];simp
theorem bytes_beq(a b:ByteArray):(a==b)=(a.toList==b.toList):=by
 rw[show(a==b)=(a.data==b.data) from rfl,Eb,Eb,Bool.eq_iff_iff]
 simp
theorem yH{k:TypeId}{x y:AV}{vx vy:Value}{q:Bool}(hk:kS P k x=true)(hx:RV w A x vx)(hy:RV w A y vy)(he:eM x y=some q):(((∃fs,P.underlying k=some (.struct fs))∨∃n e,P.underlying k=some (.array n e))∨∃dd,P.underlying k=some dd∧Instr.sameNow dd vx vy=some q)∧(Op.equal k vx vy).run P w=.ok q w:=by
 unfold kS at hk
 split at hk
 ·rename_i kd kk n hu
  cases y with
  |lit v=>
   cases v with
   |int k' b=>
    simp only[eM] at he
    split at he
    ·rename_i e;subst e
     injection he with he;subst he
     have e1:=hx.cG;have e2:=hy.cG
     subst e1 e2
     refine⟨.inr ⟨.int kd,hu,by simp[Instr.sameNow]⟩,?_⟩
     show(Op.equalIn (9999+1) k _ _).run P w=_
     exact run_equalIn_int w 9999 k kk kd n b hu
    ·cases he
   |_=>simp[eM] at he
  |_=>simp[eM] at he
 ·rename_i p hu
  cases y with
  |lit v=>
   cases v with
   |string p2=>
    simp only[eM] at he
    injection he with he;subst he
    cases hx with
    |lit _ _=>cases hy with
     |lit _ _=>
      refine⟨.inr ⟨.string,hu,by simp only[Instr.sameNow,bytes_beq]⟩,?_⟩
      show(Op.equalIn (9999+1) k _ _).run P w=_
      exact run_equalIn_string w 9999 k p p2 hu
   |_=>simp[eM] at he
  |_=>simp[eM] at he
 ·rename_i n e xs hu
  simp only[Bool.and_eq_true,decide_eq_true_eq] at hk
  cases y with
  |agg ys=>
   simp only[eM] at he
   cases hx with
   |agg _ cx dx eO=>cases hy with
    |agg _ Y6 cK cH=>exact⟨.inl (.inr ⟨n,e,hu⟩),Ds hu hk.2 hk.1 dx cK eO cH he⟩
  |_=>simp[eM] at he
 ·rename_i fs xs hu
  split at hk
  ·rename_i n hn
   have hl:n=List.replicate xs.length false:=of_decide_eq_true hk
   cases y with
   |agg ys=>
    simp only[eM] at he
    cases hx with
    |agg _ cx dx eO=>cases hy with
     |agg _ Y6 cK cH=>
      exact⟨.inl (.inl ⟨fs,hu⟩),abE hn (by rw[hl];simp) (by rw[hl,←(aaY he).1];simp) dx cK eO cH (by rw[hl];exact he)⟩
   |_=>simp[eM] at he
  ·cases hk
 ·cases hk
theorem Ec{k:TypeId}{x:AV}{vx:Value}(hk:kS P k x=true)(hx:RV w A x vx):∀(es:List (List AV)) (es':List MapEntry) (i:Nat) (r:Option Nat),es'.length=es.length→
  (∀j e,es'[j]? =some e→RV w A ((es.getD j []).getD 0 .any) e.key)→b_ x es i=some r→
  (Instr.findAsking k vx es' i).run P w=.ok (r.bind fun j=>(es'[j - i]?).map fun e=>(j,e.val)) w∧∀j,r=some j→i≤j∧j<i+es.length
 |[],[],i,r,_,_,h=>by injection h with h;subst h;exact⟨rfl,fun j e=>by cases e⟩
 |e::es,e'::es',i,r,hl,hr,h=>by
  have h0:=hr 0 e' rfl
  simp only[b_] at h
  simp only[Instr.findAsking]
  split at h
  ·rename_i hq
   injection h with h;subst h
   have:=(yH hk hx (by simpa using h0) hq).2
   refine⟨by simp[Sem.run_bind,this],fun j e=>by injection e with e;subst e;simp⟩
  ·rename_i hq
   have h1:=(yH hk hx (by simpa using h0) hq).2
   obtain⟨g1,g2⟩:=Ec hk hx es es' (i+1) r (by simpa using hl) (fun j e he=>by have:=hr (j+1) e (by simpa using he);simpa using this) h
   refine⟨?_,fun j e=>by have:=g2 j e;simp;omega⟩
   simp only[Sem.run_bind,h1,Result.andThen_ok,Bool.false_eq_true,if_false,g1]
   cases r with
   |none=>rfl
   |some j=>
    have:=g2 j rfl
    have e:j - i=(j - (i+1))+1:=by omega
    simp only[Option.bind_some,e,List.getElem?_cons_succ]
  ·cases h
 |[],_::_,_,_,h,_,_=>by simp at h
 |_::_,[],_,_,h,_,_=>by simp at h
theorem yI{k:TypeId}{dd:TypeDesc}(hu:P.underlying k=some dd)(qN:∀fs,dd≠.struct fs)(hna:∀n e,dd≠.array n e){x:AV}{vx:Value}(hk:kS P k x=true)(hx:RV w A x vx):∀(es:List (List AV)) (es':List MapEntry) (i:Nat) (r:Option Nat),es'.length=es.length→
  (∀j e,es'[j]? =some e→RV w A ((es.getD j []).getD 0 .any) e.key)→b_ x es i=some r→
  Instr.findNow dd vx es' i=some (r.bind fun j=>(es'[j - i]?).map fun e=>(j,e.val))∧∀j,r=some j→i≤j∧j<i+es.length
 |[],[],i,r,_,_,h=>by injection h with h;subst h;exact⟨rfl,fun j e=>by cases e⟩
 |e::es,e'::es',i,r,hl,hr,h=>by
  have h0:=hr 0 e' rfl
  have hs:∀q,eM x (e.getD 0 .any)=some q→Instr.sameNow dd vx e'.key=some q:=by
   intro q hq
   rcases(yH hk hx (by simpa using h0) hq).1 with (⟨fs,h1⟩|⟨n,e,h1⟩)|⟨Xs,h1,h2⟩
   ·rw[hu] at h1;injection h1 with h1;exact absurd h1 (qN fs)
   ·rw[hu] at h1;injection h1 with h1;exact absurd h1 (hna n e)
   ·rw[hu] at h1;injection h1 with h1;subst h1;exact h2
  simp only[b_] at h
  simp only[Instr.findNow]
  split at h
  ·rename_i hq
   injection h with h;subst h
   rw[hs _ hq]
   refine⟨by simp,fun j e=>by injection e with e;subst e;simp⟩
  ·rename_i hq
   rw[hs _ hq]
   obtain⟨g1,g2⟩:=yI hu qN hna hk hx es es' (i+1) r (by simpa using hl) (fun j e he=>by have:=hr (j+1) e (by simpa using he);simpa using this) h
   refine⟨?_,fun j e=>by have:=g2 j e;simp;omega⟩
   simp only[g1]
   cases r with
   |none=>rfl
   |some j=>
    have:=g2 j rfl
    have e:j - i=(j - (i+1))+1:=by omega
    simp only[Option.bind_some,e,List.getElem?_cons_succ]
  ·cases h
 |[],_::_,_,_,h,_,_=>by simp at h
 |_::_,[],_,_,h,_,_=>by simp at h
theorem qO{k:TypeId}{x:AV}{vx:Value}(hk:kS P k x=true)(hx:RV w A x vx){es:List (List AV)}{es':List MapEntry}{r:Option Nat}(hl:es'.length=es.length)
  (hr:∀j e,es'[j]? =some e→RV w A ((es.getD j []).getD 0 .any) e.key)(h:b_ x es 0=some r):
  (Instr.findKey k vx es').run P w=.ok (r.bind fun j=>(es'[j]?).map fun e=>(j,e.val)) w∧∀j,r=some j→j<es.length:=by
 unfold Instr.findKey
 cases hu:P.underlying k with
 |none=>unfold kS at hk;rw[hu] at hk;cases hk
 |some dd=>
  rw[Sem.run_bind,run_underlying hu,Result.andThen_ok]
  have sW:=Ec hk hx es es' 0 r hl hr h
  simp only[Nat.sub_zero,Nat.zero_add] at sW
  cases dd with
  |int kd=>
   obtain⟨g1,g2⟩:=yI hu (fun _ e=>by cases e) (fun _ _ e=>by cases e) hk hx es es' 0 r hl hr h
   simp only[g1,Nat.sub_zero,Nat.zero_add] at g1 g2⊢
   exact⟨rfl,fun j e=>(g2 j e).2⟩
  |string=>
   obtain⟨g1,g2⟩:=yI hu (fun _ e=>by cases e) (fun _ _ e=>by cases e) hk hx es es' 0 r hl hr h
   simp only[g1,Nat.sub_zero,Nat.zero_add] at g1 g2⊢
   exact⟨rfl,fun j e=>(g2 j e).2⟩
  |array n e=>
   refine⟨?_,fun j e=>(sW.2 j e).2⟩
   cases es' with
   |nil=>
    have:es=[]:=List.eq_nil_of_length_eq_zero (by simpa using hl.symm)
    subst this
    injection h with h;subst h
    rfl
   |cons e' es'=>simp only[Instr.findNow,Instr.sameNow];exact sW.1
  |struct fs=>
   refine⟨?_,fun j e=>(sW.2 j e).2⟩
   cases es' with
   |nil=>
    have:es=[]:=List.eq_nil_of_length_eq_zero (by simpa using hl.symm)
    subst this
    injection h with h;subst h
    rfl
   |cons e' es'=>simp only[Instr.findNow,Instr.sameNow];exact sW.1
  |_=>unfold kS at hk;rw[hu] at hk;cases hk
theorem Ed(em:Bool)(n:Nat)(cx:Array Value)(xs:List AV)(hs:cx.size=xs.length):∀(fs:List Field) (ks:List Bool) (k:Nat),oN P ks k fs=true→k+fs.length≤xs.length→
  (forIn fs PUnit.unit (fun f (_:PUnit)=>do
    if f.name≠ "_" then Instr.checkKey em (n+1) f.type (←part f.type cx f.offset)
    pure (ForInStep.yield PUnit.unit)):Sem PUnit).run P w=.ok PUnit.unit w
 |[],_,_,_,_=>rfl
 |_::_,[],_,hf,_=>by cases hf
 |f::fs,kq::ks,k,hf,hl=>by
  simp only[List.length_cons] at hl
  simp only[oN,Bool.and_eq_true,bne_iff_ne,beq_iff_eq] at hf
  obtain⟨⟨⟨hn,hoff⟩,ht⟩,Zr⟩:=hf
  have ih:=Ed em n cx xs hs fs ks (k+1) Zr (by omega)
  have e1:cx[k]? =some (cx.getD k undef):=by rw[Array.getD_eq_getD_getElem?,Array.getElem?_eq_getElem (by omega)];rfl
  have mQ:(isAgg f.type).run P w=.ok false w:=by
   unfold isAgg
   cases hu:P.underlying f.type with
   |none=>rw[hu] at ht;cases kq<;>cases ht
   |some dd=>rw[hu] at ht;rw[Sem.run_bind,run_underlying hu];cases kq<;>cases dd<;>first|rfl|cases ht
  have p1:(part f.type cx f.offset).run P w=.ok (cx.getD k undef) w:=by
   generalize cx.getD k undef=v at e1
   simp[part,Sem.run_bind,mQ,hoff,e1]
  have c1:∀v,(Instr.checkKey em (n+1) f.type v).run P w=.ok () w:=by
   intro v
   cases hu:P.underlying f.type with
   |none=>rw[hu] at ht;cases kq<;>cases ht
   |some dd=>
    rw[hu] at ht
    simp only[Instr.checkKey,Sem.run_bind,run_underlying hu,Result.andThen_ok]
    cases kq<;>cases dd<;>first|rfl|cases ht
  simp only[List.forIn_cons,hn,ne_eq,not_false_eq_true,if_true,Sem.run_bind,p1,c1,Result.andThen_ok,Sem.run_pure]
  exact ih
theorem NR(em:Bool)(n:Nat){k:TypeId}{kd kk:IntKind}{m:Int}(hu:P.underlying k=some (.int kd)):(Instr.checkKey em (n+1) k (.int kk m)).run P w=.ok () w:=by
 simp only[Instr.checkKey,Sem.run_bind,run_underlying hu,Result.andThen_ok]
 rfl
theorem NS(em:Bool)(n:Nat){k:TypeId}{s:ByteArray}(hu:P.underlying k=some .string):(Instr.checkKey em (n+1) k (.string s)).run P w=.ok () w:=by
 simp only[Instr.checkKey,Sem.run_bind,run_underlying hu,Result.andThen_ok]
 rfl
theorem NT(em:Bool)(n:Nat){k:TypeId}{fs:Array Field}(hu:P.underlying k=some (.struct fs)){xs:List AV}{cx:Array Value}(hs:cx.size=xs.length){ks:List Bool}(hf:oN P ks 0 fs.toList=true)(hl:fs.size≤xs.length):(Instr.checkKey em (n+2) k (.agg cx)).run P w=.ok () w:=by
 have:=Ed (w:=w) em n cx xs hs fs.toList ks 0 hf (by simp;omega)
 rw[show n+2=(n+1)+1 from rfl]
 unfold Instr.checkKey
 simp only[Sem.run_bind,run_underlying hu,Result.andThen_ok]
 rw[←Array.forIn_toList,this]
 rfl
theorem NU(em:Bool)(m:Nat){k e:TypeId}{n:Nat}(hu:P.underlying k=some (.array n e))(hE:nT P e=true){cx:Array Value}(hs:cx.size=n):(Instr.checkKey em (m+2) k (.agg cx)).run P w=.ok () w:=by
 obtain⟨kd,i,h1,h2,h3⟩:=Dq hE
 have hsz:i.size=1:=by simpa[Program.cellsOf,h2] using h3
 have mQ:(isAgg e).run P w=.ok false w:=by
  unfold isAgg
  rw[Sem.run_bind,run_underlying h1]
  rfl
 have NV:(sizeOf e).run P w=.ok 1 w:=by simp[sizeOf,typeInfo,h2,hsz]
 have c1:∀v,(Instr.checkKey em (m+1) e v).run P w=.ok () w:=by
  intro v
  simp only[Instr.checkKey,Sem.run_bind,run_underlying h1,Result.andThen_ok]
  rfl
 rw[show m+2=(m+1)+1 from rfl]
 unfold Instr.checkKey
 simp only[Sem.run_bind,run_underlying hu,Result.andThen_ok]
 simp only[Std.Legacy.Range.forIn_eq_forIn_range',Std.Legacy.Range.size,Nat.sub_zero,Nat.add_one_sub_one,Nat.div_one]
 have key:∀(l:List Nat),(∀j∈l,j<n)→(forIn l PUnit.unit (fun i (_:PUnit)=>do
   Instr.checkKey em (m+1) e (←part e cx (i*(←sizeOf e)))
   pure (ForInStep.yield PUnit.unit)):Sem PUnit).run P w=.ok PUnit.unit w:=by
  intro l
  induction l with
  |nil=>intro _;rfl
  |cons j l ih=>
   intro hl
   have hj:=hl j (List.mem_cons_self ..)
   have e1:cx[j]? =some (cx.getD j undef):=by rw[Array.getD_eq_getD_getElem?,Array.getElem?_eq_getElem (by omega)];rfl
   have p1:(part e cx (j*1)).run P w=.ok (cx.getD j undef) w:=by simp only[part,Sem.run_bind,mQ,Nat.mul_one,e1,Result.andThen_ok];rfl
   simp only[List.forIn_cons,Sem.run_bind,NV,Result.andThen_ok,p1,c1,Sem.run_pure]
   exact ih fun i hi=>hl i (List.mem_cons_of_mem _ hi)
 rw[key (List.range' 0 n) fun j hj=>by obtain⟨i,h4,h5⟩:=List.mem_range'.1 hj;omega]
 rfl
theorem yJ(em:Bool){k:TypeId}{x:AV}{vx:Value}(hk:kS P k x=true)(hx:RV w A x vx):(Instr.checkKey em 10000 k vx).run P w=.ok () w:=by
 unfold kS at hk
 split at hk
 ·rename_i kd kk n hu
  have e1:=hx.cG
  subst e1
  exact NR em 9999 hu
 ·rename_i p hu
  cases hx with
  |lit _ _=>exact NS em 9999 hu
 ·rename_i n e xs hu
  simp only[Bool.and_eq_true,decide_eq_true_eq] at hk
  cases hx with
  |agg _ cx dx eO=>exact NU em 9998 hu hk.2 (dx.trans hk.1)
 ·rename_i fs xs hu
  split at hk
  ·rename_i n hn
   have hl:n=List.replicate xs.length false:=of_decide_eq_true hk
   cases hx with
   |agg _ cx dx eO=>
    unfold oO at hn
    rw[hu] at hn
    simp only at hn
    split at hn
    ·rename_i hc
     injection hn with hn
     simp only[Bool.and_eq_true] at hc
     exact NT em 9998 hu dx hc.1.1 (by have:=congrArg List.length (hn.trans hl);simp[mI] at this;omega)
    ·cases hn
  ·cases hk
 ·cases hk
theorem NW:∀{n:Nat} {as bs:List AV},fR (List.replicate n false) as bs=some true→as=bs∧∀x∈as,∃k n,x=.lit (.int k n):=by
 intro n
 induction n with
 |zero=>
  intro as bs h
  obtain⟨h1,h2⟩:=aaY h
  have e1:as=[]:=List.eq_nil_of_length_eq_zero (by simpa using h2)
  subst e1
  have e2:bs=[]:=List.eq_nil_of_length_eq_zero (by simpa using h1.symm)
  subst e2
  exact⟨rfl,by simp⟩
 |succ n ih=>
  intro as bs h
  rw[List.replicate_succ] at h
  unfold fR at h
  split at h
  ·rename_i e;cases e
  ·rename_i ks' k p xs' k' p' ys' e
   injection e with _ e;subst e
   split at h
   ·rename_i hk;subst hk
    simp only[Option.map_eq_some_iff,Bool.and_eq_true,beq_iff_eq] at h
    obtain⟨q',ck,rfl,rfl⟩:=h
    obtain⟨rfl,g⟩:=ih ck
    refine⟨rfl,fun z hz=> ?_⟩
    rcases List.mem_cons.1 hz with rfl|hz
    ·exact⟨_,_,rfl⟩
    ·exact g z hz
   ·cases h
  ·rename_i e;cases e
  ·cases h
theorem Ee(n:Nat):∀(xs:List AV) (us vs:List Value),us.length=xs.length→vs.length=xs.length→(∀x∈xs,∃k m,x=AV.lit (.int k m))→(∀i,RV w A (xs.getD i .any) (us.getD i undef))→(∀i,RV w A (xs.getD i .any) (vs.getD i undef))→((us.zip vs).all fun(x,y)=>Instr.sameBits n x y)=true
 |[],us,vs,h1,h2,_,_,_=>by
  have:us=[]:=List.eq_nil_of_length_eq_zero h1
  subst this;rfl
 |x::xs,u::us,v::vs,h1,h2,hx,hu,hv=>by
  obtain⟨k,m,rfl⟩:=hx x (List.mem_cons_self ..)
  have e1:=(hu 0);have e2:=(hv 0)
  simp only[List.getD_eq_getElem?_getD,List.getElem?_cons_zero,Option.getD_some] at e1 e2
  have e1:=e1.cG;have e2:=e2.cG
  subst e1 e2
  have ih:=Ee n xs us vs (by simpa using h1) (by simpa using h2) (fun y hy=>hx y (List.mem_cons_of_mem _ hy)) (fun i=>by simpa using hu (i+1)) (fun i=>by simpa using hv (i+1))
  simp only[List.zip_cons_cons,List.all_cons,ih,Bool.and_true]
  cases n<;>simp[Instr.sameBits]
 |_::_,[],_,h,_,_,_,_=>by simp at h
 |_::_,_::_,[],_,h,_,_,_=>by simp at h
theorem Ef{x y:AV}{vx vy:Value}(hx:RV w A x vx)(hy:RV w A y vy)(he:eM x y=some true):(Instr.keyThatStays vy vx).run P w=.ok vx w:=by
 have hs:Instr.sameBits (9999+1) vy vx=true:=by
  unfold eM at he
  split at he
  ·split at he
   ·rename_i hk;subst hk
    injection he with he
    have e1:=hx.cG;have e2:=hy.cG
    subst e1 e2
    simp only[Instr.sameBits,beq_self_eq_true,Bool.true_and]
    simp only[beq_iff_eq] at he⊢
    exact he.symm
   ·cases he
  ·injection he with he
   cases hx with
   |lit _ _=>cases hy with
    |lit _ _=>
     simp only[Instr.sameBits,bytes_beq]
     simp only[beq_iff_eq] at he⊢
     exact he.symm
  ·rename_i xs ys
   obtain⟨rfl,hall⟩:=NW he
   cases hx with
   |agg _ cx dx eO=>cases hy with
    |agg _ Y6 cK cH=>
     have:=Ee (w:=w) (A:=A) 9999 xs Y6.toList cx.toList (by simpa using cK) (by simpa using dx) hall (fun i=>by have:=cH i;simpa[List.getD_eq_getElem?_getD,Array.getD_eq_getD_getElem?] using this) (fun i=>by have:=eO i;simpa[List.getD_eq_getElem?_getD,Array.getD_eq_getD_getElem?] using this)
     simp only[Instr.sameBits,dx,cK,beq_self_eq_true,Bool.true_and]
     exact this
  ·cases he
 unfold Instr.keyThatStays
 rw[if_pos hs]
 rfl
theorem yK:∀{es:List (List AV)} {x:AV} {i j:Nat},b_ x es i=some (some j)→i≤j∧eM x ((es.getD (j - i) []).getD 0 .any)=some true
 |[],x,i,j,h=>by simp[b_] at h
 |e::es,x,i,j,h=>by
  simp only[b_] at h
  split at h
  ·rename_i hq
   injection h with h;injection h with h;subst h
   exact⟨Nat.le_refl _,by simpa using hq⟩
  ·obtain⟨g1,g2⟩:=yK h
   refine⟨by omega,?_⟩
   rw[show j - i=(j - (i+1))+1 by omega]
   simpa using g2
  ·cases h
def n9(P:Program)(kt:TypeId):Option (Option Nat):=
 match P.underlying kt with
 |some (.int _)=>some none
 |some .string=>some (some 999)
 |some (.array n e)=>if nT P e&&n != 999 then some (some n) else none
 |some (.struct _)=>(oO P kt).bind fun ks=>if ks=List.replicate ks.length false∧ks.length≠999 then some (some ks.length) else none
 |_=>none
theorem NX{x:AV}(h:gZ none x):∃k n,x=.lit (.int k n):=by
 unfold gZ at h
 split at h<;>first|exact h.elim|exact⟨_,_,rfl⟩|(rename_i e;cases e)
theorem NY{x:AV}(h:gZ (some 999) x):∃s,x=.lit (.string s):=by
 unfold gZ at h
 split at h<;>first|exact h.elim|exact⟨_,rfl⟩|(rename_i e;cases e;done)|skip
 rename_i hno e
 injection e with e
 exact absurd e.symm h.1
theorem Eg{n:Nat}(hn:n≠999){x:AV}(h:gZ (some n) x):∃xs,x=.agg xs∧xs.length=n:=by
 unfold gZ at h
 split at h
 ·rename_i e;cases e
 ·rename_i e;injection e with e;exact absurd e hn
 ·rename_i m xs e;injection e with e;subst e;exact⟨_,rfl,h.2⟩
 ·exact h.elim
theorem yL{kt:TypeId}{n:Option Nat}{x:AV}(h:n9 P kt=some n)(hx:gZ n x):kS P kt x=true:=by
 unfold n9 at h
 unfold kS
 split at h
 ·rename_i kd hu
  injection h with h;subst h
  obtain⟨k,m,rfl⟩:=NX hx
  rw[hu]
 ·rename_i hu
  injection h with h;subst h
  obtain⟨s,rfl⟩:=NY hx
  rw[hu]
 ·rename_i n e hu
  split at h
  case isFalse=>cases h
  rename_i hE
  injection h with h;subst h
  simp only[Bool.and_eq_true,bne_iff_ne,ne_eq] at hE
  obtain⟨xs,rfl,hl⟩:=Eg hE.2 hx
  rw[hu]
  simp only[hl,hE.1,decide_true,Bool.and_self]
 ·rename_i fs hu
  simp only[Option.bind_eq_some_iff] at h
  obtain⟨m,hm,h⟩:=h
  split at h
  case isFalse=>cases h
  rename_i hmr
  injection h with h;subst h
  obtain⟨xs,rfl,hl⟩:=Eg hmr.2 hx
  rw[hu];simp only[hm];exact decide_eq_true (by rw[hl];exact hmr.1)
 ·cases h
end
section
variable {P:Program} {C:Ctx P} {Pt:List (Nat×Obj)} {s:St} {a:Act} {w:World} {A Lx:aJ} {sp:Sp} {o:Oper} {d:Nat} {K:St→Prop} {rest:Act→World→Prop} {Q:Exit→Act→World→Prop}
theorem GS.n_(h:GS C Pt s a w A Lx sp){b:Nat}{es:List (List AV)}(he:s.env (oS+b)=aS es):∃es' clock,w.heap[b]? =some (.map es' clock)∧es'.size=es.length∧(∀i e,es'[i]? =some e→RV w A ((es.getD i []).getD 0 .any) e.key∧RV w A ((es.getD i []).getD 1 .any) e.val)∧clock=es'.size∧∀(i:Nat) (e:MapEntry),es'[i]? =some e→e.born=i:=by
 have cY:=h.ob b
 rw[he] at cY
 generalize hz:aS es=z at cY
 cases cY with
 |any=>cases hz
 |iter t pos hh=>injection hz with _ _ z3;cases z3
 |map kP es' clock hh hs hc hr=>injection hz with _ z2;subst z2;exact⟨es',clock,hh,hs,fun i e he=>⟨(hr i e he).1,(hr i e he).2.1⟩,hc,fun i e he=>(hr i e he).2.2⟩
 |nJ=>injection hz with _ _ z3;cases z3
theorem NZ{T kt et:TypeId}{x k:Operand}{mx mk:ai}{n:Option Nat}{ok:Bool}{z:Value}{za:AV}(hop:o.op=.lookup T x k ok)(hd:o.dst=some d)(hN:d<C.N)(aW:C.N≤gS)(ht:P.underlying T=some (.map kt et))
  (hkn:n9 P kt=some n)(hz:zeroOf P et=some z)(yM:uH z=some za)(hx:aD x=some mx)(hk:aD k=some mk)
  (h:GS C Pt s a w A Lx sp)(hv:Yp P (.lookup d mx mk n ok za) s K)(hn:Y2 C Pt s w A Lx sp a.defers K rest):o.wpIn (Fw C.ro) 0 P a w rest Q:=by
 have h1:RV w A (mx.ev s.env) (a.eval x):=(bg h.rs hx).1
 have h2:RV w A (mk.ev s.env).erase (a.eval k):=(bg h.rs hk).1.erase
 have cI:d<gS:=Nat.lt_of_lt_of_le hN aW
 have main:∀(b:Nat) (es:List (List AV)) (es':Array MapEntry) (clock:Nat),a.eval x=.map (some b)→w.heap[b]? =some (.map es' clock)→es'.size=es.length→
   (∀i e,es'[i]? =some e→RV w A ((es.getD i []).getD 0 .any) e.key∧RV w A ((es.getD i []).getD 1 .any) e.val)→gZ n (mk.ev s.env).erase→
   (match b_ (mk.ev s.env).erase es 0 with
   |some (some i)=>K (s.set d (if ok then .tuple [((es.getD i []).getD 1 .any),.lit (.bool true)] else ((es.getD i []).getD 1 .any).erase))
   |some none=>K (s.set d (if ok then .tuple [za,.lit (.bool false)] else za.erase))
   |none=>False)→o.wpIn (Fw C.ro) 0 P a w rest Q:=by
  intro b es es' clock aT dJ hs hr hok hv
  have iq:=yL hkn hok
  have ZO:=yJ (P:=P) (w:=w) es'.isEmpty iq h2
  have yN:(zeroValue et).run P w=.ok z w:=by
   simp only[zeroOf,Option.bind_eq_some_iff] at hz
   obtain⟨i,hi,hz⟩:=hz
   simp[zeroValue,typeInfo,Sem.run_bind,hi,hz]
  have dP:(getObj b).run P w=.ok (.map es' clock) w:=by simp[getObj,Sem.run,dJ]
  have goal:∀(r:Option Nat) (x:AV) (v:Value) (q:Bool),b_ (mk.ev s.env).erase es 0=some r→(match r.bind fun j=>(es'.toList[j]?).map fun e=>(j,e.val) with|some (_,u)=>(u,true)|none=>(z,false))=(v,q)→RV w A x v→K (s.set d (if ok then .tuple [x,.lit (.bool q)] else x.erase))→o.wpIn (Fw C.ro) 0 P a w rest Q:=by
   intro r x v q hka fm hx hK
   have hfind:=(qO (P:=P) (w:=w) (A:=A) iq h2 (es:=es) (es':=es'.toList) (r:=r) (by simpa using hs) (fun j e he=>(hr j e (by simpa using he)).1) hka).1
   have hrun:(execOp a.eval o).run P w=.ok (.value (if ok then .tuple #[v,.bool q] else v)) w:=by
    simp only[execOp,hop,aT,Instr.lookup,Sem.run_bind,run_underlying ht,Result.andThen_ok,dP,Sem.run_pure,ZO,hfind]
    cases qP:(r.bind fun j=>(es'.toList[j]?).map fun e=>(j,e.val)) with
    |none=>
     rw[qP] at fm
     injection fm with q1 q2;subst q1 q2
     simp only[Sem.run_bind,yN,Result.andThen_ok,Sem.run_pure]
     skip
    |some p=>
     rw[qP] at fm
     injection fm with q1 q2;subst q1 q2
     cases ok<;>rfl
   refine ZN (by rw[hop];intro c e;cases e) hrun ?_
   rw[hd]
   refine hn _ _ _ _ _ _ hK (h.put hN cI ?_ ?_) (by rw[iS cI];exact .refl _ _ _) rfl
   ·cases ok with
    |false=>exact hx.erase
    |true=>
     refine .tuple _ _ rfl fun i=> ?_
     match i with
     |0=>exact hx
     |1=>exact .lit _ rfl
     |i+2=>simp;exact .any _
   ·cases ok with
    |false=>exact .erase
    |true=>trivial
  split at hv
  ·rename_i j hka
   obtain⟨-,hlt⟩:=qO (P:=P) (w:=w) (A:=A) iq h2 (es:=es) (es':=es'.toList) (r:=some j) (by simpa using hs) (fun j e he=>(hr j e (by simpa using he)).1) hka
   have hj:=hlt j rfl
   have hj':j<es'.size:=by omega
   refine goal (some j) _ (es'[j]).val true hka (by simp[hj']) (hr j _ (Array.getElem?_eq_getElem hj')).2 (by cases ok<;>exact hv)
  ·rename_i hka
   refine goal none za z false hka rfl (Lm (sp:=sp) yM).1 (by cases ok<;>exact hv)
  ·exact hv.elim
 simp only[Yp] at hv
 split at hv
 ·rename_i b e1
  rw[e1] at h1
  obtain⟨es,he,hok,hv⟩:=hv
  obtain⟨es',clock,dJ,hs,hr,cu,YO⟩:=h.n_ he
  generalize aT:a.eval x=v0 at h1
  cases h1
  exact main b es es' clock aT dJ hs hr hok hv
 ·rename_i es e1
  rw[e1] at h1
  obtain⟨hok,hv⟩:=hv
  generalize aT:a.eval x=v0 at h1
  cases h1 with
  |fmap _ b es' clock dJ ha hs hk2 gJ=>exact main b es es' clock aT dJ hs (fun i e he=>⟨hk2 i e he,gJ i e he⟩) hok hv
 ·exact hv.elim
theorem N0{T kt et:TypeId}{x k y:Operand}{mx mk my:ai}{n:Option Nat}(hop:o.op=.mapUpdate T x k y)(hd:o.dst=none)(ht:P.underlying T=some (.map kt et))
  (hkn:n9 P kt=some n)(hx:aD x=some mx)(hk:aD k=some mk)(hy:aD y=some my)
  (h:GS C Pt s a w A Lx sp)(hv:Yp P (.kJ mx mk my n) s K)(hn:Y2 C Pt s w A Lx sp a.defers K rest):o.wpIn (Fw C.ro) 0 P a w rest Q:=by
 have h1:RV w A (mx.ev s.env) (a.eval x):=(bg h.rs hx).1
 have h2:RV w A (mk.ev s.env).erase (a.eval k):=(bg h.rs hk).1.erase
 have h3:RV w A (my.ev s.env).erase (a.eval y):=(bg h.rs hy).1.erase
 simp only[Yp] at hv
 split at hv
 ·rename_i b e1
  rw[e1] at h1
  obtain⟨es,he,hok,hv⟩:=hv
  obtain⟨es',clock,dJ,hs,hr,cu,YO⟩:=h.n_ he
  have hne:s.env (oS+b)≠.any:=by rw[he];intro e;cases e
  have iq:=yL hkn hok
  generalize aT:a.eval x=v0 at h1
  cases h1
  have ZO:=yJ (P:=P) (w:=w) false iq h2
  have dP:(getObj b).run P w=.ok (.map es' clock) w:=by simp[getObj,Sem.run,dJ]
  have cL:∀ob,(setObj b ob).run P w=.ok () (w.putObj b ob):=fun ob=>by simp[setObj,Sem.run,dJ,World.putObj]
  have hmono:∀ob {x:AV} {v:Value},RV w A x v→RV (w.putObj b ob) A x v:=fun ob x v hx=>hx.mono (fun c o v ha hv=>⟨by rw[qL w ob (fun e=>by subst e;exact h.oa _ o hne ha)];exact hv,ha⟩) (.blocks (fun _ _ ha=>ha) fun c ha _=>World.putObj_heap_other fun e=>by subst e;exact h.oa _ 0 hne (ha 0))
  have goal:∀(kP:List (List AV)) (ob:Obj),(execOp a.eval o).run P w=.ok .skip (w.putObj b ob)→gW (w.putObj b ob) A b (aS kP)→K (s.set (oS+b) (aS kP))→o.wpIn (Fw C.ro) 0 P a w rest Q:=by
   intro kP ob hrun cY hK
   refine D8 (by rw[hop];intro c e;cases e) hrun ?_
   obtain⟨g1,g2⟩:=h.obj (b:=b) (x:=aS kP) (w':=w.putObj b ob) rfl (.inl hne) (by simp) ⟨rfl,rfl,rfl⟩ (fun c hc hcb=>World.putObj_heap_other hcb) cY
   rw[hd,su]
   exact hn _ _ _ _ _ _ hK g1 g2 rfl
  split at hv
  ·rename_i j hka
   obtain⟨hfind,hlt⟩:=qO (P:=P) (w:=w) (A:=A) iq h2 (es:=es) (es':=es'.toList) (r:=some j) (by simpa using hs) (fun j e he=>(hr j e (by simpa using he)).1) hka
   have hj:=hlt j rfl
   have hj':j<es'.size:=by omega
   have hst:=Ef (P:=P) h2 (hr j _ (Array.getElem?_eq_getElem hj')).1 (by have:=(yK hka).2;simpa using this)
   refine goal _ (.map (es'.modify j fun e=>{e with key:=a.eval k,val:=a.eval y}) clock) ?_ ?_ hv
   ·simp only[execOp,hop,aT,Instr.mapUpdate,Sem.run_bind,run_underlying ht,Result.andThen_ok,dP,ZO,hfind,Option.bind_some,Array.getElem?_toList,Array.getElem?_eq_getElem hj',Option.map_some,Option.getD_some,hst,cL,Sem.run_pure]
   ·refine .map _ _ clock (World.putObj_heap_same (cn dJ)) (by simpa using hs) (by simpa using cu) fun i e hi=> ?_
    rw[Array.getElem?_modify] at hi
    split at hi
    ·rename_i e0;subst e0
     rw[Array.getElem?_eq_getElem hj'] at hi
     injection hi with hi;subst hi
     simp only[List.getD_eq_getElem?_getD,List.getElem?_set_self hj,Option.getD_some]
     exact⟨hmono _ h2,hmono _ h3,YO _ _ (Array.getElem?_eq_getElem hj')⟩
    ·rename_i e0
     simp only[List.getD_eq_getElem?_getD,List.getElem?_set_ne e0]
     have:=hr i e hi
     simp only[List.getD_eq_getElem?_getD] at this
     exact⟨hmono _ this.1,hmono _ this.2,YO i e hi⟩
  ·rename_i hka
   obtain⟨hfind,-⟩:=qO (P:=P) (w:=w) (A:=A) iq h2 (es:=es) (es':=es'.toList) (r:=none) (by simpa using hs) (fun j e he=>(hr j e (by simpa using he)).1) hka
   refine goal _ (.map (es'.push {key:=a.eval k,val:=a.eval y,born:=clock}) (clock+1)) ?_ ?_ hv
   ·simp only[execOp,hop,aT,Instr.mapUpdate,Sem.run_bind,run_underlying ht,Result.andThen_ok,dP,ZO,hfind,Option.bind_none,cL,Sem.run_pure]
   ·refine .map _ _ (clock+1) (World.putObj_heap_same (cn dJ)) (by simp[hs]) (by simp[cu]) fun i e hi=> ?_
    rw[Array.getElem?_push] at hi
    split at hi
    ·rename_i e0
     injection hi with hi;subst hi
     have:i=es.length:=by omega
     subst this
     simp only[List.getD_eq_getElem?_getD,List.getElem?_append_right (Nat.le_refl _),Nat.sub_self,List.getElem?_cons_zero,Option.getD_some]
     exact⟨hmono _ h2,hmono _ h3,by show clock=es.length;omega⟩
    ·have hlt:=(Array.getElem?_eq_some_iff.1 hi).1
     have:=hr i e hi
     simp only[List.getD_eq_getElem?_getD] at this⊢
     rw[List.getElem?_append_left (by omega)]
     exact⟨hmono _ this.1,hmono _ this.2,YO i e hi⟩
  ·exact hv.elim
 ·exact hv.elim
theorem find_born{es':Array MapEntry}(YO:∀(i:Nat) (e:MapEntry),es'[i]? =some e→e.born=i){i:Nat}(hi:i<es'.size):es'.findIdx? (fun e=>(e.born:Int)==(i:Int))=some i:=by
 rw[Array.findIdx?_eq_some_iff_getElem]
 refine⟨hi,?_,fun j hj=> ?_⟩
 ·rw[YO i _ (Array.getElem?_eq_getElem hi)];simp
 ·rw[YO j _ (Array.getElem?_eq_getElem (by omega))];simp;omega
theorem N1{T kt et:TypeId}{x k:Operand}{mx mk:ai}{n:Option Nat}{z:Value}{za:AV}(hop:o.op=.mapEntry T x k)(hd:o.dst=some d)(hN:d<C.N)(aW:C.N≤gS)(ht:P.underlying T=some (.map kt et))
  (hkn:n9 P kt=some n)(hz:zeroOf P et=some z)(yM:qv z=some za)(hx:aD x=some mx)(hk:aD k=some mk)
  (h:GS C Pt s a w A Lx sp)(hv:Yp P (.jt d mx mk n za) s K)(hn:Y2 C Pt s w A Lx sp a.defers K rest):o.wpIn (Fw C.ro) 0 P a w rest Q:=by
 have h1:RV w A (mx.ev s.env) (a.eval x):=(bg h.rs hx).1
 have h2:RV w A (mk.ev s.env).erase (a.eval k):=(bg h.rs hk).1.erase
 have cI:d<gS:=Nat.lt_of_lt_of_le hN aW
 simp only[Yp] at hv
 split at hv
 ·rename_i b e1
  rw[e1] at h1
  obtain⟨es,he,hok,-,hv⟩:=hv
  obtain⟨es',clock,dJ,hs,hr,cu,YO⟩:=h.n_ he
  have hne:s.env (oS+b)≠.any:=by rw[he];intro e;cases e
  have iq:=yL hkn hok
  generalize aT:a.eval x=v0 at h1
  cases h1
  have ZO:=yJ (P:=P) (w:=w) false iq h2
  have yN:(zeroValue et).run P w=.ok z w:=by
   simp only[zeroOf,Option.bind_eq_some_iff] at hz
   obtain⟨i,hi,hz⟩:=hz
   simp[zeroValue,typeInfo,Sem.run_bind,hi,hz]
  have dP:(getObj b).run P w=.ok (.map es' clock) w:=by simp[getObj,Sem.run,dJ]
  have cL:∀ob,(setObj b ob).run P w=.ok () (w.putObj b ob):=fun ob=>by simp[setObj,Sem.run,dJ,World.putObj]
  have hmono:∀ob {x:AV} {v:Value},RV w A x v→RV (w.putObj b ob) A x v:=fun ob x v hx=>hx.mono (fun c o v ha hv=>⟨by rw[qL w ob (fun e=>by subst e;exact h.oa _ o hne ha)];exact hv,ha⟩) (.blocks (fun _ _ ha=>ha) fun c ha _=>World.putObj_heap_other fun e=>by subst e;exact h.oa _ 0 hne (ha 0))
  have goal:∀(kP:List (List AV)) (ob:Obj) (u:AV) (v:Value) (i:Nat),(execOp a.eval o).run P w=.ok (.value (.tuple #[v,.int .i64 i])) (w.putObj b ob)→RV w A u v→gW (w.putObj b ob) A b (aS kP)→K ((s.set (oS+b) (aS kP)).set d (.tuple [u,.lit (.int .i64 i)]))→o.wpIn (Fw C.ro) 0 P a w rest Q:=by
   intro kP ob u v i hrun hu cY hK
   obtain⟨g1,g2⟩:=h.obj (b:=b) (x:=aS kP) (w':=w.putObj b ob) rfl (.inl hne) (by simp) ⟨rfl,rfl,rfl⟩ (fun c hc hcb=>World.putObj_heap_other hcb) cY
   refine ZN (by rw[hop];intro c e;cases e) hrun ?_
   rw[hd]
   refine hn _ _ _ _ _ _ hK (g1.put hN cI ?_ trivial) (by rw[iS cI];exact g2) rfl
   refine .tuple _ _ rfl fun j=> ?_
   match j with
   |0=>exact hmono _ hu
   |1=>exact .lit _ rfl
   |j+2=>simp;exact .any _
  split at hv
  ·rename_i j hka
   obtain⟨hfind,hlt⟩:=qO (P:=P) (w:=w) (A:=A) iq h2 (es:=es) (es':=es'.toList) (r:=some j) (by simpa using hs) (fun j e he=>(hr j e (by simpa using he)).1) hka
   have hj:=hlt j rfl
   have hj':j<es'.size:=by omega
   have hst:=Ef (P:=P) h2 (hr j _ (Array.getElem?_eq_getElem hj')).1 (by have:=(yK hka).2;simpa using this)
   have hval:=(hr j _ (Array.getElem?_eq_getElem hj')).2
   have Eh:=YO j _ (Array.getElem?_eq_getElem hj')
   refine goal _ (.map (es'.modify j fun e=>{e with key:=a.eval k}) clock) _ (es'[j]).val j ?_ hval ?_ hv
   ·simp only[execOp,hop,aT,Instr.mapEntry,Sem.run_bind,run_underlying ht,Result.andThen_ok,dP,ZO,hfind,Option.bind_some,Array.getElem?_toList,Array.getElem?_eq_getElem hj',Option.map_some,Option.getD_some,hst,cL,Sem.run_pure,Eh]
    rfl
   ·refine .map _ _ clock (World.putObj_heap_same (cn dJ)) (by simpa using hs) (by simpa using cu) fun i e hi=> ?_
    rw[Array.getElem?_modify] at hi
    split at hi
    ·rename_i e0;subst e0
     rw[Array.getElem?_eq_getElem hj'] at hi
     injection hi with hi;subst hi
     simp only[List.getD_eq_getElem?_getD,List.getElem?_set_self hj,Option.getD_some]
     simp only[List.getD_eq_getElem?_getD] at hval
     exact⟨hmono _ h2,hmono _ hval,Eh⟩
    ·rename_i e0
     simp only[List.getD_eq_getElem?_getD,List.getElem?_set_ne e0]
     have:=hr i e hi
     simp only[List.getD_eq_getElem?_getD] at this
     exact⟨hmono _ this.1,hmono _ this.2,YO i e hi⟩
  ·rename_i hka
   obtain⟨hfind,-⟩:=qO (P:=P) (w:=w) (A:=A) iq h2 (es:=es) (es':=es'.toList) (r:=none) (by simpa using hs) (fun j e he=>(hr j e (by simpa using he)).1) hka
   have mS:=(xJ (w:=w) (A:=A) (sp:=sp) yM).1
   refine goal _ (.map (es'.push {key:=a.eval k,val:=z,born:=clock}) (clock+1)) _ z es.length ?_ mS ?_ hv
   ·simp only[execOp,hop,aT,Instr.mapEntry,Sem.run_bind,run_underlying ht,Result.andThen_ok,dP,ZO,hfind,Option.bind_none,yN,cL,Sem.run_pure]
    rw[show es.length=clock by omega]
    rfl
   ·refine .map _ _ (clock+1) (World.putObj_heap_same (cn dJ)) (by simp[hs]) (by simp[cu]) fun i e hi=> ?_
    rw[Array.getElem?_push] at hi
    split at hi
    ·rename_i e0
     injection hi with hi;subst hi
     have:i=es.length:=by omega
     subst this
     simp only[List.getD_eq_getElem?_getD,List.getElem?_append_right (Nat.le_refl _),Nat.sub_self,List.getElem?_cons_zero,Option.getD_some]
     exact⟨hmono _ h2,hmono _ mS,by show clock=es.length;omega⟩
    ·have hlt:=(Array.getElem?_eq_some_iff.1 hi).1
     have:=hr i e hi
     simp only[List.getD_eq_getElem?_getD] at this⊢
     rw[List.getElem?_append_left (by omega)]
     exact⟨hmono _ this.1,hmono _ this.2,YO i e hi⟩
  ·exact hv.elim
 ·exact hv.elim
theorem N2{T:TypeId}{x st y:Operand}{mx yO my:ai}(hop:o.op=.entryStore T x st y)(hd:o.dst=none)(hx:aD x=some mx)(hst:aD st=some yO)(hy:aD y=some my)(h:GS C Pt s a w A Lx sp)(hv:Yp P (.rW mx yO my) s K)(hn:Y2 C Pt s w A Lx sp a.defers K rest):o.wpIn (Fw C.ro) 0 P a w rest Q:=by
 have h1:RV w A (mx.ev s.env) (a.eval x):=(bg h.rs hx).1
 have h2:RV w A (yO.ev s.env) (a.eval st):=(bg h.rs hst).1
 have h3:RV w A (my.ev s.env).erase (a.eval y):=(bg h.rs hy).1.erase
 simp only[Yp] at hv
 split at hv
 ·rename_i b kd j e1 e2
  rw[e1] at h1;rw[e2] at h2
  obtain⟨es,he,hj0,yP,hK⟩:=hv
  obtain⟨j,rfl⟩:=Int.eq_ofNat_of_zero_le hj0
  obtain⟨es',clock,dJ,hs,hr,cu,YO⟩:=h.n_ he
  have hne:s.env (oS+b)≠.any:=by rw[he];intro e;cases e
  have v2:=h2.cG
  generalize aT:a.eval x=v0 at h1
  cases h1
  have dP:(getObj b).run P w=.ok (.map es' clock) w:=by simp[getObj,Sem.run,dJ]
  have cL:∀ob,(setObj b ob).run P w=.ok () (w.putObj b ob):=fun ob=>by simp[setObj,Sem.run,dJ,World.putObj]
  have hmono:∀ob {x:AV} {v:Value},RV w A x v→RV (w.putObj b ob) A x v:=fun ob x v hx=>hx.mono (fun c o v ha hv=>⟨by rw[qL w ob (fun e=>by subst e;exact h.oa _ o hne ha)];exact hv,ha⟩) (.blocks (fun _ _ ha=>ha) fun c ha _=>World.putObj_heap_other fun e=>by subst e;exact h.oa _ 0 hne (ha 0))
  have vi:j<es'.size:=by omega
  have hjl:j<es.length:=by omega
  have hfb:=find_born YO vi
  have hkey:=(hr j _ (Array.getElem?_eq_getElem vi)).1
  refine D8 (w':=w.putObj b (.map (es'.modify j fun e=>{e with val:=a.eval y}) clock)) (by rw[hop];intro c e;cases e) ?_ ?_
  ·simp only[execOp,hop,aT,v2,Instr.entryStore,Sem.run_bind,Result.andThen_ok,dP,asInt,asIntOf,Sem.run_pure,hfb,cL]
  ·have cY:gW (w.putObj b (.map (es'.modify j fun e=>{e with val:=a.eval y}) clock)) A b (aS (es.set j [(es.getD j []).getD 0 .any,(my.ev s.env).erase])):=by
    refine .map _ _ clock (World.putObj_heap_same (cn dJ)) (by simpa using hs) (by simpa using cu) fun i e hi=> ?_
    rw[Array.getElem?_modify] at hi
    split at hi
    ·rename_i e0;subst e0
     rw[Array.getElem?_eq_getElem vi] at hi
     injection hi with hi;subst hi
     simp only[List.getD_eq_getElem?_getD,List.getElem?_set_self hjl,Option.getD_some]
     simp only[List.getD_eq_getElem?_getD] at hkey
     exact⟨hmono _ hkey,hmono _ h3,YO _ _ (Array.getElem?_eq_getElem vi)⟩
    ·rename_i e0
     simp only[List.getD_eq_getElem?_getD,List.getElem?_set_ne e0]
     have:=hr i e hi
     simp only[List.getD_eq_getElem?_getD] at this
     exact⟨hmono _ this.1,hmono _ this.2,YO i e hi⟩
   obtain⟨g1,g2⟩:=h.obj (b:=b) (x:=aS (es.set j [(es.getD j []).getD 0 .any,(my.ev s.env).erase])) (w':=w.putObj b (.map (es'.modify j fun e=>{e with val:=a.eval y}) clock)) rfl (.inl hne) (by simp) ⟨rfl,rfl,rfl⟩ (fun c hc hcb=>World.putObj_heap_other hcb) cY
   rw[hd,su]
   exact hn _ _ _ _ _ _ hK g1 g2 rfl
 ·exact hv.elim
theorem N3{b b' n n':Nat}{l l':List Nat}(h:gG b n l=gG b' n' l'):b=b'∧n=n'∧l=l':=by
 unfold gG at h
 injection h with h1 h2
 injection h2 with h2 h3
 injection h2 with h2 _
 injection h2 with h2
 injection h2 with _ h2
 injection h3 with h3 _
 refine⟨h1,by omega,?_⟩
 have:=congrArg (List.map fun x:AV=>match x with|.lit (.int _ n)=>n.toNat|_=>0) h3
 simpa[List.map_map,Function.comp_def] using this
theorem GS.Ei(h:GS C Pt s a w A Lx sp){r b n:Nat}{seen:List Nat}(he:s.env (oS+r)=gG b n seen):w.heap[r]? =some (.mapIter (some b) n seen.toArray n):=by
 have cY:=h.ob r
 rw[he] at cY
 generalize hz:gG b n seen=z at cY
 cases cY with
 |any=>cases hz
 |iter t pos hh=>unfold gG jT at hz;injection hz with _ z2;injection z2 with z3;injection z3 with z4;injection z4 with z5;cases z5
 |map=>unfold gG aS at hz;injection hz with _ _ z3;cases z3
 |nJ b' n' seen' hh=>obtain⟨rfl,rfl,rfl⟩:=N3 hz;exact hh
theorem N4{T kt et:TypeId}{x:Operand}{mx:ai}(hop:o.op=.range T x)(hd:o.dst=some d)(hN:d<C.N)(aW:C.N≤gS)(ht:P.underlying T=some (.map kt et))(hx:aD x=some mx)(h:GS C Pt s a w A Lx sp)(hv:Yp P (.qm d mx) s K)(hn:Y2 C Pt s w A Lx sp a.defers K rest):o.wpIn (Fw C.ro) 0 P a w rest Q:=by
 have h1:RV w A (mx.ev s.env) (a.eval x):=(bg h.rs hx).1
 simp only[Yp] at hv
 split at hv
 ·rename_i b e1
  rw[e1] at h1
  obtain⟨es,he,hv⟩:=hv
  obtain⟨es',clock,dJ,hs,hr,cu,YO⟩:=h.n_ he
  have sV:s.env (oS+w.heap.size)=.any:=Classical.byContradiction fun hne=>by
   obtain⟨ob,g1,_⟩:=(h.ob w.heap.size).block hne
   exact absurd (cn g1) (Nat.lt_irrefl _)
  have hK:=hv w.heap.size h.rs.fresh sV
  generalize aT:a.eval x=v0 at h1
  cases h1
  have hrun:(execOp a.eval o).run P w=.ok (.value (.pointer (some ⟨w.heap.size,0,none⟩))) (w.alloc (.mapIter (some b) clock #[] clock)):=by
   have:=run_range_map (P:=P) w T kt et b es' clock ht dJ
   simp[execOp,hop,aT,this]
  refine ZN (by rw[hop];intro c e;cases e) hrun ?_
  have yQ:clock=es.length:=by omega
  obtain⟨g1,g2⟩:=h.obj (b:=w.heap.size) (x:=gG b es.length []) (w':=w.alloc (.mapIter (some b) clock #[] clock)) rfl (.inr rfl) (by rw[Y8];omega) ⟨rfl,rfl,rfl⟩ (fun c hc _=>heap_alloc _ _ _ hc) (.nJ b es.length [] (by rw[qq,yQ]))
  rw[hd]
  have cI:d<gS:=Nat.lt_of_lt_of_le hN aW
  exact hn _ _ _ _ _ _ hK (g1.put hN cI (.Yq _ _) trivial) (by rw[iS cI];exact g2) rfl
 ·exact hv.elim
theorem N5{w:World}{r b n:Nat}{seen:List Nat}{es:Array MapEntry}(hr:w.heap[r]? =some (.mapIter (some b) n seen.toArray n))(hb:w.heap[b]? =some (.map es n))(hn:n=es.size)(YO:∀(i:Nat) (e:MapEntry),es[i]? =some e→e.born=i)(ty:TypeId):
  ((∀i,i<n→i∈seen)∧(Instr.next (.pointer (some ⟨r,0,none⟩)) false ty).run P w=.ok (.tuple #[.bool false]) w)∨
  ∃i e w1,i<n∧i∉seen∧es[i]? =some e∧(w1=w∨w1=w.drew)∧(Instr.next (.pointer (some ⟨r,0,none⟩)) false ty).run P w=.ok (.tuple #[.bool true,e.key,e.val]) (w1.putObj r (.mapIter (some b) n (seen++[i]).toArray n)):=by
 have hold:∀x∈es.toList,x.born<n:=fun x hx=>by
  obtain⟨i,hi,rfl⟩:=List.getElem_of_mem hx
  have hi':i<es.size:=by simpa using hi
  have:=YO i es[i] (Array.getElem?_eq_getElem hi')
  simp only[Array.getElem_toList]
  omega
 have hall:=next_test_false seen.toArray es n n hold (Nat.le_refl _)
 obtain⟨L,hL⟩:∃L,L=Array.filter (fun e=> !seen.toArray.contains e.born) es:=⟨_,rfl⟩
 have hmem:∀x∈L.toList,x.born<n:=fun x hx=>hold x (by rw[hL] at hx;simp at hx⊢;exact hx.1)
 have e1:L.filter (fun x=>decide (x.born<n))=L:=Array.filter_eq_self.2 (fun x hx=>by simpa using hmem x (by simpa using hx))
 have e2:L.filter (fun x=>decide (x.born≥n))= #[]:=by
  rw[Array.filter_eq_empty_iff]
  intro x hx
  have:=hmem x (by simpa using hx)
  simp
  omega
 by_cases h0:L.size=0
 ·left
  have Ej:L= #[]:=Array.eq_empty_of_size_eq_zero h0
  refine⟨fun i hi=> ?_,?_⟩
  ·have hi':i<es.size:=by omega
   have h3:=hL.symm.trans Ej
   rw[Array.filter_eq_empty_iff] at h3
   have h4:=h3 es[i] (Array.getElem_mem hi')
   have h5:=YO i es[i] (Array.getElem?_eq_getElem hi')
   rw[h5] at h4
   simpa using h4
  ·simp only[Instr.next,getObj,Sem.run_bind,Sem.run,hr,hb,Result.andThen,hall,Bool.false_eq_true,if_false,←hL,Ej]
   simp[choose,Sem.run,Question.forced]
 ·right
  have hne:L.isEmpty=false:=by simp[Array.isEmpty,h0]
  have j8:∃(j:Nat) (w1:World),j<L.size∧(w1=w∨w1=w.drew)∧(choose (Question.mapNext L.size)).run P w=.ok j w1:=by
   by_cases hf:L.size≤1
   ·exact⟨0,w,by omega,.inl rfl,by simp[choose,Sem.run,Question.forced,hf]⟩
   ·exact⟨_,w.drew,Nat.mod_lt _ (by omega),.inr rfl,by
     simp only[choose,Sem.run,Question.forced,decide_eq_true_eq,hf,if_false,Question.cut]
     rfl⟩
  obtain⟨j,w1,hj,hw1,hrun⟩:=j8
  have N6:L[j]∈L:=Array.getElem_mem hj
  have hme:L[j]∈es∧(!seen.toArray.contains L[j].born)=true:=by
   have:L[j]∈Array.filter (fun e=> !seen.toArray.contains e.born) es:=hL▸N6
   simpa using this
  obtain⟨i,hi,vj⟩:=Array.getElem_of_mem hme.1
  have yR:=YO i es[i] (Array.getElem?_eq_getElem hi)
  rw[vj] at yR
  have qN:i∉seen:=by
   have:=hme.2
   rw[yR] at this
   simpa using this
  refine⟨i,L[j],w1,by omega,qN,by rw[Array.getElem?_eq_getElem hi,vj],hw1,?_⟩
  have eO:w1.heap[r]? =some (.mapIter (some b) n seen.toArray n):=by rcases hw1 with rfl|rfl<;>exact hr
  have cL:∀o',(setObj r o').run P w1=.ok () (w1.putObj r o'):=fun o'=>by simp[setObj,Sem.run,eO,World.putObj]
  simp only[Instr.next,getObj,Sem.run_bind,Sem.run,hr,hb,Result.andThen,hall,Bool.false_eq_true,if_false,←hL,e1,e2,Array.append_empty,hne,Array.empty_append,Array.size_map,hrun,Array.getElem?_map,Array.getElem?_eq_getElem hj,Option.map_some,cL,yR]
  simp
theorem N7{x:Operand}{mx:ai}(hop:o.op=.next x false)(hd:o.dst=some d)(hN:d<C.N)(aW:C.N≤gS)(hx:aD x=some mx)(h:GS C Pt s a w A Lx sp)(hv:Yp P (.qn d mx) s K)(hn:Y2 C Pt s w A Lx sp a.defers K rest):o.wpIn (Fw C.ro) 0 P a w rest Q:=by
 have h1:RV w A (mx.ev s.env) (a.eval x):=(bg h.rs hx).1
 have cI:d<gS:=Nat.lt_of_lt_of_le hN aW
 simp only[Yp] at hv
 split at hv
 ·rename_i r e1
  rw[e1] at h1
  obtain⟨b,seen,es,e2,e3,mR,gJ⟩:=hv
  have hne:s.env (oS+r)≠.any:=by rw[e2];intro e;cases e
  generalize aT:a.eval x=v0 at h1
  cases h1
  have hr:=h.Ei e2
  obtain⟨es',clock,hb,hs,fm,cu,YO⟩:=h.n_ e3
  rw[←hs] at hr
  rw[cu] at hb
  rcases N5 (P:=P) hr hb rfl YO o.type with ⟨hall,hrun⟩|⟨i,e,w1,hi,qN,vj,hw1,hrun⟩
  ·have qA:(execOp a.eval o).run P w=.ok (.value (.tuple #[.bool false])) w:=by simp[execOp,hop,aT,hrun]
   refine ZN (by rw[hop];intro c e;cases e) qA ?_
   rw[hd]
   refine hn _ _ _ _ _ _ (gJ (by rw[←hs];exact hall)) (h.put hN cI (.tuple _ _ rfl fun i=> ?_) trivial) (by rw[iS cI];exact .refl _ _ _) rfl
   match i with
   |0=>exact .lit _ rfl
   |i+1=>simp;exact .any _
  ·have qA:(execOp a.eval o).run P w=.ok (.value (.tuple #[.bool true,e.key,e.val])) (w1.putObj r (.mapIter (some b) es'.size (seen++[i]).toArray es'.size)):=by simp[execOp,hop,aT,hrun]
   refine ZN (by rw[hop];intro c e;cases e) qA ?_
   have hh:w1.heap=w.heap:=by rcases hw1 with rfl|rfl<;>rfl
   have hos:w1.os=w.os∧w1.tape=w.tape∧w1.output=w.output:=by rcases hw1 with rfl|rfl<;>exact⟨rfl,rfl,rfl⟩
   have hlt:r<w1.heap.size:=by rw[hh];exact cn hr
   obtain⟨g1,g2⟩:=h.obj (b:=r) (x:=gG b es.length (seen++[i])) (w':=w1.putObj r (.mapIter (some b) es'.size (seen++[i]).toArray es'.size)) rfl (.inl hne) (by simp[hh]) hos (fun c hc hcb=>by rw[World.putObj_heap_other hcb,hh]) (.nJ b es.length (seen++[i]) (by rw[World.putObj_heap_same hlt,hs]))
   rw[hd]
   have hkv:=fm i e vj
   have hmono:∀{x:AV} {v:Value},RV w A x v→RV (w1.putObj r (.mapIter (some b) es'.size (seen++[i]).toArray es'.size)) A x v:=fun hx=>hx.mono (fun c o v ha hc=>⟨by
    have N8:c≠r:=fun e=>by subst e;exact h.oa _ o hne ha
    rw[qL w1 _ N8]
    simp only[World.cell?,hh] at hc⊢
    exact hc,ha⟩) (.blocks (fun _ _ ha=>ha) fun c ha _=>by rw[World.putObj_heap_other fun e=>by subst e;exact h.oa _ 0 hne (ha 0),hh])
   refine hn _ _ _ _ _ _ (mR i (by omega) qN) (g1.put hN cI (.tuple _ _ rfl fun i=> ?_) trivial) (by rw[iS cI];exact g2) rfl
   match i with
   |0=>exact .lit _ rfl
   |1=>exact(hmono hkv.1).erase
   |2=>exact(hmono hkv.2).erase
   |i+3=>simp;exact .any _
 ·exact hv.elim
theorem N9{es':Array MapEntry}(YO:∀(i:Nat) (e:MapEntry),es'[i]? =some e→e.born=i){i:Nat}(hi:i<es'.size):es'.find? (fun e=>e.born==i)=some es'[i]:=by
 rw[Array.find?_eq_some_iff_getElem]
 refine⟨by rw[YO i _ (Array.getElem?_eq_getElem hi)];simp,i,hi,rfl,fun j hj=> ?_⟩
 rw[YO j _ (Array.getElem?_eq_getElem (by omega))];simp;omega
theorem N_{x:Operand}{mx:ai}(hop:o.op=.entry x)(hd:o.dst=some d)(hN:d<C.N)(aW:C.N≤gS)(hx:aD x=some mx)(h:GS C Pt s a w A Lx sp)(hv:Yp P (.rX d mx) s K)(hn:Y2 C Pt s w A Lx sp a.defers K rest):o.wpIn (Fw C.ro) 0 P a w rest Q:=by
 have h1:RV w A (mx.ev s.env) (a.eval x):=(bg h.rs hx).1
 have cI:d<gS:=Nat.lt_of_lt_of_le hN aW
 simp only[Yp] at hv
 split at hv
 ·rename_i r e1
  rw[e1] at h1
  obtain⟨b,seen,i,es,e2,e3,hi,hK⟩:=hv
  generalize aT:a.eval x=v0 at h1
  cases h1
  have hr:=h.Ei e2
  obtain⟨es',clock,hb,hs,fm,cu,YO⟩:=h.n_ e3
  have hi':i<es'.size:=by omega
  have Oa:clock=es.length:=by omega
  subst Oa
  have hrun:(execOp a.eval o).run P w=.ok (.value (.tuple #[(es'[i]).key,(es'[i]).val])) w:=by
   have dz:(seen++[i]).toArray.back?=some i:=by simp
   have sX:(getObj r).run P w=.ok (.mapIter (some b) es.length (seen++[i]).toArray es.length) w:=by simp[getObj,Sem.run,hr]
   have yS:(getObj b).run P w=.ok (.map es' es.length) w:=by simp[getObj,Sem.run,hb]
   simp only[execOp,hop,aT,Instr.entry,Sem.run_bind,sX,yS,dz,Result.andThen_ok,bne_self_eq_false,Bool.false_eq_true,if_false,N9 YO hi',Sem.run_pure]
  refine ZN (by rw[hop];intro c e;cases e) hrun ?_
  rw[hd]
  have hkv:=fm i _ (Array.getElem?_eq_getElem hi')
  refine hn _ _ _ _ _ _ hK (h.put hN cI (.tuple _ _ rfl fun j=> ?_) trivial) (by rw[iS cI];exact .refl _ _ _) rfl
  match j with
  |0=>exact hkv.1.erase
  |1=>exact hkv.2.erase
  |j+2=>simp;exact .any _
 ·exact hv.elim
end
end Go.az
namespace Go.az
open Go.RowKit
section
variable {P:Program} {C:Ctx P} {Pt:List (Nat×Obj)} {s:St} {a:Act} {w:World} {A Lx:aJ} {sp:Sp}
theorem Ob{o:Oper}{d:Nat}{t:Tmp}{xs:Array Operand}{ts:Array TypeId}{ms:List ai}{K:St→Prop}{rest:Act→World→Prop}{Q:Exit→Act→World→Prop}
  (h:GS C Pt s a w A Lx sp)(aW:C.N≤gS)(hop:o.op=.call {callee:=.value (.tmp t),args:=xs,argTypes:=ts})(hd:o.dst=some d)(hN:d<C.N)
  (hx:fE P xs.toList ts.toList=some ms)(hv:Yp P (.mG d (.t t) ms) s K)(hn:Y2 C Pt s w A Lx sp a.defers K rest):o.wpIn (Fw C.ro) 0 P a w rest Q:=by
 obtain⟨a1,a2⟩:=mK h.rs hx
 have h1:=(h.rs.env t).1
 simp only[Yp] at hv
 split at hv
 ·rename_i l l' y rs e1 e2
  obtain⟨rfl,hy,aF,hk2⟩:=hv
  replace e1:s.env t=.func (.yield l) [] []:=e1
  rw[e1] at h1
  have hx0:=h.x
  rw[e2] at hx0
  have aL:(⟨a.tmps,[]⟩:Act).eval=a.eval:=rfl
  rw[aL] at a2
  obtain⟨fn,tmps,assign,body,hrun,jA⟩:=C.yl l y rs w A Lx (xs.map a.eval) hx0 h.lt (fun b o ha=>⟨(h.rs.av b o ha).1,h.av b o ha⟩) (by rw[←hy];simp[a1]) (fun i=>by
   rw[←hy]
   have:=a2 i
   simpa[List.getD_eq_getElem?_getD,Array.getD_eq_getD_getElem?] using this)
  replace h1:RV w A (.func (.yield l) [] []) (a.tmps.getD t undef):=h1
  generalize aT:a.tmps.getD t undef=v0 at h1
  cases h1 with
  |func _ _ _ vf vc eU hsc hf hc=>
   have yT:vf= #[]:=Array.eq_empty_of_size_eq_zero (by simpa using eU)
   subst yT
   have yU:(Oper.semAt C.ro a.eval o).run P w=.ok (.round l fn tmps assign body) w:=by
    rw[Oper.semAt_eq _ _ _ (by rw[hop];intro c e;cases e)]
    rw[←hrun]
    simp[execOp,hop,resolve,Act.eval,aT,Deferred.ofValue,invoke]
   refine⟨fun _ _=>trivial,?_⟩
   rw[yU,Oper.uponIn_round]
   refine⟨fun e=>(by cases e),?_⟩
   refine RoundIn.mono (F:=Fw none) (n:=0) jA ?_
   rintro e w' ⟨b,A',Yt,rfl,yV,hlt',yW,yX⟩
   obtain⟨g1,g2⟩:=h.other (gh:=.ghost l rs (!b)) rfl yV hlt' yW yX
   rw[hd]
   have cI:d<gS:=Nat.lt_of_lt_of_le hN aW
   have eP:held ((s.set gS (.ghost l rs (!b))).set d (.lit (.bool b))) sp=held (s.set gS (.ghost l rs (!b))) sp:=iS cI _ _
   refine hn _ _ _ _ _ _ ?_ (g1.put hN cI (.lit (.bool b) rfl) trivial) (by rw[eP];exact g2) rfl
   cases b
   ·exact hk2
   ·exact aF
 ·exact hv.elim
theorem Oc{o:Oper}{d pos:Nat}{t:Tmp}{x:Operand}{ty:TypeId}{m:ai}{K:St→Prop}{rest:Act→World→Prop}{Q:Exit→Act→World→Prop}
  (h:GS C Pt s a w A Lx sp)(aW:C.N≤gS)(hop:o.op=.call {callee:=.value (.tmp t),args:= #[x],argTypes:= #[ty]})(hd:o.dst=some d)(hN:d<C.N)
  (hx:lG P ty x=some m)(hv:Yp P (.nN d (.t t) pos m) s K)(hn:Y2 C Pt s w A Lx sp a.defers K rest):o.wpIn (Fw C.ro) 0 P a w rest Q:=by
 have a2:=(xK h.rs hx).1.erase
 have h1:=(h.rs.env t).1
 simp only[Yp] at hv
 split at hv
 ·rename_i l l' z rs e1 e2
  obtain⟨rfl,z0,b,sz,len,cap,cs,rfl,hy,hb,hok,aF,hk2⟩:=hv
  replace e1:s.env t=.func (.yield l) [] []:=e1
  rw[e1] at h1
  have hx0:=h.x
  rw[e2] at hx0
  have aL:(⟨a.tmps,[]⟩:Act).eval=a.eval:=rfl
  rw[aL,hy] at a2
  have eN:∀o,live s.loc sp b o:=fun o=>.inl (by rw[hb];exact fun e=>by cases e)
  obtain⟨vs,T,g1,g2,g3⟩:=h.rs.loc b cs hb
  obtain⟨fn,tmps,assign,body,hrun,jA⟩:=C.xz l z0 pos rs w A Lx (a.eval x) b sz len cap cs hx0 hok h.lt (fun b o ha=>⟨(h.rs.av b o ha).1,h.av b o ha⟩) a2 ⟨vs,T,g1,g2,fun i=>(g3 i).1⟩ (fun o ha=>(h.rs.av b o ha).2 (eN o)) (fun o hl=>h.ap b o o (.inl (eN o)) hl)
  replace h1:RV w A (.func (.yield l) [] []) (a.tmps.getD t undef):=h1
  generalize aT:a.tmps.getD t undef=v0 at h1
  cases h1 with
  |func _ _ _ vf vc eU hsc hf hc=>
   have yT:vf= #[]:=Array.eq_empty_of_size_eq_zero (by simpa using eU)
   subst yT
   have yU:(Oper.semAt C.ro a.eval o).run P w=.ok (.round l fn tmps assign body) w:=by
    rw[Oper.semAt_eq _ _ _ (by rw[hop];intro c e;cases e)]
    rw[←hrun]
    simp[execOp,hop,resolve,Act.eval,aT,Deferred.ofValue,invoke]
   refine⟨fun _ _=>trivial,?_⟩
   rw[yU,Oper.uponIn_round]
   refine⟨fun e=>(by cases e),?_⟩
   refine RoundIn.mono (F:=Fw none) (n:=0) jA ?_
   rintro e w' ⟨bo,A',Yt,rfl,yV,hlt',yW,Od,hL',hl',yX⟩
   obtain⟨q1,q2⟩:=h.abD hb hok.2.2.2.2.2 (gh:=.ghost l rs (!bo)) rfl yV hlt' yW Od hL' hl' yX
   rw[hd]
   have cI:d<gS:=Nat.lt_of_lt_of_le hN aW
   have eP:held ((s.set gS (.ghost l rs (!bo))).set d (.lit (.bool bo))) sp=held (s.set gS (.ghost l rs (!bo))) sp:=iS cI _ _
   refine hn _ _ _ _ _ _ ?_ (q1.put hN cI (.lit (.bool bo) rfl) trivial) (by rw[eP];exact q2) rfl
   cases bo
   ·exact hk2
   ·exact aF
 ·exact hv.elim
theorem Oe{ops:Array Oper}{o:Oper}{g j:Nat}{want:Bool}{m:Yr}{K:St→Prop}{rest:Act→World→Prop}{Q:Exit→Act→World→Prop}(h:GS C Pt s a w A Lx sp)
  (hg:o.guard=some (j,want))(hj:(ops[j]?).bind (·.dst)=some g)(sv:g<C.N)(oW:∀d,o.dst=some d→d<C.N∧d<gS)(hv:Yp P (.guard g want o.dst m) s K)
  (hs:Yp P m s K→o.wpIn (Fw C.ro) 0 P a w rest Q)(hn:Y2 C Pt s w A Lx sp a.defers K rest):n7 C.ro P ops o a w rest Q:=by
 have skip:(K (match o.dst with|some d=>s.set d (.tuple [])|none=>s))→rest (a.put o.dst undef) w:=by
  intro hk
  cases hd:o.dst with
  |none=>
   rw[hd] at hk
   rw[su]
   exact hn _ _ _ _ _ _ hk h (.refl _ _ _) rfl
  |some d=>
   rw[hd] at hk
   exact hn _ _ _ _ _ _ hk (h.put (oW d hd).1 (oW d hd).2 x9 trivial) (by rw[iS (oW d hd).2];exact .refl _ _ _) rfl
 simp only[Yp] at hv
 split at hv
 ·rename_i b hb
  have he:=(h.rs.env g).1
  rw[hb] at he
  have kO:=he.lH
  have gj:yielded ops a.tmps j=some b:=by
   unfold yielded
   rw[hj]
   have:a.tmps[g]? =some (.bool b):=by
    have hlt:g<a.tmps.size:=by have:=h.rs.size;simp only at this;omega
    rw[Array.getD_eq_getD_getElem?,Array.getElem?_eq_getElem hlt] at kO
    rw[Array.getElem?_eq_getElem hlt]
    simpa using kO
   simp[this]
  have hw:Region.wanted o (yielded ops a.tmps)=(b==want):=by simp[Region.wanted,hg,gj]
  unfold n7
  by_cases oV:b=want
  ·rw[hw,if_pos (by simpa using oV)]
   exact hs (hv.1 oV)
  ·rw[hw,if_neg (by simpa using oV)]
   exact⟨fun _ _=>trivial,skip (hv.2 (by cases b<;>cases want<;>simp_all))⟩
 ·rename_i hb
  have he:=(h.rs.env g).1
  rw[hb] at he
  have kO:a.tmps.getD g undef=.tuple #[]:=by
   replace he:RV w A (.tuple []) (a.tmps.getD g undef):=he
   generalize a.tmps.getD g undef=v at he
   cases he with
   |tuple _ vs hs hr=>
    have aT:vs= #[]:=Array.eq_empty_of_size_eq_zero (by simpa using hs)
    rw[aT]
  have gj:yielded ops a.tmps j=none:=by
   unfold yielded
   rw[hj]
   have:a.tmps[g]? =some (.tuple #[]):=by
    have hlt:g<a.tmps.size:=by have:=h.rs.size;simp only at this;omega
    rw[Array.getD_eq_getD_getElem?,Array.getElem?_eq_getElem hlt] at kO
    rw[Array.getElem?_eq_getElem hlt]
    simpa using kO
   simp[this]
  have hw:Region.wanted o (yielded ops a.tmps)=false:=by simp[Region.wanted,hg,gj]
  unfold n7
  rw[if_neg (by rw[hw];simp)]
  exact⟨fun _ _=>trivial,skip hv⟩
 ·exact hv.elim
end
def yY(P:Program)(N:Nat)(o:Oper):Option Yr:=
 match o.dst,o.op with
 |some d,.call c=>match c.callee with
  |.value (.tmp t)=>if d<N then (fE P c.args.toList c.argTypes.toList).map (.mG d (.t t) ·) else none
  |_=>none
 |_,_=>none
def yZ(P:Program)(pos N:Nat)(o:Oper):Option Yr:=
 match o.dst,o.op with
 |some d,.call c=>match c.callee,c.args.toList,c.argTypes.toList with
  |.value (.tmp t),[x],[ty]=>if d<N then (lG P ty x).map (.nN d (.t t) pos ·) else none
  |_,_,_=>none
 |_,_=>none
def trI(P:Program)(N:Nat)(o:Oper):Option Yr:=
 match o.dst,o.op with
 |some d,.call c=>match c.callee with
  |.value (.func f)=>if d<N then (fE P c.args.toList c.argTypes.toList).map (.dZ d f ·) else none
  |.value (.tmp t)=>if d<N then (fE P c.args.toList c.argTypes.toList).map (.jW d (.t t) ·) else none
  |_=>none
 |_,_=>none
def y3(P:Program)(N:Nat)(o:Oper):Option Yr:=
 match o.dst,o.op with
 |some d,.range T x=>if d<N then match P.underlying T,aD x with
  |some .string,some x=>some (.oK d x)
  |some (.map _ _),some x=>some (.qm d x)
  |_,_=>none else none
 |some d,.next x true=>if d<N then (aD x).map (.oL d ·) else none
 |some d,.next x false=>if d<N then (aD x).map (.qn d ·) else none
 |some d,.entry x=>if d<N then (aD x).map (.rX d ·) else none
 |some d,.makeMap _ none=>if d<N then some (.mkMap d) else none
 |none,.mapUpdate T x k y=>match P.underlying T with
  |some (.map kt _)=>match n9 P kt,aD x,aD k,aD y with
   |some n,some x,some k,some y=>some (.kJ x k y n)
   |_,_,_,_=>none
  |_=>none
 |some d,.mapEntry T x k=>if d<N then match P.underlying T with
  |some (.map kt et)=>match n9 P kt,(zeroOf P et).bind qv,aD x,aD k with
   |some n,some z,some x,some k=>some (.jt d x k n z)
   |_,_,_,_=>none
  |_=>none else none
 |none,.entryStore _ x st y=>match aD x,aD st,aD y with
  |some x,some st,some y=>some (.rW x st y)
  |_,_,_=>none
 |some d,.lookup T x k ok=>if d<N then match P.underlying T with
  |some (.map kt et)=>match n9 P kt,(zeroOf P et).bind uH,aD x,aD k with
   |some n,some z,some x,some k=>some (.lookup d x k n ok z)
   |_,_,_,_=>none
  |_=>none else none
 |_,_=>none
def qQ(P:Program)(yl:Nat)(N:Nat)(o:Oper):Option Yr:=if yl=1 then yY P N o else if yl=2 then trI P N o else if 3≤yl then yZ P (yl - 3) N o else y3 P N o
def y4(aE:cv)(o:Oper):Nat:=match o.dst with
 |some d=>if aE.yl.contains d then 1 else if aE.ic.contains d then 2 else look aE.CS d 0
 |none=>0
def Ek(o:Oper):Bool:=match o.op with
 |.defer _=>false
 |_=>true
theorem y5{P:Program}{f:FuncId}(h:Zn P f=true)(vs:Array Value)(w:World):(callFunc f vs).run P w=.ok (.enter f vs) w:=by
 unfold Zn at h
 split at h
 ·rename_i fn hfn
  simp only[Bool.and_eq_true,bne_iff_ne,ne_eq] at h
  unfold callFunc
  simp only[Sem.run_bind,run_program,Result.andThen_ok,hfn]
  have hb:fn.body.isNone=false:=by cases hfb:fn.body with
   |none=>rw[hfb] at h;simp at h
   |some c=>rfl
  have hnm:(fn.name== "runtime.NumGoroutine")=false:=by simpa using h.1
  rw[hnm,hb]
  rfl
 ·cases h
def trX(f:Array Oper→Oper→Option Yr)(P:Program)(aE:cv)(N:Nat)(ops:Array Oper)(o:Oper):Option Yr:=
 match f ops o with
 |some m=>if y4 aE o==0&&qJ m&&Ek o then some m else vk
 |none=>vk
where vk:Option Yr:=match o.guard with
 |none=>qQ P (y4 aE o) N o
 |some (j,want)=>match (ops[j]?).bind (·.dst),qQ P (y4 aE o) N o with
  |some g,some m=>if g<N then some (.guard g want o.dst m) else none
  |_,_=>none
section
variable {P:Program} {C:Ctx P} {Pt:List (Nat×Obj)} {s:St} {a:Act} {w:World} {A Lx:aJ} {sp:Sp} {K:St→Prop} {rest:Act→World→Prop} {Q:Exit→Act→World→Prop} {o:Oper}
theorem El{N:Nat}{m:Yr}(h:yY P N o=some m):∃d t xs ts ms,o.dst=some d∧d<N∧o.op=.call {callee:=.value (.tmp t),args:=xs,argTypes:=ts}∧fE P xs.toList ts.toList=some ms∧m=.mG d (.t t) ms:=by
 unfold yY at h
 split at h
 ·rename_i d c hd hop
  split at h
  ·rename_i t hc
   split at h
   ·rename_i hN
    simp only[Option.map_eq_some_iff] at h
    obtain⟨ms,fI,rfl⟩:=h
    refine⟨d,t,c.args,c.argTypes,ms,hd,hN,?_,fI,rfl⟩
    rw[hop,←hc]
   ·cases h
  ·cases h
 ·cases h
theorem Em{f:FuncId}{vs:Array Value}{xs:List AV}{d:Nat}(hp:YZ P f xs s fun r s'=>K (s'.set d r))(aW:C.N≤gS)(h:GS C Pt s a w A Lx sp)(hd:o.dst=some d)(hN:d<C.N)(hs:vs.size=xs.length)(hr:∀i,RV w A (xs.getD i .any) (vs.getD i undef))(hrun:(Oper.semAt C.ro a.eval o).run P w=(callFunc f vs).run P w)(hn:Y2 C Pt s w A Lx sp a.defers K rest):o.wpIn (Fw C.ro) 0 P a w rest Q:=by
 have cI:d<gS:=Nat.lt_of_lt_of_le hN aW
 refine⟨fun _ _=>trivial,?_⟩
 rw[hrun,y5 hp.1,Oper.uponIn_enter]
 refine⟨fun e=>(by cases e),aaR (Calls.mono (hp.2 C Pt a w A Lx sp vs aW h hs hr) ?_)⟩
 rintro e w' ⟨r,v,s',A',Yt,sp',rfl,h2,h3,h4,h5,h6⟩
 show rest (a.put o.dst v) w'
 rw[hd]
 exact hn _ _ _ _ _ _ h6 (h4.put hN cI h2 h3) (by rw[iS cI];exact h5) rfl
theorem Of{f:FuncId}{d:Nat}{xs:Array Operand}{ts:Array TypeId}{ms:List ai}(hop:o.op=.call {callee:=.value (.func f),args:=xs,argTypes:=ts})(hd:o.dst=some d)(hN:d<C.N)(hx:fE P xs.toList ts.toList=some ms)(aW:C.N≤gS)(h:GS C Pt s a w A Lx sp)(hv:Yp P (.dZ d f ms) s K)(hn:Y2 C Pt s w A Lx sp a.defers K rest):o.wpIn (Fw C.ro) 0 P a w rest Q:=by
 obtain⟨a1,a2⟩:=mK h.rs hx
 have aL:(⟨a.tmps,[]⟩:Act).eval=a.eval:=rfl
 rw[aL] at a2
 refine Em (vs:=xs.map a.eval) hv aW h hd hN (by simp[a1]) (fun i=> ?_) ?_ hn
 ·have:=a2 i
  simpa[List.getD_eq_getElem?_getD,Array.getD_eq_getD_getElem?] using this
 ·rw[Oper.semAt_eq _ _ _ (by rw[hop];intro c e;cases e)]
  simp[execOp,hop,resolve,Act.eval,Deferred.ofValue,invoke]
theorem Og{t:Tmp}{d:Nat}{xs:Array Operand}{ts:Array TypeId}{ms:List ai}(hop:o.op=.call {callee:=.value (.tmp t),args:=xs,argTypes:=ts})(hd:o.dst=some d)(hN:d<C.N)(hx:fE P xs.toList ts.toList=some ms)(aW:C.N≤gS)(h:GS C Pt s a w A Lx sp)(hv:Yp P (.jW d (.t t) ms) s K)(hn:Y2 C Pt s w A Lx sp a.defers K rest):o.wpIn (Fw C.ro) 0 P a w rest Q:=by
 obtain⟨a1,a2⟩:=mK h.rs hx
 have aL:(⟨a.tmps,[]⟩:Act).eval=a.eval:=rfl
 rw[aL] at a2
 have h1:=(h.rs.env t).1
 simp only[Yp] at hv
 split at hv
 ·rename_i f fs cs e1
  replace e1:s.env t=.func (.func f) fs cs:=e1
  rw[e1] at h1
  replace h1:RV w A (.func (.func f) fs cs) (a.tmps.getD t undef):=h1
  generalize aT:a.tmps.getD t undef=v0 at h1
  cases h1 with
  |func _ _ _ vf vc eU hsc hf hc=>
   refine Em (vs:=vf++xs.map a.eval++vc) hv aW h hd hN (by simp[a1,eU,hsc]) (fun i=> ?_) ?_ hn
   ·have e2:=lK vf.toList (xs.map a.eval).toList vc.toList i undef
    have e3:=lK fs (ms.map fun x=>(x.ev s.env).erase) cs i .any
    have e4:(vf++xs.map a.eval++vc).getD i undef=(vf.toList++(xs.map a.eval).toList++vc.toList).getD i undef:=by simp[List.getD_eq_getElem?_getD,Array.getD_eq_getD_getElem?,Array.getElem?_append,List.getElem?_append]
    rw[e4,e2,e3]
    simp only[Array.length_toList,eU,Array.size_map,List.length_map,a1]
    split
    ·have:=hf i
     simpa[List.getD_eq_getElem?_getD,Array.getD_eq_getD_getElem?] using this
    ·split
     ·have:=a2 (i - fs.length)
      simpa[List.getD_eq_getElem?_getD,Array.getD_eq_getD_getElem?] using this
     ·have:=hc (i - fs.length - xs.size)
      simpa[List.getD_eq_getElem?_getD,Array.getD_eq_getD_getElem?] using this
   ·rw[Oper.semAt_eq _ _ _ (by rw[hop];intro c e;cases e)]
    simp[execOp,hop,resolve,Act.eval,aT,Deferred.ofValue,invoke]
 ·exact hv.elim
theorem En{N:Nat}{m:Yr}(h:trI P N o=some m):∃d xs ts ms,o.dst=some d∧d<N∧fE P xs.toList ts.toList=some ms∧((∃f,o.op=.call {callee:=.value (.func f),args:=xs,argTypes:=ts}∧m=.dZ d f ms)∨∃t,o.op=.call {callee:=.value (.tmp t),args:=xs,argTypes:=ts}∧m=.jW d (.t t) ms):=by
 unfold trI at h
 split at h
 ·rename_i d c hd hop
  split at h
  ·rename_i f hc
   split at h
   ·rename_i hN
    simp only[Option.map_eq_some_iff] at h
    obtain⟨ms,fI,rfl⟩:=h
    exact⟨d,c.args,c.argTypes,ms,hd,hN,fI,.inl ⟨f,by rw[hop,←hc],rfl⟩⟩
   ·cases h
  ·rename_i t hc
   split at h
   ·rename_i hN
    simp only[Option.map_eq_some_iff] at h
    obtain⟨ms,fI,rfl⟩:=h
    exact⟨d,c.args,c.argTypes,ms,hd,hN,fI,.inr ⟨t,by rw[hop,←hc],rfl⟩⟩
   ·cases h
  ·cases h
 ·cases h
theorem Eo{pos N:Nat}{m:Yr}(h:yZ P pos N o=some m):∃d t x ty y,o.dst=some d∧d<N∧o.op=.call {callee:=.value (.tmp t),args:= #[x],argTypes:= #[ty]}∧lG P ty x=some y∧m=.nN d (.t t) pos y:=by
 unfold yZ at h
 split at h
 ·rename_i d c hd hop
  split at h
  ·rename_i t x ty hc hxs hts
   split at h
   ·rename_i hN
    simp only[Option.map_eq_some_iff] at h
    obtain⟨y,hy,rfl⟩:=h
    have e1:c.args= #[x]:=by rw[←Array.toList_inj,hxs]
    have e2:c.argTypes= #[ty]:=by rw[←Array.toList_inj,hts]
    refine⟨d,t,x,ty,y,hd,hN,?_,hy,rfl⟩
    rw[hop,←hc,←e1,←e2]
   ·cases h
  ·cases h
 ·cases h
def qR(P:Program)(N:Nat)(f:Array Oper→Oper→Option Yr):Prop:=∀{ops:Array Oper} {o:Oper} {m:Yr} {s:St} {a:Act} {w:World} {A:aJ} {sp:Sp} {K:St→Prop} {rest:Act→World→Prop} {Q:Exit→Act→World→Prop},f ops o=some m→RS N s a w A sp→Yp P m s K→Next s w A sp N K rest→(if Region.wanted o (yielded ops a.tmps)=true then o.wp P a w rest Q∨(o.asks P a w∧LetsOut Q) else rest (a.put o.dst undef) w)
theorem Ep{yl:Nat}{m:Yr}(aW:C.N≤gS)(hm:qQ P yl C.N o=some m)(h:GS C Pt s a w A Lx sp)(hv:Yp P m s K)(hn:Y2 C Pt s w A Lx sp a.defers K rest):o.wpIn (Fw C.ro) 0 P a w rest Q∧∀d,o.dst=some d→d<C.N∧d<gS:=by
 unfold qQ at hm
 split at hm
 ·obtain⟨d,t,xs,ts,ms,hd,hN,hop,fI,rfl⟩:=El hm
  exact⟨Ob h aW hop hd hN fI hv hn,fun d' hd'=>by rw[hd] at hd';injection hd' with hd';subst hd';exact⟨hN,Nat.lt_of_lt_of_le hN aW⟩⟩
 split at hm
 ·obtain⟨d,xs,ts,ms,hd,hN,fI,⟨f,hop,rfl⟩|⟨t,hop,rfl⟩⟩:=En hm
  ·exact⟨Of hop hd hN fI aW h hv hn,fun d' hd'=>by rw[hd] at hd';injection hd' with hd';subst hd';exact⟨hN,Nat.lt_of_lt_of_le hN aW⟩⟩
  ·exact⟨Og hop hd hN fI aW h hv hn,fun d' hd'=>by rw[hd] at hd';injection hd' with hd';subst hd';exact⟨hN,Nat.lt_of_lt_of_le hN aW⟩⟩
 split at hm
 ·obtain⟨d,t,x,ty,y,hd,hN,hop,hy,rfl⟩:=Eo hm
  exact⟨Oc h aW hop hd hN hy hv hn,fun d' hd'=>by rw[hd] at hd';injection hd' with hd';subst hd';exact⟨hN,Nat.lt_of_lt_of_le hN aW⟩⟩
 ·unfold y3 at hm
  split at hm
  ·rename_i d T x hd hop
   split at hm
   ·rename_i hN
    split at hm
    ·injection hm with hm;subst hm
     exact⟨NN hop hd hN aW ‹_› ‹_› h hv hn,fun d' hd'=>by rw[hd] at hd';injection hd' with hd';subst hd';exact⟨hN,Nat.lt_of_lt_of_le hN aW⟩⟩
    ·injection hm with hm;subst hm
     exact⟨N4 hop hd hN aW ‹_› ‹_› h hv hn,fun d' hd'=>by rw[hd] at hd';injection hd' with hd';subst hd';exact⟨hN,Nat.lt_of_lt_of_le hN aW⟩⟩
    ·cases hm
   ·cases hm
  ·rename_i d x hd hop
   split at hm
   ·rename_i hN
    simp only[Option.map_eq_some_iff] at hm
    obtain⟨y,hy,rfl⟩:=hm
    exact⟨NO hop hd hN aW hy h hv hn,fun d' hd'=>by rw[hd] at hd';injection hd' with hd';subst hd';exact⟨hN,Nat.lt_of_lt_of_le hN aW⟩⟩
   ·cases hm
  ·rename_i d x hd hop
   split at hm
   ·rename_i hN
    simp only[Option.map_eq_some_iff] at hm
    obtain⟨y,hy,rfl⟩:=hm
    exact⟨N7 hop hd hN aW hy h hv hn,fun d' hd'=>by rw[hd] at hd';injection hd' with hd';subst hd';exact⟨hN,Nat.lt_of_lt_of_le hN aW⟩⟩
   ·cases hm
  ·rename_i d x hd hop
   split at hm
   ·rename_i hN
    simp only[Option.map_eq_some_iff] at hm
    obtain⟨y,hy,rfl⟩:=hm
    exact⟨N_ hop hd hN aW hy h hv hn,fun d' hd'=>by rw[hd] at hd';injection hd' with hd';subst hd';exact⟨hN,Nat.lt_of_lt_of_le hN aW⟩⟩
   ·cases hm
  ·rename_i d T hd hop
   split at hm
   ·rename_i hN
    injection hm with hm;subst hm
    exact⟨NP hop hd hN aW h hv hn,fun d' hd'=>by rw[hd] at hd';injection hd' with hd';subst hd';exact⟨hN,Nat.lt_of_lt_of_le hN aW⟩⟩
   ·cases hm
  ·rename_i T x k y hd hop
   split at hm
   ·split at hm
    ·injection hm with hm;subst hm
     exact⟨N0 hop hd ‹_› ‹_› ‹_› ‹_› ‹_› h hv hn,fun d' hd'=>by rw[hd] at hd';cases hd'⟩
    ·cases hm
   ·cases hm
  ·rename_i d T x k hd hop
   split at hm
   ·rename_i hN
    split at hm
    ·split at hm
     ·rename_i hz _ _
      simp only[Option.bind_eq_some_iff] at hz
      obtain⟨z,nY,oT⟩:=hz
      injection hm with hm;subst hm
      exact⟨N1 hop hd hN aW ‹_› ‹_› nY oT ‹_› ‹_› h hv hn,fun d' hd'=>by rw[hd] at hd';injection hd' with hd';subst hd';exact⟨hN,Nat.lt_of_lt_of_le hN aW⟩⟩
     ·cases hm
    ·cases hm
   ·cases hm
  ·rename_i T x st y hd hop
   split at hm
   ·injection hm with hm;subst hm
    exact⟨N2 hop hd ‹_› ‹_› ‹_› h hv hn,fun d' hd'=>by rw[hd] at hd';cases hd'⟩
   ·cases hm
  ·rename_i d T x k ok hd hop
   split at hm
   ·rename_i hN
    split at hm
    ·split at hm
     ·rename_i hz _ _
      simp only[Option.bind_eq_some_iff] at hz
      obtain⟨z,nY,oT⟩:=hz
      injection hm with hm;subst hm
      exact⟨NZ hop hd hN aW ‹_› ‹_› nY oT ‹_› ‹_› h hv hn,fun d' hd'=>by rw[hd] at hd';injection hd' with hd';subst hd';exact⟨hN,Nat.lt_of_lt_of_le hN aW⟩⟩
     ·cases hm
    ·cases hm
   ·cases hm
  ·cases hm
theorem Er{yl:Nat}{N:Nat}{m:Yr}(hm:qQ P yl N o=some m):∀d,o.dst=some d→d<N:=by
 intro d hd
 unfold qQ at hm
 split at hm
 ·obtain⟨d',t,xs,ts,ms,hd',hN,_⟩:=El hm
  rw[hd] at hd';injection hd' with hd';subst hd';exact hN
 split at hm
 ·obtain⟨d',xs,ts,ms,hd',hN,_⟩:=En hm
  rw[hd] at hd';injection hd' with hd';subst hd';exact hN
 split at hm
 ·obtain⟨d',t,x,ty,y,hd',hN,_⟩:=Eo hm
  rw[hd] at hd';injection hd' with hd';subst hd';exact hN
 ·unfold y3 at hm
  split at hm<;>rename_i hd' hop<;>rw[hd] at hd'<;>first|(cases hd';done)|skip
  all_goals first
   |(injection hd' with hd';subst hd';split at hm<;>first|assumption|cases hm)
   |cases hm
theorem Es{f:Array Oper→Oper→Option Yr}(hf:qR P C.N f){aE:cv}{ops:Array Oper}{m:Yr}(aW:C.N≤gS)(hm:trX f P aE C.N ops o=some m)(h:GS C Pt s a w A Lx sp)(hv:Yp P m s K)(hn:Y2 C Pt s w A Lx sp a.defers K rest):n7 C.ro P ops o a w rest Q:=by
 have alt:trX.vk P aE C.N ops o=some m→n7 C.ro P ops o a w rest Q:=by
  intro hm
  unfold trX.vk at hm
  split at hm
  ·rename_i hg
   unfold n7
   rw[if_pos (by simp[Region.wanted,hg])]
   exact(Ep aW hm h hv hn).1
  ·rename_i j want hg
   split at hm
   ·rename_i g m' hj hm'
    split at hm
    ·rename_i sv
     injection hm with hm;subst hm
     exact Oe h hg hj sv (fun d hd=>⟨Er hm' d hd,Nat.lt_of_lt_of_le (Er hm' d hd) aW⟩) hv (fun qx=>(Ep aW hm' h qx hn).1) hn
    ·cases hm
   ·cases hm
 unfold trX at hm
 split at hm
 ·rename_i m' hm'
  split at hm
  ·rename_i hc
   injection hm with hm;subst hm
   simp only[Bool.and_eq_true] at hc
   exact NM h (fun c e=>by have:=hc.2;simp[Ek,e] at this) hc.1.2 hv (fun K rest Q qx hn'=>hf hm' h.rs qx hn') hn
  ·exact alt hm
 ·exact alt hm
def vl(f:Array Oper→Oper→Option Yr)(P:Program)(aE:cv)(N:Nat)(ops:Array Oper):List Oper→Option (List Yr)
 |[]=>some []
 |o::os=>match trX f P aE N ops o,vl f P aE N ops os with
  |some m,some ms=>some (m::ms)
  |_,_=>none
theorem Et{f:Array Oper→Oper→Option Yr}(hf:qR P C.N f){aE:cv}{ops:Array Oper}(aW:C.N≤gS):∀(os:List Oper) (ms:List Yr) (s:St) (a:Act) (w:World) (A Lx:aJ) (sp:Sp),vl f P aE C.N ops os=some ms→GS C Pt s a w A Lx sp→vcs P ms K s→Y2 C Pt s w A Lx sp a.defers K (Q .normal)→wpListIn (Fw C.ro) 0 P ops Q os a w
 |[],ms,s,a,w,A,Lx,sp,hm,h,hv,hn=>by
  injection hm with hm;subst hm
  exact hn _ _ _ _ _ _ hv h (.refl _ _ _) rfl
 |o::os,ms,s,a,w,A,Lx,sp,hm,h,hv,hn=>by
  simp only[vl] at hm
  split at hm
  ·rename_i m ms' h1 h2
   injection hm with hm;subst hm
   exact Es hf aW h1 h hv fun s' a' w' A' Yt sp' hk hr aL hd=>Et hf aW os ms' s' a' w' A' Yt sp' h2 hr hk fun s2 a2 w2 A2 lU fl hk2 cH dw gK=>hn s2 a2 w2 A2 lU fl hk2 cH (aL.trans dw) (gK.trans hd)
  ·cases hm
def vm(f:Array Oper→Oper→Option Yr)(P:Program)(aE:cv)(N:Nat)(ops:Array Oper):List Nat→Option (List (Nat×Yr))
 |[]=>some []
 |i::is=>match ops[i]? with
  |some o=>match trX f P aE N ops o,vm f P aE N ops is with
   |some m,some l=>some ((i,m)::l)
   |_,_=>none
  |none=>none
def y6(f:Array Oper→Oper→Option Yr)(P:Program)(aE:cv)(N:Nat)(id:Nat)(ops:Array Oper):Option (List Yr):=
 let ord:=look aE.ord id []
 match vm f P aE N ops ord with
 |some l=>if P.follows .mixedOrders&&ym ops&&decide (ord.length=ops.size)&&ve ord&&((List.range ops.size).all fun i=>ord.contains i)&&mZ (Region.before ops) l then some (l.map (·.2)) else none
 |none=>none
theorem Eu{f:Array Oper→Oper→Option Yr}{aE:cv}{N:Nat}{ops:Array Oper}:∀(is:List Nat) (l:List (Nat×Yr)),vm f P aE N ops is=some l→l.map (·.1)=is∧∀p∈l,∃o,ops[p.1]? =some o∧trX f P aE N ops o=some p.2
 |[],l,h=>by injection h with h;subst h;exact⟨rfl,by simp⟩
 |i::is,l,h=>by
  simp only[vm] at h
  split at h
  ·rename_i o ho
   split at h
   ·rename_i m l' hm hl
    injection h with h;subst h
    obtain⟨h1,h2⟩:=Eu is l' hl
    refine⟨by simp[h1],fun p hp=> ?_⟩
    rcases List.mem_cons.1 hp with rfl|hp
    ·exact⟨o,ho,hm⟩
    ·exact h2 p hp
   ·cases h
  ·cases h
theorem Oh{f:Array Oper→Oper→Option Yr}(hf:qR P C.N f){aE:cv}{ops:Array Oper}(aW:C.N≤gS)(sK:ym ops=true):∀(n:Nat) (rem:List (Nat×Yr)) (listed:Array Bool) (s:St) (a:Act) (w:World) (A Lx:aJ) (sp:Sp),
  rem.length=n→listed.size=ops.size→(rem.map (·.1)).Nodup→(∀i,i<ops.size→(listed.getD i true=false↔i∈rem.map (·.1)))→
  (∀p∈rem,∃o,ops[p.1]? =some o∧trX f P aE C.N ops o=some p.2)→mZ (Region.before ops) rem=true→
  (∀i o,listed.getD i true=true→i<ops.size→ops[i]? =some o→o.after.all (fun e=> !Region.binds .any e||listed.getD e.on false)=true)→
  GS C Pt s a w A Lx sp→vcs P (rem.map (·.2)) K s→Y2 C Pt s w A Lx sp a.defers K (Q .normal)→
  wpAnyIn (Fw C.ro) 0 P .any ops Q n listed a w:=by
 intro n
 induction n with
 |zero=>
  intro rem listed s a w A Lx sp hlen hls YG hin kQ m0 cu h hv hn
  have yp:rem=[]:=List.eq_nil_of_length_eq_zero hlen
  subst yp
  refine⟨?_,hn _ _ _ _ _ _ hv h (.refl _ _ _) rfl⟩
  rw[Region.ready,List.filter_eq_nil_iff]
  intro i hi
  have hi':i<ops.size:=by simpa using hi
  have:=(hin i hi')
  simp only[List.map_nil,List.not_mem_nil,iff_false,Bool.not_eq_false] at this
  simp[this]
 |succ n ih=>
  intro rem listed s a w A Lx sp hlen hls YG hin kQ m0 cu h hv hn
  have hmem:∀i,i∈Region.ready .any ops listed→i<ops.size∧listed.getD i true=false∧∃o,ops[i]? =some o∧o.after.all (fun e=> !Region.binds .any e||listed.getD e.on false)=true:=by
   intro i hi
   rw[Region.ready,List.mem_filter] at hi
   obtain⟨h1,h2⟩:=hi
   have h1:i<ops.size:=by simpa using h1
   simp only[Bool.and_eq_true,Bool.not_eq_true'] at h2
   refine⟨h1,h2.1,ops[i],Array.getElem?_eq_getElem h1,?_⟩
   have:=h2.2
   rw[Array.getElem?_eq_getElem h1] at this
   exact this
  refine⟨fun qI=> ?_,fun i hi=> ?_⟩
  ·exfalso
   have hne:rem.map (·.1)≠[]:=by
    intro e
    have:rem.length=0:=by simpa using congrArg List.length e
    omega
   have hex:∃i,i∈rem.map (·.1)∧∀j,j∈rem.map (·.1)→i≤j:=by
    generalize rem.map (·.1)=l at hne
    induction l with
    |nil=>exact absurd rfl hne
    |cons x l ihl=>
     by_cases hl:l=[]
     ·subst hl;exact⟨x,by simp,by simp⟩
     ·obtain⟨i,h1,h2⟩:=ihl hl
      by_cases hx:x≤i
      ·exact⟨x,by simp,fun j hj=>by rcases List.mem_cons.1 hj with rfl|hj;exact Nat.le_refl _;exact Nat.le_trans hx (h2 j hj)⟩
      ·exact⟨i,by simp[h1],fun j hj=>by rcases List.mem_cons.1 hj with rfl|hj;omega;exact h2 j hj⟩
   obtain⟨i,hi1,hi2⟩:=hex
   obtain⟨p,hp,rfl⟩:=List.mem_map.1 hi1
   obtain⟨o,ho,_⟩:=kQ p hp
   have hlt:=(Array.getElem?_eq_some_iff.1 ho).1
   have sL:p.1∈Region.ready .any ops listed:=by
    rw[Region.ready,List.mem_filter]
    refine⟨by simpa using hlt,?_⟩
    have hl:listed.getD p.1 true=false:=(hin _ hlt).2 hi1
    simp only[hl,Bool.not_false,Bool.true_and,ho,Option.map_some,Option.getD_some]
    refine Array.all_eq_true_iff_forall_mem.2 fun e he=> ?_
    cases hb:Region.binds .any e
    ·rfl
    ·have hf:=(List.all_eq_true.1 sK) p.1 (by simpa using hlt)
     rw[ho] at hf
     have hf:=(Array.all_eq_true_iff_forall_mem.1 hf) e he
     simp only[hb,Bool.not_true,Bool.false_or,decide_eq_true_eq] at hf
     have hnot:e.on∉rem.map (·.1):=fun hm=>by have:=hi2 _ hm;omega
     have hlo:e.on<ops.size:=by omega
     have:=mt (hin e.on hlo).1 hnot
     rw[Bool.not_eq_false] at this
     rw[Array.getD_eq_getD_getElem?,Array.getElem?_eq_getElem (by omega)] at this
     simp only[Bool.not_true,Bool.false_or]
     rw[Array.getD_eq_getD_getElem?,Array.getElem?_eq_getElem (by omega)]
     exact this
   rw[qI] at sL
   cases sL
  ·obtain⟨hlt,YF,o,ho,hall⟩:=hmem i hi
   have yq:i∈rem.map (·.1):=(hin i hlt).1 YF
   obtain⟨p,hp,rfl⟩:=List.mem_map.1 yq
   obtain⟨pre,post,rfl⟩:=List.append_of_mem hp
   obtain⟨yt,kM⟩:=yo pre m0
   obtain⟨o',ho',yu⟩:=kQ p hp
   rw[ho] at ho';injection ho' with ho';subst ho'
   have yw:∀y∈pre.map (·.2),mY y p.2=true:=by
    intro y hy
    obtain⟨q,hq,rfl⟩:=List.mem_map.1 hy
    have:=kM q hq
    cases hw:((Region.before ops).getD p.1 0).testBit q.1
    ·rw[hw,Bool.false_or] at this;exact this
    ·exfalso
     have h1:=D0 cu hls (DY ops _ _ hw) o ho hall
     obtain⟨oq,hoq,_⟩:=kQ q (List.mem_append_left _ hq)
     have yx:=(Array.getElem?_eq_some_iff.1 hoq).1
     have h2:=(hin q.1 yx).2 (List.mem_map.2 ⟨q,List.mem_append_left _ hq,rfl⟩)
     rw[Array.getD_eq_getD_getElem?,Array.getElem?_eq_getElem (by omega)] at h1 h2
     rw[Option.getD_some] at h1 h2
     rw[h1] at h2;cases h2
   rw[List.map_append,List.map_cons] at hv
   have ZZ:fj s:=⟨w.heap.size,fun b hb=>by
    cases hl:s.loc b with
    |none=>rfl
    |some cs=>
     obtain⟨vs,T,h1,_⟩:=h.rs.loc b cs hl
     have:=(Array.getElem?_eq_some_iff.1 h1).1
     omega⟩
   have gJ:=aa2 (pre.map (·.2)) yw s ZZ hv
   rw[←List.map_append] at gJ
   unfold wpOpIn
   simp only[ho]
   refine Es hf aW yu h gJ fun s' a' w' A' Yt sp' hk hr aL hd=> ?_
   have cL:∀j,j<ops.size→(listed.setIfInBounds p.1 true).getD j true=if j=p.1 then true else listed.getD j true:=by
    intro j hj
    simp only[Array.getD_eq_getD_getElem?]
    by_cases e:j=p.1
    ·subst e;rw[Array.getElem?_setIfInBounds_self_of_lt (by omega)];simp
    ·rw[Array.getElem?_setIfInBounds_ne (Ne.symm e),if_neg e]
   refine ih (pre++post) (listed.setIfInBounds p.1 true) s' a' w' A' Yt sp' (by simp at hlen⊢;omega) (by simpa using hls) ?_ (fun j hj=> ?_) (fun q hq=>kQ q ?_) yt (fun j oj hj sM kR=> ?_) hr hk (fun s2 a2 w2 A2 lU fl hk2 cH dw gK=>hn s2 a2 w2 A2 lU fl hk2 cH (aL.trans dw) (gK.trans hd))
   ·rw[List.map_append,List.map_cons] at YG
    rw[List.map_append]
    exact YG.sublist (List.Sublist.append_left (List.sublist_cons_self _ _) _)
   ·rw[cL j hj]
    rw[List.map_append,List.map_cons] at YG hin
    rw[List.map_append]
    by_cases e:j=p.1
    ·subst e
     simp only[if_true,Bool.true_eq_false,false_iff,List.mem_append,not_or]
     have:=List.nodup_append.1 YG
     refine⟨fun hm=>(this.2.2 _ hm _ (List.mem_cons_self ..)) rfl,fun hm=> ?_⟩
     exact(List.nodup_cons.1 this.2.1).1 hm
    ·rw[if_neg e,hin j hj]
     simp only[List.mem_append,List.mem_cons,e,false_or]
   ·rcases List.mem_append.1 hq with hq|hq
    ·exact List.mem_append_left _ hq
    ·exact List.mem_append_right _ (List.mem_cons_of_mem _ hq)
   ·have yy:∀k,listed.getD k false=true→(listed.setIfInBounds p.1 true).getD k false=true:=by
     intro k hk
     simp only[Array.getD_eq_getD_getElem?] at hk⊢
     by_cases e:k=p.1
     ·subst e;rw[Array.getElem?_setIfInBounds_self_of_lt (by omega)];rfl
     ·rw[Array.getElem?_setIfInBounds_ne (Ne.symm e)];exact hk
    have Z8:oj.after.all (fun e=> !Region.binds .any e||listed.getD e.on false)=true:=by
     rw[cL j sM] at hj
     by_cases e:j=p.1
     ·subst e;rw[ho] at kR;injection kR with kR;subst kR;exact hall
     ·rw[if_neg e] at hj;exact cu j oj hj sM kR
    refine Array.all_eq_true_iff_forall_mem.2 fun e he=> ?_
    have:=(Array.all_eq_true_iff_forall_mem.1 Z8) e he
    cases hb:Region.binds .any e
    ·rfl
    ·simp only[hb,Bool.not_true,Bool.false_or] at this⊢
     exact yy _ this
theorem GS.drew(h:GS C Pt s a w A Lx sp):GS C Pt s a w.drew A Lx sp:=(h.own (a':=a) h.rs.drew (Ev.drew _) (fun _ _=>rfl) rfl).1
theorem Oi{f:Array Oper→Oper→Option Yr}(hf:qR P C.N f){aE:cv}{id:Nat}{ops:Array Oper}{ms:List Yr}(aW:C.N≤gS)
  (hm:y6 f P aE C.N id ops=some ms)(h:GS C Pt s a w A Lx sp)(hv:vcs P ms K s)(hn:Y2 C Pt s w A Lx sp a.defers K (Q .normal)):
  (Code.region id ops true).wpIn (Fw C.ro) 0 P Q a w:=by
 unfold y6 at hm
 simp only at hm
 split at hm
 ·rename_i l hl
  split at hm
  ·rename_i hc
   injection hm with hm;subst hm
   simp only[Bool.and_eq_true,decide_eq_true_eq] at hc
   obtain⟨⟨⟨⟨⟨Oj,sK⟩,hlen⟩,Ok⟩,hall⟩,m0⟩:=hc
   obtain⟨h1,h2⟩:=Eu _ l hl
   have hlen':l.length=ops.size:=by rw[←hlen,←h1];simp
   have hin:∀i,i<ops.size→i∈l.map (·.1):=by
    intro i hi
    have:=(List.all_eq_true.1 hall) i (by simpa using hi)
    rw[h1];simpa using this
   refine wpIn_region_any Oj ?_
   have YG:(l.map (·.1)).Nodup:=by rw[h1];exact D2 _ Ok
   have dO:(Array.replicate ops.size false).size=ops.size:=by simp
   rw[←hlen']
   rw[hlen']
   refine Oh hf aW sK ops.size l (Array.replicate ops.size false) s a _ A Lx sp hlen' dO YG (fun i hi=>⟨fun _=>hin i hi,fun _=>by simp[Array.getD_eq_getD_getElem?,hi]⟩) h2 m0 (fun i o hi hlt _=> ?_) h.drew hv (fun s' a' w' A' Yt sp' hk hr aL=>hn s' a' w' A' Yt sp' hk hr ((Ev.drew _).trans aL))
   simp[Array.getD_eq_getD_getElem?,hlt] at hi
  ·cases hm
 ·cases hm
theorem Ol(aE:cv)(N:Nat):qR P N (nU P aE N):=fun hm h hv hn=>n3 hm h hv hn
theorem Om(aE:cv)(N:Nat):qR P N (sJ P aE N):=fun hm h hv hn=>D1 hm h hv hn
end
end Go.az
namespace Go.az
open Go.RowKit
section
variable {P:Program} {C:Ctx P} {Pt:List (Nat×Obj)} {s:St} {a:Act} {w:World} {A Lx:aJ} {sp:Sp} {K:St→Prop}
theorem On{k:Nat}(hk:k<gS)(h:GS C Pt s a w A Lx sp)(hv:Yp P (.Yu k) s K):∃s' A' sp',K s'∧GS C Pt s' a w A' Lx sp'∧Ev w A (join (held s sp) Lx) w A' (join (held s' sp') Lx):=by
 simp only[Yp] at hv
 split at hv
 ·rename_i b len cap sz e1
  split at hv
  ·rename_i cs hb
   obtain⟨h1,h2,h3,hK⟩:=hv
   obtain⟨vs,T,hh,hsz,hr⟩:=h.rs.loc b cs hb
   let A':aJ:=fun c o=>A c o∨(c=b∧o<cs.length)
   have hmono:∀{x:AV} {v:Value},RV w A x v→RV w A' x v:=fun hx=>hx.mono (fun c o v ha hv=>⟨hv,.inl ha⟩) (.same fun _ _ ha=>.inl ha)
   have aab:∀r,(sp r).2.1<(sp r).2.2→(sp r).1≠b:=fun r hr' e=>by
    have:=(h.rs.bR r hr').2
    rw[e,hb] at this;cases this
   have YB:RS C.N ⟨aq s.env k (.slice sz (chunk sz cs len) 0),aq s.loc b none⟩ ⟨a.tmps,[]⟩ w A' sp:=by
    refine⟨h.rs.size,rfl,fun d=> ?_,fun c cs' hc=> ?_,fun r hr'=>⟨(h.rs.bR r hr').1,?_⟩,h.rs.YJ,fun c o ha=>⟨?_,fun hl=> ?_⟩⟩
    ·show RV w A' (aq s.env k (AV.slice sz (chunk sz cs len) 0) d) (a.tmps.getD d undef)∧bN sp (aq s.env k (AV.slice sz (chunk sz cs len) 0) d) (a.tmps.getD d undef)
     by_cases hd:d=k
     ·subst hd
      rw[show aq s.env d (AV.slice sz (chunk sz cs len) 0) d=AV.slice sz (chunk sz cs len) 0 from gV _ _ _]
      have g:=(h.rs.env d).1
      rw[e1] at g
      generalize a.tmps.getD d undef=v0 at g
      cases g with
      |aP _ _ _ _ _ hlc=>
       refine⟨?_,.inl rfl⟩
       have:=RV.slice (w:=w) (A:=A') sz (chunk sz cs len) 0 b 0 cap (fun i=>vs.getD i undef) (fun x hx=>(oU sz len cs h1 h2 x hx).1) (fun x hx=>(oU sz len cs h1 h2 x hx).2) (by rw[gm];exact hlc) (by rw[gm];exact h3) (fun i hi=> ?_) (fun i=> ?_)
       ·rw[gm] at this;exact this
       ·rw[gm] at hi
        refine⟨?_,.inr ⟨rfl,by omega⟩⟩
        rw[Nat.zero_add]
        simp[World.cell?,hh,Array.getD_eq_getD_getElem?,Array.getElem?_eq_getElem (show i<vs.size by omega)]
       ·rw[uW sz len cs h1 h2,gF]
        by_cases hi:i<len*sz
        ·have e3:(cs.take (len*sz)).getD i .any=cs.getD i .any:=by simp only[List.getD_eq_getElem?_getD,List.getElem?_take,hi,if_true]
         rw[e3]
         exact(hmono (hr i).1).erase0
        ·have e3:(cs.take (len*sz)).getD i .any=.any:=by simp only[List.getD_eq_getElem?_getD,List.getElem?_take,hi,if_false,Option.getD_none]
         rw[e3]
         exact .any _
     ·rw[show aq s.env k (AV.slice sz (chunk sz cs len) 0) d=s.env d from bM _ _ hd]
      exact⟨hmono (h.rs.env d).1,(h.rs.env d).2⟩
    ·simp only[aq] at hc
     split at hc
     ·cases hc
     ·obtain⟨vs',T',g1,g2,g3⟩:=h.rs.loc c cs' hc
      exact⟨vs',T',g1,g2,fun i=>⟨hmono (g3 i).1,(g3 i).2⟩⟩
    ·simp only[aq];rw[if_neg (aab r hr')];exact(h.rs.bR r hr').2
    ·rcases ha with ha|⟨rfl,_⟩
     ·exact(h.rs.av c o ha).1
     ·exact cn hh
    ·rcases ha with ha|⟨rfl,ho⟩
     ·refine(h.rs.av c o ha).2 ?_
      rcases hl with hl|hl
      ·simp only[aq] at hl
       split at hl
       ·exact absurd rfl hl
       ·exact .inl hl
      ·exact .inr hl
     ·rcases hl with hl|⟨r,q1,q2,q3⟩
      ·simp[aq] at hl
      ·exact aab r (by omega) q1
   have eN:∀c o,live (aq s.loc b none) sp c o→live s.loc sp c o:=by
    rintro c o (hl|hl)
    ·simp only[aq] at hl
     split at hl
     ·exact absurd rfl hl
     ·exact .inl hl
    ·exact .inr hl
   have aL:Ev w A (live s.loc sp) w A' (live (aq s.loc b none) sp):=by
    refine⟨rfl,rfl,rfl,Nat.le_refl _,fun c o _ hl=>⟨rfl,fun hh=>hl (eN c o hh)⟩,fun _ _ _=>rfl,fun _ _ ha=>.inl ha,fun c o ha=> ?_⟩
    rcases ha with ha|⟨rfl,_⟩
    ·exact .inl ha
    ·exact .inr (.inl (.inl (by rw[hb];exact fun e=>by cases e)))
   obtain⟨g1,g2⟩:=h.own (a':=a) YB aL (fun q hq=>bM _ _ (by omega)) rfl
   exact⟨_,A',sp,hK,g1,g2⟩
  ·exact hv.elim
 ·rename_i b e1
  split at hv
  ·rename_i cs hb
   rcases hv with ⟨sz,off,hc,hK⟩|⟨off,b2,len,cap,sz,bW,hc,hne,YL,h1,h2,h3,hK⟩|⟨off,b2,es,hc,cY,hK⟩|hK
   ·have dO:=h.rs.aK ((k+1)*1000+off)
    have hb':(s.aK ((k+1)*1000+off)).loc b=some (cs.map (aG ((k+1)*1000+off))):=by simp[St.aK,hb]
    have hlt:off<cs.length:=by
     by_cases hl:off<cs.length
     ·exact hl
     ·rw[List.getElem?_eq_none (by omega)] at hc;cases hc
    obtain⟨vs,T,hh,hsz,hr⟩:=dO.loc b _ hb'
    have hcell:RV w A (.lit (.slice none 0 0)) (vs.getD off undef):=by
     have:=(hr off).1
     rw[List.getD_eq_getElem?_getD,List.getElem?_map,hc] at this
     exact this
    have dP:∀i,((cs.map (aG ((k+1)*1000+off))).set off (.slice sz [] ((k+1)*1000+off))).getD i .any=if i=off then .slice sz [] ((k+1)*1000+off) else (cs.map (aG ((k+1)*1000+off))).getD i .any:=fun i=>by
     simp only[List.getD_eq_getElem?_getD,List.getElem?_set]
     by_cases e:off=i
     ·subst e;simp[hlt]
     ·simp[e,Ne.symm e]
    have eN:∀c o,live ((s.aK ((k+1)*1000+off)).new b ((cs.map (aG ((k+1)*1000+off))).set off (.slice sz [] ((k+1)*1000+off)))).loc (aq sp ((k+1)*1000+off) (0,0,0)) c o→live (s.aK ((k+1)*1000+off)).loc (aq sp ((k+1)*1000+off) (0,0,0)) c o:=by
     rintro c o (hl|hl)
     ·refine .inl fun e=> ?_
      by_cases ec:c=b
      ·subst ec;rw[hb'] at e;cases e
      ·exact hl (by simp only[St.new,bM _ _ ec];exact e)
     ·exact .inr hl
    have YB:RS C.N ((s.aK ((k+1)*1000+off)).new b ((cs.map (aG ((k+1)*1000+off))).set off (.slice sz [] ((k+1)*1000+off)))) ⟨a.tmps,[]⟩ w A (aq sp ((k+1)*1000+off) (0,0,0)):=by
     refine⟨dO.size,rfl,dO.env,fun c cs' cj=> ?_,fun r hr'=>⟨(dO.bR r hr').1,?_⟩,dO.YJ,fun c o ha=>⟨(dO.av c o ha).1,fun hl=>(dO.av c o ha).2 (eN c o hl)⟩⟩
     ·by_cases ec:c=b
      ·subst ec
       simp only[St.new,gV] at cj
       injection cj with cj
       subst cj
       refine⟨vs,T,hh,by rw[List.length_set];exact hsz,fun i=> ?_⟩
       rw[dP i]
       by_cases ei:i=off
       ·subst ei
        rw[if_pos rfl]
        generalize vs.getD i undef=v0 at hcell
        cases hcell with
        |lit _ _=>exact⟨.cS _ _,trivial⟩
       ·rw[if_neg ei];exact hr i
      ·simp only[St.new,bM _ _ ec] at cj
       exact dO.loc c cs' cj
     ·have g:=(dO.bR r hr').2
      by_cases ec:((aq sp ((k+1)*1000+off) (0,0,0)) r).1=b
      ·rw[ec,hb'] at g;cases g
      ·simp only[St.new,bM _ _ ec];exact g
    have aL:Ev w A (live s.loc sp) w A (live ((s.aK ((k+1)*1000+off)).new b ((cs.map (aG ((k+1)*1000+off))).set off (.slice sz [] ((k+1)*1000+off)))).loc (aq sp ((k+1)*1000+off) (0,0,0))):=.same fun c o hl=>xA _ (eN c o hl)
    obtain⟨g1,g2⟩:=h.own (a':=a) YB aL (fun q hq=>Z9 h.ig q hq) rfl
    exact⟨_,A,_,hK,g1,g2⟩
   ·have hlt:off<cs.length:=by
     by_cases hl:off<cs.length
     ·exact hl
     ·rw[List.getElem?_eq_none (by omega)] at hc;cases hc
    obtain⟨vs,T,hh,hsz,hr⟩:=h.rs.loc b cs hb
    obtain⟨Zs,T2,uX,MH,cH⟩:=h.rs.loc b2 bW YL
    have hcell:RV w A (.aP b2 0 len cap sz) (vs.getD off undef):=by
     have:=(hr off).1
     rw[List.getD_eq_getElem?_getD,hc] at this
     exact this
    let A':aJ:=fun c o=>A c o∨(c=b2∧o<bW.length)
    have hmono:∀{x:AV} {v:Value},RV w A x v→RV w A' x v:=fun hx=>hx.mono (fun c o v ha hv=>⟨hv,.inl ha⟩) (.same fun _ _ ha=>.inl ha)
    have Oo:RV w A' (.slice sz (chunk sz bW len) 0) (vs.getD off undef)∧bN sp (.slice sz (chunk sz bW len) 0) (vs.getD off undef):=by
     generalize vs.getD off undef=v0 at hcell
     cases hcell with
     |aP _ _ _ _ _ hlc=>
      refine⟨?_,.inl rfl⟩
      have:=RV.slice (w:=w) (A:=A') sz (chunk sz bW len) 0 b2 0 cap (fun i=>Zs.getD i undef) (fun x hx=>(oU sz len bW h1 h2 x hx).1) (fun x hx=>(oU sz len bW h1 h2 x hx).2) (by rw[gm];exact hlc) (by rw[gm];exact h3) (fun i hi=> ?_) (fun i=> ?_)
      ·rw[gm] at this;exact this
      ·rw[gm] at hi
       refine⟨?_,.inr ⟨rfl,by omega⟩⟩
       rw[Nat.zero_add]
       simp[World.cell?,uX,Array.getD_eq_getD_getElem?,Array.getElem?_eq_getElem (show i<Zs.size by omega)]
      ·rw[uW sz len bW h1 h2,gF]
       by_cases hi:i<len*sz
       ·have e3:(bW.take (len*sz)).getD i .any=bW.getD i .any:=by simp only[List.getD_eq_getElem?_getD,List.getElem?_take,hi,if_true]
        rw[e3]
        exact(hmono (cH i).1).erase0
       ·have e3:(bW.take (len*sz)).getD i .any=.any:=by simp only[List.getD_eq_getElem?_getD,List.getElem?_take,hi,if_false,Option.getD_none]
        rw[e3]
        exact .any _
    have aab:∀r,(sp r).2.1<(sp r).2.2→(sp r).1≠b2:=fun r hr' e=>by
     have:=(h.rs.bR r hr').2
     rw[e,YL] at this;cases this
    have Oq:∀r,(sp r).2.1<(sp r).2.2→(sp r).1≠b:=fun r hr' e=>by
     have:=(h.rs.bR r hr').2
     rw[e,hb] at this;cases this
    have dP:∀i,(cs.set off (AV.slice sz (chunk sz bW len) 0)).getD i .any=if i=off then .slice sz (chunk sz bW len) 0 else cs.getD i .any:=fun i=>by
     simp only[List.getD_eq_getElem?_getD,List.getElem?_set]
     by_cases e:off=i
     ·subst e;simp[hlt]
     ·simp[e,Ne.symm e]
    have eN:∀c o,live (aq (aq s.loc b (some (cs.set off (AV.slice sz (chunk sz bW len) 0)))) b2 none) sp c o→live s.loc sp c o:=by
     rintro c o (hl|hl)
     ·by_cases e2:c=b2
      ·subst e2;simp[aq] at hl
      ·by_cases e1:c=b
       ·subst e1;exact .inl (by rw[hb];exact fun e=>by cases e)
       ·simp only[aq,if_neg e1,if_neg e2] at hl
        exact .inl hl
     ·exact .inr hl
    have YB:RS C.N ⟨s.env,aq (aq s.loc b (some (cs.set off (AV.slice sz (chunk sz bW len) 0)))) b2 none⟩ ⟨a.tmps,[]⟩ w A' sp:=by
     refine⟨h.rs.size,rfl,fun d=>⟨hmono (h.rs.env d).1,(h.rs.env d).2⟩,fun c cs' hc=> ?_,fun r hr'=>⟨(h.rs.bR r hr').1,?_⟩,h.rs.YJ,fun c o ha=>⟨?_,fun hl=> ?_⟩⟩
     ·simp only at hc
      by_cases e2:c=b2
      ·subst e2;simp[aq] at hc
      ·rw[bM _ _ e2] at hc
       by_cases e1:c=b
       ·subst e1
        rw[gV] at hc
        injection hc with hc
        subst hc
        refine⟨vs,T,hh,by rw[List.length_set];exact hsz,fun i=> ?_⟩
        rw[dP i]
        by_cases ei:i=off
        ·subst ei
         rw[if_pos rfl]
         exact Oo
        ·rw[if_neg ei];exact⟨hmono (hr i).1,(hr i).2⟩
       ·rw[bM _ _ e1] at hc
        obtain⟨vs',T',g1,g2,g3⟩:=h.rs.loc c cs' hc
        exact⟨vs',T',g1,g2,fun i=>⟨hmono (g3 i).1,(g3 i).2⟩⟩
     ·simp only
      rw[bM _ _ (aab r hr'),bM _ _ (Oq r hr')]
      exact(h.rs.bR r hr').2
     ·rcases ha with ha|⟨rfl,_⟩
      ·exact(h.rs.av c o ha).1
      ·exact cn uX
     ·rcases ha with ha|⟨rfl,ho⟩
      ·exact(h.rs.av c o ha).2 (eN c o hl)
      ·rcases hl with hl|⟨r,q1,q2,q3⟩
       ·simp[aq] at hl
       ·exact aab r (by omega) q1
    have aL:Ev w A (live s.loc sp) w A' (live (aq (aq s.loc b (some (cs.set off (AV.slice sz (chunk sz bW len) 0)))) b2 none) sp):=by
     refine⟨rfl,rfl,rfl,Nat.le_refl _,fun c o _ hl=>⟨rfl,fun hh=>hl (eN c o hh)⟩,fun _ _ _=>rfl,fun _ _ ha=>.inl ha,fun c o ha=> ?_⟩
     rcases ha with ha|⟨rfl,_⟩
     ·exact .inl ha
     ·exact .inr (.inl (.inl (by rw[YL];exact fun e=>by cases e)))
    obtain⟨g1,g2⟩:=h.own (a':=a) YB aL (fun q hq=>rfl) rfl
    exact⟨_,A',sp,hK,g1,g2⟩
   ·have hlt:off<cs.length:=by
     by_cases hl:off<cs.length
     ·exact hl
     ·rw[List.getElem?_eq_none (by omega)] at hc;cases hc
    obtain⟨vs,T,hh,hsz,hr⟩:=h.rs.loc b cs hb
    obtain⟨es',clock,dJ,sI,vn,-,-⟩:=h.n_ cY
    have hcell:RV w A (.bL b2) (vs.getD off undef):=by
     have:=(hr off).1
     rw[List.getD_eq_getElem?_getD,hc] at this
     exact this
    have iP:YC s b2 0:=by simp only[YC,cY];intro e;cases e
    have YH:=cn dJ
    let A':aJ:=fun c o=>A c o∨c=b2
    have hmono:∀{x:AV} {v:Value},RV w A x v→RV w A' x v:=fun hx=>hx.mono (fun c o v ha hv=>⟨hv,.inl ha⟩) (.same fun _ _ ha=>.inl ha)
    have hmap:RV w A' (.fmap es) (vs.getD off undef)∧bN sp (.fmap es) (vs.getD off undef):=by
     generalize vs.getD off undef=v0 at hcell
     cases hcell with
     |bL _=>exact⟨.fmap es b2 es' clock dJ (fun o=>.inr rfl) sI (fun i e he=>hmono (vn i e he).1) (fun i e he=>hmono (vn i e he).2),trivial⟩
    have dP:∀i,(cs.set off (AV.fmap es)).getD i .any=if i=off then .fmap es else cs.getD i .any:=fun i=>by
     simp only[List.getD_eq_getElem?_getD,List.getElem?_set]
     by_cases e:off=i
     ·subst e;simp[hlt]
     ·simp[e,Ne.symm e]
    have fk:∀d,d≠oS+b2→aq s.env (oS+b2) .any d=s.env d:=fun d hd=>bM _ _ hd
    have Ot:∀c o,held ⟨aq s.env (oS+b2) .any,aq s.loc b (some (cs.set off (AV.fmap es)))⟩ sp c o→held s sp c o:=by
     rintro c o ((hl|hl)|hl)
     ·by_cases e1:c=b
      ·subst e1;exact .inl (.inl (by rw[hb];exact fun e=>by cases e))
      ·simp only[aq,if_neg e1] at hl
       exact .inl (.inl hl)
     ·exact .inl (.inr hl)
     ·by_cases e1:c=b2
      ·subst e1;exact .inr iP
      ·simp only[YC] at hl
       rw[fk _ (by omega)] at hl
       exact .inr hl
    have YB:RS C.N ⟨aq s.env (oS+b2) .any,aq s.loc b (some (cs.set off (AV.fmap es)))⟩ ⟨a.tmps,[]⟩ w A' sp:=by
     refine⟨h.rs.size,rfl,fun d=> ?_,fun c cs' hc=> ?_,fun r hr'=>⟨(h.rs.bR r hr').1,?_⟩,h.rs.YJ,fun c o ha=>⟨?_,fun hl=> ?_⟩⟩
     ·by_cases hd:d=oS+b2
      ·subst hd
       rw[show(St.mk (aq s.env (oS+b2) .any) (aq s.loc b (some (cs.set off (AV.fmap es))))).env (oS+b2)=.any from gV _ _ _]
       exact⟨.any _,trivial⟩
      ·rw[show(St.mk (aq s.env (oS+b2) .any) (aq s.loc b (some (cs.set off (AV.fmap es))))).env d=s.env d from fk d hd]
       exact⟨hmono (h.rs.env d).1,(h.rs.env d).2⟩
     ·simp only at hc
      by_cases e1:c=b
      ·subst e1
       rw[gV] at hc
       injection hc with hc
       subst hc
       refine⟨vs,T,hh,by rw[List.length_set];exact hsz,fun i=> ?_⟩
       rw[dP i]
       by_cases ei:i=off
       ·subst ei
        rw[if_pos rfl]
        exact hmap
       ·rw[if_neg ei];exact⟨hmono (hr i).1,(hr i).2⟩
      ·rw[bM _ _ e1] at hc
       obtain⟨vs',T',g1,g2,g3⟩:=h.rs.loc c cs' hc
       exact⟨vs',T',g1,g2,fun i=>⟨hmono (g3 i).1,(g3 i).2⟩⟩
     ·have g:=(h.rs.bR r hr').2
      by_cases ec:(sp r).1=b
      ·rw[ec,hb] at g;cases g
      ·simp only
       rw[bM _ _ ec];exact g
     ·rcases ha with ha|rfl
      ·exact(h.rs.av c o ha).1
      ·exact YH
     ·have hl':live s.loc sp c o:=by
       rcases hl with hl|hl
       ·by_cases e1:c=b
        ·subst e1;exact .inl (by rw[hb];exact fun e=>by cases e)
        ·simp only[aq,if_neg e1] at hl
         exact .inl hl
       ·exact .inr hl
      rcases ha with ha|rfl
      ·exact(h.rs.av c o ha).2 hl'
      ·exact h.rs.aaj dJ rfl o hl'
    have aL:Ev w A (held s sp) w A' (held ⟨aq s.env (oS+b2) .any,aq s.loc b (some (cs.set off (AV.fmap es)))⟩ sp):=by
     refine⟨rfl,rfl,rfl,Nat.le_refl _,fun c o _ hl=>⟨rfl,fun hh=>hl (Ot c o hh)⟩,fun _ _ _=>rfl,fun _ _ ha=>.inl ha,fun c o ha=> ?_⟩
     rcases ha with ha|rfl
     ·exact .inl ha
     ·exact .inr (.inl (.inr iP))
    have Ou:∀q,gS≤q→jr ((aq s.env (oS+b2) .any) q)=true:=fun q hq=>by
     by_cases hd:q=oS+b2
     ·subst hd
      rw[gV];rfl
     ·rw[fk q hd]
      exact h.ig q hq
    have eP:∀c,gW w A' c ((aq s.env (oS+b2) .any) (oS+c)):=fun c=>by
     by_cases e1:c=b2
     ·subst e1
      rw[gV]
      exact .any
     ·rw[fk _ (by omega)]
      exact(h.ob c).mono (fun _=>rfl) (fun c o v ha hv=>⟨hv,.inl ha⟩) (.same fun _ _ ha=>.inl ha)
    have yC:∀c o,YC ⟨aq s.env (oS+b2) .any,aq s.loc b (some (cs.set off (AV.fmap es)))⟩ c o→¬A' c o:=fun c o hc ha=>by
     have e1:c≠b2:=by
      rintro rfl
      exact hc (gV _ _ _)
     simp only[YC] at hc
     rw[fk _ (by omega)] at hc
     rcases ha with ha|rfl
     ·exact h.oa c o hc ha
     ·exact e1 rfl
    obtain⟨g1,g2⟩:=h.step (a':=a) YB aL Ou (bM _ _ (Nat.ne_of_lt (D9 b2))) eP yC rfl
    exact⟨_,A',sp,hK,g1,g2⟩
   ·obtain⟨vs,T,hh,hsz,hr⟩:=h.rs.loc b cs hb
    let A':aJ:=fun c o=>A c o∨(c=b∧o<cs.length)
    have hmono:∀{x:AV} {v:Value},RV w A x v→RV w A' x v:=fun hx=>hx.mono (fun c o v ha hv=>⟨hv,.inl ha⟩) (.same fun _ _ ha=>.inl ha)
    have aab:∀r,(sp r).2.1<(sp r).2.2→(sp r).1≠b:=fun r hr' e=>by
     have:=(h.rs.bR r hr').2
     rw[e,hb] at this;cases this
    have eN:∀c o,live (aq s.loc b none) sp c o→live s.loc sp c o:=by
     rintro c o (hl|hl)
     ·simp only[aq] at hl
      split at hl
      ·exact absurd rfl hl
      ·exact .inl hl
     ·exact .inr hl
    have YB:RS C.N ⟨aq s.env k (.ref (cs.map AV.erase0)),aq s.loc b none⟩ ⟨a.tmps,[]⟩ w A' sp:=by
     refine⟨h.rs.size,rfl,fun d=> ?_,fun c cs' hc=> ?_,fun r hr'=>⟨(h.rs.bR r hr').1,?_⟩,h.rs.YJ,fun c o ha=>⟨?_,fun hl=> ?_⟩⟩
     ·show RV w A' (aq s.env k (AV.ref (cs.map AV.erase0)) d) (a.tmps.getD d undef)∧bN sp (aq s.env k (AV.ref (cs.map AV.erase0)) d) (a.tmps.getD d undef)
      by_cases hd:d=k
      ·subst hd
       rw[show aq s.env d (AV.ref (cs.map AV.erase0)) d=AV.ref (cs.map AV.erase0) from gV _ _ _]
       have g:=(h.rs.env d).1
       rw[e1] at g
       generalize a.tmps.getD d undef=v0 at g
       cases g with
       |Yq _ _=>
        refine⟨.ref _ b 0 (fun i=>vs.getD i undef) (fun i hi=> ?_) (fun i=> ?_),trivial⟩
        ·rw[List.length_map] at hi
         refine⟨?_,.inr ⟨rfl,by omega⟩⟩
         rw[Nat.zero_add]
         simp[World.cell?,hh,Array.getD_eq_getD_getElem?,Array.getElem?_eq_getElem (show i<vs.size by omega)]
        ·rw[gF];exact(hmono (hr i).1).erase0
      ·rw[show aq s.env k (AV.ref (cs.map AV.erase0)) d=s.env d from bM _ _ hd]
       exact⟨hmono (h.rs.env d).1,(h.rs.env d).2⟩
     ·simp only[aq] at hc
      split at hc
      ·cases hc
      ·obtain⟨vs',T',g1,g2,g3⟩:=h.rs.loc c cs' hc
       exact⟨vs',T',g1,g2,fun i=>⟨hmono (g3 i).1,(g3 i).2⟩⟩
     ·simp only[aq];rw[if_neg (aab r hr')];exact(h.rs.bR r hr').2
     ·rcases ha with ha|⟨rfl,_⟩
      ·exact(h.rs.av c o ha).1
      ·exact cn hh
     ·rcases ha with ha|⟨rfl,ho⟩
      ·exact(h.rs.av c o ha).2 (eN c o hl)
      ·rcases hl with hl|⟨r,q1,q2,q3⟩
       ·simp[aq] at hl
       ·exact aab r (by omega) q1
    have aL:Ev w A (live s.loc sp) w A' (live (aq s.loc b none) sp):=by
     refine⟨rfl,rfl,rfl,Nat.le_refl _,fun c o _ hl=>⟨rfl,fun hh=>hl (eN c o hh)⟩,fun _ _ _=>rfl,fun _ _ ha=>.inl ha,fun c o ha=> ?_⟩
     rcases ha with ha|⟨rfl,_⟩
     ·exact .inl ha
     ·exact .inr (.inl (.inl (by rw[hb];exact fun e=>by cases e)))
    obtain⟨g1,g2⟩:=h.own (a':=a) YB aL (fun q hq=>bM _ _ (by omega)) rfl
    exact⟨_,A',sp,hK,g1,g2⟩
  ·exact hv.elim
 ·rename_i e1
  obtain⟨sz,hK⟩:=hv
  have YB:RS C.N ⟨aq s.env k (.slice sz [] 0),s.loc⟩ ⟨a.tmps,[]⟩ w A sp:=by
   refine⟨h.rs.size,rfl,fun d=> ?_,h.rs.loc,h.rs.bR,h.rs.YJ,h.rs.av⟩
   show RV w A (aq s.env k (AV.slice sz [] 0) d) (a.tmps.getD d undef)∧bN sp (aq s.env k (AV.slice sz [] 0) d) (a.tmps.getD d undef)
   by_cases hd:d=k
   ·subst hd
    rw[show aq s.env d (AV.slice sz [] 0) d=AV.slice sz [] 0 from gV _ _ _]
    have g:=(h.rs.env d).1
    rw[e1] at g
    generalize a.tmps.getD d undef=v0 at g
    cases g
    exact⟨.cS _ _,trivial⟩
   ·rw[show aq s.env k (AV.slice sz [] 0) d=s.env d from bM _ _ hd]
    exact h.rs.env d
  obtain⟨g1,g2⟩:=h.own (a':=a) YB (.same fun _ _ h=>h) (fun q hq=>bM _ _ (by omega)) rfl
  exact⟨_,A,sp,hK,g1,g2⟩
 ·exact hv.elim
theorem y7:∀(ks:List Nat) {s:St} {A:aJ} {sp:Sp},(∀k∈ks,k<gS)→GS C Pt s a w A Lx sp→vcs P (ks.map .Yu) K s→∃s' A' sp',K s'∧GS C Pt s' a w A' Lx sp'∧Ev w A (join (held s sp) Lx) w A' (join (held s' sp') Lx)
 |[],s,A,sp,_,h,hv=>⟨s,A,sp,hv,h,.refl _ _ _⟩
 |k::ks,s,A,sp,hk,h,hv=>by
  obtain⟨s1,A1,YM,g1,g2,g3⟩:=On (hk k (List.mem_cons_self ..)) h hv
  obtain⟨s2,A2,fl,g4,g5,g6⟩:=y7 ks (fun q hq=>hk q (List.mem_cons_of_mem _ hq)) g2 g1
  exact⟨s2,A2,fl,g4,g5,g3.trans g6⟩
theorem vo(ys:List Yr)(K:St→Prop):∀(xs:List Yr),vcs P (xs++ys) K=vcs P xs (vcs P ys K)
 |[]=>rfl
 |x::xs=>by
  funext s
  show Yp P x s (vcs P (xs++ys) K)=Yp P x s (vcs P xs (vcs P ys K))
  rw[vo ys K xs]
end
def fzs(aE:cv)(N id:Nat):List Nat:=(look aE.fz id []).filter (· <N)
theorem abm{aE:cv}{N id:Nat}(h:N≤gS):∀k∈fzs aE N id,k<gS:=fun k hk=>by
 have:=(List.mem_filter.1 hk).2
 exact Nat.lt_of_lt_of_le (by simpa using this) h
end Go.az
namespace Go.az
open Go.RowKit
def lV(P:Program)(f:FuncId)(first cap:List AV)(xs:List (List AV)):Prop:=
 Zn P f=true∧∀(X:AV→World→aJ→aJ→Prop) (l:Nat) (w:World) (A Lx:aJ) (vs:Array Value),xy X→uA P X→uB P X→
  (∀b o,Lx b o→b<w.heap.size)→(∀b o,A b o→b<w.heap.size∧¬Lx b o)→
  vs.size=(first++[AV.func (.yield l) [] []]++cap).length→(∀i,RV w A ((first++[AV.func (.yield l) [] []]++cap).getD i .any) (vs.getD i undef))→
  X (.ghost l xs false) w A Lx→
  Calls P f vs w fun e w'=>∃v A' Yt rest b,e=.returned v∧Ev w A Lx w' A' Yt∧(∀b o,Yt b o→b<w'.heap.size)∧(∀b o,A' b o→b<w'.heap.size∧¬Yt b o)∧X (.ghost l rest b) w' A' Yt∧(b=true∨rest=[])
section
variable {P:Program} {C:Ctx P} {Pt:List (Nat×Obj)} {s:St} {a:Act} {w:World} {A Lx:aJ} {sp:Sp}
def full(s:St)(sp:Sp)(Lx:aJ)(Pt:List (Nat×Obj)):aJ:=join (join (held s sp) Lx) fun b _=>∃p∈Pt,b=p.1
theorem GS.kT(h:GS C Pt s a w A Lx sp){b o:Nat}(hl:full s sp Lx Pt b o):b<w.heap.size:=by
 rcases hl with (hl|hl)|⟨p,hp,rfl⟩
 ·exact h.Z0 hl
 ·exact h.lt b o hl
 ·exact cn (h.pt p hp).1
theorem GS.fJ(h:GS C Pt s a w A Lx sp){b o:Nat}(ha:A b o):b<w.heap.size∧¬full s sp Lx Pt b o:=by
 refine⟨(h.rs.av b o ha).1,?_⟩
 rintro((hl|hl)|⟨p,hp,rfl⟩)
 ·exact h.Z1 ha hl
 ·exact h.av b o ha hl
 ·exact(h.pt p hp).2.2.2.1 o ha
theorem GS.putObj(h:GS C Pt s a w A Lx sp){l:Nat}{ob oZ:Obj}(hl:(l,ob)∈Pt){dA:List (Nat×Obj)}(hP:∀p∈dA,(p=(l,oZ)∧oZ.isCells=false)∨(p∈Pt∧p.1≠l))(hd:∀d∈a.defers,∃D,C.B≤D∧d=⟨.collected D,#[]⟩∧(D,.deferred (some []))∈dA)(hr:∀l,C.ro=some l→∃r,(l,.loop r)∈dA):GS C dA s a (w.putObj l oZ) A Lx sp:=by
 obtain⟨h1,h2,h3,h4,h5⟩:=h.pt _ hl
 have hk:∀L:aJ,(∀b o,L b o→held s sp b o∨Lx b o)→kG w (w.putObj l oZ) A A L:=fun L hL=>kG.putObj h1 h2 (fun o ho=>by rcases hL l o ho with e|e;exact h.aak hl o e;exact h3 o e) (fun b o ha=>⟨(h.rs.av b o ha).1,fun hb=>by rcases hL b o hb with e|e;exact h.Z1 ha e;exact h.av b o ha e⟩) h4
 refine⟨h.rs.keep (hk (live s.loc sp) fun _ _ h=>.inl (.inl h)) fun _ _ h=>h,h.ig,fun b o hb=>by simpa using h.lt b o hb,h.ap,h.av,C.st _ _ _ _ _ _ h.x (hk Lx fun _ _ h=>.inr h),fun p hp=> ?_,fun b=> ?_,h.oa,by simpa using h.bs,h.dn,hd,hr⟩
 ·rcases hP p hp with ⟨rfl,hc⟩|⟨hp,hne⟩
  ·exact⟨World.putObj_heap_same (cn h1),hc,h3,h4,h5⟩
  ·obtain⟨g1,g2⟩:=h.pt p hp
   exact⟨(World.putObj_heap_other hne).trans g1,g2⟩
 ·have hk2:=hk (held s sp) fun _ _ h=>.inl h
  exact(h.ob b).mono (fun hx=>hk2.oG b 0 (.inr hx)) (fun b o v ha hv=>⟨hk2.cell b o v ha hv,ha⟩) hk2.obj
theorem GS.lay(h:GS C Pt s a w A Lx sp){ob:Obj}(hc:ob.isCells=false):GS C ((w.heap.size,ob)::Pt) s a (w.alloc ob) A Lx sp:=by
 have hk:∀L:aJ,(∀b o,L b o→held s sp b o∨Lx b o)→kG w (w.alloc ob) A A L:=fun L hL=>kG.alloc ob (fun b o ha=>⟨(h.rs.av b o ha).1,fun hb=>by rcases hL b o hb with e|e;exact h.Z1 ha e;exact h.av b o ha e⟩) (fun b o hb=>by rcases hL b o hb with e|e;exact h.Z0 e;exact h.lt b o e)
 refine⟨h.rs.keep (hk (live s.loc sp) fun _ _ h=>.inl (.inl h)) fun _ _ h=>h,h.ig,fun b o hb=>by rw[Y8];have:=h.lt b o hb;omega,h.ap,h.av,C.st _ _ _ _ _ _ h.x (hk Lx fun _ _ h=>.inr h),fun p hp=> ?_,fun b=> ?_,h.oa,by rw[Y8];have:=h.bs;omega,h.dn,fun d hd=> ?_,fun l hl=> ?_⟩
 ·rcases List.mem_cons.1 hp with rfl|hp
  ·refine⟨qq _ _,hc,fun o hl=>absurd (h.lt _ _ hl) (Nat.lt_irrefl _),fun o ha=>absurd (h.rs.av _ _ ha).1 (Nat.lt_irrefl _),Classical.byContradiction fun hx=> ?_⟩
   exact absurd (h.Z0 (o:=0) (.inr hx)) (Nat.lt_irrefl _)
  ·obtain⟨g1,g2⟩:=h.pt p hp
   exact⟨(heap_alloc _ _ _ (cn g1)).trans g1,g2⟩
 ·have hk2:=hk (held s sp) fun _ _ h=>.inl h
  exact(h.ob b).mono (fun hx=>hk2.oG b 0 (.inr hx)) (fun b o v ha hv=>⟨hk2.cell b o v ha hv,ha⟩) hk2.obj
 ·obtain⟨D,d1,d2,d3⟩:=h.df d hd
  exact⟨D,d1,d2,List.mem_cons_of_mem _ d3⟩
 ·obtain⟨r,hr⟩:=h.ro l hl
  exact⟨r,List.mem_cons_of_mem _ hr⟩
theorem GS.aaE(_:GS C Pt s a w A Lx sp)(ob:Obj)(L:aJ)(_:∀b o,L b o→b<w.heap.size)(T:aJ)(hT:∀b o,T b o→L b o∨b=w.heap.size):Ev w A L (w.alloc ob) A T:=⟨rfl,rfl,rfl,by rw[Y8];omega,fun b o hb hl=>⟨mH _ _ _ _ hb,fun ht=>by rcases hT b o ht with e|e;exact hl e;omega⟩,fun b hb _=>heap_alloc _ _ _ hb,fun _ _ ha=>ha,fun _ _ ha=>.inl ha⟩
def params(s:St):List Nat→List AV→St
 |p::ps,x::xs=>params (s.set p x.erase) ps xs
 |_,_=>s
theorem Ew:∀(ps:List Nat) (xs:List AV) (s:St),(params s ps xs).loc=s.loc
 |[],_,_=>rfl
 |_::_,[],_=>rfl
 |p::ps,x::xs,s=>Ew ps xs (s.set p x.erase)
theorem vp(k:Nat)(hk:gS≤k):∀(ps:List Nat) (xs:List AV) (s:St),(∀p∈ps,p<gS)→(params s ps xs).env k=s.env k
 |[],_,_,_=>rfl
 |_::_,[],_,_=>rfl
 |p::ps,x::xs,s,h=>(vp k hk ps xs (s.set p x.erase) (fun q hq=>h q (List.mem_cons_of_mem _ hq))).trans (bM _ _ (by have:=h p (List.mem_cons_self ..);omega))
theorem RS.params{N:Nat}:∀(ps:List Nat) (xs:List AV) (vs:List Value) (s:St) (t:Array Value),RS N s ⟨t,[]⟩ w A sp→(∀p∈ps,p<N)→ps.length=xs.length→vs.length=xs.length→(∀i,RV w A (xs.getD i .any) (vs.getD i undef))→RS N (az.params s ps xs) ⟨(ps.zip vs).foldl (fun t (p,v)=>t.setIfInBounds p v) t,[]⟩ w A sp
 |[],_,_,_,_,h,_,_,_,_=>h
 |p::ps,x::xs,v::vs,s,t,h,hp,h1,h2,hr=>by
  refine RS.params ps xs vs (s.set p x.erase) (t.setIfInBounds p v) ?_ (fun q hq=>hp q (List.mem_cons_of_mem _ hq)) (by simpa using h1) (by simpa using h2) (fun i=>by simpa using hr (i+1))
  exact h.put (hp p (List.mem_cons_self ..)) (by simpa using(hr 0).erase) .erase
 |_::_,[],_,_,_,_,_,h1,_,_=>by simp at h1
 |_::_,_::_,[],_,_,_,_,_,h2,_=>by simp at h2
theorem vq(ps:List Nat)(xs:List AV)(s:St)(sp:Sp)(h:∀p∈ps,p<gS):held (params s ps xs) sp=held s sp:=by
 unfold held
 have:YC (params s ps xs)=YC s:=by funext b o;simp only[YC];rw[vp _ (by simp only[gS,oS];omega) ps xs s h]
 rw[this,Ew]
def back(s s2:St):St:=⟨fun k=>if gS≤k then s2.env k else (s.env k).erase,s2.loc⟩
theorem iT(s s2:St){k:Nat}(hk:gS≤k):(back s s2).env k=s2.env k:=by simp[back,hk]
theorem j9(s s2:St)(b:Nat):(back s s2).env (oS+b)=s2.env (oS+b):=iT s s2 (by simp only[gS,oS];omega)
theorem j_(s s2:St)(sp:Sp):held (back s s2) sp=held s2 sp:=by
 unfold held
 have:YC (back s s2)=YC s2:=by funext b o;simp only[YC,j9]
 rw[this];rfl
theorem sY(s s2:St):YC (back s s2)=YC s2:=by funext b o;simp only[YC,j9]
theorem vr(s s2 s3:St):back s (back s2 s3)=back s s3:=by
 simp only[back,St.mk.injEq,and_true]
 funext k
 split<;>simp_all
theorem RS.back{N:Nat}{s0 s1 s2:St}{t1 t2:Array Value}{w1 w2:World}{A1 A2:aJ}{YM fl:Sp}(h1:RS N s1 ⟨t1,[]⟩ w1 A1 YM)(hs:s1=az.back s0 s1)(h2:RS N s2 ⟨t2,[]⟩ w2 A2 fl)(hk:∀b o v,A1 b o→w1.cell? ⟨b,o,none⟩=some v→w2.cell? ⟨b,o,none⟩=some v∧A2 b o)(cY:gU w1 w2 A1 A2)(hg:∀k,gS≤k→jr (s2.env k)=true):RS N (az.back s0 s2) ⟨t1,[]⟩ w2 A2 fl:=by
 refine⟨h1.size,rfl,fun d=> ?_,h2.loc,h2.bR,h2.YJ,h2.av⟩
 have h3:=(h1.env d).1
 by_cases hd:gS≤d
 ·rw[iT _ _ hd]
  have hg:=hg d hd
  generalize s2.env d=x at hg
  cases x<;>first|(cases hg;done)|exact⟨.any _,trivial⟩|exact⟨.ghost _ _ _ _,trivial⟩
 ·rw[hs] at h3
  simp only[az.back,hd,if_false] at h3⊢
  exact⟨h3.mono hk cY,.erase⟩
theorem RS.forget{N:Nat}{t:Array Value}(h:RS N s ⟨t,[]⟩ w A sp):RS N (az.back s s) ⟨t,[]⟩ w A sp:=by
 refine⟨h.size,rfl,fun d=> ?_,h.loc,h.bR,h.YJ,h.av⟩
 by_cases hd:gS≤d
 ·rw[iT _ _ hd];exact h.env d
 ·simp only[az.back,hd,if_false];exact⟨(h.env d).1.erase,.erase⟩
end
end Go.az
namespace Go.az
open Go.RowKit
def St.del(s:St)(b:Nat):St:=⟨s.env,aq s.loc b none⟩
theorem Ov{p q:Nat}(h:mark p=mark q):p=q:=by
 simp only[mark,AV.lit.injEq,Value.agg.injEq,Array.mk.injEq,List.cons.injEq,Value.int.injEq] at h
 have:=h.1.2
 omega
section
variable {P:Program} {C:Ctx P} {Pt:List (Nat×Obj)} {s:St} {a:Act} {w:World} {A Lx:aJ} {sp:Sp} {b:Nat} {cs:List AV}
theorem Ex(s:St)(sp:Sp)(b:Nat)(cs:List AV):held (s.new b cs) sp=join (held s sp) (ZI b):=by
 funext c o
 apply propext
 constructor
 ·rintro((hl|hl)|hl)
  ·by_cases e:c=b
   ·exact .inr e
   ·exact .inl (.inl (.inl (by simpa only[St.new,bM _ _ e] using hl)))
  ·exact .inl (.inl (.inr hl))
  ·exact .inl (.inr hl)
 ·rintro(((hl|hl)|hl)|hl)
  ·refine .inl (.inl ?_)
   by_cases e:c=b
   ·subst e;simp[St.new,aq]
   ·simpa only[St.new,bM _ _ e] using hl
  ·exact .inl (.inr hl)
  ·exact .inr hl
  ·have hl':c=b:=hl
   subst hl'
   exact .inl (.inl (by simp[St.new,aq]))
theorem Ey(s:St)(sp:Sp)(b:Nat)(cs:List AV)(Lx:aJ)(Pt:List (Nat×Obj)):full (s.new b cs) sp Lx Pt=join (full s sp Lx Pt) (ZI b):=by
 unfold full
 rw[Ex]
 funext c o
 apply propext
 constructor
 ·rintro(((h|h)|h)|h)
  ·exact .inl (.inl (.inl h))
  ·exact .inr h
  ·exact .inl (.inl (.inr h))
  ·exact .inl (.inr h)
 ·rintro(((h|h)|h)|h)
  ·exact .inl (.inl (.inl h))
  ·exact .inl (.inr h)
  ·exact .inr h
  ·exact .inl (.inl (.inr h))
theorem Ow(sp:Sp)(Lx:aJ)(Pt:List (Nat×Obj))(hb:s.loc b=some cs):full s sp Lx Pt=join (full (s.del b) sp Lx Pt) (ZI b):=by
 have h1:=Ey (s.del b) sp b cs Lx Pt
 have e:(s.del b).new b cs=s:=by
  cases s with
  |mk env loc=>
   simp only[St.del,St.new,St.mk.injEq,true_and]
   funext c
   simp only[aq]
   split
   ·rename_i e;subst e;exact hb.symm
   ·rfl
 rw[e] at h1
 exact h1
theorem GS.Ox(h:GS C Pt s a w A Lx sp)(hcs:cs.map AV.erase0=cs)(sS:qj w A b cs)(hA:∀o,¬A b o)(hf:∀o,¬full s sp Lx Pt b o):GS C Pt (s.new b cs) a w A Lx sp:=by
 have YB:RS C.N (s.new b cs) ⟨a.tmps,[]⟩ w A sp:=by
  refine⟨h.rs.size,h.rs.defers,h.rs.env,fun c cs' hc=> ?_,fun r hr=>⟨(h.rs.bR r hr).1,?_⟩,h.rs.YJ,fun c o ha=>⟨(h.rs.av c o ha).1,?_⟩⟩
  ·by_cases e:c=b
   ·subst e
    simp only[St.new,gV] at hc
    injection hc with hc;subst hc
    obtain⟨vs,T,g1,g2,g3⟩:=sS
    exact⟨vs,T,g1,g2,fun i=>⟨g3 i,.D7 hcs i⟩⟩
   ·simp only[St.new,bM _ _ e] at hc
    exact h.rs.loc c cs' hc
  ·have hne:(sp r).1≠b:=fun e=>hf (sp r).2.1 (.inl (.inl (.inl (.inr ⟨r,e,Nat.le_refl _,hr⟩))))
   simp only[St.new,bM _ _ hne]
   exact(h.rs.bR r hr).2
  ·rintro(hl|hl)
   ·by_cases e:c=b
    ·subst e;exact hA o ha
    ·simp only[St.new,bM _ _ e] at hl
     exact(h.rs.av c o ha).2 (.inl hl)
   ·exact(h.rs.av c o ha).2 (.inr hl)
 refine⟨YB,h.ig,h.lt,fun c o o' hl hx=> ?_,h.av,h.x,h.pt,h.ob,h.oa,h.bs,h.dn,h.df,h.ro⟩
 rw[Ex] at hl
 rcases hl with hl|hl
 ·exact h.ap c o o' hl hx
 ·have hl':c=b:=hl
  subst hl'
  exact hf o' (.inl (.inr hx))
theorem GS.Oy(h:GS C Pt s a w A Lx sp)(b:Nat):GS C Pt (s.del b) a w A Lx sp:=by
 have eN:∀c o,live (s.del b).loc sp c o→live s.loc sp c o:=by
  rintro c o (hl|hl)
  ·refine .inl fun e=>hl ?_
   simp only[St.del,aq]
   split
   ·rfl
   ·exact e
  ·exact .inr hl
 have YB:RS C.N (s.del b) ⟨a.tmps,[]⟩ w A sp:=by
  refine⟨h.rs.size,h.rs.defers,h.rs.env,fun c cs' hc=> ?_,fun r hr=>⟨(h.rs.bR r hr).1,?_⟩,h.rs.YJ,fun c o ha=>⟨(h.rs.av c o ha).1,fun hl=>(h.rs.av c o ha).2 (eN c o hl)⟩⟩
  ·simp only[St.del,aq] at hc
   split at hc
   ·cases hc
   ·exact h.rs.loc c cs' hc
  ·simp only[St.del,aq]
   split
   ·rfl
   ·exact(h.rs.bR r hr).2
 exact⟨YB,h.ig,h.lt,fun c o o' hl hx=>h.ap c o o' (hl.elim (fun hl=>.inl (eN c o hl)) .inr) hx,h.av,h.x,h.pt,h.ob,h.oa,h.bs,h.dn,h.df,h.ro⟩
theorem GS.Oz(h:GS C Pt s a w A Lx sp)(hb:s.loc b=some cs):qj w A b cs∧(∀o,¬A b o)∧∀o,¬full (s.del b) sp Lx Pt b o:=by
 have eN:∀o,live s.loc sp b o:=fun o=>.inl (by rw[hb];exact fun e=>by cases e)
 obtain⟨vs,T,g1,g2,g3⟩:=h.rs.loc b cs hb
 refine⟨⟨vs,T,g1,g2,fun i=>(g3 i).1⟩,fun o ha=>(h.rs.av b o ha).2 (eN o),?_⟩
 rintro o (((hl|hl)|hl)|⟨p,hp,e⟩)
 ·rcases hl with hl|⟨r,h1,h2,h3⟩
  ·exact hl (by simp[St.del,aq])
  ·have:=(h.rs.bR r (by omega)).2
   rw[h1,hb] at this;cases this
 ·obtain⟨ob,q1,q2⟩:=h.sQ (b:=b) (o:=o) hl
  exact h.rs.aaj q1 q2 0 (eN 0)
 ·exact h.ap b o o (.inl (eN o)) hl
 ·exact h.aak hp 0 (e▸.inl (eN 0))
end
end Go.az
