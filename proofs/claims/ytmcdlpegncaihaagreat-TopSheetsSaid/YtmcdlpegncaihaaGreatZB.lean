/- Regions in the text's order. Operations whose order does not matter: those that hand back one value. Operations whose order does not matter: against those that make or write. A region that draws its order. A region that draws its order: the game over all orders, and its rule. A region that draws its order: its rule. What an operation leaves alone: the ghost. Operations inside a round, and beside deferred marks. Two parties over one world: what an outer party holds lasts while the inner one works. Operations on objects that are no cells: iterators over strings, maps. Maps whose keys are integers, or structs of integers. Regions inside the fence, with yields. A mutable slice that is written no more. A loop over an iterator: its record, its rounds; an iterator's contract. A block that is lent to a party for a round. -/
import Derived.Test.YtmcdlpegncaihaaGreatZA
import Derived.Orders
import Derived.RangeFuncNested
import Derived.OrdersIn
import Derived.TacticsIn
import Derived.Laws.RangeAny
import Derived.ChangeKeysEq
import Derived.Laws.IdiomRangeMap
namespace Go.Z4
open Go.RowKit
section
variable {P:Program} {N:Nat} {s:St} {a:Act} {w:World} {A:aK} {sp:Sp} {K:St→Prop} {next:Act→World→Prop} {Q:Exit→Act→World→Prop} {o:Oper} {d:Nat}
theorem Du{aD:cn}{m:au}(hm:qc P aD N o=some m)(h:RS N s a w A sp)(hv:Z2 P m s K)(hn:Next s w A sp N K next):o.wp P a w next Q:=by
 unfold qc at hm
 split at hm
 ·rename_i d hd
  split at hm
  ·exact Nl rfl hd ‹_› hm h hv hn
  ·cases hm
 ·rename_i hd
  split at hm
  ·rename_i t x hop
   split at hm
   ·split at hm
    ·rename_i hc
     injection hm with hm;subst hm
     exact Mi hop hd rfl hc.1 hc.2 h hv hn
    ·cases hm
   ·cases hm
  ·rename_i t x y hne hop
   split at hm
   ·split at hm
    ·rename_i k n y' hz hy hn0
     split at hm
     ·injection hm with hm;subst hm
      exact Mj hop hd hy hz hn0 h hv hn
     ·injection hm with hm;subst hm
      exact C5 hop hd rfl hy hz hn0 h hv hn
    ·cases hm
   ·cases hm
  ·cases hm
theorem x8{w:World}{A:aK}:RV w A (.tuple []) undef:=.tuple [] #[] rfl (fun i=>by simp;exact .any _)
theorem ack(a:Act)(v:Value):a.put none v=a:=rfl
theorem nG{aD:cn}{ops:Array Oper}{m:au}{rest:Act→World→Prop}(hm:nA P aD N ops o=some m)(h:RS N s a w A sp)(hv:Z2 P m s K)(hn:Next s w A sp N K rest):(if Region.wanted o (yielded ops a.tmps)=true then o.wp P a w rest Q∨(o.asks P a w∧LetsOut Q) else rest (a.put o.dst undef) w):=by
 unfold nA at hm
 split at hm
 ·rename_i hg
  have hw:Region.wanted o (yielded ops a.tmps)=true:=by simp[Region.wanted,hg]
  rw[if_pos hw]
  exact .inl (Du hm h hv hn)
 ·rename_i j want hg
  split at hm
  ·rename_i g m' hj hm'
   split at hm
   ·rename_i hgN
    injection hm with hm;subst hm
    simp only[Z2] at hv
    split at hv
    ·rename_i b hb
     have he:=(h.env g).1
     rw[hb] at he
     have ki:=he.k9
     have fS:yielded ops a.tmps j=some b:=by
      unfold yielded
      rw[hj]
      have:a.tmps[g]? =some (.bool b):=by
       have hlt:g<a.tmps.size:=by rw[h.size];exact hgN
       rw[Array.getD_eq_getD_getElem?,Array.getElem?_eq_getElem hlt] at ki
       rw[Array.getElem?_eq_getElem hlt]
       simpa using ki
      simp[this]
     have hw:Region.wanted o (yielded ops a.tmps)=(b==want):=by simp[Region.wanted,hg,fS]
     by_cases oK:b=want
     ·rw[hw,if_pos (by simpa using oK)]
      exact .inl (Du hm' h (hv.1 oK) hn)
     ·rw[hw,if_neg (by simpa using oK)]
      have hk:=hv.2 (by cases b<;>cases want<;>simp_all)
      cases hd:o.dst with
      |none=>
       rw[hd] at hk
       rw[ack]
       exact hn _ _ _ _ _ hk h (.refl _ _ _)
      |some d=>
       rw[hd] at hk
       have oL:d<N:=by
        unfold qc at hm'
        rw[hd] at hm'
        simp only[] at hm'
        split at hm'
        ·assumption
        ·cases hm'
       exact hn _ _ _ _ _ hk (h.put oL x8 trivial) (.refl _ _ _)
    ·rename_i hb
     have he:=(h.env g).1
     rw[hb] at he
     have ki:a.tmps.getD g undef=.tuple #[]:=by
      generalize a.tmps.getD g undef=v at he
      cases he with
      |tuple _ vs hs hr=>
       have aR:vs= #[]:=Array.eq_empty_of_size_eq_zero (by simpa using hs)
       rw[aR]
     have fS:yielded ops a.tmps j=none:=by
      unfold yielded
      rw[hj]
      have:a.tmps[g]? =some (.tuple #[]):=by
       have hlt:g<a.tmps.size:=by rw[h.size];exact hgN
       rw[Array.getD_eq_getD_getElem?,Array.getElem?_eq_getElem hlt] at ki
       rw[Array.getElem?_eq_getElem hlt]
       simpa using ki
      simp[this]
     have hw:Region.wanted o (yielded ops a.tmps)=false:=by simp[Region.wanted,hg,fS]
     rw[if_neg (by rw[hw];simp)]
     cases hd:o.dst with
     |none=>
      rw[hd] at hv
      rw[ack]
      exact hn _ _ _ _ _ hv h (.refl _ _ _)
     |some d=>
      rw[hd] at hv
      have oL:d<N:=by
       unfold qc at hm'
       rw[hd] at hm'
       simp only[] at hm'
       split at hm'
       ·assumption
       ·cases hm'
      exact hn _ _ _ _ _ hv (h.put oL x8 trivial) (.refl _ _ _)
    ·exact hv.elim
   ·cases hm
  ·cases hm
end
end Go.Z4
namespace Go.Z4
abbrev Loc:=Nat→Option (List AV)
def jO(e:ai→AV)(cs:List AV):List (Nat×Nat×ai)→(List AV→Prop)→Prop
 |[],K=>K cs
 |(off,n,x)::ps,K=>(e x).cells.length=n∧off+n≤cs.length∧jO e (splice cs off ((e x).cells.map AV.erase0)) ps K
theorem Dv(e:Nat→AV):∀(ps:List (Nat×Nat×ai)) (cs:List AV) (K:List AV→Prop),aa9 e cs ps K=jO (fun x=>x.ev e) cs ps K
 |[],_,_=>rfl
 |(off,n,x)::ps,cs,K=>by simp only[aa9,jO,Dv e ps]
theorem uX(e:ai→AV):∀(ps:List (Nat×Nat×ai)) (cs:List AV) (K K':List AV→Prop),(∀v,K v→K' v)→jO e cs ps K→jO e cs ps K'
 |[],_,_,_,h,hv=>h _ hv
 |_::ps,_,K,K',h,hv=>⟨hv.1,hv.2.1,uX e ps _ K K' h hv.2.2⟩
theorem Dw(e:ai→AV):∀(ps:List (Nat×Nat×ai)) (cs:List AV) (K:List AV→Prop),jO e cs ps K→∃v,jO e cs ps (· =v)∧K v
 |[],cs,K,hv=>⟨cs,rfl,hv⟩
 |(off,n,x)::ps,cs,K,hv=>by
  obtain⟨v,h1,h2⟩:=Dw e ps _ K hv.2.2
  exact⟨v,⟨hv.1,hv.2.1,h1⟩,h2⟩
theorem x9(e e':ai→AV):∀(ps:List (Nat×Nat×ai)) (cs:List AV) (K:List AV→Prop),(∀x∈ps.map (·.2.2),(e x).cells.length=(e' x).cells.length∧(e x).cells.map AV.erase0=(e' x).cells.map AV.erase0)→jO e cs ps K=jO e' cs ps K
 |[],_,_,_=>rfl
 |(off,n,x)::ps,cs,K,h=>by
  obtain⟨h1,h2⟩:=h x (by simp)
  simp only[jO,h1,h2,x9 e e' ps _ K (fun y hy=>h y (by simp at hy⊢;exact .inr hy))]
def pv(P:Program)(e:ai→AV)(l:Loc):au→(AV→Prop)→Prop
 |.aa _ x,K=>K (e x)
 |.dK _ x,K=>K (e x).erase
 |.abf _ x,K=>match e x with
  |.lit (.string t)=>K (.lit (.string t))
  |_=>False
 |.aV _ x n,K=>(e x).cells.length=n∧K (.ref ((e x).cells.map AV.erase0))
 |.load _ x n,K=>cN l (e x) n K
 |.addr _ x off,K=>match e x with
  |.ref cs=>K (.ref (cs.drop off))
  |.aj b o=>K (.aj b (o+off))
  |_=>False
 |.aO _ x i sz,K=>match e x,e i with
  |.slice sz' xs _,.lit (.int _ n)=>sz'=sz∧0≤n∧n<xs.length∧K (.ref (xs.getD n.toNat .any).cells)
  |.aq b off len _ sz',.lit (.int _ n)=>sz'=sz∧0≤n∧n<len∧K (.aj b (off+n.toNat*sz))
  |_,_=>False
 |.cW _ x i len sz,K=>match e x,e i with
  |.ref cs,.lit (.int _ n)=>0≤n∧n<len∧K (.ref (cs.drop (n.toNat*sz)))
  |.aj b off,.lit (.int _ n)=>0≤n∧n<len∧K (.aj b (off+n.toNat*sz))
  |_,_=>False
 |.aaW _ x n,K=>match e x with
  |.ref cs=>cz cs 0 n fun v=>K v.erase
  |_=>False
 |.fld _ x off n,K=>match e x with
  |.agg cs=>cz cs off n fun v=>K v.erase
  |_=>False
 |.iB _ x i len sz n,K=>match e x,e i with
  |.agg cs,.lit (.int _ j)=>0≤j∧j<len∧cz cs (j.toNat*sz) n fun v=>K v.erase
  |_,_=>False
 |.aas _ x i,K=>match e x,e i with
  |.lit (.string t),.lit (.int _ j)=>0≤j∧j<t.size∧K (.lit (.int .u8 (t.data.toList.getD j.toNat 0).toNat))
  |_,_=>False
 |.len _ x,K=>match e x with
  |.slice _ xs _=>K (.lit (.int .i64 xs.length))
  |.aq _ _ len _ _=>K (.lit (.int .i64 len))
  |.lit (.slice none 0 0)=>K (.lit (.int .i64 0))
  |_=>False
 |.aav _ x,K=>match e x with
  |.lit (.string t)=>K (.lit (.int .i64 t.size))
  |_=>False
 |.j9 _ n,K=>K (.lit (.int .i64 n))
 |.bin _ op x y,K=>cX op (e x) (e y) K
 |.iC _ neg x y,K=>match e x,e y with
  |.lit (.bool a),.lit (.bool b)=>K (.lit (.bool (if neg then !(a==b) else a==b)))
  |_,_=>False
 |.build _ z ps,K=>jO e z ps fun cs=>K (.agg cs)
 |.aaw _ neg n x y,K=>match e x,e y with
  |.agg a,.agg b=>a.length=n.length∧b.length=n.length∧∃q,cD n a b=some q∧K (.lit (.bool (if neg then !q else q)))
  |_,_=>False
 |.not _ x,K=>match e x with
  |.lit (.bool a)=>K (.lit (.bool (!a)))
  |_=>False
 |.neg _ x,K=>match e x with
  |.lit (.int k a)=>fJ k (0 - a)∧K (.lit (.int k (0 - a)))
  |_=>False
 |.conv _ k x,K=>match e x with
  |.lit (.int _ a)=>K (.lit (.int k (k.wrap a)))
  |_=>False
 |.pick _ c x y,K=>match e c with
  |.lit (.bool b)=>K (if b then e x else e y)
  |_=>False
 |.ext _ x i,K=>match e x with
  |.tuple vs=>i<vs.length∧K (vs.getD i .any).erase
  |_=>False
 |.aaX _ x y,K=>match e x,e y with
  |.lit (.int k a),.lit (.int _ b)=>K (.lit (.int k (if b>a then b else a)))
  |_,_=>False
 |.jH _ x y,K=>match e x,e y with
  |.lit (.int k a),.lit (.int _ b)=>K (.lit (.int k (if b<a then b else a)))
  |_,_=>False
 |.call _ f xs,K=>∃r,aG P f (xs.map fun x=>(e x).erase) r∧K r.erase
 |.aak _ x xs,K=>match e x with
  |.func (.func f) first cap=>∃r,aG P f (first++(xs.map fun x=>(e x).erase)++cap) r∧K r.erase
  |_=>False
 |.dB _ fn first cap,K=>K (.func fn (first.map fun x=>(e x).erase) (cap.map fun x=>(e x).erase))
 |.dJ _ x,K=>match e x with
  |.ref cs=>K (.ref cs)
  |.aj b o=>K (.aj b o)
  |_=>False
 |.jI _ x hi sz,K=>match e x,e hi with
  |.slice sz' xs _,.lit (.int _ n)=>(sz'=sz∨xs=[])∧0≤n∧n≤xs.length∧K (.slice sz (xs.take n.toNat) 0)
  |_,_=>False
 |.abg _ x lo sz,K=>match e x,e lo with
  |.slice sz' xs _,.lit (.int _ n)=>(sz'=sz∨xs=[])∧0≤n∧n≤xs.length∧K (.slice sz (xs.drop n.toNat) 0)
  |_,_=>False
 |.lX _ x lo hi sz,K=>match e x,e lo,e hi with
  |.slice sz' xs _,.lit (.int _ n),.lit (.int _ m)=>(sz'=sz∨xs=[])∧0≤n∧n≤m∧m≤xs.length∧K (.slice sz ((xs.drop n.toNat).take (m - n).toNat) 0)
  |_,_,_=>False
 |.guard g want (some _) m,K=>match e (.t g) with
  |.lit (.bool b)=>(b=want→pv P e l m K)∧(b=(!want)→K (.tuple []))
  |.tuple []=>K (.tuple [])
  |_=>False
 |_,_=>False
def uY:ai→Bool
 |.t _=>true
 |.c (.slice _ _ r)=>r==0
 |.c _=>true
def dI:au→Option (Nat×List ai)
 |.aa d x|.dK d x|.abf d x|.aV d x _|.load d x _|.aaW d x _|.addr d x _|.fld d x _ _|.len d x|.aav d x|.not d x|.neg d x|.conv d _ x|.ext d x _|.dJ d x=>some (d,[x])
 |.aO d x y _|.cW d x y _ _|.iB d x y _ _ _|.aas d x y|.bin d _ x y|.iC d _ x y|.aaX d x y|.jH d x y|.jI d x y _|.abg d x y _|.aaw d _ _ x y=>some (d,[x,y])
 |.build d _ ps=>some (d,ps.map (·.2.2))
 |.j9 d _=>some (d,[])
 |.pick d c x y|.lX d c x y _=>some (d,[c,x,y])
 |.call d _ xs=>some (d,xs)
 |.dB d _ first cap=>some (d,first++cap)
 |.aak d x xs=>some (d,x::xs)
 |.guard g _ (some d) m=>match dI m with
  |some (d',xs)=>if d'=d then some (d,.t g::xs) else none
  |none=>none
 |_=>none
theorem dM(P:Program):∀(m:au) (d:Nat) (rd:List ai),dI m=some (d,rd)→∀(s:St) (K:St→Prop),Z2 P m s K=pv P (fun x=>x.ev s.env) s.loc m (fun v=>K (s.set d v)):=by
 intro m
 induction m with
 |guard g want d m ih=>
  intro d' rd h s K
  cases d with
  |none=>cases h
  |some d=>
   simp only[dI] at h
   split at h
   ·rename_i d2 xs hm
    split at h
    ·rename_i e
     subst e
     injection h with h;injection h with h1 h2;subst h1
     have hg:ai.ev s.env (.t g)=s.env g:=rfl
     simp only[Z2,pv,hg]
     cases s.env g<;>first|rfl|skip
     ·rename_i v
      cases v<;>first|rfl|skip
      simp only[ih d2 xs hm s K]
     ·rename_i vs
      cases vs<;>rfl
    ·cases h
   ·cases h
 |build d z ps=>intro d' rd h s K;injection h with h;injection h with h1 h2;subst h1;exact Dv _ _ _ _
 |_=>intro d rd h s K;first|(cases h;done)|(injection h with h;injection h with h1 h2;subst h1;first|rfl|(simp only[Z2,pv];rfl))
theorem abz{cs:List AV}{off:Nat}{n:Option Nat}{K K':AV→Prop}(h:∀v,K v→K' v)(hv:cz cs off n K):cz cs off n K':=by cases n<;>exact⟨hv.1,h _ hv.2⟩
theorem acn{cs:List AV}{off:Nat}{n:Option Nat}{K:AV→Prop}(hv:cz cs off n K):∃v,cz cs off n (· =v)∧K v:=by cases n<;>exact⟨_,⟨hv.1,rfl⟩,hv.2⟩
theorem Nm{l:Loc}{x:AV}{n:Option Nat}{K K':AV→Prop}(h:∀v,K v→K' v)(hv:cN l x n K):cN l x n K':=by
 cases x with
 |ref cs=>exact abz (fun v=>h _) hv
 |aj b off=>
  simp only[cN] at hv⊢
  cases hl:l b with
  |none=>rw[hl] at hv;exact hv.elim
  |some cs=>rw[hl] at hv;exact abz h hv
 |_=>exact hv.elim
theorem Nn{l:Loc}{x:AV}{n:Option Nat}{K:AV→Prop}(hv:cN l x n K):∃v,cN l x n (· =v)∧K v:=by
 cases x with
 |ref cs=>
  obtain⟨v,h1,h2⟩:=acn (K:=fun v=>K v.erase) hv
  exact⟨_,show cz cs 0 n (fun u=>u.erase=v.erase) from abz (fun u e=>by rw[e]) h1,h2⟩
 |aj b off=>
  simp only[cN] at hv⊢
  cases hl:l b with
  |none=>rw[hl] at hv;exact hv.elim
  |some cs=>rw[hl] at hv;exact acn hv
 |_=>exact hv.elim
theorem x_{op:BinOp}{x y:AV}{K:AV→Prop}(hv:cX op x y K):∃v,cX op x y (· =v)∧K v:=by
 unfold cX at*
 split at hv
 ·split at hv
  ·exact⟨_,⟨hv.1,rfl⟩,hv.2⟩
  ·exact⟨_,⟨hv.1,rfl⟩,hv.2⟩
  ·obtain⟨hk,hv⟩:=hv
   rename_i n1 n2
   cases op<;>simp only[en] at hv⊢ <;>first
    |exact hv.elim
    |exact⟨_,⟨hk,hv.1,hv.2.1,rfl⟩,hv.2.2⟩
    |exact⟨_,⟨hk,hv.1,rfl⟩,hv.2⟩
    |exact⟨_,⟨hk,rfl⟩,hv⟩
    |exact(n1 rfl).elim
    |exact(n2 rfl).elim
 ·cases op<;>simp only[k6] at hv⊢ <;>first
   |exact hv.elim
   |exact⟨_,rfl,hv⟩
 ·exact hv.elim
theorem No{op:BinOp}{x y:AV}{K K':AV→Prop}(h:∀v,K v→K' v)(hv:cX op x y K):cX op x y K':=by
 unfold cX at*
 split at hv
 ·split at hv
  ·exact⟨hv.1,h _ hv.2⟩
  ·exact⟨hv.1,h _ hv.2⟩
  ·refine⟨hv.1,?_⟩
   have hv:=hv.2
   rename_i n1 n2
   cases op<;>simp only[en] at hv⊢ <;>first
    |exact hv.elim
    |exact⟨hv.1,hv.2.1,h _ hv.2.2⟩
    |exact⟨hv.1,h _ hv.2⟩
    |exact h _ hv
    |exact(n1 rfl).elim
    |exact(n2 rfl).elim
 ·cases op<;>simp only[k6] at hv⊢ <;>first
   |exact hv.elim
   |exact h _ hv
 ·exact hv.elim
theorem gN(P:Program)(e:ai→AV)(l:Loc):∀(m:au) (K K':AV→Prop),(∀v,K v→K' v)→pv P e l m K→pv P e l m K':=by
 intro m
 induction m with
 |guard g want d m ih=>
  intro K K' h hv
  cases d with
  |none=>exact hv
  |some d=>
   simp only[pv] at hv⊢
   split at hv
   ·exact⟨fun hb=>ih K K' h (hv.1 hb),fun hb=>h _ (hv.2 hb)⟩
   ·exact h _ hv
   ·exact hv
 |load d x n=>intro K K' h hv;exact Nm h hv
 |bin d op x y=>intro K K' h hv;exact No h hv
 |call d f xs=>intro K K' h ⟨r,h1,h2⟩;exact⟨r,h1,h _ h2⟩
 |aak d x xs=>
  intro K K' h hv;simp only[pv] at hv⊢;split at hv
  ·obtain⟨r,h1,h2⟩:=hv;exact⟨r,h1,h _ h2⟩
  ·exact hv
 |build d z ps=>intro K K' h hv;exact uX e ps z _ _ (fun _=>h _) hv
 |aaw d neg n x y=>
  intro K K' h hv;simp only[pv] at hv⊢;split at hv
  ·obtain⟨h1,h2,q,h3,h4⟩:=hv;exact⟨h1,h2,q,h3,h _ h4⟩
  ·exact hv
 |aaW d x n=>
  intro K K' h hv;simp only[pv] at hv⊢;split at hv
  ·exact abz (fun v=>h _) hv
  ·exact hv
 |fld d x off n=>
  intro K K' h hv;simp only[pv] at hv⊢;split at hv
  ·exact abz (fun v=>h _) hv
  ·exact hv
 |iB d x i len sz n=>
  intro K K' h hv;simp only[pv] at hv⊢;split at hv
  ·exact⟨hv.1,hv.2.1,abz (fun v=>h _) hv.2.2⟩
  ·exact hv
 |_=>
  intro K K' h hv
  simp only[pv] at hv⊢ <;>first
   |exact h _ hv
   |exact⟨hv.1,h _ hv.2⟩
   |(split at hv<;>first|exact hv|exact h _ hv|exact⟨hv.1,h _ hv.2⟩|exact⟨hv.1,hv.2.1,h _ hv.2.2⟩|exact⟨hv.1,hv.2.1,hv.2.2.1,h _ hv.2.2.2⟩|exact⟨hv.1,hv.2.1,hv.2.2.1,hv.2.2.2.1,h _ hv.2.2.2.2⟩)
   |exact hv
theorem mo(P:Program)(e:ai→AV)(l:Loc):∀(m:au) (K:AV→Prop),pv P e l m K→∃v,pv P e l m (· =v)∧K v:=by
 intro m
 induction m with
 |guard g want d m ih=>
  intro K hv
  cases d with
  |none=>exact hv.elim
  |some d=>
   simp only[pv] at hv⊢
   split at hv
   ·rename_i b hb
    by_cases h1:b=want
    ·obtain⟨v,h2,h3⟩:=ih K (hv.1 h1)
     exact⟨v,⟨fun _=>h2,fun h4=>absurd (h1.symm.trans h4) (by cases want<;>decide)⟩,h3⟩
    ·have h4:b= !want:=by revert h1;cases b<;>cases want<;>decide
     exact⟨.tuple [],⟨fun h5=>absurd h5 h1,fun _=>rfl⟩,hv.2 h4⟩
   ·exact⟨_,rfl,hv⟩
   ·exact hv.elim
 |load d x n=>intro K hv;exact Nn hv
 |bin d op x y=>intro K hv;exact x_ hv
 |call d f xs=>intro K ⟨r,h1,h2⟩;exact⟨_,⟨r,h1,rfl⟩,h2⟩
 |aak d x xs=>
  intro K hv;simp only[pv] at hv⊢;split at hv
  ·obtain⟨r,h1,h2⟩:=hv;exact⟨_,⟨r,h1,rfl⟩,h2⟩
  ·exact hv.elim
 |build d z ps=>
  intro K hv
  obtain⟨cs,h1,h2⟩:=Dw e ps z _ hv
  exact⟨.agg cs,uX e ps z _ _ (fun _ h=>by rw[h]) h1,h2⟩
 |aaw d neg n x y=>
  intro K hv;simp only[pv] at hv⊢;split at hv
  ·obtain⟨h1,h2,q,h3,h4⟩:=hv;exact⟨_,⟨h1,h2,q,h3,rfl⟩,h4⟩
  ·exact hv.elim
 |aaW d x n=>
  intro K hv;simp only[pv] at hv⊢;split at hv
  ·obtain⟨v,h1,h2⟩:=acn hv
   exact⟨_,abz (fun u e=>by rw[e]) h1,h2⟩
  ·exact hv.elim
 |fld d x off n=>
  intro K hv;simp only[pv] at hv⊢;split at hv
  ·obtain⟨v,h1,h2⟩:=acn hv
   exact⟨_,abz (fun u e=>by rw[e]) h1,h2⟩
  ·exact hv.elim
 |iB d x i len sz n=>
  intro K hv;simp only[pv] at hv⊢;split at hv
  ·obtain⟨v,h1,h2⟩:=acn hv.2.2
   exact⟨_,⟨hv.1,hv.2.1,abz (fun u e=>by rw[e]) h1⟩,h2⟩
  ·exact hv.elim
 |_=>
  intro K hv
  simp only[pv] at hv⊢ <;>first
   |exact⟨_,rfl,hv⟩
   |exact⟨_,⟨hv.1,rfl⟩,hv.2⟩
   |(split at hv<;>first|exact hv.elim|exact⟨_,rfl,hv⟩|exact⟨_,⟨hv.1,rfl⟩,hv.2⟩|exact⟨_,⟨hv.1,hv.2.1,rfl⟩,hv.2.2⟩|exact⟨_,⟨hv.1,hv.2.1,hv.2.2.1,rfl⟩,hv.2.2.2⟩|exact⟨_,⟨hv.1,hv.2.1,hv.2.2.1,hv.2.2.2.1,rfl⟩,hv.2.2.2.2⟩)
   |exact hv.elim
theorem aco(P:Program)(e e':ai→AV)(l:Loc):∀(m:au) (d:Nat) (rd:List ai),dI m=some (d,rd)→(∀x∈rd,e x=e' x)→∀K,pv P e l m K=pv P e' l m K:=by
 intro m
 induction m with
 |guard g want d m ih=>
  intro d' rd h he K
  cases d with
  |none=>cases h
  |some d=>
   simp only[dI] at h
   split at h
   ·rename_i d2 xs hm
    split at h
    ·injection h with h;injection h with h1 h2;subst h2
     simp only[pv,he (.t g) (by simp),ih d2 xs hm (fun x hx=>he x (by simp[hx])) K]
    ·cases h
   ·cases h
 |build d z ps=>
  intro d' rd h he K
  injection h with h;injection h with h1 h2;subst h2
  exact x9 e e' ps z _ (fun x hx=>by rw[he x hx];exact⟨rfl,rfl⟩)
 |call d f xs=>
  intro d' rd h he K
  injection h with h;injection h with h1 h2;subst h2
  have:xs.map (fun x=>(e x).erase)=xs.map (fun x=>(e' x).erase):=List.map_congr_left fun x hx=>by rw[he x hx]
  simp only[pv,this]
 |dB d fn first cap=>
  intro d' rd h he K
  injection h with h;injection h with h1 h2;subst h2
  have h3:first.map (fun x=>(e x).erase)=first.map (fun x=>(e' x).erase):=List.map_congr_left fun x hx=>by rw[he x (List.mem_append_left _ hx)]
  have h4:cap.map (fun x=>(e x).erase)=cap.map (fun x=>(e' x).erase):=List.map_congr_left fun x hx=>by rw[he x (List.mem_append_right _ hx)]
  simp only[pv,h3,h4]
 |aak d x xs=>
  intro d' rd h he K
  injection h with h;injection h with h1 h2;subst h2
  have:xs.map (fun x=>(e x).erase)=xs.map (fun x=>(e' x).erase):=List.map_congr_left fun y hy=>by rw[he y (List.mem_cons_of_mem _ hy)]
  simp only[pv,this,he x (List.mem_cons_self ..)]
 |_=>
  intro d' rd h he K
  first
   |(cases h;done)
   |(injection h with h;injection h with h1 h2;subst h2;simp only[pv,he _ (List.mem_cons_self ..),he _ (List.mem_cons_of_mem _ (List.mem_cons_self ..)),he _ (List.mem_cons_of_mem _ (List.mem_cons_of_mem _ (List.mem_cons_self ..)))];done)
   |(injection h with h;injection h with h1 h2;subst h2;simp only[pv,he _ (List.mem_cons_self ..),he _ (List.mem_cons_of_mem _ (List.mem_cons_self ..))];done)
   |(injection h with h;injection h with h1 h2;subst h2;simp only[pv,he _ (List.mem_cons_self ..)];done)
   |(injection h with h;injection h with h1 h2;subst h2;simp only[pv];done)
end Go.Z4
namespace Go.Z4
def aa2:au→List ai
 |.load _ x _=>[x]
 |.guard _ _ _ m=>aa2 m
 |_=>[]
theorem Dx(P:Program)(e:ai→AV)(l l':Loc):∀(m:au),(∀z∈aa2 m,∀b o,e z=.aj b o→l' b=l b)→∀K,pv P e l m K=pv P e l' m K:=by
 intro m
 induction m with
 |guard g want d m ih=>
  intro h K
  cases d with
  |none=>rfl
  |some d=>simp only[pv,ih h K]
 |load d x n=>
  intro h K
  have h:=h x (by simp[aa2])
  simp only[pv]
  unfold cN
  cases hx:e x with
  |aj b o=>simp only[h b o hx]
  |_=>rfl
 |_=>intro h K;rfl
theorem Dy(P:Program)(e:ai→AV)(l:Loc)(b:Nat)(cs:List AV)(hb:l b=none):∀(m:au) (K:AV→Prop),pv P e l m K→pv P e (ak l b (some cs)) m K:=by
 intro m
 induction m with
 |guard g want d m ih=>
  intro K hv
  cases d with
  |none=>exact hv
  |some d=>
   simp only[pv] at hv⊢
   split at hv
   ·exact⟨fun h=>ih K (hv.1 h),hv.2⟩
   ·exact hv
   ·exact hv
 |load d x n=>
  intro K hv
  simp only[pv] at hv⊢
  unfold cN at hv⊢
  cases hx:e x with
  |aj b' o=>
   rw[hx] at hv
   simp only at hv⊢
   by_cases hO:b'=b
   ·subst hO;rw[hb] at hv;exact hv.elim
   ·rw[Z5 _ _ hO];exact hv
  |ref cs=>rw[hx] at hv;exact hv
  |_=>rw[hx] at hv;exact hv.elim
 |_=>intro K hv;exact hv
def ya(r:Nat)(l:Loc):Loc:=fun b=>(l b).map (·.map (az r))
theorem oM(r:Nat)(x:AV):az r x.erase=x.erase:=by
 cases x<;>first|rfl|skip
 simp only[AV.erase,az];split<;>rfl
theorem nH(r:Nat)(x:AV):(az r x).erase=x.erase:=by
 cases x<;>first|rfl|skip
 simp only[az];split<;>rfl
theorem Np(r:Nat)(x:AV):(az r x).erase0=x.erase0:=by
 cases x<;>first|rfl|skip
 simp only[az];split<;>rfl
theorem Dz(r:Nat)(x:AV):(az r x).cells.map AV.erase0=x.cells.map AV.erase0:=by
 cases x<;>first|rfl|skip
 simp only[az];split<;>rfl
theorem acp(r:Nat)(x:AV):(az r x).cells.length=x.cells.length:=by
 cases x<;>first|rfl|skip
 simp only[az];split<;>rfl
theorem acH(r:Nat)(x:AV):(az r x).cells.all AV.bE=x.cells.all AV.bE:=by
 cases x<;>first|rfl|skip
 simp only[az];split<;>rfl
theorem r_(r sz:Nat)(xs:List AV)(q:Nat):∃q',az r (.slice sz xs q)=.slice sz xs q'∧(q=0→q'=0):=by
 simp only[az];split
 ·exact⟨0,rfl,fun _=>rfl⟩
 ·exact⟨q,rfl,id⟩
theorem qm(r sz:Nat)(xs:List AV):az r (.slice sz xs 0)=.slice sz xs 0:=by simp only[az];split<;>rfl
theorem uZ{cs:List AV}{off:Nat}{n:Option Nat}{v:AV}(r:Nat)(hv:cz cs off n (fun u=>u.erase=v)):cz cs off n (fun u=>u.erase=az r v):=by
 cases n with
 |none=>exact⟨hv.1,by rw[←hv.2,oM]⟩
 |some n=>exact⟨hv.1,by rw[←hv.2,oM]⟩
theorem Nq(P:Program)(e e':ai→AV)(l:Loc)(r:Nat):∀(m:au) (d:Nat) (rd:List ai),dI m=some (d,rd)→(∀x∈rd,e' x=az r (e x))→∀v,pv P e l m (· =v)→pv P e' (ya r l) m (· =az r v):=by
 intro m
 induction m with
 |guard g want d m ih=>
  intro d' rd h he v hv
  cases d with
  |none=>exact hv
  |some d=>
   simp only[dI] at h
   split at h
   ·rename_i d2 xs hm
    split at h
    ·injection h with h;injection h with h1 h2;subst h2
     simp only[pv] at hv⊢
     rw[he (.t g) (by simp)]
     split at hv
     ·rename_i b hb
      rw[hb]
      exact⟨fun h=>ih d2 xs hm (fun x hx=>he x (by simp[hx])) v (hv.1 h),fun h=>by rw[←hv.2 h];rfl⟩
     ·rename_i hb
      rw[hb,←hv];rfl
     ·exact hv.elim
    ·cases h
   ·cases h
 |call d f xs=>
  intro d' rd h he v ⟨q,h1,h2⟩
  injection h with h;injection h with h3 h4;subst h4
  have:xs.map (fun x=>(e' x).erase)=xs.map (fun x=>(e x).erase):=List.map_congr_left fun x hx=>by rw[he x hx,nH]
  refine⟨q,by rw[this];exact h1,?_⟩
  rw[←h2,oM]
 |dB d fn first cap=>
  intro d' rd h he v hv
  injection h with h;injection h with h3 h4;subst h4
  have h5:first.map (fun x=>(e' x).erase)=first.map (fun x=>(e x).erase):=List.map_congr_left fun y hy=>by rw[he y (List.mem_append_left _ hy),nH]
  have h6:cap.map (fun x=>(e' x).erase)=cap.map (fun x=>(e x).erase):=List.map_congr_left fun y hy=>by rw[he y (List.mem_append_right _ hy),nH]
  simp only[pv] at hv⊢
  rw[h5,h6,←hv];rfl
 |aak d x xs=>
  intro d' rd h he v hv
  injection h with h;injection h with h3 h4;subst h4
  have:xs.map (fun x=>(e' x).erase)=xs.map (fun x=>(e x).erase):=List.map_congr_left fun y hy=>by rw[he y (List.mem_cons_of_mem _ hy),nH]
  simp only[pv] at hv⊢
  rw[he x (List.mem_cons_self ..)]
  split at hv
  ·rename_i f first cap hx
   obtain⟨q,h1,h2⟩:=hv
   rw[hx]
   refine⟨q,by rw[this];exact h1,?_⟩
   rw[←h2,oM]
  ·exact hv.elim
 |build d z ps=>
  intro d' rd h he v hv
  injection h with h;injection h with h3 h4;subst h4
  have:=x9 e e' ps z (fun cs=>AV.agg cs=az r v) (fun x hx=>by rw[he x hx,acp,Dz];exact⟨rfl,rfl⟩)
  show jO e' z ps _
  rw[←this]
  exact uX e ps z _ _ (fun cs h=>by rw[←h];rfl) hv
 |aaw d neg n x y=>
  intro d' rd h he v hv;injection h with h;injection h with h3 h4;subst h4
  simp only[pv] at hv⊢
  rw[he x (by simp),he y (by simp)]
  split at hv
  ·rename_i a b e1 e2
   obtain⟨h1,h2,q,h5,h6⟩:=hv
   rw[e1,e2,←h6]
   exact⟨h1,h2,q,h5,rfl⟩
  ·exact hv.elim
 |load d x n=>
  intro d' rd h he v hv
  injection h with h;injection h with h3 h4;subst h4
  simp only[pv] at hv⊢
  rw[he x (by simp)]
  cases hx:e x with
  |ref cs=>rw[hx] at hv;exact uZ r hv
  |aj b o=>
   rw[hx] at hv
   show cN (ya r l) (.aj b o) n _
   simp only[cN,ya] at hv⊢
   cases hl:l b with
   |none=>rw[hl] at hv;exact hv.elim
   |some cs=>
    rw[hl] at hv
    simp only[Option.map_some] at hv⊢
    cases n with
    |none=>
     refine⟨by simpa using hv.1,?_⟩
     rw[←hv.2]
     have:=hv.1
     simp only[List.getD_eq_getElem?_getD,List.getElem?_map,List.getElem?_eq_getElem this,Option.map_some,Option.getD_some]
    |some k=>
     refine⟨by simpa using hv.1,?_⟩
     rw[←hv.2,oM]
     simp only[AV.erase,←List.map_drop,←List.map_take,List.map_map]
     congr 1
     refine List.map_congr_left fun x _=> ?_
     exact Np r x
  |_=>rw[hx] at hv;exact hv.elim
 |aa d x=>intro d' rd h he v hv;injection h with h;injection h with h3 h4;subst h4;simp only[pv] at hv⊢;rw[he x (by simp),hv]
 |dK d x=>intro d' rd h he v hv;injection h with h;injection h with h3 h4;subst h4;simp only[pv] at hv⊢;rw[he x (by simp),nH,←hv,oM]
 |aV d x n=>intro d' rd h he v hv;injection h with h;injection h with h3 h4;subst h4;simp only[pv] at hv⊢;rw[he x (by simp),Dz,acp,←hv.2];exact⟨hv.1,rfl⟩
 |pick d c x y=>
  intro d' rd h he v hv;injection h with h;injection h with h3 h4;subst h4
  simp only[pv] at hv⊢
  rw[he c (by simp),he x (by simp),he y (by simp)]
  split at hv
  ·rename_i b hb
   rw[hb,←hv]
   cases b<;>rfl
  ·exact hv.elim
 |ext d x i=>
  intro d' rd h he v hv;injection h with h;injection h with h3 h4;subst h4
  simp only[pv] at hv⊢
  rw[he x (by simp)]
  split at hv
  ·rename_i vs hb
   rw[hb,←hv.2,oM]
   exact⟨hv.1,rfl⟩
  ·exact hv.elim
 |aO d x i sz=>
  intro d' rd h he v hv;injection h with h;injection h with h3 h4;subst h4
  simp only[pv] at hv⊢
  rw[he x (by simp),he i (by simp)]
  split at hv
  ·rename_i sz' xs q k n e1 e2
   obtain⟨q',h5,_⟩:=r_ r sz' xs q
   rw[e1,e2,h5,←hv.2.2.2]
   exact⟨hv.1,hv.2.1,hv.2.2.1,rfl⟩
  ·rename_i b off len cap sz' k n e1 e2
   rw[e1,e2,←hv.2.2.2]
   exact⟨hv.1,hv.2.1,hv.2.2.1,rfl⟩
  ·exact hv.elim
 |len d x=>
  intro d' rd h he v hv;injection h with h;injection h with h3 h4;subst h4
  simp only[pv] at hv⊢
  rw[he x (by simp)]
  split at hv
  ·rename_i sz' xs q e1
   obtain⟨q',h5,_⟩:=r_ r sz' xs q
   rw[e1,h5,←hv];rfl
  ·rename_i e1
   rw[e1,←hv];rfl
  ·rename_i e1
   rw[e1,←hv];rfl
  ·exact hv.elim
 |jI d x i sz=>
  intro d' rd h he v hv;injection h with h;injection h with h3 h4;subst h4
  simp only[pv] at hv⊢
  rw[he x (by simp),he i (by simp)]
  split at hv
  ·rename_i sz' xs q k n e1 e2
   obtain⟨q',h5,_⟩:=r_ r sz' xs q
   rw[e1,e2,h5,←hv.2.2.2,qm]
   exact⟨hv.1,hv.2.1,hv.2.2.1,rfl⟩
  ·exact hv.elim
 |abg d x i sz=>
  intro d' rd h he v hv;injection h with h;injection h with h3 h4;subst h4
  simp only[pv] at hv⊢
  rw[he x (by simp),he i (by simp)]
  split at hv
  ·rename_i sz' xs q k n e1 e2
   obtain⟨q',h5,_⟩:=r_ r sz' xs q
   rw[e1,e2,h5,←hv.2.2.2,qm]
   exact⟨hv.1,hv.2.1,hv.2.2.1,rfl⟩
  ·exact hv.elim
 |lX d x i l sz=>
  intro d' rd h he v hv;injection h with h;injection h with h3 h4;subst h4
  simp only[pv] at hv⊢
  rw[he x (by simp),he i (by simp),he l (by simp)]
  split at hv
  ·rename_i sz' xs q k n k2 m e1 e2 e3
   obtain⟨q',h5,_⟩:=r_ r sz' xs q
   rw[e1,e2,e3,h5,←hv.2.2.2.2,qm]
   exact⟨hv.1,hv.2.1,hv.2.2.1,hv.2.2.2.1,rfl⟩
  ·exact hv.elim
 |aaW d x n=>
  intro d' rd h he v hv;injection h with h;injection h with h3 h4;subst h4
  simp only[pv] at hv⊢
  rw[he x (by simp)]
  split at hv
  ·rename_i cs e1;rw[e1];exact uZ r hv
  ·exact hv.elim
 |fld d x off n=>
  intro d' rd h he v hv;injection h with h;injection h with h3 h4;subst h4
  simp only[pv] at hv⊢
  rw[he x (by simp)]
  split at hv
  ·rename_i cs e1;rw[e1];exact uZ r hv
  ·exact hv.elim
 |iB d x i len sz n=>
  intro d' rd h he v hv;injection h with h;injection h with h3 h4;subst h4
  simp only[pv] at hv⊢
  rw[he x (by simp),he i (by simp)]
  split at hv
  ·rename_i cs k j e1 e2;rw[e1,e2];exact⟨hv.1,hv.2.1,uZ r hv.2.2⟩
  ·exact hv.elim
 |bin d op x y=>
  intro d' rd h he v hv;injection h with h;injection h with h3 h4;subst h4
  simp only[pv] at hv⊢
  rw[he x (by simp),he y (by simp)]
  obtain⟨u,h5,h6⟩:=x_ hv
  have h6:u=v:=h6
  subst h6
  have Nr:∃val,u=.lit val:=by
   have:=x_ hv
   unfold cX at hv
   split at hv
   ·split at hv
    ·exact⟨_,hv.2.symm⟩
    ·exact⟨_,hv.2.symm⟩
    ·rename_i n1 n2
     have hv:=hv.2
     cases op<;>simp only[en] at hv<;>first
      |exact hv.elim
      |exact⟨_,hv.2.2.symm⟩
      |exact⟨_,hv.2.symm⟩
      |exact⟨_,hv.symm⟩
      |exact(n1 rfl).elim
      |exact(n2 rfl).elim
   ·cases op<;>simp only[k6] at hv<;>first
     |exact hv.elim
     |exact⟨_,hv.symm⟩
   ·exact hv.elim
  obtain⟨val,rfl⟩:=Nr
  have hxy:cX op (az r (e x)) (az r (e y))=cX op (e x) (e y):=by
   unfold cX at hv
   split at hv
   ·rename_i e1 e2;rw[e1,e2];rfl
   ·rename_i e1 e2;rw[e1,e2];rfl
   ·exact hv.elim
  rw[hxy]
  exact h5
 |addr d x off=>
  intro d' rd h he v hv;injection h with h;injection h with h3 h4;subst h4
  simp only[pv] at hv⊢
  rw[he x (by simp)]
  split at hv<;>first|exact hv.elim|(rename_i e1;rw[e1,←hv];rfl)
 |cW d x i len sz=>
  intro d' rd h he v hv;injection h with h;injection h with h3 h4;subst h4
  simp only[pv] at hv⊢
  rw[he x (by simp),he i (by simp)]
  split at hv<;>first|exact hv.elim|(rename_i e1 e2;rw[e1,e2,←hv.2.2];exact⟨hv.1,hv.2.1,rfl⟩)
 |aas d x i=>
  intro d' rd h he v hv;injection h with h;injection h with h3 h4;subst h4
  simp only[pv] at hv⊢
  rw[he x (by simp),he i (by simp)]
  split at hv<;>first|exact hv.elim|(rename_i e1 e2;rw[e1,e2,←hv.2.2];exact⟨hv.1,hv.2.1,rfl⟩)
 |j9 d n=>intro d' rd h he v hv;simp only[pv] at hv⊢;rw[←hv];rfl
 |neg d x=>
  intro d' rd h he v hv;injection h with h;injection h with h3 h4;subst h4
  simp only[pv] at hv⊢
  rw[he x (by simp)]
  split at hv<;>first|exact hv.elim|(rename_i e1;rw[e1,←hv.2];exact⟨hv.1,rfl⟩)
 |abf d x|aav d x|not d x|conv d k x|dJ d x=>
  intro d' rd h he v hv;injection h with h;injection h with h3 h4;subst h4
  simp only[pv] at hv⊢
  rw[he x (by simp)]
  split at hv<;>first|exact hv.elim|(rename_i e1;rw[e1,←hv];rfl)
 |iC d neg x y|aaX d x y|jH d x y=>
  intro d' rd h he v hv;injection h with h;injection h with h3 h4;subst h4
  simp only[pv] at hv⊢
  rw[he x (by simp),he y (by simp)]
  split at hv<;>first|exact hv.elim|(rename_i e1 e2;rw[e1,e2,←hv];rfl)
 |_=>intro d' rd h;cases h
end Go.Z4
namespace Go.Z4
open Go.RowKit
def sg(k:Nat):ai→Bool
 |.t n=>n==k
 |_=>false
def bx(d:Nat)(xs:List ai):Bool:=xs.all fun x=> !sg d x
def dS(xs:List ai):Bool:=xs.all uY
theorem bT{s:St}{d:Nat}{v:AV}{x:ai}(h:sg d x=false):x.ev (s.set d v).env=x.ev s.env:=by
 cases x with
 |t n=>simp[sg] at h;simp[ai.ev,St.set,ak,h]
 |c y=>rfl
theorem abA{s:St}{r:Nat}{x:ai}(h:uY x=true):x.ev (s.aB r).env=az r (x.ev s.env):=by
 cases x with
 |t n=>rfl
 |c y=>
  cases y<;>first|rfl|skip
  simp[uY] at h
  subst h
  exact(qm r _ _).symm
theorem bU{d:Nat}{xs:List ai}(h:bx d xs=true){x:ai}(hx:x∈xs):sg d x=false:=by have:=(List.all_eq_true.1 h) x hx;simpa using this
theorem set_comm(s:St){d k:Nat}(x y:AV)(h:d≠k):(s.set d x).set k y=(s.set k y).set d x:=by simp only[St.set];rw[p0 _ _ _ h]
theorem aa3(s:St)(r d:Nat)(x:AV):(s.set d x).aB r=(s.aB r).set d (az r x):=by
 simp only[St.set,St.aB]
 congr 1
 funext k
 simp only[ak];split<;>rfl
theorem u0(s:St)(b d:Nat)(cs:List AV)(x:AV):(s.set d x).new b cs=(s.new b cs).set d x:=rfl
theorem Ns:∀(y:au) (d:Nat) (rd:List ai),dI y=some (d,rd)→∀z∈aa2 y,z∈rd:=by
 intro y
 induction y with
 |guard g want d m ih=>
  intro d' rd h z hz
  cases d with
  |none=>cases h
  |some d=>
   simp only[dI] at h
   split at h
   ·rename_i d2 xs hm
    split at h
    ·injection h with h;injection h with h1 h2;subst h2
     exact List.mem_cons_of_mem _ (ih d2 xs hm z hz)
    ·cases h
   ·cases h
 |load d x n=>intro d' rd h z hz;injection h with h;injection h with h1 h2;subst h2;simpa[aa2] using hz
 |_=>intro d' rd h z hz;simp[aa2] at hz
variable {P:Program}
theorem Nt{y i:au}{dy di:Nat}{ry ri:List ai}(hy:dI y=some (dy,ry))(hi:dI i=some (di,ri))(hd:dy≠di)(h1:bx dy ri=true)(h2:bx di ry=true){s:St}{K:St→Prop}(h:Z2 P y s (fun s1=>Z2 P i s1 K)):Z2 P i s (fun s1=>Z2 P y s1 K):=by
 rw[dM P y dy ry hy] at h
 rw[dM P i di ri hi]
 obtain⟨v,hv,hk⟩:=mo P _ _ y _ h
 rw[dM P i di ri hi,aco P (fun x=>x.ev (s.set dy v).env) (fun x=>x.ev s.env) _ i di ri hi (fun x hx=>bT (bU h1 hx))] at hk
 refine gN P _ _ i _ _ (fun u hu=> ?_) hk
 rw[dM P y dy ry hy,aco P (fun x=>x.ev (s.set di u).env) (fun x=>x.ev s.env) _ y dy ry hy (fun x hx=>bT (bU h2 hx))]
 refine gN P _ _ y _ _ (fun w hw=> ?_) hv
 subst hw
 rw[set_comm s u w (Ne.symm hd)]
 exact hu
theorem qn{y:au}{dy:Nat}{ry:List ai}(hy:dI y=some (dy,ry))(hok:dS ry=true){s:St}{v:AV}(hv:pv P (fun x=>x.ev s.env) s.loc y (· =v))(r:Nat):pv P (fun x=>x.ev (s.aB r).env) (s.aB r).loc y (· =az r v):=Nq P _ _ s.loc r y dy ry hy (fun x hx=>abA ((List.all_eq_true.1 hok) x hx)) v hv
theorem mu{y:au}{dy:Nat}{ry:List ai}(hy:dI y=some (dy,ry)){d:Nat}(hf:bx d ry=true){s:St}{w:AV}{K:AV→Prop}(hv:pv P (fun x=>x.ev s.env) s.loc y K):pv P (fun x=>x.ev (s.set d w).env) (s.set d w).loc y K:=by
 rw[aco P (fun x=>x.ev (s.set d w).env) (fun x=>x.ev s.env) _ y dy ry hy (fun x hx=>bT (bU hf hx))]
 exact hv
theorem Nu{y:au}{dy di:Nat}{ry:List ai}{z:List AV}(hy:dI y=some (dy,ry))(hd:dy≠di)(h2:bx di ry=true){s:St}{K:St→Prop}(h:Z2 P y s (fun s1=>Z2 P (.alloc di z) s1 K)):Z2 P (.alloc di z) s (fun s1=>Z2 P y s1 K):=by
 rw[dM P y dy ry hy] at h
 obtain⟨v,hv,hk⟩:=mo P _ _ y _ h
 intro b hb
 rw[dM P y dy ry hy]
 have h3:=Dy P _ _ b z hb y _ hv
 have h4:=mu (P:=P) hy (d:=di) h2 (s:=s.new b z) (w:=.aj b 0) h3
 refine gN P _ _ y _ _ (fun w hw=> ?_) h4
 subst hw
 have:=hk b hb
 rw[u0,set_comm _ w _ hd] at this
 exact this
theorem Nv{d1 d2:Nat}{z1 z2:List AV}(hd:d1≠d2){s:St}{K:St→Prop}(h:Z2 P (.alloc d1 z1) s (fun s1=>Z2 P (.alloc d2 z2) s1 K)):Z2 P (.alloc d2 z2) s (fun s1=>Z2 P (.alloc d1 z1) s1 K):=by
 intro b2 cF b1 dc
 simp only[St.set,St.new] at dc
 by_cases e:b1=b2
 ·subst e;simp[ak] at dc
 ·rw[Z5 _ _ e] at dc
  have:=h b1 dc b2 (by simp only[St.set,St.new];rw[Z5 _ _ (Ne.symm e)];exact cF)
  have e2:(((s.new b2 z2).set d2 (.aj b2 0)).new b1 z1).set d1 (.aj b1 0)=(((s.new b1 z1).set d1 (.aj b1 0)).new b2 z2).set d2 (.aj b2 0):=by
   simp only[St.set,St.new]
   rw[p0 _ _ _ hd,p0 _ _ _ e]
  rw[e2];exact this
theorem iG(e:Nat→AV)(sz:Nat):∀(ps:List (Nat×ai)) (xs:List AV) (K K':List AV→Prop),(∀v,K v→K' v)→gn e sz xs ps K→gn e sz xs ps K'
 |[],_,_,_,h,hv=>h _ hv
 |_::ps,_,K,K',h,hv=>⟨hv.1,hv.2.1,hv.2.2.1,iG e sz ps _ K K' h hv.2.2.2⟩
theorem si(e e':Nat→AV)(sz:Nat):∀(ps:List (Nat×ai)) (xs:List AV) (K:List AV→Prop),(∀x∈ps.map (·.2),(x.ev e).cells.length=(x.ev e').cells.length∧(x.ev e).cells.all AV.bE=(x.ev e').cells.all AV.bE∧(x.ev e).erase=(x.ev e').erase)→gn e sz xs ps K=gn e' sz xs ps K
 |[],_,_,_=>rfl
 |(i,x)::ps,xs,K,h=>by
  obtain⟨h1,h2,h3⟩:=h x (by simp)
  simp only[gn,h1,h2,h3,si e e' sz ps _ K (fun y hy=>h y (by simp at hy⊢;exact .inr hy))]
theorem DA{y:au}{dy di n sz:Nat}{ry:List ai}{z:List AV}{ps:List (Nat×ai)}(hy:dI y=some (dy,ry))(hd:dy≠di)(h1:bx dy (ps.map (·.2))=true)(h2:bx di ry=true)(hok:dS ry=true){s:St}{K:St→Prop}(h:Z2 P y s (fun s1=>Z2 P (.aM di n sz z ps) s1 K)):Z2 P (.aM di n sz z ps) s (fun s1=>Z2 P y s1 K):=by
 rw[dM P y dy ry hy] at h
 obtain⟨v,hv,hk⟩:=mo P _ _ y _ h
 simp only[Z2] at hk⊢
 rw[si (s.set dy v).env s.env sz ps _ _ (fun x hx=>by rw[bT (bU h1 hx)];exact⟨rfl,rfl,rfl⟩)] at hk
 refine iG _ _ ps _ _ _ (fun xs hxs=> ?_) hk
 rw[dM P y dy ry hy]
 have h4:=mu (P:=P) hy (d:=di) h2 (s:=s.aB (di+1)) (w:=.slice sz xs (di+1)) (qn hy hok hv (di+1))
 refine gN P _ _ y _ _ (fun w hw=> ?_) h4
 subst hw
 rw[aa3,set_comm _ _ _ hd] at hxs
 exact hxs
theorem Nw{y:au}{dy di sz bytes:Nat}{ry:List ai}{x x':ai}(hy:dI y=some (dy,ry))(hd:dy≠di)(h1:bx dy [x,x']=true)(h2:bx di ry=true)(hok:dS ry=true){s:St}{K:St→Prop}(h:Z2 P y s (fun s1=>Z2 P (.app di x x' sz bytes) s1 K)):Z2 P (.app di x x' sz bytes) s (fun s1=>Z2 P y s1 K):=by
 rw[dM P y dy ry hy] at h
 obtain⟨v,hv,hk⟩:=mo P _ _ y _ h
 simp only[Z2] at hk⊢
 rw[bT (bU h1 (x:=x) (by simp)),bT (bU h1 (x:=x') (by simp))] at hk
 split at hk
 ·rename_i szx xs r szy ys r2 e1 e2
  obtain⟨g1,g2,g3,g4,g5,hk⟩:=hk
  refine⟨g1,g2,g3,g4,g5,?_⟩
  rw[dM P y dy ry hy]
  have h4:=mu (P:=P) hy (d:=di) h2 (s:=(s.aB r).aB (di+1)) (w:=.slice sz (xs++ys) (di+1)) (qn hy hok (qn hy hok hv r) (di+1))
  refine gN P _ _ y _ _ (fun w hw=> ?_) h4
  subst hw
  rw[aa3,aa3,set_comm _ _ _ hd] at hk
  exact hk
 ·exact hk.elim
theorem adG{y:au}{dy di sz:Nat}{ry:List ai}{x u m:ai}(hy:dI y=some (dy,ry))(hd:dy≠di)(h1:bx dy [x,u,m]=true)(h2:bx di ry=true)(hok:dS ry=true){s:St}{K:St→Prop}(h:Z2 P y s (fun s1=>Z2 P (.i_ di x u m sz) s1 K)):Z2 P (.i_ di x u m sz) s (fun s1=>Z2 P y s1 K):=by
 rw[dM P y dy ry hy] at h
 obtain⟨v,hv,hk⟩:=mo P _ _ y _ h
 simp only[Z2] at hk⊢
 rw[bT (bU h1 (x:=x) (by simp)),bT (bU h1 (x:=u) (by simp)),bT (bU h1 (x:=m) (by simp))] at hk
 split at hk
 ·rename_i szx xs r k i k' j e1 e2 e3
  obtain⟨g,hk⟩:=hk
  refine⟨g,?_⟩
  rw[dM P y dy ry hy]
  have h4:=mu (P:=P) hy (d:=di) h2 (s:=s.aB (di+1)) (w:=.slice sz (xs.take i.toNat) (di+1)) (qn hy hok hv (di+1))
  refine gN P _ _ y _ _ (fun w hw=> ?_) h4
  subst hw
  rw[aa3,set_comm _ _ _ hd] at hk
  exact hk
 ·exact hk.elim
theorem Ny{y:au}{dy n aP:Nat}{ry zs:List ai}{x x':ai}(hy:dI y=some (dy,ry))(h1:bx dy (x::x'::zs)=true)(hok:dS ry=true)(hz:∀z∈aa2 y,z∈zs){s:St}{K:St→Prop}(h:Z2 P y s (fun s1=>Z2 P (.apart zs x (.store x x' n aP)) s1 K)):Z2 P (.apart zs x (.store x x' n aP)) s (fun s1=>Z2 P y s1 K):=by
 rw[dM P y dy ry hy] at h
 obtain⟨v,hv,hk⟩:=mo P _ _ y _ h
 have e1:x.ev (s.set dy v).env=x.ev s.env:=bT (bU h1 (by simp))
 have e2:x'.ev (s.set dy v).env=x'.ev s.env:=bT (bU h1 (by simp))
 simp only[Z2] at hk⊢
 obtain⟨hap,hk⟩:=hk
 have yc:∀z∈zs,abK (z.ev s.env) (x.ev s.env):=by
  intro z fX
  have:=hap z fX
  rw[e1,bT (bU h1 (by simp[fX]))] at this
  exact this
 refine⟨yc,?_⟩
 rw[e1,e2] at hk
 unfold gI at hk⊢
 generalize Zl:x.ev s.env=xe at hk yc⊢
 cases xe with
 |aj b off=>
  simp only at hk⊢
  have p8:(s.set dy v).loc=s.loc:=rfl
  rw[p8] at hk
  cases hb:s.loc b with
  |none=>rw[hb] at hk;exact hk.elim
  |some cs=>
   rw[hb] at hk
   simp only at hk⊢
   obtain⟨g1,g2,g3,hk⟩:=hk
   refine⟨g1,g2,g3,?_⟩
   have after:∀(s2:St) (u:AV) (cs':List AV),pv P (fun x=>x.ev s2.env) s2.loc y (· =u)→(∀z∈aa2 y,∀b' o,z.ev s2.env=.aj b' o→b'≠b)→K ((s2.set dy u).new b cs')→Z2 P y (s2.new b cs') K:=by
    intro s2 u cs' hu hne hK
    rw[dM P y dy ry hy]
    have:pv P (fun x=>x.ev (s2.new b cs').env) (s2.new b cs').loc y (· =u):=by
     show pv P (fun x=>x.ev s2.env) (s2.new b cs').loc y (· =u)
     rw[←Dx P (fun x=>x.ev s2.env) s2.loc (s2.new b cs').loc y (fun z fX b' o jg=>by simp only[St.new];rw[Z5 _ _ (hne z fX b' o jg)])]
     exact hu
    refine gN P _ _ y _ _ (fun w hw=> ?_) this
    subst hw
    exact hK
   have yd:∀z∈aa2 y,∀b' o,z.ev s.env=.aj b' o→b'≠b:=by
    intro z fX b' o jg
    have:=yc z (hz z fX)
    rw[jg] at this
    exact this
   have Nz:∀z∈aa2 y,uY z=true:=by
    intro z fX
    have:z∈ry:=Ns y dy ry hy z fX
    exact(List.all_eq_true.1 hok) z this
   have DB:∀(s2:St) (r:Nat),(∀z∈aa2 y,∀b' o,z.ev s2.env=.aj b' o→b'≠b)→∀z∈aa2 y,∀b' o,z.ev (s2.aB r).env=.aj b' o→b'≠b:=by
    intro s2 r hh z fX b' o jg
    rw[abA (Nz z fX)] at jg
    refine hh z fX b' o ?_
    cases hq:z.ev s2.env<;>rw[hq] at jg<;>simp only[az] at jg<;>first|exact jg|(cases jg;done)|(split at jg<;>cases jg)
   split at hk
   ·rename_i sz xs r he
    split at hk
    ·rename_i hro;rw[if_pos hro];exact after s v _ hv yd hk
    ·rename_i hro
     rw[if_neg hro]
     refine after _ (az aP (az r v)) _ (qn hy hok (qn hy hok hv r) aP) (DB _ _ (DB _ _ yd)) ?_
     rw[aa3,aa3] at hk
     exact hk
   ·exact after s v _ hv yd hk
 |_=>exact hk.elim
end Go.Z4
namespace Go.Z4
open Go.RowKit
variable {P:Program}
theorem sj(e:Nat→AV)(sz:Nat):∀(ps:List (Nat×ai)) (xs:List AV) (K:List AV→Prop),gn e sz xs ps K→∃v,gn e sz xs ps (· =v)∧K v
 |[],xs,_,hv=>⟨xs,rfl,hv⟩
 |_::ps,_,K,hv=>by
  obtain⟨v,h1,h2⟩:=sj e sz ps _ K hv.2.2.2
  exact⟨v,⟨hv.1,hv.2.1,hv.2.2.1,h1⟩,h2⟩
theorem DC(a b:Nat)(x:AV):az a (az b x)=az b (az a x):=by
 cases x with
 |slice sz xs q=>
  by_cases h1:q=b
  ·subst h1
   by_cases h2:q=a
   ·subst h2;rfl
   ·have e1:az q (.slice sz xs q)=.slice sz xs 0:=by simp[az]
    have e2:az a (.slice sz xs q)=.slice sz xs q:=by simp[az,h2]
    rw[e1,e2,e1,qm]
  ·by_cases h2:q=a
   ·subst h2
    have e1:az q (.slice sz xs q)=.slice sz xs 0:=by simp[az]
    have e2:az b (.slice sz xs q)=.slice sz xs q:=by simp[az,h1]
    rw[e1,e2,e1,qm]
   ·have e1:az a (.slice sz xs q)=.slice sz xs q:=by simp[az,h2]
    have e2:az b (.slice sz xs q)=.slice sz xs q:=by simp[az,h1]
    rw[e1,e2,e1]
 |_=>rfl
theorem u5(s:St)(a b:Nat):(s.aB a).aB b=(s.aB b).aB a:=by
 simp only[St.aB,Option.map_map]
 congr 1
 ·funext k;exact DC b a _
 ·funext c
  congr 1
  funext l
  simp only[Function.comp,List.map_map]
  refine List.map_congr_left fun x _=> ?_
  exact DC b a x
theorem oN{r q sz:Nat}{xs:List AV}(h:q≠r):az r (.slice sz xs q)=.slice sz xs q:=by simp[az,h]
theorem NA{r sz q:Nat}{xs:List AV}{x:AV}(h:az r x=.slice sz xs q)(hq:q≠0):x=.slice sz xs q∧q≠r:=by
 cases x<;>simp only[az] at h<;>first|(cases h;done)|skip
 split at h
 ·injection h with h1 h2 h3;exact absurd h3.symm hq
 ·injection h with h1 h2 h3;subst h1 h2 h3;exact⟨rfl,‹_›⟩
theorem DD{r sz q:Nat}{xs:List AV}{x:AV}(h:az r x=.slice sz xs q):∃q',x=.slice sz xs q':=by
 cases x<;>simp only[az] at h<;>first|(cases h;done)|skip
 split at h<;>(injection h with h1 h2 h3;subst h1 h2;exact⟨_,rfl⟩)
theorem u6{s s':St}{ps:List (Nat×ai)}(h:∀x∈ps.map (·.2),∃f:AV→AV,(∀y,(f y).cells.length=y.cells.length∧(f y).cells.all AV.bE=y.cells.all AV.bE∧(f y).erase=y.erase)∧x.ev s'.env=f (x.ev s.env))(sz:Nat)(xs:List AV)(K:List AV→Prop):gn s'.env sz xs ps K=gn s.env sz xs ps K:=si _ _ _ _ _ _ fun x hx=>by obtain⟨f,hf,e⟩:=h x hx;rw[e];exact hf _
theorem ye(r:Nat)(y:AV):(az r y).cells.length=y.cells.length∧(az r y).cells.all AV.bE=y.cells.all AV.bE∧(az r y).erase=y.erase:=⟨acp r y,acH r y,nH r y⟩
theorem NB{d1 n1 gv d2 b_ sk:Nat}{z1:List AV}{p1:List (Nat×ai)}{x x':ai}(hd:d1≠d2)(h1:bx d1 [x,x']=true)(h2:bx d2 (p1.map (·.2))=true)(k1:dS (p1.map (·.2))=true)(k2:dS [x,x']=true){s:St}{K:St→Prop}(h:Z2 P (.aM d1 n1 gv z1 p1) s (fun s1=>Z2 P (.app d2 x x' b_ sk) s1 K)):Z2 P (.app d2 x x' b_ sk) s (fun s1=>Z2 P (.aM d1 n1 gv z1 p1) s1 K):=by
 simp only[Z2] at h⊢
 obtain⟨us,nI,hk⟩:=sj _ _ _ _ _ h
 have ex:∀y∈[x,x'],y.ev ((s.aB (d1+1)).set d1 (.slice gv us (d1+1))).env=az (d1+1) (y.ev s.env):=fun y hy=>by rw[bT (bU h1 hy),abA ((List.all_eq_true.1 k2) y hy)]
 rw[ex x (by simp),ex x' (by simp)] at hk
 split at hk
 ·rename_i szx xs r szy ys r2 e1 e2
  obtain⟨g1,g2,g3,g4,g5,hk⟩:=hk
  obtain⟨e3,hr⟩:=NA e1 g1
  obtain⟨r3,e4⟩:=DD e2
  rw[e3,e4]
  refine⟨g1,g2,g3,g4,g5,?_⟩
  rw[u6 (s:=s) (s':=((s.aB r).aB (d2+1)).set d2 (.slice b_ (xs++ys) (d2+1))) (fun y hy=>⟨fun v=>az (d2+1) (az r v),fun v=>⟨by rw[acp,acp],by rw[acH,acH],by rw[nH,nH]⟩,by rw[bT (bU h2 hy),abA ((List.all_eq_true.1 k1) y hy),abA ((List.all_eq_true.1 k1) y hy)]⟩)]
  refine iG _ _ _ _ _ _ (fun v hv=> ?_) nI
  subst hv
  have hq:d1+1≠d2+1:=by omega
  rw[aa3,aa3,oN (Ne.symm hr),oN hq,set_comm _ _ _ hd] at hk
  rw[aa3,oN (Ne.symm hq)]
  rw[u5 (s.aB r) (d2+1) (d1+1),u5 s r (d1+1)]
  exact hk
 ·exact hk.elim
theorem NC{y:au}{dy di sz bytes:Nat}{ry:List ai}{n c:ai}{z:List AV}(hy:dI y=some (dy,ry))(hd:dy≠di)(h1:bx dy [n,c]=true)(h2:bx di ry=true){s:St}{K:St→Prop}(h:Z2 P y s (fun s1=>Z2 P (.dL di n c sz bytes z) s1 K)):Z2 P (.dL di n c sz bytes z) s (fun s1=>Z2 P y s1 K):=by
 rw[dM P y dy ry hy] at h
 obtain⟨v,hv,hk⟩:=mo P _ _ y _ h
 simp only[Z2] at hk⊢
 rw[bT (bU h1 (x:=n) (by simp)),bT (bU h1 (x:=c) (by simp))] at hk
 split at hk
 ·rename_i i j e1 e2
  obtain⟨g1,g2,g3,g4,g5,hk⟩:=hk
  refine⟨g1,g2,g3,g4,g5,fun b hb=> ?_⟩
  rw[dM P y dy ry hy]
  have h3:=Dy P _ _ b (List.replicate j.toNat z).flatten hb y _ hv
  have h4:=mu (P:=P) hy (d:=di) h2 (s:=s.new b (List.replicate j.toNat z).flatten) (w:=.aq b 0 i.toNat j.toNat sz) h3
  refine gN P _ _ y _ _ (fun w hw=> ?_) h4
  subst hw
  have:=hk b hb
  rw[u0,set_comm _ w _ hd] at this
  exact this
 ·exact hk.elim
theorem DE{q:Nat}{v:AV}{l:Value}(h:az q v=.lit l):v=.lit l:=by cases v<;>simp[az] at h⊢ <;>first|exact h|(split at h<;>cases h)
theorem ND{d1 n1 gv d2 b_:Nat}{z1:List AV}{p1:List (Nat×ai)}{x u m:ai}(hd:d1≠d2)(h1:bx d1 [x,u,m]=true)(h2:bx d2 (p1.map (·.2))=true)(k1:dS (p1.map (·.2))=true)(k2:dS [x,u,m]=true){s:St}{K:St→Prop}(h:Z2 P (.aM d1 n1 gv z1 p1) s (fun s1=>Z2 P (.i_ d2 x u m b_) s1 K)):Z2 P (.i_ d2 x u m b_) s (fun s1=>Z2 P (.aM d1 n1 gv z1 p1) s1 K):=by
 simp only[Z2] at h⊢
 obtain⟨us,nI,hk⟩:=sj _ _ _ _ _ h
 have ex:∀y∈[x,u,m],y.ev ((s.aB (d1+1)).set d1 (.slice gv us (d1+1))).env=az (d1+1) (y.ev s.env):=fun y hy=>by rw[bT (bU h1 hy),abA ((List.all_eq_true.1 k2) y hy)]
 rw[ex x (by simp),ex u (by simp),ex m (by simp)] at hk
 split at hk
 ·rename_i szx xs r k i k' j e1 e2 e3
  obtain⟨g,hk⟩:=hk
  obtain⟨r3,e4⟩:=DD e1
  rw[e4,DE e2,DE e3]
  refine⟨g,?_⟩
  rw[u6 (s:=s) (fun y hy=>⟨az (d2+1),ye _,by rw[bT (bU h2 hy),abA ((List.all_eq_true.1 k1) y hy)]⟩)]
  refine iG _ _ _ _ _ _ (fun v hv=> ?_) nI
  subst hv
  have hq:d1+1≠d2+1:=by omega
  rw[aa3,oN hq,set_comm _ _ _ hd] at hk
  rw[aa3,oN (Ne.symm hq),u5 s (d2+1) (d1+1)]
  exact hk
 ·exact hk.elim
theorem DF{d1 n1 gv d2 n2 b_:Nat}{z1 z2:List AV}{p1 p2:List (Nat×ai)}(hd:d1≠d2)(h1:bx d1 (p2.map (·.2))=true)(h2:bx d2 (p1.map (·.2))=true)(k1:dS (p1.map (·.2))=true)(k2:dS (p2.map (·.2))=true){s:St}{K:St→Prop}(h:Z2 P (.aM d1 n1 gv z1 p1) s (fun s1=>Z2 P (.aM d2 n2 b_ z2 p2) s1 K)):Z2 P (.aM d2 n2 b_ z2 p2) s (fun s1=>Z2 P (.aM d1 n1 gv z1 p1) s1 K):=by
 simp only[Z2] at h⊢
 obtain⟨us,nI,hk⟩:=sj _ _ _ _ _ h
 rw[u6 (s:=s) (fun y hy=>⟨az (d1+1),ye _,by rw[bT (bU h1 hy),abA ((List.all_eq_true.1 k2) y hy)]⟩)] at hk
 refine iG _ _ _ _ _ _ (fun v hv=> ?_) hk
 rw[u6 (s:=s) (fun y hy=>⟨az (d2+1),ye _,by rw[bT (bU h2 hy),abA ((List.all_eq_true.1 k1) y hy)]⟩)]
 refine iG _ _ _ _ _ _ (fun u hu=> ?_) nI
 subst hu
 have hq:d1+1≠d2+1:=by omega
 rw[aa3,oN hq,set_comm _ _ _ hd,u5] at hv
 rw[aa3,oN (Ne.symm hq)]
 exact hv
theorem NF{y:au}{dy di n sz g:Nat}{w:Bool}{ry:List ai}{z:List AV}{ps:List (Nat×ai)}(hy:dI y=some (dy,ry))(hd:dy≠di)(h1:bx dy (.t g::ps.map (·.2))=true)(h2:bx di ry=true)(hok:dS ry=true){s:St}{K:St→Prop}(h:Z2 P y s (fun s1=>Z2 P (.guard g w (some di) (.aM di n sz z ps)) s1 K)):Z2 P (.guard g w (some di) (.aM di n sz z ps)) s (fun s1=>Z2 P y s1 K):=by
 rw[dM P y dy ry hy] at h
 obtain⟨v,hv,hk⟩:=mo P _ _ y _ h
 have hg:(s.set dy v).env g=s.env g:=bT (x:=.t g) (bU h1 (by simp))
 have eB:bx dy (ps.map (·.2))=true:=by simp only[bx,List.all_cons,Bool.and_eq_true] at h1⊢;exact h1.2
 rw[Z2,hg] at hk
 rw[Z2]
 split at hk
 ·rename_i b hb
  refine⟨fun e=>DA hy hd eB h2 hok ?_,fun e=> ?_⟩
  ·rw[dM P y dy ry hy]
   exact gN P _ _ y _ _ (fun u hu=>by subst hu;exact hk.1 e) hv
  ·rw[dM P y dy ry hy]
   refine gN P _ _ y _ _ (fun u hu=> ?_) (mu (P:=P) hy (d:=di) h2 (w:=.tuple []) hv)
   subst hu
   have:=hk.2 e
   rw[set_comm _ _ _ hd] at this
   exact this
 ·rw[dM P y dy ry hy]
  refine gN P _ _ y _ _ (fun u hu=> ?_) (mu (P:=P) hy (d:=di) h2 (w:=.tuple []) hv)
  subst hu
  rw[set_comm _ _ _ hd] at hk
  exact hk
 ·exact hk.elim
theorem DG{r:Nat}{x:AV}{b:Bool}(h:az r x=.lit (.bool b)):x=.lit (.bool b):=by cases x<;>simp only[az] at h<;>first|exact h|(cases h;done)|(split at h<;>cases h)
theorem sn{d n sz g:Nat}{w:Bool}{z:List AV}{ps:List (Nat×ai)}{s:St}{K:St→Prop}(hg:s.env g=.lit (.bool w))(h:Z2 P (.aM d n sz z ps) s K):Z2 P (.guard g w (some d) (.aM d n sz z ps)) s K:=by
 rw[Z2,hg]
 exact⟨fun _=>h,fun e=>(by cases w<;>cases e)⟩
def lq(w:Bool)(x:AV):Prop:=x=.lit (.bool (!w))∨x=.tuple []
theorem lq.az{w:Bool}{x:AV}(r:Nat)(h:lq w x):lq w (Z4.az r x):=by rcases h with rfl|rfl;exact .inl rfl;exact .inr rfl
theorem lq.NG{w:Bool}{x:AV}{r:Nat}(h:lq w (Z4.az r x)):lq w x:=by
 rcases h with h|h
 ·exact .inl (DG h)
 ·refine .inr ?_
  cases x<;>simp only[Z4.az] at h<;>first|exact h|(cases h;done)|(split at h<;>cases h)
theorem so{d g:Nat}{w:Bool}{m:au}{s:St}{K:St→Prop}(hg:lq w (s.env g))(h:K (s.set d (.tuple []))):Z2 P (.guard g w (some d) m) s K:=by
 rcases hg with hg|hg
 ·rw[Z2,hg]
  exact⟨fun e=>(by cases w<;>cases e),fun _=>h⟩
 ·rw[Z2,hg]
  exact h
theorem u7{d g:Nat}{w:Bool}{m:au}{s:St}{K:St→Prop}(h:Z2 P (.guard g w (some d) m) s K):(s.env g=.lit (.bool w)∧Z2 P m s K)∨(lq w (s.env g)∧K (s.set d (.tuple []))):=by
 rw[Z2] at h
 split at h
 ·rename_i b hb
  by_cases e:b=w
  ·subst e;exact .inl ⟨hb,h.1 rfl⟩
  ·have e2:b= !w:=by revert e;cases b<;>cases w<;>decide
   exact .inr ⟨.inl (by rw[hb,e2]),h.2 e2⟩
 ·rename_i hb
  exact .inr ⟨.inr hb,h⟩
 ·exact h.elim
theorem NH{d1 n1 gv d2 n2 b_ g1 g2:Nat}{w1 w2:Bool}{z1 z2:List AV}{p1 p2:List (Nat×ai)}(hd:d1≠d2)(e1:d1≠g2)(e2:d2≠g1)(h1:bx d1 (p2.map (·.2))=true)(h2:bx d2 (p1.map (·.2))=true)(k1:dS (p1.map (·.2))=true)(k2:dS (p2.map (·.2))=true)
  {s:St}{K:St→Prop}(h:Z2 P (.guard g1 w1 (some d1) (.aM d1 n1 gv z1 p1)) s (fun s1=>Z2 P (.guard g2 w2 (some d2) (.aM d2 n2 b_ z2 p2)) s1 K)):
  Z2 P (.guard g2 w2 (some d2) (.aM d2 n2 b_ z2 p2)) s (fun s1=>Z2 P (.guard g1 w1 (some d1) (.aM d1 n1 gv z1 p1)) s1 K):=by
 have dH:∀(s:St) (d g:Nat) (x:AV),d≠g→(s.set d x).env g=s.env g:=fun s d g x e=>by simp[St.set,ak,Ne.symm e]
 rcases u7 h with ⟨ha,h⟩|⟨ha,h⟩
 ·have h':=h
  rw[Z2] at h'
  obtain⟨us,nI,hk⟩:=sj _ _ _ _ _ h'
  rcases u7 hk with ⟨hb,hk⟩|⟨hb,hk⟩
  ·rw[dH _ _ _ _ e1] at hb
   have hb':=DG (show az (d1+1) (s.env g2)=_ from hb)
   refine sn hb' ?_
   have hm:Z2 P (.aM d1 n1 gv z1 p1) s (fun s1=>Z2 P (.aM d2 n2 b_ z2 p2) s1 K):=by
    rw[Z2]
    exact iG _ _ _ _ _ _ (fun u hu=>by subst hu;exact hk) nI
   have DH:=DF hd h1 h2 k1 k2 hm
   rw[Z2] at DH⊢
   refine iG _ _ _ _ _ _ (fun u hu=>sn ?_ hu) DH
   rw[dH _ _ _ _ e2]
   show az (d2+1) (s.env g1)=_
   rw[ha];rfl
  ·rw[dH _ _ _ _ e1] at hb
   have hb':=lq.NG (r:=d1+1) (show lq w2 (az (d1+1) (s.env g2)) from hb)
   refine so hb' (sn (by rw[dH _ _ _ _ e2];exact ha) ?_)
   rw[Z2,si (s.set d2 (.tuple [])).env s.env _ _ _ _ (fun x hx=>by rw[bT (bU h2 hx)];exact⟨rfl,rfl,rfl⟩)]
   refine iG _ _ _ _ _ _ (fun u hu=> ?_) nI
   subst hu
   rw[set_comm _ _ _ hd] at hk
   rw[aa3]
   exact hk
 ·rcases u7 h with ⟨hb,hk⟩|⟨hb,hk⟩
  ·rw[dH _ _ _ _ e1] at hb
   refine sn hb ?_
   rw[Z2,si (s.set d1 (.tuple [])).env s.env _ _ _ _ (fun x hx=>by rw[bT (bU h1 hx)];exact⟨rfl,rfl,rfl⟩)] at hk
   rw[Z2]
   refine iG _ _ _ _ _ _ (fun u hu=>so ?_ ?_) hk
   ·rw[dH _ _ _ _ e2]
    exact ha.az (d2+1)
   ·rw[aa3,set_comm _ _ _ hd] at hu
    exact hu
  ·rw[dH _ _ _ _ e1] at hb
   refine so hb (so (by rw[dH _ _ _ _ e2];exact ha) ?_)
   rw[set_comm _ _ _ (Ne.symm hd)]
   exact hk
def jP:ai→ai→Bool
 |.t a,.t b=>a==b
 |_,_=>false
theorem lu{x y:ai}(h:jP x y=true):x=y:=by cases x<;>cases y<;>simp[jP] at h<;>first|(rw[h];done)|skip
def aay(s:St):Prop:=∃n,∀b,n≤b→s.loc b=none
theorem aay.set{s:St}(h:aay s)(d:Nat)(x:AV):aay (s.set d x):=h
theorem aay.aB{s:St}(h:aay s)(r:Nat):aay (s.aB r):=by
 obtain⟨n,h⟩:=h
 exact⟨n,fun b hb=>by simp only[St.aB,h b hb,Option.map_none]⟩
theorem aay.new{s:St}(h:aay s)(b:Nat)(cs:List AV):aay (s.new b cs):=by
 obtain⟨n,h⟩:=h
 refine⟨max n (b+1),fun b' hb=> ?_⟩
 have h1:n≤b':=Nat.le_trans (Nat.le_max_left ..) hb
 have h2:b+1≤b':=Nat.le_trans (Nat.le_max_right ..) hb
 simp only[St.new]
 rw[Z5 _ _ (by omega)]
 exact h b' h1
theorem aay.DI{s:St}(h:aay s)(b:Nat):∃b',b'≠b∧s.loc b'=none:=by
 obtain⟨n,h⟩:=h
 refine⟨max n (b+1),?_,h _ (Nat.le_max_left ..)⟩
 have:b+1≤max n (b+1):=Nat.le_max_right ..
 omega
theorem DJ(s:St){b1 b2:Nat}(c1 c2:List AV)(h:b1≠b2):(s.new b1 c1).new b2 c2=(s.new b2 c2).new b1 c1:=by simp only[St.new];rw[p0 _ _ _ h]
theorem jQ{s:St}{x y:AV}{n:Nat}{K:St→Prop}:gI s x y n 0 K↔∃b off cs,x=.aj b off∧s.loc b=some cs∧off+n≤cs.length∧y.cells.length=n∧y.cells.all AV.bE=true∧K (s.new b (splice cs off (y.cells.map AV.erase0))):=by
 unfold gI
 cases x with
 |aj b off=>
  simp only
  cases hb:s.loc b with
  |none=>
   simp only[false_iff]
   rintro⟨b',off',cs,e,h,_⟩
   injection e with e1 e2
   subst e1
   rw[hb] at h;cases h
  |some cs=>
   simp only
   constructor
   ·rintro⟨h1,h2,h3,h4⟩
    refine⟨b,off,cs,rfl,hb,h1,h2,h3,?_⟩
    cases y<;>first|exact h4|skip
    simpa[AV.cells,AV.erase0] using h4
   ·rintro⟨b',off',cs',e,h,h1,h2,h3,h4⟩
    injection e with e1 e2
    subst e1 e2
    rw[hb] at h;injection h with h;subst h
    refine⟨h1,h2,h3,?_⟩
    cases y<;>first|exact h4|skip
    simpa[AV.cells,AV.erase0] using h4
 |_=>simp
theorem DK{s:St}{x y:AV}{n:Nat}{K K':St→Prop}(h:∀b cs,K (s.new b cs)→K' (s.new b cs))(hv:gI s x y n 0 K):gI s x y n 0 K':=by
 obtain⟨b,off,cs,h1,h2,h3,h4,h5,h6⟩:=jQ.1 hv
 exact jQ.2 ⟨b,off,cs,h1,h2,h3,h4,h5,h _ _ h6⟩
theorem NI{d n:Nat}{z:List AV}{zs:List ai}{x x':ai}(h1:bx d (x::x'::zs)=true){s:St}{K:St→Prop}(hf:aay s)(h:Z2 P (.alloc d z) s (fun s1=>Z2 P (.apart zs x (.store x x' n 0)) s1 K)):Z2 P (.apart zs x (.store x x' n 0)) s (fun s1=>Z2 P (.alloc d z) s1 K):=by
 have ex:∀b,x.ev ((s.new b z).set d (.aj b 0)).env=x.ev s.env:=fun b=>bT (s:=s.new b z) (bU h1 (by simp))
 have ex':∀b,x'.ev ((s.new b z).set d (.aj b 0)).env=x'.ev s.env:=fun b=>bT (s:=s.new b z) (bU h1 (by simp))
 have ez:∀b,∀w∈zs,w.ev ((s.new b z).set d (.aj b 0)).env=w.ev s.env:=fun b w hw=>bT (s:=s.new b z) (bU h1 (by simp[hw]))
 have hh:∀b0,s.loc b0=none→(∀w∈zs,abK (w.ev s.env) (x.ev s.env))∧gI ((s.new b0 z).set d (.aj b0 0)) (x.ev s.env) (x'.ev s.env) n 0 K:=by
  intro b0 hb0
  obtain⟨g1,g2⟩:=h b0 hb0
  rw[Z2,ex,ex'] at g2
  refine⟨fun w hw=> ?_,g2⟩
  have:=g1 w hw
  rw[ez b0 w hw,ex] at this
  exact this
 obtain⟨b0,_,hb0⟩:=hf.DI 0
 obtain⟨hap,hs0⟩:=hh b0 hb0
 obtain⟨b,off,_,hx,_,_⟩:=jQ.1 hs0
 obtain⟨b1,hne,dc⟩:=hf.DI b
 obtain⟨b',off',cs,hx',hl,g1,g2,g3,_⟩:=jQ.1 (hh b1 dc).2
 rw[hx] at hx';injection hx' with e1 e2;subst e1 e2
 have hl:s.loc b=some cs:=by
  simp only[St.set,St.new] at hl
  rw[Z5 _ _ (Ne.symm hne)] at hl
  exact hl
 refine⟨hap,?_⟩
 rw[Z2]
 refine jQ.2 ⟨b,off,cs,hx,hl,g1,g2,g3,?_⟩
 intro b2 cF
 have yf:b2≠b:=by intro e;subst e;simp[St.new,ak] at cF
 have NJ:s.loc b2=none:=by
  simp only[St.new] at cF
  rw[Z5 _ _ yf] at cF
  exact cF
 obtain⟨b',off',cs',hx',hl',_,_,_,hk⟩:=jQ.1 (hh b2 NJ).2
 rw[hx] at hx';injection hx' with e1 e2;subst e1 e2
 have hl':s.loc b=some cs':=by
  simp only[St.set,St.new] at hl'
  rw[Z5 _ _ (Ne.symm yf)] at hl'
  exact hl'
 rw[hl] at hl';injection hl' with e;subst e
 rw[u0,DJ _ _ _ yf] at hk
 exact hk
theorem NK{n1 n2:Nat}{DL zs2:List ai}{x1 y1 x2 y2:ai}(hz:x1∈zs2){s:St}{K:St→Prop}(h:Z2 P (.apart DL x1 (.store x1 y1 n1 0)) s (fun s1=>Z2 P (.apart zs2 x2 (.store x2 y2 n2 0)) s1 K)):Z2 P (.apart zs2 x2 (.store x2 y2 n2 0)) s (fun s1=>Z2 P (.apart DL x1 (.store x1 y1 n1 0)) s1 K):=by
 obtain⟨nF,h⟩:=h
 rw[Z2] at h
 obtain⟨b1,o1,c1,hx1,jd,g1,g2,g3,jN,h⟩:=jQ.1 h
 rw[Z2] at h
 obtain⟨b2,o2,c2,ef,gu,k1,k2,k3,hk⟩:=jQ.1 h
 have eC:∀b cs,(s.new b cs).env=s.env:=fun _ _=>rfl
 rw[eC] at ef k2 k3 hk
 have hne:b1≠b2:=by
  have:=jN x1 hz
  rw[eC,hx1,ef] at this
  exact this
 have NL:s.loc b2=some c2:=by
  simp only[St.new] at gu
  rw[Z5 _ _ (Ne.symm hne)] at gu
  exact gu
 refine⟨fun z fX=>jN z fX,?_⟩
 rw[Z2]
 refine jQ.2 ⟨b2,o2,c2,ef,NL,k1,k2,k3,nF,?_⟩
 rw[Z2]
 refine jQ.2 ⟨b1,o1,c1,hx1,?_,g1,g2,g3,?_⟩
 ·simp only[St.new]
  rw[Z5 _ _ hne]
  exact jd
 ·rw[eC,DJ _ _ _ (Ne.symm hne)]
  exact hk
theorem NM{i:au}{di n:Nat}{ri zs:List ai}{x x':ai}(hi:dI i=some (di,ri))(h1:bx di (x::x'::zs)=true)(hz:∀z∈aa2 i,z∈zs){s:St}{K:St→Prop}(h:Z2 P (.apart zs x (.store x x' n 0)) s (fun s1=>Z2 P i s1 K)):Z2 P i s (fun s1=>Z2 P (.apart zs x (.store x x' n 0)) s1 K):=by
 obtain⟨ha,h⟩:=h
 rw[Z2] at h
 obtain⟨b,off,cs,hx,hl,g1,g2,g3,hk⟩:=jQ.1 h
 rw[dM P i di ri hi] at hk⊢
 have e:pv P (fun x=>x.ev s.env) s.loc i=pv P (fun x=>x.ev s.env) (s.new b (splice cs off ((x'.ev s.env).cells.map AV.erase0))).loc i:=by
  funext K'
  refine Dx P (fun x=>x.ev s.env) s.loc _ i (fun z fX b' o jg=> ?_) K'
  have:=ha z (hz z fX)
  rw[jg,hx] at this
  simp only[St.new]
  rw[Z5 _ _ this]
 rw[e]
 refine gN P _ _ i _ _ (fun v hv=> ?_) hk
 refine⟨fun z fX=> ?_,?_⟩
 ·rw[bT (bU h1 (by simp[fX])),bT (bU h1 (by simp))]
  exact ha z fX
 ·rw[Z2,bT (bU h1 (by simp)),bT (bU h1 (by simp))]
  exact jQ.2 ⟨b,off,cs,hx,hl,g1,g2,g3,hv⟩
def acq(xs:List ai):Bool:=xs.all fun|.t n=>decide (n<gS)|.c _=>true
theorem u9{xs:List ai}(h:acq xs=true)(b:Nat):bx (oS+b) xs=true:=by
 unfold bx
 rw[List.all_eq_true]
 intro x hx
 have:=(List.all_eq_true.1 h) x hx
 cases x with
 |t n=>
  have hn:n<gS:=by simpa using this
  have:(n==oS+b)=false:=by have:gS<oS:=by simp[gS,oS]
                           simp;omega
  simp[sg,this]
 |c y=>rfl
theorem DM{k v:AV}:∀{es:List (List AV)} {i j:Nat},Z8 k es i=some (some j)→dj k k=some true→Z8 k (es.set (j - i) [k,v]) i=some (some j)
 |[],_,_,h,_=>by simp[Z8] at h
 |e::es,i,j,h,hk=>by
  simp only[Z8] at h
  split at h
  ·injection h with h;injection h with h;subst h
   rw[Nat.sub_self,List.set_cons_zero]
   simp[Z8,hk]
  ·rename_i hq
   have ih:=DM (v:=v) h hk
   have hij:i+1≤j:=by
    have:∀{es:List (List AV)} {i j:Nat},Z8 k es i=some (some j)→i≤j:=by
     intro es
     induction es with
     |nil=>intro i j h;simp[Z8] at h
     |cons e es ih=>
      intro i j h
      simp only[Z8] at h
      split at h
      ·injection h with h;injection h with h;omega
      ·have:=ih h;omega
      ·cases h
    exact this h
   rw[show j - i=(j - (i+1))+1 by omega,List.set_cons_succ]
   simp only[Z8,hq]
   exact ih
  ·cases h
theorem DN{k v:AV}:∀{es:List (List AV)} {i:Nat},Z8 k es i=some none→dj k k=some true→Z8 k (es++[[k,v]]) i=some (some (i+es.length))
 |[],i,_,hk=>by simp[Z8,hk]
 |e::es,i,h,hk=>by
  simp only[Z8] at h
  split at h
  ·injection h with h;cases h
  ·rename_i hq
   have ih:=DN (v:=v) h hk
   simp only[List.cons_append,Z8,hq,List.length_cons]
   rw[ih];congr 2;omega
  ·cases h
theorem DO{k:AV}:∀{es:List (List AV)} {i j:Nat},Z8 k es i=some (some j)→j<i+es.length
 |[],_,_,h=>by simp[Z8] at h
 |e::es,i,j,h=>by
  simp only[Z8] at h
  split at h
  ·injection h with h;injection h with h;simp;omega
  ·have:=DO h;simp at this⊢;omega
  ·cases h
theorem sr{s:St}{d b:Nat}{v:AV}(h:d<gS):(s.set d v).env (oS+b)=s.env (oS+b):=by
 have:gS<oS:=by simp[gS,oS]
 simp only[St.set]
 exact Z5 _ _ (by omega)
theorem NN{y:au}{dy di:Nat}{ry:List ai}{x k:ai}{n:Option Nat}{z:AV}(hy:dI y=some (dy,ry))(hd:dy≠di)(h1:bx dy [x,k]=true)(h2:bx di ry=true)(hl:acq ry=true)(jh:dy<gS){s:St}{K:St→Prop}(h:Z2 P y s (fun s1=>Z2 P (.gH di x k n z) s1 K)):Z2 P (.gH di x k n z) s (fun s1=>Z2 P y s1 K):=by
 rw[dM P y dy ry hy] at h
 obtain⟨v,hv,hk⟩:=mo P _ _ y _ h
 simp only[Z2] at hk⊢
 rw[bT (bU h1 (x:=x) (by simp)),bT (bU h1 (x:=k) (by simp))] at hk
 have hb0:gS<oS:=by simp[gS,oS]
 split at hk
 ·rename_i b e1
  obtain⟨es,he,hok,hkk,hk⟩:=hk
  rw[sr jh] at he
  refine⟨es,he,hok,hkk,?_⟩
  have fin:∀M T,K (((s.set dy v).set (oS+b) M).set di T)→Z2 P y ((s.set (oS+b) M).set di T) K:=by
   intro M T hK
   rw[dM P y dy ry hy]
   have h4:=mu (P:=P) hy (d:=di) h2 (s:=s.set (oS+b) M) (w:=T) (mu (P:=P) hy (d:=oS+b) (u9 hl b) (s:=s) (w:=M) hv)
   refine gN P _ _ y _ _ (fun w hw=> ?_) h4
   subst hw
   rw[set_comm s w M (show dy≠oS+b by omega),set_comm _ w T hd] at hK
   exact hK
  split at hk
  ·exact fin _ _ hk
  ·exact fin _ _ hk
  ·exact hk.elim
 ·exact hk.elim
theorem NO{i:au}{d1 di:Nat}{ri:List ai}{x k:ai}{n:Option Nat}{z:AV}(hi:dI i=some (di,ri))(hd:d1≠di)(h1:bx d1 ri=true)(h2:bx di [x,k]=true)(jh:di<gS){s:St}{K:St→Prop}(h:Z2 P (.lookup d1 x k n false z) s (fun s1=>Z2 P i s1 K)):Z2 P i s (fun s1=>Z2 P (.lookup d1 x k n false z) s1 K):=by
 rw[dM P i di ri hi]
 simp only[Z2,Bool.false_eq_true,if_false] at h
 have fin:∀u,Z2 P i (s.set d1 u) K→(∀v,K ((s.set d1 u).set di v)→Z2 P (.lookup d1 x k n false z) (s.set di v) K)→pv P (fun x=>x.ev s.env) s.loc i fun v=>Z2 P (.lookup d1 x k n false z) (s.set di v) K:=by
  intro u hk hf
  rw[dM P i di ri hi,aco P (fun x=>x.ev (s.set d1 u).env) (fun x=>x.ev s.env) _ i di ri hi (fun x hx=>bT (bU h1 hx))] at hk
  exact gN P _ _ i _ _ (fun v hv=>hf v hv) hk
 split at h
 ·rename_i b e1
  obtain⟨es,he,hok,h⟩:=h
  have back:∀(v:AV),(x.ev (s.set di v).env=.aZ b)∧(s.set di v).env (oS+b)=a_ es∧(k.ev (s.set di v).env).erase=(k.ev s.env).erase:=fun v=>⟨by rw[bT (bU h2 (x:=x) (by simp))];exact e1,by rw[sr jh];exact he,by rw[bT (bU h2 (x:=k) (by simp))]⟩
  split at h
  ·rename_i j hka
   refine fin _ h fun v hv=> ?_
   obtain⟨b1,b2,b3⟩:=back v
   simp only[Z2,b1,b3]
   refine⟨es,b2,hok,?_⟩
   rw[hka]
   simp only[Bool.false_eq_true,if_false]
   rw[set_comm _ _ _ hd] at hv
   exact hv
  ·rename_i hka
   refine fin _ h fun v hv=> ?_
   obtain⟨b1,b2,b3⟩:=back v
   simp only[Z2,b1,b3]
   refine⟨es,b2,hok,?_⟩
   rw[hka]
   simp only[Bool.false_eq_true,if_false]
   rw[set_comm _ _ _ hd] at hv
   exact hv
  ·exact h.elim
 ·rename_i es e1
  obtain⟨hok,h⟩:=h
  have back:∀(v:AV),(x.ev (s.set di v).env=.fmap es)∧(k.ev (s.set di v).env).erase=(k.ev s.env).erase:=fun v=>⟨by rw[bT (bU h2 (x:=x) (by simp))];exact e1,by rw[bT (bU h2 (x:=k) (by simp))]⟩
  split at h
  ·rename_i j hka
   refine fin _ h fun v hv=> ?_
   obtain⟨b1,b3⟩:=back v
   simp only[Z2,b1,b3]
   refine⟨hok,?_⟩
   rw[hka]
   simp only[Bool.false_eq_true,if_false]
   rw[set_comm _ _ _ hd] at hv
   exact hv
  ·rename_i hka
   refine fin _ h fun v hv=> ?_
   obtain⟨b1,b3⟩:=back v
   simp only[Z2,b1,b3]
   refine⟨hok,?_⟩
   rw[hka]
   simp only[Bool.false_eq_true,if_false]
   rw[set_comm _ _ _ hd] at hv
   exact hv
  ·exact h.elim
 ·exact h.elim
theorem NP{d1 d2:Nat}{x k:ai}{n:Option Nat}{z:AV}{c:List AV}(hd:d1≠d2)(h2:bx d2 [x,k]=true)(hl:d2<gS){s:St}{K:St→Prop}(h:Z2 P (.lookup d1 x k n false z) s (fun s1=>Z2 P (.alloc d2 c) s1 K)):Z2 P (.alloc d2 c) s (fun s1=>Z2 P (.lookup d1 x k n false z) s1 K):=by
 intro b hb
 have ex:x.ev ((s.new b c).set d2 (.aj b 0)).env=x.ev s.env:=bT (s:=s.new b c) (bU h2 (x:=x) (by simp))
 have ek:k.ev ((s.new b c).set d2 (.aj b 0)).env=k.ev s.env:=bT (s:=s.new b c) (bU h2 (x:=k) (by simp))
 have eo:∀b',((s.new b c).set d2 (.aj b 0)).env (oS+b')=s.env (oS+b'):=fun b'=>sr (s:=s.new b c) hl
 have fin:∀u,Z2 P (.alloc d2 c) (s.set d1 u) K→K (((s.new b c).set d2 (.aj b 0)).set d1 u):=fun u hu=>by
  have:=hu b hb
  rw[u0,set_comm _ u _ hd] at this
  exact this
 simp only[Z2,Bool.false_eq_true,if_false] at h
 show Z2 P (.lookup d1 x k n false z) _ K
 simp only[Z2,ex,ek,eo,Bool.false_eq_true,if_false]
 split at h
 ·rename_i b' e1
  obtain⟨es,he,hok,h⟩:=h
  refine⟨es,he,hok,?_⟩
  split at h
  ·exact fin _ h
  ·exact fin _ h
  ·exact h.elim
 ·obtain⟨hok,h⟩:=h
  refine⟨hok,?_⟩
  split at h
  ·exact fin _ h
  ·exact fin _ h
  ·exact h.elim
 ·exact h.elim
theorem adH{es es':List (List AV)}(h:a_ es=a_ es'):es=es':=by unfold a_ at h;injection h
theorem NR{d1 d2:Nat}{x k:ai}{n n':Option Nat}{z:AV}(hd:d1≠d2)(h1:bx d1 [x,k]=true)(h2:bx d2 [x,k]=true)(hl:acq [x,k]=true)(hd1:d1<gS)(er:d2<gS){s:St}{K:St→Prop}(h:Z2 P (.lookup d1 x k n false z) s (fun s1=>Z2 P (.gH d2 x k n' z) s1 K)):Z2 P (.gH d2 x k n' z) s (fun s1=>Z2 P (.lookup d1 x k n false z) s1 K):=by
 have hb0:gS<oS:=by simp[gS,oS]
 simp only[Z2,Bool.false_eq_true,if_false] at h⊢
 split at h
 ·rename_i b e1
  obtain⟨es,he,hok,h⟩:=h
  rw[e1]
  have ex:∀v w M,x.ev (((s.set (oS+b) M).set d2 w).set d1 v).env=.aZ b:=fun v w M=>by rw[bT (bU h1 (x:=x) (by simp)),bT (bU h2 (x:=x) (by simp)),bT (bU (u9 hl b) (x:=x) (by simp))];exact e1
  have NS:∀w M,x.ev ((s.set (oS+b) M).set d2 w).env=.aZ b:=fun w M=>by rw[bT (bU h2 (x:=x) (by simp)),bT (bU (u9 hl b) (x:=x) (by simp))];exact e1
  have NT:∀w M,k.ev ((s.set (oS+b) M).set d2 w).env=k.ev s.env:=fun w M=>by rw[bT (bU h2 (x:=k) (by simp)),bT (bU (u9 hl b) (x:=k) (by simp))]
  have NU:∀w M,((s.set (oS+b) M).set d2 w).env (oS+b)=M:=fun w M=>by rw[sr er];exact cI _ _ _
  have inner:∀u,Z2 P (.gH d2 x k n' z) (s.set d1 u) K→eL n' (k.ev s.env).erase∧dj (k.ev s.env).erase (k.ev s.env).erase=some true∧(∀i,Z8 (k.ev s.env).erase es 0=some (some i)→K (((s.set d1 u).set (oS+b) (a_ (es.set i [(k.ev s.env).erase,(es.getD i []).getD 1 .any]))).set d2 (.tuple [(es.getD i []).getD 1 .any,.lit (.int .i64 i)])))∧(Z8 (k.ev s.env).erase es 0=some none→K (((s.set d1 u).set (oS+b) (a_ (es++[[(k.ev s.env).erase,z]]))).set d2 (.tuple [z,.lit (.int .i64 es.length)]))):=by
   intro u hu
   simp only[Z2] at hu
   rw[bT (bU h1 (x:=x) (by simp)),bT (bU h1 (x:=k) (by simp)),e1] at hu
   obtain⟨kj,DP,NV,hkk,hu⟩:=hu
   rw[sr hd1,he] at DP
   have:=adH DP
   subst this
   refine⟨NV,hkk,fun i hi=> ?_,fun hi=> ?_⟩
   ·rw[hi] at hu;exact hu
   ·rw[hi] at hu;exact hu
  have out:∀(es':List (List AV)) (T u:AV) (i:Nat),K (((s.set d1 u).set (oS+b) (a_ es')).set d2 T)→Z8 (k.ev s.env).erase es' 0=some (some i)→((es'.getD i []).getD 1 .any).erase=u→Z2 P (.lookup d1 x k n false z) ((s.set (oS+b) (a_ es')).set d2 T) K:=by
   intro es' T u i hK hka hu
   simp only[Z2,NS,NT,NU]
   refine⟨es',rfl,hok,?_⟩
   rw[hka]
   simp only[Bool.false_eq_true,if_false,hu]
   rw[set_comm s u _ (show d1≠oS+b by omega),set_comm _ u T hd] at hK
   exact hK
  split at h
  ·rename_i i hka
   obtain⟨g1,g2,g3,-⟩:=inner _ h
   have hlt:=DO hka
   refine⟨es,he,g1,g2,?_⟩
   rw[hka]
   refine out _ _ _ i (g3 i hka) (by have:=DM (v:=(es.getD i []).getD 1 .any) hka g2;simpa using this) ?_
   simp only[List.getD_eq_getElem?_getD,List.getElem?_set_self (show i<es.length by omega)]
   rfl
  ·rename_i hka
   obtain⟨g1,g2,-,g4⟩:=inner _ h
   refine⟨es,he,g1,g2,?_⟩
   rw[hka]
   refine out _ _ _ es.length (g4 hka) (by have:=DN (v:=z) hka g2;simpa using this) ?_
   simp
  ·exact h.elim
 ·rename_i es e1
  obtain⟨hok,h⟩:=h
  have no:∀u,¬Z2 P (.gH d2 x k n' z) (s.set d1 u) K:=by
   intro u hu
   simp only[Z2] at hu
   rw[bT (bU h1 (x:=x) (by simp)),e1] at hu
   exact hu
  split at h
  ·exact absurd h (no _)
  ·exact absurd h (no _)
  ·exact h.elim
 ·exact h.elim
theorem yg{d:Nat}{x k:ai}{n:Option Nat}{ok:Bool}{z:AV}{s:St}{K K':St→Prop}(hf:aay s)(hk:∀s,aay s→K s→K' s)(h:Z2 P (.lookup d x k n ok z) s K):Z2 P (.lookup d x k n ok z) s K':=by
 simp only[Z2] at h⊢
 split at h
 ·obtain⟨es,h1,h2,h3⟩:=h
  refine⟨es,h1,h2,?_⟩
  split at h3
  ·exact hk _ (hf.set _ _) h3
  ·exact hk _ (hf.set _ _) h3
  ·exact h3.elim
 ·obtain⟨h2,h3⟩:=h
  refine⟨h2,?_⟩
  split at h3
  ·exact hk _ (hf.set _ _) h3
  ·exact hk _ (hf.set _ _) h3
  ·exact h3.elim
 ·exact h.elim
def yh:AV→AV→Bool
 |.lit (.int k a),.lit (.int k' b)=>k==k'&&a==b
 |_,_=>false
theorem NW{x y:AV}(h:yh x y=true):x=y:=by
 unfold yh at h
 split at h
 ·simp only[Bool.and_eq_true,beq_iff_eq] at h
  rw[h.1,h.2]
 ·cases h
theorem NX{d1 d2 gv b_ DQ sk:Nat}{n1 c1 n2 c2:ai}{z1 z2:List AV}(hd:d1≠d2)(h1:bx d1 [n2,c2]=true)(h2:bx d2 [n1,c1]=true){s:St}{K:St→Prop}(hf:aay s)(h:Z2 P (.dL d1 n1 c1 gv DQ z1) s (fun s1=>Z2 P (.dL d2 n2 c2 b_ sk z2) s1 K)):Z2 P (.dL d2 n2 c2 b_ sk z2) s (fun s1=>Z2 P (.dL d1 n1 c1 gv DQ z1) s1 K):=by
 have f1:∀(b:Nat) (zs:List AV) (v:AV),n2.ev ((s.new b zs).set d1 v).env=n2.ev s.env∧c2.ev ((s.new b zs).set d1 v).env=c2.ev s.env:=fun b zs v=>⟨bT (s:=s.new b zs) (bU h1 (by simp)),bT (s:=s.new b zs) (bU h1 (by simp))⟩
 have f2:∀(b:Nat) (zs:List AV) (v:AV),n1.ev ((s.new b zs).set d2 v).env=n1.ev s.env∧c1.ev ((s.new b zs).set d2 v).env=c1.ev s.env:=fun b zs v=>⟨bT (s:=s.new b zs) (bU h2 (by simp)),bT (s:=s.new b zs) (bU h2 (by simp))⟩
 obtain⟨b0,hb0⟩:∃b,s.loc b=none:=by
  obtain⟨m,hm⟩:=hf
  exact⟨m,hm m (Nat.le_refl _)⟩
 simp only[Z2] at h⊢
 split at h
 ·rename_i i j e1 e2
  obtain⟨g1,g2,g3,g4,g5,h⟩:=h
  simp only[(f1 _ _ _).1,(f1 _ _ _).2] at h
  split
  ·rename_i i' j' e3 e4
   have h':=fun b hb=>h b hb
   simp only[e3,e4] at h'
   obtain⟨k1,k2,k3,k4,k5,_⟩:=h' b0 hb0
   refine⟨k1,k2,k3,k4,k5,fun b2 cF=> ?_⟩
   simp only[(f2 _ _ _).1,(f2 _ _ _).2,e1,e2]
   refine⟨g1,g2,g3,g4,g5,fun b1 dc=> ?_⟩
   simp only[St.set,St.new] at dc
   by_cases e:b1=b2
   ·subst e;simp[ak] at dc
   ·rw[Z5 _ _ e] at dc
    have:=(h' b1 dc).2.2.2.2.2 b2 (by simp only[St.set,St.new];rw[Z5 _ _ (Ne.symm e)];exact cF)
    simp only[St.set,St.new] at this⊢
    rw[p0 _ _ _ (Ne.symm hd),p0 _ _ _ (Ne.symm e)]
    exact this
  ·rename_i hno
   have:=h b0 hb0
   split at this
   ·rename_i i' j' e3 e4
    exact(hno _ _ e3 e4).elim
   ·exact this.elim
 ·exact h.elim
theorem NY{i:au}{d1 di:Nat}{f:FuncId}{xs ri:List ai}(hi:dI i=some (di,ri))(hd:d1≠di)(h1:bx d1 ri=true)(h2:bx di xs=true){s:St}{K:St→Prop}(h:Z2 P (.aaD d1 f xs) s (fun s1=>Z2 P i s1 K)):Z2 P i s (fun s1=>Z2 P (.aaD d1 f xs) s1 K):=by
 obtain⟨ys,r,hv,ho,hp,hk⟩:=h
 rw[dM P i di ri hi,aco P (fun x=>x.ev (s.set d1 r).env) (fun x=>x.ev s.env) _ i di ri hi (fun x hx=>bT (bU h1 hx))] at hk
 rw[dM P i di ri hi]
 refine gN P _ _ i _ _ (fun u hu=> ?_) hk
 have e:xs.map (fun x=>(x.ev (s.set di u).env).erase)=xs.map (fun x=>(x.ev s.env).erase):=List.map_congr_left fun x hx=>by rw[bT (bU h2 hx)]
 refine⟨ys,r,by rw[e];exact hv,ho,hp,?_⟩
 rw[set_comm s u r (Ne.symm hd)]
 exact hu
theorem NZ{d1 d2:Nat}{f g:FuncId}{xs zs:List ai}(hd:d1≠d2)(h1:bx d1 zs=true)(h2:bx d2 xs=true){s:St}{K:St→Prop}(h:Z2 P (.aaD d1 f xs) s (fun s1=>Z2 P (.aaD d2 g zs) s1 K)):Z2 P (.aaD d2 g zs) s (fun s1=>Z2 P (.aaD d1 f xs) s1 K):=by
 obtain⟨ys,r,hv,ho,hp,N0,r2,hv2,je,N1,hk⟩:=h
 have e1:zs.map (fun x=>(x.ev (s.set d1 r).env).erase)=zs.map (fun x=>(x.ev s.env).erase):=List.map_congr_left fun x hx=>by rw[bT (bU h1 hx)]
 have e2:xs.map (fun x=>(x.ev (s.set d2 r2).env).erase)=xs.map (fun x=>(x.ev s.env).erase):=List.map_congr_left fun x hx=>by rw[bT (bU h2 hx)]
 refine⟨N0,r2,by rw[←e1];exact hv2,je,N1,ys,r,by rw[e2];exact hv,ho,hp,?_⟩
 rw[set_comm s r2 r (Ne.symm hd)]
 exact hk
def mw(y i:au):Bool:=
 match dI y with
 |some (dy,ry)=>match dI i with
  |some (di,ri)=>dy != di&&bx dy ri&&bx di ry
  |none=>match i with
   |.alloc di _=>dy != di&&bx di ry
   |.aM di _ _ _ ps=>dy != di&&bx dy (ps.map (·.2))&&bx di ry&&dS ry
   |.app di x x' _ _=>dy != di&&bx dy [x,x']&&bx di ry&&dS ry
   |.dL di x u _ _ _=>dy != di&&bx dy [x,u]&&bx di ry
   |.i_ di x u m _=>dy != di&&bx dy [x,u,m]&&bx di ry&&dS ry
   |.guard g _ (some d) (.aM di _ _ _ ps)=>d==di&&dy != di&&bx dy (.t g::ps.map (·.2))&&bx di ry&&dS ry
   |.apart zs x (.store x1 x' _ _)=>jP x x1&&bx dy (x::x'::zs)&&dS ry&&(aa2 y).all fun z=>zs.any (jP z)
   |.gH di x k _ _=>dy != di&&bx dy [x,k]&&bx di ry&&acq ry&&decide (dy<gS)
   |_=>false
 |none=>match y,i with
  |.alloc d1 _,.alloc d2 _=>d1 != d2
  |.alloc d1 _,.apart zs x (.store x1 x' _ o2)=>o2==0&&jP x x1&&bx d1 (x::x'::zs)
  |.apart _ x (.store x1 _ _ o1),.apart zs x2 (.store x3 _ _ o2)=>o1==0&&o2==0&&jP x x1&&jP x2 x3&&zs.any (jP x)
  |.apart zs x (.store x1 x' _ o1),m=>o1==0&&jP x x1&&match dI m with
   |some (di,_)=>bx di (x::x'::zs)&&(aa2 m).all fun z=>zs.any (jP z)
   |none=>false
  |.aM d1 _ _ _ p1,.aM d2 _ _ _ p2=>d1 != d2&&bx d1 (p2.map (·.2))&&bx d2 (p1.map (·.2))&&dS (p1.map (·.2))&&dS (p2.map (·.2))
  |.guard g1 _ (some c1) (.aM d1 _ _ _ p1),.guard g2 _ (some c2) (.aM d2 _ _ _ p2)=>c1==d1&&c2==d2&&d1 != d2&&d1 != g2&&d2 != g1&&bx d1 (p2.map (·.2))&&bx d2 (p1.map (·.2))&&dS (p1.map (·.2))&&dS (p2.map (·.2))
  |.aM d1 _ _ _ p1,.app d2 x x' _ _=>d1 != d2&&bx d1 [x,x']&&bx d2 (p1.map (·.2))&&dS (p1.map (·.2))&&dS [x,x']
  |.dL d1 n1 c1 _ _ _,.dL d2 n2 c2 _ _ _=>d1 != d2&&bx d1 [n2,c2]&&bx d2 [n1,c1]
  |.aM d1 _ _ _ p1,.i_ d2 x u m _=>d1 != d2&&bx d1 [x,u,m]&&bx d2 (p1.map (·.2))&&dS (p1.map (·.2))&&dS [x,u,m]
  |.lookup d1 x k _ false z,.gH d2 x2 k2 _ z2=>jP x x2&&jP k k2&&yh z z2&&d1 != d2&&bx d1 [x,k]&&bx d2 [x,k]&&acq [x,k]&&decide (d1<gS)&&decide (d2<gS)
  |.aaD d1 _ xs,.aaD d2 _ zs=>d1 != d2&&bx d1 zs&&bx d2 xs
  |.aaD d1 _ xs,m=>match dI m with
   |some (di,ri)=>d1 != di&&bx d1 ri&&bx di xs
   |none=>false
  |.lookup d1 x k _ false _,.alloc d2 _=>d1 != d2&&bx d2 [x,k]&&decide (d2<gS)
  |.lookup d1 x k _ false _,m=>match dI m with
   |some (di,ri)=>d1 != di&&bx d1 ri&&bx di [x,k]&&decide (di<gS)
   |none=>false
  |_,_=>false
theorem N2{y i:au}(h:mw y i=true){s:St}{K:St→Prop}(hf:aay s)(hv:Z2 P y s (fun s1=>Z2 P i s1 K)):Z2 P i s (fun s1=>Z2 P y s1 K):=by
 unfold mw at h
 split at h
 ·rename_i dy ry hy
  split at h
  ·rename_i di ri hi
   simp only[Bool.and_eq_true,bne_iff_ne] at h
   exact Nt hy hi h.1.1 h.1.2 h.2 hv
  ·split at h
   ·simp only[Bool.and_eq_true,bne_iff_ne] at h
    exact Nu hy h.1 h.2 hv
   ·simp only[Bool.and_eq_true,bne_iff_ne] at h
    exact DA hy h.1.1.1 h.1.1.2 h.1.2 h.2 hv
   ·simp only[Bool.and_eq_true,bne_iff_ne] at h
    exact Nw hy h.1.1.1 h.1.1.2 h.1.2 h.2 hv
   ·simp only[Bool.and_eq_true,bne_iff_ne] at h
    exact NC hy h.1.1 h.1.2 h.2 hv
   ·simp only[Bool.and_eq_true,bne_iff_ne] at h
    exact adG hy h.1.1.1 h.1.1.2 h.1.2 h.2 hv
   ·simp only[Bool.and_eq_true,bne_iff_ne,beq_iff_eq] at h
    obtain⟨⟨⟨⟨rfl,g1⟩,g2⟩,g3⟩,g4⟩:=h
    exact NF hy g1 g2 g3 g4 hv
   ·rename_i zs x x1 x' n aP hni
    simp only[Bool.and_eq_true] at h
    obtain⟨⟨⟨h1,h2⟩,h3⟩,h4⟩:=h
    have e:=lu h1
    subst e
    refine Ny hy h2 h3 (fun z hz=> ?_) hv
    have:=(List.all_eq_true.1 h4) z hz
    obtain⟨w,hw,e⟩:=List.any_eq_true.1 this
    rw[lu e];exact hw
   ·simp only[Bool.and_eq_true,bne_iff_ne,decide_eq_true_eq] at h
    exact NN hy h.1.1.1.1 h.1.1.1.2 h.1.1.2 h.1.2 h.2 hv
   ·cases h
 ·split at h
  ·simp only[bne_iff_ne] at h
   exact Nv h hv
  ·simp only[Bool.and_eq_true,beq_iff_eq] at h
   obtain⟨⟨h1,h2⟩,h3⟩:=h
   have e:=lu h2
   subst e h1
   exact NI h3 hf hv
  ·simp only[Bool.and_eq_true,beq_iff_eq] at h
   obtain⟨⟨⟨⟨h1,h2⟩,h3⟩,h4⟩,h5⟩:=h
   have e:=lu h3
   have e':=lu h4
   subst e e' h1 h2
   obtain⟨w,hw,e⟩:=List.any_eq_true.1 h5
   rw[←lu e] at hw
   exact NK hw hv
  ·simp only[Bool.and_eq_true,beq_iff_eq] at h
   obtain⟨⟨h1,h2⟩,h3⟩:=h
   have e:=lu h2
   subst e h1
   split at h3
   ·rename_i di ri hi
    simp only[Bool.and_eq_true] at h3
    refine NM hi h3.1 (fun z hz=> ?_) hv
    obtain⟨w,hw,e⟩:=List.any_eq_true.1 ((List.all_eq_true.1 h3.2) z hz)
    rw[lu e];exact hw
   ·cases h3
  ·simp only[Bool.and_eq_true,bne_iff_ne] at h
   exact DF h.1.1.1.1 h.1.1.1.2 h.1.1.2 h.1.2 h.2 hv
  ·simp only[Bool.and_eq_true,bne_iff_ne,beq_iff_eq] at h
   obtain⟨⟨⟨⟨⟨⟨⟨⟨rfl,rfl⟩,g1⟩,g2⟩,g3⟩,g4⟩,g5⟩,g6⟩,g7⟩:=h
   exact NH g1 g2 g3 g4 g5 g6 g7 hv
  ·simp only[Bool.and_eq_true,bne_iff_ne] at h
   exact NB h.1.1.1.1 h.1.1.1.2 h.1.1.2 h.1.2 h.2 hv
  ·simp only[Bool.and_eq_true,bne_iff_ne] at h
   exact NX h.1.1 h.1.2 h.2 hf hv
  ·simp only[Bool.and_eq_true,bne_iff_ne] at h
   exact ND h.1.1.1.1 h.1.1.1.2 h.1.1.2 h.1.2 h.2 hv
  ·simp only[Bool.and_eq_true,bne_iff_ne,decide_eq_true_eq] at h
   obtain⟨⟨⟨⟨⟨⟨⟨⟨g1,g2⟩,g3⟩,g4⟩,g5⟩,g6⟩,g7⟩,g8⟩,g9⟩:=h
   have e1:=lu g1
   have e2:=lu g2
   have e3:=NW g3
   subst e1 e2 e3
   exact NR g4 g5 g6 g7 g8 g9 hv
  ·simp only[Bool.and_eq_true,bne_iff_ne] at h
   exact NZ h.1.1 h.1.2 h.2 hv
  ·split at h
   ·simp only[Bool.and_eq_true,bne_iff_ne] at h
    exact NY ‹_› h.1.1 h.1.2 h.2 hv
   ·cases h
  ·simp only[Bool.and_eq_true,bne_iff_ne,decide_eq_true_eq] at h
   exact NP h.1.1 h.1.2 h.2 hv
  ·split at h
   ·rename_i di ri hi
    simp only[Bool.and_eq_true,bne_iff_ne,decide_eq_true_eq] at h
    exact NO hi h.1.1.1 h.1.1.2 h.1.2 h.2 hv
   ·cases h
  ·cases h
theorem N3{y i:au}(h:mw y i=true){s:St}{K K':St→Prop}(hf:aay s)(hk:∀s,aay s→K s→K' s)(hv:Z2 P y s K):Z2 P y s K':=by
 unfold mw at h
 split at h
 ·rename_i dy ry hy
  rw[dM P y dy ry hy] at hv⊢
  exact gN P _ _ y _ _ (fun v=>hk _ (hf.set _ _)) hv
 ·split at h
  ·exact fun b hb=>hk _ ((hf.new _ _).set _ _) (hv b hb)
  ·exact fun b hb=>hk _ ((hf.new _ _).set _ _) (hv b hb)
  ·simp only[Bool.and_eq_true,beq_iff_eq] at h
   have e:=h.1.1.1.1
   subst e
   obtain⟨ha,hv⟩:=hv
   exact⟨ha,DK (fun b cs=>hk _ (hf.new _ _)) hv⟩
  ·simp only[Bool.and_eq_true,beq_iff_eq] at h
   have e:=h.1.1
   subst e
   obtain⟨ha,hv⟩:=hv
   exact⟨ha,DK (fun b cs=>hk _ (hf.new _ _)) hv⟩
  ·exact iG _ _ _ _ _ _ (fun v=>hk _ ((hf.aB _).set _ _)) hv
  ·simp only[Bool.and_eq_true,beq_iff_eq] at h
   rcases u7 hv with ⟨ha,hv⟩|⟨ha,hv⟩
   ·have e:=h.1.1.1.1.1.1.1.1
    subst e
    exact sn ha (iG _ _ _ _ _ _ (fun v=>hk _ ((hf.aB _).set _ _)) hv)
   ·exact so ha (hk _ (hf.set _ _) hv)
  ·exact iG _ _ _ _ _ _ (fun v=>hk _ ((hf.aB _).set _ _)) hv
  ·simp only[Z2] at hv⊢
   split at hv
   ·exact⟨hv.1,hv.2.1,hv.2.2.1,hv.2.2.2.1,hv.2.2.2.2.1,fun b hb=>hk _ ((hf.new _ _).set _ _) (hv.2.2.2.2.2 b hb)⟩
   ·exact hv.elim
  ·exact iG _ _ _ _ _ _ (fun v=>hk _ ((hf.aB _).set _ _)) hv
  ·exact yg hf hk hv
  ·obtain⟨ys,r,g1,g2,g3,g4⟩:=hv
   exact⟨ys,r,g1,g2,g3,hk _ (hf.set _ _) g4⟩
  ·obtain⟨ys,r,g1,g2,g3,g4⟩:=hv
   exact⟨ys,r,g1,g2,g3,hk _ (hf.set _ _) g4⟩
  ·exact yg hf hk hv
  ·exact yg hf hk hv
  ·cases h
theorem yj{i:au}{post:List au}{K:St→Prop}:∀(pre:List au),(∀y∈pre,mw y i=true)→∀s,aay s→vcs P (pre++i::post) K s→Z2 P i s (vcs P (pre++post) K)
 |[],_,s,_,h=>h
 |y::pre,hc,s,hf,h=>by
  have hy:=hc y (by simp)
  refine N2 hy hf (N3 hy hf (fun s1 N4 h1=> ?_) h)
  exact yj pre (fun z hz=>hc z (by simp[hz])) s1 N4 h1
inductive Reach (ops:Array Oper):Nat→Nat→Prop
 |one {i:Nat} {o:Oper} {e:Edge} (ho:ops[i]? =some o) (he:e∈o.after) (hb:Region.binds .any e=true):Reach ops i e.on
 |more {i y:Nat} {o:Oper} {e:Edge} (ho:ops[i]? =some o) (he:e∈o.after) (hb:Region.binds .any e=true) (h:Reach ops e.on y):Reach ops i y
def mz(bs:Array Nat):List (Nat×au)→Bool
 |[]=>true
 |(y,my)::rest=>(rest.all fun p=>(bs.getD p.1 0).testBit y||mw my p.2)&&mz bs rest
theorem DR(ops:Array Oper)(acc:Array Nat)(i:Nat)(o:Oper)(ho:ops[i]? =some o)(hacc:∀j y,(acc.getD j 0).testBit y=true→Reach ops j y):∀(es:List Edge),(∀e∈es,e∈o.after)→∀(s0:Nat),(∀y,s0.testBit y=true→Reach ops i y)→∀y,(es.foldl (fun s e=>if Region.binds .any e then s ||| 2^e.on ||| acc.getD e.on 0 else s) s0).testBit y=true→Reach ops i y
 |[],_,s0,h0,y,h=>h0 y h
 |e::es,oO,s0,h0,y,h=>by
  refine DR ops acc i o ho hacc es (fun e he=>oO e (List.mem_cons_of_mem _ he)) _ (fun z hz=> ?_) y h
  dsimp only at hz
  split at hz
  ·rename_i hb
   simp only[Nat.testBit_or,Bool.or_eq_true,Nat.testBit_two_pow,decide_eq_true_eq] at hz
   rcases hz with (hz|hz)|hz
   ·exact h0 z hz
   ·rw[←hz];exact .one ho (oO e (List.mem_cons_self ..)) hb
   ·exact .more ho (oO e (List.mem_cons_self ..)) hb (hacc _ _ hz)
  ·exact h0 z hz
theorem DS(ops:Array Oper):∀j y,((Region.before ops).getD j 0).testBit y=true→Reach ops j y:=by
 have key:∀(l:List Oper) (acc:Array Nat),(∀k,l[k]? =ops[acc.size+k]?)→(∀j y,(acc.getD j 0).testBit y=true→Reach ops j y)→∀j y,((l.foldl (fun(acc:Array Nat) o=>acc.push (o.after.foldl (fun s e=>if Region.binds .any e then s ||| 2^e.on ||| acc.getD e.on 0 else s) 0)) acc).getD j 0).testBit y=true→Reach ops j y:=by
  intro l
  induction l with
  |nil=>intro acc _ h;exact h
  |cons o l ih=>
   intro acc hl h
   have ho:ops[acc.size]? =some o:=by have:=hl 0;simpa using this.symm
   refine ih _ (fun k=> ?_) (fun j y hj=> ?_)
   ·have:=hl (k+1)
    rw[Array.size_push]
    simpa[Nat.add_assoc,Nat.add_comm 1 k] using this
   ·by_cases N5:j<acc.size
    ·refine h j y ?_
     simp only[Array.getD_eq_getD_getElem?,Array.getElem?_push] at hj⊢
     rw[if_neg (by omega)] at hj
     exact hj
    ·by_cases DT:j=acc.size
     ·subst DT
      have e1:∀M:Nat,(acc.push M).getD acc.size 0=M:=fun M=>by simp
      rw[e1,←Array.foldl_toList] at hj
      exact DR ops acc acc.size o ho h o.after.toList (fun e he=>by simpa using he) 0 (fun z hz=>by simp at hz) y hj
     ·simp only[Array.getD_eq_getD_getElem?,Array.getElem?_push] at hj
      rw[if_neg DT,Array.getElem?_eq_none (by omega)] at hj
      simp at hj
 intro j y h
 unfold Region.before at h
 rw[←Array.foldl_toList] at h
 exact key ops.toList #[] (fun k=>by simp) (fun j y hj=>by simp at hj) j y h
theorem DU{ops:Array Oper}{listed:Array Bool}(cw:∀i o,listed.getD i true=true→i<ops.size→ops[i]? =some o→o.after.all (fun e=> !Region.binds .any e||listed.getD e.on false)=true)(hls:listed.size=ops.size){i y:Nat}(h:Reach ops i y):∀o,ops[i]? =some o→o.after.all (fun e=> !Region.binds .any e||listed.getD e.on false)=true→listed.getD y false=true:=by
 induction h with
 |one ho he hb=>
  intro o ho' hall
  rw[ho] at ho';injection ho' with ho';subst ho'
  have hl:=(Array.all_eq_true_iff_forall_mem.1 hall) _ he
  simpa[hb] using hl
 | @more i y o e ho he hb h ih=>
   intro o' ho' hall
   rw[ho] at ho';injection ho' with ho';subst ho'
   have hl:=(Array.all_eq_true_iff_forall_mem.1 hall) _ he
   simp only[hb,Bool.not_true,Bool.false_or] at hl
   have hlt:e.on<listed.size:=by
    rcases Nat.lt_or_ge e.on listed.size with h3|h3
    ·exact h3
    ·simp[Array.getD_eq_getD_getElem?,Array.getElem?_eq_none h3] at hl
   have je:ops[e.on]? =some ops[e.on]:=Array.getElem?_eq_getElem (by omega)
   refine ih _ je (cw e.on _ ?_ (by omega) je)
   rw[Array.getD_eq_getD_getElem?,Array.getElem?_eq_getElem hlt] at hl⊢
   exact hl
end Go.Z4
namespace Go.Z4
open Go.RowKit
def N6:Operand→Bool
 |.const (.slice none 0 0)=>true
 |_=>false
def su(P:Program)(aD:cn)(N:Nat)(ops:Array Oper)(o:Oper):Option au:=
 match o.guard,o.dst,o.op with
 |none,some d,.assign x=>if N6 x||aD.own.contains d then nA P aD N ops o else if d<N then (aC x).map (.dK d ·) else none
 |none,some d,.load _ _=>match nA P aD N ops o with
  |some (.load d' x n)=>if aD.uz.contains d then some (.aaW d' x n) else some (.load d' x n)
  |m=>m
 |none,none,.store _ (.tmp k) _=>match nA P aD N ops o with
  |some (.store x y n aP)=>some (.apart (look aD.ap k []) x (.store x y n aP))
  |m=>m
 |_,_,_=>nA P aD N ops o
section
variable {P:Program} {N:Nat} {s:St} {a:Act} {w:World} {A:aK} {sp:Sp} {K:St→Prop} {Q:Exit→Act→World→Prop} {o:Oper}
theorem DV{aD:cn}{ops:Array Oper}{m:au}{rest:Act→World→Prop}(hm:su P aD N ops o=some m)(h:RS N s a w A sp)(hv:Z2 P m s K)(hn:Next s w A sp N K rest):(if Region.wanted o (yielded ops a.tmps)=true then o.wp P a w rest Q∨(o.asks P a w∧LetsOut Q) else rest (a.put o.dst undef) w):=by
 unfold su at hm
 split at hm
 ·rename_i d x hg hd hop
  split at hm
  ·exact nG hm h hv hn
  ·split at hm
   ·rename_i hN
    simp only[Option.map_eq_some_iff] at hm
    obtain⟨y,hy,rfl⟩:=hm
    have hw:Region.wanted o (yielded ops a.tmps)=true:=by simp[Region.wanted,hg]
    rw[if_pos hw]
    exact .inl (fin h hd hN (by simp[execOp,hop]) (bf h hy).1.erase .erase hv hn)
   ·cases hm
 ·split at hm
  ·rename_i d' x n hm'
   split at hm
   ·injection hm with hm;subst hm
    refine nG hm' h ?_ hn
    simp only[Z2] at hv⊢
    split at hv
    ·rename_i e1;rw[e1];exact hv
    ·exact hv.elim
   ·injection hm with hm;subst hm
    exact nG hm' h hv hn
  ·exact nG hm h hv hn
 ·split at hm
  ·rename_i hm'
   injection hm with hm;subst hm
   exact nG hm' h hv.2 hn
  ·exact nG hm h hv hn
 ·exact nG hm h hv hn
end
def acI(ops:Array Oper):Bool:=(List.range ops.size).all fun i=>match ops[i]? with
 |some o=>o.after.all fun e=> !Region.binds .any e||decide (e.on<i)
 |none=>true
def u_:List Nat→Bool
 |[]=>true
 |x::xs=> !xs.contains x&&u_ xs
theorem DW:∀(l:List Nat),u_ l=true→l.Nodup
 |[],_=>List.nodup_nil
 |x::xs,h=>by
  simp only[u_,Bool.and_eq_true,Bool.not_eq_true'] at h
  exact List.nodup_cons.2 ⟨by simpa using h.1,DW xs h.2⟩
theorem ym{bs:Array Nat}{x:Nat×au}{post:List (Nat×au)}:∀(pre:List (Nat×au)),mz bs (pre++x::post)=true→mz bs (pre++post)=true∧∀y∈pre,((bs.getD x.1 0).testBit y.1||mw y.2 x.2)=true
 |[],h=>by
  simp only[List.nil_append,mz,Bool.and_eq_true] at h
  exact⟨h.2,by simp⟩
 |(y,my)::pre,h=>by
  simp only[List.cons_append,mz,Bool.and_eq_true] at h
  obtain⟨h1,h2⟩:=ym pre h.2
  refine⟨?_,fun z hz=> ?_⟩
  ·simp only[List.cons_append,mz,Bool.and_eq_true]
   refine⟨List.all_eq_true.2 fun p hp=>(List.all_eq_true.1 h.1) p ?_,h1⟩
   rcases List.mem_append.1 hp with hp|hp
   ·exact List.mem_append_left _ hp
   ·exact List.mem_append_right _ (List.mem_cons_of_mem _ hp)
  ·rcases List.mem_cons.1 hz with rfl|hz
   ·exact(List.all_eq_true.1 h.1) x (List.mem_append_right _ (List.mem_cons_self ..))
   ·exact h2 z hz
theorem Zm{P:Program}{aD:cn}{N:Nat}{ops:Array Oper}{K:St→Prop}{Q:Exit→Act→World→Prop}(sv:acI ops=true):∀(n:Nat) (rem:List (Nat×au)) (listed:Array Bool) (s:St) (a:Act) (w:World) (A:aK) (sp:Sp),
  rem.length=n→listed.size=ops.size→(rem.map (·.1)).Nodup→(∀i,i<ops.size→(listed.getD i true=false↔i∈rem.map (·.1)))→
  (∀p∈rem,∃o,ops[p.1]? =some o∧su P aD N ops o=some p.2)→mz (Region.before ops) rem=true→
  (∀i o,listed.getD i true=true→i<ops.size→ops[i]? =some o→o.after.all (fun e=> !Region.binds .any e||listed.getD e.on false)=true)→
  RS N s a w A sp→vcs P (rem.map (·.2)) K s→(∀s' a' w' A' sp',K s'→RS N s' a' w' A' sp'→Ev w A (live s.loc sp) w' A' (live s'.loc sp')→Q .normal a' w')→
  wpAny P .any ops Q n listed a w:=by
 intro n
 induction n with
 |zero=>
  intro rem listed s a w A sp hlen hls dU hin htr oP cw h hv hn
  have yo:rem=[]:=List.eq_nil_of_length_eq_zero hlen
  subst yo
  refine⟨?_,hn _ _ _ _ _ hv h (.refl _ _ _)⟩
  rw[Region.ready,List.filter_eq_nil_iff]
  intro i hi
  have hi':i<ops.size:=by simpa using hi
  have:=(hin i hi')
  simp only[List.map_nil,List.not_mem_nil,iff_false,Bool.not_eq_false] at this
  simp[this]
 |succ n ih=>
  intro rem listed s a w A sp hlen hls dU hin htr oP cw h hv hn
  have hmem:∀i,i∈Region.ready .any ops listed→i<ops.size∧listed.getD i true=false∧∃o,ops[i]? =some o∧o.after.all (fun e=> !Region.binds .any e||listed.getD e.on false)=true:=by
   intro i hi
   rw[Region.ready,List.mem_filter] at hi
   obtain⟨h1,h2⟩:=hi
   have h1:i<ops.size:=by simpa using h1
   simp only[Bool.and_eq_true,Bool.not_eq_true'] at h2
   refine⟨h1,h2.1,ops[i],Array.getElem?_eq_getElem h1,?_⟩
   have:=h2.2
   rw[Array.getElem?_eq_getElem h1] at this
   exact this
  refine⟨fun oQ=> ?_,fun i hi=> ?_⟩
  ·
   exfalso
   have hne:rem.map (·.1)≠[]:=by
    intro e
    have:rem.length=0:=by simpa using congrArg List.length e
    omega
   have hex:∃i,i∈rem.map (·.1)∧∀j,j∈rem.map (·.1)→i≤j:=by
    generalize rem.map (·.1)=l at hne
    induction l with
    |nil=>exact absurd rfl hne
    |cons x l ihl=>
     by_cases hl:l=[]
     ·subst hl;exact⟨x,by simp,by simp⟩
     ·obtain⟨i,h1,h2⟩:=ihl hl
      by_cases hx:x≤i
      ·exact⟨x,by simp,fun j hj=>by rcases List.mem_cons.1 hj with rfl|hj;exact Nat.le_refl _;exact Nat.le_trans hx (h2 j hj)⟩
      ·exact⟨i,by simp[h1],fun j hj=>by rcases List.mem_cons.1 hj with rfl|hj;omega;exact h2 j hj⟩
   obtain⟨i,hi1,hi2⟩:=hex
   obtain⟨p,hp,rfl⟩:=List.mem_map.1 hi1
   obtain⟨o,ho,_⟩:=htr p hp
   have hlt:=(Array.getElem?_eq_some_iff.1 ho).1
   have sw:p.1∈Region.ready .any ops listed:=by
    rw[Region.ready,List.mem_filter]
    refine⟨by simpa using hlt,?_⟩
    have hl:listed.getD p.1 true=false:=(hin _ hlt).2 hi1
    simp only[hl,Bool.not_false,Bool.true_and,ho,Option.map_some,Option.getD_some]
    refine Array.all_eq_true_iff_forall_mem.2 fun e he=> ?_
    cases hb:Region.binds .any e
    ·rfl
    ·have hf:=(List.all_eq_true.1 sv) p.1 (by simpa using hlt)
     rw[ho] at hf
     have hf:=(Array.all_eq_true_iff_forall_mem.1 hf) e he
     simp only[hb,Bool.not_true,Bool.false_or,decide_eq_true_eq] at hf
     have hnot:e.on∉rem.map (·.1):=fun hm=>by have:=hi2 _ hm;omega
     have hlo:e.on<ops.size:=by omega
     have:=mt (hin e.on hlo).1 hnot
     rw[Bool.not_eq_false] at this
     rw[Array.getD_eq_getD_getElem?,Array.getElem?_eq_getElem (by omega)] at this
     simp only[Bool.not_true,Bool.false_or]
     rw[Array.getD_eq_getD_getElem?,Array.getElem?_eq_getElem (by omega)]
     exact this
   rw[oQ] at sw
   cases sw
  ·obtain⟨hlt,dG,o,ho,hall⟩:=hmem i hi
   have yp:i∈rem.map (·.1):=(hin i hlt).1 dG
   obtain⟨p,hp,rfl⟩:=List.mem_map.1 yp
   obtain⟨pre,post,rfl⟩:=List.append_of_mem hp
   obtain⟨yq,je⟩:=ym pre oP
   obtain⟨o',ho',yt⟩:=htr p hp
   rw[ho] at ho';injection ho' with ho';subst ho'
   have yu:∀y∈pre.map (·.2),mw y p.2=true:=by
    intro y hy
    obtain⟨q,hq,rfl⟩:=List.mem_map.1 hy
    have:=je q hq
    cases hw:((Region.before ops).getD p.1 0).testBit q.1
    ·rw[hw,Bool.false_or] at this;exact this
    ·exfalso
     have h1:=DU cw hls (DS ops _ _ hw) o ho hall
     obtain⟨oq,hoq,_⟩:=htr q (List.mem_append_left _ hq)
     have yw:=(Array.getElem?_eq_some_iff.1 hoq).1
     have h2:=(hin q.1 yw).2 (List.mem_map.2 ⟨q,List.mem_append_left _ hq,rfl⟩)
     rw[Array.getD_eq_getD_getElem?,Array.getElem?_eq_getElem (by omega)] at h1 h2
     rw[Option.getD_some] at h1 h2
     rw[h1] at h2;cases h2
   rw[List.map_append,List.map_cons] at hv
   have yx:aay s:=⟨w.heap.size,fun b hb=>by
    cases hl:s.loc b with
    |none=>rfl
    |some cs=>
     obtain⟨vs,T,h1,_⟩:=h.loc b cs hl
     have:=(Array.getElem?_eq_some_iff.1 h1).1
     omega⟩
   have hv2:=yj (pre.map (·.2)) yu s yx hv
   rw[←List.map_append] at hv2
   unfold wpOp
   simp only[ho]
   refine DV yt h hv2 fun s' a' w' A' sp' hk hr aJ=> ?_
   have dH:∀j,j<ops.size→(listed.setIfInBounds p.1 true).getD j true=if j=p.1 then true else listed.getD j true:=by
    intro j hj
    simp only[Array.getD_eq_getD_getElem?]
    by_cases e:j=p.1
    ·subst e;rw[Array.getElem?_setIfInBounds_self_of_lt (by omega)];simp
    ·rw[Array.getElem?_setIfInBounds_ne (Ne.symm e),if_neg e]
   refine ih (pre++post) (listed.setIfInBounds p.1 true) s' a' w' A' sp' (by simp at hlen⊢;omega) (by simpa using hls) ?_ (fun j hj=> ?_) (fun q hq=>htr q ?_) yq (fun j oj hj sx hoj=> ?_) hr hk (fun s2 a2 w2 A2 sp2 hk2 cE dm=>hn s2 a2 w2 A2 sp2 hk2 cE (aJ.trans dm))
   ·rw[List.map_append,List.map_cons] at dU
    rw[List.map_append]
    exact dU.sublist (List.Sublist.append_left (List.sublist_cons_self _ _) _)
   ·rw[dH j hj]
    rw[List.map_append,List.map_cons] at dU hin
    rw[List.map_append]
    by_cases e:j=p.1
    ·subst e
     simp only[if_true,Bool.true_eq_false,false_iff,List.mem_append,not_or]
     have:=List.nodup_append.1 dU
     refine⟨fun hm=>(this.2.2 _ hm _ (List.mem_cons_self ..)) rfl,fun hm=> ?_⟩
     exact(List.nodup_cons.1 this.2.1).1 hm
    ·rw[if_neg e,hin j hj]
     simp only[List.mem_append,List.mem_cons,e,false_or]
   ·rcases List.mem_append.1 hq with hq|hq
    ·exact List.mem_append_left _ hq
    ·exact List.mem_append_right _ (List.mem_cons_of_mem _ hq)
   ·have yy:∀k,listed.getD k false=true→(listed.setIfInBounds p.1 true).getD k false=true:=by
     intro k hk
     simp only[Array.getD_eq_getD_getElem?] at hk⊢
     by_cases e:k=p.1
     ·subst e;rw[Array.getElem?_setIfInBounds_self_of_lt (by omega)];rfl
     ·rw[Array.getElem?_setIfInBounds_ne (Ne.symm e)];exact hk
    have yz:oj.after.all (fun e=> !Region.binds .any e||listed.getD e.on false)=true:=by
     rw[dH j sx] at hj
     by_cases e:j=p.1
     ·subst e;rw[ho] at hoj;injection hoj with hoj;subst hoj;exact hall
     ·rw[if_neg e] at hj;exact cw j oj hj sx hoj
    refine Array.all_eq_true_iff_forall_mem.2 fun e he=> ?_
    have:=(Array.all_eq_true_iff_forall_mem.1 yz) e he
    cases hb:Region.binds .any e
    ·rfl
    ·simp only[hb,Bool.not_true,Bool.false_or] at this⊢
     exact yy _ this
end Go.Z4
namespace Go.Z4
open Go.RowKit
theorem yA{x:AV}(h:fR x=true)(r:Nat):az r x=x:=by cases x<;>first|rfl|cases h
def qo:au→Bool
 |.aa d _|.abf d _|.ag d _|.bK d _|.aV d _ _|.j8 d _ _|.alloc d _|.load d _ _|.aaW d _ _|.addr d _ _|.aO d _ _ _|.cW d _ _ _ _|.fld d _ _ _
 |.iB d _ _ _ _ _|.aas d _ _|.build d _ _|.aM d _ _ _ _|.len d _|.aav d _|.j9 d _|.app d _ _ _ _|.bin d _ _ _|.iC d _ _ _|.aaw d _ _ _ _
 |.not d _|.neg d _|.conv d _ _|.pick d _ _ _|.ext d _ _|.aaX d _ _|.jH d _ _|.call d _ _|.aak d _ _|.dB d _ _ _|.dJ d _|.jI d _ _ _|.abg d _ _ _|.lX d _ _ _ _|.dK d _|.isNil d _ _
 |.dL d _ _ _ _ _|.lZ d _ _ _|.aaD d _ _|.abR d _ _|.i_ d _ _ _ _|.ot d _ _ _ _|.nv d _ _ _|.ab4 d _ _ _|.aaY d _ _ _ _ _|.j_ d _ _ _|.ow d _ _=>decide (d<gS)
 |.store .. |.jG .. =>true
 |.bH k _ _=>decide (k<gS)
 |.apart _ _ m=>qo m
 |.guard _ _ d m=>(match d with|some d=>decide (d<gS)|none=>true)&&qo m
 |.fy .. |.iE .. |.iD .. |.lY .. |.ja .. |.jb .. |.mkMap .. |.ou .. |.ov .. |.gG .. |.gH .. |.nw .. |.ab5 .. |.lookup .. |.bD _=>false
section
variable {P:Program} {s:St}
theorem cA{d:Nat}{x:AV}(h:decide (d<gS)=true)(k:Nat)(hk:gS≤k):(s.set d x).env k=s.env k:=Z5 _ _ (by intro e;have:=of_decide_eq_true h;omega)
theorem nJ{r:Nat}(h:∀k,gS≤k→fR (s.env k)=true)(k:Nat)(hk:gS≤k):(s.aB r).env k=s.env k:=yA (h k hk) r
theorem yB{r q:Nat}(h:∀k,gS≤k→fR (s.env k)=true)(k:Nat)(hk:gS≤k):((s.aB r).aB q).env k=s.env k:=by rw[nJ (fun k hk=>by rw[nJ h k hk];exact h k hk) k hk,nJ h k hk]
theorem N7{d:Nat}{x:AV}(hd:decide (d<gS)=true)(h:∀k,gS≤k→fR (s.env k)=true)(k:Nat)(hk:gS≤k):(aap s d x).env k=s.env k:=by
 unfold aap
 split
 ·split
  ·exact cA hd k hk
  ·rw[cA hd k hk];exact yB h k hk
 ·exact cA hd k hk
theorem nK{cs:List AV}{off:Nat}{n:Option Nat}{K K':AV→Prop}(h:∀v,K v→K' v)(hv:cz cs off n K):cz cs off n K':=by
 cases n with
 |none=>exact⟨hv.1,h _ hv.2⟩
 |some n=>exact⟨hv.1,h _ hv.2⟩
theorem DX{l:Loc}{x:AV}{n:Option Nat}{K K':AV→Prop}(h:∀v,K v→K' v)(hv:cN l x n K):cN l x n K':=by
 unfold cN at hv⊢
 split at hv
 ·exact nK (fun v=>h _) hv
 ·split at hv
  ·exact nK h hv
  ·exact hv.elim
 ·exact hv.elim
theorem N8{op:BinOp}{k:IntKind}{a b:Int}{K K':AV→Prop}(h:∀v,K v→K' v)(hv:en op k a b K):en op k a b K':=by cases op<;>simp only[en] at hv⊢ <;>first|exact h _ hv|exact⟨hv.1,h _ hv.2⟩|exact⟨hv.1,hv.2.1,h _ hv.2.2⟩|exact hv.elim
theorem N9{op:BinOp}{a b:ByteArray}{K K':AV→Prop}(h:∀v,K v→K' v)(hv:k6 op a b K):k6 op a b K':=by cases op<;>simp only[k6] at hv⊢ <;>first|exact h _ hv|exact hv.elim
theorem DY{op:BinOp}{k:IntKind}{a b:Int}{K K':AV→Prop}(h:∀v,K v→K' v)(hv:shI op k a b K):shI op k a b K':=by cases op<;>simp only[shI] at hv⊢ <;>first|exact⟨hv.1,h _ hv.2⟩|exact hv.elim
theorem DZ{op:BinOp}{x y:AV}{K K':AV→Prop}(h:∀v,K v→K' v)(hv:cX op x y K):cX op x y K':=by
 unfold cX at hv⊢
 split at hv
 ·split at hv
  ·exact DY h hv
  ·exact DY h hv
  ·exact⟨hv.1,N8 h hv.2⟩
 ·exact N9 h hv
 ·exact hv.elim
theorem yC{e:Nat→AV}:∀{ps:List (Nat×Nat×ai)} {cs:List AV} {K K':List AV→Prop},(∀v,K v→K' v)→aa9 e cs ps K→aa9 e cs ps K'
 |[],_,_,_,h,hv=>h _ hv
 |_::_,_,_,_,h,hv=>⟨hv.1,hv.2.1,yC h hv.2.2⟩
theorem yD{e:Nat→AV}{sz:Nat}:∀{ps:List (Nat×ai)} {xs:List AV} {K K':List AV→Prop},(∀v,K v→K' v)→gn e sz xs ps K→gn e sz xs ps K'
 |[],_,_,_,h,hv=>h _ hv
 |_::_,_,_,_,h,hv=>⟨hv.1,hv.2.1,hv.2.2.1,yD h hv.2.2.2⟩
theorem N_:∀{m:au} {s:St} {K:St→Prop},qo m=true→(∀k,gS≤k→fR (s.env k)=true)→Z2 P m s K→Z2 P m s (fun s'=>K s'∧∀k,gS≤k→s'.env k=s.env k):=by
 intro m
 induction m with
 |apart zs x m ih=>intro s K hm hg h;exact⟨h.1,ih hm hg h.2⟩
 |guard g want d m ih=>
  intro s K hm hg h
  simp only[qo,Bool.and_eq_true] at hm
  cases d with
  |none=>
   simp only[Z2] at h⊢
   split at h
   ·exact⟨fun e=>ih hm.2 hg (h.1 e),fun e=>⟨h.2 e,fun _ _=>by first|rfl|trivial⟩⟩
   ·exact⟨h,fun _ _=>by first|rfl|trivial⟩
   ·exact h.elim
  |some d=>
   simp only[Z2] at h⊢
   split at h
   ·exact⟨fun e=>ih hm.2 hg (h.1 e),fun e=>⟨h.2 e,cA hm.1⟩⟩
   ·exact⟨h,cA hm.1⟩
   ·exact h.elim
 |iD=>intro s K hm;cases hm
 |ja=>intro s K hm;cases hm
 |jb=>intro s K hm;cases hm
 |mkMap=>intro s K hm;cases hm
 |gG=>intro s K hm;cases hm
 |gH=>intro s K hm;cases hm
 |nw=>intro s K hm;cases hm
 |ab5=>intro s K hm;cases hm
 |lookup=>intro s K hm;cases hm
 |bD=>intro s K hm;cases hm
 |fy=>intro s K hm;cases hm
 |iE=>intro s K hm;cases hm
 |lY=>intro s K hm;cases hm
 |ou=>intro s K hm;cases hm
 |ov=>intro s K hm;cases hm
 |ag d x=>intro s K hm hg h;exact⟨h,N7 hm hg⟩
 |bK d sz=>intro s K hm hg h;exact⟨h,fun k hk=>by rw[cA hm k hk];exact nJ hg k hk⟩
 |j8 d x n=>intro s K hm hg h;exact⟨h.1,fun b hb=>⟨h.2 b hb,cA (s:=s.new b _) hm⟩⟩
 |alloc d z=>intro s K hm hg h;exact fun b hb=>⟨h b hb,cA (s:=s.new b _) hm⟩
 |load d x n=>intro s K hm hg h;exact DX (fun v hv=>⟨hv,cA hm⟩) h
 |aaW d x n=>
  intro s K hm hg h
  simp only[Z2] at h⊢
  split at h
  ·exact nK (fun v hv=>⟨hv,cA hm⟩) h
  ·exact h.elim
 |store x y n aP=>
  intro s K hm hg h
  simp only[Z2,gI] at h⊢
  split at h
  ·split at h
   ·refine⟨h.1,h.2.1,h.2.2.1,?_⟩
    have h:=h.2.2.2
    split at h
    ·split at h
     ·rename_i h0;rw[if_pos h0];exact⟨h,fun _ _=>by first|rfl|trivial⟩
     ·rename_i h0;rw[if_neg h0];exact⟨h,yB hg⟩
    ·exact⟨h,fun _ _=>by first|rfl|trivial⟩
   ·exact h.elim
  ·exact h.elim
 |jG x sz aP=>
  intro s K hm hg h
  simp only[Z2] at h⊢
  split at h
  ·split at h
   ·exact⟨h.1,h.2,nJ hg⟩
   ·exact h.elim
  ·exact h.elim
 |bH k y n=>
  intro s K hm hg h
  simp only[Z2] at h⊢
  split at h
  ·split at h
   ·exact⟨h.1,h.2.1,h.2.2.1,h.2.2.2,fun q hq=>Z5 _ _ (by intro e;have:=of_decide_eq_true hm;omega)⟩
   ·exact h.elim
  ·exact h.elim
 |build d z ps=>intro s K hm hg h;exact yC (fun v hv=>⟨hv,cA hm⟩) h
 |aM d n sz z ps=>intro s K hm hg h;exact yD (fun v hv=>⟨hv,fun k hk=>by rw[cA hm k hk];exact nJ hg k hk⟩) h
 |app d x y sz b=>
  intro s K hm hg h
  simp only[Z2] at h⊢
  split at h
  ·exact⟨h.1,h.2.1,h.2.2.1,h.2.2.2.1,h.2.2.2.2.1,h.2.2.2.2.2,fun k hk=>by rw[cA hm k hk];exact yB hg k hk⟩
  ·exact h.elim
 |bin d op x y=>intro s K hm hg h;exact DZ (fun v hv=>⟨hv,cA hm⟩) h
 |fld d x off n=>
  intro s K hm hg h
  simp only[Z2] at h⊢
  split at h
  ·exact nK (fun v hv=>⟨hv,cA hm⟩) h
  ·exact h.elim
 |iB d x i len sz n=>
  intro s K hm hg h
  simp only[Z2] at h⊢
  split at h
  ·exact⟨h.1,h.2.1,nK (fun v hv=>⟨hv,cA hm⟩) h.2.2⟩
  ·exact h.elim
 |aaw d neg n x y=>
  intro s K hm hg h
  simp only[Z2] at h⊢
  split at h
  ·obtain⟨h1,h2,q,hq,hk⟩:=h
   exact⟨h1,h2,q,hq,hk,cA hm⟩
  ·exact h.elim
 |dL d n c sz bytes zero=>
  intro s K hm hg h
  simp only[Z2] at h⊢
  split at h
  ·exact⟨h.1,h.2.1,h.2.2.1,h.2.2.2.1,h.2.2.2.2.1,fun b hb=>⟨h.2.2.2.2.2 b hb,cA (s:=s.new b _) hm⟩⟩
  ·exact h.elim
 |aaD d f xs=>intro s K hm hg h;obtain⟨ys,u,h1,h2,h3,h4⟩:=h;exact⟨ys,u,h1,h2,h3,h4,cA hm⟩
 |abR d x xs=>
  intro s K hm hg h
  simp only[Z2] at h⊢
  split at h
  ·obtain⟨ys,u,h1,h2,h3,h4⟩:=h;exact⟨ys,u,h1,h2,h3,h4,cA hm⟩
  ·exact h.elim
 |lZ d x y sz=>
  intro s K hm hg h
  simp only[Z2] at h⊢
  split at h
  ·split at h
   ·exact⟨h.1,h.2.1,h.2.2.1,h.2.2.2.1,h.2.2.2.2.1,h.2.2.2.2.2,cA (s:=s.new _ _) hm⟩
   ·exact h.elim
  ·exact h.elim
 |isNil d neg x=>
  intro s K hm hg h
  simp only[Z2] at h⊢
  split at h
  ·exact⟨fun e=>⟨h.1 e,cA hm⟩,h.2,cA hm⟩
  ·exact⟨h,cA hm⟩
  ·exact h.elim
 |i_ d x hi mx sz=>
  intro s K hm hg h
  simp only[Z2] at h⊢
  split at h
  ·exact⟨h.1,h.2,fun k hk=>by rw[cA hm k hk];exact nJ hg k hk⟩
  ·exact h.elim
 |ot d x hi mx sz=>
  intro s K hm hg h
  simp only[Z2] at h⊢
  split at h
  ·exact⟨fun hx=>⟨h.1 hx,cA (s:=s) hm⟩,fun b off=>⟨h.2 b off,cA (s:=s) hm⟩⟩
  ·exact h.elim
 |nv d x y sz=>
  intro s K hm hg h
  simp only[Z2] at h⊢
  split at h
  ·split at h
   ·exact⟨h.1,h.2.1,h.2.2.1,h.2.2.2.1,h.2.2.2.2.1,h.2.2.2.2.2,cA (s:=s.new _ _) hm⟩
   ·exact h.elim
  ·exact h.elim
 |aaY d x y sz bytes zero=>
  intro s K hm hg h
  simp only[Z2] at h⊢
  split at h
  ·refine⟨h.1,h.2.1,h.2.2.1,h.2.2.2.1,h.2.2.2.2.1,?_⟩
   have h:=h.2.2.2.2.2
   split at h
   ·rename_i hc
    rw[if_pos hc]
    exact fun b r hb=>⟨h b r hb,cA (s:=s.new b _) hm⟩
   ·rename_i hc
    rw[if_neg hc]
    split at h
    ·exact⟨h.1,fun hr=>⟨h.2.1 hr,cA (s:=s.new _ _) hm⟩,fun hr b r hb=>⟨h.2.2 hr b r hb,cA (s:=s.new b _) hm⟩⟩
    ·exact h.elim
  ·exact⟨h.1,h.2.1,h.2.2.1,h.2.2.2.1,fun b r hb=>⟨h.2.2.2.2 b r hb,cA (s:=s.new b _) hm⟩⟩
  ·exact h.elim
 |j_ d x y sz=>
  intro s K hm hg h
  simp only[Z2] at h⊢
  split at h
  ·split at h
   ·exact⟨h.1,h.2.1,h.2.2.1,h.2.2.2,cA (s:=s.new _ _) hm⟩
   ·exact h.elim
  ·exact h.elim
 |call d f xs=>intro s K hm hg h;obtain⟨r,h1,h2⟩:=h;exact⟨r,h1,h2,cA hm⟩
 |aak d x xs=>
  intro s K hm hg h
  simp only[Z2] at h⊢
  split at h
  ·obtain⟨r,h1,h2⟩:=h;exact⟨r,h1,h2,cA hm⟩
  ·exact h.elim
 |_=>
  intro s K hm hg h
  simp only[Z2] at h⊢
  first
   |exact⟨h,cA hm⟩
   |exact⟨h.1,h.2,cA hm⟩
   |(split at h<;>first|exact⟨h,cA hm⟩|exact⟨h.1,h.2,cA hm⟩|exact⟨h.1,h.2.1,h.2.2,cA hm⟩|exact⟨h.1,h.2.1,h.2.2.1,h.2.2.2,cA hm⟩|exact⟨h.1,h.2.1,h.2.2.1,h.2.2.2.1,h.2.2.2.2,cA hm⟩|exact h.elim)
end
theorem va{ro:Option Nat}{n:Nat}{P:Program}{f:FuncId}{args:Array Value}{w:World}{R:Ending→World→Prop}(h:Calls P f args w R):CallsIn (Fw ro) n P f args w R:=(callsIn_wide (n:=n)).2 h
theorem yE{ro:Option Nat}{n:Nat}{P:Program}{f:FuncId}{args:Array Value}{w:World}{R:Ending→World→Prop}(h:CallsIn (Fw ro) n P f args w R):Calls P f args w R:=(callsIn_wide (n:=n)).1 h
def NQ(K:Act→World→Prop):Exit→Act→World→Prop
 |.normal,a,w=>K a w
 |_,_,_=>False
def vb(ds:List Deferred)(K:Act→World→Prop):Act→World→Prop:=fun a w=>a.defers=ds∧K ⟨a.tmps,[]⟩ w
theorem Oa(t:Array Value)(d1 d2:List Deferred)(d:Option Tmp)(v:Value):((⟨t,d1⟩:Act).put d v).tmps=((⟨t,d2⟩:Act).put d v).tmps∧((⟨t,d1⟩:Act).put d v).defers=d1:=by cases d<;>exact⟨rfl,rfl⟩
theorem sy{t:Array Value}{ds:List Deferred}{d:Option Tmp}{v:Value}{w:World}{next:Act→World→Prop}(h:next ((⟨t,[]⟩:Act).put d v) w):vb ds next ((⟨t,ds⟩:Act).put d v) w:=by cases d<;>exact⟨rfl,h⟩
theorem Ob{P:Program}{o:Oper}{t:Array Value}{ds:List Deferred}{w:World}{next:Act→World→Prop}{K:Act→World→Prop}{Q':Exit→Act→World→Prop}{ro:Option Nat}{n:Nat}(dU:∀c,o.op≠.defer c)(hd:∀a w,next a w→a.defers=[])(h:o.wp P ⟨t,[]⟩ w next (NQ K)):o.wpIn (Fw ro) n P ⟨t,ds⟩ w (vb ds next) Q':=by
 refine⟨fun _ _=>trivial,?_⟩
 rw[Oper.semAt_eq _ _ _ dU]
 unfold Oper.wp at h
 have he:(⟨t,ds⟩:Act).eval=(⟨t,[]⟩:Act).eval:=rfl
 rw[he]
 generalize (execOp (⟨t,[]⟩:Act).eval o).run P w=r at h⊢
 cases r with
 |ok x w'=>
  cases x with
  |value v=>exact sy h
  |skip=>exact sy h
  |defer d=>
   have:=hd _ _ h
   rw[(Oa t [d] [] o.dst undef).2] at this
   cases this
  |enter f args=>
   refine⟨fun e=>(by cases e),va (Calls.mono h fun e w'' he=> ?_)⟩
   cases e with
   |returned v=>exact sy he
   |panicked c=>exact he.elim
   |outgrown=>obtain⟨_,_,he⟩:=he;exact he.elim
  |row row args=>
   refine⟨fun e=>(by cases e),fun c cs _=> ?_⟩
   obtain⟨v,w2,h1,h2⟩:=h c cs
   exact⟨v,w2,sy h1,stepsIn_wide.2 h2⟩
  |_=>exact h.elim
 |halt x w'=>cases x<;>exact h.elim
end Go.Z4
namespace Go.Z4
open Go.RowKit
theorem Ev.qp{w w':World}{A A' L L':aK}(h:Ev w A L w' A' L')(T:aK):Ev w A (join L T) w' A' (join L' T):=by
 refine⟨h.os,h.tape,h.output,h.size,fun b o hb hl=> ?_,fun b hb hl=>h.block b hb fun o ho=>hl o (.inl ho),h.sub,fun b o ha=> ?_⟩
 ·simp only[join,not_or] at hl
  obtain⟨h1,h2⟩:=h.cell b o hb hl.1
  exact⟨h1,by simp only[join,not_or];exact⟨h2,hl.2⟩⟩
 ·rcases h.sup b o ha with h1|h1|h1
  ·exact .inl h1
  ·exact .inr (.inl (.inl h1))
  ·exact .inr (.inr h1)
section
variable {w w':World} {A A' L L':aK}
theorem Ev.sA(h:Ev w A L w' A' L'){M M':aK}(h1:∀b o,L b o→M b o∨w.heap.size≤b)(h2:∀b o,b<w.heap.size→M' b o→M b o∨L' b o):Ev w A M w' A' M':=by
 refine⟨h.os,h.tape,h.output,h.size,fun b o hb hl=> ?_,fun b hb hl=>h.block b hb fun o ho=> ?_,h.sub,fun b o ha=> ?_⟩
 ·have hL:¬L b o:=fun hx=>by rcases h1 b o hx with e|e;exact hl e;omega
  obtain⟨g1,g2⟩:=h.cell b o hb hL
  exact⟨g1,fun hm=>by rcases h2 b o hb hm with e|e;exact hl e;exact g2 e⟩
 ·rcases h1 b o ho with e|e
  ·exact hl o e
  ·omega
 ·rcases h.sup b o ha with g|g|g
  ·exact .inl g
  ·rcases h1 b o g with e|e
   ·exact .inr (.inl e)
   ·exact .inr (.inr e)
  ·exact .inr (.inr g)
theorem qq(w:World){l b o:Nat}(ob:Obj)(h:b≠l):(w.putObj l ob).cell? ⟨b,o,none⟩=w.cell? ⟨b,o,none⟩:=World.cell?_of_block (World.putObj_heap_other h)
theorem Ev.putObj(w:World)(A:aK){L:aK}{l:Nat}(ob:Obj)(hl:∀o,L l o):Ev w A L (w.putObj l ob) A L:=by refine⟨rfl,rfl,rfl,by simp,fun b o hb h=>⟨qq w ob (fun e=>h (e▸hl o)),h⟩,fun b hb h=>World.putObj_heap_other (fun e=>h 0 (e▸hl 0)),fun _ _ h=>h,fun _ _ h=>.inl h⟩
theorem yF{l o:Nat}{ob:Obj}(h:w.heap[l]? =some ob)(hc:ob.isCells=false):w.cell? ⟨l,o,none⟩=none:=by cases ob<;>first|(cases hc;done)|simp[World.cell?,h]
theorem j7.putObj{l:Nat}{ob oR:Obj}(h:w.heap[l]? =some ob)(hc:ob.isCells=false)(hL:∀o,¬L l o)(hA:∀b o,A b o→b<w.heap.size∧¬L b o)(hl:∀o,¬A l o):j7 w (w.putObj l oR) A A L:=by
 refine⟨rfl,rfl,rfl,by simp,fun b o hl=>World.putObj_heap_other (fun e=>hL o (e▸hl)),fun b o v ha hv=> ?_,fun _ _ h=>h,fun b o ha=>⟨by simpa using(hA b o ha).1,(hA b o ha).2⟩,.blocks (fun _ _ h=>h) fun b ha _=>World.putObj_heap_other fun e=>hl 0 (e▸ha 0)⟩
 rw[qq w oR (fun e=>by subst e;rw[yF h hc] at hv;cases hv)]
 exact hv
theorem j7.alloc(ob:Obj)(hA:∀b o,A b o→b<w.heap.size∧¬L b o)(hL:∀b o,L b o→b<w.heap.size):j7 w (w.alloc ob) A A L:=⟨rfl,rfl,rfl,by rw[gJ];omega,fun b o hl=>heap_alloc _ _ _ (hL b o hl),fun b o v ha hv=>by rw[abu _ _ _ _ (hA b o ha).1];exact hv,fun _ _ h=>h,fun b o ha=>⟨by rw[gJ];have:=(hA b o ha).1;omega,(hA b o ha).2⟩,.blocks (fun _ _ h=>h) fun b _ hb=>heap_alloc _ _ _ hb⟩
end
theorem gm.block{w:World}{A:aK}{b:Nat}{x:AV}(h:gm w A b x)(hx:x≠.any):∃ob,w.heap[b]? =some ob∧ob.isCells=false:=by
 cases h with
 |any=>exact absurd rfl hx
 |iter t pos h=>exact⟨_,h,rfl⟩
 |map es es' clock h _ _ _=>exact⟨_,h,rfl⟩
 |nu b' since seen h=>exact⟨_,h,rfl⟩
theorem gm.mono{w w':World}{A A':aK}{b:Nat}{x:AV}(h:gm w A b x)(hb:x≠.any→w'.heap[b]? =w.heap[b]?)(hc:∀b o v,A b o→w.cell? ⟨b,o,none⟩=some v→w'.cell? ⟨b,o,none⟩=some v∧A' b o)(cm:gF w w' A A'):gm w' A' b x:=by
 cases h with
 |any=>exact .any
 |iter t pos h=>exact .iter t pos ((hb (fun e=>by cases e)).trans h)
 |map es es' clock h hs cw hr=>exact .map es es' clock ((hb (fun e=>by cases e)).trans h) hs cw fun i e he=>⟨(hr i e he).1.mono hc cm,(hr i e he).2.1.mono hc cm,(hr i e he).2.2⟩
 |nu b' since seen h=>exact .nu b' since seen ((hb (fun e=>by cases e)).trans h)
section
variable {P:Program} {C:Ctx P} {Pt:List (Nat×Obj)} {s:St} {a:Act} {w:World} {A Lx:aK} {sp:Sp}
theorem RS.Oc{N:Nat}(h:RS N s a w A sp){b o:Nat}(hl:live s.loc sp b o):∃vs T,w.heap[b]? =some (.cells vs T (0,0)):=by
 rcases hl with hl|⟨r,h1,h2,h3⟩
 ·cases hb:s.loc b with
  |none=>exact absurd hb hl
  |some cs=>
   obtain⟨vs,T,h1,_⟩:=h.loc b cs hb
   exact⟨vs,T,h1⟩
 ·obtain⟨⟨vs,T,h4,_⟩,_⟩:=h.bW r (by omega)
  exact⟨vs,T,h1▸h4⟩
theorem RS.nL{N:Nat}(h:RS N s a w A sp){b:Nat}{ob:Obj}(hb:w.heap[b]? =some ob)(hc:ob.isCells=false)(o:Nat):¬live s.loc sp b o:=by
 intro hl
 obtain⟨vs,T,h1⟩:=h.Oc hl
 rw[h1] at hb;injection hb with hb;rw[←hb] at hc;cases hc
theorem GS.abU(h:GS C Pt s a w A Lx sp){p:Nat×Obj}(hp:p∈Pt)(o:Nat):¬held s sp p.1 o:=by
 obtain⟨h2,h3,_,_,h4⟩:=h.pt p hp
 rintro(hl|hl)
 ·exact h.rs.nL h2 h3 o hl
 ·exact hl h4
theorem GS.acr(h:GS C Pt s a w A Lx sp){b o:Nat}(hb:cv s b o):∃ob,w.heap[b]? =some ob∧ob.isCells=false:=(h.ob b).block hb
theorem GS.mA(h:GS C Pt s a w A Lx sp){b o:Nat}(hl:held s sp b o):b<w.heap.size:=by
 rcases hl with hl|hl
 ·exact h.rs.ux hl
 ·obtain⟨ob,h1,_⟩:=h.acr hl
  exact cc h1
theorem GS.mB(h:GS C Pt s a w A Lx sp){b o:Nat}(ha:A b o):¬held s sp b o:=by
 rintro(hl|hl)
 ·exact(h.rs.av b o ha).2 hl
 ·exact h.oa b o hl ha
theorem abb(s:St)(gh:AV):(s.set gS gh).env gS=gh:=by simp[St.set,ak]
theorem ab8(s:St)(gh:AV)(b:Nat):(s.set gS gh).env (oS+b)=s.env (oS+b):=Z5 _ _ (by simp[gS,oS];omega)
theorem GS.step(h:GS C Pt s a w A Lx sp){s':St}{a':Act}{w':World}{A':aK}{sp':Sp}(hr:RS C.N s' ⟨a'.tmps,[]⟩ w' A' sp')
  (aJ:Ev w A (held s sp) w' A' (held s' sp'))(hi:∀k,gS≤k→fR (s'.env k)=true)(hg:s'.env gS=s.env gS)(ho:∀b,gm w' A' b (s'.env (oS+b)))(sC:∀b o,cv s' b o→¬A' b o)(hd:a'.defers=a.defers):
  GS C Pt s' a' w' A' Lx sp'∧Ev w A (join (held s sp) Lx) w' A' (join (held s' sp') Lx):=by
 have D0:∀b o,Lx b o→∀o',¬held s sp b o':=fun b o hl o' hl'=>h.ap b o' o hl' hl
 have gK:∀b o,A' b o→¬Lx b o:=by
  intro b o ha hl
  rcases aJ.sup b o ha with h1|h1|h1
  ·exact h.av b o h1 hl
  ·exact h.ap b o o h1 hl
  ·exact absurd (h.lt b o hl) (by omega)
 refine⟨⟨hr,hi,fun b o hl=>Nat.lt_of_lt_of_le (h.lt b o hl) aJ.size,fun b o o' hl hx=> ?_,gK,?_,fun p hp=> ?_,ho,sC,Nat.le_trans h.bs aJ.size,by rw[hd];exact h.dn,by rw[hd];exact h.df,h.ro⟩,aJ.qp Lx⟩
 ·exact(aJ.cell b o (h.lt b o' hx) (D0 b o' hx o)).2 hl
 ·rw[hg]
  exact C.st _ _ _ _ _ _ h.x ⟨aJ.os,aJ.tape,aJ.output,aJ.size,fun b o hl=>aJ.block b (h.lt b o hl) (D0 b o hl),fun b o v ha hc=>(aJ.cell b o (h.rs.av b o ha).1 (h.mB ha)).1.trans hc,aJ.sub,fun b o ha=>⟨(hr.av b o ha).1,gK b o ha⟩,aJ.kept fun b o ha=>⟨(h.rs.av b o ha).1,h.mB ha⟩⟩
 ·obtain⟨h1,h2,h3⟩:=h.pt p hp
  refine⟨(aJ.block p.1 (cc h1) (h.abU hp)).trans h1,h2,h3.1,fun o ha=> ?_,?_⟩
  ·rcases aJ.sup _ o ha with h4|h4|h4
   ·exact h3.2.1 o h4
   ·exact h.abU hp o h4
   ·exact absurd (cc h1) (by omega)
  ·refine Classical.byContradiction fun hne=> ?_
   exact(aJ.cell p.1 0 (cc h1) (h.abU hp 0)).2 (.inr hne)
theorem GS.own(h:GS C Pt s a w A Lx sp){s':St}{a':Act}{w':World}{A':aK}{sp':Sp}(hr:RS C.N s' ⟨a'.tmps,[]⟩ w' A' sp')
  (aJ:Ev w A (live s.loc sp) w' A' (live s'.loc sp'))(hg:∀k,gS≤k→s'.env k=s.env k)(hd:a'.defers=a.defers):
  GS C Pt s' a' w' A' Lx sp'∧Ev w A (join (held s sp) Lx) w' A' (join (held s' sp') Lx):=by
 have ho:∀b,s'.env (oS+b)=s.env (oS+b):=fun b=>hg _ (by simp only[gS,oS];omega)
 have eT:cv s'=cv s:=by funext b o;simp only[cv,ho]
 have hE:Ev w A (held s sp) w' A' (held s' sp'):=by unfold held;rw[eT];exact aJ.qp (cv s)
 refine h.step hr hE (fun k hk=>by rw[hg k hk];exact h.ig k hk) (hg gS (Nat.le_refl _)) (fun b=> ?_) (fun b o hb ha=> ?_) hd
 ·rw[ho]
  refine(h.ob b).mono (fun hx=> ?_) (fun b o v ha hv=>⟨((aJ.cell b o (h.rs.av b o ha).1 (h.rs.av b o ha).2).1).trans hv,aJ.sub b o ha⟩) (aJ.kept h.rs.av)
  obtain⟨ob,h1,h2⟩:=(h.ob b).block hx
  exact aJ.block b (cc h1) (h.rs.nL h1 h2)
 ·rw[eT] at hb
  obtain⟨ob,h1,h2⟩:=h.acr hb
  rcases aJ.sup b o ha with h3|h3|h3
  ·exact h.oa b o hb h3
  ·exact h.rs.nL h1 h2 o h3
  ·exact absurd (cc h1) (by omega)
theorem RS.keep{N:Nat}(h:RS N s a w A sp){w':World}{A' L:aK}(hk:j7 w w' A A' L)(hL:∀b o,live s.loc sp b o→L b o):RS N s a w' A' sp:=by
 refine h.world hk.cell hk.sub hk.obj (fun b cs hb=>hk.lW b 0 (hL b 0 (.inl (by rw[hb];exact fun e=>by cases e)))) (fun r hr=> ?_) (fun b o ha=>⟨(hk.nt b o ha).1,fun hl=>(hk.nt b o ha).2 (hL b o hl)⟩)
 obtain⟨⟨vs,T,h1,h2⟩,_⟩:=h.bW r hr
 exact⟨vs,T,(hk.lW _ _ (hL _ (sp r).2.1 (.inr ⟨r,rfl,Nat.le_refl _,hr⟩))).trans h1,h2⟩
theorem GS.keep(h:GS C Pt s a w A Lx sp){w':World}{A' L:aK}(hk:j7 w w' A A' L)(hL:∀b o,held s sp b o→L b o)(hX:∀b o,Lx b o→L b o)(hP:∀p∈Pt,∀o,L p.1 o):GS C Pt s a w' A' Lx sp where
 rs:=h.rs.keep hk fun b o hl=>hL b o (.inl hl)
 ig:=h.ig
 lt b o hl:=Nat.lt_of_lt_of_le (h.lt b o hl) hk.size
 ap:=h.ap
 av b o ha hl:=(hk.nt b o ha).2 (hX b o hl)
 x:=C.st _ _ _ _ _ _ h.x ⟨hk.os,hk.tape,hk.output,hk.size,fun b o hl=>hk.lW b o (hX b o hl),hk.cell,hk.sub,fun b o ha=>⟨(hk.nt b o ha).1,fun hl=>(hk.nt b o ha).2 (hX b o hl)⟩,hk.obj⟩
 pt p hp:=⟨(hk.lW p.1 0 (hP p hp 0)).trans (h.pt p hp).1,(h.pt p hp).2.1,(h.pt p hp).2.2.1,fun o ha=>(hk.nt _ o ha).2 (hP p hp o),(h.pt p hp).2.2.2.2⟩
 ob b:=(h.ob b).mono (fun hx=>hk.lW b 0 (hL b 0 (.inr hx))) (fun b o v ha hv=>⟨hk.cell b o v ha hv,hk.sub b o ha⟩) hk.obj
 oa b o hb ha:=(hk.nt b o ha).2 (hL b o (.inr hb))
 bs:=Nat.le_trans h.bs hk.size
 dn:=h.dn
 df:=h.df
 ro:=h.ro
theorem GS.other(h:GS C Pt s a w A Lx sp){w':World}{A' bp:aK}{gh:AV}(hgh:fR gh=true)(aJ:Ev w A Lx w' A' bp)(hlt:∀b o,bp b o→b<w'.heap.size)
  (gK:∀b o,A' b o→b<w'.heap.size∧¬bp b o)(hx:C.X gh w' A' bp):
  GS C Pt (s.set gS gh) a w' A' bp sp∧Ev w A (join (held s sp) Lx) w' A' (join (held (s.set gS gh) sp) bp):=by
 have hap:∀b o o',held s sp b o→¬bp b o':=fun b o o' hl hx=>(aJ.cell b o' (h.mA hl) (h.ap b o o' hl)).2 hx
 have iH:∀b o,held s sp b o→w'.heap[b]? =w.heap[b]? :=fun b o hl=>aJ.block b (h.mA hl) (fun o'=>h.ap b o o' hl)
 have sD:∀b o,A' b o→¬held s sp b o:=by
  intro b o ha hl
  rcases aJ.sup b o ha with h1|h1|h1
  ·exact h.mB h1 hl
  ·exact h.ap b o o hl h1
  ·exact absurd (h.mA hl) (by omega)
 have hcell:∀b o v,A b o→w.cell? ⟨b,o,none⟩=some v→w'.cell? ⟨b,o,none⟩=some v:=fun b o v ha hc=>(aJ.cell b o (h.rs.av b o ha).1 (h.av b o ha)).1.trans hc
 have gq:gF w w' A A':=aJ.kept fun b o ha=>⟨(h.rs.av b o ha).1,h.av b o ha⟩
 have bS:RS C.N s ⟨a.tmps,[]⟩ w' A' sp:=by
  refine h.rs.world hcell aJ.sub gq (fun b cs hb=>iH b 0 (.inl (.inl (by rw[hb];exact fun e=>by cases e)))) (fun r hr=> ?_) (fun b o ha=>⟨(gK b o ha).1,fun hl=>sD b o ha (.inl hl)⟩)
  obtain⟨⟨vs,T,h1,h2⟩,_⟩:=h.rs.bW r hr
  exact⟨vs,T,(iH _ (sp r).2.1 (.inl (.inr ⟨r,rfl,Nat.le_refl _,hr⟩))).trans h1,h2⟩
 have oT:RS C.N (s.set gS gh) ⟨a.tmps,[]⟩ w' A' sp:=by
  refine⟨bS.size,bS.defers,fun d=> ?_,bS.loc,bS.bW,bS.spd,bS.av⟩
  by_cases hd:d=gS
  ·subst hd
   rw[abb]
   cases gh<;>first|(cases hgh;done)|exact⟨.any _,trivial⟩|exact⟨.ghost _ _ _ _,trivial⟩
  ·have e:(s.set gS gh).env d=s.env d:=Z5 _ _ hd
   rw[e];exact bS.env d
 have eT:cv (s.set gS gh)=cv s:=by funext b o;simp only[cv,ab8]
 have how:held (s.set gS gh) sp=held s sp:=by unfold held;rw[eT];rfl
 refine⟨⟨oT,fun k hk=> ?_,hlt,by rw[how];exact hap,fun b o ha=>(gK b o ha).2,by rw[abb];exact hx,fun p hp=> ?_,fun b=> ?_,fun b o hb ha=> ?_,Nat.le_trans h.bs aJ.size,h.dn,h.df,h.ro⟩,?_⟩
 ·by_cases e:k=gS
  ·subst e;rw[abb];exact hgh
  ·rw[show(s.set gS gh).env k=s.env k from Z5 _ _ e];exact h.ig k hk
 ·obtain⟨h1,h2,h3⟩:=h.pt p hp
  refine⟨(aJ.block p.1 (cc h1) h3.1).trans h1,h2,fun o hl=>(aJ.cell p.1 o (cc h1) (h3.1 o)).2 hl,fun o ha=> ?_,by rw[ab8];exact h3.2.2⟩
  rcases aJ.sup _ o ha with h4|h4|h4
  ·exact h3.2.1 o h4
  ·exact h3.1 o h4
  ·exact absurd (cc h1) (by omega)
 ·rw[ab8]
  exact(h.ob b).mono (fun hx=>iH b 0 (.inr hx)) (fun b o v ha hv=>⟨hcell b o v ha hv,aJ.sub b o ha⟩) gq
 ·rw[eT] at hb;exact sD b o ha (.inr hb)
 ·rw[how]
  refine⟨aJ.os,aJ.tape,aJ.output,aJ.size,fun b o hb hl=> ?_,fun b hb hl=>aJ.block b hb fun o ho=>hl o (.inr ho),aJ.sub,fun b o ha=> ?_⟩
  ·simp only[join,not_or] at hl
   obtain⟨h1,h2⟩:=aJ.cell b o hb hl.2
   exact⟨h1,by simp only[join,not_or];exact⟨hl.1,h2⟩⟩
  ·rcases aJ.sup b o ha with h1|h1|h1
   ·exact .inl h1
   ·exact .inr (.inl (.inr h1))
   ·exact .inr (.inr h1)
theorem bV.D1{cs:List AV}(h:cs.map AV.erase0=cs)(i:Nat){v:Value}:bV sp (cs.getD i .any) v:=by rw[←h,gj];exact .erase0
theorem GS.Od(h:GS C Pt s a w A Lx sp){g:Nat}{cs:List AV}(hg:s.loc g=some cs)(hcs:cs.map AV.erase0=cs){w':World}{A' bp:aK}{gh:AV}(hgh:fR gh=true)(aJ:Ev w A (join Lx (kY g)) w' A' (join bp (kY g)))
  (hlt:∀b o,bp b o→b<w'.heap.size)(gK:∀b o,A' b o→b<w'.heap.size∧¬bp b o)(hA:∀o,¬A' g o)(hL:∀o,¬bp g o)(sE:dA w' A' g cs)(hx:C.X gh w' A' bp):
  GS C Pt (s.set gS gh) a w' A' bp sp∧Ev w A (join (held s sp) Lx) w' A' (join (held (s.set gS gh) sp) bp):=by
 have sF:∀o,live s.loc sp g o:=fun o=>.inl (by rw[hg];exact fun e=>by cases e)
 have oU:∀o,¬A g o:=fun o ha=>(h.rs.av g o ha).2 (sF o)
 have Zn:∀o,¬Lx g o:=fun o hl=>h.ap g o o (.inl (sF o)) hl
 have hnot:∀b o,b≠g→¬Lx b o→¬join Lx (kY g) b o:=fun b o e hl hj=>hj.elim hl e
 have hap:∀b o o',held s sp b o→¬bp b o':=fun b o o' hl hx=>by
  by_cases e:b=g
  ·subst e;exact hL o' hx
  ·exact(aJ.cell b o' (h.mA hl) (hnot b o' e (h.ap b o o' hl))).2 (.inl hx)
 have iH:∀b o,b≠g→held s sp b o→w'.heap[b]? =w.heap[b]? :=fun b o e hl=>aJ.block b (h.mA hl) (fun o'=>hnot b o' e (h.ap b o o' hl))
 have sD:∀b o,A' b o→¬held s sp b o:=by
  intro b o ha hl
  rcases aJ.sup b o ha with h1|h1|h1
  ·exact h.mB h1 hl
  ·rcases h1 with h1|h1
   ·exact h.ap b o o hl h1
   ·subst h1;exact hA o ha
  ·exact absurd (h.mA hl) (by omega)
 have hcell:∀b o v,A b o→w.cell? ⟨b,o,none⟩=some v→w'.cell? ⟨b,o,none⟩=some v:=fun b o v ha hc=>(aJ.cell b o (h.rs.av b o ha).1 (hnot b o (fun e=>oU o (e▸ha)) (h.av b o ha))).1.trans hc
 have gq:gF w w' A A':=.blocks aJ.sub fun b ha hb=>aJ.block b hb fun o=>hnot b o (fun e=>oU 0 (e▸ha 0)) (h.av b o (ha o))
 have hmono:∀{x:AV} {v:Value},RV w A x v→RV w' A' x v:=fun hx=>hx.mono (fun b o v ha hv=>⟨hcell b o v ha hv,aJ.sub b o ha⟩) gq
 have x6:∀r,(sp r).2.1<(sp r).2.2→(sp r).1≠g:=fun r hr e=>by
  have:=(h.rs.bW r hr).2
  rw[e,hg] at this;cases this
 have bS:RS C.N s ⟨a.tmps,[]⟩ w' A' sp:=by
  refine⟨h.rs.size,h.rs.defers,fun d=>⟨hmono (h.rs.env d).1,(h.rs.env d).2⟩,fun b cs' hb=> ?_,fun r hr=>⟨?_,(h.rs.bW r hr).2⟩,h.rs.spd,fun b o ha=>⟨(gK b o ha).1,fun hl=>sD b o ha (.inl hl)⟩⟩
  ·by_cases e:b=g
   ·subst e
    rw[hg] at hb;injection hb with hb;subst hb
    obtain⟨vs,T,g1,g2,g3⟩:=sE
    exact⟨vs,T,g1,g2,fun i=>⟨g3 i,.D1 hcs i⟩⟩
   ·obtain⟨vs,T,g1,g2,g3⟩:=h.rs.loc b cs' hb
    exact⟨vs,T,(iH b 0 e (.inl (.inl (by rw[hb];exact fun e=>by cases e)))).trans g1,g2,fun i=>⟨hmono (g3 i).1,(g3 i).2⟩⟩
  ·obtain⟨⟨vs,T,h1,h2⟩,_⟩:=h.rs.bW r hr
   exact⟨vs,T,(iH _ (sp r).2.1 (x6 r hr) (.inl (.inr ⟨r,rfl,Nat.le_refl _,hr⟩))).trans h1,h2⟩
 have oT:RS C.N (s.set gS gh) ⟨a.tmps,[]⟩ w' A' sp:=by
  refine⟨bS.size,bS.defers,fun d=> ?_,bS.loc,bS.bW,bS.spd,bS.av⟩
  by_cases hd:d=gS
  ·subst hd
   rw[abb]
   cases gh<;>first|(cases hgh;done)|exact⟨.any _,trivial⟩|exact⟨.ghost _ _ _ _,trivial⟩
  ·have e:(s.set gS gh).env d=s.env d:=Z5 _ _ hd
   rw[e];exact bS.env d
 have eT:cv (s.set gS gh)=cv s:=by funext b o;simp only[cv,ab8]
 have how:held (s.set gS gh) sp=held s sp:=by unfold held;rw[eT];rfl
 refine⟨⟨oT,fun k hk=> ?_,hlt,by rw[how];exact hap,fun b o ha=>(gK b o ha).2,by rw[abb];exact hx,fun p hp=> ?_,fun b=> ?_,fun b o hb ha=> ?_,Nat.le_trans h.bs aJ.size,h.dn,h.df,h.ro⟩,?_⟩
 ·by_cases e:k=gS
  ·subst e;rw[abb];exact hgh
  ·rw[show(s.set gS gh).env k=s.env k from Z5 _ _ e];exact h.ig k hk
 ·obtain⟨h1,h2,h3⟩:=h.pt p hp
  have yG:p.1≠g:=fun e=>h.abU hp 0 (by rw[e];exact .inl (sF 0))
  refine⟨(aJ.block p.1 (cc h1) fun o=>hnot _ o yG (h3.1 o)).trans h1,h2,fun o hl=>(aJ.cell p.1 o (cc h1) (hnot _ o yG (h3.1 o))).2 (.inl hl),fun o ha=> ?_,by rw[ab8];exact h3.2.2⟩
  rcases aJ.sup _ o ha with h4|h4|h4
  ·exact h3.2.1 o h4
  ·rcases h4 with h4|h4
   ·exact h3.1 o h4
   ·exact yG h4
  ·exact absurd (cc h1) (by omega)
 ·rw[ab8]
  refine(h.ob b).mono (fun hx=> ?_) (fun b o v ha hv=>⟨hcell b o v ha hv,aJ.sub b o ha⟩) gq
  have yH:b≠g:=fun e=>by
   obtain⟨ob,q1,q2⟩:=h.acr (b:=b) (o:=0) hx
   exact h.rs.nL q1 q2 0 (e▸sF 0)
  exact iH b 0 yH (.inr hx)
 ·rw[eT] at hb;exact sD b o ha (.inr hb)
 ·rw[how]
  have yI:∀o,join (held s sp) Lx g o:=fun o=>.inl (.inl (sF o))
  refine⟨aJ.os,aJ.tape,aJ.output,aJ.size,fun b o hb hl=> ?_,fun b hb hl=>aJ.block b hb fun o ho=> ?_,aJ.sub,fun b o ha=> ?_⟩
  ·have yH:b≠g:=fun e=>hl (e▸yI o)
   simp only[join,not_or] at hl
   obtain⟨h1,h2⟩:=aJ.cell b o hb (hnot b o yH hl.2)
   exact⟨h1,by simp only[join,not_or] at h2⊢;exact⟨hl.1,h2.1⟩⟩
  ·rcases ho with ho|ho
   ·exact hl o (.inr ho)
   ·subst ho;exact hl o (yI o)
  ·rcases aJ.sup b o ha with h1|h1|h1
   ·exact .inl h1
   ·rcases h1 with h1|h1
    ·exact .inr (.inl (.inr h1))
    ·subst h1;exact .inr (.inl (yI o))
   ·exact .inr (.inr h1)
def nM(ro:Option Nat)(P:Program)(ops:Array Oper)(o:Oper)(a:Act)(w:World)(rest:Act→World→Prop)(Q:Exit→Act→World→Prop):Prop:=if Region.wanted o (yielded ops a.tmps)=true then o.wpIn (Fw ro) 0 P a w rest Q else (∀f,o.about P w a.eval=some f→(Fw ro).fn f)∧rest (a.put o.dst undef) w
def eU(C:Ctx P)(Pt:List (Nat×Obj))(s:St)(w:World)(A Lx:aK)(sp:Sp)(ds:List Deferred)(K:St→Prop)(rest:Act→World→Prop):Prop:=∀s' a' w' A' bp sp',K s'→GS C Pt s' a' w' A' bp sp'→Ev w A (join (held s sp) Lx) w' A' (join (held s' sp') bp)→a'.defers=ds→rest a' w'
theorem Oe{ops:Array Oper}{o:Oper}{m:au}{K:St→Prop}{rest:Act→World→Prop}{Q:Exit→Act→World→Prop}(h:GS C Pt s a w A Lx sp)(dU:∀c,o.op≠.defer c)(hm:qo m=true)
  (hv:Z2 P m s K)(hs:∀(K:St→Prop) (rest:Act→World→Prop) (Q:Exit→Act→World→Prop),Z2 P m s K→Next s w A sp C.N K rest→(if Region.wanted o (yielded ops a.tmps)=true then o.wp P ⟨a.tmps,[]⟩ w rest Q∨(o.asks P ⟨a.tmps,[]⟩ w∧LetsOut Q) else rest ((⟨a.tmps,[]⟩:Act).put o.dst undef) w))
  (hn:eU C Pt s w A Lx sp a.defers K rest):nM C.ro P ops o a w rest Q:=by
 have hv2:=N_ hm h.ig hv
 have h1:=hs _ (fun a1 w1=>a1.defers=[]∧∃s' A' sp',K s'∧(∀k,gS≤k→s'.env k=s.env k)∧RS C.N s' a1 w1 A' sp'∧Ev w A (live s.loc sp) w1 A' (live s'.loc sp')) (NQ fun _ _=>True) hv2 (fun s' a' w' A' sp' hk hr aJ=>⟨hr.defers,s',A',sp',hk.1,hk.2,hr,aJ⟩)
 have fin:∀a' w',vb a.defers (fun a1 w1=>a1.defers=[]∧∃s' A' sp',K s'∧(∀k,gS≤k→s'.env k=s.env k)∧RS C.N s' a1 w1 A' sp'∧Ev w A (live s.loc sp) w1 A' (live s'.loc sp')) a' w'→rest a' w':=by
  rintro a' w' ⟨hd,-,s',A',sp',hk,hg,hr,aJ⟩
  obtain⟨g1,g2⟩:=h.own hr aJ hg hd
  exact hn s' a' w' A' Lx sp' hk g1 g2 hd
 unfold nM
 split at h1
 ·rename_i hw
  rw[if_pos hw]
  rcases h1 with h1|⟨_,_,_,h1⟩
  ·exact Oper.wpIn_mono (K:=vb a.defers _) fin (Ob (t:=a.tmps) (ds:=a.defers) dU (fun _ _ hh=>hh.1) h1)
  ·exact h1.elim
 ·rename_i hw
  rw[if_neg hw]
  refine⟨fun _ _=>trivial,fin _ _ ?_⟩
  exact sy (t:=a.tmps) h1
end
end Go.Z4
namespace Go.Z4
open Go.RowKit
section
variable {P:Program} {C:Ctx P} {Pt:List (Nat×Obj)} {s:St} {a:Act} {w:World} {A Lx:aK} {sp:Sp} {o:Oper} {d:Nat} {K:St→Prop} {rest:Act→World→Prop} {Q:Exit→Act→World→Prop}
theorem lz{ro:Option Nat}{v:Value}{w':World}(dU:∀c,o.op≠.defer c)(hrun:(execOp a.eval o).run P w=.ok (.value v) w')(h:rest (a.put o.dst v) w'):o.wpIn (Fw ro) 0 P a w rest Q:=by
 refine⟨fun _ _=>trivial,?_⟩
 rw[Oper.semAt_eq _ _ _ dU,hrun,Oper.uponIn_value]
 exact h
theorem ac9{ro:Option Nat}{w':World}(dU:∀c,o.op≠.defer c)(hrun:(execOp a.eval o).run P w=.ok .skip w')(h:rest (a.put o.dst undef) w'):o.wpIn (Fw ro) 0 P a w rest Q:=by
 refine⟨fun _ _=>trivial,?_⟩
 rw[Oper.semAt_eq _ _ _ dU,hrun,Oper.uponIn_skip]
 exact h
theorem RS.ghost{N:Nat}(h:RS N s a w A sp)(k:Nat){x:AV}(hx:fR x=true):RS N (s.set k x) a w A sp:=by
 refine⟨h.size,h.defers,fun d=> ?_,h.loc,h.bW,h.spd,h.av⟩
 by_cases hd:d=k
 ·subst hd
  rw[show(s.set d x).env d=x from cI _ _ _]
  cases x<;>first|(cases hx;done)|exact⟨.any _,trivial⟩|exact⟨.ghost _ _ _ _,trivial⟩
 ·rw[show(s.set k x).env d=s.env d from Z5 _ _ hd];exact h.env d
theorem abd(b:Nat):gS<oS+b:=by simp only[gS,oS];omega
theorem GS.obj(h:GS C Pt s a w A Lx sp){b:Nat}{x:AV}(hx:fR x=true){w':World}
  (hfr:s.env (oS+b)≠.any∨b=w.heap.size)(hle:w.heap.size≤w'.heap.size)
  (hos:w'.os=w.os∧w'.tape=w.tape∧w'.output=w.output)(iH:∀c,c<w.heap.size→c≠b→w'.heap[c]? =w.heap[c]?)(cm:gm w' A b x):
  GS C Pt (s.set (oS+b) x) a w' A Lx sp∧Ev w A (join (held s sp) Lx) w' A (join (held (s.set (oS+b) x) sp) Lx):=by
 have yJ:∀o,¬A b o:=by
  intro o ha
  rcases hfr with hf|hf
  ·exact h.oa b o hf ha
  ·exact absurd (h.rs.av b o ha).1 (by omega)
 have hlb:∀o,¬live s.loc sp b o:=by
  intro o hl
  rcases hfr with hf|hf
  ·obtain⟨ob,h1,h2⟩:=h.acr (o:=o) hf
   exact h.rs.nL h1 h2 o hl
  ·exact absurd (h.rs.ux hl) (by omega)
 have Zo:∀o,¬Lx b o:=by
  intro o hl
  rcases hfr with hf|hf
  ·exact h.ap b o o (.inr hf) hl
  ·exact absurd (h.lt b o hl) (by omega)
 have hcell:∀c o v,A c o→w.cell? ⟨c,o,none⟩=some v→w'.cell? ⟨c,o,none⟩=some v:=fun c o v ha hv=>(World.cell?_of_block (iH c (h.rs.av c o ha).1 (fun e=>yJ o (e▸ha)))).trans hv
 have gq:gF w w' A A:=.blocks (fun _ _ ha=>ha) fun c ha hc=>iH c hc fun e=>yJ 0 (e▸ha 0)
 have hbl:∀c o,c<w.heap.size→live s.loc sp c o→w'.heap[c]? =w.heap[c]? :=fun c o hc hl=>iH c hc (fun e=>hlb o (e▸hl))
 have bS:RS C.N s ⟨a.tmps,[]⟩ w' A sp:=by
  refine h.rs.world hcell (fun _ _ ha=>ha) gq (fun c cs hc=>hbl c 0 (h.rs.abT hc) (.inl (by rw[hc];exact fun e=>by cases e))) (fun r hr=> ?_) (fun c o ha=>⟨Nat.lt_of_lt_of_le (h.rs.av c o ha).1 hle,(h.rs.av c o ha).2⟩)
  obtain⟨⟨vs,T,h1,h2⟩,_⟩:=h.rs.bW r hr
  exact⟨vs,T,(hbl _ (sp r).2.1 (cc h1) (.inr ⟨r,rfl,Nat.le_refl _,hr⟩)).trans h1,h2⟩
 have oT:=bS.ghost (oS+b) hx
 have eC:∀c,c≠b→(s.set (oS+b) x).env (oS+c)=s.env (oS+c):=fun c hc=>Z5 _ _ (by omega)
 have D3:(s.set (oS+b) x).env (oS+b)=x:=cI _ _ _
 have aJ:Ev w A (held s sp) w' A (held (s.set (oS+b) x) sp):=by
  refine⟨hos.1,hos.2.1,hos.2.2,hle,fun c o hc hl=> ?_,fun c hc hl=> ?_,fun _ _ ha=>ha,fun _ _ ha=>.inl ha⟩
  ·have hcb:c≠b∨(c=b∧False):=by
    by_cases e:c=b
    ·subst e
     rcases hfr with hf|hf
     ·exact absurd (.inr hf) hl
     ·omega
    ·exact .inl e
   rcases hcb with hcb|⟨_,hf⟩
   ·refine⟨World.cell?_of_block (iH c hc hcb),fun hh=> ?_⟩
    rcases hh with hh|hh
    ·exact hl (.inl hh)
    ·exact hl (.inr (by simp only[cv,eC c hcb] at hh;exact hh))
   ·exact hf.elim
  ·refine iH c hc fun e=> ?_
   subst e
   rcases hfr with hf|hf
   ·exact hl 0 (.inr hf)
   ·omega
 refine h.step (a':=a) oT aJ (fun k hk=> ?_) ?_ (fun c=> ?_) (fun c o hc ha=> ?_) rfl
 ·by_cases e:k=oS+b
  ·subst e;rw[D3];exact hx
  ·rw[show(s.set (oS+b) x).env k=s.env k from Z5 _ _ e];exact h.ig k hk
 ·exact Z5 _ _ (Nat.ne_of_lt (abd b))
 ·by_cases e:c=b
  ·subst e;rw[D3];exact cm
  ·rw[eC c e]
   refine(h.ob c).mono (fun hne=> ?_) (fun b o v ha hv=>⟨hcell b o v ha hv,ha⟩) gq
   obtain⟨ob,g1,_⟩:=(h.ob c).block hne
   exact iH c (cc g1) e
 ·by_cases e:c=b
  ·subst e;exact yJ o ha
  ·simp only[cv,eC c e] at hc;exact h.oa c o hc ha
theorem GS.put(h:GS C Pt s a w A Lx sp){d:Nat}(hd:d<C.N)(hg:d<gS){x:AV}{v:Value}(hr:RV w A x v)(ho:bV sp x v):GS C Pt (s.set d x) (a.put (some d) v) w A Lx sp:=by
 have h1:RS C.N (s.set d x) ⟨(a.put (some d) v).tmps,[]⟩ w A sp:=h.rs.put hd hr ho
 have h2:=(h.own (a':=a.put (some d) v) h1 (.refl _ _ _) (fun k hk=>Z5 _ _ (by omega)) rfl).1
 exact h2
theorem iI{s:St}{d:Nat}(hd:d<gS)(x:AV)(sp:Sp):held (s.set d x) sp=held s sp:=by
 unfold held
 have:cv (s.set d x)=cv s:=by funext b o;simp only[cv];rw[show(s.set d x).env (oS+b)=s.env (oS+b) from Z5 _ _ (by simp only[gS,oS] at*;omega)]
 rw[this];rfl
theorem Of{T:TypeId}{x:Operand}{mx:ai}(hop:o.op=.range T x)(hd:o.dst=some d)(hN:d<C.N)(aW:C.N≤gS)(ht:P.underlying T=some .string)(hx:aC x=some mx)(h:GS C Pt s a w A Lx sp)(hv:Z2 P (.ja d mx) s K)(hn:eU C Pt s w A Lx sp a.defers K rest):o.wpIn (Fw C.ro) 0 P a w rest Q:=by
 have h1:RV w A (mx.ev s.env) (a.eval x):=(bf h.rs hx).1
 simp only[Z2] at hv
 split at hv
 ·rename_i t e1
  rw[e1] at h1
  have sG:s.env (oS+w.heap.size)=.any:=Classical.byContradiction fun hne=>by
   obtain⟨ob,g1,_⟩:=(h.ob w.heap.size).block hne
   exact absurd (cc g1) (Nat.lt_irrefl _)
  have hK:=hv w.heap.size h.rs.fresh sG
  generalize aR:a.eval x=v0 at h1
  cases h1
  have hrun:(execOp a.eval o).run P w=.ok (.value (.pointer (some ⟨w.heap.size,0,none⟩))) (w.alloc (.stringIter t 0)):=by simp[execOp,hop,aR,Instr.range,run_underlying ht]
  refine lz (by rw[hop];intro c e;cases e) hrun ?_
  obtain⟨g1,g2⟩:=h.obj (b:=w.heap.size) (x:=aaU t 0) (w':=w.alloc (.stringIter t 0)) rfl (.inr rfl) (by rw[gJ];omega) ⟨rfl,rfl,rfl⟩ (fun c hc _=>heap_alloc _ _ _ hc) (.iter t 0 (p7 _ _))
  rw[hd]
  have cS:d<gS:=Nat.lt_of_lt_of_le hN aW
  exact hn _ _ _ _ _ _ hK (g1.put hN cS (.aj _ _) trivial) (by rw[iI cS];exact g2) rfl
 ·exact hv.elim
theorem Og{x:Operand}{mx:ai}(hop:o.op=.next x true)(hd:o.dst=some d)(hN:d<C.N)(aW:C.N≤gS)(hx:aC x=some mx)(h:GS C Pt s a w A Lx sp)(hv:Z2 P (.jb d mx) s K)(hn:eU C Pt s w A Lx sp a.defers K rest):o.wpIn (Fw C.ro) 0 P a w rest Q:=by
 have h1:RV w A (mx.ev s.env) (a.eval x):=(bf h.rs hx).1
 have cS:d<gS:=Nat.lt_of_lt_of_le hN aW
 simp only[Z2] at hv
 split at hv
 ·rename_i b e1
  rw[e1] at h1
  obtain⟨t,pos,e2,hv1,hv2⟩:=hv
  have cm:=h.ob b
  rw[e2] at cm
  have hne:s.env (oS+b)≠.any:=by rw[e2];intro e;cases e
  generalize aR:a.eval x=v0 at h1
  cases h1
  have aaf:w.heap[b]? =some (.stringIter t pos):=by
   generalize hz:aaU t pos=z at cm
   cases cm with
   |any=>cases hz
   |iter t' pos' hh=>injection hz with z1 z2;injection z2 with z3;injection z3 with z4;injection z4 with z5;injection z5 with z6;rw[z1,z6];exact hh
   |map=>injection hz with _ _ z3;cases z3
   |nu=>injection hz with _ z2;injection z2 with z3;injection z3 with z4;injection z4 with z5;cases z5
  by_cases hp:pos<t.size
  ·have hrun:(execOp a.eval o).run P w=.ok (.value (.tuple #[.bool true,.int .i64 pos,.int .i32 (Utf8.decode t pos).1])) (w.putObj b (.stringIter t (pos+(Utf8.decode t pos).2))):=by simp[execOp,hop,aR,Instr.next,getObj,setObj,Sem.run,aaf,hp,Result.andThen,World.putObj,goInt]
   refine lz (by rw[hop];intro c e;cases e) hrun ?_
   obtain⟨g1,g2⟩:=h.obj (b:=b) (x:=aaU t (pos+(Utf8.decode t pos).2)) (w':=w.putObj b (.stringIter t (pos+(Utf8.decode t pos).2))) rfl (.inl hne) (by simp) ⟨rfl,rfl,rfl⟩ (fun c hc hcb=>World.putObj_heap_other hcb) (.iter t _ (World.putObj_heap_same (cc aaf)))
   rw[hd]
   refine hn _ _ _ _ _ _ (hv1 hp) (g1.put hN cS (.tuple _ _ rfl fun i=> ?_) trivial) (by rw[iI cS];exact g2) rfl
   match i with
   |0=>exact .lit _ rfl
   |1=>exact .lit _ rfl
   |2=>exact .lit _ rfl
   |i+3=>simp;exact .any _
  ·have hrun:(execOp a.eval o).run P w=.ok (.value (.tuple #[.bool false])) w:=by simp[execOp,hop,aR,Instr.next,getObj,Sem.run,aaf,hp,Result.andThen]
   refine lz (by rw[hop];intro c e;cases e) hrun ?_
   rw[hd]
   refine hn _ _ _ _ _ _ (hv2 hp) (h.put hN cS (.tuple _ _ rfl fun i=> ?_) trivial) (by rw[iI cS];exact .refl _ _ _) rfl
   match i with
   |0=>exact .lit _ rfl
   |i+1=>simp;exact .any _
 ·exact hv.elim
theorem Oh{T:TypeId}(hop:o.op=.makeMap T none)(hd:o.dst=some d)(hN:d<C.N)(aW:C.N≤gS)(h:GS C Pt s a w A Lx sp)(hv:Z2 P (.mkMap d) s K)(hn:eU C Pt s w A Lx sp a.defers K rest):o.wpIn (Fw C.ro) 0 P a w rest Q:=by
 simp only[Z2] at hv
 have sG:s.env (oS+w.heap.size)=.any:=Classical.byContradiction fun hne=>by
  obtain⟨ob,g1,_⟩:=(h.ob w.heap.size).block hne
  exact absurd (cc g1) (Nat.lt_irrefl _)
 have hK:=hv w.heap.size h.rs.fresh sG
 have hrun:(execOp a.eval o).run P w=.ok (.value (.map (some w.heap.size))) (w.alloc (.map #[] 0)):=by simp[execOp,hop,Instr.makeMap]
 refine lz (by rw[hop];intro c e;cases e) hrun ?_
 obtain⟨g1,g2⟩:=h.obj (b:=w.heap.size) (x:=a_ []) (w':=w.alloc (.map #[] 0)) rfl (.inr rfl) (by rw[gJ];omega) ⟨rfl,rfl,rfl⟩ (fun c hc _=>heap_alloc _ _ _ hc) (.map [] #[] 0 (p7 _ _) rfl rfl (fun i e he=>by simp at he))
 rw[hd]
 have cS:d<gS:=Nat.lt_of_lt_of_le hN aW
 exact hn _ _ _ _ _ _ hK (g1.put hN cS (.aZ _) trivial) (by rw[iI cS];exact g2) rfl
end
end Go.Z4
namespace Go.Z4
open Go.RowKit
section
variable {P:Program} {w:World} {A:aK}
theorem Oi{t:TypeId}{n:List Bool}{as bs:List AV}{xs ys:Array Value}{q:Bool}(ht:oB P t=some n)(l1:as.length=n.length)(l2:bs.length=n.length)(dR:xs.size=as.length)(dF:ys.size=bs.length)(eS:∀i,RV w A (as.getD i .any) (xs.getD i undef))(cE:∀i,RV w A (bs.getD i .any) (ys.getD i undef))(hq:cD n as bs=some q):(Op.equal t (.agg xs) (.agg ys)).run P w=.ok q w:=by
 unfold oB at ht
 split at ht
 ·rename_i fs hu
  split at ht
  ·rename_i hc
   injection ht with ht
   simp only[Bool.and_eq_true,Bool.not_eq_true'] at hc
   obtain⟨⟨hf,hst⟩,hg⟩:=hc
   have hfo:P.fieldsOf t=fs:=by simp[Program.fieldsOf,hu]
   show(Op.equalIn (9999+1) t _ _).run P w=_
   rw[run_equalIn_struct w 9999 t xs ys (by rw[hfo];exact hu) hst,hfo]
   exact xZ (P:=P) (w:=w) 9998 xs ys as bs dR dF eS cE fs.toList (l9 P fs.toList) 0 q hf (by rw[l1,←ht];simp[l9]) (by rw[l2,←ht];simp[l9]) (by rw[ht];simpa using hq)
  ·cases ht
 ·cases ht
def ku(P:Program)(k:TypeId)(key:AV):Bool:=
 match P.underlying k,key with
 |some (.int _),.lit (.int _ _)=>true
 |some .string,.lit (.string _)=>true
 |some (.array n e),.agg xs=>decide (xs.length=n)&&ny P e
 |some (.struct _),.agg xs=>match oB P k with
  |some n=>decide (n=List.replicate xs.length false)
  |none=>false
 |_,_=>false
theorem D4(s:ByteArray):∀(n i:Nat) (r:List UInt8),s.size - i=n→ByteArray.toList.loop s i r=r.reverse++s.data.toList.drop i
 |0,i,r,h=>by
  unfold ByteArray.toList.loop
  have:¬i<s.size:=by omega
  rw[if_neg this,List.drop_of_length_le (by simpa using(by omega:s.size≤i)),List.append_nil]
 |n+1,i,r,h=>by
  unfold ByteArray.toList.loop
  have hi:i<s.size:=by omega
  rw[if_pos hi,D4 s n (i+1) _ (by omega)]
  have e:s.data.toList.drop i=s.get! i::s.data.toList.drop (i+1):=by
   rw[List.drop_eq_getElem_cons (by simpa using hi)]
   congr 1
   cases s with
   |mk a=>
    have hi':i<a.size:=hi
    simp[ByteArray.get!,hi']
  rw[e]
  simp
theorem D5(s:ByteArray):s.toList=s.data.toList:=by
 unfold ByteArray.toList
 rw[D4 s _ 0 [] rfl];simp
theorem bytes_beq(a b:ByteArray):(a==b)=(a.toList==b.toList):=by
 rw[show(a==b)=(a.data==b.data) from rfl,D5,D5,Bool.eq_iff_iff]
 simp
theorem yK{k:TypeId}{x y:AV}{vx vy:Value}{q:Bool}(hk:ku P k x=true)(hx:RV w A x vx)(hy:RV w A y vy)(he:dj x y=some q):(((∃fs,P.underlying k=some (.struct fs))∨∃n e,P.underlying k=some (.array n e))∨∃dd,P.underlying k=some dd∧Instr.sameNow dd vx vy=some q)∧(Op.equal k vx vy).run P w=.ok q w:=by
 unfold ku at hk
 split at hk
 ·rename_i kd kk n hu
  cases y with
  |lit v=>
   cases v with
   |int k' b=>
    simp only[dj] at he
    split at he
    ·rename_i e;subst e
     injection he with he;subst he
     have e1:=hx.cJ;have e2:=hy.cJ
     subst e1 e2
     refine⟨.inr ⟨.int kd,hu,by simp[Instr.sameNow]⟩,?_⟩
     show(Op.equalIn (9999+1) k _ _).run P w=_
     exact run_equalIn_int w 9999 k kk kd n b hu
    ·cases he
   |_=>simp[dj] at he
  |_=>simp[dj] at he
 ·rename_i p hu
  cases y with
  |lit v=>
   cases v with
   |string p2=>
    simp only[dj] at he
    injection he with he;subst he
    cases hx with
    |lit _ _=>cases hy with
     |lit _ _=>
      refine⟨.inr ⟨.string,hu,by simp only[Instr.sameNow,bytes_beq]⟩,?_⟩
      show(Op.equalIn (9999+1) k _ _).run P w=_
      exact run_equalIn_string w 9999 k p p2 hu
   |_=>simp[dj] at he
  |_=>simp[dj] at he
 ·rename_i n e xs hu
  simp only[Bool.and_eq_true,decide_eq_true_eq] at hk
  cases y with
  |agg ys=>
   simp only[dj] at he
   cases hx with
   |agg _ cB dR eS=>cases hy with
    |agg _ fU dF cE=>exact⟨.inl (.inr ⟨n,e,hu⟩),Dj hu hk.2 hk.1 dR dF eS cE he⟩
  |_=>simp[dj] at he
 ·rename_i fs xs hu
  split at hk
  ·rename_i n hn
   have hl:n=List.replicate xs.length false:=of_decide_eq_true hk
   cases y with
   |agg ys=>
    simp only[dj] at he
    cases hx with
    |agg _ cB dR eS=>cases hy with
     |agg _ fU dF cE=>
      exact⟨.inl (.inl ⟨fs,hu⟩),Oi hn (by rw[hl];simp) (by rw[hl,←(acG he).1];simp) dR dF eS cE (by rw[hl];exact he)⟩
   |_=>simp[dj] at he
  ·cases hk
 ·cases hk
theorem D6{k:TypeId}{x:AV}{vx:Value}(hk:ku P k x=true)(hx:RV w A x vx):∀(es:List (List AV)) (es':List MapEntry) (i:Nat) (r:Option Nat),es'.length=es.length→
  (∀j e,es'[j]? =some e→RV w A ((es.getD j []).getD 0 .any) e.key)→Z8 x es i=some r→
  (Instr.findAsking k vx es' i).run P w=.ok (r.bind fun j=>(es'[j - i]?).map fun e=>(j,e.val)) w∧∀j,r=some j→i≤j∧j<i+es.length
 |[],[],i,r,_,_,h=>by injection h with h;subst h;exact⟨rfl,fun j e=>by cases e⟩
 |e::es,e'::es',i,r,hl,hr,h=>by
  have h0:=hr 0 e' rfl
  simp only[Z8] at h
  simp only[Instr.findAsking]
  split at h
  ·rename_i hq
   injection h with h;subst h
   have:=(yK hk hx (by simpa using h0) hq).2
   refine⟨by simp[Sem.run_bind,this],fun j e=>by injection e with e;subst e;simp⟩
  ·rename_i hq
   have h1:=(yK hk hx (by simpa using h0) hq).2
   obtain⟨g1,g2⟩:=D6 hk hx es es' (i+1) r (by simpa using hl) (fun j e he=>by have:=hr (j+1) e (by simpa using he);simpa using this) h
   refine⟨?_,fun j e=>by have:=g2 j e;simp;omega⟩
   simp only[Sem.run_bind,h1,Result.andThen_ok,Bool.false_eq_true,if_false,g1]
   cases r with
   |none=>rfl
   |some j=>
    have:=g2 j rfl
    have e:j - i=(j - (i+1))+1:=by omega
    simp only[Option.bind_some,e,List.getElem?_cons_succ]
  ·cases h
 |[],_::_,_,_,h,_,_=>by simp at h
 |_::_,[],_,_,h,_,_=>by simp at h
theorem yL{k:TypeId}{dd:TypeDesc}(hu:P.underlying k=some dd)(mC:∀fs,dd≠.struct fs)(hna:∀n e,dd≠.array n e){x:AV}{vx:Value}(hk:ku P k x=true)(hx:RV w A x vx):∀(es:List (List AV)) (es':List MapEntry) (i:Nat) (r:Option Nat),es'.length=es.length→
  (∀j e,es'[j]? =some e→RV w A ((es.getD j []).getD 0 .any) e.key)→Z8 x es i=some r→
  Instr.findNow dd vx es' i=some (r.bind fun j=>(es'[j - i]?).map fun e=>(j,e.val))∧∀j,r=some j→i≤j∧j<i+es.length
 |[],[],i,r,_,_,h=>by injection h with h;subst h;exact⟨rfl,fun j e=>by cases e⟩
 |e::es,e'::es',i,r,hl,hr,h=>by
  have h0:=hr 0 e' rfl
  have hs:∀q,dj x (e.getD 0 .any)=some q→Instr.sameNow dd vx e'.key=some q:=by
   intro q hq
   rcases(yK hk hx (by simpa using h0) hq).1 with (⟨fs,h1⟩|⟨n,e,h1⟩)|⟨Zp,h1,h2⟩
   ·rw[hu] at h1;injection h1 with h1;exact absurd h1 (mC fs)
   ·rw[hu] at h1;injection h1 with h1;exact absurd h1 (hna n e)
   ·rw[hu] at h1;injection h1 with h1;subst h1;exact h2
  simp only[Z8] at h
  simp only[Instr.findNow]
  split at h
  ·rename_i hq
   injection h with h;subst h
   rw[hs _ hq]
   refine⟨by simp,fun j e=>by injection e with e;subst e;simp⟩
  ·rename_i hq
   rw[hs _ hq]
   obtain⟨g1,g2⟩:=yL hu mC hna hk hx es es' (i+1) r (by simpa using hl) (fun j e he=>by have:=hr (j+1) e (by simpa using he);simpa using this) h
   refine⟨?_,fun j e=>by have:=g2 j e;simp;omega⟩
   simp only[g1]
   cases r with
   |none=>rfl
   |some j=>
    have:=g2 j rfl
    have e:j - i=(j - (i+1))+1:=by omega
    simp only[Option.bind_some,e,List.getElem?_cons_succ]
  ·cases h
 |[],_::_,_,_,h,_,_=>by simp at h
 |_::_,[],_,_,h,_,_=>by simp at h
theorem qt{k:TypeId}{x:AV}{vx:Value}(hk:ku P k x=true)(hx:RV w A x vx){es:List (List AV)}{es':List MapEntry}{r:Option Nat}(hl:es'.length=es.length)
  (hr:∀j e,es'[j]? =some e→RV w A ((es.getD j []).getD 0 .any) e.key)(h:Z8 x es 0=some r):
  (Instr.findKey k vx es').run P w=.ok (r.bind fun j=>(es'[j]?).map fun e=>(j,e.val)) w∧∀j,r=some j→j<es.length:=by
 unfold Instr.findKey
 cases hu:P.underlying k with
 |none=>unfold ku at hk;rw[hu] at hk;cases hk
 |some dd=>
  rw[Sem.run_bind,run_underlying hu,Result.andThen_ok]
  have sH:=D6 hk hx es es' 0 r hl hr h
  simp only[Nat.sub_zero,Nat.zero_add] at sH
  cases dd with
  |int kd=>
   obtain⟨g1,g2⟩:=yL hu (fun _ e=>by cases e) (fun _ _ e=>by cases e) hk hx es es' 0 r hl hr h
   simp only[g1,Nat.sub_zero,Nat.zero_add] at g1 g2⊢
   exact⟨rfl,fun j e=>(g2 j e).2⟩
  |string=>
   obtain⟨g1,g2⟩:=yL hu (fun _ e=>by cases e) (fun _ _ e=>by cases e) hk hx es es' 0 r hl hr h
   simp only[g1,Nat.sub_zero,Nat.zero_add] at g1 g2⊢
   exact⟨rfl,fun j e=>(g2 j e).2⟩
  |array n e=>
   refine⟨?_,fun j e=>(sH.2 j e).2⟩
   cases es' with
   |nil=>
    have:es=[]:=List.eq_nil_of_length_eq_zero (by simpa using hl.symm)
    subst this
    injection h with h;subst h
    rfl
   |cons e' es'=>simp only[Instr.findNow,Instr.sameNow];exact sH.1
  |struct fs=>
   refine⟨?_,fun j e=>(sH.2 j e).2⟩
   cases es' with
   |nil=>
    have:es=[]:=List.eq_nil_of_length_eq_zero (by simpa using hl.symm)
    subst this
    injection h with h;subst h
    rfl
   |cons e' es'=>simp only[Instr.findNow,Instr.sameNow];exact sH.1
  |_=>unfold ku at hk;rw[hu] at hk;cases hk
theorem D7(em:Bool)(n:Nat)(cB:Array Value)(xs:List AV)(hs:cB.size=xs.length):∀(fs:List Field) (ks:List Bool) (k:Nat),oA P ks k fs=true→k+fs.length≤xs.length→
  (forIn fs PUnit.unit (fun f (_:PUnit)=>do
    if f.name≠ "_" then Instr.checkKey em (n+1) f.type (←part f.type cB f.offset)
    pure (ForInStep.yield PUnit.unit)):Sem PUnit).run P w=.ok PUnit.unit w
 |[],_,_,_,_=>rfl
 |_::_,[],_,hf,_=>by cases hf
 |f::fs,kq::ks,k,hf,hl=>by
  simp only[List.length_cons] at hl
  simp only[oA,Bool.and_eq_true,bne_iff_ne,beq_iff_eq] at hf
  obtain⟨⟨⟨hn,hoff⟩,ht⟩,qj⟩:=hf
  have ih:=D7 em n cB xs hs fs ks (k+1) qj (by omega)
  have e1:cB[k]? =some (cB.getD k undef):=by rw[Array.getD_eq_getD_getElem?,Array.getElem?_eq_getElem (by omega)];rfl
  have aby:(isAgg f.type).run P w=.ok false w:=by
   unfold isAgg
   cases hu:P.underlying f.type with
   |none=>rw[hu] at ht;cases kq<;>cases ht
   |some dd=>rw[hu] at ht;rw[Sem.run_bind,run_underlying hu];cases kq<;>cases dd<;>first|rfl|cases ht
  have p1:(part f.type cB f.offset).run P w=.ok (cB.getD k undef) w:=by
   generalize cB.getD k undef=v at e1
   simp[part,Sem.run_bind,aby,hoff,e1]
  have c1:∀v,(Instr.checkKey em (n+1) f.type v).run P w=.ok () w:=by
   intro v
   cases hu:P.underlying f.type with
   |none=>rw[hu] at ht;cases kq<;>cases ht
   |some dd=>
    rw[hu] at ht
    simp only[Instr.checkKey,Sem.run_bind,run_underlying hu,Result.andThen_ok]
    cases kq<;>cases dd<;>first|rfl|cases ht
  simp only[List.forIn_cons,hn,ne_eq,not_false_eq_true,if_true,Sem.run_bind,p1,c1,Result.andThen_ok,Sem.run_pure]
  exact ih
theorem Oj(em:Bool)(n:Nat){k:TypeId}{kd kk:IntKind}{m:Int}(hu:P.underlying k=some (.int kd)):(Instr.checkKey em (n+1) k (.int kk m)).run P w=.ok () w:=by
 simp only[Instr.checkKey,Sem.run_bind,run_underlying hu,Result.andThen_ok]
 rfl
theorem Ok(em:Bool)(n:Nat){k:TypeId}{s:ByteArray}(hu:P.underlying k=some .string):(Instr.checkKey em (n+1) k (.string s)).run P w=.ok () w:=by
 simp only[Instr.checkKey,Sem.run_bind,run_underlying hu,Result.andThen_ok]
 rfl
theorem Ol(em:Bool)(n:Nat){k:TypeId}{fs:Array Field}(hu:P.underlying k=some (.struct fs)){xs:List AV}{cB:Array Value}(hs:cB.size=xs.length){ks:List Bool}(hf:oA P ks 0 fs.toList=true)(hl:fs.size≤xs.length):(Instr.checkKey em (n+2) k (.agg cB)).run P w=.ok () w:=by
 have:=D7 (w:=w) em n cB xs hs fs.toList ks 0 hf (by simp;omega)
 rw[show n+2=(n+1)+1 from rfl]
 unfold Instr.checkKey
 simp only[Sem.run_bind,run_underlying hu,Result.andThen_ok]
 rw[←Array.forIn_toList,this]
 rfl
theorem Om(em:Bool)(m:Nat){k e:TypeId}{n:Nat}(hu:P.underlying k=some (.array n e))(hE:ny P e=true){cB:Array Value}(hs:cB.size=n):(Instr.checkKey em (m+2) k (.agg cB)).run P w=.ok () w:=by
 obtain⟨kd,i,h1,h2,h3⟩:=Dh hE
 have hsz:i.size=1:=by simpa[Program.cellsOf,h2] using h3
 have aby:(isAgg e).run P w=.ok false w:=by
  unfold isAgg
  rw[Sem.run_bind,run_underlying h1]
  rfl
 have On:(sizeOf e).run P w=.ok 1 w:=by simp[sizeOf,typeInfo,h2,hsz]
 have c1:∀v,(Instr.checkKey em (m+1) e v).run P w=.ok () w:=by
  intro v
  simp only[Instr.checkKey,Sem.run_bind,run_underlying h1,Result.andThen_ok]
  rfl
 rw[show m+2=(m+1)+1 from rfl]
 unfold Instr.checkKey
 simp only[Sem.run_bind,run_underlying hu,Result.andThen_ok]
 simp only[Std.Legacy.Range.forIn_eq_forIn_range',Std.Legacy.Range.size,Nat.sub_zero,Nat.add_one_sub_one,Nat.div_one]
 have key:∀(l:List Nat),(∀j∈l,j<n)→(forIn l PUnit.unit (fun i (_:PUnit)=>do
   Instr.checkKey em (m+1) e (←part e cB (i*(←sizeOf e)))
   pure (ForInStep.yield PUnit.unit)):Sem PUnit).run P w=.ok PUnit.unit w:=by
  intro l
  induction l with
  |nil=>intro _;rfl
  |cons j l ih=>
   intro hl
   have hj:=hl j (List.mem_cons_self ..)
   have e1:cB[j]? =some (cB.getD j undef):=by rw[Array.getD_eq_getD_getElem?,Array.getElem?_eq_getElem (by omega)];rfl
   have p1:(part e cB (j*1)).run P w=.ok (cB.getD j undef) w:=by simp only[part,Sem.run_bind,aby,Nat.mul_one,e1,Result.andThen_ok];rfl
   simp only[List.forIn_cons,Sem.run_bind,On,Result.andThen_ok,p1,c1,Sem.run_pure]
   exact ih fun i hi=>hl i (List.mem_cons_of_mem _ hi)
 rw[key (List.range' 0 n) fun j hj=>by obtain⟨i,h4,h5⟩:=List.mem_range'.1 hj;omega]
 rfl
theorem yM(em:Bool){k:TypeId}{x:AV}{vx:Value}(hk:ku P k x=true)(hx:RV w A x vx):(Instr.checkKey em 10000 k vx).run P w=.ok () w:=by
 unfold ku at hk
 split at hk
 ·rename_i kd kk n hu
  have e1:=hx.cJ
  subst e1
  exact Oj em 9999 hu
 ·rename_i p hu
  cases hx with
  |lit _ _=>exact Ok em 9999 hu
 ·rename_i n e xs hu
  simp only[Bool.and_eq_true,decide_eq_true_eq] at hk
  cases hx with
  |agg _ cB dR eS=>exact Om em 9998 hu hk.2 (dR.trans hk.1)
 ·rename_i fs xs hu
  split at hk
  ·rename_i n hn
   have hl:n=List.replicate xs.length false:=of_decide_eq_true hk
   cases hx with
   |agg _ cB dR eS=>
    unfold oB at hn
    rw[hu] at hn
    simp only at hn
    split at hn
    ·rename_i hc
     injection hn with hn
     simp only[Bool.and_eq_true] at hc
     exact Ol em 9998 hu dR hc.1.1 (by have:=congrArg List.length (hn.trans hl);simp[l9] at this;omega)
    ·cases hn
  ·cases hk
 ·cases hk
theorem Oo:∀{n:Nat} {as bs:List AV},cD (List.replicate n false) as bs=some true→as=bs∧∀x∈as,∃k n,x=.lit (.int k n):=by
 intro n
 induction n with
 |zero=>
  intro as bs h
  obtain⟨h1,h2⟩:=acG h
  have e1:as=[]:=List.eq_nil_of_length_eq_zero (by simpa using h2)
  subst e1
  have e2:bs=[]:=List.eq_nil_of_length_eq_zero (by simpa using h1.symm)
  subst e2
  exact⟨rfl,by simp⟩
 |succ n ih=>
  intro as bs h
  rw[List.replicate_succ] at h
  unfold cD at h
  split at h
  ·rename_i e;cases e
  ·rename_i ks' k p xs' k' p' ys' e
   injection e with _ e;subst e
   split at h
   ·rename_i hk;subst hk
    simp only[Option.map_eq_some_iff,Bool.and_eq_true,beq_iff_eq] at h
    obtain⟨q',gL,rfl,rfl⟩:=h
    obtain⟨rfl,g⟩:=ih gL
    refine⟨rfl,fun z hz=> ?_⟩
    rcases List.mem_cons.1 hz with rfl|hz
    ·exact⟨_,_,rfl⟩
    ·exact g z hz
   ·cases h
  ·rename_i e;cases e
  ·cases h
theorem D8(n:Nat):∀(xs:List AV) (us vs:List Value),us.length=xs.length→vs.length=xs.length→(∀x∈xs,∃k m,x=AV.lit (.int k m))→(∀i,RV w A (xs.getD i .any) (us.getD i undef))→(∀i,RV w A (xs.getD i .any) (vs.getD i undef))→((us.zip vs).all fun(x,y)=>Instr.sameBits n x y)=true
 |[],us,vs,h1,h2,_,_,_=>by
  have:us=[]:=List.eq_nil_of_length_eq_zero h1
  subst this;rfl
 |x::xs,u::us,v::vs,h1,h2,hx,hu,hv=>by
  obtain⟨k,m,rfl⟩:=hx x (List.mem_cons_self ..)
  have e1:=(hu 0);have e2:=(hv 0)
  simp only[List.getD_eq_getElem?_getD,List.getElem?_cons_zero,Option.getD_some] at e1 e2
  have e1:=e1.cJ;have e2:=e2.cJ
  subst e1 e2
  have ih:=D8 n xs us vs (by simpa using h1) (by simpa using h2) (fun y hy=>hx y (List.mem_cons_of_mem _ hy)) (fun i=>by simpa using hu (i+1)) (fun i=>by simpa using hv (i+1))
  simp only[List.zip_cons_cons,List.all_cons,ih,Bool.and_true]
  cases n<;>simp[Instr.sameBits]
 |_::_,[],_,h,_,_,_,_=>by simp at h
 |_::_,_::_,[],_,h,_,_,_=>by simp at h
theorem D9{x y:AV}{vx vy:Value}(hx:RV w A x vx)(hy:RV w A y vy)(he:dj x y=some true):(Instr.keyThatStays vy vx).run P w=.ok vx w:=by
 have hs:Instr.sameBits (9999+1) vy vx=true:=by
  unfold dj at he
  split at he
  ·split at he
   ·rename_i hk;subst hk
    injection he with he
    have e1:=hx.cJ;have e2:=hy.cJ
    subst e1 e2
    simp only[Instr.sameBits,beq_self_eq_true,Bool.true_and]
    simp only[beq_iff_eq] at he⊢
    exact he.symm
   ·cases he
  ·injection he with he
   cases hx with
   |lit _ _=>cases hy with
    |lit _ _=>
     simp only[Instr.sameBits,bytes_beq]
     simp only[beq_iff_eq] at he⊢
     exact he.symm
  ·rename_i xs ys
   obtain⟨rfl,hall⟩:=Oo he
   cases hx with
   |agg _ cB dR eS=>cases hy with
    |agg _ fU dF cE=>
     have:=D8 (w:=w) (A:=A) 9999 xs fU.toList cB.toList (by simpa using dF) (by simpa using dR) hall (fun i=>by have:=cE i;simpa[List.getD_eq_getElem?_getD,Array.getD_eq_getD_getElem?] using this) (fun i=>by have:=eS i;simpa[List.getD_eq_getElem?_getD,Array.getD_eq_getD_getElem?] using this)
     simp only[Instr.sameBits,dR,dF,beq_self_eq_true,Bool.true_and]
     exact this
  ·cases he
 unfold Instr.keyThatStays
 rw[if_pos hs]
 rfl
theorem yN:∀{es:List (List AV)} {x:AV} {i j:Nat},Z8 x es i=some (some j)→i≤j∧dj x ((es.getD (j - i) []).getD 0 .any)=some true
 |[],x,i,j,h=>by simp[Z8] at h
 |e::es,x,i,j,h=>by
  simp only[Z8] at h
  split at h
  ·rename_i hq
   injection h with h;injection h with h;subst h
   exact⟨Nat.le_refl _,by simpa using hq⟩
  ·obtain⟨g1,g2⟩:=yN h
   refine⟨by omega,?_⟩
   rw[show j - i=(j - (i+1))+1 by omega]
   simpa using g2
  ·cases h
def nN(P:Program)(kt:TypeId):Option (Option Nat):=
 match P.underlying kt with
 |some (.int _)=>some none
 |some .string=>some (some 999)
 |some (.array n e)=>if ny P e&&n != 999 then some (some n) else none
 |some (.struct _)=>(oB P kt).bind fun ks=>if ks=List.replicate ks.length false∧ks.length≠999 then some (some ks.length) else none
 |_=>none
theorem Oq{x:AV}(h:eL none x):∃k n,x=.lit (.int k n):=by
 unfold eL at h
 split at h<;>first|exact h.elim|exact⟨_,_,rfl⟩|(rename_i e;cases e)
theorem Ot{x:AV}(h:eL (some 999) x):∃s,x=.lit (.string s):=by
 unfold eL at h
 split at h<;>first|exact h.elim|exact⟨_,rfl⟩|(rename_i e;cases e;done)|skip
 rename_i hno e
 injection e with e
 exact absurd e.symm h.1
theorem D_{n:Nat}(hn:n≠999){x:AV}(h:eL (some n) x):∃xs,x=.agg xs∧xs.length=n:=by
 unfold eL at h
 split at h
 ·rename_i e;cases e
 ·rename_i e;injection e with e;exact absurd e hn
 ·rename_i m xs e;injection e with e;subst e;exact⟨_,rfl,h.2⟩
 ·exact h.elim
theorem yO{kt:TypeId}{n:Option Nat}{x:AV}(h:nN P kt=some n)(hx:eL n x):ku P kt x=true:=by
 unfold nN at h
 unfold ku
 split at h
 ·rename_i kd hu
  injection h with h;subst h
  obtain⟨k,m,rfl⟩:=Oq hx
  rw[hu]
 ·rename_i hu
  injection h with h;subst h
  obtain⟨s,rfl⟩:=Ot hx
  rw[hu]
 ·rename_i n e hu
  split at h
  case isFalse=>cases h
  rename_i hE
  injection h with h;subst h
  simp only[Bool.and_eq_true,bne_iff_ne,ne_eq] at hE
  obtain⟨xs,rfl,hl⟩:=D_ hE.2 hx
  rw[hu]
  simp only[hl,hE.1,decide_true,Bool.and_self]
 ·rename_i fs hu
  simp only[Option.bind_eq_some_iff] at h
  obtain⟨m,hm,h⟩:=h
  split at h
  case isFalse=>cases h
  rename_i hmr
  injection h with h;subst h
  obtain⟨xs,rfl,hl⟩:=D_ hmr.2 hx
  rw[hu];simp only[hm];exact decide_eq_true (by rw[hl];exact hmr.1)
 ·cases h
end
section
variable {P:Program} {C:Ctx P} {Pt:List (Nat×Obj)} {s:St} {a:Act} {w:World} {A Lx:aK} {sp:Sp} {o:Oper} {d:Nat} {K:St→Prop} {rest:Act→World→Prop} {Q:Exit→Act→World→Prop}
theorem GS.mD(h:GS C Pt s a w A Lx sp){b:Nat}{es:List (List AV)}(he:s.env (oS+b)=a_ es):∃es' clock,w.heap[b]? =some (.map es' clock)∧es'.size=es.length∧(∀i e,es'[i]? =some e→RV w A ((es.getD i []).getD 0 .any) e.key∧RV w A ((es.getD i []).getD 1 .any) e.val)∧clock=es'.size∧∀(i:Nat) (e:MapEntry),es'[i]? =some e→e.born=i:=by
 have cm:=h.ob b
 rw[he] at cm
 generalize hz:a_ es=z at cm
 cases cm with
 |any=>cases hz
 |iter t pos hh=>injection hz with _ _ z3;cases z3
 |map kj es' clock hh hs hc hr=>injection hz with _ z2;subst z2;exact⟨es',clock,hh,hs,fun i e he=>⟨(hr i e he).1,(hr i e he).2.1⟩,hc,fun i e he=>(hr i e he).2.2⟩
 |nu=>injection hz with _ _ z3;cases z3
theorem Ou{T kt et:TypeId}{x k:Operand}{mx mk:ai}{n:Option Nat}{ok:Bool}{z:Value}{za:AV}(hop:o.op=.lookup T x k ok)(hd:o.dst=some d)(hN:d<C.N)(aW:C.N≤gS)(ht:P.underlying T=some (.map kt et))
  (hkn:nN P kt=some n)(hz:zeroOf P et=some z)(yP:uC z=some za)(hx:aC x=some mx)(hk:aC k=some mk)
  (h:GS C Pt s a w A Lx sp)(hv:Z2 P (.lookup d mx mk n ok za) s K)(hn:eU C Pt s w A Lx sp a.defers K rest):o.wpIn (Fw C.ro) 0 P a w rest Q:=by
 have h1:RV w A (mx.ev s.env) (a.eval x):=(bf h.rs hx).1
 have h2:RV w A (mk.ev s.env).erase (a.eval k):=(bf h.rs hk).1.erase
 have cS:d<gS:=Nat.lt_of_lt_of_le hN aW
 have main:∀(b:Nat) (es:List (List AV)) (es':Array MapEntry) (clock:Nat),a.eval x=.map (some b)→w.heap[b]? =some (.map es' clock)→es'.size=es.length→
   (∀i e,es'[i]? =some e→RV w A ((es.getD i []).getD 0 .any) e.key∧RV w A ((es.getD i []).getD 1 .any) e.val)→eL n (mk.ev s.env).erase→
   (match Z8 (mk.ev s.env).erase es 0 with
   |some (some i)=>K (s.set d (if ok then .tuple [((es.getD i []).getD 1 .any),.lit (.bool true)] else ((es.getD i []).getD 1 .any).erase))
   |some none=>K (s.set d (if ok then .tuple [za,.lit (.bool false)] else za.erase))
   |none=>False)→o.wpIn (Fw C.ro) 0 P a w rest Q:=by
  intro b es es' clock aR aaf hs hr hok hv
  have kz:=yO hkn hok
  have kA:=yM (P:=P) (w:=w) es'.isEmpty kz h2
  have yQ:(zeroValue et).run P w=.ok z w:=by
   simp only[zeroOf,Option.bind_eq_some_iff] at hz
   obtain⟨i,hi,hz⟩:=hz
   simp[zeroValue,typeInfo,Sem.run_bind,hi,hz]
  have aaM:(getObj b).run P w=.ok (.map es' clock) w:=by simp[getObj,Sem.run,aaf]
  have goal:∀(r:Option Nat) (x:AV) (v:Value) (q:Bool),Z8 (mk.ev s.env).erase es 0=some r→(match r.bind fun j=>(es'.toList[j]?).map fun e=>(j,e.val) with|some (_,u)=>(u,true)|none=>(z,false))=(v,q)→RV w A x v→K (s.set d (if ok then .tuple [x,.lit (.bool q)] else x.erase))→o.wpIn (Fw C.ro) 0 P a w rest Q:=by
   intro r x v q hka hrv hx hK
   have hfind:=(qt (P:=P) (w:=w) (A:=A) kz h2 (es:=es) (es':=es'.toList) (r:=r) (by simpa using hs) (fun j e he=>(hr j e (by simpa using he)).1) hka).1
   have hrun:(execOp a.eval o).run P w=.ok (.value (if ok then .tuple #[v,.bool q] else v)) w:=by
    simp only[execOp,hop,aR,Instr.lookup,Sem.run_bind,run_underlying ht,Result.andThen_ok,aaM,Sem.run_pure,kA,hfind]
    cases Ea:(r.bind fun j=>(es'.toList[j]?).map fun e=>(j,e.val)) with
    |none=>
     rw[Ea] at hrv
     injection hrv with q1 q2;subst q1 q2
     simp only[Sem.run_bind,yQ,Result.andThen_ok,Sem.run_pure]
     skip
    |some p=>
     rw[Ea] at hrv
     injection hrv with q1 q2;subst q1 q2
     cases ok<;>rfl
   refine lz (by rw[hop];intro c e;cases e) hrun ?_
   rw[hd]
   refine hn _ _ _ _ _ _ hK (h.put hN cS ?_ ?_) (by rw[iI cS];exact .refl _ _ _) rfl
   ·cases ok with
    |false=>exact hx.erase
    |true=>
     refine .tuple _ _ rfl fun i=> ?_
     match i with
     |0=>exact hx
     |1=>exact .lit _ rfl
     |i+2=>simp;exact .any _
   ·cases ok with
    |false=>exact .erase
    |true=>trivial
  split at hv
  ·rename_i j hka
   obtain⟨-,hlt⟩:=qt (P:=P) (w:=w) (A:=A) kz h2 (es:=es) (es':=es'.toList) (r:=some j) (by simpa using hs) (fun j e he=>(hr j e (by simpa using he)).1) hka
   have hj:=hlt j rfl
   have hj':j<es'.size:=by omega
   refine goal (some j) _ (es'[j]).val true hka (by simp[hj']) (hr j _ (Array.getElem?_eq_getElem hj')).2 (by cases ok<;>exact hv)
  ·rename_i hka
   refine goal none za z false hka rfl (LI (sp:=sp) yP).1 (by cases ok<;>exact hv)
  ·exact hv.elim
 simp only[Z2] at hv
 split at hv
 ·rename_i b e1
  rw[e1] at h1
  obtain⟨es,he,hok,hv⟩:=hv
  obtain⟨es',clock,aaf,hs,hr,cw,dV⟩:=h.mD he
  generalize aR:a.eval x=v0 at h1
  cases h1
  exact main b es es' clock aR aaf hs hr hok hv
 ·rename_i es e1
  rw[e1] at h1
  obtain⟨hok,hv⟩:=hv
  generalize aR:a.eval x=v0 at h1
  cases h1 with
  |fmap _ b es' clock aaf ha hs hk2 hv2=>exact main b es es' clock aR aaf hs (fun i e he=>⟨hk2 i e he,hv2 i e he⟩) hok hv
 ·exact hv.elim
theorem Ov{T kt et:TypeId}{x k y:Operand}{mx mk my:ai}{n:Option Nat}(hop:o.op=.mapUpdate T x k y)(hd:o.dst=none)(ht:P.underlying T=some (.map kt et))
  (hkn:nN P kt=some n)(hx:aC x=some mx)(hk:aC k=some mk)(hy:aC y=some my)
  (h:GS C Pt s a w A Lx sp)(hv:Z2 P (.gG mx mk my n) s K)(hn:eU C Pt s w A Lx sp a.defers K rest):o.wpIn (Fw C.ro) 0 P a w rest Q:=by
 have h1:RV w A (mx.ev s.env) (a.eval x):=(bf h.rs hx).1
 have h2:RV w A (mk.ev s.env).erase (a.eval k):=(bf h.rs hk).1.erase
 have h3:RV w A (my.ev s.env).erase (a.eval y):=(bf h.rs hy).1.erase
 simp only[Z2] at hv
 split at hv
 ·rename_i b e1
  rw[e1] at h1
  obtain⟨es,he,hok,hv⟩:=hv
  obtain⟨es',clock,aaf,hs,hr,cw,dV⟩:=h.mD he
  have hne:s.env (oS+b)≠.any:=by rw[he];intro e;cases e
  have kz:=yO hkn hok
  generalize aR:a.eval x=v0 at h1
  cases h1
  have kA:=yM (P:=P) (w:=w) false kz h2
  have aaM:(getObj b).run P w=.ok (.map es' clock) w:=by simp[getObj,Sem.run,aaf]
  have dH:∀ob,(setObj b ob).run P w=.ok () (w.putObj b ob):=fun ob=>by simp[setObj,Sem.run,aaf,World.putObj]
  have hmono:∀ob {x:AV} {v:Value},RV w A x v→RV (w.putObj b ob) A x v:=fun ob x v hx=>hx.mono (fun c o v ha hv=>⟨by rw[qq w ob (fun e=>by subst e;exact h.oa _ o hne ha)];exact hv,ha⟩) (.blocks (fun _ _ ha=>ha) fun c ha _=>World.putObj_heap_other fun e=>by subst e;exact h.oa _ 0 hne (ha 0))
  have goal:∀(kj:List (List AV)) (ob:Obj),(execOp a.eval o).run P w=.ok .skip (w.putObj b ob)→gm (w.putObj b ob) A b (a_ kj)→K (s.set (oS+b) (a_ kj))→o.wpIn (Fw C.ro) 0 P a w rest Q:=by
   intro kj ob hrun cm hK
   refine ac9 (by rw[hop];intro c e;cases e) hrun ?_
   obtain⟨g1,g2⟩:=h.obj (b:=b) (x:=a_ kj) (w':=w.putObj b ob) rfl (.inl hne) (by simp) ⟨rfl,rfl,rfl⟩ (fun c hc hcb=>World.putObj_heap_other hcb) cm
   rw[hd,ack]
   exact hn _ _ _ _ _ _ hK g1 g2 rfl
  split at hv
  ·rename_i j hka
   obtain⟨hfind,hlt⟩:=qt (P:=P) (w:=w) (A:=A) kz h2 (es:=es) (es':=es'.toList) (r:=some j) (by simpa using hs) (fun j e he=>(hr j e (by simpa using he)).1) hka
   have hj:=hlt j rfl
   have hj':j<es'.size:=by omega
   have hst:=D9 (P:=P) h2 (hr j _ (Array.getElem?_eq_getElem hj')).1 (by have:=(yN hka).2;simpa using this)
   refine goal _ (.map (es'.modify j fun e=>{e with key:=a.eval k,val:=a.eval y}) clock) ?_ ?_ hv
   ·simp only[execOp,hop,aR,Instr.mapUpdate,Sem.run_bind,run_underlying ht,Result.andThen_ok,aaM,kA,hfind,Option.bind_some,Array.getElem?_toList,Array.getElem?_eq_getElem hj',Option.map_some,Option.getD_some,hst,dH,Sem.run_pure]
   ·refine .map _ _ clock (World.putObj_heap_same (cc aaf)) (by simpa using hs) (by simpa using cw) fun i e hi=> ?_
    rw[Array.getElem?_modify] at hi
    split at hi
    ·rename_i e0;subst e0
     rw[Array.getElem?_eq_getElem hj'] at hi
     injection hi with hi;subst hi
     simp only[List.getD_eq_getElem?_getD,List.getElem?_set_self hj,Option.getD_some]
     exact⟨hmono _ h2,hmono _ h3,dV _ _ (Array.getElem?_eq_getElem hj')⟩
    ·rename_i e0
     simp only[List.getD_eq_getElem?_getD,List.getElem?_set_ne e0]
     have:=hr i e hi
     simp only[List.getD_eq_getElem?_getD] at this
     exact⟨hmono _ this.1,hmono _ this.2,dV i e hi⟩
  ·rename_i hka
   obtain⟨hfind,-⟩:=qt (P:=P) (w:=w) (A:=A) kz h2 (es:=es) (es':=es'.toList) (r:=none) (by simpa using hs) (fun j e he=>(hr j e (by simpa using he)).1) hka
   refine goal _ (.map (es'.push {key:=a.eval k,val:=a.eval y,born:=clock}) (clock+1)) ?_ ?_ hv
   ·simp only[execOp,hop,aR,Instr.mapUpdate,Sem.run_bind,run_underlying ht,Result.andThen_ok,aaM,kA,hfind,Option.bind_none,dH,Sem.run_pure]
   ·refine .map _ _ (clock+1) (World.putObj_heap_same (cc aaf)) (by simp[hs]) (by simp[cw]) fun i e hi=> ?_
    rw[Array.getElem?_push] at hi
    split at hi
    ·rename_i e0
     injection hi with hi;subst hi
     have:i=es.length:=by omega
     subst this
     simp only[List.getD_eq_getElem?_getD,List.getElem?_append_right (Nat.le_refl _),Nat.sub_self,List.getElem?_cons_zero,Option.getD_some]
     exact⟨hmono _ h2,hmono _ h3,by show clock=es.length;omega⟩
    ·have hlt:=(Array.getElem?_eq_some_iff.1 hi).1
     have:=hr i e hi
     simp only[List.getD_eq_getElem?_getD] at this⊢
     rw[List.getElem?_append_left (by omega)]
     exact⟨hmono _ this.1,hmono _ this.2,dV i e hi⟩
  ·exact hv.elim
 ·exact hv.elim
theorem find_born{es':Array MapEntry}(dV:∀(i:Nat) (e:MapEntry),es'[i]? =some e→e.born=i){i:Nat}(hi:i<es'.size):es'.findIdx? (fun e=>(e.born:Int)==(i:Int))=some i:=by
 rw[Array.findIdx?_eq_some_iff_getElem]
 refine⟨hi,?_,fun j hj=> ?_⟩
 ·rw[dV i _ (Array.getElem?_eq_getElem hi)];simp
 ·rw[dV j _ (Array.getElem?_eq_getElem (by omega))];simp;omega
theorem Ow{T kt et:TypeId}{x k:Operand}{mx mk:ai}{n:Option Nat}{z:Value}{za:AV}(hop:o.op=.mapEntry T x k)(hd:o.dst=some d)(hN:d<C.N)(aW:C.N≤gS)(ht:P.underlying T=some (.map kt et))
  (hkn:nN P kt=some n)(hz:zeroOf P et=some z)(yP:ab6 z=some za)(hx:aC x=some mx)(hk:aC k=some mk)
  (h:GS C Pt s a w A Lx sp)(hv:Z2 P (.gH d mx mk n za) s K)(hn:eU C Pt s w A Lx sp a.defers K rest):o.wpIn (Fw C.ro) 0 P a w rest Q:=by
 have h1:RV w A (mx.ev s.env) (a.eval x):=(bf h.rs hx).1
 have h2:RV w A (mk.ev s.env).erase (a.eval k):=(bf h.rs hk).1.erase
 have cS:d<gS:=Nat.lt_of_lt_of_le hN aW
 simp only[Z2] at hv
 split at hv
 ·rename_i b e1
  rw[e1] at h1
  obtain⟨es,he,hok,-,hv⟩:=hv
  obtain⟨es',clock,aaf,hs,hr,cw,dV⟩:=h.mD he
  have hne:s.env (oS+b)≠.any:=by rw[he];intro e;cases e
  have kz:=yO hkn hok
  generalize aR:a.eval x=v0 at h1
  cases h1
  have kA:=yM (P:=P) (w:=w) false kz h2
  have yQ:(zeroValue et).run P w=.ok z w:=by
   simp only[zeroOf,Option.bind_eq_some_iff] at hz
   obtain⟨i,hi,hz⟩:=hz
   simp[zeroValue,typeInfo,Sem.run_bind,hi,hz]
  have aaM:(getObj b).run P w=.ok (.map es' clock) w:=by simp[getObj,Sem.run,aaf]
  have dH:∀ob,(setObj b ob).run P w=.ok () (w.putObj b ob):=fun ob=>by simp[setObj,Sem.run,aaf,World.putObj]
  have hmono:∀ob {x:AV} {v:Value},RV w A x v→RV (w.putObj b ob) A x v:=fun ob x v hx=>hx.mono (fun c o v ha hv=>⟨by rw[qq w ob (fun e=>by subst e;exact h.oa _ o hne ha)];exact hv,ha⟩) (.blocks (fun _ _ ha=>ha) fun c ha _=>World.putObj_heap_other fun e=>by subst e;exact h.oa _ 0 hne (ha 0))
  have goal:∀(kj:List (List AV)) (ob:Obj) (u:AV) (v:Value) (i:Nat),(execOp a.eval o).run P w=.ok (.value (.tuple #[v,.int .i64 i])) (w.putObj b ob)→RV w A u v→gm (w.putObj b ob) A b (a_ kj)→K ((s.set (oS+b) (a_ kj)).set d (.tuple [u,.lit (.int .i64 i)]))→o.wpIn (Fw C.ro) 0 P a w rest Q:=by
   intro kj ob u v i hrun hu cm hK
   obtain⟨g1,g2⟩:=h.obj (b:=b) (x:=a_ kj) (w':=w.putObj b ob) rfl (.inl hne) (by simp) ⟨rfl,rfl,rfl⟩ (fun c hc hcb=>World.putObj_heap_other hcb) cm
   refine lz (by rw[hop];intro c e;cases e) hrun ?_
   rw[hd]
   refine hn _ _ _ _ _ _ hK (g1.put hN cS ?_ trivial) (by rw[iI cS];exact g2) rfl
   refine .tuple _ _ rfl fun j=> ?_
   match j with
   |0=>exact hmono _ hu
   |1=>exact .lit _ rfl
   |j+2=>simp;exact .any _
  split at hv
  ·rename_i j hka
   obtain⟨hfind,hlt⟩:=qt (P:=P) (w:=w) (A:=A) kz h2 (es:=es) (es':=es'.toList) (r:=some j) (by simpa using hs) (fun j e he=>(hr j e (by simpa using he)).1) hka
   have hj:=hlt j rfl
   have hj':j<es'.size:=by omega
   have hst:=D9 (P:=P) h2 (hr j _ (Array.getElem?_eq_getElem hj')).1 (by have:=(yN hka).2;simpa using this)
   have hval:=(hr j _ (Array.getElem?_eq_getElem hj')).2
   have Eb:=dV j _ (Array.getElem?_eq_getElem hj')
   refine goal _ (.map (es'.modify j fun e=>{e with key:=a.eval k}) clock) _ (es'[j]).val j ?_ hval ?_ hv
   ·simp only[execOp,hop,aR,Instr.mapEntry,Sem.run_bind,run_underlying ht,Result.andThen_ok,aaM,kA,hfind,Option.bind_some,Array.getElem?_toList,Array.getElem?_eq_getElem hj',Option.map_some,Option.getD_some,hst,dH,Sem.run_pure,Eb]
    rfl
   ·refine .map _ _ clock (World.putObj_heap_same (cc aaf)) (by simpa using hs) (by simpa using cw) fun i e hi=> ?_
    rw[Array.getElem?_modify] at hi
    split at hi
    ·rename_i e0;subst e0
     rw[Array.getElem?_eq_getElem hj'] at hi
     injection hi with hi;subst hi
     simp only[List.getD_eq_getElem?_getD,List.getElem?_set_self hj,Option.getD_some]
     simp only[List.getD_eq_getElem?_getD] at hval
     exact⟨hmono _ h2,hmono _ hval,Eb⟩
    ·rename_i e0
     simp only[List.getD_eq_getElem?_getD,List.getElem?_set_ne e0]
     have:=hr i e hi
     simp only[List.getD_eq_getElem?_getD] at this
     exact⟨hmono _ this.1,hmono _ this.2,dV i e hi⟩
  ·rename_i hka
   obtain⟨hfind,-⟩:=qt (P:=P) (w:=w) (A:=A) kz h2 (es:=es) (es':=es'.toList) (r:=none) (by simpa using hs) (fun j e he=>(hr j e (by simpa using he)).1) hka
   have mj:=(xJ (w:=w) (A:=A) (sp:=sp) yP).1
   refine goal _ (.map (es'.push {key:=a.eval k,val:=z,born:=clock}) (clock+1)) _ z es.length ?_ mj ?_ hv
   ·simp only[execOp,hop,aR,Instr.mapEntry,Sem.run_bind,run_underlying ht,Result.andThen_ok,aaM,kA,hfind,Option.bind_none,yQ,dH,Sem.run_pure]
    rw[show es.length=clock by omega]
    rfl
   ·refine .map _ _ (clock+1) (World.putObj_heap_same (cc aaf)) (by simp[hs]) (by simp[cw]) fun i e hi=> ?_
    rw[Array.getElem?_push] at hi
    split at hi
    ·rename_i e0
     injection hi with hi;subst hi
     have:i=es.length:=by omega
     subst this
     simp only[List.getD_eq_getElem?_getD,List.getElem?_append_right (Nat.le_refl _),Nat.sub_self,List.getElem?_cons_zero,Option.getD_some]
     exact⟨hmono _ h2,hmono _ mj,by show clock=es.length;omega⟩
    ·have hlt:=(Array.getElem?_eq_some_iff.1 hi).1
     have:=hr i e hi
     simp only[List.getD_eq_getElem?_getD] at this⊢
     rw[List.getElem?_append_left (by omega)]
     exact⟨hmono _ this.1,hmono _ this.2,dV i e hi⟩
  ·exact hv.elim
 ·exact hv.elim
theorem Ox{T:TypeId}{x st y:Operand}{mx yR my:ai}(hop:o.op=.entryStore T x st y)(hd:o.dst=none)(hx:aC x=some mx)(hst:aC st=some yR)(hy:aC y=some my)(h:GS C Pt s a w A Lx sp)(hv:Z2 P (.nw mx yR my) s K)(hn:eU C Pt s w A Lx sp a.defers K rest):o.wpIn (Fw C.ro) 0 P a w rest Q:=by
 have h1:RV w A (mx.ev s.env) (a.eval x):=(bf h.rs hx).1
 have h2:RV w A (yR.ev s.env) (a.eval st):=(bf h.rs hst).1
 have h3:RV w A (my.ev s.env).erase (a.eval y):=(bf h.rs hy).1.erase
 simp only[Z2] at hv
 split at hv
 ·rename_i b kd j e1 e2
  rw[e1] at h1;rw[e2] at h2
  obtain⟨es,he,hj0,yS,hK⟩:=hv
  obtain⟨j,rfl⟩:=Int.eq_ofNat_of_zero_le hj0
  obtain⟨es',clock,aaf,hs,hr,cw,dV⟩:=h.mD he
  have hne:s.env (oS+b)≠.any:=by rw[he];intro e;cases e
  have v2:=h2.cJ
  generalize aR:a.eval x=v0 at h1
  cases h1
  have aaM:(getObj b).run P w=.ok (.map es' clock) w:=by simp[getObj,Sem.run,aaf]
  have dH:∀ob,(setObj b ob).run P w=.ok () (w.putObj b ob):=fun ob=>by simp[setObj,Sem.run,aaf,World.putObj]
  have hmono:∀ob {x:AV} {v:Value},RV w A x v→RV (w.putObj b ob) A x v:=fun ob x v hx=>hx.mono (fun c o v ha hv=>⟨by rw[qq w ob (fun e=>by subst e;exact h.oa _ o hne ha)];exact hv,ha⟩) (.blocks (fun _ _ ha=>ha) fun c ha _=>World.putObj_heap_other fun e=>by subst e;exact h.oa _ 0 hne (ha 0))
  have hjs:j<es'.size:=by omega
  have hjl:j<es.length:=by omega
  have oH:=find_born dV hjs
  have hkey:=(hr j _ (Array.getElem?_eq_getElem hjs)).1
  refine ac9 (w':=w.putObj b (.map (es'.modify j fun e=>{e with val:=a.eval y}) clock)) (by rw[hop];intro c e;cases e) ?_ ?_
  ·simp only[execOp,hop,aR,v2,Instr.entryStore,Sem.run_bind,Result.andThen_ok,aaM,asInt,asIntOf,Sem.run_pure,oH,dH]
  ·have cm:gm (w.putObj b (.map (es'.modify j fun e=>{e with val:=a.eval y}) clock)) A b (a_ (es.set j [(es.getD j []).getD 0 .any,(my.ev s.env).erase])):=by
    refine .map _ _ clock (World.putObj_heap_same (cc aaf)) (by simpa using hs) (by simpa using cw) fun i e hi=> ?_
    rw[Array.getElem?_modify] at hi
    split at hi
    ·rename_i e0;subst e0
     rw[Array.getElem?_eq_getElem hjs] at hi
     injection hi with hi;subst hi
     simp only[List.getD_eq_getElem?_getD,List.getElem?_set_self hjl,Option.getD_some]
     simp only[List.getD_eq_getElem?_getD] at hkey
     exact⟨hmono _ hkey,hmono _ h3,dV _ _ (Array.getElem?_eq_getElem hjs)⟩
    ·rename_i e0
     simp only[List.getD_eq_getElem?_getD,List.getElem?_set_ne e0]
     have:=hr i e hi
     simp only[List.getD_eq_getElem?_getD] at this
     exact⟨hmono _ this.1,hmono _ this.2,dV i e hi⟩
   obtain⟨g1,g2⟩:=h.obj (b:=b) (x:=a_ (es.set j [(es.getD j []).getD 0 .any,(my.ev s.env).erase])) (w':=w.putObj b (.map (es'.modify j fun e=>{e with val:=a.eval y}) clock)) rfl (.inl hne) (by simp) ⟨rfl,rfl,rfl⟩ (fun c hc hcb=>World.putObj_heap_other hcb) cm
   rw[hd,ack]
   exact hn _ _ _ _ _ _ hK g1 g2 rfl
 ·exact hv.elim
theorem Oy{b b' n n':Nat}{l l':List Nat}(h:aaQ b n l=aaQ b' n' l'):b=b'∧n=n'∧l=l':=by
 unfold aaQ at h
 injection h with h1 h2
 injection h2 with h2 h3
 injection h2 with h2 _
 injection h2 with h2
 injection h2 with _ h2
 injection h3 with h3 _
 refine⟨h1,by omega,?_⟩
 have:=congrArg (List.map fun x:AV=>match x with|.lit (.int _ n)=>n.toNat|_=>0) h3
 simpa[List.map_map,Function.comp_def] using this
theorem GS.Ec(h:GS C Pt s a w A Lx sp){r b n:Nat}{seen:List Nat}(he:s.env (oS+r)=aaQ b n seen):w.heap[r]? =some (.mapIter (some b) n seen.toArray n):=by
 have cm:=h.ob r
 rw[he] at cm
 generalize hz:aaQ b n seen=z at cm
 cases cm with
 |any=>cases hz
 |iter t pos hh=>unfold aaQ aaU at hz;injection hz with _ z2;injection z2 with z3;injection z3 with z4;injection z4 with z5;cases z5
 |map=>unfold aaQ a_ at hz;injection hz with _ _ z3;cases z3
 |nu b' n' seen' hh=>obtain⟨rfl,rfl,rfl⟩:=Oy hz;exact hh
theorem Oz{T kt et:TypeId}{x:Operand}{mx:ai}(hop:o.op=.range T x)(hd:o.dst=some d)(hN:d<C.N)(aW:C.N≤gS)(ht:P.underlying T=some (.map kt et))(hx:aC x=some mx)(h:GS C Pt s a w A Lx sp)(hv:Z2 P (.ou d mx) s K)(hn:eU C Pt s w A Lx sp a.defers K rest):o.wpIn (Fw C.ro) 0 P a w rest Q:=by
 have h1:RV w A (mx.ev s.env) (a.eval x):=(bf h.rs hx).1
 simp only[Z2] at hv
 split at hv
 ·rename_i b e1
  rw[e1] at h1
  obtain⟨es,he,hv⟩:=hv
  obtain⟨es',clock,aaf,hs,hr,cw,dV⟩:=h.mD he
  have sG:s.env (oS+w.heap.size)=.any:=Classical.byContradiction fun hne=>by
   obtain⟨ob,g1,_⟩:=(h.ob w.heap.size).block hne
   exact absurd (cc g1) (Nat.lt_irrefl _)
  have hK:=hv w.heap.size h.rs.fresh sG
  generalize aR:a.eval x=v0 at h1
  cases h1
  have hrun:(execOp a.eval o).run P w=.ok (.value (.pointer (some ⟨w.heap.size,0,none⟩))) (w.alloc (.mapIter (some b) clock #[] clock)):=by
   have:=run_range_map (P:=P) w T kt et b es' clock ht aaf
   simp[execOp,hop,aR,this]
  refine lz (by rw[hop];intro c e;cases e) hrun ?_
  have yT:clock=es.length:=by omega
  obtain⟨g1,g2⟩:=h.obj (b:=w.heap.size) (x:=aaQ b es.length []) (w':=w.alloc (.mapIter (some b) clock #[] clock)) rfl (.inr rfl) (by rw[gJ];omega) ⟨rfl,rfl,rfl⟩ (fun c hc _=>heap_alloc _ _ _ hc) (.nu b es.length [] (by rw[p7,yT]))
  rw[hd]
  have cS:d<gS:=Nat.lt_of_lt_of_le hN aW
  exact hn _ _ _ _ _ _ hK (g1.put hN cS (.aj _ _) trivial) (by rw[iI cS];exact g2) rfl
 ·exact hv.elim
theorem OA{w:World}{r b n:Nat}{seen:List Nat}{es:Array MapEntry}(hr:w.heap[r]? =some (.mapIter (some b) n seen.toArray n))(hb:w.heap[b]? =some (.map es n))(hn:n=es.size)(dV:∀(i:Nat) (e:MapEntry),es[i]? =some e→e.born=i)(ty:TypeId):
  ((∀i,i<n→i∈seen)∧(Instr.next (.pointer (some ⟨r,0,none⟩)) false ty).run P w=.ok (.tuple #[.bool false]) w)∨
  ∃i e w1,i<n∧i∉seen∧es[i]? =some e∧(w1=w∨w1=w.drew)∧(Instr.next (.pointer (some ⟨r,0,none⟩)) false ty).run P w=.ok (.tuple #[.bool true,e.key,e.val]) (w1.putObj r (.mapIter (some b) n (seen++[i]).toArray n)):=by
 have hold:∀x∈es.toList,x.born<n:=fun x hx=>by
  obtain⟨i,hi,rfl⟩:=List.getElem_of_mem hx
  have hi':i<es.size:=by simpa using hi
  have:=dV i es[i] (Array.getElem?_eq_getElem hi')
  simp only[Array.getElem_toList]
  omega
 have hall:=next_test_false seen.toArray es n n hold (Nat.le_refl _)
 obtain⟨L,hL⟩:∃L,L=Array.filter (fun e=> !seen.toArray.contains e.born) es:=⟨_,rfl⟩
 have hmem:∀x∈L.toList,x.born<n:=fun x hx=>hold x (by rw[hL] at hx;simp at hx⊢;exact hx.1)
 have e1:L.filter (fun x=>decide (x.born<n))=L:=Array.filter_eq_self.2 (fun x hx=>by simpa using hmem x (by simpa using hx))
 have e2:L.filter (fun x=>decide (x.born≥n))= #[]:=by
  rw[Array.filter_eq_empty_iff]
  intro x hx
  have:=hmem x (by simpa using hx)
  simp
  omega
 by_cases h0:L.size=0
 ·left
  have Ed:L= #[]:=Array.eq_empty_of_size_eq_zero h0
  refine⟨fun i hi=> ?_,?_⟩
  ·have hi':i<es.size:=by omega
   have h3:=hL.symm.trans Ed
   rw[Array.filter_eq_empty_iff] at h3
   have h4:=h3 es[i] (Array.getElem_mem hi')
   have h5:=dV i es[i] (Array.getElem?_eq_getElem hi')
   rw[h5] at h4
   simpa using h4
  ·simp only[Instr.next,getObj,Sem.run_bind,Sem.run,hr,hb,Result.andThen,hall,Bool.false_eq_true,if_false,←hL,Ed]
   simp[choose,Sem.run,Question.forced]
 ·right
  have hne:L.isEmpty=false:=by simp[Array.isEmpty,h0]
  have hch:∃(j:Nat) (w1:World),j<L.size∧(w1=w∨w1=w.drew)∧(choose (Question.mapNext L.size)).run P w=.ok j w1:=by
   by_cases hf:L.size≤1
   ·exact⟨0,w,by omega,.inl rfl,by simp[choose,Sem.run,Question.forced,hf]⟩
   ·exact⟨_,w.drew,Nat.mod_lt _ (by omega),.inr rfl,by
     simp only[choose,Sem.run,Question.forced,decide_eq_true_eq,hf,if_false,Question.cut]
     rfl⟩
  obtain⟨j,w1,hj,hw1,hrun⟩:=hch
  have ve:L[j]∈L:=Array.getElem_mem hj
  have hme:L[j]∈es∧(!seen.toArray.contains L[j].born)=true:=by
   have:L[j]∈Array.filter (fun e=> !seen.toArray.contains e.born) es:=hL▸ve
   simpa using this
  obtain⟨i,hi,hie⟩:=Array.getElem_of_mem hme.1
  have sI:=dV i es[i] (Array.getElem?_eq_getElem hi)
  rw[hie] at sI
  have mC:i∉seen:=by
   have:=hme.2
   rw[sI] at this
   simpa using this
  refine⟨i,L[j],w1,by omega,mC,by rw[Array.getElem?_eq_getElem hi,hie],hw1,?_⟩
  have eS:w1.heap[r]? =some (.mapIter (some b) n seen.toArray n):=by rcases hw1 with rfl|rfl<;>exact hr
  have dH:∀o',(setObj r o').run P w1=.ok () (w1.putObj r o'):=fun o'=>by simp[setObj,Sem.run,eS,World.putObj]
  simp only[Instr.next,getObj,Sem.run_bind,Sem.run,hr,hb,Result.andThen,hall,Bool.false_eq_true,if_false,←hL,e1,e2,Array.append_empty,hne,Array.empty_append,Array.size_map,hrun,Array.getElem?_map,Array.getElem?_eq_getElem hj,Option.map_some,dH,sI]
  simp
theorem OB{x:Operand}{mx:ai}(hop:o.op=.next x false)(hd:o.dst=some d)(hN:d<C.N)(aW:C.N≤gS)(hx:aC x=some mx)(h:GS C Pt s a w A Lx sp)(hv:Z2 P (.ov d mx) s K)(hn:eU C Pt s w A Lx sp a.defers K rest):o.wpIn (Fw C.ro) 0 P a w rest Q:=by
 have h1:RV w A (mx.ev s.env) (a.eval x):=(bf h.rs hx).1
 have cS:d<gS:=Nat.lt_of_lt_of_le hN aW
 simp only[Z2] at hv
 split at hv
 ·rename_i r e1
  rw[e1] at h1
  obtain⟨b,seen,es,e2,e3,hv1,hv2⟩:=hv
  have hne:s.env (oS+r)≠.any:=by rw[e2];intro e;cases e
  generalize aR:a.eval x=v0 at h1
  cases h1
  have hr:=h.Ec e2
  obtain⟨es',clock,hb,hs,hrv,cw,dV⟩:=h.mD e3
  rw[←hs] at hr
  rw[cw] at hb
  rcases OA (P:=P) hr hb rfl dV o.type with ⟨hall,hrun⟩|⟨i,e,w1,hi,mC,hie,hw1,hrun⟩
  ·have qg:(execOp a.eval o).run P w=.ok (.value (.tuple #[.bool false])) w:=by simp[execOp,hop,aR,hrun]
   refine lz (by rw[hop];intro c e;cases e) qg ?_
   rw[hd]
   refine hn _ _ _ _ _ _ (hv2 (by rw[←hs];exact hall)) (h.put hN cS (.tuple _ _ rfl fun i=> ?_) trivial) (by rw[iI cS];exact .refl _ _ _) rfl
   match i with
   |0=>exact .lit _ rfl
   |i+1=>simp;exact .any _
  ·have qg:(execOp a.eval o).run P w=.ok (.value (.tuple #[.bool true,e.key,e.val])) (w1.putObj r (.mapIter (some b) es'.size (seen++[i]).toArray es'.size)):=by simp[execOp,hop,aR,hrun]
   refine lz (by rw[hop];intro c e;cases e) qg ?_
   have hh:w1.heap=w.heap:=by rcases hw1 with rfl|rfl<;>rfl
   have hos:w1.os=w.os∧w1.tape=w.tape∧w1.output=w.output:=by rcases hw1 with rfl|rfl<;>exact⟨rfl,rfl,rfl⟩
   have hlt:r<w1.heap.size:=by rw[hh];exact cc hr
   obtain⟨g1,g2⟩:=h.obj (b:=r) (x:=aaQ b es.length (seen++[i])) (w':=w1.putObj r (.mapIter (some b) es'.size (seen++[i]).toArray es'.size)) rfl (.inl hne) (by simp[hh]) hos (fun c hc hcb=>by rw[World.putObj_heap_other hcb,hh]) (.nu b es.length (seen++[i]) (by rw[World.putObj_heap_same hlt,hs]))
   rw[hd]
   have hkv:=hrv i e hie
   have hmono:∀{x:AV} {v:Value},RV w A x v→RV (w1.putObj r (.mapIter (some b) es'.size (seen++[i]).toArray es'.size)) A x v:=fun hx=>hx.mono (fun c o v ha hc=>⟨by
    have OC:c≠r:=fun e=>by subst e;exact h.oa _ o hne ha
    rw[qq w1 _ OC]
    simp only[World.cell?,hh] at hc⊢
    exact hc,ha⟩) (.blocks (fun _ _ ha=>ha) fun c ha _=>by rw[World.putObj_heap_other fun e=>by subst e;exact h.oa _ 0 hne (ha 0),hh])
   refine hn _ _ _ _ _ _ (hv1 i (by omega) mC) (g1.put hN cS (.tuple _ _ rfl fun i=> ?_) trivial) (by rw[iI cS];exact g2) rfl
   match i with
   |0=>exact .lit _ rfl
   |1=>exact(hmono hkv.1).erase
   |2=>exact(hmono hkv.2).erase
   |i+3=>simp;exact .any _
 ·exact hv.elim
theorem OD{es':Array MapEntry}(dV:∀(i:Nat) (e:MapEntry),es'[i]? =some e→e.born=i){i:Nat}(hi:i<es'.size):es'.find? (fun e=>e.born==i)=some es'[i]:=by
 rw[Array.find?_eq_some_iff_getElem]
 refine⟨by rw[dV i _ (Array.getElem?_eq_getElem hi)];simp,i,hi,rfl,fun j hj=> ?_⟩
 rw[dV j _ (Array.getElem?_eq_getElem (by omega))];simp;omega
theorem OE{x:Operand}{mx:ai}(hop:o.op=.entry x)(hd:o.dst=some d)(hN:d<C.N)(aW:C.N≤gS)(hx:aC x=some mx)(h:GS C Pt s a w A Lx sp)(hv:Z2 P (.ab5 d mx) s K)(hn:eU C Pt s w A Lx sp a.defers K rest):o.wpIn (Fw C.ro) 0 P a w rest Q:=by
 have h1:RV w A (mx.ev s.env) (a.eval x):=(bf h.rs hx).1
 have cS:d<gS:=Nat.lt_of_lt_of_le hN aW
 simp only[Z2] at hv
 split at hv
 ·rename_i r e1
  rw[e1] at h1
  obtain⟨b,seen,i,es,e2,e3,hi,hK⟩:=hv
  generalize aR:a.eval x=v0 at h1
  cases h1
  have hr:=h.Ec e2
  obtain⟨es',clock,hb,hs,hrv,cw,dV⟩:=h.mD e3
  have hi':i<es'.size:=by omega
  have sJ:clock=es.length:=by omega
  subst sJ
  have hrun:(execOp a.eval o).run P w=.ok (.value (.tuple #[(es'[i]).key,(es'[i]).val])) w:=by
   have OF:(seen++[i]).toArray.back?=some i:=by simp
   have yU:(getObj r).run P w=.ok (.mapIter (some b) es.length (seen++[i]).toArray es.length) w:=by simp[getObj,Sem.run,hr]
   have jR:(getObj b).run P w=.ok (.map es' es.length) w:=by simp[getObj,Sem.run,hb]
   simp only[execOp,hop,aR,Instr.entry,Sem.run_bind,yU,jR,OF,Result.andThen_ok,bne_self_eq_false,Bool.false_eq_true,if_false,OD dV hi',Sem.run_pure]
  refine lz (by rw[hop];intro c e;cases e) hrun ?_
  rw[hd]
  have hkv:=hrv i _ (Array.getElem?_eq_getElem hi')
  refine hn _ _ _ _ _ _ hK (h.put hN cS (.tuple _ _ rfl fun j=> ?_) trivial) (by rw[iI cS];exact .refl _ _ _) rfl
  match j with
  |0=>exact hkv.1.erase
  |1=>exact hkv.2.erase
  |j+2=>simp;exact .any _
 ·exact hv.elim
end
end Go.Z4
namespace Go.Z4
open Go.RowKit
section
variable {P:Program} {C:Ctx P} {Pt:List (Nat×Obj)} {s:St} {a:Act} {w:World} {A Lx:aK} {sp:Sp}
theorem OG{o:Oper}{d:Nat}{t:Tmp}{xs:Array Operand}{ts:Array TypeId}{ms:List ai}{K:St→Prop}{rest:Act→World→Prop}{Q:Exit→Act→World→Prop}
  (h:GS C Pt s a w A Lx sp)(aW:C.N≤gS)(hop:o.op=.call {callee:=.value (.tmp t),args:=xs,argTypes:=ts})(hd:o.dst=some d)(hN:d<C.N)
  (hx:aaE P xs.toList ts.toList=some ms)(hv:Z2 P (.iD d (.t t) ms) s K)(hn:eU C Pt s w A Lx sp a.defers K rest):o.wpIn (Fw C.ro) 0 P a w rest Q:=by
 obtain⟨a1,a2⟩:=l_ h.rs hx
 have h1:=(h.rs.env t).1
 simp only[Z2] at hv
 split at hv
 ·rename_i l l' y rs e1 e2
  obtain⟨rfl,hy,bq,hk2⟩:=hv
  replace e1:s.env t=.func (.yield l) [] []:=e1
  rw[e1] at h1
  have hx0:=h.x
  rw[e2] at hx0
  have aJ:(⟨a.tmps,[]⟩:Act).eval=a.eval:=rfl
  rw[aJ] at a2
  obtain⟨fn,tmps,assign,body,hrun,ji⟩:=C.yl l y rs w A Lx (xs.map a.eval) hx0 h.lt (fun b o ha=>⟨(h.rs.av b o ha).1,h.av b o ha⟩) (by rw[←hy];simp[a1]) (fun i=>by
   rw[←hy]
   have:=a2 i
   simpa[List.getD_eq_getElem?_getD,Array.getD_eq_getD_getElem?] using this)
  replace h1:RV w A (.func (.yield l) [] []) (a.tmps.getD t undef):=h1
  generalize aR:a.tmps.getD t undef=v0 at h1
  cases h1 with
  |func _ _ _ vf vc eJ hsc hf hc=>
   have yV:vf= #[]:=Array.eq_empty_of_size_eq_zero (by simpa using eJ)
   subst yV
   have yW:(Oper.semAt C.ro a.eval o).run P w=.ok (.round l fn tmps assign body) w:=by
    rw[Oper.semAt_eq _ _ _ (by rw[hop];intro c e;cases e)]
    rw[←hrun]
    simp[execOp,hop,resolve,Act.eval,aR,Deferred.ofValue,invoke]
   refine⟨fun _ _=>trivial,?_⟩
   rw[yW,Oper.uponIn_round]
   refine⟨fun e=>(by cases e),?_⟩
   refine RoundIn.mono (F:=Fw none) (n:=0) ji ?_
   rintro e w' ⟨b,A',bp,rfl,yX,hlt',yY,yZ⟩
   obtain⟨g1,g2⟩:=h.other (gh:=.ghost l rs (!b)) rfl yX hlt' yY yZ
   rw[hd]
   have cS:d<gS:=Nat.lt_of_lt_of_le hN aW
   have eT:held ((s.set gS (.ghost l rs (!b))).set d (.lit (.bool b))) sp=held (s.set gS (.ghost l rs (!b))) sp:=iI cS _ _
   refine hn _ _ _ _ _ _ ?_ (g1.put hN cS (.lit (.bool b) rfl) trivial) (by rw[eT];exact g2) rfl
   cases b
   ·exact hk2
   ·exact bq
 ·exact hv.elim
theorem OH{o:Oper}{d pos:Nat}{t:Tmp}{x:Operand}{ty:TypeId}{m:ai}{K:St→Prop}{rest:Act→World→Prop}{Q:Exit→Act→World→Prop}
  (h:GS C Pt s a w A Lx sp)(aW:C.N≤gS)(hop:o.op=.call {callee:=.value (.tmp t),args:= #[x],argTypes:= #[ty]})(hd:o.dst=some d)(hN:d<C.N)
  (hx:k8 P ty x=some m)(hv:Z2 P (.lY d (.t t) pos m) s K)(hn:eU C Pt s w A Lx sp a.defers K rest):o.wpIn (Fw C.ro) 0 P a w rest Q:=by
 have a2:=(xK h.rs hx).1.erase
 have h1:=(h.rs.env t).1
 simp only[Z2] at hv
 split at hv
 ·rename_i l l' z rs e1 e2
  obtain⟨rfl,z0,b,sz,len,cap,cs,rfl,hy,hb,hok,bq,hk2⟩:=hv
  replace e1:s.env t=.func (.yield l) [] []:=e1
  rw[e1] at h1
  have hx0:=h.x
  rw[e2] at hx0
  have aJ:(⟨a.tmps,[]⟩:Act).eval=a.eval:=rfl
  rw[aJ,hy] at a2
  have eA:∀o,live s.loc sp b o:=fun o=>.inl (by rw[hb];exact fun e=>by cases e)
  obtain⟨vs,T,g1,g2,g3⟩:=h.rs.loc b cs hb
  obtain⟨fn,tmps,assign,body,hrun,ji⟩:=C.xx l z0 pos rs w A Lx (a.eval x) b sz len cap cs hx0 hok h.lt (fun b o ha=>⟨(h.rs.av b o ha).1,h.av b o ha⟩) a2 ⟨vs,T,g1,g2,fun i=>(g3 i).1⟩ (fun o ha=>(h.rs.av b o ha).2 (eA o)) (fun o hl=>h.ap b o o (.inl (eA o)) hl)
  replace h1:RV w A (.func (.yield l) [] []) (a.tmps.getD t undef):=h1
  generalize aR:a.tmps.getD t undef=v0 at h1
  cases h1 with
  |func _ _ _ vf vc eJ hsc hf hc=>
   have yV:vf= #[]:=Array.eq_empty_of_size_eq_zero (by simpa using eJ)
   subst yV
   have yW:(Oper.semAt C.ro a.eval o).run P w=.ok (.round l fn tmps assign body) w:=by
    rw[Oper.semAt_eq _ _ _ (by rw[hop];intro c e;cases e)]
    rw[←hrun]
    simp[execOp,hop,resolve,Act.eval,aR,Deferred.ofValue,invoke]
   refine⟨fun _ _=>trivial,?_⟩
   rw[yW,Oper.uponIn_round]
   refine⟨fun e=>(by cases e),?_⟩
   refine RoundIn.mono (F:=Fw none) (n:=0) ji ?_
   rintro e w' ⟨bo,A',bp,rfl,yX,hlt',yY,OI,hL',hl',yZ⟩
   obtain⟨q1,q2⟩:=h.Od hb hok.2.2.2.2.2 (gh:=.ghost l rs (!bo)) rfl yX hlt' yY OI hL' hl' yZ
   rw[hd]
   have cS:d<gS:=Nat.lt_of_lt_of_le hN aW
   have eT:held ((s.set gS (.ghost l rs (!bo))).set d (.lit (.bool bo))) sp=held (s.set gS (.ghost l rs (!bo))) sp:=iI cS _ _
   refine hn _ _ _ _ _ _ ?_ (q1.put hN cS (.lit (.bool bo) rfl) trivial) (by rw[eT];exact q2) rfl
   cases bo
   ·exact hk2
   ·exact bq
 ·exact hv.elim
theorem OJ{ops:Array Oper}{o:Oper}{g j:Nat}{want:Bool}{m:au}{K:St→Prop}{rest:Act→World→Prop}{Q:Exit→Act→World→Prop}(h:GS C Pt s a w A Lx sp)
  (hg:o.guard=some (j,want))(hj:(ops[j]?).bind (·.dst)=some g)(hgN:g<C.N)(oL:∀d,o.dst=some d→d<C.N∧d<gS)(hv:Z2 P (.guard g want o.dst m) s K)
  (hs:Z2 P m s K→o.wpIn (Fw C.ro) 0 P a w rest Q)(hn:eU C Pt s w A Lx sp a.defers K rest):nM C.ro P ops o a w rest Q:=by
 have skip:(K (match o.dst with|some d=>s.set d (.tuple [])|none=>s))→rest (a.put o.dst undef) w:=by
  intro hk
  cases hd:o.dst with
  |none=>
   rw[hd] at hk
   rw[ack]
   exact hn _ _ _ _ _ _ hk h (.refl _ _ _) rfl
  |some d=>
   rw[hd] at hk
   exact hn _ _ _ _ _ _ hk (h.put (oL d hd).1 (oL d hd).2 x8 trivial) (by rw[iI (oL d hd).2];exact .refl _ _ _) rfl
 simp only[Z2] at hv
 split at hv
 ·rename_i b hb
  have he:=(h.rs.env g).1
  rw[hb] at he
  have ki:=he.k9
  have fS:yielded ops a.tmps j=some b:=by
   unfold yielded
   rw[hj]
   have:a.tmps[g]? =some (.bool b):=by
    have hlt:g<a.tmps.size:=by have:=h.rs.size;simp only at this;omega
    rw[Array.getD_eq_getD_getElem?,Array.getElem?_eq_getElem hlt] at ki
    rw[Array.getElem?_eq_getElem hlt]
    simpa using ki
   simp[this]
  have hw:Region.wanted o (yielded ops a.tmps)=(b==want):=by simp[Region.wanted,hg,fS]
  unfold nM
  by_cases oK:b=want
  ·rw[hw,if_pos (by simpa using oK)]
   exact hs (hv.1 oK)
  ·rw[hw,if_neg (by simpa using oK)]
   exact⟨fun _ _=>trivial,skip (hv.2 (by cases b<;>cases want<;>simp_all))⟩
 ·rename_i hb
  have he:=(h.rs.env g).1
  rw[hb] at he
  have ki:a.tmps.getD g undef=.tuple #[]:=by
   replace he:RV w A (.tuple []) (a.tmps.getD g undef):=he
   generalize a.tmps.getD g undef=v at he
   cases he with
   |tuple _ vs hs hr=>
    have aR:vs= #[]:=Array.eq_empty_of_size_eq_zero (by simpa using hs)
    rw[aR]
  have fS:yielded ops a.tmps j=none:=by
   unfold yielded
   rw[hj]
   have:a.tmps[g]? =some (.tuple #[]):=by
    have hlt:g<a.tmps.size:=by have:=h.rs.size;simp only at this;omega
    rw[Array.getD_eq_getD_getElem?,Array.getElem?_eq_getElem hlt] at ki
    rw[Array.getElem?_eq_getElem hlt]
    simpa using ki
   simp[this]
  have hw:Region.wanted o (yielded ops a.tmps)=false:=by simp[Region.wanted,hg,fS]
  unfold nM
  rw[if_neg (by rw[hw];simp)]
  exact⟨fun _ _=>trivial,skip hv⟩
 ·exact hv.elim
end
def trY(P:Program)(N:Nat)(o:Oper):Option au:=
 match o.dst,o.op with
 |some d,.call c=>match c.callee with
  |.value (.tmp t)=>if d<N then (aaE P c.args.toList c.argTypes.toList).map (.iD d (.t t) ·) else none
  |_=>none
 |_,_=>none
def acK(P:Program)(pos N:Nat)(o:Oper):Option au:=
 match o.dst,o.op with
 |some d,.call c=>match c.callee,c.args.toList,c.argTypes.toList with
  |.value (.tmp t),[x],[ty]=>if d<N then (k8 P ty x).map (.lY d (.t t) pos ·) else none
  |_,_,_=>none
 |_,_=>none
def trI(P:Program)(N:Nat)(o:Oper):Option au:=
 match o.dst,o.op with
 |some d,.call c=>match c.callee with
  |.value (.func f)=>if d<N then (aaE P c.args.toList c.argTypes.toList).map (.fy d f ·) else none
  |.value (.tmp t)=>if d<N then (aaE P c.args.toList c.argTypes.toList).map (.iE d (.t t) ·) else none
  |_=>none
 |_,_=>none
def trO(P:Program)(N:Nat)(o:Oper):Option au:=
 match o.dst,o.op with
 |some d,.range T x=>if d<N then match P.underlying T,aC x with
  |some .string,some x=>some (.ja d x)
  |some (.map _ _),some x=>some (.ou d x)
  |_,_=>none else none
 |some d,.next x true=>if d<N then (aC x).map (.jb d ·) else none
 |some d,.next x false=>if d<N then (aC x).map (.ov d ·) else none
 |some d,.entry x=>if d<N then (aC x).map (.ab5 d ·) else none
 |some d,.makeMap _ none=>if d<N then some (.mkMap d) else none
 |none,.mapUpdate T x k y=>match P.underlying T with
  |some (.map kt _)=>match nN P kt,aC x,aC k,aC y with
   |some n,some x,some k,some y=>some (.gG x k y n)
   |_,_,_,_=>none
  |_=>none
 |some d,.mapEntry T x k=>if d<N then match P.underlying T with
  |some (.map kt et)=>match nN P kt,(zeroOf P et).bind ab6,aC x,aC k with
   |some n,some z,some x,some k=>some (.gH d x k n z)
   |_,_,_,_=>none
  |_=>none else none
 |none,.entryStore _ x st y=>match aC x,aC st,aC y with
  |some x,some st,some y=>some (.nw x st y)
  |_,_,_=>none
 |some d,.lookup T x k ok=>if d<N then match P.underlying T with
  |some (.map kt et)=>match nN P kt,(zeroOf P et).bind uC,aC x,aC k with
   |some n,some z,some x,some k=>some (.lookup d x k n ok z)
   |_,_,_,_=>none
  |_=>none else none
 |_,_=>none
def qu(P:Program)(yl:Nat)(N:Nat)(o:Oper):Option au:=if yl=1 then trY P N o else if yl=2 then trI P N o else if 3≤yl then acK P (yl - 3) N o else trO P N o
def acN(aD:cn)(o:Oper):Nat:=match o.dst with
 |some d=>if aD.yl.contains d then 1 else if aD.ic.contains d then 2 else look aD.CN d 0
 |none=>0
def Ee(o:Oper):Bool:=match o.op with
 |.defer _=>false
 |_=>true
theorem acO{P:Program}{f:FuncId}(h:aaP P f=true)(vs:Array Value)(w:World):(callFunc f vs).run P w=.ok (.enter f vs) w:=by
 unfold aaP at h
 split at h
 ·rename_i fn hfn
  simp only[Bool.and_eq_true,bne_iff_ne,ne_eq] at h
  unfold callFunc
  simp only[Sem.run_bind,run_program,Result.andThen_ok,hfn]
  have hb:fn.body.isNone=false:=by cases oH:fn.body with
   |none=>rw[oH] at h;simp at h
   |some c=>rfl
  have hnm:(fn.name== "runtime.NumGoroutine")=false:=by simpa using h.1
  rw[hnm,hb]
  rfl
 ·cases h
def nO(f:Array Oper→Oper→Option au)(P:Program)(aD:cn)(N:Nat)(ops:Array Oper)(o:Oper):Option au:=
 match f ops o with
 |some m=>if acN aD o==0&&qo m&&Ee o then some m else vg
 |none=>vg
where vg:Option au:=match o.guard with
 |none=>qu P (acN aD o) N o
 |some (j,want)=>match (ops[j]?).bind (·.dst),qu P (acN aD o) N o with
  |some g,some m=>if g<N then some (.guard g want o.dst m) else none
  |_,_=>none
section
variable {P:Program} {C:Ctx P} {Pt:List (Nat×Obj)} {s:St} {a:Act} {w:World} {A Lx:aK} {sp:Sp} {K:St→Prop} {rest:Act→World→Prop} {Q:Exit→Act→World→Prop} {o:Oper}
theorem Ef{N:Nat}{m:au}(h:trY P N o=some m):∃d t xs ts ms,o.dst=some d∧d<N∧o.op=.call {callee:=.value (.tmp t),args:=xs,argTypes:=ts}∧aaE P xs.toList ts.toList=some ms∧m=.iD d (.t t) ms:=by
 unfold trY at h
 split at h
 ·rename_i d c hd hop
  split at h
  ·rename_i t hc
   split at h
   ·rename_i hN
    simp only[Option.map_eq_some_iff] at h
    obtain⟨ms,Z9,rfl⟩:=h
    refine⟨d,t,c.args,c.argTypes,ms,hd,hN,?_,Z9,rfl⟩
    rw[hop,←hc]
   ·cases h
  ·cases h
 ·cases h
theorem Eg{f:FuncId}{vs:Array Value}{xs:List AV}{d:Nat}(hp:d_ P f xs s fun r s'=>K (s'.set d r))(aW:C.N≤gS)(h:GS C Pt s a w A Lx sp)(hd:o.dst=some d)(hN:d<C.N)(hs:vs.size=xs.length)(hr:∀i,RV w A (xs.getD i .any) (vs.getD i undef))(hrun:(Oper.semAt C.ro a.eval o).run P w=(callFunc f vs).run P w)(hn:eU C Pt s w A Lx sp a.defers K rest):o.wpIn (Fw C.ro) 0 P a w rest Q:=by
 have cS:d<gS:=Nat.lt_of_lt_of_le hN aW
 refine⟨fun _ _=>trivial,?_⟩
 rw[hrun,acO hp.1,Oper.uponIn_enter]
 refine⟨fun e=>(by cases e),va (Calls.mono (hp.2 C Pt a w A Lx sp vs aW h hs hr) ?_)⟩
 rintro e w' ⟨r,v,s',A',bp,sp',rfl,h2,h3,h4,h5,h6⟩
 show rest (a.put o.dst v) w'
 rw[hd]
 exact hn _ _ _ _ _ _ h6 (h4.put hN cS h2 h3) (by rw[iI cS];exact h5) rfl
theorem OK{f:FuncId}{d:Nat}{xs:Array Operand}{ts:Array TypeId}{ms:List ai}(hop:o.op=.call {callee:=.value (.func f),args:=xs,argTypes:=ts})(hd:o.dst=some d)(hN:d<C.N)(hx:aaE P xs.toList ts.toList=some ms)(aW:C.N≤gS)(h:GS C Pt s a w A Lx sp)(hv:Z2 P (.fy d f ms) s K)(hn:eU C Pt s w A Lx sp a.defers K rest):o.wpIn (Fw C.ro) 0 P a w rest Q:=by
 obtain⟨a1,a2⟩:=l_ h.rs hx
 have aJ:(⟨a.tmps,[]⟩:Act).eval=a.eval:=rfl
 rw[aJ] at a2
 refine Eg (vs:=xs.map a.eval) hv aW h hd hN (by simp[a1]) (fun i=> ?_) ?_ hn
 ·have:=a2 i
  simpa[List.getD_eq_getElem?_getD,Array.getD_eq_getD_getElem?] using this
 ·rw[Oper.semAt_eq _ _ _ (by rw[hop];intro c e;cases e)]
  simp[execOp,hop,resolve,Act.eval,Deferred.ofValue,invoke]
theorem OL{t:Tmp}{d:Nat}{xs:Array Operand}{ts:Array TypeId}{ms:List ai}(hop:o.op=.call {callee:=.value (.tmp t),args:=xs,argTypes:=ts})(hd:o.dst=some d)(hN:d<C.N)(hx:aaE P xs.toList ts.toList=some ms)(aW:C.N≤gS)(h:GS C Pt s a w A Lx sp)(hv:Z2 P (.iE d (.t t) ms) s K)(hn:eU C Pt s w A Lx sp a.defers K rest):o.wpIn (Fw C.ro) 0 P a w rest Q:=by
 obtain⟨a1,a2⟩:=l_ h.rs hx
 have aJ:(⟨a.tmps,[]⟩:Act).eval=a.eval:=rfl
 rw[aJ] at a2
 have h1:=(h.rs.env t).1
 simp only[Z2] at hv
 split at hv
 ·rename_i f fs cs e1
  replace e1:s.env t=.func (.func f) fs cs:=e1
  rw[e1] at h1
  replace h1:RV w A (.func (.func f) fs cs) (a.tmps.getD t undef):=h1
  generalize aR:a.tmps.getD t undef=v0 at h1
  cases h1 with
  |func _ _ _ vf vc eJ hsc hf hc=>
   refine Eg (vs:=vf++xs.map a.eval++vc) hv aW h hd hN (by simp[a1,eJ,hsc]) (fun i=> ?_) ?_ hn
   ·have e2:=lp vf.toList (xs.map a.eval).toList vc.toList i undef
    have e3:=lp fs (ms.map fun x=>(x.ev s.env).erase) cs i .any
    have e4:(vf++xs.map a.eval++vc).getD i undef=(vf.toList++(xs.map a.eval).toList++vc.toList).getD i undef:=by simp[List.getD_eq_getElem?_getD,Array.getD_eq_getD_getElem?,Array.getElem?_append,List.getElem?_append]
    rw[e4,e2,e3]
    simp only[Array.length_toList,eJ,Array.size_map,List.length_map,a1]
    split
    ·have:=hf i
     simpa[List.getD_eq_getElem?_getD,Array.getD_eq_getD_getElem?] using this
    ·split
     ·have:=a2 (i - fs.length)
      simpa[List.getD_eq_getElem?_getD,Array.getD_eq_getD_getElem?] using this
     ·have:=hc (i - fs.length - xs.size)
      simpa[List.getD_eq_getElem?_getD,Array.getD_eq_getD_getElem?] using this
   ·rw[Oper.semAt_eq _ _ _ (by rw[hop];intro c e;cases e)]
    simp[execOp,hop,resolve,Act.eval,aR,Deferred.ofValue,invoke]
 ·exact hv.elim
theorem Eh{N:Nat}{m:au}(h:trI P N o=some m):∃d xs ts ms,o.dst=some d∧d<N∧aaE P xs.toList ts.toList=some ms∧((∃f,o.op=.call {callee:=.value (.func f),args:=xs,argTypes:=ts}∧m=.fy d f ms)∨∃t,o.op=.call {callee:=.value (.tmp t),args:=xs,argTypes:=ts}∧m=.iE d (.t t) ms):=by
 unfold trI at h
 split at h
 ·rename_i d c hd hop
  split at h
  ·rename_i f hc
   split at h
   ·rename_i hN
    simp only[Option.map_eq_some_iff] at h
    obtain⟨ms,Z9,rfl⟩:=h
    exact⟨d,c.args,c.argTypes,ms,hd,hN,Z9,.inl ⟨f,by rw[hop,←hc],rfl⟩⟩
   ·cases h
  ·rename_i t hc
   split at h
   ·rename_i hN
    simp only[Option.map_eq_some_iff] at h
    obtain⟨ms,Z9,rfl⟩:=h
    exact⟨d,c.args,c.argTypes,ms,hd,hN,Z9,.inr ⟨t,by rw[hop,←hc],rfl⟩⟩
   ·cases h
  ·cases h
 ·cases h
theorem Ei{pos N:Nat}{m:au}(h:acK P pos N o=some m):∃d t x ty y,o.dst=some d∧d<N∧o.op=.call {callee:=.value (.tmp t),args:= #[x],argTypes:= #[ty]}∧k8 P ty x=some y∧m=.lY d (.t t) pos y:=by
 unfold acK at h
 split at h
 ·rename_i d c hd hop
  split at h
  ·rename_i t x ty hc hxs hts
   split at h
   ·rename_i hN
    simp only[Option.map_eq_some_iff] at h
    obtain⟨y,hy,rfl⟩:=h
    have e1:c.args= #[x]:=by rw[←Array.toList_inj,hxs]
    have e2:c.argTypes= #[ty]:=by rw[←Array.toList_inj,hts]
    refine⟨d,t,x,ty,y,hd,hN,?_,hy,rfl⟩
    rw[hop,←hc,←e1,←e2]
   ·cases h
  ·cases h
 ·cases h
def qv(P:Program)(N:Nat)(f:Array Oper→Oper→Option au):Prop:=∀{ops:Array Oper} {o:Oper} {m:au} {s:St} {a:Act} {w:World} {A:aK} {sp:Sp} {K:St→Prop} {rest:Act→World→Prop} {Q:Exit→Act→World→Prop},f ops o=some m→RS N s a w A sp→Z2 P m s K→Next s w A sp N K rest→(if Region.wanted o (yielded ops a.tmps)=true then o.wp P a w rest Q∨(o.asks P a w∧LetsOut Q) else rest (a.put o.dst undef) w)
theorem Ej{yl:Nat}{m:au}(aW:C.N≤gS)(hm:qu P yl C.N o=some m)(h:GS C Pt s a w A Lx sp)(hv:Z2 P m s K)(hn:eU C Pt s w A Lx sp a.defers K rest):o.wpIn (Fw C.ro) 0 P a w rest Q∧∀d,o.dst=some d→d<C.N∧d<gS:=by
 unfold qu at hm
 split at hm
 ·obtain⟨d,t,xs,ts,ms,hd,hN,hop,Z9,rfl⟩:=Ef hm
  exact⟨OG h aW hop hd hN Z9 hv hn,fun d' hd'=>by rw[hd] at hd';injection hd' with hd';subst hd';exact⟨hN,Nat.lt_of_lt_of_le hN aW⟩⟩
 split at hm
 ·obtain⟨d,xs,ts,ms,hd,hN,Z9,⟨f,hop,rfl⟩|⟨t,hop,rfl⟩⟩:=Eh hm
  ·exact⟨OK hop hd hN Z9 aW h hv hn,fun d' hd'=>by rw[hd] at hd';injection hd' with hd';subst hd';exact⟨hN,Nat.lt_of_lt_of_le hN aW⟩⟩
  ·exact⟨OL hop hd hN Z9 aW h hv hn,fun d' hd'=>by rw[hd] at hd';injection hd' with hd';subst hd';exact⟨hN,Nat.lt_of_lt_of_le hN aW⟩⟩
 split at hm
 ·obtain⟨d,t,x,ty,y,hd,hN,hop,hy,rfl⟩:=Ei hm
  exact⟨OH h aW hop hd hN hy hv hn,fun d' hd'=>by rw[hd] at hd';injection hd' with hd';subst hd';exact⟨hN,Nat.lt_of_lt_of_le hN aW⟩⟩
 ·unfold trO at hm
  split at hm
  ·rename_i d T x hd hop
   split at hm
   ·rename_i hN
    split at hm
    ·injection hm with hm;subst hm
     exact⟨Of hop hd hN aW ‹_› ‹_› h hv hn,fun d' hd'=>by rw[hd] at hd';injection hd' with hd';subst hd';exact⟨hN,Nat.lt_of_lt_of_le hN aW⟩⟩
    ·injection hm with hm;subst hm
     exact⟨Oz hop hd hN aW ‹_› ‹_› h hv hn,fun d' hd'=>by rw[hd] at hd';injection hd' with hd';subst hd';exact⟨hN,Nat.lt_of_lt_of_le hN aW⟩⟩
    ·cases hm
   ·cases hm
  ·rename_i d x hd hop
   split at hm
   ·rename_i hN
    simp only[Option.map_eq_some_iff] at hm
    obtain⟨y,hy,rfl⟩:=hm
    exact⟨Og hop hd hN aW hy h hv hn,fun d' hd'=>by rw[hd] at hd';injection hd' with hd';subst hd';exact⟨hN,Nat.lt_of_lt_of_le hN aW⟩⟩
   ·cases hm
  ·rename_i d x hd hop
   split at hm
   ·rename_i hN
    simp only[Option.map_eq_some_iff] at hm
    obtain⟨y,hy,rfl⟩:=hm
    exact⟨OB hop hd hN aW hy h hv hn,fun d' hd'=>by rw[hd] at hd';injection hd' with hd';subst hd';exact⟨hN,Nat.lt_of_lt_of_le hN aW⟩⟩
   ·cases hm
  ·rename_i d x hd hop
   split at hm
   ·rename_i hN
    simp only[Option.map_eq_some_iff] at hm
    obtain⟨y,hy,rfl⟩:=hm
    exact⟨OE hop hd hN aW hy h hv hn,fun d' hd'=>by rw[hd] at hd';injection hd' with hd';subst hd';exact⟨hN,Nat.lt_of_lt_of_le hN aW⟩⟩
   ·cases hm
  ·rename_i d T hd hop
   split at hm
   ·rename_i hN
    injection hm with hm;subst hm
    exact⟨Oh hop hd hN aW h hv hn,fun d' hd'=>by rw[hd] at hd';injection hd' with hd';subst hd';exact⟨hN,Nat.lt_of_lt_of_le hN aW⟩⟩
   ·cases hm
  ·rename_i T x k y hd hop
   split at hm
   ·split at hm
    ·injection hm with hm;subst hm
     exact⟨Ov hop hd ‹_› ‹_› ‹_› ‹_› ‹_› h hv hn,fun d' hd'=>by rw[hd] at hd';cases hd'⟩
    ·cases hm
   ·cases hm
  ·rename_i d T x k hd hop
   split at hm
   ·rename_i hN
    split at hm
    ·split at hm
     ·rename_i hz _ _
      simp only[Option.bind_eq_some_iff] at hz
      obtain⟨z,nE,rZ⟩:=hz
      injection hm with hm;subst hm
      exact⟨Ow hop hd hN aW ‹_› ‹_› nE rZ ‹_› ‹_› h hv hn,fun d' hd'=>by rw[hd] at hd';injection hd' with hd';subst hd';exact⟨hN,Nat.lt_of_lt_of_le hN aW⟩⟩
     ·cases hm
    ·cases hm
   ·cases hm
  ·rename_i T x st y hd hop
   split at hm
   ·injection hm with hm;subst hm
    exact⟨Ox hop hd ‹_› ‹_› ‹_› h hv hn,fun d' hd'=>by rw[hd] at hd';cases hd'⟩
   ·cases hm
  ·rename_i d T x k ok hd hop
   split at hm
   ·rename_i hN
    split at hm
    ·split at hm
     ·rename_i hz _ _
      simp only[Option.bind_eq_some_iff] at hz
      obtain⟨z,nE,rZ⟩:=hz
      injection hm with hm;subst hm
      exact⟨Ou hop hd hN aW ‹_› ‹_› nE rZ ‹_› ‹_› h hv hn,fun d' hd'=>by rw[hd] at hd';injection hd' with hd';subst hd';exact⟨hN,Nat.lt_of_lt_of_le hN aW⟩⟩
     ·cases hm
    ·cases hm
   ·cases hm
  ·cases hm
theorem Ek{yl:Nat}{N:Nat}{m:au}(hm:qu P yl N o=some m):∀d,o.dst=some d→d<N:=by
 intro d hd
 unfold qu at hm
 split at hm
 ·obtain⟨d',t,xs,ts,ms,hd',hN,_⟩:=Ef hm
  rw[hd] at hd';injection hd' with hd';subst hd';exact hN
 split at hm
 ·obtain⟨d',xs,ts,ms,hd',hN,_⟩:=Eh hm
  rw[hd] at hd';injection hd' with hd';subst hd';exact hN
 split at hm
 ·obtain⟨d',t,x,ty,y,hd',hN,_⟩:=Ei hm
  rw[hd] at hd';injection hd' with hd';subst hd';exact hN
 ·unfold trO at hm
  split at hm<;>rename_i hd' hop<;>rw[hd] at hd'<;>first|(cases hd';done)|skip
  all_goals first
   |(injection hd' with hd';subst hd';split at hm<;>first|assumption|cases hm)
   |cases hm
theorem El{f:Array Oper→Oper→Option au}(hf:qv P C.N f){aD:cn}{ops:Array Oper}{m:au}(aW:C.N≤gS)(hm:nO f P aD C.N ops o=some m)(h:GS C Pt s a w A Lx sp)(hv:Z2 P m s K)(hn:eU C Pt s w A Lx sp a.defers K rest):nM C.ro P ops o a w rest Q:=by
 have alt:nO.vg P aD C.N ops o=some m→nM C.ro P ops o a w rest Q:=by
  intro hm
  unfold nO.vg at hm
  split at hm
  ·rename_i hg
   unfold nM
   rw[if_pos (by simp[Region.wanted,hg])]
   exact(Ej aW hm h hv hn).1
  ·rename_i j want hg
   split at hm
   ·rename_i g m' hj hm'
    split at hm
    ·rename_i hgN
     injection hm with hm;subst hm
     exact OJ h hg hj hgN (fun d hd=>⟨Ek hm' d hd,Nat.lt_of_lt_of_le (Ek hm' d hd) aW⟩) hv (fun qd=>(Ej aW hm' h qd hn).1) hn
    ·cases hm
   ·cases hm
 unfold nO at hm
 split at hm
 ·rename_i m' hm'
  split at hm
  ·rename_i hc
   injection hm with hm;subst hm
   simp only[Bool.and_eq_true] at hc
   exact Oe h (fun c e=>by have:=hc.2;simp[Ee,e] at this) hc.1.2 hv (fun K rest Q qd hn'=>hf hm' h.rs qd hn') hn
  ·exact alt hm
 ·exact alt hm
def vh(f:Array Oper→Oper→Option au)(P:Program)(aD:cn)(N:Nat)(ops:Array Oper):List Oper→Option (List au)
 |[]=>some []
 |o::os=>match nO f P aD N ops o,vh f P aD N ops os with
  |some m,some ms=>some (m::ms)
  |_,_=>none
theorem Em{f:Array Oper→Oper→Option au}(hf:qv P C.N f){aD:cn}{ops:Array Oper}(aW:C.N≤gS):∀(os:List Oper) (ms:List au) (s:St) (a:Act) (w:World) (A Lx:aK) (sp:Sp),vh f P aD C.N ops os=some ms→GS C Pt s a w A Lx sp→vcs P ms K s→eU C Pt s w A Lx sp a.defers K (Q .normal)→wpListIn (Fw C.ro) 0 P ops Q os a w
 |[],ms,s,a,w,A,Lx,sp,hm,h,hv,hn=>by
  injection hm with hm;subst hm
  exact hn _ _ _ _ _ _ hv h (.refl _ _ _) rfl
 |o::os,ms,s,a,w,A,Lx,sp,hm,h,hv,hn=>by
  simp only[vh] at hm
  split at hm
  ·rename_i m ms' h1 h2
   injection hm with hm;subst hm
   exact El hf aW h1 h hv fun s' a' w' A' bp sp' hk hr aJ hd=>Em hf aW os ms' s' a' w' A' bp sp' h2 hr hk fun s2 a2 w2 A2 Lx2 sp2 hk2 cE dm er=>hn s2 a2 w2 A2 Lx2 sp2 hk2 cE (aJ.trans dm) (er.trans hd)
  ·cases hm
def vi(f:Array Oper→Oper→Option au)(P:Program)(aD:cn)(N:Nat)(ops:Array Oper):List Nat→Option (List (Nat×au))
 |[]=>some []
 |i::is=>match ops[i]? with
  |some o=>match nO f P aD N ops o,vi f P aD N ops is with
   |some m,some l=>some ((i,m)::l)
   |_,_=>none
  |none=>none
def y8(f:Array Oper→Oper→Option au)(P:Program)(aD:cn)(N:Nat)(id:Nat)(ops:Array Oper):Option (List au):=
 let ord:=look aD.ord id []
 match vi f P aD N ops ord with
 |some l=>if P.follows .mixedOrders&&acI ops&&decide (ord.length=ops.size)&&u_ ord&&((List.range ops.size).all fun i=>ord.contains i)&&mz (Region.before ops) l then some (l.map (·.2)) else none
 |none=>none
theorem En{f:Array Oper→Oper→Option au}{aD:cn}{N:Nat}{ops:Array Oper}:∀(is:List Nat) (l:List (Nat×au)),vi f P aD N ops is=some l→l.map (·.1)=is∧∀p∈l,∃o,ops[p.1]? =some o∧nO f P aD N ops o=some p.2
 |[],l,h=>by injection h with h;subst h;exact⟨rfl,by simp⟩
 |i::is,l,h=>by
  simp only[vi] at h
  split at h
  ·rename_i o ho
   split at h
   ·rename_i m l' hm hl
    injection h with h;subst h
    obtain⟨h1,h2⟩:=En is l' hl
    refine⟨by simp[h1],fun p hp=> ?_⟩
    rcases List.mem_cons.1 hp with rfl|hp
    ·exact⟨o,ho,hm⟩
    ·exact h2 p hp
   ·cases h
  ·cases h
theorem OM{f:Array Oper→Oper→Option au}(hf:qv P C.N f){aD:cn}{ops:Array Oper}(aW:C.N≤gS)(sv:acI ops=true):∀(n:Nat) (rem:List (Nat×au)) (listed:Array Bool) (s:St) (a:Act) (w:World) (A Lx:aK) (sp:Sp),
  rem.length=n→listed.size=ops.size→(rem.map (·.1)).Nodup→(∀i,i<ops.size→(listed.getD i true=false↔i∈rem.map (·.1)))→
  (∀p∈rem,∃o,ops[p.1]? =some o∧nO f P aD C.N ops o=some p.2)→mz (Region.before ops) rem=true→
  (∀i o,listed.getD i true=true→i<ops.size→ops[i]? =some o→o.after.all (fun e=> !Region.binds .any e||listed.getD e.on false)=true)→
  GS C Pt s a w A Lx sp→vcs P (rem.map (·.2)) K s→eU C Pt s w A Lx sp a.defers K (Q .normal)→
  wpAnyIn (Fw C.ro) 0 P .any ops Q n listed a w:=by
 intro n
 induction n with
 |zero=>
  intro rem listed s a w A Lx sp hlen hls dU hin htr oP cw h hv hn
  have yo:rem=[]:=List.eq_nil_of_length_eq_zero hlen
  subst yo
  refine⟨?_,hn _ _ _ _ _ _ hv h (.refl _ _ _) rfl⟩
  rw[Region.ready,List.filter_eq_nil_iff]
  intro i hi
  have hi':i<ops.size:=by simpa using hi
  have:=(hin i hi')
  simp only[List.map_nil,List.not_mem_nil,iff_false,Bool.not_eq_false] at this
  simp[this]
 |succ n ih=>
  intro rem listed s a w A Lx sp hlen hls dU hin htr oP cw h hv hn
  have hmem:∀i,i∈Region.ready .any ops listed→i<ops.size∧listed.getD i true=false∧∃o,ops[i]? =some o∧o.after.all (fun e=> !Region.binds .any e||listed.getD e.on false)=true:=by
   intro i hi
   rw[Region.ready,List.mem_filter] at hi
   obtain⟨h1,h2⟩:=hi
   have h1:i<ops.size:=by simpa using h1
   simp only[Bool.and_eq_true,Bool.not_eq_true'] at h2
   refine⟨h1,h2.1,ops[i],Array.getElem?_eq_getElem h1,?_⟩
   have:=h2.2
   rw[Array.getElem?_eq_getElem h1] at this
   exact this
  refine⟨fun oQ=> ?_,fun i hi=> ?_⟩
  ·exfalso
   have hne:rem.map (·.1)≠[]:=by
    intro e
    have:rem.length=0:=by simpa using congrArg List.length e
    omega
   have hex:∃i,i∈rem.map (·.1)∧∀j,j∈rem.map (·.1)→i≤j:=by
    generalize rem.map (·.1)=l at hne
    induction l with
    |nil=>exact absurd rfl hne
    |cons x l ihl=>
     by_cases hl:l=[]
     ·subst hl;exact⟨x,by simp,by simp⟩
     ·obtain⟨i,h1,h2⟩:=ihl hl
      by_cases hx:x≤i
      ·exact⟨x,by simp,fun j hj=>by rcases List.mem_cons.1 hj with rfl|hj;exact Nat.le_refl _;exact Nat.le_trans hx (h2 j hj)⟩
      ·exact⟨i,by simp[h1],fun j hj=>by rcases List.mem_cons.1 hj with rfl|hj;omega;exact h2 j hj⟩
   obtain⟨i,hi1,hi2⟩:=hex
   obtain⟨p,hp,rfl⟩:=List.mem_map.1 hi1
   obtain⟨o,ho,_⟩:=htr p hp
   have hlt:=(Array.getElem?_eq_some_iff.1 ho).1
   have sw:p.1∈Region.ready .any ops listed:=by
    rw[Region.ready,List.mem_filter]
    refine⟨by simpa using hlt,?_⟩
    have hl:listed.getD p.1 true=false:=(hin _ hlt).2 hi1
    simp only[hl,Bool.not_false,Bool.true_and,ho,Option.map_some,Option.getD_some]
    refine Array.all_eq_true_iff_forall_mem.2 fun e he=> ?_
    cases hb:Region.binds .any e
    ·rfl
    ·have hf:=(List.all_eq_true.1 sv) p.1 (by simpa using hlt)
     rw[ho] at hf
     have hf:=(Array.all_eq_true_iff_forall_mem.1 hf) e he
     simp only[hb,Bool.not_true,Bool.false_or,decide_eq_true_eq] at hf
     have hnot:e.on∉rem.map (·.1):=fun hm=>by have:=hi2 _ hm;omega
     have hlo:e.on<ops.size:=by omega
     have:=mt (hin e.on hlo).1 hnot
     rw[Bool.not_eq_false] at this
     rw[Array.getD_eq_getD_getElem?,Array.getElem?_eq_getElem (by omega)] at this
     simp only[Bool.not_true,Bool.false_or]
     rw[Array.getD_eq_getD_getElem?,Array.getElem?_eq_getElem (by omega)]
     exact this
   rw[oQ] at sw
   cases sw
  ·obtain⟨hlt,dG,o,ho,hall⟩:=hmem i hi
   have yp:i∈rem.map (·.1):=(hin i hlt).1 dG
   obtain⟨p,hp,rfl⟩:=List.mem_map.1 yp
   obtain⟨pre,post,rfl⟩:=List.append_of_mem hp
   obtain⟨yq,je⟩:=ym pre oP
   obtain⟨o',ho',yt⟩:=htr p hp
   rw[ho] at ho';injection ho' with ho';subst ho'
   have yu:∀y∈pre.map (·.2),mw y p.2=true:=by
    intro y hy
    obtain⟨q,hq,rfl⟩:=List.mem_map.1 hy
    have:=je q hq
    cases hw:((Region.before ops).getD p.1 0).testBit q.1
    ·rw[hw,Bool.false_or] at this;exact this
    ·exfalso
     have h1:=DU cw hls (DS ops _ _ hw) o ho hall
     obtain⟨oq,hoq,_⟩:=htr q (List.mem_append_left _ hq)
     have yw:=(Array.getElem?_eq_some_iff.1 hoq).1
     have h2:=(hin q.1 yw).2 (List.mem_map.2 ⟨q,List.mem_append_left _ hq,rfl⟩)
     rw[Array.getD_eq_getD_getElem?,Array.getElem?_eq_getElem (by omega)] at h1 h2
     rw[Option.getD_some] at h1 h2
     rw[h1] at h2;cases h2
   rw[List.map_append,List.map_cons] at hv
   have yx:aay s:=⟨w.heap.size,fun b hb=>by
    cases hl:s.loc b with
    |none=>rfl
    |some cs=>
     obtain⟨vs,T,h1,_⟩:=h.rs.loc b cs hl
     have:=(Array.getElem?_eq_some_iff.1 h1).1
     omega⟩
   have hv2:=yj (pre.map (·.2)) yu s yx hv
   rw[←List.map_append] at hv2
   unfold wpOpIn
   simp only[ho]
   refine El hf aW yt h hv2 fun s' a' w' A' bp sp' hk hr aJ hd=> ?_
   have dH:∀j,j<ops.size→(listed.setIfInBounds p.1 true).getD j true=if j=p.1 then true else listed.getD j true:=by
    intro j hj
    simp only[Array.getD_eq_getD_getElem?]
    by_cases e:j=p.1
    ·subst e;rw[Array.getElem?_setIfInBounds_self_of_lt (by omega)];simp
    ·rw[Array.getElem?_setIfInBounds_ne (Ne.symm e),if_neg e]
   refine ih (pre++post) (listed.setIfInBounds p.1 true) s' a' w' A' bp sp' (by simp at hlen⊢;omega) (by simpa using hls) ?_ (fun j hj=> ?_) (fun q hq=>htr q ?_) yq (fun j oj hj sx hoj=> ?_) hr hk (fun s2 a2 w2 A2 Lx2 sp2 hk2 cE dm er=>hn s2 a2 w2 A2 Lx2 sp2 hk2 cE (aJ.trans dm) (er.trans hd))
   ·rw[List.map_append,List.map_cons] at dU
    rw[List.map_append]
    exact dU.sublist (List.Sublist.append_left (List.sublist_cons_self _ _) _)
   ·rw[dH j hj]
    rw[List.map_append,List.map_cons] at dU hin
    rw[List.map_append]
    by_cases e:j=p.1
    ·subst e
     simp only[if_true,Bool.true_eq_false,false_iff,List.mem_append,not_or]
     have:=List.nodup_append.1 dU
     refine⟨fun hm=>(this.2.2 _ hm _ (List.mem_cons_self ..)) rfl,fun hm=> ?_⟩
     exact(List.nodup_cons.1 this.2.1).1 hm
    ·rw[if_neg e,hin j hj]
     simp only[List.mem_append,List.mem_cons,e,false_or]
   ·rcases List.mem_append.1 hq with hq|hq
    ·exact List.mem_append_left _ hq
    ·exact List.mem_append_right _ (List.mem_cons_of_mem _ hq)
   ·have yy:∀k,listed.getD k false=true→(listed.setIfInBounds p.1 true).getD k false=true:=by
     intro k hk
     simp only[Array.getD_eq_getD_getElem?] at hk⊢
     by_cases e:k=p.1
     ·subst e;rw[Array.getElem?_setIfInBounds_self_of_lt (by omega)];rfl
     ·rw[Array.getElem?_setIfInBounds_ne (Ne.symm e)];exact hk
    have yz:oj.after.all (fun e=> !Region.binds .any e||listed.getD e.on false)=true:=by
     rw[dH j sx] at hj
     by_cases e:j=p.1
     ·subst e;rw[ho] at hoj;injection hoj with hoj;subst hoj;exact hall
     ·rw[if_neg e] at hj;exact cw j oj hj sx hoj
    refine Array.all_eq_true_iff_forall_mem.2 fun e he=> ?_
    have:=(Array.all_eq_true_iff_forall_mem.1 yz) e he
    cases hb:Region.binds .any e
    ·rfl
    ·simp only[hb,Bool.not_true,Bool.false_or] at this⊢
     exact yy _ this
theorem GS.drew(h:GS C Pt s a w A Lx sp):GS C Pt s a w.drew A Lx sp:=(h.own (a':=a) h.rs.drew (Ev.drew _) (fun _ _=>rfl) rfl).1
theorem ON{f:Array Oper→Oper→Option au}(hf:qv P C.N f){aD:cn}{id:Nat}{ops:Array Oper}{ms:List au}(aW:C.N≤gS)
  (hm:y8 f P aD C.N id ops=some ms)(h:GS C Pt s a w A Lx sp)(hv:vcs P ms K s)(hn:eU C Pt s w A Lx sp a.defers K (Q .normal)):
  (Code.region id ops true).wpIn (Fw C.ro) 0 P Q a w:=by
 unfold y8 at hm
 simp only at hm
 split at hm
 ·rename_i l hl
  split at hm
  ·rename_i hc
   injection hm with hm;subst hm
   simp only[Bool.and_eq_true,decide_eq_true_eq] at hc
   obtain⟨⟨⟨⟨⟨OO,sv⟩,hlen⟩,OP⟩,hall⟩,oP⟩:=hc
   obtain⟨h1,h2⟩:=En _ l hl
   have hlen':l.length=ops.size:=by rw[←hlen,←h1];simp
   have hin:∀i,i<ops.size→i∈l.map (·.1):=by
    intro i hi
    have:=(List.all_eq_true.1 hall) i (by simpa using hi)
    rw[h1];simpa using this
   refine wpIn_region_any OO ?_
   have dU:(l.map (·.1)).Nodup:=by rw[h1];exact DW _ OP
   have hr0:(Array.replicate ops.size false).size=ops.size:=by simp
   rw[←hlen']
   rw[hlen']
   refine OM hf aW sv ops.size l (Array.replicate ops.size false) s a _ A Lx sp hlen' hr0 dU (fun i hi=>⟨fun _=>hin i hi,fun _=>by simp[Array.getD_eq_getD_getElem?,hi]⟩) h2 oP (fun i o hi hlt _=> ?_) h.drew hv (fun s' a' w' A' bp sp' hk hr aJ=>hn s' a' w' A' bp sp' hk hr ((Ev.drew _).trans aJ))
   simp[Array.getD_eq_getD_getElem?,hlt] at hi
  ·cases hm
 ·cases hm
theorem OQ(aD:cn)(N:Nat):qv P N (nA P aD N):=fun hm h hv hn=>nG hm h hv hn
theorem OR(aD:cn)(N:Nat):qv P N (su P aD N):=fun hm h hv hn=>DV hm h hv hn
end
end Go.Z4
namespace Go.Z4
open Go.RowKit
section
variable {P:Program} {C:Ctx P} {Pt:List (Nat×Obj)} {s:St} {a:Act} {w:World} {A Lx:aK} {sp:Sp} {K:St→Prop}
theorem OS{k:Nat}(hk:k<gS)(h:GS C Pt s a w A Lx sp)(hv:Z2 P (.bD k) s K):∃s' A' sp',K s'∧GS C Pt s' a w A' Lx sp'∧Ev w A (join (held s sp) Lx) w A' (join (held s' sp') Lx):=by
 simp only[Z2] at hv
 split at hv
 ·rename_i b len cap sz e1
  split at hv
  ·rename_i cs hb
   obtain⟨h1,h2,h3,hK⟩:=hv
   obtain⟨vs,T,hh,hsz,hr⟩:=h.rs.loc b cs hb
   let A':aK:=fun c o=>A c o∨(c=b∧o<cs.length)
   have hmono:∀{x:AV} {v:Value},RV w A x v→RV w A' x v:=fun hx=>hx.mono (fun c o v ha hv=>⟨hv,.inl ha⟩) (.same fun _ _ ha=>.inl ha)
   have nP:∀r,(sp r).2.1<(sp r).2.2→(sp r).1≠b:=fun r hr' e=>by
    have:=(h.rs.bW r hr').2
    rw[e,hb] at this;cases this
   have bS:RS C.N ⟨ak s.env k (.slice sz (chunk sz cs len) 0),ak s.loc b none⟩ ⟨a.tmps,[]⟩ w A' sp:=by
    refine⟨h.rs.size,rfl,fun d=> ?_,fun c cs' hc=> ?_,fun r hr'=>⟨(h.rs.bW r hr').1,?_⟩,h.rs.spd,fun c o ha=>⟨?_,fun hl=> ?_⟩⟩
    ·show RV w A' (ak s.env k (AV.slice sz (chunk sz cs len) 0) d) (a.tmps.getD d undef)∧bV sp (ak s.env k (AV.slice sz (chunk sz cs len) 0) d) (a.tmps.getD d undef)
     by_cases hd:d=k
     ·subst hd
      rw[show ak s.env d (AV.slice sz (chunk sz cs len) 0) d=AV.slice sz (chunk sz cs len) 0 from cI _ _ _]
      have g:=(h.rs.env d).1
      rw[e1] at g
      generalize a.tmps.getD d undef=v0 at g
      cases g with
      |aq _ _ _ _ _ hlc=>
       refine⟨?_,.inl rfl⟩
       have:=RV.slice (w:=w) (A:=A') sz (chunk sz cs len) 0 b 0 cap (fun i=>vs.getD i undef) (fun x hx=>(oI sz len cs h1 h2 x hx).1) (fun x hx=>(oI sz len cs h1 h2 x hx).2) (by rw[iF];exact hlc) (by rw[iF];exact h3) (fun i hi=> ?_) (fun i=> ?_)
       ·rw[iF] at this;exact this
       ·rw[iF] at hi
        refine⟨?_,.inr ⟨rfl,by omega⟩⟩
        rw[Nat.zero_add]
        simp[World.cell?,hh,Array.getD_eq_getD_getElem?,Array.getElem?_eq_getElem (show i<vs.size by omega)]
       ·rw[uU sz len cs h1 h2,gj]
        by_cases hi:i<len*sz
        ·have e3:(cs.take (len*sz)).getD i .any=cs.getD i .any:=by simp only[List.getD_eq_getElem?_getD,List.getElem?_take,hi,if_true]
         rw[e3]
         exact(hmono (hr i).1).erase0
        ·have e3:(cs.take (len*sz)).getD i .any=.any:=by simp only[List.getD_eq_getElem?_getD,List.getElem?_take,hi,if_false,Option.getD_none]
         rw[e3]
         exact .any _
     ·rw[show ak s.env k (AV.slice sz (chunk sz cs len) 0) d=s.env d from Z5 _ _ hd]
      exact⟨hmono (h.rs.env d).1,(h.rs.env d).2⟩
    ·simp only[ak] at hc
     split at hc
     ·cases hc
     ·obtain⟨vs',T',g1,g2,g3⟩:=h.rs.loc c cs' hc
      exact⟨vs',T',g1,g2,fun i=>⟨hmono (g3 i).1,(g3 i).2⟩⟩
    ·simp only[ak];rw[if_neg (nP r hr')];exact(h.rs.bW r hr').2
    ·rcases ha with ha|⟨rfl,_⟩
     ·exact(h.rs.av c o ha).1
     ·exact cc hh
    ·rcases ha with ha|⟨rfl,ho⟩
     ·refine(h.rs.av c o ha).2 ?_
      rcases hl with hl|hl
      ·simp only[ak] at hl
       split at hl
       ·exact absurd rfl hl
       ·exact .inl hl
      ·exact .inr hl
     ·rcases hl with hl|⟨r,q1,q2,q3⟩
      ·simp[ak] at hl
      ·exact nP r (by omega) q1
   have eA:∀c o,live (ak s.loc b none) sp c o→live s.loc sp c o:=by
    rintro c o (hl|hl)
    ·simp only[ak] at hl
     split at hl
     ·exact absurd rfl hl
     ·exact .inl hl
    ·exact .inr hl
   have aJ:Ev w A (live s.loc sp) w A' (live (ak s.loc b none) sp):=by
    refine⟨rfl,rfl,rfl,Nat.le_refl _,fun c o _ hl=>⟨rfl,fun hh=>hl (eA c o hh)⟩,fun _ _ _=>rfl,fun _ _ ha=>.inl ha,fun c o ha=> ?_⟩
    rcases ha with ha|⟨rfl,_⟩
    ·exact .inl ha
    ·exact .inr (.inl (.inl (by rw[hb];exact fun e=>by cases e)))
   obtain⟨g1,g2⟩:=h.own (a':=a) bS aJ (fun q hq=>Z5 _ _ (by omega)) rfl
   exact⟨_,A',sp,hK,g1,g2⟩
  ·exact hv.elim
 ·rename_i b e1
  split at hv
  ·rename_i cs hb
   rcases hv with ⟨sz,off,hc,hK⟩|⟨off,b2,len,cap,sz,aU,hc,hne,cF,h1,h2,h3,hK⟩|⟨off,b2,es,hc,cm,hK⟩|hK
   ·have hr0:=h.rs.aB ((k+1)*1000+off)
    have hb':(s.aB ((k+1)*1000+off)).loc b=some (cs.map (az ((k+1)*1000+off))):=by simp[St.aB,hb]
    have hlt:off<cs.length:=by
     by_cases hl:off<cs.length
     ·exact hl
     ·rw[List.getElem?_eq_none (by omega)] at hc;cases hc
    obtain⟨vs,T,hh,hsz,hr⟩:=hr0.loc b _ hb'
    have hcell:RV w A (.lit (.slice none 0 0)) (vs.getD off undef):=by
     have:=(hr off).1
     rw[List.getD_eq_getElem?_getD,List.getElem?_map,hc] at this
     exact this
    have aaM:∀i,((cs.map (az ((k+1)*1000+off))).set off (.slice sz [] ((k+1)*1000+off))).getD i .any=if i=off then .slice sz [] ((k+1)*1000+off) else (cs.map (az ((k+1)*1000+off))).getD i .any:=fun i=>by
     simp only[List.getD_eq_getElem?_getD,List.getElem?_set]
     by_cases e:off=i
     ·subst e;simp[hlt]
     ·simp[e,Ne.symm e]
    have eA:∀c o,live ((s.aB ((k+1)*1000+off)).new b ((cs.map (az ((k+1)*1000+off))).set off (.slice sz [] ((k+1)*1000+off)))).loc (ak sp ((k+1)*1000+off) (0,0,0)) c o→live (s.aB ((k+1)*1000+off)).loc (ak sp ((k+1)*1000+off) (0,0,0)) c o:=by
     rintro c o (hl|hl)
     ·refine .inl fun e=> ?_
      by_cases ec:c=b
      ·subst ec;rw[hb'] at e;cases e
      ·exact hl (by simp only[St.new,Z5 _ _ ec];exact e)
     ·exact .inr hl
    have bS:RS C.N ((s.aB ((k+1)*1000+off)).new b ((cs.map (az ((k+1)*1000+off))).set off (.slice sz [] ((k+1)*1000+off)))) ⟨a.tmps,[]⟩ w A (ak sp ((k+1)*1000+off) (0,0,0)):=by
     refine⟨hr0.size,rfl,hr0.env,fun c cs' eV=> ?_,fun r hr'=>⟨(hr0.bW r hr').1,?_⟩,hr0.spd,fun c o ha=>⟨(hr0.av c o ha).1,fun hl=>(hr0.av c o ha).2 (eA c o hl)⟩⟩
     ·by_cases ec:c=b
      ·subst ec
       simp only[St.new,cI] at eV
       injection eV with eV
       subst eV
       refine⟨vs,T,hh,by rw[List.length_set];exact hsz,fun i=> ?_⟩
       rw[aaM i]
       by_cases ei:i=off
       ·subst ei
        rw[if_pos rfl]
        generalize vs.getD i undef=v0 at hcell
        cases hcell with
        |lit _ _=>exact⟨.cH _ _,trivial⟩
       ·rw[if_neg ei];exact hr i
      ·simp only[St.new,Z5 _ _ ec] at eV
       exact hr0.loc c cs' eV
     ·have g:=(hr0.bW r hr').2
      by_cases ec:((ak sp ((k+1)*1000+off) (0,0,0)) r).1=b
      ·rw[ec,hb'] at g;cases g
      ·simp only[St.new,Z5 _ _ ec];exact g
    have aJ:Ev w A (live s.loc sp) w A (live ((s.aB ((k+1)*1000+off)).new b ((cs.map (az ((k+1)*1000+off))).set off (.slice sz [] ((k+1)*1000+off)))).loc (ak sp ((k+1)*1000+off) (0,0,0))):=.same fun c o hl=>xy _ (eA c o hl)
    obtain⟨g1,g2⟩:=h.own (a':=a) bS aJ (fun q hq=>nJ h.ig q hq) rfl
    exact⟨_,A,_,hK,g1,g2⟩
   ·have hlt:off<cs.length:=by
     by_cases hl:off<cs.length
     ·exact hl
     ·rw[List.getElem?_eq_none (by omega)] at hc;cases hc
    obtain⟨vs,T,hh,hsz,hr⟩:=h.rs.loc b cs hb
    obtain⟨jM,T2,uV,M7,cE⟩:=h.rs.loc b2 aU cF
    have hcell:RV w A (.aq b2 0 len cap sz) (vs.getD off undef):=by
     have:=(hr off).1
     rw[List.getD_eq_getElem?_getD,hc] at this
     exact this
    let A':aK:=fun c o=>A c o∨(c=b2∧o<aU.length)
    have hmono:∀{x:AV} {v:Value},RV w A x v→RV w A' x v:=fun hx=>hx.mono (fun c o v ha hv=>⟨hv,.inl ha⟩) (.same fun _ _ ha=>.inl ha)
    have OT:RV w A' (.slice sz (chunk sz aU len) 0) (vs.getD off undef)∧bV sp (.slice sz (chunk sz aU len) 0) (vs.getD off undef):=by
     generalize vs.getD off undef=v0 at hcell
     cases hcell with
     |aq _ _ _ _ _ hlc=>
      refine⟨?_,.inl rfl⟩
      have:=RV.slice (w:=w) (A:=A') sz (chunk sz aU len) 0 b2 0 cap (fun i=>jM.getD i undef) (fun x hx=>(oI sz len aU h1 h2 x hx).1) (fun x hx=>(oI sz len aU h1 h2 x hx).2) (by rw[iF];exact hlc) (by rw[iF];exact h3) (fun i hi=> ?_) (fun i=> ?_)
      ·rw[iF] at this;exact this
      ·rw[iF] at hi
       refine⟨?_,.inr ⟨rfl,by omega⟩⟩
       rw[Nat.zero_add]
       simp[World.cell?,uV,Array.getD_eq_getD_getElem?,Array.getElem?_eq_getElem (show i<jM.size by omega)]
      ·rw[uU sz len aU h1 h2,gj]
       by_cases hi:i<len*sz
       ·have e3:(aU.take (len*sz)).getD i .any=aU.getD i .any:=by simp only[List.getD_eq_getElem?_getD,List.getElem?_take,hi,if_true]
        rw[e3]
        exact(hmono (cE i).1).erase0
       ·have e3:(aU.take (len*sz)).getD i .any=.any:=by simp only[List.getD_eq_getElem?_getD,List.getElem?_take,hi,if_false,Option.getD_none]
        rw[e3]
        exact .any _
    have nP:∀r,(sp r).2.1<(sp r).2.2→(sp r).1≠b2:=fun r hr' e=>by
     have:=(h.rs.bW r hr').2
     rw[e,cF] at this;cases this
    have OU:∀r,(sp r).2.1<(sp r).2.2→(sp r).1≠b:=fun r hr' e=>by
     have:=(h.rs.bW r hr').2
     rw[e,hb] at this;cases this
    have aaM:∀i,(cs.set off (AV.slice sz (chunk sz aU len) 0)).getD i .any=if i=off then .slice sz (chunk sz aU len) 0 else cs.getD i .any:=fun i=>by
     simp only[List.getD_eq_getElem?_getD,List.getElem?_set]
     by_cases e:off=i
     ·subst e;simp[hlt]
     ·simp[e,Ne.symm e]
    have eA:∀c o,live (ak (ak s.loc b (some (cs.set off (AV.slice sz (chunk sz aU len) 0)))) b2 none) sp c o→live s.loc sp c o:=by
     rintro c o (hl|hl)
     ·by_cases e2:c=b2
      ·subst e2;simp[ak] at hl
      ·by_cases e1:c=b
       ·subst e1;exact .inl (by rw[hb];exact fun e=>by cases e)
       ·simp only[ak,if_neg e1,if_neg e2] at hl
        exact .inl hl
     ·exact .inr hl
    have bS:RS C.N ⟨s.env,ak (ak s.loc b (some (cs.set off (AV.slice sz (chunk sz aU len) 0)))) b2 none⟩ ⟨a.tmps,[]⟩ w A' sp:=by
     refine⟨h.rs.size,rfl,fun d=>⟨hmono (h.rs.env d).1,(h.rs.env d).2⟩,fun c cs' hc=> ?_,fun r hr'=>⟨(h.rs.bW r hr').1,?_⟩,h.rs.spd,fun c o ha=>⟨?_,fun hl=> ?_⟩⟩
     ·simp only at hc
      by_cases e2:c=b2
      ·subst e2;simp[ak] at hc
      ·rw[Z5 _ _ e2] at hc
       by_cases e1:c=b
       ·subst e1
        rw[cI] at hc
        injection hc with hc
        subst hc
        refine⟨vs,T,hh,by rw[List.length_set];exact hsz,fun i=> ?_⟩
        rw[aaM i]
        by_cases ei:i=off
        ·subst ei
         rw[if_pos rfl]
         exact OT
        ·rw[if_neg ei];exact⟨hmono (hr i).1,(hr i).2⟩
       ·rw[Z5 _ _ e1] at hc
        obtain⟨vs',T',g1,g2,g3⟩:=h.rs.loc c cs' hc
        exact⟨vs',T',g1,g2,fun i=>⟨hmono (g3 i).1,(g3 i).2⟩⟩
     ·simp only
      rw[Z5 _ _ (nP r hr'),Z5 _ _ (OU r hr')]
      exact(h.rs.bW r hr').2
     ·rcases ha with ha|⟨rfl,_⟩
      ·exact(h.rs.av c o ha).1
      ·exact cc uV
     ·rcases ha with ha|⟨rfl,ho⟩
      ·exact(h.rs.av c o ha).2 (eA c o hl)
      ·rcases hl with hl|⟨r,q1,q2,q3⟩
       ·simp[ak] at hl
       ·exact nP r (by omega) q1
    have aJ:Ev w A (live s.loc sp) w A' (live (ak (ak s.loc b (some (cs.set off (AV.slice sz (chunk sz aU len) 0)))) b2 none) sp):=by
     refine⟨rfl,rfl,rfl,Nat.le_refl _,fun c o _ hl=>⟨rfl,fun hh=>hl (eA c o hh)⟩,fun _ _ _=>rfl,fun _ _ ha=>.inl ha,fun c o ha=> ?_⟩
     rcases ha with ha|⟨rfl,_⟩
     ·exact .inl ha
     ·exact .inr (.inl (.inl (by rw[cF];exact fun e=>by cases e)))
    obtain⟨g1,g2⟩:=h.own (a':=a) bS aJ (fun q hq=>rfl) rfl
    exact⟨_,A',sp,hK,g1,g2⟩
   ·have hlt:off<cs.length:=by
     by_cases hl:off<cs.length
     ·exact hl
     ·rw[List.getElem?_eq_none (by omega)] at hc;cases hc
    obtain⟨vs,T,hh,hsz,hr⟩:=h.rs.loc b cs hb
    obtain⟨es',clock,aaf,oO,oV,-,-⟩:=h.mD cm
    have hcell:RV w A (.aZ b2) (vs.getD off undef):=by
     have:=(hr off).1
     rw[List.getD_eq_getElem?_getD,hc] at this
     exact this
    have gq:cv s b2 0:=by simp only[cv,cm];intro e;cases e
    have cq:=cc aaf
    let A':aK:=fun c o=>A c o∨c=b2
    have hmono:∀{x:AV} {v:Value},RV w A x v→RV w A' x v:=fun hx=>hx.mono (fun c o v ha hv=>⟨hv,.inl ha⟩) (.same fun _ _ ha=>.inl ha)
    have hmap:RV w A' (.fmap es) (vs.getD off undef)∧bV sp (.fmap es) (vs.getD off undef):=by
     generalize vs.getD off undef=v0 at hcell
     cases hcell with
     |aZ _=>exact⟨.fmap es b2 es' clock aaf (fun o=>.inr rfl) oO (fun i e he=>hmono (oV i e he).1) (fun i e he=>hmono (oV i e he).2),trivial⟩
    have aaM:∀i,(cs.set off (AV.fmap es)).getD i .any=if i=off then .fmap es else cs.getD i .any:=fun i=>by
     simp only[List.getD_eq_getElem?_getD,List.getElem?_set]
     by_cases e:off=i
     ·subst e;simp[hlt]
     ·simp[e,Ne.symm e]
    have eC:∀d,d≠oS+b2→ak s.env (oS+b2) .any d=s.env d:=fun d hd=>Z5 _ _ hd
    have acP:∀c o,held ⟨ak s.env (oS+b2) .any,ak s.loc b (some (cs.set off (AV.fmap es)))⟩ sp c o→held s sp c o:=by
     rintro c o ((hl|hl)|hl)
     ·by_cases e1:c=b
      ·subst e1;exact .inl (.inl (by rw[hb];exact fun e=>by cases e))
      ·simp only[ak,if_neg e1] at hl
       exact .inl (.inl hl)
     ·exact .inl (.inr hl)
     ·by_cases e1:c=b2
      ·subst e1;exact .inr gq
      ·simp only[cv] at hl
       rw[eC _ (by omega)] at hl
       exact .inr hl
    have bS:RS C.N ⟨ak s.env (oS+b2) .any,ak s.loc b (some (cs.set off (AV.fmap es)))⟩ ⟨a.tmps,[]⟩ w A' sp:=by
     refine⟨h.rs.size,rfl,fun d=> ?_,fun c cs' hc=> ?_,fun r hr'=>⟨(h.rs.bW r hr').1,?_⟩,h.rs.spd,fun c o ha=>⟨?_,fun hl=> ?_⟩⟩
     ·by_cases hd:d=oS+b2
      ·subst hd
       rw[show(St.mk (ak s.env (oS+b2) .any) (ak s.loc b (some (cs.set off (AV.fmap es))))).env (oS+b2)=.any from cI _ _ _]
       exact⟨.any _,trivial⟩
      ·rw[show(St.mk (ak s.env (oS+b2) .any) (ak s.loc b (some (cs.set off (AV.fmap es))))).env d=s.env d from eC d hd]
       exact⟨hmono (h.rs.env d).1,(h.rs.env d).2⟩
     ·simp only at hc
      by_cases e1:c=b
      ·subst e1
       rw[cI] at hc
       injection hc with hc
       subst hc
       refine⟨vs,T,hh,by rw[List.length_set];exact hsz,fun i=> ?_⟩
       rw[aaM i]
       by_cases ei:i=off
       ·subst ei
        rw[if_pos rfl]
        exact hmap
       ·rw[if_neg ei];exact⟨hmono (hr i).1,(hr i).2⟩
      ·rw[Z5 _ _ e1] at hc
       obtain⟨vs',T',g1,g2,g3⟩:=h.rs.loc c cs' hc
       exact⟨vs',T',g1,g2,fun i=>⟨hmono (g3 i).1,(g3 i).2⟩⟩
     ·have g:=(h.rs.bW r hr').2
      by_cases ec:(sp r).1=b
      ·rw[ec,hb] at g;cases g
      ·simp only
       rw[Z5 _ _ ec];exact g
     ·rcases ha with ha|rfl
      ·exact(h.rs.av c o ha).1
      ·exact cq
     ·have hl':live s.loc sp c o:=by
       rcases hl with hl|hl
       ·by_cases e1:c=b
        ·subst e1;exact .inl (by rw[hb];exact fun e=>by cases e)
        ·simp only[ak,if_neg e1] at hl
         exact .inl hl
       ·exact .inr hl
      rcases ha with ha|rfl
      ·exact(h.rs.av c o ha).2 hl'
      ·exact h.rs.nL aaf rfl o hl'
    have aJ:Ev w A (held s sp) w A' (held ⟨ak s.env (oS+b2) .any,ak s.loc b (some (cs.set off (AV.fmap es)))⟩ sp):=by
     refine⟨rfl,rfl,rfl,Nat.le_refl _,fun c o _ hl=>⟨rfl,fun hh=>hl (acP c o hh)⟩,fun _ _ _=>rfl,fun _ _ ha=>.inl ha,fun c o ha=> ?_⟩
     rcases ha with ha|rfl
     ·exact .inl ha
     ·exact .inr (.inl (.inr gq))
    have y_:∀q,gS≤q→fR ((ak s.env (oS+b2) .any) q)=true:=fun q hq=>by
     by_cases hd:q=oS+b2
     ·subst hd
      rw[cI];rfl
     ·rw[eC q hd]
      exact h.ig q hq
    have eT:∀c,gm w A' c ((ak s.env (oS+b2) .any) (oS+c)):=fun c=>by
     by_cases e1:c=b2
     ·subst e1
      rw[cI]
      exact .any
     ·rw[eC _ (by omega)]
      exact(h.ob c).mono (fun _=>rfl) (fun c o v ha hv=>⟨hv,.inl ha⟩) (.same fun _ _ ha=>.inl ha)
    have sC:∀c o,cv ⟨ak s.env (oS+b2) .any,ak s.loc b (some (cs.set off (AV.fmap es)))⟩ c o→¬A' c o:=fun c o hc ha=>by
     have e1:c≠b2:=by
      rintro rfl
      exact hc (cI _ _ _)
     simp only[cv] at hc
     rw[eC _ (by omega)] at hc
     rcases ha with ha|rfl
     ·exact h.oa c o hc ha
     ·exact e1 rfl
    obtain⟨g1,g2⟩:=h.step (a':=a) bS aJ y_ (Z5 _ _ (Nat.ne_of_lt (abd b2))) eT sC rfl
    exact⟨_,A',sp,hK,g1,g2⟩
   ·obtain⟨vs,T,hh,hsz,hr⟩:=h.rs.loc b cs hb
    let A':aK:=fun c o=>A c o∨(c=b∧o<cs.length)
    have hmono:∀{x:AV} {v:Value},RV w A x v→RV w A' x v:=fun hx=>hx.mono (fun c o v ha hv=>⟨hv,.inl ha⟩) (.same fun _ _ ha=>.inl ha)
    have nP:∀r,(sp r).2.1<(sp r).2.2→(sp r).1≠b:=fun r hr' e=>by
     have:=(h.rs.bW r hr').2
     rw[e,hb] at this;cases this
    have eA:∀c o,live (ak s.loc b none) sp c o→live s.loc sp c o:=by
     rintro c o (hl|hl)
     ·simp only[ak] at hl
      split at hl
      ·exact absurd rfl hl
      ·exact .inl hl
     ·exact .inr hl
    have bS:RS C.N ⟨ak s.env k (.ref (cs.map AV.erase0)),ak s.loc b none⟩ ⟨a.tmps,[]⟩ w A' sp:=by
     refine⟨h.rs.size,rfl,fun d=> ?_,fun c cs' hc=> ?_,fun r hr'=>⟨(h.rs.bW r hr').1,?_⟩,h.rs.spd,fun c o ha=>⟨?_,fun hl=> ?_⟩⟩
     ·show RV w A' (ak s.env k (AV.ref (cs.map AV.erase0)) d) (a.tmps.getD d undef)∧bV sp (ak s.env k (AV.ref (cs.map AV.erase0)) d) (a.tmps.getD d undef)
      by_cases hd:d=k
      ·subst hd
       rw[show ak s.env d (AV.ref (cs.map AV.erase0)) d=AV.ref (cs.map AV.erase0) from cI _ _ _]
       have g:=(h.rs.env d).1
       rw[e1] at g
       generalize a.tmps.getD d undef=v0 at g
       cases g with
       |aj _ _=>
        refine⟨.ref _ b 0 (fun i=>vs.getD i undef) (fun i hi=> ?_) (fun i=> ?_),trivial⟩
        ·rw[List.length_map] at hi
         refine⟨?_,.inr ⟨rfl,by omega⟩⟩
         rw[Nat.zero_add]
         simp[World.cell?,hh,Array.getD_eq_getD_getElem?,Array.getElem?_eq_getElem (show i<vs.size by omega)]
        ·rw[gj];exact(hmono (hr i).1).erase0
      ·rw[show ak s.env k (AV.ref (cs.map AV.erase0)) d=s.env d from Z5 _ _ hd]
       exact⟨hmono (h.rs.env d).1,(h.rs.env d).2⟩
     ·simp only[ak] at hc
      split at hc
      ·cases hc
      ·obtain⟨vs',T',g1,g2,g3⟩:=h.rs.loc c cs' hc
       exact⟨vs',T',g1,g2,fun i=>⟨hmono (g3 i).1,(g3 i).2⟩⟩
     ·simp only[ak];rw[if_neg (nP r hr')];exact(h.rs.bW r hr').2
     ·rcases ha with ha|⟨rfl,_⟩
      ·exact(h.rs.av c o ha).1
      ·exact cc hh
     ·rcases ha with ha|⟨rfl,ho⟩
      ·exact(h.rs.av c o ha).2 (eA c o hl)
      ·rcases hl with hl|⟨r,q1,q2,q3⟩
       ·simp[ak] at hl
       ·exact nP r (by omega) q1
    have aJ:Ev w A (live s.loc sp) w A' (live (ak s.loc b none) sp):=by
     refine⟨rfl,rfl,rfl,Nat.le_refl _,fun c o _ hl=>⟨rfl,fun hh=>hl (eA c o hh)⟩,fun _ _ _=>rfl,fun _ _ ha=>.inl ha,fun c o ha=> ?_⟩
     rcases ha with ha|⟨rfl,_⟩
     ·exact .inl ha
     ·exact .inr (.inl (.inl (by rw[hb];exact fun e=>by cases e)))
    obtain⟨g1,g2⟩:=h.own (a':=a) bS aJ (fun q hq=>Z5 _ _ (by omega)) rfl
    exact⟨_,A',sp,hK,g1,g2⟩
  ·exact hv.elim
 ·rename_i e1
  obtain⟨sz,hK⟩:=hv
  have bS:RS C.N ⟨ak s.env k (.slice sz [] 0),s.loc⟩ ⟨a.tmps,[]⟩ w A sp:=by
   refine⟨h.rs.size,rfl,fun d=> ?_,h.rs.loc,h.rs.bW,h.rs.spd,h.rs.av⟩
   show RV w A (ak s.env k (AV.slice sz [] 0) d) (a.tmps.getD d undef)∧bV sp (ak s.env k (AV.slice sz [] 0) d) (a.tmps.getD d undef)
   by_cases hd:d=k
   ·subst hd
    rw[show ak s.env d (AV.slice sz [] 0) d=AV.slice sz [] 0 from cI _ _ _]
    have g:=(h.rs.env d).1
    rw[e1] at g
    generalize a.tmps.getD d undef=v0 at g
    cases g
    exact⟨.cH _ _,trivial⟩
   ·rw[show ak s.env k (AV.slice sz [] 0) d=s.env d from Z5 _ _ hd]
    exact h.rs.env d
  obtain⟨g1,g2⟩:=h.own (a':=a) bS (.same fun _ _ h=>h) (fun q hq=>Z5 _ _ (by omega)) rfl
  exact⟨_,A,sp,hK,g1,g2⟩
 ·rename_i b2 e1
  obtain⟨es,cm,hK⟩:=hv
  obtain⟨es',clock,aaf,oO,oV,-,-⟩:=h.mD cm
  have gq:cv s b2 0:=by simp only[cv,cm];intro e;cases e
  have cq:=cc aaf
  have OV:k≠oS+b2:=by have:=abd b2;omega
  let A':aK:=fun c o=>A c o∨c=b2
  have hmono:∀{x:AV} {v:Value},RV w A x v→RV w A' x v:=fun hx=>hx.mono (fun c o v ha hv=>⟨hv,.inl ha⟩) (.same fun _ _ ha=>.inl ha)
  have eC:∀d,d≠oS+b2→d≠k→ak (ak s.env (oS+b2) .any) k (.fmap es) d=s.env d:=fun d hd er=>by rw[Z5 _ _ er,Z5 _ _ hd]
  have vj:ak (ak s.env (oS+b2) .any) k (.fmap es) (oS+b2)=.any:=by rw[Z5 _ _ (Ne.symm OV),cI]
  have acP:∀c o,held ⟨ak (ak s.env (oS+b2) .any) k (.fmap es),s.loc⟩ sp c o→held s sp c o:=by
   rintro c o ((hl|hl)|hl)
   ·exact .inl (.inl hl)
   ·exact .inl (.inr hl)
   ·by_cases e1:c=b2
    ·subst e1;exact .inr gq
    ·simp only[cv] at hl
     rw[eC _ (by omega) (by have:=abd c;omega)] at hl
     exact .inr hl
  have bS:RS C.N ⟨ak (ak s.env (oS+b2) .any) k (.fmap es),s.loc⟩ ⟨a.tmps,[]⟩ w A' sp:=by
   refine⟨h.rs.size,rfl,fun d=> ?_,fun c cs' hc=> ?_,h.rs.bW,h.rs.spd,fun c o ha=>⟨?_,fun hl=> ?_⟩⟩
   ·show RV w A' (ak (ak s.env (oS+b2) .any) k (.fmap es) d) (a.tmps.getD d undef)∧bV sp (ak (ak s.env (oS+b2) .any) k (.fmap es) d) (a.tmps.getD d undef)
    by_cases hd:d=k
    ·subst hd
     rw[cI]
     have g:=(h.rs.env d).1
     rw[e1] at g
     generalize a.tmps.getD d undef=v0 at g
     cases g with
     |aZ _=>exact⟨.fmap es b2 es' clock aaf (fun o=>.inr rfl) oO (fun i e he=>hmono (oV i e he).1) (fun i e he=>hmono (oV i e he).2),trivial⟩
    ·by_cases er:d=oS+b2
     ·subst er
      rw[vj]
      exact⟨.any _,trivial⟩
     ·rw[eC d er hd]
      exact⟨hmono (h.rs.env d).1,(h.rs.env d).2⟩
   ·obtain⟨vs',T',g1,g2,g3⟩:=h.rs.loc c cs' hc
    exact⟨vs',T',g1,g2,fun i=>⟨hmono (g3 i).1,(g3 i).2⟩⟩
   ·rcases ha with ha|rfl
    ·exact(h.rs.av c o ha).1
    ·exact cq
   ·rcases ha with ha|rfl
    ·exact(h.rs.av c o ha).2 hl
    ·exact h.rs.nL aaf rfl o hl
  have aJ:Ev w A (held s sp) w A' (held ⟨ak (ak s.env (oS+b2) .any) k (.fmap es),s.loc⟩ sp):=by
   refine⟨rfl,rfl,rfl,Nat.le_refl _,fun c o _ hl=>⟨rfl,fun hh=>hl (acP c o hh)⟩,fun _ _ _=>rfl,fun _ _ ha=>.inl ha,fun c o ha=> ?_⟩
   rcases ha with ha|rfl
   ·exact .inl ha
   ·exact .inr (.inl (.inr gq))
  have y_:∀q,gS≤q→fR ((ak (ak s.env (oS+b2) .any) k (.fmap es)) q)=true:=fun q hq=>by
   by_cases hd:q=oS+b2
   ·subst hd
    rw[vj];rfl
   ·rw[eC q hd (by omega)]
    exact h.ig q hq
  have eT:∀c,gm w A' c ((ak (ak s.env (oS+b2) .any) k (.fmap es)) (oS+c)):=fun c=>by
   by_cases e1:c=b2
   ·subst e1
    rw[vj]
    exact .any
   ·rw[eC _ (by omega) (by have:=abd c;omega)]
    exact(h.ob c).mono (fun _=>rfl) (fun c o v ha hv=>⟨hv,.inl ha⟩) (.same fun _ _ ha=>.inl ha)
  have sC:∀c o,cv ⟨ak (ak s.env (oS+b2) .any) k (.fmap es),s.loc⟩ c o→¬A' c o:=fun c o hc ha=>by
   have e1:c≠b2:=by
    rintro rfl
    exact hc vj
   simp only[cv] at hc
   rw[eC _ (by omega) (by have:=abd c;omega)] at hc
   rcases ha with ha|rfl
   ·exact h.oa c o hc ha
   ·exact e1 rfl
  obtain⟨g1,g2⟩:=h.step (a':=a) bS aJ y_ (by show ak (ak s.env (oS+b2) .any) k (.fmap es) gS=_;rw[eC _ (Nat.ne_of_lt (abd b2)) (by omega)]) eT sC rfl
  exact⟨_,A',sp,hK,g1,g2⟩
 ·exact hv.elim
theorem acQ:∀(ks:List Nat) {s:St} {A:aK} {sp:Sp},(∀k∈ks,k<gS)→GS C Pt s a w A Lx sp→vcs P (ks.map .bD) K s→∃s' A' sp',K s'∧GS C Pt s' a w A' Lx sp'∧Ev w A (join (held s sp) Lx) w A' (join (held s' sp') Lx)
 |[],s,A,sp,_,h,hv=>⟨s,A,sp,hv,h,.refl _ _ _⟩
 |k::ks,s,A,sp,hk,h,hv=>by
  obtain⟨s1,A1,dQ,g1,g2,g3⟩:=OS (hk k (List.mem_cons_self ..)) h hv
  obtain⟨s2,A2,sp2,g4,g5,g6⟩:=acQ ks (fun q hq=>hk q (List.mem_cons_of_mem _ hq)) g2 g1
  exact⟨s2,A2,sp2,g4,g5,g3.trans g6⟩
theorem vk(ys:List au)(K:St→Prop):∀(xs:List au),vcs P (xs++ys) K=vcs P xs (vcs P ys K)
 |[]=>rfl
 |x::xs=>by
  funext s
  show Z2 P x s (vcs P (xs++ys) K)=Z2 P x s (vcs P xs (vcs P ys K))
  rw[vk ys K xs]
end
def oW(aD:cn)(N id:Nat):List Nat:=(look aD.fz id []).filter (· <N)
theorem Eo{aD:cn}{N id:Nat}(h:N≤gS):∀k∈oW aD N id,k<gS:=fun k hk=>by
 have:=(List.mem_filter.1 hk).2
 exact Nat.lt_of_lt_of_le (by simpa using this) h
end Go.Z4
namespace Go.Z4
open Go.RowKit
def aa4(P:Program)(f:FuncId)(first cap:List AV)(xs:List (List AV)):Prop:=
 aaP P f=true∧∀(X:AV→World→aK→aK→Prop) (l:Nat) (w:World) (A Lx:aK) (vs:Array Value),xw X→uu P X→uv P X→
  (∀b o,Lx b o→b<w.heap.size)→(∀b o,A b o→b<w.heap.size∧¬Lx b o)→
  vs.size=(first++[AV.func (.yield l) [] []]++cap).length→(∀i,RV w A ((first++[AV.func (.yield l) [] []]++cap).getD i .any) (vs.getD i undef))→
  X (.ghost l xs false) w A Lx→
  Calls P f vs w fun e w'=>∃v A' bp rest b,e=.returned v∧Ev w A Lx w' A' bp∧(∀b o,bp b o→b<w'.heap.size)∧(∀b o,A' b o→b<w'.heap.size∧¬bp b o)∧X (.ghost l rest b) w' A' bp∧(b=true∨rest=[])
section
variable {P:Program} {C:Ctx P} {Pt:List (Nat×Obj)} {s:St} {a:Act} {w:World} {A Lx:aK} {sp:Sp}
def full(s:St)(sp:Sp)(Lx:aK)(Pt:List (Nat×Obj)):aK:=join (join (held s sp) Lx) fun b _=>∃p∈Pt,b=p.1
theorem GS.kB(h:GS C Pt s a w A Lx sp){b o:Nat}(hl:full s sp Lx Pt b o):b<w.heap.size:=by
 rcases hl with (hl|hl)|⟨p,hp,rfl⟩
 ·exact h.mA hl
 ·exact h.lt b o hl
 ·exact cc (h.pt p hp).1
theorem GS.aaG(h:GS C Pt s a w A Lx sp){b o:Nat}(ha:A b o):b<w.heap.size∧¬full s sp Lx Pt b o:=by
 refine⟨(h.rs.av b o ha).1,?_⟩
 rintro((hl|hl)|⟨p,hp,rfl⟩)
 ·exact h.mB ha hl
 ·exact h.av b o ha hl
 ·exact(h.pt p hp).2.2.2.1 o ha
theorem GS.putObj(h:GS C Pt s a w A Lx sp){l:Nat}{ob oR:Obj}(hl:(l,ob)∈Pt){Pt':List (Nat×Obj)}(hP:∀p∈Pt',(p=(l,oR)∧oR.isCells=false)∨(p∈Pt∧p.1≠l))(hd:∀d∈a.defers,∃D,C.B≤D∧d=⟨.collected D,#[]⟩∧(D,.deferred (some []))∈Pt')(hr:∀l,C.ro=some l→∃r,(l,.loop r)∈Pt'):GS C Pt' s a (w.putObj l oR) A Lx sp:=by
 obtain⟨h1,h2,h3,h4,h5⟩:=h.pt _ hl
 have hk:∀L:aK,(∀b o,L b o→held s sp b o∨Lx b o)→j7 w (w.putObj l oR) A A L:=fun L hL=>j7.putObj h1 h2 (fun o ho=>by rcases hL l o ho with e|e;exact h.abU hl o e;exact h3 o e) (fun b o ha=>⟨(h.rs.av b o ha).1,fun hb=>by rcases hL b o hb with e|e;exact h.mB ha e;exact h.av b o ha e⟩) h4
 refine⟨h.rs.keep (hk (live s.loc sp) fun _ _ h=>.inl (.inl h)) fun _ _ h=>h,h.ig,fun b o hb=>by simpa using h.lt b o hb,h.ap,h.av,C.st _ _ _ _ _ _ h.x (hk Lx fun _ _ h=>.inr h),fun p hp=> ?_,fun b=> ?_,h.oa,by simpa using h.bs,h.dn,hd,hr⟩
 ·rcases hP p hp with ⟨rfl,hc⟩|⟨hp,hne⟩
  ·exact⟨World.putObj_heap_same (cc h1),hc,h3,h4,h5⟩
  ·obtain⟨g1,g2⟩:=h.pt p hp
   exact⟨(World.putObj_heap_other hne).trans g1,g2⟩
 ·have hk2:=hk (held s sp) fun _ _ h=>.inl h
  exact(h.ob b).mono (fun hx=>hk2.lW b 0 (.inr hx)) (fun b o v ha hv=>⟨hk2.cell b o v ha hv,ha⟩) hk2.obj
theorem GS.lay(h:GS C Pt s a w A Lx sp){ob:Obj}(hc:ob.isCells=false):GS C ((w.heap.size,ob)::Pt) s a (w.alloc ob) A Lx sp:=by
 have hk:∀L:aK,(∀b o,L b o→held s sp b o∨Lx b o)→j7 w (w.alloc ob) A A L:=fun L hL=>j7.alloc ob (fun b o ha=>⟨(h.rs.av b o ha).1,fun hb=>by rcases hL b o hb with e|e;exact h.mB ha e;exact h.av b o ha e⟩) (fun b o hb=>by rcases hL b o hb with e|e;exact h.mA e;exact h.lt b o e)
 refine⟨h.rs.keep (hk (live s.loc sp) fun _ _ h=>.inl (.inl h)) fun _ _ h=>h,h.ig,fun b o hb=>by rw[gJ];have:=h.lt b o hb;omega,h.ap,h.av,C.st _ _ _ _ _ _ h.x (hk Lx fun _ _ h=>.inr h),fun p hp=> ?_,fun b=> ?_,h.oa,by rw[gJ];have:=h.bs;omega,h.dn,fun d hd=> ?_,fun l hl=> ?_⟩
 ·rcases List.mem_cons.1 hp with rfl|hp
  ·refine⟨p7 _ _,hc,fun o hl=>absurd (h.lt _ _ hl) (Nat.lt_irrefl _),fun o ha=>absurd (h.rs.av _ _ ha).1 (Nat.lt_irrefl _),Classical.byContradiction fun hx=> ?_⟩
   exact absurd (h.mA (o:=0) (.inr hx)) (Nat.lt_irrefl _)
  ·obtain⟨g1,g2⟩:=h.pt p hp
   exact⟨(heap_alloc _ _ _ (cc g1)).trans g1,g2⟩
 ·have hk2:=hk (held s sp) fun _ _ h=>.inl h
  exact(h.ob b).mono (fun hx=>hk2.lW b 0 (.inr hx)) (fun b o v ha hv=>⟨hk2.cell b o v ha hv,ha⟩) hk2.obj
 ·obtain⟨D,d1,d2,d3⟩:=h.df d hd
  exact⟨D,d1,d2,List.mem_cons_of_mem _ d3⟩
 ·obtain⟨r,hr⟩:=h.ro l hl
  exact⟨r,List.mem_cons_of_mem _ hr⟩
theorem GS.rL(_:GS C Pt s a w A Lx sp)(ob:Obj)(L:aK)(_:∀b o,L b o→b<w.heap.size)(T:aK)(hT:∀b o,T b o→L b o∨b=w.heap.size):Ev w A L (w.alloc ob) A T:=⟨rfl,rfl,rfl,by rw[gJ];omega,fun b o hb hl=>⟨abu _ _ _ _ hb,fun ht=>by rcases hT b o ht with e|e;exact hl e;omega⟩,fun b hb _=>heap_alloc _ _ _ hb,fun _ _ ha=>ha,fun _ _ ha=>.inl ha⟩
def params(s:St):List Nat→List AV→St
 |p::ps,x::xs=>params (s.set p x.erase) ps xs
 |_,_=>s
theorem Ep:∀(ps:List Nat) (xs:List AV) (s:St),(params s ps xs).loc=s.loc
 |[],_,_=>rfl
 |_::_,[],_=>rfl
 |p::ps,x::xs,s=>Ep ps xs (s.set p x.erase)
theorem vl(k:Nat)(hk:gS≤k):∀(ps:List Nat) (xs:List AV) (s:St),(∀p∈ps,p<gS)→(params s ps xs).env k=s.env k
 |[],_,_,_=>rfl
 |_::_,[],_,_=>rfl
 |p::ps,x::xs,s,h=>(vl k hk ps xs (s.set p x.erase) (fun q hq=>h q (List.mem_cons_of_mem _ hq))).trans (Z5 _ _ (by have:=h p (List.mem_cons_self ..);omega))
theorem RS.params{N:Nat}:∀(ps:List Nat) (xs:List AV) (vs:List Value) (s:St) (t:Array Value),RS N s ⟨t,[]⟩ w A sp→(∀p∈ps,p<N)→ps.length=xs.length→vs.length=xs.length→(∀i,RV w A (xs.getD i .any) (vs.getD i undef))→RS N (Z4.params s ps xs) ⟨(ps.zip vs).foldl (fun t (p,v)=>t.setIfInBounds p v) t,[]⟩ w A sp
 |[],_,_,_,_,h,_,_,_,_=>h
 |p::ps,x::xs,v::vs,s,t,h,hp,h1,h2,hr=>by
  refine RS.params ps xs vs (s.set p x.erase) (t.setIfInBounds p v) ?_ (fun q hq=>hp q (List.mem_cons_of_mem _ hq)) (by simpa using h1) (by simpa using h2) (fun i=>by simpa using hr (i+1))
  exact h.put (hp p (List.mem_cons_self ..)) (by simpa using(hr 0).erase) .erase
 |_::_,[],_,_,_,_,_,h1,_,_=>by simp at h1
 |_::_,_::_,[],_,_,_,_,_,h2,_=>by simp at h2
theorem vm(ps:List Nat)(xs:List AV)(s:St)(sp:Sp)(h:∀p∈ps,p<gS):held (params s ps xs) sp=held s sp:=by
 unfold held
 have:cv (params s ps xs)=cv s:=by funext b o;simp only[cv];rw[vl _ (by simp only[gS,oS];omega) ps xs s h]
 rw[this,Ep]
def back(s s2:St):St:=⟨fun k=>if gS≤k then s2.env k else (s.env k).erase,s2.loc⟩
theorem aa5(s s2:St){k:Nat}(hk:gS≤k):(back s s2).env k=s2.env k:=by simp[back,hk]
theorem jj(s s2:St)(b:Nat):(back s s2).env (oS+b)=s2.env (oS+b):=aa5 s s2 (by simp only[gS,oS];omega)
theorem jS(s s2:St)(sp:Sp):held (back s s2) sp=held s2 sp:=by
 unfold held
 have:cv (back s s2)=cv s2:=by funext b o;simp only[cv,jj]
 rw[this];rfl
theorem sK(s s2:St):cv (back s s2)=cv s2:=by funext b o;simp only[cv,jj]
theorem vn(s s2 s3:St):back s (back s2 s3)=back s s3:=by
 simp only[back,St.mk.injEq,and_true]
 funext k
 split<;>simp_all
theorem RS.back{N:Nat}{s0 s1 s2:St}{t1 t2:Array Value}{w1 w2:World}{A1 A2:aK}{dQ sp2:Sp}(h1:RS N s1 ⟨t1,[]⟩ w1 A1 dQ)(hs:s1=Z4.back s0 s1)(h2:RS N s2 ⟨t2,[]⟩ w2 A2 sp2)(hk:∀b o v,A1 b o→w1.cell? ⟨b,o,none⟩=some v→w2.cell? ⟨b,o,none⟩=some v∧A2 b o)(cm:gF w1 w2 A1 A2)(hg:∀k,gS≤k→fR (s2.env k)=true):RS N (Z4.back s0 s2) ⟨t1,[]⟩ w2 A2 sp2:=by
 refine⟨h1.size,rfl,fun d=> ?_,h2.loc,h2.bW,h2.spd,h2.av⟩
 have h3:=(h1.env d).1
 by_cases hd:gS≤d
 ·rw[aa5 _ _ hd]
  have hg:=hg d hd
  generalize s2.env d=x at hg
  cases x<;>first|(cases hg;done)|exact⟨.any _,trivial⟩|exact⟨.ghost _ _ _ _,trivial⟩
 ·rw[hs] at h3
  simp only[Z4.back,hd,if_false] at h3⊢
  exact⟨h3.mono hk cm,.erase⟩
theorem RS.forget{N:Nat}{t:Array Value}(h:RS N s ⟨t,[]⟩ w A sp):RS N (Z4.back s s) ⟨t,[]⟩ w A sp:=by
 refine⟨h.size,rfl,fun d=> ?_,h.loc,h.bW,h.spd,h.av⟩
 by_cases hd:gS≤d
 ·rw[aa5 _ _ hd];exact h.env d
 ·simp only[Z4.back,hd,if_false];exact⟨(h.env d).1.erase,.erase⟩
end
end Go.Z4
namespace Go.Z4
open Go.RowKit
def St.del(s:St)(b:Nat):St:=⟨s.env,ak s.loc b none⟩
theorem OW{p q:Nat}(h:mark p=mark q):p=q:=by
 simp only[mark,AV.lit.injEq,Value.agg.injEq,Array.mk.injEq,List.cons.injEq,Value.int.injEq] at h
 have:=h.1.2
 omega
section
variable {P:Program} {C:Ctx P} {Pt:List (Nat×Obj)} {s:St} {a:Act} {w:World} {A Lx:aK} {sp:Sp} {b:Nat} {cs:List AV}
theorem Er(s:St)(sp:Sp)(b:Nat)(cs:List AV):held (s.new b cs) sp=join (held s sp) (kY b):=by
 funext c o
 apply propext
 constructor
 ·rintro((hl|hl)|hl)
  ·by_cases e:c=b
   ·exact .inr e
   ·exact .inl (.inl (.inl (by simpa only[St.new,Z5 _ _ e] using hl)))
  ·exact .inl (.inl (.inr hl))
  ·exact .inl (.inr hl)
 ·rintro(((hl|hl)|hl)|hl)
  ·refine .inl (.inl ?_)
   by_cases e:c=b
   ·subst e;simp[St.new,ak]
   ·simpa only[St.new,Z5 _ _ e] using hl
  ·exact .inl (.inr hl)
  ·exact .inr hl
  ·have hl':c=b:=hl
   subst hl'
   exact .inl (.inl (by simp[St.new,ak]))
theorem Es(s:St)(sp:Sp)(b:Nat)(cs:List AV)(Lx:aK)(Pt:List (Nat×Obj)):full (s.new b cs) sp Lx Pt=join (full s sp Lx Pt) (kY b):=by
 unfold full
 rw[Er]
 funext c o
 apply propext
 constructor
 ·rintro(((h|h)|h)|h)
  ·exact .inl (.inl (.inl h))
  ·exact .inr h
  ·exact .inl (.inl (.inr h))
  ·exact .inl (.inr h)
 ·rintro(((h|h)|h)|h)
  ·exact .inl (.inl (.inl h))
  ·exact .inl (.inr h)
  ·exact .inr h
  ·exact .inl (.inl (.inr h))
theorem OX(sp:Sp)(Lx:aK)(Pt:List (Nat×Obj))(hb:s.loc b=some cs):full s sp Lx Pt=join (full (s.del b) sp Lx Pt) (kY b):=by
 have h1:=Es (s.del b) sp b cs Lx Pt
 have e:(s.del b).new b cs=s:=by
  cases s with
  |mk env loc=>
   simp only[St.del,St.new,St.mk.injEq,true_and]
   funext c
   simp only[ak]
   split
   ·rename_i e;subst e;exact hb.symm
   ·rfl
 rw[e] at h1
 exact h1
theorem GS.OY(h:GS C Pt s a w A Lx sp)(hcs:cs.map AV.erase0=cs)(sE:dA w A b cs)(hA:∀o,¬A b o)(hf:∀o,¬full s sp Lx Pt b o):GS C Pt (s.new b cs) a w A Lx sp:=by
 have bS:RS C.N (s.new b cs) ⟨a.tmps,[]⟩ w A sp:=by
  refine⟨h.rs.size,h.rs.defers,h.rs.env,fun c cs' hc=> ?_,fun r hr=>⟨(h.rs.bW r hr).1,?_⟩,h.rs.spd,fun c o ha=>⟨(h.rs.av c o ha).1,?_⟩⟩
  ·by_cases e:c=b
   ·subst e
    simp only[St.new,cI] at hc
    injection hc with hc;subst hc
    obtain⟨vs,T,g1,g2,g3⟩:=sE
    exact⟨vs,T,g1,g2,fun i=>⟨g3 i,.D1 hcs i⟩⟩
   ·simp only[St.new,Z5 _ _ e] at hc
    exact h.rs.loc c cs' hc
  ·have hne:(sp r).1≠b:=fun e=>hf (sp r).2.1 (.inl (.inl (.inl (.inr ⟨r,e,Nat.le_refl _,hr⟩))))
   simp only[St.new,Z5 _ _ hne]
   exact(h.rs.bW r hr).2
  ·rintro(hl|hl)
   ·by_cases e:c=b
    ·subst e;exact hA o ha
    ·simp only[St.new,Z5 _ _ e] at hl
     exact(h.rs.av c o ha).2 (.inl hl)
   ·exact(h.rs.av c o ha).2 (.inr hl)
 refine⟨bS,h.ig,h.lt,fun c o o' hl hx=> ?_,h.av,h.x,h.pt,h.ob,h.oa,h.bs,h.dn,h.df,h.ro⟩
 rw[Er] at hl
 rcases hl with hl|hl
 ·exact h.ap c o o' hl hx
 ·have hl':c=b:=hl
  subst hl'
  exact hf o' (.inl (.inr hx))
theorem GS.OZ(h:GS C Pt s a w A Lx sp)(b:Nat):GS C Pt (s.del b) a w A Lx sp:=by
 have eA:∀c o,live (s.del b).loc sp c o→live s.loc sp c o:=by
  rintro c o (hl|hl)
  ·refine .inl fun e=>hl ?_
   simp only[St.del,ak]
   split
   ·rfl
   ·exact e
  ·exact .inr hl
 have bS:RS C.N (s.del b) ⟨a.tmps,[]⟩ w A sp:=by
  refine⟨h.rs.size,h.rs.defers,h.rs.env,fun c cs' hc=> ?_,fun r hr=>⟨(h.rs.bW r hr).1,?_⟩,h.rs.spd,fun c o ha=>⟨(h.rs.av c o ha).1,fun hl=>(h.rs.av c o ha).2 (eA c o hl)⟩⟩
  ·simp only[St.del,ak] at hc
   split at hc
   ·cases hc
   ·exact h.rs.loc c cs' hc
  ·simp only[St.del,ak]
   split
   ·rfl
   ·exact(h.rs.bW r hr).2
 exact⟨bS,h.ig,h.lt,fun c o o' hl hx=>h.ap c o o' (hl.elim (fun hl=>.inl (eA c o hl)) .inr) hx,h.av,h.x,h.pt,h.ob,h.oa,h.bs,h.dn,h.df,h.ro⟩
theorem GS.O0(h:GS C Pt s a w A Lx sp)(hb:s.loc b=some cs):dA w A b cs∧(∀o,¬A b o)∧∀o,¬full (s.del b) sp Lx Pt b o:=by
 have eA:∀o,live s.loc sp b o:=fun o=>.inl (by rw[hb];exact fun e=>by cases e)
 obtain⟨vs,T,g1,g2,g3⟩:=h.rs.loc b cs hb
 refine⟨⟨vs,T,g1,g2,fun i=>(g3 i).1⟩,fun o ha=>(h.rs.av b o ha).2 (eA o),?_⟩
 rintro o (((hl|hl)|hl)|⟨p,hp,e⟩)
 ·rcases hl with hl|⟨r,h1,h2,h3⟩
  ·exact hl (by simp[St.del,ak])
  ·have:=(h.rs.bW r (by omega)).2
   rw[h1,hb] at this;cases this
 ·obtain⟨ob,q1,q2⟩:=h.acr (b:=b) (o:=o) hl
  exact h.rs.nL q1 q2 0 (eA 0)
 ·exact h.ap b o o (.inl (eA o)) hl
 ·exact h.abU hp 0 (e▸.inl (eA 0))
end
end Go.Z4
