/- Running resolved code: renamings of blocks. Running resolved code: states, and values. Running resolved code: operations. Running resolved code: operations that hand back a value. Running resolved code: operations that hand back a value are run soundly. Running resolved code: the state's own steps. Running resolved code: all operations. Running resolved code: all operations are run soundly. Running resolved code: all operations are run soundly, joined. Running resolved code: control. Running resolved code: functions and iterators by their numbers. Running resolved code: calls that are known already. Calls of closed arguments, each checked by one run of the kernel. -/
import Derived.Test.YtnncgmimhdplfaaGreatZC
namespace Go.aq
def afJ(ρ:Nat→Nat):Fn→Fn
 |.yield l=>.yield (ρ l)
 |f=>f
def rQ(n:Nat):Fn→Bool
 |.yield l=>Nat.blt l n
 |_=>true
theorem VO{n:Nat}{ρ ρ':Nat→Nat}(h:∀b,b<n→ρ' b=ρ b)(f:Fn)(hb:rQ n f=true):afJ ρ' f=afJ ρ f:=by cases f<;>first|rfl|(simp only[afJ];rw[h _ (Nat.lt_of_succ_le (by simpa[rQ,Nat.blt] using hb))])
mutual
def ak(ρ:Nat→Nat):AV→AV
 |.any=>.any
 |.lit v=>.lit v
 |.slice sz xs r=>.slice sz (eJ ρ xs) r
 |.ref cs=>.ref (eJ ρ cs)
 |.au b o=>.au (ρ b) o
 |.aV b o l c sz=>.aV (ρ b) o l c sz
 |.agg cs=>.agg (eJ ρ cs)
 |.tuple vs=>.tuple (eJ ρ vs)
 |.func fn a b=>.func (afJ ρ fn) (eJ ρ a) (eJ ρ b)
 |.ghost l r b=>.ghost (ρ l) r b
 |.bQ b=>.bQ (ρ b)
def eJ(ρ:Nat→Nat):List AV→List AV
 |[]=>[]
 |x::xs=>ak ρ x::eJ ρ xs
end
mutual
def below(n:Nat):AV→Bool
 |.any=>true
 |.lit _=>true
 |.slice _ xs _=>bq n xs
 |.ref cs=>bq n cs
 |.au b _=>Nat.blt b n
 |.aV b _ _ _ _=>Nat.blt b n
 |.agg cs=>bq n cs
 |.tuple vs=>bq n vs
 |.func f a b=>rQ n f&&bq n a&&bq n b
 |.ghost l _ _=>Nat.blt l n
 |.bQ b=>Nat.blt b n
def bq(n:Nat):List AV→Bool
 |[]=>true
 |x::xs=>below n x&&bq n xs
end
theorem cH(ρ:Nat→Nat):∀xs:List AV,eJ ρ xs=xs.map (ak ρ)
 |[]=>rfl
 |x::xs=>by rw[eJ,cH ρ xs];rfl
mutual
theorem p9{n:Nat}{ρ ρ':Nat→Nat}(h:∀b,b<n→ρ' b=ρ b):∀x:AV,below n x=true→ak ρ' x=ak ρ x
 |.any,_=>rfl
 |.lit _,_=>rfl
 |.slice sz xs r,hb=>by simp only[ak];rw[p_ h xs hb]
 |.ref cs,hb=>by simp only[ak];rw[p_ h cs hb]
 |.au b o,hb=>by simp only[ak];rw[h b (Nat.lt_of_succ_le (by simpa[below,Nat.blt] using hb))]
 |.aV b _ _ _ _,hb=>by simp only[ak];rw[h b (Nat.lt_of_succ_le (by simpa[below,Nat.blt] using hb))]
 |.agg cs,hb=>by simp only[ak];rw[p_ h cs hb]
 |.tuple vs,hb=>by simp only[ak];rw[p_ h vs hb]
 |.func f a b,hb=>by
  simp only[below,Bool.and_eq_true] at hb
  simp only[ak];rw[VO h f hb.1.1,p_ h a hb.1.2,p_ h b hb.2]
 |.ghost b _ _,hb=>by simp only[ak];rw[h b (Nat.lt_of_succ_le (by simpa[below,Nat.blt] using hb))]
 |.bQ b,hb=>by simp only[ak];rw[h b (Nat.lt_of_succ_le (by simpa[below,Nat.blt] using hb))]
theorem p_{n:Nat}{ρ ρ':Nat→Nat}(h:∀b,b<n→ρ' b=ρ b):∀xs:List AV,bq n xs=true→eJ ρ' xs=eJ ρ xs
 |[],_=>rfl
 |x::xs,hb=>by
  simp only[bq,Bool.and_eq_true] at hb
  simp only[eJ];rw[p9 h x hb.1,p_ h xs hb.2]
end
section
variable (ρ:Nat→Nat)
theorem lA(x:AV):(ak ρ x).cells=x.cells.map (ak ρ):=by cases x<;>simp only[ak,AV.cells,cH,List.map_cons,List.map_nil]
theorem VP(x:AV):(ak ρ x).bK=x.bK:=by cases x<;>simp only[ak,AV.bK]
theorem Cy(x:AV):(ak ρ x).erase0=ak ρ x.erase0:=by cases x<;>simp only[ak,AV.erase0]
theorem g_(x:AV):(ak ρ x).erase=ak ρ x.erase:=by
 cases x<;>simp only[ak,AV.erase,cH,List.map_map]
 congr 1
 exact List.map_congr_left fun y _=>Cy ρ y
theorem uJ(r:Nat)(x:AV):aC r (ak ρ x)=ak ρ (aC r x):=by
 cases x<;>simp only[ak,aC]
 split<;>simp only[ak]
theorem uK(xs:List AV)(i:Nat):(xs.map (ak ρ)).getD i .any=ak ρ (xs.getD i .any):=by
 simp only[List.getD_eq_getElem?_getD,List.getElem?_map]
 cases xs[i]? <;>simp[ak]
theorem xV:∀(ys cs:List AV) (off:Nat),splice (cs.map (ak ρ)) off (ys.map (ak ρ))=(splice cs off ys).map (ak ρ)
 |[],_,_=>rfl
 |y::ys,cs,off=>by
  simp only[List.map_cons,splice]
  rw[←List.map_set,xV ys]
theorem oz(xs:List AV):(xs.map (ak ρ)).map AV.erase0=(xs.map AV.erase0).map (ak ρ):=by
 simp only[List.map_map]
 exact List.map_congr_left fun y _=>Cy ρ y
theorem xW(xs:List AV):(xs.map (ak ρ)).all AV.bK=xs.all AV.bK:=by
 induction xs with
 |nil=>rfl
 |cons x xs ih=>simp only[List.map_cons,List.all_cons,VP,ih]
theorem VQ(xs:List AV):(xs.map (ak ρ)).flatMap AV.cells=(xs.flatMap AV.cells).map (ak ρ):=by
 induction xs with
 |nil=>rfl
 |cons x xs ih=>simp only[List.map_cons,List.flatMap_cons,ih,lA,List.map_append]
theorem II(sz:Nat):∀(n:Nat) (cs:List AV),chunk sz (cs.map (ak ρ)) n=(chunk sz cs n).map (ak ρ)
 |0,_=>rfl
 |n+1,cs=>by
  simp only[chunk,List.map_cons]
  rw[←List.map_drop,II sz n]
  congr 1
  split
  ·rw[uK,Cy]
  ·simp only[ak,cH,←List.map_take,oz]
theorem IJ:∀(ks:List Bool) (xs ys:List AV),dh ks (xs.map (ak ρ)) (ys.map (ak ρ))=dh ks xs ys
 |[],[],[]=>rfl
 |[],[],_::_=>by simp[dh]
 |[],_::_,_=>by simp[dh]
 |k::ks,[],_=>by cases k<;>simp[dh]
 |k::ks,x::xs,[]=>by cases k<;>simp[dh]
 |k::ks,x::xs,y::ys=>by
  have ih:=IJ ks xs ys
  simp only[List.map_cons]
  cases k<;>cases x<;>simp only[ak,dh]
  all_goals
   rename_i v
   cases v<;>(try simp only[dh])
   all_goals
    cases y<;>(try simp only[ak,dh])
    all_goals
     rename_i u
     cases u<;>(try simp only[dh,ih])
end
end Go.aq
namespace Go.aq
inductive T (α:Type) where
 |nil
 |node (v:Option α) (l r:T α)
def T.get{α:Type}:T α→Nat→Option α
 |.nil,_=>none
 |.node v _ _,0=>v
 |.node _ l r,n+1=>bif Nat.beq (n%2) 0 then l.get (n / 2) else r.get (n / 2)
def T.set{α:Type}:Nat→T α→Nat→Option α→T α
 |0,t,_,_=>t
 |_+1,.nil,0,x=>.node x .nil .nil
 |_+1,.node _ l r,0,x=>.node x l r
 |f+1,.nil,n+1,x=>bif Nat.beq (n%2) 0 then .node none (T.set f .nil (n / 2) x) .nil else .node none .nil (T.set f .nil (n / 2) x)
 |f+1,.node v l r,n+1,x=>bif Nat.beq (n%2) 0 then .node v (T.set f l (n / 2) x) r else .node v l (T.set f r (n / 2) x)
def T.map{α:Type}(g:α→α):T α→T α
 |.nil=>.nil
 |.node v l r=>.node (v.map g) (l.map g) (r.map g)
theorem T.get_nil{α:Type}(n:Nat):(T.nil:T α).get n=none:=by cases n<;>rfl
theorem T.get_map{α:Type}(g:α→α):∀(t:T α) (n:Nat),(t.map g).get n=(t.get n).map g
 |.nil,n=>by rw[T.map,T.get_nil];rfl
 |.node v l r,0=>rfl
 |.node v l r,n+1=>by
  simp only[T.map,T.get,T.get_map g l,T.get_map g r]
  cases Nat.beq (n%2) 0<;>rfl
theorem xX{n k:Nat}(h1:Nat.beq (n%2) 0=Nat.beq (k%2) 0)(h2:n / 2=k / 2):n=k:=by rcases Nat.mod_two_eq_zero_or_one n with h|h<;>rcases Nat.mod_two_eq_zero_or_one k with h'|h'<;>rw[h,h'] at h1<;>first|omega|simp[Nat.beq] at h1
theorem T.iJ{α:Type}:∀(f:Nat) (t:T α) (n:Nat) (x:Option α) (k:Nat),n+1<2^f→(T.set f t n x).get k=if k=n then x else t.get k
 |0,_,n,_,_,h=>by simp at h
 |f+1,.nil,0,x,k,_=>by cases k with
  |zero=>rfl
  |succ k=>
   rw[if_neg (by omega)]
   simp only[T.set,T.get]
   cases Nat.beq (k%2) 0<;>rfl
 |f+1,.node v l r,0,x,k,_=>by cases k with
  |zero=>rfl
  |succ k=>rw[if_neg (by omega)];rfl
 |f+1,.nil,n+1,x,k,h=>by
  have h2:n / 2+1<2^f:=by rw[Nat.pow_succ] at h;omega
  have ih:=T.iJ f .nil (n / 2) x
  cases k with
  |zero=>
   rw[if_neg (by omega)]
   simp only[T.set]
   cases Nat.beq (n%2) 0<;>rfl
  |succ k=>
   simp only[T.set,T.get_nil]
   cases hn:Nat.beq (n%2) 0<;>cases hk:Nat.beq (k%2) 0<;>simp only[cond_true,cond_false,T.get,hk,ih _ h2]
   ·by_cases e:k=n
    ·subst e;simp
    ·rw[if_neg (fun e2=>e (xX (hk.trans hn.symm) e2)),if_neg (by omega)]
   ·rw[if_neg (by intro e;have:k=n:=by omega
                  subst this;rw[hn] at hk;cases hk)]
   ·rw[if_neg (by intro e;have:k=n:=by omega
                  subst this;rw[hn] at hk;cases hk)]
   ·by_cases e:k=n
    ·subst e;simp
    ·rw[if_neg (fun e2=>e (xX (hk.trans hn.symm) e2)),if_neg (by omega)]
 |f+1,.node v l r,n+1,x,k,h=>by
  have h2:n / 2+1<2^f:=by rw[Nat.pow_succ] at h;omega
  have ihl:=T.iJ f l (n / 2) x
  have ihr:=T.iJ f r (n / 2) x
  cases k with
  |zero=>
   rw[if_neg (by omega)]
   simp only[T.set]
   cases Nat.beq (n%2) 0<;>rfl
  |succ k=>
   simp only[T.set]
   cases hn:Nat.beq (n%2) 0<;>cases hk:Nat.beq (k%2) 0<;>simp only[cond_true,cond_false,T.get,hk,ihl _ h2,ihr _ h2]
   ·by_cases e:k=n
    ·subst e;simp
    ·rw[if_neg (fun e2=>e (xX (hk.trans hn.symm) e2)),if_neg (by omega)]
   ·rw[if_neg (by intro e;have:k=n:=by omega
                  subst this;rw[hn] at hk;cases hk)]
   ·rw[if_neg (by intro e;have:k=n:=by omega
                  subst this;rw[hn] at hk;cases hk)]
   ·by_cases e:k=n
    ·subst e;simp
    ·rw[if_neg (fun e2=>e (xX (hk.trans hn.symm) e2)),if_neg (by omega)]
structure ES where
 env:T AV
 loc:T (List AV)
 obj:T AV
 gh:AV
 nx:Nat
def ES.at(e:ES)(k:Nat):AV:=(e.env.get k).getD .any
structure Rel (ρ:Nat→Nat) (e:ES) (s:St):Prop where
 env:∀k,k<gS→s.env k=ak ρ (e.at k)
 jE:∀k,below e.nx (e.at k)=true
 gh:s.env gS=ak ρ e.gh
 gb:below e.nx e.gh=true
 loc:∀b cs,e.loc.get b=some cs→b<e.nx∧s.loc (ρ b)=some (cs.map (ak ρ))∧bq e.nx cs=true
 lB:∀b b',e.loc.get b≠none→e.loc.get b'≠none→ρ b=ρ b'→b=b'
 obj:∀b x,e.obj.get b=some x→b<e.nx∧s.env (oS+ρ b)=x∧x≠.any
 mj:∀b b',e.obj.get b≠none→e.obj.get b'≠none→ρ b=ρ b'→b=b'
 og:∀b x,e.obj.get b=some x→isG x=true
 gg:isG e.gh=true
mutual
theorem jF{n m:Nat}(h:n≤m):∀x:AV,below n x=true→below m x=true
 |.any,_=>rfl
 |.lit _,_=>rfl
 |.slice _ xs _,hb=>by simp only[below] at hb⊢;exact je h xs hb
 |.ref cs,hb=>by simp only[below] at hb⊢;exact je h cs hb
 |.au b o,hb=>by simp only[below,Nat.blt,Nat.ble_eq] at hb⊢;omega
 |.aV b _ _ _ _,hb=>by simp only[below,Nat.blt,Nat.ble_eq] at hb⊢;omega
 |.agg cs,hb=>by simp only[below] at hb⊢;exact je h cs hb
 |.tuple vs,hb=>by simp only[below] at hb⊢;exact je h vs hb
 |.func f a b,hb=>by
  simp only[below,Bool.and_eq_true] at hb⊢
  refine⟨⟨?_,je h a hb.1.2⟩,je h b hb.2⟩
  have hb:=hb.1.1
  cases f<;>simp only[rQ,Nat.blt,Nat.ble_eq] at hb⊢
  omega
 |.ghost _ _ _,hb=>by simp only[below,Nat.blt,Nat.ble_eq] at hb⊢;omega
 |.bQ b,hb=>by simp only[below,Nat.blt,Nat.ble_eq] at hb⊢;omega
theorem je{n m:Nat}(h:n≤m):∀xs:List AV,bq n xs=true→bq m xs=true
 |[],_=>rfl
 |x::xs,hb=>by
  simp only[bq,Bool.and_eq_true] at hb⊢
  exact⟨jF h x hb.1,je h xs hb.2⟩
end
theorem afa{ρ:Nat→Nat}{x:AV}(h:below 0 x=true):ak ρ x=x:=by
 have h1:ak ρ x=ak id x:=p9 (n:=0) (fun b hb=>by omega) x h
 rw[h1];exact VR x
where
 VR (x:AV):ak id x=x:=by exact(go x)
 go:∀x:AV,ak id x=x
  |.any=>rfl
  |.lit _=>rfl
  |.slice sz xs r=>by simp only[ak,qa xs]
  |.ref cs=>by simp only[ak,qa cs]
  |.au b o=>by simp only[ak,id]
  |.aV .. =>by simp only[ak,id]
  |.agg cs=>by simp only[ak,qa cs]
  |.tuple vs=>by simp only[ak,qa vs]
  |.func f a b=>by simp only[ak,qa a,qa b];cases f<;>simp only[afJ,id]
  |.ghost .. =>by simp only[ak,id]
  |.bQ _=>by simp only[ak,id]
 qa:∀xs:List AV,eJ id xs=xs
  |[]=>rfl
  |x::xs=>by simp only[eJ,go x,qa xs]
section
variable {n:Nat}
theorem aeQ{xs:List AV}:bq n xs=true↔∀x∈xs,below n x=true:=by
 induction xs with
 |nil=>simp[bq]
 |cons x xs ih=>simp[bq,ih]
theorem qb{x:AV}(h:below n x=true):bq n x.cells=true:=by cases x<;>simp only[AV.cells,bq,below,Bool.and_true,Bool.and_eq_true] at h⊢ <;>first|exact h|exact⟨h,rfl⟩|(try exact h)
theorem IK{x:AV}(h:below n x=true):below n x.erase0=true:=by cases x<;>exact h
theorem nh{xs:List AV}(h:bq n xs=true):bq n (xs.map AV.erase0)=true:=by
 rw[aeQ] at h⊢
 intro y hy
 obtain⟨z,hz,rfl⟩:=List.mem_map.1 hy
 exact IK (h z hz)
theorem afb{x:AV}(h:below n x=true):below n x.erase=true:=by cases x<;>first|exact h|(simp only[AV.erase,below] at h⊢;exact nh h)
theorem ahH{x:AV}(r:Nat)(h:below n x=true):below n (aC r x)=true:=by cases x<;>first|exact h|(simp only[aC];split<;>exact h)
theorem xY{xs:List AV}(r:Nat)(h:bq n xs=true):bq n (xs.map (aC r))=true:=by
 rw[aeQ] at h⊢
 intro y hy
 obtain⟨z,hz,rfl⟩:=List.mem_map.1 hy
 exact ahH r (h z hz)
theorem qc{xs:List AV}(i:Nat)(h:bq n xs=true):below n (xs.getD i .any)=true:=by
 rw[aeQ] at h
 rw[List.getD_eq_getElem?_getD]
 cases hx:xs[i]? with
 |none=>rfl
 |some x=>exact h x (List.mem_of_getElem? hx)
theorem xZ{xs:List AV}(i:Nat)(h:bq n xs=true):bq n (xs.take i)=true:=by rw[aeQ] at h⊢;exact fun x hx=>h x (List.mem_of_mem_take hx)
theorem uL{xs:List AV}(i:Nat)(h:bq n xs=true):bq n (xs.drop i)=true:=by rw[aeQ] at h⊢;exact fun x hx=>h x (List.mem_of_mem_drop hx)
theorem ag2{xs:List AV}{x:AV}(i:Nat)(h:bq n xs=true)(hx:below n x=true):bq n (xs.set i x)=true:=by
 rw[aeQ] at h⊢
 intro y hy
 rcases List.mem_or_eq_of_mem_set hy with h1|rfl
 ·exact h y h1
 ·exact hx
theorem uM{xs ys:List AV}(h:bq n xs=true)(h':bq n ys=true):bq n (xs++ys)=true:=by
 rw[aeQ] at h h'⊢
 intro y hy
 rcases List.mem_append.1 hy with h1|h1
 ·exact h y h1
 ·exact h' y h1
theorem ag3:∀(ys cs:List AV) (off:Nat),bq n cs=true→bq n ys=true→bq n (splice cs off ys)=true
 |[],_,_,h,_=>h
 |y::ys,cs,off,h,h'=>by
  simp only[bq,Bool.and_eq_true] at h'
  exact ag3 ys _ _ (ag2 off h h'.1) h'.2
theorem VS{xs:List AV}(h:bq n xs=true):bq n (xs.flatMap AV.cells)=true:=by
 rw[aeQ] at h⊢
 intro y hy
 obtain⟨z,hz,hy⟩:=List.mem_flatMap.1 hy
 exact aeQ.1 (qb (h z hz)) y hy
theorem IM(sz:Nat):∀(k:Nat) (cs:List AV),bq n cs=true→bq n (chunk sz cs k)=true
 |0,_,_=>rfl
 |k+1,cs,h=>by
  simp only[chunk,bq,Bool.and_eq_true]
  refine⟨?_,IM sz k _ (uL sz h)⟩
  split
  ·exact IK (qc 0 h)
  ·simp only[below];exact nh (xZ sz h)
theorem VT{x:AV}(k:Nat)(h:below n x=true):bq n (List.replicate k x)=true:=by rw[aeQ];intro y hy;rw[(List.mem_replicate.1 hy).2];exact h
end
end Go.aq
namespace Go.aq
section
variable {R:Type}
def fN(m:Nat)(k:Nat→R):R:=match m with
 |0=>k 0
 |m+1=>k (m+1)
def fI(n:Int)(k:Int→R):R:=match n with
 |.ofNat m=>fN m fun m=>k (.ofNat m)
 |.negSucc m=>fN m fun m=>k (.negSucc m)
def fB(b:Bool)(k:Bool→R):R:=match b with
 |true=>k true
 |false=>k false
def fV(v:Value)(k:Value→R):R:=match v with
 |.int kd n=>fI n fun n=>k (.int kd n)
 |.bool b=>fB b fun b=>k (.bool b)
 |v=>k v
def fA(x:AV)(k:AV→R):R:=match x with
 |.any=>k .any
 |.lit v=>fV v fun v=>k (.lit v)
 |.slice sz xs r=>k (.slice sz xs r)
 |.ref cs=>k (.ref cs)
 |.au b o=>fN o fun o=>k (.au b o)
 |.aV b o l c sz=>fN o fun o=>fN l fun l=>k (.aV b o l c sz)
 |.agg cs=>k (.agg cs)
 |.tuple vs=>k (.tuple vs)
 |.func fn a b=>k (.func fn a b)
 |.ghost l r s=>k (.ghost l r s)
 |.bQ b=>k (.bQ b)
def fL:List AV→(List AV→R)→R
 |[],k=>k []
 |x::xs,k=>fA x fun x=>fL xs fun xs=>k (x::xs)
theorem oA(m:Nat)(k:Nat→R):fN m k=k m:=by cases m<;>rfl
theorem VU(n:Int)(k:Int→R):fI n k=k n:=by cases n<;>simp only[fI,oA]
theorem VV(b:Bool)(k:Bool→R):fB b k=k b:=by cases b<;>rfl
theorem VW(v:Value)(k:Value→R):fV v k=k v:=by unfold fV;split<;>simp only[VU,VV]
theorem ag4(x:AV)(k:AV→R):fA x k=k x:=by cases x<;>simp only[fA,VW,oA]
theorem eT:∀(xs:List AV) (k:List AV→R),fL xs k=k xs
 |[],_=>rfl
 |x::xs,k=>by simp only[fL,ag4,eT xs]
def jG{α:Type}:Nat→T α→Nat→Option α→(T α→R)→R
 |0,t,_,_,k=>k t
 |_+1,.nil,0,x,k=>k (.node x .nil .nil)
 |_+1,.node _ l r,0,x,k=>k (.node x l r)
 |f+1,.nil,n+1,x,k=>bif Nat.beq (n%2) 0 then jG f .nil (n / 2) x (fun t=>k (.node none t .nil)) else jG f .nil (n / 2) x (fun t=>k (.node none .nil t))
 |f+1,.node v l r,n+1,x,k=>bif Nat.beq (n%2) 0 then jG f l (n / 2) x (fun t=>k (.node v t r)) else jG f r (n / 2) x (fun t=>k (.node v l t))
theorem oB{α:Type}:∀(f:Nat) (t:T α) (n:Nat) (x:Option α) (k:T α→R),jG f t n x k=k (T.set f t n x)
 |0,_,_,_,_=>rfl
 |_+1,.nil,0,_,_=>rfl
 |_+1,.node _ _ _,0,_,_=>rfl
 |f+1,.nil,n+1,x,k=>by simp only[jG,T.set,oB f];cases Nat.beq (n%2) 0<;>rfl
 |f+1,.node v l r,n+1,x,k=>by simp only[jG,T.set,oB f];cases Nat.beq (n%2) 0<;>rfl
def oC(r:Nat):T AV→(T AV→R)→R
 |.nil,k=>k .nil
 |.node none a b,k=>oC r a fun a=>oC r b fun b=>k (.node none a b)
 |.node (some x) a b,k=>fA (aC r x) fun x=>oC r a fun a=>oC r b fun b=>k (.node (some x) a b)
theorem uN(r:Nat):∀(t:T AV) (k:T AV→R),oC r t k=k (t.map (aC r))
 |.nil,_=>rfl
 |.node none a b,k=>by simp only[oC,uN r a,uN r b];rfl
 |.node (some x) a b,k=>by simp only[oC,ag4,uN r a,uN r b];rfl
def oD(r:Nat):T (List AV)→(T (List AV)→R)→R
 |.nil,k=>k .nil
 |.node none a b,k=>oD r a fun a=>oD r b fun b=>k (.node none a b)
 |.node (some x) a b,k=>fL (x.map (aC r)) fun x=>oD r a fun a=>oD r b fun b=>k (.node (some x) a b)
theorem uO(r:Nat):∀(t:T (List AV)) (k:T (List AV)→R),oD r t k=k (t.map (·.map (aC r)))
 |.nil,_=>rfl
 |.node none a b,k=>by simp only[oD,uO r a,uO r b];rfl
 |.node (some x) a b,k=>by simp only[oD,eT,uO r a,uO r b];rfl
end
def qd:IntKind→Int→Bool
 |.i8,n=>decide (-128≤n)&&decide (n≤127)
 |.i16,n=>decide (-32768≤n)&&decide (n≤32767)
 |.i32,n=>decide (-2147483648≤n)&&decide (n≤2147483647)
 |.i64,n=>decide (-9223372036854775808≤n)&&decide (n≤9223372036854775807)
 |.u8,n=>decide (0≤n)&&decide (n≤255)
 |.u16,n=>decide (0≤n)&&decide (n≤65535)
 |.u32,n=>decide (0≤n)&&decide (n≤4294967295)
 |.u64,n=>decide (0≤n)&&decide (n≤18446744073709551615)
theorem Cz{k:IntKind}{n:Int}(h:qd k n=true):gu k n:=by cases k<;>simpa[qd,gu] using h
def CA(a b:ByteArray):Bool:=a.data.toList==b.data.toList
def CB(op:BinOp)(k:IntKind)(a b:Int):Option AV:=
 match op with
 |.add=>bif qd k (a+b) then some (.lit (.int k (a+b))) else none
 |.sub=>bif qd k (a - b) then some (.lit (.int k (a - b))) else none
 |.mul=>bif qd k (a*b) then some (.lit (.int k (a*b))) else none
 |.quo=>bif b != 0&&qd k (a.tdiv b) then some (.lit (.int k (a.tdiv b))) else none
 |.rem=>bif b != 0 then some (.lit (.int k (a.tmod b))) else none
 |.and|.or|.xor|.andNot=>some (.lit (.int k (cP op k a b)))
 |.eql=>some (.lit (.bool (a==b)))
 |.neq=>some (.lit (.bool (a != b)))
 |.lss=>some (.lit (.bool (decide (a<b))))
 |.leq=>some (.lit (.bool (decide (a≤b))))
 |.gtr=>some (.lit (.bool (decide (a>b))))
 |.geq=>some (.lit (.bool (decide (a≥b))))
 |_=>none
theorem VX{op:BinOp}{k:IntKind}{a b:Int}{v:AV}(h:CB op k a b=some v){K:AV→Prop}(hk:K v):aeF op k a b K:=by
 cases op<;>simp only[CB,Bool.cond_eq_ite] at h<;>simp only[aeF]<;>first
  |(cases h;done)
  |(injection h with h;rw[h];exact hk)
  |(split at h
    ·rename_i hc;injection h with h;rw[h]
     first
      |exact⟨Cz hc,hk⟩
      |(simp only[Bool.and_eq_true,bne_iff_ne] at hc;exact⟨hc.1,Cz hc.2,hk⟩)
      |exact⟨by simpa using hc,hk⟩
    ·cases h)
def ag5(op:BinOp)(k:IntKind)(a b:Int):Option AV:=
 match op,b with
 |.shl,.ofNat m=>some (.lit (.int k (k.wrap (a*2^(min m k.bits)))))
 |.shr,.ofNat m=>some (.lit (.int k (a.fdiv (2^(min m k.bits)))))
 |_,_=>none
theorem IN{op:BinOp}{k:IntKind}{a b:Int}{v:AV}(h:ag5 op k a b=some v){K:AV→Prop}(hk:K v):pg op k a b K:=by
 unfold ag5 at h
 split at h
 ·injection h with h;subst h;exact⟨Int.natCast_nonneg _,hk⟩
 ·injection h with h;subst h;exact⟨Int.natCast_nonneg _,hk⟩
 ·cases h
def CC(op:BinOp)(a b:ByteArray):Option AV:=
 match op with
 |.eql=>some (.lit (.bool (CA a b)))
 |.neq=>some (.lit (.bool (!CA a b)))
 |_=>none
theorem qe(a:ByteArray):a.toList=a.data.toList:=by
 have key:∀(n i:Nat) (r:List UInt8),a.size - i=n→ByteArray.toList.loop a i r=r.reverse++a.data.toList.drop i:=by
  intro n
  induction n with
  |zero=>
   intro i r h
   unfold ByteArray.toList.loop
   rw[if_neg (by omega)]
   have:a.data.toList.length≤i:=by simp;have:a.size=a.data.size:=rfl;omega
   rw[List.drop_of_length_le this,List.append_nil]
  |succ n ih=>
   intro i r h
   unfold ByteArray.toList.loop
   have hlt:i<a.size:=by omega
   rw[if_pos hlt,ih (i+1) _ (by omega)]
   have hl:i<a.data.toList.length:=by simp;exact hlt
   rw[List.drop_eq_getElem_cons hl]
   simp[ByteArray.get!,getElem!_pos a.data i hlt]
 have:=key a.size 0 [] (by omega)
 simpa[ByteArray.toList] using this
theorem VY{op:BinOp}{a b:ByteArray}{v:AV}(h:CC op a b=some v){K:AV→Prop}(hk:K v):lZ op a b K:=by
 cases op<;>simp only[CC,CA] at h<;>first|(cases h;done)|skip
 all_goals (injection h with h;subst h;simp only[lZ,qe];exact hk)
def uP(op:BinOp)(x y:AV):Option AV:=
 match x,y with
 |.lit (.int k a),.lit (.int k' b)=>match op with
  |.shl=>ag5 .shl k a b
  |.shr=>ag5 .shr k a b
  |_=>if k=k' then CB op k a b else none
 |.lit (.string a),.lit (.string b)=>CC op a b
 |_,_=>none
theorem VZ{op:BinOp}{x y v:AV}(h:uP op x y=some v){K:AV→Prop}(hk:K v):cU op x y K:=by
 unfold uP at h
 split at h
 ·rename_i k a k' b
  simp only[cU]
  split at h
  ·exact IN h hk
  ·exact IN h hk
  ·split at h
   ·rename_i hkk
    split
    ·rename_i hne _;exact absurd rfl hne
    ·rename_i hne;exact absurd rfl hne
    ·exact⟨hkk,VX h hk⟩
   ·cases h
 ·exact VY h hk
 ·cases h
theorem V0{op:BinOp}{x y v:AV}(h:uP op x y=some v)(ρ:Nat→Nat):ak ρ x=x∧ak ρ y=y:=by
 unfold uP at h
 split at h
 ·exact⟨rfl,rfl⟩
 ·exact⟨rfl,rfl⟩
 ·cases h
end Go.aq
namespace Go.aq
section
variable {R:Type} (e:ES) (fail:R)
def bD(a:ai)(k:AV→R):R:=match a with
 |.t n=>bif Nat.blt n 1000000 then k (e.at n) else fail
 |.c x=>bif below 0 x then k x else fail
def eK(x:AV)(k:AV→R):R:=match x with
 |.slice sz xs _=>k (.slice sz xs 0)
 |.agg cs=>fL (cs.map AV.erase0) fun cs=>k (.agg cs)
 |x=>k x
theorem aeV(x:AV)(k:AV→R):eK x k=k x.erase:=by cases x<;>simp only[eK,eT,AV.erase]
def qf:List ai→(List AV→R)→R
 |[],k=>k []
 |a::as,k=>bD e fail a fun x=>eK x fun x=>qf as fun xs=>k (x::xs)
def oE(cs:List AV)(off:Nat)(n:Option Nat)(k:AV→R):R:=match n with
 |none=>bif Nat.blt off cs.length then k (cs.getD off .any) else fail
 |some n=>bif Nat.ble (off+n) cs.length then fL (((cs.drop off).take n).map AV.erase0) fun c=>k (.agg c) else fail
def oF(n:Int)(len:Nat):Bool:=match n with
 |.ofNat m=>Nat.blt m len
 |.negSucc _=>false
def uQ(n:Int)(len:Nat):Bool:=match n with
 |.ofNat m=>Nat.ble m len
 |.negSucc _=>false
theorem rR{n:Int}{len:Nat}(h:oF n len=true):0≤n∧n<len∧n.toNat<len:=by
 cases n with
 |ofNat m=>
  have h1:m<len:=Nat.lt_of_succ_le (by simpa[oF,Nat.blt] using h)
  simp only[Int.ofNat_eq_natCast,Int.toNat_natCast];omega
 |negSucc m=>cases h
theorem CD{n:Int}{len:Nat}(h:uQ n len=true):0≤n∧n≤len:=by
 cases n with
 |ofNat m=>
  have h1:m≤len:=by simpa[uQ] using h
  simp only[Int.ofNat_eq_natCast];omega
 |negSucc m=>cases h
def CE(cs:List AV):List (Nat×Nat×ai)→(List AV→R)→R
 |[],k=>k cs
 |(off,n,x)::ps,k=>bD e fail x fun x=>bif Nat.beq x.cells.length n&&Nat.ble (off+n) cs.length then fL (splice cs off (x.cells.map AV.erase0)) fun cs=>CE cs ps k else fail
def V1(d:Nat)(x:ai)(k:Nat→AV→R):R:=bD e fail x fun x=>k d x
def V2(d:Nat)(x:ai)(k:Nat→AV→R):R:=bD e fail x fun x=>eK x fun x=>k d x
def V3(d:Nat)(x:ai)(k:Nat→AV→R):R:=bD e fail x fun x=>match x with
 |.lit (.string u)=>k d (.lit (.string u))
 |_=>fail
def V4(d:Nat)(x:ai)(n:Nat)(k:Nat→AV→R):R:=bD e fail x fun x=>bif Nat.beq x.cells.length n then fL (x.cells.map AV.erase0) fun cs=>k d (.ref cs) else fail
def V5(d:Nat)(x:ai)(n:Option Nat)(k:Nat→AV→R):R:=bD e fail x fun x=>match x with
 |.ref cs=>oE fail cs 0 n fun v=>eK v fun v=>k d v
 |.au b off=>match e.loc.get b with
  |some cs=>oE fail cs off n fun v=>k d v
  |none=>fail
 |_=>fail
def V6(d:Nat)(x:ai)(n:Option Nat)(k:Nat→AV→R):R:=bD e fail x fun x=>match x with
 |.ref cs=>oE fail cs 0 n fun v=>eK v fun v=>k d v
 |_=>fail
def V7(d:Nat)(x:ai)(off:Nat)(k:Nat→AV→R):R:=bD e fail x fun x=>match x with
 |.ref cs=>fL (cs.drop off) fun cs=>k d (.ref cs)
 |.au b o=>k d (.au b (o+off))
 |_=>fail
def V8(d:Nat)(x:ai)(i:ai)(sz:Nat)(k:Nat→AV→R):R:=bD e fail x fun x=>bD e fail i fun i=>match x,i with
 |.slice sz' xs _,.lit (.int _ n)=>bif Nat.beq sz' sz&&oF n xs.length then fL (xs.getD n.toNat .any).cells fun cs=>k d (.ref cs) else fail
 |.aV b off len _ sz',.lit (.int _ n)=>bif Nat.beq sz' sz&&oF n len then k d (.au b (off+n.toNat*sz)) else fail
 |_,_=>fail
def V9(d:Nat)(x:ai)(i:ai)(len:Nat)(sz:Nat)(k:Nat→AV→R):R:=bD e fail x fun x=>bD e fail i fun i=>match x,i with
 |.ref cs,.lit (.int _ n)=>bif oF n len then fL (cs.drop (n.toNat*sz)) fun cs=>k d (.ref cs) else fail
 |.au b off,.lit (.int _ n)=>bif oF n len then k d (.au b (off+n.toNat*sz)) else fail
 |_,_=>fail
def V_(d:Nat)(x:ai)(off:Nat)(n:Option Nat)(k:Nat→AV→R):R:=bD e fail x fun x=>match x with
 |.agg cs=>oE fail cs off n fun v=>eK v fun v=>k d v
 |_=>fail
def Wa(d:Nat)(x:ai)(i:ai)(len:Nat)(sz:Nat)(n:Option Nat)(k:Nat→AV→R):R:=bD e fail x fun x=>bD e fail i fun i=>match x,i with
 |.agg cs,.lit (.int _ j)=>bif oF j len then oE fail cs (j.toNat*sz) n fun v=>eK v fun v=>k d v else fail
 |_,_=>fail
def Wb(d:Nat)(x:ai)(i:ai)(k:Nat→AV→R):R:=bD e fail x fun x=>bD e fail i fun i=>match x,i with
 |.lit (.string u),.lit (.int _ j)=>bif oF j u.size then k d (.lit (.int .u8 (u.data.toList.getD j.toNat 0).toNat)) else fail
 |_,_=>fail
def Wc(d:Nat)(x:ai)(k:Nat→AV→R):R:=bD e fail x fun x=>match x with
 |.slice _ xs _=>k d (.lit (.int .i64 xs.length))
 |.aV _ _ len _ _=>k d (.lit (.int .i64 len))
 |_=>fail
def Wd(d:Nat)(x:ai)(k:Nat→AV→R):R:=bD e fail x fun x=>match x with
 |.lit (.string u)=>k d (.lit (.int .i64 u.size))
 |_=>fail
def We(d:Nat)(op:BinOp)(x:ai)(y:ai)(k:Nat→AV→R):R:=bD e fail x fun x=>bD e fail y fun y=>match uP op x y with
 |some (.lit v)=>k d (.lit v)
 |_=>fail
def Wf(d:Nat)(neg:Bool)(x:ai)(y:ai)(k:Nat→AV→R):R:=bD e fail x fun x=>bD e fail y fun y=>match x,y with
 |.lit (.bool a),.lit (.bool b)=>k d (.lit (.bool (if neg then !(a==b) else a==b)))
 |_,_=>fail
def Wg(d:Nat)(z:List AV)(ps:List (Nat×Nat×ai))(k:Nat→AV→R):R:=bif bq 0 z then CE e fail z ps fun cs=>k d (.agg cs) else fail
def Wh(d:Nat)(neg:Bool)(n:List Bool)(x:ai)(y:ai)(k:Nat→AV→R):R:=bD e fail x fun x=>bD e fail y fun y=>match x,y with
 |.agg a,.agg b=>bif Nat.beq a.length n.length&&Nat.beq b.length n.length then (match dh n a b with
  |some q=>k d (.lit (.bool (if neg then !q else q)))
  |none=>fail) else fail
 |_,_=>fail
def Wi(d:Nat)(x:ai)(k:Nat→AV→R):R:=bD e fail x fun x=>match x with
 |.lit (.bool a)=>k d (.lit (.bool (!a)))
 |_=>fail
def Wj(d:Nat)(x:ai)(k:Nat→AV→R):R:=bD e fail x fun x=>match x with
 |.lit (.int q a)=>bif qd q (0 - a) then k d (.lit (.int q (0 - a))) else fail
 |_=>fail
def Wk(d:Nat)(q:IntKind)(x:ai)(k:Nat→AV→R):R:=bD e fail x fun x=>match x with
 |.lit (.int _ a)=>k d (.lit (.int q (q.wrap a)))
 |_=>fail
def Wl(d:Nat)(c:ai)(x:ai)(y:ai)(k:Nat→AV→R):R:=bD e fail c fun c=>match c with
 |.lit (.bool true)=>bD e fail x fun x=>k d x
 |.lit (.bool false)=>bD e fail y fun y=>k d y
 |_=>fail
def Wm(d:Nat)(x:ai)(i:Nat)(k:Nat→AV→R):R:=bD e fail x fun x=>match x with
 |.tuple vs=>bif Nat.blt i vs.length then eK (vs.getD i .any) fun v=>k d v else fail
 |_=>fail
def Wn(d:Nat)(x:ai)(y:ai)(k:Nat→AV→R):R:=bD e fail x fun x=>bD e fail y fun y=>match x,y with
 |.lit (.int q a),.lit (.int _ b)=>k d (.lit (.int q (if b>a then b else a)))
 |_,_=>fail
def Wo(d:Nat)(x:ai)(y:ai)(k:Nat→AV→R):R:=bD e fail x fun x=>bD e fail y fun y=>match x,y with
 |.lit (.int q a),.lit (.int _ b)=>k d (.lit (.int q (if b<a then b else a)))
 |_,_=>fail
def Wp(d:Nat)(x:ai)(k:Nat→AV→R):R:=bD e fail x fun x=>match x with
 |.ref cs=>k d (.ref cs)
 |.au b o=>k d (.au b o)
 |_=>fail
def Wq(d:Nat)(x:ai)(hi:ai)(sz:Nat)(k:Nat→AV→R):R:=bD e fail x fun x=>bD e fail hi fun hi=>match x,hi with
 |.slice sz' xs _,.lit (.int _ n)=>bif (Nat.beq sz' sz||xs.isEmpty)&&uQ n xs.length then fL (xs.take n.toNat) fun xs=>k d (.slice sz xs 0) else fail
 |_,_=>fail
def Wr(d:Nat)(x:ai)(lo:ai)(sz:Nat)(k:Nat→AV→R):R:=bD e fail x fun x=>bD e fail lo fun lo=>match x,lo with
 |.slice sz' xs _,.lit (.int _ n)=>bif (Nat.beq sz' sz||xs.isEmpty)&&uQ n xs.length then fL (xs.drop n.toNat) fun xs=>k d (.slice sz xs 0) else fail
 |_,_=>fail
def Ws(d:Nat)(x:ai)(lo:ai)(k:Nat→AV→R):R:=bD e fail x fun x=>bD e fail lo fun lo=>match x,lo with
 |.lit (.string u),.lit (.int _ n)=>bif uQ n u.size then k d (.lit (.string (u.extract n.toNat u.size))) else fail
 |_,_=>fail
def Wt(d:Nat)(fn:Fn)(a:List ai)(b:List ai)(k:Nat→AV→R):R:=bif rQ 0 fn then qf e fail a fun a=>qf e fail b fun b=>k d (.func fn a b) else fail
def aep(m:MOp)(k:Nat→AV→R):R:=match m with
 |.af d x=>V1 e fail d x k
 |.aev d x=>V2 e fail d x k
 |.lV d x=>V3 e fail d x k
 |.aU d x n=>V4 e fail d x n k
 |.load d x n=>V5 e fail d x n k
 |.iy d x n=>V6 e fail d x n k
 |.addr d x off=>V7 e fail d x off k
 |.aK d x i sz=>V8 e fail d x i sz k
 |.cw d x i len sz=>V9 e fail d x i len sz k
 |.iW d x off n=>V_ e fail d x off n k
 |.iu d x i len sz n=>Wa e fail d x i len sz n k
 |.dF d x i=>Wb e fail d x i k
 |.len d x=>Wc e fail d x k
 |.aez d x=>Wd e fail d x k
 |.kP d n=>k d (.lit (.int .i64 n))
 |.bin d op x y=>We e fail d op x y k
 |.iw d neg x y=>Wf e fail d neg x y k
 |.build d z ps=>Wg e fail d z ps k
 |.ff d neg n x y=>Wh e fail d neg n x y k
 |.not d x=>Wi e fail d x k
 |.neg d x=>Wj e fail d x k
 |.conv d q x=>Wk e fail d q x k
 |.pick d c x y=>Wl e fail d c x y k
 |.ext d x i=>Wm e fail d x i k
 |.aeU d x y=>Wn e fail d x y k
 |.iz d x y=>Wo e fail d x y k
 |.dg d x=>Wp e fail d x k
 |.iX d x hi sz=>Wq e fail d x hi sz k
 |.kQ d x lo sz=>Wr e fail d x lo sz k
 |.afZ d x lo=>Ws e fail d x lo k
 |.eP d fn a b=>Wt e fail d fn a b k
 |_=>fail
end
section
variable {R:Type} {e:ES} {fail t:R} {ρ:Nat→Nat} {s:St}
theorem cr{b:Bool}{x:R}(h:(bif b then x else fail)=t)(ht:t≠fail):b=true∧x=t:=by
 cases b with
 |true=>exact⟨rfl,h⟩
 |false=>exact absurd h.symm ht
theorem bB{a:ai}{k:AV→R}(h:bD e fail a k=t)(ht:t≠fail)(hr:Rel ρ e s):∃x,a.ev s.env=ak ρ x∧below e.nx x=true∧k x=t:=by
 cases a with
 |t n=>
  obtain⟨h1,h2⟩:=cr h ht
  have hn:n<gS:=by simp only[gS];exact Nat.lt_of_succ_le (by simpa[Nat.blt] using h1)
  exact⟨_,hr.env n hn,hr.jE n,h2⟩
 |c x=>
  obtain⟨h1,h2⟩:=cr h ht
  exact⟨x,(afa h1).symm,jF (Nat.zero_le _) x h1,h2⟩
theorem rS(ht:t≠fail)(hr:Rel ρ e s):∀{as:List ai} {k:List AV→R},qf e fail as k=t→∃xs,(as.map fun x=>(x.ev s.env).erase)=xs.map (ak ρ)∧bq e.nx xs=true∧k xs=t
 |[],k,h=>⟨[],rfl,rfl,h⟩
 |a::as,k,h=>by
  obtain⟨x,h1,h2,h3⟩:=bB h ht hr
  rw[aeV] at h3
  obtain⟨xs,h4,h5,h6⟩:=rS ht hr h3
  exact⟨x.erase::xs,by simp only[List.map_cons,h1,g_,h4],by simp only[bq,afb h2,h5,Bool.and_self],h6⟩
theorem qg{cs:List AV}{off:Nat}{n:Option Nat}{k:AV→R}(h:oE fail cs off n k=t)(ht:t≠fail)(hb:bq e.nx cs=true):∃v,below e.nx v=true∧k v=t∧∀K:AV→Prop,K (ak ρ v)→cx (cs.map (ak ρ)) off n K:=by
 cases n with
 |none=>
  obtain⟨h1,h2⟩:=cr h ht
  have hlt:off<cs.length:=Nat.lt_of_succ_le (by simpa[Nat.blt] using h1)
  exact⟨_,qc off hb,h2,fun K hK=>⟨by simpa using hlt,by rw[uK];exact hK⟩⟩
 |some n=>
  obtain⟨h1,h2⟩:=cr h ht
  rw[eT] at h2
  refine⟨_,?_,h2,fun K hK=>⟨by simpa using h1,?_⟩⟩
  ·simp only[below];exact nh (xZ _ (uL _ hb))
  ·have e1:(AV.agg (((cs.map (ak ρ)).drop off).take n)).erase=ak ρ (.agg (((cs.drop off).take n).map AV.erase0)):=by simp only[AV.erase,ak,cH,←List.map_drop,←List.map_take,oz]
   rw[e1];exact hK
theorem IP(ht:t≠fail)(hr:Rel ρ e s):∀{ps:List (Nat×Nat×ai)} {cs:List AV} {k:List AV→R},CE e fail cs ps k=t→bq e.nx cs=true→∃v,bq e.nx v=true∧k v=t∧∀K:List AV→Prop,K (v.map (ak ρ))→kS s.env (cs.map (ak ρ)) ps K
 |[],cs,k,h,hb=>⟨cs,hb,h,fun K hK=>hK⟩
 |(off,n,x)::ps,cs,k,h,hb=>by
  obtain⟨x',h1,h2,h3⟩:=bB h ht hr
  obtain⟨h4,h5⟩:=cr h3 ht
  simp only[Bool.and_eq_true,Nat.ble_eq] at h4
  rw[eT] at h5
  obtain⟨v,g1,g2,g3⟩:=IP ht hr h5 (ag3 _ _ _ hb (nh (qb h2)))
  refine⟨v,g1,g2,fun K hK=>⟨by rw[h1,lA];simpa using h4.1,by simpa using h4.2,?_⟩⟩
  rw[h1,lA,oz,xV]
  exact g3 K hK
end
end Go.aq
namespace Go.aq
section
variable {R:Type} {e:ES} {fail t:R} {ρ:Nat→Nat} {s:St} (P:Program)
theorem iK(xs:List AV):(xs.map (ak ρ)).length=xs.length:=by simp
theorem Wu{m:MOp}{k:Nat→AV→R}(h:aep e fail m k=t)(ht:t≠fail)(hr:Rel ρ e s):∃d v,below e.nx v=true∧k d v=t∧∀K:St→Prop,K (s.set d (ak ρ v))→vc1 P m s K:=by
 cases m with
 |af d x=>
  dsimp only[aep] at h
  obtain⟨x,h1,h2,h3⟩:=bB h ht hr
  exact⟨d,x,h2,h3,fun K hK=>by simp only[vc1,h1];exact hK⟩
 |aev d x=>
  dsimp only[aep] at h
  obtain⟨x,h1,h2,h3⟩:=bB h ht hr
  rw[aeV] at h3
  exact⟨d,x.erase,afb h2,h3,fun K hK=>by simp only[vc1,h1,g_];exact hK⟩
 |lV d x=>
  dsimp only[aep] at h
  obtain⟨x,h1,h2,h3⟩:=bB h ht hr
  split at h3
  ·exact⟨d,_,rfl,h3,fun K hK=>by simp only[vc1,h1,ak];simpa only[ak] using hK⟩
  ·exact absurd h3.symm ht
 |aU d x n=>
  dsimp only[aep] at h
  obtain⟨x,h1,h2,h3⟩:=bB h ht hr
  obtain⟨h4,h5⟩:=cr h3 ht
  rw[eT] at h5
  refine⟨d,_,by simp only[below];exact nh (qb h2),h5,fun K hK=> ?_⟩
  simp only[vc1,h1,lA,oz]
  simp only[ak,cH] at hK
  exact⟨by simpa using h4,hK⟩
 |load d x n=>
  dsimp only[aep] at h
  obtain⟨x,h1,h2,h3⟩:=bB h ht hr
  split at h3
  ·simp only[below] at h2
   obtain⟨v,g1,g2,g3⟩:=qg h3 ht h2
   rw[aeV] at g2
   refine⟨d,v.erase,afb g1,g2,fun K hK=> ?_⟩
   simp only[vc1,h1,ak,cJ,cH]
   exact g3 _ (by rw[g_];exact hK)
  ·rename_i b off
   split at h3
   ·rename_i cs hcs
    obtain⟨l1,l2,l3⟩:=hr.loc b cs hcs
    obtain⟨v,g1,g2,g3⟩:=qg h3 ht l3
    refine⟨d,v,g1,g2,fun K hK=> ?_⟩
    simp only[vc1,h1,ak,cJ,l2]
    exact g3 _ hK
   ·exact absurd h3.symm ht
  ·exact absurd h3.symm ht
 |iy d x n=>
  dsimp only[aep] at h
  obtain⟨x,h1,h2,h3⟩:=bB h ht hr
  split at h3
  ·simp only[below] at h2
   obtain⟨v,g1,g2,g3⟩:=qg h3 ht h2
   rw[aeV] at g2
   refine⟨d,v.erase,afb g1,g2,fun K hK=> ?_⟩
   simp only[vc1,h1,ak,cH]
   exact g3 _ (by rw[g_];exact hK)
  ·exact absurd h3.symm ht
 |addr d x off=>
  dsimp only[aep] at h
  obtain⟨x,h1,h2,h3⟩:=bB h ht hr
  split at h3
  ·rw[eT] at h3
   simp only[below] at h2
   refine⟨d,_,by simp only[below];exact uL off h2,h3,fun K hK=> ?_⟩
   simp only[vc1,h1,ak,cH]
   simpa only[ak,cH,List.map_drop] using hK
  ·exact⟨d,_,by simpa only[below] using h2,h3,fun K hK=>by simp only[vc1,h1,ak];simpa only[ak] using hK⟩
  ·exact absurd h3.symm ht
 |aK d x i sz=>
  dsimp only[aep] at h
  obtain⟨x,h1,h2,h3⟩:=bB h ht hr
  obtain⟨i,h4,h5,h6⟩:=bB h3 ht hr
  split at h6
  ·rename_i sz' xs r q n
   obtain⟨c1,c2⟩:=cr h6 ht
   simp only[Bool.and_eq_true] at c1
   obtain⟨q1,q2,q3⟩:=rR c1.2
   rw[eT] at c2
   simp only[below] at h2
   refine⟨d,_,by simp only[below];exact qb (qc _ h2),c2,fun K hK=> ?_⟩
   simp only[vc1,h1,h4,ak,cH,iK,uK,lA]
   simp only[ak,cH] at hK
   exact⟨Nat.eq_of_beq_eq_true c1.1,q1,q2,hK⟩
  ·rename_i b off len cap sz' q n
   obtain⟨c1,c2⟩:=cr h6 ht
   simp only[Bool.and_eq_true] at c1
   obtain⟨q1,q2,q3⟩:=rR c1.2
   refine⟨d,_,by simpa only[below] using h2,c2,fun K hK=> ?_⟩
   simp only[vc1,h1,h4,ak]
   exact⟨Nat.eq_of_beq_eq_true c1.1,q1,q2,by simpa only[ak] using hK⟩
  ·exact absurd h6.symm ht
 |cw d x i len sz=>
  dsimp only[aep] at h
  obtain⟨x,h1,h2,h3⟩:=bB h ht hr
  obtain⟨i,h4,h5,h6⟩:=bB h3 ht hr
  split at h6
  ·obtain⟨c1,c2⟩:=cr h6 ht
   obtain⟨q1,q2,q3⟩:=rR c1
   rw[eT] at c2
   simp only[below] at h2
   refine⟨d,_,by simp only[below];exact uL _ h2,c2,fun K hK=> ?_⟩
   simp only[vc1,h1,h4,ak,cH]
   exact⟨q1,q2,by simpa only[ak,cH,List.map_drop] using hK⟩
  ·obtain⟨c1,c2⟩:=cr h6 ht
   obtain⟨q1,q2,q3⟩:=rR c1
   refine⟨d,_,by simpa only[below] using h2,c2,fun K hK=> ?_⟩
   simp only[vc1,h1,h4,ak]
   exact⟨q1,q2,by simpa only[ak] using hK⟩
  ·exact absurd h6.symm ht
 |iW d x off n=>
  dsimp only[aep] at h
  obtain⟨x,h1,h2,h3⟩:=bB h ht hr
  split at h3
  ·simp only[below] at h2
   obtain⟨v,g1,g2,g3⟩:=qg h3 ht h2
   rw[aeV] at g2
   refine⟨d,v.erase,afb g1,g2,fun K hK=> ?_⟩
   simp only[vc1,h1,ak,cH]
   exact g3 _ (by rw[g_];exact hK)
  ·exact absurd h3.symm ht
 |iu d x i len sz n=>
  dsimp only[aep] at h
  obtain⟨x,h1,h2,h3⟩:=bB h ht hr
  obtain⟨i,h4,h5,h6⟩:=bB h3 ht hr
  split at h6
  ·obtain⟨c1,c2⟩:=cr h6 ht
   obtain⟨q1,q2,q3⟩:=rR c1
   simp only[below] at h2
   obtain⟨v,g1,g2,g3⟩:=qg c2 ht h2
   rw[aeV] at g2
   refine⟨d,v.erase,afb g1,g2,fun K hK=> ?_⟩
   simp only[vc1,h1,h4,ak,cH]
   exact⟨q1,q2,g3 _ (by rw[g_];exact hK)⟩
  ·exact absurd h6.symm ht
 |dF d x i=>
  dsimp only[aep] at h
  obtain⟨x,h1,h2,h3⟩:=bB h ht hr
  obtain⟨i,h4,h5,h6⟩:=bB h3 ht hr
  split at h6
  ·obtain⟨c1,c2⟩:=cr h6 ht
   obtain⟨q1,q2,q3⟩:=rR c1
   refine⟨d,_,rfl,c2,fun K hK=> ?_⟩
   simp only[vc1,h1,h4,ak]
   exact⟨q1,q2,by simpa only[ak] using hK⟩
  ·exact absurd h6.symm ht
 |len d x=>
  dsimp only[aep] at h
  obtain⟨x,h1,h2,h3⟩:=bB h ht hr
  split at h3
  ·exact⟨d,_,rfl,h3,fun K hK=>by simp only[vc1,h1,ak,cH,iK];simpa only[ak] using hK⟩
  ·exact⟨d,_,rfl,h3,fun K hK=>by simp only[vc1,h1,ak];simpa only[ak] using hK⟩
  ·exact absurd h3.symm ht
 |aez d x=>
  dsimp only[aep] at h
  obtain⟨x,h1,h2,h3⟩:=bB h ht hr
  split at h3
  ·exact⟨d,_,rfl,h3,fun K hK=>by simp only[vc1,h1,ak];simpa only[ak] using hK⟩
  ·exact absurd h3.symm ht
 |kP d n=>
  dsimp only[aep] at h
  exact⟨d,_,rfl,h,fun K hK=>by simp only[vc1];simpa only[ak] using hK⟩
 |bin d op x y=>
  dsimp only[aep] at h
  obtain⟨x,h1,h2,h3⟩:=bB h ht hr
  obtain⟨y,h4,h5,h6⟩:=bB h3 ht hr
  split at h6
  ·rename_i v hv
   obtain⟨e1,e2⟩:=V0 hv ρ
   refine⟨d,_,rfl,h6,fun K hK=> ?_⟩
   simp only[vc1,h1,h4,e1,e2]
   exact VZ hv (by simpa only[ak] using hK)
  ·exact absurd h6.symm ht
 |iw d neg x y=>
  dsimp only[aep] at h
  obtain⟨x,h1,h2,h3⟩:=bB h ht hr
  obtain⟨y,h4,h5,h6⟩:=bB h3 ht hr
  split at h6
  ·exact⟨d,_,rfl,h6,fun K hK=>by simp only[vc1,h1,h4,ak];simpa only[ak] using hK⟩
  ·exact absurd h6.symm ht
 |build d z ps=>
  dsimp only[aep] at h
  obtain⟨h1,h2⟩:=cr h ht
  obtain⟨v,g1,g2,g3⟩:=IP ht hr h2 (je (Nat.zero_le _) z h1)
  refine⟨d,_,by simp only[below];exact g1,g2,fun K hK=> ?_⟩
  have hz:z.map (ak ρ)=z:=by
   have:=List.map_congr_left (f:=ak ρ) (g:=id) (l:=z) fun x hx=>afa (aeQ.1 h1 x hx)
   rw[this,List.map_id]
  simp only[vc1]
  have:=g3 (fun cs=>K (s.set d (.agg cs))) (by simpa only[ak,cH] using hK)
  rw[hz] at this
  exact this
 |ff d neg n x y=>
  dsimp only[aep] at h
  obtain⟨x,h1,h2,h3⟩:=bB h ht hr
  obtain⟨y,h4,h5,h6⟩:=bB h3 ht hr
  split at h6
  ·obtain⟨c1,c2⟩:=cr h6 ht
   simp only[Bool.and_eq_true] at c1
   split at c2
   ·rename_i q hq
    refine⟨d,_,rfl,c2,fun K hK=> ?_⟩
    simp only[vc1,h1,h4,ak,cH,iK,IJ]
    exact⟨Nat.eq_of_beq_eq_true c1.1,Nat.eq_of_beq_eq_true c1.2,q,hq,by simpa only[ak] using hK⟩
   ·exact absurd c2.symm ht
  ·exact absurd h6.symm ht
 |not d x=>
  dsimp only[aep] at h
  obtain⟨x,h1,h2,h3⟩:=bB h ht hr
  split at h3
  ·exact⟨d,_,rfl,h3,fun K hK=>by simp only[vc1,h1,ak];simpa only[ak] using hK⟩
  ·exact absurd h3.symm ht
 |neg d x=>
  dsimp only[aep] at h
  obtain⟨x,h1,h2,h3⟩:=bB h ht hr
  split at h3
  ·obtain⟨c1,c2⟩:=cr h3 ht
   exact⟨d,_,rfl,c2,fun K hK=>by simp only[vc1,h1,ak];exact⟨Cz c1,by simpa only[ak] using hK⟩⟩
  ·exact absurd h3.symm ht
 |conv d q x=>
  dsimp only[aep] at h
  obtain⟨x,h1,h2,h3⟩:=bB h ht hr
  split at h3
  ·exact⟨d,_,rfl,h3,fun K hK=>by simp only[vc1,h1,ak];simpa only[ak] using hK⟩
  ·exact absurd h3.symm ht
 |pick d c x y=>
  dsimp only[aep] at h
  obtain⟨c,h1,h2,h3⟩:=bB h ht hr
  split at h3
  ·obtain⟨x,h4,h5,h6⟩:=bB h3 ht hr
   exact⟨d,x,h5,h6,fun K hK=>by simp only[vc1,h1,ak,if_true,h4];exact hK⟩
  ·obtain⟨y,h4,h5,h6⟩:=bB h3 ht hr
   exact⟨d,y,h5,h6,fun K hK=>by simp only[vc1,h1,ak,Bool.false_eq_true,if_false,h4];exact hK⟩
  ·exact absurd h3.symm ht
 |ext d x i=>
  dsimp only[aep] at h
  obtain⟨x,h1,h2,h3⟩:=bB h ht hr
  split at h3
  ·obtain⟨c1,c2⟩:=cr h3 ht
   rw[aeV] at c2
   simp only[below] at h2
   refine⟨d,_,afb (qc i h2),c2,fun K hK=> ?_⟩
   simp only[vc1,h1,ak,cH,iK,uK,g_]
   exact⟨Nat.lt_of_succ_le (by simpa[Nat.blt] using c1),hK⟩
  ·exact absurd h3.symm ht
 |aeU d x y=>
  dsimp only[aep] at h
  obtain⟨x,h1,h2,h3⟩:=bB h ht hr
  obtain⟨y,h4,h5,h6⟩:=bB h3 ht hr
  split at h6
  ·exact⟨d,_,rfl,h6,fun K hK=>by simp only[vc1,h1,h4,ak];simpa only[ak] using hK⟩
  ·exact absurd h6.symm ht
 |iz d x y=>
  dsimp only[aep] at h
  obtain⟨x,h1,h2,h3⟩:=bB h ht hr
  obtain⟨y,h4,h5,h6⟩:=bB h3 ht hr
  split at h6
  ·exact⟨d,_,rfl,h6,fun K hK=>by simp only[vc1,h1,h4,ak];simpa only[ak] using hK⟩
  ·exact absurd h6.symm ht
 |dg d x=>
  dsimp only[aep] at h
  obtain⟨x,h1,h2,h3⟩:=bB h ht hr
  split at h3
  ·exact⟨d,_,h2,h3,fun K hK=>by simp only[vc1,h1,ak];simpa only[ak] using hK⟩
  ·exact⟨d,_,h2,h3,fun K hK=>by simp only[vc1,h1,ak];simpa only[ak] using hK⟩
  ·exact absurd h3.symm ht
 |iX d x hi sz=>
  dsimp only[aep] at h
  obtain⟨x,h1,h2,h3⟩:=bB h ht hr
  obtain⟨i,h4,h5,h6⟩:=bB h3 ht hr
  split at h6
  ·rename_i sz' xs r q n
   obtain⟨c1,c2⟩:=cr h6 ht
   simp only[Bool.and_eq_true,Bool.or_eq_true,List.isEmpty_iff] at c1
   obtain⟨q1,q2⟩:=CD c1.2
   rw[eT] at c2
   simp only[below] at h2
   refine⟨d,_,by simp only[below];exact xZ _ h2,c2,fun K hK=> ?_⟩
   simp only[vc1,h1,h4,ak,cH,iK]
   exact⟨c1.1.imp Nat.eq_of_beq_eq_true (fun e=>by rw[e];rfl),q1,q2,by simpa only[ak,cH,List.map_take] using hK⟩
  ·exact absurd h6.symm ht
 |kQ d x lo sz=>
  dsimp only[aep] at h
  obtain⟨x,h1,h2,h3⟩:=bB h ht hr
  obtain⟨i,h4,h5,h6⟩:=bB h3 ht hr
  split at h6
  ·rename_i sz' xs r q n
   obtain⟨c1,c2⟩:=cr h6 ht
   simp only[Bool.and_eq_true,Bool.or_eq_true,List.isEmpty_iff] at c1
   obtain⟨q1,q2⟩:=CD c1.2
   rw[eT] at c2
   simp only[below] at h2
   refine⟨d,_,by simp only[below];exact uL _ h2,c2,fun K hK=> ?_⟩
   simp only[vc1,h1,h4,ak,cH,iK]
   exact⟨c1.1.imp Nat.eq_of_beq_eq_true (fun e=>by rw[e];rfl),q1,q2,by simpa only[ak,cH,List.map_drop] using hK⟩
  ·exact absurd h6.symm ht
 |afZ d x lo=>
  dsimp only[aep] at h
  obtain⟨x,h1,h2,h3⟩:=bB h ht hr
  obtain⟨i,h4,h5,h6⟩:=bB h3 ht hr
  split at h6
  ·obtain⟨c1,c2⟩:=cr h6 ht
   obtain⟨q1,q2⟩:=CD c1
   exact⟨d,_,rfl,c2,fun K hK=>by simp only[vc1,h1,h4,ak];exact⟨q1,by omega,by simpa only[ak] using hK⟩⟩
  ·exact absurd h6.symm ht
 |eP d fn a b=>
  dsimp only[aep] at h
  obtain⟨h0,h⟩:=cr h ht
  obtain⟨xs,h1,h2,h3⟩:=rS ht hr h
  obtain⟨ys,h4,h5,h6⟩:=rS ht hr h3
  have hf:below e.nx (.func fn [] [])=true:=jF (Nat.zero_le _) (.func fn [] []) (by simp only[below,bq,h0,Bool.and_self])
  simp only[below,bq,Bool.and_true] at hf
  refine⟨d,_,by simp only[below,h2,h5,hf,Bool.and_self],h6,fun K hK=> ?_⟩
  have Wv:afJ ρ fn=fn:=by cases fn<;>first|rfl|(cases h0)
  simp only[vc1,h1,h4]
  simpa only[ak,cH,Wv] using hK
 |_=>exact absurd (show t=fail from h.symm) ht
end
end Go.aq
namespace Go.aq
section
variable {R:Type} (e:ES) (fail:R)
def dm(d:Nat)(x:AV)(k:ES→R):R:=bif Nat.blt d 1000000 then jG 24 e.env d (some x) fun t=>k ⟨t,e.loc,e.obj,e.gh,e.nx⟩ else fail
def lC(r:Nat)(k:ES→R):R:=oC r e.env fun env=>oD r e.loc fun loc=>k ⟨env,loc,e.obj,e.gh,e.nx⟩
def uR(cs:List AV)(k:Nat→ES→R):R:=bif Nat.blt e.nx 16000000 then jG 24 e.loc e.nx (some cs) fun loc=>fN (e.nx+1) fun nx=>k e.nx ⟨e.env,loc,e.obj,e.gh,nx⟩ else fail
def ni(b:Nat)(cs:Option (List AV))(k:ES→R):R:=bif Nat.blt b 16000000 then jG 24 e.loc b cs fun loc=>k ⟨e.env,loc,e.obj,e.gh,e.nx⟩ else fail
def CF(x:AV)(k:Nat→ES→R):R:=bif Nat.blt e.nx 16000000 then jG 24 e.obj e.nx (some x) fun obj=>fN (e.nx+1) fun nx=>k e.nx ⟨e.env,e.loc,obj,e.gh,nx⟩ else fail
def ag6(b:Nat)(x:AV)(k:ES→R):R:=bif Nat.blt b 16000000 then jG 24 e.obj b (some x) fun obj=>k ⟨e.env,e.loc,obj,e.gh,e.nx⟩ else fail
end
def Nx{R:Type}(ρ:Nat→Nat)(e:ES)(k:ES→R)(t:R)(s':St):Prop:=∃ρ' e',Rel ρ' e' s'∧e.nx≤e'.nx∧(∀b,b<e.nx→ρ' b=ρ b)∧k e'=t
section
variable {R:Type} {e:ES} {fail t:R} {ρ:Nat→Nat} {s:St}
theorem Nx.of(h:Rel ρ e s){k:ES→R}(hk:k e=t):Nx ρ e k t s:=⟨ρ,e,h,Nat.le_refl _,fun _ _=>rfl,hk⟩
theorem small{d:Nat}(h:Nat.blt d 1000000=true):d<gS∧d+1<2^24:=by
 have:d<1000000:=Nat.lt_of_succ_le (by simpa[Nat.blt] using h)
 simp only[gS];omega
theorem small'{d:Nat}(h:Nat.blt d 16000000=true):d+1<2^24:=by
 have:d<16000000:=Nat.lt_of_succ_le (by simpa[Nat.blt] using h)
 omega
theorem IQ{k d:Nat}(x:AV)(h:d+1<2^24):ES.at ⟨T.set 24 e.env d (some x),e.loc,e.obj,e.gh,e.nx⟩ k=if k=d then x else e.at k:=by
 simp only[ES.at,T.iJ 24 _ _ _ _ h]
 split<;>rfl
theorem jf{d:Nat}{x:AV}{k:ES→R}(h:dm e fail d x k=t)(ht:t≠fail)(hr:Rel ρ e s)(hx:below e.nx x=true):∃e',Rel ρ e' (s.set d (ak ρ x))∧e'.nx=e.nx∧k e'=t:=by
 obtain⟨h1,h2⟩:=cr h ht
 obtain⟨g1,g2⟩:=small h1
 rw[oB] at h2
 refine⟨⟨T.set 24 e.env d (some x),e.loc,e.obj,e.gh,e.nx⟩,⟨fun q hq=> ?_,fun q=> ?_,?_,hr.gb,hr.loc,hr.lB,fun b x hb=> ?_,hr.mj,hr.og,hr.gg⟩,rfl,h2⟩
 ·rw[IQ x g2]
  by_cases e1:q=d
  ·rw[if_pos e1,e1];exact dP _ _ _
  ·rw[if_neg e1];exact(bE _ _ e1).trans (hr.env q hq)
 ·rw[IQ x g2]
  split
  ·exact hx
  ·exact hr.jE q
 ·exact(bE _ _ (by omega)).trans hr.gh
 ·obtain⟨o1,o2,o3⟩:=hr.obj b x hb
  exact⟨o1,(bE _ _ (by have:=uq (ρ b);omega)).trans o2,o3⟩
theorem nj{r:Nat}{k:ES→R}(h:lC e r k=t)(hr:Rel ρ e s):∃e',Rel ρ e' (s.aT r)∧e'.nx=e.nx∧e'.gh=e.gh∧e'.obj=e.obj∧k e'=t∧∀b cs,e.loc.get b=some cs→e'.loc.get b=some (cs.map (aC r)):=by
 unfold lC at h
 rw[uN,uO] at h
 have gd:∀q,ES.at ⟨e.env.map (aC r),e.loc.map (·.map (aC r)),e.obj,e.gh,e.nx⟩ q=aC r (e.at q):=by
  intro q
  simp only[ES.at,T.get_map]
  cases e.env.get q<;>rfl
 refine⟨⟨e.env.map (aC r),e.loc.map (·.map (aC r)),e.obj,e.gh,e.nx⟩,⟨fun q hq=> ?_,fun q=> ?_,?_,hr.gb,fun b cs hb=> ?_,fun b b' h1 h2=> ?_,fun b x hb=> ?_,hr.mj,hr.og,hr.gg⟩,rfl,rfl,rfl,h,fun b cs hb=>by simp only[T.get_map,hb];rfl⟩
 ·rw[gd,←uJ]
  show aC r (s.env q)=_
  rw[hr.env q hq]
 ·rw[gd];exact ahH r (hr.jE q)
 ·show aC r (s.env gS)=_
  rw[hr.gh,uJ,ahs hr.gg r]
 ·simp only[T.get_map,Option.map_eq_some_iff] at hb
  obtain⟨cs',hcs,rfl⟩:=hb
  obtain⟨l1,l2,l3⟩:=hr.loc b cs' hcs
  refine⟨l1,?_,xY r l3⟩
  simp only[St.aT,l2,Option.map_some,List.map_map]
  congr 1
  exact List.map_congr_left fun x _=>uJ ρ r x
 ·simp only[T.get_map,ne_eq,Option.map_eq_none_iff] at h1 h2
  exact hr.lB b b' h1 h2
 ·obtain⟨o1,o2,o3⟩:=hr.obj b x hb
  refine⟨o1,?_,o3⟩
  show aC r (s.env (oS+ρ b))=x
  rw[o2];exact ahs (hr.og b x hb) r
theorem rT{n B:Nat}:∀b,b<n→aD ρ n B b=ρ b:=fun b hb=>bE _ _ (by omega)
theorem Ww{cs:List AV}{k:Nat→ES→R}(h:uR e fail cs k=t)(ht:t≠fail)(hr:Rel ρ e s)(hc:bq e.nx cs=true){B:Nat}(hB:s.loc B=none):∃e',Rel (aD ρ e.nx B) e' (s.new B (cs.map (ak ρ)))∧e'.nx=e.nx+1∧e'.gh=e.gh∧k e.nx e'=t:=by
 obtain⟨h1,h2⟩:=cr h ht
 have g2:=small' h1
 rw[oB,oA] at h2
 have qh:∀x,below e.nx x=true→ak (aD ρ e.nx B) x=ak ρ x:=fun x hx=>p9 rT x hx
 have hmap:∀xs,bq e.nx xs=true→xs.map (ak (aD ρ e.nx B))=xs.map (ak ρ):=fun xs hxs=>List.map_congr_left fun x hx=>qh x (aeQ.1 hxs x hx)
 refine⟨⟨e.env,T.set 24 e.loc e.nx (some cs),e.obj,e.gh,e.nx+1⟩,⟨fun q hq=> ?_,fun q=>jF (Nat.le_succ _) _ (hr.jE q),hr.gh.trans (qh _ hr.gb).symm,jF (Nat.le_succ _) _ hr.gb,fun b cs' hb=> ?_,fun b b' h3 h4 h5=> ?_,fun b x hb=> ?_,fun b b' h3 h4 h5=> ?_,hr.og,hr.gg⟩,rfl,rfl,h2⟩
 ·show s.env q=_
  rw[hr.env q hq]
  exact(qh _ (hr.jE q)).symm
 ·simp only[T.iJ 24 _ _ _ _ g2] at hb
  split at hb
  ·rename_i e1
   injection hb with hb;subst hb;subst e1
   refine⟨Nat.lt_succ_self _,?_,je (Nat.le_succ _) _ hc⟩
   rw[dP,hmap _ hc]
   exact dP _ _ _
  ·rename_i e1
   obtain⟨l1,l2,l3⟩:=hr.loc b cs' hb
   refine⟨Nat.lt_succ_of_lt l1,?_,je (Nat.le_succ _) _ l3⟩
   rw[bE _ _ e1,hmap _ l3]
   exact(bE _ _ (by intro e2;rw[e2,hB] at l2;cases l2)).trans l2
 ·simp only[T.iJ 24 _ _ _ _ g2] at h3 h4
  by_cases e1:b=e.nx<;>by_cases e2:b'=e.nx
  ·rw[e1,e2]
  ·rw[if_neg e2] at h4
   rw[e1,dP,bE _ _ e2] at h5
   cases hl:e.loc.get b' with
   |none=>exact absurd hl h4
   |some cs'=>have:=(hr.loc b' cs' hl).2.1;rw[←h5,hB] at this;cases this
  ·rw[if_neg e1] at h3
   rw[e2,dP,bE _ _ e1] at h5
   cases hl:e.loc.get b with
   |none=>exact absurd hl h3
   |some cs'=>have:=(hr.loc b cs' hl).2.1;rw[h5,hB] at this;cases this
  ·rw[if_neg e1] at h3;rw[if_neg e2] at h4
   rw[bE _ _ e1,bE _ _ e2] at h5
   exact hr.lB b b' h3 h4 h5
 ·obtain⟨o1,o2,o3⟩:=hr.obj b x hb
  exact⟨Nat.lt_succ_of_lt o1,by rw[bE _ _ (by omega)];exact o2,o3⟩
 ·cases hl:e.obj.get b with
  |none=>exact absurd hl h3
  |some x=>cases hl':e.obj.get b' with
   |none=>exact absurd hl' h4
   |some x'=>
    have b1:=(hr.obj b x hl).1;have b2:=(hr.obj b' x' hl').1
    rw[bE _ _ (by omega),bE _ _ (by omega)] at h5
    exact hr.mj b b' h3 h4 h5
theorem rU{b:Nat}{cs0:List AV}{cs:Option (List AV)}{k:ES→R}(h:ni e fail b cs k=t)(ht:t≠fail)(hr:Rel ρ e s)(h0:e.loc.get b=some cs0)(hc:∀x,cs=some x→bq e.nx x=true):∃e',Rel ρ e' ⟨s.env,aD s.loc (ρ b) (cs.map (·.map (ak ρ)))⟩∧e'.nx=e.nx∧e'.gh=e.gh∧k e'=t∧e'.at=e.at:=by
 obtain⟨h1,h2⟩:=cr h ht
 have g2:=small' h1
 rw[oB] at h2
 refine⟨⟨e.env,T.set 24 e.loc b cs,e.obj,e.gh,e.nx⟩,⟨hr.env,hr.jE,hr.gh,hr.gb,fun c cs' hb=> ?_,fun c c' h3 h4 h5=> ?_,hr.obj,hr.mj,hr.og,hr.gg⟩,rfl,rfl,h2,rfl⟩
 ·simp only[T.iJ 24 _ _ _ _ g2] at hb
  split at hb
  ·rename_i e1
   subst hb;subst e1
   exact⟨(hr.loc _ _ h0).1,dP _ _ _,hc _ rfl⟩
  ·rename_i e1
   obtain⟨l1,l2,l3⟩:=hr.loc c cs' hb
   refine⟨l1,(bE _ _ ?_).trans l2,l3⟩
   intro e2
   exact e1 (hr.lB c b (by rw[hb];simp) (by rw[h0];simp) e2)
 ·simp only[T.iJ 24 _ _ _ _ g2] at h3 h4
  refine hr.lB c c' ?_ ?_ h5
  ·by_cases e1:c=b
   ·rw[e1,h0];simp
   ·rw[if_neg e1] at h3;exact h3
  ·by_cases e1:c'=b
   ·rw[e1,h0];simp
   ·rw[if_neg e1] at h4;exact h4
theorem IS{x:AV}{k:Nat→ES→R}(h:CF e fail x k=t)(ht:t≠fail)(hr:Rel ρ e s)(hx:x≠.any)(hG:isG x=true){B:Nat}(hB:s.env (oS+B)=.any):∃e',Rel (aD ρ e.nx B) e' (s.set (oS+B) x)∧e'.nx=e.nx+1∧e'.gh=e.gh∧k e.nx e'=t:=by
 obtain⟨h1,h2⟩:=cr h ht
 have g2:=small' h1
 rw[oB,oA] at h2
 have qh:∀x,below e.nx x=true→ak (aD ρ e.nx B) x=ak ρ x:=fun x hx=>p9 rT x hx
 have hmap:∀xs,bq e.nx xs=true→xs.map (ak (aD ρ e.nx B))=xs.map (ak ρ):=fun xs hxs=>List.map_congr_left fun x hx=>qh x (aeQ.1 hxs x hx)
 have hS:=uq B
 refine⟨⟨e.env,e.loc,T.set 24 e.obj e.nx (some x),e.gh,e.nx+1⟩,⟨fun q hq=> ?_,fun q=>jF (Nat.le_succ _) _ (hr.jE q),?_,jF (Nat.le_succ _) _ hr.gb,fun b cs' hb=> ?_,fun b b' h3 h4 h5=> ?_,fun b y hb=> ?_,fun b b' h3 h4 h5=> ?_,fun b y hb=> ?_,hr.gg⟩,rfl,rfl,h2⟩
 ·refine(bE _ _ (by omega)).trans ?_
  rw[hr.env q hq]
  exact(qh _ (hr.jE q)).symm
 ·exact(bE _ _ (by omega)).trans (hr.gh.trans (qh _ hr.gb).symm)
 ·obtain⟨l1,l2,l3⟩:=hr.loc b cs' hb
  refine⟨Nat.lt_succ_of_lt l1,?_,je (Nat.le_succ _) _ l3⟩
  rw[bE _ _ (by omega),hmap _ l3]
  exact l2
 ·cases hl:e.loc.get b with
  |none=>exact absurd hl h3
  |some x=>cases hl':e.loc.get b' with
   |none=>exact absurd hl' h4
   |some x'=>
    have b1:=(hr.loc b x hl).1;have b2:=(hr.loc b' x' hl').1
    rw[bE _ _ (by omega),bE _ _ (by omega)] at h5
    exact hr.lB b b' h3 h4 h5
 ·simp only[T.iJ 24 _ _ _ _ g2] at hb
  split at hb
  ·rename_i e1
   injection hb with hb;subst hb;subst e1
   exact⟨Nat.lt_succ_self _,by rw[dP];exact dP _ _ _,hx⟩
  ·rename_i e1
   obtain⟨o1,o2,o3⟩:=hr.obj b y hb
   refine⟨Nat.lt_succ_of_lt o1,?_,o3⟩
   rw[bE _ _ e1]
   refine(bE _ _ ?_).trans o2
   intro e2
   have e3:ρ b=B:=by omega
   rw[e3,hB] at o2
   exact o3 o2.symm
 ·simp only[T.iJ 24 _ _ _ _ g2] at h3 h4
  by_cases e1:b=e.nx<;>by_cases e2:b'=e.nx
  ·rw[e1,e2]
  ·rw[if_neg e2] at h4
   rw[e1,dP,bE _ _ e2] at h5
   cases hl:e.obj.get b' with
   |none=>exact absurd hl h4
   |some y=>have:=hr.obj b' y hl;rw[←h5,hB] at this;exact absurd this.2.1.symm this.2.2
  ·rw[if_neg e1] at h3
   rw[e2,dP,bE _ _ e1] at h5
   cases hl:e.obj.get b with
   |none=>exact absurd hl h3
   |some y=>have:=hr.obj b y hl;rw[h5,hB] at this;exact absurd this.2.1.symm this.2.2
  ·rw[if_neg e1] at h3;rw[if_neg e2] at h4
   rw[bE _ _ e1,bE _ _ e2] at h5
   exact hr.mj b b' h3 h4 h5
 ·simp only[T.iJ 24 _ _ _ _ g2] at hb
  split at hb
  ·injection hb with hb;subst hb;exact hG
  ·exact hr.og b y hb
theorem CG{b:Nat}{x0 x:AV}{k:ES→R}(h:ag6 e fail b x k=t)(ht:t≠fail)(hr:Rel ρ e s)(h0:e.obj.get b=some x0)(hx:x≠.any)(hG:isG x=true):∃e',Rel ρ e' (s.set (oS+ρ b) x)∧e'.nx=e.nx∧e'.gh=e.gh∧k e'=t:=by
 obtain⟨h1,h2⟩:=cr h ht
 have g2:=small' h1
 rw[oB] at h2
 have hS:=uq (ρ b)
 refine⟨⟨e.env,e.loc,T.set 24 e.obj b (some x),e.gh,e.nx⟩,⟨fun q hq=>(bE _ _ (by omega)).trans (hr.env q hq),hr.jE,(bE _ _ (by omega)).trans hr.gh,hr.gb,hr.loc,hr.lB,fun c y hb=> ?_,fun c c' h3 h4 h5=> ?_,fun c y hb=> ?_,hr.gg⟩,rfl,rfl,h2⟩
 ·simp only[T.iJ 24 _ _ _ _ g2] at hb
  split at hb
  ·rename_i e1
   injection hb with hb;subst hb;subst e1
   exact⟨(hr.obj _ _ h0).1,dP _ _ _,hx⟩
  ·rename_i e1
   obtain⟨o1,o2,o3⟩:=hr.obj c y hb
   refine⟨o1,(bE _ _ ?_).trans o2,o3⟩
   intro e2
   exact e1 (hr.mj c b (by rw[hb];simp) (by rw[h0];simp) (by omega))
 ·simp only[T.iJ 24 _ _ _ _ g2] at h3 h4
  refine hr.mj c c' ?_ ?_ h5
  ·by_cases e1:c=b
   ·rw[e1,h0];simp
   ·rw[if_neg e1] at h3;exact h3
  ·by_cases e1:c'=b
   ·rw[e1,h0];simp
   ·rw[if_neg e1] at h4;exact h4
 ·simp only[T.iJ 24 _ _ _ _ g2] at hb
  split at hb
  ·injection hb with hb;subst hb;exact hG
  ·exact hr.og c y hb
end
end Go.aq
namespace Go.aq
mutual
def jg:AV→AV→Bool
 |.lit v,.lit v'=>tA v v'
 |.slice sz xs r,.slice sz' ys r'=>Nat.beq sz sz'&&Nat.beq r r'&&afo xs ys
 |.ref xs,.ref ys=>afo xs ys
 |.agg xs,.agg ys=>afo xs ys
 |.tuple xs,.tuple ys=>afo xs ys
 |_,_=>false
def afo:List AV→List AV→Bool
 |[],[]=>true
 |x::xs,y::ys=>jg x y&&afo xs ys
 |_,_=>false
end
mutual
theorem IT:∀(x y:AV),jg x y=true→x=y
 |.lit v,y,h=>by cases y<;>simp only[jg] at h<;>first|(cases h;done)|rw[(Af h).1]
 |.slice sz xs r,y,h=>by
  cases y<;>simp only[jg] at h<;>first|(cases h;done)|skip
  simp only[Bool.and_eq_true] at h
  rw[Nat.eq_of_beq_eq_true h.1.1,Nat.eq_of_beq_eq_true h.1.2,qi xs _ h.2]
 |.ref xs,y,h=>by cases y<;>simp only[jg] at h<;>first|(cases h;done)|rw[qi xs _ h]
 |.agg xs,y,h=>by cases y<;>simp only[jg] at h<;>first|(cases h;done)|rw[qi xs _ h]
 |.tuple xs,y,h=>by cases y<;>simp only[jg] at h<;>first|(cases h;done)|rw[qi xs _ h]
 |.any,_,h=>by simp[jg] at h
 |.au _ _,_,h=>by simp[jg] at h
 |.aV ..,_,h=>by simp[jg] at h
 |.func ..,_,h=>by simp[jg] at h
 |.ghost ..,_,h=>by simp[jg] at h
 |.bQ _,_,h=>by simp[jg] at h
theorem qi:∀(xs ys:List AV),afo xs ys=true→xs=ys
 |[],[],_=>rfl
 |x::xs,y::ys,h=>by
  simp only[afo,Bool.and_eq_true] at h
  rw[IT x y h.1,qi xs ys h.2]
 |[],_::_,h=>by simp[afo] at h
 |_::_,[],h=>by simp[afo] at h
end
section
variable {R:Type} (col:Bool) (call:Nat→FuncId→List AV→Option AV) (gB:R→R→R) (fail:R)
def CH(e:ES)(x z:ai):Bool:=match (bD e none z some:Option AV),(bD e none x some:Option AV) with
 |some (.au b' _),some (.au b _)=> !(Nat.beq b' b)&&(e.loc.get b').isSome&&(e.loc.get b).isSome
 |some (.ref _),some (.au _ _)=>true
 |_,_=>false
def CI(e:ES)(sz:Nat)(xs:List AV):List (Nat×ai)→(List AV→R)→R
 |[],k=>k xs
 |(i,x)::ps,k=>bD e fail x fun x=>bif Nat.beq x.cells.length sz&&x.cells.all AV.bK&&Nat.blt i xs.length then eK x fun x=>fL (xs.set i x) fun xs=>CI e sz xs ps k else fail
def CJ(e:ES)(d:Nat)(x:AV)(k:ES→R):R:=match x with
 |.slice sz xs r=>bif Nat.beq r 0 then dm e fail d (.slice sz xs 0) k else lC e r fun e=>lC e (d+1) fun e=>dm e fail d (.slice sz xs (d+1)) k
 |x=>dm e fail d x k
def IU(e:ES)(b off n aO:Nat)(cs:List AV)(y:AV)(k:ES→R):R:=
 bif Nat.ble (off+n) cs.length&&Nat.beq y.cells.length n&&y.cells.all AV.bK then match y with
  |.slice sz xs r=>bif Nat.beq r 0||Nat.beq aO 0 then fL (splice cs off [.slice sz xs 0]) fun cs=>ni e fail b (some cs) k else lC e r fun e=>lC e aO fun e=>fL ((cs.map (fun x=>aC aO (aC r x))).set off (.slice sz xs aO)) fun cs=>ni e fail b (some cs) k
  |y=>fL (splice cs off (y.cells.map AV.erase0)) fun cs=>ni e fail b (some cs) k
 else fail
def CK(e:ES)(d:Option Nat)(k:ES→R):R:=match d with
 |some d=>dm e fail d (.tuple []) k
 |none=>k e
def ag7:Option Nat→AV→Bool
 |none,.lit (.int _ _)=>true
 |some n,.agg xs=>Nat.beq xs.length n
 |_,_=>false
def IV(d:Nat)(x:ai)(e:ES)(k:ES→R):R:=bD e fail x fun x=>CJ fail e d x k
def IW(d:Nat)(sz:Nat)(e:ES)(k:ES→R):R:=lC e (d+1) fun e=>dm e fail d (.slice sz [] (d+1)) k
def IX(d:Nat)(x:ai)(n:Nat)(e:ES)(k:ES→R):R:=bD e fail x fun x=>bif Nat.beq x.cells.length n then fL (x.cells.map AV.erase0) fun cs=>uR e fail cs fun b e=>dm e fail d (.au b 0) k else fail
def IY(d:Nat)(z:List AV)(e:ES)(k:ES→R):R:=bif bq 0 z then uR e fail z fun b e=>dm e fail d (.au b 0) k else fail
def IZ(x:ai)(y:ai)(n:Nat)(aO:Nat)(e:ES)(k:ES→R):R:=bD e fail x fun x=>bD e fail y fun y=>match x with
 |.au b off=>match e.loc.get b with
  |some cs=>IU fail e b off n aO cs y k
  |none=>fail
 |_=>fail
def I0(x:ai)(sz:Nat)(aO:Nat)(e:ES)(k:ES→R):R:=bD e fail x fun x=>match x with
 |.au b off=>match e.loc.get b with
  |some cs=>bif Nat.blt off cs.length then lC e aO fun e=>fL ((cs.map (aC aO)).set off (.slice sz [] aO)) fun cs=>ni e fail b (some cs) k else fail
  |none=>fail
 |_=>fail
def I1(q:Nat)(y:ai)(n:Nat)(e:ES)(k:ES→R):R:=bD e fail (.t q) fun x=>bD e fail y fun y=>match x with
 |.au b 0=>match e.loc.get b with
  |some cs=>bif Nat.beq cs.length n&&Nat.beq y.cells.length n&&y.cells.all AV.bK then ni e fail b none fun e=>fL (y.cells.map AV.erase0) fun cs=>dm e fail q (.ref cs) k else fail
  |none=>fail
 |_=>fail
def I2(d:Nat)(n:Nat)(sz:Nat)(z:List AV)(ps:List (Nat×ai))(e:ES)(k:ES→R):R:=bif bq 0 z then fL (List.replicate n (if sz=1 then z.getD 0 .any else .agg z)) fun xs=>CI fail e sz xs ps fun xs=>lC e (d+1) fun e=>dm e fail d (.slice sz xs (d+1)) k else fail
def I3(d:Nat)(x:ai)(y:ai)(sz:Nat)(bytes:Nat)(e:ES)(k:ES→R):R:=bD e fail x fun x=>bD e fail y fun y=>match x,y with
 |.slice mS xs r,.slice mT ys _=>bif !(Nat.beq r 0)&&Nat.beq mS sz&&(Nat.beq mT sz||ys.isEmpty)&&Nat.ble ((xs.length+ys.length)*bytes) 140737488355328&&Nat.ble (xs.length+ys.length) 140737488355328 then lC e r fun e=>lC e (d+1) fun e=>fL (xs++ys) fun zs=>dm e fail d (.slice sz zs (d+1)) k else fail
 |_,_=>fail
def I4(d:Nat)(f:FuncId)(xs:List ai)(e:ES)(k:ES→R):R:=qf e fail xs fun xs=>match call e.nx f xs with
 |some r=>bif below e.nx r then eK r fun r=>dm e fail d r k else fail
 |none=>fail
def I5(d:Nat)(x:ai)(xs:List ai)(e:ES)(k:ES→R):R:=bD e fail x fun x=>qf e fail xs fun xs=>match x with
 |.func (.func f) first cap=>match call e.nx f (first++xs++cap) with
  |some r=>bif below e.nx r then eK r fun r=>dm e fail d r k else fail
  |none=>fail
 |_=>fail
def I6(d:Nat)(x:ai)(xs:List ai)(e:ES)(k:ES→R):R:=bD e fail x fun x=>qf e fail xs fun xs=>match x,e.gh with
 |.func (.yield l) [] [],.ghost l' (y::rest) false=>bif Nat.beq l l'&&bq 0 xs&&afo xs y then gB (dm ⟨e.env,e.loc,e.obj,.ghost l rest false,e.nx⟩ fail d (.lit (.bool true)) k) (dm ⟨e.env,e.loc,e.obj,.ghost l rest true,e.nx⟩ fail d (.lit (.bool false)) k) else fail
 |.func (.yield _) [] [],.ghost l' acc true=>bif col then dm ⟨e.env,e.loc,e.obj,.ghost l' (acc++[xs]) true,e.nx⟩ fail d (.lit (.bool true)) k else fail
 |_,_=>fail
def I7(d:Nat)(n:ai)(c:ai)(sz:Nat)(bytes:Nat)(z:List AV)(e:ES)(k:ES→R):R:=bD e fail n fun n=>bD e fail c fun c=>match n,c with
 |.lit (.int .i64 (.ofNat n)),.lit (.int .i64 (.ofNat c))=>bif bq 0 z&&Nat.ble n c&&Nat.ble (c*bytes) 140737488355328&&Nat.ble c 140737488355328&&Nat.ble (c*sz) 140737488355328 then fL (List.replicate c z).flatten fun cs=>uR e fail cs fun b e=>dm e fail d (.aV b 0 n c sz) k else fail
 |_,_=>fail
def I8(d:Nat)(x:ai)(y:ai)(sz:Nat)(e:ES)(k:ES→R):R:=bD e fail x fun x=>bD e fail y fun y=>match x,y with
 |.aV b off len _ sz',.slice cK ys _=>match e.loc.get b with
  |some cs=>bif Nat.beq sz' sz&&(Nat.beq cK sz||ys.isEmpty)&&Nat.ble (off+len*sz) cs.length then fL (splice cs off (((ys.take (min ys.length len)).flatMap AV.cells).map AV.erase0)) fun cs=>ni e fail b (some cs) fun e=>fN (min ys.length len) fun n=>dm e fail d (.lit (.int .i64 n)) k else fail
  |none=>fail
 |_,_=>fail
def I9(d:Nat)(x:ai)(e:ES)(k:ES→R):R:=bD e fail x fun x=>match x with
 |.lit (.string u)=>CF e fail (ae4 u 0) fun b e=>dm e fail d (.au b 0) k
 |_=>fail
def I_(d:Nat)(x:ai)(e:ES)(k:ES→R):R:=bD e fail x fun x=>match x with
 |.au b 0=>match e.obj.get b with
  |some (.ghost pos [[.lit (.string u)]] true)=>bif Nat.blt pos u.size then
    fN (pos+(Utf8.decode u pos).2) fun pos'=>fN (Utf8.decode u pos).1 fun c=>ag6 e fail b (ae4 u pos') fun e=>dm e fail d (.tuple [.lit (.bool true),.lit (.int .i64 pos),.lit (.int .i32 c)]) k
    else dm e fail d (.tuple [.lit (.bool false)]) k
  |_=>fail
 |_=>fail
def Ja(d:Nat)(e:ES)(k:ES→R):R:=CF e fail (bI []) fun b e=>dm e fail d (.bQ b) k
def Jb(x:ai)(q:ai)(v:ai)(n:Option Nat)(e:ES)(k:ES→R):R:=bD e fail x fun x=>bD e fail q fun q=>bD e fail v fun v=>match x with
 |.bQ b=>match e.obj.get b with
  |some (.ghost 0 es false)=>eK q fun q=>eK v fun v=>bif ag7 n q&&below 0 q&&below 0 v then (match aen q es 0 with
   |some (some i)=>ag6 e fail b (bI (es.set i [q,v])) k
   |some none=>ag6 e fail b (bI (es++[[q,v]])) k
   |none=>fail) else fail
  |_=>fail
 |_=>fail
def Jc(d:Nat)(x:ai)(q:ai)(n:Option Nat)(ok:Bool)(zero:AV)(e:ES)(k:ES→R):R:=bD e fail x fun x=>bD e fail q fun q=>match x with
 |.bQ b=>match e.obj.get b with
  |some (.ghost 0 es false)=>eK q fun q=>bif ag7 n q&&below 0 q&&below 0 zero then (match aen q es 0 with
   |some (some i)=>fA ((es.getD i []).getD 1 .any) fun u=>bif below 0 u then eK u fun u'=>dm e fail d (if ok then .tuple [u,.lit (.bool true)] else u') k else fail
   |some none=>eK zero fun u'=>dm e fail d (if ok then .tuple [zero,.lit (.bool false)] else u') k
   |none=>fail) else fail
  |_=>fail
 |_=>fail
def Jd(q:Nat)(e:ES)(k:ES→R):R:=bD e fail (.t q) fun x=>match x with
 |.aV b 0 len _ sz=>match e.loc.get b with
  |some cs=>bif Nat.ble (len*sz) cs.length&&cs.all AV.bK&&Nat.ble len 140737488355328 then ni e fail b none fun e=>fL (chunk sz cs len) fun xs=>dm e fail q (.slice sz xs 0) k else fail
  |none=>fail
 |_=>fail
def eD:MOp→ES→(ES→R)→R
 |.ag d x,e,k=>IV fail d x e k
 |.bx d sz,e,k=>IW fail d sz e k
 |.kO d x n,e,k=>IX fail d x n e k
 |.alloc d z,e,k=>IY fail d z e k
 |.store x y n aO,e,k=>IZ fail x y n aO e k
 |.jV x sz aO,e,k=>I0 fail x sz aO e k
 |.bp q y n,e,k=>I1 fail q y n e k
 |.aM d n sz z ps,e,k=>I2 fail d n sz z ps e k
 |.app d x y sz bytes,e,k=>I3 fail d x y sz bytes e k
 |.call d f xs,e,k=>I4 call fail d f xs e k
 |.gJ d x xs,e,k=>I5 call fail d x xs e k
 |.apart zs x m,e,k=>bif zs.all (CH e x) then eD m e k else fail
 |.guard g want d m,e,k=>bD e fail (.t g) fun v=>match v with
  |.lit (.bool b)=>bif b==want then eD m e k else CK fail e d k
  |.tuple []=>CK fail e d k
  |_=>fail
 |.iY d x xs,e,k=>I6 col gB fail d x xs e k
 |.mkM d n c sz bytes z,e,k=>I7 fail d n c sz bytes z e k
 |.afC d x y sz,e,k=>I8 fail d x y sz e k
 |.jo d x,e,k=>I9 fail d x e k
 |.jq d x,e,k=>I_ fail d x e k
 |.mkMap d,e,k=>Ja fail d e k
 |.lY x q v n,e,k=>Jb fail x q v n e k
 |.lookup d x q n ok zero,e,k=>Jc fail d x q n ok zero e k
 |.bG q,e,k=>Jd fail q e k
 |m,e,k=>aep e fail m fun d v=>fA v fun v=>dm e fail d v k
end
end Go.aq
namespace Go.aq
section
variable {R:Type} {P:Program} {call:Nat→FuncId→List AV→Option AV} {gB:R→R→R} {fail t:R}
def x8(P:Program)(call:Nat→FuncId→List AV→Option AV):Prop:=∀n f xs r,call n f xs=some r→bq n xs=true→below n r=true→∀ρ,aed P f (xs.map (ak ρ)) (ak ρ r)
theorem nk{e:ES}{ρ:Nat→Nat}{s:St}{d:Nat}{x:AV}{k:ES→R}(h:dm e fail d x k=t)(ht:t≠fail)(hr:Rel ρ e s)(hx:below e.nx x=true):Nx ρ e k t (s.set d (ak ρ x)):=by
 obtain⟨e',g1,g2,g3⟩:=jf h ht hr hx
 exact⟨ρ,e',g1,by omega,fun _ _=>rfl,g3⟩
theorem Wx{e:ES}{ρ:Nat→Nat}{s:St}{d:Nat}{x:AV}{k:ES→R}(h:CJ fail e d x k=t)(ht:t≠fail)(hr:Rel ρ e s)(hx:below e.nx x=true):Nx ρ e k t (fh s d (ak ρ x)):=by
 unfold CJ at h
 split at h
 ·rename_i sz xs r
  simp only[ak,fh]
  cases hb:Nat.beq r 0 with
  |true=>
   rw[hb] at h
   rw[if_pos (Nat.eq_of_beq_eq_true hb)]
   have:=nk (x:=.slice sz xs 0) h ht hr (by simpa only[below] using hx)
   simpa only[ak] using this
  |false=>
   rw[hb,cond_false] at h
   rw[if_neg (fun e0=>by rw[e0] at hb;cases hb)]
   obtain⟨e1,a1,a2,a3,a4,a5,_⟩:=nj h hr
   obtain⟨e2,b1,b2,b3,b4,b5,_⟩:=nj a5 a1
   obtain⟨e3,c1,c2,c3⟩:=jf (x:=.slice sz xs (d+1)) b5 ht b1 (by rw[b2,a2];simpa only[below] using hx)
   exact⟨ρ,e3,by simpa only[ak] using c1,by omega,fun _ _=>rfl,c3⟩
 ·have:fh s d (ak ρ x)=s.set d (ak ρ x):=by
   rename_i hne
   cases x<;>first|rfl|exact absurd rfl (hne _ _ _)
  rw[this];exact nk h ht hr hx
theorem CL{e:ES}{ρ:Nat→Nat}{s:St}{d:Nat}{cs:List AV}{x:Nat→AV}{k:ES→R}(h:uR e fail cs (fun b e=>dm e fail d (x b) k)=t)(ht:t≠fail)(hr:Rel ρ e s)(hc:bq e.nx cs=true)(hx:below (e.nx+1) (x e.nx)=true){B:Nat}(hB:s.loc B=none):Nx ρ e k t ((s.new B (cs.map (ak ρ))).set d (ak (aD ρ e.nx B) (x e.nx))):=by
 obtain⟨e1,a1,a2,a3,a4⟩:=Ww h ht hr hc hB
 obtain⟨e2,b1,b2,b3⟩:=jf a4 ht a1 (by rw[a2];exact hx)
 exact⟨_,e2,b1,by omega,rT,b3⟩
theorem Je{xs:List AV}{ρ:Nat→Nat}{sz sz':Nat}(h:(Nat.beq sz' sz||xs.isEmpty)=true):sz'=sz∨xs.map (ak ρ)=[]:=by
 rcases Bool.or_eq_true _ _▸h with h|h
 ·exact .inl (Nat.eq_of_beq_eq_true h)
 ·exact .inr (by rw[List.isEmpty_iff.1 h];rfl)
theorem Jf(ht:t≠fail){e:ES}{ρ:Nat→Nat}{s:St}(hr:Rel ρ e s){sz:Nat}:∀{ps:List (Nat×ai)} {xs:List AV} {k:List AV→R},CI fail e sz xs ps k=t→bq e.nx xs=true→∃v,bq e.nx v=true∧k v=t∧∀K:List AV→Prop,K (v.map (ak ρ))→gL s.env sz (xs.map (ak ρ)) ps K
 |[],xs,k,h,hb=>⟨xs,hb,h,fun K hK=>hK⟩
 |(i,x)::ps,xs,k,h,hb=>by
  obtain⟨x',h1,h2,h3⟩:=bB h ht hr
  obtain⟨h4,h5⟩:=cr h3 ht
  simp only[Bool.and_eq_true] at h4
  rw[aeV,eT] at h5
  obtain⟨v,g1,g2,g3⟩:=Jf ht hr h5 (ag2 i hb (afb h2))
  refine⟨v,g1,g2,fun K hK=>⟨by rw[h1,lA,iK];exact Nat.eq_of_beq_eq_true h4.1.1,by rw[h1,lA,xW];exact h4.1.2,by rw[iK];exact Nat.lt_of_succ_le (by simpa[Nat.blt] using h4.2),?_⟩⟩
  rw[h1,g_,←List.map_set]
  exact g3 K hK
theorem Jg{n:Option Nat}{x:AV}(h:ag7 n x=true):jr n x:=by
 unfold ag7 at h
 split at h
 ·trivial
 ·exact Nat.eq_of_beq_eq_true h
 ·cases h
theorem Wy{e:ES}{ρ:Nat→Nat}{s:St}(hr:Rel ρ e s){x z:ai}(h:CH e x z=true):n_ (z.ev s.env) (x.ev s.env):=by
 unfold CH at h
 split at h
 ·rename_i b' o' b o h1 h2
  obtain⟨x1,a1,a2,a3⟩:=bB h1 (by simp) hr
  obtain⟨x2,b1,b2,b3⟩:=bB h2 (by simp) hr
  injection a3 with a3;injection b3 with b3
  subst a3 b3
  rw[a1,b1]
  simp only[ak,n_]
  simp only[Bool.and_eq_true,Bool.not_eq_true',Option.isSome_iff_ne_none] at h
  intro hh
  have:=hr.lB b' b h.1.2 h.2 hh
  subst this
  have h0:=h.1.1
  simp at h0
 ·rename_i h1 h2
  obtain⟨x1,a1,a2,a3⟩:=bB h1 (by simp) hr
  obtain⟨x2,b1,b2,b3⟩:=bB h2 (by simp) hr
  injection a3 with a3;injection b3 with b3
  subst a3 b3
  rw[a1,b1]
  simp only[ak,n_]
 ·cases h
theorem Wz{e:ES}{ρ:Nat→Nat}{s:St}{b off n aO:Nat}{cs:List AV}{y:AV}{k:ES→R}(h:IU fail e b off n aO cs y k=t)(ht:t≠fail)(hr:Rel ρ e s)(hb:e.loc.get b=some cs)(hy:below e.nx y=true):ae7 s (.au (ρ b) off) (ak ρ y) n aO (Nx ρ e k t):=by
 obtain⟨l1,l2,l3⟩:=hr.loc b cs hb
 obtain⟨h1,h2⟩:=cr h ht
 simp only[Bool.and_eq_true,Nat.ble_eq] at h1
 simp only[ae7,l2,iK,lA,xW]
 refine⟨h1.1.1,Nat.eq_of_beq_eq_true h1.1.2,h1.2,?_⟩
 have plain:∀zs:List AV,bq e.nx zs=true→ni e fail b (some (splice cs off zs)) k=t→Nx ρ e k t (s.new (ρ b) (splice (cs.map (ak ρ)) off (zs.map (ak ρ)))):=by
  intro zs hz hl
  obtain⟨e1,a1,a2,a3,a4,_⟩:=rU hl ht hr hb (fun x hx=>by injection hx with hx;subst hx;exact ag3 _ _ _ l3 hz)
  rw[xV]
  exact⟨ρ,e1,a1,by omega,fun _ _=>rfl,a4⟩
 split at h2
 ·rename_i sz xs r
  simp only[ak,cH]
  cases hc:(Nat.beq r 0||Nat.beq aO 0) with
  |true=>
   rw[hc] at h2
   rw[if_pos (by rcases Bool.or_eq_true _ _▸hc with q|q;exact .inl (Nat.eq_of_beq_eq_true q);exact .inr (Nat.eq_of_beq_eq_true q))]
   rw[cond_true,eT] at h2
   have:=plain [.slice sz xs 0] (by simp only[bq,Bool.and_true];simpa only[below] using hy) h2
   simpa only[List.map_cons,List.map_nil,ak,cH] using this
  |false=>
   rw[hc] at h2
   rw[if_neg (by
    rintro(q|q)
    ·rw[q] at hc;simp at hc
    ·rw[q] at hc;simp at hc)]
   rw[cond_false] at h2
   obtain⟨e1,a1,a2,a3,a4,a5,a6⟩:=nj h2 hr
   obtain⟨e2,b1,b2,b3,b4,b5,b6⟩:=nj a5 a1
   rw[eT] at b5
   have hcs:bq e2.nx ((cs.map (fun x=>aC aO (aC r x))).set off (.slice sz xs aO))=true:=by
    rw[b2,a2]
    refine ag2 off ?_ (by simpa only[below] using hy)
    have:=xY aO (xY r l3)
    rwa [List.map_map] at this
   obtain⟨e3,c1,c2,c3,c4,_⟩:=rU b5 ht b1 (b6 b _ (a6 b _ hb)) (fun x hx=>by injection hx with hx;subst hx;exact hcs)
   refine⟨ρ,e3,?_,by omega,fun _ _=>rfl,c4⟩
   have e4:((cs.map (ak ρ)).map (fun x=>aC aO (aC r x))).set off (.slice sz (xs.map (ak ρ)) aO)=((cs.map (fun x=>aC aO (aC r x))).set off (.slice sz xs aO)).map (ak ρ):=by
    rw[List.map_set,List.map_map,List.map_map]
    simp only[ak,cH]
    congr 1
    exact List.map_congr_left fun x _=>by simp only[Function.comp_apply,uJ]
   rw[e4];exact c1
 ·have hne:∀sz xs r,ak ρ y≠.slice sz xs r:=by
   rename_i hne
   intro sz xs r hh
   cases y<;>simp only[ak] at hh<;>first|(cases hh;done)|exact hne _ _ _ rfl
  rw[eT] at h2
  have:=plain _ (nh (qb hy)) h2
  rw[←oz] at this
  generalize hq:ak ρ y=y' at hne
  cases y'<;>first|exact absurd rfl (hne _ _ _)|(rw[←lA,hq] at this;exact this)
end
end Go.aq
namespace Go.aq
section
variable {R:Type} {P:Program} {call:Nat→FuncId→List AV→Option AV} {gB:R→R→R} {fail t:R}
theorem WA{a b:Nat}(h:Nat.blt a b=true):a<b:=Nat.lt_of_succ_le (by simpa[Nat.blt] using h)
theorem WB{a b:Nat}(h:Nat.blt a b=false):¬a<b:=fun hlt=>by
 have:Nat.blt a b=true:=by rw[Nat.blt,Nat.ble_eq];exact hlt
 rw[h] at this;cases this
theorem WC(rV:x8 P call)(rW:∀a b,gB a b=t→a=t∧b=t)(ht:t≠fail):∀(m:MOp) (e:ES) (k:ES→R) (s:St) (ρ:Nat→Nat),eD false call gB fail m e k=t→Rel ρ e s→vc1 P m s (Nx ρ e k t):=by
 have Jh:∀{e:ES} {ρ:Nat→Nat} {s:St} {d:Nat} {f:FuncId} {xs:List AV} {k:ES→R},Rel ρ e s→bq e.nx xs=true→(match call e.nx f xs with|some r=>bif below e.nx r then eK r fun r=>dm e fail d r k else fail|none=>fail)=t→∃r,aed P f (xs.map (ak ρ)) r∧Nx ρ e k t (s.set d r.erase):=by
  intro e ρ s d f xs k hr hx h
  split at h
  ·rename_i r hc
   obtain⟨g2,h⟩:=cr h ht
   have g1:=rV _ _ _ _ hc hx g2 ρ
   rw[aeV] at h
   refine⟨_,g1,?_⟩
   rw[g_]
   exact nk h ht hr (afb g2)
  ·exact absurd h.symm ht
 have pure:∀{m:MOp} {e:ES} {k:ES→R} {s:St} {ρ:Nat→Nat},aep e fail m (fun d v=>fA v fun v=>dm e fail d v k)=t→Rel ρ e s→vc1 P m s (Nx ρ e k t):=by
  intro m e k s ρ h hr
  obtain⟨d,v,h1,h2,h3⟩:=Wu P h ht hr
  rw[ag4] at h2
  exact h3 _ (nk h2 ht hr h1)
 intro m
 induction m with
 |ag d x=>
  intro e k s ρ h hr
  dsimp only[eD,IV] at h
  obtain⟨x,h1,h2,h3⟩:=bB h ht hr
  simp only[vc1,h1]
  exact Wx h3 ht hr h2
 |bx d sz=>
  intro e k s ρ h hr
  dsimp only[eD,IW] at h
  obtain⟨e1,a1,a2,a3,a4,a5,_⟩:=nj h hr
  obtain⟨e2,b1,b2,b3⟩:=jf (x:=.slice sz [] (d+1)) a5 ht a1 rfl
  exact⟨ρ,e2,by simpa only[ak,eJ] using b1,by omega,fun _ _=>rfl,b3⟩
 |kO d x n=>
  intro e k s ρ h hr
  dsimp only[eD,IX] at h
  obtain⟨x,h1,h2,h3⟩:=bB h ht hr
  obtain⟨h4,h5⟩:=cr h3 ht
  rw[eT] at h5
  simp only[vc1,h1,lA,iK,oz]
  refine⟨Nat.eq_of_beq_eq_true h4,fun B hB=> ?_⟩
  have:=CL (x:=fun b=>.au b 0) h5 ht hr (nh (qb h2)) (by simp[below,Nat.blt]) hB
  simpa only[ak,dP] using this
 |alloc d z=>
  intro e k s ρ h hr
  dsimp only[eD,IY] at h
  obtain⟨h4,h5⟩:=cr h ht
  simp only[vc1]
  intro B hB
  have hz:z.map (ak ρ)=z:=by
   have:=List.map_congr_left (f:=ak ρ) (g:=id) (l:=z) fun x hx=>afa (aeQ.1 h4 x hx)
   rw[this,List.map_id]
  have:=CL (x:=fun b=>.au b 0) h5 ht hr (je (Nat.zero_le _) _ h4) (by simp[below,Nat.blt]) hB
  simpa only[ak,dP,hz] using this
 |store x y n aO=>
  intro e k s ρ h hr
  dsimp only[eD,IZ] at h
  obtain⟨x,h1,h2,h3⟩:=bB h ht hr
  obtain⟨y,h4,h5,h6⟩:=bB h3 ht hr
  simp only[vc1,h1,h4]
  split at h6
  ·split at h6
   ·rename_i cs hcs
    have:=Wz h6 ht hr hcs h5
    simpa only[ak] using this
   ·exact absurd h6.symm ht
  ·exact absurd h6.symm ht
 |jV x sz aO=>
  intro e k s ρ h hr
  dsimp only[eD,I0] at h
  obtain⟨x,h1,h2,h3⟩:=bB h ht hr
  split at h3
  ·rename_i b off
   split at h3
   ·rename_i cs hcs
    obtain⟨l1,l2,l3⟩:=hr.loc b cs hcs
    obtain⟨c1,c2⟩:=cr h3 ht
    simp only[vc1,h1,ak,l2,iK]
    refine⟨Nat.lt_of_succ_le (by simpa[Nat.blt] using c1),?_⟩
    obtain⟨e1,a1,a2,a3,a4,a5,a6⟩:=nj c2 hr
    rw[eT] at a5
    have hb:bq e1.nx ((cs.map (aC aO)).set off (.slice sz [] aO))=true:=by rw[a2];exact ag2 off (xY aO l3) rfl
    obtain⟨e3,c1,c2,c3,c4,_⟩:=rU a5 ht a1 (a6 b _ hcs) (fun x hx=>by injection hx with hx;subst hx;exact hb)
    refine⟨ρ,e3,?_,by omega,fun _ _=>rfl,c4⟩
    have e4:((cs.map (ak ρ)).map (aC aO)).set off (.slice sz [] aO)=((cs.map (aC aO)).set off (.slice sz [] aO)).map (ak ρ):=by
     rw[List.map_set,List.map_map,List.map_map]
     simp only[ak,eJ]
     congr 1
     exact List.map_congr_left fun x _=>by simp only[Function.comp_apply,uJ]
    rw[e4];exact c1
   ·exact absurd h3.symm ht
  ·exact absurd h3.symm ht
 |bp q y n=>
  intro e k s ρ h hr
  dsimp only[eD,I1] at h
  obtain⟨x,h1,h2,h3⟩:=bB h ht hr
  obtain⟨y,h4,h5,h6⟩:=bB h3 ht hr
  split at h6
  ·rename_i b
   split at h6
   ·rename_i cs hcs
    obtain⟨l1,l2,l3⟩:=hr.loc b cs hcs
    obtain⟨c1,c2⟩:=cr h6 ht
    simp only[Bool.and_eq_true] at c1
    obtain⟨e1,a1,a2,a3,a4,_⟩:=rU c2 ht hr hcs (fun x hx=>by cases hx)
    rw[eT] at a4
    obtain⟨e2,b1,b2,b3⟩:=jf (x:=.ref (y.cells.map AV.erase0)) a4 ht a1 (by rw[a2];simp only[below];exact nh (qb h5))
    simp only[ak] at h1
    replace h1:s.env q=.au (ρ b) 0:=h1
    simp only[vc1,h1,l2,h4,iK,lA,xW,oz]
    refine⟨Nat.eq_of_beq_eq_true c1.1.1,Nat.eq_of_beq_eq_true c1.1.2,c1.2,ρ,e2,?_,by omega,fun _ _=>rfl,b3⟩
    simp only[ak,cH] at b1
    exact b1
   ·exact absurd h6.symm ht
  ·exact absurd h6.symm ht
 |aM d n sz z ps=>
  intro e k s ρ h hr
  dsimp only[eD,I2] at h
  obtain⟨h4,h5⟩:=cr h ht
  rw[eT] at h5
  have hz:ak ρ (if sz=1 then z.getD 0 .any else .agg z)=(if sz=1 then z.getD 0 .any else .agg z):=by
   refine afa ?_
   split
   ·exact qc 0 h4
   ·exact h4
  have hb0:bq e.nx (List.replicate n (if sz=1 then z.getD 0 .any else .agg z))=true:=by
   refine VT n (jF (Nat.zero_le _) _ ?_)
   split
   ·exact qc 0 h4
   ·exact h4
  obtain⟨v,g1,g2,g3⟩:=Jf ht hr h5 hb0
  rw[List.map_replicate,hz] at g3
  simp only[vc1]
  refine g3 (fun xs=>Nx ρ e k t ((s.aT (d+1)).set d (.slice sz xs (d+1)))) ?_
  obtain⟨e1,a1,a2,a3,a4,a5,_⟩:=nj g2 hr
  obtain⟨e2,b1,b2,b3⟩:=jf (x:=.slice sz v (d+1)) a5 ht a1 (by rw[a2];exact g1)
  exact⟨ρ,e2,by simpa only[ak,cH] using b1,by omega,fun _ _=>rfl,b3⟩
 |app d x y sz bytes=>
  intro e k s ρ h hr
  dsimp only[eD,I3] at h
  obtain⟨x,h1,h2,h3⟩:=bB h ht hr
  obtain⟨y,h4,h5,h6⟩:=bB h3 ht hr
  split at h6
  ·rename_i mS xs r mT ys r2
   obtain⟨c1,c2⟩:=cr h6 ht
   simp only[Bool.and_eq_true,Bool.not_eq_true',Nat.ble_eq] at c1
   simp only[vc1,h1,h4,ak,cH,iK]
   refine⟨fun e0=> ?_,Nat.eq_of_beq_eq_true c1.1.1.1.2,Je c1.1.1.2,c1.1.2,c1.2,?_⟩
   ·have:=c1.1.1.1.1;rw[e0] at this;cases this
   ·obtain⟨e1,a1,a2,a3,a4,a5,_⟩:=nj c2 hr
    obtain⟨e2,b1,b2,b3,b4,b5,_⟩:=nj a5 a1
    rw[eT] at b5
    obtain⟨e3,c1,c2,c3⟩:=jf (x:=.slice sz (xs++ys) (d+1)) b5 ht b1 (by rw[b2,a2];simp only[below] at h2 h5⊢;exact uM h2 h5)
    exact⟨ρ,e3,by simpa only[ak,cH,List.map_append] using c1,by omega,fun _ _=>rfl,c3⟩
  ·exact absurd h6.symm ht
 |call d f xs=>
  intro e k s ρ h hr
  dsimp only[eD,I4] at h
  obtain⟨xs,h1,h2,h3⟩:=rS ht hr h
  simp only[vc1,h1]
  exact Jh hr h2 h3
 |gJ d x xs=>
  intro e k s ρ h hr
  dsimp only[eD,I5] at h
  obtain⟨x,h1,h2,h3⟩:=bB h ht hr
  obtain⟨ys,h4,h5,h6⟩:=rS ht hr h3
  split at h6
  ·rename_i f first cap
   simp only[below,Bool.and_eq_true] at h2
   simp only[vc1,h1,ak,afJ,cH,h4]
   obtain⟨r,g1,g2⟩:=Jh hr (uM (uM h2.1.2 h5) h2.2) h6
   exact⟨r,by simpa only[List.map_append] using g1,g2⟩
  ·exact absurd h6.symm ht
 |apart zs x m ih=>
  intro e k s ρ h hr
  obtain⟨h1,h2⟩:=cr h ht
  exact⟨fun z hz=>Wy hr ((List.all_eq_true.1 h1) z hz),ih e k s ρ h2 hr⟩
 |guard g want d m ih=>
  intro e k s ρ h hr
  obtain⟨v,h1,h2,h3⟩:=bB h ht hr
  replace h1:s.env g=ak ρ v:=h1
  split at h3
  ·rename_i b
   replace h3:(bif b==want then eD false call gB fail m e k else CK fail e d k)=t:=h3
   simp only[vc1,h1,ak]
   by_cases hb:b=want
   ·subst hb
    rw[beq_self_eq_true,cond_true] at h3
    exact⟨fun _=>ih e k s ρ h3 hr,fun hh=>by cases b<;>cases hh⟩
   ·have:(b==want)=false:=by simpa using hb
    rw[this,cond_false] at h3
    exact⟨fun hh=>absurd hh hb,fun _=>by
     cases d with
     |none=>exact .of hr h3
     |some d=>have:=nk (x:=.tuple []) h3 ht hr rfl;simpa only[ak,eJ] using this⟩
  ·simp only[vc1,h1,ak,eJ]
   cases d with
   |none=>exact .of hr h3
   |some d=>have:=nk (x:=.tuple []) h3 ht hr rfl;simpa only[ak,eJ] using this
  ·exact absurd h3.symm ht
 |iY d x xs=>
  intro e k s ρ h hr
  dsimp only[eD,I6] at h
  obtain⟨x,h1,h2,h3⟩:=bB h ht hr
  obtain⟨ys,h4,h5,h6⟩:=rS ht hr h3
  split at h6
  ·rename_i l l' y rest hg
   obtain⟨c1,c2⟩:=cr h6 ht
   simp only[Bool.and_eq_true] at c1
   have k8:=hr.gh
   rw[hg] at k8
   have Ji:=hr.gb
   rw[hg] at Ji
   have x9:l=l':=Nat.eq_of_beq_eq_true c1.1.1
   subst x9
   simp only[ak] at k8
   obtain⟨d1,d2⟩:=rW _ _ c2
   have hys:ys.map (ak ρ)=ys:=by
    have:=List.map_congr_left (f:=ak ρ) (g:=id) (l:=ys) fun x hx=>afa (aeQ.1 c1.1.2 x hx)
    rw[this,List.map_id]
   simp only[vc1,h1,ak,afJ,eJ,k8,h4,hys]
   have WD:∀q:Bool,Rel ρ ⟨e.env,e.loc,e.obj,.ghost l rest q,e.nx⟩ (s.set gS (.ghost (ρ l) rest q)):=fun q=>
    ⟨fun j hj=>(bE _ _ (by omega)).trans (hr.env j hj),hr.jE,by rw[k7];simp only[ak],Ji,hr.loc,hr.lB,fun b x hb=>by
      obtain⟨o1,o2,o3⟩:=hr.obj b x hb
      exact⟨o1,(bE _ _ (Nat.ne_of_gt (uq _))).trans o2,o3⟩,hr.mj,hr.og,rfl⟩
   have go:∀q:Bool,dm ⟨e.env,e.loc,e.obj,.ghost l rest q,e.nx⟩ fail d (.lit (.bool (!q))) k=t→Nx ρ e k t ((s.set gS (.ghost (ρ l) rest q)).set d (.lit (.bool (!q)))):=by
    intro q hq
    obtain⟨e2,b1,b2,b3⟩:=jf hq ht (WD q) rfl
    exact⟨ρ,e2,by simpa only[ak] using b1,by rw[b2];exact Nat.le_refl _,fun _ _=>rfl,b3⟩
   exact⟨trivial,qi _ _ c1.2,go false d1,go true d2⟩
  ·exact absurd h6.symm ht
  ·exact absurd h6.symm ht
 |mkM d n c sz bytes z=>
  intro e k s ρ h hr
  dsimp only[eD,I7] at h
  obtain⟨n,h1,h2,h3⟩:=bB h ht hr
  obtain⟨c,h4,h5,h6⟩:=bB h3 ht hr
  split at h6
  ·rename_i n c
   obtain⟨c1,c2⟩:=cr h6 ht
   simp only[Bool.and_eq_true,Nat.ble_eq] at c1
   rw[eT] at c2
   simp only[vc1,h1,h4,ak,Int.ofNat_eq_natCast,Int.toNat_natCast]
   have hz:(List.replicate c z).flatten.map (ak ρ)=(List.replicate c z).flatten:=by
    have:=List.map_congr_left (f:=ak ρ) (g:=id) (l:=(List.replicate c z).flatten) fun x hx=>afa (by
     obtain⟨l,hl,hx⟩:=List.mem_flatten.1 hx
     rw[(List.mem_replicate.1 hl).2] at hx
     exact aeQ.1 c1.1.1.1.1 x hx)
    rw[this,List.map_id]
   have WE:bq e.nx (List.replicate c z).flatten=true:=by
    rw[aeQ]
    intro x hx
    obtain⟨l,hl,hx⟩:=List.mem_flatten.1 hx
    rw[(List.mem_replicate.1 hl).2] at hx
    exact jF (Nat.zero_le _) _ (aeQ.1 c1.1.1.1.1 x hx)
   refine⟨by omega,by omega,by have:=c1.1.1.2;rw[←Int.natCast_mul];omega,by omega,by have:=c1.2;rw[←Int.natCast_mul];omega,fun B hB=> ?_⟩
   have:=CL (x:=fun b=>.aV b 0 n c sz) c2 ht hr WE (by simp[below,Nat.blt]) hB
   simpa only[ak,dP,hz] using this
  ·exact absurd h6.symm ht
 |afC d x y sz=>
  intro e k s ρ h hr
  dsimp only[eD,I8] at h
  obtain⟨x,h1,h2,h3⟩:=bB h ht hr
  obtain⟨y,h4,h5,h6⟩:=bB h3 ht hr
  split at h6
  ·rename_i b off len cap sz' cK ys r
   split at h6
   ·rename_i cs hcs
    obtain⟨l1,l2,l3⟩:=hr.loc b cs hcs
    obtain⟨c1,c2⟩:=cr h6 ht
    simp only[Bool.and_eq_true,Nat.ble_eq] at c1
    rw[eT] at c2
    simp only[vc1,h1,h4,ak,cH,l2,iK]
    refine⟨Nat.eq_of_beq_eq_true c1.1.1,Je c1.1.2,c1.2,?_⟩
    have hb:bq e.nx (splice cs off (((ys.take (min ys.length len)).flatMap AV.cells).map AV.erase0))=true:=ag3 _ _ _ l3 (nh (VS (xZ _ (by simpa only[below] using h5))))
    obtain⟨e3,d1,d2,d3,d4,_⟩:=rU c2 ht hr hcs (fun x hx=>by injection hx with hx;subst hx;exact hb)
    rw[oA] at d4
    obtain⟨e4,f1,f2,f3⟩:=jf d4 ht d1 rfl
    refine⟨ρ,e4,?_,by omega,fun _ _=>rfl,f3⟩
    rw[←List.map_take,VQ,oz,xV]
    simp only[ak] at f1
    exact f1
   ·exact absurd h6.symm ht
  ·exact absurd h6.symm ht
 |jo d x=>
  intro e k s ρ h hr
  dsimp only[eD,I9] at h
  obtain⟨x,h1,h2,h3⟩:=bB h ht hr
  split at h3
  ·simp only[vc1,h1,ak]
   intro B hB CM
   obtain⟨e1,a1,a2,a3,a4⟩:=IS h3 ht hr (by intro e;cases e) rfl CM
   obtain⟨e2,b1,b2,b3⟩:=jf (x:=.au e.nx 0) a4 ht a1 (by rw[a2];simp[below,Nat.blt])
   exact⟨_,e2,by simpa only[ak,dP] using b1,by omega,rT,b3⟩
  ·exact absurd h3.symm ht
 |jq d x=>
  intro e k s ρ h hr
  dsimp only[eD,I_] at h
  obtain⟨x,h1,h2,h3⟩:=bB h ht hr
  split at h3
  ·rename_i b
   split at h3
   ·rename_i pos u dR
    obtain⟨o1,o2,o3⟩:=hr.obj b _ dR
    simp only[vc1,h1,ak]
    refine⟨u,pos,o2,fun hp=> ?_,fun hp=> ?_⟩
    ·have hb:Nat.blt pos u.size=true:=by cases hq:Nat.blt pos u.size;exact absurd hp (WB hq);rfl
     rw[hb,cond_true,oA,oA] at h3
     obtain⟨e1,a1,a2,a3,a4⟩:=CG h3 ht hr dR (by intro e;cases e) rfl
     obtain⟨e2,b1,b2,b3⟩:=jf a4 ht a1 rfl
     exact⟨ρ,e2,by simpa only[ak,eJ] using b1,by omega,fun _ _=>rfl,b3⟩
    ·have hb:Nat.blt pos u.size=false:=by cases hq:Nat.blt pos u.size;rfl;exact absurd (WA hq) hp
     rw[hb,cond_false] at h3
     have:=nk (x:=.tuple [.lit (.bool false)]) h3 ht hr rfl
     simpa only[ak,eJ] using this
   ·exact absurd h3.symm ht
  ·exact absurd h3.symm ht
 |mkMap d=>
  intro e k s ρ h hr
  dsimp only[eD,Ja] at h
  simp only[vc1]
  intro B hB CM
  obtain⟨e1,a1,a2,a3,a4⟩:=IS h ht hr (by intro e;cases e) rfl CM
  obtain⟨e2,b1,b2,b3⟩:=jf (x:=.bQ e.nx) a4 ht a1 (by rw[a2];simp[below,Nat.blt])
  exact⟨_,e2,by simpa only[ak,dP] using b1,by omega,rT,b3⟩
 |lY x q v n=>
  intro e k s ρ h hr
  dsimp only[eD,Jb] at h
  obtain⟨x,h1,h2,h3⟩:=bB h ht hr
  obtain⟨q,h4,h5,h6⟩:=bB h3 ht hr
  obtain⟨v,h7,h8,h9⟩:=bB h6 ht hr
  split at h9
  ·rename_i b
   split at h9
   ·rename_i es dR
    obtain⟨o1,o2,o3⟩:=hr.obj b _ dR
    rw[aeV,aeV] at h9
    obtain⟨c1,c2⟩:=cr h9 ht
    simp only[Bool.and_eq_true] at c1
    simp only[vc1,h1,h4,h7,ak,g_,afa c1.1.2,afa c1.2]
    refine⟨es,o2,Jg c1.1.1,?_⟩
    split at c2
    ·rename_i i hka
     obtain⟨e1,a1,a2,a3,a4⟩:=CG c2 ht hr dR (by intro e;cases e) rfl
     rw[hka]
     exact⟨ρ,e1,a1,by omega,fun _ _=>rfl,a4⟩
    ·rename_i hka
     obtain⟨e1,a1,a2,a3,a4⟩:=CG c2 ht hr dR (by intro e;cases e) rfl
     rw[hka]
     exact⟨ρ,e1,a1,by omega,fun _ _=>rfl,a4⟩
    ·exact absurd c2.symm ht
   ·exact absurd h9.symm ht
  ·exact absurd h9.symm ht
 |lookup d x q n ok zero=>
  intro e k s ρ h hr
  dsimp only[eD,Jc] at h
  obtain⟨x,h1,h2,h3⟩:=bB h ht hr
  obtain⟨q,h4,h5,h6⟩:=bB h3 ht hr
  split at h6
  ·rename_i b
   split at h6
   ·rename_i es dR
    obtain⟨o1,o2,o3⟩:=hr.obj b _ dR
    rw[aeV] at h6
    obtain⟨c1,c2⟩:=cr h6 ht
    simp only[Bool.and_eq_true] at c1
    simp only[vc1,h1,h4,ak,g_,afa c1.1.2]
    refine⟨es,o2,Jg c1.1.1,?_⟩
    split at c2
    ·rename_i i hka
     rw[hka]
     rw[ag4] at c2
     obtain⟨d1,d2⟩:=cr c2 ht
     rw[aeV] at d2
     have hb2:below 0 (if ok=true then AV.tuple [(es.getD i []).getD 1 .any,.lit (.bool true)] else ((es.getD i []).getD 1 .any).erase)=true:=by
      split
      ·simp only[below,bq,d1,Bool.and_self]
      ·exact afb d1
     have:=nk d2 ht hr (jF (Nat.zero_le _) _ hb2)
     rwa [afa hb2] at this
    ·rename_i hka
     rw[hka]
     rw[aeV] at c2
     have hb2:below 0 (if ok=true then AV.tuple [zero,.lit (.bool false)] else zero.erase)=true:=by
      split
      ·simp only[below,bq,c1.2,Bool.and_self]
      ·exact afb c1.2
     have:=nk c2 ht hr (jF (Nat.zero_le _) _ hb2)
     rwa [afa hb2] at this
    ·exact absurd c2.symm ht
   ·exact absurd h6.symm ht
  ·exact absurd h6.symm ht
 |bG q=>
  intro e k s ρ h hr
  dsimp only[eD,Jd] at h
  obtain⟨x,h1,h2,h3⟩:=bB h ht hr
  split at h3
  ·rename_i b len cap sz
   split at h3
   ·rename_i cs hcs
    obtain⟨l1,l2,l3⟩:=hr.loc b cs hcs
    obtain⟨c1,c2⟩:=cr h3 ht
    simp only[Bool.and_eq_true,Nat.ble_eq] at c1
    simp only[ak] at h1
    replace h1:s.env q=.aV (ρ b) 0 len cap sz:=h1
    simp only[vc1,h1,l2,iK,xW,II]
    refine⟨c1.1.1,c1.1.2,c1.2,?_⟩
    obtain⟨e1,a1,a2,a3,a4,_⟩:=rU c2 ht hr hcs (fun x hx=>by cases hx)
    rw[eT] at a4
    obtain⟨e2,b1,b2,b3⟩:=jf (x:=.slice sz (chunk sz cs len) 0) a4 ht a1 (by rw[a2];simp only[below];exact IM sz len cs l3)
    refine⟨ρ,e2,?_,by omega,fun _ _=>rfl,b3⟩
    simp only[ak,cH] at b1
    exact b1
   ·exact absurd h3.symm ht
  ·exact absurd h3.symm ht
 |_=>intro e k s ρ h hr;exact pure h hr
end
end Go.aq
namespace Go.aq
section
variable {P:Program}
theorem WG:∀{m:MOp} {s:St} {K K':St→Prop},(∀s,K s→K' s)→vc1 P m s K→vc1 P m s K':=by
 intro m
 induction m with
 |apart zs x m ih=>intro s K K' hk h;exact⟨h.1,ih hk h.2⟩
 |guard g want d m ih=>
  intro s K K' hk h
  simp only[vc1] at h⊢
  split at h
  ·exact⟨fun e=>ih hk (h.1 e),fun e=>hk _ (h.2 e)⟩
  ·exact hk _ h
  ·exact h.elim
 |load d x n=>intro s K K' hk h;exact Hy (fun v=>hk _) h
 |iy d x n=>
  intro s K K' hk h
  simp only[vc1] at h⊢
  split at h
  ·exact ot (fun v=>hk _) h
  ·exact h.elim
 |store x y n aO=>
  intro s K K' hk h
  simp only[vc1,ae7] at h⊢
  split at h
  ·split at h
   ·refine⟨h.1,h.2.1,h.2.2.1,?_⟩
    have h:=h.2.2.2
    split at h
    ·split at h
     ·rename_i h0;rw[if_pos h0];exact hk _ h
     ·rename_i h0;rw[if_neg h0];exact hk _ h
    ·exact hk _ h
   ·exact h.elim
  ·exact h.elim
 |build d z ps=>intro s K K' hk h;exact ahu (fun v=>hk _) h
 |aM d n sz z ps=>intro s K K' hk h;exact ahv (fun v=>hk _) h
 |bin d op x y=>intro s K K' hk h;exact HA (fun v=>hk _) h
 |iW d x off n=>
  intro s K K' hk h
  simp only[vc1] at h⊢
  split at h
  ·exact ot (fun v=>hk _) h
  ·exact h.elim
 |iu d x i len sz n=>
  intro s K K' hk h
  simp only[vc1] at h⊢
  split at h
  ·exact⟨h.1,h.2.1,ot (fun v=>hk _) h.2.2⟩
  ·exact h.elim
 |ff d neg n x y=>
  intro s K K' hk h
  simp only[vc1] at h⊢
  split at h
  ·obtain⟨h1,h2,q,hq,h⟩:=h
   exact⟨h1,h2,q,hq,hk _ h⟩
  ·exact h.elim
 |call d f xs=>intro s K K' hk h;obtain⟨r,h1,h2⟩:=h;exact⟨r,h1,hk _ h2⟩
 |gJ d x xs=>
  intro s K K' hk h
  simp only[vc1] at h⊢
  split at h
  ·obtain⟨r,h1,h2⟩:=h;exact⟨r,h1,hk _ h2⟩
  ·exact h.elim
 |kO d x n=>intro s K K' hk h;exact⟨h.1,fun b hb=>hk _ (h.2 b hb)⟩
 |alloc d z=>intro s K K' hk h;exact fun b hb=>hk _ (h b hb)
 |mkM d n c sz bytes zero=>
  intro s K K' hk h
  simp only[vc1] at h⊢
  split at h
  ·exact⟨h.1,h.2.1,h.2.2.1,h.2.2.2.1,h.2.2.2.2.1,fun b hb=>hk _ (h.2.2.2.2.2 b hb)⟩
  ·exact h.elim
 |gK d f xs=>intro s K K' hk h;exact fW.mono (fun r s' hh=>hk _ hh) h
 |kR d x xs=>
  intro s K K' hk h
  simp only[vc1] at h⊢
  split at h
  ·exact fW.mono (fun r s' hh=>hk _ hh) h
  ·exact h.elim
 |afV d f xs=>intro s K K' hk h;obtain⟨ys,u,h1,h2,h3,h4⟩:=h;exact⟨ys,u,h1,h2,h3,hk _ h4⟩
 |mQ d x y sz=>
  intro s K K' hk h
  simp only[vc1] at h⊢
  split at h
  ·split at h
   ·exact⟨h.1,h.2.1,h.2.2.1,h.2.2.2.1,h.2.2.2.2.1,hk _ h.2.2.2.2.2⟩
   ·exact h.elim
  ·exact h.elim
 |afY d x=>
  intro s K K' hk h
  simp only[vc1] at h⊢
  split at h
  ·obtain⟨b,seen,i,es,h1,h2,h3,h4⟩:=h
   exact⟨b,seen,i,es,h1,h2,h3,hk _ h4⟩
  ·exact h.elim
 |isNil d neg x=>
  intro s K K' hk h
  simp only[vc1] at h⊢
  split at h
  ·exact⟨fun e=>hk _ (h.1 e),hk _ h.2⟩
  ·exact hk _ h
  ·exact h.elim
 |iA d x q n zero=>
  intro s K K' hk h
  simp only[vc1] at h⊢
  split at h
  ·obtain⟨es,h1,h2,h4,h3⟩:=h
   refine⟨es,h1,h2,h4,?_⟩
   split at h3
   ·exact hk _ h3
   ·exact hk _ h3
   ·exact h3.elim
  ·exact h.elim
 |afX x st v=>
  intro s K K' hk h
  simp only[vc1] at h⊢
  split at h
  ·obtain⟨es,h1,h2,h3,h4⟩:=h
   exact⟨es,h1,h2,h3,hk _ h4⟩
  ·exact h.elim
 |agc d x hi mx sz=>
  intro s K K' hk h
  simp only[vc1] at h⊢
  split at h
  ·exact hk _ h
  ·exact h.elim
 |mR d x y sz=>
  intro s K K' hk h
  simp only[vc1] at h⊢
  split at h
  ·split at h
   ·exact⟨h.1,h.2.1,h.2.2.1,h.2.2.2.1,h.2.2.2.2.1,hk _ h.2.2.2.2.2⟩
   ·exact h.elim
  ·exact h.elim
 |o_ d x hi sz=>
  intro s K K' hk h
  simp only[vc1] at h⊢
  split at h
  ·exact⟨h.1,h.2.1,h.2.2.1,hk _ h.2.2.2⟩
  ·exact h.elim
 |agd d x y sz bytes zero=>
  intro s K K' hk h
  simp only[vc1] at h⊢
  split at h
  ·exact⟨h.1,h.2.1,h.2.2.1,h.2.2.2.1,h.2.2.2.2.1,fun b r hb=>hk _ (h.2.2.2.2.2 b r hb)⟩
  ·exact h.elim
 |afC d x y sz=>
  intro s K K' hk h
  simp only[vc1] at h⊢
  split at h
  ·split at h
   ·exact⟨h.1,h.2.1,h.2.2.1,hk _ h.2.2.2⟩
   ·exact h.elim
  ·exact h.elim
 |jV x sz aO=>
  intro s K K' hk h
  simp only[vc1] at h⊢
  split at h
  ·split at h
   ·exact⟨h.1,hk _ h.2⟩
   ·exact h.elim
  ·exact h.elim
 |bp q y n=>
  intro s K K' hk h
  simp only[vc1] at h⊢
  split at h
  ·split at h
   ·exact⟨h.1,h.2.1,h.2.2.1,hk _ h.2.2.2⟩
   ·exact h.elim
  ·exact h.elim
 |app d x y sz b=>
  intro s K K' hk h
  simp only[vc1] at h⊢
  split at h
  ·exact⟨h.1,h.2.1,h.2.2.1,h.2.2.2.1,h.2.2.2.2.1,hk _ h.2.2.2.2.2⟩
  ·exact h.elim
 |lW d x pos y=>
  intro s K K' hk h
  simp only[vc1] at h⊢
  split at h
  ·obtain⟨h1,z0,b,sz,len,cap,cs,h2,h3,h4,h5,h6,h7⟩:=h
   exact⟨h1,z0,b,sz,len,cap,cs,h2,h3,h4,h5,hk _ h6,hk _ h7⟩
  ·exact h.elim
 |iY d x xs=>
  intro s K K' hk h
  simp only[vc1] at h⊢
  split at h
  ·exact⟨h.1,h.2.1,hk _ h.2.2.1,hk _ h.2.2.2⟩
  ·exact h.elim
 |jo d x=>
  intro s K K' hk h
  simp only[vc1] at h⊢
  split at h
  ·exact fun b h1 h2=>hk _ (h b h1 h2)
  ·exact h.elim
 |n5 d x=>
  intro s K K' hk h
  simp only[vc1] at h⊢
  split at h
  ·obtain⟨es,h1,h2⟩:=h
   exact⟨es,h1,fun r q1 q2=>hk _ (h2 r q1 q2)⟩
  ·exact h.elim
 |afW d x=>
  intro s K K' hk h
  simp only[vc1] at h⊢
  split at h
  ·obtain⟨b,seen,es,h1,h2,h3,h4⟩:=h
   exact⟨b,seen,es,h1,h2,fun i q1 q2=>hk _ (h3 i q1 q2),fun q=>hk _ (h4 q)⟩
  ·exact h.elim
 |mkMap d=>intro s K K' hk h;exact fun b h1 h2=>hk _ (h b h1 h2)
 |jq d x=>
  intro s K K' hk h
  simp only[vc1] at h⊢
  split at h
  ·obtain⟨u,pos,h1,h2,h3⟩:=h
   exact⟨u,pos,h1,fun hp=>hk _ (h2 hp),fun hp=>hk _ (h3 hp)⟩
  ·exact h.elim
 |lY x q v n=>
  intro s K K' hk h
  simp only[vc1] at h⊢
  split at h
  ·obtain⟨es,h1,h2,h3⟩:=h
   refine⟨es,h1,h2,?_⟩
   split at h3
   ·exact hk _ h3
   ·exact hk _ h3
   ·exact h3.elim
  ·exact h.elim
 |lookup d x q n ok zero=>
  intro s K K' hk h
  simp only[vc1] at h⊢
  split at h
  ·obtain⟨es,h1,h2,h3⟩:=h
   refine⟨es,h1,h2,?_⟩
   split at h3
   ·exact hk _ h3
   ·exact hk _ h3
   ·exact h3.elim
  ·exact h.elim
 |bG q=>
  intro s K K' hk h
  simp only[vc1] at h⊢
  split at h
  ·split at h
   ·exact⟨h.1,h.2.1,h.2.2.1,hk _ h.2.2.2⟩
   ·exact h.elim
  ·split at h
   ·rcases h with ⟨sz,off,h1,h2⟩|⟨off,b2,len,cap,sz,ck,h1,h2,h3,h4,h5,h6,h7⟩
    ·exact .inl ⟨sz,off,h1,hk _ h2⟩
    ·exact .inr ⟨off,b2,len,cap,sz,ck,h1,h2,h3,h4,h5,h6,hk _ h7⟩
   ·exact h.elim
  ·exact h.elim
 |_=>
  intro s K K' hk h
  simp only[vc1] at h⊢
  first
   |exact hk _ h
   |exact⟨h.1,hk _ h.2⟩
   |(split at h<;>first|exact hk _ h|exact⟨h.1,hk _ h.2⟩|exact⟨h.1,h.2.1,hk _ h.2.2⟩|exact⟨h.1,h.2.1,h.2.2.1,hk _ h.2.2.2⟩|exact h.elim)
end
section
variable {R:Type} (col:Bool) (call:Nat→FuncId→List AV→Option AV) (coll:Nat→FuncId→List AV→List AV→Option (List (List AV))) (gB:R→R→R) (fail:R)
def CN:List MOp→ES→(ES→R)→R
 |[],e,k=>k e
 |m::ms,e,k=>eD col call gB fail m e fun e=>CN ms e k
def oG:T AV→(T AV→R)→R
 |.nil,k=>k .nil
 |.node none a b,k=>oG a fun a=>oG b fun b=>k (.node none a b)
 |.node (some x) a b,k=>eK x fun x=>oG a fun a=>oG b fun b=>k (.node (some x) a b)
def x_:List Nat→List AV→ES→(ES→R)→R
 |p::ps,x::xs,e,k=>eK x fun x=>dm e fail p x fun e=>x_ ps xs e k
 |_,_,e,k=>k e
def CO(E0:T AV)(ps:List Nat)(ra:ES→(ES→R)→R)(rb:ES→(ES→R)→(Nat→ES→R)→(ES→R)→R)(kn:ES→R)(ke:Nat→ES→R)(kr:ES→R):List (List AV)→ES→R
 |[],e=>kn e
 |y::ys,e=>x_ fail ps y e fun e=>ra e fun e=>rb e (fun e=>CO E0 ps ra rb kn ke kr ys ⟨E0,e.loc,e.obj,e.gh,e.nx⟩) (fun i e=>ke i ⟨E0,e.loc,e.obj,e.gh,e.nx⟩) (fun e=>kr ⟨E0,e.loc,e.obj,e.gh,e.nx⟩)
def fM:Nat→ay→ES→(ES→R)→(Nat→ES→R)→(ES→R)→R
 |0,_,_,_,_,_=>fail
 |f+1,c,e,kn,ke,kr=>match c with
  |.skip=>kn e
  |.aa ms=>CN col call gB fail ms e kn
  |.seq x y=>fM f x e (fun e=>fM f y e kn ke kr) ke kr
  |.cond t x y=>bD e fail t fun v=>match v with
   |.lit (.bool true)=>fM f x e kn ke kr
   |.lit (.bool false)=>fM f y e kn ke kr
   |_=>fail
  |.block id c=>fM f c e kn (fun i e=>bif Nat.beq i id then kn e else ke i e) kr
  |.loop c=>fM f c e (fun e=>fM f (.loop c) e kn ke kr) ke kr
  |.exit i=>ke i e
  |.ret=>kr e
  |.afx _ _ _ _ _=>fail
  |.mg x ps a b=>bD e fail x fun v=>match v with
   |.func (.func g) first cap=>match coll e.nx g first cap with
    |some xs=>bif xs.all (fun y=>Nat.beq y.length ps.length&&bq 0 y&&noMark y) then oG e.env fun E0=>CO fail E0 ps (fun e k=>fM f a e k (fun _ _=>fail) (fun _=>fail)) (fun e kn ke kr=>fM f b e kn ke kr) kn ke kr xs ⟨E0,e.loc,e.obj,e.gh,e.nx⟩ else fail
    |none=>fail
   |_=>fail
end
section
variable {R:Type} {P:Program} {call:Nat→FuncId→List AV→Option AV} {coll:Nat→FuncId→List AV→List AV→Option (List (List AV))} {gB:R→R→R} {fail t:R}
def Jj(P:Program)(coll:Nat→FuncId→List AV→List AV→Option (List (List AV))):Prop:=∀n f first cap xs,coll n f first cap=some xs→bq n first=true→bq n cap=true→∀ρ,iF P f (first.map (ak ρ)) (cap.map (ak ρ)) xs
def Ext(ρ:Nat→Nat)(e:ES)(ρ':Nat→Nat)(e':ES):Prop:=e.nx≤e'.nx∧∀b,b<e.nx→ρ' b=ρ b
theorem Ext.refl(ρ:Nat→Nat)(e:ES):Ext ρ e ρ e:=⟨Nat.le_refl _,fun _ _=>rfl⟩
theorem Ext.trans{ρ ρ1 ρ2:Nat→Nat}{e e1 e2:ES}(h:Ext ρ e ρ1 e1)(k:Ext ρ1 e1 ρ2 e2):Ext ρ e ρ2 e2:=⟨Nat.le_trans h.1 k.1,fun b hb=>(k.2 b (Nat.lt_of_lt_of_le hb h.1)).trans (h.2 b hb)⟩
def To(ρ:Nat→Nat)(e:ES)(k:ES→R)(t:R)(K:St→Prop):Prop:=∀ρ' e' s',Rel ρ' e' s'→Ext ρ e ρ' e'→k e'=t→K s'
theorem To.from{ρ ρ1:Nat→Nat}{e e1:ES}{k:ES→R}{K:St→Prop}(h:To ρ e k t K)(hx:Ext ρ e ρ1 e1):To ρ1 e1 k t K:=fun ρ' e' s' hr hx' hk=>h ρ' e' s' hr (hx.trans hx') hk
theorem Jk(rV:x8 P call)(rW:∀a b,gB a b=t→a=t∧b=t)(ht:t≠fail):∀(ms:List MOp) (e:ES) (k:ES→R) (s:St) (ρ:Nat→Nat) (K:St→Prop),CN false call gB fail ms e k=t→Rel ρ e s→To ρ e k t K→vcs P ms K s
 |[],e,k,s,ρ,K,h,hr,hK=>hK ρ e s hr (.refl _ _) h
 |m::ms,e,k,s,ρ,K,h,hr,hK=>by
  refine WG (fun s' hs=> ?_) (WC rV rW ht m e _ s ρ h hr)
  obtain⟨ρ',e',g1,g2,g3,g4⟩:=hs
  exact Jk rV rW ht ms e' k s' ρ' K g4 g1 (hK.from ⟨g2,g3⟩)
theorem uS:∀(u:T AV) (k:T AV→R),oG u k=k (u.map AV.erase)
 |.nil,_=>rfl
 |.node none a b,k=>by simp only[oG,uS a,uS b];rfl
 |.node (some x) a b,k=>by simp only[oG,aeV,uS a,uS b];rfl
theorem Jl(ht:t≠fail):∀(ps:List Nat) (xs:List AV) (e:ES) (k:ES→R) (s:St) (ρ:Nat→Nat),x_ fail ps xs e k=t→Rel ρ e s→bq 0 xs=true→∃e',Rel ρ e' (params s ps xs)∧e'.nx=e.nx∧k e'=t
 |[],xs,e,k,s,ρ,h,hr,_=>⟨e,by cases xs<;>exact hr,rfl,h⟩
 |p::ps,[],e,k,s,ρ,h,hr,_=>⟨e,hr,rfl,h⟩
 |p::ps,x::xs,e,k,s,ρ,h,hr,hb=>by
  simp only[bq,Bool.and_eq_true] at hb
  simp only[x_,aeV] at h
  obtain⟨e1,a1,a2,a3⟩:=jf h ht hr (jF (Nat.zero_le _) _ (afb hb.1))
  rw[afa (afb hb.1)] at a1
  obtain⟨e2,b1,b2,b3⟩:=Jl ht ps xs e1 k _ ρ a3 a1 hb.2
  exact⟨e2,b1,b2.trans a2,b3⟩
theorem ya{ρ0 ρ:Nat→Nat}{e0 e:ES}{s0 s:St}(h0:Rel ρ0 e0 s0)(h:Rel ρ e s)(hx:Ext ρ0 e0 ρ e):Rel ρ ⟨e0.env.map AV.erase,e.loc,e.obj,e.gh,e.nx⟩ (back s0 s):=by
 have gd:∀q,ES.at ⟨e0.env.map AV.erase,e.loc,e.obj,e.gh,e.nx⟩ q=(e0.at q).erase:=by
  intro q
  simp only[ES.at,T.get_map]
  cases e0.env.get q<;>rfl
 refine⟨fun q hq=> ?_,fun q=> ?_,?_,h.gb,h.loc,h.lB,fun b x hb=> ?_,h.mj,h.og,h.gg⟩
 ·rw[gd]
  show(if gS≤q then s.env q else (s0.env q).erase)=_
  rw[if_neg (by omega),h0.env q hq,g_]
  exact(p9 hx.2 _ (afb (h0.jE q))).symm
 ·rw[gd];exact jF hx.1 _ (afb (h0.jE q))
 ·rw[iG _ _ (Nat.le_refl _)];exact h.gh
 ·obtain⟨o1,o2,o3⟩:=h.obj b x hb
  exact⟨o1,by rw[jA];exact o2,o3⟩
theorem Jm(rV:x8 P call)(WH:Jj P coll)(rW:∀a b,gB a b=t→a=t∧b=t)(ht:t≠fail):∀(f:Nat) (c:ay) (e:ES) (kn:ES→R) (ke:Nat→ES→R) (kr:ES→R) (s:St) (ρ:Nat→Nat) (Kn:St→Prop) (Ke:Nat→St→Prop) (Kr:St→Prop),fM false call coll gB fail f c e kn ke kr=t→Rel ρ e s→To ρ e kn t Kn→(∀i,To ρ e (ke i) t (Ke i))→To ρ e kr t Kr→bz P c Kn Ke Kr s:=by
 intro f
 induction f using Nat.strongRecOn with
 |_ f0 Jn=>
 cases f0 with
 |zero=>intro c e kn ke kr s ρ Kn Ke Kr h;exact absurd h.symm ht
 |succ f=>
  have ih:=Jn f (Nat.lt_succ_self f)
  intro c e kn ke kr s ρ Kn Ke Kr h hr hn he hq
  cases c with
  |skip=>exact hn ρ e s hr (.refl _ _) h
  |aa ms=>exact Jk rV rW ht ms e kn s ρ Kn h hr hn
  |seq x y=>exact ih x e _ ke kr s ρ _ Ke Kr h hr (fun ρ' e' s' hr' hx' hk'=>ih y e' kn ke kr s' ρ' Kn Ke Kr hk' hr' (hn.from hx') (fun i=>(he i).from hx') (hq.from hx')) he hq
  |cond u x y=>
   dsimp only[fM] at h
   obtain⟨v,h1,h2,h3⟩:=bB h ht hr
   simp only[bz,h1]
   split at h3
   ·simp only[ak];exact⟨fun _=>ih x e kn ke kr s ρ Kn Ke Kr h3 hr hn he hq,fun e=>by cases e⟩
   ·simp only[ak];exact⟨fun e0=>(by cases e0),fun _=>ih y e kn ke kr s ρ Kn Ke Kr h3 hr hn he hq⟩
   ·exact absurd h3.symm ht
  |block id c=>
   refine ih c e kn _ kr s ρ Kn _ Kr h hr hn (fun i ρ' e' s' hr' hx' hk'=> ?_) hq
   cases hb:Nat.beq i id with
   |true=>
    rw[hb] at hk'
    rw[if_pos (Nat.eq_of_beq_eq_true hb)]
    exact hn ρ' e' s' hr' hx' hk'
   |false=>
    rw[hb] at hk'
    rw[if_neg (fun e0=>by rw[e0] at hb;simp at hb)]
    exact he i ρ' e' s' hr' hx' hk'
  |loop c=>
   refine⟨fun g s'=>∃ρ' e',Rel ρ' e' s'∧Ext ρ e ρ' e'∧g≤f+1∧fM false call coll gB fail g (.loop c) e' kn ke kr=t,⟨f+1,s,.refl s,ρ,e,hr,.refl _ _,Nat.le_refl _,h⟩,?_⟩
   rintro g s' ⟨ρ',e',hr',hx',hg,hk'⟩
   cases g with
   |zero=>exact absurd hk'.symm ht
   |succ g=>
    exact Jn g (by omega) c e' _ ke kr s' ρ' _ Ke Kr hk' hr' (fun ρ2 e2 s2 cD hx2 hk2=>⟨g,s2,Nat.lt_succ_self _,.refl s2,ρ2,e2,cD,hx'.trans hx2,by omega,hk2⟩) (fun i=>(he i).from hx') (hq.from hx')
  |exit i=>exact he i ρ e s hr (.refl _ _) h
  |ret=>exact hq ρ e s hr (.refl _ _) h
  |afx x pos ps a b=>exact absurd (show fail=t from h).symm ht
  |mg x ps a b=>
   dsimp only[fM] at h
   obtain⟨v,h1,h2,h3⟩:=bB h ht hr
   split at h3
   ·rename_i g first cap
    split at h3
    ·rename_i xs hxs
     obtain⟨c1,c2⟩:=cr h3 ht
     rw[uS] at c2
     simp only[below,Bool.and_eq_true] at h2
     have hseq:=WH _ _ _ _ _ hxs h2.1.2 h2.2 ρ
     simp only[bz,h1,ak,afJ,cH]
     have Jo:∀y∈xs,(y.length=ps.length∧bq 0 y=true)∧noMark y=true:=fun y hy=>by
      have:=(List.all_eq_true.1 c1) y hy
      simp only[Bool.and_eq_true] at this
      exact⟨⟨Nat.eq_of_beq_eq_true this.1.1,this.1.2⟩,this.2⟩
     have hlen:=fun y hy=>(Jo y hy).1
     refine⟨xs,hseq,fun y hy=>⟨(hlen y hy).1,(Jo y hy).2⟩,fun k st=>∃ρ' e',Rel ρ' e' st∧Ext ρ e ρ' e'∧e'.env=e.env.map AV.erase∧CO fail (e.env.map AV.erase) ps (fun e k=>fM false call coll gB fail f a e k (fun _ _=>fail) (fun _=>fail)) (fun e kn ke kr=>fM false call coll gB fail f b e kn ke kr) kn ke kr (xs.drop k) e'=t,?_,?_,?_⟩
     ·exact⟨ρ,⟨e.env.map AV.erase,e.loc,e.obj,e.gh,e.nx⟩,ya hr hr (.refl _ _),⟨Nat.le_refl _,fun _ _=>rfl⟩,rfl,c2⟩
     ·rintro k st hk hst ⟨ρ',e',hr',hx',afu,hk'⟩
      rw[List.drop_eq_getElem_cons hk] at hk'
      have hy:xs.getD k []=xs[k]:=by rw[List.getD_eq_getElem?_getD,List.getElem?_eq_getElem hk];rfl
      rw[hy]
      obtain⟨e1,a1,a2,a3⟩:=Jl ht ps xs[k] e' _ st ρ' hk' hr' (hlen _ (List.getElem_mem hk)).2
      have hx1:Ext ρ e ρ' e1:=⟨by rw[a2];exact hx'.1,hx'.2⟩
      refine ih a e1 _ _ _ _ ρ' _ _ _ a3 a1 (fun ρ2 e2 s2 cD hx2 hk2=> ?_) (fun i ρ2 e2 s2 cD hx2 hk2=>absurd hk2.symm ht) (fun ρ2 e2 s2 cD hx2 hk2=>absurd hk2.symm ht)
      have CP:=hx1.trans hx2
      refine ih b e2 _ _ _ s2 ρ2 _ _ _ hk2 cD (fun ρ3 e3 s3 nc uT mY=> ?_) (fun i ρ3 e3 s3 nc uT mY=> ?_) (fun ρ3 e3 s3 nc uT mY=> ?_)
      ·have afz:=CP.trans uT
       exact⟨ρ3,_,ya hr nc afz,⟨afz.1,afz.2⟩,rfl,mY⟩
      ·have afz:=CP.trans uT
       exact he i ρ3 _ _ (ya hr nc afz) ⟨afz.1,afz.2⟩ mY
      ·have afz:=CP.trans uT
       exact hq ρ3 _ _ (ya hr nc afz) ⟨afz.1,afz.2⟩ mY
     ·rintro st hst ⟨ρ',e',hr',hx',afu,hk'⟩
      rw[List.drop_length] at hk'
      exact hn ρ' e' st hr' hx' hk'
    ·exact absurd h3.symm ht
   ·exact absurd h3.symm ht
end
end Go.aq
namespace Go.aq
abbrev Row:=Nat×Nat×ay×List aE
def rX(P:Program)(x:Row):Prop:=∃fn aG,P.funcs[x.1]? =some fn∧fn.body.bind (dw P aG fn.ntmps)=some x.2.2.1∧fu P fn.results.toList=some x.2.2.2∧gI P x.1=true∧fn.ntmps=x.2.1∧fn.ntmps≤1000000
inductive lE (P:Program):List Row→Prop
 |nil:lE P []
 |cons {x:Row} {l:List Row} (h:rX P x) (t:lE P l):lE P (x::l)
theorem rX.mk{P:Program}{f N:Nat}{m:ay}{rs:List aE}{fn:Func}{aG:cn}(h1:P.funcs[f]? =some fn)(h2:fn.body.bind (dw P aG fn.ntmps)=some m)(h3:fu P fn.results.toList=some rs)(h4:gI P f=true)(h5:fn.ntmps=N)(h6:Nat.ble N 1000000=true):rX P (f,N,m,rs):=⟨fn,aG,h1,h2,h3,h4,h5,by rw[h5];simpa using h6⟩
def uU:List Row→Nat→Option Row
 |[],_=>none
 |x::l,f=>bif Nat.beq x.1 f then some x else uU l f
theorem Jp{P:Program}{l:List Row}(h:lE P l){f:Nat}{x:Row}(hx:uU l f=some x):rX P x∧x.1=f:=by
 induction h with
 |nil=>cases hx
 |cons h t ih=>
  simp only[uU] at hx
  cases hb:Nat.beq _ f with
  |true=>rw[hb] at hx;injection hx with hx;subst hx;exact⟨h,Nat.eq_of_beq_eq_true hb⟩
  |false=>rw[hb] at hx;exact ih hx
section
variable {R:Type}
def initK:Nat→List AV→T AV→(T AV→R)→R
 |_,[],env,k=>k env
 |i,x::xs,env,k=>eK x fun x=>jG 24 env i (some x) fun env=>fN (i+1) fun i=>initK i xs env k
theorem CQ{t:R}:∀(xs:List AV) (i:Nat) (env:T AV) (k:T AV→R),initK i xs env k=t→i+xs.length+1<2^24→∃env',k env'=t∧∀q,env'.get q=if i≤q∧q<i+xs.length then some (xs.getD (q - i) .any).erase else env.get q
 |[],i,env,k,h,_=>⟨env,h,fun q=>by rw[if_neg (by simp)]⟩
 |x::xs,i,env,k,h,hl=>by
  simp only[List.length_cons] at hl
  simp only[initK,aeV,oB,oA] at h
  obtain⟨env',h1,h2⟩:=CQ xs (i+1) _ k h (by omega)
  refine⟨env',h1,fun q=> ?_⟩
  rw[h2,T.iJ 24 _ _ _ _ (by omega)]
  simp only[List.length_cons]
  by_cases h3:q=i
  ·subst h3
   rw[if_neg (by omega),if_pos rfl,if_pos (by omega)]
   simp
  ·by_cases h4:i+1≤q∧q<i+1+xs.length
   ·rw[if_pos h4,if_pos (by omega)]
    have:q - i=(q - (i+1))+1:=by omega
    rw[this];simp
   ·rw[if_neg h4,if_neg h3,if_neg (by omega)]
end
theorem Jq{ρ:Nat→Nat}{n:Nat}{xs:List AV}{env:T AV}(hb:bq n xs=true)(hl:xs.length≤gS)(afu:∀q,env.get q=if 0≤q∧q<0+xs.length then some (xs.getD (q - 0) .any).erase else T.nil.get q):Rel ρ ⟨env,.nil,.nil,.any,n⟩ ⟨dj (xs.map (ak ρ)),fun _=>none⟩:=by
 have gd:∀q,ES.at ⟨env,.nil,.nil,.any,n⟩ q=(xs.getD q .any).erase:=by
  intro q
  simp only[ES.at,afu,Nat.zero_le,true_and,Nat.zero_add,Nat.sub_zero]
  split
  ·rfl
  ·rename_i h
   rw[T.get_nil,List.getD_eq_getElem?_getD,List.getElem?_eq_none (by omega)];rfl
 refine⟨fun q hq=> ?_,fun q=> ?_,?_,rfl,fun b cs h=> ?_,fun b b' h=> ?_,fun b x h=> ?_,fun b b' h=> ?_,fun b x h=> ?_,rfl⟩
 ·rw[gd];show((xs.map (ak ρ)).getD q .any).erase=_;rw[uK,g_]
 ·rw[gd];exact afb (qc q hb)
 ·exact BN (by simpa using hl) _ (Nat.le_refl _)
 ·simp only[T.get_nil] at h;cases h
 ·simp only[T.get_nil] at h;exact absurd rfl h
 ·simp only[T.get_nil] at h;cases h
 ·simp only[T.get_nil] at h;exact absurd rfl h
 ·simp only[T.get_nil] at h;cases h
def qj(e:ES):List aE→(List AV→Option AV)→Option AV
 |[],k=>k []
 |.tmp q::rs,k=>bD e none (.t q) fun x=>eK x fun x=>qj e rs fun xs=>k (x::xs)
 |.cell q n::rs,k=>bD e none (.t q) fun x=>match x with
  |.ref cs=>oE none cs 0 n fun v=>eK v fun v=>qj e rs fun xs=>k (v::xs)
  |.au b off=>match e.loc.get b with
   |some cs=>oE none cs off n fun v=>eK v fun v=>qj e rs fun xs=>k (v::xs)
   |none=>none
  |_=>none
def CR(xs:List AV):Option AV:=some (aeJ xs)
theorem WI(ρ:Nat→Nat)(xs:List AV):ak ρ (aeJ xs)=aeJ (xs.map (ak ρ)):=by
 match xs with
 |[]=>simp only[aeJ,List.map_nil,ak,eJ]
 |[x]=>rfl
 |x::y::xs=>simp only[aeJ,ak,cH,List.map_cons]
theorem ag8{e:ES}{ρ:Nat→Nat}{s:St}{r:AV}(hr:Rel ρ e s):∀(rs:List aE) (k:List AV→Option AV) (K:List AV→Prop),qj e rs k=some r→(∀xs,k xs=some r→K (xs.map (ak ρ)))→eS s rs K
 |[],k,K,h,hk=>hk [] h
 |.tmp q::rs,k,K,h,hk=>by
  obtain⟨x,h1,h2,h3⟩:=bB h (by simp) hr
  rw[aeV] at h3
  replace h1:s.env q=ak ρ x:=h1
  simp only[eS,h1,g_]
  exact ag8 hr rs _ _ h3 fun xs hx=>hk _ hx
 |.cell q n::rs,k,K,h,hk=>by
  obtain⟨x,h1,h2,h3⟩:=bB h (by simp) hr
  replace h1:s.env q=ak ρ x:=h1
  simp only[eS,h1]
  split at h3
  ·simp only[below] at h2
   obtain⟨v,g1,g2,g3⟩:=qg h3 (by simp) h2
   rw[aeV] at g2
   simp only[ak,cJ,cH]
   refine g3 _ ?_
   have:((ak ρ v).erase).erase=ak ρ v.erase:=by rw[uF,g_]
   rw[this]
   exact ag8 hr rs _ _ g2 fun xs hx=>hk _ hx
  ·split at h3
   ·rename_i b off _ cs hcs
    obtain⟨l1,l2,l3⟩:=hr.loc b cs hcs
    obtain⟨v,g1,g2,g3⟩:=qg h3 (by simp) l3
    rw[aeV] at g2
    simp only[ak,cJ,l2]
    refine g3 _ ?_
    rw[g_]
    exact ag8 hr rs _ _ g2 fun xs hx=>hk _ hx
   ·cases h3
  ·cases h3
def Jr(e:ES):Option (List (List AV)):=match e.gh with
 |.ghost _ acc _=>some acc
 |_=>none
def oH(n:Nat)(e:ES):Bool:=match e.gh with
 |.ghost l rest b=>Nat.beq l n&&(b||rest.isEmpty)
 |_=>false
def qk:Nat:=1000000
end Go.aq
namespace Go.aq
abbrev a_:=Nat×List AV×AV
inductive jH (P:Program):List a_→Prop
 |nil:jH P []
 |cons {f:FuncId} {xs:List AV} {r:AV} {l:List a_} (h:aed P f xs r) (hx:bq 0 xs=true) (hr:below 0 r=true) (t:jH P l):jH P ((f,xs,r)::l)
def uV:List a_→Nat→List AV→Option AV
 |[],_,_=>none
 |(f',xs',r)::l,f,xs=>bif Nat.beq f' f&&afo xs.reverse xs'.reverse then some r else uV l f xs
theorem Js{P:Program}{l:List a_}(h:jH P l){f:Nat}{xs:List AV}{r:AV}(hx:uV l f xs=some r):aed P f xs r∧bq 0 xs=true∧below 0 r=true:=by
 induction h with
 |nil=>cases hx
 | @cons f' xs' r' l h hx' hr t ih=>
   simp only[uV] at hx
   cases hb:Nat.beq f' f&&afo xs.reverse xs'.reverse with
   |true=>
    rw[hb] at hx;injection hx with hx;subst hx
    simp only[Bool.and_eq_true] at hb
    have e1:=Nat.eq_of_beq_eq_true hb.1
    have e2:xs=xs':=by have:=congrArg List.reverse (qi _ _ hb.2);simpa using this
    subst e1 e2
    exact⟨h,hx',hr⟩
   |false=>rw[hb] at hx;exact ih hx
def hJ(cR:List Row)(mem:List a_):Nat→(Nat→FuncId→List AV→Option AV)×(Nat→FuncId→List AV→List AV→Option (List (List AV)))
 |0=>(fun _ _ _=>none,fun _ _ _ _=>none)
 |g+1=>
  (fun n f xs=>match uV mem f xs with
    |some r=>some r
    |none=>match uU cR f with
     |some (_,N,m,rs)=>bif Nat.ble xs.length N then initK 0 xs .nil fun env=>fM false (hJ cR mem g).1 (hJ cR mem g).2 (fun _ _=>none) none qk m ⟨env,.nil,.nil,.any,n⟩ (fun e=>qj e rs CR) (fun _ _=>none) (fun e=>qj e rs CR) else none
     |none=>none,
   fun n f first cap=>match uU cR f with
    |some (_,N,m,[])=>bif Nat.ble (first.length+1+cap.length) N then initK 0 (first++[AV.func (.yield n) [] []]++cap) .nil fun env=>
      match fM true (hJ cR mem g).1 (hJ cR mem g).2 (fun _ _=>none) none qk m ⟨env,.nil,.nil,.ghost n [] true,n+1⟩ Jr (fun _ _=>none) Jr with
      |some xs=>bif fM false (hJ cR mem g).1 (hJ cR mem g).2 (fun a b=>a&&b) false qk m ⟨env,.nil,.nil,.ghost n xs false,n+1⟩ (oH n) (fun _ _=>false) (oH n) then some xs else none
      |none=>none else none
    |_=>none)
theorem Jt{P:Program}{cR:List Row}(hT:lE P cR){mem:List a_}(hM:jH P mem):∀g,x8 P (hJ cR mem g).1∧Jj P (hJ cR mem g).2
 |0=>⟨fun n f xs r h=>(by cases h),fun n f first cap xs h=>(by cases h)⟩
 |g+1=>by
  obtain⟨wI,ihl⟩:=Jt hT hM g
  constructor
  ·intro n f xs r h hb WJ ρ
   dsimp only[hJ] at h
   split at h
   ·rename_i r' hk
    injection h with h;subst h
    obtain⟨k1,k2,k3⟩:=Js hM hk
    have e1:xs.map (ak ρ)=xs:=by
     have:=List.map_congr_left (f:=ak ρ) (g:=id) (l:=xs) fun x hx'=>afa (aeQ.1 k2 x hx')
     rw[this,List.map_id]
    rw[e1,afa k3]
    exact k1
   split at h
   ·rename_i f' N m rs hf
    obtain⟨⟨fn,aG,r1,r2,r3,r4,r5,r6⟩,rfl⟩:=Jp hT hf
    dsimp only at r1 r2 r3 r4 r5
    cases hl:Nat.ble xs.length N with
    |false=>rw[hl] at h;cases h
    |true=>
     rw[hl,cond_true] at h
     have hlen:xs.length≤fn.ntmps:=by rw[r5];simpa using hl
     obtain⟨env,h1,h2⟩:=CQ xs 0 .nil _ h (by omega)
     have hgl:xs.length≤gS:=by simp only[gS];omega
     have nq:=Jq (ρ:=ρ) hb hgl h2
     have hres:∀ρ' e' s',Rel ρ' e' s'→Ext ρ ⟨env,.nil,.nil,.any,n⟩ ρ' e'→qj e' rs CR=some r→eS s' rs fun ys=>ak ρ r=aeJ ys:=by
      intro ρ' e' s' hr' hx' hk'
      refine ag8 hr' rs _ _ hk' fun xs hxs=> ?_
      injection hxs with hxs
      rw[←WI,hxs]
      exact(p9 hx'.2 _ WJ).symm
     exact Im r1 r2 r3 r4 ⟨by simpa using hlen,r6⟩ fun _=>Jm (fail:=none) (t:=some r) wI ihl (fun a b hab=>by cases hab) (by simp) qk m _ _ _ _ _ ρ _ _ _ h1 nq hres (fun i ρ' e' s' hr' hx' hk'=>by cases hk') hres
   ·cases h
  ·intro n f first cap xs h jb hb2 ρ
   dsimp only[hJ] at h
   split at h
   ·rename_i f' N m hf
    obtain⟨⟨fn,aG,r1,r2,r3,r4,r5,r6⟩,rfl⟩:=Jp hT hf
    dsimp only at r1 r2 r3 r4 r5
    cases hl:Nat.ble (first.length+1+cap.length) N with
    |false=>rw[hl] at h;cases h
    |true=>
     rw[hl,cond_true] at h
     have hlen:first.length+1+cap.length≤fn.ntmps:=by rw[r5];simpa using hl
     have adQ:(first++[AV.func (.yield n) [] []]++cap).length=first.length+1+cap.length:=by simp only[List.length_append,List.length_singleton]
     obtain⟨env,h1,h2⟩:=CQ (first++[AV.func (.yield n) [] []]++cap) 0 .nil _ h (by omega)
     split at h1
     ·rename_i xs' _
      have hdone:fM false (hJ cR mem g).1 (hJ cR mem g).2 (fun a b=>a&&b) false qk m ⟨env,.nil,.nil,.ghost n xs' false,n+1⟩ (oH n) (fun _ _=>false) (oH n)=true∧xs'=xs:=by
       cases hq:fM false (hJ cR mem g).1 (hJ cR mem g).2 (fun a b=>a&&b) false qk m ⟨env,.nil,.nil,.ghost n xs' false,n+1⟩ (oH n) (fun _ _=>false) (oH n) with
       |false=>rw[hq] at h1;cases h1
       |true=>rw[hq] at h1;injection h1 with h1;exact⟨rfl,h1⟩
      obtain⟨hq,rfl⟩:=hdone
      refine Io r1 r2 r3 r4 ⟨by simpa using hlen,r6⟩ fun l _=> ?_
      have WK:bq (n+1) (first++[AV.func (.yield n) [] []]++cap)=true:=uM (uM (je (Nat.le_succ _) _ jb) (by simp[bq,below,rQ,Nat.blt])) (je (Nat.le_succ _) _ hb2)
      have hgl:(first++[AV.func (.yield n) [] []]++cap).length≤gS:=by simp only[gS];omega
      have nq:=Jq (ρ:=aD ρ n l) WK hgl h2
      have hmap:∀zs:List AV,bq n zs=true→zs.map (ak (aD ρ n l))=zs.map (ak ρ):=fun zs hz=>List.map_congr_left fun x hx=>p9 rT x (aeQ.1 hz x hx)
      have hargs:(first++[AV.func (.yield n) [] []]++cap).map (ak (aD ρ n l))=first.map (ak ρ)++[AV.func (.yield l) [] []]++cap.map (ak ρ):=by simp only[List.map_append,hmap _ jb,hmap _ hb2,List.map_cons,List.map_nil,ak,afJ,eJ,dP]
      rw[hargs] at nq
      have WL:Rel (aD ρ n l) ⟨env,.nil,.nil,.ghost n xs' false,n+1⟩ ((St.mk (dj (first.map (ak ρ)++[AV.func (.yield l) [] []]++cap.map (ak ρ))) fun _=>none).set gS (.ghost l xs' false)):=⟨fun q hq=>(bE _ _ (by omega)).trans (nq.env q hq),nq.jE,by rw[k7];simp only[ak,dP],by simp[below,Nat.blt],nq.loc,nq.lB,fun b x hb=>(by simp only[T.get_nil] at hb;cases hb),nq.mj,nq.og,rfl⟩
      have hpost:∀ρ' e' s',Rel ρ' e' s'→Ext (aD ρ n l) ⟨env,.nil,.nil,.ghost n xs' false,n+1⟩ ρ' e'→oH n e'=true→∃rest b,s'.env gS=.ghost l rest b∧(b=true∨rest=[]):=by
       intro ρ' e' s' hr' hx' hd
       unfold oH at hd
       split at hd
       ·rename_i l0 rest b hg
        simp only[Bool.and_eq_true,Bool.or_eq_true,List.isEmpty_iff] at hd
        have e0:=Nat.eq_of_beq_eq_true hd.1
        subst e0
        refine⟨rest,b,?_,hd.2⟩
        rw[hr'.gh,hg]
        simp only[ak]
        rw[hx'.2 l0 (Nat.lt_succ_self _),dP]
       ·cases hd
      exact Jm (fail:=false) (t:=true) wI ihl (fun a b hab=>by simpa using hab) (by simp) qk m _ _ _ _ _ (aD ρ n l) _ _ _ hq WL hpost (fun i ρ' e' s' hr' hx' hk'=>by cases hk') hpost
     ·cases h1
   ·cases h
theorem WM{P:Program}{cR:List Row}(hT:lE P cR){mem:List a_}(hM:jH P mem){f:FuncId}{xs:List AV}{r:AV}(g:Nat)(h:(hJ cR mem g).1 0 f xs=some r)(hx:bq 0 xs=true)(hr:below 0 r=true):aed P f xs r:=by
 have:=(Jt hT hM g).1 0 f xs r h hx hr id
 have e1:xs.map (ak id)=xs:=by
  have:=List.map_congr_left (f:=ak id) (g:=id) (l:=xs) fun x hx'=>afa (aeQ.1 hx x hx')
  rw[this,List.map_id]
 rwa [e1,afa hr] at this
end Go.aq
namespace Go.aq
theorem bN{P:Program}{k N:Nat}{a:cn}{m:ay}{rs:List aE}(h:aJ P k a=some (some m,some rs,true,N))(h6:Nat.ble N 1000000=true:=by rfl):rX P (k,N,m,rs):=by
 obtain⟨fn,h1,h2,h3,h4,h5⟩:=aJ.of h
 exact rX.mk h1 h2 h3 h4 h5 h6
def nr(cR:List Row)(mem:List a_)(f:Nat)(xs:List AV)(r:AV):Bool:=
 (match (hJ cR mem 60).1 0 f xs with
   |some r'=>jg r' r
   |none=>false)&&(bq 0 xs&&below 0 r)
theorem Ju{P:Program}{cR:List Row}(hT:lE P cR){mem:List a_}(hM:jH P mem){f:FuncId}{xs:List AV}{r:AV}(h:nr cR mem f xs r=true):aed P f xs r∧bq 0 xs=true∧below 0 r=true:=by
 unfold nr at h
 simp only[Bool.and_eq_true] at h
 obtain⟨h1,h2,h3⟩:=h
 split at h1
 ·rename_i r' hr
  have e:=IT _ _ h1
  subst e
  exact⟨WM hT hM 60 hr h2 h3,h2,h3⟩
 ·cases h1
theorem jH.add{P:Program}{cR:List Row}(hT:lE P cR){mem:List a_}(hM:jH P mem){f:FuncId}{xs:List AV}{r:AV}(h:nr cR mem f xs r=true):jH P ((f,xs,r)::mem):=by
 obtain⟨h1,h2,h3⟩:=Ju hT hM h
 exact .cons h1 h2 h3 hM
theorem afK{P:Program}{cR:List Row}(hT:lE P cR){α:Type}{l:List α}{f:Nat}{xs:α→List AV}{r:α→AV}(h:l.all (fun w=>nr cR [] f (xs w) (r w))=true):∀w∈l,aed P f (xs w) (r w):=fun w hw=>(Ju hT .nil (List.all_eq_true.1 h w hw)).1
theorem jH.get{P:Program}{l:List a_}(h:jH P l){f:Nat}{xs:List AV}{r:AV}(hx:uV l f xs=some r):aed P f xs r:=(Js h hx).1
end Go.aq
