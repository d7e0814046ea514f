/- Running resolved code: renamings of blocks. Running resolved code: states, and values. Running resolved code: operations. Running resolved code: operations that hand back a value. Running resolved code: operations that hand back a value are run soundly. Running resolved code: the state's own steps. Running resolved code: all operations. Running resolved code: all operations are run soundly. Running resolved code: all operations are run soundly, joined. Running resolved code: control. Running resolved code: functions and iterators by their numbers. Running resolved code: calls that are known already. Calls of closed arguments, each checked by one run of the kernel. -/
import Derived.Test.YtmcdlpegncaihaaGreatZC
namespace Go.Z4
def abo(ρ:Nat→Nat):Fn→Fn
 |.yield l=>.yield (ρ l)
 |f=>f
def qE(n:Nat):Fn→Bool
 |.yield l=>Nat.blt l n
 |_=>true
theorem R_{n:Nat}{ρ ρ':Nat→Nat}(h:∀b,b<n→ρ' b=ρ b)(f:Fn)(hb:qE n f=true):abo ρ' f=abo ρ f:=by cases f<;>first|rfl|(simp only[abo];rw[h _ (Nat.lt_of_succ_le (by simpa[qE,Nat.blt] using hb))])
mutual
def an(ρ:Nat→Nat):AV→AV
 |.any=>.any
 |.lit v=>.lit v
 |.slice sz xs r=>.slice sz (eD ρ xs) r
 |.ref cs=>.ref (eD ρ cs)
 |.aj b o=>.aj (ρ b) o
 |.aq b o l c sz=>.aq (ρ b) o l c sz
 |.agg cs=>.agg (eD ρ cs)
 |.tuple vs=>.tuple (eD ρ vs)
 |.func fn a b=>.func (abo ρ fn) (eD ρ a) (eD ρ b)
 |.ghost l r b=>.ghost (ρ l) r b
 |.aZ b=>.aZ (ρ b)
 |.fmap es=>.fmap es
def eD(ρ:Nat→Nat):List AV→List AV
 |[]=>[]
 |x::xs=>an ρ x::eD ρ xs
end
mutual
def below(n:Nat):AV→Bool
 |.any=>true
 |.lit _=>true
 |.slice _ xs _=>bn n xs
 |.ref cs=>bn n cs
 |.aj b _=>Nat.blt b n
 |.aq b _ _ _ _=>Nat.blt b n
 |.agg cs=>bn n cs
 |.tuple vs=>bn n vs
 |.func f a b=>qE n f&&bn n a&&bn n b
 |.ghost l _ _=>Nat.blt l n
 |.aZ b=>Nat.blt b n
 |.fmap _=>true
def bn(n:Nat):List AV→Bool
 |[]=>true
 |x::xs=>below n x&&bn n xs
end
theorem cL(ρ:Nat→Nat):∀xs:List AV,eD ρ xs=xs.map (an ρ)
 |[]=>rfl
 |x::xs=>by rw[eD,cL ρ xs];rfl
mutual
theorem abX{n:Nat}{ρ ρ':Nat→Nat}(h:∀b,b<n→ρ' b=ρ b):∀x:AV,below n x=true→an ρ' x=an ρ x
 |.any,_=>rfl
 |.lit _,_=>rfl
 |.slice sz xs r,hb=>by simp only[an];rw[abY h xs hb]
 |.ref cs,hb=>by simp only[an];rw[abY h cs hb]
 |.aj b o,hb=>by simp only[an];rw[h b (Nat.lt_of_succ_le (by simpa[below,Nat.blt] using hb))]
 |.aq b _ _ _ _,hb=>by simp only[an];rw[h b (Nat.lt_of_succ_le (by simpa[below,Nat.blt] using hb))]
 |.agg cs,hb=>by simp only[an];rw[abY h cs hb]
 |.tuple vs,hb=>by simp only[an];rw[abY h vs hb]
 |.func f a b,hb=>by
  simp only[below,Bool.and_eq_true] at hb
  simp only[an];rw[R_ h f hb.1.1,abY h a hb.1.2,abY h b hb.2]
 |.ghost b _ _,hb=>by simp only[an];rw[h b (Nat.lt_of_succ_le (by simpa[below,Nat.blt] using hb))]
 |.aZ b,hb=>by simp only[an];rw[h b (Nat.lt_of_succ_le (by simpa[below,Nat.blt] using hb))]
 |.fmap _,_=>rfl
theorem abY{n:Nat}{ρ ρ':Nat→Nat}(h:∀b,b<n→ρ' b=ρ b):∀xs:List AV,bn n xs=true→eD ρ' xs=eD ρ xs
 |[],_=>rfl
 |x::xs,hb=>by
  simp only[bn,Bool.and_eq_true] at hb
  simp only[eD];rw[abX h x hb.1,abY h xs hb.2]
end
section
variable (ρ:Nat→Nat)
theorem kH(x:AV):(an ρ x).cells=x.cells.map (an ρ):=by cases x<;>simp only[an,AV.cells,cL,List.map_cons,List.map_nil]
theorem Sa(x:AV):(an ρ x).bE=x.bE:=by cases x<;>simp only[an,AV.bE]
theorem Ah(x:AV):(an ρ x).erase0=an ρ x.erase0:=by cases x<;>simp only[an,AV.erase0]
theorem gP(x:AV):(an ρ x).erase=an ρ x.erase:=by
 cases x<;>simp only[an,AV.erase,cL,List.map_map]
 congr 1
 exact List.map_congr_left fun y _=>Ah ρ y
theorem sY(r:Nat)(x:AV):az r (an ρ x)=an ρ (az r x):=by
 cases x<;>simp only[an,az]
 split<;>simp only[an]
theorem sZ(xs:List AV)(i:Nat):(xs.map (an ρ)).getD i .any=an ρ (xs.getD i .any):=by
 simp only[List.getD_eq_getElem?_getD,List.getElem?_map]
 cases xs[i]? <;>simp[an]
theorem vH:∀(ys cs:List AV) (off:Nat),splice (cs.map (an ρ)) off (ys.map (an ρ))=(splice cs off ys).map (an ρ)
 |[],_,_=>rfl
 |y::ys,cs,off=>by
  simp only[List.map_cons,splice]
  rw[←List.map_set,vH ys]
theorem nT(xs:List AV):(xs.map (an ρ)).map AV.erase0=(xs.map AV.erase0).map (an ρ):=by
 simp only[List.map_map]
 exact List.map_congr_left fun y _=>Ah ρ y
theorem vI(xs:List AV):(xs.map (an ρ)).all AV.bE=xs.all AV.bE:=by
 induction xs with
 |nil=>rfl
 |cons x xs ih=>simp only[List.map_cons,List.all_cons,Sa,ih]
theorem Sb(xs:List AV):(xs.map (an ρ)).flatMap AV.cells=(xs.flatMap AV.cells).map (an ρ):=by
 induction xs with
 |nil=>rfl
 |cons x xs ih=>simp only[List.map_cons,List.flatMap_cons,ih,kH,List.map_append]
theorem E3(sz:Nat):∀(n:Nat) (cs:List AV),chunk sz (cs.map (an ρ)) n=(chunk sz cs n).map (an ρ)
 |0,_=>rfl
 |n+1,cs=>by
  simp only[chunk,List.map_cons]
  rw[←List.map_drop,E3 sz n]
  congr 1
  split
  ·rw[sZ,Ah]
  ·simp only[an,cL,←List.map_take,nT]
theorem adg:∀(ks:List Bool) (xs ys:List AV),cD ks (xs.map (an ρ)) (ys.map (an ρ))=cD ks xs ys
 |[],[],[]=>rfl
 |[],[],_::_=>by simp[cD]
 |[],_::_,_=>by simp[cD]
 |k::ks,[],_=>by cases k<;>simp[cD]
 |k::ks,x::xs,[]=>by cases k<;>simp[cD]
 |k::ks,x::xs,y::ys=>by
  have ih:=adg ks xs ys
  simp only[List.map_cons]
  cases k<;>cases x<;>simp only[an,cD]
  all_goals
   rename_i v
   cases v<;>(try simp only[cD])
   all_goals
    cases y<;>(try simp only[an,cD])
    all_goals
     rename_i u
     cases u<;>(try simp only[cD,ih])
end
end Go.Z4
namespace Go.Z4
inductive T (α:Type) where
 |nil
 |node (v:Option α) (l r:T α)
def T.get{α:Type}:T α→Nat→Option α
 |.nil,_=>none
 |.node v _ _,0=>v
 |.node _ l r,n+1=>bif Nat.beq (n%2) 0 then l.get (n / 2) else r.get (n / 2)
def T.set{α:Type}:Nat→T α→Nat→Option α→T α
 |0,t,_,_=>t
 |_+1,.nil,0,x=>.node x .nil .nil
 |_+1,.node _ l r,0,x=>.node x l r
 |f+1,.nil,n+1,x=>bif Nat.beq (n%2) 0 then .node none (T.set f .nil (n / 2) x) .nil else .node none .nil (T.set f .nil (n / 2) x)
 |f+1,.node v l r,n+1,x=>bif Nat.beq (n%2) 0 then .node v (T.set f l (n / 2) x) r else .node v l (T.set f r (n / 2) x)
def T.map{α:Type}(g:α→α):T α→T α
 |.nil=>.nil
 |.node v l r=>.node (v.map g) (l.map g) (r.map g)
theorem T.get_nil{α:Type}(n:Nat):(T.nil:T α).get n=none:=by cases n<;>rfl
theorem T.get_map{α:Type}(g:α→α):∀(t:T α) (n:Nat),(t.map g).get n=(t.get n).map g
 |.nil,n=>by rw[T.map,T.get_nil];rfl
 |.node v l r,0=>rfl
 |.node v l r,n+1=>by
  simp only[T.map,T.get,T.get_map g l,T.get_map g r]
  cases Nat.beq (n%2) 0<;>rfl
theorem vJ{n k:Nat}(h1:Nat.beq (n%2) 0=Nat.beq (k%2) 0)(h2:n / 2=k / 2):n=k:=by rcases Nat.mod_two_eq_zero_or_one n with h|h<;>rcases Nat.mod_two_eq_zero_or_one k with h'|h'<;>rw[h,h'] at h1<;>first|omega|simp[Nat.beq] at h1
theorem T.ia{α:Type}:∀(f:Nat) (t:T α) (n:Nat) (x:Option α) (k:Nat),n+1<2^f→(T.set f t n x).get k=if k=n then x else t.get k
 |0,_,n,_,_,h=>by simp at h
 |f+1,.nil,0,x,k,_=>by cases k with
  |zero=>rfl
  |succ k=>
   rw[if_neg (by omega)]
   simp only[T.set,T.get]
   cases Nat.beq (k%2) 0<;>rfl
 |f+1,.node v l r,0,x,k,_=>by cases k with
  |zero=>rfl
  |succ k=>rw[if_neg (by omega)];rfl
 |f+1,.nil,n+1,x,k,h=>by
  have h2:n / 2+1<2^f:=by rw[Nat.pow_succ] at h;omega
  have ih:=T.ia f .nil (n / 2) x
  cases k with
  |zero=>
   rw[if_neg (by omega)]
   simp only[T.set]
   cases Nat.beq (n%2) 0<;>rfl
  |succ k=>
   simp only[T.set,T.get_nil]
   cases hn:Nat.beq (n%2) 0<;>cases hk:Nat.beq (k%2) 0<;>simp only[cond_true,cond_false,T.get,hk,ih _ h2]
   ·by_cases e:k=n
    ·subst e;simp
    ·rw[if_neg (fun e2=>e (vJ (hk.trans hn.symm) e2)),if_neg (by omega)]
   ·rw[if_neg (by intro e;have:k=n:=by omega
                  subst this;rw[hn] at hk;cases hk)]
   ·rw[if_neg (by intro e;have:k=n:=by omega
                  subst this;rw[hn] at hk;cases hk)]
   ·by_cases e:k=n
    ·subst e;simp
    ·rw[if_neg (fun e2=>e (vJ (hk.trans hn.symm) e2)),if_neg (by omega)]
 |f+1,.node v l r,n+1,x,k,h=>by
  have h2:n / 2+1<2^f:=by rw[Nat.pow_succ] at h;omega
  have ihl:=T.ia f l (n / 2) x
  have ihr:=T.ia f r (n / 2) x
  cases k with
  |zero=>
   rw[if_neg (by omega)]
   simp only[T.set]
   cases Nat.beq (n%2) 0<;>rfl
  |succ k=>
   simp only[T.set]
   cases hn:Nat.beq (n%2) 0<;>cases hk:Nat.beq (k%2) 0<;>simp only[cond_true,cond_false,T.get,hk,ihl _ h2,ihr _ h2]
   ·by_cases e:k=n
    ·subst e;simp
    ·rw[if_neg (fun e2=>e (vJ (hk.trans hn.symm) e2)),if_neg (by omega)]
   ·rw[if_neg (by intro e;have:k=n:=by omega
                  subst this;rw[hn] at hk;cases hk)]
   ·rw[if_neg (by intro e;have:k=n:=by omega
                  subst this;rw[hn] at hk;cases hk)]
   ·by_cases e:k=n
    ·subst e;simp
    ·rw[if_neg (fun e2=>e (vJ (hk.trans hn.symm) e2)),if_neg (by omega)]
structure ES where
 env:T AV
 loc:T (List AV)
 obj:T AV
 gh:AV
 nx:Nat
def ES.at(e:ES)(k:Nat):AV:=(e.env.get k).getD .any
structure Rel (ρ:Nat→Nat) (e:ES) (s:St):Prop where
 env:∀k,k<gS→s.env k=an ρ (e.at k)
 jn:∀k,below e.nx (e.at k)=true
 gh:s.env gS=an ρ e.gh
 gb:below e.nx e.gh=true
 loc:∀b cs,e.loc.get b=some cs→b<e.nx∧s.loc (ρ b)=some (cs.map (an ρ))∧bn e.nx cs=true
 kI:∀b b',e.loc.get b≠none→e.loc.get b'≠none→ρ b=ρ b'→b=b'
 obj:∀b x,e.obj.get b=some x→b<e.nx∧s.env (oS+ρ b)=x∧x≠.any
 lG:∀b b',e.obj.get b≠none→e.obj.get b'≠none→ρ b=ρ b'→b=b'
 og:∀b x,e.obj.get b=some x→fR x=true
 gg:fR e.gh=true
mutual
theorem jo{n m:Nat}(h:n≤m):∀x:AV,below n x=true→below m x=true
 |.any,_=>rfl
 |.lit _,_=>rfl
 |.slice _ xs _,hb=>by simp only[below] at hb⊢;exact iK h xs hb
 |.ref cs,hb=>by simp only[below] at hb⊢;exact iK h cs hb
 |.aj b o,hb=>by simp only[below,Nat.blt,Nat.ble_eq] at hb⊢;omega
 |.aq b _ _ _ _,hb=>by simp only[below,Nat.blt,Nat.ble_eq] at hb⊢;omega
 |.agg cs,hb=>by simp only[below] at hb⊢;exact iK h cs hb
 |.tuple vs,hb=>by simp only[below] at hb⊢;exact iK h vs hb
 |.func f a b,hb=>by
  simp only[below,Bool.and_eq_true] at hb⊢
  refine⟨⟨?_,iK h a hb.1.2⟩,iK h b hb.2⟩
  have hb:=hb.1.1
  cases f<;>simp only[qE,Nat.blt,Nat.ble_eq] at hb⊢
  omega
 |.ghost _ _ _,hb=>by simp only[below,Nat.blt,Nat.ble_eq] at hb⊢;omega
 |.aZ b,hb=>by simp only[below,Nat.blt,Nat.ble_eq] at hb⊢;omega
 |.fmap _,_=>rfl
theorem iK{n m:Nat}(h:n≤m):∀xs:List AV,bn n xs=true→bn m xs=true
 |[],_=>rfl
 |x::xs,hb=>by
  simp only[bn,Bool.and_eq_true] at hb⊢
  exact⟨jo h x hb.1,iK h xs hb.2⟩
end
theorem gQ{ρ:Nat→Nat}{x:AV}(h:below 0 x=true):an ρ x=x:=by
 have h1:an ρ x=an id x:=abX (n:=0) (fun b hb=>by omega) x h
 rw[h1];exact Sc x
where
 Sc (x:AV):an id x=x:=by exact(go x)
 go:∀x:AV,an id x=x
  |.any=>rfl
  |.lit _=>rfl
  |.slice sz xs r=>by simp only[an,goL xs]
  |.ref cs=>by simp only[an,goL cs]
  |.aj b o=>by simp only[an,id]
  |.aq .. =>by simp only[an,id]
  |.agg cs=>by simp only[an,goL cs]
  |.tuple vs=>by simp only[an,goL vs]
  |.func f a b=>by simp only[an,goL a,goL b];cases f<;>simp only[abo,id]
  |.ghost .. =>by simp only[an,id]
  |.aZ _=>by simp only[an,id]
  |.fmap _=>rfl
 goL:∀xs:List AV,eD id xs=xs
  |[]=>rfl
  |x::xs=>by simp only[eD,go x,goL xs]
section
variable {n:Nat}
theorem ff{xs:List AV}:bn n xs=true↔∀x∈xs,below n x=true:=by
 induction xs with
 |nil=>simp[bn]
 |cons x xs ih=>simp[bn,ih]
theorem ab0{x:AV}(h:below n x=true):bn n x.cells=true:=by cases x<;>simp only[AV.cells,bn,below,Bool.and_true,Bool.and_eq_true] at h⊢ <;>first|exact h|exact⟨h,rfl⟩|(try exact h)
theorem E5{x:AV}(h:below n x=true):below n x.erase0=true:=by cases x<;>exact h
theorem mJ{xs:List AV}(h:bn n xs=true):bn n (xs.map AV.erase0)=true:=by
 rw[ff] at h⊢
 intro y hy
 obtain⟨z,hz,rfl⟩:=List.mem_map.1 hy
 exact E5 (h z hz)
theorem gR{x:AV}(h:below n x=true):below n x.erase=true:=by cases x<;>first|exact h|(simp only[AV.erase,below] at h⊢;exact mJ h)
theorem adh{x:AV}(r:Nat)(h:below n x=true):below n (az r x)=true:=by cases x<;>first|exact h|(simp only[az];split<;>exact h)
theorem vK{xs:List AV}(r:Nat)(h:bn n xs=true):bn n (xs.map (az r))=true:=by
 rw[ff] at h⊢
 intro y hy
 obtain⟨z,hz,rfl⟩:=List.mem_map.1 hy
 exact adh r (h z hz)
theorem ab1{xs:List AV}(i:Nat)(h:bn n xs=true):below n (xs.getD i .any)=true:=by
 rw[ff] at h
 rw[List.getD_eq_getElem?_getD]
 cases hx:xs[i]? with
 |none=>rfl
 |some x=>exact h x (List.mem_of_getElem? hx)
theorem vL{xs:List AV}(i:Nat)(h:bn n xs=true):bn n (xs.take i)=true:=by rw[ff] at h⊢;exact fun x hx=>h x (List.mem_of_mem_take hx)
theorem acu{xs:List AV}(i:Nat)(h:bn n xs=true):bn n (xs.drop i)=true:=by rw[ff] at h⊢;exact fun x hx=>h x (List.mem_of_mem_drop hx)
theorem vM{xs:List AV}{x:AV}(i:Nat)(h:bn n xs=true)(hx:below n x=true):bn n (xs.set i x)=true:=by
 rw[ff] at h⊢
 intro y hy
 rcases List.mem_or_eq_of_mem_set hy with h1|rfl
 ·exact h y h1
 ·exact hx
theorem acv{xs ys:List AV}(h:bn n xs=true)(h':bn n ys=true):bn n (xs++ys)=true:=by
 rw[ff] at h h'⊢
 intro y hy
 rcases List.mem_append.1 hy with h1|h1
 ·exact h y h1
 ·exact h' y h1
theorem vN:∀(ys cs:List AV) (off:Nat),bn n cs=true→bn n ys=true→bn n (splice cs off ys)=true
 |[],_,_,h,_=>h
 |y::ys,cs,off,h,h'=>by
  simp only[bn,Bool.and_eq_true] at h'
  exact vN ys _ _ (vM off h h'.1) h'.2
theorem Sd{xs:List AV}(h:bn n xs=true):bn n (xs.flatMap AV.cells)=true:=by
 rw[ff] at h⊢
 intro y hy
 obtain⟨z,hz,hy⟩:=List.mem_flatMap.1 hy
 exact ff.1 (ab0 (h z hz)) y hy
theorem adi(sz:Nat):∀(k:Nat) (cs:List AV),bn n cs=true→bn n (chunk sz cs k)=true
 |0,_,_=>rfl
 |k+1,cs,h=>by
  simp only[chunk,bn,Bool.and_eq_true]
  refine⟨?_,adi sz k _ (acu sz h)⟩
  split
  ·exact E5 (ab1 0 h)
  ·simp only[below];exact mJ (vL sz h)
theorem Se{x:AV}(k:Nat)(h:below n x=true):bn n (List.replicate k x)=true:=by rw[ff];intro y hy;rw[(List.mem_replicate.1 hy).2];exact h
end
end Go.Z4
namespace Go.Z4
section
variable {R:Type}
def fN(m:Nat)(k:Nat→R):R:=match m with
 |0=>k 0
 |m+1=>k (m+1)
def fI(n:Int)(k:Int→R):R:=match n with
 |.ofNat m=>fN m fun m=>k (.ofNat m)
 |.negSucc m=>fN m fun m=>k (.negSucc m)
def fB(b:Bool)(k:Bool→R):R:=match b with
 |true=>k true
 |false=>k false
def fV(v:Value)(k:Value→R):R:=match v with
 |.int kd n=>fI n fun n=>k (.int kd n)
 |.bool b=>fB b fun b=>k (.bool b)
 |v=>k v
def fA(x:AV)(k:AV→R):R:=match x with
 |.any=>k .any
 |.lit v=>fV v fun v=>k (.lit v)
 |.slice sz xs r=>k (.slice sz xs r)
 |.ref cs=>k (.ref cs)
 |.aj b o=>fN o fun o=>k (.aj b o)
 |.aq b o l c sz=>fN o fun o=>fN l fun l=>k (.aq b o l c sz)
 |.agg cs=>k (.agg cs)
 |.tuple vs=>k (.tuple vs)
 |.func fn a b=>k (.func fn a b)
 |.ghost l r s=>k (.ghost l r s)
 |.aZ b=>k (.aZ b)
 |.fmap es=>k (.fmap es)
def fL:List AV→(List AV→R)→R
 |[],k=>k []
 |x::xs,k=>fA x fun x=>fL xs fun xs=>k (x::xs)
theorem nU(m:Nat)(k:Nat→R):fN m k=k m:=by cases m<;>rfl
theorem Sf(n:Int)(k:Int→R):fI n k=k n:=by cases n<;>simp only[fI,nU]
theorem Sg(b:Bool)(k:Bool→R):fB b k=k b:=by cases b<;>rfl
theorem Sh(v:Value)(k:Value→R):fV v k=k v:=by unfold fV;split<;>simp only[Sf,Sg]
theorem vO(x:AV)(k:AV→R):fA x k=k x:=by cases x<;>simp only[fA,Sh,nU]
theorem eO:∀(xs:List AV) (k:List AV→R),fL xs k=k xs
 |[],_=>rfl
 |x::xs,k=>by simp only[fL,vO,eO xs]
def jq{α:Type}:Nat→T α→Nat→Option α→(T α→R)→R
 |0,t,_,_,k=>k t
 |_+1,.nil,0,x,k=>k (.node x .nil .nil)
 |_+1,.node _ l r,0,x,k=>k (.node x l r)
 |f+1,.nil,n+1,x,k=>bif Nat.beq (n%2) 0 then jq f .nil (n / 2) x (fun t=>k (.node none t .nil)) else jq f .nil (n / 2) x (fun t=>k (.node none .nil t))
 |f+1,.node v l r,n+1,x,k=>bif Nat.beq (n%2) 0 then jq f l (n / 2) x (fun t=>k (.node v t r)) else jq f r (n / 2) x (fun t=>k (.node v l t))
theorem nV{α:Type}:∀(f:Nat) (t:T α) (n:Nat) (x:Option α) (k:T α→R),jq f t n x k=k (T.set f t n x)
 |0,_,_,_,_=>rfl
 |_+1,.nil,0,_,_=>rfl
 |_+1,.node _ _ _,0,_,_=>rfl
 |f+1,.nil,n+1,x,k=>by simp only[jq,T.set,nV f];cases Nat.beq (n%2) 0<;>rfl
 |f+1,.node v l r,n+1,x,k=>by simp only[jq,T.set,nV f];cases Nat.beq (n%2) 0<;>rfl
def nW(r:Nat):T AV→(T AV→R)→R
 |.nil,k=>k .nil
 |.node none a b,k=>nW r a fun a=>nW r b fun b=>k (.node none a b)
 |.node (some x) a b,k=>fA (az r x) fun x=>nW r a fun a=>nW r b fun b=>k (.node (some x) a b)
theorem acw(r:Nat):∀(t:T AV) (k:T AV→R),nW r t k=k (t.map (az r))
 |.nil,_=>rfl
 |.node none a b,k=>by simp only[nW,acw r a,acw r b];rfl
 |.node (some x) a b,k=>by simp only[nW,vO,acw r a,acw r b];rfl
def nX(r:Nat):T (List AV)→(T (List AV)→R)→R
 |.nil,k=>k .nil
 |.node none a b,k=>nX r a fun a=>nX r b fun b=>k (.node none a b)
 |.node (some x) a b,k=>fL (x.map (az r)) fun x=>nX r a fun a=>nX r b fun b=>k (.node (some x) a b)
theorem s5(r:Nat):∀(t:T (List AV)) (k:T (List AV)→R),nX r t k=k (t.map (·.map (az r)))
 |.nil,_=>rfl
 |.node none a b,k=>by simp only[nX,s5 r a,s5 r b];rfl
 |.node (some x) a b,k=>by simp only[nX,eO,s5 r a,s5 r b];rfl
end
def o_:IntKind→Int→Bool
 |.i8,n=>decide (-128≤n)&&decide (n≤127)
 |.i16,n=>decide (-32768≤n)&&decide (n≤32767)
 |.i32,n=>decide (-2147483648≤n)&&decide (n≤2147483647)
 |.i64,n=>decide (-9223372036854775808≤n)&&decide (n≤9223372036854775807)
 |.u8,n=>decide (0≤n)&&decide (n≤255)
 |.u16,n=>decide (0≤n)&&decide (n≤65535)
 |.u32,n=>decide (0≤n)&&decide (n≤4294967295)
 |.u64,n=>decide (0≤n)&&decide (n≤18446744073709551615)
theorem Ai{k:IntKind}{n:Int}(h:o_ k n=true):fJ k n:=by cases k<;>simpa[o_,fJ] using h
def Aj(a b:ByteArray):Bool:=a.data.toList==b.data.toList
def Ak(op:BinOp)(k:IntKind)(a b:Int):Option AV:=
 match op with
 |.add=>bif o_ k (a+b) then some (.lit (.int k (a+b))) else none
 |.sub=>bif o_ k (a - b) then some (.lit (.int k (a - b))) else none
 |.mul=>bif o_ k (a*b) then some (.lit (.int k (a*b))) else none
 |.quo=>bif b != 0&&o_ k (a.tdiv b) then some (.lit (.int k (a.tdiv b))) else none
 |.rem=>bif b != 0 then some (.lit (.int k (a.tmod b))) else none
 |.and|.or|.xor|.andNot=>some (.lit (.int k (abh op k a b)))
 |.eql=>some (.lit (.bool (a==b)))
 |.neq=>some (.lit (.bool (a != b)))
 |.lss=>some (.lit (.bool (decide (a<b))))
 |.leq=>some (.lit (.bool (decide (a≤b))))
 |.gtr=>some (.lit (.bool (decide (a>b))))
 |.geq=>some (.lit (.bool (decide (a≥b))))
 |_=>none
theorem Si{op:BinOp}{k:IntKind}{a b:Int}{v:AV}(h:Ak op k a b=some v){K:AV→Prop}(hk:K v):en op k a b K:=by
 cases op<;>simp only[Ak,Bool.cond_eq_ite] at h<;>simp only[en]<;>first
  |(cases h;done)
  |(injection h with h;rw[h];exact hk)
  |(split at h
    ·rename_i hc;injection h with h;rw[h]
     first
      |exact⟨Ai hc,hk⟩
      |(simp only[Bool.and_eq_true,bne_iff_ne] at hc;exact⟨hc.1,Ai hc.2,hk⟩)
      |exact⟨by simpa using hc,hk⟩
    ·cases h)
def vP(op:BinOp)(k:IntKind)(a b:Int):Option AV:=
 match op,b with
 |.shl,.ofNat m=>some (.lit (.int k (k.wrap (a*2^(min m k.bits)))))
 |.shr,.ofNat m=>some (.lit (.int k (a.fdiv (2^(min m k.bits)))))
 |_,_=>none
theorem adj{op:BinOp}{k:IntKind}{a b:Int}{v:AV}(h:vP op k a b=some v){K:AV→Prop}(hk:K v):shI op k a b K:=by
 unfold vP at h
 split at h
 ·injection h with h;subst h;exact⟨Int.natCast_nonneg _,hk⟩
 ·injection h with h;subst h;exact⟨Int.natCast_nonneg _,hk⟩
 ·cases h
def Al(op:BinOp)(a b:ByteArray):Option AV:=
 match op with
 |.eql=>some (.lit (.bool (Aj a b)))
 |.neq=>some (.lit (.bool (!Aj a b)))
 |_=>none
theorem Am(a:ByteArray):a.toList=a.data.toList:=by
 have key:∀(n i:Nat) (r:List UInt8),a.size - i=n→ByteArray.toList.loop a i r=r.reverse++a.data.toList.drop i:=by
  intro n
  induction n with
  |zero=>
   intro i r h
   unfold ByteArray.toList.loop
   rw[if_neg (by omega)]
   have:a.data.toList.length≤i:=by simp;have:a.size=a.data.size:=rfl;omega
   rw[List.drop_of_length_le this,List.append_nil]
  |succ n ih=>
   intro i r h
   unfold ByteArray.toList.loop
   have hlt:i<a.size:=by omega
   rw[if_pos hlt,ih (i+1) _ (by omega)]
   have hl:i<a.data.toList.length:=by simp;exact hlt
   rw[List.drop_eq_getElem_cons hl]
   simp[ByteArray.get!,getElem!_pos a.data i hlt]
 have:=key a.size 0 [] (by omega)
 simpa[ByteArray.toList] using this
theorem Sj{op:BinOp}{a b:ByteArray}{v:AV}(h:Al op a b=some v){K:AV→Prop}(hk:K v):k6 op a b K:=by
 cases op<;>simp only[Al,Aj] at h<;>first|(cases h;done)|skip
 all_goals (injection h with h;subst h;simp only[k6,Am];exact hk)
def s6(op:BinOp)(x y:AV):Option AV:=
 match x,y with
 |.lit (.int k a),.lit (.int k' b)=>match op with
  |.shl=>vP .shl k a b
  |.shr=>vP .shr k a b
  |_=>if k=k' then Ak op k a b else none
 |.lit (.string a),.lit (.string b)=>Al op a b
 |_,_=>none
theorem Sk{op:BinOp}{x y v:AV}(h:s6 op x y=some v){K:AV→Prop}(hk:K v):cX op x y K:=by
 unfold s6 at h
 split at h
 ·rename_i k a k' b
  simp only[cX]
  split at h
  ·exact adj h hk
  ·exact adj h hk
  ·split at h
   ·rename_i hkk
    split
    ·rename_i hne _;exact absurd rfl hne
    ·rename_i hne;exact absurd rfl hne
    ·exact⟨hkk,Si h hk⟩
   ·cases h
 ·exact Sj h hk
 ·cases h
theorem Sl{op:BinOp}{x y v:AV}(h:s6 op x y=some v)(ρ:Nat→Nat):an ρ x=x∧an ρ y=y:=by
 unfold s6 at h
 split at h
 ·exact⟨rfl,rfl⟩
 ·exact⟨rfl,rfl⟩
 ·cases h
end Go.Z4
namespace Go.Z4
section
variable {R:Type} (e:ES) (fail:R)
def bC(a:ai)(k:AV→R):R:=match a with
 |.t n=>bif Nat.blt n 1000000 then k (e.at n) else fail
 |.c x=>bif below 0 x then k x else fail
def eK(x:AV)(k:AV→R):R:=match x with
 |.slice sz xs _=>k (.slice sz xs 0)
 |.agg cs=>fL (cs.map AV.erase0) fun cs=>k (.agg cs)
 |x=>k x
theorem aaH(x:AV)(k:AV→R):eK x k=k x.erase:=by cases x<;>simp only[eK,eO,AV.erase]
def ab2:List ai→(List AV→R)→R
 |[],k=>k []
 |a::as,k=>bC e fail a fun x=>eK x fun x=>ab2 as fun xs=>k (x::xs)
def nY(cs:List AV)(off:Nat)(n:Option Nat)(k:AV→R):R:=match n with
 |none=>bif Nat.blt off cs.length then k (cs.getD off .any) else fail
 |some n=>bif Nat.ble (off+n) cs.length then fL (((cs.drop off).take n).map AV.erase0) fun c=>k (.agg c) else fail
def nZ(n:Int)(len:Nat):Bool:=match n with
 |.ofNat m=>Nat.blt m len
 |.negSucc _=>false
def s7(n:Int)(len:Nat):Bool:=match n with
 |.ofNat m=>Nat.ble m len
 |.negSucc _=>false
theorem qF{n:Int}{len:Nat}(h:nZ n len=true):0≤n∧n<len∧n.toNat<len:=by
 cases n with
 |ofNat m=>
  have h1:m<len:=Nat.lt_of_succ_le (by simpa[nZ,Nat.blt] using h)
  simp only[Int.ofNat_eq_natCast,Int.toNat_natCast];omega
 |negSucc m=>cases h
theorem An{n:Int}{len:Nat}(h:s7 n len=true):0≤n∧n≤len:=by
 cases n with
 |ofNat m=>
  have h1:m≤len:=by simpa[s7] using h
  simp only[Int.ofNat_eq_natCast];omega
 |negSucc m=>cases h
def Ao(cs:List AV):List (Nat×Nat×ai)→(List AV→R)→R
 |[],k=>k cs
 |(off,n,x)::ps,k=>bC e fail x fun x=>bif Nat.beq x.cells.length n&&Nat.ble (off+n) cs.length then fL (splice cs off (x.cells.map AV.erase0)) fun cs=>Ao cs ps k else fail
def Sm(d:Nat)(x:ai)(k:Nat→AV→R):R:=bC e fail x fun x=>k d x
def Sn(d:Nat)(x:ai)(k:Nat→AV→R):R:=bC e fail x fun x=>eK x fun x=>k d x
def So(d:Nat)(x:ai)(k:Nat→AV→R):R:=bC e fail x fun x=>match x with
 |.lit (.string u)=>k d (.lit (.string u))
 |_=>fail
def Sq(d:Nat)(x:ai)(n:Nat)(k:Nat→AV→R):R:=bC e fail x fun x=>bif Nat.beq x.cells.length n then fL (x.cells.map AV.erase0) fun cs=>k d (.ref cs) else fail
def Sr(d:Nat)(x:ai)(n:Option Nat)(k:Nat→AV→R):R:=bC e fail x fun x=>match x with
 |.ref cs=>nY fail cs 0 n fun v=>eK v fun v=>k d v
 |.aj b off=>match e.loc.get b with
  |some cs=>nY fail cs off n fun v=>k d v
  |none=>fail
 |_=>fail
def Ss(d:Nat)(x:ai)(n:Option Nat)(k:Nat→AV→R):R:=bC e fail x fun x=>match x with
 |.ref cs=>nY fail cs 0 n fun v=>eK v fun v=>k d v
 |_=>fail
def adR(d:Nat)(x:ai)(off:Nat)(k:Nat→AV→R):R:=bC e fail x fun x=>match x with
 |.ref cs=>fL (cs.drop off) fun cs=>k d (.ref cs)
 |.aj b o=>k d (.aj b (o+off))
 |_=>fail
def Su(d:Nat)(x:ai)(i:ai)(sz:Nat)(k:Nat→AV→R):R:=bC e fail x fun x=>bC e fail i fun i=>match x,i with
 |.slice sz' xs _,.lit (.int _ n)=>bif Nat.beq sz' sz&&nZ n xs.length then fL (xs.getD n.toNat .any).cells fun cs=>k d (.ref cs) else fail
 |.aq b off len _ sz',.lit (.int _ n)=>bif Nat.beq sz' sz&&nZ n len then k d (.aj b (off+n.toNat*sz)) else fail
 |_,_=>fail
def Sv(d:Nat)(x:ai)(i:ai)(len:Nat)(sz:Nat)(k:Nat→AV→R):R:=bC e fail x fun x=>bC e fail i fun i=>match x,i with
 |.ref cs,.lit (.int _ n)=>bif nZ n len then fL (cs.drop (n.toNat*sz)) fun cs=>k d (.ref cs) else fail
 |.aj b off,.lit (.int _ n)=>bif nZ n len then k d (.aj b (off+n.toNat*sz)) else fail
 |_,_=>fail
def Sw(d:Nat)(x:ai)(off:Nat)(n:Option Nat)(k:Nat→AV→R):R:=bC e fail x fun x=>match x with
 |.agg cs=>nY fail cs off n fun v=>eK v fun v=>k d v
 |_=>fail
def Sx(d:Nat)(x:ai)(i:ai)(len:Nat)(sz:Nat)(n:Option Nat)(k:Nat→AV→R):R:=bC e fail x fun x=>bC e fail i fun i=>match x,i with
 |.agg cs,.lit (.int _ j)=>bif nZ j len then nY fail cs (j.toNat*sz) n fun v=>eK v fun v=>k d v else fail
 |_,_=>fail
def Sy(d:Nat)(x:ai)(i:ai)(k:Nat→AV→R):R:=bC e fail x fun x=>bC e fail i fun i=>match x,i with
 |.lit (.string u),.lit (.int _ j)=>bif nZ j u.size then k d (.lit (.int .u8 (u.data.toList.getD j.toNat 0).toNat)) else fail
 |_,_=>fail
def Sz(d:Nat)(x:ai)(k:Nat→AV→R):R:=bC e fail x fun x=>match x with
 |.slice _ xs _=>k d (.lit (.int .i64 xs.length))
 |.aq _ _ len _ _=>k d (.lit (.int .i64 len))
 |_=>fail
def SA(d:Nat)(x:ai)(k:Nat→AV→R):R:=bC e fail x fun x=>match x with
 |.lit (.string u)=>k d (.lit (.int .i64 u.size))
 |_=>fail
def SB(d:Nat)(op:BinOp)(x:ai)(y:ai)(k:Nat→AV→R):R:=bC e fail x fun x=>bC e fail y fun y=>match s6 op x y with
 |some (.lit v)=>k d (.lit v)
 |_=>fail
def SC(d:Nat)(neg:Bool)(x:ai)(y:ai)(k:Nat→AV→R):R:=bC e fail x fun x=>bC e fail y fun y=>match x,y with
 |.lit (.bool a),.lit (.bool b)=>k d (.lit (.bool (if neg then !(a==b) else a==b)))
 |_,_=>fail
def SD(d:Nat)(z:List AV)(ps:List (Nat×Nat×ai))(k:Nat→AV→R):R:=bif bn 0 z then Ao e fail z ps fun cs=>k d (.agg cs) else fail
def SE(d:Nat)(neg:Bool)(n:List Bool)(x:ai)(y:ai)(k:Nat→AV→R):R:=bC e fail x fun x=>bC e fail y fun y=>match x,y with
 |.agg a,.agg b=>bif Nat.beq a.length n.length&&Nat.beq b.length n.length then (match cD n a b with
  |some q=>k d (.lit (.bool (if neg then !q else q)))
  |none=>fail) else fail
 |_,_=>fail
def SF(d:Nat)(x:ai)(k:Nat→AV→R):R:=bC e fail x fun x=>match x with
 |.lit (.bool a)=>k d (.lit (.bool (!a)))
 |_=>fail
def SG(d:Nat)(x:ai)(k:Nat→AV→R):R:=bC e fail x fun x=>match x with
 |.lit (.int q a)=>bif o_ q (0 - a) then k d (.lit (.int q (0 - a))) else fail
 |_=>fail
def SH(d:Nat)(q:IntKind)(x:ai)(k:Nat→AV→R):R:=bC e fail x fun x=>match x with
 |.lit (.int _ a)=>k d (.lit (.int q (q.wrap a)))
 |_=>fail
def SI(d:Nat)(c:ai)(x:ai)(y:ai)(k:Nat→AV→R):R:=bC e fail c fun c=>match c with
 |.lit (.bool true)=>bC e fail x fun x=>k d x
 |.lit (.bool false)=>bC e fail y fun y=>k d y
 |_=>fail
def SJ(d:Nat)(x:ai)(i:Nat)(k:Nat→AV→R):R:=bC e fail x fun x=>match x with
 |.tuple vs=>bif Nat.blt i vs.length then eK (vs.getD i .any) fun v=>k d v else fail
 |_=>fail
def SK(d:Nat)(x:ai)(y:ai)(k:Nat→AV→R):R:=bC e fail x fun x=>bC e fail y fun y=>match x,y with
 |.lit (.int q a),.lit (.int _ b)=>k d (.lit (.int q (if b>a then b else a)))
 |_,_=>fail
def adS(d:Nat)(x:ai)(y:ai)(k:Nat→AV→R):R:=bC e fail x fun x=>bC e fail y fun y=>match x,y with
 |.lit (.int q a),.lit (.int _ b)=>k d (.lit (.int q (if b<a then b else a)))
 |_,_=>fail
def SM(d:Nat)(x:ai)(k:Nat→AV→R):R:=bC e fail x fun x=>match x with
 |.ref cs=>k d (.ref cs)
 |.aj b o=>k d (.aj b o)
 |_=>fail
def SN(d:Nat)(x:ai)(hi:ai)(sz:Nat)(k:Nat→AV→R):R:=bC e fail x fun x=>bC e fail hi fun hi=>match x,hi with
 |.slice sz' xs _,.lit (.int _ n)=>bif (Nat.beq sz' sz||xs.isEmpty)&&s7 n xs.length then fL (xs.take n.toNat) fun xs=>k d (.slice sz xs 0) else fail
 |_,_=>fail
def SO(d:Nat)(x:ai)(lo:ai)(sz:Nat)(k:Nat→AV→R):R:=bC e fail x fun x=>bC e fail lo fun lo=>match x,lo with
 |.slice sz' xs _,.lit (.int _ n)=>bif (Nat.beq sz' sz||xs.isEmpty)&&s7 n xs.length then fL (xs.drop n.toNat) fun xs=>k d (.slice sz xs 0) else fail
 |_,_=>fail
def SP(d:Nat)(x:ai)(lo:ai)(k:Nat→AV→R):R:=bC e fail x fun x=>bC e fail lo fun lo=>match x,lo with
 |.lit (.string u),.lit (.int _ n)=>bif s7 n u.size then k d (.lit (.string (u.extract n.toNat u.size))) else fail
 |_,_=>fail
def SQ(d:Nat)(fn:Fn)(a:List ai)(b:List ai)(k:Nat→AV→R):R:=bif qE 0 fn then ab2 e fail a fun a=>ab2 e fail b fun b=>k d (.func fn a b) else fail
def bQ(m:au)(k:Nat→AV→R):R:=match m with
 |.aa d x=>Sm e fail d x k
 |.dK d x=>Sn e fail d x k
 |.abf d x=>So e fail d x k
 |.aV d x n=>Sq e fail d x n k
 |.load d x n=>Sr e fail d x n k
 |.aaW d x n=>Ss e fail d x n k
 |.addr d x off=>adR e fail d x off k
 |.aO d x i sz=>Su e fail d x i sz k
 |.cW d x i len sz=>Sv e fail d x i len sz k
 |.fld d x off n=>Sw e fail d x off n k
 |.iB d x i len sz n=>Sx e fail d x i len sz n k
 |.aas d x i=>Sy e fail d x i k
 |.len d x=>Sz e fail d x k
 |.aav d x=>SA e fail d x k
 |.j9 d n=>k d (.lit (.int .i64 n))
 |.bin d op x y=>SB e fail d op x y k
 |.iC d neg x y=>SC e fail d neg x y k
 |.build d z ps=>SD e fail d z ps k
 |.aaw d neg n x y=>SE e fail d neg n x y k
 |.not d x=>SF e fail d x k
 |.neg d x=>SG e fail d x k
 |.conv d q x=>SH e fail d q x k
 |.pick d c x y=>SI e fail d c x y k
 |.ext d x i=>SJ e fail d x i k
 |.aaX d x y=>SK e fail d x y k
 |.jH d x y=>adS e fail d x y k
 |.dJ d x=>SM e fail d x k
 |.jI d x hi sz=>SN e fail d x hi sz k
 |.abg d x lo sz=>SO e fail d x lo sz k
 |.ow d x lo=>SP e fail d x lo k
 |.dB d fn a b=>SQ e fail d fn a b k
 |_=>fail
end
section
variable {R:Type} {e:ES} {fail t:R} {ρ:Nat→Nat} {s:St}
theorem cx{b:Bool}{x:R}(h:(bif b then x else fail)=t)(ht:t≠fail):b=true∧x=t:=by
 cases b with
 |true=>exact⟨rfl,h⟩
 |false=>exact absurd h.symm ht
theorem bB{a:ai}{k:AV→R}(h:bC e fail a k=t)(ht:t≠fail)(hr:Rel ρ e s):∃x,a.ev s.env=an ρ x∧below e.nx x=true∧k x=t:=by
 cases a with
 |t n=>
  obtain⟨h1,h2⟩:=cx h ht
  have hn:n<gS:=by simp only[gS];exact Nat.lt_of_succ_le (by simpa[Nat.blt] using h1)
  exact⟨_,hr.env n hn,hr.jn n,h2⟩
 |c x=>
  obtain⟨h1,h2⟩:=cx h ht
  exact⟨x,(gQ h1).symm,jo (Nat.zero_le _) x h1,h2⟩
theorem qG(ht:t≠fail)(hr:Rel ρ e s):∀{as:List ai} {k:List AV→R},ab2 e fail as k=t→∃xs,(as.map fun x=>(x.ev s.env).erase)=xs.map (an ρ)∧bn e.nx xs=true∧k xs=t
 |[],k,h=>⟨[],rfl,rfl,h⟩
 |a::as,k,h=>by
  obtain⟨x,h1,h2,h3⟩:=bB h ht hr
  rw[aaH] at h3
  obtain⟨xs,h4,h5,h6⟩:=qG ht hr h3
  exact⟨x.erase::xs,by simp only[List.map_cons,h1,gP,h4],by simp only[bn,gR h2,h5,Bool.and_self],h6⟩
theorem pg{cs:List AV}{off:Nat}{n:Option Nat}{k:AV→R}(h:nY fail cs off n k=t)(ht:t≠fail)(hb:bn e.nx cs=true):∃v,below e.nx v=true∧k v=t∧∀K:AV→Prop,K (an ρ v)→cz (cs.map (an ρ)) off n K:=by
 cases n with
 |none=>
  obtain⟨h1,h2⟩:=cx h ht
  have hlt:off<cs.length:=Nat.lt_of_succ_le (by simpa[Nat.blt] using h1)
  exact⟨_,ab1 off hb,h2,fun K hK=>⟨by simpa using hlt,by rw[sZ];exact hK⟩⟩
 |some n=>
  obtain⟨h1,h2⟩:=cx h ht
  rw[eO] at h2
  refine⟨_,?_,h2,fun K hK=>⟨by simpa using h1,?_⟩⟩
  ·simp only[below];exact mJ (vL _ (acu _ hb))
  ·have e1:(AV.agg (((cs.map (an ρ)).drop off).take n)).erase=an ρ (.agg (((cs.drop off).take n).map AV.erase0)):=by simp only[AV.erase,an,cL,←List.map_drop,←List.map_take,nT]
   rw[e1];exact hK
theorem adk(ht:t≠fail)(hr:Rel ρ e s):∀{ps:List (Nat×Nat×ai)} {cs:List AV} {k:List AV→R},Ao e fail cs ps k=t→bn e.nx cs=true→∃v,bn e.nx v=true∧k v=t∧∀K:List AV→Prop,K (v.map (an ρ))→aa9 s.env (cs.map (an ρ)) ps K
 |[],cs,k,h,hb=>⟨cs,hb,h,fun K hK=>hK⟩
 |(off,n,x)::ps,cs,k,h,hb=>by
  obtain⟨x',h1,h2,h3⟩:=bB h ht hr
  obtain⟨h4,h5⟩:=cx h3 ht
  simp only[Bool.and_eq_true,Nat.ble_eq] at h4
  rw[eO] at h5
  obtain⟨v,g1,g2,g3⟩:=adk ht hr h5 (vN _ _ _ hb (mJ (ab0 h2)))
  refine⟨v,g1,g2,fun K hK=>⟨by rw[h1,kH];simpa using h4.1,by simpa using h4.2,?_⟩⟩
  rw[h1,kH,nT,vH]
  exact g3 K hK
end
end Go.Z4
namespace Go.Z4
section
variable {R:Type} {e:ES} {fail t:R} {ρ:Nat→Nat} {s:St} (P:Program)
theorem aa7(xs:List AV):(xs.map (an ρ)).length=xs.length:=by simp
theorem SR{m:au}{k:Nat→AV→R}(h:bQ e fail m k=t)(ht:t≠fail)(hr:Rel ρ e s):∃d v,below e.nx v=true∧k d v=t∧∀K:St→Prop,K (s.set d (an ρ v))→Z2 P m s K:=by
 cases m with
 |aa d x=>
  dsimp only[bQ] at h
  obtain⟨x,h1,h2,h3⟩:=bB h ht hr
  exact⟨d,x,h2,h3,fun K hK=>by simp only[Z2,h1];exact hK⟩
 |dK d x=>
  dsimp only[bQ] at h
  obtain⟨x,h1,h2,h3⟩:=bB h ht hr
  rw[aaH] at h3
  exact⟨d,x.erase,gR h2,h3,fun K hK=>by simp only[Z2,h1,gP];exact hK⟩
 |abf d x=>
  dsimp only[bQ] at h
  obtain⟨x,h1,h2,h3⟩:=bB h ht hr
  split at h3
  ·exact⟨d,_,rfl,h3,fun K hK=>by simp only[Z2,h1,an];simpa only[an] using hK⟩
  ·exact absurd h3.symm ht
 |aV d x n=>
  dsimp only[bQ] at h
  obtain⟨x,h1,h2,h3⟩:=bB h ht hr
  obtain⟨h4,h5⟩:=cx h3 ht
  rw[eO] at h5
  refine⟨d,_,by simp only[below];exact mJ (ab0 h2),h5,fun K hK=> ?_⟩
  simp only[Z2,h1,kH,nT]
  simp only[an,cL] at hK
  exact⟨by simpa using h4,hK⟩
 |load d x n=>
  dsimp only[bQ] at h
  obtain⟨x,h1,h2,h3⟩:=bB h ht hr
  split at h3
  ·simp only[below] at h2
   obtain⟨v,g1,g2,g3⟩:=pg h3 ht h2
   rw[aaH] at g2
   refine⟨d,v.erase,gR g1,g2,fun K hK=> ?_⟩
   simp only[Z2,h1,an,cN,cL]
   exact g3 _ (by rw[gP];exact hK)
  ·rename_i b off
   split at h3
   ·rename_i cs hcs
    obtain⟨l1,l2,l3⟩:=hr.loc b cs hcs
    obtain⟨v,g1,g2,g3⟩:=pg h3 ht l3
    refine⟨d,v,g1,g2,fun K hK=> ?_⟩
    simp only[Z2,h1,an,cN,l2]
    exact g3 _ hK
   ·exact absurd h3.symm ht
  ·exact absurd h3.symm ht
 |aaW d x n=>
  dsimp only[bQ] at h
  obtain⟨x,h1,h2,h3⟩:=bB h ht hr
  split at h3
  ·simp only[below] at h2
   obtain⟨v,g1,g2,g3⟩:=pg h3 ht h2
   rw[aaH] at g2
   refine⟨d,v.erase,gR g1,g2,fun K hK=> ?_⟩
   simp only[Z2,h1,an,cL]
   exact g3 _ (by rw[gP];exact hK)
  ·exact absurd h3.symm ht
 |addr d x off=>
  dsimp only[bQ] at h
  obtain⟨x,h1,h2,h3⟩:=bB h ht hr
  split at h3
  ·rw[eO] at h3
   simp only[below] at h2
   refine⟨d,_,by simp only[below];exact acu off h2,h3,fun K hK=> ?_⟩
   simp only[Z2,h1,an,cL]
   simpa only[an,cL,List.map_drop] using hK
  ·exact⟨d,_,by simpa only[below] using h2,h3,fun K hK=>by simp only[Z2,h1,an];simpa only[an] using hK⟩
  ·exact absurd h3.symm ht
 |aO d x i sz=>
  dsimp only[bQ] at h
  obtain⟨x,h1,h2,h3⟩:=bB h ht hr
  obtain⟨i,h4,h5,h6⟩:=bB h3 ht hr
  split at h6
  ·rename_i sz' xs r q n
   obtain⟨c1,c2⟩:=cx h6 ht
   simp only[Bool.and_eq_true] at c1
   obtain⟨q1,q2,q3⟩:=qF c1.2
   rw[eO] at c2
   simp only[below] at h2
   refine⟨d,_,by simp only[below];exact ab0 (ab1 _ h2),c2,fun K hK=> ?_⟩
   simp only[Z2,h1,h4,an,cL,aa7,sZ,kH]
   simp only[an,cL] at hK
   exact⟨Nat.eq_of_beq_eq_true c1.1,q1,q2,hK⟩
  ·rename_i b off len cap sz' q n
   obtain⟨c1,c2⟩:=cx h6 ht
   simp only[Bool.and_eq_true] at c1
   obtain⟨q1,q2,q3⟩:=qF c1.2
   refine⟨d,_,by simpa only[below] using h2,c2,fun K hK=> ?_⟩
   simp only[Z2,h1,h4,an]
   exact⟨Nat.eq_of_beq_eq_true c1.1,q1,q2,by simpa only[an] using hK⟩
  ·exact absurd h6.symm ht
 |cW d x i len sz=>
  dsimp only[bQ] at h
  obtain⟨x,h1,h2,h3⟩:=bB h ht hr
  obtain⟨i,h4,h5,h6⟩:=bB h3 ht hr
  split at h6
  ·obtain⟨c1,c2⟩:=cx h6 ht
   obtain⟨q1,q2,q3⟩:=qF c1
   rw[eO] at c2
   simp only[below] at h2
   refine⟨d,_,by simp only[below];exact acu _ h2,c2,fun K hK=> ?_⟩
   simp only[Z2,h1,h4,an,cL]
   exact⟨q1,q2,by simpa only[an,cL,List.map_drop] using hK⟩
  ·obtain⟨c1,c2⟩:=cx h6 ht
   obtain⟨q1,q2,q3⟩:=qF c1
   refine⟨d,_,by simpa only[below] using h2,c2,fun K hK=> ?_⟩
   simp only[Z2,h1,h4,an]
   exact⟨q1,q2,by simpa only[an] using hK⟩
  ·exact absurd h6.symm ht
 |fld d x off n=>
  dsimp only[bQ] at h
  obtain⟨x,h1,h2,h3⟩:=bB h ht hr
  split at h3
  ·simp only[below] at h2
   obtain⟨v,g1,g2,g3⟩:=pg h3 ht h2
   rw[aaH] at g2
   refine⟨d,v.erase,gR g1,g2,fun K hK=> ?_⟩
   simp only[Z2,h1,an,cL]
   exact g3 _ (by rw[gP];exact hK)
  ·exact absurd h3.symm ht
 |iB d x i len sz n=>
  dsimp only[bQ] at h
  obtain⟨x,h1,h2,h3⟩:=bB h ht hr
  obtain⟨i,h4,h5,h6⟩:=bB h3 ht hr
  split at h6
  ·obtain⟨c1,c2⟩:=cx h6 ht
   obtain⟨q1,q2,q3⟩:=qF c1
   simp only[below] at h2
   obtain⟨v,g1,g2,g3⟩:=pg c2 ht h2
   rw[aaH] at g2
   refine⟨d,v.erase,gR g1,g2,fun K hK=> ?_⟩
   simp only[Z2,h1,h4,an,cL]
   exact⟨q1,q2,g3 _ (by rw[gP];exact hK)⟩
  ·exact absurd h6.symm ht
 |aas d x i=>
  dsimp only[bQ] at h
  obtain⟨x,h1,h2,h3⟩:=bB h ht hr
  obtain⟨i,h4,h5,h6⟩:=bB h3 ht hr
  split at h6
  ·obtain⟨c1,c2⟩:=cx h6 ht
   obtain⟨q1,q2,q3⟩:=qF c1
   refine⟨d,_,rfl,c2,fun K hK=> ?_⟩
   simp only[Z2,h1,h4,an]
   exact⟨q1,q2,by simpa only[an] using hK⟩
  ·exact absurd h6.symm ht
 |len d x=>
  dsimp only[bQ] at h
  obtain⟨x,h1,h2,h3⟩:=bB h ht hr
  split at h3
  ·exact⟨d,_,rfl,h3,fun K hK=>by simp only[Z2,h1,an,cL,aa7];simpa only[an] using hK⟩
  ·exact⟨d,_,rfl,h3,fun K hK=>by simp only[Z2,h1,an];simpa only[an] using hK⟩
  ·exact absurd h3.symm ht
 |aav d x=>
  dsimp only[bQ] at h
  obtain⟨x,h1,h2,h3⟩:=bB h ht hr
  split at h3
  ·exact⟨d,_,rfl,h3,fun K hK=>by simp only[Z2,h1,an];simpa only[an] using hK⟩
  ·exact absurd h3.symm ht
 |j9 d n=>
  dsimp only[bQ] at h
  exact⟨d,_,rfl,h,fun K hK=>by simp only[Z2];simpa only[an] using hK⟩
 |bin d op x y=>
  dsimp only[bQ] at h
  obtain⟨x,h1,h2,h3⟩:=bB h ht hr
  obtain⟨y,h4,h5,h6⟩:=bB h3 ht hr
  split at h6
  ·rename_i v hv
   obtain⟨e1,e2⟩:=Sl hv ρ
   refine⟨d,_,rfl,h6,fun K hK=> ?_⟩
   simp only[Z2,h1,h4,e1,e2]
   exact Sk hv (by simpa only[an] using hK)
  ·exact absurd h6.symm ht
 |iC d neg x y=>
  dsimp only[bQ] at h
  obtain⟨x,h1,h2,h3⟩:=bB h ht hr
  obtain⟨y,h4,h5,h6⟩:=bB h3 ht hr
  split at h6
  ·exact⟨d,_,rfl,h6,fun K hK=>by simp only[Z2,h1,h4,an];simpa only[an] using hK⟩
  ·exact absurd h6.symm ht
 |build d z ps=>
  dsimp only[bQ] at h
  obtain⟨h1,h2⟩:=cx h ht
  obtain⟨v,g1,g2,g3⟩:=adk ht hr h2 (iK (Nat.zero_le _) z h1)
  refine⟨d,_,by simp only[below];exact g1,g2,fun K hK=> ?_⟩
  have hz:z.map (an ρ)=z:=by
   have:=List.map_congr_left (f:=an ρ) (g:=id) (l:=z) fun x hx=>gQ (ff.1 h1 x hx)
   rw[this,List.map_id]
  simp only[Z2]
  have:=g3 (fun cs=>K (s.set d (.agg cs))) (by simpa only[an,cL] using hK)
  rw[hz] at this
  exact this
 |aaw d neg n x y=>
  dsimp only[bQ] at h
  obtain⟨x,h1,h2,h3⟩:=bB h ht hr
  obtain⟨y,h4,h5,h6⟩:=bB h3 ht hr
  split at h6
  ·obtain⟨c1,c2⟩:=cx h6 ht
   simp only[Bool.and_eq_true] at c1
   split at c2
   ·rename_i q hq
    refine⟨d,_,rfl,c2,fun K hK=> ?_⟩
    simp only[Z2,h1,h4,an,cL,aa7,adg]
    exact⟨Nat.eq_of_beq_eq_true c1.1,Nat.eq_of_beq_eq_true c1.2,q,hq,by simpa only[an] using hK⟩
   ·exact absurd c2.symm ht
  ·exact absurd h6.symm ht
 |not d x=>
  dsimp only[bQ] at h
  obtain⟨x,h1,h2,h3⟩:=bB h ht hr
  split at h3
  ·exact⟨d,_,rfl,h3,fun K hK=>by simp only[Z2,h1,an];simpa only[an] using hK⟩
  ·exact absurd h3.symm ht
 |neg d x=>
  dsimp only[bQ] at h
  obtain⟨x,h1,h2,h3⟩:=bB h ht hr
  split at h3
  ·obtain⟨c1,c2⟩:=cx h3 ht
   exact⟨d,_,rfl,c2,fun K hK=>by simp only[Z2,h1,an];exact⟨Ai c1,by simpa only[an] using hK⟩⟩
  ·exact absurd h3.symm ht
 |conv d q x=>
  dsimp only[bQ] at h
  obtain⟨x,h1,h2,h3⟩:=bB h ht hr
  split at h3
  ·exact⟨d,_,rfl,h3,fun K hK=>by simp only[Z2,h1,an];simpa only[an] using hK⟩
  ·exact absurd h3.symm ht
 |pick d c x y=>
  dsimp only[bQ] at h
  obtain⟨c,h1,h2,h3⟩:=bB h ht hr
  split at h3
  ·obtain⟨x,h4,h5,h6⟩:=bB h3 ht hr
   exact⟨d,x,h5,h6,fun K hK=>by simp only[Z2,h1,an,if_true,h4];exact hK⟩
  ·obtain⟨y,h4,h5,h6⟩:=bB h3 ht hr
   exact⟨d,y,h5,h6,fun K hK=>by simp only[Z2,h1,an,Bool.false_eq_true,if_false,h4];exact hK⟩
  ·exact absurd h3.symm ht
 |ext d x i=>
  dsimp only[bQ] at h
  obtain⟨x,h1,h2,h3⟩:=bB h ht hr
  split at h3
  ·obtain⟨c1,c2⟩:=cx h3 ht
   rw[aaH] at c2
   simp only[below] at h2
   refine⟨d,_,gR (ab1 i h2),c2,fun K hK=> ?_⟩
   simp only[Z2,h1,an,cL,aa7,sZ,gP]
   exact⟨Nat.lt_of_succ_le (by simpa[Nat.blt] using c1),hK⟩
  ·exact absurd h3.symm ht
 |aaX d x y=>
  dsimp only[bQ] at h
  obtain⟨x,h1,h2,h3⟩:=bB h ht hr
  obtain⟨y,h4,h5,h6⟩:=bB h3 ht hr
  split at h6
  ·exact⟨d,_,rfl,h6,fun K hK=>by simp only[Z2,h1,h4,an];simpa only[an] using hK⟩
  ·exact absurd h6.symm ht
 |jH d x y=>
  dsimp only[bQ] at h
  obtain⟨x,h1,h2,h3⟩:=bB h ht hr
  obtain⟨y,h4,h5,h6⟩:=bB h3 ht hr
  split at h6
  ·exact⟨d,_,rfl,h6,fun K hK=>by simp only[Z2,h1,h4,an];simpa only[an] using hK⟩
  ·exact absurd h6.symm ht
 |dJ d x=>
  dsimp only[bQ] at h
  obtain⟨x,h1,h2,h3⟩:=bB h ht hr
  split at h3
  ·exact⟨d,_,h2,h3,fun K hK=>by simp only[Z2,h1,an];simpa only[an] using hK⟩
  ·exact⟨d,_,h2,h3,fun K hK=>by simp only[Z2,h1,an];simpa only[an] using hK⟩
  ·exact absurd h3.symm ht
 |jI d x hi sz=>
  dsimp only[bQ] at h
  obtain⟨x,h1,h2,h3⟩:=bB h ht hr
  obtain⟨i,h4,h5,h6⟩:=bB h3 ht hr
  split at h6
  ·rename_i sz' xs r q n
   obtain⟨c1,c2⟩:=cx h6 ht
   simp only[Bool.and_eq_true,Bool.or_eq_true,List.isEmpty_iff] at c1
   obtain⟨q1,q2⟩:=An c1.2
   rw[eO] at c2
   simp only[below] at h2
   refine⟨d,_,by simp only[below];exact vL _ h2,c2,fun K hK=> ?_⟩
   simp only[Z2,h1,h4,an,cL,aa7]
   exact⟨c1.1.imp Nat.eq_of_beq_eq_true (fun e=>by rw[e];rfl),q1,q2,by simpa only[an,cL,List.map_take] using hK⟩
  ·exact absurd h6.symm ht
 |abg d x lo sz=>
  dsimp only[bQ] at h
  obtain⟨x,h1,h2,h3⟩:=bB h ht hr
  obtain⟨i,h4,h5,h6⟩:=bB h3 ht hr
  split at h6
  ·rename_i sz' xs r q n
   obtain⟨c1,c2⟩:=cx h6 ht
   simp only[Bool.and_eq_true,Bool.or_eq_true,List.isEmpty_iff] at c1
   obtain⟨q1,q2⟩:=An c1.2
   rw[eO] at c2
   simp only[below] at h2
   refine⟨d,_,by simp only[below];exact acu _ h2,c2,fun K hK=> ?_⟩
   simp only[Z2,h1,h4,an,cL,aa7]
   exact⟨c1.1.imp Nat.eq_of_beq_eq_true (fun e=>by rw[e];rfl),q1,q2,by simpa only[an,cL,List.map_drop] using hK⟩
  ·exact absurd h6.symm ht
 |ow d x lo=>
  dsimp only[bQ] at h
  obtain⟨x,h1,h2,h3⟩:=bB h ht hr
  obtain⟨i,h4,h5,h6⟩:=bB h3 ht hr
  split at h6
  ·obtain⟨c1,c2⟩:=cx h6 ht
   obtain⟨q1,q2⟩:=An c1
   exact⟨d,_,rfl,c2,fun K hK=>by simp only[Z2,h1,h4,an];exact⟨q1,by omega,by simpa only[an] using hK⟩⟩
  ·exact absurd h6.symm ht
 |dB d fn a b=>
  dsimp only[bQ] at h
  obtain⟨h0,h⟩:=cx h ht
  obtain⟨xs,h1,h2,h3⟩:=qG ht hr h
  obtain⟨ys,h4,h5,h6⟩:=qG ht hr h3
  have hf:below e.nx (.func fn [] [])=true:=jo (Nat.zero_le _) (.func fn [] []) (by simp only[below,bn,h0,Bool.and_self])
  simp only[below,bn,Bool.and_true] at hf
  refine⟨d,_,by simp only[below,h2,h5,hf,Bool.and_self],h6,fun K hK=> ?_⟩
  have SS:abo ρ fn=fn:=by cases fn<;>first|rfl|(cases h0)
  simp only[Z2,h1,h4]
  simpa only[an,cL,SS] using hK
 |_=>exact absurd (show t=fail from h.symm) ht
end
end Go.Z4
namespace Go.Z4
section
variable {R:Type} (e:ES) (fail:R)
def c9(d:Nat)(x:AV)(k:ES→R):R:=bif Nat.blt d 1000000 then jq 24 e.env d (some x) fun t=>k ⟨t,e.loc,e.obj,e.gh,e.nx⟩ else fail
def kJ(r:Nat)(k:ES→R):R:=nW r e.env fun env=>nX r e.loc fun loc=>k ⟨env,loc,e.obj,e.gh,e.nx⟩
def s8(cs:List AV)(k:Nat→ES→R):R:=bif Nat.blt e.nx 16000000 then jq 24 e.loc e.nx (some cs) fun loc=>fN (e.nx+1) fun nx=>k e.nx ⟨e.env,loc,e.obj,e.gh,nx⟩ else fail
def mK(b:Nat)(cs:Option (List AV))(k:ES→R):R:=bif Nat.blt b 16000000 then jq 24 e.loc b cs fun loc=>k ⟨e.env,loc,e.obj,e.gh,e.nx⟩ else fail
def Ap(x:AV)(k:Nat→ES→R):R:=bif Nat.blt e.nx 16000000 then jq 24 e.obj e.nx (some x) fun obj=>fN (e.nx+1) fun nx=>k e.nx ⟨e.env,e.loc,obj,e.gh,nx⟩ else fail
def vQ(b:Nat)(x:AV)(k:ES→R):R:=bif Nat.blt b 16000000 then jq 24 e.obj b (some x) fun obj=>k ⟨e.env,e.loc,obj,e.gh,e.nx⟩ else fail
end
def Nx{R:Type}(ρ:Nat→Nat)(e:ES)(k:ES→R)(t:R)(s':St):Prop:=∃ρ' e',Rel ρ' e' s'∧e.nx≤e'.nx∧(∀b,b<e.nx→ρ' b=ρ b)∧k e'=t
section
variable {R:Type} {e:ES} {fail t:R} {ρ:Nat→Nat} {s:St}
theorem Nx.of(h:Rel ρ e s){k:ES→R}(hk:k e=t):Nx ρ e k t s:=⟨ρ,e,h,Nat.le_refl _,fun _ _=>rfl,hk⟩
theorem small{d:Nat}(h:Nat.blt d 1000000=true):d<gS∧d+1<2^24:=by
 have:d<1000000:=Nat.lt_of_succ_le (by simpa[Nat.blt] using h)
 simp only[gS];omega
theorem small'{d:Nat}(h:Nat.blt d 16000000=true):d+1<2^24:=by
 have:d<16000000:=Nat.lt_of_succ_le (by simpa[Nat.blt] using h)
 omega
theorem E_{k d:Nat}(x:AV)(h:d+1<2^24):ES.at ⟨T.set 24 e.env d (some x),e.loc,e.obj,e.gh,e.nx⟩ k=if k=d then x else e.at k:=by
 simp only[ES.at,T.ia 24 _ _ _ _ h]
 split<;>rfl
theorem iL{d:Nat}{x:AV}{k:ES→R}(h:c9 e fail d x k=t)(ht:t≠fail)(hr:Rel ρ e s)(hx:below e.nx x=true):∃e',Rel ρ e' (s.set d (an ρ x))∧e'.nx=e.nx∧k e'=t:=by
 obtain⟨h1,h2⟩:=cx h ht
 obtain⟨g1,g2⟩:=small h1
 rw[nV] at h2
 refine⟨⟨T.set 24 e.env d (some x),e.loc,e.obj,e.gh,e.nx⟩,⟨fun q hq=> ?_,fun q=> ?_,?_,hr.gb,hr.loc,hr.kI,fun b x hb=> ?_,hr.lG,hr.og,hr.gg⟩,rfl,h2⟩
 ·rw[E_ x g2]
  by_cases e1:q=d
  ·rw[if_pos e1,e1];exact cI _ _ _
  ·rw[if_neg e1];exact(Z5 _ _ e1).trans (hr.env q hq)
 ·rw[E_ x g2]
  split
  ·exact hx
  ·exact hr.jn q
 ·exact(Z5 _ _ (by omega)).trans hr.gh
 ·obtain⟨o1,o2,o3⟩:=hr.obj b x hb
  exact⟨o1,(Z5 _ _ (by have:=abd (ρ b);omega)).trans o2,o3⟩
theorem mL{r:Nat}{k:ES→R}(h:kJ e r k=t)(hr:Rel ρ e s):∃e',Rel ρ e' (s.aB r)∧e'.nx=e.nx∧e'.gh=e.gh∧e'.obj=e.obj∧k e'=t∧∀b cs,e.loc.get b=some cs→e'.loc.get b=some (cs.map (az r)):=by
 unfold kJ at h
 rw[acw,s5] at h
 have hat:∀q,ES.at ⟨e.env.map (az r),e.loc.map (·.map (az r)),e.obj,e.gh,e.nx⟩ q=az r (e.at q):=by
  intro q
  simp only[ES.at,T.get_map]
  cases e.env.get q<;>rfl
 refine⟨⟨e.env.map (az r),e.loc.map (·.map (az r)),e.obj,e.gh,e.nx⟩,⟨fun q hq=> ?_,fun q=> ?_,?_,hr.gb,fun b cs hb=> ?_,fun b b' h1 h2=> ?_,fun b x hb=> ?_,hr.lG,hr.og,hr.gg⟩,rfl,rfl,rfl,h,fun b cs hb=>by simp only[T.get_map,hb];rfl⟩
 ·rw[hat,←sY]
  show az r (s.env q)=_
  rw[hr.env q hq]
 ·rw[hat];exact adh r (hr.jn q)
 ·show az r (s.env gS)=_
  rw[hr.gh,sY,yA hr.gg r]
 ·simp only[T.get_map,Option.map_eq_some_iff] at hb
  obtain⟨cs',hcs,rfl⟩:=hb
  obtain⟨l1,l2,l3⟩:=hr.loc b cs' hcs
  refine⟨l1,?_,vK r l3⟩
  simp only[St.aB,l2,Option.map_some,List.map_map]
  congr 1
  exact List.map_congr_left fun x _=>sY ρ r x
 ·simp only[T.get_map,ne_eq,Option.map_eq_none_iff] at h1 h2
  exact hr.kI b b' h1 h2
 ·obtain⟨o1,o2,o3⟩:=hr.obj b x hb
  refine⟨o1,?_,o3⟩
  show az r (s.env (oS+ρ b))=x
  rw[o2];exact yA (hr.og b x hb) r
theorem qH{n B:Nat}:∀b,b<n→ak ρ n B b=ρ b:=fun b hb=>Z5 _ _ (by omega)
theorem SU{cs:List AV}{k:Nat→ES→R}(h:s8 e fail cs k=t)(ht:t≠fail)(hr:Rel ρ e s)(hc:bn e.nx cs=true){B:Nat}(hB:s.loc B=none):∃e',Rel (ak ρ e.nx B) e' (s.new B (cs.map (an ρ)))∧e'.nx=e.nx+1∧e'.gh=e.gh∧k e.nx e'=t:=by
 obtain⟨h1,h2⟩:=cx h ht
 have g2:=small' h1
 rw[nV,nU] at h2
 have pn:∀x,below e.nx x=true→an (ak ρ e.nx B) x=an ρ x:=fun x hx=>abX qH x hx
 have hmap:∀xs,bn e.nx xs=true→xs.map (an (ak ρ e.nx B))=xs.map (an ρ):=fun xs hxs=>List.map_congr_left fun x hx=>pn x (ff.1 hxs x hx)
 refine⟨⟨e.env,T.set 24 e.loc e.nx (some cs),e.obj,e.gh,e.nx+1⟩,⟨fun q hq=> ?_,fun q=>jo (Nat.le_succ _) _ (hr.jn q),hr.gh.trans (pn _ hr.gb).symm,jo (Nat.le_succ _) _ hr.gb,fun b cs' hb=> ?_,fun b b' h3 h4 h5=> ?_,fun b x hb=> ?_,fun b b' h3 h4 h5=> ?_,hr.og,hr.gg⟩,rfl,rfl,h2⟩
 ·show s.env q=_
  rw[hr.env q hq]
  exact(pn _ (hr.jn q)).symm
 ·simp only[T.ia 24 _ _ _ _ g2] at hb
  split at hb
  ·rename_i e1
   injection hb with hb;subst hb;subst e1
   refine⟨Nat.lt_succ_self _,?_,iK (Nat.le_succ _) _ hc⟩
   rw[cI,hmap _ hc]
   exact cI _ _ _
  ·rename_i e1
   obtain⟨l1,l2,l3⟩:=hr.loc b cs' hb
   refine⟨Nat.lt_succ_of_lt l1,?_,iK (Nat.le_succ _) _ l3⟩
   rw[Z5 _ _ e1,hmap _ l3]
   exact(Z5 _ _ (by intro e2;rw[e2,hB] at l2;cases l2)).trans l2
 ·simp only[T.ia 24 _ _ _ _ g2] at h3 h4
  by_cases e1:b=e.nx<;>by_cases e2:b'=e.nx
  ·rw[e1,e2]
  ·rw[if_neg e2] at h4
   rw[e1,cI,Z5 _ _ e2] at h5
   cases hl:e.loc.get b' with
   |none=>exact absurd hl h4
   |some cs'=>have:=(hr.loc b' cs' hl).2.1;rw[←h5,hB] at this;cases this
  ·rw[if_neg e1] at h3
   rw[e2,cI,Z5 _ _ e1] at h5
   cases hl:e.loc.get b with
   |none=>exact absurd hl h3
   |some cs'=>have:=(hr.loc b cs' hl).2.1;rw[h5,hB] at this;cases this
  ·rw[if_neg e1] at h3;rw[if_neg e2] at h4
   rw[Z5 _ _ e1,Z5 _ _ e2] at h5
   exact hr.kI b b' h3 h4 h5
 ·obtain⟨o1,o2,o3⟩:=hr.obj b x hb
  exact⟨Nat.lt_succ_of_lt o1,by rw[Z5 _ _ (by omega)];exact o2,o3⟩
 ·cases hl:e.obj.get b with
  |none=>exact absurd hl h3
  |some x=>cases hl':e.obj.get b' with
   |none=>exact absurd hl' h4
   |some x'=>
    have b1:=(hr.obj b x hl).1;have b2:=(hr.obj b' x' hl').1
    rw[Z5 _ _ (by omega),Z5 _ _ (by omega)] at h5
    exact hr.lG b b' h3 h4 h5
theorem qI{b:Nat}{cs0:List AV}{cs:Option (List AV)}{k:ES→R}(h:mK e fail b cs k=t)(ht:t≠fail)(hr:Rel ρ e s)(h0:e.loc.get b=some cs0)(hc:∀x,cs=some x→bn e.nx x=true):∃e',Rel ρ e' ⟨s.env,ak s.loc (ρ b) (cs.map (·.map (an ρ)))⟩∧e'.nx=e.nx∧e'.gh=e.gh∧k e'=t∧e'.at=e.at:=by
 obtain⟨h1,h2⟩:=cx h ht
 have g2:=small' h1
 rw[nV] at h2
 refine⟨⟨e.env,T.set 24 e.loc b cs,e.obj,e.gh,e.nx⟩,⟨hr.env,hr.jn,hr.gh,hr.gb,fun c cs' hb=> ?_,fun c c' h3 h4 h5=> ?_,hr.obj,hr.lG,hr.og,hr.gg⟩,rfl,rfl,h2,rfl⟩
 ·simp only[T.ia 24 _ _ _ _ g2] at hb
  split at hb
  ·rename_i e1
   subst hb;subst e1
   exact⟨(hr.loc _ _ h0).1,cI _ _ _,hc _ rfl⟩
  ·rename_i e1
   obtain⟨l1,l2,l3⟩:=hr.loc c cs' hb
   refine⟨l1,(Z5 _ _ ?_).trans l2,l3⟩
   intro e2
   exact e1 (hr.kI c b (by rw[hb];simp) (by rw[h0];simp) e2)
 ·simp only[T.ia 24 _ _ _ _ g2] at h3 h4
  refine hr.kI c c' ?_ ?_ h5
  ·by_cases e1:c=b
   ·rw[e1,h0];simp
   ·rw[if_neg e1] at h3;exact h3
  ·by_cases e1:c'=b
   ·rw[e1,h0];simp
   ·rw[if_neg e1] at h4;exact h4
theorem Fa{x:AV}{k:Nat→ES→R}(h:Ap e fail x k=t)(ht:t≠fail)(hr:Rel ρ e s)(hx:x≠.any)(hG:fR x=true){B:Nat}(hB:s.env (oS+B)=.any):∃e',Rel (ak ρ e.nx B) e' (s.set (oS+B) x)∧e'.nx=e.nx+1∧e'.gh=e.gh∧k e.nx e'=t:=by
 obtain⟨h1,h2⟩:=cx h ht
 have g2:=small' h1
 rw[nV,nU] at h2
 have pn:∀x,below e.nx x=true→an (ak ρ e.nx B) x=an ρ x:=fun x hx=>abX qH x hx
 have hmap:∀xs,bn e.nx xs=true→xs.map (an (ak ρ e.nx B))=xs.map (an ρ):=fun xs hxs=>List.map_congr_left fun x hx=>pn x (ff.1 hxs x hx)
 have hS:=abd B
 refine⟨⟨e.env,e.loc,T.set 24 e.obj e.nx (some x),e.gh,e.nx+1⟩,⟨fun q hq=> ?_,fun q=>jo (Nat.le_succ _) _ (hr.jn q),?_,jo (Nat.le_succ _) _ hr.gb,fun b cs' hb=> ?_,fun b b' h3 h4 h5=> ?_,fun b y hb=> ?_,fun b b' h3 h4 h5=> ?_,fun b y hb=> ?_,hr.gg⟩,rfl,rfl,h2⟩
 ·refine(Z5 _ _ (by omega)).trans ?_
  rw[hr.env q hq]
  exact(pn _ (hr.jn q)).symm
 ·exact(Z5 _ _ (by omega)).trans (hr.gh.trans (pn _ hr.gb).symm)
 ·obtain⟨l1,l2,l3⟩:=hr.loc b cs' hb
  refine⟨Nat.lt_succ_of_lt l1,?_,iK (Nat.le_succ _) _ l3⟩
  rw[Z5 _ _ (by omega),hmap _ l3]
  exact l2
 ·cases hl:e.loc.get b with
  |none=>exact absurd hl h3
  |some x=>cases hl':e.loc.get b' with
   |none=>exact absurd hl' h4
   |some x'=>
    have b1:=(hr.loc b x hl).1;have b2:=(hr.loc b' x' hl').1
    rw[Z5 _ _ (by omega),Z5 _ _ (by omega)] at h5
    exact hr.kI b b' h3 h4 h5
 ·simp only[T.ia 24 _ _ _ _ g2] at hb
  split at hb
  ·rename_i e1
   injection hb with hb;subst hb;subst e1
   exact⟨Nat.lt_succ_self _,by rw[cI];exact cI _ _ _,hx⟩
  ·rename_i e1
   obtain⟨o1,o2,o3⟩:=hr.obj b y hb
   refine⟨Nat.lt_succ_of_lt o1,?_,o3⟩
   rw[Z5 _ _ e1]
   refine(Z5 _ _ ?_).trans o2
   intro e2
   have e3:ρ b=B:=by omega
   rw[e3,hB] at o2
   exact o3 o2.symm
 ·simp only[T.ia 24 _ _ _ _ g2] at h3 h4
  by_cases e1:b=e.nx<;>by_cases e2:b'=e.nx
  ·rw[e1,e2]
  ·rw[if_neg e2] at h4
   rw[e1,cI,Z5 _ _ e2] at h5
   cases hl:e.obj.get b' with
   |none=>exact absurd hl h4
   |some y=>have:=hr.obj b' y hl;rw[←h5,hB] at this;exact absurd this.2.1.symm this.2.2
  ·rw[if_neg e1] at h3
   rw[e2,cI,Z5 _ _ e1] at h5
   cases hl:e.obj.get b with
   |none=>exact absurd hl h3
   |some y=>have:=hr.obj b y hl;rw[h5,hB] at this;exact absurd this.2.1.symm this.2.2
  ·rw[if_neg e1] at h3;rw[if_neg e2] at h4
   rw[Z5 _ _ e1,Z5 _ _ e2] at h5
   exact hr.lG b b' h3 h4 h5
 ·simp only[T.ia 24 _ _ _ _ g2] at hb
  split at hb
  ·injection hb with hb;subst hb;exact hG
  ·exact hr.og b y hb
theorem Aq{b:Nat}{x0 x:AV}{k:ES→R}(h:vQ e fail b x k=t)(ht:t≠fail)(hr:Rel ρ e s)(h0:e.obj.get b=some x0)(hx:x≠.any)(hG:fR x=true):∃e',Rel ρ e' (s.set (oS+ρ b) x)∧e'.nx=e.nx∧e'.gh=e.gh∧k e'=t:=by
 obtain⟨h1,h2⟩:=cx h ht
 have g2:=small' h1
 rw[nV] at h2
 have hS:=abd (ρ b)
 refine⟨⟨e.env,e.loc,T.set 24 e.obj b (some x),e.gh,e.nx⟩,⟨fun q hq=>(Z5 _ _ (by omega)).trans (hr.env q hq),hr.jn,(Z5 _ _ (by omega)).trans hr.gh,hr.gb,hr.loc,hr.kI,fun c y hb=> ?_,fun c c' h3 h4 h5=> ?_,fun c y hb=> ?_,hr.gg⟩,rfl,rfl,h2⟩
 ·simp only[T.ia 24 _ _ _ _ g2] at hb
  split at hb
  ·rename_i e1
   injection hb with hb;subst hb;subst e1
   exact⟨(hr.obj _ _ h0).1,cI _ _ _,hx⟩
  ·rename_i e1
   obtain⟨o1,o2,o3⟩:=hr.obj c y hb
   refine⟨o1,(Z5 _ _ ?_).trans o2,o3⟩
   intro e2
   exact e1 (hr.lG c b (by rw[hb];simp) (by rw[h0];simp) (by omega))
 ·simp only[T.ia 24 _ _ _ _ g2] at h3 h4
  refine hr.lG c c' ?_ ?_ h5
  ·by_cases e1:c=b
   ·rw[e1,h0];simp
   ·rw[if_neg e1] at h3;exact h3
  ·by_cases e1:c'=b
   ·rw[e1,h0];simp
   ·rw[if_neg e1] at h4;exact h4
 ·simp only[T.ia 24 _ _ _ _ g2] at hb
  split at hb
  ·injection hb with hb;subst hb;exact hG
  ·exact hr.og c y hb
end
end Go.Z4
namespace Go.Z4
mutual
def iM:AV→AV→Bool
 |.lit v,.lit v'=>rM v v'
 |.slice sz xs r,.slice sz' ys r'=>Nat.beq sz sz'&&Nat.beq r r'&&jV xs ys
 |.ref xs,.ref ys=>jV xs ys
 |.agg xs,.agg ys=>jV xs ys
 |.tuple xs,.tuple ys=>jV xs ys
 |_,_=>false
def jV:List AV→List AV→Bool
 |[],[]=>true
 |x::xs,y::ys=>iM x y&&jV xs ys
 |_,_=>false
end
mutual
theorem Fb:∀(x y:AV),iM x y=true→x=y
 |.lit v,y,h=>by cases y<;>simp only[iM] at h<;>first|(cases h;done)|rw[(xI h).1]
 |.slice sz xs r,y,h=>by
  cases y<;>simp only[iM] at h<;>first|(cases h;done)|skip
  simp only[Bool.and_eq_true] at h
  rw[Nat.eq_of_beq_eq_true h.1.1,Nat.eq_of_beq_eq_true h.1.2,pq xs _ h.2]
 |.ref xs,y,h=>by cases y<;>simp only[iM] at h<;>first|(cases h;done)|rw[pq xs _ h]
 |.agg xs,y,h=>by cases y<;>simp only[iM] at h<;>first|(cases h;done)|rw[pq xs _ h]
 |.tuple xs,y,h=>by cases y<;>simp only[iM] at h<;>first|(cases h;done)|rw[pq xs _ h]
 |.any,_,h=>by simp[iM] at h
 |.aj _ _,_,h=>by simp[iM] at h
 |.aq ..,_,h=>by simp[iM] at h
 |.func ..,_,h=>by simp[iM] at h
 |.ghost ..,_,h=>by simp[iM] at h
 |.aZ _,_,h=>by simp[iM] at h
theorem pq:∀(xs ys:List AV),jV xs ys=true→xs=ys
 |[],[],_=>rfl
 |x::xs,y::ys,h=>by
  simp only[jV,Bool.and_eq_true] at h
  rw[Fb x y h.1,pq xs ys h.2]
 |[],_::_,h=>by simp[jV] at h
 |_::_,[],h=>by simp[jV] at h
end
section
variable {R:Type} (col:Bool) (call:Nat→FuncId→List AV→Option AV) (fZ:R→R→R) (fail:R)
def Ar(e:ES)(x z:ai):Bool:=match (bC e none z some:Option AV),(bC e none x some:Option AV) with
 |some (.aj b' _),some (.aj b _)=> !(Nat.beq b' b)&&(e.loc.get b').isSome&&(e.loc.get b).isSome
 |some (.ref _),some (.aj _ _)=>true
 |_,_=>false
def As(e:ES)(sz:Nat)(xs:List AV):List (Nat×ai)→(List AV→R)→R
 |[],k=>k xs
 |(i,x)::ps,k=>bC e fail x fun x=>bif Nat.beq x.cells.length sz&&x.cells.all AV.bE&&Nat.blt i xs.length then eK x fun x=>fL (xs.set i x) fun xs=>As e sz xs ps k else fail
def At(e:ES)(d:Nat)(x:AV)(k:ES→R):R:=match x with
 |.slice sz xs r=>bif Nat.beq r 0 then c9 e fail d (.slice sz xs 0) k else kJ e r fun e=>kJ e (d+1) fun e=>c9 e fail d (.slice sz xs (d+1)) k
 |x=>c9 e fail d x k
def Fc(e:ES)(b off n aP:Nat)(cs:List AV)(y:AV)(k:ES→R):R:=
 bif Nat.ble (off+n) cs.length&&Nat.beq y.cells.length n&&y.cells.all AV.bE then match y with
  |.slice sz xs r=>bif Nat.beq r 0||Nat.beq aP 0 then fL (splice cs off [.slice sz xs 0]) fun cs=>mK e fail b (some cs) k else kJ e r fun e=>kJ e aP fun e=>fL ((cs.map (fun x=>az aP (az r x))).set off (.slice sz xs aP)) fun cs=>mK e fail b (some cs) k
  |y=>fL (splice cs off (y.cells.map AV.erase0)) fun cs=>mK e fail b (some cs) k
 else fail
def Au(e:ES)(d:Option Nat)(k:ES→R):R:=match d with
 |some d=>c9 e fail d (.tuple []) k
 |none=>k e
def vR:Option Nat→AV→Bool
 |none,.lit (.int _ _)=>true
 |some n,.agg xs=> !Nat.beq n 999&&Nat.beq xs.length n
 |_,_=>false
def Fe(d:Nat)(x:ai)(e:ES)(k:ES→R):R:=bC e fail x fun x=>At fail e d x k
def Ff(d:Nat)(sz:Nat)(e:ES)(k:ES→R):R:=kJ e (d+1) fun e=>c9 e fail d (.slice sz [] (d+1)) k
def Fg(d:Nat)(x:ai)(n:Nat)(e:ES)(k:ES→R):R:=bC e fail x fun x=>bif Nat.beq x.cells.length n then fL (x.cells.map AV.erase0) fun cs=>s8 e fail cs fun b e=>c9 e fail d (.aj b 0) k else fail
def Fh(d:Nat)(z:List AV)(e:ES)(k:ES→R):R:=bif bn 0 z then s8 e fail z fun b e=>c9 e fail d (.aj b 0) k else fail
def Fi(x:ai)(y:ai)(n:Nat)(aP:Nat)(e:ES)(k:ES→R):R:=bC e fail x fun x=>bC e fail y fun y=>match x with
 |.aj b off=>match e.loc.get b with
  |some cs=>Fc fail e b off n aP cs y k
  |none=>fail
 |_=>fail
def Fj(x:ai)(sz:Nat)(aP:Nat)(e:ES)(k:ES→R):R:=bC e fail x fun x=>match x with
 |.aj b off=>match e.loc.get b with
  |some cs=>bif Nat.blt off cs.length then kJ e aP fun e=>fL ((cs.map (az aP)).set off (.slice sz [] aP)) fun cs=>mK e fail b (some cs) k else fail
  |none=>fail
 |_=>fail
def Fk(q:Nat)(y:ai)(n:Nat)(e:ES)(k:ES→R):R:=bC e fail (.t q) fun x=>bC e fail y fun y=>match x with
 |.aj b 0=>match e.loc.get b with
  |some cs=>bif Nat.beq cs.length n&&Nat.beq y.cells.length n&&y.cells.all AV.bE then mK e fail b none fun e=>fL (y.cells.map AV.erase0) fun cs=>c9 e fail q (.ref cs) k else fail
  |none=>fail
 |_=>fail
def Fl(d:Nat)(n:Nat)(sz:Nat)(z:List AV)(ps:List (Nat×ai))(e:ES)(k:ES→R):R:=bif bn 0 z then fL (List.replicate n (if sz=1 then z.getD 0 .any else .agg z)) fun xs=>As fail e sz xs ps fun xs=>kJ e (d+1) fun e=>c9 e fail d (.slice sz xs (d+1)) k else fail
def Fm(d:Nat)(x:ai)(y:ai)(sz:Nat)(bytes:Nat)(e:ES)(k:ES→R):R:=bC e fail x fun x=>bC e fail y fun y=>match x,y with
 |.slice szx xs r,.slice szy ys _=>bif !(Nat.beq r 0)&&Nat.beq szx sz&&(Nat.beq szy sz||ys.isEmpty)&&Nat.ble ((xs.length+ys.length)*bytes) 140737488355328&&Nat.ble (xs.length+ys.length) 140737488355328 then kJ e r fun e=>kJ e (d+1) fun e=>fL (xs++ys) fun zs=>c9 e fail d (.slice sz zs (d+1)) k else fail
 |_,_=>fail
def Fo(d:Nat)(f:FuncId)(xs:List ai)(e:ES)(k:ES→R):R:=ab2 e fail xs fun xs=>match call e.nx f xs with
 |some r=>bif below e.nx r then eK r fun r=>c9 e fail d r k else fail
 |none=>fail
def Fp(d:Nat)(x:ai)(xs:List ai)(e:ES)(k:ES→R):R:=bC e fail x fun x=>ab2 e fail xs fun xs=>match x with
 |.func (.func f) first cap=>match call e.nx f (first++xs++cap) with
  |some r=>bif below e.nx r then eK r fun r=>c9 e fail d r k else fail
  |none=>fail
 |_=>fail
def Fq(d:Nat)(x:ai)(xs:List ai)(e:ES)(k:ES→R):R:=bC e fail x fun x=>ab2 e fail xs fun xs=>match x,e.gh with
 |.func (.yield l) [] [],.ghost l' (y::rest) false=>bif Nat.beq l l'&&bn 0 xs&&jV xs y then fZ (c9 ⟨e.env,e.loc,e.obj,.ghost l rest false,e.nx⟩ fail d (.lit (.bool true)) k) (c9 ⟨e.env,e.loc,e.obj,.ghost l rest true,e.nx⟩ fail d (.lit (.bool false)) k) else fail
 |.func (.yield _) [] [],.ghost l' acc true=>bif col then c9 ⟨e.env,e.loc,e.obj,.ghost l' (acc++[xs]) true,e.nx⟩ fail d (.lit (.bool true)) k else fail
 |_,_=>fail
def Fs(d:Nat)(n:ai)(c:ai)(sz:Nat)(bytes:Nat)(z:List AV)(e:ES)(k:ES→R):R:=bC e fail n fun n=>bC e fail c fun c=>match n,c with
 |.lit (.int .i64 (.ofNat n)),.lit (.int .i64 (.ofNat c))=>bif bn 0 z&&Nat.ble n c&&Nat.ble (c*bytes) 140737488355328&&Nat.ble c 140737488355328&&Nat.ble (c*sz) 140737488355328 then fL (List.replicate c z).flatten fun cs=>s8 e fail cs fun b e=>c9 e fail d (.aq b 0 n c sz) k else fail
 |_,_=>fail
def Ft(d:Nat)(x:ai)(y:ai)(sz:Nat)(e:ES)(k:ES→R):R:=bC e fail x fun x=>bC e fail y fun y=>match x,y with
 |.aq b off len _ sz',.slice b_ ys _=>match e.loc.get b with
  |some cs=>bif Nat.beq sz' sz&&(Nat.beq b_ sz||ys.isEmpty)&&Nat.ble (off+len*sz) cs.length then fL (splice cs off (((ys.take (min ys.length len)).flatMap AV.cells).map AV.erase0)) fun cs=>mK e fail b (some cs) fun e=>fN (min ys.length len) fun n=>c9 e fail d (.lit (.int .i64 n)) k else fail
  |none=>fail
 |_,_=>fail
def Fu(d:Nat)(x:ai)(e:ES)(k:ES→R):R:=bC e fail x fun x=>match x with
 |.lit (.string u)=>Ap e fail (aaU u 0) fun b e=>c9 e fail d (.aj b 0) k
 |_=>fail
def Fv(d:Nat)(x:ai)(e:ES)(k:ES→R):R:=bC e fail x fun x=>match x with
 |.aj b 0=>match e.obj.get b with
  |some (.ghost pos [[.lit (.string u)]] true)=>bif Nat.blt pos u.size then
    fN (pos+(Utf8.decode u pos).2) fun pos'=>fN (Utf8.decode u pos).1 fun c=>vQ e fail b (aaU u pos') fun e=>c9 e fail d (.tuple [.lit (.bool true),.lit (.int .i64 pos),.lit (.int .i32 c)]) k
    else c9 e fail d (.tuple [.lit (.bool false)]) k
  |_=>fail
 |_=>fail
def adl(d:Nat)(e:ES)(k:ES→R):R:=Ap e fail (a_ []) fun b e=>c9 e fail d (.aZ b) k
def Fx(x:ai)(q:ai)(v:ai)(n:Option Nat)(e:ES)(k:ES→R):R:=bC e fail x fun x=>bC e fail q fun q=>bC e fail v fun v=>match x with
 |.aZ b=>match e.obj.get b with
  |some (.ghost 0 es false)=>eK q fun q=>eK v fun v=>bif vR n q&&below 0 q&&below 0 v then (match Z8 q es 0 with
   |some (some i)=>vQ e fail b (a_ (es.set i [q,v])) k
   |some none=>vQ e fail b (a_ (es++[[q,v]])) k
   |none=>fail) else fail
  |_=>fail
 |_=>fail
def Fy(d:Nat)(x:ai)(q:ai)(n:Option Nat)(ok:Bool)(zero:AV)(e:ES)(k:ES→R):R:=bC e fail x fun x=>bC e fail q fun q=>match x with
 |.aZ b=>match e.obj.get b with
  |some (.ghost 0 es false)=>eK q fun q=>bif vR n q&&below 0 q&&below 0 zero then (match Z8 q es 0 with
   |some (some i)=>fA ((es.getD i []).getD 1 .any) fun u=>bif below 0 u then eK u fun u'=>c9 e fail d (if ok then .tuple [u,.lit (.bool true)] else u') k else fail
   |some none=>eK zero fun u'=>c9 e fail d (if ok then .tuple [zero,.lit (.bool false)] else u') k
   |none=>fail) else fail
  |_=>fail
 |_=>fail
def Fz(q:Nat)(e:ES)(k:ES→R):R:=bC e fail (.t q) fun x=>match x with
 |.aq b 0 len _ sz=>match e.loc.get b with
  |some cs=>bif Nat.ble (len*sz) cs.length&&cs.all AV.bE&&Nat.ble len 140737488355328 then mK e fail b none fun e=>fL (chunk sz cs len) fun xs=>c9 e fail q (.slice sz xs 0) k else fail
  |none=>fail
 |_=>fail
def eu:au→ES→(ES→R)→R
 |.ag d x,e,k=>Fe fail d x e k
 |.bK d sz,e,k=>Ff fail d sz e k
 |.j8 d x n,e,k=>Fg fail d x n e k
 |.alloc d z,e,k=>Fh fail d z e k
 |.store x y n aP,e,k=>Fi fail x y n aP e k
 |.jG x sz aP,e,k=>Fj fail x sz aP e k
 |.bH q y n,e,k=>Fk fail q y n e k
 |.aM d n sz z ps,e,k=>Fl fail d n sz z ps e k
 |.app d x y sz bytes,e,k=>Fm fail d x y sz bytes e k
 |.call d f xs,e,k=>Fo call fail d f xs e k
 |.aak d x xs,e,k=>Fp call fail d x xs e k
 |.apart zs x m,e,k=>bif zs.all (Ar e x) then eu m e k else fail
 |.guard g want d m,e,k=>bC e fail (.t g) fun v=>match v with
  |.lit (.bool b)=>bif b==want then eu m e k else Au fail e d k
  |.tuple []=>Au fail e d k
  |_=>fail
 |.iD d x xs,e,k=>Fq col fZ fail d x xs e k
 |.dL d n c sz bytes z,e,k=>Fs fail d n c sz bytes z e k
 |.j_ d x y sz,e,k=>Ft fail d x y sz e k
 |.ja d x,e,k=>Fu fail d x e k
 |.jb d x,e,k=>Fv fail d x e k
 |.mkMap d,e,k=>adl fail d e k
 |.gG x q v n,e,k=>Fx fail x q v n e k
 |.lookup d x q n ok zero,e,k=>Fy fail d x q n ok zero e k
 |.bD q,e,k=>Fz fail q e k
 |m,e,k=>bQ e fail m fun d v=>fA v fun v=>c9 e fail d v k
end
end Go.Z4
namespace Go.Z4
section
variable {R:Type} {P:Program} {call:Nat→FuncId→List AV→Option AV} {fZ:R→R→R} {fail t:R}
def vS(P:Program)(call:Nat→FuncId→List AV→Option AV):Prop:=∀n f xs r,call n f xs=some r→bn n xs=true→below n r=true→∀ρ,aG P f (xs.map (an ρ)) (an ρ r)
theorem mM{e:ES}{ρ:Nat→Nat}{s:St}{d:Nat}{x:AV}{k:ES→R}(h:c9 e fail d x k=t)(ht:t≠fail)(hr:Rel ρ e s)(hx:below e.nx x=true):Nx ρ e k t (s.set d (an ρ x)):=by
 obtain⟨e',g1,g2,g3⟩:=iL h ht hr hx
 exact⟨ρ,e',g1,by omega,fun _ _=>rfl,g3⟩
theorem SV{e:ES}{ρ:Nat→Nat}{s:St}{d:Nat}{x:AV}{k:ES→R}(h:At fail e d x k=t)(ht:t≠fail)(hr:Rel ρ e s)(hx:below e.nx x=true):Nx ρ e k t (aap s d (an ρ x)):=by
 unfold At at h
 split at h
 ·rename_i sz xs r
  simp only[an,aap]
  cases hb:Nat.beq r 0 with
  |true=>
   rw[hb] at h
   rw[if_pos (Nat.eq_of_beq_eq_true hb)]
   have:=mM (x:=.slice sz xs 0) h ht hr (by simpa only[below] using hx)
   simpa only[an] using this
  |false=>
   rw[hb,cond_false] at h
   rw[if_neg (fun e0=>by rw[e0] at hb;cases hb)]
   obtain⟨e1,a1,a2,a3,a4,a5,_⟩:=mL h hr
   obtain⟨e2,b1,b2,b3,b4,b5,_⟩:=mL a5 a1
   obtain⟨e3,c1,c2,c3⟩:=iL (x:=.slice sz xs (d+1)) b5 ht b1 (by rw[b2,a2];simpa only[below] using hx)
   exact⟨ρ,e3,by simpa only[an] using c1,by omega,fun _ _=>rfl,c3⟩
 ·have:aap s d (an ρ x)=s.set d (an ρ x):=by
   rename_i hne
   cases x<;>first|rfl|exact absurd rfl (hne _ _ _)
  rw[this];exact mM h ht hr hx
theorem Av{e:ES}{ρ:Nat→Nat}{s:St}{d:Nat}{cs:List AV}{x:Nat→AV}{k:ES→R}(h:s8 e fail cs (fun b e=>c9 e fail d (x b) k)=t)(ht:t≠fail)(hr:Rel ρ e s)(hc:bn e.nx cs=true)(hx:below (e.nx+1) (x e.nx)=true){B:Nat}(hB:s.loc B=none):Nx ρ e k t ((s.new B (cs.map (an ρ))).set d (an (ak ρ e.nx B) (x e.nx))):=by
 obtain⟨e1,a1,a2,a3,a4⟩:=SU h ht hr hc hB
 obtain⟨e2,b1,b2,b3⟩:=iL a4 ht a1 (by rw[a2];exact hx)
 exact⟨_,e2,b1,by omega,qH,b3⟩
theorem FA{xs:List AV}{ρ:Nat→Nat}{sz sz':Nat}(h:(Nat.beq sz' sz||xs.isEmpty)=true):sz'=sz∨xs.map (an ρ)=[]:=by
 rcases Bool.or_eq_true _ _▸h with h|h
 ·exact .inl (Nat.eq_of_beq_eq_true h)
 ·exact .inr (by rw[List.isEmpty_iff.1 h];rfl)
theorem FB(ht:t≠fail){e:ES}{ρ:Nat→Nat}{s:St}(hr:Rel ρ e s){sz:Nat}:∀{ps:List (Nat×ai)} {xs:List AV} {k:List AV→R},As fail e sz xs ps k=t→bn e.nx xs=true→∃v,bn e.nx v=true∧k v=t∧∀K:List AV→Prop,K (v.map (an ρ))→gn s.env sz (xs.map (an ρ)) ps K
 |[],xs,k,h,hb=>⟨xs,hb,h,fun K hK=>hK⟩
 |(i,x)::ps,xs,k,h,hb=>by
  obtain⟨x',h1,h2,h3⟩:=bB h ht hr
  obtain⟨h4,h5⟩:=cx h3 ht
  simp only[Bool.and_eq_true] at h4
  rw[aaH,eO] at h5
  obtain⟨v,g1,g2,g3⟩:=FB ht hr h5 (vM i hb (gR h2))
  refine⟨v,g1,g2,fun K hK=>⟨by rw[h1,kH,aa7];exact Nat.eq_of_beq_eq_true h4.1.1,by rw[h1,kH,vI];exact h4.1.2,by rw[aa7];exact Nat.lt_of_succ_le (by simpa[Nat.blt] using h4.2),?_⟩⟩
  rw[h1,gP,←List.map_set]
  exact g3 K hK
theorem FC{n:Option Nat}{x:AV}(h:vR n x=true):eL n x:=by
 unfold vR at h
 split at h
 ·trivial
 ·rename_i m xs
  rw[Bool.and_eq_true] at h
  have h1:m≠999:=fun e=>by subst e;cases h.1
  have h2:=Nat.eq_of_beq_eq_true h.2
  unfold eL
  split<;>simp_all
 ·cases h
theorem SW{e:ES}{ρ:Nat→Nat}{s:St}(hr:Rel ρ e s){x z:ai}(h:Ar e x z=true):abK (z.ev s.env) (x.ev s.env):=by
 unfold Ar at h
 split at h
 ·rename_i b' o' b o h1 h2
  obtain⟨x1,a1,a2,a3⟩:=bB h1 (by simp) hr
  obtain⟨x2,b1,b2,b3⟩:=bB h2 (by simp) hr
  injection a3 with a3;injection b3 with b3
  subst a3 b3
  rw[a1,b1]
  simp only[an,abK]
  simp only[Bool.and_eq_true,Bool.not_eq_true',Option.isSome_iff_ne_none] at h
  intro hh
  have:=hr.kI b' b h.1.2 h.2 hh
  subst this
  have h0:=h.1.1
  simp at h0
 ·rename_i h1 h2
  obtain⟨x1,a1,a2,a3⟩:=bB h1 (by simp) hr
  obtain⟨x2,b1,b2,b3⟩:=bB h2 (by simp) hr
  injection a3 with a3;injection b3 with b3
  subst a3 b3
  rw[a1,b1]
  simp only[an,abK]
 ·cases h
theorem SX{e:ES}{ρ:Nat→Nat}{s:St}{b off n aP:Nat}{cs:List AV}{y:AV}{k:ES→R}(h:Fc fail e b off n aP cs y k=t)(ht:t≠fail)(hr:Rel ρ e s)(hb:e.loc.get b=some cs)(hy:below e.nx y=true):gI s (.aj (ρ b) off) (an ρ y) n aP (Nx ρ e k t):=by
 obtain⟨l1,l2,l3⟩:=hr.loc b cs hb
 obtain⟨h1,h2⟩:=cx h ht
 simp only[Bool.and_eq_true,Nat.ble_eq] at h1
 simp only[gI,l2,aa7,kH,vI]
 refine⟨h1.1.1,Nat.eq_of_beq_eq_true h1.1.2,h1.2,?_⟩
 have plain:∀zs:List AV,bn e.nx zs=true→mK e fail b (some (splice cs off zs)) k=t→Nx ρ e k t (s.new (ρ b) (splice (cs.map (an ρ)) off (zs.map (an ρ)))):=by
  intro zs hz hl
  obtain⟨e1,a1,a2,a3,a4,_⟩:=qI hl ht hr hb (fun x hx=>by injection hx with hx;subst hx;exact vN _ _ _ l3 hz)
  rw[vH]
  exact⟨ρ,e1,a1,by omega,fun _ _=>rfl,a4⟩
 split at h2
 ·rename_i sz xs r
  simp only[an,cL]
  cases hc:(Nat.beq r 0||Nat.beq aP 0) with
  |true=>
   rw[hc] at h2
   rw[if_pos (by rcases Bool.or_eq_true _ _▸hc with q|q;exact .inl (Nat.eq_of_beq_eq_true q);exact .inr (Nat.eq_of_beq_eq_true q))]
   rw[cond_true,eO] at h2
   have:=plain [.slice sz xs 0] (by simp only[bn,Bool.and_true];simpa only[below] using hy) h2
   simpa only[List.map_cons,List.map_nil,an,cL] using this
  |false=>
   rw[hc] at h2
   rw[if_neg (by
    rintro(q|q)
    ·rw[q] at hc;simp at hc
    ·rw[q] at hc;simp at hc)]
   rw[cond_false] at h2
   obtain⟨e1,a1,a2,a3,a4,a5,a6⟩:=mL h2 hr
   obtain⟨e2,b1,b2,b3,b4,b5,b6⟩:=mL a5 a1
   rw[eO] at b5
   have hcs:bn e2.nx ((cs.map (fun x=>az aP (az r x))).set off (.slice sz xs aP))=true:=by
    rw[b2,a2]
    refine vM off ?_ (by simpa only[below] using hy)
    have:=vK aP (vK r l3)
    rwa [List.map_map] at this
   obtain⟨e3,c1,c2,c3,c4,_⟩:=qI b5 ht b1 (b6 b _ (a6 b _ hb)) (fun x hx=>by injection hx with hx;subst hx;exact hcs)
   refine⟨ρ,e3,?_,by omega,fun _ _=>rfl,c4⟩
   have e4:((cs.map (an ρ)).map (fun x=>az aP (az r x))).set off (.slice sz (xs.map (an ρ)) aP)=((cs.map (fun x=>az aP (az r x))).set off (.slice sz xs aP)).map (an ρ):=by
    rw[List.map_set,List.map_map,List.map_map]
    simp only[an,cL]
    congr 1
    exact List.map_congr_left fun x _=>by simp only[Function.comp_apply,sY]
   rw[e4];exact c1
 ·have hne:∀sz xs r,an ρ y≠.slice sz xs r:=by
   rename_i hne
   intro sz xs r hh
   cases y<;>simp only[an] at hh<;>first|(cases hh;done)|exact hne _ _ _ rfl
  rw[eO] at h2
  have:=plain _ (mJ (ab0 hy)) h2
  rw[←nT] at this
  generalize hq:an ρ y=y' at hne
  cases y'<;>first|exact absurd rfl (hne _ _ _)|(rw[←kH,hq] at this;exact this)
end
end Go.Z4
namespace Go.Z4
section
variable {R:Type} {P:Program} {call:Nat→FuncId→List AV→Option AV} {fZ:R→R→R} {fail t:R}
theorem SY{a b:Nat}(h:Nat.blt a b=true):a<b:=Nat.lt_of_succ_le (by simpa[Nat.blt] using h)
theorem SZ{a b:Nat}(h:Nat.blt a b=false):¬a<b:=fun hlt=>by
 have:Nat.blt a b=true:=by rw[Nat.blt,Nat.ble_eq];exact hlt
 rw[h] at this;cases this
theorem S0(qJ:vS P call)(qK:∀a b,fZ a b=t→a=t∧b=t)(ht:t≠fail):∀(m:au) (e:ES) (k:ES→R) (s:St) (ρ:Nat→Nat),eu false call fZ fail m e k=t→Rel ρ e s→Z2 P m s (Nx ρ e k t):=by
 have FD:∀{e:ES} {ρ:Nat→Nat} {s:St} {d:Nat} {f:FuncId} {xs:List AV} {k:ES→R},Rel ρ e s→bn e.nx xs=true→(match call e.nx f xs with|some r=>bif below e.nx r then eK r fun r=>c9 e fail d r k else fail|none=>fail)=t→∃r,aG P f (xs.map (an ρ)) r∧Nx ρ e k t (s.set d r.erase):=by
  intro e ρ s d f xs k hr hx h
  split at h
  ·rename_i r hc
   obtain⟨g2,h⟩:=cx h ht
   have g1:=qJ _ _ _ _ hc hx g2 ρ
   rw[aaH] at h
   refine⟨_,g1,?_⟩
   rw[gP]
   exact mM h ht hr (gR g2)
  ·exact absurd h.symm ht
 have pure:∀{m:au} {e:ES} {k:ES→R} {s:St} {ρ:Nat→Nat},bQ e fail m (fun d v=>fA v fun v=>c9 e fail d v k)=t→Rel ρ e s→Z2 P m s (Nx ρ e k t):=by
  intro m e k s ρ h hr
  obtain⟨d,v,h1,h2,h3⟩:=SR P h ht hr
  rw[vO] at h2
  exact h3 _ (mM h2 ht hr h1)
 intro m
 induction m with
 |ag d x=>
  intro e k s ρ h hr
  dsimp only[eu,Fe] at h
  obtain⟨x,h1,h2,h3⟩:=bB h ht hr
  simp only[Z2,h1]
  exact SV h3 ht hr h2
 |bK d sz=>
  intro e k s ρ h hr
  dsimp only[eu,Ff] at h
  obtain⟨e1,a1,a2,a3,a4,a5,_⟩:=mL h hr
  obtain⟨e2,b1,b2,b3⟩:=iL (x:=.slice sz [] (d+1)) a5 ht a1 rfl
  exact⟨ρ,e2,by simpa only[an,eD] using b1,by omega,fun _ _=>rfl,b3⟩
 |j8 d x n=>
  intro e k s ρ h hr
  dsimp only[eu,Fg] at h
  obtain⟨x,h1,h2,h3⟩:=bB h ht hr
  obtain⟨h4,h5⟩:=cx h3 ht
  rw[eO] at h5
  simp only[Z2,h1,kH,aa7,nT]
  refine⟨Nat.eq_of_beq_eq_true h4,fun B hB=> ?_⟩
  have:=Av (x:=fun b=>.aj b 0) h5 ht hr (mJ (ab0 h2)) (by simp[below,Nat.blt]) hB
  simpa only[an,cI] using this
 |alloc d z=>
  intro e k s ρ h hr
  dsimp only[eu,Fh] at h
  obtain⟨h4,h5⟩:=cx h ht
  simp only[Z2]
  intro B hB
  have hz:z.map (an ρ)=z:=by
   have:=List.map_congr_left (f:=an ρ) (g:=id) (l:=z) fun x hx=>gQ (ff.1 h4 x hx)
   rw[this,List.map_id]
  have:=Av (x:=fun b=>.aj b 0) h5 ht hr (iK (Nat.zero_le _) _ h4) (by simp[below,Nat.blt]) hB
  simpa only[an,cI,hz] using this
 |store x y n aP=>
  intro e k s ρ h hr
  dsimp only[eu,Fi] at h
  obtain⟨x,h1,h2,h3⟩:=bB h ht hr
  obtain⟨y,h4,h5,h6⟩:=bB h3 ht hr
  simp only[Z2,h1,h4]
  split at h6
  ·split at h6
   ·rename_i cs hcs
    have:=SX h6 ht hr hcs h5
    simpa only[an] using this
   ·exact absurd h6.symm ht
  ·exact absurd h6.symm ht
 |jG x sz aP=>
  intro e k s ρ h hr
  dsimp only[eu,Fj] at h
  obtain⟨x,h1,h2,h3⟩:=bB h ht hr
  split at h3
  ·rename_i b off
   split at h3
   ·rename_i cs hcs
    obtain⟨l1,l2,l3⟩:=hr.loc b cs hcs
    obtain⟨c1,c2⟩:=cx h3 ht
    simp only[Z2,h1,an,l2,aa7]
    refine⟨Nat.lt_of_succ_le (by simpa[Nat.blt] using c1),?_⟩
    obtain⟨e1,a1,a2,a3,a4,a5,a6⟩:=mL c2 hr
    rw[eO] at a5
    have hb:bn e1.nx ((cs.map (az aP)).set off (.slice sz [] aP))=true:=by rw[a2];exact vM off (vK aP l3) rfl
    obtain⟨e3,c1,c2,c3,c4,_⟩:=qI a5 ht a1 (a6 b _ hcs) (fun x hx=>by injection hx with hx;subst hx;exact hb)
    refine⟨ρ,e3,?_,by omega,fun _ _=>rfl,c4⟩
    have e4:((cs.map (an ρ)).map (az aP)).set off (.slice sz [] aP)=((cs.map (az aP)).set off (.slice sz [] aP)).map (an ρ):=by
     rw[List.map_set,List.map_map,List.map_map]
     simp only[an,eD]
     congr 1
     exact List.map_congr_left fun x _=>by simp only[Function.comp_apply,sY]
    rw[e4];exact c1
   ·exact absurd h3.symm ht
  ·exact absurd h3.symm ht
 |bH q y n=>
  intro e k s ρ h hr
  dsimp only[eu,Fk] at h
  obtain⟨x,h1,h2,h3⟩:=bB h ht hr
  obtain⟨y,h4,h5,h6⟩:=bB h3 ht hr
  split at h6
  ·rename_i b
   split at h6
   ·rename_i cs hcs
    obtain⟨l1,l2,l3⟩:=hr.loc b cs hcs
    obtain⟨c1,c2⟩:=cx h6 ht
    simp only[Bool.and_eq_true] at c1
    obtain⟨e1,a1,a2,a3,a4,_⟩:=qI c2 ht hr hcs (fun x hx=>by cases hx)
    rw[eO] at a4
    obtain⟨e2,b1,b2,b3⟩:=iL (x:=.ref (y.cells.map AV.erase0)) a4 ht a1 (by rw[a2];simp only[below];exact mJ (ab0 h5))
    simp only[an] at h1
    replace h1:s.env q=.aj (ρ b) 0:=h1
    simp only[Z2,h1,l2,h4,aa7,kH,vI,nT]
    refine⟨Nat.eq_of_beq_eq_true c1.1.1,Nat.eq_of_beq_eq_true c1.1.2,c1.2,ρ,e2,?_,by omega,fun _ _=>rfl,b3⟩
    simp only[an,cL] at b1
    exact b1
   ·exact absurd h6.symm ht
  ·exact absurd h6.symm ht
 |aM d n sz z ps=>
  intro e k s ρ h hr
  dsimp only[eu,Fl] at h
  obtain⟨h4,h5⟩:=cx h ht
  rw[eO] at h5
  have hz:an ρ (if sz=1 then z.getD 0 .any else .agg z)=(if sz=1 then z.getD 0 .any else .agg z):=by
   refine gQ ?_
   split
   ·exact ab1 0 h4
   ·exact h4
  have hb0:bn e.nx (List.replicate n (if sz=1 then z.getD 0 .any else .agg z))=true:=by
   refine Se n (jo (Nat.zero_le _) _ ?_)
   split
   ·exact ab1 0 h4
   ·exact h4
  obtain⟨v,g1,g2,g3⟩:=FB ht hr h5 hb0
  rw[List.map_replicate,hz] at g3
  simp only[Z2]
  refine g3 (fun xs=>Nx ρ e k t ((s.aB (d+1)).set d (.slice sz xs (d+1)))) ?_
  obtain⟨e1,a1,a2,a3,a4,a5,_⟩:=mL g2 hr
  obtain⟨e2,b1,b2,b3⟩:=iL (x:=.slice sz v (d+1)) a5 ht a1 (by rw[a2];exact g1)
  exact⟨ρ,e2,by simpa only[an,cL] using b1,by omega,fun _ _=>rfl,b3⟩
 |app d x y sz bytes=>
  intro e k s ρ h hr
  dsimp only[eu,Fm] at h
  obtain⟨x,h1,h2,h3⟩:=bB h ht hr
  obtain⟨y,h4,h5,h6⟩:=bB h3 ht hr
  split at h6
  ·rename_i szx xs r szy ys r2
   obtain⟨c1,c2⟩:=cx h6 ht
   simp only[Bool.and_eq_true,Bool.not_eq_true',Nat.ble_eq] at c1
   simp only[Z2,h1,h4,an,cL,aa7]
   refine⟨fun e0=> ?_,Nat.eq_of_beq_eq_true c1.1.1.1.2,FA c1.1.1.2,c1.1.2,c1.2,?_⟩
   ·have:=c1.1.1.1.1;rw[e0] at this;cases this
   ·obtain⟨e1,a1,a2,a3,a4,a5,_⟩:=mL c2 hr
    obtain⟨e2,b1,b2,b3,b4,b5,_⟩:=mL a5 a1
    rw[eO] at b5
    obtain⟨e3,c1,c2,c3⟩:=iL (x:=.slice sz (xs++ys) (d+1)) b5 ht b1 (by rw[b2,a2];simp only[below] at h2 h5⊢;exact acv h2 h5)
    exact⟨ρ,e3,by simpa only[an,cL,List.map_append] using c1,by omega,fun _ _=>rfl,c3⟩
  ·exact absurd h6.symm ht
 |call d f xs=>
  intro e k s ρ h hr
  dsimp only[eu,Fo] at h
  obtain⟨xs,h1,h2,h3⟩:=qG ht hr h
  simp only[Z2,h1]
  exact FD hr h2 h3
 |aak d x xs=>
  intro e k s ρ h hr
  dsimp only[eu,Fp] at h
  obtain⟨x,h1,h2,h3⟩:=bB h ht hr
  obtain⟨ys,h4,h5,h6⟩:=qG ht hr h3
  split at h6
  ·rename_i f first cap
   simp only[below,Bool.and_eq_true] at h2
   simp only[Z2,h1,an,abo,cL,h4]
   obtain⟨r,g1,g2⟩:=FD hr (acv (acv h2.1.2 h5) h2.2) h6
   exact⟨r,by simpa only[List.map_append] using g1,g2⟩
  ·exact absurd h6.symm ht
 |apart zs x m ih=>
  intro e k s ρ h hr
  obtain⟨h1,h2⟩:=cx h ht
  exact⟨fun z hz=>SW hr ((List.all_eq_true.1 h1) z hz),ih e k s ρ h2 hr⟩
 |guard g want d m ih=>
  intro e k s ρ h hr
  obtain⟨v,h1,h2,h3⟩:=bB h ht hr
  replace h1:s.env g=an ρ v:=h1
  split at h3
  ·rename_i b
   replace h3:(bif b==want then eu false call fZ fail m e k else Au fail e d k)=t:=h3
   simp only[Z2,h1,an]
   by_cases hb:b=want
   ·subst hb
    rw[beq_self_eq_true,cond_true] at h3
    exact⟨fun _=>ih e k s ρ h3 hr,fun hh=>by cases b<;>cases hh⟩
   ·have:(b==want)=false:=by simpa using hb
    rw[this,cond_false] at h3
    exact⟨fun hh=>absurd hh hb,fun _=>by
     cases d with
     |none=>exact .of hr h3
     |some d=>have:=mM (x:=.tuple []) h3 ht hr rfl;simpa only[an,eD] using this⟩
  ·simp only[Z2,h1,an,eD]
   cases d with
   |none=>exact .of hr h3
   |some d=>have:=mM (x:=.tuple []) h3 ht hr rfl;simpa only[an,eD] using this
  ·exact absurd h3.symm ht
 |iD d x xs=>
  intro e k s ρ h hr
  dsimp only[eu,Fq] at h
  obtain⟨x,h1,h2,h3⟩:=bB h ht hr
  obtain⟨ys,h4,h5,h6⟩:=qG ht hr h3
  split at h6
  ·rename_i l l' y rest hg
   obtain⟨c1,c2⟩:=cx h6 ht
   simp only[Bool.and_eq_true] at c1
   have hgh:=hr.gh
   rw[hg] at hgh
   have FE:=hr.gb
   rw[hg] at FE
   have qL:l=l':=Nat.eq_of_beq_eq_true c1.1.1
   subst qL
   simp only[an] at hgh
   obtain⟨d1,d2⟩:=qK _ _ c2
   have hys:ys.map (an ρ)=ys:=by
    have:=List.map_congr_left (f:=an ρ) (g:=id) (l:=ys) fun x hx=>gQ (ff.1 c1.1.2 x hx)
    rw[this,List.map_id]
   simp only[Z2,h1,an,abo,eD,hgh,h4,hys]
   have S1:∀q:Bool,Rel ρ ⟨e.env,e.loc,e.obj,.ghost l rest q,e.nx⟩ (s.set gS (.ghost (ρ l) rest q)):=fun q=>
    ⟨fun j hj=>(Z5 _ _ (by omega)).trans (hr.env j hj),hr.jn,by rw[abb];simp only[an],FE,hr.loc,hr.kI,fun b x hb=>by
      obtain⟨o1,o2,o3⟩:=hr.obj b x hb
      exact⟨o1,(Z5 _ _ (Nat.ne_of_gt (abd _))).trans o2,o3⟩,hr.lG,hr.og,rfl⟩
   have go:∀q:Bool,c9 ⟨e.env,e.loc,e.obj,.ghost l rest q,e.nx⟩ fail d (.lit (.bool (!q))) k=t→Nx ρ e k t ((s.set gS (.ghost (ρ l) rest q)).set d (.lit (.bool (!q)))):=by
    intro q hq
    obtain⟨e2,b1,b2,b3⟩:=iL hq ht (S1 q) rfl
    exact⟨ρ,e2,by simpa only[an] using b1,by rw[b2];exact Nat.le_refl _,fun _ _=>rfl,b3⟩
   exact⟨trivial,pq _ _ c1.2,go false d1,go true d2⟩
  ·exact absurd h6.symm ht
  ·exact absurd h6.symm ht
 |dL d n c sz bytes z=>
  intro e k s ρ h hr
  dsimp only[eu,Fs] at h
  obtain⟨n,h1,h2,h3⟩:=bB h ht hr
  obtain⟨c,h4,h5,h6⟩:=bB h3 ht hr
  split at h6
  ·rename_i n c
   obtain⟨c1,c2⟩:=cx h6 ht
   simp only[Bool.and_eq_true,Nat.ble_eq] at c1
   rw[eO] at c2
   simp only[Z2,h1,h4,an,Int.ofNat_eq_natCast,Int.toNat_natCast]
   have hz:(List.replicate c z).flatten.map (an ρ)=(List.replicate c z).flatten:=by
    have:=List.map_congr_left (f:=an ρ) (g:=id) (l:=(List.replicate c z).flatten) fun x hx=>gQ (by
     obtain⟨l,hl,hx⟩:=List.mem_flatten.1 hx
     rw[(List.mem_replicate.1 hl).2] at hx
     exact ff.1 c1.1.1.1.1 x hx)
    rw[this,List.map_id]
   have S2:bn e.nx (List.replicate c z).flatten=true:=by
    rw[ff]
    intro x hx
    obtain⟨l,hl,hx⟩:=List.mem_flatten.1 hx
    rw[(List.mem_replicate.1 hl).2] at hx
    exact jo (Nat.zero_le _) _ (ff.1 c1.1.1.1.1 x hx)
   refine⟨by omega,by omega,by have:=c1.1.1.2;rw[←Int.natCast_mul];omega,by omega,by have:=c1.2;rw[←Int.natCast_mul];omega,fun B hB=> ?_⟩
   have:=Av (x:=fun b=>.aq b 0 n c sz) c2 ht hr S2 (by simp[below,Nat.blt]) hB
   simpa only[an,cI,hz] using this
  ·exact absurd h6.symm ht
 |j_ d x y sz=>
  intro e k s ρ h hr
  dsimp only[eu,Ft] at h
  obtain⟨x,h1,h2,h3⟩:=bB h ht hr
  obtain⟨y,h4,h5,h6⟩:=bB h3 ht hr
  split at h6
  ·rename_i b off len cap sz' b_ ys r
   split at h6
   ·rename_i cs hcs
    obtain⟨l1,l2,l3⟩:=hr.loc b cs hcs
    obtain⟨c1,c2⟩:=cx h6 ht
    simp only[Bool.and_eq_true,Nat.ble_eq] at c1
    rw[eO] at c2
    simp only[Z2,h1,h4,an,cL,l2,aa7]
    refine⟨Nat.eq_of_beq_eq_true c1.1.1,FA c1.1.2,c1.2,?_⟩
    have hb:bn e.nx (splice cs off (((ys.take (min ys.length len)).flatMap AV.cells).map AV.erase0))=true:=vN _ _ _ l3 (mJ (Sd (vL _ (by simpa only[below] using h5))))
    obtain⟨e3,d1,d2,d3,d4,_⟩:=qI c2 ht hr hcs (fun x hx=>by injection hx with hx;subst hx;exact hb)
    rw[nU] at d4
    obtain⟨e4,f1,f2,f3⟩:=iL d4 ht d1 rfl
    refine⟨ρ,e4,?_,by omega,fun _ _=>rfl,f3⟩
    rw[←List.map_take,Sb,nT,vH]
    simp only[an] at f1
    exact f1
   ·exact absurd h6.symm ht
  ·exact absurd h6.symm ht
 |ja d x=>
  intro e k s ρ h hr
  dsimp only[eu,Fu] at h
  obtain⟨x,h1,h2,h3⟩:=bB h ht hr
  split at h3
  ·simp only[Z2,h1,an]
   intro B hB Aw
   obtain⟨e1,a1,a2,a3,a4⟩:=Fa h3 ht hr (by intro e;cases e) rfl Aw
   obtain⟨e2,b1,b2,b3⟩:=iL (x:=.aj e.nx 0) a4 ht a1 (by rw[a2];simp[below,Nat.blt])
   exact⟨_,e2,by simpa only[an,cI] using b1,by omega,qH,b3⟩
  ·exact absurd h3.symm ht
 |jb d x=>
  intro e k s ρ h hr
  dsimp only[eu,Fv] at h
  obtain⟨x,h1,h2,h3⟩:=bB h ht hr
  split at h3
  ·rename_i b
   split at h3
   ·rename_i pos u cm
    obtain⟨o1,o2,o3⟩:=hr.obj b _ cm
    simp only[Z2,h1,an]
    refine⟨u,pos,o2,fun hp=> ?_,fun hp=> ?_⟩
    ·have hb:Nat.blt pos u.size=true:=by cases hq:Nat.blt pos u.size;exact absurd hp (SZ hq);rfl
     rw[hb,cond_true,nU,nU] at h3
     obtain⟨e1,a1,a2,a3,a4⟩:=Aq h3 ht hr cm (by intro e;cases e) rfl
     obtain⟨e2,b1,b2,b3⟩:=iL a4 ht a1 rfl
     exact⟨ρ,e2,by simpa only[an,eD] using b1,by omega,fun _ _=>rfl,b3⟩
    ·have hb:Nat.blt pos u.size=false:=by cases hq:Nat.blt pos u.size;rfl;exact absurd (SY hq) hp
     rw[hb,cond_false] at h3
     have:=mM (x:=.tuple [.lit (.bool false)]) h3 ht hr rfl
     simpa only[an,eD] using this
   ·exact absurd h3.symm ht
  ·exact absurd h3.symm ht
 |mkMap d=>
  intro e k s ρ h hr
  dsimp only[eu,adl] at h
  simp only[Z2]
  intro B hB Aw
  obtain⟨e1,a1,a2,a3,a4⟩:=Fa h ht hr (by intro e;cases e) rfl Aw
  obtain⟨e2,b1,b2,b3⟩:=iL (x:=.aZ e.nx) a4 ht a1 (by rw[a2];simp[below,Nat.blt])
  exact⟨_,e2,by simpa only[an,cI] using b1,by omega,qH,b3⟩
 |gG x q v n=>
  intro e k s ρ h hr
  dsimp only[eu,Fx] at h
  obtain⟨x,h1,h2,h3⟩:=bB h ht hr
  obtain⟨q,h4,h5,h6⟩:=bB h3 ht hr
  obtain⟨v,h7,h8,h9⟩:=bB h6 ht hr
  split at h9
  ·rename_i b
   split at h9
   ·rename_i es cm
    obtain⟨o1,o2,o3⟩:=hr.obj b _ cm
    rw[aaH,aaH] at h9
    obtain⟨c1,c2⟩:=cx h9 ht
    simp only[Bool.and_eq_true] at c1
    simp only[Z2,h1,h4,h7,an,gP,gQ c1.1.2,gQ c1.2]
    refine⟨es,o2,FC c1.1.1,?_⟩
    split at c2
    ·rename_i i hka
     obtain⟨e1,a1,a2,a3,a4⟩:=Aq c2 ht hr cm (by intro e;cases e) rfl
     rw[hka]
     exact⟨ρ,e1,a1,by omega,fun _ _=>rfl,a4⟩
    ·rename_i hka
     obtain⟨e1,a1,a2,a3,a4⟩:=Aq c2 ht hr cm (by intro e;cases e) rfl
     rw[hka]
     exact⟨ρ,e1,a1,by omega,fun _ _=>rfl,a4⟩
    ·exact absurd c2.symm ht
   ·exact absurd h9.symm ht
  ·exact absurd h9.symm ht
 |lookup d x q n ok zero=>
  intro e k s ρ h hr
  dsimp only[eu,Fy] at h
  obtain⟨x,h1,h2,h3⟩:=bB h ht hr
  obtain⟨q,h4,h5,h6⟩:=bB h3 ht hr
  split at h6
  ·rename_i b
   split at h6
   ·rename_i es cm
    obtain⟨o1,o2,o3⟩:=hr.obj b _ cm
    rw[aaH] at h6
    obtain⟨c1,c2⟩:=cx h6 ht
    simp only[Bool.and_eq_true] at c1
    simp only[Z2,h1,h4,an,gP,gQ c1.1.2]
    refine⟨es,o2,FC c1.1.1,?_⟩
    split at c2
    ·rename_i i hka
     rw[hka]
     rw[vO] at c2
     obtain⟨d1,d2⟩:=cx c2 ht
     rw[aaH] at d2
     have cF:below 0 (if ok=true then AV.tuple [(es.getD i []).getD 1 .any,.lit (.bool true)] else ((es.getD i []).getD 1 .any).erase)=true:=by
      split
      ·simp only[below,bn,d1,Bool.and_self]
      ·exact gR d1
     have:=mM d2 ht hr (jo (Nat.zero_le _) _ cF)
     rwa [gQ cF] at this
    ·rename_i hka
     rw[hka]
     rw[aaH] at c2
     have cF:below 0 (if ok=true then AV.tuple [zero,.lit (.bool false)] else zero.erase)=true:=by
      split
      ·simp only[below,bn,c1.2,Bool.and_self]
      ·exact gR c1.2
     have:=mM c2 ht hr (jo (Nat.zero_le _) _ cF)
     rwa [gQ cF] at this
    ·exact absurd c2.symm ht
   ·exact absurd h6.symm ht
  ·exact absurd h6.symm ht
 |bD q=>
  intro e k s ρ h hr
  dsimp only[eu,Fz] at h
  obtain⟨x,h1,h2,h3⟩:=bB h ht hr
  split at h3
  ·rename_i b len cap sz
   split at h3
   ·rename_i cs hcs
    obtain⟨l1,l2,l3⟩:=hr.loc b cs hcs
    obtain⟨c1,c2⟩:=cx h3 ht
    simp only[Bool.and_eq_true,Nat.ble_eq] at c1
    simp only[an] at h1
    replace h1:s.env q=.aq (ρ b) 0 len cap sz:=h1
    simp only[Z2,h1,l2,aa7,vI,E3]
    refine⟨c1.1.1,c1.1.2,c1.2,?_⟩
    obtain⟨e1,a1,a2,a3,a4,_⟩:=qI c2 ht hr hcs (fun x hx=>by cases hx)
    rw[eO] at a4
    obtain⟨e2,b1,b2,b3⟩:=iL (x:=.slice sz (chunk sz cs len) 0) a4 ht a1 (by rw[a2];simp only[below];exact adi sz len cs l3)
    refine⟨ρ,e2,?_,by omega,fun _ _=>rfl,b3⟩
    simp only[an,cL] at b1
    exact b1
   ·exact absurd h3.symm ht
  ·exact absurd h3.symm ht
 |_=>intro e k s ρ h hr;exact pure h hr
end
end Go.Z4
namespace Go.Z4
section
variable {P:Program}
theorem S3:∀{m:au} {s:St} {K K':St→Prop},(∀s,K s→K' s)→Z2 P m s K→Z2 P m s K':=by
 intro m
 induction m with
 |apart zs x m ih=>intro s K K' hk h;exact⟨h.1,ih hk h.2⟩
 |guard g want d m ih=>
  intro s K K' hk h
  simp only[Z2] at h⊢
  split at h
  ·exact⟨fun e=>ih hk (h.1 e),fun e=>hk _ (h.2 e)⟩
  ·exact hk _ h
  ·exact h.elim
 |load d x n=>intro s K K' hk h;exact DX (fun v=>hk _) h
 |aaW d x n=>
  intro s K K' hk h
  simp only[Z2] at h⊢
  split at h
  ·exact nK (fun v=>hk _) h
  ·exact h.elim
 |store x y n aP=>
  intro s K K' hk h
  simp only[Z2,gI] at h⊢
  split at h
  ·split at h
   ·refine⟨h.1,h.2.1,h.2.2.1,?_⟩
    have h:=h.2.2.2
    split at h
    ·split at h
     ·rename_i h0;rw[if_pos h0];exact hk _ h
     ·rename_i h0;rw[if_neg h0];exact hk _ h
    ·exact hk _ h
   ·exact h.elim
  ·exact h.elim
 |build d z ps=>intro s K K' hk h;exact yC (fun v=>hk _) h
 |aM d n sz z ps=>intro s K K' hk h;exact yD (fun v=>hk _) h
 |bin d op x y=>intro s K K' hk h;exact DZ (fun v=>hk _) h
 |fld d x off n=>
  intro s K K' hk h
  simp only[Z2] at h⊢
  split at h
  ·exact nK (fun v=>hk _) h
  ·exact h.elim
 |iB d x i len sz n=>
  intro s K K' hk h
  simp only[Z2] at h⊢
  split at h
  ·exact⟨h.1,h.2.1,nK (fun v=>hk _) h.2.2⟩
  ·exact h.elim
 |aaw d neg n x y=>
  intro s K K' hk h
  simp only[Z2] at h⊢
  split at h
  ·obtain⟨h1,h2,q,hq,h⟩:=h
   exact⟨h1,h2,q,hq,hk _ h⟩
  ·exact h.elim
 |call d f xs=>intro s K K' hk h;obtain⟨r,h1,h2⟩:=h;exact⟨r,h1,hk _ h2⟩
 |aak d x xs=>
  intro s K K' hk h
  simp only[Z2] at h⊢
  split at h
  ·obtain⟨r,h1,h2⟩:=h;exact⟨r,h1,hk _ h2⟩
  ·exact h.elim
 |j8 d x n=>intro s K K' hk h;exact⟨h.1,fun b hb=>hk _ (h.2 b hb)⟩
 |alloc d z=>intro s K K' hk h;exact fun b hb=>hk _ (h b hb)
 |dL d n c sz bytes zero=>
  intro s K K' hk h
  simp only[Z2] at h⊢
  split at h
  ·exact⟨h.1,h.2.1,h.2.2.1,h.2.2.2.1,h.2.2.2.2.1,fun b hb=>hk _ (h.2.2.2.2.2 b hb)⟩
  ·exact h.elim
 |fy d f xs=>intro s K K' hk h;exact d_.mono (fun r s' hh=>hk _ hh) h
 |iE d x xs=>
  intro s K K' hk h
  simp only[Z2] at h⊢
  split at h
  ·exact d_.mono (fun r s' hh=>hk _ hh) h
  ·exact h.elim
 |aaD d f xs=>intro s K K' hk h;obtain⟨ys,u,h1,h2,h3,h4⟩:=h;exact⟨ys,u,h1,h2,h3,hk _ h4⟩
 |lZ d x y sz=>
  intro s K K' hk h
  simp only[Z2] at h⊢
  split at h
  ·split at h
   ·exact⟨h.1,h.2.1,h.2.2.1,h.2.2.2.1,h.2.2.2.2.1,hk _ h.2.2.2.2.2⟩
   ·exact h.elim
  ·exact h.elim
 |ab5 d x=>
  intro s K K' hk h
  simp only[Z2] at h⊢
  split at h
  ·obtain⟨b,seen,i,es,h1,h2,h3,h4⟩:=h
   exact⟨b,seen,i,es,h1,h2,h3,hk _ h4⟩
  ·exact h.elim
 |isNil d neg x=>
  intro s K K' hk h
  simp only[Z2] at h⊢
  split at h
  ·exact⟨fun e=>hk _ (h.1 e),hk _ h.2⟩
  ·exact hk _ h
  ·exact h.elim
 |gH d x q n zero=>
  intro s K K' hk h
  simp only[Z2] at h⊢
  split at h
  ·obtain⟨es,h1,h2,h4,h3⟩:=h
   refine⟨es,h1,h2,h4,?_⟩
   split at h3
   ·exact hk _ h3
   ·exact hk _ h3
   ·exact h3.elim
  ·exact h.elim
 |nw x st v=>
  intro s K K' hk h
  simp only[Z2] at h⊢
  split at h
  ·obtain⟨es,h1,h2,h3,h4⟩:=h
   exact⟨es,h1,h2,h3,hk _ h4⟩
  ·exact h.elim
 |i_ d x hi mx sz=>
  intro s K K' hk h
  simp only[Z2] at h⊢
  split at h
  ·exact⟨h.1,hk _ h.2⟩
  ·exact h.elim
 |ot d x hi mx sz=>
  intro s K K' hk h
  simp only[Z2] at h⊢
  split at h
  ·exact⟨fun e=>hk _ (h.1 e),fun b off=>hk _ (h.2 b off)⟩
  ·exact h.elim
 |abR d x xs=>
  intro s K K' hk h
  simp only[Z2] at h⊢
  split at h
  ·obtain⟨ys,u,h1,h2,h3,h4⟩:=h
   exact⟨ys,u,h1,h2,h3,hk _ h4⟩
  ·exact h.elim
 |nv d x y sz=>
  intro s K K' hk h
  simp only[Z2] at h⊢
  split at h
  ·split at h
   ·exact⟨h.1,h.2.1,h.2.2.1,h.2.2.2.1,h.2.2.2.2.1,hk _ h.2.2.2.2.2⟩
   ·exact h.elim
  ·exact h.elim
 |ab4 d x hi sz=>
  intro s K K' hk h
  simp only[Z2] at h⊢
  split at h
  ·exact⟨h.1,h.2.1,h.2.2.1,hk _ h.2.2.2⟩
  ·exact h.elim
 |aaY d x y sz bytes zero=>
  intro s K K' hk h
  simp only[Z2] at h⊢
  split at h
  ·refine⟨h.1,h.2.1,h.2.2.1,h.2.2.2.1,h.2.2.2.2.1,?_⟩
   have h6:=h.2.2.2.2.2
   clear h
   split at h6
   ·rename_i hc
    rw[if_pos hc]
    exact fun b r hb=>hk _ (h6 b r hb)
   ·rename_i hc
    rw[if_neg hc]
    split at h6
    ·exact⟨h6.1,fun e=>hk _ (h6.2.1 e),fun e b r hb=>hk _ (h6.2.2 e b r hb)⟩
    ·exact h6.elim
  ·exact⟨h.1,h.2.1,h.2.2.1,h.2.2.2.1,fun b r hb=>hk _ (h.2.2.2.2 b r hb)⟩
  ·exact h.elim
 |j_ d x y sz=>
  intro s K K' hk h
  simp only[Z2] at h⊢
  split at h
  ·split at h
   ·exact⟨h.1,h.2.1,h.2.2.1,hk _ h.2.2.2⟩
   ·exact h.elim
  ·exact h.elim
 |jG x sz aP=>
  intro s K K' hk h
  simp only[Z2] at h⊢
  split at h
  ·split at h
   ·exact⟨h.1,hk _ h.2⟩
   ·exact h.elim
  ·exact h.elim
 |bH q y n=>
  intro s K K' hk h
  simp only[Z2] at h⊢
  split at h
  ·split at h
   ·exact⟨h.1,h.2.1,h.2.2.1,hk _ h.2.2.2⟩
   ·exact h.elim
  ·exact h.elim
 |app d x y sz b=>
  intro s K K' hk h
  simp only[Z2] at h⊢
  split at h
  ·exact⟨h.1,h.2.1,h.2.2.1,h.2.2.2.1,h.2.2.2.2.1,hk _ h.2.2.2.2.2⟩
  ·exact h.elim
 |lY d x pos y=>
  intro s K K' hk h
  simp only[Z2] at h⊢
  split at h
  ·obtain⟨h1,z0,b,sz,len,cap,cs,h2,h3,h4,h5,h6,h7⟩:=h
   exact⟨h1,z0,b,sz,len,cap,cs,h2,h3,h4,h5,hk _ h6,hk _ h7⟩
  ·exact h.elim
 |iD d x xs=>
  intro s K K' hk h
  simp only[Z2] at h⊢
  split at h
  ·exact⟨h.1,h.2.1,hk _ h.2.2.1,hk _ h.2.2.2⟩
  ·exact h.elim
 |ja d x=>
  intro s K K' hk h
  simp only[Z2] at h⊢
  split at h
  ·exact fun b h1 h2=>hk _ (h b h1 h2)
  ·exact h.elim
 |ou d x=>
  intro s K K' hk h
  simp only[Z2] at h⊢
  split at h
  ·obtain⟨es,h1,h2⟩:=h
   exact⟨es,h1,fun r q1 q2=>hk _ (h2 r q1 q2)⟩
  ·exact h.elim
 |ov d x=>
  intro s K K' hk h
  simp only[Z2] at h⊢
  split at h
  ·obtain⟨b,seen,es,h1,h2,h3,h4⟩:=h
   exact⟨b,seen,es,h1,h2,fun i q1 q2=>hk _ (h3 i q1 q2),fun q=>hk _ (h4 q)⟩
  ·exact h.elim
 |mkMap d=>intro s K K' hk h;exact fun b h1 h2=>hk _ (h b h1 h2)
 |jb d x=>
  intro s K K' hk h
  simp only[Z2] at h⊢
  split at h
  ·obtain⟨u,pos,h1,h2,h3⟩:=h
   exact⟨u,pos,h1,fun hp=>hk _ (h2 hp),fun hp=>hk _ (h3 hp)⟩
  ·exact h.elim
 |gG x q v n=>
  intro s K K' hk h
  simp only[Z2] at h⊢
  split at h
  ·obtain⟨es,h1,h2,h3⟩:=h
   refine⟨es,h1,h2,?_⟩
   split at h3
   ·exact hk _ h3
   ·exact hk _ h3
   ·exact h3.elim
  ·exact h.elim
 |lookup d x q n ok zero=>
  intro s K K' hk h
  simp only[Z2] at h⊢
  split at h
  ·obtain⟨es,h1,h2,h3⟩:=h
   refine⟨es,h1,h2,?_⟩
   split at h3
   ·exact hk _ h3
   ·exact hk _ h3
   ·exact h3.elim
  ·refine⟨h.1,?_⟩
   have h3:=h.2
   split at h3
   ·exact hk _ h3
   ·exact hk _ h3
   ·exact h3.elim
  ·exact h.elim
 |bD q=>
  intro s K K' hk h
  simp only[Z2] at h⊢
  split at h
  ·split at h
   ·exact⟨h.1,h.2.1,h.2.2.1,hk _ h.2.2.2⟩
   ·exact h.elim
  ·split at h
   ·rcases h with ⟨sz,off,h1,h2⟩|⟨off,b2,len,cap,sz,aU,h1,h2,h3,h4,h5,h6,h7⟩|⟨off,b2,es,h1,h2,h3⟩|h
    ·exact .inl ⟨sz,off,h1,hk _ h2⟩
    ·exact .inr (.inl ⟨off,b2,len,cap,sz,aU,h1,h2,h3,h4,h5,h6,hk _ h7⟩)
    ·exact .inr (.inr (.inl ⟨off,b2,es,h1,h2,hk _ h3⟩))
    ·exact .inr (.inr (.inr (hk _ h)))
   ·exact h.elim
  ·obtain⟨sz,h⟩:=h
   exact⟨sz,hk _ h⟩
  ·obtain⟨es,h1,h⟩:=h
   exact⟨es,h1,hk _ h⟩
  ·exact h.elim
 |_=>
  intro s K K' hk h
  simp only[Z2] at h⊢
  first
   |exact hk _ h
   |exact⟨h.1,hk _ h.2⟩
   |(split at h<;>first|exact hk _ h|exact⟨h.1,hk _ h.2⟩|exact⟨h.1,h.2.1,hk _ h.2.2⟩|exact⟨h.1,h.2.1,h.2.2.1,hk _ h.2.2.2⟩|exact⟨h.1,h.2.1,h.2.2.1,h.2.2.2.1,hk _ h.2.2.2.2⟩|exact h.elim)
end
section
variable {R:Type} (col:Bool) (call:Nat→FuncId→List AV→Option AV) (coll:Nat→FuncId→List AV→List AV→Option (List (List AV))) (fZ:R→R→R) (fail:R)
def Ay:List au→ES→(ES→R)→R
 |[],e,k=>k e
 |m::ms,e,k=>eu col call fZ fail m e fun e=>Ay ms e k
def n3:T AV→(T AV→R)→R
 |.nil,k=>k .nil
 |.node none a b,k=>n3 a fun a=>n3 b fun b=>k (.node none a b)
 |.node (some x) a b,k=>eK x fun x=>n3 a fun a=>n3 b fun b=>k (.node (some x) a b)
def vT:List Nat→List AV→ES→(ES→R)→R
 |p::ps,x::xs,e,k=>eK x fun x=>c9 e fail p x fun e=>vT ps xs e k
 |_,_,e,k=>k e
def Az(E0:T AV)(ps:List Nat)(ra:ES→(ES→R)→R)(rb:ES→(ES→R)→(Nat→ES→R)→(ES→R)→R)(kn:ES→R)(ke:Nat→ES→R)(kr:ES→R):List (List AV)→ES→R
 |[],e=>kn e
 |y::ys,e=>vT fail ps y e fun e=>ra e fun e=>rb e (fun e=>Az E0 ps ra rb kn ke kr ys ⟨E0,e.loc,e.obj,e.gh,e.nx⟩) (fun i e=>ke i ⟨E0,e.loc,e.obj,e.gh,e.nx⟩) (fun e=>kr ⟨E0,e.loc,e.obj,e.gh,e.nx⟩)
def fF:Nat→aA→ES→(ES→R)→(Nat→ES→R)→(ES→R)→R
 |0,_,_,_,_,_=>fail
 |f+1,c,e,kn,ke,kr=>match c with
  |.skip=>kn e
  |.af ms=>Ay col call fZ fail ms e kn
  |.seq x y=>fF f x e (fun e=>fF f y e kn ke kr) ke kr
  |.cond t x y=>bC e fail t fun v=>match v with
   |.lit (.bool true)=>fF f x e kn ke kr
   |.lit (.bool false)=>fF f y e kn ke kr
   |_=>fail
  |.block id c=>fF f c e kn (fun i e=>bif Nat.beq i id then kn e else ke i e) kr
  |.loop c=>fF f c e (fun e=>fF f (.loop c) e kn ke kr) ke kr
  |.exit i=>ke i e
  |.ret=>kr e
  |.abn _ _ _ _ _=>fail
  |.mE x ps a b=>bC e fail x fun v=>match v with
   |.func (.func g) first cap=>match coll e.nx g first cap with
    |some xs=>bif xs.all (fun y=>Nat.beq y.length ps.length&&bn 0 y&&noMark y) then n3 e.env fun E0=>Az fail E0 ps (fun e k=>fF f a e k (fun _ _=>fail) (fun _=>fail)) (fun e kn ke kr=>fF f b e kn ke kr) kn ke kr xs ⟨E0,e.loc,e.obj,e.gh,e.nx⟩ else fail
    |none=>fail
   |_=>fail
end
section
variable {R:Type} {P:Program} {call:Nat→FuncId→List AV→Option AV} {coll:Nat→FuncId→List AV→List AV→Option (List (List AV))} {fZ:R→R→R} {fail t:R}
def FF(P:Program)(coll:Nat→FuncId→List AV→List AV→Option (List (List AV))):Prop:=∀n f first cap xs,coll n f first cap=some xs→bn n first=true→bn n cap=true→∀ρ,aa4 P f (first.map (an ρ)) (cap.map (an ρ)) xs
def Ext(ρ:Nat→Nat)(e:ES)(ρ':Nat→Nat)(e':ES):Prop:=e.nx≤e'.nx∧∀b,b<e.nx→ρ' b=ρ b
theorem Ext.refl(ρ:Nat→Nat)(e:ES):Ext ρ e ρ e:=⟨Nat.le_refl _,fun _ _=>rfl⟩
theorem Ext.trans{ρ ρ1 ρ2:Nat→Nat}{e e1 e2:ES}(h:Ext ρ e ρ1 e1)(k:Ext ρ1 e1 ρ2 e2):Ext ρ e ρ2 e2:=⟨Nat.le_trans h.1 k.1,fun b hb=>(k.2 b (Nat.lt_of_lt_of_le hb h.1)).trans (h.2 b hb)⟩
def To(ρ:Nat→Nat)(e:ES)(k:ES→R)(t:R)(K:St→Prop):Prop:=∀ρ' e' s',Rel ρ' e' s'→Ext ρ e ρ' e'→k e'=t→K s'
theorem To.from{ρ ρ1:Nat→Nat}{e e1:ES}{k:ES→R}{K:St→Prop}(h:To ρ e k t K)(hx:Ext ρ e ρ1 e1):To ρ1 e1 k t K:=fun ρ' e' s' hr hx' hk=>h ρ' e' s' hr (hx.trans hx') hk
theorem FG(qJ:vS P call)(qK:∀a b,fZ a b=t→a=t∧b=t)(ht:t≠fail):∀(ms:List au) (e:ES) (k:ES→R) (s:St) (ρ:Nat→Nat) (K:St→Prop),Ay false call fZ fail ms e k=t→Rel ρ e s→To ρ e k t K→vcs P ms K s
 |[],e,k,s,ρ,K,h,hr,hK=>hK ρ e s hr (.refl _ _) h
 |m::ms,e,k,s,ρ,K,h,hr,hK=>by
  refine S3 (fun s' hs=> ?_) (S0 qJ qK ht m e _ s ρ h hr)
  obtain⟨ρ',e',g1,g2,g3,g4⟩:=hs
  exact FG qJ qK ht ms e' k s' ρ' K g4 g1 (hK.from ⟨g2,g3⟩)
theorem s9:∀(u:T AV) (k:T AV→R),n3 u k=k (u.map AV.erase)
 |.nil,_=>rfl
 |.node none a b,k=>by simp only[n3,s9 a,s9 b];rfl
 |.node (some x) a b,k=>by simp only[n3,aaH,s9 a,s9 b];rfl
theorem FH(ht:t≠fail):∀(ps:List Nat) (xs:List AV) (e:ES) (k:ES→R) (s:St) (ρ:Nat→Nat),vT fail ps xs e k=t→Rel ρ e s→bn 0 xs=true→∃e',Rel ρ e' (params s ps xs)∧e'.nx=e.nx∧k e'=t
 |[],xs,e,k,s,ρ,h,hr,_=>⟨e,by cases xs<;>exact hr,rfl,h⟩
 |p::ps,[],e,k,s,ρ,h,hr,_=>⟨e,hr,rfl,h⟩
 |p::ps,x::xs,e,k,s,ρ,h,hr,hb=>by
  simp only[bn,Bool.and_eq_true] at hb
  simp only[vT,aaH] at h
  obtain⟨e1,a1,a2,a3⟩:=iL h ht hr (jo (Nat.zero_le _) _ (gR hb.1))
  rw[gQ (gR hb.1)] at a1
  obtain⟨e2,b1,b2,b3⟩:=FH ht ps xs e1 k _ ρ a3 a1 hb.2
  exact⟨e2,b1,b2.trans a2,b3⟩
theorem vU{ρ0 ρ:Nat→Nat}{e0 e:ES}{s0 s:St}(h0:Rel ρ0 e0 s0)(h:Rel ρ e s)(hx:Ext ρ0 e0 ρ e):Rel ρ ⟨e0.env.map AV.erase,e.loc,e.obj,e.gh,e.nx⟩ (back s0 s):=by
 have hat:∀q,ES.at ⟨e0.env.map AV.erase,e.loc,e.obj,e.gh,e.nx⟩ q=(e0.at q).erase:=by
  intro q
  simp only[ES.at,T.get_map]
  cases e0.env.get q<;>rfl
 refine⟨fun q hq=> ?_,fun q=> ?_,?_,h.gb,h.loc,h.kI,fun b x hb=> ?_,h.lG,h.og,h.gg⟩
 ·rw[hat]
  show(if gS≤q then s.env q else (s0.env q).erase)=_
  rw[if_neg (by omega),h0.env q hq,gP]
  exact(abX hx.2 _ (gR (h0.jn q))).symm
 ·rw[hat];exact jo hx.1 _ (gR (h0.jn q))
 ·rw[aa5 _ _ (Nat.le_refl _)];exact h.gh
 ·obtain⟨o1,o2,o3⟩:=h.obj b x hb
  exact⟨o1,by rw[jj];exact o2,o3⟩
theorem FI(qJ:vS P call)(S4:FF P coll)(qK:∀a b,fZ a b=t→a=t∧b=t)(ht:t≠fail):∀(f:Nat) (c:aA) (e:ES) (kn:ES→R) (ke:Nat→ES→R) (kr:ES→R) (s:St) (ρ:Nat→Nat) (Kn:St→Prop) (Ke:Nat→St→Prop) (Kr:St→Prop),fF false call coll fZ fail f c e kn ke kr=t→Rel ρ e s→To ρ e kn t Kn→(∀i,To ρ e (ke i) t (Ke i))→To ρ e kr t Kr→br P c Kn Ke Kr s:=by
 intro f
 induction f using Nat.strongRecOn with
 |_ f0 FJ=>
 cases f0 with
 |zero=>intro c e kn ke kr s ρ Kn Ke Kr h;exact absurd h.symm ht
 |succ f=>
  have ih:=FJ f (Nat.lt_succ_self f)
  intro c e kn ke kr s ρ Kn Ke Kr h hr hn he hq
  cases c with
  |skip=>exact hn ρ e s hr (.refl _ _) h
  |af ms=>exact FG qJ qK ht ms e kn s ρ Kn h hr hn
  |seq x y=>exact ih x e _ ke kr s ρ _ Ke Kr h hr (fun ρ' e' s' hr' hx' hk'=>ih y e' kn ke kr s' ρ' Kn Ke Kr hk' hr' (hn.from hx') (fun i=>(he i).from hx') (hq.from hx')) he hq
  |cond u x y=>
   dsimp only[fF] at h
   obtain⟨v,h1,h2,h3⟩:=bB h ht hr
   simp only[br,h1]
   split at h3
   ·simp only[an];exact⟨fun _=>ih x e kn ke kr s ρ Kn Ke Kr h3 hr hn he hq,fun e=>by cases e⟩
   ·simp only[an];exact⟨fun e0=>(by cases e0),fun _=>ih y e kn ke kr s ρ Kn Ke Kr h3 hr hn he hq⟩
   ·exact absurd h3.symm ht
  |block id c=>
   refine ih c e kn _ kr s ρ Kn _ Kr h hr hn (fun i ρ' e' s' hr' hx' hk'=> ?_) hq
   cases hb:Nat.beq i id with
   |true=>
    rw[hb] at hk'
    rw[if_pos (Nat.eq_of_beq_eq_true hb)]
    exact hn ρ' e' s' hr' hx' hk'
   |false=>
    rw[hb] at hk'
    rw[if_neg (fun e0=>by rw[e0] at hb;simp at hb)]
    exact he i ρ' e' s' hr' hx' hk'
  |loop c=>
   refine⟨fun g s'=>∃ρ' e',Rel ρ' e' s'∧Ext ρ e ρ' e'∧g≤f+1∧fF false call coll fZ fail g (.loop c) e' kn ke kr=t,⟨f+1,s,.refl s,ρ,e,hr,.refl _ _,Nat.le_refl _,h⟩,?_⟩
   rintro g s' ⟨ρ',e',hr',hx',hg,hk'⟩
   cases g with
   |zero=>exact absurd hk'.symm ht
   |succ g=>
    exact FJ g (by omega) c e' _ ke kr s' ρ' _ Ke Kr hk' hr' (fun ρ2 e2 s2 cE ef hk2=>⟨g,s2,Nat.lt_succ_self _,.refl s2,ρ2,e2,cE,hx'.trans ef,by omega,hk2⟩) (fun i=>(he i).from hx') (hq.from hx')
  |exit i=>exact he i ρ e s hr (.refl _ _) h
  |ret=>exact hq ρ e s hr (.refl _ _) h
  |abn x pos ps a b=>exact absurd (show fail=t from h).symm ht
  |mE x ps a b=>
   dsimp only[fF] at h
   obtain⟨v,h1,h2,h3⟩:=bB h ht hr
   split at h3
   ·rename_i g first cap
    split at h3
    ·rename_i xs hxs
     obtain⟨c1,c2⟩:=cx h3 ht
     rw[s9] at c2
     simp only[below,Bool.and_eq_true] at h2
     have hseq:=S4 _ _ _ _ _ hxs h2.1.2 h2.2 ρ
     simp only[br,h1,an,abo,cL]
     have FK:∀y∈xs,(y.length=ps.length∧bn 0 y=true)∧noMark y=true:=fun y hy=>by
      have:=(List.all_eq_true.1 c1) y hy
      simp only[Bool.and_eq_true] at this
      exact⟨⟨Nat.eq_of_beq_eq_true this.1.1,this.1.2⟩,this.2⟩
     have hlen:=fun y hy=>(FK y hy).1
     refine⟨xs,hseq,fun y hy=>⟨(hlen y hy).1,(FK y hy).2⟩,fun k st=>∃ρ' e',Rel ρ' e' st∧Ext ρ e ρ' e'∧e'.env=e.env.map AV.erase∧Az fail (e.env.map AV.erase) ps (fun e k=>fF false call coll fZ fail f a e k (fun _ _=>fail) (fun _=>fail)) (fun e kn ke kr=>fF false call coll fZ fail f b e kn ke kr) kn ke kr (xs.drop k) e'=t,?_,?_,?_⟩
     ·exact⟨ρ,⟨e.env.map AV.erase,e.loc,e.obj,e.gh,e.nx⟩,vU hr hr (.refl _ _),⟨Nat.le_refl _,fun _ _=>rfl⟩,rfl,c2⟩
     ·rintro k st hk hst ⟨ρ',e',hr',hx',eC,hk'⟩
      rw[List.drop_eq_getElem_cons hk] at hk'
      have hy:xs.getD k []=xs[k]:=by rw[List.getD_eq_getElem?_getD,List.getElem?_eq_getElem hk];rfl
      rw[hy]
      obtain⟨e1,a1,a2,a3⟩:=FH ht ps xs[k] e' _ st ρ' hk' hr' (hlen _ (List.getElem_mem hk)).2
      have hx1:Ext ρ e ρ' e1:=⟨by rw[a2];exact hx'.1,hx'.2⟩
      refine ih a e1 _ _ _ _ ρ' _ _ _ a3 a1 (fun ρ2 e2 s2 cE ef hk2=> ?_) (fun i ρ2 e2 s2 cE ef hk2=>absurd hk2.symm ht) (fun ρ2 e2 s2 cE ef hk2=>absurd hk2.symm ht)
      have AA:=hx1.trans ef
      refine ih b e2 _ _ _ s2 ρ2 _ _ _ hk2 cE (fun ρ3 e3 s3 mH s_ hk3=> ?_) (fun i ρ3 e3 s3 mH s_ hk3=> ?_) (fun ρ3 e3 s3 mH s_ hk3=> ?_)
      ·have kK:=AA.trans s_
       exact⟨ρ3,_,vU hr mH kK,⟨kK.1,kK.2⟩,rfl,hk3⟩
      ·have kK:=AA.trans s_
       exact he i ρ3 _ _ (vU hr mH kK) ⟨kK.1,kK.2⟩ hk3
      ·have kK:=AA.trans s_
       exact hq ρ3 _ _ (vU hr mH kK) ⟨kK.1,kK.2⟩ hk3
     ·rintro st hst ⟨ρ',e',hr',hx',eC,hk'⟩
      rw[List.drop_length] at hk'
      exact hn ρ' e' st hr' hx' hk'
    ·exact absurd h3.symm ht
   ·exact absurd h3.symm ht
end
end Go.Z4
namespace Go.Z4
abbrev Row:=Nat×Nat×aA×List aF
def qM(P:Program)(x:Row):Prop:=∃fn aD,P.funcs[x.1]? =some fn∧fn.body.bind (de P aD fn.ntmps)=some x.2.2.1∧e_ P fn.results.toList=some x.2.2.2∧aaP P x.1=true∧fn.ntmps=x.2.1∧fn.ntmps≤1000000
inductive kL (P:Program):List Row→Prop
 |nil:kL P []
 |cons {x:Row} {l:List Row} (h:qM P x) (t:kL P l):kL P (x::l)
theorem qM.mk{P:Program}{f N:Nat}{m:aA}{rs:List aF}{fn:Func}{aD:cn}(h1:P.funcs[f]? =some fn)(h2:fn.body.bind (de P aD fn.ntmps)=some m)(h3:e_ P fn.results.toList=some rs)(h4:aaP P f=true)(h5:fn.ntmps=N)(h6:Nat.ble N 1000000=true):qM P (f,N,m,rs):=⟨fn,aD,h1,h2,h3,h4,h5,by rw[h5];simpa using h6⟩
def ta:List Row→Nat→Option Row
 |[],_=>none
 |x::l,f=>bif Nat.beq x.1 f then some x else ta l f
theorem FL{P:Program}{l:List Row}(h:kL P l){f:Nat}{x:Row}(hx:ta l f=some x):qM P x∧x.1=f:=by
 induction h with
 |nil=>cases hx
 |cons h t ih=>
  simp only[ta] at hx
  cases hb:Nat.beq _ f with
  |true=>rw[hb] at hx;injection hx with hx;subst hx;exact⟨h,Nat.eq_of_beq_eq_true hb⟩
  |false=>rw[hb] at hx;exact ih hx
section
variable {R:Type}
def initK:Nat→List AV→T AV→(T AV→R)→R
 |_,[],env,k=>k env
 |i,x::xs,env,k=>eK x fun x=>jq 24 env i (some x) fun env=>fN (i+1) fun i=>initK i xs env k
theorem AB{t:R}:∀(xs:List AV) (i:Nat) (env:T AV) (k:T AV→R),initK i xs env k=t→i+xs.length+1<2^24→∃env',k env'=t∧∀q,env'.get q=if i≤q∧q<i+xs.length then some (xs.getD (q - i) .any).erase else env.get q
 |[],i,env,k,h,_=>⟨env,h,fun q=>by rw[if_neg (by simp)]⟩
 |x::xs,i,env,k,h,hl=>by
  simp only[List.length_cons] at hl
  simp only[initK,aaH,nV,nU] at h
  obtain⟨env',h1,h2⟩:=AB xs (i+1) _ k h (by omega)
  refine⟨env',h1,fun q=> ?_⟩
  rw[h2,T.ia 24 _ _ _ _ (by omega)]
  simp only[List.length_cons]
  by_cases h3:q=i
  ·subst h3
   rw[if_neg (by omega),if_pos rfl,if_pos (by omega)]
   simp
  ·by_cases h4:i+1≤q∧q<i+1+xs.length
   ·rw[if_pos h4,if_pos (by omega)]
    have:q - i=(q - (i+1))+1:=by omega
    rw[this];simp
   ·rw[if_neg h4,if_neg h3,if_neg (by omega)]
end
theorem FM{ρ:Nat→Nat}{n:Nat}{xs:List AV}{env:T AV}(hb:bn n xs=true)(hl:xs.length≤gS)(eC:∀q,env.get q=if 0≤q∧q<0+xs.length then some (xs.getD (q - 0) .any).erase else T.nil.get q):Rel ρ ⟨env,.nil,.nil,.any,n⟩ ⟨cO (xs.map (an ρ)),fun _=>none⟩:=by
 have hat:∀q,ES.at ⟨env,.nil,.nil,.any,n⟩ q=(xs.getD q .any).erase:=by
  intro q
  simp only[ES.at,eC,Nat.zero_le,true_and,Nat.zero_add,Nat.sub_zero]
  split
  ·rfl
  ·rename_i h
   rw[T.get_nil,List.getD_eq_getElem?_getD,List.getElem?_eq_none (by omega)];rfl
 refine⟨fun q hq=> ?_,fun q=> ?_,?_,rfl,fun b cs h=> ?_,fun b b' h=> ?_,fun b x h=> ?_,fun b b' h=> ?_,fun b x h=> ?_,rfl⟩
 ·rw[hat];show((xs.map (an ρ)).getD q .any).erase=_;rw[sZ,gP]
 ·rw[hat];exact gR (ab1 q hb)
 ·exact zw (by simpa using hl) _ (Nat.le_refl _)
 ·simp only[T.get_nil] at h;cases h
 ·simp only[T.get_nil] at h;exact absurd rfl h
 ·simp only[T.get_nil] at h;cases h
 ·simp only[T.get_nil] at h;exact absurd rfl h
 ·simp only[T.get_nil] at h;cases h
def pz(e:ES):List aF→(List AV→Option AV)→Option AV
 |[],k=>k []
 |.tmp q::rs,k=>bC e none (.t q) fun x=>eK x fun x=>pz e rs fun xs=>k (x::xs)
 |.cell q n::rs,k=>bC e none (.t q) fun x=>match x with
  |.ref cs=>nY none cs 0 n fun v=>eK v fun v=>pz e rs fun xs=>k (v::xs)
  |.aj b off=>match e.loc.get b with
   |some cs=>nY none cs off n fun v=>eK v fun v=>pz e rs fun xs=>k (v::xs)
   |none=>none
  |_=>none
def AD(xs:List AV):Option AV:=some (fD xs)
theorem S5(ρ:Nat→Nat)(xs:List AV):an ρ (fD xs)=fD (xs.map (an ρ)):=by
 match xs with
 |[]=>simp only[fD,List.map_nil,an,eD]
 |[x]=>rfl
 |x::y::xs=>simp only[fD,an,cL,List.map_cons]
theorem vV{e:ES}{ρ:Nat→Nat}{s:St}{r:AV}(hr:Rel ρ e s):∀(rs:List aF) (k:List AV→Option AV) (K:List AV→Prop),pz e rs k=some r→(∀xs,k xs=some r→K (xs.map (an ρ)))→fc s rs K
 |[],k,K,h,hk=>hk [] h
 |.tmp q::rs,k,K,h,hk=>by
  obtain⟨x,h1,h2,h3⟩:=bB h (by simp) hr
  rw[aaH] at h3
  replace h1:s.env q=an ρ x:=h1
  simp only[fc,h1,gP]
  exact vV hr rs _ _ h3 fun xs hx=>hk _ hx
 |.cell q n::rs,k,K,h,hk=>by
  obtain⟨x,h1,h2,h3⟩:=bB h (by simp) hr
  replace h1:s.env q=an ρ x:=h1
  simp only[fc,h1]
  split at h3
  ·simp only[below] at h2
   obtain⟨v,g1,g2,g3⟩:=pg h3 (by simp) h2
   rw[aaH] at g2
   simp only[an,cN,cL]
   refine g3 _ ?_
   have:((an ρ v).erase).erase=an ρ v.erase:=by rw[sU,gP]
   rw[this]
   exact vV hr rs _ _ g2 fun xs hx=>hk _ hx
  ·split at h3
   ·rename_i b off _ cs hcs
    obtain⟨l1,l2,l3⟩:=hr.loc b cs hcs
    obtain⟨v,g1,g2,g3⟩:=pg h3 (by simp) l3
    rw[aaH] at g2
    simp only[an,cN,l2]
    refine g3 _ ?_
    rw[gP]
    exact vV hr rs _ _ g2 fun xs hx=>hk _ hx
   ·cases h3
  ·cases h3
def FN(e:ES):Option (List (List AV)):=match e.gh with
 |.ghost _ acc _=>some acc
 |_=>none
def abL(n:Nat)(e:ES):Bool:=match e.gh with
 |.ghost l rest b=>Nat.beq l n&&(b||rest.isEmpty)
 |_=>false
def ab3:Nat:=1000000
end Go.Z4
namespace Go.Z4
abbrev aX:=Nat×List AV×AV
inductive iN (P:Program):List aX→Prop
 |nil:iN P []
 |cons {f:FuncId} {xs:List AV} {r:AV} {l:List aX} (h:aG P f xs r) (hx:bn 0 xs=true) (hr:below 0 r=true) (t:iN P l):iN P ((f,xs,r)::l)
def tc:List aX→Nat→List AV→Option AV
 |[],_,_=>none
 |(f',xs',r)::l,f,xs=>bif Nat.beq f' f&&jV xs.reverse xs'.reverse then some r else tc l f xs
theorem FO{P:Program}{l:List aX}(h:iN P l){f:Nat}{xs:List AV}{r:AV}(hx:tc l f xs=some r):aG P f xs r∧bn 0 xs=true∧below 0 r=true:=by
 induction h with
 |nil=>cases hx
 | @cons f' xs' r' l h hx' hr t ih=>
   simp only[tc] at hx
   cases hb:Nat.beq f' f&&jV xs.reverse xs'.reverse with
   |true=>
    rw[hb] at hx;injection hx with hx;subst hx
    simp only[Bool.and_eq_true] at hb
    have e1:=Nat.eq_of_beq_eq_true hb.1
    have e2:xs=xs':=by have:=congrArg List.reverse (pq _ _ hb.2);simpa using this
    subst e1 e2
    exact⟨h,hx',hr⟩
   |false=>rw[hb] at hx;exact ih hx
def evM(tab:List Row)(mem:List aX):Nat→(Nat→FuncId→List AV→Option AV)×(Nat→FuncId→List AV→List AV→Option (List (List AV)))
 |0=>(fun _ _ _=>none,fun _ _ _ _=>none)
 |g+1=>
  (fun n f xs=>match tc mem f xs with
    |some r=>some r
    |none=>match ta tab f with
     |some (_,N,m,rs)=>bif Nat.ble xs.length N then initK 0 xs .nil fun env=>fF false (evM tab mem g).1 (evM tab mem g).2 (fun _ _=>none) none ab3 m ⟨env,.nil,.nil,.any,n⟩ (fun e=>pz e rs AD) (fun _ _=>none) (fun e=>pz e rs AD) else none
     |none=>none,
   fun n f first cap=>match ta tab f with
    |some (_,N,m,[])=>bif Nat.ble (first.length+1+cap.length) N then initK 0 (first++[AV.func (.yield n) [] []]++cap) .nil fun env=>
      match fF true (evM tab mem g).1 (evM tab mem g).2 (fun _ _=>none) none ab3 m ⟨env,.nil,.nil,.ghost n [] true,n+1⟩ FN (fun _ _=>none) FN with
      |some xs=>bif fF false (evM tab mem g).1 (evM tab mem g).2 (fun a b=>a&&b) false ab3 m ⟨env,.nil,.nil,.ghost n xs false,n+1⟩ (abL n) (fun _ _=>false) (abL n) then some xs else none
      |none=>none else none
    |_=>none)
theorem FP{P:Program}{tab:List Row}(hT:kL P tab){mem:List aX}(hM:iN P mem):∀g,vS P (evM tab mem g).1∧FF P (evM tab mem g).2
 |0=>⟨fun n f xs r h=>(by cases h),fun n f first cap xs h=>(by cases h)⟩
 |g+1=>by
  obtain⟨ur,ihl⟩:=FP hT hM g
  constructor
  ·intro n f xs r h hb S6 ρ
   dsimp only[evM] at h
   split at h
   ·rename_i r' hk
    injection h with h;subst h
    obtain⟨k1,k2,k3⟩:=FO hM hk
    have e1:xs.map (an ρ)=xs:=by
     have:=List.map_congr_left (f:=an ρ) (g:=id) (l:=xs) fun x hx'=>gQ (ff.1 k2 x hx')
     rw[this,List.map_id]
    rw[e1,gQ k3]
    exact k1
   split at h
   ·rename_i f' N m rs hf
    obtain⟨⟨fn,aD,r1,r2,r3,r4,r5,r6⟩,rfl⟩:=FL hT hf
    dsimp only at r1 r2 r3 r4 r5
    cases hl:Nat.ble xs.length N with
    |false=>rw[hl] at h;cases h
    |true=>
     rw[hl,cond_true] at h
     have hlen:xs.length≤fn.ntmps:=by rw[r5];simpa using hl
     obtain⟨env,h1,h2⟩:=AB xs 0 .nil _ h (by omega)
     have hgl:xs.length≤gS:=by simp only[gS];omega
     have mN:=FM (ρ:=ρ) hb hgl h2
     have hres:∀ρ' e' s',Rel ρ' e' s'→Ext ρ ⟨env,.nil,.nil,.any,n⟩ ρ' e'→pz e' rs AD=some r→fc s' rs fun ys=>an ρ r=fD ys:=by
      intro ρ' e' s' hr' hx' hk'
      refine vV hr' rs _ _ hk' fun xs hxs=> ?_
      injection hxs with hxs
      rw[←S5,hxs]
      exact(abX hx'.2 _ S6).symm
     exact EE r1 r2 r3 r4 ⟨by simpa using hlen,r6⟩ fun _=>FI (fail:=none) (t:=some r) ur ihl (fun a b hab=>by cases hab) (by simp) ab3 m _ _ _ _ _ ρ _ _ _ h1 mN hres (fun i ρ' e' s' hr' hx' hk'=>by cases hk') hres
   ·cases h
  ·intro n f first cap xs h dc cF ρ
   dsimp only[evM] at h
   split at h
   ·rename_i f' N m hf
    obtain⟨⟨fn,aD,r1,r2,r3,r4,r5,r6⟩,rfl⟩:=FL hT hf
    dsimp only at r1 r2 r3 r4 r5
    cases hl:Nat.ble (first.length+1+cap.length) N with
    |false=>rw[hl] at h;cases h
    |true=>
     rw[hl,cond_true] at h
     have hlen:first.length+1+cap.length≤fn.ntmps:=by rw[r5];simpa using hl
     have Zt:(first++[AV.func (.yield n) [] []]++cap).length=first.length+1+cap.length:=by simp only[List.length_append,List.length_singleton]
     obtain⟨env,h1,h2⟩:=AB (first++[AV.func (.yield n) [] []]++cap) 0 .nil _ h (by omega)
     split at h1
     ·rename_i xs' _
      have hdone:fF false (evM tab mem g).1 (evM tab mem g).2 (fun a b=>a&&b) false ab3 m ⟨env,.nil,.nil,.ghost n xs' false,n+1⟩ (abL n) (fun _ _=>false) (abL n)=true∧xs'=xs:=by
       cases hq:fF false (evM tab mem g).1 (evM tab mem g).2 (fun a b=>a&&b) false ab3 m ⟨env,.nil,.nil,.ghost n xs' false,n+1⟩ (abL n) (fun _ _=>false) (abL n) with
       |false=>rw[hq] at h1;cases h1
       |true=>rw[hq] at h1;injection h1 with h1;exact⟨rfl,h1⟩
      obtain⟨hq,rfl⟩:=hdone
      refine EF r1 r2 r3 r4 ⟨by simpa using hlen,r6⟩ fun l _=> ?_
      have S7:bn (n+1) (first++[AV.func (.yield n) [] []]++cap)=true:=acv (acv (iK (Nat.le_succ _) _ dc) (by simp[bn,below,qE,Nat.blt])) (iK (Nat.le_succ _) _ cF)
      have hgl:(first++[AV.func (.yield n) [] []]++cap).length≤gS:=by simp only[gS];omega
      have mN:=FM (ρ:=ak ρ n l) S7 hgl h2
      have hmap:∀zs:List AV,bn n zs=true→zs.map (an (ak ρ n l))=zs.map (an ρ):=fun zs hz=>List.map_congr_left fun x hx=>abX qH x (ff.1 hz x hx)
      have hargs:(first++[AV.func (.yield n) [] []]++cap).map (an (ak ρ n l))=first.map (an ρ)++[AV.func (.yield l) [] []]++cap.map (an ρ):=by simp only[List.map_append,hmap _ dc,hmap _ cF,List.map_cons,List.map_nil,an,abo,eD,cI]
      rw[hargs] at mN
      have S8:Rel (ak ρ n l) ⟨env,.nil,.nil,.ghost n xs' false,n+1⟩ ((St.mk (cO (first.map (an ρ)++[AV.func (.yield l) [] []]++cap.map (an ρ))) fun _=>none).set gS (.ghost l xs' false)):=⟨fun q hq=>(Z5 _ _ (by omega)).trans (mN.env q hq),mN.jn,by rw[abb];simp only[an,cI],by simp[below,Nat.blt],mN.loc,mN.kI,fun b x hb=>(by simp only[T.get_nil] at hb;cases hb),mN.lG,mN.og,rfl⟩
      have hpost:∀ρ' e' s',Rel ρ' e' s'→Ext (ak ρ n l) ⟨env,.nil,.nil,.ghost n xs' false,n+1⟩ ρ' e'→abL n e'=true→∃rest b,s'.env gS=.ghost l rest b∧(b=true∨rest=[]):=by
       intro ρ' e' s' hr' hx' hd
       unfold abL at hd
       split at hd
       ·rename_i l0 rest b hg
        simp only[Bool.and_eq_true,Bool.or_eq_true,List.isEmpty_iff] at hd
        have e0:=Nat.eq_of_beq_eq_true hd.1
        subst e0
        refine⟨rest,b,?_,hd.2⟩
        rw[hr'.gh,hg]
        simp only[an]
        rw[hx'.2 l0 (Nat.lt_succ_self _),cI]
       ·cases hd
      exact FI (fail:=false) (t:=true) ur ihl (fun a b hab=>by simpa using hab) (by simp) ab3 m _ _ _ _ _ (ak ρ n l) _ _ _ hq S8 hpost (fun i ρ' e' s' hr' hx' hk'=>by cases hk') hpost
     ·cases h1
   ·cases h
theorem S9{P:Program}{tab:List Row}(hT:kL P tab){mem:List aX}(hM:iN P mem){f:FuncId}{xs:List AV}{r:AV}(g:Nat)(h:(evM tab mem g).1 0 f xs=some r)(hx:bn 0 xs=true)(hr:below 0 r=true):aG P f xs r:=by
 have:=(FP hT hM g).1 0 f xs r h hx hr id
 have e1:xs.map (an id)=xs:=by
  have:=List.map_congr_left (f:=an id) (g:=id) (l:=xs) fun x hx'=>gQ (ff.1 hx x hx')
  rw[this,List.map_id]
 rwa [e1,gQ hr] at this
end Go.Z4
namespace Go.Z4
theorem bI{P:Program}{k N:Nat}{a:cn}{m:aA}{rs:List aF}(h:aI P k a=some (some m,some rs,true,N))(h6:Nat.ble N 1000000=true:=by rfl):qM P (k,N,m,rs):=by
 obtain⟨fn,h1,h2,h3,h4,h5⟩:=aI.of h
 exact qM.mk h1 h2 h3 h4 h5 h6
def qN(tab:List Row)(mem:List aX)(f:Nat)(xs:List AV)(r:AV):Bool:=
 (match (evM tab mem 60).1 0 f xs with
   |some r'=>iM r' r
   |none=>false)&&(bn 0 xs&&below 0 r)
theorem vW{P:Program}{tab:List Row}(hT:kL P tab){mem:List aX}(hM:iN P mem){f:FuncId}{xs:List AV}{r:AV}(h:qN tab mem f xs r=true):aG P f xs r∧bn 0 xs=true∧below 0 r=true:=by
 unfold qN at h
 simp only[Bool.and_eq_true] at h
 obtain⟨h1,h2,h3⟩:=h
 split at h1
 ·rename_i r' hr
  have e:=Fb _ _ h1
  subst e
  exact⟨S9 hT hM 60 hr h2 h3,h2,h3⟩
 ·cases h1
theorem iN.add{P:Program}{tab:List Row}(hT:kL P tab){mem:List aX}(hM:iN P mem){f:FuncId}{xs:List AV}{r:AV}(h:qN tab mem f xs r=true):iN P ((f,xs,r)::mem):=by
 obtain⟨h1,h2,h3⟩:=vW hT hM h
 exact .cons h1 h2 h3 hM
theorem S_{P:Program}{tab:List Row}(hT:kL P tab){α:Type}{l:List α}{f:Nat}{xs:α→List AV}{r:α→AV}(h:l.all (fun w=>qN tab [] f (xs w) (r w))=true):∀w∈l,aG P f (xs w) (r w):=fun w hw=>(vW hT .nil (List.all_eq_true.1 h w hw)).1
theorem iN.get{P:Program}{l:List aX}(h:iN P l){f:Nat}{xs:List AV}{r:AV}(hx:tc l f xs=some r):aG P f xs r:=(FO h hx).1
end Go.Z4
