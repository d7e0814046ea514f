/- What a law's arguments of layer 2 say: presses, gatherings, ways of making, and lists of numbers. All ways of making come to a few cases; what holds in each of them. The leaves of a gathering: the reference's walk. The leaves of a gathering: the program's and the reference's are the same; Leaves. Lists that are compared: Same and Ints of the reference. The leaves of a gathering are at places of their own, and not too many. The leaves of one sheet: Mates, of the program and of the reference. Where the watermark is: mark, Has and Marked, of the program and of the reference. Marked, of the program and of the reference. The pages of a forme: the reference's search, the program's map. The pages of a forme: the program's walk. The law FoldLeaves returns true. All ways of making, in order: the reference's walk. Helpers of the outright laws: valid, Made, turn, halves, Has. -/
import Derived.Test.YtnncgmimhdplfaaGreatZC
import Derived.Test.YtnncgmimhdplfaaGreatZF
import Derived.Test.YtnncgmimhdplfaaGreatZH
import Derived.Test.YtnncgmimhdplfaaGreatZI
import Derived.Test.YtnncgmimhdplfaaGreatZJ
import Derived.Test.YtnncgmimhdplfaaGreatZE
namespace Go.Proofs.YtnncgmimhdplfaaGreat.F
open Go.aq
abbrev D_(n:Int):Prop:=IntKind.min .i64≤n∧n≤IntKind.max .i64
theorem ku{pl:Bool}:Rd Tryz.prog pl 3 I D_:=by
 cases pl
 ·exact(Rd.int Tryz.underlying3).loose
 ·exact Rd.int Tryz.underlying3
theorem vG{pl:Bool}:Rd Tryz.prog pl 9 S (fun s=>s.size≤140737488355328):=by
 cases pl
 ·exact(Rd.string Tryz.underlying9).loose
 ·exact Rd.string Tryz.underlying9
theorem Zp:Rd Tryz.prog true 77 Fmt.av (fun _=>True):=(Rd.struct (tot:=2) Tryz.underlying77 rfl (by kernel_rfl) (bZ.cons rfl (by kernel_rfl) vG (bZ.cons rfl (by kernel_rfl) vG bZ.nil))).map (fun x=>⟨x.1,x.2.1⟩) (fun _=>rfl) (fun _ _=>trivial)
theorem MC{pl:Bool}:Rd Tryz.prog pl 56 Spn.av (fun _=>True):=(Rd.struct (tot:=2) Tryz.underlying56 rfl (by kernel_rfl) (bZ.cons rfl (by kernel_rfl) ku (bZ.cons rfl (by kernel_rfl) ku bZ.nil))).map (fun x=>⟨x.1,x.2.1⟩) (fun _=>rfl) (fun _ _=>trivial)
theorem Zq:Rd Tryz.prog true 80 Ppr.av (fun _=>True):=(Rd.struct (tot:=5) Tryz.underlying80 rfl (by kernel_rfl) (bZ.cons rfl (by kernel_rfl) vG (bZ.cons rfl (by kernel_rfl) MC (bZ.cons rfl (by kernel_rfl) MC bZ.nil)))).map (fun x=>⟨x.1,x.2.1,x.2.2.1⟩) (fun _=>rfl) (fun _ _=>trivial)
theorem Zr:Rd Tryz.prog false 25 aL.av (fun _=>True):=
 (Rd.struct (tot:=4) Tryz.underlying25 rfl (by kernel_rfl) (bZ.cons rfl (by kernel_rfl) (Rd.slice Tryz.underlying22 (of_decide_eq_true (by kernel_rfl)) (by kernel_rfl) Zp)
   (bZ.cons rfl (by kernel_rfl) (Rd.slice Tryz.underlying23 (of_decide_eq_true (by kernel_rfl)) (by kernel_rfl) Zq)
   (bZ.cons rfl (by kernel_rfl) ku (bZ.cons rfl (by kernel_rfl) ku bZ.nil))))).map (fun x=>⟨x.1,x.2.1,x.2.2.1,x.2.2.2.1⟩) (fun _=>rfl) (fun _ _=>trivial)
end Go.Proofs.YtnncgmimhdplfaaGreat.F
namespace Go.Proofs.YtnncgmimhdplfaaGreat.F
open Go.aq
theorem MD:∀(n:Nat) (w:List Nat),w∈words n→w.length=n
 |0,w,h=>by simp[words] at h;simp[h]
 |n+1,w,h=>by
  simp only[words,List.mem_append,List.mem_map] at h
  rcases h with ⟨v,hv,rfl⟩|⟨v,hv,rfl⟩<;>simp[MD n v hv]
theorem ME{w:List Nat}(h:w∈jL):w∈words w.length∧1≤w.length∧w.length≤4:=by
 simp only[jL,List.mem_append] at h
 rcases h with ((h|h)|h)|h<;>(have e:=MD _ _ h;rw[e];exact⟨h,by omega,by omega⟩)
theorem Zs{w:List Nat}{half:Bool}(h:w∈jL)(hh:half=true→2≤w.length):(w,half)∈mz:=by
 unfold mz
 rw[List.mem_append]
 cases half with
 |false=>exact .inl (List.mem_map.2 ⟨w,h,rfl⟩)
 |true=>
  right
  refine List.mem_map.2 ⟨w,?_,rfl⟩
  obtain⟨h1,h2,h3⟩:=ME h
  have hl:=hh rfl
  simp only[List.mem_append]
  have:w.length=2∨w.length=3∨w.length=4:=by omega
  rcases this with e|e|e<;>rw[e] at h1<;>simp[h1]
def su:List (List Nat×Bool×Nat):=mz.flatMap fun x=>if x.2 then [(x.1,x.2,1)] else [(x.1,x.2,1),(x.1,x.2,2),(x.1,x.2,3),(x.1,x.2,4)]
def vH(p:aL)(m:Mk):List Nat×Bool×Nat:=(codes (aY p m),m.half,m.aW.toNat)
def yU(x:List Nat×Bool×Nat):List Lf:=iM (aff x.1 x.2.1) (x.2.2*(aff x.1 x.2.1).length) x.2.2
theorem yV(s:ByteArray):(codes s).length=s.size:=by simp[codes]
theorem qw{p:aL}{m:Mk}(hp:eM p)(hm:eu p m):(codes (aY p m),m.half)∈mz:=Zs (afq hp hm) fun h=>by rw[yV];exact(hm.half h).2
theorem Zt{p:aL}{m:Mk}(hp:eM p)(hm:eu p m):vH p m∈su:=by
 unfold su vH
 rw[List.mem_flatMap]
 refine⟨_,qw hp hm,?_⟩
 have h1:=hm.aW
 have h2:=hp.aW
 cases hh:m.half with
 |true=>
  have:=(hm.half hh).1
  simp[this]
 |false=>
  have:m.aW=1∨m.aW=2∨m.aW=3∨m.aW=4:=by omega
  rcases this with e|e|e|e<;>simp[e]
theorem Ea:∀x∈mz,(aff x.1 x.2).length%2=0∧2≤(aff x.1 x.2).length∧(aff x.1 x.2).length≤16:=by decide+kernel
theorem Eb{q:List Nat×Bool×Nat→Bool}(h:su.all q=true){p:aL}{m:Mk}(hp:eM p)(hm:eu p m):q (vH p m)=true:=List.all_eq_true.1 h _ (Zt hp hm)
end Go.Proofs.YtnncgmimhdplfaaGreat.F
namespace Go.Proofs.YtnncgmimhdplfaaGreat.F
open Go.aq
def ae0(w:List Nat)(l:List Ln)(s:Nat):List Lf:=l.map fun x=>agT w s x
def nE(w:List Nat)(l:List Ln)(s j:Nat):List Lf:=(ae0 w l s).take j
def nF(w:List Nat)(l:List Ln):Nat→List Lf
 |0=>[]
 |k+1=>nF w l k++(ae0 w l k).take (l.length / 2)
def nG(w:List Nat)(l:List Ln):Nat→List Lf
 |0=>[]
 |k+1=>(ae0 w l k).drop (l.length / 2)++nG w l k
def allM(w:List Nat)(l:List Ln)(s:Nat):List Lf:=nF w l s++nG w l s
theorem sv(w:List Nat)(l:List Ln)(s:Nat):(ae0 w l s).length=l.length:=by simp[ae0]
theorem Zu(w:List Nat)(l:List Ln)(s:Nat):nE w l s 0=[]:=rfl
theorem Zv(w:List Nat)(l:List Ln)(s j:Nat)(h:j<l.length):nE w l s (j+1)=nE w l s j++[agT w s l[j]]:=by
 unfold nE
 rw[ael (by rw[sv];exact h)]
 simp[ae0]
theorem Zw(w:List Nat)(l:List Ln)(s j:Nat)(h:j≤l.length):(nE w l s j).length=j:=by unfold nE;rw[List.length_take,sv];omega
theorem Zx(w:List Nat)(l:List Ln)(s:Nat):nE w l s l.length=ae0 w l s:=by unfold nE;rw[←sv w l s,List.take_length]
theorem MF(w:List Nat)(l:List Ln)(n:Nat)(h:l.length=2*n):∀k,(nF w l k).length=k*n
 |0=>by simp[nF]
 |k+1=>by rw[nF,List.length_append,MF w l n h k,List.length_take,sv,Nat.succ_mul];omega
theorem MG(w:List Nat)(l:List Ln)(n:Nat)(h:l.length=2*n):∀k,(nG w l k).length=k*n
 |0=>by simp[nG]
 |k+1=>by rw[nG,List.length_append,MG w l n h k,List.length_drop,sv,Nat.succ_mul];omega
theorem Ec(a:Nat):(((a:Int).tmod 2)==1)=(a%2==1):=by
 rw[Int.tmod_eq_emod_of_nonneg (by omega)]
 have:((a:Int)%2)=((a%2:Nat):Int):=by omega
 rw[this]
 rcases Nat.mod_two_eq_zero_or_one a with h|h<;>rw[h]<;>rfl
theorem Zy(p:aL)(m:Mk)(S n:Nat)(l:List Ln)(hf:0≤m.format∧m.format≤(p.aX.length:Int) - 1)(hm:m.aW=S)(hS:1≤S∧S≤4)(hL:l.length=2*n)(hn:n≤8)(hxy:∀x∈l,x.x+x.y≤100)(h0:1≤(aY p m).size∧(aY p m).size≤4)(h97:aed Tryz.prog 85 [YtnncgmimhdplfaaGreat.F.S (aY p m),B m.half] (.slice 4 (l.map Ln.av) 0)):aed Tryz.prog 55 [p.av,m.av] (LL (allM (codes (aY p m)) l S)):=by
 refine pc t55 (by simp) fun hfit=> ?_
 obtain⟨g,hg⟩:∃g:Nat,m.format=g:=⟨m.format.toNat,by omega⟩
 have hgl:g<p.aX.length:=by omega
 rw[qq hg hgl] at h0 h97⊢
 obtain⟨f,MH⟩:∃f,f=p.aX[g].aer:=⟨_,rfl⟩
 rw[←MH] at h0 h97⊢
 obtain⟨mf,mp,ms,mh⟩:=m
 obtain rfl:ms=(S:Int):=hm
 obtain rfl:mf=(g:Int):=hg
 simp -implicitDefEqProofs [Kl,hgl,←MH]
 have hs:((f.size:Int) - 1).toNat=f.size - 1:=by omega
 refine⟨i64 (by omega) (by omega),by omega,by omega,?_⟩
 refine aj h97 ?_
 simp -implicitDefEqProofs [hs]
 have MI:(f.data.toList.getD (f.size - 1) 0).toNat=(codes f).getLastD 0:=by
  have:f.size - 1=(codes f).length - 1:=by rw[yV]
  rw[this]
  have h1:bt f ((codes f).length - 1)=(codes f).getD ((codes f).length - 1) 0:=D1 _ _
  unfold bt at h1
  rw[h1,List.getLastD_eq_getLast?,List.getLast?_eq_getElem?,List.getD_eq_getElem?_getD]
 obtain⟨w,hw⟩:∃w,w=codes f:=⟨_,rfl⟩
 rw[←hw] at MI⊢
 generalize hla:w.getLastD 0=la at*
 have Xx:S*n≤32:=Nat.le_trans (Nat.mul_le_mul hS.2 hn) (by omega)
 refine aef S (fun k s=>s.env 3=.ref (Mk.mk g mp S mh).cs∧s.env 6=.lit (.int .u8 la)∧s.env 7=.slice 4 (l.map Ln.av) 0∧s.env 8=.slice 5 ((nF w l k).map Lf.av) 9∧s.env 9=.slice 5 ((nG w l k).map Lf.av) 10∧s.env 10=I k) ?_ ?_
 ·simp[nF,nG]
  have h2:=MI
  rw[List.getD_eq_getElem?_getD] at h2
  simp at h2
  exact congrArg _ h2
 rintro k s hk ⟨e3,e6,e7,e8,e9,bC⟩
 have Hq:=MF w l n hL k
 have hf2:=MG w l n hL k
 simp -implicitDefEqProofs [e3,bC]
 refine bA (fun hlt=> ?_) (fun hge=> ?_)
 ·have hlt:k<S:=by omega
  have hkn:k*n+n≤S*n:=by
   have:=Nat.mul_le_mul_right n (show k+1≤S by omega)
   rwa [Nat.succ_mul] at this
  simp -implicitDefEqProofs
  refine aef l.length (fun j s=>s.env 3=.ref (Mk.mk g mp S mh).cs∧s.env 6=.lit (.int .u8 la)∧s.env 7=.slice 4 (l.map Ln.av) 0∧
   s.env 8=.slice 5 ((nF w l k).map Lf.av) 9∧s.env 9=.slice 5 ((nG w l k).map Lf.av) 10∧s.env 10=I k∧
   s.env 11=.slice 5 ((nE w l k j).map Lf.av) 12∧s.env 12=I j) ?_ ?_
  ·simp[e3,e6,e7,e8,e9,bC,Zu]
  clear e3 e6 e7 e8 e9 bC
  rintro j s hj ⟨e3,e6,e7,e8,e9,bC,bf,bF⟩
  simp -implicitDefEqProofs [e7,bF]
  refine bA (fun br=> ?_) (fun nA=> ?_)
  ·have br:j<l.length:=by omega
   have ho:=Zv w l k j br
   have gM:=Zw w l k j (by omega)
   simp -implicitDefEqProofs [e6,e7,bF,br]
   have hb:=hxy _ (List.getElem_mem br)
   have MJ:(((l[j].x:Int)+(l[j].y:Int)).tmod 2==1)=((l[j].x+l[j].y)%2==1):=by
    have:=Ec (l[j].x+l[j].y)
    rwa [Int.natCast_add] at this
   have vI:agT w k l[j]=⟨k,l[j].col,l[j].row,(l[j].x+l[j].y)%2==1,(if la==120 then l[j].y else l[j].x)%2==1⟩:=by unfold agT;rw[hla]
   have Aq:=Ec l[j].x
   have yW:=Ec l[j].y
   refine bR (fun he=> ?_) (fun he=> ?_)
   ·have he':(la==120)=true:=by simp at he⊢;omega
    rw[he',if_pos rfl] at vI
    simp -implicitDefEqProofs [e7,bC,bf,bF,br]
    refine⟨i64 (by omega) (by omega),by omega,by omega,i64 (by omega) (by omega),aQ br ⟨by simp[e3],by simp[e6],by simp[e7],by simp[e8],by simp[e9],by simp[bC],?_,by simp⟩⟩
    simp[ho,vI,MJ,yW]
   ·have he':(la==120)=false:=by simp at he⊢;omega
    rw[he',if_neg (by simp)] at vI
    simp -implicitDefEqProofs [e7,bC,bf,bF,br]
    refine⟨i64 (by omega) (by omega),by omega,by omega,i64 (by omega) (by omega),aQ br ⟨by simp[e3],by simp[e6],by simp[e7],by simp[e8],by simp[e9],by simp[bC],?_,by simp⟩⟩
    simp[ho,vI,MJ,Aq]
  ·obtain rfl:j=l.length:=by omega
   rw[Zx] at bf
   have gM:=sv w l k
   have hq:((l.length:Int)).tdiv 2=(n:Int):=by rw[hL,Int.tdiv_eq_ediv_of_nonneg (by omega)];omega
   simp -implicitDefEqProofs [e8,e9,bC,bf,gM,hq]
   have hd:l.length / 2=n:=by omega
   refine⟨i64 (by omega) (by omega),by omega,by omega,by omega,i64 (by omega) (by omega),by omega,by omega,by omega,by omega,by omega,i64 (by omega) (by omega),aQ hlt ⟨by simp[e3],by simp[e6],by simp[e7],?_,?_,by simp⟩⟩
   ·simp[nF,hd]
   ·simp[nG,hd]
 ·obtain rfl:k=S:=by omega
  simp -implicitDefEqProofs [e8,e9,Km,allM]
  omega
end Go.Proofs.YtnncgmimhdplfaaGreat.F
namespace Go.Proofs.YtnncgmimhdplfaaGreat.F
open Go.aq
def bT(p:aL)(m:Mk):List Lf:=yU (vH p m)
theorem Zz:su.all (fun x=>allM x.1 (ny x.1 x.2.1) x.2.2==yU x)=true:=by decide+kernel
theorem ZA:∀x∈mz,(ny x.1 x.2).length=(aff x.1 x.2).length∧∀q∈ny x.1 x.2,q.x+q.y≤100:=by decide+kernel
theorem sx{p:aL}{m:Mk}(hp:eM p)(hm:eu p m):m.aW=(m.aW.toNat:Int)∧1≤m.aW.toNat∧m.aW.toNat≤4:=by
 have h1:=hm.aW
 have h2:=hp.aW
 omega
theorem Ed{p:aL}{m:Mk}(hp:eM p)(hm:eu p m):1≤(aY p m).size∧(aY p m).size≤4:=by
 have:=(ME (afq hp hm)).2
 rwa [yV] at this
theorem ZB{p:aL}{m:Mk}(hp:eM p)(hm:eu p m):aed Tryz.prog 65 [p.av,m.av] (LL (bT p m)):=by
 have yS:=Zo _ (qw hp hm)
 rw[agC] at yS
 have hl:=Ea _ (qw hp hm)
 have hs:=sx hp hm
 have hl':(aff (codes (aY p m)) m.half).length=2*((aff (codes (aY p m)) m.half).length / 2):=by simp only at hl;omega
 exact Xw p m m.aW.toNat ((aff (codes (aY p m)) m.half).length / 2) (aff (codes (aY p m)) m.half) hm.fmt hs.1 hs.2 hl' (by simp only at hl;omega) yS
theorem yX{p:aL}{m:Mk}(hp:eM p)(hm:eu p m):aed Tryz.prog 55 [p.av,m.av] (LL (bT p m)):=by
 have h97:=Y9 _ (qw hp hm)
 rw[agC] at h97
 have hl:=Ea _ (qw hp hm)
 have hf:=ZA _ (qw hp hm)
 have hs:=sx hp hm
 have hl':(ny (codes (aY p m)) m.half).length=2*((aff (codes (aY p m)) m.half).length / 2):=by simp only at hl hf;omega
 have:=Zy p m m.aW.toNat ((aff (codes (aY p m)) m.half).length / 2) (ny (codes (aY p m)) m.half) hm.fmt hs.1 hs.2 hl' (by simp only at hl;omega) hf.2 (Ed hp hm) h97
 have e:=Eb Zz hp hm
 have e2:allM (codes (aY p m)) (ny (codes (aY p m)) m.half) m.aW.toNat=bT p m:=eq_of_beq e
 rw[e2] at this
 exact this
theorem ZC(p:aL)(m:Mk):aed Tryz.prog 50 [p.av,m.av] (I (jN p m)):=by
 refine pc t50 (by simp) fun hfit=> ?_
 have kV:p.aX.length≤140737488355328:=by simpa using cY (jJ (hfit 0) 0)
 have m0:p.aR.length≤140737488355328:=by simpa using cY (jJ (hfit 0) 1)
 have c0:=yQ p
 have c1:=afp m.format 0 ((p.aX.length:Int) - 1)
 have c2:=afp m.b_ 0 ((p.aR.length:Int) - 1)
 have c3:=afp m.aW 1 p.aW
 obtain⟨R,hR⟩:∃R,R=jN p m:=⟨_,rfl⟩
 rw[←hR]
 unfold jN bh at hR
 generalize afe p=e at*
 simp -implicitDefEqProofs [m50]
 refine aj c0 ?_
 simp -implicitDefEqProofs
 refine bR (fun he=> ?_) (fun he=> ?_)
 ·have h0:e.2.2≠0:=by simpa using he
  rw[if_pos h0] at hR
  simp -implicitDefEqProofs [nt,hR]
 have h0:e.2.2=0:=by simpa using he
 rw[if_neg (not_not_intro h0)] at hR
 unfold jM at hR
 simp -implicitDefEqProofs
 refine⟨i64 (by omega) (by omega),?_⟩
 refine aj c1 ?_
 by_cases h1:0≤m.format∧m.format≤(p.aX.length:Int) - 1
 case neg=>
  rw[if_pos (.inl h1)] at hR
  rw[decide_eq_false h1]
  simp -implicitDefEqProofs [nt,hR]
 rw[decide_eq_true h1]
 simp -implicitDefEqProofs
 refine⟨i64 (by omega) (by omega),?_⟩
 refine aj c2 ?_
 by_cases h2:0≤m.b_∧m.b_≤(p.aR.length:Int) - 1
 case neg=>
  rw[if_pos (.inr h2)] at hR
  rw[decide_eq_false h2]
  simp -implicitDefEqProofs [nt,hR]
 rw[if_neg (fun h=>h.elim (fun h=>h h1) fun h=>h h2)] at hR
 rw[decide_eq_true h2]
 simp -implicitDefEqProofs
 refine aj c3 ?_
 by_cases h3:1≤m.aW∧m.aW≤p.aW
 case neg=>
  rw[if_pos h3] at hR
  rw[decide_eq_false h3]
  simp -implicitDefEqProofs [nt,hR]
 rw[if_neg (not_not_intro h3)] at hR
 rw[decide_eq_true h3]
 simp -implicitDefEqProofs
 obtain⟨g,hg⟩:∃g:Nat,m.format=g:=⟨m.format.toNat,by omega⟩
 have hgl:g<p.aX.length:=by omega
 rw[qq hg hgl] at hR
 cases hh:m.half with
 |false=>
  rw[hh,if_neg (by simp)] at hR
  simp -implicitDefEqProofs [nt,hR]
 |true=>
  rw[hh] at hR
  by_cases h4:m.aW=1
  ·have h4':(m.aW != 1)=false:=by simp[h4]
   simp -implicitDefEqProofs [h4',hg,hgl]
   by_cases h5:p.aX[g].aer.size<2
   ·rw[if_pos ⟨rfl,.inr h5⟩] at hR
    have qt:(p.aX[g].aer.size:Int)<2:=by omega
    simp -implicitDefEqProofs [nt,hR,qt]
   ·rw[if_neg (by simp[h4,h5])] at hR
    have qt:¬(p.aX[g].aer.size:Int)<2:=by omega
    simp -implicitDefEqProofs [nt,hR,qt]
  ·have h4':(m.aW != 1)=true:=by simp[h4]
   rw[if_pos ⟨rfl,.inl h4⟩] at hR
   simp -implicitDefEqProofs [h4',nt,hR]
end Go.Proofs.YtnncgmimhdplfaaGreat.F
namespace Go.Proofs.YtnncgmimhdplfaaGreat.F
open Go.aq
theorem MK(a:List Lf):aed Tryz.prog 34 [LL a,LL a] (B true):=by
 refine pc t34 (by simp) fun hfit=> ?_
 have hl:=cY (hfit 0)
 simp only[List.length_map] at hl
 simp -implicitDefEqProofs [CY]
 refine aef a.length (fun k s=>s.env 0=LL a∧s.env 1=LL a∧s.env 5=I k) ?_ ?_
 ·simp
 ·rintro k s hk ⟨e0,e1,e5⟩
  simp -implicitDefEqProofs [e0,e5]
  refine bA (fun hlt=> ?_) (fun hge=> ?_)
  ·have hlt:k<a.length:=by omega
   simp -implicitDefEqProofs [e0,e1,e5,hlt]
   exact⟨i64 (by omega) (by omega),aQ hlt ⟨by simp[e0],by simp[e1],by simp⟩⟩
  ·simp -implicitDefEqProofs [CZ]
def ZD(a b:List Int)(k:Nat)(s:St):Prop:=∃q:Bool,s.env 5=B q∧(q=false→a≠b)∧s.env 6=I k∧(q=true→a.take k=b.take k)
theorem sy(a b:List Int):aed Tryz.prog 16 [IL a,IL b] (B (a==b)):=by
 refine pc t16 (by simp) fun hfit=> ?_
 have hl:=cY (hfit 0)
 simp only[List.length_map] at hl
 simp -implicitDefEqProofs [m16]
 by_cases h:a.length=b.length
 ·have h':((a.length:Int)==b.length)=true:=by simp[h]
  refine aef a.length (fun k s=>s.env 0=IL a∧s.env 1=IL b∧ZD a b k s) ?_ ?_
  ·simp;exact⟨true,by simp[h],by simp,by simp,by simp⟩
  ·rintro k s hk ⟨e0,e1,q,e5,hq,e6,ht⟩
   simp -implicitDefEqProofs [e0,e5]
   cases q with
   |false=>
    have hne:(a==b)=false:=by simpa using hq rfl
    simp -implicitDefEqProofs [ql,e5,hne]
   |true=>
    simp -implicitDefEqProofs [e0,e6]
    refine bA (fun hlt=> ?_) (fun hge=> ?_)
    ·have hlt:k<a.length:=by omega
     have br:k<b.length:=by omega
     simp -implicitDefEqProofs [e0,e1,e6,hlt,br]
     refine⟨i64 (by omega) (by omega),aQ hlt ⟨by simp[e0],by simp[e1],⟨a[k]==b[k],by simp,fun hx=> ?_,by simp,fun hx=> ?_⟩⟩⟩
     ·intro hab;subst hab;simp at hx
     ·have hx':a[k]=b[k]:=by simpa using hx
      rw[ael hlt,ael br,ht rfl,hx']
    ·have hk':k=a.length:=by omega
     have hab:a=b:=by
      have:=ht rfl
      rw[hk',List.take_length] at this
      rw[this,h,List.take_length]
     have hne:(a==b)=true:=by simpa using hab
     simp -implicitDefEqProofs [ql,e5,hne]
 ·have h':((a.length:Int)==b.length)=false:=beq_eq_false_iff_ne.2 (by omega)
  have hne:(a==b)=false:=by
   simp
   intro hab;exact h (by rw[hab])
  refine aef 0 (fun k s=>s.env 5=B false) ?_ ?_
  ·simp[h']
  ·rintro k s hk e5
   simp -implicitDefEqProofs [ql,e5,hne]
end Go.Proofs.YtnncgmimhdplfaaGreat.F
namespace Go.Proofs.YtnncgmimhdplfaaGreat.F
open Go.aq
def bu(q:Nat→Bool)(n:Nat):List Int:=((List.range n).filter q).map Int.ofNat
theorem Ee(q:Nat→Bool):bu q 0=[]:=rfl
theorem lK(q:Nat→Bool)(n:Nat):bu q (n+1)=bu q n++if q n then [(n:Int)] else []:=by
 unfold bu
 rw[List.range_succ,List.filter_append,List.map_append]
 congr 1
 cases h:q n<;>simp[h]
theorem Ef{q:Nat→Bool}{n:Nat}(h:q n=true):bu q (n+1)=bu q n++[(n:Int)]:=by rw[lK,h];rfl
theorem oQ{q:Nat→Bool}{n:Nat}(h:q n=false):bu q (n+1)=bu q n:=by rw[lK,h];simp
theorem nH(q:Nat→Bool)(n:Nat):(bu q n).length≤n:=by
 unfold bu
 rw[List.length_map]
 exact Nat.le_trans (List.length_filter_le _ _) (by simp)
set_option maxRecDepth 100000 in
theorem ZE:su.all (fun x=>decide ((yU x).length=x.2.2*(aff x.1 x.2.1).length))=true:=by decide+kernel
theorem Eg{p:aL}{m:Mk}(hp:eM p)(hm:eu p m):2≤(bT p m).length∧(bT p m).length≤64:=by
 have h1:=of_decide_eq_true (Eb ZE hp hm)
 have h2:=Ea _ (qw hp hm)
 have h3:=sx hp hm
 have h4:(bT p m).length=m.aW.toNat*(aff (codes (aY p m)) m.half).length:=h1
 simp only at h2
 rw[h4]
 have h5:=Nat.mul_le_mul h3.2.2 h2.2.2
 have h6:=Nat.mul_le_mul h3.2.1 h2.2.1
 omega
end Go.Proofs.YtnncgmimhdplfaaGreat.F
namespace Go.Proofs.YtnncgmimhdplfaaGreat.F
open Go.aq
def ZF(l:List Lf)(k i:Nat):Bool:=(i != k)&&(l.getD i mu).aeS==(l.getD k mu).aeS
end Go.Proofs.YtnncgmimhdplfaaGreat.F
namespace Go.Proofs.YtnncgmimhdplfaaGreat.F
open Go.aq
def kz(w:List Nat)(x:Lf)(h:Int):Bool:=decide (4*x.col≤(cS w 120:Int)*(1+2*h)∧(cS w 120:Int)*(1+2*h)≤4*x.col+4)&&decide (2*x.row≤(cS w 121:Int)∧(cS w 121:Int)≤2*x.row+2)
theorem sA:∀w∈jL,1≤cS w 120∧cS w 120≤16∧1≤cS w 121∧cS w 121≤16:=by decide+kernel
def ZG(s:Nat)(x:Lf):Bool:=decide (0≤x.aeS∧x.aeS<s∧0≤x.col∧x.col<16∧0≤x.row∧x.row<16)
set_option maxRecDepth 100000 in
theorem ZH:su.all (fun x=>(yU x).all (ZG x.2.2))=true:=by decide+kernel
theorem ahU{p:aL}{m:Mk}(hp:eM p)(hm:eu p m){x:Lf}(hx:x∈bT p m):0≤x.aeS∧x.aeS<m.aW∧0≤x.col∧x.col<16∧0≤x.row∧x.row<16:=by
 have:=of_decide_eq_true (List.all_eq_true.1 (Eb ZH hp hm) x hx)
 have hs:=sx hp hm
 have e:((vH p m).2.2:Int)=m.aW:=hs.1.symm
 omega
theorem MM{p:aL}{m:Mk}(hp:eM p)(hm:eu p m):aed Tryz.prog 67 [S (aY p m)] (.tuple [I (cS (codes (aY p m)) 120),I (cS (codes (aY p m)) 121)]):=by
 have:=YS _ (afq hp hm)
 rwa [agC] at this
theorem MN{p:aL}{m:Mk}(hp:eM p)(hm:eu p m):aed Tryz.prog 84 [S (aY p m),.lit (.int .u8 120)] (I (cS (codes (aY p m)) 120)):=by
 have:=YQ _ (afq hp hm)
 rwa [agC] at this
theorem MO{p:aL}{m:Mk}(hp:eM p)(hm:eu p m):aed Tryz.prog 84 [S (aY p m),.lit (.int .u8 121)] (I (cS (codes (aY p m)) 121)):=by
 have:=YR _ (afq hp hm)
 rwa [agC] at this
theorem MP{a h:Int}(ha:1≤a∧a≤16)(hh:0≤h∧h≤1):1≤a*(1+2*h)∧a*(1+2*h)≤48:=by
 have:h=0∨h=1:=by omega
 rcases this with rfl|rfl<;>omega
theorem ZI{p:aL}{m:Mk}(hp:eM p)(hm:eu p m)(x:Lf)(hx:0≤x.col∧x.col<16∧0≤x.row∧x.row<16)(h:Int)(hh:0≤h∧h≤1):aed Tryz.prog 69 [p.av,m.av,x.av,I h] (B (kz (codes (aY p m)) x h)):=by
 refine pc t69 (by simp) fun hfit=> ?_
 have c1:=yR p m hm.fmt
 have c2:=MM hp hm
 have ht:=sA _ (afq hp hm)
 obtain⟨R,hR⟩:∃R,R=kz (codes (aY p m)) x h:=⟨_,rfl⟩
 rw[←hR]
 unfold kz at hR
 generalize cS (codes (aY p m)) 120=a at*
 generalize cS (codes (aY p m)) 121=b at*
 generalize aY p m=f at*
 have hmul:=MP (a:=a) (h:=h) (by omega) hh
 generalize hv:(a:Int)*(1+2*h)=v at*
 have c3:=aet (4*x.col) (4*x.col+4) [v]
 have c4:=aet (2*x.row) (2*x.row+2) [(b:Int)]
 rw[aeC] at c3 c4
 simp -implicitDefEqProofs [Dc]
 refine aj c1 ?_
 simp -implicitDefEqProofs
 refine aj c2 ?_
 simp -implicitDefEqProofs [hv]
 refine⟨i64 (by omega) (by omega),i64 (by omega) (by omega),i64 (by omega) (by omega),i64 (by omega) (by omega),i64 (by omega) (by omega),?_⟩
 refine aj c3 ?_
 by_cases h1:4*x.col≤v∧v≤4*x.col+4
 ·rw[decide_eq_true h1] at hR⊢
  simp -implicitDefEqProofs
  refine⟨i64 (by omega) (by omega),i64 (by omega) (by omega),?_⟩
  refine aj c4 ?_
  simp -implicitDefEqProofs [yt,hR]
 ·rw[decide_eq_false h1] at hR⊢
  simp -implicitDefEqProofs [yt,hR]
theorem Eh{p:aL}{m:Mk}(hp:eM p)(hm:eu p m)(x:Lf)(hx:0≤x.col∧x.col<16∧0≤x.row∧x.row<16)(h:Int)(hh:0≤h∧h≤1):aed Tryz.prog 86 [p.av,m.av,x.av,I h] (B (kz (codes (aY p m)) x h)):=by
 refine pc t86 (by simp) fun hfit=> ?_
 have c1:=MN hp hm
 have c2:=MO hp hm
 have ht:=sA _ (afq hp hm)
 obtain⟨R,hR⟩:∃R,R=kz (codes (aY p m)) x h:=⟨_,rfl⟩
 rw[←hR]
 unfold kz at hR
 generalize cS (codes (aY p m)) 120=a at*
 generalize cS (codes (aY p m)) 121=b at*
 obtain⟨g,hg⟩:∃g:Nat,m.format=g:=⟨m.format.toNat,by have:=hm.fmt;omega⟩
 have hgl:g<p.aX.length:=by have:=hm.fmt;omega
 rw[qq hg hgl] at c1 c2
 have hmul:=MP (a:=a) (h:=h) (by omega) hh
 generalize hv:(a:Int)*(1+2*h)=v at*
 have c3:=afp v (4*x.col) (4*x.col+4)
 have c4:=afp b (2*x.row) (2*x.row+2)
 simp -implicitDefEqProofs [KP,hg,hgl]
 refine aj c1 ?_
 simp -implicitDefEqProofs
 refine aj c2 ?_
 simp -implicitDefEqProofs [hv]
 refine⟨i64 (by omega) (by omega),i64 (by omega) (by omega),i64 (by omega) (by omega),i64 (by omega) (by omega),i64 (by omega) (by omega),?_⟩
 refine aj c3 ?_
 by_cases h1:4*x.col≤v∧v≤4*x.col+4
 ·rw[decide_eq_true h1] at hR⊢
  simp -implicitDefEqProofs
  refine⟨i64 (by omega) (by omega),i64 (by omega) (by omega),?_⟩
  refine aj c4 ?_
  simp -implicitDefEqProofs [Dn,hR]
 ·rw[decide_eq_false h1] at hR⊢
  simp -implicitDefEqProofs [Dn,hR]
end Go.Proofs.YtnncgmimhdplfaaGreat.F
namespace Go.Proofs.YtnncgmimhdplfaaGreat.F
open Go.aq
def sB(w:List Nat)(l:List Lf)(hs:List Int)(i:Nat):Bool:=kz w (l.getD i mu) (hs.getD (l.getD i mu).aeS.toNat 0)
end Go.Proofs.YtnncgmimhdplfaaGreat.F
namespace Go.Proofs.YtnncgmimhdplfaaGreat.F
open Go.aq
end Go.Proofs.YtnncgmimhdplfaaGreat.F
namespace Go.Proofs.YtnncgmimhdplfaaGreat.F
open Go.aq
def entry(q:Lf×Int):List AV:=[.agg [I q.1.aeS,I q.1.col,I q.1.row],I q.2]
end Go.Proofs.YtnncgmimhdplfaaGreat.F
namespace Go.Proofs.YtnncgmimhdplfaaGreat.F
open Go.aq
structure Ask where
 aeS:Int
 leaf:Int
 inner:Bool
 gD:List Int
abbrev Ask.cs(x:Ask):List AV:=[I x.aeS,I x.leaf,B x.inner,.slice 1 (x.gD.map I) 0]
abbrev Ask.av(x:Ask):AV:=.agg x.cs
end Go.Proofs.YtnncgmimhdplfaaGreat.F
namespace Go.Proofs.YtnncgmimhdplfaaGreat.F
open Go.aq
abbrev ML(l:List Mk):AV:=.slice 4 (l.map Mk.av) 0
def fO(p:aL)(m:Mk):Bool:=jN p m==0
def iN(f i:Nat)(s:Int)(h:Nat):List Mk:=(List.range h).map fun(k:Nat)=>(⟨f,i,s,(k:Int)==1⟩:Mk)
def jO(f i s:Nat):List Mk:=(List.range s).flatMap fun(k:Nat)=>iN f i ((k:Int)+1) 2
def jP(S f i:Nat):List Mk:=(List.range i).flatMap fun i=>jO f i S
def kA(P S f:Nat):List Mk:=(List.range f).flatMap fun f=>jP S f P
theorem MQ(f i:Nat)(s:Int)(h:Nat):iN f i s (h+1)=iN f i s h++[⟨f,i,s,(h:Int)==1⟩]:=by unfold iN;rw[List.range_succ];simp
theorem MR(f i s:Nat):jO f i (s+1)=jO f i s++iN f i ((s:Int)+1) 2:=by unfold jO;rw[List.range_succ,List.flatMap_append];simp
theorem MS(S f i:Nat):jP S f (i+1)=jP S f i++jO f i S:=by unfold jP;rw[List.range_succ,List.flatMap_append];simp
theorem MT(P S f:Nat):kA P S (f+1)=kA P S f++jP S f P:=by unfold kA;rw[List.range_succ,List.flatMap_append];simp
theorem MU(f i:Nat)(s:Int)(h:Nat):(iN f i s h).length=h:=by simp[iN]
theorem Ei(f i:Nat):∀s,(jO f i s).length=2*s
 |0=>rfl
 |s+1=>by rw[MR,List.length_append,Ei f i s,MU];omega
theorem Ej(S f:Nat):∀i,(jP S f i).length=i*(2*S)
 |0=>by simp[jP]
 |i+1=>by rw[MS,List.length_append,Ej S f i,Ei];exact(Nat.succ_mul ..).symm
theorem MV(P S:Nat):∀f,(kA P S f).length=f*(P*(2*S))
 |0=>by simp[kA]
 |f+1=>by rw[MT,List.length_append,MV P S f,Ej];exact(Nat.succ_mul ..).symm
def cq(p:aL):List Mk:=(kA p.aR.length p.aW.toNat p.aX.length).filter (fO p)
theorem ZJ{p:aL}{l:List Mk}{m:Mk}(h:fO p m=true):(l++[m]).filter (fO p)=l.filter (fO p)++[m]:=by rw[List.filter_append];simp[h]
theorem ZK{p:aL}{l:List Mk}{m:Mk}(h:fO p m=false):(l++[m]).filter (fO p)=l.filter (fO p):=by rw[List.filter_append];simp[h]
def eE(p:aL)(P S f i s h:Nat):List Mk:=(kA P S f++jP S f i++jO f i s++iN f i ((s:Int)+1) h).filter (fO p)
theorem MW{p:aL}{P S f i s h:Nat}(hP:P≤4)(hS:S≤4)(hf:f≤6)(hi:i≤4)(hs:s≤4)(hh:h≤2):(eE p P S f i s h).length≤1000:=by
 refine Nat.le_trans (List.length_filter_le _ _) ?_
 rw[List.length_append,List.length_append,List.length_append,MV,Ej,Ei,MU]
 have h1:P*(2*S)≤4*8:=Nat.mul_le_mul hP (by omega)
 have h2:f*(P*(2*S))≤6*32:=Nat.mul_le_mul hf h1
 have h3:i*(2*S)≤4*8:=Nat.mul_le_mul hi (by omega)
 omega
theorem ZL(p:aL)(P S f i s:Nat):eE p P S f i s 2=eE p P S f i (s+1) 0:=by unfold eE;rw[MR];simp[iN,List.append_assoc]
theorem ZM(p:aL)(P S f i:Nat):eE p P S f i S 0=eE p P S f (i+1) 0 0:=by unfold eE;rw[MS];simp[iN,jO,List.append_assoc]
theorem ZN(p:aL)(P S f:Nat):eE p P S f P 0 0=eE p P S (f+1) 0 0 0:=by unfold eE;rw[MT];simp[iN,jO,jP,List.append_assoc]
theorem ZO{p:aL}{P S f i s h:Nat}(ho:fO p ⟨f,i,(s:Int)+1,(h:Int)==1⟩=true):eE p P S f i s (h+1)=eE p P S f i s h++[⟨f,i,(s:Int)+1,(h:Int)==1⟩]:=by unfold eE;rw[MQ,←List.append_assoc,ZJ ho]
theorem ZP{p:aL}{P S f i s h:Nat}(ho:fO p ⟨f,i,(s:Int)+1,(h:Int)==1⟩=false):eE p P S f i s (h+1)=eE p P S f i s h:=by unfold eE;rw[MQ,←List.append_assoc,ZK ho]
theorem MX(p:aL)(hp:eM p):aed Tryz.prog 9 [p.av] (ML (cq p)):=by
 refine pc t9 (by simp) fun hfit=> ?_
 have hF:=hp.aX
 have hP:=hp.aR
 obtain⟨S,hS⟩:∃S:Nat,p.aW=S:=⟨p.aW.toNat,by have:=hp.aW;omega⟩
 have Ek:=hp.aW
 have hres:cq p=eE p p.aR.length S p.aX.length 0 0 0:=by unfold cq eE;rw[hS];simp[jP,jO,iN]
 rw[hres]
 simp -implicitDefEqProofs [m9]
 refine aef p.aX.length (fun f s=>s.env 1=aem p∧s.env 3=.slice 4 ((eE p p.aR.length S f 0 0 0).map Mk.av) 4∧s.env 4=I f) ?_ ?_
 ·simp[eE,kA,jP,jO,iN]
 rintro f s hf ⟨e1,e3,e4⟩
 simp -implicitDefEqProofs [e1,e4]
 refine bA (fun hlt=> ?_) (fun hge=> ?_)
 case refine_2=>
  obtain rfl:f=p.aX.length:=by omega
  simp -implicitDefEqProofs [e3,r9]
 have ZQ:f<p.aX.length:=by omega
 simp -implicitDefEqProofs
 refine aef p.aR.length (fun i s=>s.env 1=aem p∧s.env 3=.slice 4 ((eE p p.aR.length S f i 0 0).map Mk.av) 4∧s.env 4=I f∧s.env 5=I i) ?_ ?_
 ·simp[e1,e3,e4]
 clear e1 e3 e4
 rintro i s hi ⟨e1,e3,e4,e5⟩
 simp -implicitDefEqProofs [e1,e5]
 refine bA (fun hlt=> ?_) (fun hge=> ?_)
 case refine_2=>
  obtain rfl:i=p.aR.length:=by omega
  rw[ZN] at e3
  simp -implicitDefEqProofs [e4]
  exact⟨i64 (by omega) (by omega),aQ ZQ ⟨by simp[e1],by simp[e3],by simp⟩⟩
 have br:i<p.aR.length:=by omega
 simp -implicitDefEqProofs
 refine aef S (fun k s=>s.env 1=aem p∧s.env 3=.slice 4 ((eE p p.aR.length S f i k 0).map Mk.av) 4∧s.env 4=I f∧s.env 5=I i∧s.env 6=I ((k:Int)+1)) ?_ ?_
 ·simp[e1,e3,e4,e5]
 clear e1 e3 e4 e5
 rintro k s hk ⟨e1,e3,e4,e5,e6⟩
 simp -implicitDefEqProofs [e1,e6,hS]
 refine bA (fun hlt=> ?_) (fun hge=> ?_)
 case refine_2=>
  obtain rfl:k=S:=by omega
  rw[ZM] at e3
  simp -implicitDefEqProofs [e5]
  exact⟨i64 (by omega) (by omega),aQ br ⟨by simp[e1],by simp[e3],by simp[e4],by simp⟩⟩
 have aeY:k<S:=by omega
 simp -implicitDefEqProofs
 refine aef 2 (fun h s=>s.env 1=aem p∧s.env 3=.slice 4 ((eE p p.aR.length S f i k h).map Mk.av) 4∧s.env 4=I f∧s.env 5=I i∧s.env 6=I ((k:Int)+1)∧s.env 7=I h) ?_ ?_
 ·simp[e1,e3,e4,e5,e6]
 clear e1 e3 e4 e5 e6
 rintro h s hh ⟨e1,e3,e4,e5,e6,e7⟩
 simp -implicitDefEqProofs [e7]
 refine bA (fun hlt=> ?_) (fun hge=> ?_)
 case refine_2=>
  obtain rfl:h=2:=by omega
  rw[ZL] at e3
  simp -implicitDefEqProofs [e6]
  exact⟨i64 (by omega) (by omega),aQ aeY ⟨by simp[e1],by simp[e3],by simp[e4],by simp[e5],by simp⟩⟩
 have MY:h<2:=by omega
 have c:=ZC p ⟨f,i,(k:Int)+1,(h:Int)==1⟩
 have hlen:=MW (p:=p) (P:=p.aR.length) (S:=S) (f:=f) (i:=i) (s:=k) (h:=h) (by omega) (by omega) (by omega) (by omega) (by omega) (by omega)
 have ht:=ZO (p:=p) (P:=p.aR.length) (S:=S) (f:=f) (i:=i) (s:=k) (h:=h)
 have yZ:=ZP (p:=p) (P:=p.aR.length) (S:=S) (f:=f) (i:=i) (s:=k) (h:=h)
 unfold fO at ht yZ
 generalize jN p ⟨f,i,(k:Int)+1,(h:Int)==1⟩=e at*
 simp -implicitDefEqProofs [e4,e5,e6,e7]
 intro b hb
 simp -implicitDefEqProofs [e1]
 refine aj c ?_
 simp -implicitDefEqProofs
 refine bR (fun he=> ?_) (fun he=> ?_)
 ·simp -implicitDefEqProofs [e3,e7]
  refine⟨by omega,by omega,i64 (by omega) (by omega),aQ MY ⟨by simp[e1],by simp[ht he],by simp[e4],by simp[e5],by simp[e6],by simp⟩⟩
 ·simp -implicitDefEqProofs [e7]
  refine⟨i64 (by omega) (by omega),aQ MY ⟨by simp[e1],by simp[e3,yZ he],by simp[e4],by simp[e5],by simp[e6],by simp⟩⟩
end Go.Proofs.YtnncgmimhdplfaaGreat.F
namespace Go.Proofs.YtnncgmimhdplfaaGreat.F
open Go.aq
theorem MZ(l:List Int)(n:Int):aed Tryz.prog 12 [IL l,I n] (B (decide (n∈l))):=by
 refine pc t12 (by simp) fun hfit=> ?_
 have hl:=cY (hfit 0)
 simp only[List.length_map] at hl
 simp -implicitDefEqProofs [CT]
 refine aef l.length (fun k s=>s.env 0=IL l∧s.env 1=I n∧s.env 5=I k∧∀x∈l.take k,x≠n) ?_ ?_
 ·simp
 ·rintro k s hk ⟨e0,e1,e5,hno⟩
  simp -implicitDefEqProofs [e0,e5]
  refine bA (fun hlt=> ?_) (fun hge=> ?_)
  ·have hlt:k<l.length:=by omega
   simp -implicitDefEqProofs [e0,e1,e5,hlt]
   refine bR (fun he=> ?_) (fun he=> ?_)
   ·have hx:l[k]=n:=by simpa using he
    have hm:n∈l:=by rw[←hx];exact List.getElem_mem _
    simp -implicitDefEqProofs [uW,hm]
   ·have hx:l[k]≠n:=by simpa using he
    simp -implicitDefEqProofs [e5]
    refine⟨i64 (by omega) (by omega),aQ hlt ⟨by simp[e0],by simp[e1],by simp,fun x hx'=> ?_⟩⟩
    rw[ael hlt,List.mem_append,List.mem_singleton] at hx'
    rcases hx' with hx'|rfl
    ·exact hno x hx'
    ·exact hx
  ·obtain rfl:k=l.length:=by omega
   rw[List.take_length] at hno
   have hm:n∉l:=fun h=>hno n h rfl
   simp -implicitDefEqProofs [uW,hm]
theorem ZR{p:aL}{m:Mk}(h:m∈cq p):jN p m=0:=by
 have:=(List.mem_filter.1 h).2
 simpa[fO] using this
theorem ahV{P S F f i s h:Nat}(hf:f<F)(hi:i<P)(hs:s<S)(hh:h<2):(⟨f,i,(s:Int)+1,(h:Int)==1⟩:Mk)∈kA P S F:=by
 unfold kA jP jO iN
 simp only[List.mem_flatMap,List.mem_map,List.mem_range]
 exact⟨f,hf,i,hi,s,hs,h,hh,rfl⟩
theorem El{p:aL}(h:bh p=0):1≤(cq p).length:=by
 have hp:=afL h
 have h1:=hp.aX
 have h2:=hp.aR
 have h3:=hp.aW
 have hm:(⟨0,0,1,false⟩:Mk)∈cq p:=by
  refine List.mem_filter.2 ⟨ahV (f:=0) (i:=0) (s:=0) (h:=0) (by omega) (by omega) (by omega) (by omega),?_⟩
  unfold fO jN jM
  rw[if_neg (by simp[h]),if_neg,if_neg (by simp;omega),if_neg (by simp)]
  ·rfl
  ·simp;omega
 exact List.length_pos_of_mem hm
theorem Em{p:aL}(hp:eM p):(cq p).length≤1000:=by
 have h1:=hp.aX
 have h2:=hp.aR
 have h3:=hp.aW
 have:=MW (p:=p) (P:=p.aR.length) (S:=p.aW.toNat) (f:=p.aX.length) (i:=0) (s:=0) (h:=0) (by omega) (by omega) (by omega) (by omega) (by omega) (by omega)
 have e:cq p=eE p p.aR.length p.aW.toNat p.aX.length 0 0 0:=by unfold cq eE;simp[jP,jO,iN]
 rwa [e]
def mk0:Mk:=⟨0,0,0,false⟩
def vJ(p:aL)(n:Nat):Mk:=(cq p).getD (n%(cq p).length) mk0
theorem gE(a b:Nat):((a:Int).tmod (b:Int))=((a%b:Nat):Int):=by rw[Int.tmod_eq_emod_of_nonneg (by omega)];rfl
theorem ZS{p:aL}(h:bh p=0)(n:Nat):aed Tryz.prog 51 [p.av,I n] (vJ p n).av:=by
 refine pc t51 (by simp) fun hfit=> ?_
 have hl:=El h
 have m0:=Em (afL h)
 have c:=MX p (afL h)
 have hlt:n%(cq p).length<(cq p).length:=Nat.mod_lt _ (by omega)
 unfold vJ
 generalize cq p=l at*
 have ht:=gE n l.length
 generalize hk:n%l.length=k at*
 simp -implicitDefEqProofs [Kf]
 intro b
 refine aj c ?_
 have hne:¬l=[]:=fun h=>by subst h;simp at hl
 simp -implicitDefEqProofs [ht,hlt,hne,Kg]
abbrev U(n:Int):AV:=.lit (.int .u16 n)
abbrev US(l:List Int):AV:=.slice 1 (l.map U) 0
def bH(l:List Int)(n:Nat):Int:=if l.length=0 then 0 else l.getD (n%l.length) 0
def gW(l:List Int):Prop:=∀x∈l,0≤x∧x≤65535
theorem dV{l:List Int}(h:gW l)(n:Nat):0≤bH l n∧bH l n≤65535:=by
 unfold bH
 split
 ·omega
 ·rename_i hl
  have hlt:n%l.length<l.length:=Nat.mod_lt _ (by omega)
  rw[List.getD_eq_getElem?_getD,List.getElem?_eq_getElem hlt]
  exact h _ (List.getElem_mem _)
theorem wrap_i64{a:Int}(h:0≤a∧a≤65535):IntKind.wrap .i64 a=a:=by
 obtain⟨k,rfl⟩:∃k:Nat,a=k:=⟨a.toNat,by omega⟩
 simp[IntKind.wrap,IntKind.bits,IntKind.signed]
 omega
theorem aha{l:List Int}(h:gW l)(n:Nat):aed Tryz.prog 52 [US l,I n] (I (bH l n)):=by
 refine pc t52 (by simp) fun hfit=> ?_
 have hw:=wrap_i64 (dV h n)
 obtain⟨R,hR⟩:∃R,R=bH l n:=⟨_,rfl⟩
 rw[←hR] at hw⊢
 unfold bH at hR
 simp -implicitDefEqProofs [Kh]
 by_cases hl:l.length=0
 ·have hl':((l.length:Int)==0)=true:=by simp[hl]
  rw[if_pos hl] at hR
  simp -implicitDefEqProofs [hl',C1,hR]
 ·have hl':((l.length:Int)==0)=false:=beq_eq_false_iff_ne.2 (by omega)
  have hlt:n%l.length<l.length:=Nat.mod_lt _ (by omega)
  rw[if_neg hl] at hR
  have ht:=gE n l.length
  generalize hk:n%l.length=k at*
  have hne:¬l=[]:=fun h=>by subst h;simp at hl
  rw[List.getD_eq_getElem?_getD,List.getElem?_eq_getElem hlt,Option.getD_some] at hR
  simp -implicitDefEqProofs [hl',ht,hlt,hne,←hR,hw,C1]
def aeL(x:List Int)(n:Nat):List Int:=(List.range n).map fun i=>(bH x i).tmod 2
theorem ZT(x:List Int)(n:Nat):aeL x (n+1)=aeL x n++[(bH x n).tmod 2]:=by unfold aeL;rw[List.range_succ];simp
theorem M1(x:List Int)(n:Nat):(aeL x n).length=n:=by simp[aeL]
theorem M3{x:List Int}(h:gW x){n k:Nat}(hk:k<(aeL x n).length):0≤(aeL x n)[k]∧(aeL x n)[k]≤1:=by
 have:=dV h k
 have e:(aeL x n)[k]=(bH x k).tmod 2:=by simp[aeL]
 rw[e,Int.tmod_eq_emod_of_nonneg this.1]
 omega
theorem ZU(m:Mk){x:List Int}(h:gW x)(hm:0≤m.aW∧m.aW≤4):aed Tryz.prog 87 [m.av,US x] (IL (aeL x m.aW.toNat)):=by
 refine pc t87 (by simp) fun hfit=> ?_
 obtain⟨S,hS⟩:∃S:Nat,m.aW=S:=⟨m.aW.toNat,by omega⟩
 have e:m.aW.toNat=S:=by omega
 rw[e]
 simp -implicitDefEqProofs [KQ]
 refine aef S (fun k s=>s.env 1=US x∧s.env 2=.ref m.cs∧s.env 5=.slice 1 ((aeL x k).map I) 6∧s.env 6=I k) ?_ ?_
 ·simp[aeL]
 rintro k s hk ⟨e1,e2,e5,e6⟩
 simp -implicitDefEqProofs [e2,e6,hS]
 refine bA (fun hlt=> ?_) (fun hge=> ?_)
 ·have hlt:k<S:=by omega
  have hs:=ZT x k
  have hl:=M1 x k
  simp -implicitDefEqProofs [e1,e5,e6]
  refine aj (aha h k) ?_
  simp -implicitDefEqProofs [e5,e6]
  refine⟨by omega,by omega,i64 (by omega) (by omega),aQ hlt ⟨by simp[e1],by simp[e2],by simp[hs],by simp⟩⟩
 ·obtain rfl:k=S:=by omega
  simp -implicitDefEqProofs [e5,KR]
end Go.Proofs.YtnncgmimhdplfaaGreat.F
