/- Running resolved code: operations that hand back a value. -/
import Derived.Test.YtcfeipphmklakaaEv3
namespace Go.Avm

section
variable {R : Type} (e : ES) (fail : R)

def argK (a : MArg) (k : AV → R) : R := match a with
  | .t n => bif Nat.blt n 1000000 then k (e.at n) else fail
  | .c x => bif below 0 x then k x else fail

def eK (x : AV) (k : AV → R) : R := match x with
  | .slice sz xs _ => k (.slice sz xs 0)
  | .agg cs => fL (cs.map AV.erase0) fun cs => k (.agg cs)
  | x => k x
theorem eK_eq (x : AV) (k : AV → R) : eK x k = k x.erase := by
  cases x <;> simp only [eK, fL_eq, AV.erase]

def argsK : List MArg → (List AV → R) → R
  | [], k => k []
  | a :: as, k => argK e fail a fun x => eK x fun x => argsK as fun xs => k (x :: xs)

/-- Part of some cells. -/
def partE (cs : List AV) (off : Nat) (n : Option Nat) (k : AV → R) : R := match n with
  | none => bif Nat.blt off cs.length then k (cs.getD off .any) else fail
  | some n => bif Nat.ble (off + n) cs.length then fL (((cs.drop off).take n).map AV.erase0) fun c => k (.agg c) else fail

def inR (n : Int) (len : Nat) : Bool := match n with
  | .ofNat m => Nat.blt m len
  | .negSucc _ => false
def inR' (n : Int) (len : Nat) : Bool := match n with
  | .ofNat m => Nat.ble m len
  | .negSucc _ => false
theorem inR_ok {n : Int} {len : Nat} (h : inR n len = true) : 0 ≤ n ∧ n < len ∧ n.toNat < len := by
  cases n with
  | ofNat m =>
    have h1 : m < len := Nat.lt_of_succ_le (by simpa [inR, Nat.blt] using h)
    simp only [Int.ofNat_eq_natCast, Int.toNat_natCast]; omega
  | negSucc m => cases h
theorem inR'_ok {n : Int} {len : Nat} (h : inR' n len = true) : 0 ≤ n ∧ n ≤ len := by
  cases n with
  | ofNat m =>
    have h1 : m ≤ len := by simpa [inR'] using h
    simp only [Int.ofNat_eq_natCast]; omega
  | negSucc m => cases h

def fillE (cs : List AV) : List (Nat × Nat × MArg) → (List AV → R) → R
  | [], k => k cs
  | (off, n, x) :: ps, k => argK e fail x fun x => bif Nat.beq x.cells.length n && Nat.ble (off + n) cs.length then fL (splice cs off (x.cells.map AV.erase0)) fun cs => fillE cs ps k else fail

def vK_cpy (d : Nat) (x : MArg) (k : Nat → AV → R) : R := argK e fail x fun x => k d x
def vK_cpyE (d : Nat) (x : MArg) (k : Nat → AV → R) : R := argK e fail x fun x => eK x fun x => k d x
def vK_cpyS (d : Nat) (x : MArg) (k : Nat → AV → R) : R := argK e fail x fun x => match x with
    | .lit (.string u) => k d (.lit (.string u))
    | _ => fail
def vK_boxI (d : Nat) (x : MArg) (n : Nat) (k : Nat → AV → R) : R := argK e fail x fun x => bif Nat.beq x.cells.length n then fL (x.cells.map AV.erase0) fun cs => k d (.ref cs) else fail
def vK_load (d : Nat) (x : MArg) (n : Option Nat) (k : Nat → AV → R) : R := argK e fail x fun x => match x with
    | .ref cs => partE fail cs 0 n fun v => eK v fun v => k d v
    | .mref b off => match e.loc.get b with
      | some cs => partE fail cs off n fun v => k d v
      | none => fail
    | _ => fail
def vK_loadI (d : Nat) (x : MArg) (n : Option Nat) (k : Nat → AV → R) : R := argK e fail x fun x => match x with
    | .ref cs => partE fail cs 0 n fun v => eK v fun v => k d v
    | _ => fail
def vK_addr (d : Nat) (x : MArg) (off : Nat) (k : Nat → AV → R) : R := argK e fail x fun x => match x with
    | .ref cs => fL (cs.drop off) fun cs => k d (.ref cs)
    | .mref b o => k d (.mref b (o + off))
    | _ => fail
def vK_idxS (d : Nat) (x : MArg) (i : MArg) (sz : Nat) (k : Nat → AV → R) : R := argK e fail x fun x => argK e fail i fun i => match x, i with
    | .slice sz' xs _, .lit (.int _ n) => bif Nat.beq sz' sz && inR n xs.length then fL (xs.getD n.toNat .any).cells fun cs => k d (.ref cs) else fail
    | .mslice b off len _ sz', .lit (.int _ n) => bif Nat.beq sz' sz && inR n len then k d (.mref b (off + n.toNat * sz)) else fail
    | _, _ => fail
def vK_idxA (d : Nat) (x : MArg) (i : MArg) (len : Nat) (sz : Nat) (k : Nat → AV → R) : R := argK e fail x fun x => argK e fail i fun i => match x, i with
    | .ref cs, .lit (.int _ n) => bif inR n len then fL (cs.drop (n.toNat * sz)) fun cs => k d (.ref cs) else fail
    | .mref b off, .lit (.int _ n) => bif inR n len then k d (.mref b (off + n.toNat * sz)) else fail
    | _, _ => fail
def vK_fld (d : Nat) (x : MArg) (off : Nat) (n : Option Nat) (k : Nat → AV → R) : R := argK e fail x fun x => match x with
    | .agg cs => partE fail cs off n fun v => eK v fun v => k d v
    | _ => fail
def vK_idxV (d : Nat) (x : MArg) (i : MArg) (len : Nat) (sz : Nat) (n : Option Nat) (k : Nat → AV → R) : R := argK e fail x fun x => argK e fail i fun i => match x, i with
    | .agg cs, .lit (.int _ j) => bif inR j len then partE fail cs (j.toNat * sz) n fun v => eK v fun v => k d v else fail
    | _, _ => fail
def vK_idxStr (d : Nat) (x : MArg) (i : MArg) (k : Nat → AV → R) : R := argK e fail x fun x => argK e fail i fun i => match x, i with
    | .lit (.string u), .lit (.int _ j) => bif inR j u.size then k d (.lit (.int .u8 (u.data.toList.getD j.toNat 0).toNat)) else fail
    | _, _ => fail
def vK_len (d : Nat) (x : MArg) (k : Nat → AV → R) : R := argK e fail x fun x => match x with
    | .slice _ xs _ => k d (.lit (.int .i64 xs.length))
    | .mslice _ _ len _ _ => k d (.lit (.int .i64 len))
    | _ => fail
def vK_lenStr (d : Nat) (x : MArg) (k : Nat → AV → R) : R := argK e fail x fun x => match x with
    | .lit (.string u) => k d (.lit (.int .i64 u.size))
    | _ => fail
def vK_bin (d : Nat) (op : BinOp) (x : MArg) (y : MArg) (k : Nat → AV → R) : R := argK e fail x fun x => argK e fail y fun y => match binKb op x y with
    | some (.lit v) => k d (.lit v)
    | _ => fail
def vK_binB (d : Nat) (neg : Bool) (x : MArg) (y : MArg) (k : Nat → AV → R) : R := argK e fail x fun x => argK e fail y fun y => match x, y with
    | .lit (.bool a), .lit (.bool b) => k d (.lit (.bool (if neg then !(a == b) else a == b)))
    | _, _ => fail
def vK_build (d : Nat) (z : List AV) (ps : List (Nat × Nat × MArg)) (k : Nat → AV → R) : R := bif belowL 0 z then fillE e fail z ps fun cs => k d (.agg cs) else fail
def vK_binA (d : Nat) (neg : Bool) (n : List Bool) (x : MArg) (y : MArg) (k : Nat → AV → R) : R := argK e fail x fun x => argK e fail y fun y => match x, y with
    | .agg a, .agg b => bif Nat.beq a.length n.length && Nat.beq b.length n.length then (match eqCells n a b with
      | some q => k d (.lit (.bool (if neg then !q else q)))
      | none => fail) else fail
    | _, _ => fail
def vK_not (d : Nat) (x : MArg) (k : Nat → AV → R) : R := argK e fail x fun x => match x with
    | .lit (.bool a) => k d (.lit (.bool (!a)))
    | _ => fail
def vK_neg (d : Nat) (x : MArg) (k : Nat → AV → R) : R := argK e fail x fun x => match x with
    | .lit (.int q a) => bif inKb q (0 - a) then k d (.lit (.int q (0 - a))) else fail
    | _ => fail
def vK_conv (d : Nat) (q : IntKind) (x : MArg) (k : Nat → AV → R) : R := argK e fail x fun x => match x with
    | .lit (.int _ a) => k d (.lit (.int q (q.wrap a)))
    | _ => fail
def vK_pick (d : Nat) (c : MArg) (x : MArg) (y : MArg) (k : Nat → AV → R) : R := argK e fail c fun c => match c with
    | .lit (.bool true) => argK e fail x fun x => k d x
    | .lit (.bool false) => argK e fail y fun y => k d y
    | _ => fail
def vK_ext (d : Nat) (x : MArg) (i : Nat) (k : Nat → AV → R) : R := argK e fail x fun x => match x with
    | .tuple vs => bif Nat.blt i vs.length then eK (vs.getD i .any) fun v => k d v else fail
    | _ => fail
def vK_maxI (d : Nat) (x : MArg) (y : MArg) (k : Nat → AV → R) : R := argK e fail x fun x => argK e fail y fun y => match x, y with
    | .lit (.int q a), .lit (.int _ b) => k d (.lit (.int q (if b > a then b else a)))
    | _, _ => fail
def vK_minI (d : Nat) (x : MArg) (y : MArg) (k : Nat → AV → R) : R := argK e fail x fun x => argK e fail y fun y => match x, y with
    | .lit (.int q a), .lit (.int _ b) => k d (.lit (.int q (if b < a then b else a)))
    | _, _ => fail
def vK_nilchk (d : Nat) (x : MArg) (k : Nat → AV → R) : R := argK e fail x fun x => match x with
    | .ref cs => k d (.ref cs)
    | .mref b o => k d (.mref b o)
    | _ => fail
def vK_slcHi (d : Nat) (x : MArg) (hi : MArg) (sz : Nat) (k : Nat → AV → R) : R := argK e fail x fun x => argK e fail hi fun hi => match x, hi with
    | .slice sz' xs _, .lit (.int _ n) => bif (Nat.beq sz' sz || xs.isEmpty) && inR' n xs.length then fL (xs.take n.toNat) fun xs => k d (.slice sz xs 0) else fail
    | _, _ => fail
def vK_slcLo (d : Nat) (x : MArg) (lo : MArg) (sz : Nat) (k : Nat → AV → R) : R := argK e fail x fun x => argK e fail lo fun lo => match x, lo with
    | .slice sz' xs _, .lit (.int _ n) => bif (Nat.beq sz' sz || xs.isEmpty) && inR' n xs.length then fL (xs.drop n.toNat) fun xs => k d (.slice sz xs 0) else fail
    | _, _ => fail
def vK_strLo (d : Nat) (x : MArg) (lo : MArg) (k : Nat → AV → R) : R := argK e fail x fun x => argK e fail lo fun lo => match x, lo with
    | .lit (.string u), .lit (.int _ n) => bif inR' n u.size then k d (.lit (.string (u.extract n.toNat u.size))) else fail
    | _, _ => fail
def vK_mkfn (d : Nat) (fn : Fn) (a : List MArg) (b : List MArg) (k : Nat → AV → R) : R := bif belowF 0 fn then argsK e fail a fun a => argsK e fail b fun b => k d (.func fn a b) else fail

/-- The slot and the value of an operation that only looks. -/
def valK (m : MOp) (k : Nat → AV → R) : R := match m with
  | .cpy d x => vK_cpy e fail d x k
  | .cpyE d x => vK_cpyE e fail d x k
  | .cpyS d x => vK_cpyS e fail d x k
  | .boxI d x n => vK_boxI e fail d x n k
  | .load d x n => vK_load e fail d x n k
  | .loadI d x n => vK_loadI e fail d x n k
  | .addr d x off => vK_addr e fail d x off k
  | .idxS d x i sz => vK_idxS e fail d x i sz k
  | .idxA d x i len sz => vK_idxA e fail d x i len sz k
  | .fld d x off n => vK_fld e fail d x off n k
  | .idxV d x i len sz n => vK_idxV e fail d x i len sz n k
  | .idxStr d x i => vK_idxStr e fail d x i k
  | .len d x => vK_len e fail d x k
  | .lenStr d x => vK_lenStr e fail d x k
  | .lenK d n => k d (.lit (.int .i64 n))
  | .bin d op x y => vK_bin e fail d op x y k
  | .binB d neg x y => vK_binB e fail d neg x y k
  | .build d z ps => vK_build e fail d z ps k
  | .binA d neg n x y => vK_binA e fail d neg n x y k
  | .not d x => vK_not e fail d x k
  | .neg d x => vK_neg e fail d x k
  | .conv d q x => vK_conv e fail d q x k
  | .pick d c x y => vK_pick e fail d c x y k
  | .ext d x i => vK_ext e fail d x i k
  | .maxI d x y => vK_maxI e fail d x y k
  | .minI d x y => vK_minI e fail d x y k
  | .nilchk d x => vK_nilchk e fail d x k
  | .slcHi d x hi sz => vK_slcHi e fail d x hi sz k
  | .slcLo d x lo sz => vK_slcLo e fail d x lo sz k
  | .strLo d x lo => vK_strLo e fail d x lo k
  | .mkfn d fn a b => vK_mkfn e fail d fn a b k
  | _ => fail
end

section
variable {R : Type} {e : ES} {fail t : R} {ρ : Nat → Nat} {s : St}

theorem cond_ok {b : Bool} {x : R} (h : (bif b then x else fail) = t) (ht : t ≠ fail) : b = true ∧ x = t := by
  cases b with
  | true => exact ⟨rfl, h⟩
  | false => exact absurd h.symm ht

theorem argK_ok {a : MArg} {k : AV → R} (h : argK e fail a k = t) (ht : t ≠ fail) (hr : Rel ρ e s) : ∃ x, a.ev s.env = ren ρ x ∧ below e.nx x = true ∧ k x = t := by
  cases a with
  | t n =>
    obtain ⟨h1, h2⟩ := cond_ok h ht
    have hn : n < gS := by simp only [gS]; exact Nat.lt_of_succ_le (by simpa [Nat.blt] using h1)
    exact ⟨_, hr.env n hn, hr.bnd n, h2⟩
  | c x =>
    obtain ⟨h1, h2⟩ := cond_ok h ht
    exact ⟨x, (ren_id h1).symm, below_mono (Nat.zero_le _) x h1, h2⟩

theorem argsK_ok (ht : t ≠ fail) (hr : Rel ρ e s) : ∀ {as : List MArg} {k : List AV → R}, argsK e fail as k = t →
    ∃ xs, (as.map fun x => (x.ev s.env).erase) = xs.map (ren ρ) ∧ belowL e.nx xs = true ∧ k xs = t
  | [], k, h => ⟨[], rfl, rfl, h⟩
  | a :: as, k, h => by
    obtain ⟨x, h1, h2, h3⟩ := argK_ok h ht hr
    rw [eK_eq] at h3
    obtain ⟨xs, h4, h5, h6⟩ := argsK_ok ht hr h3
    exact ⟨x.erase :: xs, by simp only [List.map_cons, h1, ren_erase, h4], by simp only [belowL, below_erase h2, h5, Bool.and_self], h6⟩

theorem partE_ok {cs : List AV} {off : Nat} {n : Option Nat} {k : AV → R} (h : partE fail cs off n k = t) (ht : t ≠ fail) (hb : belowL e.nx cs = true) :
    ∃ v, below e.nx v = true ∧ k v = t ∧ ∀ K : AV → Prop, K (ren ρ v) → partK (cs.map (ren ρ)) off n K := by
  cases n with
  | none =>
    obtain ⟨h1, h2⟩ := cond_ok h ht
    have hlt : off < cs.length := Nat.lt_of_succ_le (by simpa [Nat.blt] using h1)
    exact ⟨_, below_getD off hb, h2, fun K hK => ⟨by simpa using hlt, by rw [ren_getD]; exact hK⟩⟩
  | some n =>
    obtain ⟨h1, h2⟩ := cond_ok h ht
    rw [fL_eq] at h2
    refine ⟨_, ?_, h2, fun K hK => ⟨by simpa using h1, ?_⟩⟩
    · simp only [below]; exact belowL_e0 (belowL_take _ (belowL_drop _ hb))
    · have e1 : (AV.agg (((cs.map (ren ρ)).drop off).take n)).erase = ren ρ (.agg (((cs.drop off).take n).map AV.erase0)) := by
        simp only [AV.erase, ren, renL_map, ← List.map_drop, ← List.map_take, ren_mapE0]
      rw [e1]; exact hK

theorem fillE_ok (ht : t ≠ fail) (hr : Rel ρ e s) : ∀ {ps : List (Nat × Nat × MArg)} {cs : List AV} {k : List AV → R}, fillE e fail cs ps k = t → belowL e.nx cs = true →
    ∃ v, belowL e.nx v = true ∧ k v = t ∧ ∀ K : List AV → Prop, K (v.map (ren ρ)) → fillK s.env (cs.map (ren ρ)) ps K
  | [], cs, k, h, hb => ⟨cs, hb, h, fun K hK => hK⟩
  | (off, n, x) :: ps, cs, k, h, hb => by
    obtain ⟨x', h1, h2, h3⟩ := argK_ok h ht hr
    obtain ⟨h4, h5⟩ := cond_ok h3 ht
    simp only [Bool.and_eq_true, Nat.ble_eq] at h4
    rw [fL_eq] at h5
    obtain ⟨v, g1, g2, g3⟩ := fillE_ok ht hr h5 (belowL_splice _ _ _ hb (belowL_e0 (below_cells h2)))
    refine ⟨v, g1, g2, fun K hK => ⟨by rw [h1, ren_cells]; simpa using h4.1, by simpa using h4.2, ?_⟩⟩
    rw [h1, ren_cells, ren_mapE0, ren_splice]
    exact g3 K hK

end
end Go.Avm
