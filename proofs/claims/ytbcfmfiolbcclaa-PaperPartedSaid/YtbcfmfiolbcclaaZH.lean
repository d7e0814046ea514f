/- Contracts of the reference: what agrees, all truths, their orders. Contracts of the reference: all truths, their orders. Contracts of the reference: Orders and Before. Contracts of the reference: Both and Stocks. Contracts of the reference: Left, Latest and Year. Contracts of the reference: Lists and Off. Contracts of the reference: More, Worst and Ask. -/
import Derived.Test.YtbcfmfiolbcclaaZG
namespace Go.Proofs.Ytbcfmfiolbcclaa
open Go.Avm

/-- Whether one thing seen agrees, but for some of these. -/
def agrAtUp (c : Case) (pl : List (List Int)) (o : List Int) (i k : Nat) : Bool :=
  (List.range k).all fun q => !decide (o.getD q 0 = (c.seen.getD i (-1, 0)).1) || decide ((c.seen.getD i (-1, 0)).2 ∈ pl.getD q [])
def agrAt (c : Case) (but : List Int) (pl : List (List Int)) (o : List Int) (i : Nat) : Bool := decide ((i : Int) ∈ but) || agrAtUp c pl o i o.length
def agrUp (c : Case) (but : List Int) (pl : List (List Int)) (o : List Int) (k : Nat) : Bool := (List.range k).all (agrAt c but pl o)
def agrB (c : Case) (but : List Int) (pl : List (List Int)) (o : List Int) : Bool := agrUp c but pl o c.seen.length
end Go.Proofs.Ytbcfmfiolbcclaa

namespace Go.Proofs.Ytbcfmfiolbcclaa
open Go.Avm

def truROf (c : Case) (p : List Int) (l : List (List Int)) : List (List Int × List Int) := (l.filter (agrB c [] (placesL c p))).map fun o => (p, o)
def truROn (c : Case) (l : List (List Int)) : List (List Int × List Int) := l.flatMap fun p => truROf c p (ordersL c)
def truR (c : Case) : List (List Int × List Int) := truROn c (pilesL c)
theorem placesL_len (c : Case) (p : List Int) : (placesL c p).length = c.gath.toNat := by simp [placesL, placesUp]

end Go.Proofs.Ytbcfmfiolbcclaa

namespace Go.Proofs.Ytbcfmfiolbcclaa
open Go.Avm

end Go.Proofs.Ytbcfmfiolbcclaa

namespace Go.Proofs.Ytbcfmfiolbcclaa
open Go.Avm

def hasAt (c : Case) (g : Int) (s : Nat) (x : List Int × List Int) : Bool := decide ((s : Int) ∈ (placesL c x.1).getD (at' x.2 g).toNat [])
def manyN (c : Case) (g : Int) (s : Nat) (l : List (List Int × List Int)) : Nat := (l.filter (hasAt c g s)).length
def sureQ (c : Case) (l : List (List Int × List Int)) (g : Int) (s : Nat) : Bool := decide (manyN c g s l = l.length)
def mayQ (c : Case) (l : List (List Int × List Int)) (g : Int) (s : Nat) : Bool := decide (0 < manyN c g s l)
def sureR (c : Case) (l : List (List Int × List Int)) (g : Int) : List Int := selT (sureQ c l g) c.stocks.length
def mayR (c : Case) (l : List (List Int × List Int)) (g : Int) : List Int := selT (mayQ c l g) c.stocks.length

theorem mem_truR {c : Case} {x : List Int × List Int} : x ∈ truR c ↔ x.1 ∈ pilesL c ∧ x.2 ∈ ordersL c ∧ agrB c [] (placesL c x.1) x.2 = true := by
  obtain ⟨p, o⟩ := x
  simp only [truR, truROn, truROf, List.mem_flatMap, List.mem_map, List.mem_filter, Prod.mk.injEq]
  constructor
  · rintro ⟨p', h1, o', ⟨h2, h3⟩, rfl, rfl⟩; exact ⟨h1, h2, h3⟩
  · rintro ⟨h1, h2, h3⟩; exact ⟨p, h1, o, ⟨h2, h3⟩, rfl, rfl⟩

/-- A span with one more number. -/
def withS (s : Int × Int) (n : Int) : Int × Int := if s.2 < s.1 then (n, n) else (min s.1 n, max s.2 n)
end Go.Proofs.Ytbcfmfiolbcclaa

namespace Go.Proofs.Ytbcfmfiolbcclaa
open Go.Avm

/-- The latest of some years of stocks, from one on. -/
def latG (f : Stock → Int) (c : Case) (l : List Int) (a : Int) : Int := l.foldl (fun a i => max a ((c.stocks.map f).getD i.toNat 0)) a
def latF (f : Stock → Int) (c : Case) (pl : List (List Int)) : Int := pl.foldl (fun a l => latG f c l a) 0
theorem placesL_each {c : Case} (h : c.OK) (p : List Int) : (placesL c p).length ≤ 5 ∧ ∀ l ∈ placesL c p, l.length ≤ 4 ∧ ∀ x ∈ l, 0 ≤ x ∧ x < c.stocks.length := by
  have hg := h.gath
  have hs := h.stocks
  refine ⟨by rw [placesL_len]; omega, fun l hl => ?_⟩
  unfold placesL placesUp at hl
  obtain ⟨k, -, rfl⟩ := List.mem_map.1 hl
  refine ⟨Nat.le_trans (stocksAt_len _ _ _ _) hs.2, fun x hx => ?_⟩
  unfold stocksAt at hx
  obtain ⟨j, hj, rfl⟩ := List.mem_map.1 hx
  have := List.mem_range.1 (List.mem_filter.1 hj).1
  omega

end Go.Proofs.Ytbcfmfiolbcclaa

namespace Go.Proofs.Ytbcfmfiolbcclaa
open Go.Avm

end Go.Proofs.Ytbcfmfiolbcclaa

namespace Go.Proofs.Ytbcfmfiolbcclaa
open Go.Avm

end Go.Proofs.Ytbcfmfiolbcclaa

