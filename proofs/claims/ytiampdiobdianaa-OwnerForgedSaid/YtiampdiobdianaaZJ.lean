/- Contracts of the reference: Both. Contracts of the reference: Without. Contracts of the reference: Lists, Forged; Same. -/
import Derived.Test.YtiampdiobdianaaZI
namespace Go.Proofs.Ytiampdiobdianaa
open Go.Avm

theorem selT_lt (q : Nat → Bool) (n : Nat) : (selT q n).Pairwise (· < ·) := by
  unfold selT
  rw [List.pairwise_map]
  exact (List.pairwise_lt_range.filter q).imp fun h => by omega
theorem selT_get_lt {q : Nat → Bool} {n i j : Nat} (hij : i < j) (hj : j < (selT q n).length) : (selT q n)[i]'(by omega) < (selT q n)[j] := List.pairwise_iff_getElem.1 (selT_lt q n) i j (by omega) hj hij
end Go.Proofs.Ytiampdiobdianaa

namespace Go.Proofs.Ytiampdiobdianaa
open Go.Avm

def inL (l : List Int) (i : Nat) : Bool := decide ((i : Int) ∈ l)
def ixR (p : Nat → Bool) (k : Nat) (j : Nat) : Int := if j < k ∧ p j = false then keptN p j else 0
structure WR (c : Case) (out : List Int) (p : Nat → Bool) (b2 b4 b5 k : Nat) (s : St) : Prop where
  e : s.env 1 = IL out ∧ s.env 2 = .mref b2 0 ∧ s.env 4 = .mref b4 0 ∧ s.env 5 = .mslice b5 0 c.marks.length c.marks.length 1 ∧ s.env 6 = .slice 4 ((wUp c.marks p k).map encMark) 7 ∧ s.env 7 = I k
  l2 : s.loc b2 = some (caseCells c)
  l4 : s.loc b4 = some [I 0, I 0, .slice 3 [] 5002, .slice 4 [] 5003, .slice 3 [] 5004]
  l5 : s.loc b5 = some (cl c.marks.length (ixR p k))

theorem without48_ok {c : Case} (h : c.OK) (out : List Int) : PCall Try.prog 48 [encCase c, IL out] (encCase (withoutC c (inL out))) := by
  refine pcall Try.func48 tr48 rs48 fn48 (by simp [Try.ntmps48]) fun _ => ?_
  have hm9 := h.marksLen
  obtain ⟨p, hpp⟩ : ∃ p, p = inL out := ⟨_, rfl⟩
  rw [← hpp]
  have hres : encCase (withoutC c p) = .agg [I c.printed, I c.now, .slice 3 (c.owners.map encOwner) 0, .slice 4 ((wUp c.marks p c.marks.length).map encMark) 0, .slice 3 (c.sales.map encSale) 0] := rfl
  rw [hres]
  have hp : ∀ k : Nat, decide ((k : Int) ∈ out) = p k := fun _ => by rw [hpp]; rfl
  simp -implicitDefEqProofs only [m48]
  refine cutS (fun st => st.env 1 = IL out ∧ ∃ b2 b4, st.env 2 = .mref b2 0 ∧ st.loc b2 = some (caseCells c) ∧ st.env 4 = .mref b4 0 ∧ st.loc b4 = some [I 0, I 0, .slice 3 [] 5002, .slice 4 [] 5003, .slice 3 [] 5004] ∧ b2 ≠ b4) ?_ ?_
  · intro k hk
    simp -implicitDefEqProofs
    intro b2 b4 h4
    have h24 : ¬ b2 = b4 := by rintro rfl; simp at h4
    exact hk _ ⟨by simp, b2, b4, by simp, by simp [h24], by simp, by simp, h24⟩
  rintro s ⟨e1, b2, b4, e2, l2, e4, l4, h24⟩
  have h42 : ¬ b4 = b2 := fun e => h24 e.symm
  refine cutS (fun st => st.env 1 = IL out ∧ st.env 2 = .mref b2 0 ∧ st.loc b2 = some (caseCells c) ∧ st.env 4 = .mref b4 0 ∧ st.loc b4 = some [I 0, I 0, .slice 3 [] 5002, .slice 4 [] 5003, .slice 3 [] 5004] ∧ ∃ b5, st.env 5 = .mslice b5 0 c.marks.length c.marks.length 1 ∧ st.loc b5 = some (cl c.marks.length fun _ => 0) ∧ b5 ≠ b2 ∧ b5 ≠ b4) ?_ ?_
  · intro k hk
    simp -implicitDefEqProofs [e2, l2]
    refine ⟨by omega, by omega, fun b hb => ?_⟩
    have h2b : ¬ b2 = b := by rintro rfl; rw [l2] at hb; cases hb
    have h4b : ¬ b4 = b := by rintro rfl; rw [l4] at hb; cases hb
    refine hk _ ⟨by simp [e1], by simp [e2], by simp [l2, h2b], by simp [e4], by simp [l4, h4b], b, by simp, ?_, fun e => h2b e.symm, fun e => h4b e.symm⟩
    rw [← rep_cl]
    simp
  rintro s ⟨e1, e2, l2, e4, l4, b5, e5, l5, h52, h54⟩
  have h25 : ¬ b2 = b5 := fun e => h52 e.symm
  have h45 : ¬ b4 = b5 := fun e => h54 e.symm
  refine cutS (fun st => st.env 1 = IL out ∧ st.env 2 = .mref b2 0 ∧ st.loc b2 = some (caseCells c) ∧ st.env 4 = .mref b4 0 ∧ st.loc b4 = some [I 0, I 0, .slice 3 [] 5002, .slice 4 [] 5003, .slice 3 [] 5004] ∧ st.env 5 = .mslice b5 0 c.marks.length c.marks.length 1 ∧ st.loc b5 = some (cl c.marks.length fun _ => 0) ∧ st.env 6 = .slice 4 [] 7) ?_ ?_
  · intro k hk
    simp -implicitDefEqProofs
    exact hk _ (by simp [e1, e2, l2, e4, l4, e5, l5, cl_dem])
  rintro s ⟨e1, e2, l2, e4, l4, e5, l5, e6⟩
  refine cutS (fun st => WR c out p b2 b4 b5 c.marks.length st) ?_ ?_
  · intro k0 hk0
    simp -implicitDefEqProofs
    refine loop_up c.marks.length (fun k st => WR c out p b2 b4 b5 k st) ?_ ?_
    · have h0 : ixR p 0 = fun _ => 0 := by funext j; simp [ixR]
      exact ⟨by simp [e1, e2, e4, e5, e6, wUp], by simp [l2], by simp [l4], by rw [h0]; simp [l5]⟩
    rintro k s hk hJ
    obtain ⟨e1, e2, e4, e5, e6, e7⟩ := hJ.e
    have l2 := hJ.l2
    have l4 := hJ.l4
    have l5 := hJ.l5
    simp -implicitDefEqProofs [e2, e7, l2]
    refine cond_dec (fun hlt => ?_) (fun hge => ?_)
    · have hlt : k < c.marks.length := by omega
      have hup := h.upon k hlt
      have hsuc : wUp c.marks p (k + 1) = wUp c.marks p k ++ if p k then [] else [fixM p c.marks[k]] := by
        show _ ++ _ = _
        rw [mk_at hlt]
      have hlen := wUp_len c.marks p k
      have hkn := keptN_le p k
      have hpk := hp k
      have hpu : ∀ v : Nat, decide ((v : Int) ∈ out) = p v := hp
      generalize hm : c.marks[k] = m at *
      refine stepB ?_
      cases hpc : p k with
      | true =>
        rw [hpc] at hpk
        rw [hpc, if_pos rfl, List.append_nil] at hsuc
        have hix : ixR p k = ixR p (k + 1) := by
          funext j
          unfold ixR
          by_cases e : j = k
          · subst e; rw [if_neg (by omega), if_neg (by rw [hpc]; simp)]
          · by_cases e2 : j < k ∧ p j = false
            · rw [if_pos e2, if_pos ⟨by omega, e2.2⟩]
            · rw [if_neg e2, if_neg (by intro e3; exact e2 ⟨by omega, e3.2⟩)]
        simp -implicitDefEqProofs [e1, e7]
        refine vCall_of (has_ok out k) ?_
        rw [hpk]
        simp -implicitDefEqProofs [e7]
        refine ⟨i64 (by omega) (by omega), round_ok hlt ⟨?_, by simp [l2], by simp [l4], by rw [← hix]; simp [l5]⟩⟩
        rw [hsuc]
        simp [e1, e2, e4, e5, e6]
      | false =>
        rw [hpc] at hpk
        rw [hpc] at hsuc
        simp only [Bool.false_eq_true, if_false] at hsuc
        have hix : cl c.marks.length (fun j => if j = k then (keptN p k : Int) else ixR p k j) = cl c.marks.length (ixR p (k + 1)) := cl_congr fun g _ => by
          unfold ixR
          by_cases e : g = k
          · subst e; rw [if_pos rfl, if_pos ⟨by omega, hpc⟩]
          · rw [if_neg e]
            by_cases e2 : g < k ∧ p g = false
            · rw [if_pos e2, if_pos ⟨by omega, e2.2⟩]
            · rw [if_neg e2, if_neg (by intro e3; exact e2 ⟨by omega, e3.2⟩)]
        refine cutS (fun st => st.env 1 = IL out ∧ st.env 2 = .mref b2 0 ∧ st.env 4 = .mref b4 0 ∧ st.env 5 = .mslice b5 0 c.marks.length c.marks.length 1 ∧ st.env 6 = .slice 4 ((wUp c.marks p k).map encMark) 7 ∧ st.env 7 = I k ∧ st.loc b2 = some (caseCells c) ∧ st.loc b4 = some [I 0, I 0, .slice 3 [] 5002, .slice 4 [] 5003, .slice 3 [] 5004] ∧ st.loc b5 = some (cl c.marks.length (ixR p k))) ?_ ?_
        · intro k1 hk1
          simp -implicitDefEqProofs [e1, e7]
          refine vCall_of (has_ok out k) ?_
          rw [hpk]
          simp -implicitDefEqProofs
          exact hk1 _ (by simp [e1, e2, e4, e5, e6, e7, l2, l4, l5])
        rintro s ⟨e1, e2, e4, e5, e6, e7, l2, l4, l5⟩
        refine cutS (fun st => st.env 1 = IL out ∧ st.env 2 = .mref b2 0 ∧ st.env 4 = .mref b4 0 ∧ st.env 5 = .mslice b5 0 c.marks.length c.marks.length 1 ∧ st.env 6 = .slice 4 ((wUp c.marks p k).map encMark) 7 ∧ st.env 7 = I k ∧ st.loc b2 = some (caseCells c) ∧ st.loc b4 = some [I 0, I 0, .slice 3 [] 5002, .slice 4 [] 5003, .slice 3 [] 5004] ∧ st.loc b5 = some (cl c.marks.length (ixR p (k + 1)))) ?_ ?_
        · intro k1 hk1
          simp -implicitDefEqProofs [e5, e6, e7, hlt, l5, cl_len, cl_set, hlen, hix]
          repeat refine ⟨by omega, ?_⟩
          exact hk1 _ (by simp [e1, e2, e4, e5, e6, e7, l2, l4, h25, h45])
        rintro s ⟨e1, e2, e4, e5, e6, e7, l2, l4, l5⟩
        refine cutS (fun st => st.env 1 = IL out ∧ st.env 2 = .mref b2 0 ∧ st.env 4 = .mref b4 0 ∧ st.env 5 = .mslice b5 0 c.marks.length c.marks.length 1 ∧ st.env 6 = .slice 4 ((wUp c.marks p k).map encMark) 7 ∧ st.env 7 = I k ∧ st.loc b2 = some (caseCells c) ∧ st.loc b4 = some [I 0, I 0, .slice 3 [] 5002, .slice 4 [] 5003, .slice 3 [] 5004] ∧ st.loc b5 = some (cl c.marks.length (ixR p (k + 1))) ∧
            ∃ b8, st.env 8 = .mref b8 0 ∧ st.loc b8 = some [I m.owner, I m.lo, I m.hi, I m.upon] ∧ b8 ≠ b2 ∧ b8 ≠ b4 ∧ b8 ≠ b5) ?_ ?_
        · intro k1 hk1
          simp -implicitDefEqProofs [e2, e7, hlt, l2, hm]
          intro b hb
          have h2b : ¬ b2 = b := by rintro rfl; rw [l2] at hb; cases hb
          have h4b : ¬ b4 = b := by rintro rfl; rw [l4] at hb; cases hb
          have h5b : ¬ b5 = b := by rintro rfl; rw [l5] at hb; cases hb
          exact hk1 _ ⟨by simp [e1], by simp [e2], by simp [e4], by simp [e5], by simp [e6], by simp [e7], by simp [l2, h2b], by simp [l4, h4b], by simp [l5, h5b], b, by simp, by simp, fun e => h2b e.symm, fun e => h4b e.symm, fun e => h5b e.symm⟩
        rintro s ⟨e1, e2, e4, e5, e6, e7, l2, l4, l5, b8, e8, l8, h82, h84, h85⟩
        have h28 : ¬ b2 = b8 := fun e => h82 e.symm
        have h48 : ¬ b4 = b8 := fun e => h84 e.symm
        have h58 : ¬ b5 = b8 := fun e => h85 e.symm
        obtain ⟨u, hu⟩ : ∃ u, u = (fixM p m).upon := ⟨_, rfl⟩
        refine cutS (fun st => st.env 1 = IL out ∧ st.env 2 = .mref b2 0 ∧ st.env 4 = .mref b4 0 ∧ st.env 5 = .mslice b5 0 c.marks.length c.marks.length 1 ∧ st.env 6 = .slice 4 ((wUp c.marks p k).map encMark) 7 ∧ st.env 7 = I k ∧ st.loc b2 = some (caseCells c) ∧ st.loc b4 = some [I 0, I 0, .slice 3 [] 5002, .slice 4 [] 5003, .slice 3 [] 5004] ∧ st.loc b5 = some (cl c.marks.length (ixR p (k + 1))) ∧ st.env 8 = .mref b8 0 ∧ st.loc b8 = some [I m.owner, I m.lo, I m.hi, I u]) ?_ ?_
        · intro k1 hk1
          by_cases hm1 : m.upon = -1
          · have hm2 : (m.upon != -1) = false := by simp [hm1]
            have huu : u = m.upon := by rw [hu]; unfold fixM; simp [hm1]
            simp -implicitDefEqProofs [e8, l8, hm2]
            exact hk1 _ (by simp [e1, e2, e4, e5, e6, e7, e8, l2, l4, l5, l8, huu])
          · have hm2 : (m.upon != -1) = true := by simp [hm1]
            obtain ⟨v, hv⟩ : ∃ v : Nat, m.upon = v := ⟨m.upon.toNat, by omega⟩
            have huu : u = newIx p v := by rw [hu]; unfold fixM; rw [if_neg hm1, hv, Int.toNat_natCast]
            rw [hv] at hm2
            have hpv := hpu v
            have hvl : v < c.marks.length := by omega
            simp -implicitDefEqProofs [e1, e8, l8, hv, hm2]
            refine vCall_of (has_ok out v) ?_
            rw [hpv]
            cases hpvc : p v with
            | true =>
              have hu1 : u = -1 := by rw [huu]; unfold newIx; rw [hpvc]; rfl
              simp -implicitDefEqProofs [e8, l8]
              exact hk1 _ (by simp [e1, e2, e4, e5, e6, e7, e8, l2, l4, l5, hu1, h28, h48, h58])
            | false =>
              have hu1 : u = keptN p v := by rw [huu]; unfold newIx; rw [hpvc]; rfl
              have hat := cl_at (n := c.marks.length) (ixR p (k + 1)) (g := v) (by rw [cl_len]; exact hvl)
              have hix2 : ixR p (k + 1) v = u := by unfold ixR; rw [if_pos ⟨by omega, hpvc⟩, hu1]
              rw [hix2] at hat
              simp -implicitDefEqProofs [e5, e8, l8, hm2, hv, l5, cl_len, hvl, hat]
              exact hk1 _ (by simp [e1, e2, e4, e5, e6, e7, e8, l2, l4, l5, h28, h48, h58])
        rintro s ⟨e1, e2, e4, e5, e6, e7, l2, l4, l5, e8, l8⟩
        have hfix : encMark (fixM p m) = .agg [I m.owner, I m.lo, I m.hi, I u] := by rw [hu]; rfl
        generalize wUp c.marks p k = W at *
        simp -implicitDefEqProofs [e6, e8, l8]
        refine ⟨by omega, by omega, ?_⟩
        simp -implicitDefEqProofs [e7]
        refine ⟨i64 (by omega) (by omega), round_ok hlt ⟨?_, by simp [l2], by simp [l4], by simp [l5, cl_dem]⟩⟩
        rw [hsuc]
        simp [e1, e2, e4, e5, hfix]
    · obtain rfl : k = c.marks.length := by omega
      simp -implicitDefEqProofs
      exact hk0 _ ⟨by simp [e1, e2, e4, e5, e6, e7], by simp [l2], by simp [l4], by simp [l5]⟩
  rintro s hJ
  obtain ⟨e1, e2, e4, e5, e6, e7⟩ := hJ.e
  have l2 := hJ.l2
  have l4 := hJ.l4
  generalize wUp c.marks p c.marks.length = W at *
  simp -implicitDefEqProofs [e2, e4, e6, l2, l4, h42, r48]
end Go.Proofs.Ytiampdiobdianaa

namespace Go.Proofs.Ytiampdiobdianaa
open Go.Avm

theorem inL_mask {n : Nat} (hn : n ≤ 8) {l : List Int} (hl : l ∈ enumL n) : inL l = fun i => (maskOf l).testBit i := by
  have h2 := List.all_eq_true.1 (List.all_eq_true.1 enum_mask n (by simp; omega)) l hl
  simp only [Bool.and_eq_true, decide_eq_true_eq] at h2
  obtain ⟨h1, h2⟩ := h2
  have hp : 2 ^ n ≤ 256 := Nat.le_trans (Nat.pow_le_pow_right (by omega) hn) (by decide)
  funext i
  unfold inL
  conv => lhs; rw [← h2]
  unfold bitsL
  rw [Bool.eq_iff_iff, decide_eq_true_eq, mem_selT]
  constructor
  · exact fun h => h.2
  · intro h
    refine ⟨?_, h⟩
    apply Decidable.byContradiction
    intro hi
    rw [Nat.testBit_lt_two_pow (Nat.lt_of_lt_of_le (m := 2 ^ 8) (by omega) (Nat.pow_le_pow_right (by omega) (by omega)))] at h
    cases h
end Go.Proofs.Ytiampdiobdianaa
