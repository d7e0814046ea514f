/- The chain of an order: the program's solve. All orders, handed over one by one: the program's iterator. All orders that have a chain, with it: the program's iterator. Contracts: Chain and Why, of the program. Contracts: Before, of the program. Contracts: clones of marks; whether a mark can have been made in a year. Contracts: who can have owned the copy in a year; the years of a mark: the program's. -/
import Derived.Test.YtiampdiobdianaaZE
import Derived.Test.YtiampdiobdianaaZD
namespace Go.Proofs.Ytiampdiobdianaa
open Go.Avm

def OrdV (s : St) (v : AV) (order : List Int) : Prop := v = IL order ∨ ∃ d cap cs, v = .mslice d 0 order.length cap 1 ∧ s.loc d = some cs ∧ LentOK (IL order) 0 1 order.length cap cs
structure Old (s0 s : St) : Prop where
  l : ∀ c cs, s0.loc c = some cs → cs.map AV.erase0 = cs → s.loc c = some cs
  g : ∀ l es q, s0.env 1000000 = .ghost l es q → s.env 1000000 = .ghost l es q
theorem Old.ext {s0 s s' : St} (h : Old s0 s) (he : s'.env 1000000 = s.env 1000000) (hl : ∀ c, s.loc c ≠ none → s'.loc c = s.loc c) : Old s0 s' :=
  ⟨fun c cs h1 h2 => by rw [hl c (by rw [h.l c cs h1 h2]; simp)]; exact h.l c cs h1 h2, fun l es q hg => by rw [he]; exact h.g l es q hg⟩
theorem Old.dem {s0 s : St} (h : Old s0 s) (r : Nat) : Old s0 (s.dem r) :=
  ⟨fun c cs h1 h2 => by rw [loc_dem, h.l c cs h1 h2, Option.map_some, dem_row h2], fun l es q hg => by rw [env_dem, h.g l es q hg]; rfl⟩
def NewB (s0 : St) (b : Nat) : Prop := ∀ cs, s0.loc b = some cs → cs.map AV.erase0 ≠ cs
theorem Old.new {s0 s : St} (h : Old s0 s) {b : Nat} (hb : s.loc b = none) : NewB s0 b := fun cs h1 h2 => by rw [h.l b cs h1 h2] at hb; cases hb
theorem Old.put {s0 s s' : St} (h : Old s0 s) (he : s'.env 1000000 = s.env 1000000) {b : Nat} (hb : NewB s0 b) (hl : ∀ c, c ≠ b → s'.loc c = s.loc c) : Old s0 s' :=
  ⟨fun c cs h1 h2 => by
    rw [hl c (by rintro rfl; exact hb cs h1 h2)]; exact h.l c cs h1 h2, fun l es q hg => by rw [he]; exact h.g l es q hg⟩
theorem OrdV.old {s0 s : St} {v : AV} {order : List Int} (h : OrdV s0 v order) (ho : Old s0 s) : OrdV s v order := by
  rcases h with h | ⟨d, cap, cs, h1, h2, h3⟩
  · exact .inl h
  · exact .inr ⟨d, cap, cs, h1, ho.l d cs h2 h3.2.2.2.2.2, h3⟩
theorem OrdV.view {s : St} {v : AV} {order : List Int} (h : OrdV s v order) : viewAV s.loc v = some (IL order) := by
  rcases h with rfl | ⟨d, cap, cs, rfl, h2, h3, h4, h5, h6, h7, h8⟩
  · rfl
  · show (match s.loc d with | some cs => _ | none => _) = _
    rw [h2]
    have h3' : IL order = .slice 1 (chunk 1 cs order.length) 0 := h3
    simp only [Nat.zero_add, h4, h6, h7, decide_true, Bool.and_self, if_true, List.drop_zero]
    rw [← h3']
theorem OrdV.views {s : St} {v : AV} {order : List Int} {c : Case} (h : OrdV s v order) : viewsAV s.loc ([titleRef c] ++ [v.erase] ++ []) = some [titleRef c, IL order] := by
  have e : v.erase = v := by rcases h with rfl | ⟨d, cap, cs, rfl, _⟩ <;> rfl
  rw [e]
  show (match viewAV s.loc (titleRef c), (match viewAV s.loc v, some [] with | some y, some ys => some (y :: ys) | _, _ => none) with | some y, some ys => some (y :: ys) | _, _ => none) = _
  rw [h.view]
  rfl

def HS (s0 : St) (b4 b8 : Nat) (u : Int) (l : List Hold) (loc : Nat → Option (List AV)) : Prop :=
  (l = [] ∧ loc b4 = some [.lit (.slice none 0 0), I u]) ∨ ∃ hb cap cs, l ≠ [] ∧ loc b4 = some [.mslice hb 0 l.length cap 3, I u] ∧ loc hb = some cs ∧ HBlk cs l cap ∧ hb ≠ b4 ∧ hb ≠ b8 ∧ NewB s0 hb
structure SJ (c : Case) (s0 : St) (v : AV) (order : List Int) (b4 b8 i : Nat) (Y : Nat → Int) (u : Int) (l : List Hold) (s : St) : Prop where
  e : s.env 0 = titleRef c ∧ s.env 1 = v ∧ s.env 4 = .mref b4 0 ∧ s.env 8 = .mref b8 0 ∧ s.env 43 = v ∧ s.env 44 = I order.length ∧ s.env 45 = I i
  l8 : s.loc b8 = some (cl 9 Y)
  hs : HS s0 b4 b8 u l s.loc
  old : Old s0 s
theorem HS.ext {s0 : St} {b4 b8 : Nat} {u : Int} {l : List Hold} {loc loc' : Nat → Option (List AV)} (h : HS s0 b4 b8 u l loc) (hl : ∀ c, loc c ≠ none → loc' c = loc c) : HS s0 b4 b8 u l loc' := by
  rcases h with ⟨h1, h2⟩ | ⟨hb, cap, cs, h1, h2, h3, h4⟩
  · exact .inl ⟨h1, by rw [hl b4 (by rw [h2]; simp)]; exact h2⟩
  · exact .inr ⟨hb, cap, cs, h1, by rw [hl b4 (by rw [h2]; simp)]; exact h2, by rw [hl hb (by rw [h3]; simp)]; exact h3, h4⟩
theorem SJ.ext {c : Case} {s0 : St} {v : AV} {order : List Int} {b4 b8 i : Nat} {Y : Nat → Int} {u : Int} {l : List Hold} {s s' : St} (h : SJ c s0 v order b4 b8 i Y u l s)
    (he : ∀ k ∈ [0, 1, 4, 8, 43, 44, 45, 1000000], s'.env k = s.env k) (hl : ∀ c, s.loc c ≠ none → s'.loc c = s.loc c) : SJ c s0 v order b4 b8 i Y u l s' := by
  simp only [List.mem_cons, List.not_mem_nil, or_false, forall_eq_or_imp, forall_eq] at he
  obtain ⟨a0, a1, a4, a8, a43, a44, a45, ag⟩ := he
  obtain ⟨e0, e1, e4, e8, e43, e44, e45⟩ := h.e
  exact ⟨⟨a0.trans e0, a1.trans e1, a4.trans e4, a8.trans e8, a43.trans e43, a44.trans e44, a45.trans e45⟩, by rw [hl b8 (by rw [h.l8]; simp)]; exact h.l8, h.hs.ext hl, h.old.ext ag hl⟩

theorem HS.put {s0 : St} {b4 b8 : Nat} {u : Int} {l : List Hold} {loc loc' : Nat → Option (List AV)} (h : HS s0 b4 b8 u l loc) (hl : ∀ c, c ≠ b8 → loc' c = loc c) (h48 : b8 ≠ b4) : HS s0 b4 b8 u l loc' := by
  rcases h with ⟨h1, h2⟩ | ⟨hb, cap, cs, h1, h2, h3, h4, h5, h6, h7⟩
  · exact .inl ⟨h1, by rw [hl b4 (fun e => h48 e.symm)]; exact h2⟩
  · exact .inr ⟨hb, cap, cs, h1, by rw [hl b4 (fun e => h48 e.symm)]; exact h2, by rw [hl hb h6]; exact h3, h4, h5, h6, h7⟩
theorem SJ.years {c : Case} {s0 : St} {v : AV} {order : List Int} {b4 b8 i : Nat} {Y Y' : Nat → Int} {u : Int} {l : List Hold} {s s' : St} (h : SJ c s0 v order b4 b8 i Y u l s) (h48 : b8 ≠ b4) (n8 : NewB s0 b8)
    (he : ∀ k ∈ [0, 1, 4, 8, 43, 44, 45, 1000000], s'.env k = s.env k) (hl : ∀ c, c ≠ b8 → s'.loc c = s.loc c) (h8 : s'.loc b8 = some (cl 9 Y')) : SJ c s0 v order b4 b8 i Y' u l s' := by
  simp only [List.mem_cons, List.not_mem_nil, or_false, forall_eq_or_imp, forall_eq] at he
  obtain ⟨a0, a1, a4, a8, a43, a44, a45, ag⟩ := he
  obtain ⟨e0, e1, e4, e8, e43, e44, e45⟩ := h.e
  exact ⟨⟨a0.trans e0, a1.trans e1, a4.trans e4, a8.trans e8, a43.trans e43, a44.trans e44, a45.trans e45⟩, h8, h.hs.put hl h48, h.old.put ag n8 hl⟩

theorem ret64 {s0 s : St} {K : AV → St → Prop} {kn : St → Prop} {ke : Nat → St → Prop} {b4 b8 : Nat} {u : Int} {l : List Hold} {q : Bool} {a : Nat} (ha : a ≠ 4 ∧ a ≠ 5 ∧ a < 1000000) (e4 : s.env 4 = .mref b4 0) (hs : HS s0 b4 b8 u l s.loc) (hO : Old s0 s) (n4 : NewB s0 b4) (hl : l.length ≤ 1000)
    (hK : ∀ s2, Old s0 s2 → K (.tuple [.agg [HL l, I u], B q]) (back s0 s2)) :
    mwp Try.prog (.seq (.reg [.load a (.t 4) (some 2), .store (.t 4) (.t a) 2 0, .asg 5 (.c (.lit (.bool q))), .frz 4]) .ret) kn ke (fun s2 => resI s2 r64 fun r => K r (back s0 s2)) s := by
  obtain ⟨a1, a2, a3⟩ := ha
  have a1' : ¬ 4 = a := fun e => a1 e.symm
  have a2' : ¬ 5 = a := fun e => a2 e.symm
  have a4 : ¬ 1000000 = a := by omega
  rcases hs with ⟨rfl, l4⟩ | ⟨hb, cap, cs, hne, l4, lh, hbk, h4, h8, hn⟩
  · simp -implicitDefEqProofs [e4, l4, a1']
    refine .inl ⟨3, 0, rfl, ?_⟩
    simp -implicitDefEqProofs [resI, r64, a1', e4]
    refine hK _ ?_
    exact (hO.dem 5000).put (by simp [a4]) n4 (fun c hc => by simp [hc])
  · have hle := hbk.le
    have hlen := hbk.len
    simp -implicitDefEqProofs [e4, l4, a1']
    refine frz_box 0 hb l.length cap 3 rfl h4 (by simp [h4]; exact lh) (by omega) (num_cell1 hbk.num) (by omega) ?_
    rw [chunk_hcells l cs hbk.cells]
    have h4' : ¬ b4 = hb := fun e => h4 e.symm
    simp -implicitDefEqProofs [resI, r64, a1', e4, upd, h4']
    refine hK _ ⟨fun c cs' h1 h2 => ?_, fun l' es q' hg => ?_⟩
    · have c4 : ¬ c = b4 := by rintro rfl; exact n4 cs' h1 h2
      have ch : ¬ c = hb := by rintro rfl; exact hn cs' h1 h2
      simp [upd, c4, ch, hO.l c cs' h1 h2]
    · simp [a4, hO.g l' es q' hg]

theorem runUp_len {c : Case} {order : List Int} : ∀ (i : Nat) (x : Run), runUp c order i = some x → x.raw.length = i
  | 0, x, h => by injection h with h; rw [← h]; rfl
  | i + 1, x, h => by
    have h : (runUp c order i).bind (stepO c (order.getD i 0).toNat) = some x := h
    rw [Option.bind_eq_some_iff] at h
    obtain ⟨y, hy, h⟩ := h
    have ih := runUp_len i y hy
    unfold stepO at h
    rw [Option.bind_eq_some_iff] at h
    obtain ⟨z, -, h⟩ := h
    split at h
    · cases h
    · injection h with h; rw [← h]; simp [ih]

@[simp] theorem dem_mslice (r b off len cap sz : Nat) : demote r (.mslice b off len cap sz) = .mslice b off len cap sz := rfl
def rulesL (c : Case) : List AV := [.func (.func 92) [titleRef c] [], .func (.func 93) [titleRef c] [], .func (.func 94) [titleRef c] []]
theorem rulesL_len (c : Case) : (rulesL c).length = 3 := rfl
theorem solve64_ok {c : Case} (h : c.OK) {order : List Int} (ho : ∀ x ∈ order, 0 ≤ x ∧ x < c.owners.length) (hol : order.length ≤ 100) {s0 : St} {v : AV} (hv : OrdV s0 v order) {K : AV → St → Prop}
    (hY : ∀ s2 l, solveS c order = some l → Old s0 s2 → K (.tuple [.agg [HL (cutL l), I (unknownS c l)], B true]) (back s0 s2))
    (hN : ∀ s2 l u, solveS c order = none → Old s0 s2 → K (.tuple [.agg [HL l, I u], B false]) (back s0 s2)) :
    ICall Try.prog 64 [titleRef c, v] s0 K := by
  refine icall Try.func64 tr64 rs64 fn64 (by simp [Try.ntmps64]) fun _ => ?_
  have hvE : v.erase = v := by rcases hv with rfl | ⟨d, cap, cs, rfl, _⟩ <;> rfl
  have hvD : ∀ r, demote r v = v := by 
    intro r
    rcases hv with rfl | ⟨d, cap, cs, rfl, _⟩
    · simp
    · rfl
  have c1 := complete92_ok c order h
  have c2 := beside93_ok c order h hol
  have c3 := layered94_ok c order h
  simp -implicitDefEqProofs only [m64]
  refine cutS (fun st => st.env 0 = titleRef c ∧ st.env 1 = v ∧ Old s0 st ∧ ∃ b4, st.env 4 = .mref b4 0 ∧ st.loc b4 = some [.lit (.slice none 0 0), I 0] ∧ NewB s0 b4) ?_ ?_
  · intro k hk
    simp -implicitDefEqProofs
    intro b hb
    have hO : Old s0 s0 := ⟨fun _ _ h _ => h, fun _ _ _ h => h⟩
    refine hk _ ⟨by simp, by simp [hvE], hO.ext (by simp) (fun c hc => ?_), b, by simp, by simp, hO.new hb⟩
    have : ¬ c = b := by rintro rfl; exact hc hb
    simp [this]
  rintro s ⟨e0, e1, hO, b4, e4, l4, n4⟩
  have failN : ∀ (s : St), solveS c order = none → Old s0 s → s.env 4 = .mref b4 0 → s.loc b4 = some [.lit (.slice none 0 0), I 0] → True := fun _ _ _ _ _ => trivial
  refine cutS (fun st => st.env 0 = titleRef c ∧ st.env 1 = v ∧ Old s0 st ∧ st.env 4 = .mref b4 0 ∧ st.loc b4 = some [.lit (.slice none 0 0), I 0] ∧ rulesB c order = true) ?_ ?_
  · intro k0 hk0
    simp -implicitDefEqProofs [e0]
    refine loop_up 3 (fun k st => st.env 0 = titleRef c ∧ st.env 1 = v ∧ Old s0 st ∧ st.env 4 = .mref b4 0 ∧ st.loc b4 = some [.lit (.slice none 0 0), I 0] ∧ st.env 26 = .slice 1 (rulesL c) 27 ∧ st.env 27 = I 3 ∧ st.env 28 = I k ∧
      (0 < k → completeB c order = true) ∧ (1 < k → besideB c order = true) ∧ (2 < k → layeredB c order = true)) ?_ ?_
    · refine ⟨by simp [e0], by simp [e1, hvD], (hO.dem 27).ext (by simp) (by simp), by simp [e4], by simp [l4], by simp [rulesL], by simp, by simp, by omega, by omega, by omega⟩
    rintro k s hk ⟨e0, e1, hO, e4, l4, e26, e27, e28, r1, r2, r3⟩
    simp -implicitDefEqProofs [e27, e28]
    refine cond_dec (fun hlt => ?_) (fun hge => ?_)
    · have hrule : ∃ f q, PCall Try.prog f [titleRef c, IL order] (B q) ∧ (q = false → solveS c order = none) ∧ (q = true → (0 < k + 1 → completeB c order = true) ∧ (1 < k + 1 → besideB c order = true) ∧ (2 < k + 1 → layeredB c order = true)) ∧
          ∃ hk : k < (rulesL c).length, (rulesL c)[k] = .func (.func f) [titleRef c] [] := by
        have hk3 : k < 3 := by omega
        match k, hk3, r1, r2 with
        | 0, _, _, _ => exact ⟨92, _, c1, fun e => by simp [solveS, rulesB, e], fun e => ⟨fun _ => e, by omega, by omega⟩, by rw [rulesL_len]; omega, rfl⟩
        | 1, _, r1, _ => exact ⟨93, _, c2, fun e => by simp [solveS, rulesB, e], fun e => ⟨fun _ => r1 (by omega), fun _ => e, by omega⟩, by rw [rulesL_len]; omega, rfl⟩
        | 2, _, r1, r2 => exact ⟨94, _, c3, fun e => by simp [solveS, rulesB, e], fun e => ⟨fun _ => r1 (by omega), fun _ => r2 (by omega), fun _ => e⟩, by rw [rulesL_len]; omega, rfl⟩
      obtain ⟨f, q, hc, hqf, hqt, hk3, hat⟩ := hrule
      refine stepB ?_
      refine cutS (fun st => st.env 0 = titleRef c ∧ st.env 1 = v ∧ Old s0 st ∧ st.env 4 = .mref b4 0 ∧ st.loc b4 = some [.lit (.slice none 0 0), I 0] ∧ st.env 26 = .slice 1 (rulesL c) 27 ∧ st.env 27 = I 3 ∧ st.env 28 = I k ∧ st.env 7 = .func (.func f) [titleRef c] []) ?_ ?_
      · intro k1 hk1
        simp -implicitDefEqProofs [e26, e28, hk3, hat]
        exact hk1 _ ⟨by simp [e0], by simp [e1], hO.ext (by simp) (by simp), by simp [e4], by simp [l4], by simp [e26], by simp [e27], by simp [e28], by simp⟩
      rintro s ⟨e0, e1, hO, e4, l4, e26, e27, e28, e7⟩
      simp -implicitDefEqProofs [e1, e7]
      refine vCallvL_of (by rw [show ∀ st : St, st.loc = st.loc from fun _ => rfl]; exact ((hv.old hO).views)) rfl hc ?_
      simp -implicitDefEqProofs
      refine cond_bool (fun he => ?_) (fun he => ?_)
      · refine ret64 (by omega) (by simp [e4]) (b8 := b4) (u := 0) (l := []) (.inl ⟨rfl, by simp [l4]⟩) (hO.ext (by simp) (by simp)) n4 (by simp) fun s2 h2 => ?_
        exact hN _ _ _ (hqf (by simpa using he)) h2
      · have hq := hqt (by simpa using he)
        simp -implicitDefEqProofs [e28]
        refine ⟨i64 (by omega) (by omega), round_ok (by omega) ⟨by simp [e0], by simp [e1], hO.ext (by simp) (by simp), by simp [e4], by simp [l4], by simp [e26], by simp [e27], by simp, hq⟩⟩
    · obtain rfl : k = 3 := by omega
      have hR : rulesB c order = true := by simp [rulesB, r1, r2, r3]
      simp -implicitDefEqProofs
      exact hk0 _ ⟨by simp [e0], by simp [e1], hO.ext (by simp) (by simp), by simp [e4], by simp [l4], hR⟩
  rintro s ⟨e0, e1, hO, e4, l4, hR⟩
  refine cutS (fun st => st.env 0 = titleRef c ∧ st.env 1 = v ∧ Old s0 st ∧ st.env 4 = .mref b4 0 ∧ st.loc b4 = some [.lit (.slice none 0 0), I 0] ∧ ∃ b8, st.env 8 = .mref b8 0 ∧ st.loc b8 = some (cl 9 fun _ => 0) ∧ b8 ≠ b4 ∧ NewB s0 b8) ?_ ?_
  · intro k hk
    simp -implicitDefEqProofs
    intro b hb
    have h4b : ¬ b4 = b := by rintro rfl; rw [l4] at hb; cases hb
    have hb4 : ¬ b = b4 := fun e => h4b e.symm
    refine hk _ ⟨by simp [e0], by simp [e1], hO.ext (by simp) (fun c hc => ?_), by simp [e4], by simp [l4, h4b], b, by simp, by simp [cl, List.range_succ], hb4, hO.new hb⟩
    have : ¬ c = b := by rintro rfl; exact hc hb
    simp [this]
  rintro s ⟨e0, e1, hO, e4, l4, b8, e8, l8, h84, n8⟩
  refine cutS (fun st => st.env 0 = titleRef c ∧ st.env 1 = v ∧ Old s0 st ∧ st.env 4 = .mref b4 0 ∧ st.loc b4 = some [.lit (.slice none 0 0), I 0] ∧ st.env 8 = .mref b8 0 ∧ st.loc b8 = some (cl 9 fun _ => 0) ∧ st.env 9 = I c.printed) ?_ ?_
  · intro k hk
    simp -implicitDefEqProofs [e0]
    exact hk _ ⟨by simp [e0], by simp [e1], hO.ext (by simp) (by simp), by simp [e4], by simp [l4], by simp [e8], by simp [l8], by simp⟩
  rintro s ⟨e0, e1, hO, e4, l4, e8, l8, e9⟩
  refine cutS (fun st => ∃ x, runUp c order order.length = some x ∧ SJ c s0 v order b4 b8 order.length x.years (gaps c.printed x.raw) (cutL x.raw) st) ?_ ?_
  · intro k0 hk0
    refine cutS (fun st => SJ c s0 v order b4 b8 0 (fun _ => 0) 0 [] st ∧ st.env 9 = I c.printed) ?_ ?_
    · intro k1 hk1
      rcases hv with rfl | ⟨d, cap, cs, rfl, hd, hlo⟩
      · simp -implicitDefEqProofs [e1]
        exact hk1 _ ⟨⟨⟨by simp [e0], by simp [e1], by simp [e4], by simp [e8], by simp, by simp, by simp⟩, by simp [l8], .inl ⟨rfl, by simp [l4]⟩, hO.ext (by simp) (by simp)⟩, by simp [e9]⟩
      · simp -implicitDefEqProofs [e1]
        exact hk1 _ ⟨⟨⟨by simp [e0], by simp [e1], by simp [e4], by simp [e8], by simp, by simp, by simp⟩, by simp [l8], .inl ⟨rfl, by simp [l4]⟩, hO.ext (by simp) (by simp)⟩, by simp [e9]⟩
    rintro s ⟨hJ, e9⟩
    simp -implicitDefEqProofs
    refine loop_up order.length (fun i st => ∃ x, runUp c order i = some x ∧ SJ c s0 v order b4 b8 i x.years (gaps c.printed x.raw) (cutL x.raw) st ∧ st.env 9 = I x.since) ?_ ?_
    · exact ⟨_, rfl, hJ, e9⟩
    rintro i s hi ⟨x, hx, hJ, e9⟩
    obtain ⟨e0, e1, e4, e8, e43, e44, e45⟩ := hJ.e
    simp -implicitDefEqProofs [e44, e45]
    refine cond_dec (fun hlt => ?_) (fun hge => ?_)
    · have hlt : i < order.length := by omega
      have hoi := ho _ (List.getElem_mem hlt)
      obtain ⟨o, hoo⟩ : ∃ o : Nat, order[i] = o := ⟨order[i].toNat, by omega⟩
      have hon : o < c.owners.length := by omega
      have hstep : runUp c order (i + 1) = stepO c o x := by
        show (runUp c order i).bind _ = _
        rw [hx, Option.bind_some]
        congr 1
        rw [List.getD_eq_getElem?_getD, List.getElem?_eq_getElem hlt, Option.getD_some, hoo, Int.toNat_natCast]
      have hrl : x.raw.length = i := runUp_len _ _ hx
      have hfail : stepO c o x = none → solveS c order = none := fun e => solve_none (i := i + 1) (by omega) (hstep.trans e)
      have hm9 := h.marksLen
      have hin := sold_in h o
      refine stepB ?_
      refine cutS (fun st => SJ c s0 v order b4 b8 i x.years (gaps c.printed x.raw) (cutL x.raw) st ∧ st.env 9 = I x.since ∧ st.env 11 = I o) ?_ ?_
      · intro k1 hk1
        rcases hv.old hJ.old with hvv | ⟨d, cap, cs, hvv, hd, hlo⟩
        · rw [hvv] at e43
          simp -implicitDefEqProofs [e43, e45, hlt, hoo]
          exact hk1 _ ⟨hJ.ext (by simp) (by simp), by simp [e9], by simp⟩
        · rw [hvv] at e43
          obtain ⟨_, _, hcs, _, hat⟩ := lent_row rfl hlo
          have hc1 : i < cs.length := by omega
          have hc2 : cs[i] = I o := by
            have := hat i hlt
            rw [List.getD_eq_getElem?_getD, List.getElem?_eq_getElem hc1, Option.getD_some, hoo] at this
            exact this
          simp -implicitDefEqProofs [e43, e45, hlt, hd, hc1, hc2]
          exact hk1 _ ⟨hJ.ext (by simp) (by simp), by simp [e9], by simp⟩
      rintro s ⟨hJ, e9, e11⟩
      refine cutS (fun st => SJ c s0 v order b4 b8 i x.years (gaps c.printed x.raw) (cutL x.raw) st ∧ st.env 9 = I x.since ∧ st.env 11 = I o ∧ st.env 12 = .ref [I (bLo c c.sales o), I (bHi c c.sales o), I (gLo c c.sales o), I (gHi c c.sales o)]) ?_ ?_
      · intro k1 hk1
        obtain ⟨e0, -⟩ := hJ.e
        simp -implicitDefEqProofs [e0, e11]
        refine vLookup_fmap hon ?_
        simp -implicitDefEqProofs
        intro b hb
        refine hk1 _ ⟨hJ.ext (by simp) (fun c hc => ?_), by simp [e9], by simp [e11], by simp⟩
        have : ¬ c = b := by rintro rfl; exact hc hb
        simp [this]
      rintro s ⟨hJ, e9, e11, e12⟩
      obtain ⟨bl, hbl⟩ : ∃ n, n = bLo c c.sales o := ⟨_, rfl⟩
      obtain ⟨bh, hbh⟩ : ∃ n, n = bHi c c.sales o := ⟨_, rfl⟩
      obtain ⟨gl, hgl⟩ : ∃ n, n = gLo c c.sales o := ⟨_, rfl⟩
      obtain ⟨gh, hgh⟩ : ∃ n, n = gHi c c.sales o := ⟨_, rfl⟩
      rw [← hbl, ← hbh, ← hgl, ← hgh] at e12
      obtain ⟨f, hf⟩ : ∃ f, f = max x.since bl := ⟨_, rfl⟩
      have hstepE : stepO c o x = (marksUp c o f x.years (max f gl) c.marks.length).bind fun y => if bh < f ∨ gh < y.2 then none else some ⟨y.1, y.2, x.raw ++ [⟨o, f, gh⟩]⟩ := by
        rw [hf, hbl, hbh, hgl, hgh]; rfl
      refine cutS (fun st => SJ c s0 v order b4 b8 i x.years (gaps c.printed x.raw) (cutL x.raw) st ∧ st.env 11 = I o ∧ st.env 12 = .ref [I bl, I bh, I gl, I gh] ∧ st.env 13 = I f) ?_ ?_
      · intro k1 hk1
        have m1 : (if x.since < bl then bl else x.since) = f := by rw [hf]; split <;> omega
        simp -implicitDefEqProofs [e9, e12, m1]
        exact hk1 _ ⟨hJ.ext (by simp) (by simp), by simp [e11], by simp [e12], by simp⟩
      rintro s ⟨hJ, e11, e12, e13⟩
      refine cutS (fun st => SJ c s0 v order b4 b8 i x.years (gaps c.printed x.raw) (cutL x.raw) st ∧ st.env 11 = I o ∧ st.env 12 = .ref [I bl, I bh, I gl, I gh] ∧ st.env 13 = I f ∧ st.env 14 = I (max f gl)) ?_ ?_
      · intro k1 hk1
        have m1 : (if f < gl then gl else f) = max f gl := by split <;> omega
        simp -implicitDefEqProofs [e13, e12, m1]
        exact hk1 _ ⟨hJ.ext (by simp) (by simp), by simp [e11], by simp [e12], by simp [e13], by simp⟩
      rintro s ⟨hJ, e11, e12, e13, e14⟩
      refine cutS (fun st => ∃ Yk tk, marksUp c o f x.years (max f gl) c.marks.length = some (Yk, tk) ∧ SJ c s0 v order b4 b8 i Yk (gaps c.printed x.raw) (cutL x.raw) st ∧ st.env 11 = I o ∧ st.env 12 = .ref [I bl, I bh, I gl, I gh] ∧ st.env 13 = I f ∧ st.env 14 = I tk) ?_ ?_
      · intro k1 hk1
        obtain ⟨e0, -⟩ := hJ.e
        simp -implicitDefEqProofs [e0]
        refine loop_up c.marks.length (fun k st => ∃ Yk tk, marksUp c o f x.years (max f gl) k = some (Yk, tk) ∧ SJ c s0 v order b4 b8 i Yk (gaps c.printed x.raw) (cutL x.raw) st ∧ st.env 11 = I o ∧ st.env 12 = .ref [I bl, I bh, I gl, I gh] ∧ st.env 13 = I f ∧ st.env 14 = I tk ∧
          st.env 69 = .slice 4 (c.marks.map encMark) 0 ∧ st.env 70 = I c.marks.length ∧ st.env 71 = I k) ?_ ?_
        · exact ⟨_, _, rfl, hJ.ext (by simp) (by simp), by simp [e11], by simp [e12], by simp [e13], by simp [e14], by simp, by simp, by simp⟩
        rintro k s hk ⟨Yk, tk, hy, hJ, e11, e12, e13, e14, e69, e70, e71⟩
        simp -implicitDefEqProofs [e70, e71]
        refine cond_dec (fun hlt2 => ?_) (fun hge2 => ?_)
        · have hlt2 : k < c.marks.length := by omega
          have hgd := mk_at hlt2
          have hup := h.upon k hlt2
          have hsuc : marksUp c o f x.years (max f gl) (k + 1) = markStep c o f k (Yk, tk) := by
            show (marksUp c o f x.years (max f gl) k).bind _ = _
            rw [hy, Option.bind_some]
          have hno : markStep c o f k (Yk, tk) = none → solveS c order = none := fun e => hfail (by
            have := marksUp_none (hsuc.trans e) (c.marks.length - (k + 1))
            rw [show k + 1 + (c.marks.length - (k + 1)) = c.marks.length by omega] at this
            rw [hstepE, this]; rfl)
          unfold markStep markY at hsuc hno
          rw [hgd] at hsuc hno
          generalize hm : c.marks[k] = m at *
          refine stepB ?_
          refine cutS (fun st => SJ c s0 v order b4 b8 i Yk (gaps c.printed x.raw) (cutL x.raw) st ∧ st.env 11 = I o ∧ st.env 12 = .ref [I bl, I bh, I gl, I gh] ∧ st.env 13 = I f ∧ st.env 14 = I tk ∧
            st.env 69 = .slice 4 (c.marks.map encMark) 0 ∧ st.env 70 = I c.marks.length ∧ st.env 71 = I k ∧ st.env 15 = I k ∧ st.env 16 = .ref [I m.owner, I m.lo, I m.hi, I m.upon]) ?_ ?_
          · intro k2 hk2
            simp -implicitDefEqProofs [e69, e71, hlt2]
            rw [hm]
            intro b hb
            refine hk2 _ ⟨hJ.ext (by simp) (fun c hc => ?_), by simp [e11], by simp [e12], by simp [e13], by simp [e14], by simp [e69], by simp [e70], by simp [e71], by simp, by simp⟩
            have : ¬ c = b := by rintro rfl; exact hc hb
            simp [this]
          rintro s ⟨hJ, e11, e12, e13, e14, e69, e70, e71, e15, e16⟩
          by_cases hmo : m.owner ≠ (o : Int)
          · rw [if_pos hmo] at hsuc
            have hmo' : (m.owner != (o : Int)) = true := by simp [hmo]
            simp -implicitDefEqProofs [e11, e16, hmo', e71]
            refine ⟨i64 (by omega) (by omega), round_ok hlt2 ⟨Yk, tk, hsuc, hJ.ext (by simp) (by simp), by simp [e11], by simp [e12], by simp [e13], by simp [e14], by simp [e69], by simp [e70], by simp⟩⟩
          rw [if_neg hmo] at hsuc hno
          have hmo' : (m.owner != (o : Int)) = false := by simpa using hmo
          refine cutS (fun st => SJ c s0 v order b4 b8 i Yk (gaps c.printed x.raw) (cutL x.raw) st ∧ st.env 11 = I o ∧ st.env 12 = .ref [I bl, I bh, I gl, I gh] ∧ st.env 13 = I f ∧ st.env 14 = I tk ∧
            st.env 69 = .slice 4 (c.marks.map encMark) 0 ∧ st.env 70 = I c.marks.length ∧ st.env 71 = I k ∧ st.env 15 = I k ∧ st.env 16 = .ref [I m.owner, I m.lo, I m.hi, I m.upon]) ?_ ?_
          · intro k2 hk2
            simp -implicitDefEqProofs [e11, e16, hmo']
            exact hk2 _ ⟨hJ.ext (by simp) (by simp), by simp [e11], by simp [e12], by simp [e13], by simp [e14], by simp [e69], by simp [e70], by simp [e71], by simp [e15], by simp [e16]⟩
          rintro s ⟨hJ, e11, e12, e13, e14, e69, e70, e71, e15, e16⟩
          have hk9 : k < 9 := by omega
          refine cutS (fun st => SJ c s0 v order b4 b8 i (putY Yk k (max m.lo f)) (gaps c.printed x.raw) (cutL x.raw) st ∧ st.env 11 = I o ∧ st.env 12 = .ref [I bl, I bh, I gl, I gh] ∧ st.env 13 = I f ∧ st.env 14 = I tk ∧
            st.env 69 = .slice 4 (c.marks.map encMark) 0 ∧ st.env 70 = I c.marks.length ∧ st.env 71 = I k ∧ st.env 15 = I k ∧ st.env 16 = .ref [I m.owner, I m.lo, I m.hi, I m.upon]) ?_ ?_
          · intro k2 hk2
            obtain ⟨-, -, -, e8, -⟩ := hJ.e
            have l8 := hJ.l8
            have m1 : (if m.lo < f then f else m.lo) = max m.lo f := by split <;> omega
            simp -implicitDefEqProofs [e8, e13, e15, e16, l8, cl_len, m1, cl_set]
            refine ⟨by omega, by omega, ?_⟩
            exact hk2 _ ⟨hJ.years h84 n8 (by simp) (fun c hc => by simp [hc]) (by simp; rfl), by simp [e11], by simp [e12], by simp [e13], by simp [e14], by simp [e69], by simp [e70], by simp [e71], by simp [e15], by simp [e16]⟩
          rintro s ⟨hJ, e11, e12, e13, e14, e69, e70, e71, e15, e16⟩
          obtain ⟨z, hz⟩ : ∃ z, z = if m.upon = -1 then max m.lo f else max (max m.lo f) (Yk m.upon.toNat) := ⟨_, rfl⟩
          rw [← hz] at hsuc hno
          refine cutS (fun st => SJ c s0 v order b4 b8 i (putY Yk k z) (gaps c.printed x.raw) (cutL x.raw) st ∧ st.env 11 = I o ∧ st.env 12 = .ref [I bl, I bh, I gl, I gh] ∧ st.env 13 = I f ∧ st.env 14 = I tk ∧
            st.env 69 = .slice 4 (c.marks.map encMark) 0 ∧ st.env 70 = I c.marks.length ∧ st.env 71 = I k ∧ st.env 15 = I k ∧ st.env 16 = .ref [I m.owner, I m.lo, I m.hi, I m.upon]) ?_ ?_
          · intro k2 hk2
            obtain ⟨-, -, -, e8, -⟩ := hJ.e
            have l8 := hJ.l8
            by_cases h0 : m.upon = -1
            · rw [if_pos h0] at hz
              rw [← hz] at hJ
              have h0' : (m.upon != -1) = false := by simp [h0]
              simp -implicitDefEqProofs [e16, h0']
              exact hk2 _ ⟨hJ.ext (by simp) (by simp), by simp [e11], by simp [e12], by simp [e13], by simp [e14], by simp [e69], by simp [e70], by simp [e71], by simp [e15], by simp [e16]⟩
            · rw [if_neg h0] at hz
              have h0' : (m.upon != -1) = true := by simp [h0]
              obtain ⟨n, hn⟩ : ∃ n : Nat, m.upon = n := ⟨m.upon.toNat, by omega⟩
              have hnk : n < k := by omega
              have hn9 : n < 9 := by omega
              have hnk' : ¬ n = k := by omega
              rw [hn, Int.toNat_natCast] at hz
              have m1 : (if max m.lo f < Yk n then Yk n else max m.lo f) = z := by rw [hz]; split <;> omega
              have m2 : putY Yk k (max m.lo f) k = max m.lo f := by simp [putY]
              have m3 : putY Yk k (max m.lo f) n = Yk n := by simp [putY, hnk']
              have m4 : (fun j => if j = k then z else putY Yk k (max m.lo f) j) = putY Yk k z := by
                funext j
                by_cases e : j = k <;> simp [putY, e]
              rw [hn] at h0'
              simp -implicitDefEqProofs [e8, e15, e16, hn, h0', l8, hk9, hn9, cl_len, cl_at, m1, m2, m3, cl_set, apartAV, m4]
              repeat refine ⟨by omega, ?_⟩
              exact hk2 _ ⟨hJ.years h84 n8 (by simp) (fun c hc => by simp [hc]) (by simp), by simp [e11], by simp [e12], by simp [e13], by simp [e14], by simp [e69], by simp [e70], by simp [e71], by simp [e15], by simp [e16, hn]⟩
          rintro s ⟨hJ, e11, e12, e13, e14, e69, e70, e71, e15, e16⟩
          have mz : putY Yk k z k = z := by simp [putY]
          refine cutS (fun st => SJ c s0 v order b4 b8 i (putY Yk k z) (gaps c.printed x.raw) (cutL x.raw) st ∧ st.env 11 = I o ∧ st.env 12 = .ref [I bl, I bh, I gl, I gh] ∧ st.env 13 = I f ∧ st.env 14 = I tk ∧
            st.env 69 = .slice 4 (c.marks.map encMark) 0 ∧ st.env 70 = I c.marks.length ∧ st.env 71 = I k ∧ st.env 15 = I k ∧ ¬ m.hi < z) ?_ ?_
          · intro k2 hk2
            obtain ⟨-, -, e4, e8, -⟩ := hJ.e
            have l8 := hJ.l8
            simp -implicitDefEqProofs [e8, e15, e16, l8, hk9, cl_len, cl_at, mz]
            refine ⟨by omega, ?_⟩
            refine cond_dec (fun hb => ?_) (fun hb => ?_)
            · refine ret64 (by omega) (by simp [e4]) (b8 := b8) (u := gaps c.printed x.raw) (l := cutL x.raw) (hJ.hs.ext (by simp)) (hJ.old.ext (by simp) (by simp)) n4 (by rw [cutL_len]; omega) fun s2 h2 => ?_
              exact hN _ _ _ (hno (by rw [if_pos hb])) h2
            · simp -implicitDefEqProofs
              exact hk2 _ ⟨hJ.ext (by simp) (by simp), by simp [e11], by simp [e12], by simp [e13], by simp [e14], by simp [e69], by simp [e70], by simp [e71], by simp [e15], hb⟩
          rintro s ⟨hJ, e11, e12, e13, e14, e69, e70, e71, e15, hz2⟩
          rw [if_neg hz2] at hsuc
          obtain ⟨-, -, e4, e8, -⟩ := hJ.e
          have l8 := hJ.l8
          have m1 : (if tk < z then z else tk) = max tk z := by split <;> omega
          simp -implicitDefEqProofs [e8, e14, e15, l8, hk9, cl_len, cl_at, mz, m1, e71]
          refine ⟨by omega, i64 (by omega) (by omega), round_ok hlt2 ⟨_, _, hsuc, hJ.ext (by simp) (by simp), by simp [e11], by simp [e12], by simp [e13], by simp, by simp [e69], by simp [e70], by simp⟩⟩
        · obtain rfl : k = c.marks.length := by omega
          simp -implicitDefEqProofs
          exact hk1 _ ⟨Yk, tk, hy, hJ.ext (by simp) (by simp), by simp [e11], by simp [e12], by simp [e13], by simp [e14]⟩
      rintro s ⟨Yk, tk, hy, hJ, e11, e12, e13, e14⟩
      have hstepF : stepO c o x = if bh < f ∨ gh < tk then none else some ⟨Yk, tk, x.raw ++ [⟨o, f, gh⟩]⟩ := by
        rw [hstepE, hy, Option.bind_some]
      refine cutS (fun st => SJ c s0 v order b4 b8 i Yk (gaps c.printed x.raw) (cutL x.raw) st ∧ st.env 11 = I o ∧ st.env 12 = .ref [I bl, I bh, I gl, I gh] ∧ st.env 13 = I f ∧ st.env 14 = I tk ∧ ¬ (bh < f ∨ gh < tk)) ?_ ?_
      · intro k1 hk1
        have bad : (bh < f ∨ gh < tk) → solveS c order = none := fun e => hfail (by rw [hstepF, if_pos e])
        refine cutS (fun st => SJ c s0 v order b4 b8 i Yk (gaps c.printed x.raw) (cutL x.raw) st ∧ st.env 11 = I o ∧ st.env 12 = .ref [I bl, I bh, I gl, I gh] ∧ st.env 13 = I f ∧ st.env 14 = I tk ∧ st.env 125 = B (decide (bh < f ∨ gh < tk))) ?_ ?_
        · intro k2 hk2
          by_cases hb1 : bh < f
          · simp -implicitDefEqProofs [e12, e13, hb1]
            exact hk2 _ ⟨hJ.ext (by simp) (by simp), by simp [e11], by simp [e12], by simp [e13], by simp [e14], by simp [hb1]⟩
          · simp -implicitDefEqProofs [e12, e13, e14, hb1]
            exact hk2 _ ⟨hJ.ext (by simp) (by simp), by simp [e11], by simp [e12], by simp [e13], by simp [e14], by simp [hb1]⟩
        rintro s ⟨hJ, e11, e12, e13, e14, e125⟩
        simp -implicitDefEqProofs only [w_cond, ev_t, e125]
        refine cond_dec (fun hb => ?_) (fun hb => ?_)
        · obtain ⟨-, -, e4, -⟩ := hJ.e
          exact ret64 (by omega) e4 hJ.hs hJ.old n4 (by rw [cutL_len]; omega) fun s2 h2 => hN _ _ _ (bad hb) h2
        · exact hk1 _ ⟨hJ, e11, e12, e13, e14, hb⟩
      rintro s ⟨hJ, e11, e12, e13, e14, hgood⟩
      rw [if_neg hgood] at hstepF
      obtain ⟨new, hnew⟩ : ∃ n : Hold, n = ⟨o, f, gh⟩ := ⟨_, rfl⟩
      rw [← hnew] at hstepF
      have hg1 := gaps_range c.printed x.raw
      have hgs := gaps_snoc new c.printed x.raw
      have hnf : new.src = f := by rw [hnew]
      rw [hnf] at hgs
      refine cutS (fun st => SJ c s0 v order b4 b8 i Yk (gaps c.printed (x.raw ++ [new])) (cutTo x.raw f) st ∧ st.env 11 = I o ∧ st.env 12 = .ref [I bl, I bh, I gl, I gh] ∧ st.env 13 = I f ∧ st.env 14 = I tk) ?_ ?_
      · intro k1 hk1
        obtain ⟨e0, e1, e4, e8, e43, e44, e45⟩ := hJ.e
        rcases List.eq_nil_or_concat x.raw with hr | ⟨init, a, hr⟩
        · rw [hr] at hJ hgs hk1
          have l4 : s.loc b4 = some [.lit (.slice none 0 0), I 0] := by
            rcases hJ.hs with ⟨_, l4⟩ | ⟨hb, cap, cs, hne, _⟩
            · exact l4
            · exact absurd rfl hne
          have hgs : gaps c.printed ([] ++ [new]) = 0 + if c.printed < f then 1 else 0 := hgs
          simp -implicitDefEqProofs [e4, l4, e0, e13]
          refine cond_dec (fun hc => ?_) (fun hc => ?_)
          · rw [if_pos hc] at hgs
            simp -implicitDefEqProofs [e4, l4]
            refine ⟨i64 (by omega) (by omega), ?_⟩
            refine hk1 _ ⟨⟨⟨by simp [e0], by simp [e1], by simp [e4], by simp [e8], by simp [e43], by simp [e44], by simp [e45]⟩, by simp [hJ.l8, h84], .inl ⟨rfl, ?_⟩, hJ.old.put (by simp) n4 (fun c hc => by simp [hc])⟩, by simp [e11], by simp [e12], by simp [e13], by simp [e14]⟩
            rw [hgs]; simp
          · rw [if_neg hc] at hgs
            simp -implicitDefEqProofs
            refine hk1 _ ⟨⟨⟨by simp [e0], by simp [e1], by simp [e4], by simp [e8], by simp [e43], by simp [e44], by simp [e45]⟩, by simp [hJ.l8], .inl ⟨rfl, ?_⟩, hJ.old.ext (by simp) (by simp)⟩, by simp [e11], by simp [e12], by simp [e13], by simp [e14]⟩
            rw [hgs]; simp [l4]
        · rw [List.concat_eq_append] at hr
          rw [hr] at hJ hgs hrl hk1
          rw [cutL_snoc] at hJ
          rw [lastTil_snoc] at hgs
          simp only [List.length_append, List.length_cons, List.length_nil] at hrl
          obtain ⟨hb, cap, cs, hne, l4, lh, hbk, h4, h8, hn⟩ : ∃ hb cap cs, cutTo init a.src ++ [a] ≠ [] ∧ s.loc b4 = some [.mslice hb 0 (cutTo init a.src ++ [a]).length cap 3, I (gaps c.printed (init ++ [a]))] ∧ s.loc hb = some cs ∧ HBlk cs (cutTo init a.src ++ [a]) cap ∧ hb ≠ b4 ∧ hb ≠ b8 ∧ NewB s0 hb := by
            rcases hJ.hs with ⟨he, _⟩ | h
            · simp at he
            · exact h
          have hl1 : (cutTo init a.src ++ [a]).length = i := by simp [cutTo_len]; omega
          obtain ⟨hat1, hat2⟩ := hblk_at hbk
          have hcut := hblk_cut hbk (min a.til f)
          rw [cutTo_len] at hat1 hat2 hcut
          have hbe : cutTo init a.src ++ [⟨a.who, a.src, min a.til f⟩] = cutTo (init ++ [a]) f := (cutTo_snoc a f init).symm
          rw [hbe] at hcut
          have hli : init.length + 1 = i := by omega
          have hge : cs[init.length * 3 + 2] = I a.til := by
            rw [List.getElem?_eq_getElem hat1] at hat2
            exact Option.some.inj hat2
          rw [hl1] at l4
          have h4' : ¬ b4 = hb := fun e => h4 e.symm
          have h8' : ¬ b8 = hb := fun e => h8 e.symm
          have hi0 : 0 < i := by omega
          have hi1 : (i : Int) - 1 = (init.length : Nat) := by omega
          have m1 : (if f < a.til then f else a.til) = min a.til f := by split <;> omega
          have hll : (cutTo (init ++ [a]) f).length = i := by rw [cutTo_len]; simp; omega
          refine cutS (fun st => SJ c s0 v order b4 b8 i Yk (gaps c.printed (init ++ [a])) (cutTo init a.src ++ [a]) st ∧ st.loc b4 = some [.mslice hb 0 i cap 3, I (gaps c.printed (init ++ [a]))] ∧ st.loc hb = some cs ∧ st.env 11 = I o ∧ st.env 12 = .ref [I bl, I bh, I gl, I gh] ∧ st.env 13 = I f ∧ st.env 14 = I tk ∧ st.env 17 = I i) ?_ ?_
          · intro k2 hk2
            simp -implicitDefEqProofs [e4, l4]
            exact hk2 _ ⟨hJ.ext (by simp) (by simp), by simp [l4], by simp [lh], by simp [e11], by simp [e12], by simp [e13], by simp [e14], by simp⟩
          rintro s ⟨hJ, l4, lh, e11, e12, e13, e14, e17⟩
          obtain ⟨e0, e1, e4, e8, e43, e44, e45⟩ := hJ.e
          have hg2 := gaps_range c.printed (init ++ [a])
          simp only [List.length_append, List.length_cons, List.length_nil] at hg2
          simp -implicitDefEqProofs [e4, e13, e17, l4, lh, hi0, hi1, hat1, hge]
          refine ⟨i64 (by omega) (by omega), by omega, ?_⟩
          refine cond_dec (fun hc => ?_) (fun hc => ?_)
          · rw [if_pos hc] at hgs
            simp -implicitDefEqProofs [e4, e13, l4, lh, hat1, hge, h4, m1]
            refine ⟨i64 (by omega) (by omega), by omega, ?_⟩
            refine hk1 _ ⟨⟨⟨by simp [e0], by simp [e1], by simp [e4], by simp [e8], by simp [e43], by simp [e44], by simp [e45]⟩, by simp [hJ.l8, h84, h8'], .inr ⟨hb, cap, _, ?_, ?_, by simp, hcut, h4, h8, hn⟩, ?_⟩, by simp [e11], by simp [e12], by simp [e13], by simp [e14]⟩
            · intro e; rw [e] at hll; simp at hll; omega
            · rw [hll, hgs]; simp [h4']
            · refine ⟨fun c' cs' q1 q2 => ?_, fun l es q hg => by simp [hJ.old.g l es q hg]⟩
              have c4 : ¬ c' = b4 := by rintro rfl; exact n4 cs' q1 q2
              have ch : ¬ c' = hb := by rintro rfl; exact hn cs' q1 q2
              simp [c4, ch, hJ.old.l c' cs' q1 q2]
          · rw [if_neg hc] at hgs
            simp -implicitDefEqProofs [e13, lh, hat1, hge, m1]
            refine ⟨by omega, ?_⟩
            refine hk1 _ ⟨⟨⟨by simp [e0], by simp [e1], by simp [e4], by simp [e8], by simp [e43], by simp [e44], by simp [e45]⟩, by simp [hJ.l8, h8'], .inr ⟨hb, cap, _, ?_, ?_, by simp, hcut, h4, h8, hn⟩, ?_⟩, by simp [e11], by simp [e12], by simp [e13], by simp [e14]⟩
            · intro e; rw [e] at hll; simp at hll; omega
            · rw [hll, hgs]; simp [h4', l4]
            · refine ⟨fun c' cs' q1 q2 => ?_, fun l es q hg => by simp [hJ.old.g l es q hg]⟩
              have ch : ¬ c' = hb := by rintro rfl; exact hn cs' q1 q2
              simp [ch, hJ.old.l c' cs' q1 q2]
      rintro s ⟨hJ, e11, e12, e13, e14⟩
      have hcl : cutL (x.raw ++ [new]) = cutTo x.raw f ++ [new] := by rw [cutL_snoc, hnf]
      refine cutS (fun st => SJ c s0 v order b4 b8 i Yk (gaps c.printed (x.raw ++ [new])) (cutL (x.raw ++ [new])) st ∧ st.env 14 = I tk) ?_ ?_
      · intro k1 hk1
        rw [hcl] at hk1
        obtain ⟨e0, e1, e4, e8, e43, e44, e45⟩ := hJ.e
        have l8 := hJ.l8
        have hd8 : (cl 9 Yk).map (demote 176) = cl 9 Yk := cl_dem _ _ _
        have hO2 := hJ.old.dem 176
        have hcell3 : ∀ r : Nat, (AV.lit (Value.int IntKind.i64 ↑o) :: AV.lit (Value.int IntKind.i64 f) :: AV.lit (Value.int IntKind.i64 gh) :: (List.replicate r [AV.lit (Value.int IntKind.i64 0), AV.lit (Value.int IntKind.i64 0), AV.lit (Value.int IntKind.i64 0)]).flatten) =
          [I new.who, I new.src, I new.til] ++ (List.replicate r [I 0, I 0, I 0]).flatten := fun r => by rw [hnew]; rfl
        rcases hJ.hs with ⟨hnil, l4⟩ | ⟨hb, cap, cs, hne, l4, lh, hbk, h4, h8, hn⟩
        · simp -implicitDefEqProofs [e4, l4, e11, e12, e13]
          intro b r hb
          have hne : ¬ b4 = b := by rintro rfl; rw [l4] at hb; cases hb
          have hne' : ¬ b = b4 := fun e => hne e.symm
          have h8b : ¬ b8 = b := by rintro rfl; rw [l8] at hb; cases hb
          have h8b' : ¬ b = b8 := fun e => h8b e.symm
          simp -implicitDefEqProofs [hne]
          refine hk1 _ ⟨⟨⟨by simp [e0], by simp [e1, hvD], by simp [e4], by simp [e8], by simp [e43, hvD], by simp [e44], by simp [e45]⟩, ?_, .inr ⟨b, 1 + r, [I new.who, I new.src, I new.til] ++ (List.replicate r [I 0, I 0, I 0]).flatten, by simp, ?_, ?_, ?_, hne', h8b', hJ.old.new hb⟩, ?_⟩, by simp [e14]⟩
          · simp [l8, h84, h8b, hd8]
          · rw [hnil]; simp
          · rw [hcell3]; simp [hne']
          · rw [hnil]; exact hblk_new new r
          · refine ⟨fun c' cs' q1 q2 => ?_, fun l es q hg => by simp [hJ.old.g l es q hg]⟩
            have c4 : ¬ c' = b4 := by rintro rfl; exact n4 cs' q1 q2
            have ch : ¬ c' = b := by rintro rfl; exact hJ.old.new hb cs' q1 q2
            simp [c4, ch, hJ.old.l c' cs' q1 q2, dem_row q2]
        · have h4' : ¬ b4 = hb := fun e => h4 e.symm
          have h8' : ¬ b8 = hb := fun e => h8 e.symm
          have hle := hbk.le
          have hlen := hbk.len
          have hctl : (cutTo x.raw f).length = x.raw.length := cutTo_len _ _
          have hdc : cs.map (demote 176) = cs := dem_row (num_erase hbk.num) 176
          have hcap : ¬ cap = 0 := by
            intro e
            have : (cutTo x.raw f).length = 0 := by omega
            exact hne (List.length_eq_zero_iff.1 this)
          simp -implicitDefEqProofs [e4, l4, e11, e12, e13, lh, hcap, hdc]
          refine ⟨by omega, by omega, by omega, fun hroom => ?_, fun hgrow b r hbn => ?_⟩
          · simp -implicitDefEqProofs [h4']
            refine hk1 _ ⟨⟨⟨by simp [e0], by simp [e1, hvD], by simp [e4], by simp [e8], by simp [e43, hvD], by simp [e44], by simp [e45]⟩, ?_, .inr ⟨hb, cap, splice cs ((cutTo x.raw f).length * 3) [I new.who, I new.src, I new.til], by simp, ?_, ?_, hblk_room hbk new hroom, h4, h8, hn⟩, ?_⟩, by simp [e14]⟩
            · simp [l8, h84, h8', hd8]
            · simp
            · simp [h4, hnew]
            · refine ⟨fun c' cs' q1 q2 => ?_, fun l es q hg => by simp [hJ.old.g l es q hg]⟩
              have c4 : ¬ c' = b4 := by rintro rfl; exact n4 cs' q1 q2
              have ch : ¬ c' = hb := by rintro rfl; exact hn cs' q1 q2
              simp [c4, ch, hJ.old.l c' cs' q1 q2, dem_row q2]
          · have hne2 : ¬ b4 = b := by rintro rfl; rw [l4] at hbn; cases hbn
            have hne' : ¬ b = b4 := fun e => hne2 e.symm
            have h8b : ¬ b8 = b := by rintro rfl; rw [l8] at hbn; cases hbn
            have h8b' : ¬ b = b8 := fun e => h8b e.symm
            simp -implicitDefEqProofs [hne2]
            refine hk1 _ ⟨⟨⟨by simp [e0], by simp [e1, hvD], by simp [e4], by simp [e8], by simp [e43, hvD], by simp [e44], by simp [e45]⟩, ?_, .inr ⟨b, (cutTo x.raw f).length + 1 + r, (cs.take ((cutTo x.raw f).length * 3)).map AV.erase0 ++ ([I new.who, I new.src, I new.til] ++ (List.replicate r [I 0, I 0, I 0]).flatten), by simp, ?_, ?_, hblk_grow hbk new r, hne', h8b', hJ.old.new hbn⟩, ?_⟩, by simp [e14]⟩
            · simp [l8, h84, h8b, hd8]
            · simp
            · rw [← hcell3]; simp [hne']
            · refine ⟨fun c' cs' q1 q2 => ?_, fun l es q hg => by simp [hJ.old.g l es q hg]⟩
              have c4 : ¬ c' = b4 := by rintro rfl; exact n4 cs' q1 q2
              have ch : ¬ c' = b := by rintro rfl; exact hJ.old.new hbn cs' q1 q2
              simp [c4, ch, hJ.old.l c' cs' q1 q2, dem_row q2]
      rintro s ⟨hJ, e14⟩
      obtain ⟨e0, e1, e4, e8, e43, e44, e45⟩ := hJ.e
      simp -implicitDefEqProofs [e14, e45]
      refine ⟨i64 (by omega) (by omega), round_ok hlt ⟨_, hstep.trans hstepF, ⟨⟨by simp [e0], by simp [e1], by simp [e4], by simp [e8], by simp [e43], by simp [e44], by simp⟩, by simp [hJ.l8], by simpa using hJ.hs, hJ.old.ext (by simp) (by simp)⟩, by simp⟩⟩
    · obtain rfl : i = order.length := by omega
      simp -implicitDefEqProofs
      exact hk0 _ ⟨x, hx, hJ.ext (by simp) (by simp)⟩
  rintro s ⟨x, hx, hJ⟩
  have hrl : x.raw.length = order.length := runUp_len _ _ hx
  have hsol : solveS c order = some x.raw := by unfold solveS; rw [if_pos hR, hx]; rfl
  have hg1 := gaps_range c.printed x.raw
  refine cutS (fun st => st.env 4 = .mref b4 0 ∧ HS s0 b4 b8 (unknownS c x.raw) (cutL x.raw) st.loc ∧ Old s0 st) ?_ ?_
  · intro k1 hk1
    obtain ⟨e0, e1, e4, e8, e43, e44, e45⟩ := hJ.e
    rcases List.eq_nil_or_concat x.raw with hr | ⟨init, a, hr⟩
    · rw [hr] at hJ hk1
      have l4 : s.loc b4 = some [.lit (.slice none 0 0), I 0] := by
        rcases hJ.hs with ⟨_, l4⟩ | ⟨hb, cap, cs, hne, _⟩
        · exact l4
        · exact absurd rfl hne
      simp -implicitDefEqProofs [e4, l4]
      refine ⟨i64 (by omega) (by omega), ?_⟩
      refine hk1 _ ⟨by simp [e4], .inl ⟨rfl, by simp [unknownS]⟩, hJ.old.put (by simp) n4 (fun c hc => by simp [hc])⟩
    · rw [List.concat_eq_append] at hr
      rw [hr] at hJ hk1 hg1
      rw [cutL_snoc] at hJ hk1
      have hun : unknownS c (init ++ [a]) = gaps c.printed (init ++ [a]) + if a.til < c.now then 1 else 0 := by
        unfold unknownS; rw [if_neg (by simp), lastTil_snoc]
      obtain ⟨hb, cap, cs, hne, l4, lh, hbk, h4, h8, hn⟩ : ∃ hb cap cs, cutTo init a.src ++ [a] ≠ [] ∧ s.loc b4 = some [.mslice hb 0 (cutTo init a.src ++ [a]).length cap 3, I (gaps c.printed (init ++ [a]))] ∧ s.loc hb = some cs ∧ HBlk cs (cutTo init a.src ++ [a]) cap ∧ hb ≠ b4 ∧ hb ≠ b8 ∧ NewB s0 hb := by
        rcases hJ.hs with ⟨he, _⟩ | h
        · simp at he
        · exact h
      have hl1 : (cutTo init a.src ++ [a]).length = init.length + 1 := by simp [cutTo_len]
      obtain ⟨hat1, hat2⟩ := hblk_at hbk
      rw [cutTo_len] at hat1 hat2
      have hge : cs[init.length * 3 + 2] = I a.til := by
        rw [List.getElem?_eq_getElem hat1] at hat2
        exact Option.some.inj hat2
      have l4' := l4
      rw [hl1] at l4'
      simp only [List.length_append, List.length_cons, List.length_nil] at hg1 
      rw [hr] at hrl
      simp only [List.length_append, List.length_cons, List.length_nil] at hrl
      have hz : ((init.length : Int) + 1 == 0) = false := by simp; omega
      have h4' : ¬ hb = b4 := h4
      simp -implicitDefEqProofs [e0, e4, l4', lh, hz, hat1, hge]
      refine ⟨i64 (by omega) (by omega), by omega, cond_dec (fun hc => ?_) (fun hc => ?_)⟩
      · rw [if_pos hc] at hun
        simp -implicitDefEqProofs [e4, l4']
        refine ⟨i64 (by omega) (by omega), hk1 _ ⟨by simp [e4], .inr ⟨hb, cap, cs, hne, ?_, ?_, hbk, h4, h8, hn⟩, hJ.old.put (by simp) n4 (fun c hc => by simp [hc])⟩⟩
        · rw [hl1, hun]; simp
        · simp [h4', lh]
      · rw [if_neg hc] at hun
        simp -implicitDefEqProofs
        refine hk1 _ ⟨by simp [e4], .inr ⟨hb, cap, cs, hne, ?_, ?_, hbk, h4, h8, hn⟩, hJ.old.ext (by simp) (by simp)⟩
        · rw [hl1, hun]; simp [l4']
        · simp [lh]
  rintro s ⟨e4, hs, hO⟩
  exact ret64 (by omega) e4 hs hO n4 (by rw [cutL_len]; omega) fun s2 h2 => hY _ _ hsol h2
end Go.Proofs.Ytiampdiobdianaa

namespace Go.Proofs.Ytiampdiobdianaa
open Go.Avm
def dfsR (m k : Nat) (o : List Int) (j : Nat) : List (List Int) :=
  ((((List.range m).drop j).filter fun n : Nat => !decide ((n : Int) ∈ o)).map fun n : Nat => o ++ [(n : Int)]).flatMap (dfs m k)
theorem dfsR_zero (m k : Nat) (o : List Int) : dfsR m k o 0 = dfs m (k + 1) o := rfl
theorem dfsR_end (m k : Nat) (o : List Int) : dfsR m k o m = [] := by
  unfold dfsR; rw [List.drop_of_length_le (by simp)]; rfl
theorem dfsR_in {m k : Nat} {o : List Int} {j : Nat} (hj : j < m) (h : (j : Int) ∈ o) : dfsR m k o j = dfsR m k o (j + 1) := by
  unfold dfsR
  rw [drop_cons (l := List.range m) (k := j) (by simpa using hj)]
  simp [h]
theorem dfsR_out {m k : Nat} {o : List Int} {j : Nat} (hj : j < m) (h : ¬ (j : Int) ∈ o) : dfsR m k o j = dfs m k (o ++ [(j : Int)]) ++ dfsR m k o (j + 1) := by
  unfold dfsR
  rw [drop_cons (l := List.range m) (k := j) (by simpa using hj)]
  simp [h]

def OrdAt (F : Nat → Int) (o : List Int) : Prop := ∀ i (h : i < o.length), F i = o[i]
theorem ordAt_snoc {F : Nat → Int} {o : List Int} {x : Int} (h : OrdAt F o) : OrdAt (fun i => if i = o.length then x else F i) (o ++ [x]) := fun i hi => by
  by_cases he : i = o.length
  · subst he; simp
  · have hi' : i < o.length := by simp at hi; omega
    simp [he, h i hi', List.getElem_append_left hi']
theorem ordAt_left {F : Nat → Int} {o : List Int} {x : Int} (h : OrdAt F (o ++ [x])) : OrdAt F o := fun i hi => by
  have := h i (by simp; omega)
  rwa [List.getElem_append_left hi] at this
theorem ordAt_cl {F : Nat → Int} {o : List Int} (h : OrdAt F o) : cl o.length F = o.map I := by
  apply List.ext_getElem (by simp [cl])
  intro i h1 h2
  have hi : i < o.length := by simpa using h2
  rw [cl_at]
  simp [h i hi]

abbrev lentEl (o : List Int) : List AV := [IL o, Go.Avm.mark 0]
theorem lent_ok {g : Nat} {F : Nat → Int} {o : List Int} (h : OrdAt F o) (hl : o.length = g) (hg : g ≤ 6) : LentOK (IL o) 0 1 g g (cl g F) := by
  subst hl
  refine ⟨?_, by rw [cl_len]; omega, Nat.le_refl _, by omega, cl_cell1 _ _, cl_erase _ _⟩
  rw [chunk_cl _ _ (by rw [cl_len]; exact Nat.le_refl _) (fun x hx => by unfold cl at hx; rw [List.mem_map] at hx; obtain ⟨i, _, rfl⟩ := hx; exact ⟨_, rfl⟩), cl_take, ordAt_cl h]
  rfl
theorem cl_some (n : Nat) (F : Nat → Int) : ∀ x ∈ cl n F, ∃ m, x = I m := fun x hx => by
  unfold cl at hx
  rw [List.mem_map] at hx
  obtain ⟨i, _, rfl⟩ := hx
  exact ⟨_, rfl⟩
theorem row_view {loc : Nat → Option (List AV)} {D g : Nat} {F : Nat → Int} {o : List Int} {y : AV} {q : Value} (hD : loc D = some (cl g F)) (h : OrdAt F o) (hl : o.length ≤ g) (hg : g ≤ 6) (hy : y = .lit q) :
    viewsAV loc [.mslice D 0 o.length g 1, y] = some [IL o, y] := by
  subst hy
  have e : chunk 1 (cl g F) o.length = o.map I := by
    rw [chunk_cl _ _ (by rw [cl_len]; exact hl) (cl_some g F)]
    apply List.ext_getElem (by simp [cl_len]; omega)
    intro i h1 h2
    have hi : i < o.length := by simpa using h2
    rw [List.getElem_take, cl_at]
    simp [h i hi]
  have hle : 0 + o.length * 1 ≤ (cl g F).length := by rw [cl_len]; omega
  have hb : o.length ≤ 140737488355328 := by omega
  have h1 : viewAV loc (.mslice D 0 o.length g 1) = some (IL o) := by
    unfold viewAV
    simp only [hD, List.drop_zero, e, cl_cell1, hle, hb, decide_true, Bool.and_self, if_true]
  have h2 : viewsAV loc [.lit q] = some [.lit q] := rfl
  rw [viewsAV, h1, h2]
abbrev nextF (l B1 B2 g : Nat) (c : Case) : AV := .func (.func 105) [] [.mref B1 0, .ref [I g], .ref [.func (.yield l) [] []], .ref [titleRef c], .mref B2 0]

theorem next_ok {c : Case} {n : Nat} (hn : c.owners.length = n) (hn6 : n ≤ 6) {g : Nat} (hg6 : g ≤ 6) {l B1 B2 D : Nat} (h12 : B1 ≠ B2) (h1D : B1 ≠ D) (h2D : B2 ≠ D) :
    ∀ (k : Nat) (o : List Int) (rest : List (List Int)) (F : Nat → Int) (s : St) (K : AV → St → Prop), o.length + k = g → OrdAt F o →
      s.loc B1 = some [.mslice D 0 o.length g 1] → s.loc B2 = some [nextF l B1 B2 g c] → s.loc D = some (cl g F) → s.env 1000000 = .ghost l ((dfs n k o ++ rest).map lentEl) false →
      (∀ s2 F2, OrdAt F2 o → s2.loc B1 = some [.mslice D 0 o.length g 1] → s2.loc B2 = some [nextF l B1 B2 g c] → s2.loc D = some (cl g F2) → s2.env 1000000 = .ghost l (rest.map lentEl) false → K (B true) (back s s2)) →
      (∀ s2 r, s2.env 1000000 = .ghost l r true → K (B false) (back s s2)) →
      ICall Try.prog 105 [.mref B1 0, .ref [I g], .ref [.func (.yield l) [] []], .ref [titleRef c], .mref B2 0] s K
  | 0 => by
    intro o rest F s K hlen hF l1 l2 lD eg hK1 hK2
    refine icall Try.func105 tr105 rs105 fn105 (by simp [Try.ntmps105]) fun _ => ?_
    have hol : o.length = g := by omega
    have hLO := lent_ok hF hol (by omega)
    simp only [dfs, List.singleton_append, List.map_cons] at eg
    simp -implicitDefEqProofs [m105, l1, hol, eg]
    refine ⟨D, 1, g, g, rfl, cl g F, lD, hLO, ?_, ?_⟩
    · simp -implicitDefEqProofs [resI, r105]
      exact hK1 _ F hF (by simp [l1, hol]) (by simp [l2]) (by simp [lD]) (by simp)
    · simp -implicitDefEqProofs [resI, r105]
      exact hK2 _ (rest.map lentEl) (by simp)
  | k + 1 => by
    intro o rest F s K hlen hF l1 l2 lD eg hK1 hK2
    refine icall Try.func105 tr105 rs105 fn105 (by simp [Try.ntmps105]) fun _ => ?_
    have hol : ((o.length : Int) == (g : Int)) = false := by simp; omega
    rw [← dfsR_zero] at eg
    simp -implicitDefEqProofs [m105, l1, hol]
    refine loop_up n (fun j s => s.env 0 = .mref B1 0 ∧ s.env 1 = .ref [I g] ∧ s.env 2 = .ref [.func (.yield l) [] []] ∧ s.env 3 = .ref [titleRef c] ∧ s.env 4 = .mref B2 0 ∧ s.env 19 = I n ∧ s.env 20 = I j ∧
      s.loc B1 = some [.mslice D 0 o.length g 1] ∧ s.loc B2 = some [nextF l B1 B2 g c] ∧ (∃ F, OrdAt F o ∧ s.loc D = some (cl g F)) ∧ s.env 1000000 = .ghost l ((dfsR n k o j ++ rest).map lentEl) false) ?_ ?_
    · have : ∃ F, OrdAt F o ∧ s.loc D = some (cl g F) := ⟨F, hF, lD⟩
      simp [l1, l2, eg, this, hn]
    rintro j s hj ⟨e0, e1, e2, e3, e4, e19, e20, l1, l2, ⟨F, hF, lD⟩, eg⟩
    simp -implicitDefEqProofs [e19, e20]
    refine cond_dec (fun hlt => ?_) (fun hge => ?_)
    · have hlt : j < n := by omega
      have hc := contains_ok o (j : Int)
      simp -implicitDefEqProofs [e0, e20, l1]
      refine callL_of (ys := [IL o, I j]) (u := .bool (decide ((j : Int) ∈ o))) ?_ rfl hc ?_
      · simp -implicitDefEqProofs
        exact row_view lD hF (by omega) (by omega) rfl
      simp -implicitDefEqProofs
      refine cond_dec (fun hin => ?_) (fun hin => ?_)
      · rw [dfsR_in hlt hin] at eg
        simp -implicitDefEqProofs [e20]
        refine ⟨i64 (by omega) (by omega), round_ok hlt ?_⟩
        have : ∃ F, OrdAt F o ∧ s.loc D = some (cl g F) := ⟨F, hF, lD⟩
        simp [e0, e1, e2, e3, e4, e19, l1, l2, eg, this]
      · rw [dfsR_out hlt hin] at eg
        have hog : o.length + 1 ≤ g := by omega
        simp -implicitDefEqProofs [e0, e4, l1, l2, lD, h1D, h12.symm, h2D, hog, cl_dem, cl_len, cl_set]
        rw [List.append_assoc] at eg
        refine next_ok hn hn6 hg6 h12 h1D h2D k (o ++ [(j : Int)]) (dfsR n k o (j + 1) ++ rest) _ _ _ (by simp; omega) (ordAt_snoc hF) (by simp) (by simp [l2, h12.symm, h2D]) (by simp [h1D.symm]) (by simp [eg]) ?_ ?_
        · intro s2 F2 hF2 k1 k2 kD kg
          simp -implicitDefEqProofs [e0, e20, k1]
          refine ⟨i64 (by omega) (by omega), by omega, i64 (by omega) (by omega), round_ok hlt ?_⟩
          have : ∃ F, OrdAt F o ∧ cl g F2 = cl g F := ⟨F2, ordAt_left hF2, rfl⟩
          simp [e0, e1, e2, e3, e4, e19, k2, kD, kg, h12.symm, h1D.symm, this]
        · intro s2 r kg
          simp -implicitDefEqProofs [resI, r105]
          exact hK2 _ r (by simp [kg])
    · obtain rfl : j = n := by omega
      rw [dfsR_end] at eg
      simp -implicitDefEqProofs [resI, r105]
      exact hK1 _ F hF (by simp [l1]) (by simp [l2]) (by simp [lD]) (by simpa using eg)

theorem zeros_cl (n : Nat) : List.replicate n (I 0) = cl n fun _ => 0 := by
  apply List.ext_getElem (by simp [cl])
  intro i h1 h2
  rw [cl_at]; simp

def ordersUp (n k : Nat) : List (List Int) := (List.range k).flatMap (allO n)
def ordersL (n : Nat) : List (List Int) := ordersUp n (n + 1)
theorem dfs_nil (n m : Nat) : dfs n m [] = allO n m := by
  have := dfs_all n m 0
  simpa [allO] using this
theorem ordersUp_left {n k : Nat} (hk : k < n + 1) : ((List.range (n + 1)).drop k).flatMap (allO n) = dfs n k [] ++ ((List.range (n + 1)).drop (k + 1)).flatMap (allO n) := by
  rw [drop_cons (l := List.range (n + 1)) (k := k) (by simpa using hk), List.flatMap_cons, dfs_nil]
  simp

theorem orders104_ok {c : Case} (h : c.OK) : PSeq Try.prog 104 [] [.ref [titleRef c]] ((ordersL c.owners.length).map lentEl) := by
  have hn6 := h.ownersLen
  obtain ⟨n, hn⟩ : ∃ n, c.owners.length = n := ⟨_, rfl⟩
  have hord : ordersL c.owners.length = ((List.range (n + 1)).drop 0).flatMap (allO n) := by rw [hn]; rfl
  rw [hord]
  refine pseq Try.func104 tr104 rs104 fn104 (by simp [Try.ntmps104]) fun l hfit => ?_
  simp -implicitDefEqProofs [m104, hn]
  refine ⟨i64 (by omega) (by omega), ?_⟩
  refine loop_up (n + 1) (fun k s => s.env 1 = .ref [titleRef c] ∧ s.env 2 = .ref [.func (.yield l) [] []] ∧ s.env 12 = I ((n + 1 : Nat) : Int) ∧ s.env 13 = I k ∧ s.env 1000000 = .ghost l ((((List.range (n + 1)).drop k).flatMap (allO n)).map lentEl) false) ?_ ?_
  · simp
  rintro k s hk ⟨e1, e2, e12, e13, eg⟩
  simp -implicitDefEqProofs [e12, e13]
  refine cond_dec (fun hlt => ?_) (fun hge => ?_)
  · have hlt : k < n + 1 := by omega
    rw [ordersUp_left hlt] at eg
    simp -implicitDefEqProofs [e1, e2, e13]
    intro b3 hb3
    refine ⟨by omega, by omega, ?_⟩
    intro D hD B1 hB1 B2 hB2
    have h1D : ¬ B1 = D := by rintro rfl; simp at hB1
    have h21 : ¬ B2 = B1 := by rintro rfl; simp at hB2
    have h2D : ¬ B2 = D := by rintro rfl; simp [h21] at hB2
    refine next_ok hn (by omega) (g := k) (by omega) (B1 := B1) (B2 := B2) (D := D) (fun e => h21 e.symm) h1D h2D k [] (((List.range (n + 1)).drop (k + 1)).flatMap (allO n)) (fun _ => 0) _ _ (by simp) (fun i hi => by simp at hi) ?_ ?_ ?_ ?_ ?_ ?_
    · have : ¬ B1 = B2 := fun e => h21 e.symm
      simp [this]
    · simp
    · have h3 : ¬ D = B1 := fun e => h1D e.symm
      have h4 : ¬ D = B2 := fun e => h2D e.symm
      simp [h3, h4, zeros_cl]
    · simp [eg]
    · intro s2 F2 _ _ _ _ kg
      simp -implicitDefEqProofs [e13]
      refine ⟨i64 (by omega) (by omega), round_ok hlt ⟨by simp [e1], by simp [e2], by simp [e12], by simp, by simp [kg]⟩⟩
    · intro s2 r kg
      simp -implicitDefEqProofs
      exact ⟨r, .inr (by simp [kg])⟩
  · obtain rfl : k = n + 1 := by omega
    rw [List.drop_of_length_le (by simp)] at eg
    simp -implicitDefEqProofs
    exact ⟨[], .inl ⟨by simpa using eg, rfl⟩⟩

theorem orders90_ok (c : Case) : PCall Try.prog 90 [titleRef c] (.func (.func 104) [] [.ref [titleRef c]]) := by
  refine pcall Try.func90 tr90 rs90 fn90 (by simp [Try.ntmps90]) fun _ => ?_
  simp -implicitDefEqProofs [m90, r90]
end Go.Proofs.Ytiampdiobdianaa

namespace Go.Proofs.Ytiampdiobdianaa
open Go.Avm

abbrev chainAV (c : Case) (l : List Hold) : AV := .agg [HL (cutL l), I (unknownS c l)]
abbrev chainEl (c : Case) (p : List Int × List Hold) : List AV := [IL p.1, chainAV c p.2]
def solved (c : Case) (o : List Int) : Option (List Int × List Hold) := (solveS c o).map fun l => (o, l)
def chainsOf (c : Case) (os : List (List Int)) : List (List Int × List Hold) := os.filterMap (solved c)
def chainsL (c : Case) : List (List Int × List Hold) := chainsOf c (ordersL c.owners.length)
theorem chainsOf_no {c : Case} {o : List Int} {os : List (List Int)} (h : solveS c o = none) : chainsOf c (o :: os) = chainsOf c os := by
  simp [chainsOf, solved, h]
theorem chainsOf_yes {c : Case} {o : List Int} {os : List (List Int)} {l : List Hold} (h : solveS c o = some l) : chainsOf c (o :: os) = (o, l) :: chainsOf c os := by
  simp [chainsOf, solved, h]
theorem ordersL_each {n : Nat} {o : List Int} (h : o ∈ ordersL n) : o.length ≤ n ∧ o.Nodup ∧ ∀ x ∈ o, 0 ≤ x ∧ x < n := by
  unfold ordersL ordersUp at h
  rw [List.mem_flatMap] at h
  obtain ⟨i, hi, h⟩ := h
  have := allO_each n i o h
  simp at hi
  exact ⟨by omega, this.2.1, this.2.2⟩

theorem all89_ok {c : Case} (h : c.OK) : PSeq Try.prog 89 [] [.ref [titleRef c]] ((chainsL c).map (chainEl c)) := by
  have hn6 := h.ownersLen
  refine pseq Try.func89 tr89 rs89 fn89 (by simp [Try.ntmps89]) fun l hfit => ?_
  simp -implicitDefEqProofs [m89]
  refine vCall_of (orders90_ok c) ?_
  simp -implicitDefEqProofs
  refine rangeL_of ((ordersL c.owners.length).map IL) (fun j s => s.env 1 = .ref [titleRef c] ∧ s.env 2 = .ref [.func (.yield l) [] []] ∧
    s.env 1000000 = .ghost l ((chainsOf c ((ordersL c.owners.length).drop j)).map (chainEl c)) false) ?_ ?_ ?_ ?_
  · have := orders104_ok h
    rw [List.map_map]
    exact this
  · simp [chainsL]
  · rintro j st2 hj - ⟨e1, e2, eg⟩ d sz len cap cs hd hLO
    have hj : j < (ordersL c.owners.length).length := by simpa using hj
    have hoe := ordersL_each (List.getElem_mem hj)
    rw [drop_cons hj] at eg
    rw [show ((ordersL c.owners.length).map IL).getD j .any = IL (ordersL c.owners.length)[j] by simp [hj]] at hLO ⊢
    generalize (ordersL c.owners.length)[j] = o at *
    obtain ⟨rfl, rfl, hcs, hcap, hat⟩ := lent_row rfl hLO
    obtain ⟨L, hL⟩ : ∃ L, L = chainsOf c ((ordersL c.owners.length).drop (j + 1)) := ⟨_, rfl⟩
    simp -implicitDefEqProofs [putAt, e1]
    refine solve64_ok h hoe.2.2 (by omega) (.inr ⟨d, cap, cs, rfl, by simp, hLO⟩) (fun s2 l2 hs hO => ?_) (fun s2 l2 u hs hO => ?_)
    · rw [chainsOf_yes hs] at eg
      have ld := hO.l d cs (by simp) hLO.2.2.2.2.2
      have lg := hO.g l _ false (by simp; exact eg)
      have hce : cs.map AV.erase0 = cs := hLO.2.2.2.2.2
      have hcc : cs.all AV.cell1 = true := hLO.2.2.2.2.1
      have htk : cs.take o.length = o.map I := by
        apply List.ext_getElem (by simp; omega)
        intro i h1 h2
        have hi : i < o.length := by simpa using h2
        have := hat i hi
        rw [List.getD_eq_getElem?_getD, List.getElem?_eq_getElem (by omega), Option.getD_some] at this
        simp [this]
      have hsp : splice (List.replicate o.length (AV.lit (Value.int IntKind.i64 0))) 0 (o.map I) = o.map I := by
        rw [splice_all _ _ _ (by simp)]; simp
      have hch : chunk 1 (o.map I) o.length = o.map I := by
        rw [chunk_cl _ _ (by simp) (fun x hx => by rw [List.mem_map] at hx; obtain ⟨m, _, rfl⟩ := hx; exact ⟨m, rfl⟩)]
        exact List.take_of_length_le (by simp)
      simp -implicitDefEqProofs
      intro b4 hb4
      have hd4 : ¬ d = b4 := by rintro rfl; rw [ld] at hb4; cases hb4
      refine ⟨by omega, by omega, ?_⟩
      intro b6 hb6
      have hd6 : ¬ d = b6 := by rintro rfl; simp [hd4, ld] at hb6
      simp -implicitDefEqProofs [hd4, hd6, ld, hce, htk, hsp]
      refine ⟨hcs, fun x hx => List.all_eq_true.1 hcc x hx, by omega, ?_⟩
      simp -implicitDefEqProofs [upd, hch, lg, hd4, hd6, ld, e2]
    · rw [chainsOf_no hs] at eg
      have ld := hO.l d cs (by simp) hLO.2.2.2.2.2
      have lg := hO.g l _ false (by simp; exact eg)
      simp -implicitDefEqProofs
      intro b hb
      have hne : ¬ d = b := by rintro rfl; rw [ld] at hb; cases hb
      exact ⟨⟨hne, by simp [hne, ld]⟩, lg⟩
  · rintro st2 - ⟨e1, e2, eg⟩
    have : (ordersL c.owners.length).drop ((ordersL c.owners.length).map IL).length = [] := by simp
    rw [this] at eg
    exact ⟨[], .inl ⟨eg, rfl⟩⟩

theorem all59_ok (c : Case) : PCall Try.prog 59 [titleRef c] (.func (.func 89) [] [.ref [titleRef c]]) := by
  refine pcall Try.func59 tr59 rs59 fn59 (by simp [Try.ntmps59]) fun _ => ?_
  simp -implicitDefEqProofs [m59, r59]

def someB (c : Case) : Bool := !(chainsL c).isEmpty
theorem some70_ok {c : Case} (h : c.OK) : PCall Try.prog 70 [titleRef c] (B (someB c)) := by
  refine pcall Try.func70 tr70 rs70 fn70 (by simp [Try.ntmps70]) fun _ => ?_
  simp -implicitDefEqProofs [m70]
  intro b
  refine vCall_of (all59_ok c) ?_
  simp -implicitDefEqProofs
  refine range_of _ (fun k s => k = 0 ∧ s.env 2 = .mref b 0 ∧ s.loc b = some [B false]) (all89_ok h) ?_ ?_ ?_ ?_
  · intro y hy
    rw [List.mem_map] at hy
    obtain ⟨p, _, rfl⟩ := hy
    exact ⟨rfl, rfl⟩
  · simp
  · rintro k st hk - ⟨rfl, e2, l2⟩
    have hne : someB c = true := by
      unfold someB
      have hk : 0 < (chainsL c).length := by simpa using hk
      cases hc : chainsL c with
      | nil => rw [hc] at hk; simp at hk
      | cons a l => rfl
    have hk0 : 0 < (chainsL c).length := by simpa using hk
    rw [show ((chainsL c).map (chainEl c)).getD 0 [] = chainEl c (chainsL c)[0] by simp [hk0]]
    simp -implicitDefEqProofs [e2, l2, r70, hne]
  · rintro st - ⟨hk, e2, l2⟩
    have hne : someB c = false := by
      unfold someB
      have : (chainsL c).length = 0 := by simpa using hk
      rw [List.length_eq_zero_iff.1 this]; rfl
    simp -implicitDefEqProofs [e2, l2, r70, hne]

theorem chain60_ok (l : List Hold) (u : Int) : PCall Try.prog 60 [.agg [HL l, I u]] (I u) := by
  refine pcall Try.func60 tr60 rs60 fn60 (by simp [Try.ntmps60]) fun _ => ?_
  simp -implicitDefEqProofs [m60, r60]

def bestOf (c : Case) (p : Option (List Hold)) (l : List Hold) : Option (List Hold) := match p with
  | none => some l
  | some b => if unknownS c l < unknownS c b then some l else some b
def bestS (c : Case) (ps : List (List Int × List Hold)) : Option (List Hold) := ps.foldl (fun a p => bestOf c a p.2) none
def BestIn (c : Case) (b4 b5 : Nat) (s : St) : Option (List Hold) → Prop
  | none => s.loc b4 = some [.slice 3 [] 5000, I 0] ∧ s.loc b5 = some [B false]
  | some l => s.loc b4 = some [HL (cutL l), I (unknownS c l)] ∧ s.loc b5 = some [B true]
theorem best58_ok {c : Case} (h : c.OK) : PCall Try.prog 58 [.func (.func 89) [] [.ref [titleRef c]], .func (.func 60) [] []]
    (match bestS c (chainsL c) with | none => .tuple [.agg [HL [], I 0], B false] | some l => .tuple [chainAV c l, B true]) := by
  refine pcall Try.func58 tr58 rs58 fn58 (by simp [Try.ntmps58]) fun _ => ?_
  obtain ⟨R, hR⟩ : ∃ R, R = bestS c (chainsL c) := ⟨_, rfl⟩
  rw [← hR]
  simp -implicitDefEqProofs only [m58]
  refine cutS (fun st => st.env 0 = .func (.func 89) [] [.ref [titleRef c]] ∧ st.env 3 = .ref [.func (.func 60) [] []] ∧ ∃ b4 b5, st.env 4 = .mref b4 0 ∧ st.env 5 = .mref b5 0 ∧ b4 ≠ b5 ∧ st.loc b4 = some [.slice 3 [] 5000, I 0] ∧ st.loc b5 = some [B false]) ?_ ?_
  · intro k hk
    simp -implicitDefEqProofs
    intro b4 b5 h5
    have h54 : ¬ b5 = b4 := by rintro rfl; simp at h5
    have h45 : ¬ b4 = b5 := fun e => h54 e.symm
    exact hk _ ⟨by simp, by simp, b4, b5, by simp, by simp, h45, by simp [h45], by simp⟩
  rintro s ⟨e0, e3, b4, b5, e4, e5, h45, l4, l5⟩
  have h54 : ¬ b5 = b4 := fun e => h45 e.symm
  refine cutS (fun st => st.env 4 = .mref b4 0 ∧ st.env 5 = .mref b5 0 ∧ BestIn c b4 b5 st R) ?_ ?_
  · intro k0 hk0
    have o3 := e3
    have o4 := e4
    have o5 := e5
    simp -implicitDefEqProofs [e0]
    refine range_of _ (fun k st => st.env 3 = .ref [.func (.func 60) [] []] ∧ st.env 4 = .mref b4 0 ∧ st.env 5 = .mref b5 0 ∧ BestIn c b4 b5 st (bestS c ((chainsL c).take k))) (all89_ok h) ?_ ?_ ?_ ?_
    · intro y hy
      rw [List.mem_map] at hy
      obtain ⟨p, _, rfl⟩ := hy
      exact ⟨rfl, rfl⟩
    · refine ⟨by simp [e3], by simp [e4], by simp [e5], ?_⟩
      show _ ∧ _
      exact ⟨by simp [l4], by simp [l5]⟩
    · rintro k st hk - ⟨e3, e4, e5, hb⟩
      have hk : k < (chainsL c).length := by simpa using hk
      have htk := take_snoc hk
      rw [show ((chainsL c).map (chainEl c)).getD k [] = chainEl c (chainsL c)[k] by simp [hk]]
      have hsn : bestS c ((chainsL c).take (k + 1)) = bestOf c (bestS c ((chainsL c).take k)) (chainsL c)[k].2 := by
        unfold bestS; rw [htk, List.foldl_append]; rfl
      rw [hsn]
      generalize (chainsL c)[k] = p at *
      generalize bestS c ((chainsL c).take k) = q at *
      cases q with
      | none =>
        obtain ⟨l4, l5⟩ := hb
        simp -implicitDefEqProofs
        intro b7 h7
        have h47 : ¬ b4 = b7 := by rintro rfl; rw [l4] at h7; cases h7
        have h57 : ¬ b5 = b7 := by rintro rfl; rw [l5] at h7; cases h7
        simp -implicitDefEqProofs [e4, e5, l4, l5, h47, h57, h54]
        refine ⟨by simp [o3], by simp [o4], by simp [o5], ?_⟩
        show _ ∧ _
        exact ⟨by simp [h45], by simp⟩
      | some l =>
        obtain ⟨l4, l5⟩ := hb
        have c1 := chain60_ok (cutL p.2) (unknownS c p.2)
        have c2 := chain60_ok (cutL l) (unknownS c l)
        simp -implicitDefEqProofs
        intro b7 h7
        have h47 : ¬ b4 = b7 := by rintro rfl; rw [l4] at h7; cases h7
        have h57 : ¬ b5 = b7 := by rintro rfl; rw [l5] at h7; cases h7
        simp -implicitDefEqProofs [e3, e5, l5, h57, vCallv]
        refine vCall_of c1 ?_
        simp -implicitDefEqProofs [e3, e4, l4, h47, vCallv]
        refine vCall_of c2 ?_
        simp -implicitDefEqProofs
        refine cond_dec (fun hc => ?_) (fun hc => ?_)
        · have hB : bestOf c (some l) p.2 = some p.2 := by simp [bestOf, hc]
          rw [hB]
          simp -implicitDefEqProofs [e4, e5, l4, l5, h47, h57, h54]
          refine ⟨by simp [o3], by simp [o4], by simp [o5], ?_⟩
          show _ ∧ _
          exact ⟨by simp [h45], by simp⟩
        · have hB : bestOf c (some l) p.2 = some l := by simp [bestOf, hc]
          rw [hB]
          simp -implicitDefEqProofs
          refine ⟨by simp [o3], by simp [o4], by simp [o5], ?_⟩
          show _ ∧ _
          exact ⟨by simp [l4, h47], by simp [l5, h57]⟩
    · rintro st - ⟨e3, e4, e5, hb⟩
      rw [show ((chainsL c).map (chainEl c)).length = (chainsL c).length by simp, List.take_length, ← hR] at hb
      exact hk0 _ ⟨e4, e5, hb⟩
  rintro s ⟨e4, e5, hb⟩
  cases R with
  | none =>
    obtain ⟨l4, l5⟩ := hb
    simp -implicitDefEqProofs [e4, e5, l4, l5, h45, h54, apartAV, r58]
  | some l =>
    obtain ⟨l4, l5⟩ := hb
    simp -implicitDefEqProofs [e4, e5, l4, l5, h45, h54, apartAV, r58]
end Go.Proofs.Ytiampdiobdianaa

namespace Go.Proofs.Ytiampdiobdianaa
open Go.Avm

structure ChainR where
  l : List Hold
  u : Int
  e : Int
abbrev encChain (r : ChainR) : AV := .tuple [HL r.l, I r.u, I r.e]
def chainS (c : Case) : ChainR := if errE c ≠ 0 then ⟨[], 0, errE c⟩ else match bestS c (chainsL c) with
  | none => ⟨[], 0, 8⟩
  | some l => ⟨cutL l, unknownS c l, 0⟩

theorem chain18_ok (c : Case) : PCall Try.prog 18 [encCase c] (encChain (chainS c)) := by
  refine pcall Try.func18 tr18 rs18 fn18 (by simp [Try.ntmps18]) fun _ => ?_
  obtain ⟨R, hR⟩ : ∃ R, R = chainS c := ⟨_, rfl⟩
  rw [← hR]
  unfold chainS at hR
  by_cases he : errE c = 0
  case neg =>
    rw [if_pos he] at hR
    have hc := enter_no he
    obtain ⟨E, hE⟩ : ∃ E, E = errE c := ⟨_, rfl⟩
    rw [← hE] at hc hR he
    have he' : (E != 0) = true := by simp [he]
    simp -implicitDefEqProofs [m18]
    refine vCall_of hc ?_
    simp -implicitDefEqProofs [he', r18, hR]
  rw [if_neg (not_not_intro he)] at hR
  have hb := best58_ok (Case.ok he)
  simp -implicitDefEqProofs [m18]
  refine vCall_of (enter_yes he) ?_
  simp -implicitDefEqProofs
  refine vCall_of (all59_ok c) ?_
  simp -implicitDefEqProofs
  cases h : bestS c (chainsL c) with
  | none =>
    rw [h] at hb hR
    refine vCall_of hb ?_
    simp -implicitDefEqProofs
    intro b7
    simp -implicitDefEqProofs [r18, hR]
  | some l =>
    rw [h] at hb hR
    refine vCall_of hb ?_
    simp -implicitDefEqProofs
    intro b7
    simp -implicitDefEqProofs [r18, hR]

def orderE (c : Case) (order : List Int) : Int := if out 0 ((c.owners.length : Int) - 1) order then 4 else if order.Nodup then 0 else 5
structure R2 where
  a : Int
  e : Int
abbrev encR2 (r : R2) : AV := .tuple [I r.a, I r.e]
def whyS (c : Case) (order : List Int) : R2 := if errE c ≠ 0 then ⟨0, errE c⟩ else if orderE c order ≠ 0 then ⟨0, orderE c order⟩ else match solveS c order with
  | none => ⟨0, 9⟩
  | some l => ⟨unknownS c l, 0⟩

theorem nodup_len : ∀ (n : Nat) (o : List Int), o.Nodup → (∀ x ∈ o, 0 ≤ x ∧ x < (n : Int)) → o.length ≤ n
  | 0, o, _, h => by
    cases o with
    | nil => simp
    | cons a o => have := h a (by simp); omega
  | n + 1, o, hn, h => by
    by_cases hm : (n : Int) ∈ o
    · have h1 := nodup_len n (o.erase n) (hn.erase _) (fun x hx => by
        have := (hn.mem_erase_iff).1 hx
        have h2 := h x this.2
        omega)
      rw [List.length_erase_of_mem hm] at h1
      omega
    · have h1 := nodup_len n o hn (fun x hx => by
        have h2 := h x hx
        have : x ≠ n := fun e => hm (e ▸ hx)
        omega)
      omega
theorem out_no {lo hi : Int} {l : List Int} (h : out lo hi l = false) : ∀ x ∈ l, lo ≤ x ∧ x ≤ hi := by
  unfold out at h
  rw [List.any_eq_false] at h
  intro x hx
  have := h x hx
  simp at this
  omega
theorem orderE_zero {c : Case} {order : List Int} (h : orderE c order = 0) : (∀ x ∈ order, 0 ≤ x ∧ x < (c.owners.length : Int)) ∧ order.Nodup ∧ order.length ≤ c.owners.length := by
  unfold orderE at h
  split at h
  · cases h
  rename_i h1
  split at h
  · rename_i h2
    have h3 : ∀ x ∈ order, 0 ≤ x ∧ x < (c.owners.length : Int) := fun x hx => by
      have := out_no (by simpa using h1) x hx
      omega
    exact ⟨h3, h2, nodup_len _ _ h2 h3⟩
  · cases h
theorem nodup_snoc {o : List Int} {x : Int} (h : o.Nodup) (hx : x ∉ o) : (o ++ [x]).Nodup := by
  rw [List.nodup_append]
  refine ⟨h, by simp, fun a ha b hb e => ?_⟩
  rw [List.mem_singleton] at hb
  exact hx (by rw [← hb, ← e]; exact ha)

theorem why21_ok (c : Case) (order : List Int) : PCall Try.prog 21 [encCase c, IL order] (encR2 (whyS c order)) := by
  refine pcall Try.func21 tr21 rs21 fn21 (by simp [Try.ntmps21]) fun hfit => ?_
  have hl : order.length ≤ 140737488355328 := by simpa using fits_len (hfit 1)
  have lS := fits_len (fits_agg (hfit 0) 2)
  simp only [List.length_map] at lS
  obtain ⟨R, hR⟩ : ∃ R, R = whyS c order := ⟨_, rfl⟩
  rw [← hR]
  unfold whyS at hR
  simp -implicitDefEqProofs only [m21]
  refine cutS (fun st => st.env 1 = IL order ∧ st.env 2 = caseRef c) ?_ ?_
  · intro k hk
    simp -implicitDefEqProofs
    exact hk _ (by simp)
  rintro s ⟨e1, e2⟩
  by_cases he : errE c = 0
  case neg =>
    rw [if_pos he] at hR
    have hc := enter_no he
    obtain ⟨E, hE⟩ : ∃ E, E = errE c := ⟨_, rfl⟩
    rw [← hE] at hc hR he
    have he' : (E != 0) = true := by simp [he]
    simp -implicitDefEqProofs [e2]
    refine vCall_of hc ?_
    simp -implicitDefEqProofs [he', r21, hR]
  rw [if_neg (not_not_intro he)] at hR
  have hok := Case.ok he
  have hol := hok.ownersLen
  refine cutS (fun st => st.env 1 = IL order ∧ st.env 2 = caseRef c ∧ st.env 6 = titleRef c ∧ st.env 5 = I 0) ?_ ?_
  · intro k hk
    simp -implicitDefEqProofs [e2]
    refine vCall_of (enter_yes he) ?_
    simp -implicitDefEqProofs
    exact hk _ (by simp [e1, e2])
  rintro s ⟨e1, e2, e6, e5⟩
  refine cutS (fun st => st.env 1 = IL order ∧ st.env 6 = titleRef c ∧ out 0 ((c.owners.length : Int) - 1) order = false) ?_ ?_
  · intro k hk
    simp -implicitDefEqProofs [e1, e2, e5]
    refine ⟨i64 (by omega) (by omega), vCall_of (outside_ok 0 ((c.owners.length : Int) - 1) order) ?_⟩
    cases ho : out 0 ((c.owners.length : Int) - 1) order with
    | true =>
      have hE : orderE c order = 4 := by unfold orderE; rw [ho]; rfl
      rw [hE] at hR
      simp -implicitDefEqProofs [r21, hR]
    | false =>
      simp -implicitDefEqProofs
      exact hk _ ⟨by simp [e1], by simp [e6], ho⟩
  rintro s ⟨e1, e6, ho⟩
  refine cutS (fun st => st.env 1 = IL order ∧ st.env 6 = titleRef c ∧ order.Nodup) ?_ ?_
  · intro k0 hk0
    simp -implicitDefEqProofs [e1]
    refine loop_up order.length (fun k st => st.env 1 = IL order ∧ st.env 6 = titleRef c ∧ st.env 27 = IL order ∧ st.env 28 = I order.length ∧ st.env 29 = I k ∧ (order.take k).Nodup) ?_ ?_
    · simp [e1, e6]
    rintro k s hk ⟨e1, e6, e27, e28, e29, hnd⟩
    simp -implicitDefEqProofs [e28, e29]
    refine cond_dec (fun hlt => ?_) (fun hge => ?_)
    · have hlt : k < order.length := by omega
      have hc : PCall Try.prog 63 [.slice 1 ((order.map I).take k) 0, I order[k]] (B (decide (order[k] ∈ order.take k))) := by
        rw [← List.map_take]; exact contains_ok _ _
      have hts := take_snoc hlt
      have hsn := nodup_snoc (x := order[k]) hnd
      rw [← hts] at hsn
      have hbad : order[k] ∈ order.take k → ¬ order.Nodup := fun hin hn => by
        have : (order.take (k + 1)).Nodup := hn.sublist (List.take_sublist _ _)
        rw [hts, List.nodup_append] at this
        exact this.2.2 _ hin _ (by simp) rfl
      simp -implicitDefEqProofs [e1, e27, e29, hlt]
      refine ⟨by omega, vCall_of hc ?_⟩
      simp -implicitDefEqProofs
      refine cond_dec (fun hin => ?_) (fun hin => ?_)
      · have hE : orderE c order = 5 := by unfold orderE; rw [ho]; simp [hbad hin]
        rw [hE] at hR
        simp -implicitDefEqProofs [r21, hR]
      · simp -implicitDefEqProofs [e29]
        exact ⟨i64 (by omega) (by omega), round_ok hlt ⟨by simp [e1], by simp [e6], by simp [e27], by simp [e28], by simp, hsn hin⟩⟩
    · obtain rfl : k = order.length := by omega
      rw [List.take_length] at hnd
      simp -implicitDefEqProofs
      exact hk0 _ ⟨by simp [e1], by simp [e6], hnd⟩
  rintro s ⟨e1, e6, hnd⟩
  have hE : orderE c order = 0 := by unfold orderE; rw [ho]; simp [hnd]
  obtain ⟨h1, h2, h3⟩ := orderE_zero hE
  rw [hE, if_neg (by simp)] at hR
  simp -implicitDefEqProofs [e1, e6]
  refine solve64_ok hok h1 (by omega) (.inl rfl) (fun s2 l hs hO => ?_) (fun s2 l u hs hO => ?_)
  · rw [hs] at hR
    simp -implicitDefEqProofs
    intro b hb
    simp -implicitDefEqProofs [r21, hR]
  · rw [hs] at hR
    simp -implicitDefEqProofs
    intro b hb
    simp -implicitDefEqProofs [r21, hR]
end Go.Proofs.Ytiampdiobdianaa

namespace Go.Proofs.Ytiampdiobdianaa
open Go.Avm

theorem flat_len {α β : Type} (f : α → List β) (m : Nat) : ∀ l : List α, (∀ x ∈ l, (f x).length ≤ m) → (l.flatMap f).length ≤ l.length * m
  | [], _ => by simp
  | x :: l, h => by
    have h1 := h x (by simp)
    have h2 := flat_len f m l (fun y hy => h y (by simp [hy]))
    simp only [List.flatMap_cons, List.length_append, List.length_cons, Nat.add_mul]
    omega
theorem ordersL_len {n : Nat} (hn : n ≤ 6) : (ordersL n).length ≤ 326592 := by
  have h := flat_len (allO n) 46656 (List.range (n + 1)) fun i hi => by
    refine Nat.le_trans (allO_len n i) ?_
    refine Nat.le_trans (Nat.pow_le_pow_left hn i) ?_
    have : i ≤ 6 := by simp at hi; omega
    exact Nat.le_trans (Nat.pow_le_pow_right (by omega) this) (by decide)
  rw [List.length_range] at h
  have : (ordersL n).length ≤ (n + 1) * 46656 := h
  omega
theorem chainsL_len {c : Case} (h : c.OK) : (chainsL c).length ≤ 326592 :=
  Nat.le_trans (List.length_filterMap_le _ _) (ordersL_len h.ownersLen)

def catO (a b : Int) (o : List Int) : Nat := if at' o a < 0 ∨ at' o b < 0 then 0 else if at' o a < at' o b then 1 else 2
def cntO (a b : Int) (j : Nat) (ps : List (List Int × List Hold)) : Nat := ps.countP fun p => decide (catO a b p.1 = j)
theorem cntO_snoc (a b : Int) (j : Nat) (ps : List (List Int × List Hold)) (p : List Int × List Hold) : cntO a b j (ps ++ [p]) = cntO a b j ps + if catO a b p.1 = j then 1 else 0 := by
  simp [cntO, List.countP_append, List.countP_cons]
theorem catO_lt (a b : Int) (o : List Int) : catO a b o < 3 := by unfold catO; split <;> (try split) <;> omega
def beforeN (n1 n2 : Nat) : Int := if 0 < n1 ∧ n2 = 0 then 1 else if 0 < n2 ∧ n1 = 0 then 2 else 0
def beforeS (c : Case) (a b : Int) : R2 :=
  if errE c ≠ 0 then ⟨0, errE c⟩ else
  if out 0 ((c.owners.length : Int) - 1) [a, b] then ⟨0, 4⟩ else
  if a = b then ⟨0, 2⟩ else
  if chainsL c = [] then ⟨0, 8⟩ else ⟨beforeN (cntO a b 1 (chainsL c)) (cntO a b 2 (chainsL c)), 0⟩

theorem before24_ok (c : Case) (a b : Int) : PCall Try.prog 24 [encCase c, I a, I b] (encR2 (beforeS c a b)) := by
  refine pcall Try.func24 tr24 rs24 fn24 (by simp [Try.ntmps24]) fun hfit => ?_
  have lS := fits_len (fits_agg (hfit 0) 2)
  simp only [List.length_map] at lS
  obtain ⟨R, hR⟩ : ∃ R, R = beforeS c a b := ⟨_, rfl⟩
  rw [← hR]
  unfold beforeS at hR
  simp -implicitDefEqProofs only [m24]
  refine cutS (fun st => st.env 3 = caseRef c ∧ st.env 4 = .ref [I a] ∧ st.env 5 = .ref [I b]) ?_ ?_
  · intro k hk
    simp -implicitDefEqProofs
    exact hk _ (by simp)
  rintro s ⟨e3, e4, e5⟩
  by_cases he : errE c = 0
  case neg =>
    rw [if_pos he] at hR
    have hc := enter_no he
    obtain ⟨E, hE⟩ : ∃ E, E = errE c := ⟨_, rfl⟩
    rw [← hE] at hc hR he
    have he' : (E != 0) = true := by simp [he]
    simp -implicitDefEqProofs [e3]
    refine vCall_of hc ?_
    simp -implicitDefEqProofs [he', r24, hR]
  rw [if_neg (not_not_intro he)] at hR
  have hok := Case.ok he
  have hol := hok.ownersLen
  refine cutS (fun st => st.env 3 = caseRef c ∧ st.env 4 = .ref [I a] ∧ st.env 5 = .ref [I b] ∧ st.env 8 = titleRef c ∧ st.env 9 = I 0) ?_ ?_
  · intro k hk
    simp -implicitDefEqProofs [e3]
    refine vCall_of (enter_yes he) ?_
    simp -implicitDefEqProofs
    exact hk _ (by simp [e3, e4, e5])
  rintro s ⟨e3, e4, e5, e8, e9⟩
  refine cutS (fun st => st.env 4 = .ref [I a] ∧ st.env 5 = .ref [I b] ∧ st.env 8 = titleRef c ∧ out 0 ((c.owners.length : Int) - 1) [a, b] = false ∧ a ≠ b) ?_ ?_
  · intro k hk
    simp -implicitDefEqProofs [e3, e4, e5, e9]
    refine ⟨i64 (by omega) (by omega), vCall_of (outside_ok 0 ((c.owners.length : Int) - 1) [a, b]) ?_⟩
    cases ho : out 0 ((c.owners.length : Int) - 1) [a, b] with
    | true =>
      rw [ho, if_pos rfl] at hR
      simp -implicitDefEqProofs [r24, hR]
    | false =>
      rw [ho, if_neg (by simp)] at hR
      by_cases hab : a = b
      · rw [if_pos hab] at hR
        have hab' : (a == b) = true := by simp [hab]
        simp -implicitDefEqProofs [e4, e5, hab', r24, hR]
      · have hab' : (a == b) = false := by simp [hab]
        simp -implicitDefEqProofs [e4, e5, hab']
        exact hk _ ⟨by simp [e4], by simp [e5], by simp [e8], ho, hab⟩
  rintro s ⟨e4, e5, e8, ho, hab⟩
  rw [ho, if_neg (by simp), if_neg hab] at hR
  refine cutS (fun st => st.env 4 = .ref [I a] ∧ st.env 5 = .ref [I b] ∧ st.env 8 = titleRef c ∧ ∃ q, st.env 10 = .mref q 0 ∧ st.loc q = some [I 0, I 0, I 0]) ?_ ?_
  · intro k hk
    simp -implicitDefEqProofs
    intro q hq
    exact hk _ ⟨by simp [e4], by simp [e5], by simp [e8], q, by simp, by simp⟩
  rintro s ⟨e4, e5, e8, q, e10, lq⟩
  obtain ⟨C, hC⟩ : ∃ C, C = chainsL c := ⟨_, rfl⟩
  have hlen := chainsL_len hok
  have hall := all89_ok hok
  rw [← hC] at hlen hall hR
  refine cutS (fun st => st.env 10 = .mref q 0 ∧ st.loc q = some [I (cntO a b 0 C), I (cntO a b 1 C), I (cntO a b 2 C)]) ?_ ?_
  · intro k0 hk0
    have o4 := e4
    have o5 := e5
    have o10 := e10
    simp -implicitDefEqProofs [e8]
    refine vCall_of (all59_ok c) ?_
    simp -implicitDefEqProofs
    refine range_of _ (fun k st => st.env 4 = .ref [I a] ∧ st.env 5 = .ref [I b] ∧ st.env 10 = .mref q 0 ∧ st.loc q = some [I (cntO a b 0 (C.take k)), I (cntO a b 1 (C.take k)), I (cntO a b 2 (C.take k))]) hall ?_ ?_ ?_ ?_
    · intro y hy
      rw [List.mem_map] at hy
      obtain ⟨p, _, rfl⟩ := hy
      exact ⟨rfl, rfl⟩
    · simp [e4, e5, e10, lq, cntO]
    · rintro k st hk - ⟨e4, e5, e10, lq⟩
      have hk : k < C.length := by simpa using hk
      have htk := take_snoc hk
      rw [show (C.map (chainEl c)).getD k [] = chainEl c C[k] by simp [hk]]
      have hs0 := cntO_snoc a b 0 (C.take k) C[k]
      have hs1 := cntO_snoc a b 1 (C.take k) C[k]
      have hs2 := cntO_snoc a b 2 (C.take k) C[k]
      rw [← htk] at hs0 hs1 hs2
      have hb : ∀ j, cntO a b j (C.take k) ≤ 326592 := fun j => Nat.le_trans (List.countP_le_length) (by simp; omega)
      have hb0 := hb 0
      have hb1 := hb 1
      have hb2 := hb 2
      have i1 := index_ok C[k].1 a
      have i2 := index_ok C[k].1 b
      have hcat : catO a b C[k].1 = if at' C[k].1 a < 0 ∨ at' C[k].1 b < 0 then 0 else if at' C[k].1 a < at' C[k].1 b then 1 else 2 := rfl
      rw [hs0, hs1, hs2]
      generalize catO a b C[k].1 = cat at *
      generalize at' C[k].1 a = x at *
      generalize at' C[k].1 b = y at *
      generalize C[k] = p at *
      generalize cntO a b 0 (C.take k) = n0 at *
      generalize cntO a b 1 (C.take k) = n1 at *
      generalize cntO a b 2 (C.take k) = n2 at *
      simp -implicitDefEqProofs [e4]
      refine vCall_of i1 ?_
      simp -implicitDefEqProofs [e5]
      refine vCall_of i2 ?_
      by_cases hx : x < 0
      · have hc0 : cat = 0 := by rw [hcat, if_pos (.inl hx)]
        subst hc0
        simp -implicitDefEqProofs [hx, e10, lq]
        refine ⟨i64 (by omega) (by omega), ?_⟩
        simp [o4, o5, o10]
      by_cases hy : y < 0
      · have hc0 : cat = 0 := by rw [hcat, if_pos (.inr hy)]
        subst hc0
        simp -implicitDefEqProofs [hx, hy, e10, lq]
        refine ⟨i64 (by omega) (by omega), ?_⟩
        simp [o4, o5, o10]
      rw [if_neg (by omega)] at hcat
      by_cases hxy : x < y
      · rw [if_pos hxy] at hcat
        subst hcat
        simp -implicitDefEqProofs [hx, hy, hxy, e10, lq]
        refine ⟨i64 (by omega) (by omega), ?_⟩
        simp [o4, o5, o10]
      · rw [if_neg hxy] at hcat
        subst hcat
        simp -implicitDefEqProofs [hx, hy, hxy, e10, lq]
        refine ⟨i64 (by omega) (by omega), ?_⟩
        simp [o4, o5, o10]
    · rintro st - ⟨e4, e5, e10, lq⟩
      rw [show (C.map (chainEl c)).length = C.length by simp, List.take_length] at lq
      exact hk0 _ ⟨e10, lq⟩
  rintro s ⟨e10, lq⟩
  have hsum : cntO a b 0 C + cntO a b 1 C + cntO a b 2 C = C.length := by
    clear hlen hall hR lq hC
    induction C with
    | nil => rfl
    | cons p C ih =>
      have := catO_lt a b p.1
      simp only [cntO, List.countP_cons, List.length_cons] at ih ⊢
      have h3 : (if decide (catO a b p.1 = 0) = true then 1 else 0) + (if decide (catO a b p.1 = 1) = true then 1 else 0) + (if decide (catO a b p.1 = 2) = true then 1 else 0) = 1 := by
        rcases (by omega : catO a b p.1 = 0 ∨ catO a b p.1 = 1 ∨ catO a b p.1 = 2) with h | h | h <;> simp [h]
      omega
  generalize cntO a b 0 C = n0 at *
  generalize cntO a b 1 C = n1 at *
  generalize cntO a b 2 C = n2 at *
  by_cases hz : C = []
  · rw [if_pos hz] at hR
    rw [hz] at hsum
    simp only [List.length_nil] at hsum
    obtain ⟨rfl, rfl, rfl⟩ : n0 = 0 ∧ n1 = 0 ∧ n2 = 0 := by omega
    simp -implicitDefEqProofs [e10, lq, r24, hR]
  rw [if_neg hz] at hR
  have hpos : 0 < C.length := List.length_pos_iff.2 hz
  unfold beforeN at hR
  have hz3 : ((n0 : Int) == 0 && ((n1 : Int) == 0 && (n2 : Int) == 0)) = false := by
    rw [Bool.eq_false_iff]
    intro h
    simp at h
    omega
  by_cases p1 : 0 < n1
  · have z1 : ((n1 : Int) == 0) = false := by simp; omega
    by_cases p2 : 0 < n2
    · have z2 : ((n2 : Int) == 0) = false := by simp; omega
      rw [if_neg (by omega), if_neg (by omega)] at hR
      simp -implicitDefEqProofs [e10, lq, p1, p2, z1, z2, r24, hR]
    · obtain rfl : n2 = 0 := by omega
      rw [if_pos ⟨p1, rfl⟩] at hR
      simp -implicitDefEqProofs [e10, lq, p1, z1, r24, hR]
  · obtain rfl : n1 = 0 := by omega
    by_cases p2 : 0 < n2
    · have z2 : ((n2 : Int) == 0) = false := by simp; omega
      rw [if_neg (by omega), if_pos ⟨p2, rfl⟩] at hR
      simp -implicitDefEqProofs [e10, lq, p2, z2, r24, hR]
    · obtain rfl : n2 = 0 := by omega
      rw [if_neg (by omega), if_neg (by omega)] at hR
      have z0 : ((n0 : Int) == 0) = false := by simp; omega
      simp -implicitDefEqProofs [e10, lq, z0, r24, hR]
end Go.Proofs.Ytiampdiobdianaa

namespace Go.Proofs.Ytiampdiobdianaa
open Go.Avm

theorem clone95_ok {s : St} {K : AV → St → Prop} {l : List Mk} (hl : l.length ≤ 9)
    (hK : ∀ s2, Old s s2 → K (.slice 4 (l.map encMark) 3) (back s s2)) :
    ICall Try.prog 95 [.slice 4 (l.map encMark) 0] s K := by
  refine icall Try.func95 tr95 rs95 fn95 (by simp [Try.ntmps95]) fun _ => ?_
  simp -implicitDefEqProofs [m95]
  refine ⟨fun hn => ?_, by omega, by omega, ?_⟩
  · subst hn
    simp -implicitDefEqProofs [resI, r95]
    refine hK _ ⟨fun c cs hc he => ?_, fun l es q hg => by simp [hg]⟩
    simp [hc, dem_row he]
  · simp -implicitDefEqProofs [resI, r95]
    refine hK _ ⟨fun c cs hc he => ?_, fun l es q hg => by simp [hg]⟩
    simp [hc, dem_row he]

def mcells (l : List Mk) : List AV := l.flatMap fun m => [I m.owner, I m.lo, I m.hi, I m.upon]
theorem mcells_len (l : List Mk) : (mcells l).length = 4 * l.length := by
  induction l with
  | nil => rfl
  | cons a l ih => simp only [mcells, List.flatMap_cons, List.length_append, List.length_cons, List.length_nil] at ih ⊢; omega
theorem mcells_num (l : List Mk) : ∀ x ∈ mcells l, ∃ m, x = I m := by
  intro x hx
  simp only [mcells, List.mem_flatMap] at hx
  obtain ⟨h, _, hx⟩ := hx
  simp at hx
  rcases hx with rfl | rfl | rfl | rfl <;> exact ⟨_, rfl⟩
theorem chunk_mcells : ∀ (l : List Mk) (rest : List AV), chunk 4 (mcells l ++ rest) l.length = l.map encMark
  | [], _ => rfl
  | a :: l, rest => by
    have ih := chunk_mcells l rest
    show (if _ then _ else _) :: chunk 4 ((mcells (a :: l) ++ rest).drop 4) l.length = _
    have e : (mcells (a :: l) ++ rest).drop 4 = mcells l ++ rest := rfl
    rw [e, ih]
    rfl
def setYear (m : Mk) (y : Int) : Mk := ⟨m.owner, y, y, m.upon⟩
theorem mcells_set : ∀ (l : List Mk) (rest : List AV) (i : Nat) (h : i < l.length) (y : Int), ((mcells l ++ rest).set (i * 4 + 1) (I y)).set (i * 4 + 1 + 1) (I y) = mcells (l.set i (setYear l[i] y)) ++ rest
  | a :: l, rest, 0, h, y => rfl
  | a :: l, rest, i + 1, h, y => by
    have ih := mcells_set l rest i (by simpa using h) y
    have e : (i + 1) * 4 + 1 = i * 4 + 1 + 4 := by omega
    rw [e]
    show I a.owner :: I a.lo :: I a.hi :: I a.upon :: ((mcells l ++ rest).set (i * 4 + 1) (I y)).set (i * 4 + 1 + 1) (I y) = _
    rw [ih]; rfl
theorem clone95w_ok {s : St} {K : AV → St → Prop} {l : List Mk} (hl : l.length ≤ 9) (hne : l ≠ [])
    (hK : ∀ s2 b r, Old s s2 → NewB s b → s2.loc b = some (mcells l ++ (List.replicate r [I 0, I 0, I 0, I 0]).flatten) → K (.mslice b 0 l.length (l.length + r) 4) (back s s2)) :
    ICall Try.prog 95 [.slice 4 (l.map encMark) 0] s K := by
  refine icall Try.func95 tr95w rs95w fn95w (by simp [Try.ntmps95]) fun _ => ?_
  have hO : Old s s := ⟨fun _ _ h _ => h, fun _ _ _ h => h⟩
  simp -implicitDefEqProofs [m95w]
  refine ⟨fun e => absurd e hne, ?_⟩
  intro b1 hb1
  refine ⟨hne, by omega, by omega, ?_⟩
  intro b r hb
  have hb1' : s.loc b1 = none := by simpa using hb1
  have hbn : ¬ b = b1 ∧ s.loc b = none := by
    by_cases e : b = b1
    · subst e; simp at hb
    · exact ⟨e, by simpa [e] using hb⟩
  have hmc : List.map AV.erase0 (List.flatMap AV.cells (List.map encMark l)) = mcells l := by
    rw [List.flatMap_map, ← num_erase (mcells_num l)]; rfl
  simp -implicitDefEqProofs [resI, r95w, hmc]
  refine hK _ b r ⟨fun c cs hc he => ?_, fun l es q hg => by simp [hg]⟩ (hO.new hbn.2) (by simp)
  have c1 : ¬ c = b1 := by rintro rfl; rw [hc] at hb1'; cases hb1'
  have c2 : ¬ c = b := by rintro rfl; rw [hc] at hbn; cases hbn.2
  simp [hc, c1, c2, dem_row he]

def inC (c : Case) (i : Nat) (y : Int) : Case := { c with marks := c.marks.set i (setYear (c.marks.getD i mkD) y) }
theorem inC_ok {c : Case} (h : c.OK) {i : Nat} {y : Int} (hy : c.printed ≤ y ∧ y ≤ c.now) : (inC c i y).OK := by
  refine ⟨h.years, h.ownersLen, h.owners, by simp [inC]; exact h.marksLen, fun m hm => ?_, fun j hj => ?_, h.salesLen, h.sales⟩
  · rcases List.mem_or_eq_of_mem_set hm with hm | rfl
    · exact h.marks m hm
    · by_cases hi : i < c.marks.length
      · have := h.marks _ (List.getElem_mem hi)
        rw [mk_at hi]
        exact ⟨this.1, this.2.1, hy.1, Int.le_refl _, hy.2⟩
      · have : inC c i y = c := by
          unfold inC
          rw [List.set_eq_of_length_le (by omega)]
        have hm' : (setYear (c.marks.getD i mkD) y) ∈ c.marks := by rw [this] at hm; exact hm
        exact h.marks _ hm'
  · have hj' : j < c.marks.length := by simpa [inC] using hj
    have hu := h.upon j hj'
    show -1 ≤ ((c.marks.set i (setYear (c.marks.getD i mkD) y))[j]'(by simpa using hj')).upon ∧ ((c.marks.set i (setYear (c.marks.getD i mkD) y))[j]'(by simpa using hj')).upon < j
    rw [List.getElem_set]
    by_cases e : i = j
    · subst e
      rw [if_pos rfl, mk_at hj']
      exact hu
    · rw [if_neg e]; exact hu

theorem made71_ok {c : Case} (h : c.OK) {i : Nat} (hi : i < c.marks.length) {y : Int} (hy : c.printed ≤ y ∧ y ≤ c.now) : PCall Try.prog 71 [titleRef c, I i, I y] (B (someB (inC c i y))) := by
  refine pcall Try.func71 tr71 rs71 fn71 (by simp [Try.ntmps71]) fun _ => ?_
  have hm9 := h.marksLen
  have hc := some70_ok (inC_ok (i := i) h hy)
  generalize hB : someB (inC c i y) = Q at *
  have hne : c.marks ≠ [] := by intro e; rw [e] at hi; simp at hi
  simp -implicitDefEqProofs [m71]
  intro b7
  refine clone95w_ok hm9 hne fun s2 b r hO hn lb => ?_
  have l7 := hO.l b7 _ (by simp; rfl) (by simp)
  have hne7 : ¬ b7 = b := by rintro rfl; exact hn _ (by simp; rfl) (by simp)
  have hne7' : ¬ b = b7 := fun e => hne7 e.symm
  obtain ⟨rest, hrest⟩ : ∃ rest, rest = (List.replicate r [I 0, I 0, I 0, I 0]).flatten := ⟨_, rfl⟩
  have hrn : ∀ x ∈ rest, ∃ m, x = I m := by
    rw [hrest]
    intro x hx
    simp only [List.mem_flatten, List.mem_replicate] at hx
    obtain ⟨l, ⟨_, rfl⟩, hx⟩ := hx
    simp at hx
    exact ⟨0, hx⟩
  rw [← hrest] at lb
  have hlen : (mcells c.marks ++ rest).length = 4 * c.marks.length + rest.length := by rw [List.length_append, mcells_len]
  have hset := mcells_set c.marks rest i hi y
  have hi4 : i * 4 + 1 + 2 ≤ (mcells c.marks ++ rest).length := by omega
  have hin : inC c i y = { c with marks := c.marks.set i (setYear c.marks[i] y) } := by unfold inC; rw [mk_at hi]
  rw [hin] at hc
  have hch := chunk_mcells (c.marks.set i (setYear c.marks[i] y)) rest
  rw [List.length_set] at hch
  have hnum : ∀ x ∈ mcells (c.marks.set i (setYear c.marks[i] y)) ++ rest, ∃ m, x = I m := fun x hx => (List.mem_append.1 hx).elim (mcells_num _ x) (hrn x)
  have hlen2 : (mcells (c.marks.set i (setYear c.marks[i] y)) ++ rest).length = 4 * c.marks.length + rest.length := by rw [List.length_append, mcells_len, List.length_set]
  rw [List.length_append] at hi4
  simp -implicitDefEqProofs [l7, lb, hne7, hne7', hi, hset]
  refine ⟨by omega, ?_⟩
  generalize c.marks.set i (setYear c.marks[i] y) = ms at *
  refine frz_box 3 b c.marks.length (c.marks.length + r) 4 rfl hne7' (by simp) (by rw [hlen2]; omega) (num_cell1 hnum) (by omega) ?_
  rw [hch]
  simp -implicitDefEqProofs [upd, hne7]
  refine frz_all ?_
  simp -implicitDefEqProofs [upd]
  refine vCall_of hc ?_
  simp -implicitDefEqProofs [r71]
end Go.Proofs.Ytiampdiobdianaa

namespace Go.Proofs.Ytiampdiobdianaa
open Go.Avm

def hadC (c : Case) (o : Nat) (y : Int) : Case := { c with marks := c.marks ++ [⟨o, y, y, -1⟩] }
theorem hadC_ok {c : Case} (h : c.OK) (h8 : c.marks.length ≤ 8) {o : Nat} (ho : o < c.owners.length) {y : Int} (hy : c.printed ≤ y ∧ y ≤ c.now) : (hadC c o y).OK := by
  refine ⟨h.years, h.ownersLen, h.owners, by simp [hadC]; omega, fun m hm => ?_, fun j hj => ?_, h.salesLen, h.sales⟩
  · rcases List.mem_append.1 hm with hm | hm
    · exact h.marks m hm
    · rw [List.mem_singleton] at hm
      subst hm
      show (0 : Int) ≤ o ∧ (o : Int) < c.owners.length ∧ c.printed ≤ y ∧ y ≤ y ∧ y ≤ c.now
      omega
  · have hj' : j < c.marks.length + 1 := by simpa [hadC] using hj
    show -1 ≤ ((c.marks ++ [(⟨o, y, y, -1⟩ : Mk)])[j]'(by simpa using hj')).upon ∧ ((c.marks ++ [(⟨o, y, y, -1⟩ : Mk)])[j]'(by simpa using hj')).upon < j
    by_cases e : j < c.marks.length
    · rw [List.getElem_append_left e]; exact h.upon j e
    · rw [List.getElem_append_right (by omega)]
      simp; omega

def ownedS (c : Case) (y : Int) : List Int := selT (fun o => someB (hadC c o y)) c.owners.length

def upTo (p : Int → Bool) (lo : Int) : Nat → Int
  | 0 => lo
  | n + 1 => if p lo then lo else upTo p (lo + 1) n
def dnTo (p : Int → Bool) (hi : Int) : Nat → Int
  | 0 => hi
  | n + 1 => if p hi then hi else dnTo p (hi - 1) n
theorem upTo_in (p : Int → Bool) : ∀ (n : Nat) (lo : Int), lo ≤ upTo p lo n ∧ upTo p lo n ≤ lo + n
  | 0, lo => by simp [upTo]
  | n + 1, lo => by
    have := upTo_in p n (lo + 1)
    unfold upTo
    split <;> omega
theorem dnTo_in (p : Int → Bool) : ∀ (n : Nat) (hi : Int), hi - n ≤ dnTo p hi n ∧ dnTo p hi n ≤ hi
  | 0, hi => by simp [dnTo]
  | n + 1, hi => by
    have := dnTo_in p n (hi - 1)
    unfold dnTo
    split <;> omega
structure R3 where
  a : Int
  b : Int
  e : Int
abbrev encR3 (r : R3) : AV := .tuple [Span2 r.a r.b, I r.e]
def madeP (c : Case) (i : Nat) (y : Int) : Bool := someB (inC c i y)
def yearLoP (c : Case) (i : Nat) : Int := upTo (madeP c i) (c.marks.getD i mkD).lo ((c.marks.getD i mkD).hi - (c.marks.getD i mkD).lo).toNat
def yearHiP (c : Case) (i : Nat) : Int := dnTo (madeP c i) (c.marks.getD i mkD).hi ((c.marks.getD i mkD).hi - yearLoP c i).toNat
def yearS (c : Case) (i : Int) : R3 :=
  if errE c ≠ 0 then ⟨0, 0, errE c⟩ else
  if out 0 ((c.marks.length : Int) - 1) [i] then ⟨0, 0, 4⟩ else
  if someB c = false then ⟨0, 0, 8⟩ else ⟨yearLoP c i.toNat, yearHiP c i.toNat, 0⟩

theorem year26_ok (c : Case) (i : Int) : PCall Try.prog 26 [encCase c, I i] (encR3 (yearS c i)) := by
  refine pcall Try.func26 tr26 rs26 fn26 (by simp [Try.ntmps26]) fun hfit => ?_
  have lM := fits_len (fits_agg (hfit 0) 3)
  simp only [List.length_map] at lM
  obtain ⟨R, hR⟩ : ∃ R, R = yearS c i := ⟨_, rfl⟩
  rw [← hR]
  unfold yearS at hR
  simp -implicitDefEqProofs only [m26]
  refine cutS (fun st => st.env 1 = I i ∧ st.env 2 = caseRef c ∧ ∃ q, st.env 4 = .mref q 0 ∧ st.loc q = some [I 0, I 0]) ?_ ?_
  · intro k hk
    simp -implicitDefEqProofs
    intro q
    exact hk _ ⟨by simp, by simp, q, by simp, by simp⟩
  rintro s ⟨e1, e2, q, e4, lq⟩
  by_cases he : errE c = 0
  case neg =>
    rw [if_pos he] at hR
    have hc := enter_no he
    obtain ⟨E, hE⟩ : ∃ E, E = errE c := ⟨_, rfl⟩
    rw [← hE] at hc hR he
    have he' : (E != 0) = true := by simp [he]
    simp -implicitDefEqProofs [e2]
    refine vCall_of hc ?_
    simp -implicitDefEqProofs [e4, lq, he', r26, hR]
  rw [if_neg (not_not_intro he)] at hR
  have hok := Case.ok he
  have hm9 := hok.marksLen
  have hs := some70_ok hok
  refine cutS (fun st => st.env 1 = I i ∧ st.env 2 = caseRef c ∧ st.env 4 = .mref q 0 ∧ st.loc q = some [I 0, I 0] ∧ st.env 6 = titleRef c ∧ st.env 5 = I 0) ?_ ?_
  · intro k hk
    simp -implicitDefEqProofs [e2]
    refine vCall_of (enter_yes he) ?_
    simp -implicitDefEqProofs
    exact hk _ (by simp [e1, e2, e4, lq])
  rintro s ⟨e1, e2, e4, lq, e6, e5⟩
  refine cutS (fun st => st.env 1 = I i ∧ st.env 2 = caseRef c ∧ st.env 4 = .mref q 0 ∧ st.loc q = some [I 0, I 0] ∧ st.env 6 = titleRef c ∧ out 0 ((c.marks.length : Int) - 1) [i] = false ∧ someB c = true) ?_ ?_
  · intro k hk
    simp -implicitDefEqProofs [e1, e2, e5]
    refine ⟨i64 (by omega) (by omega), vCall_of (outside_ok 0 ((c.marks.length : Int) - 1) [i]) ?_⟩
    cases ho : out 0 ((c.marks.length : Int) - 1) [i] with
    | true =>
      rw [ho, if_pos rfl] at hR
      simp -implicitDefEqProofs [e4, lq, r26, hR]
    | false =>
      rw [ho, if_neg (by simp)] at hR
      simp -implicitDefEqProofs [e6]
      refine vCall_of hs ?_
      cases hb : someB c with
      | false =>
        rw [hb, if_pos rfl] at hR
        simp -implicitDefEqProofs [e4, lq, r26, hR]
      | true =>
        simp -implicitDefEqProofs
        exact hk _ ⟨by simp [e1], by simp [e2], by simp [e4], by simp [lq], by simp [e6], ho, hb⟩
  rintro s ⟨e1, e2, e4, lq, e6, ho, hb⟩
  rw [ho, if_neg (by simp), hb, if_neg (by simp)] at hR
  have hi := out_no ho i (by simp)
  obtain ⟨n, rfl⟩ : ∃ n : Nat, i = n := ⟨i.toNat, by omega⟩
  have hn : n < c.marks.length := by omega
  rw [Int.toNat_natCast] at hR
  have hmk := hok.marks _ (List.getElem_mem hn)
  have hy := hok.years
  unfold yearHiP at hR
  obtain ⟨L, hL⟩ : ∃ L, L = yearLoP c n := ⟨_, rfl⟩
  rw [← hL] at hR
  unfold yearLoP at hL
  rw [mk_at hn] at hL hR
  have hmade : ∀ y, c.printed ≤ y ∧ y ≤ c.now → PCall Try.prog 71 [titleRef c, I n, I y] (B (madeP c n y)) := fun y hy => made71_ok hok hn hy
  generalize madeP c n = p at *
  generalize hm : c.marks[n] = m at *
  refine cutS (fun st => st.env 1 = I n ∧ st.env 4 = .mref q 0 ∧ st.loc q = some [I L, I m.hi] ∧ st.env 6 = titleRef c ∧ m.lo ≤ L ∧ L ≤ m.hi) ?_ ?_
  · intro k0 hk0
    simp -implicitDefEqProofs [e1, e2, e4, lq, hn, hm]
    refine loop_up (m.hi - m.lo).toNat (fun k st => st.env 1 = I n ∧ st.env 4 = .mref q 0 ∧ st.env 6 = titleRef c ∧ ∃ lo, st.loc q = some [I lo, I m.hi] ∧ lo = m.lo + k ∧ L = upTo p lo ((m.hi - m.lo).toNat - k)) ?_ ?_
    · simp [e1, e4, e6, hL]
    rintro k s hk ⟨e1, e4, e6, lo, lq, hlo, hL⟩
    have hin := upTo_in p ((m.hi - m.lo).toNat - k) lo
    by_cases hlt : lo < m.hi
    · have hkk : (m.hi - m.lo).toNat - k = ((m.hi - m.lo).toNat - (k + 1)) + 1 := by omega
      have hc := hmade lo (by omega)
      rw [hkk] at hL
      unfold upTo at hL
      simp -implicitDefEqProofs [e1, e4, e6, lq, hlt]
      refine vCall_of hc ?_
      simp -implicitDefEqProofs
      cases hp : p lo with
      | true =>
        rw [hp, if_pos rfl] at hL
        simp -implicitDefEqProofs
        exact hk0 _ ⟨by simp [e1], by simp [e4], by simp [lq, hL], by simp [e6], by omega, by omega⟩
      | false =>
        rw [hp, if_neg (by simp)] at hL
        simp -implicitDefEqProofs [e4, lq]
        refine ⟨i64 (by omega) (by omega), round_ok (by omega) ⟨by simp [e1], by simp [e4], by simp [e6], ?_⟩⟩
        simp
        exact ⟨by omega, hL⟩
    · have hz : (m.hi - m.lo).toNat - k = 0 := by omega
      rw [hz] at hL
      have hL : L = lo := hL
      simp -implicitDefEqProofs [e4, lq, hlt]
      exact hk0 _ ⟨by simp [e1], by simp [e4], by simp [lq, hL], by simp [e6], by omega, by omega⟩
  rintro s ⟨e1, e4, lq, e6, hL1, hL2⟩
  clear hL
  obtain ⟨H, hH⟩ : ∃ H, H = dnTo p m.hi (m.hi - L).toNat := ⟨_, rfl⟩
  rw [← hH] at hR
  refine cutS (fun st => st.env 4 = .mref q 0 ∧ st.loc q = some [I L, I H]) ?_ ?_
  · intro k0 hk0
    simp -implicitDefEqProofs
    refine loop_up (m.hi - L).toNat (fun k st => st.env 1 = I n ∧ st.env 4 = .mref q 0 ∧ st.env 6 = titleRef c ∧ ∃ hi, st.loc q = some [I L, I hi] ∧ hi = m.hi - k ∧ H = dnTo p hi ((m.hi - L).toNat - k)) ?_ ?_
    · simp [e1, e4, e6, lq, hH]
    rintro k s hk ⟨e1, e4, e6, hi', lq, hhi, hH⟩
    have hin := dnTo_in p ((m.hi - L).toNat - k) hi'
    by_cases hlt : L < hi'
    · have hkk : (m.hi - L).toNat - k = ((m.hi - L).toNat - (k + 1)) + 1 := by omega
      have hc := hmade hi' (by omega)
      rw [hkk] at hH
      unfold dnTo at hH
      simp -implicitDefEqProofs [e1, e4, e6, lq, hlt]
      refine vCall_of hc ?_
      simp -implicitDefEqProofs
      cases hp : p hi' with
      | true =>
        rw [hp, if_pos rfl] at hH
        simp -implicitDefEqProofs
        exact hk0 _ ⟨by simp [e4], by simp [lq, hH]⟩
      | false =>
        rw [hp, if_neg (by simp)] at hH
        simp -implicitDefEqProofs [e4, lq]
        refine ⟨i64 (by omega) (by omega), round_ok (by omega) ⟨by simp [e1], by simp [e4], by simp [e6], ?_⟩⟩
        simp
        exact ⟨by omega, hH⟩
    · have hz : (m.hi - L).toNat - k = 0 := by omega
      rw [hz] at hH
      have hH : H = hi' := hH
      simp -implicitDefEqProofs [e4, lq, hlt]
      exact hk0 _ ⟨by simp [e4], by simp [lq, hH]⟩
  rintro s ⟨e4, lq⟩
  simp -implicitDefEqProofs [e4, lq, r26, hR]
end Go.Proofs.Ytiampdiobdianaa
