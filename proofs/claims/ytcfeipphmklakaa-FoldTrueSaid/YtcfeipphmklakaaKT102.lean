/- How many numbers each set has, by the program. -/
import Derived.Test.YtcfeipphmklakaaFG
namespace Go.Proofs.Ytcfeipphmklakaa
open Go.Avm

theorem c102_0 : chks chk102 0 = true := by kernel_rfl
theorem c102_1 : chks chk102 1 = true := by kernel_rfl
theorem c102_2 : chks chk102 2 = true := by kernel_rfl
theorem c102_3 : chks chk102 3 = true := by kernel_rfl
theorem c102_4 : chks chk102 4 = true := by kernel_rfl
theorem c102_5 : chks chk102 5 = true := by kernel_rfl
theorem c102_6 : chks chk102 6 = true := by kernel_rfl
theorem c102_7 : chks chk102 7 = true := by kernel_rfl
theorem c102_8 : chks chk102 8 = true := by kernel_rfl
theorem c102_9 : chks chk102 9 = true := by kernel_rfl
theorem c102_10 : chks chk102 10 = true := by kernel_rfl
theorem c102_11 : chks chk102 11 = true := by kernel_rfl
theorem c102_12 : chks chk102 12 = true := by kernel_rfl
theorem c102_13 : chks chk102 13 = true := by kernel_rfl
theorem c102_14 : chks chk102 14 = true := by kernel_rfl
theorem c102_15 : chks chk102 15 = true := by kernel_rfl
theorem c102_16 : chks chk102 16 = true := by kernel_rfl
theorem c102_17 : chks chk102 17 = true := by kernel_rfl
theorem c102_18 : chks chk102 18 = true := by kernel_rfl
theorem c102_19 : chks chk102 19 = true := by kernel_rfl
theorem c102_20 : chks chk102 20 = true := by kernel_rfl
theorem c102_21 : chks chk102 21 = true := by kernel_rfl
theorem c102_22 : chks chk102 22 = true := by kernel_rfl
theorem c102_23 : chks chk102 23 = true := by kernel_rfl
theorem c102_24 : chks chk102 24 = true := by kernel_rfl
theorem c102_25 : chks chk102 25 = true := by kernel_rfl
theorem c102_26 : chks chk102 26 = true := by kernel_rfl
theorem c102_27 : chks chk102 27 = true := by kernel_rfl
theorem c102_28 : chks chk102 28 = true := by kernel_rfl
theorem c102_29 : chks chk102 29 = true := by kernel_rfl
theorem c102_30 : chks chk102 30 = true := by kernel_rfl
theorem c102_31 : chks chk102 31 = true := by kernel_rfl
theorem chk102_all {n : Nat} (h : n < 2048) : chk102 n = true := by
  have hk : ∀ a, a < 32 → chks chk102 a = true := fun a ha => by
    rcases a with _ | _ | _ | _ | _ | _ | _ | _ | _ | _ | _ | _ | _ | _ | _ | _ | _ | _ | _ | _ | _ | _ | _ | _ | _ | _ | _ | _ | _ | _ | _ | _ | a
    · exact c102_0
    · exact c102_1
    · exact c102_2
    · exact c102_3
    · exact c102_4
    · exact c102_5
    · exact c102_6
    · exact c102_7
    · exact c102_8
    · exact c102_9
    · exact c102_10
    · exact c102_11
    · exact c102_12
    · exact c102_13
    · exact c102_14
    · exact c102_15
    · exact c102_16
    · exact c102_17
    · exact c102_18
    · exact c102_19
    · exact c102_20
    · exact c102_21
    · exact c102_22
    · exact c102_23
    · exact c102_24
    · exact c102_25
    · exact c102_26
    · exact c102_27
    · exact c102_28
    · exact c102_29
    · exact c102_30
    · exact c102_31
    · omega
  have := List.all_eq_true.1 (hk (n / 64) (by omega)) (n % 64) (List.mem_range.2 (Nat.mod_lt _ (by omega)))
  rwa [Nat.div_add_mod] at this
end Go.Proofs.Ytcfeipphmklakaa

