/- How many bits each set takes, by the program. -/
import Derived.Test.YtcfeipphmklakaaFG
namespace Go.Proofs.Ytcfeipphmklakaa
open Go.Avm

theorem c104_0 : chks chk104 0 = true := by kernel_rfl
theorem c104_1 : chks chk104 1 = true := by kernel_rfl
theorem c104_2 : chks chk104 2 = true := by kernel_rfl
theorem c104_3 : chks chk104 3 = true := by kernel_rfl
theorem c104_4 : chks chk104 4 = true := by kernel_rfl
theorem c104_5 : chks chk104 5 = true := by kernel_rfl
theorem c104_6 : chks chk104 6 = true := by kernel_rfl
theorem c104_7 : chks chk104 7 = true := by kernel_rfl
theorem c104_8 : chks chk104 8 = true := by kernel_rfl
theorem c104_9 : chks chk104 9 = true := by kernel_rfl
theorem c104_10 : chks chk104 10 = true := by kernel_rfl
theorem c104_11 : chks chk104 11 = true := by kernel_rfl
theorem c104_12 : chks chk104 12 = true := by kernel_rfl
theorem c104_13 : chks chk104 13 = true := by kernel_rfl
theorem c104_14 : chks chk104 14 = true := by kernel_rfl
theorem c104_15 : chks chk104 15 = true := by kernel_rfl
theorem c104_16 : chks chk104 16 = true := by kernel_rfl
theorem c104_17 : chks chk104 17 = true := by kernel_rfl
theorem c104_18 : chks chk104 18 = true := by kernel_rfl
theorem c104_19 : chks chk104 19 = true := by kernel_rfl
theorem c104_20 : chks chk104 20 = true := by kernel_rfl
theorem c104_21 : chks chk104 21 = true := by kernel_rfl
theorem c104_22 : chks chk104 22 = true := by kernel_rfl
theorem c104_23 : chks chk104 23 = true := by kernel_rfl
theorem c104_24 : chks chk104 24 = true := by kernel_rfl
theorem c104_25 : chks chk104 25 = true := by kernel_rfl
theorem c104_26 : chks chk104 26 = true := by kernel_rfl
theorem c104_27 : chks chk104 27 = true := by kernel_rfl
theorem c104_28 : chks chk104 28 = true := by kernel_rfl
theorem c104_29 : chks chk104 29 = true := by kernel_rfl
theorem c104_30 : chks chk104 30 = true := by kernel_rfl
theorem c104_31 : chks chk104 31 = true := by kernel_rfl
theorem chk104_all {n : Nat} (h : n < 2048) : chk104 n = true := by
  have hk : ∀ a, a < 32 → chks chk104 a = true := fun a ha => by
    rcases a with _ | _ | _ | _ | _ | _ | _ | _ | _ | _ | _ | _ | _ | _ | _ | _ | _ | _ | _ | _ | _ | _ | _ | _ | _ | _ | _ | _ | _ | _ | _ | _ | a
    · exact c104_0
    · exact c104_1
    · exact c104_2
    · exact c104_3
    · exact c104_4
    · exact c104_5
    · exact c104_6
    · exact c104_7
    · exact c104_8
    · exact c104_9
    · exact c104_10
    · exact c104_11
    · exact c104_12
    · exact c104_13
    · exact c104_14
    · exact c104_15
    · exact c104_16
    · exact c104_17
    · exact c104_18
    · exact c104_19
    · exact c104_20
    · exact c104_21
    · exact c104_22
    · exact c104_23
    · exact c104_24
    · exact c104_25
    · exact c104_26
    · exact c104_27
    · exact c104_28
    · exact c104_29
    · exact c104_30
    · exact c104_31
    · omega
  have := List.all_eq_true.1 (hk (n / 64) (by omega)) (n % 64) (List.mem_range.2 (Nat.mod_lt _ (by omega)))
  rwa [Nat.div_add_mod] at this
end Go.Proofs.Ytcfeipphmklakaa

