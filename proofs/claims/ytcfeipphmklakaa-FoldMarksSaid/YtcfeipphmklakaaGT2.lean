/- What the program returns of each of all folds: columns and rows. -/
import Derived.Test.YtcfeipphmklakaaGT0
import Derived.Test.YtcfeipphmklakaaFKM
namespace Go.Proofs.Ytcfeipphmklakaa
open Go.Avm

theorem t70_0 : PCall Try.prog 70 [S (strF [120])] (.tuple [I (timesN [120] 120), I (timesN [120] 121)]) := run_call tabOK 60 (by kernel_rfl) (by kernel_rfl) (by kernel_rfl)
theorem t70_1 : PCall Try.prog 70 [S (strF [121])] (.tuple [I (timesN [121] 120), I (timesN [121] 121)]) := run_call tabOK 60 (by kernel_rfl) (by kernel_rfl) (by kernel_rfl)
theorem t70_2 : PCall Try.prog 70 [S (strF [120, 120])] (.tuple [I (timesN [120, 120] 120), I (timesN [120, 120] 121)]) := run_call tabOK 60 (by kernel_rfl) (by kernel_rfl) (by kernel_rfl)
theorem t70_3 : PCall Try.prog 70 [S (strF [120, 121])] (.tuple [I (timesN [120, 121] 120), I (timesN [120, 121] 121)]) := run_call tabOK 60 (by kernel_rfl) (by kernel_rfl) (by kernel_rfl)
theorem t70_4 : PCall Try.prog 70 [S (strF [121, 120])] (.tuple [I (timesN [121, 120] 120), I (timesN [121, 120] 121)]) := run_call tabOK 60 (by kernel_rfl) (by kernel_rfl) (by kernel_rfl)
theorem t70_5 : PCall Try.prog 70 [S (strF [121, 121])] (.tuple [I (timesN [121, 121] 120), I (timesN [121, 121] 121)]) := run_call tabOK 60 (by kernel_rfl) (by kernel_rfl) (by kernel_rfl)
theorem t70_6 : PCall Try.prog 70 [S (strF [120, 120, 120])] (.tuple [I (timesN [120, 120, 120] 120), I (timesN [120, 120, 120] 121)]) := run_call tabOK 60 (by kernel_rfl) (by kernel_rfl) (by kernel_rfl)
theorem t70_7 : PCall Try.prog 70 [S (strF [120, 120, 121])] (.tuple [I (timesN [120, 120, 121] 120), I (timesN [120, 120, 121] 121)]) := run_call tabOK 60 (by kernel_rfl) (by kernel_rfl) (by kernel_rfl)
theorem t70_8 : PCall Try.prog 70 [S (strF [120, 121, 120])] (.tuple [I (timesN [120, 121, 120] 120), I (timesN [120, 121, 120] 121)]) := run_call tabOK 60 (by kernel_rfl) (by kernel_rfl) (by kernel_rfl)
theorem t70_9 : PCall Try.prog 70 [S (strF [120, 121, 121])] (.tuple [I (timesN [120, 121, 121] 120), I (timesN [120, 121, 121] 121)]) := run_call tabOK 60 (by kernel_rfl) (by kernel_rfl) (by kernel_rfl)
theorem t70_10 : PCall Try.prog 70 [S (strF [121, 120, 120])] (.tuple [I (timesN [121, 120, 120] 120), I (timesN [121, 120, 120] 121)]) := run_call tabOK 60 (by kernel_rfl) (by kernel_rfl) (by kernel_rfl)
theorem t70_11 : PCall Try.prog 70 [S (strF [121, 120, 121])] (.tuple [I (timesN [121, 120, 121] 120), I (timesN [121, 120, 121] 121)]) := run_call tabOK 60 (by kernel_rfl) (by kernel_rfl) (by kernel_rfl)
theorem t70_12 : PCall Try.prog 70 [S (strF [121, 121, 120])] (.tuple [I (timesN [121, 121, 120] 120), I (timesN [121, 121, 120] 121)]) := run_call tabOK 60 (by kernel_rfl) (by kernel_rfl) (by kernel_rfl)
theorem t70_13 : PCall Try.prog 70 [S (strF [121, 121, 121])] (.tuple [I (timesN [121, 121, 121] 120), I (timesN [121, 121, 121] 121)]) := run_call tabOK 60 (by kernel_rfl) (by kernel_rfl) (by kernel_rfl)
theorem t70_14 : PCall Try.prog 70 [S (strF [120, 120, 120, 120])] (.tuple [I (timesN [120, 120, 120, 120] 120), I (timesN [120, 120, 120, 120] 121)]) := run_call tabOK 60 (by kernel_rfl) (by kernel_rfl) (by kernel_rfl)
theorem t70_15 : PCall Try.prog 70 [S (strF [120, 120, 120, 121])] (.tuple [I (timesN [120, 120, 120, 121] 120), I (timesN [120, 120, 120, 121] 121)]) := run_call tabOK 60 (by kernel_rfl) (by kernel_rfl) (by kernel_rfl)
theorem t70_16 : PCall Try.prog 70 [S (strF [120, 120, 121, 120])] (.tuple [I (timesN [120, 120, 121, 120] 120), I (timesN [120, 120, 121, 120] 121)]) := run_call tabOK 60 (by kernel_rfl) (by kernel_rfl) (by kernel_rfl)
theorem t70_17 : PCall Try.prog 70 [S (strF [120, 120, 121, 121])] (.tuple [I (timesN [120, 120, 121, 121] 120), I (timesN [120, 120, 121, 121] 121)]) := run_call tabOK 60 (by kernel_rfl) (by kernel_rfl) (by kernel_rfl)
theorem t70_18 : PCall Try.prog 70 [S (strF [120, 121, 120, 120])] (.tuple [I (timesN [120, 121, 120, 120] 120), I (timesN [120, 121, 120, 120] 121)]) := run_call tabOK 60 (by kernel_rfl) (by kernel_rfl) (by kernel_rfl)
theorem t70_19 : PCall Try.prog 70 [S (strF [120, 121, 120, 121])] (.tuple [I (timesN [120, 121, 120, 121] 120), I (timesN [120, 121, 120, 121] 121)]) := run_call tabOK 60 (by kernel_rfl) (by kernel_rfl) (by kernel_rfl)
theorem t70_20 : PCall Try.prog 70 [S (strF [120, 121, 121, 120])] (.tuple [I (timesN [120, 121, 121, 120] 120), I (timesN [120, 121, 121, 120] 121)]) := run_call tabOK 60 (by kernel_rfl) (by kernel_rfl) (by kernel_rfl)
theorem t70_21 : PCall Try.prog 70 [S (strF [120, 121, 121, 121])] (.tuple [I (timesN [120, 121, 121, 121] 120), I (timesN [120, 121, 121, 121] 121)]) := run_call tabOK 60 (by kernel_rfl) (by kernel_rfl) (by kernel_rfl)
theorem t70_22 : PCall Try.prog 70 [S (strF [121, 120, 120, 120])] (.tuple [I (timesN [121, 120, 120, 120] 120), I (timesN [121, 120, 120, 120] 121)]) := run_call tabOK 60 (by kernel_rfl) (by kernel_rfl) (by kernel_rfl)
theorem t70_23 : PCall Try.prog 70 [S (strF [121, 120, 120, 121])] (.tuple [I (timesN [121, 120, 120, 121] 120), I (timesN [121, 120, 120, 121] 121)]) := run_call tabOK 60 (by kernel_rfl) (by kernel_rfl) (by kernel_rfl)
theorem t70_24 : PCall Try.prog 70 [S (strF [121, 120, 121, 120])] (.tuple [I (timesN [121, 120, 121, 120] 120), I (timesN [121, 120, 121, 120] 121)]) := run_call tabOK 60 (by kernel_rfl) (by kernel_rfl) (by kernel_rfl)
theorem t70_25 : PCall Try.prog 70 [S (strF [121, 120, 121, 121])] (.tuple [I (timesN [121, 120, 121, 121] 120), I (timesN [121, 120, 121, 121] 121)]) := run_call tabOK 60 (by kernel_rfl) (by kernel_rfl) (by kernel_rfl)
theorem t70_26 : PCall Try.prog 70 [S (strF [121, 121, 120, 120])] (.tuple [I (timesN [121, 121, 120, 120] 120), I (timesN [121, 121, 120, 120] 121)]) := run_call tabOK 60 (by kernel_rfl) (by kernel_rfl) (by kernel_rfl)
theorem t70_27 : PCall Try.prog 70 [S (strF [121, 121, 120, 121])] (.tuple [I (timesN [121, 121, 120, 121] 120), I (timesN [121, 121, 120, 121] 121)]) := run_call tabOK 60 (by kernel_rfl) (by kernel_rfl) (by kernel_rfl)
theorem t70_28 : PCall Try.prog 70 [S (strF [121, 121, 121, 120])] (.tuple [I (timesN [121, 121, 121, 120] 120), I (timesN [121, 121, 121, 120] 121)]) := run_call tabOK 60 (by kernel_rfl) (by kernel_rfl) (by kernel_rfl)
theorem t70_29 : PCall Try.prog 70 [S (strF [121, 121, 121, 121])] (.tuple [I (timesN [121, 121, 121, 121] 120), I (timesN [121, 121, 121, 121] 121)]) := run_call tabOK 60 (by kernel_rfl) (by kernel_rfl) (by kernel_rfl)
theorem grid_all : ∀ w ∈ allF, PCall Try.prog 70 [S (strF w)] (.tuple [I (timesN w 120), I (timesN w 121)]) := by
  rw [allF_eq]
  simp only [List.forall_mem_cons]
  exact ⟨t70_0, t70_1, t70_2, t70_3, t70_4, t70_5, t70_6, t70_7, t70_8, t70_9, t70_10, t70_11, t70_12, t70_13, t70_14, t70_15, t70_16, t70_17, t70_18, t70_19, t70_20, t70_21, t70_22, t70_23, t70_24, t70_25, t70_26, t70_27, t70_28, t70_29, fun _ h => nomatch h⟩
theorem t99_0 : PCall Try.prog 99 [S (strF [120])] (B ([120].getLastD 0 == 120)) := run_call tabOK 60 (by kernel_rfl) (by kernel_rfl) (by kernel_rfl)
theorem t99_1 : PCall Try.prog 99 [S (strF [121])] (B ([121].getLastD 0 == 120)) := run_call tabOK 60 (by kernel_rfl) (by kernel_rfl) (by kernel_rfl)
theorem t99_2 : PCall Try.prog 99 [S (strF [120, 120])] (B ([120, 120].getLastD 0 == 120)) := run_call tabOK 60 (by kernel_rfl) (by kernel_rfl) (by kernel_rfl)
theorem t99_3 : PCall Try.prog 99 [S (strF [120, 121])] (B ([120, 121].getLastD 0 == 120)) := run_call tabOK 60 (by kernel_rfl) (by kernel_rfl) (by kernel_rfl)
theorem t99_4 : PCall Try.prog 99 [S (strF [121, 120])] (B ([121, 120].getLastD 0 == 120)) := run_call tabOK 60 (by kernel_rfl) (by kernel_rfl) (by kernel_rfl)
theorem t99_5 : PCall Try.prog 99 [S (strF [121, 121])] (B ([121, 121].getLastD 0 == 120)) := run_call tabOK 60 (by kernel_rfl) (by kernel_rfl) (by kernel_rfl)
theorem t99_6 : PCall Try.prog 99 [S (strF [120, 120, 120])] (B ([120, 120, 120].getLastD 0 == 120)) := run_call tabOK 60 (by kernel_rfl) (by kernel_rfl) (by kernel_rfl)
theorem t99_7 : PCall Try.prog 99 [S (strF [120, 120, 121])] (B ([120, 120, 121].getLastD 0 == 120)) := run_call tabOK 60 (by kernel_rfl) (by kernel_rfl) (by kernel_rfl)
theorem t99_8 : PCall Try.prog 99 [S (strF [120, 121, 120])] (B ([120, 121, 120].getLastD 0 == 120)) := run_call tabOK 60 (by kernel_rfl) (by kernel_rfl) (by kernel_rfl)
theorem t99_9 : PCall Try.prog 99 [S (strF [120, 121, 121])] (B ([120, 121, 121].getLastD 0 == 120)) := run_call tabOK 60 (by kernel_rfl) (by kernel_rfl) (by kernel_rfl)
theorem t99_10 : PCall Try.prog 99 [S (strF [121, 120, 120])] (B ([121, 120, 120].getLastD 0 == 120)) := run_call tabOK 60 (by kernel_rfl) (by kernel_rfl) (by kernel_rfl)
theorem t99_11 : PCall Try.prog 99 [S (strF [121, 120, 121])] (B ([121, 120, 121].getLastD 0 == 120)) := run_call tabOK 60 (by kernel_rfl) (by kernel_rfl) (by kernel_rfl)
theorem t99_12 : PCall Try.prog 99 [S (strF [121, 121, 120])] (B ([121, 121, 120].getLastD 0 == 120)) := run_call tabOK 60 (by kernel_rfl) (by kernel_rfl) (by kernel_rfl)
theorem t99_13 : PCall Try.prog 99 [S (strF [121, 121, 121])] (B ([121, 121, 121].getLastD 0 == 120)) := run_call tabOK 60 (by kernel_rfl) (by kernel_rfl) (by kernel_rfl)
theorem t99_14 : PCall Try.prog 99 [S (strF [120, 120, 120, 120])] (B ([120, 120, 120, 120].getLastD 0 == 120)) := run_call tabOK 60 (by kernel_rfl) (by kernel_rfl) (by kernel_rfl)
theorem t99_15 : PCall Try.prog 99 [S (strF [120, 120, 120, 121])] (B ([120, 120, 120, 121].getLastD 0 == 120)) := run_call tabOK 60 (by kernel_rfl) (by kernel_rfl) (by kernel_rfl)
theorem t99_16 : PCall Try.prog 99 [S (strF [120, 120, 121, 120])] (B ([120, 120, 121, 120].getLastD 0 == 120)) := run_call tabOK 60 (by kernel_rfl) (by kernel_rfl) (by kernel_rfl)
theorem t99_17 : PCall Try.prog 99 [S (strF [120, 120, 121, 121])] (B ([120, 120, 121, 121].getLastD 0 == 120)) := run_call tabOK 60 (by kernel_rfl) (by kernel_rfl) (by kernel_rfl)
theorem t99_18 : PCall Try.prog 99 [S (strF [120, 121, 120, 120])] (B ([120, 121, 120, 120].getLastD 0 == 120)) := run_call tabOK 60 (by kernel_rfl) (by kernel_rfl) (by kernel_rfl)
theorem t99_19 : PCall Try.prog 99 [S (strF [120, 121, 120, 121])] (B ([120, 121, 120, 121].getLastD 0 == 120)) := run_call tabOK 60 (by kernel_rfl) (by kernel_rfl) (by kernel_rfl)
theorem t99_20 : PCall Try.prog 99 [S (strF [120, 121, 121, 120])] (B ([120, 121, 121, 120].getLastD 0 == 120)) := run_call tabOK 60 (by kernel_rfl) (by kernel_rfl) (by kernel_rfl)
theorem t99_21 : PCall Try.prog 99 [S (strF [120, 121, 121, 121])] (B ([120, 121, 121, 121].getLastD 0 == 120)) := run_call tabOK 60 (by kernel_rfl) (by kernel_rfl) (by kernel_rfl)
theorem t99_22 : PCall Try.prog 99 [S (strF [121, 120, 120, 120])] (B ([121, 120, 120, 120].getLastD 0 == 120)) := run_call tabOK 60 (by kernel_rfl) (by kernel_rfl) (by kernel_rfl)
theorem t99_23 : PCall Try.prog 99 [S (strF [121, 120, 120, 121])] (B ([121, 120, 120, 121].getLastD 0 == 120)) := run_call tabOK 60 (by kernel_rfl) (by kernel_rfl) (by kernel_rfl)
theorem t99_24 : PCall Try.prog 99 [S (strF [121, 120, 121, 120])] (B ([121, 120, 121, 120].getLastD 0 == 120)) := run_call tabOK 60 (by kernel_rfl) (by kernel_rfl) (by kernel_rfl)
theorem t99_25 : PCall Try.prog 99 [S (strF [121, 120, 121, 121])] (B ([121, 120, 121, 121].getLastD 0 == 120)) := run_call tabOK 60 (by kernel_rfl) (by kernel_rfl) (by kernel_rfl)
theorem t99_26 : PCall Try.prog 99 [S (strF [121, 121, 120, 120])] (B ([121, 121, 120, 120].getLastD 0 == 120)) := run_call tabOK 60 (by kernel_rfl) (by kernel_rfl) (by kernel_rfl)
theorem t99_27 : PCall Try.prog 99 [S (strF [121, 121, 120, 121])] (B ([121, 121, 120, 121].getLastD 0 == 120)) := run_call tabOK 60 (by kernel_rfl) (by kernel_rfl) (by kernel_rfl)
theorem t99_28 : PCall Try.prog 99 [S (strF [121, 121, 121, 120])] (B ([121, 121, 121, 120].getLastD 0 == 120)) := run_call tabOK 60 (by kernel_rfl) (by kernel_rfl) (by kernel_rfl)
theorem t99_29 : PCall Try.prog 99 [S (strF [121, 121, 121, 121])] (B ([121, 121, 121, 121].getLastD 0 == 120)) := run_call tabOK 60 (by kernel_rfl) (by kernel_rfl) (by kernel_rfl)
theorem upright_all : ∀ w ∈ allF, PCall Try.prog 99 [S (strF w)] (B (w.getLastD 0 == 120)) := by
  rw [allF_eq]
  simp only [List.forall_mem_cons]
  exact ⟨t99_0, t99_1, t99_2, t99_3, t99_4, t99_5, t99_6, t99_7, t99_8, t99_9, t99_10, t99_11, t99_12, t99_13, t99_14, t99_15, t99_16, t99_17, t99_18, t99_19, t99_20, t99_21, t99_22, t99_23, t99_24, t99_25, t99_26, t99_27, t99_28, t99_29, fun _ h => nomatch h⟩
end Go.Proofs.Ytcfeipphmklakaa

