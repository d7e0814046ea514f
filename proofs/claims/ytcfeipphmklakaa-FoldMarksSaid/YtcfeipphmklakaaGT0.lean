/- What the reference returns of each of all folds: how many columns and rows. -/
import Derived.Test.YtcfeipphmklakaaFE
import Derived.Test.YtcfeipphmklakaaLD
namespace Go.Proofs.Ytcfeipphmklakaa
open Go.Avm

theorem rowR72 : RowOK Try.prog (72, 21, m72, r72) := .mk Try.func72 tr72 rs72 fn72 Try.ntmps72 (by kernel_rfl)
theorem rowR97 : RowOK Try.prog (97, 72, m97, r97) := .mk Try.func97 tr97 rs97 fn97 Try.ntmps97 (by kernel_rfl)
theorem rowR111 : RowOK Try.prog (111, 87, m111, r111) := .mk Try.func111 tr111 rs111 fn111 Try.ntmps111 (by kernel_rfl)
theorem rowR117 : RowOK Try.prog (117, 34, m117, r117) := .mk Try.func117 tr117 rs117 fn117 Try.ntmps117 (by kernel_rfl)
def tabR : List Row := [(72, 21, m72, r72), (97, 72, m97, r97), (111, 87, m111, r111), (117, 34, m117, r117)]
theorem tabROK : Tab Try.prog tabR := .cons rowR72 (.cons rowR97 (.cons rowR111 (.cons rowR117 (.nil))))
def allH : List (List Nat × Bool) := allF.map (fun w => (w, false)) ++ (words 2 ++ words 3 ++ words 4).map (fun w => (w, true))
theorem allF_eq : allF = [[120], [121], [120, 120], [120, 121], [121, 120], [121, 121], [120, 120, 120], [120, 120, 121], [120, 121, 120], [120, 121, 121], [121, 120, 120], [121, 120, 121], [121, 121, 120], [121, 121, 121], [120, 120, 120, 120], [120, 120, 120, 121], [120, 120, 121, 120], [120, 120, 121, 121], [120, 121, 120, 120], [120, 121, 120, 121], [120, 121, 121, 120], [120, 121, 121, 121], [121, 120, 120, 120], [121, 120, 120, 121], [121, 120, 121, 120], [121, 120, 121, 121], [121, 121, 120, 120], [121, 121, 120, 121], [121, 121, 121, 120], [121, 121, 121, 121]] := by kernel_rfl
theorem allH_eq : allH = [([120], false), ([121], false), ([120, 120], false), ([120, 121], false), ([121, 120], false), ([121, 121], false), ([120, 120, 120], false), ([120, 120, 121], false), ([120, 121, 120], false), ([120, 121, 121], false), ([121, 120, 120], false), ([121, 120, 121], false), ([121, 121, 120], false), ([121, 121, 121], false), ([120, 120, 120, 120], false), ([120, 120, 120, 121], false), ([120, 120, 121, 120], false), ([120, 120, 121, 121], false), ([120, 121, 120, 120], false), ([120, 121, 120, 121], false), ([120, 121, 121, 120], false), ([120, 121, 121, 121], false), ([121, 120, 120, 120], false), ([121, 120, 120, 121], false), ([121, 120, 121, 120], false), ([121, 120, 121, 121], false), ([121, 121, 120, 120], false), ([121, 121, 120, 121], false), ([121, 121, 121, 120], false), ([121, 121, 121, 121], false), ([120, 120], true), ([120, 121], true), ([121, 120], true), ([121, 121], true), ([120, 120, 120], true), ([120, 120, 121], true), ([120, 121, 120], true), ([120, 121, 121], true), ([121, 120, 120], true), ([121, 120, 121], true), ([121, 121, 120], true), ([121, 121, 121], true), ([120, 120, 120, 120], true), ([120, 120, 120, 121], true), ([120, 120, 121, 120], true), ([120, 120, 121, 121], true), ([120, 121, 120, 120], true), ([120, 121, 120, 121], true), ([120, 121, 121, 120], true), ([120, 121, 121, 121], true), ([121, 120, 120, 120], true), ([121, 120, 120, 121], true), ([121, 120, 121, 120], true), ([121, 120, 121, 121], true), ([121, 121, 120, 120], true), ([121, 121, 120, 121], true), ([121, 121, 121, 120], true), ([121, 121, 121, 121], true)] := by kernel_rfl
theorem t72_120_0 : PCall Try.prog 72 [S (strF [120]), .lit (.int .u8 120)] (I (timesN [120] 120)) := run_call tabROK 60 (by kernel_rfl) (by kernel_rfl) (by kernel_rfl)
theorem t72_120_1 : PCall Try.prog 72 [S (strF [121]), .lit (.int .u8 120)] (I (timesN [121] 120)) := run_call tabROK 60 (by kernel_rfl) (by kernel_rfl) (by kernel_rfl)
theorem t72_120_2 : PCall Try.prog 72 [S (strF [120, 120]), .lit (.int .u8 120)] (I (timesN [120, 120] 120)) := run_call tabROK 60 (by kernel_rfl) (by kernel_rfl) (by kernel_rfl)
theorem t72_120_3 : PCall Try.prog 72 [S (strF [120, 121]), .lit (.int .u8 120)] (I (timesN [120, 121] 120)) := run_call tabROK 60 (by kernel_rfl) (by kernel_rfl) (by kernel_rfl)
theorem t72_120_4 : PCall Try.prog 72 [S (strF [121, 120]), .lit (.int .u8 120)] (I (timesN [121, 120] 120)) := run_call tabROK 60 (by kernel_rfl) (by kernel_rfl) (by kernel_rfl)
theorem t72_120_5 : PCall Try.prog 72 [S (strF [121, 121]), .lit (.int .u8 120)] (I (timesN [121, 121] 120)) := run_call tabROK 60 (by kernel_rfl) (by kernel_rfl) (by kernel_rfl)
theorem t72_120_6 : PCall Try.prog 72 [S (strF [120, 120, 120]), .lit (.int .u8 120)] (I (timesN [120, 120, 120] 120)) := run_call tabROK 60 (by kernel_rfl) (by kernel_rfl) (by kernel_rfl)
theorem t72_120_7 : PCall Try.prog 72 [S (strF [120, 120, 121]), .lit (.int .u8 120)] (I (timesN [120, 120, 121] 120)) := run_call tabROK 60 (by kernel_rfl) (by kernel_rfl) (by kernel_rfl)
theorem t72_120_8 : PCall Try.prog 72 [S (strF [120, 121, 120]), .lit (.int .u8 120)] (I (timesN [120, 121, 120] 120)) := run_call tabROK 60 (by kernel_rfl) (by kernel_rfl) (by kernel_rfl)
theorem t72_120_9 : PCall Try.prog 72 [S (strF [120, 121, 121]), .lit (.int .u8 120)] (I (timesN [120, 121, 121] 120)) := run_call tabROK 60 (by kernel_rfl) (by kernel_rfl) (by kernel_rfl)
theorem t72_120_10 : PCall Try.prog 72 [S (strF [121, 120, 120]), .lit (.int .u8 120)] (I (timesN [121, 120, 120] 120)) := run_call tabROK 60 (by kernel_rfl) (by kernel_rfl) (by kernel_rfl)
theorem t72_120_11 : PCall Try.prog 72 [S (strF [121, 120, 121]), .lit (.int .u8 120)] (I (timesN [121, 120, 121] 120)) := run_call tabROK 60 (by kernel_rfl) (by kernel_rfl) (by kernel_rfl)
theorem t72_120_12 : PCall Try.prog 72 [S (strF [121, 121, 120]), .lit (.int .u8 120)] (I (timesN [121, 121, 120] 120)) := run_call tabROK 60 (by kernel_rfl) (by kernel_rfl) (by kernel_rfl)
theorem t72_120_13 : PCall Try.prog 72 [S (strF [121, 121, 121]), .lit (.int .u8 120)] (I (timesN [121, 121, 121] 120)) := run_call tabROK 60 (by kernel_rfl) (by kernel_rfl) (by kernel_rfl)
theorem t72_120_14 : PCall Try.prog 72 [S (strF [120, 120, 120, 120]), .lit (.int .u8 120)] (I (timesN [120, 120, 120, 120] 120)) := run_call tabROK 60 (by kernel_rfl) (by kernel_rfl) (by kernel_rfl)
theorem t72_120_15 : PCall Try.prog 72 [S (strF [120, 120, 120, 121]), .lit (.int .u8 120)] (I (timesN [120, 120, 120, 121] 120)) := run_call tabROK 60 (by kernel_rfl) (by kernel_rfl) (by kernel_rfl)
theorem t72_120_16 : PCall Try.prog 72 [S (strF [120, 120, 121, 120]), .lit (.int .u8 120)] (I (timesN [120, 120, 121, 120] 120)) := run_call tabROK 60 (by kernel_rfl) (by kernel_rfl) (by kernel_rfl)
theorem t72_120_17 : PCall Try.prog 72 [S (strF [120, 120, 121, 121]), .lit (.int .u8 120)] (I (timesN [120, 120, 121, 121] 120)) := run_call tabROK 60 (by kernel_rfl) (by kernel_rfl) (by kernel_rfl)
theorem t72_120_18 : PCall Try.prog 72 [S (strF [120, 121, 120, 120]), .lit (.int .u8 120)] (I (timesN [120, 121, 120, 120] 120)) := run_call tabROK 60 (by kernel_rfl) (by kernel_rfl) (by kernel_rfl)
theorem t72_120_19 : PCall Try.prog 72 [S (strF [120, 121, 120, 121]), .lit (.int .u8 120)] (I (timesN [120, 121, 120, 121] 120)) := run_call tabROK 60 (by kernel_rfl) (by kernel_rfl) (by kernel_rfl)
theorem t72_120_20 : PCall Try.prog 72 [S (strF [120, 121, 121, 120]), .lit (.int .u8 120)] (I (timesN [120, 121, 121, 120] 120)) := run_call tabROK 60 (by kernel_rfl) (by kernel_rfl) (by kernel_rfl)
theorem t72_120_21 : PCall Try.prog 72 [S (strF [120, 121, 121, 121]), .lit (.int .u8 120)] (I (timesN [120, 121, 121, 121] 120)) := run_call tabROK 60 (by kernel_rfl) (by kernel_rfl) (by kernel_rfl)
theorem t72_120_22 : PCall Try.prog 72 [S (strF [121, 120, 120, 120]), .lit (.int .u8 120)] (I (timesN [121, 120, 120, 120] 120)) := run_call tabROK 60 (by kernel_rfl) (by kernel_rfl) (by kernel_rfl)
theorem t72_120_23 : PCall Try.prog 72 [S (strF [121, 120, 120, 121]), .lit (.int .u8 120)] (I (timesN [121, 120, 120, 121] 120)) := run_call tabROK 60 (by kernel_rfl) (by kernel_rfl) (by kernel_rfl)
theorem t72_120_24 : PCall Try.prog 72 [S (strF [121, 120, 121, 120]), .lit (.int .u8 120)] (I (timesN [121, 120, 121, 120] 120)) := run_call tabROK 60 (by kernel_rfl) (by kernel_rfl) (by kernel_rfl)
theorem t72_120_25 : PCall Try.prog 72 [S (strF [121, 120, 121, 121]), .lit (.int .u8 120)] (I (timesN [121, 120, 121, 121] 120)) := run_call tabROK 60 (by kernel_rfl) (by kernel_rfl) (by kernel_rfl)
theorem t72_120_26 : PCall Try.prog 72 [S (strF [121, 121, 120, 120]), .lit (.int .u8 120)] (I (timesN [121, 121, 120, 120] 120)) := run_call tabROK 60 (by kernel_rfl) (by kernel_rfl) (by kernel_rfl)
theorem t72_120_27 : PCall Try.prog 72 [S (strF [121, 121, 120, 121]), .lit (.int .u8 120)] (I (timesN [121, 121, 120, 121] 120)) := run_call tabROK 60 (by kernel_rfl) (by kernel_rfl) (by kernel_rfl)
theorem t72_120_28 : PCall Try.prog 72 [S (strF [121, 121, 121, 120]), .lit (.int .u8 120)] (I (timesN [121, 121, 121, 120] 120)) := run_call tabROK 60 (by kernel_rfl) (by kernel_rfl) (by kernel_rfl)
theorem t72_120_29 : PCall Try.prog 72 [S (strF [121, 121, 121, 121]), .lit (.int .u8 120)] (I (timesN [121, 121, 121, 121] 120)) := run_call tabROK 60 (by kernel_rfl) (by kernel_rfl) (by kernel_rfl)
theorem times_120 : ∀ w ∈ allF, PCall Try.prog 72 [S (strF w), .lit (.int .u8 120)] (I (timesN w 120)) := by
  rw [allF_eq]
  simp only [List.forall_mem_cons]
  exact ⟨t72_120_0, t72_120_1, t72_120_2, t72_120_3, t72_120_4, t72_120_5, t72_120_6, t72_120_7, t72_120_8, t72_120_9, t72_120_10, t72_120_11, t72_120_12, t72_120_13, t72_120_14, t72_120_15, t72_120_16, t72_120_17, t72_120_18, t72_120_19, t72_120_20, t72_120_21, t72_120_22, t72_120_23, t72_120_24, t72_120_25, t72_120_26, t72_120_27, t72_120_28, t72_120_29, fun _ h => nomatch h⟩
theorem t72_121_0 : PCall Try.prog 72 [S (strF [120]), .lit (.int .u8 121)] (I (timesN [120] 121)) := run_call tabROK 60 (by kernel_rfl) (by kernel_rfl) (by kernel_rfl)
theorem t72_121_1 : PCall Try.prog 72 [S (strF [121]), .lit (.int .u8 121)] (I (timesN [121] 121)) := run_call tabROK 60 (by kernel_rfl) (by kernel_rfl) (by kernel_rfl)
theorem t72_121_2 : PCall Try.prog 72 [S (strF [120, 120]), .lit (.int .u8 121)] (I (timesN [120, 120] 121)) := run_call tabROK 60 (by kernel_rfl) (by kernel_rfl) (by kernel_rfl)
theorem t72_121_3 : PCall Try.prog 72 [S (strF [120, 121]), .lit (.int .u8 121)] (I (timesN [120, 121] 121)) := run_call tabROK 60 (by kernel_rfl) (by kernel_rfl) (by kernel_rfl)
theorem t72_121_4 : PCall Try.prog 72 [S (strF [121, 120]), .lit (.int .u8 121)] (I (timesN [121, 120] 121)) := run_call tabROK 60 (by kernel_rfl) (by kernel_rfl) (by kernel_rfl)
theorem t72_121_5 : PCall Try.prog 72 [S (strF [121, 121]), .lit (.int .u8 121)] (I (timesN [121, 121] 121)) := run_call tabROK 60 (by kernel_rfl) (by kernel_rfl) (by kernel_rfl)
theorem t72_121_6 : PCall Try.prog 72 [S (strF [120, 120, 120]), .lit (.int .u8 121)] (I (timesN [120, 120, 120] 121)) := run_call tabROK 60 (by kernel_rfl) (by kernel_rfl) (by kernel_rfl)
theorem t72_121_7 : PCall Try.prog 72 [S (strF [120, 120, 121]), .lit (.int .u8 121)] (I (timesN [120, 120, 121] 121)) := run_call tabROK 60 (by kernel_rfl) (by kernel_rfl) (by kernel_rfl)
theorem t72_121_8 : PCall Try.prog 72 [S (strF [120, 121, 120]), .lit (.int .u8 121)] (I (timesN [120, 121, 120] 121)) := run_call tabROK 60 (by kernel_rfl) (by kernel_rfl) (by kernel_rfl)
theorem t72_121_9 : PCall Try.prog 72 [S (strF [120, 121, 121]), .lit (.int .u8 121)] (I (timesN [120, 121, 121] 121)) := run_call tabROK 60 (by kernel_rfl) (by kernel_rfl) (by kernel_rfl)
theorem t72_121_10 : PCall Try.prog 72 [S (strF [121, 120, 120]), .lit (.int .u8 121)] (I (timesN [121, 120, 120] 121)) := run_call tabROK 60 (by kernel_rfl) (by kernel_rfl) (by kernel_rfl)
theorem t72_121_11 : PCall Try.prog 72 [S (strF [121, 120, 121]), .lit (.int .u8 121)] (I (timesN [121, 120, 121] 121)) := run_call tabROK 60 (by kernel_rfl) (by kernel_rfl) (by kernel_rfl)
theorem t72_121_12 : PCall Try.prog 72 [S (strF [121, 121, 120]), .lit (.int .u8 121)] (I (timesN [121, 121, 120] 121)) := run_call tabROK 60 (by kernel_rfl) (by kernel_rfl) (by kernel_rfl)
theorem t72_121_13 : PCall Try.prog 72 [S (strF [121, 121, 121]), .lit (.int .u8 121)] (I (timesN [121, 121, 121] 121)) := run_call tabROK 60 (by kernel_rfl) (by kernel_rfl) (by kernel_rfl)
theorem t72_121_14 : PCall Try.prog 72 [S (strF [120, 120, 120, 120]), .lit (.int .u8 121)] (I (timesN [120, 120, 120, 120] 121)) := run_call tabROK 60 (by kernel_rfl) (by kernel_rfl) (by kernel_rfl)
theorem t72_121_15 : PCall Try.prog 72 [S (strF [120, 120, 120, 121]), .lit (.int .u8 121)] (I (timesN [120, 120, 120, 121] 121)) := run_call tabROK 60 (by kernel_rfl) (by kernel_rfl) (by kernel_rfl)
theorem t72_121_16 : PCall Try.prog 72 [S (strF [120, 120, 121, 120]), .lit (.int .u8 121)] (I (timesN [120, 120, 121, 120] 121)) := run_call tabROK 60 (by kernel_rfl) (by kernel_rfl) (by kernel_rfl)
theorem t72_121_17 : PCall Try.prog 72 [S (strF [120, 120, 121, 121]), .lit (.int .u8 121)] (I (timesN [120, 120, 121, 121] 121)) := run_call tabROK 60 (by kernel_rfl) (by kernel_rfl) (by kernel_rfl)
theorem t72_121_18 : PCall Try.prog 72 [S (strF [120, 121, 120, 120]), .lit (.int .u8 121)] (I (timesN [120, 121, 120, 120] 121)) := run_call tabROK 60 (by kernel_rfl) (by kernel_rfl) (by kernel_rfl)
theorem t72_121_19 : PCall Try.prog 72 [S (strF [120, 121, 120, 121]), .lit (.int .u8 121)] (I (timesN [120, 121, 120, 121] 121)) := run_call tabROK 60 (by kernel_rfl) (by kernel_rfl) (by kernel_rfl)
theorem t72_121_20 : PCall Try.prog 72 [S (strF [120, 121, 121, 120]), .lit (.int .u8 121)] (I (timesN [120, 121, 121, 120] 121)) := run_call tabROK 60 (by kernel_rfl) (by kernel_rfl) (by kernel_rfl)
theorem t72_121_21 : PCall Try.prog 72 [S (strF [120, 121, 121, 121]), .lit (.int .u8 121)] (I (timesN [120, 121, 121, 121] 121)) := run_call tabROK 60 (by kernel_rfl) (by kernel_rfl) (by kernel_rfl)
theorem t72_121_22 : PCall Try.prog 72 [S (strF [121, 120, 120, 120]), .lit (.int .u8 121)] (I (timesN [121, 120, 120, 120] 121)) := run_call tabROK 60 (by kernel_rfl) (by kernel_rfl) (by kernel_rfl)
theorem t72_121_23 : PCall Try.prog 72 [S (strF [121, 120, 120, 121]), .lit (.int .u8 121)] (I (timesN [121, 120, 120, 121] 121)) := run_call tabROK 60 (by kernel_rfl) (by kernel_rfl) (by kernel_rfl)
theorem t72_121_24 : PCall Try.prog 72 [S (strF [121, 120, 121, 120]), .lit (.int .u8 121)] (I (timesN [121, 120, 121, 120] 121)) := run_call tabROK 60 (by kernel_rfl) (by kernel_rfl) (by kernel_rfl)
theorem t72_121_25 : PCall Try.prog 72 [S (strF [121, 120, 121, 121]), .lit (.int .u8 121)] (I (timesN [121, 120, 121, 121] 121)) := run_call tabROK 60 (by kernel_rfl) (by kernel_rfl) (by kernel_rfl)
theorem t72_121_26 : PCall Try.prog 72 [S (strF [121, 121, 120, 120]), .lit (.int .u8 121)] (I (timesN [121, 121, 120, 120] 121)) := run_call tabROK 60 (by kernel_rfl) (by kernel_rfl) (by kernel_rfl)
theorem t72_121_27 : PCall Try.prog 72 [S (strF [121, 121, 120, 121]), .lit (.int .u8 121)] (I (timesN [121, 121, 120, 121] 121)) := run_call tabROK 60 (by kernel_rfl) (by kernel_rfl) (by kernel_rfl)
theorem t72_121_28 : PCall Try.prog 72 [S (strF [121, 121, 121, 120]), .lit (.int .u8 121)] (I (timesN [121, 121, 121, 120] 121)) := run_call tabROK 60 (by kernel_rfl) (by kernel_rfl) (by kernel_rfl)
theorem t72_121_29 : PCall Try.prog 72 [S (strF [121, 121, 121, 121]), .lit (.int .u8 121)] (I (timesN [121, 121, 121, 121] 121)) := run_call tabROK 60 (by kernel_rfl) (by kernel_rfl) (by kernel_rfl)
theorem times_121 : ∀ w ∈ allF, PCall Try.prog 72 [S (strF w), .lit (.int .u8 121)] (I (timesN w 121)) := by
  rw [allF_eq]
  simp only [List.forall_mem_cons]
  exact ⟨t72_121_0, t72_121_1, t72_121_2, t72_121_3, t72_121_4, t72_121_5, t72_121_6, t72_121_7, t72_121_8, t72_121_9, t72_121_10, t72_121_11, t72_121_12, t72_121_13, t72_121_14, t72_121_15, t72_121_16, t72_121_17, t72_121_18, t72_121_19, t72_121_20, t72_121_21, t72_121_22, t72_121_23, t72_121_24, t72_121_25, t72_121_26, t72_121_27, t72_121_28, t72_121_29, fun _ h => nomatch h⟩
end Go.Proofs.Ytcfeipphmklakaa

