/-
  The program's Meanwhile returns what the reference's returns, for all arguments: the law's function is walked on trees, and answers true whatever it is given; no conditions.
-/
import Derived.Test.YtdkjhbbddlognaaRMeanwhileb
import Derived.Test.YtdkjhbbddlognaaS
namespace Go.Proofs.Ytdkjhbbddlognaa.fnExactMeanwhile
open Go.Mv Go.RowKit Go.ChangeShapes Go.WideShapes Go.ChangeAt
set_option linter.unusedVariables false
set_option linter.unusedSimpArgs false
set_option maxRecDepth 10000
theorem joined : joinedFacts Try.pinned.checked.prog 9 Try.f9 Rows.fnExactMeanwhileSpec Rows.fnExactMeanwhileRow = true := by
  have e : Try.pinned.checked.prog = Try.prog := rfl
  rw [e]
  unfold joinedFacts
  rw [seatMay, seatLifts, seatMake]
  first | kernel_rfl | (show _ = true; kernel_rfl) | decide +kernel
theorem proved : Rows.FnExactMeanwhileSaid :=
  OpenClaim.holds_of_wide 9 Try.f9 rfl rfl rfl rfl rfl rfl rfl ⟨rfl, rfl, rfl, rfl, rfl⟩ rfl rfl rfl rfl rfl (by kernel_rfl) Try.func9 joined
    (of_decide_eq_true (by kernel_rfl)) (by unfold Func.isWrapper; first | (rw [if_pos (by decide +kernel)]; kernel_rfl) | (rw [if_neg (by decide +kernel)]; exact ⟨rfl, rfl⟩))
    (fun os started H enc _ => lifted os started H enc)
end Go.Proofs.Ytdkjhbbddlognaa.fnExactMeanwhile
