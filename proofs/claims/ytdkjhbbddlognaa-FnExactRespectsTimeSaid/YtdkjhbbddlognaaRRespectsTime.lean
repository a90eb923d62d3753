/-
  The program's RespectsTime returns what the reference's returns, for all arguments: the law's function is walked on trees, and answers true whatever it is given; no conditions.
-/
import Derived.Test.YtdkjhbbddlognaaRRespectsTimeb
import Derived.Test.YtdkjhbbddlognaaS
namespace Go.Proofs.Ytdkjhbbddlognaa.fnExactRespectsTime
open Go.Mv Go.RowKit Go.ChangeShapes Go.WideShapes Go.ChangeAt
set_option linter.unusedVariables false
set_option linter.unusedSimpArgs false
set_option maxRecDepth 10000
theorem joined : joinedFacts Try.pinned.checked.prog 8 Try.f8 Rows.fnExactRespectsTimeSpec Rows.fnExactRespectsTimeRow = true := by
  have e : Try.pinned.checked.prog = Try.prog := rfl
  rw [e]
  unfold joinedFacts
  rw [seatMay, seatLifts, seatMake]
  first | kernel_rfl | (show _ = true; kernel_rfl) | decide +kernel
theorem proved : Rows.FnExactRespectsTimeSaid :=
  OpenClaim.holds_of_wide 8 Try.f8 rfl rfl rfl rfl rfl rfl rfl ⟨rfl, rfl, rfl, rfl, rfl⟩ rfl rfl rfl rfl rfl (by kernel_rfl) Try.func8 joined
    (of_decide_eq_true (by kernel_rfl)) (by unfold Func.isWrapper; first | (rw [if_pos (by decide +kernel)]; kernel_rfl) | (rw [if_neg (by decide +kernel)]; exact ⟨rfl, rfl⟩))
    (fun os started H enc _ => lifted os started H enc)
end Go.Proofs.Ytdkjhbbddlognaa.fnExactRespectsTime
