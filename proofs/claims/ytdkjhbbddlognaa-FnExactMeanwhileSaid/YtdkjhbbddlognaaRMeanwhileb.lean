/-
  The program's Meanwhile returns what the reference's returns, for all arguments: the law's function is walked on trees, and answers true whatever it is given; no conditions.
-/
import Derived.Test.YtdkjhbbddlognaaRMeanwhilea
namespace Go.Proofs.Ytdkjhbbddlognaa.fnExactMeanwhile
open Go.Mv Go.RowKit Go.ChangeShapes Go.WideShapes Go.ChangeAt
set_option linter.unusedVariables false
set_option linter.unusedSimpArgs false
set_option maxRecDepth 10000
set_option maxRecDepth 100000 in
theorem lifted (os : Os) (started : os.Started) (H : Type) (enc : TypeId × Value → H) :
    ReturnsInHanded {} Try.checked os 9 .any (Rows.fnExactMeanwhileSpec.pre6 enc Try.prog Try.f9 Rows.fnExactMeanwhileRow.domain false) (Rows.fnExactMeanwhileSpec.post enc Try.prog Try.f9 false true false false) := by
  refine returnsInHanded_of_change (C := Try.checked) own started (by kernel_rfl) Try.func9
    (ChangeSpec.witness6 (enc := enc) (C := Try.checked) false ⟨#[], #[.slice none 0 0, .int .i64 0], []⟩ 8 (by kernel_rfl) (by kernel_rfl) (by kernel_rfl) (by kernel_rfl)) ?_
  intro W base args ds gs before hval hW _ _
  exact contract H enc W base args ds gs before hval hW

end Go.Proofs.Ytdkjhbbddlognaa.fnExactMeanwhile
