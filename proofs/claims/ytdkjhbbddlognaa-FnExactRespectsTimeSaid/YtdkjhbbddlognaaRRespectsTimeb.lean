/-
  The program's RespectsTime returns what the reference's returns, for all arguments: the law's function is walked on trees, and answers true whatever it is given; no conditions.
-/
import Derived.Test.YtdkjhbbddlognaaRRespectsTimea
namespace Go.Proofs.Ytdkjhbbddlognaa.fnExactRespectsTime
open Go.Mv Go.RowKit Go.ChangeShapes Go.WideShapes Go.ChangeAt
set_option linter.unusedVariables false
set_option linter.unusedSimpArgs false
set_option maxRecDepth 10000
set_option maxRecDepth 100000 in
theorem lifted (os : Os) (started : os.Started) (H : Type) (enc : TypeId × Value → H) :
    ReturnsInHanded {} Try.checked os 8 .any (Rows.fnExactRespectsTimeSpec.pre6 enc Try.prog Try.f8 Rows.fnExactRespectsTimeRow.domain false) (Rows.fnExactRespectsTimeSpec.post enc Try.prog Try.f8 false true false false) := by
  refine returnsInHanded_of_change (C := Try.checked) own started (by kernel_rfl) Try.func8
    (ChangeSpec.witness6 (enc := enc) (C := Try.checked) false ⟨#[], #[.slice none 0 0], []⟩ 8 (by kernel_rfl) (by kernel_rfl) (by kernel_rfl) (by kernel_rfl)) ?_
  intro W base args ds gs before hval hW _ _
  exact contract H enc W base args ds gs before hval hW

end Go.Proofs.Ytdkjhbbddlognaa.fnExactRespectsTime
