/-
  No cell of these rows narrows 'for every input' (looked for: loops, veiled, ifaces, maps, wideKeys, modest, calm, conditions, laid).
  DERIVED. THE GIVEN ROWS OF THIS SEAT. 14 by the template 'for every input the law returns true; each argument reads behind the call as it read before'; 0 by the template 'total and deterministic' (their statements: YtdkjhbbddlognaaTotals.lean).
  GIVEN WITH THE SEED: the statements are not yours to turn. If you find one false, say at which input.
  Laid BY PROGRAM, IN A SANDBOX (cutbox-rows.mjs): the forced cells as the released guide's own fill.sh prints them over the translation 7592acf62d09cc2f… (all of the seat's roots in one cut). By AI agents, Wed Nov 11 2026. No macro, syntax, notation, axiom, sorry.
-/
import Derived.Test.YtdkjhbbddlognaaChecked
import GoSem.Claim
import GoSem.ClaimJoined
import GoSem.ClaimMapViews
import Derived.JoinedTies
import Derived.KernelRfl
namespace Go.Proofs.Ytdkjhbbddlognaa
/- THE CELL 'sum', in the pinned program and in every row, IS THE sha256 OF THE DUMP (.gsa) THAT YtdkjhbbddlognaaProg.lean LOADS. Nothing in Lean hashes anything: it is a label: what it is worth is what the hold of that sum in a sandbox is worth. -/
noncomputable def Try.pinned : Pinned := { name := "ytdkjhbbddlognaa", sum := "7592acf62d09cc2fb701c43e481e471861b22d1b60175c6cb01e01ce778ce245", checked := Try.checked }
namespace Rows
def none {H : Type} : Left H := { results := [], args := [] }

/-- 'laws.FnExactSameAct': WHATEVER THE INPUT: true; the input reads as it did. -/
def fnExactSameActSpec : ChangeSpec := { name := "fnExactSameAct", fn := fun _ => fun
  | [d1, d2] => { results := [.lit (.bool true)], args := [d1, d2] }
  | _ => none }
def fnExactSameActRow : OpenClaim := { program := "ytdkjhbbddlognaa", sum := "7592acf62d09cc2fb701c43e481e471861b22d1b60175c6cb01e01ce778ce245", func := "loop.example/g00974/laws.FnExactSameAct", spec := "fnExactSameAct", apart := false }
def FnExactSameActSaid : Prop := fnExactSameActRow.holds Try.pinned (OpenSpec.ofChange fnExactSameActSpec)

/-- ITS FALSE NEIGHBOUR: 'it returns false'. Refute it at one input. -/
def fnExactSameActWrong : ChangeSpec := { name := "fnExactSameAct", fn := fun _ => fun
  | [d1, d2] => { results := [.lit (.bool false)], args := [d1, d2] }
  | _ => none }
def FnExactSameActWrongFalsely : Prop := fnExactSameActRow.holds Try.pinned (OpenSpec.ofChange fnExactSameActWrong)

/-- 'laws.FnExactActsOf': WHATEVER THE INPUT: true; the input reads as it did. -/
def fnExactActsOfSpec : ChangeSpec := { name := "fnExactActsOf", fn := fun _ => fun
  | [d1, d2] => { results := [.lit (.bool true)], args := [d1, d2] }
  | _ => none }
def fnExactActsOfRow : OpenClaim := { program := "ytdkjhbbddlognaa", sum := "7592acf62d09cc2fb701c43e481e471861b22d1b60175c6cb01e01ce778ce245", func := "loop.example/g00974/laws.FnExactActsOf", spec := "fnExactActsOf", apart := false }
def FnExactActsOfSaid : Prop := fnExactActsOfRow.holds Try.pinned (OpenSpec.ofChange fnExactActsOfSpec)

/-- ITS FALSE NEIGHBOUR: 'it returns false'. Refute it at one input. -/
def fnExactActsOfWrong : ChangeSpec := { name := "fnExactActsOf", fn := fun _ => fun
  | [d1, d2] => { results := [.lit (.bool false)], args := [d1, d2] }
  | _ => none }
def FnExactActsOfWrongFalsely : Prop := fnExactActsOfRow.holds Try.pinned (OpenSpec.ofChange fnExactActsOfWrong)

/-- 'laws.FnExactBefore': WHATEVER THE INPUT: true; the input reads as it did. -/
def fnExactBeforeSpec : ChangeSpec := { name := "fnExactBefore", fn := fun _ => fun
  | [d1, d2] => { results := [.lit (.bool true)], args := [d1, d2] }
  | _ => none }
def fnExactBeforeRow : OpenClaim := { program := "ytdkjhbbddlognaa", sum := "7592acf62d09cc2fb701c43e481e471861b22d1b60175c6cb01e01ce778ce245", func := "loop.example/g00974/laws.FnExactBefore", spec := "fnExactBefore", apart := false }
def FnExactBeforeSaid : Prop := fnExactBeforeRow.holds Try.pinned (OpenSpec.ofChange fnExactBeforeSpec)

/-- ITS FALSE NEIGHBOUR: 'it returns false'. Refute it at one input. -/
def fnExactBeforeWrong : ChangeSpec := { name := "fnExactBefore", fn := fun _ => fun
  | [d1, d2] => { results := [.lit (.bool false)], args := [d1, d2] }
  | _ => none }
def FnExactBeforeWrongFalsely : Prop := fnExactBeforeRow.holds Try.pinned (OpenSpec.ofChange fnExactBeforeWrong)

/-- 'laws.FnExactRising': WHATEVER THE INPUT: true; the input reads as it did. -/
def fnExactRisingSpec : ChangeSpec := { name := "fnExactRising", fn := fun _ => fun
  | [d] => { results := [.lit (.bool true)], args := [d] }
  | _ => none }
def fnExactRisingRow : OpenClaim := { program := "ytdkjhbbddlognaa", sum := "7592acf62d09cc2fb701c43e481e471861b22d1b60175c6cb01e01ce778ce245", func := "loop.example/g00974/laws.FnExactRising", spec := "fnExactRising", apart := false }
def FnExactRisingSaid : Prop := fnExactRisingRow.holds Try.pinned (OpenSpec.ofChange fnExactRisingSpec)

/-- ITS FALSE NEIGHBOUR: 'it returns false'. Refute it at one input. -/
def fnExactRisingWrong : ChangeSpec := { name := "fnExactRising", fn := fun _ => fun
  | [d] => { results := [.lit (.bool false)], args := [d] }
  | _ => none }
def FnExactRisingWrongFalsely : Prop := fnExactRisingRow.holds Try.pinned (OpenSpec.ofChange fnExactRisingWrong)

/-- 'laws.FnExactEntriesOf': WHATEVER THE INPUT: true; the input reads as it did. -/
def fnExactEntriesOfSpec : ChangeSpec := { name := "fnExactEntriesOf", fn := fun _ => fun
  | [d1, d2] => { results := [.lit (.bool true)], args := [d1, d2] }
  | _ => none }
def fnExactEntriesOfRow : OpenClaim := { program := "ytdkjhbbddlognaa", sum := "7592acf62d09cc2fb701c43e481e471861b22d1b60175c6cb01e01ce778ce245", func := "loop.example/g00974/laws.FnExactEntriesOf", spec := "fnExactEntriesOf", apart := false }
def FnExactEntriesOfSaid : Prop := fnExactEntriesOfRow.holds Try.pinned (OpenSpec.ofChange fnExactEntriesOfSpec)

/-- ITS FALSE NEIGHBOUR: 'it returns false'. Refute it at one input. -/
def fnExactEntriesOfWrong : ChangeSpec := { name := "fnExactEntriesOf", fn := fun _ => fun
  | [d1, d2] => { results := [.lit (.bool false)], args := [d1, d2] }
  | _ => none }
def FnExactEntriesOfWrongFalsely : Prop := fnExactEntriesOfRow.holds Try.pinned (OpenSpec.ofChange fnExactEntriesOfWrong)

/-- 'laws.FnExactRespectsTime': WHATEVER THE INPUT: true; the input reads as it did. -/
def fnExactRespectsTimeSpec : ChangeSpec := { name := "fnExactRespectsTime", fn := fun _ => fun
  | [d] => { results := [.lit (.bool true)], args := [d] }
  | _ => none }
def fnExactRespectsTimeRow : OpenClaim := { program := "ytdkjhbbddlognaa", sum := "7592acf62d09cc2fb701c43e481e471861b22d1b60175c6cb01e01ce778ce245", func := "loop.example/g00974/laws.FnExactRespectsTime", spec := "fnExactRespectsTime", apart := false }
def FnExactRespectsTimeSaid : Prop := fnExactRespectsTimeRow.holds Try.pinned (OpenSpec.ofChange fnExactRespectsTimeSpec)

/-- ITS FALSE NEIGHBOUR: 'it returns false'. Refute it at one input. -/
def fnExactRespectsTimeWrong : ChangeSpec := { name := "fnExactRespectsTime", fn := fun _ => fun
  | [d] => { results := [.lit (.bool false)], args := [d] }
  | _ => none }
def FnExactRespectsTimeWrongFalsely : Prop := fnExactRespectsTimeRow.holds Try.pinned (OpenSpec.ofChange fnExactRespectsTimeWrong)

/-- 'laws.FnExactMeanwhile': WHATEVER THE INPUT: true; the input reads as it did. -/
def fnExactMeanwhileSpec : ChangeSpec := { name := "fnExactMeanwhile", fn := fun _ => fun
  | [d1, d2] => { results := [.lit (.bool true)], args := [d1, d2] }
  | _ => none }
def fnExactMeanwhileRow : OpenClaim := { program := "ytdkjhbbddlognaa", sum := "7592acf62d09cc2fb701c43e481e471861b22d1b60175c6cb01e01ce778ce245", func := "loop.example/g00974/laws.FnExactMeanwhile", spec := "fnExactMeanwhile", apart := false }
def FnExactMeanwhileSaid : Prop := fnExactMeanwhileRow.holds Try.pinned (OpenSpec.ofChange fnExactMeanwhileSpec)

/-- ITS FALSE NEIGHBOUR: 'it returns false'. Refute it at one input. -/
def fnExactMeanwhileWrong : ChangeSpec := { name := "fnExactMeanwhile", fn := fun _ => fun
  | [d1, d2] => { results := [.lit (.bool false)], args := [d1, d2] }
  | _ => none }
def FnExactMeanwhileWrongFalsely : Prop := fnExactMeanwhileRow.holds Try.pinned (OpenSpec.ofChange fnExactMeanwhileWrong)

/-- 'laws.FnExactSameEntries': WHATEVER THE INPUT: true; the input reads as it did. -/
def fnExactSameEntriesSpec : ChangeSpec := { name := "fnExactSameEntries", fn := fun _ => fun
  | [d1, d2] => { results := [.lit (.bool true)], args := [d1, d2] }
  | _ => none }
def fnExactSameEntriesRow : OpenClaim := { program := "ytdkjhbbddlognaa", sum := "7592acf62d09cc2fb701c43e481e471861b22d1b60175c6cb01e01ce778ce245", func := "loop.example/g00974/laws.FnExactSameEntries", spec := "fnExactSameEntries", unfollowed := true, recurses := true, apart := false }
def FnExactSameEntriesSaid : Prop := fnExactSameEntriesRow.holds Try.pinned (OpenSpec.ofChange fnExactSameEntriesSpec)

/-- ITS FALSE NEIGHBOUR: 'it returns false'. Refute it at one input. -/
def fnExactSameEntriesWrong : ChangeSpec := { name := "fnExactSameEntries", fn := fun _ => fun
  | [d1, d2] => { results := [.lit (.bool false)], args := [d1, d2] }
  | _ => none }
def FnExactSameEntriesWrongFalsely : Prop := fnExactSameEntriesRow.holds Try.pinned (OpenSpec.ofChange fnExactSameEntriesWrong)

/-- 'laws.FnExactHistoryAnswers': WHATEVER THE INPUT: true; the input reads as it did. -/
def fnExactHistoryAnswersSpec : ChangeSpec := { name := "fnExactHistoryAnswers", fn := fun _ => fun
  | [d] => { results := [.lit (.bool true)], args := [d] }
  | _ => none }
def fnExactHistoryAnswersRow : OpenClaim := { program := "ytdkjhbbddlognaa", sum := "7592acf62d09cc2fb701c43e481e471861b22d1b60175c6cb01e01ce778ce245", func := "loop.example/g00974/laws.FnExactHistoryAnswers", spec := "fnExactHistoryAnswers", apart := false }
def FnExactHistoryAnswersSaid : Prop := fnExactHistoryAnswersRow.holds Try.pinned (OpenSpec.ofChange fnExactHistoryAnswersSpec)

/-- ITS FALSE NEIGHBOUR: 'it returns false'. Refute it at one input. -/
def fnExactHistoryAnswersWrong : ChangeSpec := { name := "fnExactHistoryAnswers", fn := fun _ => fun
  | [d] => { results := [.lit (.bool false)], args := [d] }
  | _ => none }
def FnExactHistoryAnswersWrongFalsely : Prop := fnExactHistoryAnswersRow.holds Try.pinned (OpenSpec.ofChange fnExactHistoryAnswersWrong)

/-- 'laws.FnExactHistorySteps': WHATEVER THE INPUT: true; the input reads as it did. -/
def fnExactHistoryStepsSpec : ChangeSpec := { name := "fnExactHistorySteps", fn := fun _ => fun
  | [d] => { results := [.lit (.bool true)], args := [d] }
  | _ => none }
def fnExactHistoryStepsRow : OpenClaim := { program := "ytdkjhbbddlognaa", sum := "7592acf62d09cc2fb701c43e481e471861b22d1b60175c6cb01e01ce778ce245", func := "loop.example/g00974/laws.FnExactHistorySteps", spec := "fnExactHistorySteps", apart := false }
def FnExactHistoryStepsSaid : Prop := fnExactHistoryStepsRow.holds Try.pinned (OpenSpec.ofChange fnExactHistoryStepsSpec)

/-- ITS FALSE NEIGHBOUR: 'it returns false'. Refute it at one input. -/
def fnExactHistoryStepsWrong : ChangeSpec := { name := "fnExactHistorySteps", fn := fun _ => fun
  | [d] => { results := [.lit (.bool false)], args := [d] }
  | _ => none }
def FnExactHistoryStepsWrongFalsely : Prop := fnExactHistoryStepsRow.holds Try.pinned (OpenSpec.ofChange fnExactHistoryStepsWrong)

/-- 'laws.FnExactWhole': WHATEVER THE INPUT: true; the input reads as it did. -/
def fnExactWholeSpec : ChangeSpec := { name := "fnExactWhole", fn := fun _ => fun
  | [d] => { results := [.lit (.bool true)], args := [d] }
  | _ => none }
def fnExactWholeRow : OpenClaim := { program := "ytdkjhbbddlognaa", sum := "7592acf62d09cc2fb701c43e481e471861b22d1b60175c6cb01e01ce778ce245", func := "loop.example/g00974/laws.FnExactWhole", spec := "fnExactWhole", apart := false }
def FnExactWholeSaid : Prop := fnExactWholeRow.holds Try.pinned (OpenSpec.ofChange fnExactWholeSpec)

/-- ITS FALSE NEIGHBOUR: 'it returns false'. Refute it at one input. -/
def fnExactWholeWrong : ChangeSpec := { name := "fnExactWhole", fn := fun _ => fun
  | [d] => { results := [.lit (.bool false)], args := [d] }
  | _ => none }
def FnExactWholeWrongFalsely : Prop := fnExactWholeRow.holds Try.pinned (OpenSpec.ofChange fnExactWholeWrong)

/-- 'laws.FnExactSameKernel': WHATEVER THE INPUT: true; the input reads as it did. -/
def fnExactSameKernelSpec : ChangeSpec := { name := "fnExactSameKernel", fn := fun _ => fun
  | [d1, d2] => { results := [.lit (.bool true)], args := [d1, d2] }
  | _ => none }
def fnExactSameKernelRow : OpenClaim := { program := "ytdkjhbbddlognaa", sum := "7592acf62d09cc2fb701c43e481e471861b22d1b60175c6cb01e01ce778ce245", func := "loop.example/g00974/laws.FnExactSameKernel", spec := "fnExactSameKernel", unfollowed := true, recurses := true, apart := false }
def FnExactSameKernelSaid : Prop := fnExactSameKernelRow.holds Try.pinned (OpenSpec.ofChange fnExactSameKernelSpec)

/-- ITS FALSE NEIGHBOUR: 'it returns false'. Refute it at one input. -/
def fnExactSameKernelWrong : ChangeSpec := { name := "fnExactSameKernel", fn := fun _ => fun
  | [d1, d2] => { results := [.lit (.bool false)], args := [d1, d2] }
  | _ => none }
def FnExactSameKernelWrongFalsely : Prop := fnExactSameKernelRow.holds Try.pinned (OpenSpec.ofChange fnExactSameKernelWrong)

/-- 'laws.FnExactDroppedIn': WHATEVER THE INPUT: true; the input reads as it did. -/
def fnExactDroppedInSpec : ChangeSpec := { name := "fnExactDroppedIn", fn := fun _ => fun
  | [d] => { results := [.lit (.bool true)], args := [d] }
  | _ => none }
def fnExactDroppedInRow : OpenClaim := { program := "ytdkjhbbddlognaa", sum := "7592acf62d09cc2fb701c43e481e471861b22d1b60175c6cb01e01ce778ce245", func := "loop.example/g00974/laws.FnExactDroppedIn", spec := "fnExactDroppedIn", unfollowed := true, recurses := true, apart := false }
def FnExactDroppedInSaid : Prop := fnExactDroppedInRow.holds Try.pinned (OpenSpec.ofChange fnExactDroppedInSpec)

/-- ITS FALSE NEIGHBOUR: 'it returns false'. Refute it at one input. -/
def fnExactDroppedInWrong : ChangeSpec := { name := "fnExactDroppedIn", fn := fun _ => fun
  | [d] => { results := [.lit (.bool false)], args := [d] }
  | _ => none }
def FnExactDroppedInWrongFalsely : Prop := fnExactDroppedInRow.holds Try.pinned (OpenSpec.ofChange fnExactDroppedInWrong)

/-- 'laws.FnExactLastEntry': WHATEVER THE INPUT: true; the input reads as it did. -/
def fnExactLastEntrySpec : ChangeSpec := { name := "fnExactLastEntry", fn := fun _ => fun
  | [d] => { results := [.lit (.bool true)], args := [d] }
  | _ => none }
def fnExactLastEntryRow : OpenClaim := { program := "ytdkjhbbddlognaa", sum := "7592acf62d09cc2fb701c43e481e471861b22d1b60175c6cb01e01ce778ce245", func := "loop.example/g00974/laws.FnExactLastEntry", spec := "fnExactLastEntry", apart := false }
def FnExactLastEntrySaid : Prop := fnExactLastEntryRow.holds Try.pinned (OpenSpec.ofChange fnExactLastEntrySpec)

/-- ITS FALSE NEIGHBOUR: 'it returns false'. Refute it at one input. -/
def fnExactLastEntryWrong : ChangeSpec := { name := "fnExactLastEntry", fn := fun _ => fun
  | [d] => { results := [.lit (.bool false)], args := [d] }
  | _ => none }
def FnExactLastEntryWrongFalsely : Prop := fnExactLastEntryRow.holds Try.pinned (OpenSpec.ofChange fnExactLastEntryWrong)

/- THE SECOND FORM. 'bulk': how many values and letters a reading holds, each counted each time it is reached (what is shared counts as often as it is met; a slice's spare places count too). A statement '..UptoSaid' is the law's where the arguments, and the package variables that the reading takes, are together of bulk at most 1048576: NARROWER than '..Said'. Prove '..Said' where nothing that the law and all that it calls make is longer than what came in: it says more and counts as full. Else prove '..UptoSaid'. A law counts once. -/
mutual
def uptoBulk {H : Type} : DataW H → Nat
  | .lit (.string bytes) => bytes.length + 1
  | .lit _ => 1
  | .nil => 1
  | .ptr d => uptoBulk d + 1
  | .slice elems spare => uptoBulkAll elems + uptoBulkAll spare + 1
  | .agg parts => uptoBulkAll parts + 1
  | .iface _ d => uptoBulk d + 1
  | .map entries => uptoBulkEntries entries + 1
  | .held _ => 1
def uptoBulkAll {H : Type} : List (DataW H) → Nat
  | [] => 0
  | d :: r => uptoBulk d + uptoBulkAll r
def uptoBulkEntries {H : Type} : List (Lit × DataW H) → Nat
  | [] => 0
  | x :: r => uptoBulkEntry x + uptoBulkEntries r
def uptoBulkEntry {H : Type} : Lit × DataW H → Nat
  | (.string bytes, d) => bytes.length + uptoBulk d + 1
  | (_, d) => uptoBulk d + 1
 end
def uptoSmall : (H : Type) → List (DataW H) → Bool := fun _ ds => decide (uptoBulkAll ds ≤ 1048576)
def OpenSpec.upto (s : _root_.Go.ChangeSpec) : _root_.Go.OpenSpec := { _root_.Go.OpenSpec.ofChange s with cond := some uptoSmall }

/-- 'laws.FnExactSameAct', WHERE WHAT IT READS IS OF BULK AT MOST 1048576: true; the input reads as it did. -/
def fnExactSameActUptoRow : OpenClaim := { program := "ytdkjhbbddlognaa", sum := "7592acf62d09cc2fb701c43e481e471861b22d1b60175c6cb01e01ce778ce245", func := "loop.example/g00974/laws.FnExactSameAct", spec := "fnExactSameAct", apart := false, narrowed := true }
def FnExactSameActUptoSaid : Prop := fnExactSameActUptoRow.holds Try.pinned (OpenSpec.upto fnExactSameActSpec)

/-- 'laws.FnExactActsOf', WHERE WHAT IT READS IS OF BULK AT MOST 1048576: true; the input reads as it did. -/
def fnExactActsOfUptoRow : OpenClaim := { program := "ytdkjhbbddlognaa", sum := "7592acf62d09cc2fb701c43e481e471861b22d1b60175c6cb01e01ce778ce245", func := "loop.example/g00974/laws.FnExactActsOf", spec := "fnExactActsOf", apart := false, narrowed := true }
def FnExactActsOfUptoSaid : Prop := fnExactActsOfUptoRow.holds Try.pinned (OpenSpec.upto fnExactActsOfSpec)

/-- 'laws.FnExactBefore', WHERE WHAT IT READS IS OF BULK AT MOST 1048576: true; the input reads as it did. -/
def fnExactBeforeUptoRow : OpenClaim := { program := "ytdkjhbbddlognaa", sum := "7592acf62d09cc2fb701c43e481e471861b22d1b60175c6cb01e01ce778ce245", func := "loop.example/g00974/laws.FnExactBefore", spec := "fnExactBefore", apart := false, narrowed := true }
def FnExactBeforeUptoSaid : Prop := fnExactBeforeUptoRow.holds Try.pinned (OpenSpec.upto fnExactBeforeSpec)

/-- 'laws.FnExactRising', WHERE WHAT IT READS IS OF BULK AT MOST 1048576: true; the input reads as it did. -/
def fnExactRisingUptoRow : OpenClaim := { program := "ytdkjhbbddlognaa", sum := "7592acf62d09cc2fb701c43e481e471861b22d1b60175c6cb01e01ce778ce245", func := "loop.example/g00974/laws.FnExactRising", spec := "fnExactRising", apart := false, narrowed := true }
def FnExactRisingUptoSaid : Prop := fnExactRisingUptoRow.holds Try.pinned (OpenSpec.upto fnExactRisingSpec)

/-- 'laws.FnExactEntriesOf', WHERE WHAT IT READS IS OF BULK AT MOST 1048576: true; the input reads as it did. -/
def fnExactEntriesOfUptoRow : OpenClaim := { program := "ytdkjhbbddlognaa", sum := "7592acf62d09cc2fb701c43e481e471861b22d1b60175c6cb01e01ce778ce245", func := "loop.example/g00974/laws.FnExactEntriesOf", spec := "fnExactEntriesOf", apart := false, narrowed := true }
def FnExactEntriesOfUptoSaid : Prop := fnExactEntriesOfUptoRow.holds Try.pinned (OpenSpec.upto fnExactEntriesOfSpec)

/-- 'laws.FnExactRespectsTime', WHERE WHAT IT READS IS OF BULK AT MOST 1048576: true; the input reads as it did. -/
def fnExactRespectsTimeUptoRow : OpenClaim := { program := "ytdkjhbbddlognaa", sum := "7592acf62d09cc2fb701c43e481e471861b22d1b60175c6cb01e01ce778ce245", func := "loop.example/g00974/laws.FnExactRespectsTime", spec := "fnExactRespectsTime", apart := false, narrowed := true }
def FnExactRespectsTimeUptoSaid : Prop := fnExactRespectsTimeUptoRow.holds Try.pinned (OpenSpec.upto fnExactRespectsTimeSpec)

/-- 'laws.FnExactMeanwhile', WHERE WHAT IT READS IS OF BULK AT MOST 1048576: true; the input reads as it did. -/
def fnExactMeanwhileUptoRow : OpenClaim := { program := "ytdkjhbbddlognaa", sum := "7592acf62d09cc2fb701c43e481e471861b22d1b60175c6cb01e01ce778ce245", func := "loop.example/g00974/laws.FnExactMeanwhile", spec := "fnExactMeanwhile", apart := false, narrowed := true }
def FnExactMeanwhileUptoSaid : Prop := fnExactMeanwhileUptoRow.holds Try.pinned (OpenSpec.upto fnExactMeanwhileSpec)

/-- 'laws.FnExactSameEntries', WHERE WHAT IT READS IS OF BULK AT MOST 1048576: true; the input reads as it did. -/
def fnExactSameEntriesUptoRow : OpenClaim := { program := "ytdkjhbbddlognaa", sum := "7592acf62d09cc2fb701c43e481e471861b22d1b60175c6cb01e01ce778ce245", func := "loop.example/g00974/laws.FnExactSameEntries", spec := "fnExactSameEntries", unfollowed := true, recurses := true, apart := false, narrowed := true }
def FnExactSameEntriesUptoSaid : Prop := fnExactSameEntriesUptoRow.holds Try.pinned (OpenSpec.upto fnExactSameEntriesSpec)

/-- 'laws.FnExactHistoryAnswers', WHERE WHAT IT READS IS OF BULK AT MOST 1048576: true; the input reads as it did. -/
def fnExactHistoryAnswersUptoRow : OpenClaim := { program := "ytdkjhbbddlognaa", sum := "7592acf62d09cc2fb701c43e481e471861b22d1b60175c6cb01e01ce778ce245", func := "loop.example/g00974/laws.FnExactHistoryAnswers", spec := "fnExactHistoryAnswers", apart := false, narrowed := true }
def FnExactHistoryAnswersUptoSaid : Prop := fnExactHistoryAnswersUptoRow.holds Try.pinned (OpenSpec.upto fnExactHistoryAnswersSpec)

/-- 'laws.FnExactHistorySteps', WHERE WHAT IT READS IS OF BULK AT MOST 1048576: true; the input reads as it did. -/
def fnExactHistoryStepsUptoRow : OpenClaim := { program := "ytdkjhbbddlognaa", sum := "7592acf62d09cc2fb701c43e481e471861b22d1b60175c6cb01e01ce778ce245", func := "loop.example/g00974/laws.FnExactHistorySteps", spec := "fnExactHistorySteps", apart := false, narrowed := true }
def FnExactHistoryStepsUptoSaid : Prop := fnExactHistoryStepsUptoRow.holds Try.pinned (OpenSpec.upto fnExactHistoryStepsSpec)

/-- 'laws.FnExactWhole', WHERE WHAT IT READS IS OF BULK AT MOST 1048576: true; the input reads as it did. -/
def fnExactWholeUptoRow : OpenClaim := { program := "ytdkjhbbddlognaa", sum := "7592acf62d09cc2fb701c43e481e471861b22d1b60175c6cb01e01ce778ce245", func := "loop.example/g00974/laws.FnExactWhole", spec := "fnExactWhole", apart := false, narrowed := true }
def FnExactWholeUptoSaid : Prop := fnExactWholeUptoRow.holds Try.pinned (OpenSpec.upto fnExactWholeSpec)

/-- 'laws.FnExactSameKernel', WHERE WHAT IT READS IS OF BULK AT MOST 1048576: true; the input reads as it did. -/
def fnExactSameKernelUptoRow : OpenClaim := { program := "ytdkjhbbddlognaa", sum := "7592acf62d09cc2fb701c43e481e471861b22d1b60175c6cb01e01ce778ce245", func := "loop.example/g00974/laws.FnExactSameKernel", spec := "fnExactSameKernel", unfollowed := true, recurses := true, apart := false, narrowed := true }
def FnExactSameKernelUptoSaid : Prop := fnExactSameKernelUptoRow.holds Try.pinned (OpenSpec.upto fnExactSameKernelSpec)

/-- 'laws.FnExactDroppedIn', WHERE WHAT IT READS IS OF BULK AT MOST 1048576: true; the input reads as it did. -/
def fnExactDroppedInUptoRow : OpenClaim := { program := "ytdkjhbbddlognaa", sum := "7592acf62d09cc2fb701c43e481e471861b22d1b60175c6cb01e01ce778ce245", func := "loop.example/g00974/laws.FnExactDroppedIn", spec := "fnExactDroppedIn", unfollowed := true, recurses := true, apart := false, narrowed := true }
def FnExactDroppedInUptoSaid : Prop := fnExactDroppedInUptoRow.holds Try.pinned (OpenSpec.upto fnExactDroppedInSpec)

/-- 'laws.FnExactLastEntry', WHERE WHAT IT READS IS OF BULK AT MOST 1048576: true; the input reads as it did. -/
def fnExactLastEntryUptoRow : OpenClaim := { program := "ytdkjhbbddlognaa", sum := "7592acf62d09cc2fb701c43e481e471861b22d1b60175c6cb01e01ce778ce245", func := "loop.example/g00974/laws.FnExactLastEntry", spec := "fnExactLastEntry", apart := false, narrowed := true }
def FnExactLastEntryUptoSaid : Prop := fnExactLastEntryUptoRow.holds Try.pinned (OpenSpec.upto fnExactLastEntrySpec)

end Rows
end Go.Proofs.Ytdkjhbbddlognaa
