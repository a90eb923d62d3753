/-
  No cell of these rows narrows 'for every input' (looked for: loops, veiled, ifaces, maps, wideKeys, modest, calm, conditions, laid).
  DERIVED. THE GIVEN ROWS OF THIS SEAT. 6 by the template 'for every input the law returns true; each argument reads behind the call as it read before'; 0 by the template 'total and deterministic' (their statements: YtdihnokjlbbihaaTotals.lean).
  GIVEN WITH THE SEED: the statements are not yours to turn. If you find one false, say at which input.
  Laid BY PROGRAM, IN A SANDBOX (cutbox-rows.mjs): the forced cells as the released guide's own fill.sh prints them over the translation af03d96e21ade713… (all of the seat's roots in one cut). By AI agents, Wed Nov 11 2026. No macro, syntax, notation, axiom, sorry.
-/
import Derived.Test.YtdihnokjlbbihaaChecked
import GoSem.Claim
import GoSem.ClaimJoined
import GoSem.ClaimMapViews
import Derived.JoinedTies
import Derived.KernelRfl
namespace Go.Proofs.Ytdihnokjlbbihaa
/- THE CELL 'sum', in the pinned program and in every row, IS THE sha256 OF THE DUMP (.gsa) THAT YtdihnokjlbbihaaProg.lean LOADS. Nothing in Lean hashes anything: it is a label: what it is worth is what the hold of that sum in a sandbox is worth. -/
noncomputable def Try.pinned : Pinned := { name := "ytdihnokjlbbihaa", sum := "af03d96e21ade713e6145bf56f729959f990286fa2e74fc4e597f7ea622589bb", checked := Try.checked }
namespace Rows
def none {H : Type} : Left H := { results := [], args := [] }

/-- 'laws.FnExactSameAct': WHATEVER THE INPUT: true; the input reads as it did. -/
def fnExactSameActSpec : ChangeSpec := { name := "fnExactSameAct", fn := fun _ => fun
  | [d1, d2] => { results := [.lit (.bool true)], args := [d1, d2] }
  | _ => none }
def fnExactSameActRow : OpenClaim := { program := "ytdihnokjlbbihaa", sum := "af03d96e21ade713e6145bf56f729959f990286fa2e74fc4e597f7ea622589bb", func := "loop.example/g00974/laws.FnExactSameAct", spec := "fnExactSameAct", apart := false }
def FnExactSameActSaid : Prop := fnExactSameActRow.holds Try.pinned (OpenSpec.ofChange fnExactSameActSpec)

/-- ITS FALSE NEIGHBOUR: 'it returns false'. Refute it at one input. -/
def fnExactSameActWrong : ChangeSpec := { name := "fnExactSameAct", fn := fun _ => fun
  | [d1, d2] => { results := [.lit (.bool false)], args := [d1, d2] }
  | _ => none }
def FnExactSameActWrongFalsely : Prop := fnExactSameActRow.holds Try.pinned (OpenSpec.ofChange fnExactSameActWrong)

/-- 'laws.FnExactActOk': WHATEVER THE INPUT: true; the input reads as it did. -/
def fnExactActOkSpec : ChangeSpec := { name := "fnExactActOk", fn := fun _ => fun
  | [d] => { results := [.lit (.bool true)], args := [d] }
  | _ => none }
def fnExactActOkRow : OpenClaim := { program := "ytdihnokjlbbihaa", sum := "af03d96e21ade713e6145bf56f729959f990286fa2e74fc4e597f7ea622589bb", func := "loop.example/g00974/laws.FnExactActOk", spec := "fnExactActOk", apart := false }
def FnExactActOkSaid : Prop := fnExactActOkRow.holds Try.pinned (OpenSpec.ofChange fnExactActOkSpec)

/-- ITS FALSE NEIGHBOUR: 'it returns false'. Refute it at one input. -/
def fnExactActOkWrong : ChangeSpec := { name := "fnExactActOk", fn := fun _ => fun
  | [d] => { results := [.lit (.bool false)], args := [d] }
  | _ => none }
def FnExactActOkWrongFalsely : Prop := fnExactActOkRow.holds Try.pinned (OpenSpec.ofChange fnExactActOkWrong)

/-- 'laws.FnExactActsOf': WHATEVER THE INPUT: true; the input reads as it did. -/
def fnExactActsOfSpec : ChangeSpec := { name := "fnExactActsOf", fn := fun _ => fun
  | [d1, d2] => { results := [.lit (.bool true)], args := [d1, d2] }
  | _ => none }
def fnExactActsOfRow : OpenClaim := { program := "ytdihnokjlbbihaa", sum := "af03d96e21ade713e6145bf56f729959f990286fa2e74fc4e597f7ea622589bb", func := "loop.example/g00974/laws.FnExactActsOf", spec := "fnExactActsOf", apart := false }
def FnExactActsOfSaid : Prop := fnExactActsOfRow.holds Try.pinned (OpenSpec.ofChange fnExactActsOfSpec)

/-- ITS FALSE NEIGHBOUR: 'it returns false'. Refute it at one input. -/
def fnExactActsOfWrong : ChangeSpec := { name := "fnExactActsOf", fn := fun _ => fun
  | [d1, d2] => { results := [.lit (.bool false)], args := [d1, d2] }
  | _ => none }
def FnExactActsOfWrongFalsely : Prop := fnExactActsOfRow.holds Try.pinned (OpenSpec.ofChange fnExactActsOfWrong)

/-- 'laws.FnExactBefore': WHATEVER THE INPUT: true; the input reads as it did. -/
def fnExactBeforeSpec : ChangeSpec := { name := "fnExactBefore", fn := fun _ => fun
  | [d1, d2] => { results := [.lit (.bool true)], args := [d1, d2] }
  | _ => none }
def fnExactBeforeRow : OpenClaim := { program := "ytdihnokjlbbihaa", sum := "af03d96e21ade713e6145bf56f729959f990286fa2e74fc4e597f7ea622589bb", func := "loop.example/g00974/laws.FnExactBefore", spec := "fnExactBefore", apart := false }
def FnExactBeforeSaid : Prop := fnExactBeforeRow.holds Try.pinned (OpenSpec.ofChange fnExactBeforeSpec)

/-- ITS FALSE NEIGHBOUR: 'it returns false'. Refute it at one input. -/
def fnExactBeforeWrong : ChangeSpec := { name := "fnExactBefore", fn := fun _ => fun
  | [d1, d2] => { results := [.lit (.bool false)], args := [d1, d2] }
  | _ => none }
def FnExactBeforeWrongFalsely : Prop := fnExactBeforeRow.holds Try.pinned (OpenSpec.ofChange fnExactBeforeWrong)

/-- 'laws.FnExactRising': WHATEVER THE INPUT: true; the input reads as it did. -/
def fnExactRisingSpec : ChangeSpec := { name := "fnExactRising", fn := fun _ => fun
  | [d] => { results := [.lit (.bool true)], args := [d] }
  | _ => none }
def fnExactRisingRow : OpenClaim := { program := "ytdihnokjlbbihaa", sum := "af03d96e21ade713e6145bf56f729959f990286fa2e74fc4e597f7ea622589bb", func := "loop.example/g00974/laws.FnExactRising", spec := "fnExactRising", apart := false }
def FnExactRisingSaid : Prop := fnExactRisingRow.holds Try.pinned (OpenSpec.ofChange fnExactRisingSpec)

/-- ITS FALSE NEIGHBOUR: 'it returns false'. Refute it at one input. -/
def fnExactRisingWrong : ChangeSpec := { name := "fnExactRising", fn := fun _ => fun
  | [d] => { results := [.lit (.bool false)], args := [d] }
  | _ => none }
def FnExactRisingWrongFalsely : Prop := fnExactRisingRow.holds Try.pinned (OpenSpec.ofChange fnExactRisingWrong)

/-- 'laws.FnExactEntriesOf': WHATEVER THE INPUT: true; the input reads as it did. -/
def fnExactEntriesOfSpec : ChangeSpec := { name := "fnExactEntriesOf", fn := fun _ => fun
  | [d1, d2] => { results := [.lit (.bool true)], args := [d1, d2] }
  | _ => none }
def fnExactEntriesOfRow : OpenClaim := { program := "ytdihnokjlbbihaa", sum := "af03d96e21ade713e6145bf56f729959f990286fa2e74fc4e597f7ea622589bb", func := "loop.example/g00974/laws.FnExactEntriesOf", spec := "fnExactEntriesOf", apart := false }
def FnExactEntriesOfSaid : Prop := fnExactEntriesOfRow.holds Try.pinned (OpenSpec.ofChange fnExactEntriesOfSpec)

/-- ITS FALSE NEIGHBOUR: 'it returns false'. Refute it at one input. -/
def fnExactEntriesOfWrong : ChangeSpec := { name := "fnExactEntriesOf", fn := fun _ => fun
  | [d1, d2] => { results := [.lit (.bool false)], args := [d1, d2] }
  | _ => none }
def FnExactEntriesOfWrongFalsely : Prop := fnExactEntriesOfRow.holds Try.pinned (OpenSpec.ofChange fnExactEntriesOfWrong)

/- THE SECOND FORM. 'bulk': how many values and letters a reading holds, each counted each time it is reached (what is shared counts as often as it is met; a slice's spare places count too). A statement '..UptoSaid' is the law's where the arguments, and the package variables that the reading takes, are together of bulk at most 1048576: NARROWER than '..Said'. Prove '..Said' where nothing that the law and all that it calls make is longer than what came in: it says more and counts as full. Else prove '..UptoSaid'. A law counts once. -/
mutual
def uptoBulk {H : Type} : DataW H → Nat
  | .lit (.string bytes) => bytes.length + 1
  | .lit _ => 1
  | .nil => 1
  | .ptr d => uptoBulk d + 1
  | .slice elems spare => uptoBulkAll elems + uptoBulkAll spare + 1
  | .agg parts => uptoBulkAll parts + 1
  | .iface _ d => uptoBulk d + 1
  | .map entries => uptoBulkEntries entries + 1
  | .held _ => 1
def uptoBulkAll {H : Type} : List (DataW H) → Nat
  | [] => 0
  | d :: r => uptoBulk d + uptoBulkAll r
def uptoBulkEntries {H : Type} : List (Lit × DataW H) → Nat
  | [] => 0
  | x :: r => uptoBulkEntry x + uptoBulkEntries r
def uptoBulkEntry {H : Type} : Lit × DataW H → Nat
  | (.string bytes, d) => bytes.length + uptoBulk d + 1
  | (_, d) => uptoBulk d + 1
 end
def uptoSmall : (H : Type) → List (DataW H) → Bool := fun _ ds => decide (uptoBulkAll ds ≤ 1048576)
def OpenSpec.upto (s : _root_.Go.ChangeSpec) : _root_.Go.OpenSpec := { _root_.Go.OpenSpec.ofChange s with cond := some uptoSmall }

/-- 'laws.FnExactSameAct', WHERE WHAT IT READS IS OF BULK AT MOST 1048576: true; the input reads as it did. -/
def fnExactSameActUptoRow : OpenClaim := { program := "ytdihnokjlbbihaa", sum := "af03d96e21ade713e6145bf56f729959f990286fa2e74fc4e597f7ea622589bb", func := "loop.example/g00974/laws.FnExactSameAct", spec := "fnExactSameAct", apart := false, narrowed := true }
def FnExactSameActUptoSaid : Prop := fnExactSameActUptoRow.holds Try.pinned (OpenSpec.upto fnExactSameActSpec)

/-- 'laws.FnExactActOk', WHERE WHAT IT READS IS OF BULK AT MOST 1048576: true; the input reads as it did. -/
def fnExactActOkUptoRow : OpenClaim := { program := "ytdihnokjlbbihaa", sum := "af03d96e21ade713e6145bf56f729959f990286fa2e74fc4e597f7ea622589bb", func := "loop.example/g00974/laws.FnExactActOk", spec := "fnExactActOk", apart := false, narrowed := true }
def FnExactActOkUptoSaid : Prop := fnExactActOkUptoRow.holds Try.pinned (OpenSpec.upto fnExactActOkSpec)

/-- 'laws.FnExactActsOf', WHERE WHAT IT READS IS OF BULK AT MOST 1048576: true; the input reads as it did. -/
def fnExactActsOfUptoRow : OpenClaim := { program := "ytdihnokjlbbihaa", sum := "af03d96e21ade713e6145bf56f729959f990286fa2e74fc4e597f7ea622589bb", func := "loop.example/g00974/laws.FnExactActsOf", spec := "fnExactActsOf", apart := false, narrowed := true }
def FnExactActsOfUptoSaid : Prop := fnExactActsOfUptoRow.holds Try.pinned (OpenSpec.upto fnExactActsOfSpec)

/-- 'laws.FnExactBefore', WHERE WHAT IT READS IS OF BULK AT MOST 1048576: true; the input reads as it did. -/
def fnExactBeforeUptoRow : OpenClaim := { program := "ytdihnokjlbbihaa", sum := "af03d96e21ade713e6145bf56f729959f990286fa2e74fc4e597f7ea622589bb", func := "loop.example/g00974/laws.FnExactBefore", spec := "fnExactBefore", apart := false, narrowed := true }
def FnExactBeforeUptoSaid : Prop := fnExactBeforeUptoRow.holds Try.pinned (OpenSpec.upto fnExactBeforeSpec)

/-- 'laws.FnExactRising', WHERE WHAT IT READS IS OF BULK AT MOST 1048576: true; the input reads as it did. -/
def fnExactRisingUptoRow : OpenClaim := { program := "ytdihnokjlbbihaa", sum := "af03d96e21ade713e6145bf56f729959f990286fa2e74fc4e597f7ea622589bb", func := "loop.example/g00974/laws.FnExactRising", spec := "fnExactRising", apart := false, narrowed := true }
def FnExactRisingUptoSaid : Prop := fnExactRisingUptoRow.holds Try.pinned (OpenSpec.upto fnExactRisingSpec)

/-- 'laws.FnExactEntriesOf', WHERE WHAT IT READS IS OF BULK AT MOST 1048576: true; the input reads as it did. -/
def fnExactEntriesOfUptoRow : OpenClaim := { program := "ytdihnokjlbbihaa", sum := "af03d96e21ade713e6145bf56f729959f990286fa2e74fc4e597f7ea622589bb", func := "loop.example/g00974/laws.FnExactEntriesOf", spec := "fnExactEntriesOf", apart := false, narrowed := true }
def FnExactEntriesOfUptoSaid : Prop := fnExactEntriesOfUptoRow.holds Try.pinned (OpenSpec.upto fnExactEntriesOfSpec)

end Rows
end Go.Proofs.Ytdihnokjlbbihaa
