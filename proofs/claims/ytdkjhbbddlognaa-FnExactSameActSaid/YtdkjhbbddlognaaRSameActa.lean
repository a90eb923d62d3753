/-
  The program's SameAct returns what the reference's returns, for all arguments: the law's function is walked on trees, and answers true whatever it is given; no conditions.
-/
import Derived.Test.YtdkjhbbddlognaaRows
import Derived.Test.YtdkjhbbddlognaaWSameAct0
namespace Go.Proofs.Ytdkjhbbddlognaa.fnExactSameAct
open Go.Mv Go.RowKit Go.ChangeShapes Go.WideShapes Go.ChangeAt
set_option linter.unusedVariables false
set_option linter.unusedSimpArgs false
set_option maxRecDepth 10000
theorem clean72 : Mv.Clean F72 := by
  intro us res outs h
  obtain ⟨x, y, rfl, hr⟩ := fn2_inv h
  try simp only [g20, gOk] at hr
  first
    | (split at hr
       · cases hr; simp [noBorL, noBor]
       · cases hr)
    | (cases hr; simp [noBorL, noBor])
theorem clean17 : Mv.Clean F17 := by
  intro us res outs h
  obtain ⟨x, y, rfl, hr⟩ := fn2_inv h
  try simp only [g20, gOk] at hr
  first
    | (split at hr
       · cases hr; simp [noBorL, noBor]
       · cases hr)
    | (cases hr; simp [noBorL, noBor])
theorem clean73 : Mv.Clean F73 := by
  intro us res outs h
  obtain ⟨x, rfl, hr⟩ := fn1_inv h
  try simp only [g20, gOk] at hr
  first
    | (split at hr
       · cases hr; simp [noBorL, noBor, DCall.nob]
       · cases hr)
    | (cases hr; simp [noBorL, noBor])
theorem clean19 : Mv.Clean F19 := by
  intro us res outs h
  obtain ⟨x, rfl, hr⟩ := fn1_inv h
  try simp only [g20, gOk] at hr
  first
    | (split at hr
       · cases hr; simp [noBorL, noBor, DAct.nob]
       · cases hr)
    | (cases hr; simp [noBorL, noBor])
theorem clean18 : Mv.Clean F18 := by
  intro us res outs h
  obtain ⟨x, y, rfl, hr⟩ := fn2_inv h
  try simp only [g20, gOk] at hr
  first
    | (split at hr
       · cases hr; simp [noBorL, noBor]
       · cases hr)
    | (cases hr; simp [noBorL, noBor])
theorem clean20 : Mv.Clean F20 := by
  intro us res outs h
  obtain ⟨x, y, rfl, hr⟩ := fn2_inv h
  try simp only [g20, gOk] at hr
  first
    | (split at hr
       · cases hr; simp [noBorL, noBor]
       · cases hr)
    | (cases hr; simp [noBorL, noBor])
noncomputable def G0 : Mv.Env := Mv.Env.add Mv.Env.none 72 F72
theorem good0 : Mv.Good Try.prog G0 := Mv.Good.add Mv.Good.none (con72 Mv.Good.none ) (fun _ => clean72) Try.func72 rfl rfl
noncomputable def G1 : Mv.Env := Mv.Env.add G0 17 F17
theorem good1 : Mv.Good Try.prog G1 := Mv.Good.add good0 (con17 good0 rfl) (fun _ => clean17) Try.func17 rfl rfl
noncomputable def G2 : Mv.Env := Mv.Env.add G1 73 F73
theorem good2 : Mv.Good Try.prog G2 := Mv.Good.add good1 (con73 good1 ) (fun _ => clean73) Try.func73 rfl rfl
noncomputable def G3 : Mv.Env := Mv.Env.add G2 19 F19
theorem good3 : Mv.Good Try.prog G3 := Mv.Good.add good2 (con19 good2 rfl) (fun _ => clean19) Try.func19 rfl rfl
noncomputable def G4 : Mv.Env := Mv.Env.add G3 18 F18
theorem good4 : Mv.Good Try.prog G4 := Mv.Good.add good3 (con18 good3 ) (fun _ => clean18) Try.func18 rfl rfl
noncomputable def G5 : Mv.Env := Mv.Env.add G4 20 F20
theorem good5 : Mv.Good Try.prog G5 := Mv.Good.add good4 (con20 good4 ) (fun _ => clean20) Try.func20 rfl rfl
theorem whole : Contract Try.prog 3 F3 := con3 good5 rfl rfl rfl rfl
theorem own : ownKnob Try.prog.godebug = none := by kernel_rfl
theorem laidOut : laidOutB Try.prog = true := by kernel_rfl
theorem shape : Try.f3.params.toList.mapM (shapeOf Try.prog 12) = some [shAct, shAct] := by kernel_rfl
theorem sem (us : List Tr) (h : ShpA [shAct, shAct] us) : F3.sem us = some ([.sc (.bool true)], []) := by
  cases h with | cons a0 r0 =>
  cases r0 with | cons a1 r1 =>
  cases r1
  obtain ⟨x0, rfl⟩ := shp_Act _ a0
  obtain ⟨x1, rfl⟩ := shp_Act _ a1
  simp [F3, fn1, fn2, fn3, argTr, shAct, shAct]
theorem contract (H : Type) (enc : TypeId × Value → H) (W : World) (base : Nat) (args : Array Value) (ds gs : List (DataW H)) (before : List MemPlace)
    (hval : ∀ (j : Nat) t v, Try.f3.params[j]? = some t → args[j]? = some v → Value.okWide Try.prog W .any base t v)
    (hW : DataW.Whole enc Try.prog Try.f3.params.toList Rows.fnExactSameActSpec.vars false W args.toList ds gs before) :
    Calls Try.prog 3 args W fun e W' => ∃ v, e = .returned v ∧ Rows.fnExactSameActSpec.post enc Try.prog Try.f3 false true false false W args v W' := by
  refine law_contract whole rfl rfl shape sem laidOut (by intro t ht; rw [show Try.f3.params.toList = [25, 25] from rfl] at ht; simp at ht; subst ht; exact ⟨by kernel_rfl, of_decide_eq_true (by kernel_rfl)⟩) rfl Try.underlying4 rfl ?_ W base args ds gs before hval hW
  intro ds hds
  rw [show Try.f3.params.toList = [25, 25] from rfl] at hds
  match ds, hds with
  | [d0, d1], _ => exact ⟨rfl, rfl, rfl⟩

end Go.Proofs.Ytdkjhbbddlognaa.fnExactSameAct
