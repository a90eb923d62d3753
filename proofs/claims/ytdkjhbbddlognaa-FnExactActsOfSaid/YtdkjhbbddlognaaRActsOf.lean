/-
  The program's ActsOf returns what the reference's returns, for all arguments: the law's function is walked on trees, and answers true whatever it is given; no conditions.
-/
import Derived.Test.YtdkjhbbddlognaaRows
import Derived.Test.YtdkjhbbddlognaaWActsOf0
namespace Go.Proofs.Ytdkjhbbddlognaa.fnExactActsOf
open Go.Mv Go.RowKit Go.ChangeShapes Go.WideShapes Go.ChangeAt
set_option linter.unusedVariables false
set_option linter.unusedSimpArgs false
set_option maxRecDepth 10000
theorem clean72 : Mv.Clean F72 := by
  intro us res outs h
  obtain ⟨x, y, rfl, hr⟩ := fn2_inv h
  try simp only [g20, gOk] at hr
  first
    | (split at hr
       · cases hr; simp [noBorL, noBor]
       · cases hr)
    | (cases hr; simp [noBorL, noBor])
theorem clean17 : Mv.Clean F17 := by
  intro us res outs h
  obtain ⟨x, y, rfl, hr⟩ := fn2_inv h
  try simp only [g20, gOk] at hr
  first
    | (split at hr
       · cases hr; simp [noBorL, noBor]
       · cases hr)
    | (cases hr; simp [noBorL, noBor])
theorem clean21 : Mv.Clean F21 := by
  intro us res outs h
  obtain ⟨x, y, rfl, hr⟩ := fn2_inv h
  try simp only [g20, gOk] at hr
  first
    | (split at hr
       · cases hr; simp [noBorL, noBor]
       · cases hr)
    | (cases hr; simp [noBorL, noBor])
theorem clean73 : Mv.Clean F73 := by
  intro us res outs h
  obtain ⟨x, rfl, hr⟩ := fn1_inv h
  try simp only [g20, gOk] at hr
  first
    | (split at hr
       · cases hr; simp [noBorL, noBor, DCall.nob]
       · cases hr)
    | (cases hr; simp [noBorL, noBor])
theorem clean19 : Mv.Clean F19 := by
  intro us res outs h
  obtain ⟨x, rfl, hr⟩ := fn1_inv h
  try simp only [g20, gOk] at hr
  first
    | (split at hr
       · cases hr; simp [noBorL, noBor, DAct.nob]
       · cases hr)
    | (cases hr; simp [noBorL, noBor])
theorem clean23 : Mv.Clean F23 := by
  intro us res outs h
  obtain ⟨x, rfl, hr⟩ := fn1_inv h
  try simp only [g20, gOk] at hr
  first
    | (split at hr
       · cases hr; simp [noBorL, noBor, nobLL DAct.nob]
       · cases hr)
    | (cases hr; simp [noBorL, noBor])
theorem clean22 : Mv.Clean F22 := by
  intro us res outs h
  obtain ⟨x, y, rfl, hr⟩ := fn2_inv h
  try simp only [g20, gOk] at hr
  first
    | (split at hr
       · cases hr; simp [noBorL, noBor]
       · cases hr)
    | (cases hr; simp [noBorL, noBor])
theorem clean24 : Mv.Clean F24 := by
  intro us res outs h
  obtain ⟨x, y, rfl, hr⟩ := fn2_inv h
  try simp only [g20, gOk] at hr
  first
    | (split at hr
       · cases hr; simp [noBorL, noBor]
       · cases hr)
    | (cases hr; simp [noBorL, noBor])
theorem clean116 : Mv.Clean F116 := by
  intro us res outs h
  obtain ⟨x, y, rfl, hr⟩ := fn2_inv h
  try simp only [g20, gOk] at hr
  first
    | (split at hr
       · cases hr; simp [noBorL, noBor]
       · cases hr)
    | (cases hr; simp [noBorL, noBor])
theorem clean74 : Mv.Clean F74 := by
  intro us res outs h
  obtain ⟨x, y, rfl, hr⟩ := fn2_inv h
  try simp only [g20, gOk] at hr
  first
    | (split at hr
       · cases hr; simp [noBorL, noBor]
       · cases hr)
    | (cases hr; simp [noBorL, noBor])
theorem clean25 : Mv.Clean F25 := by
  intro us res outs h
  obtain ⟨x, y, rfl, hr⟩ := fn2_inv h
  try simp only [g20, gOk] at hr
  first
    | (split at hr
       · cases hr; simp [noBorL, noBor]
       · cases hr)
    | (cases hr; simp [noBorL, noBor])
noncomputable def G0 : Mv.Env := Mv.Env.add Mv.Env.none 72 F72
theorem good0 : Mv.Good Try.prog G0 := Mv.Good.add Mv.Good.none (con72 Mv.Good.none ) (fun _ => clean72) Try.func72 rfl rfl
noncomputable def G1 : Mv.Env := Mv.Env.add G0 17 F17
theorem good1 : Mv.Good Try.prog G1 := Mv.Good.add good0 (con17 good0 rfl) (fun _ => clean17) Try.func17 rfl rfl
noncomputable def G2 : Mv.Env := Mv.Env.add G1 21 F21
theorem good2 : Mv.Good Try.prog G2 := Mv.Good.add good1 (con21 good1 rfl) (fun _ => clean21) Try.func21 rfl rfl
noncomputable def G3 : Mv.Env := Mv.Env.add G2 73 F73
theorem good3 : Mv.Good Try.prog G3 := Mv.Good.add good2 (con73 good2 ) (fun _ => clean73) Try.func73 rfl rfl
noncomputable def G4 : Mv.Env := Mv.Env.add G3 19 F19
theorem good4 : Mv.Good Try.prog G4 := Mv.Good.add good3 (con19 good3 rfl) (fun _ => clean19) Try.func19 rfl rfl
noncomputable def G5 : Mv.Env := Mv.Env.add G4 23 F23
theorem good5 : Mv.Good Try.prog G5 := Mv.Good.add good4 (con23 good4 rfl) (fun _ => clean23) Try.func23 rfl rfl
noncomputable def G6 : Mv.Env := Mv.Env.add G5 22 F22
theorem good6 : Mv.Good Try.prog G6 := Mv.Good.add good5 (con22 good5 ) (fun _ => clean22) Try.func22 rfl rfl
noncomputable def G7 : Mv.Env := Mv.Env.add G6 24 F24
theorem good7 : Mv.Good Try.prog G7 := Mv.Good.add good6 (con24 good6 ) (fun _ => clean24) Try.func24 rfl rfl
noncomputable def G8 : Mv.Env := Mv.Env.add G7 116 F116
theorem good8 : Mv.Good Try.prog G8 := Mv.Good.add good7 (con116 good7 ) (fun _ => clean116) Try.func116 rfl rfl
noncomputable def G9 : Mv.Env := Mv.Env.add G8 74 F74
theorem good9 : Mv.Good Try.prog G9 := Mv.Good.add good8 (con74 good8 rfl) (fun _ => clean74) Try.func74 rfl rfl
noncomputable def G10 : Mv.Env := Mv.Env.add G9 25 F25
theorem good10 : Mv.Good Try.prog G10 := Mv.Good.add good9 (con25 good9 rfl) (fun _ => clean25) Try.func25 rfl rfl
theorem whole : Contract Try.prog 4 F4 := con4 good10 rfl rfl rfl rfl rfl
theorem own : ownKnob Try.prog.godebug = none := by kernel_rfl
theorem laidOut : laidOutB Try.prog = true := by kernel_rfl
theorem shape : Try.f4.params.toList.mapM (shapeOf Try.prog 12) = some [.sl 9 shAct, .i .i64] := by kernel_rfl
theorem sem (us : List Tr) (h : ShpA [.sl 9 shAct, .i .i64] us) : F4.sem us = some ([.sc (.bool true)], []) := by
  cases h with | cons a0 r0 =>
  cases r0 with | cons a1 r1 =>
  cases r1
  obtain ⟨x0, rfl⟩ := shp_sl shp_Act a0
  obtain ⟨x1, rfl⟩ := shp_i a1
  simp [F4, fn1, fn2, fn3, argTr]
theorem contract (H : Type) (enc : TypeId × Value → H) (W : World) (base : Nat) (args : Array Value) (ds gs : List (DataW H)) (before : List MemPlace)
    (hval : ∀ (j : Nat) t v, Try.f4.params[j]? = some t → args[j]? = some v → Value.okWide Try.prog W .any base t v)
    (hW : DataW.Whole enc Try.prog Try.f4.params.toList Rows.fnExactActsOfSpec.vars false W args.toList ds gs before) :
    Calls Try.prog 4 args W fun e W' => ∃ v, e = .returned v ∧ Rows.fnExactActsOfSpec.post enc Try.prog Try.f4 false true false false W args v W' := by
  refine law_contract whole rfl rfl shape sem laidOut (by intro t ht; rw [show Try.f4.params.toList = [33, 3] from rfl] at ht; simp at ht; rcases ht with rfl | rfl <;> exact ⟨by kernel_rfl, of_decide_eq_true (by kernel_rfl)⟩) rfl Try.underlying4 rfl ?_ W base args ds gs before hval hW
  intro ds hds
  rw [show Try.f4.params.toList = [33, 3] from rfl] at hds
  match ds, hds with
  | [d0, d1], _ => exact ⟨rfl, rfl, rfl⟩

set_option maxRecDepth 100000 in
theorem lifted (os : Os) (started : os.Started) (H : Type) (enc : TypeId × Value → H) :
    ReturnsInHanded {} Try.checked os 4 .any (Rows.fnExactActsOfSpec.pre6 enc Try.prog Try.f4 Rows.fnExactActsOfRow.domain false) (Rows.fnExactActsOfSpec.post enc Try.prog Try.f4 false true false false) := by
  refine returnsInHanded_of_change (C := Try.checked) own started (by kernel_rfl) Try.func4
    (ChangeSpec.witness6 (enc := enc) (C := Try.checked) false ⟨#[], #[.slice none 0 0, .int .i64 0], []⟩ 8 (by kernel_rfl) (by kernel_rfl) (by kernel_rfl) (by kernel_rfl)) ?_
  intro W base args ds gs before hval hW _ _
  exact contract H enc W base args ds gs before hval hW

theorem proved : Rows.FnExactActsOfSaid :=
  OpenClaim.holds_of_wide 4 Try.f4 rfl rfl rfl rfl rfl rfl rfl ⟨rfl, rfl, rfl, rfl, rfl⟩ rfl rfl rfl rfl rfl (by kernel_rfl) Try.func4 (by kernel_rfl)
    (of_decide_eq_true (by kernel_rfl)) (by unfold Func.isWrapper; first | (rw [if_pos (by decide +kernel)]; kernel_rfl) | (rw [if_neg (by decide +kernel)]; exact ⟨rfl, rfl⟩))
    (fun os started H enc _ => lifted os started H enc)
end Go.Proofs.Ytdkjhbbddlognaa.fnExactActsOf
