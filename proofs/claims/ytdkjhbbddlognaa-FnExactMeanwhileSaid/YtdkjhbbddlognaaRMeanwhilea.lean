/-
  The program's Meanwhile returns what the reference's returns, for all arguments: the law's function is walked on trees, and answers true whatever it is given; no conditions.
-/
import Derived.Test.YtdkjhbbddlognaaRows
import Derived.Test.YtdkjhbbddlognaaWMeanwhile0
import Derived.Test.YtdkjhbbddlognaaWMeanwhile1
import Derived.Test.YtdkjhbbddlognaaWMeanwhile2
import Derived.Test.YtdkjhbbddlognaaWMeanwhile3
namespace Go.Proofs.Ytdkjhbbddlognaa.fnExactMeanwhile
open Go.Mv Go.RowKit Go.ChangeShapes Go.WideShapes Go.ChangeAt
set_option linter.unusedVariables false
set_option linter.unusedSimpArgs false
set_option maxRecDepth 10000
theorem clean72 : Mv.Clean F72 := by
  intro us res outs h
  obtain ⟨x, y, rfl, hr⟩ := fn2_inv h
  try simp only [g20, gOk] at hr
  first
    | (split at hr
       · cases hr; simp [noBorL, noBor]
       · cases hr)
    | (cases hr; simp [noBorL, noBor])
theorem clean117 : Mv.Clean F117 := by
  intro us res outs h
  obtain ⟨x, y, rfl, hr⟩ := fn2_inv h
  try simp only [g20, gOk] at hr
  first
    | (split at hr
       · cases hr; simp [noBorL, noBor]
       · cases hr)
    | (cases hr; simp [noBorL, noBor])
theorem clean75 : Mv.Clean F75 := by
  intro us res outs h
  obtain ⟨x, y, rfl, hr⟩ := fn2_inv h
  try simp only [g20, gOk] at hr
  first
    | (split at hr
       · cases hr; simp [noBorL, noBor]
       · cases hr)
    | (cases hr; simp [noBorL, noBor])
theorem clean118 : Mv.Clean F118 := by
  intro us res outs h
  obtain ⟨x, y, rfl, hr⟩ := fn2_inv h
  try simp only [g20, gOk] at hr
  first
    | (split at hr
       · cases hr; simp [noBorL, noBor]
       · cases hr)
    | (cases hr; simp [noBorL, noBor])
theorem clean76 : Mv.Clean F76 := by
  intro us res outs h
  obtain ⟨x, y, rfl, hr⟩ := fn2_inv h
  try simp only [g20, gOk] at hr
  first
    | (split at hr
       · cases hr; simp [noBorL, noBor]
       · cases hr)
    | (cases hr; simp [noBorL, noBor])
theorem clean26 : Mv.Clean F26 := by
  intro us res outs h
  obtain ⟨x, y, rfl, hr⟩ := fn2_inv h
  try simp only [g20, gOk] at hr
  first
    | (split at hr
       · cases hr; simp [noBorL, noBor]
       · cases hr)
    | (cases hr; simp [noBorL, noBor])
theorem clean31 : Mv.Clean F31 := by
  intro us res outs h
  obtain ⟨x, y, rfl, hr⟩ := fn2_inv h
  try simp only [g20, gOk] at hr
  first
    | (split at hr
       · cases hr; simp [noBorL, noBor]
       · cases hr)
    | (cases hr; simp [noBorL, noBor])
theorem clean73 : Mv.Clean F73 := by
  intro us res outs h
  obtain ⟨x, rfl, hr⟩ := fn1_inv h
  try simp only [g20, gOk] at hr
  first
    | (split at hr
       · cases hr; simp [noBorL, noBor, DCall.nob]
       · cases hr)
    | (cases hr; simp [noBorL, noBor])
theorem clean119 : Mv.Clean F119 := by
  intro us res outs h
  obtain ⟨x, rfl, hr⟩ := fn1_inv h
  try simp only [g20, gOk] at hr
  first
    | (split at hr
       · cases hr; simp [noBorL, noBor, DStep.nob]
       · cases hr)
    | (cases hr; simp [noBorL, noBor])
theorem clean77 : Mv.Clean F77 := by
  intro us res outs h
  obtain ⟨x, rfl, hr⟩ := fn1_inv h
  try simp only [g20, gOk] at hr
  first
    | (split at hr
       · cases hr; simp [noBorL, noBor, nobLL DStep.nob]
       · cases hr)
    | (cases hr; simp [noBorL, noBor])
theorem clean120 : Mv.Clean F120 := by
  intro us res outs h
  obtain ⟨x, rfl, hr⟩ := fn1_inv h
  try simp only [g20, gOk] at hr
  first
    | (split at hr
       · cases hr; simp [noBorL, noBor, DAnswer.nob]
       · cases hr)
    | (cases hr; simp [noBorL, noBor])
theorem clean78 : Mv.Clean F78 := by
  intro us res outs h
  obtain ⟨x, rfl, hr⟩ := fn1_inv h
  try simp only [g20, gOk] at hr
  first
    | (split at hr
       · cases hr; simp [noBorL, noBor, nobLL DAnswer.nob]
       · cases hr)
    | (cases hr; simp [noBorL, noBor])
theorem clean28 : Mv.Clean F28 := by
  intro us res outs h
  obtain ⟨x, rfl, hr⟩ := fn1_inv h
  try simp only [g20, gOk] at hr
  first
    | (split at hr
       · cases hr; simp [noBorL, noBor, DEntry.nob]
       · cases hr)
    | (cases hr; simp [noBorL, noBor])
theorem clean33 : Mv.Clean F33 := by
  intro us res outs h
  obtain ⟨x, rfl, hr⟩ := fn1_inv h
  try simp only [g20, gOk] at hr
  first
    | (split at hr
       · cases hr; simp [noBorL, noBor, nobLL DEntry.nob]
       · cases hr)
    | (cases hr; simp [noBorL, noBor])
theorem clean79 : Mv.Clean F79 := by
  intro us res outs h
  obtain ⟨x, y, z, rfl, hr⟩ := fn3_inv h
  try simp only [g20, gOk] at hr
  first
    | (split at hr
       · cases hr; simp [noBorL, noBor]
       · cases hr)
    | (cases hr; simp [noBorL, noBor])
theorem clean27 : Mv.Clean F27 := by
  intro us res outs h
  obtain ⟨x, y, rfl, hr⟩ := fn2_inv h
  try simp only [g20, gOk] at hr
  first
    | (split at hr
       · cases hr; simp [noBorL, noBor]
       · cases hr)
    | (cases hr; simp [noBorL, noBor])
theorem clean40 : Mv.Clean F40 := by
  intro us res outs h
  obtain ⟨x, y, rfl, hr⟩ := fn2_inv h
  try simp only [g20, gOk] at hr
  first
    | (split at hr
       · cases hr; simp [noBorL, noBor]
       · cases hr)
    | (cases hr; simp [noBorL, noBor])
theorem clean80 : Mv.Clean F80 := by
  intro us res outs h
  obtain ⟨x, y, z, rfl, hr⟩ := fn3_inv h
  try simp only [g20, gOk] at hr
  first
    | (split at hr
       · cases hr; simp [noBorL, noBor]
       · cases hr)
    | (cases hr; simp [noBorL, noBor])
theorem clean29 : Mv.Clean F29 := by
  intro us res outs h
  obtain ⟨x, y, rfl, hr⟩ := fn2_inv h
  try simp only [g20, gOk] at hr
  first
    | (split at hr
       · cases hr; simp [noBorL, noBor]
       · cases hr)
    | (cases hr; simp [noBorL, noBor])
theorem clean41 : Mv.Clean F41 := by
  intro us res outs h
  obtain ⟨x, y, rfl, hr⟩ := fn2_inv h
  try simp only [g20, gOk] at hr
  first
    | (split at hr
       · cases hr; simp [noBorL, noBor]
       · cases hr)
    | (cases hr; simp [noBorL, noBor])
theorem clean116 : Mv.Clean F116 := by
  intro us res outs h
  obtain ⟨x, y, rfl, hr⟩ := fn2_inv h
  try simp only [g20, gOk] at hr
  first
    | (split at hr
       · cases hr; simp [noBorL, noBor]
       · cases hr)
    | (cases hr; simp [noBorL, noBor])
theorem clean86 : Mv.Clean F86 := by
  intro us res outs h
  obtain ⟨x, y, rfl, hr⟩ := fn2_inv h
  try simp only [g20, gOk] at hr
  first
    | (split at hr
       · cases hr; simp [noBorL, noBor]
       · cases hr)
    | (cases hr; simp [noBorL, noBor])
theorem clean52 : Mv.Clean F52 := by
  intro us res outs h
  obtain ⟨x, y, rfl, hr⟩ := fn2_inv h
  try simp only [g20, gOk] at hr
  first
    | (split at hr
       · cases hr; simp [noBorL, noBor]
       · cases hr)
    | (cases hr; simp [noBorL, noBor])
theorem clean84 : Mv.Clean F84 := by
  intro us res outs h
  obtain ⟨x, y, rfl, hr⟩ := fn2_inv h
  try simp only [g20, gOk] at hr
  first
    | (split at hr
       · cases hr; simp [noBorL, noBor]
       · cases hr)
    | (cases hr; simp [noBorL, noBor])
theorem clean46 : Mv.Clean F46 := by
  intro us res outs h
  obtain ⟨x, y, rfl, hr⟩ := fn2_inv h
  try simp only [g20, gOk] at hr
  first
    | (split at hr
       · cases hr; simp [noBorL, noBor]
       · cases hr)
    | (cases hr; simp [noBorL, noBor])
theorem clean30 : Mv.Clean F30 := by
  intro us res outs h
  obtain ⟨x, y, rfl, hr⟩ := fn2_inv h
  try simp only [g20, gOk] at hr
  first
    | (split at hr
       · cases hr; simp [noBorL, noBor]
       · cases hr)
    | (cases hr; simp [noBorL, noBor])
theorem clean35 : Mv.Clean F35 := by
  intro us res outs h
  obtain ⟨x, y, rfl, hr⟩ := fn2_inv h
  try simp only [g20, gOk] at hr
  first
    | (split at hr
       · cases hr; simp [noBorL, noBor]
       · cases hr)
    | (cases hr; simp [noBorL, noBor])
noncomputable def G0 : Mv.Env := Mv.Env.add Mv.Env.none 72 F72
theorem good0 : Mv.Good Try.prog G0 := Mv.Good.add Mv.Good.none (con72 Mv.Good.none ) (fun _ => clean72) Try.func72 rfl rfl
noncomputable def G1 : Mv.Env := Mv.Env.add G0 117 F117
theorem good1 : Mv.Good Try.prog G1 := Mv.Good.add good0 (con117 good0 rfl) (fun _ => clean117) Try.func117 rfl rfl
noncomputable def G2 : Mv.Env := Mv.Env.add G1 75 F75
theorem good2 : Mv.Good Try.prog G2 := Mv.Good.add good1 (con75 good1 rfl) (fun _ => clean75) Try.func75 rfl rfl
noncomputable def G3 : Mv.Env := Mv.Env.add G2 118 F118
theorem good3 : Mv.Good Try.prog G3 := Mv.Good.add good2 (con118 good2 ) (fun _ => clean118) Try.func118 rfl rfl
noncomputable def G4 : Mv.Env := Mv.Env.add G3 76 F76
theorem good4 : Mv.Good Try.prog G4 := Mv.Good.add good3 (con76 good3 rfl) (fun _ => clean76) Try.func76 rfl rfl
noncomputable def G5 : Mv.Env := Mv.Env.add G4 26 F26
theorem good5 : Mv.Good Try.prog G5 := Mv.Good.add good4 (con26 good4 rfl rfl) (fun _ => clean26) Try.func26 rfl rfl
noncomputable def G6 : Mv.Env := Mv.Env.add G5 31 F31
theorem good6 : Mv.Good Try.prog G6 := Mv.Good.add good5 (con31 good5 rfl) (fun _ => clean31) Try.func31 rfl rfl
noncomputable def G7 : Mv.Env := Mv.Env.add G6 73 F73
theorem good7 : Mv.Good Try.prog G7 := Mv.Good.add good6 (con73 good6 ) (fun _ => clean73) Try.func73 rfl rfl
noncomputable def G8 : Mv.Env := Mv.Env.add G7 119 F119
theorem good8 : Mv.Good Try.prog G8 := Mv.Good.add good7 (con119 good7 rfl) (fun _ => clean119) Try.func119 rfl rfl
noncomputable def G9 : Mv.Env := Mv.Env.add G8 77 F77
theorem good9 : Mv.Good Try.prog G9 := Mv.Good.add good8 (con77 good8 rfl) (fun _ => clean77) Try.func77 rfl rfl
noncomputable def G10 : Mv.Env := Mv.Env.add G9 120 F120
theorem good10 : Mv.Good Try.prog G10 := Mv.Good.add good9 (con120 good9 ) (fun _ => clean120) Try.func120 rfl rfl
noncomputable def G11 : Mv.Env := Mv.Env.add G10 78 F78
theorem good11 : Mv.Good Try.prog G11 := Mv.Good.add good10 (con78 good10 rfl) (fun _ => clean78) Try.func78 rfl rfl
noncomputable def G12 : Mv.Env := Mv.Env.add G11 28 F28
theorem good12 : Mv.Good Try.prog G12 := Mv.Good.add good11 (con28 good11 rfl rfl) (fun _ => clean28) Try.func28 rfl rfl
noncomputable def G13 : Mv.Env := Mv.Env.add G12 33 F33
theorem good13 : Mv.Good Try.prog G13 := Mv.Good.add good12 (con33 good12 rfl) (fun _ => clean33) Try.func33 rfl rfl
noncomputable def G14 : Mv.Env := Mv.Env.add G13 79 F79
theorem good14 : Mv.Good Try.prog G14 := Mv.Good.add good13 (con79 good13 ) (fun _ => clean79) Try.func79 rfl rfl
noncomputable def G15 : Mv.Env := Mv.Env.add G14 27 F27
theorem good15 : Mv.Good Try.prog G15 := Mv.Good.add good14 (con27 good14 ) (fun _ => clean27) Try.func27 rfl rfl
noncomputable def G16 : Mv.Env := Mv.Env.add G15 40 F40
theorem good16 : Mv.Good Try.prog G16 := Mv.Good.add good15 (con40 good15 rfl rfl) (fun _ => clean40) Try.func40 rfl rfl
noncomputable def G17 : Mv.Env := Mv.Env.add G16 80 F80
theorem good17 : Mv.Good Try.prog G17 := Mv.Good.add good16 (con80 good16 ) (fun _ => clean80) Try.func80 rfl rfl
noncomputable def G18 : Mv.Env := Mv.Env.add G17 29 F29
theorem good18 : Mv.Good Try.prog G18 := Mv.Good.add good17 (con29 good17 ) (fun _ => clean29) Try.func29 rfl rfl
noncomputable def G19 : Mv.Env := Mv.Env.add G18 41 F41
theorem good19 : Mv.Good Try.prog G19 := Mv.Good.add good18 (con41 good18 rfl rfl) (fun _ => clean41) Try.func41 rfl rfl
noncomputable def G20 : Mv.Env := Mv.Env.add G19 116 F116
theorem good20 : Mv.Good Try.prog G20 := Mv.Good.add good19 (con116 good19 ) (fun _ => clean116) Try.func116 rfl rfl
noncomputable def G21 : Mv.Env := Mv.Env.add G20 86 F86
theorem good21 : Mv.Good Try.prog G21 := Mv.Good.add good20 (con86 good20 rfl) (fun _ => clean86) Try.func86 rfl rfl
noncomputable def G22 : Mv.Env := Mv.Env.add G21 52 F52
theorem good22 : Mv.Good Try.prog G22 := Mv.Good.add good21 (con52 good21 rfl) (fun _ => clean52) Try.func52 rfl rfl
noncomputable def G23 : Mv.Env := Mv.Env.add G22 84 F84
theorem good23 : Mv.Good Try.prog G23 := Mv.Good.add good22 (con84 good22 ) (fun _ => clean84) Try.func84 rfl rfl
noncomputable def G24 : Mv.Env := Mv.Env.add G23 46 F46
theorem good24 : Mv.Good Try.prog G24 := Mv.Good.add good23 (con46 good23 rfl) (fun _ => clean46) Try.func46 rfl rfl
noncomputable def G25 : Mv.Env := Mv.Env.add G24 30 F30
theorem good25 : Mv.Good Try.prog G25 := Mv.Good.add good24 (con30 good24 rfl rfl) (fun _ => clean30) Try.func30 rfl rfl
noncomputable def G26 : Mv.Env := Mv.Env.add G25 35 F35
theorem good26 : Mv.Good Try.prog G26 := Mv.Good.add good25 (con35 good25 rfl) (fun _ => clean35) Try.func35 rfl rfl
theorem whole : Contract Try.prog 9 F9 := con9 good26 rfl rfl rfl rfl rfl
theorem own : ownKnob Try.prog.godebug = none := by kernel_rfl
theorem laidOut : laidOutB Try.prog = true := by kernel_rfl
theorem shape : Try.f9.params.toList.mapM (shapeOf Try.prog 12) = some [.sl 8 shEntry, .i .i64] := by kernel_rfl
theorem sem (us : List Tr) (h : ShpA [.sl 8 shEntry, .i .i64] us) : F9.sem us = some ([.sc (.bool true)], []) := by
  cases h with | cons a0 r0 =>
  cases r0 with | cons a1 r1 =>
  cases r1
  obtain ⟨x0, rfl⟩ := shp_sl shp_Entry a0
  obtain ⟨x1, rfl⟩ := shp_i a1
  simp [F9, fn1, fn2, fn3, argTr]
theorem contract (H : Type) (enc : TypeId × Value → H) (W : World) (base : Nat) (args : Array Value) (ds gs : List (DataW H)) (before : List MemPlace)
    (hval : ∀ (j : Nat) t v, Try.f9.params[j]? = some t → args[j]? = some v → Value.okWide Try.prog W .any base t v)
    (hW : DataW.Whole enc Try.prog Try.f9.params.toList Rows.fnExactMeanwhileSpec.vars false W args.toList ds gs before) :
    Calls Try.prog 9 args W fun e W' => ∃ v, e = .returned v ∧ Rows.fnExactMeanwhileSpec.post enc Try.prog Try.f9 false true false false W args v W' := by
  refine law_contract whole rfl rfl shape sem laidOut (by intro t ht; rw [show Try.f9.params.toList = [52, 3] from rfl] at ht; simp at ht; rcases ht with rfl | rfl <;> exact ⟨by kernel_rfl, of_decide_eq_true (by kernel_rfl)⟩) rfl Try.underlying4 rfl ?_ W base args ds gs before hval hW
  intro ds hds
  rw [show Try.f9.params.toList = [52, 3] from rfl] at hds
  match ds, hds with
  | [d0, d1], _ => exact ⟨rfl, rfl, rfl⟩

end Go.Proofs.Ytdkjhbbddlognaa.fnExactMeanwhile
