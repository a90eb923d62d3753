/-
  The walks of some functions that a law reaches: each is shown to do to trees what its plain function tells; no statement of the seat by itself; no conditions.
-/
import Derived.Test.YtdkjhbbddlognaaF
import Derived.Test.YtdkjhbbddlognaaMvLem
namespace Go.Mv
open Go.Proofs
set_option linter.unusedVariables false
set_option linter.unusedSimpArgs false
set_option maxRecDepth 10000
def F72 : FnS := fn2 [.b, .b] cCall cI fun x l => g20 l (szCall x l)
def F117 : FnS := fn2 [.b, .b] cStep cI fun x l => g20 l (szStep x l)
def F75 : FnS := fn2 [.b, .b] lStep cI fun x l => g20 l (szL szStep x l)
def F118 : FnS := fn2 [.b, .b] cAnswer cI fun x l => g20 l (szAnswer x l)
def F76 : FnS := fn2 [.b, .b] lAnswer cI fun x l => g20 l (szL szAnswer x l)
def F26 : FnS := fn2 [.b, .b] cEntry cI fun x l => g20 l (szEntry x l)
def F31 : FnS := fn2 [.b, .b] lEntry cI fun x l => g20 l (szL szEntry x l)
def F73 : FnS := fn1 [.b] cCall fun x => gOk (okCall x) ([.agg (DCall.enc true x)], [])
def F119 : FnS := fn1 [.b] cStep fun x => gOk (okStep x) ([.agg (DStep.enc true x)], [])
def F77 : FnS := fn1 [.b] lStep fun x => gOk (okL okStep x) ([.sl true 7 (x.map (DStep.enc true))], [])
def F120 : FnS := fn1 [.b] cAnswer fun x => gOk (okAnswer x) ([.agg (DAnswer.enc true x)], [])
def F78 : FnS := fn1 [.b] lAnswer fun x => gOk (okL okAnswer x) ([.sl true 3 (x.map (DAnswer.enc true))], [])
def F28 : FnS := fn1 [.b] cEntry fun x => gOk (okEntry x) ([.agg (DEntry.enc true x)], [])
def F33 : FnS := fn1 [.b] lEntry fun x => gOk (okL okEntry x) ([.sl true 8 (x.map (DEntry.enc true))], [])
def F79 : FnS := fn3 [.b, .b, .b] cI cI cI fun x y z => some ([.sc (.bool (decide (y ≤ x) && decide (x ≤ z)))], [])
def F27 : FnS := fn2 [.b, .b] cEntry cEntry fun x y => some ([.sc (.bool (beforeB x y))], [])
def F40 : FnS := fn2 [.b, .b] lEntry cI fun x y => some ([.sc (.int .i64 (mw x y))], [])
def F80 : FnS := fn3 [.b, .b, .b] cI cI cI fun x y z => some ([.sc (.bool (decide (y ≤ x) && decide (x ≤ z)))], [])
def F29 : FnS := fn2 [.b, .b] cEntry cEntry fun x y => some ([.sc (.bool (beforeB x y))], [])
def F41 : FnS := fn2 [.b, .b] lEntry cI fun x y => some ([.sc (.int .i64 (mw x y))], [])
def F116 : FnS := fn2 [.b, .b] cCall cCall fun x y => some ([.sc (.bool (DCall.beq x y))], [])
def F86 : FnS := fn2 [.b, .b] cStep cStep fun x y => some ([.sc (.bool (DStep.beq x y))], [])
def F52 : FnS := fn2 [.b, .b] lStep lStep fun x y => some ([.sc (.bool (beqL DStep.beq x y))], [])
def F84 : FnS := fn2 [.b, .b] cAnswer cAnswer fun x y => some ([.sc (.bool (DAnswer.beq x y))], [])
def F46 : FnS := fn2 [.b, .b] lAnswer lAnswer fun x y => some ([.sc (.bool (beqL DAnswer.beq x y))], [])
def F30 : FnS := fn2 [.b, .b] cEntry cEntry fun x y => some ([.sc (.bool (DEntry.beq x y))], [])
def F35 : FnS := fn2 [.b, .b] lEntry lEntry fun x y => some ([.sc (.bool (beqL DEntry.beq x y))], [])
def F9 : FnS := fn2 [.b, .b] lEntry cI fun _ _ => some ([.sc (.bool true)], [])
set_option maxHeartbeats 4000000 in
theorem con72 {Γ : Mv.Env} (hg : Mv.Good Try.prog Γ) : Contract Try.prog 72 F72 := by
  refine contract_fn hg (wdraw_ok hg mixed) Try.func72 rfl (by decide) (by decide) rfl (by decide) ?_
  intro us p hs
  obtain ⟨x, y, rfl, hr⟩ := fn2_inv hs
  clear hs
  simp only [g20] at hr
  split at hr
  · rename_i hl
    cases hr
    refine ⟨rfl, ?_⟩
    dsimp only [Try.f72]
    simp only [cCall, cI, cT, DCall.enc]
    repeat' first
      | with_reducible refine WT_seq fun K' hK' => ?_
      | with_reducible refine WT_region ?_
      | with_reducible refine WT_block ?_
      | ((with_reducible refine WT_cond fun X Y hX hY => ?_); (simp []; try (simp (disch := omega) only [i64_wrap, g20_eq]; try simp [])))
      | ((with_reducible refine wrun_consN rfl fun K' hK' => ?_); (simp []; try (simp (disch := omega) only [i64_wrap, g20_eq]; try simp [])))
      | ((with_reducible refine wrun_consG rfl (by with_unfolding_all exact rfl) fun K' hK' => ?_); (simp []; try (simp (disch := omega) only [i64_wrap, g20_eq]; try simp [])))
      | with_reducible refine wrun_nil ?_
      | with_reducible refine then_normal ?_
      | with_reducible refine inBlock_normal ?_
      | with_reducible refine inBlock_ret ?_
      | with_reducible refine inBlock_exit ?_
      | with_reducible refine thenL_normal ?_
      | with_reducible refine thenL_ret ?_
      | with_reducible refine thenL_exit ?_
      | ((with_reducible refine then_ret ?_); clear hK')
      | ((with_reducible refine then_exit ?_); clear hK')
      | with_reducible refine inBlock_other (by decide) ?_
      | with_reducible refine WT_ret ?_
      | with_reducible refine WT_skip ?_
      | with_reducible refine WT_exit ?_
      | ((with_reducible refine hK' _ ?_); clear hK')
      | ((with_reducible refine hX ?_); clear hX hY)
      | ((with_reducible refine hY ?_); clear hX hY)
      | ((with_reducible refine And.intro (Or.inl rfl) ?_); (simp []; try (simp (disch := omega) only [i64_wrap, g20_eq]; try simp [])))
      | with_reducible refine And.intro ?_ ?_
      | intro h
    all_goals ((try simp only [szCall]); (repeat' split) <;> first | rfl | omega)
  · cases hr
set_option maxHeartbeats 4000000 in
theorem con117 {Γ : Mv.Env} (hg : Mv.Good Try.prog Γ) (e72 : Γ 72 = some F72) : Contract Try.prog 117 F117 := by
  refine contract_fn hg (wdraw_ok hg mixed) Try.func117 rfl (by decide) (by decide) rfl (by decide) ?_
  intro us p hs
  obtain ⟨x, y, rfl, hr⟩ := fn2_inv hs
  clear hs
  simp only [g20] at hr
  split at hr
  · rename_i hl
    cases hr
    refine ⟨rfl, ?_⟩
    dsimp only [Try.f117]
    simp only [cStep, cI, cT, DStep.enc]
    have h_Call := szCall_le x.Call y (by omega)
    repeat' first
      | with_reducible refine WT_seq fun K' hK' => ?_
      | with_reducible refine WT_region ?_
      | with_reducible refine WT_block ?_
      | ((with_reducible refine WT_cond fun X Y hX hY => ?_); (simp [e72, F72, fn1, fn2, fn3, DCall.dec]; try (simp (disch := omega) only [i64_wrap, g20_eq]; try simp [e72, F72, fn1, fn2, fn3, DCall.dec])))
      | ((with_reducible refine wrun_consN rfl fun K' hK' => ?_); (simp [e72, F72, fn1, fn2, fn3, DCall.dec]; try (simp (disch := omega) only [i64_wrap, g20_eq]; try simp [e72, F72, fn1, fn2, fn3, DCall.dec])))
      | ((with_reducible refine wrun_consG rfl (by with_unfolding_all exact rfl) fun K' hK' => ?_); (simp [e72, F72, fn1, fn2, fn3, DCall.dec]; try (simp (disch := omega) only [i64_wrap, g20_eq]; try simp [e72, F72, fn1, fn2, fn3, DCall.dec])))
      | with_reducible refine wrun_nil ?_
      | with_reducible refine then_normal ?_
      | with_reducible refine inBlock_normal ?_
      | with_reducible refine inBlock_ret ?_
      | with_reducible refine inBlock_exit ?_
      | with_reducible refine thenL_normal ?_
      | with_reducible refine thenL_ret ?_
      | with_reducible refine thenL_exit ?_
      | ((with_reducible refine then_ret ?_); clear hK')
      | ((with_reducible refine then_exit ?_); clear hK')
      | with_reducible refine inBlock_other (by decide) ?_
      | with_reducible refine WT_ret ?_
      | with_reducible refine WT_skip ?_
      | with_reducible refine WT_exit ?_
      | ((with_reducible refine hK' _ ?_); clear hK')
      | ((with_reducible refine hX ?_); clear hX hY)
      | ((with_reducible refine hY ?_); clear hX hY)
      | ((with_reducible refine And.intro (Or.inl rfl) ?_); (simp [e72, F72, fn1, fn2, fn3, DCall.dec]; try (simp (disch := omega) only [i64_wrap, g20_eq]; try simp [e72, F72, fn1, fn2, fn3, DCall.dec])))
      | with_reducible refine And.intro ?_ ?_
      | intro h
    all_goals ((try simp only [szStep]); (repeat' split) <;> first | rfl | omega)
  · cases hr
set_option maxHeartbeats 4000000 in
theorem con75 {Γ : Mv.Env} (hg : Mv.Good Try.prog Γ) (e117 : Γ 117 = some F117) : Contract Try.prog 75 F75 := by
  refine contract_fn hg (wdraw_ok hg mixed) Try.func75 rfl (by decide) (by decide) rfl (by decide) ?_
  intro us p hs
  obtain ⟨x, y, rfl, hr⟩ := fn2_inv hs
  clear hs
  simp only [g20] at hr
  split at hr
  · rename_i hl
    cases hr
    refine ⟨rfl, ?_⟩
    dsimp only [Try.f75]
    simp only [lStep, cI, cL]
    repeat' first
      | with_reducible refine WT_seq fun K' hK' => ?_
      | with_reducible refine WT_region ?_
      | with_reducible refine WT_block ?_
      | ((with_reducible refine WT_cond fun X Y hX hY => ?_); (simp [e117, F117, fn1, fn2, fn3, DStep.dec, DCall.dec]; try (simp (disch := omega) only [i64_wrap, g20_eq]; try simp [e117, F117, fn1, fn2, fn3, DStep.dec, DCall.dec])))
      | ((with_reducible refine wrun_consN rfl fun K' hK' => ?_); (simp [e117, F117, fn1, fn2, fn3, DStep.dec, DCall.dec]; try (simp (disch := omega) only [i64_wrap, g20_eq]; try simp [e117, F117, fn1, fn2, fn3, DStep.dec, DCall.dec])))
      | ((with_reducible refine wrun_consG rfl (by with_unfolding_all exact rfl) fun K' hK' => ?_); (simp [e117, F117, fn1, fn2, fn3, DStep.dec, DCall.dec]; try (simp (disch := omega) only [i64_wrap, g20_eq]; try simp [e117, F117, fn1, fn2, fn3, DStep.dec, DCall.dec])))
      | with_reducible refine wrun_nil ?_
      | with_reducible refine then_normal ?_
      | with_reducible refine inBlock_normal ?_
      | with_reducible refine inBlock_ret ?_
      | with_reducible refine inBlock_exit ?_
      | with_reducible refine thenL_normal ?_
      | with_reducible refine thenL_ret ?_
      | with_reducible refine thenL_exit ?_
      | ((with_reducible refine then_ret ?_); clear hK')
      | ((with_reducible refine then_exit ?_); clear hK')
      | with_reducible refine inBlock_other (by decide) ?_
      | with_reducible refine WT_ret ?_
      | with_reducible refine WT_skip ?_
      | with_reducible refine WT_exit ?_
      | ((with_reducible refine hK' _ ?_); clear hK')
      | ((with_reducible refine hX ?_); clear hX hY)
      | ((with_reducible refine hY ?_); clear hX hY)
      | ((with_reducible refine And.intro (Or.inl rfl) ?_); (simp [e117, F117, fn1, fn2, fn3, DStep.dec, DCall.dec]; try (simp (disch := omega) only [i64_wrap, g20_eq]; try simp [e117, F117, fn1, fn2, fn3, DStep.dec, DCall.dec])))
      | with_reducible refine And.intro ?_ ?_
      | intro h
    · simp only [szL]; split <;> first | rfl | omega
    · refine WT_loopL (fun m σ => ∃ k, k ≤ x.length ∧ m = x.length - k ∧ σ.slot 0 = .tr none (.sl false 7 (x.map (DStep.enc false))) ∧ σ.slot 5 = .tr none (.sc (.int .i64 k)) ∧
        ∃ a : Int, σ.slot 1 = .tr none (.sc (.int .i64 a)) ∧ 0 ≤ a ∧ a ≤ 1048576 ∧ (x.take k).foldl (fun a y => if a < 0 then -1 else szStep y a) (y - x.length) = a) ⟨_, 0, by omega, rfl, by simp, by simp, y - x.length, by simp, by omega, by omega, by simp⟩ ?_
      rintro m σ ⟨k, hk, rfl, s0, s5, a, s1, ha0, ha1, hae⟩
      repeat' first
        | with_reducible refine WT_seq fun K' hK' => ?_
        | with_reducible refine WT_region ?_
        | with_reducible refine WT_block ?_
        | ((with_reducible refine WT_cond fun X Y hX hY => ?_); (first | (simp [e117, F117, fn1, fn2, fn3, DStep.dec, DCall.dec, s0, s5, s1, DStep.enc, szS, hx]; try (simp (disch := omega) only [i64_wrap, g20_eq]; try simp [e117, F117, fn1, fn2, fn3, DStep.dec, DCall.dec, s0, s5, s1, DStep.enc, szS, hx])) | (simp [e117, F117, fn1, fn2, fn3, DStep.dec, DCall.dec, s0, s5, s1, DStep.enc, szS]; try (simp (disch := omega) only [i64_wrap, g20_eq]; try simp [e117, F117, fn1, fn2, fn3, DStep.dec, DCall.dec, s0, s5, s1, DStep.enc, szS]))))
        | ((with_reducible refine wrun_consN rfl fun K' hK' => ?_); (first | (simp [e117, F117, fn1, fn2, fn3, DStep.dec, DCall.dec, s0, s5, s1, DStep.enc, szS, hx]; try (simp (disch := omega) only [i64_wrap, g20_eq]; try simp [e117, F117, fn1, fn2, fn3, DStep.dec, DCall.dec, s0, s5, s1, DStep.enc, szS, hx])) | (simp [e117, F117, fn1, fn2, fn3, DStep.dec, DCall.dec, s0, s5, s1, DStep.enc, szS]; try (simp (disch := omega) only [i64_wrap, g20_eq]; try simp [e117, F117, fn1, fn2, fn3, DStep.dec, DCall.dec, s0, s5, s1, DStep.enc, szS]))))
        | ((with_reducible refine wrun_consG rfl (by with_unfolding_all exact rfl) fun K' hK' => ?_); (first | (simp [e117, F117, fn1, fn2, fn3, DStep.dec, DCall.dec, s0, s5, s1, DStep.enc, szS, hx]; try (simp (disch := omega) only [i64_wrap, g20_eq]; try simp [e117, F117, fn1, fn2, fn3, DStep.dec, DCall.dec, s0, s5, s1, DStep.enc, szS, hx])) | (simp [e117, F117, fn1, fn2, fn3, DStep.dec, DCall.dec, s0, s5, s1, DStep.enc, szS]; try (simp (disch := omega) only [i64_wrap, g20_eq]; try simp [e117, F117, fn1, fn2, fn3, DStep.dec, DCall.dec, s0, s5, s1, DStep.enc, szS]))))
        | with_reducible refine wrun_nil ?_
        | with_reducible refine then_normal ?_
        | with_reducible refine inBlock_normal ?_
        | with_reducible refine inBlock_ret ?_
        | with_reducible refine inBlock_exit ?_
        | with_reducible refine thenL_normal ?_
        | with_reducible refine thenL_ret ?_
        | with_reducible refine thenL_exit ?_
        | ((with_reducible refine then_ret ?_); clear hK')
        | ((with_reducible refine then_exit ?_); clear hK')
        | with_reducible refine inBlock_other (by decide) ?_
        | with_reducible refine WT_ret ?_
        | with_reducible refine WT_skip ?_
        | with_reducible refine WT_exit ?_
        | ((with_reducible refine hK' _ ?_); clear hK')
        | ((with_reducible refine hX ?_); clear hX hY)
        | ((with_reducible refine hY ?_); clear hX hY)
        | ((with_reducible refine And.intro (Or.inl rfl) ?_); (first | (simp [e117, F117, fn1, fn2, fn3, DStep.dec, DCall.dec, s0, s5, s1, DStep.enc, szS, hx]; try (simp (disch := omega) only [i64_wrap, g20_eq]; try simp [e117, F117, fn1, fn2, fn3, DStep.dec, DCall.dec, s0, s5, s1, DStep.enc, szS, hx])) | (simp [e117, F117, fn1, fn2, fn3, DStep.dec, DCall.dec, s0, s5, s1, DStep.enc, szS]; try (simp (disch := omega) only [i64_wrap, g20_eq]; try simp [e117, F117, fn1, fn2, fn3, DStep.dec, DCall.dec, s0, s5, s1, DStep.enc, szS]))))
        | with_reducible refine And.intro ?_ ?_
        | (intro hlt; obtain ⟨u, hx⟩ := get_some hlt; have hz := szStep_le u a (by omega); have hst := szL_step szStep hx (y - x.length); rw [hae, if_neg (by omega)] at hst)
        | intro h
      · simp only [szL]
        rw [if_neg (by omega)]
        refine (szL_dead szStep x (k + 1) _ ?_).symm
        rw [hst] <;> (try simp only [szS] at *) <;> (repeat' split) <;> omega
      · refine ⟨x.length - (k + 1), by omega, k + 1, by omega, rfl, by simp [s0], by simp, _, by simp; rfl, by (try simp only [szS] at *); omega, by (try simp only [szS] at *); omega, ?_⟩
        rw [hst] <;> (try simp only [szS] at *) <;> (repeat' split) <;> omega
      · simp only [szL]
        rw [if_neg (by omega), ← hae, List.take_of_length_le (by omega)]
  · cases hr
set_option maxHeartbeats 4000000 in
theorem con118 {Γ : Mv.Env} (hg : Mv.Good Try.prog Γ) : Contract Try.prog 118 F118 := by
  refine contract_fn hg (wdraw_ok hg mixed) Try.func118 rfl (by decide) (by decide) rfl (by decide) ?_
  intro us p hs
  obtain ⟨x, y, rfl, hr⟩ := fn2_inv hs
  clear hs
  simp only [g20] at hr
  split at hr
  · rename_i hl
    cases hr
    refine ⟨rfl, ?_⟩
    dsimp only [Try.f118]
    simp only [cAnswer, cI, cT, DAnswer.enc]
    repeat' first
      | with_reducible refine WT_seq fun K' hK' => ?_
      | with_reducible refine WT_region ?_
      | with_reducible refine WT_block ?_
      | ((with_reducible refine WT_cond fun X Y hX hY => ?_); (simp []; try (simp (disch := omega) only [i64_wrap, g20_eq]; try simp [])))
      | ((with_reducible refine wrun_consN rfl fun K' hK' => ?_); (simp []; try (simp (disch := omega) only [i64_wrap, g20_eq]; try simp [])))
      | ((with_reducible refine wrun_consG rfl (by with_unfolding_all exact rfl) fun K' hK' => ?_); (simp []; try (simp (disch := omega) only [i64_wrap, g20_eq]; try simp [])))
      | with_reducible refine wrun_nil ?_
      | with_reducible refine then_normal ?_
      | with_reducible refine inBlock_normal ?_
      | with_reducible refine inBlock_ret ?_
      | with_reducible refine inBlock_exit ?_
      | with_reducible refine thenL_normal ?_
      | with_reducible refine thenL_ret ?_
      | with_reducible refine thenL_exit ?_
      | ((with_reducible refine then_ret ?_); clear hK')
      | ((with_reducible refine then_exit ?_); clear hK')
      | with_reducible refine inBlock_other (by decide) ?_
      | with_reducible refine WT_ret ?_
      | with_reducible refine WT_skip ?_
      | with_reducible refine WT_exit ?_
      | ((with_reducible refine hK' _ ?_); clear hK')
      | ((with_reducible refine hX ?_); clear hX hY)
      | ((with_reducible refine hY ?_); clear hX hY)
      | ((with_reducible refine And.intro (Or.inl rfl) ?_); (simp []; try (simp (disch := omega) only [i64_wrap, g20_eq]; try simp [])))
      | with_reducible refine And.intro ?_ ?_
      | intro h
    all_goals ((try simp only [szAnswer]); (repeat' split) <;> first | rfl | omega)
  · cases hr
set_option maxHeartbeats 4000000 in
theorem con76 {Γ : Mv.Env} (hg : Mv.Good Try.prog Γ) (e118 : Γ 118 = some F118) : Contract Try.prog 76 F76 := by
  refine contract_fn hg (wdraw_ok hg mixed) Try.func76 rfl (by decide) (by decide) rfl (by decide) ?_
  intro us p hs
  obtain ⟨x, y, rfl, hr⟩ := fn2_inv hs
  clear hs
  simp only [g20] at hr
  split at hr
  · rename_i hl
    cases hr
    refine ⟨rfl, ?_⟩
    dsimp only [Try.f76]
    simp only [lAnswer, cI, cL]
    repeat' first
      | with_reducible refine WT_seq fun K' hK' => ?_
      | with_reducible refine WT_region ?_
      | with_reducible refine WT_block ?_
      | ((with_reducible refine WT_cond fun X Y hX hY => ?_); (simp [e118, F118, fn1, fn2, fn3, DAnswer.dec]; try (simp (disch := omega) only [i64_wrap, g20_eq]; try simp [e118, F118, fn1, fn2, fn3, DAnswer.dec])))
      | ((with_reducible refine wrun_consN rfl fun K' hK' => ?_); (simp [e118, F118, fn1, fn2, fn3, DAnswer.dec]; try (simp (disch := omega) only [i64_wrap, g20_eq]; try simp [e118, F118, fn1, fn2, fn3, DAnswer.dec])))
      | ((with_reducible refine wrun_consG rfl (by with_unfolding_all exact rfl) fun K' hK' => ?_); (simp [e118, F118, fn1, fn2, fn3, DAnswer.dec]; try (simp (disch := omega) only [i64_wrap, g20_eq]; try simp [e118, F118, fn1, fn2, fn3, DAnswer.dec])))
      | with_reducible refine wrun_nil ?_
      | with_reducible refine then_normal ?_
      | with_reducible refine inBlock_normal ?_
      | with_reducible refine inBlock_ret ?_
      | with_reducible refine inBlock_exit ?_
      | with_reducible refine thenL_normal ?_
      | with_reducible refine thenL_ret ?_
      | with_reducible refine thenL_exit ?_
      | ((with_reducible refine then_ret ?_); clear hK')
      | ((with_reducible refine then_exit ?_); clear hK')
      | with_reducible refine inBlock_other (by decide) ?_
      | with_reducible refine WT_ret ?_
      | with_reducible refine WT_skip ?_
      | with_reducible refine WT_exit ?_
      | ((with_reducible refine hK' _ ?_); clear hK')
      | ((with_reducible refine hX ?_); clear hX hY)
      | ((with_reducible refine hY ?_); clear hX hY)
      | ((with_reducible refine And.intro (Or.inl rfl) ?_); (simp [e118, F118, fn1, fn2, fn3, DAnswer.dec]; try (simp (disch := omega) only [i64_wrap, g20_eq]; try simp [e118, F118, fn1, fn2, fn3, DAnswer.dec])))
      | with_reducible refine And.intro ?_ ?_
      | intro h
    · simp only [szL]; split <;> first | rfl | omega
    · refine WT_loopL (fun m σ => ∃ k, k ≤ x.length ∧ m = x.length - k ∧ σ.slot 0 = .tr none (.sl false 3 (x.map (DAnswer.enc false))) ∧ σ.slot 5 = .tr none (.sc (.int .i64 k)) ∧
        ∃ a : Int, σ.slot 1 = .tr none (.sc (.int .i64 a)) ∧ 0 ≤ a ∧ a ≤ 1048576 ∧ (x.take k).foldl (fun a y => if a < 0 then -1 else szAnswer y a) (y - x.length) = a) ⟨_, 0, by omega, rfl, by simp, by simp, y - x.length, by simp, by omega, by omega, by simp⟩ ?_
      rintro m σ ⟨k, hk, rfl, s0, s5, a, s1, ha0, ha1, hae⟩
      repeat' first
        | with_reducible refine WT_seq fun K' hK' => ?_
        | with_reducible refine WT_region ?_
        | with_reducible refine WT_block ?_
        | ((with_reducible refine WT_cond fun X Y hX hY => ?_); (first | (simp [e118, F118, fn1, fn2, fn3, DAnswer.dec, s0, s5, s1, DAnswer.enc, szS, hx]; try (simp (disch := omega) only [i64_wrap, g20_eq]; try simp [e118, F118, fn1, fn2, fn3, DAnswer.dec, s0, s5, s1, DAnswer.enc, szS, hx])) | (simp [e118, F118, fn1, fn2, fn3, DAnswer.dec, s0, s5, s1, DAnswer.enc, szS]; try (simp (disch := omega) only [i64_wrap, g20_eq]; try simp [e118, F118, fn1, fn2, fn3, DAnswer.dec, s0, s5, s1, DAnswer.enc, szS]))))
        | ((with_reducible refine wrun_consN rfl fun K' hK' => ?_); (first | (simp [e118, F118, fn1, fn2, fn3, DAnswer.dec, s0, s5, s1, DAnswer.enc, szS, hx]; try (simp (disch := omega) only [i64_wrap, g20_eq]; try simp [e118, F118, fn1, fn2, fn3, DAnswer.dec, s0, s5, s1, DAnswer.enc, szS, hx])) | (simp [e118, F118, fn1, fn2, fn3, DAnswer.dec, s0, s5, s1, DAnswer.enc, szS]; try (simp (disch := omega) only [i64_wrap, g20_eq]; try simp [e118, F118, fn1, fn2, fn3, DAnswer.dec, s0, s5, s1, DAnswer.enc, szS]))))
        | ((with_reducible refine wrun_consG rfl (by with_unfolding_all exact rfl) fun K' hK' => ?_); (first | (simp [e118, F118, fn1, fn2, fn3, DAnswer.dec, s0, s5, s1, DAnswer.enc, szS, hx]; try (simp (disch := omega) only [i64_wrap, g20_eq]; try simp [e118, F118, fn1, fn2, fn3, DAnswer.dec, s0, s5, s1, DAnswer.enc, szS, hx])) | (simp [e118, F118, fn1, fn2, fn3, DAnswer.dec, s0, s5, s1, DAnswer.enc, szS]; try (simp (disch := omega) only [i64_wrap, g20_eq]; try simp [e118, F118, fn1, fn2, fn3, DAnswer.dec, s0, s5, s1, DAnswer.enc, szS]))))
        | with_reducible refine wrun_nil ?_
        | with_reducible refine then_normal ?_
        | with_reducible refine inBlock_normal ?_
        | with_reducible refine inBlock_ret ?_
        | with_reducible refine inBlock_exit ?_
        | with_reducible refine thenL_normal ?_
        | with_reducible refine thenL_ret ?_
        | with_reducible refine thenL_exit ?_
        | ((with_reducible refine then_ret ?_); clear hK')
        | ((with_reducible refine then_exit ?_); clear hK')
        | with_reducible refine inBlock_other (by decide) ?_
        | with_reducible refine WT_ret ?_
        | with_reducible refine WT_skip ?_
        | with_reducible refine WT_exit ?_
        | ((with_reducible refine hK' _ ?_); clear hK')
        | ((with_reducible refine hX ?_); clear hX hY)
        | ((with_reducible refine hY ?_); clear hX hY)
        | ((with_reducible refine And.intro (Or.inl rfl) ?_); (first | (simp [e118, F118, fn1, fn2, fn3, DAnswer.dec, s0, s5, s1, DAnswer.enc, szS, hx]; try (simp (disch := omega) only [i64_wrap, g20_eq]; try simp [e118, F118, fn1, fn2, fn3, DAnswer.dec, s0, s5, s1, DAnswer.enc, szS, hx])) | (simp [e118, F118, fn1, fn2, fn3, DAnswer.dec, s0, s5, s1, DAnswer.enc, szS]; try (simp (disch := omega) only [i64_wrap, g20_eq]; try simp [e118, F118, fn1, fn2, fn3, DAnswer.dec, s0, s5, s1, DAnswer.enc, szS]))))
        | with_reducible refine And.intro ?_ ?_
        | (intro hlt; obtain ⟨u, hx⟩ := get_some hlt; have hz := szAnswer_le u a (by omega); have hst := szL_step szAnswer hx (y - x.length); rw [hae, if_neg (by omega)] at hst)
        | intro h
      · simp only [szL]
        rw [if_neg (by omega)]
        refine (szL_dead szAnswer x (k + 1) _ ?_).symm
        rw [hst] <;> (try simp only [szS] at *) <;> (repeat' split) <;> omega
      · refine ⟨x.length - (k + 1), by omega, k + 1, by omega, rfl, by simp [s0], by simp, _, by simp; rfl, by (try simp only [szS] at *); omega, by (try simp only [szS] at *); omega, ?_⟩
        rw [hst] <;> (try simp only [szS] at *) <;> (repeat' split) <;> omega
      · simp only [szL]
        rw [if_neg (by omega), ← hae, List.take_of_length_le (by omega)]
  · cases hr
set_option maxHeartbeats 4000000 in
theorem con26 {Γ : Mv.Env} (hg : Mv.Good Try.prog Γ) (e75 : Γ 75 = some F75) (e76 : Γ 76 = some F76) : Contract Try.prog 26 F26 := by
  refine contract_fn hg (wdraw_ok hg mixed) Try.func26 rfl (by decide) (by decide) rfl (by decide) ?_
  intro us p hs
  obtain ⟨x, y, rfl, hr⟩ := fn2_inv hs
  clear hs
  simp only [g20] at hr
  split at hr
  · rename_i hl
    cases hr
    refine ⟨rfl, ?_⟩
    dsimp only [Try.f26]
    simp only [cEntry, cI, cT, DEntry.enc]
    have h_Steps := szL_le szStep_le x.Steps y (by omega)
    have h_Answers := szL_le szAnswer_le x.Answers (szL szStep x.Steps y) (by omega)
    repeat' first
      | with_reducible refine WT_seq fun K' hK' => ?_
      | with_reducible refine WT_region ?_
      | with_reducible refine WT_block ?_
      | ((with_reducible refine WT_cond fun X Y hX hY => ?_); (simp [e75, F75, e76, F76, fn1, fn2, fn3]; try (simp (disch := omega) only [i64_wrap, g20_eq]; try simp [e75, F75, e76, F76, fn1, fn2, fn3])))
      | ((with_reducible refine wrun_consN rfl fun K' hK' => ?_); (simp [e75, F75, e76, F76, fn1, fn2, fn3]; try (simp (disch := omega) only [i64_wrap, g20_eq]; try simp [e75, F75, e76, F76, fn1, fn2, fn3])))
      | ((with_reducible refine wrun_consG rfl (by with_unfolding_all exact rfl) fun K' hK' => ?_); (simp [e75, F75, e76, F76, fn1, fn2, fn3]; try (simp (disch := omega) only [i64_wrap, g20_eq]; try simp [e75, F75, e76, F76, fn1, fn2, fn3])))
      | with_reducible refine wrun_nil ?_
      | with_reducible refine then_normal ?_
      | with_reducible refine inBlock_normal ?_
      | with_reducible refine inBlock_ret ?_
      | with_reducible refine inBlock_exit ?_
      | with_reducible refine thenL_normal ?_
      | with_reducible refine thenL_ret ?_
      | with_reducible refine thenL_exit ?_
      | ((with_reducible refine then_ret ?_); clear hK')
      | ((with_reducible refine then_exit ?_); clear hK')
      | with_reducible refine inBlock_other (by decide) ?_
      | with_reducible refine WT_ret ?_
      | with_reducible refine WT_skip ?_
      | with_reducible refine WT_exit ?_
      | ((with_reducible refine hK' _ ?_); clear hK')
      | ((with_reducible refine hX ?_); clear hX hY)
      | ((with_reducible refine hY ?_); clear hX hY)
      | ((with_reducible refine And.intro (Or.inl rfl) ?_); (simp [e75, F75, e76, F76, fn1, fn2, fn3]; try (simp (disch := omega) only [i64_wrap, g20_eq]; try simp [e75, F75, e76, F76, fn1, fn2, fn3])))
      | with_reducible refine And.intro ?_ ?_
      | intro h
    all_goals ((try simp only [szEntry]); (repeat' split) <;> first | rfl | omega)
  · cases hr
set_option maxHeartbeats 4000000 in
theorem con31 {Γ : Mv.Env} (hg : Mv.Good Try.prog Γ) (e26 : Γ 26 = some F26) : Contract Try.prog 31 F31 := by
  refine contract_fn hg (wdraw_ok hg mixed) Try.func31 rfl (by decide) (by decide) rfl (by decide) ?_
  intro us p hs
  obtain ⟨x, y, rfl, hr⟩ := fn2_inv hs
  clear hs
  simp only [g20] at hr
  split at hr
  · rename_i hl
    cases hr
    refine ⟨rfl, ?_⟩
    dsimp only [Try.f31]
    simp only [lEntry, cI, cL]
    repeat' first
      | with_reducible refine WT_seq fun K' hK' => ?_
      | with_reducible refine WT_region ?_
      | with_reducible refine WT_block ?_
      | ((with_reducible refine WT_cond fun X Y hX hY => ?_); (simp [e26, F26, fn1, fn2, fn3, DEntry.dec]; try (simp (disch := omega) only [i64_wrap, g20_eq]; try simp [e26, F26, fn1, fn2, fn3, DEntry.dec])))
      | ((with_reducible refine wrun_consN rfl fun K' hK' => ?_); (simp [e26, F26, fn1, fn2, fn3, DEntry.dec]; try (simp (disch := omega) only [i64_wrap, g20_eq]; try simp [e26, F26, fn1, fn2, fn3, DEntry.dec])))
      | ((with_reducible refine wrun_consG rfl (by with_unfolding_all exact rfl) fun K' hK' => ?_); (simp [e26, F26, fn1, fn2, fn3, DEntry.dec]; try (simp (disch := omega) only [i64_wrap, g20_eq]; try simp [e26, F26, fn1, fn2, fn3, DEntry.dec])))
      | with_reducible refine wrun_nil ?_
      | with_reducible refine then_normal ?_
      | with_reducible refine inBlock_normal ?_
      | with_reducible refine inBlock_ret ?_
      | with_reducible refine inBlock_exit ?_
      | with_reducible refine thenL_normal ?_
      | with_reducible refine thenL_ret ?_
      | with_reducible refine thenL_exit ?_
      | ((with_reducible refine then_ret ?_); clear hK')
      | ((with_reducible refine then_exit ?_); clear hK')
      | with_reducible refine inBlock_other (by decide) ?_
      | with_reducible refine WT_ret ?_
      | with_reducible refine WT_skip ?_
      | with_reducible refine WT_exit ?_
      | ((with_reducible refine hK' _ ?_); clear hK')
      | ((with_reducible refine hX ?_); clear hX hY)
      | ((with_reducible refine hY ?_); clear hX hY)
      | ((with_reducible refine And.intro (Or.inl rfl) ?_); (simp [e26, F26, fn1, fn2, fn3, DEntry.dec]; try (simp (disch := omega) only [i64_wrap, g20_eq]; try simp [e26, F26, fn1, fn2, fn3, DEntry.dec])))
      | with_reducible refine And.intro ?_ ?_
      | intro h
    · simp only [szL]; split <;> first | rfl | omega
    · refine WT_loopL (fun m σ => ∃ k, k ≤ x.length ∧ m = x.length - k ∧ σ.slot 0 = .tr none (.sl false 8 (x.map (DEntry.enc false))) ∧ σ.slot 5 = .tr none (.sc (.int .i64 k)) ∧
        ∃ a : Int, σ.slot 1 = .tr none (.sc (.int .i64 a)) ∧ 0 ≤ a ∧ a ≤ 1048576 ∧ (x.take k).foldl (fun a y => if a < 0 then -1 else szEntry y a) (y - x.length) = a) ⟨_, 0, by omega, rfl, by simp, by simp, y - x.length, by simp, by omega, by omega, by simp⟩ ?_
      rintro m σ ⟨k, hk, rfl, s0, s5, a, s1, ha0, ha1, hae⟩
      repeat' first
        | with_reducible refine WT_seq fun K' hK' => ?_
        | with_reducible refine WT_region ?_
        | with_reducible refine WT_block ?_
        | ((with_reducible refine WT_cond fun X Y hX hY => ?_); (first | (simp [e26, F26, fn1, fn2, fn3, DEntry.dec, s0, s5, s1, DEntry.enc, szS, hx]; try (simp (disch := omega) only [i64_wrap, g20_eq]; try simp [e26, F26, fn1, fn2, fn3, DEntry.dec, s0, s5, s1, DEntry.enc, szS, hx])) | (simp [e26, F26, fn1, fn2, fn3, DEntry.dec, s0, s5, s1, DEntry.enc, szS]; try (simp (disch := omega) only [i64_wrap, g20_eq]; try simp [e26, F26, fn1, fn2, fn3, DEntry.dec, s0, s5, s1, DEntry.enc, szS]))))
        | ((with_reducible refine wrun_consN rfl fun K' hK' => ?_); (first | (simp [e26, F26, fn1, fn2, fn3, DEntry.dec, s0, s5, s1, DEntry.enc, szS, hx]; try (simp (disch := omega) only [i64_wrap, g20_eq]; try simp [e26, F26, fn1, fn2, fn3, DEntry.dec, s0, s5, s1, DEntry.enc, szS, hx])) | (simp [e26, F26, fn1, fn2, fn3, DEntry.dec, s0, s5, s1, DEntry.enc, szS]; try (simp (disch := omega) only [i64_wrap, g20_eq]; try simp [e26, F26, fn1, fn2, fn3, DEntry.dec, s0, s5, s1, DEntry.enc, szS]))))
        | ((with_reducible refine wrun_consG rfl (by with_unfolding_all exact rfl) fun K' hK' => ?_); (first | (simp [e26, F26, fn1, fn2, fn3, DEntry.dec, s0, s5, s1, DEntry.enc, szS, hx]; try (simp (disch := omega) only [i64_wrap, g20_eq]; try simp [e26, F26, fn1, fn2, fn3, DEntry.dec, s0, s5, s1, DEntry.enc, szS, hx])) | (simp [e26, F26, fn1, fn2, fn3, DEntry.dec, s0, s5, s1, DEntry.enc, szS]; try (simp (disch := omega) only [i64_wrap, g20_eq]; try simp [e26, F26, fn1, fn2, fn3, DEntry.dec, s0, s5, s1, DEntry.enc, szS]))))
        | with_reducible refine wrun_nil ?_
        | with_reducible refine then_normal ?_
        | with_reducible refine inBlock_normal ?_
        | with_reducible refine inBlock_ret ?_
        | with_reducible refine inBlock_exit ?_
        | with_reducible refine thenL_normal ?_
        | with_reducible refine thenL_ret ?_
        | with_reducible refine thenL_exit ?_
        | ((with_reducible refine then_ret ?_); clear hK')
        | ((with_reducible refine then_exit ?_); clear hK')
        | with_reducible refine inBlock_other (by decide) ?_
        | with_reducible refine WT_ret ?_
        | with_reducible refine WT_skip ?_
        | with_reducible refine WT_exit ?_
        | ((with_reducible refine hK' _ ?_); clear hK')
        | ((with_reducible refine hX ?_); clear hX hY)
        | ((with_reducible refine hY ?_); clear hX hY)
        | ((with_reducible refine And.intro (Or.inl rfl) ?_); (first | (simp [e26, F26, fn1, fn2, fn3, DEntry.dec, s0, s5, s1, DEntry.enc, szS, hx]; try (simp (disch := omega) only [i64_wrap, g20_eq]; try simp [e26, F26, fn1, fn2, fn3, DEntry.dec, s0, s5, s1, DEntry.enc, szS, hx])) | (simp [e26, F26, fn1, fn2, fn3, DEntry.dec, s0, s5, s1, DEntry.enc, szS]; try (simp (disch := omega) only [i64_wrap, g20_eq]; try simp [e26, F26, fn1, fn2, fn3, DEntry.dec, s0, s5, s1, DEntry.enc, szS]))))
        | with_reducible refine And.intro ?_ ?_
        | (intro hlt; obtain ⟨u, hx⟩ := get_some hlt; have hz := szEntry_le u a (by omega); have hst := szL_step szEntry hx (y - x.length); rw [hae, if_neg (by omega)] at hst)
        | intro h
      · simp only [szL]
        rw [if_neg (by omega)]
        refine (szL_dead szEntry x (k + 1) _ ?_).symm
        rw [hst] <;> (try simp only [szS] at *) <;> (repeat' split) <;> omega
      · refine ⟨x.length - (k + 1), by omega, k + 1, by omega, rfl, by simp [s0], by simp, _, by simp; rfl, by (try simp only [szS] at *); omega, by (try simp only [szS] at *); omega, ?_⟩
        rw [hst] <;> (try simp only [szS] at *) <;> (repeat' split) <;> omega
      · simp only [szL]
        rw [if_neg (by omega), ← hae, List.take_of_length_le (by omega)]
  · cases hr
set_option maxHeartbeats 4000000 in
theorem con73 {Γ : Mv.Env} (hg : Mv.Good Try.prog Γ) : Contract Try.prog 73 F73 := by
  refine contract_fn hg (wdraw_ok hg mixed) Try.func73 rfl (by decide) (by decide) rfl (by decide) ?_
  intro us p hs
  obtain ⟨x, rfl, hr⟩ := fn1_inv hs
  clear hs
  simp only [gOk] at hr
  split at hr
  · rename_i hl
    cases hr
    refine ⟨rfl, ?_⟩
    dsimp only [Try.f73]
    simp only [cCall, cT, DCall.enc]
    try simp only [okCall, Bool.and_eq_true] at hl
    repeat' first
      | with_reducible refine WT_seq fun K' hK' => ?_
      | with_reducible refine WT_region ?_
      | with_reducible refine WT_block ?_
      | ((with_reducible refine WT_cond fun X Y hX hY => ?_); (simp [hl, DCall.dec]; try (simp (disch := omega) only [i64_wrap, g20_eq]; try simp [hl, DCall.dec])))
      | ((with_reducible refine wrun_consN rfl fun K' hK' => ?_); (simp [hl, DCall.dec]; try (simp (disch := omega) only [i64_wrap, g20_eq]; try simp [hl, DCall.dec])))
      | ((with_reducible refine wrun_consG rfl (by with_unfolding_all exact rfl) fun K' hK' => ?_); (simp [hl, DCall.dec]; try (simp (disch := omega) only [i64_wrap, g20_eq]; try simp [hl, DCall.dec])))
      | with_reducible refine wrun_nil ?_
      | with_reducible refine then_normal ?_
      | with_reducible refine inBlock_normal ?_
      | with_reducible refine inBlock_ret ?_
      | with_reducible refine inBlock_exit ?_
      | with_reducible refine thenL_normal ?_
      | with_reducible refine thenL_ret ?_
      | with_reducible refine thenL_exit ?_
      | ((with_reducible refine then_ret ?_); clear hK')
      | ((with_reducible refine then_exit ?_); clear hK')
      | with_reducible refine inBlock_other (by decide) ?_
      | with_reducible refine WT_ret ?_
      | with_reducible refine WT_skip ?_
      | with_reducible refine WT_exit ?_
      | ((with_reducible refine hK' _ ?_); clear hK')
      | ((with_reducible refine hX ?_); clear hX hY)
      | ((with_reducible refine hY ?_); clear hX hY)
      | ((with_reducible refine And.intro (Or.inl rfl) ?_); (simp [hl, DCall.dec]; try (simp (disch := omega) only [i64_wrap, g20_eq]; try simp [hl, DCall.dec])))
      | with_reducible refine And.intro ?_ ?_
      | intro h
    all_goals first | rfl | (simp [DCall.enc]; done)
  · cases hr
set_option maxHeartbeats 4000000 in
theorem con119 {Γ : Mv.Env} (hg : Mv.Good Try.prog Γ) (e73 : Γ 73 = some F73) : Contract Try.prog 119 F119 := by
  refine contract_fn hg (wdraw_ok hg mixed) Try.func119 rfl (by decide) (by decide) rfl (by decide) ?_
  intro us p hs
  obtain ⟨x, rfl, hr⟩ := fn1_inv hs
  clear hs
  simp only [gOk] at hr
  split at hr
  · rename_i hl
    cases hr
    refine ⟨rfl, ?_⟩
    dsimp only [Try.f119]
    simp only [cStep, cT, DStep.enc]
    try simp only [okStep, Bool.and_eq_true] at hl
    repeat' first
      | with_reducible refine WT_seq fun K' hK' => ?_
      | with_reducible refine WT_region ?_
      | with_reducible refine WT_block ?_
      | ((with_reducible refine WT_cond fun X Y hX hY => ?_); (simp [e73, F73, fn1, fn2, fn3, hl, DStep.dec, DCall.dec, DCall.enc]; try (simp (disch := omega) only [i64_wrap, g20_eq]; try simp [e73, F73, fn1, fn2, fn3, hl, DStep.dec, DCall.dec, DCall.enc])))
      | ((with_reducible refine wrun_consN rfl fun K' hK' => ?_); (simp [e73, F73, fn1, fn2, fn3, hl, DStep.dec, DCall.dec, DCall.enc]; try (simp (disch := omega) only [i64_wrap, g20_eq]; try simp [e73, F73, fn1, fn2, fn3, hl, DStep.dec, DCall.dec, DCall.enc])))
      | ((with_reducible refine wrun_consG rfl (by with_unfolding_all exact rfl) fun K' hK' => ?_); (simp [e73, F73, fn1, fn2, fn3, hl, DStep.dec, DCall.dec, DCall.enc]; try (simp (disch := omega) only [i64_wrap, g20_eq]; try simp [e73, F73, fn1, fn2, fn3, hl, DStep.dec, DCall.dec, DCall.enc])))
      | with_reducible refine wrun_nil ?_
      | with_reducible refine then_normal ?_
      | with_reducible refine inBlock_normal ?_
      | with_reducible refine inBlock_ret ?_
      | with_reducible refine inBlock_exit ?_
      | with_reducible refine thenL_normal ?_
      | with_reducible refine thenL_ret ?_
      | with_reducible refine thenL_exit ?_
      | ((with_reducible refine then_ret ?_); clear hK')
      | ((with_reducible refine then_exit ?_); clear hK')
      | with_reducible refine inBlock_other (by decide) ?_
      | with_reducible refine WT_ret ?_
      | with_reducible refine WT_skip ?_
      | with_reducible refine WT_exit ?_
      | ((with_reducible refine hK' _ ?_); clear hK')
      | ((with_reducible refine hX ?_); clear hX hY)
      | ((with_reducible refine hY ?_); clear hX hY)
      | ((with_reducible refine And.intro (Or.inl rfl) ?_); (simp [e73, F73, fn1, fn2, fn3, hl, DStep.dec, DCall.dec, DCall.enc]; try (simp (disch := omega) only [i64_wrap, g20_eq]; try simp [e73, F73, fn1, fn2, fn3, hl, DStep.dec, DCall.dec, DCall.enc])))
      | with_reducible refine And.intro ?_ ?_
      | intro h
    all_goals first | rfl | (simp [DStep.enc]; done)
  · cases hr
set_option maxHeartbeats 4000000 in
theorem con77 {Γ : Mv.Env} (hg : Mv.Good Try.prog Γ) (e119 : Γ 119 = some F119) : Contract Try.prog 77 F77 := by
  refine contract_fn hg (wdraw_ok hg mixed) Try.func77 rfl (by decide) (by decide) rfl (by decide) ?_
  intro us p hs
  obtain ⟨x, rfl, hr⟩ := fn1_inv hs
  clear hs
  simp only [gOk] at hr
  split at hr
  · rename_i hl
    cases hr
    refine ⟨rfl, ?_⟩
    have hn := okL_len hl
    dsimp only [Try.f77]
    simp only [lStep, cL]
    repeat' first
      | with_reducible refine WT_seq fun K' hK' => ?_
      | with_reducible refine WT_region ?_
      | with_reducible refine WT_block ?_
      | ((with_reducible refine WT_cond fun X Y hX hY => ?_); (simp [e119, F119, fn1, fn2, fn3, DStep.dec, DCall.dec]; try (simp (disch := omega) only [i64_wrap, g20_eq]; try simp [e119, F119, fn1, fn2, fn3, DStep.dec, DCall.dec])))
      | ((with_reducible refine wrun_consN rfl fun K' hK' => ?_); (simp [e119, F119, fn1, fn2, fn3, DStep.dec, DCall.dec]; try (simp (disch := omega) only [i64_wrap, g20_eq]; try simp [e119, F119, fn1, fn2, fn3, DStep.dec, DCall.dec])))
      | ((with_reducible refine wrun_consG rfl (by with_unfolding_all exact rfl) fun K' hK' => ?_); (simp [e119, F119, fn1, fn2, fn3, DStep.dec, DCall.dec]; try (simp (disch := omega) only [i64_wrap, g20_eq]; try simp [e119, F119, fn1, fn2, fn3, DStep.dec, DCall.dec])))
      | with_reducible refine wrun_nil ?_
      | with_reducible refine then_normal ?_
      | with_reducible refine inBlock_normal ?_
      | with_reducible refine inBlock_ret ?_
      | with_reducible refine inBlock_exit ?_
      | with_reducible refine thenL_normal ?_
      | with_reducible refine thenL_ret ?_
      | with_reducible refine thenL_exit ?_
      | ((with_reducible refine then_ret ?_); clear hK')
      | ((with_reducible refine then_exit ?_); clear hK')
      | with_reducible refine inBlock_other (by decide) ?_
      | with_reducible refine WT_ret ?_
      | with_reducible refine WT_skip ?_
      | with_reducible refine WT_exit ?_
      | ((with_reducible refine hK' _ ?_); clear hK')
      | ((with_reducible refine hX ?_); clear hX hY)
      | ((with_reducible refine hY ?_); clear hX hY)
      | ((with_reducible refine And.intro (Or.inl rfl) ?_); (simp [e119, F119, fn1, fn2, fn3, DStep.dec, DCall.dec]; try (simp (disch := omega) only [i64_wrap, g20_eq]; try simp [e119, F119, fn1, fn2, fn3, DStep.dec, DCall.dec])))
      | with_reducible refine And.intro ?_ ?_
      | omega
      | intro h
    refine WT_loopL (fun m σ => ∃ k, k ≤ x.length ∧ m = x.length - k ∧ σ.slot 0 = .tr none (.sl false 7 (x.map (DStep.enc false))) ∧ σ.slot 4 = .tr none (.sc (.int .i64 k)) ∧
      σ.slot 3 = .tr none (.sl true 7 ((fil x DStep.zero k).map (DStep.enc true)))) ⟨_, 0, by omega, rfl, by simp, by simp, by rw [fil_zero]; simp [DStep.enc, DStep.zero, DCall.enc, DCall.zero]⟩ ?_
    rintro m σ ⟨k, hk, rfl, s0, s4, s3⟩
    have flen := fil_len x DStep.zero hk
    repeat' first
      | with_reducible refine WT_seq fun K' hK' => ?_
      | with_reducible refine WT_region ?_
      | with_reducible refine WT_block ?_
      | ((with_reducible refine WT_cond fun X Y hX hY => ?_); (first | (simp [e119, F119, fn1, fn2, fn3, DStep.dec, DCall.dec, s0, s4, s3, flen, DStep.enc, hx, hou, fget]; try (simp (disch := omega) only [i64_wrap, g20_eq]; try simp [e119, F119, fn1, fn2, fn3, DStep.dec, DCall.dec, s0, s4, s3, flen, DStep.enc, hx, hou, fget])) | (simp [e119, F119, fn1, fn2, fn3, DStep.dec, DCall.dec, s0, s4, s3, flen, DStep.enc]; try (simp (disch := omega) only [i64_wrap, g20_eq]; try simp [e119, F119, fn1, fn2, fn3, DStep.dec, DCall.dec, s0, s4, s3, flen, DStep.enc]))))
      | ((with_reducible refine wrun_consN rfl fun K' hK' => ?_); (first | (simp [e119, F119, fn1, fn2, fn3, DStep.dec, DCall.dec, s0, s4, s3, flen, DStep.enc, hx, hou, fget]; try (simp (disch := omega) only [i64_wrap, g20_eq]; try simp [e119, F119, fn1, fn2, fn3, DStep.dec, DCall.dec, s0, s4, s3, flen, DStep.enc, hx, hou, fget])) | (simp [e119, F119, fn1, fn2, fn3, DStep.dec, DCall.dec, s0, s4, s3, flen, DStep.enc]; try (simp (disch := omega) only [i64_wrap, g20_eq]; try simp [e119, F119, fn1, fn2, fn3, DStep.dec, DCall.dec, s0, s4, s3, flen, DStep.enc]))))
      | ((with_reducible refine wrun_consG rfl (by with_unfolding_all exact rfl) fun K' hK' => ?_); (first | (simp [e119, F119, fn1, fn2, fn3, DStep.dec, DCall.dec, s0, s4, s3, flen, DStep.enc, hx, hou, fget]; try (simp (disch := omega) only [i64_wrap, g20_eq]; try simp [e119, F119, fn1, fn2, fn3, DStep.dec, DCall.dec, s0, s4, s3, flen, DStep.enc, hx, hou, fget])) | (simp [e119, F119, fn1, fn2, fn3, DStep.dec, DCall.dec, s0, s4, s3, flen, DStep.enc]; try (simp (disch := omega) only [i64_wrap, g20_eq]; try simp [e119, F119, fn1, fn2, fn3, DStep.dec, DCall.dec, s0, s4, s3, flen, DStep.enc]))))
      | with_reducible refine wrun_nil ?_
      | with_reducible refine then_normal ?_
      | with_reducible refine inBlock_normal ?_
      | with_reducible refine inBlock_ret ?_
      | with_reducible refine inBlock_exit ?_
      | with_reducible refine thenL_normal ?_
      | with_reducible refine thenL_ret ?_
      | with_reducible refine thenL_exit ?_
      | ((with_reducible refine then_ret ?_); clear hK')
      | ((with_reducible refine then_exit ?_); clear hK')
      | with_reducible refine inBlock_other (by decide) ?_
      | with_reducible refine WT_ret ?_
      | with_reducible refine WT_skip ?_
      | with_reducible refine WT_exit ?_
      | ((with_reducible refine hK' _ ?_); clear hK')
      | ((with_reducible refine hX ?_); clear hX hY)
      | ((with_reducible refine hY ?_); clear hX hY)
      | ((with_reducible refine And.intro (Or.inl rfl) ?_); (first | (simp [e119, F119, fn1, fn2, fn3, DStep.dec, DCall.dec, s0, s4, s3, flen, DStep.enc, hx, hou, fget]; try (simp (disch := omega) only [i64_wrap, g20_eq]; try simp [e119, F119, fn1, fn2, fn3, DStep.dec, DCall.dec, s0, s4, s3, flen, DStep.enc, hx, hou, fget])) | (simp [e119, F119, fn1, fn2, fn3, DStep.dec, DCall.dec, s0, s4, s3, flen, DStep.enc]; try (simp (disch := omega) only [i64_wrap, g20_eq]; try simp [e119, F119, fn1, fn2, fn3, DStep.dec, DCall.dec, s0, s4, s3, flen, DStep.enc]))))
      | with_reducible refine And.intro ?_ ?_
      | omega
      | (intro hlt; obtain ⟨u, hx⟩ := get_some hlt; have hou := okL_get hl hx; have fget := fil_get x DStep.zero hlt; have fset := fil_set x DStep.zero u hx)
      | intro h
    · refine ⟨x.length - (k + 1), by omega, k + 1, by omega, rfl, by simp [s0], by simp, ?_⟩
      rw [← fset, List.map_set]; simp [DStep.enc]
    · rw [fil_all x _ (by omega)]; exact List.take_of_length_le (by simp)
  · cases hr
set_option maxHeartbeats 4000000 in
theorem con120 {Γ : Mv.Env} (hg : Mv.Good Try.prog Γ) : Contract Try.prog 120 F120 := by
  refine contract_fn hg (wdraw_ok hg mixed) Try.func120 rfl (by decide) (by decide) rfl (by decide) ?_
  intro us p hs
  obtain ⟨x, rfl, hr⟩ := fn1_inv hs
  clear hs
  simp only [gOk] at hr
  split at hr
  · rename_i hl
    cases hr
    refine ⟨rfl, ?_⟩
    dsimp only [Try.f120]
    simp only [cAnswer, cT, DAnswer.enc]
    try simp only [okAnswer, Bool.and_eq_true] at hl
    repeat' first
      | with_reducible refine WT_seq fun K' hK' => ?_
      | with_reducible refine WT_region ?_
      | with_reducible refine WT_block ?_
      | ((with_reducible refine WT_cond fun X Y hX hY => ?_); (simp [hl, DAnswer.dec]; try (simp (disch := omega) only [i64_wrap, g20_eq]; try simp [hl, DAnswer.dec])))
      | ((with_reducible refine wrun_consN rfl fun K' hK' => ?_); (simp [hl, DAnswer.dec]; try (simp (disch := omega) only [i64_wrap, g20_eq]; try simp [hl, DAnswer.dec])))
      | ((with_reducible refine wrun_consG rfl (by with_unfolding_all exact rfl) fun K' hK' => ?_); (simp [hl, DAnswer.dec]; try (simp (disch := omega) only [i64_wrap, g20_eq]; try simp [hl, DAnswer.dec])))
      | with_reducible refine wrun_nil ?_
      | with_reducible refine then_normal ?_
      | with_reducible refine inBlock_normal ?_
      | with_reducible refine inBlock_ret ?_
      | with_reducible refine inBlock_exit ?_
      | with_reducible refine thenL_normal ?_
      | with_reducible refine thenL_ret ?_
      | with_reducible refine thenL_exit ?_
      | ((with_reducible refine then_ret ?_); clear hK')
      | ((with_reducible refine then_exit ?_); clear hK')
      | with_reducible refine inBlock_other (by decide) ?_
      | with_reducible refine WT_ret ?_
      | with_reducible refine WT_skip ?_
      | with_reducible refine WT_exit ?_
      | ((with_reducible refine hK' _ ?_); clear hK')
      | ((with_reducible refine hX ?_); clear hX hY)
      | ((with_reducible refine hY ?_); clear hX hY)
      | ((with_reducible refine And.intro (Or.inl rfl) ?_); (simp [hl, DAnswer.dec]; try (simp (disch := omega) only [i64_wrap, g20_eq]; try simp [hl, DAnswer.dec])))
      | with_reducible refine And.intro ?_ ?_
      | intro h
    all_goals first | rfl | (simp [DAnswer.enc]; done)
  · cases hr
set_option maxHeartbeats 4000000 in
theorem con78 {Γ : Mv.Env} (hg : Mv.Good Try.prog Γ) (e120 : Γ 120 = some F120) : Contract Try.prog 78 F78 := by
  refine contract_fn hg (wdraw_ok hg mixed) Try.func78 rfl (by decide) (by decide) rfl (by decide) ?_
  intro us p hs
  obtain ⟨x, rfl, hr⟩ := fn1_inv hs
  clear hs
  simp only [gOk] at hr
  split at hr
  · rename_i hl
    cases hr
    refine ⟨rfl, ?_⟩
    have hn := okL_len hl
    dsimp only [Try.f78]
    simp only [lAnswer, cL]
    repeat' first
      | with_reducible refine WT_seq fun K' hK' => ?_
      | with_reducible refine WT_region ?_
      | with_reducible refine WT_block ?_
      | ((with_reducible refine WT_cond fun X Y hX hY => ?_); (simp [e120, F120, fn1, fn2, fn3, DAnswer.dec]; try (simp (disch := omega) only [i64_wrap, g20_eq]; try simp [e120, F120, fn1, fn2, fn3, DAnswer.dec])))
      | ((with_reducible refine wrun_consN rfl fun K' hK' => ?_); (simp [e120, F120, fn1, fn2, fn3, DAnswer.dec]; try (simp (disch := omega) only [i64_wrap, g20_eq]; try simp [e120, F120, fn1, fn2, fn3, DAnswer.dec])))
      | ((with_reducible refine wrun_consG rfl (by with_unfolding_all exact rfl) fun K' hK' => ?_); (simp [e120, F120, fn1, fn2, fn3, DAnswer.dec]; try (simp (disch := omega) only [i64_wrap, g20_eq]; try simp [e120, F120, fn1, fn2, fn3, DAnswer.dec])))
      | with_reducible refine wrun_nil ?_
      | with_reducible refine then_normal ?_
      | with_reducible refine inBlock_normal ?_
      | with_reducible refine inBlock_ret ?_
      | with_reducible refine inBlock_exit ?_
      | with_reducible refine thenL_normal ?_
      | with_reducible refine thenL_ret ?_
      | with_reducible refine thenL_exit ?_
      | ((with_reducible refine then_ret ?_); clear hK')
      | ((with_reducible refine then_exit ?_); clear hK')
      | with_reducible refine inBlock_other (by decide) ?_
      | with_reducible refine WT_ret ?_
      | with_reducible refine WT_skip ?_
      | with_reducible refine WT_exit ?_
      | ((with_reducible refine hK' _ ?_); clear hK')
      | ((with_reducible refine hX ?_); clear hX hY)
      | ((with_reducible refine hY ?_); clear hX hY)
      | ((with_reducible refine And.intro (Or.inl rfl) ?_); (simp [e120, F120, fn1, fn2, fn3, DAnswer.dec]; try (simp (disch := omega) only [i64_wrap, g20_eq]; try simp [e120, F120, fn1, fn2, fn3, DAnswer.dec])))
      | with_reducible refine And.intro ?_ ?_
      | omega
      | intro h
    refine WT_loopL (fun m σ => ∃ k, k ≤ x.length ∧ m = x.length - k ∧ σ.slot 0 = .tr none (.sl false 3 (x.map (DAnswer.enc false))) ∧ σ.slot 4 = .tr none (.sc (.int .i64 k)) ∧
      σ.slot 3 = .tr none (.sl true 3 ((fil x DAnswer.zero k).map (DAnswer.enc true)))) ⟨_, 0, by omega, rfl, by simp, by simp, by rw [fil_zero]; simp [DAnswer.enc, DAnswer.zero]⟩ ?_
    rintro m σ ⟨k, hk, rfl, s0, s4, s3⟩
    have flen := fil_len x DAnswer.zero hk
    repeat' first
      | with_reducible refine WT_seq fun K' hK' => ?_
      | with_reducible refine WT_region ?_
      | with_reducible refine WT_block ?_
      | ((with_reducible refine WT_cond fun X Y hX hY => ?_); (first | (simp [e120, F120, fn1, fn2, fn3, DAnswer.dec, s0, s4, s3, flen, DAnswer.enc, hx, hou, fget]; try (simp (disch := omega) only [i64_wrap, g20_eq]; try simp [e120, F120, fn1, fn2, fn3, DAnswer.dec, s0, s4, s3, flen, DAnswer.enc, hx, hou, fget])) | (simp [e120, F120, fn1, fn2, fn3, DAnswer.dec, s0, s4, s3, flen, DAnswer.enc]; try (simp (disch := omega) only [i64_wrap, g20_eq]; try simp [e120, F120, fn1, fn2, fn3, DAnswer.dec, s0, s4, s3, flen, DAnswer.enc]))))
      | ((with_reducible refine wrun_consN rfl fun K' hK' => ?_); (first | (simp [e120, F120, fn1, fn2, fn3, DAnswer.dec, s0, s4, s3, flen, DAnswer.enc, hx, hou, fget]; try (simp (disch := omega) only [i64_wrap, g20_eq]; try simp [e120, F120, fn1, fn2, fn3, DAnswer.dec, s0, s4, s3, flen, DAnswer.enc, hx, hou, fget])) | (simp [e120, F120, fn1, fn2, fn3, DAnswer.dec, s0, s4, s3, flen, DAnswer.enc]; try (simp (disch := omega) only [i64_wrap, g20_eq]; try simp [e120, F120, fn1, fn2, fn3, DAnswer.dec, s0, s4, s3, flen, DAnswer.enc]))))
      | ((with_reducible refine wrun_consG rfl (by with_unfolding_all exact rfl) fun K' hK' => ?_); (first | (simp [e120, F120, fn1, fn2, fn3, DAnswer.dec, s0, s4, s3, flen, DAnswer.enc, hx, hou, fget]; try (simp (disch := omega) only [i64_wrap, g20_eq]; try simp [e120, F120, fn1, fn2, fn3, DAnswer.dec, s0, s4, s3, flen, DAnswer.enc, hx, hou, fget])) | (simp [e120, F120, fn1, fn2, fn3, DAnswer.dec, s0, s4, s3, flen, DAnswer.enc]; try (simp (disch := omega) only [i64_wrap, g20_eq]; try simp [e120, F120, fn1, fn2, fn3, DAnswer.dec, s0, s4, s3, flen, DAnswer.enc]))))
      | with_reducible refine wrun_nil ?_
      | with_reducible refine then_normal ?_
      | with_reducible refine inBlock_normal ?_
      | with_reducible refine inBlock_ret ?_
      | with_reducible refine inBlock_exit ?_
      | with_reducible refine thenL_normal ?_
      | with_reducible refine thenL_ret ?_
      | with_reducible refine thenL_exit ?_
      | ((with_reducible refine then_ret ?_); clear hK')
      | ((with_reducible refine then_exit ?_); clear hK')
      | with_reducible refine inBlock_other (by decide) ?_
      | with_reducible refine WT_ret ?_
      | with_reducible refine WT_skip ?_
      | with_reducible refine WT_exit ?_
      | ((with_reducible refine hK' _ ?_); clear hK')
      | ((with_reducible refine hX ?_); clear hX hY)
      | ((with_reducible refine hY ?_); clear hX hY)
      | ((with_reducible refine And.intro (Or.inl rfl) ?_); (first | (simp [e120, F120, fn1, fn2, fn3, DAnswer.dec, s0, s4, s3, flen, DAnswer.enc, hx, hou, fget]; try (simp (disch := omega) only [i64_wrap, g20_eq]; try simp [e120, F120, fn1, fn2, fn3, DAnswer.dec, s0, s4, s3, flen, DAnswer.enc, hx, hou, fget])) | (simp [e120, F120, fn1, fn2, fn3, DAnswer.dec, s0, s4, s3, flen, DAnswer.enc]; try (simp (disch := omega) only [i64_wrap, g20_eq]; try simp [e120, F120, fn1, fn2, fn3, DAnswer.dec, s0, s4, s3, flen, DAnswer.enc]))))
      | with_reducible refine And.intro ?_ ?_
      | omega
      | (intro hlt; obtain ⟨u, hx⟩ := get_some hlt; have hou := okL_get hl hx; have fget := fil_get x DAnswer.zero hlt; have fset := fil_set x DAnswer.zero u hx)
      | intro h
    · refine ⟨x.length - (k + 1), by omega, k + 1, by omega, rfl, by simp [s0], by simp, ?_⟩
      rw [← fset, List.map_set]; simp [DAnswer.enc]
    · rw [fil_all x _ (by omega)]; exact List.take_of_length_le (by simp)
  · cases hr
set_option maxHeartbeats 4000000 in
theorem con28 {Γ : Mv.Env} (hg : Mv.Good Try.prog Γ) (e77 : Γ 77 = some F77) (e78 : Γ 78 = some F78) : Contract Try.prog 28 F28 := by
  refine contract_fn hg (wdraw_ok hg mixed) Try.func28 rfl (by decide) (by decide) rfl (by decide) ?_
  intro us p hs
  obtain ⟨x, rfl, hr⟩ := fn1_inv hs
  clear hs
  simp only [gOk] at hr
  split at hr
  · rename_i hl
    cases hr
    refine ⟨rfl, ?_⟩
    dsimp only [Try.f28]
    simp only [cEntry, cT, DEntry.enc]
    try simp only [okEntry, Bool.and_eq_true] at hl
    repeat' first
      | with_reducible refine WT_seq fun K' hK' => ?_
      | with_reducible refine WT_region ?_
      | with_reducible refine WT_block ?_
      | ((with_reducible refine WT_cond fun X Y hX hY => ?_); (simp [e77, F77, e78, F78, fn1, fn2, fn3, hl, DEntry.dec, DStep.dec, DCall.dec, DAnswer.dec]; try (simp (disch := omega) only [i64_wrap, g20_eq]; try simp [e77, F77, e78, F78, fn1, fn2, fn3, hl, DEntry.dec, DStep.dec, DCall.dec, DAnswer.dec])))
      | ((with_reducible refine wrun_consN rfl fun K' hK' => ?_); (simp [e77, F77, e78, F78, fn1, fn2, fn3, hl, DEntry.dec, DStep.dec, DCall.dec, DAnswer.dec]; try (simp (disch := omega) only [i64_wrap, g20_eq]; try simp [e77, F77, e78, F78, fn1, fn2, fn3, hl, DEntry.dec, DStep.dec, DCall.dec, DAnswer.dec])))
      | ((with_reducible refine wrun_consG rfl (by with_unfolding_all exact rfl) fun K' hK' => ?_); (simp [e77, F77, e78, F78, fn1, fn2, fn3, hl, DEntry.dec, DStep.dec, DCall.dec, DAnswer.dec]; try (simp (disch := omega) only [i64_wrap, g20_eq]; try simp [e77, F77, e78, F78, fn1, fn2, fn3, hl, DEntry.dec, DStep.dec, DCall.dec, DAnswer.dec])))
      | with_reducible refine wrun_nil ?_
      | with_reducible refine then_normal ?_
      | with_reducible refine inBlock_normal ?_
      | with_reducible refine inBlock_ret ?_
      | with_reducible refine inBlock_exit ?_
      | with_reducible refine thenL_normal ?_
      | with_reducible refine thenL_ret ?_
      | with_reducible refine thenL_exit ?_
      | ((with_reducible refine then_ret ?_); clear hK')
      | ((with_reducible refine then_exit ?_); clear hK')
      | with_reducible refine inBlock_other (by decide) ?_
      | with_reducible refine WT_ret ?_
      | with_reducible refine WT_skip ?_
      | with_reducible refine WT_exit ?_
      | ((with_reducible refine hK' _ ?_); clear hK')
      | ((with_reducible refine hX ?_); clear hX hY)
      | ((with_reducible refine hY ?_); clear hX hY)
      | ((with_reducible refine And.intro (Or.inl rfl) ?_); (simp [e77, F77, e78, F78, fn1, fn2, fn3, hl, DEntry.dec, DStep.dec, DCall.dec, DAnswer.dec]; try (simp (disch := omega) only [i64_wrap, g20_eq]; try simp [e77, F77, e78, F78, fn1, fn2, fn3, hl, DEntry.dec, DStep.dec, DCall.dec, DAnswer.dec])))
      | with_reducible refine And.intro ?_ ?_
      | intro h
    all_goals first | rfl | (simp [DEntry.enc]; done)
  · cases hr
set_option maxHeartbeats 4000000 in
theorem con33 {Γ : Mv.Env} (hg : Mv.Good Try.prog Γ) (e28 : Γ 28 = some F28) : Contract Try.prog 33 F33 := by
  refine contract_fn hg (wdraw_ok hg mixed) Try.func33 rfl (by decide) (by decide) rfl (by decide) ?_
  intro us p hs
  obtain ⟨x, rfl, hr⟩ := fn1_inv hs
  clear hs
  simp only [gOk] at hr
  split at hr
  · rename_i hl
    cases hr
    refine ⟨rfl, ?_⟩
    have hn := okL_len hl
    dsimp only [Try.f33]
    simp only [lEntry, cL]
    repeat' first
      | with_reducible refine WT_seq fun K' hK' => ?_
      | with_reducible refine WT_region ?_
      | with_reducible refine WT_block ?_
      | ((with_reducible refine WT_cond fun X Y hX hY => ?_); (simp [e28, F28, fn1, fn2, fn3, DEntry.dec]; try (simp (disch := omega) only [i64_wrap, g20_eq]; try simp [e28, F28, fn1, fn2, fn3, DEntry.dec])))
      | ((with_reducible refine wrun_consN rfl fun K' hK' => ?_); (simp [e28, F28, fn1, fn2, fn3, DEntry.dec]; try (simp (disch := omega) only [i64_wrap, g20_eq]; try simp [e28, F28, fn1, fn2, fn3, DEntry.dec])))
      | ((with_reducible refine wrun_consG rfl (by with_unfolding_all exact rfl) fun K' hK' => ?_); (simp [e28, F28, fn1, fn2, fn3, DEntry.dec]; try (simp (disch := omega) only [i64_wrap, g20_eq]; try simp [e28, F28, fn1, fn2, fn3, DEntry.dec])))
      | with_reducible refine wrun_nil ?_
      | with_reducible refine then_normal ?_
      | with_reducible refine inBlock_normal ?_
      | with_reducible refine inBlock_ret ?_
      | with_reducible refine inBlock_exit ?_
      | with_reducible refine thenL_normal ?_
      | with_reducible refine thenL_ret ?_
      | with_reducible refine thenL_exit ?_
      | ((with_reducible refine then_ret ?_); clear hK')
      | ((with_reducible refine then_exit ?_); clear hK')
      | with_reducible refine inBlock_other (by decide) ?_
      | with_reducible refine WT_ret ?_
      | with_reducible refine WT_skip ?_
      | with_reducible refine WT_exit ?_
      | ((with_reducible refine hK' _ ?_); clear hK')
      | ((with_reducible refine hX ?_); clear hX hY)
      | ((with_reducible refine hY ?_); clear hX hY)
      | ((with_reducible refine And.intro (Or.inl rfl) ?_); (simp [e28, F28, fn1, fn2, fn3, DEntry.dec]; try (simp (disch := omega) only [i64_wrap, g20_eq]; try simp [e28, F28, fn1, fn2, fn3, DEntry.dec])))
      | with_reducible refine And.intro ?_ ?_
      | omega
      | intro h
    refine WT_loopL (fun m σ => ∃ k, k ≤ x.length ∧ m = x.length - k ∧ σ.slot 0 = .tr none (.sl false 8 (x.map (DEntry.enc false))) ∧ σ.slot 4 = .tr none (.sc (.int .i64 k)) ∧
      σ.slot 3 = .tr none (.sl true 8 ((fil x DEntry.zero k).map (DEntry.enc true)))) ⟨_, 0, by omega, rfl, by simp, by simp, by rw [fil_zero]; simp [DEntry.enc, DEntry.zero]⟩ ?_
    rintro m σ ⟨k, hk, rfl, s0, s4, s3⟩
    have flen := fil_len x DEntry.zero hk
    repeat' first
      | with_reducible refine WT_seq fun K' hK' => ?_
      | with_reducible refine WT_region ?_
      | with_reducible refine WT_block ?_
      | ((with_reducible refine WT_cond fun X Y hX hY => ?_); (first | (simp [e28, F28, fn1, fn2, fn3, DEntry.dec, s0, s4, s3, flen, DEntry.enc, hx, hou, fget]; try (simp (disch := omega) only [i64_wrap, g20_eq]; try simp [e28, F28, fn1, fn2, fn3, DEntry.dec, s0, s4, s3, flen, DEntry.enc, hx, hou, fget])) | (simp [e28, F28, fn1, fn2, fn3, DEntry.dec, s0, s4, s3, flen, DEntry.enc]; try (simp (disch := omega) only [i64_wrap, g20_eq]; try simp [e28, F28, fn1, fn2, fn3, DEntry.dec, s0, s4, s3, flen, DEntry.enc]))))
      | ((with_reducible refine wrun_consN rfl fun K' hK' => ?_); (first | (simp [e28, F28, fn1, fn2, fn3, DEntry.dec, s0, s4, s3, flen, DEntry.enc, hx, hou, fget]; try (simp (disch := omega) only [i64_wrap, g20_eq]; try simp [e28, F28, fn1, fn2, fn3, DEntry.dec, s0, s4, s3, flen, DEntry.enc, hx, hou, fget])) | (simp [e28, F28, fn1, fn2, fn3, DEntry.dec, s0, s4, s3, flen, DEntry.enc]; try (simp (disch := omega) only [i64_wrap, g20_eq]; try simp [e28, F28, fn1, fn2, fn3, DEntry.dec, s0, s4, s3, flen, DEntry.enc]))))
      | ((with_reducible refine wrun_consG rfl (by with_unfolding_all exact rfl) fun K' hK' => ?_); (first | (simp [e28, F28, fn1, fn2, fn3, DEntry.dec, s0, s4, s3, flen, DEntry.enc, hx, hou, fget]; try (simp (disch := omega) only [i64_wrap, g20_eq]; try simp [e28, F28, fn1, fn2, fn3, DEntry.dec, s0, s4, s3, flen, DEntry.enc, hx, hou, fget])) | (simp [e28, F28, fn1, fn2, fn3, DEntry.dec, s0, s4, s3, flen, DEntry.enc]; try (simp (disch := omega) only [i64_wrap, g20_eq]; try simp [e28, F28, fn1, fn2, fn3, DEntry.dec, s0, s4, s3, flen, DEntry.enc]))))
      | with_reducible refine wrun_nil ?_
      | with_reducible refine then_normal ?_
      | with_reducible refine inBlock_normal ?_
      | with_reducible refine inBlock_ret ?_
      | with_reducible refine inBlock_exit ?_
      | with_reducible refine thenL_normal ?_
      | with_reducible refine thenL_ret ?_
      | with_reducible refine thenL_exit ?_
      | ((with_reducible refine then_ret ?_); clear hK')
      | ((with_reducible refine then_exit ?_); clear hK')
      | with_reducible refine inBlock_other (by decide) ?_
      | with_reducible refine WT_ret ?_
      | with_reducible refine WT_skip ?_
      | with_reducible refine WT_exit ?_
      | ((with_reducible refine hK' _ ?_); clear hK')
      | ((with_reducible refine hX ?_); clear hX hY)
      | ((with_reducible refine hY ?_); clear hX hY)
      | ((with_reducible refine And.intro (Or.inl rfl) ?_); (first | (simp [e28, F28, fn1, fn2, fn3, DEntry.dec, s0, s4, s3, flen, DEntry.enc, hx, hou, fget]; try (simp (disch := omega) only [i64_wrap, g20_eq]; try simp [e28, F28, fn1, fn2, fn3, DEntry.dec, s0, s4, s3, flen, DEntry.enc, hx, hou, fget])) | (simp [e28, F28, fn1, fn2, fn3, DEntry.dec, s0, s4, s3, flen, DEntry.enc]; try (simp (disch := omega) only [i64_wrap, g20_eq]; try simp [e28, F28, fn1, fn2, fn3, DEntry.dec, s0, s4, s3, flen, DEntry.enc]))))
      | with_reducible refine And.intro ?_ ?_
      | omega
      | (intro hlt; obtain ⟨u, hx⟩ := get_some hlt; have hou := okL_get hl hx; have fget := fil_get x DEntry.zero hlt; have fset := fil_set x DEntry.zero u hx)
      | intro h
    · refine ⟨x.length - (k + 1), by omega, k + 1, by omega, rfl, by simp [s0], by simp, ?_⟩
      rw [← fset, List.map_set]; simp [DEntry.enc]
    · rw [fil_all x _ (by omega)]; exact List.take_of_length_le (by simp)
  · cases hr
end Go.Mv
