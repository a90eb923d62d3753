/-
  The walks of some functions that a law reaches: each is shown to do to trees what its plain function tells; no statement of the seat by itself; no conditions.
-/
import Derived.Test.YtdkjhbbddlognaaWMeanwhile0
namespace Go.Mv
open Go.Proofs
set_option linter.unusedVariables false
set_option linter.unusedSimpArgs false
set_option maxRecDepth 10000
set_option maxHeartbeats 4000000 in
theorem con41 {Γ : Mv.Env} (hg : Mv.Good Try.prog Γ) (e80 : Γ 80 = some F80) (e29 : Γ 29 = some F29) : Contract Try.prog 41 F41 := by
  refine contract_fn hg (wdraw_ok hg mixed) Try.func41 rfl (by decide) (by decide) rfl (by decide) ?_
  intro us p hs
  obtain ⟨x, y, rfl, hr⟩ := fn2_inv hs
  clear hs
  cases hr
  refine ⟨rfl, ?_⟩
  dsimp only [Try.f41]
  simp only [lEntry, cL, cI]
  by_cases hin : 0 ≤ y ∧ y ≤ (x.length : Int) - 1
  · have hy0 := hin.1
    have hy1 := hin.2
    have hy2 : y < (x.length : Int) := by omega
    have hy3 : y.toNat < x.length := by omega
    have hmw : mw x y = (List.range x.length).countP (mwAt x y) := by simp [mw, hy0, hy1]
    obtain ⟨w, hw⟩ := get_some hy3
    have hw2 : x[y.toNat] = w := (List.getElem?_eq_some_iff.mp hw).2
    repeat' first
      | with_reducible refine WT_seq fun K' hK' => ?_
      | with_reducible refine WT_region ?_
      | with_reducible refine WT_block ?_
      | ((with_reducible refine WT_cond fun X Y hX hY => ?_); (simp [e80, F80, e29, F29, fn1, fn2, fn3, hy0, hy1]; try (simp (disch := omega) only [i64_wrap, g20_eq]; try simp [e80, F80, e29, F29, fn1, fn2, fn3, hy0, hy1])))
      | ((with_reducible refine wrun_consN rfl fun K' hK' => ?_); (simp [e80, F80, e29, F29, fn1, fn2, fn3, hy0, hy1]; try (simp (disch := omega) only [i64_wrap, g20_eq]; try simp [e80, F80, e29, F29, fn1, fn2, fn3, hy0, hy1])))
      | ((with_reducible refine wrun_consG rfl (by with_unfolding_all exact rfl) fun K' hK' => ?_); (simp [e80, F80, e29, F29, fn1, fn2, fn3, hy0, hy1]; try (simp (disch := omega) only [i64_wrap, g20_eq]; try simp [e80, F80, e29, F29, fn1, fn2, fn3, hy0, hy1])))
      | with_reducible refine wrun_nil ?_
      | ((with_reducible refine wfront_consN (by with_unfolding_all exact rfl) rfl rfl ?_ fun K' hK' => ?_); (focus (first | exact rootless_none rfl | exact rootless_out rfl (by decide) | (refine rootless_in rfl ?_; (simp [e80, F80, e29, F29, fn1, fn2, fn3, hy0, hy1]; try (simp (disch := omega) only [i64_wrap, g20_eq]; try simp [e80, F80, e29, F29, fn1, fn2, fn3, hy0, hy1]))))); (simp [e80, F80, e29, F29, fn1, fn2, fn3, hy0, hy1]; try (simp (disch := omega) only [i64_wrap, g20_eq]; try simp [e80, F80, e29, F29, fn1, fn2, fn3, hy0, hy1])))
      | ((with_reducible refine wfront_consG (by with_unfolding_all exact rfl) rfl rfl (by with_unfolding_all exact rfl) ?_ fun K' hK' => ?_); (focus (first | exact rootless_none rfl | exact rootless_out rfl (by decide) | (refine rootless_in rfl ?_; (simp [e80, F80, e29, F29, fn1, fn2, fn3, hy0, hy1]; try (simp (disch := omega) only [i64_wrap, g20_eq]; try simp [e80, F80, e29, F29, fn1, fn2, fn3, hy0, hy1]))))); (simp [e80, F80, e29, F29, fn1, fn2, fn3, hy0, hy1]; try (simp (disch := omega) only [i64_wrap, g20_eq]; try simp [e80, F80, e29, F29, fn1, fn2, fn3, hy0, hy1])))
      | with_reducible refine wfront_tail (by with_unfolding_all exact rfl) ?_
      | with_reducible refine wfront_nil ?_
      | with_reducible refine WT_draw [21, 22, 23, 24, 25, 26, 27, 28, 29, 30, 31, 32, 33, 34, 35, 36, 37, 38, 39, 40, 41] (by with_unfolding_all decide) (by with_unfolding_all exact rfl) ?_
      | with_reducible refine then_normal ?_
      | with_reducible refine inBlock_normal ?_
      | with_reducible refine inBlock_ret ?_
      | with_reducible refine inBlock_exit ?_
      | with_reducible refine thenL_normal ?_
      | with_reducible refine thenL_ret ?_
      | with_reducible refine thenL_exit ?_
      | ((with_reducible refine then_ret ?_); clear hK')
      | ((with_reducible refine then_exit ?_); clear hK')
      | with_reducible refine inBlock_other (by decide) ?_
      | with_reducible refine WT_ret ?_
      | with_reducible refine WT_skip ?_
      | with_reducible refine WT_exit ?_
      | ((with_reducible refine hK' _ ?_); clear hK')
      | ((with_reducible refine hX ?_); clear hX hY)
      | ((with_reducible refine hY ?_); clear hX hY)
      | ((with_reducible refine And.intro (Or.inl rfl) ?_); (simp [e80, F80, e29, F29, fn1, fn2, fn3, hy0, hy1]; try (simp (disch := omega) only [i64_wrap, g20_eq]; try simp [e80, F80, e29, F29, fn1, fn2, fn3, hy0, hy1])))
      | with_reducible refine And.intro ?_ ?_
      | omega
      | intro h
    all_goals try omega
    refine WT_loopL (fun m σ => ∃ k, k ≤ x.length ∧ m = x.length - k ∧ σ.slot 0 = .tr none (.sl false 8 (x.map (DEntry.enc false))) ∧ σ.slot 14 = .tr none (.sl false 8 (x.map (DEntry.enc false))) ∧ σ.slot 15 = .tr none (.sc (.int .i64 x.length)) ∧ σ.slot 1 = .tr none (.sc (.int .i64 y)) ∧ σ.slot 16 = .tr none (.sc (.int .i64 k)) ∧ σ.slot 5 = .tr none (.sc (.int .i64 (((List.range k).countP (mwAt x y) : Nat) : Int)))) ⟨_, 0, by omega, rfl, by simp, by simp, by simp, by simp, by simp, by simp⟩ ?_
    rintro m σ ⟨k, hk, rfl, q0, q1, q2, q3, q4, q5⟩
    have hle := cR_le (mwAt x y) k
    have hstep := cR_step (mwAt x y) k
    by_cases hlt0 : k < x.length
    · obtain ⟨u, hu⟩ := get_some hlt0
      have hu2 : x[k] = u := (List.getElem?_eq_some_iff.mp hu).2
      by_cases hne : (k : Int) = y
      · have hat : mwAt x y k = false := by simp [mwAt, hne]
        rw [hat] at hstep
        repeat' first
          | with_reducible refine WT_seq fun K' hK' => ?_
          | with_reducible refine WT_region ?_
          | with_reducible refine WT_block ?_
          | ((with_reducible refine WT_cond fun X Y hX hY => ?_); (simp [e80, F80, e29, F29, fn1, fn2, fn3, q0, q1, q2, q3, q4, q5, hlt0, hy0, hy1, hy2, hy3, hne, hu, hu2, hw, hw2, DEntry.enc, DEntry.dec]; try (simp (disch := omega) only [i64_wrap, g20_eq]; try simp [e80, F80, e29, F29, fn1, fn2, fn3, q0, q1, q2, q3, q4, q5, hlt0, hy0, hy1, hy2, hy3, hne, hu, hu2, hw, hw2, DEntry.enc, DEntry.dec])))
          | ((with_reducible refine wrun_consN rfl fun K' hK' => ?_); (simp [e80, F80, e29, F29, fn1, fn2, fn3, q0, q1, q2, q3, q4, q5, hlt0, hy0, hy1, hy2, hy3, hne, hu, hu2, hw, hw2, DEntry.enc, DEntry.dec]; try (simp (disch := omega) only [i64_wrap, g20_eq]; try simp [e80, F80, e29, F29, fn1, fn2, fn3, q0, q1, q2, q3, q4, q5, hlt0, hy0, hy1, hy2, hy3, hne, hu, hu2, hw, hw2, DEntry.enc, DEntry.dec])))
          | ((with_reducible refine wrun_consG rfl (by with_unfolding_all exact rfl) fun K' hK' => ?_); (simp [e80, F80, e29, F29, fn1, fn2, fn3, q0, q1, q2, q3, q4, q5, hlt0, hy0, hy1, hy2, hy3, hne, hu, hu2, hw, hw2, DEntry.enc, DEntry.dec]; try (simp (disch := omega) only [i64_wrap, g20_eq]; try simp [e80, F80, e29, F29, fn1, fn2, fn3, q0, q1, q2, q3, q4, q5, hlt0, hy0, hy1, hy2, hy3, hne, hu, hu2, hw, hw2, DEntry.enc, DEntry.dec])))
          | with_reducible refine wrun_nil ?_
          | ((with_reducible refine wfront_consN (by with_unfolding_all exact rfl) rfl rfl ?_ fun K' hK' => ?_); (focus (first | exact rootless_none rfl | exact rootless_out rfl (by decide) | (refine rootless_in rfl ?_; (simp [e80, F80, e29, F29, fn1, fn2, fn3, q0, q1, q2, q3, q4, q5, hlt0, hy0, hy1, hy2, hy3, hne, hu, hu2, hw, hw2, DEntry.enc, DEntry.dec]; try (simp (disch := omega) only [i64_wrap, g20_eq]; try simp [e80, F80, e29, F29, fn1, fn2, fn3, q0, q1, q2, q3, q4, q5, hlt0, hy0, hy1, hy2, hy3, hne, hu, hu2, hw, hw2, DEntry.enc, DEntry.dec]))))); (simp [e80, F80, e29, F29, fn1, fn2, fn3, q0, q1, q2, q3, q4, q5, hlt0, hy0, hy1, hy2, hy3, hne, hu, hu2, hw, hw2, DEntry.enc, DEntry.dec]; try (simp (disch := omega) only [i64_wrap, g20_eq]; try simp [e80, F80, e29, F29, fn1, fn2, fn3, q0, q1, q2, q3, q4, q5, hlt0, hy0, hy1, hy2, hy3, hne, hu, hu2, hw, hw2, DEntry.enc, DEntry.dec])))
          | ((with_reducible refine wfront_consG (by with_unfolding_all exact rfl) rfl rfl (by with_unfolding_all exact rfl) ?_ fun K' hK' => ?_); (focus (first | exact rootless_none rfl | exact rootless_out rfl (by decide) | (refine rootless_in rfl ?_; (simp [e80, F80, e29, F29, fn1, fn2, fn3, q0, q1, q2, q3, q4, q5, hlt0, hy0, hy1, hy2, hy3, hne, hu, hu2, hw, hw2, DEntry.enc, DEntry.dec]; try (simp (disch := omega) only [i64_wrap, g20_eq]; try simp [e80, F80, e29, F29, fn1, fn2, fn3, q0, q1, q2, q3, q4, q5, hlt0, hy0, hy1, hy2, hy3, hne, hu, hu2, hw, hw2, DEntry.enc, DEntry.dec]))))); (simp [e80, F80, e29, F29, fn1, fn2, fn3, q0, q1, q2, q3, q4, q5, hlt0, hy0, hy1, hy2, hy3, hne, hu, hu2, hw, hw2, DEntry.enc, DEntry.dec]; try (simp (disch := omega) only [i64_wrap, g20_eq]; try simp [e80, F80, e29, F29, fn1, fn2, fn3, q0, q1, q2, q3, q4, q5, hlt0, hy0, hy1, hy2, hy3, hne, hu, hu2, hw, hw2, DEntry.enc, DEntry.dec])))
          | with_reducible refine wfront_tail (by with_unfolding_all exact rfl) ?_
          | with_reducible refine wfront_nil ?_
          | with_reducible refine WT_draw [21, 22, 23, 24, 25, 26, 27, 28, 29, 30, 31, 32, 33, 34, 35, 36, 37, 38, 39, 40, 41] (by with_unfolding_all decide) (by with_unfolding_all exact rfl) ?_
          | with_reducible refine then_normal ?_
          | with_reducible refine inBlock_normal ?_
          | with_reducible refine inBlock_ret ?_
          | with_reducible refine inBlock_exit ?_
          | with_reducible refine thenL_normal ?_
          | with_reducible refine thenL_ret ?_
          | with_reducible refine thenL_exit ?_
          | ((with_reducible refine then_ret ?_); clear hK')
          | ((with_reducible refine then_exit ?_); clear hK')
          | with_reducible refine inBlock_other (by decide) ?_
          | with_reducible refine WT_ret ?_
          | with_reducible refine WT_skip ?_
          | with_reducible refine WT_exit ?_
          | ((with_reducible refine hK' _ ?_); clear hK')
          | ((with_reducible refine hX ?_); clear hX hY)
          | ((with_reducible refine hY ?_); clear hX hY)
          | ((with_reducible refine And.intro (Or.inl rfl) ?_); (simp [e80, F80, e29, F29, fn1, fn2, fn3, q0, q1, q2, q3, q4, q5, hlt0, hy0, hy1, hy2, hy3, hne, hu, hu2, hw, hw2, DEntry.enc, DEntry.dec]; try (simp (disch := omega) only [i64_wrap, g20_eq]; try simp [e80, F80, e29, F29, fn1, fn2, fn3, q0, q1, q2, q3, q4, q5, hlt0, hy0, hy1, hy2, hy3, hne, hu, hu2, hw, hw2, DEntry.enc, DEntry.dec])))
          | with_reducible refine And.intro ?_ ?_
          | omega
          | intro h
        all_goals first
          | omega
          | exact ⟨x.length - (k + 1), by omega, k + 1, by omega, rfl, by simp [q0, q1, q2, q3, q4, q5, hstep, hne], by simp [q0, q1, q2, q3, q4, q5, hstep, hne], by simp [q0, q1, q2, q3, q4, q5, hstep, hne], by simp [q0, q1, q2, q3, q4, q5, hstep, hne], by simp [q0, q1, q2, q3, q4, q5, hstep, hne], by simp [q0, q1, q2, q3, q4, q5, hstep, hne]⟩
          | trace_state
      · have hat : mwAt x y k = (!beforeB u w && !beforeB w u) := by simp [mwAt, hne, hu, hw]
        rw [hat] at hstep
        by_cases h1 : beforeB u w = true <;> by_cases h2 : beforeB w u = true
        all_goals
          repeat' first
            | with_reducible refine WT_seq fun K' hK' => ?_
            | with_reducible refine WT_region ?_
            | with_reducible refine WT_block ?_
            | ((with_reducible refine WT_cond fun X Y hX hY => ?_); (simp [e80, F80, e29, F29, fn1, fn2, fn3, q0, q1, q2, q3, q4, q5, hlt0, hy0, hy1, hy2, hy3, hne, h1, h2, hu, hu2, hw, hw2, DEntry.enc, DEntry.dec]; try (simp (disch := omega) only [i64_wrap, g20_eq]; try simp [e80, F80, e29, F29, fn1, fn2, fn3, q0, q1, q2, q3, q4, q5, hlt0, hy0, hy1, hy2, hy3, hne, h1, h2, hu, hu2, hw, hw2, DEntry.enc, DEntry.dec])))
            | ((with_reducible refine wrun_consN rfl fun K' hK' => ?_); (simp [e80, F80, e29, F29, fn1, fn2, fn3, q0, q1, q2, q3, q4, q5, hlt0, hy0, hy1, hy2, hy3, hne, h1, h2, hu, hu2, hw, hw2, DEntry.enc, DEntry.dec]; try (simp (disch := omega) only [i64_wrap, g20_eq]; try simp [e80, F80, e29, F29, fn1, fn2, fn3, q0, q1, q2, q3, q4, q5, hlt0, hy0, hy1, hy2, hy3, hne, h1, h2, hu, hu2, hw, hw2, DEntry.enc, DEntry.dec])))
            | ((with_reducible refine wrun_consG rfl (by with_unfolding_all exact rfl) fun K' hK' => ?_); (simp [e80, F80, e29, F29, fn1, fn2, fn3, q0, q1, q2, q3, q4, q5, hlt0, hy0, hy1, hy2, hy3, hne, h1, h2, hu, hu2, hw, hw2, DEntry.enc, DEntry.dec]; try (simp (disch := omega) only [i64_wrap, g20_eq]; try simp [e80, F80, e29, F29, fn1, fn2, fn3, q0, q1, q2, q3, q4, q5, hlt0, hy0, hy1, hy2, hy3, hne, h1, h2, hu, hu2, hw, hw2, DEntry.enc, DEntry.dec])))
            | with_reducible refine wrun_nil ?_
            | ((with_reducible refine wfront_consN (by with_unfolding_all exact rfl) rfl rfl ?_ fun K' hK' => ?_); (focus (first | exact rootless_none rfl | exact rootless_out rfl (by decide) | (refine rootless_in rfl ?_; (simp [e80, F80, e29, F29, fn1, fn2, fn3, q0, q1, q2, q3, q4, q5, hlt0, hy0, hy1, hy2, hy3, hne, h1, h2, hu, hu2, hw, hw2, DEntry.enc, DEntry.dec]; try (simp (disch := omega) only [i64_wrap, g20_eq]; try simp [e80, F80, e29, F29, fn1, fn2, fn3, q0, q1, q2, q3, q4, q5, hlt0, hy0, hy1, hy2, hy3, hne, h1, h2, hu, hu2, hw, hw2, DEntry.enc, DEntry.dec]))))); (simp [e80, F80, e29, F29, fn1, fn2, fn3, q0, q1, q2, q3, q4, q5, hlt0, hy0, hy1, hy2, hy3, hne, h1, h2, hu, hu2, hw, hw2, DEntry.enc, DEntry.dec]; try (simp (disch := omega) only [i64_wrap, g20_eq]; try simp [e80, F80, e29, F29, fn1, fn2, fn3, q0, q1, q2, q3, q4, q5, hlt0, hy0, hy1, hy2, hy3, hne, h1, h2, hu, hu2, hw, hw2, DEntry.enc, DEntry.dec])))
            | ((with_reducible refine wfront_consG (by with_unfolding_all exact rfl) rfl rfl (by with_unfolding_all exact rfl) ?_ fun K' hK' => ?_); (focus (first | exact rootless_none rfl | exact rootless_out rfl (by decide) | (refine rootless_in rfl ?_; (simp [e80, F80, e29, F29, fn1, fn2, fn3, q0, q1, q2, q3, q4, q5, hlt0, hy0, hy1, hy2, hy3, hne, h1, h2, hu, hu2, hw, hw2, DEntry.enc, DEntry.dec]; try (simp (disch := omega) only [i64_wrap, g20_eq]; try simp [e80, F80, e29, F29, fn1, fn2, fn3, q0, q1, q2, q3, q4, q5, hlt0, hy0, hy1, hy2, hy3, hne, h1, h2, hu, hu2, hw, hw2, DEntry.enc, DEntry.dec]))))); (simp [e80, F80, e29, F29, fn1, fn2, fn3, q0, q1, q2, q3, q4, q5, hlt0, hy0, hy1, hy2, hy3, hne, h1, h2, hu, hu2, hw, hw2, DEntry.enc, DEntry.dec]; try (simp (disch := omega) only [i64_wrap, g20_eq]; try simp [e80, F80, e29, F29, fn1, fn2, fn3, q0, q1, q2, q3, q4, q5, hlt0, hy0, hy1, hy2, hy3, hne, h1, h2, hu, hu2, hw, hw2, DEntry.enc, DEntry.dec])))
            | with_reducible refine wfront_tail (by with_unfolding_all exact rfl) ?_
            | with_reducible refine wfront_nil ?_
            | with_reducible refine WT_draw [21, 22, 23, 24, 25, 26, 27, 28, 29, 30, 31, 32, 33, 34, 35, 36, 37, 38, 39, 40, 41] (by with_unfolding_all decide) (by with_unfolding_all exact rfl) ?_
            | with_reducible refine then_normal ?_
            | with_reducible refine inBlock_normal ?_
            | with_reducible refine inBlock_ret ?_
            | with_reducible refine inBlock_exit ?_
            | with_reducible refine thenL_normal ?_
            | with_reducible refine thenL_ret ?_
            | with_reducible refine thenL_exit ?_
            | ((with_reducible refine then_ret ?_); clear hK')
            | ((with_reducible refine then_exit ?_); clear hK')
            | with_reducible refine inBlock_other (by decide) ?_
            | with_reducible refine WT_ret ?_
            | with_reducible refine WT_skip ?_
            | with_reducible refine WT_exit ?_
            | ((with_reducible refine hK' _ ?_); clear hK')
            | ((with_reducible refine hX ?_); clear hX hY)
            | ((with_reducible refine hY ?_); clear hX hY)
            | ((with_reducible refine And.intro (Or.inl rfl) ?_); (simp [e80, F80, e29, F29, fn1, fn2, fn3, q0, q1, q2, q3, q4, q5, hlt0, hy0, hy1, hy2, hy3, hne, h1, h2, hu, hu2, hw, hw2, DEntry.enc, DEntry.dec]; try (simp (disch := omega) only [i64_wrap, g20_eq]; try simp [e80, F80, e29, F29, fn1, fn2, fn3, q0, q1, q2, q3, q4, q5, hlt0, hy0, hy1, hy2, hy3, hne, h1, h2, hu, hu2, hw, hw2, DEntry.enc, DEntry.dec])))
            | with_reducible refine And.intro ?_ ?_
            | omega
            | intro h
        all_goals first
          | omega
          | exact ⟨x.length - (k + 1), by omega, k + 1, by omega, rfl, by simp [q0, q1, q2, q3, q4, q5, hstep, h1, h2], by simp [q0, q1, q2, q3, q4, q5, hstep, h1, h2], by simp [q0, q1, q2, q3, q4, q5, hstep, h1, h2], by simp [q0, q1, q2, q3, q4, q5, hstep, h1, h2], by simp [q0, q1, q2, q3, q4, q5, hstep, h1, h2], by simp [q0, q1, q2, q3, q4, q5, hstep, h1, h2]⟩
          | trace_state
    · have hk' : k = x.length := by omega
      subst hk'
      repeat' first
        | with_reducible refine WT_seq fun K' hK' => ?_
        | with_reducible refine WT_region ?_
        | with_reducible refine WT_block ?_
        | ((with_reducible refine WT_cond fun X Y hX hY => ?_); (simp [e80, F80, e29, F29, fn1, fn2, fn3, q0, q1, q2, q3, q4, q5]; try (simp (disch := omega) only [i64_wrap, g20_eq]; try simp [e80, F80, e29, F29, fn1, fn2, fn3, q0, q1, q2, q3, q4, q5])))
        | ((with_reducible refine wrun_consN rfl fun K' hK' => ?_); (simp [e80, F80, e29, F29, fn1, fn2, fn3, q0, q1, q2, q3, q4, q5]; try (simp (disch := omega) only [i64_wrap, g20_eq]; try simp [e80, F80, e29, F29, fn1, fn2, fn3, q0, q1, q2, q3, q4, q5])))
        | ((with_reducible refine wrun_consG rfl (by with_unfolding_all exact rfl) fun K' hK' => ?_); (simp [e80, F80, e29, F29, fn1, fn2, fn3, q0, q1, q2, q3, q4, q5]; try (simp (disch := omega) only [i64_wrap, g20_eq]; try simp [e80, F80, e29, F29, fn1, fn2, fn3, q0, q1, q2, q3, q4, q5])))
        | with_reducible refine wrun_nil ?_
        | ((with_reducible refine wfront_consN (by with_unfolding_all exact rfl) rfl rfl ?_ fun K' hK' => ?_); (focus (first | exact rootless_none rfl | exact rootless_out rfl (by decide) | (refine rootless_in rfl ?_; (simp [e80, F80, e29, F29, fn1, fn2, fn3, q0, q1, q2, q3, q4, q5]; try (simp (disch := omega) only [i64_wrap, g20_eq]; try simp [e80, F80, e29, F29, fn1, fn2, fn3, q0, q1, q2, q3, q4, q5]))))); (simp [e80, F80, e29, F29, fn1, fn2, fn3, q0, q1, q2, q3, q4, q5]; try (simp (disch := omega) only [i64_wrap, g20_eq]; try simp [e80, F80, e29, F29, fn1, fn2, fn3, q0, q1, q2, q3, q4, q5])))
        | ((with_reducible refine wfront_consG (by with_unfolding_all exact rfl) rfl rfl (by with_unfolding_all exact rfl) ?_ fun K' hK' => ?_); (focus (first | exact rootless_none rfl | exact rootless_out rfl (by decide) | (refine rootless_in rfl ?_; (simp [e80, F80, e29, F29, fn1, fn2, fn3, q0, q1, q2, q3, q4, q5]; try (simp (disch := omega) only [i64_wrap, g20_eq]; try simp [e80, F80, e29, F29, fn1, fn2, fn3, q0, q1, q2, q3, q4, q5]))))); (simp [e80, F80, e29, F29, fn1, fn2, fn3, q0, q1, q2, q3, q4, q5]; try (simp (disch := omega) only [i64_wrap, g20_eq]; try simp [e80, F80, e29, F29, fn1, fn2, fn3, q0, q1, q2, q3, q4, q5])))
        | with_reducible refine wfront_tail (by with_unfolding_all exact rfl) ?_
        | with_reducible refine wfront_nil ?_
        | with_reducible refine WT_draw [21, 22, 23, 24, 25, 26, 27, 28, 29, 30, 31, 32, 33, 34, 35, 36, 37, 38, 39, 40, 41] (by with_unfolding_all decide) (by with_unfolding_all exact rfl) ?_
        | with_reducible refine then_normal ?_
        | with_reducible refine inBlock_normal ?_
        | with_reducible refine inBlock_ret ?_
        | with_reducible refine inBlock_exit ?_
        | with_reducible refine thenL_normal ?_
        | with_reducible refine thenL_ret ?_
        | with_reducible refine thenL_exit ?_
        | ((with_reducible refine then_ret ?_); clear hK')
        | ((with_reducible refine then_exit ?_); clear hK')
        | with_reducible refine inBlock_other (by decide) ?_
        | with_reducible refine WT_ret ?_
        | with_reducible refine WT_skip ?_
        | with_reducible refine WT_exit ?_
        | ((with_reducible refine hK' _ ?_); clear hK')
        | ((with_reducible refine hX ?_); clear hX hY)
        | ((with_reducible refine hY ?_); clear hX hY)
        | ((with_reducible refine And.intro (Or.inl rfl) ?_); (simp [e80, F80, e29, F29, fn1, fn2, fn3, q0, q1, q2, q3, q4, q5]; try (simp (disch := omega) only [i64_wrap, g20_eq]; try simp [e80, F80, e29, F29, fn1, fn2, fn3, q0, q1, q2, q3, q4, q5])))
        | with_reducible refine And.intro ?_ ?_
        | omega
        | intro h
      all_goals first | omega | (simp [hmw]; done) | trace_state
  · have hmw : mw x y = 0 := by simp [mw, hin]
    have hin2 : (decide (0 ≤ y) && decide (y ≤ (x.length : Int) - 1)) = false := by simpa using hin
    by_cases hy0 : 0 ≤ y
    · have hy1 : ¬ y ≤ (x.length : Int) - 1 := fun h => hin ⟨hy0, h⟩
      repeat' first
        | with_reducible refine WT_seq fun K' hK' => ?_
        | with_reducible refine WT_region ?_
        | with_reducible refine WT_block ?_
        | ((with_reducible refine WT_cond fun X Y hX hY => ?_); (simp [e80, F80, e29, F29, fn1, fn2, fn3, hy0, hy1, hmw]; try (simp (disch := omega) only [i64_wrap, g20_eq]; try simp [e80, F80, e29, F29, fn1, fn2, fn3, hy0, hy1, hmw])))
        | ((with_reducible refine wrun_consN rfl fun K' hK' => ?_); (simp [e80, F80, e29, F29, fn1, fn2, fn3, hy0, hy1, hmw]; try (simp (disch := omega) only [i64_wrap, g20_eq]; try simp [e80, F80, e29, F29, fn1, fn2, fn3, hy0, hy1, hmw])))
        | ((with_reducible refine wrun_consG rfl (by with_unfolding_all exact rfl) fun K' hK' => ?_); (simp [e80, F80, e29, F29, fn1, fn2, fn3, hy0, hy1, hmw]; try (simp (disch := omega) only [i64_wrap, g20_eq]; try simp [e80, F80, e29, F29, fn1, fn2, fn3, hy0, hy1, hmw])))
        | with_reducible refine wrun_nil ?_
        | ((with_reducible refine wfront_consN (by with_unfolding_all exact rfl) rfl rfl ?_ fun K' hK' => ?_); (focus (first | exact rootless_none rfl | exact rootless_out rfl (by decide) | (refine rootless_in rfl ?_; (simp [e80, F80, e29, F29, fn1, fn2, fn3, hy0, hy1, hmw]; try (simp (disch := omega) only [i64_wrap, g20_eq]; try simp [e80, F80, e29, F29, fn1, fn2, fn3, hy0, hy1, hmw]))))); (simp [e80, F80, e29, F29, fn1, fn2, fn3, hy0, hy1, hmw]; try (simp (disch := omega) only [i64_wrap, g20_eq]; try simp [e80, F80, e29, F29, fn1, fn2, fn3, hy0, hy1, hmw])))
        | ((with_reducible refine wfront_consG (by with_unfolding_all exact rfl) rfl rfl (by with_unfolding_all exact rfl) ?_ fun K' hK' => ?_); (focus (first | exact rootless_none rfl | exact rootless_out rfl (by decide) | (refine rootless_in rfl ?_; (simp [e80, F80, e29, F29, fn1, fn2, fn3, hy0, hy1, hmw]; try (simp (disch := omega) only [i64_wrap, g20_eq]; try simp [e80, F80, e29, F29, fn1, fn2, fn3, hy0, hy1, hmw]))))); (simp [e80, F80, e29, F29, fn1, fn2, fn3, hy0, hy1, hmw]; try (simp (disch := omega) only [i64_wrap, g20_eq]; try simp [e80, F80, e29, F29, fn1, fn2, fn3, hy0, hy1, hmw])))
        | with_reducible refine wfront_tail (by with_unfolding_all exact rfl) ?_
        | with_reducible refine wfront_nil ?_
        | with_reducible refine WT_draw [21, 22, 23, 24, 25, 26, 27, 28, 29, 30, 31, 32, 33, 34, 35, 36, 37, 38, 39, 40, 41] (by with_unfolding_all decide) (by with_unfolding_all exact rfl) ?_
        | with_reducible refine then_normal ?_
        | with_reducible refine inBlock_normal ?_
        | with_reducible refine inBlock_ret ?_
        | with_reducible refine inBlock_exit ?_
        | with_reducible refine thenL_normal ?_
        | with_reducible refine thenL_ret ?_
        | with_reducible refine thenL_exit ?_
        | ((with_reducible refine then_ret ?_); clear hK')
        | ((with_reducible refine then_exit ?_); clear hK')
        | with_reducible refine inBlock_other (by decide) ?_
        | with_reducible refine WT_ret ?_
        | with_reducible refine WT_skip ?_
        | with_reducible refine WT_exit ?_
        | ((with_reducible refine hK' _ ?_); clear hK')
        | ((with_reducible refine hX ?_); clear hX hY)
        | ((with_reducible refine hY ?_); clear hX hY)
        | ((with_reducible refine And.intro (Or.inl rfl) ?_); (simp [e80, F80, e29, F29, fn1, fn2, fn3, hy0, hy1, hmw]; try (simp (disch := omega) only [i64_wrap, g20_eq]; try simp [e80, F80, e29, F29, fn1, fn2, fn3, hy0, hy1, hmw])))
        | with_reducible refine And.intro ?_ ?_
        | omega
        | intro h
      all_goals first | omega | (simp [hmw]; done) | (simp_all; done) | trace_state
    ·
      repeat' first
        | with_reducible refine WT_seq fun K' hK' => ?_
        | with_reducible refine WT_region ?_
        | with_reducible refine WT_block ?_
        | ((with_reducible refine WT_cond fun X Y hX hY => ?_); (simp [e80, F80, e29, F29, fn1, fn2, fn3, hy0, hmw]; try (simp (disch := omega) only [i64_wrap, g20_eq]; try simp [e80, F80, e29, F29, fn1, fn2, fn3, hy0, hmw])))
        | ((with_reducible refine wrun_consN rfl fun K' hK' => ?_); (simp [e80, F80, e29, F29, fn1, fn2, fn3, hy0, hmw]; try (simp (disch := omega) only [i64_wrap, g20_eq]; try simp [e80, F80, e29, F29, fn1, fn2, fn3, hy0, hmw])))
        | ((with_reducible refine wrun_consG rfl (by with_unfolding_all exact rfl) fun K' hK' => ?_); (simp [e80, F80, e29, F29, fn1, fn2, fn3, hy0, hmw]; try (simp (disch := omega) only [i64_wrap, g20_eq]; try simp [e80, F80, e29, F29, fn1, fn2, fn3, hy0, hmw])))
        | with_reducible refine wrun_nil ?_
        | ((with_reducible refine wfront_consN (by with_unfolding_all exact rfl) rfl rfl ?_ fun K' hK' => ?_); (focus (first | exact rootless_none rfl | exact rootless_out rfl (by decide) | (refine rootless_in rfl ?_; (simp [e80, F80, e29, F29, fn1, fn2, fn3, hy0, hmw]; try (simp (disch := omega) only [i64_wrap, g20_eq]; try simp [e80, F80, e29, F29, fn1, fn2, fn3, hy0, hmw]))))); (simp [e80, F80, e29, F29, fn1, fn2, fn3, hy0, hmw]; try (simp (disch := omega) only [i64_wrap, g20_eq]; try simp [e80, F80, e29, F29, fn1, fn2, fn3, hy0, hmw])))
        | ((with_reducible refine wfront_consG (by with_unfolding_all exact rfl) rfl rfl (by with_unfolding_all exact rfl) ?_ fun K' hK' => ?_); (focus (first | exact rootless_none rfl | exact rootless_out rfl (by decide) | (refine rootless_in rfl ?_; (simp [e80, F80, e29, F29, fn1, fn2, fn3, hy0, hmw]; try (simp (disch := omega) only [i64_wrap, g20_eq]; try simp [e80, F80, e29, F29, fn1, fn2, fn3, hy0, hmw]))))); (simp [e80, F80, e29, F29, fn1, fn2, fn3, hy0, hmw]; try (simp (disch := omega) only [i64_wrap, g20_eq]; try simp [e80, F80, e29, F29, fn1, fn2, fn3, hy0, hmw])))
        | with_reducible refine wfront_tail (by with_unfolding_all exact rfl) ?_
        | with_reducible refine wfront_nil ?_
        | with_reducible refine WT_draw [21, 22, 23, 24, 25, 26, 27, 28, 29, 30, 31, 32, 33, 34, 35, 36, 37, 38, 39, 40, 41] (by with_unfolding_all decide) (by with_unfolding_all exact rfl) ?_
        | with_reducible refine then_normal ?_
        | with_reducible refine inBlock_normal ?_
        | with_reducible refine inBlock_ret ?_
        | with_reducible refine inBlock_exit ?_
        | with_reducible refine thenL_normal ?_
        | with_reducible refine thenL_ret ?_
        | with_reducible refine thenL_exit ?_
        | ((with_reducible refine then_ret ?_); clear hK')
        | ((with_reducible refine then_exit ?_); clear hK')
        | with_reducible refine inBlock_other (by decide) ?_
        | with_reducible refine WT_ret ?_
        | with_reducible refine WT_skip ?_
        | with_reducible refine WT_exit ?_
        | ((with_reducible refine hK' _ ?_); clear hK')
        | ((with_reducible refine hX ?_); clear hX hY)
        | ((with_reducible refine hY ?_); clear hX hY)
        | ((with_reducible refine And.intro (Or.inl rfl) ?_); (simp [e80, F80, e29, F29, fn1, fn2, fn3, hy0, hmw]; try (simp (disch := omega) only [i64_wrap, g20_eq]; try simp [e80, F80, e29, F29, fn1, fn2, fn3, hy0, hmw])))
        | with_reducible refine And.intro ?_ ?_
        | omega
        | intro h
      all_goals first | omega | (simp [hmw]; done) | (simp_all; done) | trace_state
set_option maxHeartbeats 4000000 in
theorem con116 {Γ : Mv.Env} (hg : Mv.Good Try.prog Γ) : Contract Try.prog 116 F116 := by
  refine contract_fn hg (wdraw_ok hg mixed) Try.func116 rfl (by decide) (by decide) rfl (by decide) ?_
  intro us p hs
  obtain ⟨x, y, rfl, hr⟩ := fn2_inv hs
  clear hs
  cases hr
  refine ⟨rfl, ?_⟩
  dsimp only [Try.f116]
  simp only [cCall, cT, DCall.enc]
  repeat' first
    | with_reducible refine WT_seq fun K' hK' => ?_
    | with_reducible refine WT_region ?_
    | with_reducible refine WT_block ?_
    | ((with_reducible refine WT_cond fun X Y hX hY => ?_); simp [])
    | ((with_reducible refine wrun_consN rfl fun K' hK' => ?_); simp [])
    | ((with_reducible refine wrun_consG rfl (by with_unfolding_all exact rfl) fun K' hK' => ?_); simp [])
    | with_reducible refine wrun_nil ?_
    | with_reducible refine then_normal ?_
    | with_reducible refine inBlock_normal ?_
    | with_reducible refine inBlock_ret ?_
    | with_reducible refine inBlock_exit ?_
    | with_reducible refine thenL_normal ?_
    | with_reducible refine thenL_ret ?_
    | with_reducible refine thenL_exit ?_
    | ((with_reducible refine then_ret ?_); clear hK')
    | ((with_reducible refine then_exit ?_); clear hK')
    | with_reducible refine inBlock_other (by decide) ?_
    | with_reducible refine WT_ret ?_
    | with_reducible refine WT_skip ?_
    | with_reducible refine WT_exit ?_
    | ((with_reducible refine hK' _ ?_); clear hK')
    | ((with_reducible refine hX ?_); clear hX hY)
    | ((with_reducible refine hY ?_); clear hX hY)
    | ((with_reducible refine And.intro (Or.inl rfl) ?_); simp [])
    | with_reducible refine And.intro ?_ ?_
    | intro h
  all_goals (clear hg; simp [DCall.beq, *]; done)
set_option maxHeartbeats 4000000 in
theorem con86 {Γ : Mv.Env} (hg : Mv.Good Try.prog Γ) (e116 : Γ 116 = some F116) : Contract Try.prog 86 F86 := by
  refine contract_fn hg (wdraw_ok hg mixed) Try.func86 rfl (by decide) (by decide) rfl (by decide) ?_
  intro us p hs
  obtain ⟨x, y, rfl, hr⟩ := fn2_inv hs
  clear hs
  cases hr
  refine ⟨rfl, ?_⟩
  dsimp only [Try.f86]
  simp only [cStep, cT, DStep.enc]
  repeat' first
    | with_reducible refine WT_seq fun K' hK' => ?_
    | with_reducible refine WT_region ?_
    | with_reducible refine WT_block ?_
    | ((with_reducible refine WT_cond fun X Y hX hY => ?_); simp [e116, F116, fn1, fn2, fn3, DCall.dec])
    | ((with_reducible refine wrun_consN rfl fun K' hK' => ?_); simp [e116, F116, fn1, fn2, fn3, DCall.dec])
    | ((with_reducible refine wrun_consG rfl (by with_unfolding_all exact rfl) fun K' hK' => ?_); simp [e116, F116, fn1, fn2, fn3, DCall.dec])
    | with_reducible refine wrun_nil ?_
    | with_reducible refine then_normal ?_
    | with_reducible refine inBlock_normal ?_
    | with_reducible refine inBlock_ret ?_
    | with_reducible refine inBlock_exit ?_
    | with_reducible refine thenL_normal ?_
    | with_reducible refine thenL_ret ?_
    | with_reducible refine thenL_exit ?_
    | ((with_reducible refine then_ret ?_); clear hK')
    | ((with_reducible refine then_exit ?_); clear hK')
    | with_reducible refine inBlock_other (by decide) ?_
    | with_reducible refine WT_ret ?_
    | with_reducible refine WT_skip ?_
    | with_reducible refine WT_exit ?_
    | ((with_reducible refine hK' _ ?_); clear hK')
    | ((with_reducible refine hX ?_); clear hX hY)
    | ((with_reducible refine hY ?_); clear hX hY)
    | ((with_reducible refine And.intro (Or.inl rfl) ?_); simp [e116, F116, fn1, fn2, fn3, DCall.dec])
    | with_reducible refine And.intro ?_ ?_
    | intro h
  all_goals (clear hg; simp [DStep.beq, *]; done)
set_option maxHeartbeats 4000000 in
theorem con52 {Γ : Mv.Env} (hg : Mv.Good Try.prog Γ) (e86 : Γ 86 = some F86) : Contract Try.prog 52 F52 := by
  refine contract_fn hg (wdraw_ok hg mixed) Try.func52 rfl (by decide) (by decide) rfl (by decide) ?_
  intro us p hs
  obtain ⟨x, y, rfl, hr⟩ := fn2_inv hs
  clear hs
  cases hr
  refine ⟨rfl, ?_⟩
  dsimp only [Try.f52]
  simp only [lStep, cL]
  repeat' first
    | with_reducible refine WT_seq fun K' hK' => ?_
    | with_reducible refine WT_region ?_
    | with_reducible refine WT_block ?_
    | ((with_reducible refine WT_cond fun X Y hX hY => ?_); (simp [e86, F86, fn1, fn2, fn3, DStep.dec, DCall.dec]; try (simp (disch := omega) only [i64_wrap, g20_eq]; try simp [e86, F86, fn1, fn2, fn3, DStep.dec, DCall.dec])))
    | ((with_reducible refine wrun_consN rfl fun K' hK' => ?_); (simp [e86, F86, fn1, fn2, fn3, DStep.dec, DCall.dec]; try (simp (disch := omega) only [i64_wrap, g20_eq]; try simp [e86, F86, fn1, fn2, fn3, DStep.dec, DCall.dec])))
    | ((with_reducible refine wrun_consG rfl (by with_unfolding_all exact rfl) fun K' hK' => ?_); (simp [e86, F86, fn1, fn2, fn3, DStep.dec, DCall.dec]; try (simp (disch := omega) only [i64_wrap, g20_eq]; try simp [e86, F86, fn1, fn2, fn3, DStep.dec, DCall.dec])))
    | with_reducible refine wrun_nil ?_
    | ((with_reducible refine wfront_consN (by with_unfolding_all exact rfl) rfl rfl ?_ fun K' hK' => ?_); (focus (first | exact rootless_none rfl | exact rootless_out rfl (by decide) | (refine rootless_in rfl ?_; (simp [e86, F86, fn1, fn2, fn3, DStep.dec, DCall.dec]; try (simp (disch := omega) only [i64_wrap, g20_eq]; try simp [e86, F86, fn1, fn2, fn3, DStep.dec, DCall.dec]))))); (simp [e86, F86, fn1, fn2, fn3, DStep.dec, DCall.dec]; try (simp (disch := omega) only [i64_wrap, g20_eq]; try simp [e86, F86, fn1, fn2, fn3, DStep.dec, DCall.dec])))
    | ((with_reducible refine wfront_consG (by with_unfolding_all exact rfl) rfl rfl (by with_unfolding_all exact rfl) ?_ fun K' hK' => ?_); (focus (first | exact rootless_none rfl | exact rootless_out rfl (by decide) | (refine rootless_in rfl ?_; (simp [e86, F86, fn1, fn2, fn3, DStep.dec, DCall.dec]; try (simp (disch := omega) only [i64_wrap, g20_eq]; try simp [e86, F86, fn1, fn2, fn3, DStep.dec, DCall.dec]))))); (simp [e86, F86, fn1, fn2, fn3, DStep.dec, DCall.dec]; try (simp (disch := omega) only [i64_wrap, g20_eq]; try simp [e86, F86, fn1, fn2, fn3, DStep.dec, DCall.dec])))
    | with_reducible refine wfront_tail (by with_unfolding_all exact rfl) ?_
    | with_reducible refine wfront_nil ?_
    | with_reducible refine WT_draw [17, 18, 19, 20, 21, 22, 23, 24, 25, 26] (by with_unfolding_all decide) (by with_unfolding_all exact rfl) ?_
    | with_reducible refine then_normal ?_
    | with_reducible refine inBlock_normal ?_
    | with_reducible refine inBlock_ret ?_
    | with_reducible refine inBlock_exit ?_
    | with_reducible refine thenL_normal ?_
    | with_reducible refine thenL_ret ?_
    | with_reducible refine thenL_exit ?_
    | ((with_reducible refine then_ret ?_); clear hK')
    | ((with_reducible refine then_exit ?_); clear hK')
    | with_reducible refine inBlock_other (by decide) ?_
    | with_reducible refine WT_ret ?_
    | with_reducible refine WT_skip ?_
    | with_reducible refine WT_exit ?_
    | ((with_reducible refine hK' _ ?_); clear hK')
    | ((with_reducible refine hX ?_); clear hX hY)
    | ((with_reducible refine hY ?_); clear hX hY)
    | ((with_reducible refine And.intro (Or.inl rfl) ?_); (simp [e86, F86, fn1, fn2, fn3, DStep.dec, DCall.dec]; try (simp (disch := omega) only [i64_wrap, g20_eq]; try simp [e86, F86, fn1, fn2, fn3, DStep.dec, DCall.dec])))
    | with_reducible refine And.intro ?_ ?_
    | intro h
  · rw [beqL_len DStep.beq (by omega)]
  · rename_i hln _ _ _
    refine WT_loopL (fun m σ => ∃ k, k ≤ x.length ∧ m = x.length - k ∧ σ.slot 0 = .tr none (.sl false 7 (x.map (DStep.enc false))) ∧ σ.slot 1 = .tr none (.sl false 7 (y.map (DStep.enc false))) ∧ σ.slot 5 = .tr none (.sc (.int .i64 k)) ∧
      beqL DStep.beq x y = beqL DStep.beq (x.drop k) (y.drop k)) ⟨_, 0, by omega, rfl, by simp, by simp, by simp, by simp⟩ ?_
    rintro m σ ⟨k, hk, rfl, s0, s1, s5, hb⟩
    repeat' first
      | with_reducible refine WT_seq fun K' hK' => ?_
      | with_reducible refine WT_region ?_
      | with_reducible refine WT_block ?_
      | ((with_reducible refine WT_cond fun X Y hX hY => ?_); (first | (simp [e86, F86, fn1, fn2, fn3, DStep.dec, DCall.dec, s0, s1, s5, DStep.enc, DCall.beq, hx, hy]; try (simp (disch := omega) only [i64_wrap, g20_eq]; try simp [e86, F86, fn1, fn2, fn3, DStep.dec, DCall.dec, s0, s1, s5, DStep.enc, DCall.beq, hx, hy])) | (simp [e86, F86, fn1, fn2, fn3, DStep.dec, DCall.dec, s0, s1, s5, DStep.enc, DCall.beq]; try (simp (disch := omega) only [i64_wrap, g20_eq]; try simp [e86, F86, fn1, fn2, fn3, DStep.dec, DCall.dec, s0, s1, s5, DStep.enc, DCall.beq]))))
      | ((with_reducible refine wrun_consN rfl fun K' hK' => ?_); (first | (simp [e86, F86, fn1, fn2, fn3, DStep.dec, DCall.dec, s0, s1, s5, DStep.enc, DCall.beq, hx, hy]; try (simp (disch := omega) only [i64_wrap, g20_eq]; try simp [e86, F86, fn1, fn2, fn3, DStep.dec, DCall.dec, s0, s1, s5, DStep.enc, DCall.beq, hx, hy])) | (simp [e86, F86, fn1, fn2, fn3, DStep.dec, DCall.dec, s0, s1, s5, DStep.enc, DCall.beq]; try (simp (disch := omega) only [i64_wrap, g20_eq]; try simp [e86, F86, fn1, fn2, fn3, DStep.dec, DCall.dec, s0, s1, s5, DStep.enc, DCall.beq]))))
      | ((with_reducible refine wrun_consG rfl (by with_unfolding_all exact rfl) fun K' hK' => ?_); (first | (simp [e86, F86, fn1, fn2, fn3, DStep.dec, DCall.dec, s0, s1, s5, DStep.enc, DCall.beq, hx, hy]; try (simp (disch := omega) only [i64_wrap, g20_eq]; try simp [e86, F86, fn1, fn2, fn3, DStep.dec, DCall.dec, s0, s1, s5, DStep.enc, DCall.beq, hx, hy])) | (simp [e86, F86, fn1, fn2, fn3, DStep.dec, DCall.dec, s0, s1, s5, DStep.enc, DCall.beq]; try (simp (disch := omega) only [i64_wrap, g20_eq]; try simp [e86, F86, fn1, fn2, fn3, DStep.dec, DCall.dec, s0, s1, s5, DStep.enc, DCall.beq]))))
      | with_reducible refine wrun_nil ?_
      | ((with_reducible refine wfront_consN (by with_unfolding_all exact rfl) rfl rfl ?_ fun K' hK' => ?_); (focus (first | exact rootless_none rfl | exact rootless_out rfl (by decide) | (refine rootless_in rfl ?_; (first | (simp [e86, F86, fn1, fn2, fn3, DStep.dec, DCall.dec, s0, s1, s5, DStep.enc, DCall.beq, hx, hy]; try (simp (disch := omega) only [i64_wrap, g20_eq]; try simp [e86, F86, fn1, fn2, fn3, DStep.dec, DCall.dec, s0, s1, s5, DStep.enc, DCall.beq, hx, hy])) | (simp [e86, F86, fn1, fn2, fn3, DStep.dec, DCall.dec, s0, s1, s5, DStep.enc, DCall.beq]; try (simp (disch := omega) only [i64_wrap, g20_eq]; try simp [e86, F86, fn1, fn2, fn3, DStep.dec, DCall.dec, s0, s1, s5, DStep.enc, DCall.beq])))))); (first | (simp [e86, F86, fn1, fn2, fn3, DStep.dec, DCall.dec, s0, s1, s5, DStep.enc, DCall.beq, hx, hy]; try (simp (disch := omega) only [i64_wrap, g20_eq]; try simp [e86, F86, fn1, fn2, fn3, DStep.dec, DCall.dec, s0, s1, s5, DStep.enc, DCall.beq, hx, hy])) | (simp [e86, F86, fn1, fn2, fn3, DStep.dec, DCall.dec, s0, s1, s5, DStep.enc, DCall.beq]; try (simp (disch := omega) only [i64_wrap, g20_eq]; try simp [e86, F86, fn1, fn2, fn3, DStep.dec, DCall.dec, s0, s1, s5, DStep.enc, DCall.beq]))))
      | ((with_reducible refine wfront_consG (by with_unfolding_all exact rfl) rfl rfl (by with_unfolding_all exact rfl) ?_ fun K' hK' => ?_); (focus (first | exact rootless_none rfl | exact rootless_out rfl (by decide) | (refine rootless_in rfl ?_; (first | (simp [e86, F86, fn1, fn2, fn3, DStep.dec, DCall.dec, s0, s1, s5, DStep.enc, DCall.beq, hx, hy]; try (simp (disch := omega) only [i64_wrap, g20_eq]; try simp [e86, F86, fn1, fn2, fn3, DStep.dec, DCall.dec, s0, s1, s5, DStep.enc, DCall.beq, hx, hy])) | (simp [e86, F86, fn1, fn2, fn3, DStep.dec, DCall.dec, s0, s1, s5, DStep.enc, DCall.beq]; try (simp (disch := omega) only [i64_wrap, g20_eq]; try simp [e86, F86, fn1, fn2, fn3, DStep.dec, DCall.dec, s0, s1, s5, DStep.enc, DCall.beq])))))); (first | (simp [e86, F86, fn1, fn2, fn3, DStep.dec, DCall.dec, s0, s1, s5, DStep.enc, DCall.beq, hx, hy]; try (simp (disch := omega) only [i64_wrap, g20_eq]; try simp [e86, F86, fn1, fn2, fn3, DStep.dec, DCall.dec, s0, s1, s5, DStep.enc, DCall.beq, hx, hy])) | (simp [e86, F86, fn1, fn2, fn3, DStep.dec, DCall.dec, s0, s1, s5, DStep.enc, DCall.beq]; try (simp (disch := omega) only [i64_wrap, g20_eq]; try simp [e86, F86, fn1, fn2, fn3, DStep.dec, DCall.dec, s0, s1, s5, DStep.enc, DCall.beq]))))
      | with_reducible refine wfront_tail (by with_unfolding_all exact rfl) ?_
      | with_reducible refine wfront_nil ?_
      | with_reducible refine WT_draw [17, 18, 19, 20, 21, 22, 23, 24, 25, 26] (by with_unfolding_all decide) (by with_unfolding_all exact rfl) ?_
      | with_reducible refine then_normal ?_
      | with_reducible refine inBlock_normal ?_
      | with_reducible refine inBlock_ret ?_
      | with_reducible refine inBlock_exit ?_
      | with_reducible refine thenL_normal ?_
      | with_reducible refine thenL_ret ?_
      | with_reducible refine thenL_exit ?_
      | ((with_reducible refine then_ret ?_); clear hK')
      | ((with_reducible refine then_exit ?_); clear hK')
      | with_reducible refine inBlock_other (by decide) ?_
      | with_reducible refine WT_ret ?_
      | with_reducible refine WT_skip ?_
      | with_reducible refine WT_exit ?_
      | ((with_reducible refine hK' _ ?_); clear hK')
      | ((with_reducible refine hX ?_); clear hX hY)
      | ((with_reducible refine hY ?_); clear hX hY)
      | ((with_reducible refine And.intro (Or.inl rfl) ?_); (first | (simp [e86, F86, fn1, fn2, fn3, DStep.dec, DCall.dec, s0, s1, s5, DStep.enc, DCall.beq, hx, hy]; try (simp (disch := omega) only [i64_wrap, g20_eq]; try simp [e86, F86, fn1, fn2, fn3, DStep.dec, DCall.dec, s0, s1, s5, DStep.enc, DCall.beq, hx, hy])) | (simp [e86, F86, fn1, fn2, fn3, DStep.dec, DCall.dec, s0, s1, s5, DStep.enc, DCall.beq]; try (simp (disch := omega) only [i64_wrap, g20_eq]; try simp [e86, F86, fn1, fn2, fn3, DStep.dec, DCall.dec, s0, s1, s5, DStep.enc, DCall.beq]))))
      | with_reducible refine And.intro ?_ ?_
      | omega
      | (intro hlt; obtain ⟨u, hx⟩ := get_some hlt; obtain ⟨v, hy⟩ := get_some (l := y) (k := k) (by omega); have hst := beqL_step DStep.beq hx hy)
      | intro h
    · rw [hb, hst]; simp [h, beqI, beqS]
    · refine ⟨x.length - (k + 1), by omega, k + 1, by omega, rfl, by simp [s0], by simp [s1], by simp, ?_⟩
      rw [hb, hst]; simp [h, beqI, beqS]
    · rw [hb]; first | exact beqL_end _ (by omega) (by omega) | exact (beqL_end _ (by omega) (by omega)).symm
set_option maxHeartbeats 4000000 in
theorem con84 {Γ : Mv.Env} (hg : Mv.Good Try.prog Γ) : Contract Try.prog 84 F84 := by
  refine contract_fn hg (wdraw_ok hg mixed) Try.func84 rfl (by decide) (by decide) rfl (by decide) ?_
  intro us p hs
  obtain ⟨x, y, rfl, hr⟩ := fn2_inv hs
  clear hs
  cases hr
  refine ⟨rfl, ?_⟩
  dsimp only [Try.f84]
  simp only [cAnswer, cT, DAnswer.enc]
  repeat' first
    | with_reducible refine WT_seq fun K' hK' => ?_
    | with_reducible refine WT_region ?_
    | with_reducible refine WT_block ?_
    | ((with_reducible refine WT_cond fun X Y hX hY => ?_); simp [])
    | ((with_reducible refine wrun_consN rfl fun K' hK' => ?_); simp [])
    | ((with_reducible refine wrun_consG rfl (by with_unfolding_all exact rfl) fun K' hK' => ?_); simp [])
    | with_reducible refine wrun_nil ?_
    | with_reducible refine then_normal ?_
    | with_reducible refine inBlock_normal ?_
    | with_reducible refine inBlock_ret ?_
    | with_reducible refine inBlock_exit ?_
    | with_reducible refine thenL_normal ?_
    | with_reducible refine thenL_ret ?_
    | with_reducible refine thenL_exit ?_
    | ((with_reducible refine then_ret ?_); clear hK')
    | ((with_reducible refine then_exit ?_); clear hK')
    | with_reducible refine inBlock_other (by decide) ?_
    | with_reducible refine WT_ret ?_
    | with_reducible refine WT_skip ?_
    | with_reducible refine WT_exit ?_
    | ((with_reducible refine hK' _ ?_); clear hK')
    | ((with_reducible refine hX ?_); clear hX hY)
    | ((with_reducible refine hY ?_); clear hX hY)
    | ((with_reducible refine And.intro (Or.inl rfl) ?_); simp [])
    | with_reducible refine And.intro ?_ ?_
    | intro h
  all_goals (clear hg; simp [DAnswer.beq, *]; done)
set_option maxHeartbeats 4000000 in
theorem con46 {Γ : Mv.Env} (hg : Mv.Good Try.prog Γ) (e84 : Γ 84 = some F84) : Contract Try.prog 46 F46 := by
  refine contract_fn hg (wdraw_ok hg mixed) Try.func46 rfl (by decide) (by decide) rfl (by decide) ?_
  intro us p hs
  obtain ⟨x, y, rfl, hr⟩ := fn2_inv hs
  clear hs
  cases hr
  refine ⟨rfl, ?_⟩
  dsimp only [Try.f46]
  simp only [lAnswer, cL]
  repeat' first
    | with_reducible refine WT_seq fun K' hK' => ?_
    | with_reducible refine WT_region ?_
    | with_reducible refine WT_block ?_
    | ((with_reducible refine WT_cond fun X Y hX hY => ?_); (simp [e84, F84, fn1, fn2, fn3, DAnswer.dec]; try (simp (disch := omega) only [i64_wrap, g20_eq]; try simp [e84, F84, fn1, fn2, fn3, DAnswer.dec])))
    | ((with_reducible refine wrun_consN rfl fun K' hK' => ?_); (simp [e84, F84, fn1, fn2, fn3, DAnswer.dec]; try (simp (disch := omega) only [i64_wrap, g20_eq]; try simp [e84, F84, fn1, fn2, fn3, DAnswer.dec])))
    | ((with_reducible refine wrun_consG rfl (by with_unfolding_all exact rfl) fun K' hK' => ?_); (simp [e84, F84, fn1, fn2, fn3, DAnswer.dec]; try (simp (disch := omega) only [i64_wrap, g20_eq]; try simp [e84, F84, fn1, fn2, fn3, DAnswer.dec])))
    | with_reducible refine wrun_nil ?_
    | ((with_reducible refine wfront_consN (by with_unfolding_all exact rfl) rfl rfl ?_ fun K' hK' => ?_); (focus (first | exact rootless_none rfl | exact rootless_out rfl (by decide) | (refine rootless_in rfl ?_; (simp [e84, F84, fn1, fn2, fn3, DAnswer.dec]; try (simp (disch := omega) only [i64_wrap, g20_eq]; try simp [e84, F84, fn1, fn2, fn3, DAnswer.dec]))))); (simp [e84, F84, fn1, fn2, fn3, DAnswer.dec]; try (simp (disch := omega) only [i64_wrap, g20_eq]; try simp [e84, F84, fn1, fn2, fn3, DAnswer.dec])))
    | ((with_reducible refine wfront_consG (by with_unfolding_all exact rfl) rfl rfl (by with_unfolding_all exact rfl) ?_ fun K' hK' => ?_); (focus (first | exact rootless_none rfl | exact rootless_out rfl (by decide) | (refine rootless_in rfl ?_; (simp [e84, F84, fn1, fn2, fn3, DAnswer.dec]; try (simp (disch := omega) only [i64_wrap, g20_eq]; try simp [e84, F84, fn1, fn2, fn3, DAnswer.dec]))))); (simp [e84, F84, fn1, fn2, fn3, DAnswer.dec]; try (simp (disch := omega) only [i64_wrap, g20_eq]; try simp [e84, F84, fn1, fn2, fn3, DAnswer.dec])))
    | with_reducible refine wfront_tail (by with_unfolding_all exact rfl) ?_
    | with_reducible refine wfront_nil ?_
    | with_reducible refine WT_draw [17, 18, 19, 20, 21, 22, 23, 24, 25, 26] (by with_unfolding_all decide) (by with_unfolding_all exact rfl) ?_
    | with_reducible refine then_normal ?_
    | with_reducible refine inBlock_normal ?_
    | with_reducible refine inBlock_ret ?_
    | with_reducible refine inBlock_exit ?_
    | with_reducible refine thenL_normal ?_
    | with_reducible refine thenL_ret ?_
    | with_reducible refine thenL_exit ?_
    | ((with_reducible refine then_ret ?_); clear hK')
    | ((with_reducible refine then_exit ?_); clear hK')
    | with_reducible refine inBlock_other (by decide) ?_
    | with_reducible refine WT_ret ?_
    | with_reducible refine WT_skip ?_
    | with_reducible refine WT_exit ?_
    | ((with_reducible refine hK' _ ?_); clear hK')
    | ((with_reducible refine hX ?_); clear hX hY)
    | ((with_reducible refine hY ?_); clear hX hY)
    | ((with_reducible refine And.intro (Or.inl rfl) ?_); (simp [e84, F84, fn1, fn2, fn3, DAnswer.dec]; try (simp (disch := omega) only [i64_wrap, g20_eq]; try simp [e84, F84, fn1, fn2, fn3, DAnswer.dec])))
    | with_reducible refine And.intro ?_ ?_
    | intro h
  · rw [beqL_len DAnswer.beq (by omega)]
  · rename_i hln _ _ _
    refine WT_loopL (fun m σ => ∃ k, k ≤ x.length ∧ m = x.length - k ∧ σ.slot 0 = .tr none (.sl false 3 (x.map (DAnswer.enc false))) ∧ σ.slot 1 = .tr none (.sl false 3 (y.map (DAnswer.enc false))) ∧ σ.slot 5 = .tr none (.sc (.int .i64 k)) ∧
      beqL DAnswer.beq x y = beqL DAnswer.beq (x.drop k) (y.drop k)) ⟨_, 0, by omega, rfl, by simp, by simp, by simp, by simp⟩ ?_
    rintro m σ ⟨k, hk, rfl, s0, s1, s5, hb⟩
    repeat' first
      | with_reducible refine WT_seq fun K' hK' => ?_
      | with_reducible refine WT_region ?_
      | with_reducible refine WT_block ?_
      | ((with_reducible refine WT_cond fun X Y hX hY => ?_); (first | (simp [e84, F84, fn1, fn2, fn3, DAnswer.dec, s0, s1, s5, DAnswer.enc, hx, hy]; try (simp (disch := omega) only [i64_wrap, g20_eq]; try simp [e84, F84, fn1, fn2, fn3, DAnswer.dec, s0, s1, s5, DAnswer.enc, hx, hy])) | (simp [e84, F84, fn1, fn2, fn3, DAnswer.dec, s0, s1, s5, DAnswer.enc]; try (simp (disch := omega) only [i64_wrap, g20_eq]; try simp [e84, F84, fn1, fn2, fn3, DAnswer.dec, s0, s1, s5, DAnswer.enc]))))
      | ((with_reducible refine wrun_consN rfl fun K' hK' => ?_); (first | (simp [e84, F84, fn1, fn2, fn3, DAnswer.dec, s0, s1, s5, DAnswer.enc, hx, hy]; try (simp (disch := omega) only [i64_wrap, g20_eq]; try simp [e84, F84, fn1, fn2, fn3, DAnswer.dec, s0, s1, s5, DAnswer.enc, hx, hy])) | (simp [e84, F84, fn1, fn2, fn3, DAnswer.dec, s0, s1, s5, DAnswer.enc]; try (simp (disch := omega) only [i64_wrap, g20_eq]; try simp [e84, F84, fn1, fn2, fn3, DAnswer.dec, s0, s1, s5, DAnswer.enc]))))
      | ((with_reducible refine wrun_consG rfl (by with_unfolding_all exact rfl) fun K' hK' => ?_); (first | (simp [e84, F84, fn1, fn2, fn3, DAnswer.dec, s0, s1, s5, DAnswer.enc, hx, hy]; try (simp (disch := omega) only [i64_wrap, g20_eq]; try simp [e84, F84, fn1, fn2, fn3, DAnswer.dec, s0, s1, s5, DAnswer.enc, hx, hy])) | (simp [e84, F84, fn1, fn2, fn3, DAnswer.dec, s0, s1, s5, DAnswer.enc]; try (simp (disch := omega) only [i64_wrap, g20_eq]; try simp [e84, F84, fn1, fn2, fn3, DAnswer.dec, s0, s1, s5, DAnswer.enc]))))
      | with_reducible refine wrun_nil ?_
      | ((with_reducible refine wfront_consN (by with_unfolding_all exact rfl) rfl rfl ?_ fun K' hK' => ?_); (focus (first | exact rootless_none rfl | exact rootless_out rfl (by decide) | (refine rootless_in rfl ?_; (first | (simp [e84, F84, fn1, fn2, fn3, DAnswer.dec, s0, s1, s5, DAnswer.enc, hx, hy]; try (simp (disch := omega) only [i64_wrap, g20_eq]; try simp [e84, F84, fn1, fn2, fn3, DAnswer.dec, s0, s1, s5, DAnswer.enc, hx, hy])) | (simp [e84, F84, fn1, fn2, fn3, DAnswer.dec, s0, s1, s5, DAnswer.enc]; try (simp (disch := omega) only [i64_wrap, g20_eq]; try simp [e84, F84, fn1, fn2, fn3, DAnswer.dec, s0, s1, s5, DAnswer.enc])))))); (first | (simp [e84, F84, fn1, fn2, fn3, DAnswer.dec, s0, s1, s5, DAnswer.enc, hx, hy]; try (simp (disch := omega) only [i64_wrap, g20_eq]; try simp [e84, F84, fn1, fn2, fn3, DAnswer.dec, s0, s1, s5, DAnswer.enc, hx, hy])) | (simp [e84, F84, fn1, fn2, fn3, DAnswer.dec, s0, s1, s5, DAnswer.enc]; try (simp (disch := omega) only [i64_wrap, g20_eq]; try simp [e84, F84, fn1, fn2, fn3, DAnswer.dec, s0, s1, s5, DAnswer.enc]))))
      | ((with_reducible refine wfront_consG (by with_unfolding_all exact rfl) rfl rfl (by with_unfolding_all exact rfl) ?_ fun K' hK' => ?_); (focus (first | exact rootless_none rfl | exact rootless_out rfl (by decide) | (refine rootless_in rfl ?_; (first | (simp [e84, F84, fn1, fn2, fn3, DAnswer.dec, s0, s1, s5, DAnswer.enc, hx, hy]; try (simp (disch := omega) only [i64_wrap, g20_eq]; try simp [e84, F84, fn1, fn2, fn3, DAnswer.dec, s0, s1, s5, DAnswer.enc, hx, hy])) | (simp [e84, F84, fn1, fn2, fn3, DAnswer.dec, s0, s1, s5, DAnswer.enc]; try (simp (disch := omega) only [i64_wrap, g20_eq]; try simp [e84, F84, fn1, fn2, fn3, DAnswer.dec, s0, s1, s5, DAnswer.enc])))))); (first | (simp [e84, F84, fn1, fn2, fn3, DAnswer.dec, s0, s1, s5, DAnswer.enc, hx, hy]; try (simp (disch := omega) only [i64_wrap, g20_eq]; try simp [e84, F84, fn1, fn2, fn3, DAnswer.dec, s0, s1, s5, DAnswer.enc, hx, hy])) | (simp [e84, F84, fn1, fn2, fn3, DAnswer.dec, s0, s1, s5, DAnswer.enc]; try (simp (disch := omega) only [i64_wrap, g20_eq]; try simp [e84, F84, fn1, fn2, fn3, DAnswer.dec, s0, s1, s5, DAnswer.enc]))))
      | with_reducible refine wfront_tail (by with_unfolding_all exact rfl) ?_
      | with_reducible refine wfront_nil ?_
      | with_reducible refine WT_draw [17, 18, 19, 20, 21, 22, 23, 24, 25, 26] (by with_unfolding_all decide) (by with_unfolding_all exact rfl) ?_
      | with_reducible refine then_normal ?_
      | with_reducible refine inBlock_normal ?_
      | with_reducible refine inBlock_ret ?_
      | with_reducible refine inBlock_exit ?_
      | with_reducible refine thenL_normal ?_
      | with_reducible refine thenL_ret ?_
      | with_reducible refine thenL_exit ?_
      | ((with_reducible refine then_ret ?_); clear hK')
      | ((with_reducible refine then_exit ?_); clear hK')
      | with_reducible refine inBlock_other (by decide) ?_
      | with_reducible refine WT_ret ?_
      | with_reducible refine WT_skip ?_
      | with_reducible refine WT_exit ?_
      | ((with_reducible refine hK' _ ?_); clear hK')
      | ((with_reducible refine hX ?_); clear hX hY)
      | ((with_reducible refine hY ?_); clear hX hY)
      | ((with_reducible refine And.intro (Or.inl rfl) ?_); (first | (simp [e84, F84, fn1, fn2, fn3, DAnswer.dec, s0, s1, s5, DAnswer.enc, hx, hy]; try (simp (disch := omega) only [i64_wrap, g20_eq]; try simp [e84, F84, fn1, fn2, fn3, DAnswer.dec, s0, s1, s5, DAnswer.enc, hx, hy])) | (simp [e84, F84, fn1, fn2, fn3, DAnswer.dec, s0, s1, s5, DAnswer.enc]; try (simp (disch := omega) only [i64_wrap, g20_eq]; try simp [e84, F84, fn1, fn2, fn3, DAnswer.dec, s0, s1, s5, DAnswer.enc]))))
      | with_reducible refine And.intro ?_ ?_
      | omega
      | (intro hlt; obtain ⟨u, hx⟩ := get_some hlt; obtain ⟨v, hy⟩ := get_some (l := y) (k := k) (by omega); have hst := beqL_step DAnswer.beq hx hy)
      | intro h
    · rw [hb, hst]; simp [h, beqI, beqS]
    · refine ⟨x.length - (k + 1), by omega, k + 1, by omega, rfl, by simp [s0], by simp [s1], by simp, ?_⟩
      rw [hb, hst]; simp [h, beqI, beqS]
    · rw [hb]; first | exact beqL_end _ (by omega) (by omega) | exact (beqL_end _ (by omega) (by omega)).symm
set_option maxHeartbeats 4000000 in
theorem con30 {Γ : Mv.Env} (hg : Mv.Good Try.prog Γ) (e52 : Γ 52 = some F52) (e46 : Γ 46 = some F46) : Contract Try.prog 30 F30 := by
  refine contract_fn hg (wdraw_ok hg mixed) Try.func30 rfl (by decide) (by decide) rfl (by decide) ?_
  intro us p hs
  obtain ⟨x, y, rfl, hr⟩ := fn2_inv hs
  clear hs
  cases hr
  refine ⟨rfl, ?_⟩
  dsimp only [Try.f30]
  simp only [cEntry, cT, DEntry.enc]
  repeat' first
    | with_reducible refine WT_seq fun K' hK' => ?_
    | with_reducible refine WT_region ?_
    | with_reducible refine WT_block ?_
    | ((with_reducible refine WT_cond fun X Y hX hY => ?_); simp [e52, F52, e46, F46, fn1, fn2, fn3])
    | ((with_reducible refine wrun_consN rfl fun K' hK' => ?_); simp [e52, F52, e46, F46, fn1, fn2, fn3])
    | ((with_reducible refine wrun_consG rfl (by with_unfolding_all exact rfl) fun K' hK' => ?_); simp [e52, F52, e46, F46, fn1, fn2, fn3])
    | with_reducible refine wrun_nil ?_
    | with_reducible refine then_normal ?_
    | with_reducible refine inBlock_normal ?_
    | with_reducible refine inBlock_ret ?_
    | with_reducible refine inBlock_exit ?_
    | with_reducible refine thenL_normal ?_
    | with_reducible refine thenL_ret ?_
    | with_reducible refine thenL_exit ?_
    | ((with_reducible refine then_ret ?_); clear hK')
    | ((with_reducible refine then_exit ?_); clear hK')
    | with_reducible refine inBlock_other (by decide) ?_
    | with_reducible refine WT_ret ?_
    | with_reducible refine WT_skip ?_
    | with_reducible refine WT_exit ?_
    | ((with_reducible refine hK' _ ?_); clear hK')
    | ((with_reducible refine hX ?_); clear hX hY)
    | ((with_reducible refine hY ?_); clear hX hY)
    | ((with_reducible refine And.intro (Or.inl rfl) ?_); simp [e52, F52, e46, F46, fn1, fn2, fn3])
    | with_reducible refine And.intro ?_ ?_
    | intro h
  all_goals (clear hg; simp [DEntry.beq, *]; done)
end Go.Mv
