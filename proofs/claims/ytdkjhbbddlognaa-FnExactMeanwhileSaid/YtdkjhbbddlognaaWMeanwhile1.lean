/-
  The walks of some functions that a law reaches: each is shown to do to trees what its plain function tells; no statement of the seat by itself; no conditions.
-/
import Derived.Test.YtdkjhbbddlognaaWMeanwhile0
namespace Go.Mv
open Go.Proofs
set_option linter.unusedVariables false
set_option linter.unusedSimpArgs false
set_option maxRecDepth 10000
set_option maxHeartbeats 4000000 in
theorem con79 {Γ : Mv.Env} (hg : Mv.Good Try.prog Γ) : Contract Try.prog 79 F79 := by
  refine contract_fn hg (wdraw_ok hg mixed) Try.func79 rfl (by decide) (by decide) rfl (by decide) ?_
  intro us p hs
  obtain ⟨x, y, z, rfl, hr⟩ := fn3_inv hs
  clear hs
  cases hr
  refine ⟨rfl, ?_⟩
  dsimp only [Try.f79]
  simp only [cI, cI, cI, cL, cI, cT]
  by_cases h0 : y ≤ x
  all_goals by_cases h1 : x ≤ z
  all_goals
    repeat' first
      | with_reducible refine WT_seq fun K' hK' => ?_
      | with_reducible refine WT_region ?_
      | with_reducible refine WT_block ?_
      | ((with_reducible refine WT_cond fun X Y hX hY => ?_); (simp [h0, h1]; try (simp (disch := omega) only [i64_wrap, g20_eq]; try simp [h0, h1])))
      | ((with_reducible refine wrun_consN rfl fun K' hK' => ?_); (simp [h0, h1]; try (simp (disch := omega) only [i64_wrap, g20_eq]; try simp [h0, h1])))
      | ((with_reducible refine wrun_consG rfl (by with_unfolding_all exact rfl) fun K' hK' => ?_); (simp [h0, h1]; try (simp (disch := omega) only [i64_wrap, g20_eq]; try simp [h0, h1])))
      | with_reducible refine wrun_nil ?_
      | with_reducible refine then_normal ?_
      | with_reducible refine inBlock_normal ?_
      | with_reducible refine inBlock_ret ?_
      | with_reducible refine inBlock_exit ?_
      | with_reducible refine thenL_normal ?_
      | with_reducible refine thenL_ret ?_
      | with_reducible refine thenL_exit ?_
      | ((with_reducible refine then_ret ?_); clear hK')
      | ((with_reducible refine then_exit ?_); clear hK')
      | with_reducible refine inBlock_other (by decide) ?_
      | with_reducible refine WT_ret ?_
      | with_reducible refine WT_skip ?_
      | with_reducible refine WT_exit ?_
      | ((with_reducible refine hK' _ ?_); clear hK')
      | ((with_reducible refine hX ?_); clear hX hY)
      | ((with_reducible refine hY ?_); clear hX hY)
      | ((with_reducible refine And.intro (Or.inl rfl) ?_); (simp [h0, h1]; try (simp (disch := omega) only [i64_wrap, g20_eq]; try simp [h0, h1])))
      | with_reducible refine And.intro ?_ ?_
      | intro h
  all_goals first | rfl | (simp; done) | omega
set_option maxHeartbeats 4000000 in
theorem con27 {Γ : Mv.Env} (hg : Mv.Good Try.prog Γ) : Contract Try.prog 27 F27 := by
  refine contract_fn hg (wdraw_ok hg mixed) Try.func27 rfl (by decide) (by decide) rfl (by decide) ?_
  intro us p hs
  obtain ⟨x, y, rfl, hr⟩ := fn2_inv hs
  clear hs
  cases hr
  refine ⟨rfl, ?_⟩
  dsimp only [Try.f27]
  simp only [cEntry, cEntry, cL, cI, cT, DEntry.enc, beforeB]
  by_cases h0 : x.Ended ≤ y.Began
  all_goals by_cases h1 : x.Ended < y.Ended
  all_goals
    repeat' first
      | with_reducible refine WT_seq fun K' hK' => ?_
      | with_reducible refine WT_region ?_
      | with_reducible refine WT_block ?_
      | ((with_reducible refine WT_cond fun X Y hX hY => ?_); (simp [h0, h1]; try (simp (disch := omega) only [i64_wrap, g20_eq]; try simp [h0, h1])))
      | ((with_reducible refine wrun_consN rfl fun K' hK' => ?_); (simp [h0, h1]; try (simp (disch := omega) only [i64_wrap, g20_eq]; try simp [h0, h1])))
      | ((with_reducible refine wrun_consG rfl (by with_unfolding_all exact rfl) fun K' hK' => ?_); (simp [h0, h1]; try (simp (disch := omega) only [i64_wrap, g20_eq]; try simp [h0, h1])))
      | with_reducible refine wrun_nil ?_
      | with_reducible refine then_normal ?_
      | with_reducible refine inBlock_normal ?_
      | with_reducible refine inBlock_ret ?_
      | with_reducible refine inBlock_exit ?_
      | with_reducible refine thenL_normal ?_
      | with_reducible refine thenL_ret ?_
      | with_reducible refine thenL_exit ?_
      | ((with_reducible refine then_ret ?_); clear hK')
      | ((with_reducible refine then_exit ?_); clear hK')
      | with_reducible refine inBlock_other (by decide) ?_
      | with_reducible refine WT_ret ?_
      | with_reducible refine WT_skip ?_
      | with_reducible refine WT_exit ?_
      | ((with_reducible refine hK' _ ?_); clear hK')
      | ((with_reducible refine hX ?_); clear hX hY)
      | ((with_reducible refine hY ?_); clear hX hY)
      | ((with_reducible refine And.intro (Or.inl rfl) ?_); (simp [h0, h1]; try (simp (disch := omega) only [i64_wrap, g20_eq]; try simp [h0, h1])))
      | with_reducible refine And.intro ?_ ?_
      | intro h
  all_goals first | rfl | (simp; done) | omega
set_option maxHeartbeats 4000000 in
theorem con40 {Γ : Mv.Env} (hg : Mv.Good Try.prog Γ) (e79 : Γ 79 = some F79) (e27 : Γ 27 = some F27) : Contract Try.prog 40 F40 := by
  refine contract_fn hg (wdraw_ok hg mixed) Try.func40 rfl (by decide) (by decide) rfl (by decide) ?_
  intro us p hs
  obtain ⟨x, y, rfl, hr⟩ := fn2_inv hs
  clear hs
  cases hr
  refine ⟨rfl, ?_⟩
  dsimp only [Try.f40]
  simp only [lEntry, cL, cI]
  repeat' first
    | with_reducible refine WT_seq fun K' hK' => ?_
    | with_reducible refine WT_region ?_
    | with_reducible refine WT_block ?_
    | ((with_reducible refine WT_cond fun X Y hX hY => ?_); (simp [e79, F79, e27, F27, fn1, fn2, fn3]; try (simp (disch := omega) only [i64_wrap, g20_eq]; try simp [e79, F79, e27, F27, fn1, fn2, fn3])))
    | ((with_reducible refine wrun_consN rfl fun K' hK' => ?_); (simp [e79, F79, e27, F27, fn1, fn2, fn3]; try (simp (disch := omega) only [i64_wrap, g20_eq]; try simp [e79, F79, e27, F27, fn1, fn2, fn3])))
    | ((with_reducible refine wrun_consG rfl (by with_unfolding_all exact rfl) fun K' hK' => ?_); (simp [e79, F79, e27, F27, fn1, fn2, fn3]; try (simp (disch := omega) only [i64_wrap, g20_eq]; try simp [e79, F79, e27, F27, fn1, fn2, fn3])))
    | with_reducible refine wrun_nil ?_
    | ((with_reducible refine wfront_consN (by with_unfolding_all exact rfl) rfl rfl ?_ fun K' hK' => ?_); (focus (first | exact rootless_none rfl | exact rootless_out rfl (by decide) | (refine rootless_in rfl ?_; (simp [e79, F79, e27, F27, fn1, fn2, fn3]; try (simp (disch := omega) only [i64_wrap, g20_eq]; try simp [e79, F79, e27, F27, fn1, fn2, fn3]))))); (simp [e79, F79, e27, F27, fn1, fn2, fn3]; try (simp (disch := omega) only [i64_wrap, g20_eq]; try simp [e79, F79, e27, F27, fn1, fn2, fn3])))
    | ((with_reducible refine wfront_consG (by with_unfolding_all exact rfl) rfl rfl (by with_unfolding_all exact rfl) ?_ fun K' hK' => ?_); (focus (first | exact rootless_none rfl | exact rootless_out rfl (by decide) | (refine rootless_in rfl ?_; (simp [e79, F79, e27, F27, fn1, fn2, fn3]; try (simp (disch := omega) only [i64_wrap, g20_eq]; try simp [e79, F79, e27, F27, fn1, fn2, fn3]))))); (simp [e79, F79, e27, F27, fn1, fn2, fn3]; try (simp (disch := omega) only [i64_wrap, g20_eq]; try simp [e79, F79, e27, F27, fn1, fn2, fn3])))
    | with_reducible refine wfront_tail (by with_unfolding_all exact rfl) ?_
    | with_reducible refine wfront_nil ?_
    | with_reducible refine WT_draw [20, 21, 22, 23, 24, 25, 26, 27, 28, 29, 30, 31, 32, 33, 34, 35, 36, 37, 38, 39, 40, 41, 42, 43, 44, 45, 46] (by with_unfolding_all decide) (by with_unfolding_all exact rfl) ?_
    | with_reducible refine then_normal ?_
    | with_reducible refine inBlock_normal ?_
    | with_reducible refine inBlock_ret ?_
    | with_reducible refine inBlock_exit ?_
    | with_reducible refine thenL_normal ?_
    | with_reducible refine thenL_ret ?_
    | with_reducible refine thenL_exit ?_
    | ((with_reducible refine then_ret ?_); clear hK')
    | ((with_reducible refine then_exit ?_); clear hK')
    | with_reducible refine inBlock_other (by decide) ?_
    | with_reducible refine WT_ret ?_
    | with_reducible refine WT_skip ?_
    | with_reducible refine WT_exit ?_
    | ((with_reducible refine hK' _ ?_); clear hK')
    | ((with_reducible refine hX ?_); clear hX hY)
    | ((with_reducible refine hY ?_); clear hX hY)
    | ((with_reducible refine And.intro (Or.inl rfl) ?_); (simp [e79, F79, e27, F27, fn1, fn2, fn3]; try (simp (disch := omega) only [i64_wrap, g20_eq]; try simp [e79, F79, e27, F27, fn1, fn2, fn3])))
    | with_reducible refine And.intro ?_ ?_
    | intro h
  refine WT_loopL (fun m σ => ∃ k, k ≤ x.length ∧ m = x.length - k ∧ (0 < k → 0 ≤ y ∧ y ≤ (x.length : Int) - 1) ∧ σ.slot 0 = .tr none (.sl false 8 (x.map (DEntry.enc false))) ∧ σ.slot 1 = .tr none (.sc (.int .i64 y)) ∧ σ.slot 6 = .tr none (.sc (.int .i64 k)) ∧ σ.slot 5 = .tr none (.sc (.int .i64 (((List.range k).countP (mwAt x y) : Nat) : Int)))) ⟨_, 0, by omega, rfl, by simp, by simp, by simp, by simp, by simp⟩ ?_
  rintro m σ ⟨k, hk, rfl, hkin, q0, q1, q2, q3⟩
  have hle := cR_le (mwAt x y) k
  have hstep := cR_step (mwAt x y) k
  by_cases hlt0 : k < x.length
  · by_cases hy0 : 0 ≤ y
    · by_cases hy1 : y ≤ (x.length : Int) - 1
      · have hy2 : y < (x.length : Int) := by omega
        have hy3 : y.toNat < x.length := by omega
        have hmw : mw x y = (List.range x.length).countP (mwAt x y) := by simp [mw, hy0, hy1]
        obtain ⟨w, hw⟩ := get_some hy3
        have hw2 : x[y.toNat] = w := (List.getElem?_eq_some_iff.mp hw).2
        obtain ⟨u, hu⟩ := get_some hlt0
        have hu2 : x[k] = u := (List.getElem?_eq_some_iff.mp hu).2
        by_cases hne : (k : Int) = y
        · have hat : mwAt x y k = false := by simp [mwAt, hne]
          rw [hat] at hstep
          repeat' first
            | with_reducible refine WT_seq fun K' hK' => ?_
            | with_reducible refine WT_region ?_
            | with_reducible refine WT_block ?_
            | ((with_reducible refine WT_cond fun X Y hX hY => ?_); (simp [e79, F79, e27, F27, fn1, fn2, fn3, q0, q1, q2, q3, hlt0, hy0, hy1, hne, DEntry.enc, DEntry.dec]; try (simp (disch := omega) only [i64_wrap, g20_eq]; try simp [e79, F79, e27, F27, fn1, fn2, fn3, q0, q1, q2, q3, hlt0, hy0, hy1, hne, DEntry.enc, DEntry.dec])))
            | ((with_reducible refine wrun_consN rfl fun K' hK' => ?_); (simp [e79, F79, e27, F27, fn1, fn2, fn3, q0, q1, q2, q3, hlt0, hy0, hy1, hne, DEntry.enc, DEntry.dec]; try (simp (disch := omega) only [i64_wrap, g20_eq]; try simp [e79, F79, e27, F27, fn1, fn2, fn3, q0, q1, q2, q3, hlt0, hy0, hy1, hne, DEntry.enc, DEntry.dec])))
            | ((with_reducible refine wrun_consG rfl (by with_unfolding_all exact rfl) fun K' hK' => ?_); (simp [e79, F79, e27, F27, fn1, fn2, fn3, q0, q1, q2, q3, hlt0, hy0, hy1, hne, DEntry.enc, DEntry.dec]; try (simp (disch := omega) only [i64_wrap, g20_eq]; try simp [e79, F79, e27, F27, fn1, fn2, fn3, q0, q1, q2, q3, hlt0, hy0, hy1, hne, DEntry.enc, DEntry.dec])))
            | with_reducible refine wrun_nil ?_
            | ((with_reducible refine wfront_consN (by with_unfolding_all exact rfl) rfl rfl ?_ fun K' hK' => ?_); (focus (first | exact rootless_none rfl | exact rootless_out rfl (by decide) | (refine rootless_in rfl ?_; (simp [e79, F79, e27, F27, fn1, fn2, fn3, q0, q1, q2, q3, hlt0, hy0, hy1, hne, DEntry.enc, DEntry.dec]; try (simp (disch := omega) only [i64_wrap, g20_eq]; try simp [e79, F79, e27, F27, fn1, fn2, fn3, q0, q1, q2, q3, hlt0, hy0, hy1, hne, DEntry.enc, DEntry.dec]))))); (simp [e79, F79, e27, F27, fn1, fn2, fn3, q0, q1, q2, q3, hlt0, hy0, hy1, hne, DEntry.enc, DEntry.dec]; try (simp (disch := omega) only [i64_wrap, g20_eq]; try simp [e79, F79, e27, F27, fn1, fn2, fn3, q0, q1, q2, q3, hlt0, hy0, hy1, hne, DEntry.enc, DEntry.dec])))
            | ((with_reducible refine wfront_consG (by with_unfolding_all exact rfl) rfl rfl (by with_unfolding_all exact rfl) ?_ fun K' hK' => ?_); (focus (first | exact rootless_none rfl | exact rootless_out rfl (by decide) | (refine rootless_in rfl ?_; (simp [e79, F79, e27, F27, fn1, fn2, fn3, q0, q1, q2, q3, hlt0, hy0, hy1, hne, DEntry.enc, DEntry.dec]; try (simp (disch := omega) only [i64_wrap, g20_eq]; try simp [e79, F79, e27, F27, fn1, fn2, fn3, q0, q1, q2, q3, hlt0, hy0, hy1, hne, DEntry.enc, DEntry.dec]))))); (simp [e79, F79, e27, F27, fn1, fn2, fn3, q0, q1, q2, q3, hlt0, hy0, hy1, hne, DEntry.enc, DEntry.dec]; try (simp (disch := omega) only [i64_wrap, g20_eq]; try simp [e79, F79, e27, F27, fn1, fn2, fn3, q0, q1, q2, q3, hlt0, hy0, hy1, hne, DEntry.enc, DEntry.dec])))
            | with_reducible refine wfront_tail (by with_unfolding_all exact rfl) ?_
            | with_reducible refine wfront_nil ?_
            | with_reducible refine WT_draw [20, 21, 22, 23, 24, 25, 26, 27, 28, 29, 30, 31, 32, 33, 34, 35, 36, 37, 38, 39, 40, 41, 42, 43, 44, 45, 46] (by with_unfolding_all decide) (by with_unfolding_all exact rfl) ?_
            | with_reducible refine then_normal ?_
            | with_reducible refine inBlock_normal ?_
            | with_reducible refine inBlock_ret ?_
            | with_reducible refine inBlock_exit ?_
            | with_reducible refine thenL_normal ?_
            | with_reducible refine thenL_ret ?_
            | with_reducible refine thenL_exit ?_
            | ((with_reducible refine then_ret ?_); clear hK')
            | ((with_reducible refine then_exit ?_); clear hK')
            | with_reducible refine inBlock_other (by decide) ?_
            | with_reducible refine WT_ret ?_
            | with_reducible refine WT_skip ?_
            | with_reducible refine WT_exit ?_
            | ((with_reducible refine hK' _ ?_); clear hK')
            | ((with_reducible refine hX ?_); clear hX hY)
            | ((with_reducible refine hY ?_); clear hX hY)
            | ((with_reducible refine And.intro (Or.inl rfl) ?_); (simp [e79, F79, e27, F27, fn1, fn2, fn3, q0, q1, q2, q3, hlt0, hy0, hy1, hne, DEntry.enc, DEntry.dec]; try (simp (disch := omega) only [i64_wrap, g20_eq]; try simp [e79, F79, e27, F27, fn1, fn2, fn3, q0, q1, q2, q3, hlt0, hy0, hy1, hne, DEntry.enc, DEntry.dec])))
            | with_reducible refine And.intro ?_ ?_
            | omega
            | intro h
          all_goals first
            | omega
            | exact ⟨x.length - (k + 1), by omega, k + 1, by omega, rfl, by omega, by simp [q0, q1, q2, q3, hstep, hne], by simp [q0, q1, q2, q3, hstep, hne], by simp [q0, q1, q2, q3, hstep, hne], by simp [q0, q1, q2, q3, hstep, hne]⟩
            | trace_state
        · have hat : mwAt x y k = (!beforeB u w && !beforeB w u) := by simp [mwAt, hne, hu, hw]
          rw [hat] at hstep
          by_cases h1 : beforeB u w = true <;> by_cases h2 : beforeB w u = true
          all_goals
            repeat' first
              | with_reducible refine WT_seq fun K' hK' => ?_
              | with_reducible refine WT_region ?_
              | with_reducible refine WT_block ?_
              | ((with_reducible refine WT_cond fun X Y hX hY => ?_); (simp [e79, F79, e27, F27, fn1, fn2, fn3, q0, q1, q2, q3, hlt0, hy0, hy1, hy2, hy3, hne, h1, h2, hu, hu2, hw, hw2, DEntry.enc, DEntry.dec]; try (simp (disch := omega) only [i64_wrap, g20_eq]; try simp [e79, F79, e27, F27, fn1, fn2, fn3, q0, q1, q2, q3, hlt0, hy0, hy1, hy2, hy3, hne, h1, h2, hu, hu2, hw, hw2, DEntry.enc, DEntry.dec])))
              | ((with_reducible refine wrun_consN rfl fun K' hK' => ?_); (simp [e79, F79, e27, F27, fn1, fn2, fn3, q0, q1, q2, q3, hlt0, hy0, hy1, hy2, hy3, hne, h1, h2, hu, hu2, hw, hw2, DEntry.enc, DEntry.dec]; try (simp (disch := omega) only [i64_wrap, g20_eq]; try simp [e79, F79, e27, F27, fn1, fn2, fn3, q0, q1, q2, q3, hlt0, hy0, hy1, hy2, hy3, hne, h1, h2, hu, hu2, hw, hw2, DEntry.enc, DEntry.dec])))
              | ((with_reducible refine wrun_consG rfl (by with_unfolding_all exact rfl) fun K' hK' => ?_); (simp [e79, F79, e27, F27, fn1, fn2, fn3, q0, q1, q2, q3, hlt0, hy0, hy1, hy2, hy3, hne, h1, h2, hu, hu2, hw, hw2, DEntry.enc, DEntry.dec]; try (simp (disch := omega) only [i64_wrap, g20_eq]; try simp [e79, F79, e27, F27, fn1, fn2, fn3, q0, q1, q2, q3, hlt0, hy0, hy1, hy2, hy3, hne, h1, h2, hu, hu2, hw, hw2, DEntry.enc, DEntry.dec])))
              | with_reducible refine wrun_nil ?_
              | ((with_reducible refine wfront_consN (by with_unfolding_all exact rfl) rfl rfl ?_ fun K' hK' => ?_); (focus (first | exact rootless_none rfl | exact rootless_out rfl (by decide) | (refine rootless_in rfl ?_; (simp [e79, F79, e27, F27, fn1, fn2, fn3, q0, q1, q2, q3, hlt0, hy0, hy1, hy2, hy3, hne, h1, h2, hu, hu2, hw, hw2, DEntry.enc, DEntry.dec]; try (simp (disch := omega) only [i64_wrap, g20_eq]; try simp [e79, F79, e27, F27, fn1, fn2, fn3, q0, q1, q2, q3, hlt0, hy0, hy1, hy2, hy3, hne, h1, h2, hu, hu2, hw, hw2, DEntry.enc, DEntry.dec]))))); (simp [e79, F79, e27, F27, fn1, fn2, fn3, q0, q1, q2, q3, hlt0, hy0, hy1, hy2, hy3, hne, h1, h2, hu, hu2, hw, hw2, DEntry.enc, DEntry.dec]; try (simp (disch := omega) only [i64_wrap, g20_eq]; try simp [e79, F79, e27, F27, fn1, fn2, fn3, q0, q1, q2, q3, hlt0, hy0, hy1, hy2, hy3, hne, h1, h2, hu, hu2, hw, hw2, DEntry.enc, DEntry.dec])))
              | ((with_reducible refine wfront_consG (by with_unfolding_all exact rfl) rfl rfl (by with_unfolding_all exact rfl) ?_ fun K' hK' => ?_); (focus (first | exact rootless_none rfl | exact rootless_out rfl (by decide) | (refine rootless_in rfl ?_; (simp [e79, F79, e27, F27, fn1, fn2, fn3, q0, q1, q2, q3, hlt0, hy0, hy1, hy2, hy3, hne, h1, h2, hu, hu2, hw, hw2, DEntry.enc, DEntry.dec]; try (simp (disch := omega) only [i64_wrap, g20_eq]; try simp [e79, F79, e27, F27, fn1, fn2, fn3, q0, q1, q2, q3, hlt0, hy0, hy1, hy2, hy3, hne, h1, h2, hu, hu2, hw, hw2, DEntry.enc, DEntry.dec]))))); (simp [e79, F79, e27, F27, fn1, fn2, fn3, q0, q1, q2, q3, hlt0, hy0, hy1, hy2, hy3, hne, h1, h2, hu, hu2, hw, hw2, DEntry.enc, DEntry.dec]; try (simp (disch := omega) only [i64_wrap, g20_eq]; try simp [e79, F79, e27, F27, fn1, fn2, fn3, q0, q1, q2, q3, hlt0, hy0, hy1, hy2, hy3, hne, h1, h2, hu, hu2, hw, hw2, DEntry.enc, DEntry.dec])))
              | with_reducible refine wfront_tail (by with_unfolding_all exact rfl) ?_
              | with_reducible refine wfront_nil ?_
              | with_reducible refine WT_draw [20, 21, 22, 23, 24, 25, 26, 27, 28, 29, 30, 31, 32, 33, 34, 35, 36, 37, 38, 39, 40, 41, 42, 43, 44, 45, 46] (by with_unfolding_all decide) (by with_unfolding_all exact rfl) ?_
              | with_reducible refine then_normal ?_
              | with_reducible refine inBlock_normal ?_
              | with_reducible refine inBlock_ret ?_
              | with_reducible refine inBlock_exit ?_
              | with_reducible refine thenL_normal ?_
              | with_reducible refine thenL_ret ?_
              | with_reducible refine thenL_exit ?_
              | ((with_reducible refine then_ret ?_); clear hK')
              | ((with_reducible refine then_exit ?_); clear hK')
              | with_reducible refine inBlock_other (by decide) ?_
              | with_reducible refine WT_ret ?_
              | with_reducible refine WT_skip ?_
              | with_reducible refine WT_exit ?_
              | ((with_reducible refine hK' _ ?_); clear hK')
              | ((with_reducible refine hX ?_); clear hX hY)
              | ((with_reducible refine hY ?_); clear hX hY)
              | ((with_reducible refine And.intro (Or.inl rfl) ?_); (simp [e79, F79, e27, F27, fn1, fn2, fn3, q0, q1, q2, q3, hlt0, hy0, hy1, hy2, hy3, hne, h1, h2, hu, hu2, hw, hw2, DEntry.enc, DEntry.dec]; try (simp (disch := omega) only [i64_wrap, g20_eq]; try simp [e79, F79, e27, F27, fn1, fn2, fn3, q0, q1, q2, q3, hlt0, hy0, hy1, hy2, hy3, hne, h1, h2, hu, hu2, hw, hw2, DEntry.enc, DEntry.dec])))
              | with_reducible refine And.intro ?_ ?_
              | omega
              | intro h
          all_goals first
            | omega
            | exact ⟨x.length - (k + 1), by omega, k + 1, by omega, rfl, by omega, by simp [q0, q1, q2, q3, hstep, h1, h2], by simp [q0, q1, q2, q3, hstep, h1, h2], by simp [q0, q1, q2, q3, hstep, h1, h2], by simp [q0, q1, q2, q3, hstep, h1, h2]⟩
            | trace_state
      · have hk0 : k = 0 := by omega
        subst hk0
        have hmw : mw x y = 0 := by simp [mw, hy1]
        repeat' first
          | with_reducible refine WT_seq fun K' hK' => ?_
          | with_reducible refine WT_region ?_
          | with_reducible refine WT_block ?_
          | ((with_reducible refine WT_cond fun X Y hX hY => ?_); (simp [e79, F79, e27, F27, fn1, fn2, fn3, q0, q1, q2, q3, hlt0, hy0, hy1]; try (simp (disch := omega) only [i64_wrap, g20_eq]; try simp [e79, F79, e27, F27, fn1, fn2, fn3, q0, q1, q2, q3, hlt0, hy0, hy1])))
          | ((with_reducible refine wrun_consN rfl fun K' hK' => ?_); (simp [e79, F79, e27, F27, fn1, fn2, fn3, q0, q1, q2, q3, hlt0, hy0, hy1]; try (simp (disch := omega) only [i64_wrap, g20_eq]; try simp [e79, F79, e27, F27, fn1, fn2, fn3, q0, q1, q2, q3, hlt0, hy0, hy1])))
          | ((with_reducible refine wrun_consG rfl (by with_unfolding_all exact rfl) fun K' hK' => ?_); (simp [e79, F79, e27, F27, fn1, fn2, fn3, q0, q1, q2, q3, hlt0, hy0, hy1]; try (simp (disch := omega) only [i64_wrap, g20_eq]; try simp [e79, F79, e27, F27, fn1, fn2, fn3, q0, q1, q2, q3, hlt0, hy0, hy1])))
          | with_reducible refine wrun_nil ?_
          | ((with_reducible refine wfront_consN (by with_unfolding_all exact rfl) rfl rfl ?_ fun K' hK' => ?_); (focus (first | exact rootless_none rfl | exact rootless_out rfl (by decide) | (refine rootless_in rfl ?_; (simp [e79, F79, e27, F27, fn1, fn2, fn3, q0, q1, q2, q3, hlt0, hy0, hy1]; try (simp (disch := omega) only [i64_wrap, g20_eq]; try simp [e79, F79, e27, F27, fn1, fn2, fn3, q0, q1, q2, q3, hlt0, hy0, hy1]))))); (simp [e79, F79, e27, F27, fn1, fn2, fn3, q0, q1, q2, q3, hlt0, hy0, hy1]; try (simp (disch := omega) only [i64_wrap, g20_eq]; try simp [e79, F79, e27, F27, fn1, fn2, fn3, q0, q1, q2, q3, hlt0, hy0, hy1])))
          | ((with_reducible refine wfront_consG (by with_unfolding_all exact rfl) rfl rfl (by with_unfolding_all exact rfl) ?_ fun K' hK' => ?_); (focus (first | exact rootless_none rfl | exact rootless_out rfl (by decide) | (refine rootless_in rfl ?_; (simp [e79, F79, e27, F27, fn1, fn2, fn3, q0, q1, q2, q3, hlt0, hy0, hy1]; try (simp (disch := omega) only [i64_wrap, g20_eq]; try simp [e79, F79, e27, F27, fn1, fn2, fn3, q0, q1, q2, q3, hlt0, hy0, hy1]))))); (simp [e79, F79, e27, F27, fn1, fn2, fn3, q0, q1, q2, q3, hlt0, hy0, hy1]; try (simp (disch := omega) only [i64_wrap, g20_eq]; try simp [e79, F79, e27, F27, fn1, fn2, fn3, q0, q1, q2, q3, hlt0, hy0, hy1])))
          | with_reducible refine wfront_tail (by with_unfolding_all exact rfl) ?_
          | with_reducible refine wfront_nil ?_
          | with_reducible refine WT_draw [20, 21, 22, 23, 24, 25, 26, 27, 28, 29, 30, 31, 32, 33, 34, 35, 36, 37, 38, 39, 40, 41, 42, 43, 44, 45, 46] (by with_unfolding_all decide) (by with_unfolding_all exact rfl) ?_
          | with_reducible refine then_normal ?_
          | with_reducible refine inBlock_normal ?_
          | with_reducible refine inBlock_ret ?_
          | with_reducible refine inBlock_exit ?_
          | with_reducible refine thenL_normal ?_
          | with_reducible refine thenL_ret ?_
          | with_reducible refine thenL_exit ?_
          | ((with_reducible refine then_ret ?_); clear hK')
          | ((with_reducible refine then_exit ?_); clear hK')
          | with_reducible refine inBlock_other (by decide) ?_
          | with_reducible refine WT_ret ?_
          | with_reducible refine WT_skip ?_
          | with_reducible refine WT_exit ?_
          | ((with_reducible refine hK' _ ?_); clear hK')
          | ((with_reducible refine hX ?_); clear hX hY)
          | ((with_reducible refine hY ?_); clear hX hY)
          | ((with_reducible refine And.intro (Or.inl rfl) ?_); (simp [e79, F79, e27, F27, fn1, fn2, fn3, q0, q1, q2, q3, hlt0, hy0, hy1]; try (simp (disch := omega) only [i64_wrap, g20_eq]; try simp [e79, F79, e27, F27, fn1, fn2, fn3, q0, q1, q2, q3, hlt0, hy0, hy1])))
          | with_reducible refine And.intro ?_ ?_
          | omega
          | intro h
        all_goals first | omega | (simp [hmw]; done) | trace_state
    · have hk0 : k = 0 := by omega
      subst hk0
      have hmw : mw x y = 0 := by simp [mw, hy0]
      repeat' first
        | with_reducible refine WT_seq fun K' hK' => ?_
        | with_reducible refine WT_region ?_
        | with_reducible refine WT_block ?_
        | ((with_reducible refine WT_cond fun X Y hX hY => ?_); (simp [e79, F79, e27, F27, fn1, fn2, fn3, q0, q1, q2, q3, hlt0, hy0]; try (simp (disch := omega) only [i64_wrap, g20_eq]; try simp [e79, F79, e27, F27, fn1, fn2, fn3, q0, q1, q2, q3, hlt0, hy0])))
        | ((with_reducible refine wrun_consN rfl fun K' hK' => ?_); (simp [e79, F79, e27, F27, fn1, fn2, fn3, q0, q1, q2, q3, hlt0, hy0]; try (simp (disch := omega) only [i64_wrap, g20_eq]; try simp [e79, F79, e27, F27, fn1, fn2, fn3, q0, q1, q2, q3, hlt0, hy0])))
        | ((with_reducible refine wrun_consG rfl (by with_unfolding_all exact rfl) fun K' hK' => ?_); (simp [e79, F79, e27, F27, fn1, fn2, fn3, q0, q1, q2, q3, hlt0, hy0]; try (simp (disch := omega) only [i64_wrap, g20_eq]; try simp [e79, F79, e27, F27, fn1, fn2, fn3, q0, q1, q2, q3, hlt0, hy0])))
        | with_reducible refine wrun_nil ?_
        | ((with_reducible refine wfront_consN (by with_unfolding_all exact rfl) rfl rfl ?_ fun K' hK' => ?_); (focus (first | exact rootless_none rfl | exact rootless_out rfl (by decide) | (refine rootless_in rfl ?_; (simp [e79, F79, e27, F27, fn1, fn2, fn3, q0, q1, q2, q3, hlt0, hy0]; try (simp (disch := omega) only [i64_wrap, g20_eq]; try simp [e79, F79, e27, F27, fn1, fn2, fn3, q0, q1, q2, q3, hlt0, hy0]))))); (simp [e79, F79, e27, F27, fn1, fn2, fn3, q0, q1, q2, q3, hlt0, hy0]; try (simp (disch := omega) only [i64_wrap, g20_eq]; try simp [e79, F79, e27, F27, fn1, fn2, fn3, q0, q1, q2, q3, hlt0, hy0])))
        | ((with_reducible refine wfront_consG (by with_unfolding_all exact rfl) rfl rfl (by with_unfolding_all exact rfl) ?_ fun K' hK' => ?_); (focus (first | exact rootless_none rfl | exact rootless_out rfl (by decide) | (refine rootless_in rfl ?_; (simp [e79, F79, e27, F27, fn1, fn2, fn3, q0, q1, q2, q3, hlt0, hy0]; try (simp (disch := omega) only [i64_wrap, g20_eq]; try simp [e79, F79, e27, F27, fn1, fn2, fn3, q0, q1, q2, q3, hlt0, hy0]))))); (simp [e79, F79, e27, F27, fn1, fn2, fn3, q0, q1, q2, q3, hlt0, hy0]; try (simp (disch := omega) only [i64_wrap, g20_eq]; try simp [e79, F79, e27, F27, fn1, fn2, fn3, q0, q1, q2, q3, hlt0, hy0])))
        | with_reducible refine wfront_tail (by with_unfolding_all exact rfl) ?_
        | with_reducible refine wfront_nil ?_
        | with_reducible refine WT_draw [20, 21, 22, 23, 24, 25, 26, 27, 28, 29, 30, 31, 32, 33, 34, 35, 36, 37, 38, 39, 40, 41, 42, 43, 44, 45, 46] (by with_unfolding_all decide) (by with_unfolding_all exact rfl) ?_
        | with_reducible refine then_normal ?_
        | with_reducible refine inBlock_normal ?_
        | with_reducible refine inBlock_ret ?_
        | with_reducible refine inBlock_exit ?_
        | with_reducible refine thenL_normal ?_
        | with_reducible refine thenL_ret ?_
        | with_reducible refine thenL_exit ?_
        | ((with_reducible refine then_ret ?_); clear hK')
        | ((with_reducible refine then_exit ?_); clear hK')
        | with_reducible refine inBlock_other (by decide) ?_
        | with_reducible refine WT_ret ?_
        | with_reducible refine WT_skip ?_
        | with_reducible refine WT_exit ?_
        | ((with_reducible refine hK' _ ?_); clear hK')
        | ((with_reducible refine hX ?_); clear hX hY)
        | ((with_reducible refine hY ?_); clear hX hY)
        | ((with_reducible refine And.intro (Or.inl rfl) ?_); (simp [e79, F79, e27, F27, fn1, fn2, fn3, q0, q1, q2, q3, hlt0, hy0]; try (simp (disch := omega) only [i64_wrap, g20_eq]; try simp [e79, F79, e27, F27, fn1, fn2, fn3, q0, q1, q2, q3, hlt0, hy0])))
        | with_reducible refine And.intro ?_ ?_
        | omega
        | intro h
      all_goals first | omega | (simp [hmw]; done) | trace_state
  · have hk' : k = x.length := by omega
    subst hk'
    have hmw : mw x y = (List.range x.length).countP (mwAt x y) := by
      by_cases h0 : 0 < x.length
      · have := hkin h0; simp [mw, this]
      · have : x.length = 0 := by omega
        simp [mw, this]
    repeat' first
      | with_reducible refine WT_seq fun K' hK' => ?_
      | with_reducible refine WT_region ?_
      | with_reducible refine WT_block ?_
      | ((with_reducible refine WT_cond fun X Y hX hY => ?_); (simp [e79, F79, e27, F27, fn1, fn2, fn3, q0, q1, q2, q3]; try (simp (disch := omega) only [i64_wrap, g20_eq]; try simp [e79, F79, e27, F27, fn1, fn2, fn3, q0, q1, q2, q3])))
      | ((with_reducible refine wrun_consN rfl fun K' hK' => ?_); (simp [e79, F79, e27, F27, fn1, fn2, fn3, q0, q1, q2, q3]; try (simp (disch := omega) only [i64_wrap, g20_eq]; try simp [e79, F79, e27, F27, fn1, fn2, fn3, q0, q1, q2, q3])))
      | ((with_reducible refine wrun_consG rfl (by with_unfolding_all exact rfl) fun K' hK' => ?_); (simp [e79, F79, e27, F27, fn1, fn2, fn3, q0, q1, q2, q3]; try (simp (disch := omega) only [i64_wrap, g20_eq]; try simp [e79, F79, e27, F27, fn1, fn2, fn3, q0, q1, q2, q3])))
      | with_reducible refine wrun_nil ?_
      | ((with_reducible refine wfront_consN (by with_unfolding_all exact rfl) rfl rfl ?_ fun K' hK' => ?_); (focus (first | exact rootless_none rfl | exact rootless_out rfl (by decide) | (refine rootless_in rfl ?_; (simp [e79, F79, e27, F27, fn1, fn2, fn3, q0, q1, q2, q3]; try (simp (disch := omega) only [i64_wrap, g20_eq]; try simp [e79, F79, e27, F27, fn1, fn2, fn3, q0, q1, q2, q3]))))); (simp [e79, F79, e27, F27, fn1, fn2, fn3, q0, q1, q2, q3]; try (simp (disch := omega) only [i64_wrap, g20_eq]; try simp [e79, F79, e27, F27, fn1, fn2, fn3, q0, q1, q2, q3])))
      | ((with_reducible refine wfront_consG (by with_unfolding_all exact rfl) rfl rfl (by with_unfolding_all exact rfl) ?_ fun K' hK' => ?_); (focus (first | exact rootless_none rfl | exact rootless_out rfl (by decide) | (refine rootless_in rfl ?_; (simp [e79, F79, e27, F27, fn1, fn2, fn3, q0, q1, q2, q3]; try (simp (disch := omega) only [i64_wrap, g20_eq]; try simp [e79, F79, e27, F27, fn1, fn2, fn3, q0, q1, q2, q3]))))); (simp [e79, F79, e27, F27, fn1, fn2, fn3, q0, q1, q2, q3]; try (simp (disch := omega) only [i64_wrap, g20_eq]; try simp [e79, F79, e27, F27, fn1, fn2, fn3, q0, q1, q2, q3])))
      | with_reducible refine wfront_tail (by with_unfolding_all exact rfl) ?_
      | with_reducible refine wfront_nil ?_
      | with_reducible refine WT_draw [20, 21, 22, 23, 24, 25, 26, 27, 28, 29, 30, 31, 32, 33, 34, 35, 36, 37, 38, 39, 40, 41, 42, 43, 44, 45, 46] (by with_unfolding_all decide) (by with_unfolding_all exact rfl) ?_
      | with_reducible refine then_normal ?_
      | with_reducible refine inBlock_normal ?_
      | with_reducible refine inBlock_ret ?_
      | with_reducible refine inBlock_exit ?_
      | with_reducible refine thenL_normal ?_
      | with_reducible refine thenL_ret ?_
      | with_reducible refine thenL_exit ?_
      | ((with_reducible refine then_ret ?_); clear hK')
      | ((with_reducible refine then_exit ?_); clear hK')
      | with_reducible refine inBlock_other (by decide) ?_
      | with_reducible refine WT_ret ?_
      | with_reducible refine WT_skip ?_
      | with_reducible refine WT_exit ?_
      | ((with_reducible refine hK' _ ?_); clear hK')
      | ((with_reducible refine hX ?_); clear hX hY)
      | ((with_reducible refine hY ?_); clear hX hY)
      | ((with_reducible refine And.intro (Or.inl rfl) ?_); (simp [e79, F79, e27, F27, fn1, fn2, fn3, q0, q1, q2, q3]; try (simp (disch := omega) only [i64_wrap, g20_eq]; try simp [e79, F79, e27, F27, fn1, fn2, fn3, q0, q1, q2, q3])))
      | with_reducible refine And.intro ?_ ?_
      | omega
      | intro h
    all_goals first | omega | (simp [hmw]; done) | trace_state
set_option maxHeartbeats 4000000 in
theorem con80 {Γ : Mv.Env} (hg : Mv.Good Try.prog Γ) : Contract Try.prog 80 F80 := by
  refine contract_fn hg (wdraw_ok hg mixed) Try.func80 rfl (by decide) (by decide) rfl (by decide) ?_
  intro us p hs
  obtain ⟨x, y, z, rfl, hr⟩ := fn3_inv hs
  clear hs
  cases hr
  refine ⟨rfl, ?_⟩
  dsimp only [Try.f80]
  simp only [cI, cI, cI, cL, cI, cT]
  by_cases h0 : y ≤ x
  all_goals by_cases h1 : x ≤ z
  all_goals
    repeat' first
      | with_reducible refine WT_seq fun K' hK' => ?_
      | with_reducible refine WT_region ?_
      | with_reducible refine WT_block ?_
      | ((with_reducible refine WT_cond fun X Y hX hY => ?_); (simp [h0, h1]; try (simp (disch := omega) only [i64_wrap, g20_eq]; try simp [h0, h1])))
      | ((with_reducible refine wrun_consN rfl fun K' hK' => ?_); (simp [h0, h1]; try (simp (disch := omega) only [i64_wrap, g20_eq]; try simp [h0, h1])))
      | ((with_reducible refine wrun_consG rfl (by with_unfolding_all exact rfl) fun K' hK' => ?_); (simp [h0, h1]; try (simp (disch := omega) only [i64_wrap, g20_eq]; try simp [h0, h1])))
      | with_reducible refine wrun_nil ?_
      | with_reducible refine then_normal ?_
      | with_reducible refine inBlock_normal ?_
      | with_reducible refine inBlock_ret ?_
      | with_reducible refine inBlock_exit ?_
      | with_reducible refine thenL_normal ?_
      | with_reducible refine thenL_ret ?_
      | with_reducible refine thenL_exit ?_
      | ((with_reducible refine then_ret ?_); clear hK')
      | ((with_reducible refine then_exit ?_); clear hK')
      | with_reducible refine inBlock_other (by decide) ?_
      | with_reducible refine WT_ret ?_
      | with_reducible refine WT_skip ?_
      | with_reducible refine WT_exit ?_
      | ((with_reducible refine hK' _ ?_); clear hK')
      | ((with_reducible refine hX ?_); clear hX hY)
      | ((with_reducible refine hY ?_); clear hX hY)
      | ((with_reducible refine And.intro (Or.inl rfl) ?_); (simp [h0, h1]; try (simp (disch := omega) only [i64_wrap, g20_eq]; try simp [h0, h1])))
      | with_reducible refine And.intro ?_ ?_
      | intro h
  all_goals first | rfl | (simp; done) | omega
set_option maxHeartbeats 4000000 in
theorem con29 {Γ : Mv.Env} (hg : Mv.Good Try.prog Γ) : Contract Try.prog 29 F29 := by
  refine contract_fn hg (wdraw_ok hg mixed) Try.func29 rfl (by decide) (by decide) rfl (by decide) ?_
  intro us p hs
  obtain ⟨x, y, rfl, hr⟩ := fn2_inv hs
  clear hs
  cases hr
  refine ⟨rfl, ?_⟩
  dsimp only [Try.f29]
  simp only [cEntry, cEntry, cL, cI, cT, DEntry.enc, beforeB]
  by_cases h0 : x.Ended ≤ y.Began
  all_goals by_cases h1 : x.Ended < y.Ended
  all_goals
    repeat' first
      | with_reducible refine WT_seq fun K' hK' => ?_
      | with_reducible refine WT_region ?_
      | with_reducible refine WT_block ?_
      | ((with_reducible refine WT_cond fun X Y hX hY => ?_); (simp [h0, h1]; try (simp (disch := omega) only [i64_wrap, g20_eq]; try simp [h0, h1])))
      | ((with_reducible refine wrun_consN rfl fun K' hK' => ?_); (simp [h0, h1]; try (simp (disch := omega) only [i64_wrap, g20_eq]; try simp [h0, h1])))
      | ((with_reducible refine wrun_consG rfl (by with_unfolding_all exact rfl) fun K' hK' => ?_); (simp [h0, h1]; try (simp (disch := omega) only [i64_wrap, g20_eq]; try simp [h0, h1])))
      | with_reducible refine wrun_nil ?_
      | with_reducible refine then_normal ?_
      | with_reducible refine inBlock_normal ?_
      | with_reducible refine inBlock_ret ?_
      | with_reducible refine inBlock_exit ?_
      | with_reducible refine thenL_normal ?_
      | with_reducible refine thenL_ret ?_
      | with_reducible refine thenL_exit ?_
      | ((with_reducible refine then_ret ?_); clear hK')
      | ((with_reducible refine then_exit ?_); clear hK')
      | with_reducible refine inBlock_other (by decide) ?_
      | with_reducible refine WT_ret ?_
      | with_reducible refine WT_skip ?_
      | with_reducible refine WT_exit ?_
      | ((with_reducible refine hK' _ ?_); clear hK')
      | ((with_reducible refine hX ?_); clear hX hY)
      | ((with_reducible refine hY ?_); clear hX hY)
      | ((with_reducible refine And.intro (Or.inl rfl) ?_); (simp [h0, h1]; try (simp (disch := omega) only [i64_wrap, g20_eq]; try simp [h0, h1])))
      | with_reducible refine And.intro ?_ ?_
      | intro h
  all_goals first | rfl | (simp; done) | omega
end Go.Mv
