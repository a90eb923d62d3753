/-
  The walks of some functions that a law reaches: each is shown to do to trees what its plain function tells; no statement of the seat by itself; no conditions.
-/
import Derived.Test.YtdkjhbbddlognaaWRespectsTime0
namespace Go.Mv
open Go.Proofs
set_option linter.unusedVariables false
set_option linter.unusedSimpArgs false
set_option maxRecDepth 10000
set_option maxHeartbeats 4000000 in
theorem con27 {Γ : Mv.Env} (hg : Mv.Good Try.prog Γ) : Contract Try.prog 27 F27 := by
  refine contract_fn hg (wdraw_ok hg mixed) Try.func27 rfl (by decide) (by decide) rfl (by decide) ?_
  intro us p hs
  obtain ⟨x, y, rfl, hr⟩ := fn2_inv hs
  clear hs
  cases hr
  refine ⟨rfl, ?_⟩
  dsimp only [Try.f27]
  simp only [cEntry, cEntry, cL, cI, cT, DEntry.enc]
  by_cases h0 : x.Ended ≤ y.Began
  all_goals by_cases h1 : x.Ended < y.Ended
  all_goals
    repeat' first
      | with_reducible refine WT_seq fun K' hK' => ?_
      | with_reducible refine WT_region ?_
      | with_reducible refine WT_block ?_
      | ((with_reducible refine WT_cond fun X Y hX hY => ?_); (simp [h0, h1]; try (simp (disch := omega) only [i64_wrap, g20_eq]; try simp [h0, h1])))
      | ((with_reducible refine wrun_consN rfl fun K' hK' => ?_); (simp [h0, h1]; try (simp (disch := omega) only [i64_wrap, g20_eq]; try simp [h0, h1])))
      | ((with_reducible refine wrun_consG rfl (by with_unfolding_all exact rfl) fun K' hK' => ?_); (simp [h0, h1]; try (simp (disch := omega) only [i64_wrap, g20_eq]; try simp [h0, h1])))
      | with_reducible refine wrun_nil ?_
      | with_reducible refine then_normal ?_
      | with_reducible refine inBlock_normal ?_
      | with_reducible refine inBlock_ret ?_
      | with_reducible refine inBlock_exit ?_
      | with_reducible refine thenL_normal ?_
      | with_reducible refine thenL_ret ?_
      | with_reducible refine thenL_exit ?_
      | ((with_reducible refine then_ret ?_); clear hK')
      | ((with_reducible refine then_exit ?_); clear hK')
      | with_reducible refine inBlock_other (by decide) ?_
      | with_reducible refine WT_ret ?_
      | with_reducible refine WT_skip ?_
      | with_reducible refine WT_exit ?_
      | ((with_reducible refine hK' _ ?_); clear hK')
      | ((with_reducible refine hX ?_); clear hX hY)
      | ((with_reducible refine hY ?_); clear hX hY)
      | ((with_reducible refine And.intro (Or.inl rfl) ?_); (simp [h0, h1]; try (simp (disch := omega) only [i64_wrap, g20_eq]; try simp [h0, h1])))
      | with_reducible refine And.intro ?_ ?_
      | intro h
  all_goals first | rfl | (simp; done) | omega
set_option maxHeartbeats 4000000 in
theorem con38 {Γ : Mv.Env} (hg : Mv.Good Try.prog Γ) (e27 : Γ 27 = some F27) : Contract Try.prog 38 F38 := by
  refine contract_fn hg (wdraw_ok hg mixed) Try.func38 rfl (by decide) (by decide) rfl (by decide) ?_
  intro us p hs
  obtain ⟨x, rfl, hr⟩ := fn1_inv hs
  clear hs
  cases hr
  refine ⟨rfl, ?_⟩
  dsimp only [Try.f38]
  simp only [lEntry, cL]
  repeat' first
    | with_reducible refine WT_seq fun K' hK' => ?_
    | with_reducible refine WT_region ?_
    | with_reducible refine WT_block ?_
    | ((with_reducible refine WT_cond fun X Y hX hY => ?_); (simp [e27, F27, fn1, fn2, fn3]; try (simp (disch := omega) only [i64_wrap, g20_eq]; try simp [e27, F27, fn1, fn2, fn3])))
    | ((with_reducible refine wrun_consN rfl fun K' hK' => ?_); (simp [e27, F27, fn1, fn2, fn3]; try (simp (disch := omega) only [i64_wrap, g20_eq]; try simp [e27, F27, fn1, fn2, fn3])))
    | ((with_reducible refine wrun_consG rfl (by with_unfolding_all exact rfl) fun K' hK' => ?_); (simp [e27, F27, fn1, fn2, fn3]; try (simp (disch := omega) only [i64_wrap, g20_eq]; try simp [e27, F27, fn1, fn2, fn3])))
    | with_reducible refine wrun_nil ?_
    | ((with_reducible refine wfront_consN (by with_unfolding_all exact rfl) rfl rfl ?_ fun K' hK' => ?_); (focus (first | exact rootless_none rfl | exact rootless_out rfl (by decide) | (refine rootless_in rfl ?_; (simp [e27, F27, fn1, fn2, fn3]; try (simp (disch := omega) only [i64_wrap, g20_eq]; try simp [e27, F27, fn1, fn2, fn3]))))); (simp [e27, F27, fn1, fn2, fn3]; try (simp (disch := omega) only [i64_wrap, g20_eq]; try simp [e27, F27, fn1, fn2, fn3])))
    | ((with_reducible refine wfront_consG (by with_unfolding_all exact rfl) rfl rfl (by with_unfolding_all exact rfl) ?_ fun K' hK' => ?_); (focus (first | exact rootless_none rfl | exact rootless_out rfl (by decide) | (refine rootless_in rfl ?_; (simp [e27, F27, fn1, fn2, fn3]; try (simp (disch := omega) only [i64_wrap, g20_eq]; try simp [e27, F27, fn1, fn2, fn3]))))); (simp [e27, F27, fn1, fn2, fn3]; try (simp (disch := omega) only [i64_wrap, g20_eq]; try simp [e27, F27, fn1, fn2, fn3])))
    | with_reducible refine wfront_tail (by with_unfolding_all exact rfl) ?_
    | with_reducible refine wfront_nil ?_
    | with_reducible refine WT_draw [16, 17, 18, 19, 20, 21, 22, 23, 24] (by with_unfolding_all decide) (by with_unfolding_all exact rfl) ?_
    | with_reducible refine then_normal ?_
    | with_reducible refine inBlock_normal ?_
    | with_reducible refine inBlock_ret ?_
    | with_reducible refine inBlock_exit ?_
    | with_reducible refine thenL_normal ?_
    | with_reducible refine thenL_ret ?_
    | with_reducible refine thenL_exit ?_
    | ((with_reducible refine then_ret ?_); clear hK')
    | ((with_reducible refine then_exit ?_); clear hK')
    | with_reducible refine inBlock_other (by decide) ?_
    | with_reducible refine WT_ret ?_
    | with_reducible refine WT_skip ?_
    | with_reducible refine WT_exit ?_
    | ((with_reducible refine hK' _ ?_); clear hK')
    | ((with_reducible refine hX ?_); clear hX hY)
    | ((with_reducible refine hY ?_); clear hX hY)
    | ((with_reducible refine And.intro (Or.inl rfl) ?_); (simp [e27, F27, fn1, fn2, fn3]; try (simp (disch := omega) only [i64_wrap, g20_eq]; try simp [e27, F27, fn1, fn2, fn3])))
    | with_reducible refine And.intro ?_ ?_
    | intro h
  refine WT_loopL (fun m σ => ∃ i, i ≤ x.length ∧ m = x.length - i ∧ σ.slot 0 = .tr none (.sl false 8 (x.map (DEntry.enc false))) ∧ σ.slot 3 = .tr none (.sc (.int .i64 i)) ∧ allB (fun i => allB (respAt x i) i) i = true) ⟨_, 0, by omega, rfl, by simp, by simp, rfl⟩ ?_
  rintro m σ ⟨i, hi, rfl, q0, q1, hall⟩
  have hq := allB_step hall
  by_cases hlt0 : i < x.length
  · obtain ⟨u, hu⟩ := get_some hlt0
    repeat' first
      | with_reducible refine WT_seq fun K' hK' => ?_
      | with_reducible refine WT_region ?_
      | with_reducible refine WT_block ?_
      | ((with_reducible refine WT_cond fun X Y hX hY => ?_); (simp [e27, F27, fn1, fn2, fn3, q0, q1, hlt0]; try (simp (disch := omega) only [i64_wrap, g20_eq]; try simp [e27, F27, fn1, fn2, fn3, q0, q1, hlt0])))
      | ((with_reducible refine wrun_consN rfl fun K' hK' => ?_); (simp [e27, F27, fn1, fn2, fn3, q0, q1, hlt0]; try (simp (disch := omega) only [i64_wrap, g20_eq]; try simp [e27, F27, fn1, fn2, fn3, q0, q1, hlt0])))
      | ((with_reducible refine wrun_consG rfl (by with_unfolding_all exact rfl) fun K' hK' => ?_); (simp [e27, F27, fn1, fn2, fn3, q0, q1, hlt0]; try (simp (disch := omega) only [i64_wrap, g20_eq]; try simp [e27, F27, fn1, fn2, fn3, q0, q1, hlt0])))
      | with_reducible refine wrun_nil ?_
      | ((with_reducible refine wfront_consN (by with_unfolding_all exact rfl) rfl rfl ?_ fun K' hK' => ?_); (focus (first | exact rootless_none rfl | exact rootless_out rfl (by decide) | (refine rootless_in rfl ?_; (simp [e27, F27, fn1, fn2, fn3, q0, q1, hlt0]; try (simp (disch := omega) only [i64_wrap, g20_eq]; try simp [e27, F27, fn1, fn2, fn3, q0, q1, hlt0]))))); (simp [e27, F27, fn1, fn2, fn3, q0, q1, hlt0]; try (simp (disch := omega) only [i64_wrap, g20_eq]; try simp [e27, F27, fn1, fn2, fn3, q0, q1, hlt0])))
      | ((with_reducible refine wfront_consG (by with_unfolding_all exact rfl) rfl rfl (by with_unfolding_all exact rfl) ?_ fun K' hK' => ?_); (focus (first | exact rootless_none rfl | exact rootless_out rfl (by decide) | (refine rootless_in rfl ?_; (simp [e27, F27, fn1, fn2, fn3, q0, q1, hlt0]; try (simp (disch := omega) only [i64_wrap, g20_eq]; try simp [e27, F27, fn1, fn2, fn3, q0, q1, hlt0]))))); (simp [e27, F27, fn1, fn2, fn3, q0, q1, hlt0]; try (simp (disch := omega) only [i64_wrap, g20_eq]; try simp [e27, F27, fn1, fn2, fn3, q0, q1, hlt0])))
      | with_reducible refine wfront_tail (by with_unfolding_all exact rfl) ?_
      | with_reducible refine wfront_nil ?_
      | with_reducible refine WT_draw [16, 17, 18, 19, 20, 21, 22, 23, 24] (by with_unfolding_all decide) (by with_unfolding_all exact rfl) ?_
      | with_reducible refine then_normal ?_
      | with_reducible refine inBlock_normal ?_
      | with_reducible refine inBlock_ret ?_
      | with_reducible refine inBlock_exit ?_
      | with_reducible refine thenL_normal ?_
      | with_reducible refine thenL_ret ?_
      | with_reducible refine thenL_exit ?_
      | ((with_reducible refine then_ret ?_); clear hK')
      | ((with_reducible refine then_exit ?_); clear hK')
      | with_reducible refine inBlock_other (by decide) ?_
      | with_reducible refine WT_ret ?_
      | with_reducible refine WT_skip ?_
      | with_reducible refine WT_exit ?_
      | ((with_reducible refine hK' _ ?_); clear hK')
      | ((with_reducible refine hX ?_); clear hX hY)
      | ((with_reducible refine hY ?_); clear hX hY)
      | ((with_reducible refine And.intro (Or.inl rfl) ?_); (simp [e27, F27, fn1, fn2, fn3, q0, q1, hlt0]; try (simp (disch := omega) only [i64_wrap, g20_eq]; try simp [e27, F27, fn1, fn2, fn3, q0, q1, hlt0])))
      | with_reducible refine And.intro ?_ ?_
      | omega
      | intro h
    all_goals try omega
    refine WT_loopL (fun m σ => ∃ k, k ≤ i ∧ m = i - k ∧ σ.slot 0 = .tr none (.sl false 8 (x.map (DEntry.enc false))) ∧ σ.slot 3 = .tr none (.sc (.int .i64 i)) ∧ σ.slot 4 = .tr none (.sc (.int .i64 k)) ∧ allB (respAt x i) k = true) ⟨_, 0, by omega, rfl, by simp [q0], by simp [q1], by simp, rfl⟩ ?_
    rintro m σ ⟨k, hk, rfl, r0, r1, r2, hin⟩
    have hst := allB_step hin
    by_cases hlt1 : k < i
    · obtain ⟨v, hv⟩ := get_some (l := x) (k := k) (by omega)
      have hst' : respAt x i k = !(decide (u.Ended ≤ v.Began) && decide (u.Ended < v.Ended)) := by simp [respAt, hu, hv, beforeB]
      rw [hst'] at hst
      by_cases h1 : u.Ended ≤ v.Began <;> by_cases h2 : u.Ended < v.Ended
      all_goals
        repeat' first
          | with_reducible refine WT_seq fun K' hK' => ?_
          | with_reducible refine WT_region ?_
          | with_reducible refine WT_block ?_
          | ((with_reducible refine WT_cond fun X Y hX hY => ?_); (simp [e27, F27, fn1, fn2, fn3, r0, r1, r2, DEntry.enc, DEntry.dec, hu, hv, h1, h2]; try (simp (disch := omega) only [i64_wrap, g20_eq]; try simp [e27, F27, fn1, fn2, fn3, r0, r1, r2, DEntry.enc, DEntry.dec, hu, hv, h1, h2])))
          | ((with_reducible refine wrun_consN rfl fun K' hK' => ?_); (simp [e27, F27, fn1, fn2, fn3, r0, r1, r2, DEntry.enc, DEntry.dec, hu, hv, h1, h2]; try (simp (disch := omega) only [i64_wrap, g20_eq]; try simp [e27, F27, fn1, fn2, fn3, r0, r1, r2, DEntry.enc, DEntry.dec, hu, hv, h1, h2])))
          | ((with_reducible refine wrun_consG rfl (by with_unfolding_all exact rfl) fun K' hK' => ?_); (simp [e27, F27, fn1, fn2, fn3, r0, r1, r2, DEntry.enc, DEntry.dec, hu, hv, h1, h2]; try (simp (disch := omega) only [i64_wrap, g20_eq]; try simp [e27, F27, fn1, fn2, fn3, r0, r1, r2, DEntry.enc, DEntry.dec, hu, hv, h1, h2])))
          | with_reducible refine wrun_nil ?_
          | ((with_reducible refine wfront_consN (by with_unfolding_all exact rfl) rfl rfl ?_ fun K' hK' => ?_); (focus (first | exact rootless_none rfl | exact rootless_out rfl (by decide) | (refine rootless_in rfl ?_; (simp [e27, F27, fn1, fn2, fn3, r0, r1, r2, DEntry.enc, DEntry.dec, hu, hv, h1, h2]; try (simp (disch := omega) only [i64_wrap, g20_eq]; try simp [e27, F27, fn1, fn2, fn3, r0, r1, r2, DEntry.enc, DEntry.dec, hu, hv, h1, h2]))))); (simp [e27, F27, fn1, fn2, fn3, r0, r1, r2, DEntry.enc, DEntry.dec, hu, hv, h1, h2]; try (simp (disch := omega) only [i64_wrap, g20_eq]; try simp [e27, F27, fn1, fn2, fn3, r0, r1, r2, DEntry.enc, DEntry.dec, hu, hv, h1, h2])))
          | ((with_reducible refine wfront_consG (by with_unfolding_all exact rfl) rfl rfl (by with_unfolding_all exact rfl) ?_ fun K' hK' => ?_); (focus (first | exact rootless_none rfl | exact rootless_out rfl (by decide) | (refine rootless_in rfl ?_; (simp [e27, F27, fn1, fn2, fn3, r0, r1, r2, DEntry.enc, DEntry.dec, hu, hv, h1, h2]; try (simp (disch := omega) only [i64_wrap, g20_eq]; try simp [e27, F27, fn1, fn2, fn3, r0, r1, r2, DEntry.enc, DEntry.dec, hu, hv, h1, h2]))))); (simp [e27, F27, fn1, fn2, fn3, r0, r1, r2, DEntry.enc, DEntry.dec, hu, hv, h1, h2]; try (simp (disch := omega) only [i64_wrap, g20_eq]; try simp [e27, F27, fn1, fn2, fn3, r0, r1, r2, DEntry.enc, DEntry.dec, hu, hv, h1, h2])))
          | with_reducible refine wfront_tail (by with_unfolding_all exact rfl) ?_
          | with_reducible refine wfront_nil ?_
          | with_reducible refine WT_draw [16, 17, 18, 19, 20, 21, 22, 23, 24] (by with_unfolding_all decide) (by with_unfolding_all exact rfl) ?_
          | with_reducible refine then_normal ?_
          | with_reducible refine inBlock_normal ?_
          | with_reducible refine inBlock_ret ?_
          | with_reducible refine inBlock_exit ?_
          | with_reducible refine thenL_normal ?_
          | with_reducible refine thenL_ret ?_
          | with_reducible refine thenL_exit ?_
          | ((with_reducible refine then_ret ?_); clear hK')
          | ((with_reducible refine then_exit ?_); clear hK')
          | with_reducible refine inBlock_other (by decide) ?_
          | with_reducible refine WT_ret ?_
          | with_reducible refine WT_skip ?_
          | with_reducible refine WT_exit ?_
          | ((with_reducible refine hK' _ ?_); clear hK')
          | ((with_reducible refine hX ?_); clear hX hY)
          | ((with_reducible refine hY ?_); clear hX hY)
          | ((with_reducible refine And.intro (Or.inl rfl) ?_); (simp [e27, F27, fn1, fn2, fn3, r0, r1, r2, DEntry.enc, DEntry.dec, hu, hv, h1, h2]; try (simp (disch := omega) only [i64_wrap, g20_eq]; try simp [e27, F27, fn1, fn2, fn3, r0, r1, r2, DEntry.enc, DEntry.dec, hu, hv, h1, h2])))
          | with_reducible refine And.intro ?_ ?_
          | omega
          | intro h
      all_goals first
        | omega
        | exact (allB_false hlt0 (allB_false hlt1 (by rw [hst']; simp [h1, h2]))).symm
        | exact allB_false hlt0 (allB_false hlt1 (by rw [hst']; simp [h1, h2]))
        | exact ⟨i - (k + 1), by omega, k + 1, by omega, rfl, by simp [r0], by simp [r1], by simp, by rw [hst]; simp [h1, h2]⟩
        | trace_state
    · have hk' : k = i := by omega
      subst hk'
      repeat' first
        | with_reducible refine WT_seq fun K' hK' => ?_
        | with_reducible refine WT_region ?_
        | with_reducible refine WT_block ?_
        | ((with_reducible refine WT_cond fun X Y hX hY => ?_); (simp [e27, F27, fn1, fn2, fn3, r0, r1, r2]; try (simp (disch := omega) only [i64_wrap, g20_eq]; try simp [e27, F27, fn1, fn2, fn3, r0, r1, r2])))
        | ((with_reducible refine wrun_consN rfl fun K' hK' => ?_); (simp [e27, F27, fn1, fn2, fn3, r0, r1, r2]; try (simp (disch := omega) only [i64_wrap, g20_eq]; try simp [e27, F27, fn1, fn2, fn3, r0, r1, r2])))
        | ((with_reducible refine wrun_consG rfl (by with_unfolding_all exact rfl) fun K' hK' => ?_); (simp [e27, F27, fn1, fn2, fn3, r0, r1, r2]; try (simp (disch := omega) only [i64_wrap, g20_eq]; try simp [e27, F27, fn1, fn2, fn3, r0, r1, r2])))
        | with_reducible refine wrun_nil ?_
        | ((with_reducible refine wfront_consN (by with_unfolding_all exact rfl) rfl rfl ?_ fun K' hK' => ?_); (focus (first | exact rootless_none rfl | exact rootless_out rfl (by decide) | (refine rootless_in rfl ?_; (simp [e27, F27, fn1, fn2, fn3, r0, r1, r2]; try (simp (disch := omega) only [i64_wrap, g20_eq]; try simp [e27, F27, fn1, fn2, fn3, r0, r1, r2]))))); (simp [e27, F27, fn1, fn2, fn3, r0, r1, r2]; try (simp (disch := omega) only [i64_wrap, g20_eq]; try simp [e27, F27, fn1, fn2, fn3, r0, r1, r2])))
        | ((with_reducible refine wfront_consG (by with_unfolding_all exact rfl) rfl rfl (by with_unfolding_all exact rfl) ?_ fun K' hK' => ?_); (focus (first | exact rootless_none rfl | exact rootless_out rfl (by decide) | (refine rootless_in rfl ?_; (simp [e27, F27, fn1, fn2, fn3, r0, r1, r2]; try (simp (disch := omega) only [i64_wrap, g20_eq]; try simp [e27, F27, fn1, fn2, fn3, r0, r1, r2]))))); (simp [e27, F27, fn1, fn2, fn3, r0, r1, r2]; try (simp (disch := omega) only [i64_wrap, g20_eq]; try simp [e27, F27, fn1, fn2, fn3, r0, r1, r2])))
        | with_reducible refine wfront_tail (by with_unfolding_all exact rfl) ?_
        | with_reducible refine wfront_nil ?_
        | with_reducible refine WT_draw [16, 17, 18, 19, 20, 21, 22, 23, 24] (by with_unfolding_all decide) (by with_unfolding_all exact rfl) ?_
        | with_reducible refine then_normal ?_
        | with_reducible refine inBlock_normal ?_
        | with_reducible refine inBlock_ret ?_
        | with_reducible refine inBlock_exit ?_
        | with_reducible refine thenL_normal ?_
        | with_reducible refine thenL_ret ?_
        | with_reducible refine thenL_exit ?_
        | ((with_reducible refine then_ret ?_); clear hK')
        | ((with_reducible refine then_exit ?_); clear hK')
        | with_reducible refine inBlock_other (by decide) ?_
        | with_reducible refine WT_ret ?_
        | with_reducible refine WT_skip ?_
        | with_reducible refine WT_exit ?_
        | ((with_reducible refine hK' _ ?_); clear hK')
        | ((with_reducible refine hX ?_); clear hX hY)
        | ((with_reducible refine hY ?_); clear hX hY)
        | ((with_reducible refine And.intro (Or.inl rfl) ?_); (simp [e27, F27, fn1, fn2, fn3, r0, r1, r2]; try (simp (disch := omega) only [i64_wrap, g20_eq]; try simp [e27, F27, fn1, fn2, fn3, r0, r1, r2])))
        | with_reducible refine And.intro ?_ ?_
        | omega
        | intro h
      all_goals first
        | omega
        | exact ⟨x.length - (k + 1), by omega, k + 1, by omega, rfl, by simp [r0], by simp, hq.trans hin⟩
        | trace_state
  · have hk' : i = x.length := by omega
    subst hk'
    repeat' first
      | with_reducible refine WT_seq fun K' hK' => ?_
      | with_reducible refine WT_region ?_
      | with_reducible refine WT_block ?_
      | ((with_reducible refine WT_cond fun X Y hX hY => ?_); (simp [e27, F27, fn1, fn2, fn3, q0, q1]; try (simp (disch := omega) only [i64_wrap, g20_eq]; try simp [e27, F27, fn1, fn2, fn3, q0, q1])))
      | ((with_reducible refine wrun_consN rfl fun K' hK' => ?_); (simp [e27, F27, fn1, fn2, fn3, q0, q1]; try (simp (disch := omega) only [i64_wrap, g20_eq]; try simp [e27, F27, fn1, fn2, fn3, q0, q1])))
      | ((with_reducible refine wrun_consG rfl (by with_unfolding_all exact rfl) fun K' hK' => ?_); (simp [e27, F27, fn1, fn2, fn3, q0, q1]; try (simp (disch := omega) only [i64_wrap, g20_eq]; try simp [e27, F27, fn1, fn2, fn3, q0, q1])))
      | with_reducible refine wrun_nil ?_
      | ((with_reducible refine wfront_consN (by with_unfolding_all exact rfl) rfl rfl ?_ fun K' hK' => ?_); (focus (first | exact rootless_none rfl | exact rootless_out rfl (by decide) | (refine rootless_in rfl ?_; (simp [e27, F27, fn1, fn2, fn3, q0, q1]; try (simp (disch := omega) only [i64_wrap, g20_eq]; try simp [e27, F27, fn1, fn2, fn3, q0, q1]))))); (simp [e27, F27, fn1, fn2, fn3, q0, q1]; try (simp (disch := omega) only [i64_wrap, g20_eq]; try simp [e27, F27, fn1, fn2, fn3, q0, q1])))
      | ((with_reducible refine wfront_consG (by with_unfolding_all exact rfl) rfl rfl (by with_unfolding_all exact rfl) ?_ fun K' hK' => ?_); (focus (first | exact rootless_none rfl | exact rootless_out rfl (by decide) | (refine rootless_in rfl ?_; (simp [e27, F27, fn1, fn2, fn3, q0, q1]; try (simp (disch := omega) only [i64_wrap, g20_eq]; try simp [e27, F27, fn1, fn2, fn3, q0, q1]))))); (simp [e27, F27, fn1, fn2, fn3, q0, q1]; try (simp (disch := omega) only [i64_wrap, g20_eq]; try simp [e27, F27, fn1, fn2, fn3, q0, q1])))
      | with_reducible refine wfront_tail (by with_unfolding_all exact rfl) ?_
      | with_reducible refine wfront_nil ?_
      | with_reducible refine WT_draw [16, 17, 18, 19, 20, 21, 22, 23, 24] (by with_unfolding_all decide) (by with_unfolding_all exact rfl) ?_
      | with_reducible refine then_normal ?_
      | with_reducible refine inBlock_normal ?_
      | with_reducible refine inBlock_ret ?_
      | with_reducible refine inBlock_exit ?_
      | with_reducible refine thenL_normal ?_
      | with_reducible refine thenL_ret ?_
      | with_reducible refine thenL_exit ?_
      | ((with_reducible refine then_ret ?_); clear hK')
      | ((with_reducible refine then_exit ?_); clear hK')
      | with_reducible refine inBlock_other (by decide) ?_
      | with_reducible refine WT_ret ?_
      | with_reducible refine WT_skip ?_
      | with_reducible refine WT_exit ?_
      | ((with_reducible refine hK' _ ?_); clear hK')
      | ((with_reducible refine hX ?_); clear hX hY)
      | ((with_reducible refine hY ?_); clear hX hY)
      | ((with_reducible refine And.intro (Or.inl rfl) ?_); (simp [e27, F27, fn1, fn2, fn3, q0, q1]; try (simp (disch := omega) only [i64_wrap, g20_eq]; try simp [e27, F27, fn1, fn2, fn3, q0, q1])))
      | with_reducible refine And.intro ?_ ?_
      | omega
      | intro h
    all_goals first | rfl | rw [hall] | exact hall
set_option maxHeartbeats 4000000 in
theorem con29 {Γ : Mv.Env} (hg : Mv.Good Try.prog Γ) : Contract Try.prog 29 F29 := by
  refine contract_fn hg (wdraw_ok hg mixed) Try.func29 rfl (by decide) (by decide) rfl (by decide) ?_
  intro us p hs
  obtain ⟨x, y, rfl, hr⟩ := fn2_inv hs
  clear hs
  cases hr
  refine ⟨rfl, ?_⟩
  dsimp only [Try.f29]
  simp only [cEntry, cEntry, cL, cI, cT, DEntry.enc]
  by_cases h0 : x.Ended ≤ y.Began
  all_goals by_cases h1 : x.Ended < y.Ended
  all_goals
    repeat' first
      | with_reducible refine WT_seq fun K' hK' => ?_
      | with_reducible refine WT_region ?_
      | with_reducible refine WT_block ?_
      | ((with_reducible refine WT_cond fun X Y hX hY => ?_); (simp [h0, h1]; try (simp (disch := omega) only [i64_wrap, g20_eq]; try simp [h0, h1])))
      | ((with_reducible refine wrun_consN rfl fun K' hK' => ?_); (simp [h0, h1]; try (simp (disch := omega) only [i64_wrap, g20_eq]; try simp [h0, h1])))
      | ((with_reducible refine wrun_consG rfl (by with_unfolding_all exact rfl) fun K' hK' => ?_); (simp [h0, h1]; try (simp (disch := omega) only [i64_wrap, g20_eq]; try simp [h0, h1])))
      | with_reducible refine wrun_nil ?_
      | with_reducible refine then_normal ?_
      | with_reducible refine inBlock_normal ?_
      | with_reducible refine inBlock_ret ?_
      | with_reducible refine inBlock_exit ?_
      | with_reducible refine thenL_normal ?_
      | with_reducible refine thenL_ret ?_
      | with_reducible refine thenL_exit ?_
      | ((with_reducible refine then_ret ?_); clear hK')
      | ((with_reducible refine then_exit ?_); clear hK')
      | with_reducible refine inBlock_other (by decide) ?_
      | with_reducible refine WT_ret ?_
      | with_reducible refine WT_skip ?_
      | with_reducible refine WT_exit ?_
      | ((with_reducible refine hK' _ ?_); clear hK')
      | ((with_reducible refine hX ?_); clear hX hY)
      | ((with_reducible refine hY ?_); clear hX hY)
      | ((with_reducible refine And.intro (Or.inl rfl) ?_); (simp [h0, h1]; try (simp (disch := omega) only [i64_wrap, g20_eq]; try simp [h0, h1])))
      | with_reducible refine And.intro ?_ ?_
      | intro h
  all_goals first | rfl | (simp; done) | omega
set_option maxHeartbeats 4000000 in
theorem con39 {Γ : Mv.Env} (hg : Mv.Good Try.prog Γ) (e29 : Γ 29 = some F29) : Contract Try.prog 39 F39 := by
  refine contract_fn hg (wdraw_ok hg mixed) Try.func39 rfl (by decide) (by decide) rfl (by decide) ?_
  intro us p hs
  obtain ⟨x, rfl, hr⟩ := fn1_inv hs
  clear hs
  cases hr
  refine ⟨rfl, ?_⟩
  dsimp only [Try.f39]
  simp only [lEntry, cL]
  repeat' first
    | with_reducible refine WT_seq fun K' hK' => ?_
    | with_reducible refine WT_region ?_
    | with_reducible refine WT_block ?_
    | ((with_reducible refine WT_cond fun X Y hX hY => ?_); (simp [e29, F29, fn1, fn2, fn3]; try (simp (disch := omega) only [i64_wrap, g20_eq]; try simp [e29, F29, fn1, fn2, fn3])))
    | ((with_reducible refine wrun_consN rfl fun K' hK' => ?_); (simp [e29, F29, fn1, fn2, fn3]; try (simp (disch := omega) only [i64_wrap, g20_eq]; try simp [e29, F29, fn1, fn2, fn3])))
    | ((with_reducible refine wrun_consG rfl (by with_unfolding_all exact rfl) fun K' hK' => ?_); (simp [e29, F29, fn1, fn2, fn3]; try (simp (disch := omega) only [i64_wrap, g20_eq]; try simp [e29, F29, fn1, fn2, fn3])))
    | with_reducible refine wrun_nil ?_
    | with_reducible refine then_normal ?_
    | with_reducible refine inBlock_normal ?_
    | with_reducible refine inBlock_ret ?_
    | with_reducible refine inBlock_exit ?_
    | with_reducible refine thenL_normal ?_
    | with_reducible refine thenL_ret ?_
    | with_reducible refine thenL_exit ?_
    | ((with_reducible refine then_ret ?_); clear hK')
    | ((with_reducible refine then_exit ?_); clear hK')
    | with_reducible refine inBlock_other (by decide) ?_
    | with_reducible refine WT_ret ?_
    | with_reducible refine WT_skip ?_
    | with_reducible refine WT_exit ?_
    | ((with_reducible refine hK' _ ?_); clear hK')
    | ((with_reducible refine hX ?_); clear hX hY)
    | ((with_reducible refine hY ?_); clear hX hY)
    | ((with_reducible refine And.intro (Or.inl rfl) ?_); (simp [e29, F29, fn1, fn2, fn3]; try (simp (disch := omega) only [i64_wrap, g20_eq]; try simp [e29, F29, fn1, fn2, fn3])))
    | with_reducible refine And.intro ?_ ?_
    | intro h
  refine WT_loopL (fun m σ => ∃ i, i ≤ x.length ∧ m = x.length - i ∧ σ.slot 0 = .tr none (.sl false 8 (x.map (DEntry.enc false))) ∧ σ.slot 7 = .tr none (.sl false 8 (x.map (DEntry.enc false))) ∧ σ.slot 8 = .tr none (.sc (.int .i64 x.length)) ∧ σ.slot 9 = .tr none (.sc (.int .i64 i)) ∧ allB (fun i => allB (respAt x i) i) i = true) ⟨_, 0, by omega, rfl, by simp, by simp, by simp, by simp, rfl⟩ ?_
  rintro m σ ⟨i, hi, rfl, q0, q1, q2, q3, hall⟩
  have hq := allB_step hall
  by_cases hlt0 : i < x.length
  · obtain ⟨u, hu⟩ := get_some hlt0
    have hu2 : x[i] = u := (List.getElem?_eq_some_iff.mp hu).2
    have hmin : min i x.length = i := by omega
    repeat' first
      | with_reducible refine WT_seq fun K' hK' => ?_
      | with_reducible refine WT_region ?_
      | with_reducible refine WT_block ?_
      | ((with_reducible refine WT_cond fun X Y hX hY => ?_); (simp [e29, F29, fn1, fn2, fn3, q0, q1, q2, q3, hlt0, hu, hu2, hmin, DEntry.enc, DEntry.dec]; try (simp (disch := omega) only [i64_wrap, g20_eq]; try simp [e29, F29, fn1, fn2, fn3, q0, q1, q2, q3, hlt0, hu, hu2, hmin, DEntry.enc, DEntry.dec])))
      | ((with_reducible refine wrun_consN rfl fun K' hK' => ?_); (simp [e29, F29, fn1, fn2, fn3, q0, q1, q2, q3, hlt0, hu, hu2, hmin, DEntry.enc, DEntry.dec]; try (simp (disch := omega) only [i64_wrap, g20_eq]; try simp [e29, F29, fn1, fn2, fn3, q0, q1, q2, q3, hlt0, hu, hu2, hmin, DEntry.enc, DEntry.dec])))
      | ((with_reducible refine wrun_consG rfl (by with_unfolding_all exact rfl) fun K' hK' => ?_); (simp [e29, F29, fn1, fn2, fn3, q0, q1, q2, q3, hlt0, hu, hu2, hmin, DEntry.enc, DEntry.dec]; try (simp (disch := omega) only [i64_wrap, g20_eq]; try simp [e29, F29, fn1, fn2, fn3, q0, q1, q2, q3, hlt0, hu, hu2, hmin, DEntry.enc, DEntry.dec])))
      | with_reducible refine wrun_nil ?_
      | with_reducible refine then_normal ?_
      | with_reducible refine inBlock_normal ?_
      | with_reducible refine inBlock_ret ?_
      | with_reducible refine inBlock_exit ?_
      | with_reducible refine thenL_normal ?_
      | with_reducible refine thenL_ret ?_
      | with_reducible refine thenL_exit ?_
      | ((with_reducible refine then_ret ?_); clear hK')
      | ((with_reducible refine then_exit ?_); clear hK')
      | with_reducible refine inBlock_other (by decide) ?_
      | with_reducible refine WT_ret ?_
      | with_reducible refine WT_skip ?_
      | with_reducible refine WT_exit ?_
      | ((with_reducible refine hK' _ ?_); clear hK')
      | ((with_reducible refine hX ?_); clear hX hY)
      | ((with_reducible refine hY ?_); clear hX hY)
      | ((with_reducible refine And.intro (Or.inl rfl) ?_); (simp [e29, F29, fn1, fn2, fn3, q0, q1, q2, q3, hlt0, hu, hu2, hmin, DEntry.enc, DEntry.dec]; try (simp (disch := omega) only [i64_wrap, g20_eq]; try simp [e29, F29, fn1, fn2, fn3, q0, q1, q2, q3, hlt0, hu, hu2, hmin, DEntry.enc, DEntry.dec])))
      | with_reducible refine And.intro ?_ ?_
      | omega
      | intro h
    all_goals try omega
    refine WT_loopL (fun m σ => ∃ k, k ≤ i ∧ m = i - k ∧ σ.slot 0 = .tr none (.sl false 8 (x.map (DEntry.enc false))) ∧ σ.slot 7 = .tr none (.sl false 8 (x.map (DEntry.enc false))) ∧ σ.slot 8 = .tr none (.sc (.int .i64 x.length)) ∧ σ.slot 9 = .tr none (.sc (.int .i64 i)) ∧ σ.slot 16 = .tr none (.sl false 8 ((x.take i).map (DEntry.enc false))) ∧ σ.slot 17 = .tr none (.sc (.int .i64 i)) ∧ σ.slot 18 = .tr none (.sc (.int .i64 k)) ∧ σ.slot 4 = .pc 4 (σ.bver 4) 0 ∧ σ.box 4 = some ((DEntry.enc false u).map (SV.tr none)) ∧ allB (respAt x i) k = true) ⟨_, 0, by omega, rfl, by simp [q0, q1, q2, q3, hu2, hmin, DEntry.enc], by simp [q0, q1, q2, q3, hu2, hmin, DEntry.enc], by simp [q0, q1, q2, q3, hu2, hmin, DEntry.enc], by simp [q0, q1, q2, q3, hu2, hmin, DEntry.enc], by simp [q0, q1, q2, q3, hu2, hmin, DEntry.enc], by simp [q0, q1, q2, q3, hu2, hmin, DEntry.enc], by simp [q0, q1, q2, q3, hu2, hmin, DEntry.enc], by simp [q0, q1, q2, q3, hu2, hmin, DEntry.enc], by simp [q0, q1, q2, q3, hu2, hmin, DEntry.enc], rfl⟩ ?_
    rintro m σ ⟨k, hk, rfl, r0, r1, r2, r3, r4, r5, r6, r7, r8, hin⟩
    have hst := allB_step hin
    by_cases hlt1 : k < i
    · obtain ⟨v, hv⟩ := get_some (l := x) (k := k) (by omega)
      have hv2 : x[k] = v := (List.getElem?_eq_some_iff.mp hv).2
      have hst' : respAt x i k = !(decide (u.Ended ≤ v.Began) && decide (u.Ended < v.Ended)) := by simp [respAt, hu, hv, beforeB]
      rw [hst'] at hst
      by_cases h1 : u.Ended ≤ v.Began <;> by_cases h2 : u.Ended < v.Ended
      all_goals
        repeat' first
          | with_reducible refine WT_seq fun K' hK' => ?_
          | with_reducible refine WT_region ?_
          | with_reducible refine WT_block ?_
          | ((with_reducible refine WT_cond fun X Y hX hY => ?_); (simp [e29, F29, fn1, fn2, fn3, r0, r1, r2, r3, r4, r5, r6, r7, r8, DEntry.enc, DEntry.dec, hv, hv2, hlt1, hmin, h1, h2]; try (simp (disch := omega) only [i64_wrap, g20_eq]; try simp [e29, F29, fn1, fn2, fn3, r0, r1, r2, r3, r4, r5, r6, r7, r8, DEntry.enc, DEntry.dec, hv, hv2, hlt1, hmin, h1, h2])))
          | ((with_reducible refine wrun_consN rfl fun K' hK' => ?_); (simp [e29, F29, fn1, fn2, fn3, r0, r1, r2, r3, r4, r5, r6, r7, r8, DEntry.enc, DEntry.dec, hv, hv2, hlt1, hmin, h1, h2]; try (simp (disch := omega) only [i64_wrap, g20_eq]; try simp [e29, F29, fn1, fn2, fn3, r0, r1, r2, r3, r4, r5, r6, r7, r8, DEntry.enc, DEntry.dec, hv, hv2, hlt1, hmin, h1, h2])))
          | ((with_reducible refine wrun_consG rfl (by with_unfolding_all exact rfl) fun K' hK' => ?_); (simp [e29, F29, fn1, fn2, fn3, r0, r1, r2, r3, r4, r5, r6, r7, r8, DEntry.enc, DEntry.dec, hv, hv2, hlt1, hmin, h1, h2]; try (simp (disch := omega) only [i64_wrap, g20_eq]; try simp [e29, F29, fn1, fn2, fn3, r0, r1, r2, r3, r4, r5, r6, r7, r8, DEntry.enc, DEntry.dec, hv, hv2, hlt1, hmin, h1, h2])))
          | with_reducible refine wrun_nil ?_
          | with_reducible refine then_normal ?_
          | with_reducible refine inBlock_normal ?_
          | with_reducible refine inBlock_ret ?_
          | with_reducible refine inBlock_exit ?_
          | with_reducible refine thenL_normal ?_
          | with_reducible refine thenL_ret ?_
          | with_reducible refine thenL_exit ?_
          | ((with_reducible refine then_ret ?_); clear hK')
          | ((with_reducible refine then_exit ?_); clear hK')
          | with_reducible refine inBlock_other (by decide) ?_
          | with_reducible refine WT_ret ?_
          | with_reducible refine WT_skip ?_
          | with_reducible refine WT_exit ?_
          | ((with_reducible refine hK' _ ?_); clear hK')
          | ((with_reducible refine hX ?_); clear hX hY)
          | ((with_reducible refine hY ?_); clear hX hY)
          | ((with_reducible refine And.intro (Or.inl rfl) ?_); (simp [e29, F29, fn1, fn2, fn3, r0, r1, r2, r3, r4, r5, r6, r7, r8, DEntry.enc, DEntry.dec, hv, hv2, hlt1, hmin, h1, h2]; try (simp (disch := omega) only [i64_wrap, g20_eq]; try simp [e29, F29, fn1, fn2, fn3, r0, r1, r2, r3, r4, r5, r6, r7, r8, DEntry.enc, DEntry.dec, hv, hv2, hlt1, hmin, h1, h2])))
          | with_reducible refine And.intro ?_ ?_
          | omega
          | intro h
      all_goals first
        | omega
        | exact (allB_false hlt0 (allB_false hlt1 (by rw [hst']; simp [h1, h2]))).symm
        | exact allB_false hlt0 (allB_false hlt1 (by rw [hst']; simp [h1, h2]))
        | exact ⟨i - (k + 1), by omega, k + 1, by omega, rfl, by simp [r0, r1, r2, r3, r4, r5, r6, r7, r8, DEntry.enc], by simp [r0, r1, r2, r3, r4, r5, r6, r7, r8, DEntry.enc], by simp [r0, r1, r2, r3, r4, r5, r6, r7, r8, DEntry.enc], by simp [r0, r1, r2, r3, r4, r5, r6, r7, r8, DEntry.enc], by simp [r0, r1, r2, r3, r4, r5, r6, r7, r8, DEntry.enc], by simp [r0, r1, r2, r3, r4, r5, r6, r7, r8, DEntry.enc], by simp [r0, r1, r2, r3, r4, r5, r6, r7, r8, DEntry.enc], by simp [r0, r1, r2, r3, r4, r5, r6, r7, r8, DEntry.enc], by simp [r0, r1, r2, r3, r4, r5, r6, r7, r8, DEntry.enc], by rw [hst]; simp [h1, h2]⟩
        | trace_state
    · have hk' : k = i := by omega
      subst hk'
      repeat' first
        | with_reducible refine WT_seq fun K' hK' => ?_
        | with_reducible refine WT_region ?_
        | with_reducible refine WT_block ?_
        | ((with_reducible refine WT_cond fun X Y hX hY => ?_); (simp [e29, F29, fn1, fn2, fn3, r0, r1, r2, r3, r4, r5, r6, r7, r8, DEntry.enc]; try (simp (disch := omega) only [i64_wrap, g20_eq]; try simp [e29, F29, fn1, fn2, fn3, r0, r1, r2, r3, r4, r5, r6, r7, r8, DEntry.enc])))
        | ((with_reducible refine wrun_consN rfl fun K' hK' => ?_); (simp [e29, F29, fn1, fn2, fn3, r0, r1, r2, r3, r4, r5, r6, r7, r8, DEntry.enc]; try (simp (disch := omega) only [i64_wrap, g20_eq]; try simp [e29, F29, fn1, fn2, fn3, r0, r1, r2, r3, r4, r5, r6, r7, r8, DEntry.enc])))
        | ((with_reducible refine wrun_consG rfl (by with_unfolding_all exact rfl) fun K' hK' => ?_); (simp [e29, F29, fn1, fn2, fn3, r0, r1, r2, r3, r4, r5, r6, r7, r8, DEntry.enc]; try (simp (disch := omega) only [i64_wrap, g20_eq]; try simp [e29, F29, fn1, fn2, fn3, r0, r1, r2, r3, r4, r5, r6, r7, r8, DEntry.enc])))
        | with_reducible refine wrun_nil ?_
        | with_reducible refine then_normal ?_
        | with_reducible refine inBlock_normal ?_
        | with_reducible refine inBlock_ret ?_
        | with_reducible refine inBlock_exit ?_
        | with_reducible refine thenL_normal ?_
        | with_reducible refine thenL_ret ?_
        | with_reducible refine thenL_exit ?_
        | ((with_reducible refine then_ret ?_); clear hK')
        | ((with_reducible refine then_exit ?_); clear hK')
        | with_reducible refine inBlock_other (by decide) ?_
        | with_reducible refine WT_ret ?_
        | with_reducible refine WT_skip ?_
        | with_reducible refine WT_exit ?_
        | ((with_reducible refine hK' _ ?_); clear hK')
        | ((with_reducible refine hX ?_); clear hX hY)
        | ((with_reducible refine hY ?_); clear hX hY)
        | ((with_reducible refine And.intro (Or.inl rfl) ?_); (simp [e29, F29, fn1, fn2, fn3, r0, r1, r2, r3, r4, r5, r6, r7, r8, DEntry.enc]; try (simp (disch := omega) only [i64_wrap, g20_eq]; try simp [e29, F29, fn1, fn2, fn3, r0, r1, r2, r3, r4, r5, r6, r7, r8, DEntry.enc])))
        | with_reducible refine And.intro ?_ ?_
        | omega
        | intro h
      all_goals first
        | omega
        | exact ⟨x.length - (k + 1), by omega, k + 1, by omega, rfl, by simp [r0], by simp [r1], by simp [r2], by simp, hq.trans hin⟩
        | trace_state
  · have hk' : i = x.length := by omega
    subst hk'
    repeat' first
      | with_reducible refine WT_seq fun K' hK' => ?_
      | with_reducible refine WT_region ?_
      | with_reducible refine WT_block ?_
      | ((with_reducible refine WT_cond fun X Y hX hY => ?_); (simp [e29, F29, fn1, fn2, fn3, q0, q1, q2, q3]; try (simp (disch := omega) only [i64_wrap, g20_eq]; try simp [e29, F29, fn1, fn2, fn3, q0, q1, q2, q3])))
      | ((with_reducible refine wrun_consN rfl fun K' hK' => ?_); (simp [e29, F29, fn1, fn2, fn3, q0, q1, q2, q3]; try (simp (disch := omega) only [i64_wrap, g20_eq]; try simp [e29, F29, fn1, fn2, fn3, q0, q1, q2, q3])))
      | ((with_reducible refine wrun_consG rfl (by with_unfolding_all exact rfl) fun K' hK' => ?_); (simp [e29, F29, fn1, fn2, fn3, q0, q1, q2, q3]; try (simp (disch := omega) only [i64_wrap, g20_eq]; try simp [e29, F29, fn1, fn2, fn3, q0, q1, q2, q3])))
      | with_reducible refine wrun_nil ?_
      | with_reducible refine then_normal ?_
      | with_reducible refine inBlock_normal ?_
      | with_reducible refine inBlock_ret ?_
      | with_reducible refine inBlock_exit ?_
      | with_reducible refine thenL_normal ?_
      | with_reducible refine thenL_ret ?_
      | with_reducible refine thenL_exit ?_
      | ((with_reducible refine then_ret ?_); clear hK')
      | ((with_reducible refine then_exit ?_); clear hK')
      | with_reducible refine inBlock_other (by decide) ?_
      | with_reducible refine WT_ret ?_
      | with_reducible refine WT_skip ?_
      | with_reducible refine WT_exit ?_
      | ((with_reducible refine hK' _ ?_); clear hK')
      | ((with_reducible refine hX ?_); clear hX hY)
      | ((with_reducible refine hY ?_); clear hX hY)
      | ((with_reducible refine And.intro (Or.inl rfl) ?_); (simp [e29, F29, fn1, fn2, fn3, q0, q1, q2, q3]; try (simp (disch := omega) only [i64_wrap, g20_eq]; try simp [e29, F29, fn1, fn2, fn3, q0, q1, q2, q3])))
      | with_reducible refine And.intro ?_ ?_
      | omega
      | intro h
    all_goals first | rfl | rw [hall] | exact hall
set_option maxHeartbeats 4000000 in
theorem con116 {Γ : Mv.Env} (hg : Mv.Good Try.prog Γ) : Contract Try.prog 116 F116 := by
  refine contract_fn hg (wdraw_ok hg mixed) Try.func116 rfl (by decide) (by decide) rfl (by decide) ?_
  intro us p hs
  obtain ⟨x, y, rfl, hr⟩ := fn2_inv hs
  clear hs
  cases hr
  refine ⟨rfl, ?_⟩
  dsimp only [Try.f116]
  simp only [cCall, cT, DCall.enc]
  repeat' first
    | with_reducible refine WT_seq fun K' hK' => ?_
    | with_reducible refine WT_region ?_
    | with_reducible refine WT_block ?_
    | ((with_reducible refine WT_cond fun X Y hX hY => ?_); simp [])
    | ((with_reducible refine wrun_consN rfl fun K' hK' => ?_); simp [])
    | ((with_reducible refine wrun_consG rfl (by with_unfolding_all exact rfl) fun K' hK' => ?_); simp [])
    | with_reducible refine wrun_nil ?_
    | with_reducible refine then_normal ?_
    | with_reducible refine inBlock_normal ?_
    | with_reducible refine inBlock_ret ?_
    | with_reducible refine inBlock_exit ?_
    | with_reducible refine thenL_normal ?_
    | with_reducible refine thenL_ret ?_
    | with_reducible refine thenL_exit ?_
    | ((with_reducible refine then_ret ?_); clear hK')
    | ((with_reducible refine then_exit ?_); clear hK')
    | with_reducible refine inBlock_other (by decide) ?_
    | with_reducible refine WT_ret ?_
    | with_reducible refine WT_skip ?_
    | with_reducible refine WT_exit ?_
    | ((with_reducible refine hK' _ ?_); clear hK')
    | ((with_reducible refine hX ?_); clear hX hY)
    | ((with_reducible refine hY ?_); clear hX hY)
    | ((with_reducible refine And.intro (Or.inl rfl) ?_); simp [])
    | with_reducible refine And.intro ?_ ?_
    | intro h
  all_goals (clear hg; simp [DCall.beq, *]; done)
set_option maxHeartbeats 4000000 in
theorem con86 {Γ : Mv.Env} (hg : Mv.Good Try.prog Γ) (e116 : Γ 116 = some F116) : Contract Try.prog 86 F86 := by
  refine contract_fn hg (wdraw_ok hg mixed) Try.func86 rfl (by decide) (by decide) rfl (by decide) ?_
  intro us p hs
  obtain ⟨x, y, rfl, hr⟩ := fn2_inv hs
  clear hs
  cases hr
  refine ⟨rfl, ?_⟩
  dsimp only [Try.f86]
  simp only [cStep, cT, DStep.enc]
  repeat' first
    | with_reducible refine WT_seq fun K' hK' => ?_
    | with_reducible refine WT_region ?_
    | with_reducible refine WT_block ?_
    | ((with_reducible refine WT_cond fun X Y hX hY => ?_); simp [e116, F116, fn1, fn2, fn3, DCall.dec])
    | ((with_reducible refine wrun_consN rfl fun K' hK' => ?_); simp [e116, F116, fn1, fn2, fn3, DCall.dec])
    | ((with_reducible refine wrun_consG rfl (by with_unfolding_all exact rfl) fun K' hK' => ?_); simp [e116, F116, fn1, fn2, fn3, DCall.dec])
    | with_reducible refine wrun_nil ?_
    | with_reducible refine then_normal ?_
    | with_reducible refine inBlock_normal ?_
    | with_reducible refine inBlock_ret ?_
    | with_reducible refine inBlock_exit ?_
    | with_reducible refine thenL_normal ?_
    | with_reducible refine thenL_ret ?_
    | with_reducible refine thenL_exit ?_
    | ((with_reducible refine then_ret ?_); clear hK')
    | ((with_reducible refine then_exit ?_); clear hK')
    | with_reducible refine inBlock_other (by decide) ?_
    | with_reducible refine WT_ret ?_
    | with_reducible refine WT_skip ?_
    | with_reducible refine WT_exit ?_
    | ((with_reducible refine hK' _ ?_); clear hK')
    | ((with_reducible refine hX ?_); clear hX hY)
    | ((with_reducible refine hY ?_); clear hX hY)
    | ((with_reducible refine And.intro (Or.inl rfl) ?_); simp [e116, F116, fn1, fn2, fn3, DCall.dec])
    | with_reducible refine And.intro ?_ ?_
    | intro h
  all_goals (clear hg; simp [DStep.beq, *]; done)
set_option maxHeartbeats 4000000 in
theorem con52 {Γ : Mv.Env} (hg : Mv.Good Try.prog Γ) (e86 : Γ 86 = some F86) : Contract Try.prog 52 F52 := by
  refine contract_fn hg (wdraw_ok hg mixed) Try.func52 rfl (by decide) (by decide) rfl (by decide) ?_
  intro us p hs
  obtain ⟨x, y, rfl, hr⟩ := fn2_inv hs
  clear hs
  cases hr
  refine ⟨rfl, ?_⟩
  dsimp only [Try.f52]
  simp only [lStep, cL]
  repeat' first
    | with_reducible refine WT_seq fun K' hK' => ?_
    | with_reducible refine WT_region ?_
    | with_reducible refine WT_block ?_
    | ((with_reducible refine WT_cond fun X Y hX hY => ?_); (simp [e86, F86, fn1, fn2, fn3, DStep.dec, DCall.dec]; try (simp (disch := omega) only [i64_wrap, g20_eq]; try simp [e86, F86, fn1, fn2, fn3, DStep.dec, DCall.dec])))
    | ((with_reducible refine wrun_consN rfl fun K' hK' => ?_); (simp [e86, F86, fn1, fn2, fn3, DStep.dec, DCall.dec]; try (simp (disch := omega) only [i64_wrap, g20_eq]; try simp [e86, F86, fn1, fn2, fn3, DStep.dec, DCall.dec])))
    | ((with_reducible refine wrun_consG rfl (by with_unfolding_all exact rfl) fun K' hK' => ?_); (simp [e86, F86, fn1, fn2, fn3, DStep.dec, DCall.dec]; try (simp (disch := omega) only [i64_wrap, g20_eq]; try simp [e86, F86, fn1, fn2, fn3, DStep.dec, DCall.dec])))
    | with_reducible refine wrun_nil ?_
    | ((with_reducible refine wfront_consN (by with_unfolding_all exact rfl) rfl rfl ?_ fun K' hK' => ?_); (focus (first | exact rootless_none rfl | exact rootless_out rfl (by decide) | (refine rootless_in rfl ?_; (simp [e86, F86, fn1, fn2, fn3, DStep.dec, DCall.dec]; try (simp (disch := omega) only [i64_wrap, g20_eq]; try simp [e86, F86, fn1, fn2, fn3, DStep.dec, DCall.dec]))))); (simp [e86, F86, fn1, fn2, fn3, DStep.dec, DCall.dec]; try (simp (disch := omega) only [i64_wrap, g20_eq]; try simp [e86, F86, fn1, fn2, fn3, DStep.dec, DCall.dec])))
    | ((with_reducible refine wfront_consG (by with_unfolding_all exact rfl) rfl rfl (by with_unfolding_all exact rfl) ?_ fun K' hK' => ?_); (focus (first | exact rootless_none rfl | exact rootless_out rfl (by decide) | (refine rootless_in rfl ?_; (simp [e86, F86, fn1, fn2, fn3, DStep.dec, DCall.dec]; try (simp (disch := omega) only [i64_wrap, g20_eq]; try simp [e86, F86, fn1, fn2, fn3, DStep.dec, DCall.dec]))))); (simp [e86, F86, fn1, fn2, fn3, DStep.dec, DCall.dec]; try (simp (disch := omega) only [i64_wrap, g20_eq]; try simp [e86, F86, fn1, fn2, fn3, DStep.dec, DCall.dec])))
    | with_reducible refine wfront_tail (by with_unfolding_all exact rfl) ?_
    | with_reducible refine wfront_nil ?_
    | with_reducible refine WT_draw [17, 18, 19, 20, 21, 22, 23, 24, 25, 26] (by with_unfolding_all decide) (by with_unfolding_all exact rfl) ?_
    | with_reducible refine then_normal ?_
    | with_reducible refine inBlock_normal ?_
    | with_reducible refine inBlock_ret ?_
    | with_reducible refine inBlock_exit ?_
    | with_reducible refine thenL_normal ?_
    | with_reducible refine thenL_ret ?_
    | with_reducible refine thenL_exit ?_
    | ((with_reducible refine then_ret ?_); clear hK')
    | ((with_reducible refine then_exit ?_); clear hK')
    | with_reducible refine inBlock_other (by decide) ?_
    | with_reducible refine WT_ret ?_
    | with_reducible refine WT_skip ?_
    | with_reducible refine WT_exit ?_
    | ((with_reducible refine hK' _ ?_); clear hK')
    | ((with_reducible refine hX ?_); clear hX hY)
    | ((with_reducible refine hY ?_); clear hX hY)
    | ((with_reducible refine And.intro (Or.inl rfl) ?_); (simp [e86, F86, fn1, fn2, fn3, DStep.dec, DCall.dec]; try (simp (disch := omega) only [i64_wrap, g20_eq]; try simp [e86, F86, fn1, fn2, fn3, DStep.dec, DCall.dec])))
    | with_reducible refine And.intro ?_ ?_
    | intro h
  · rw [beqL_len DStep.beq (by omega)]
  · rename_i hln _ _ _
    refine WT_loopL (fun m σ => ∃ k, k ≤ x.length ∧ m = x.length - k ∧ σ.slot 0 = .tr none (.sl false 7 (x.map (DStep.enc false))) ∧ σ.slot 1 = .tr none (.sl false 7 (y.map (DStep.enc false))) ∧ σ.slot 5 = .tr none (.sc (.int .i64 k)) ∧
      beqL DStep.beq x y = beqL DStep.beq (x.drop k) (y.drop k)) ⟨_, 0, by omega, rfl, by simp, by simp, by simp, by simp⟩ ?_
    rintro m σ ⟨k, hk, rfl, s0, s1, s5, hb⟩
    repeat' first
      | with_reducible refine WT_seq fun K' hK' => ?_
      | with_reducible refine WT_region ?_
      | with_reducible refine WT_block ?_
      | ((with_reducible refine WT_cond fun X Y hX hY => ?_); (first | (simp [e86, F86, fn1, fn2, fn3, DStep.dec, DCall.dec, s0, s1, s5, DStep.enc, DCall.beq, hx, hy]; try (simp (disch := omega) only [i64_wrap, g20_eq]; try simp [e86, F86, fn1, fn2, fn3, DStep.dec, DCall.dec, s0, s1, s5, DStep.enc, DCall.beq, hx, hy])) | (simp [e86, F86, fn1, fn2, fn3, DStep.dec, DCall.dec, s0, s1, s5, DStep.enc, DCall.beq]; try (simp (disch := omega) only [i64_wrap, g20_eq]; try simp [e86, F86, fn1, fn2, fn3, DStep.dec, DCall.dec, s0, s1, s5, DStep.enc, DCall.beq]))))
      | ((with_reducible refine wrun_consN rfl fun K' hK' => ?_); (first | (simp [e86, F86, fn1, fn2, fn3, DStep.dec, DCall.dec, s0, s1, s5, DStep.enc, DCall.beq, hx, hy]; try (simp (disch := omega) only [i64_wrap, g20_eq]; try simp [e86, F86, fn1, fn2, fn3, DStep.dec, DCall.dec, s0, s1, s5, DStep.enc, DCall.beq, hx, hy])) | (simp [e86, F86, fn1, fn2, fn3, DStep.dec, DCall.dec, s0, s1, s5, DStep.enc, DCall.beq]; try (simp (disch := omega) only [i64_wrap, g20_eq]; try simp [e86, F86, fn1, fn2, fn3, DStep.dec, DCall.dec, s0, s1, s5, DStep.enc, DCall.beq]))))
      | ((with_reducible refine wrun_consG rfl (by with_unfolding_all exact rfl) fun K' hK' => ?_); (first | (simp [e86, F86, fn1, fn2, fn3, DStep.dec, DCall.dec, s0, s1, s5, DStep.enc, DCall.beq, hx, hy]; try (simp (disch := omega) only [i64_wrap, g20_eq]; try simp [e86, F86, fn1, fn2, fn3, DStep.dec, DCall.dec, s0, s1, s5, DStep.enc, DCall.beq, hx, hy])) | (simp [e86, F86, fn1, fn2, fn3, DStep.dec, DCall.dec, s0, s1, s5, DStep.enc, DCall.beq]; try (simp (disch := omega) only [i64_wrap, g20_eq]; try simp [e86, F86, fn1, fn2, fn3, DStep.dec, DCall.dec, s0, s1, s5, DStep.enc, DCall.beq]))))
      | with_reducible refine wrun_nil ?_
      | ((with_reducible refine wfront_consN (by with_unfolding_all exact rfl) rfl rfl ?_ fun K' hK' => ?_); (focus (first | exact rootless_none rfl | exact rootless_out rfl (by decide) | (refine rootless_in rfl ?_; (first | (simp [e86, F86, fn1, fn2, fn3, DStep.dec, DCall.dec, s0, s1, s5, DStep.enc, DCall.beq, hx, hy]; try (simp (disch := omega) only [i64_wrap, g20_eq]; try simp [e86, F86, fn1, fn2, fn3, DStep.dec, DCall.dec, s0, s1, s5, DStep.enc, DCall.beq, hx, hy])) | (simp [e86, F86, fn1, fn2, fn3, DStep.dec, DCall.dec, s0, s1, s5, DStep.enc, DCall.beq]; try (simp (disch := omega) only [i64_wrap, g20_eq]; try simp [e86, F86, fn1, fn2, fn3, DStep.dec, DCall.dec, s0, s1, s5, DStep.enc, DCall.beq])))))); (first | (simp [e86, F86, fn1, fn2, fn3, DStep.dec, DCall.dec, s0, s1, s5, DStep.enc, DCall.beq, hx, hy]; try (simp (disch := omega) only [i64_wrap, g20_eq]; try simp [e86, F86, fn1, fn2, fn3, DStep.dec, DCall.dec, s0, s1, s5, DStep.enc, DCall.beq, hx, hy])) | (simp [e86, F86, fn1, fn2, fn3, DStep.dec, DCall.dec, s0, s1, s5, DStep.enc, DCall.beq]; try (simp (disch := omega) only [i64_wrap, g20_eq]; try simp [e86, F86, fn1, fn2, fn3, DStep.dec, DCall.dec, s0, s1, s5, DStep.enc, DCall.beq]))))
      | ((with_reducible refine wfront_consG (by with_unfolding_all exact rfl) rfl rfl (by with_unfolding_all exact rfl) ?_ fun K' hK' => ?_); (focus (first | exact rootless_none rfl | exact rootless_out rfl (by decide) | (refine rootless_in rfl ?_; (first | (simp [e86, F86, fn1, fn2, fn3, DStep.dec, DCall.dec, s0, s1, s5, DStep.enc, DCall.beq, hx, hy]; try (simp (disch := omega) only [i64_wrap, g20_eq]; try simp [e86, F86, fn1, fn2, fn3, DStep.dec, DCall.dec, s0, s1, s5, DStep.enc, DCall.beq, hx, hy])) | (simp [e86, F86, fn1, fn2, fn3, DStep.dec, DCall.dec, s0, s1, s5, DStep.enc, DCall.beq]; try (simp (disch := omega) only [i64_wrap, g20_eq]; try simp [e86, F86, fn1, fn2, fn3, DStep.dec, DCall.dec, s0, s1, s5, DStep.enc, DCall.beq])))))); (first | (simp [e86, F86, fn1, fn2, fn3, DStep.dec, DCall.dec, s0, s1, s5, DStep.enc, DCall.beq, hx, hy]; try (simp (disch := omega) only [i64_wrap, g20_eq]; try simp [e86, F86, fn1, fn2, fn3, DStep.dec, DCall.dec, s0, s1, s5, DStep.enc, DCall.beq, hx, hy])) | (simp [e86, F86, fn1, fn2, fn3, DStep.dec, DCall.dec, s0, s1, s5, DStep.enc, DCall.beq]; try (simp (disch := omega) only [i64_wrap, g20_eq]; try simp [e86, F86, fn1, fn2, fn3, DStep.dec, DCall.dec, s0, s1, s5, DStep.enc, DCall.beq]))))
      | with_reducible refine wfront_tail (by with_unfolding_all exact rfl) ?_
      | with_reducible refine wfront_nil ?_
      | with_reducible refine WT_draw [17, 18, 19, 20, 21, 22, 23, 24, 25, 26] (by with_unfolding_all decide) (by with_unfolding_all exact rfl) ?_
      | with_reducible refine then_normal ?_
      | with_reducible refine inBlock_normal ?_
      | with_reducible refine inBlock_ret ?_
      | with_reducible refine inBlock_exit ?_
      | with_reducible refine thenL_normal ?_
      | with_reducible refine thenL_ret ?_
      | with_reducible refine thenL_exit ?_
      | ((with_reducible refine then_ret ?_); clear hK')
      | ((with_reducible refine then_exit ?_); clear hK')
      | with_reducible refine inBlock_other (by decide) ?_
      | with_reducible refine WT_ret ?_
      | with_reducible refine WT_skip ?_
      | with_reducible refine WT_exit ?_
      | ((with_reducible refine hK' _ ?_); clear hK')
      | ((with_reducible refine hX ?_); clear hX hY)
      | ((with_reducible refine hY ?_); clear hX hY)
      | ((with_reducible refine And.intro (Or.inl rfl) ?_); (first | (simp [e86, F86, fn1, fn2, fn3, DStep.dec, DCall.dec, s0, s1, s5, DStep.enc, DCall.beq, hx, hy]; try (simp (disch := omega) only [i64_wrap, g20_eq]; try simp [e86, F86, fn1, fn2, fn3, DStep.dec, DCall.dec, s0, s1, s5, DStep.enc, DCall.beq, hx, hy])) | (simp [e86, F86, fn1, fn2, fn3, DStep.dec, DCall.dec, s0, s1, s5, DStep.enc, DCall.beq]; try (simp (disch := omega) only [i64_wrap, g20_eq]; try simp [e86, F86, fn1, fn2, fn3, DStep.dec, DCall.dec, s0, s1, s5, DStep.enc, DCall.beq]))))
      | with_reducible refine And.intro ?_ ?_
      | omega
      | (intro hlt; obtain ⟨u, hx⟩ := get_some hlt; obtain ⟨v, hy⟩ := get_some (l := y) (k := k) (by omega); have hst := beqL_step DStep.beq hx hy)
      | intro h
    · rw [hb, hst]; simp [h, beqI, beqS]
    · refine ⟨x.length - (k + 1), by omega, k + 1, by omega, rfl, by simp [s0], by simp [s1], by simp, ?_⟩
      rw [hb, hst]; simp [h, beqI, beqS]
    · rw [hb]; first | exact beqL_end _ (by omega) (by omega) | exact (beqL_end _ (by omega) (by omega)).symm
set_option maxHeartbeats 4000000 in
theorem con84 {Γ : Mv.Env} (hg : Mv.Good Try.prog Γ) : Contract Try.prog 84 F84 := by
  refine contract_fn hg (wdraw_ok hg mixed) Try.func84 rfl (by decide) (by decide) rfl (by decide) ?_
  intro us p hs
  obtain ⟨x, y, rfl, hr⟩ := fn2_inv hs
  clear hs
  cases hr
  refine ⟨rfl, ?_⟩
  dsimp only [Try.f84]
  simp only [cAnswer, cT, DAnswer.enc]
  repeat' first
    | with_reducible refine WT_seq fun K' hK' => ?_
    | with_reducible refine WT_region ?_
    | with_reducible refine WT_block ?_
    | ((with_reducible refine WT_cond fun X Y hX hY => ?_); simp [])
    | ((with_reducible refine wrun_consN rfl fun K' hK' => ?_); simp [])
    | ((with_reducible refine wrun_consG rfl (by with_unfolding_all exact rfl) fun K' hK' => ?_); simp [])
    | with_reducible refine wrun_nil ?_
    | with_reducible refine then_normal ?_
    | with_reducible refine inBlock_normal ?_
    | with_reducible refine inBlock_ret ?_
    | with_reducible refine inBlock_exit ?_
    | with_reducible refine thenL_normal ?_
    | with_reducible refine thenL_ret ?_
    | with_reducible refine thenL_exit ?_
    | ((with_reducible refine then_ret ?_); clear hK')
    | ((with_reducible refine then_exit ?_); clear hK')
    | with_reducible refine inBlock_other (by decide) ?_
    | with_reducible refine WT_ret ?_
    | with_reducible refine WT_skip ?_
    | with_reducible refine WT_exit ?_
    | ((with_reducible refine hK' _ ?_); clear hK')
    | ((with_reducible refine hX ?_); clear hX hY)
    | ((with_reducible refine hY ?_); clear hX hY)
    | ((with_reducible refine And.intro (Or.inl rfl) ?_); simp [])
    | with_reducible refine And.intro ?_ ?_
    | intro h
  all_goals (clear hg; simp [DAnswer.beq, *]; done)
end Go.Mv
