/-
  The walks of some functions that a law reaches: each is shown to do to trees what its plain function tells; no statement of the seat by itself; no conditions.
-/
import Derived.Test.YtdkjhbbddlognaaWEntriesOf0
namespace Go.Mv
open Go.Proofs
set_option linter.unusedVariables false
set_option linter.unusedSimpArgs false
set_option maxRecDepth 10000
set_option maxHeartbeats 4000000 in
theorem con52 {Γ : Mv.Env} (hg : Mv.Good Try.prog Γ) (e86 : Γ 86 = some F86) : Contract Try.prog 52 F52 := by
  refine contract_fn hg (wdraw_ok hg mixed) Try.func52 rfl (by decide) (by decide) rfl (by decide) ?_
  intro us p hs
  obtain ⟨x, y, rfl, hr⟩ := fn2_inv hs
  clear hs
  cases hr
  refine ⟨rfl, ?_⟩
  dsimp only [Try.f52]
  simp only [lStep, cL]
  repeat' first
    | refine WT_seq fun K' hK' => ?_
    | refine WT_region ?_
    | refine WT_block ?_
    | (refine WT_cond fun X Y hX hY => ?_; (simp [e86, F86, fn1, fn2, fn3, DStep.dec, DCall.dec]; try (simp (disch := omega) only [i64_wrap, g20_eq]; try simp [e86, F86, fn1, fn2, fn3, DStep.dec, DCall.dec])))
    | (refine wrun_cons fun K' hK' => ?_; (simp [e86, F86, fn1, fn2, fn3, DStep.dec, DCall.dec]; try (simp (disch := omega) only [i64_wrap, g20_eq]; try simp [e86, F86, fn1, fn2, fn3, DStep.dec, DCall.dec])))
    | refine wrun_nil ?_
    | (refine wfront_cons rfl rfl ?_ fun K' hK' => ?_ <;> (simp [wgcalm, rootless, frontS, St.kills, e86, F86, fn1, fn2, fn3, DStep.dec, DCall.dec]; try (simp (disch := omega) only [i64_wrap, g20_eq]; try simp [wgcalm, rootless, frontS, St.kills, e86, F86, fn1, fn2, fn3, DStep.dec, DCall.dec])))
    | (refine wfront_tail rfl ?_)
    | refine wfront_nil ?_
    | (refine WT_draw [17, 18, 19, 20, 21, 22, 23, 24, 25, 26] (by decide) rfl ?_; simp only [St.kills, St.kill])
    | with_reducible refine then_normal ?_
    | with_reducible refine inBlock_normal ?_
    | with_reducible refine inBlock_ret ?_
    | with_reducible refine inBlock_exit ?_
    | with_reducible refine thenL_normal ?_
    | with_reducible refine thenL_ret ?_
    | with_reducible refine thenL_exit ?_
    | (with_reducible refine then_ret ?_; clear hK')
    | (with_reducible refine then_exit ?_; clear hK')
    | refine inBlock_other (by decide) ?_
    | refine WT_ret ?_
    | refine WT_skip ?_
    | refine WT_exit ?_
    | (refine hK' _ ?_; clear hK')
    | (refine hX ?_; clear hX hY)
    | (refine hY ?_; clear hX hY)
    | (refine And.intro (Or.inl rfl) ?_; (simp [e86, F86, fn1, fn2, fn3, DStep.dec, DCall.dec]; try (simp (disch := omega) only [i64_wrap, g20_eq]; try simp [e86, F86, fn1, fn2, fn3, DStep.dec, DCall.dec])))
    | refine And.intro ?_ ?_
    | intro h
  · rw [beqL_len DStep.beq (by omega)]
  · rename_i hln _ _ _
    refine WT_loopL (fun m σ => ∃ k, k ≤ x.length ∧ m = x.length - k ∧ σ.slot 0 = .tr none (.sl false 7 (x.map (DStep.enc false))) ∧ σ.slot 1 = .tr none (.sl false 7 (y.map (DStep.enc false))) ∧ σ.slot 5 = .tr none (.sc (.int .i64 k)) ∧
      beqL DStep.beq x y = beqL DStep.beq (x.drop k) (y.drop k)) ⟨_, 0, by omega, rfl, by simp, by simp, by simp, by simp⟩ ?_
    rintro m σ ⟨k, hk, rfl, s0, s1, s5, hb⟩
    repeat' first
      | refine WT_seq fun K' hK' => ?_
      | refine WT_region ?_
      | refine WT_block ?_
      | (refine WT_cond fun X Y hX hY => ?_; (first | (simp [e86, F86, fn1, fn2, fn3, DStep.dec, DCall.dec, s0, s1, s5, DStep.enc, DCall.beq, hx, hy]; try (simp (disch := omega) only [i64_wrap, g20_eq]; try simp [e86, F86, fn1, fn2, fn3, DStep.dec, DCall.dec, s0, s1, s5, DStep.enc, DCall.beq, hx, hy])) | (simp [e86, F86, fn1, fn2, fn3, DStep.dec, DCall.dec, s0, s1, s5, DStep.enc, DCall.beq]; try (simp (disch := omega) only [i64_wrap, g20_eq]; try simp [e86, F86, fn1, fn2, fn3, DStep.dec, DCall.dec, s0, s1, s5, DStep.enc, DCall.beq]))))
      | (refine wrun_cons fun K' hK' => ?_; (first | (simp [e86, F86, fn1, fn2, fn3, DStep.dec, DCall.dec, s0, s1, s5, DStep.enc, DCall.beq, hx, hy]; try (simp (disch := omega) only [i64_wrap, g20_eq]; try simp [e86, F86, fn1, fn2, fn3, DStep.dec, DCall.dec, s0, s1, s5, DStep.enc, DCall.beq, hx, hy])) | (simp [e86, F86, fn1, fn2, fn3, DStep.dec, DCall.dec, s0, s1, s5, DStep.enc, DCall.beq]; try (simp (disch := omega) only [i64_wrap, g20_eq]; try simp [e86, F86, fn1, fn2, fn3, DStep.dec, DCall.dec, s0, s1, s5, DStep.enc, DCall.beq]))))
      | refine wrun_nil ?_
      | (refine wfront_cons rfl rfl ?_ fun K' hK' => ?_ <;> (first | (simp [wgcalm, rootless, frontS, St.kills, e86, F86, fn1, fn2, fn3, DStep.dec, DCall.dec, s0, s1, s5, DStep.enc, DCall.beq, hx, hy]; try (simp (disch := omega) only [i64_wrap, g20_eq]; try simp [wgcalm, rootless, frontS, St.kills, e86, F86, fn1, fn2, fn3, DStep.dec, DCall.dec, s0, s1, s5, DStep.enc, DCall.beq, hx, hy])) | (simp [wgcalm, rootless, frontS, St.kills, e86, F86, fn1, fn2, fn3, DStep.dec, DCall.dec, s0, s1, s5, DStep.enc, DCall.beq]; try (simp (disch := omega) only [i64_wrap, g20_eq]; try simp [wgcalm, rootless, frontS, St.kills, e86, F86, fn1, fn2, fn3, DStep.dec, DCall.dec, s0, s1, s5, DStep.enc, DCall.beq]))))
      | (refine wfront_tail rfl ?_)
      | refine wfront_nil ?_
      | (refine WT_draw [17, 18, 19, 20, 21, 22, 23, 24, 25, 26] (by decide) rfl ?_; simp only [St.kills, St.kill])
      | with_reducible refine then_normal ?_
      | with_reducible refine inBlock_normal ?_
      | with_reducible refine inBlock_ret ?_
      | with_reducible refine inBlock_exit ?_
      | with_reducible refine thenL_normal ?_
      | with_reducible refine thenL_ret ?_
      | with_reducible refine thenL_exit ?_
      | (with_reducible refine then_ret ?_; clear hK')
      | (with_reducible refine then_exit ?_; clear hK')
      | refine inBlock_other (by decide) ?_
      | refine WT_ret ?_
      | refine WT_skip ?_
      | refine WT_exit ?_
      | (refine hK' _ ?_; clear hK')
      | (refine hX ?_; clear hX hY)
      | (refine hY ?_; clear hX hY)
      | (refine And.intro (Or.inl rfl) ?_; (first | (simp [e86, F86, fn1, fn2, fn3, DStep.dec, DCall.dec, s0, s1, s5, DStep.enc, DCall.beq, hx, hy]; try (simp (disch := omega) only [i64_wrap, g20_eq]; try simp [e86, F86, fn1, fn2, fn3, DStep.dec, DCall.dec, s0, s1, s5, DStep.enc, DCall.beq, hx, hy])) | (simp [e86, F86, fn1, fn2, fn3, DStep.dec, DCall.dec, s0, s1, s5, DStep.enc, DCall.beq]; try (simp (disch := omega) only [i64_wrap, g20_eq]; try simp [e86, F86, fn1, fn2, fn3, DStep.dec, DCall.dec, s0, s1, s5, DStep.enc, DCall.beq]))))
      | refine And.intro ?_ ?_
      | omega
      | (intro hlt; obtain ⟨u, hx⟩ := get_some hlt; obtain ⟨v, hy⟩ := get_some (l := y) (k := k) (by omega); have hst := beqL_step DStep.beq hx hy)
      | intro h
    · rw [hb, hst]; simp [h, beqI, beqS]
    · refine ⟨x.length - (k + 1), by omega, k + 1, by omega, rfl, by simp [s0], by simp [s1], by simp, ?_⟩
      rw [hb, hst]; simp [h, beqI, beqS]
    · rw [hb]; first | exact beqL_end _ (by omega) (by omega) | exact (beqL_end _ (by omega) (by omega)).symm
set_option maxHeartbeats 4000000 in
theorem con84 {Γ : Mv.Env} (hg : Mv.Good Try.prog Γ) : Contract Try.prog 84 F84 := by
  refine contract_fn hg (wdraw_ok hg mixed) Try.func84 rfl (by decide) (by decide) rfl (by decide) ?_
  intro us p hs
  obtain ⟨x, y, rfl, hr⟩ := fn2_inv hs
  clear hs
  cases hr
  refine ⟨rfl, ?_⟩
  dsimp only [Try.f84]
  simp only [cAnswer, cT, DAnswer.enc]
  repeat' first
    | refine WT_seq fun K' hK' => ?_
    | refine WT_region ?_
    | refine WT_block ?_
    | (refine WT_cond fun X Y hX hY => ?_; simp [])
    | (refine wrun_cons fun K' hK' => ?_; simp [])
    | refine wrun_nil ?_
    | with_reducible refine then_normal ?_
    | with_reducible refine inBlock_normal ?_
    | with_reducible refine inBlock_ret ?_
    | with_reducible refine inBlock_exit ?_
    | with_reducible refine thenL_normal ?_
    | with_reducible refine thenL_ret ?_
    | with_reducible refine thenL_exit ?_
    | (with_reducible refine then_ret ?_; clear hK')
    | (with_reducible refine then_exit ?_; clear hK')
    | refine inBlock_other (by decide) ?_
    | refine WT_ret ?_
    | refine WT_skip ?_
    | refine WT_exit ?_
    | (refine hK' _ ?_; clear hK')
    | (refine hX ?_; clear hX hY)
    | (refine hY ?_; clear hX hY)
    | (refine And.intro (Or.inl rfl) ?_; simp [])
    | refine And.intro ?_ ?_
    | intro h
  all_goals (clear hg; simp [DAnswer.beq, *]; done)
set_option maxHeartbeats 4000000 in
theorem con46 {Γ : Mv.Env} (hg : Mv.Good Try.prog Γ) (e84 : Γ 84 = some F84) : Contract Try.prog 46 F46 := by
  refine contract_fn hg (wdraw_ok hg mixed) Try.func46 rfl (by decide) (by decide) rfl (by decide) ?_
  intro us p hs
  obtain ⟨x, y, rfl, hr⟩ := fn2_inv hs
  clear hs
  cases hr
  refine ⟨rfl, ?_⟩
  dsimp only [Try.f46]
  simp only [lAnswer, cL]
  repeat' first
    | refine WT_seq fun K' hK' => ?_
    | refine WT_region ?_
    | refine WT_block ?_
    | (refine WT_cond fun X Y hX hY => ?_; (simp [e84, F84, fn1, fn2, fn3, DAnswer.dec]; try (simp (disch := omega) only [i64_wrap, g20_eq]; try simp [e84, F84, fn1, fn2, fn3, DAnswer.dec])))
    | (refine wrun_cons fun K' hK' => ?_; (simp [e84, F84, fn1, fn2, fn3, DAnswer.dec]; try (simp (disch := omega) only [i64_wrap, g20_eq]; try simp [e84, F84, fn1, fn2, fn3, DAnswer.dec])))
    | refine wrun_nil ?_
    | (refine wfront_cons rfl rfl ?_ fun K' hK' => ?_ <;> (simp [wgcalm, rootless, frontS, St.kills, e84, F84, fn1, fn2, fn3, DAnswer.dec]; try (simp (disch := omega) only [i64_wrap, g20_eq]; try simp [wgcalm, rootless, frontS, St.kills, e84, F84, fn1, fn2, fn3, DAnswer.dec])))
    | (refine wfront_tail rfl ?_)
    | refine wfront_nil ?_
    | (refine WT_draw [17, 18, 19, 20, 21, 22, 23, 24, 25, 26] (by decide) rfl ?_; simp only [St.kills, St.kill])
    | with_reducible refine then_normal ?_
    | with_reducible refine inBlock_normal ?_
    | with_reducible refine inBlock_ret ?_
    | with_reducible refine inBlock_exit ?_
    | with_reducible refine thenL_normal ?_
    | with_reducible refine thenL_ret ?_
    | with_reducible refine thenL_exit ?_
    | (with_reducible refine then_ret ?_; clear hK')
    | (with_reducible refine then_exit ?_; clear hK')
    | refine inBlock_other (by decide) ?_
    | refine WT_ret ?_
    | refine WT_skip ?_
    | refine WT_exit ?_
    | (refine hK' _ ?_; clear hK')
    | (refine hX ?_; clear hX hY)
    | (refine hY ?_; clear hX hY)
    | (refine And.intro (Or.inl rfl) ?_; (simp [e84, F84, fn1, fn2, fn3, DAnswer.dec]; try (simp (disch := omega) only [i64_wrap, g20_eq]; try simp [e84, F84, fn1, fn2, fn3, DAnswer.dec])))
    | refine And.intro ?_ ?_
    | intro h
  · rw [beqL_len DAnswer.beq (by omega)]
  · rename_i hln _ _ _
    refine WT_loopL (fun m σ => ∃ k, k ≤ x.length ∧ m = x.length - k ∧ σ.slot 0 = .tr none (.sl false 3 (x.map (DAnswer.enc false))) ∧ σ.slot 1 = .tr none (.sl false 3 (y.map (DAnswer.enc false))) ∧ σ.slot 5 = .tr none (.sc (.int .i64 k)) ∧
      beqL DAnswer.beq x y = beqL DAnswer.beq (x.drop k) (y.drop k)) ⟨_, 0, by omega, rfl, by simp, by simp, by simp, by simp⟩ ?_
    rintro m σ ⟨k, hk, rfl, s0, s1, s5, hb⟩
    repeat' first
      | refine WT_seq fun K' hK' => ?_
      | refine WT_region ?_
      | refine WT_block ?_
      | (refine WT_cond fun X Y hX hY => ?_; (first | (simp [e84, F84, fn1, fn2, fn3, DAnswer.dec, s0, s1, s5, DAnswer.enc, hx, hy]; try (simp (disch := omega) only [i64_wrap, g20_eq]; try simp [e84, F84, fn1, fn2, fn3, DAnswer.dec, s0, s1, s5, DAnswer.enc, hx, hy])) | (simp [e84, F84, fn1, fn2, fn3, DAnswer.dec, s0, s1, s5, DAnswer.enc]; try (simp (disch := omega) only [i64_wrap, g20_eq]; try simp [e84, F84, fn1, fn2, fn3, DAnswer.dec, s0, s1, s5, DAnswer.enc]))))
      | (refine wrun_cons fun K' hK' => ?_; (first | (simp [e84, F84, fn1, fn2, fn3, DAnswer.dec, s0, s1, s5, DAnswer.enc, hx, hy]; try (simp (disch := omega) only [i64_wrap, g20_eq]; try simp [e84, F84, fn1, fn2, fn3, DAnswer.dec, s0, s1, s5, DAnswer.enc, hx, hy])) | (simp [e84, F84, fn1, fn2, fn3, DAnswer.dec, s0, s1, s5, DAnswer.enc]; try (simp (disch := omega) only [i64_wrap, g20_eq]; try simp [e84, F84, fn1, fn2, fn3, DAnswer.dec, s0, s1, s5, DAnswer.enc]))))
      | refine wrun_nil ?_
      | (refine wfront_cons rfl rfl ?_ fun K' hK' => ?_ <;> (first | (simp [wgcalm, rootless, frontS, St.kills, e84, F84, fn1, fn2, fn3, DAnswer.dec, s0, s1, s5, DAnswer.enc, hx, hy]; try (simp (disch := omega) only [i64_wrap, g20_eq]; try simp [wgcalm, rootless, frontS, St.kills, e84, F84, fn1, fn2, fn3, DAnswer.dec, s0, s1, s5, DAnswer.enc, hx, hy])) | (simp [wgcalm, rootless, frontS, St.kills, e84, F84, fn1, fn2, fn3, DAnswer.dec, s0, s1, s5, DAnswer.enc]; try (simp (disch := omega) only [i64_wrap, g20_eq]; try simp [wgcalm, rootless, frontS, St.kills, e84, F84, fn1, fn2, fn3, DAnswer.dec, s0, s1, s5, DAnswer.enc]))))
      | (refine wfront_tail rfl ?_)
      | refine wfront_nil ?_
      | (refine WT_draw [17, 18, 19, 20, 21, 22, 23, 24, 25, 26] (by decide) rfl ?_; simp only [St.kills, St.kill])
      | with_reducible refine then_normal ?_
      | with_reducible refine inBlock_normal ?_
      | with_reducible refine inBlock_ret ?_
      | with_reducible refine inBlock_exit ?_
      | with_reducible refine thenL_normal ?_
      | with_reducible refine thenL_ret ?_
      | with_reducible refine thenL_exit ?_
      | (with_reducible refine then_ret ?_; clear hK')
      | (with_reducible refine then_exit ?_; clear hK')
      | refine inBlock_other (by decide) ?_
      | refine WT_ret ?_
      | refine WT_skip ?_
      | refine WT_exit ?_
      | (refine hK' _ ?_; clear hK')
      | (refine hX ?_; clear hX hY)
      | (refine hY ?_; clear hX hY)
      | (refine And.intro (Or.inl rfl) ?_; (first | (simp [e84, F84, fn1, fn2, fn3, DAnswer.dec, s0, s1, s5, DAnswer.enc, hx, hy]; try (simp (disch := omega) only [i64_wrap, g20_eq]; try simp [e84, F84, fn1, fn2, fn3, DAnswer.dec, s0, s1, s5, DAnswer.enc, hx, hy])) | (simp [e84, F84, fn1, fn2, fn3, DAnswer.dec, s0, s1, s5, DAnswer.enc]; try (simp (disch := omega) only [i64_wrap, g20_eq]; try simp [e84, F84, fn1, fn2, fn3, DAnswer.dec, s0, s1, s5, DAnswer.enc]))))
      | refine And.intro ?_ ?_
      | omega
      | (intro hlt; obtain ⟨u, hx⟩ := get_some hlt; obtain ⟨v, hy⟩ := get_some (l := y) (k := k) (by omega); have hst := beqL_step DAnswer.beq hx hy)
      | intro h
    · rw [hb, hst]; simp [h, beqI, beqS]
    · refine ⟨x.length - (k + 1), by omega, k + 1, by omega, rfl, by simp [s0], by simp [s1], by simp, ?_⟩
      rw [hb, hst]; simp [h, beqI, beqS]
    · rw [hb]; first | exact beqL_end _ (by omega) (by omega) | exact (beqL_end _ (by omega) (by omega)).symm
set_option maxHeartbeats 4000000 in
theorem con30 {Γ : Mv.Env} (hg : Mv.Good Try.prog Γ) (e52 : Γ 52 = some F52) (e46 : Γ 46 = some F46) : Contract Try.prog 30 F30 := by
  refine contract_fn hg (wdraw_ok hg mixed) Try.func30 rfl (by decide) (by decide) rfl (by decide) ?_
  intro us p hs
  obtain ⟨x, y, rfl, hr⟩ := fn2_inv hs
  clear hs
  cases hr
  refine ⟨rfl, ?_⟩
  dsimp only [Try.f30]
  simp only [cEntry, cT, DEntry.enc]
  repeat' first
    | refine WT_seq fun K' hK' => ?_
    | refine WT_region ?_
    | refine WT_block ?_
    | (refine WT_cond fun X Y hX hY => ?_; simp [e52, F52, e46, F46, fn1, fn2, fn3])
    | (refine wrun_cons fun K' hK' => ?_; simp [e52, F52, e46, F46, fn1, fn2, fn3])
    | refine wrun_nil ?_
    | with_reducible refine then_normal ?_
    | with_reducible refine inBlock_normal ?_
    | with_reducible refine inBlock_ret ?_
    | with_reducible refine inBlock_exit ?_
    | with_reducible refine thenL_normal ?_
    | with_reducible refine thenL_ret ?_
    | with_reducible refine thenL_exit ?_
    | (with_reducible refine then_ret ?_; clear hK')
    | (with_reducible refine then_exit ?_; clear hK')
    | refine inBlock_other (by decide) ?_
    | refine WT_ret ?_
    | refine WT_skip ?_
    | refine WT_exit ?_
    | (refine hK' _ ?_; clear hK')
    | (refine hX ?_; clear hX hY)
    | (refine hY ?_; clear hX hY)
    | (refine And.intro (Or.inl rfl) ?_; simp [e52, F52, e46, F46, fn1, fn2, fn3])
    | refine And.intro ?_ ?_
    | intro h
  all_goals (clear hg; simp [DEntry.beq, *]; done)
set_option maxHeartbeats 4000000 in
theorem con35 {Γ : Mv.Env} (hg : Mv.Good Try.prog Γ) (e30 : Γ 30 = some F30) : Contract Try.prog 35 F35 := by
  refine contract_fn hg (wdraw_ok hg mixed) Try.func35 rfl (by decide) (by decide) rfl (by decide) ?_
  intro us p hs
  obtain ⟨x, y, rfl, hr⟩ := fn2_inv hs
  clear hs
  cases hr
  refine ⟨rfl, ?_⟩
  dsimp only [Try.f35]
  simp only [lEntry, cL]
  repeat' first
    | refine WT_seq fun K' hK' => ?_
    | refine WT_region ?_
    | refine WT_block ?_
    | (refine WT_cond fun X Y hX hY => ?_; (simp [e30, F30, fn1, fn2, fn3, DEntry.dec]; try (simp (disch := omega) only [i64_wrap, g20_eq]; try simp [e30, F30, fn1, fn2, fn3, DEntry.dec])))
    | (refine wrun_cons fun K' hK' => ?_; (simp [e30, F30, fn1, fn2, fn3, DEntry.dec]; try (simp (disch := omega) only [i64_wrap, g20_eq]; try simp [e30, F30, fn1, fn2, fn3, DEntry.dec])))
    | refine wrun_nil ?_
    | (refine wfront_cons rfl rfl ?_ fun K' hK' => ?_ <;> (simp [wgcalm, rootless, frontS, St.kills, e30, F30, fn1, fn2, fn3, DEntry.dec]; try (simp (disch := omega) only [i64_wrap, g20_eq]; try simp [wgcalm, rootless, frontS, St.kills, e30, F30, fn1, fn2, fn3, DEntry.dec])))
    | (refine wfront_tail rfl ?_)
    | refine wfront_nil ?_
    | (refine WT_draw [17, 18, 19, 20, 21, 22, 23, 24, 25, 26] (by decide) rfl ?_; simp only [St.kills, St.kill])
    | with_reducible refine then_normal ?_
    | with_reducible refine inBlock_normal ?_
    | with_reducible refine inBlock_ret ?_
    | with_reducible refine inBlock_exit ?_
    | with_reducible refine thenL_normal ?_
    | with_reducible refine thenL_ret ?_
    | with_reducible refine thenL_exit ?_
    | (with_reducible refine then_ret ?_; clear hK')
    | (with_reducible refine then_exit ?_; clear hK')
    | refine inBlock_other (by decide) ?_
    | refine WT_ret ?_
    | refine WT_skip ?_
    | refine WT_exit ?_
    | (refine hK' _ ?_; clear hK')
    | (refine hX ?_; clear hX hY)
    | (refine hY ?_; clear hX hY)
    | (refine And.intro (Or.inl rfl) ?_; (simp [e30, F30, fn1, fn2, fn3, DEntry.dec]; try (simp (disch := omega) only [i64_wrap, g20_eq]; try simp [e30, F30, fn1, fn2, fn3, DEntry.dec])))
    | refine And.intro ?_ ?_
    | intro h
  · rw [beqL_len DEntry.beq (by omega)]
  · rename_i hln _ _ _
    refine WT_loopL (fun m σ => ∃ k, k ≤ x.length ∧ m = x.length - k ∧ σ.slot 0 = .tr none (.sl false 8 (x.map (DEntry.enc false))) ∧ σ.slot 1 = .tr none (.sl false 8 (y.map (DEntry.enc false))) ∧ σ.slot 5 = .tr none (.sc (.int .i64 k)) ∧
      beqL DEntry.beq x y = beqL DEntry.beq (x.drop k) (y.drop k)) ⟨_, 0, by omega, rfl, by simp, by simp, by simp, by simp⟩ ?_
    rintro m σ ⟨k, hk, rfl, s0, s1, s5, hb⟩
    repeat' first
      | refine WT_seq fun K' hK' => ?_
      | refine WT_region ?_
      | refine WT_block ?_
      | (refine WT_cond fun X Y hX hY => ?_; (first | (simp [e30, F30, fn1, fn2, fn3, DEntry.dec, s0, s1, s5, DEntry.enc, hx, hy]; try (simp (disch := omega) only [i64_wrap, g20_eq]; try simp [e30, F30, fn1, fn2, fn3, DEntry.dec, s0, s1, s5, DEntry.enc, hx, hy])) | (simp [e30, F30, fn1, fn2, fn3, DEntry.dec, s0, s1, s5, DEntry.enc]; try (simp (disch := omega) only [i64_wrap, g20_eq]; try simp [e30, F30, fn1, fn2, fn3, DEntry.dec, s0, s1, s5, DEntry.enc]))))
      | (refine wrun_cons fun K' hK' => ?_; (first | (simp [e30, F30, fn1, fn2, fn3, DEntry.dec, s0, s1, s5, DEntry.enc, hx, hy]; try (simp (disch := omega) only [i64_wrap, g20_eq]; try simp [e30, F30, fn1, fn2, fn3, DEntry.dec, s0, s1, s5, DEntry.enc, hx, hy])) | (simp [e30, F30, fn1, fn2, fn3, DEntry.dec, s0, s1, s5, DEntry.enc]; try (simp (disch := omega) only [i64_wrap, g20_eq]; try simp [e30, F30, fn1, fn2, fn3, DEntry.dec, s0, s1, s5, DEntry.enc]))))
      | refine wrun_nil ?_
      | (refine wfront_cons rfl rfl ?_ fun K' hK' => ?_ <;> (first | (simp [wgcalm, rootless, frontS, St.kills, e30, F30, fn1, fn2, fn3, DEntry.dec, s0, s1, s5, DEntry.enc, hx, hy]; try (simp (disch := omega) only [i64_wrap, g20_eq]; try simp [wgcalm, rootless, frontS, St.kills, e30, F30, fn1, fn2, fn3, DEntry.dec, s0, s1, s5, DEntry.enc, hx, hy])) | (simp [wgcalm, rootless, frontS, St.kills, e30, F30, fn1, fn2, fn3, DEntry.dec, s0, s1, s5, DEntry.enc]; try (simp (disch := omega) only [i64_wrap, g20_eq]; try simp [wgcalm, rootless, frontS, St.kills, e30, F30, fn1, fn2, fn3, DEntry.dec, s0, s1, s5, DEntry.enc]))))
      | (refine wfront_tail rfl ?_)
      | refine wfront_nil ?_
      | (refine WT_draw [17, 18, 19, 20, 21, 22, 23, 24, 25, 26] (by decide) rfl ?_; simp only [St.kills, St.kill])
      | with_reducible refine then_normal ?_
      | with_reducible refine inBlock_normal ?_
      | with_reducible refine inBlock_ret ?_
      | with_reducible refine inBlock_exit ?_
      | with_reducible refine thenL_normal ?_
      | with_reducible refine thenL_ret ?_
      | with_reducible refine thenL_exit ?_
      | (with_reducible refine then_ret ?_; clear hK')
      | (with_reducible refine then_exit ?_; clear hK')
      | refine inBlock_other (by decide) ?_
      | refine WT_ret ?_
      | refine WT_skip ?_
      | refine WT_exit ?_
      | (refine hK' _ ?_; clear hK')
      | (refine hX ?_; clear hX hY)
      | (refine hY ?_; clear hX hY)
      | (refine And.intro (Or.inl rfl) ?_; (first | (simp [e30, F30, fn1, fn2, fn3, DEntry.dec, s0, s1, s5, DEntry.enc, hx, hy]; try (simp (disch := omega) only [i64_wrap, g20_eq]; try simp [e30, F30, fn1, fn2, fn3, DEntry.dec, s0, s1, s5, DEntry.enc, hx, hy])) | (simp [e30, F30, fn1, fn2, fn3, DEntry.dec, s0, s1, s5, DEntry.enc]; try (simp (disch := omega) only [i64_wrap, g20_eq]; try simp [e30, F30, fn1, fn2, fn3, DEntry.dec, s0, s1, s5, DEntry.enc]))))
      | refine And.intro ?_ ?_
      | omega
      | (intro hlt; obtain ⟨u, hx⟩ := get_some hlt; obtain ⟨v, hy⟩ := get_some (l := y) (k := k) (by omega); have hst := beqL_step DEntry.beq hx hy)
      | intro h
    · rw [hb, hst]; simp [h, beqI, beqS]
    · refine ⟨x.length - (k + 1), by omega, k + 1, by omega, rfl, by simp [s0], by simp [s1], by simp, ?_⟩
      rw [hb, hst]; simp [h, beqI, beqS]
    · rw [hb]; first | exact beqL_end _ (by omega) (by omega) | exact (beqL_end _ (by omega) (by omega)).symm
set_option maxHeartbeats 4000000 in
theorem con7 {Γ : Mv.Env} (hg : Mv.Good Try.prog Γ) (e31 : Γ 31 = some F31) (e33 : Γ 33 = some F33) (e36 : Γ 36 = some F36) (e37 : Γ 37 = some F37) (e35 : Γ 35 = some F35) : Contract Try.prog 7 F7 := by
  refine contract_fn hg (wdraw_ok hg mixed) Try.func7 rfl (by decide) (by decide) rfl (by decide) ?_
  intro us p hs
  obtain ⟨x, y, rfl, hr⟩ := fn2_inv hs
  clear hs
  cases hr
  refine ⟨rfl, ?_⟩
  dsimp only [Try.f7]
  simp only [lEntry, cI, cL, cI, cT]
  repeat' first
    | refine WT_seq fun K' hK' => ?_
    | refine WT_region ?_
    | refine WT_block ?_
    | (refine WT_cond fun X Y hX hY => ?_; (first | (simp [e31, F31, e33, F33, e36, F36, e37, F37, e35, F35, fn1, fn2, fn3, hok, hok2]; try (simp (disch := omega) only [g20_eq]; try simp [e31, F31, e33, F33, e36, F36, e37, F37, e35, F35, fn1, fn2, fn3, hok, hok2])) | (simp [e31, F31, e33, F33, e36, F36, e37, F37, e35, F35, fn1, fn2, fn3, hok]; try (simp (disch := omega) only [g20_eq]; try simp [e31, F31, e33, F33, e36, F36, e37, F37, e35, F35, fn1, fn2, fn3, hok])) | (simp [e31, F31, e33, F33, e36, F36, e37, F37, e35, F35, fn1, fn2, fn3]; try (simp (disch := omega) only [g20_eq]; try simp [e31, F31, e33, F33, e36, F36, e37, F37, e35, F35, fn1, fn2, fn3]))))
    | (refine wrun_cons fun K' hK' => ?_; (first | (simp [e31, F31, e33, F33, e36, F36, e37, F37, e35, F35, fn1, fn2, fn3, hok, hok2]; try (simp (disch := omega) only [g20_eq]; try simp [e31, F31, e33, F33, e36, F36, e37, F37, e35, F35, fn1, fn2, fn3, hok, hok2])) | (simp [e31, F31, e33, F33, e36, F36, e37, F37, e35, F35, fn1, fn2, fn3, hok]; try (simp (disch := omega) only [g20_eq]; try simp [e31, F31, e33, F33, e36, F36, e37, F37, e35, F35, fn1, fn2, fn3, hok])) | (simp [e31, F31, e33, F33, e36, F36, e37, F37, e35, F35, fn1, fn2, fn3]; try (simp (disch := omega) only [g20_eq]; try simp [e31, F31, e33, F33, e36, F36, e37, F37, e35, F35, fn1, fn2, fn3]))))
    | refine wrun_nil ?_
    | with_reducible refine then_normal ?_
    | with_reducible refine inBlock_normal ?_
    | with_reducible refine inBlock_ret ?_
    | with_reducible refine inBlock_exit ?_
    | with_reducible refine thenL_normal ?_
    | with_reducible refine thenL_ret ?_
    | with_reducible refine thenL_exit ?_
    | (with_reducible refine then_ret ?_; clear hK')
    | (with_reducible refine then_exit ?_; clear hK')
    | refine inBlock_other (by decide) ?_
    | refine WT_ret ?_
    | refine WT_skip ?_
    | refine WT_exit ?_
    | (refine hK' _ ?_; clear hK')
    | (refine hX ?_; clear hX hY)
    | (refine hY ?_; clear hX hY)
    | (refine And.intro (Or.inl rfl) ?_; (first | (simp [e31, F31, e33, F33, e36, F36, e37, F37, e35, F35, fn1, fn2, fn3, hok, hok2]; try (simp (disch := omega) only [g20_eq]; try simp [e31, F31, e33, F33, e36, F36, e37, F37, e35, F35, fn1, fn2, fn3, hok, hok2])) | (simp [e31, F31, e33, F33, e36, F36, e37, F37, e35, F35, fn1, fn2, fn3, hok]; try (simp (disch := omega) only [g20_eq]; try simp [e31, F31, e33, F33, e36, F36, e37, F37, e35, F35, fn1, fn2, fn3, hok])) | (simp [e31, F31, e33, F33, e36, F36, e37, F37, e35, F35, fn1, fn2, fn3]; try (simp (disch := omega) only [g20_eq]; try simp [e31, F31, e33, F33, e36, F36, e37, F37, e35, F35, fn1, fn2, fn3]))))
    | refine And.intro ?_ ?_
    | omega
    | (intro hlt; have hok := szL_ok szEntry_le szEntry_ok x 1048576 (by omega) (by omega) hlt)
    | intro h
  all_goals first | rfl | (simp_all; done) | omega
end Go.Mv
