/-
  The walks of some functions that a law reaches: each is shown to do to trees what its plain function tells; no statement of the seat by itself; no conditions.
-/
import Derived.Test.YtdkjhbbddlognaaWMeanwhile0
namespace Go.Mv
open Go.Proofs
set_option linter.unusedVariables false
set_option linter.unusedSimpArgs false
set_option maxRecDepth 10000
set_option maxHeartbeats 4000000 in
theorem con35 {Γ : Mv.Env} (hg : Mv.Good Try.prog Γ) (e30 : Γ 30 = some F30) : Contract Try.prog 35 F35 := by
  refine contract_fn hg (wdraw_ok hg mixed) Try.func35 rfl (by decide) (by decide) rfl (by decide) ?_
  intro us p hs
  obtain ⟨x, y, rfl, hr⟩ := fn2_inv hs
  clear hs
  cases hr
  refine ⟨rfl, ?_⟩
  dsimp only [Try.f35]
  simp only [lEntry, cL]
  repeat' first
    | with_reducible refine WT_seq fun K' hK' => ?_
    | with_reducible refine WT_region ?_
    | with_reducible refine WT_block ?_
    | ((with_reducible refine WT_cond fun X Y hX hY => ?_); (simp [e30, F30, fn1, fn2, fn3, DEntry.dec]; try (simp (disch := omega) only [i64_wrap, g20_eq]; try simp [e30, F30, fn1, fn2, fn3, DEntry.dec])))
    | ((with_reducible refine wrun_consN rfl fun K' hK' => ?_); (simp [e30, F30, fn1, fn2, fn3, DEntry.dec]; try (simp (disch := omega) only [i64_wrap, g20_eq]; try simp [e30, F30, fn1, fn2, fn3, DEntry.dec])))
    | ((with_reducible refine wrun_consG rfl (by with_unfolding_all exact rfl) fun K' hK' => ?_); (simp [e30, F30, fn1, fn2, fn3, DEntry.dec]; try (simp (disch := omega) only [i64_wrap, g20_eq]; try simp [e30, F30, fn1, fn2, fn3, DEntry.dec])))
    | with_reducible refine wrun_nil ?_
    | ((with_reducible refine wfront_consN (by with_unfolding_all exact rfl) rfl rfl ?_ fun K' hK' => ?_); (focus (first | exact rootless_none rfl | exact rootless_out rfl (by decide) | (refine rootless_in rfl ?_; (simp [e30, F30, fn1, fn2, fn3, DEntry.dec]; try (simp (disch := omega) only [i64_wrap, g20_eq]; try simp [e30, F30, fn1, fn2, fn3, DEntry.dec]))))); (simp [e30, F30, fn1, fn2, fn3, DEntry.dec]; try (simp (disch := omega) only [i64_wrap, g20_eq]; try simp [e30, F30, fn1, fn2, fn3, DEntry.dec])))
    | ((with_reducible refine wfront_consG (by with_unfolding_all exact rfl) rfl rfl (by with_unfolding_all exact rfl) ?_ fun K' hK' => ?_); (focus (first | exact rootless_none rfl | exact rootless_out rfl (by decide) | (refine rootless_in rfl ?_; (simp [e30, F30, fn1, fn2, fn3, DEntry.dec]; try (simp (disch := omega) only [i64_wrap, g20_eq]; try simp [e30, F30, fn1, fn2, fn3, DEntry.dec]))))); (simp [e30, F30, fn1, fn2, fn3, DEntry.dec]; try (simp (disch := omega) only [i64_wrap, g20_eq]; try simp [e30, F30, fn1, fn2, fn3, DEntry.dec])))
    | with_reducible refine wfront_tail (by with_unfolding_all exact rfl) ?_
    | with_reducible refine wfront_nil ?_
    | with_reducible refine WT_draw [17, 18, 19, 20, 21, 22, 23, 24, 25, 26] (by with_unfolding_all decide) (by with_unfolding_all exact rfl) ?_
    | with_reducible refine then_normal ?_
    | with_reducible refine inBlock_normal ?_
    | with_reducible refine inBlock_ret ?_
    | with_reducible refine inBlock_exit ?_
    | with_reducible refine thenL_normal ?_
    | with_reducible refine thenL_ret ?_
    | with_reducible refine thenL_exit ?_
    | ((with_reducible refine then_ret ?_); clear hK')
    | ((with_reducible refine then_exit ?_); clear hK')
    | with_reducible refine inBlock_other (by decide) ?_
    | with_reducible refine WT_ret ?_
    | with_reducible refine WT_skip ?_
    | with_reducible refine WT_exit ?_
    | ((with_reducible refine hK' _ ?_); clear hK')
    | ((with_reducible refine hX ?_); clear hX hY)
    | ((with_reducible refine hY ?_); clear hX hY)
    | ((with_reducible refine And.intro (Or.inl rfl) ?_); (simp [e30, F30, fn1, fn2, fn3, DEntry.dec]; try (simp (disch := omega) only [i64_wrap, g20_eq]; try simp [e30, F30, fn1, fn2, fn3, DEntry.dec])))
    | with_reducible refine And.intro ?_ ?_
    | intro h
  · rw [beqL_len DEntry.beq (by omega)]
  · rename_i hln _ _ _
    refine WT_loopL (fun m σ => ∃ k, k ≤ x.length ∧ m = x.length - k ∧ σ.slot 0 = .tr none (.sl false 8 (x.map (DEntry.enc false))) ∧ σ.slot 1 = .tr none (.sl false 8 (y.map (DEntry.enc false))) ∧ σ.slot 5 = .tr none (.sc (.int .i64 k)) ∧
      beqL DEntry.beq x y = beqL DEntry.beq (x.drop k) (y.drop k)) ⟨_, 0, by omega, rfl, by simp, by simp, by simp, by simp⟩ ?_
    rintro m σ ⟨k, hk, rfl, s0, s1, s5, hb⟩
    repeat' first
      | with_reducible refine WT_seq fun K' hK' => ?_
      | with_reducible refine WT_region ?_
      | with_reducible refine WT_block ?_
      | ((with_reducible refine WT_cond fun X Y hX hY => ?_); (first | (simp [e30, F30, fn1, fn2, fn3, DEntry.dec, s0, s1, s5, DEntry.enc, hx, hy]; try (simp (disch := omega) only [i64_wrap, g20_eq]; try simp [e30, F30, fn1, fn2, fn3, DEntry.dec, s0, s1, s5, DEntry.enc, hx, hy])) | (simp [e30, F30, fn1, fn2, fn3, DEntry.dec, s0, s1, s5, DEntry.enc]; try (simp (disch := omega) only [i64_wrap, g20_eq]; try simp [e30, F30, fn1, fn2, fn3, DEntry.dec, s0, s1, s5, DEntry.enc]))))
      | ((with_reducible refine wrun_consN rfl fun K' hK' => ?_); (first | (simp [e30, F30, fn1, fn2, fn3, DEntry.dec, s0, s1, s5, DEntry.enc, hx, hy]; try (simp (disch := omega) only [i64_wrap, g20_eq]; try simp [e30, F30, fn1, fn2, fn3, DEntry.dec, s0, s1, s5, DEntry.enc, hx, hy])) | (simp [e30, F30, fn1, fn2, fn3, DEntry.dec, s0, s1, s5, DEntry.enc]; try (simp (disch := omega) only [i64_wrap, g20_eq]; try simp [e30, F30, fn1, fn2, fn3, DEntry.dec, s0, s1, s5, DEntry.enc]))))
      | ((with_reducible refine wrun_consG rfl (by with_unfolding_all exact rfl) fun K' hK' => ?_); (first | (simp [e30, F30, fn1, fn2, fn3, DEntry.dec, s0, s1, s5, DEntry.enc, hx, hy]; try (simp (disch := omega) only [i64_wrap, g20_eq]; try simp [e30, F30, fn1, fn2, fn3, DEntry.dec, s0, s1, s5, DEntry.enc, hx, hy])) | (simp [e30, F30, fn1, fn2, fn3, DEntry.dec, s0, s1, s5, DEntry.enc]; try (simp (disch := omega) only [i64_wrap, g20_eq]; try simp [e30, F30, fn1, fn2, fn3, DEntry.dec, s0, s1, s5, DEntry.enc]))))
      | with_reducible refine wrun_nil ?_
      | ((with_reducible refine wfront_consN (by with_unfolding_all exact rfl) rfl rfl ?_ fun K' hK' => ?_); (focus (first | exact rootless_none rfl | exact rootless_out rfl (by decide) | (refine rootless_in rfl ?_; (first | (simp [e30, F30, fn1, fn2, fn3, DEntry.dec, s0, s1, s5, DEntry.enc, hx, hy]; try (simp (disch := omega) only [i64_wrap, g20_eq]; try simp [e30, F30, fn1, fn2, fn3, DEntry.dec, s0, s1, s5, DEntry.enc, hx, hy])) | (simp [e30, F30, fn1, fn2, fn3, DEntry.dec, s0, s1, s5, DEntry.enc]; try (simp (disch := omega) only [i64_wrap, g20_eq]; try simp [e30, F30, fn1, fn2, fn3, DEntry.dec, s0, s1, s5, DEntry.enc])))))); (first | (simp [e30, F30, fn1, fn2, fn3, DEntry.dec, s0, s1, s5, DEntry.enc, hx, hy]; try (simp (disch := omega) only [i64_wrap, g20_eq]; try simp [e30, F30, fn1, fn2, fn3, DEntry.dec, s0, s1, s5, DEntry.enc, hx, hy])) | (simp [e30, F30, fn1, fn2, fn3, DEntry.dec, s0, s1, s5, DEntry.enc]; try (simp (disch := omega) only [i64_wrap, g20_eq]; try simp [e30, F30, fn1, fn2, fn3, DEntry.dec, s0, s1, s5, DEntry.enc]))))
      | ((with_reducible refine wfront_consG (by with_unfolding_all exact rfl) rfl rfl (by with_unfolding_all exact rfl) ?_ fun K' hK' => ?_); (focus (first | exact rootless_none rfl | exact rootless_out rfl (by decide) | (refine rootless_in rfl ?_; (first | (simp [e30, F30, fn1, fn2, fn3, DEntry.dec, s0, s1, s5, DEntry.enc, hx, hy]; try (simp (disch := omega) only [i64_wrap, g20_eq]; try simp [e30, F30, fn1, fn2, fn3, DEntry.dec, s0, s1, s5, DEntry.enc, hx, hy])) | (simp [e30, F30, fn1, fn2, fn3, DEntry.dec, s0, s1, s5, DEntry.enc]; try (simp (disch := omega) only [i64_wrap, g20_eq]; try simp [e30, F30, fn1, fn2, fn3, DEntry.dec, s0, s1, s5, DEntry.enc])))))); (first | (simp [e30, F30, fn1, fn2, fn3, DEntry.dec, s0, s1, s5, DEntry.enc, hx, hy]; try (simp (disch := omega) only [i64_wrap, g20_eq]; try simp [e30, F30, fn1, fn2, fn3, DEntry.dec, s0, s1, s5, DEntry.enc, hx, hy])) | (simp [e30, F30, fn1, fn2, fn3, DEntry.dec, s0, s1, s5, DEntry.enc]; try (simp (disch := omega) only [i64_wrap, g20_eq]; try simp [e30, F30, fn1, fn2, fn3, DEntry.dec, s0, s1, s5, DEntry.enc]))))
      | with_reducible refine wfront_tail (by with_unfolding_all exact rfl) ?_
      | with_reducible refine wfront_nil ?_
      | with_reducible refine WT_draw [17, 18, 19, 20, 21, 22, 23, 24, 25, 26] (by with_unfolding_all decide) (by with_unfolding_all exact rfl) ?_
      | with_reducible refine then_normal ?_
      | with_reducible refine inBlock_normal ?_
      | with_reducible refine inBlock_ret ?_
      | with_reducible refine inBlock_exit ?_
      | with_reducible refine thenL_normal ?_
      | with_reducible refine thenL_ret ?_
      | with_reducible refine thenL_exit ?_
      | ((with_reducible refine then_ret ?_); clear hK')
      | ((with_reducible refine then_exit ?_); clear hK')
      | with_reducible refine inBlock_other (by decide) ?_
      | with_reducible refine WT_ret ?_
      | with_reducible refine WT_skip ?_
      | with_reducible refine WT_exit ?_
      | ((with_reducible refine hK' _ ?_); clear hK')
      | ((with_reducible refine hX ?_); clear hX hY)
      | ((with_reducible refine hY ?_); clear hX hY)
      | ((with_reducible refine And.intro (Or.inl rfl) ?_); (first | (simp [e30, F30, fn1, fn2, fn3, DEntry.dec, s0, s1, s5, DEntry.enc, hx, hy]; try (simp (disch := omega) only [i64_wrap, g20_eq]; try simp [e30, F30, fn1, fn2, fn3, DEntry.dec, s0, s1, s5, DEntry.enc, hx, hy])) | (simp [e30, F30, fn1, fn2, fn3, DEntry.dec, s0, s1, s5, DEntry.enc]; try (simp (disch := omega) only [i64_wrap, g20_eq]; try simp [e30, F30, fn1, fn2, fn3, DEntry.dec, s0, s1, s5, DEntry.enc]))))
      | with_reducible refine And.intro ?_ ?_
      | omega
      | (intro hlt; obtain ⟨u, hx⟩ := get_some hlt; obtain ⟨v, hy⟩ := get_some (l := y) (k := k) (by omega); have hst := beqL_step DEntry.beq hx hy)
      | intro h
    · rw [hb, hst]; simp [h, beqI, beqS]
    · refine ⟨x.length - (k + 1), by omega, k + 1, by omega, rfl, by simp [s0], by simp [s1], by simp, ?_⟩
      rw [hb, hst]; simp [h, beqI, beqS]
    · rw [hb]; first | exact beqL_end _ (by omega) (by omega) | exact (beqL_end _ (by omega) (by omega)).symm
set_option maxHeartbeats 4000000 in
theorem con9 {Γ : Mv.Env} (hg : Mv.Good Try.prog Γ) (e31 : Γ 31 = some F31) (e33 : Γ 33 = some F33) (e40 : Γ 40 = some F40) (e41 : Γ 41 = some F41) (e35 : Γ 35 = some F35) : Contract Try.prog 9 F9 := by
  refine contract_fn hg (wdraw_ok hg mixed) Try.func9 rfl (by decide) (by decide) rfl (by decide) ?_
  intro us p hs
  obtain ⟨x, y, rfl, hr⟩ := fn2_inv hs
  clear hs
  cases hr
  refine ⟨rfl, ?_⟩
  dsimp only [Try.f9]
  simp only [lEntry, cI, cL, cI, cT]
  repeat' first
    | with_reducible refine WT_seq fun K' hK' => ?_
    | with_reducible refine WT_region ?_
    | with_reducible refine WT_block ?_
    | ((with_reducible refine WT_cond fun X Y hX hY => ?_); (first | (simp [e31, F31, e33, F33, e40, F40, e41, F41, e35, F35, fn1, fn2, fn3, hok, hok2]; try (simp (disch := omega) only [g20_eq]; try simp [e31, F31, e33, F33, e40, F40, e41, F41, e35, F35, fn1, fn2, fn3, hok, hok2])) | (simp [e31, F31, e33, F33, e40, F40, e41, F41, e35, F35, fn1, fn2, fn3, hok]; try (simp (disch := omega) only [g20_eq]; try simp [e31, F31, e33, F33, e40, F40, e41, F41, e35, F35, fn1, fn2, fn3, hok])) | (simp [e31, F31, e33, F33, e40, F40, e41, F41, e35, F35, fn1, fn2, fn3]; try (simp (disch := omega) only [g20_eq]; try simp [e31, F31, e33, F33, e40, F40, e41, F41, e35, F35, fn1, fn2, fn3]))))
    | ((with_reducible refine wrun_consN rfl fun K' hK' => ?_); (first | (simp [e31, F31, e33, F33, e40, F40, e41, F41, e35, F35, fn1, fn2, fn3, hok, hok2]; try (simp (disch := omega) only [g20_eq]; try simp [e31, F31, e33, F33, e40, F40, e41, F41, e35, F35, fn1, fn2, fn3, hok, hok2])) | (simp [e31, F31, e33, F33, e40, F40, e41, F41, e35, F35, fn1, fn2, fn3, hok]; try (simp (disch := omega) only [g20_eq]; try simp [e31, F31, e33, F33, e40, F40, e41, F41, e35, F35, fn1, fn2, fn3, hok])) | (simp [e31, F31, e33, F33, e40, F40, e41, F41, e35, F35, fn1, fn2, fn3]; try (simp (disch := omega) only [g20_eq]; try simp [e31, F31, e33, F33, e40, F40, e41, F41, e35, F35, fn1, fn2, fn3]))))
    | ((with_reducible refine wrun_consG rfl (by with_unfolding_all exact rfl) fun K' hK' => ?_); (first | (simp [e31, F31, e33, F33, e40, F40, e41, F41, e35, F35, fn1, fn2, fn3, hok, hok2]; try (simp (disch := omega) only [g20_eq]; try simp [e31, F31, e33, F33, e40, F40, e41, F41, e35, F35, fn1, fn2, fn3, hok, hok2])) | (simp [e31, F31, e33, F33, e40, F40, e41, F41, e35, F35, fn1, fn2, fn3, hok]; try (simp (disch := omega) only [g20_eq]; try simp [e31, F31, e33, F33, e40, F40, e41, F41, e35, F35, fn1, fn2, fn3, hok])) | (simp [e31, F31, e33, F33, e40, F40, e41, F41, e35, F35, fn1, fn2, fn3]; try (simp (disch := omega) only [g20_eq]; try simp [e31, F31, e33, F33, e40, F40, e41, F41, e35, F35, fn1, fn2, fn3]))))
    | with_reducible refine wrun_nil ?_
    | with_reducible refine then_normal ?_
    | with_reducible refine inBlock_normal ?_
    | with_reducible refine inBlock_ret ?_
    | with_reducible refine inBlock_exit ?_
    | with_reducible refine thenL_normal ?_
    | with_reducible refine thenL_ret ?_
    | with_reducible refine thenL_exit ?_
    | ((with_reducible refine then_ret ?_); clear hK')
    | ((with_reducible refine then_exit ?_); clear hK')
    | with_reducible refine inBlock_other (by decide) ?_
    | with_reducible refine WT_ret ?_
    | with_reducible refine WT_skip ?_
    | with_reducible refine WT_exit ?_
    | ((with_reducible refine hK' _ ?_); clear hK')
    | ((with_reducible refine hX ?_); clear hX hY)
    | ((with_reducible refine hY ?_); clear hX hY)
    | ((with_reducible refine And.intro (Or.inl rfl) ?_); (first | (simp [e31, F31, e33, F33, e40, F40, e41, F41, e35, F35, fn1, fn2, fn3, hok, hok2]; try (simp (disch := omega) only [g20_eq]; try simp [e31, F31, e33, F33, e40, F40, e41, F41, e35, F35, fn1, fn2, fn3, hok, hok2])) | (simp [e31, F31, e33, F33, e40, F40, e41, F41, e35, F35, fn1, fn2, fn3, hok]; try (simp (disch := omega) only [g20_eq]; try simp [e31, F31, e33, F33, e40, F40, e41, F41, e35, F35, fn1, fn2, fn3, hok])) | (simp [e31, F31, e33, F33, e40, F40, e41, F41, e35, F35, fn1, fn2, fn3]; try (simp (disch := omega) only [g20_eq]; try simp [e31, F31, e33, F33, e40, F40, e41, F41, e35, F35, fn1, fn2, fn3]))))
    | with_reducible refine And.intro ?_ ?_
    | omega
    | (intro hlt; have hok := szL_ok szEntry_le szEntry_ok x 1048576 (by omega) (by omega) hlt)
    | intro h
  all_goals first | rfl | (simp_all; done) | omega
end Go.Mv
