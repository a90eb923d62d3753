/-
  The walks of some functions that a law reaches: each is shown to do to trees what its plain function tells; no statement of the seat by itself; no conditions.
-/
import Derived.Test.YtdkjhbbddlognaaWBefore0
namespace Go.Mv
open Go.Proofs
set_option linter.unusedVariables false
set_option linter.unusedSimpArgs false
set_option maxRecDepth 10000
set_option maxHeartbeats 4000000 in
theorem con5 {Γ : Mv.Env} (hg : Mv.Good Try.prog Γ) (e26 : Γ 26 = some F26) (e28 : Γ 28 = some F28) (e27 : Γ 27 = some F27) (e29 : Γ 29 = some F29) (e30 : Γ 30 = some F30) : Contract Try.prog 5 F5 := by
  refine contract_fn hg (wdraw_ok hg mixed) Try.func5 rfl (by decide) (by decide) rfl (by decide) ?_
  intro us p hs
  obtain ⟨x, y, rfl, hr⟩ := fn2_inv hs
  clear hs
  cases hr
  refine ⟨rfl, ?_⟩
  dsimp only [Try.f5]
  simp only [cEntry, cEntry, cL, cI, cT, DEntry.enc]
  have hb1 := szEntry_le x 1048576 (by omega)
  repeat' first
    | refine WT_seq fun K' hK' => ?_
    | refine WT_region ?_
    | refine WT_block ?_
    | (refine WT_cond fun X Y hX hY => ?_; (first | (simp [e26, F26, e28, F28, e27, F27, e29, F29, e30, F30, fn1, fn2, fn3, DEntry.enc, DEntry.dec, hok, hok2]; try (simp (disch := omega) only [g20_eq]; try simp [e26, F26, e28, F28, e27, F27, e29, F29, e30, F30, fn1, fn2, fn3, DEntry.enc, DEntry.dec, hok, hok2])) | (simp [e26, F26, e28, F28, e27, F27, e29, F29, e30, F30, fn1, fn2, fn3, DEntry.enc, DEntry.dec, hok]; try (simp (disch := omega) only [g20_eq]; try simp [e26, F26, e28, F28, e27, F27, e29, F29, e30, F30, fn1, fn2, fn3, DEntry.enc, DEntry.dec, hok])) | (simp [e26, F26, e28, F28, e27, F27, e29, F29, e30, F30, fn1, fn2, fn3, DEntry.enc, DEntry.dec]; try (simp (disch := omega) only [g20_eq]; try simp [e26, F26, e28, F28, e27, F27, e29, F29, e30, F30, fn1, fn2, fn3, DEntry.enc, DEntry.dec]))))
    | (refine wrun_cons fun K' hK' => ?_; (first | (simp [e26, F26, e28, F28, e27, F27, e29, F29, e30, F30, fn1, fn2, fn3, DEntry.enc, DEntry.dec, hok, hok2]; try (simp (disch := omega) only [g20_eq]; try simp [e26, F26, e28, F28, e27, F27, e29, F29, e30, F30, fn1, fn2, fn3, DEntry.enc, DEntry.dec, hok, hok2])) | (simp [e26, F26, e28, F28, e27, F27, e29, F29, e30, F30, fn1, fn2, fn3, DEntry.enc, DEntry.dec, hok]; try (simp (disch := omega) only [g20_eq]; try simp [e26, F26, e28, F28, e27, F27, e29, F29, e30, F30, fn1, fn2, fn3, DEntry.enc, DEntry.dec, hok])) | (simp [e26, F26, e28, F28, e27, F27, e29, F29, e30, F30, fn1, fn2, fn3, DEntry.enc, DEntry.dec]; try (simp (disch := omega) only [g20_eq]; try simp [e26, F26, e28, F28, e27, F27, e29, F29, e30, F30, fn1, fn2, fn3, DEntry.enc, DEntry.dec]))))
    | refine wrun_nil ?_
    | (refine wfront_cons rfl rfl ?_ fun K' hK' => ?_ <;> (first | (simp [wgcalm, rootless, frontS, St.kills, e26, F26, e28, F28, e27, F27, e29, F29, e30, F30, fn1, fn2, fn3, DEntry.enc, DEntry.dec, hok, hok2]; try (simp (disch := omega) only [g20_eq]; try simp [wgcalm, rootless, frontS, St.kills, e26, F26, e28, F28, e27, F27, e29, F29, e30, F30, fn1, fn2, fn3, DEntry.enc, DEntry.dec, hok, hok2])) | (simp [wgcalm, rootless, frontS, St.kills, e26, F26, e28, F28, e27, F27, e29, F29, e30, F30, fn1, fn2, fn3, DEntry.enc, DEntry.dec, hok]; try (simp (disch := omega) only [g20_eq]; try simp [wgcalm, rootless, frontS, St.kills, e26, F26, e28, F28, e27, F27, e29, F29, e30, F30, fn1, fn2, fn3, DEntry.enc, DEntry.dec, hok])) | (simp [wgcalm, rootless, frontS, St.kills, e26, F26, e28, F28, e27, F27, e29, F29, e30, F30, fn1, fn2, fn3, DEntry.enc, DEntry.dec]; try (simp (disch := omega) only [g20_eq]; try simp [wgcalm, rootless, frontS, St.kills, e26, F26, e28, F28, e27, F27, e29, F29, e30, F30, fn1, fn2, fn3, DEntry.enc, DEntry.dec]))))
    | (refine wfront_tail rfl ?_)
    | refine wfront_nil ?_
    | (refine WT_draw [20, 21, 22, 23, 24] (by decide) rfl ?_; simp only [St.kills, St.kill])
    | (refine WT_draw [35, 36, 37, 38, 39] (by decide) rfl ?_; simp only [St.kills, St.kill])
    | (refine WT_draw [40, 41, 42, 43, 44] (by decide) rfl ?_; simp only [St.kills, St.kill])
    | with_reducible refine then_normal ?_
    | with_reducible refine inBlock_normal ?_
    | with_reducible refine inBlock_ret ?_
    | with_reducible refine inBlock_exit ?_
    | with_reducible refine thenL_normal ?_
    | with_reducible refine thenL_ret ?_
    | with_reducible refine thenL_exit ?_
    | (with_reducible refine then_ret ?_; clear hK')
    | (with_reducible refine then_exit ?_; clear hK')
    | refine inBlock_other (by decide) ?_
    | refine WT_ret ?_
    | refine WT_skip ?_
    | refine WT_exit ?_
    | (refine hK' _ ?_; clear hK')
    | (refine hX ?_; clear hX hY)
    | (refine hY ?_; clear hX hY)
    | (refine And.intro (Or.inl rfl) ?_; (first | (simp [e26, F26, e28, F28, e27, F27, e29, F29, e30, F30, fn1, fn2, fn3, DEntry.enc, DEntry.dec, hok, hok2]; try (simp (disch := omega) only [g20_eq]; try simp [e26, F26, e28, F28, e27, F27, e29, F29, e30, F30, fn1, fn2, fn3, DEntry.enc, DEntry.dec, hok, hok2])) | (simp [e26, F26, e28, F28, e27, F27, e29, F29, e30, F30, fn1, fn2, fn3, DEntry.enc, DEntry.dec, hok]; try (simp (disch := omega) only [g20_eq]; try simp [e26, F26, e28, F28, e27, F27, e29, F29, e30, F30, fn1, fn2, fn3, DEntry.enc, DEntry.dec, hok])) | (simp [e26, F26, e28, F28, e27, F27, e29, F29, e30, F30, fn1, fn2, fn3, DEntry.enc, DEntry.dec]; try (simp (disch := omega) only [g20_eq]; try simp [e26, F26, e28, F28, e27, F27, e29, F29, e30, F30, fn1, fn2, fn3, DEntry.enc, DEntry.dec]))))
    | refine And.intro ?_ ?_
    | omega
    | (intro hlt; have hok2 := szEntry_ok y (szEntry x 1048576) (by omega) (by omega) hlt)
    | (intro hlt; have hok := szEntry_ok x 1048576 (by omega) (by omega) hlt)
    | intro h
  all_goals first | rfl | (simp_all; done) | omega
end Go.Mv
