/-
  The walks of some functions that a law reaches: each is shown to do to trees what its plain function tells; no statement of the seat by itself; no conditions.
-/
import Derived.Test.YtdkjhbbddlognaaF
namespace Go.Mv
open Go.Proofs
set_option linter.unusedVariables false
set_option linter.unusedSimpArgs false
set_option maxRecDepth 10000
def F72 : FnS := fn2 [.b, .b] cCall cI fun x l => g20 l (szCall x l)
def F17 : FnS := fn2 [.b, .b] cAct cI fun x l => g20 l (szAct x l)
def F73 : FnS := fn1 [.b] cCall fun x => gOk (okCall x) ([.agg (DCall.enc true x)], [])
def F19 : FnS := fn1 [.b] cAct fun x => gOk (okAct x) ([.agg (DAct.enc true x)], [])
def F18 : FnS := fn2 [.b, .b] cAct cAct fun x y => some ([.sc (.bool (DAct.beq x y))], [])
def F20 : FnS := fn2 [.b, .b] cAct cAct fun x y => some ([.sc (.bool (DAct.beq x y))], [])
def F3 : FnS := fn2 [.b, .b] cAct cAct fun _ _ => some ([.sc (.bool true)], [])
set_option maxHeartbeats 4000000 in
theorem con72 {Γ : Mv.Env} (hg : Mv.Good Try.prog Γ) : Contract Try.prog 72 F72 := by
  refine contract_fn hg (wdraw_ok hg mixed) Try.func72 rfl (by decide) (by decide) rfl (by decide) ?_
  intro us p hs
  obtain ⟨x, y, rfl, hr⟩ := fn2_inv hs
  clear hs
  simp only [g20] at hr
  split at hr
  · rename_i hl
    cases hr
    refine ⟨rfl, ?_⟩
    dsimp only [Try.f72]
    simp only [cCall, cI, cT, DCall.enc]
    repeat' first
      | refine WT_seq fun K' hK' => ?_
      | refine WT_region ?_
      | refine WT_block ?_
      | (refine WT_cond fun X Y hX hY => ?_; (simp []; try (simp (disch := omega) only [i64_wrap, g20_eq]; try simp [])))
      | (refine wrun_cons fun K' hK' => ?_; (simp []; try (simp (disch := omega) only [i64_wrap, g20_eq]; try simp [])))
      | refine wrun_nil ?_
      | with_reducible refine then_normal ?_
      | with_reducible refine inBlock_normal ?_
      | with_reducible refine inBlock_ret ?_
      | with_reducible refine inBlock_exit ?_
      | with_reducible refine thenL_normal ?_
      | with_reducible refine thenL_ret ?_
      | with_reducible refine thenL_exit ?_
      | (with_reducible refine then_ret ?_; clear hK')
      | (with_reducible refine then_exit ?_; clear hK')
      | refine inBlock_other (by decide) ?_
      | refine WT_ret ?_
      | refine WT_skip ?_
      | refine WT_exit ?_
      | (refine hK' _ ?_; clear hK')
      | (refine hX ?_; clear hX hY)
      | (refine hY ?_; clear hX hY)
      | (refine And.intro (Or.inl rfl) ?_; (simp []; try (simp (disch := omega) only [i64_wrap, g20_eq]; try simp [])))
      | refine And.intro ?_ ?_
      | intro h
    all_goals ((try simp only [szCall]); (repeat' split) <;> first | rfl | omega)
  · cases hr
set_option maxHeartbeats 4000000 in
theorem con17 {Γ : Mv.Env} (hg : Mv.Good Try.prog Γ) (e72 : Γ 72 = some F72) : Contract Try.prog 17 F17 := by
  refine contract_fn hg (wdraw_ok hg mixed) Try.func17 rfl (by decide) (by decide) rfl (by decide) ?_
  intro us p hs
  obtain ⟨x, y, rfl, hr⟩ := fn2_inv hs
  clear hs
  simp only [g20] at hr
  split at hr
  · rename_i hl
    cases hr
    refine ⟨rfl, ?_⟩
    dsimp only [Try.f17]
    simp only [cAct, cI, cT, DAct.enc]
    have h_Call := szCall_le x.Call y (by omega)
    repeat' first
      | refine WT_seq fun K' hK' => ?_
      | refine WT_region ?_
      | refine WT_block ?_
      | (refine WT_cond fun X Y hX hY => ?_; (simp [e72, F72, fn1, fn2, fn3, DCall.dec]; try (simp (disch := omega) only [i64_wrap, g20_eq]; try simp [e72, F72, fn1, fn2, fn3, DCall.dec])))
      | (refine wrun_cons fun K' hK' => ?_; (simp [e72, F72, fn1, fn2, fn3, DCall.dec]; try (simp (disch := omega) only [i64_wrap, g20_eq]; try simp [e72, F72, fn1, fn2, fn3, DCall.dec])))
      | refine wrun_nil ?_
      | with_reducible refine then_normal ?_
      | with_reducible refine inBlock_normal ?_
      | with_reducible refine inBlock_ret ?_
      | with_reducible refine inBlock_exit ?_
      | with_reducible refine thenL_normal ?_
      | with_reducible refine thenL_ret ?_
      | with_reducible refine thenL_exit ?_
      | (with_reducible refine then_ret ?_; clear hK')
      | (with_reducible refine then_exit ?_; clear hK')
      | refine inBlock_other (by decide) ?_
      | refine WT_ret ?_
      | refine WT_skip ?_
      | refine WT_exit ?_
      | (refine hK' _ ?_; clear hK')
      | (refine hX ?_; clear hX hY)
      | (refine hY ?_; clear hX hY)
      | (refine And.intro (Or.inl rfl) ?_; (simp [e72, F72, fn1, fn2, fn3, DCall.dec]; try (simp (disch := omega) only [i64_wrap, g20_eq]; try simp [e72, F72, fn1, fn2, fn3, DCall.dec])))
      | refine And.intro ?_ ?_
      | intro h
    all_goals ((try simp only [szAct]); (repeat' split) <;> first | rfl | omega)
  · cases hr
set_option maxHeartbeats 4000000 in
theorem con73 {Γ : Mv.Env} (hg : Mv.Good Try.prog Γ) : Contract Try.prog 73 F73 := by
  refine contract_fn hg (wdraw_ok hg mixed) Try.func73 rfl (by decide) (by decide) rfl (by decide) ?_
  intro us p hs
  obtain ⟨x, rfl, hr⟩ := fn1_inv hs
  clear hs
  simp only [gOk] at hr
  split at hr
  · rename_i hl
    cases hr
    refine ⟨rfl, ?_⟩
    dsimp only [Try.f73]
    simp only [cCall, cT, DCall.enc]
    try simp only [okCall, Bool.and_eq_true] at hl
    repeat' first
      | refine WT_seq fun K' hK' => ?_
      | refine WT_region ?_
      | refine WT_block ?_
      | (refine WT_cond fun X Y hX hY => ?_; (simp [hl, DCall.dec]; try (simp (disch := omega) only [i64_wrap, g20_eq]; try simp [hl, DCall.dec])))
      | (refine wrun_cons fun K' hK' => ?_; (simp [hl, DCall.dec]; try (simp (disch := omega) only [i64_wrap, g20_eq]; try simp [hl, DCall.dec])))
      | refine wrun_nil ?_
      | with_reducible refine then_normal ?_
      | with_reducible refine inBlock_normal ?_
      | with_reducible refine inBlock_ret ?_
      | with_reducible refine inBlock_exit ?_
      | with_reducible refine thenL_normal ?_
      | with_reducible refine thenL_ret ?_
      | with_reducible refine thenL_exit ?_
      | (with_reducible refine then_ret ?_; clear hK')
      | (with_reducible refine then_exit ?_; clear hK')
      | refine inBlock_other (by decide) ?_
      | refine WT_ret ?_
      | refine WT_skip ?_
      | refine WT_exit ?_
      | (refine hK' _ ?_; clear hK')
      | (refine hX ?_; clear hX hY)
      | (refine hY ?_; clear hX hY)
      | (refine And.intro (Or.inl rfl) ?_; (simp [hl, DCall.dec]; try (simp (disch := omega) only [i64_wrap, g20_eq]; try simp [hl, DCall.dec])))
      | refine And.intro ?_ ?_
      | intro h
    all_goals first | rfl | (simp [DCall.enc]; done)
  · cases hr
set_option maxHeartbeats 4000000 in
theorem con19 {Γ : Mv.Env} (hg : Mv.Good Try.prog Γ) (e73 : Γ 73 = some F73) : Contract Try.prog 19 F19 := by
  refine contract_fn hg (wdraw_ok hg mixed) Try.func19 rfl (by decide) (by decide) rfl (by decide) ?_
  intro us p hs
  obtain ⟨x, rfl, hr⟩ := fn1_inv hs
  clear hs
  simp only [gOk] at hr
  split at hr
  · rename_i hl
    cases hr
    refine ⟨rfl, ?_⟩
    dsimp only [Try.f19]
    simp only [cAct, cT, DAct.enc]
    try simp only [okAct, Bool.and_eq_true] at hl
    repeat' first
      | refine WT_seq fun K' hK' => ?_
      | refine WT_region ?_
      | refine WT_block ?_
      | (refine WT_cond fun X Y hX hY => ?_; (simp [e73, F73, fn1, fn2, fn3, hl, DAct.dec, DCall.dec, DCall.enc]; try (simp (disch := omega) only [i64_wrap, g20_eq]; try simp [e73, F73, fn1, fn2, fn3, hl, DAct.dec, DCall.dec, DCall.enc])))
      | (refine wrun_cons fun K' hK' => ?_; (simp [e73, F73, fn1, fn2, fn3, hl, DAct.dec, DCall.dec, DCall.enc]; try (simp (disch := omega) only [i64_wrap, g20_eq]; try simp [e73, F73, fn1, fn2, fn3, hl, DAct.dec, DCall.dec, DCall.enc])))
      | refine wrun_nil ?_
      | with_reducible refine then_normal ?_
      | with_reducible refine inBlock_normal ?_
      | with_reducible refine inBlock_ret ?_
      | with_reducible refine inBlock_exit ?_
      | with_reducible refine thenL_normal ?_
      | with_reducible refine thenL_ret ?_
      | with_reducible refine thenL_exit ?_
      | (with_reducible refine then_ret ?_; clear hK')
      | (with_reducible refine then_exit ?_; clear hK')
      | refine inBlock_other (by decide) ?_
      | refine WT_ret ?_
      | refine WT_skip ?_
      | refine WT_exit ?_
      | (refine hK' _ ?_; clear hK')
      | (refine hX ?_; clear hX hY)
      | (refine hY ?_; clear hX hY)
      | (refine And.intro (Or.inl rfl) ?_; (simp [e73, F73, fn1, fn2, fn3, hl, DAct.dec, DCall.dec, DCall.enc]; try (simp (disch := omega) only [i64_wrap, g20_eq]; try simp [e73, F73, fn1, fn2, fn3, hl, DAct.dec, DCall.dec, DCall.enc])))
      | refine And.intro ?_ ?_
      | intro h
    all_goals first | rfl | (simp [DAct.enc]; done)
  · cases hr
set_option maxHeartbeats 4000000 in
theorem con18 {Γ : Mv.Env} (hg : Mv.Good Try.prog Γ) : Contract Try.prog 18 F18 := by
  refine contract_fn hg (wdraw_ok hg mixed) Try.func18 rfl (by decide) (by decide) rfl (by decide) ?_
  intro us p hs
  obtain ⟨x, y, rfl, hr⟩ := fn2_inv hs
  clear hs
  cases hr
  refine ⟨rfl, ?_⟩
  dsimp only [Try.f18]
  simp only [cAct, cAct, cL, cI, cT, DAct.enc]
  repeat' first
    | refine WT_seq fun K' hK' => ?_
    | refine WT_region ?_
    | refine WT_block ?_
    | (refine WT_cond fun X Y hX hY => ?_; (simp []; try (simp (disch := omega) only [i64_wrap, g20_eq]; try simp [])))
    | (refine wrun_cons fun K' hK' => ?_; (simp []; try (simp (disch := omega) only [i64_wrap, g20_eq]; try simp [])))
    | refine wrun_nil ?_
    | with_reducible refine then_normal ?_
    | with_reducible refine inBlock_normal ?_
    | with_reducible refine inBlock_ret ?_
    | with_reducible refine inBlock_exit ?_
    | with_reducible refine thenL_normal ?_
    | with_reducible refine thenL_ret ?_
    | with_reducible refine thenL_exit ?_
    | (with_reducible refine then_ret ?_; clear hK')
    | (with_reducible refine then_exit ?_; clear hK')
    | refine inBlock_other (by decide) ?_
    | refine WT_ret ?_
    | refine WT_skip ?_
    | refine WT_exit ?_
    | (refine hK' _ ?_; clear hK')
    | (refine hX ?_; clear hX hY)
    | (refine hY ?_; clear hX hY)
    | (refine And.intro (Or.inl rfl) ?_; (simp []; try (simp (disch := omega) only [i64_wrap, g20_eq]; try simp [])))
    | refine And.intro ?_ ?_
    | intro h
  all_goals first | rfl | (simp [DAct.beq, DCall.beq, Bool.and_assoc, beqI, beqS]; done) | omega
set_option maxHeartbeats 4000000 in
theorem con20 {Γ : Mv.Env} (hg : Mv.Good Try.prog Γ) : Contract Try.prog 20 F20 := by
  refine contract_fn hg (wdraw_ok hg mixed) Try.func20 rfl (by decide) (by decide) rfl (by decide) ?_
  intro us p hs
  obtain ⟨x, y, rfl, hr⟩ := fn2_inv hs
  clear hs
  cases hr
  refine ⟨rfl, ?_⟩
  dsimp only [Try.f20]
  simp only [cAct, cAct, cL, cI, cT, DAct.enc]
  repeat' first
    | refine WT_seq fun K' hK' => ?_
    | refine WT_region ?_
    | refine WT_block ?_
    | (refine WT_cond fun X Y hX hY => ?_; (simp []; try (simp (disch := omega) only [i64_wrap, g20_eq]; try simp [])))
    | (refine wrun_cons fun K' hK' => ?_; (simp []; try (simp (disch := omega) only [i64_wrap, g20_eq]; try simp [])))
    | refine wrun_nil ?_
    | with_reducible refine then_normal ?_
    | with_reducible refine inBlock_normal ?_
    | with_reducible refine inBlock_ret ?_
    | with_reducible refine inBlock_exit ?_
    | with_reducible refine thenL_normal ?_
    | with_reducible refine thenL_ret ?_
    | with_reducible refine thenL_exit ?_
    | (with_reducible refine then_ret ?_; clear hK')
    | (with_reducible refine then_exit ?_; clear hK')
    | refine inBlock_other (by decide) ?_
    | refine WT_ret ?_
    | refine WT_skip ?_
    | refine WT_exit ?_
    | (refine hK' _ ?_; clear hK')
    | (refine hX ?_; clear hX hY)
    | (refine hY ?_; clear hX hY)
    | (refine And.intro (Or.inl rfl) ?_; (simp []; try (simp (disch := omega) only [i64_wrap, g20_eq]; try simp [])))
    | refine And.intro ?_ ?_
    | intro h
  all_goals first | rfl | (simp [DAct.beq, DCall.beq, Bool.and_assoc, beqI, beqS]; done) | omega
set_option maxHeartbeats 4000000 in
theorem con3 {Γ : Mv.Env} (hg : Mv.Good Try.prog Γ) (e17 : Γ 17 = some F17) (e19 : Γ 19 = some F19) (e18 : Γ 18 = some F18) (e20 : Γ 20 = some F20) : Contract Try.prog 3 F3 := by
  refine contract_fn hg (wdraw_ok hg mixed) Try.func3 rfl (by decide) (by decide) rfl (by decide) ?_
  intro us p hs
  obtain ⟨x, y, rfl, hr⟩ := fn2_inv hs
  clear hs
  cases hr
  refine ⟨rfl, ?_⟩
  dsimp only [Try.f3]
  simp only [cAct, cAct, cL, cI, cT, DAct.enc]
  have hb1 := szAct_le x 1048576 (by omega)
  repeat' first
    | refine WT_seq fun K' hK' => ?_
    | refine WT_region ?_
    | refine WT_block ?_
    | (refine WT_cond fun X Y hX hY => ?_; (first | (simp [e17, F17, e19, F19, e18, F18, e20, F20, fn1, fn2, fn3, DAct.enc, DAct.dec, DCall.dec, hok, hok2]; try (simp (disch := omega) only [g20_eq]; try simp [e17, F17, e19, F19, e18, F18, e20, F20, fn1, fn2, fn3, DAct.enc, DAct.dec, DCall.dec, hok, hok2])) | (simp [e17, F17, e19, F19, e18, F18, e20, F20, fn1, fn2, fn3, DAct.enc, DAct.dec, DCall.dec, hok]; try (simp (disch := omega) only [g20_eq]; try simp [e17, F17, e19, F19, e18, F18, e20, F20, fn1, fn2, fn3, DAct.enc, DAct.dec, DCall.dec, hok])) | (simp [e17, F17, e19, F19, e18, F18, e20, F20, fn1, fn2, fn3, DAct.enc, DAct.dec, DCall.dec]; try (simp (disch := omega) only [g20_eq]; try simp [e17, F17, e19, F19, e18, F18, e20, F20, fn1, fn2, fn3, DAct.enc, DAct.dec, DCall.dec]))))
    | (refine wrun_cons fun K' hK' => ?_; (first | (simp [e17, F17, e19, F19, e18, F18, e20, F20, fn1, fn2, fn3, DAct.enc, DAct.dec, DCall.dec, hok, hok2]; try (simp (disch := omega) only [g20_eq]; try simp [e17, F17, e19, F19, e18, F18, e20, F20, fn1, fn2, fn3, DAct.enc, DAct.dec, DCall.dec, hok, hok2])) | (simp [e17, F17, e19, F19, e18, F18, e20, F20, fn1, fn2, fn3, DAct.enc, DAct.dec, DCall.dec, hok]; try (simp (disch := omega) only [g20_eq]; try simp [e17, F17, e19, F19, e18, F18, e20, F20, fn1, fn2, fn3, DAct.enc, DAct.dec, DCall.dec, hok])) | (simp [e17, F17, e19, F19, e18, F18, e20, F20, fn1, fn2, fn3, DAct.enc, DAct.dec, DCall.dec]; try (simp (disch := omega) only [g20_eq]; try simp [e17, F17, e19, F19, e18, F18, e20, F20, fn1, fn2, fn3, DAct.enc, DAct.dec, DCall.dec]))))
    | refine wrun_nil ?_
    | (refine wfront_cons rfl rfl ?_ fun K' hK' => ?_ <;> (first | (simp [wgcalm, rootless, frontS, St.kills, e17, F17, e19, F19, e18, F18, e20, F20, fn1, fn2, fn3, DAct.enc, DAct.dec, DCall.dec, hok, hok2]; try (simp (disch := omega) only [g20_eq]; try simp [wgcalm, rootless, frontS, St.kills, e17, F17, e19, F19, e18, F18, e20, F20, fn1, fn2, fn3, DAct.enc, DAct.dec, DCall.dec, hok, hok2])) | (simp [wgcalm, rootless, frontS, St.kills, e17, F17, e19, F19, e18, F18, e20, F20, fn1, fn2, fn3, DAct.enc, DAct.dec, DCall.dec, hok]; try (simp (disch := omega) only [g20_eq]; try simp [wgcalm, rootless, frontS, St.kills, e17, F17, e19, F19, e18, F18, e20, F20, fn1, fn2, fn3, DAct.enc, DAct.dec, DCall.dec, hok])) | (simp [wgcalm, rootless, frontS, St.kills, e17, F17, e19, F19, e18, F18, e20, F20, fn1, fn2, fn3, DAct.enc, DAct.dec, DCall.dec]; try (simp (disch := omega) only [g20_eq]; try simp [wgcalm, rootless, frontS, St.kills, e17, F17, e19, F19, e18, F18, e20, F20, fn1, fn2, fn3, DAct.enc, DAct.dec, DCall.dec]))))
    | (refine wfront_tail rfl ?_)
    | refine wfront_nil ?_
    | (refine WT_draw [18, 19, 20, 21, 22] (by decide) rfl ?_; simp only [St.kills, St.kill])
    | (refine WT_draw [23, 24, 25, 26, 27] (by decide) rfl ?_; simp only [St.kills, St.kill])
    | with_reducible refine then_normal ?_
    | with_reducible refine inBlock_normal ?_
    | with_reducible refine inBlock_ret ?_
    | with_reducible refine inBlock_exit ?_
    | with_reducible refine thenL_normal ?_
    | with_reducible refine thenL_ret ?_
    | with_reducible refine thenL_exit ?_
    | (with_reducible refine then_ret ?_; clear hK')
    | (with_reducible refine then_exit ?_; clear hK')
    | refine inBlock_other (by decide) ?_
    | refine WT_ret ?_
    | refine WT_skip ?_
    | refine WT_exit ?_
    | (refine hK' _ ?_; clear hK')
    | (refine hX ?_; clear hX hY)
    | (refine hY ?_; clear hX hY)
    | (refine And.intro (Or.inl rfl) ?_; (first | (simp [e17, F17, e19, F19, e18, F18, e20, F20, fn1, fn2, fn3, DAct.enc, DAct.dec, DCall.dec, hok, hok2]; try (simp (disch := omega) only [g20_eq]; try simp [e17, F17, e19, F19, e18, F18, e20, F20, fn1, fn2, fn3, DAct.enc, DAct.dec, DCall.dec, hok, hok2])) | (simp [e17, F17, e19, F19, e18, F18, e20, F20, fn1, fn2, fn3, DAct.enc, DAct.dec, DCall.dec, hok]; try (simp (disch := omega) only [g20_eq]; try simp [e17, F17, e19, F19, e18, F18, e20, F20, fn1, fn2, fn3, DAct.enc, DAct.dec, DCall.dec, hok])) | (simp [e17, F17, e19, F19, e18, F18, e20, F20, fn1, fn2, fn3, DAct.enc, DAct.dec, DCall.dec]; try (simp (disch := omega) only [g20_eq]; try simp [e17, F17, e19, F19, e18, F18, e20, F20, fn1, fn2, fn3, DAct.enc, DAct.dec, DCall.dec]))))
    | refine And.intro ?_ ?_
    | omega
    | (intro hlt; have hok2 := szAct_ok y (szAct x 1048576) (by omega) (by omega) hlt)
    | (intro hlt; have hok := szAct_ok x 1048576 (by omega) (by omega) hlt)
    | intro h
  all_goals first | rfl | (simp_all; done) | omega
end Go.Mv
