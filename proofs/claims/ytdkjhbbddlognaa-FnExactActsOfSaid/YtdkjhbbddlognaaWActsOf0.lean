/-
  The walks of some functions that a law reaches: each is shown to do to trees what its plain function tells; no statement of the seat by itself; no conditions.
-/
import Derived.Test.YtdkjhbbddlognaaF
namespace Go.Mv
open Go.Proofs
set_option linter.unusedVariables false
set_option linter.unusedSimpArgs false
set_option maxRecDepth 10000
def F72 : FnS := fn2 [.b, .b] cCall cI fun x l => g20 l (szCall x l)
def F17 : FnS := fn2 [.b, .b] cAct cI fun x l => g20 l (szAct x l)
def F21 : FnS := fn2 [.b, .b] lAct cI fun x l => g20 l (szL szAct x l)
def F73 : FnS := fn1 [.b] cCall fun x => gOk (okCall x) ([.agg (DCall.enc true x)], [])
def F19 : FnS := fn1 [.b] cAct fun x => gOk (okAct x) ([.agg (DAct.enc true x)], [])
def F23 : FnS := fn1 [.b] lAct fun x => gOk (okL okAct x) ([.sl true 9 (x.map (DAct.enc true))], [])
def F22 : FnS := fn2 [.b, .b] lAct cI fun x y => some ([.sc (.int .i64 ((x.countP (fun u => u.Kind == y) : Nat) : Int))], [])
def F24 : FnS := fn2 [.b, .b] lAct cI fun x y => some ([.sc (.int .i64 ((x.countP (fun u => u.Kind == y) : Nat) : Int))], [])
def F116 : FnS := fn2 [.b, .b] cCall cCall fun x y => some ([.sc (.bool (DCall.beq x y))], [])
def F74 : FnS := fn2 [.b, .b] cAct cAct fun x y => some ([.sc (.bool (DAct.beq x y))], [])
def F25 : FnS := fn2 [.b, .b] lAct lAct fun x y => some ([.sc (.bool (beqL DAct.beq x y))], [])
def F4 : FnS := fn2 [.b, .b] lAct cI fun _ _ => some ([.sc (.bool true)], [])
set_option maxHeartbeats 4000000 in
theorem con72 {Γ : Mv.Env} (hg : Mv.Good Try.prog Γ) : Contract Try.prog 72 F72 := by
  refine contract_fn hg (wdraw_ok hg mixed) Try.func72 rfl (by decide) (by decide) rfl (by decide) ?_
  intro us p hs
  obtain ⟨x, y, rfl, hr⟩ := fn2_inv hs
  clear hs
  simp only [g20] at hr
  split at hr
  · rename_i hl
    cases hr
    refine ⟨rfl, ?_⟩
    dsimp only [Try.f72]
    simp only [cCall, cI, cT, DCall.enc]
    repeat' first
      | refine WT_seq fun K' hK' => ?_
      | refine WT_region ?_
      | refine WT_block ?_
      | (refine WT_cond fun X Y hX hY => ?_; (simp []; try (simp (disch := omega) only [i64_wrap, g20_eq]; try simp [])))
      | (refine wrun_cons fun K' hK' => ?_; (simp []; try (simp (disch := omega) only [i64_wrap, g20_eq]; try simp [])))
      | refine wrun_nil ?_
      | with_reducible refine then_normal ?_
      | with_reducible refine inBlock_normal ?_
      | with_reducible refine inBlock_ret ?_
      | with_reducible refine inBlock_exit ?_
      | with_reducible refine thenL_normal ?_
      | with_reducible refine thenL_ret ?_
      | with_reducible refine thenL_exit ?_
      | (with_reducible refine then_ret ?_; clear hK')
      | (with_reducible refine then_exit ?_; clear hK')
      | refine inBlock_other (by decide) ?_
      | refine WT_ret ?_
      | refine WT_skip ?_
      | refine WT_exit ?_
      | (refine hK' _ ?_; clear hK')
      | (refine hX ?_; clear hX hY)
      | (refine hY ?_; clear hX hY)
      | (refine And.intro (Or.inl rfl) ?_; (simp []; try (simp (disch := omega) only [i64_wrap, g20_eq]; try simp [])))
      | refine And.intro ?_ ?_
      | intro h
    all_goals ((try simp only [szCall]); (repeat' split) <;> first | rfl | omega)
  · cases hr
set_option maxHeartbeats 4000000 in
theorem con17 {Γ : Mv.Env} (hg : Mv.Good Try.prog Γ) (e72 : Γ 72 = some F72) : Contract Try.prog 17 F17 := by
  refine contract_fn hg (wdraw_ok hg mixed) Try.func17 rfl (by decide) (by decide) rfl (by decide) ?_
  intro us p hs
  obtain ⟨x, y, rfl, hr⟩ := fn2_inv hs
  clear hs
  simp only [g20] at hr
  split at hr
  · rename_i hl
    cases hr
    refine ⟨rfl, ?_⟩
    dsimp only [Try.f17]
    simp only [cAct, cI, cT, DAct.enc]
    have h_Call := szCall_le x.Call y (by omega)
    repeat' first
      | refine WT_seq fun K' hK' => ?_
      | refine WT_region ?_
      | refine WT_block ?_
      | (refine WT_cond fun X Y hX hY => ?_; (simp [e72, F72, fn1, fn2, fn3, DCall.dec]; try (simp (disch := omega) only [i64_wrap, g20_eq]; try simp [e72, F72, fn1, fn2, fn3, DCall.dec])))
      | (refine wrun_cons fun K' hK' => ?_; (simp [e72, F72, fn1, fn2, fn3, DCall.dec]; try (simp (disch := omega) only [i64_wrap, g20_eq]; try simp [e72, F72, fn1, fn2, fn3, DCall.dec])))
      | refine wrun_nil ?_
      | with_reducible refine then_normal ?_
      | with_reducible refine inBlock_normal ?_
      | with_reducible refine inBlock_ret ?_
      | with_reducible refine inBlock_exit ?_
      | with_reducible refine thenL_normal ?_
      | with_reducible refine thenL_ret ?_
      | with_reducible refine thenL_exit ?_
      | (with_reducible refine then_ret ?_; clear hK')
      | (with_reducible refine then_exit ?_; clear hK')
      | refine inBlock_other (by decide) ?_
      | refine WT_ret ?_
      | refine WT_skip ?_
      | refine WT_exit ?_
      | (refine hK' _ ?_; clear hK')
      | (refine hX ?_; clear hX hY)
      | (refine hY ?_; clear hX hY)
      | (refine And.intro (Or.inl rfl) ?_; (simp [e72, F72, fn1, fn2, fn3, DCall.dec]; try (simp (disch := omega) only [i64_wrap, g20_eq]; try simp [e72, F72, fn1, fn2, fn3, DCall.dec])))
      | refine And.intro ?_ ?_
      | intro h
    all_goals ((try simp only [szAct]); (repeat' split) <;> first | rfl | omega)
  · cases hr
set_option maxHeartbeats 4000000 in
theorem con21 {Γ : Mv.Env} (hg : Mv.Good Try.prog Γ) (e17 : Γ 17 = some F17) : Contract Try.prog 21 F21 := by
  refine contract_fn hg (wdraw_ok hg mixed) Try.func21 rfl (by decide) (by decide) rfl (by decide) ?_
  intro us p hs
  obtain ⟨x, y, rfl, hr⟩ := fn2_inv hs
  clear hs
  simp only [g20] at hr
  split at hr
  · rename_i hl
    cases hr
    refine ⟨rfl, ?_⟩
    dsimp only [Try.f21]
    simp only [lAct, cI, cL]
    repeat' first
      | refine WT_seq fun K' hK' => ?_
      | refine WT_region ?_
      | refine WT_block ?_
      | (refine WT_cond fun X Y hX hY => ?_; (simp [e17, F17, fn1, fn2, fn3, DAct.dec, DCall.dec]; try (simp (disch := omega) only [i64_wrap, g20_eq]; try simp [e17, F17, fn1, fn2, fn3, DAct.dec, DCall.dec])))
      | (refine wrun_cons fun K' hK' => ?_; (simp [e17, F17, fn1, fn2, fn3, DAct.dec, DCall.dec]; try (simp (disch := omega) only [i64_wrap, g20_eq]; try simp [e17, F17, fn1, fn2, fn3, DAct.dec, DCall.dec])))
      | refine wrun_nil ?_
      | with_reducible refine then_normal ?_
      | with_reducible refine inBlock_normal ?_
      | with_reducible refine inBlock_ret ?_
      | with_reducible refine inBlock_exit ?_
      | with_reducible refine thenL_normal ?_
      | with_reducible refine thenL_ret ?_
      | with_reducible refine thenL_exit ?_
      | (with_reducible refine then_ret ?_; clear hK')
      | (with_reducible refine then_exit ?_; clear hK')
      | refine inBlock_other (by decide) ?_
      | refine WT_ret ?_
      | refine WT_skip ?_
      | refine WT_exit ?_
      | (refine hK' _ ?_; clear hK')
      | (refine hX ?_; clear hX hY)
      | (refine hY ?_; clear hX hY)
      | (refine And.intro (Or.inl rfl) ?_; (simp [e17, F17, fn1, fn2, fn3, DAct.dec, DCall.dec]; try (simp (disch := omega) only [i64_wrap, g20_eq]; try simp [e17, F17, fn1, fn2, fn3, DAct.dec, DCall.dec])))
      | refine And.intro ?_ ?_
      | intro h
    · simp only [szL]; split <;> first | rfl | omega
    · refine WT_loopL (fun m σ => ∃ k, k ≤ x.length ∧ m = x.length - k ∧ σ.slot 0 = .tr none (.sl false 9 (x.map (DAct.enc false))) ∧ σ.slot 5 = .tr none (.sc (.int .i64 k)) ∧
        ∃ a : Int, σ.slot 1 = .tr none (.sc (.int .i64 a)) ∧ 0 ≤ a ∧ a ≤ 1048576 ∧ (x.take k).foldl (fun a y => if a < 0 then -1 else szAct y a) (y - x.length) = a) ⟨_, 0, by omega, rfl, by simp, by simp, y - x.length, by simp, by omega, by omega, by simp⟩ ?_
      rintro m σ ⟨k, hk, rfl, s0, s5, a, s1, ha0, ha1, hae⟩
      repeat' first
        | refine WT_seq fun K' hK' => ?_
        | refine WT_region ?_
        | refine WT_block ?_
        | (refine WT_cond fun X Y hX hY => ?_; (first | (simp [e17, F17, fn1, fn2, fn3, DAct.dec, DCall.dec, s0, s5, s1, DAct.enc, szS, hx]; try (simp (disch := omega) only [i64_wrap, g20_eq]; try simp [e17, F17, fn1, fn2, fn3, DAct.dec, DCall.dec, s0, s5, s1, DAct.enc, szS, hx])) | (simp [e17, F17, fn1, fn2, fn3, DAct.dec, DCall.dec, s0, s5, s1, DAct.enc, szS]; try (simp (disch := omega) only [i64_wrap, g20_eq]; try simp [e17, F17, fn1, fn2, fn3, DAct.dec, DCall.dec, s0, s5, s1, DAct.enc, szS]))))
        | (refine wrun_cons fun K' hK' => ?_; (first | (simp [e17, F17, fn1, fn2, fn3, DAct.dec, DCall.dec, s0, s5, s1, DAct.enc, szS, hx]; try (simp (disch := omega) only [i64_wrap, g20_eq]; try simp [e17, F17, fn1, fn2, fn3, DAct.dec, DCall.dec, s0, s5, s1, DAct.enc, szS, hx])) | (simp [e17, F17, fn1, fn2, fn3, DAct.dec, DCall.dec, s0, s5, s1, DAct.enc, szS]; try (simp (disch := omega) only [i64_wrap, g20_eq]; try simp [e17, F17, fn1, fn2, fn3, DAct.dec, DCall.dec, s0, s5, s1, DAct.enc, szS]))))
        | refine wrun_nil ?_
        | with_reducible refine then_normal ?_
        | with_reducible refine inBlock_normal ?_
        | with_reducible refine inBlock_ret ?_
        | with_reducible refine inBlock_exit ?_
        | with_reducible refine thenL_normal ?_
        | with_reducible refine thenL_ret ?_
        | with_reducible refine thenL_exit ?_
        | (with_reducible refine then_ret ?_; clear hK')
        | (with_reducible refine then_exit ?_; clear hK')
        | refine inBlock_other (by decide) ?_
        | refine WT_ret ?_
        | refine WT_skip ?_
        | refine WT_exit ?_
        | (refine hK' _ ?_; clear hK')
        | (refine hX ?_; clear hX hY)
        | (refine hY ?_; clear hX hY)
        | (refine And.intro (Or.inl rfl) ?_; (first | (simp [e17, F17, fn1, fn2, fn3, DAct.dec, DCall.dec, s0, s5, s1, DAct.enc, szS, hx]; try (simp (disch := omega) only [i64_wrap, g20_eq]; try simp [e17, F17, fn1, fn2, fn3, DAct.dec, DCall.dec, s0, s5, s1, DAct.enc, szS, hx])) | (simp [e17, F17, fn1, fn2, fn3, DAct.dec, DCall.dec, s0, s5, s1, DAct.enc, szS]; try (simp (disch := omega) only [i64_wrap, g20_eq]; try simp [e17, F17, fn1, fn2, fn3, DAct.dec, DCall.dec, s0, s5, s1, DAct.enc, szS]))))
        | refine And.intro ?_ ?_
        | (intro hlt; obtain ⟨u, hx⟩ := get_some hlt; have hz := szAct_le u a (by omega); have hst := szL_step szAct hx (y - x.length); rw [hae, if_neg (by omega)] at hst)
        | intro h
      · simp only [szL]
        rw [if_neg (by omega)]
        refine (szL_dead szAct x (k + 1) _ ?_).symm
        rw [hst] <;> (try simp only [szS] at *) <;> (repeat' split) <;> omega
      · refine ⟨x.length - (k + 1), by omega, k + 1, by omega, rfl, by simp [s0], by simp, _, by simp; rfl, by (try simp only [szS] at *); omega, by (try simp only [szS] at *); omega, ?_⟩
        rw [hst] <;> (try simp only [szS] at *) <;> (repeat' split) <;> omega
      · simp only [szL]
        rw [if_neg (by omega), ← hae, List.take_of_length_le (by omega)]
  · cases hr
set_option maxHeartbeats 4000000 in
theorem con73 {Γ : Mv.Env} (hg : Mv.Good Try.prog Γ) : Contract Try.prog 73 F73 := by
  refine contract_fn hg (wdraw_ok hg mixed) Try.func73 rfl (by decide) (by decide) rfl (by decide) ?_
  intro us p hs
  obtain ⟨x, rfl, hr⟩ := fn1_inv hs
  clear hs
  simp only [gOk] at hr
  split at hr
  · rename_i hl
    cases hr
    refine ⟨rfl, ?_⟩
    dsimp only [Try.f73]
    simp only [cCall, cT, DCall.enc]
    try simp only [okCall, Bool.and_eq_true] at hl
    repeat' first
      | refine WT_seq fun K' hK' => ?_
      | refine WT_region ?_
      | refine WT_block ?_
      | (refine WT_cond fun X Y hX hY => ?_; (simp [hl, DCall.dec]; try (simp (disch := omega) only [i64_wrap, g20_eq]; try simp [hl, DCall.dec])))
      | (refine wrun_cons fun K' hK' => ?_; (simp [hl, DCall.dec]; try (simp (disch := omega) only [i64_wrap, g20_eq]; try simp [hl, DCall.dec])))
      | refine wrun_nil ?_
      | with_reducible refine then_normal ?_
      | with_reducible refine inBlock_normal ?_
      | with_reducible refine inBlock_ret ?_
      | with_reducible refine inBlock_exit ?_
      | with_reducible refine thenL_normal ?_
      | with_reducible refine thenL_ret ?_
      | with_reducible refine thenL_exit ?_
      | (with_reducible refine then_ret ?_; clear hK')
      | (with_reducible refine then_exit ?_; clear hK')
      | refine inBlock_other (by decide) ?_
      | refine WT_ret ?_
      | refine WT_skip ?_
      | refine WT_exit ?_
      | (refine hK' _ ?_; clear hK')
      | (refine hX ?_; clear hX hY)
      | (refine hY ?_; clear hX hY)
      | (refine And.intro (Or.inl rfl) ?_; (simp [hl, DCall.dec]; try (simp (disch := omega) only [i64_wrap, g20_eq]; try simp [hl, DCall.dec])))
      | refine And.intro ?_ ?_
      | intro h
    all_goals first | rfl | (simp [DCall.enc]; done)
  · cases hr
set_option maxHeartbeats 4000000 in
theorem con19 {Γ : Mv.Env} (hg : Mv.Good Try.prog Γ) (e73 : Γ 73 = some F73) : Contract Try.prog 19 F19 := by
  refine contract_fn hg (wdraw_ok hg mixed) Try.func19 rfl (by decide) (by decide) rfl (by decide) ?_
  intro us p hs
  obtain ⟨x, rfl, hr⟩ := fn1_inv hs
  clear hs
  simp only [gOk] at hr
  split at hr
  · rename_i hl
    cases hr
    refine ⟨rfl, ?_⟩
    dsimp only [Try.f19]
    simp only [cAct, cT, DAct.enc]
    try simp only [okAct, Bool.and_eq_true] at hl
    repeat' first
      | refine WT_seq fun K' hK' => ?_
      | refine WT_region ?_
      | refine WT_block ?_
      | (refine WT_cond fun X Y hX hY => ?_; (simp [e73, F73, fn1, fn2, fn3, hl, DAct.dec, DCall.dec, DCall.enc]; try (simp (disch := omega) only [i64_wrap, g20_eq]; try simp [e73, F73, fn1, fn2, fn3, hl, DAct.dec, DCall.dec, DCall.enc])))
      | (refine wrun_cons fun K' hK' => ?_; (simp [e73, F73, fn1, fn2, fn3, hl, DAct.dec, DCall.dec, DCall.enc]; try (simp (disch := omega) only [i64_wrap, g20_eq]; try simp [e73, F73, fn1, fn2, fn3, hl, DAct.dec, DCall.dec, DCall.enc])))
      | refine wrun_nil ?_
      | with_reducible refine then_normal ?_
      | with_reducible refine inBlock_normal ?_
      | with_reducible refine inBlock_ret ?_
      | with_reducible refine inBlock_exit ?_
      | with_reducible refine thenL_normal ?_
      | with_reducible refine thenL_ret ?_
      | with_reducible refine thenL_exit ?_
      | (with_reducible refine then_ret ?_; clear hK')
      | (with_reducible refine then_exit ?_; clear hK')
      | refine inBlock_other (by decide) ?_
      | refine WT_ret ?_
      | refine WT_skip ?_
      | refine WT_exit ?_
      | (refine hK' _ ?_; clear hK')
      | (refine hX ?_; clear hX hY)
      | (refine hY ?_; clear hX hY)
      | (refine And.intro (Or.inl rfl) ?_; (simp [e73, F73, fn1, fn2, fn3, hl, DAct.dec, DCall.dec, DCall.enc]; try (simp (disch := omega) only [i64_wrap, g20_eq]; try simp [e73, F73, fn1, fn2, fn3, hl, DAct.dec, DCall.dec, DCall.enc])))
      | refine And.intro ?_ ?_
      | intro h
    all_goals first | rfl | (simp [DAct.enc]; done)
  · cases hr
set_option maxHeartbeats 4000000 in
theorem con23 {Γ : Mv.Env} (hg : Mv.Good Try.prog Γ) (e19 : Γ 19 = some F19) : Contract Try.prog 23 F23 := by
  refine contract_fn hg (wdraw_ok hg mixed) Try.func23 rfl (by decide) (by decide) rfl (by decide) ?_
  intro us p hs
  obtain ⟨x, rfl, hr⟩ := fn1_inv hs
  clear hs
  simp only [gOk] at hr
  split at hr
  · rename_i hl
    cases hr
    refine ⟨rfl, ?_⟩
    have hn := okL_len hl
    dsimp only [Try.f23]
    simp only [lAct, cL]
    repeat' first
      | refine WT_seq fun K' hK' => ?_
      | refine WT_region ?_
      | refine WT_block ?_
      | (refine WT_cond fun X Y hX hY => ?_; (simp [e19, F19, fn1, fn2, fn3, DAct.dec, DCall.dec]; try (simp (disch := omega) only [i64_wrap, g20_eq]; try simp [e19, F19, fn1, fn2, fn3, DAct.dec, DCall.dec])))
      | (refine wrun_cons fun K' hK' => ?_; (simp [e19, F19, fn1, fn2, fn3, DAct.dec, DCall.dec]; try (simp (disch := omega) only [i64_wrap, g20_eq]; try simp [e19, F19, fn1, fn2, fn3, DAct.dec, DCall.dec])))
      | refine wrun_nil ?_
      | with_reducible refine then_normal ?_
      | with_reducible refine inBlock_normal ?_
      | with_reducible refine inBlock_ret ?_
      | with_reducible refine inBlock_exit ?_
      | with_reducible refine thenL_normal ?_
      | with_reducible refine thenL_ret ?_
      | with_reducible refine thenL_exit ?_
      | (with_reducible refine then_ret ?_; clear hK')
      | (with_reducible refine then_exit ?_; clear hK')
      | refine inBlock_other (by decide) ?_
      | refine WT_ret ?_
      | refine WT_skip ?_
      | refine WT_exit ?_
      | (refine hK' _ ?_; clear hK')
      | (refine hX ?_; clear hX hY)
      | (refine hY ?_; clear hX hY)
      | (refine And.intro (Or.inl rfl) ?_; (simp [e19, F19, fn1, fn2, fn3, DAct.dec, DCall.dec]; try (simp (disch := omega) only [i64_wrap, g20_eq]; try simp [e19, F19, fn1, fn2, fn3, DAct.dec, DCall.dec])))
      | refine And.intro ?_ ?_
      | omega
      | intro h
    refine WT_loopL (fun m σ => ∃ k, k ≤ x.length ∧ m = x.length - k ∧ σ.slot 0 = .tr none (.sl false 9 (x.map (DAct.enc false))) ∧ σ.slot 4 = .tr none (.sc (.int .i64 k)) ∧
      σ.slot 3 = .tr none (.sl true 9 ((fil x DAct.zero k).map (DAct.enc true)))) ⟨_, 0, by omega, rfl, by simp, by simp, by rw [fil_zero]; simp [DAct.enc, DAct.zero, DCall.enc, DCall.zero]⟩ ?_
    rintro m σ ⟨k, hk, rfl, s0, s4, s3⟩
    have flen := fil_len x DAct.zero hk
    repeat' first
      | refine WT_seq fun K' hK' => ?_
      | refine WT_region ?_
      | refine WT_block ?_
      | (refine WT_cond fun X Y hX hY => ?_; (first | (simp [e19, F19, fn1, fn2, fn3, DAct.dec, DCall.dec, s0, s4, s3, flen, DAct.enc, hx, hou, fget]; try (simp (disch := omega) only [i64_wrap, g20_eq]; try simp [e19, F19, fn1, fn2, fn3, DAct.dec, DCall.dec, s0, s4, s3, flen, DAct.enc, hx, hou, fget])) | (simp [e19, F19, fn1, fn2, fn3, DAct.dec, DCall.dec, s0, s4, s3, flen, DAct.enc]; try (simp (disch := omega) only [i64_wrap, g20_eq]; try simp [e19, F19, fn1, fn2, fn3, DAct.dec, DCall.dec, s0, s4, s3, flen, DAct.enc]))))
      | (refine wrun_cons fun K' hK' => ?_; (first | (simp [e19, F19, fn1, fn2, fn3, DAct.dec, DCall.dec, s0, s4, s3, flen, DAct.enc, hx, hou, fget]; try (simp (disch := omega) only [i64_wrap, g20_eq]; try simp [e19, F19, fn1, fn2, fn3, DAct.dec, DCall.dec, s0, s4, s3, flen, DAct.enc, hx, hou, fget])) | (simp [e19, F19, fn1, fn2, fn3, DAct.dec, DCall.dec, s0, s4, s3, flen, DAct.enc]; try (simp (disch := omega) only [i64_wrap, g20_eq]; try simp [e19, F19, fn1, fn2, fn3, DAct.dec, DCall.dec, s0, s4, s3, flen, DAct.enc]))))
      | refine wrun_nil ?_
      | with_reducible refine then_normal ?_
      | with_reducible refine inBlock_normal ?_
      | with_reducible refine inBlock_ret ?_
      | with_reducible refine inBlock_exit ?_
      | with_reducible refine thenL_normal ?_
      | with_reducible refine thenL_ret ?_
      | with_reducible refine thenL_exit ?_
      | (with_reducible refine then_ret ?_; clear hK')
      | (with_reducible refine then_exit ?_; clear hK')
      | refine inBlock_other (by decide) ?_
      | refine WT_ret ?_
      | refine WT_skip ?_
      | refine WT_exit ?_
      | (refine hK' _ ?_; clear hK')
      | (refine hX ?_; clear hX hY)
      | (refine hY ?_; clear hX hY)
      | (refine And.intro (Or.inl rfl) ?_; (first | (simp [e19, F19, fn1, fn2, fn3, DAct.dec, DCall.dec, s0, s4, s3, flen, DAct.enc, hx, hou, fget]; try (simp (disch := omega) only [i64_wrap, g20_eq]; try simp [e19, F19, fn1, fn2, fn3, DAct.dec, DCall.dec, s0, s4, s3, flen, DAct.enc, hx, hou, fget])) | (simp [e19, F19, fn1, fn2, fn3, DAct.dec, DCall.dec, s0, s4, s3, flen, DAct.enc]; try (simp (disch := omega) only [i64_wrap, g20_eq]; try simp [e19, F19, fn1, fn2, fn3, DAct.dec, DCall.dec, s0, s4, s3, flen, DAct.enc]))))
      | refine And.intro ?_ ?_
      | omega
      | (intro hlt; obtain ⟨u, hx⟩ := get_some hlt; have hou := okL_get hl hx; have fget := fil_get x DAct.zero hlt; have fset := fil_set x DAct.zero u hx)
      | intro h
    · refine ⟨x.length - (k + 1), by omega, k + 1, by omega, rfl, by simp [s0], by simp, ?_⟩
      rw [← fset, List.map_set]; simp [DAct.enc]
    · rw [fil_all x _ (by omega)]; exact List.take_of_length_le (by simp)
  · cases hr
set_option maxHeartbeats 4000000 in
theorem con22 {Γ : Mv.Env} (hg : Mv.Good Try.prog Γ) : Contract Try.prog 22 F22 := by
  refine contract_fn hg (wdraw_ok hg mixed) Try.func22 rfl (by decide) (by decide) rfl (by decide) ?_
  intro us p hs
  obtain ⟨x, y, rfl, hr⟩ := fn2_inv hs
  clear hs
  cases hr
  refine ⟨rfl, ?_⟩
  dsimp only [Try.f22]
  simp only [lAct, cL, cI]
  repeat' first
    | refine WT_seq fun K' hK' => ?_
    | refine WT_region ?_
    | refine WT_block ?_
    | (refine WT_cond fun X Y hX hY => ?_; (simp []; try (simp (disch := omega) only [i64_wrap, g20_eq]; try simp [])))
    | (refine wrun_cons fun K' hK' => ?_; (simp []; try (simp (disch := omega) only [i64_wrap, g20_eq]; try simp [])))
    | refine wrun_nil ?_
    | with_reducible refine then_normal ?_
    | with_reducible refine inBlock_normal ?_
    | with_reducible refine inBlock_ret ?_
    | with_reducible refine inBlock_exit ?_
    | with_reducible refine thenL_normal ?_
    | with_reducible refine thenL_ret ?_
    | with_reducible refine thenL_exit ?_
    | (with_reducible refine then_ret ?_; clear hK')
    | (with_reducible refine then_exit ?_; clear hK')
    | refine inBlock_other (by decide) ?_
    | refine WT_ret ?_
    | refine WT_skip ?_
    | refine WT_exit ?_
    | (refine hK' _ ?_; clear hK')
    | (refine hX ?_; clear hX hY)
    | (refine hY ?_; clear hX hY)
    | (refine And.intro (Or.inl rfl) ?_; (simp []; try (simp (disch := omega) only [i64_wrap, g20_eq]; try simp [])))
    | refine And.intro ?_ ?_
    | intro h
  rename_i hmax _ _
  refine WT_loopL (fun m σ => ∃ k, k ≤ x.length ∧ m = x.length - k ∧ σ.slot 0 = .tr none (.sl false 9 (x.map (DAct.enc false))) ∧ σ.slot 1 = .tr none (.sc (.int .i64 y)) ∧ σ.slot 6 = .tr none (.sc (.int .i64 k)) ∧ σ.slot 5 = .tr none (.sc (.int .i64 (((x.take k).countP (fun u : DAct => u.Kind == y) : Nat) : Int)))) ⟨_, 0, by omega, rfl, by simp, by simp, by simp, by simp⟩ ?_
  rintro m σ ⟨k, hk, rfl, q0, q1, q2, q3⟩
  have hcl := countP_take_le (fun u : DAct => u.Kind == y) x k
  repeat' first
    | refine WT_seq fun K' hK' => ?_
    | refine WT_region ?_
    | refine WT_block ?_
    | (refine WT_cond fun X Y hX hY => ?_; (first | (simp [q0, q1, q2, q3, DAct.enc, hx]; try (simp (disch := omega) only [i64_wrap, g20_eq]; try simp [q0, q1, q2, q3, DAct.enc, hx])) | (simp [q0, q1, q2, q3, DAct.enc]; try (simp (disch := omega) only [i64_wrap, g20_eq]; try simp [q0, q1, q2, q3, DAct.enc]))))
    | (refine wrun_cons fun K' hK' => ?_; (first | (simp [q0, q1, q2, q3, DAct.enc, hx]; try (simp (disch := omega) only [i64_wrap, g20_eq]; try simp [q0, q1, q2, q3, DAct.enc, hx])) | (simp [q0, q1, q2, q3, DAct.enc]; try (simp (disch := omega) only [i64_wrap, g20_eq]; try simp [q0, q1, q2, q3, DAct.enc]))))
    | refine wrun_nil ?_
    | with_reducible refine then_normal ?_
    | with_reducible refine inBlock_normal ?_
    | with_reducible refine inBlock_ret ?_
    | with_reducible refine inBlock_exit ?_
    | with_reducible refine thenL_normal ?_
    | with_reducible refine thenL_ret ?_
    | with_reducible refine thenL_exit ?_
    | (with_reducible refine then_ret ?_; clear hK')
    | (with_reducible refine then_exit ?_; clear hK')
    | refine inBlock_other (by decide) ?_
    | refine WT_ret ?_
    | refine WT_skip ?_
    | refine WT_exit ?_
    | (refine hK' _ ?_; clear hK')
    | (refine hX ?_; clear hX hY)
    | (refine hY ?_; clear hX hY)
    | (refine And.intro (Or.inl rfl) ?_; (first | (simp [q0, q1, q2, q3, DAct.enc, hx]; try (simp (disch := omega) only [i64_wrap, g20_eq]; try simp [q0, q1, q2, q3, DAct.enc, hx])) | (simp [q0, q1, q2, q3, DAct.enc]; try (simp (disch := omega) only [i64_wrap, g20_eq]; try simp [q0, q1, q2, q3, DAct.enc]))))
    | refine And.intro ?_ ?_
    | omega
    | (intro hlt; obtain ⟨u, hx⟩ := get_some hlt; have hst := countP_take (fun u : DAct => u.Kind == y) hx; have hcl := countP_take_le (fun u : DAct => u.Kind == y) x k)
    | intro h
  all_goals first
    | (refine ⟨x.length - (k + 1), by omega, k + 1, by omega, rfl, by simp [q0, q1, q2, q3], by simp [q0, q1, q2, q3], by simp [q0, q1, q2, q3], ?_⟩; rw [hst]; simp [q0, q1, q2, q3, h]; done)
    | (rw [List.take_of_length_le (by omega)])
    | (simp [List.take_of_length_le (show x.length ≤ k by omega)]; done)
set_option maxHeartbeats 4000000 in
theorem con24 {Γ : Mv.Env} (hg : Mv.Good Try.prog Γ) : Contract Try.prog 24 F24 := by
  refine contract_fn hg (wdraw_ok hg mixed) Try.func24 rfl (by decide) (by decide) rfl (by decide) ?_
  intro us p hs
  obtain ⟨x, y, rfl, hr⟩ := fn2_inv hs
  clear hs
  cases hr
  refine ⟨rfl, ?_⟩
  dsimp only [Try.f24]
  simp only [lAct, cL, cI]
  repeat' first
    | refine WT_seq fun K' hK' => ?_
    | refine WT_region ?_
    | refine WT_block ?_
    | (refine WT_cond fun X Y hX hY => ?_; (simp []; try (simp (disch := omega) only [i64_wrap, g20_eq]; try simp [])))
    | (refine wrun_cons fun K' hK' => ?_; (simp []; try (simp (disch := omega) only [i64_wrap, g20_eq]; try simp [])))
    | refine wrun_nil ?_
    | with_reducible refine then_normal ?_
    | with_reducible refine inBlock_normal ?_
    | with_reducible refine inBlock_ret ?_
    | with_reducible refine inBlock_exit ?_
    | with_reducible refine thenL_normal ?_
    | with_reducible refine thenL_ret ?_
    | with_reducible refine thenL_exit ?_
    | (with_reducible refine then_ret ?_; clear hK')
    | (with_reducible refine then_exit ?_; clear hK')
    | refine inBlock_other (by decide) ?_
    | refine WT_ret ?_
    | refine WT_skip ?_
    | refine WT_exit ?_
    | (refine hK' _ ?_; clear hK')
    | (refine hX ?_; clear hX hY)
    | (refine hY ?_; clear hX hY)
    | (refine And.intro (Or.inl rfl) ?_; (simp []; try (simp (disch := omega) only [i64_wrap, g20_eq]; try simp [])))
    | refine And.intro ?_ ?_
    | intro h
  rename_i hmax _ _
  refine WT_loopL (fun m σ => ∃ k, k ≤ x.length ∧ m = x.length - k ∧ σ.slot 0 = .tr none (.sl false 9 (x.map (DAct.enc false))) ∧ σ.slot 8 = .tr none (.sl false 9 (x.map (DAct.enc false))) ∧ σ.slot 9 = .tr none (.sc (.int .i64 x.length)) ∧ σ.slot 1 = .tr none (.sc (.int .i64 y)) ∧ σ.slot 10 = .tr none (.sc (.int .i64 k)) ∧ σ.slot 5 = .tr none (.sc (.int .i64 (((x.take k).countP (fun u : DAct => u.Kind == y) : Nat) : Int)))) ⟨_, 0, by omega, rfl, by simp, by simp, by simp, by simp, by simp, by simp⟩ ?_
  rintro m σ ⟨k, hk, rfl, q0, q1, q2, q3, q4, q5⟩
  have hcl := countP_take_le (fun u : DAct => u.Kind == y) x k
  repeat' first
    | refine WT_seq fun K' hK' => ?_
    | refine WT_region ?_
    | refine WT_block ?_
    | (refine WT_cond fun X Y hX hY => ?_; (first | (simp [q0, q1, q2, q3, q4, q5, DAct.enc, hx]; try (simp (disch := omega) only [i64_wrap, g20_eq]; try simp [q0, q1, q2, q3, q4, q5, DAct.enc, hx])) | (simp [q0, q1, q2, q3, q4, q5, DAct.enc]; try (simp (disch := omega) only [i64_wrap, g20_eq]; try simp [q0, q1, q2, q3, q4, q5, DAct.enc]))))
    | (refine wrun_cons fun K' hK' => ?_; (first | (simp [q0, q1, q2, q3, q4, q5, DAct.enc, hx]; try (simp (disch := omega) only [i64_wrap, g20_eq]; try simp [q0, q1, q2, q3, q4, q5, DAct.enc, hx])) | (simp [q0, q1, q2, q3, q4, q5, DAct.enc]; try (simp (disch := omega) only [i64_wrap, g20_eq]; try simp [q0, q1, q2, q3, q4, q5, DAct.enc]))))
    | refine wrun_nil ?_
    | with_reducible refine then_normal ?_
    | with_reducible refine inBlock_normal ?_
    | with_reducible refine inBlock_ret ?_
    | with_reducible refine inBlock_exit ?_
    | with_reducible refine thenL_normal ?_
    | with_reducible refine thenL_ret ?_
    | with_reducible refine thenL_exit ?_
    | (with_reducible refine then_ret ?_; clear hK')
    | (with_reducible refine then_exit ?_; clear hK')
    | refine inBlock_other (by decide) ?_
    | refine WT_ret ?_
    | refine WT_skip ?_
    | refine WT_exit ?_
    | (refine hK' _ ?_; clear hK')
    | (refine hX ?_; clear hX hY)
    | (refine hY ?_; clear hX hY)
    | (refine And.intro (Or.inl rfl) ?_; (first | (simp [q0, q1, q2, q3, q4, q5, DAct.enc, hx]; try (simp (disch := omega) only [i64_wrap, g20_eq]; try simp [q0, q1, q2, q3, q4, q5, DAct.enc, hx])) | (simp [q0, q1, q2, q3, q4, q5, DAct.enc]; try (simp (disch := omega) only [i64_wrap, g20_eq]; try simp [q0, q1, q2, q3, q4, q5, DAct.enc]))))
    | refine And.intro ?_ ?_
    | omega
    | (intro hlt; obtain ⟨u, hx⟩ := get_some hlt; have hst := countP_take (fun u : DAct => u.Kind == y) hx; have hcl := countP_take_le (fun u : DAct => u.Kind == y) x k)
    | intro h
  all_goals first
    | (refine ⟨x.length - (k + 1), by omega, k + 1, by omega, rfl, by simp [q0, q1, q2, q3, q4, q5], by simp [q0, q1, q2, q3, q4, q5], by simp [q0, q1, q2, q3, q4, q5], by simp [q0, q1, q2, q3, q4, q5], by simp [q0, q1, q2, q3, q4, q5], ?_⟩; rw [hst]; simp [q0, q1, q2, q3, q4, q5, h]; done)
    | (rw [List.take_of_length_le (by omega)])
    | (simp [List.take_of_length_le (show x.length ≤ k by omega)]; done)
set_option maxHeartbeats 4000000 in
theorem con116 {Γ : Mv.Env} (hg : Mv.Good Try.prog Γ) : Contract Try.prog 116 F116 := by
  refine contract_fn hg (wdraw_ok hg mixed) Try.func116 rfl (by decide) (by decide) rfl (by decide) ?_
  intro us p hs
  obtain ⟨x, y, rfl, hr⟩ := fn2_inv hs
  clear hs
  cases hr
  refine ⟨rfl, ?_⟩
  dsimp only [Try.f116]
  simp only [cCall, cT, DCall.enc]
  repeat' first
    | refine WT_seq fun K' hK' => ?_
    | refine WT_region ?_
    | refine WT_block ?_
    | (refine WT_cond fun X Y hX hY => ?_; simp [])
    | (refine wrun_cons fun K' hK' => ?_; simp [])
    | refine wrun_nil ?_
    | with_reducible refine then_normal ?_
    | with_reducible refine inBlock_normal ?_
    | with_reducible refine inBlock_ret ?_
    | with_reducible refine inBlock_exit ?_
    | with_reducible refine thenL_normal ?_
    | with_reducible refine thenL_ret ?_
    | with_reducible refine thenL_exit ?_
    | (with_reducible refine then_ret ?_; clear hK')
    | (with_reducible refine then_exit ?_; clear hK')
    | refine inBlock_other (by decide) ?_
    | refine WT_ret ?_
    | refine WT_skip ?_
    | refine WT_exit ?_
    | (refine hK' _ ?_; clear hK')
    | (refine hX ?_; clear hX hY)
    | (refine hY ?_; clear hX hY)
    | (refine And.intro (Or.inl rfl) ?_; simp [])
    | refine And.intro ?_ ?_
    | intro h
  all_goals (clear hg; simp [DCall.beq, *]; done)
set_option maxHeartbeats 4000000 in
theorem con74 {Γ : Mv.Env} (hg : Mv.Good Try.prog Γ) (e116 : Γ 116 = some F116) : Contract Try.prog 74 F74 := by
  refine contract_fn hg (wdraw_ok hg mixed) Try.func74 rfl (by decide) (by decide) rfl (by decide) ?_
  intro us p hs
  obtain ⟨x, y, rfl, hr⟩ := fn2_inv hs
  clear hs
  cases hr
  refine ⟨rfl, ?_⟩
  dsimp only [Try.f74]
  simp only [cAct, cT, DAct.enc]
  repeat' first
    | refine WT_seq fun K' hK' => ?_
    | refine WT_region ?_
    | refine WT_block ?_
    | (refine WT_cond fun X Y hX hY => ?_; simp [e116, F116, fn1, fn2, fn3, DCall.dec])
    | (refine wrun_cons fun K' hK' => ?_; simp [e116, F116, fn1, fn2, fn3, DCall.dec])
    | refine wrun_nil ?_
    | with_reducible refine then_normal ?_
    | with_reducible refine inBlock_normal ?_
    | with_reducible refine inBlock_ret ?_
    | with_reducible refine inBlock_exit ?_
    | with_reducible refine thenL_normal ?_
    | with_reducible refine thenL_ret ?_
    | with_reducible refine thenL_exit ?_
    | (with_reducible refine then_ret ?_; clear hK')
    | (with_reducible refine then_exit ?_; clear hK')
    | refine inBlock_other (by decide) ?_
    | refine WT_ret ?_
    | refine WT_skip ?_
    | refine WT_exit ?_
    | (refine hK' _ ?_; clear hK')
    | (refine hX ?_; clear hX hY)
    | (refine hY ?_; clear hX hY)
    | (refine And.intro (Or.inl rfl) ?_; simp [e116, F116, fn1, fn2, fn3, DCall.dec])
    | refine And.intro ?_ ?_
    | intro h
  all_goals (clear hg; simp [DAct.beq, *]; done)
set_option maxHeartbeats 4000000 in
theorem con25 {Γ : Mv.Env} (hg : Mv.Good Try.prog Γ) (e74 : Γ 74 = some F74) : Contract Try.prog 25 F25 := by
  refine contract_fn hg (wdraw_ok hg mixed) Try.func25 rfl (by decide) (by decide) rfl (by decide) ?_
  intro us p hs
  obtain ⟨x, y, rfl, hr⟩ := fn2_inv hs
  clear hs
  cases hr
  refine ⟨rfl, ?_⟩
  dsimp only [Try.f25]
  simp only [lAct, cL]
  repeat' first
    | refine WT_seq fun K' hK' => ?_
    | refine WT_region ?_
    | refine WT_block ?_
    | (refine WT_cond fun X Y hX hY => ?_; (simp [e74, F74, fn1, fn2, fn3, DAct.dec, DCall.dec]; try (simp (disch := omega) only [i64_wrap, g20_eq]; try simp [e74, F74, fn1, fn2, fn3, DAct.dec, DCall.dec])))
    | (refine wrun_cons fun K' hK' => ?_; (simp [e74, F74, fn1, fn2, fn3, DAct.dec, DCall.dec]; try (simp (disch := omega) only [i64_wrap, g20_eq]; try simp [e74, F74, fn1, fn2, fn3, DAct.dec, DCall.dec])))
    | refine wrun_nil ?_
    | (refine wfront_cons rfl rfl ?_ fun K' hK' => ?_ <;> (simp [wgcalm, rootless, frontS, St.kills, e74, F74, fn1, fn2, fn3, DAct.dec, DCall.dec]; try (simp (disch := omega) only [i64_wrap, g20_eq]; try simp [wgcalm, rootless, frontS, St.kills, e74, F74, fn1, fn2, fn3, DAct.dec, DCall.dec])))
    | (refine wfront_tail rfl ?_)
    | refine wfront_nil ?_
    | (refine WT_draw [17, 18, 19, 20, 21, 22, 23, 24, 25, 26] (by decide) rfl ?_; simp only [St.kills, St.kill])
    | with_reducible refine then_normal ?_
    | with_reducible refine inBlock_normal ?_
    | with_reducible refine inBlock_ret ?_
    | with_reducible refine inBlock_exit ?_
    | with_reducible refine thenL_normal ?_
    | with_reducible refine thenL_ret ?_
    | with_reducible refine thenL_exit ?_
    | (with_reducible refine then_ret ?_; clear hK')
    | (with_reducible refine then_exit ?_; clear hK')
    | refine inBlock_other (by decide) ?_
    | refine WT_ret ?_
    | refine WT_skip ?_
    | refine WT_exit ?_
    | (refine hK' _ ?_; clear hK')
    | (refine hX ?_; clear hX hY)
    | (refine hY ?_; clear hX hY)
    | (refine And.intro (Or.inl rfl) ?_; (simp [e74, F74, fn1, fn2, fn3, DAct.dec, DCall.dec]; try (simp (disch := omega) only [i64_wrap, g20_eq]; try simp [e74, F74, fn1, fn2, fn3, DAct.dec, DCall.dec])))
    | refine And.intro ?_ ?_
    | intro h
  · rw [beqL_len DAct.beq (by omega)]
  · rename_i hln _ _ _
    refine WT_loopL (fun m σ => ∃ k, k ≤ x.length ∧ m = x.length - k ∧ σ.slot 0 = .tr none (.sl false 9 (x.map (DAct.enc false))) ∧ σ.slot 1 = .tr none (.sl false 9 (y.map (DAct.enc false))) ∧ σ.slot 5 = .tr none (.sc (.int .i64 k)) ∧
      beqL DAct.beq x y = beqL DAct.beq (x.drop k) (y.drop k)) ⟨_, 0, by omega, rfl, by simp, by simp, by simp, by simp⟩ ?_
    rintro m σ ⟨k, hk, rfl, s0, s1, s5, hb⟩
    repeat' first
      | refine WT_seq fun K' hK' => ?_
      | refine WT_region ?_
      | refine WT_block ?_
      | (refine WT_cond fun X Y hX hY => ?_; (first | (simp [e74, F74, fn1, fn2, fn3, DAct.dec, DCall.dec, s0, s1, s5, DAct.enc, DCall.beq, hx, hy]; try (simp (disch := omega) only [i64_wrap, g20_eq]; try simp [e74, F74, fn1, fn2, fn3, DAct.dec, DCall.dec, s0, s1, s5, DAct.enc, DCall.beq, hx, hy])) | (simp [e74, F74, fn1, fn2, fn3, DAct.dec, DCall.dec, s0, s1, s5, DAct.enc, DCall.beq]; try (simp (disch := omega) only [i64_wrap, g20_eq]; try simp [e74, F74, fn1, fn2, fn3, DAct.dec, DCall.dec, s0, s1, s5, DAct.enc, DCall.beq]))))
      | (refine wrun_cons fun K' hK' => ?_; (first | (simp [e74, F74, fn1, fn2, fn3, DAct.dec, DCall.dec, s0, s1, s5, DAct.enc, DCall.beq, hx, hy]; try (simp (disch := omega) only [i64_wrap, g20_eq]; try simp [e74, F74, fn1, fn2, fn3, DAct.dec, DCall.dec, s0, s1, s5, DAct.enc, DCall.beq, hx, hy])) | (simp [e74, F74, fn1, fn2, fn3, DAct.dec, DCall.dec, s0, s1, s5, DAct.enc, DCall.beq]; try (simp (disch := omega) only [i64_wrap, g20_eq]; try simp [e74, F74, fn1, fn2, fn3, DAct.dec, DCall.dec, s0, s1, s5, DAct.enc, DCall.beq]))))
      | refine wrun_nil ?_
      | (refine wfront_cons rfl rfl ?_ fun K' hK' => ?_ <;> (first | (simp [wgcalm, rootless, frontS, St.kills, e74, F74, fn1, fn2, fn3, DAct.dec, DCall.dec, s0, s1, s5, DAct.enc, DCall.beq, hx, hy]; try (simp (disch := omega) only [i64_wrap, g20_eq]; try simp [wgcalm, rootless, frontS, St.kills, e74, F74, fn1, fn2, fn3, DAct.dec, DCall.dec, s0, s1, s5, DAct.enc, DCall.beq, hx, hy])) | (simp [wgcalm, rootless, frontS, St.kills, e74, F74, fn1, fn2, fn3, DAct.dec, DCall.dec, s0, s1, s5, DAct.enc, DCall.beq]; try (simp (disch := omega) only [i64_wrap, g20_eq]; try simp [wgcalm, rootless, frontS, St.kills, e74, F74, fn1, fn2, fn3, DAct.dec, DCall.dec, s0, s1, s5, DAct.enc, DCall.beq]))))
      | (refine wfront_tail rfl ?_)
      | refine wfront_nil ?_
      | (refine WT_draw [17, 18, 19, 20, 21, 22, 23, 24, 25, 26] (by decide) rfl ?_; simp only [St.kills, St.kill])
      | with_reducible refine then_normal ?_
      | with_reducible refine inBlock_normal ?_
      | with_reducible refine inBlock_ret ?_
      | with_reducible refine inBlock_exit ?_
      | with_reducible refine thenL_normal ?_
      | with_reducible refine thenL_ret ?_
      | with_reducible refine thenL_exit ?_
      | (with_reducible refine then_ret ?_; clear hK')
      | (with_reducible refine then_exit ?_; clear hK')
      | refine inBlock_other (by decide) ?_
      | refine WT_ret ?_
      | refine WT_skip ?_
      | refine WT_exit ?_
      | (refine hK' _ ?_; clear hK')
      | (refine hX ?_; clear hX hY)
      | (refine hY ?_; clear hX hY)
      | (refine And.intro (Or.inl rfl) ?_; (first | (simp [e74, F74, fn1, fn2, fn3, DAct.dec, DCall.dec, s0, s1, s5, DAct.enc, DCall.beq, hx, hy]; try (simp (disch := omega) only [i64_wrap, g20_eq]; try simp [e74, F74, fn1, fn2, fn3, DAct.dec, DCall.dec, s0, s1, s5, DAct.enc, DCall.beq, hx, hy])) | (simp [e74, F74, fn1, fn2, fn3, DAct.dec, DCall.dec, s0, s1, s5, DAct.enc, DCall.beq]; try (simp (disch := omega) only [i64_wrap, g20_eq]; try simp [e74, F74, fn1, fn2, fn3, DAct.dec, DCall.dec, s0, s1, s5, DAct.enc, DCall.beq]))))
      | refine And.intro ?_ ?_
      | omega
      | (intro hlt; obtain ⟨u, hx⟩ := get_some hlt; obtain ⟨v, hy⟩ := get_some (l := y) (k := k) (by omega); have hst := beqL_step DAct.beq hx hy)
      | intro h
    · rw [hb, hst]; simp [h, beqI, beqS]
    · refine ⟨x.length - (k + 1), by omega, k + 1, by omega, rfl, by simp [s0], by simp [s1], by simp, ?_⟩
      rw [hb, hst]; simp [h, beqI, beqS]
    · rw [hb]; first | exact beqL_end _ (by omega) (by omega) | exact (beqL_end _ (by omega) (by omega)).symm
set_option maxHeartbeats 4000000 in
theorem con4 {Γ : Mv.Env} (hg : Mv.Good Try.prog Γ) (e21 : Γ 21 = some F21) (e23 : Γ 23 = some F23) (e22 : Γ 22 = some F22) (e24 : Γ 24 = some F24) (e25 : Γ 25 = some F25) : Contract Try.prog 4 F4 := by
  refine contract_fn hg (wdraw_ok hg mixed) Try.func4 rfl (by decide) (by decide) rfl (by decide) ?_
  intro us p hs
  obtain ⟨x, y, rfl, hr⟩ := fn2_inv hs
  clear hs
  cases hr
  refine ⟨rfl, ?_⟩
  dsimp only [Try.f4]
  simp only [lAct, cI, cL, cI, cT]
  repeat' first
    | refine WT_seq fun K' hK' => ?_
    | refine WT_region ?_
    | refine WT_block ?_
    | (refine WT_cond fun X Y hX hY => ?_; (first | (simp [e21, F21, e23, F23, e22, F22, e24, F24, e25, F25, fn1, fn2, fn3, hok, hok2]; try (simp (disch := omega) only [g20_eq]; try simp [e21, F21, e23, F23, e22, F22, e24, F24, e25, F25, fn1, fn2, fn3, hok, hok2])) | (simp [e21, F21, e23, F23, e22, F22, e24, F24, e25, F25, fn1, fn2, fn3, hok]; try (simp (disch := omega) only [g20_eq]; try simp [e21, F21, e23, F23, e22, F22, e24, F24, e25, F25, fn1, fn2, fn3, hok])) | (simp [e21, F21, e23, F23, e22, F22, e24, F24, e25, F25, fn1, fn2, fn3]; try (simp (disch := omega) only [g20_eq]; try simp [e21, F21, e23, F23, e22, F22, e24, F24, e25, F25, fn1, fn2, fn3]))))
    | (refine wrun_cons fun K' hK' => ?_; (first | (simp [e21, F21, e23, F23, e22, F22, e24, F24, e25, F25, fn1, fn2, fn3, hok, hok2]; try (simp (disch := omega) only [g20_eq]; try simp [e21, F21, e23, F23, e22, F22, e24, F24, e25, F25, fn1, fn2, fn3, hok, hok2])) | (simp [e21, F21, e23, F23, e22, F22, e24, F24, e25, F25, fn1, fn2, fn3, hok]; try (simp (disch := omega) only [g20_eq]; try simp [e21, F21, e23, F23, e22, F22, e24, F24, e25, F25, fn1, fn2, fn3, hok])) | (simp [e21, F21, e23, F23, e22, F22, e24, F24, e25, F25, fn1, fn2, fn3]; try (simp (disch := omega) only [g20_eq]; try simp [e21, F21, e23, F23, e22, F22, e24, F24, e25, F25, fn1, fn2, fn3]))))
    | refine wrun_nil ?_
    | with_reducible refine then_normal ?_
    | with_reducible refine inBlock_normal ?_
    | with_reducible refine inBlock_ret ?_
    | with_reducible refine inBlock_exit ?_
    | with_reducible refine thenL_normal ?_
    | with_reducible refine thenL_ret ?_
    | with_reducible refine thenL_exit ?_
    | (with_reducible refine then_ret ?_; clear hK')
    | (with_reducible refine then_exit ?_; clear hK')
    | refine inBlock_other (by decide) ?_
    | refine WT_ret ?_
    | refine WT_skip ?_
    | refine WT_exit ?_
    | (refine hK' _ ?_; clear hK')
    | (refine hX ?_; clear hX hY)
    | (refine hY ?_; clear hX hY)
    | (refine And.intro (Or.inl rfl) ?_; (first | (simp [e21, F21, e23, F23, e22, F22, e24, F24, e25, F25, fn1, fn2, fn3, hok, hok2]; try (simp (disch := omega) only [g20_eq]; try simp [e21, F21, e23, F23, e22, F22, e24, F24, e25, F25, fn1, fn2, fn3, hok, hok2])) | (simp [e21, F21, e23, F23, e22, F22, e24, F24, e25, F25, fn1, fn2, fn3, hok]; try (simp (disch := omega) only [g20_eq]; try simp [e21, F21, e23, F23, e22, F22, e24, F24, e25, F25, fn1, fn2, fn3, hok])) | (simp [e21, F21, e23, F23, e22, F22, e24, F24, e25, F25, fn1, fn2, fn3]; try (simp (disch := omega) only [g20_eq]; try simp [e21, F21, e23, F23, e22, F22, e24, F24, e25, F25, fn1, fn2, fn3]))))
    | refine And.intro ?_ ?_
    | omega
    | (intro hlt; have hok := szL_ok szAct_le szAct_ok x 1048576 (by omega) (by omega) hlt)
    | intro h
  all_goals first | rfl | (simp_all; done) | omega
end Go.Mv
