/-
  The program's ActOk returns what the reference's returns, for all arguments: the law's function is walked on trees, and answers true whatever act it is given; no conditions.
-/
import Derived.Test.YtdihnokjlbbihaaRows
import Derived.Test.YtdihnokjlbbihaaMvEnv
namespace Go.Proofs.Ytdihnokjlbbihaa.actOk
open Go.Mv Go.RowKit Go.ChangeShapes Go.WideShapes Go.ChangeAt
set_option linter.unusedVariables false
set_option linter.unusedSimpArgs false
set_option maxRecDepth 10000

def ti (n : Int) : Tr := .sc (.int .i64 n)
def tb (b : Bool) : Tr := .sc (.bool b)
def ts (s : ByteArray) : Tr := .sc (.string s)
theorem a23 : isAggT Try.prog 23 = true := by kernel_rfl
theorem a28 : isAggT Try.prog 28 = true := by kernel_rfl
theorem a25 : isAggT Try.prog 25 = true := by kernel_rfl
theorem a30 : isAggT Try.prog 30 = true := by kernel_rfl
theorem a3 : isAggT Try.prog 3 = false := by kernel_rfl
theorem a9 : isAggT Try.prog 9 = false := by kernel_rfl
theorem a4 : isAggT Try.prog 4 = false := by kernel_rfl
theorem c23 : Try.prog.cellsOf 23 = 6 := by kernel_rfl
theorem c28 : Try.prog.cellsOf 28 = 6 := by kernel_rfl
theorem c25 : Try.prog.cellsOf 25 = 9 := by kernel_rfl
theorem c30 : Try.prog.cellsOf 30 = 9 := by kernel_rfl
theorem c3 : Try.prog.cellsOf 3 = 1 := by kernel_rfl
theorem c9 : Try.prog.cellsOf 9 = 1 := by kernel_rfl
theorem c4 : Try.prog.cellsOf 4 = 1 := by kernel_rfl
theorem f23_0 : fieldOff Try.prog 23 0 = some (0, 3) := by kernel_rfl
theorem f23_1 : fieldOff Try.prog 23 1 = some (1, 9) := by kernel_rfl
theorem f23_2 : fieldOff Try.prog 23 2 = some (2, 9) := by kernel_rfl
theorem f23_3 : fieldOff Try.prog 23 3 = some (3, 3) := by kernel_rfl
theorem f23_4 : fieldOff Try.prog 23 4 = some (4, 3) := by kernel_rfl
theorem f23_5 : fieldOff Try.prog 23 5 = some (5, 9) := by kernel_rfl
theorem f28_0 : fieldOff Try.prog 28 0 = some (0, 3) := by kernel_rfl
theorem f28_1 : fieldOff Try.prog 28 1 = some (1, 9) := by kernel_rfl
theorem f28_2 : fieldOff Try.prog 28 2 = some (2, 9) := by kernel_rfl
theorem f28_3 : fieldOff Try.prog 28 3 = some (3, 3) := by kernel_rfl
theorem f28_4 : fieldOff Try.prog 28 4 = some (4, 3) := by kernel_rfl
theorem f28_5 : fieldOff Try.prog 28 5 = some (5, 9) := by kernel_rfl
theorem f25_0 : fieldOff Try.prog 25 0 = some (0, 3) := by kernel_rfl
theorem f25_1 : fieldOff Try.prog 25 1 = some (1, 3) := by kernel_rfl
theorem f25_2 : fieldOff Try.prog 25 2 = some (2, 3) := by kernel_rfl
theorem f25_3 : fieldOff Try.prog 25 3 = some (3, 23) := by kernel_rfl
theorem f30_0 : fieldOff Try.prog 30 0 = some (0, 3) := by kernel_rfl
theorem f30_1 : fieldOff Try.prog 30 1 = some (1, 3) := by kernel_rfl
theorem f30_2 : fieldOff Try.prog 30 2 = some (2, 3) := by kernel_rfl
theorem f30_3 : fieldOff Try.prog 30 3 = some (3, 28) := by kernel_rfl
theorem z28 : zeroTr Try.prog 28 = some [.sc (.int .i64 0), .sc (.string .empty), .sc (.string .empty), .sc (.int .i64 0), .sc (.int .i64 0), .sc (.string .empty)] := by kernel_rfl
theorem z30 : zeroTr Try.prog 30 = some [.sc (.int .i64 0), .sc (.int .i64 0), .sc (.int .i64 0), .sc (.int .i64 0), .sc (.string .empty), .sc (.string .empty), .sc (.int .i64 0), .sc (.int .i64 0), .sc (.string .empty)] := by kernel_rfl
attribute [local simp] a23 a28 a25 a30 a3 a9 a4 c23 c28 c25 c30 c3 c9 c4 f23_0 f23_1 f23_2 f23_3 f23_4 f23_5 f28_0 f28_1 f28_2 f28_3 f28_4 f28_5 f25_0 f25_1 f25_2 f25_3 f30_0 f30_1 f30_2 f30_3 z28 z30 Try.underlying3 Try.underlying4 Try.underlying9 Try.underlying28 Try.underlying23 Try.underlying25 Try.underlying30

theorem sc_int {k : IntKind} {a b : Int} (h : a = b) : Tr.sc (.int k a) = Tr.sc (.int k b) := by rw [h]
theorem sc_bool {a b : Bool} (h : a = b) : Tr.sc (.bool a) = Tr.sc (.bool b) := by rw [h]
structure Call where
  Kind : Int
  Name : ByteArray
  To : ByteArray
  A : Int
  B : Int
  Text : ByteArray
def Call.enc (c : Call) : List Tr := [ti c.Kind, ts c.Name, ts c.To, ti c.A, ti c.B, ts c.Text]
structure Act where
  Kind : Int
  N : Int
  M : Int
  Call : Call
def Act.enc (c : Act) : List Tr := [ti c.Kind, ti c.N, ti c.M] ++ c.Call.enc
def sub64 (a b : Int) : Int := IntKind.i64.wrap (a - b)
def szCall (c : Call) (left : Int) : Int :=
  let l1 := sub64 left c.Name.size
  if l1 < 0 then -1 else
  let l2 := sub64 l1 c.To.size
  if l2 < 0 then -1 else
  let l3 := sub64 l2 c.Text.size
  if l3 < 0 then -1 else l3
def szAct (c : Act) (left : Int) : Int :=
  let l := szCall c.Call left
  if l < 0 then -1 else l
def within (x a b : Int) : Bool := decide (a ≤ x) && decide (x ≤ b)
def F33 : FnS := ⟨[.b], true, fun us => match us with
  | [.agg [.sc (.int .i64 k), .sc (.string n), .sc (.string t), .sc (.int .i64 a), .sc (.int .i64 b), .sc (.string x)]] => some ([.agg (Call.enc ⟨k, n, t, a, b, x⟩)], [])
  | _ => none⟩
def F32 : FnS := ⟨[.b, .b], true, fun us => match us with
  | [.agg [.sc (.int .i64 k), .sc (.string n), .sc (.string t), .sc (.int .i64 a), .sc (.int .i64 b), .sc (.string x)], .sc (.int .i64 l)] => some ([ti (szCall ⟨k, n, t, a, b, x⟩ l)], [])
  | _ => none⟩
def F34 : FnS := ⟨[.b, .b, .b], true, fun us => match us with
  | [.sc (.int .i64 x), .sc (.int .i64 a), .sc (.int .i64 b)] => some ([tb (within x a b)], [])
  | _ => none⟩
def F35 : FnS := ⟨[.b, .b, .b], true, fun us => match us with
  | [.sc (.int .i64 x), .sc (.int .i64 a), .sc (.int .i64 b)] => some ([tb (within x a b)], [])
  | _ => none⟩
def F9 : FnS := ⟨[.b, .b], true, fun us => match us with
  | [.agg [.sc (.int .i64 ak), .sc (.int .i64 an), .sc (.int .i64 am), .sc (.int .i64 k), .sc (.string n), .sc (.string t), .sc (.int .i64 a), .sc (.int .i64 b), .sc (.string x)], .sc (.int .i64 l)] => some ([ti (szAct ⟨ak, an, am, ⟨k, n, t, a, b, x⟩⟩ l)], [])
  | _ => none⟩
def F11 : FnS := ⟨[.b], true, fun us => match us with
  | [.agg [.sc (.int .i64 ak), .sc (.int .i64 an), .sc (.int .i64 am), .sc (.int .i64 k), .sc (.string n), .sc (.string t), .sc (.int .i64 a), .sc (.int .i64 b), .sc (.string x)]] => some ([.agg (Act.enc ⟨ak, an, am, ⟨k, n, t, a, b, x⟩⟩)], [])
  | _ => none⟩
def F13 : FnS := ⟨[.b], true, fun us => match us with
  | [.agg [.sc (.int .i64 ak), .sc (.int .i64 an), .sc (.int .i64 am), .sc (.int .i64 k), .sc (.string n), .sc (.string t), .sc (.int .i64 a), .sc (.int .i64 b), .sc (.string x)]] => some ([tb (within ak 1 12)], [])
  | _ => none⟩
def F14 : FnS := ⟨[.b], true, fun us => match us with
  | [.agg [.sc (.int .i64 ak), .sc (.int .i64 an), .sc (.int .i64 am), .sc (.int .i64 k), .sc (.string n), .sc (.string t), .sc (.int .i64 a), .sc (.int .i64 b), .sc (.string x)]] => some ([tb (within ak 1 12)], [])
  | _ => none⟩
def F4 : FnS := ⟨[.b], true, fun us => match us with
  | [.agg [.sc (.int .i64 ak), .sc (.int .i64 an), .sc (.int .i64 am), .sc (.int .i64 k), .sc (.string n), .sc (.string t), .sc (.int .i64 a), .sc (.int .i64 b), .sc (.string x)]] => some ([tb true], [])
  | _ => none⟩
set_option maxHeartbeats 4000000 in
theorem con33 {Γ : Mv.Env} {D} (hg : Mv.Good Try.prog Γ) (hD : DrawOK Try.prog Γ D)  : Contract Try.prog 33 F33 := by
  refine contract_of_WT hg hD Try.func33 rfl (by decide) rfl (by decide) ?_
  intro us res outs hs
  simp only [F33] at hs
  split at hs
  · simp at hs; obtain ⟨rfl, rfl⟩ := hs
    refine ⟨rfl, ?_⟩
    dsimp only [Try.f33]
    repeat' first
      | refine WT_seq fun K' hK' => ?_
      | refine WT_region ?_
      | (refine WT_cond fun X Y hX hY => ?_; simp)
      | (refine wrun_cons fun K' hK' => ?_; simp)
      | refine wrun_nil ?_
      | refine then_normal ?_
      | refine then_ret ?_
      | refine WT_ret ?_
      | refine WT_skip ?_
      | (refine hK' _ ?_; clear hK')
      | (refine hX ?_; clear hX hY)
      | (refine hY ?_; clear hX hY)
      | (refine And.intro (Or.inl rfl) ?_; simp)
      | refine And.intro ?_ ?_
      | intro h
    all_goals (try simp only [Call.enc])
    all_goals first | rfl | omega | (refine sc_int ?_; (repeat' split) <;> omega) | (refine sc_bool ?_; simp; omega) | skip
  · cases hs
set_option maxHeartbeats 4000000 in
theorem con32 {Γ : Mv.Env} {D} (hg : Mv.Good Try.prog Γ) (hD : DrawOK Try.prog Γ D)  : Contract Try.prog 32 F32 := by
  refine contract_of_WT hg hD Try.func32 rfl (by decide) rfl (by decide) ?_
  intro us res outs hs
  simp only [F32] at hs
  split at hs
  · simp at hs; obtain ⟨rfl, rfl⟩ := hs
    refine ⟨rfl, ?_⟩
    dsimp only [Try.f32]
    repeat' first
      | refine WT_seq fun K' hK' => ?_
      | refine WT_region ?_
      | (refine WT_cond fun X Y hX hY => ?_; simp)
      | (refine wrun_cons fun K' hK' => ?_; simp)
      | refine wrun_nil ?_
      | refine then_normal ?_
      | refine then_ret ?_
      | refine WT_ret ?_
      | refine WT_skip ?_
      | (refine hK' _ ?_; clear hK')
      | (refine hX ?_; clear hX hY)
      | (refine hY ?_; clear hX hY)
      | (refine And.intro (Or.inl rfl) ?_; simp)
      | refine And.intro ?_ ?_
      | intro h
    all_goals (try simp only [szCall, sub64, ti])
    all_goals first | rfl | omega | (refine sc_int ?_; (repeat' split) <;> omega) | (refine sc_bool ?_; simp; omega) | skip
  · cases hs
set_option maxHeartbeats 4000000 in
theorem con34 {Γ : Mv.Env} {D} (hg : Mv.Good Try.prog Γ) (hD : DrawOK Try.prog Γ D)  : Contract Try.prog 34 F34 := by
  refine contract_of_WT hg hD Try.func34 rfl (by decide) rfl (by decide) ?_
  intro us res outs hs
  simp only [F34] at hs
  split at hs
  · simp at hs; obtain ⟨rfl, rfl⟩ := hs
    refine ⟨rfl, ?_⟩
    dsimp only [Try.f34]
    repeat' first
      | refine WT_seq fun K' hK' => ?_
      | refine WT_region ?_
      | (refine WT_cond fun X Y hX hY => ?_; simp)
      | (refine wrun_cons fun K' hK' => ?_; simp)
      | refine wrun_nil ?_
      | refine then_normal ?_
      | refine then_ret ?_
      | refine WT_ret ?_
      | refine WT_skip ?_
      | (refine hK' _ ?_; clear hK')
      | (refine hX ?_; clear hX hY)
      | (refine hY ?_; clear hX hY)
      | (refine And.intro (Or.inl rfl) ?_; simp)
      | refine And.intro ?_ ?_
      | intro h
    all_goals (try simp only [within, tb])
    all_goals first | rfl | omega | (refine sc_int ?_; (repeat' split) <;> omega) | (refine sc_bool ?_; simp; omega) | skip
  · cases hs
set_option maxHeartbeats 4000000 in
theorem con35 {Γ : Mv.Env} {D} (hg : Mv.Good Try.prog Γ) (hD : DrawOK Try.prog Γ D)  : Contract Try.prog 35 F35 := by
  refine contract_of_WT hg hD Try.func35 rfl (by decide) rfl (by decide) ?_
  intro us res outs hs
  simp only [F35] at hs
  split at hs
  · simp at hs; obtain ⟨rfl, rfl⟩ := hs
    refine ⟨rfl, ?_⟩
    dsimp only [Try.f35]
    repeat' first
      | refine WT_seq fun K' hK' => ?_
      | refine WT_region ?_
      | (refine WT_cond fun X Y hX hY => ?_; simp)
      | (refine wrun_cons fun K' hK' => ?_; simp)
      | refine wrun_nil ?_
      | refine then_normal ?_
      | refine then_ret ?_
      | refine WT_ret ?_
      | refine WT_skip ?_
      | (refine hK' _ ?_; clear hK')
      | (refine hX ?_; clear hX hY)
      | (refine hY ?_; clear hX hY)
      | (refine And.intro (Or.inl rfl) ?_; simp)
      | refine And.intro ?_ ?_
      | intro h
    all_goals (try simp only [within, tb])
    all_goals first | rfl | omega | (refine sc_int ?_; (repeat' split) <;> omega) | (refine sc_bool ?_; simp; omega) | skip
  · cases hs
set_option maxHeartbeats 4000000 in
theorem con9 {Γ : Mv.Env} {D} (hg : Mv.Good Try.prog Γ) (hD : DrawOK Try.prog Γ D) (e32 : Γ 32 = some F32) : Contract Try.prog 9 F9 := by
  refine contract_of_WT hg hD Try.func9 rfl (by decide) rfl (by decide) ?_
  intro us res outs hs
  simp only [F9] at hs
  split at hs
  · simp at hs; obtain ⟨rfl, rfl⟩ := hs
    refine ⟨rfl, ?_⟩
    dsimp only [Try.f9]
    repeat' first
      | refine WT_seq fun K' hK' => ?_
      | refine WT_region ?_
      | (refine WT_cond fun X Y hX hY => ?_; simp [e32, F32, Call.enc, Act.enc, ti, tb, ts])
      | (refine wrun_cons fun K' hK' => ?_; simp [e32, F32, Call.enc, Act.enc, ti, tb, ts])
      | refine wrun_nil ?_
      | refine then_normal ?_
      | refine then_ret ?_
      | refine WT_ret ?_
      | refine WT_skip ?_
      | (refine hK' _ ?_; clear hK')
      | (refine hX ?_; clear hX hY)
      | (refine hY ?_; clear hX hY)
      | (refine And.intro (Or.inl rfl) ?_; simp [e32, F32, Call.enc, Act.enc, ti, tb, ts])
      | refine And.intro ?_ ?_
      | intro h
    all_goals (try simp only [szAct, ti])
    all_goals first | rfl | omega | (refine sc_int ?_; (repeat' split) <;> omega) | (refine sc_bool ?_; simp; omega) | skip
  · cases hs
set_option maxHeartbeats 4000000 in
theorem con11 {Γ : Mv.Env} {D} (hg : Mv.Good Try.prog Γ) (hD : DrawOK Try.prog Γ D) (e33 : Γ 33 = some F33) : Contract Try.prog 11 F11 := by
  refine contract_of_WT hg hD Try.func11 rfl (by decide) rfl (by decide) ?_
  intro us res outs hs
  simp only [F11] at hs
  split at hs
  · simp at hs; obtain ⟨rfl, rfl⟩ := hs
    refine ⟨rfl, ?_⟩
    dsimp only [Try.f11]
    repeat' first
      | refine WT_seq fun K' hK' => ?_
      | refine WT_region ?_
      | (refine WT_cond fun X Y hX hY => ?_; simp [e33, F33, Call.enc, Act.enc, ti, tb, ts])
      | (refine wrun_cons fun K' hK' => ?_; simp [e33, F33, Call.enc, Act.enc, ti, tb, ts])
      | refine wrun_nil ?_
      | refine then_normal ?_
      | refine then_ret ?_
      | refine WT_ret ?_
      | refine WT_skip ?_
      | (refine hK' _ ?_; clear hK')
      | (refine hX ?_; clear hX hY)
      | (refine hY ?_; clear hX hY)
      | (refine And.intro (Or.inl rfl) ?_; simp [e33, F33, Call.enc, Act.enc, ti, tb, ts])
      | refine And.intro ?_ ?_
      | intro h
    all_goals (try simp only [Call.enc])
    all_goals first | rfl | omega | (refine sc_int ?_; (repeat' split) <;> omega) | (refine sc_bool ?_; simp; omega) | skip
  · cases hs
set_option maxHeartbeats 4000000 in
theorem con13 {Γ : Mv.Env} {D} (hg : Mv.Good Try.prog Γ) (hD : DrawOK Try.prog Γ D) (e34 : Γ 34 = some F34) : Contract Try.prog 13 F13 := by
  refine contract_of_WT hg hD Try.func13 rfl (by decide) rfl (by decide) ?_
  intro us res outs hs
  simp only [F13] at hs
  split at hs
  · simp at hs; obtain ⟨rfl, rfl⟩ := hs
    refine ⟨rfl, ?_⟩
    dsimp only [Try.f13]
    repeat' first
      | refine WT_seq fun K' hK' => ?_
      | refine WT_region ?_
      | (refine WT_cond fun X Y hX hY => ?_; simp [e34, F34, Call.enc, Act.enc, ti, tb, ts])
      | (refine wrun_cons fun K' hK' => ?_; simp [e34, F34, Call.enc, Act.enc, ti, tb, ts])
      | refine wrun_nil ?_
      | refine then_normal ?_
      | refine then_ret ?_
      | refine WT_ret ?_
      | refine WT_skip ?_
      | (refine hK' _ ?_; clear hK')
      | (refine hX ?_; clear hX hY)
      | (refine hY ?_; clear hX hY)
      | (refine And.intro (Or.inl rfl) ?_; simp [e34, F34, Call.enc, Act.enc, ti, tb, ts])
      | refine And.intro ?_ ?_
      | intro h
    all_goals (try simp only [tb])
    all_goals first | rfl | omega | (refine sc_int ?_; (repeat' split) <;> omega) | (refine sc_bool ?_; simp; omega) | skip
  · cases hs
set_option maxHeartbeats 4000000 in
theorem con14 {Γ : Mv.Env} {D} (hg : Mv.Good Try.prog Γ) (hD : DrawOK Try.prog Γ D) (e35 : Γ 35 = some F35) : Contract Try.prog 14 F14 := by
  refine contract_of_WT hg hD Try.func14 rfl (by decide) rfl (by decide) ?_
  intro us res outs hs
  simp only [F14] at hs
  split at hs
  · simp at hs; obtain ⟨rfl, rfl⟩ := hs
    refine ⟨rfl, ?_⟩
    dsimp only [Try.f14]
    repeat' first
      | refine WT_seq fun K' hK' => ?_
      | refine WT_region ?_
      | (refine WT_cond fun X Y hX hY => ?_; simp [e35, F35, Call.enc, Act.enc, ti, tb, ts])
      | (refine wrun_cons fun K' hK' => ?_; simp [e35, F35, Call.enc, Act.enc, ti, tb, ts])
      | refine wrun_nil ?_
      | refine then_normal ?_
      | refine then_ret ?_
      | refine WT_ret ?_
      | refine WT_skip ?_
      | (refine hK' _ ?_; clear hK')
      | (refine hX ?_; clear hX hY)
      | (refine hY ?_; clear hX hY)
      | (refine And.intro (Or.inl rfl) ?_; simp [e35, F35, Call.enc, Act.enc, ti, tb, ts])
      | refine And.intro ?_ ?_
      | intro h
    all_goals (try simp only [tb])
    all_goals first | rfl | omega | (refine sc_int ?_; (repeat' split) <;> omega) | (refine sc_bool ?_; simp; omega) | skip
  · cases hs
set_option maxHeartbeats 4000000 in
theorem con4 {Γ : Mv.Env} {D} (hg : Mv.Good Try.prog Γ) (hD : DrawOK Try.prog Γ D) (e9 : Γ 9 = some F9) (e11 : Γ 11 = some F11) (e13 : Γ 13 = some F13) (e14 : Γ 14 = some F14) : Contract Try.prog 4 F4 := by
  refine contract_of_WT hg hD Try.func4 rfl (by decide) rfl (by decide) ?_
  intro us res outs hs
  simp only [F4] at hs
  split at hs
  · simp at hs; obtain ⟨rfl, rfl⟩ := hs
    refine ⟨rfl, ?_⟩
    dsimp only [Try.f4]
    repeat' first
      | refine WT_seq fun K' hK' => ?_
      | refine WT_region ?_
      | (refine WT_cond fun X Y hX hY => ?_; simp [e9, F9, e11, F11, e13, F13, e14, F14, Call.enc, Act.enc, ti, tb, ts])
      | (refine wrun_cons fun K' hK' => ?_; simp [e9, F9, e11, F11, e13, F13, e14, F14, Call.enc, Act.enc, ti, tb, ts])
      | refine wrun_nil ?_
      | refine then_normal ?_
      | refine then_ret ?_
      | refine WT_ret ?_
      | refine WT_skip ?_
      | (refine hK' _ ?_; clear hK')
      | (refine hX ?_; clear hX hY)
      | (refine hY ?_; clear hX hY)
      | (refine And.intro (Or.inl rfl) ?_; simp [e9, F9, e11, F11, e13, F13, e14, F14, Call.enc, Act.enc, ti, tb, ts])
      | refine And.intro ?_ ?_
      | intro h
    all_goals (try simp only [tb])
    all_goals first | rfl | omega | (refine sc_int ?_; (repeat' split) <;> omega) | (refine sc_bool ?_; simp; omega) | skip
  · cases hs
theorem clean33 : Mv.Clean F33 := by
  intro us res outs h
  simp only [F33] at h
  split at h
  · simp at h; obtain ⟨rfl, rfl⟩ := h
    simp [noBorL, noBor, Call.enc, Act.enc, ti, tb, ts]
  · cases h
theorem clean32 : Mv.Clean F32 := by
  intro us res outs h
  simp only [F32] at h
  split at h
  · simp at h; obtain ⟨rfl, rfl⟩ := h
    simp [noBorL, noBor, Call.enc, Act.enc, ti, tb, ts]
  · cases h
theorem clean34 : Mv.Clean F34 := by
  intro us res outs h
  simp only [F34] at h
  split at h
  · simp at h; obtain ⟨rfl, rfl⟩ := h
    simp [noBorL, noBor, Call.enc, Act.enc, ti, tb, ts]
  · cases h
theorem clean35 : Mv.Clean F35 := by
  intro us res outs h
  simp only [F35] at h
  split at h
  · simp at h; obtain ⟨rfl, rfl⟩ := h
    simp [noBorL, noBor, Call.enc, Act.enc, ti, tb, ts]
  · cases h
theorem clean9 : Mv.Clean F9 := by
  intro us res outs h
  simp only [F9] at h
  split at h
  · simp at h; obtain ⟨rfl, rfl⟩ := h
    simp [noBorL, noBor, Call.enc, Act.enc, ti, tb, ts]
  · cases h
theorem clean11 : Mv.Clean F11 := by
  intro us res outs h
  simp only [F11] at h
  split at h
  · simp at h; obtain ⟨rfl, rfl⟩ := h
    simp [noBorL, noBor, Call.enc, Act.enc, ti, tb, ts]
  · cases h
theorem clean13 : Mv.Clean F13 := by
  intro us res outs h
  simp only [F13] at h
  split at h
  · simp at h; obtain ⟨rfl, rfl⟩ := h
    simp [noBorL, noBor, Call.enc, Act.enc, ti, tb, ts]
  · cases h
theorem clean14 : Mv.Clean F14 := by
  intro us res outs h
  simp only [F14] at h
  split at h
  · simp at h; obtain ⟨rfl, rfl⟩ := h
    simp [noBorL, noBor, Call.enc, Act.enc, ti, tb, ts]
  · cases h
theorem clean4 : Mv.Clean F4 := by
  intro us res outs h
  simp only [F4] at h
  split at h
  · simp at h; obtain ⟨rfl, rfl⟩ := h
    simp [noBorL, noBor, Call.enc, Act.enc, ti, tb, ts]
  · cases h
noncomputable def G0 : Mv.Env := Mv.Env.add Mv.Env.none 33 F33
theorem good0 : Mv.Good Try.prog G0 := Mv.Good.add Mv.Good.none (con33 Mv.Good.none noDraw ) (fun _ => clean33) Try.func33 rfl rfl
noncomputable def G1 : Mv.Env := Mv.Env.add G0 32 F32
theorem good1 : Mv.Good Try.prog G1 := Mv.Good.add good0 (con32 good0 noDraw ) (fun _ => clean32) Try.func32 rfl rfl
noncomputable def G2 : Mv.Env := Mv.Env.add G1 34 F34
theorem good2 : Mv.Good Try.prog G2 := Mv.Good.add good1 (con34 good1 noDraw ) (fun _ => clean34) Try.func34 rfl rfl
noncomputable def G3 : Mv.Env := Mv.Env.add G2 35 F35
theorem good3 : Mv.Good Try.prog G3 := Mv.Good.add good2 (con35 good2 noDraw ) (fun _ => clean35) Try.func35 rfl rfl
noncomputable def G4 : Mv.Env := Mv.Env.add G3 9 F9
theorem good4 : Mv.Good Try.prog G4 := Mv.Good.add good3 (con9 good3 noDraw (by simp [G0, G1, G2, G3, Env.add])) (fun _ => clean9) Try.func9 rfl rfl
noncomputable def G5 : Mv.Env := Mv.Env.add G4 11 F11
theorem good5 : Mv.Good Try.prog G5 := Mv.Good.add good4 (con11 good4 noDraw (by simp [G0, G1, G2, G3, G4, Env.add])) (fun _ => clean11) Try.func11 rfl rfl
noncomputable def G6 : Mv.Env := Mv.Env.add G5 13 F13
theorem good6 : Mv.Good Try.prog G6 := Mv.Good.add good5 (con13 good5 noDraw (by simp [G0, G1, G2, G3, G4, G5, Env.add])) (fun _ => clean13) Try.func13 rfl rfl
noncomputable def G7 : Mv.Env := Mv.Env.add G6 14 F14
theorem good7 : Mv.Good Try.prog G7 := Mv.Good.add good6 (con14 good6 noDraw (by simp [G0, G1, G2, G3, G4, G5, G6, Env.add])) (fun _ => clean14) Try.func14 rfl rfl
theorem whole : Contract Try.prog 4 F4 := con4 good7 noDraw (by simp [G0, G1, G2, G3, G4, G5, G6, G7, Env.add]) (by simp [G0, G1, G2, G3, G4, G5, G6, G7, Env.add]) (by simp [G0, G1, G2, G3, G4, G5, G6, G7, Env.add]) (by simp [G0, G1, G2, G3, G4, G5, G6, G7, Env.add])

theorem own : ownKnob Try.prog.godebug = none := by kernel_rfl
theorem laidOut : laidOutB Try.prog = true := by kernel_rfl
def sh : Sh := .st [.i .i64, .i .i64, .i .i64, .st [.i .i64, .s, .s, .i .i64, .i .i64, .s]]
theorem shape : Try.f4.params.toList.mapM (shapeOf Try.prog 12) = some [sh] := by kernel_rfl
theorem inv_i {k : IntKind} {ts : List Tr} (h : Shp (.i k) ts) : ∃ n, ts = [.sc (.int k n)] := by cases h; exact ⟨_, rfl⟩
theorem inv_s {ts : List Tr} (h : Shp .s ts) : ∃ n, ts = [.sc (.string n)] := by cases h; exact ⟨_, rfl⟩
theorem inv_st {fs : List Sh} {ts : List Tr} (h : Shp (.st fs) ts) : ShpF fs ts := by cases h; assumption
theorem inv_cons {s1 : Sh} {ss : List Sh} {ts : List Tr} (h : ShpF (s1 :: ss) ts) : ∃ a b, ts = a ++ b ∧ Shp s1 a ∧ ShpF ss b := by cases h; exact ⟨_, _, rfl, by assumption, by assumption⟩
theorem inv_nil {ts : List Tr} (h : ShpF [] ts) : ts = [] := by cases h; rfl
theorem inv_call {ts : List Tr} (h : Shp (.st [.i .i64, .s, .s, .i .i64, .i .i64, .s]) ts) : ∃ c : Call, ts = c.enc := by
  obtain ⟨_, _, rfl, h0, k0⟩ := inv_cons (inv_st h)
  obtain ⟨n0, rfl⟩ := inv_i h0
  obtain ⟨_, _, rfl, h1, k1⟩ := inv_cons k0
  obtain ⟨n1, rfl⟩ := inv_s h1
  obtain ⟨_, _, rfl, h2, k2⟩ := inv_cons k1
  obtain ⟨n2, rfl⟩ := inv_s h2
  obtain ⟨_, _, rfl, h3, k3⟩ := inv_cons k2
  obtain ⟨n3, rfl⟩ := inv_i h3
  obtain ⟨_, _, rfl, h4, k4⟩ := inv_cons k3
  obtain ⟨n4, rfl⟩ := inv_i h4
  obtain ⟨_, _, rfl, h5, k5⟩ := inv_cons k4
  obtain ⟨n5, rfl⟩ := inv_s h5
  obtain rfl := inv_nil k5
  exact ⟨⟨_, _, _, _, _, _⟩, rfl⟩
theorem inv_act {ts : List Tr} (h : Shp sh ts) : ∃ c : Act, ts = c.enc := by
  obtain ⟨_, _, rfl, h0, k0⟩ := inv_cons (inv_st h)
  obtain ⟨n0, rfl⟩ := inv_i h0
  obtain ⟨_, _, rfl, h1, k1⟩ := inv_cons k0
  obtain ⟨n1, rfl⟩ := inv_i h1
  obtain ⟨_, _, rfl, h2, k2⟩ := inv_cons k1
  obtain ⟨n2, rfl⟩ := inv_i h2
  obtain ⟨_, _, rfl, h3, k3⟩ := inv_cons k2
  obtain ⟨c, rfl⟩ := inv_call h3
  obtain rfl := inv_nil k3
  exact ⟨⟨n0, n1, n2, c⟩, by simp [Act.enc, ti]⟩
theorem sem (us : List Tr) (h : ShpA [sh] us) : F4.sem us = some ([.sc (.bool true)], []) := by
  cases h with
  | cons h1 h2 =>
    cases h2
    obtain ⟨⟨a, b, c, k, n, t, x, y, z⟩, rfl⟩ := inv_act h1
    rfl

theorem contract (H : Type) (enc : TypeId × Value → H) (W : World) (base : Nat) (args : Array Value) (ds gs : List (DataW H)) (before : List MemPlace)
    (hval : ∀ (j : Nat) t v, Try.f4.params[j]? = some t → args[j]? = some v → Value.okWide Try.prog W .any base t v)
    (hW : DataW.Whole enc Try.prog Try.f4.params.toList Rows.fnExactActOkSpec.vars false W args.toList ds gs before) :
    Calls Try.prog 4 args W fun e W' => ∃ v, e = .returned v ∧ Rows.fnExactActOkSpec.post enc Try.prog Try.f4 false true false false W args v W' := by
  refine law_contract whole rfl rfl shape sem laidOut (by intro t ht; rw [show Try.f4.params.toList = [25] from rfl] at ht; simp at ht; subst ht; exact ⟨by kernel_rfl, of_decide_eq_true (by kernel_rfl)⟩) rfl Try.underlying4 rfl ?_ W base args ds gs before hval hW
  intro ds hds
  rw [show Try.f4.params.toList = [25] from rfl] at hds
  match ds, hds with
  | [d], _ => exact ⟨rfl, rfl, rfl⟩

set_option maxRecDepth 100000 in
theorem lifted (os : Os) (started : os.Started) (H : Type) (enc : TypeId × Value → H) :
    ReturnsInHanded {} Try.checked os 4 .any (Rows.fnExactActOkSpec.pre6 enc Try.prog Try.f4 Rows.fnExactActOkRow.domain false) (Rows.fnExactActOkSpec.post enc Try.prog Try.f4 false true false false) := by
  refine returnsInHanded_of_change (C := Try.checked) own started (by kernel_rfl) Try.func4
    (ChangeSpec.witness6 (enc := enc) (C := Try.checked) false ⟨#[], #[.agg #[.int .i64 0, .int .i64 0, .int .i64 0, .int .i64 0, .string .empty, .string .empty, .int .i64 0, .int .i64 0, .string .empty]], []⟩ 8 (by kernel_rfl) (by kernel_rfl) (by kernel_rfl) (by kernel_rfl)) ?_
  intro W base args ds gs before hval hW _ _
  exact contract H enc W base args ds gs before hval hW

theorem proved : Rows.FnExactActOkSaid :=
  OpenClaim.holds_of_wide 4 Try.f4 rfl rfl rfl rfl rfl rfl rfl ⟨rfl, rfl, rfl, rfl, rfl⟩ rfl rfl rfl rfl rfl (by kernel_rfl) Try.func4 (by kernel_rfl)
    (of_decide_eq_true (by kernel_rfl)) (by unfold Func.isWrapper; first | (rw [if_pos (by decide +kernel)]; kernel_rfl) | (rw [if_neg (by decide +kernel)]; exact ⟨rfl, rfl⟩))
    (fun os started H enc _ => lifted os started H enc)
end Go.Proofs.Ytdihnokjlbbihaa.actOk
