/-
  A part of a theory of trees by which the functions of the program are walked: it proves no statement of the seat by itself; no conditions.
-/
import Derived.Test.YtdkjhbbddlognaaMvSimp
namespace Go.Mv
set_option linter.unusedVariables false

/-- a region's operations, one after the other -/
def wrun (P : Program) (Γ : Env) (ops : Array Oper) (K : St → Prop) : List Oper → St → Prop
  | [], σ => K σ
  | o :: os, σ => wguard P Γ ops o σ (wrun P Γ ops K os)

section
variable {P : Program} {Γ : Env} {D : Array Oper → St → (St → Prop) → Prop} {σ : St} {Q : QS}

theorem wguard_mono {ops : Array Oper} {o : Oper} {K K' : St → Prop} (hK : K = K') (h : wguard P Γ ops o σ K) : wguard P Γ ops o σ K' := hK ▸ h

theorem wops_from (ops : Array Oper) (K : St → Prop) : ∀ (n i : Nat), i + n = ops.size → wops P Γ ops K ((List.range ops.size).drop i) = wrun P Γ ops K (ops.toList.drop i)
  | 0, i, h => by
    have h1 : (List.range ops.size).drop i = [] := List.drop_eq_nil_of_le (by simp; omega)
    have h2 : ops.toList.drop i = [] := List.drop_eq_nil_of_le (by simp; omega)
    rw [h1, h2]; funext σ; rfl
  | n + 1, i, h => by
    have hi : i < ops.size := by omega
    have h1 : (List.range ops.size).drop i = i :: (List.range ops.size).drop (i + 1) := by
      rw [List.drop_eq_getElem_cons (by simpa using hi)]; simp
    have h2 : ops.toList.drop i = ops[i] :: ops.toList.drop (i + 1) := by
      rw [List.drop_eq_getElem_cons (by simpa using hi)]; simp
    rw [h1, h2]
    funext σ
    simp only [wops, wrun, Array.getElem?_eq_getElem hi]
    rw [wops_from ops K n (i + 1) (by omega)]

theorem WT_region {id : Nat} {l : List Oper} (h : wrun P Γ l.toArray (Q .normal) l σ) : WT P Γ D (.region id l.toArray false) Q σ := by
  have := wops_from (P := P) (Γ := Γ) l.toArray (Q .normal) l.toArray.size 0 (by simp)
  simp only [List.drop_zero] at this
  simp only [WT]
  rw [this]; exact h

theorem WT_seq {x y : Code} (h : ∀ K : St → Prop, (∀ σ, WT P Γ D y Q σ → K σ) → WT P Γ D x (Q.then K) σ) : WT P Γ D (.seq x y) Q σ := h _ fun _ h => h
theorem WT_seqG {x y : Code} (h : ∀ K : St → Prop, (∀ σ, (∀ σ', σ' = σ → WT P Γ D y Q σ') → K σ) → WT P Γ D x (Q.then K) σ) : WT P Γ D (.seq x y) Q σ := h _ fun _ h => h _ rfl
theorem WT_gen {c : Code} (h : ∀ σ', σ' = σ → WT P Γ D c Q σ') : WT P Γ D c Q σ := h _ rfl
def QS.thenL (K : St → Prop) (Q : QS) : QS := Q.then K
theorem thenL_normal {K : St → Prop} (h : K σ) : Q.thenL K .normal σ := h
theorem thenL_ret {K : St → Prop} (h : Q .ret σ) : Q.thenL K .ret σ := h
theorem thenL_exit {K : St → Prop} {id : Nat} (h : Q (.exit id) σ) : Q.thenL K (.exit id) σ := h
theorem WT_loopL {c : Code} (I : Nat → St → Prop) (h0 : ∃ n, I n σ) (h : ∀ n σ, I n σ → WT P Γ D c (Q.thenL fun σ' => ∃ m, m < n ∧ I m σ') σ) : WT P Γ D (.loop c) Q σ := ⟨I, h0, h⟩
theorem WT_skip (h : Q .normal σ) : WT P Γ D .skip Q σ := h
theorem WT_ret (h : Q .ret σ) : WT P Γ D .ret Q σ := h
theorem WT_exit {id : Nat} (h : Q (.exit id) σ) : WT P Γ D (.exit id) Q σ := h
theorem WT_block {id : Nat} {c : Code} (h : WT P Γ D c (Q.inBlock id) σ) : WT P Γ D (.block id c) Q σ := h
theorem WT_cond {c : Operand} {x y : Code} (h : ∀ X Y : Prop, (WT P Γ D x Q σ → X) → (WT P Γ D y Q σ → Y) → wcondC P σ c X Y) : WT P Γ D (.cond c x y) Q σ := h _ _ (fun h => h) (fun h => h)
theorem WT_loop {c : Code} (I : Nat → St → Prop) (h0 : ∃ n, I n σ) (h : ∀ n σ, I n σ → WT P Γ D c (Q.then fun σ' => ∃ m, m < n ∧ I m σ') σ) : WT P Γ D (.loop c) Q σ := ⟨I, h0, h⟩
theorem wrun_cons {ops : Array Oper} {o : Oper} {os : List Oper} {K : St → Prop} (h : ∀ K' : St → Prop, (∀ σ, wrun P Γ ops K os σ → K' σ) → wguard P Γ ops o σ K') : wrun P Γ ops K (o :: os) σ := h _ fun _ h => h
theorem wrun_consN {ops : Array Oper} {o : Oper} {os : List Oper} {K : St → Prop} (hg : o.guard = none) (h : ∀ K' : St → Prop, (∀ σ, wrun P Γ ops K os σ → K' σ) → wop P Γ o σ K') : wrun P Γ ops K (o :: os) σ := by
  have := h _ fun _ h => h
  simp only [wrun, wguard, hg]; exact this
/-- an operation under its guard, the guard's slot known -/
def guarded (s : SV) (want : Bool) (X Y : Prop) : Prop := match s with
  | .tr none (.sc (.bool b)) => (b = want → X) ∧ (b = !want → Y)
  | .tup [] => Y
  | _ => False
theorem wrun_consG {ops : Array Oper} {o : Oper} {os : List Oper} {K : St → Prop} {j d : Nat} {want : Bool} (hg : o.guard = some (j, want)) (hd : (ops[j]?).bind (·.dst) = some d)
    (h : ∀ K' : St → Prop, (∀ σ, wrun P Γ ops K os σ → K' σ) → guarded (σ.slot d) want (wop P Γ o σ K') (K' (σ.putO o.dst (.tup [])))) : wrun P Γ ops K (o :: os) σ := by
  have := h _ fun _ h => h
  simp only [wrun, wguard, hg, hd]
  unfold guarded at this
  exact this
theorem wrun_nil {ops : Array Oper} {K : St → Prop} (h : K σ) : wrun P Γ ops K [] σ := h
theorem then_normal {K : St → Prop} (h : K σ) : Q.then K .normal σ := h
theorem then_ret {K : St → Prop} (h : Q .ret σ) : Q.then K .ret σ := h
theorem then_exit {K : St → Prop} {id : Nat} (h : Q (.exit id) σ) : Q.then K (.exit id) σ := h
theorem inBlock_normal {id : Nat} (h : Q .normal σ) : Q.inBlock id .normal σ := h
theorem inBlock_ret {id : Nat} (h : Q .ret σ) : Q.inBlock id .ret σ := h
theorem inBlock_exit {id : Nat} (h : Q .normal σ) : Q.inBlock id (.exit id) σ := by simp only [QS.inBlock, if_true]; exact h
theorem inBlock_other {id id' : Nat} (hne : id' ≠ id) (h : Q (.exit id') σ) : Q.inBlock id (.exit id') σ := by simp only [QS.inBlock, if_neg hne]; exact h
end

theorem range0 : List.range 0 = [] := rfl
theorem range1 : List.range 1 = [0] := rfl
theorem range2 : List.range 2 = [0, 1] := rfl
theorem range3 : List.range 3 = [0, 1, 2] := rfl
theorem range4 : List.range 4 = [0, 1, 2, 3] := rfl
theorem range5 : List.range 5 = [0, 1, 2, 3, 4] := rfl
theorem range6 : List.range 6 = [0, 1, 2, 3, 4, 5] := rfl
theorem range7 : List.range 7 = [0, 1, 2, 3, 4, 5, 6] := rfl
theorem range8 : List.range 8 = [0, 1, 2, 3, 4, 5, 6, 7] := rfl
theorem range9 : List.range 9 = [0, 1, 2, 3, 4, 5, 6, 7, 8] := rfl

attribute [simp] wguard guarded wop wcalm wcondC ofTr St.putO St.val constSV flat owning owningL ownsT intOp St.lendL St.lend St.eat
  put_slot_eq put_slot_ne put_box put_bver put_ep newBox_slot newBox_box_eq newBox_box_ne newBox_bver_eq newBox_bver_ne newBox_ep setBox_slot setBox_box_eq setBox_box_ne setBox_bver setBox_ep init_slot init_box init_bver init_ep
  wnum wbound scOf eqAll eqCell strOp mkTr viewT viewTs spliceL isOwn
  St.content St.kill takeC lendB argList wcallC rowsOf resG resSVof giveW St.giveL St.give St.giveC St.setR
  cellsAny singles single cellsOK cellsSV viewSV viewSVs resSV range1 range2 range3 range4 range5 range6 range7 range8 range9 range0
end Go.Mv
