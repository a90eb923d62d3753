/-
  A part of a theory of trees by which the functions of the program are walked: it proves no statement of the seat by itself; no conditions.
-/
import Derived.Test.YtdkjhbbddlognaaMvDraw6
namespace Go.Mv
set_option linter.unusedVariables false
set_option linter.unusedSimpArgs false

section
variable {w0 : World} {FA ok0 : Cells} {E : Ent} {N : Nat} {σ τ : St} {a : Act} {w : World} {L : Lay}
variable {S : Nat → Bool} {P : Program} {Γ : Env}

theorem frontLen_le : ∀ (l : List Oper), frontLen l ≤ l.length
  | [] => Nat.le_refl _
  | o :: os => by simp only [frontLen]; split <;> simp [frontLen_le os]
theorem frontLen_op : ∀ (l : List Oper) (i : Nat), i < frontLen l → ∃ o, l[i]? = some o ∧ frontOp o = true
  | [], i, h => by simp [frontLen] at h
  | o :: os, i, h => by
    simp only [frontLen] at h
    split at h
    · rename_i hf
      cases i with
      | zero => exact ⟨o, rfl, hf⟩
      | succ i => obtain ⟨o', h1, h2⟩ := frontLen_op os i (by omega); exact ⟨o', by simpa using h1, h2⟩
    · omega

/-- DRAWN REGIONS: whatever order is drawn, what the text's order tells is so -/
theorem wdraw_ok (hg : Good P Γ) (hmx : P.follows .mixedOrders = true) : DrawOK P Γ (wdraw P Γ) := by
  intro w0 FA ok0 E N id ops σ a w L K Q hok hR hD hk
  obtain ⟨hd, hf⟩ := hD
  let m := frontLen ops.toList
  have hmn : m ≤ ops.size := by have := frontLen_le ops.toList; simpa using this
  have hop : ∀ i, i < m → ∃ o d, ops[i]? = some o ∧ o.dst = some d ∧ ops.toList[i]? = some o := by
    intro i hi
    obtain ⟨o, h1, h2⟩ := frontLen_op ops.toList i hi
    simp only [frontOp, Bool.and_eq_true] at h2
    obtain ⟨d, hdd⟩ := Option.isSome_iff_exists.1 h2.1
    exact ⟨o, d, by simpa using h1, hdd, h1⟩
  let ds : Nat → Nat := fun i => (dstOf ops i).getD 0
  have hl : ∀ i, i < m → dstOf ops i = some (ds i) := by
    intro i hi
    obtain ⟨o, d, h1, h2, _⟩ := hop i hi
    simp only [ds, dstOf, h1, Option.bind_some, h2, Option.getD_some]
  have hdist : ∀ i j, i < m → j < m → ds i = ds j → i = j := by
    intro i j hi hj e
    refine Classical.byContradiction fun hne => ?_
    exact ((okDraw_spec hd (show j < ops.size by omega)).2.1 hj).1 i hi hne (by rw [hl i hi, hl j hj, e])
  have hS : ∀ i, i < m → frontS ops (ds i) = true := by
    intro i hi
    simp only [frontS, List.any_eq_true, List.mem_range]
    exact ⟨i, hi, by rw [hl i hi]; simp⟩
  have hSd : ∀ d, frontS ops d = true → d ∈ (ops.toList.take m).filterMap (·.dst) := by
    intro d h
    simp only [frontS, List.any_eq_true, List.mem_range] at h
    obtain ⟨i, hi, he⟩ := h
    obtain ⟨o, d', h1, h2, h3⟩ := hop i hi
    have : d' = d := by simpa [dstOf, h1, h2] using he
    subst this
    rw [List.mem_filterMap]
    exact ⟨o, List.mem_iff_getElem?.2 ⟨i, by rw [List.getElem?_take_of_lt hi]; exact h3⟩, h2⟩
  obtain ⟨L1, h1⟩ := hR.kills ((ops.toList.take m).filterMap (·.dst)) (by
    intro d hdm
    obtain ⟨o, ho, he⟩ := List.mem_filterMap.1 hdm
    have : o ∈ ops.toList := List.mem_of_mem_take ho
    simp only [List.all_eq_true] at hok
    exact okOper_dst (hok o this) he)
  have hst := hR.stl (S := frontS ops) hSd
  obtain ⟨svL, v1, v2, v3⟩ := front_values ops.toList hst hf
  let sv : Nat → SV := fun i => (svL[i]?).getD .dead
  have hsv : ∀ i, i < m → svL[i]? = some (sv i) := by
    intro i hi
    have : i < svL.length := by rw [v1]; exact hi
    simp [sv, this]
  have htext := text_layD (l := ops.toList) (svL := svL) (σ0 := σ.kills ((ops.toList.take m).filterMap (·.dst))) (m := m) (ds := ds) (sv := sv)
    (fun i hi => by obtain ⟨o, d, a1, a2, a3⟩ := hop i hi; exact ⟨o, a3, by have := hl i hi; simpa [dstOf, a1] using this⟩) hsv hdist
  have hput : putAll (σ.kills ((ops.toList.take m).filterMap (·.dst))) ops.toList svL = putAll (σ.kills ((ops.toList.take m).filterMap (·.dst))) (ops.toList.take m) svL := by
    have key : ∀ (l : List Oper) (s : List SV) (τ : St), putAll τ l s = putAll τ (l.take s.length) s := by
      intro l
      induction l with
      | nil => intro s τ; simp
      | cons o l ih => intro s τ; cases s with
        | nil => simp [putAll]
        | cons x s => simp only [List.length_cons, List.take_succ_cons, putAll]; exact ih s _
    rw [key, v1]
  rw [hput, htext m (Nat.le_refl _)] at v2
  refine wp_region_any hmx ?_
  have hR2 := h1.ext (w' := { w with drawn := w.drawn + 1 }) (okN := Cells.none) (Nat.le_refl _) (fun _ _ => rfl) ⟨⟨rfl, rfl⟩, rfl, (Still.refl w).2.2⟩ (fun _ _ h => h.elim)
  have hno : ∀ i, i < ops.size → (Array.replicate ops.size false).getD i false = false := fun i hi => by simp [Array.getD_eq_getD_getElem?, hi]
  refine front_any hg hok hd hk rfl hmn hl hdist hS (fun i hi o ho => ?_) v2 ops.size (by simp) (fun i _ hi => hno i hi) (by
    rw [layD_none (fun i hi => hno i (by omega))]; exact hR2) ?_
  · have := v3 i o (sv i) hi (by simpa using ho) (hsv i hi)
    rw [htext i (Nat.le_of_lt hi)] at this
    exact this
  · have := List.countP_le_length (p := fun i => !(Array.replicate ops.size false).getD i false) (l := List.range ops.size)
    simpa using this
end
end Go.Mv
