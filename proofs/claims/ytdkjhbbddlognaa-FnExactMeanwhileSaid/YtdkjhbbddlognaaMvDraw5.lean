/-
  A part of a theory of trees by which the functions of the program are walked: it proves no statement of the seat by itself; no conditions.
-/
import Derived.Test.YtdkjhbbddlognaaMvDraw4
namespace Go.Mv
set_option linter.unusedVariables false
set_option linter.unusedSimpArgs false

section
variable {w0 : World} {FA ok0 : Cells} {E : Ent} {N : Nat} {σ τ : St} {a : Act} {w : World} {L : Lay}
variable {S : Nat → Bool} {P : Program} {Γ : Env}

theorem ready_mem {ops : Array Oper} {listed : Array Bool} {i : Nat} (h : i ∈ Region.ready .any ops listed) :
    i < ops.size ∧ listed.getD i true = false ∧ ∃ o, ops[i]? = some o ∧ ∀ e ∈ o.after.toList, Region.binds .any e = true → listed.getD e.on false = true := by
  simp only [Region.ready, List.mem_filter, List.mem_range, Bool.and_eq_true] at h
  obtain ⟨h1, h2, h3⟩ := h
  refine ⟨h1, by simpa using h2, ?_⟩
  rw [Array.getElem?_eq_getElem h1] at h3
  simp only [Option.map_some, Option.getD_some] at h3
  refine ⟨_, Array.getElem?_eq_getElem h1, fun e he hb => ?_⟩
  rw [← Array.all_toList, List.all_eq_true] at h3
  have := h3 e he
  simpa [hb] using this

theorem waits_edge {ops : Array Oper} {i j : Nat} (h : waits ops i j = true) : ∃ o e, ops[i]? = some o ∧ e ∈ o.after.toList ∧ Region.binds .any e = true ∧ e.on = j := by
  unfold waits at h
  split at h
  · rename_i o ho
    simp only [List.any_eq_true, Bool.and_eq_true, beq_iff_eq] at h
    obtain ⟨e, h1, h2, h3⟩ := h
    exact ⟨o, e, ho, h1, h2, h3⟩
  · cases h

theorem ready_waits {ops : Array Oper} {listed : Array Bool} {i j : Nat} (h : i ∈ Region.ready .any ops listed) (hw : waits ops i j = true) : listed.getD j false = true := by
  obtain ⟨h1, h2, o, ho, h3⟩ := ready_mem h
  obtain ⟨o', e, ho', he, hb, rfl⟩ := waits_edge hw
  rw [ho] at ho'; cases ho'
  exact h3 e he hb

/-- the first that is not listed is ready -/
theorem ready_first {ops : Array Oper} (hd : okDraw ops = true) {listed : Array Bool} {i : Nat} (hi : i < ops.size) (h1 : listed.getD i true = false) (h2 : ∀ j, j < i → listed.getD j false = true) : i ∈ Region.ready .any ops listed := by
  simp only [Region.ready, List.mem_filter, List.mem_range, Bool.and_eq_true]
  refine ⟨hi, by simp [h1], ?_⟩
  rw [Array.getElem?_eq_getElem hi]
  simp only [Option.map_some, Option.getD_some]
  rw [← Array.all_toList, List.all_eq_true]
  intro e he
  cases hb : Region.binds .any e with
  | false => simp
  | true =>
    have := (okDraw_spec hd hi).1 _ (Array.getElem?_eq_getElem hi) e he hb
    simp [h2 _ this]

theorem tail_any (hg : Good P Γ) {ops : Array Oper} (hok : ops.toList.all (okOper N) = true) (hd : okDraw ops = true) {K : St → Prop} {Q : Exit → Act → World → Prop}
    (hk : ∀ σ' a' w' L', K σ' → Rel w0 FA ok0 E N σ' a' w' L' → Q .normal a' w') :
    ∀ (fuel k : Nat) {listed : Array Bool} {σ : St} {a : Act} {w : World} {L : Lay}, listed.size = ops.size → (∀ i, i < ops.size → listed.getD i false = decide (i < k)) → frontLen ops.toList ≤ k →
      Rel w0 FA ok0 E N σ a w L → wfront.wrest P Γ ops K (ops.toList.drop k) σ → ops.size - k ≤ fuel → wpAny P .any ops Q fuel listed a w := by
  have hgd : ∀ {listed : Array Bool} {i : Nat}, listed.size = ops.size → i < ops.size → listed.getD i true = listed.getD i false := by
    intro listed i hs hi
    simp [Array.getD_eq_getD_getElem?, Array.getElem?_eq_getElem (show i < listed.size by omega)]
  have hend : ∀ {k : Nat} {σ : St} {a : Act} {w : World} {L : Lay}, ops.size ≤ k → Rel w0 FA ok0 E N σ a w L → wfront.wrest P Γ ops K (ops.toList.drop k) σ → Q .normal a w := by
    intro k σ a w L hle hR hw
    rw [List.drop_eq_nil_of_le (by simpa using hle)] at hw
    simp only [wfront.wrest] at hw
    exact hk _ _ _ _ hw hR
  intro fuel
  induction fuel with
  | zero =>
    intro k listed σ a w L hs hl hm hR hw hf
    refine ⟨?_, hend (by omega) hR hw⟩
    rw [List.eq_nil_iff_forall_not_mem]
    intro i hi
    obtain ⟨h1, h2, _⟩ := ready_mem hi
    rw [hgd hs h1, hl i h1] at h2
    simp at h2; omega
  | succ fuel ih =>
    intro k listed σ a w L hs hl hm hR hw hf
    refine ⟨fun he => ?_, fun i hi => ?_⟩
    · by_cases hlt : k < ops.size
      · exfalso
        have := ready_first hd hlt (by rw [hgd hs hlt, hl k hlt]; simp) (fun j hj => by rw [hl j (by omega)]; simpa using hj)
        rw [he] at this; simp at this
      · exact hend (by omega) hR hw
    · obtain ⟨h1, h2, o, ho, _⟩ := ready_mem hi
      rw [hgd hs h1, hl i h1] at h2
      have hki : k ≤ i := by simpa using h2
      have hik : i = k := by
        rcases Nat.lt_or_ge k i with hlt | hge
        · have := (okDraw_spec hd h1).2.2 (by omega) k hlt
          have := ready_waits hi this
          rw [hl k (by omega)] at this; simp at this
        · omega
      subst hik
      have hdrop : ops.toList.drop i = o :: ops.toList.drop (i + 1) := by
        rw [List.drop_eq_getElem_cons (by simpa using h1)]
        congr 1
        have := Array.getElem?_eq_some_iff.1 ho
        obtain ⟨_, e⟩ := this
        simpa using e
      rw [hdrop] at hw
      simp only [wfront.wrest] at hw
      have hoo : okOper N o = true := by
        simp only [List.all_eq_true] at hok
        exact hok o (by obtain ⟨hlt, rfl⟩ := Array.getElem?_eq_some_iff.1 ho; simp)
      unfold wpOp
      simp only [ho]
      refine wguard_wp hR hg hoo hw fun σ' a' w' L' hK hR' => ih (i + 1) (by simpa using hs) ?_ (by omega) hR' hK (by omega)
      intro j hj
      rw [Array.getD_eq_getD_getElem?, Array.getElem?_setIfInBounds]
      by_cases e : i = j
      · subst e; simp [hs, h1]
      · have := hl j hj
        rw [Array.getD_eq_getD_getElem?] at this
        simp only [e, if_false, this]
        by_cases hlt : j < i <;> simp [hlt] <;> omega
end
end Go.Mv
