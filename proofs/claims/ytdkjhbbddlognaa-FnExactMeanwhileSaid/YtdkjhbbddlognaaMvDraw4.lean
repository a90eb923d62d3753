/-
  A part of a theory of trees by which the functions of the program are walked: it proves no statement of the seat by itself; no conditions.
-/
import Derived.Test.YtdkjhbbddlognaaMvDraw3
namespace Go.Mv
set_option linter.unusedVariables false
set_option linter.unusedSimpArgs false

section
variable {w0 : World} {FA ok0 : Cells} {E : Ent} {N : Nat} {σ τ : St} {a : Act} {w : World} {L : Lay}
variable {S : Nat → Bool} {P : Program} {Γ : Env}

/-- an operation of the front, walked -/
theorem front_wp (h : Rel w0 FA ok0 E N σ a w L) (hg : Good P Γ) {ops : Array Oper} {i d : Nat} {o : Oper} (ho : ops[i]? = some o) (hok : okOper N o = true) (hd : o.dst = some d) {s : SV}
    (hc : wgcalm P Γ ops o σ (fun s' => s' = s)) {Kr : Act → World → Prop} {Q : Exit → Act → World → Prop} (hk : ∀ a' w' L', Rel w0 FA ok0 E N (σ.put d s) a' w' L' → Kr a' w') : wpOp P ops Q i Kr a w := by
  have hdN : d < N := okOper_dst hok hd
  have calm : wcalm P Γ false o.op o.type σ (fun s' => s' = s) → o.wp P a w Kr Q := by
    intro hc
    obtain ⟨sn, h', hf⟩ := h.fill
    refine calm_wp h' hf hg hc fun s' v w' F okN hs hr => ?_
    subst hs
    obtain ⟨R, hR⟩ := h'.put_res hdN hr
    rw [hd]
    exact hk _ _ _ hR
  unfold wpOp
  simp only [ho]
  unfold wgcalm at hc
  cases hgd : o.guard with
  | none =>
    simp only [hgd] at hc
    simp only [Region.wanted, hgd, if_true]
    exact .inl (calm hc)
  | some jw =>
    obtain ⟨j, want⟩ := jw
    simp only [hgd] at hc
    split at hc
    · rename_i e he
      split at hc
      · rename_i b hs
        have hv : a.tmps.getD e undef = .bool b := by have := bool_val (P := P) (T := 0) (c := .tmp e) h hs; exact this
        have hy : yielded ops a.tmps j = some b := by
          have : (a.tmps[e]?).getD undef = .bool b := by simpa [Array.getD_eq_getD_getElem?] using hv
          have he' : (ops[j]?).bind (·.dst) = some e := he
          cases hx : a.tmps[e]? with
          | none => rw [hx] at this; simp [undef] at this
          | some u => rw [hx] at this; simp at this; simp [yielded, he', hx, this]
        simp only [Region.wanted, hgd, hy]
        by_cases e1 : b = want
        · subst e1
          simp only [beq_self_eq_true, if_true]
          exact .inl (calm (hc.1 rfl))
        · have e' : b = !want := by cases b <;> cases want <;> simp_all
          have : (some b == some want) = false := by simp [e1]
          simp only [this, Bool.false_eq_true, if_false]
          have hds := hc.2 e'
          obtain ⟨L2, h2, _⟩ := h.putH hdN (l := []) (Hand.free (s := .tup []) (v := undef) (.tup .nil))
          rw [hds] at h2
          rw [hd]
          exact hk _ _ _ h2
      · rename_i hs
        have hy : yielded ops a.tmps j = none := not_run h he hs
        simp only [Region.wanted, hgd, hy]
        have : ((none : Option Bool) == some want) = false := rfl
        simp only [this, Bool.false_eq_true, if_false]
        obtain ⟨L2, h2, _⟩ := h.putH hdN (l := []) (Hand.free (s := .tup []) (v := undef) (.tup .nil))
        rw [hc] at h2
        rw [hd]
        exact hk _ _ _ h2
      · exact hc.elim
    · exact hc.elim

theorem countP_lt {α : Type} {p q : α → Bool} : ∀ (l : List α), (∀ x ∈ l, q x = true → p x = true) → (∃ x ∈ l, p x = true ∧ q x = false) → l.countP q < l.countP p
  | [], _, ⟨x, hx, _⟩ => by simp at hx
  | y :: l, h, ⟨x, hx, h1, h2⟩ => by
    have hle : l.countP q ≤ l.countP p := List.countP_mono_left fun x' h' => h x' (by simp [h'])
    rw [List.countP_cons, List.countP_cons]
    rcases List.mem_cons.1 hx with rfl | hx
    · simp only [h1, h2, if_true]; simp; omega
    · have := countP_lt l (fun x' h' => h x' (by simp [h'])) ⟨x, hx, h1, h2⟩
      cases hq : q y with
      | true => simp only [h y (by simp) hq, if_true]; omega
      | false => cases p y <;> simp <;> omega

/-- what okDraw says -/
theorem okDraw_spec {ops : Array Oper} (h : okDraw ops = true) {i : Nat} (hi : i < ops.size) :
    (∀ o, ops[i]? = some o → ∀ e ∈ o.after.toList, Region.binds .any e = true → e.on < i) ∧
    (i < frontLen ops.toList → (∀ j, j < frontLen ops.toList → j ≠ i → dstOf ops j ≠ dstOf ops i) ∧
      ∀ o, ops[i]? = some o → (∀ t ∈ tmpsOf o, ∀ j, j < frontLen ops.toList → dstOf ops j = some t → waits ops i j = true) ∧ ∀ j want, o.guard = some (j, want) → j < frontLen ops.toList ∧ waits ops i j = true) ∧
    (¬ i < frontLen ops.toList → ∀ j, j < i → waits ops i j = true) := by
  simp only [okDraw, List.all_eq_true, List.mem_range, Bool.and_eq_true] at h
  obtain ⟨⟨h1, h2⟩, h3⟩ := h i hi
  refine ⟨fun o ho e he hb => ?_, fun hm => ?_, fun hm j hj => ?_⟩
  · rw [ho] at h2
    simp only [List.all_eq_true] at h2
    have := h2 e he
    simp [hb] at this; exact this
  · rw [if_pos hm] at h3
    simp only [Bool.and_eq_true, List.all_eq_true, List.mem_range] at h3
    refine ⟨fun j hj hne => ?_, fun o ho => ?_⟩
    · have := h3.1 j hj
      simp [hne] at this; exact this
    · have h4 := h3.2
      rw [ho] at h4
      simp only [Bool.and_eq_true, List.all_eq_true, List.mem_range] at h4
      refine ⟨fun t ht j hj hd => ?_, fun j want hg => ?_⟩
      · have := h4.1 t ht j hj
        simp [hd] at this; exact this
      · have := h4.2
        rw [hg] at this
        simpa using this
  · rw [if_neg hm] at h3
    simp only [List.all_eq_true, List.mem_range] at h3
    exact h3 j hj
end
end Go.Mv
