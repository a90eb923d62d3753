/-
  A part of a theory of trees by which the functions of the program are walked: it proves no statement of the seat by itself; no conditions.
-/
import Derived.Test.YtdkjhbbddlognaaMvDraw5
namespace Go.Mv
set_option linter.unusedVariables false
set_option linter.unusedSimpArgs false

section
variable {w0 : World} {FA ok0 : Cells} {E : Ent} {N : Nat} {σ τ : St} {a : Act} {w : World} {L : Lay}
variable {S : Nat → Bool} {P : Program} {Γ : Env}

theorem layD_sim {σ0 : St} {m : Nat} {ds : Nat → Nat} {sv : Nat → SV} {A B : Nat → Bool} (hS : ∀ i, i < m → S (ds i) = true) (hst : Stl S (layD σ0 m ds sv A)) : Sim S (layD σ0 m ds sv A) (layD σ0 m ds sv B) where
  slotN := fun t ht => by
    rw [layD_else (fun i hi _ e => by rw [← e, hS i hi] at ht; cases ht), layD_else (fun i hi _ e => by rw [← e, hS i hi] at ht; cases ht)]
  box := rfl
  arg := rfl
  bver := rfl
  ep := rfl
  ver := fun r hr => by
    cases r with
    | cell b j => rfl
    | arg i j => rfl
    | slot t =>
      have ht := hr t rfl
      have : ∀ C : Nat → Bool, ¬ ∃ i, i < m ∧ C i = true ∧ ds i = t := fun C ⟨i, hi, _, e⟩ => by rw [← e, hS i hi] at ht; cases ht
      simp only [layD, if_neg (this A), if_neg (this B)]
  nver := fun r hr => by
    cases r with
    | cell b j => rfl
    | arg i j => rfl
    | slot t =>
      have ht := hr t rfl
      have : ∀ C : Nat → Bool, ¬ ∃ i, i < m ∧ C i = true ∧ ds i = t := fun C ⟨i, hi, _, e⟩ => by rw [← e, hS i hi] at ht; cases ht
      simp only [layD, if_neg (this A), if_neg (this B)]
  st := hst.1
  bx := hst.2

theorem count_ge {p : Nat → Bool} (m : Nat) : ∀ (n : Nat), (∀ i, m ≤ i → i < n → p i = true) → n - m ≤ (List.range n).countP p
  | 0, _ => by simp
  | n + 1, h => by
    rw [List.range_succ, List.countP_append]
    have := count_ge m n (fun i h1 h2 => h i h1 (by omega))
    by_cases hm : m ≤ n
    · have hp := h n hm (by omega)
      simp [hp]; omega
    · omega

theorem front_any (hg : Good P Γ) {ops : Array Oper} (hok : ops.toList.all (okOper N) = true) (hd : okDraw ops = true) {K : St → Prop} {Q : Exit → Act → World → Prop}
    (hk : ∀ σ' a' w' L', K σ' → Rel w0 FA ok0 E N σ' a' w' L' → Q .normal a' w') {m : Nat} (hm : m = frontLen ops.toList) (hmn : m ≤ ops.size) {ds : Nat → Nat} {sv : Nat → SV} {σ0 : St}
    (hl : ∀ i, i < m → dstOf ops i = some (ds i)) (hdist : ∀ i j, i < m → j < m → ds i = ds j → i = j) (hS : ∀ i, i < m → S (ds i) = true)
    (hT : ∀ i, i < m → ∀ o, ops[i]? = some o → Stl S (layD σ0 m ds sv (fun j => decide (j < i))) ∧ rootless S (layD σ0 m ds sv (fun j => decide (j < i))) o.op ∧
      wgcalm P Γ ops o (layD σ0 m ds sv (fun j => decide (j < i))) (fun s' => s' = sv i))
    (hR0 : wfront.wrest P Γ ops K (ops.toList.drop m) (layD σ0 m ds sv (fun j => decide (j < m)))) :
    ∀ (fuel : Nat) {listed : Array Bool} {a : Act} {w : World} {L : Lay}, listed.size = ops.size → (∀ i, m ≤ i → i < ops.size → listed.getD i false = false) →
      Rel w0 FA ok0 E N (layD σ0 m ds sv (fun i => listed.getD i false)) a w L → ((List.range ops.size).countP fun i => !listed.getD i false) ≤ fuel → wpAny P .any ops Q fuel listed a w := by
  have hgd : ∀ {listed : Array Bool} {i : Nat}, listed.size = ops.size → i < ops.size → listed.getD i true = listed.getD i false := by
    intro listed i hs hi
    simp [Array.getD_eq_getD_getElem?, Array.getElem?_eq_getElem (show i < listed.size by omega)]
  -- all of the front is listed: the tail
  have hall : ∀ (fuel : Nat) {listed : Array Bool} {a : Act} {w : World} {L : Lay}, listed.size = ops.size → (∀ i, m ≤ i → i < ops.size → listed.getD i false = false) → (∀ i, i < m → listed.getD i false = true) →
      Rel w0 FA ok0 E N (layD σ0 m ds sv (fun i => listed.getD i false)) a w L → ops.size - m ≤ fuel → wpAny P .any ops Q fuel listed a w := by
    intro fuel listed a w L hs h1 h2 hR hf
    have e : layD σ0 m ds sv (fun i => listed.getD i false) = layD σ0 m ds sv (fun j => decide (j < m)) := by
      have hh : ∀ t, (∃ i, i < m ∧ listed.getD i false = true ∧ ds i = t) ↔ (∃ i, i < m ∧ decide (i < m) = true ∧ ds i = t) := fun t =>
        ⟨fun ⟨i, a, _, c⟩ => ⟨i, a, by simpa using a, c⟩, fun ⟨i, a, _, c⟩ => ⟨i, a, h2 i a, c⟩⟩
      refine St_ext (funext fun t => ?_) rfl rfl (funext fun r => ?_) (funext fun r => ?_) rfl rfl
      · by_cases hx : ∃ i, i < m ∧ listed.getD i false = true ∧ ds i = t
        · obtain ⟨i, i1, i2, rfl⟩ := hx
          rw [layD_slot hdist i1 i2, layD_slot hdist i1 (by simpa using i1)]
        · rw [layD_else (fun i i1 i2 i3 => hx ⟨i, i1, i2, i3⟩), layD_else (fun i i1 i2 i3 => hx ((hh t).2 ⟨i, i1, i2, i3⟩))]
      · cases r <;> simp only [layD, hh]
      · cases r <;> simp only [layD, hh]
    rw [e] at hR
    refine tail_any hg hok hd hk fuel m hs ?_ (by omega) hR hR0 hf
    intro i hi
    by_cases h : i < m
    · simp [h, h2 i h]
    · simp [h, h1 i (by omega) hi]
  intro fuel
  induction fuel with
  | zero =>
    intro listed a w L hs h1 hR hc
    have hn : ∀ i, i < ops.size → listed.getD i false = true := by
      intro i hi
      have := List.countP_eq_zero.1 (Nat.le_zero.1 hc) i (by simpa using hi)
      simpa using this
    refine hall 0 hs h1 (fun i hi => hn i (by omega)) hR ?_
    rcases Nat.lt_or_ge m ops.size with h | h
    · have := hn m h; rw [h1 m (Nat.le_refl _) h] at this; cases this
    · omega
  | succ fuel ih =>
    intro listed a w L hs h1 hR hc
    by_cases hfull : ∀ i, i < m → listed.getD i false = true
    · refine hall _ hs h1 hfull hR ?_
      have := count_ge (p := fun i => !listed.getD i false) m ops.size (fun i a b => by simp only [h1 i a b]; rfl)
      omega
    · refine ⟨fun he => ?_, fun i hi => ?_⟩
      · exfalso
        have hex : ∃ i, i < m ∧ listed.getD i false = false := by
          refine Classical.byContradiction fun hn => hfull fun i hi => ?_
          cases hx : listed.getD i false with
          | true => rfl
          | false => exact absurd ⟨i, hi, hx⟩ hn
        obtain ⟨i, ⟨i1, i2⟩, hmin⟩ := least hex
        have := ready_first hd (show i < ops.size by omega) (by rw [hgd hs (by omega)]; exact i2) (fun j hj => by
          cases hx : listed.getD j false with
          | true => rfl
          | false => have := hmin j ⟨by omega, hx⟩; omega)
        rw [he] at this; simp at this
      · obtain ⟨hi1, hi2, o, ho, _⟩ := ready_mem hi
        rw [hgd hs hi1] at hi2
        have him : i < m := by
          refine Nat.lt_of_not_le fun hge => hfull fun j hj => ?_
          exact ready_waits hi ((okDraw_spec hd hi1).2.2 (by omega) j (by omega))
        obtain ⟨t1, t2, t3⟩ := hT i him o ho
        obtain ⟨_, hsp⟩ := (okDraw_spec hd hi1).2.1 (by omega)
        obtain ⟨hop, hgu⟩ := hsp o ho
        have hback : ∀ j, waits ops i j = true → j < i := by
          intro j hj
          obtain ⟨o', e, ho', he, hb, rfl⟩ := waits_edge hj
          rw [ho] at ho'; cases ho'
          exact (okDraw_spec hd hi1).1 o ho e he hb
        have hsame : ∀ t, (∀ j, j < m → dstOf ops j = some t → waits ops i j = true) → (layD σ0 m ds sv (fun i => listed.getD i false)).slot t = (layD σ0 m ds sv (fun j => decide (j < i))).slot t := by
          intro t ht
          by_cases hx : ∃ j, j < m ∧ ds j = t
          · obtain ⟨j, j1, rfl⟩ := hx
            have hw := ht j j1 (hl j j1)
            rw [layD_slot hdist j1 (ready_waits hi hw), layD_slot hdist j1 (by simpa using hback j hw)]
          · rw [layD_else (fun j j1 _ e => hx ⟨j, j1, e⟩), layD_else (fun j j1 _ e => hx ⟨j, j1, e⟩)]
        obtain ⟨s, rfl, _, hc'⟩ := wgcalm_sim (layD_sim (B := fun i => listed.getD i false) hS t1)
          (fun t ht => hsame t fun j hj hdj => hop t (by simp only [tmpsOf, List.mem_filterMap]; exact ⟨.tmp t, Array.mem_toList_iff.2 ht, rfl⟩) j (by omega) hdj)
          (fun j w d hgd' hdj => hsame d fun j' hj' hdj' => by
            obtain ⟨g1, g2⟩ := hgu j w hgd'
            have e1 := hl j (by omega); rw [hdj] at e1
            have e2 := hl j' hj'; rw [hdj'] at e2
            have : j' = j := hdist j' j hj' (by omega) (by rw [Option.some.inj e1] at e2; exact (Option.some.inj e2).symm)
            rw [this]; exact g2) t2 t3
        have hoo : okOper N o = true := by
          simp only [List.all_eq_true] at hok
          exact hok o (by obtain ⟨hlt, rfl⟩ := Array.getElem?_eq_some_iff.1 ho; simp)
        have hdo : o.dst = some (ds i) := by have := hl i him; simpa [dstOf, ho] using this
        refine front_wp hR hg ho hoo hdo hc' fun a' w' L' hR' => ih (by simpa using hs) ?_ (by
          rw [← layD_put hdist him hi2 (Ls' := fun j => (listed.setIfInBounds i true).getD j false)] at hR'
          · exact hR'
          · intro j
            simp only [Array.getD_eq_getD_getElem?, Array.getElem?_setIfInBounds]
            by_cases e : i = j
            · subst e; simp [hs, hi1]
            · have : ¬ j = i := fun h => e h.symm
              simp [e, this]) ?_
        · intro j hj hjn
          rw [Array.getD_eq_getD_getElem?, Array.getElem?_setIfInBounds]
          have : ¬ i = j := by omega
          rw [if_neg this, ← Array.getD_eq_getD_getElem?]
          exact h1 j hj hjn
        · have : ((List.range ops.size).countP fun j => !(listed.setIfInBounds i true).getD j false) < ((List.range ops.size).countP fun j => !listed.getD j false) := by
            refine countP_lt _ (fun j _ hq => ?_) ⟨i, by simpa using hi1, by simp only [hi2]; rfl, ?_⟩
            · by_cases e : i = j
              · subst e; simp [Array.getD_eq_getD_getElem?, hs, hi1] at hq
              · simpa [Array.getD_eq_getD_getElem?, Array.getElem?_setIfInBounds, e] using hq
            · simp [Array.getD_eq_getD_getElem?, hs, hi1]
          omega
end
end Go.Mv
