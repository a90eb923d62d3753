/-
  A part of a theory of trees by which the functions of the program are walked: it proves no statement of the seat by itself; no conditions.
-/
import Derived.Test.YtdkjhbbddlognaaMvDraw
namespace Go.Mv
set_option linter.unusedVariables false
set_option linter.unusedSimpArgs false

section
variable {S : Nat → Bool} {σ σ' : St} {P : Program} {Γ : Env}

theorem Stl.sim (h : Stl S σ) : Sim S σ σ :=
  { slotN := fun _ _ => rfl, box := rfl, arg := rfl, bver := rfl, ep := rfl, ver := fun _ _ => rfl, nver := fun _ _ => rfl, st := h.1, bx := h.2 }
theorem Stl.putO (h : Stl S σ) {d : Option Nat} {s : SV} (hs : stale S σ s) : Stl S (σ.putO d s) := by
  cases d with
  | none => exact h
  | some d => exact h.put hs

def putAll (σ : St) : List Oper → List SV → St
  | o :: os, s :: ss => putAll (σ.putO o.dst s) os ss
  | _, _ => σ

/-- the values of the front -/
theorem front_values {ops : Array Oper} {K : St → Prop} : ∀ (l : List Oper) {σ : St}, Stl S σ → wfront P Γ S ops K l σ →
    ∃ sv : List SV, sv.length = frontLen l ∧ wfront.wrest P Γ ops K (l.drop (frontLen l)) (putAll σ l sv) ∧
      ∀ (i : Nat) (o : Oper) (s : SV), i < frontLen l → l[i]? = some o → sv[i]? = some s →
        Stl S (putAll σ (l.take i) sv) ∧ rootless S (putAll σ (l.take i) sv) o.op ∧ wgcalm P Γ ops o (putAll σ (l.take i) sv) (fun s' => s' = s)
  | [], σ, hst, hw => ⟨[], rfl, by simpa [putAll, wfront, wfront.wrest] using hw, fun i o s hi => by simp [frontLen] at hi⟩
  | o :: os, σ, hst, hw => by
    simp only [wfront] at hw
    by_cases hf : frontOp o = true
    · rw [if_pos hf] at hw
      obtain ⟨hr, hw⟩ := hw
      obtain ⟨s, hk, hs, hc⟩ := wgcalm_sim hst.sim (fun _ _ => rfl) (fun _ _ _ _ _ => rfl) hr hw
      obtain ⟨sv, h1, h2, h3⟩ := front_values os (hst.putO hs) hk
      refine ⟨s :: sv, by simp [frontLen, hf, h1], by simpa [frontLen, hf, putAll] using h2, fun i o' s' hi ho hs' => ?_⟩
      cases i with
      | zero =>
        simp at ho hs'; subst ho; subst hs'
        simp only [List.take_zero, putAll]
        exact ⟨hst, hr, hc⟩
      | succ i =>
        simp at ho hs'
        simp only [frontLen, hf, if_true] at hi
        simpa [putAll] using h3 i o' s' (by omega) ho hs'
    · rw [if_neg hf] at hw
      refine ⟨[], by simp [frontLen, hf], by simpa [frontLen, hf, putAll] using hw, fun i o' s' hi => by simp [frontLen, hf] at hi⟩

theorem St_ext {a b : St} (h1 : a.slot = b.slot) (h2 : a.box = b.box) (h2' : a.arg = b.arg) (h3 : a.ver = b.ver) (h4 : a.nver = b.nver) (h5 : a.bver = b.bver) (h6 : a.ep = b.ep) : a = b := by
  cases a; cases b; simp_all

open Classical in
/-- the state in which those of the front that are listed are put -/
noncomputable def layD (σ0 : St) (m : Nat) (ds : Nat → Nat) (sv : Nat → SV) (Ls : Nat → Bool) : St :=
  { σ0 with
    slot := fun t => if h : ∃ i, i < m ∧ Ls i = true ∧ ds i = t then sv (Classical.choose h) else σ0.slot t
    ver := fun r => match r with | .slot t => σ0.ver (.slot t) + (if ∃ i, i < m ∧ Ls i = true ∧ ds i = t then 1 else 0) | r => σ0.ver r
    nver := fun r => match r with | .slot t => σ0.nver (.slot t) + (if ∃ i, i < m ∧ Ls i = true ∧ ds i = t then 1 else 0) | r => σ0.nver r }

variable {σ0 : St} {m : Nat} {ds : Nat → Nat} {sv : Nat → SV} {Ls : Nat → Bool}

theorem layD_slot (hd : ∀ i j, i < m → j < m → ds i = ds j → i = j) {i : Nat} (hi : i < m) (hl : Ls i = true) : (layD σ0 m ds sv Ls).slot (ds i) = sv i := by
  have h : ∃ j, j < m ∧ Ls j = true ∧ ds j = ds i := ⟨i, hi, hl, rfl⟩
  simp only [layD]
  rw [dif_pos h]
  have hc := Classical.choose_spec h
  rw [hd _ _ hc.1 hi hc.2.2]

theorem layD_else {t : Nat} (h : ∀ i, i < m → Ls i = true → ds i ≠ t) : (layD σ0 m ds sv Ls).slot t = σ0.slot t := by
  simp only [layD]
  rw [dif_neg]
  rintro ⟨i, h1, h2, h3⟩
  exact h i h1 h2 h3

theorem layD_none (h : ∀ i, i < m → Ls i = false) : layD σ0 m ds sv Ls = σ0 := by
  have hno : ∀ t, ¬ ∃ i, i < m ∧ Ls i = true ∧ ds i = t := by
    rintro t ⟨i, h1, h2, h3⟩
    rw [h i h1] at h2; cases h2
  cases σ0
  simp only [layD, St.mk.injEq]
  refine ⟨funext fun t => by rw [dif_neg (hno t)], trivial, trivial, funext fun r => ?_, funext fun r => ?_, trivial, trivial⟩
  · cases r <;> simp [hno]
  · cases r <;> simp [hno]

theorem layD_put (hd : ∀ i j, i < m → j < m → ds i = ds j → i = j) {i : Nat} (hi : i < m) (hl : Ls i = false) {Ls' : Nat → Bool} (hL : ∀ j, Ls' j = (Ls j || decide (j = i))) :
    layD σ0 m ds sv Ls' = (layD σ0 m ds sv Ls).put (ds i) (sv i) := by
  have hit : ∀ t, (∃ j, j < m ∧ Ls' j = true ∧ ds j = t) ↔ (t = ds i ∨ ∃ j, j < m ∧ Ls j = true ∧ ds j = t) := by
    intro t
    constructor
    · rintro ⟨j, h1, h2, h3⟩
      rw [hL j] at h2
      simp at h2
      rcases h2 with h2 | h2
      · exact .inr ⟨j, h1, h2, h3⟩
      · subst h2; exact .inl h3.symm
    · rintro (h | ⟨j, h1, h2, h3⟩)
      · exact ⟨i, hi, by rw [hL]; simp, h.symm⟩
      · exact ⟨j, h1, by rw [hL, h2]; rfl, h3⟩
  have hnot : ¬ ∃ j, j < m ∧ Ls j = true ∧ ds j = ds i := by
    rintro ⟨j, h1, h2, h3⟩
    have := hd j i h1 hi h3
    subst this
    rw [hl] at h2; cases h2
  have e1 : (layD σ0 m ds sv Ls').slot = fun t => if t = ds i then sv i else (layD σ0 m ds sv Ls).slot t := by
    funext t
    by_cases e : t = ds i
    · rw [if_pos e, e]; exact layD_slot hd hi (by rw [hL]; simp)
    · rw [if_neg e]
      by_cases h : ∃ j, j < m ∧ Ls j = true ∧ ds j = t
      · obtain ⟨j, h1, h2, rfl⟩ := h
        rw [layD_slot hd h1 h2, layD_slot hd h1 (by rw [hL, h2]; rfl)]
      · rw [layD_else (fun j h1 h2 h3 => h ⟨j, h1, h2, h3⟩), layD_else (fun j h1 h2 h3 => by
          have := (hit t).1 ⟨j, h1, h2, h3⟩
          exact this.elim e h)]
  have e2 : ∀ (f : Root → Nat) (r : Root), (match r with | .slot t => f (.slot t) + (if ∃ j, j < m ∧ Ls' j = true ∧ ds j = t then 1 else 0) | r => f r) =
      if r = .slot (ds i) then (match r with | .slot t => f (.slot t) + (if ∃ j, j < m ∧ Ls j = true ∧ ds j = t then 1 else 0) | r => f r) + 1
      else (match r with | .slot t => f (.slot t) + (if ∃ j, j < m ∧ Ls j = true ∧ ds j = t then 1 else 0) | r => f r) := by
    intro f r
    cases r with
    | cell b j => simp
    | arg i j => simp
    | slot t =>
      by_cases e : t = ds i
      · subst e
        simp only [if_true, if_neg hnot, if_pos ((hit (ds i)).2 (.inl rfl))]
      · have : ¬ Root.slot t = Root.slot (ds i) := by simp [e]
        rw [if_neg this]
        have : (∃ j, j < m ∧ Ls' j = true ∧ ds j = t) ↔ (∃ j, j < m ∧ Ls j = true ∧ ds j = t) := by rw [hit]; simp [e]
        simp only [this]
  exact St_ext e1 rfl rfl (funext fun r => e2 σ0.ver r) (funext fun r => e2 σ0.nver r) rfl rfl
end
end Go.Mv
