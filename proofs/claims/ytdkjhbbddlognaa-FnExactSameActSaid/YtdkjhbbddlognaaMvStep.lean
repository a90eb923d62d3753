/-
  A part of a theory of trees by which the functions of the program are walked: it proves no statement of the seat by itself; no conditions.
-/
import Derived.Test.YtdkjhbbddlognaaMvRun
import Derived.Test.YtdkjhbbddlognaaMvDraw7
namespace Go.Mv
set_option linter.unusedVariables false
set_option linter.unusedSimpArgs false

section
variable {P : Program} {Γ : Env} {σ : St} {Q : QS} {S : Nat → Bool} {ops : Array Oper} {K : St → Prop}

theorem wrest_eq : ∀ (l : List Oper), wfront.wrest P Γ ops K l = wrun P Γ ops K l
  | [] => by funext σ; rfl
  | o :: os => by funext σ; simp only [wfront.wrest, wrun]; rw [wrest_eq os]

theorem WT_draw {id : Nat} {l : List Oper} (dl : List Nat) (hd : okDraw l.toArray = true) (hds : (l.take (frontLen l)).filterMap (·.dst) = dl) (h : wfront P Γ (frontS l.toArray) l.toArray (Q .normal) l (σ.kills dl)) :
    WT P Γ (wdraw P Γ) (.region id l.toArray true) Q σ := by
  subst hds
  exact ⟨hd, h⟩
theorem wfront_cons {o : Oper} {os : List Oper} {d : Nat} (hf : frontOp o = true) (hd : o.dst = some d) (hr : rootless S σ o.op) (h : ∀ K' : SV → Prop, (∀ s, wfront P Γ S ops K os (σ.put d s) → K' s) → wgcalm P Γ ops o σ K') : wfront P Γ S ops K (o :: os) σ := by
  simp only [wfront]
  rw [if_pos hf]
  refine ⟨hr, h _ fun s hs => ?_⟩
  rw [hd]; exact hs
theorem wfront_tail {o : Oper} {os : List Oper} (hf : frontOp o = false) (h : wrun P Γ ops K (o :: os) σ) : wfront P Γ S ops K (o :: os) σ := by
  simp only [wfront]
  rw [if_neg (by simp [hf]), wrest_eq]; exact h
theorem wfront_nil (h : K σ) : wfront P Γ S ops K [] σ := h
end
end Go.Mv
