/-
  A part of a theory of trees by which the functions of the program are walked: it proves no statement of the seat by itself; no conditions.
-/
import Derived.Test.YtdkjhbbddlognaaMvRun
import Derived.Test.YtdkjhbbddlognaaMvDraw7
namespace Go.Mv
set_option linter.unusedVariables false
set_option linter.unusedSimpArgs false

section
variable {P : Program} {Γ : Env} {σ : St} {Q : QS} {S : Nat → Bool} {ops : Array Oper} {K : St → Prop}

theorem kills_bver : ∀ (ds : List Nat) (σ : St), (σ.kills ds).bver = σ.bver
  | [], σ => rfl
  | d :: ds, σ => by simp only [St.kills]; rw [kills_bver ds]; rfl
theorem kills_ep : ∀ (ds : List Nat) (σ : St), (σ.kills ds).ep = σ.ep
  | [], σ => rfl
  | d :: ds, σ => by simp only [St.kills]; rw [kills_ep ds]; rfl
theorem kills_arg : ∀ (ds : List Nat) (σ : St), (σ.kills ds).arg = σ.arg
  | [], σ => rfl
  | d :: ds, σ => by simp only [St.kills]; rw [kills_arg ds]; rfl
theorem kills_ver_cell : ∀ (ds : List Nat) (σ : St) (b j : Nat), (σ.kills ds).ver (.cell b j) = σ.ver (.cell b j) ∧ (σ.kills ds).nver (.cell b j) = σ.nver (.cell b j)
  | [], σ, b, j => ⟨rfl, rfl⟩
  | d :: ds, σ, b, j => by simp only [St.kills]; have := kills_ver_cell ds (σ.kill d) b j; rw [this.1, this.2]; simp [St.kill, St.put]
theorem kills_ver_arg : ∀ (ds : List Nat) (σ : St) (b j : Nat), (σ.kills ds).ver (.arg b j) = σ.ver (.arg b j) ∧ (σ.kills ds).nver (.arg b j) = σ.nver (.arg b j)
  | [], σ, b, j => ⟨rfl, rfl⟩
  | d :: ds, σ, b, j => by simp only [St.kills]; have := kills_ver_arg ds (σ.kill d) b j; rw [this.1, this.2]; simp [St.kill, St.put]
theorem kills_ver_slot : ∀ (ds : List Nat) (σ : St) (t : Nat), (t ∈ ds) = False → (σ.kills ds).ver (.slot t) = σ.ver (.slot t) ∧ (σ.kills ds).nver (.slot t) = σ.nver (.slot t)
  | [], σ, t, _ => ⟨rfl, rfl⟩
  | d :: ds, σ, t, h => by
    have h1 : ¬ t = d ∧ t ∉ ds := by simpa using h
    simp only [St.kills]
    have := kills_ver_slot ds (σ.kill d) t (by simpa using h1.2)
    rw [this.1, this.2]
    simp [St.kill, St.put, h1.1]
theorem kv1 (ds : List Nat) (σ : St) (b j : Nat) : (σ.kills ds).ver (.cell b j) = σ.ver (.cell b j) := (kills_ver_cell ds σ b j).1
theorem kv2 (ds : List Nat) (σ : St) (b j : Nat) : (σ.kills ds).nver (.cell b j) = σ.nver (.cell b j) := (kills_ver_cell ds σ b j).2
theorem kv3 (ds : List Nat) (σ : St) (b j : Nat) : (σ.kills ds).ver (.arg b j) = σ.ver (.arg b j) := (kills_ver_arg ds σ b j).1
theorem kv4 (ds : List Nat) (σ : St) (b j : Nat) : (σ.kills ds).nver (.arg b j) = σ.nver (.arg b j) := (kills_ver_arg ds σ b j).2
theorem kv5 (ds : List Nat) (σ : St) (t : Nat) (h : (t ∈ ds) = False) : (σ.kills ds).ver (.slot t) = σ.ver (.slot t) := (kills_ver_slot ds σ t h).1
theorem kv6 (ds : List Nat) (σ : St) (t : Nat) (h : (t ∈ ds) = False) : (σ.kills ds).nver (.slot t) = σ.nver (.slot t) := (kills_ver_slot ds σ t h).2
theorem ks1 (ds : List Nat) (σ : St) (t : Nat) (h : (t ∈ ds) = False) : (σ.kills ds).slot t = σ.slot t := by
  have h1 : t ∉ ds := by simpa using h
  rw [kills_slot, if_neg h1]
theorem ks2 (ds : List Nat) (σ : St) (t : Nat) (h : (t ∈ ds) = True) : (σ.kills ds).slot t = .dead := by
  have h1 : t ∈ ds := by simpa using h
  rw [kills_slot, if_pos h1]
attribute [simp] kills_box kills_bver kills_ep kills_arg kv1 kv2 kv3 kv4 kv5 kv6 ks1 ks2
theorem wrest_eq : ∀ (l : List Oper), wfront.wrest P Γ ops K l = wrun P Γ ops K l
  | [] => by funext σ; rfl
  | o :: os => by funext σ; simp only [wfront.wrest, wrun]; rw [wrest_eq os]

theorem WT_draw {id : Nat} {l : List Oper} (dl : List Nat) (hd : okDraw l.toArray = true) (hds : (l.take (frontLen l)).filterMap (·.dst) = dl) (h : wfront P Γ (frontS l.toArray) l.toArray (Q .normal) l (σ.kills dl)) :
    WT P Γ (wdraw P Γ) (.region id l.toArray true) Q σ := by
  subst hds
  exact ⟨hd, h⟩
theorem wfront_cons {o : Oper} {os : List Oper} {d : Nat} (hf : frontOp o = true) (hd : o.dst = some d) (hr : rootless S σ o.op) (h : ∀ K' : SV → Prop, (∀ s, wfront P Γ S ops K os (σ.put d s) → K' s) → wgcalm P Γ ops o σ K') : wfront P Γ S ops K (o :: os) σ := by
  simp only [wfront]
  rw [if_pos hf]
  refine ⟨hr, h _ fun s hs => ?_⟩
  rw [hd]; exact hs
theorem wfront_consN {o : Oper} {os : List Oper} {d : Nat} (hf : frontOp o = true) (hd : o.dst = some d) (hg : o.guard = none) (hr : rootless S σ o.op)
    (h : ∀ K' : SV → Prop, (∀ s, wfront P Γ S ops K os (σ.put d s) → K' s) → wcalm P Γ false o.op o.type σ K') : wfront P Γ S ops K (o :: os) σ :=
  wfront_cons hf hd hr fun K' hK' => by
    have := h K' hK'
    simp only [wgcalm, hg]; exact this
theorem wfront_consG {o : Oper} {os : List Oper} {d j e : Nat} {want : Bool} (hf : frontOp o = true) (hd : o.dst = some d) (hg : o.guard = some (j, want)) (he : dstOf ops j = some e) (hr : rootless S σ o.op)
    (h : ∀ K' : SV → Prop, (∀ s, wfront P Γ S ops K os (σ.put d s) → K' s) → guarded (σ.slot e) want (wcalm P Γ false o.op o.type σ K') (K' (.tup []))) : wfront P Γ S ops K (o :: os) σ :=
  wfront_cons hf hd hr fun K' hK' => by
    have := h K' hK'
    simp only [wgcalm, hg, he]
    unfold guarded at this
    exact this
/-- what is no move and no index of a slot asks nothing -/
def rootsAsk : Op → Option Nat
  | .move (.tmp t) => some t
  | .indexAddr _ (.tmp t) _ => some t
  | _ => none
theorem rootless_none {op : Op} (h : rootsAsk op = none) : rootless S σ op := by
  unfold rootsAsk at h
  split at h
  · cases h
  · cases h
  · rename_i h1 h2
    unfold rootless
    split
    · rename_i t; exact absurd rfl (h1 t)
    · rename_i T t i; exact absurd rfl (h2 T t i)
    · trivial
theorem rootless_out {op : Op} {t : Nat} (h : rootsAsk op = some t) (hs : S t = false) : rootless S σ op := by
  unfold rootless
  split
  · simp [rootsAsk] at h; subst h; exact .inl hs
  · simp [rootsAsk] at h; subst h; exact .inl hs
  · trivial
theorem rootless_in {op : Op} {t : Nat} (h : rootsAsk op = some t) (hs : isOwn (σ.slot t) = false) : rootless S σ op := by
  unfold rootless
  split
  · simp [rootsAsk] at h; subst h; exact .inr hs
  · simp [rootsAsk] at h; subst h; exact .inr hs
  · trivial
theorem wfront_tail {o : Oper} {os : List Oper} (hf : frontOp o = false) (h : wrun P Γ ops K (o :: os) σ) : wfront P Γ S ops K (o :: os) σ := by
  simp only [wfront]
  rw [if_neg (by simp [hf]), wrest_eq]; exact h
theorem wfront_nil (h : K σ) : wfront P Γ S ops K [] σ := h
end
end Go.Mv
