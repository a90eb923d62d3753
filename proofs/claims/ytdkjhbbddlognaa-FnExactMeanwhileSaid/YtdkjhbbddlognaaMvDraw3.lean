/-
  A part of a theory of trees by which the functions of the program are walked: it proves no statement of the seat by itself; no conditions.
-/
import Derived.Test.YtdkjhbbddlognaaMvDraw2
namespace Go.Mv
set_option linter.unusedVariables false
set_option linter.unusedSimpArgs false

section
variable {w0 : World} {FA ok0 : Cells} {E : Ent} {N : Nat} {σ τ : St} {a : Act} {w : World} {L : Lay}
variable {S : Nat → Bool} {P : Program} {Γ : Env}

theorem Rel.kills : ∀ (ds : List Nat) {σ : St} {L : Lay}, Rel w0 FA ok0 E N σ a w L → (∀ d ∈ ds, d < N) → ∃ L', Rel w0 FA ok0 E N (σ.kills ds) a w L'
  | [], σ, L, h, _ => ⟨L, h⟩
  | d :: ds, σ, L, h, hd => by
    obtain ⟨L1, h1, _⟩ := h.takeH (hd d (by simp)) Hand.nil
    exact Rel.kills ds h1 (fun d' h' => hd d' (by simp [h']))

theorem kills_mono : ∀ (ds : List Nat) (σ : St) (r : Root), σ.ver r ≤ (σ.kills ds).ver r ∧ σ.nver r ≤ (σ.kills ds).nver r
  | [], σ, r => ⟨Nat.le_refl _, Nat.le_refl _⟩
  | d :: ds, σ, r => by
    have := kills_mono ds (σ.kill d) r
    exact ⟨Nat.le_trans (put_ver σ d .dead r) this.1, Nat.le_trans (put_nver σ d .dead r) this.2⟩

theorem kills_ver : ∀ (ds : List Nat) (σ : St) (d : Nat), d ∈ ds → σ.ver (.slot d) < (σ.kills ds).ver (.slot d) ∧ σ.nver (.slot d) < (σ.kills ds).nver (.slot d)
  | d0 :: ds, σ, d, h => by
    by_cases e : d = d0
    · subst e
      have := kills_mono ds (σ.kill d) (.slot d)
      have h1 : (σ.kill d).ver (.slot d) = σ.ver (.slot d) + 1 := by simp [St.kill, St.put]
      have h2 : (σ.kill d).nver (.slot d) = σ.nver (.slot d) + 1 := by simp [St.kill, St.put]
      simp only [St.kills]
      omega
    · have := kills_ver ds (σ.kill d0) d (by simpa [e] using h)
      have h1 := put_ver σ d0 .dead (.slot d)
      have h2 := put_nver σ d0 .dead (.slot d)
      simp only [St.kills]
      exact ⟨Nat.lt_of_le_of_lt h1 this.1, Nat.lt_of_le_of_lt h2 this.2⟩

theorem kills_slot : ∀ (ds : List Nat) (σ : St) (t : Nat), (σ.kills ds).slot t = if t ∈ ds then .dead else σ.slot t
  | [], σ, t => by simp [St.kills]
  | d :: ds, σ, t => by
    simp only [St.kills]
    rw [kills_slot ds]
    by_cases h : t ∈ ds
    · simp [h]
    · by_cases e : t = d
      · subst e; simp [h, St.kill, St.put]
      · simp [h, e, St.kill, St.put]

theorem kills_box : ∀ (ds : List Nat) (σ : St), (σ.kills ds).box = σ.box
  | [], σ => rfl
  | d :: ds, σ => by simp only [St.kills]; rw [kills_box ds]; rfl

mutual
theorem SRel.stale (hv : ∀ d, S d = true → σ.ver (.slot d) < τ.ver (.slot d) ∧ σ.nver (.slot d) < τ.nver (.slot d)) : ∀ {s : SV} {v : Value} {F : Cells}, SRel σ w L s v F → Mv.stale S τ s
  | _, _, _, .ref (r := r) h1 _ => by
    cases r with
    | slot d => exact fun hd => Nat.lt_of_le_of_lt h1 (hv d hd).1
    | cell b j => trivial
    | arg i j => trivial
  | _, _, _, .pr (r := r) h1 _ => by
    cases r with
    | slot d => exact fun hd => Nat.lt_of_le_of_lt h1 (hv d hd).1
    | cell b j => trivial
    | arg i j => trivial
  | _, _, _, .nst (r := r) _ _ h1 _ => by
    cases r with
    | slot d => exact fun hd => Nat.lt_of_le_of_lt h1 (hv d hd).2
    | cell b j => trivial
    | arg i j => trivial
  | _, _, _, .tr _ => trivial
  | _, _, _, .trE _ _ => trivial
  | _, _, _, .pc _ _ => trivial
  | _, _, _, .pv _ _ => trivial
  | _, _, _, .dead => trivial
  | _, _, _, .agg h => by simp only [Mv.stale]; exact SRelL.stale hv h
  | _, _, _, .tup h => by simp only [Mv.stale]; exact SRelL.stale hv h
theorem SRelL.stale (hv : ∀ d, S d = true → σ.ver (.slot d) < τ.ver (.slot d) ∧ σ.nver (.slot d) < τ.nver (.slot d)) : ∀ {ss : List SV} {vs : List Value} {F : Cells}, SRelL σ w L ss vs F → Mv.staleL S τ ss
  | _, _, _, .nil => trivial
  | _, _, _, .cons _ _ _ h4 h5 => ⟨SRel.stale hv h4, SRelL.stale hv h5⟩
end

theorem box_stale (h : Rel w0 FA ok0 E N σ a w L) (hv : ∀ d, S d = true → σ.ver (.slot d) < τ.ver (.slot d) ∧ σ.nver (.slot d) < τ.nver (.slot d)) {b : Nat} {cs : List SV} (hb : σ.box b = some cs) : staleL S τ cs := by
  have key : ∀ (l : List SV), (∀ s ∈ l, stale S τ s) → staleL S τ l := by
    intro l
    induction l with
    | nil => intro _; trivial
    | cons s l ih => intro hl; exact ⟨hl s (by simp), ih fun s' h' => hl s' (by simp [h'])⟩
  refine key cs fun s hs => ?_
  obtain ⟨j, hj⟩ := List.mem_iff_getElem?.1 hs
  obtain ⟨v, _, _, h3, _⟩ := (h.boxes b cs hb).2 j s hj
  exact h3.stale hv

theorem Rel.stl (h : Rel w0 FA ok0 E N σ a w L) {ds : List Nat} (hS : ∀ d, S d = true → d ∈ ds) : Stl S (σ.kills ds) := by
  have hv : ∀ d, S d = true → σ.ver (.slot d) < (σ.kills ds).ver (.slot d) ∧ σ.nver (.slot d) < (σ.kills ds).nver (.slot d) := fun d hd => kills_ver ds σ d (hS d hd)
  constructor
  · intro t
    rw [kills_slot]
    split
    · trivial
    · exact (h.slots t).stale hv
  · intro b cs hb
    rw [kills_box] at hb
    exact box_stale h hv hb

theorem putAll_snoc : ∀ (l : List Oper) (sv : List SV) (σ : St) (i : Nat) (o : Oper) (s : SV), l[i]? = some o → sv[i]? = some s → putAll σ (l.take (i + 1)) sv = (putAll σ (l.take i) sv).putO o.dst s
  | [], sv, σ, i, o, s, h, _ => by simp at h
  | o0 :: l, [], σ, i, o, s, _, h => by simp at h
  | o0 :: l, s0 :: sv, σ, i, o, s, h, h' => by
    cases i with
    | zero => simp at h h'; subst h; subst h'; simp [putAll]
    | succ i =>
      simp at h h'
      have := putAll_snoc l sv (σ.putO o0.dst s0) i o s h h'
      simpa [putAll] using this

theorem text_layD {l : List Oper} {svL : List SV} {σ0 : St} {m : Nat} {ds : Nat → Nat} {sv : Nat → SV} (hl : ∀ i, i < m → ∃ o, l[i]? = some o ∧ o.dst = some (ds i)) (hsv : ∀ i, i < m → svL[i]? = some (sv i))
    (hd : ∀ i j, i < m → j < m → ds i = ds j → i = j) : ∀ i, i ≤ m → putAll σ0 (l.take i) svL = layD σ0 m ds sv (fun j => decide (j < i))
  | 0, _ => by rw [layD_none (by simp)]; simp [putAll]
  | i + 1, hi => by
    obtain ⟨o, h1, h2⟩ := hl i (by omega)
    rw [putAll_snoc l svL σ0 i o (sv i) h1 (hsv i (by omega)), text_layD hl hsv hd i (by omega), h2]
    simp only [St.putO]
    exact (layD_put hd (by omega) (by simp) (fun j => by by_cases h : j < i <;> by_cases h' : j = i <;> simp [h, h'] <;> omega)).symm
end
end Go.Mv
