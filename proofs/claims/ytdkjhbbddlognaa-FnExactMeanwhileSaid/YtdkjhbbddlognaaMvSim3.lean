/-
  A part of a theory of trees by which the functions of the program are walked: it proves no statement of the seat by itself; no conditions.
-/
import Derived.Test.YtdkjhbbddlognaaMvSim2
namespace Go.Mv
set_option linter.unusedVariables false
set_option linter.unusedSimpArgs false

section
variable {S : Nat → Bool} {σ σ' : St} {P : Program} {Γ : Env}

theorem sim_indexAddr (h : Sim S σ σ') {T : TypeId} {x i : Operand} {T0 : TypeId} (hx : ∀ t, .tmp t ∈ (Op.indexAddr T x i).operands → σ'.slot t = σ.slot t) (hr : rootless S σ (.indexAddr T x i)) {K : SV → Prop} (hc : wcalm P Γ false (.indexAddr T x i) T0 σ K) :
    ∃ s, K s ∧ stale S σ s ∧ wcalm P Γ false (.indexAddr T x i) T0 σ' (fun s' => s' = s) := by
  have e1 : ∀ T, σ'.val P T x = σ.val P T x := fun T => h.val fun t e => hx t (by simp [Op.operands, e])
  have e2 : ∀ T, σ'.val P T i = σ.val P T i := fun T => h.val fun t e => hx t (by simp [Op.operands, e])
  simp only [wcalm, e1, e2, h.ep] at hc ⊢
  have hst := h.stv (P := P) T x
  split at hc
  · obtain ⟨h1, h2, hc⟩ := hc
    split at hc
    · rename_i r v off len hs
      rw [hs] at hst
      obtain ⟨h3, h4, c, h5, h6, h7⟩ := hc
      have hro := ref_root hst h3
      exact ⟨_, h7, stale_pr hro, h1, h2, by rw [h.ver _ hro]; exact h3, h4, c, by rw [h.content hro]; exact h5, h6, rfl⟩
    · rename_i sz rows hs
      split at hc
      · rename_i t
        have hS : S t = false := by
          rcases hr with hr | hr
          · exact hr
          · have : σ.slot t = .tr none (.sl true sz rows) := hs
            rw [this] at hr; simp [isOwn] at hr
        have hro : rootOK S (.slot t) := fun d e => by cases e; exact hS
        exact ⟨_, hc.2.2, stale_pr hro, h1, h2, hc.1, hc.2.1, by rw [h.ver _ hro]⟩
      · exact hc.elim
    · obtain ⟨h3, h4, row, h5, h6⟩ := hc
      exact ⟨_, h6, trivial, h1, h2, h3, h4, row, h5, rfl⟩
    · obtain ⟨h3, h4, row, h5, h6⟩ := hc
      exact ⟨_, h6, trivial, h1, h2, h3, h4, row, h5, rfl⟩
    · exact hc.elim
  · exact hc.elim

theorem wbound_sim (h : Sim S σ σ') {x : Option Operand} {d : Int} (hx : ∀ t, x = some (.tmp t) → σ'.slot t = σ.slot t) : wbound P σ' x d = wbound P σ x d := by
  cases x with
  | none => rfl
  | some y =>
    simp only [wbound]
    rw [h.val fun t e => hx t (by rw [e])]

theorem sim_slice (h : Sim S σ σ') {T : TypeId} {x : Operand} {lo hi mx : Option Operand} {T0 : TypeId} (hx : ∀ t, .tmp t ∈ (Op.slice T x lo hi mx).operands → σ'.slot t = σ.slot t) {K : SV → Prop} (hc : wcalm P Γ false (.slice T x lo hi mx) T0 σ K) :
    ∃ s, K s ∧ stale S σ s ∧ wcalm P Γ false (.slice T x lo hi mx) T0 σ' (fun s' => s' = s) := by
  have e1 : ∀ T, σ'.val P T x = σ.val P T x := fun T => h.val fun t e => hx t (by simp [Op.operands, e])
  have e2 : ∀ d, wbound P σ' lo d = wbound P σ lo d := fun d => wbound_sim h fun t e => hx t (by simp [Op.operands, e])
  have e3 : ∀ d, wbound P σ' hi d = wbound P σ hi d := fun d => wbound_sim h fun t e => hx t (by simp [Op.operands, e])
  have e4 : ∀ d, wbound P σ' mx d = wbound P σ mx d := fun d => wbound_sim h fun t e => hx t (by simp [Op.operands, e])
  simp only [wcalm, e1, e2, e3, e4, h.ep] at hc ⊢
  have hst := h.stv (P := P) T x
  split at hc
  · obtain ⟨h1, h2, hc⟩ := hc
    split at hc
    · exact ⟨_, hc.2.2.2, trivial, h1, h2, hc.1, hc.2.1, hc.2.2.1, rfl⟩
    · exact hc.elim
  · rename_i r v off len hs
    rw [hs] at hst
    split at hc
    · split at hc
      · obtain ⟨h1, h2, h3, h4, h5, h6, h7, ⟨c, h8, h9⟩, h10⟩ := hc
        have hro := ref_root hst h3
        exact ⟨_, h10, stale_root hro, h1, h2, by rw [h.ver _ hro]; exact h3, h4, h5, h6, h7, ⟨c, by rw [h.content hro]; exact h8, h9⟩, rfl⟩
      · exact hc.elim
    · exact hc.elim
  · obtain ⟨h0, hc⟩ := hc
    split at hc
    · obtain ⟨h1, h2, h3, h4, h5, h6, h7⟩ := hc
      exact ⟨_, h7, trivial, h0, h1, h2, h3, h4, h5, h6, rfl⟩
    · exact hc.elim
  · obtain ⟨h0, hc⟩ := hc
    split at hc
    · obtain ⟨h1, h2, h3, h4, h5, h6, h7⟩ := hc
      exact ⟨_, h7, trivial, h0, h1, h2, h3, h4, h5, h6, rfl⟩
    · exact hc.elim
  · exact hc.elim

theorem sim_binOp (h : Sim S σ σ') {op : BinOp} {T T2 : TypeId} {x y : Operand} {T0 : TypeId} (hx : ∀ t, .tmp t ∈ (Op.binOp op T x y T2).operands → σ'.slot t = σ.slot t) {K : SV → Prop} (hc : wcalm P Γ false (.binOp op T x y T2) T0 σ K) :
    ∃ s, K s ∧ stale S σ s ∧ wcalm P Γ false (.binOp op T x y T2) T0 σ' (fun s' => s' = s) := by
  have e1 : ∀ T, σ'.val P T x = σ.val P T x := fun T => h.val fun t e => hx t (by simp [Op.operands, e])
  have e2 : ∀ T, σ'.val P T y = σ.val P T y := fun T => h.val fun t e => hx t (by simp [Op.operands, e])
  simp only [wcalm, e1, e2] at hc ⊢
  split at hc
  · obtain ⟨h1, h2, hc⟩ := hc
    split at hc
    · exact ⟨_, hc, trivial, h1, h2, rfl⟩
    · exact hc.elim
  · obtain ⟨h1, hc⟩ := hc
    split at hc
    · exact ⟨_, hc, trivial, h1, rfl⟩
    · exact hc.elim
  · obtain ⟨h1, hc⟩ := hc
    split at hc
    · exact ⟨_, hc, trivial, h1, rfl⟩
    · exact ⟨_, hc, trivial, h1, rfl⟩
    · exact hc.elim
  · obtain ⟨h1, h2, hc⟩ := hc
    split at hc
    · exact ⟨_, hc, trivial, h1, h2, rfl⟩
    · exact ⟨_, hc, trivial, h1, h2, rfl⟩
    · exact hc.elim
  · obtain ⟨h1, h2, hc⟩ := hc
    split at hc
    · split at hc
      · split at hc
        · exact ⟨_, hc, trivial, h1, h2, rfl⟩
        · exact ⟨_, hc, trivial, h1, h2, rfl⟩
        · exact hc.elim
      · exact hc.elim
    · exact hc.elim
  · exact hc.elim
end
end Go.Mv
