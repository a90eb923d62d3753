/-
  A part of a theory of trees by which the functions of the program are walked: it proves no statement of the seat by itself; no conditions.
-/
import Derived.Test.YtdkjhbbddlognaaMvSim
namespace Go.Mv
set_option linter.unusedVariables false
set_option linter.unusedSimpArgs false

section
variable {S : Nat → Bool} {σ σ' : St} {P : Program} {Γ : Env}

theorem cell_root {b j : Nat} : rootOK S (.cell b j) := fun d e => by cases e
theorem viewSV_sim (h : Sim S σ σ') (b j : Nat) (s : SV) : viewSV σ' b j s = viewSV σ b j s := by
  unfold viewSV
  split
  · rw [h.ver _ cell_root]
  · rfl
theorem viewSVs_sim (h : Sim S σ σ') (b : Nat) : ∀ (ss : List SV) (j : Nat), viewSVs σ' b j ss = viewSVs σ b j ss
  | [], _ => rfl
  | s :: ss, j => by simp only [viewSVs, viewSV_sim h, viewSVs_sim h b ss]
theorem viewT_sim (h : Sim S σ σ') {r : Root} (hr : rootOK S r) (i j : Nat) (t : Tr) : viewT σ' r i j t = viewT σ r i j t := by
  unfold viewT
  split
  · rw [h.nver r hr, h.ep]
  · rfl
theorem viewTs_sim (h : Sim S σ σ') {r : Root} (hr : rootOK S r) (i : Nat) : ∀ (ts : List Tr) (j : Nat), viewTs σ' r i j ts = viewTs σ r i j ts
  | [], _ => rfl
  | t :: ts, j => by simp only [viewTs, viewT_sim h hr, viewTs_sim h hr i ts]
theorem stale_view {b j : Nat} {s : SV} (hs : stale S σ s) : stale S σ (viewSV σ b j s) := by
  unfold viewSV
  split
  · trivial
  · exact hs
theorem staleL_views {b : Nat} : ∀ {ss : List SV} {j : Nat}, staleL S σ ss → staleL S σ (viewSVs σ b j ss)
  | [], _, _ => trivial
  | s :: ss, j, h => ⟨stale_view h.1, staleL_views h.2⟩
theorem stale_viewT {r : Root} (hr : rootOK S r) {i j : Nat} {t : Tr} : stale S σ (viewT σ r i j t) := by
  unfold viewT
  split
  · exact stale_nst hr
  · trivial
theorem staleL_viewTs {r : Root} (hr : rootOK S r) {i : Nat} : ∀ {ts : List Tr} {j : Nat}, staleL S σ (viewTs σ r i j ts)
  | [], _ => trivial
  | t :: ts, j => ⟨stale_viewT hr, staleL_viewTs hr⟩
theorem staleL_get : ∀ {ss : List SV} {i : Nat} {s : SV}, staleL S σ ss → ss[i]? = some s → stale S σ s
  | [], i, s, _, h => by simp at h
  | s0 :: ss, i, s, hs, h => by
    cases i with
    | zero => simp at h; subst h; exact hs.1
    | succ i => simp at h; exact staleL_get hs.2 h
theorem staleL_drop : ∀ {ss : List SV} {n : Nat}, staleL S σ ss → staleL S σ (ss.drop n)
  | ss, 0, h => by simpa using h
  | [], n + 1, h => by simp; exact h
  | s :: ss, n + 1, h => by simp; exact staleL_drop h.2
theorem staleL_take : ∀ {ss : List SV} {n : Nat}, staleL S σ ss → staleL S σ (ss.take n)
  | ss, 0, h => by simp; trivial
  | [], n + 1, h => by simp; exact h
  | s :: ss, n + 1, h => by simp; exact ⟨h.1, staleL_take h.2⟩
theorem stale_mkTr {e : Option Nat} {t : Tr} : stale S σ (mkTr e t) := by cases t <;> trivial
theorem staleL_mkTr {e : Option Nat} : ∀ {ts : List Tr}, staleL S σ (ts.map (mkTr e))
  | [] => trivial
  | t :: ts => ⟨stale_mkTr, staleL_mkTr⟩
theorem staleL_tr : ∀ {ts : List Tr}, staleL S σ (ts.map (.tr none))
  | [] => trivial
  | t :: ts => ⟨trivial, staleL_tr⟩
theorem stale_ofTr {t : Tr} : stale S σ (ofTr t) := by
  cases t <;> try trivial
  simp only [ofTr, stale]; exact staleL_tr
theorem staleL_ofTr : ∀ {ts : List Tr}, staleL S σ (ts.map ofTr)
  | [] => trivial
  | t :: ts => ⟨stale_ofTr, staleL_ofTr⟩
theorem stale_res {ts : List Tr} : stale S σ (resSV ts) := by
  match ts with
  | [] => simp only [resSV, stale]; exact staleL_ofTr
  | [t] => exact stale_ofTr
  | t :: u :: ts => simp only [resSV, stale]; exact staleL_ofTr

theorem sim_move (h : Sim S σ σ') {x : Operand} {T0 : TypeId} (hx : ∀ t, x = .tmp t → σ'.slot t = σ.slot t) (hr : rootless S σ (.move x)) {K : SV → Prop} (hc : wcalm P Γ false (.move x) T0 σ K) :
    ∃ s, K s ∧ stale S σ s ∧ wcalm P Γ false (.move x) T0 σ' (fun s' => s' = s) := by
  cases x with
  | tmp t =>
    have hxt := hx t rfl
    simp only [wcalm] at hc ⊢
    split at hc
    · rename_i sz rows hs
      have hS : S t = false := by
        rcases hr with hr | hr
        · exact hr
        · rw [hs] at hr; simp [isOwn] at hr
      have hro : rootOK S (.slot t) := fun d e => by cases e; exact hS
      refine ⟨_, hc, stale_root hro, ?_⟩
      rw [hxt, hs]
      simp only [h.ver _ hro]
    · rename_i hne
      refine ⟨_, hc.2, h.st t, ?_⟩
      rw [hxt]
      split
      · rename_i sz rows hs; exact absurd hs (hne sz rows)
      · exact ⟨hc.1, rfl⟩
  | const v => simp only [wcalm] at hc ⊢; exact ⟨_, hc, h.stv T0 (.const v), rfl⟩
  | func f => simp only [wcalm] at hc ⊢; exact ⟨_, hc, h.stv T0 (.func f), rfl⟩
  | global g => simp only [wcalm] at hc ⊢; exact ⟨_, hc, h.stv T0 (.global g), rfl⟩

theorem sim_pick (h : Sim S σ σ') {c x y : Operand} {T0 : TypeId} (hx : ∀ t, .tmp t ∈ (Op.pick c x y).operands → σ'.slot t = σ.slot t) {K : SV → Prop} (hc : wcalm P Γ false (.pick c x y) T0 σ K) :
    ∃ s, K s ∧ stale S σ s ∧ wcalm P Γ false (.pick c x y) T0 σ' (fun s' => s' = s) := by
  have e1 : ∀ T, σ'.val P T c = σ.val P T c := fun T => h.val fun t e => hx t (by simp [Op.operands, e])
  have e2 : ∀ T, σ'.val P T x = σ.val P T x := fun T => h.val fun t e => hx t (by simp [Op.operands, e])
  have e3 : ∀ T, σ'.val P T y = σ.val P T y := fun T => h.val fun t e => hx t (by simp [Op.operands, e])
  simp only [wcalm, e1, e2, e3] at hc ⊢
  split at hc
  · rename_i b hb
    obtain ⟨h1, h2, h3, h4⟩ := hc
    cases b with
    | true => exact ⟨_, h3 rfl, h.stv T0 x, h1, h2, ⟨fun _ => rfl, fun e => by simp at e⟩⟩
    | false => exact ⟨_, h4 rfl, h.stv T0 y, h1, h2, ⟨fun e => by simp at e, fun _ => rfl⟩⟩
  · exact hc.elim

theorem sim_load (h : Sim S σ σ') {T : TypeId} {x : Operand} {T0 : TypeId} (hx : ∀ t, x = .tmp t → σ'.slot t = σ.slot t) {K : SV → Prop} (hc : wcalm P Γ false (.load T x) T0 σ K) :
    ∃ s, K s ∧ stale S σ s ∧ wcalm P Γ false (.load T x) T0 σ' (fun s' => s' = s) := by
  have e1 : ∀ T, σ'.val P T x = σ.val P T x := fun T => h.val hx
  simp only [wcalm, e1, h.bver, h.box, h.ep] at hc ⊢
  obtain ⟨hu, hc⟩ := hc
  have hst := h.stv (P := P) T x
  split at hc
  · rename_i b v off hs
    obtain ⟨hv, cs, hb, hl, hc⟩ := hc
    have hcs := h.bx b cs hb
    split at hc
    · rename_i hag
      exact ⟨_, hc.2, by simp only [stale]; exact staleL_views (staleL_take (staleL_drop hcs)), hu, hv, cs, hb, hl, by rw [if_pos hag, viewSVs_sim h]; exact ⟨hc.1, rfl⟩⟩
    · rename_i hag
      obtain ⟨h1, s, hs', h2, hk⟩ := hc
      exact ⟨_, hk, stale_view (staleL_get hcs hs'), hu, hv, cs, hb, hl, by rw [if_neg hag]; exact ⟨h1, s, hs', by rw [viewSV_sim h]; exact ⟨h2, rfl⟩⟩⟩
  · rename_i r v i j hs
    obtain ⟨hv, c, hcn, row, hrow, hl, hc⟩ := hc
    rw [hs] at hst
    have hro := pr_root hst hv
    split at hc
    · rename_i hag
      exact ⟨_, hc.2, by simp only [stale]; exact staleL_viewTs hro, hu, by rw [h.ver r hro]; exact hv, c, by rw [h.content hro]; exact hcn, row, hrow, hl, by rw [if_pos hag, viewTs_sim h hro]; exact ⟨hc.1, rfl⟩⟩
    · rename_i hag
      obtain ⟨h1, t, ht, h2, hk⟩ := hc
      exact ⟨_, hk, stale_viewT hro, hu, by rw [h.ver r hro]; exact hv, c, by rw [h.content hro]; exact hcn, row, hrow, hl, by rw [if_neg hag]; exact ⟨h1, t, ht, by rw [viewT_sim h hro]; exact ⟨h2, rfl⟩⟩⟩
  · rename_i e row j hs
    obtain ⟨he, hl, hc⟩ := hc
    split at hc
    · rename_i hag
      exact ⟨_, hc.2, by simp only [stale]; exact staleL_mkTr, hu, he, hl, by rw [if_pos hag]; exact ⟨hc.1, rfl⟩⟩
    · rename_i hag
      obtain ⟨h1, t, ht, h2, hk⟩ := hc
      exact ⟨_, hk, stale_mkTr, hu, he, hl, by rw [if_neg hag]; exact ⟨h1, t, ht, h2, rfl⟩⟩
  · exact hc.elim

theorem sim_nilCheck (h : Sim S σ σ') {x : Operand} {T0 : TypeId} (hx : ∀ t, x = .tmp t → σ'.slot t = σ.slot t) {K : SV → Prop} (hc : wcalm P Γ false (.nilCheck x) T0 σ K) :
    ∃ s, K s ∧ stale S σ s ∧ wcalm P Γ false (.nilCheck x) T0 σ' (fun s' => s' = s) := by
  have e1 : ∀ T, σ'.val P T x = σ.val P T x := fun T => h.val hx
  simp only [wcalm, e1, h.bver, h.ep] at hc ⊢
  have hst := h.stv (P := P) T0 x
  split at hc
  · exact ⟨_, hc.2, trivial, hc.1, rfl⟩
  · rename_i r v i j hs
    rw [hs] at hst
    have hro := pr_root hst hc.1
    exact ⟨_, hc.2, stale_pr hro, by rw [h.ver _ hro]; exact hc.1, rfl⟩
  · exact ⟨_, hc.2, trivial, hc.1, rfl⟩
  · exact ⟨_, hc.2, trivial, hc.1, rfl⟩
  · exact hc.elim

theorem sim_makeSlice (h : Sim S σ σ') {T : TypeId} {l c : Operand} {T0 : TypeId} (hx : ∀ t, .tmp t ∈ (Op.makeSlice T l c).operands → σ'.slot t = σ.slot t) {K : SV → Prop} (hc : wcalm P Γ false (.makeSlice T l c) T0 σ K) :
    ∃ s, K s ∧ stale S σ s ∧ wcalm P Γ false (.makeSlice T l c) T0 σ' (fun s' => s' = s) := by
  have e1 : ∀ T, σ'.val P T l = σ.val P T l := fun T => h.val fun t e => hx t (by simp [Op.operands, e])
  have e2 : ∀ T, σ'.val P T c = σ.val P T c := fun T => h.val fun t e => hx t (by simp [Op.operands, e])
  simp only [wcalm, e1, e2] at hc ⊢
  split at hc
  · obtain ⟨z, h1, h2, h3, h4, h5, h6⟩ := hc
    exact ⟨_, h6, trivial, z, h1, h2, h3, h4, h5, rfl⟩
  · exact hc.elim

theorem sim_index (h : Sim S σ σ') {T : TypeId} {x i : Operand} {T0 : TypeId} (hx : ∀ t, .tmp t ∈ (Op.index T x i).operands → σ'.slot t = σ.slot t) {K : SV → Prop} (hc : wcalm P Γ false (.index T x i) T0 σ K) :
    ∃ s, K s ∧ stale S σ s ∧ wcalm P Γ false (.index T x i) T0 σ' (fun s' => s' = s) := by
  have e1 : ∀ T, σ'.val P T x = σ.val P T x := fun T => h.val fun t e => hx t (by simp [Op.operands, e])
  have e2 : ∀ T, σ'.val P T i = σ.val P T i := fun T => h.val fun t e => hx t (by simp [Op.operands, e])
  simp only [wcalm, e1, e2] at hc ⊢
  split at hc
  · exact ⟨_, hc.2.2.2, trivial, hc.1, hc.2.1, hc.2.2.1, rfl⟩
  · exact hc.elim

theorem sim_fieldAddr (h : Sim S σ σ') {T : TypeId} {x : Operand} {f : Nat} {T0 : TypeId} (hx : ∀ t, x = .tmp t → σ'.slot t = σ.slot t) {K : SV → Prop} (hc : wcalm P Γ false (.fieldAddr T x f) T0 σ K) :
    ∃ s, K s ∧ stale S σ s ∧ wcalm P Γ false (.fieldAddr T x f) T0 σ' (fun s' => s' = s) := by
  have e1 : ∀ T, σ'.val P T x = σ.val P T x := fun T => h.val hx
  simp only [wcalm, e1, h.bver, h.ep] at hc ⊢
  have hst := h.stv (P := P) T x
  split at hc
  · split at hc
    · exact ⟨_, hc.2, trivial, hc.1, rfl⟩
    · rename_i r v i j hs
      rw [hs] at hst
      have hro := pr_root hst hc.1
      exact ⟨_, hc.2, stale_pr hro, by rw [h.ver _ hro]; exact hc.1, rfl⟩
    · exact ⟨_, hc.2, trivial, hc.1, rfl⟩
    · exact hc.elim
  · exact hc.elim

theorem sim_field (h : Sim S σ σ') {T : TypeId} {x : Operand} {f : Nat} {T0 : TypeId} (hx : ∀ t, x = .tmp t → σ'.slot t = σ.slot t) {K : SV → Prop} (hc : wcalm P Γ false (.field T x f) T0 σ K) :
    ∃ s, K s ∧ stale S σ s ∧ wcalm P Γ false (.field T x f) T0 σ' (fun s' => s' = s) := by
  have e1 : ∀ T, σ'.val P T x = σ.val P T x := fun T => h.val hx
  simp only [wcalm, e1] at hc ⊢
  have hst := h.stv (P := P) T x
  split at hc
  · rename_i fo ft cs hf hs
    rw [hs] at hst
    simp only [stale] at hst
    obtain ⟨h1, h2, h3, hc⟩ := hc
    split at hc
    · rename_i hag
      exact ⟨_, hc, by simp only [stale]; exact staleL_take (staleL_drop hst), h1, h2, h3, by rw [if_pos hag]⟩
    · rename_i hag
      obtain ⟨s, hs', hk⟩ := hc
      exact ⟨_, hk, staleL_get hst hs', h1, h2, h3, by rw [if_neg hag]; exact ⟨s, hs', rfl⟩⟩
  · exact hc.elim

theorem sim_unOp (h : Sim S σ σ') {op : UnOp} {T : TypeId} {x : Operand} {T0 : TypeId} (hx : ∀ t, x = .tmp t → σ'.slot t = σ.slot t) {K : SV → Prop} (hc : wcalm P Γ false (.unOp op T x) T0 σ K) :
    ∃ s, K s ∧ stale S σ s ∧ wcalm P Γ false (.unOp op T x) T0 σ' (fun s' => s' = s) := by
  have e1 : ∀ T, σ'.val P T x = σ.val P T x := fun T => h.val hx
  simp only [wcalm, e1] at hc ⊢
  split at hc
  · exact ⟨_, hc, trivial, rfl⟩
  · exact ⟨_, hc, trivial, rfl⟩
  · exact hc.elim

theorem sim_convert (h : Sim S σ σ') {s d : TypeId} {x : Operand} {T0 : TypeId} (hx : ∀ t, x = .tmp t → σ'.slot t = σ.slot t) {K : SV → Prop} (hc : wcalm P Γ false (.convert s d x) T0 σ K) :
    ∃ s', K s' ∧ stale S σ s' ∧ wcalm P Γ false (.convert s d x) T0 σ' (fun s'' => s'' = s') := by
  have e1 : ∀ T, σ'.val P T x = σ.val P T x := fun T => h.val hx
  simp only [wcalm, e1] at hc ⊢
  split at hc
  · exact ⟨_, hc.2, trivial, hc.1, rfl⟩
  · exact ⟨_, hc.2, trivial, hc.1, rfl⟩
  · exact hc.elim
end
end Go.Mv
