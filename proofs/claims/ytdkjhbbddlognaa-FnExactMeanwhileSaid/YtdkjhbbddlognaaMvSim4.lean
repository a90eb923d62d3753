/-
  A part of a theory of trees by which the functions of the program are walked: it proves no statement of the seat by itself; no conditions.
-/
import Derived.Test.YtdkjhbbddlognaaMvSim3
namespace Go.Mv
set_option linter.unusedVariables false
set_option linter.unusedSimpArgs false

section
variable {S : Nat → Bool} {σ σ' : St} {P : Program} {Γ : Env}

theorem Sim.stvL (h : Sim S σ σ') : ∀ (l : List (Operand × TypeId)), staleL S σ (l.map fun p => σ.val P p.2 p.1)
  | [] => trivial
  | p :: l => ⟨h.stv p.2 p.1, Sim.stvL h l⟩

theorem sim_makeFunc (h : Sim S σ σ') {fn : Fn} {first captured : Array Operand} {T0 : TypeId} (hx : ∀ t, .tmp t ∈ (Op.makeFunc fn first captured).operands → σ'.slot t = σ.slot t) {K : SV → Prop} (hc : wcalm P Γ false (.makeFunc fn first captured) T0 σ K) :
    ∃ s, K s ∧ stale S σ s ∧ wcalm P Γ false (.makeFunc fn first captured) T0 σ' (fun s' => s' = s) := by
  cases fn with
  | func f =>
    simp only [wcalm] at hc ⊢
    obtain ⟨h1, hc⟩ := hc
    have e : captured.toList.map (σ'.val P 0) = captured.toList.map (σ.val P 0) := by
      apply List.map_congr_left
      intro x hxm
      exact h.val fun t e => hx t (by simp only [Op.operands, Array.mem_append]; right; rw [← e]; exact Array.mem_toList_iff.1 hxm)
    rw [e]
    split at hc
    · rename_i ts hl
      have hst : staleL S σ (captured.toList.map (σ.val P 0)) := by
        have := h.stvL (P := P) (captured.toList.map fun x => (x, 0))
        rw [List.map_map] at this
        exact this
      refine ⟨_, hc, trivial, h1, ?_⟩
      rw [h.lendL hst hl]
    · exact hc.elim
  | _ => simp [wcalm] at hc

theorem args_sim (h : Sim S σ σ') {args : Array Operand} {ts : Array TypeId} (hx : ∀ t, .tmp t ∈ args → σ'.slot t = σ.slot t) :
    ((List.range args.size).map fun i => σ'.val P (ts.getD i 0) (args.getD i (.tmp 0))) = ((List.range args.size).map fun i => σ.val P (ts.getD i 0) (args.getD i (.tmp 0))) ∧
      staleL S σ ((List.range args.size).map fun i => σ.val P (ts.getD i 0) (args.getD i (.tmp 0))) := by
  constructor
  · apply List.map_congr_left
    intro i hi
    have hi' : i < args.size := by simpa using hi
    refine h.val fun t e => hx t ?_
    rw [← e, Array.getD_eq_getD_getElem?]
    simp [hi']
  · rw [argVals]
    exact h.stvL _

theorem wnum_sim (h : Sim S σ σ') {l : List Operand} (hx : ∀ t, .tmp t ∈ l → σ'.slot t = σ.slot t) : l.map (fun x => wnum (σ'.val P 0 x)) = l.map (fun x => wnum (σ.val P 0 x)) := by
  apply List.map_congr_left
  intro x hxm
  rw [h.val fun t e => hx t (by rw [← e]; exact hxm)]

theorem sim_call (h : Sim S σ σ') {c : Call} {T0 : TypeId} (hx : ∀ t, .tmp t ∈ (Op.call c).operands → σ'.slot t = σ.slot t) {K : SV → Prop} (hc : wcalm P Γ false (.call c) T0 σ K) :
    ∃ s, K s ∧ stale S σ s ∧ wcalm P Γ false (.call c) T0 σ' (fun s' => s' = s) := by
  obtain ⟨callee, args, ts⟩ := c
  have hxa : ∀ t, .tmp t ∈ args → σ'.slot t = σ.slot t := fun t ht => hx t (by simp only [Op.operands, Call.operands, Array.mem_append]; exact .inr ht)
  cases callee with
  | value x =>
    obtain ⟨e1, e2⟩ := args_sim (P := P) h (ts := ts) hxa
    cases x with
    | func f =>
      simp only [wcalm] at hc ⊢
      split at hc
      · rename_i F hF
        obtain ⟨h1, h2, hc⟩ := hc
        rw [e1]
        split at hc
        · rename_i us lent hl
          obtain ⟨h3, res, h4, h5⟩ := hc
          refine ⟨_, h5, stale_res, h1, h2, ?_⟩
          rw [h.lendL e2 hl]
          exact ⟨h3, res, h4, rfl⟩
        · exact hc.elim
      · exact hc.elim
    | tmp t =>
      have ht : σ'.slot t = σ.slot t := hx t (by simp [Op.operands, Call.operands])
      simp only [wcalm, ht] at hc ⊢
      split at hc
      · split at hc
        · rename_i F hF
          obtain ⟨h1, h2, hc⟩ := hc
          rw [e1]
          split at hc
          · rename_i us lent hl
            obtain ⟨h3, res, h4, h5⟩ := hc
            refine ⟨_, h5, stale_res, h1, h2, ?_⟩
            rw [h.lendL e2 hl]
            exact ⟨h3, res, h4, rfl⟩
          · exact hc.elim
        · exact hc.elim
      · exact hc.elim
    | _ => simp [wcalm] at hc
  | builtin b =>
    cases b with
    | len =>
      simp only [wcalm] at hc ⊢
      split at hc
      · rename_i x T ha hts
        have e : ∀ T, σ'.val P T x = σ.val P T x := fun T => h.val fun t e => hxa t (by rw [← Array.mem_toList_iff, ha, e]; simp)
        have hst := h.stv (P := P) T x
        simp only [e, h.ep] at hc ⊢
        split at hc
        · exact ⟨_, hc (by simp), trivial, fun _ => rfl⟩
        · rename_i r v off len el hs hu
          rw [hs] at hst
          obtain ⟨h1, h2, h3⟩ := hc
          have hro := ref_root hst h1
          exact ⟨_, h3 (by simp), trivial, by rw [h.ver _ hro]; exact h1, by rw [h.content hro]; exact h2, fun _ => rfl⟩
        · exact ⟨_, hc.2 (by simp), trivial, hc.1, fun _ => rfl⟩
        · exact ⟨_, hc.2 (by simp), trivial, hc.1, fun _ => rfl⟩
        · exact hc.elim
      · exact hc.elim
    | min =>
      have e := wnum_sim (P := P) h (l := args.toList) (fun t ht => hxa t (Array.mem_toList_iff.1 ht))
      simp only [wcalm, e] at hc ⊢
      split at hc
      · exact ⟨_, hc, trivial, rfl⟩
      · exact ⟨_, hc, trivial, rfl⟩
      · exact hc.elim
    | max =>
      have e := wnum_sim (P := P) h (l := args.toList) (fun t ht => hxa t (Array.mem_toList_iff.1 ht))
      simp only [wcalm, e] at hc ⊢
      split at hc
      · exact ⟨_, hc, trivial, rfl⟩
      · exact hc.elim
    | _ => simp [wcalm] at hc
  | invoke r m => simp [wcalm] at hc

/-- A CALM OPERATION TELLS THE SAME IN STATES THAT AGREE ON WHAT IT LOOKS AT -/
theorem calm_sim (h : Sim S σ σ') {op : Op} {T0 : TypeId} (hx : ∀ t, .tmp t ∈ op.operands → σ'.slot t = σ.slot t) (hr : rootless S σ op) {K : SV → Prop} (hc : wcalm P Γ false op T0 σ K) :
    ∃ s, K s ∧ stale S σ s ∧ wcalm P Γ false op T0 σ' (fun s' => s' = s) := by
  cases op with
  | move x => exact sim_move h (fun t e => hx t (by simp [Op.operands, e])) hr hc
  | pick c x y => exact sim_pick h hx hc
  | nilCheck x => exact sim_nilCheck h (fun t e => hx t (by simp [Op.operands, e])) hc
  | load T x => exact sim_load h (fun t e => hx t (by simp [Op.operands, e])) hc
  | makeSlice T l c => exact sim_makeSlice h hx hc
  | indexAddr T x i => exact sim_indexAddr h hx hr hc
  | index T x i => exact sim_index h hx hc
  | fieldAddr T x f => exact sim_fieldAddr h (fun t e => hx t (by simp [Op.operands, e])) hc
  | field T x f => exact sim_field h (fun t e => hx t (by simp [Op.operands, e])) hc
  | slice T x lo hi mx => exact sim_slice h hx hc
  | binOp op T x y T2 => exact sim_binOp h hx hc
  | unOp op T x => exact sim_unOp h (fun t e => hx t (by simp [Op.operands, e])) hc
  | convert s d x => exact sim_convert h (fun t e => hx t (by simp [Op.operands, e])) hc
  | makeFunc fn f c => exact sim_makeFunc h hx hc
  | call c => exact sim_call h hx hc
  | _ => simp [wcalm] at hc
end
end Go.Mv
