/-
  A part of a theory of trees by which the functions of the program are walked: it proves no statement of the seat by itself; no conditions.
-/
import Derived.Test.YtdkjhbbddlognaaMvCallC
namespace Go.Mv
set_option linter.unusedVariables false
set_option linter.unusedSimpArgs false

/-- a result variable's value, and the state without it -/
def resSVof (P : Program) (σ : St) : ResultVar → Option (SV × St)
  | .tmp t => some (σ.slot t, σ.eat (.tmp t))
  | .cell y T => match σ.slot y with
    | .pc b v off => if v = σ.bver b ∧ (P.underlying T).isSome = true then match σ.box b with
        | some cs => if off + P.cellsOf T ≤ cs.length ∧ isAggT P T = true ∧ owningL (viewSVs σ b off ((cs.drop off).take (P.cellsOf T))) = false then
            some (.agg (viewSVs σ b off ((cs.drop off).take (P.cellsOf T))), σ) else none
        | none => none
      else none
    | _ => none

/-- a value, given away whole -/
def giveW (σ : St) : SV → Option (Tr × St)
  | .agg cs => match σ.giveL cs with
    | some (ts, σ') => some (.agg ts, σ')
    | none => none
  | s => match σ.giveL [s] with
    | some ([u], σ') => some (u, σ')
    | _ => none

def resG (P : Program) : List ResultVar → St → Option (List Tr × St)
  | [], σ => some ([], σ)
  | r :: rs, σ => match resG P rs σ with
    | none => none
    | some (ts, σ1) => match resSVof P σ1 r with
      | some (s, σ2) => match giveW σ2 s with
        | some (u, σ3) => some (u :: ts, σ3)
        | none => none
      | none => none

abbrev Grp := Value × Tr × List (SV × Value)
def grpOK (g : Grp) : Prop := (∃ ts vs, g.2.2 = (ts.map (SV.tr none)).zip vs ∧ vs.length = ts.length ∧ g.1 = .agg vs.toArray ∧ g.2.1 = .agg ts) ∨ g.2.2 = [(.tr none g.2.1, g.1)]

section
def resOne (a : Act) : ResultVar → Sem Value
  | .tmp t => pure (a.tmps.getD t undef)
  | .cell y t => do loadVar t (← asAddr (a.tmps.getD y undef))

theorem results_eq (fn : Func) (a : Act) : results fn a.tmps = (do let vs ← fn.results.mapM (resOne a); pure (if h : vs.size = 1 then vs[0] else .tuple vs)) := by
  have : (fun r : ResultVar => (match r with
      | .tmp t => pure (a.tmps.getD t undef)
      | .cell y t => do loadVar t (← asAddr (a.tmps.getD y undef)) : Sem Value)) = resOne a := by
    funext r; cases r <;> rfl
  rw [← this]; rfl

end

section
variable {w0 : World} {FA ok0 : Cells} {E : Ent} {N : Nat} {σ : St} {a : Act} {w : World} {L : Lay}
variable {P : Program} {Γ : Env}

theorem Hand.consFree {s : SV} {v : Value} {l : List (SV × Value)} (hh : Hand w0 FA σ w L l) (hsv : SRel σ w L s v Cells.none) : Hand w0 FA σ w L ((s, v) :: l) := by
  obtain ⟨G, hG⟩ := hh
  refine ⟨fun k => match k with | 0 => Cells.none | k + 1 => G k, ?_⟩
  exact
  { rel := fun k s v hk => by
      cases k with
      | zero => simp at hk; obtain ⟨rfl, rfl⟩ := hk; exact hsv
      | succ k => simp at hk; exact hG.rel k s v hk
    snap := fun k s' v' hk => by
      cases k with
      | zero => simp at hk; obtain ⟨rfl, rfl⟩ := hk; exact Apart.sub (Apart.none_r _) (Sub.refl _) (tops_sub hsv)
      | succ k => simp at hk; exact hG.snap k s' v' hk
    sep := fun i j hij => by
      cases i with
      | zero => exact Apart.none_l _
      | succ i => cases j with
        | zero => exact Apart.none_r _
        | succ j => exact hG.sep i j (by omega)
    ap := fun k i => by
      cases k with
      | zero => exact Apart.none_l _
      | succ k => exact hG.ap k i
    okap := fun k => by
      cases k with
      | zero => exact Apart.none_r _
      | succ k => exact hG.okap k
    live := fun k b o hx => by
      cases k with
      | zero => exact hx.elim
      | succ k => exact hG.live k b o hx }

theorem resSVof_ok (h : Rel w0 FA ok0 E N σ a w L) {l : List (SV × Value)} (hh : Hand w0 FA σ w L l) {r : ResultVar} (hN : ∀ t, r = .tmp t → t < N) {s : SV} {σ' : St} (hr : resSVof P σ r = some (s, σ')) :
    ∃ L' v, Rel w0 FA ok0 E N σ' a w L' ∧ Hand w0 FA σ' w L' ((s, v) :: l) ∧ (resOne a r).run P w = .ok v w := by
  cases r with
  | tmp t =>
    simp only [resSVof, Option.some.injEq, Prod.mk.injEq] at hr
    obtain ⟨rfl, rfl⟩ := hr
    obtain ⟨L2, q1, q2⟩ := h.eatH (P := P) (T := 0) (x := .tmp t) (fun t' e => by cases e; exact hN t rfl) hh
    exact ⟨L2, _, q1, q2, rfl⟩
  | cell y T =>
    simp only [resSVof] at hr
    split at hr
    · rename_i b v off hs
      split at hr
      · rename_i hv
        split at hr
        · rename_i cs hb
          split at hr
          · rename_i hl
            cases hr
            have hp := h.slots y
            rw [hs] at hp
            have hptr : a.tmps.getD y undef = .pointer (some ⟨(L.loc b).1, (L.loc b).2 + off, none⟩) := by
              cases hp with | pc _ hx => exact hx hv.1
            obtain ⟨vs, q1, q2, q3⟩ := box_cells h hb _ _ hl.1 hl.2.2
            refine ⟨L, .agg vs.toArray, h, hh.consFree (.agg q3), ?_⟩
            have asA : ∀ p, (asAddr (.pointer (some p))).run P w = .ok p w := fun p => rfl
            simp only [resOne, hptr, Sem.run_bind, asA, Result.andThen_ok]
            exact run_loadVar_agg hv.2 hl.2.1 q1 q2
          · cases hr
        · cases hr
      · cases hr
    · cases hr

theorem giveW_ok (h : Rel w0 FA ok0 E N σ a w L) {l : List (SV × Value)} {s : SV} {v : Value} (hh : Hand w0 FA σ w L ((s, v) :: l)) {u : Tr} {σ' : St} (hg : giveW σ s = some (u, σ')) :
    ∃ (L' : Lay) (g : Grp), Rel w0 FA ok0 E N σ' a w L' ∧ Hand w0 FA σ' w L' (g.2.2 ++ l) ∧ grpOK g ∧ g.1 = v ∧ g.2.1 = u := by
  unfold giveW at hg
  split at hg
  · rename_i cs
    split at hg
    · rename_i us σ3 h3
      cases hg
      obtain ⟨G0, hG0⟩ := hh
      obtain ⟨vs, rfl, _⟩ := srel_agg (hG0.rel 0 _ _ rfl)
      obtain ⟨hu, hlen⟩ := Hand.unagg ⟨G0, hG0⟩
      obtain ⟨L3, k1, k2, k3⟩ := h.giveLH (k := 0) hu (fun q s' hq => by
        have hlt := (List.getElem?_eq_some_iff.1 hq).1
        exact ⟨vs[q], by rw [Nat.zero_add, List.getElem?_append_left (by simp; omega)]; exact List.getElem?_zip_eq_some.2 ⟨hq, List.getElem?_eq_getElem (by omega)⟩⟩) h3
      have e := setTrs_zip us cs vs l k3 hlen []
      simp only [List.nil_append, List.length_nil] at e
      rw [e] at k2
      exact ⟨L3, (.agg vs.toArray, .agg us, (us.map (SV.tr none)).zip vs), k1, k2, .inl ⟨us, vs, rfl, by omega, rfl, rfl⟩, rfl, rfl⟩
    · cases hg
  · split at hg
    · rename_i u' σ3 h3
      cases hg
      obtain ⟨L3, k1, k2, k3⟩ := h.giveLH (k := 0) hh (fun q s' hq => by
        cases q with
        | zero => simp at hq; subst hq; exact ⟨_, rfl⟩
        | succ q => simp at hq) h3
      have e := setTrs_zip [u] [s] [v] l rfl rfl []
      simp only [List.nil_append, List.length_nil] at e
      rw [show [s].zip [v] ++ l = (s, v) :: l by simp] at e
      rw [e] at k2
      exact ⟨L3, (v, u, [(.tr none u, v)]), k1, by simpa using k2, .inr rfl, rfl, rfl⟩
    · cases hg

theorem resG_ok : ∀ {rs : List ResultVar} {σ : St} {L : Lay} {l : List (SV × Value)} {ts : List Tr} {σ' : St}, (∀ t, .tmp t ∈ rs → t < N) → Rel w0 FA ok0 E N σ a w L → Hand w0 FA σ w L l → resG P rs σ = some (ts, σ') →
    ∃ (L' : Lay) (gs : List Grp), Rel w0 FA ok0 E N σ' a w L' ∧ Hand w0 FA σ' w L' (gs.flatMap (fun g : Grp => g.2.2) ++ l) ∧ (∀ g ∈ gs, grpOK g) ∧ gs.map (·.2.1) = ts ∧ (rs.mapM (resOne a)).run P w = .ok (gs.map (·.1)) w
  | [], σ, L, l, ts, σ', hN, h, hh, hr => by
    simp only [resG, Option.some.injEq, Prod.mk.injEq] at hr
    obtain ⟨rfl, rfl⟩ := hr
    exact ⟨L, [], h, hh, by simp, rfl, by simp [List.mapM_nil]⟩
  | r :: rs, σ, L, l, ts, σ', hN, h, hh, hr => by
    simp only [resG] at hr
    split at hr
    · cases hr
    · rename_i ts1 σ1 h1
      obtain ⟨L1, gs, r1, r2, r3, r4, r5⟩ := resG_ok (fun t ht => hN t (by simp [ht])) h hh h1
      split at hr
      · rename_i s σ2 h2
        split at hr
        · rename_i u σ3 h3
          cases hr
          obtain ⟨L2, v, q1, q2, q3⟩ := resSVof_ok r1 r2 (fun t e => hN t (by simp [e])) h2
          obtain ⟨L3, g, k1, k2, k3, k4, k5⟩ := giveW_ok q1 q2 h3
          refine ⟨L3, g :: gs, k1, by simpa [List.append_assoc] using k2, ?_, by simp [r4, k5], ?_⟩
          · intro g' hg
            rcases List.mem_cons.1 hg with rfl | hg
            · exact k3
            · exact r3 g' hg
          · rw [List.mapM_cons, Sem.run_bind, q3, Result.andThen_ok, Sem.run_bind, r5, Result.andThen_ok]
            simp [k4]
        · cases hr
      · cases hr

theorem HandG.dropN : ∀ {l l' : List (SV × Value)} {G : Nat → Cells}, HandG w0 FA σ w L (l ++ l') G → HandG w0 FA σ w L l' (fun k => G (k + l.length))
  | [], l', G, h => by simpa using h
  | x :: l, l', G, h => by
    have := HandG.dropN (l := l) (l' := l') (HandG.tail (by simpa using h))
    simp only [List.length_cons]
    have e : (fun k => G (k + (l.length + 1))) = (fun k => G (k + l.length + 1)) := by funext k; rw [Nat.add_assoc]
    rw [e]; exact this

theorem groups_rd : ∀ {gs : List Grp} {l : List (SV × Value)} {G : Nat → Cells}, HandG w0 FA σ w L (gs.flatMap (fun g => g.2.2) ++ l) G → (∀ g ∈ gs, grpOK g) →
    ∃ F, RdL w L.ok (gs.map (·.1)) (gs.map (·.2.1)) F ∧ (∀ b o, F b o → ∃ k, k < (gs.flatMap (fun g => g.2.2)).length ∧ G k b o)
  | [], l, G, hG, _ => ⟨Cells.none, .nil, fun _ _ h => h.elim⟩
  | g :: gs, l, G, hG, hk => by
    have hG' : HandG w0 FA σ w L (g.2.2 ++ (gs.flatMap (fun g => g.2.2) ++ l)) G := by simpa [List.append_assoc] using hG
    obtain ⟨F, f1, f2⟩ := groups_rd hG'.dropN (fun g' h' => hk g' (by simp [h']))
    have one : ∃ F1, Rd w L.ok g.1 g.2.1 F1 ∧ (∀ b o, F1 b o → ∃ k, k < g.2.2.length ∧ G k b o) := by
      rcases hk g (by simp) with ⟨ts, vs, e1, e2, e3, e4⟩ | e
      · rw [e1] at hG'
        obtain ⟨F1, q1, q2⟩ := handG_trs e2 hG'
        refine ⟨F1, by rw [e3, e4]; exact .agg q1, fun b o hx => ?_⟩
        obtain ⟨k, k1, k2⟩ := q2 b o hx
        exact ⟨k, by rw [e1]; simp; omega, k2⟩
      · refine ⟨G 0, ?_, fun b o hx => ⟨0, by rw [e]; simp, hx⟩⟩
        have := hG'.rel 0 (.tr none g.2.1) g.1 (by rw [e]; rfl)
        cases this with | tr hd => exact hd
    obtain ⟨F1, q1, q2⟩ := one
    refine ⟨Or F1 F, .cons (Sub.or_l _ _) (Sub.or_r _ _) ?_ q1 f1, ?_⟩
    · intro b o hx hy
      obtain ⟨k, k1, k2⟩ := q2 b o hx
      obtain ⟨k', k3, k4⟩ := f2 b o hy
      exact hG'.sep k (k' + g.2.2.length) (by omega) b o k2 k4
    · rintro b o (hx | hx)
      · obtain ⟨k, k1, k2⟩ := q2 b o hx
        exact ⟨k, by simp; omega, k2⟩
      · obtain ⟨k, k1, k2⟩ := f2 b o hx
        exact ⟨k + g.2.2.length, by simp at k1 ⊢; omega, k2⟩
end
end Go.Mv
