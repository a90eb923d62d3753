/-
  A part of a theory of trees by which the functions of the program are walked: it proves no statement of the seat by itself; no conditions.
-/
import Derived.Test.YtdkjhbbddlognaaMvEq
namespace Go.Mv
set_option linter.unusedVariables false
set_option linter.unusedSimpArgs false
section
variable {w0 : World} {FA ok0 : Cells} {E : Ent} {N : Nat} {σ : St} {a : Act} {w : World} {L : Lay}
variable {B : Bool} {P : Program} {Q : Exit → Act → World → Prop} {Kr : Act → World → Prop} {o : Oper}

theorem scOf_eq {s v} (h : scOf s = some v) : s = .tr none (.sc v) := by
  unfold scOf at h; split at h
  · simp at h; subst h; rfl
  · cases h

theorem eqAll_V : ∀ {ks as bs es us vs F G}, eqAll ks as bs = some es → SRelL σ w L as us F → SRelL σ w L bs vs G → eqV ks us vs = some es
  | [], [], [], es, us, vs, F, G, h, h1, h2 => by cases h1; cases h2; simpa [eqAll, eqV] using h
  | [], [], b :: bs, es, us, vs, F, G, h, h1, h2 => by simp [eqAll] at h
  | [], a :: as, bs, es, us, vs, F, G, h, h1, h2 => by simp [eqAll] at h
  | k :: ks, [], bs, es, us, vs, F, G, h, h1, h2 => by simp [eqAll] at h
  | k :: ks, a :: as, [], es, us, vs, F, G, h, h1, h2 => by simp [eqAll] at h
  | k :: ks, a :: as, b :: bs, es, us, vs, F, G, h, h1, h2 => by
    cases h1 with
    | cons p1 p2 p3 p4 p5 =>
      cases h2 with
      | cons q1 q2 q3 q4 q5 =>
        simp only [eqAll] at h
        split at h
        · rename_i xv yv l e1 e2 e3
          have f1 := scOf_eq e1; have f2 := scOf_eq e2
          subst f1; subst f2
          have h1 := p4.sc
          have h2 := q4.sc
          have ih := eqAll_V e3 p5 q5
          rw [h1, h2]
          cases hc : eqCell k xv yv with
          | none => simp [hc] at h
          | some bb =>
            rw [hc] at h
            simp only [Option.map_some, Option.some.injEq] at h
            subst h; simp [eqV, hc, ih]
        · cases h

theorem srel_agg {cs v F} (h : SRel σ w L (.agg cs) v F) : ∃ vs, v = .agg vs.toArray ∧ SRelL σ w L cs vs F := by
  cases h with | agg h => exact ⟨_, rfl, h⟩

theorem run_bin {op : BinOp} {T T2 : TypeId} {x y : Operand} {v : Value} (ho : o.op = .binOp op T x y T2) (hg : (eqGuard op T x y (a.eval x) (a.eval y)).run P w = .ok () w)
    (hb : (binOp op T (a.eval x) (a.eval y)).run P w = .ok v w) : (execOp a.eval o).run P w = .ok (.value v) w := by
  simp [execOp, ho, hg, hb]

theorem eqi_nn {T : TypeId} {ms} (hu : P.underlying T = some (.interface ms)) : (Op.equalIn 10000 T .nilIface .nilIface).run P w = .ok true w := by
  have : ∀ d, (Op.equalIn (d + 1) T .nilIface .nilIface).run P w = .ok true w := fun d => by simp [Op.equalIn, run_underlying hu]
  exact this 9999
theorem eqi_in {T : TypeId} {ms t u} (hu : P.underlying T = some (.interface ms)) : (Op.equalIn 10000 T (.iface t u) .nilIface).run P w = .ok false w := by
  have : ∀ d, (Op.equalIn (d + 1) T (.iface t u) .nilIface).run P w = .ok false w := fun d => by simp [Op.equalIn, run_underlying hu]
  exact this 9999

theorem calm_binOp (h : Rel w0 FA ok0 E N σ a w L) {op : BinOp} {T T2 : TypeId} {x y : Operand} {T0 : TypeId} {Γ : Env} (ho : o.op = .binOp op T x y T2) {K : SV → Prop} (hc : wcalm P Γ B (.binOp op T x y T2) T0 σ K) : Gives P σ a w L o K := by
  simp only [wcalm] at hc
  have hvx := h.val P T x
  have hvy := h.val P T y
  split at hc
  · rename_i k p k' q hx hy
    obtain ⟨rfl, hz, hc⟩ := hc
    rw [hx] at hvx; rw [hy] at hvy
    split at hc
    · rename_i v hv
      refine gives_pure hc (run_bin ho ?_ ?_) (.tr (.sc ?_))
      · rw [hvx.sc, hvy.sc]; exact run_eqGuard_int
      · rw [hvx.sc, hvy.sc]; exact run_intOp hz hv
      · cases op <;> simp [intOp] at hv <;> subst hv <;> rfl
    · exact hc.elim
  · rename_i p q hx hy
    obtain ⟨hz, hc⟩ := hc
    rw [hx] at hvx; rw [hy] at hvy
    split at hc
    · rename_i v hv
      refine gives_pure hc (run_bin ho ?_ ?_) (.tr (.sc ?_))
      · rw [hvx.sc, hvy.sc]; exact run_eqGuard_string
      · rw [hvx.sc, hvy.sc]; exact run_strOp hz hv
      · have s1 := hvx.sc_str
        have s2 := hvy.sc_str
        cases op <;> simp [strOp] at hv <;> subst hv <;> first | rfl | (have := hz rfl; simp [flat, ByteArray.size_append]; omega)
    · exact hc.elim
  · rename_i p q hx hy
    obtain ⟨hu, hc⟩ := hc
    rw [hx] at hvx; rw [hy] at hvy
    have hg : (eqGuard op T x y (a.eval x) (a.eval y)).run P w = .ok () w := by rw [hvx.sc, hvy.sc]; exact run_eqGuard_bool
    split at hc
    · refine gives_pure hc (run_bin ho hg ?_) (.tr (.sc rfl))
      rw [hvx.sc, hvy.sc]
      have e := run_equalIn_bool' (P := P) w 9999 T p q hu
      simp only [binOp]
      simp [Op.equal, Op.maxDepth, e]
    · refine gives_pure hc (run_bin ho hg ?_) (.tr (.sc rfl))
      rw [hvx.sc, hvy.sc]
      have e := run_equalIn_bool' (P := P) w 9999 T p q hu
      simp only [binOp]
      simp [Op.equal, Op.maxDepth, e]
    · exact hc.elim
  · rename_i p hx hy
    obtain ⟨hcst, ⟨ms, hu⟩, hc⟩ := hc
    obtain ⟨cv, hcv⟩ : ∃ cv, y = .const cv := by cases y <;> simp at hcst ⊢
    rw [hx] at hvx; rw [hy] at hvy
    have ey : a.eval y = .nilIface := by
      generalize a.eval y = vy at hvy
      cases hvy with | tr hd => cases hd; rfl
    have ex : (p = true ∧ a.eval x = .nilIface) ∨ (p = false ∧ ∃ t u, a.eval x = .iface t u) := by
      generalize a.eval x = vx at hvx
      cases hvx with | tr hd => cases hd with
        | inil => exact .inl ⟨rfl, rfl⟩
        | iface => exact .inr ⟨rfl, _, _, rfl⟩
    have hg : (eqGuard op T x y (a.eval x) (a.eval y)).run P w = .ok () w := by
      rw [ey]
      rcases ex with ⟨_, ex⟩ | ⟨_, t, u, ex⟩ <;> rw [ex] <;> unfold eqGuard <;> split <;> simp [Sem.run, hcv]
    split at hc
    · refine gives_pure hc (run_bin ho hg ?_) (.tr (.sc rfl))
      rw [ey]
      rcases ex with ⟨rfl, ex⟩ | ⟨rfl, t, u, ex⟩ <;> rw [ex] <;> simp only [binOp] <;> simp [Op.equal, Op.maxDepth, eqi_nn hu, eqi_in hu]
    · refine gives_pure hc (run_bin ho hg ?_) (.tr (.sc rfl))
      rw [ey]
      rcases ex with ⟨rfl, ex⟩ | ⟨rfl, t, u, ex⟩ <;> rw [ex] <;> simp only [binOp] <;> simp [Op.equal, Op.maxDepth, eqi_nn hu, eqi_in hu]
    · exact hc.elim
  · rename_i as bs hx hy
    obtain ⟨hgf, hagg, hc⟩ := hc
    rw [hx] at hvx; rw [hy] at hvy
    split at hc
    · rename_i ks hk
      split at hc
      · rename_i es hes
        obtain ⟨us, eu, hu⟩ := srel_agg hvx
        obtain ⟨vs, ev, hv⟩ := srel_agg hvy
        have hV := eqAll_V hes hu hv
        have hE := equalIn_spec (w := w) 6 T ks hk us vs es hV 10000 (by omega)
        simp only [valOf, hagg, if_true] at hE
        have hgf' : P.eqGuardType P.depth T = false := by simpa [Op.eqGuardFree] using hgf
        have hg : (eqGuard op T x y (a.eval x) (a.eval y)).run P w = .ok () w := by
          rw [eu, ev]; exact run_eqGuard_agg (P := P) w op T x y _ _ hgf'
        split at hc
        · refine gives_pure hc (run_bin ho hg ?_) (.tr (.sc rfl))
          rw [eu, ev, run_eql_struct, hE]; simp
        · refine gives_pure hc (run_bin ho hg ?_) (.tr (.sc rfl))
          rw [eu, ev, run_neq_struct, hE]; simp
        · exact hc.elim
      · exact hc.elim
    · exact hc.elim
  · exact hc.elim

theorem calm_unOp (h : Rel w0 FA ok0 E N σ a w L) {op : UnOp} {T : TypeId} {x : Operand} {T0 : TypeId} {Γ : Env} (ho : o.op = .unOp op T x) {K : SV → Prop} (hc : wcalm P Γ B (.unOp op T x) T0 σ K) : Gives P σ a w L o K := by
  simp only [wcalm] at hc
  split at hc
  · rename_i b hx
    have e := scOf_val h hx
    exact gives_pure hc (by simp [execOp, ho, e, Op.unary]) (.tr (.sc rfl))
  · rename_i k n hx
    have e := scOf_val h hx
    exact gives_pure hc (by simp [execOp, ho, e, Op.unary, Op.intArith]) (.tr (.sc rfl))
  · exact hc.elim

theorem calm_convert (h : Rel w0 FA ok0 E N σ a w L) {src dst : TypeId} {x : Operand} {T0 : TypeId} {Γ : Env} (ho : o.op = .convert src dst x) {K : SV → Prop} (hc : wcalm P Γ B (.convert src dst x) T0 σ K) : Gives P σ a w L o K := by
  simp only [wcalm] at hc
  split at hc
  · rename_i k0 n k hx hd
    obtain ⟨hs, hk⟩ := hc
    have e := scOf_val h hx
    have hik : P.intKind dst = k := by simp [Program.intKind, hd]
    have := run_convert_int (P := P) w src dst k0 n hs (by rw [hik]; exact hd)
    rw [hik] at this
    exact gives_pure hk (by simp [execOp, ho, e, this]) (.tr (.sc rfl))
  · rename_i s hx hd
    obtain ⟨hs, hk⟩ := hc
    have e := scOf_val h hx
    obtain ⟨d, hd'⟩ := Option.isSome_iff_exists.mp hs
    exact gives_pure hk (by simp [execOp, ho, e, convert, run_underlying hd', run_underlying hd]) (.tr (.sc (by have := h.val P src x; rw [hx] at this; exact this.sc_flat)))
  · exact hc.elim

end
end Go.Mv
