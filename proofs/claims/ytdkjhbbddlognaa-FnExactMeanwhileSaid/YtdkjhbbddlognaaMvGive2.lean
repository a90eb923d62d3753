/-
  A part of a theory of trees by which the functions of the program are walked: it proves no statement of the seat by itself; no conditions.
-/
import Derived.Test.YtdkjhbbddlognaaMvGive
namespace Go.Mv
set_option linter.unusedVariables false
set_option linter.unusedSimpArgs false

def setTrs (l : List (SV × Value)) : Nat → List Tr → List (SV × Value)
  | _, [] => l
  | k, t :: ts => setTrs (match l[k]? with | some p => l.set k (.tr none t, p.2) | none => l) (k + 1) ts

theorem setTrs_len : ∀ (ts : List Tr) (l : List (SV × Value)) (k : Nat), (setTrs l k ts).length = l.length
  | [], l, k => rfl
  | t :: ts, l, k => by
    simp only [setTrs]
    rw [setTrs_len ts]
    split <;> simp

theorem setTrs_lt : ∀ (ts : List Tr) (l : List (SV × Value)) (k q : Nat), q < k → (setTrs l k ts)[q]? = l[q]?
  | [], l, k, q, _ => rfl
  | t :: ts, l, k, q, h => by
    simp only [setTrs]
    rw [setTrs_lt ts _ (k + 1) q (by omega)]
    split
    · rw [List.getElem?_set_ne (by omega)]
    · rfl

theorem setTrs_ge : ∀ (ts : List Tr) (l : List (SV × Value)) (k q : Nat), k + ts.length ≤ q → (setTrs l k ts)[q]? = l[q]?
  | [], l, k, q, _ => rfl
  | t :: ts, l, k, q, h => by
    simp only [List.length_cons] at h
    simp only [setTrs]
    rw [setTrs_ge ts _ (k + 1) q (by omega)]
    split
    · rw [List.getElem?_set_ne (by omega)]
    · rfl

theorem setTrs_in : ∀ (ts : List Tr) (l : List (SV × Value)) (k i : Nat) (t : Tr) (p : SV × Value), ts[i]? = some t → l[k + i]? = some p → (setTrs l k ts)[k + i]? = some (.tr none t, p.2)
  | [], l, k, i, t, p, h, _ => by simp at h
  | t0 :: ts, l, k, i, t, p, h, h' => by
    simp only [setTrs]
    cases i with
    | zero =>
      simp at h h'; subst h
      show (setTrs _ (k + 1) ts)[k]? = _
      rw [setTrs_lt ts _ (k + 1) k (by omega), h']
      have hlt := (List.getElem?_eq_some_iff.1 h').1
      simp [hlt]
    | succ i =>
      simp at h
      have hne : (match l[k]? with | some p => l.set k (SV.tr none t0, p.2) | none => l)[k + 1 + i]? = some p := by
        rw [show k + 1 + i = k + (i + 1) by omega]
        split
        · rw [List.getElem?_set_ne (by omega)]; exact h'
        · exact h'
      have := setTrs_in ts _ (k + 1) i t p h hne
      rwa [show k + 1 + i = k + (i + 1) by omega] at this

section
variable {w0 : World} {FA ok0 : Cells} {E : Ent} {N : Nat} {σ : St} {a : Act} {w : World} {L : Lay}

theorem Rel.slot_lt (h : Rel w0 FA ok0 E N σ a w L) {d : Nat} {c : Nat × List (List Tr)} (hc : σ.content (.slot d) = some c) : d < N := by
  refine Classical.byContradiction fun hn => ?_
  have hs := h.slots d
  rw [content_slot.1 (show σ.content (.slot d) = some (c.1, c.2) from hc)] at hs
  have hu : a.tmps.getD d undef = undef := by
    have := h.size
    rw [Array.getD_eq_getD_getElem?, Array.getElem?_eq_none (by omega)]; rfl
  rw [hu] at hs
  cases hs with | tr hd =>
  obtain ⟨x, y, e⟩ := hd.sl_len
  cases e

theorem HandG.setSame {l l' : List (SV × Value)} {G : Nat → Cells} (h : HandG w0 FA σ w L l G) (hl : ∀ (k : Nat) (p : SV × Value), l'[k]? = some p → l[k]? = some p) : HandG w0 FA σ w L l' G where
  rel := fun k s v hk => h.rel k s v (hl k _ hk)
  snap := fun k s v hk => h.snap k s v (hl k _ hk)
  sep := h.sep
  ap := h.ap
  okap := h.okap
  live := h.live

/-- a value in hand is given away -/
theorem Rel.giveH (h : Rel w0 FA ok0 E N σ a w L) {l : List (SV × Value)} (hh : Hand w0 FA σ w L l) {k : Nat} {s : SV} {v : Value} (hk : l[k]? = some (s, v)) {t : Tr} {σ' : St} (hg : σ.give s = some (t, σ')) :
    ∃ L', Rel w0 FA ok0 E N σ' a w L' ∧ Hand w0 FA σ' w L' (l.set k (.tr none t, v)) := by
  unfold St.give at hg
  split at hg
  · cases hg
  · cases hg
  · cases hg
    refine ⟨L, h, ?_⟩
    have : l.set k (.tr none t, v) = l := by
      apply List.ext_getElem?
      intro q
      by_cases e : k = q
      · subst e
        have hlt := (List.getElem?_eq_some_iff.1 hk).1
        rw [List.getElem?_set_self hlt, hk]
      · rw [List.getElem?_set_ne e]
    rw [this]; exact hh
  · rename_i r ver off len
    split at hg
    · rename_i hv
      split at hg
      · rename_i c hc
        cases hg
        exact h.giveRef hh hk (fun d e => by subst e; exact h.slot_lt hc) hv hc
      · cases hg
    · cases hg
  · split at hg
    · rename_i hv
      split at hg
      · rename_i c hc
        split at hg
        · rename_i row hi
          split at hg
          · rename_i sz rows hj
            cases hg
            exact h.giveNst hh hk hv hc hi hj
          · cases hg
        · cases hg
      · cases hg
    · cases hg
  · cases hg

theorem setTrs_set_lt : ∀ (ts : List Tr) (l : List (SV × Value)) (k : Nat) (t : Tr) (p : SV × Value), l[k]? = some p → setTrs l k (t :: ts) = setTrs (l.set k (.tr none t, p.2)) (k + 1) ts := by
  intro ts l k t p h
  simp only [setTrs, h]

/-- values in hand are given away, one after the other -/
theorem Rel.giveLH : ∀ {ss : List SV} {σ : St} {L : Lay} {l : List (SV × Value)} {k : Nat} {ts : List Tr} {σ' : St}, Rel w0 FA ok0 E N σ a w L → Hand w0 FA σ w L l →
    (∀ q s, ss[q]? = some s → ∃ v, l[k + q]? = some (s, v)) → σ.giveL ss = some (ts, σ') →
    ∃ L', Rel w0 FA ok0 E N σ' a w L' ∧ Hand w0 FA σ' w L' (setTrs l k ts) ∧ ts.length = ss.length
  | [], σ, L, l, k, ts, σ', h, hh, hk, hg => by
    simp only [St.giveL, Option.some.injEq, Prod.mk.injEq] at hg
    obtain ⟨rfl, rfl⟩ := hg
    exact ⟨L, h, hh, rfl⟩
  | s :: ss, σ, L, l, k, ts, σ', h, hh, hk, hg => by
    simp only [St.giveL] at hg
    split at hg
    · rename_i t σ1 h1
      split at hg
      · rename_i ts' σ2 h2
        cases hg
        obtain ⟨v, hv⟩ := hk 0 s rfl
        rw [Nat.add_zero] at hv
        obtain ⟨L1, r1, r2⟩ := h.giveH hh hv h1
        obtain ⟨L2, r3, r4, r5⟩ := Rel.giveLH (k := k + 1) r1 r2 (fun q s' hq => by
          obtain ⟨v', hv'⟩ := hk (q + 1) s' (by simpa using hq)
          exact ⟨v', by rw [List.getElem?_set_ne (by omega), ← hv']; congr 1; omega⟩) h2
        exact ⟨L2, r3, by rw [setTrs_set_lt _ _ _ _ _ hv]; exact r4, by simp [r5]⟩
      · cases hg
    · cases hg

theorem setTrs_zip : ∀ (ts : List Tr) (ss : List SV) (vs : List Value) (l : List (SV × Value)), ts.length = ss.length → vs.length = ss.length → ∀ (pre : List (SV × Value)),
    setTrs (pre ++ (ss.zip vs ++ l)) pre.length ts = pre ++ ((ts.map (SV.tr none)).zip vs ++ l)
  | [], [], vs, l, _, _, pre => by simp [setTrs]
  | [], _ :: _, vs, l, h, _, _ => by simp at h
  | _ :: _, [], vs, l, h, _, _ => by simp at h
  | t :: ts, s :: ss, [], l, _, h, _ => by simp at h
  | t :: ts, s :: ss, v :: vs, l, h1, h2, pre => by
    have e : (pre ++ ((s :: ss).zip (v :: vs) ++ l))[pre.length]? = some (s, v) := by simp
    rw [setTrs_set_lt _ _ _ _ _ e]
    have e2 : (pre ++ ((s :: ss).zip (v :: vs) ++ l)).set pre.length (.tr none t, v) = (pre ++ [(SV.tr none t, v)]) ++ (ss.zip vs ++ l) := by
      simp
    rw [e2]
    have := setTrs_zip ts ss vs l (by simpa using h1) (by simpa using h2) (pre ++ [(SV.tr none t, v)])
    simp only [List.length_append, List.length_cons, List.length_nil] at this
    rw [this]; simp

/-- an aggregate in hand is its parts in hand -/
theorem Hand.unagg {cs : List SV} {vs : List Value} {l : List (SV × Value)} (hh : Hand w0 FA σ w L ((.agg cs, .agg vs.toArray) :: l)) : Hand w0 FA σ w L (cs.zip vs ++ l) ∧ vs.length = cs.length := by
  obtain ⟨G, hG⟩ := hh
  have h0 := hG.rel 0 _ _ rfl
  obtain ⟨vs', e, hr⟩ := srel_agg h0
  have e' : vs = vs' := by simpa using e
  subst e'
  obtain ⟨H, g1, g2, g3⟩ := hr.split
  have hlen := hr.length
  refine ⟨?_, hlen⟩
  have hz : (cs.zip vs).length = cs.length := by simp [hlen]
  have htop : ∀ k s' v', cs[k]? = some s' → vs[k]? = some v' → Apart L.sn (tops s' v') := fun k s' v' h1 h2 => by
    have := hG.snap 0 _ _ rfl
    simp only [tops, aggL] at this
    exact this.sub (Sub.refl _) (tops_get h1 h2)
  have hget : ∀ k s' v', (cs.zip vs ++ l)[k]? = some (s', v') → (k < cs.length ∧ cs[k]? = some s' ∧ vs[k]? = some v') ∨ (cs.length ≤ k ∧ l[k - cs.length]? = some (s', v')) := by
    intro k s' v' hk
    by_cases h : k < cs.length
    · rw [List.getElem?_append_left (by omega)] at hk
      have := List.getElem?_zip_eq_some.1 hk
      exact .inl ⟨h, this.1, this.2⟩
    · rw [List.getElem?_append_right (by omega), hz] at hk
      exact .inr ⟨by omega, hk⟩
  refine ⟨fun k => if k < cs.length then H k else G (k - cs.length + 1), ?_⟩
  exact
  { rel := fun k s' v' hk => by
      rcases hget k s' v' hk with ⟨h1, h2, h3⟩ | ⟨h1, h2⟩
      · simp only [h1, if_true]; exact g3 k s' v' h2 h3
      · simp only [Nat.not_lt.2 h1, if_false]; exact hG.rel (k - cs.length + 1) s' v' (by simpa using h2)
    snap := fun k s' v' hk => by
      rcases hget k s' v' hk with ⟨h1, h2, h3⟩ | ⟨h1, h2⟩
      · exact htop k s' v' h2 h3
      · exact hG.snap (k - cs.length + 1) s' v' (by simpa using h2)
    sep := fun i j hij => by
      by_cases hi : i < cs.length <;> by_cases hj : j < cs.length <;> simp only [hi, hj, if_true, if_false]
      · exact g2 i j hij
      · exact (hG.sep 0 _ (by omega)).sub (g1 i) (Sub.refl _)
      · exact ((hG.sep 0 _ (by omega)).sub (g1 j) (Sub.refl _)).symm
      · exact hG.sep _ _ (by omega)
    ap := fun k i => by
      by_cases hk : k < cs.length <;> simp only [hk, if_true, if_false]
      · exact (hG.ap 0 i).sub (g1 k) (Sub.refl _)
      · exact hG.ap _ i
    okap := fun k => by
      by_cases hk : k < cs.length <;> simp only [hk, if_true, if_false]
      · exact (hG.okap 0).sub (Sub.refl _) (g1 k)
      · exact hG.okap _
    live := fun k b p hx => by
      by_cases hk : k < cs.length
      · simp only [hk, if_true] at hx; exact hG.live 0 b p (g1 k b p hx)
      · simp only [hk, if_false] at hx; exact hG.live _ b p hx }

/-- a value's cells are given away -/
theorem Rel.giveCH (h : Rel w0 FA ok0 E N σ a w L) {s : SV} {v : Value} {l : List (SV × Value)} (hh : Hand w0 FA σ w L ((s, v) :: l)) {ag : Bool} {n : Nat} {ts : List Tr} {σ' : St} (hg : σ.giveC ag n s = some (ts, σ')) :
    ∃ L' vs, Rel w0 FA ok0 E N σ' a w L' ∧ Hand w0 FA σ' w L' ((ts.map (SV.tr none)).zip vs ++ l) ∧ v.cells = vs.toArray ∧ vs.length = ts.length ∧ ts.length = n ∧ (∀ u ∈ vs, u.oneCell' = true) ∧
      (∀ t ∈ ts, (∀ cs, t ≠ .agg cs) ∧ t ≠ .dead) ∧ (v = if ag then .agg vs.toArray else vs.getD 0 undef) := by
  have nice : ∀ {ss : List SV} {σ σ' : St} {ts : List Tr}, σ.giveL ss = some (ts, σ') → ∀ t ∈ ts, (∀ cs, t ≠ .agg cs) ∧ t ≠ .dead := by
    intro ss
    induction ss with
    | nil => intro σ σ' ts hg; simp [St.giveL] at hg; obtain ⟨rfl, _⟩ := hg; simp
    | cons s ss ih =>
      intro σ σ' ts hg
      simp only [St.giveL] at hg
      split at hg
      · rename_i t σ1 h1
        split at hg
        · rename_i ts' σ2 h2
          cases hg
          intro t' ht'
          rcases List.mem_cons.1 ht' with rfl | ht'
          · unfold St.give at h1
            split at h1
            · cases h1
            · cases h1
            · rename_i q1 q2; cases h1; exact ⟨fun cs e => q1 cs (by rw [e]), fun e => q2 (by rw [e])⟩
            · split at h1
              · split at h1
                · cases h1; simp
                · cases h1
              · cases h1
            · split at h1
              · split at h1
                · split at h1
                  · split at h1
                    · cases h1; simp
                    · cases h1
                  · cases h1
                · cases h1
              · cases h1
            · cases h1
          · exact ih h2 t' ht'
        · cases hg
      · cases hg
  have one : ∀ {ts : List Tr} {vs : List Value} {σ' : St} {L' : Lay}, vs.length = ts.length → (∀ t ∈ ts, (∀ cs, t ≠ .agg cs) ∧ t ≠ .dead) → Hand w0 FA σ' w L' ((ts.map (SV.tr none)).zip vs ++ l) → ∀ u ∈ vs, u.oneCell' = true := by
    intro ts vs σ' L' hl hn hH u hu
    obtain ⟨G, hG⟩ := hH
    obtain ⟨k, hk⟩ := List.mem_iff_getElem?.1 hu
    have hlt := (List.getElem?_eq_some_iff.1 hk).1
    have ht : ts[k]? = some ts[k] := List.getElem?_eq_getElem (by omega)
    have := hG.rel k (.tr none ts[k]) u (by
      rw [List.getElem?_append_left (by simp; omega)]
      exact List.getElem?_zip_eq_some.2 ⟨by simp [ht], hk⟩)
    cases this with | tr hd =>
    have hh := hn ts[k] (List.getElem_mem _)
    exact rd_one hd hh.1 hh.2
  have single : ∀ {s : SV}, (s, v) = (s, v) → Hand w0 FA σ w L ((s, v) :: l) → ag = false → n = 1 → σ.giveL [s] = some (ts, σ') → (∃ L' vs, Rel w0 FA ok0 E N σ' a w L' ∧ Hand w0 FA σ' w L' ((ts.map (SV.tr none)).zip vs ++ l) ∧ v.cells = vs.toArray ∧ vs.length = ts.length ∧ ts.length = n ∧ (∀ u ∈ vs, u.oneCell' = true) ∧
      (∀ t ∈ ts, (∀ cs, t ≠ .agg cs) ∧ t ≠ .dead) ∧ (v = if ag then .agg vs.toArray else vs.getD 0 undef)) := by
    intro s _ hh h1 h2 hg
    obtain ⟨L', r1, r2, r3⟩ := h.giveLH (k := 0) hh (fun q s' hq => by cases q with
      | zero => simp at hq; subst hq; exact ⟨v, rfl⟩
      | succ q => simp at hq) hg
    have e := setTrs_zip ts [s] [v] l (by simpa using r3) rfl []
    simp only [List.nil_append, List.length_nil] at e
    have e0 : ([s].zip [v] ++ l) = (s, v) :: l := by simp
    rw [e0] at e
    rw [e] at r2
    have hn := nice hg
    have h1' := one (by simp [r3]) hn r2
    exact ⟨L', [v], r1, r2, oneCell_cells (h1' v (by simp)), by simp [r3], by simp [r3, h2], h1', hn, by simp [h1]⟩
  cases s with
  | agg cs =>
    simp only [St.giveC] at hg
    split at hg
    · rename_i hc
      obtain ⟨G0, hG0⟩ := hh
      obtain ⟨vs, rfl, _⟩ := srel_agg (hG0.rel 0 _ _ rfl)
      obtain ⟨hu, hlen⟩ := Hand.unagg ⟨G0, hG0⟩
      obtain ⟨L', r1, r2, r3⟩ := h.giveLH (k := 0) hu (fun q s' hq => by
        have hlt := (List.getElem?_eq_some_iff.1 hq).1
        exact ⟨vs[q], by rw [Nat.zero_add, List.getElem?_append_left (by simp; omega)]; exact List.getElem?_zip_eq_some.2 ⟨hq, List.getElem?_eq_getElem (by omega)⟩⟩) hg
      have e := setTrs_zip ts cs vs l r3 hlen []
      simp only [List.nil_append, List.length_nil] at e
      rw [e] at r2
      have hn := nice hg
      exact ⟨L', vs, r1, r2, rfl, by omega, by omega, one (by omega) hn r2, hn, by simp [hc.1]⟩
    · cases hg
  | _ =>
    simp only [St.giveC] at hg
    split at hg
    · rename_i hc; exact single rfl hh hc.1 hc.2 hg
    · cases hg
end
end Go.Mv
