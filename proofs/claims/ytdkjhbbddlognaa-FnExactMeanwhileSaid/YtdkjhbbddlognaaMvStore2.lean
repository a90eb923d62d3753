/-
  A part of a theory of trees by which the functions of the program are walked: it proves no statement of the seat by itself; no conditions.
-/
import Derived.Test.YtdkjhbbddlognaaMvRows
namespace Go.Mv
set_option linter.unusedVariables false
set_option linter.unusedSimpArgs false

theorem flatten_split {α : Type} {sz : Nat} : ∀ {rows : List (List α)} {i : Nat} {row : List α}, (∀ r ∈ rows, r.length = sz) → rows[i]? = some row →
    rows.flatten = (rows.take i).flatten ++ (row ++ (rows.drop (i + 1)).flatten) ∧ (rows.take i).flatten.length = i * sz
  | [], i, row, _, h => by simp at h
  | r :: rows, 0, row, hs, h => by simp at h; subst h; simp
  | r :: rows, i + 1, row, hs, h => by
    simp at h
    obtain ⟨h1, h2⟩ := flatten_split (rows := rows) (fun r' h' => hs r' (by simp [h'])) h
    have hr := hs r (by simp)
    refine ⟨by simp [h1, List.append_assoc], by simp only [List.take_succ_cons, List.flatten_cons, List.length_append]; rw [h2, hr, Nat.succ_mul]; omega⟩

theorem flatten_set {α : Type} {sz : Nat} {rows : List (List α)} {i : Nat} {row row' : List α} (hs : ∀ r ∈ rows, r.length = sz) (h : rows[i]? = some row) :
    (rows.set i row').flatten = (rows.take i).flatten ++ (row' ++ (rows.drop (i + 1)).flatten) := by
  have hlt := (List.getElem?_eq_some_iff.1 h).1
  rw [List.set_eq_take_append_cons_drop, if_pos hlt]
  simp [List.flatten_append]

theorem spliceL_len {α : Type} {l new : List α} {j : Nat} (h : j + new.length ≤ l.length) : (spliceL l j new).length = l.length := by
  simp [spliceL]; omega

theorem RdL.split3 {w : World} {ok : Cells} {vs : List Value} {xs ys zs : List Tr} {F : Cells} (h : RdL w ok vs (xs ++ (ys ++ zs)) F) :
    ∃ F1 F2 F3, Sub F1 F ∧ Sub F2 F ∧ Sub F3 F ∧ Apart F1 F2 ∧ Apart F1 F3 ∧ Apart F2 F3 ∧ RdL w ok (vs.take xs.length) xs F1 ∧ RdL w ok ((vs.drop xs.length).take ys.length) ys F2 ∧
      RdL w ok (vs.drop (xs.length + ys.length)) zs F3 := by
  obtain ⟨F1, F2, s1, s2, s3, s4, s5⟩ := RdL.app h
  obtain ⟨G1, G2, q1, q2, q3, q4, q5⟩ := RdL.app s5
  exact ⟨F1, G1, G2, s1, q1.trans s2, q2.trans s2, s3.sub (Sub.refl _) q1, s3.sub (Sub.refl _) q2, q3, s4, q4, by rwa [List.drop_drop] at q5⟩

/-- cells of an array of ours are written -/
theorem Rd.own_write {w : World} {ok : Cells} {b o len cap sz : Nat} {rows : List (List Tr)} {F : Cells} (h : Rd w ok (.slice (some ⟨b, o, none⟩) len cap) (.sl true sz rows) F) (hokF : Apart ok F)
    {i j : Nat} {row : List Tr} (hi : rows[i]? = some row) {ts : List Tr} {vs : List Value} {H : Cells} (hj : j + ts.length ≤ row.length) (hts : RdL w ok vs ts H) (hH : Apart H F) :
    Rd (w.setCells b (o + i * sz + j) vs) ok (.slice (some ⟨b, o, none⟩) len cap) (.sl true sz (rows.set i (spliceL row j ts))) (Or F H) ∧
      Sub (seg b (o + i * sz + j) vs.length) (seg b o (cap * sz)) ∧ (∀ k, k < vs.length → (World.at w b (o + i * sz + j + k)).isSome ∧ World.fz w b (o + i * sz + j + k) = false) := by
  rcases h.own_inv with ⟨rfl, _⟩ | ⟨b2, p2, len2, cap2, us, G, ev, h1, h2, h3, h4, h5, h6, h7, h8, h9⟩
  · simp at hi
  simp only [Value.slice.injEq, Option.some.injEq, Addr.mk.injEq, and_true] at ev
  obtain ⟨⟨rfl, rfl⟩, rfl, rfl⟩ := ev
  have hil : i < rows.length := (List.getElem?_eq_some_iff.1 hi).1
  have hrow := h3 row (List.mem_of_getElem? hi)
  have hvl : vs.length = ts.length := hts.length
  have hin : i * sz + sz ≤ len * sz := by
    have : (i + 1) * sz ≤ len * sz := Nat.mul_le_mul_right _ (by omega)
    rwa [Nat.succ_mul] at this
  have hcap : len * sz ≤ cap * sz := Nat.mul_le_mul_right _ h2.1
  have hseg : Sub (seg b (o + i * sz + j) vs.length) (seg b o (cap * sz)) := by
    rintro x p ⟨rfl, y1, y2⟩; exact ⟨rfl, by omega, by omega⟩
  have hcells : ∀ k, k < vs.length → (World.at w b (o + i * sz + j + k)).isSome ∧ World.fz w b (o + i * sz + j + k) = false := by
    intro k hk
    have := (h6 (i * sz + j + k) (by omega)).2
    rwa [← Nat.add_assoc, ← Nat.add_assoc] at this
  refine ⟨?_, hseg, hcells⟩
  have hsegF : Sub (seg b o (cap * sz)) F := by
    rintro x p ⟨rfl, y1, y2⟩
    have := (h6 (p - o) (by omega)).1
    rwa [Nat.add_sub_cancel' y1] at this
  have hsame : ∀ X : Cells, Apart X (seg b o (cap * sz)) → Same w (w.setCells b (o + i * sz + j) vs) X := fun X hX x p hx => setCells_at b fun hs => hX x p hx (hseg x p hs)
  have hok := hsame ok (hokF.sub (Sub.refl _) hsegF)
  have hG := hsame G h8.symm
  have hHs := hsame H (hH.sub (Sub.refl _) hsegF)
  obtain ⟨e1, e2⟩ := flatten_split h3 hi
  have erow : row = row.take j ++ (row.drop j).take ts.length ++ row.drop (j + ts.length) := by
    rw [List.append_assoc, ← List.drop_drop, List.take_append_drop, List.take_append_drop]
  have eold : rows.flatten = ((rows.take i).flatten ++ row.take j) ++ ((row.drop j).take ts.length ++ (row.drop (j + ts.length) ++ (rows.drop (i + 1)).flatten)) := by
    rw [e1]; conv => lhs; rw [erow]
    simp [List.append_assoc]
  rw [eold] at h9
  obtain ⟨G1, G2, G3, g1, g2, g3, a12, a13, a23, r1, r2, r3⟩ := RdL.split3 h9
  have lx : ((rows.take i).flatten ++ row.take j).length = i * sz + j := by rw [List.length_append, e2, List.length_take, Nat.min_eq_left (by omega)]
  have ly : ((row.drop j).take ts.length).length = ts.length := by simp; omega
  rw [lx] at r1; rw [lx, ly] at r3
  have enew : (rows.set i (spliceL row j ts)).flatten = ((rows.take i).flatten ++ row.take j) ++ (ts ++ (row.drop (j + ts.length) ++ (rows.drop (i + 1)).flatten)) := by
    rw [flatten_set h3 hi]; simp [spliceL, List.append_assoc]
  refine .own (vs := us.take (i * sz + j) ++ vs ++ us.drop (i * sz + j + vs.length)) (G := Or (Or G1 H) G3) (by simpa using h1) h2 ?_ ?_ ?_ ?_ ?_ ?_ ?_
  · intro r hr
    rcases List.mem_or_eq_of_mem_set hr with hr | rfl
    · exact h3 r hr
    · rw [spliceL_len hj]; exact hrow
  · simp; omega
  · intro k v hk
    rw [splice_get _ _ _ _ (by omega)] at hk
    split at hk
    · rename_i hin2
      have := setCells_in b (w := w) (o := o + i * sz + j) (fun q hq => (hcells q hq).1) hk
      rwa [show o + i * sz + j + (k - (i * sz + j)) = o + k by omega] at this
    · rename_i hin2
      rw [(setCells_at b (vs := vs) (o := o + i * sz + j) (w := w) (x := b) (p := o + k) (by rintro ⟨_, y1, y2⟩; exact hin2 ⟨by omega, by omega⟩)).1]
      exact h5 k v hk
  · intro k hk
    obtain ⟨q1, q2, q3⟩ := h6 k hk
    refine ⟨.inl q1, ?_, ?_⟩
    · by_cases hs : seg b (o + i * sz + j) vs.length b (o + k)
      · obtain ⟨_, y1, y2⟩ := hs
        have := setCells_in b (w := w) (o := o + i * sz + j) (vs := vs) (fun q hq => (hcells q hq).1) (k := o + k - (o + i * sz + j)) (List.getElem?_eq_getElem (by omega))
        rw [Nat.add_sub_cancel' y1] at this; rw [this]; rfl
      · rw [(setCells_at b hs).1]; exact q2
    · show World.frozen? _ _ = _; rw [World.frozen?_setCells]; exact q3
  · exact Sub.or (Sub.or ((g1.trans h7).trans (Sub.or_l _ _)) (Sub.or_r _ _)) ((g3.trans h7).trans (Sub.or_l _ _))
  · exact (Apart.or (Apart.or (h8.symm.sub g1 (Sub.refl _)) (hH.sub (Sub.refl _) hsegF)) (h8.symm.sub g3 (Sub.refl _))).symm
  · rw [enew, List.append_assoc, hvl]
    refine RdL.join (F1 := G1) (F2 := Or H G3) ((Sub.or_l _ _).trans (Sub.or_l _ _)) (Sub.or ((Sub.or_r _ _).trans (Sub.or_l _ _)) (Sub.or_r _ _)) ?_ (RdL.keep hok r1 (hG.sub g1)) ?_
    · exact (Apart.or ((hH.sub (Sub.refl _) (g1.trans h7))) a13.symm).symm
    · exact RdL.join (Sub.or_l _ _) (Sub.or_r _ _) (hH.sub (Sub.refl _) (g3.trans h7)) (RdL.keep hok hts hHs) (RdL.keep hok r3 (hG.sub g3))

/-- the trees of a value's cells, n of them -/
def oneTr : SV → Option Tr
  | .tr none (.agg _) => none
  | .tr none .dead => none
  | .tr none t => some t
  | _ => none
def oneTrs : List SV → Option (List Tr)
  | [] => some []
  | s :: ss => match oneTr s, oneTrs ss with
    | some t, some ts => some (t :: ts)
    | _, _ => none
def cellTrs (agg : Bool) (n : Nat) : SV → Option (List Tr)
  | .agg cs => if agg = true ∧ cs.length = n then oneTrs cs else none
  | s => if agg = false ∧ n = 1 then (oneTr s).map fun t => [t] else none

section
variable {w0 : World} {FA ok0 : Cells} {E : Ent} {N : Nat} {σ : St} {a : Act} {w : World} {L : Lay}

theorem oneTr_single {s : SV} {t : Tr} (h : oneTr s = some t) : s = .tr none t ∧ single σ s := by
  unfold oneTr at h
  split at h
  · cases h
  · cases h
  · rename_i t' h1 h2
    cases h
    refine ⟨rfl, ?_⟩
    cases t <;> simp_all [single]
  · cases h

theorem oneTrs_singles : ∀ {ss : List SV} {ts : List Tr}, oneTrs ss = some ts → ss = ts.map (.tr none) ∧ singles σ ss
  | [], ts, h => by simp [oneTrs] at h; subst h; exact ⟨rfl, trivial⟩
  | s :: ss, ts, h => by
    simp only [oneTrs] at h
    split at h
    · rename_i t ts' h1 h2
      cases h
      obtain ⟨q1, q2⟩ := oneTr_single (σ := σ) h1
      obtain ⟨q3, q4⟩ := oneTrs_singles h2
      exact ⟨by simp [q1, ← q3], q2, q4⟩
    · cases h

theorem cellTrs_ok {ag : Bool} {n : Nat} {s : SV} {ts : List Tr} (h : cellTrs ag n s = some ts) : cellsOK σ ag n s ∧ cellsSV s = ts.map (.tr none) := by
  cases s with
  | agg cs =>
    simp only [cellTrs] at h
    split at h
    · rename_i hh
      obtain ⟨q1, q2⟩ := oneTrs_singles (σ := σ) h
      exact ⟨⟨hh.1, hh.2, q2⟩, q1⟩
    · cases h
  | tr e t =>
    simp only [cellTrs] at h
    split at h
    · rename_i hh
      cases ho : oneTr (.tr e t) with
      | none => rw [ho] at h; cases h
      | some t' =>
        rw [ho] at h; cases h
        obtain ⟨q1, q2⟩ := oneTr_single (σ := σ) ho
        exact ⟨⟨hh.1, hh.2, q2⟩, by simp [cellsSV, q1]⟩
    · cases h
  | _ => simp [cellTrs, oneTr] at h

/-- trees in hand, as a list that reads -/
theorem handG_trs {l : List (SV × Value)} : ∀ {ts : List Tr} {vs : List Value} {G : Nat → Cells}, vs.length = ts.length → HandG w0 FA σ w L ((ts.map (.tr none)).zip vs ++ l) G →
    ∃ F, RdL w L.ok vs ts F ∧ (∀ b o, F b o → ∃ k, k < ts.length ∧ G k b o)
  | [], vs, G, hl, h => by
    have : vs = [] := by simpa using hl
    subst this
    exact ⟨Cells.none, .nil, fun _ _ h => h.elim⟩
  | t :: ts, [], G, hl, h => by simp at hl
  | t :: ts, v :: vs, G, hl, h => by
    obtain ⟨F, f1, f2⟩ := handG_trs (ts := ts) (vs := vs) (G := fun k => G (k + 1)) (by simpa using hl)
      { rel := fun k s v hk => h.rel (k + 1) s v (by simpa using hk), snap := fun k s v hk => h.snap (k + 1) s v (by simpa using hk), sep := fun i j hij => h.sep _ _ (by omega)
        ap := fun k i => h.ap _ i, okap := fun k => h.okap _, live := fun k => h.live _ }
    have h0 := h.rel 0 (.tr none t) v (by simp)
    have hd : Rd w L.ok v t (G 0) := by cases h0 with | tr hd => exact hd
    refine ⟨Or (G 0) F, .cons (Sub.or_l _ _) (Sub.or_r _ _) ?_ hd f1, ?_⟩
    · intro b o h1 h2
      obtain ⟨k, hk, hg⟩ := f2 b o h2
      exact h.sep 0 (k + 1) (by omega) b o h1 hg
    · rintro b o (h1 | h1)
      · exact ⟨0, by simp, h1⟩
      · obtain ⟨k, hk, hg⟩ := f2 b o h1
        exact ⟨k + 1, by simp; omega, hg⟩

theorem setRows_N (σ : St) (r : Root) (sz : Nat) (rows : List (List Tr)) : σ.setRows r sz rows = σ.setRowsN r sz rows (fun r' => if r' = r then σ.nver r' + 1 else σ.nver r') := by
  cases r <;> rfl
theorem setRowsQ_N (σ : St) (r : Root) (sz : Nat) (rows : List (List Tr)) : σ.setRowsQ r sz rows = σ.setRowsN r sz rows σ.nver := by cases r <;> rfl

/-- an element of an array of ours is written, of what is in hand -/
theorem Rel.setRowH (h : Rel w0 FA ok0 E N σ a w L) {r : Root} {sz : Nat} {rows : List (List Tr)} {row : List Tr} (hc : σ.content r = some (sz, rows)) {i j : Nat} (hi : rows[i]? = some row)
    {b o : Nat} (hb : (L.row r).base = some (b, o)) {ts : List Tr} {vs : List Value} (hj : j + ts.length ≤ sz) (hl : vs.length = ts.length) (hh : Hand w0 FA σ w L ((ts.map (.tr none)).zip vs)) :
    ∃ L', Rel w0 FA ok0 E N (σ.setRows r sz (rows.set i (spliceL row j ts))) a (w.setCells b (o + i * sz + j) vs) L' ∧
      (∀ k, k < vs.length → (World.at w b (o + i * sz + j + k)).isSome ∧ World.fz w b (o + i * sz + j + k) = false) := by
  obtain ⟨G, hG⟩ := hh
  rw [← List.append_nil ((ts.map (SV.tr none)).zip vs)] at hG
  obtain ⟨H, hH1, hH2⟩ := handG_trs hl hG
  obtain ⟨vr, hvr, hR, e1, e2, hd⟩ := h.root_rd hc
  have hlen : row.length = sz := by
    obtain ⟨b', p', vs', q1, q2, q3, _⟩ := h.row_vals hc hi
    exact q3
  have hHat : ∀ i, Apart H (L.at i) := fun i x p hx hy => by
    obtain ⟨k, _, hg⟩ := hH2 x p hx
    exact hG.ap k i x p hg hy
  rcases hR with ⟨b', p', hb', hle, rfl⟩ | ⟨hb', _⟩
  · rw [hb] at hb'; simp at hb'; obtain ⟨rfl, rfl⟩ := hb'
    obtain ⟨w1, w2, w3⟩ := hd.own_write (h.okap r.ix) hi (show j + ts.length ≤ row.length by omega) hH1 (hHat r.ix)
    refine ⟨L.setF r (Or (L.at r.ix) H), ?_, w3⟩
    rw [setRows_N]
    have hsegrow : ∀ x p, seg b (o + i * sz + j) vs.length x p → (L.row r).seg x p := fun x p hs => ⟨b, o, hb, by rw [e1]; exact w2 x p hs⟩
    refine h.rowsSet hc (by simp) (setCells_size _ _ _ _) ?_ (fun x p hs => setCells_at b fun hq => hs (hsegrow x p hq)) (F' := Or (L.at r.ix) H) ?_ ?_ ?_ ?_ ?_ ?_ ?_
    · refine h.keeps.trans (setCells_keeps b vs _ w) (Sub.refl _) fun x p hs hx => ?_
      exact (h.live r.ix x p (h.seg_sub hc x p (hsegrow x p hs))).2.resolve_right (by omega)
    · intro v hv hrv
      rw [hvr] at hv; cases hv
      exact w1
    · intro k hk; exact Apart.or (h.sep _ _ (Ne.symm hk)) (hHat k)
    · refine Apart.symm (Apart.or (h.okap r.ix).symm ?_)
      intro x p hx hy
      obtain ⟨k, _, hg⟩ := hH2 x p hx
      exact hG.okap k x p hy hg
    · rintro x p (hx | hx)
      · exact h.live r.ix x p hx
      · obtain ⟨k, _, hg⟩ := hH2 x p hx
        exact hG.live k x p hg
    · intro r' hr'; simp [hr']
    · simp
    · intro hq; simp at hq
  · rw [hb] at hb'; cases hb'

/-- of an array of ours some is told anew; memory stands -/
theorem Rel.setRowQ (h : Rel w0 FA ok0 E N σ a w L) {r : Root} {sz : Nat} {rows rows' : List (List Tr)} (hc : σ.content r = some (sz, rows)) (hlen : rows'.length = rows.length) {F' : Cells}
    (hrd : ∀ v, rootVal E a w L r = some v → rowIs v (L.row r) → Rd w L.ok v (.sl true sz rows') F')
    (hap : ∀ i, i ≠ r.ix → Apart F' (L.at i)) (hok : Apart L.ok F') (hlive : ∀ b o, F' b o → b < w.heap.size ∧ (FA b o ∨ w0.heap.size ≤ b)) :
    Rel w0 FA ok0 E N (σ.setRowsQ r sz rows') a w (L.setF r F') := by
  rw [setRowsQ_N]
  exact h.rowsSet hc hlen rfl h.keeps (fun _ _ _ => ⟨rfl, rfl⟩) hrd hap hok hlive (fun _ _ => rfl) (Nat.le_refl _) (fun _ _ _ => rfl)
end
end Go.Mv
