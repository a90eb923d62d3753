/-
  A part of a theory of trees by which the functions of the program are walked: it proves no statement of the seat by itself; no conditions.
-/
import Derived.Test.YtdkjhbbddlognaaMvRel
namespace Go.Mv
set_option linter.unusedVariables false

section
variable {w0 : World} {FA ok0 : Cells} {E : Ent} {N : Nat} {σ : St} {a : Act} {w : World} {L : Lay}

theorem content_slot {σ : St} {d sz rows} : σ.content (.slot d) = some (sz, rows) ↔ σ.slot d = .tr none (.sl true sz rows) := by
  simp only [St.content]
  split <;> simp_all
theorem content_cell {σ : St} {b j sz rows} : σ.content (.cell b j) = some (sz, rows) ↔ ∃ cs, σ.box b = some cs ∧ cs[j]? = some (.tr none (.sl true sz rows)) := by
  simp only [St.content]
  split
  · rename_i cs h
    split <;> simp_all
  · simp_all

theorem rowOf_value {w : World} {ok : Cells} {v : Value} {sz : Nat} {rows : List (List Tr)} {F : Cells} (h : Rd w ok v (.sl true sz rows) F) :
    ∃ R : RowI, R.sz = sz ∧ R.n = rows.length ∧ rowIs v R ∧ Sub R.seg F ∧ (∀ x o, R.seg x o ↔ segV sz v x o) := by
  cases h with
  | nil => exact ⟨⟨none, 0, sz, 0⟩, rfl, rfl, .inr ⟨rfl, rfl, rfl, _, rfl⟩, fun x o h => by simp [RowI.seg] at h, fun x o => by simp [RowI.seg, segV, Cells.none]⟩
  | own0 => exact ⟨⟨none, 0, sz, 0⟩, rfl, rfl, .inr ⟨rfl, rfl, rfl, _, rfl⟩, fun x o h => by simp [RowI.seg] at h, fun x o => by simp [RowI.seg, segV, seg]⟩
  | own h1 h2 h3 h4 h5 h6 h7 h8 h9 =>
    rename_i b o len cap vs G
    refine ⟨⟨some (b, o), cap, sz, len⟩, rfl, h1.symm, .inl ⟨b, o, rfl, h2.1, rfl⟩, ?_, ?_⟩
    · rintro x p ⟨b', o', e, hx, h3, h4⟩
      simp at e; obtain ⟨rfl, rfl⟩ := e
      simp at h4
      have := h6 (p - o) (by omega)
      rw [Nat.add_sub_cancel' h3] at this
      rw [hx]; exact this.1
    · intro x p
      simp only [RowI.seg, segV, Option.some.injEq, Prod.mk.injEq]
      constructor
      · rintro ⟨_, _, ⟨rfl, rfl⟩, h⟩; exact h
      · intro h; exact ⟨b, o, ⟨rfl, rfl⟩, h⟩

theorem Rel.seg_sub (h : Rel w0 FA ok0 E N σ a w L) {r sz rows} (hc : σ.content r = some (sz, rows)) : Sub (L.row r).seg (L.at r.ix) := by
  obtain ⟨e1, e2, v, hv, hR⟩ := h.roots r sz rows hc
  have key : ∀ {F}, Rd w L.ok v (.sl true sz rows) F → Sub (L.row r).seg F := by
    intro F hd x o hx
    obtain ⟨R, q1, q2, q3, q4, q5⟩ := rowOf_value hd
    refine q4 x o ((q5 x o).2 ?_)
    obtain ⟨b, p, hb, hs⟩ := hx
    rcases hR with ⟨b', o', hb', hle, rfl⟩ | ⟨hb', _⟩
    · rw [hb] at hb'; simp at hb'; obtain ⟨rfl, rfl⟩ := hb'
      simpa [segV, e1] using hs
    · rw [hb] at hb'; cases hb'
  cases r with
  | slot d =>
    have hs := h.slots d
    rw [content_slot.1 hc] at hs
    simp only [rootVal, Option.some.injEq] at hv; subst hv
    cases hs with | tr hd => exact key hd
  | cell b j =>
    obtain ⟨cs, hb, hj⟩ := content_cell.1 hc
    obtain ⟨v', hv', _, hs, _⟩ := (h.boxes b cs hb).2 j _ hj
    simp only [rootVal] at hv; rw [hv'] at hv; simp at hv; subst hv
    cases hs with | tr hd => exact key hd
  | arg i j =>
    simp only [rootVal, Option.some.injEq] at hv; subst hv
    exact key (h.args i j sz rows hc).1

/-- what the row of a root covers stands where our own cells stand -/
theorem Rel.row_same (h : Rel w0 FA ok0 E N σ a w L) {w' : World} {r : Root} (hs : ∀ i, Same w w' (L.at i)) :
    ∀ b o, (L.row r).base = some (b, o) → ∀ k, k < (L.row r).cap * (L.row r).sz → World.at w' b (o + k) = World.at w b (o + k) := by
  intro b o hb k hk
  cases hc : σ.content r with
  | none => rw [h.norow r hc] at hb; cases hb
  | some c =>
    obtain ⟨sz, rows⟩ := c
    exact (hs r.ix b (o + k) (h.seg_sub hc b (o + k) ⟨b, o, hb, rfl, by omega, by omega⟩)).1

theorem putRow (s : SV) (v : Value) (w : World) (ok : Cells) (F : Cells) (σ : St) (L : Lay) (hv : SRel σ w L s v F) :
    ∃ R : RowI, (isOwn s = false → R.base = none) ∧ ∀ sz rows, s = .tr none (.sl true sz rows) → R.sz = sz ∧ R.n = rows.length ∧ rowIs v R := by
  cases hv with
  | tr hd =>
    rename_i t
    cases t with
    | sl o sz rows =>
      cases o with
      | true =>
        obtain ⟨R, q1, q2, q3, q4, q5⟩ := rowOf_value hd
        exact ⟨R, by simp [isOwn], fun sz' rows' e => by simp at e; obtain ⟨rfl, rfl⟩ := e; exact ⟨q1, q2, q3⟩⟩
      | false => exact ⟨⟨none, 0, 0, 0⟩, fun _ => rfl, fun _ _ e => by simp at e⟩
    | _ => exact ⟨⟨none, 0, 0, 0⟩, fun _ => rfl, fun _ _ e => by simp at e⟩
  | _ => exact ⟨⟨none, 0, 0, 0⟩, fun _ => rfl, fun _ _ e => by simp at e⟩

theorem getD_put (a : Act) (d i : Nat) (v : Value) (hd : d < a.tmps.size) :
    (a.put (some d) v).tmps.getD i undef = if i = d then v else a.tmps.getD i undef := by
  simp only [Act.put, Array.getD_eq_getD_getElem?]
  by_cases e : i = d
  · subst e; simp [hd]
  · simp [e, Array.getElem?_setIfInBounds_ne (Ne.symm e)]

/-- a slot takes a value; memory may have grown, or changed where we hold nothing -/
theorem Rel.put (h : Rel w0 FA ok0 E N σ a w L) {d : Nat} (hd : d < N) {s : SV} {v : Value} {F : Cells} {w' : World}
    (hsz : w.heap.size ≤ w'.heap.size) (hk : Keeps FA w0 w') (hs : ∀ i, Same w w' (L.at i)) (hok : Same w w' L.ok) (hsn : Same w w' L.sn)
    (hF : ∀ b o, F b o → b < w'.heap.size ∧ (FA b o ∨ w0.heap.size ≤ b)) (hFL : ∀ i, i ≠ .s d → Apart F (L.at i)) (hFo : Apart L.ok F)
    (hFs : Apart L.sn (tops s v)) (hv : SRel σ w' L s v F) :
    ∃ R, Rel w0 FA ok0 E N (σ.put d s) (a.put (some d) v) w' { L with slotF := fun i => if i = d then F else L.slotF i, row := fun r => if r = .slot d then R else L.row r } := by
  obtain ⟨R, hR1, hR2⟩ := putRow s v w' L.ok F σ L hv
  refine ⟨R, ?_⟩
  have hsize : d < a.tmps.size := by rw [h.size]; exact hd
  have later : Later σ w L (σ.put d s) w' { L with slotF := fun i => if i = d then F else L.slotF i, row := fun r => if r = .slot d then R else L.row r } :=
    { ver := fun r => by simp only [St.put]; split <;> omega
      row := fun r e => by
        simp only [St.put] at e
        by_cases hr : r = .slot d
        · simp [hr] at e
        · simp [hr]
      nver := fun r => by simp only [St.put]; split <;> omega
      nst := fun r e => by
        simp only [St.put] at e
        by_cases hr : r = .slot d
        · simp [hr] at e
        · simp only [hr, if_false]
          exact ⟨trivial, h.row_same hs⟩
      bver := fun b => Nat.le_refl _
      loc := fun b _ => rfl
      ep := Nat.le_refl _
      sn := fun _ => ⟨Sub.refl _, hsn⟩
      ok := Sub.refl _
      okw := hok }
  have later' : Later σ w' L (σ.put d s) w' { L with slotF := fun i => if i = d then F else L.slotF i, row := fun r => if r = .slot d then R else L.row r } :=
    { later with
      nst := fun r e => ⟨(later.nst r e).1, fun _ _ _ _ _ => rfl⟩
      sn := fun _ => ⟨Sub.refl _, Same.refl _ _⟩
      okw := Same.refl _ _ }
  exact
  { size := by simp [Act.put, h.size]
    defers := h.defers
    slots := fun i => by
      rw [getD_put _ _ _ _ hsize]
      by_cases e : i = d
      · subst e
        simp only [St.put, if_true]
        exact SRel.later later' hv (Same.refl _ _)
      · simp only [St.put, e, if_false]
        exact SRel.later later (h.slots i) (hs (.s i))
    boxes := fun b cs hb => by
      obtain ⟨h1, h2⟩ := h.boxes b cs hb
      refine ⟨h1, fun j s' hj => ?_⟩
      obtain ⟨v', e1, e2, e3, e4⟩ := h2 j s' hj
      have hj' : j < L.len b := by
        have := (List.getElem?_eq_some_iff.1 hj).1; omega
      have hm := hs (.m b j) _ _ ⟨hj', rfl, rfl⟩
      exact ⟨v', by rw [hm.1]; exact e1, by rw [hm.2]; exact e2, SRel.later later e3 (hs (.c b j)), e4⟩
    args := fun i j sz rows hc => ⟨Rd.keep hok (h.args i j sz rows hc).1 (hs (.a i j)), (h.args i j sz rows hc).2⟩
    ploc := h.ploc
    roots := fun r sz rows hc => by
      by_cases hr : r = .slot d
      · subst hr
        have hc' := content_slot.1 hc
        simp only [St.put, if_true] at hc'
        obtain ⟨x, y, z⟩ := hR2 sz rows hc'
        simp only [if_true]
        refine ⟨x, y, v, ?_, z⟩
        simp only [rootVal]; rw [getD_put _ _ _ _ hsize]; simp
      · have hc' : σ.content r = some (sz, rows) := by
          cases r with
          | slot i =>
            have hi : i ≠ d := fun e => hr (by rw [e])
            rw [content_slot] at hc ⊢
            simpa [St.put, hi] using hc
          | cell b j =>
            rw [content_cell] at hc ⊢
            simpa [St.put] using hc
          | arg i j => exact hc
        obtain ⟨x, y, v', hv', z⟩ := h.roots r sz rows hc'
        simp only [hr, if_false]
        refine ⟨x, y, v', ?_, z⟩
        cases r with
        | slot i =>
          have hi : i ≠ d := fun e => hr (by rw [e])
          simp only [rootVal] at hv' ⊢
          rw [getD_put _ _ _ _ hsize]; simpa [hi] using hv'
        | cell b j =>
          simp only [rootVal] at hv' ⊢
          obtain ⟨cs, hb, hj⟩ := content_cell.1 hc'
          have hl := (h.boxes b cs hb).1
          have hj' : j < L.len b := by have := (List.getElem?_eq_some_iff.1 hj).1; omega
          rw [(hs (.m b j) _ _ ⟨hj', rfl, rfl⟩).1]; exact hv'
        | arg i j => exact hv'
    norow := fun r hc => by
      by_cases hr : r = .slot d
      · subst hr
        simp only [if_true]
        apply hR1
        cases s with
        | tr e t =>
          cases t with
          | sl o sz rows =>
            cases o with
            | false => cases e <;> rfl
            | true =>
              cases e with
              | none => simp [St.content, St.put] at hc
              | some n => rfl
          | _ => cases e <;> rfl
        | _ => rfl
      · simp only [hr, if_false]
        apply h.norow
        cases r with
        | slot i =>
          have hi : i ≠ d := fun e => hr (by rw [e])
          simpa [St.content, St.put, hi] using hc
        | cell b j => simpa [St.content, St.put] using hc
        | arg i j => simpa [St.content, St.put] using hc
    sep := fun i j hij => by
      by_cases h1 : i = .s d
      · subst h1
        have h2 : j ≠ .s d := fun e => hij e.symm
        have := hFL j h2
        cases j <;> simp only [Lay.at] at * <;> first | exact this | skip
        rename_i k
        have hk : k ≠ d := fun e => h2 (by rw [e])
        simpa [hk] using this
      · by_cases h2 : j = .s d
        · subst h2
          have := (hFL i h1).symm
          cases i <;> simp only [Lay.at] at * <;> first | exact this | skip
          rename_i k
          have hk : k ≠ d := fun e => h1 (by rw [e])
          simpa [hk] using this
        · have := h.sep i j hij
          cases i <;> cases j <;> simp only [Lay.at] at * <;> simp_all
    okap := fun i => by
      by_cases h1 : i = .s d
      · subst h1; simpa [Lay.at] using hFo
      · have := h.okap i
        cases i <;> simp only [Lay.at] at * <;> simp_all
    snapS := fun i => by
      rw [getD_put _ _ _ _ hsize]
      by_cases e : i = d
      · subst e; simpa [St.put] using hFs
      · simpa [St.put, e] using h.snapS i
    snapM := h.snapM
    live := fun i b o hx => by
      by_cases h1 : i = .s d
      · subst h1; simp [Lay.at] at hx; exact hF b o hx
      · have := h.live i b o (by cases i <;> simp only [Lay.at] at * <;> simp_all)
        exact ⟨Nat.lt_of_lt_of_le this.1 hsz, this.2⟩
    liveS := fun b o hx => ⟨Nat.lt_of_lt_of_le (h.liveS b o hx).1 hsz, (h.liveS b o hx).2⟩
    liveO := fun b o hx => ⟨Nat.lt_of_lt_of_le (h.liveO b o hx).1 hsz, (h.liveO b o hx).2⟩
    keeps := hk }
end
end Go.Mv
