/-
  A part of a theory of trees by which the functions of the program are walked: it proves no statement of the seat by itself; no conditions.
-/
import Derived.Test.YtdkjhbbddlognaaMvBox
namespace Go.Mv
set_option linter.unusedVariables false
set_option linter.unusedSimpArgs false
section
variable {w0 : World} {FA ok0 : Cells} {E : Ent} {N : Nat} {σ : St} {a : Act} {w : World} {L : Lay}
variable {P : Program} {Q : Exit → Act → World → Prop} {Kr : Act → World → Prop} {o : Oper} {Γ : Env}

theorem newRows {new : List SV} {vs : List Value} {G : Nat → Cells} {w' : World} (nc : NewCells σ w' L new vs G w0 FA) :
    ∃ RR : Nat → RowI, ∀ k : Nat, (∀ (s : SV) (v : Value), new[k]? = some s → vs[k]? = some v → (isOwn s = false → (RR k).base = none) ∧
      ∀ sz rows, s = .tr none (.sl true sz rows) → (RR k).sz = sz ∧ (RR k).n = rows.length ∧ rowIs v (RR k)) ∧ (new[k]? = none → (RR k).base = none) := by
  have hrows : ∀ k : Nat, ∃ R : RowI, (∀ (s : SV) (v : Value), new[k]? = some s → vs[k]? = some v → (isOwn s = false → R.base = none) ∧ ∀ sz rows, s = .tr none (.sl true sz rows) → R.sz = sz ∧ R.n = rows.length ∧ rowIs v R) ∧ (new[k]? = none → R.base = none) := by
    intro k
    cases hs : new[k]? with
    | none => exact ⟨⟨none, 0, 0, 0⟩, ⟨fun s v h => by simp at h, fun _ => rfl⟩⟩
    | some s =>
      have hlt : k < vs.length := by rw [nc.len]; exact (List.getElem?_eq_some_iff.1 hs).1
      obtain ⟨R, r1, r2⟩ := putRow s vs[k] w' L.ok (G k) σ L (nc.rel k s _ hs (List.getElem?_eq_getElem hlt))
      refine ⟨R, fun s' v' h1 h2 => ?_, fun h => by cases h⟩
      cases h1
      rw [List.getElem?_eq_getElem hlt] at h2; cases h2
      exact ⟨r1, r2⟩
  exact ⟨fun k => Classical.choose (hrows k), fun k => Classical.choose_spec (hrows k)⟩

/-- a new box -/
theorem Rel.newBox (h : Rel w0 FA ok0 E N σ a w L) (b : Nat) {new : List SV} {vs : List Value} {G : Nat → Cells} {T : TypeId}
    (nc : NewCells σ (w.alloc (.cells vs.toArray T)) L new vs G w0 FA)
    (hap : ∀ k i, (∀ j, i ≠ .c b j) → (∀ j, i ≠ .m b j) → Apart (G k) (L.at i)) (hlt : ∀ k x p, G k x p → x < w.heap.size) :
    ∃ L', Rel w0 FA ok0 E N (σ.newBox b new) a (w.alloc (.cells vs.toArray T)) L' ∧ L'.loc b = (w.heap.size, 0) := by
  obtain ⟨RR, hRR⟩ := newRows nc
  let L' : Lay := { L with cellF := fun b' j => if b' = b then (if j < new.length then G j else Cells.none) else L.cellF b' j
                           loc := fun b' => if b' = b then (w.heap.size, 0) else L.loc b'
                           len := fun b' => if b' = b then new.length else L.len b'
                           row := fun r => match r with | .cell b' j => if b' = b then RR j else L.row r | r => L.row r }
  have hext : ∀ x, x < w.heap.size → (w.alloc (.cells vs.toArray T)).heap[x]? = w.heap[x]? := by
    intro x hx
    show (w.heap.push _)[x]? = _
    rw [Array.getElem?_push_lt hx, Array.getElem?_eq_getElem hx]
  have hsz : (w.alloc (.cells vs.toArray T)).heap.size = w.heap.size + 1 := by show (w.heap.push _).size = _; simp
  have hgrow : w.heap.size ≤ (w.alloc (.cells vs.toArray T)).heap.size := by omega
  have hsame : ∀ i, Same w (w.alloc (.cells vs.toArray T)) (L.at i) := fun i => same_of_ext hext fun x p hx => (h.live i x p hx).1
  have hok : Same w (w.alloc (.cells vs.toArray T)) L.ok := same_of_ext hext fun x p hx => (h.liveO x p hx).1
  have hsn : Same w (w.alloc (.cells vs.toArray T)) L.sn := same_of_ext hext fun b o hx => (h.liveS b o hx).1
  have later : Later σ w L (σ.newBox b new) (w.alloc (.cells vs.toArray T)) L' :=
    { ver := fun r => by simp only [St.newBox]; cases r <;> simp <;> split <;> omega
      row := fun r e => by
        cases r with
        | slot d => rfl
        | arg i j => rfl
        | cell b' j =>
          simp only [St.newBox] at e
          by_cases hin : b' = b
          · simp [hin] at e
          · simp only [L', hin, if_false]
      nver := fun r => by simp only [St.newBox]; cases r <;> simp <;> split <;> omega
      nst := fun r e => by
        refine ⟨?_, h.row_same hsame⟩
        cases r with
        | slot d => rfl
        | arg i j => rfl
        | cell b' j =>
          simp only [St.newBox] at e
          by_cases hin : b' = b
          · simp [hin] at e
          · simp only [L', hin, if_false]
      bver := fun b' => by simp only [St.newBox]; split <;> omega
      loc := fun b' e => by
        simp only [St.newBox] at e
        by_cases hin : b' = b
        · simp [hin] at e
        · simp only [L', hin, if_false]
      ep := Nat.le_refl _
      sn := fun _ => ⟨Sub.refl _, hsn⟩
      ok := Sub.refl _
      okw := hok }
  have later' : Later σ (w.alloc (.cells vs.toArray T)) L (σ.newBox b new) (w.alloc (.cells vs.toArray T)) L' :=
    { later with nst := fun r e => ⟨(later.nst r e).1, fun _ _ _ _ _ => rfl⟩, sn := fun _ => ⟨Sub.refl _, Same.refl _ _⟩, okw := Same.refl _ _ }
  have hat : ∀ i, (∀ j, i ≠ .c b j) → (∀ j, i ≠ .m b j) → L'.at i = L.at i := by
    intro i h1 h2
    cases i with
    | s d => rfl
    | a i' j => rfl
    | c b' j => simp only [Lay.at, L']; rw [if_neg]; exact fun e => h1 j (by rw [e])
    | m b' j =>
      have e : b' ≠ b := fun e => h2 j (by rw [e])
      simp only [Lay.at, L', e, if_false]
  have hatc : ∀ j, L'.at (.c b j) = if j < new.length then G j else Cells.none := fun j => by simp only [Lay.at, L', if_true]
  have hatm : ∀ j x p, L'.at (.m b j) x p → x = w.heap.size ∧ p = j ∧ j < new.length := fun j x p hx => by
    simp only [Lay.at, L', if_true] at hx; exact ⟨hx.2.1, by omega, hx.1⟩
  have hatc' : ∀ j x p, L'.at (.c b j) x p → j < new.length ∧ G j x p := fun j x p hx => by
    rw [hatc] at hx
    split at hx
    · exact ⟨by assumption, hx⟩
    · exact hx.elim
  have cases3 : ∀ i : Ix, ((∀ j, i ≠ .c b j) ∧ (∀ j, i ≠ .m b j)) ∨ (∃ j, i = .c b j) ∨ (∃ j, i = .m b j) := by
    intro i
    cases i with
    | s d => left; simp
    | a i' j => left; simp
    | c b' j => by_cases e : b' = b
                · right; left; exact ⟨j, by rw [e]⟩
                · left; constructor <;> simp [e]
    | m b' j => by_cases e : b' = b
                · right; right; exact ⟨j, by rw [e]⟩
                · left; constructor <;> simp [e]
  have sep1 : ∀ i j : Ix, (∀ k, i ≠ .c b k) → (∀ k, i ≠ .m b k) → i ≠ j → Apart (L'.at i) (L'.at j) := by
    intro i j h1 h2 hij
    rw [hat i h1 h2]
    rcases cases3 j with ⟨h3, h4⟩ | ⟨k, rfl⟩ | ⟨k, rfl⟩
    · rw [hat j h3 h4]; exact h.sep i j hij
    · intro x p hx hy; exact hap k i h1 h2 x p (hatc' k x p hy).2 hx
    · intro x p hx hy; have := (h.live i x p hx).1; have := (hatm k x p hy).1; omega
  refine ⟨L', ?_, by simp [L']⟩
  exact
  { size := h.size
    defers := h.defers
    slots := fun d => SRel.later later (h.slots d) (hsame (.s d))
    boxes := fun b' cs' he => by
      by_cases e : b' = b
      · subst e
        simp [St.newBox] at he; subst he
        refine ⟨by simp [L'], fun j s hj => ?_⟩
        have hlt' : j < new.length := (List.getElem?_eq_some_iff.1 hj).1
        have hlt : j < vs.length := by rw [nc.len]; exact hlt'
        refine ⟨vs[j], ?_, ?_, ?_, nc.snap _ s _ hj (List.getElem?_eq_getElem hlt)⟩
        · simp only [L', if_true, Nat.zero_add]; rw [at_alloc_new]; simp [hlt]
        · simp only [L', if_true, Nat.zero_add]; rw [fz_alloc_new]
        · have e : L'.cellF b' j = G j := by simp only [L', if_true, hlt']
          rw [e]
          exact SRel.later later' (nc.rel _ s _ hj (List.getElem?_eq_getElem hlt)) (Same.refl _ _)
      · simp [St.newBox, e] at he
        refine ⟨by simp only [L', e, if_false]; exact (h.boxes b' cs' he).1, fun j s hj => ?_⟩
        obtain ⟨v, e1, e2, e3, e4⟩ := (h.boxes b' cs' he).2 j s hj
        have hj' : j < L.len b' := by have := (List.getElem?_eq_some_iff.1 hj).1; have := (h.boxes b' cs' he).1; omega
        have hm := hsame (.m b' j) _ _ ⟨hj', rfl, rfl⟩
        have hl : L'.loc b' = L.loc b' := by simp only [L', e, if_false]
        have hcf : L'.cellF b' j = L.cellF b' j := by simp only [L', e, if_false]
        refine ⟨v, by rw [hl, hm.1]; exact e1, by rw [hl, hm.2]; exact e2, ?_, e4⟩
        rw [hcf]
        exact SRel.later later e3 (hsame (.c b' j))
    args := fun i j sz rows hc => ⟨Rd.keep hok (h.args i j sz rows hc).1 (hsame (.a i j)), (h.args i j sz rows hc).2⟩
    ploc := fun b' hb => by
      simp only [St.newBox] at hb
      by_cases e : b' = b
      · simp [e] at hb
      · simp only [L', e, if_false] at hb ⊢; exact h.ploc b' hb
    roots := fun r sz rows hc => by
      cases r with
      | slot d =>
        obtain ⟨x, y, v, hv, z⟩ := h.roots (.slot d) sz rows (content_slot.2 (by have := content_slot.1 hc; exact this))
        exact ⟨x, y, v, hv, z⟩
      | arg i j => exact h.roots (.arg i j) sz rows hc
      | cell b' j =>
        obtain ⟨cs', he, hj⟩ := content_cell.1 hc
        by_cases e : b' = b
        · subst e
          simp [St.newBox] at he; subst he
          have hlt' : j < new.length := (List.getElem?_eq_some_iff.1 hj).1
          have hlt : j < vs.length := by rw [nc.len]; exact hlt'
          obtain ⟨q1, q2, q3⟩ := ((hRR j).1 _ _ hj (List.getElem?_eq_getElem hlt)).2 sz rows rfl
          have e2 : L'.row (.cell b' j) = RR j := by simp only [L', if_true]
          rw [e2]
          refine ⟨q1, q2, vs[j], ?_, q3⟩
          simp only [rootVal, L', if_true, Nat.zero_add]; rw [at_alloc_new]; simp [hlt]
        · simp [St.newBox, e] at he
          obtain ⟨x, y, v, hv, z⟩ := h.roots (.cell b' j) sz rows (content_cell.2 ⟨cs', he, hj⟩)
          have e2 : L'.row (.cell b' j) = L.row (.cell b' j) := by simp only [L', e, if_false]
          rw [e2]
          refine ⟨x, y, v, ?_, z⟩
          have hj' : j < L.len b' := by have := (List.getElem?_eq_some_iff.1 hj).1; have := (h.boxes b' cs' he).1; omega
          have hm := hsame (.m b' j) _ _ ⟨hj', rfl, rfl⟩
          have hl : L'.loc b' = L.loc b' := by simp only [L', e, if_false]
          simp only [rootVal] at hv ⊢
          rw [hl, hm.1]; exact hv
    norow := fun r hc => by
      cases r with
      | slot d => exact h.norow (.slot d) (by simpa [St.content, St.newBox] using hc)
      | arg i j => exact h.norow (.arg i j) (by simpa [St.content, St.newBox] using hc)
      | cell b' j =>
        by_cases e : b' = b
        · subst e
          have hr : L'.row (.cell b' j) = RR j := by simp only [L', if_true]
          rw [hr]
          cases hs : new[j]? with
          | none => exact (hRR j).2 hs
          | some s =>
            have hlt' : j < new.length := (List.getElem?_eq_some_iff.1 hs).1
            have hlt : j < vs.length := by rw [nc.len]; exact hlt'
            refine ((hRR j).1 _ _ hs (List.getElem?_eq_getElem hlt)).1 ?_
            cases s with
            | tr e t =>
              cases t with
              | sl ow sz rows =>
                cases ow with
                | false => cases e <;> rfl
                | true =>
                  cases e with
                  | none =>
                    exfalso
                    have : (σ.newBox b' new).content (.cell b' j) = some (sz, rows) := content_cell.2 ⟨new, by simp [St.newBox], hs⟩
                    rw [hc] at this; cases this
                  | some n => rfl
              | _ => cases e <;> rfl
            | _ => rfl
        · have hr : L'.row (.cell b' j) = L.row (.cell b' j) := by simp only [L', e, if_false]
          rw [hr]
          exact h.norow (.cell b' j) (by simpa [St.content, St.newBox, e] using hc)
    sep := fun i j hij => by
      rcases cases3 i with ⟨h1, h2⟩ | hi
      · exact sep1 i j h1 h2 hij
      · rcases cases3 j with ⟨h3, h4⟩ | hj
        · exact (sep1 j i h3 h4 (Ne.symm hij)).symm
        · rcases hi with ⟨i', rfl⟩ | ⟨i', rfl⟩ <;> rcases hj with ⟨j', rfl⟩ | ⟨j', rfl⟩
          · intro x p hx hy; exact nc.sep i' j' (fun e => hij (by rw [e])) x p (hatc' _ x p hx).2 (hatc' _ x p hy).2
          · intro x p hx hy; have := hlt _ x p (hatc' _ x p hx).2; have := (hatm _ x p hy).1; omega
          · intro x p hx hy; have := hlt _ x p (hatc' _ x p hy).2; have := (hatm _ x p hx).1; omega
          · intro x p hx hy; have h1 := (hatm _ x p hx).2.1; have h2 := (hatm _ x p hy).2.1; exact hij (by rw [← h1, ← h2])
    okap := fun i => by
      rcases cases3 i with ⟨h1, h2⟩ | ⟨k, rfl⟩ | ⟨k, rfl⟩
      · rw [hat i h1 h2]; exact h.okap i
      · intro x p hx hy; exact nc.okap k x p hx (hatc' _ x p hy).2
      · intro x p hx hy; have := (h.liveO x p hx).1; have := (hatm _ x p hy).1; omega
    snapS := h.snapS
    snapM := fun b' j => by
      by_cases e : b' = b
      · subst e; intro x p hx hy; have := (h.liveS x p hx).1; have := (hatm _ x p hy).1; omega
      · rw [hat _ (by simp) (by simp [e])]; exact h.snapM b' j
    live := fun i x p hx => by
      rcases cases3 i with ⟨h1, h2⟩ | ⟨k, rfl⟩ | ⟨k, rfl⟩
      · rw [hat i h1 h2] at hx; exact ⟨Nat.lt_of_lt_of_le (h.live i x p hx).1 hgrow, (h.live i x p hx).2⟩
      · exact nc.live k x p (hatc' _ x p hx).2
      · obtain ⟨rfl, _⟩ := hatm _ x p hx
        exact ⟨by omega, .inr h.keeps.1⟩
    liveS := fun x p hx => ⟨Nat.lt_of_lt_of_le (h.liveS x p hx).1 hgrow, (h.liveS x p hx).2⟩
    liveO := fun x p hx => ⟨Nat.lt_of_lt_of_le (h.liveO x p hx).1 hgrow, (h.liveO x p hx).2⟩
    keeps := h.keeps.trans (keeps_ext hgrow hext (still_alloc w vs.toArray T)) (Sub.refl _) (fun _ _ h _ => h) }
end
end Go.Mv
