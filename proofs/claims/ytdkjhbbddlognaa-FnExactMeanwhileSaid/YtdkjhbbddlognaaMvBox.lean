/-
  A part of a theory of trees by which the functions of the program are walked: it proves no statement of the seat by itself; no conditions.
-/
import Derived.Test.YtdkjhbbddlognaaMvCall
namespace Go.Mv
set_option linter.unusedVariables false
set_option linter.unusedSimpArgs false
section
variable {w0 : World} {FA ok0 : Cells} {E : Ent} {N : Nat} {σ : St} {a : Act} {w : World} {L : Lay}
variable {P : Program} {Q : Exit → Act → World → Prop} {Kr : Act → World → Prop} {o : Oper} {Γ : Env}

theorem put_self (a : Act) (t : Nat) : a.put (some t) (a.tmps.getD t undef) = a := by
  cases a with | mk tmps defers =>
  simp only [Act.put]
  congr 1
  apply Array.ext_getElem?
  intro i
  by_cases hi : t = i
  · subst hi
    by_cases h : t < tmps.size
    · simp [h]
    · simp [Nat.not_lt.1 h]
  · rw [Array.getElem?_setIfInBounds_ne hi]

/-- the content of a slot goes out of it -/
theorem Rel.take (h : Rel w0 FA ok0 E N σ a w L) {t : Nat} (ht : t < N) :
    ∃ L', Rel w0 FA ok0 E N (σ.kill t) a w L' ∧ SRel (σ.kill t) w L' (σ.slot t) (a.tmps.getD t undef) (L.slotF t) ∧ (∀ i, Apart (L.slotF t) (L'.at i)) ∧
      L'.ok = L.ok ∧ L'.sn = L.sn ∧ L'.loc = L.loc ∧ L'.len = L.len ∧ (∀ b j, L'.cellF b j = L.cellF b j) := by
  obtain ⟨R, hR⟩ := h.put (d := t) ht (s := .dead) (v := a.tmps.getD t undef) (F := Cells.none) (w' := w) (Nat.le_refl _) h.keeps (fun _ => Same.refl _ _) (Same.refl _ _) (Same.refl _ _)
    (fun _ _ h => h.elim) (fun _ _ => Apart.none_l _) (Apart.none_r _) (by simp only [tops]; exact Apart.none_r _) .dead
  rw [put_self] at hR
  refine ⟨_, hR, ?_, ?_, rfl, rfl, rfl, rfl, fun _ _ => rfl⟩
  · refine SRel.later ?_ (h.slots t) (Same.refl _ _)
    exact
    { ver := fun r => by simp only [St.kill, St.put]; split <;> omega
      row := fun r e => by
        simp only [St.kill, St.put] at e
        by_cases hr : r = .slot t
        · simp [hr] at e
        · simp [hr]
      nver := fun r => by simp only [St.kill, St.put]; split <;> omega
      nst := fun r e => by
        simp only [St.kill, St.put] at e
        by_cases hr : r = .slot t
        · simp [hr] at e
        · simp only [hr, if_false]; exact ⟨trivial, fun _ _ _ _ _ => trivial⟩
      bver := fun b => Nat.le_refl _
      loc := fun b _ => rfl
      ep := Nat.le_refl _
      sn := fun _ => ⟨Sub.refl _, Same.refl _ _⟩
      ok := Sub.refl _
      okw := Same.refl _ _ }
  · intro i
    cases i with
    | s d =>
      simp only [Lay.at]
      by_cases e : d = t
      · simp [e]; exact Apart.none_r _
      · simp only [e, if_false]
        exact h.sep (.s t) (.s d) (by simp; exact fun x => e x.symm)
    | c b j => exact h.sep (.s t) (.c b j) (by simp)
    | m b j => exact h.sep (.s t) (.m b j) (by simp)
    | a i j => exact h.sep (.s t) (.a i j) (by simp)

theorem SRelL.split : ∀ {ss : List SV} {vs : List Value} {F : Cells}, SRelL σ w L ss vs F → ∃ G : Nat → Cells, (∀ j, Sub (G j) F) ∧ (∀ i j, i ≠ j → Apart (G i) (G j)) ∧
    ∀ j s v, ss[j]? = some s → vs[j]? = some v → SRel σ w L s v (G j)
  | [], vs, F, h => ⟨fun _ => Cells.none, fun _ => Sub.none _, fun _ _ _ => Apart.none_l _, fun j s v hs => by simp at hs⟩
  | s :: ss, vs, F, h => by
    cases h with
    | cons h1 h2 h3 h4 h5 =>
      rename_i v vs F1 F2
      obtain ⟨G, g1, g2, g3⟩ := SRelL.split h5
      refine ⟨fun j => match j with | 0 => F1 | j + 1 => G j, fun j => ?_, fun i j hij => ?_, fun j s' v' hs hv => ?_⟩
      · cases j with
        | zero => exact h1
        | succ j => exact (g1 j).trans h2
      · cases i with
        | zero => cases j with
          | zero => exact absurd rfl hij
          | succ j => exact h3.sub (Sub.refl _) (g1 j)
        | succ i => cases j with
          | zero => exact (h3.sub (Sub.refl _) (g1 i)).symm
          | succ j => exact g2 i j (fun e => hij (by rw [e]))
      · cases j with
        | zero => simp at hs hv; subst hs; subst hv; exact h4
        | succ j => simp at hs hv; exact g3 j s' v' hs hv

theorem tops_get : ∀ {ss : List SV} {vs : List Value} {j : Nat} {s : SV} {v : Value}, ss[j]? = some s → vs[j]? = some v → Sub (tops s v) (topsL ss vs)
  | [], vs, j, s, v, h, _ => by simp at h
  | s0 :: ss, [], j, s, v, _, h => by simp at h
  | s0 :: ss, v0 :: vs, j, s, v, h, h' => by
    cases j with
    | zero => simp at h h'; subst h; subst h'; simp only [topsL]; exact Sub.or_l _ _
    | succ j => simp at h h'; simp only [topsL]; exact (tops_get h h').trans (Sub.or_r _ _)

/-- where the cells of b from off on, n of them, lie -/
def Lay.part (L : Lay) (b off n : Nat) : Cells := seg (L.loc b).1 ((L.loc b).2 + off) n

structure NewCells (σ : St) (w : World) (L : Lay) (new : List SV) (vs : List Value) (G : Nat → Cells) (w0 : World) (FA : Cells) : Prop where
  len : vs.length = new.length
  rel : ∀ (k : Nat) (s : SV) (v : Value), new[k]? = some s → vs[k]? = some v → SRel σ w L s v (G k)
  sep : ∀ i j, i ≠ j → Apart (G i) (G j)
  okap : ∀ k, Apart L.ok (G k)
  live : ∀ k b o, G k b o → b < w.heap.size ∧ (FA b o ∨ w0.heap.size ≤ b)
  snap : ∀ (k : Nat) (s : SV) (v : Value), new[k]? = some s → vs[k]? = some v → Apart L.sn (tops s v)

theorem splice_get {α : Type} (cs new : List α) (off j : Nat) (h : off + new.length ≤ cs.length) :
    (cs.take off ++ new ++ cs.drop (off + new.length))[j]? = if off ≤ j ∧ j < off + new.length then new[j - off]? else cs[j]? := by
  by_cases h1 : j < off
  · rw [if_neg (by omega), List.append_assoc, List.getElem?_append_left (by simp; omega), List.getElem?_take_of_lt h1]
  · by_cases h2 : j < off + new.length
    · rw [if_pos ⟨by omega, h2⟩, List.append_assoc, List.getElem?_append_right (by simp; omega), List.getElem?_append_left (by simp; omega)]
      simp [Nat.min_eq_left (show off ≤ cs.length by omega)]
    · rw [if_neg (by omega), List.getElem?_append_right (by simp; omega)]
      simp only [List.length_append, List.length_take, List.getElem?_drop]
      rw [Nat.min_eq_left (show off ≤ cs.length by omega)]
      congr 1; omega

/-- cells of a box are written -/
theorem Rel.setBox (h : Rel w0 FA ok0 E N σ a w L) {b off : Nat} {cs new : List SV} (hb : σ.box b = some cs) (hlen : off + new.length ≤ cs.length) {w' : World} {vs : List Value} {G : Nat → Cells}
    (hsz : w'.heap.size = w.heap.size) (hk : Keeps FA w0 w') (hsame : ∀ x p, ¬ L.part b off new.length x p → World.at w' x p = World.at w x p ∧ World.fz w' x p = World.fz w x p)
    (hnew : ∀ k v, vs[k]? = some v → World.at w' (L.loc b).1 ((L.loc b).2 + off + k) = some v ∧ World.fz w' (L.loc b).1 ((L.loc b).2 + off + k) = false)
    (nc : NewCells σ w' L new vs G w0 FA) (hap : ∀ k i, (∀ j, i = .c b j → ¬ (off ≤ j ∧ j < off + new.length)) → Apart (G k) (L.at i)) :
    ∃ L', Rel w0 FA ok0 E N (σ.setBox b off new) a w' L' ∧ Later σ w L (σ.setBox b off new) w' L' ∧ L'.slotF = L.slotF ∧ L'.loc = L.loc ∧ L'.len = L.len ∧ L'.ok = L.ok ∧ L'.sn = L.sn ∧
      (∀ i, (∀ j, i = .c b j → ¬ (off ≤ j ∧ j < off + new.length)) → L'.at i = L.at i) ∧ (∀ j, off ≤ j ∧ j < off + new.length → L'.cellF b j = G (j - off)) := by
  have hbl := (h.boxes b cs hb).1
  -- the rows of the new cells
  have hrows : ∀ k : Nat, ∃ R : RowI, (∀ (s : SV) (v : Value), new[k]? = some s → vs[k]? = some v → (isOwn s = false → R.base = none) ∧ ∀ sz rows, s = .tr none (.sl true sz rows) → R.sz = sz ∧ R.n = rows.length ∧ rowIs v R) ∧ (new[k]? = none → R.base = none) := by
    intro k
    cases hs : new[k]? with
    | none => exact ⟨⟨none, 0, 0, 0⟩, ⟨fun s v h => by simp at h, fun _ => rfl⟩⟩
    | some s =>
      have hlt : k < vs.length := by rw [nc.len]; exact (List.getElem?_eq_some_iff.1 hs).1
      obtain ⟨R, r1, r2⟩ := putRow s vs[k] w' L.ok (G k) σ L (nc.rel k s _ hs (List.getElem?_eq_getElem hlt))
      refine ⟨R, fun s' v' h1 h2 => ?_, fun h => by cases h⟩
      cases h1
      rw [List.getElem?_eq_getElem hlt] at h2; cases h2
      exact ⟨r1, r2⟩
  obtain ⟨RR, hRR⟩ : ∃ RR : Nat → RowI, ∀ k : Nat, (∀ (s : SV) (v : Value), new[k]? = some s → vs[k]? = some v → (isOwn s = false → (RR k).base = none) ∧ ∀ sz rows, s = .tr none (.sl true sz rows) → (RR k).sz = sz ∧ (RR k).n = rows.length ∧ rowIs v (RR k)) ∧ (new[k]? = none → (RR k).base = none) :=
    ⟨fun k => Classical.choose (hrows k), fun k => Classical.choose_spec (hrows k)⟩
  let In : Nat → Nat → Prop := fun b' j => b' = b ∧ off ≤ j ∧ j < off + new.length
  let L' : Lay := { L with cellF := fun b' j => if b' = b ∧ off ≤ j ∧ j < off + new.length then G (j - off) else L.cellF b' j
                           row := fun r => match r with | .cell b' j => if b' = b ∧ off ≤ j ∧ j < off + new.length then RR (j - off) else L.row r | r => L.row r }
  have hmem : ∀ x p, L.part b off new.length x p → ∃ j, off ≤ j ∧ j < off + new.length ∧ L.at (.m b j) x p := by
    rintro x p ⟨rfl, h1, h2⟩
    exact ⟨p - (L.loc b).2, by omega, by omega, by omega, rfl, by omega⟩
  -- what is not those cells stands
  have hat : ∀ i, (∀ j, i = .m b j → ¬ (off ≤ j ∧ j < off + new.length)) → Same w w' (L.at i) := by
    intro i hi x p hx
    refine hsame x p fun hp => ?_
    obtain ⟨j, j1, j2, hj⟩ := hmem x p hp
    by_cases e : i = .m b j
    · exact hi j e ⟨j1, j2⟩
    · exact h.sep i (.m b j) e x p hx hj
  have hok : Same w w' L.ok := fun x p hx => hsame x p fun hp => by
    obtain ⟨j, _, _, hj⟩ := hmem x p hp
    exact h.okap _ x p hx hj
  have hsn : Same w w' L.sn := fun x p hx => hsame x p fun hp => by
    obtain ⟨j, _, _, hj⟩ := hmem x p hp
    exact h.snapM b j x p hx hj
  have hrowsame : ∀ r, ∀ bb p, (L.row r).base = some (bb, p) → ∀ k, k < (L.row r).cap * (L.row r).sz → World.at w' bb (p + k) = World.at w bb (p + k) := by
    intro r bb p hbase k hkk
    cases hc : σ.content r with
    | none => rw [h.norow r hc] at hbase; cases hbase
    | some c =>
      obtain ⟨sz, rows⟩ := c
      exact (hat r.ix (by intro j e; cases r <;> simp [Root.ix] at e) bb (p + k) (h.seg_sub hc bb (p + k) ⟨bb, p, hbase, rfl, by omega, by omega⟩)).1
  have later : Later σ w L (σ.setBox b off new) w' L' :=
    { ver := fun r => by simp only [St.setBox]; cases r <;> simp <;> split <;> omega
      row := fun r e => by
        cases r with
        | slot d => rfl
        | arg i j => rfl
        | cell b' j =>
          simp only [St.setBox] at e
          by_cases hin : b' = b ∧ off ≤ j ∧ j < off + new.length
          · simp [hin] at e
          · simp only [L', hin, if_false]
      nver := fun r => by simp only [St.setBox]; cases r <;> simp <;> split <;> omega
      nst := fun r e => by
        refine ⟨?_, hrowsame r⟩
        cases r with
        | slot d => rfl
        | arg i j => rfl
        | cell b' j =>
          simp only [St.setBox] at e
          by_cases hin : b' = b ∧ off ≤ j ∧ j < off + new.length
          · simp [hin] at e
          · simp only [L', hin, if_false]
      bver := fun _ => Nat.le_refl _
      loc := fun _ _ => rfl
      ep := Nat.le_refl _
      sn := fun _ => ⟨Sub.refl _, hsn⟩
      ok := Sub.refl _
      okw := hok }
  have later' : Later σ w' L (σ.setBox b off new) w' L' :=
    { later with nst := fun r e => ⟨(later.nst r e).1, fun _ _ _ _ _ => rfl⟩, sn := fun _ => ⟨Sub.refl _, Same.refl _ _⟩, okw := Same.refl _ _ }
  have hat' : ∀ i, (∀ j, i = .c b j → ¬ (off ≤ j ∧ j < off + new.length)) → L'.at i = L.at i := by
    intro i hi
    cases i with
    | s d => rfl
    | m b' j => rfl
    | a i' j => rfl
    | c b' j =>
      simp only [Lay.at, L']
      rw [if_neg]
      rintro ⟨rfl, hj⟩
      exact hi j rfl hj
  have hin' : ∀ j, off ≤ j ∧ j < off + new.length → L'.cellF b j = G (j - off) := by
    intro j hj
    simp only [L']
    rw [if_pos ⟨trivial, hj⟩]
  refine ⟨L', ?_, later, rfl, rfl, rfl, rfl, rfl, hat', hin'⟩
  have hbox : ∀ b' cs', (σ.setBox b off new).box b' = some cs' → (b' = b ∧ cs' = cs.take off ++ new ++ cs.drop (off + new.length)) ∨ (b' ≠ b ∧ σ.box b' = some cs') := by
    intro b' cs' he
    simp only [St.setBox] at he
    by_cases e : b' = b
    · left; simp [e, hb] at he; exact ⟨e, by rw [← he]; simp⟩
    · right; simp [e] at he; exact ⟨e, he⟩
  have hcell : ∀ b' cs', (σ.setBox b off new).box b' = some cs' → cs'.length = L.len b' ∧ ∀ j s, cs'[j]? = some s →
      ((b' = b ∧ off ≤ j ∧ j < off + new.length) ∧ new[j - off]? = some s) ∨ (¬ (b' = b ∧ off ≤ j ∧ j < off + new.length) ∧ ∃ cs0, σ.box b' = some cs0 ∧ cs0[j]? = some s) := by
    intro b' cs' he
    rcases hbox b' cs' he with ⟨rfl, rfl⟩ | ⟨e, he'⟩
    · refine ⟨by simp; omega, fun j s hj => ?_⟩
      rw [splice_get _ _ _ _ hlen] at hj
      split at hj
      · rename_i hin; exact .inl ⟨⟨rfl, hin⟩, hj⟩
      · rename_i hin; exact .inr ⟨fun x => hin x.2, cs, hb, hj⟩
    · exact ⟨(h.boxes b' cs' he').1, fun j s hj => .inr ⟨fun x => e x.1, cs', he', hj⟩⟩
  exact
  { size := h.size
    defers := h.defers
    slots := fun d => SRel.later later (h.slots d) (hat (.s d) (by intro j e; cases e))
    boxes := fun b' cs' he => by
      obtain ⟨hl, hc⟩ := hcell b' cs' he
      refine ⟨hl, fun j s hj => ?_⟩
      rcases hc j s hj with ⟨⟨rfl, h1, h2⟩, hs⟩ | ⟨hin, cs0, hb0, hs⟩
      · have hlt : j - off < vs.length := by rw [nc.len]; omega
        have hv := hnew (j - off) _ (List.getElem?_eq_getElem hlt)
        rw [show (L.loc b').2 + off + (j - off) = (L.loc b').2 + j by omega] at hv
        refine ⟨vs[j - off], hv.1, hv.2, ?_, nc.snap _ s _ hs (List.getElem?_eq_getElem hlt)⟩
        have : L'.cellF b' j = G (j - off) := hin' j ⟨h1, h2⟩
        rw [this]
        exact SRel.later later' (nc.rel _ s _ hs (List.getElem?_eq_getElem hlt)) (Same.refl _ _)
      · obtain ⟨v, e1, e2, e3, e4⟩ := (h.boxes b' cs0 hb0).2 j s hs
        have hj' : j < L.len b' := by have := (List.getElem?_eq_some_iff.1 hs).1; have := (h.boxes b' cs0 hb0).1; omega
        have hm := hat (.m b' j) (by rintro j' e hj'; cases e; exact hin ⟨rfl, hj'⟩) _ _ ⟨hj', rfl, rfl⟩
        have hcf : L'.cellF b' j = L.cellF b' j := by simp only [L']; rw [if_neg hin]
        refine ⟨v, by show World.at w' (L.loc b').1 _ = _; rw [hm.1]; exact e1, by show World.fz w' (L.loc b').1 _ = _; rw [hm.2]; exact e2, ?_, e4⟩
        rw [hcf]
        exact SRel.later later e3 (hat (.c b' j) (by intro j e; cases e))
    args := fun i j sz rows hc => ⟨Rd.keep hok (h.args i j sz rows hc).1 (hat (.a i j) (by intro j e; cases e)), (h.args i j sz rows hc).2⟩
    ploc := h.ploc
    roots := fun r sz rows hc => by
      cases r with
      | slot d =>
        obtain ⟨x, y, v, hv, z⟩ := h.roots (.slot d) sz rows (content_slot.2 (by have := content_slot.1 hc; exact this))
        exact ⟨x, y, v, hv, z⟩
      | arg i j => exact h.roots (.arg i j) sz rows hc
      | cell b' j =>
        obtain ⟨cs', he, hj⟩ := content_cell.1 hc
        rcases (hcell b' cs' he).2 j _ hj with ⟨⟨rfl, h1, h2⟩, hs⟩ | ⟨hin, cs0, hb0, hs⟩
        · have hlt : j - off < vs.length := by rw [nc.len]; omega
          have hv := hnew (j - off) _ (List.getElem?_eq_getElem hlt)
          rw [show (L.loc b').2 + off + (j - off) = (L.loc b').2 + j by omega] at hv
          obtain ⟨q1, q2, q3⟩ := ((hRR (j - off)).1 _ _ hs (List.getElem?_eq_getElem hlt)).2 sz rows rfl
          have : L'.row (.cell b' j) = RR (j - off) := by simp only [L']; rw [if_pos ⟨trivial, h1, h2⟩]
          rw [this]
          exact ⟨q1, q2, _, hv.1, q3⟩
        · obtain ⟨x, y, v, hv, z⟩ := h.roots (.cell b' j) sz rows (content_cell.2 ⟨cs0, hb0, hs⟩)
          have : L'.row (.cell b' j) = L.row (.cell b' j) := by simp only [L']; rw [if_neg hin]
          rw [this]
          refine ⟨x, y, v, ?_, z⟩
          have hj' : j < L.len b' := by have := (List.getElem?_eq_some_iff.1 hs).1; have := (h.boxes b' cs0 hb0).1; omega
          have hm := hat (.m b' j) (by rintro j' e hj'; cases e; exact hin ⟨rfl, hj'⟩) _ _ ⟨hj', rfl, rfl⟩
          simp only [rootVal] at hv ⊢
          show World.at w' (L.loc b').1 _ = _
          rw [hm.1]; exact hv
    norow := fun r hc => by
      cases r with
      | slot d => exact h.norow (.slot d) (by simpa [St.content, St.setBox] using hc)
      | arg i j => exact h.norow (.arg i j) (by simpa [St.content, St.setBox] using hc)
      | cell b' j =>
        by_cases hin : b' = b ∧ off ≤ j ∧ j < off + new.length
        · have hr : L'.row (.cell b' j) = RR (j - off) := by simp only [L']; rw [if_pos hin]
          rw [hr]
          obtain ⟨rfl, h1, h2⟩ := hin
          have hlt : j - off < new.length := by omega
          have hlt' : j - off < vs.length := by rw [nc.len]; omega
          refine ((hRR (j - off)).1 _ _ (List.getElem?_eq_getElem hlt) (List.getElem?_eq_getElem hlt')).1 ?_
          cases hs : new[j - off] with
          | tr e t =>
            cases t with
            | sl ow sz rows =>
              cases ow with
              | false => cases e <;> rfl
              | true =>
                cases e with
                | none =>
                  exfalso
                  have : (σ.setBox b' off new).content (.cell b' j) = some (sz, rows) := by
                    refine content_cell.2 ⟨cs.take off ++ new ++ cs.drop (off + new.length), by simp [St.setBox, hb], ?_⟩
                    rw [splice_get _ _ _ _ hlen, if_pos ⟨h1, h2⟩, List.getElem?_eq_getElem hlt, hs]
                  rw [hc] at this; cases this
                | some n => rfl
            | _ => cases e <;> rfl
          | _ => rfl
        · have hr : L'.row (.cell b' j) = L.row (.cell b' j) := by simp only [L']; rw [if_neg hin]
          rw [hr]
          apply h.norow
          cases hc0 : σ.content (.cell b' j) with
          | none => rfl
          | some c =>
            exfalso
            obtain ⟨sz, rows⟩ := c
            obtain ⟨cs0, hb0, hs⟩ := content_cell.1 hc0
            have : (σ.setBox b off new).content (.cell b' j) = some (sz, rows) := by
              by_cases e : b' = b
              · subst e
                rw [hb] at hb0; cases hb0
                refine content_cell.2 ⟨cs.take off ++ new ++ cs.drop (off + new.length), by simp [St.setBox, hb], ?_⟩
                rw [splice_get _ _ _ _ hlen, if_neg (fun x => hin ⟨rfl, x⟩)]; exact hs
              · exact content_cell.2 ⟨cs0, by simp [St.setBox, e, hb0], hs⟩
            rw [hc] at this; cases this
    sep := fun i j hij => by
      by_cases hi : ∀ j', i = .c b j' → ¬ (off ≤ j' ∧ j' < off + new.length)
      · rw [hat' i hi]
        by_cases hj : ∀ j', j = .c b j' → ¬ (off ≤ j' ∧ j' < off + new.length)
        · rw [hat' j hj]; exact h.sep i j hij
        · simp only [Classical.not_forall, Classical.not_not] at hj
          obtain ⟨j', rfl, hj'⟩ := hj
          simp only [Lay.at, hin' j' hj']
          exact (hap _ i hi).symm
      · simp only [Classical.not_forall, Classical.not_not] at hi
        obtain ⟨i', rfl, hi'⟩ := hi
        simp only [Lay.at, hin' i' hi']
        by_cases hj : ∀ j', j = .c b j' → ¬ (off ≤ j' ∧ j' < off + new.length)
        · have := hap (i' - off) j hj
          rw [← hat' j hj] at this
          exact this
        · simp only [Classical.not_forall, Classical.not_not] at hj
          obtain ⟨j', rfl, hj'⟩ := hj
          simp only [hin' j' hj']
          exact nc.sep _ _ (fun e => hij (by congr 1; omega))
    okap := fun i => by
      by_cases hi : ∀ j', i = .c b j' → ¬ (off ≤ j' ∧ j' < off + new.length)
      · rw [hat' i hi]; exact h.okap i
      · simp only [Classical.not_forall, Classical.not_not] at hi
        obtain ⟨i', rfl, hi'⟩ := hi
        simp only [Lay.at, hin' i' hi']
        exact nc.okap _
    snapS := h.snapS
    snapM := h.snapM
    live := fun i x p hx => by
      rw [hsz]
      by_cases hi : ∀ j', i = .c b j' → ¬ (off ≤ j' ∧ j' < off + new.length)
      · rw [hat' i hi] at hx; exact h.live i x p hx
      · simp only [Classical.not_forall, Classical.not_not] at hi
        obtain ⟨i', rfl, hi'⟩ := hi
        simp only [Lay.at, hin' i' hi'] at hx
        have := nc.live _ x p hx
        rwa [hsz] at this
    liveS := fun x p hx => by rw [hsz]; exact h.liveS x p hx
    liveO := fun x p hx => by rw [hsz]; exact h.liveO x p hx
    keeps := hk }

end
end Go.Mv
