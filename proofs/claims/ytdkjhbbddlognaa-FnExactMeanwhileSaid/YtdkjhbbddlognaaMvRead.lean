/-
  A part of a theory of trees by which the functions of the program are walked: it proves no statement of the seat by itself; no conditions.
-/
import Derived.Test.YtdkjhbbddlognaaMvStep
import Derived.ProofKit
import Derived.OpenShut
import Derived.JoinedCond
namespace Go.Mv
open Go.RowKit Go.ChangeShapes
set_option linter.unusedVariables false
set_option linter.unusedSimpArgs false
set_option linter.constructorNameAsVariable false

/-- the shape of a type that is read -/
inductive Sh where
  | i (k : IntKind) | b | s
  | st (fs : List Sh)
  | sl (sz : Nat) (e : Sh)

def shapeF (rec : TypeId → Option Sh) (P : Program) : List Field → Nat → Option (List Sh × Nat)
  | [], o => some ([], o)
  | f :: fs, o => if f.offset = o then match rec f.type, shapeF rec P fs (o + P.cellsOf f.type) with
      | some s, some (ss, m) => some (s :: ss, m)
      | _, _ => none
    else none

def shapeOf (P : Program) : Nat → TypeId → Option Sh
  | 0, _ => none
  | n + 1, T => match P.underlying T with
    | some .bool => some .b
    | some (.int k) => some (.i k)
    | some .string => some .s
    | some (.slice e) => if 0 < P.cellsOf e then (shapeOf P n e).map (.sl (P.cellsOf e)) else none
    | some (.struct fs) => match shapeF (shapeOf P n) P fs.toList 0 with
      | some (ss, m) => if m = P.cellsOf T then some (.st ss) else none
      | none => none
    | _ => none

mutual
/-- trees of that shape -/
inductive Shp : Sh → List Tr → Prop
  | i {k n} : (Lit.int k n).wf = true → Shp (.i k) [.sc (.int k n)]
  | b {v} : Shp .b [.sc (.bool v)]
  | s {v} : v.size ≤ maxLen → Shp .s [.sc (.string v)]
  | st {fs ts} : ShpF fs ts → Shp (.st fs) ts
  | sl {sz e rows} : rows.length ≤ maxLen → (∀ r ∈ rows, Shp e r) → Shp (.sl sz e) [.sl false sz rows]
inductive ShpF : List Sh → List Tr → Prop
  | nil : ShpF [] []
  | cons {s ss ts us} : Shp s ts → ShpF ss us → ShpF (s :: ss) (ts ++ us)
end

def oldCells (w : World) : Cells := fun b _ => b < w.heap.size

theorem mapM_some {α β : Type} {f : α → Option β} : ∀ {l : List α} {ys : List β}, l.mapM f = some ys → ys.length = l.length ∧ ∀ (i : Nat) (x : α), l[i]? = some x → ∃ y, ys[i]? = some y ∧ f x = some y
  | [], ys, h => by simp at h; subst h; simp
  | x :: l, ys, h => by
    rw [List.mapM_cons] at h
    cases hx : f x with
    | none => simp [hx] at h
    | some y =>
      cases hl : l.mapM f with
      | none => simp [hx, hl] at h
      | some zs =>
        simp [hx, hl] at h; subst h
        obtain ⟨h1, h2⟩ := mapM_some hl
        refine ⟨by simp [h1], fun i x' hi => ?_⟩
        cases i with
        | zero => simp at hi; subst hi; exact ⟨y, rfl, hx⟩
        | succ i => simp at hi; obtain ⟨y', a, b⟩ := h2 i x' hi; exact ⟨y', by simpa using a, b⟩

section
variable {H : Type} {enc : TypeId × Value → H} {P : Program} {w : World} {sp : Nat → Bool} {held : Bool}

theorem cells_some {a : Addr} {n : Nat} {cs : List Value} (h : w.cells? 0 a n = some cs) : cs.length = n ∧ ∀ j v, cs[j]? = some v → w.cell? (a.add j) = some v := by
  simp only [World.cells?, Nat.zero_le, if_true] at h
  obtain ⟨h1, h2⟩ := mapM_some h
  refine ⟨by simpa using h1, fun j v hj => ?_⟩
  have hlt : j < n := by have := (List.getElem?_eq_some_iff.1 hj).1; simp at h1; omega
  obtain ⟨y, hy, he⟩ := h2 j j (by simp [hlt])
  rw [hj] at hy; cases hy; exact he

theorem cell_spot {a : Addr} {v : Value} (h : w.cell? a = some v) : a.spot = none ∧ a.block < w.heap.size ∧ World.at w a.block a.off = some v := by
  have hs : a.spot = none := by
    unfold World.cell? at h
    split at h
    · split at h
      · cases h
      · rename_i hh; simpa using hh
    · cases h
  have ha : a = ⟨a.block, a.off, none⟩ := by cases a; simp_all
  refine ⟨hs, ?_, by unfold World.at; rw [← ha]; exact h⟩
  unfold World.cell? at h
  split at h
  · rename_i hb; exact (Array.getElem?_eq_some_iff.1 hb).1
  · cases h

theorem add_zero (a : Addr) : a.add 0 = a := by simp [Addr.add]
theorem add_none {a : Addr} (h : a.spot = none) (n : Nat) : a.add n = ⟨a.block, a.off + n, none⟩ := by
  unfold Addr.add; split
  · rename_i e; subst e; cases a; simp_all
  · rfl

/-- rows of one length, side by side -/
theorem rows_flat {sz : Nat} : ∀ (css : List (List Value)), (∀ r ∈ css, r.length = sz) → css.flatten.length = css.length * sz ∧
    ∀ (i : Nat) (v : Value), css.flatten[i]? = some v → ∃ k r j, css[k]? = some r ∧ r[j]? = some v ∧ i = k * sz + j
  | [], _ => by simp
  | r :: css, h => by
    obtain ⟨h1, h2⟩ := rows_flat css (fun r' h' => h r' (by simp [h']))
    have hr := h r (by simp)
    refine ⟨by simp [h1, hr, Nat.succ_mul]; omega, fun i v hi => ?_⟩
    rw [List.flatten_cons] at hi
    by_cases hlt : i < r.length
    · rw [List.getElem?_append_left hlt] at hi
      exact ⟨0, r, i, rfl, hi, by simp⟩
    · rw [List.getElem?_append_right (by omega)] at hi
      obtain ⟨k, r', j, a, b, c⟩ := h2 _ v hi
      exact ⟨k + 1, r', j, by simpa using a, b, by rw [Nat.succ_mul]; omega⟩

theorem rd_rows {ok : Cells} : ∀ (css : List (List Value)) (tss : List (List Tr)), css.length = tss.length → (∀ (i : Nat) (c : List Value) (t : List Tr), css[i]? = some c → tss[i]? = some t → RdL w ok c t Cells.none) → RdL w ok css.flatten tss.flatten Cells.none
  | [], [], _, _ => .nil
  | [], _ :: _, h, _ => by simp at h
  | _ :: _, [], h, _ => by simp at h
  | c :: css, t :: tss, h, hr => RdL.join (Sub.none _) (Sub.none _) (Apart.none_l _) (hr 0 c t rfl rfl) (rd_rows css tss (by simpa using h) (fun i c' t' h1 h2 => hr (i + 1) c' t' (by simpa using h1) (by simpa using h2)))

theorem choose_list {α β : Type} {R : α → β → Prop} : ∀ (l : List α), (∀ x ∈ l, ∃ y, R x y) → ∃ ys : List β, ys.length = l.length ∧ ∀ (i : Nat) (x : α) (y : β), l[i]? = some x → ys[i]? = some y → R x y
  | [], _ => ⟨[], rfl, by simp⟩
  | x :: l, h => by
    obtain ⟨y, hy⟩ := h x (by simp)
    obtain ⟨ys, h1, h2⟩ := choose_list l (fun x' h' => h x' (by simp [h']))
    refine ⟨y :: ys, by simp [h1], fun i x' y' a b => ?_⟩
    cases i with
    | zero => simp at a b; subst a; subst b; exact hy
    | succ i => simp at a b; exact h2 i x' y' a b

theorem shapeF_read (n : Nat) (ih : ∀ T sh, shapeOf P n T = some sh → ∀ fuel cs d ps, DataW.trod enc P w 0 sp held fuel T cs = some (d, ps) → ∃ ts, RdL w (oldCells w) cs ts Cells.none ∧ Shp sh ts) (fuel : Nat) :
    ∀ (fs : List Field) (o : Nat) (ss : List Sh) (m : Nat), shapeF (shapeOf P n) P fs o = some (ss, m) → ∀ (cs : List Value), m ≤ cs.length →
      (∀ f ∈ fs, ∃ x, DataW.trod enc P w 0 sp held fuel f.type ((cs.drop f.offset).take (P.cellsOf f.type)) = some x) →
      o ≤ m ∧ ∃ ts, RdL w (oldCells w) ((cs.drop o).take (m - o)) ts Cells.none ∧ ShpF ss ts
  | [], o, ss, m, h, cs, hm, hr => by simp [shapeF] at h; obtain ⟨rfl, rfl⟩ := h; exact ⟨Nat.le_refl _, [], by simp; exact .nil, .nil⟩
  | f :: fs, o, ss, m, h, cs, hm, hr => by
    simp only [shapeF] at h
    split at h
    · rename_i ho
      split at h
      · rename_i s ss' m' h1 h2
        cases h
        obtain ⟨⟨d, ps⟩, hx⟩ := hr f (by simp)
        obtain ⟨ts, r1, r2⟩ := ih f.type s h1 fuel _ d ps hx
        obtain ⟨q1, us, q2, q3⟩ := shapeF_read n ih fuel fs _ _ _ h2 cs hm (fun f' h' => hr f' (by simp [h']))
        refine ⟨by omega, ts ++ us, ?_, .cons r2 q3⟩
        have e : (cs.drop o).take (m - o) = (cs.drop f.offset).take (P.cellsOf f.type) ++ (cs.drop (o + P.cellsOf f.type)).take (m - (o + P.cellsOf f.type)) := by
          rw [ho, ← List.drop_drop, show m - o = P.cellsOf f.type + (m - (o + P.cellsOf f.type)) by omega, List.take_add]
        rw [e]
        exact RdL.join (Sub.none _) (Sub.none _) (Apart.none_l _) r1 q2
      · cases h
    · cases h

/-- WHAT A CLAIM READS, AS A TREE -/
theorem trod_read : ∀ (n : Nat) (T : TypeId) (sh : Sh), shapeOf P n T = some sh → ∀ (fuel : Nat) (cs : List Value) (d : DataW H) (ps : List MemPlace), DataW.trod enc P w 0 sp held fuel T cs = some (d, ps) →
    ∃ ts, RdL w (oldCells w) cs ts Cells.none ∧ Shp sh ts := by
  intro n
  induction n with
  | zero => intro T sh h; simp [shapeOf] at h
  | succ n ih =>
    intro T sh hsh fuel cs d ps hd
    cases fuel with
    | zero => simp [DataW.trod] at hd
    | succ fuel =>
      simp only [shapeOf] at hsh
      cases hu : P.underlying T with
      | none => simp [hu] at hsh
      | some u =>
        simp only [hu] at hsh
        cases u with
        | bool =>
          cases hsh
          simp only [DataW.trod, hu] at hd
          split at hd <;> simp_all
          exact ⟨_, .cons (F1 := Cells.none) (F2 := Cells.none) (Sub.none _) (Sub.none _) (Apart.none_l _) (.sc rfl) .nil, .b⟩
        | int k =>
          cases hsh
          simp only [DataW.trod, hu] at hd
          split at hd <;> simp_all
          obtain ⟨⟨rfl, hw⟩, _⟩ := hd
          exact ⟨_, .cons (F1 := Cells.none) (F2 := Cells.none) (Sub.none _) (Sub.none _) (Apart.none_l _) (.sc rfl) .nil, .i hw⟩
        | string =>
          cases hsh
          simp only [DataW.trod, hu] at hd
          split at hd <;> simp_all
          exact ⟨_, .cons (F1 := Cells.none) (F2 := Cells.none) (Sub.none _) (Sub.none _) (Apart.none_l _) (.sc (by have := hd.1; simp only [flat, maxLen] at *; simpa using this)) .nil, .s hd.1⟩
        | struct fs =>
          dsimp only at hsh
          split at hsh
          · rename_i ss m hf
            split at hsh
            · rename_i hm
              cases hsh
              simp only [DataW.trod, hu] at hd
              split at hd
              · rename_i hlen
                cases hx : fs.toList.mapM (fun f => DataW.trod enc P w 0 sp held fuel f.type ((cs.drop f.offset).take (P.cellsOf f.type))) with
                | none => rw [hx] at hd; simp at hd
                | some xs =>
                  obtain ⟨q1, q2⟩ := mapM_some hx
                  obtain ⟨_, ts, r1, r2⟩ := shapeF_read n ih fuel fs.toList 0 ss m hf cs (by omega) (fun f hfm => by
                    obtain ⟨i, hi⟩ := List.mem_iff_getElem?.1 hfm
                    obtain ⟨y, _, hy⟩ := q2 i f hi
                    exact ⟨y, hy⟩)
                  refine ⟨ts, ?_, .st r2⟩
                  have : (cs.drop 0).take (m - 0) = cs := by rw [List.drop_zero, Nat.sub_zero, List.take_of_length_le (by rw [hm, hlen]; exact Nat.le_refl _)]
                  rwa [this] at r1
              · cases hd
            · cases hsh
          · cases hsh
        | slice e =>
          dsimp only at hsh
          split at hsh
          · rename_i hpos
            cases hse : shapeOf P n e with
            | none => rw [hse] at hsh; simp at hsh
            | some she =>
              rw [hse] at hsh; simp at hsh; subst hsh
              simp only [DataW.trod, hu] at hd
              split at hd <;> try (exact TypeDesc.noConfusion (Option.some.inj ‹some (TypeDesc.slice e) = some _›))
              all_goals first | (simp at hd; done) | skip
              · exact ⟨_, .cons (F1 := Cells.none) (F2 := Cells.none) (Sub.none _) (Sub.none _) (Apart.none_l _) .nil .nil, .sl (rows := []) (by simp) (by simp)⟩
              · rename_i a len cap heq
                cases heq
                split at hd
                · rename_i hc
                  cases hx : (List.range len).mapM (fun i => (w.cells? 0 (a.add (i * P.cellsOf e)) (P.cellsOf e)).bind (DataW.trod enc P w 0 sp held fuel e)) with
                  | none => rw [hx] at hd; simp at hd
                  | some xs =>
                    obtain ⟨q1, q2⟩ := mapM_some hx
                    have hrow : ∀ i ∈ List.range len, ∃ p : List Value × List Tr, w.cells? 0 (a.add (i * P.cellsOf e)) (P.cellsOf e) = some p.1 ∧ RdL w (oldCells w) p.1 p.2 Cells.none ∧ Shp she p.2 := by
                      intro i hi
                      have hi' : i < len := by simpa using hi
                      obtain ⟨⟨d', ps'⟩, _, hy⟩ := q2 i i (by simp [hi'])
                      cases hcs : w.cells? 0 (a.add (i * P.cellsOf e)) (P.cellsOf e) with
                      | none => rw [hcs] at hy; simp at hy
                      | some cs' =>
                        rw [hcs] at hy
                        obtain ⟨ts, r1, r2⟩ := ih e she hse fuel cs' d' ps' (by simpa using hy)
                        exact ⟨(cs', ts), rfl, r1, r2⟩
                    obtain ⟨rows, l1, l2⟩ := choose_list _ hrow
                    have hl : rows.length = len := by simpa using l1
                    have hget : ∀ (i : Nat) (p : List Value × List Tr), rows[i]? = some p → w.cells? 0 (a.add (i * P.cellsOf e)) (P.cellsOf e) = some p.1 ∧ RdL w (oldCells w) p.1 p.2 Cells.none ∧ Shp she p.2 := by
                      intro i p hp
                      have hlt := (List.getElem?_eq_some_iff.1 hp).1
                      have hr : (List.range len)[i]? = some i := by rw [List.getElem?_range (by omega)]
                      exact l2 i i p hr hp
                    have hshp : Shp (.sl (P.cellsOf e) she) [.sl false (P.cellsOf e) (rows.map (·.2))] := by
                      refine .sl (by simp; omega) fun r hr => ?_
                      obtain ⟨p, hp, rfl⟩ := List.mem_map.1 hr
                      obtain ⟨i, hi⟩ := List.mem_iff_getElem?.1 hp
                      exact (hget i p hi).2.2
                    refine ⟨_, .cons (F1 := Cells.none) (F2 := Cells.none) (Sub.none _) (Sub.none _) (Apart.none_l _) ?_ .nil, hshp⟩
                    by_cases h0 : len = 0
                    · subst h0
                      have : rows = [] := List.length_eq_zero_iff.1 hl
                      subst this
                      exact .bor0
                    · have hsp : a.spot = none := by
                        obtain ⟨c1, _, _⟩ := hget 0 (rows[0]'(by omega)) (List.getElem?_eq_getElem _)
                        obtain ⟨c2, c3⟩ := cells_some c1
                        rw [Nat.zero_mul, add_zero] at c3
                        have := c3 0 ((rows[0]'(by omega)).1[0]'(by omega)) (List.getElem?_eq_getElem _)
                        rw [add_zero] at this
                        exact (cell_spot this).1
                      have ha : a = ⟨a.block, a.off, none⟩ := by cases a; simp_all
                      have hlen : ∀ r ∈ rows.map (·.1), r.length = P.cellsOf e := by
                        intro r hr
                        obtain ⟨p, hp, rfl⟩ := List.mem_map.1 hr
                        obtain ⟨i, hi⟩ := List.mem_iff_getElem?.1 hp
                        exact (cells_some (hget i p hi).1).1
                      obtain ⟨f1, f2⟩ := rows_flat (rows.map (·.1)) hlen
                      rw [ha]
                      refine .bor (vs := (rows.map (·.1)).flatten) (by simp [hl]) ⟨hc.2.1, by have := hc.2; simp only [maxLen] at *; omega⟩ ?_ (by rw [f1]; simp [hl]) ?_ ?_
                      · intro r hr
                        obtain ⟨p, hp, rfl⟩ := List.mem_map.1 hr
                        obtain ⟨i, hi⟩ := List.mem_iff_getElem?.1 hp
                        have h1 := (hget i p hi).2.1.length
                        have h2 := (cells_some (hget i p hi).1).1
                        omega
                      · intro i v hv
                        obtain ⟨k, r, j, b1, b2, b3⟩ := f2 i v hv
                        rw [List.getElem?_map] at b1
                        cases hk : rows[k]? with
                        | none => rw [hk] at b1; simp at b1
                        | some p =>
                          rw [hk] at b1; simp at b1; subst b1
                          have := (cells_some (hget k p hk).1).2 j v b2
                          rw [add_none hsp, add_none (by rfl)] at this
                          obtain ⟨_, g2, g3⟩ := cell_spot this
                          rw [b3, ← Nat.add_assoc]
                          exact ⟨g3, g2⟩
                      · refine rd_rows _ _ (by simp) fun i c t h1 h2 => ?_
                        rw [List.getElem?_map] at h1 h2
                        cases hk : rows[i]? with
                        | none => rw [hk] at h1; simp at h1
                        | some p => rw [hk] at h1 h2; simp at h1 h2; subst h1; subst h2; exact (hget i p hk).2.1
                · cases hd
          · cases hsh
        | _ => simp at hsh
end
end Go.Mv
