/-
  A part of a theory of trees by which the functions of the program are walked: it proves no statement of the seat by itself; no conditions.
-/
import Derived.Test.YtdkjhbbddlognaaMvHand
import Derived.Laws.IdiomCopy
import Derived.Laws.Rows
namespace Go.Mv
set_option linter.unusedVariables false
set_option linter.unusedSimpArgs false

theorem setCells_size (b : Nat) : ∀ (vs : List Value) (o : Nat) (w : World), (w.setCells b o vs).heap.size = w.heap.size
  | [], _, _ => rfl
  | v :: r, o, w => by rw [World.setCells, setCells_size b r]; simp

theorem setCell_keeps (w : World) (b o : Nat) (v : Value) : Keeps (seg b o 1) w (w.setCell ⟨b, o, none⟩ v) := by
  refine ⟨by simp, fun x hx => ?_, ⟨rfl, rfl⟩, rfl, fun x p hx => ?_⟩
  rotate_left
  · show World.frozen? _ _ = _; rw [World.frozen?_setCell]; exact (Still.refl w).2.2 x p hx
  by_cases e : x = b
  · subst e
    rw [World.setCell]
    simp only [Array.getElem?_modify, Array.getElem?_eq_getElem hx]
    cases hc : w.heap[x] with
    | cells cs t f =>
      right
      refine ⟨cs, cs.setIfInBounds o v, t, f, rfl, by simp [hc], by simp, fun p hp => ?_⟩
      by_cases e : o = p
      · subst e; exact absurd ⟨rfl, Nat.le_refl _, by omega⟩ hp
      · rw [Array.getElem?_setIfInBounds_ne e]
    | _ => left; simp [hc]
  · left; exact heap_setCell_other w ⟨b, o, none⟩ x v e

theorem setCells_keeps (b : Nat) : ∀ (vs : List Value) (o : Nat) (w : World), Keeps (seg b o vs.length) w (w.setCells b o vs)
  | [], _, w => Keeps.refl _ _
  | v :: r, o, w => by
    rw [World.setCells]
    refine (setCell_keeps w b o v).trans (setCells_keeps b r (o + 1) _) ?_ ?_
    · rintro x p ⟨rfl, h1, h2⟩; exact ⟨rfl, h1, by simp; omega⟩
    · rintro x p ⟨rfl, h1, h2⟩ _; exact ⟨rfl, by omega, by simp; omega⟩

theorem setCells_at (b : Nat) {vs : List Value} {o : Nat} {w : World} {x p : Nat} (h : ¬ seg b o vs.length x p) :
    World.at (w.setCells b o vs) x p = World.at w x p ∧ World.fz (w.setCells b o vs) x p = World.fz w x p := by
  constructor
  · refine World.cell?_setCells_out b vs o w ⟨x, p, none⟩ (fun h1 _ => ?_)
    simp at h1
    simp only [seg, h1, true_and, Classical.not_and_iff_not_or_not, Nat.not_le, Nat.not_lt] at h
    exact h
  · exact World.frozen?_setCells b vs o w _

theorem setCells_in (b : Nat) {vs : List Value} {o : Nat} {w : World} (h : ∀ j, j < vs.length → (World.at w b (o + j)).isSome = true) {k : Nat} {v : Value} (hk : vs[k]? = some v) :
    World.at (w.setCells b o vs) b (o + k) = some v := by
  obtain ⟨hlt, rfl⟩ := List.getElem?_eq_some_iff.1 hk
  exact World.cell?_setCells_in b vs o w h k hlt

/-- the value fills one cell -/
def single (σ : St) : SV → Prop
  | .tr none (.agg _) => False
  | .tr none .dead => False
  | .tr none _ => True
  | .tr (some e) (.agg _) => False
  | .tr (some e) .dead => False
  | .tr (some e) _ => e = σ.ep
  | .ref r n _ _ => n = σ.ver r
  | .pc b n _ => n = σ.bver b
  | .pr r n _ _ => n = σ.ver r
  | .pv e _ _ => e = none ∨ e = some σ.ep
  | .nst _ _ _ _ e (.sl _ _ _) => e = σ.ep
  | _ => False

def singles (σ : St) : List SV → Prop
  | [] => True
  | s :: ss => single σ s ∧ singles σ ss

/-- the value's cells, n of them -/
def cellsOK (σ : St) (agg : Bool) (n : Nat) : SV → Prop
  | .agg cs => agg = true ∧ cs.length = n ∧ singles σ cs
  | s => agg = false ∧ n = 1 ∧ single σ s

section
variable {w0 : World} {FA ok0 : Cells} {E : Ent} {N : Nat} {σ : St} {a : Act} {w : World} {L : Lay}
variable {P : Program} {Q : Exit → Act → World → Prop} {Kr : Act → World → Prop} {o : Oper} {Γ : Env}

theorem rd_one {ok : Cells} {v : Value} {t : Tr} {F : Cells} (h : Rd w ok v t F) (h1 : ∀ cs, t ≠ .agg cs) (h2 : t ≠ .dead) : v.oneCell' = true := by
  cases h with
  | sc h => cases v <;> simp_all [flat, Value.oneCell']
  | dead => exact absurd rfl h2
  | agg => exact absurd rfl (h1 _)
  | _ => rfl

theorem single_one {s : SV} {v : Value} {F : Cells} (h : SRel σ w L s v F) (hs : single σ s) : v.oneCell' = true := by
  cases h with
  | tr hd => rename_i t; cases t <;> first | exact hs.elim | exact rd_one hd (by simp) (by simp)
  | trE h1 h2 =>
    rename_i e t
    cases t <;> first | exact hs.elim | exact rd_one (h2 hs) (by simp) (by simp)
  | ref h1 h2 => obtain ⟨_, _, rfl, _⟩ := h2 hs; rfl
  | pc h1 h2 => rw [h2 hs]; rfl
  | pr h1 h2 => obtain ⟨_, _, _, _, rfl⟩ := h2 hs; rfl
  | pv h1 h2 => obtain ⟨_, _, _, rfl, _⟩ := h2 hs; rfl
  | nst h1 h2 h3 h4 =>
    rename_i t
    cases t <;> first | exact hs.elim | exact rd_one (h2 hs) (by simp) (by simp)
  | agg _ => exact hs.elim
  | tup _ => exact hs.elim
  | dead => exact hs.elim

theorem singles_one : ∀ {ss : List SV} {vs : List Value} {F : Cells}, SRelL σ w L ss vs F → singles σ ss → ∀ v ∈ vs, v.oneCell' = true
  | [], vs, F, h, _ => by cases h; simp
  | s :: ss, vs, F, h, hs => by
    cases h with
    | cons h1 h2 h3 h4 h5 =>
      intro v hv
      rcases List.mem_cons.1 hv with rfl | hv
      · exact single_one h4 hs.1
      · exact singles_one h5 hs.2 v hv

theorem oneCell_cells {v : Value} (h : v.oneCell' = true) : v.cells = #[v] := by
  cases v <;> simp_all [Value.oneCell', Value.cells]

/-- the cells of a value in hand -/
theorem Hand.cells {s : SV} {v : Value} {l : List (SV × Value)} (hh : Hand w0 FA σ w L ((s, v) :: l)) {ag : Bool} {n : Nat} (hc : cellsOK σ ag n s) :
    ∃ vs : List Value, v.cells = vs.toArray ∧ vs.length = n ∧ (cellsSV s).length = n ∧ (∀ u ∈ vs, u.oneCell' = true) ∧ Hand w0 FA σ w L ((cellsSV s).zip vs ++ l) := by
  obtain ⟨G, hG⟩ := hh
  have h0 := hG.rel 0 s v rfl
  have one : single σ s → (cellsSV s = [s]) → n = 1 → ∃ vs : List Value, v.cells = vs.toArray ∧ vs.length = n ∧ (cellsSV s).length = n ∧ (∀ u ∈ vs, u.oneCell' = true) ∧ Hand w0 FA σ w L ((cellsSV s).zip vs ++ l) := by
    intro h1 h2 h3
    have := single_one h0 h1
    exact ⟨[v], oneCell_cells this, by simp [h3], by simp [h2, h3], by simpa using this, by rw [h2]; exact ⟨G, hG⟩⟩
  cases s with
  | agg cs =>
    simp only [cellsOK] at hc
    obtain ⟨vs, rfl, hr⟩ := srel_agg h0
    obtain ⟨H, g1, g2, g3⟩ := hr.split
    have hlen := hr.length
    refine ⟨vs, rfl, by rw [hlen]; exact hc.2.1, hc.2.1, singles_one hr hc.2.2, ?_⟩
    simp only [cellsSV]
    have hz : (cs.zip vs).length = cs.length := by simp [hlen]
    have htop : ∀ k s' v', cs[k]? = some s' → vs[k]? = some v' → Apart L.sn (tops s' v') := fun k s' v' h1 h2 => by
      have := hG.snap 0 _ _ rfl
      simp only [tops, aggL] at this
      exact this.sub (Sub.refl _) (tops_get h1 h2)
    have hget : ∀ k s' v', (cs.zip vs ++ l)[k]? = some (s', v') → (k < cs.length ∧ cs[k]? = some s' ∧ vs[k]? = some v') ∨ (cs.length ≤ k ∧ l[k - cs.length]? = some (s', v')) := by
      intro k s' v' hk
      by_cases h : k < cs.length
      · rw [List.getElem?_append_left (by omega)] at hk
        have := List.getElem?_zip_eq_some.1 hk
        exact .inl ⟨h, this.1, this.2⟩
      · rw [List.getElem?_append_right (by omega), hz] at hk
        exact .inr ⟨by omega, hk⟩
    refine ⟨fun k => if k < cs.length then H k else G (k - cs.length + 1), ?_⟩
    exact
    { rel := fun k s' v' hk => by
        rcases hget k s' v' hk with ⟨h1, h2, h3⟩ | ⟨h1, h2⟩
        · simp only [h1, if_true]; exact g3 k s' v' h2 h3
        · simp only [Nat.not_lt.2 h1, if_false]; exact hG.rel (k - cs.length + 1) s' v' (by simpa using h2)
      snap := fun k s' v' hk => by
        rcases hget k s' v' hk with ⟨h1, h2, h3⟩ | ⟨h1, h2⟩
        · exact htop k s' v' h2 h3
        · exact hG.snap (k - cs.length + 1) s' v' (by simpa using h2)
      sep := fun i j hij => by
        by_cases hi : i < cs.length <;> by_cases hj : j < cs.length <;> simp only [hi, hj, if_true, if_false]
        · exact g2 i j hij
        · exact (hG.sep 0 _ (by omega)).sub (g1 i) (Sub.refl _)
        · exact ((hG.sep 0 _ (by omega)).sub (g1 j) (Sub.refl _)).symm
        · exact hG.sep _ _ (by omega)
      ap := fun k i => by
        by_cases hk : k < cs.length <;> simp only [hk, if_true, if_false]
        · exact (hG.ap 0 i).sub (g1 k) (Sub.refl _)
        · exact hG.ap _ i
      okap := fun k => by
        by_cases hk : k < cs.length <;> simp only [hk, if_true, if_false]
        · exact (hG.okap 0).sub (Sub.refl _) (g1 k)
        · exact hG.okap _
      live := fun k b p hx => by
        by_cases hk : k < cs.length
        · simp only [hk, if_true] at hx; exact hG.live 0 b p (g1 k b p hx)
        · simp only [hk, if_false] at hx; exact hG.live _ b p hx }
  | dead => exact hc.2.2.elim
  | tup vs => exact hc.2.2.elim
  | tr e t => exact one hc.2.2 rfl hc.2.1
  | ref r n o l => exact one hc.2.2 rfl hc.2.1
  | pc b n o => exact one hc.2.2 rfl hc.2.1
  | pr r n i j => exact one hc.2.2 rfl hc.2.1
  | pv e r j => exact one hc.2.2 rfl hc.2.1
  | nst r n i j e t => exact one hc.2.2 rfl hc.2.1

/-- a box is made of cells in hand -/
theorem Rel.newBoxH (h : Rel w0 FA ok0 E N σ a w L) (b : Nat) {new : List SV} {vs : List Value} {T : TypeId} (hl : vs.length = new.length) (hh : Hand w0 FA σ w L (new.zip vs)) :
    ∃ L', Rel w0 FA ok0 E N (σ.newBox b new) a (w.alloc (.cells vs.toArray T)) L' ∧ L'.loc b = (w.heap.size, 0) := by
  obtain ⟨G, hG⟩ := hh
  have hext : ∀ x, x < w.heap.size → (w.alloc (.cells vs.toArray T)).heap[x]? = w.heap[x]? := by
    intro x hx
    show (w.heap.push _)[x]? = _
    rw [Array.getElem?_push_lt hx, Array.getElem?_eq_getElem hx]
  have hsz : (w.alloc (.cells vs.toArray T)).heap.size = w.heap.size + 1 := by show (w.heap.push _).size = _; simp
  have later : Later σ w L σ (w.alloc (.cells vs.toArray T)) L :=
    { ver := fun _ => Nat.le_refl _, row := fun _ _ => rfl, nver := fun _ => Nat.le_refl _
      nst := fun r _ => ⟨rfl, h.row_same fun i => same_of_ext hext fun b o hx => (h.live i b o hx).1⟩
      bver := fun _ => Nat.le_refl _, loc := fun _ _ => rfl, ep := Nat.le_refl _, sn := fun _ => ⟨Sub.refl _, same_of_ext hext fun b o hx => (h.liveS b o hx).1⟩
      ok := Sub.refl _, okw := same_of_ext hext fun b o hx => (h.liveO b o hx).1 }
  have hz : ∀ k s v, new[k]? = some s → vs[k]? = some v → (new.zip vs)[k]? = some (s, v) := fun k s v h1 h2 => List.getElem?_zip_eq_some.2 ⟨h1, h2⟩
  refine h.newBox b (G := G) ⟨hl, ?_, hG.sep, hG.okap, ?_, ?_⟩ (fun k i _ _ => hG.ap k i) (fun k x p hx => (hG.live k x p hx).1)
  · intro k s v h1 h2
    exact SRel.later later (hG.rel k s v (hz k s v h1 h2)) (same_of_ext hext fun b o hx => (hG.live k b o hx).1)
  · intro k x p hx
    have := hG.live k x p hx
    exact ⟨by omega, this.2⟩
  · intro k s v h1 h2; exact hG.snap k s v (hz k s v h1 h2)

/-- cells of a box are written, of what is in hand -/
theorem Rel.setBoxH (h : Rel w0 FA ok0 E N σ a w L) {b off : Nat} {cs new : List SV} (hb : σ.box b = some cs) (hlen : off + new.length ≤ cs.length) {vs : List Value} (hl : vs.length = new.length)
    (hh : Hand w0 FA σ w L (new.zip vs)) :
    ∃ L', Rel w0 FA ok0 E N (σ.setBox b off new) a (w.setCells (L.loc b).1 ((L.loc b).2 + off) vs) L' := by
  obtain ⟨G, hG⟩ := hh
  have hbl := (h.boxes b cs hb).1
  have hseg : ∀ x p, seg (L.loc b).1 ((L.loc b).2 + off) vs.length x p → ∃ j, L.at (.m b j) x p := by
    rintro x p ⟨rfl, h1, h2⟩
    exact ⟨p - (L.loc b).2, by omega, rfl, by omega⟩
  have hsame : ∀ F : Cells, (∀ i, Apart F (L.at i)) → Same w (w.setCells (L.loc b).1 ((L.loc b).2 + off) vs) F := by
    intro F hF x p hx
    refine setCells_at _ fun hs => ?_
    obtain ⟨j, hj⟩ := hseg x p hs
    exact hF (.m b j) x p hx hj
  have hok := hsame L.ok h.okap
  have hsn : Same w (w.setCells (L.loc b).1 ((L.loc b).2 + off) vs) L.sn := by
    intro x p hx
    refine setCells_at _ fun hs => ?_
    obtain ⟨j, hj⟩ := hseg x p hs
    exact h.snapM b j x p hx hj
  have hrowsame : ∀ r, ∀ bb p, (L.row r).base = some (bb, p) → ∀ k, k < (L.row r).cap * (L.row r).sz → World.at (w.setCells (L.loc b).1 ((L.loc b).2 + off) vs) bb (p + k) = World.at w bb (p + k) := by
    intro r bb p hbase k hkk
    cases hc : σ.content r with
    | none => rw [h.norow r hc] at hbase; cases hbase
    | some c =>
      obtain ⟨sz, rows⟩ := c
      refine (setCells_at _ fun hs => ?_).1
      obtain ⟨j, hj⟩ := hseg _ _ hs
      exact h.sep r.ix (.m b j) (by cases r <;> simp [Root.ix]) _ _ (h.seg_sub hc bb (p + k) ⟨bb, p, hbase, rfl, by omega, by omega⟩) hj
  have later : Later σ w L σ (w.setCells (L.loc b).1 ((L.loc b).2 + off) vs) L :=
    { ver := fun _ => Nat.le_refl _, row := fun _ _ => rfl, nver := fun _ => Nat.le_refl _
      nst := fun r _ => ⟨rfl, hrowsame r⟩
      bver := fun _ => Nat.le_refl _, loc := fun _ _ => rfl, ep := Nat.le_refl _, sn := fun _ => ⟨Sub.refl _, hsn⟩
      ok := Sub.refl _, okw := hok }
  have hz : ∀ k s v, new[k]? = some s → vs[k]? = some v → (new.zip vs)[k]? = some (s, v) := fun k s v h1 h2 => List.getElem?_zip_eq_some.2 ⟨h1, h2⟩
  have hin : ∀ j, j < vs.length → World.at w (L.loc b).1 ((L.loc b).2 + off + j) ≠ none ∧ World.fz w (L.loc b).1 ((L.loc b).2 + off + j) = false := by
    intro j hj
    have hlt : off + j < cs.length := by omega
    obtain ⟨v, e1, e2, _, _⟩ := (h.boxes b cs hb).2 (off + j) _ (List.getElem?_eq_getElem hlt)
    rw [show (L.loc b).2 + off + j = (L.loc b).2 + (off + j) by omega, e1, e2]; simp
  refine Exists.imp (fun L' hh => hh.1) (h.setBox (w' := w.setCells (L.loc b).1 ((L.loc b).2 + off) vs) (vs := vs) (G := G) hb hlen (setCells_size _ _ _ _) ?_ ?_ ?_ ⟨hl, ?_, hG.sep, hG.okap, ?_, ?_⟩ (fun k i _ => hG.ap k i))
  · refine h.keeps.trans (setCells_keeps _ vs _ w) (Sub.refl _) fun x p hs hx => ?_
    obtain ⟨j, hj⟩ := hseg x p hs
    exact (h.live _ x p hj).2.resolve_right (by omega)
  · intro x p hs; exact setCells_at _ (by rw [hl]; exact hs)
  · intro k v hk
    have hk' := (List.getElem?_eq_some_iff.1 hk).1
    refine ⟨setCells_in _ (fun j hj => by have := (hin j hj).1; cases hx : World.at w (L.loc b).1 ((L.loc b).2 + off + j) with | none => exact absurd hx this | some _ => rfl) hk, ?_⟩
    have := (hin k hk').2
    unfold World.fz at *
    rw [World.frozen?_setCells]; exact this
  · intro k s v h1 h2
    exact SRel.later later (hG.rel k s v (hz k s v h1 h2)) (hsame _ (hG.ap k))
  · intro k x p hx; rw [setCells_size]; exact hG.live k x p hx
  · intro k s v h1 h2; exact hG.snap k s v (hz k s v h1 h2)

end
end Go.Mv
