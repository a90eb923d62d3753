/-
  A part of a theory of trees by which the functions of the program are walked: it proves no statement of the seat by itself; no conditions.
-/
import Derived.Test.YtdkjhbbddlognaaMvRead
import Derived.ChangeCalls
namespace Go.Mv
open Go.RowKit Go.ChangeShapes
set_option linter.unusedVariables false
set_option linter.unusedSimpArgs false
set_option linter.constructorNameAsVariable false

/-- an argument's tree -/
def argTr : Sh → List Tr → Tr
  | .st _, ts => .agg ts
  | _, ts => ts.headD .dead

inductive ShpA : List Sh → List Tr → Prop
  | nil : ShpA [] []
  | cons {s ss ts us} : Shp s ts → ShpA ss us → ShpA (s :: ss) (argTr s ts :: us)

theorem keeps_below {w w' : World} (h : Keeps Cells.none w w') : Below w.heap.size w w' where
  os := h.2.2.1.1
  tape := h.2.2.1.2
  output := h.2.2.2.1
  size := h.1
  block := fun b hb => by
    rcases h.2.1 b hb with e | ⟨cs, cs', t, f, a1, a2, a3, a4⟩
    · exact e
    · have : cs' = cs := by
        apply Array.ext_getElem?
        intro i
        exact a4 i (fun h => h.elim)
      rw [a1, a2, this]

theorem keeps_frozen {F : Cells} {w w' : World} (h : Keeps F w w') (a : Addr) : w'.frozen? a = w.frozen? a := by
  have e : ∀ (x : World), x.frozen? a = World.fz x a.block a.off := fun x => rfl
  rw [e, e]
  by_cases hb : a.block < w.heap.size
  · exact h.fz hb
  · rw [h.2.2.2.2 _ _ (Nat.le_of_not_lt hb), (Still.refl w).2.2 _ _ (Nat.le_of_not_lt hb)]

section
variable {H : Type} {enc : TypeId × Value → H} {P : Program} {w : World}

theorem one_cell {n : Nat} {T : TypeId} {sh : Sh} (hs : shapeOf P n T = some sh) (hne : ∀ fs, sh ≠ .st fs) {base : Nat} {v : Value} (h : Value.okWide P w .any base T v) : v.cells = #[v] := by
  cases n with
  | zero => simp [shapeOf] at hs
  | succ n =>
    simp only [shapeOf] at hs
    cases hu : P.underlying T with
    | none => simp [hu] at hs
    | some u =>
      cases v with
      | agg cs =>
        exfalso
        cases u <;> simp [Value.okWide, hu, Cell.okWide, Cell.ok] at h hs
        · split at hs
          · split at hs
            · cases hs; exact hne _ rfl
            · cases hs
          · cases hs
      | _ => rfl

theorem agg_cells {n : Nat} {T : TypeId} {fs : List Sh} (hs : shapeOf P n T = some (.st fs)) {base : Nat} {v : Value} (h : Value.okWide P w .any base T v) : ∃ cs, v = .agg cs := by
  cases n with
  | zero => simp [shapeOf] at hs
  | succ n =>
    simp only [shapeOf] at hs
    cases hu : P.underlying T with
    | none => simp [hu] at hs
    | some u =>
      cases u <;> simp [Value.okWide, hu] at h hs
      · obtain ⟨cs, rfl, _⟩ := h; exact ⟨cs, rfl⟩

theorem args_read {base : Nat} : ∀ {ts : List TypeId} {vs : List Value} {ds : List (DataW H)} {ps : List MemPlace} {shs : List Sh}, DataW.TrodAll enc P w 0 (fun _ => true) true ts vs ds ps →
    (∀ (j : Nat) (t : TypeId) (v : Value), ts[j]? = some t → vs[j]? = some v → Value.okWide P w .any base t v) → ts.mapM (shapeOf P 12) = some shs →
    ∃ us, RdL w (oldCells w) vs us Cells.none ∧ ShpA shs us ∧ us.length = ts.length
  | [], vs, ds, ps, shs, h, hv, hs => by
    obtain ⟨rfl, rfl, rfl⟩ := trodAll_nil h
    simp at hs; subst hs
    exact ⟨[], .nil, .nil, rfl⟩
  | t :: ts, vs, ds, ps, shs, h, hv, hs => by
    obtain ⟨v, vs', d, ds', p, q, rfl, rfl, rfl, ⟨fuel, h1⟩, h2⟩ := trodAll_cons h
    rw [List.mapM_cons] at hs
    cases hx : shapeOf P 12 t with
    | none => simp [hx] at hs
    | some sh =>
      cases hl : ts.mapM (shapeOf P 12) with
      | none => simp [hx, hl] at hs
      | some shs' =>
        simp [hx, hl] at hs; subst hs
        obtain ⟨us, r1, r2, r3⟩ := args_read h2 (fun j t v a b => hv (j + 1) t v (by simpa using a) (by simpa using b)) hl
        obtain ⟨tr, q1, q2⟩ := trod_read 12 t sh hx fuel _ d p h1
        have hv0 := hv 0 t v rfl rfl
        refine ⟨argTr sh tr :: us, .cons (F1 := Cells.none) (F2 := Cells.none) (Sub.none _) (Sub.none _) (Apart.none_l _) ?_ r1, .cons q2 r2, by simp [r3]⟩
        by_cases hst : ∃ fs, sh = .st fs
        · obtain ⟨fs, rfl⟩ := hst
          obtain ⟨cs, rfl⟩ := agg_cells hx hv0
          simp only [argTr]
          have := Rd.agg (w := w) (ok := oldCells w) (vs := cs.toList) (cs := tr) (F := Cells.none) (by simpa [Value.cells] using q1)
          simpa using this
        · have hc := one_cell hx (fun fs e => hst ⟨fs, e⟩) hv0
          rw [hc] at q1
          have hone : ∃ t0, tr = [t0] ∧ Rd w (oldCells w) v t0 Cells.none := by
            cases tr with
            | nil => have := q1.length; simp at this
            | cons t0 tl =>
              cases q1 with
              | cons a1 a2 a3 a4 a5 =>
                cases a5
                exact ⟨t0, rfl, a4.mono a1⟩
          obtain ⟨t0, rfl, hr⟩ := hone
          have : argTr sh [t0] = t0 := by cases sh <;> first | rfl | exact absurd ⟨_, rfl⟩ hst
          rw [this]; exact hr

theorem args_again {W' : World} (hl : laidOutB P = true) (hb : Below w.heap.size w W') {sp : Nat → Bool} : ∀ {ts : List TypeId} {vs : List Value} {ds : List (DataW H)} {ps : List MemPlace},
    DataW.TrodAll enc P w 0 (fun _ => true) true ts vs ds ps → (∀ t ∈ ts, P.readableRec t = true ∧ t < P.types.size) → (∀ p ∈ ps, p.block < w.heap.size) → (∀ p ∈ ps, sp p.block = true) →
    DataW.TrodAll enc P W' 0 sp true ts vs ds ps
  | [], vs, ds, ps, h, _, _, _ => by obtain ⟨rfl, rfl, rfl⟩ := trodAll_nil h; exact trodAll_mk0
  | t :: ts, vs, ds, ps, h, ht, hlt, hsp => by
    obtain ⟨v, vs', d, ds', p, q, rfl, rfl, rfl, h1, h2⟩ := trodAll_cons h
    have := ht t (by simp)
    exact trodAll_cons_mk (WideElems.Trod_stays hl this.1 this.2 h1 (fun x hx => hb.same (hlt x (by simp [hx]))) (fun x hx => hsp x (by simp [hx])))
      (args_again hl hb h2 (fun t' h' => ht t' (by simp [h'])) (fun x hx => hlt x (by simp [hx])) (fun x hx => hsp x (by simp [hx])))

/-- A LAW'S CONTRACT, FROM WHAT IS KNOWN OF ITS FUNCTION ON TREES: it answers true, and what it was given reads as it did -/
theorem law_contract {f : FuncId} {fn : Func} {F : FnS} (hcon : Contract P f F) (hm : F.modes.all (· = .b) = true) (hn : F.modes.length = fn.params.toList.length) {shs : List Sh} (hsh : fn.params.toList.mapM (shapeOf P 12) = some shs)
    (hsem : ∀ us, ShpA shs us → F.sem us = some ([.sc (.bool true)], [])) (hl : laidOutB P = true) (hp : ∀ t ∈ fn.params.toList, P.readableRec t = true ∧ t < P.types.size) {bt : TypeId} (hr : fn.resultTypes = #[bt]) (hbt : P.underlying bt = some .bool)
    {s : ChangeSpec} (hvars : s.vars = []) (hs : ∀ ds : List (DataW H), ds.length = fn.params.toList.length → (s.fn H ds).results = [.lit (.bool true)] ∧ (s.fn H ds).args = ds ∧ (s.fn H ds).vars = [])
    (W : World) (base : Nat) (args : Array Value) (ds gs : List (DataW H)) (before : List MemPlace)
    (hval : ∀ (j : Nat) t v, fn.params[j]? = some t → args[j]? = some v → Value.okWide P W .any base t v)
    (hW : DataW.Whole enc P fn.params.toList s.vars false W args.toList ds gs before) :
    Calls P f args W fun e W' => ∃ v, e = .returned v ∧ s.post enc P fn false true false false W args v W' := by
  have hW' := hW
  obtain ⟨p, q, hA, hV, rfl, hfz, hnd⟩ := hW
  rw [hvars] at hV
  obtain ⟨rfl, rfl⟩ := trodVars_none hV
  obtain ⟨us, r1, r2, r3⟩ := args_read hA (fun j t v a b => hval j t v (by simpa using a) (by simpa using b)) hsh
  have hlen := trodAll_length hA
  have hcall := hcon us _ _ (hsem us r2) W (oldCells W) Cells.none args.toList (args_lent hm (by rw [hn, hlen.1]) r1) (fun b o h => h) (fun _ _ h => h.elim) (Apart.none_r _)
  refine Calls.mono (by simpa using hcall) ?_
  rintro e W' ⟨v, rfl, hk, ok', G1, G2, q1, q2, q3, q4, q5, q6, q7⟩
  have hv : v = .bool true := by
    have : Rd W' ok' v (.sc (.bool true)) G1 := q6
    cases this; rfl
  subst hv
  have hb := keeps_below hk
  obtain ⟨s1, s2, s3⟩ := hs ds hlen.2
  refine ⟨_, rfl, post_of_same (pa := p) (pv := []) hW' ?_ ?_ ?_ (by simp) (hb.frame _) (keeps_frozen hk) (ok_one hr rfl (okWide_bool_mk hbt _))⟩
  · intro b sp hd
    rw [List.append_nil, s1, hr]
    exact trodAll_cons_mk (shut_bool hbt _) trodAll_mk0
  · intro sp hsp
    rw [List.append_nil, s2]
    exact args_again hl hb hA hp (fun x hx => hA.lt x hx) (fun x hx => hsp x (by simpa using hx))
  · intro sp hsp
    rw [List.append_nil, s3, hvars]
    rfl
end
end Go.Mv
