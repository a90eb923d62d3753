/-
  A part of a theory of trees by which the functions of the program are walked: it proves no statement of the seat by itself; no conditions.
-/
import Derived.Test.YtdkjhbbddlognaaMvCode
namespace Go.Mv
set_option linter.unusedVariables false
set_option linter.unusedSimpArgs false

/-- drawn regions: what tells of them is so -/
def DrawOK (P : Program) (Γ : Env) (D : Array Oper → St → (St → Prop) → Prop) : Prop :=
  ∀ (w0 : World) (FA ok0 : Cells) (E : Ent) (N id : Nat) (ops : Array Oper) (σ : St) (a : Act) (w : World) (L : Lay) (K : St → Prop) (Q : Exit → Act → World → Prop),
    ops.toList.all (okOper N) = true → Rel w0 FA ok0 E N σ a w L → D ops σ K →
    (∀ σ' a' w' L', K σ' → Rel w0 FA ok0 E N σ' a' w' L' → Q .normal a' w') → (Code.region id ops true).wp P Q a w

def St.init (us : List Tr) : St :=
  { slot := fun i => match us[i]? with | some t => ofTr t | none => .dead
    box := fun _ => none, arg := fun _ _ => none, ver := fun _ => 0, nver := fun _ => 0, bver := fun _ => 0, ep := 0 }

section
variable {w0 : World} {FA ok0 : Cells} {E : Ent} {N : Nat} {σ : St} {a : Act} {w : World} {L : Lay}
variable {P : Program} {Γ : Env} {D : Array Oper → St → (St → Prop) → Prop}

theorem ArgsR.split {ok : Cells} : ∀ {ms : List Mode} {vs : List Value} {ts : List Tr} {F : Cells}, ArgsR w ok ms vs ts F → ms.all (fun m => m = .b || m = .c) = true →
    vs.length = ms.length ∧ ts.length = ms.length ∧ ∃ G : Nat → Cells, (∀ j, Sub (G j) F) ∧ (∀ i j, i ≠ j → Apart (G i) (G j)) ∧ ∀ j v t, vs[j]? = some v → ts[j]? = some t → Rd w ok v t (G j)
  | [], vs, ts, F, h, hm => by cases h; exact ⟨rfl, rfl, fun _ => Cells.none, fun _ => Sub.none _, fun _ _ _ => Apart.none_l _, fun j v t hv => by simp at hv⟩
  | m :: ms, vs, ts, F, h, hm => by
    simp only [List.all_cons, Bool.and_eq_true] at hm
    cases h with
    | cons h1 h2 h3 h4 h5 =>
      rename_i v vs t ts F1 F2
      obtain ⟨l1, l2, G, g1, g2, g3⟩ := ArgsR.split h5 hm.2
      have hr : Rd w ok v t F1 := by
        cases h4 with
        | b h => exact h.mono (Sub.none _)
        | c h => exact h
        | r h => exact h
        | p h => simp at hm
      refine ⟨by simp [l1], by simp [l2], fun j => match j with | 0 => F1 | j + 1 => G j, fun j => ?_, fun i j hij => ?_, fun j s' v' hs hv => ?_⟩
      · cases j with
        | zero => exact h1
        | succ j => exact (g1 j).trans h2
      · cases i with
        | zero => cases j with
          | zero => exact absurd rfl hij
          | succ j => exact h3.sub (Sub.refl _) (g1 j)
        | succ i => cases j with
          | zero => exact (h3.sub (Sub.refl _) (g1 i)).symm
          | succ j => exact g2 i j (fun e => hij (by rw [e]))
      · cases j with
        | zero => simp at hs hv; subst hs; subst hv; exact hr
        | succ j => simp at hs hv; exact g3 j s' v' hs hv

theorem outs_none {ok : Cells} : ∀ {ms : List Mode} {vs : List Value}, ms.all (fun m => m = .b || m = .c) = true → vs.length = ms.length → OutsR w ok ms vs [] Cells.none
  | [], [], _, _ => .nil
  | [], _ :: _, _, h => by simp at h
  | _ :: _, [], _, h => by simp at h
  | m :: ms, v :: vs, hm, h => by
    simp only [List.all_cons, Bool.and_eq_true, Bool.or_eq_true, decide_eq_true_eq] at hm
    rcases hm.1 with rfl | rfl
    · exact .b (outs_none hm.2 (by simpa using h))
    · exact .c (outs_none hm.2 (by simpa using h))

/-- a function as it is entered -/
theorem Rel.init {ok : Cells} {vals : List Value} {us : List Tr} {ms : List Mode} {n : Nat} (hA : ArgsR w ok ms vals us FA) (hm : ms.all (fun m => m = .b || m = .c) = true) (hn : ms.length ≤ n)
    (hok : ∀ b o, ok b o → b < w.heap.size) (hFA : ∀ b o, FA b o → b < w.heap.size) (hap : Apart ok FA) :
    ∃ L, Rel w FA ok E n (St.init us) { tmps := vals.toArray ++ Array.replicate (n - vals.toArray.size) undef, defers := [] } w L := by
  obtain ⟨l1, l2, G, g1, g2, g3⟩ := hA.split hm
  let L0 : Lay := { slotF := G, cellF := fun _ _ => Cells.none, argF := fun _ _ => Cells.none, loc := E.pl, len := fun _ => 0, row := fun _ => ⟨none, 0, 0, 0⟩, sn := Cells.none, ok := ok }
  have hrow : ∀ d : Nat, ∃ R : RowI, (∀ (t : Tr) (v : Value), us[d]? = some t → vals[d]? = some v → (isOwn (ofTr t) = false → R.base = none) ∧ ∀ sz rows, ofTr t = .tr none (.sl true sz rows) → R.sz = sz ∧ R.n = rows.length ∧ rowIs v R) ∧ (us[d]? = none → R.base = none) := by
    intro d
    cases ht : us[d]? with
    | none => exact ⟨⟨none, 0, 0, 0⟩, fun t v h => by simp at h, fun _ => rfl⟩
    | some t =>
      have hlt : d < vals.length := by have := (List.getElem?_eq_some_iff.1 ht).1; omega
      obtain ⟨R, r1, r2⟩ := putRow (ofTr t) vals[d] w ok (G d) (St.init us) L0 (ofTr_rel (L := L0) (g3 d _ t (List.getElem?_eq_getElem hlt) ht))
      refine ⟨R, fun t' v' h1 h2 => ?_, fun h => by cases h⟩
      cases h1
      rw [List.getElem?_eq_getElem hlt] at h2; cases h2
      exact ⟨r1, r2⟩
  obtain ⟨RR, hRR⟩ : ∃ RR : Nat → RowI, ∀ d : Nat, (∀ (t : Tr) (v : Value), us[d]? = some t → vals[d]? = some v → (isOwn (ofTr t) = false → (RR d).base = none) ∧ ∀ sz rows, ofTr t = .tr none (.sl true sz rows) → (RR d).sz = sz ∧ (RR d).n = rows.length ∧ rowIs v (RR d)) ∧ (us[d]? = none → (RR d).base = none) :=
    ⟨fun d => Classical.choose (hrow d), fun d => Classical.choose_spec (hrow d)⟩
  let L : Lay := { L0 with row := fun r => match r with | .slot d => RR d | _ => ⟨none, 0, 0, 0⟩ }
  have hget : ∀ d v, vals[d]? = some v → (vals.toArray ++ Array.replicate (n - vals.toArray.size) undef).getD d undef = v := by
    intro d v hv
    have hlt := (List.getElem?_eq_some_iff.1 hv).1
    rw [Array.getD_eq_getD_getElem?, Array.getElem?_append_left (by simpa using hlt)]
    simp [hv]
  have hcase : ∀ d : Nat, (∃ t v, us[d]? = some t ∧ vals[d]? = some v) ∨ (us[d]? = none) := by
    intro d
    cases ht : us[d]? with
    | none => exact .inr rfl
    | some t =>
      have hlt : d < vals.length := by have := (List.getElem?_eq_some_iff.1 ht).1; omega
      exact .inl ⟨t, vals[d], rfl, List.getElem?_eq_getElem hlt⟩
  have hat : ∀ i x p, L.at i x p → ∃ d, i = .s d ∧ G d x p := by
    intro i x p hx
    cases i with
    | s d => exact ⟨d, rfl, hx⟩
    | c b j => exact hx.elim
    | m b j => exact absurd hx.1 (Nat.not_lt_zero _)
    | a i j => exact hx.elim
  refine ⟨L, ?_⟩
  exact
  { size := by simp; omega
    defers := rfl
    slots := fun d => by
      rcases hcase d with ⟨t, v, h1, h2⟩ | h1
      · rw [hget d v h2]; simp only [St.init, h1]; exact ofTr_rel (L := L) (g3 d v t h2 h1)
      · simp only [St.init, h1]; exact .dead
    boxes := fun b cs hb => by simp [St.init] at hb
    args := fun i j sz rows hi => by simp [St.init] at hi
    ploc := fun _ _ => rfl
    roots := fun r sz rows hc => by
      cases r with
      | cell b j => simp [St.content, St.init] at hc
      | arg i j => simp [St.content, St.init] at hc
      | slot d =>
        have hc' := content_slot.1 hc
        rcases hcase d with ⟨t, v, h1, h2⟩ | h1
        · simp only [St.init, h1] at hc'
          obtain ⟨q1, q2, q3⟩ := ((hRR d).1 t v h1 h2).2 sz rows hc'
          exact ⟨q1, q2, v, by simp only [rootVal]; rw [hget d v h2], q3⟩
        · simp [St.init, h1] at hc'
    norow := fun r hc => by
      cases r with
      | cell b j => rfl
      | arg i j => rfl
      | slot d =>
        rcases hcase d with ⟨t, v, h1, h2⟩ | h1
        · refine ((hRR d).1 t v h1 h2).1 ?_
          cases hs : ofTr t with
          | tr e t' =>
            cases t' with
            | sl ow sz rows =>
              cases ow with
              | false => cases e <;> rfl
              | true =>
                cases e with
                | none =>
                  exfalso
                  have : (St.init us).content (.slot d) = some (sz, rows) := content_slot.2 (by simp only [St.init, h1]; exact hs)
                  rw [hc] at this; cases this
                | some n => rfl
            | _ => cases e <;> rfl
          | _ => rfl
        · exact (hRR d).2 h1
    sep := fun i j hij x p hx hy => by
      obtain ⟨d, rfl, h1⟩ := hat i x p hx
      obtain ⟨e, rfl, h2⟩ := hat j x p hy
      exact g2 d e (fun h => hij (by rw [h])) x p h1 h2
    okap := fun i x p hx hy => by
      obtain ⟨d, rfl, h1⟩ := hat i x p hy
      exact hap x p hx (g1 d x p h1)
    snapS := fun _ => Apart.none_l _
    snapM := fun _ _ => Apart.none_l _
    live := fun i x p hx => by
      obtain ⟨d, rfl, h1⟩ := hat i x p hx
      exact ⟨hFA x p (g1 d x p h1), .inl (g1 d x p h1)⟩
    liveS := fun _ _ h => h.elim
    liveO := fun x p hx => ⟨hok x p hx, .inl hx⟩
    keeps := Keeps.refl _ _ }

def okRes (N : Nat) (rs : List ResultVar) : Bool := rs.all fun | .tmp t => decide (t < N) | _ => true

/-- what a function gives at its end -/
theorem post_of_res {ms : List Mode} {vals : List Value} {ok : Cells} {fn : Func} {σ : St} {a : Act} {w0 w : World} {L : Lay} (hR : Rel w0 FA ok E N σ a w L) (hN : okRes N fn.results.toList = true) {res : List Tr}
    (ho : (resG P fn.results.toList σ).map (·.1) = some res) {outs : List Tr}
    (hout : ∀ (σ' : St) (L' : Lay) (l : List (SV × Value)) (G : Nat → Cells), resG P fn.results.toList σ = some (res, σ') → Rel w0 FA ok E N σ' a w L' → HandG w0 FA σ' w L' l G → ∃ G2, OutsR w L'.ok ms vals outs G2 ∧ (∀ b o, G2 b o → ∃ i, L'.at i b o)) :
    bodyPost P fn (fun e w'' => ∃ v, e = .returned v ∧ Post w0 ok FA ms vals res outs w'' v) .ret a w := by
  cases hr : resG P fn.results.toList σ with
  | none => rw [hr] at ho; simp at ho
  | some p =>
    obtain ⟨ts, σ'⟩ := p
    rw [hr] at ho; simp at ho; subst ho
    obtain ⟨L', gs, h1, ⟨G, hG⟩, h3, h4, h5⟩ := resG_ok (l := []) (fun t ht => by
      simp only [okRes, List.all_eq_true] at hN
      simpa using hN _ ht) hR Hand.nil hr
    rw [List.append_nil] at hG
    obtain ⟨F, f1, f2⟩ := groups_rd (l := []) (by rw [List.append_nil]; exact hG) h3
    rw [h4] at f1
    obtain ⟨G2, g1, g2⟩ := hout σ' L' _ G hr h1 hG
    obtain ⟨vsl, hvs⟩ : ∃ vsl, gs.map (·.1) = vsl := ⟨_, rfl⟩
    rw [hvs] at f1 h5
    have hv : (results fn a.tmps).run P w = .ok (if h : vsl.toArray.size = 1 then vsl.toArray[0] else .tuple vsl.toArray) w := by
      rw [results_eq, Array.mapM_eq_mapM_toList]
      simp [h5]
    refine ⟨hR.defers, _, hv, _, rfl, hR.keeps, L'.ok, F, G2, fun b o hx => ?_, fun b o hx => ?_, ?_, ?_, ?_, ?_, g1⟩
    · have := h1.liveO b o hx
      exact ⟨this.2, this.1⟩
    · rcases hx with hx | hx
      · obtain ⟨k, _, hk⟩ := f2 b o hx
        have := hG.live k b o hk
        exact ⟨this.2, this.1⟩
      · obtain ⟨i, hi⟩ := g2 b o hx
        have := h1.live i b o hi
        exact ⟨this.2, this.1⟩
    · intro b o hx hy
      obtain ⟨k, _, hk⟩ := f2 b o hx
      obtain ⟨i, hi⟩ := g2 b o hy
      exact hG.ap k i b o hk hi
    · intro b o hx hy
      obtain ⟨k, _, hk⟩ := f2 b o hy
      exact hG.okap k b o hx hk
    · intro b o hx hy
      obtain ⟨i, hi⟩ := g2 b o hy
      exact h1.okap i b o hx hi
    · have hlen := f1.length
      unfold RetR
      split
      · rename_i t
        cases f1 with
        | cons a1 a2 a3 a4 a5 => cases a5; exact a4.mono a1
      · rename_i hne
        have : vsl.toArray.size ≠ 1 := by
          intro e
          rw [List.size_toArray] at e
          rw [e] at hlen
          obtain ⟨t, ht⟩ := List.length_eq_one_iff.1 hlen.symm
          exact hne t ht
        rw [dif_neg this]
        exact ⟨_, rfl, f1⟩

/-- WHAT IS KNOWN OF A FUNCTION, FROM WHAT ITS CODE DOES TO TREES -/
theorem contract_of_WT (hg : Good P Γ) (hD : DrawOK P Γ D) {f : FuncId} {fn : Func} {c : Code} {F : FnS} (hf : P.funcs[f]? = some fn) (hb : fn.body = some c) (hokc : okCode fn.ntmps c = true) (hokr : okRes fn.ntmps fn.results.toList = true)
    (hm : F.modes.all (fun m => m = .b || m = .c) = true) (hn : F.modes.length ≤ fn.ntmps)
    (H : ∀ us res outs, F.sem us = some (res, outs) → outs = [] ∧ WT P Γ D c (fun e σ => (e = .ret ∨ e = .normal) ∧ (resG P fn.results.toList σ).map (·.1) = some res) (St.init us)) : Contract P f F := by
  intro us res outs hs w ok FA vals hA hok hFA hap
  obtain ⟨rfl, hW⟩ := H us res outs hs
  obtain ⟨L, hR⟩ := Rel.init (E := ⟨fun _ _ => undef, fun _ => (0, 0)⟩) (n := fn.ntmps) hA hm hn hok hFA hap
  obtain ⟨l1, l2, _⟩ := hA.split hm
  refine calls_of_wp hf hb (wp_mono (WT_wp hg (fun id ops σ a w' L K Q => hD w FA ok _ fn.ntmps id ops σ a w' L K Q) c _ hokc hR hW) ?_)
  rintro e a' w' ⟨σ', L', ⟨he, ho⟩, hR'⟩
  have hpost := post_of_res (ms := F.modes) (vals := vals) (outs := []) hR' hokr ho (fun _ _ _ _ _ _ _ => ⟨Cells.none, outs_none hm l1, fun _ _ h => h.elim⟩)
  rcases he with rfl | rfl
  · exact hpost
  · exact hpost

end
end Go.Mv
