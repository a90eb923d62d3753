/-
  A part of a theory of trees by which the functions of the program are walked: it proves no statement of the seat by itself; no conditions.
-/
import Derived.Test.YtdihnokjlbbihaaMvCode
namespace Go.Mv
set_option linter.unusedVariables false
set_option linter.unusedSimpArgs false

/-- drawn regions: what tells of them is so -/
def DrawOK (P : Program) (Γ : Env) (D : Array Oper → St → (St → Prop) → Prop) : Prop :=
  ∀ (w0 : World) (FA ok0 : Cells) (N id : Nat) (ops : Array Oper) (σ : St) (a : Act) (w : World) (L : Lay) (K : St → Prop) (Q : Exit → Act → World → Prop),
    ops.toList.all (okOper N) = true → Rel w0 FA ok0 N σ a w L → D ops σ K →
    (∀ σ' a' w' L', K σ' → Rel w0 FA ok0 N σ' a' w' L' → Q .normal a' w') → (Code.region id ops true).wp P Q a w

def St.init (us : List Tr) : St :=
  { slot := fun i => match us[i]? with | some t => ofTr t | none => .dead
    box := fun _ => none, ver := fun _ => 0, nver := fun _ => 0, bver := fun _ => 0, ep := 0 }

/-- a result variable's value -/
def resultSV (P : Program) (σ : St) : ResultVar → Option SV
  | .tmp t => some (σ.slot t)
  | .cell t T => match σ.slot t with
    | .pc b v off => if v = σ.bver b ∧ (P.underlying T).isSome = true then match σ.box b with
        | some cs => if off + P.cellsOf T ≤ cs.length then
            if isAggT P T then some (.agg ((cs.drop off).take (P.cellsOf T))) else if P.cellsOf T = 1 then cs[off]? else none
          else none
        | none => none
      else none
    | _ => none

def resultSVs (P : Program) (σ : St) : List ResultVar → Option (List SV)
  | [] => some []
  | r :: rs => match resultSV P σ r, resultSVs P σ rs with
    | some s, some ss => some (s :: ss)
    | _, _ => none

/-- the results, lent -/
def St.outs (P : Program) (σ : St) (rs : List ResultVar) : Option (List Tr) :=
  match resultSVs P σ rs with
  | some ss => (σ.lendL ss).map (·.1)
  | none => none

section
variable {w0 : World} {FA ok0 : Cells} {N : Nat} {σ : St} {a : Act} {w : World} {L : Lay}
variable {P : Program} {Γ : Env} {D : Array Oper → St → (St → Prop) → Prop}

theorem ArgsR.split {ok : Cells} : ∀ {ms : List Mode} {vs : List Value} {ts : List Tr} {F : Cells}, ArgsR w ok ms vs ts F → ms.all (fun m => m = .b || m = .c) = true →
    vs.length = ms.length ∧ ts.length = ms.length ∧ ∃ G : Nat → Cells, (∀ j, Sub (G j) F) ∧ (∀ i j, i ≠ j → Apart (G i) (G j)) ∧ ∀ j v t, vs[j]? = some v → ts[j]? = some t → Rd w ok v t (G j)
  | [], vs, ts, F, h, hm => by cases h; exact ⟨rfl, rfl, fun _ => Cells.none, fun _ => Sub.none _, fun _ _ _ => Apart.none_l _, fun j v t hv => by simp at hv⟩
  | m :: ms, vs, ts, F, h, hm => by
    simp only [List.all_cons, Bool.and_eq_true] at hm
    cases h with
    | cons h1 h2 h3 h4 h5 =>
      rename_i v vs t ts F1 F2
      obtain ⟨l1, l2, G, g1, g2, g3⟩ := ArgsR.split h5 hm.2
      have hr : Rd w ok v t F1 := by
        cases h4 with
        | b h => exact h.mono (Sub.none _)
        | c h => exact h
        | r h => exact h
        | p h => simp at hm
      refine ⟨by simp [l1], by simp [l2], fun j => match j with | 0 => F1 | j + 1 => G j, fun j => ?_, fun i j hij => ?_, fun j s' v' hs hv => ?_⟩
      · cases j with
        | zero => exact h1
        | succ j => exact (g1 j).trans h2
      · cases i with
        | zero => cases j with
          | zero => exact absurd rfl hij
          | succ j => exact h3.sub (Sub.refl _) (g1 j)
        | succ i => cases j with
          | zero => exact (h3.sub (Sub.refl _) (g1 i)).symm
          | succ j => exact g2 i j (fun e => hij (by rw [e]))
      · cases j with
        | zero => simp at hs hv; subst hs; subst hv; exact hr
        | succ j => simp at hs hv; exact g3 j s' v' hs hv

theorem outs_none {ok : Cells} : ∀ {ms : List Mode} {vs : List Value}, ms.all (fun m => m = .b || m = .c) = true → vs.length = ms.length → OutsR w ok ms vs [] Cells.none
  | [], [], _, _ => .nil
  | [], _ :: _, _, h => by simp at h
  | _ :: _, [], _, h => by simp at h
  | m :: ms, v :: vs, hm, h => by
    simp only [List.all_cons, Bool.and_eq_true, Bool.or_eq_true, decide_eq_true_eq] at hm
    rcases hm.1 with rfl | rfl
    · exact .b (outs_none hm.2 (by simpa using h))
    · exact .c (outs_none hm.2 (by simpa using h))

/-- a function as it is entered -/
theorem Rel.init {ok : Cells} {vals : List Value} {us : List Tr} {ms : List Mode} {n : Nat} (hA : ArgsR w ok ms vals us FA) (hm : ms.all (fun m => m = .b || m = .c) = true) (hn : ms.length ≤ n)
    (hok : ∀ b o, ok b o → b < w.heap.size) (hFA : ∀ b o, FA b o → b < w.heap.size) (hap : Apart ok FA) :
    ∃ L, Rel w FA ok n (St.init us) { tmps := vals.toArray ++ Array.replicate (n - vals.toArray.size) undef, defers := [] } w L := by
  obtain ⟨l1, l2, G, g1, g2, g3⟩ := hA.split hm
  let L0 : Lay := { slotF := G, cellF := fun _ _ => Cells.none, loc := fun _ => (0, 0), len := fun _ => 0, row := fun _ => ⟨none, 0, 0, 0⟩, sn := Cells.none, ok := ok }
  have hrow : ∀ d : Nat, ∃ R : RowI, (∀ (t : Tr) (v : Value), us[d]? = some t → vals[d]? = some v → (isOwn (ofTr t) = false → R.base = none) ∧ ∀ sz rows, ofTr t = .tr none (.sl true sz rows) → R.sz = sz ∧ R.n = rows.length ∧ rowIs v R) ∧ (us[d]? = none → R.base = none) := by
    intro d
    cases ht : us[d]? with
    | none => exact ⟨⟨none, 0, 0, 0⟩, fun t v h => by simp at h, fun _ => rfl⟩
    | some t =>
      have hlt : d < vals.length := by have := (List.getElem?_eq_some_iff.1 ht).1; omega
      obtain ⟨R, r1, r2⟩ := putRow (ofTr t) vals[d] w ok (G d) (St.init us) L0 (ofTr_rel (L := L0) (g3 d _ t (List.getElem?_eq_getElem hlt) ht))
      refine ⟨R, fun t' v' h1 h2 => ?_, fun h => by cases h⟩
      cases h1
      rw [List.getElem?_eq_getElem hlt] at h2; cases h2
      exact ⟨r1, r2⟩
  obtain ⟨RR, hRR⟩ : ∃ RR : Nat → RowI, ∀ d : Nat, (∀ (t : Tr) (v : Value), us[d]? = some t → vals[d]? = some v → (isOwn (ofTr t) = false → (RR d).base = none) ∧ ∀ sz rows, ofTr t = .tr none (.sl true sz rows) → (RR d).sz = sz ∧ (RR d).n = rows.length ∧ rowIs v (RR d)) ∧ (us[d]? = none → (RR d).base = none) :=
    ⟨fun d => Classical.choose (hrow d), fun d => Classical.choose_spec (hrow d)⟩
  let L : Lay := { L0 with row := fun r => match r with | .slot d => RR d | _ => ⟨none, 0, 0, 0⟩ }
  have hget : ∀ d v, vals[d]? = some v → (vals.toArray ++ Array.replicate (n - vals.toArray.size) undef).getD d undef = v := by
    intro d v hv
    have hlt := (List.getElem?_eq_some_iff.1 hv).1
    rw [Array.getD_eq_getD_getElem?, Array.getElem?_append_left (by simpa using hlt)]
    simp [hv]
  have hcase : ∀ d : Nat, (∃ t v, us[d]? = some t ∧ vals[d]? = some v) ∨ (us[d]? = none) := by
    intro d
    cases ht : us[d]? with
    | none => exact .inr rfl
    | some t =>
      have hlt : d < vals.length := by have := (List.getElem?_eq_some_iff.1 ht).1; omega
      exact .inl ⟨t, vals[d], rfl, List.getElem?_eq_getElem hlt⟩
  have hat : ∀ i x p, L.at i x p → ∃ d, i = .s d ∧ G d x p := by
    intro i x p hx
    cases i with
    | s d => exact ⟨d, rfl, hx⟩
    | c b j => exact hx.elim
    | m b j => exact absurd hx.1 (Nat.not_lt_zero _)
  refine ⟨L, ?_⟩
  exact
  { size := by simp; omega
    defers := rfl
    slots := fun d => by
      rcases hcase d with ⟨t, v, h1, h2⟩ | h1
      · rw [hget d v h2]; simp only [St.init, h1]; exact ofTr_rel (L := L) (g3 d v t h2 h1)
      · simp only [St.init, h1]; exact .dead
    boxes := fun b cs hb => by simp [St.init] at hb
    roots := fun r sz rows hc => by
      cases r with
      | cell b j => simp [St.content, St.init] at hc
      | slot d =>
        have hc' := content_slot.1 hc
        rcases hcase d with ⟨t, v, h1, h2⟩ | h1
        · simp only [St.init, h1] at hc'
          obtain ⟨q1, q2, q3⟩ := ((hRR d).1 t v h1 h2).2 sz rows hc'
          exact ⟨q1, q2, v, by simp only [rootVal]; rw [hget d v h2], q3⟩
        · simp [St.init, h1] at hc'
    norow := fun r hc => by
      cases r with
      | cell b j => rfl
      | slot d =>
        rcases hcase d with ⟨t, v, h1, h2⟩ | h1
        · refine ((hRR d).1 t v h1 h2).1 ?_
          cases hs : ofTr t with
          | tr e t' =>
            cases t' with
            | sl ow sz rows =>
              cases ow with
              | false => cases e <;> rfl
              | true =>
                cases e with
                | none =>
                  exfalso
                  have : (St.init us).content (.slot d) = some (sz, rows) := content_slot.2 (by simp only [St.init, h1]; exact hs)
                  rw [hc] at this; cases this
                | some n => rfl
            | _ => cases e <;> rfl
          | _ => rfl
        · exact (hRR d).2 h1
    sep := fun i j hij x p hx hy => by
      obtain ⟨d, rfl, h1⟩ := hat i x p hx
      obtain ⟨e, rfl, h2⟩ := hat j x p hy
      exact g2 d e (fun h => hij (by rw [h])) x p h1 h2
    okap := fun i x p hx hy => by
      obtain ⟨d, rfl, h1⟩ := hat i x p hy
      exact hap x p hx (g1 d x p h1)
    snapS := fun _ => Apart.none_l _
    snapM := fun _ _ => Apart.none_l _
    live := fun i x p hx => by
      obtain ⟨d, rfl, h1⟩ := hat i x p hx
      exact ⟨hFA x p (g1 d x p h1), .inl (g1 d x p h1)⟩
    liveS := fun _ _ h => h.elim
    liveO := fun x p hx => ⟨hok x p hx, .inl hx⟩
    keeps := Keeps.refl _ _ }

/-- the cells of a box, with what they own -/
theorem box_own (h : Rel w0 FA ok0 N σ a w L) {b : Nat} {cs : List SV} (hb : σ.box b = some cs) :
    ∀ (n j : Nat), j + n ≤ cs.length →
      ∃ vs : List Value, vs.length = n ∧ (∀ i v, vs[i]? = some v → World.at w (L.loc b).1 ((L.loc b).2 + j + i) = some v) ∧
        SRelL σ w L ((cs.drop j).take n) vs (fun x p => ∃ i, j ≤ i ∧ i < j + n ∧ L.cellF b i x p)
  | 0, j, _ => ⟨[], rfl, by simp, by simp only [List.take_zero]; exact .nil⟩
  | n + 1, j, hj => by
    have hj' : j < cs.length := by omega
    obtain ⟨v, e1, e2, e3, e4⟩ := (h.boxes b cs hb).2 j _ (List.getElem?_eq_getElem hj')
    have hd : (cs.drop j).take (n + 1) = cs[j] :: ((cs.drop (j + 1)).take n) := by
      rw [List.drop_eq_getElem_cons hj']; rfl
    rw [hd]
    obtain ⟨vs, q1, q2, q3⟩ := box_own h hb n (j + 1) (by omega)
    refine ⟨v :: vs, by simp [q1], ?_, .cons (F1 := L.cellF b j) (fun x p hx => ⟨j, Nat.le_refl _, by omega, hx⟩) (fun x p ⟨i, h1, h2, h3⟩ => ⟨i, by omega, by omega, h3⟩) ?_ e3 q3⟩
    · intro i u hu
      cases i with
      | zero => simp at hu; subst hu; exact e1
      | succ i => simp at hu; have := q2 i u hu; rwa [show (L.loc b).2 + j + (i + 1) = (L.loc b).2 + (j + 1) + i by omega]
    · rintro x p hx ⟨i, h1, h2, h3⟩
      exact h.sep (.c b j) (.c b i) (by intro e; cases e; omega) x p hx h3

def resOne (a : Act) : ResultVar → Sem Value
  | .tmp t => pure (a.tmps.getD t undef)
  | .cell y t => do loadVar t (← asAddr (a.tmps.getD y undef))

theorem results_eq (fn : Func) (a : Act) : results fn a.tmps = (do let vs ← fn.results.mapM (resOne a); pure (if h : vs.size = 1 then vs[0] else .tuple vs)) := by
  have : (fun r : ResultVar => (match r with
      | .tmp t => pure (a.tmps.getD t undef)
      | .cell y t => do loadVar t (← asAddr (a.tmps.getD y undef)) : Sem Value)) = resOne a := by
    funext r; cases r <;> rfl
  rw [← this]; rfl

theorem resultSV_rel (h : Rel w0 FA ok0 N σ a w L) {r : ResultVar} {s : SV} (hr : resultSV P σ r = some s) :
    ∃ v F, Sub F L.all ∧ SRel σ w L s v F ∧ (resOne a r).run P w = .ok v w := by
  cases r with
  | tmp t =>
    simp only [resultSV, Option.some.injEq] at hr; subst hr
    exact ⟨_, L.slotF t, L.at_all (.s t), h.slots t, rfl⟩
  | cell t T =>
    simp only [resultSV] at hr
    split at hr
    · rename_i b v off hs
      split at hr
      · rename_i hv
        split at hr
        · rename_i cs hb
          split at hr
          · rename_i hlen
            have hp := h.slots t
            rw [hs] at hp
            have hptr : a.tmps.getD t undef = .pointer (some ⟨(L.loc b).1, (L.loc b).2 + off, none⟩) := by
              cases hp with | pc _ hx => exact hx hv.1
            have hcs := (h.boxes b cs hb).2
            have hlb := (h.boxes b cs hb).1
            have asA : ∀ p, (asAddr (.pointer (some p))).run P w = .ok p w := fun p => rfl
            split at hr
            · rename_i hag
              cases hr
              obtain ⟨vs, q1, q2, q3⟩ := box_own h hb (P.cellsOf T) off hlen
              refine ⟨.agg vs.toArray, _, ?_, .agg q3, ?_⟩
              · rintro x p ⟨i, _, _, hx⟩; exact L.at_all (.c b i) x p hx
              · simp only [resOne, hptr, Sem.run_bind, asA, Result.andThen_ok]
                exact run_loadVar_agg hv.2 hag q1 q2
            · rename_i hag
              split at hr
              · rename_i h1
                obtain ⟨u, e1, e2, e3, e4⟩ := hcs off s hr
                refine ⟨u, L.cellF b off, L.at_all (.c b off), e3, ?_⟩
                simp only [resOne, hptr, Sem.run_bind, asA, Result.andThen_ok]
                exact run_loadVar_one hv.2 (by simpa using hag) e1
              · cases hr
          · cases hr
        · cases hr
      · cases hr
    · cases hr

theorem resultSVs_rel (h : Rel w0 FA ok0 N σ a w L) : ∀ {rs : List ResultVar} {ss : List SV} {ts : List Tr} {x : Bool}, resultSVs P σ rs = some ss → σ.lendL ss = some (ts, x) →
    ∃ vs : List Value, RdL w L.all vs ts Cells.none ∧ (rs.mapM (resOne a)).run P w = .ok vs w
  | [], ss, ts, x, hr, hl => by
    simp only [resultSVs, Option.some.injEq] at hr; subst hr
    simp only [St.lendL, Option.some.injEq, Prod.mk.injEq] at hl
    obtain ⟨rfl, rfl⟩ := hl
    exact ⟨[], .nil, by simp [List.mapM_nil]⟩
  | r :: rs, ss, ts, x, hr, hl => by
    simp only [resultSVs] at hr
    split at hr
    · rename_i s ss' h1 h2
      cases hr
      simp only [St.lendL] at hl
      split at hl
      · rename_i t y ts' z l1 l2
        cases hl
        obtain ⟨v, F, f1, f2, f3⟩ := resultSV_rel h h1
        obtain ⟨vs, g1, g2⟩ := resultSVs_rel h h2 l2
        have hv := lend_rel h l1 f2 f1
        have hv' : Rd w L.all v t Cells.none := hv.okmono (by cases y <;> simp <;> first | exact Sub.refl _ | exact L.ok_all)
        refine ⟨v :: vs, .cons (Sub.none _) (Sub.none _) (Apart.none_l _) hv' g1, ?_⟩
        rw [List.mapM_cons, Sem.run_bind, f3, Result.andThen_ok, Sem.run_bind, g2, Result.andThen_ok]
        rfl
      · cases hl
    · cases hr

/-- WHAT IS KNOWN OF A FUNCTION, FROM WHAT ITS CODE DOES TO TREES -/
theorem contract_of_WT (hg : Good P Γ) (hD : DrawOK P Γ D) {f : FuncId} {fn : Func} {c : Code} {F : FnS} (hf : P.funcs[f]? = some fn) (hb : fn.body = some c) (hokc : okCode fn.ntmps c = true)
    (hm : F.modes.all (fun m => m = .b || m = .c) = true) (hn : F.modes.length ≤ fn.ntmps)
    (H : ∀ us res outs, F.sem us = some (res, outs) → outs = [] ∧ WT P Γ D c (fun e σ => (e = .ret ∨ e = .normal) ∧ σ.outs P fn.results.toList = some res) (St.init us)) : Contract P f F := by
  intro us res outs hs w ok FA vals hA hok hFA hap
  obtain ⟨rfl, hW⟩ := H us res outs hs
  obtain ⟨L, hR⟩ := Rel.init (n := fn.ntmps) hA hm hn hok hFA hap
  obtain ⟨l1, l2, _⟩ := hA.split hm
  refine calls_of_wp hf hb (wp_mono (WT_wp hg (fun id ops σ a w' L K Q => hD w FA ok fn.ntmps id ops σ a w' L K Q) c _ hokc hR hW) ?_)
  rintro e a' w' ⟨σ', L', ⟨he, ho⟩, hR'⟩
  simp only [St.outs] at ho
  split at ho
  · rename_i ss hss
    cases hl : σ'.lendL ss with
    | none => rw [hl] at ho; simp at ho
    | some p =>
      obtain ⟨ts, x⟩ := p
      rw [hl] at ho; simp at ho; subst ho
      obtain ⟨vs, g1, g2⟩ := resultSVs_rel hR' hss hl
      have hv : (results fn a'.tmps).run P w' = .ok (if h : vs.toArray.size = 1 then vs.toArray[0] else .tuple vs.toArray) w' := by
        rw [results_eq, Array.mapM_eq_mapM_toList]
        simp [g2]
      have hpost : bodyPost P fn (fun e w'' => ∃ v, e = .returned v ∧ Post w ok FA F.modes vals ts [] w'' v) .ret a' w' := by
        refine ⟨hR'.defers, _, hv, _, rfl, hR'.keeps, L'.all, Cells.none, Cells.none, ?_, fun b o hx => by rcases hx with h | h <;> exact h.elim, Apart.none_l _, Apart.none_r _, Apart.none_r _, ?_, outs_none hm l1⟩
        · rintro b o (hx | hx | ⟨i, hx⟩)
          · exact ⟨(hR'.liveO b o hx).2, (hR'.liveO b o hx).1⟩
          · exact ⟨.inr (hR'.liveS b o hx).2, (hR'.liveS b o hx).1⟩
          · exact ⟨.inr (hR'.live i b o hx).2, (hR'.live i b o hx).1⟩
        · have hlen := g1.length
          unfold RetR
          split
          · rename_i t
            cases g1 with
            | cons h1 h2 h3 h4 h5 => cases h5; exact h4.mono h1
          · rename_i hne
            have : vs.toArray.size ≠ 1 := by
              intro e
              rw [List.size_toArray] at e
              rw [e] at hlen
              obtain ⟨t, ht⟩ := List.length_eq_one_iff.1 hlen.symm
              exact hne t ht
            rw [dif_neg this]
            exact ⟨vs, rfl, g1⟩
      rcases he with rfl | rfl
      · exact hpost
      · exact hpost
  · cases ho

end
end Go.Mv
