/-
  A part of a theory of trees by which the functions of the program are walked: it proves no statement of the seat by itself; no conditions.
-/
import Derived.Test.YtdkjhbbddlognaaMvRes
namespace Go.Mv
set_option linter.unusedVariables false
set_option linter.unusedSimpArgs false

def cellsAny (σ : St) : SV → Prop
  | .agg cs => singles σ cs
  | s => single σ s

/-- a call's arguments with their types -/
def argList (c : Call) : List (Operand × TypeId) := c.args.toList.zipIdx.map fun p => (p.1, c.argTypes.getD p.2 0)

/-- one operation on the tree state -/
def wop (P : Program) (Γ : Env) (o : Oper) (σ : St) (K : St → Prop) : Prop :=
  match o.op with
  | .assign x => K ((σ.eat x).putO o.dst (σ.val P o.type x))
  | .alloc T => match o.dst, zeroTr P T with
    | some d, some z => K ((σ.newBox d (z.map (.tr none))).put d (.pc d (σ.bver d + 1) 0))
    | _, _ => False
  | .box T x => match o.dst with
    | some d => cellsAny (σ.eat x) (σ.val P T x) ∧ K (((σ.eat x).newBox d (cellsSV (σ.val P T x))).put d (.pc d (σ.bver d + 1) 0))
    | none => False
  | .store T y x => o.dst = none ∧ (P.underlying T).isSome = true ∧ match (σ.eat x).val P T y with
    | .pc b v off => v = σ.bver b ∧ cellsOK (σ.eat x) (isAggT P T) (P.cellsOf T) (σ.val P T x) ∧ ∃ cs, σ.box b = some cs ∧ off + P.cellsOf T ≤ cs.length ∧
        K ((σ.eat x).setBox b off (cellsSV (σ.val P T x)))
    | .pr r v i j => match (σ.eat x).giveC (isAggT P T) (P.cellsOf T) (σ.val P T x) with
      | some (ts, σ2) => v = σ2.ver r ∧ match σ2.content r with
        | some c => ∃ row, c.2[i]? = some row ∧ j + ts.length ≤ c.1 ∧ K (σ2.setRows r c.1 (c.2.set i (spliceL row j ts)))
        | none => False
      | none => False
    | _ => False
  | .extract x i => match x with
    | .tmp t => match σ.slot t with
      | .tup vs => ∃ s, vs[i]? = some s ∧ if owning s then K ((σ.put t (.tup (vs.set i .dead))).putO o.dst s) else K (σ.putO o.dst s)
      | _ => False
    | _ => False
  | .call c => match c.callee with
    | .value (.func f) => match Γ f with
      | some F => if F.modes.all (· = .b) then wcalm P Γ true (.call c) o.type σ (fun s => K (σ.putO o.dst s))
        else wcallC P Γ f o.dst (argList c) σ K
      | none => False
    | _ => wcalm P Γ true (.call c) o.type σ (fun s => K (σ.putO o.dst s))
  | op => wcalm P Γ true op o.type σ (fun s => K (σ.putO o.dst s))

/-- the slots that an operation names are slots of the function -/
def okOper (N : Nat) (o : Oper) : Bool :=
  (match o.dst with | some d => decide (d < N) | none => true) && o.op.operands.toList.all (fun | .tmp t => decide (t < N) | _ => true)

theorem okOper_dst {N : Nat} {o : Oper} (h : okOper N o = true) {d : Nat} (hd : o.dst = some d) : d < N := by
  simp only [okOper, Bool.and_eq_true, hd, decide_eq_true_eq] at h; exact h.1
theorem okOper_arg {N : Nat} {o : Oper} (h : okOper N o = true) {t : Nat} (ht : Operand.tmp t ∈ o.op.operands) : t < N := by
  simp only [okOper, Bool.and_eq_true, List.all_eq_true] at h
  have := h.2 _ (Array.mem_toList_iff.2 ht)
  simpa using this

section
variable {w0 : World} {FA ok0 : Cells} {E : Ent} {N : Nat} {σ : St} {a : Act} {w : World} {L : Lay}
variable {P : Program} {Q : Exit → Act → World → Prop} {Kr : Act → World → Prop} {o : Oper} {Γ : Env}

theorem cellsAny_ok {s : SV} (h : cellsAny σ s) : ∃ ag n, cellsOK σ ag n s := by
  cases s with
  | agg cs => exact ⟨true, cs.length, rfl, rfl, h⟩
  | _ => exact ⟨false, 1, rfl, rfl, h⟩

theorem SRelL.pull : ∀ {ss : List SV} {vs : List Value} {F : Cells} {i : Nat} {s : SV} {v : Value}, SRelL σ w L ss vs F → ss[i]? = some s → vs[i]? = some v →
    ∃ F1 F2, Sub F1 F ∧ Sub F2 F ∧ Apart F1 F2 ∧ SRel σ w L s v F1 ∧ SRelL σ w L (ss.set i .dead) vs F2
  | [], vs, F, i, s, v, h, hs, _ => by simp at hs
  | s0 :: ss, vs, F, i, s, v, h, hs, hv => by
    cases h with
    | cons h1 h2 h3 h4 h5 =>
      rename_i v0 vs F1 F2
      cases i with
      | zero =>
        simp at hs hv; subst hs; subst hv
        exact ⟨F1, F2, h1, h2, h3, h4, .cons (F1 := Cells.none) (Sub.none _) (Sub.refl _) (Apart.none_l _) .dead h5⟩
      | succ i =>
        simp at hs hv
        obtain ⟨G1, G2, g1, g2, g3, g4, g5⟩ := SRelL.pull h5 hs hv
        refine ⟨G1, Or F1 G2, g1.trans h2, Sub.or h1 (g2.trans h2), (Apart.or (h3.sub (Sub.refl _) g1) g3.symm).symm, g4, ?_⟩
        simp only [List.set_cons_succ]
        exact .cons (Sub.or_l _ _) (Sub.or_r _ _) (h3.sub (Sub.refl _) g2) h4 g5

theorem topsL_set : ∀ {ss : List SV} {vs : List Value} {i : Nat}, Sub (topsL (ss.set i .dead) vs) (topsL ss vs)
  | [], vs, i => by simp; exact Sub.refl _
  | s :: ss, [], i => by cases i <;> simp [topsL] <;> exact Sub.refl _
  | s :: ss, v :: vs, i => by
    cases i with
    | zero => simp only [List.set_cons_zero, topsL, tops]; exact Sub.or (Sub.none _) (Sub.or_r _ _)
    | succ i => simp only [List.set_cons_succ, topsL]; exact Sub.or (Sub.or_l _ _) (topsL_set.trans (Sub.or_r _ _))

theorem Rel.takeOne (h : Rel w0 FA ok0 E N σ a w L) {t : Nat} (ht : t < N) {vs : List SV} (hs : σ.slot t = .tup vs) {i : Nat} {s : SV} (hi : vs[i]? = some s) :
    ∃ L' us v, a.tmps.getD t undef = .tuple us ∧ us[i]? = some v ∧ Rel w0 FA ok0 E N (σ.put t (.tup (vs.set i .dead))) a w L' ∧ Hand w0 FA (σ.put t (.tup (vs.set i .dead))) w L' [(s, v)] := by
  have hsl := h.slots t
  rw [hs] at hsl
  have : ∃ us : List Value, a.tmps.getD t undef = .tuple us.toArray ∧ SRelL σ w L vs us (L.slotF t) := by
    generalize a.tmps.getD t undef = u at hsl
    cases hsl with | tup hr => exact ⟨_, rfl, hr⟩
  obtain ⟨us, hu, hr⟩ := this
  have hlt : i < us.length := by rw [hr.length]; exact (List.getElem?_eq_some_iff.1 hi).1
  obtain ⟨F1, F2, f1, f2, f3, f4, f5⟩ := hr.pull hi (List.getElem?_eq_getElem hlt)
  have hsn := h.snapS t
  rw [hs, hu] at hsn
  simp only [tops, aggL] at hsn
  obtain ⟨R, hR⟩ := h.put (d := t) ht (s := .tup (vs.set i .dead)) (v := .tuple us.toArray) (F := F2) (w' := w) (Nat.le_refl _) h.keeps (fun _ => Same.refl _ _) (Same.refl _ _) (Same.refl _ _)
    (fun b o hx => h.live (.s t) b o (f2 b o hx)) (fun j hj => (h.sep (.s t) j (Ne.symm hj)).sub f2 (Sub.refl _)) ((h.okap (.s t)).sub (Sub.refl _) f2)
    (by simp only [tops, aggL]; exact hsn.sub (Sub.refl _) topsL_set) (.tup f5)
  rw [← hu, put_self] at hR
  refine ⟨_, us.toArray, us[i], hu, by simp [hlt], hR, fun k => match k with | 0 => F1 | _ + 1 => Cells.none, ?_⟩
  have later : Later σ w L (σ.put t (.tup (vs.set i .dead))) w { L with slotF := fun i => if i = t then F2 else L.slotF i, row := fun r => if r = .slot t then R else L.row r } :=
    { ver := fun r => by simp only [St.put]; split <;> omega
      row := fun r e => by
        simp only [St.put] at e
        by_cases hr : r = .slot t
        · simp [hr] at e
        · simp [hr]
      nver := fun r => by simp only [St.put]; split <;> omega
      nst := fun r e => by
        simp only [St.put] at e
        by_cases hr : r = .slot t
        · simp [hr] at e
        · simp only [hr, if_false]; exact ⟨trivial, fun _ _ _ _ _ => trivial⟩
      bver := fun b => Nat.le_refl _
      loc := fun b _ => rfl
      ep := Nat.le_refl _
      sn := fun _ => ⟨Sub.refl _, Same.refl _ _⟩
      ok := Sub.refl _
      okw := Same.refl _ _ }
  exact
  { rel := fun k s' v' hk => by
      cases k with
      | zero => cases hk; exact SRel.later later f4 (Same.refl _ _)
      | succ k => simp at hk
    snap := fun k s' v' hk => by
      cases k with
      | zero => cases hk; exact hsn.sub (Sub.refl _) (tops_get hi (List.getElem?_eq_getElem hlt))
      | succ k => simp at hk
    sep := fun i j hij => by
      cases i with
      | zero => cases j with
        | zero => exact absurd rfl hij
        | succ j => exact Apart.none_r _
      | succ i => exact Apart.none_l _
    ap := fun k i' => by
      cases k with
      | succ k => exact Apart.none_l _
      | zero =>
        cases i' with
        | s d =>
          simp only [Lay.at]
          by_cases e : d = t
          · simp only [e, if_true]; exact f3
          · simp only [e, if_false]; exact (h.sep (.s t) (.s d) (by simp; exact fun x => e x.symm)).sub f1 (Sub.refl _)
        | c b j => exact (h.sep (.s t) (.c b j) (by simp)).sub f1 (Sub.refl _)
        | m b j => exact (h.sep (.s t) (.m b j) (by simp)).sub f1 (Sub.refl _)
        | a i j => exact (h.sep (.s t) (.a i j) (by simp)).sub f1 (Sub.refl _)
    okap := fun k => by
      cases k with
      | zero => exact (h.okap (.s t)).sub (Sub.refl _) f1
      | succ k => exact Apart.none_r _
    live := fun k b o hx => by
      cases k with
      | zero => exact h.live (.s t) b o (f1 b o hx)
      | succ k => exact hx.elim }

theorem eat_box (σ : St) (x : Operand) : (σ.eat x).box = σ.box := by
  cases x <;> simp only [St.eat] <;> try rfl
  split <;> rfl
theorem eat_bver (σ : St) (x : Operand) : (σ.eat x).bver = σ.bver := by
  cases x <;> simp only [St.eat] <;> try rfl
  split <;> rfl

theorem trs_free : ∀ {ts : List Tr} {vs : List Value} {F : Cells}, RdL w L.ok vs ts F → SRelL σ w L (ts.map (.tr none)) vs F
  | [], vs, F, h => by cases h; exact .nil
  | t :: ts, vs, F, h => by cases h with | cons h1 h2 h3 h4 h5 => exact .cons h1 h2 h3 (.tr h4) (trs_free h5)

/-- EVERY OPERATION: what the evaluator tells of it is so -/
theorem wop_wp (h : Rel w0 FA ok0 E N σ a w L) (hg : Good P Γ) (hok : okOper N o = true) {K : St → Prop} (hc : wop P Γ o σ K)
    (hk : ∀ σ' a' w' L', K σ' → Rel w0 FA ok0 E N σ' a' w' L' → Kr a' w') : o.wp P a w Kr Q := by
  have hdst : ∀ e, o.dst = some e → e < N := fun e he => okOper_dst hok he
  have calm : wcalm P Γ true o.op o.type σ (fun s => K (σ.putO o.dst s)) → o.wp P a w Kr Q := by
    intro hc
    obtain ⟨sn, h', hf⟩ := h.fill
    refine calm_wp h' hf hg hc fun s v w' F okN hs hr => ?_
    cases hd : o.dst with
    | none =>
      rw [hd] at hs
      exact hk _ _ _ _ hs (h'.ext hr.size hr.ext hr.still hr.newO)
    | some d =>
      rw [hd] at hs
      obtain ⟨R, hR⟩ := h'.put_res (hdst d hd) hr
      exact hk _ _ _ _ hs hR
  cases ho : o.op with
  | assign x =>
    simp only [wop, ho] at hc
    obtain ⟨L1, h1, hh1⟩ := h.eatH (P := P) (T := o.type) (x := x) (fun t ht => okOper_arg hok (by simp [ho, Op.operands, ht])) Hand.nil
    obtain ⟨L2, h2⟩ := h1.putOH hdst hh1
    exact wp_value (v := a.eval x) (w' := w) (by simp [execOp, ho]) (hk _ _ _ _ hc h2)
  | alloc T =>
    simp only [wop, ho] at hc
    split at hc
    · rename_i d z hd hz
      obtain ⟨zv, z1, z2, z3, z4, z5⟩ := zeroTr_spec hz
      have hrel := trs_free (σ := σ) (z4 w L.ok)
      have hlen := hrel.length
      obtain ⟨G, g1, g2, g3⟩ := hrel.split
      have hgn : ∀ k b o, ¬ G k b o := fun k b o hx => g1 k b o hx
      have hz0 : Hand w0 FA σ w L ((z.map (.tr none)).zip zv.cells.toList) := by
        refine ⟨G, fun k s v hk => ?_, fun k s v hk => ?_, g2, fun k i b o hx => (hgn k b o hx).elim, fun k b o _ hx => (hgn k b o hx).elim, fun k b o hx => (hgn k b o hx).elim⟩
        · have := List.getElem?_zip_eq_some.1 hk
          exact g3 k s v this.1 this.2
        · have := List.getElem?_zip_eq_some.1 hk
          exact Apart.sub (Apart.none_r _) (Sub.refl _) ((tops_sub (g3 k s v this.1 this.2)).trans (g1 k))
      obtain ⟨L2, h2, hloc⟩ := h.newBoxH d (T := T) hlen hz0
      obtain ⟨L3, h3, _⟩ := h2.putH (hdst d hd) (s := .pc d (σ.bver d + 1) 0) (v := .pointer (some ⟨w.heap.size, 0, none⟩)) (l := [])
        (Hand.free (.pc (by simp [St.newBox]) (fun _ => by simp [hloc])))
      refine wp_value (v := .pointer (some ⟨w.heap.size, 0, none⟩)) (w' := w.alloc (.cells zv.cells T)) ?_ ?_
      · simp [execOp, ho, Instr.alloc, z1, newVar, newRow, newObj, Sem.run]
      · rw [hd]
        have := hk _ _ _ _ hc h3
        simpa using this
    · exact hc.elim
  | box T x =>
    simp only [wop, ho] at hc
    split at hc
    · rename_i d hd
      obtain ⟨hca, hK⟩ := hc
      obtain ⟨L1, h1, hh1⟩ := h.eatH (P := P) (T := T) (x := x) (fun t ht => okOper_arg hok (by simp [ho, Op.operands, ht])) Hand.nil
      obtain ⟨ag, n, hcell⟩ := cellsAny_ok hca
      obtain ⟨vs, v1, v2, v3, v4, v5⟩ := hh1.cells hcell
      rw [List.append_nil] at v5
      obtain ⟨L2, h2, hloc⟩ := h1.newBoxH d (T := T) (by omega) v5
      obtain ⟨L3, h3, _⟩ := h2.putH (hdst d hd) (s := .pc d (σ.bver d + 1) 0) (v := .pointer (some ⟨w.heap.size, 0, none⟩)) (l := [])
        (Hand.free (.pc (by simp [St.newBox, eat_bver]) (fun _ => by simp [hloc])))
      refine wp_value (v := .pointer (some ⟨w.heap.size, 0, none⟩)) (w' := w.alloc (.cells vs.toArray T)) ?_ ?_
      · simp [execOp, ho, Instr.box, newVar, newRow, newObj, v1, Sem.run]
      · rw [hd]; exact hk _ _ _ _ hK h3
    · exact hc.elim
  | store T y x =>
    simp only [wop, ho] at hc
    obtain ⟨hd, hu, hc⟩ := hc
    split at hc
    · rename_i b v off hy
      obtain ⟨hv, hcell, cs, hb, hlen, hK⟩ := hc
      obtain ⟨L1, h1, hh1⟩ := h.eatH (P := P) (T := T) (x := x) (fun t ht => okOper_arg hok (by simp [ho, Op.operands, ht])) Hand.nil
      obtain ⟨vs, v1, v2, v3, v4, v5⟩ := hh1.cells hcell
      rw [List.append_nil] at v5
      have hy' := h1.val P T y
      rw [hy] at hy'
      have hptr : a.eval y = .pointer (some ⟨(L1.loc b).1, (L1.loc b).2 + off, none⟩) := by
        cases hy' with | pc _ hx => exact hx (by rw [eat_bver]; exact hv)
      rw [← eat_box σ x] at hb
      obtain ⟨L2, h2⟩ := h1.setBoxH (off := off) hb (new := cellsSV (σ.val P T x)) (vs := vs) (by omega) (by omega) v5
      have hcs := (h1.boxes b cs hb).2
      have hin : ∀ j, j < vs.length → (w.cell? ⟨(L1.loc b).1, (L1.loc b).2 + off + 0 + j, none⟩).isSome = true ∧ w.frozen? ⟨(L1.loc b).1, (L1.loc b).2 + off + 0 + j, none⟩ = false := by
        intro j hj
        obtain ⟨u, e1, e2, _⟩ := hcs (off + j) _ (List.getElem?_eq_getElem (by omega))
        rw [Nat.add_zero, Nat.add_assoc]
        unfold World.at at e1
        unfold World.fz at e2
        rw [e1, e2]; simp
      have hrun := run_storeCells_cells (P := P) (L1.loc b).1 ((L1.loc b).2 + off) vs 0 w (fun j hj => (hin j hj).1) (fun j hj => (hin j hj).2) v4
      simp only [Oper.wp]
      have : (execOp a.eval o).run P w = .ok .skip (w.setCells (L1.loc b).1 ((L1.loc b).2 + off) vs) := by
        simp [execOp, ho, Instr.storeAt, hptr, Instr.sureAddr, storeVar, run_sizeOf' hu, v1, v2, hrun]
      rw [this, Oper.upon_skip, hd]
      exact hk _ _ _ _ hK h2
    · rename_i r v i j hy
      obtain ⟨L1, h1, hh1⟩ := h.eatH (P := P) (T := T) (x := x) (fun t ht => okOper_arg hok (by simp [ho, Op.operands, ht])) Hand.nil
      have hy' := h1.val P T y
      rw [hy] at hy'
      have hfree := hy'.free (by rfl) Cells.none
      split at hc
      · rename_i ts σ2 hgv
        obtain ⟨hv, hc⟩ := hc
        split at hc
        · rename_i c hcc
          obtain ⟨row, hi, hj, hK⟩ := hc
          have hh2 : Hand w0 FA (σ.eat x) w L1 [(σ.val P T x, a.eval x), (.pr r v i j, a.eval y)] := by
            obtain ⟨G, hG⟩ := hh1
            have := HandG.upd (k := 5) (l := [(σ.val P T x, a.eval x)]) hG (s := .dead) (v := undef) (F := Cells.none) .dead (by simp only [tops]; exact Apart.none_r _) (fun _ _ => Apart.none_r _) (fun _ => Apart.none_l _) (Apart.none_r _) (fun _ _ h => h.elim)
            refine ⟨fun k => match k with | 0 => G 0 | _ + 1 => Cells.none, ?_⟩
            exact
            { rel := fun k s u hk' => by
                cases k with
                | zero => simp at hk'; obtain ⟨rfl, rfl⟩ := hk'; exact hG.rel 0 _ _ rfl
                | succ k => cases k with
                  | zero => simp at hk'; obtain ⟨rfl, rfl⟩ := hk'; exact hfree
                  | succ k => simp at hk'
              snap := fun k s u hk' => by
                cases k with
                | zero => simp at hk'; obtain ⟨rfl, rfl⟩ := hk'; exact hG.snap 0 _ _ rfl
                | succ k => cases k with
                  | zero => simp at hk'; obtain ⟨rfl, rfl⟩ := hk'; simp only [tops]; exact Apart.none_r _
                  | succ k => simp at hk'
              sep := fun i j hij => by
                cases i with
                | zero => cases j with
                  | zero => exact absurd rfl hij
                  | succ j => exact Apart.none_r _
                | succ i => exact Apart.none_l _
              ap := fun k i => by
                cases k with
                | zero => exact hG.ap 0 i
                | succ k => exact Apart.none_l _
              okap := fun k => by
                cases k with
                | zero => exact hG.okap 0
                | succ k => exact Apart.none_r _
              live := fun k b o hx => by
                cases k with
                | zero => exact hG.live 0 b o hx
                | succ k => exact hx.elim }
          obtain ⟨L2, vs, h2, hh3, v1, v2, v3, v4, _, _⟩ := h1.giveCH hh2 hgv
          obtain ⟨G3, hG3⟩ := hh3
          have hp := hG3.rel ts.length (.pr r v i j) (a.eval y) (by rw [List.getElem?_append_right (by simp; omega)]; simp [v2])
          obtain ⟨hi2, b, p, hbase, hptr⟩ : i < (L2.row r).n ∧ ∃ b o, (L2.row r).base = some (b, o) ∧ a.eval y = .pointer (some ⟨b, o + i * (L2.row r).sz + j, none⟩) := by
            cases hp with | pr _ hx => exact hx hv
          obtain ⟨csz, crows⟩ := c
          have hszr := (h2.roots r csz crows hcc).1
          rw [hszr] at hptr
          obtain ⟨L3, h3, hin⟩ := h2.setRowH hcc hi hbase (ts := ts) (vs := vs) (j := j) hj v2 ⟨G3, hG3.setSame (l' := (ts.map (SV.tr none)).zip vs) (fun k q hq => by
            have := (List.getElem?_eq_some_iff.1 hq).1
            rw [List.getElem?_append_left this]; exact hq)⟩
          have hrun := run_storeCells_cells (P := P) b (p + i * csz + j) vs 0 w (fun q hq => by have := (hin q hq).1; unfold World.at at this; simpa using this) (fun q hq => by have := (hin q hq).2; unfold World.fz at this; simpa using this) v4
          simp only [Oper.wp]
          have : (execOp a.eval o).run P w = .ok .skip (w.setCells b (p + i * csz + j) vs) := by
            simp [execOp, ho, Instr.storeAt, hptr, Instr.sureAddr, storeVar, run_sizeOf' hu, v1, v2, v3, hrun]
          rw [this, Oper.upon_skip, hd]
          exact hk _ _ _ _ hK h3
        · exact hc.elim
      · exact hc.elim
    · exact hc.elim
  | extract x i =>
    simp only [wop, ho] at hc
    split at hc
    · rename_i t
      split at hc
      · rename_i vs hs
        obtain ⟨s, hi, hc⟩ := hc
        have ht : t < N := okOper_arg hok (by simp [ho, Op.operands])
        have hrun : ∀ {us : Array Value} {v : Value}, a.tmps.getD t undef = .tuple us → us[i]? = some v → (execOp a.eval o).run P w = .ok (.value v) w := by
          intro us v h1 h2
          have h1' : a.eval (.tmp t) = .tuple us := h1
          simp [execOp, ho, h1', Instr.extract, h2]
        split at hc
        · obtain ⟨L', us, v, e1, e2, e3, e4⟩ := h.takeOne ht hs hi
          obtain ⟨L2, h2⟩ := e3.putOH hdst e4
          exact wp_value (hrun e1 e2) (hk _ _ _ _ hc h2)
        · rename_i hown
          obtain ⟨L', us, v, e1, e2, e3, e4⟩ := h.takeOne ht hs hi
          have hsl := h.slots t
          rw [hs, e1] at hsl
          have hr : SRel σ w L s v Cells.none := by
            cases hsl with
            | tup hr => rename_i us'; exact (hr.get i s v hi (by simpa using e2)).free (by simpa using hown) _
          obtain ⟨L2, h2⟩ := h.putOH hdst (Hand.free hr)
          exact wp_value (hrun e1 e2) (hk _ _ _ _ hc h2)
      · exact hc.elim
    · exact hc.elim
  | call c =>
    simp only [wop, ho] at hc
    have calm' : wcalm P Γ true (.call c) o.type σ (fun s => K (σ.putO o.dst s)) → o.wp P a w Kr Q := fun hcc => calm (by rw [ho]; exact hcc)
    split at hc
    · rename_i f hcal
      split at hc
      · rename_i F hF
        split at hc
        · exact calm' hc
        · obtain ⟨callee, args, ts⟩ := c
          simp only at hcal; subst hcal
          have harg : (argList { callee := .value (.func f), args := args, argTypes := ts }).map (·.1) = args.toList := by
            simp only [argList, List.map_map]
            apply List.ext_getElem?
            intro i
            by_cases hi : i < args.size
            · simp [hi]
            · simp [hi, Nat.not_lt.1 hi]
          refine wcallC_wp h hg ho harg ?_ hdst hc hk
          intro x T hx t ht
          subst ht
          have hm : Operand.tmp t ∈ args.toList := by rw [← harg]; exact List.mem_map.2 ⟨_, hx, rfl⟩
          exact okOper_arg hok (by simp only [ho, Op.operands, Call.operands]; simp; simpa using hm)
      · exact hc.elim
    · exact calm' hc
  | _ => exact calm (by simpa only [wop, ho] using hc)
end
end Go.Mv
