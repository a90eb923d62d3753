/-
  A part of a theory of trees by which the functions of the program are walked: it proves no statement of the seat by itself; no conditions.
-/
import Derived.Test.YtdkjhbbddlognaaMvPut
import Derived.Laws.Entries
import Derived.Laws.Cells
import Derived.Laws.StructEq
namespace Go.Mv
set_option linter.unusedVariables false

/-- what a calm operation, or a call that is lent all, has made of the world; okN: new memory that nobody owns -/
structure Res (σ : St) (w : World) (L : Lay) (s : SV) (v : Value) (w' : World) (F okN : Cells) : Prop where
  size : w.heap.size ≤ w'.heap.size
  ext : ∀ b, b < w.heap.size → w'.heap[b]? = w.heap[b]?
  still : Still w w'
  new : ∀ b o, F b o → w.heap.size ≤ b ∧ b < w'.heap.size
  newO : ∀ b o, okN b o → w.heap.size ≤ b ∧ b < w'.heap.size
  apart : Apart okN F
  rel : SRel σ w' { L with ok := Or L.ok okN } s v F

theorem same_of_ext {w w' : World} (h : ∀ b, b < w.heap.size → w'.heap[b]? = w.heap[b]?) {F : Cells} (hF : ∀ b o, F b o → b < w.heap.size) : Same w w' F := by
  intro b o hx
  have := h b (hF b o hx)
  simp [World.at, World.fz, World.cell?, World.frozen?, this]

section
variable {w0 : World} {FA ok0 : Cells} {E : Ent} {N : Nat} {σ : St} {a : Act} {w : World} {L : Lay}

theorem keeps_ext {F : Cells} {w w' : World} (hs : w.heap.size ≤ w'.heap.size) (h : ∀ b, b < w.heap.size → w'.heap[b]? = w.heap[b]?) (hst : Still w w') : Keeps F w w' :=
  ⟨hs, fun b hb => .inl (h b hb), hst⟩

/-- memory has grown; some of what is new is nobody's -/
theorem Later.ext (h : Rel w0 FA ok0 E N σ a w L) {w' : World} {okN : Cells} (hs : w.heap.size ≤ w'.heap.size) (he : ∀ b, b < w.heap.size → w'.heap[b]? = w.heap[b]?) :
    Later σ w L σ w' { L with ok := Or L.ok okN } :=
  { ver := fun _ => Nat.le_refl _, row := fun _ _ => rfl, nver := fun _ => Nat.le_refl _
    nst := fun r _ => ⟨rfl, h.row_same fun i => same_of_ext he fun b o hx => (h.live i b o hx).1⟩
    bver := fun _ => Nat.le_refl _, loc := fun _ _ => rfl, ep := Nat.le_refl _, sn := fun _ => ⟨Sub.refl _, same_of_ext he fun b o hx => (h.liveS b o hx).1⟩
    ok := Sub.or_l _ _, okw := same_of_ext he fun b o hx => (h.liveO b o hx).1 }

theorem Rel.ext (h : Rel w0 FA ok0 E N σ a w L) {w' : World} {okN : Cells} (hs : w.heap.size ≤ w'.heap.size) (he : ∀ b, b < w.heap.size → w'.heap[b]? = w.heap[b]?) (hst : Still w w')
    (hN : ∀ b o, okN b o → w.heap.size ≤ b ∧ b < w'.heap.size) : Rel w0 FA ok0 E N σ a w' { L with ok := Or L.ok okN } := by
  have later := Later.ext (okN := okN) h hs he
  have hat : ∀ i, Lay.at { L with ok := Or L.ok okN } i = L.at i := fun i => by cases i <;> rfl
  have hsame : ∀ i, Same w w' (L.at i) := fun i => same_of_ext he fun b o hx => (h.live i b o hx).1
  exact
  { size := h.size, defers := h.defers
    slots := fun d => SRel.later later (h.slots d) (hsame (.s d))
    boxes := fun b cs hb => ⟨(h.boxes b cs hb).1, fun j s hj => by
      obtain ⟨v, e1, e2, e3, e4⟩ := (h.boxes b cs hb).2 j s hj
      have hj' : j < L.len b := by have := (List.getElem?_eq_some_iff.1 hj).1; have := (h.boxes b cs hb).1; omega
      have hm := hsame (.m b j) _ _ ⟨hj', rfl, rfl⟩
      exact ⟨v, by rw [hm.1]; exact e1, by rw [hm.2]; exact e2, SRel.later later e3 (hsame (.c b j)), e4⟩⟩
    roots := fun r sz rows hc => by
      obtain ⟨x, y, v, hv, z⟩ := h.roots r sz rows hc
      refine ⟨x, y, v, ?_, z⟩
      cases r with
      | slot d => exact hv
      | cell b j =>
        obtain ⟨cs, hb, hj⟩ := content_cell.1 hc
        have hj' : j < L.len b := by have := (List.getElem?_eq_some_iff.1 hj).1; have := (h.boxes b cs hb).1; omega
        simp only [rootVal] at hv ⊢
        rw [(hsame (.m b j) _ _ ⟨hj', rfl, rfl⟩).1]; exact hv
      | arg i j => exact hv
    args := fun i j sz rows hc => ⟨(Rd.keep later.okw (h.args i j sz rows hc).1 (hsame (.a i j))).okmono (Sub.or_l _ _), (h.args i j sz rows hc).2⟩
    ploc := h.ploc
    norow := h.norow
    sep := fun i j => by rw [hat, hat]; exact h.sep i j
    okap := fun i => by
      rw [hat]
      exact Apart.or (h.okap i) fun b o hx hy => by have := (hN b o hx).1; have := (h.live i b o hy).1; omega
    snapS := h.snapS, snapM := fun b j => by rw [hat]; exact h.snapM b j
    live := fun i b o hx => by rw [hat] at hx; exact ⟨Nat.lt_of_lt_of_le (h.live i b o hx).1 hs, (h.live i b o hx).2⟩
    liveS := fun b o hx => ⟨Nat.lt_of_lt_of_le (h.liveS b o hx).1 hs, (h.liveS b o hx).2⟩
    liveO := fun b o hx => hx.elim (fun hx => ⟨Nat.lt_of_lt_of_le (h.liveO b o hx).1 hs, (h.liveO b o hx).2⟩) (fun hx => ⟨(hN b o hx).2, .inr (.inr (Nat.le_trans h.keeps.1 (hN b o hx).1))⟩)
    keeps := h.keeps.trans (keeps_ext hs he hst) (Sub.refl _) (fun _ _ h _ => h) }

theorem Rel.put_res (h : Rel w0 FA ok0 E N σ a w L) {d : Nat} (hd : d < N) {s v w' F okN} (r : Res σ w L s v w' F okN) :
    ∃ R, Rel w0 FA ok0 E N (σ.put d s) (a.put (some d) v) w' { L with ok := Or L.ok okN, slotF := fun i => if i = d then F else L.slotF i, row := fun r => if r = .slot d then R else L.row r } := by
  have h' := h.ext r.size r.ext r.still r.newO
  have hat : ∀ i, Lay.at { L with ok := Or L.ok okN } i = L.at i := fun i => by cases i <;> rfl
  exact h'.put hd (Nat.le_refl _) h'.keeps (fun i => Same.refl _ _) (Same.refl _ _) (Same.refl _ _) (fun b o hx => ⟨(r.new b o hx).2, .inr (Nat.le_trans h.keeps.1 (r.new b o hx).1)⟩)
    (fun i hi b o hx hy => by rw [hat] at hy; have := (r.new b o hx).1; have := (h.live i b o hy).1; omega)
    (fun b o hx hy => hx.elim (fun hx => by have := (r.new b o hy).1; have := (h.liveO b o hx).1; omega) (fun hx => r.apart b o hx hy))
    (fun b o hx hy => by have := (r.new b o (tops_sub r.rel b o hy)).1; have := (h.liveS b o hx).1; omega) r.rel

theorem Res.pure {s v} (h : SRel σ w L s v Cells.none) : Res σ w L s v w Cells.none Cells.none :=
  ⟨Nat.le_refl _, fun _ _ => rfl, Still.refl w, fun _ _ h => h.elim, fun _ _ h => h.elim, Apart.none_l _, SRel.later (L := L) (L' := { L with ok := Or L.ok Cells.none })
    { ver := fun _ => Nat.le_refl _, row := fun _ _ => rfl, nver := fun _ => Nat.le_refl _, nst := fun r _ => ⟨rfl, fun _ _ _ _ _ => rfl⟩
      bver := fun _ => Nat.le_refl _, loc := fun _ _ => rfl, ep := Nat.le_refl _, sn := fun _ => ⟨Sub.refl _, Same.refl _ _⟩, ok := Sub.or_l _ _, okw := Same.refl _ _ } h (Same.refl _ _)⟩

def opF (L : Lay) : Operand → Cells
  | .tmp t => L.slotF t
  | _ => Cells.none

theorem constSV_rel {P : Program} {T : TypeId} {v : Value} : SRel σ w L (constSV P T v) v Cells.none := by
  unfold constSV
  split
  · rename_i h; exact .tr (.sc h)
  · split
    · split
      · exact .tr .nil
      · exact .dead
    · exact .tr .inil
    · exact .dead

theorem Rel.val (h : Rel w0 FA ok0 E N σ a w L) (P : Program) (T : TypeId) (x : Operand) : SRel σ w L (σ.val P T x) (a.eval x) (opF L x) := by
  cases x with
  | tmp t => simpa [St.val, Act.eval, opF] using h.slots t
  | const v => simpa [St.val, Act.eval, opF] using constSV_rel
  | func f => simp only [St.val, Act.eval, opF]; exact .tr (.fn (vs := []) .nil)
  | global g => simp only [St.val, opF]; exact .dead

theorem Rel.live_op (h : Rel w0 FA ok0 E N σ a w L) (x : Operand) : ∀ b o, opF L x b o → b < w.heap.size := by
  cases x with
  | tmp t => exact fun b o hx => (h.live (.s t) b o hx).1
  | _ => exact fun _ _ h => h.elim

theorem Rd.free {w ok v t F G} (h : Rd w ok v t F) (hs : ownsT t = false) : Rd w ok v t G := by
  cases h with
  | sc h => exact .sc h
  | dead => exact .dead
  | inil => exact .inil
  | iface => exact .iface
  | fn h => exact .fn h
  | agg h => simp [ownsT] at hs
  | nil => exact .nil
  | own => simp [ownsT] at hs
  | own0 => simp [ownsT] at hs
  | bor h1 h2 h3 h4 h5 h6 => exact .bor h1 h2 h3 h4 h5 h6
  | bor0 => exact .bor0

mutual
/-- what owns nothing stands without cells -/
theorem SRel.free : ∀ {s v F}, SRel σ w L s v F → owning s = false → ∀ G, SRel σ w L s v G
  | _, _, _, .tr h, hs, G => .tr (Rd.free h (by simpa [owning] using hs))
  | _, _, _, .trE h1 h2, _, G => .trE h1 h2
  | _, _, _, .ref h1 h2, _, G => .ref h1 h2
  | _, _, _, .pc h1 h2, _, G => .pc h1 h2
  | _, _, _, .pr h1 h2, _, G => .pr h1 h2
  | _, _, _, .pv h1 h2, _, G => .pv h1 h2
  | _, _, _, .nst h1 h2 h3 h4, _, G => .nst h1 h2 h3 h4
  | _, _, _, .agg h, hs, G => .agg (SRelL.free h (by simpa [owning] using hs) G)
  | _, _, _, .tup h, hs, G => .tup (SRelL.free h (by simpa [owning] using hs) G)
  | _, _, _, .dead, _, G => .dead
theorem SRelL.free : ∀ {s v F}, SRelL σ w L s v F → owningL s = false → ∀ G, SRelL σ w L s v G
  | _, _, _, .nil, _, G => .nil
  | _, _, _, .cons h1 h2 h3 h4 h5, hs, G => by
    simp only [owningL, Bool.or_eq_false_iff] at hs
    exact .cons (Sub.none _) (Sub.none _) (Apart.none_l _) (SRel.free h4 hs.1 _) (SRelL.free h5 hs.2 _)
end

/-! ### the model's own steps, as the evaluator wants them -/
variable {B : Bool} {P : Program} {Q : Exit → Act → World → Prop} {Kr : Act → World → Prop} {o : Oper}

theorem wp_value {v : Value} {w' : World} (h : (execOp a.eval o).run P w = .ok (.value v) w') (hk : Kr (a.put o.dst v) w') : o.wp P a w Kr Q := by
  simp only [Oper.wp, h, Oper.upon]; exact hk

theorem run_v {s : Sem Value} {v : Value} {w' : World} (h : s.run P w = .ok v w') : (do pure (Next.value (← s)) : Sem Next).run P w = .ok (.value v) w' := by
  simp [h]


theorem SRel.sc {v u F} (h : SRel σ w L (.tr none (.sc v)) u F) : u = v := by
  cases h with | tr hd => cases hd; rfl

theorem SRel.sc_flat {v u F} (h : SRel σ w L (.tr none (.sc v)) u F) : flat v = true := by
  cases h with | tr hd => cases hd; assumption
theorem SRel.sc_str {s u F} (h : SRel σ w L (.tr none (.sc (.string s))) u F) : s.size ≤ 9223372036854775807 := by
  have := h.sc_flat; simpa [flat] using this

/-- the operation gives a value of which K holds -/
def Gives (P : Program) (σ : St) (a : Act) (w : World) (L : Lay) (o : Oper) (K : SV → Prop) : Prop :=
  ∃ s v w' F okN, K s ∧ (execOp a.eval o).run P w = .ok (.value v) w' ∧ Res σ w L s v w' F okN

theorem gives_pure {K : SV → Prop} {s v} (hk : K s) (hr : (execOp a.eval o).run P w = .ok (.value v) w) (h : SRel σ w L s v Cells.none) : Gives P σ a w L o K :=
  ⟨s, v, w, _, _, hk, hr, .pure h⟩

theorem addr_add (b o k : Nat) : (Addr.mk b o none).add k = ⟨b, o + k, none⟩ := by
  unfold Addr.add; split <;> simp_all

theorem run_sizeOf' {T : TypeId} (h : (P.underlying T).isSome = true) : (sizeOf T).run P w = .ok (P.cellsOf T) w := by
  cases hi : P.info? T with
  | none => simp [Program.underlying, hi] at h
  | some i => simp [sizeOf, typeInfo, hi, Program.cellsOf]

theorem run_isAgg' {T : TypeId} (h : (P.underlying T).isSome = true) : (isAgg T).run P w = .ok (isAggT P T) w := by
  obtain ⟨d, hd⟩ := Option.isSome_iff_exists.1 h
  simp only [isAgg, Sem.run_bind, run_underlying hd, Result.andThen_ok, isAggT, hd]
  cases d <;> simp

theorem run_loadVar_agg {T : TypeId} {b p : Nat} {vs : List Value} (h : (P.underlying T).isSome = true) (hg : isAggT P T = true) (hl : vs.length = P.cellsOf T)
    (hc : ∀ i v, vs[i]? = some v → World.at w b (p + i) = some v) : (loadVar T ⟨b, p, none⟩).run P w = .ok (.agg vs.toArray) w := by
  simp only [loadVar, Sem.run_bind, run_isAgg' h, Result.andThen_ok, hg, if_true, run_sizeOf' h, ← hl]
  rw [run_loadCells_list (P := P) w ⟨b, p, none⟩ vs (fun j v hv => by rw [addr_add]; exact hc j v hv)]
  simp

theorem run_loadVar_one {T : TypeId} {b p : Nat} {v : Value} (h : (P.underlying T).isSome = true) (hg : isAggT P T = false)
    (hc : World.at w b p = some v) : (loadVar T ⟨b, p, none⟩).run P w = .ok v w := by
  simp only [loadVar, Sem.run_bind, run_isAgg' h, Result.andThen_ok, hg]
  simp [load, Sem.run]
  simp only [World.at] at hc
  simp [hc]

theorem rowIs.sub {v R} (h : rowIs v R) : subIs v R 0 R.n := by
  have h' := h
  rcases h with ⟨b, o, h1, h2, rfl⟩ | ⟨h1, h2, h3, a, rfl⟩
  · exact ⟨_, _, rfl, h2, by omega, .inr ⟨b, o, h1, by simp, by omega⟩, fun _ _ => h'⟩
  · exact ⟨_, _, by rw [h2], by omega, by omega, .inl rfl, fun _ _ => h'⟩

theorem Rel.root_slot (h : Rel w0 FA ok0 E N σ a w L) {t sz rows} (hs : σ.slot t = .tr none (.sl true sz rows)) :
    (L.row (.slot t)).sz = sz ∧ (L.row (.slot t)).n = rows.length ∧ rowIs (a.tmps.getD t undef) (L.row (.slot t)) := by
  obtain ⟨x, y, v, hv, z⟩ := h.roots _ _ _ (content_slot.2 hs)
  simp only [rootVal, Option.some.injEq] at hv
  exact ⟨x, y, hv ▸ z⟩

theorem calm_move (h : Rel w0 FA ok0 E N σ a w L) {x : Operand} {T0 : TypeId} {Γ : Env} (ho : o.op = .move x) {K : SV → Prop} (hc : wcalm P Γ B (.move x) T0 σ K) : Gives P σ a w L o K := by
  have hr : (execOp a.eval o).run P w = .ok (.value (a.eval x)) w := by simp [execOp, ho]
  cases x with
  | tmp t =>
    simp only [wcalm] at hc
    split at hc
    · rename_i sz rows hs
      refine gives_pure hc hr (.ref (Nat.le_refl _) fun _ => ?_)
      obtain ⟨x, y, z⟩ := h.root_slot hs
      rw [← y]; simp only [Act.eval]; exact z.sub
    · rename_i s hs
      exact gives_pure hc.2 hr (SRel.free (h.val P T0 (.tmp t)) hc.1 _)
  | const v => exact gives_pure hc hr (h.val P T0 _)
  | func f => exact gives_pure hc hr (h.val P T0 _)
  | global g => exact gives_pure hc hr (h.val P T0 _)

theorem calm_pick (h : Rel w0 FA ok0 E N σ a w L) {c x y : Operand} {T0 : TypeId} {Γ : Env} (ho : o.op = .pick c x y) {K : SV → Prop} (hc : wcalm P Γ B (.pick c x y) T0 σ K) : Gives P σ a w L o K := by
  simp only [wcalm] at hc
  have hv := h.val P 0 c
  split at hc
  · rename_i b hs
    rw [hs] at hv
    have hb := hv.sc
    obtain ⟨h1, h2, h3, h4⟩ := hc
    have hr : (execOp a.eval o).run P w = .ok (.value (if b then a.eval x else a.eval y)) w := by simp [execOp, ho, hb, asBool]
    cases b with
    | true => exact gives_pure (h3 rfl) (by simpa using hr) (SRel.free (h.val P T0 x) h1 _)
    | false => exact gives_pure (h4 rfl) (by simpa using hr) (SRel.free (h.val P T0 y) h2 _)
  · exact hc.elim


theorem calm_nilCheck (h : Rel w0 FA ok0 E N σ a w L) {x : Operand} {T0 : TypeId} {Γ : Env} (ho : o.op = .nilCheck x) {K : SV → Prop} (hc : wcalm P Γ B (.nilCheck x) T0 σ K) : Gives P σ a w L o K := by
  simp only [wcalm] at hc
  have hv := h.val P T0 x
  split at hc
  · rename_i b n off hs
    rw [hs] at hv
    cases hv with | pc h1 h2 =>
    have he := h2 hc.1
    exact gives_pure (v := a.eval x) hc.2 (by simp [execOp, ho, he]) (.pc h1 h2)
  · rename_i r n i j hs
    rw [hs] at hv
    cases hv with | pr h1 h2 =>
    obtain ⟨hi, b, p, hb, he⟩ := h2 hc.1
    exact gives_pure (v := a.eval x) hc.2 (by simp [execOp, ho, he]) (.pr h1 h2)
  · rename_i e row j hs
    rw [hs] at hv
    cases hv with | pv h1 h2 =>
    obtain ⟨b, p, vs, he, _⟩ := h2 hc.1
    exact gives_pure (v := a.eval x) hc.2 (by simp [execOp, ho, he]) (.pv h1 h2)
  · rename_i e f cs hs
    rw [hs] at hv
    have hf : ∃ vs : List Value, a.eval x = .func (.func f) #[] vs.toArray := by
      cases e with
      | none => cases hv with | tr hd => obtain ⟨vs, e, _⟩ := hd.fn_inv; exact ⟨_, e⟩
      | some n => cases hv with | trE h1 h2 => obtain ⟨vs, e, _⟩ := (h2 (by simpa using hc.1)).fn_inv; exact ⟨_, e⟩
    obtain ⟨vs, hf⟩ := hf
    refine gives_pure hc.2 (v := .func (.func f) #[] vs.toArray) (by simp [execOp, ho, hf]) ?_
    rw [← hf]
    exact SRel.free hv (by simp [owning, ownsT]) _
  · exact hc.elim

theorem SRelL.get {ss vs F} (h : SRelL σ w L ss vs F) : ∀ (i : Nat) (s : SV) (v : Value), ss[i]? = some s → vs[i]? = some v → SRel σ w L s v F := by
  induction ss generalizing vs F with
  | nil => intro i s v h; simp at h
  | cons s ss ih =>
    cases h with
    | cons h1 h2 h3 h4 h5 =>
      intro i s' v hs hv
      cases i with
      | zero => simp at hs hv; subst hs; subst hv; exact h4.mono h1
      | succ i => simp at hs hv; exact (ih h5 i s' v hs hv).mono h2

theorem SRelL.length {ss vs F} (h : SRelL σ w L ss vs F) : vs.length = ss.length := by
  induction ss generalizing vs F with
  | nil => cases h; rfl
  | cons s ss ih => cases h with | cons _ _ _ _ h5 => simp [ih h5]

theorem viewSV_rel (h : Rel w0 FA ok0 E N σ a w L) {b j : Nat} {cs : List SV} {s : SV} {v : Value} (hb : σ.box b = some cs) (hj : cs[j]? = some s)
    (hv : World.at w (L.loc b).1 ((L.loc b).2 + j) = some v) (hs : SRel σ w L s v (L.cellF b j)) : SRel σ w L (viewSV σ b j s) v (L.cellF b j) := by
  unfold viewSV
  split
  · rename_i sz rows
    refine .ref (Nat.le_refl _) fun _ => ?_
    obtain ⟨x, y, v', hv', z⟩ := h.roots (.cell b j) sz rows (content_cell.2 ⟨cs, hb, hj⟩)
    simp only [rootVal] at hv'
    rw [hv] at hv'; simp at hv'; subst hv'
    rw [← y]; exact z.sub
  · exact hs

/-- the cells of a box from j on, n of them -/
theorem box_cells (h : Rel w0 FA ok0 E N σ a w L) {b : Nat} {cs : List SV} (hb : σ.box b = some cs) :
    ∀ (n j : Nat), j + n ≤ cs.length → owningL (viewSVs σ b j ((cs.drop j).take n)) = false →
      ∃ vs : List Value, vs.length = n ∧ (∀ i v, vs[i]? = some v → World.at w (L.loc b).1 ((L.loc b).2 + j + i) = some v) ∧ SRelL σ w L (viewSVs σ b j ((cs.drop j).take n)) vs Cells.none
  | 0, j, _, _ => ⟨[], rfl, by simp, by simp only [List.take_zero, viewSVs]; exact .nil⟩
  | n + 1, j, hj, ho => by
    have hj' : j < cs.length := by omega
    obtain ⟨v, e1, e2, e3, e4⟩ := (h.boxes b cs hb).2 j _ (List.getElem?_eq_getElem hj')
    have hd : (cs.drop j).take (n + 1) = cs[j] :: ((cs.drop (j + 1)).take n) := by
      rw [List.drop_eq_getElem_cons hj']; rfl
    rw [hd] at ho ⊢
    simp only [viewSVs, owningL, Bool.or_eq_false_iff] at ho ⊢
    obtain ⟨vs, q1, q2, q3⟩ := box_cells h hb n (j + 1) (by omega) ho.2
    refine ⟨v :: vs, by simp [q1], ?_, .cons (Sub.none _) (Sub.none _) (Apart.none_l _) (SRel.free (viewSV_rel h hb (List.getElem?_eq_getElem hj') e1 e3) ho.1 _) q3⟩
    intro i u hu
    cases i with
    | zero => simp at hu; subst hu; exact e1
    | succ i => simp at hu; have := q2 i u hu; rwa [show (L.loc b).2 + j + (i + 1) = (L.loc b).2 + (j + 1) + i by omega]

/-- a root's value, as it reads -/
theorem Rel.root_rd (h : Rel w0 FA ok0 E N σ a w L) {r : Root} {sz rows} (hc : σ.content r = some (sz, rows)) :
    ∃ v, rootVal E a w L r = some v ∧ rowIs v (L.row r) ∧ (L.row r).sz = sz ∧ (L.row r).n = rows.length ∧ Rd w L.ok v (.sl true sz rows) (L.at r.ix) := by
  obtain ⟨x, y, v, hv, z⟩ := h.roots r sz rows hc
  refine ⟨v, hv, z, x, y, ?_⟩
  cases r with
  | slot d =>
    have hs := h.slots d
    rw [content_slot.1 hc] at hs
    simp only [rootVal, Option.some.injEq] at hv; subst hv
    cases hs with | tr hd => exact hd
  | cell b j =>
    obtain ⟨cs, hb, hj⟩ := content_cell.1 hc
    obtain ⟨v', hv', _, hs, _⟩ := (h.boxes b cs hb).2 j _ hj
    simp only [rootVal] at hv; rw [hv'] at hv; simp at hv; subst hv
    cases hs with | tr hd => exact hd
  | arg i j =>
    simp only [rootVal, Option.some.injEq] at hv; subst hv
    exact (h.args i j sz rows hc).1

/-- what an array of ours holds at its place: the values behind its elements -/
theorem Rel.row_vals (h : Rel w0 FA ok0 E N σ a w L) {r : Root} {c : Nat × List (List Tr)} (hc : σ.content r = some c) {i : Nat} {row : List Tr} (hi : c.2[i]? = some row) :
    ∃ b p vs, (L.row r).base = some (b, p) ∧ (L.row r).sz = c.1 ∧ row.length = c.1 ∧ vs.length = c.1 ∧ i * c.1 + c.1 ≤ (L.row r).cap * c.1 ∧
      (∀ k v, vs[k]? = some v → World.at w b (p + i * c.1 + k) = some v) ∧
      ∃ G, Sub G (L.at r.ix) ∧ Apart (L.row r).seg G ∧ RdL w L.ok vs row G := by
  obtain ⟨sz, rows⟩ := c
  obtain ⟨v, hv, hR, e1, e2, hd⟩ := h.root_rd hc
  have hil : i < rows.length := (List.getElem?_eq_some_iff.1 hi).1
  rcases hR with ⟨b, p, hb, hle, rfl⟩ | ⟨_, hn, _⟩
  · rcases hd.own_inv with ⟨rfl, _⟩ | ⟨b2, p2, len2, cap2, vs, G, ev, h1, h2, h3, h4, h5, h6, h7, h8, h9⟩
    · simp at hil
    · simp only [Value.slice.injEq, Option.some.injEq, Addr.mk.injEq, and_true] at ev
      obtain ⟨⟨rfl, rfl⟩, rfl, rfl⟩ := ev
      obtain ⟨G', g1, g2⟩ := RdL.row h9 h3 i row hi
      have hrow := h3 row (List.mem_of_getElem? hi)
      have hcap : i * sz + sz ≤ (L.row r).cap * sz := by
        have : (i + 1) * sz ≤ (L.row r).cap * sz := Nat.mul_le_mul_right _ (by omega)
        rwa [Nat.succ_mul] at this
      have hlen : i * sz + sz ≤ vs.length := by
        have : (i + 1) * sz ≤ (L.row r).n * sz := Nat.mul_le_mul_right _ (by omega)
        rw [Nat.succ_mul] at this; omega
      refine ⟨b, p, (vs.drop (i * sz)).take sz, hb, e1, hrow, by simp; omega, hcap, ?_, G', g1.trans h7, ?_, g2⟩
      · intro k u hu
        have hk : k < sz := by have := (List.getElem?_eq_some_iff.1 hu).1; simp at this; omega
        rw [List.getElem?_take_of_lt hk, List.getElem?_drop] at hu
        have := h5 _ _ hu
        rwa [← Nat.add_assoc] at this
      · rintro x q ⟨b', p', hb', hs⟩ hG
        rw [hb] at hb'; simp at hb'; obtain ⟨rfl, rfl⟩ := hb'
        rw [e1] at hs
        exact h8 x q hs (g1 x q hG)
  · omega

/-- every cell that an array of ours leads to is among those that stand -/
def Full (σ : St) (L : Lay) : Prop := ∀ r c, σ.content r = some c → ∀ b o, L.at r.ix b o → ¬ (L.row r).seg b o → L.sn b o

theorem Root.ix_inj {r r' : Root} (h : r.ix = r'.ix) : r = r' := by
  cases r <;> cases r' <;> simp_all [Root.ix]

theorem rowIs.seg {v R} (h : rowIs v R) : ∀ x o, R.seg x o ↔ segV R.sz v x o := by
  rcases h with ⟨b, p, hb, hle, rfl⟩ | ⟨hb, hn, hc, a, rfl⟩
  · intro x o
    simp only [RowI.seg, hb, segV, Option.some.injEq, Prod.mk.injEq]
    constructor
    · rintro ⟨_, _, ⟨rfl, rfl⟩, h⟩; exact h
    · intro h; exact ⟨b, p, ⟨rfl, rfl⟩, h⟩
  · intro x o
    cases a with
    | none => simp [RowI.seg, hb, segV, Cells.none]
    | some q => simp [RowI.seg, hb, segV, Mv.seg]

theorem Later.grow {L : Lay} {sn : Cells} (hs : Sub L.sn sn) : Later σ w L σ w { L with sn := sn } :=
  { ver := fun _ => Nat.le_refl _, row := fun _ _ => rfl, nver := fun _ => Nat.le_refl _, nst := fun _ _ => ⟨rfl, fun _ _ _ _ _ => rfl⟩
    bver := fun _ => Nat.le_refl _, loc := fun _ _ => rfl, ep := Nat.le_refl _, sn := fun _ => ⟨hs, Same.refl _ _⟩, ok := Sub.refl _, okw := Same.refl _ _ }

theorem Rel.fill (h : Rel w0 FA ok0 E N σ a w L) : ∃ sn, Rel w0 FA ok0 E N σ a w { L with sn := sn } ∧ Full σ { L with sn := sn } := by
  refine ⟨fun b o => L.sn b o ∨ ∃ r c, σ.content r = some c ∧ L.at r.ix b o ∧ ¬ (L.row r).seg b o, ?_, ?_⟩
  · have later := Later.grow (σ := σ) (w := w) (L := L) (sn := fun b o => L.sn b o ∨ ∃ r c, σ.content r = some c ∧ L.at r.ix b o ∧ ¬ (L.row r).seg b o) (fun _ _ h => .inl h)
    have hat : ∀ i, Lay.at { L with sn := fun b o => L.sn b o ∨ ∃ r c, σ.content r = some c ∧ L.at r.ix b o ∧ ¬ (L.row r).seg b o } i = L.at i := fun i => by cases i <;> rfl
    have top : ∀ (i : Ix) (s : SV) (v : Value), Sub (tops s v) (L.at i) → Apart L.sn (tops s v) →
        (∀ r, r.ix = i → ∀ sz rows, σ.content r = some (sz, rows) → s = .tr none (.sl true sz rows) ∧ rowIs v (L.row r) ∧ (L.row r).sz = sz) →
        Apart (fun b o => L.sn b o ∨ ∃ r c, σ.content r = some c ∧ L.at r.ix b o ∧ ¬ (L.row r).seg b o) (tops s v) := by
      rintro i s v hsub hap hr b o (hx | ⟨r, ⟨sz, rows⟩, hc, h1, h2⟩) hy
      · exact hap b o hx hy
      · by_cases e : r.ix = i
        · obtain ⟨rfl, q2, q3⟩ := hr r e sz rows hc
          refine h2 ((q2.seg b o).2 ?_)
          rw [q3]; simpa [tops, topT] using hy
        · exact h.sep _ _ e b o h1 (hsub b o hy)
    exact
    { size := h.size
      defers := h.defers
      slots := fun d => SRel.later later (h.slots d) (Same.refl _ _)
      boxes := fun b cs hb => ⟨(h.boxes b cs hb).1, fun j s hj => by
        obtain ⟨v, e1, e2, e3, e4⟩ := (h.boxes b cs hb).2 j s hj
        refine ⟨v, e1, e2, SRel.later later e3 (Same.refl _ _), top (.c b j) s v (tops_sub e3) e4 ?_⟩
        intro r hr sz rows hc
        have : r = .cell b j := Root.ix_inj hr
        subst this
        obtain ⟨cs', hb', hj'⟩ := content_cell.1 hc
        rw [hb] at hb'; cases hb'; rw [hj] at hj'; cases hj'
        obtain ⟨x, y, v', hv', z⟩ := h.roots _ _ _ hc
        simp only [rootVal] at hv'; rw [e1] at hv'; cases hv'
        exact ⟨rfl, z, x⟩⟩
      args := fun i j sz rows hc => ⟨(h.args i j sz rows hc).1, by
        have := top (.a i j) (.tr none (.sl true sz rows)) (E.hd i j) (topT_sub (h.args i j sz rows hc).1) (h.args i j sz rows hc).2 fun r hr sz' rows' hc' => by
          have : r = .arg i j := Root.ix_inj hr
          subst this
          have e : σ.content (.arg i j) = some (sz, rows) := hc
          rw [e] at hc'; cases hc'
          obtain ⟨x, y, v, hv, z⟩ := h.roots _ _ _ e
          simp only [rootVal, Option.some.injEq] at hv; subst hv
          exact ⟨rfl, z, x⟩
        exact this⟩
      ploc := h.ploc
      roots := h.roots
      norow := h.norow
      sep := fun i j => by rw [hat, hat]; exact h.sep i j
      okap := fun i => by rw [hat]; exact h.okap i
      snapS := fun d => top (.s d) _ _ (tops_sub (h.slots d)) (h.snapS d) fun r hr sz rows hc => by
        have : r = .slot d := Root.ix_inj hr
        subst this
        have hs := content_slot.1 hc
        obtain ⟨x, y, z⟩ := h.root_slot hs
        exact ⟨hs, z, x⟩
      snapM := fun b j => by
        rw [hat]
        rintro x o (hx | ⟨r, c, hc, h1, h2⟩) hy
        · exact h.snapM b j x o hx hy
        · exact h.sep r.ix (.m b j) (by cases r <;> simp [Root.ix]) x o h1 hy
      live := fun i => by rw [hat]; exact h.live i
      liveS := by
        rintro b o (hx | ⟨r, c, hc, h1, h2⟩)
        · exact h.liveS b o hx
        · exact h.live _ _ _ h1
      liveO := h.liveO
      keeps := h.keeps }
  · intro r c hc b o h1 h2
    exact .inr ⟨r, c, hc, by cases r <;> exact h1, h2⟩


theorem run_load {T : TypeId} {x : Operand} {b p : Nat} {v : Value} (ho : o.op = .load T x) (hx : a.eval x = .pointer (some ⟨b, p, none⟩))
    (h : (loadVar T ⟨b, p, none⟩).run P w = .ok v w) : (execOp a.eval o).run P w = .ok (.value v) w := by
  simp [execOp, ho, hx, Instr.loadAt, Instr.sureAddr, h]

/-- the trees of an element's cells, from j on, as they are seen -/
theorem viewTs_rel (h : Rel w0 FA ok0 E N σ a w L) {r : Root} {b p sz i : Nat} (hb : (L.row r).base = some (b, p)) (hsz : (L.row r).sz = sz) (hcap : i * sz + sz ≤ (L.row r).cap * sz) :
    ∀ (ts : List Tr) (vs : List Value) (j : Nat) (G : Cells), Sub G L.sn → RdL w L.ok vs ts G → j + ts.length ≤ sz →
      (∀ k v, vs[k]? = some v → World.at w b (p + i * sz + (j + k)) = some v) → owningL (viewTs σ r i j ts) = false → SRelL σ w L (viewTs σ r i j ts) vs Cells.none
  | [], vs, j, G, _, hr, _, _, _ => by cases hr; exact .nil
  | t :: ts, vs, j, G, hG, hr, hj, hv, ho => by
    cases hr with
    | cons h1 h2 h3 h4 h5 =>
      rename_i v vs G1 G2
      simp only [viewTs, owningL, Bool.or_eq_false_iff, List.length_cons] at ho hj ⊢
      refine .cons (Sub.none _) (Sub.none _) (Apart.none_l _) ?_ (viewTs_rel h hb hsz hcap ts vs (j + 1) G2 (h2.trans hG) h5 (by omega) (fun k u hu => by
        have := hv (k + 1) u (by simpa using hu); rwa [show j + 1 + k = j + (k + 1) by omega]) ho.2)
      have h0 := hv 0 v (by simp)
      have ho1 := ho.1
      unfold viewT at ho1 ⊢
      split
      · rename_i sz' rows
        refine .nst (Nat.le_refl _) (fun _ => ?_) (Nat.le_refl _) (fun _ => ⟨b, p, hb, by rw [hsz]; omega, by rw [hsz]; simpa [Nat.add_assoc] using h0⟩)
        have := h4.lend
        rw [bor_sl] at this
        exact this.okmono (Sub.or (Sub.or_l _ _) ((h1.trans hG).trans (Sub.or_r _ _)))
      · rename_i hne
        refine SRel.free (.tr h4) ?_ _
        split at ho1
        · rename_i q; exact absurd rfl (hne _ _)
        · exact ho1

theorem RdL.dropTake {w ok vs ts F} (h : RdL w ok vs ts F) (j n : Nat) : ∃ G, Sub G F ∧ RdL w ok ((vs.drop j).take n) ((ts.drop j).take n) G := by
  have hl := h.length
  have e : ts.take j ++ ts.drop j = ts := List.take_append_drop _ _
  rw [← e] at h
  obtain ⟨F1, F2, s1, s2, s3, s4, s5⟩ := RdL.app h
  have e2 : (ts.drop j).take n ++ (ts.drop j).drop n = ts.drop j := List.take_append_drop _ _
  rw [← e2] at s5
  obtain ⟨G1, G2, q1, q2, q3, q4, q5⟩ := RdL.app s5
  refine ⟨G1, q1.trans s2, ?_⟩
  have k1 : vs.drop (ts.take j).length = vs.drop j := by
    by_cases hj : j ≤ ts.length
    · rw [List.length_take, Nat.min_eq_left hj]
    · rw [List.drop_eq_nil_of_le (by simp; omega), List.drop_eq_nil_of_le (by omega)]
  have k2 : (vs.drop j).take ((ts.drop j).take n).length = (vs.drop j).take n := by
    have : (vs.drop j).length = (ts.drop j).length := by simp [hl]
    rw [List.length_take, ← this]
    rcases Nat.le_total n (vs.drop j).length with h | h
    · rw [Nat.min_eq_left h]
    · rw [Nat.min_eq_right h, List.take_of_length_le (Nat.le_refl _), List.take_of_length_le h]
  rw [k1, k2] at q4
  exact q4

theorem mkTrs_rel {e : Option Nat} (he : e = none ∨ e = some σ.ep) : ∀ (ts : List Tr) (vs : List Value), RdL w (L.okOf e) vs ts Cells.none →
    owningL (ts.map (mkTr e)) = false → SRelL σ w L (ts.map (mkTr e)) vs Cells.none
  | [], vs, hr, _ => by cases hr; exact .nil
  | t :: ts, vs, hr, ho => by
    cases hr with
    | cons h1 h2 h3 h4 h5 =>
      rename_i v0 vs0 _ _
      simp only [List.map_cons, owningL, Bool.or_eq_false_iff] at ho ⊢
      refine .cons (Sub.none _) (Sub.none _) (Apart.none_l _) ?_ (mkTrs_rel he ts _ (h5.mono h2) ho.2)
      have h4 := h4.mono h1
      have key : SRel σ w L (.tr e t) v0 Cells.none := by
        cases e with
        | none => exact .tr h4
        | some n => exact .trE (by simp at he; omega) fun _ => h4
      cases t with
      | sl o sz rows => exact key
      | fn f cs => exact key
      | agg cs => exact key
      | sc v => cases h4 with | sc h => exact .tr (.sc h)
      | iface b => cases h4 with
        | inil => exact .tr .inil
        | iface => exact .tr .iface
      | dead => exact .tr .dead

theorem calm_load (h : Rel w0 FA ok0 E N σ a w L) (hf : Full σ L) {T : TypeId} {x : Operand} {T0 : TypeId} {Γ : Env} (ho : o.op = .load T x) {K : SV → Prop} (hc : wcalm P Γ B (.load T x) T0 σ K) : Gives P σ a w L o K := by
  simp only [wcalm] at hc
  obtain ⟨hu, hc⟩ := hc
  have hv := h.val P T x
  split at hc
  · rename_i b n off hs
    rw [hs] at hv
    cases hv with | pc h1 h2 =>
    obtain ⟨hn, cs, hb, hlen, hc⟩ := hc
    have hx := h2 hn
    split at hc
    · rename_i hg
      obtain ⟨vs, q1, q2, q3⟩ := box_cells h hb _ _ hlen hc.1
      exact gives_pure hc.2 (run_load ho hx (run_loadVar_agg hu hg q1 q2)) (.agg q3)
    · rename_i hg
      obtain ⟨h1', s, hj, hw, hk⟩ := hc
      obtain ⟨v, e1, e2, e3, e4⟩ := (h.boxes b cs hb).2 _ _ hj
      exact gives_pure hk (run_load ho hx (run_loadVar_one hu (by simpa using hg) e1)) (SRel.free (viewSV_rel h hb hj e1 e3) hw _)
  · rename_i r n i j hs
    rw [hs] at hv
    cases hv with | pr h1 h2 =>
    obtain ⟨hn, c, hcn, row, hi, hlen, hc⟩ := hc
    obtain ⟨hin, b, p, hb, hx⟩ := h2 hn
    obtain ⟨b', p', vs, q1, q2, q3, q4, q5, q6, G, g1, g2, g3⟩ := h.row_vals hcn hi
    rw [hb] at q1; simp at q1; obtain ⟨rfl, rfl⟩ := q1
    rw [q2] at hx
    have hG : Sub G L.sn := fun x o hx => hf r c hcn x o (g1 x o hx) (fun hy => g2 x o hy hx)
    split at hc
    · rename_i hg
      obtain ⟨G', k1, k2⟩ := g3.dropTake j (P.cellsOf T)
      have hl : ((vs.drop j).take (P.cellsOf T)).length = P.cellsOf T := by simp; omega
      have hvs : ∀ k v, ((vs.drop j).take (P.cellsOf T))[k]? = some v → World.at w b (p + i * c.1 + (j + k)) = some v := by
        intro k v hk
        have hk' : k < P.cellsOf T := by have := (List.getElem?_eq_some_iff.1 hk).1; omega
        rw [List.getElem?_take_of_lt hk', List.getElem?_drop] at hk
        exact q6 _ _ hk
      refine gives_pure hc.2 (run_load ho hx (run_loadVar_agg hu hg hl fun k v hk => ?_)) (.agg (viewTs_rel h hb q2 q5 _ _ j G' (k1.trans hG) k2 (by simp; omega) hvs hc.1))
      have := hvs k v hk
      rwa [← Nat.add_assoc] at this
    · rename_i hg
      obtain ⟨h1', t, hj, hw, hk⟩ := hc
      have hjl : j < vs.length := by omega
      have hrd := g3.get j vs[j] t (List.getElem?_eq_getElem hjl) hj
      have hvj := q6 j _ (List.getElem?_eq_getElem hjl)
      have := viewTs_rel h hb q2 q5 [t] [vs[j]] j G hG (.cons (Sub.refl _) (Sub.none _) (Apart.none_r _) hrd .nil) (by simp; omega) (fun k v hk => by
        cases k with
        | zero => simp at hk; subst hk; exact hvj
        | succ k => simp at hk) (by simp [viewTs, owningL, hw])
      simp only [viewTs] at this
      cases this with | cons _ _ _ h4 _ =>
      exact gives_pure hk (run_load ho hx (run_loadVar_one hu (by simpa using hg) hvj)) (h4.free hw _)
  · rename_i e row j hs
    rw [hs] at hv
    cases hv with | pv h1 h2 =>
    obtain ⟨he, hlen, hc⟩ := hc
    obtain ⟨b, p, vs, hx, q1, q2, q3⟩ := h2 he
    have hl0 := q2.length
    split at hc
    · rename_i hg
      obtain ⟨G', k1, k2⟩ := q2.dropTake j (P.cellsOf T)
      have hl : ((vs.drop j).take (P.cellsOf T)).length = P.cellsOf T := by simp; omega
      refine gives_pure hc.2 (run_load ho hx (run_loadVar_agg hu hg hl fun k v hk => ?_)) (.agg (mkTrs_rel he _ _ (k2.mono k1) hc.1))
      have hk' : k < P.cellsOf T := by have := (List.getElem?_eq_some_iff.1 hk).1; omega
      rw [List.getElem?_take_of_lt hk', List.getElem?_drop] at hk
      have := (q1 _ _ hk).1
      rwa [Nat.add_assoc]
    · rename_i hg
      obtain ⟨h1', t, hj, hw, hk⟩ := hc
      have hjl : j < vs.length := by omega
      have hrd := q2.get j vs[j] t (List.getElem?_eq_getElem hjl) hj
      have := mkTrs_rel (L := L) he [t] [vs[j]] (.cons (Sub.refl _) (Sub.none _) (Apart.none_r _) hrd .nil) (by simp [owningL, hw])
      simp only [List.map_cons, List.map_nil] at this
      cases this with | cons _ _ _ h4 _ =>
      exact gives_pure hk (run_load ho hx (run_loadVar_one hu (by simpa using hg) (q1 j _ (List.getElem?_eq_getElem hjl)).1)) (h4.free hw _)
  · exact hc.elim

end
end Go.Mv
