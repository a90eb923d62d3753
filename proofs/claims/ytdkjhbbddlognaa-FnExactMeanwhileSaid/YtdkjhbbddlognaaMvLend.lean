/-
  A part of a theory of trees by which the functions of the program are walked: it proves no statement of the seat by itself; no conditions.
-/
import Derived.Test.YtdkjhbbddlognaaMvCalm4
namespace Go.Mv
set_option linter.unusedVariables false
set_option linter.unusedSimpArgs false
section
variable {w0 : World} {FA ok0 : Cells} {E : Ent} {N : Nat} {σ : St} {a : Act} {w : World} {L : Lay}
variable {B : Bool} {P : Program} {Q : Exit → Act → World → Prop} {Kr : Act → World → Prop} {o : Oper}

/-- all that may be lent: not the cells of boxes -/
def Lay.all (L : Lay) : Cells := fun b o => L.ok b o ∨ L.sn b o ∨ ∃ r : Root, L.at r.ix b o
theorem Lay.ok_all (L : Lay) : Sub L.ok L.all := fun _ _ h => .inl h
theorem Lay.sn_all (L : Lay) : Sub L.sn L.all := fun _ _ h => .inr (.inl h)
theorem Lay.at_all (L : Lay) (r : Root) : Sub (L.at r.ix) L.all := fun _ _ h => .inr (.inr ⟨r, h⟩)

theorem rowsOf_map {f : List Tr → List Tr} (rows : List (List Tr)) (off len : Nat) : (rowsOf rows off len).map f = rowsOf (rows.map f) off len := by
  simp [rowsOf, List.map_take, List.map_drop]

theorem rowsOf_len {rows : List (List Tr)} {off len : Nat} (h : off + len ≤ rows.length) : (rowsOf rows off len).length = len := by
  simp [rowsOf]; omega

theorem subIs_lent {okk : Cells} {vr v : Value} {sz : Nat} {rows : List (List Tr)} {F R off len} (hd : Rd w okk vr (.sl false sz rows) F) (hR : rowIs vr R) (hsz : R.sz = sz) (hn : R.n = rows.length)
    (hs : subIs v R off len) : Rd w okk v (.sl false sz (rowsOf rows off len)) Cells.none := by
  obtain ⟨ad, cap, rfl, h1, h2, h3, _⟩ := hs
  by_cases hl : len = 0
  · subst hl; simp only [rowsOf, List.take_zero]; exact .bor0
  · rcases h3 with rfl | ⟨b, p, hb, rfl, hc⟩
    · omega
    · rcases hR with ⟨b', p', hb', hle, rfl⟩ | ⟨hb', _⟩
      · rw [hb] at hb'; simp at hb'; obtain ⟨rfl, rfl⟩ := hb'
        have := lent_part hd rfl (l := off) (n := len) (by omega) (off + cap) (by omega) hc
        rw [if_neg (by omega), Option.map_some, addr_add] at this
        rw [show off + cap - off = cap by omega] at this
        rw [hsz]; exact this
      · rw [hb] at hb'; cases hb'

theorem subIs_own {okk : Cells} {vr v : Value} {sz : Nat} {rows : List (List Tr)} {F R off len} (hd : Rd w okk vr (.sl true sz rows) F) (hR : rowIs vr R) (hsz : R.sz = sz) (hn : R.n = rows.length)
    (hs : subIs v R off len) : Rd w okk v (.sl true sz (rowsOf rows off len)) F := by
  obtain ⟨ad, cap, rfl, h1, h2, h3, _⟩ := hs
  rcases h3 with rfl | ⟨b, p, hb, rfl, hc⟩
  · have : len = 0 := by omega
    subst this; simp only [rowsOf, List.take_zero]
    cases ad with
    | none => exact .nil
    | some q => exact .own0
  · rcases hR with ⟨b', p', hb', hle, rfl⟩ | ⟨hb', _⟩
    · rw [hb] at hb'; simp at hb'; obtain ⟨rfl, rfl⟩ := hb'
      rcases hd.own_inv with ⟨rfl, a2, ev⟩ | ⟨b2, p2, len2, cap2, vs, G, ev, q1, q2, q3, q4, q5, q6, q7, q8, q9⟩
      · simp only [Value.slice.injEq] at ev
        have hl0 : len = 0 := by simp at hn; omega
        have hc0 : cap = 0 := by omega
        subst hl0; subst hc0
        simp only [rowsOf, List.take_zero]
        exact .own0
      · simp only [Value.slice.injEq, Option.some.injEq, Addr.mk.injEq, and_true] at ev
        obtain ⟨⟨rfl, rfl⟩, rfl, rfl⟩ := ev
        obtain ⟨G', g1, g2⟩ := RdL.rows q9 q3 off len (by omega)
        have hle2 : off * sz + len * sz ≤ vs.length := by rw [q4, ← Nat.add_mul]; exact Nat.mul_le_mul_right _ (by omega)
        have hcs : off * sz + cap * sz ≤ R.cap * sz := by rw [← Nat.add_mul]; exact Nat.mul_le_mul_right _ hc
        rw [hsz]
        refine .own (vs := (vs.drop (off * sz)).take (len * sz)) (G := G') (rowsOf_len (by omega)) ⟨h1, by omega⟩ (fun r hr => q3 r (List.mem_of_mem_drop (List.mem_of_mem_take hr))) (by simp; omega) ?_ ?_ (g1.trans q7) ?_ g2
        · intro k u hu
          have hk : k < len * sz := by have := (List.getElem?_eq_some_iff.1 hu).1; simp at this; omega
          rw [List.getElem?_take_of_lt hk, List.getElem?_drop] at hu
          have := q5 _ _ hu
          rwa [← Nat.add_assoc] at this
        · intro k hk
          have := q6 (off * sz + k) (by omega)
          rwa [← Nat.add_assoc] at this
        · rintro x y ⟨rfl, hy1, hy2⟩ hG
          exact q8 _ _ ⟨rfl, by omega, by omega⟩ (g1 _ _ hG)
    · rw [hb] at hb'; cases hb'

mutual
/-- what is lent reads as it is told -/
theorem lend_rel (h : Rel w0 FA ok0 E N σ a w L) : ∀ {s : SV} {t : Tr} {x : Bool} {v : Value} {F : Cells}, σ.lend s = some (t, x) → SRel σ w L s v F → Sub F L.all → Rd w (if x then L.all else L.ok) v t Cells.none
  | .tr none t0, t, x, v, F, hl, hs, hF => by
    simp only [St.lend, Option.some.injEq, Prod.mk.injEq] at hl
    obtain ⟨rfl, rfl⟩ := hl
    cases hs with | tr hd =>
    cases ho : ownsT t0 with
    | true => exact (hd.lend).okmono (Sub.or (Lay.ok_all L) hF)
    | false => exact ((Rd.free hd ho : Rd w L.ok v t0 Cells.none).lend).okmono (Sub.or (Sub.refl _) (Sub.none _))
  | .tr (some e) t0, t, x, v, F, hl, hs, hF => by
    simp only [St.lend] at hl
    split at hl
    · rename_i he
      simp only [Option.some.injEq, Prod.mk.injEq] at hl
      obtain ⟨rfl, rfl⟩ := hl
      cases hs with | trE q1 q2 =>
      exact ((q2 he).lend).okmono (Sub.or (Sub.or (Lay.ok_all L) (Lay.sn_all L)) (Sub.none _))
    · cases hl
  | .nst r n i j e t0, t, x, v, F, hl, hs, hF => by
    simp only [St.lend] at hl
    split at hl
    · rename_i he
      simp only [Option.some.injEq, Prod.mk.injEq] at hl
      obtain ⟨rfl, rfl⟩ := hl
      cases hs with | nst q1 q2 q3 q4 =>
      exact ((q2 he).lend).okmono (Sub.or (Sub.or (Lay.ok_all L) (Lay.sn_all L)) (Sub.none _))
    · cases hl
  | .ref r n off len, t, x, v, F, hl, hs, hF => by
    simp only [St.lend] at hl
    split at hl
    · rename_i hn
      cases hc : σ.content r with
      | none => simp [hc] at hl
      | some c =>
        simp only [hc, Option.map_some, Option.some.injEq, Prod.mk.injEq] at hl
        obtain ⟨rfl, rfl⟩ := hl
        cases hs with | ref q1 q2 =>
        obtain ⟨vr, _, hR, e1, e2, hd⟩ := h.root_rd (r := r) (sz := c.1) (rows := c.2) (by rw [hc])
        have hd' := hd.lend
        rw [bor_sl] at hd'
        rw [rowsOf_map]
        exact (subIs_lent hd' hR e1 (by simpa using e2) (q2 hn)).okmono (Sub.or (Lay.ok_all L) (Lay.at_all L _))
    · cases hl
  | .agg cs, t, x, v, F, hl, hs, hF => by
    simp only [St.lend] at hl
    cases hc : σ.lendL cs with
    | none => simp [hc] at hl
    | some p =>
      obtain ⟨ts, y⟩ := p
      simp only [hc, Option.map_some, Option.some.injEq, Prod.mk.injEq] at hl
      obtain ⟨rfl, rfl⟩ := hl
      obtain ⟨vs, rfl, hr⟩ := srel_agg hs
      exact .agg (lendL_rel h hc hr hF)
  | .pc .., t, x, v, F, hl, hs, hF => by simp [St.lend] at hl
  | .pr .., t, x, v, F, hl, hs, hF => by simp [St.lend] at hl
  | .pv .., t, x, v, F, hl, hs, hF => by simp [St.lend] at hl
  | .tup .., t, x, v, F, hl, hs, hF => by simp [St.lend] at hl
  | .dead, t, x, v, F, hl, hs, hF => by simp [St.lend] at hl
theorem lendL_rel (h : Rel w0 FA ok0 E N σ a w L) : ∀ {ss : List SV} {ts : List Tr} {x : Bool} {vs : List Value} {F : Cells}, σ.lendL ss = some (ts, x) → SRelL σ w L ss vs F → Sub F L.all → RdL w (if x then L.all else L.ok) vs ts Cells.none
  | [], ts, x, vs, F, hl, hs, hF => by
    simp only [St.lendL, Option.some.injEq, Prod.mk.injEq] at hl
    obtain ⟨rfl, rfl⟩ := hl
    cases hs; exact .nil
  | s :: ss, ts, x, vs, F, hl, hs, hF => by
    simp only [St.lendL] at hl
    split at hl
    · rename_i t x1 us y1 e1 e2
      simp only [Option.some.injEq, Prod.mk.injEq] at hl
      obtain ⟨rfl, rfl⟩ := hl
      cases hs with
      | cons h1 h2 h3 h4 h5 =>
        have r1 := lend_rel h e1 h4 (h1.trans hF)
        have r2 := lendL_rel h e2 h5 (h2.trans hF)
        refine .cons (Sub.none _) (Sub.none _) (Apart.none_l _) (r1.okmono ?_) (r2.okmono ?_)
        · cases x1 <;> cases y1 <;> simp <;> first | exact Sub.refl _ | exact Lay.ok_all L
        · cases x1 <;> cases y1 <;> simp <;> first | exact Sub.refl _ | exact Lay.ok_all L
    · cases hl
end

theorem opF_all (x : Operand) : Sub (opF L x) L.all := by
  cases x with
  | tmp t => exact Lay.at_all L (.slot t)
  | _ => exact Sub.none _

theorem lendV_rel (h : Rel w0 FA ok0 E N σ a w L) {x : Operand} {T : TypeId} {t : Tr} {b : Bool} (hl : σ.lend (σ.val P T x) = some (t, b)) : Rd w (if b then L.all else L.ok) (a.eval x) t Cells.none :=
  lend_rel h hl (h.val P T x) (opF_all x)

/-- arguments that are lent -/
theorem lendA_rel (h : Rel w0 FA ok0 E N σ a w L) : ∀ {xs : List (Operand × TypeId)} {ts : List Tr} {b : Bool}, σ.lendL (xs.map fun p => σ.val P p.2 p.1) = some (ts, b) →
    RdL w (if b then L.all else L.ok) (xs.map fun p => a.eval p.1) ts Cells.none
  | [], ts, b, hl => by
    simp only [List.map_nil, St.lendL, Option.some.injEq, Prod.mk.injEq] at hl
    obtain ⟨rfl, rfl⟩ := hl
    exact .nil
  | p :: xs, ts, b, hl => by
    simp only [List.map_cons, St.lendL] at hl
    split at hl
    · rename_i t x1 us y1 e1 e2
      simp only [Option.some.injEq, Prod.mk.injEq] at hl
      obtain ⟨rfl, rfl⟩ := hl
      have r1 := lendV_rel h e1
      have r2 := lendA_rel h e2
      refine .cons (Sub.none _) (Sub.none _) (Apart.none_l _) (r1.okmono ?_) (r2.okmono ?_)
      · cases x1 <;> cases y1 <;> simp <;> first | exact Sub.refl _ | exact Lay.ok_all L
      · cases x1 <;> cases y1 <;> simp <;> first | exact Sub.refl _ | exact Lay.ok_all L
    · cases hl

theorem calm_makeFunc (h : Rel w0 FA ok0 E N σ a w L) {fn : Fn} {first captured : Array Operand} {T0 : TypeId} {Γ : Env} (ho : o.op = .makeFunc fn first captured) {K : SV → Prop} (hc : wcalm P Γ B (.makeFunc fn first captured) T0 σ K) : Gives P σ a w L o K := by
  simp only [wcalm] at hc
  split at hc
  · rename_i f
    obtain ⟨rfl, hc⟩ := hc
    split at hc
    · rename_i ts hl
      have hl' : σ.lendL ((captured.toList.map fun x => (x, 0)).map fun p => σ.val P p.2 p.1) = some (ts, false) := by simpa [List.map_map, Function.comp_def] using hl
      have hr := lendA_rel h hl'
      simp only [Bool.false_eq_true, if_false, List.map_map, Function.comp_def] at hr
      refine gives_pure (v := .func (.func f) #[] (captured.toList.map a.eval).toArray) hc ?_ (.tr (.fn hr))
      have e : Array.map a.eval captured = (List.map a.eval captured.toList).toArray := by apply Array.ext'; simp
      simp [execOp, ho, Instr.makeFunc, e]
    · exact hc.elim
  · exact hc.elim


theorem run_builtin {b : Builtin} {args : Array Operand} {ts : Array TypeId} {v : Value} {w' : World} (ho : o.op = .call { callee := .builtin b, args := args, argTypes := ts })
    (h : ∀ cs, (builtin b ts o.type cs (args.map a.eval)).run P w = .ok (.value v) w') : (execOp a.eval o).run P w = .ok (.value v) w' := by
  simp [execOp, ho, resolve, invoke, h]

theorem run_len_s {T ty e : TypeId} {ad : Option Addr} {n c : Nat} (hu : P.underlying T = some (.slice e)) : (Builtin.len_ #[T] ty #[.slice ad n c]).run P w = .ok (.int .i64 n) w := by
  simp [Builtin.len_, run_underlying hu, goInt]

theorem calm_len (h : Rel w0 FA ok0 E N σ a w L) {args : Array Operand} {ts : Array TypeId} {T0 : TypeId} {Γ : Env} (ho : o.op = .call { callee := .builtin .len, args := args, argTypes := ts }) {K : SV → Prop}
    (hc : wcalm P Γ B (.call { callee := .builtin .len, args := args, argTypes := ts }) T0 σ K) : Gives P σ a w L o K := by
  simp only [wcalm] at hc
  split at hc
  · rename_i x T hx hT
    have hargs : args = #[x] := by cases args; simp_all
    have hts : ts = #[T] := by cases ts; simp_all
    subst hargs; subst hts
    have hv := h.val P T x
    have key : ∀ v, (∀ cs, (builtin .len #[T] o.type cs #[a.eval x]).run P w = .ok (.value v) w) → (execOp a.eval o).run P w = .ok (.value v) w := by
      intro v hr
      exact run_builtin ho (by simpa using hr)
    split at hc
    · rename_i s hs hu
      rw [hs] at hv
      have e := hv.sc
      exact gives_pure (hc fun _ => hv.sc_str) (key _ fun cs => by simp [e, builtin, Builtin.len_, run_underlying hu, goInt]) (.tr (.sc rfl))
    · rename_i r n off len e hs hu
      rw [hs] at hv
      obtain ⟨hn, hcs, hk⟩ := hc
      cases hv with | ref q1 q2 =>
      obtain ⟨ad, cap, ev, _, hle, _⟩ := q2 hn
      obtain ⟨c, hcc⟩ := Option.isSome_iff_exists.1 hcs
      obtain ⟨vr, _, _, _, hnn, hrd⟩ := h.root_rd (sz := c.1) (rows := c.2) hcc
      have hrl := hrd.sl_le
      exact gives_pure (hk fun _ => by omega) (key _ fun cs => by simp [ev, builtin, run_len_s hu]) (.tr (.sc rfl))
    · rename_i e own sz rows e' hs hu
      rw [hs] at hv
      obtain ⟨he, hk⟩ := hc
      have ev : (∃ ad cap, a.eval x = .slice ad rows.length cap) ∧ rows.length ≤ 9223372036854775807 := by
        cases e with
        | none => cases hv with | tr hd => exact ⟨hd.sl_len, hd.sl_le⟩
        | some n => cases hv with | trE q1 q2 => exact ⟨(q2 (by simpa using he)).sl_len, (q2 (by simpa using he)).sl_le⟩
      obtain ⟨⟨ad, cap, ev⟩, hle⟩ := ev
      exact gives_pure (hk fun _ => hle) (key _ fun cs => by simp [ev, builtin, run_len_s hu]) (.tr (.sc rfl))
    · rename_i r n i j e own sz rows e' hs hu
      rw [hs] at hv
      obtain ⟨he, hk⟩ := hc
      cases hv with | nst q1 q2 q3 q4 =>
      obtain ⟨ad, cap, ev⟩ := (q2 he).sl_len
      exact gives_pure (hk fun _ => (q2 he).sl_le) (key _ fun cs => by simp [ev, builtin, run_len_s hu]) (.tr (.sc rfl))
    · exact hc.elim
  · exact hc.elim

theorem args2 {args : Array Operand} {f : Operand → Option (IntKind × Int)} {x y} (h : args.toList.map f = [x, y]) : ∃ p q, args = #[p, q] ∧ f p = x ∧ f q = y := by
  obtain ⟨l⟩ := args
  match l, h with
  | [p, q], h => simp at h; exact ⟨p, q, rfl, h.1, h.2⟩
theorem args3 {args : Array Operand} {f : Operand → Option (IntKind × Int)} {x y z} (h : args.toList.map f = [x, y, z]) : ∃ p q r, args = #[p, q, r] ∧ f p = x ∧ f q = y ∧ f r = z := by
  obtain ⟨l⟩ := args
  match l, h with
  | [p, q, r], h => simp at h; exact ⟨p, q, r, rfl, h.1, h.2.1, h.2.2⟩

theorem calm_min (h : Rel w0 FA ok0 E N σ a w L) {args : Array Operand} {ts : Array TypeId} {T0 : TypeId} {Γ : Env} (ho : o.op = .call { callee := .builtin .min, args := args, argTypes := ts }) {K : SV → Prop}
    (hc : wcalm P Γ B (.call { callee := .builtin .min, args := args, argTypes := ts }) T0 σ K) : Gives P σ a w L o K := by
  simp only [wcalm] at hc
  split at hc
  · rename_i k p k2 q he
    obtain ⟨x, y, rfl, e1, e2⟩ := args2 he
    have r1 := wnum_val h e1
    have r2 := wnum_val h e2
    exact gives_pure hc (run_builtin ho fun cs => by simp [r1, r2, builtin, Builtin.min_, Builtin.min2]) (.tr (.sc rfl))
  · rename_i k p k2 q k3 r he
    obtain ⟨x, y, z, rfl, e1, e2, e3⟩ := args3 he
    have r1 := wnum_val h e1
    have r2 := wnum_val h e2
    have r3 := wnum_val h e3
    exact gives_pure hc (run_builtin ho fun cs => by simp [r1, r2, r3, builtin, Builtin.min_, Builtin.min2]) (.tr (.sc rfl))
  · exact hc.elim

theorem calm_max (h : Rel w0 FA ok0 E N σ a w L) {args : Array Operand} {ts : Array TypeId} {T0 : TypeId} {Γ : Env} (ho : o.op = .call { callee := .builtin .max, args := args, argTypes := ts }) {K : SV → Prop}
    (hc : wcalm P Γ B (.call { callee := .builtin .max, args := args, argTypes := ts }) T0 σ K) : Gives P σ a w L o K := by
  simp only [wcalm] at hc
  split at hc
  · rename_i k p k2 q he
    obtain ⟨x, y, rfl, e1, e2⟩ := args2 he
    have r1 := wnum_val h e1
    have r2 := wnum_val h e2
    exact gives_pure hc (run_builtin ho fun cs => by simp [r1, r2, builtin, Builtin.max_, Builtin.max2]) (.tr (.sc rfl))
  · exact hc.elim

end
end Go.Mv
