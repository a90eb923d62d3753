/-
  A part of a theory of trees by which the functions of the program are walked: it proves no statement of the seat by itself; no conditions.
-/
import Derived.Test.YtdkjhbbddlognaaMvLend
namespace Go.Mv
set_option linter.unusedVariables false
set_option linter.unusedSimpArgs false

mutual
/-- nothing in the tree is borrowed -/
def noBor : Tr → Prop
  | .sl own _ rows => (own = true ∨ rows = []) ∧ noBorLL rows
  | .fn _ cs => noBorL cs
  | .agg cs => noBorL cs
  | _ => True
def noBorL : List Tr → Prop
  | [] => True
  | t :: ts => noBor t ∧ noBorL ts
def noBorLL : List (List Tr) → Prop
  | [] => True
  | r :: rs => noBorL r ∧ noBorLL rs
end

theorem noBorL_app {ts us : List Tr} : noBorL (ts ++ us) ↔ noBorL ts ∧ noBorL us := by
  induction ts with
  | nil => simp [noBorL]
  | cons t ts ih => simp [noBorL, ih, and_assoc]
theorem noBorLL_flat {rows : List (List Tr)} : noBorLL rows ↔ noBorL rows.flatten := by
  induction rows with
  | nil => simp [noBorL, noBorLL]
  | cons r rows ih => simp [noBorLL, noBorL_app, ih]

mutual
theorem Rd.unbor {w : World} {ok ok2 : Cells} : ∀ {v t F}, Rd w ok v t F → noBor t → Rd w ok2 v t F
  | _, _, _, .sc h, _ => .sc h
  | _, _, _, .dead, _ => .dead
  | _, _, _, .inil, _ => .inil
  | _, _, _, .iface, _ => .iface
  | _, _, _, .fn h, hn => .fn (RdL.unbor h (by simpa [noBor] using hn))
  | _, _, _, .agg h, hn => .agg (RdL.unbor h (by simpa [noBor] using hn))
  | _, _, _, .nil, _ => .nil
  | _, _, _, .own0, _ => .own0
  | _, _, _, .bor0, _ => .bor0
  | _, _, _, .own h1 h2 h3 h4 h5 h6 h7 h8 h9, hn => .own h1 h2 h3 h4 h5 h6 h7 h8 (RdL.unbor h9 (by simp only [noBor] at hn; exact noBorLL_flat.1 hn.2))
  | _, _, _, .bor h1 h2 h3 h4 h5 h6, hn => by
    simp [noBor] at hn
    obtain ⟨rfl, _⟩ := hn
    simp at h1; subst h1
    exact .bor0
theorem RdL.unbor {w : World} {ok ok2 : Cells} : ∀ {vs ts F}, RdL w ok vs ts F → noBorL ts → RdL w ok2 vs ts F
  | _, _, _, .nil, _ => .nil
  | _, _, _, .cons h1 h2 h3 h4 h5, hn => by
    simp only [noBorL] at hn
    exact .cons h1 h2 h3 (Rd.unbor h4 hn.1) (RdL.unbor h5 hn.2)
end

/-- a pointer to n cells that are ours for the while -/
def PtrR (w : World) (ok : Cells) (v : Value) (n : Nat) (ts : List Tr) (F : Cells) : Prop :=
  ∃ b o vs G, v = .pointer (some ⟨b, o, none⟩) ∧ vs.length = n ∧ (∀ i u, vs[i]? = some u → World.at w b (o + i) = some u ∧ World.fz w b (o + i) = false ∧ F b (o + i)) ∧
    Sub G F ∧ Apart (seg b o n) G ∧ RdL w ok vs ts G

inductive ArgR (w : World) (ok : Cells) : Mode → Value → Tr → Cells → Prop
  | b {v t F} : Rd w ok v t Cells.none → ArgR w ok .b v t F
  | c {v t F} : Rd w ok v t F → ArgR w ok .c v t F
  | r {v t F} : Rd w ok v t F → ArgR w ok .r v t F
  | p {n v ts F} : PtrR w ok v n ts F → ArgR w ok (.p n) v (.agg ts) F

inductive ArgsR (w : World) (ok : Cells) : List Mode → List Value → List Tr → Cells → Prop
  | nil {F} : ArgsR w ok [] [] [] F
  | cons {m ms v vs t ts F F1 F2} : Sub F1 F → Sub F2 F → Apart F1 F2 → ArgR w ok m v t F1 → ArgsR w ok ms vs ts F2 → ArgsR w ok (m :: ms) (v :: vs) (t :: ts) F

inductive OutsR (w : World) (ok : Cells) : List Mode → List Value → List Tr → Cells → Prop
  | nil {F} : OutsR w ok [] [] [] F
  | b {ms v vs ts F} : OutsR w ok ms vs ts F → OutsR w ok (.b :: ms) (v :: vs) ts F
  | c {ms v vs ts F} : OutsR w ok ms vs ts F → OutsR w ok (.c :: ms) (v :: vs) ts F
  | r {ms v vs t ts F F1 F2} : Sub F1 F → Sub F2 F → Apart F1 F2 → Rd w ok v t F1 → OutsR w ok ms vs ts F2 → OutsR w ok (.r :: ms) (v :: vs) (t :: ts) F
  | p {n ms v vs us ts F F1 F2} : Sub F1 F → Sub F2 F → Apart F1 F2 → PtrR w ok v n us F1 → OutsR w ok ms vs ts F2 → OutsR w ok (.p n :: ms) (v :: vs) (.agg us :: ts) F

/-- the value of a call, and what it reads as -/
def RetR (w : World) (ok : Cells) (v : Value) (res : List Tr) (F : Cells) : Prop :=
  match res with
  | [t] => Rd w ok v t F
  | ts => ∃ vs : List Value, v = .tuple vs.toArray ∧ RdL w ok vs ts F

structure Post (w : World) (ok FA : Cells) (ms : List Mode) (vals : List Value) (res outs : List Tr) (w' : World) (v : Value) : Prop where
  keeps : Keeps FA w w'
  rest : ∃ ok' G1 G2, (∀ b o, ok' b o → (ok b o ∨ FA b o ∨ w.heap.size ≤ b) ∧ b < w'.heap.size) ∧ (∀ b o, Or G1 G2 b o → (FA b o ∨ w.heap.size ≤ b) ∧ b < w'.heap.size) ∧
    Apart G1 G2 ∧ Apart ok' G1 ∧ Apart ok' G2 ∧ RetR w' ok' v res G1 ∧ OutsR w' ok' ms vals outs G2

/-- what is known of a function: called with what reads as 'us' it returns, and what it gives reads as 'sem' tells -/
def Contract (P : Program) (f : FuncId) (F : FnS) : Prop :=
  ∀ us res outs, F.sem us = some (res, outs) → ∀ (w : World) (ok FA : Cells) (vals : List Value), ArgsR w ok F.modes vals us FA →
    (∀ b o, ok b o → b < w.heap.size) → (∀ b o, FA b o → b < w.heap.size) → Apart ok FA →
    Calls P f vals.toArray w (fun e w' => ∃ v, e = .returned v ∧ Post w ok FA F.modes vals res outs w' v)

def Clean (F : FnS) : Prop := ∀ us res outs, F.sem us = some (res, outs) → noBorL res ∧ noBorL outs
structure Good (P : Program) (Γ : Env) : Prop where
  con : ∀ f F, Γ f = some F → Contract P f F
  clean : ∀ f F, Γ f = some F → F.clean = true → Clean F
  body : ∀ f F, Γ f = some F → ∃ fn, P.funcs[f]? = some fn ∧ (fn.name == "runtime.NumGoroutine") = false ∧ fn.body.isNone = false

section
variable {w0 : World} {FA ok0 : Cells} {E : Ent} {N : Nat} {σ : St} {a : Act} {w : World} {L : Lay}
variable {B : Bool} {P : Program} {Q : Exit → Act → World → Prop} {Kr : Act → World → Prop} {o : Oper} {Γ : Env}

theorem ofTr_rel {v : Value} {t : Tr} {F : Cells} (h : Rd w L.ok v t F) : SRel σ w L (ofTr t) v F := by
  cases t with
  | agg ts =>
    have : ∃ vs : List Value, v = .agg vs.toArray ∧ RdL w L.ok vs ts F := by cases h with | agg h => exact ⟨_, rfl, h⟩
    obtain ⟨vs, rfl, hr⟩ := this
    refine .agg ?_
    clear h
    induction ts generalizing vs F with
    | nil => cases hr; exact .nil
    | cons t ts ih => cases hr with | cons h1 h2 h3 h4 h5 => exact .cons h1 h2 h3 (.tr h4) (ih _ h5)
  | _ => exact .tr h

theorem ofTrs_rel : ∀ {ts : List Tr} {vs : List Value} {F : Cells}, RdL w L.ok vs ts F → SRelL σ w L (ts.map ofTr) vs F
  | [], vs, F, h => by cases h; exact .nil
  | t :: ts, vs, F, h => by cases h with | cons h1 h2 h3 h4 h5 => exact .cons h1 h2 h3 (ofTr_rel h4) (ofTrs_rel h5)

theorem resSV_rel {v : Value} {res : List Tr} {F : Cells} (h : RetR w L.ok v res F) : SRel σ w L (resSV res) v F := by
  match res, h with
  | [], h => obtain ⟨vs, rfl, hr⟩ := h; exact .tup (ofTrs_rel hr)
  | [t], h => exact ofTr_rel h
  | t :: u :: ts, h => obtain ⟨vs, rfl, hr⟩ := h; exact .tup (ofTrs_rel hr)

theorem args_lent {okc : Cells} : ∀ {ms : List Mode} {vs : List Value} {ts : List Tr} {F : Cells}, ms.all (· = .b) = true → ms.length = vs.length → RdL w okc vs ts Cells.none → ArgsR w okc ms vs ts F
  | [], [], ts, F, _, _, h => by cases h; exact .nil
  | [], v :: vs, ts, F, _, hl, h => by simp at hl
  | m :: ms, [], ts, F, _, hl, h => by simp at hl
  | m :: ms, v :: vs, ts, F, hm, hl, h => by
    cases h with
    | cons h1 h2 h3 h4 h5 =>
      simp only [List.all_cons, Bool.and_eq_true, decide_eq_true_eq] at hm
      obtain ⟨rfl, hm⟩ := hm
      exact .cons (F1 := Cells.none) (F2 := Cells.none) (Sub.none _) (Sub.none _) (Apart.none_l _) (.b (h4.mono h1)) (args_lent hm (by simpa using hl) (h5.mono h2))

theorem outs_lent {okc : Cells} : ∀ {ms : List Mode} {vs : List Value} {ts : List Tr} {F : Cells}, ms.all (· = .b) = true → OutsR w okc ms vs ts F → ts = []
  | [], _, _, _, _, h => by cases h; rfl
  | m :: ms, _, _, _, hm, h => by
    simp only [List.all_cons, Bool.and_eq_true, decide_eq_true_eq] at hm
    obtain ⟨rfl, hm⟩ := hm
    cases h with | b h => exact outs_lent hm h

theorem RetR.unbor {ok ok2 : Cells} {v res F} (h : RetR w ok v res F) (hn : noBorL res) : RetR w ok2 v res F := by
  unfold RetR at *
  split at h
  · simp [noBorL] at hn; exact Rd.unbor h hn
  · obtain ⟨vs, rfl, hr⟩ := h; exact ⟨vs, rfl, RdL.unbor hr hn⟩

theorem RetR.okmono {ok ok2 : Cells} {v res F} (h : RetR w ok v res F) (hn : Sub ok ok2) : RetR w ok2 v res F := by
  unfold RetR at *
  split at h
  · exact Rd.okmono hn h
  · obtain ⟨vs, rfl, hr⟩ := h; exact ⟨vs, rfl, RdL.okmono hn hr⟩

theorem all_live (h : Rel w0 FA ok0 E N σ a w L) : ∀ b o, L.all b o → b < w.heap.size := by
  rintro b o (hx | hx | ⟨i, hx⟩)
  · exact (h.liveO b o hx).1
  · exact (h.liveS b o hx).1
  · exact (h.live i.ix b o hx).1

/-- a call that is lent all its arguments -/
theorem lent_call (h : Rel w0 FA ok0 E N σ a w L) {f : FuncId} {F : FnS} (hcon : Contract P f F) (hcl : F.clean = true → Clean F) {vals : List Value} {us res : List Tr} {lent : Bool}
    (hm : F.modes.all (· = .b) = true) (hl : F.modes.length = vals.length) (hr : RdL w (if lent then L.all else L.ok) vals us Cells.none) (hc : F.clean = true ∨ lent = false) (hs : F.sem us = some (res, [])) :
    Calls P f vals.toArray w (fun e w' => ∃ v F okN, e = .returned v ∧ Res σ w L (resSV res) v w' F okN) := by
  have hlive : ∀ b o, (if lent then L.all else L.ok) b o → b < w.heap.size := by
    intro b o hx
    cases lent with
    | true => exact all_live h b o hx
    | false => exact (h.liveO b o hx).1
  refine (hcon us res [] hs w (if lent then L.all else L.ok) Cells.none vals (args_lent hm hl hr) hlive (fun _ _ h => h.elim) (Apart.none_r _)).mono ?_
  rintro e w' ⟨v, rfl, hk, ok', G1, G2, q1, q2, q3, q4, q5, q6, q7⟩
  have hext : ∀ b, b < w.heap.size → w'.heap[b]? = w.heap[b]? := by
    intro b hb
    rcases hk.2.1 b hb with e | ⟨cs, cs', t, f, a1, a2, a3, a4⟩
    · exact e
    · have : cs' = cs := by
        apply Array.ext_getElem?
        intro i
        exact a4 i (fun h => h.elim)
      rw [a1, a2, this]
  have hnew : ∀ b o, G1 b o → w.heap.size ≤ b ∧ b < w'.heap.size := fun b o hx => by
    have := q2 b o (.inl hx)
    exact ⟨this.1.resolve_left (fun h => h.elim), this.2⟩
  cases hlent : lent with
  | false =>
    rw [hlent] at q1
    refine ⟨v, G1, fun b o => ok' b o ∧ w.heap.size ≤ b, rfl, hk.1, hext, hk.2.2, hnew, fun b o hx => ⟨hx.2, (q1 b o hx.1).2⟩, fun b o hx hy => q4 b o hx.1 hy, resSV_rel (L := { L with ok := _ }) (q6.okmono ?_)⟩
    intro b o hx
    rcases (q1 b o hx).1 with h1 | h1
    · exact .inl (by simpa using h1)
    · exact .inr ⟨hx, h1.resolve_left (fun h => h.elim)⟩
  | true =>
    have hcc := hcl (hc.resolve_right (by simp [hlent]))
    exact ⟨v, G1, Cells.none, rfl, hk.1, hext, hk.2.2, hnew, fun _ _ h => h.elim, Apart.none_l _, resSV_rel (L := { L with ok := _ }) (q6.unbor (hcc us res [] hs).1)⟩


theorem run_enter {f : FuncId} {fn : Func} {args : Array Value} (h1 : P.funcs[f]? = some fn) (h2 : (fn.name == "runtime.NumGoroutine") = false) (h3 : fn.body.isNone = false) :
    (callFunc f args).run P w = .ok (.enter f args) w := by
  have h2' : ¬ fn.name = "runtime.NumGoroutine" := by simpa using h2
  have h3' : ¬ fn.body = none := by intro e; simp [e] at h3
  simp [callFunc, h1, h2', h3']

theorem run_call_f {f : FuncId} {fn : Func} {args : Array Operand} {ts : Array TypeId} (ho : o.op = .call { callee := .value (.func f), args := args, argTypes := ts })
    (h1 : P.funcs[f]? = some fn) (h2 : (fn.name == "runtime.NumGoroutine") = false) (h3 : fn.body.isNone = false) :
    (execOp a.eval o).run P w = .ok (.enter f (args.toList.map a.eval).toArray) w := by
  have e : Array.map a.eval args = (List.map a.eval args.toList).toArray := by apply Array.ext'; simp
  have hf : a.eval (.func f) = .func (.func f) #[] #[] := rfl
  simp [execOp, ho, resolve, Deferred.ofValue, hf, invoke, run_enter h1 h2 h3, e]

theorem run_call_t {t : Nat} {f : FuncId} {fn : Func} {args : Array Operand} {ts : Array TypeId} {caps : List Value} (ho : o.op = .call { callee := .value (.tmp t), args := args, argTypes := ts })
    (hv : a.eval (.tmp t) = .func (.func f) #[] caps.toArray)
    (h1 : P.funcs[f]? = some fn) (h2 : (fn.name == "runtime.NumGoroutine") = false) (h3 : fn.body.isNone = false) :
    (execOp a.eval o).run P w = .ok (.enter f (args.toList.map a.eval ++ caps).toArray) w := by
  have e : Array.map a.eval args = (List.map a.eval args.toList).toArray := by apply Array.ext'; simp
  simp [execOp, ho, resolve, hv, Deferred.ofValue, invoke, run_enter h1 h2 h3, e]

theorem wp_enter {f : FuncId} {vals : List Value} (hr : (execOp a.eval o).run P w = .ok (.enter f vals.toArray) w)
    (h : Calls P f vals.toArray w (fun e w' => ∃ v, e = .returned v ∧ Kr (a.put o.dst v) w')) : o.wp P a w Kr Q := by
  simp only [Oper.wp, hr, Oper.upon]
  refine h.mono ?_
  rintro e w' ⟨v, rfl, hk⟩
  exact hk

theorem argVals (args : Array Operand) (ts : Array TypeId) :
    ((List.range args.size).map fun i => σ.val P (ts.getD i 0) (args.getD i (.tmp 0))) = (args.toList.zipIdx.map fun p => (p.1, ts.getD p.2 0)).map fun p => σ.val P p.2 p.1 := by
  apply List.ext_getElem?
  intro i
  by_cases hi : i < args.size
  · simp [hi, Array.getD_eq_getD_getElem?]
  · simp [hi, Nat.not_lt.1 hi]

theorem argEvals (args : Array Operand) (ts : Array TypeId) : ((args.toList.zipIdx.map fun p => (p.1, ts.getD p.2 0)).map fun p => a.eval p.1) = args.toList.map a.eval := by
  apply List.ext_getElem?
  intro i
  by_cases hi : i < args.size
  · simp [hi]
  · simp [hi, Nat.not_lt.1 hi]

/-- the arguments of a call, lent -/
theorem lendArgs (h : Rel w0 FA ok0 E N σ a w L) {args : Array Operand} {ts : Array TypeId} {us : List Tr} {b : Bool}
    (hl : σ.lendL ((List.range args.size).map fun i => σ.val P (ts.getD i 0) (args.getD i (.tmp 0))) = some (us, b)) : RdL w (if b then L.all else L.ok) (args.toList.map a.eval) us Cells.none := by
  rw [argVals] at hl
  have := lendA_rel h hl
  rwa [argEvals] at this

theorem calm_call (h : Rel w0 FA ok0 E N σ a w L) (hg : Good P Γ) {c : Call} {T0 : TypeId} {K : SV → Prop} (ho : o.op = .call c) (hc : wcalm P Γ B (.call c) T0 σ K)
    (hk : ∀ s v w' F okN, K s → Res σ w L s v w' F okN → Kr (a.put o.dst v) w') : o.wp P a w Kr Q := by
  obtain ⟨callee, args, ts⟩ := c
  have gives : Gives P σ a w L o K → o.wp P a w Kr Q := by
    rintro ⟨s, v, w', F, okN, h1, h2, h3⟩
    exact wp_value h2 (hk s v w' F okN h1 h3)
  cases callee with
  | value x =>
    cases x with
    | func f =>
      simp only [wcalm] at hc
      split at hc
      · rename_i F hF
        obtain ⟨hm, hlen, hc⟩ := hc
        split at hc
        · rename_i us lent hl
          obtain ⟨hcl, res, hs, hK⟩ := hc
          obtain ⟨fn, b1, b2, b3⟩ := hg.body f F hF
          refine wp_enter (run_call_f ho b1 b2 b3) ((lent_call h (hg.con f F hF) (hg.clean f F hF) hm (by simpa using hlen) (lendArgs h hl) hcl hs).mono ?_)
          rintro e w' ⟨v, G, okN, rfl, hr⟩
          exact ⟨v, rfl, hk _ v w' G okN hK hr⟩
        · exact hc.elim
      · exact hc.elim
    | tmp t =>
      simp only [wcalm] at hc
      split at hc
      · rename_i f caps hs
        split at hc
        · rename_i F hF
          obtain ⟨hm, hlen, hc⟩ := hc
          split at hc
          · rename_i us lent hl
            obtain ⟨hcl, res, hs', hK⟩ := hc
            obtain ⟨fn, b1, b2, b3⟩ := hg.body f F hF
            have hv := h.slots t
            rw [hs] at hv
            have hf : ∃ vs : List Value, a.eval (.tmp t) = .func (.func f) #[] vs.toArray ∧ RdL w L.ok vs caps Cells.none := by
              cases hv with | tr hd => exact hd.fn_inv
            obtain ⟨vs, hv', hcaps⟩ := hf
            have hargs := lendArgs h hl
            have hle2 := hcaps.length
            have hall : RdL w (if lent then L.all else L.ok) (args.toList.map a.eval ++ vs) (us ++ caps) Cells.none :=
              RdL.join (Sub.none _) (Sub.none _) (Apart.none_l _) hargs (hcaps.okmono (by cases lent <;> simp <;> first | exact Sub.refl _ | exact Lay.ok_all L))
            refine wp_enter (run_call_t ho hv' b1 b2 b3) ((lent_call h (hg.con f F hF) (hg.clean f F hF) hm (by simp; omega) hall hcl hs').mono ?_)
            rintro e w' ⟨v, G, okN, rfl, hr⟩
            exact ⟨v, rfl, hk _ v w' G okN hK hr⟩
          · exact hc.elim
        · exact hc.elim
      · exact hc.elim
    | _ => simp [wcalm] at hc
  | builtin b =>
    cases b with
    | len => exact gives (calm_len (Γ := Γ) h ho hc)
    | min => exact gives (calm_min (Γ := Γ) h ho hc)
    | max => exact gives (calm_max (Γ := Γ) h ho hc)
    | _ => simp [wcalm] at hc
  | invoke r m => simp [wcalm] at hc


/-- EVERY CALM OPERATION: what the evaluator tells of it is so -/
theorem calm_wp (h : Rel w0 FA ok0 E N σ a w L) (hf : Full σ L) (hg : Good P Γ) {K : SV → Prop} (hc : wcalm P Γ B o.op o.type σ K)
    (hk : ∀ s v w' F okN, K s → Res σ w L s v w' F okN → Kr (a.put o.dst v) w') : o.wp P a w Kr Q := by
  have gives : Gives P σ a w L o K → o.wp P a w Kr Q := by
    rintro ⟨s, v, w', F, okN, h1, h2, h3⟩
    exact wp_value h2 (hk s v w' F okN h1 h3)
  generalize ho : o.op = op at hc
  generalize hT : o.type = T0 at hc
  cases op with
  | move x => exact gives (calm_move (Γ := Γ) h ho hc)
  | pick c x y => exact gives (calm_pick (Γ := Γ) h ho hc)
  | nilCheck x => exact gives (calm_nilCheck (Γ := Γ) h ho hc)
  | load T x => exact gives (calm_load (Γ := Γ) h hf ho hc)
  | makeSlice T l c => exact gives (calm_makeSlice (Γ := Γ) h ho hc)
  | indexAddr T x i => exact gives (calm_indexAddr (Γ := Γ) h ho hc)
  | index T x i => exact gives (calm_index (Γ := Γ) h ho hc)
  | fieldAddr T x f => exact gives (calm_fieldAddr (Γ := Γ) h ho hc)
  | field T x f => exact gives (calm_field (Γ := Γ) h ho hc)
  | slice T x lo hi mx => exact gives (calm_slice (Γ := Γ) h ho hc)
  | binOp op T x y T2 => exact gives (calm_binOp (Γ := Γ) h ho hc)
  | unOp op T x => exact gives (calm_unOp (Γ := Γ) h ho hc)
  | convert s d x => exact gives (calm_convert (Γ := Γ) h ho hc)
  | makeFunc fn f c => exact gives (calm_makeFunc (Γ := Γ) h ho hc)
  | call c => exact calm_call h hg ho hc hk
  | _ => simp [wcalm] at hc

end
end Go.Mv
