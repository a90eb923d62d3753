/-
  A part of a theory of trees by which the functions of the program are walked: it proves no statement of the seat by itself; no conditions.
-/
import Derived.Test.YtdkjhbbddlognaaMvGive2
namespace Go.Mv
set_option linter.unusedVariables false
set_option linter.unusedSimpArgs false

section
variable {w0 : World} {FA ok0 : Cells} {E : Ent} {N : Nat} {σ : St} {a : Act} {w : World} {L : Lay}
variable {P : Program} {Q : Exit → Act → World → Prop} {Kr : Act → World → Prop} {o : Oper} {Γ : Env}

theorem Keeps.at_some {F : Cells} {w w' : World} (h : Keeps F w w') {b o : Nat} {v : Value} (hv : World.at w b o = some v) : ∃ v', World.at w' b o = some v' := by
  have hb : b < w.heap.size := by
    unfold World.at World.cell? at hv
    split at hv
    · rename_i hh; exact (Array.getElem?_eq_some_iff.1 hh).1
    · cases hv
  rcases h.2.1 b hb with e | ⟨cs, cs', t, f, a1, a2, a3, a4⟩
  · exact ⟨v, by simpa [World.at, World.cell?, e] using hv⟩
  · have hv' : cs[o]? = some v := by simpa [World.at, World.cell?, a1] using hv
    have hlt := (List.getElem?_eq_some_iff.1 (show cs.toList[o]? = some v by simpa using hv')).1
    have hlt' : o < cs'.size := by simp at hlt; omega
    exact ⟨cs'[o], by simp [World.at, World.cell?, a2, hlt']⟩

/-- cells of boxes that may change while they are dead -/
def DeadAt (σ : St) (b j : Nat) : Prop := ∀ cs, σ.box b = some cs → ∀ s, cs[j]? = some s → s = .dead

/-- after a call: what was handed on may have changed, memory may have grown; okN: what is lent for good from now on -/
theorem Rel.after (h : Rel w0 FA ok0 E N σ a w L) {w' : World} {FC okN : Cells} (hk : Keeps FC w w') (hFC : ∀ b o, FC b o → b < w.heap.size ∧ (FA b o ∨ w0.heap.size ≤ b))
    (hap : ∀ i, (∀ b j, i = .m b j → ¬ DeadAt σ b j) → Apart FC (L.at i)) (hapO : Apart L.ok FC) (hapS : Apart L.sn FC)
    (hN : ∀ b o, okN b o → b < w'.heap.size ∧ (FA b o ∨ w0.heap.size ≤ b)) (hNat : ∀ i, Apart okN (L.at i)) :
    Rel w0 FA ok0 E N σ a w' { L with ok := Or L.ok okN } ∧ Later σ w L σ w' { L with ok := Or L.ok okN } := by
  have hsame : ∀ F : Cells, (∀ b o, F b o → b < w.heap.size) → Apart F FC → Same w w' F := fun F hF hA b o hx => by
    have := hk.same (hF b o hx) (fun hf => hA b o hx hf)
    exact this
  have hat' : ∀ i, Lay.at { L with ok := Or L.ok okN } i = L.at i := fun i => by cases i <;> rfl
  have hok := hsame L.ok (fun b o hx => (h.liveO b o hx).1) hapO
  have hsn := hsame L.sn (fun b o hx => (h.liveS b o hx).1) hapS
  have hroot : ∀ r : Root, Same w w' (L.at r.ix) := fun r => hsame _ (fun b o hx => (h.live r.ix b o hx).1) (hap r.ix (by intro b j e; cases r <;> simp [Root.ix] at e)).symm
  have hm : ∀ b j cs s, σ.box b = some cs → cs[j]? = some s → s ≠ .dead → Same w w' (L.at (.m b j)) := fun b j cs s hb hj hs =>
    hsame _ (fun x o hx => (h.live (.m b j) x o hx).1) (hap (.m b j) (by intro b' j' e hd; cases e; exact hs (hd cs hb s hj))).symm
  have later : Later σ w L σ w' { L with ok := Or L.ok okN } :=
    { ver := fun _ => Nat.le_refl _, row := fun _ _ => rfl, nver := fun _ => Nat.le_refl _
      nst := fun r _ => ⟨rfl, fun b o hb k hkk => by
        cases hc : σ.content r with
        | none => rw [h.norow r hc] at hb; cases hb
        | some c =>
          obtain ⟨sz, rows⟩ := c
          exact (hroot r b (o + k) (h.seg_sub hc b (o + k) ⟨b, o, hb, rfl, by omega, by omega⟩)).1⟩
      bver := fun _ => Nat.le_refl _, loc := fun _ _ => rfl, ep := Nat.le_refl _, sn := fun _ => ⟨Sub.refl _, hsn⟩
      ok := Sub.or_l _ _, okw := hok }
  refine ⟨?_, later⟩
  exact
  { size := h.size, defers := h.defers
    slots := fun d => SRel.later later (h.slots d) (hroot (.slot d))
    args := fun i j sz rows hi => ⟨(Rd.keep hok (h.args i j sz rows hi).1 (hroot (.arg i j))).okmono (Sub.or_l _ _), (h.args i j sz rows hi).2⟩
    ploc := h.ploc
    boxes := fun b cs hb => ⟨(h.boxes b cs hb).1, fun j s hj => by
      obtain ⟨v, e1, e2, e3, e4⟩ := (h.boxes b cs hb).2 j s hj
      have hlt : (L.loc b).1 < w.heap.size := by
        have hj' : j < L.len b := by have := (List.getElem?_eq_some_iff.1 hj).1; have := (h.boxes b cs hb).1; omega
        exact (h.live (.m b j) _ _ ⟨hj', rfl, rfl⟩).1
      by_cases hs : s = .dead
      · subst hs
        obtain ⟨v', hv'⟩ := hk.at_some e1
        exact ⟨v', hv', by rw [hk.fz hlt]; exact e2, .dead, by simp only [tops]; exact Apart.none_r _⟩
      · have hj' : j < L.len b := by have := (List.getElem?_eq_some_iff.1 hj).1; have := (h.boxes b cs hb).1; omega
        have hmm := hm b j cs s hb hj hs _ _ ⟨hj', rfl, rfl⟩
        exact ⟨v, by rw [hmm.1]; exact e1, by rw [hmm.2]; exact e2, SRel.later later e3 (hroot (.cell b j)), e4⟩⟩
    roots := fun r sz rows hc => by
      obtain ⟨x, y, v, hv, z⟩ := h.roots r sz rows hc
      refine ⟨x, y, v, ?_, z⟩
      cases r with
      | slot d => exact hv
      | arg i j => exact hv
      | cell b j =>
        obtain ⟨cs, hb, hj⟩ := content_cell.1 hc
        have hj' : j < L.len b := by have := (List.getElem?_eq_some_iff.1 hj).1; have := (h.boxes b cs hb).1; omega
        simp only [rootVal] at hv ⊢
        rw [(hm b j cs _ hb hj (by simp) _ _ ⟨hj', rfl, rfl⟩).1]; exact hv
    norow := h.norow
    sep := fun i j => by rw [hat', hat']; exact h.sep i j
    okap := fun i => by rw [hat']; exact Apart.or (h.okap i) (hNat i)
    snapS := h.snapS, snapM := fun b j => by rw [hat']; exact h.snapM b j
    live := fun i b o hx => by rw [hat'] at hx; exact ⟨Nat.lt_of_lt_of_le (h.live i b o hx).1 hk.1, (h.live i b o hx).2⟩
    liveS := fun b o hx => ⟨Nat.lt_of_lt_of_le (h.liveS b o hx).1 hk.1, (h.liveS b o hx).2⟩
    liveO := fun b o hx => hx.elim (fun hx => ⟨Nat.lt_of_lt_of_le (h.liveO b o hx).1 hk.1, (h.liveO b o hx).2⟩) (fun hx => ⟨(hN b o hx).1, .inr (hN b o hx).2⟩)
    keeps := h.keeps.trans hk (Sub.refl _) fun b o hf hb => (hFC b o hf).2.resolve_right (by omega) }

theorem PtrR.okmono {ok ok2 : Cells} {v : Value} {n : Nat} {us : List Tr} {F : Cells} (h : PtrR w ok v n us F) (hs : Sub ok ok2) : PtrR w ok2 v n us F := by
  obtain ⟨b, o, vs, G, h1, h2, h3, h4, h5, h6⟩ := h
  exact ⟨b, o, vs, G, h1, h2, h3, h4, h5, RdL.okmono hs h6⟩
theorem PtrR.unbor {ok ok2 : Cells} {v : Value} {n : Nat} {us : List Tr} {F : Cells} (h : PtrR w ok v n us F) (hn : noBorL us) : PtrR w ok2 v n us F := by
  obtain ⟨b, o, vs, G, h1, h2, h3, h4, h5, h6⟩ := h
  exact ⟨b, o, vs, G, h1, h2, h3, h4, h5, RdL.unbor h6 hn⟩
theorem OutsR.okmono {ok ok2 : Cells} (hs : Sub ok ok2) : ∀ {ms : List Mode} {vs : List Value} {ts : List Tr} {F : Cells}, OutsR w ok ms vs ts F → OutsR w ok2 ms vs ts F
  | _, _, _, _, .nil => .nil
  | _, _, _, _, .b h => .b (OutsR.okmono hs h)
  | _, _, _, _, .c h => .c (OutsR.okmono hs h)
  | _, _, _, _, .r h1 h2 h3 h4 h5 => .r h1 h2 h3 (Rd.okmono hs h4) (OutsR.okmono hs h5)
  | _, _, _, _, .p h1 h2 h3 h4 h5 => .p h1 h2 h3 (h4.okmono hs) (OutsR.okmono hs h5)
theorem OutsR.unbor {ok ok2 : Cells} : ∀ {ms : List Mode} {vs : List Value} {ts : List Tr} {F : Cells}, OutsR w ok ms vs ts F → noBorL ts → OutsR w ok2 ms vs ts F
  | _, _, _, _, .nil, _ => .nil
  | _, _, _, _, .b h, hn => .b (OutsR.unbor h hn)
  | _, _, _, _, .c h, hn => .c (OutsR.unbor h hn)
  | _, _, _, _, .r h1 h2 h3 h4 h5, hn => by simp only [noBorL] at hn; exact .r h1 h2 h3 (Rd.unbor h4 hn.1) (OutsR.unbor h5 hn.2)
  | _, _, _, _, .p h1 h2 h3 h4 h5, hn => by simp only [noBorL, noBor] at hn; exact .p h1 h2 h3 (h4.unbor hn.1) (OutsR.unbor h5 hn.2)

/-- a call, from the state in which what is handed on has been taken out -/
theorem callG (h : Rel w0 FA ok0 E N σ a w L) (hsn : ∀ b o, ¬ L.sn b o) {f : FuncId} {F : FnS} (hcon : Contract P f F) (hcl : F.clean = true → Clean F) {vals : List Value} {us res outs : List Tr} {lent : Bool} {FC : Cells}
    (hA : ArgsR w (if lent then L.all else L.ok) F.modes vals us FC) (hc : F.clean = true ∨ lent = false) (hs : F.sem us = some (res, outs))
    (hFC : ∀ b o, FC b o → b < w.heap.size ∧ (FA b o ∨ w0.heap.size ≤ b)) (hap : ∀ i, (∀ b j, i = .m b j → ¬ DeadAt σ b j) → Apart FC (L.at i)) (hapO : Apart L.ok FC)
    (hdead : ∀ (w' : World) (ok' G2 : Cells), OutsR w' ok' F.modes vals outs G2 → ∀ b o i, FC b o → L.at i b o → G2 b o) :
    Calls P f vals.toArray w (fun e w' => ∃ v L' G1 G2, e = .returned v ∧ Keeps FC w w' ∧ Rel w0 FA ok0 E N σ a w' L' ∧ Later σ w L σ w' L' ∧ (∀ b o, ¬ L'.sn b o) ∧ L'.loc = L.loc ∧ (∀ i, L'.at i = L.at i) ∧ RetR w' L'.ok v res G1 ∧ OutsR w' L'.ok F.modes vals outs G2 ∧
      Apart G1 G2 ∧ (∀ b o, Or G1 G2 b o → (FC b o ∨ w.heap.size ≤ b) ∧ b < w'.heap.size) ∧ Apart L'.ok G1 ∧ Apart L'.ok G2) := by
  have hall : ∀ b o, L.all b o → b < w.heap.size := all_live h
  have hallFC : Apart L.all FC := by
    rintro b o (hx | hx | ⟨r, hx⟩) hy
    · exact hapO b o hx hy
    · exact hsn b o hx
    · exact hap r.ix (by intro b j e; cases r <;> simp [Root.ix] at e) b o hy hx
  have hokl : ∀ b o, (if lent then L.all else L.ok) b o → b < w.heap.size := by
    intro b o hx
    cases lent with
    | true => exact hall b o hx
    | false => exact (h.liveO b o hx).1
  have hokF : Apart (if lent then L.all else L.ok) FC := by
    cases lent with
    | true => exact hallFC
    | false => exact hapO
  refine (hcon us res outs hs w _ FC vals hA hokl (fun b o hx => (hFC b o hx).1) hokF).mono ?_
  rintro e w' ⟨v, rfl, hk, ok', G1, G2, q1, q2, q3, q4, q5, q6, q7⟩
  cases hlent : lent with
  | false =>
    rw [hlent] at q1
    simp only [Bool.false_eq_true, if_false] at q1
    have hm : ∀ b o, ok' b o → (FC b o ∨ w.heap.size ≤ b) → ∀ j, ¬ L.at j b o := by
      rintro b o hx (hf | hn) j hj
      · exact q5 b o hx (hdead _ _ _ q7 b o j hf hj)
      · have := (h.live j b o hj).1; omega
    obtain ⟨r1, r2⟩ := h.after (okN := fun b o => ok' b o ∧ (FC b o ∨ w.heap.size ≤ b)) hk hFC hap hapO (fun b o hx => absurd hx (hsn b o))
      (fun b o hx => ⟨(q1 b o hx.1).2, hx.2.elim (fun hf => (hFC b o hf).2) (fun hn => .inr (Nat.le_trans h.keeps.1 hn))⟩) (fun i b o hx hy => hm b o hx.1 hx.2 i hy)
    have hsub : Sub ok' (Or L.ok (fun b o => ok' b o ∧ (FC b o ∨ w.heap.size ≤ b))) := fun b o hx => by
      rcases (q1 b o hx).1 with h1 | h1
      · exact .inl h1
      · exact .inr ⟨hx, h1⟩
    refine ⟨v, _, G1, G2, rfl, hk, r1, r2, hsn, rfl, fun i => by cases i <;> rfl, q6.okmono hsub, q7.okmono hsub, q3, q2, ?_, ?_⟩
    · refine Apart.or ?_ (fun b o hx hy => q4 b o hx.1 hy)
      intro b o hx hy
      rcases (q2 b o (.inl hy)).1 with h1 | h1
      · exact hapO b o hx h1
      · have := (h.liveO b o hx).1; omega
    · refine Apart.or ?_ (fun b o hx hy => q5 b o hx.1 hy)
      intro b o hx hy
      rcases (q2 b o (.inr hy)).1 with h1 | h1
      · exact hapO b o hx h1
      · have := (h.liveO b o hx).1; omega
  | true =>
    have hcc := hcl (hc.resolve_right (by simp [hlent])) us res outs hs
    obtain ⟨r1, r2⟩ := h.after (okN := Cells.none) hk hFC hap hapO (fun b o hx => absurd hx (hsn b o)) (fun b o hx => hx.elim) (fun i => Apart.none_l _)
    refine ⟨v, _, G1, G2, rfl, hk, r1, r2, hsn, rfl, fun i => by cases i <;> rfl, q6.unbor hcc.1, q7.unbor hcc.2, q3, q2, ?_, ?_⟩
    · refine Apart.or ?_ (Apart.none_l _)
      intro b o hx hy
      rcases (q2 b o (.inl hy)).1 with h1 | h1
      · exact hapO b o hx h1
      · have := (h.liveO b o hx).1; omega
    · refine Apart.or ?_ (Apart.none_l _)
      intro b o hx hy
      rcases (q2 b o (.inr hy)).1 with h1 | h1
      · exact hapO b o hx h1
      · have := (h.liveO b o hx).1; omega
end
end Go.Mv
