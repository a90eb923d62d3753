/-
  A part of a theory of trees by which the functions of the program are walked: it proves no statement of the seat by itself; no conditions.
-/
import Derived.Test.YtdkjhbbddlognaaMvNew
namespace Go.Mv
set_option linter.unusedVariables false
set_option linter.unusedSimpArgs false

/-- values in hand: what they own is apart from all that is held elsewhere -/
structure HandG (w0 : World) (FA : Cells) (σ : St) (w : World) (L : Lay) (l : List (SV × Value)) (G : Nat → Cells) : Prop where
  rel : ∀ (k : Nat) (s : SV) (v : Value), l[k]? = some (s, v) → SRel σ w L s v (G k)
  snap : ∀ (k : Nat) (s : SV) (v : Value), l[k]? = some (s, v) → Apart L.sn (tops s v)
  sep : ∀ i j, i ≠ j → Apart (G i) (G j)
  ap : ∀ k i, Apart (G k) (L.at i)
  okap : ∀ k, Apart L.ok (G k)
  live : ∀ k b o, G k b o → b < w.heap.size ∧ (FA b o ∨ w0.heap.size ≤ b)

def Hand (w0 : World) (FA : Cells) (σ : St) (w : World) (L : Lay) (l : List (SV × Value)) : Prop := ∃ G, HandG w0 FA σ w L l G

section
variable {w0 : World} {FA ok0 : Cells} {E : Ent} {N : Nat} {σ : St} {a : Act} {w : World} {L : Lay}
variable {P : Program} {Q : Exit → Act → World → Prop} {Kr : Act → World → Prop} {o : Oper} {Γ : Env}

theorem Hand.nil : Hand w0 FA σ w L [] := ⟨fun _ => Cells.none, fun k s v h => by simp at h, fun k s v h => by simp at h, fun _ _ _ => Apart.none_l _, fun _ _ => Apart.none_l _, fun _ => Apart.none_r _, fun _ _ _ h => h.elim⟩

theorem HandG.later {l : List (SV × Value)} {G : Nat → Cells} (h : HandG w0 FA σ w L l G) {σ' : St} {w' : World} {L' : Lay} (hl : Later σ w L σ' w' L') (hs : ∀ k, Same w w' (G k))
    (hap : ∀ k i, Apart (G k) (L'.at i)) (hok : ∀ k, Apart L'.ok (G k)) (hsn : Sub L'.sn L.sn) (hsz : w.heap.size ≤ w'.heap.size) : HandG w0 FA σ' w' L' l G where
  rel := fun k s v hk => SRel.later hl (h.rel k s v hk) (hs k)
  snap := fun k s v hk => (h.snap k s v hk).sub hsn (Sub.refl _)
  sep := h.sep
  ap := hap
  okap := hok
  live := fun k b o hx => ⟨Nat.lt_of_lt_of_le (h.live k b o hx).1 hsz, (h.live k b o hx).2⟩

/-- a slot takes a value that is in hand -/
theorem Rel.putH (h : Rel w0 FA ok0 E N σ a w L) {d : Nat} (hd : d < N) {s : SV} {v : Value} {l : List (SV × Value)} (hh : Hand w0 FA σ w L ((s, v) :: l)) :
    ∃ L', Rel w0 FA ok0 E N (σ.put d s) (a.put (some d) v) w L' ∧ Hand w0 FA (σ.put d s) w L' l := by
  obtain ⟨G, hG⟩ := hh
  obtain ⟨R, hR⟩ := h.put hd (Nat.le_refl _) h.keeps (fun _ => Same.refl _ _) (Same.refl _ _) (Same.refl _ _) (hG.live 0) (fun i _ => hG.ap 0 i) (hG.okap 0) (hG.snap 0 s v rfl) (hG.rel 0 s v rfl)
  refine ⟨_, hR, fun k => G (k + 1), ?_⟩
  have hl' : HandG w0 FA σ w L l (fun k => G (k + 1)) :=
    { rel := fun k s v hk => hG.rel (k + 1) s v (by simpa using hk), snap := fun k s v hk => hG.snap (k + 1) s v (by simpa using hk), sep := fun i j hij => hG.sep _ _ (by omega)
      ap := fun k i => hG.ap _ i, okap := fun k => hG.okap _, live := fun k => hG.live _ }
  refine hl'.later ?_ (fun _ => Same.refl _ _) ?_ (fun k => hG.okap _) (Sub.refl _) (Nat.le_refl _)
  · exact
    { ver := fun r => by simp only [St.put]; split <;> omega
      row := fun r e => by
        simp only [St.put] at e
        by_cases hr : r = .slot d
        · simp [hr] at e
        · simp [hr]
      nver := fun r => by simp only [St.put]; split <;> omega
      nst := fun r e => by
        simp only [St.put] at e
        by_cases hr : r = .slot d
        · simp [hr] at e
        · simp only [hr, if_false]; exact ⟨trivial, fun _ _ _ _ _ => trivial⟩
      bver := fun b => Nat.le_refl _
      loc := fun b _ => rfl
      ep := Nat.le_refl _
      sn := fun _ => ⟨Sub.refl _, Same.refl _ _⟩
      ok := Sub.refl _
      okw := Same.refl _ _ }
  · intro k i
    cases i with
    | s e =>
      simp only [Lay.at]
      by_cases hde : e = d
      · simp only [hde, if_true]; exact hG.sep _ _ (by omega)
      · simp only [hde, if_false]; exact hG.ap _ (.s e)
    | a i j => exact hG.ap _ (.a i j)
    | c b j => exact hG.ap _ (.c b j)
    | m b j => exact hG.ap _ (.m b j)

/-- what a slot holds is taken into the hand -/
theorem Rel.takeH (h : Rel w0 FA ok0 E N σ a w L) {t : Nat} (ht : t < N) {l : List (SV × Value)} (hh : Hand w0 FA σ w L l) :
    ∃ L', Rel w0 FA ok0 E N (σ.kill t) a w L' ∧ Hand w0 FA (σ.kill t) w L' ((σ.slot t, a.tmps.getD t undef) :: l) := by
  obtain ⟨G, hG⟩ := hh
  obtain ⟨R, hR⟩ := h.put (d := t) ht (s := .dead) (v := a.tmps.getD t undef) (F := Cells.none) (w' := w) (Nat.le_refl _) h.keeps (fun _ => Same.refl _ _) (Same.refl _ _) (Same.refl _ _)
    (fun _ _ h => h.elim) (fun _ _ => Apart.none_l _) (Apart.none_r _) (by simp only [tops]; exact Apart.none_r _) .dead
  rw [put_self] at hR
  have later : Later σ w L (σ.kill t) w { L with slotF := fun i => if i = t then Cells.none else L.slotF i, row := fun r => if r = .slot t then R else L.row r } :=
    { ver := fun r => by simp only [St.kill, St.put]; split <;> omega
      row := fun r e => by
        simp only [St.kill, St.put] at e
        by_cases hr : r = .slot t
        · simp [hr] at e
        · simp [hr]
      nver := fun r => by simp only [St.kill, St.put]; split <;> omega
      nst := fun r e => by
        simp only [St.kill, St.put] at e
        by_cases hr : r = .slot t
        · simp [hr] at e
        · simp only [hr, if_false]; exact ⟨trivial, fun _ _ _ _ _ => trivial⟩
      bver := fun b => Nat.le_refl _
      loc := fun b _ => rfl
      ep := Nat.le_refl _
      sn := fun _ => ⟨Sub.refl _, Same.refl _ _⟩
      ok := Sub.refl _
      okw := Same.refl _ _ }
  refine ⟨_, hR, fun k => match k with | 0 => L.slotF t | k + 1 => G k, ?_⟩
  exact
  { rel := fun k s v hk => by
      cases k with
      | zero => cases hk; exact SRel.later later (h.slots t) (Same.refl _ _)
      | succ k => simp at hk; exact SRel.later later (hG.rel k s v hk) (Same.refl _ _)
    snap := fun k s v hk => by
      cases k with
      | zero => cases hk; exact h.snapS t
      | succ k => simp at hk; exact hG.snap k s v hk
    sep := fun i j hij => by
      cases i with
      | zero => cases j with
        | zero => exact absurd rfl hij
        | succ j => exact (hG.ap j (.s t)).symm
      | succ i => cases j with
        | zero => exact hG.ap i (.s t)
        | succ j => exact hG.sep i j (by omega)
    ap := fun k i => by
      cases k with
      | zero =>
        cases i with
        | s d =>
          simp only [Lay.at]
          by_cases e : d = t
          · simp [e]; exact Apart.none_r _
          · simp only [e, if_false]
            exact h.sep (.s t) (.s d) (by simp; exact fun x => e x.symm)
        | c b j => exact h.sep (.s t) (.c b j) (by simp)
        | m b j => exact h.sep (.s t) (.m b j) (by simp)
        | a i j => exact h.sep (.s t) (.a i j) (by simp)
      | succ k =>
        cases i with
        | s d =>
          simp only [Lay.at]
          by_cases e : d = t
          · simp [e]; exact Apart.none_r _
          · simp only [e, if_false]; exact hG.ap k (.s d)
        | c b j => exact hG.ap k (.c b j)
        | m b j => exact hG.ap k (.m b j)
        | a i j => exact hG.ap k (.a i j)
    okap := fun k => by
      cases k with
      | zero => exact h.okap (.s t)
      | succ k => exact hG.okap k
    live := fun k b o hx => by
      cases k with
      | zero => exact h.live (.s t) b o hx
      | succ k => exact hG.live k b o hx }

/-- an operand is taken into the hand; its slot is emptied where the value owns memory -/
theorem Rel.eatH (h : Rel w0 FA ok0 E N σ a w L) {P : Program} {T : TypeId} {x : Operand} (hx : ∀ t, x = .tmp t → t < N) {l : List (SV × Value)} (hh : Hand w0 FA σ w L l) :
    ∃ L', Rel w0 FA ok0 E N (σ.eat x) a w L' ∧ Hand w0 FA (σ.eat x) w L' ((σ.val P T x, a.eval x) :: l) := by
  have free : ∀ {s v}, SRel σ w L s v Cells.none → Hand w0 FA σ w L ((s, v) :: l) := by
    intro s v hsv
    obtain ⟨G, hG⟩ := hh
    refine ⟨fun k => match k with | 0 => Cells.none | k + 1 => G k, ?_⟩
    exact
    { rel := fun k s v hk => by
        cases k with
        | zero => simp at hk; obtain ⟨rfl, rfl⟩ := hk; exact hsv
        | succ k => simp at hk; exact hG.rel k s v hk
      snap := fun k s' v' hk => by
        cases k with
        | zero => simp at hk; obtain ⟨rfl, rfl⟩ := hk; exact Apart.sub (Apart.none_r _) (Sub.refl _) (tops_sub hsv)
        | succ k => simp at hk; exact hG.snap k s' v' hk
      sep := fun i j hij => by
        cases i with
        | zero => exact Apart.none_l _
        | succ i => cases j with
          | zero => exact Apart.none_r _
          | succ j => exact hG.sep i j (by omega)
      ap := fun k i => by
        cases k with
        | zero => exact Apart.none_l _
        | succ k => exact hG.ap k i
      okap := fun k => by
        cases k with
        | zero => exact Apart.none_r _
        | succ k => exact hG.okap k
      live := fun k b o hx => by
        cases k with
        | zero => exact hx.elim
        | succ k => exact hG.live k b o hx }
  cases x with
  | tmp t =>
    simp only [St.eat, St.val]
    split
    · exact h.takeH (hx t rfl) hh
    · rename_i hown
      exact ⟨L, h, free ((h.slots t).free (by simpa using hown) _)⟩
  | const v => exact ⟨L, h, free constSV_rel⟩
  | func f => exact ⟨L, h, free (h.val P T (.func f))⟩
  | global g => exact ⟨L, h, free .dead⟩

theorem put_none (a : Act) (v : Value) : a.put none v = a := rfl

/-- a value in hand goes where the operation puts it -/
theorem Rel.putOH (h : Rel w0 FA ok0 E N σ a w L) {d : Option Nat} (hd : ∀ e, d = some e → e < N) {s : SV} {v : Value} (hh : Hand w0 FA σ w L [(s, v)]) :
    ∃ L', Rel w0 FA ok0 E N (σ.putO d s) (a.put d v) w L' := by
  cases d with
  | none => exact ⟨L, h⟩
  | some d => obtain ⟨L', h1, _⟩ := h.putH (hd d rfl) hh; exact ⟨L', h1⟩

theorem Hand.free {s : SV} {v : Value} (hs : SRel σ w L s v Cells.none) : Hand w0 FA σ w L [(s, v)] :=
  ⟨fun _ => Cells.none, fun k s' v' hk => by cases k with | zero => cases hk; exact hs | succ k => simp at hk,
    fun k s' v' hk => by cases k with | zero => cases hk; exact Apart.sub (Apart.none_r _) (Sub.refl _) (tops_sub hs) | succ k => simp at hk,
    fun _ _ _ => Apart.none_l _, fun _ _ => Apart.none_l _, fun _ => Apart.none_r _, fun _ _ _ h => h.elim⟩


end
end Go.Mv
