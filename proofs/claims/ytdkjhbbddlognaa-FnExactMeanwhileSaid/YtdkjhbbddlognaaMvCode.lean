/-
  A part of a theory of trees by which the functions of the program are walked: it proves no statement of the seat by itself; no conditions.
-/
import Derived.Test.YtdkjhbbddlognaaMvOps
namespace Go.Mv
set_option linter.unusedVariables false
set_option linter.unusedSimpArgs false

/-- an operation under its guard -/
def wguard (P : Program) (Γ : Env) (ops : Array Oper) (o : Oper) (σ : St) (K : St → Prop) : Prop :=
  match o.guard with
  | none => wop P Γ o σ K
  | some (j, want) => match (ops[j]?).bind (·.dst) with
    | some d => match σ.slot d with
      | .tr none (.sc (.bool b)) => (b = want → wop P Γ o σ K) ∧ (b = !want → K (σ.putO o.dst (.tup [])))
      | .tup [] => K (σ.putO o.dst (.tup []))
      | _ => False
    | none => False

def wops (P : Program) (Γ : Env) (ops : Array Oper) (K : St → Prop) : List Nat → St → Prop
  | [], σ => K σ
  | i :: rest, σ => match ops[i]? with
    | some o => wguard P Γ ops o σ (wops P Γ ops K rest)
    | none => wops P Γ ops K rest σ

def wcondC (P : Program) (σ : St) (c : Operand) (X Y : Prop) : Prop :=
  match σ.val P 0 c with
  | .tr none (.sc (.bool b)) => (b = true → X) ∧ (b = false → Y)
  | _ => False

abbrev QS := Exit → St → Prop
def QS.then (K : St → Prop) (Q : QS) : QS
  | .normal, σ => K σ
  | e, σ => Q e σ
def QS.inBlock (id : Nat) (Q : QS) : QS
  | .exit id', σ => if id' = id then Q .normal σ else Q (.exit id') σ
  | e, σ => Q e σ

/-- what a piece of code does to the tree state -/
def WT (P : Program) (Γ : Env) (D : Array Oper → St → (St → Prop) → Prop) : Code → QS → St → Prop
  | .skip, Q, σ => Q .normal σ
  | .region _ ops false, Q, σ => wops P Γ ops (Q .normal) (List.range ops.size) σ
  | .region _ ops true, Q, σ => D ops σ (Q .normal)
  | .seq x y, Q, σ => WT P Γ D x (Q.then (WT P Γ D y Q)) σ
  | .cond c x y, Q, σ => wcondC P σ c (WT P Γ D x Q σ) (WT P Γ D y Q σ)
  | .block id c, Q, σ => WT P Γ D c (Q.inBlock id) σ
  | .exit id, Q, σ => Q (.exit id) σ
  | .loop c, Q, σ => ∃ I : Nat → St → Prop, (∃ n, I n σ) ∧ ∀ n σ, I n σ → WT P Γ D c (Q.then fun σ' => ∃ m, m < n ∧ I m σ') σ
  | .ret, Q, σ => Q .ret σ
  | _, _, _ => False

def okCode (N : Nat) : Code → Bool
  | .region _ ops _ => ops.toList.all (okOper N)
  | .seq x y => okCode N x && okCode N y
  | .cond _ x y => okCode N x && okCode N y
  | .block _ c => okCode N c
  | .loop c => okCode N c
  | _ => true

section
variable {w0 : World} {FA ok0 : Cells} {E : Ent} {N : Nat} {σ : St} {a : Act} {w : World} {L : Lay}
variable {P : Program} {Γ : Env} {D : Array Oper → St → (St → Prop) → Prop}

def upR (w0 : World) (FA ok0 : Cells) (E : Ent) (N : Nat) (K : St → Prop) (a : Act) (w : World) : Prop := ∃ σ L, K σ ∧ Rel w0 FA ok0 E N σ a w L
def upQ (w0 : World) (FA ok0 : Cells) (E : Ent) (N : Nat) (Q : QS) (e : Exit) (a : Act) (w : World) : Prop := upR w0 FA ok0 E N (Q e) a w

theorem bool_val (h : Rel w0 FA ok0 E N σ a w L) {c : Operand} {T : TypeId} {b : Bool} (hb : σ.val P T c = .tr none (.sc (.bool b))) : a.eval c = .bool b := scOf_val h hb

/-- an operation that did not run yields nothing -/
theorem not_run (h : Rel w0 FA ok0 E N σ a w L) {ops : Array Oper} {j d : Nat} (hd : (ops[j]?).bind (·.dst) = some d) (hs : σ.slot d = .tup []) : yielded ops a.tmps j = none := by
  have hr := h.slots d
  rw [hs] at hr
  have hu : a.tmps.getD d undef = undef := by
    generalize a.tmps.getD d undef = v at hr
    cases hr with
    | tup hl => cases hl; rfl
  have hu' : (a.tmps[d]?).getD undef = undef := by simpa [Array.getD_eq_getD_getElem?] using hu
  cases hx : a.tmps[d]? with
  | none => simp [yielded, hd, hx]
  | some u => rw [hx] at hu'; simp at hu'; subst hu'; simp [yielded, hd, hx, undef]
theorem wguard_wp (h : Rel w0 FA ok0 E N σ a w L) (hg : Good P Γ) {ops : Array Oper} {o : Oper} (hok : okOper N o = true) {K : St → Prop} (hc : wguard P Γ ops o σ K) {Kr : Act → World → Prop} {Q : Exit → Act → World → Prop}
    (hk : ∀ σ' a' w' L', K σ' → Rel w0 FA ok0 E N σ' a' w' L' → Kr a' w') :
    if Region.wanted o (yielded ops a.tmps) then o.wp P a w Kr Q ∨ (o.asks P a w ∧ LetsOut Q) else Kr (a.put o.dst undef) w := by
  unfold wguard at hc
  cases hgd : o.guard with
  | none =>
    simp only [hgd] at hc
    simp only [Region.wanted, hgd, if_true]
    exact .inl (wop_wp h hg hok hc hk)
  | some jw =>
    obtain ⟨j, want⟩ := jw
    simp only [hgd] at hc
    split at hc
    · rename_i d hd
      split at hc
      · rename_i b hs
        have hv : a.tmps.getD d undef = .bool b := by have := bool_val (P := P) (T := 0) (c := .tmp d) h hs; exact this
        have hy : yielded ops a.tmps j = some b := by
          have : (a.tmps[d]?).getD undef = .bool b := by simpa [Array.getD_eq_getD_getElem?] using hv
          cases hx : a.tmps[d]? with
          | none => rw [hx] at this; simp [undef] at this
          | some u => rw [hx] at this; simp at this; simp [yielded, hd, hx, this]
        simp only [Region.wanted, hgd, hy]
        by_cases e : b = want
        · subst e
          simp only [beq_self_eq_true, if_true]
          exact .inl (wop_wp h hg hok (hc.1 rfl) hk)
        · have e' : b = !want := by cases b <;> cases want <;> simp_all
          have : (some b == some want) = false := by simp [e]
          simp only [this, Bool.false_eq_true, if_false]
          obtain ⟨L2, h2⟩ := h.putOH (d := o.dst) (fun _ hd => okOper_dst hok hd) (Hand.free (s := .tup []) (v := undef) (.tup .nil))
          exact hk _ _ _ _ (hc.2 e') h2
      · rename_i hs
        have hy : yielded ops a.tmps j = none := not_run h hd hs
        simp only [Region.wanted, hgd, hy]
        have : ((none : Option Bool) == some want) = false := rfl
        simp only [this, Bool.false_eq_true, if_false]
        obtain ⟨L2, h2⟩ := h.putOH (d := o.dst) (fun _ hd => okOper_dst hok hd) (Hand.free (s := .tup []) (v := undef) (.tup .nil))
        exact hk _ _ _ _ hc h2
      · exact hc.elim
    · exact hc.elim

theorem wops_wp (hg : Good P Γ) {ops : Array Oper} (hok : ops.toList.all (okOper N) = true) {K : St → Prop} {Q : Exit → Act → World → Prop}
    (hk : ∀ σ' a' w' L', K σ' → Rel w0 FA ok0 E N σ' a' w' L' → Q .normal a' w') :
    ∀ (l : List Nat) {σ : St} {a : Act} {w : World} {L : Lay}, Rel w0 FA ok0 E N σ a w L → wops P Γ ops K l σ → wpOps P ops Q l a w
  | [], σ, a, w, L, h, hc => hk _ _ _ _ hc h
  | i :: rest, σ, a, w, L, h, hc => by
    simp only [wops] at hc
    simp only [wpOps]
    cases hi : ops[i]? with
    | none => simp only [hi] at hc; exact wops_wp hg hok hk rest h hc
    | some o =>
      simp only [hi] at hc
      have ho : okOper N o = true := by
        simp only [List.all_eq_true] at hok
        exact hok o (by obtain ⟨hlt, rfl⟩ := Array.getElem?_eq_some_iff.1 hi; simp)
      exact wguard_wp h hg ho hc fun σ' a' w' L' hK hR => wops_wp hg hok hk rest hR hK

theorem least {p : Nat → Prop} (h : ∃ n, p n) : ∃ n, p n ∧ ∀ m, p m → n ≤ m := by
  obtain ⟨n, hn⟩ := h
  induction n using Nat.strongRecOn with
  | _ n ih =>
    by_cases hm : ∃ m, m < n ∧ p m
    · obtain ⟨m, h1, h2⟩ := hm; exact ih m h1 h2
    · exact ⟨n, hn, fun m hp => Nat.le_of_not_lt fun hlt => hm ⟨m, hlt, hp⟩⟩

/-- a loop by a number that falls -/
theorem wp_loop_nat {c : Code} {Q : Exit → Act → World → Prop} {a : Act} {w : World} (I : Nat → Act → World → Prop) (h0 : ∃ n, I n a w)
    (round : ∀ n a w, I n a w → c.wp P (Exit.then (fun a' w' => ∃ m, m < n ∧ I m a' w') Q) a w) : (Code.loop c).wp P Q a w := by
  classical
  let μ : Act → World → Nat := fun a w => if h : ∃ n, I n a w then Classical.choose (least h) else 0
  have hμ : ∀ a w (hI : ∃ n, I n a w), I (μ a w) a w ∧ ∀ m, I m a w → μ a w ≤ m := by
    intro a w hI
    simp only [μ]; rw [dif_pos hI]
    exact Classical.choose_spec (least hI)
  refine wp_loop (fun a w => ∃ n, I n a w) μ h0 fun a w hI => ?_
  refine wp_mono (round _ a w (hμ a w hI).1) fun e a' w' hq => ?_
  cases e with
  | normal =>
    obtain ⟨m, hm, hI'⟩ := hq
    exact ⟨⟨m, hI'⟩, Nat.lt_of_le_of_lt ((hμ a' w' ⟨m, hI'⟩).2 m hI') hm⟩
  | _ => exact hq

theorem upQ_then {K : St → Prop} {Q : QS} {e : Exit} {a : Act} {w : World} (h : upQ w0 FA ok0 E N (Q.then K) e a w) : Exit.then (upR w0 FA ok0 E N K) (upQ w0 FA ok0 E N Q) e a w := by
  cases e <;> exact h

/-- EVERY PIECE OF CODE: what the evaluator tells of it is so -/
theorem WT_wp (hg : Good P Γ)
    (hD : ∀ (id : Nat) (ops : Array Oper) (σ : St) (a : Act) (w : World) (L : Lay) (K : St → Prop) (Q : Exit → Act → World → Prop), ops.toList.all (okOper N) = true → Rel w0 FA ok0 E N σ a w L → D ops σ K →
      (∀ σ' a' w' L', K σ' → Rel w0 FA ok0 E N σ' a' w' L' → Q .normal a' w') → (Code.region id ops true).wp P Q a w) :
    ∀ (c : Code) (Q : QS) {σ : St} {a : Act} {w : World} {L : Lay}, okCode N c = true → Rel w0 FA ok0 E N σ a w L → WT P Γ D c Q σ → c.wp P (upQ w0 FA ok0 E N Q) a w := by
  intro c
  induction c with
  | skip => intro Q σ a w L _ h hc; exact wp_skip ⟨σ, L, hc, h⟩
  | ret => intro Q σ a w L _ h hc; exact wp_ret ⟨σ, L, hc, h⟩
  | exit id => intro Q σ a w L _ h hc; exact wp_exit ⟨σ, L, hc, h⟩
  | region id ops draw =>
    intro Q σ a w L hok h hc
    cases draw with
    | false => exact wp_region (wops_wp hg hok (fun σ' a' w' L' hK hR => ⟨σ', L', hK, hR⟩) _ h hc)
    | true => exact hD id ops σ a w L _ _ hok h hc fun σ' a' w' L' hK hR => ⟨σ', L', hK, hR⟩
  | seq x y ihx ihy =>
    intro Q σ a w L hok h hc
    simp only [okCode, Bool.and_eq_true] at hok
    refine wp_seq (wp_mono (ihx (Q.then (WT P Γ D y Q)) hok.1 h hc) fun e a w hq => ?_)
    cases e with
    | normal => obtain ⟨σ', L', h1, h2⟩ := hq; exact ihy Q hok.2 h2 h1
    | _ => exact hq
  | cond c x y ihx ihy =>
    intro Q σ a w L hok h hc
    simp only [okCode, Bool.and_eq_true] at hok
    simp only [WT, wcondC] at hc
    split at hc
    · rename_i b hb
      exact wp_cond_split (bool_val h hb) (fun e => ihx Q hok.1 h (hc.1 e)) (fun e => ihy Q hok.2 h (hc.2 e))
    · exact hc.elim
  | block id c ih =>
    intro Q σ a w L hok h hc
    refine wp_block (wp_mono (ih (Q.inBlock id) hok h hc) fun e a w hq => ?_)
    cases e with
    | exit id' =>
      obtain ⟨σ', L', h1, h2⟩ := hq
      simp only [QS.inBlock] at h1
      simp only [Exit.inBlock]
      split at h1
      · rename_i e; rw [if_pos e]; exact ⟨σ', L', h1, h2⟩
      · rename_i e; rw [if_neg e]; exact ⟨σ', L', h1, h2⟩
    | _ => exact hq
  | loop c ih =>
    intro Q σ a w L hok h hc
    obtain ⟨I, ⟨n, h0⟩, hr⟩ := hc
    refine wp_loop_nat (fun n => upR w0 FA ok0 E N (I n)) ⟨n, σ, L, h0, h⟩ fun n a w hI => ?_
    obtain ⟨σ', L', h1, h2⟩ := hI
    refine wp_mono (ih _ hok h2 (hr n σ' h1)) fun e a w hq => ?_
    cases e with
    | normal => obtain ⟨σ2, L2, ⟨m, hm, h3⟩, h4⟩ := hq; exact ⟨m, hm, σ2, L2, h3, h4⟩
    | _ => exact hq
  | _ => intro Q σ a w L _ h hc; exact hc.elim

end
end Go.Mv
