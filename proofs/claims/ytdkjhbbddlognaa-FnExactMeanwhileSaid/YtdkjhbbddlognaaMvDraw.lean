/-
  A part of a theory of trees by which the functions of the program are walked: it proves no statement of the seat by itself; no conditions.
-/
import Derived.Test.YtdkjhbbddlognaaMvSim4
namespace Go.Mv
set_option linter.unusedVariables false
set_option linter.unusedSimpArgs false

def isCall : Op → Bool
  | .call _ => true
  | _ => false
/-- may the operation stand in the floating front of a drawn region? -/
def frontOp (o : Oper) : Bool := o.dst.isSome && (calmOp o.op || isCall o.op)
def frontLen : List Oper → Nat
  | [] => 0
  | o :: os => if frontOp o then frontLen os + 1 else 0

/-- does i wait for j? -/
def waits (ops : Array Oper) (i j : Nat) : Bool := match ops[i]? with
  | some o => o.after.toList.any fun e => Region.binds .any e && e.on == j
  | none => false
def dstOf (ops : Array Oper) (i : Nat) : Option Nat := (ops[i]?).bind (·.dst)
def tmpsOf (o : Oper) : List Nat := o.op.operands.toList.filterMap fun | .tmp t => some t | _ => none

def okDraw (ops : Array Oper) : Bool :=
  let m := frontLen ops.toList
  let n := ops.size
  (List.range n).all fun i =>
    -- edges go back
    ((List.range n).all fun j => !waits ops i j || decide (j < i)) &&
    (match ops[i]? with | some o => o.after.toList.all fun e => !Region.binds .any e || decide (e.on < i) | none => true) &&
    (if i < m then
      -- dsts are distinct, what is looked at and made in the front is waited for
      ((List.range m).all fun j => decide (j = i) || dstOf ops j != dstOf ops i) &&
      (match ops[i]? with
        | some o => (tmpsOf o).all (fun t => (List.range m).all fun j => dstOf ops j != some t || waits ops i j) &&
            (match o.guard with | some (j, _) => decide (j < m) && waits ops i j | none => true)
        | none => true)
    else
      -- the rest is in the text's order
      (List.range i).all fun j => waits ops i j)

/-- the slots that the front writes -/
def frontS (ops : Array Oper) (t : Nat) : Bool := (List.range (frontLen ops.toList)).any fun i => dstOf ops i == some t

def St.kills (σ : St) : List Nat → St
  | [] => σ
  | d :: ds => (σ.kill d).kills ds

def wgcalm (P : Program) (Γ : Env) (ops : Array Oper) (o : Oper) (σ : St) (K : SV → Prop) : Prop :=
  match o.guard with
  | none => wcalm P Γ false o.op o.type σ K
  | some (j, want) => match dstOf ops j with
    | some d => match σ.slot d with
      | .tr none (.sc (.bool b)) => (b = want → wcalm P Γ false o.op o.type σ K) ∧ (b = !want → K (.tup []))
      | .tup [] => K (.tup [])
      | _ => False
    | none => False

/-- the front, in the text's order -/
def wfront (P : Program) (Γ : Env) (S : Nat → Bool) (ops : Array Oper) (K : St → Prop) : List Oper → St → Prop
  | [], σ => K σ
  | o :: os, σ => if frontOp o then (rootless S σ o.op ∧ wgcalm P Γ ops o σ fun s => wfront P Γ S ops K os (σ.putO o.dst s)) else wrest P Γ ops K (o :: os) σ
where
  /-- the tail -/
  wrest (P : Program) (Γ : Env) (ops : Array Oper) (K : St → Prop) : List Oper → St → Prop
  | [], σ => K σ
  | o :: os, σ => wguard P Γ ops o σ (wrest P Γ ops K os)

def wdraw (P : Program) (Γ : Env) (ops : Array Oper) (σ : St) (K : St → Prop) : Prop :=
  okDraw ops = true ∧ wfront P Γ (frontS ops) ops K ops.toList (σ.kills ((ops.toList.take (frontLen ops.toList)).filterMap (·.dst)))
section
variable {S : Nat → Bool} {σ σ' : St} {P : Program} {Γ : Env}

mutual
theorem stale_mono (h1 : ∀ r, σ.ver r ≤ σ'.ver r) (h2 : ∀ r, σ.nver r ≤ σ'.nver r) : ∀ {s : SV}, stale S σ s → stale S σ' s
  | .ref (.slot d) n _ _, h => fun hd => Nat.lt_of_lt_of_le (h hd) (h1 _)
  | .pr (.slot d) n _ _, h => fun hd => Nat.lt_of_lt_of_le (h hd) (h1 _)
  | .nst (.slot d) n _ _ _ _, h => fun hd => Nat.lt_of_lt_of_le (h hd) (h2 _)
  | .ref (.cell _ _) _ _ _, _ => trivial
  | .pr (.cell _ _) _ _ _, _ => trivial
  | .nst (.cell _ _) _ _ _ _ _, _ => trivial
  | .ref (.arg _ _) _ _ _, _ => trivial
  | .pr (.arg _ _) _ _ _, _ => trivial
  | .nst (.arg _ _) _ _ _ _ _, _ => trivial
  | .agg cs, h => by simp only [stale] at h ⊢; exact staleL_mono h1 h2 h
  | .tup cs, h => by simp only [stale] at h ⊢; exact staleL_mono h1 h2 h
  | .tr _ _, _ => trivial
  | .pc _ _ _, _ => trivial
  | .pv _ _ _, _ => trivial
  | .dead, _ => trivial
theorem staleL_mono (h1 : ∀ r, σ.ver r ≤ σ'.ver r) (h2 : ∀ r, σ.nver r ≤ σ'.nver r) : ∀ {ss : List SV}, staleL S σ ss → staleL S σ' ss
  | [], _ => trivial
  | s :: ss, h => ⟨stale_mono h1 h2 h.1, staleL_mono h1 h2 h.2⟩
end

theorem put_slot_eq' (σ : St) (d : Nat) (s : SV) : (σ.put d s).slot d = s := by simp [St.put]

def Stl (S : Nat → Bool) (σ : St) : Prop := (∀ t, stale S σ (σ.slot t)) ∧ ∀ b cs, σ.box b = some cs → staleL S σ cs

theorem put_ver (σ : St) (d : Nat) (s : SV) (r : Root) : σ.ver r ≤ (σ.put d s).ver r := by simp only [St.put]; split <;> omega
theorem put_nver (σ : St) (d : Nat) (s : SV) (r : Root) : σ.nver r ≤ (σ.put d s).nver r := by simp only [St.put]; split <;> omega

theorem Stl.put (h : Stl S σ) {d : Nat} {s : SV} (hs : stale S σ s) : Stl S (σ.put d s) := by
  constructor
  · intro t
    by_cases e : t = d
    · subst e; rw [put_slot_eq']; exact stale_mono (put_ver σ t s) (put_nver σ t s) hs
    · have : (σ.put d s).slot t = σ.slot t := by simp [St.put, e]
      rw [this]; exact stale_mono (put_ver σ d s) (put_nver σ d s) (h.1 t)
  · intro b cs hb
    exact staleL_mono (put_ver σ d s) (put_nver σ d s) (h.2 b cs hb)

/-- an operation of the front, under its guard, in states alike -/
theorem wgcalm_sim (h : Sim S σ σ') {ops : Array Oper} {o : Oper} (hx : ∀ t, .tmp t ∈ o.op.operands → σ'.slot t = σ.slot t) (hgd : ∀ j w d, o.guard = some (j, w) → dstOf ops j = some d → σ'.slot d = σ.slot d)
    (hr : rootless S σ o.op) {K : SV → Prop} (hc : wgcalm P Γ ops o σ K) : ∃ s, K s ∧ stale S σ s ∧ wgcalm P Γ ops o σ' (fun s' => s' = s) := by
  unfold wgcalm at hc ⊢
  cases hg : o.guard with
  | none => simp only [hg] at hc ⊢; exact calm_sim h hx hr hc
  | some jw =>
    obtain ⟨j, want⟩ := jw
    simp only [hg] at hc ⊢
    cases hd : dstOf ops j with
    | none => simp only [hd] at hc
    | some d =>
      simp only [hd, hgd j want d hg hd] at hc ⊢
      split at hc
      · rename_i b hb
        by_cases e : b = want
        · obtain ⟨s, k1, k2, k3⟩ := calm_sim h hx hr (hc.1 e)
          exact ⟨s, k1, k2, fun _ => k3, fun e' => by subst e; cases b <;> simp at e'⟩
        · have e' : b = !want := by cases b <;> cases want <;> simp_all
          exact ⟨.tup [], hc.2 e', by simp [stale, staleL], fun e2 => absurd e2 e, fun _ => rfl⟩
      · exact ⟨.tup [], hc, by simp [stale, staleL], rfl⟩
      · exact hc.elim
end
end Go.Mv
