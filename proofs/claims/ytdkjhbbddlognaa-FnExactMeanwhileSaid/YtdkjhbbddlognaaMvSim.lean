/-
  A part of a theory of trees by which the functions of the program are walked: it proves no statement of the seat by itself; no conditions.
-/
import Derived.Test.YtdkjhbbddlognaaMvFn
namespace Go.Mv
set_option linter.unusedVariables false
set_option linter.unusedSimpArgs false

mutual
/-- no live reference to a slot of S -/
def stale (S : Nat → Bool) (σ : St) : SV → Prop
  | .ref (.slot d) n _ _ => S d = true → n < σ.ver (.slot d)
  | .pr (.slot d) n _ _ => S d = true → n < σ.ver (.slot d)
  | .nst (.slot d) n _ _ _ _ => S d = true → n < σ.nver (.slot d)
  | .agg cs => staleL S σ cs
  | .tup cs => staleL S σ cs
  | _ => True
def staleL (S : Nat → Bool) (σ : St) : List SV → Prop
  | [] => True
  | s :: ss => stale S σ s ∧ staleL S σ ss
end

def rootOK (S : Nat → Bool) (r : Root) : Prop := ∀ d, r = .slot d → S d = false

/-- two states that agree but for the slots of S -/
structure Sim (S : Nat → Bool) (σ σ' : St) : Prop where
  slotN : ∀ t, S t = false → σ'.slot t = σ.slot t
  box : σ'.box = σ.box
  arg : σ'.arg = σ.arg
  bver : σ'.bver = σ.bver
  ep : σ'.ep = σ.ep
  ver : ∀ r, rootOK S r → σ'.ver r = σ.ver r
  nver : ∀ r, rootOK S r → σ'.nver r = σ.nver r
  st : ∀ t, stale S σ (σ.slot t)
  bx : ∀ b cs, σ.box b = some cs → staleL S σ cs

/-- no slot of S becomes the root of a reference -/
def rootless (S : Nat → Bool) (σ : St) : Op → Prop
  | .move (.tmp t) => S t = false ∨ isOwn (σ.slot t) = false
  | .indexAddr _ (.tmp t) _ => S t = false ∨ isOwn (σ.slot t) = false
  | _ => True

section
variable {S : Nat → Bool} {σ σ' : St} {P : Program} {Γ : Env}

theorem Sim.content (h : Sim S σ σ') {r : Root} (hr : rootOK S r) : σ'.content r = σ.content r := by
  cases r with
  | slot d => simp only [St.content, h.slotN d (hr d rfl)]
  | cell b j => simp only [St.content, h.box]
  | arg i j => simp only [St.content, h.arg]

theorem ref_root {r : Root} {n off len : Nat} (hs : stale S σ (.ref r n off len)) (hv : n = σ.ver r) : rootOK S r := by
  rintro d rfl
  cases hd : S d with
  | false => rfl
  | true => simp only [stale] at hs; have := hs hd; omega
theorem pr_root {r : Root} {n i j : Nat} (hs : stale S σ (.pr r n i j)) (hv : n = σ.ver r) : rootOK S r := by
  rintro d rfl
  cases hd : S d with
  | false => rfl
  | true => simp only [stale] at hs; have := hs hd; omega
theorem nst_root {r : Root} {n i j e : Nat} {t : Tr} (hs : stale S σ (.nst r n i j e t)) (hv : n = σ.nver r) : rootOK S r := by
  rintro d rfl
  cases hd : S d with
  | false => rfl
  | true => simp only [stale] at hs; have := hs hd; omega

theorem stale_root {r : Root} {n off len : Nat} (hr : rootOK S r) : stale S σ (.ref r n off len) := by
  cases r with
  | slot d => simp only [stale]; intro h; rw [hr d rfl] at h; cases h
  | cell b j => trivial
  | arg i j => trivial
theorem stale_pr {r : Root} {n i j : Nat} (hr : rootOK S r) : stale S σ (.pr r n i j) := by
  cases r with
  | slot d => simp only [stale]; intro h; rw [hr d rfl] at h; cases h
  | cell b j => trivial
  | arg i j => trivial
theorem stale_nst {r : Root} {n i j e : Nat} {t : Tr} (hr : rootOK S r) : stale S σ (.nst r n i j e t) := by
  cases r with
  | slot d => simp only [stale]; intro h; rw [hr d rfl] at h; cases h
  | cell b j => trivial
  | arg i j => trivial

theorem stale_const {T : TypeId} {v : Value} : stale S σ (constSV P T v) := by
  unfold constSV
  repeat' split
  all_goals trivial

theorem Sim.val (h : Sim S σ σ') {T : TypeId} {x : Operand} (hx : ∀ t, x = .tmp t → σ'.slot t = σ.slot t) : σ'.val P T x = σ.val P T x := by
  cases x with
  | tmp t => exact hx t rfl
  | _ => rfl
theorem Sim.stv (h : Sim S σ σ') (T : TypeId) (x : Operand) : stale S σ (σ.val P T x) := by
  cases x with
  | tmp t => exact h.st t
  | const v => exact stale_const
  | _ => trivial

mutual
theorem Sim.lend (h : Sim S σ σ') : ∀ {s : SV} {y : Tr × Bool}, stale S σ s → σ.lend s = some y → σ'.lend s = some y
  | .tr none t, y, hs, hl => hl
  | .tr (some e) t, y, hs, hl => by simp only [St.lend, h.ep] at hl ⊢; exact hl
  | .nst r n i j e t, y, hs, hl => by simp only [St.lend, h.ep] at hl ⊢; exact hl
  | .ref r n off len, y, hs, hl => by
    simp only [St.lend] at hl ⊢
    split at hl
    · rename_i hv
      have hr := ref_root hs hv
      rw [h.ver r hr, if_pos hv, h.content hr]; exact hl
    · cases hl
  | .agg cs, y, hs, hl => by
    simp only [St.lend] at hl ⊢
    cases hc : σ.lendL cs with
    | none => rw [hc] at hl; simp at hl
    | some z =>
      rw [hc] at hl
      rw [Sim.lendL h (by simpa only [stale] using hs) hc]; exact hl
  | .pc _ _ _, y, hs, hl => by simp [St.lend] at hl
  | .pr _ _ _ _, y, hs, hl => by simp [St.lend] at hl
  | .pv _ _ _, y, hs, hl => by simp [St.lend] at hl
  | .tup _, y, hs, hl => by simp [St.lend] at hl
  | .dead, y, hs, hl => by simp [St.lend] at hl
theorem Sim.lendL (h : Sim S σ σ') : ∀ {ss : List SV} {y : List Tr × Bool}, staleL S σ ss → σ.lendL ss = some y → σ'.lendL ss = some y
  | [], y, hs, hl => by simp only [St.lendL] at hl ⊢; exact hl
  | s :: ss, y, hs, hl => by
    simp only [staleL] at hs
    simp only [St.lendL] at hl ⊢
    cases h1 : σ.lend s with
    | none => rw [h1] at hl; simp at hl
    | some a =>
      cases h2 : σ.lendL ss with
      | none => rw [h1, h2] at hl; simp at hl
      | some b =>
        rw [h1, h2] at hl
        rw [Sim.lend h hs.1 h1, Sim.lendL h hs.2 h2]; exact hl
end
end
end Go.Mv
