/-
  Laws of what the functions of the program compute: it proves no statement of the seat by itself; no conditions.
-/
import Derived.Test.YtdkjhbbddlognaaMvCod
namespace Go.Mv
set_option linter.unusedVariables false

def allB (p : Nat → Bool) (n : Nat) : Bool := (List.range n).all p
theorem allB_zero (p : Nat → Bool) : allB p 0 = true := rfl
theorem allB_step {p : Nat → Bool} {k : Nat} (h : allB p k = true) : allB p (k + 1) = p k := by
  simp only [allB, List.range_succ, List.all_append] at *
  simp only [h]; simp
theorem allB_false {p : Nat → Bool} {n k : Nat} (hk : k < n) (h : p k = false) : allB p n = false := by
  rw [Bool.eq_false_iff]
  intro ht
  simp only [allB, List.all_eq_true, List.mem_range] at ht
  rw [ht k hk] at h; cases h

/-- the last of an array begins behind its elder -/
def risingAt (x : List DEntry) (k : Nat) : Bool :=
  match x[k]? with
  | some u => !(decide (u.Began > u.Ended) || (decide (0 < k) && match x[k - 1]? with
    | some v => decide (u.Ended ≤ v.Ended)
    | none => false))
  | none => true
def beforeB (a b : DEntry) : Bool := decide (a.Ended ≤ b.Began) && decide (a.Ended < b.Ended)
def respAt (x : List DEntry) (i j : Nat) : Bool :=
  match x[i]?, x[j]? with
  | some u, some v => !beforeB u v
  | _, _ => true
def mwAt (x : List DEntry) (y : Int) (k : Nat) : Bool :=
  !decide ((k : Int) = y) && match x[k]?, x[y.toNat]? with
  | some u, some w => !beforeB u w && !beforeB w u
  | _, _ => false
def mw (x : List DEntry) (y : Int) : Nat := if 0 ≤ y ∧ y ≤ (x.length : Int) - 1 then (List.range x.length).countP (mwAt x y) else 0
theorem cR_le (p : Nat → Bool) (k : Nat) : (List.range k).countP p ≤ k := by
  have := List.countP_le_length (p := p) (l := List.range k)
  simpa using this
theorem cR_step (p : Nat → Bool) (k : Nat) : (List.range (k + 1)).countP p = (List.range k).countP p + if p k then 1 else 0 := by
  rw [List.range_succ, List.countP_append]; simp [List.countP_cons]
end Go.Mv
