/-
  A part of a theory of trees by which the functions of the program are walked: it proves no statement of the seat by itself; no conditions.
-/
import Derived.Test.YtdkjhbbddlognaaMvRow
namespace Go.Mv
set_option linter.unusedVariables false

def Env.none : Env := fun _ => Option.none
def Env.add (Γ : Env) (f : FuncId) (F : FnS) : Env := fun g => if g = f then some F else Γ g

section
variable {P : Program} {Γ : Env} {f : FuncId} {F : FnS}
theorem Good.none : Good P Env.none := { con := fun f F h => by simp [Env.none] at h, clean := fun f F h => by simp [Env.none] at h, body := fun f F h => by simp [Env.none] at h }
theorem Good.add (hg : Good P Γ) (hc : Contract P f F) (hcl : F.clean = true → Clean F) {fn : Func} (h1 : P.funcs[f]? = some fn) (h2 : (fn.name == "runtime.NumGoroutine") = false) (h3 : fn.body.isNone = false) : Good P (Γ.add f F) where
  con := fun g G h => by
    simp only [Env.add] at h
    split at h
    · rename_i e; cases h; rw [e]; exact hc
    · exact hg.con g G h
  clean := fun g G h => by
    simp only [Env.add] at h
    split at h
    · cases h; exact hcl
    · exact hg.clean g G h
  body := fun g G h => by
    simp only [Env.add] at h
    split at h
    · rename_i e; cases h; rw [e]; exact ⟨fn, h1, h2, h3⟩
    · exact hg.body g G h
theorem noDraw : DrawOK P Γ (fun _ _ _ => False) := fun _ _ _ _ _ _ _ _ _ _ _ _ _ _ _ h _ => h.elim
end
end Go.Mv
