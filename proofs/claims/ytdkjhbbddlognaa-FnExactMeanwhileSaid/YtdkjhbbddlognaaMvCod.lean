/-
  A part of a theory of trees by which the functions of the program are walked: it proves no statement of the seat by itself; no conditions.
-/
import Derived.Test.YtdkjhbbddlognaaMvData
namespace Go.Mv
set_option linter.unusedVariables false
set_option linter.unusedSimpArgs false

/-- how an argument reads -/
structure Cod (α : Type) where
  enc : α → Tr
  dec : Tr → Option α
  inv : ∀ t x, dec t = some x → t = enc x

def cI : Cod Int := ⟨fun x => .sc (.int .i64 x), fun | .sc (.int .i64 x) => some x | _ => none, fun t x h => by split at h <;> simp_all⟩
def cS : Cod ByteArray := ⟨fun x => .sc (.string x), fun | .sc (.string x) => some x | _ => none, fun t x h => by split at h <;> simp_all⟩
def cB : Cod Bool := ⟨fun x => .sc (.bool x), fun | .sc (.bool x) => some x | _ => none, fun t x h => by split at h <;> simp_all⟩
def cT {α : Type} (e : α → List Tr) (d : List Tr → Option α) (h : ∀ t x, d t = some x → t = e x) : Cod α :=
  ⟨fun x => .agg (e x), fun | .agg t => d t | _ => none, fun t x hd => by
    split at hd
    · rw [h _ _ hd]
    · cases hd⟩
def cL {α : Type} (o : Bool) (sz : Nat) (e : α → List Tr) (d : List Tr → Option α) (h : ∀ t x, d t = some x → t = e x) : Cod (List α) :=
  ⟨fun x => .sl o sz (x.map e), fun | .sl o' sz' t => if o' = o ∧ sz' = sz then decL d t else none | _ => none, fun t x hd => by
    split at hd
    · split at hd
      · rename_i hh
        rw [hh.1, hh.2, decL_inv h hd]
      · cases hd
    · cases hd⟩
def cF (f : FuncId) : Cod Unit := ⟨fun _ => .fn f [], fun | .fn g [] => if g = f then some () else none | _ => none, fun t x h => by split at h <;> simp_all⟩

def fn1 {α : Type} (ms : List Mode) (c1 : Cod α) (f : α → Option (List Tr × List Tr)) : FnS :=
  ⟨ms, true, fun us => match us with | [a] => (c1.dec a).bind f | _ => none⟩
def fn2 {α β : Type} (ms : List Mode) (c1 : Cod α) (c2 : Cod β) (f : α → β → Option (List Tr × List Tr)) : FnS :=
  ⟨ms, true, fun us => match us with | [a, b] => (c1.dec a).bind fun x => (c2.dec b).bind (f x) | _ => none⟩
def fn3 {α β γ : Type} (ms : List Mode) (c1 : Cod α) (c2 : Cod β) (c3 : Cod γ) (f : α → β → γ → Option (List Tr × List Tr)) : FnS :=
  ⟨ms, true, fun us => match us with | [a, b, c] => (c1.dec a).bind fun x => (c2.dec b).bind fun y => (c3.dec c).bind (f x y) | _ => none⟩

theorem fn1_inv {α : Type} {ms : List Mode} {c1 : Cod α} {f : α → Option (List Tr × List Tr)} {us : List Tr} {p : List Tr × List Tr} (h : (fn1 ms c1 f).sem us = some p) : ∃ x, us = [c1.enc x] ∧ f x = some p := by
  simp only [fn1] at h
  split at h
  · obtain ⟨x, h1, h2⟩ := Option.bind_eq_some_iff.1 h
    exact ⟨x, by rw [c1.inv _ _ h1], h2⟩
  · cases h
theorem fn2_inv {α β : Type} {ms : List Mode} {c1 : Cod α} {c2 : Cod β} {f : α → β → Option (List Tr × List Tr)} {us : List Tr} {p : List Tr × List Tr} (h : (fn2 ms c1 c2 f).sem us = some p) :
    ∃ x y, us = [c1.enc x, c2.enc y] ∧ f x y = some p := by
  simp only [fn2] at h
  split at h
  · obtain ⟨x, h1, h2⟩ := Option.bind_eq_some_iff.1 h
    obtain ⟨y, h3, h4⟩ := Option.bind_eq_some_iff.1 h2
    exact ⟨x, y, by rw [c1.inv _ _ h1, c2.inv _ _ h3], h4⟩
  · cases h
theorem fn3_inv {α β γ : Type} {ms : List Mode} {c1 : Cod α} {c2 : Cod β} {c3 : Cod γ} {f : α → β → γ → Option (List Tr × List Tr)} {us : List Tr} {p : List Tr × List Tr} (h : (fn3 ms c1 c2 c3 f).sem us = some p) :
    ∃ x y z, us = [c1.enc x, c2.enc y, c3.enc z] ∧ f x y z = some p := by
  simp only [fn3] at h
  split at h
  · obtain ⟨x, h1, h2⟩ := Option.bind_eq_some_iff.1 h
    obtain ⟨y, h3, h4⟩ := Option.bind_eq_some_iff.1 h2
    obtain ⟨z, h5, h6⟩ := Option.bind_eq_some_iff.1 h4
    exact ⟨x, y, z, by rw [c1.inv _ _ h1, c2.inv _ _ h3, c3.inv _ _ h5], h6⟩
  · cases h

/-- what is known of f, from its code's walk over what reads as us -/
theorem contract_fn {P : Program} {Γ : Env} {D} (hg : Good P Γ) (hD : DrawOK P Γ D) {f : FuncId} {fn : Func} {c : Code} {F : FnS} (hf : P.funcs[f]? = some fn) (hb : fn.body = some c) (hokc : okCode fn.ntmps c = true) (hokr : okRes fn.ntmps fn.results.toList = true)
    (hm : F.modes.all (fun m => m = .b || m = .c) = true) (hn : F.modes.length ≤ fn.ntmps)
    (H : ∀ us p, F.sem us = some p → p.2 = [] ∧ WT P Γ D c (fun e σ => (e = .ret ∨ e = .normal) ∧ (resG P fn.results.toList σ).map (·.1) = some p.1) (St.init us)) : Contract P f F :=
  contract_of_WT hg hD hf hb hokc hokr hm hn fun us res outs h => H us (res, outs) h

theorem strEq (x y : ByteArray) : (x.toList == y.toList) = decide (x = y) := by
  rw [ByteArray.toList_eq, ByteArray.toList_eq]
  by_cases h : x = y
  · subst h; simp
  · have : x.data.toList ≠ y.data.toList := fun e => h (by cases x; cases y; simp at e; simp [e])
    rw [decide_eq_false h]; exact beq_eq_false_iff_ne.2 this
theorem i64_wrap {n : Int} (h1 : -9223372036854775808 ≤ n) (h2 : n ≤ 9223372036854775807) : IntKind.i64.wrap n = n := wrap64_id h1 (by omega)
theorem get_some {α : Type} {l : List α} {k : Nat} (h : k < l.length) : ∃ x, l[k]? = some x := ⟨_, List.getElem?_eq_getElem h⟩
end Go.Mv
