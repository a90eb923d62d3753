/-
  A part of a theory of trees by which the functions of the program are walked: it proves no statement of the seat by itself; no conditions.
-/
import Derived.Test.YtdkjhbbddlognaaMvCalm3
namespace Go.Mv
set_option linter.unusedVariables false
set_option linter.unusedSimpArgs false
section
variable {B : Bool} {P : Program} {w : World}

def eqV : List K3 → List Value → List Value → Option (List Bool)
  | [], [], [] => some []
  | k :: ks, x :: xs, y :: ys => match eqCell k x y, eqV ks xs ys with
    | some b, some l => some (b :: l)
    | _, _ => none
  | _, _, _ => none

theorem eqV_len : ∀ {ks xs ys es}, eqV ks xs ys = some es → xs.length = ks.length ∧ ys.length = ks.length
  | [], [], [], es, h => by simp
  | [], x :: xs, ys, es, h => by simp [eqV] at h
  | [], [], y :: ys, es, h => by simp [eqV] at h
  | k :: ks, [], ys, es, h => by simp [eqV] at h
  | k :: ks, x :: xs, [], es, h => by simp [eqV] at h
  | k :: ks, x :: xs, y :: ys, es, h => by
    simp only [eqV] at h
    split at h
    · rename_i b l h1 h2
      have := eqV_len h2
      simp; omega
    · cases h

theorem eqV_app : ∀ {k1 k2 xs ys es}, eqV (k1 ++ k2) xs ys = some es → ∃ e1 e2, es = e1 ++ e2 ∧ eqV k1 (xs.take k1.length) (ys.take k1.length) = some e1 ∧ eqV k2 (xs.drop k1.length) (ys.drop k1.length) = some e2
  | [], k2, xs, ys, es, h => ⟨[], es, rfl, by simp [eqV], by simpa using h⟩
  | k :: k1, k2, [], ys, es, h => by simp [eqV] at h
  | k :: k1, k2, x :: xs, [], es, h => by simp [eqV] at h
  | k :: k1, k2, x :: xs, y :: ys, es, h => by
    simp only [List.cons_append, eqV] at h
    split at h
    · rename_i b l h1 h2
      cases h
      obtain ⟨e1, e2, rfl, h3, h4⟩ := eqV_app h2
      exact ⟨b :: e1, e2, rfl, by simp [eqV, h1, h3], by simpa using h4⟩
    · cases h

/-- a value of a type out of its cells -/
def valOf (P : Program) (T : TypeId) (xs : List Value) : Value := if isAggT P T then .agg xs.toArray else xs.headD undef

theorem run_part' {T : TypeId} {xs : Array Value} {off : Nat} (hu : (P.underlying T).isSome = true) (hl : off + P.cellsOf T ≤ xs.size) (h1 : isAggT P T = false → P.cellsOf T = 1) :
    (part T xs off).run P w = .ok (valOf P T ((xs.toList.drop off).take (P.cellsOf T))) w := by
  cases hg : isAggT P T with
  | true =>
    have he : xs.extract off (off + P.cellsOf T) = (List.take (P.cellsOf T) (List.drop off xs.toList)).toArray := by
      apply Array.ext'; simp [List.extract_eq_take_drop]
    simp [part, run_isAgg' hu, hg, run_sizeOf' hu, valOf, he]
  | false =>
    have := h1 hg
    have hlt : off < xs.size := by omega
    have hlt' : off < xs.toList.length := by simpa using hlt
    simp [part, run_isAgg' hu, hg, valOf, this, hlt]
    rw [List.drop_eq_getElem_cons hlt']
    simp

theorem eqTags_one {n T ks} (h : eqTags P n T = some ks) : (P.underlying T).isSome = true ∧ (isAggT P T = false → P.cellsOf T = 1) ∧ ks.length = P.cellsOf T := by
  cases n with
  | zero => simp [eqTags] at h
  | succ n =>
    simp only [eqTags] at h
    split at h
    · rename_i hu; split at h <;> simp at h; subst h; rename_i h1; simp [hu, h1]
    · rename_i hu; split at h <;> simp at h; subst h; rename_i h1; simp [hu, h1]
    · rename_i hu; split at h <;> simp at h; subst h; rename_i h1; simp [hu, h1]
    · rename_i fs hu
      split at h
      · cases h
      · split at h
        · split at h
          · simp at h; subst h; rename_i h2; simp [hu, isAggT, h2]
          · cases h
        · cases h
    · cases h

theorem eqFields_spec (n : Nat) (ih : ∀ T ks, eqTags P n T = some ks → ∀ xs ys es, eqV ks xs ys = some es → ∀ d, n ≤ d → (Op.equalIn d T (valOf P T xs) (valOf P T ys)).run P w = .ok (es.all id) w) (xs ys : Array Value) :
    ∀ (fs : List Field) (o : Nat) (ks : List K3), eqTagsF (eqTags P n) P fs o = some ks → ∀ es, eqV ks (xs.toList.drop o) (ys.toList.drop o) = some es →
      ∀ d, n ≤ d → (Op.eqFields d xs ys fs).run P w = .ok (es.all id) w
  | [], o, ks, h, es, he, d, hd => by
    simp [eqTagsF] at h; subst h
    have := eqV_len he
    cases hx : xs.toList.drop o <;> cases hy : ys.toList.drop o <;> simp [hx, hy, eqV] at he
    subst he; simp [Op.eqFields]
  | f :: fs, o, ks, h, es, he, d, hd => by
    simp only [eqTagsF] at h
    split at h
    · rename_i hf
      split at h
      · rename_i k1 k2 h1 h2
        simp at h; subst h
        obtain ⟨hu, hone, hlen⟩ := eqTags_one h1
        obtain ⟨e1, e2, rfl, h3, h4⟩ := eqV_app he
        have hl := eqV_len h3
        simp only [List.length_take, List.length_drop, Array.length_toList] at hl
        obtain ⟨hn, rfl, hne⟩ := hf
        have hx : f.offset + P.cellsOf f.type ≤ xs.size := by omega
        have hy : f.offset + P.cellsOf f.type ≤ ys.size := by omega
        have r1 := run_part' (P := P) (w := w) hu hx hone
        have r2 := run_part' (P := P) (w := w) hu hy hone
        rw [← hlen] at r1 r2
        have r3 := ih f.type k1 h1 _ _ _ h3 d hd
        rw [List.drop_drop, List.drop_drop, hlen] at h4
        have r4 := eqFields_spec n ih xs ys fs _ _ h2 _ h4 d hd
        simp only [Op.eqFields, if_pos hn, Sem.run_bind, r1, r2, r3, Result.andThen_ok]
        cases hb : e1.all id with
        | true => simp [r4, hb]
        | false => simp [hb]
      · cases h
    · cases h

theorem equalIn_spec : ∀ (n : Nat) (T : TypeId) (ks : List K3), eqTags P n T = some ks → ∀ xs ys es, eqV ks xs ys = some es → ∀ d, n ≤ d → (Op.equalIn d T (valOf P T xs) (valOf P T ys)).run P w = .ok (es.all id) w
  | 0, T, ks, h => by simp [eqTags] at h
  | n + 1, T, ks, h => by
    intro xs ys es he d hd
    obtain ⟨d, rfl⟩ : ∃ m, d = m + 1 := ⟨d - 1, by omega⟩
    have hl := eqV_len he
    simp only [eqTags] at h
    split at h
    · rename_i k hu
      split at h <;> simp at h; subst h
      match xs, ys, hl with
      | [x], [y], _ =>
        cases x <;> cases y <;> simp [eqV, eqCell] at he
        rename_i ka p kb q _
        by_cases hk : k = ka ∧ k = kb
        · rw [if_pos hk] at he
          simp at he
          obtain ⟨rfl, rfl⟩ := hk
          subst he
          simp [valOf, isAggT, hu, Op.equalIn, run_underlying hu]
        · rw [if_neg hk] at he; simp at he
    · rename_i hu
      split at h <;> simp at h; subst h
      match xs, ys, hl with
      | [x], [y], _ =>
        cases x <;> cases y <;> simp [eqV, eqCell] at he
        subst he
        simp [valOf, isAggT, hu, run_equalIn_string (P := P) w d T _ _ hu]
    · rename_i hu
      split at h <;> simp at h; subst h
      match xs, ys, hl with
      | [x], [y], _ =>
        cases x <;> cases y <;> simp [eqV, eqCell] at he
        subst he
        simp [valOf, isAggT, hu, Op.equalIn, run_underlying hu]
    · rename_i fs hu
      split at h
      · cases h
      · rename_i hst
        split at h
        · rename_i ks' hk
          split at h
          · simp at h; subst h
            have hf : P.fieldsOf T = fs := by simp [Program.fieldsOf, hu]
            have hg : isAggT P T = true := by simp [isAggT, hu]
            simp only [valOf, hg, if_true]
            rw [run_equalIn_struct (P := P) w d T _ _ (by rw [hf]; exact hu) (by simpa using hst), hf]
            exact eqFields_spec n (fun T ks h => equalIn_spec n T ks h) xs.toArray ys.toArray fs.toList 0 ks' hk es (by simpa using he) d (by omega)
          · cases h
        · cases h
    · cases h
end
end Go.Mv
