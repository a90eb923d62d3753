/-
  A part of a theory of trees by which the functions of the program are walked: it proves no statement of the seat by itself; no conditions.
-/
import Derived.Test.YtdkjhbbddlognaaMvCallG
namespace Go.Mv
set_option linter.unusedVariables false
set_option linter.unusedSimpArgs false

/-- what of a call's arguments is given away -/
def takeC (P : Program) : List (Mode × Operand × TypeId) → St → Option (List (Option Tr) × St)
  | [], σ => some ([], σ)
  | (m, x, T) :: rest, σ => match takeC P rest σ with
    | none => none
    | some (ots, σ1) => match m with
      | .b => some (none :: ots, σ1)
      | .c => match (σ1.eat x).give (σ1.val P T x) with
        | some (t, σ2) => some (some t :: ots, σ2)
        | none => none
      | _ => none

/-- what of them is lent -/
def lendB (P : Program) (σ : St) : List (Mode × Operand × TypeId) → List (Option Tr) → Option (List Tr × Bool)
  | [], [] => some ([], false)
  | (m, x, T) :: xs, some t :: ts => (lendB P σ xs ts).map fun z => (t :: z.1, z.2)
  | (m, x, T) :: xs, none :: ts => match σ.lend (σ.val P T x), lendB P σ xs ts with
    | some (t, b), some (us, b') => some (t :: us, b || b')
    | _, _ => none
  | _, _ => none

/-- a call to which some arguments are given, the others lent -/
def wcallC (P : Program) (Γ : Env) (f : FuncId) (dst : Option Nat) (args : List (Operand × TypeId)) (σ : St) (K : St → Prop) : Prop :=
  match Γ f with
  | none => False
  | some F => F.modes.length = args.length ∧ match takeC P (F.modes.zip args) σ with
    | none => False
    | some (ots, σ1) => match lendB P σ1.bump (F.modes.zip args) ots with
      | none => False
      | some (us, lent) => (F.clean = true ∨ lent = false) ∧ ∃ res, F.sem us = some (res, []) ∧ K (σ1.bump.putO dst (resSV res))

def givenL (a : Act) : List (Mode × Operand × TypeId) → List (Option Tr) → List (SV × Value)
  | (_, x, _) :: xs, some t :: ts => (.tr none t, a.eval x) :: givenL a xs ts
  | _ :: xs, none :: ts => givenL a xs ts
  | _, _ => []

section
variable {w0 : World} {FA ok0 : Cells} {E : Ent} {N : Nat} {σ : St} {a : Act} {w : World} {L : Lay}
variable {P : Program} {Q : Exit → Act → World → Prop} {Kr : Act → World → Prop} {o : Oper} {Γ : Env}

theorem takeC_ok : ∀ {args : List (Mode × Operand × TypeId)} {σ : St} {L : Lay} {l : List (SV × Value)} {ots : List (Option Tr)} {σ' : St}, (∀ m x T, (m, x, T) ∈ args → ∀ t, x = .tmp t → t < N) →
    Rel w0 FA ok0 E N σ a w L → Hand w0 FA σ w L l → takeC P args σ = some (ots, σ') →
    ∃ L', Rel w0 FA ok0 E N σ' a w L' ∧ Hand w0 FA σ' w L' (givenL a args ots ++ l)
  | [], σ, L, l, ots, σ', hN, h, hh, ht => by
    simp only [takeC, Option.some.injEq, Prod.mk.injEq] at ht
    obtain ⟨rfl, rfl⟩ := ht
    exact ⟨L, h, hh⟩
  | (m, x, T) :: rest, σ, L, l, ots, σ', hN, h, hh, ht => by
    simp only [takeC] at ht
    split at ht
    · cases ht
    · rename_i ots1 σ1 h1
      obtain ⟨L1, r1, r2⟩ := takeC_ok (fun m x T hm => hN m x T (by simp [hm])) h hh h1
      split at ht
      · cases ht
        exact ⟨L1, r1, by simpa [givenL] using r2⟩
      · split at ht
        · rename_i t σ2 h2
          cases ht
          obtain ⟨L2, r3, r4⟩ := r1.eatH (P := P) (T := T) (x := x) (hN .c x T (by simp)) r2
          obtain ⟨L3, r5, r6⟩ := r3.giveH r4 (k := 0) rfl h2
          exact ⟨L3, r5, by simpa [givenL] using r6⟩
        · cases ht
      · cases ht

theorem HandG.tail {x : SV × Value} {l : List (SV × Value)} {G : Nat → Cells} (h : HandG w0 FA σ w L (x :: l) G) : HandG w0 FA σ w L l (fun k => G (k + 1)) where
  rel := fun k s v hk => h.rel (k + 1) s v (by simpa using hk)
  snap := fun k s v hk => h.snap (k + 1) s v (by simpa using hk)
  sep := fun i j hij => h.sep _ _ (by omega)
  ap := fun k i => h.ap _ i
  okap := fun k => h.okap _
  live := fun k => h.live _

/-- the arguments, as the call takes them -/
theorem argsR_ok (h : Rel w0 FA ok0 E N σ a w L) {l : List (SV × Value)} {okc : Cells} (hok : Sub L.ok okc) : ∀ {args : List (Mode × Operand × TypeId)} {ots : List (Option Tr)} {us : List Tr} {lent : Bool} {G : Nat → Cells},
    HandG w0 FA σ w L (givenL a args ots ++ l) G → lendB P σ args ots = some (us, lent) → (lent = true → Sub L.all okc) → (∀ m x T, (m, x, T) ∈ args → m = .b ∨ m = .c) →
    (∀ (k : Nat) m x T, args[k]? = some (m, x, T) → (m = .b ↔ ots[k]? = some none)) →
    ∃ F, ArgsR w okc (args.map (·.1)) (args.map fun p => a.eval p.2.1) us F ∧ (∀ b o, F b o → ∃ k, G k b o)
  | [], [], us, lent, G, hG, hl, hle, hm, hk => by
    simp only [lendB, Option.some.injEq, Prod.mk.injEq] at hl
    obtain ⟨rfl, rfl⟩ := hl
    exact ⟨Cells.none, .nil, fun _ _ h => h.elim⟩
  | [], _ :: _, us, lent, G, hG, hl, hle, hm, hk => by simp [lendB] at hl
  | (m, x, T) :: args, [], us, lent, G, hG, hl, hle, hm, hk => by simp [lendB] at hl
  | (m, x, T) :: args, some t :: ots, us, lent, G, hG, hl, hle, hm, hk => by
    simp only [lendB] at hl
    cases hr : lendB P σ args ots with
    | none => rw [hr] at hl; simp at hl
    | some z =>
      obtain ⟨us', lent'⟩ := z
      rw [hr] at hl; simp at hl
      obtain ⟨rfl, rfl⟩ := hl
      simp only [givenL, List.cons_append] at hG
      obtain ⟨F, f1, f2⟩ := argsR_ok h hok hG.tail hr hle (fun m x T hm' => hm m x T (by simp [hm'])) (fun k m x T hk' => by have := hk (k + 1) m x T (by simpa using hk'); simpa using this)
      have hmc : m = .c := by
        rcases hm m x T (by simp) with h1 | h1
        · have := (hk 0 m x T rfl).1 h1; simp at this
        · exact h1
      subst hmc
      have hd : Rd w L.ok (a.eval x) t (G 0) := by
        have := hG.rel 0 _ _ rfl
        cases this with | tr hd => exact hd
      refine ⟨Or (G 0) F, .cons (F1 := G 0) (F2 := F) (Sub.or_l _ _) (Sub.or_r _ _) ?_ (.c (hd.okmono hok)) f1, ?_⟩
      · intro b o hx hy
        obtain ⟨k, hk'⟩ := f2 b o hy
        exact hG.sep 0 (k + 1) (by omega) b o hx hk'
      · rintro b o (hx | hx)
        · exact ⟨0, hx⟩
        · obtain ⟨k, hk'⟩ := f2 b o hx; exact ⟨k + 1, hk'⟩
  | (m, x, T) :: args, none :: ots, us, lent, G, hG, hl, hle, hm, hk => by
    simp only [lendB] at hl
    split at hl
    · rename_i t b us' b' h1 h2
      simp only [Option.some.injEq, Prod.mk.injEq] at hl
      obtain ⟨rfl, rfl⟩ := hl
      simp only [givenL] at hG
      obtain ⟨F, f1, f2⟩ := argsR_ok h hok hG h2 (fun e => hle (by simp [e])) (fun m x T hm' => hm m x T (by simp [hm'])) (fun k m x T hk' => by have := hk (k + 1) m x T (by simpa using hk'); simpa using this)
      have hmb : m = .b := (hk 0 m x T rfl).2 rfl
      subst hmb
      have hd := lendV_rel h h1
      refine ⟨F, .cons (F1 := Cells.none) (F2 := F) (Sub.none _) (Sub.refl _) (Apart.none_l _) (.b (hd.okmono ?_)) f1, f2⟩
      cases b with
      | true => exact hle (by simp)
      | false => exact hok
    · cases hl

theorem takeC_modes : ∀ {args : List (Mode × Operand × TypeId)} {σ : St} {ots : List (Option Tr)} {σ' : St}, takeC P args σ = some (ots, σ') →
    (∀ m x T, (m, x, T) ∈ args → m = .b ∨ m = .c) ∧ (∀ (k : Nat) m x T, args[k]? = some (m, x, T) → (m = .b ↔ ots[k]? = some none)) ∧ ots.length = args.length
  | [], σ, ots, σ', ht => by
    simp only [takeC, Option.some.injEq, Prod.mk.injEq] at ht
    obtain ⟨rfl, rfl⟩ := ht
    simp
  | (m, x, T) :: rest, σ, ots, σ', ht => by
    simp only [takeC] at ht
    split at ht
    · cases ht
    · rename_i ots1 σ1 h1
      obtain ⟨q1, q2, q3⟩ := takeC_modes h1
      split at ht
      · cases ht
        refine ⟨?_, ?_, by simp [q3]⟩
        · intro m' x' T' hm
          rcases List.mem_cons.1 hm with e | hm
          · cases e; exact .inl rfl
          · exact q1 m' x' T' hm
        · intro k m' x' T' hk
          cases k with
          | zero => simp at hk; obtain ⟨rfl, rfl, rfl⟩ := hk; simp
          | succ k => simp at hk ⊢; exact q2 k m' x' T' hk
      · split at ht
        · rename_i t σ2 h2
          cases ht
          refine ⟨?_, ?_, by simp [q3]⟩
          · intro m' x' T' hm
            rcases List.mem_cons.1 hm with e | hm
            · cases e; exact .inr rfl
            · exact q1 m' x' T' hm
          · intro k m' x' T' hk
            cases k with
            | zero => simp at hk; obtain ⟨rfl, rfl, rfl⟩ := hk; simp
            | succ k => simp at hk ⊢; exact q2 k m' x' T' hk
        · cases ht
      · cases ht

theorem zip_map1 {α β : Type} : ∀ {l : List α} {m : List β}, l.length = m.length → (l.zip m).map (·.1) = l
  | [], [], _ => rfl
  | [], _ :: _, h => by simp at h
  | _ :: _, [], h => by simp at h
  | a :: l, b :: m, h => by simp at h; simp [zip_map1 h]
theorem zip_map2 {α β γ : Type} (g : β → γ) : ∀ {l : List α} {m : List β}, l.length = m.length → (l.zip m).map (fun p => g p.2) = m.map g
  | [], [], _ => rfl
  | [], _ :: _, h => by simp at h
  | _ :: _, [], h => by simp at h
  | a :: l, b :: m, h => by simp at h; simp [zip_map2 g h]

theorem wcallC_wp (h : Rel w0 FA ok0 E N σ a w L) (hg : Good P Γ) {f : FuncId} {args : Array Operand} {ts : Array TypeId} (ho : o.op = .call { callee := .value (.func f), args := args, argTypes := ts })
    {xs : List (Operand × TypeId)} (hxs : xs.map (·.1) = args.toList) (hN : ∀ x T, (x, T) ∈ xs → ∀ t, x = .tmp t → t < N) (hd : ∀ e, o.dst = some e → e < N) {K : St → Prop} (hc : wcallC P Γ f o.dst xs σ K)
    (hk : ∀ σ' a' w' L', K σ' → Rel w0 FA ok0 E N σ' a' w' L' → Kr a' w') : o.wp P a w Kr Q := by
  unfold wcallC at hc
  split at hc
  · exact hc.elim
  · rename_i F hF
    obtain ⟨hlen, hc⟩ := hc
    split at hc
    · exact hc.elim
    · rename_i ots σ1 ht
      split at hc
      · exact hc.elim
      · rename_i us lent hl
        obtain ⟨hcl, res, hs, hK⟩ := hc
        obtain ⟨fn, b1, b2, b3⟩ := hg.body f F hF
        obtain ⟨L1, r1, r2⟩ := takeC_ok (l := []) (fun m x T hm t e => hN x T (List.of_mem_zip hm).2 t e) h Hand.nil ht
        rw [List.append_nil] at r2
        obtain ⟨G, hG⟩ := r2
        have rb := r1.bump
        have hGb := hG.bump
        obtain ⟨q1, q2, q3⟩ := takeC_modes ht
        obtain ⟨FC, f1, f2⟩ := argsR_ok (l := []) (okc := if lent then Lay.all { L1 with sn := Cells.none } else L1.ok) rb (by cases lent <;> simp <;> first | exact Sub.refl _ | exact (fun b o hx => Or.inl hx)) (by rw [List.append_nil]; exact hGb) hl
          (by intro e; subst e; exact Sub.refl _) q1 q2
        rw [zip_map1 hlen] at f1
        have hvals : (F.modes.zip xs).map (fun p => a.eval p.2.1) = args.toList.map a.eval := by
          rw [zip_map2 (fun p : Operand × TypeId => a.eval p.1) hlen, ← hxs, List.map_map]; rfl
        rw [hvals] at f1
        have hap : ∀ i, Apart FC (Lay.at { L1 with sn := Cells.none } i) := fun i b o hx hy => by
          obtain ⟨k, hk'⟩ := f2 b o hx
          exact hGb.ap k i b o hk' hy
        have hcall := callG rb (fun b o hx => hx) (hg.con f F hF) (hg.clean f F hF) f1 hcl hs (fun b o hx => by
            obtain ⟨k, hk'⟩ := f2 b o hx
            exact hGb.live k b o hk') (fun i _ => hap i) (fun b o hx hy => by
            obtain ⟨k, hk'⟩ := f2 b o hy
            exact hGb.okap k b o hx hk') (fun _ _ _ _ b o i hx hy => (hap i b o hx hy).elim)
        refine wp_enter (run_call_f ho b1 b2 b3) (hcall.mono ?_)
        rintro e w' ⟨v, L', G1, G2, rfl, k1, k2, k3, k4, k5, k6, k7, k8, k9, k10, k11, k12⟩
        refine ⟨v, rfl, ?_⟩
        have hh : Hand w0 FA σ1.bump w' L' [(resSV res, v)] := by
          refine ⟨fun k => match k with | 0 => G1 | _ + 1 => Cells.none, ?_⟩
          exact
          { rel := fun k s u hk' => by
              cases k with
              | zero => simp at hk'; obtain ⟨rfl, rfl⟩ := hk'; exact resSV_rel k7
              | succ k => simp at hk'
            snap := fun k s u hk' b o hx => (k4 b o hx).elim
            sep := fun i j hij => by
              cases i with
              | zero => cases j with
                | zero => exact absurd rfl hij
                | succ j => exact Apart.none_r _
              | succ i => exact Apart.none_l _
            ap := fun k i => by
              cases k with
              | zero =>
                intro b o hx hy
                rw [k6] at hy
                rcases (k10 b o (.inl hx)).1 with h1 | h1
                · exact hap i b o h1 hy
                · have := (rb.live i b o hy).1; omega
              | succ k => exact Apart.none_l _
            okap := fun k => by
              cases k with
              | zero => exact k11
              | succ k => exact Apart.none_r _
            live := fun k b o hx => by
              cases k with
              | zero =>
                refine ⟨(k10 b o (.inl hx)).2, ?_⟩
                rcases (k10 b o (.inl hx)).1 with h1 | h1
                · obtain ⟨k, hk'⟩ := f2 b o h1
                  exact (hGb.live k b o hk').2
                · exact .inr (Nat.le_trans rb.keeps.1 h1)
              | succ k => exact hx.elim }
        obtain ⟨L2, r3⟩ := k2.putOH hd hh
        exact hk _ _ _ _ hK r3
end
end Go.Mv
