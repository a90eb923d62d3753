/-
  A part of a theory of trees by which the functions of the program are walked: it proves no statement of the seat by itself; no conditions.
-/
import Derived.Test.YtdkjhbbddlognaaMvCalm2
namespace Go.Mv
set_option linter.unusedVariables false
set_option linter.unusedSimpArgs false
section
variable {w0 : World} {FA ok0 : Cells} {E : Ent} {N : Nat} {σ : St} {a : Act} {w : World} {L : Lay}
variable {B : Bool} {P : Program} {Q : Exit → Act → World → Prop} {Kr : Act → World → Prop} {o : Oper}

theorem SRelL.dropTake {ss vs F} (h : SRelL σ w L ss vs F) : ∀ (j n : Nat), SRelL σ w L ((ss.drop j).take n) ((vs.drop j).take n) F := by
  induction ss generalizing vs F with
  | nil => intro j n; cases h; simp; exact .nil
  | cons s ss ih =>
    cases h with
    | cons h1 h2 h3 h4 h5 =>
      intro j n
      cases j with
      | zero =>
        cases n with
        | zero => simp; exact .nil
        | succ n =>
          have := ih h5 0 n
          simp only [List.drop_zero, List.take_succ_cons] at this ⊢
          exact .cons h1 h2 h3 h4 this
      | succ j => simp only [List.drop_succ_cons]; exact (ih h5 j n).mono h2

theorem calm_field (h : Rel w0 FA ok0 E N σ a w L) {T : TypeId} {x : Operand} {f : Nat} {T0 : TypeId} {Γ : Env} (ho : o.op = .field T x f) {K : SV → Prop} (hc : wcalm P Γ B (.field T x f) T0 σ K) : Gives P σ a w L o K := by
  simp only [wcalm] at hc
  have hv := h.val P T x
  split at hc
  · rename_i fo ft cs hf hs
    obtain ⟨hu', hl, hw, hc⟩ := hc
    rw [hs] at hv
    cases he : a.eval x with
    | agg vs0 =>
      rw [he] at hv
      have hv := hv.free (by simpa [owning] using hw) Cells.none
      have hv' : ∃ vs, vs0 = vs.toArray ∧ SRelL σ w L cs vs Cells.none := by cases hv with | agg h => exact ⟨_, rfl, h⟩
      obtain ⟨vs, rfl, hr⟩ := hv'
      obtain ⟨fs, y, hu, hy, h1, h2, h3⟩ := fieldOff_spec hf
      have hlen := hr.length
      split at hc
      · rename_i hg
        refine gives_pure (v := .agg ((vs.drop fo).take (P.cellsOf ft)).toArray) hc ?_ (.agg (hr.dropTake _ _))
        subst h2; subst h1
        simp [execOp, ho, he, Instr.field, run_underlying hu, hy, asAgg, part, run_isAgg' hu', hg, run_sizeOf' hu']
      · rename_i hg
        obtain ⟨s, hs1, hk⟩ := hc
        have hfo : fo < vs.length := by have := (List.getElem?_eq_some_iff.1 hs1).1; omega
        refine gives_pure (v := vs[fo]) hk ?_ (hr.get fo s _ hs1 (List.getElem?_eq_getElem hfo))
        subst h2; subst h1
        simp only [Bool.not_eq_true] at hg
        simp [execOp, ho, he, Instr.field, run_underlying hu, hy, asAgg, part, run_isAgg' hu', hg, hfo]
    | _ => rw [he] at hv; cases hv
  · exact hc.elim

theorem wbound_run (h : Rel w0 FA ok0 E N σ a w L) {x : Option Operand} {d : Int} {k : IntKind} {n : Int} (hb : wbound P σ x d = some (k, n)) :
    (∃ y, x = some y ∧ a.eval y = .int k n) ∨ (x = none ∧ n = d) := by
  unfold wbound at hb
  split at hb
  · rename_i y
    exact .inl ⟨y, rfl, wnum_val h hb⟩
  · simp at hb; exact .inr ⟨rfl, hb.2.symm⟩

theorem run_sliceBound {k : IntKind} {n : Int} {y : Nat} {c : BoundsCode} (h0 : 0 ≤ n) (h1 : n ≤ y) : (Instr.sliceBound (.int k n) y c).run P w = .ok n.toNat w := by
  simp [Instr.sliceBound, asIntOf, h0, h1]

theorem run_bounds (h : Rel w0 FA ok0 E N σ a w L) {isS : Bool} {len cap : Nat} {lo hi mx : Option Operand} {k1 k2 k3 : IntKind} {l b m : Int}
    (hl : wbound P σ lo 0 = some (k1, l)) (hh : wbound P σ hi len = some (k2, b)) (hm : wbound P σ mx cap = some (k3, m))
    (hx : mx.isSome = true → hi.isSome = true) (h0 : 0 ≤ l) (h1 : l ≤ b) (h2 : b ≤ m) (h3 : m ≤ cap) :
    (Instr.sliceBounds isS len cap (lo.map a.eval) (hi.map a.eval) (mx.map a.eval)).run P w = .ok (l.toNat, b.toNat, m.toNat) w := by
  have hb0 : 0 ≤ b := by omega
  have hm0 : 0 ≤ m := by omega
  have hbm : b ≤ (m.toNat : Int) := by omega
  have hlb : l ≤ (b.toNat : Int) := by omega
  rcases wbound_run h hl with ⟨y1, rfl, e1⟩ | ⟨rfl, rfl⟩ <;> rcases wbound_run h hh with ⟨y2, rfl, e2⟩ | ⟨rfl, rfl⟩ <;> rcases wbound_run h hm with ⟨y3, rfl, e3⟩ | ⟨rfl, rfl⟩ <;>
    first
    | (simp at hx; done)
    | (simp_all [Instr.sliceBounds, run_sliceBound])


theorem run_slice_slice (h : Rel w0 FA ok0 E N σ a w L) {T e : TypeId} {x : Operand} {ad : Option Addr} {len cap : Nat} {lo hi mx : Option Operand} {k1 k2 k3 : IntKind} {l b m : Int}
    (ho : o.op = .slice T x lo hi mx) (he : elemT P T = some e) (hue : (P.underlying e).isSome = true) (hx : a.eval x = .slice ad len cap)
    (hl : wbound P σ lo 0 = some (k1, l)) (hh : wbound P σ hi len = some (k2, b)) (hm : wbound P σ mx cap = some (k3, m))
    (hmx : mx.isSome = true → hi.isSome = true) (h0 : 0 ≤ l) (h1 : l ≤ b) (h2 : b ≤ m) (h3 : m ≤ cap) :
    (execOp a.eval o).run P w = .ok (.value (.slice (if m.toNat = l.toNat then ad else ad.map (·.add (l.toNat * P.cellsOf e))) (b.toNat - l.toNat) (m.toNat - l.toNat))) w := by
  have hb := run_bounds (P := P) (isS := true) h hl hh hm hmx h0 h1 h2 h3
  have hu := elemT_und he
  simp [execOp, ho, hx, Instr.sliceAt, run_underlying hu, Instr.slice, hb, run_sizeOf' hue]

theorem run_slice_string (h : Rel w0 FA ok0 E N σ a w L) {T : TypeId} {x : Operand} {s : ByteArray} {lo hi : Option Operand} {k1 k2 : IntKind} {l b : Int}
    (ho : o.op = .slice T x lo hi none) (hu : P.underlying T = some .string) (hx : a.eval x = .string s)
    (hl : wbound P σ lo 0 = some (k1, l)) (hh : wbound P σ hi s.size = some (k2, b)) (h0 : 0 ≤ l) (h1 : l ≤ b) (h2 : b ≤ s.size) :
    (execOp a.eval o).run P w = .ok (.value (.string (s.extract l.toNat b.toNat))) w := by
  have hb := run_bounds (P := P) (isS := false) (mx := none) (cap := s.size) (k3 := .i64) (m := s.size) h hl hh rfl (by simp) h0 h1 h2 (Int.le_refl _)
  simp only [Option.map_none] at hb
  simp [execOp, ho, hx, Instr.sliceAt, run_underlying hu, Instr.slice, hb]

/-- a part of what is lent is lent -/
theorem lent_part {okk : Cells} {v : Value} {sz : Nat} {rows : List (List Tr)} {F : Cells} (h : Rd w okk v (.sl false sz rows) F) {ad : Option Addr} {len cap : Nat} (hv : v = .slice ad len cap)
    {l n : Nat} (hl : l + n ≤ rows.length) (m : Nat) (hm : l + n ≤ m) (hmc : m ≤ cap) :
    Rd w okk (.slice (if m = l then ad else ad.map (·.add (l * sz))) n (m - l)) (.sl false sz (rowsOf rows l n)) Cells.none := by
  by_cases hn : n = 0
  · subst hn
    simp only [rowsOf, List.take_zero]
    exact .bor0
  · rcases h.bor_inv with ⟨rfl, _⟩ | ⟨b, p, len', cap', vs, rfl, h1, h2, h3, h4, h5, h6⟩
    · simp at hl; omega
    · simp only [Value.slice.injEq] at hv
      obtain ⟨rfl, rfl, rfl⟩ := hv
      obtain ⟨G, g1, g2⟩ := RdL.rows h6 h3 l n hl
      rw [if_neg (by omega), Option.map_some, addr_add]
      have hle : l * sz + n * sz ≤ vs.length := by rw [h4, ← Nat.add_mul]; exact Nat.mul_le_mul_right _ (by omega)
      refine .bor (vs := (vs.drop (l * sz)).take (n * sz)) (by simp [rowsOf]; omega) (by omega) (fun r hr => h3 r (List.mem_of_mem_drop (List.mem_of_mem_take hr))) (by simp; omega) ?_ (g2.mono g1)
      intro k u hu
      have hk : k < n * sz := by have := (List.getElem?_eq_some_iff.1 hu).1; simp at this; omega
      rw [List.getElem?_take_of_lt hk, List.getElem?_drop] at hu
      have := h5 _ _ hu
      rwa [← Nat.add_assoc] at this

theorem calm_slice (h : Rel w0 FA ok0 E N σ a w L) {T : TypeId} {x : Operand} {lo hi mx : Option Operand} {T0 : TypeId} {Γ : Env} (ho : o.op = .slice T x lo hi mx) {K : SV → Prop} (hc : wcalm P Γ B (.slice T x lo hi mx) T0 σ K) : Gives P σ a w L o K := by
  simp only [wcalm] at hc
  have hv := h.val P T x
  split at hc
  · rename_i s hs
    rw [hs] at hv
    obtain ⟨rfl, hu, hc⟩ := hc
    split at hc
    · rename_i k1 l k2 b hl hh
      obtain ⟨h0, h1, h2, hk⟩ := hc
      exact gives_pure hk (run_slice_string h ho hu hv.sc hl hh h0 h1 h2) (.tr (.sc (by have := hv.sc_str; simp [flat, ByteArray.size_extract]; omega)))
    · exact hc.elim
  · rename_i r n off len hs
    rw [hs] at hv
    split at hc
    · rename_i k1 l k2 b e hl hh he
      split at hc
      · rename_i k3 m hm
        obtain ⟨rfl, hue, hn, h0, h1, h2, h3, ⟨c, hcn, hsz⟩, hk⟩ := hc
        have hmx : (none : Option Operand).isSome = true → hi.isSome = true := by simp
        cases hv with | ref q1 q2 =>
        obtain ⟨ad, cap, ev, e1, e2, e3, e8⟩ := q2 hn
        obtain ⟨v, _, hR, e4, e5, _⟩ := h.root_rd (r := r) (sz := c.1) (rows := c.2) (by rw [hcn])
        have key : ∀ (k3 : IntKind) (m' : Int), wbound P σ none cap = some (k3, m') → b ≤ m' → m' ≤ cap → Gives P σ a w L o K := by
          intro k3 m' hm' hbm hmc
          have hmm : m' = cap := by simp [wbound] at hm'; exact hm'.2.symm
          subst hmm
          refine gives_pure hk (run_slice_slice h ho he hue ev hl hh hm' hmx h0 h1 hbm hmc) (.ref q1 fun _ => ⟨_, _, rfl, by omega, by omega, ?_, ?_⟩)
          rotate_left
          · intro z1 z2
            have hl0 : l = 0 := by omega
            have := e8 (by omega) (by omega)
            rw [ev] at this
            subst hl0
            have hb' : b.toNat - (0 : Int).toNat = len := by omega
            rw [hb']
            have e9 : (if ((cap : Nat) : Int).toNat = (0 : Int).toNat then ad else ad.map (·.add ((0 : Int).toNat * P.cellsOf e))) = ad := by
              split
              · rfl
              · cases ad <;> simp [Addr.add]
            first | (rw [e9]; simpa using this) | (simp at e9; simp [e9]; exact this) | (simp; simpa using this)
          by_cases hml : ((cap : Nat) : Int).toNat = l.toNat
          · left; omega
          · right
            rw [if_neg hml]
            rcases e3 with rfl | ⟨bb, p, e6, rfl, e7⟩
            · omega
            · refine ⟨bb, p, e6, ?_, by omega⟩
              rw [Option.map_some, addr_add, e4, hsz, Nat.add_mul, Nat.add_assoc]
        exact key .i64 cap rfl (by simp [wbound] at hm; omega) (Int.le_refl _)
      · exact hc.elim
    · exact hc.elim
  · rename_i ep sz rows hs
    rw [hs] at hv
    obtain ⟨rfl, hc⟩ := hc
    split at hc
    · rename_i k1 l k2 b e hl hh he
      obtain ⟨hue, hep, h0, h1, h2, hsz, hk⟩ := hc
      have hd : Rd w (L.okOf ep) (a.eval x) (.sl false sz rows) Cells.none := by
        cases ep with
        | none => cases hv with | tr hd => exact Rd.free hd rfl
        | some m => cases hv with | trE q1 q2 => exact q2 (by simpa using hep)
      obtain ⟨ad, cap, ev⟩ := hd.sl_len
      have hlc : rows.length ≤ cap := by
        rcases hd.bor_inv with ⟨rfl, _⟩ | ⟨bb, p, len', cap', vs, ev', r1, r2, _⟩
        · simp
        · rw [ev] at ev'; simp at ev'; omega
      have := lent_part hd ev (l := l.toNat) (n := b.toNat - l.toNat) (by omega) cap (by omega) (Nat.le_refl _)
      rw [hsz] at this
      refine gives_pure hk (run_slice_slice h ho he hue ev hl hh (k3 := .i64) (m := cap) rfl (by simp) h0 h1 (by omega) (Int.le_refl _)) ?_
      rw [hsz]
      cases ep with
      | none => exact .tr (by simpa [Lay.okOf] using this)
      | some m => exact .trE (by simp at hep; omega) fun _ => by simpa [Lay.okOf] using this
    · exact hc.elim
  · rename_i r1 n1 i1 j1 ep sz rows hs
    rw [hs] at hv
    obtain ⟨rfl, hc⟩ := hc
    split at hc
    · rename_i k1 l k2 b e hl hh he
      obtain ⟨hue, hep, h0, h1, h2, hsz, hk⟩ := hc
      cases hv with | nst q1 q2 q3 q4 =>
      have hd := q2 hep
      obtain ⟨ad, cap, ev⟩ := hd.sl_len
      have hlc : rows.length ≤ cap := by
        rcases hd.bor_inv with ⟨rfl, _⟩ | ⟨bb, p, len', cap', vs, ev', r1, r2, _⟩
        · simp
        · rw [ev] at ev'; simp at ev'; omega
      have := lent_part hd ev (l := l.toNat) (n := b.toNat - l.toNat) (by omega) cap (by omega) (Nat.le_refl _)
      rw [hsz] at this
      refine gives_pure hk (run_slice_slice h ho he hue ev hl hh (k3 := .i64) (m := cap) rfl (by simp) h0 h1 (by omega) (Int.le_refl _)) ?_
      rw [hsz]
      exact .trE (by omega) fun _ => by simpa using this
    · exact hc.elim
  · exact hc.elim


theorem run_eqGuard_int {op : BinOp} {T : TypeId} {x y : Operand} {k k' : IntKind} {p q : Int} : (eqGuard op T x y (.int k p) (.int k' q)).run P w = .ok () w := by
  unfold eqGuard; split <;> simp [Sem.run]
theorem run_eqGuard_string {op : BinOp} {T : TypeId} {x y : Operand} {p q : ByteArray} : (eqGuard op T x y (.string p) (.string q)).run P w = .ok () w := by
  unfold eqGuard; split <;> simp [Sem.run]
theorem run_eqGuard_bool {op : BinOp} {T : TypeId} {x y : Operand} {p q : Bool} : (eqGuard op T x y (.bool p) (.bool q)).run P w = .ok () w := by
  unfold eqGuard; split <;> simp [Sem.run]

theorem scOf_val {x : Operand} {T v} (h : Rel w0 FA ok0 E N σ a w L) (hx : σ.val P T x = .tr none (.sc v)) : a.eval x = v := by
  have hv := h.val P T x
  rw [hx] at hv; exact hv.sc

theorem run_intOp {op : BinOp} {T : TypeId} {k : IntKind} {p q : Int} {v : Value} (hz : (op = .quo ∨ op = .rem) → q ≠ 0) (hv : intOp op k p q = some v) :
    (binOp op T (.int k p) (.int k q)).run P w = .ok v w := by
  cases op <;> simp [intOp] at hv <;> subst hv <;> simp [binOp, Op.intArith, Op.intDiv, Op.intCmp] <;> simp at hz <;> simp [hz]

theorem run_strOp {op : BinOp} {T : TypeId} {p q : ByteArray} {v : Value} (hz : op = .add → p.size + q.size ≤ 9223372036854775807) (hv : strOp op p q = some v) :
    (binOp op T (.string p) (.string q)).run P w = .ok v w := by
  cases op <;> simp [strOp] at hv <;> subst hv <;> simp [binOp, Op.stringOp]
  have := hz rfl
  omega

end
end Go.Mv
