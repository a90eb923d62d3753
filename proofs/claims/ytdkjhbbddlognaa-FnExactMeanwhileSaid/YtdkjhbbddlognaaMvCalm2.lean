/-
  A part of a theory of trees by which the functions of the program are walked: it proves no statement of the seat by itself; no conditions.
-/
import Derived.Test.YtdkjhbbddlognaaMvCalm
namespace Go.Mv
set_option linter.unusedVariables false
set_option linter.unusedSimpArgs false
section
variable {w0 : World} {FA ok0 : Cells} {E : Ent} {N : Nat} {σ : St} {a : Act} {w : World} {L : Lay}
variable {B : Bool} {P : Program} {Q : Exit → Act → World → Prop} {Kr : Act → World → Prop} {o : Oper}

theorem zmatch_rd {v : Value} {t : Tr} {w ok F} (h : zmatch v t = true) : Rd w ok v t F := by
  unfold zmatch at h
  split at h
  · simp at h; subst h; exact .sc rfl
  · simp at h; obtain ⟨rfl, rfl⟩ := h; exact .sc rfl
  · rename_i a b
    simp only [Bool.and_eq_true, beq_iff_eq] at h
    obtain ⟨⟨h1, h2⟩, h3⟩ := h
    have : a = b := by
      cases a; cases b
      rename_i x y
      simp only [ByteArray.size] at h2 h3
      have hx : x = #[] := by simpa using h2
      have hy : y = #[] := by simpa using h3
      subst hx; subst hy; rfl
    subst this; exact .sc (by simp [flat, h2])
  · exact .sc rfl
  · exact .sc rfl
  · exact .nil
  · exact .inil
  · cases h

theorem zmatchL_rd {w ok} : ∀ {vs : List Value} {ts : List Tr}, zmatchL vs ts = true → RdL w ok vs ts Cells.none
  | [], [], _ => .nil
  | [], t :: ts, h => by simp [zmatchL] at h
  | v :: vs, [], h => by simp [zmatchL] at h
  | v :: vs, t :: ts, h => by
    simp [zmatchL] at h
    exact .cons (Sub.none _) (Sub.none _) (Apart.none_l _) (zmatch_rd h.1) (zmatchL_rd h.2)

/-- a type's zero value, as value and as trees -/
theorem zeroTr_spec {T : TypeId} {z : List Tr} (h : zeroTr P T = some z) :
    ∃ zv, (∀ w, (zeroValue T).run P w = .ok zv w) ∧ zv.cells.size = P.cellsOf T ∧ z.length = P.cellsOf T ∧ (∀ w ok, RdL w ok zv.cells.toList z Cells.none) ∧
      isAggT P T = isAggV zv := by
  unfold zeroTr at h
  split at h
  · rename_i zv hz
    split at h
    · rename_i hc
      cases h
      simp only [Bool.and_eq_true, beq_iff_eq] at hc
      obtain ⟨⟨h1, h2⟩, h3⟩ := hc
      have hl := (zmatchL_rd (w := default) (ok := Cells.none) h1).length
      refine ⟨zv, fun w => ?_, by rw [← h2, ← hl]; simp, h2, fun w ok => zmatchL_rd h1, h3⟩
      cases hi : P.info? T with
      | none => simp [hi] at hz
      | some i =>
        simp [hi] at hz
        simp [zeroValue, typeInfo, hi, hz]
    · cases h
  · cases h

theorem flat_rep {α : Type} (zs : List α) : ∀ (n i : Nat), i < n * zs.length → ((List.replicate n zs).flatten)[i]? = zs[i % zs.length]?
  | 0, i, h => by simp at h
  | n + 1, i, h => by
    rw [List.replicate_succ, List.flatten_cons]
    by_cases hi : i < zs.length
    · rw [List.getElem?_append_left hi, Nat.mod_eq_of_lt hi]
    · rw [List.getElem?_append_right (by omega), flat_rep zs n (i - zs.length) (by rw [Nat.succ_mul] at h; omega)]
      congr 1
      rw [Nat.mod_eq_sub_mod (by omega : i ≥ zs.length)]

theorem rep_rd {w ok} {vs : List Value} {ts : List Tr} (h : RdL w ok vs ts Cells.none) : ∀ n, RdL w ok ((List.replicate n vs).flatten) ((List.replicate n ts).flatten) Cells.none
  | 0 => .nil
  | n + 1 => by
    rw [List.replicate_succ, List.replicate_succ, List.flatten_cons, List.flatten_cons]
    exact RdL.join (Sub.refl _) (Sub.refl _) (Apart.none_l _) h (rep_rd h n)

theorem at_alloc_new (w : World) (c : Array Value) (t : TypeId) (i : Nat) : World.at (w.alloc (.cells c t)) w.heap.size i = c[i]? := by
  simp [World.at]
theorem fz_alloc_new (w : World) (c : Array Value) (t : TypeId) (i : Nat) : World.fz (w.alloc (.cells c t)) w.heap.size i = false := by
  simp [World.fz]

theorem wnum_val {x : Operand} {T k n} (h : Rel w0 FA ok0 E N σ a w L) (hx : wnum (σ.val P T x) = some (k, n)) : a.eval x = .int k n := by
  have hv := h.val P T x
  unfold wnum at hx
  split at hx
  · rename_i k' n' hs
    simp at hx; obtain ⟨rfl, rfl⟩ := hx
    rw [hs] at hv; exact hv.sc
  · cases hx

theorem wrap64_id {n : Int} (h0 : -9223372036854775808 ≤ n) (h1 : n < 9223372036854775808) : IntKind.i64.wrap n = n := by
  simp only [IntKind.wrap, IntKind.bits, IntKind.signed]
  simp
  omega

theorem elemT_und {T e : TypeId} (h : elemT P T = some e) : P.underlying T = some (.slice e) := by
  unfold elemT at h
  split at h
  · rename_i e' he; simp at h; subst h; exact he
  · cases h

theorem still_alloc (w : World) (c : Array Value) (t : TypeId) : Still w (w.alloc (.cells c t)) := by
  refine ⟨⟨rfl, rfl⟩, rfl, fun b o hb => ?_⟩
  by_cases e : b = w.heap.size
  · rw [e]; exact fz_alloc_new w c t o
  · have : (w.alloc (.cells c t)).heap[b]? = none := by
      rw [← World.alloc_eq, Array.getElem?_push, if_neg e]
      exact Array.getElem?_eq_none hb
    simp only [World.fz, World.frozen?, this]

theorem res_alloc {s v F} {c : Array Value} {t : TypeId} (hF : ∀ b o, F b o → b = w.heap.size) (hv : SRel σ (w.alloc (.cells c t)) { L with ok := Or L.ok Cells.none } s v F) : Res σ w L s v (w.alloc (.cells c t)) F Cells.none where
  still := still_alloc w c t
  size := by simp
  ext := fun b hb => by rw [← World.alloc_eq]; simp only [Array.getElem?_push]; rw [if_neg (by omega)]
  new := fun b o hx => by have := hF b o hx; simp; omega
  newO := fun _ _ h => h.elim
  apart := Apart.none_l _
  rel := hv

theorem calm_makeSlice (h : Rel w0 FA ok0 E N σ a w L) {T : TypeId} {l c : Operand} {T0 : TypeId} {Γ : Env} (ho : o.op = .makeSlice T l c) {K : SV → Prop} (hc : wcalm P Γ B (.makeSlice T l c) T0 σ K) : Gives P σ a w L o K := by
  simp only [wcalm] at hc
  split at hc
  · rename_i k n k' m e hl hcc he
    obtain ⟨z, hz, h0, h1, h2, h3, hk⟩ := hc
    have el := wnum_val (P := P) h hl
    have ec := wnum_val (P := P) h hcc
    obtain ⟨zv, z1, z2, z3, z4, z5⟩ := zeroTr_spec hz
    have hi : ∃ i, P.info? e = some i ∧ i.bytes = P.bytesOf e ∧ i.size = P.cellsOf e := by
      cases hi : P.info? e with
      | none => simp [Program.bytesOf, hi] at h2
      | some i => exact ⟨i, rfl, by simp [Program.bytesOf, hi], by simp [Program.cellsOf, hi]⟩
    obtain ⟨i, hi, hib, his⟩ := hi
    have hm : m ≤ 140737488355328 := by
      have : m * 1 ≤ m * (P.bytesOf e : Int) := Int.mul_le_mul_of_nonneg_left (by omega) (by omega)
      omega
    have w1 := wrap64_id (n := n) (by omega) (by omega)
    have w2 := wrap64_id (n := m) (by omega) (by omega)
    let cells : Array Value := (Array.range (m.toNat * P.cellsOf e)).map fun i => zv.cells[i % zv.cells.size]!
    have hrun : (execOp a.eval o).run P w = .ok (.value (.slice (some ⟨w.heap.size, 0, none⟩) n.toNat m.toNat)) (w.alloc (.cells cells e)) := by
      have t1 : ¬ (281474976710656 < (P.bytesOf e : Int) * m) := by rw [Int.mul_comm]; omega
      have t2 : ¬ (m.toNat * P.bytesOf e > roomBytes) := by
        simp only [roomBytes]
        have : ((m.toNat * P.bytesOf e : Nat) : Int) = m * P.bytesOf e := by
          rw [Int.natCast_mul, Int.toNat_of_nonneg (by omega)]
        omega
      by_cases hn0 : m.toNat * P.cellsOf e = 0
      · have hcells : cells = #[] := by simp [cells, hn0]
        simp [execOp, ho, el, ec, Instr.makeSlice, run_underlying (elemT_und he), asInt, asIntOf, typeInfo, hi, hib, w1, w2, show ¬ m < 0 by omega, show ¬ n < 0 by omega, show ¬ m < n by omega, t1, askRoom, t2, sizeOf, his, hn0, newRow, newObj, hcells, Sem.run, show Array.range 0 = #[] from rfl]
      · simp [execOp, ho, el, ec, Instr.makeSlice, run_underlying (elemT_und he), asInt, asIntOf, typeInfo, hi, hib, w1, w2, show ¬ m < 0 by omega, show ¬ n < 0 by omega, show ¬ m < n by omega, t1, askRoom, t2, sizeOf, his, hn0, newRow, newObj, Sem.run, z1, cells]
    refine ⟨_, _, _, fun b o => b = w.heap.size, Cells.none, hk, hrun, res_alloc (fun b o h => h) (.tr ?_)⟩
    have hlen : ((List.replicate n.toNat zv.cells.toList).flatten).length = n.toNat * P.cellsOf e := by
      simp [z2]
    refine .own (vs := (List.replicate n.toNat zv.cells.toList).flatten) (G := Cells.none) (by simp) ⟨by omega, by omega⟩ (fun r hr => by rw [List.eq_of_mem_replicate hr, z3]) hlen ?_ ?_ (Sub.none _) (Apart.none_r _) (rep_rd (z4 _ _) _)
    · intro j v hv
      have hj : j < n.toNat * P.cellsOf e := by have := (List.getElem?_eq_some_iff.1 hv).1; omega
      have hsz : 0 < P.cellsOf e := by rcases Nat.eq_zero_or_pos (P.cellsOf e) with h | h <;> simp_all
      have hj2 : j < m.toNat * P.cellsOf e := Nat.lt_of_lt_of_le hj (Nat.mul_le_mul_right _ (by omega))
      rw [flat_rep _ _ _ (by simpa [z2] using hj)] at hv
      rw [Nat.zero_add, at_alloc_new]
      have hmod : j % P.cellsOf e < zv.cells.size := by rw [z2]; exact Nat.mod_lt _ hsz
      simp only [Array.length_toList, z2] at hv
      simp only [cells, Array.getElem?_map, z2]
      rw [Array.getElem?_toList] at hv
      have hr : (Array.range (m.toNat * P.cellsOf e))[j]? = some j := by
        rw [Array.getElem?_eq_getElem (by simpa using hj2)]; simp
      rw [hr, Option.map_some, getElem!_pos zv.cells (j % P.cellsOf e) hmod]
      rw [Array.getElem?_eq_getElem hmod] at hv
      exact hv
    · intro j hj
      refine ⟨rfl, ?_, by rw [fz_alloc_new]⟩
      rw [Nat.zero_add, at_alloc_new]
      simp [cells, hj]
  · exact hc.elim


theorem run_index {T e : TypeId} {x i : Operand} {b p len cap : Nat} {k : IntKind} {n : Int} (ho : o.op = .indexAddr T x i) (he : elemT P T = some e)
    (hx : a.eval x = .slice (some ⟨b, p, none⟩) len cap) (hi : a.eval i = .int k n) (h0 : 0 ≤ n) (h1 : n < len) (hsz : (P.underlying e).isSome = true) :
    (execOp a.eval o).run P w = .ok (.value (.pointer (some ⟨b, p + n.toNat * P.cellsOf e, none⟩))) w := by
  have hu := elemT_und he
  have hel : P.elem T = e := by simp [Program.elem, hu]
  have := run_indexAt_slice (P := P) w T ⟨b, p, none⟩ len cap k n (by rw [hel]; exact hu)
  rw [if_pos ⟨h0, h1⟩, hel, run_sizeOf' hsz] at this
  simp only [Result.andThen_ok, addr_add] at this
  simp [execOp, ho, hx, hi, this]

/-- an element of what is lent -/
theorem lent_row {okk : Cells} {v : Value} {sz : Nat} {rows : List (List Tr)} (h : Rd w okk v (.sl false sz rows) Cells.none) {i : Nat} {row : List Tr} (hi : rows[i]? = some row) :
    ∃ b p len cap vs, v = .slice (some ⟨b, p, none⟩) len cap ∧ i < len ∧ (∀ k u, vs[k]? = some u → World.at w b (p + i * sz + k) = some u ∧ okk b (p + i * sz + k)) ∧ RdL w okk vs row Cells.none := by
  have hil : i < rows.length := (List.getElem?_eq_some_iff.1 hi).1
  rcases h.bor_inv with ⟨rfl, _⟩ | ⟨b, p, len, cap, vs, rfl, h1, h2, h3, h4, h5, h6⟩
  · simp at hil
  · obtain ⟨G, g1, g2⟩ := RdL.row h6 h3 i row hi
    refine ⟨b, p, len, cap, (vs.drop (i * sz)).take sz, rfl, by omega, ?_, g2.mono g1⟩
    intro k u hu
    have hk : k < sz := by have := (List.getElem?_eq_some_iff.1 hu).1; simp at this; omega
    rw [List.getElem?_take_of_lt hk, List.getElem?_drop] at hu
    have := h5 _ _ hu
    rwa [← Nat.add_assoc] at this

theorem calm_indexAddr (h : Rel w0 FA ok0 E N σ a w L) {T : TypeId} {x i : Operand} {T0 : TypeId} {Γ : Env} (ho : o.op = .indexAddr T x i) {K : SV → Prop} (hc : wcalm P Γ B (.indexAddr T x i) T0 σ K) : Gives P σ a w L o K := by
  simp only [wcalm] at hc
  have hv := h.val P T x
  split at hc
  · rename_i k n e hi he
    have ei := wnum_val (P := P) h hi
    obtain ⟨h0, hsz, hc⟩ := hc
    split at hc
    · rename_i r m off len hs
      obtain ⟨hn, hlt, c, hcn, h1, hk⟩ := hc
      rw [hs] at hv
      cases hv with | ref q1 q2 =>
      obtain ⟨ad, cap, ev, e1, e2, e3⟩ := q2 hn
      obtain ⟨v, _, hR, e4, e5, _⟩ := h.root_rd (r := r) (sz := c.1) (rows := c.2) (by rw [hcn])
      rcases e3 with rfl | ⟨b, p, e6, rfl, e7⟩
      · omega
      · have hr := run_index (P := P) (w := w) ho he ev ei h0 hlt hsz
        refine gives_pure hk hr (.pr q1 fun _ => ⟨by omega, b, p, e6, ?_⟩)
        rw [e4, h1, Nat.add_zero, Nat.add_mul, Nat.add_assoc]
    · rename_i sz rows hs
      split at hc
      · rename_i t
        obtain ⟨hlt, h1, hk⟩ := hc
        obtain ⟨v, hv', hR, e4, e5, hd⟩ := h.root_rd (r := .slot t) (sz := sz) (rows := rows) (content_slot.2 hs)
        simp only [rootVal, Option.some.injEq] at hv'
        rcases hR with ⟨b, p, hb, hle, rfl⟩ | ⟨_, hn, _⟩
        · have hr := run_index (P := P) (w := w) ho he hv' ei h0 (by omega) hsz
          refine gives_pure hk hr (.pr (Nat.le_refl _) fun _ => ⟨by omega, b, p, hb, ?_⟩)
          rw [e4, h1, Nat.add_zero]
        · omega
      · exact hc.elim
    · rename_i ep sz rows hs
      obtain ⟨hep, h1, row, hrow, hk⟩ := hc
      rw [hs] at hv
      have hd : Rd w (L.okOf ep) (a.eval x) (.sl false sz rows) Cells.none := by
        cases ep with
        | none => cases hv with | tr hd => exact Rd.free hd rfl
        | some m => cases hv with | trE q1 q2 => exact q2 (by simpa using hep)
      obtain ⟨b, p, len, cap, vs, ev, e1, e2, e3⟩ := lent_row hd hrow
      have hr := run_index (P := P) (w := w) ho he ev ei h0 (by omega) hsz
      refine gives_pure hk hr (.pv (fun m hm => by subst hm; simp at hep; omega) fun _ => ⟨b, p + n.toNat * sz, vs, by rw [h1]; rfl, fun k u hu => ⟨(e2 k u hu).1, ?_⟩, e3, fun hn k u hu => ?_⟩)
      · have := (e2 k u hu).2
        cases ep with
        | none => exact .inl this
        | some m => exact this
      · subst hn; exact (e2 k u hu).2
    · rename_i r1 n1 i1 j1 ep sz rows hs
      obtain ⟨hep, h1, row, hrow, hk⟩ := hc
      rw [hs] at hv
      cases hv with | nst q1 q2 q3 q4 =>
      obtain ⟨b, p, len, cap, vs, ev, e1, e2, e3⟩ := lent_row (q2 hep) hrow
      have hr := run_index (P := P) (w := w) ho he ev ei h0 (by omega) hsz
      refine gives_pure hk hr (.pv (fun m hm => by simp at hm; omega) fun _ => ⟨b, p + n.toNat * sz, vs, by rw [h1]; rfl, fun k u hu => e2 k u hu, e3, fun hn => by cases hn⟩)
    · exact hc.elim
  · exact hc.elim

theorem calm_index (h : Rel w0 FA ok0 E N σ a w L) {T : TypeId} {x i : Operand} {T0 : TypeId} {Γ : Env} (ho : o.op = .index T x i) {K : SV → Prop} (hc : wcalm P Γ B (.index T x i) T0 σ K) : Gives P σ a w L o K := by
  simp only [wcalm] at hc
  have hv := h.val P T x
  split at hc
  · rename_i k n s hi hs
    have ei := wnum_val (P := P) h hi
    obtain ⟨hu, h0, h1, hk⟩ := hc
    rw [hs] at hv
    have ex := hv.sc
    have hb : n.toNat < s.size := by omega
    have hg : s[n.toNat]? = some s[n.toNat] := getElem?_pos s n.toNat hb
    refine gives_pure (v := .int .u8 (byteAt s n.toNat)) hk ?_ (.tr (.sc rfl))
    have hby : byteAt s n.toNat = ((s[n.toNat].toNat : Nat) : Int) := by
      have : n.toNat < s.data.toList.length := by rw [Array.length_toList]; exact hb
      simp only [byteAt, List.getD, List.getElem?_eq_getElem this, Option.getD_some]
      rfl
    simp [execOp, ho, ex, ei, Instr.index, run_underlying hu, asIntOf, h0, hg, hby]
  · exact hc.elim

theorem fieldOff_spec {T : TypeId} {f fo : Nat} {ft : TypeId} (h : fieldOff P T f = some (fo, ft)) :
    ∃ fs x, P.underlying T = some (.struct fs) ∧ fs[f]? = some x ∧ x.offset = fo ∧ x.type = ft ∧ P.cellsOf x.type ≠ 0 := by
  unfold fieldOff at h
  split at h
  · rename_i fs hu
    cases hx : fs[f]? with
    | none => simp [hx] at h
    | some x =>
      simp only [hx, Option.bind_some] at h
      split at h
      · cases h
      · rename_i hne
        simp at h
        exact ⟨fs, x, hu, hx, h.1, h.2, hne⟩
  · cases h

theorem run_sizeOf_ne {T : TypeId} (h : P.cellsOf T ≠ 0) : (sizeOf T).run P w = .ok (P.cellsOf T) w := by
  cases hi : P.info? T with
  | none => simp [Program.cellsOf, hi] at h
  | some i => simp [sizeOf, typeInfo, hi, Program.cellsOf]

theorem run_field {T : TypeId} {x : Operand} {f fo b p : Nat} {ft : TypeId} (ho : o.op = .fieldAddr T x f) (hf : fieldOff P T f = some (fo, ft))
    (hx : a.eval x = .pointer (some ⟨b, p, none⟩)) : (execOp a.eval o).run P w = .ok (.value (.pointer (some ⟨b, p + fo, none⟩))) w := by
  obtain ⟨fs, y, hu, hy, h1, h2, h3⟩ := fieldOff_spec hf
  simp [execOp, ho, hx, Instr.fieldAt, run_underlying hu, hy, Instr.sureAddr, fieldPlace, run_sizeOf_ne h3, h3, addr_add, h1]

theorem calm_fieldAddr (h : Rel w0 FA ok0 E N σ a w L) {T : TypeId} {x : Operand} {f : Nat} {T0 : TypeId} {Γ : Env} (ho : o.op = .fieldAddr T x f) {K : SV → Prop} (hc : wcalm P Γ B (.fieldAddr T x f) T0 σ K) : Gives P σ a w L o K := by
  simp only [wcalm] at hc
  have hv := h.val P T x
  split at hc
  · rename_i fo ft hf
    split at hc
    · rename_i b n off hs
      rw [hs] at hv
      cases hv with | pc h1 h2 =>
      exact gives_pure hc.2 (run_field ho hf (h2 hc.1)) (.pc h1 fun _ => by rw [Nat.add_assoc])
    · rename_i r n i j hs
      rw [hs] at hv
      cases hv with | pr h1 h2 =>
      obtain ⟨q1, b, p, q2, q3⟩ := h2 hc.1
      exact gives_pure hc.2 (run_field ho hf q3) (.pr h1 fun _ => ⟨q1, b, p, q2, by rw [Nat.add_assoc]⟩)
    · rename_i e row j hs
      rw [hs] at hv
      cases hv with | pv h1 h2 =>
      obtain ⟨b, p, vs, q1, q2, q3, q4⟩ := h2 hc.1
      exact gives_pure hc.2 (run_field ho hf q1) (.pv h1 fun _ => ⟨b, p, vs, by rw [Nat.add_assoc], q3 |> fun _ => q2, q3, q4⟩)
    · exact hc.elim
  · exact hc.elim

end
end Go.Mv
