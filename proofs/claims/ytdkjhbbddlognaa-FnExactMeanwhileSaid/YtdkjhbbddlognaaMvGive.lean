/-
  A part of a theory of trees by which the functions of the program are walked: it proves no statement of the seat by itself; no conditions.
-/
import Derived.Test.YtdkjhbbddlognaaMvStore2
namespace Go.Mv
set_option linter.unusedVariables false
set_option linter.unusedSimpArgs false

section
variable {w0 : World} {FA ok0 : Cells} {E : Ent} {N : Nat} {σ : St} {a : Act} {w : World} {L : Lay}

/-- what was seen of our arrays' inside is seen no more -/
theorem Later.bump : Later σ w L σ.bump w { L with sn := Cells.none } :=
  { ver := fun _ => Nat.le_refl _, row := fun _ _ => rfl, nver := fun _ => Nat.le_refl _, nst := fun _ _ => ⟨rfl, fun _ _ _ _ _ => rfl⟩
    bver := fun _ => Nat.le_refl _, loc := fun _ _ => rfl, ep := Nat.le_succ _, sn := fun e => by simp [St.bump] at e, ok := Sub.refl _, okw := Same.refl _ _ }

theorem Rel.bump (h : Rel w0 FA ok0 E N σ a w L) : Rel w0 FA ok0 E N σ.bump a w { L with sn := Cells.none } := by
  have hat : ∀ i, Lay.at { L with sn := Cells.none } i = L.at i := fun i => by cases i <;> rfl
  exact
  { size := h.size, defers := h.defers
    slots := fun d => SRel.later Later.bump (h.slots d) (Same.refl _ _)
    args := fun i j sz rows hi => ⟨(h.args i j sz rows hi).1, Apart.none_l _⟩
    ploc := h.ploc
    boxes := fun b cs hb => ⟨(h.boxes b cs hb).1, fun j s hj => by
      obtain ⟨v, e1, e2, e3, e4⟩ := (h.boxes b cs hb).2 j s hj
      exact ⟨v, e1, e2, SRel.later Later.bump e3 (Same.refl _ _), Apart.none_l _⟩⟩
    roots := h.roots, norow := h.norow
    sep := fun i j => by rw [hat, hat]; exact h.sep i j
    okap := fun i => by rw [hat]; exact h.okap i
    snapS := fun _ => Apart.none_l _, snapM := fun _ _ => Apart.none_l _
    live := fun i => by rw [hat]; exact h.live i
    liveS := fun _ _ h => h.elim, liveO := h.liveO, keeps := h.keeps }

theorem HandG.bump {l : List (SV × Value)} {G : Nat → Cells} (h : HandG w0 FA σ w L l G) : HandG w0 FA σ.bump w { L with sn := Cells.none } l G :=
  h.later Later.bump (fun _ => Same.refl _ _) (fun k i => by have : Lay.at { L with sn := Cells.none } i = L.at i := by cases i <;> rfl
                                                             rw [this]; exact h.ap k i) h.okap (Sub.none _) (Nat.le_refl _)

/-- the k-th in hand is another value of other cells -/
theorem HandG.upd {l : List (SV × Value)} {G : Nat → Cells} (h : HandG w0 FA σ w L l G) {k : Nat} {s : SV} {v : Value} {F : Cells} (hs : SRel σ w L s v F) (ht : Apart L.sn (tops s v))
    (hsep : ∀ q, q ≠ k → Apart (G q) F) (hap : ∀ i, Apart F (L.at i)) (hok : Apart L.ok F) (hlive : ∀ b o, F b o → b < w.heap.size ∧ (FA b o ∨ w0.heap.size ≤ b)) :
    HandG w0 FA σ w L (l.set k (s, v)) (fun q => if q = k then F else G q) where
  rel := fun q s' v' hq => by
    by_cases e : q = k
    · subst e
      have hlt : q < l.length := by have := (List.getElem?_eq_some_iff.1 hq).1; simpa using this
      rw [List.getElem?_set_self hlt] at hq; cases hq
      simpa using hs
    · rw [List.getElem?_set_ne (Ne.symm e)] at hq
      simp only [e, if_false]; exact h.rel q s' v' hq
  snap := fun q s' v' hq => by
    by_cases e : q = k
    · subst e
      have hlt : q < l.length := by have := (List.getElem?_eq_some_iff.1 hq).1; simpa using this
      rw [List.getElem?_set_self hlt] at hq; cases hq
      exact ht
    · rw [List.getElem?_set_ne (Ne.symm e)] at hq
      exact h.snap q s' v' hq
  sep := fun i j hij => by
    by_cases hi : i = k
    · subst hi
      have hj : j ≠ i := Ne.symm hij
      simp only [if_true, hj, if_false]; exact (hsep j hj).symm
    · by_cases hj : j = k
      · subst hj; simp only [if_true, hi, if_false]; exact hsep i hi
      · simp only [hi, hj, if_false]; exact h.sep i j hij
  ap := fun q i => by
    by_cases e : q = k
    · simp only [e, if_true]; exact hap i
    · simp only [e, if_false]; exact h.ap q i
  okap := fun q => by
    by_cases e : q = k
    · simp only [e, if_true]; exact hok
    · simp only [e, if_false]; exact h.okap q
  live := fun q b o hx => by
    by_cases e : q = k
    · simp only [e, if_true] at hx; exact hlive b o hx
    · simp only [e, if_false] at hx; exact h.live q b o hx

/-- the content of a root goes out of it -/
theorem Rel.takeR (h : Rel w0 FA ok0 E N σ a w L) {r : Root} {sz : Nat} {rows : List (List Tr)} (hN : ∀ d, r = .slot d → d < N) (hc : σ.content r = some (sz, rows)) :
    ∃ L', Rel w0 FA ok0 E N (σ.setR .dead r) a w L' ∧ Later σ w L (σ.setR .dead r) w L' ∧ L'.ok = L.ok ∧ L'.sn = L.sn ∧ L'.row r = L'.row r ∧ (∀ i, Sub (L'.at i) (L.at i)) ∧ (∀ i, Apart (L.at r.ix) (L'.at i)) := by
  cases r with
  | slot d =>
    have hd := hN d rfl
    obtain ⟨R, hR⟩ := h.put (d := d) hd (s := .dead) (v := a.tmps.getD d undef) (F := Cells.none) (w' := w) (Nat.le_refl _) h.keeps (fun _ => Same.refl _ _) (Same.refl _ _) (Same.refl _ _)
      (fun _ _ h => h.elim) (fun _ _ => Apart.none_l _) (Apart.none_r _) (by simp only [tops]; exact Apart.none_r _) .dead
    rw [put_self] at hR
    have hat : ∀ i, Lay.at { L with slotF := fun i => if i = d then Cells.none else L.slotF i, row := fun r => if r = .slot d then R else L.row r } i = if i = .s d then Cells.none else L.at i := by
      intro i
      cases i with
      | s e => by_cases hh : e = d <;> simp [Lay.at, hh]
      | _ => simp [Lay.at]
    refine ⟨_, hR, ?_, rfl, rfl, rfl, fun i => ?_, fun i => ?_⟩
    · exact
      { ver := fun r => by simp only [St.setR, St.put]; split <;> omega
        row := fun r e => by
          simp only [St.setR, St.put] at e
          by_cases hr : r = .slot d
          · simp [hr] at e
          · simp [hr]
        nver := fun r => by simp only [St.setR, St.put]; split <;> omega
        nst := fun r e => by
          simp only [St.setR, St.put] at e
          by_cases hr : r = .slot d
          · simp [hr] at e
          · simp only [hr, if_false]; exact ⟨trivial, fun _ _ _ _ _ => trivial⟩
        bver := fun b => Nat.le_refl _
        loc := fun b _ => rfl
        ep := Nat.le_refl _
        sn := fun _ => ⟨Sub.refl _, Same.refl _ _⟩
        ok := Sub.refl _
        okw := Same.refl _ _ }
    · rw [hat]; split
      · exact Sub.none _
      · exact Sub.refl _
    · rw [hat]; split
      · exact Apart.none_r _
      · rename_i hh; exact h.sep (.s d) i (Ne.symm hh)
  | cell b j =>
    obtain ⟨cs, hb, hj⟩ := content_cell.1 hc
    have hjl := (List.getElem?_eq_some_iff.1 hj).1
    obtain ⟨v, e1, e2, e3, e4⟩ := (h.boxes b cs hb).2 j _ hj
    obtain ⟨L', q1, q2, q3, q4, q5, q6, q7, q8, q9⟩ := h.setBox (off := j) (new := [.dead]) (vs := [v]) (w' := w) (G := fun _ => Cells.none) hb (by simp; omega) rfl h.keeps (fun _ _ _ => ⟨rfl, rfl⟩)
      (fun k u hk => by cases k with
        | zero => simp at hk; subst hk; exact ⟨by simpa using e1, by simpa using e2⟩
        | succ k => simp at hk)
      ⟨rfl, fun k s u hk hu => by cases k with
        | zero => simp at hk; subst hk; exact .dead
        | succ k => simp at hk, fun _ _ _ => Apart.none_l _, fun _ => Apart.none_r _, fun _ _ _ h => h.elim, fun k s u hk hu => by cases k with
        | zero => simp at hk; subst hk; simp only [tops]; exact Apart.none_r _
        | succ k => simp at hk⟩
      (fun _ _ _ => Apart.none_l _)
    have hat : ∀ i, L'.at i = if i = .c b j then Cells.none else L.at i := by
      intro i
      split
      · rename_i e; subst e; exact q9 j ⟨Nat.le_refl _, by simp⟩
      · rename_i e
        refine q8 i fun j' hj' hr => e ?_
        rw [hj']; congr 1; simp at hr; omega
    refine ⟨L', q1, q2, q6, q7, rfl, fun i => ?_, fun i => ?_⟩
    · rw [hat]; split
      · exact Sub.none _
      · exact Sub.refl _
    · rw [hat]; split
      · exact Apart.none_r _
      · rename_i hh; exact h.sep (.c b j) i (Ne.symm hh)
  | arg i j =>
    let L' : Lay := { L with argF := fun i' j' => if i' = i ∧ j' = j then Cells.none else L.argF i' j', row := fun r => if r = .arg i j then ⟨none, 0, 0, 0⟩ else L.row r }
    have hat : ∀ x, L'.at x = if x = .a i j then Cells.none else L.at x := by
      intro x
      cases x with
      | a i' j' => by_cases hh : i' = i ∧ j' = j
                   · simp [Lay.at, L', hh]
                   · have : ¬ (Ix.a i' j' = Ix.a i j) := by simpa using hh
                     simp only [Lay.at, L', hh, if_false, this]
      | _ => simp [Lay.at, L']
    have later : Later σ w L (σ.setR .dead (.arg i j)) w L' :=
      { ver := fun r => by simp only [St.setR, St.setArg]; split <;> omega
        row := fun r e => by
          simp only [St.setR, St.setArg] at e
          by_cases hr : r = .arg i j
          · simp [hr] at e
          · simp [L', hr]
        nver := fun r => by simp only [St.setR, St.setArg]; split <;> omega
        nst := fun r e => by
          simp only [St.setR, St.setArg] at e
          by_cases hr : r = .arg i j
          · simp [hr] at e
          · simp only [L', hr, if_false]; exact ⟨trivial, fun _ _ _ _ _ => trivial⟩
        bver := fun b => Nat.le_refl _
        loc := fun b _ => rfl
        ep := Nat.le_refl _
        sn := fun _ => ⟨Sub.refl _, Same.refl _ _⟩
        ok := Sub.refl _
        okw := Same.refl _ _ }
    refine ⟨L', ?_, later, rfl, rfl, rfl, fun x => ?_, fun x => ?_⟩
    · have hcont : ∀ r, r ≠ .arg i j → (σ.setR .dead (.arg i j)).content r = σ.content r := by
        intro r hr
        cases r with
        | slot d => rfl
        | cell b k => rfl
        | arg i' j' => simp only [St.content, St.setR, St.setArg]; rw [if_neg]; simpa using hr
      have hcn : (σ.setR .dead (.arg i j)).content (.arg i j) = none := by simp [St.content, St.setR, St.setArg]
      exact
      { size := h.size, defers := h.defers
        slots := fun d => SRel.later later (h.slots d) (Same.refl _ _)
        args := fun i' j' sz2 rows2 hi => by
          by_cases e : i' = i ∧ j' = j
          · simp [St.setR, St.setArg, e] at hi
          · have hi' : σ.arg i' j' = some (sz2, rows2) := by simpa [St.setR, St.setArg, e] using hi
            have : L'.argF i' j' = L.argF i' j' := by simp only [L', e, if_false]
            rw [this]; exact h.args i' j' sz2 rows2 hi'
        ploc := h.ploc
        boxes := fun b cs hb => ⟨(h.boxes b cs hb).1, fun j s hj => by
          obtain ⟨v, e1, e2, e3, e4⟩ := (h.boxes b cs hb).2 j s hj
          exact ⟨v, e1, e2, SRel.later later e3 (Same.refl _ _), e4⟩⟩
        roots := fun r sz2 rows2 hcc => by
          by_cases hr : r = .arg i j
          · subst hr; rw [hcn] at hcc; cases hcc
          · rw [hcont r hr] at hcc
            obtain ⟨x, y, v, hv, z⟩ := h.roots r sz2 rows2 hcc
            simp only [L', hr, if_false]
            exact ⟨x, y, v, by cases r <;> exact hv, z⟩
        norow := fun r hcc => by
          by_cases hr : r = .arg i j
          · simp [L', hr]
          · rw [hcont r hr] at hcc
            simp only [L', hr, if_false]; exact h.norow r hcc
        sep := fun x y hxy => by
          rw [hat, hat]
          split
          · exact Apart.none_l _
          · split
            · exact Apart.none_r _
            · exact h.sep x y hxy
        okap := fun x => by
          rw [hat]; split
          · exact Apart.none_r _
          · exact h.okap x
        snapS := h.snapS
        snapM := fun b k => by rw [hat]; simp; exact h.snapM b k
        live := fun x b o hx => by
          rw [hat] at hx
          split at hx
          · exact hx.elim
          · exact h.live x b o hx
        liveS := h.liveS, liveO := h.liveO, keeps := h.keeps }
    · rw [hat]; split
      · exact Sub.none _
      · exact Sub.refl _
    · rw [hat]; split
      · exact Apart.none_r _
      · rename_i hh; exact h.sep (.a i j) x (Ne.symm hh)

theorem subIs_seg {v : Value} {R : RowI} {off len : Nat} (h : subIs v R off len) : Sub (segV R.sz v) R.seg := by
  obtain ⟨a, cap, rfl, h1, h2, h3, _⟩ := h
  cases a with
  | none => exact Sub.none _
  | some p =>
    rintro x o ⟨rfl, y1, y2⟩
    rcases h3 with rfl | ⟨b, q, hb, e, hc⟩
    · simp at y2; omega
    · cases e
      refine ⟨b, q, hb, rfl, by simp at y1; omega, ?_⟩
      simp at y2
      have : off * R.sz + cap * R.sz ≤ R.cap * R.sz := by rw [← Nat.add_mul]; exact Nat.mul_le_mul_right _ hc
      omega

/-- what is referred to is taken out of its place -/
theorem Rel.giveRef (h : Rel w0 FA ok0 E N σ a w L) {l : List (SV × Value)} (hh : Hand w0 FA σ w L l) {k : Nat} {r : Root} {ver off len : Nat} {v : Value} (hk : l[k]? = some (.ref r ver off len, v))
    (hN : ∀ d, r = .slot d → d < N) (hv : ver = σ.ver r) {c : Nat × List (List Tr)} (hc : σ.content r = some c) :
    ∃ L', Rel w0 FA ok0 E N (σ.setR .dead r) a w L' ∧ Hand w0 FA (σ.setR .dead r) w L' (l.set k (.tr none (.sl true c.1 (rowsOf c.2 off len)), v)) := by
  obtain ⟨G, hG⟩ := hh
  obtain ⟨sz, rows⟩ := c
  obtain ⟨vr, hvr, hR, e1, e2, hd⟩ := h.root_rd hc
  have hs := hG.rel k _ v hk
  have hsub : subIs v (L.row r) off len := by cases hs with | ref h1 h2 => exact h2 hv
  have hrd := subIs_own hd hR e1 e2 hsub
  obtain ⟨L', q1, q2, q3, q4, _, q6, q7⟩ := h.takeR hN hc
  refine ⟨L', q1, _, HandG.upd (F := L.at r.ix) (hG.later q2 (fun _ => Same.refl _ _) (fun k i => (hG.ap k i).sub (Sub.refl _) (q6 i)) (fun k => by rw [q3]; exact hG.okap k) (by rw [q4]; exact Sub.refl _) (Nat.le_refl _)) (.tr (by rw [q3]; exact hrd)) ?_ (fun q _ => hG.ap q _) q7 (by rw [q3]; exact h.okap _) (h.live _)⟩
  rw [q4]
  simp only [tops, topT]
  intro x o hx hy
  refine h.sn_row hc x o hx ?_
  exact subIs_seg hsub x o (by rw [e1]; exact hy)

theorem Rd.own_take {w : World} {ok : Cells} {b o len cap sz : Nat} {rows : List (List Tr)} {F : Cells} (h : Rd w ok (.slice (some ⟨b, o, none⟩) len cap) (.sl true sz rows) F)
    {i j : Nat} {row : List Tr} (hi : rows[i]? = some row) {t : Tr} (hj : row[j]? = some t) {v : Value} (hv : World.at w b (o + (i * sz + j)) = some v) :
    ∃ G, Sub G F ∧ Rd w ok v t G ∧ Apart (seg b o (cap * sz)) G ∧ Rd w ok (.slice (some ⟨b, o, none⟩) len cap) (.sl true sz (rows.set i (row.set j .dead))) (fun x p => F x p ∧ ¬ G x p) := by
  rcases h.own_inv with ⟨rfl, _⟩ | ⟨b2, p2, len2, cap2, us, G, ev, h1, h2, h3, h4, h5, h6, h7, h8, h9⟩
  · simp at hi
  simp only [Value.slice.injEq, Option.some.injEq, Addr.mk.injEq, and_true] at ev
  obtain ⟨⟨rfl, rfl⟩, rfl, rfl⟩ := ev
  have hrow := h3 row (List.mem_of_getElem? hi)
  have hjl : j < row.length := (List.getElem?_eq_some_iff.1 hj).1
  have hil : i < rows.length := (List.getElem?_eq_some_iff.1 hi).1
  obtain ⟨e1, e2⟩ := flatten_split h3 hi
  have erow : row = row.take j ++ ([t] ++ row.drop (j + 1)) := by
    have : row.drop j = t :: row.drop (j + 1) := by rw [List.drop_eq_getElem_cons hjl]; congr 1; rw [List.getElem?_eq_getElem hjl] at hj; exact Option.some.inj hj
    rw [List.singleton_append, ← this, List.take_append_drop]
  have eold : rows.flatten = ((rows.take i).flatten ++ row.take j) ++ ([t] ++ (row.drop (j + 1) ++ (rows.drop (i + 1)).flatten)) := by
    rw [e1]; conv => lhs; rw [erow]
    simp [List.append_assoc]
  have lx : ((rows.take i).flatten ++ row.take j).length = i * sz + j := by rw [List.length_append, e2, List.length_take, Nat.min_eq_left (by omega)]
  rw [eold] at h9
  obtain ⟨G1, G2, G3, g1, g2, g3, a12, a13, a23, r1, r2, r3⟩ := RdL.split3 h9
  rw [lx] at r1 r2 r3
  have hin : i * sz + sz ≤ us.length := by
    have : (i + 1) * sz ≤ len * sz := Nat.mul_le_mul_right _ (by omega)
    rw [Nat.succ_mul] at this; omega
  have huj : us[i * sz + j]? = some v := by
    have hlt : i * sz + j < us.length := by omega
    rw [List.getElem?_eq_getElem hlt, ← hv, h5 _ _ (List.getElem?_eq_getElem hlt)]
  have hone : (us.drop (i * sz + j)).take [t].length = [v] := by
    have hlt : i * sz + j < us.length := by omega
    rw [List.drop_eq_getElem_cons hlt]
    rw [List.getElem?_eq_getElem hlt] at huj
    simp [Option.some.inj huj]
  rw [hone] at r2
  have hvt : Rd w ok v t G2 := by cases r2 with | cons k1 k2 k3 k4 k5 => exact k4.mono k1
  refine ⟨G2, g2.trans h7, hvt, h8.sub (Sub.refl _) g2, ?_⟩
  have edead : row.set j .dead = row.take j ++ ([Tr.dead] ++ row.drop (j + 1)) := by
    rw [List.set_eq_take_append_cons_drop, if_pos hjl]; rfl
  have enew : (rows.set i (row.set j .dead)).flatten = ((rows.take i).flatten ++ row.take j) ++ ([Tr.dead] ++ (row.drop (j + 1) ++ (rows.drop (i + 1)).flatten)) := by
    rw [flatten_set h3 hi, edead]; simp [List.append_assoc]
  refine .own (vs := us) (G := Or G1 G3) (by simpa using h1) h2 ?_ h4 h5 ?_ ?_ ?_ ?_
  · intro r hr
    rcases List.mem_or_eq_of_mem_set hr with hr | rfl
    · exact h3 r hr
    · simpa using hrow
  · intro q hq
    obtain ⟨k1, k2, k3⟩ := h6 q hq
    exact ⟨⟨k1, fun hg => h8 _ _ ⟨rfl, by omega, by omega⟩ (g2 _ _ hg)⟩, k2, k3⟩
  · rintro x p (hx | hx)
    · exact ⟨h7 _ _ (g1 _ _ hx), fun hg => a12 _ _ hx hg⟩
    · exact ⟨h7 _ _ (g3 _ _ hx), fun hg => a23 _ _ hg hx⟩
  · exact (Apart.or (h8.symm.sub g1 (Sub.refl _)) (h8.symm.sub g3 (Sub.refl _))).symm
  · rw [enew]
    have eus : us = us.take (i * sz + j) ++ ([v] ++ us.drop (i * sz + j + 1)) := by
      have hlt : i * sz + j < us.length := by omega
      rw [List.getElem?_eq_getElem hlt] at huj
      rw [List.singleton_append, ← Option.some.inj huj, ← List.drop_eq_getElem_cons hlt, List.take_append_drop]
    rw [eus]
    exact RdL.join (F1 := G1) (F2 := G3) (Sub.or_l _ _) (Sub.or_r _ _) a13 r1 (RdL.join (F1 := Cells.none) (Sub.none _) (Sub.refl _) (Apart.none_l _) (.cons (F1 := Cells.none) (F2 := Cells.none) (Sub.none _) (Sub.none _) (Apart.none_l _) .dead .nil) (by simpa using r3))

/-- an array of ours that lies within another is taken out of it -/
theorem Rel.giveNst (h : Rel w0 FA ok0 E N σ a w L) {l : List (SV × Value)} (hh : Hand w0 FA σ w L l) {k : Nat} {r : Root} {nver i j e : Nat} {t : Tr} {v : Value} (hk : l[k]? = some (.nst r nver i j e t, v))
    (hv : nver = σ.nver r) {c : Nat × List (List Tr)} (hc : σ.content r = some c) {row : List Tr} (hi : c.2[i]? = some row) {sz : Nat} {rows : List (List Tr)} (hj : row[j]? = some (.sl true sz rows)) :
    ∃ L', Rel w0 FA ok0 E N (σ.bump.setRowsQ r c.1 (c.2.set i (row.set j .dead))) a w L' ∧ Hand w0 FA (σ.bump.setRowsQ r c.1 (c.2.set i (row.set j .dead))) w L' (l.set k (.tr none (.sl true sz rows), v)) := by
  obtain ⟨G, hG⟩ := hh
  obtain ⟨csz, crows⟩ := c
  simp only at hi
  have hs := hG.rel k _ v hk
  have hb := h.bump
  have hGb := hG.bump
  have hcb : σ.bump.content r = some (csz, crows) := by cases r <;> exact hc
  obtain ⟨vr, hvr, hR, e1, e2, hd⟩ := hb.root_rd hcb
  obtain ⟨b, o, hbase, hlt, hat⟩ : ∃ b o, (L.row r).base = some (b, o) ∧ i * (L.row r).sz + j < (L.row r).cap * (L.row r).sz ∧ World.at w b (o + (i * (L.row r).sz + j)) = some v := by
    cases hs with | nst _ _ _ h4 => exact h4 hv
  rcases hR with ⟨b', p', hb', hle, rfl⟩ | ⟨hb', _⟩
  · have hbb : (b', p') = (b, o) := by have : (L.row r).base = some (b', p') := hb'; rw [hbase] at this; exact (Option.some.inj this).symm
    cases hbb
    have e1' : (L.row r).sz = csz := e1
    rw [e1'] at hat
    obtain ⟨Gt, g1, g2, g3, g4⟩ := hd.own_take hi hj hat
    have hix : Lay.at { L with sn := Cells.none } r.ix = L.at r.ix := by cases r <;> rfl
    rw [hix] at g1 g4
    have hRel := hb.setRowQ hcb (rows' := crows.set i (row.set j .dead)) (by simp) (F' := fun x p => L.at r.ix x p ∧ ¬ Gt x p)
      (fun v' hv' _ => by rw [hvr] at hv'; cases hv'; exact g4)
      (fun q hq x p hx hy => h.sep r.ix q (Ne.symm hq) x p hx.1 (by have : Lay.at { L with sn := Cells.none } q = L.at q := by cases q <;> rfl
                                                                    rw [this] at hy; exact hy))
      (fun x p hx hy => h.okap r.ix x p hx hy.1) (fun x p hx => h.live r.ix x p hx.1)
    refine ⟨_, hRel, ?_⟩
    have hat2 : ∀ q, Sub (Lay.at (Lay.setF { L with sn := Cells.none } r (fun x p => L.at r.ix x p ∧ ¬ Gt x p)) q) (L.at q) := by
      intro q
      by_cases e : q = r.ix
      · subst e; rw [setF_at_eq]; exact fun x p hx => hx.1
      · rw [setF_at_ne _ _ _ e]; intro x p hx; cases q <;> exact hx
    have later : Later σ.bump w { L with sn := Cells.none } (σ.bump.setRowsQ r csz (crows.set i (row.set j .dead))) w (Lay.setF { L with sn := Cells.none } r (fun x p => L.at r.ix x p ∧ ¬ Gt x p)) := by
      rw [setRowsQ_N]
      exact
      { ver := fun r' => by rw [setRowsN_ver]; exact Nat.le_refl _
        row := fun r' _ => by rw [setF_row]
        nver := fun r' => Nat.le_refl _
        nst := fun r' _ => by rw [setF_row]; exact ⟨rfl, fun _ _ _ _ _ => rfl⟩
        bver := fun b => by rw [setRowsN_bver]; exact Nat.le_refl _
        loc := fun b _ => by rw [setF_loc]
        ep := by rw [setRowsN_ep]; exact Nat.le_refl _
        sn := fun _ => by rw [setF_sn]; exact ⟨Sub.refl _, Same.refl _ _⟩
        ok := by rw [setF_ok]; exact Sub.refl _
        okw := Same.refl _ _ }
    refine ⟨_, HandG.upd (F := Gt) (hGb.later later (fun _ => Same.refl _ _) (fun q x => (hG.ap q x).sub (Sub.refl _) (hat2 x)) (fun q => by rw [setF_ok]; exact hG.okap q) (by rw [setF_sn]; exact Sub.refl _) (Nat.le_refl _)) (.tr (by rw [setF_ok]; exact g2)) (by rw [setF_sn]; exact Apart.none_l _) (fun q _ => (hG.ap q r.ix).sub (Sub.refl _) g1) ?_ (by rw [setF_ok]; exact (h.okap r.ix).sub (Sub.refl _) g1) (fun x p hx => h.live r.ix x p (g1 x p hx))⟩
    intro q x p hx hy
    by_cases eq : q = r.ix
    · subst eq; rw [setF_at_eq] at hy; exact hy.2 hx
    · exact h.sep r.ix q (Ne.symm eq) x p (g1 x p hx) (hat2 q x p hy)
  · have : (L.row r).base = none := hb'
    rw [hbase] at this; cases this
end
end Go.Mv
