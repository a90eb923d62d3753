/-
  A part of a theory of trees by which the functions of the program are walked: it proves no statement of the seat by itself; no conditions.
-/
import Derived.Test.YtdkjhbbddlognaaMvStore
namespace Go.Mv
set_option linter.unusedVariables false
set_option linter.unusedSimpArgs false

def Lay.setF (L : Lay) (r : Root) (F : Cells) : Lay :=
  match r with
  | .slot d => { L with slotF := fun i => if i = d then F else L.slotF i }
  | .cell b j => { L with cellF := fun b' j' => if b' = b ∧ j' = j then F else L.cellF b' j' }
  | .arg i j => { L with argF := fun i' j' => if i' = i ∧ j' = j then F else L.argF i' j' }

theorem setF_at_eq (L : Lay) (r : Root) (F : Cells) : (L.setF r F).at r.ix = F := by cases r <;> simp [Lay.setF, Root.ix, Lay.at]
theorem setF_at_ne (L : Lay) (r : Root) (F : Cells) {i : Ix} (h : i ≠ r.ix) : (L.setF r F).at i = L.at i := by
  cases r <;> cases i <;> simp_all [Lay.setF, Root.ix, Lay.at]
  all_goals (rename_i b j b' j'; intro h1 h2; exact absurd h2 (h h1))
theorem ix_ne {r r' : Root} (h : r ≠ r') : r'.ix ≠ r.ix := fun e => h (Root.ix_inj e.symm)
theorem setF_row (L : Lay) (r : Root) (F : Cells) : (L.setF r F).row = L.row := by cases r <;> rfl
theorem setF_loc (L : Lay) (r : Root) (F : Cells) : (L.setF r F).loc = L.loc := by cases r <;> rfl
theorem setF_len (L : Lay) (r : Root) (F : Cells) : (L.setF r F).len = L.len := by cases r <;> rfl
theorem setF_ok (L : Lay) (r : Root) (F : Cells) : (L.setF r F).ok = L.ok := by cases r <;> rfl
theorem setF_sn (L : Lay) (r : Root) (F : Cells) : (L.setF r F).sn = L.sn := by cases r <;> rfl

/-- the trees of an array of ours are told anew, with what of it falls -/
def St.setRowsN (σ : St) (r : Root) (sz : Nat) (rows : List (List Tr)) (nv : Root → Nat) : St := { σ.setRows r sz rows with nver := nv }

theorem setRowsN_ver (σ : St) (r : Root) (sz : Nat) (rows : List (List Tr)) (nv : Root → Nat) : (σ.setRowsN r sz rows nv).ver = σ.ver := by cases r <;> rfl
theorem setRowsN_bver (σ : St) (r : Root) (sz : Nat) (rows : List (List Tr)) (nv : Root → Nat) : (σ.setRowsN r sz rows nv).bver = σ.bver := by cases r <;> rfl
theorem setRowsN_ep (σ : St) (r : Root) (sz : Nat) (rows : List (List Tr)) (nv : Root → Nat) : (σ.setRowsN r sz rows nv).ep = σ.ep := by cases r <;> rfl

section
variable {w0 : World} {FA ok0 : Cells} {E : Ent} {N : Nat} {σ : St} {a : Act} {w : World} {L : Lay}

theorem Rel.sn_row (h : Rel w0 FA ok0 E N σ a w L) {r : Root} {sz : Nat} {rows : List (List Tr)} (hc : σ.content r = some (sz, rows)) : Apart L.sn (L.row r).seg := by
  obtain ⟨e1, e2, v, hv, hR⟩ := h.roots r sz rows hc
  have key : Apart L.sn (segV sz v) → Apart L.sn (L.row r).seg := fun hap x o h1 h2 => hap x o h1 (by rw [← e1]; exact (hR.seg x o).1 h2)
  cases r with
  | slot d =>
    have hs := content_slot.1 hc
    simp only [rootVal, Option.some.injEq] at hv; subst hv
    have := h.snapS d
    rw [hs] at this
    exact key (by simpa [tops, topT] using this)
  | cell b j =>
    obtain ⟨cs, hb, hj⟩ := content_cell.1 hc
    obtain ⟨v', e, _, _, hap⟩ := (h.boxes b cs hb).2 j _ hj
    simp only [rootVal] at hv; rw [e] at hv; cases hv
    exact key (by simpa [tops, topT] using hap)
  | arg i j =>
    simp only [rootVal, Option.some.injEq] at hv; subst hv
    exact key (h.args i j sz rows hc).2

/-- an array of ours is written, or only told of anew -/
theorem Rel.rowsSet (h : Rel w0 FA ok0 E N σ a w L) {r : Root} {sz : Nat} {rows rows' : List (List Tr)} (hc : σ.content r = some (sz, rows)) (hlen : rows'.length = rows.length) {w' : World} {F' : Cells} {nv : Root → Nat}
    (hsz : w'.heap.size = w.heap.size) (hk : Keeps FA w0 w') (hsame : ∀ x p, ¬ (L.row r).seg x p → World.at w' x p = World.at w x p ∧ World.fz w' x p = World.fz w x p)
    (hrd : ∀ v, rootVal E a w L r = some v → rowIs v (L.row r) → Rd w' L.ok v (.sl true sz rows') F')
    (hap : ∀ i, i ≠ r.ix → Apart F' (L.at i)) (hok : Apart L.ok F') (hlive : ∀ b o, F' b o → b < w.heap.size ∧ (FA b o ∨ w0.heap.size ≤ b))
    (hn1 : ∀ r', r' ≠ r → nv r' = σ.nver r') (hn2 : σ.nver r ≤ nv r) (hn3 : nv r = σ.nver r → ∀ x p, World.at w' x p = World.at w x p) :
    Rel w0 FA ok0 E N (σ.setRowsN r sz rows' nv) a w' (L.setF r F') := by
  have hsub := h.seg_sub hc
  have hsnr := h.sn_row hc
  obtain ⟨e1, e2, vr, hvr, hRr⟩ := h.roots r sz rows hc
  have hnew := hrd vr hvr hRr
  have sameF : ∀ F : Cells, Apart F (L.row r).seg → Same w w' F := fun F hF x p hx => hsame x p fun hs => hF x p hx hs
  have hat : ∀ i, i ≠ r.ix → Same w w' (L.at i) := fun i hi => sameF _ ((h.sep i r.ix hi).sub (Sub.refl _) hsub)
  have hsok : Same w w' L.ok := sameF _ ((h.okap r.ix).sub (Sub.refl _) hsub)
  have hssn : Same w w' L.sn := sameF _ hsnr
  have later : Later σ w L (σ.setRowsN r sz rows' nv) w' (L.setF r F') :=
    { ver := fun r' => by rw [setRowsN_ver]; exact Nat.le_refl _
      row := fun r' _ => by rw [setF_row]
      nver := fun r' => by
        show σ.nver r' ≤ nv r'
        by_cases e : r' = r
        · rw [e]; exact hn2
        · rw [hn1 r' e]; exact Nat.le_refl _
      nst := fun r' hr' => by
        rw [setF_row]
        refine ⟨rfl, fun b o hb k hkk => ?_⟩
        by_cases e : r' = r
        · subst e; exact hn3 hr' b (o + k)
        · cases hcc : σ.content r' with
          | none => rw [h.norow r' hcc] at hb; cases hb
          | some c =>
            obtain ⟨sz2, rows2⟩ := c
            refine (hsame b (o + k) fun hs => ?_).1
            exact h.sep r'.ix r.ix (fun hh => e (Root.ix_inj hh)) _ _ (h.seg_sub hcc b (o + k) ⟨b, o, hb, rfl, by omega, by omega⟩) (hsub _ _ hs)
      bver := fun b => by rw [setRowsN_bver]; exact Nat.le_refl _
      loc := fun b _ => by rw [setF_loc]
      ep := by rw [setRowsN_ep]; exact Nat.le_refl _
      sn := fun _ => by rw [setF_sn]; exact ⟨Sub.refl _, hssn⟩
      ok := by rw [setF_ok]; exact Sub.refl _
      okw := hsok }
  have hrow' : ∀ v, rootVal E a w L r = some v → v = vr := fun v hv => by rw [hvr] at hv; cases hv; rfl
  have htop : Apart L.sn (segV sz vr) := fun x o h1 h2 => hsnr x o h1 ((hRr.seg x o).2 (by rw [e1]; exact h2))
  -- the new contents
  have hslot : ∀ d, (r = .slot d ∧ (σ.setRowsN r sz rows' nv).slot d = .tr none (.sl true sz rows')) ∨ (r ≠ .slot d ∧ (σ.setRowsN r sz rows' nv).slot d = σ.slot d) := by
    intro d
    cases r with
    | slot e =>
      by_cases hd : d = e
      · subst hd; exact .inl ⟨rfl, by simp [St.setRowsN, St.setRows]⟩
      · exact .inr ⟨by simp; exact fun x => hd x.symm, by simp [St.setRowsN, St.setRows, hd]⟩
    | cell b j => exact .inr ⟨by simp, rfl⟩
    | arg i j => exact .inr ⟨by simp, rfl⟩
  have hbox : ∀ b cs, (σ.setRowsN r sz rows' nv).box b = some cs → ∃ cs0, σ.box b = some cs0 ∧ cs.length = cs0.length ∧
      ∀ j s, cs[j]? = some s → (r = .cell b j ∧ s = .tr none (.sl true sz rows')) ∨ (r ≠ .cell b j ∧ cs0[j]? = some s) := by
    intro b cs hb
    cases r with
    | slot e => exact ⟨cs, hb, rfl, fun j s hj => .inr ⟨by simp, hj⟩⟩
    | arg i j => exact ⟨cs, hb, rfl, fun j s hj => .inr ⟨by simp, hj⟩⟩
    | cell b0 j0 =>
      simp only [St.setRowsN, St.setRows] at hb
      by_cases e : b = b0
      · subst e
        simp only [if_true] at hb
        cases hb0 : σ.box b with
        | none => rw [hb0] at hb; simp at hb
        | some cs0 =>
          rw [hb0] at hb; simp at hb; subst hb
          refine ⟨cs0, rfl, by simp, fun j s hj => ?_⟩
          by_cases ej : j = j0
          · subst ej
            have hlt : j < cs0.length := by have := (List.getElem?_eq_some_iff.1 hj).1; simpa using this
            rw [List.getElem?_set_self hlt] at hj
            cases hj; exact .inl ⟨rfl, rfl⟩
          · rw [List.getElem?_set_ne (Ne.symm ej)] at hj
            exact .inr ⟨by simp; exact fun x => ej x.symm, hj⟩
      · simp only [e, if_false] at hb
        exact ⟨cs, hb, rfl, fun j s hj => .inr ⟨by simp; exact fun x => absurd x.symm e, hj⟩⟩
  have harg : ∀ i j, (r = .arg i j ∧ (σ.setRowsN r sz rows' nv).arg i j = some (sz, rows')) ∨ (r ≠ .arg i j ∧ (σ.setRowsN r sz rows' nv).arg i j = σ.arg i j) := by
    intro i j
    cases r with
    | slot e => exact .inr ⟨by simp, rfl⟩
    | cell b j => exact .inr ⟨by simp, rfl⟩
    | arg i0 j0 =>
      by_cases hd : i = i0 ∧ j = j0
      · obtain ⟨rfl, rfl⟩ := hd; exact .inl ⟨rfl, by simp [St.setRowsN, St.setRows]⟩
      · exact .inr ⟨by simp; intro x y; exact hd ⟨x.symm, y.symm⟩, by simp [St.setRowsN, St.setRows, hd]⟩
  have hrv : ∀ r', rootVal E a w' (L.setF r F') r' = rootVal E a w L r' ∨ σ.content r' = none := by
    intro r'
    cases r' with
    | slot d => exact .inl rfl
    | arg i j => exact .inl rfl
    | cell b j =>
      cases hcc : σ.content (.cell b j) with
      | none => exact .inr rfl
      | some c =>
        obtain ⟨cs, hb, hj⟩ := content_cell.1 hcc
        have hj' : j < L.len b := by have := (List.getElem?_eq_some_iff.1 hj).1; have := (h.boxes b cs hb).1; omega
        left
        simp only [rootVal, setF_loc]
        exact (hat (.m b j) (by cases r <;> simp [Root.ix]) _ _ ⟨hj', rfl, rfl⟩).1
  have hcont : ∀ r' c, (σ.setRowsN r sz rows' nv).content r' = some c → (r' = r ∧ c = (sz, rows')) ∨ (r' ≠ r ∧ σ.content r' = some c) := by
    intro r' c hcc
    cases r' with
    | slot d =>
      have := content_slot.1 (show (σ.setRowsN r sz rows' nv).content (.slot d) = some (c.1, c.2) from hcc)
      rcases hslot d with ⟨rfl, e⟩ | ⟨hne, e⟩
      · rw [e] at this; cases this; exact .inl ⟨rfl, rfl⟩
      · rw [e] at this; exact .inr ⟨Ne.symm hne, content_slot.2 this⟩
    | arg i j =>
      have hcc' : (σ.setRowsN r sz rows' nv).arg i j = some c := hcc
      rcases harg i j with ⟨rfl, e⟩ | ⟨hne, e⟩
      · rw [e] at hcc'; cases hcc'; exact .inl ⟨rfl, rfl⟩
      · rw [e] at hcc'; exact .inr ⟨Ne.symm hne, hcc'⟩
    | cell b j =>
      obtain ⟨cs, hb, hj⟩ := content_cell.1 (show (σ.setRowsN r sz rows' nv).content (.cell b j) = some (c.1, c.2) from hcc)
      obtain ⟨cs0, hb0, _, hcs⟩ := hbox b cs hb
      rcases hcs j _ hj with ⟨rfl, e⟩ | ⟨hne, e⟩
      · cases e; exact .inl ⟨rfl, rfl⟩
      · exact .inr ⟨Ne.symm hne, content_cell.2 ⟨cs0, hb0, e⟩⟩
  have hkeepc : ∀ r', σ.content r' ≠ none → (σ.setRowsN r sz rows' nv).content r' ≠ none := by
    intro r' hne
    cases hcc : σ.content r' with
    | none => exact absurd hcc hne
    | some c =>
      cases r' with
      | slot d =>
        have := content_slot.1 (show σ.content (.slot d) = some (c.1, c.2) from hcc)
        rcases hslot d with ⟨rfl, e⟩ | ⟨hn, e⟩
        · rw [content_slot.2 e]; simp
        · rw [content_slot.2 (e.trans this)]; simp
      | arg i j =>
        have hcc' : σ.arg i j = some c := hcc
        rcases harg i j with ⟨rfl, e⟩ | ⟨hn, e⟩
        · simp only [St.content, e]; simp
        · simp only [St.content, e, hcc']; simp
      | cell b j =>
        obtain ⟨cs, hb, hj⟩ := content_cell.1 (show σ.content (.cell b j) = some (c.1, c.2) from hcc)
        cases r with
        | slot e => rw [show (σ.setRowsN (.slot e) sz rows' nv).content (.cell b j) = σ.content (.cell b j) from rfl, hcc]; simp
        | arg i j => rw [show (σ.setRowsN (.arg i j) sz rows' nv).content (.cell b _) = σ.content (.cell b _) from rfl, hcc]; simp
        | cell b0 j0 =>
          by_cases e : b = b0
          · subst e
            by_cases ej : j = j0
            · subst ej
              have hlt := (List.getElem?_eq_some_iff.1 hj).1
              rw [content_cell.2 ⟨cs.set j (.tr none (.sl true sz rows')), by simp [St.setRowsN, St.setRows, hb], by rw [List.getElem?_set_self hlt]⟩]; simp
            · rw [content_cell.2 ⟨cs.set j0 (.tr none (.sl true sz rows')), by simp [St.setRowsN, St.setRows, hb], by rw [List.getElem?_set_ne (Ne.symm ej)]; exact hj⟩]; simp
          · rw [content_cell.2 ⟨cs, by simp [St.setRowsN, St.setRows, e, hb], hj⟩]; simp
  exact
  { size := h.size
    defers := h.defers
    slots := fun d => by
      rcases hslot d with ⟨rfl, e⟩ | ⟨hne, e⟩
      · rw [e]
        simp only [rootVal, Option.some.injEq] at hvr; subst hvr
        have : (L.setF (.slot d) F').slotF d = F' := setF_at_eq L (.slot d) F'
        rw [this]; exact .tr hnew
      · rw [e]
        have : (L.setF r F').slotF d = L.slotF d := setF_at_ne L r F' (i := .s d) (ix_ne hne)
        rw [this]
        exact SRel.later later (h.slots d) (hat (.s d) (ix_ne hne))
    args := fun i j sz2 rows2 hi => by
      rw [setF_ok, setF_sn]
      rcases harg i j with ⟨rfl, e⟩ | ⟨hne, e⟩
      · rw [e] at hi; cases hi
        simp only [rootVal, Option.some.injEq] at hvr; subst hvr
        have : (L.setF (.arg i j) F').argF i j = F' := setF_at_eq L (.arg i j) F'
        rw [this]; exact ⟨hnew, htop⟩
      · rw [e] at hi
        have hi2 : Ix.a i j ≠ r.ix := ix_ne hne
        have : (L.setF r F').argF i j = L.argF i j := setF_at_ne L r F' (i := .a i j) hi2
        rw [this]
        exact ⟨Rd.keep hsok (h.args i j sz2 rows2 hi).1 (hat (.a i j) hi2), (h.args i j sz2 rows2 hi).2⟩
    ploc := fun b hb => by rw [setF_loc]; exact h.ploc b (by rw [setRowsN_bver] at hb; exact hb)
    boxes := fun b cs hb => by
      obtain ⟨cs0, hb0, hl, hcs⟩ := hbox b cs hb
      rw [setF_len, setF_loc, setF_sn]
      refine ⟨by rw [hl]; exact (h.boxes b cs0 hb0).1, fun j s hj => ?_⟩
      have hjl : j < L.len b := by have := (List.getElem?_eq_some_iff.1 hj).1; have := (h.boxes b cs0 hb0).1; omega
      have hm := hat (.m b j) (by cases r <;> simp [Root.ix]) _ _ ⟨hjl, rfl, rfl⟩
      rcases hcs j s hj with ⟨rfl, rfl⟩ | ⟨hne, e⟩
      · obtain ⟨cs1, hb1, hj1⟩ := content_cell.1 hc
        rw [hb0] at hb1; cases hb1
        obtain ⟨v, a1, a2, a3, a4⟩ := (h.boxes b cs0 hb0).2 j _ hj1
        have hvv : v = vr := hrow' v (by simp only [rootVal]; exact a1)
        subst hvv
        have : (L.setF (.cell b j) F').cellF b j = F' := setF_at_eq L (.cell b j) F'
        rw [this]
        exact ⟨v, by rw [hm.1]; exact a1, by rw [hm.2]; exact a2, .tr hnew, by simpa [tops, topT] using htop⟩
      · obtain ⟨v, a1, a2, a3, a4⟩ := (h.boxes b cs0 hb0).2 j _ e
        have hi2 : Ix.c b j ≠ r.ix := ix_ne hne
        have : (L.setF r F').cellF b j = L.cellF b j := setF_at_ne L r F' (i := .c b j) hi2
        rw [this]
        exact ⟨v, by rw [hm.1]; exact a1, by rw [hm.2]; exact a2, SRel.later later a3 (hat (.c b j) hi2), a4⟩
    roots := fun r' sz2 rows2 hcc => by
      rw [setF_row]
      rcases hcont r' _ hcc with ⟨rfl, e⟩ | ⟨hne, e⟩
      · cases e
        rcases hrv r' with e3 | e3
        · exact ⟨e1, by rw [hlen]; exact e2, vr, by rw [e3]; exact hvr, hRr⟩
        · rw [hc] at e3; cases e3
      · obtain ⟨x, y, v, hv, z⟩ := h.roots r' sz2 rows2 e
        rcases hrv r' with e3 | e3
        · exact ⟨x, y, v, by rw [e3]; exact hv, z⟩
        · rw [e] at e3; cases e3
    norow := fun r' hcc => by
      rw [setF_row]
      apply h.norow
      cases hcc2 : σ.content r' with
      | none => rfl
      | some c => exact absurd hcc (hkeepc r' (by rw [hcc2]; simp))
    sep := fun i j hij => by
      by_cases hi : i = r.ix
      · subst hi
        rw [setF_at_eq, setF_at_ne L r F' (Ne.symm hij)]
        exact hap j (Ne.symm hij)
      · rw [setF_at_ne L r F' hi]
        by_cases hj : j = r.ix
        · subst hj; rw [setF_at_eq]; exact (hap i hi).symm
        · rw [setF_at_ne L r F' hj]; exact h.sep i j hij
    okap := fun i => by
      rw [setF_ok]
      by_cases hi : i = r.ix
      · subst hi; rw [setF_at_eq]; exact hok
      · rw [setF_at_ne L r F' hi]; exact h.okap i
    snapS := fun d => by
      rw [setF_sn]
      rcases hslot d with ⟨rfl, e⟩ | ⟨hne, e⟩
      · rw [e]
        simp only [rootVal, Option.some.injEq] at hvr; subst hvr
        simpa [tops, topT] using htop
      · rw [e]; exact h.snapS d
    snapM := fun b j => by rw [setF_sn, setF_at_ne L r F' (i := .m b j) (by cases r <;> simp [Root.ix])]; exact h.snapM b j
    live := fun i b o hx => by
      rw [hsz]
      by_cases hi : i = r.ix
      · subst hi; rw [setF_at_eq] at hx; exact hlive b o hx
      · rw [setF_at_ne L r F' hi] at hx; exact h.live i b o hx
    liveS := fun b o hx => by rw [hsz]; exact h.liveS b o (by rw [setF_sn] at hx; exact hx)
    liveO := fun b o hx => by rw [hsz]; exact h.liveO b o (by rw [setF_ok] at hx; exact hx)
    keeps := hk }
end
end Go.Mv
