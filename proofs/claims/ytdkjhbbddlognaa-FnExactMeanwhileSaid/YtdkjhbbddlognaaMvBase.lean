/-
  A part of a theory of trees by which the functions of the program are walked: it proves no statement of the seat by itself; no conditions.
-/
import Derived.Calls
import Derived.Orders
import Derived.Laws.World
namespace Go.Mv

/-- a set of cells: block, offset -/
abbrev Cells := Nat → Nat → Prop

def Cells.none : Cells := fun _ _ => False
def Apart (F G : Cells) : Prop := ∀ b o, F b o → G b o → False
def Sub (F G : Cells) : Prop := ∀ b o, F b o → G b o
def Or (F G : Cells) : Cells := fun b o => F b o ∨ G b o

theorem Apart.symm {F G : Cells} (h : Apart F G) : Apart G F := fun b o g f => h b o f g
theorem Apart.sub {F G F' G' : Cells} (h : Apart F G) (hf : Sub F' F) (hg : Sub G' G) : Apart F' G' := fun b o f g => h b o (hf b o f) (hg b o g)
theorem Sub.refl (F : Cells) : Sub F F := fun _ _ h => h
theorem Sub.trans {F G H : Cells} (h : Sub F G) (h' : Sub G H) : Sub F H := fun b o f => h' b o (h b o f)
theorem Sub.none (F : Cells) : Sub Cells.none F := fun _ _ h => h.elim
theorem Apart.none_l (F : Cells) : Apart Cells.none F := fun _ _ h => h.elim
theorem Apart.none_r (F : Cells) : Apart F Cells.none := fun _ _ _ h => h.elim
theorem Sub.or_l (F G : Cells) : Sub F (Or F G) := fun _ _ h => .inl h
theorem Sub.or_r (F G : Cells) : Sub G (Or F G) := fun _ _ h => .inr h
theorem Sub.or {F G H : Cells} (h : Sub F H) (h' : Sub G H) : Sub (Or F G) H := fun b o x => x.elim (h b o) (h' b o)
theorem Apart.or {F G H : Cells} (h : Apart F H) (h' : Apart G H) : Apart (Or F G) H := fun b o x y => x.elim (fun f => h b o f y) (fun g => h' b o g y)

/-- a value without an address in it, of one cell -/
def flat : Value → Bool
  | .bool _ | .int _ _ | .pointer none | .nilFunc => true
  | .string s => decide (s.size ≤ 9223372036854775807)
  | _ => false

/-- what memory holds, as a tree -/
inductive Tr where
  | sc (v : Value)
  | sl (own : Bool) (sz : Nat) (rows : List (List Tr))
  | iface (isNil : Bool)
  | fn (f : FuncId) (caps : List Tr)
  | agg (cs : List Tr)
  | dead
  deriving Inhabited

def World.at (w : World) (b o : Nat) : Option Value := w.cell? ⟨b, o, none⟩
def World.fz (w : World) (b o : Nat) : Bool := w.frozen? ⟨b, o, none⟩

/-- the cells of a slice's array: n from o on -/
def seg (b o n : Nat) : Cells := fun b' o' => b' = b ∧ o ≤ o' ∧ o' < o + n

mutual
/-- in w the value v reads as the tree; F bounds what is owned; what is borrowed lies in ok -/
inductive Rd (w : World) (ok : Cells) : Value → Tr → Cells → Prop
  | sc {v F} : flat v = true → Rd w ok v (.sc v) F
  | dead {v F} : Rd w ok v .dead F
  | inil {F} : Rd w ok .nilIface (.iface true) F
  | iface {t v F} : Rd w ok (.iface t v) (.iface false) F
  | fn {f caps vs F} : RdL w ok vs caps Cells.none → Rd w ok (.func (.func f) #[] vs.toArray) (.fn f caps) F
  | agg {cs vs F} : RdL w ok vs cs F → Rd w ok (.agg vs.toArray) (.agg cs) F
  | nil {own sz F} : Rd w ok (.slice none 0 0) (.sl own sz []) F
  | own {b o len cap sz rows vs F G} :
      rows.length = len → (len ≤ cap ∧ len ≤ 9223372036854775807) → (∀ r ∈ rows, r.length = sz) → vs.length = len * sz →
      (∀ i v, vs[i]? = some v → World.at w b (o + i) = some v) →
      (∀ i, i < cap * sz → F b (o + i) ∧ (World.at w b (o + i)).isSome ∧ World.fz w b (o + i) = false) →
      Sub G F → Apart (seg b o (cap * sz)) G → RdL w ok vs rows.flatten G →
      Rd w ok (.slice (some ⟨b, o, none⟩) len cap) (.sl true sz rows) F
  | own0 {a F sz} : Rd w ok (.slice (some a) 0 0) (.sl true sz []) F
  | bor {b o len cap sz rows vs F} :
      rows.length = len → (len ≤ cap ∧ len ≤ 9223372036854775807) → (∀ r ∈ rows, r.length = sz) → vs.length = len * sz →
      (∀ i v, vs[i]? = some v → World.at w b (o + i) = some v ∧ ok b (o + i)) →
      RdL w ok vs rows.flatten Cells.none →
      Rd w ok (.slice (some ⟨b, o, none⟩) len cap) (.sl false sz rows) F
  | bor0 {a cap F sz} : Rd w ok (.slice a 0 cap) (.sl false sz []) F
inductive RdL (w : World) (ok : Cells) : List Value → List Tr → Cells → Prop
  | nil {F} : RdL w ok [] [] F
  | cons {v vs t ts F F1 F2} : Sub F1 F → Sub F2 F → Apart F1 F2 → Rd w ok v t F1 → RdL w ok vs ts F2 → RdL w ok (v :: vs) (t :: ts) F
end

theorem RdL.mono {w ok vs ts F F'} (h : RdL w ok vs ts F) (hs : Sub F F') : RdL w ok vs ts F' := by
  cases h with
  | nil => exact .nil
  | cons h1 h2 h3 h4 h5 => exact .cons (h1.trans hs) (h2.trans hs) h3 h4 h5

theorem Rd.mono {w ok v t F F'} (h : Rd w ok v t F) (hs : Sub F F') : Rd w ok v t F' := by
  cases h with
  | sc h => exact .sc h
  | dead => exact .dead
  | inil => exact .inil
  | iface => exact .iface
  | fn h => exact .fn h
  | agg h => exact .agg (h.mono hs)
  | nil => exact .nil
  | own h1 h2 h3 h4 h5 h6 h7 h8 h9 => exact .own h1 h2 h3 h4 h5 (fun i hi => ⟨hs _ _ (h6 i hi).1, (h6 i hi).2⟩) (h7.trans hs) h8 h9
  | own0 => exact .own0
  | bor h1 h2 h3 h4 h5 h6 => exact .bor h1 h2 h3 h4 h5 h6
  | bor0 => exact .bor0

/-- w' holds on the cells of F and ok what w held there -/
def Same (w w' : World) (F : Cells) : Prop := ∀ b o, F b o → World.at w' b o = World.at w b o ∧ World.fz w' b o = World.fz w b o

theorem Same.sub {w w' F G} (h : Same w w' F) (hs : Sub G F) : Same w w' G := fun b o g => h b o (hs b o g)

mutual
theorem Rd.keep {w w' : World} {ok v t F} (hok : Same w w' ok) : Rd w ok v t F → Same w w' F → Rd w' ok v t F
  | .sc h, _ => .sc h
  | .dead, _ => .dead
  | .inil, _ => .inil
  | .iface, _ => .iface
  | .fn h, _ => .fn (RdL.keep hok h (fun _ _ h => h.elim))
  | .agg h, hF => .agg (RdL.keep hok h hF)
  | .nil, _ => .nil
  | .own0, _ => .own0
  | .bor0, _ => .bor0
  | .own (b := b) (o := o) h1 h2 h3 h4 h5 h6 h7 h8 h9, hF => .own h1 h2 h3 h4
      (fun i v hv => by
        have hi : i < _ := (List.getElem?_eq_some_iff.1 hv).1
        rw [h4] at hi
        have := h6 i (Nat.lt_of_lt_of_le hi (Nat.mul_le_mul_right _ h2.1))
        rw [(hF _ _ this.1).1]; exact h5 i v hv)
      (fun i hi => by
        obtain ⟨a, b', c⟩ := h6 i hi
        exact ⟨a, by rw [(hF _ _ a).1]; exact b', by rw [(hF _ _ a).2]; exact c⟩)
      h7 h8 (RdL.keep hok h9 (hF.sub h7))
  | .bor h1 h2 h3 h4 h5 h6, _ => .bor h1 h2 h3 h4 (fun i v hv => by
        obtain ⟨a, b'⟩ := h5 i v hv
        exact ⟨by rw [(hok _ _ b').1]; exact a, b'⟩) (RdL.keep hok h6 (fun _ _ h => h.elim))
theorem RdL.keep {w w' : World} {ok vs ts F} (hok : Same w w' ok) : RdL w ok vs ts F → Same w w' F → RdL w' ok vs ts F
  | .nil, _ => .nil
  | .cons h1 h2 h3 h4 h5, hF => .cons h1 h2 h3 (Rd.keep hok h4 (hF.sub h1)) (RdL.keep hok h5 (hF.sub h2))
end

mutual
theorem Rd.okmono {w : World} {ok ok' : Cells} {v t F} (hs : Sub ok ok') : Rd w ok v t F → Rd w ok' v t F
  | .sc h => .sc h
  | .dead => .dead
  | .inil => .inil
  | .iface => .iface
  | .fn h => .fn (RdL.okmono hs h)
  | .agg h => .agg (RdL.okmono hs h)
  | .nil => .nil
  | .own0 => .own0
  | .bor0 => .bor0
  | .own h1 h2 h3 h4 h5 h6 h7 h8 h9 => .own h1 h2 h3 h4 h5 h6 h7 h8 (RdL.okmono hs h9)
  | .bor h1 h2 h3 h4 h5 h6 => .bor h1 h2 h3 h4 (fun i v hv => ⟨(h5 i v hv).1, hs _ _ (h5 i v hv).2⟩) (RdL.okmono hs h6)
theorem RdL.okmono {w : World} {ok ok' : Cells} {vs ts F} (hs : Sub ok ok') : RdL w ok vs ts F → RdL w ok' vs ts F
  | .nil => .nil
  | .cons h1 h2 h3 h4 h5 => .cons h1 h2 h3 (Rd.okmono hs h4) (RdL.okmono hs h5)
end

mutual
/-- the same tree, lent: nothing in it is owned -/
def bor : Tr → Tr
  | .sl _ sz rows => .sl false sz (borLL rows)
  | .sc v => .sc v
  | .iface b => .iface b
  | .fn f cs => .fn f cs
  | .agg cs => .agg (borL cs)
  | .dead => .dead
def borL : List Tr → List Tr
  | [] => []
  | t :: ts => bor t :: borL ts
def borLL : List (List Tr) → List (List Tr)
  | [] => []
  | r :: rs => borL r :: borLL rs
end

theorem borL_eq (l : List Tr) : borL l = l.map bor := by induction l <;> simp [borL, *]
theorem borLL_eq (l : List (List Tr)) : borLL l = l.map (·.map bor) := by induction l <;> simp [borLL, borL_eq, *]
@[simp] theorem bor_sl (o : Bool) (sz : Nat) (rows : List (List Tr)) : bor (.sl o sz rows) = .sl false sz (rows.map (·.map bor)) := by simp [bor, borLL_eq]
@[simp] theorem bor_sc (v : Value) : bor (.sc v) = .sc v := by simp [bor]
@[simp] theorem bor_iface (b : Bool) : bor (.iface b) = .iface b := by simp [bor]
@[simp] theorem bor_fn (f : FuncId) (cs : List Tr) : bor (.fn f cs) = .fn f cs := by simp [bor]
@[simp] theorem bor_agg (cs : List Tr) : bor (.agg cs) = .agg (cs.map bor) := by simp [bor, borL_eq]
@[simp] theorem bor_dead : bor .dead = .dead := by simp [bor]

mutual
theorem Rd.lend {w : World} {ok v t F} : Rd w ok v t F → Rd w (Or ok F) v (bor t) Cells.none
  | .sc h => by rw [bor_sc]; exact .sc h
  | .dead => by rw [bor_dead]; exact .dead
  | .inil => by rw [bor_iface]; exact .inil
  | .iface => by rw [bor_iface]; exact .iface
  | .fn h => by rw [bor_fn]; exact .fn (RdL.okmono (Sub.or_l _ _) h)
  | .agg h => by rw [bor_agg]; exact .agg (RdL.lend h)
  | .nil => by rw [bor_sl]; exact .nil
  | .own0 => by rw [bor_sl]; exact .bor0
  | .bor0 => by rw [bor_sl]; exact .bor0
  | .own (vs := vs) h1 h2 h3 h4 h5 h6 h7 h8 h9 => by
      rw [bor_sl]
      refine .bor (vs := vs) (by simpa using h1) h2 ?_ h4 ?_ ?_
      · intro r hr
        obtain ⟨r', hr', rfl⟩ := List.mem_map.1 hr
        simpa using h3 r' hr'
      · intro i v hv
        have hi : i < _ := (List.getElem?_eq_some_iff.1 hv).1
        rw [h4] at hi
        exact ⟨h5 i v hv, .inr (h6 i (Nat.lt_of_lt_of_le hi (Nat.mul_le_mul_right _ h2.1))).1⟩
      · rw [← List.map_flatten]
        exact RdL.okmono (Sub.or (Sub.or_l _ _) (h7.trans (Sub.or_r _ _))) (RdL.lend h9)
  | .bor (vs := vs) h1 h2 h3 h4 h5 h6 => by
      rw [bor_sl]
      refine .bor (vs := vs) (by simpa using h1) h2 ?_ h4 (fun i v hv => ⟨(h5 i v hv).1, .inl (h5 i v hv).2⟩) ?_
      · intro r hr
        obtain ⟨r', hr', rfl⟩ := List.mem_map.1 hr
        simpa using h3 r' hr'
      · rw [← List.map_flatten]
        exact RdL.okmono (Sub.or (Sub.or_l _ _) (Sub.none _)) (RdL.lend h6)
theorem RdL.lend {w : World} {ok vs ts F} : RdL w ok vs ts F → RdL w (Or ok F) vs (ts.map Mv.bor) Cells.none
  | .nil => .nil
  | .cons h1 h2 h3 h4 h5 => by
      rw [List.map_cons]
      exact .cons (Sub.none _) (Sub.none _) (Apart.none_l _)
        (Rd.okmono (Sub.or (Sub.or_l _ _) (h1.trans (Sub.or_r _ _))) (Rd.lend h4))
        (RdL.okmono (Sub.or (Sub.or_l _ _) (h2.trans (Sub.or_r _ _))) (RdL.lend h5))
end

theorem RdL.length {w ok vs ts F} (h : RdL w ok vs ts F) : vs.length = ts.length := by
  induction ts generalizing vs F with
  | nil => cases h; rfl
  | cons t ts ih => cases h with | cons _ _ _ _ h5 => simp [ih h5]

theorem RdL.get {w : World} {ok vs ts F} (h : RdL w ok vs ts F) : ∀ (i : Nat) (v : Value) (t : Tr), vs[i]? = some v → ts[i]? = some t → Rd w ok v t F := by
  induction ts generalizing vs F with
  | nil => intro i v t _ h; simp at h
  | cons t ts ih =>
    cases h with
    | cons h1 h2 h3 h4 h5 =>
      intro i v t' hv ht
      cases i with
      | zero => simp at hv ht; subst hv; subst ht; exact h4.mono h1
      | succ i => simp at hv ht; exact (ih h5 i v t' hv ht).mono h2

theorem RdL.app {w : World} {ok : Cells} : ∀ {ts us vs F}, RdL w ok vs (ts ++ us) F →
    ∃ F1 F2, Sub F1 F ∧ Sub F2 F ∧ Apart F1 F2 ∧ RdL w ok (vs.take ts.length) ts F1 ∧ RdL w ok (vs.drop ts.length) us F2
  | [], us, vs, F, h => ⟨Cells.none, F, Sub.none _, Sub.refl _, Apart.none_l _, by simp; exact .nil, by simpa using h⟩
  | t :: ts, us, vs, F, h => by
    cases h with
    | cons h1 h2 h3 h4 h5 =>
      rename_i v vs F1 F2
      obtain ⟨G1, G2, s1, s2, s3, s4, s5⟩ := RdL.app h5
      refine ⟨Or F1 G1, G2, Sub.or h1 (s1.trans h2), s2.trans h2, Apart.or (h3.sub (Sub.refl _) s2) s3, ?_, ?_⟩
      · simp only [List.length_cons, List.take_succ_cons]
        exact .cons (Sub.or_l _ _) (Sub.or_r _ _) (h3.sub (Sub.refl _) s1) h4 s4
      · simpa using s5

theorem RdL.join {w : World} {ok : Cells} : ∀ {ts us vs ws F1 F2 F}, Sub F1 F → Sub F2 F → Apart F1 F2 → RdL w ok vs ts F1 → RdL w ok ws us F2 → RdL w ok (vs ++ ws) (ts ++ us) F
  | [], us, vs, ws, F1, F2, F, h1, h2, h3, h4, h5 => by cases h4; simpa using h5.mono h2
  | t :: ts, us, vs, ws, F1, F2, F, h1, h2, h3, h4, h5 => by
    cases h4 with
    | cons a1 a2 a3 a4 a5 =>
      rename_i v vs G1 G2
      refine .cons (F1 := G1) (F2 := Or G2 F2) (a1.trans h1) (Sub.or (a2.trans h1) h2) ?_ a4 (RdL.join (Sub.or_l _ _) (Sub.or_r _ _) (h3.sub a2 (Sub.refl _)) a5 h5)
      exact (Apart.or a3.symm ((h3.sub a1 (Sub.refl _)).symm)).symm

theorem RdL.row {w : World} {ok : Cells} {sz : Nat} : ∀ {rows : List (List Tr)} {vs F}, RdL w ok vs rows.flatten F → (∀ r ∈ rows, r.length = sz) →
    ∀ (i : Nat) (row : List Tr), rows[i]? = some row → ∃ G, Sub G F ∧ RdL w ok ((vs.drop (i * sz)).take sz) row G
  | [], vs, F, h, hs, i, row, hi => by simp at hi
  | r :: rows, vs, F, h, hs, i, row, hi => by
    have hr : r.length = sz := hs r (by simp)
    rw [List.flatten_cons] at h
    obtain ⟨F1, F2, s1, s2, s3, s4, s5⟩ := RdL.app h
    cases i with
    | zero =>
      simp at hi; subst hi
      exact ⟨F1, s1, by simpa [hr] using s4⟩
    | succ i =>
      simp at hi
      obtain ⟨G, g1, g2⟩ := RdL.row s5 (fun r' h' => hs r' (by simp [h'])) i row hi
      refine ⟨G, g1.trans s2, ?_⟩
      rw [List.drop_drop, hr] at g2
      rwa [Nat.succ_mul, Nat.add_comm (i * sz) sz]

theorem Rd.own_inv {w ok v sz rows F} (h : Rd w ok v (.sl true sz rows) F) :
    (rows = [] ∧ ∃ a, v = .slice a 0 0) ∨ ∃ b o len cap vs G, v = .slice (some ⟨b, o, none⟩) len cap ∧ rows.length = len ∧ (len ≤ cap ∧ len ≤ 9223372036854775807) ∧ (∀ r ∈ rows, r.length = sz) ∧ vs.length = len * sz ∧
      (∀ i v, vs[i]? = some v → World.at w b (o + i) = some v) ∧ (∀ i, i < cap * sz → F b (o + i) ∧ (World.at w b (o + i)).isSome ∧ World.fz w b (o + i) = false) ∧
      Sub G F ∧ Apart (seg b o (cap * sz)) G ∧ RdL w ok vs rows.flatten G := by
  cases h with
  | nil => exact .inl ⟨rfl, _, rfl⟩
  | own0 => exact .inl ⟨rfl, _, rfl⟩
  | own h1 h2 h3 h4 h5 h6 h7 h8 h9 => exact .inr ⟨_, _, _, _, _, _, rfl, h1, h2, h3, h4, h5, h6, h7, h8, h9⟩

theorem Rd.bor_inv {w ok v sz rows F} (h : Rd w ok v (.sl false sz rows) F) :
    (rows = [] ∧ ∃ a cap, v = .slice a 0 cap) ∨ ∃ b o len cap vs, v = .slice (some ⟨b, o, none⟩) len cap ∧ rows.length = len ∧ (len ≤ cap ∧ len ≤ 9223372036854775807) ∧ (∀ r ∈ rows, r.length = sz) ∧ vs.length = len * sz ∧
      (∀ i v, vs[i]? = some v → World.at w b (o + i) = some v ∧ ok b (o + i)) ∧ RdL w ok vs rows.flatten Cells.none := by
  cases h with
  | nil => exact .inl ⟨rfl, _, _, rfl⟩
  | bor0 => exact .inl ⟨rfl, _, _, rfl⟩
  | bor h1 h2 h3 h4 h5 h6 => exact .inr ⟨_, _, _, _, _, rfl, h1, h2, h3, h4, h5, h6⟩

theorem Rd.sl_le {w ok v own sz rows F} (h : Rd w ok v (.sl own sz rows) F) : rows.length ≤ 9223372036854775807 := by
  cases own with
  | true =>
    rcases h.own_inv with ⟨rfl, a, rfl⟩ | ⟨b, o, len, cap, vs, G, rfl, h1, h2, _⟩
    · simp
    · omega
  | false =>
    rcases h.bor_inv with ⟨rfl, a, cap, rfl⟩ | ⟨b, o, len, cap, vs, rfl, h1, h2, _⟩
    · simp
    · omega

theorem Rd.fn_inv {w ok v f cs F} (h : Rd w ok v (.fn f cs) F) : ∃ vs : List Value, v = .func (.func f) #[] vs.toArray ∧ RdL w ok vs cs Cells.none := by
  cases h with | fn h => exact ⟨_, rfl, h⟩

theorem Rd.sl_len {w ok v own sz rows F} (h : Rd w ok v (.sl own sz rows) F) : ∃ a cap, v = .slice a rows.length cap := by
  cases own with
  | true =>
    rcases h.own_inv with ⟨rfl, a, rfl⟩ | ⟨b, o, len, cap, vs, G, rfl, h1, _⟩
    · exact ⟨_, _, rfl⟩
    · exact ⟨_, _, by rw [h1]⟩
  | false =>
    rcases h.bor_inv with ⟨rfl, a, cap, rfl⟩ | ⟨b, o, len, cap, vs, rfl, h1, _⟩
    · exact ⟨_, _, rfl⟩
    · exact ⟨_, _, by rw [h1]⟩

theorem flatten_len {α : Type} {sz : Nat} : ∀ {l : List (List α)}, (∀ r ∈ l, r.length = sz) → l.flatten.length = l.length * sz
  | [], _ => by simp
  | r :: l, h => by
    rw [List.flatten_cons, List.length_append, flatten_len (fun r' hr => h r' (by simp [hr])), h r (by simp), List.length_cons, Nat.succ_mul, Nat.add_comm]

theorem RdL.rows {w : World} {ok : Cells} {sz : Nat} {rows : List (List Tr)} {vs F} (h : RdL w ok vs rows.flatten F) (hs : ∀ r ∈ rows, r.length = sz) (i n : Nat) (hi : i + n ≤ rows.length) :
    ∃ G, Sub G F ∧ RdL w ok ((vs.drop (i * sz)).take (n * sz)) ((rows.drop i).take n).flatten G := by
  have e1 : rows = rows.take i ++ rows.drop i := (List.take_append_drop _ _).symm
  have e2 : rows.drop i = (rows.drop i).take n ++ (rows.drop i).drop n := (List.take_append_drop _ _).symm
  rw [e1, List.flatten_append] at h
  obtain ⟨F1, F2, s1, s2, s3, s4, s5⟩ := RdL.app h
  have l1 : (rows.take i).flatten.length = i * sz := by
    rw [flatten_len (fun r hr => hs r (List.mem_of_mem_take hr)), List.length_take, Nat.min_eq_left (by omega)]
  rw [l1, e2, List.flatten_append] at s5
  obtain ⟨G1, G2, q1, q2, q3, q4, q5⟩ := RdL.app s5
  have l2 : ((rows.drop i).take n).flatten.length = n * sz := by
    rw [flatten_len (fun r hr => hs r (List.mem_of_mem_drop (List.mem_of_mem_take hr))), List.length_take, List.length_drop, Nat.min_eq_left (by omega)]
  rw [l2] at q4
  exact ⟨G1, q1.trans s2, q4⟩

end Go.Mv
